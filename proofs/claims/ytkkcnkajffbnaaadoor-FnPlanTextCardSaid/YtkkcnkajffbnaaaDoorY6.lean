/-
  The program's ParsePlan tells the deeds that a text tells, in a row of its own.
-/
import Derived.Test.YtkkcnkajffbnaaaDoorY5
import Derived.Test.YtkkcnkajffbnaaaDoorV7
namespace Go.Proofs.YtkkcnkajffbnaaaDoor
open Go.RowKit Go.Shelf
attribute [local go_sem] Oper.semAt_some

theorem results_26 {tmps : Array Value} {W : World} {x y : Nat} {u v : Value} (hx : tmps[2]? = some (.pointer (some ⟨x, 0, none⟩))) (hy : tmps[3]? = some (.pointer (some ⟨y, 0, none⟩))) (hu : Boxed W x 30 u) (hv : Boxed W y 4 v) (h1 : ∃ a n c, u = .slice a n c) (h2 : ∃ b, v = .bool b) :
    (results Tryd.f26 tmps).run Tryd.prog W = .ok (.tuple #[u, v]) W := by
  have c1 := hu.cell
  have c2 := hv.cell
  obtain ⟨a, n, c, rfl⟩ := h1
  obtain ⟨b, rfl⟩ := h2
  simp [results, Tryd.f26, go_sem, c1, c2, hx, hy]

theorem actOf_n {t : List UInt8} {a : List UInt8} {x y : Int} {n : Nat} (h : actOf t = some (a, x, y, n)) : n = 1 ∨ n = 2 := by
  unfold actOf at h
  split at h
  · rename_i b c _
    cases hb : numOf c with
    | none => rw [hb] at h; cases h
    | some v => rw [hb] at h; simp at h; exact .inl h.2.2.2.symm
  · rename_i b c d _
    cases hb : numOf c with
    | none => rw [hb] at h; cases h
    | some v =>
      cases hc : numOf d with
      | none => rw [hb, hc] at h; cases h
      | some u => rw [hb, hc] at h; simp at h; exact .inr h.2.2.2.symm
  · cases h
theorem three_one (d : Dd) : ∀ u ∈ d.cells, u.oneCell' = true := by
  intro u hu
  simp [Dd.cells] at hu
  rcases hu with rfl | rfl | rfl <;> rfl

set_option maxRecDepth 100000 in
set_option maxHeartbeats 2000000 in
theorem implPP (s : ByteArray) (w : World) (hn : s.size ≤ 1048576) (hE : EnvQ w) :
    Calls Tryd.prog 26 #[.string s] w fun e w' => ∃ v, e = .returned (.tuple #[v, .bool (parseP s.data.toList).isSome]) ∧ w'.ownsRow w.heap.size 47 3 v ((parseP s.data.toList).getD []).length (cellsOf ((parseP s.data.toList).getD [])) ∧ Below w.heap.size w w' := by
  obtain ⟨i0, hi, hz0, hz1, hz2⟩ := info_parts Tryd.info47
  have hsz : s.data.toList.length = s.size := Array.length_toList
  refine (callsIn_wide (n := 3)).1 ?_
  have hro : Fence.wide.round = none := rfl
  by_cases hdash : s.data.toList = [45]
  · rw [hdash, parseP_dash]
    obtain rfl := bytes_ext hdash
    refine callsIn_of_wp_marks Tryd.func26 rfl trivial ?_ hro
    simp only [Tryd.ntmps26, List.size_toArray, List.length_cons, List.length_nil, Nat.reduceAdd, Nat.reduceSub, Array.replicate_succ, Array.replicate_zero, List.push_toArray, List.append_toArray, List.nil_append, List.cons_append]
    gi_wp2
    have k0 := Boxed.new w 30 (.slice (some ⟨w.heap.size + 1 + 1, 0, none⟩) 0 0)
    have k1 := Boxed.new (w.alloc (.cells #[.slice (some ⟨w.heap.size + 1 + 1, 0, none⟩) 0 0] 30)) 4 (.bool true)
    rw [World.size_alloc] at k1
    have k2 := ownsRow_empty ((w.alloc (.cells #[.slice (some ⟨w.heap.size + 1 + 1, 0, none⟩) 0 0] 30)).alloc (.cells #[.bool true] 4)) 47 3
    rw [World.size_alloc, World.size_alloc] at k2
    refine ⟨_, results_26 rfl rfl (((k0.alloc _).alloc _).alloc _) ((k1.alloc _).alloc _) ⟨_, _, _, rfl⟩ ⟨_, rfl⟩, _, rfl, ?_, ?_⟩
    · exact ownsRow_base (k2.alloc _) (by omega)
    · exact ((((Below.refl _ w).alloc (Nat.le_refl _) _).alloc (by simp) _).alloc (by simp; omega) _).alloc (by simp; omega) _
  · have hcmp : (s.toList == [45]) = false := by rw [Lib.toList_data]; simpa using hdash
    have hdone := fun ns => parseP_done (ns := ns) hdash
    have hbad := fun a b x => parseP_bad (a := a) (b := b) (x := x) hdash
    have hsp := Lib.hid (fun w => callsIn_wide (n := 2).2 (SplitSeq_any s 44 w))
    refine callsIn_of_wp_marks Tryd.func26 rfl trivial ?_ hro
    simp only [Tryd.ntmps26, List.size_toArray, List.length_cons, List.length_nil, Nat.reduceAdd, Nat.reduceSub, Array.replicate_succ, Array.replicate_zero, List.push_toArray, List.append_toArray, List.nil_append, List.cons_append]
    gi_wp2_with (refine ⟨trivial, ?_⟩; gi_at_call 42; refine (hsp.out _).mono ?_; rintro e w1 ⟨rfl, hw1⟩; subst hw1)
    obtain ⟨W0, hW0⟩ : ∃ W0, ((((w.alloc (.cells #[.slice none 0 0] 30)).alloc (.cells #[.bool false] 4)).alloc (.cells #[] 47)).alloc (.cells #[.slice (some ⟨w.heap.size + 1 + 1, 0, none⟩) 0 0] 30)) = W0 := ⟨_, rfl⟩
    have hs0 : W0.heap.size = w.heap.size + 4 := by rw [← hW0]; simp
    have hbx := splitW_boxes W0 s 44
    have hI0 : PnI w 30 47 3 0 [] (.slice (some ⟨w.heap.size + 1 + 1, 0, none⟩) 0 0) (splitW W0 s 44) := by
      have k0 := Boxed.new w 30 (.slice none 0 0)
      have k1 := Boxed.new (w.alloc (.cells #[.slice none 0 0] 30)) 4 (.bool false)
      rw [World.size_alloc] at k1
      have k2 := ownsRow_empty ((w.alloc (.cells #[.slice none 0 0] 30)).alloc (.cells #[.bool false] 4)) 47 3
      rw [World.size_alloc, World.size_alloc] at k2
      have k3 := Boxed.new (((w.alloc (.cells #[.slice none 0 0] 30)).alloc (.cells #[.bool false] 4)).alloc (.cells #[] 47)) 30 (.slice (some ⟨w.heap.size + 1 + 1, 0, none⟩) 0 0)
      rw [World.size_alloc, World.size_alloc, World.size_alloc] at k3
      have kb : Below w.heap.size w W0 := by rw [← hW0]; exact ((((Below.refl _ w).alloc (Nat.le_refl _) _).alloc (by simp) _).alloc (by simp; omega) _).alloc (by simp; omega) _
      have kb2 := splitW_below W0 s 44
      have j0 : Boxed W0 w.heap.size 30 (.slice none 0 0) := by rw [← hW0]; exact ((k0.alloc _).alloc _).alloc _
      have j1 : Boxed W0 (w.heap.size + 1) 4 (.bool false) := by rw [← hW0]; exact (k1.alloc _).alloc _
      have j2 : W0.ownsRow w.heap.size 47 3 (.slice (some ⟨w.heap.size + 1 + 1, 0, none⟩) 0 0) 0 [] := by rw [← hW0]; exact ownsRow_base (k2.alloc _) (by omega)
      have j3 : Boxed W0 (w.heap.size + 3) 30 (.slice (some ⟨w.heap.size + 1 + 1, 0, none⟩) 0 0) := by rw [← hW0]; exact k3
      refine ⟨(kb2.block _ j0.lt).trans j0, (kb2.block _ j1.lt).trans j1, (kb2.block _ j3.lt).trans j3, ownsRow_below j2 kb2 (Nat.le_refl _), by intro k h1 _ e; simp [Value.ownBlock] at e; omega, kb.trans (kb2.mono (by omega)), by rw [splitW_size]; omega⟩
    rw [hW0]
    have hz := splitW_size W0 s 44
    rw [show splitF (w.heap.size + 1 + 1 + 1 + 1) = splitF W0.heap.size by rw [hs0]]
    clear hW0
    rw [hs0] at hbx hz ⊢
    obtain ⟨W1, hW1⟩ : ∃ W1, splitW W0 s 44 = W1 := ⟨_, rfl⟩
    rw [hW1] at hbx hI0 hz ⊢
    clear hW1 hs0
    refine wpIn_rangeFunc_ownS hro (by omega) (gf := 68) (lb := #[.pointer (some ⟨w.heap.size + 4 + 1, 0, none⟩), .pointer (some ⟨w.heap.size + 4, 0, none⟩), .pointer (some ⟨w.heap.size + 4 + 2, 0, none⟩)]) rfl trivial (enters_of Tryd.func68 (by kernel_rfl) rfl)
      (split_stops 2 (by omega) (w.heap.size + 4) 44 s hn W1 (by omega) hbx.1 hbx.2.1 hbx.2.2) (fun h k => h.trans k) (fun W l o o' hl _ _ _ j _ h2 => World.putObj_heap_other (by omega)) (Below.refl _ _) (fun _ => rfl)
      (fun pre W => pre.length ≤ 12 ∧ ∃ ns v, Hid (allOk deedOf pre = some ns) ∧ PnI w 30 47 3 pre.length (cellsOf ns) v W)
      (fun c pre W => c = .ret ∧ (∃ a x, pre = a ++ [x] ∧ (deedOf x = none ∨ 12 ≤ a.length)) ∧ Boxed W w.heap.size 30 (.slice none 0 0) ∧ Boxed W (w.heap.size + 1) 4 (.bool false) ∧ Below w.heap.size w W)
      ?hI ?hIs ?hIx ?h0 ?a1 ?assign ?body ?done ?stop
    case hI =>
      rintro pre A B row ⟨hl, ns, v, hok, hP⟩ hg hr
      exact ⟨hl, ns, v, hok, hP.grown hg (fun r e => by have := hr r e; rw [hz] at this; exact ⟨by omega, this.2⟩)⟩
    case hIx =>
      rintro c pre A B row ⟨rfl, h1, h2, h3, h4⟩ hg hr
      exact ⟨rfl, h1, h2.kept hg (fun e => boxed_of_other h2 (hr _ e.symm).2 rfl), h3.kept hg (fun e => boxed_of_other h3 (hr _ e.symm).2 rfl), h4.grown hg h4.size (fun k e => by have := (hr k e).1; omega)⟩
    case hIs =>
      rintro pre A x ⟨hl, ns, v, hok, hP⟩
      exact ⟨hl, ns, v, hok, hP.split x⟩
    case h0 => exact ⟨by simp, [], _, rfl, hI0⟩
    case a1 => exact (fun x => { tmps := #[.string s, undef, .pointer (some ⟨w.heap.size, 0, none⟩), .pointer (some ⟨w.heap.size + 1, 0, none⟩), .pointer (some ⟨w.heap.size + 1 + 1 + 1, 0, none⟩), .string ⟨x.toArray⟩, undef, undef, undef, undef, .slice (some ⟨w.heap.size + 1 + 1, 0, none⟩) 0 0, .string s, .bool false, undef, .string s, splitF (w.heap.size + 4), .string ⟨x.toArray⟩, undef, undef, undef, undef, undef, undef, undef, undef, undef, undef, undef, undef, undef, undef, undef, undef, undef, undef, undef, undef, undef, undef, undef, undef, undef, undef, undef, undef, undef, undef, undef, undef, undef, undef, undef, undef, undef, undef, undef], defers := [] })
    case assign =>
      intro l x W K hK
      unfold strE
      gi_wp2
      exact hK
    case body =>
      rintro l pre x W ⟨hl, ns, v, hok, hP⟩ hpx
      have hnl : Hid (ns.length = pre.length) := allOk_length hok.out
      have hWs := hP.bel.size
      have hW7 := hP.sz
      have hact := Lib.hid (callsIn_wide (n := 0).2 (parseAct_any ⟨x.toArray⟩ W (by have h1 := cuts_mem (hpx.subset (by simp) : x ∈ cuts 44 s.data.toList); rw [hsz] at h1; show x.length ≤ _; omega) (hE.below hP.bel (Nat.le_refl _))))
      obtain ⟨av, cv, rfl⟩ : ∃ a c, v = .slice a pre.length c := by
        rcases hP.row.2 with ⟨rfl, h0⟩ | ⟨g, cap, cur, rfl, _⟩
        · rw [h0]; exact ⟨_, _, rfl⟩
        · exact ⟨_, _, rfl⟩
      cases hao : actOf x with
      | none =>
        rw [hao] at hact
        have hko : deedOf x = none := by unfold deedOf; rw [hao]; rfl
        clear hao
        gi_wp2_with (refine ⟨trivial, ?_⟩; gi_at_call 50; refine (CallsIn.inRound l hact.out).mono ?_; rintro e W2 ⟨he, hb2⟩; obtain ⟨z1, z2, rfl⟩ := he; have hP3 := (hP.below hb2).grown (World.grownBy_alloc W2 (.cells #[.int .i64 z1, .int .i64 z2] 70) none) (fun r e => by cases e); have j0 := hP3.b0.cell; have f0 := hP3.b0.frozen; have j1 := hP3.b1.cell; have f1 := hP3.b1.frozen; have j3 := hP3.b3.cell; have f3 := hP3.b3.frozen)
        refine ⟨trivial, ?_⟩
        gi_wp2
        all_goals exact badPost (p := fun y => deedOf y = none) hP (hb2.alloc hb2.size _) (.inl hko)
      | some q =>
        obtain ⟨a, z1, z2, n⟩ := q
        rw [hao] at hact
        have hn12 := actOf_n hao
        have hde : deedOf x = if actB a && ((needW a || z2 != 0) == (n == 2)) then some ⟨a, z1, z2⟩ else none := by unfold deedOf; rw [hao]; rfl
        have his := Lib.hid (fun w => callsIn_wide (n := 0).2 (isAct_any a w))
        have hnw := Lib.hid (fun w => callsIn_wide (n := 0).2 (needsWord_any a w))
        clear hao
        generalize actB a = ab at *
        generalize needW a = nw at *
        cases ab
        · have hko : deedOf x = none := by rw [hde]; rfl
          clear hde
          rcases hn12 with rfl | rfl
          all_goals
            gi_wp2_with (first
              | (refine ⟨trivial, ?_⟩; gi_at_call 50; refine (CallsIn.inRound l hact.out).mono ?_; rintro e W2 ⟨he, hb2⟩; subst he; have hP3 := (hP.below hb2).grown (World.grownBy_alloc W2 (.cells #[.int .i64 z1, .int .i64 z2] 70) none) (fun r e => by cases e); have j0 := hP3.b0.cell; have f0 := hP3.b0.frozen; have j1 := hP3.b1.cell; have f1 := hP3.b1.frozen; have j3 := hP3.b3.cell; have f3 := hP3.b3.frozen)
              | (refine ⟨trivial, ?_⟩; gi_at_call 51; refine (CallsIn.inRound l (his.out _)).mono ?_; rintro e w5 ⟨rfl, hw5⟩; subst hw5))
            all_goals exact badPost (p := fun y => deedOf y = none) hP (hb2.alloc hb2.size _) (.inl hko)
        by_cases h12 : pre.length = 12
        · have h12' : ((pre.length : Int) == 12) = true := by rw [h12]; rfl
          clear hde
          rcases hn12 with rfl | rfl
          all_goals
            gi_wp2_with (first
              | (refine ⟨trivial, ?_⟩; gi_at_call 50; refine (CallsIn.inRound l hact.out).mono ?_; rintro e W2 ⟨he, hb2⟩; subst he; have hP3 := (hP.below hb2).grown (World.grownBy_alloc W2 (.cells #[.int .i64 z1, .int .i64 z2] 70) none) (fun r e => by cases e); have j0 := hP3.b0.cell; have f0 := hP3.b0.frozen; have j1 := hP3.b1.cell; have f1 := hP3.b1.frozen; have j3 := hP3.b3.cell; have f3 := hP3.b3.frozen)
              | (refine ⟨trivial, ?_⟩; gi_at_call 51; refine (CallsIn.inRound l (his.out _)).mono ?_; rintro e w5 ⟨rfl, hw5⟩; subst hw5))
            all_goals exact badPost (p := fun y => deedOf y = none) hP (hb2.alloc hb2.size _) (.inr (by omega))
        have h12' : ((pre.length : Int) == 12) = false := beq_eq_false_iff_ne.2 (by omega)
        rcases hn12 with rfl | rfl
        · cases nw
          · by_cases hz : z2 = 0
            · have hzb : (z2 != 0) = false := by simp [hz]
              have hko : deedOf x = some ⟨a, z1, z2⟩ := by rw [hde, hz]; rfl
              clear hde hz
              gi_wp2_with (first
                | (refine ⟨trivial, ?_⟩; gi_at_call 50; refine (CallsIn.inRound l hact.out).mono ?_; rintro e W2 ⟨he, hb2⟩; subst he; have hP3 := (hP.below hb2).grown (World.grownBy_alloc W2 (.cells #[.int .i64 z1, .int .i64 z2] 70) none) (fun r e => by cases e); have j0 := hP3.b0.cell; have f0 := hP3.b0.frozen; have j1 := hP3.b1.cell; have f1 := hP3.b1.frozen; have j3 := hP3.b3.cell; have f3 := hP3.b3.frozen)
                | (refine ⟨trivial, ?_⟩; gi_at_call 51; refine (CallsIn.inRound l (his.out _)).mono ?_; rintro e w5 ⟨rfl, hw5⟩; subst hw5)
                | (refine ⟨trivial, ?_⟩; gi_at_call 37; refine (CallsIn.inRound l (hnw.out _)).mono ?_; rintro e w6 ⟨rfl, hw6⟩; subst hw6)
                | (gi_at_builtin; refine wpListIn_append_own_at _ rfl (.tmp 46) (.tmp 53) 30 rfl w.heap.size 47 i0 (.agg #[.string ⟨#[]⟩, .int .i64 0, .int .i64 0]) 3 32 Tryd.underlying30 hi hz0 hz1 hz2 rfl (by decide) _ _ _ rfl (hP3.row.alloc _) ⟨W2.heap.size + 1, 0, none⟩ 1 1 (⟨a, z1, z2⟩ : Dd).cells rfl rfl (by have := cell_three_new (W2.alloc (.cells #[.int .i64 z1, .int .i64 z2] 70)) ⟨a, z1, z2⟩ 47; rw [World.size_alloc] at this; exact this) (three_one _) (by unfold maxLen; omega) (by omega) (by have := hP3.bel.size; simp at this ⊢; omega) ?_; intro v' w1 hown' hgrow _ hob; obtain ⟨g', cap', rfl⟩ := ownsRow_succ hown'; obtain ⟨hv1, hv2, hr2, hk2, hb3⟩ := hP3.b3.appended (by decide) hP3.row hP3.bel.size (by omega) hown' hgrow; have hc1 := hv1.cell; have hf1 := hv1.frozen))
              obtain ⟨q1, q2, q3⟩ := hP3.appended (by decide) (by decide) hown' hgrow hob
              exact ⟨((keepsOthers_of_below hb2).trans (KeepsOthers.alloc _ _)).trans q2, (kpB_of_below (hb2.alloc hb2.size _) (by omega)).trans q3, by simp; omega, ns ++ [⟨a, z1, z2⟩], _, allOk_snoc hok.out hko, by rw [cellsOf_snoc]; simpa using q1⟩
            · have hzb : (z2 != 0) = true := by simp [hz]
              have hko : deedOf x = none := by rw [hde]; simp [hz]
              clear hde hz
              gi_wp2_with (first
                | (refine ⟨trivial, ?_⟩; gi_at_call 50; refine (CallsIn.inRound l hact.out).mono ?_; rintro e W2 ⟨he, hb2⟩; subst he; have hP3 := (hP.below hb2).grown (World.grownBy_alloc W2 (.cells #[.int .i64 z1, .int .i64 z2] 70) none) (fun r e => by cases e); have j0 := hP3.b0.cell; have f0 := hP3.b0.frozen; have j1 := hP3.b1.cell; have f1 := hP3.b1.frozen; have j3 := hP3.b3.cell; have f3 := hP3.b3.frozen)
                | (refine ⟨trivial, ?_⟩; gi_at_call 51; refine (CallsIn.inRound l (his.out _)).mono ?_; rintro e w5 ⟨rfl, hw5⟩; subst hw5)
                | (refine ⟨trivial, ?_⟩; gi_at_call 37; refine (CallsIn.inRound l (hnw.out _)).mono ?_; rintro e w6 ⟨rfl, hw6⟩; subst hw6))
              all_goals exact badPost (p := fun y => deedOf y = none) hP (hb2.alloc hb2.size _) (.inl hko)
          · have hko : deedOf x = none := by rw [hde]; rfl
            clear hde
            gi_wp2_with (first
              | (refine ⟨trivial, ?_⟩; gi_at_call 50; refine (CallsIn.inRound l hact.out).mono ?_; rintro e W2 ⟨he, hb2⟩; subst he; have hP3 := (hP.below hb2).grown (World.grownBy_alloc W2 (.cells #[.int .i64 z1, .int .i64 z2] 70) none) (fun r e => by cases e); have j0 := hP3.b0.cell; have f0 := hP3.b0.frozen; have j1 := hP3.b1.cell; have f1 := hP3.b1.frozen; have j3 := hP3.b3.cell; have f3 := hP3.b3.frozen)
              | (refine ⟨trivial, ?_⟩; gi_at_call 51; refine (CallsIn.inRound l (his.out _)).mono ?_; rintro e w5 ⟨rfl, hw5⟩; subst hw5)
              | (refine ⟨trivial, ?_⟩; gi_at_call 37; refine (CallsIn.inRound l (hnw.out _)).mono ?_; rintro e w6 ⟨rfl, hw6⟩; subst hw6))
            all_goals exact badPost (p := fun y => deedOf y = none) hP (hb2.alloc hb2.size _) (.inl hko)
        · cases nw
          · by_cases hz : z2 = 0
            · have hzb : (z2 != 0) = false := by simp [hz]
              have hko : deedOf x = none := by rw [hde, hz]; rfl
              clear hde hz
              gi_wp2_with (first
                | (refine ⟨trivial, ?_⟩; gi_at_call 50; refine (CallsIn.inRound l hact.out).mono ?_; rintro e W2 ⟨he, hb2⟩; subst he; have hP3 := (hP.below hb2).grown (World.grownBy_alloc W2 (.cells #[.int .i64 z1, .int .i64 z2] 70) none) (fun r e => by cases e); have j0 := hP3.b0.cell; have f0 := hP3.b0.frozen; have j1 := hP3.b1.cell; have f1 := hP3.b1.frozen; have j3 := hP3.b3.cell; have f3 := hP3.b3.frozen)
                | (refine ⟨trivial, ?_⟩; gi_at_call 51; refine (CallsIn.inRound l (his.out _)).mono ?_; rintro e w5 ⟨rfl, hw5⟩; subst hw5)
                | (refine ⟨trivial, ?_⟩; gi_at_call 37; refine (CallsIn.inRound l (hnw.out _)).mono ?_; rintro e w6 ⟨rfl, hw6⟩; subst hw6))
              all_goals exact badPost (p := fun y => deedOf y = none) hP (hb2.alloc hb2.size _) (.inl hko)
            · have hzb : (z2 != 0) = true := by simp [hz]
              have hko : deedOf x = some ⟨a, z1, z2⟩ := by rw [hde]; simp [hz]
              clear hde hz
              gi_wp2_with (first
                | (refine ⟨trivial, ?_⟩; gi_at_call 50; refine (CallsIn.inRound l hact.out).mono ?_; rintro e W2 ⟨he, hb2⟩; subst he; have hP3 := (hP.below hb2).grown (World.grownBy_alloc W2 (.cells #[.int .i64 z1, .int .i64 z2] 70) none) (fun r e => by cases e); have j0 := hP3.b0.cell; have f0 := hP3.b0.frozen; have j1 := hP3.b1.cell; have f1 := hP3.b1.frozen; have j3 := hP3.b3.cell; have f3 := hP3.b3.frozen)
                | (refine ⟨trivial, ?_⟩; gi_at_call 51; refine (CallsIn.inRound l (his.out _)).mono ?_; rintro e w5 ⟨rfl, hw5⟩; subst hw5)
                | (refine ⟨trivial, ?_⟩; gi_at_call 37; refine (CallsIn.inRound l (hnw.out _)).mono ?_; rintro e w6 ⟨rfl, hw6⟩; subst hw6)
                | (gi_at_builtin; refine wpListIn_append_own_at _ rfl (.tmp 46) (.tmp 53) 30 rfl w.heap.size 47 i0 (.agg #[.string ⟨#[]⟩, .int .i64 0, .int .i64 0]) 3 32 Tryd.underlying30 hi hz0 hz1 hz2 rfl (by decide) _ _ _ rfl (hP3.row.alloc _) ⟨W2.heap.size + 1, 0, none⟩ 1 1 (⟨a, z1, z2⟩ : Dd).cells rfl rfl (by have := cell_three_new (W2.alloc (.cells #[.int .i64 z1, .int .i64 z2] 70)) ⟨a, z1, z2⟩ 47; rw [World.size_alloc] at this; exact this) (three_one _) (by unfold maxLen; omega) (by omega) (by have := hP3.bel.size; simp at this ⊢; omega) ?_; intro v' w1 hown' hgrow _ hob; obtain ⟨g', cap', rfl⟩ := ownsRow_succ hown'; obtain ⟨hv1, hv2, hr2, hk2, hb3⟩ := hP3.b3.appended (by decide) hP3.row hP3.bel.size (by omega) hown' hgrow; have hc1 := hv1.cell; have hf1 := hv1.frozen))
              obtain ⟨q1, q2, q3⟩ := hP3.appended (by decide) (by decide) hown' hgrow hob
              exact ⟨((keepsOthers_of_below hb2).trans (KeepsOthers.alloc _ _)).trans q2, (kpB_of_below (hb2.alloc hb2.size _) (by omega)).trans q3, by simp; omega, ns ++ [⟨a, z1, z2⟩], _, allOk_snoc hok.out hko, by rw [cellsOf_snoc]; simpa using q1⟩
          · have hko : deedOf x = some ⟨a, z1, z2⟩ := by rw [hde]; rfl
            clear hde
            gi_wp2_with (first
              | (refine ⟨trivial, ?_⟩; gi_at_call 50; refine (CallsIn.inRound l hact.out).mono ?_; rintro e W2 ⟨he, hb2⟩; subst he; have hP3 := (hP.below hb2).grown (World.grownBy_alloc W2 (.cells #[.int .i64 z1, .int .i64 z2] 70) none) (fun r e => by cases e); have j0 := hP3.b0.cell; have f0 := hP3.b0.frozen; have j1 := hP3.b1.cell; have f1 := hP3.b1.frozen; have j3 := hP3.b3.cell; have f3 := hP3.b3.frozen)
              | (refine ⟨trivial, ?_⟩; gi_at_call 51; refine (CallsIn.inRound l (his.out _)).mono ?_; rintro e w5 ⟨rfl, hw5⟩; subst hw5)
              | (refine ⟨trivial, ?_⟩; gi_at_call 37; refine (CallsIn.inRound l (hnw.out _)).mono ?_; rintro e w6 ⟨rfl, hw6⟩; subst hw6)
              | (gi_at_builtin; refine wpListIn_append_own_at _ rfl (.tmp 46) (.tmp 53) 30 rfl w.heap.size 47 i0 (.agg #[.string ⟨#[]⟩, .int .i64 0, .int .i64 0]) 3 32 Tryd.underlying30 hi hz0 hz1 hz2 rfl (by decide) _ _ _ rfl (hP3.row.alloc _) ⟨W2.heap.size + 1, 0, none⟩ 1 1 (⟨a, z1, z2⟩ : Dd).cells rfl rfl (by have := cell_three_new (W2.alloc (.cells #[.int .i64 z1, .int .i64 z2] 70)) ⟨a, z1, z2⟩ 47; rw [World.size_alloc] at this; exact this) (three_one _) (by unfold maxLen; omega) (by omega) (by have := hP3.bel.size; simp at this ⊢; omega) ?_; intro v' w1 hown' hgrow _ hob; obtain ⟨g', cap', rfl⟩ := ownsRow_succ hown'; obtain ⟨hv1, hv2, hr2, hk2, hb3⟩ := hP3.b3.appended (by decide) hP3.row hP3.bel.size (by omega) hown' hgrow; have hc1 := hv1.cell; have hf1 := hv1.frozen))
            obtain ⟨q1, q2, q3⟩ := hP3.appended (by decide) (by decide) hown' hgrow hob
            exact ⟨((keepsOthers_of_below hb2).trans (KeepsOthers.alloc _ _)).trans q2, (kpB_of_below (hb2.alloc hb2.size _) (by omega)).trans q3, by simp; omega, ns ++ [⟨a, z1, z2⟩], _, allOk_snoc hok.out hko, by rw [cellsOf_snoc]; simpa using q1⟩
    case done =>
      rintro D ys W hD rfl ⟨hl, ns, v, hok, hP⟩ hK
      have hnl : Hid (ns.length = (cuts 44 s.data.toList).length) := allOk_length hok.out
      have hfin : Hid (parseP s.data.toList = some ns) := hdone ns hl hok.out
      have j0 := hP.b0.cell; have f0 := hP.b0.frozen; have j1 := hP.b1.cell; have f1 := hP.b1.frozen; have j3 := hP.b3.cell
      obtain ⟨av, cv, rfl⟩ : ∃ a c, v = .slice a (cuts 44 s.data.toList).length c := by
        rcases hP.row.2 with ⟨rfl, h0⟩ | ⟨g, cap, cur, rfl, _⟩
        · rw [h0]; exact ⟨_, _, rfl⟩
        · exact ⟨_, _, rfl⟩
      clear hbad hdone hsp
      gi_wp2
      have m0 : Boxed ((W.setCell ⟨w.heap.size, 0, none⟩ (.slice av (cuts 44 s.data.toList).length cv)).setCell ⟨w.heap.size + 1, 0, none⟩ (.bool true)) w.heap.size 30 (.slice av (cuts 44 s.data.toList).length cv) := (hP.b0.set _).kept (grownBy_setCell' _ _ _) (by simp)
      have m1 : Boxed ((W.setCell ⟨w.heap.size, 0, none⟩ (.slice av (cuts 44 s.data.toList).length cv)).setCell ⟨w.heap.size + 1, 0, none⟩ (.bool true)) (w.heap.size + 1) 4 (.bool true) := (hP.b1.kept (grownBy_setCell' _ _ _) (by simp)).set _
      have mr : ((W.setCell ⟨w.heap.size, 0, none⟩ (.slice av (cuts 44 s.data.toList).length cv)).setCell ⟨w.heap.size + 1, 0, none⟩ (.bool true)).ownsRow w.heap.size 47 3 (.slice av (cuts 44 s.data.toList).length cv) (cuts 44 s.data.toList).length (cellsOf ns) :=
        (hP.row.kept (grownBy_setCell' _ _ _) (.inr (hP.b0.not_row (by decide) hP.row).symm)).kept (grownBy_setCell' _ _ _) (.inr (hP.b1.not_row (by decide) hP.row).symm)
      have mb := (hP.bel.setCell (p := ⟨w.heap.size, 0, none⟩) (Nat.le_refl _) (.slice av (cuts 44 s.data.toList).length cv)).setCell (p := ⟨w.heap.size + 1, 0, none⟩) (by simp) (.bool true)
      have mK : ((W.setCell ⟨w.heap.size, 0, none⟩ (.slice av (cuts 44 s.data.toList).length cv)).setCell ⟨w.heap.size + 1, 0, none⟩ (.bool true)).heap[D]? = some (.deferred (some [])) := ((KeepsOthers.setCell _ _ _).trans (KeepsOthers.setCell _ _ _)).same D _ hK rfl
      refine ⟨by simp, .inl ⟨_, _, rfl, run_takeDeferred mK, ?_⟩⟩
      have hkp : ∀ {B : Nat} {t : TypeId} {u : Value}, Boxed _ B t u → Boxed _ B t u := fun hB => hB.kept (grownBy_putObj' _ D (.deferred none)) (fun e => boxed_of_other hB ⟨_, mK, rfl⟩ e)
      refine ⟨_, results_26 rfl rfl (hkp m0) (hkp m1) ⟨_, _, _, rfl⟩ ⟨_, rfl⟩, _, by rw [hfin.out]; rfl, by rw [hfin.out, Option.getD_some, hnl.out]; exact ownsRow_putObj mr _ mK rfl, mb.trans (belowK_b (w := w) (Nat.le_refl _) _ D _ _ (by omega) mK rfl rfl)⟩
    case stop =>
      rintro D c pre W hD hpre ⟨rfl, ⟨a, x, rfl, hx⟩, h2, h3, h4⟩ hK
      obtain ⟨r, hr⟩ := hpre
      have hfin : Hid (parseP s.data.toList = none) := hbad a r x (by rw [← hr]; simp) (hx.imp id (fun h => by rw [← hr]; simp; omega))
      clear hbad hdone hsp
      gi_wp2
      refine ⟨by simp, .inl ⟨_, _, rfl, run_takeDeferred hK, ?_⟩⟩
      have hkp : ∀ {B : Nat} {t : TypeId} {u : Value}, Boxed _ B t u → Boxed _ B t u := fun hB => hB.kept (grownBy_putObj' _ D (.deferred none)) (fun e => boxed_of_other hB ⟨_, hK, rfl⟩ e)
      refine ⟨_, results_26 rfl rfl (hkp h2) (hkp h3) ⟨_, _, _, rfl⟩ ⟨_, rfl⟩, _, by rw [hfin.out]; rfl, by rw [hfin.out]; exact World.ownsRow_nil _ _ _ _, h4.trans (belowK_b (w := w) (Nat.le_refl _) W D _ _ (by omega) hK rfl rfl)⟩
end Go.Proofs.YtkkcnkajffbnaaaDoor
