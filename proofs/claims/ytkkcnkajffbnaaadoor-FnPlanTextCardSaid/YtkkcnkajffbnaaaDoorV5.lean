/-
  The reference's ParseNumbers tells the list that a text tells, in a row of its own.
-/
import Derived.Test.YtkkcnkajffbnaaaDoorV4
import Derived.Test.YtkkcnkajffbnaaaDoorT5
namespace Go.Proofs.YtkkcnkajffbnaaaDoor
open Go.RowKit

theorem ownsRow_base {w : World} {b b' e size n : Nat} {v : Value} {xs : List Value} (h : w.ownsRow b e size v n xs) (hb : b' ≤ b) : w.ownsRow b' e size v n xs := by
  obtain ⟨h1, h2⟩ := h
  refine ⟨h1, ?_⟩
  rcases h2 with h2 | ⟨g, cap, cur, e1, e2, e3⟩
  · exact .inl h2
  · exact .inr ⟨g, cap, cur, e1, Nat.le_trans hb e2, e3⟩

set_option maxRecDepth 100000 in
theorem l1In_any (n lo hi : Int) (w : World) : Calls Tryd.prog 41 #[.int .i64 n, .int .i64 lo, .int .i64 hi] w fun e w' => e = .returned (.bool (decide (lo ≤ n) && decide (n ≤ hi))) ∧ w = w' := by
  by_cases h : lo ≤ n
  · go_enter Tryd.func41, Tryd.ntmps41
    go_wp2
    go_ret
    exact ⟨by simp [h], rfl⟩
  · go_enter Tryd.func41, Tryd.ntmps41
    go_wp2
    go_ret
    exact ⟨by simp; omega, rfl⟩

/-- The row of texts that l11Cut lays. -/
structure Texts (w : World) (g : Nat) (ws : List (List UInt8)) : Prop where
  lt : g < w.heap.size
  at' : ∀ k (h : k < ws.length), w.cell? ⟨g, k, none⟩ = some (.string ⟨ws[k].toArray⟩)
theorem Texts.block {w w' : World} {g : Nat} {ws : List (List UInt8)} (h : Texts w g ws) (hg : w'.heap[g]? = w.heap[g]?) : Texts w' g ws := by
  have hl := (Array.getElem?_eq_some_iff.1 (hg.trans (Array.getElem?_eq_getElem h.lt))).1
  refine ⟨hl, fun k hk => ?_⟩
  rw [← h.at' k hk]
  unfold World.cell?
  simp only [hg]
theorem Texts.below {w w' : World} {g B : Nat} {ws : List (List UInt8)} (h : Texts w g ws) (hb : Below B w w') (hB : w.heap.size ≤ B) : Texts w' g ws :=
  h.block (hb.block g (by have := h.lt; omega))
theorem texts_of {w : World} {base : Nat} {v : Value} {ws : List (List UInt8)} (h : w.ownsRow base 9 1 v ws.length (ws.map strV)) (hne : ws ≠ []) :
    ∃ g cap, v = .slice (some ⟨g, 0, none⟩) ws.length cap ∧ base ≤ g ∧ Texts w g ws := by
  obtain ⟨h1, ⟨_, h2⟩ | ⟨g, cap, cur, rfl, hb, hg, hcap, _, _, htake⟩⟩ := h
  · exact absurd (List.length_eq_zero_iff.1 h2) hne
  · refine ⟨g, cap, rfl, hb, (Array.getElem?_eq_some_iff.1 hg).1, fun k hk => ?_⟩
    have h3 : (cur.toList.take (ws.length * 1))[k]? = some (strV ws[k]) := by
      rw [htake]; simp [hk]
    rw [List.getElem?_take_of_lt (by omega)] at h3
    simp [World.cell?, hg]
    simpa [strV] using h3

theorem ret_pair {v : Value} {a b : Bool} (h : a = b) : Ending.returned (.tuple #[v, .bool a]) = Ending.returned (.tuple #[v, .bool b]) := by rw [h]

set_option maxRecDepth 100000 in
set_option maxHeartbeats 400000 in
theorem specPN (s : ByteArray) (w : World) (hn : s.size ≤ 1048576) :
    Calls Tryd.prog 18 #[.string s] w fun e w' => ∃ v, e = .returned (.tuple #[v, .bool (parseN s.data.toList).isSome]) ∧ w'.ownsRow w.heap.size 3 1 v ((parseN s.data.toList).getD []).length (((parseN s.data.toList).getD []).map (Value.int .i64)) ∧ Below w.heap.size w w' := by
  obtain ⟨i0, hi, hz0, hz1, hz2⟩ := info_parts Tryd.info3
  have hsz : s.data.toList.length = s.size := Array.length_toList
  by_cases hdash : s.data.toList = [45]
  · have hcmp : (s.toList == [45]) = true := by rw [Lib.toList_data, hdash]; rfl
    rw [hdash, parseN_dash]
    have hs : s = ⟨#[45]⟩ := by
      obtain ⟨⟨l⟩⟩ := s
      simp at hdash; subst hdash; rfl
    subst hs
    go_enter Tryd.func18, Tryd.ntmps18
    go_wp2
    go_ret2
    exact ⟨_, rfl, ownsRow_empty _ _ _, (Below.refl _ _).alloc (Nat.le_refl _) _⟩
  · have hcmp : (s.toList == [45]) = false := by rw [Lib.toList_data]; simpa using hdash
    have hcut := Lib.hid (fun w => l11Cut_any s 32 w hn)
    have hcl := cuts_length 32 s.data.toList
    have hcm : ∀ x ∈ cuts 32 s.data.toList, x.length ≤ 1048576 := fun x hx => by have := cuts_mem hx; omega
    have hdone := fun ns => parseN_done (ns := ns) hdash
    have hbad := fun a b x => parseN_bad (a := a) (b := b) (x := x) hdash
    have hne := cutGo_ne_nil 32 s.data.toList []
    change cuts 32 s.data.toList ≠ [] at hne
    generalize hws : cuts 32 s.data.toList = ws at *
    generalize hpn : parseN s.data.toList = pn at *
    go_enter Tryd.func18, Tryd.ntmps18
    go_wp2_with fail
    refine (hcut.out _).mono ?_
    rintro e w1 ⟨vf, rfl, hrow, hb1⟩
    obtain ⟨g, cap, rfl, hg, htx⟩ := texts_of hrow hne
    have hown1 := ownsRow_below (ownsRow_empty w 3 1) hb1 (Nat.le_refl _)
    have hb1' : Below w.heap.size w w1 := ((Below.refl _ w).alloc (Nat.le_refl _) _).trans (hb1.mono (by simp))
    have hgs : w.heap.size < g := by simp at hg; omega
    clear hrow hb1 hcut
    go_wp2
    go_loopw [4, 6] (fun v i wr => ∃ (k : Nat) (ns : List Int), k ≤ ws.length ∧ i = .int .i64 k ∧ Hid (allOk okN (ws.take k) = some ns) ∧ ns.length = k ∧ (0 < k → ws.length ≤ 40) ∧ wr.ownsRow w.heap.size 3 1 v k (ns.map (Value.int .i64)) ∧ v.ownBlock ≠ some g ∧ Texts wr g ws ∧ Below w.heap.size w wr) (fun _ i _ => ws.length - (intOf i).toNat)
    case atStart => exact ⟨0, [], Nat.zero_le _, rfl, rfl, rfl, by omega, hown1, by simp [Value.ownBlock]; omega, htx, hb1'⟩
    case round =>
      obtain ⟨k, ns, hk, rfl, hok, hnl, h40, hown, hnb, hT, hb⟩ := hrel
      by_cases hlt : k < ws.length
      · have hck := hT.at' k hlt
        have hbs := hb.size
        have hspl : ws = ws.take k ++ ws[k] :: ws.drop (k + 1) := by rw [← List.drop_eq_getElem_cons hlt, List.take_append_drop]
        have hnum := Lib.hid (l11Num_any ⟨ws[k].toArray⟩ wr (by have := hcm ws[k] (by simp); rw [bs_size]; omega))
        have hl1 := Lib.hid l1In_any
        simp only at hnum
        have hbad' := fun h => hbad _ _ _ hspl h
        clear hbad hspl hcm
        generalize hx : ws[k] = x at *
        unfold numRet at hnum
        cases hnx : numOf x with
        | none =>
          rw [hnx] at hnum
          have hfin : Hid (pn = none) := hbad' (.inl (by unfold okN; rw [hnx]; rfl))
          simp only [Option.getD_none, Option.isSome_none] at hnum
          clear hbad' hdone hnx hx
          go_wp2_with (go_at_call 40; refine hnum.out.mono ?_; rintro e w2 ⟨rfl, hb2⟩)
          go_ret2
          exact ⟨_, by rw [hfin.out]; rfl, by rw [hfin.out]; exact ownsRow_base (ownsRow_empty _ _ _) (by have := hb2.size; omega), (hb.trans (hb2.mono hbs)).alloc (by have := hb2.size; omega) _⟩
        | some z =>
          rw [hnx] at hnum
          simp only [Option.getD_some, Option.isSome_some] at hnum
          by_cases hr : -1000000 ≤ z ∧ z ≤ 1000000
          · obtain ⟨hr1, hr2⟩ := hr
            have hin : (decide ((-1000000 : Int) ≤ z) && decide (z ≤ 1000000)) = true := by simp [hr1, hr2]
            have hl2 := Lib.hid (hl1.out z (-1000000) 1000000)
            rw [hin] at hl2
            clear hl1
            by_cases h4 : 40 < ws.length
            · have h4' : (40 : Int) < (ws.length : Int) := by omega
              have hfin : Hid (pn = none) := hbad' (.inr h4)
              clear hbad' hdone hnx hx
              go_wp2_with (first
                | (go_at_call 40; refine hnum.out.mono ?_; rintro e w2 ⟨rfl, hb2⟩)
                | (go_at_call 41; refine (hl2.out _).mono ?_; rintro e w3 ⟨rfl, hw3⟩; subst hw3))
              go_ret2
              exact ⟨_, by rw [hfin.out]; rfl, by rw [hfin.out]; exact ownsRow_base (ownsRow_empty _ _ _) (by have := hb2.size; omega), (hb.trans (hb2.mono hbs)).alloc (by have := hb2.size; omega) _⟩
            · have h4' : ¬ (40 : Int) < (ws.length : Int) := by omega
              have hok2 : Hid (allOk okN (ws.take (k + 1)) = some (ns ++ [z])) := by
                rw [Hid, List.take_succ_eq_append_getElem hlt, hx]
                exact allOk_snoc hok.out (by unfold okN; rw [hnx]; simp [hr1, hr2])
              clear hbad' hdone hnx hx hok
              go_wp2_with (first
                | (go_at_call 40; refine hnum.out.mono ?_; rintro e w2 ⟨rfl, hb2⟩; have hown2 := (ownsRow_below hown hb2 (Nat.le_refl _)).alloc (.cells #[.int .i64 z] 3); have hs2 := hb2.size; have hT2 := (hT.below hb2 (Nat.le_refl _)).below ((Below.refl _ w2).alloc (Nat.le_refl _) (.cells #[.int .i64 z] 3)) (Nat.le_refl _))
                | (go_at_call 41; refine (hl2.out _).mono ?_; rintro e w3 ⟨rfl, hw3⟩; subst hw3)
                | (at_builtin; refine wpList_append_own_at _ rfl (.tmp 42) (.tmp 44) 22 rfl w.heap.size 3 i0 (.int .i64 0) 1 8 Tryd.underlying22 hi hz0 hz1 hz2 rfl (by decide) _ k _ rfl hown2 ⟨w2.heap.size, 0, none⟩ 1 1 [.int .i64 z] rfl rfl ?c1 ?c2 ?c3 ?c4 ?c5 ?_))
              case c1 => exact cell_one_new _ _ _
              case c2 => intro u hu; simp at hu; subst hu; rfl
              case c3 => unfold maxLen; omega
              case c4 => omega
              case c5 => simp; omega
              intro v' w4 hown4 hgrow4 _ hob
              have hb4 : Below w.heap.size w w4 := ((hb.trans (hb2.mono hbs)).alloc (by omega) _).grown hgrow4 (by simp; omega) (fun q hq => (hown2.lt q hq).1)
              have hT4 : Texts w4 g ws := hT2.block (hgrow4.block g hT2.lt (fun e => hnb e.symm))
              have hnb4 : v'.ownBlock ≠ some g := by
                rcases hob with h | h
                · rw [h]; exact hnb
                · intro e
                  have hlt2 := hT2.lt
                  rw [h] at e
                  simp at e hlt2
                  omega
              go_wp2
              go_roundw
              case rel => exact ⟨k + 1, ns ++ [z], by omega, by go_num, hok2, by simp [hnl], fun _ => by omega, by rw [List.map_append]; exact hown4, hnb4, hT4, hb4⟩
              case measure => simp [intOf]; omega
          · have hin : (decide ((-1000000 : Int) ≤ z) && decide (z ≤ 1000000)) = false := by
              rw [Bool.and_eq_false_iff, decide_eq_false_iff_not, decide_eq_false_iff_not]; omega
            have hl2 := Lib.hid (hl1.out z (-1000000) 1000000)
            rw [hin] at hl2
            have hfin : Hid (pn = none) := hbad' (.inl (by unfold okN; rw [hnx]; simp [hr]))
            clear hbad' hdone hnx hx hl1
            go_wp2_with (first
              | (go_at_call 40; refine hnum.out.mono ?_; rintro e w2 ⟨rfl, hb2⟩)
              | (go_at_call 41; refine (hl2.out _).mono ?_; rintro e w3 ⟨rfl, hw3⟩; subst hw3))
            go_ret2
            exact ⟨_, by rw [hfin.out]; rfl, by rw [hfin.out]; exact ownsRow_base (ownsRow_empty _ _ _) (by have := hb2.size; omega), (hb.trans (hb2.mono hbs)).alloc (by have := hb2.size; omega) _⟩
      · obtain rfl : k = ws.length := by omega
        have hfin : Hid (pn = some ns) := by
          refine hdone ns (h40 (by cases ws with | nil => exact absurd rfl hne | cons _ _ => simp)) ?_
          have := hok.out
          rwa [List.take_length] at this
        go_wp2
        go_ret2
        exact ⟨_, by rw [hfin.out]; rfl, by rw [hfin.out]; simpa [hnl] using hown, hb⟩
end Go.Proofs.YtkkcnkajffbnaaaDoor
