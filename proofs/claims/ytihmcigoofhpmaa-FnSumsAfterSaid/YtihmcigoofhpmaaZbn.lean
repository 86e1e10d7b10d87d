/-
  The walk of l9Tasks.
  The reference's draws of a keeper's run: DrawRunKeeper, DrawSumsAfter.
  The laws of the keeper (P9): which functions keep to themselves; RunKeeper called, with what it answers told without memory.
  The reference's SumsAfter.
  Sums after some ticks, told plainly: all ticks, no tick, and the tasks cut.
-/
import Derived.Deep.RegionHeld3
import Derived.Test.YtihmcigoofhpmaaZbe
import Derived.Test.YtihmcigoofhpmaaZbg
import Derived.Test.YtihmcigoofhpmaaZbl
import Derived.Test.YtihmcigoofhpmaaZbm
set_option linter.all false
namespace Go.Town.Kp
open Go Go.Conc Go.Conc.Lib Go.ConcR.Gen Go.RowKit Go.Town Go.Proofs
theorem nest_nil (w : World) (base B : Nat) (hB : base ≤ w.heap.size) (hB' : w.heap.size < B) (o : Obj) (ho : o = .cells #[] 28) : NestV (w.alloc o) base B (.slice (some ⟨w.heap.size, 0, none⟩) 0 0) [] [] := by
  subst ho
  exact ⟨ownsRow_base (ownsRow_empty w 28 1) hB, fun r e => by simp [Value.ownBlock] at e; omega, fun i hi => by simp at hi⟩
def TasksPost (g0 g p : Nat) (w : World) (e : Ending) (w' : World) : Prop :=
  ∃ (ta : Option Addr) (J : List (List Int)) (tc p' : Nat), e = .returned (.slice ta J.length tc) ∧ J.length ≤ 10 ∧ (∀ l ∈ J, l.length ≤ 30) ∧ (∀ W', w'.heap.size ≤ W'.heap.size → (∀ x, w.heap.size ≤ x → x < w'.heap.size → W'.heap[x]? = w'.heap[x]?) → RowsAt W' ta J ∧ CapsIn W'.heap.size W' ta J) ∧ p' ≤ p + 100 ∧ Rd w' g0 g p' ∧ w.grownBy w' (some g)
def Outer34 (w : World) (g0 g p k : Nat) (v : Value) (wr : World) : Prop :=
  ∃ (p' B : Nat) (J : List (List Int)) (vs : List Value), k + J.length ≤ 3 ∧ p' + 20 * k ≤ p + 61 ∧ (∀ l ∈ J, l.length ≤ 6) ∧ Rd wr g0 g p' ∧ NestV wr w.heap.size B v J vs ∧ B ≤ wr.heap.size ∧ w.heap.size ≤ B ∧ w.grownBy wr (some g)
def Inner34 (w : World) (g0 g p' m B1 : Nat) (v5 : Value) (wa wr : World) : Prop :=
  ∃ (p'' : Nat) (zs : List Int), m + zs.length ≤ 6 ∧ p'' + 3 * m ≤ p' + 19 ∧ Rd wr g0 g p'' ∧ wr.ownsRow B1 3 1 v5 zs.length (zs.map (Value.int .i64)) ∧ (∀ x, x < B1 → x ≠ g → wr.heap[x]? = wa.heap[x]?) ∧ w.grownBy wr (some g) ∧ B1 ≤ wr.heap.size
theorem tasks_end {g0 g p p' B : Nat} {w w' : World} {v : Value} {J : List (List Int)} {vs : List Value} (hN : NestV w' w.heap.size B v J vs) (hB : B ≤ w'.heap.size) (hJ : J.length ≤ 10) (hl : ∀ l ∈ J, l.length ≤ 30) (hp : p' ≤ p + 100) (hR : Rd w' g0 g p') (hg : w.grownBy w' (some g)) : TasksPost g0 g p w (.returned v) w' := by
  obtain ⟨a, c, rfl⟩ := own_slice hN.own
  refine ⟨a, J, c, p', rfl, hJ, hl, fun W' hz hW => ?_, hp, hR, hg⟩
  obtain ⟨a', c', e, h, h'⟩ := (hN.same fun x h1 h2 => hW x h1 (by omega)).rows (by omega)
  cases e
  exact ⟨h, h'⟩
theorem tasks_push {g0 g p p' B : Nat} {w w3 wa w' : World} {v v' : Value} {J L : List (List Int)} {vs news : List Value} (hg0 : g0 ≤ g) (hlt : g < w.heap.size) (N : NestV w3 w.heap.size B v J vs) (hB : B ≤ w3.heap.size) (hb : w.heap.size ≤ B) (hR : Rd w3 g0 g p') (hg : w.grownBy w3 (some g)) (ha : w3.grownBy wa none)
    (hn : ∀ i (h : i < L.length), ∃ u, news[i]? = some u ∧ Row1 wa B wa.heap.size u L[i]) (hown : w'.ownsRow w.heap.size 28 1 v' (J.length + L.length) (vs ++ news)) (hgr : wa.grownBy w' v.ownBlock) (hat : v'.ownBlock = v.ownBlock ∨ v'.ownBlock = some wa.heap.size)
    (hJ : J.length ≤ 3) (hJ6 : ∀ l ∈ J, l.length ≤ 6) (hL : L.length ≤ 4) (hL30 : ∀ l ∈ L, l.length ≤ 30) (hp : p' ≤ p + 100) : TasksPost g0 g p w (.returned v') w' := by
  refine tasks_end (N.push hB ha hn hb hown hgr hat) (Nat.le_refl _) (by rw [List.length_append]; omega) (fun l hl => ?_) hp ((hR.kept ha (fun r e => by cases e) hR.lt).kept hgr (fun r e => ?_) (by have := hR.lt; have := ha.size; omega)) (grown_on (grown_on hg ha (fun r e => by cases e)) hgr fun r e => .inr (N.own.lt r e).1)
  · rcases List.mem_append.1 hl with h | h
    · have := hJ6 l h; omega
    · exact hL30 l h
  · have := (N.own.lt r e).1; omega
theorem two_grown (w : World) (a b : Obj) : w.grownBy ((w.alloc a).alloc b) none := (World.grownBy_alloc w a none).trans (World.grownBy_alloc _ b none)
set_option maxRecDepth 100000 in
set_option maxHeartbeats 4000000 in
theorem l9Tasks_any {g0 g p : Nat} {w : World} (hR : Rd w g0 g p) (hp : p ≤ 1000000) :
    Calls Try.prog 34 #[.pointer (some ⟨g, 0, none⟩)] w (TasksPost g0 g p w) := by
  obtain ⟨i0, hi, hz0, hz1, hz2⟩ := info_parts Try.info3
  obtain ⟨j0, ji, jz0, jz1, jz2⟩ := info_parts Try.info28
  have hlt := hR.lt
  have hg0 := hR.le
  go_enter Try.func34, Try.ntmps34
  go_wp2_with fail
  refine (pick_new (hR.alloc _) (by omega) (by omega)).mono ?_
  rintro e w1 ⟨x, rfl, hx, h1⟩
  have hx2 : x ≤ 2 := by omega
  have hg1 : w.grownBy w1 (some g) := (World.grownBy_alloc w _ _).trans h1.out.2
  have z1 : w.heap.size + 1 ≤ w1.heap.size := by have := h1.out.2.size; rw [World.size_alloc] at this; exact this
  have hO : RowKit.Hid (Outer34 w g0 g p (1 + x) (.slice (some ⟨w.heap.size, 0, none⟩) 0 0) w1) := ⟨p + 1, w.heap.size + 1, [], [], by simp; omega, by omega, by simp, h1.out.1, (nest_nil w w.heap.size (w.heap.size + 1) (Nat.le_refl _) (by omega) _ rfl).kept (by rw [World.size_alloc]; exact Nat.le_refl _) h1.out.2 (fun r e => by injection e with e; omega), z1, by omega, hg1⟩
  have hw1 : IntKind.i64.wrap (1 + (x : Int)) = ((1 + x : Nat) : Int) := by rw [IntWalk.i64_in _ (by omega)]; omega
  clear h1 hx
  generalize 1 + x = k0 at *
  go_wp2
  go_loopw [3, 4] (fun v i wr => ∃ k : Nat, i = .int .i64 k ∧ RowKit.Hid (Outer34 w g0 g p k v wr)) (fun _ i _ => (intOf i).toNat)
  case atStart => exact ⟨k0, rfl, hO⟩
  case round =>
    obtain ⟨k, rfl, hO2⟩ := hrel
    by_cases h0 : 0 < k
    · have h0' : (0 : Int) < (k : Int) := by omega
      obtain ⟨wo, rfl⟩ : ∃ y, y = wr := ⟨wr, rfl⟩
      obtain ⟨p', B, J, vs, q1, q2, q3, q4, q5, q6, q7, q8⟩ := hO2.out
      go_wp2_with fail
      refine (pick_new (q4.alloc _) (by omega) (by omega)).mono ?_
      rintro e w2 ⟨m0, rfl, hm0, h2⟩
      have hm : m0 ≤ 6 := by omega
      have hs2 := h2.out.2.size
      rw [World.size_alloc] at hs2
      have hI : RowKit.Hid (Inner34 w g0 g p' m0 wo.heap.size (.slice (some ⟨wo.heap.size, 0, none⟩) 0 0) wo w2) := by
        refine ⟨p' + 1, [], by simp; omega, by omega, h2.out.1, (ownsRow_empty wo 3 1).kept h2.out.2 (.inr (by simp [Value.ownBlock]; omega)), fun y hy hne => ?_, (q8.trans (World.grownBy_alloc wo _ _)).trans h2.out.2, by omega⟩
        exact (h2.out.2.block y (by rw [World.size_alloc]; omega) (by simpa using hne)).trans ((World.grownBy_alloc wo _ none).block y hy (by simp))
      clear h2 hm0
      go_wp2
      go_loopw [5, 6] (fun v5 i wr' => ∃ m : Nat, i = .int .i64 m ∧ RowKit.Hid (Inner34 w g0 g p' m wo.heap.size v5 wo wr')) (fun _ i _ => (intOf i).toNat)
      case atStart => exact ⟨m0, rfl, hI⟩
      case round =>
        obtain ⟨m, rfl, hI2⟩ := hrel
        by_cases hm0 : 0 < m
        · have hm0' : (0 : Int) < (m : Int) := by omega
          obtain ⟨p2, zs, y1, y2, y3, y4, y5, y6, y7⟩ := hI2.out
          go_wp2_with fail
          refine (pick_new y3 (by omega) (by omega)).mono ?_
          rintro e w3 ⟨xa, rfl, hxa, h3⟩
          have wa1 : IntKind.i64.wrap (1 + (xa : Int)) = 1 + (xa : Int) := IntWalk.i64_in _ (by omega)
          go_wp2_with fail
          refine (pick_new h3.out.1 (by omega) (by omega)).mono ?_
          rintro e w4 ⟨xb, rfl, hxb, h4⟩
          have wb1 : IntKind.i64.wrap (1 + (xb : Int)) = 1 + (xb : Int) := IntWalk.i64_in _ (by omega)
          go_wp2_with fail
          refine (num_new (n := 4) [1 + (xa : Int), 1 + (xb : Int), 0, 5] _ h4.out.1 (by omega) rfl rfl (by omega) (by omega)).mono ?_
          rintro e w5 ⟨z, rfl, _, h5⟩
          have hg35 : wr.grownBy w5 (some g) := (h3.out.2.trans h4.out.2).trans h5.out.2
          have hown5 := (y4.kept hg35 (.inr fun e => by have := (y4.lt g e).1; omega)).alloc (.cells #[.int .i64 z] 3)
          have hs5 := hg35.size
          have hR5 := h5.out.1
          clear h3 h4 h5 hxa hxb
          go_wp2_with (at_builtin; refine wpList_append_own_at _ rfl (.tmp 22) (.tmp 32) 28 rfl wo.heap.size 3 i0 (.int .i64 0) 1 8 Try.underlying28 hi hz0 hz1 hz2 rfl (by decide) _ zs.length _ rfl hown5 ⟨w5.heap.size, 0, none⟩ 1 1 [.int .i64 z] rfl rfl ?c1 ?c2 ?c3 ?c4 ?c5 ?_)
          case c1 => exact cell_one_new _ _ _
          case c2 => intro u hu; simp at hu; subst hu; rfl
          case c3 => unfold maxLen; omega
          case c4 => omega
          case c5 => simp; omega
          intro v' w6 hown6 hgr6 _ hob
          have hown5' := hown5.lt
          have hI6 : RowKit.Hid (Inner34 w g0 g p' (m - 1) wo.heap.size v' wo w6) := by
            refine ⟨p2 + 1 + 1 + 1, zs ++ [z], by simp; omega, by omega, (hR5.alloc _).kept hgr6 (fun r e => ?_) (by have := hR5.lt; simp; omega), by simpa using hown6, fun y hy hne => ?_, ?_, by have := hgr6.size; rw [World.size_alloc] at this; omega⟩
            · have := hown5' r e; omega
            · refine (hgr6.block y (by rw [World.size_alloc]; omega) fun e => ?_).trans (((World.grownBy_alloc w5 _ none).block y (by omega) (by simp)).trans ((hg35.block y (by omega) (by simpa using hne)).trans (y5 y hy hne)))
              have := hown5' y e.symm; omega
            · exact grown_on ((y6.trans hg35).trans (World.grownBy_alloc w5 _ _)) hgr6 fun r e => .inr (by have := hown5' r e; have := q8.size; omega)
          have hm1 : ((m : Int) - 1) = ((m - 1 : Nat) : Int) := by omega
          clear hown6 hgr6 hob hown5 hown5' hg35 hR5 y3 y4 y5 y6 hI2
          go_wp2
          go_roundw
          case rel => exact ⟨m - 1, by go_num, hI6⟩
          case measure => simp [intOf]; omega
        · obtain rfl : m = 0 := by omega
          obtain ⟨p2, zs, y1, y2, y3, y4, y5, y6, y7⟩ := hI2.out
          have hN := q5.same (w' := wr) fun y hy1 hy2 => y5 y (by omega) (by omega)
          have r5 : Row1 wr B wr.heap.size _ zs := (row1_own y4 (Nat.le_refl _)).base q6
          obtain ⟨a5, c5, rfl⟩ := own_slice y4
          have z5 := q8.size
          go_wp2_with (at_builtin; refine wpList_append_own_at _ rfl (.tmp 34) (.tmp 36) 25 rfl w.heap.size 28 j0 (.slice none 0 0) 1 24 Try.underlying25 ji jz0 jz1 jz2 rfl (by decide) _ J.length _ rfl (hN.own.alloc _) ⟨wr.heap.size, 0, none⟩ 1 1 [.slice a5 zs.length c5] rfl rfl ?c1 ?c2 ?c3 ?c4 ?c5 ?_)
          case c1 => exact cell_one_new _ _ _
          case c2 => intro u hu; simp at hu; subst hu; rfl
          case c3 => unfold maxLen; omega
          case c4 => omega
          case c5 => simp; omega
          intro v' w7 hown7 hgr7 _ hob
          have hO7 : RowKit.Hid (Outer34 w g0 g p (k - 1) v' w7) := by
            refine ⟨p2, w7.heap.size, J ++ [zs], _, by simp; omega, by omega, fun l hl => ?_, (y3.alloc _).kept hgr7 (fun r e => ?_) (by have := y3.lt; simp; omega), NestV.push (L := [zs]) hN (by omega) (World.grownBy_alloc wr _ none) (fun i hi => ?_) q7 hown7 hgr7 (by rw [World.size_alloc]; exact hob), Nat.le_refl _, by have := hgr7.size; rw [World.size_alloc] at this; omega, grown_on (y6.trans (World.grownBy_alloc wr _ _)) hgr7 fun r e => .inr (hN.own.lt r e).1⟩
            · rcases List.mem_append.1 hl with h | h
              · exact q3 l h
              · simp at h; subst h; omega
            · have := (hN.own.lt r e).1; omega
            · obtain rfl : i = 0 := by simp at hi; omega
              exact ⟨_, rfl, r5.alloc _⟩
          have hk1 : ((k : Int) - 1) = ((k - 1 : Nat) : Int) := by omega
          clear hown7 hgr7 hob hN r5 y3 y4 y5 y6 hI2 q3 q4 q5 q8 hO2
          go_wp2
          go_roundw
          case rel => exact ⟨k - 1, by go_num, hO7⟩
          case measure => simp [intOf]; omega
    · obtain rfl : k = 0 := by omega
      obtain ⟨p', B, J, vs, q1, q2, q3, q4, q5, q6, q7, q8⟩ := hO2.out
      clear hO2 hO
      go_wp2_with fail
      refine (pick_new q4 (by omega) (by omega)).mono ?_
      rintro e w2 ⟨x2, rfl, _, h2⟩
      have N2 := q5.kept q6 h2.out.2 (fun r e => by injection e with e; omega)
      have R2 := h2.out.1
      have g2 := q8.trans h2.out.2
      have s2 := h2.out.2.size
      have z2 := q8.size
      clear h2 q4 q5 q8
      by_cases x20 : x2 = 0
      · subst x20
        go_wp2
        go_ret
        exact ⟨_, [], _, _, rfl, by simp, by simp, fun _ _ _ => ⟨.inl rfl, .inl rfl⟩, by omega, R2.alloc _, g2.trans (World.grownBy_alloc w2 _ _)⟩
      have x20' : ((x2 : Int) == 0) = false := beq_eq_false_iff_ne.2 (by omega)
      by_cases x21 : x2 = 1
      · subst x21
        go_wp2_with fail
        refine (num_new (n := 4) [-1, 1001, 1000, 9223372036854775807] _ R2 (by omega) rfl rfl (by omega) (by omega)).mono ?_
        rintro e w3 ⟨z, rfl, _, h3⟩
        have N3 := N2.kept (by omega) h3.out.2 (fun r e => by injection e with e; omega)
        have R3 := h3.out.1
        have g3 := g2.trans h3.out.2
        have s3 := h3.out.2.size
        have z3 := g3.size
        go_wp2_with (at_builtin; refine wpList_append_own_at _ rfl (.tmp 45) (.tmp 50) 25 rfl w.heap.size 28 j0 (.slice none 0 0) 1 24 Try.underlying25 ji jz0 jz1 jz2 rfl (by decide) _ J.length _ rfl ((N3.own.alloc _).alloc _) ⟨w3.heap.size + 1, 0, none⟩ 1 1 [.slice (some ⟨w3.heap.size, 0, none⟩) 1 1] rfl rfl ?c1 ?c2 ?c3 ?c4 ?c5 ?_)
        case c1 =>
          have h := cell_one_new (w3.alloc (.cells #[.int .i64 z] 3)) (.slice (some ⟨w3.heap.size, 0, none⟩) 1 1) 28
          rw [World.size_alloc] at h
          exact h
        case c2 => intro u hu; simp at hu; subst hu; rfl
        case c3 => unfold maxLen; omega
        case c4 => omega
        case c5 => simp; omega
        intro v' w4 hown4 hgr4 _ hob
        have fin := tasks_push (L := [[z]]) (p := p) hR.le hlt N3 (by omega) q7 R3 g3 (two_grown w3 _ _) (fun i hi => by
          obtain rfl : i = 0 := by simp at hi; omega
          exact ⟨_, rfl, (row1_lit (w := w3) (l := [z]) (n := 1) (by omega) rfl rfl rfl (Nat.le_refl _)).alloc _⟩) hown4 hgr4 (by simpa using hob) (by omega) q3 (by simp) (by simp) (by omega)
        go_wp2
        go_ret
        exact fin
      have x21' : ((x2 : Int) == 1) = false := beq_eq_false_iff_ne.2 (by omega)
      by_cases x22 : x2 = 2
      · subst x22
        go_wp2_with fail
        refine (pick_new R2 (by omega) (by omega)).mono ?_
        rintro e w3 ⟨y, rfl, hy, h3⟩
        have N3 := N2.kept (by omega) h3.out.2 (fun r e => by injection e with e; omega)
        have R3 := h3.out.1
        have g3 := g2.trans h3.out.2
        have s3 := h3.out.2.size
        have z3 := g3.size
        have wy : IntKind.i64.wrap (20 + (y : Int)) = 20 + (y : Int) := IntWalk.i64_in _ (by omega)
        have hmk : ∀ w : World, (Instr.makeSlice 28 (.int .i64 (20 + (y : Int))) (.int .i64 (20 + (y : Int)))).run Try.prog w = .ok (.slice (some ⟨w.heap.size, 0, none⟩) (20 + y) (20 + y)) (w.alloc (.cells (Array.replicate (20 + y) (.int .i64 0)) 3)) := fun w => by
          have h := mk_ints w (20 + y) (by omega)
          simpa using h
        go_wp2_with (at_builtin; refine wpList_append_own_at _ rfl (.tmp 54) (.tmp 59) 25 rfl w.heap.size 28 j0 (.slice none 0 0) 1 24 Try.underlying25 ji jz0 jz1 jz2 rfl (by decide) _ J.length _ rfl ((N3.own.alloc _).alloc _) ⟨w3.heap.size + 1, 0, none⟩ 1 1 [.slice (some ⟨w3.heap.size, 0, none⟩) (20 + y) (20 + y)] rfl rfl ?c1 ?c2 ?c3 ?c4 ?c5 ?_)
        case c1 =>
          have h := cell_one_new (w3.alloc (.cells (Array.replicate (20 + y) (.int .i64 0)) 3)) (.slice (some ⟨w3.heap.size, 0, none⟩) (20 + y) (20 + y)) 28
          rw [World.size_alloc] at h
          exact h
        case c2 => intro u hu; simp at hu; subst hu; rfl
        case c3 => unfold maxLen; omega
        case c4 => omega
        case c5 => simp; omega
        intro v' w4 hown4 hgr4 _ hob
        have fin := tasks_push (L := [List.replicate (20 + y) 0]) (p := p) hR.le hlt N3 (by omega) q7 R3 g3 (two_grown w3 _ _) (fun i hi => by
          obtain rfl : i = 0 := by simp at hi; omega
          exact ⟨_, rfl, (row1_lit (w := w3) (l := List.replicate (20 + y) 0) (n := 20 + y) (by omega) (by simp) rfl (by simp) (Nat.le_refl _)).alloc _⟩) hown4 hgr4 (by simpa using hob) (by omega) q3 (by simp) (by simp; omega) (by omega)
        go_wp2
        go_ret
        exact fin
      have x22' : ((x2 : Int) == 2) = false := beq_eq_false_iff_ne.2 (by omega)
      by_cases x23 : x2 = 3
      · subst x23
        go_wp2_with (at_builtin; refine wpList_append_own_at _ rfl (.tmp 63) (.tmp 68) 25 rfl w.heap.size 28 j0 (.slice none 0 0) 1 24 Try.underlying25 ji jz0 jz1 jz2 rfl (by decide) _ J.length _ rfl ((((( N2.own.alloc _).alloc _).alloc _).alloc _).alloc _) ⟨w2.heap.size + 1 + 1 + 1 + 1, 0, none⟩ 4 4 [.slice (some ⟨w2.heap.size, 0, none⟩) 0 0, .slice (some ⟨w2.heap.size + 1, 0, none⟩) 0 0, .slice (some ⟨w2.heap.size + 1 + 1, 0, none⟩) 0 0, .slice (some ⟨w2.heap.size + 1 + 1 + 1, 0, none⟩) 0 0] rfl rfl ?c1 ?c2 ?c3 ?c4 ?c5 ?_)
        case c1 =>
          intro j u hj
          have hb : ((((((w2.alloc (.cells #[] 3)).alloc (.cells #[] 3)).alloc (.cells #[] 3)).alloc (.cells #[] 3)).alloc (.cells #[.slice (some ⟨w2.heap.size, 0, none⟩) 0 0, .slice (some ⟨w2.heap.size + 1, 0, none⟩) 0 0, .slice (some ⟨w2.heap.size + 1 + 1, 0, none⟩) 0 0, .slice (some ⟨w2.heap.size + 1 + 1 + 1, 0, none⟩) 0 0] 28)).heap[w2.heap.size + 1 + 1 + 1 + 1]? = some (.cells #[.slice (some ⟨w2.heap.size, 0, none⟩) 0 0, .slice (some ⟨w2.heap.size + 1, 0, none⟩) 0 0, .slice (some ⟨w2.heap.size + 1 + 1, 0, none⟩) 0 0, .slice (some ⟨w2.heap.size + 1 + 1 + 1, 0, none⟩) 0 0] 28)) := by
            have h := alloc_self ((((w2.alloc (.cells #[] 3)).alloc (.cells #[] 3)).alloc (.cells #[] 3)).alloc (.cells #[] 3)) (.cells #[.slice (some ⟨w2.heap.size, 0, none⟩) 0 0, .slice (some ⟨w2.heap.size + 1, 0, none⟩) 0 0, .slice (some ⟨w2.heap.size + 1 + 1, 0, none⟩) 0 0, .slice (some ⟨w2.heap.size + 1 + 1 + 1, 0, none⟩) 0 0] 28)
            simpa [World.size_alloc] using h
          have := blk_cell (o := j) hb
          rw [show (⟨w2.heap.size + 1 + 1 + 1 + 1, 0, none⟩ : Addr).add j = ⟨w2.heap.size + 1 + 1 + 1 + 1, j, none⟩ by unfold Addr.add; split <;> simp_all, this, ← hj]
          simp
        case c2 => intro u hu; simp at hu; rcases hu with rfl | rfl | rfl | rfl <;> rfl
        case c3 => unfold maxLen; omega
        case c4 => omega
        case c5 => simp; omega
        intro v' w4 hown4 hgr4 _ hob
        have fin := tasks_push (L := [[], [], [], []]) (p := p) hR.le hlt N2 (by omega) q7 R2 g2 ((two_grown w2 _ _).trans ((two_grown _ _ _).trans (World.grownBy_alloc _ _ none))) (fun i hi => by
          obtain rfl | rfl | rfl | rfl : i = 0 ∨ i = 1 ∨ i = 2 ∨ i = 3 := by simp at hi; omega
          all_goals exact ⟨_, rfl, _, 0, rfl, Nat.le_refl _, .inl rfl⟩) hown4 hgr4 (by simpa using hob) (by omega) q3 (by simp) (by simp) (by omega)
        go_wp2
        go_ret
        exact fin
      have x23' : ((x2 : Int) == 3) = false := beq_eq_false_iff_ne.2 (by omega)
      obtain ⟨a9, c9, rfl⟩ := own_slice N2.own
      go_wp2
      go_ret
      exact tasks_end N2 (by omega) (by omega) (fun l hl => by have := q3 l hl; omega) (by omega) R2 g2
end Go.Town.Kp
namespace Go.Town.Kp
open Go Go.Conc Go.Conc.Lib Go.ConcR.Gen Go.RowKit Go.Town Go.Proofs
def DrawPost (w : World) (e : Ending) (w' : World) : Prop :=
  ∃ (q : List UInt8) (f t : Int) (ta : Option Addr) (J : List (List Int)) (tc : Nat), e = .returned (.tuple #[.agg #[.string ⟨q.toArray⟩, .int .i64 f, .int .i64 t], .slice ta J.length tc]) ∧ J.length ≤ 10 ∧ (∀ l ∈ J, l.length ≤ 30) ∧ RowsAt w' ta J ∧ Below w.heap.size w w'
theorem kin_of_below {B : Nat} {w w' : World} (h : Below B w w') : Kin B w w' := ⟨fun x j v hx hv => (h.cell (p := ⟨x, j, none⟩) hx).trans hv, fun x j v hx _ hf => (World.frozen?_of_block (h.block x hx)).trans hf, h.size⟩
theorem set3_heap (w : World) (x : Nat) (a b c : Value) : (∀ y, y ≠ x → (((w.setCell ⟨x, 0, none⟩ a).setCell ⟨x, 1, none⟩ b).setCell ⟨x, 2, none⟩ c).heap[y]? = w.heap[y]?) ∧ (((w.setCell ⟨x, 0, none⟩ a).setCell ⟨x, 1, none⟩ b).setCell ⟨x, 2, none⟩ c).heap.size = w.heap.size :=
  ⟨fun y hy => by rw [Below.heap_setCell _ _ _ y (by simpa using hy), Below.heap_setCell _ _ _ y (by simpa using hy), Below.heap_setCell _ _ _ y (by simpa using hy)], by simp [World.size_setCell]⟩
theorem set3_reads {w : World} {x y : Nat} {vs : List Value} (h : Reads w y vs) (hy : y ≠ x) (a b c : Value) : Reads (((w.setCell ⟨x, 0, none⟩ a).setCell ⟨x, 1, none⟩ b).setCell ⟨x, 2, none⟩ c) y vs := fun j hj => by
  have hb := (set3_heap w x a b c).1 y hy
  rw [World.cell?_of_block hb, World.frozen?_of_block hb]; exact h j hj
theorem set3_own {w : World} {x : Nat} {vs : List Value} (hq : Reads w x vs) (hv : vs.length = 3) (a b c : Value) :
    (((w.setCell ⟨x, 0, none⟩ a).setCell ⟨x, 1, none⟩ b).setCell ⟨x, 2, none⟩ c).cell? ⟨x, 0, none⟩ = some a ∧ (((w.setCell ⟨x, 0, none⟩ a).setCell ⟨x, 1, none⟩ b).setCell ⟨x, 2, none⟩ c).cell? ⟨x, 1, none⟩ = some b ∧ (((w.setCell ⟨x, 0, none⟩ a).setCell ⟨x, 1, none⟩ b).setCell ⟨x, 2, none⟩ c).cell? ⟨x, 2, none⟩ = some c := by
  have ne : ∀ (w : World) (i j : Nat) (v : Value), i ≠ j → (w.setCell ⟨x, i, none⟩ v).cell? ⟨x, j, none⟩ = w.cell? ⟨x, j, none⟩ := fun w i j v h => cell_setCell_ne w v (.inr h)
  obtain ⟨v0, h0⟩ := hq.ex (j := 0) (by omega)
  obtain ⟨v1, h1⟩ := hq.ex (j := 1) (by omega)
  obtain ⟨v2, h2⟩ := hq.ex (j := 2) (by omega)
  refine ⟨?_, ?_, ?_⟩
  · rw [ne _ 2 0 _ (by omega), ne _ 1 0 _ (by omega)]; exact cell_setCell_eq _ h0
  · rw [ne _ 2 1 _ (by omega)]; exact cell_setCell_eq _ ((ne _ 0 1 _ (by omega)).trans h1)
  · exact cell_setCell_eq _ (((ne _ 1 2 _ (by omega)).trans (ne _ 0 2 _ (by omega))).trans h2)
end Go.Town.Kp
namespace Go.Town.Kp
open Go Go.Conc Go.Conc.Lib Go.ConcR.Gen Go.RowKit Go.Town Go.Proofs
open Go.ConcN (upd upd_ne upd_same)
def listP : List FuncId := [9, 32, 33, 34, 41, 42, 47, 12, 11, 25, 35, 37, 46, 26, 38, 43, 39, 40, 52, 66, 67]
def okP (f : FuncId) : Bool := listP.contains f
theorem BytesAt.re {w : World} {a : Option Addr} {bs : List Int} (h : BytesAt w a bs) (T : Nat → Question → Nat) (d : Nat) : BytesAt (w.re T d) a bs := h
structure BaseP (q : List UInt8) (f t : Int) (J : List (List Int)) (ta : Option Addr) (kb : Nat) (w : World) : Prop where
  keeper : Reads w kb [.string ⟨q.toArray⟩, .int .i64 f, .int .i64 t]
  rows : RowsIn kb w ta J
  low : kb < w.heap.size
theorem BaseP.kin {q : List UInt8} {f t : Int} {J : List (List Int)} {ta : Option Addr} {kb : Nat} {w w' : World} (h : BaseP q f t J ta kb w) (k : Kin (kb + 1) w w') : BaseP q f t J ta kb w' :=
  ⟨h.keeper.kin k (by omega), h.rows.kept (k.le (B' := kb) (by omega)).cells (Nat.le_refl _), Nat.lt_of_lt_of_le h.low k.size⟩
theorem BaseP.rowsAt {q : List UInt8} {f t : Int} {J : List (List Int)} {ta : Option Addr} {kb : Nat} {w : World} (h : BaseP q f t J ta kb w) : RowsAt w ta J := h.rows.kept (B' := w.heap.size) (fun _ _ _ _ hv => hv) (Nat.le_of_lt h.low)
theorem enter10 {l : ByteArray} {f t : Int} {n tc : Nat} {ta : Option Addr} : Frame.enter Try.prog 10 #[.agg #[.string l, .int .i64 f, .int .i64 t], .slice ta n tc] .normal = (base 10).at ⟨#[.agg #[.string l, .int .i64 f, .int .i64 t], .slice ta n tc] ++ Array.replicate 18 undef, []⟩ [.code body10] := by kernel_rfl
section
variable {C : Cfg} {b o Bd kb : Nat} {wl : World} {q : List UInt8} {f t : Int} {J : List (List Int)} {tc : Nat} {ta : Option Addr} {g : Bool} {R1 R2 : List Int} {E : ByteArray} {A : Int}
set_option maxRecDepth 100000 in
set_option maxHeartbeats 2000000 in
theorem call10 {b₀ : Frame} {a₀ : Act} {ops₀ : Array Oper} {i₀ : Nat} {rest₀ : List Nat} {k₀ : List Item} {cs : List Frame} {ta' : Option Addr} {tc' : Nat} {Post : Value → World → Prop} (hn : J.length ≤ 1048576) (hm : ∀ l ∈ J, l.length ≤ 1048576) (hBd : Bd < 2000000000) (hL : Lay C wl) (hR : RowsAt wl ta' J) (hD : Kd q f t J g R1 R2 E A)
    (h : ∀ C' b' o' d1 d2 e1 e2 wl', Lay C' wl' → Kin wl.heap.size wl wl' → Ans wl.heap.size R1 R2 d1 d2 wl' → Can Try.prog C' b' o' Post 0 (AloneB (Bd + 400)) wl' (G (b₀.at (a₀.put ((ops₀[i₀]?).bind (·.dst)) (.tuple #[.agg #[.slice d1 R1.length e1, .slice d2 R2.length e2, .string E, .int .i64 A], .bool g])) (.inRegion ops₀ rest₀ :: k₀)) cs)) :
    Can Try.prog C b o Post 0 (AloneB Bd) wl (G (Frame.enter Try.prog 10 #[.agg #[.string ⟨q.toArray⟩, .int .i64 f, .int .i64 t], .slice ta' J.length tc'] .normal) (b₀.at a₀ (.inRegion ops₀ (i₀ :: rest₀) :: k₀) :: cs)) := by
  rw [enter10]
  refine runKeeper okProgT hn hm hBd hL hR (fun hbad wl' hL' hK => ?_) (fun κ h1 h2 h3 hb hw0 hw h4 C' b₁ sa st wl' hL' hK h5 h6 h7 s1 s2 => ?_)
  · obtain ⟨rfl, rfl, rfl, rfl, rfl⟩ := (Kd.one (.inl ⟨hbad, rfl, rfl, rfl, rfl, rfl⟩) hD : _)
    exact Can.mono (h C b o none none 0 0 wl' hL' hK ⟨.inl rfl, .inl rfl, (fun x e => by cases e), (fun x e => by cases e)⟩) (AloneB.mono (by omega))
  · have hv : (vK q f t && vT J) = true := by
      have a1 : vK q f t = true := vK_true (by omega) (by omega) (by omega) (by omega) (by rw [h1]; cases κ.rule <;> simp [Rule.text])
      rw [a1, h4]; rfl
    obtain ⟨rfl, rfl, rfl, rfl, rfl⟩ := (Kd.one (.inr ⟨κ, h1, h2, h3, hv, rfl, rfl, rfl, rfl, rfl⟩) hD : _)
    have := h C' b₁ 5 (some ⟨sa, 0, none⟩) (some ⟨st, 0, none⟩) J.length J.length wl' hL' hK ⟨nums_ints (w := wl') (x := sa) s1, nums_ints (w := wl') (x := st) s2, (fun x e => by cases e; exact h5), (fun x e => by cases e; exact h6)⟩
    simpa using this
theorem kd_ex (q : List UInt8) (f t : Int) (J : List (List Int)) : ∃ g R1 R2 E A, Kd q f t J g R1 R2 E A := by
  cases h : (vK q f t && vT J) with
  | false => exact ⟨false, [], [], ⟨#[]⟩, 0, .inl ⟨h, rfl, rfl, rfl, rfl, rfl⟩⟩
  | true =>
    have h' := h
    simp only [Bool.and_eq_true] at h'
    obtain ⟨κ, h1, h2, h3, _⟩ := vK_spec h'.1
    exact ⟨true, _, _, _, _, .inr ⟨κ, h1, h2, h3, h, rfl, rfl, rfl, rfl, rfl⟩⟩
end
end Go.Town.Kp
namespace Go.Town.Kp
open Go Go.Conc Go.Conc.Lib Go.ConcR.Gen Go.RowKit Go.Town Go.Proofs
open Go.ConcN (upd upd_ne upd_same)
def SumsPost (l : List UInt8) (f t n : Int) (J : List (List Int)) (w : World) (e : Ending) (w' : World) : Prop :=
  Below w.heap.size w w' ∧ (((vK l f t && vT J && vA n) = false ∧ ∃ a, e = .returned (.tuple #[.slice (some a) 0 0, .bool false])) ∨
    ∃ (κ : Kr) (tn sa : Nat), l = κ.rule.text.data.toList ∧ f = (κ.bear : Nat) ∧ t = (κ.win : Nat) ∧ n = (tn : Nat) ∧ (vK l f t && vT J && vA n) = true ∧ e = .returned (.tuple #[.slice (some ⟨sa, 0, none⟩) J.length J.length, .bool true]) ∧ NumsAt w' sa (runT κ J tn 0 St.zero).1.sum J.length ∧ w.heap.size ≤ sa)
set_option maxRecDepth 100000 in
set_option maxHeartbeats 4000000 in
theorem specSums_any {l : List UInt8} {f t n : Int} {J : List (List Int)} {ta : Option Addr} {tc : Nat} {w : World} (hn : J.length ≤ 1048576) (hm : ∀ l ∈ J, l.length ≤ 1048576) (hR : RowsAt w ta J) :
    Calls Try.prog 15 #[.agg #[.string ⟨l.toArray⟩, .int .i64 f, .int .i64 t], .slice ta J.length tc, .int .i64 n] w (SumsPost l f t n J w) := by
  have c26 : Hid (∀ w, Calls Try.prog 26 #[.agg #[.string ⟨l.toArray⟩, .int .i64 f, .int .i64 t]] w fun e w' => e = .returned (.bool (vK l f t)) ∧ Below w.heap.size w w') := ⟨fun w => specKeeperValid_any l f t w⟩
  have c38 : Hid (∀ w', Below w.heap.size w w' → Calls Try.prog 38 #[.slice ta J.length tc] w' fun e w'' => e = .returned (.bool (vT J)) ∧ w' = w'') := ⟨fun w' hb => specTasksValid_any ta tc J w' hn hm (hR.below hb (Nat.le_refl _))⟩
  have c43 : Hid (∀ w, Calls Try.prog 43 #[.int .i64 n, .int .i64 0, .int .i64 20] w fun e w' => e = .returned (.bool (vA n)) ∧ w = w') := ⟨fun w => l1In_any n 0 20 w⟩
  have hB1 : ∀ o, Below w.heap.size w (w.alloc o) := fun o => (Below.refl _ _).alloc (Nat.le_refl _) _
  cases hk : vK l f t with
  | false =>
    rw [hk] at c26
    have hall : Hid ((vK l f t && vT J && vA n) = false) := ⟨by rw [hk]; rfl⟩
    clear hk
    go_enter Try.func15, Try.ntmps15
    go_wp2_with (go_at_call 26; (with_reducible refine (c26.out _).mono ?_); rintro e w' ⟨rfl, hb⟩)
    refine bodyPost_ret (v := .tuple #[.slice (some ⟨w'.heap.size, 0, none⟩) 0 0, .bool false]) (by simp [results, Try.results15, go_sem]) rfl ?_
    have hb2 := (hB1 (.cells #[.string ⟨l.toArray⟩, .int .i64 f, .int .i64 t] 24)).trans (hb.mono (by simp))
    exact ⟨hb2.alloc hb2.size _, .inl ⟨hall.out, _, rfl⟩⟩
  | true =>
    rw [hk] at c26
    cases hv : vT J with
    | false =>
      rw [hv] at c38
      have hall : Hid ((vK l f t && vT J && vA n) = false) := ⟨by rw [hk, hv]; rfl⟩
      clear hk hv
      go_enter Try.func15, Try.ntmps15
      go_wp2_with (go_at_call 26; (with_reducible refine (c26.out _).mono ?_); rintro e w' ⟨rfl, hb⟩)
      have hb2 := (hB1 (.cells #[.string ⟨l.toArray⟩, .int .i64 f, .int .i64 t] 24)).trans (hb.mono (by simp))
      refine (c38.out _ hb2).mono ?_
      rintro e w'' ⟨rfl, rfl⟩
      go_wp2
      refine bodyPost_ret (v := .tuple #[.slice (some ⟨w'.heap.size, 0, none⟩) 0 0, .bool false]) (by simp [results, Try.results15, go_sem]) rfl ?_
      exact ⟨hb2.alloc hb2.size _, .inl ⟨hall.out, _, rfl⟩⟩
    | true =>
      rw [hv] at c38
      cases ha : vA n with
      | false =>
        rw [ha] at c43
        have hall : Hid ((vK l f t && vT J && vA n) = false) := ⟨by rw [hk, hv, ha]; rfl⟩
        clear hk hv ha
        go_enter Try.func15, Try.ntmps15
        go_wp2_with (go_at_call 26; (with_reducible refine (c26.out _).mono ?_); rintro e w' ⟨rfl, hb⟩)
        have hb2 := (hB1 (.cells #[.string ⟨l.toArray⟩, .int .i64 f, .int .i64 t] 24)).trans (hb.mono (by simp))
        refine (c38.out _ hb2).mono ?_
        rintro e w'' ⟨rfl, rfl⟩
        go_wp2_with (go_at_call 43; (with_reducible refine (c43.out _).mono ?_); rintro e w'' ⟨rfl, rfl⟩)
        refine bodyPost_ret (v := .tuple #[.slice (some ⟨w'.heap.size, 0, none⟩) 0 0, .bool false]) (by simp [results, Try.results15, go_sem]) rfl ?_
        exact ⟨hb2.alloc hb2.size _, .inl ⟨hall.out, _, rfl⟩⟩
      | true =>
        rw [ha] at c43
        have hall : Hid ((vK l f t && vT J && vA n) = true) := ⟨by rw [hk, hv, ha]; rfl⟩
        obtain ⟨κ, rfl, rfl, rfl, k1, k2, k3⟩ := vK_spec hk
        obtain ⟨v1, v2, v3, v4⟩ := vT_spec hv
        obtain ⟨tn, rfl, htn⟩ : ∃ tn : Nat, n = (tn : Nat) ∧ tn ≤ 20 := by
          simp only [vA, Bool.and_eq_true, decide_eq_true_eq] at ha
          exact ⟨n.toNat, by omega, by omega⟩
        clear hk hv ha
        have c39 : Hid (∀ w', Below w.heap.size w w' → Calls Try.prog 39 #[.agg #[.string κ.rule.text, .int .i64 (κ.bear : Nat), .int .i64 (κ.win : Nat)], .slice ta J.length tc, .int .i64 (tn : Nat)] w' (RunPost κ J tn w')) := ⟨fun w' hb => l9Run_any v3 v2 v1 hm htn k2 k3 (hR.below hb (Nat.le_refl _))⟩
        simp only [text_list] at c26 ⊢
        have hl : Hid (κ.rule.text.data.toList = κ.rule.text.data.toList) := ⟨rfl⟩
        go_enter Try.func15, Try.ntmps15
        go_wp2_with (go_at_call 26; (with_reducible refine (c26.out _).mono ?_); rintro e w' ⟨rfl, hb⟩)
        have hb2 := (hB1 (.cells #[.string κ.rule.text, .int .i64 (κ.bear : Nat), .int .i64 (κ.win : Nat)] 24)).trans (hb.mono (by simp))
        refine (c38.out _ hb2).mono ?_
        rintro e w'' ⟨rfl, rfl⟩
        have k0 : w'.cell? ⟨w.heap.size, 0, none⟩ = some (.string κ.rule.text) := (hb.cell (p := ⟨w.heap.size, 0, none⟩) (by simp)).trans (cell_new rfl)
        have kk1 : w'.cell? ⟨w.heap.size, 1, none⟩ = some (.int .i64 (κ.bear : Nat)) := (hb.cell (p := ⟨w.heap.size, 1, none⟩) (by simp)).trans (cell_new rfl)
        have kk2 : w'.cell? ⟨w.heap.size, 2, none⟩ = some (.int .i64 (κ.win : Nat)) := (hb.cell (p := ⟨w.heap.size, 2, none⟩) (by simp)).trans (cell_new rfl)
        go_wp2_with (go_at_call 43; (with_reducible refine (c43.out _).mono ?_); rintro e w'' ⟨rfl, rfl⟩)
        refine (c39.out _ hb2).mono ?_
        rintro e w3 ⟨sa, st, fa, fl, fc, he, s1, s2, hb3, a1, a2, a3⟩
        have he : e = .returned (.tuple #[.agg #[.string κ.rule.text, .int .i64 (κ.bear : Nat), .int .i64 (κ.win : Nat), .slice (some ⟨sa, 0, none⟩) J.length J.length, .slice (some ⟨st, 0, none⟩) J.length J.length, .slice fa fl fc, .string (endText (runT κ J tn 0 St.zero).1.over)], .int .i64 ((runT κ J tn 0 St.zero).2 : Nat)]) := he
        subst he
        have hpost : Hid (NumsAt w3 sa (runT κ J tn 0 St.zero).1.sum J.length) := ⟨s1⟩
        clear s1 s2
        generalize endText (runT κ J tn 0 St.zero).1.over = E at *
        generalize (runT κ J tn 0 St.zero).2 = E2 at *
        go_wp2
        have hb4 := hb2.trans (hb3.mono hb2.size)
        have hz := hb2.size
        refine bodyPost_ret (v := .tuple #[.slice (some ⟨sa, 0, none⟩) J.length J.length, .bool true]) (by simp [results, Try.results15, go_sem]) rfl ?_
        exact ⟨hb4.alloc hb4.size _, .inr ⟨κ, tn, sa, rfl, rfl, rfl, rfl, hall.out, rfl, hpost.out.alloc _, by omega⟩⟩
end Go.Town.Kp
namespace Go.Town.Kp
open Go Go.Conc Go.Conc.Lib Go.ConcR.Gen Go.RowKit Go.Town Go.Proofs
open Go.ConcN (upd upd_ne upd_same)
theorem mxR_up {J : List (List Int)} : ∀ k m, k ≤ m → mxR J k ≤ mxR J m
  | k, 0, h => by
    obtain rfl : k = 0 := by omega
    exact Nat.le_refl _
  | k, m + 1, h => by
    by_cases e : k = m + 1
    · subst e; exact Nat.le_refl _
    · have := mxR_up (J := J) k m (by omega)
      simp only [mxR]; omega
theorem len_mxR {J : List (List Int)} {k : Nat} (h : k < J.length) : (J.getD k []).length ≤ mxR J J.length := by
  have h2 := mxR_up (J := J) (k + 1) J.length (by omega)
  simp only [mxR] at h2
  omega
theorem runW_stay {κ : Kr} {J : List (List Int)} {t : Nat} (ht : mxR J J.length ≤ t) : ∀ (m i : Nat) (s : St), i + m ≤ J.length → s.over = false → runW κ J t m i s = s
  | 0, _, _, _, _ => rfl
  | m + 1, i, s, hm, ho => by
    have e : stepW κ J t i s = s := by
      unfold stepW
      have := len_mxR (J := J) (k := i) (by omega)
      rw [List.getElem?_eq_none (by omega)]
    unfold runW
    rw [e, ho]
    simp only [Bool.false_eq_true, if_false]
    exact runW_stay ht m (i + 1) s (by omega) ho
theorem runT_stay {κ : Kr} {J : List (List Int)} : ∀ (m t : Nat) (s : St), mxR J J.length ≤ t → s.over = false → (runT κ J m t s).1 = s
  | 0, _, _, _, _ => rfl
  | m + 1, t, s, ht, ho => by
    have e : tickW κ J t s = s := runW_stay ht J.length 0 s (by omega) ho
    unfold runT
    rw [e, ho]
    simp only [Bool.false_eq_true, if_false]
    exact runT_stay m (t + 1) s (by omega) ho
theorem runT_more {κ : Kr} {J : List (List Int)} (e : Nat) : ∀ (m t : Nat) (s : St), mxR J J.length ≤ t + m → s.over = false → (runT κ J (m + e) t s).1 = (runT κ J m t s).1
  | 0, t, s, ht, ho => by
    rw [Nat.zero_add, runT_stay e t s (by omega) ho]; rfl
  | m + 1, t, s, ht, ho => by
    rw [show m + 1 + e = m + e + 1 by omega]
    unfold runT
    split
    · rfl
    · rename_i h
      exact runT_more e m (t + 1) _ (by omega) (by simpa using h)
theorem runT_all {κ : Kr} {J : List (List Int)} {n : Nat} (hn : mxR J J.length ≤ n) : (runT κ J n 0 St.zero).1 = (runT κ J (mxR J J.length) 0 St.zero).1 := by
  have := runT_more (κ := κ) (J := J) (n - mxR J J.length) (mxR J J.length) 0 St.zero (by omega) rfl
  rwa [show mxR J J.length + (n - mxR J J.length) = n by omega] at this
def cutJ (n : Nat) (J : List (List Int)) : List (List Int) := J.map (List.take n)
theorem cutJ_length (n : Nat) (J : List (List Int)) : (cutJ n J).length = J.length := by simp [cutJ]
theorem cutJ_getD (n : Nat) (J : List (List Int)) (i : Nat) : (cutJ n J).getD i [] = (J.getD i []).take n := by
  unfold cutJ
  by_cases h : i < J.length
  · simp [List.getD, h]
  · simp [List.getD, List.getElem?_eq_none (show J.length ≤ i by omega)]
theorem mxR_cut (n : Nat) (J : List (List Int)) : ∀ k, mxR (cutJ n J) k = min n (mxR J k)
  | 0 => by simp [mxR]
  | k + 1 => by
    have := mxR_cut n J k
    simp only [mxR, this, cutJ_getD, List.length_take]
    omega
theorem tickW_cut {κ : Kr} {J : List (List Int)} {n t : Nat} (ht : t < n) (s : St) : tickW κ (cutJ n J) t s = tickW κ J t s := by
  have step : ∀ i s, stepW κ (cutJ n J) t i s = stepW κ J t i s := fun i s => by
    unfold stepW
    rw [cutJ_getD, List.getElem?_take_of_lt ht, cutJ_length]
  have run : ∀ m i s, runW κ (cutJ n J) t m i s = runW κ J t m i s := by
    intro m
    induction m with
    | zero => intro i s; rfl
    | succ m ih => intro i s; simp only [runW, step, ih]
  unfold tickW
  rw [cutJ_length]
  exact run _ _ _
theorem runT_cut {κ : Kr} {J : List (List Int)} {n : Nat} : ∀ (m t : Nat) (s : St), t + m ≤ n → runT κ (cutJ n J) m t s = runT κ J m t s
  | 0, _, _, _ => rfl
  | m + 1, t, s, h => by
    unfold runT
    rw [tickW_cut (by omega), runT_cut m (t + 1) _ (by omega)]
theorem runT_cut_all {κ : Kr} {J : List (List Int)} (n : Nat) : (runT κ (cutJ n J) (mxR (cutJ n J) (cutJ n J).length) 0 St.zero).1 = (runT κ J n 0 St.zero).1 := by
  rw [cutJ_length, mxR_cut, runT_cut _ _ _ (by omega)]
  by_cases h : n ≤ mxR J J.length
  · rw [show min n (mxR J J.length) = n by omega]
  · rw [show min n (mxR J J.length) = mxR J J.length by omega, runT_all (n := n) (by omega)]
theorem vT_cut {J : List (List Int)} (n : Nat) (h : vT J = true) : vT (cutJ n J) = true := by
  unfold vT at h ⊢
  simp only [Bool.and_eq_true, decide_eq_true_eq, List.all_eq_true, cutJ_length] at h ⊢
  refine ⟨h.1, fun l hl => ?_⟩
  simp only [cutJ, List.mem_map] at hl
  obtain ⟨l', hl', rfl⟩ := hl
  have := h.2 l' hl'
  simp only [rowOk, Bool.and_eq_true, decide_eq_true_eq, List.all_eq_true] at this ⊢
  exact ⟨by rw [List.length_take]; omega, fun v hv => this.2 v (List.mem_of_mem_take hv)⟩
end Go.Town.Kp
