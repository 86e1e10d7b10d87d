/-
  markText, markDeedS, heldDeedS; the walk of the law FnExactParsePlan.
-/
import Derived.Test.YtkkcnkajffbnaaaDoorY6
import Derived.Test.YtkkcnkajffbnaaaDoorU2
import Derived.Test.YtkkcnkajffbnaaaDoorV8
namespace Go.Proofs.YtkkcnkajffbnaaaDoor
open Go.RowKit

/-- The text of a mark. -/
def mtx (k : Nat) : List UInt8 := 109 :: Lib.decDigits k
def mkTo (v : Nat) (l : List UInt8) : List UInt8 := if v = 0 then l else decTo v l
theorem mkTo_step {v : Nat} (l : List UInt8) (h : 0 < v) : mkTo (v / 10) (UInt8.ofNat (48 + v % 10) :: l) = mkTo v l := by
  unfold mkTo
  rw [if_neg (by omega : ¬ v = 0)]
  by_cases h9 : 9 < v
  · rw [if_neg (by omega), decTo_step _ _ h9]
  · rw [if_pos (by omega), decTo_last _ _ (by omega), Nat.mod_eq_of_lt (by omega)]
theorem mkTo_len {v u : Nat} {l : List UInt8} (h : mkTo v l = Lib.decDigits u) (hu : u ≤ 9223372036854775807) : l.length ≤ 21 := by
  unfold mkTo at h
  split at h
  · have := decTo_len (v := u) (l := []) (u := u) (by simp [decTo]) hu
    have h2 := Lib.itoa_length_le (u : Int) (by omega) (by omega)
    rw [itoa_pos' _ (by omega)] at h2
    rw [h]; simpa using h2
  · exact decTo_len h hu
theorem mtx_len {k : Nat} (hk : k ≤ 9223372036854775807) : (mtx k).length ≤ 23 := by
  have h2 := Lib.itoa_length_le (k : Int) (by omega) (by omega)
  rw [itoa_pos' _ (by omega)] at h2
  have h3 : (Lib.decDigits k).length ≤ 21 := by simpa using h2
  simp [mtx]; omega

set_option maxRecDepth 100000 in
set_option maxHeartbeats 400000 in
theorem markText_any (u : Nat) (w : World) (h0 : 0 < u) (hu : u ≤ 9223372036854775807) :
    Calls Tryd.prog 52 #[.int .i64 (u : Int)] w fun e w' => e = .returned (.string ⟨(mtx u).toArray⟩) ∧ Below w.heap.size w w' := by
  have h1 : ¬ (u : Int) ≤ 0 := by omega
  go_enter Tryd.func52, Tryd.ntmps52
  go_wp2
  go_loopw [0, 3] (fun n out wr => ∃ (v : Nat) (l : List UInt8), n = .int .i64 (v : Int) ∧ v ≤ 9223372036854775807 ∧ out = .string ⟨l.toArray⟩ ∧ Hid (mkTo v l = Lib.decDigits u) ∧ Below w.heap.size w wr) (fun n _ _ => (intOf n).toNat)
  case atStart => exact ⟨u, [], rfl, hu, rfl, by simp [Hid, mkTo, decTo]; omega, Below.refl _ _⟩
  case round =>
    obtain ⟨v, l, rfl, hv, rfl, H, hb⟩ := hrel
    have hll := mkTo_len H.out hu
    by_cases hlt : 0 < v
    · have hlt' : (0 : Int) < (v : Int) := by omega
      obtain ⟨c, hc⟩ : ∃ c : UInt8, UInt8.ofNat (48 + v % 10) = c := ⟨_, rfl⟩
      have hcv := conv_byte wr (48 + (v : Int) % 10)
      rw [show (48 + (v : Int) % 10).toNat = 48 + v % 10 from by omega, hc] at hcv
      have H2 : Hid (mkTo (v / 10) (c :: l) = Lib.decDigits u) := by rw [Hid, ← hc, mkTo_step _ hlt]; exact H.out
      clear hc
      go_wp2
      go_roundw
      case rel => exact ⟨v / 10, c :: l, by go_num, by omega, val_str (bs_cons _ _), H2, hb.alloc hb.size _⟩
      case measure => simp [intOf]; omega
    · obtain rfl : v = 0 := by omega
      have H2 : Hid (l = Lib.decDigits u) := by have := H.out; unfold mkTo at this; rw [Hid]; simpa using this
      go_wp2
      go_ret
      exact ⟨ret_str (by rw [bs_cons, H2.out]; rfl), hb⟩

def markD (n : Nat) : List Dd := (List.range n).map fun (i : Nat) => ⟨mtx (1 + 3 * i), 2 + 3 * (i : Int), 3 + 3 * (i : Int)⟩
theorem markD_length (n : Nat) : (markD n).length = n := by simp [markD]
theorem markD_at (n i : Nat) (h : i < (markD n).length) : (markD n)[i] = ⟨mtx (1 + 3 * i), 2 + 3 * (i : Int), 3 + 3 * (i : Int)⟩ := by simp [markD]

theorem markD_step {cu : Array Value} {k : Nat} {m : ByteArray} (h : ∀ j : Nat, j < k → cu[j * 3]? = some (.string ⟨(mtx (1 + 3 * j)).toArray⟩) ∧ cu[j * 3 + 1]? = some (.int .i64 (2 + 3 * (j : Int))) ∧ cu[j * 3 + 2]? = some (.int .i64 (3 + 3 * (j : Int))))
    (hm : m = ⟨(mtx (1 + 3 * k)).toArray⟩) (hs : k * 3 + 2 < cu.size) :
    let c := ((cu.setIfInBounds (k * 3) (.string m)).setIfInBounds (k * 3 + 1) (.int .i64 (1 + 3 * (k : Int) + 1))).setIfInBounds (k * 3 + 2) (.int .i64 (1 + 3 * (k : Int) + 1 + 1))
    ∀ j : Nat, j < k + 1 → c[j * 3]? = some (.string ⟨(mtx (1 + 3 * j)).toArray⟩) ∧ c[j * 3 + 1]? = some (.int .i64 (2 + 3 * (j : Int))) ∧ c[j * 3 + 2]? = some (.int .i64 (3 + 3 * (j : Int))) := by
  intro c j hj
  subst hm
  simp only [c, Array.getElem?_setIfInBounds, Array.size_setIfInBounds]
  by_cases e : j = k
  · subst e
    refine ⟨?_, ?_, ?_⟩
    · rw [if_neg (by omega), if_neg (by omega), if_pos rfl, if_pos (by omega)]
    · rw [if_neg (by omega), if_pos rfl, if_pos (by omega)]; congr 2; omega
    · rw [if_pos rfl, if_pos (by omega)]; congr 2; omega
  · obtain ⟨h0, h1, h2⟩ := h j (by omega)
    refine ⟨?_, ?_, ?_⟩ <;> rw [if_neg (by omega), if_neg (by omega), if_neg (by omega)] <;> assumption

set_option maxRecDepth 100000 in
set_option maxHeartbeats 400000 in
theorem markDeedS_any (v : Value) (base n : Nat) (xs : List Value) (w : World) (hn : n ≤ 1048576) (hbs : base ≤ w.heap.size) (hown : w.ownsRow base 47 3 v n xs) :
    Calls Tryd.prog 27 #[v, .int .i64 1] w fun e w' => e = .returned (.int .i64 (1 + 3 * n)) ∧ (∃ a c, v = .slice a n c ∧ DeedsAt w' a (markD n)) ∧ Below base w w' := by
  rcases hown.2 with ⟨rfl, h0⟩ | ⟨g, cap, cur, rfl, hb, hg, hcap, _, hcs, _⟩
  · subst h0
    go_enter Tryd.func27, Tryd.ntmps27
    go_wp2
    go_loopw [1, 5] (fun m i wr => m = .int .i64 1 ∧ i = .int .i64 0 ∧ w = wr) (fun _ _ _ => 0)
    case atStart => exact ⟨rfl, rfl, rfl⟩
    case round =>
      obtain ⟨rfl, rfl, rfl⟩ := hrel
      go_wp2
      go_ret
      exact ⟨rfl, ⟨_, _, rfl, .inl rfl⟩, Below.refl _ _⟩
  · go_enter Tryd.func27, Tryd.ntmps27
    go_wp2
    go_loopw [1, 5] (fun m i wr => ∃ (k : Nat) (cu : Array Value), k ≤ n ∧ i = .int .i64 k ∧ m = .int .i64 (1 + 3 * (k : Int)) ∧ wr.heap[g]? = some (.cells cu 47 (0, 0)) ∧ cu.size = cap * 3 ∧ (∀ j : Nat, j < k → cu[j * 3]? = some (.string ⟨(mtx (1 + 3 * j)).toArray⟩) ∧ cu[j * 3 + 1]? = some (.int .i64 (2 + 3 * (j : Int))) ∧ cu[j * 3 + 2]? = some (.int .i64 (3 + 3 * (j : Int)))) ∧ Below base w wr) (fun _ i _ => n - (intOf i).toNat)
    case atStart => exact ⟨0, cur, Nat.zero_le _, rfl, rfl, hg, by omega, fun j hj => by omega, Below.refl _ _⟩
    case round =>
      obtain ⟨k, cu, hk, rfl, rfl, hgu, hcu, hall, hbl⟩ := hrel
      by_cases hlt : k < n
      · have hlt' : (k : Int) < (n : Int) := by omega
        have hmt := Lib.hid (fun w => markText_any (1 + 3 * k) w (by omega) (by omega))
        rw [show (((1 + 3 * k : Nat) : Int)) = 1 + 3 * (k : Int) from by omega] at hmt
        generalize hmx : (⟨(mtx (1 + 3 * k)).toArray⟩ : ByteArray) = mx at *
        go_wp2_with fail
        refine (hmt.out _).mono ?_
        rintro e w1 ⟨rfl, hb1⟩
        have hglt : g < wr.heap.size := (Array.getElem?_eq_some_iff.1 hgu).1
        have hg1 : w1.heap[g]? = some (.cells cu 47 (0, 0)) := (hb1.block g hglt).trans hgu
        have hbl1 : Below base w w1 := hbl.trans (hb1.mono (by have := hbl.size; omega))
        obtain ⟨x0, hx0⟩ : ∃ x, w1.cell? ⟨g, k * 3, none⟩ = some x := ⟨_, (blk_cell hg1).trans (Array.getElem?_eq_getElem (by omega))⟩
        have hf0 : w1.frozen? ⟨g, k * 3, none⟩ = false := blk_frozen hg1
        have hg2 : (w1.setCell ⟨g, k * 3, none⟩ (.string mx)).heap[g]? = some (.cells (cu.setIfInBounds (k * 3) (.string mx)) 47 (0, 0)) := blk_set hg1 _
        obtain ⟨x1, hx1⟩ : ∃ x, (w1.setCell ⟨g, k * 3, none⟩ (.string mx)).cell? ⟨g, k * 3 + 1, none⟩ = some x := ⟨_, (blk_cell hg2).trans (Array.getElem?_eq_getElem (by rw [Array.size_setIfInBounds]; omega))⟩
        have hf1 : (w1.setCell ⟨g, k * 3, none⟩ (.string mx)).frozen? ⟨g, k * 3 + 1, none⟩ = false := blk_frozen hg2
        have hg3 : ((w1.setCell ⟨g, k * 3, none⟩ (.string mx)).setCell ⟨g, k * 3 + 1, none⟩ (.int .i64 (1 + 3 * (k : Int) + 1))).heap[g]? = some (.cells ((cu.setIfInBounds (k * 3) (.string mx)).setIfInBounds (k * 3 + 1) (.int .i64 (1 + 3 * (k : Int) + 1))) 47 (0, 0)) := blk_set hg2 _
        obtain ⟨x2, hx2⟩ : ∃ x, ((w1.setCell ⟨g, k * 3, none⟩ (.string mx)).setCell ⟨g, k * 3 + 1, none⟩ (.int .i64 (1 + 3 * (k : Int) + 1))).cell? ⟨g, k * 3 + 2, none⟩ = some x := ⟨_, (blk_cell hg3).trans (Array.getElem?_eq_getElem (by rw [Array.size_setIfInBounds, Array.size_setIfInBounds]; omega))⟩
        have hf2 : ((w1.setCell ⟨g, k * 3, none⟩ (.string mx)).setCell ⟨g, k * 3 + 1, none⟩ (.int .i64 (1 + 3 * (k : Int) + 1))).frozen? ⟨g, k * 3 + 2, none⟩ = false := blk_frozen hg3
        have hfin := Lib.hid (markD_step (m := mx) hall (by rw [← hmx]) (by omega : k * 3 + 2 < cu.size))
        clear hg hcs hall hgu hmx
        go_wp2
        all_goals
          go_roundw
          case rel => exact ⟨k + 1, _, by omega, by go_num, by go_num, blk_set hg3 _, by simp only [Array.size_setIfInBounds]; exact hcu, hfin.out, ((hbl1.setCell (p := ⟨g, k * 3, none⟩) hb _).setCell (p := ⟨g, k * 3 + 1, none⟩) hb _).setCell (p := ⟨g, k * 3 + 2, none⟩) hb _⟩
          case measure => simp [intOf]; omega
      · obtain rfl : k = n := by omega
        go_wp2
        go_ret
        refine ⟨rfl, ⟨_, _, rfl, .inr ⟨g, 0, rfl, (Array.getElem?_eq_some_iff.1 hgu).1, fun i hi => ?_⟩⟩, hbl⟩
        rw [markD_length] at hi
        have h3 := hall i hi
        simp only [Nat.zero_add, markD_at]
        rw [blk_cell hgu, blk_cell hgu, blk_cell hgu]
        exact h3

set_option maxRecDepth 100000 in
set_option maxHeartbeats 400000 in
theorem heldDeedS_any (a : Option Addr) (c n : Nat) (w : World) (hn : n ≤ 1048576) (hA : DeedsAt w a (markD n)) :
    Calls Tryd.prog 28 #[.slice a n c, .int .i64 1] w fun e w' => e = .returned (.int .i64 (1 + 3 * n)) ∧ Below w.heap.size w w' := by
  go_enter Tryd.func28, Tryd.ntmps28
  go_wp2
  go_loopw [1, 5] (fun m i wr => ∃ k : Nat, k ≤ n ∧ i = .int .i64 k ∧ m = .int .i64 (1 + 3 * (k : Int)) ∧ Below w.heap.size w wr) (fun _ i _ => n - (intOf i).toNat)
  case atStart => exact ⟨0, Nat.zero_le _, rfl, rfl, Below.refl _ _⟩
  case round =>
    obtain ⟨k, hk, rfl, rfl, hb⟩ := hrel
    by_cases hlt : k < n
    · have hlt' : (k : Int) < (n : Int) := by omega
      obtain ⟨b, off, rfl, hbs, c0, c1, c2⟩ := (hA.below hb (Nat.le_refl _)).at (i := k) (by rw [markD_length]; exact hlt)
      rw [markD_at] at c0 c1 c2
      simp only at c0 c1 c2
      have hmt := Lib.hid (fun w => markText_any (1 + 3 * k) w (by omega) (by omega))
      rw [show (((1 + 3 * k : Nat) : Int)) = 1 + 3 * (k : Int) from by omega] at hmt
      generalize hmx : (⟨(mtx (1 + 3 * k)).toArray⟩ : ByteArray) = mx at *
      clear hmx
      have r0 := cell_regrown c0
      have cM := fun d os => Calls.regrown_of (w := wr) (d := d) (os := os) (hmt.out _)
      go_wp2
      refine wp_region_quiet_below (by kernel_rfl) (by kernel_rfl) ?_
      repeat (first | go_big_quiet_step (first | (go_at_call 52; exact cM _ _)) | quiet_step (first | (go_at_call 52; exact cM _ _)))
      refine wpQuiet_nil ?_
      intro _ hw'
      obtain ⟨⟨dq, osq⟩, hw''⟩ := hw'
      subst hw''
      have hS := below_regrown wr dq osq
      have d1 := cell_regrown c1 dq osq
      have d2 := cell_regrown c2 dq osq
      obtain ⟨W9, hW9⟩ : ∃ W9, Go.Sort.grow (redrawn wr dq) osq = W9 := ⟨_, rfl⟩
      rw [hW9] at hS d1 d2 ⊢
      clear hW9 r0 cM
      go_wp2
      go_roundw
      case rel => exact ⟨k + 1, by omega, by go_num, by go_num, hb.trans (hS.mono hb.size)⟩
      case measure => simp [intOf]; omega
    · obtain rfl : k = n := by omega
      go_wp2
      go_ret
      exact ⟨rfl, hb⟩

set_option maxRecDepth 100000 in
set_option maxHeartbeats 400000 in
theorem lawPP (s : ByteArray) (w : World) (hE : EnvQ w) :
    Calls Tryd.prog 7 #[.string s] w fun e w' => e = .returned (.bool true) ∧ Below w.heap.size w w' := by
  by_cases hn : s.size ≤ 1048576
  · have hn' : ¬ (1048576 : Int) < (s.size : Int) := by omega
    have hsp := Lib.hid (fun w => specPP s w hn)
    have him := Lib.hid (fun w h => implPP s w hn h)
    have hcl : ((parseP s.data.toList).getD []).length ≤ 1048576 := by
      unfold parseP
      split
      · simp
      split
      · simp
      · cases h : allOk deedOf (cuts 44 s.data.toList) with
        | none => simp
        | some ns => have := allOk_length h; simp only [Option.getD_some]; omega
    generalize (parseP s.data.toList).isSome = ok at *
    generalize (parseP s.data.toList).getD [] = ns at *
    have hml : (markD ns.length).length = ns.length := markD_length _
    go_enter Tryd.func7, Tryd.ntmps7
    go_wp2_with fail
    refine (hsp.out _).mono ?_
    rintro e w1 ⟨v0, rfl, hr0, hb1⟩
    obtain ⟨a0, c0, rfl, hi0⟩ := deeds_of_row hr0
    clear hr0
    go_wp2_with fail
    refine (him.out _ (hE.below hb1 (Nat.le_refl _))).mono ?_
    rintro e w2 ⟨v1, rfl, hr1, hb2⟩
    obtain ⟨a1, c1, rfl, hi1⟩ := deeds_of_row hr1
    go_wp2_with fail
    refine (eqDeedS_same _ _ _ _ ns _ hcl hi1 (hi0.below hb2 (Nat.le_refl _))).mono ?_
    rintro e w3 ⟨rfl, hb3⟩
    have hr3 := ownsRow_below hr1 hb3 (Nat.le_refl _)
    have hb13 : Below w1.heap.size w1 w3 := hb2.trans (hb3.mono hb2.size)
    clear hr1 hi1
    go_wp2_with fail
    refine (markDeedS_any _ _ ns.length _ _ hcl (by have := hb2.size; have := hb3.size; omega) hr3).mono ?_
    rintro e w4 ⟨rfl, ⟨a, c, hac, hm4⟩, hb4⟩
    obtain ⟨rfl, rfl⟩ : a1 = a ∧ c1 = c := by injection hac with h1 h2 h3; exact ⟨h1, h3⟩
    have hb14 := hb13.trans hb4
    clear hr3 hac
    go_wp2_with fail
    refine (heldDeedS_any _ _ ns.length _ hcl hm4).mono ?_
    rintro e w5 ⟨rfl, hb5⟩
    have hb15 : Below w1.heap.size w1 w5 := hb14.trans (hb5.mono hb14.size)
    have hm5 := hm4.below hb5 (Nat.le_refl _)
    have hp1 : ¬ (1 + 3 * (ns.length : Int)) < 0 := by omega
    go_wp2_with fail
    refine (him.out _ ((hE.below hb1 (Nat.le_refl _)).below hb15 (Nat.le_refl _))).mono ?_
    rintro e w6 ⟨v2, rfl, hr2, hb6⟩
    obtain ⟨a2, c2, rfl, hi2⟩ := deeds_of_row hr2
    have hb16 : Below w1.heap.size w1 w6 := hb15.trans (hb6.mono hb15.size)
    have hm6 := hm5.below hb6 (Nat.le_refl _)
    clear hr2
    go_wp2_with fail
    refine (eqDeedS_same _ _ _ _ ns _ hcl hi2 (hi0.below hb16 (Nat.le_refl _))).mono ?_
    rintro e w7 ⟨rfl, hb7⟩
    have hb17 : Below w1.heap.size w1 w7 := hb16.trans (hb7.mono hb16.size)
    have hm7 := hm6.below hb7 (Nat.le_refl _)
    go_wp2_with fail
    refine (heldDeedS_any _ _ ns.length _ hcl hm7).mono ?_
    rintro e w8 ⟨rfl, hb8⟩
    have hb18 : Below w1.heap.size w1 w8 := hb17.trans (hb8.mono hb17.size)
    go_wp2
    go_ret
    exact ⟨rfl, hb1.trans (hb18.mono hb1.size)⟩
  · have hn' : (1048576 : Int) < (s.size : Int) := by omega
    go_enter Tryd.func7, Tryd.ntmps7
    go_wp2
    go_ret
    exact ⟨rfl, Below.refl _ _⟩
end Go.Proofs.YtkkcnkajffbnaaaDoor
