/-
  markIntS, heldIntS; the walk of the law FnExactParseNumbers.
-/
import Derived.Test.YtkkcnkajffbnaaaDoorV7
namespace Go.Proofs.YtkkcnkajffbnaaaDoor
open Go.RowKit

theorem blk_set {w : World} {b o : Nat} {c : Array Value} {t : TypeId} {f : Nat × Nat} (h : w.heap[b]? = some (.cells c t f)) (v : Value) : (w.setCell ⟨b, o, none⟩ v).heap[b]? = some (.cells (c.setIfInBounds o v) t f) := by
  simp only [World.setCell, Array.getElem?_modify]
  simp [h]
theorem blk_cell {w : World} {b o : Nat} {c : Array Value} {t : TypeId} {f : Nat × Nat} (h : w.heap[b]? = some (.cells c t f)) : w.cell? ⟨b, o, none⟩ = c[o]? := by
  simp [World.cell?, h]
theorem blk_frozen {w : World} {b o : Nat} {c : Array Value} {t : TypeId} (h : w.heap[b]? = some (.cells c t (0, 0))) : w.frozen? ⟨b, o, none⟩ = false := by
  simp [World.frozen?, h]

def marks (n : Nat) : List Int := (List.range n).map fun (i : Nat) => (1 + i : Int)
theorem marks_length (n : Nat) : (marks n).length = n := by simp [marks]
theorem marks_at (n i : Nat) (h : i < (marks n).length) : (marks n)[i] = 1 + (i : Int) := by simp [marks]

theorem ints_of_row {w : World} {base : Nat} {v : Value} {ns : List Int} (h : w.ownsRow base 3 1 v ns.length (ns.map (Value.int .i64))) : ∃ a c, v = .slice a ns.length c ∧ IntsAt w a ns := by
  rcases h.2 with ⟨rfl, h0⟩ | ⟨g, cap, cur, rfl, _, hg, hc, _, _, htake⟩
  · have : ns = [] := List.length_eq_zero_iff.1 h0
    subst this
    exact ⟨_, _, rfl, .inl rfl⟩
  · refine ⟨_, _, rfl, .inr ⟨g, 0, rfl, (Array.getElem?_eq_some_iff.1 hg).1, fun i hi => ?_⟩⟩
    rw [blk_cell hg, Nat.zero_add, ← Array.getElem?_toList]
    have h3 : (cur.toList.take (ns.length * 1))[i]? = some (.int .i64 ns[i]) := by rw [htake]; simp [hi]
    rw [List.getElem?_take_of_lt (by omega)] at h3
    rw [h3]; simp [List.getD, hi]

set_option maxRecDepth 100000 in
set_option maxHeartbeats 400000 in
theorem markIntS_any (v : Value) (base n : Nat) (xs : List Value) (w : World) (hn : n ≤ 1048576) (hown : w.ownsRow base 3 1 v n xs) :
    Calls Tryd.prog 20 #[v, .int .i64 1] w fun e w' => e = .returned (.int .i64 (1 + n)) ∧ (∃ a c, v = .slice a n c ∧ IntsAt w' a (marks n)) ∧ Below base w w' := by
  rcases hown.2 with ⟨rfl, h0⟩ | ⟨g, cap, cur, rfl, hb, hg, hcap, _, hcs, _⟩
  · subst h0
    go_enter Tryd.func20, Tryd.ntmps20
    go_wp2
    go_loopw [1, 5] (fun m i wr => m = .int .i64 1 ∧ i = .int .i64 0 ∧ w = wr) (fun _ _ _ => 0)
    case atStart => exact ⟨rfl, rfl, rfl⟩
    case round =>
      obtain ⟨rfl, rfl, rfl⟩ := hrel
      go_wp2
      go_ret
      exact ⟨rfl, ⟨_, _, rfl, .inl rfl⟩, Below.refl _ _⟩
  · go_enter Tryd.func20, Tryd.ntmps20
    go_wp2
    go_loopw [1, 5] (fun m i wr => ∃ (k : Nat) (cu : Array Value), k ≤ n ∧ i = .int .i64 k ∧ m = .int .i64 (1 + k) ∧ wr.heap[g]? = some (.cells cu 3 (0, 0)) ∧ cu.size = cap ∧ (∀ j : Nat, j < k → cu[j]? = some (.int .i64 (1 + j))) ∧ Below base w wr) (fun _ i _ => n - (intOf i).toNat)
    case atStart => exact ⟨0, cur, Nat.zero_le _, rfl, rfl, hg, by omega, fun j hj => by omega, Below.refl _ _⟩
    case round =>
      obtain ⟨k, cu, hk, rfl, rfl, hgu, hcu, hall, hbl⟩ := hrel
      by_cases hlt : k < n
      · have hcell : ∃ x, wr.cell? ⟨g, k, none⟩ = some x := ⟨_, (blk_cell hgu).trans (Array.getElem?_eq_getElem (by omega))⟩
        obtain ⟨x, hcell⟩ := hcell
        have hfr : wr.frozen? ⟨g, k, none⟩ = false := blk_frozen hgu
        have hset := Lib.hid (blk_set hgu (o := k) (.int .i64 (1 + k)))
        have hall2 : Hid (∀ j : Nat, j < k + 1 → (cu.setIfInBounds k (.int .i64 (1 + k)))[j]? = some (.int .i64 (1 + j))) := by
          intro j hj
          rw [Array.getElem?_setIfInBounds]
          by_cases e : k = j
          · subst e; simp; omega
          · rw [if_neg e]; exact hall j (by omega)
        have hsz2 : Hid ((cu.setIfInBounds k (.int .i64 (1 + k))).size = cap) := by rw [Hid, Array.size_setIfInBounds]; exact hcu
        clear hall hgu hcu hg hcs
        go_wp2
        go_roundw
        case rel => exact ⟨k + 1, _, by omega, by go_num, by go_num, hset.out, hsz2, hall2, hbl.setCell (p := ⟨g, k, none⟩) hb _⟩
        case measure => simp [intOf]; omega
      · obtain rfl : k = n := by omega
        go_wp2
        go_ret
        refine ⟨rfl, ⟨_, _, rfl, .inr ⟨g, 0, rfl, (Array.getElem?_eq_some_iff.1 hgu).1, fun i hi => ?_⟩⟩, hbl⟩
        rw [marks_length] at hi
        rw [blk_cell hgu, Nat.zero_add, hall i hi]
        simp [List.getD, marks, hi]

set_option maxRecDepth 100000 in
set_option maxHeartbeats 400000 in
theorem heldIntS_any (a : Option Addr) (c n : Nat) (w : World) (hn : n ≤ 1048576) (hA : IntsAt w a (marks n)) :
    Calls Tryd.prog 21 #[.slice a n c, .int .i64 1] w fun e w' => e = .returned (.int .i64 (1 + n)) ∧ Below w.heap.size w w' := by
  go_enter Tryd.func21, Tryd.ntmps21
  go_wp2
  go_loopw [1, 5] (fun m i wr => ∃ k : Nat, k ≤ n ∧ i = .int .i64 k ∧ m = .int .i64 (1 + k) ∧ Below w.heap.size w wr) (fun _ i _ => n - (intOf i).toNat)
  case atStart => exact ⟨0, Nat.zero_le _, rfl, rfl, Below.refl _ _⟩
  case round =>
    obtain ⟨k, hk, rfl, rfl, hb⟩ := hrel
    by_cases hlt : k < n
    · obtain ⟨b, off, rfl, hbs, hck⟩ := (hA.below hb (Nat.le_refl _)).at (i := k) (by rw [marks_length]; exact hlt)
      rw [marks_at] at hck
      go_wp2
      go_roundw
      case rel => exact ⟨k + 1, by omega, by go_num, by go_num, hb⟩
      case measure => simp [intOf]; omega
    · obtain rfl : k = n := by omega
      go_wp2
      go_ret
      exact ⟨rfl, hb⟩

set_option maxRecDepth 100000 in
set_option maxHeartbeats 400000 in
theorem lawPN (s : ByteArray) (w : World) (hE : EnvP w) :
    Calls Tryd.prog 5 #[.string s] w fun e w' => e = .returned (.bool true) ∧ Below w.heap.size w w' := by
  by_cases hn : s.size ≤ 1048576
  · have hn' : ¬ (1048576 : Int) < (s.size : Int) := by omega
    have hsp := Lib.hid (fun w => specPN s w hn)
    have him := Lib.hid (fun w h => implPN s w hn h)
    have hcl : ((parseN s.data.toList).getD []).length ≤ 1048576 := by
      unfold parseN
      split
      · simp
      split
      · simp
      · cases h : allOk okN (cuts 32 s.data.toList) with
        | none => simp
        | some ns => have := allOk_length h; simp only [Option.getD_some]; omega
    generalize (parseN s.data.toList).isSome = ok at *
    generalize (parseN s.data.toList).getD [] = ns at *
    have hml : (marks ns.length).length = ns.length := marks_length _
    go_enter Tryd.func5, Tryd.ntmps5
    go_wp2_with fail
    refine (hsp.out _).mono ?_
    rintro e w1 ⟨v0, rfl, hr0, hb1⟩
    obtain ⟨a0, c0, rfl, hi0⟩ := ints_of_row hr0
    clear hr0
    go_wp2_with fail
    refine (him.out _ (hE.below hb1 (Nat.le_refl _))).mono ?_
    rintro e w2 ⟨v1, rfl, hr1, hb2⟩
    obtain ⟨a1, c1, rfl, hi1⟩ := ints_of_row hr1
    go_wp2_with fail
    refine (eqIntS_same _ _ _ _ ns _ hcl hi1 (hi0.below hb2 (Nat.le_refl _))).mono ?_
    rintro e w3 ⟨rfl, hb3⟩
    have hr3 := ownsRow_below hr1 hb3 (Nat.le_refl _)
    have hb13 : Below w1.heap.size w1 w3 := hb2.trans (hb3.mono hb2.size)
    clear hr1 hi1
    go_wp2_with fail
    refine (markIntS_any _ _ ns.length _ _ hcl hr3).mono ?_
    rintro e w4 ⟨rfl, ⟨a, c, hac, hm4⟩, hb4⟩
    obtain ⟨rfl, rfl⟩ : a1 = a ∧ c1 = c := by injection hac with h1 h2 h3; exact ⟨h1, h3⟩
    have hb14 := hb13.trans hb4
    clear hr3 hac
    go_wp2_with fail
    refine (heldIntS_any _ _ ns.length _ hcl hm4).mono ?_
    rintro e w5 ⟨rfl, hb5⟩
    have hb15 : Below w1.heap.size w1 w5 := hb14.trans (hb5.mono hb14.size)
    have hm5 := hm4.below hb5 (Nat.le_refl _)
    have hp1 : ¬ (1 + (ns.length : Int)) < 0 := by omega
    go_wp2_with fail
    refine (him.out _ ((hE.below hb1 (Nat.le_refl _)).below hb15 (Nat.le_refl _))).mono ?_
    rintro e w6 ⟨v2, rfl, hr2, hb6⟩
    obtain ⟨a2, c2, rfl, hi2⟩ := ints_of_row hr2
    have hb16 : Below w1.heap.size w1 w6 := hb15.trans (hb6.mono hb15.size)
    have hm6 := hm5.below hb6 (Nat.le_refl _)
    clear hr2
    go_wp2_with fail
    refine (eqIntS_same _ _ _ _ ns _ hcl hi2 (hi0.below hb16 (Nat.le_refl _))).mono ?_
    rintro e w7 ⟨rfl, hb7⟩
    have hb17 : Below w1.heap.size w1 w7 := hb16.trans (hb7.mono hb16.size)
    have hm7 := hm6.below hb7 (Nat.le_refl _)
    go_wp2_with fail
    refine (heldIntS_any _ _ ns.length _ hcl hm7).mono ?_
    rintro e w8 ⟨rfl, hb8⟩
    have hb18 : Below w1.heap.size w1 w8 := hb17.trans (hb8.mono hb17.size)
    go_wp2
    go_ret
    exact ⟨rfl, hb1.trans (hb18.mono hb1.size)⟩
  · have hn' : (1048576 : Int) < (s.size : Int) := by omega
    go_enter Tryd.func5, Tryd.ntmps5
    go_wp2
    go_ret
    exact ⟨rfl, Below.refl _ _⟩
end Go.Proofs.YtkkcnkajffbnaaaDoor
