/-
  The walk of the law FnExactFormatNumbers: it returns true for every list of numbers, where the table of powers is laid.
-/
import Derived.Test.YtkkcnkajffbnaaaDoorT5
namespace Go.Proofs.YtkkcnkajffbnaaaDoor
open Go.RowKit

set_option maxRecDepth 100000 in
set_option maxHeartbeats 400000 in
theorem lawFN (a : Option Addr) (c : Nat) (zs : List Int) (w : World) (hz : ∀ n ∈ zs, InI n) (hA : IntsAt w a zs) (hE : Env w) :
    Calls Tryd.prog 3 #[.slice a zs.length c] w fun e w' => e = .returned (.bool true) ∧ Below w.heap.size w w' := by
  by_cases hn : zs.length ≤ 1048576
  · have hn' : ¬ (1048576 : Int) < (zs.length : Int) := by omega
    have hto := Lib.hid (fun w h => toIntS_any a c zs w hn h)
    go_enter Tryd.func3, Tryd.ntmps3
    go_wp2_with fail
    refine (hto.out _ hA).mono ?_
    rintro e w1 ⟨rfl, rfl⟩
    go_wp2_with fail
    refine (specFN _ _ zs _ hn hz (IntsAt.made w zs 3)).mono ?_
    rintro e w2 ⟨rfl, hb2⟩
    have hb2' : Below w.heap.size w w2 := ((Below.refl _ w).alloc (Nat.le_refl _) _).trans (hb2.mono (by simp))
    go_wp2_with fail
    refine (hto.out _ (hA.below hb2' (Nat.le_refl _))).mono ?_
    rintro e w3 ⟨rfl, rfl⟩
    go_wp2_with fail
    refine (implFN _ _ zs _ hn hz (IntsAt.made w2 zs 3) ((hE.below hb2' (Nat.le_refl _)).below ((Below.refl _ w2).alloc (Nat.le_refl _) _) (Nat.le_refl _))).mono ?_
    rintro e w4 ⟨rfl, hb4⟩
    have hb23 : Below w.heap.size w (w2.alloc (.cells (zs.map (Value.int .i64)).toArray 3)) := hb2'.alloc hb2'.size _
    have hb4' : Below w.heap.size w w4 := hb23.trans (hb4.mono (by have := hb23.size; omega))
    have hx0 := (IntsAt.made w2 zs 3).below hb4 (Nat.le_refl _)
    go_wp2_with fail
    refine (hto.out _ (hA.below hb4' (Nat.le_refl _))).mono ?_
    rintro e w5 ⟨rfl, rfl⟩
    go_wp2_with fail
    refine (eqIntS_same _ _ _ _ zs _ hn (hx0.below ((Below.refl _ w4).alloc (Nat.le_refl _) _) (Nat.le_refl _)) (IntsAt.made w4 zs 3)).mono ?_
    rintro e w6 ⟨rfl, hb6⟩
    go_wp2
    go_ret
    exact ⟨rfl, (hb4'.alloc hb4'.size _).trans (hb6.mono (by have := hb4'.size; simp; omega))⟩
  · have hn' : (1048576 : Int) < (zs.length : Int) := by omega
    go_enter Tryd.func3, Tryd.ntmps3
    go_wp2
    go_ret
    exact ⟨rfl, Below.refl _ _⟩
end Go.Proofs.YtkkcnkajffbnaaaDoor
