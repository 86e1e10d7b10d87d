/-
  eqDeedS of equal lists; FormatPlan of the reference and of the program.
-/
import Derived.Test.YtkkcnkajffbnaaaDoorU1
import Derived.StillTailTactics
import Derived.Deep.RegionWith
namespace Go.Proofs.YtkkcnkajffbnaaaDoor
open Go.RowKit

set_option maxRecDepth 100000 in
set_option maxHeartbeats 400000 in
/-- eqDeedS of equal lists. -/
theorem eqDeedS_same (a b : Option Addr) (ca cb : Nat) (ds : List Dd) (w : World) (hn : ds.length ≤ 1048576) (hA : DeedsAt w a ds) (hB : DeedsAt w b ds) :
    Calls Tryd.prog 17 #[.slice a ds.length ca, .slice b ds.length cb] w fun e w' => e = .returned (.bool true) ∧ Below w.heap.size w w' := by
  go_enter Tryd.func17, Tryd.ntmps17
  go_wp2
  go_loopw [5] (fun i wr => ∃ k : Nat, k ≤ ds.length ∧ i = .int .i64 k ∧ Below w.heap.size w wr) (fun i _ => ds.length - (intOf i).toNat)
  case atStart => exact ⟨0, Nat.zero_le _, rfl, Below.refl _ _⟩
  case round =>
    obtain ⟨k, hk, rfl, hb⟩ := hrel
    by_cases hlt : k < ds.length
    · obtain ⟨b1, off1, rfl, hbs1, h10, h11, h12⟩ := (hA.below hb (Nat.le_refl _)).at hlt
      obtain ⟨b2, off2, rfl, hbs2, h20, h21, h22⟩ := (hB.below hb (Nat.le_refl _)).at hlt
      have hlt' : (k : Int) < (ds.length : Int) := by omega
      have heq := Lib.hid (fun w => eqDeed_same ds[k] w)
      simp only [deedV] at heq
      go_wp2
      go_still_tail 8, (by kernel_rfl)
      go_wp2_with fail
      refine (heq.out _).mono ?_
      rintro e w1 ⟨rfl, hb1⟩
      go_wp2
      go_roundw
      case rel => exact ⟨k + 1, by omega, by go_num, (hb.drew).trans (hb1.mono hb.size)⟩
      case measure => simp [intOf]; omega
    · go_wp2
      go_ret
      exact ⟨rfl, hb⟩
end Go.Proofs.YtkkcnkajffbnaaaDoor
