/-
  The walk of the law FnExactFormatPlan: it returns true for every list of deeds, where the table of powers is laid.
-/
import Derived.Test.YtkkcnkajffbnaaaDoorU5
import Derived.Test.YtkkcnkajffbnaaaDoorOpenD
namespace Go.Proofs.YtkkcnkajffbnaaaDoor
open Go.RowKit

theorem le_sum_mem (d : Dd) : ∀ {ds : List Dd}, d ∈ ds → d.act.length ≤ (ds.map (·.act.length)).sum
  | x :: r, h => by
    simp only [List.map_cons, List.sum_cons]
    rcases List.mem_cons.1 h with rfl | h
    · omega
    · have := le_sum_mem d h; omega
set_option maxRecDepth 100000 in
set_option maxHeartbeats 400000 in
theorem lawFP (a : Option Addr) (c : Nat) (ds : List Dd) (w : World) (hl : ds.length ≤ maxLen) (hd : ∀ d ∈ ds, DdIn d) (hA : DeedsAt w a ds) (hE : Env w) :
    Calls Tryd.prog 4 #[.slice a ds.length c] w fun e w' => e = .returned (.bool true) ∧ Below w.heap.size w w' := by
  have hsz := szDeedS_any a c ds 1048576 w (by omega) (by unfold maxLen at hl; omega) (fun d h => (hd d h).1) hA
  by_cases hn : szD ds ds.length ≤ 1048576
  · have hlen : ds.length ≤ 1048576 := by unfold szD at hn; omega
    have hact : ∀ d ∈ ds, DdOk d := fun d h => ⟨by
      have h1 : d.act.length ≤ ((ds.map (·.act.length))).sum := le_sum_mem d h
      unfold szD at hn
      rw [List.take_length] at hn
      omega, (hd d h).2.1, (hd d h).2.2⟩
    have hle : lessD 1048576 (szD ds ds.length) = ((1048576 - szD ds ds.length : Nat) : Int) := by unfold lessD; rw [if_pos hn]
    rw [hle] at hsz
    have HS := Lib.hid hsz
    clear hsz hle
    have hpos : decide (((1048576 - szD ds ds.length : Nat) : Int) < 0) = false := by simp
    have hto := Lib.hid (fun w h => toDeedS_any a c ds w hlen h)
    go_enter Tryd.func4, Tryd.ntmps4
    go_wp2_with fail
    refine HS.out.mono ?_
    rintro e w0 ⟨rfl, hb0⟩
    go_wp2_with fail
    refine (hto.out _ (hA.below hb0 (Nat.le_refl _))).mono ?_
    rintro e w1 ⟨rfl, hd1, hb1⟩
    have hb1' := hb0.trans (hb1.mono hb0.size)
    go_wp2_with fail
    refine (specFP _ _ ds _ hn hact hd1).mono ?_
    rintro e w2 ⟨rfl, hb2⟩
    have hb2' := hb1'.trans (hb2.mono hb1'.size)
    go_wp2_with fail
    refine (hto.out _ (hA.below hb2' (Nat.le_refl _))).mono ?_
    rintro e w3 ⟨rfl, hd3, hb3⟩
    have hb3' := hb2'.trans (hb3.mono hb2'.size)
    go_wp2_with fail
    refine (implFP _ _ ds _ hn hact hd3 (hE.below hb3' (Nat.le_refl _))).mono ?_
    rintro e w4 ⟨rfl, hb4⟩
    have hb4' := hb3'.trans (hb4.mono hb3'.size)
    have hd4 := hd3.below hb4 (Nat.le_refl _)
    go_wp2_with fail
    refine (hto.out _ (hA.below hb4' (Nat.le_refl _))).mono ?_
    rintro e w5 ⟨rfl, hd5, hb5⟩
    have hb5' := hb4'.trans (hb5.mono hb4'.size)
    have hd45 := hd4.below hb5 (Nat.le_refl _)
    go_wp2_with fail
    refine (eqDeedS_same _ _ _ _ ds _ hlen hd45 hd5).mono ?_
    rintro e w6 ⟨rfl, hb6⟩
    go_wp2
    go_ret
    exact ⟨rfl, hb5'.trans (hb6.mono hb5'.size)⟩
  · have hle : lessD 1048576 (szD ds ds.length) = -1 := by unfold lessD; rw [if_neg hn]
    rw [hle] at hsz
    have HS := Lib.hid hsz
    clear hsz hle
    go_enter Tryd.func4, Tryd.ntmps4
    go_wp2_with fail
    refine HS.out.mono ?_
    rintro e w0 ⟨rfl, hb0⟩
    go_wp2
    go_ret
    exact ⟨rfl, hb0⟩
end Go.Proofs.YtkkcnkajffbnaaaDoor
