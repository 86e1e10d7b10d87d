/-
  toIntS copies a list of numbers; eqIntS of equal lists is true.
-/
import Derived.Test.YtkkcnkajffbnaaaDoorT4
import Derived.Deep.QuietTactic
import Derived.BigQuiet
import Derived.Laws.Rows
namespace Go.Proofs.YtkkcnkajffbnaaaDoor
open Go.RowKit

theorem Tryd.info3 : (Tryd.prog.info? 3).map (fun i => (i.zero, i.size, i.bytes)) = some (some (.int .i64 0), 1, 8) := by kernel_rfl
theorem madeCells_one (z : Value) (hz : z.cells = #[z]) (n : Nat) : madeCells z.cells n = Array.replicate n z := by
  rw [hz]; apply Array.ext <;> simp [madeCells, Nat.mod_one]
theorem mk_ints (w : World) (n : Nat) (h : n ≤ 1048576) : (Instr.makeSlice 22 (.int .i64 (n : Int)) (.int .i64 (n : Int))).run Tryd.prog w = .ok (.slice (some ⟨w.heap.size, 0, none⟩) n n) (w.alloc (.cells (Array.replicate n (.int .i64 0)) 3)) := by
  obtain ⟨i0, hi, hz0, hz1, hz2⟩ := info_parts Tryd.info3
  have := run_make (P := Tryd.prog) w 22 3 i0 (.int .i64 0) Tryd.underlying22 hi hz0 .i64 .i64 n n (by omega) (by omega) (by rw [hz2]; omega) (by omega)
  rw [this, hz1, madeCells_one _ rfl]
  simp only [Int.toNat_natCast, Nat.mul_one]

set_option maxRecDepth 100000 in
set_option maxHeartbeats 400000 in
/-- toIntS: a new row with the same numbers. -/
theorem toIntS_any (a : Option Addr) (c : Nat) (zs : List Int) (w : World) (hn : zs.length ≤ 1048576) (hA : IntsAt w a zs) :
    Calls Tryd.prog 10 #[.slice a zs.length c] w fun e w' =>
      e = .returned (.slice (some ⟨w.heap.size, 0, none⟩) zs.length zs.length) ∧ w.alloc (.cells (zs.map (Value.int .i64)).toArray 3) = w' := by
  have hmk := mk_ints w zs.length hn
  rw [show zs.length = (zs.map (Value.int .i64)).length from by simp, fillV_zero, List.length_map] at hmk
  go_enter Tryd.func10, Tryd.ntmps10
  go_wp2
  go_loopw [4] (fun i wr => ∃ k : Nat, k ≤ zs.length ∧ i = .int .i64 k ∧ wr = w.alloc (.cells (fillV (.int .i64 0) (zs.map (Value.int .i64)) k) 3)) (fun i _ => zs.length - (intOf i).toNat)
  case atStart => exact ⟨0, Nat.zero_le _, rfl, rfl⟩
  case round =>
    obtain ⟨k, hk, rfl, rfl⟩ := hrel
    by_cases hlt : k < zs.length
    · obtain ⟨b, off, rfl, hbs, hck⟩ := hA.at hlt
      have hfa := fillV_at (.int .i64 0) (zs.map (Value.int .i64)) k (by simpa using hlt)
      have hfs := Lib.hid (fillV_set (.int .i64 0) (zs.map (Value.int .i64)) k (by simpa using hlt))
      go_wp2
      go_roundw
      case rel => exact ⟨k + 1, by omega, by go_num, by have := hfs.out; simp only [List.getElem_map] at this; rw [this]⟩
      case measure => simp [intOf]; omega
    · obtain rfl : k = zs.length := by omega
      have hfe := Lib.hid (fillV_all (.int .i64 0) (zs.map (Value.int .i64)))
      go_wp2
      go_ret
      exact ⟨rfl, by have := hfe.out; rw [List.length_map] at this; rw [this]⟩

theorem IntsAt.made (w : World) (zs : List Int) (t : TypeId) : IntsAt (w.alloc (.cells (zs.map (Value.int .i64)).toArray t)) (some ⟨w.heap.size, 0, none⟩) zs := by
  refine .inr ⟨_, _, rfl, by simp, fun i hi => ?_⟩
  have e : (w.alloc (.cells (zs.map (Value.int .i64)).toArray t)).heap[w.heap.size]? = some (.cells (zs.map (Value.int .i64)).toArray t) := heap_alloc_new _ _
  unfold World.cell?
  simp only [e]
  simp [hi]

set_option maxRecDepth 100000 in
set_option maxHeartbeats 400000 in
/-- eqIntS of equal lists. -/
theorem eqIntS_same (a b : Option Addr) (ca cb : Nat) (zs : List Int) (w : World) (hn : zs.length ≤ 1048576) (hA : IntsAt w a zs) (hB : IntsAt w b zs) :
    Calls Tryd.prog 12 #[.slice a zs.length ca, .slice b zs.length cb] w fun e w' => e = .returned (.bool true) ∧ Below w.heap.size w w' := by
  go_enter Tryd.func12, Tryd.ntmps12
  go_wp2
  go_loopw [5] (fun i wr => ∃ k : Nat, k ≤ zs.length ∧ i = .int .i64 k ∧ Below w.heap.size w wr) (fun i _ => zs.length - (intOf i).toNat)
  case atStart => exact ⟨0, Nat.zero_le _, rfl, Below.refl _ _⟩
  case round =>
    obtain ⟨k, hk, rfl, hb⟩ := hrel
    by_cases hlt : k < zs.length
    · obtain ⟨b1, off1, rfl, hbs1, hck1⟩ := (hA.below hb (Nat.le_refl _)).at hlt
      obtain ⟨b2, off2, rfl, hbs2, hck2⟩ := (hB.below hb (Nat.le_refl _)).at hlt
      have hlt' : (k : Int) < (zs.length : Int) := by omega
      go_wp2
      go_quiet (fail)
      go_wp2
      go_roundw
      case rel => exact ⟨k + 1, by omega, by go_num, below_drewN hb _⟩
      case measure => simp [intOf]; omega
    · go_wp2
      go_ret
      exact ⟨rfl, hb⟩
end Go.Proofs.YtkkcnkajffbnaaaDoor
