/-
  The reference's FormatNumbers returns the text of a list of at most 1048576 numbers; nothing that was there is written.
-/
import Derived.Test.YtkkcnkajffbnaaaDoorT2
namespace Go.Proofs.YtkkcnkajffbnaaaDoor
open Go.RowKit

/-- The slice at a reads as the numbers zs. -/
def IntsAt (w : World) (a : Option Addr) (zs : List Int) : Prop :=
  zs = [] ∨ ∃ b off, a = some ⟨b, off, none⟩ ∧ b < w.heap.size ∧ ∀ i, i < zs.length → w.cell? ⟨b, off + i, none⟩ = some (.int .i64 (zs.getD i 0))
theorem IntsAt.at {w : World} {a : Option Addr} {zs : List Int} (h : IntsAt w a zs) {i : Nat} (hi : i < zs.length) : ∃ b off, a = some ⟨b, off, none⟩ ∧ b < w.heap.size ∧ w.cell? ⟨b, off + i, none⟩ = some (.int .i64 zs[i]) := by
  rcases h with rfl | ⟨b, off, rfl, hb, hc⟩
  · simp at hi
  · refine ⟨b, off, rfl, hb, ?_⟩
    rw [hc i hi]; simp [List.getD, hi]
theorem IntsAt.below {w w' : World} {a : Option Addr} {zs : List Int} (h : IntsAt w a zs) {B : Nat} (hw : Below B w w') (hB : w.heap.size ≤ B) : IntsAt w' a zs := by
  rcases h with rfl | ⟨b, off, rfl, hb, hc⟩
  · exact .inl rfl
  · exact .inr ⟨b, off, rfl, Nat.lt_of_lt_of_le hb hw.size, fun i hi => (hw.cell (by show b < B; omega)).trans (hc i hi)⟩

set_option maxRecDepth 100000 in
set_option maxHeartbeats 400000 in
theorem specFN (a : Option Addr) (c : Nat) (zs : List Int) (w : World) (hn : zs.length ≤ 1048576) (hz : ∀ n ∈ zs, InI n) (hA : IntsAt w a zs) :
    Calls Tryd.prog 9 #[.slice a zs.length c] w fun e w' => e = .returned (.string ⟨(fmtNums zs).toArray⟩) ∧ Below w.heap.size w w' := by
  go_enter Tryd.func9, Tryd.ntmps9
  go_wp2
  go_loopw [3, 4] (fun out i wr => ∃ k : Nat, k ≤ zs.length ∧ i = .int .i64 k ∧ out = .string ⟨(fmtL zs k).toArray⟩ ∧ Below w.heap.size w wr) (fun _ i _ => zs.length - (intOf i).toNat)
  case atStart => exact ⟨0, Nat.zero_le _, rfl, rfl, Below.refl _ _⟩
  case round =>
    obtain ⟨k, hk, rfl, rfl, hb⟩ := hrel
    by_cases hlt : k < zs.length
    · obtain ⟨b, off, rfl, hbs, hck⟩ := (hA.below hb (Nat.le_refl _)).at hlt
      have hzk := hz zs[k] (by simp)
      have hdec := Lib.hid (l11Dec_any zs[k] wr hzk.1 hzk.2)
      have hll := fmtL_length zs k hz
      have hle := Lib.itoa_length_le zs[k] hzk.1 hzk.2
      have hl0 : k = 0 → fmtL zs k = [] := by rintro rfl; rfl
      have hsu := Lib.hid (fmtL_succ zs k hlt)
      generalize hfl : fmtL zs k = l at *
      clear hfl
      generalize hit : Lib.itoa zs[k] = t at *
      clear hit
      by_cases h0 : 0 < k
      · have h0' : (0 : Int) < (k : Int) := by omega
        rw [if_neg (by omega)] at hsu
        go_wp2_with (go_at_call 31; refine hdec.out.mono ?_; rintro e w' ⟨rfl, hb2⟩)
        go_roundw
        case rel => exact ⟨k + 1, by omega, by go_num, val_str (by rw [hsu.out, bs_snoc, bs_append]), hb.trans (hb2.mono hb.size)⟩
        case measure => simp [intOf]; omega
      · have h0' : ¬ (0 : Int) < (k : Int) := by omega
        have hsu2 : Hid (fmtL zs (k + 1) = l ++ t) := by
          obtain rfl : k = 0 := by omega
          rw [Hid, hsu.out, hl0 rfl]
          rfl
        clear hsu
        go_wp2_with (go_at_call 31; refine hdec.out.mono ?_; rintro e w' ⟨rfl, hb2⟩)
        go_roundw
        case rel => exact ⟨k + 1, by omega, by go_num, val_str (by rw [hsu2.out, bs_append]), hb.trans (hb2.mono hb.size)⟩
        case measure => simp [intOf]; omega
    · have ek : k = zs.length := by omega
      subst ek
      have hem := fmtL_empty zs
      have hfm : Hid (fmtNums zs = if zs = [] then [45] else fmtL zs zs.length) := rfl
      generalize hfl : fmtL zs zs.length = l at *
      clear hfl
      by_cases he : zs = []
      · have hl : l.isEmpty = true := by simp [hem.2 he]
        clear hem
        rw [if_pos he] at hfm
        clear he
        go_wp2
        go_ret
        exact ⟨ret_str (by rw [hfm.out]), hb⟩
      · have hl : l.isEmpty = false := by simpa using fun e => he (hem.1 e)
        clear hem
        rw [if_neg he] at hfm
        clear he
        go_wp2
        go_ret
        exact ⟨ret_str (by rw [hfm.out]), hb⟩
end Go.Proofs.YtkkcnkajffbnaaaDoor
