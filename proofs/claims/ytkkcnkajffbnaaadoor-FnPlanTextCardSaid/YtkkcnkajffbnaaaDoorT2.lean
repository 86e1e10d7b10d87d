/-
  The reference's l11Dec returns the decimal numeral of every int; the world below is as it was.
-/
import Derived.Test.YtkkcnkajffbnaaaDoorRows
import Derived.Test.YtkkcnkajffbnaaaDoorPlain
import Derived.Test.YtkkcnkajffbnaaaDoorShelf
import Derived.ProofKit
import Derived.WalkLawsBesides
import Derived.Outline
import Derived.Deep.DeepFit
namespace Go.Proofs.YtkkcnkajffbnaaaDoor
open Go.RowKit

/-- string([]byte{c}) of a byte just laid. -/
theorem conv_byte (w : World) (n : Int) : (convert 38 9 (.slice (some ⟨w.heap.size, 0, none⟩) 1 1)).run Tryd.prog (w.alloc (.cells #[.int .u8 n] 5)) = .ok (.string ⟨#[UInt8.ofNat n.toNat]⟩) (w.alloc (.cells #[.int .u8 n] 5)) := by
  rw [run_convert_bytes_string _ 38 9 5 _ _ _ Tryd.underlying38 Tryd.underlying5 Tryd.underlying9]
  rw [run_bytesToString _ _ 1 1 [n]]
  · rfl
  · have := run_loadCells_list (P := Tryd.prog) (w.alloc (.cells #[.int .u8 n] 5)) ⟨w.heap.size, 0, none⟩ [.int .u8 n] (by
      intro j v hj
      match j, hj with
      | 0, hj => simp at hj; subst hj; simp [Addr.add])
    simpa using this

set_option maxRecDepth 100000 in
set_option maxHeartbeats 400000 in
theorem dec_pos (u : Nat) (w : World) (hu : u ≤ 9223372036854775807) :
    Calls Tryd.prog 31 #[.int .i64 (u : Int)] w fun e w' => e = .returned (.string ⟨(Lib.decDigits u).toArray⟩) ∧ Below w.heap.size w w' := by
  have h1 : decide ((u : Int) < -9223372036854775807) = false := by simp
  have h2 : decide ((u : Int) < 0) = false := by simp
  go_enter Tryd.func31, Tryd.ntmps31
  go_wp2
  go_loopw [0, 3] (fun n out wr => ∃ (v : Nat) (l : List UInt8), n = .int .i64 (v : Int) ∧ v ≤ 9223372036854775807 ∧ out = .string ⟨l.toArray⟩ ∧ Hid (decTo v l = Lib.decDigits u) ∧ Below w.heap.size w wr) (fun n _ _ => (intOf n).toNat)
  case atStart => exact ⟨u, [], rfl, hu, rfl, by simp [Hid, decTo], Below.refl _ _⟩
  case round =>
    obtain ⟨v, l, rfl, hv, rfl, H, hb⟩ := hrel
    have hll := decTo_len H.out hu
    by_cases hlt : 9 < v
    · have hlt' : (9 : Int) < (v : Int) := by omega
      obtain ⟨c, hc⟩ : ∃ c : UInt8, UInt8.ofNat (48 + v % 10) = c := ⟨_, rfl⟩
      have hcv := conv_byte wr (48 + (v : Int) % 10)
      rw [show (48 + (v : Int) % 10).toNat = 48 + v % 10 from by omega, hc] at hcv
      have H2 : Hid (decTo (v / 10) (c :: l) = Lib.decDigits u) := by rw [Hid, ← hc, decTo_step _ _ hlt]; exact H.out
      clear hc
      go_wp2
      go_roundw
      case rel => exact ⟨v / 10, c :: l, by go_num, by omega, val_str (bs_cons _ _), H2, hb.alloc hb.size _⟩
      case measure => simp [intOf]; omega
    · have hlt' : ¬ (9 : Int) < (v : Int) := by omega
      obtain ⟨c, hc⟩ : ∃ c : UInt8, UInt8.ofNat (48 + v) = c := ⟨_, rfl⟩
      have hcv := conv_byte wr (48 + (v : Int))
      rw [show (48 + (v : Int)).toNat = 48 + v from by omega, hc] at hcv
      have H2 : Hid (c :: l = Lib.decDigits u) := by rw [Hid, ← hc, ← H.out, decTo_last _ _ (by omega)]
      clear hc
      go_wp2
      go_ret
      exact ⟨ret_str (by rw [← H2.out, bs_cons]), hb.alloc hb.size _⟩

set_option maxRecDepth 100000 in
set_option maxHeartbeats 400000 in
/-- l11Dec: the decimal numeral, for every int. -/
theorem l11Dec_any (n : Int) (w : World) (h0 : -9223372036854775808 ≤ n) (h1 : n ≤ 9223372036854775807) :
    Calls Tryd.prog 31 #[.int .i64 n] w fun e w' => e = .returned (.string ⟨(Lib.itoa n).toArray⟩) ∧ Below w.heap.size w w' := by
  by_cases hp : 0 ≤ n
  · obtain ⟨u, rfl⟩ := Int.eq_ofNat_of_zero_le hp
    rw [itoa_pos' _ hp]
    exact dec_pos u w (by omega)
  by_cases hm : n < -9223372036854775807
  · obtain rfl : n = -9223372036854775808 := by omega
    go_enter Tryd.func31, Tryd.ntmps31
    go_wp2
    go_ret
    exact ⟨ret_str (by rw [itoa_min]), Below.refl _ _⟩
  · have hn : n < 0 := by omega
    have hs : (Lib.decDigits (-n).toNat).length ≤ 21 := by
      have := Lib.itoa_length_le n h0 h1
      rw [itoa_neg' n hn] at this
      simp at this; omega
    have hd := dec_pos (-n).toNat w (by omega)
    rw [show (((-n).toNat : Nat) : Int) = -n from by omega] at hd
    have HD := Lib.hid hd
    clear hd
    rw [itoa_neg' n hn]
    generalize hl : Lib.decDigits (-n).toNat = l at *
    clear hl
    go_enter Tryd.func31, Tryd.ntmps31
    go_wp2_with (go_at_call 31; refine HD.out.mono ?_; rintro e w' ⟨rfl, hb⟩)
    go_ret
    exact ⟨ret_str (bs_cons _ _), by assumption⟩
end Go.Proofs.YtkkcnkajffbnaaaDoor
