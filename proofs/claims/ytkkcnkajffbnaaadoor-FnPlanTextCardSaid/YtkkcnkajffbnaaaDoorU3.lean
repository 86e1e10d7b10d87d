/-
  The text of a deed, as the reference lays it.
-/
import Derived.Test.YtkkcnkajffbnaaaDoorU2
import Derived.Deep.RegionHeld3
namespace Go.Proofs.YtkkcnkajffbnaaaDoor
open Go.RowKit

def needW (act : List UInt8) : Bool := act == [112, 117, 116] || act == [104, 97, 110, 100]
def needD (d : Dd) : Bool := d.word != 0 || needW d.act
def deedHead (d : Dd) : List UInt8 := d.act ++ 32 :: Lib.itoa d.line
def deedText (d : Dd) : List UInt8 := if needD d then deedHead d ++ 32 :: Lib.itoa d.word else deedHead d

/-- Which way the test goes. -/
theorem need_cases (act : List UInt8) (word : Int) : (word ≠ 0 ∧ needD ⟨act, 0, word⟩ = true) ∨ (word = 0 ∧ act = [112, 117, 116]) ∨ (word = 0 ∧ act = [104, 97, 110, 100]) ∨ (word = 0 ∧ act ≠ [112, 117, 116] ∧ act ≠ [104, 97, 110, 100] ∧ needD ⟨act, 0, word⟩ = false) := by
  by_cases h0 : word = 0
  · subst h0
    by_cases h1 : act = [112, 117, 116]
    · exact .inr (.inl ⟨rfl, h1⟩)
    by_cases h2 : act = [104, 97, 110, 100]
    · exact .inr (.inr (.inl ⟨rfl, h2⟩))
    · exact .inr (.inr (.inr ⟨rfl, h1, h2, by simp [needD, needW, h1, h2]⟩))
  · exact .inl ⟨h0, by simp [needD, h0]⟩

theorem bs_one (a b : List UInt8) : (⟨a.toArray⟩ : ByteArray) ++ ⟨#[32]⟩ ++ ⟨b.toArray⟩ = ⟨(a ++ 32 :: b).toArray⟩ := by
  rw [bs_snoc, bs_append]; simp
theorem bs_two (a b c : List UInt8) : (⟨a.toArray⟩ : ByteArray) ++ ⟨#[32]⟩ ++ ⟨b.toArray⟩ ++ ⟨#[32]⟩ ++ ⟨c.toArray⟩ = ⟨((a ++ 32 :: b) ++ 32 :: c).toArray⟩ := by
  rw [bs_one, bs_one]

set_option maxRecDepth 100000 in
set_option maxHeartbeats 400000 in
theorem l10Deed_A (act : List UInt8) (line : Int) (word : Int) (w : World) (ha : act.length ≤ 1048576) (hl : InI line) (hw : InI word) (hw0 : word ≠ 0) :
    Calls Tryd.prog 35 #[.agg #[.string ⟨act.toArray⟩, .int .i64 line, .int .i64 word]] w fun e w' => e = .returned (.string ⟨(deedText ⟨act, line, word⟩).toArray⟩) ∧ Below w.heap.size w w' := by
  have hdl := Lib.hid (fun w => l11Dec_any line w hl.1 hl.2)
  have h1 := Lib.itoa_length_le line hl.1 hl.2
  have hdw := Lib.hid (fun w => l11Dec_any word w hw.1 hw.2)
  have h2 := Lib.itoa_length_le word hw.1 hw.2
  have hT : Hid (deedText ⟨act, line, word⟩ = (act ++ 32 :: Lib.itoa line) ++ 32 :: Lib.itoa word) := by unfold Hid deedText; rw [if_pos (by simp [needD, needW, hw0])]; rfl
  generalize Lib.itoa word = tw at *
  generalize Lib.itoa line = tl at *
  have ha2 : ¬ 9223372036854775807 < act.length + 1 + tl.length := by omega
  have ha1 : ¬ 9223372036854775807 < act.length + 1 := by omega
  go_enter Tryd.func35, Tryd.ntmps35
  go_wp2
  have S0 : (w.alloc (.cells #[.string ⟨act.toArray⟩, .int .i64 line, .int .i64 word] 47)).drew.cell? ⟨w.heap.size, 0, none⟩ = some (.string ⟨act.toArray⟩) ∧ (w.alloc (.cells #[.string ⟨act.toArray⟩, .int .i64 line, .int .i64 word] 47)).drew.cell? ⟨w.heap.size, 1, none⟩ = some (.int .i64 line) ∧ (w.alloc (.cells #[.string ⟨act.toArray⟩, .int .i64 line, .int .i64 word] 47)).drew.cell? ⟨w.heap.size, 2, none⟩ = some (.int .i64 word) ∧ Below w.heap.size w (w.alloc (.cells #[.string ⟨act.toArray⟩, .int .i64 line, .int .i64 word] 47)).drew ∧ w.heap.size < (w.alloc (.cells #[.string ⟨act.toArray⟩, .int .i64 line, .int .i64 word] 47)).drew.heap.size :=
    ⟨by simp, by simp, by simp, ((Below.refl _ w).alloc (Nat.le_refl _) _).drew, by simp⟩
  have hk := fun (W w' : World) (hS : W.cell? ⟨w.heap.size, 0, none⟩ = some (.string ⟨act.toArray⟩) ∧ W.cell? ⟨w.heap.size, 1, none⟩ = some (.int .i64 line) ∧ W.cell? ⟨w.heap.size, 2, none⟩ = some (.int .i64 word) ∧ Below w.heap.size w W ∧ w.heap.size < W.heap.size) (hb : Below W.heap.size W w') =>
    show w'.cell? ⟨w.heap.size, 0, none⟩ = some (.string ⟨act.toArray⟩) ∧ w'.cell? ⟨w.heap.size, 1, none⟩ = some (.int .i64 line) ∧ w'.cell? ⟨w.heap.size, 2, none⟩ = some (.int .i64 word) ∧ Below w.heap.size w w' ∧ w.heap.size < w'.heap.size from
      ⟨(hb.cell (p := ⟨w.heap.size, 0, none⟩) hS.2.2.2.2).trans hS.1, (hb.cell (p := ⟨w.heap.size, 1, none⟩) hS.2.2.2.2).trans hS.2.1, (hb.cell (p := ⟨w.heap.size, 2, none⟩) hS.2.2.2.2).trans hS.2.2.1, hS.2.2.2.1.trans (hb.mono hS.2.2.2.1.size), Nat.lt_of_lt_of_le hS.2.2.2.2 hb.size⟩
  go_region_held3 (fun w' => w'.cell? ⟨w.heap.size, 0, none⟩ = some (.string ⟨act.toArray⟩) ∧ w'.cell? ⟨w.heap.size, 1, none⟩ = some (.int .i64 line) ∧ w'.cell? ⟨w.heap.size, 2, none⟩ = some (.int .i64 word) ∧ Below w.heap.size w w' ∧ w.heap.size < w'.heap.size)
    (first | exact S0 | exact hk _ _ S0 (by assumption))
    (first | (go_at_call 31; refine (hdl.out _).mono ?_; rintro e w' ⟨rfl, hb⟩))
  go_wp2_with (go_at_call 31; refine (hdw.out _).mono ?_; rintro e w2 ⟨rfl, hb2⟩)
  go_ret
  rename_i hS
  exact ⟨ret_str (by rw [hT.out]; exact bs_two act tl tw), hS.2.2.2.1.trans (hb2.mono hS.2.2.2.1.size)⟩

set_option maxRecDepth 100000 in
set_option maxHeartbeats 400000 in
theorem l10Deed_B (line : Int) (w : World) (hl : InI line) :
    Calls Tryd.prog 35 #[.agg #[.string ⟨#[112, 117, 116]⟩, .int .i64 line, .int .i64 0]] w fun e w' => e = .returned (.string ⟨(deedText ⟨[112, 117, 116], line, 0⟩).toArray⟩) ∧ Below w.heap.size w w' := by
  have hdl := Lib.hid (fun w => l11Dec_any line w hl.1 hl.2)
  have h1 := Lib.itoa_length_le line hl.1 hl.2
  have hdw := Lib.hid (fun w => l11Dec_any 0 w (by decide) (by decide))
  have h2 := Lib.itoa_length_le 0 (by decide) (by decide)
  have hT : Hid (deedText ⟨[112, 117, 116], line, 0⟩ = ([112, 117, 116] ++ 32 :: Lib.itoa line) ++ 32 :: Lib.itoa 0) := by unfold Hid deedText; rw [if_pos (by simp [needD, needW])]; rfl
  generalize Lib.itoa 0 = tw at *
  generalize Lib.itoa line = tl at *
  have ha2 : ¬ 9223372036854775807 < 4 + tl.length := by omega
  go_enter Tryd.func35, Tryd.ntmps35
  go_wp2
  have S0 : (w.alloc (.cells #[.string ⟨#[112, 117, 116]⟩, .int .i64 line, .int .i64 0] 47)).drew.cell? ⟨w.heap.size, 0, none⟩ = some (.string ⟨#[112, 117, 116]⟩) ∧ (w.alloc (.cells #[.string ⟨#[112, 117, 116]⟩, .int .i64 line, .int .i64 0] 47)).drew.cell? ⟨w.heap.size, 1, none⟩ = some (.int .i64 line) ∧ (w.alloc (.cells #[.string ⟨#[112, 117, 116]⟩, .int .i64 line, .int .i64 0] 47)).drew.cell? ⟨w.heap.size, 2, none⟩ = some (.int .i64 0) ∧ Below w.heap.size w (w.alloc (.cells #[.string ⟨#[112, 117, 116]⟩, .int .i64 line, .int .i64 0] 47)).drew ∧ w.heap.size < (w.alloc (.cells #[.string ⟨#[112, 117, 116]⟩, .int .i64 line, .int .i64 0] 47)).drew.heap.size :=
    ⟨by simp, by simp, by simp, ((Below.refl _ w).alloc (Nat.le_refl _) _).drew, by simp⟩
  have hk := fun (W w' : World) (hS : W.cell? ⟨w.heap.size, 0, none⟩ = some (.string ⟨#[112, 117, 116]⟩) ∧ W.cell? ⟨w.heap.size, 1, none⟩ = some (.int .i64 line) ∧ W.cell? ⟨w.heap.size, 2, none⟩ = some (.int .i64 0) ∧ Below w.heap.size w W ∧ w.heap.size < W.heap.size) (hb : Below W.heap.size W w') =>
    show w'.cell? ⟨w.heap.size, 0, none⟩ = some (.string ⟨#[112, 117, 116]⟩) ∧ w'.cell? ⟨w.heap.size, 1, none⟩ = some (.int .i64 line) ∧ w'.cell? ⟨w.heap.size, 2, none⟩ = some (.int .i64 0) ∧ Below w.heap.size w w' ∧ w.heap.size < w'.heap.size from
      ⟨(hb.cell (p := ⟨w.heap.size, 0, none⟩) hS.2.2.2.2).trans hS.1, (hb.cell (p := ⟨w.heap.size, 1, none⟩) hS.2.2.2.2).trans hS.2.1, (hb.cell (p := ⟨w.heap.size, 2, none⟩) hS.2.2.2.2).trans hS.2.2.1, hS.2.2.2.1.trans (hb.mono hS.2.2.2.1.size), Nat.lt_of_lt_of_le hS.2.2.2.2 hb.size⟩
  go_region_held3 (fun w' => w'.cell? ⟨w.heap.size, 0, none⟩ = some (.string ⟨#[112, 117, 116]⟩) ∧ w'.cell? ⟨w.heap.size, 1, none⟩ = some (.int .i64 line) ∧ w'.cell? ⟨w.heap.size, 2, none⟩ = some (.int .i64 0) ∧ Below w.heap.size w w' ∧ w.heap.size < w'.heap.size)
    (first | exact S0 | exact hk _ _ S0 (by assumption))
    (first | (go_at_call 31; refine (hdl.out _).mono ?_; rintro e w' ⟨rfl, hb⟩))
  go_wp2_with (go_at_call 31; refine (hdw.out _).mono ?_; rintro e w2 ⟨rfl, hb2⟩)
  go_ret
  rename_i hS
  exact ⟨ret_str (by rw [hT.out]; exact bs_two [112, 117, 116] tl tw), hS.2.2.2.1.trans (hb2.mono hS.2.2.2.1.size)⟩

set_option maxRecDepth 100000 in
set_option maxHeartbeats 400000 in
theorem l10Deed_C (line : Int) (w : World) (hl : InI line) :
    Calls Tryd.prog 35 #[.agg #[.string ⟨#[104, 97, 110, 100]⟩, .int .i64 line, .int .i64 0]] w fun e w' => e = .returned (.string ⟨(deedText ⟨[104, 97, 110, 100], line, 0⟩).toArray⟩) ∧ Below w.heap.size w w' := by
  have hdl := Lib.hid (fun w => l11Dec_any line w hl.1 hl.2)
  have h1 := Lib.itoa_length_le line hl.1 hl.2
  have hdw := Lib.hid (fun w => l11Dec_any 0 w (by decide) (by decide))
  have h2 := Lib.itoa_length_le 0 (by decide) (by decide)
  have hT : Hid (deedText ⟨[104, 97, 110, 100], line, 0⟩ = ([104, 97, 110, 100] ++ 32 :: Lib.itoa line) ++ 32 :: Lib.itoa 0) := by unfold Hid deedText; rw [if_pos (by simp [needD, needW])]; rfl
  generalize Lib.itoa 0 = tw at *
  generalize Lib.itoa line = tl at *
  have ha2 : ¬ 9223372036854775807 < 5 + tl.length := by omega
  go_enter Tryd.func35, Tryd.ntmps35
  go_wp2
  have S0 : (w.alloc (.cells #[.string ⟨#[104, 97, 110, 100]⟩, .int .i64 line, .int .i64 0] 47)).drew.cell? ⟨w.heap.size, 0, none⟩ = some (.string ⟨#[104, 97, 110, 100]⟩) ∧ (w.alloc (.cells #[.string ⟨#[104, 97, 110, 100]⟩, .int .i64 line, .int .i64 0] 47)).drew.cell? ⟨w.heap.size, 1, none⟩ = some (.int .i64 line) ∧ (w.alloc (.cells #[.string ⟨#[104, 97, 110, 100]⟩, .int .i64 line, .int .i64 0] 47)).drew.cell? ⟨w.heap.size, 2, none⟩ = some (.int .i64 0) ∧ Below w.heap.size w (w.alloc (.cells #[.string ⟨#[104, 97, 110, 100]⟩, .int .i64 line, .int .i64 0] 47)).drew ∧ w.heap.size < (w.alloc (.cells #[.string ⟨#[104, 97, 110, 100]⟩, .int .i64 line, .int .i64 0] 47)).drew.heap.size :=
    ⟨by simp, by simp, by simp, ((Below.refl _ w).alloc (Nat.le_refl _) _).drew, by simp⟩
  have hk := fun (W w' : World) (hS : W.cell? ⟨w.heap.size, 0, none⟩ = some (.string ⟨#[104, 97, 110, 100]⟩) ∧ W.cell? ⟨w.heap.size, 1, none⟩ = some (.int .i64 line) ∧ W.cell? ⟨w.heap.size, 2, none⟩ = some (.int .i64 0) ∧ Below w.heap.size w W ∧ w.heap.size < W.heap.size) (hb : Below W.heap.size W w') =>
    show w'.cell? ⟨w.heap.size, 0, none⟩ = some (.string ⟨#[104, 97, 110, 100]⟩) ∧ w'.cell? ⟨w.heap.size, 1, none⟩ = some (.int .i64 line) ∧ w'.cell? ⟨w.heap.size, 2, none⟩ = some (.int .i64 0) ∧ Below w.heap.size w w' ∧ w.heap.size < w'.heap.size from
      ⟨(hb.cell (p := ⟨w.heap.size, 0, none⟩) hS.2.2.2.2).trans hS.1, (hb.cell (p := ⟨w.heap.size, 1, none⟩) hS.2.2.2.2).trans hS.2.1, (hb.cell (p := ⟨w.heap.size, 2, none⟩) hS.2.2.2.2).trans hS.2.2.1, hS.2.2.2.1.trans (hb.mono hS.2.2.2.1.size), Nat.lt_of_lt_of_le hS.2.2.2.2 hb.size⟩
  go_region_held3 (fun w' => w'.cell? ⟨w.heap.size, 0, none⟩ = some (.string ⟨#[104, 97, 110, 100]⟩) ∧ w'.cell? ⟨w.heap.size, 1, none⟩ = some (.int .i64 line) ∧ w'.cell? ⟨w.heap.size, 2, none⟩ = some (.int .i64 0) ∧ Below w.heap.size w w' ∧ w.heap.size < w'.heap.size)
    (first | exact S0 | exact hk _ _ S0 (by assumption))
    (first | (go_at_call 31; refine (hdl.out _).mono ?_; rintro e w' ⟨rfl, hb⟩))
  go_wp2_with (go_at_call 31; refine (hdw.out _).mono ?_; rintro e w2 ⟨rfl, hb2⟩)
  go_ret
  rename_i hS
  exact ⟨ret_str (by rw [hT.out]; exact bs_two [104, 97, 110, 100] tl tw), hS.2.2.2.1.trans (hb2.mono hS.2.2.2.1.size)⟩

set_option maxRecDepth 100000 in
set_option maxHeartbeats 400000 in
theorem l10Deed_D (act : List UInt8) (line : Int) (w : World) (ha : act.length ≤ 1048576) (hl : InI line) (hp : act ≠ [112, 117, 116]) (hh : act ≠ [104, 97, 110, 100]) :
    Calls Tryd.prog 35 #[.agg #[.string ⟨act.toArray⟩, .int .i64 line, .int .i64 0]] w fun e w' => e = .returned (.string ⟨(deedText ⟨act, line, 0⟩).toArray⟩) ∧ Below w.heap.size w w' := by
  have hdl := Lib.hid (fun w => l11Dec_any line w hl.1 hl.2)
  have h1 := Lib.itoa_length_le line hl.1 hl.2
  have hT : Hid (deedText ⟨act, line, 0⟩ = act ++ 32 :: Lib.itoa line) := by unfold Hid deedText; rw [if_neg (by simp [needD, needW, hp, hh])]; rfl
  generalize Lib.itoa line = tl at *
  have hp1 : (act == [112, 117, 116]) = false := by simp [hp]
  have hh1 : (act == [104, 97, 110, 100]) = false := by simp [hh]
  have ha2 : ¬ 9223372036854775807 < act.length + 1 + tl.length := by omega
  have ha1 : ¬ 9223372036854775807 < act.length + 1 := by omega
  go_enter Tryd.func35, Tryd.ntmps35
  go_wp2
  have S0 : (w.alloc (.cells #[.string ⟨act.toArray⟩, .int .i64 line, .int .i64 0] 47)).drew.cell? ⟨w.heap.size, 0, none⟩ = some (.string ⟨act.toArray⟩) ∧ (w.alloc (.cells #[.string ⟨act.toArray⟩, .int .i64 line, .int .i64 0] 47)).drew.cell? ⟨w.heap.size, 1, none⟩ = some (.int .i64 line) ∧ (w.alloc (.cells #[.string ⟨act.toArray⟩, .int .i64 line, .int .i64 0] 47)).drew.cell? ⟨w.heap.size, 2, none⟩ = some (.int .i64 0) ∧ Below w.heap.size w (w.alloc (.cells #[.string ⟨act.toArray⟩, .int .i64 line, .int .i64 0] 47)).drew ∧ w.heap.size < (w.alloc (.cells #[.string ⟨act.toArray⟩, .int .i64 line, .int .i64 0] 47)).drew.heap.size :=
    ⟨by simp, by simp, by simp, ((Below.refl _ w).alloc (Nat.le_refl _) _).drew, by simp⟩
  have hk := fun (W w' : World) (hS : W.cell? ⟨w.heap.size, 0, none⟩ = some (.string ⟨act.toArray⟩) ∧ W.cell? ⟨w.heap.size, 1, none⟩ = some (.int .i64 line) ∧ W.cell? ⟨w.heap.size, 2, none⟩ = some (.int .i64 0) ∧ Below w.heap.size w W ∧ w.heap.size < W.heap.size) (hb : Below W.heap.size W w') =>
    show w'.cell? ⟨w.heap.size, 0, none⟩ = some (.string ⟨act.toArray⟩) ∧ w'.cell? ⟨w.heap.size, 1, none⟩ = some (.int .i64 line) ∧ w'.cell? ⟨w.heap.size, 2, none⟩ = some (.int .i64 0) ∧ Below w.heap.size w w' ∧ w.heap.size < w'.heap.size from
      ⟨(hb.cell (p := ⟨w.heap.size, 0, none⟩) hS.2.2.2.2).trans hS.1, (hb.cell (p := ⟨w.heap.size, 1, none⟩) hS.2.2.2.2).trans hS.2.1, (hb.cell (p := ⟨w.heap.size, 2, none⟩) hS.2.2.2.2).trans hS.2.2.1, hS.2.2.2.1.trans (hb.mono hS.2.2.2.1.size), Nat.lt_of_lt_of_le hS.2.2.2.2 hb.size⟩
  go_region_held3 (fun w' => w'.cell? ⟨w.heap.size, 0, none⟩ = some (.string ⟨act.toArray⟩) ∧ w'.cell? ⟨w.heap.size, 1, none⟩ = some (.int .i64 line) ∧ w'.cell? ⟨w.heap.size, 2, none⟩ = some (.int .i64 0) ∧ Below w.heap.size w w' ∧ w.heap.size < w'.heap.size)
    (first | exact S0 | exact hk _ _ S0 (by assumption))
    (first | (go_at_call 31; refine (hdl.out _).mono ?_; rintro e w' ⟨rfl, hb⟩))
  go_wp2
  go_ret
  rename_i hS
  exact ⟨ret_str (by rw [hT.out]; exact bs_one act tl), hS.2.2.2.1⟩

theorem l10Deed_any (d : Dd) (w : World) (ha : d.act.length ≤ 1048576) (hl : InI d.line) (hw : InI d.word) :
    Calls Tryd.prog 35 #[deedV d] w fun e w' => e = .returned (.string ⟨(deedText d).toArray⟩) ∧ Below w.heap.size w w' := by
  obtain ⟨act, line, word⟩ := d
  rcases need_cases act word with ⟨hw0, _⟩ | ⟨rfl, rfl⟩ | ⟨rfl, rfl⟩ | ⟨rfl, hp, hh, _⟩
  · exact l10Deed_A act line word w ha hl hw hw0
  · exact l10Deed_B line w hl
  · exact l10Deed_C line w hl
  · exact l10Deed_D act line w ha hl hp hh
end Go.Proofs.YtkkcnkajffbnaaaDoor
