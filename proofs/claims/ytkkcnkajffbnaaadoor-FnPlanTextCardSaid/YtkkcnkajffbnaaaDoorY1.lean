/-
  Plain: the text of deeds: strings.Split at one byte; a deed from its text.
-/
import Derived.Test.YtkkcnkajffbnaaaDoorU4
import Derived.Test.YtkkcnkajffbnaaaDoorX4
import Derived.Lib.SplitLaws
namespace Go.Proofs.YtkkcnkajffbnaaaDoor
open Go.RowKit

theorem indexB_byte (s : ByteArray) (c : UInt8) : Lib.indexB s ⟨#[c]⟩ = Lib.indexByte s.data.toList c := Lib.index_one _ _
theorem split_cuts (c : UInt8) : ∀ (n : Nat) (s : ByteArray), s.size ≤ n → (Lib.splitB ⟨#[c]⟩ 0 (Lib.countB s ⟨#[c]⟩) s).map (·.data.toList) = cuts c s.data.toList := by
  intro n
  induction n with
  | zero =>
    intro s h
    have hi := indexByte_lt c s.data.toList
    have hg := Lib.indexByte_ge s.data.toList c
    have hsz : s.data.toList.length = s.size := Array.length_toList
    have hm : Lib.indexByte s.data.toList c = -1 := by omega
    rw [Lib.splitB_miss _ _ _ _ (by rw [indexB_byte]; exact hm), cuts_find, if_pos hm]
    rfl
  | succ n ih =>
    intro s h
    have hi := indexByte_lt c s.data.toList
    have hg := Lib.indexByte_ge s.data.toList c
    have hsz : s.data.toList.length = s.size := Array.length_toList
    by_cases hm : Lib.indexByte s.data.toList c = -1
    · rw [Lib.splitB_miss _ _ _ _ (by rw [indexB_byte]; exact hm), cuts_find, if_pos hm]
      rfl
    · obtain ⟨i, hI⟩ : ∃ i : Nat, Lib.indexByte s.data.toList c = i := ⟨(Lib.indexByte s.data.toList c).toNat, by omega⟩
      have hib : Lib.indexB s ⟨#[c]⟩ = (i : Int) := by rw [indexB_byte]; exact hI
      have h1 : (⟨#[c]⟩ : ByteArray).size = 1 := rfl
      rw [Lib.countB_hit s ⟨#[c]⟩ i (by rw [h1]; exact Nat.le_refl _) hib, Nat.add_comm 1]
      rw [Lib.splitB_hit _ _ _ _ _ hib, List.map_cons, ih _ (by rw [h1]; simp; omega), cuts_find c s.data.toList, if_neg hm, hI, Int.toNat_natCast]
      congr 1
      · rw [Lib.extract_data]; simp
      · rw [Lib.extract_data, h1, List.take_of_length_le (by rw [List.length_drop, hsz]; exact Nat.le_refl _)]

def actB (a : List UInt8) : Bool := a == [112, 117, 116] || a == [116, 97, 107, 101] || a == [101, 110, 100] || a == [108, 111, 111, 107] || a == [112, 97, 115, 115] || a == [101, 97, 99, 104] || a == [104, 97, 110, 100]
/-- The word and the one or two numbers that a text has, and how many these are. -/
def actOf (t : List UInt8) : Option (List UInt8 × Int × Int × Nat) :=
  match cuts 32 t with
  | [a, b] => (numOf b).map fun x => (a, x, 0, 1)
  | [a, b, c] => (numOf b).bind fun x => (numOf c).map fun y => (a, x, y, 2)
  | _ => none
/-- The deed that a text tells. -/
def deedOf (t : List UInt8) : Option Dd :=
  (actOf t).bind fun q => if actB q.1 && ((needW q.1 || q.2.2.1 != 0) == (q.2.2.2 == 2)) then some ⟨q.1, q.2.1, q.2.2.1⟩ else none
def parseP (s : List UInt8) : Option (List Dd) := if s = [45] then some [] else if 12 < (cuts 44 s).length then none else allOk deedOf (cuts 44 s)
theorem parseP_dash : parseP [45] = some [] := rfl
theorem parseP_done {s : List UInt8} {ns : List Dd} (h : s ≠ [45]) (hl : (cuts 44 s).length ≤ 12) (hk : allOk deedOf (cuts 44 s) = some ns) : parseP s = some ns := by
  unfold parseP; rw [if_neg h, if_neg (by omega), hk]
theorem parseP_bad {s : List UInt8} {a b : List (List UInt8)} {x : List UInt8} (h : s ≠ [45]) (hk : cuts 44 s = a ++ x :: b) (hx : deedOf x = none ∨ 12 < (cuts 44 s).length) : parseP s = none := by
  unfold parseP; rw [if_neg h]
  split
  · rfl
  · rcases hx with hx | hx
    · rw [hk, allOk_bad hx]
    · omega

/-! ### the reference's way: the text of the deed is the text -/
/-- What l1Read makes of a text. -/
def readOf (t : List UInt8) : Option Dd :=
  match cuts 32 t with
  | [a, b] => (numOf b).map fun x => ⟨a, x, 0⟩
  | [a, b, c] => (numOf b).bind fun x => (numOf c).map fun y => ⟨a, x, y⟩
  | _ => none
theorem join_two (a b : List UInt8) : Lib.join [a, b] [32] = a ++ 32 :: b := by simp [Lib.join]
theorem join_three (a b c : List UInt8) : Lib.join [a, b, c] [32] = (a ++ 32 :: b) ++ 32 :: c := by simp [Lib.join]
theorem numOf_back {s : List UInt8} {v : Int} (h : numOf s = some v) : Lib.itoa v = s := (numOf_some h).2.2.2.2.1
theorem read_deed (t : List UInt8) : deedOf t = (readOf t).bind fun d => if actB d.act && (deedText d == t) then some d else none := by
  unfold deedOf actOf readOf
  have hj := join_cuts 32 t
  split
  · rename_i a b hc
    rw [hc, join_two] at hj
    cases hb : numOf b with
    | none => rfl
    | some x =>
      have hbk := numOf_back hb
      simp only [Option.map_some, Option.bind_some]
      have e : (deedText ⟨a, x, 0⟩ == t) = ((needW a || (0 : Int) != 0) == ((1 : Nat) == 2)) := by
        unfold deedText needD deedHead
        simp only [hbk, hj]
        cases needW a
        · simp
        · simp only [bne_self_eq_false, Bool.or_true, if_true]
          rw [show ((true || false) == ((1 : Nat) == 2)) = false from rfl]
          rw [beq_eq_false_iff_ne]
          intro h
          have := congrArg List.length h
          simp at this
      rw [e]
  · rename_i a b c hc
    rw [hc, join_three] at hj
    cases hb : numOf b with
    | none => rfl
    | some x =>
      cases hcc : numOf c with
      | none => rfl
      | some y =>
        have hbk := numOf_back hb
        have hck := numOf_back hcc
        simp only [Option.map_some, Option.bind_some]
        have e : (deedText ⟨a, x, y⟩ == t) = ((needW a || y != 0) == ((2 : Nat) == 2)) := by
          unfold deedText needD deedHead
          simp only [hbk, hck]
          rw [Bool.or_comm]
          cases hn : (needW a || y != 0)
          · rw [show (false == ((2 : Nat) == 2)) = false from rfl]
            simp only [Bool.false_eq_true, if_false]
            rw [beq_eq_false_iff_ne]
            intro h
            rw [← hj] at h
            have := congrArg List.length h
            simp at this
          · simp only [if_true, hj]
            simp
        rw [e]
  · rfl
end Go.Proofs.YtkkcnkajffbnaaaDoor
