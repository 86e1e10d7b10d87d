/-
  Plain lemmas on lists and numerals that the walks of this seat use: no program in sight.
-/
import Derived.WalkKit
import Derived.Lib.Join
import Derived.Lib.ItoaNum
import Derived.Lib.ItoaLen
import Derived.Lib.Hide
namespace Go.Proofs.YtkkcnkajffbnaaaDoor
open Go.RowKit

/-! ### a row of cells that is filled from the left -/
/-- The first k cells hold what they shall, the others nought. -/
def fillV (z : Value) (vs : List Value) (k : Nat) : Array Value := (vs.take k ++ List.replicate (vs.length - k) z).toArray
theorem fillV_zero (z : Value) (vs : List Value) : Array.replicate vs.length z = fillV z vs 0 := by simp [fillV]
theorem fillV_at (z : Value) (vs : List Value) (k : Nat) (h : k < vs.length) : (fillV z vs k)[k]? = some z := by
  have e : (vs.take k).length = k := by simp; omega
  simp only [fillV, List.getElem?_toArray]
  rw [List.getElem?_append_right (by omega), e, Nat.sub_self, List.getElem?_replicate, if_pos (by omega)]
theorem fillV_set (z : Value) (vs : List Value) (k : Nat) (h : k < vs.length) : (fillV z vs k).setIfInBounds k (vs[k]) = fillV z vs (k + 1) := by
  have e : (vs.take k).length = k := by simp; omega
  apply Array.ext'
  simp only [fillV, List.setIfInBounds_toArray]
  rw [List.set_append, if_neg (by omega), e, Nat.sub_self, show vs.length - k = (vs.length - (k + 1)) + 1 from by omega, List.replicate_succ, List.take_succ_eq_append_getElem h]
  simp only [List.set_cons_zero, List.append_assoc, List.singleton_append]
theorem fillV_all (z : Value) (vs : List Value) : fillV z vs vs.length = vs.toArray := by simp [fillV]

/-! ### strings -/
theorem bs_append (a b : List UInt8) : (⟨a.toArray⟩ : ByteArray) ++ ⟨b.toArray⟩ = ⟨(a ++ b).toArray⟩ := by
  apply ByteArray.ext
  rw [ByteArray.data_append]
  simp
theorem bs_cons (c : UInt8) (l : List UInt8) : (⟨#[c]⟩ : ByteArray) ++ ⟨l.toArray⟩ = ⟨(c :: l).toArray⟩ := bs_append [c] l
theorem bs_snoc (l : List UInt8) (c : UInt8) : (⟨l.toArray⟩ : ByteArray) ++ ⟨#[c]⟩ = ⟨(l ++ [c]).toArray⟩ := bs_append l [c]
theorem bs_assoc (a b c : ByteArray) : a ++ b ++ c = a ++ (b ++ c) := by
  apply ByteArray.ext
  simp [ByteArray.data_append, Array.append_assoc]
theorem bs_eta (s : ByteArray) : (⟨s.data.toList.toArray⟩ : ByteArray) = s := by cases s; simp
theorem bs_size (l : List UInt8) : (⟨l.toArray⟩ : ByteArray).size = l.length := by simp [ByteArray.size]
theorem ret_str {a b : ByteArray} (h : a = b) : Ending.returned (.string a) = Ending.returned (.string b) := by rw [h]
theorem val_str {a b : ByteArray} (h : a = b) : Value.string a = Value.string b := by rw [h]
theorem ret_bool {a b : Bool} (h : a = b) : Ending.returned (.bool a) = Ending.returned (.bool b) := by rw [h]
theorem ret_int {k : IntKind} {a b : Int} (h : a = b) : Ending.returned (.int k a) = Ending.returned (.int k b) := by rw [h]
/-! ### joining, an element more -/
theorem join_snoc (xs : List (List UInt8)) (x sep : List UInt8) : Lib.join (xs ++ [x]) sep = (if xs = [] then [] else Lib.join xs sep ++ sep) ++ x := by
  cases xs with
  | nil => simp [Lib.join_one]
  | cons y r =>
    rw [List.cons_append, Lib.join_cons, Lib.join_cons, if_neg (by simp)]
    simp [Lib.joinTail, List.append_assoc]
theorem join_ne_nil (xs : List (List UInt8)) (sep : List UInt8) (h : ∀ x ∈ xs, x ≠ []) (hx : xs ≠ []) : Lib.join xs sep ≠ [] := by
  cases xs with
  | nil => exact absurd rfl hx
  | cons y r =>
    rw [Lib.join_cons]
    have := h y (by simp)
    intro e
    exact this (List.append_eq_nil_iff.1 e).1
theorem join_length_le (B : Nat) (xs : List (List UInt8)) (sep : List UInt8) (h : ∀ x ∈ xs, x.length ≤ B) : (Lib.join xs sep).length ≤ xs.length * (B + sep.length) := by
  induction xs with
  | nil => simp [Lib.join_nil]
  | cons y r ih =>
    have hy := h y (by simp)
    have ih' := ih fun x hx => h x (by simp [hx])
    cases r with
    | nil => rw [Lib.join_one]; simp; omega
    | cons z r' =>
      rw [Lib.join_cons] at ih' ⊢
      simp only [Lib.joinTail, List.map_cons, List.flatten_cons, List.length_append, List.length_cons] at ih' ⊢
      rw [Nat.add_mul]
      omega

theorem decDigits_ne_nil (u : Nat) : Lib.decDigits u ≠ [] := by
  rw [Lib.decDigits]; split <;> simp
theorem itoa_ne_nil (n : Int) : Lib.itoa n ≠ [] := by
  unfold Lib.itoa; split
  · simp
  · exact decDigits_ne_nil _

/-- The text of numbers. -/
def fmtL (zs : List Int) (k : Nat) : List UInt8 := Lib.join ((zs.take k).map Lib.itoa) [32]
def fmtNums (zs : List Int) : List UInt8 := if zs = [] then [45] else fmtL zs zs.length
theorem fmtL_zero (zs : List Int) : fmtL zs 0 = [] := rfl
theorem fmtL_succ (zs : List Int) (k : Nat) (h : k < zs.length) : fmtL zs (k + 1) = (if k = 0 then [] else fmtL zs k ++ [32]) ++ Lib.itoa (zs[k]) := by
  unfold fmtL
  rw [List.take_succ_eq_append_getElem h, List.map_append, List.map_cons, List.map_nil, join_snoc]
  congr 1
  cases k with
  | zero => simp
  | succ k => rw [if_neg, if_neg (by omega)]; simp; intro h'; rw [h'] at h; simp at h
theorem fmtL_empty (zs : List Int) : fmtL zs zs.length = [] ↔ zs = [] := by
  constructor
  · intro h
    by_cases e : zs = []
    · exact e
    · exact absurd h (join_ne_nil _ _ (by intro x hx; obtain ⟨n, _, rfl⟩ := List.mem_map.1 hx; exact itoa_ne_nil n) (by simpa using e))
  · rintro rfl; rfl
def InI (n : Int) : Prop := -9223372036854775808 ≤ n ∧ n ≤ 9223372036854775807
theorem fmtL_length (zs : List Int) (k : Nat) (h : ∀ n ∈ zs, InI n) : (fmtL zs k).length ≤ zs.length * 22 := by
  unfold fmtL
  refine Nat.le_trans (join_length_le 21 _ _ ?_) ?_
  · intro x hx
    obtain ⟨n, hn, rfl⟩ := List.mem_map.1 hx
    have := h n (List.mem_of_mem_take hn)
    exact Lib.itoa_length_le n this.1 this.2
  · simp
    omega

/-! ### the digits as the loop of the reference lays them -/
/-- What is left of u, and the digits that were taken off, together. -/
def decTo (u : Nat) (tail : List UInt8) : List UInt8 := Lib.decDigits u ++ tail
theorem decTo_step (u : Nat) (tail : List UInt8) (h : 9 < u) : decTo (u / 10) (UInt8.ofNat (48 + u % 10) :: tail) = decTo u tail := by
  unfold decTo
  conv => rhs; rw [Lib.decDigits, dif_neg (by omega)]
  simp
theorem decTo_last (u : Nat) (tail : List UInt8) (h : u ≤ 9) : decTo u tail = UInt8.ofNat (48 + u) :: tail := by
  unfold decTo; rw [Lib.decDigits, dif_pos (by omega)]; rfl
theorem decTo_len {v u : Nat} {l : List UInt8} (h : decTo v l = Lib.decDigits u) (hu : u ≤ 9223372036854775807) : l.length ≤ 21 := by
  have h1 := Lib.itoa_length_le (u : Int) (by omega) (by omega)
  unfold Lib.itoa at h1
  rw [if_neg (by omega), Int.toNat_natCast, ← h] at h1
  unfold decTo at h1
  rw [List.length_append] at h1
  omega
theorem itoa_neg' (n : Int) (h : n < 0) : Lib.itoa n = 45 :: Lib.decDigits (-n).toNat := by
  unfold Lib.itoa; rw [if_pos h]; congr 2; omega
theorem itoa_pos' (n : Int) (h : 0 ≤ n) : Lib.itoa n = Lib.decDigits n.toNat := by
  unfold Lib.itoa; rw [if_neg (by omega)]
theorem itoa_min : Lib.itoa (-9223372036854775808) = [45, 57, 50, 50, 51, 51, 55, 50, 48, 51, 54, 56, 53, 52, 55, 55, 53, 56, 48, 56] := by
  decide +kernel
end Go.Proofs.YtkkcnkajffbnaaaDoor
