/-
  Plain lemmas on the text of numbers: cutting at a byte, canonical numerals, a list of them.
-/
import Derived.Test.YtkkcnkajffbnaaaDoorPlain
import Derived.Lib.AtoiTie
import Derived.Lib.Bytealg
namespace Go.Proofs.YtkkcnkajffbnaaaDoor
open Go.RowKit

/-! ### cutting at a byte -/
def cutGo (c : UInt8) : List UInt8 → List UInt8 → List (List UInt8)
  | cur, [] => [cur]
  | cur, b :: r => if b == c then cur :: cutGo c [] r else cutGo c (cur ++ [b]) r
/-- The pieces between the bytes c. -/
def cuts (c : UInt8) (l : List UInt8) : List (List UInt8) := cutGo c [] l

theorem cutGo_ne_nil (c : UInt8) : ∀ (l cur : List UInt8), cutGo c cur l ≠ []
  | [], cur => by simp [cutGo]
  | b :: r, cur => by
    unfold cutGo
    split
    · simp
    · exact cutGo_ne_nil c r _
theorem cutGo_find (c : UInt8) : ∀ (l cur : List UInt8), cutGo c cur l = if Lib.indexByte l c = -1 then [cur ++ l] else (cur ++ l.take (Lib.indexByte l c).toNat) :: cuts c (l.drop ((Lib.indexByte l c).toNat + 1))
  | [], cur => by simp [cutGo, Lib.indexByte]
  | b :: r, cur => by
    unfold cutGo Lib.indexByte
    by_cases h : b == c
    · simp [h, cuts]
    · have hge := Lib.indexByte_ge r c
      rw [if_neg h, if_neg h, cutGo_find c r]
      by_cases h1 : Lib.indexByte r c = -1
      · simp [h1]
      · have hb : ¬ (Lib.indexByte r c == -1) = true := by simpa using h1
        rw [if_neg h1, if_neg hb, if_neg (by omega)]
        have e : (Lib.indexByte r c + 1).toNat = (Lib.indexByte r c).toNat + 1 := by omega
        rw [e]
        simp
theorem cuts_find (c : UInt8) (l : List UInt8) : cuts c l = if Lib.indexByte l c = -1 then [l] else l.take (Lib.indexByte l c).toNat :: cuts c (l.drop ((Lib.indexByte l c).toNat + 1)) := by
  have := cutGo_find c l []
  simpa [cuts] using this
theorem indexByte_lt (c : UInt8) : ∀ l : List UInt8, Lib.indexByte l c < l.length
  | [] => by simp [Lib.indexByte]
  | b :: r => by
    have := indexByte_lt c r
    unfold Lib.indexByte
    split
    · simp
    · split
      · simp; omega
      · simp; omega
theorem cutGo_length (c : UInt8) : ∀ (l cur : List UInt8), (cutGo c cur l).length ≤ l.length + 1
  | [], cur => by simp [cutGo]
  | b :: r, cur => by
    unfold cutGo
    split
    · have := cutGo_length c r []
      simp; omega
    · have := cutGo_length c r (cur ++ [b])
      simp; omega
theorem cuts_length (c : UInt8) (l : List UInt8) : (cuts c l).length ≤ l.length + 1 := cutGo_length c l []
theorem cutGo_mem (c : UInt8) : ∀ (l cur x : List UInt8), x ∈ cutGo c cur l → x.length ≤ cur.length + l.length
  | [], cur, x, h => by simp [cutGo] at h; simp [h]
  | b :: r, cur, x, h => by
    unfold cutGo at h
    split at h
    · rcases List.mem_cons.1 h with rfl | h
      · simp
      · have := cutGo_mem c r [] x h
        simp at this ⊢; omega
    · have := cutGo_mem c r _ x h
      simp at this ⊢; omega
theorem cuts_mem {c : UInt8} {l x : List UInt8} (h : x ∈ cuts c l) : x.length ≤ l.length := by
  have := cutGo_mem c l [] x h
  simpa using this
/-- The reference's loop: the pieces so far, and those of the rest. -/
def cutAt (c : UInt8) (l : List UInt8) (from_ i : Nat) : List (List UInt8) := cutGo c ((l.drop from_).take (i - from_)) (l.drop i)
theorem cutAt_zero (c : UInt8) (l : List UInt8) : cutAt c l 0 0 = cuts c l := by simp [cutAt, cuts]
theorem cutAt_end (c : UInt8) (l : List UInt8) (f : Nat) : cutAt c l f l.length = [(l.drop f).take (l.length - f)] := by simp [cutAt, cutGo]
theorem cutAt_hit (c : UInt8) (l : List UInt8) (f i : Nat) (hi : i < l.length) (h : l[i] = c) : cutAt c l f i = (l.drop f).take (i - f) :: cutAt c l (i + 1) (i + 1) := by
  unfold cutAt
  rw [List.drop_eq_getElem_cons hi]
  rw [cutGo, if_pos (by simp [h])]
  simp
theorem cutAt_miss (c : UInt8) (l : List UInt8) (f i : Nat) (hf : f ≤ i) (hi : i < l.length) (h : l[i] ≠ c) : cutAt c l f i = cutAt c l f (i + 1) := by
  unfold cutAt
  rw [List.drop_eq_getElem_cons hi]
  have e : (l.drop f).take (i + 1 - f) = (l.drop f).take (i - f) ++ [l[i]] := by
    rw [show i + 1 - f = (i - f) + 1 by omega, List.take_succ_eq_append_getElem (by simp; omega)]
    simp [show f + (i - f) = i by omega]
  rw [e, cutGo, if_neg (by simpa using h)]

/-! ### numerals -/
/-- A canonical row of digits, 1 to 17 of them; behind a '-' not the 0. -/
def magOf (l : List UInt8) (neg : Bool) : Option Nat :=
  if l = [] ∨ 17 < l.length ∨ (l.head? = some 48 ∧ (1 < l.length ∨ neg = true)) then none else Lib.decNat l
/-- The number that a canonical text tells. -/
def numOf (s : List UInt8) : Option Int :=
  if s.head? = some 45 then (magOf s.tail true).map fun (m : Nat) => -(m : Int) else (magOf s false).map fun (m : Nat) => (m : Int)

theorem decFrom_snoc (b : UInt8) : ∀ (l : List UInt8) (acc : Nat), Lib.decFrom acc (l ++ [b]) = (Lib.decFrom acc l).bind fun n => (Lib.digitVal b).map fun d => n * 10 + d
  | [], acc => by
    simp only [List.nil_append, Lib.decFrom]
    cases Lib.digitVal b <;> simp
  | a :: r, acc => by
    simp only [List.cons_append, Lib.decFrom]
    cases h : Lib.digitVal a with
    | none => simp
    | some d => simpa using decFrom_snoc b r _
theorem digitVal_of (d : Nat) (h : d < 10) : Lib.digitVal (UInt8.ofNat (48 + d)) = some d := by
  unfold Lib.digitVal
  have e : (UInt8.ofNat (48 + d)).toNat = 48 + d := by simp; omega
  rw [e, if_pos (by omega)]
  simp
theorem digitVal_eq {b : UInt8} {d : Nat} (h : Lib.digitVal b = some d) : UInt8.ofNat (48 + d) = b ∧ d < 10 := by
  unfold Lib.digitVal at h
  split at h
  · injection h with h
    refine ⟨?_, by omega⟩
    apply UInt8.toNat_inj.1
    simp
    omega
  · cases h
theorem decFrom_decDigits (u : Nat) : Lib.decFrom 0 (Lib.decDigits u) = some u := by
  induction u using Nat.strongRecOn with
  | _ u ih =>
    by_cases h : u < 10
    · rw [Lib.decDigits, dif_pos h]
      show (match Lib.digitVal (UInt8.ofNat (48 + u)) with | some d => Lib.decFrom (0 * 10 + d) [] | none => none) = some u
      rw [digitVal_of u h]
      simp [Lib.decFrom]
    · rw [Lib.decDigits, dif_neg h, decFrom_snoc, ih (u / 10) (by omega), digitVal_of _ (by omega)]
      simp; omega
theorem decNat_decDigits (u : Nat) : Lib.decNat (Lib.decDigits u) = some u := by
  unfold Lib.decNat
  rw [if_neg (by simpa using decDigits_ne_nil u), decFrom_decDigits]
theorem decDigits_head (u : Nat) (hu : u ≠ 0) : (Lib.decDigits u).head? ≠ some 48 := by
  induction u using Nat.strongRecOn with
  | _ u ih =>
    by_cases h : u < 10
    · rw [Lib.decDigits, dif_pos h]
      intro e
      simp at e
      have := congrArg UInt8.toNat e
      simp at this
      omega
    · rw [Lib.decDigits, dif_neg h]
      have := ih (u / 10) (by omega) (by omega)
      have hne := decDigits_ne_nil (u / 10)
      cases hd : Lib.decDigits (u / 10) with
      | nil => exact absurd hd hne
      | cons a r => rw [hd] at this; simpa using this
theorem decDigits_head_digit (u : Nat) : ∀ b, (Lib.decDigits u).head? = some b → 48 ≤ b.toNat := by
  induction u using Nat.strongRecOn with
  | _ u ih =>
    intro b
    by_cases h : u < 10
    · rw [Lib.decDigits, dif_pos h]
      intro e
      simp at e
      subst e
      simp; omega
    · rw [Lib.decDigits, dif_neg h]
      have := ih (u / 10) (by omega) b
      have hne := decDigits_ne_nil (u / 10)
      cases hd : Lib.decDigits (u / 10) with
      | nil => exact absurd hd hne
      | cons a r => rw [hd] at this; simpa using this
theorem decDigits_of_decFrom (l : List UInt8) : ∀ m, l ≠ [] → (l.head? = some 48 → l.length ≤ 1) → Lib.decFrom 0 l = some m → Lib.decDigits m = l := by
  obtain ⟨r, rfl⟩ : ∃ r, l = r.reverse := ⟨l.reverse, by simp⟩
  induction r with
  | nil => intro m h; simp at h
  | cons b r ih =>
    intro m _ hh hd
    rw [List.reverse_cons] at hh hd ⊢
    rw [decFrom_snoc] at hd
    cases hr : Lib.decFrom 0 r.reverse with
    | none => rw [hr] at hd; simp at hd
    | some n =>
      cases hb : Lib.digitVal b with
      | none => rw [hr, hb] at hd; simp at hd
      | some d =>
        rw [hr, hb] at hd
        simp at hd
        obtain ⟨e1, e2⟩ := digitVal_eq hb
        by_cases hn : r = []
        · subst hn
          simp [Lib.decFrom] at hr
          subst hr
          rw [Lib.decDigits, dif_pos (by omega)]
          simp only [Nat.zero_mul, Nat.zero_add] at hd
          rw [← hd, e1]
          simp
        · have hne : r.reverse ≠ [] := by simpa using hn
          have hh2 : r.reverse.head? ≠ some 48 := by
            intro e
            have : (r.reverse ++ [b]).head? = some 48 := by
              cases hq : r.reverse with
              | nil => exact absurd hq hne
              | cons x y => rw [hq] at e; simpa using e
            have := hh this
            simp at this
            exact hn this
          have hi := ih n hne (fun e => absurd e hh2) hr
          have h0 : n ≠ 0 := by
            rintro rfl
            rw [Lib.decDigits, dif_pos (by omega)] at hi
            rw [← hi] at hh2
            simp at hh2
          rw [Lib.decDigits, dif_neg (by omega), show m / 10 = n by omega, hi, show m % 10 = d by omega, e1]
theorem decDigits_of_decNat {l : List UInt8} {m : Nat} (hh : l.head? = some 48 → l.length ≤ 1) (h : Lib.decNat l = some m) : Lib.decDigits m = l := by
  unfold Lib.decNat at h
  split at h
  · cases h
  · rename_i hne
    exact decDigits_of_decFrom l m (by simpa using hne) hh h

theorem magOf_some {l : List UInt8} {neg : Bool} {m : Nat} (h : magOf l neg = some m) : l ≠ [] ∧ l.length ≤ 17 ∧ Lib.decDigits m = l ∧ Lib.decNat l = some m ∧ (neg = true → m ≠ 0) := by
  unfold magOf at h
  split at h
  · cases h
  · rename_i hc
    have hl : Lib.decDigits m = l := decDigits_of_decNat (fun e => by
      apply Decidable.byContradiction
      intro h2
      exact hc (.inr (.inr ⟨e, .inl (by omega)⟩))) h
    refine ⟨fun e => hc (.inl e), by
      apply Decidable.byContradiction
      intro h2
      exact hc (.inr (.inl (by omega))), hl, h, ?_⟩
    rintro rfl rfl
    rw [Lib.decDigits, dif_pos (by omega)] at hl
    exact hc (.inr (.inr ⟨by rw [← hl]; rfl, .inr rfl⟩))
theorem magOf_decDigits (m : Nat) (neg : Bool) (h1 : (Lib.decDigits m).length ≤ 17) (h2 : neg = true → m ≠ 0) : magOf (Lib.decDigits m) neg = some m := by
  unfold magOf
  rw [if_neg, decNat_decDigits]
  rintro (h | h | ⟨h, h3⟩)
  · exact decDigits_ne_nil m h
  · omega
  · by_cases h0 : m = 0
    · subst h0
      rcases h3 with h3 | h3
      · rw [Lib.decDigits, dif_pos (by omega)] at h3
        simp at h3
      · exact h2 h3 rfl
    · exact decDigits_head m h0 h

/-- What stands behind a '-'. -/
def digitsOf (s : List UInt8) : List UInt8 := if s.head? = some 45 then s.tail else s
theorem trim_digits (s : List UInt8) : Lib.trimPrefix s [45] = digitsOf s := by
  unfold Lib.trimPrefix digitsOf Lib.hasPrefix
  cases s with
  | nil => simp
  | cons a r =>
    by_cases h : a = 45
    · subst h; simp
    · have h' : ¬ (45 : UInt8) = a := fun e => h e.symm
      simp [h, h']

theorem numOf_some {s : List UInt8} {v : Int} (h : numOf s = some v) : digitsOf s ≠ [] ∧ (digitsOf s).length ≤ 17 ∧ s.length ≤ 18 ∧ Lib.atoi s = some v ∧ Lib.itoa v = s ∧ -100000000000000000 < v ∧ v < 100000000000000000 := by
  unfold numOf at h
  cases s with
  | nil => simp [magOf] at h
  | cons b r =>
    by_cases hb : b = 45
    · subst hb
      simp only [List.head?_cons, if_true, List.tail_cons] at h
      obtain ⟨m, hm, rfl⟩ := Option.map_eq_some_iff.1 h
      obtain ⟨h1, h2, h3, h4, h5⟩ := magOf_some hm
      have h6 := Lib.decFrom_lt r 0 m (by
        unfold Lib.decNat at h4
        split at h4
        · cases h4
        · exact h4)
      have hp : 10 ^ r.length ≤ 10 ^ 17 := Nat.pow_le_pow_right (by decide) h2
      have e17 : (10 : Nat) ^ 17 = 100000000000000000 := by decide
      have hm0 := h5 rfl
      refine ⟨by simpa [digitsOf] using h1, by simpa [digitsOf] using h2, by simp; omega, by simp [Lib.atoi, h4], ?_, by omega, by omega⟩
      unfold Lib.itoa
      rw [if_pos (by omega)]
      rw [show (-(m : Int)).natAbs = m by omega, h3]
    · rw [if_neg (by simpa using hb)] at h
      obtain ⟨m, hm, rfl⟩ := Option.map_eq_some_iff.1 h
      obtain ⟨h1, h2, h3, h4, _⟩ := magOf_some hm
      have h6 := Lib.decFrom_lt (b :: r) 0 m (by
        unfold Lib.decNat at h4
        split at h4
        · cases h4
        · exact h4)
      have hp : 10 ^ (b :: r).length ≤ 10 ^ 17 := Nat.pow_le_pow_right (by decide) h2
      have e17 : (10 : Nat) ^ 17 = 100000000000000000 := by decide
      have hd : 48 ≤ b.toNat := decDigits_head_digit m b (by rw [h3]; rfl)
      have h43 : ¬ (b == 43) = true := by
        intro e
        have := beq_iff_eq.1 e
        subst this
        simp at hd
      have h45 : ¬ (b == 45) = true := by simpa using hb
      refine ⟨by simp [digitsOf, hb], by simpa [digitsOf, hb] using h2, by omega, ?_, ?_, by omega, by omega⟩
      · simp [Lib.atoi, hb, h4]
        intro e
        exact absurd (beq_iff_eq.2 e) h43
      · unfold Lib.itoa
        rw [if_neg (by omega)]
        simpa using h3
theorem numOf_of {s : List UInt8} {v : Int} (h1 : (digitsOf s).length ≤ 17) (h3 : Lib.itoa v = s) : numOf s = some v := by
  subst h3
  unfold numOf
  unfold Lib.itoa at h1 ⊢
  by_cases hv : v < 0
  · rw [if_pos hv] at h1 ⊢
    simp only [digitsOf, List.head?_cons, if_true, List.tail_cons] at h1 ⊢
    rw [magOf_decDigits v.natAbs true h1 (fun _ => by omega)]
    simp; omega
  · rw [if_neg hv] at h1 ⊢
    have hh : (Lib.decDigits v.toNat).head? ≠ some 45 := by
      intro e
      have := decDigits_head_digit _ _ e
      simp at this
    rw [if_neg hh]
    unfold digitsOf at h1
    rw [if_neg hh] at h1
    rw [magOf_decDigits v.toNat false h1 (by simp)]
    simp; omega

/-! ### a list of numbers -/
/-- A number of a list. -/
def okN (s : List UInt8) : Option Int := (numOf s).bind fun n => if -1000000 ≤ n ∧ n ≤ 1000000 then some n else none
def allOk {α β : Type} (f : α → Option β) : List α → Option (List β)
  | [] => some []
  | w :: r => (f w).bind fun n => (allOk f r).map (n :: ·)
theorem allOk_append {α β : Type} (f : α → Option β) : ∀ a b : List α, allOk f (a ++ b) = (allOk f a).bind fun x => (allOk f b).map (x ++ ·)
  | [], b => by simp [allOk]
  | w :: r, b => by
    simp only [List.cons_append, allOk, allOk_append f r b]
    cases f w <;> simp
    cases allOk f r <;> simp
    cases allOk f b <;> simp
theorem allOk_snoc {α β : Type} {f : α → Option β} {a : List α} {ns : List β} {x : α} {n : β} (h : allOk f a = some ns) (hx : f x = some n) : allOk f (a ++ [x]) = some (ns ++ [n]) := by
  rw [allOk_append, h]; simp [allOk, hx]
theorem allOk_bad {α β : Type} {f : α → Option β} {a b : List α} {x : α} (hx : f x = none) : allOk f (a ++ x :: b) = none := by
  rw [allOk_append]; simp [allOk, hx]
theorem allOk_length {α β : Type} {f : α → Option β} : ∀ {a : List α} {ns : List β}, allOk f a = some ns → ns.length = a.length
  | [], ns, h => by simp [allOk] at h; simp [h]
  | w :: r, ns, h => by
    simp only [allOk] at h
    cases hw : f w with
    | none => simp [hw] at h
    | some n =>
      cases hr : allOk f r with
      | none => simp [hw, hr] at h
      | some ms => simp [hw, hr] at h; subst h; simp [allOk_length hr]
theorem allOk_mem {α β : Type} {f : α → Option β} {p : β → Prop} (hf : ∀ x n, f x = some n → p n) : ∀ {a : List α} {ns : List β}, allOk f a = some ns → ∀ n ∈ ns, p n
  | [], ns, h => by simp [allOk] at h; simp [h]
  | w :: r, ns, h => by
    simp only [allOk] at h
    cases hw : f w with
    | none => simp [hw] at h
    | some n =>
      cases hr : allOk f r with
      | none => simp [hw, hr] at h
      | some ms =>
        simp [hw, hr] at h; subst h
        intro k hk
        rcases List.mem_cons.1 hk with rfl | hk
        · exact hf _ _ hw
        · exact allOk_mem hf hr k hk
/-- The list that a text tells. -/
def parseN (s : List UInt8) : Option (List Int) := if s = [45] then some [] else if 40 < (cuts 32 s).length then none else allOk okN (cuts 32 s)
theorem parseN_dash : parseN [45] = some [] := rfl
theorem parseN_done {s : List UInt8} {ns : List Int} (h : s ≠ [45]) (hl : (cuts 32 s).length ≤ 40) (hk : allOk okN (cuts 32 s) = some ns) : parseN s = some ns := by
  unfold parseN; rw [if_neg h, if_neg (by omega), hk]
theorem parseN_bad {s : List UInt8} {a b : List (List UInt8)} {x : List UInt8} (h : s ≠ [45]) (hk : cuts 32 s = a ++ x :: b) (hx : okN x = none ∨ 40 < (cuts 32 s).length) : parseN s = none := by
  unfold parseN; rw [if_neg h]
  split
  · rfl
  · rcases hx with hx | hx
    · rw [hk, allOk_bad hx]
    · omega
end Go.Proofs.YtkkcnkajffbnaaaDoor
