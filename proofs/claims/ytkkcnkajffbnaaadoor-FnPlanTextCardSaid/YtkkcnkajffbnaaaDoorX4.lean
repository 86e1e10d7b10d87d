/-
  Plain: a list of numbers is parsed from its text, and a text that is parsed is that of the list.
-/
import Derived.Test.YtkkcnkajffbnaaaDoorV1
namespace Go.Proofs.YtkkcnkajffbnaaaDoor
open Go.RowKit

theorem cutGo_none (c : UInt8) : ∀ (l cur : List UInt8), c ∉ l → cutGo c cur l = [cur ++ l]
  | [], cur, _ => by simp [cutGo]
  | b :: r, cur, h => by
    have hb : ¬ (b == c) = true := fun e => h (by rw [beq_iff_eq.1 e]; simp)
    rw [cutGo, if_neg hb, cutGo_none c r _ (fun e => h (List.mem_cons_of_mem _ e))]
    simp
theorem cutGo_one (c : UInt8) : ∀ (l cur r : List UInt8), c ∉ l → cutGo c cur (l ++ c :: r) = (cur ++ l) :: cuts c r
  | [], cur, r, _ => by simp [cutGo, cuts]
  | b :: l, cur, r, h => by
    have hb : ¬ (b == c) = true := fun e => h (by rw [beq_iff_eq.1 e]; simp)
    rw [List.cons_append, cutGo, if_neg hb, cutGo_one c l _ r (fun e => h (List.mem_cons_of_mem _ e))]
    simp
theorem cuts_join (c : UInt8) : ∀ xs : List (List UInt8), xs ≠ [] → (∀ x ∈ xs, c ∉ x) → cuts c (Lib.join xs [c]) = xs
  | [], h, _ => absurd rfl h
  | [x], _, h => by
    rw [show Lib.join [x] [c] = x by simp [Lib.join]]
    have := cutGo_none c x [] (h x (by simp))
    simpa [cuts] using this
  | x :: y :: r, _, h => by
    rw [show Lib.join (x :: y :: r) [c] = x ++ c :: Lib.join (y :: r) [c] by simp [Lib.join]]
    have := cutGo_one c x [] (Lib.join (y :: r) [c]) (h x (by simp))
    unfold cuts at this ⊢
    rw [this]
    have ih := cuts_join c (y :: r) (by simp) (fun z hz => h z (List.mem_cons_of_mem _ hz))
    unfold cuts at ih
    rw [ih]
    simp
theorem join_cutGo (c : UInt8) : ∀ l cur : List UInt8, Lib.join (cutGo c cur l) [c] = cur ++ l
  | [], cur => by simp [cutGo, Lib.join]
  | b :: r, cur => by
    unfold cutGo
    split
    · rename_i h
      obtain rfl := beq_iff_eq.1 h
      have ih := join_cutGo b r []
      cases hc : cutGo b [] r with
      | nil => exact absurd hc (cutGo_ne_nil b r [])
      | cons y s =>
        rw [hc] at ih
        rw [show Lib.join (cur :: y :: s) [b] = cur ++ b :: Lib.join (y :: s) [b] by simp [Lib.join], ih]
        simp
    · rw [join_cutGo c r]
      simp
theorem join_cuts (c : UInt8) (l : List UInt8) : Lib.join (cuts c l) [c] = l := by
  have := join_cutGo c l []
  simpa [cuts] using this

theorem decDigits_ge (u : Nat) : ∀ b ∈ Lib.decDigits u, 48 ≤ b.toNat := by
  induction u using Nat.strongRecOn with
  | _ u ih =>
    intro b hb
    by_cases h : u < 10
    · rw [Lib.decDigits, dif_pos h] at hb
      simp at hb; subst hb; simp; omega
    · rw [Lib.decDigits, dif_neg h] at hb
      rcases List.mem_append.1 hb with hb | hb
      · exact ih _ (by omega) b hb
      · simp at hb; subst hb; simp; omega
theorem itoa_ge (n : Int) : ∀ b ∈ Lib.itoa n, 45 ≤ b.toNat := by
  intro b hb
  unfold Lib.itoa at hb
  split at hb
  · rcases List.mem_cons.1 hb with rfl | hb
    · decide
    · have := decDigits_ge _ b hb; omega
  · have := decDigits_ge _ b hb; omega
theorem itoa_no (n : Int) (c : UInt8) (hc : c.toNat < 45) : c ∉ Lib.itoa n := fun h => by have := itoa_ge n c h; omega

theorem numOf_itoa_small (n : Int) (h : -1000000 ≤ n ∧ n ≤ 1000000) : numOf (Lib.itoa n) = some n := by
  refine numOf_of ?_ rfl
  have hl : ∀ u : Nat, u ≤ 1000000 → (Lib.decDigits u).length ≤ 7 := fun u hu => by
    rw [Lib.decDigits_length]
    have : ∀ k u, u < 10 ^ (k + 1) → Lib.nDigits u ≤ k + 1 := by
      intro k
      induction k with
      | zero => intro u hu; rw [Lib.nDigits_small (by simpa using hu)]; omega
      | succ k ih =>
        intro u hu
        by_cases h10 : u < 10
        · rw [Lib.nDigits_small h10]; omega
        · rw [Lib.nDigits_big h10]
          have := ih (u / 10) (by rw [Nat.pow_succ] at hu; omega)
          omega
    exact this 6 u (by omega)
  unfold digitsOf Lib.itoa
  by_cases hn : n < 0
  · rw [if_pos hn]
    simp only [List.head?_cons, if_true, List.tail_cons]
    have := hl n.natAbs (by omega)
    omega
  · rw [if_neg hn]
    have := hl n.toNat (by omega)
    split
    · rw [List.length_tail]; omega
    · omega
theorem okN_itoa (n : Int) : okN (Lib.itoa n) = if -1000000 ≤ n ∧ n ≤ 1000000 then some n else none := by
  unfold okN
  by_cases h : -1000000 ≤ n ∧ n ≤ 1000000
  · rw [numOf_itoa_small n h]; simp [h]
  · rw [if_neg h]
    cases hn : numOf (Lib.itoa n) with
    | none => rfl
    | some v =>
      obtain ⟨_, _, _, h4, h5, _⟩ := numOf_some hn
      have : v = n := by
        have h1 := decNat_decDigits v.natAbs
        have h2 := decNat_decDigits n.natAbs
        unfold Lib.itoa at h5
        by_cases hv : v < 0 <;> by_cases hn0 : n < 0
        · rw [if_pos hv, if_pos hn0] at h5
          injection h5 with _ h5
          rw [h5] at h1
          rw [h1] at h2
          injection h2 with h2
          omega
        · rw [if_pos hv, if_neg hn0] at h5
          have := decDigits_ge n.toNat 45 (by rw [← h5]; simp)
          simp at this
        · rw [if_neg hv, if_pos hn0] at h5
          have := decDigits_ge v.toNat 45 (by rw [h5]; simp)
          simp at this
        · rw [if_neg hv, if_neg hn0] at h5
          have e1 := decNat_decDigits v.toNat
          have e2 := decNat_decDigits n.toNat
          rw [h5] at e1
          rw [e1] at e2
          injection e2 with e2
          omega
      subst this
      simp [h]
theorem allOk_itoa : ∀ ns : List Int, allOk okN (ns.map Lib.itoa) = if ∀ n ∈ ns, -1000000 ≤ n ∧ n ≤ 1000000 then some ns else none
  | [] => by simp [allOk]
  | n :: r => by
    rw [List.map_cons, allOk, okN_itoa, allOk_itoa r]
    by_cases h : -1000000 ≤ n ∧ n ≤ 1000000
    · rw [if_pos h]
      by_cases hr : ∀ n ∈ r, -1000000 ≤ n ∧ n ≤ 1000000
      · rw [if_pos hr, if_pos (by intro k hk; rcases List.mem_cons.1 hk with rfl | hk; exact h; exact hr k hk)]
        rfl
      · rw [if_neg hr, if_neg (fun e => hr (fun k hk => e k (List.mem_cons_of_mem _ hk)))]
        rfl
    · rw [if_neg h]
      show (none : Option (List Int)) = _
      rw [if_neg (fun e => h (e n (by simp)))]
def fitsB (ns : List Int) : Bool := ns.all fun n => decide (-1000000 ≤ n) && decide (n ≤ 1000000)
theorem fitsB_iff (ns : List Int) : fitsB ns = true ↔ ∀ n ∈ ns, -1000000 ≤ n ∧ n ≤ 1000000 := by simp [fitsB]
theorem parseN_fmt (ns : List Int) (h : ns.length ≤ 40) : parseN (fmtNums ns) = if fitsB ns = true then some ns else none := by
  by_cases h0 : ns = []
  · subst h0; rfl
  · unfold fmtNums fmtL
    rw [if_neg h0, List.take_length]
    have hc := cuts_join 32 (ns.map Lib.itoa) (by simpa using h0) (fun x hx => by obtain ⟨n, _, rfl⟩ := List.mem_map.1 hx; exact itoa_no n 32 (by decide))
    unfold parseN
    rw [if_neg, hc, if_neg (by simpa using h), allOk_itoa]
    · simp only [fitsB_iff]
    · intro e
      rw [e] at hc
      cases ns with
      | nil => exact h0 rfl
      | cons n r =>
        have h1 : cuts 32 [45] = [[45]] := rfl
        rw [h1] at hc
        injection hc with hc _
        have hp := itoa_ge n
        unfold Lib.itoa at hc
        split at hc
        · injection hc with _ hc
          exact decDigits_ne_nil _ hc.symm
        · have := decDigits_ge n.toNat 45 (by rw [← hc]; simp)
          simp at this
theorem allOk_back : ∀ {ws : List (List UInt8)} {ns : List Int}, allOk okN ws = some ns → ns.map Lib.itoa = ws
  | [], ns, h => by simp [allOk] at h; simp [h]
  | w :: r, ns, h => by
    simp only [allOk] at h
    cases hw : okN w with
    | none => simp [hw] at h
    | some n =>
      cases hr : allOk okN r with
      | none => simp [hw, hr] at h
      | some ms =>
        simp [hw, hr] at h; subst h
        rw [List.map_cons, allOk_back hr]
        unfold okN at hw
        cases hn : numOf w with
        | none => simp [hn] at hw
        | some v =>
          obtain ⟨_, _, _, _, h5, _⟩ := numOf_some hn
          simp [hn] at hw
          obtain ⟨_, rfl⟩ := hw
          rw [h5]
theorem fmt_parseN {t : List UInt8} {ns : List Int} (h : parseN t = some ns) : fmtNums ns = t := by
  unfold parseN at h
  split at h
  · rename_i e
    injection h with h
    subst h; rw [e]; rfl
  · split at h
    · cases h
    · have hb := allOk_back h
      have hne : ns ≠ [] := by
        rintro rfl
        exact cutGo_ne_nil 32 t [] hb.symm
      unfold fmtNums fmtL
      rw [if_neg hne, List.take_length, hb, join_cuts]
theorem parseN_in {t : List UInt8} {ns : List Int} (h : parseN t = some ns) : ns.length ≤ 40 ∧ ∀ n ∈ ns, InI n := by
  unfold parseN at h
  split at h
  · injection h with h
    subst h; simp
  · split at h
    · cases h
    · refine ⟨by have := allOk_length h; omega, allOk_mem (fun x n hx => ?_) h⟩
      unfold okN at hx
      cases hn : numOf x with
      | none => simp [hn] at hx
      | some v =>
        simp [hn] at hx
        obtain ⟨hr, rfl⟩ := hx
        exact ⟨by omega, by omega⟩
end Go.Proofs.YtkkcnkajffbnaaaDoor
