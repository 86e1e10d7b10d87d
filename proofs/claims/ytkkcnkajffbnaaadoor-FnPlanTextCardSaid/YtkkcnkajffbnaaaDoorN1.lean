/-
  Plain: deeds are parsed from their text, and a text that is parsed is that of the deeds.
-/
import Derived.Test.YtkkcnkajffbnaaaDoorY1
namespace Go.Proofs.YtkkcnkajffbnaaaDoor
open Go.RowKit
set_option linter.all false

theorem numOf_itoa_back {n v : Int} (hn : numOf (Lib.itoa n) = some v) : v = n := by
  obtain ⟨_, _, _, h4, h5, _⟩ := numOf_some hn
  have h1 := decNat_decDigits v.natAbs
  have h2 := decNat_decDigits n.natAbs
  unfold Lib.itoa at h5
  by_cases hv : v < 0 <;> by_cases hn0 : n < 0
  · rw [if_pos hv, if_pos hn0] at h5
    injection h5 with _ h5
    rw [h5] at h1
    rw [h1] at h2
    injection h2 with h2
    omega
  · rw [if_pos hv, if_neg hn0] at h5
    have := decDigits_ge n.toNat 45 (by rw [← h5]; simp)
    simp at this
  · rw [if_neg hv, if_pos hn0] at h5
    have := decDigits_ge v.toNat 45 (by rw [h5]; simp)
    simp at this
  · rw [if_neg hv, if_neg hn0] at h5
    have e1 := decNat_decDigits v.toNat
    have e2 := decNat_decDigits n.toNat
    rw [h5] at e1
    rw [e1] at e2
    injection e2 with e2
    omega
theorem deedText_join (d : Dd) : deedText d = Lib.join (if needD d then [d.act, Lib.itoa d.line, Lib.itoa d.word] else [d.act, Lib.itoa d.line]) [32] := by
  unfold deedText deedHead
  split
  · rw [join_three]
  · rw [join_two]
theorem readOf_text {d : Dd} (h : (32 : UInt8) ∉ d.act) : readOf (deedText d) = if needD d then (numOf (Lib.itoa d.line)).bind fun x => (numOf (Lib.itoa d.word)).map fun y => ⟨d.act, x, y⟩ else (numOf (Lib.itoa d.line)).map fun x => ⟨d.act, x, 0⟩ := by
  have n1 := itoa_no d.line 32 (by decide)
  have n2 := itoa_no d.word 32 (by decide)
  have hc : cuts 32 (deedText d) = if needD d then [d.act, Lib.itoa d.line, Lib.itoa d.word] else [d.act, Lib.itoa d.line] := by
    rw [deedText_join]
    split
    · exact cuts_join 32 _ (by simp) (by intro x hx; simp at hx; rcases hx with rfl | rfl | rfl <;> assumption)
    · exact cuts_join 32 _ (by simp) (by intro x hx; simp at hx; rcases hx with rfl | rfl <;> assumption)
  unfold readOf
  rw [hc]
  by_cases hn : needD d = true
  · rw [if_pos hn, if_pos hn]
  · rw [if_neg hn, if_neg hn]
theorem needD_zero {d : Dd} (h : needD d = false) : d.word = 0 := by
  unfold needD at h
  simp only [Bool.or_eq_false_iff, bne_eq_false_iff_eq] at h
  exact h.1
theorem deedOf_text {d e : Dd} (h : (32 : UInt8) ∉ d.act) (he : deedOf (deedText d) = some e) : e = d := by
  rw [read_deed, readOf_text h] at he
  by_cases hn : needD d = true
  · rw [if_pos hn] at he
    cases h1 : numOf (Lib.itoa d.line) with
    | none => simp [h1] at he
    | some x =>
      cases h2 : numOf (Lib.itoa d.word) with
      | none => simp [h1, h2] at he
      | some y =>
        have e1 := numOf_itoa_back h1
        have e2 := numOf_itoa_back h2
        subst e1 e2
        simp only [h1, h2, Option.map_some, Option.bind_some] at he
        split at he
        · injection he with he; exact he.symm
        · cases he
  · have hn' : needD d = false := by simpa using hn
    rw [if_neg hn] at he
    cases h1 : numOf (Lib.itoa d.line) with
    | none => simp [h1] at he
    | some x =>
      have e1 := numOf_itoa_back h1
      subst e1
      simp only [h1, Option.map_some, Option.bind_some] at he
      have hw := needD_zero hn'
      split at he
      · injection he with he
        rw [← he]
        obtain ⟨a, l, w⟩ := d
        simp only at hw
        subst hw; rfl
      · cases he
theorem deedOf_good {d : Dd} (ha : actB d.act = true) (h : (32 : UInt8) ∉ d.act) (hl : numOf (Lib.itoa d.line) = some d.line) (hw : numOf (Lib.itoa d.word) = some d.word) : deedOf (deedText d) = some d := by
  rw [read_deed, readOf_text h]
  by_cases hn : needD d = true
  · rw [if_pos hn, hl, hw]
    simp [ha]
  · have hn' : needD d = false := by simpa using hn
    rw [if_neg hn, hl]
    have h0 := needD_zero hn'
    have e : (⟨d.act, d.line, 0⟩ : Dd) = d := by
      obtain ⟨a, l, w⟩ := d
      simp only at h0
      subst h0; rfl
    simp [e, ha]
theorem deedText_no {d : Dd} (h : (44 : UInt8) ∉ d.act) : (44 : UInt8) ∉ deedText d := by
  have n1 := itoa_no d.line 44 (by decide)
  have n2 := itoa_no d.word 44 (by decide)
  unfold deedText deedHead
  split <;> simp [h, n1, n2]
theorem fmtPlan_cuts {ds : List Dd} (h0 : ds ≠ []) (h : ∀ d ∈ ds, (44 : UInt8) ∉ d.act) : cuts 44 (fmtPlan ds) = ds.map deedText ∧ fmtPlan ds ≠ [45] := by
  have hc := cuts_join 44 (ds.map deedText) (by simpa using h0) (fun x hx => by obtain ⟨d, hd, rfl⟩ := List.mem_map.1 hx; exact deedText_no (h d hd))
  have e : fmtPlan ds = Lib.join (ds.map deedText) [44] := by
    unfold fmtPlan planL
    rw [if_neg h0, List.take_length]
  rw [e]
  refine ⟨hc, fun e => ?_⟩
  rw [e] at hc
  cases ds with
  | nil => exact h0 rfl
  | cons d r =>
    rw [show cuts 44 [45] = [[45]] from rfl, List.map_cons] at hc
    injection hc with hc _
    have : (32 : UInt8) ∈ deedText d := by unfold deedText deedHead; split <;> simp
    rw [← hc] at this
    simp at this
theorem allOk_text : ∀ {ds ns : List Dd}, (∀ d ∈ ds, (32 : UInt8) ∉ d.act) → allOk deedOf (ds.map deedText) = some ns → ns = ds
  | [], ns, _, h => by simp [allOk] at h; exact h
  | d :: r, ns, hd, h => by
    simp only [List.map_cons, allOk] at h
    cases h1 : deedOf (deedText d) with
    | none => simp [h1] at h
    | some e =>
      cases h2 : allOk deedOf (r.map deedText) with
      | none => simp [h1, h2] at h
      | some ms =>
        simp [h1, h2] at h
        rw [← h, deedOf_text (hd d (by simp)) h1, allOk_text (fun x hx => hd x (List.mem_cons_of_mem _ hx)) h2]
theorem allOk_good : ∀ {ds : List Dd}, (∀ d ∈ ds, deedOf (deedText d) = some d) → allOk deedOf (ds.map deedText) = some ds
  | [], _ => rfl
  | d :: r, h => by
    simp only [List.map_cons, allOk, h d (by simp), allOk_good (fun x hx => h x (List.mem_cons_of_mem _ hx))]
    rfl
theorem parseP_back {ds ns : List Dd} (h : ∀ d ∈ ds, (32 : UInt8) ∉ d.act ∧ (44 : UInt8) ∉ d.act) (hp : parseP (fmtPlan ds) = some ns) : ns = ds := by
  by_cases h0 : ds = []
  · subst h0
    have : parseP (fmtPlan []) = some [] := rfl
    rw [this] at hp
    injection hp with hp; exact hp.symm
  · obtain ⟨hc, hne⟩ := fmtPlan_cuts h0 (fun d hd => (h d hd).2)
    unfold parseP at hp
    rw [if_neg hne, hc] at hp
    split at hp
    · cases hp
    · exact allOk_text (fun d hd => (h d hd).1) hp
theorem parseP_good {ds : List Dd} (hl : ds.length ≤ 12) (h : ∀ d ∈ ds, (32 : UInt8) ∉ d.act ∧ (44 : UInt8) ∉ d.act) (hg : ∀ d ∈ ds, deedOf (deedText d) = some d) : parseP (fmtPlan ds) = some ds := by
  by_cases h0 : ds = []
  · subst h0; rfl
  · obtain ⟨hc, hne⟩ := fmtPlan_cuts h0 (fun d hd => (h d hd).2)
    unfold parseP
    rw [if_neg hne, hc, if_neg (by simp; omega), allOk_good hg]
theorem deedOf_some {t : List UInt8} {d : Dd} (h : deedOf t = some d) : deedText d = t := by
  rw [read_deed] at h
  cases hr : readOf t with
  | none => simp [hr] at h
  | some e =>
    simp only [hr, Option.bind_some] at h
    split at h
    · rename_i hc
      injection h with h
      subst h
      simp only [Bool.and_eq_true, beq_iff_eq] at hc
      exact hc.2
    · cases h
theorem allOk_deeds : ∀ {ws : List (List UInt8)} {ns : List Dd}, allOk deedOf ws = some ns → ns.map deedText = ws
  | [], ns, h => by simp [allOk] at h; simp [h]
  | w :: r, ns, h => by
    simp only [allOk] at h
    cases hw : deedOf w with
    | none => simp [hw] at h
    | some n =>
      cases hr : allOk deedOf r with
      | none => simp [hw, hr] at h
      | some ms =>
        simp [hw, hr] at h
        subst h
        rw [List.map_cons, allOk_deeds hr, deedOf_some hw]
theorem fmt_parseP {t : List UInt8} {ns : List Dd} (h : parseP t = some ns) : fmtPlan ns = t := by
  unfold parseP at h
  split at h
  · rename_i e
    injection h with h
    subst h; rw [e]; rfl
  · split at h
    · cases h
    · have hb := allOk_deeds h
      have hne : ns ≠ [] := by
        rintro rfl
        exact cutGo_ne_nil 44 t [] hb.symm
      unfold fmtPlan planL
      rw [if_neg hne, List.take_length, hb, join_cuts]
end Go.Proofs.YtkkcnkajffbnaaaDoor
