/-
  The program's parseNumber parses a canonical decimal numeral of at most 17 digits.
-/
import Derived.Test.YtkkcnkajffbnaaaDoorV3
import Derived.Test.YtkkcnkajffbnaaaDoorShelfP
import Derived.Lib.AtoiBound
import Derived.Lib.AtoiErrMem
namespace Go.Proofs.YtkkcnkajffbnaaaDoor
open Go.RowKit

/-- What the walks of the parsers lean on: the table of powers, and some error in ErrSyntax. -/
structure EnvP (w : World) : Prop where
  env : Env w
  err : ∃ ev, w.cell? ⟨4, 0, none⟩ = some ev ∧ (ev = .nilIface ∨ ∃ te pe, ev = .iface te pe)
theorem EnvP.below {w w' : World} {B : Nat} (h : EnvP w) (hb : Below B w w') (hB : w.heap.size ≤ B) : EnvP w' := by
  refine ⟨h.env.below hb hB, ?_⟩
  obtain ⟨ev, h1, h2⟩ := h.err
  exact ⟨ev, (hb.cell (by show 4 < B; have := h.env.size; omega)).trans h1, h2⟩

theorem atoi_good (s : ByteArray) (v : Int) (hl : s.size ≤ 18) (h : Lib.atoi s.data.toList = some v) (w : World) :
    Calls Tryd.prog 58 #[.string s] w fun e w' => e = .returned (.tuple #[.int .i64 v, .nilIface]) ∧ Below w.heap.size w w' :=
  (Tryd.strconv_Atoi s v hl h w).mono fun _ _ ⟨he, t, hw⟩ => ⟨he, hw ▸ Lib.bytesWorld_below w 5 t⟩
theorem atoi_bad (s : ByteArray) (hl : s.size ≤ 18) (h : Lib.atoi s.data.toList = none) (w : World) (hE : EnvP w) :
    Calls Tryd.prog 58 #[.string s] w fun e w' => ∃ N, e = .returned (.tuple #[.int .i64 0, .iface 113 (.pointer (some ⟨N, 0, none⟩))]) ∧ Below w.heap.size w w' := by
  obtain ⟨ev, h1, h2⟩ := hE.err
  refine (Tryd.strconv_Atoi_syntax s (by omega) ?_ ev w h1 h2).mono fun _ _ ⟨N, he, _, _, hb⟩ => ⟨N, he, hb⟩
  rw [Lib.atoiAll_short _ (by rw [Array.length_toList]; exact hl), h]

set_option maxRecDepth 100000 in
set_option maxHeartbeats 400000 in
theorem parseNumber_any (s : ByteArray) (w : World) (hE : EnvP w) :
    Calls Tryd.prog 43 #[.string s] w fun e w' => e = numRet s.data.toList ∧ Below w.heap.size w w' := by
  unfold numRet
  have hsz : s.data.toList.length = s.size := Array.length_toList
  have htr := Lib.hid (Tryd.strings_TrimPrefix s ⟨#[45]⟩)
  rw [show Lib.trimPrefix s.data.toList (⟨#[45]⟩ : ByteArray).data.toList = digitsOf s.data.toList from trim_digits _] at htr
  have hdl : s.size ≤ (digitsOf s.data.toList).length + 1 := by unfold digitsOf; split <;> simp <;> omega
  by_cases hd : digitsOf s.data.toList = [] ∨ 17 < (digitsOf s.data.toList).length
  · have hno : numOf s.data.toList = none := by
      cases h : numOf s.data.toList with
      | none => rfl
      | some v =>
        obtain ⟨h1, h2, _⟩ := numOf_some h
        rcases hd with hd | hd
        · exact absurd hd h1
        · omega
    rw [hno]
    clear hno hdl
    generalize digitsOf s.data.toList = d at *
    by_cases he : d = []
    · have hde : d.isEmpty = true := by simp [he]
      clear he hd
      go_enter Tryd.func43, Tryd.ntmps43
      go_wp2_with (go_at_call 57; refine (htr.out _).mono ?_; rintro e w' ⟨rfl, hw⟩; subst hw)
      all_goals (go_ret2; exact ⟨rfl, Below.refl _ _⟩)
    · have hde : d.isEmpty = false := by simpa using he
      have hbig : (17 : Int) < (d.length : Int) := by rcases hd with hd | hd; exact absurd hd he; omega
      clear hd he
      go_enter Tryd.func43, Tryd.ntmps43
      go_wp2_with (go_at_call 57; refine (htr.out _).mono ?_; rintro e w' ⟨rfl, hw⟩; subst hw)
      all_goals (go_ret2; exact ⟨rfl, Below.refl _ _⟩)
  · have hde : (digitsOf s.data.toList).isEmpty = false := by
      cases h : digitsOf s.data.toList with
      | nil => exact absurd (.inl h) hd
      | cons a b => rfl
    have h17 : (digitsOf s.data.toList).length ≤ 17 := Nat.le_of_not_lt fun h => hd (.inr h)
    have hbig : ¬ (17 : Int) < ((digitsOf s.data.toList).length : Int) := by omega
    have hno : ∀ v, Lib.itoa v = s.data.toList → numOf s.data.toList = some v := fun v h => numOf_of h17 h
    clear hd h17
    cases ha : Lib.atoi s.data.toList with
    | none =>
      have hnone : Hid (numOf s.data.toList = none) := by
        cases h : numOf s.data.toList with
        | none => rfl
        | some v =>
          obtain ⟨_, _, _, h4, _⟩ := numOf_some h
          rw [ha] at h4; cases h4
      have hat := Lib.hid (atoi_bad s (by omega) ha)
      clear hno ha hdl
      generalize digitsOf s.data.toList = d at *
      go_enter Tryd.func43, Tryd.ntmps43
      go_wp2_with (first
        | (go_at_call 57; refine (htr.out _).mono ?_; rintro e w' ⟨rfl, hw⟩; subst hw)
        | (go_at_call 58; refine (hat.out _ hE).mono ?_; rintro e w1 ⟨N, rfl, hb1⟩))
      go_ret2
      exact ⟨by rw [hnone.out]; rfl, by assumption⟩
    | some v =>
      have hbv := Lib.atoi_bound ha (by omega)
      have hat := Lib.hid (atoi_good s v (by omega) ha)
      have hit := Lib.hid (fun w h => itoa_any v w ⟨by omega, by omega⟩ h)
      have hsome : ∀ u, numOf s.data.toList = some u → Lib.itoa u = s.data.toList ∧ u = v := fun u h => by
        obtain ⟨_, _, _, h4, h5, _⟩ := numOf_some h
        rw [ha] at h4
        exact ⟨h5, (Option.some.inj h4).symm⟩
      clear ha hdl
      generalize digitsOf s.data.toList = d at *
      by_cases heq : Lib.itoa v = s.data.toList
      · have hfin : Hid (numOf s.data.toList = some v) := hno v heq
        have hcmp : ((⟨(Lib.itoa v).toArray⟩ : ByteArray).toList == s.toList) = true := by
          rw [Lib.toList_data, Lib.toList_data]; simp [heq]
        clear hno hsome heq
        generalize hq : (⟨(Lib.itoa v).toArray⟩ : ByteArray) = q at *
        clear hq
        go_enter Tryd.func43, Tryd.ntmps43
        go_wp2_with (first
          | (go_at_call 57; refine (htr.out _).mono ?_; rintro e w' ⟨rfl, hw⟩; subst hw)
          | (go_at_call 58; refine (hat.out _).mono ?_; rintro e w1 ⟨rfl, hb1⟩)
          | (go_at_call 32; refine (hit.out _ (hE.env.below hb1 (Nat.le_refl _))).mono ?_; rintro e w2 ⟨rfl, hb2⟩))
        go_ret2
        exact ⟨by rw [hfin.out]; rfl, hb1.trans (hb2.mono hb1.size)⟩
      · have hfin : Hid (numOf s.data.toList = none) := by
          cases h : numOf s.data.toList with
          | none => rfl
          | some u =>
            obtain ⟨h1, h2⟩ := hsome u h
            rw [h2] at h1
            exact absurd h1 heq
        have hcmp : ((⟨(Lib.itoa v).toArray⟩ : ByteArray).toList == s.toList) = false := by
          rw [Lib.toList_data, Lib.toList_data]; simpa using heq
        clear hno hsome heq
        generalize hq : (⟨(Lib.itoa v).toArray⟩ : ByteArray) = q at *
        clear hq
        go_enter Tryd.func43, Tryd.ntmps43
        go_wp2_with (first
          | (go_at_call 57; refine (htr.out _).mono ?_; rintro e w' ⟨rfl, hw⟩; subst hw)
          | (go_at_call 58; refine (hat.out _).mono ?_; rintro e w1 ⟨rfl, hb1⟩)
          | (go_at_call 32; refine (hit.out _ (hE.env.below hb1 (Nat.le_refl _))).mono ?_; rintro e w2 ⟨rfl, hb2⟩))
        go_ret2
        exact ⟨by rw [hfin.out]; rfl, hb1.trans (hb2.mono hb1.size)⟩
end Go.Proofs.YtkkcnkajffbnaaaDoor
