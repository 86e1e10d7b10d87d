/-
  The reference's l11Num parses a canonical decimal numeral of at most 17 digits. (Printed by genV3.py.)
-/
import Derived.Test.YtkkcnkajffbnaaaDoorV2
namespace Go.Proofs.YtkkcnkajffbnaaaDoor
open Go.RowKit

def numRet (l : List UInt8) : Ending := .returned (.tuple #[.int .i64 ((numOf l).getD 0), .bool (numOf l).isSome])
theorem extract_tail (s : ByteArray) : (s.extract 1 s.size).data.toList = s.data.toList.tail := by
  rw [Lib.extract_data, List.take_of_length_le (by rw [List.length_drop, Array.length_toList]; exact Nat.le_refl _)]
  simp

set_option maxRecDepth 100000 in
set_option maxHeartbeats 400000 in
theorem l11Num_any (s : ByteArray) (w : World) (hn : s.size ≤ 1048576) :
    Calls Tryd.prog 40 #[.string s] w fun e w' => e = numRet s.data.toList ∧ Below w.heap.size w w' := by
  unfold numRet
  have hsz : s.data.toList.length = s.size := Array.length_toList
  by_cases h0 : s.size = 0
  · have hnil : s.data.toList = [] := List.length_eq_zero_iff.1 (by omega)
    rw [hnil, show numOf [] = none from rfl]
    go_enter Tryd.func40, Tryd.ntmps40
    go_wp2
    go_ret2
    exact ⟨rfl, Below.refl _ _⟩
  have hps : 0 < s.size := by omega
  have hps' : (0 : Int) < (s.size : Int) := by omega
  have hhd : s.data.toList.head? = some (s[0]'hps) := by
    rw [List.head?_eq_getElem?, List.getElem?_eq_getElem (by omega), ← byte_at s 0 hps (by omega)]
  by_cases h45 : (((s[0]'hps).toNat : Int) == 45) = true
  · have h45' : s[0]'hps = 45 := UInt8.toNat_inj.1 (by simpa using Int.ofNat_inj.1 (beq_iff_eq.1 h45))
    obtain ⟨s', hs'⟩ : ∃ s', s.extract 1 s.size = s' := ⟨_, rfl⟩
    have htl := extract_tail s
    rw [hs'] at htl
    have hss : s'.size ≤ s.size := by rw [← hs']; simp
    have hnum : numOf s.data.toList = (magOf s'.data.toList true).map fun (m : Nat) => -(m : Int) := by
      unfold numOf; rw [if_pos (by rw [hhd, h45']), htl]
    clear htl hhd h45'
    go_enter Tryd.func40, Tryd.ntmps40
    have hsz' : s'.data.toList.length = s'.size := Array.length_toList
    by_cases hbad : s'.size = 0 ∨ 17 < s'.size ∨ ∃ h : 0 < s'.size, ((s'[0]'h).toNat : Int) = 48 ∧ (1 < s'.size ∨ true = true)
    · have hno : numOf s.data.toList = none := by
        rw [hnum, magOf, if_pos]
        · rfl
        · rcases hbad with h | h | ⟨h, h1, h2⟩
          · exact .inl (List.length_eq_zero_iff.1 (by omega))
          · exact .inr (.inl (by omega))
          · refine .inr (.inr ⟨?_, by rw [hsz']; exact h2⟩)
            rw [List.head?_eq_getElem?, List.getElem?_eq_getElem (by omega), ← byte_at s' 0 h (by omega)]
            congr 1
            exact UInt8.toNat_inj.1 (by simpa using Int.ofNat_inj.1 h1)
      rw [hno]
      clear hnum hno
      rcases hbad with h | h | ⟨h, h1, h2⟩
      · go_wp2
        go_ret2
        exact ⟨rfl, Below.refl _ _⟩
      · have h1 : ((s'.size : Int) == 0) = false := beq_eq_false_iff_ne.2 (by omega)
        have h2 : (17 : Int) < (s'.size : Int) := by omega
        go_wp2
        go_ret2
        exact ⟨rfl, Below.refl _ _⟩
      · by_cases hbig : 17 < s'.size
        · have h1 : ((s'.size : Int) == 0) = false := beq_eq_false_iff_ne.2 (by omega)
          have h2 : (17 : Int) < (s'.size : Int) := by omega
          go_wp2
          go_ret2
          exact ⟨rfl, Below.refl _ _⟩
        · have h3 : ((s'.size : Int) == 0) = false := beq_eq_false_iff_ne.2 (by omega)
          have h4 : ¬ (17 : Int) < (s'.size : Int) := by omega
          have h5 : (((s'[0]'h).toNat : Int) == 48) = true := by simpa using h1
          go_wp2
          all_goals (go_ret2; exact ⟨rfl, Below.refl _ _⟩)
    · have hp : 0 < s'.size := Nat.pos_of_ne_zero fun h => hbad (.inl h)
      have h17 : s'.size ≤ 17 := Nat.le_of_not_lt fun h => hbad (.inr (.inl h))
      have hmag : Hid (numOf s.data.toList = (Lib.decFrom 0 s'.data.toList).map fun (m : Nat) => -(m : Int)) := by
        rw [Hid, hnum, magOf, if_neg, Lib.decNat, if_neg]
        · intro h
          rw [List.isEmpty_iff] at h
          rw [h] at hsz'; simp at hsz'; omega
        · rintro (h | h | ⟨h, h2⟩)
          · rw [h] at hsz'; simp at hsz'; omega
          · omega
          · rw [List.head?_eq_getElem?, List.getElem?_eq_getElem (by omega), ← byte_at s' 0 hp (by omega)] at h
            injection h with h
            exact hbad (.inr (.inr ⟨hp, by rw [h]; rfl, by rw [hsz'] at h2; exact h2⟩))
      clear hnum
      have h3 : ((s'.size : Int) == 0) = false := beq_eq_false_iff_ne.2 (by omega)
      have h4 : ¬ (17 : Int) < (s'.size : Int) := by omega
      by_cases hz : (((s'[0]'hp).toNat : Int) == 48) = true
      all_goals (try replace hz : (((s'[0]'hp).toNat : Int) == 48) = false := by simpa using hz)
      · have h7 : ¬ (1 : Int) < (s'.size : Int) := fun h => hbad (.inr (.inr ⟨hp, by simpa using hz, .inl (by omega)⟩))
        exact absurd (by simpa using hz) (fun e : (((s'[0]'hp).toNat : Int) = 48) => hbad (.inr (.inr ⟨hp, e, .inr rfl⟩)))
      · clear hbad
        go_wp2
        go_loopw [5, 6] (fun n i wr => ∃ k m : Nat, k ≤ s'.size ∧ n = .int .i64 m ∧ i = .int .i64 k ∧ Hid (Lib.decFrom 0 (s'.data.toList.take k) = some m) ∧ m < 100000000000000000 ∧ Below w.heap.size w wr) (fun _ i _ => s'.size - (intOf i).toNat)
        case atStart => exact ⟨0, 0, Nat.zero_le _, rfl, rfl, rfl, by decide, Below.refl _ _⟩
        case round =>
          obtain ⟨k, m, hk, rfl, rfl, hm, hmb, hb⟩ := hrel
          by_cases hlt : k < s'.size
          · have hbk := byte_at s' k hlt (by omega)
            have hget : s'.data.toList[k]? = some s'.data.toList[k] := List.getElem?_eq_getElem (by omega)
            rw [← hbk] at hget
            cases hdv : Lib.digitVal (s'[k]'hlt) with
            | none =>
              have hno : Hid (numOf s.data.toList = none) := by
                rw [Hid, hmag.out]
                cases hd : Lib.decFrom 0 s'.data.toList with
                | none => rfl
                | some q =>
                  obtain ⟨d, hd2⟩ := Lib.digit_of_decFrom _ _ _ hd k _ hget
                  rw [hdv] at hd2; cases hd2
              unfold Lib.digitVal at hdv
              split at hdv
              · cases hdv
              rename_i hnd
              clear hdv hget hbk
              by_cases hlo : (s'[k]'hlt).toNat < 48
              · have hlo' : (((s'[k]'hlt).toNat : Int) < 48) := by omega
                go_wp2
                go_ret2
                exact ⟨by rw [hno.out]; rfl, hb⟩
              · have hlo' : ¬ (((s'[k]'hlt).toNat : Int) < 48) := by omega
                have hhi : (57 : Int) < ((s'[k]'hlt).toNat : Int) := by omega
                go_wp2
                go_ret2
                exact ⟨by rw [hno.out]; rfl, hb⟩
            | some d =>
              have hm2 : Hid (Lib.decFrom 0 (s'.data.toList.take (k + 1)) = some (m * 10 + d)) := Lib.decFrom_take _ k 0 m _ d hm.out hget hdv
              have hb2 := Lib.decFrom_lt _ 0 _ hm2.out
              have hp10 : 10 ^ (s'.data.toList.take (k + 1)).length ≤ 10 ^ 17 := Nat.pow_le_pow_right (by decide) (by simp; omega)
              have e17 : (10 : Nat) ^ 17 = 100000000000000000 := by decide
              have hm3 : m * 10 + d < 100000000000000000 := by omega
              clear hb2 hp10 e17
              unfold Lib.digitVal at hdv
              split at hdv
              · rename_i hdd
                injection hdv with hdv
                clear hget hbk
                generalize hx : (s'[k]'hlt).toNat = x at *
                obtain ⟨hx1, hx2⟩ := hdd
                obtain rfl : x = 48 + d := by omega
                have hd10 : d < 10 := by omega
                clear hdv
                go_wp2
                go_roundw
                case rel => exact ⟨k + 1, m * 10 + d, by omega, by go_num, by go_num, hm2, hm3, hb⟩
                case measure => simp [intOf]; omega
              · cases hdv
          · have ek : k = s'.size := by omega
            subst ek
            have hfin : Hid (numOf s.data.toList = some (-(m : Int))) := by
              have := hm.out
              rw [← hsz', List.take_length] at this
              rw [Hid, hmag.out, this]; rfl
            go_wp2
            go_ret2
            exact ⟨by rw [hfin.out]; rfl, hb⟩
  · have h45' : ¬ s[0]'hps = 45 := fun e => h45 (by rw [e]; rfl)
    have h45f : (((s[0]'hps).toNat : Int) == 45) = false := by simpa using h45
    have hnum : numOf s.data.toList = (magOf s.data.toList false).map fun (m : Nat) => (m : Int) := by
      unfold numOf; rw [if_neg (by rw [hhd]; simpa using h45')]
    clear hhd h45' h45
    go_enter Tryd.func40, Tryd.ntmps40
    have hsz' : s.data.toList.length = s.size := Array.length_toList
    by_cases hbad : s.size = 0 ∨ 17 < s.size ∨ ∃ h : 0 < s.size, ((s[0]'h).toNat : Int) = 48 ∧ (1 < s.size ∨ false = true)
    · have hno : numOf s.data.toList = none := by
        rw [hnum, magOf, if_pos]
        · rfl
        · rcases hbad with h | h | ⟨h, h1, h2⟩
          · exact .inl (List.length_eq_zero_iff.1 (by omega))
          · exact .inr (.inl (by omega))
          · refine .inr (.inr ⟨?_, by rw [hsz']; exact h2⟩)
            rw [List.head?_eq_getElem?, List.getElem?_eq_getElem (by omega), ← byte_at s 0 h (by omega)]
            congr 1
            exact UInt8.toNat_inj.1 (by simpa using Int.ofNat_inj.1 h1)
      rw [hno]
      clear hnum hno
      rcases hbad with h | h | ⟨h, h1, h2⟩
      · go_wp2
        go_ret2
        exact ⟨rfl, Below.refl _ _⟩
      · have h1 : ((s.size : Int) == 0) = false := beq_eq_false_iff_ne.2 (by omega)
        have h2 : (17 : Int) < (s.size : Int) := by omega
        go_wp2
        go_ret2
        exact ⟨rfl, Below.refl _ _⟩
      · by_cases hbig : 17 < s.size
        · have h1 : ((s.size : Int) == 0) = false := beq_eq_false_iff_ne.2 (by omega)
          have h2 : (17 : Int) < (s.size : Int) := by omega
          go_wp2
          go_ret2
          exact ⟨rfl, Below.refl _ _⟩
        · have h3 : ((s.size : Int) == 0) = false := beq_eq_false_iff_ne.2 (by omega)
          have h4 : ¬ (17 : Int) < (s.size : Int) := by omega
          have h5 : (((s[0]'h).toNat : Int) == 48) = true := by simpa using h1
          have h6 : (1 : Int) < (s.size : Int) := by simp at h2; omega
          go_wp2
          all_goals (go_ret2; exact ⟨rfl, Below.refl _ _⟩)
    · have hp : 0 < s.size := Nat.pos_of_ne_zero fun h => hbad (.inl h)
      have h17 : s.size ≤ 17 := Nat.le_of_not_lt fun h => hbad (.inr (.inl h))
      have hmag : Hid (numOf s.data.toList = (Lib.decFrom 0 s.data.toList).map fun (m : Nat) => (m : Int)) := by
        rw [Hid, hnum, magOf, if_neg, Lib.decNat, if_neg]
        · intro h
          rw [List.isEmpty_iff] at h
          rw [h] at hsz'; simp at hsz'; omega
        · rintro (h | h | ⟨h, h2⟩)
          · rw [h] at hsz'; simp at hsz'; omega
          · omega
          · rw [List.head?_eq_getElem?, List.getElem?_eq_getElem (by omega), ← byte_at s 0 hp (by omega)] at h
            injection h with h
            exact hbad (.inr (.inr ⟨hp, by rw [h]; rfl, by rw [hsz'] at h2; exact h2⟩))
      clear hnum
      have h3 : ((s.size : Int) == 0) = false := beq_eq_false_iff_ne.2 (by omega)
      have h4 : ¬ (17 : Int) < (s.size : Int) := by omega
      by_cases hz : (((s[0]'hp).toNat : Int) == 48) = true
      all_goals (try replace hz : (((s[0]'hp).toNat : Int) == 48) = false := by simpa using hz)
      · have h7 : ¬ (1 : Int) < (s.size : Int) := fun h => hbad (.inr (.inr ⟨hp, by simpa using hz, .inl (by omega)⟩))
        clear hbad
        go_wp2
        go_loopw [5, 6] (fun n i wr => ∃ k m : Nat, k ≤ s.size ∧ n = .int .i64 m ∧ i = .int .i64 k ∧ Hid (Lib.decFrom 0 (s.data.toList.take k) = some m) ∧ m < 100000000000000000 ∧ Below w.heap.size w wr) (fun _ i _ => s.size - (intOf i).toNat)
        case atStart => exact ⟨0, 0, Nat.zero_le _, rfl, rfl, rfl, by decide, Below.refl _ _⟩
        case round =>
          obtain ⟨k, m, hk, rfl, rfl, hm, hmb, hb⟩ := hrel
          by_cases hlt : k < s.size
          · have hbk := byte_at s k hlt (by omega)
            have hget : s.data.toList[k]? = some s.data.toList[k] := List.getElem?_eq_getElem (by omega)
            rw [← hbk] at hget
            cases hdv : Lib.digitVal (s[k]'hlt) with
            | none =>
              have hno : Hid (numOf s.data.toList = none) := by
                rw [Hid, hmag.out]
                cases hd : Lib.decFrom 0 s.data.toList with
                | none => rfl
                | some q =>
                  obtain ⟨d, hd2⟩ := Lib.digit_of_decFrom _ _ _ hd k _ hget
                  rw [hdv] at hd2; cases hd2
              unfold Lib.digitVal at hdv
              split at hdv
              · cases hdv
              rename_i hnd
              clear hdv hget hbk
              by_cases hlo : (s[k]'hlt).toNat < 48
              · have hlo' : (((s[k]'hlt).toNat : Int) < 48) := by omega
                go_wp2
                go_ret2
                exact ⟨by rw [hno.out]; rfl, hb⟩
              · have hlo' : ¬ (((s[k]'hlt).toNat : Int) < 48) := by omega
                have hhi : (57 : Int) < ((s[k]'hlt).toNat : Int) := by omega
                go_wp2
                go_ret2
                exact ⟨by rw [hno.out]; rfl, hb⟩
            | some d =>
              have hm2 : Hid (Lib.decFrom 0 (s.data.toList.take (k + 1)) = some (m * 10 + d)) := Lib.decFrom_take _ k 0 m _ d hm.out hget hdv
              have hb2 := Lib.decFrom_lt _ 0 _ hm2.out
              have hp10 : 10 ^ (s.data.toList.take (k + 1)).length ≤ 10 ^ 17 := Nat.pow_le_pow_right (by decide) (by simp; omega)
              have e17 : (10 : Nat) ^ 17 = 100000000000000000 := by decide
              have hm3 : m * 10 + d < 100000000000000000 := by omega
              clear hb2 hp10 e17
              unfold Lib.digitVal at hdv
              split at hdv
              · rename_i hdd
                injection hdv with hdv
                clear hget hbk
                generalize hx : (s[k]'hlt).toNat = x at *
                obtain ⟨hx1, hx2⟩ := hdd
                obtain rfl : x = 48 + d := by omega
                have hd10 : d < 10 := by omega
                clear hdv
                go_wp2
                go_roundw
                case rel => exact ⟨k + 1, m * 10 + d, by omega, by go_num, by go_num, hm2, hm3, hb⟩
                case measure => simp [intOf]; omega
              · cases hdv
          · have ek : k = s.size := by omega
            subst ek
            have hfin : Hid (numOf s.data.toList = some ((m : Int))) := by
              have := hm.out
              rw [← hsz', List.take_length] at this
              rw [Hid, hmag.out, this]; rfl
            go_wp2
            go_ret2
            exact ⟨by rw [hfin.out]; rfl, hb⟩
      · clear hbad
        go_wp2
        go_loopw [5, 6] (fun n i wr => ∃ k m : Nat, k ≤ s.size ∧ n = .int .i64 m ∧ i = .int .i64 k ∧ Hid (Lib.decFrom 0 (s.data.toList.take k) = some m) ∧ m < 100000000000000000 ∧ Below w.heap.size w wr) (fun _ i _ => s.size - (intOf i).toNat)
        case atStart => exact ⟨0, 0, Nat.zero_le _, rfl, rfl, rfl, by decide, Below.refl _ _⟩
        case round =>
          obtain ⟨k, m, hk, rfl, rfl, hm, hmb, hb⟩ := hrel
          by_cases hlt : k < s.size
          · have hbk := byte_at s k hlt (by omega)
            have hget : s.data.toList[k]? = some s.data.toList[k] := List.getElem?_eq_getElem (by omega)
            rw [← hbk] at hget
            cases hdv : Lib.digitVal (s[k]'hlt) with
            | none =>
              have hno : Hid (numOf s.data.toList = none) := by
                rw [Hid, hmag.out]
                cases hd : Lib.decFrom 0 s.data.toList with
                | none => rfl
                | some q =>
                  obtain ⟨d, hd2⟩ := Lib.digit_of_decFrom _ _ _ hd k _ hget
                  rw [hdv] at hd2; cases hd2
              unfold Lib.digitVal at hdv
              split at hdv
              · cases hdv
              rename_i hnd
              clear hdv hget hbk
              by_cases hlo : (s[k]'hlt).toNat < 48
              · have hlo' : (((s[k]'hlt).toNat : Int) < 48) := by omega
                go_wp2
                go_ret2
                exact ⟨by rw [hno.out]; rfl, hb⟩
              · have hlo' : ¬ (((s[k]'hlt).toNat : Int) < 48) := by omega
                have hhi : (57 : Int) < ((s[k]'hlt).toNat : Int) := by omega
                go_wp2
                go_ret2
                exact ⟨by rw [hno.out]; rfl, hb⟩
            | some d =>
              have hm2 : Hid (Lib.decFrom 0 (s.data.toList.take (k + 1)) = some (m * 10 + d)) := Lib.decFrom_take _ k 0 m _ d hm.out hget hdv
              have hb2 := Lib.decFrom_lt _ 0 _ hm2.out
              have hp10 : 10 ^ (s.data.toList.take (k + 1)).length ≤ 10 ^ 17 := Nat.pow_le_pow_right (by decide) (by simp; omega)
              have e17 : (10 : Nat) ^ 17 = 100000000000000000 := by decide
              have hm3 : m * 10 + d < 100000000000000000 := by omega
              clear hb2 hp10 e17
              unfold Lib.digitVal at hdv
              split at hdv
              · rename_i hdd
                injection hdv with hdv
                clear hget hbk
                generalize hx : (s[k]'hlt).toNat = x at *
                obtain ⟨hx1, hx2⟩ := hdd
                obtain rfl : x = 48 + d := by omega
                have hd10 : d < 10 := by omega
                clear hdv
                go_wp2
                go_roundw
                case rel => exact ⟨k + 1, m * 10 + d, by omega, by go_num, by go_num, hm2, hm3, hb⟩
                case measure => simp [intOf]; omega
              · cases hdv
          · have ek : k = s.size := by omega
            subst ek
            have hfin : Hid (numOf s.data.toList = some ((m : Int))) := by
              have := hm.out
              rw [← hsz', List.take_length] at this
              rw [Hid, hmag.out, this]; rfl
            go_wp2
            go_ret2
            exact ⟨by rw [hfin.out]; rfl, hb⟩
end Go.Proofs.YtkkcnkajffbnaaaDoor
