/-
  The reference's l11Cut lays the pieces between the bytes c in a row of its own.
-/
import Derived.Test.YtkkcnkajffbnaaaDoorV1
import Derived.Test.YtkkcnkajffbnaaaDoorT4
import Derived.Maps.AppendAt
namespace Go.Proofs.YtkkcnkajffbnaaaDoor
open Go.RowKit

theorem byte_at (s : ByteArray) (k : Nat) (_h : k < s.size) (_h' : k < s.data.toList.length) : s[k] = s.data.toList[k] := by
  simp [ByteArray.getElem_eq_getElem_data]

theorem toNat_beq (a b : UInt8) : (((a.toNat : Int) == (b.toNat : Int)) = true) ↔ a = b := by
  rw [beq_iff_eq]
  exact ⟨fun h => UInt8.toNat_inj.1 (by omega), fun h => by rw [h]⟩

/-- An empty row, just built. -/
theorem ownsRow_empty (w : World) (e : TypeId) (n : Nat) : (w.alloc (.cells #[] e)).ownsRow w.heap.size e n (.slice (some ⟨w.heap.size, 0, none⟩) 0 0) 0 [] :=
  ⟨by simp, .inr ⟨w.heap.size, 0, #[], rfl, Nat.le_refl _, heap_alloc_new _ _, Nat.le_refl _, Nat.zero_le _, by simp, by simp⟩⟩

set_option maxRecDepth 100000 in
set_option maxHeartbeats 400000 in
theorem l11Cut_any (s : ByteArray) (c : UInt8) (w : World) (hn : s.size ≤ 1048576) :
    Calls Tryd.prog 39 #[.string s, .int .u8 c.toNat] w fun e w' => ∃ v, e = .returned v ∧ w'.ownsRow w.heap.size 9 1 v (cuts c s.data.toList).length ((cuts c s.data.toList).map strV) ∧ Below w.heap.size w w' := by
  obtain ⟨i0, hi, hz0, hz1, hz2⟩ := info_parts Tryd.info9
  have hsz : s.data.toList.length = s.size := Array.length_toList
  obtain ⟨cn, hcn⟩ : ∃ cn : Int, (c.toNat : Int) = cn := ⟨_, rfl⟩
  rw [hcn]
  go_enter Tryd.func39, Tryd.ntmps39
  go_wp2
  go_loopw [5, 6, 7] (fun v f i wr => ∃ (done : List (List UInt8)) (kf ki : Nat), kf ≤ ki ∧ ki ≤ s.size + 1 ∧ f = .int .i64 kf ∧ i = .int .i64 ki ∧ done.length ≤ ki ∧ Hid (cuts c s.data.toList = if ki ≤ s.size then done ++ cutAt c s.data.toList kf ki else done) ∧ Hid (wr.ownsRow w.heap.size 9 1 v done.length (done.map strV)) ∧ Below w.heap.size w wr) (fun _ _ i _ => s.size + 1 - (intOf i).toNat)
  case atStart => exact ⟨[], 0, 0, Nat.le_refl _, Nat.zero_le _, rfl, rfl, Nat.le_refl _, by rw [Hid, cutAt_zero]; simp, ownsRow_empty _ _ _, (Below.refl _ _).alloc (Nat.le_refl _) _⟩
  case round =>
    obtain ⟨done, kf, ki, hfi, his, rfl, rfl, hdl, hcut, hown, hb⟩ := hrel
    have hown := hown.out
    have hbs := hb.size
    have hown1 := hown.alloc (.cells #[.string (s.extract kf ki)] 9)
    have hx : strV ((s.data.toList.drop kf).take (ki - kf)) = .string (s.extract kf ki) := by rw [strV, Lib.extract_eq]
    by_cases hend : ki = s.size
    · subst hend
      rw [if_pos (Nat.le_refl _)] at hcut
      go_wp2_with (at_builtin; refine wpList_append_own _ rfl (.tmp 26) (.tmp 31) 49 rfl w.heap.size 9 i0 (.string ⟨#[]⟩) 1 16 Tryd.underlying49 hi hz0 hz1 hz2 rfl (by decide) _ done.length _ rfl hown1 ⟨wr.heap.size, 0, none⟩ 1 1 [.string (s.extract kf s.size)] rfl rfl ?c1 ?c2 ?c3 ?c4 ?c5 ?_)
      case c1 => exact cell_one_new _ _ _
      case c2 => intro u hu; simp at hu; subst hu; rfl
      case c3 => unfold maxLen; omega
      case c4 => omega
      case c5 => simp; omega
      intro v' w2 hown2 hgrow2 _
      have hown3 : w2.ownsRow w.heap.size 9 1 v' (cuts c s.data.toList).length ((cuts c s.data.toList).map strV) := by
        rw [hcut.out, ← hsz, cutAt_end, hsz, List.map_append, List.length_append]
        simp only [List.map_cons, List.map_nil, List.length_cons, List.length_nil]
        rw [hx]; exact hown2
      have hb3 : Below w.heap.size w w2 := (hb.alloc (by omega) _).grown hgrow2 (by simp; omega) (fun q hq => (hown.lt q hq).1)
      go_wp2
      go_roundw
      case rel => exact ⟨cuts c s.data.toList, s.size + 1, s.size + 1, Nat.le_refl _, Nat.le_refl _, by go_num, by go_num, by rw [← hsz]; exact cuts_length _ _, by rw [Hid, if_neg (by omega)], hown3, hb3⟩
      case measure => simp [intOf]
    · by_cases hbig : ki = s.size + 1
      · rw [if_neg (by omega)] at hcut
        have hgt : ¬ (ki : Int) ≤ (s.size : Int) := by omega
        go_wp2
        go_ret
        exact ⟨_, rfl, by rw [hcut.out]; exact hown, hb⟩
      have hlt : ki < s.size := by omega
      rw [if_pos (by omega)] at hcut
      have hend' : ¬ (ki : Int) = (s.size : Int) := by omega
      by_cases hc : (((s[ki]'hlt).toNat : Int) == cn) = true
      · go_wp2_with (at_builtin; refine wpList_append_own _ rfl (.tmp 26) (.tmp 31) 49 rfl w.heap.size 9 i0 (.string ⟨#[]⟩) 1 16 Tryd.underlying49 hi hz0 hz1 hz2 rfl (by decide) _ done.length _ rfl hown1 ⟨wr.heap.size, 0, none⟩ 1 1 [.string (s.extract kf ki)] rfl rfl ?d1 ?d2 ?d3 ?d4 ?d5 ?_)
        case d1 => exact cell_one_new _ _ _
        case d2 => intro u hu; simp at hu; subst hu; rfl
        case d3 => unfold maxLen; omega
        case d4 => omega
        case d5 => simp; omega
        intro v' w2 hown2 hgrow2 _
        have hown3 : w2.ownsRow w.heap.size 9 1 v' (done.length + 1) ((done ++ [(s.data.toList.drop kf).take (ki - kf)]).map strV) := by
          rw [List.map_append]
          simp only [List.map_cons, List.map_nil]
          rw [hx]; exact hown2
        have hb3 : Below w.heap.size w w2 := (hb.alloc (by omega) _).grown hgrow2 (by simp; omega) (fun q hq => (hown.lt q hq).1)
        have hcut2 : Hid (cuts c s.data.toList = if ki + 1 ≤ s.size then (done ++ [(s.data.toList.drop kf).take (ki - kf)]) ++ cutAt c s.data.toList (ki + 1) (ki + 1) else done ++ [(s.data.toList.drop kf).take (ki - kf)]) := by
          rw [Hid, if_pos (by omega), hcut.out, cutAt_hit c s.data.toList kf ki (by omega) (by rw [← byte_at s ki hlt]; rw [← hcn] at hc; exact (toNat_beq _ _).1 hc)]
          simp
        go_wp2
        go_roundw
        case rel => exact ⟨done ++ [(s.data.toList.drop kf).take (ki - kf)], ki + 1, ki + 1, Nat.le_refl _, by omega, by go_num, by go_num, by simp; omega, hcut2, by rw [Hid, List.length_append]; exact hown3, hb3⟩
        case measure => simp [intOf]; omega
      · have hc' : (((s[ki]'hlt).toNat : Int) == cn) = false := by simpa using hc
        have hcut2 : Hid (cuts c s.data.toList = if ki + 1 ≤ s.size then done ++ cutAt c s.data.toList kf (ki + 1) else done) := by
          rw [Hid, if_pos (by omega), hcut.out, cutAt_miss c s.data.toList kf ki hfi (by omega) (by
            rw [← byte_at s ki hlt]
            intro e
            rw [← hcn] at hc
            exact hc ((toNat_beq _ _).2 e))]
        go_wp2
        go_roundw
        case rel => exact ⟨done, kf, ki + 1, by omega, by omega, by go_num, by go_num, by omega, hcut2, hown, hb⟩
        case measure => simp [intOf]; omega
end Go.Proofs.YtkkcnkajffbnaaaDoor
