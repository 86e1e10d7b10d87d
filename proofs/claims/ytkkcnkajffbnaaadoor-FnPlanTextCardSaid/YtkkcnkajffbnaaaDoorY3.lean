/-
  The program's parseAct.
-/
import Derived.Test.YtkkcnkajffbnaaaDoorY2
namespace Go.Proofs.YtkkcnkajffbnaaaDoor
open Go.RowKit

/-- The two variables of two numbers each. -/
structure Two (w : World) (r : Nat) (u v x y : Int) : Prop where
  res : w.heap[r]? = some (.cells #[.int .i64 u, .int .i64 v] 70 (0, 0))
  num : w.heap[r + 1]? = some (.cells #[.int .i64 x, .int .i64 y] 70 (0, 0))
theorem Two.below {w w' : World} {r : Nat} {u v x y : Int} (h : Two w r u v x y) (hb : Below w.heap.size w w') : Two w' r u v x y :=
  ⟨(hb.block _ (Array.getElem?_eq_some_iff.1 h.res).1).trans h.res, (hb.block _ (Array.getElem?_eq_some_iff.1 h.num).1).trans h.num⟩
theorem Two.new (w : World) : Two ((w.alloc (.cells #[.int .i64 0, .int .i64 0] 70)).alloc (.cells #[.int .i64 0, .int .i64 0] 70)) w.heap.size 0 0 0 0 := by
  have h := heap_alloc_new (w.alloc (.cells #[.int .i64 0, .int .i64 0] 70)) (.cells #[.int .i64 0, .int .i64 0] 70)
  rw [World.size_alloc] at h
  exact ⟨(Below.heap_alloc _ _ _ (by simp)).trans (heap_alloc_new _ _), h⟩
def actW : List (List UInt8) → Option (List UInt8 × Int × Int × Nat)
  | [a, b] => (numOf b).map fun x => (a, x, 0, 1)
  | [a, b, c] => (numOf b).bind fun x => (numOf c).map fun y => (a, x, y, 2)
  | _ => none
theorem actW_len {ws : List (List UInt8)} (h : ws.length < 2 ∨ 3 < ws.length) : actW ws = none := by
  match ws, h with
  | [], _ => rfl
  | [_], _ => rfl
  | [_, _], h => simp at h
  | [_, _, _], h => simp at h
  | _ :: _ :: _ :: _ :: _, _ => rfl
theorem actW_bad {ws : List (List UInt8)} {k : Nat} (h3 : ws.length ≤ 3) (hk : k ≤ 1) (h : 1 + k < ws.length) (hn : numOf ws[1 + k] = none) : actW ws = none := by
  match ws, k, h, hn, h3, hk with
  | [_], k, h, _, _, _ => simp at h
  | [_, _], k + 1, h, _, _, _ => simp at h; omega
  | [a, b], 0, _, h, _, _ => simp at h; simp [actW, h]
  | [a, b, c], 0, _, h, _, _ => simp at h; simp [actW, h]
  | [a, b, c], 1, _, h, _, _ => simp at h; simp [actW, h]
theorem actW_ok {ws : List (List UInt8)} {k : Nat} {x y : Int} (h2 : 2 ≤ ws.length) (h3 : ws.length ≤ 3) (hk : k = ws.length - 1) (h : (k = 0 → x = 0) ∧ (k ≤ 1 → y = 0) ∧ (∀ h : 1 < ws.length, 0 < k → numOf ws[1] = some x) ∧ (∀ h : 2 < ws.length, 1 < k → numOf ws[2] = some y)) :
    actW ws = some (ws[0], x, y, ws.length - 1) := by
  match ws, h2, h3, h with
  | [a, b], _, _, h =>
    subst hk
    have h1 := h.2.2.1 (by simp) (by simp)
    have h2 := h.2.1 (by simp)
    simp at h1
    subst h2
    simp [actW, h1]
  | [a, b, c], _, _, h =>
    subst hk
    have h1 := h.2.2.1 (by simp) (by simp)
    have h2 := h.2.2.2 (by simp) (by simp)
    simp at h1 h2
    simp [actW, h1, h2]
theorem results_50 {tmps : Array Value} {W : World} {r : Nat} {a : ByteArray} {u v n : Int} (h2 : tmps[2]? = some (.string a)) (h3 : tmps[3]? = some (.pointer (some ⟨r, 0, none⟩))) (h4 : tmps[4]? = some (.int .i64 n)) (hc : W.heap[r]? = some (.cells #[.int .i64 u, .int .i64 v] 70 (0, 0))) :
    (results Tryd.f50 tmps).run Tryd.prog W = .ok (.tuple #[.string a, .agg #[.int .i64 u, .int .i64 v], .int .i64 n]) W := by
  have c0 : W.cell? ⟨r, 0, none⟩ = some (.int .i64 u) := (cell_blk hc).trans rfl
  have c1 : W.cell? ⟨r, 1, none⟩ = some (.int .i64 v) := (cell_blk hc).trans rfl
  simp [results, Tryd.f50, go_sem, h2, h3, h4, c0, c1]
theorem set_two {W : World} {r : Nat} {u v : Int} (a b : Int) (h : W.heap[r]? = some (.cells #[.int .i64 u, .int .i64 v] 70 (0, 0))) :
    ((W.setCell ⟨r, 0, none⟩ (.int .i64 a)).setCell ⟨r, 1, none⟩ (.int .i64 b)).drew.heap[r]? = some (.cells #[.int .i64 a, .int .i64 b] 70 (0, 0)) := by
  have := setCell_blk (setCell_blk h (o := 0) (.int .i64 a)) (o := 1) (.int .i64 b)
  exact this
theorem Two.set0 {W : World} {r : Nat} {u v x y : Int} (z : Int) (h : Two W r u v x y) : Two (W.setCell ⟨r + 1, 0, none⟩ (.int .i64 z)) r u v z y :=
  ⟨(Below.heap_setCell _ _ _ r (by simp)).trans h.res, (setCell_blk h.num (o := 0) _).trans rfl⟩
theorem Two.set1 {W : World} {r : Nat} {u v x y : Int} (z : Int) (h : Two W r u v x y) : Two (W.setCell ⟨r + 1, 1, none⟩ (.int .i64 z)) r u v x z :=
  ⟨(Below.heap_setCell _ _ _ r (by simp)).trans h.res, (setCell_blk h.num (o := 1) _).trans rfl⟩
def actRet : Option (List UInt8 × Int × Int × Nat) → Ending → Prop
  | none, e => ∃ x y : Int, e = .returned (.tuple #[.string ⟨#[]⟩, .agg #[.int .i64 x, .int .i64 y], .int .i64 0])
  | some (a, x, y, n), e => e = .returned (.tuple #[.string ⟨a.toArray⟩, .agg #[.int .i64 x, .int .i64 y], .int .i64 n])

set_option maxRecDepth 100000 in
set_option maxHeartbeats 1000000 in
theorem parseAct_any (s : ByteArray) (w : World) (hn : s.size ≤ 1048576) (hE : EnvQ w) :
    Calls Tryd.prog 50 #[.string s] w fun e w' => actRet (actOf s.data.toList) e ∧ Below w.heap.size w w' := by
  have hsz : s.data.toList.length = s.size := Array.length_toList
  have hsp := Lib.hid (fun w h => split_any s w hn h)
  have hac : Hid (actOf s.data.toList = actW (cuts 32 s.data.toList)) := rfl
  generalize actOf s.data.toList = ao at *
  have hcl := cuts_length 32 s.data.toList
  generalize hws : cuts 32 s.data.toList = ws at *
  clear hws
  have hpre : Below w.heap.size w ((w.alloc (.cells #[.int .i64 0, .int .i64 0] 70)).alloc (.cells #[.int .i64 0, .int .i64 0] 70)) := ((Below.refl _ w).alloc (Nat.le_refl _) _).alloc (by simp) _
  have hE2 := hE.below hpre (Nat.le_refl _)
  have hT0 := Two.new w
  by_cases hbad : ws.length < 2 ∨ 3 < ws.length
  · have hnone : Hid (ao = none) := by
      rw [Hid, hac.out]
      exact actW_len hbad
    by_cases h2 : ws.length < 2
    · have h2' : decide ((ws.length : Int) < 2) = true := by simp; omega
      go_enter Tryd.func50, Tryd.ntmps50
      go_wp2_with fail
      refine (hsp.out _ hE2).mono ?_
      rintro e w1 ⟨rfl, hT, hb1⟩
      have hb01 : Below w.heap.size w w1 := hpre.trans (hb1.mono (by simp; omega))
      obtain ⟨f1, f2⟩ := hT0.below hb1
      have n0 := cell_blk f2 (o := 0); have n1 := cell_blk f2 (o := 1); have m0 := cell_blk f1 (o := 0); have m1 := cell_blk f1 (o := 1)
      have q0 := frozen_blk f1 (o := 0); have q1 := frozen_blk f1 (o := 1); have p0 := frozen_blk f2 (o := 0); have p1 := frozen_blk f2 (o := 1)
      simp only [List.getElem?_toArray, List.getElem?_cons_zero, List.getElem?_cons_succ] at n0 n1 m0 m1
      go_wp2
      go_region
      all_goals go_wp2
      refine bodyPost_ret (results_50 rfl rfl rfl (set_two 0 0 f1)) rfl ?_
      refine ⟨by rw [hnone.out]; exact ⟨0, 0, rfl⟩, ?_⟩
      exact ((hb01.setCell (p := ⟨w.heap.size, 0, none⟩) (Nat.le_refl _) _).setCell (p := ⟨w.heap.size, 1, none⟩) (Nat.le_refl _) _).drew
    · have h2' : decide ((ws.length : Int) < 2) = false := by simp; omega
      have h3' : decide ((3 : Int) < (ws.length : Int)) = true := by simp; omega
      go_enter Tryd.func50, Tryd.ntmps50
      go_wp2_with fail
      refine (hsp.out _ hE2).mono ?_
      rintro e w1 ⟨rfl, hT, hb1⟩
      have hb01 : Below w.heap.size w w1 := hpre.trans (hb1.mono (by simp; omega))
      obtain ⟨f1, f2⟩ := hT0.below hb1
      have n0 := cell_blk f2 (o := 0); have n1 := cell_blk f2 (o := 1); have m0 := cell_blk f1 (o := 0); have m1 := cell_blk f1 (o := 1)
      have q0 := frozen_blk f1 (o := 0); have q1 := frozen_blk f1 (o := 1); have p0 := frozen_blk f2 (o := 0); have p1 := frozen_blk f2 (o := 1)
      simp only [List.getElem?_toArray, List.getElem?_cons_zero, List.getElem?_cons_succ] at n0 n1 m0 m1
      go_wp2
      go_region
      all_goals go_wp2
      refine bodyPost_ret (results_50 rfl rfl rfl (set_two 0 0 f1)) rfl ?_
      refine ⟨by rw [hnone.out]; exact ⟨0, 0, rfl⟩, ?_⟩
      exact ((hb01.setCell (p := ⟨w.heap.size, 0, none⟩) (Nat.le_refl _) _).setCell (p := ⟨w.heap.size, 1, none⟩) (Nat.le_refl _) _).drew
  · have hlo : 2 ≤ ws.length := by omega
    have hhi : ws.length ≤ 3 := by omega
    have h2' : decide ((ws.length : Int) < 2) = false := by simp; omega
    have h3' : decide ((3 : Int) < (ws.length : Int)) = false := by simp; omega
    have h1' : (1 : Int) ≤ (ws.length : Int) := by omega
    go_enter Tryd.func50, Tryd.ntmps50
    go_wp2_with fail
    refine (hsp.out _ hE2).mono ?_
    rintro e w1 ⟨rfl, hT, hb1⟩
    have hb01 : Below w.heap.size w w1 := hpre.trans (hb1.mono (by simp; omega))
    have hT1 := hT0.below hb1
    simp only [World.size_alloc] at hT
    clear hb1 hT0 hE2 hpre hsp
    go_wp2
    go_loopw [7, 8, 9, 10, 25] (fun _ _ _ _ i wr => ∃ (k : Nat) (x y : Int), k + 1 ≤ ws.length ∧ i = .int .i64 k ∧ Hid ((k = 0 → x = 0) ∧ (k ≤ 1 → y = 0) ∧ (∀ h : 1 < ws.length, 0 < k → numOf ws[1] = some x) ∧ (∀ h : 2 < ws.length, 1 < k → numOf ws[2] = some y)) ∧ Two wr w.heap.size 0 0 x y ∧ Texts wr (w.heap.size + 1 + 1) ws ∧ Below w.heap.size w wr) (fun _ _ _ _ i _ => ws.length - (intOf i).toNat)
    case atStart => exact ⟨0, 0, 0, by omega, rfl, ⟨fun _ => rfl, fun _ => rfl, by omega, by omega⟩, hT1, hT, hb01⟩
    case round =>
      obtain ⟨k, x, y, hk, rfl, hinv, hTw, hTx, hb⟩ := hrel
      by_cases hlt : k + 1 < ws.length
      · have hck := hTx.at' (k + 1) hlt
        have hpn := Lib.hid (parseNumber_any ⟨ws[1 + k].toArray⟩ wr (hE.envP.below hb (Nat.le_refl _)))
        simp only [numRet] at hpn
        have hklt : decide (k < ws.length - 1) = true := by simp; omega
        have hk1 : k ≤ 1 := by omega
        rcases Nat.le_one_iff_eq_zero_or_eq_one.1 hk1 with rfl | rfl
        · cases hnx : numOf ws[1 + 0] with
          | none =>
            rw [hnx] at hpn
            simp only [Option.getD_none, Option.isSome_none] at hpn
            have hnone : Hid (ao = none) := by
              rw [Hid, hac.out]
              exact actW_bad hhi hk1 (by omega) hnx
            go_wp2_with (go_at_call 43; refine hpn.out.mono ?_; rintro e w2 ⟨rfl, hb2⟩; obtain ⟨f1, f2⟩ := hTw.below hb2; have n0 := cell_blk f2 (o := 0); have n1 := cell_blk f2 (o := 1); have m0 := cell_blk f1 (o := 0); have m1 := cell_blk f1 (o := 1); have q0 := frozen_blk f1 (o := 0); have q1 := frozen_blk f1 (o := 1); simp only [List.getElem?_toArray, List.getElem?_cons_zero, List.getElem?_cons_succ] at n0 n1 m0 m1)
            go_region
            all_goals go_wp2
            refine bodyPost_ret (results_50 rfl rfl rfl (set_two x y f1)) rfl ?_
            refine ⟨?_, ((((hb.trans (hb2.mono hb.size)).setCell (p := ⟨w.heap.size, 0, none⟩) (Nat.le_refl _) _).setCell (p := ⟨w.heap.size, 1, none⟩) (Nat.le_refl _) _)).drew⟩
            rw [hnone.out]
            exact ⟨x, y, rfl⟩
          | some z =>
            rw [hnx] at hpn
            simp only [Option.getD_some, Option.isSome_some] at hpn
            go_wp2_with (go_at_call 43; refine hpn.out.mono ?_; rintro e w2 ⟨rfl, hb2⟩; obtain ⟨f1, f2⟩ := hTw.below hb2; have n0 := cell_blk f2 (o := 0); have p0 := frozen_blk f2 (o := 0); simp only [List.getElem?_toArray, List.getElem?_cons_zero] at n0)
            go_roundw
            case rel => exact ⟨1, z, y, by omega, rfl, ⟨by omega, fun _ => hinv.out.2.1 (by omega), fun _ _ => hnx, by omega⟩, (hTw.below hb2).set0 z, (hTx.below hb2 (Nat.le_refl _)).block (Below.heap_setCell _ _ _ _ (by simp)), (hb.trans (hb2.mono hb.size)).setCell (p := ⟨w.heap.size + 1, 0, none⟩) (by simp) _⟩
            case measure => simp [intOf]; omega
        · cases hnx : numOf ws[1 + 1] with
          | none =>
            rw [hnx] at hpn
            simp only [Option.getD_none, Option.isSome_none] at hpn
            have hnone : Hid (ao = none) := by
              rw [Hid, hac.out]
              exact actW_bad hhi hk1 (by omega) hnx
            go_wp2_with (go_at_call 43; refine hpn.out.mono ?_; rintro e w2 ⟨rfl, hb2⟩; obtain ⟨f1, f2⟩ := hTw.below hb2; have n0 := cell_blk f2 (o := 0); have n1 := cell_blk f2 (o := 1); have m0 := cell_blk f1 (o := 0); have m1 := cell_blk f1 (o := 1); have q0 := frozen_blk f1 (o := 0); have q1 := frozen_blk f1 (o := 1); simp only [List.getElem?_toArray, List.getElem?_cons_zero, List.getElem?_cons_succ] at n0 n1 m0 m1)
            go_region
            all_goals go_wp2
            refine bodyPost_ret (results_50 rfl rfl rfl (set_two x y f1)) rfl ?_
            refine ⟨?_, ((((hb.trans (hb2.mono hb.size)).setCell (p := ⟨w.heap.size, 0, none⟩) (Nat.le_refl _) _).setCell (p := ⟨w.heap.size, 1, none⟩) (Nat.le_refl _) _)).drew⟩
            rw [hnone.out]
            exact ⟨x, y, rfl⟩
          | some z =>
            rw [hnx] at hpn
            simp only [Option.getD_some, Option.isSome_some] at hpn
            go_wp2_with (go_at_call 43; refine hpn.out.mono ?_; rintro e w2 ⟨rfl, hb2⟩; obtain ⟨f1, f2⟩ := hTw.below hb2; have n1 := cell_blk f2 (o := 1); have p1 := frozen_blk f2 (o := 1); simp only [List.getElem?_toArray, List.getElem?_cons_zero, List.getElem?_cons_succ] at n1)
            go_roundw
            case rel => exact ⟨2, x, z, by omega, rfl, ⟨by omega, by omega, fun h _ => hinv.out.2.2.1 h (by omega), fun _ _ => hnx⟩, (hTw.below hb2).set1 z, (hTx.below hb2 (Nat.le_refl _)).block (Below.heap_setCell _ _ _ _ (by simp)), (hb.trans (hb2.mono hb.size)).setCell (p := ⟨w.heap.size + 1, 1, none⟩) (by simp) _⟩
            case measure => simp [intOf]; omega
      · have ek : k = ws.length - 1 := by omega
        have hfin : Hid (ao = some (ws[0], x, y, ws.length - 1)) := by rw [Hid, hac.out]; exact actW_ok hlo hhi ek hinv.out
        have hklt : decide (k < ws.length - 1) = false := by simp; omega
        have hck := hTx.at' 0 (by omega)
        obtain ⟨f1, f2⟩ := hTw
        have n0 := cell_blk f2 (o := 0); have n1 := cell_blk f2 (o := 1); have m0 := cell_blk f1 (o := 0); have m1 := cell_blk f1 (o := 1)
        have q0 := frozen_blk f1 (o := 0); have q1 := frozen_blk f1 (o := 1)
        simp only [List.getElem?_toArray, List.getElem?_cons_zero, List.getElem?_cons_succ] at n0 n1 m0 m1
        go_wp2
        go_region
        all_goals go_wp2
        refine bodyPost_ret (results_50 rfl rfl rfl (set_two x y f1)) rfl ?_
        refine ⟨?_, ((hb.setCell (p := ⟨w.heap.size, 0, none⟩) (Nat.le_refl _) _).setCell (p := ⟨w.heap.size, 1, none⟩) (Nat.le_refl _) _).drew⟩
        rw [hfin.out]
        show _ = _
        rw [show ((ws.length : Int) - 1) = ((ws.length - 1 : Nat) : Int) by omega]
end Go.Proofs.YtkkcnkajffbnaaaDoor
