/-
  The reference's l1Read. (Printed by genY4.py.)
-/
import Derived.Test.YtkkcnkajffbnaaaDoorY3
namespace Go.Proofs.YtkkcnkajffbnaaaDoor
open Go.RowKit

theorem results_48 {tmps : Array Value} {W : World} {r : Nat} {d : Dd} {b : Bool} (h2 : tmps[2]? = some (.pointer (some ⟨r, 0, none⟩))) (h3 : tmps[3]? = some (.bool b)) (hc : W.heap[r]? = some (.cells #[.string ⟨d.act.toArray⟩, .int .i64 d.line, .int .i64 d.word] 47 (0, 0))) :
    (results Tryd.f48 tmps).run Tryd.prog W = .ok (.tuple #[deedV d, .bool b]) W := by
  have c0 : W.cell? ⟨r, 0, none⟩ = some (.string ⟨d.act.toArray⟩) := (cell_blk hc).trans rfl
  have c1 : W.cell? ⟨r, 1, none⟩ = some (.int .i64 d.line) := (cell_blk hc).trans rfl
  have c2 : W.cell? ⟨r, 2, none⟩ = some (.int .i64 d.word) := (cell_blk hc).trans rfl
  simp [results, Tryd.f48, go_sem, h2, h3, c0, c1, c2, deedV]
theorem set_deed {W : World} {r : Nat} {a b c : Value} (h : W.heap[r]? = some (.cells #[a, b, c] 47 (0, 0))) (d : Dd) :
    (((W.setCell ⟨r, 0, none⟩ (.string ⟨d.act.toArray⟩)).setCell ⟨r, 1, none⟩ (.int .i64 d.line)).setCell ⟨r, 2, none⟩ (.int .i64 d.word)).heap[r]? = some (.cells #[.string ⟨d.act.toArray⟩, .int .i64 d.line, .int .i64 d.word] 47 (0, 0)) :=
  setCell_blk (setCell_blk (setCell_blk h (o := 0) (.string ⟨d.act.toArray⟩)) (o := 1) (.int .i64 d.line)) (o := 2) (.int .i64 d.word)
theorem numOf_in (s : List UInt8) : InI ((numOf s).getD 0) := by
  cases h : numOf s with
  | none => exact ⟨by simp, by simp⟩
  | some v =>
    obtain ⟨_, _, _, _, _, h1, h2⟩ := numOf_some h
    exact ⟨by simp; omega, by simp; omega⟩
def readW : List (List UInt8) → Option Dd
  | [a, b] => (numOf b).map fun x => ⟨a, x, 0⟩
  | [a, b, c] => (numOf b).bind fun x => (numOf c).map fun y => ⟨a, x, y⟩
  | _ => none
theorem readW_len {ws : List (List UInt8)} (h2 : ws.length ≠ 2) (h3 : ws.length ≠ 3) : readW ws = none := by
  match ws, h2, h3 with
  | [], _, _ => rfl
  | [_], _, _ => rfl
  | [_, _], h, _ => simp at h
  | [_, _, _], _, h => simp at h
  | _ :: _ :: _ :: _ :: _, _, _ => rfl
theorem numOf_zero : numOf [48] = some 0 := by
  have : Lib.decNat [48] = some 0 := by decide
  simp [numOf, magOf, this]
theorem readW_two {ws : List (List UInt8)} (h : (ws ++ [[48]]).length = 3) : readW ws = (numOf (ws ++ [[48]])[1]).bind fun x => (numOf (ws ++ [[48]])[2]).map fun y => ⟨(ws ++ [[48]])[0], x, y⟩ := by
  match ws, h with
  | [a, b], _ => simp [readW, numOf_zero]; cases numOf b <;> rfl
  | _ :: _ :: _ :: _, h => simp at h
theorem readW_three {ws : List (List UInt8)} (h : ws.length = 3) : readW ws = (numOf ws[1]).bind fun x => (numOf ws[2]).map fun y => ⟨ws[0], x, y⟩ := by
  match ws, h with
  | [a, b, c], _ => simp [readW]

set_option maxRecDepth 100000 in
set_option maxHeartbeats 1000000 in
theorem l1Read_any (s : ByteArray) (w : World) (hn : s.size ≤ 1048576) :
    Calls Tryd.prog 48 #[.string s] w fun e w' => ∃ (d : Dd) (ok : Bool), e = .returned (.tuple #[deedV d, .bool ok]) ∧ readOf s.data.toList = (if ok = true then some d else none) ∧ DdOk d ∧ Below w.heap.size w w' := by
  obtain ⟨i0, hi, hz0, hz1, hz2⟩ := info_parts Tryd.info9
  have hsz : s.data.toList.length = s.size := Array.length_toList
  have hcut := Lib.hid (fun w => l11Cut_any s 32 w hn)
  have hac : Hid (readOf s.data.toList = readW (cuts 32 s.data.toList)) := rfl
  generalize readOf s.data.toList = ro at *
  have hne := cutGo_ne_nil 32 s.data.toList []
  change cuts 32 s.data.toList ≠ [] at hne
  have hsm : ∀ x ∈ cuts 32 s.data.toList ++ [[48]], x.length ≤ 1048576 := fun x hx => by
    rcases List.mem_append.1 hx with hx | hx
    · have := cuts_mem hx; omega
    · simp at hx; subst hx; simp
  have hcl := cuts_length 32 s.data.toList
  generalize hws : cuts 32 s.data.toList = ws at *
  clear hws
  have hpre : Below w.heap.size w (w.alloc (.cells #[.string ⟨#[]⟩, .int .i64 0, .int .i64 0] 47)) := (Below.refl _ w).alloc (Nat.le_refl _) _
  have hres0 := heap_alloc_new w (.cells #[.string ⟨#[]⟩, .int .i64 0, .int .i64 0] 47)
  go_enter Tryd.func48, Tryd.ntmps48
  go_wp2_with fail
  refine (hcut.out _).mono ?_
  rintro e w1 ⟨vf, rfl, hrow, hb1⟩
  have hres : w1.heap[w.heap.size]? = some (.cells #[.string ⟨#[]⟩, .int .i64 0, .int .i64 0] 47 (0, 0)) := (hb1.block _ (by simp)).trans hres0
  have hb01 : Below w.heap.size w w1 := hpre.trans (hb1.mono (by simp))
  have hs1 := hb1.size
  simp only [World.size_alloc] at hrow hs1
  clear hb1 hpre hres0 hcut
  by_cases h2 : ws.length = 2
  · obtain ⟨g, cap, rfl, hg, htx⟩ := texts_of hrow hne
    have h2' : ((ws.length : Int) == 2) = true := by rw [h2]; rfl
    have hrow1 := hrow.alloc (.cells #[.string ⟨#[48]⟩] 9)
    have H2 : Hid (ws.length = 2) := h2
    have hcl2 : ws.length ≤ 2000000 := by omega
    clear h2 hcl
    go_wp2_with (at_builtin; refine wpList_append_own_at _ rfl (.tmp 14) (.tmp 15) 49 rfl (w.heap.size + 1) 9 i0 (.string ⟨#[]⟩) 1 16 Tryd.underlying49 hi hz0 hz1 hz2 rfl (by decide) _ ws.length _ rfl hrow1 ⟨w1.heap.size, 0, none⟩ 1 1 [.string ⟨#[48]⟩] rfl rfl ?c1 ?c2 ?c3 ?c4 ?c5 ?_)
    case c1 => exact cell_one_new _ _ _
    case c2 => intro u hu; simp at hu; subst hu; rfl
    case c3 => unfold maxLen; omega
    case c4 => omega
    case c5 => simp; omega
    intro v' w2 hown2 hgrow2 _ _
    have hres2 := hres
    have hb02 : Below w.heap.size w w2 := (hb01.alloc (by omega) _).grown hgrow2 (by simp; omega) (fun q hq => by have := (hrow.lt q hq).1; omega)
    replace hres : w2.heap[w.heap.size]? = some (.cells #[.string ⟨#[]⟩, .int .i64 0, .int .i64 0] 47 (0, 0)) := by
      refine ((hgrow2.block _ (by simp; omega) ?_).trans (Below.heap_alloc _ _ _ (by omega))).trans hres2
      intro e
      have := (hrow.lt _ e.symm).1
      omega
    have hown3 : w2.ownsRow (w.heap.size + 1) 9 1 v' (ws ++ [[48]]).length ((ws ++ [[48]]).map strV) := by
      rw [List.length_append, List.map_append]; exact hown2
    obtain ⟨g2, cap2, rfl, hg2, htx2⟩ := texts_of hown3 (by simp)
    have h3' : (((ws ++ [[48]]).length : Int) == 3) = true := by rw [List.length_append, H2.out]; rfl
    clear hown2 hown3 hgrow2 hrow hrow1 htx
    have hL : (ws ++ [[48]]).length = 3 := by have := H2.out; simp; omega
    obtain ⟨fs, hfs⟩ : ∃ fs, fs = ws ++ [[48]] := ⟨_, rfl⟩
    rw [← hfs] at htx2 h3' hL hsm ⊢
    have hSpec : Hid (ro = (numOf fs[1]).bind fun x => (numOf fs[2]).map fun y => ⟨fs[0], x, y⟩) := by subst hfs; rw [Hid, hac.out]; exact readW_two hL
    have hl3 := hL
    clear hfs hac
    have hc0 := htx2.at' 0 (by omega)
    have hc1 := htx2.at' 1 (by omega)
    have hr0 : w2.heap[w.heap.size]? = some (.cells #[.string ⟨#[]⟩, .int .i64 0, .int .i64 0] 47 (0, 0)) := hres
    have hn1 := Lib.hid (l11Num_any ⟨fs[1].toArray⟩ w2 (by rw [bs_size]; exact hsm _ (by simp)))
    have hn2 := Lib.hid (fun w => l11Num_any ⟨fs[2].toArray⟩ w (by rw [bs_size]; exact hsm _ (by simp)))
    simp only [numRet] at hn1 hn2
    have hrd : Hid (ro = (numOf fs[1]).bind fun x => (numOf fs[2]).map fun y => ⟨fs[0], x, y⟩) := hSpec
    have hla : fs[0].length ≤ 1048576 := hsm _ (by simp)
    have hi1 : InI ((numOf fs[1]).getD 0) := numOf_in _
    have hi2 : InI ((numOf fs[2]).getD 0) := numOf_in _
    cases hm1 : numOf fs[1] with
    | none =>
      cases hm2 : numOf fs[2] with
      | none =>
        simp only [hm1, hm2, Option.isSome_none, Option.getD_none] at hn1 hn2 hi1 hi2
        have hrd2 : Hid (ro = if false = true then some ⟨fs[0], 0, 0⟩ else none) := by rw [Hid, hrd.out, hm1, hm2]; rfl
        clear hrd hm1 hm2
        go_wp2_with fail
        refine hn1.out.mono ?_
        rintro e x1 ⟨rfl, hx1⟩
        have hc2 := (htx2.below hx1 (Nat.le_refl _)).at' 2 (by omega)
        go_wp2_with fail
        refine (hn2.out _).mono ?_
        rintro e x2 ⟨rfl, hx2⟩
        have hx02 : Below w2.heap.size w2 x2 := hx1.trans (hx2.mono hx1.size)
        have hc0' := (htx2.below hx02 (Nat.le_refl _)).at' 0 (by omega)
        have hr2 := (hx02.block _ (Array.getElem?_eq_some_iff.1 hr0).1).trans hr0
        have n0 := cell_blk hr2 (o := 0); have n1 := cell_blk hr2 (o := 1); have n2 := cell_blk hr2 (o := 2)
        have p0 := frozen_blk hr2 (o := 0); have p1 := frozen_blk hr2 (o := 1); have p2 := frozen_blk hr2 (o := 2)
        simp only [List.getElem?_toArray, List.getElem?_cons_zero, List.getElem?_cons_succ] at n0 n1 n2
        have hbx : Below w.heap.size w x2 := hb02.trans (hx02.mono hb02.size)
        generalize fs[0] = f0 at *
        go_wp2
        have hfin := set_deed hr2 ⟨f0, 0, 0⟩
        simp only at hfin
        refine bodyPost_ret (results_48 (r := w.heap.size) (d := ⟨f0, 0, 0⟩) (b := false) rfl rfl hfin) rfl ?_
        exact ⟨_, false, rfl, hrd2.out, ⟨hla, hi1, hi2⟩, ((hbx.setCell (p := ⟨w.heap.size, 0, none⟩) (Nat.le_refl _) _).setCell (p := ⟨w.heap.size, 1, none⟩) (Nat.le_refl _) _).setCell (p := ⟨w.heap.size, 2, none⟩) (Nat.le_refl _) _⟩
      | some b =>
        simp only [hm1, hm2, Option.isSome_none, Option.getD_none, Option.isSome_some, Option.getD_some] at hn1 hn2 hi1 hi2
        have hrd2 : Hid (ro = if false = true then some ⟨fs[0], 0, b⟩ else none) := by rw [Hid, hrd.out, hm1, hm2]; rfl
        clear hrd hm1 hm2
        go_wp2_with fail
        refine hn1.out.mono ?_
        rintro e x1 ⟨rfl, hx1⟩
        have hc2 := (htx2.below hx1 (Nat.le_refl _)).at' 2 (by omega)
        go_wp2_with fail
        refine (hn2.out _).mono ?_
        rintro e x2 ⟨rfl, hx2⟩
        have hx02 : Below w2.heap.size w2 x2 := hx1.trans (hx2.mono hx1.size)
        have hc0' := (htx2.below hx02 (Nat.le_refl _)).at' 0 (by omega)
        have hr2 := (hx02.block _ (Array.getElem?_eq_some_iff.1 hr0).1).trans hr0
        have n0 := cell_blk hr2 (o := 0); have n1 := cell_blk hr2 (o := 1); have n2 := cell_blk hr2 (o := 2)
        have p0 := frozen_blk hr2 (o := 0); have p1 := frozen_blk hr2 (o := 1); have p2 := frozen_blk hr2 (o := 2)
        simp only [List.getElem?_toArray, List.getElem?_cons_zero, List.getElem?_cons_succ] at n0 n1 n2
        have hbx : Below w.heap.size w x2 := hb02.trans (hx02.mono hb02.size)
        generalize fs[0] = f0 at *
        go_wp2
        have hfin := set_deed hr2 ⟨f0, 0, b⟩
        simp only at hfin
        refine bodyPost_ret (results_48 (r := w.heap.size) (d := ⟨f0, 0, b⟩) (b := false) rfl rfl hfin) rfl ?_
        exact ⟨_, false, rfl, hrd2.out, ⟨hla, hi1, hi2⟩, ((hbx.setCell (p := ⟨w.heap.size, 0, none⟩) (Nat.le_refl _) _).setCell (p := ⟨w.heap.size, 1, none⟩) (Nat.le_refl _) _).setCell (p := ⟨w.heap.size, 2, none⟩) (Nat.le_refl _) _⟩
    | some a =>
      cases hm2 : numOf fs[2] with
      | none =>
        simp only [hm1, hm2, Option.isSome_none, Option.getD_none, Option.isSome_some, Option.getD_some] at hn1 hn2 hi1 hi2
        have hrd2 : Hid (ro = if false = true then some ⟨fs[0], a, 0⟩ else none) := by rw [Hid, hrd.out, hm1, hm2]; rfl
        clear hrd hm1 hm2
        go_wp2_with fail
        refine hn1.out.mono ?_
        rintro e x1 ⟨rfl, hx1⟩
        have hc2 := (htx2.below hx1 (Nat.le_refl _)).at' 2 (by omega)
        go_wp2_with fail
        refine (hn2.out _).mono ?_
        rintro e x2 ⟨rfl, hx2⟩
        have hx02 : Below w2.heap.size w2 x2 := hx1.trans (hx2.mono hx1.size)
        have hc0' := (htx2.below hx02 (Nat.le_refl _)).at' 0 (by omega)
        have hr2 := (hx02.block _ (Array.getElem?_eq_some_iff.1 hr0).1).trans hr0
        have n0 := cell_blk hr2 (o := 0); have n1 := cell_blk hr2 (o := 1); have n2 := cell_blk hr2 (o := 2)
        have p0 := frozen_blk hr2 (o := 0); have p1 := frozen_blk hr2 (o := 1); have p2 := frozen_blk hr2 (o := 2)
        simp only [List.getElem?_toArray, List.getElem?_cons_zero, List.getElem?_cons_succ] at n0 n1 n2
        have hbx : Below w.heap.size w x2 := hb02.trans (hx02.mono hb02.size)
        generalize fs[0] = f0 at *
        go_wp2
        have hfin := set_deed hr2 ⟨f0, a, 0⟩
        simp only at hfin
        refine bodyPost_ret (results_48 (r := w.heap.size) (d := ⟨f0, a, 0⟩) (b := false) rfl rfl hfin) rfl ?_
        exact ⟨_, false, rfl, hrd2.out, ⟨hla, hi1, hi2⟩, ((hbx.setCell (p := ⟨w.heap.size, 0, none⟩) (Nat.le_refl _) _).setCell (p := ⟨w.heap.size, 1, none⟩) (Nat.le_refl _) _).setCell (p := ⟨w.heap.size, 2, none⟩) (Nat.le_refl _) _⟩
      | some b =>
        simp only [hm1, hm2, Option.isSome_some, Option.getD_some] at hn1 hn2 hi1 hi2
        have hrd2 : Hid (ro = if true = true then some ⟨fs[0], a, b⟩ else none) := by rw [Hid, hrd.out, hm1, hm2]; rfl
        clear hrd hm1 hm2
        go_wp2_with fail
        refine hn1.out.mono ?_
        rintro e x1 ⟨rfl, hx1⟩
        have hc2 := (htx2.below hx1 (Nat.le_refl _)).at' 2 (by omega)
        go_wp2_with fail
        refine (hn2.out _).mono ?_
        rintro e x2 ⟨rfl, hx2⟩
        have hx02 : Below w2.heap.size w2 x2 := hx1.trans (hx2.mono hx1.size)
        have hc0' := (htx2.below hx02 (Nat.le_refl _)).at' 0 (by omega)
        have hr2 := (hx02.block _ (Array.getElem?_eq_some_iff.1 hr0).1).trans hr0
        have n0 := cell_blk hr2 (o := 0); have n1 := cell_blk hr2 (o := 1); have n2 := cell_blk hr2 (o := 2)
        have p0 := frozen_blk hr2 (o := 0); have p1 := frozen_blk hr2 (o := 1); have p2 := frozen_blk hr2 (o := 2)
        simp only [List.getElem?_toArray, List.getElem?_cons_zero, List.getElem?_cons_succ] at n0 n1 n2
        have hbx : Below w.heap.size w x2 := hb02.trans (hx02.mono hb02.size)
        generalize fs[0] = f0 at *
        go_wp2
        have hfin := set_deed hr2 ⟨f0, a, b⟩
        simp only at hfin
        refine bodyPost_ret (results_48 (r := w.heap.size) (d := ⟨f0, a, b⟩) (b := true) rfl rfl hfin) rfl ?_
        exact ⟨_, true, rfl, hrd2.out, ⟨hla, hi1, hi2⟩, ((hbx.setCell (p := ⟨w.heap.size, 0, none⟩) (Nat.le_refl _) _).setCell (p := ⟨w.heap.size, 1, none⟩) (Nat.le_refl _) _).setCell (p := ⟨w.heap.size, 2, none⟩) (Nat.le_refl _) _⟩
  · have h2' : ((ws.length : Int) == 2) = false := beq_eq_false_iff_ne.2 (by omega)
    by_cases h3 : ws.length = 3
    · obtain ⟨g, cap, rfl, hg, htx⟩ := texts_of hrow hne
      have h3' : ((ws.length : Int) == 3) = true := by rw [h3]; rfl
      have hSpec : Hid (ro = (numOf ws[1]).bind fun x => (numOf ws[2]).map fun y => ⟨ws[0], x, y⟩) := by rw [Hid, hac.out]; exact readW_three h3
      replace hsm : ∀ x ∈ ws, x.length ≤ 1048576 := fun x hx => hsm x (by simp [hx])
      have hl3 := h3
      clear hac
      have hc0 := htx.at' 0 (by omega)
      have hc1 := htx.at' 1 (by omega)
      have hr0 : w1.heap[w.heap.size]? = some (.cells #[.string ⟨#[]⟩, .int .i64 0, .int .i64 0] 47 (0, 0)) := hres
      have hn1 := Lib.hid (l11Num_any ⟨ws[1].toArray⟩ w1 (by rw [bs_size]; exact hsm _ (by simp)))
      have hn2 := Lib.hid (fun w => l11Num_any ⟨ws[2].toArray⟩ w (by rw [bs_size]; exact hsm _ (by simp)))
      simp only [numRet] at hn1 hn2
      have hrd : Hid (ro = (numOf ws[1]).bind fun x => (numOf ws[2]).map fun y => ⟨ws[0], x, y⟩) := hSpec
      have hla : ws[0].length ≤ 1048576 := hsm _ (by simp)
      have hi1 : InI ((numOf ws[1]).getD 0) := numOf_in _
      have hi2 : InI ((numOf ws[2]).getD 0) := numOf_in _
      cases hm1 : numOf ws[1] with
      | none =>
        cases hm2 : numOf ws[2] with
        | none =>
          simp only [hm1, hm2, Option.isSome_none, Option.getD_none] at hn1 hn2 hi1 hi2
          have hrd2 : Hid (ro = if false = true then some ⟨ws[0], 0, 0⟩ else none) := by rw [Hid, hrd.out, hm1, hm2]; rfl
          clear hrd hm1 hm2
          go_wp2_with fail
          refine hn1.out.mono ?_
          rintro e x1 ⟨rfl, hx1⟩
          have hc2 := (htx.below hx1 (Nat.le_refl _)).at' 2 (by omega)
          go_wp2_with fail
          refine (hn2.out _).mono ?_
          rintro e x2 ⟨rfl, hx2⟩
          have hx02 : Below w1.heap.size w1 x2 := hx1.trans (hx2.mono hx1.size)
          have hc0' := (htx.below hx02 (Nat.le_refl _)).at' 0 (by omega)
          have hr2 := (hx02.block _ (Array.getElem?_eq_some_iff.1 hr0).1).trans hr0
          have n0 := cell_blk hr2 (o := 0); have n1 := cell_blk hr2 (o := 1); have n2 := cell_blk hr2 (o := 2)
          have p0 := frozen_blk hr2 (o := 0); have p1 := frozen_blk hr2 (o := 1); have p2 := frozen_blk hr2 (o := 2)
          simp only [List.getElem?_toArray, List.getElem?_cons_zero, List.getElem?_cons_succ] at n0 n1 n2
          have hbx : Below w.heap.size w x2 := hb01.trans (hx02.mono hb01.size)
          generalize ws[0] = f0 at *
          go_wp2
          have hfin := set_deed hr2 ⟨f0, 0, 0⟩
          simp only at hfin
          refine bodyPost_ret (results_48 (r := w.heap.size) (d := ⟨f0, 0, 0⟩) (b := false) rfl rfl hfin) rfl ?_
          exact ⟨_, false, rfl, hrd2.out, ⟨hla, hi1, hi2⟩, ((hbx.setCell (p := ⟨w.heap.size, 0, none⟩) (Nat.le_refl _) _).setCell (p := ⟨w.heap.size, 1, none⟩) (Nat.le_refl _) _).setCell (p := ⟨w.heap.size, 2, none⟩) (Nat.le_refl _) _⟩
        | some b =>
          simp only [hm1, hm2, Option.isSome_none, Option.getD_none, Option.isSome_some, Option.getD_some] at hn1 hn2 hi1 hi2
          have hrd2 : Hid (ro = if false = true then some ⟨ws[0], 0, b⟩ else none) := by rw [Hid, hrd.out, hm1, hm2]; rfl
          clear hrd hm1 hm2
          go_wp2_with fail
          refine hn1.out.mono ?_
          rintro e x1 ⟨rfl, hx1⟩
          have hc2 := (htx.below hx1 (Nat.le_refl _)).at' 2 (by omega)
          go_wp2_with fail
          refine (hn2.out _).mono ?_
          rintro e x2 ⟨rfl, hx2⟩
          have hx02 : Below w1.heap.size w1 x2 := hx1.trans (hx2.mono hx1.size)
          have hc0' := (htx.below hx02 (Nat.le_refl _)).at' 0 (by omega)
          have hr2 := (hx02.block _ (Array.getElem?_eq_some_iff.1 hr0).1).trans hr0
          have n0 := cell_blk hr2 (o := 0); have n1 := cell_blk hr2 (o := 1); have n2 := cell_blk hr2 (o := 2)
          have p0 := frozen_blk hr2 (o := 0); have p1 := frozen_blk hr2 (o := 1); have p2 := frozen_blk hr2 (o := 2)
          simp only [List.getElem?_toArray, List.getElem?_cons_zero, List.getElem?_cons_succ] at n0 n1 n2
          have hbx : Below w.heap.size w x2 := hb01.trans (hx02.mono hb01.size)
          generalize ws[0] = f0 at *
          go_wp2
          have hfin := set_deed hr2 ⟨f0, 0, b⟩
          simp only at hfin
          refine bodyPost_ret (results_48 (r := w.heap.size) (d := ⟨f0, 0, b⟩) (b := false) rfl rfl hfin) rfl ?_
          exact ⟨_, false, rfl, hrd2.out, ⟨hla, hi1, hi2⟩, ((hbx.setCell (p := ⟨w.heap.size, 0, none⟩) (Nat.le_refl _) _).setCell (p := ⟨w.heap.size, 1, none⟩) (Nat.le_refl _) _).setCell (p := ⟨w.heap.size, 2, none⟩) (Nat.le_refl _) _⟩
      | some a =>
        cases hm2 : numOf ws[2] with
        | none =>
          simp only [hm1, hm2, Option.isSome_none, Option.getD_none, Option.isSome_some, Option.getD_some] at hn1 hn2 hi1 hi2
          have hrd2 : Hid (ro = if false = true then some ⟨ws[0], a, 0⟩ else none) := by rw [Hid, hrd.out, hm1, hm2]; rfl
          clear hrd hm1 hm2
          go_wp2_with fail
          refine hn1.out.mono ?_
          rintro e x1 ⟨rfl, hx1⟩
          have hc2 := (htx.below hx1 (Nat.le_refl _)).at' 2 (by omega)
          go_wp2_with fail
          refine (hn2.out _).mono ?_
          rintro e x2 ⟨rfl, hx2⟩
          have hx02 : Below w1.heap.size w1 x2 := hx1.trans (hx2.mono hx1.size)
          have hc0' := (htx.below hx02 (Nat.le_refl _)).at' 0 (by omega)
          have hr2 := (hx02.block _ (Array.getElem?_eq_some_iff.1 hr0).1).trans hr0
          have n0 := cell_blk hr2 (o := 0); have n1 := cell_blk hr2 (o := 1); have n2 := cell_blk hr2 (o := 2)
          have p0 := frozen_blk hr2 (o := 0); have p1 := frozen_blk hr2 (o := 1); have p2 := frozen_blk hr2 (o := 2)
          simp only [List.getElem?_toArray, List.getElem?_cons_zero, List.getElem?_cons_succ] at n0 n1 n2
          have hbx : Below w.heap.size w x2 := hb01.trans (hx02.mono hb01.size)
          generalize ws[0] = f0 at *
          go_wp2
          have hfin := set_deed hr2 ⟨f0, a, 0⟩
          simp only at hfin
          refine bodyPost_ret (results_48 (r := w.heap.size) (d := ⟨f0, a, 0⟩) (b := false) rfl rfl hfin) rfl ?_
          exact ⟨_, false, rfl, hrd2.out, ⟨hla, hi1, hi2⟩, ((hbx.setCell (p := ⟨w.heap.size, 0, none⟩) (Nat.le_refl _) _).setCell (p := ⟨w.heap.size, 1, none⟩) (Nat.le_refl _) _).setCell (p := ⟨w.heap.size, 2, none⟩) (Nat.le_refl _) _⟩
        | some b =>
          simp only [hm1, hm2, Option.isSome_some, Option.getD_some] at hn1 hn2 hi1 hi2
          have hrd2 : Hid (ro = if true = true then some ⟨ws[0], a, b⟩ else none) := by rw [Hid, hrd.out, hm1, hm2]; rfl
          clear hrd hm1 hm2
          go_wp2_with fail
          refine hn1.out.mono ?_
          rintro e x1 ⟨rfl, hx1⟩
          have hc2 := (htx.below hx1 (Nat.le_refl _)).at' 2 (by omega)
          go_wp2_with fail
          refine (hn2.out _).mono ?_
          rintro e x2 ⟨rfl, hx2⟩
          have hx02 : Below w1.heap.size w1 x2 := hx1.trans (hx2.mono hx1.size)
          have hc0' := (htx.below hx02 (Nat.le_refl _)).at' 0 (by omega)
          have hr2 := (hx02.block _ (Array.getElem?_eq_some_iff.1 hr0).1).trans hr0
          have n0 := cell_blk hr2 (o := 0); have n1 := cell_blk hr2 (o := 1); have n2 := cell_blk hr2 (o := 2)
          have p0 := frozen_blk hr2 (o := 0); have p1 := frozen_blk hr2 (o := 1); have p2 := frozen_blk hr2 (o := 2)
          simp only [List.getElem?_toArray, List.getElem?_cons_zero, List.getElem?_cons_succ] at n0 n1 n2
          have hbx : Below w.heap.size w x2 := hb01.trans (hx02.mono hb01.size)
          generalize ws[0] = f0 at *
          go_wp2
          have hfin := set_deed hr2 ⟨f0, a, b⟩
          simp only at hfin
          refine bodyPost_ret (results_48 (r := w.heap.size) (d := ⟨f0, a, b⟩) (b := true) rfl rfl hfin) rfl ?_
          exact ⟨_, true, rfl, hrd2.out, ⟨hla, hi1, hi2⟩, ((hbx.setCell (p := ⟨w.heap.size, 0, none⟩) (Nat.le_refl _) _).setCell (p := ⟨w.heap.size, 1, none⟩) (Nat.le_refl _) _).setCell (p := ⟨w.heap.size, 2, none⟩) (Nat.le_refl _) _⟩
    · obtain ⟨g, cap, rfl, hg, htx⟩ := texts_of hrow hne
      have h3' : ((ws.length : Int) == 3) = false := beq_eq_false_iff_ne.2 (by omega)
      have hno : Hid (ro = none) := by rw [Hid, hac.out]; exact readW_len h2 h3
      have n0 := cell_blk hres (o := 0); have n1 := cell_blk hres (o := 1); have n2 := cell_blk hres (o := 2)
      have p0 := frozen_blk hres (o := 0); have p1 := frozen_blk hres (o := 1); have p2 := frozen_blk hres (o := 2)
      simp only [List.getElem?_toArray, List.getElem?_cons_zero, List.getElem?_cons_succ] at n0 n1 n2
      go_wp2
      have hfin := set_deed hres ⟨[], 0, 0⟩
      refine bodyPost_ret (results_48 (r := w.heap.size) (d := ⟨[], 0, 0⟩) (b := false) rfl rfl hfin) rfl ?_
      exact ⟨_, false, rfl, by rw [hno.out]; rfl, ⟨by simp, ⟨by simp, by simp⟩, ⟨by simp, by simp⟩⟩, ((hb01.setCell (p := ⟨w.heap.size, 0, none⟩) (Nat.le_refl _) _).setCell (p := ⟨w.heap.size, 1, none⟩) (Nat.le_refl _) _).setCell (p := ⟨w.heap.size, 2, none⟩) (Nat.le_refl _) _⟩
end Go.Proofs.YtkkcnkajffbnaaaDoor
