/-
  The reference: a worker's task.
  The reference: a fault.
-/
import Derived.Maps.AppendAt
import Derived.Laws.OwnMore
import Derived.Test.YtihmcigoofhpmaaZbh
set_option linter.all false
namespace Go.Town.Kp
open Go Go.Conc Go.Conc.Lib Go.ConcR.Gen Go.RowKit Go.Town Go.Proofs
open Go.ConcN (upd upd_ne upd_same)
def NumsAt (w : World) (x : Nat) (f : Nat → Int) (n : Nat) : Prop := ∀ i, i < n → w.cell? ⟨x, i, none⟩ = some (.int .i64 (f i)) ∧ w.frozen? ⟨x, i, none⟩ = false
theorem NumsAt.alloc {w : World} {x n : Nat} {f : Nat → Int} (h : NumsAt w x f n) (o : Obj) : NumsAt (w.alloc o) x f n := fun i hi => ⟨cell_alloc (h i hi).1, (frozen_alloc (h i hi).1).trans (h i hi).2⟩
theorem NumsAt.drewN {w : World} {x n : Nat} {f : Nat → Int} (h : NumsAt w x f n) (k : Nat) : NumsAt (w.drewN k) x f n := h
theorem NumsAt.drew {w : World} {x n : Nat} {f : Nat → Int} (h : NumsAt w x f n) : NumsAt w.drew x f n := h
theorem NumsAt.set {w : World} {x n : Nat} {f : Nat → Int} (h : NumsAt w x f n) (i : Nat) (v : Int) : NumsAt (w.setCell ⟨x, i, none⟩ (.int .i64 v)) x (upd f i v) n := fun j hj => by
  refine ⟨?_, (frozen_setCell _ _ _ _).trans (h j hj).2⟩
  by_cases e : j = i
  · subst e; rw [upd_same]; exact cell_setCell_eq _ (h j hj).1
  · rw [upd_ne _ _ e]; exact (cell_setCell_ne w _ (.inr (Ne.symm e))).trans (h j hj).1
theorem NumsAt.other {w : World} {x n y j : Nat} {f : Nat → Int} (h : NumsAt w x f n) (v : Value) (hy : y ≠ x) : NumsAt (w.setCell ⟨y, j, none⟩ v) x f n := fun i hi => ⟨(cell_setCell_ne w _ (.inl hy)).trans (h i hi).1, (frozen_setCell _ _ _ _).trans (h i hi).2⟩
theorem NumsAt.grown {w w' : World} {x n : Nat} {f : Nat → Int} {row : Option Nat} (h : NumsAt w x f n) (hg : w.grownBy w' row) (hr : row ≠ some x) : NumsAt w' x f n := fun i hi => by
  have hlt : x < w.heap.size := block_lt (h i hi).1
  have hb := hg.block x hlt (fun e => hr e.symm)
  exact ⟨(World.cell?_of_block hb).trans (h i hi).1, (World.frozen?_of_block hb).trans (h i hi).2⟩
def ROOM (κ : Kr) (sa st n : Nat) (fv : Value) (e : ByteArray) : Value := .agg #[.string κ.rule.text, .int .i64 (κ.bear : Nat), .int .i64 (κ.win : Nat), .slice (some ⟨sa, 0, none⟩) n n, .slice (some ⟨st, 0, none⟩) n n, fv, .string e]
set_option maxRecDepth 100000 in
set_option maxHeartbeats 2000000 in
theorem task_more {κ : Kr} {sa st n i tick c : Nat} {fa : Option Addr} {fl fc : Nat} {v : Int} {s : St} {w : World} (hv0 : 0 < v) (hv1 : v ≤ 1000) (hi : i < n) (hn : n ≤ 4) (hc : c ≤ 1000) (hs : Small c s) (hS : NumsAt w sa s.sum n) :
    Calls Try.prog 52 #[.agg #[.string κ.rule.text, .int .i64 (κ.bear : Nat), .int .i64 (κ.win : Nat), .slice (some ⟨sa, 0, none⟩) n n, .slice (some ⟨st, 0, none⟩) n n, .slice fa fl fc, .string ⟨#[]⟩], .int .i64 i, .int .i64 v, .int .i64 tick] w fun e w' => e = .returned (ROOM κ sa st n (.slice fa fl fc) ⟨#[]⟩) ∧ (∃ o1 o2 k, w' = (((w.setCell ⟨sa, i, none⟩ (.int .i64 (s.sum i + v))).alloc o1).alloc o2).drewN k) := by
  have h1 : ∀ o1 o2, ((w.alloc o1).alloc o2).cell? ⟨sa, i, none⟩ = some (.int .i64 (s.sum i)) := fun o1 o2 => (((hS.alloc o1).alloc o2) i hi).1
  have h2 : ∀ o1 o2, ((w.alloc o1).alloc o2).frozen? ⟨sa, i, none⟩ = false := fun o1 o2 => (((hS.alloc o1).alloc o2) i hi).2
  have hlt : sa < w.heap.size := block_lt (hS i hi).1
  have hb := hs.sum i
  have hb2 : 0 ≤ s.sum i + v ∧ s.sum i + v ≤ 10000000 := by omega
  have hw2 : Hid (IntKind.i64.wrap (s.sum i + v) = s.sum i + v) := ⟨wrap_small hb2.1 (by omega)⟩
  clear hS hs hb
  generalize s.sum i = x at *
  go_enter Try.func52, Try.ntmps52
  go_wp2
  have hw2 := hw2.out
  go_region
  go_wp2
  exact bodyPost_ret (v := ROOM κ sa st n (.slice fa fl fc) ⟨#[]⟩) (by simp [results, Try.results52, go_sem, ROOM]) rfl ⟨rfl, _, _, 1, rfl⟩
end Go.Town.Kp
namespace Go.Town.Kp
open Go Go.Conc Go.Conc.Lib Go.ConcR.Gen Go.RowKit Go.Town Go.Proofs
open Go.ConcN (upd upd_ne upd_same)
def nums (F : List Nat) : List Value := F.map fun f => Value.int .i64 (f : Nat)
def endS (over : Bool) : ByteArray := if over then ⟨#[103, 105, 118, 101, 110, 32, 117, 112]⟩ else ⟨#[]⟩
structure Only (sa st : Nat) (w w' : World) : Prop where
  os : w'.os = w.os
  tape : w'.tape = w.tape
  output : w'.output = w.output
  size : w'.heap.size = w.heap.size
  block : ∀ r : Nat, r ≠ sa → r ≠ st → w'.heap[r]? = w.heap[r]?
theorem Only.refl (sa st : Nat) (w : World) : Only sa st w w := ⟨rfl, rfl, rfl, rfl, fun _ _ _ => rfl⟩
theorem Only.trans {sa st : Nat} {w w' w'' : World} (h : Only sa st w w') (k : Only sa st w' w'') : Only sa st w w'' := ⟨k.os.trans h.os, k.tape.trans h.tape, k.output.trans h.output, k.size.trans h.size, fun r h1 h2 => (k.block r h1 h2).trans (h.block r h1 h2)⟩
theorem Only.set {sa st : Nat} {w w' : World} (h : Only sa st w w') {x j : Nat} (v : Value) (hx : x = sa ∨ x = st) : Only sa st w (w'.setCell ⟨x, j, none⟩ v) :=
  h.trans ⟨rfl, rfl, rfl, by simp [World.setCell], fun r h1 h2 => Below.heap_setCell _ _ _ r (by rintro rfl; rcases hx with q | q; exact h1 q; exact h2 q)⟩
theorem Only.drew {sa st : Nat} {w w' : World} (h : Only sa st w w') : Only sa st w w'.drew := ⟨h.os, h.tape, h.output, h.size, h.block⟩
theorem Only.cell {sa st : Nat} {w w' : World} (h : Only sa st w w') {x j : Nat} (h1 : x ≠ sa) (h2 : x ≠ st) : w'.cell? ⟨x, j, none⟩ = w.cell? ⟨x, j, none⟩ ∧ w'.frozen? ⟨x, j, none⟩ = w.frozen? ⟨x, j, none⟩ :=
  ⟨World.cell?_of_block (h.block x h1 h2), World.frozen?_of_block (h.block x h1 h2)⟩
theorem nums_miss {w : World} {x n k i : Nat} {r : Rule} {f g : Nat → Int} (h : NumsAt w x (fun l => if decide (l < k) && hits r i l then g l else f l) n) (hh : hits r i k = false) : NumsAt w x (fun l => if decide (l < k + 1) && hits r i l then g l else f l) n := fun j hj => by
  have := h j hj
  by_cases e : j = k
  · subst e; simpa [hh] using this
  · have e2 : decide (j < k + 1) = decide (j < k) := by simp only [decide_eq_decide]; omega
    simpa [e2] using this
theorem nums_hit {w : World} {x n k i : Nat} {r : Rule} {f g : Nat → Int} (h : NumsAt w x (fun l => if decide (l < k) && hits r i l then g l else f l) n) (hh : hits r i k = true) : NumsAt (w.setCell ⟨x, k, none⟩ (.int .i64 (g k))) x (fun l => if decide (l < k + 1) && hits r i l then g l else f l) n := fun j hj => by
  have := (h.set k (g k)) j hj
  by_cases e : j = k
  · subst e; rw [upd_same] at this; simpa [hh] using this
  · have e2 : decide (j < k + 1) = decide (j < k) := by simp only [decide_eq_decide]; omega
    rw [upd_ne _ _ e] at this
    simpa [e2] using this
noncomputable def body52 : Code := Try.f52.body.getD .skip
noncomputable def loop52 : Code := headC 4 body52
set_option maxRecDepth 100000 in
set_option maxHeartbeats 2000000 in
theorem task_loop {κ : Kr} {sa st n i c bx : Nat} {s : St} {w : World} {Q : Exit → Act → World → Prop}
    {z0 z2 z3 z5 z6 z7 z8 z9 za zb zc zd ze zf zg zh zi zj zk zl zm zn zo zp zq zr zs zt zu zv zw zx zy zz zA zB zC zD zE zF zG zH zI zJ zK zL zM zN zO zP zQ zR zS zT zU zV zW zX zY zZ Z0 Z1 Z2 Z3 Z4 Z5 Z6 Z7 Z8 : Value}
    (hn : n ≤ 4) (hc : c ≤ 1000) (hs : Small c s) (hS : NumsAt w sa s.sum n) (hT : NumsAt w st s.starts n) (hne : sa ≠ st) (hb1 : bx ≠ sa) (hb2 : bx ≠ st)
    (c0 : w.cell? ⟨bx, 0, none⟩ = some (.string κ.rule.text)) (c3 : w.cell? ⟨bx, 3, none⟩ = some (.slice (some ⟨sa, 0, none⟩) n n)) (c4 : w.cell? ⟨bx, 4, none⟩ = some (.slice (some ⟨st, 0, none⟩) n n))
    (h : ∀ z9 zH zI zJ zK zL zM zN zO zP zQ zR zS zT zU zV zW zX zY zZ Z0 Z1 Z2 Z3 Z4 Z5 Z6 Z7 w', Only sa st w w' → NumsAt w' sa (fun l => if again κ.rule n i l then 0 else s.sum l) n → NumsAt w' st (fun l => if again κ.rule n i l then s.starts l + 1 else s.starts l) n →
      Q .normal ⟨#[z0, .int .i64 (i : Nat), z2, z3, .pointer (some ⟨bx, 0, none⟩), z5, z6, z7, z8, z9, za, zb, zc, zd, ze, zf, zg, zh, zi, zj, zk, zl, zm, zn, zo, zp, zq, zr, zs, zt, zu, zv, zw, zx, zy, zz, zA, zB, zC, zD, zE, zF, zG, zH, zI, zJ, zK, zL, zM, zN, zO, zP, zQ, zR, zS, zT, zU, zV, zW, zX, zY, zZ, Z0, Z1, Z2, Z3, Z4, Z5, Z6, Z7, Z8], []⟩ w') :
    loop52.wp Try.prog Q ⟨#[z0, .int .i64 (i : Nat), z2, z3, .pointer (some ⟨bx, 0, none⟩), z5, z6, z7, z8, z9, za, zb, zc, zd, ze, zf, zg, zh, zi, zj, zk, zl, zm, zn, zo, zp, zq, zr, zs, zt, zu, zv, zw, zx, zy, zz, zA, zB, zC, zD, zE, zF, zG, zH, zI, zJ, zK, zL, zM, zN, zO, zP, zQ, zR, zS, zT, zU, zV, zW, zX, zY, zZ, Z0, Z1, Z2, Z3, Z4, Z5, Z6, Z7, Z8], []⟩ w := by
  simp only [loop52, headC, body52, Try.f52, Option.getD_some]
  replace h : Hid _ := ⟨h⟩
  have hS0 : Hid _ := ⟨hS⟩
  have hT0 : Hid _ := ⟨hT⟩
  have hle : Hid _ := ⟨hs⟩
  clear hS hT hs
  have hb1 : Hid _ := ⟨hb1⟩
  have hb2 : Hid _ := ⟨hb2⟩
  have hne' : Hid _ := ⟨hne⟩
  have p1 : Hid _ := ⟨c0⟩
  have p3 : Hid _ := ⟨c3⟩
  have p4 : Hid _ := ⟨c4⟩
  clear c0 c3 c4
  go_wp2
  go_loopw [9] (fun v wr => ∃ k : Nat, k ≤ n ∧ v = .int .i64 k ∧ Only sa st w wr ∧ NumsAt wr sa (fun l => if decide (l < k) && hits κ.rule i l then 0 else s.sum l) n ∧ NumsAt wr st (fun l => if decide (l < k) && hits κ.rule i l then s.starts l + 1 else s.starts l) n) (fun v _ => n - (intOf v).toNat)
  case atStart => exact ⟨0, Nat.zero_le _, rfl, Only.refl _ _ _, by simpa using hS0.out, by simpa using hT0.out⟩
  case round =>
    obtain ⟨k, hk, rfl, hO, hS, hT⟩ := hrel
    have d0 : wr.cell? ⟨bx, 0, none⟩ = some (.string κ.rule.text) := (hO.cell hb1.out hb2.out).1.trans p1.out
    have d3 : wr.cell? ⟨bx, 3, none⟩ = some (.slice (some ⟨sa, 0, none⟩) n n) := (hO.cell hb1.out hb2.out).1.trans p3.out
    have d4 : wr.cell? ⟨bx, 4, none⟩ = some (.slice (some ⟨st, 0, none⟩) n n) := (hO.cell hb1.out hb2.out).1.trans p4.out
    by_cases hlt : k < n
    · have hlt' : (k : Int) < (n : Int) := by omega
      have c67 : Hid (∀ (b : Bool), b = hits κ.rule i k → ∀ w, Calls Try.prog 67 #[.string κ.rule.text, .int .i64 (i : Nat), .int .i64 (k : Nat)] w fun e w' => e = .returned (.bool b) ∧ w = w') := ⟨fun b hb w => by rw [hb]; exact l9Restarted_any κ.rule i k w⟩
      cases hh : hits κ.rule i k with
      | false =>
        have c67' : Hid _ := ⟨c67.out false hh.symm⟩
        have hS' : Hid _ := ⟨nums_miss (g := fun _ => 0) hS hh⟩
        have hT' : Hid _ := ⟨nums_miss (g := fun l => s.starts l + 1) hT hh⟩
        clear c67 hh hS hT
        go_wp2_with (go_at_call 67; (with_reducible refine (c67'.out _).mono ?_); rintro e w' ⟨rfl, rfl⟩)
        go_roundw
        case rel => exact ⟨k + 1, by omega, by go_num, hO, hS'.out, hT'.out⟩
        case measure => simp [intOf]; omega
      | true =>
        have c67' : Hid _ := ⟨c67.out true hh.symm⟩
        have e1 := hS k hlt
        have e2 := hT k hlt
        simp only [Nat.lt_irrefl, decide_false, Bool.false_and, Bool.false_eq_true, if_false] at e1 e2
        obtain ⟨e1, f1⟩ := e1
        obtain ⟨e2, f2⟩ := e2
        have hS' : Hid _ := ⟨nums_hit (g := fun _ => 0) hS hh⟩
        have hT' : Hid (NumsAt ((wr.setCell ⟨sa, k, none⟩ (.int .i64 0)).setCell ⟨st, k, none⟩ (.int .i64 (s.starts k + 1))) st (fun l => if decide (l < k + 1) && hits κ.rule i l then s.starts l + 1 else s.starts l) n) := ⟨nums_hit (g := fun l => s.starts l + 1) (hT.other _ hne) hh⟩
        have hS2 : Hid (NumsAt ((wr.setCell ⟨sa, k, none⟩ (.int .i64 0)).setCell ⟨st, k, none⟩ (.int .i64 (s.starts k + 1))) sa (fun l => if decide (l < k + 1) && hits κ.rule i l then 0 else s.sum l) n) := ⟨hS'.out.other _ (Ne.symm hne)⟩
        have hO2 : Hid (Only sa st w ((wr.setCell ⟨sa, k, none⟩ (.int .i64 0)).setCell ⟨st, k, none⟩ (.int .i64 (s.starts k + 1)))) := ⟨(hO.set _ (.inl rfl)).set _ (.inr rfl)⟩
        have hst := hle.out.starts k
        have hst2 : 0 ≤ s.starts k + 1 ∧ s.starts k + 1 ≤ 100000 := by omega
        have hw2 : Hid (IntKind.i64.wrap (s.starts k + 1) = s.starts k + 1) := ⟨wrap_small hst2.1 (by omega)⟩
        have ne1 : Hid (st ≠ sa) := ⟨Ne.symm hne⟩
        have d3' : ∀ v, (wr.setCell ⟨sa, k, none⟩ v).cell? ⟨bx, 4, none⟩ = some (.slice (some ⟨st, 0, none⟩) n n) := fun v => (cell_setCell_ne _ _ (.inl (Ne.symm hb1.out))).trans d4
        have e2' : ∀ v, (wr.setCell ⟨sa, k, none⟩ v).cell? ⟨st, k, none⟩ = some (.int .i64 (s.starts k)) := fun v => (cell_setCell_ne _ _ (.inl hne)).trans e2
        have f2' : ∀ v, (wr.setCell ⟨sa, k, none⟩ v).frozen? ⟨st, k, none⟩ = false := fun v => (frozen_setCell _ _ _ _).trans f2
        clear c67 hh hS hT hne hS' hO
        go_wp2_with (go_at_call 67; (with_reducible refine (c67'.out _).mono ?_); rintro e w' ⟨rfl, rfl⟩)
        have hw2 := hw2.out
        go_region
        clear hw2
        go_wp2
        go_roundw
        case rel => exact ⟨k + 1, by omega, by go_num, hO2.out.drew, hS2.out.drew, hT'.out.drew⟩
        case measure => simp [intOf]; omega
    · obtain rfl : k = n := by omega
      go_wp2
      refine h.out _ _ _ _ _ _ _ _ _ _ _ _ _ _ _ _ _ _ _ _ _ _ _ _ _ _ _ _ wr hO ?_ ?_
      · exact hS
      · exact hT
end Go.Town.Kp
