/-
  A drawn deed of single lines: l1One.
-/
import Derived.Test.YtkkcnkajffbnaaaDoorN3
namespace Go.Proofs.YtkkcnkajffbnaaaDoor
open Go.RowKit
set_option linter.all false

def dd0 : Dd := ⟨[], 0, 0⟩
/-- The deed so far, in its variable; the result's variable; the reader. -/
structure OneAt (w0 : World) (g0 g p x : Nat) (d : Dd) (w : World) : Prop where
  box : w.heap[x]? = some (.cells d.cells.toArray 47 (0, 0))
  res : w.heap[w0.heap.size]? = some (.cells dd0.cells.toArray 47 (0, 0))
  rd : ∃ p', p' ≤ p ∧ Rd w g0 g p'
  grown : w0.grownBy w (some g)
  lt : w0.heap.size < x
  ok : DrawnD d
section
variable {w0 w w' : World} {g0 g p p' x : Nat} {d : Dd}
theorem OneAt.lx (h : OneAt w0 g0 g p x d w) : x < w.heap.size := (Array.getElem?_eq_some_iff.1 h.box).1
theorem OneAt.rdOn (h : OneAt w0 g0 g p x d w) (hg : g < w0.heap.size) (hr : w.grownBy w' (some g)) (hp : ∃ q, q ≤ p' ∧ Rd w' g0 g q) : OneAt w0 g0 g p' x d w' :=
  have h1 := h.lt
  have h2 := h.lx
  ⟨(hr.block x h2 (by simp; omega)).trans h.box, (hr.block _ (by omega) (by simp; omega)).trans h.res, hp, h.grown.trans hr, h.lt, h.ok⟩
theorem OneAt.put (h : OneAt w0 g0 g p x d w) (hg0 : g0 ≤ g) (hg : g < w0.heap.size) {e : Dd} (he : DrawnD e) (j : Nat) (v : Value) (hv : d.cells.toArray.setIfInBounds j v = e.cells.toArray) : OneAt w0 g0 g p x e (w.setCell ⟨x, j, none⟩ v) := by
  have h1 := h.lt
  have h2 := h.lx
  refine ⟨by rw [blk_set h.box, hv], ?_, ?_, grownBy_set_new h.grown (by omega) v, h.lt, he⟩
  · rw [Below.heap_setCell _ _ _ _ (by simp; omega)]; exact h.res
  · obtain ⟨q, hq, hr⟩ := h.rd
    exact ⟨q, hq, hr.kept (grownBy_setCell_off w x j v) (fun r e => by injection e with e; subst e; exact ⟨by omega, by omega⟩) hr.lt⟩
theorem OneAt.less (h : OneAt w0 g0 g p x d w) (hp : p ≤ p') : OneAt w0 g0 g p' x d w :=
  have ⟨q, h1, h2⟩ := h.rd
  ⟨h.box, h.res, ⟨q, Nat.le_trans h1 hp, h2⟩, h.grown, h.lt, h.ok⟩
theorem OneAt.facts (h : OneAt w0 g0 g p x d w) : (w.cell? ⟨x, 0, none⟩ = some (.string ⟨d.act.toArray⟩) ∧ w.cell? ⟨x, 1, none⟩ = some (.int .i64 d.line) ∧ w.cell? ⟨x, 2, none⟩ = some (.int .i64 d.word)) ∧ (w.frozen? ⟨x, 0, none⟩ = false ∧ w.frozen? ⟨x, 1, none⟩ = false ∧ w.frozen? ⟨x, 2, none⟩ = false) :=
  ⟨⟨by rw [blk_cell h.box]; rfl, by rw [blk_cell h.box]; rfl, by rw [blk_cell h.box]; rfl⟩, blk_frozen h.box, blk_frozen h.box, blk_frozen h.box⟩
theorem OneAt.rfacts (h : OneAt w0 g0 g p x d w) : (w.cell? ⟨w0.heap.size, 0, none⟩ = some (.string ⟨#[]⟩) ∧ w.cell? ⟨w0.heap.size, 1, none⟩ = some (.int .i64 0) ∧ w.cell? ⟨w0.heap.size, 2, none⟩ = some (.int .i64 0)) ∧ (w.frozen? ⟨w0.heap.size, 0, none⟩ = false ∧ w.frozen? ⟨w0.heap.size, 1, none⟩ = false ∧ w.frozen? ⟨w0.heap.size, 2, none⟩ = false) :=
  ⟨⟨by rw [blk_cell h.res]; rfl, by rw [blk_cell h.res]; rfl, by rw [blk_cell h.res]; rfl⟩, blk_frozen h.res, blk_frozen h.res, blk_frozen h.res⟩
end
theorem DrawnD.lines {d : Dd} (h : DrawnD d) {v : Int} (h0 : -1 ≤ v) (h1 : v ≤ 9223372036854775807) : DrawnD { d with line := v } := ⟨h.len, h.s, h.c, h0, h1, h.w0, h.w1⟩
theorem DrawnD.words {d : Dd} (h : DrawnD d) {v : Int} (h0 : -1 ≤ v) (h1 : v ≤ 9223372036854775807) : DrawnD { d with word := v } := ⟨h.len, h.s, h.c, h.l0, h.l1, h0, h1⟩
theorem DrawnD.acts {d : Dd} (h : DrawnD d) {a : List UInt8} (h0 : a.length ≤ 10) (h1 : (32 : UInt8) ∉ a) (h2 : (44 : UInt8) ∉ a) : DrawnD { d with act := a } := ⟨h0, h1, h2, h.l0, h.l1, h.w0, h.w1⟩
/-- What is drawn. -/
def OnePost (g0 g p : Nat) (w : World) (e : Ending) (w' : World) : Prop := ∃ (d : Dd) (p' : Nat), e = .returned (deedV d) ∧ DrawnD d ∧ p' ≤ p ∧ Rd w' g0 g p' ∧ w.grownBy w' (some g)
def acts6 : List (List UInt8) := [[112, 117, 116], [112, 117, 116], [116, 97, 107, 101], [116, 97, 107, 101], [101, 110, 100], [108, 111, 111, 107]]
theorem acts6_ok : ∀ a ∈ acts6, a.length ≤ 10 ∧ (32 : UInt8) ∉ a ∧ (44 : UInt8) ∉ a := by decide
def acts3 : List (List UInt8) := [[], [103, 105, 118, 101], [80, 85, 84]]
theorem acts3_ok : ∀ a ∈ acts3, a.length ≤ 10 ∧ (32 : UInt8) ∉ a ∧ (44 : UInt8) ∉ a := by decide

theorem results_cell {fn : Func} {p : Tmp} {ty : TypeId} (h : fn.results = #[.cell p ty]) (tmps : Array Value) (P : Program) (w : World) :
    (results fn tmps).run P w = ((asAddr (tmps.getD p undef)).run P w).andThen fun a w₁ => (loadVar ty a).run P w₁ := by
  simp only [results, h]
  simp [Sem.run_bind, Result.andThen]
theorem res_cell {P : Program} {fn : Func} {p : Tmp} {ty t : TypeId} (h : fn.results = #[.cell p ty]) {tmps : Array Value} {b : Nat} (ht : tmps.getD p undef = .pointer (some ⟨b, 0, none⟩)) {w : World} {cs : Array Value} {fr : Nat × Nat} {d : TypeDesc}
    (hg : w.heap[b]? = some (.cells cs t fr)) (hu : P.underlying ty = some d) (hd : (match d with | .struct _ | .array _ _ => true | _ => false) = true) (hi : (P.info? ty).map (·.size) = some cs.size) : (results fn tmps).run P w = .ok (.agg cs) w := by
  rw [results_cell h, ht]
  simp [asAddr, Result.andThen, run_loadVar_row w b t ty cs fr d hg hu hd hi]
theorem OneAt.cell {w0 w : World} {g0 g p x : Nat} {d : Dd} (hg0 : g0 ≤ g) (hg : g < w0.heap.size) {cs : Array Value} (h : w.heap[w0.heap.size]? = some (.cells cs 47 (0, 0)) ∧ (∃ q, q ≤ p ∧ Rd w g0 g q) ∧ w0.grownBy w (some g)) (j : Nat) (v : Value) :
    (w.setCell ⟨w0.heap.size, j, none⟩ v).heap[w0.heap.size]? = some (.cells (cs.setIfInBounds j v) 47 (0, 0)) ∧ (∃ q, q ≤ p ∧ Rd (w.setCell ⟨w0.heap.size, j, none⟩ v) g0 g q) ∧ w0.grownBy (w.setCell ⟨w0.heap.size, j, none⟩ v) (some g) := by
  obtain ⟨h1, ⟨q, hq, hr⟩, h2⟩ := h
  exact ⟨blk_set h1 v, ⟨q, hq, hr.kept (grownBy_setCell_off w _ j v) (fun r e => by injection e with e; subst e; exact ⟨by omega, by omega⟩) hr.lt⟩, grownBy_set_new h2 (Nat.le_refl _) v⟩
theorem OneAt.out3 {w0 w : World} {g0 g p x : Nat} {d : Dd} (h : OneAt w0 g0 g p x d w) (hg0 : g0 ≤ g) (hg : g < w0.heap.size) : (((w.setCell ⟨w0.heap.size, 0, none⟩ (.string ⟨d.act.toArray⟩)).setCell ⟨w0.heap.size, 1, none⟩ (.int .i64 d.line)).setCell ⟨w0.heap.size, 2, none⟩ (.int .i64 d.word)).heap[w0.heap.size]? = some (.cells d.cells.toArray 47 (0, 0)) ∧ (∃ q, q ≤ p ∧ Rd (((w.setCell ⟨w0.heap.size, 0, none⟩ (.string ⟨d.act.toArray⟩)).setCell ⟨w0.heap.size, 1, none⟩ (.int .i64 d.line)).setCell ⟨w0.heap.size, 2, none⟩ (.int .i64 d.word)) g0 g q) ∧ w0.grownBy (((w.setCell ⟨w0.heap.size, 0, none⟩ (.string ⟨d.act.toArray⟩)).setCell ⟨w0.heap.size, 1, none⟩ (.int .i64 d.line)).setCell ⟨w0.heap.size, 2, none⟩ (.int .i64 d.word)) (some g) :=
  OneAt.cell (x := x) (d := d) hg0 hg (OneAt.cell (x := x) (d := d) hg0 hg (OneAt.cell (x := x) (d := d) hg0 hg ⟨h.res, h.rd, h.grown⟩ 0 _) 1 _) 2 _
theorem nums_in {zs : List Int} (h : ∀ z ∈ zs, -1 ≤ z ∧ z ≤ 9223372036854775807) {v : Int} (hv : v ∈ zs) : -1 ≤ v ∧ v ≤ 9223372036854775807 := h v hv
theorem hidP {p : Prop} (h : p) : Hid p := h
def tlC : Nat → Code → Code
  | 0, c => c
  | n + 1, .seq _ b => tlC n b
  | _ + 1, c => c
def bdC (f : Func) : Code := match f.body with
  | some c => c
  | none => .skip

set_option maxRecDepth 100000 in
set_option maxHeartbeats 4000000 in
theorem one_5 {g0 g p X : Nat} {w : World} (hp : p ≤ 1000000) (hlt : g < w.heap.size) (hg0 : g0 ≤ g) (x1 x2 x3 x6 x7 x8 x9 x10 x11 x12 x13 x14 x15 x16 x17 x18 x19 x20 x21 x22 x23 x24 x25 x26 x27 x28 x29 x30 x31 x32 x33 x34 x35 x36 x37 x38 x39 x40 x41 x42 x43 x44 x45 x46 x47 x48 x49 x50 x51 x52 x53 x54 x55 x56 x57 : Value) {d : Dd} {w' : World} (O : OneAt w g0 g (p + 7) X d w') : (tlC 5 (bdC Tryd.f76)).wp Tryd.prog (bodyPost Tryd.prog Tryd.f76 (OnePost g0 g (p + 8) w)) ⟨#[.pointer (some ⟨g, 0, none⟩), x1, x2, x3, .pointer (some ⟨w.heap.size, 0, none⟩), .pointer (some ⟨X, 0, none⟩), x6, x7, x8, x9, x10, x11, x12, x13, x14, x15, x16, x17, x18, x19, x20, x21, x22, x23, x24, x25, x26, x27, x28, x29, x30, x31, x32, x33, x34, x35, x36, x37, x38, x39, x40, x41, x42, x43, x44, x45, x46, x47, x48, x49, x50, x51, x52, x53, x54, x55, x56, x57], []⟩ w' := by
  obtain ⟨⟨f0, f1, f2⟩, z0, z1, z2⟩ := O.facts
  obtain ⟨⟨r0, r1, r2⟩, y0, y1, y2⟩ := O.rfacts
  generalize hQ : bodyPost Tryd.prog Tryd.f76 (OnePost g0 g (p + 8) w) = Q
  simp only [tlC, bdC, Tryd.f76]
  subst hQ
  go_wp2_with fail
  obtain ⟨b1, ⟨q, hq, hr⟩, b2⟩ := O.out3 hg0 hlt
  exact bodyPost_ret (res_cell rfl rfl b1 Tryd.underlying47 rfl (by kernel_rfl)) rfl ⟨d, q, rfl, O.ok, by omega, hr, b2⟩
set_option maxRecDepth 100000 in
set_option maxHeartbeats 4000000 in
theorem one_4 {g0 g p X : Nat} {w : World} (hp : p ≤ 1000000) (hlt : g < w.heap.size) (hg0 : g0 ≤ g) (x1 x2 x3 x6 x7 x8 x9 x10 x11 x12 x13 x14 x15 x16 x17 x18 x19 x20 x21 x22 x23 x24 x25 x26 x27 x28 x29 x30 x31 x32 x33 x34 x35 x36 x37 x38 x39 x40 x41 x42 x43 x44 x45 x46 x47 x48 x49 x50 x51 x52 x53 x54 x55 x56 x57 : Value) {d : Dd} {w' : World} (O : OneAt w g0 g (p + 5) X d w') : (tlC 4 (bdC Tryd.f76)).wp Tryd.prog (bodyPost Tryd.prog Tryd.f76 (OnePost g0 g (p + 8) w)) ⟨#[.pointer (some ⟨g, 0, none⟩), x1, x2, x3, .pointer (some ⟨w.heap.size, 0, none⟩), .pointer (some ⟨X, 0, none⟩), x6, x7, x8, x9, x10, x11, x12, x13, x14, x15, x16, x17, x18, x19, x20, x21, x22, x23, x24, x25, x26, x27, x28, x29, x30, x31, x32, x33, x34, x35, x36, x37, x38, x39, x40, x41, x42, x43, x44, x45, x46, x47, x48, x49, x50, x51, x52, x53, x54, x55, x56, x57], []⟩ w' := by
  obtain ⟨⟨f0, f1, f2⟩, z0, z1, z2⟩ := O.facts
  obtain ⟨⟨r0, r1, r2⟩, y0, y1, y2⟩ := O.rfacts
  generalize hQ : bodyPost Tryd.prog Tryd.f76 (OnePost g0 g (p + 8) w) = Q
  simp only [tlC, bdC, Tryd.f76]
  subst hQ
  refine wp_seq_k fun K hK => ?_
  have kk := hidP hK
  clear hK
  go_wp2_with fail
  obtain ⟨q, hq, hr⟩ := O.rd
  refine (pick_new hr (by omega) (by omega)).mono ?_
  rintro e w3 ⟨y, rfl, hy, h3⟩
  have O1 : OneAt w g0 g (p + 6) X d w3 := O.rdOn hlt h3.out.2 ⟨_, by omega, h3.out.1⟩
  obtain ⟨⟨f0, f1, f2⟩, z0, z1, z2⟩ := O1.facts
  have c0 : ((y : Int) = 0 ∨ (y : Int) = 1) ∨ (y : Int) = 2 ∨ (y : Int) = 3 ∨ (y : Int) = 4 ∨ (4 < (y : Int)) := by omega
  rcases c0 with (c | c) | c | c | c | c
  · go_wp2_with fail
    refine kk.out _ _ ?_
    exact one_5 hp hlt hg0 _ _ _ _ _ _ _ _ _ _ _ _ _ _ _ _ _ _ _ _ _ _ _ _ _ _ _ _ _ _ _ _ _ _ _ _ _ _ _ _ _ _ _ _ _ _ _ _ _ _ _ _ _ _ _ ((O1.put hg0 hlt (e := { d with line := 0 }) (O1.ok.lines (by decide) (by decide)) 1 (.int .i64 0) rfl).less (by omega))
  · go_wp2_with fail
    refine kk.out _ _ ?_
    exact one_5 hp hlt hg0 _ _ _ _ _ _ _ _ _ _ _ _ _ _ _ _ _ _ _ _ _ _ _ _ _ _ _ _ _ _ _ _ _ _ _ _ _ _ _ _ _ _ _ _ _ _ _ _ _ _ _ _ _ _ _ ((O1.put hg0 hlt (e := { d with line := 0 }) (O1.ok.lines (by decide) (by decide)) 1 (.int .i64 0) rfl).less (by omega))
  · go_wp2_with fail
    obtain ⟨q2, hq2, hr2⟩ := O1.rd
    refine (num_new (n := 3) [-1, 7, 9223372036854775807] _ hr2 (by omega) rfl rfl (by omega) (by omega)).mono ?_
    rintro e w4 ⟨v, rfl, hv, h4⟩
    have O2 : OneAt w g0 g (p + 7) X d w4 := O1.rdOn hlt h4.out.2 ⟨_, by omega, h4.out.1⟩
    obtain ⟨⟨e0, e1, e2⟩, u0, u1, u2⟩ := O2.facts
    have hv2 : -1 ≤ v ∧ v ≤ 9223372036854775807 := nums_in (by decide) hv
    go_wp2_with fail
    refine kk.out _ _ ?_
    exact one_5 hp hlt hg0 _ _ _ _ _ _ _ _ _ _ _ _ _ _ _ _ _ _ _ _ _ _ _ _ _ _ _ _ _ _ _ _ _ _ _ _ _ _ _ _ _ _ _ _ _ _ _ _ _ _ _ _ _ _ _ (O2.put hg0 hlt (e := { d with line := v }) (O2.ok.lines hv2.1 hv2.2) 1 (.int .i64 v) rfl)
  · go_wp2_with fail
    obtain ⟨q2, hq2, hr2⟩ := O1.rd
    refine (num_new (n := 3) [1001, -1, 5] _ hr2 (by omega) rfl rfl (by omega) (by omega)).mono ?_
    rintro e w4 ⟨v, rfl, hv, h4⟩
    have O2 : OneAt w g0 g (p + 7) X d w4 := O1.rdOn hlt h4.out.2 ⟨_, by omega, h4.out.1⟩
    obtain ⟨⟨e0, e1, e2⟩, u0, u1, u2⟩ := O2.facts
    have hv2 : -1 ≤ v ∧ v ≤ 9223372036854775807 := nums_in (by decide) hv
    go_wp2_with fail
    refine kk.out _ _ ?_
    exact one_5 hp hlt hg0 _ _ _ _ _ _ _ _ _ _ _ _ _ _ _ _ _ _ _ _ _ _ _ _ _ _ _ _ _ _ _ _ _ _ _ _ _ _ _ _ _ _ _ _ _ _ _ _ _ _ _ _ _ _ _ (O2.put hg0 hlt (e := { d with word := v }) (O2.ok.words hv2.1 hv2.2) 2 (.int .i64 v) rfl)
  · go_wp2_with fail
    obtain ⟨q2, hq2, hr2⟩ := O1.rd
    refine (of_new (n := 3) acts3 _ hr2 (by omega) rfl rfl (by omega) (by omega)).mono ?_
    rintro e w4 ⟨v, rfl, hv, h4⟩
    have O2 : OneAt w g0 g (p + 7) X d w4 := O1.rdOn hlt h4.out.2 ⟨_, by omega, h4.out.1⟩
    obtain ⟨⟨e0, e1, e2⟩, u0, u1, u2⟩ := O2.facts
    have hv2 := acts3_ok v hv
    go_wp2_with fail
    refine kk.out _ _ ?_
    exact one_5 hp hlt hg0 _ _ _ _ _ _ _ _ _ _ _ _ _ _ _ _ _ _ _ _ _ _ _ _ _ _ _ _ _ _ _ _ _ _ _ _ _ _ _ _ _ _ _ _ _ _ _ _ _ _ _ _ _ _ _ (O2.put hg0 hlt (e := { d with act := v }) (O2.ok.acts hv2.1 hv2.2.1 hv2.2.2) 0 (.string ⟨v.toArray⟩) rfl)
  · go_wp2_with fail
    refine kk.out _ _ ?_
    exact one_5 hp hlt hg0 _ _ _ _ _ _ _ _ _ _ _ _ _ _ _ _ _ _ _ _ _ _ _ _ _ _ _ _ _ _ _ _ _ _ _ _ _ _ _ _ _ _ _ _ _ _ _ _ _ _ _ _ _ _ _ (O1.less (by omega))
set_option maxRecDepth 100000 in
set_option maxHeartbeats 4000000 in
theorem one_3 {g0 g p X : Nat} {w : World} (hp : p ≤ 1000000) (hlt : g < w.heap.size) (hg0 : g0 ≤ g) (x1 x2 x3 x6 x7 x8 x9 x10 x11 x12 x13 x14 x15 x16 x17 x18 x19 x20 x21 x22 x23 x24 x25 x26 x27 x28 x29 x30 x31 x32 x33 x34 x35 x36 x37 x38 x39 x40 x41 x42 x43 x44 x45 x46 x47 x48 x49 x50 x51 x52 x53 x54 x55 x56 x57 : Value) {d : Dd} {w' : World} (O : OneAt w g0 g (p + 4) X d w') : (tlC 3 (bdC Tryd.f76)).wp Tryd.prog (bodyPost Tryd.prog Tryd.f76 (OnePost g0 g (p + 8) w)) ⟨#[.pointer (some ⟨g, 0, none⟩), x1, x2, x3, .pointer (some ⟨w.heap.size, 0, none⟩), .pointer (some ⟨X, 0, none⟩), x6, x7, x8, x9, x10, x11, x12, x13, x14, x15, x16, x17, x18, x19, x20, x21, x22, x23, x24, x25, x26, x27, x28, x29, x30, x31, x32, x33, x34, x35, x36, x37, x38, x39, x40, x41, x42, x43, x44, x45, x46, x47, x48, x49, x50, x51, x52, x53, x54, x55, x56, x57], []⟩ w' := by
  obtain ⟨⟨f0, f1, f2⟩, z0, z1, z2⟩ := O.facts
  obtain ⟨⟨r0, r1, r2⟩, y0, y1, y2⟩ := O.rfacts
  generalize hQ : bodyPost Tryd.prog Tryd.f76 (OnePost g0 g (p + 8) w) = Q
  simp only [tlC, bdC, Tryd.f76]
  subst hQ
  refine wp_seq_k fun K hK => ?_
  have kk := hidP hK
  clear hK
  by_cases ha : d.act = [101, 110, 100]
  · go_wp2_with fail
    obtain ⟨q, hq, hr⟩ := O.rd
    refine (pick_new hr (by omega) (by omega)).mono ?_
    rintro e w3 ⟨y, rfl, hy, h3⟩
    have O1 : OneAt w g0 g (p + 5) X d w3 := O.rdOn hlt h3.out.2 ⟨_, by omega, h3.out.1⟩
    obtain ⟨⟨f0, f1, f2⟩, z0, z1, z2⟩ := O1.facts
    by_cases hz : (y : Int) = 0
    · have O2 := O1.put hg0 hlt (e := { d with act := [116, 97, 107, 101] }) (O1.ok.acts (by decide) (by decide) (by decide)) 0 (.string ⟨#[116, 97, 107, 101]⟩) rfl
      go_wp2_with fail
      refine kk.out _ _ ?_
      exact one_4 hp hlt hg0 _ _ _ _ _ _ _ _ _ _ _ _ _ _ _ _ _ _ _ _ _ _ _ _ _ _ _ _ _ _ _ _ _ _ _ _ _ _ _ _ _ _ _ _ _ _ _ _ _ _ _ _ _ _ _ (O2)
    · skip
      go_wp2_with fail
      refine kk.out _ _ ?_
      exact one_4 hp hlt hg0 _ _ _ _ _ _ _ _ _ _ _ _ _ _ _ _ _ _ _ _ _ _ _ _ _ _ _ _ _ _ _ _ _ _ _ _ _ _ _ _ _ _ _ _ _ _ _ _ _ _ _ _ _ _ _ (O1)
  · skip
    go_wp2_with fail
    refine kk.out _ _ ?_
    exact one_4 hp hlt hg0 _ _ _ _ _ _ _ _ _ _ _ _ _ _ _ _ _ _ _ _ _ _ _ _ _ _ _ _ _ _ _ _ _ _ _ _ _ _ _ _ _ _ _ _ _ _ _ _ _ _ _ _ _ _ _ (O.less (by omega))
set_option maxRecDepth 100000 in
set_option maxHeartbeats 4000000 in
theorem one_2 {g0 g p X : Nat} {w : World} (hp : p ≤ 1000000) (hlt : g < w.heap.size) (hg0 : g0 ≤ g) (x1 x2 x3 x6 x7 x8 x9 x10 x11 x12 x13 x14 x15 x16 x17 x18 x19 x20 x21 x22 x23 x24 x25 x26 x27 x28 x29 x30 x31 x32 x33 x34 x35 x36 x37 x38 x39 x40 x41 x42 x43 x44 x45 x46 x47 x48 x49 x50 x51 x52 x53 x54 x55 x56 x57 : Value) {d : Dd} {w' : World} (O : OneAt w g0 g (p + 2) X d w') : (tlC 2 (bdC Tryd.f76)).wp Tryd.prog (bodyPost Tryd.prog Tryd.f76 (OnePost g0 g (p + 8) w)) ⟨#[.pointer (some ⟨g, 0, none⟩), x1, x2, x3, .pointer (some ⟨w.heap.size, 0, none⟩), .pointer (some ⟨X, 0, none⟩), x6, x7, x8, x9, x10, x11, x12, x13, x14, x15, x16, x17, x18, x19, x20, x21, x22, x23, x24, x25, x26, x27, x28, x29, x30, x31, x32, x33, x34, x35, x36, x37, x38, x39, x40, x41, x42, x43, x44, x45, x46, x47, x48, x49, x50, x51, x52, x53, x54, x55, x56, x57], []⟩ w' := by
  obtain ⟨⟨f0, f1, f2⟩, z0, z1, z2⟩ := O.facts
  obtain ⟨⟨r0, r1, r2⟩, y0, y1, y2⟩ := O.rfacts
  generalize hQ : bodyPost Tryd.prog Tryd.f76 (OnePost g0 g (p + 8) w) = Q
  simp only [tlC, bdC, Tryd.f76]
  subst hQ
  refine wp_seq_k fun K hK => ?_
  have kk := hidP hK
  clear hK
  go_wp2_with fail
  refine (l1Words_any d.act _).mono ?_
  rintro e w3 ⟨b, rfl, rfl⟩
  cases b
  · skip
    go_wp2_with fail
    refine kk.out _ _ ?_
    exact one_3 hp hlt hg0 _ _ _ _ _ _ _ _ _ _ _ _ _ _ _ _ _ _ _ _ _ _ _ _ _ _ _ _ _ _ _ _ _ _ _ _ _ _ _ _ _ _ _ _ _ _ _ _ _ _ _ _ _ _ _ (O.less (by omega))
  go_wp2_with fail
  obtain ⟨q, hq, hr⟩ := O.rd
  refine (pick_new hr (by omega) (by omega)).mono ?_
  rintro e w3 ⟨y, rfl, hy, h3⟩
  have O1 : OneAt w g0 g (p + 3) X d w3 := O.rdOn hlt h3.out.2 ⟨_, by omega, h3.out.1⟩
  obtain ⟨⟨f0, f1, f2⟩, z0, z1, z2⟩ := O1.facts
  go_wp2_with fail
  obtain ⟨q2, hq2, hr2⟩ := O1.rd
  refine (num_new (n := 3) [(y : Int), 0, 1000] _ hr2 (by omega) rfl rfl (by omega) (by omega)).mono ?_
  rintro e w4 ⟨v, rfl, hv, h4⟩
  have O2 : OneAt w g0 g (p + 4) X d w4 := O1.rdOn hlt h4.out.2 ⟨_, by omega, h4.out.1⟩
  obtain ⟨⟨e0, e1, e2⟩, u0, u1, u2⟩ := O2.facts
  have hv2 : -1 ≤ v ∧ v ≤ 9223372036854775807 := nums_in (fun z hz => by simp at hz; omega) hv
  go_wp2_with fail
  refine kk.out _ _ ?_
  exact one_3 hp hlt hg0 _ _ _ _ _ _ _ _ _ _ _ _ _ _ _ _ _ _ _ _ _ _ _ _ _ _ _ _ _ _ _ _ _ _ _ _ _ _ _ _ _ _ _ _ _ _ _ _ _ _ _ _ _ _ _ (O2.put hg0 hlt (e := { d with word := v }) (O2.ok.words hv2.1 hv2.2) 2 (.int .i64 v) rfl)
set_option maxRecDepth 100000 in
set_option maxHeartbeats 4000000 in
theorem l1One_any {g0 g p : Nat} {n : Int} {w : World} (hR : Rd w g0 g p) (hp : p ≤ 1000000) (hn : 0 ≤ n) (hn2 : n ≤ 1000) :
    Calls Tryd.prog 76 #[.pointer (some ⟨g, 0, none⟩), .int .i64 n] w (OnePost g0 g (p + 8) w) := by
  have hlt := hR.lt
  have hg0 := hR.le
  have hsz : ∀ o, w.heap.size + 1 = (w.alloc o).heap.size := fun o => (World.size_alloc ..).symm
  go_enter Tryd.func76, Tryd.ntmps76
  go_wp2_with fail
  rename_i K1 hK1 K0 hK0
  have kk := hidP hK1
  clear hK1
  refine (of_new (n := 6) acts6 _ (hR.alloc _) (by omega) (hsz _) rfl (by omega) (by omega)).mono ?_
  rintro e w1 ⟨a, rfl, ha, h1⟩
  go_wp2_with fail
  have hmx : max n 1 ≤ 1000 := Int.max_le.2 ⟨hn2, by omega⟩
  refine (pick_new h1.out.1 (by omega) (by omega)).mono ?_
  rintro e w2 ⟨x, rfl, hx, h2⟩
  have hx2 : x ≤ 1000 := by omega
  obtain ⟨s1, s2, s3⟩ := acts6_ok a ha
  have k1 : (w.alloc (.cells dd0.cells.toArray 47)).grownBy w2 (some g) := h1.out.2.trans h2.out.2
  have O3 : OneAt w g0 g (p + 2) w2.heap.size ⟨a, 1 + x, 0⟩ (w2.alloc (.cells #[.string ⟨a.toArray⟩, .int .i64 (1 + x), .int .i64 0] 47)) := by
    have z1 := k1.size
    rw [World.size_alloc] at z1
    refine ⟨heap_alloc_new w2 _, ?_, ⟨_, Nat.le_refl _, h2.out.1.alloc _⟩, ?_, by omega, ⟨s1, s2, s3, by show (-1 : Int) ≤ 1 + (x : Int); omega, by show 1 + (x : Int) ≤ 9223372036854775807; omega, by show (-1 : Int) ≤ 0; omega, by show (0 : Int) ≤ 9223372036854775807; omega⟩⟩
    · refine ((World.grownBy_alloc w2 _ none).block _ (by omega) (by simp)).trans ((k1.block _ (by rw [World.size_alloc]; omega) (by simp; omega)).trans (heap_alloc_new w _))
    · exact ((World.grownBy_alloc w _ _).trans k1).trans (World.grownBy_alloc w2 _ _)
  go_wp2_with fail
  refine kk.out _ _ ?_
  exact one_2 hp hlt hg0 _ _ _ _ _ _ _ _ _ _ _ _ _ _ _ _ _ _ _ _ _ _ _ _ _ _ _ _ _ _ _ _ _ _ _ _ _ _ _ _ _ _ _ _ _ _ _ _ _ _ _ _ _ _ _ O3
end Go.Proofs.YtkkcnkajffbnaaaDoor
