/-
  A drawn deed of parties: l3One.
-/
import Derived.Test.YtkkcnkajffbnaaaDoorN5
namespace Go.Proofs.YtkkcnkajffbnaaaDoor
open Go.RowKit
set_option linter.all false

/-- Small numbers, in a row off the reader. -/
def IntS (W : World) (g : Nat) (a : Option Addr) (zs : List Int) : Prop :=
  (∀ z ∈ zs, 0 ≤ z ∧ z ≤ 1000) ∧ zs.length ≤ 100 ∧ (0 < zs.length → ∃ b, a = some ⟨b, 0, none⟩ ∧ b ≠ g ∧ b < W.heap.size ∧ ∀ i (hi : i < zs.length), W.cell? ⟨b, i, none⟩ = some (.int .i64 zs[i]))
theorem IntS.kept {W W' : World} {g : Nat} {a : Option Addr} {zs : List Int} (h : IntS W g a zs) (k : W.grownBy W' (some g)) : IntS W' g a zs :=
  ⟨h.1, h.2.1, fun hz => by
    obtain ⟨b, e, h1, h2, h3⟩ := h.2.2 hz
    refine ⟨b, e, h1, Nat.lt_of_lt_of_le h2 k.size, fun i hi => ?_⟩
    rw [World.cell?_of_block (k.block b h2 (by simpa using h1))]; exact h3 i hi⟩
theorem IntS.alloc {W : World} {g : Nat} {a : Option Addr} {zs : List Int} (h : IntS W g a zs) (o : Obj) : IntS (W.alloc o) g a zs := h.kept (World.grownBy_alloc _ _ _)
theorem IntS.get {zs : List Int} (h : ∀ z ∈ zs, 0 ≤ z ∧ z ≤ 1000) {i : Nat} (hi : i < zs.length) : 0 ≤ zs[i] ∧ zs[i] ≤ 1000 := h _ (List.getElem_mem hi)
/-- The result's variable, the reader. -/
structure ResAt (w0 : World) (g0 g p : Nat) (w : World) : Prop where
  res : w.heap[w0.heap.size]? = some (.cells dd0.cells.toArray 47 (0, 0))
  rd : ∃ p', p' ≤ p ∧ Rd w g0 g p'
  grown : w0.grownBy w (some g)
theorem OneAt.toRes {w0 w : World} {g0 g p x : Nat} {d : Dd} (h : OneAt w0 g0 g p x d w) : ResAt w0 g0 g p w := ⟨h.res, h.rd, h.grown⟩
theorem ResAt.rdOn {w0 w w' : World} {g0 g p p' : Nat} (h : ResAt w0 g0 g p w) (hg : g < w0.heap.size) (hr : w.grownBy w' (some g)) (hp : ∃ q, q ≤ p' ∧ Rd w' g0 g q) : ResAt w0 g0 g p' w' :=
  ⟨(hr.block _ (Array.getElem?_eq_some_iff.1 h.res).1 (by simp; omega)).trans h.res, hp, h.grown.trans hr⟩
theorem ResAt.less {w0 w : World} {g0 g p p' : Nat} (h : ResAt w0 g0 g p w) (hp : p ≤ p') : ResAt w0 g0 g p' w :=
  have ⟨q, h1, h2⟩ := h.rd
  ⟨h.res, ⟨q, Nat.le_trans h1 hp, h2⟩, h.grown⟩
theorem ResAt.out3 {w0 w : World} {g0 g p : Nat} (h : ResAt w0 g0 g p w) (hg0 : g0 ≤ g) (hg : g < w0.heap.size) (d : Dd) : (((w.setCell ⟨w0.heap.size, 0, none⟩ (.string ⟨d.act.toArray⟩)).setCell ⟨w0.heap.size, 1, none⟩ (.int .i64 d.line)).setCell ⟨w0.heap.size, 2, none⟩ (.int .i64 d.word)).heap[w0.heap.size]? = some (.cells d.cells.toArray 47 (0, 0)) ∧ (∃ q, q ≤ p ∧ Rd (((w.setCell ⟨w0.heap.size, 0, none⟩ (.string ⟨d.act.toArray⟩)).setCell ⟨w0.heap.size, 1, none⟩ (.int .i64 d.line)).setCell ⟨w0.heap.size, 2, none⟩ (.int .i64 d.word)) g0 g q) ∧ w0.grownBy (((w.setCell ⟨w0.heap.size, 0, none⟩ (.string ⟨d.act.toArray⟩)).setCell ⟨w0.heap.size, 1, none⟩ (.int .i64 d.line)).setCell ⟨w0.heap.size, 2, none⟩ (.int .i64 d.word)) (some g) :=
  OneAt.cell (x := 0) (d := d) hg0 hg (OneAt.cell (x := 0) (d := d) hg0 hg (OneAt.cell (x := 0) (d := d) hg0 hg ⟨h.res, h.rd, h.grown⟩ 0 _) 1 _) 2 _
theorem ResAt.rfacts {w0 w : World} {g0 g p : Nat} (h : ResAt w0 g0 g p w) : (w.cell? ⟨w0.heap.size, 0, none⟩ = some (.string ⟨#[]⟩) ∧ w.cell? ⟨w0.heap.size, 1, none⟩ = some (.int .i64 0) ∧ w.cell? ⟨w0.heap.size, 2, none⟩ = some (.int .i64 0)) ∧ (w.frozen? ⟨w0.heap.size, 0, none⟩ = false ∧ w.frozen? ⟨w0.heap.size, 1, none⟩ = false ∧ w.frozen? ⟨w0.heap.size, 2, none⟩ = false) :=
  ⟨⟨by rw [blk_cell h.res]; rfl, by rw [blk_cell h.res]; rfl, by rw [blk_cell h.res]; rfl⟩, blk_frozen h.res, blk_frozen h.res, blk_frozen h.res⟩
def acts5 : List (List UInt8) := [[112, 117, 116], [112, 117, 116], [112, 117, 116], [112, 97, 115, 115], [101, 110, 100]]
theorem acts5_ok : ∀ a ∈ acts5, a.length ≤ 10 ∧ (32 : UInt8) ∉ a ∧ (44 : UInt8) ∉ a := by decide
def takes3 : List (List UInt8) := [[116, 97, 107, 101], [116, 97, 107, 101], [101, 97, 99, 104]]
theorem takes3_ok : ∀ a ∈ takes3, a.length ≤ 10 ∧ (32 : UInt8) ∉ a ∧ (44 : UInt8) ∉ a := by decide
set_option maxRecDepth 100000 in
set_option maxHeartbeats 4000000 in
theorem three_5 {g0 g p : Nat} {w : World} (hp : p ≤ 1000000) (hlt : g < w.heap.size) (hg0 : g0 ≤ g) {a1 a2 : Option Addr} {zs1 zs2 : List Int} {c1 c2 : Nat} (x3 x4 x5 x8 x9 x10 x11 x12 x13 x14 x15 x16 x17 x18 x19 x20 x21 x22 x23 x24 x25 x26 x27 x28 x29 x30 x31 x32 x33 x34 x35 x36 x37 x38 x39 x40 x41 x42 x43 x44 x45 x46 x47 x48 x49 x50 x51 x52 x53 : Value) {X : Nat} {d : Dd} {w' : World} (O : OneAt w g0 g (p + 8) X d w') : (tlC 5 (bdC Tryd.f97)).wp Tryd.prog (bodyPost Tryd.prog Tryd.f97 (OnePost g0 g (p + 8) w)) ⟨#[.pointer (some ⟨g, 0, none⟩), .slice a1 zs1.length c1, .slice a2 zs2.length c2, x3, x4, x5, .pointer (some ⟨w.heap.size, 0, none⟩), .pointer (some ⟨X, 0, none⟩), x8, x9, x10, x11, x12, x13, x14, x15, x16, x17, x18, x19, x20, x21, x22, x23, x24, x25, x26, x27, x28, x29, x30, x31, x32, x33, x34, x35, x36, x37, x38, x39, x40, x41, x42, x43, x44, x45, x46, x47, x48, x49, x50, x51, x52, x53], []⟩ w' := by
  obtain ⟨⟨f0, f1, f2⟩, z0, z1, z2⟩ := O.facts
  obtain ⟨⟨r0, r1, r2⟩, y0, y1, y2⟩ := O.rfacts
  generalize hQ : bodyPost Tryd.prog Tryd.f97 (OnePost g0 g (p + 8) w) = Q
  simp only [tlC, bdC, Tryd.f97]
  subst hQ
  go_wp2_with fail
  obtain ⟨b1, ⟨q, hq, hr⟩, b2⟩ := O.out3 hg0 hlt
  exact bodyPost_ret (res_cell rfl rfl b1 Tryd.underlying47 rfl (by kernel_rfl)) rfl ⟨_, q, rfl, O.ok, by omega, hr, b2⟩
set_option maxRecDepth 100000 in
set_option maxHeartbeats 4000000 in
theorem three_4 {g0 g p : Nat} {w : World} (hp : p ≤ 1000000) (hlt : g < w.heap.size) (hg0 : g0 ≤ g) {a1 a2 : Option Addr} {zs1 zs2 : List Int} {c1 c2 : Nat} (x3 x4 x5 x8 x9 x10 x11 x12 x13 x14 x15 x16 x17 x18 x19 x20 x21 x22 x23 x24 x25 x26 x27 x28 x29 x30 x31 x32 x33 x34 x35 x36 x37 x38 x39 x40 x41 x42 x43 x44 x45 x46 x47 x48 x49 x50 x51 x52 x53 : Value) {X : Nat} {d : Dd} {w' : World} (O : OneAt w g0 g (p + 7) X d w') : (tlC 4 (bdC Tryd.f97)).wp Tryd.prog (bodyPost Tryd.prog Tryd.f97 (OnePost g0 g (p + 8) w)) ⟨#[.pointer (some ⟨g, 0, none⟩), .slice a1 zs1.length c1, .slice a2 zs2.length c2, x3, x4, x5, .pointer (some ⟨w.heap.size, 0, none⟩), .pointer (some ⟨X, 0, none⟩), x8, x9, x10, x11, x12, x13, x14, x15, x16, x17, x18, x19, x20, x21, x22, x23, x24, x25, x26, x27, x28, x29, x30, x31, x32, x33, x34, x35, x36, x37, x38, x39, x40, x41, x42, x43, x44, x45, x46, x47, x48, x49, x50, x51, x52, x53], []⟩ w' := by
  obtain ⟨⟨f0, f1, f2⟩, z0, z1, z2⟩ := O.facts
  obtain ⟨⟨r0, r1, r2⟩, y0, y1, y2⟩ := O.rfacts
  generalize hQ : bodyPost Tryd.prog Tryd.f97 (OnePost g0 g (p + 8) w) = Q
  simp only [tlC, bdC, Tryd.f97]
  subst hQ
  refine wp_seq_k fun K hK => ?_
  have kk := hidP hK
  clear hK
  by_cases ha : d.act = [112, 117, 116]
  · go_wp2_with fail
    obtain ⟨q, hq, hr⟩ := O.rd
    refine (pick_new hr (by omega) (by omega)).mono ?_
    rintro e w3 ⟨y, rfl, hy, h3⟩
    have O1 : OneAt w g0 g (p + 8) X d w3 := O.rdOn hlt h3.out.2 ⟨q + 1, by omega, h3.out.1⟩
    obtain ⟨⟨f0, f1, f2⟩, z0, z1, z2⟩ := O1.facts
    go_wp2_with fail
    refine kk.out _ _ ?_
    exact three_5 hp hlt hg0 _ _ _ _ _ _ _ _ _ _ _ _ _ _ _ _ _ _ _ _ _ _ _ _ _ _ _ _ _ _ _ _ _ _ _ _ _ _ _ _ _ _ _ _ _ _ _ _ _ (O1.put hg0 hlt (e := { d with word := (y : Int) }) (O1.ok.words (by omega) (by omega)) 2 (.int .i64 y) rfl)
  · have ha2 : (d.act == [112, 117, 116]) = false := beq_eq_false_iff_ne.2 ha
    go_wp2_with fail
    refine kk.out _ _ ?_
    exact three_5 hp hlt hg0 _ _ _ _ _ _ _ _ _ _ _ _ _ _ _ _ _ _ _ _ _ _ _ _ _ _ _ _ _ _ _ _ _ _ _ _ _ _ _ _ _ _ _ _ _ _ _ _ _ (O.less (by omega))
set_option maxRecDepth 100000 in
set_option maxHeartbeats 4000000 in
theorem three_3 {g0 g p : Nat} {w : World} (hp : p ≤ 1000000) (hlt : g < w.heap.size) (hg0 : g0 ≤ g) {a1 a2 : Option Addr} {zs1 zs2 : List Int} {c1 c2 : Nat} (x3 x4 x5 x7 x8 x9 x10 x11 x12 x13 x14 x15 x16 x17 x18 x19 x20 x21 x22 x23 x24 x25 x26 x27 x28 x29 x30 x31 x32 x33 x34 x35 x36 x37 x38 x39 x40 x41 x42 x43 x44 x45 x46 x47 x48 x49 x50 x51 x52 x53 : Value) {w' : World} (O : ResAt w g0 g (p + 5) w') (I1 : IntS w' g a1 zs1) (h1 : 0 < zs1.length) : (tlC 3 (bdC Tryd.f97)).wp Tryd.prog (bodyPost Tryd.prog Tryd.f97 (OnePost g0 g (p + 8) w)) ⟨#[.pointer (some ⟨g, 0, none⟩), .slice a1 zs1.length c1, .slice a2 zs2.length c2, x3, x4, x5, .pointer (some ⟨w.heap.size, 0, none⟩), x7, x8, x9, x10, x11, x12, x13, x14, x15, x16, x17, x18, x19, x20, x21, x22, x23, x24, x25, x26, x27, x28, x29, x30, x31, x32, x33, x34, x35, x36, x37, x38, x39, x40, x41, x42, x43, x44, x45, x46, x47, x48, x49, x50, x51, x52, x53], []⟩ w' := by
  obtain ⟨⟨r0, r1, r2⟩, y0, y1, y2⟩ := O.rfacts
  generalize hQ : bodyPost Tryd.prog Tryd.f97 (OnePost g0 g (p + 8) w) = Q
  simp only [tlC, bdC, Tryd.f97]
  subst hQ
  refine wp_seq_k fun K hK => ?_
  have kk := hidP hK
  clear hK
  obtain ⟨q, hq, hr⟩ := O.rd
  go_wp2_with fail
  refine (of_new (n := 5) acts5 _ hr (by omega) rfl rfl (by omega) (by omega)).mono ?_
  rintro e w3 ⟨a, rfl, ha, h3⟩
  have O1 : ResAt w g0 g (p + 6) w3 := O.rdOn hlt h3.out.2 ⟨q + 1, by omega, h3.out.1⟩
  have J1 := I1.kept h3.out.2
  have hl1 := I1.2.1
  go_wp2_with fail
  refine (pick_new h3.out.1 (by omega) (by omega)).mono ?_
  rintro e w4 ⟨y, rfl, hy, h4⟩
  have O2 : ResAt w g0 g (p + 7) w4 := O1.rdOn hlt h4.out.2 ⟨q + 2, by omega, h4.out.1⟩
  obtain ⟨b, rfl, hbg, hbl, hbc⟩ := (J1.kept h4.out.2).2.2 h1
  have hy1 : y < zs1.length := by omega
  have hcell := hbc y hy1
  have hv := IntS.get I1.1 hy1
  obtain ⟨s1, s2, s3⟩ := acts5_ok a ha
  have hs4 := O2.grown.size
  have hre := (Array.getElem?_eq_some_iff.1 O2.res).1
  have O3 : OneAt w g0 g (p + 7) w4.heap.size ⟨a, zs1[y], 0⟩ (w4.alloc (.cells #[.string ⟨a.toArray⟩, .int .i64 zs1[y], .int .i64 0] 47)) :=
    ⟨heap_alloc_new w4 _, ((World.grownBy_alloc w4 _ none).block _ hre (by simp)).trans O2.res, ⟨q + 2, by omega, h4.out.1.alloc _⟩, O2.grown.trans (World.grownBy_alloc _ _ _), hre, ⟨s1, s2, s3, by show -1 ≤ zs1[y]; omega, by show zs1[y] ≤ 9223372036854775807; omega, by show (-1 : Int) ≤ 0; omega, by show (0 : Int) ≤ 9223372036854775807; omega⟩⟩
  clear I1 J1 hbc
  generalize zs1[y] = u at *
  go_wp2_with fail
  refine kk.out _ _ ?_
  exact three_4 hp hlt hg0 _ _ _ _ _ _ _ _ _ _ _ _ _ _ _ _ _ _ _ _ _ _ _ _ _ _ _ _ _ _ _ _ _ _ _ _ _ _ _ _ _ _ _ _ _ _ _ _ _ O3
set_option maxRecDepth 100000 in
set_option maxHeartbeats 4000000 in
theorem three_2 {g0 g p : Nat} {w : World} (hp : p ≤ 1000000) (hlt : g < w.heap.size) (hg0 : g0 ≤ g) {a1 a2 : Option Addr} {zs1 zs2 : List Int} {c1 c2 : Nat} (x3 x4 x5 x7 x8 x9 x10 x11 x12 x13 x14 x15 x16 x17 x18 x19 x20 x21 x22 x23 x24 x25 x26 x27 x28 x29 x30 x31 x32 x33 x34 x35 x36 x37 x38 x39 x40 x41 x42 x43 x44 x45 x46 x47 x48 x49 x50 x51 x52 x53 : Value) {w' : World} (O : ResAt w g0 g (p + 5) w') (I1 : IntS w' g a1 zs1) : (tlC 2 (bdC Tryd.f97)).wp Tryd.prog (bodyPost Tryd.prog Tryd.f97 (OnePost g0 g (p + 8) w)) ⟨#[.pointer (some ⟨g, 0, none⟩), .slice a1 zs1.length c1, .slice a2 zs2.length c2, x3, x4, x5, .pointer (some ⟨w.heap.size, 0, none⟩), x7, x8, x9, x10, x11, x12, x13, x14, x15, x16, x17, x18, x19, x20, x21, x22, x23, x24, x25, x26, x27, x28, x29, x30, x31, x32, x33, x34, x35, x36, x37, x38, x39, x40, x41, x42, x43, x44, x45, x46, x47, x48, x49, x50, x51, x52, x53], []⟩ w' := by
  obtain ⟨⟨r0, r1, r2⟩, y0, y1, y2⟩ := O.rfacts
  generalize hQ : bodyPost Tryd.prog Tryd.f97 (OnePost g0 g (p + 8) w) = Q
  simp only [tlC, bdC, Tryd.f97]
  subst hQ
  refine wp_seq_k fun K hK => ?_
  have kk := hidP hK
  clear hK
  by_cases h1 : zs1.length = 0
  · go_wp2_with fail
    obtain ⟨b1, ⟨q, hq, hr⟩, b2⟩ := O.out3 hg0 hlt ⟨[116, 97, 107, 101], 0, 0⟩
    exact bodyPost_ret (res_cell rfl rfl b1 Tryd.underlying47 rfl (by kernel_rfl)) rfl ⟨_, q, rfl, ⟨by decide, by decide, by decide, by decide, by decide, by decide, by decide⟩, by omega, hr, b2⟩
  · go_wp2_with fail
    refine kk.out _ _ ?_
    exact three_3 hp hlt hg0 _ _ _ _ _ _ _ _ _ _ _ _ _ _ _ _ _ _ _ _ _ _ _ _ _ _ _ _ _ _ _ _ _ _ _ _ _ _ _ _ _ _ _ _ _ _ _ _ _ _ O I1 (by omega)
set_option maxRecDepth 100000 in
set_option maxHeartbeats 4000000 in
theorem three_1 {g0 g p : Nat} {w : World} (hp : p ≤ 1000000) (hlt : g < w.heap.size) (hg0 : g0 ≤ g) {a1 a2 : Option Addr} {zs1 zs2 : List Int} {c1 c2 : Nat} (x3 x4 x5 x7 x8 x9 x10 x11 x12 x13 x14 x15 x16 x17 x18 x19 x20 x21 x22 x23 x24 x25 x26 x27 x28 x29 x30 x31 x32 x33 x34 x35 x36 x37 x38 x39 x40 x41 x42 x43 x44 x45 x46 x47 x48 x49 x50 x51 x52 x53 : Value) {w' : World} (O : ResAt w g0 g (p + 3) w') (I1 : IntS w' g a1 zs1) (I2 : IntS w' g a2 zs2) : (tlC 1 (bdC Tryd.f97)).wp Tryd.prog (bodyPost Tryd.prog Tryd.f97 (OnePost g0 g (p + 8) w)) ⟨#[.pointer (some ⟨g, 0, none⟩), .slice a1 zs1.length c1, .slice a2 zs2.length c2, x3, x4, x5, .pointer (some ⟨w.heap.size, 0, none⟩), x7, x8, x9, x10, x11, x12, x13, x14, x15, x16, x17, x18, x19, x20, x21, x22, x23, x24, x25, x26, x27, x28, x29, x30, x31, x32, x33, x34, x35, x36, x37, x38, x39, x40, x41, x42, x43, x44, x45, x46, x47, x48, x49, x50, x51, x52, x53], []⟩ w' := by
  obtain ⟨⟨r0, r1, r2⟩, y0, y1, y2⟩ := O.rfacts
  generalize hQ : bodyPost Tryd.prog Tryd.f97 (OnePost g0 g (p + 8) w) = Q
  simp only [tlC, bdC, Tryd.f97]
  subst hQ
  refine wp_seq_k fun K hK => ?_
  have kk := hidP hK
  clear hK
  obtain ⟨q, hq, hr⟩ := O.rd
  have hl2 := I2.2.1
  by_cases h2 : zs2.length = 0
  · go_wp2_with fail
    refine kk.out _ _ ?_
    exact three_2 hp hlt hg0 _ _ _ _ _ _ _ _ _ _ _ _ _ _ _ _ _ _ _ _ _ _ _ _ _ _ _ _ _ _ _ _ _ _ _ _ _ _ _ _ _ _ _ _ _ _ _ _ _ _ (O.less (by omega)) I1
  have h2' : (0 : Int) < (zs2.length : Int) := by omega
  have h2p : 0 < zs2.length := by omega
  by_cases h1 : zs1.length = 0
  · go_wp2_with fail
    refine (of_new (n := 3) takes3 _ hr (by omega) rfl rfl (by omega) (by omega)).mono ?_
    rintro e w3 ⟨a, rfl, ha, h3⟩
    have O3 : ResAt w g0 g (p + 8) w3 := O.rdOn hlt h3.out.2 ⟨q + 1, by omega, h3.out.1⟩
    have J3 := I2.kept h3.out.2
    go_wp2_with fail
    refine (pick_new h3.out.1 (by omega) (by omega)).mono ?_
    rintro e w4 ⟨y, rfl, hy, h4⟩
    have O4 : ResAt w g0 g (p + 8) w4 := O3.rdOn hlt h4.out.2 ⟨q + 2, by omega, h4.out.1⟩
    obtain ⟨b, rfl, hbg, hbl, hbc⟩ := (J3.kept h4.out.2).2.2 h2p
    have hy1 : y < zs2.length := by omega
    have hcell := hbc y hy1
    have hv := IntS.get I2.1 hy1
    obtain ⟨s1, s2, s3⟩ := takes3_ok a ha
    obtain ⟨⟨r0, r1, r2⟩, y0, y1, y2⟩ := O4.rfacts
    clear hbc J3
    generalize zs2[y] = u at *
    go_wp2_with fail
    obtain ⟨b1, ⟨q9, hq9, hr9⟩, b2⟩ := O4.out3 hg0 hlt ⟨a, u, 0⟩
    exact bodyPost_ret (res_cell rfl rfl b1 Tryd.underlying47 rfl (by kernel_rfl)) rfl ⟨_, q9, rfl, ⟨s1, s2, s3, by show -1 ≤ u; omega, by show u ≤ 9223372036854775807; omega, by show (-1 : Int) ≤ 0; omega, by show (0 : Int) ≤ 9223372036854775807; omega⟩, by omega, hr9, b2⟩
  · have h1' : ((zs1.length : Int) == 0) = false := beq_eq_false_iff_ne.2 (by omega)
    go_wp2_with fail
    refine (pick_new hr (by omega) (by omega)).mono ?_
    rintro e w2 ⟨y, rfl, hy, h2a⟩
    have O2 : ResAt w g0 g (p + 5) w2 := O.rdOn hlt h2a.out.2 ⟨q + 1, by omega, h2a.out.1⟩
    by_cases hy0 : y = 0
    · subst hy0
      have h2b := h2a.out.1
      have J2 := I2.kept h2a.out.2
      go_wp2_with fail
      refine (of_new (n := 3) takes3 _ h2b (by omega) rfl rfl (by omega) (by omega)).mono ?_
      rintro e w3 ⟨a, rfl, ha, h3⟩
      have O3 : ResAt w g0 g (p + 8) w3 := O2.rdOn hlt h3.out.2 ⟨(q + 1) + 1, by omega, h3.out.1⟩
      have J3 := J2.kept h3.out.2
      go_wp2_with fail
      refine (pick_new h3.out.1 (by omega) (by omega)).mono ?_
      rintro e w4 ⟨y, rfl, hy, h4⟩
      have O4 : ResAt w g0 g (p + 8) w4 := O3.rdOn hlt h4.out.2 ⟨(q + 1) + 2, by omega, h4.out.1⟩
      obtain ⟨b, rfl, hbg, hbl, hbc⟩ := (J3.kept h4.out.2).2.2 h2p
      have hy1 : y < zs2.length := by omega
      have hcell := hbc y hy1
      have hv := IntS.get I2.1 hy1
      obtain ⟨s1, s2, s3⟩ := takes3_ok a ha
      obtain ⟨⟨r0, r1, r2⟩, y0, y1, y2⟩ := O4.rfacts
      clear hbc J3
      generalize zs2[y] = u at *
      go_wp2_with fail
      obtain ⟨b1, ⟨q9, hq9, hr9⟩, b2⟩ := O4.out3 hg0 hlt ⟨a, u, 0⟩
      exact bodyPost_ret (res_cell rfl rfl b1 Tryd.underlying47 rfl (by kernel_rfl)) rfl ⟨_, q9, rfl, ⟨s1, s2, s3, by show -1 ≤ u; omega, by show u ≤ 9223372036854775807; omega, by show (-1 : Int) ≤ 0; omega, by show (0 : Int) ≤ 9223372036854775807; omega⟩, by omega, hr9, b2⟩
    · have hy0' : ((y : Int) == 0) = false := beq_eq_false_iff_ne.2 (by omega)
      go_wp2_with fail
      refine kk.out _ _ ?_
      exact three_2 hp hlt hg0 _ _ _ _ _ _ _ _ _ _ _ _ _ _ _ _ _ _ _ _ _ _ _ _ _ _ _ _ _ _ _ _ _ _ _ _ _ _ _ _ _ _ _ _ _ _ _ _ _ _ O2 (I1.kept h2a.out.2)
set_option maxRecDepth 100000 in
set_option maxHeartbeats 4000000 in
theorem l3One_any {g0 g p : Nat} {w : World} {a1 a2 : Option Addr} {zs1 zs2 : List Int} {c1 c2 : Nat} (hR : Rd w g0 g p) (hp : p ≤ 1000000) (I1 : IntS w g a1 zs1) (I2 : IntS w g a2 zs2) :
    Calls Tryd.prog 97 #[.pointer (some ⟨g, 0, none⟩), .slice a1 zs1.length c1, .slice a2 zs2.length c2] w (OnePost g0 g (p + 8) w) := by
  have hlt := hR.lt
  have hg0 := hR.le
  go_enter Tryd.func97, Tryd.ntmps97
  refine wp_seq_k fun K hK => ?_
  have kk := hidP hK
  clear hK
  go_wp2_with fail
  refine kk.out _ _ ?_
  exact three_1 (by omega) hlt hg0 _ _ _ _ _ _ _ _ _ _ _ _ _ _ _ _ _ _ _ _ _ _ _ _ _ _ _ _ _ _ _ _ _ _ _ _ _ _ _ _ _ _ _ _ _ _ _ _ _ _ ⟨heap_alloc_new w _, ⟨p, by omega, hR.alloc _⟩, World.grownBy_alloc _ _ _⟩ (I1.alloc _) (I2.alloc _)
end Go.Proofs.YtkkcnkajffbnaaaDoor
