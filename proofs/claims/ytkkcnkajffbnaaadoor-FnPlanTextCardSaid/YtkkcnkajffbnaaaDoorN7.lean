/-
  A drawn region of l4Plan.
-/
import Derived.Test.YtkkcnkajffbnaaaDoorN6
import Derived.Deep.RegionHeld3
namespace Go.Proofs.YtkkcnkajffbnaaaDoor
open Go.RowKit
set_option linter.all false

theorem DrawnD.mk2 {a : List UInt8} {l v : Int} (ha : a.length ≤ 10 ∧ (32 : UInt8) ∉ a ∧ (44 : UInt8) ∉ a) (hl : -1 ≤ l ∧ l ≤ 9223372036854775807) (hv : -1 ≤ v ∧ v ≤ 9223372036854775807) : DrawnD ⟨a, l, v⟩ := ⟨ha.1, ha.2.1, ha.2.2, hl.1, hl.2, hv.1, hv.2⟩
theorem pick_ints {W : World} {g0 g p b : Nat} {zs : List Int} (hR : Rd W g0 g p) (hp : p ≤ 1000000000) (I : IntS W g (some ⟨b, 0, none⟩) zs) (hz : 0 < zs.length) :
    Calls Tryd.prog 45 #[.pointer (some ⟨g, 0, none⟩), .int .i64 zs.length] W fun e w' => ∃ (y : Nat) (u : Int), e = .returned (.int .i64 y) ∧ y < zs.length ∧ (0 ≤ u ∧ u ≤ 1000) ∧ Hid (RdOn W g0 g p w') ∧ Hid (∀ W', W.grownBy W' (some g) → W'.cell? ⟨b, y, none⟩ = some (.int .i64 u)) := by
  refine (pick_new hR hp (by have := I.2.1; omega)).mono ?_
  rintro e w' ⟨y, rfl, hy, h⟩
  have hy2 : y < zs.length := by omega
  refine ⟨y, zs[y], rfl, hy2, IntS.get I.1 hy2, h, fun W' k => ?_⟩
  obtain ⟨b', e, _, _, h3⟩ := (I.kept k).2.2 hz
  cases e
  exact h3 y hy2
theorem IntS.drew {W : World} {g : Nat} {a : Option Addr} {zs : List Int} (h : IntS W g a zs) : IntS W.drew g a zs := h.kept ⟨rfl, rfl, rfl, Nat.le_refl _, fun _ _ _ => rfl⟩
theorem RdOn.ofDrew {W w' : World} {g0 g p : Nat} (h : RdOn W.drew g0 g p w') : RdOn W g0 g p w' := ⟨h.1, ⟨h.2.os, h.2.tape, h.2.output, h.2.size, h.2.block⟩⟩

theorem IntS.cells {W : World} {g b : Nat} {zs : List Int} (h : IntS W g (some ⟨b, 0, none⟩) zs) : ∀ y, y < zs.length → W.cell? ⟨b, y, none⟩ = some (.int .i64 (zs.getD y 0)) := fun y hy => by
  obtain ⟨b', e, _, _, h3⟩ := h.2.2 (by omega)
  cases e
  rw [h3 y hy, List.getD, List.getElem?_eq_getElem hy]; rfl
def findR (n : Nat) : Code → Option Code
  | .region i ops b => if i = n then some (.region i ops b) else none
  | .seq a b => match findR n a with
    | some c => some c
    | none => findR n b
  | .cond _ a b => match findR n a with
    | some c => some c
    | none => findR n b
  | .block _ a => findR n a
  | .loop a => findR n a
  | _ => none

set_option maxRecDepth 100000 in
set_option maxHeartbeats 4000000 in
theorem plan_12 {c : Code} (hc : findR 12 (bdC Tryd.f78) = some c) {Q : Exit → Act → World → Prop} {w w' : World} {g0 g P k X q b1 b2 : Nat} {v : Value} {ds : List Dd} {d : Dd} {n : Int} {zs1 zs2 : List Int} {c1 c2 : Nat} (x4 x5 x6 x7 x8 x9 x10 x12 x13 x14 x15 x16 x17 x18 x19 x20 x21 x22 x23 x24 x25 x26 x27 x28 x29 x30 x31 x32 x33 x34 x35 x36 x37 x38 x39 x40 x41 x42 x43 x44 x45 x46 x47 x48 x49 x50 x51 x52 x53 x54 x55 x56 x57 x58 x59 x60 x61 x62 x63 x64 x65 x66 x67 x68 x69 x70 x71 x72 : Value)
    (D : DeedAt w g0 g P k X v ds d w') (hlt : g < w.heap.size) (hg0 : g0 ≤ g) (hq : q + 2 + 20 * k ≤ P) (hP : P ≤ 1000000) (R : Rd w' g0 g q) (I1 : IntS w' g (some ⟨b1, 0, none⟩) zs1) (I2 : IntS w' g (some ⟨b2, 0, none⟩) zs2) (h1 : 0 < zs1.length) (h2 : 0 < zs2.length)
    (hQ : ∀ (y43 y44 y45 y46 y47 y48 y49 y50 y51 y52 y53 y54 y55 y56 y57 : Value) (v1 v2 : Int) (W : World), DeedAt w g0 g P k X v ds ⟨[104, 97, 110, 100], v1, v2⟩ W → Q .normal ⟨#[.pointer (some ⟨g, 0, none⟩), .slice (some ⟨b1, 0, none⟩) zs1.length c1, .slice (some ⟨b2, 0, none⟩) zs2.length c2, .int .i64 n, x4, x5, x6, x7, x8, x9, x10, .pointer (some ⟨X, 0, none⟩), x12, x13, x14, x15, x16, x17, x18, x19, x20, x21, x22, x23, x24, x25, x26, x27, x28, x29, x30, x31, x32, x33, x34, x35, x36, x37, x38, x39, x40, x41, x42, y43, y44, y45, y46, y47, y48, y49, y50, y51, y52, y53, y54, y55, y56, y57, x58, x59, x60, x61, x62, x63, x64, x65, x66, x67, x68, x69, x70, x71, x72], []⟩ W) : c.wp Tryd.prog Q ⟨#[.pointer (some ⟨g, 0, none⟩), .slice (some ⟨b1, 0, none⟩) zs1.length c1, .slice (some ⟨b2, 0, none⟩) zs2.length c2, .int .i64 n, x4, x5, x6, x7, x8, x9, x10, .pointer (some ⟨X, 0, none⟩), x12, x13, x14, x15, x16, x17, x18, x19, x20, x21, x22, x23, x24, x25, x26, x27, x28, x29, x30, x31, x32, x33, x34, x35, x36, x37, x38, x39, x40, x41, x42, x43, x44, x45, x46, x47, x48, x49, x50, x51, x52, x53, x54, x55, x56, x57, x58, x59, x60, x61, x62, x63, x64, x65, x66, x67, x68, x69, x70, x71, x72], []⟩ w' := by
  have hc' : findR 12 (bdC Tryd.f78) = some c := hc
  simp only [findR, bdC, Tryd.f78] at hc'
  obtain rfl := Option.some.inj hc'.symm
  clear hc hc'
  have hl1 := I1.2.1
  have hz1 := I1.1
  have hz2 := I2.1
  have hl2 := I2.2.1
  have R1 := R.drew
  have I1' := I1.drew
  have I2' := I2.drew
  have qq := hidP hQ
  have J1 := I1
  have J2 := I2
  clear hQ I1 I2 I1' I2'
  have hB : ∀ W, w'.grownBy W (some g) → W.cell? ⟨X, 0, none⟩ = some (.string ⟨d.act.toArray⟩) ∧ W.cell? ⟨X, 1, none⟩ = some (.int .i64 d.line) ∧ W.cell? ⟨X, 2, none⟩ = some (.int .i64 d.word) ∧ W.frozen? ⟨X, 0, none⟩ = false ∧ W.frozen? ⟨X, 1, none⟩ = false ∧ W.frozen? ⟨X, 2, none⟩ = false := fun W k => by
    have hX := D.lx
    have hb := (k.block X (Array.getElem?_eq_some_iff.1 D.box).1 (by simp; omega)).trans D.box
    exact ⟨by rw [blk_cell hb]; rfl, by rw [blk_cell hb]; rfl, by rw [blk_cell hb]; rfl, blk_frozen hb, blk_frozen hb, blk_frozen hb⟩
  have hS : ∀ W, w'.grownBy W (some g) → (∀ y, y < zs1.length → W.cell? ⟨b1, y, none⟩ = some (.int .i64 (zs1.getD y 0))) ∧ (∀ y, y < zs2.length → W.cell? ⟨b2, y, none⟩ = some (.int .i64 (zs2.getD y 0))) ∧ W.cell? ⟨X, 0, none⟩ = some (.string ⟨d.act.toArray⟩) ∧ W.cell? ⟨X, 1, none⟩ = some (.int .i64 d.line) ∧ W.cell? ⟨X, 2, none⟩ = some (.int .i64 d.word) ∧ W.frozen? ⟨X, 0, none⟩ = false ∧ W.frozen? ⟨X, 1, none⟩ = false ∧ W.frozen? ⟨X, 2, none⟩ = false := fun W k => ⟨(J1.kept k).cells, (J2.kept k).cells, hB W k⟩
  have k0 := hS w'.drew ⟨rfl, rfl, rfl, Nat.le_refl _, fun _ _ _ => rfl⟩
  have pA : Hid (Calls Tryd.prog 45 #[.pointer (some ⟨g, 0, none⟩), .int .i64 zs1.length] w'.drew fun e w5 => ∃ y : Nat, e = .returned (.int .i64 y) ∧ y < zs1.length ∧ w'.grownBy w5 (some g) ∧ ((∀ y, y < zs1.length → w5.cell? ⟨b1, y, none⟩ = some (.int .i64 (zs1.getD y 0))) ∧ (∀ y, y < zs2.length → w5.cell? ⟨b2, y, none⟩ = some (.int .i64 (zs2.getD y 0))) ∧ w5.cell? ⟨X, 0, none⟩ = some (.string ⟨d.act.toArray⟩) ∧ w5.cell? ⟨X, 1, none⟩ = some (.int .i64 d.line) ∧ w5.cell? ⟨X, 2, none⟩ = some (.int .i64 d.word) ∧ w5.frozen? ⟨X, 0, none⟩ = false ∧ w5.frozen? ⟨X, 1, none⟩ = false ∧ w5.frozen? ⟨X, 2, none⟩ = false) ∧ Rd w5 g0 g (q + 1)) :=
    (pick_new R1 (by omega) (by omega)).mono fun e w5 ⟨y, h1', h2', h3⟩ => ⟨y, h1', by omega, (RdOn.ofDrew h3.out).2, hS _ (RdOn.ofDrew h3.out).2, h3.out.1⟩
  have pB : Hid (∀ w5, w'.grownBy w5 (some g) → Rd w5 g0 g (q + 1) → Calls Tryd.prog 45 #[.pointer (some ⟨g, 0, none⟩), .int .i64 zs2.length] w5 fun e w6 => ∃ y : Nat, e = .returned (.int .i64 y) ∧ y < zs2.length ∧ w'.grownBy w6 (some g) ∧ ((∀ y, y < zs1.length → w6.cell? ⟨b1, y, none⟩ = some (.int .i64 (zs1.getD y 0))) ∧ (∀ y, y < zs2.length → w6.cell? ⟨b2, y, none⟩ = some (.int .i64 (zs2.getD y 0))) ∧ w6.cell? ⟨X, 0, none⟩ = some (.string ⟨d.act.toArray⟩) ∧ w6.cell? ⟨X, 1, none⟩ = some (.int .i64 d.line) ∧ w6.cell? ⟨X, 2, none⟩ = some (.int .i64 d.word) ∧ w6.frozen? ⟨X, 0, none⟩ = false ∧ w6.frozen? ⟨X, 1, none⟩ = false ∧ w6.frozen? ⟨X, 2, none⟩ = false) ∧ Rd w6 g0 g (q + 1 + 1)) :=
    fun w5 k r => (pick_new r (by omega) (by omega)).mono fun e w6 ⟨y, h1', h2', h3⟩ => ⟨y, h1', by omega, k.trans h3.out.2, hS _ (k.trans h3.out.2), h3.out.1⟩
  clear hS hB J1 J2 R1
  have k0 := hidP k0
  refine wp_region_noPanic ?_
  go_region_with (first
    | (go_at_call 45; refine (pB.out _ g5 r5).mono ?_; rintro e w6 ⟨y2, rfl, hy2n, g6, kB, r6⟩; have hy2' : (y2 : Int) < (zs2.length : Int) := Int.ofNat_lt.2 hy2n; have cA6 := kB.1 y1 hy1n; have cB6 := kB.2.1 y2 hy2n; obtain ⟨f0, f1, f2, z0, z1, z2⟩ := kB.2.2)
    | (go_at_call 45; refine pA.out.mono ?_; rintro e w5 ⟨y1, rfl, hy1n, g5, kA, r5⟩; have hy1' : (y1 : Int) < (zs1.length : Int) := Int.ofNat_lt.2 hy1n; have cA5 := kA.1 y1 hy1n))
  all_goals
    have D6 := D.rdOn hlt g6 ⟨q + 1 + 1, by omega, r6⟩
    have b1' := IntS.get hz1 hy1n
    have b2' := IntS.get hz2 hy2n
    exact NoPanic.normal (qq.out _ _ _ _ _ _ _ _ _ _ _ _ _ _ _ zs1[y1] zs2[y2] _ (D6.put hg0 hlt ⟨[104, 97, 110, 100], zs1[y1], zs2[y2]⟩ (.mk2 (by decide) (by omega) (by omega))))
end Go.Proofs.YtkkcnkajffbnaaaDoor
