/-
  The law FnSumsAfter: RunKeeper, all ticks, no tick.
  The tasks cut: rows of rows of others.
  The law FnSumsAfter: the tasks cut, run again; the end; the whole walk.
-/
import Derived.Deep.AppendLies
import Derived.Test.YtihmcigoofhpmaaZbp
set_option linter.all false
namespace Go.Town.Kp
open Go Go.Conc Go.Conc.Lib Go.ConcR.Gen Go.RowKit Go.Town Go.Proofs
open Go.ConcN (upd upd_ne upd_same)
noncomputable def ops5b : Array Oper := match headC 6 body5 with | .region _ o _ => o | _ => #[]
theorem head_ops5b : headC 6 body5 = .region 8 ops5b false := by kernel_rfl
section
variable {C : Cfg} {b o Bd kb : Nat} {wl : World} {f t : Int} {J : List (List Int)} {tc : Nat} {ta : Option Addr} {g : Bool} {R1 R2 : List Int} {E : ByteArray} {A : Int} {q : List UInt8} {n : Int} {a : Option Addr} {bs : List Int} {c : Nat} {R : List Int} {a6 : Option Addr} {c6 : Nat} {a8 : Option Addr} {c8 : Nat} {gk : Bool}
set_option maxRecDepth 100000 in
set_option maxHeartbeats 2000000 in
theorem law5_e {z1 za zb zc zd ze zf zg zh zi zj zk zl zm zn zo zp zq zr zs zt zu zv zw zx zy zz zA zB zC zD zE zF zG zH zI zJ zK zL zM zN zO zP zQ zR zS zT zU zV zW zX zY zZ Z0 Z1 Z2 Z3 Z4 Z5 Z6 Z7 Z8 Z9 Za Zb Zc Zd Ze Zf Zg Zh Zi Zj Zk Zl Zm Zn Zo Zp Zq Zr Zs Zt Zu Zv Zw Zx Zy Zz ZA ZB ZC ZD ZE ZF ZG ZH ZI ZJ ZK ZL ZM ZN ZO ZP ZQ ZR ZS ZT ZU ZV ZW ZX ZY ZZ Y0 Y1 Y2 Y3 Y4 Y5 Y6 Y7 Y8 : Value} (hn : J.length ≤ 1048576) (hm : ∀ l ∈ J, l.length ≤ 1048576) (hBd : Bd < 2000000000) (hD : Kd q f t J gk R1 R2 E A) (hL : Lay C wl) (hs : BaseP q f t J ta kb wl)  (hcp : CapsIn kb wl ta J) (h6 : IntsAt wl a6 R)
    (next : ∀ (C' : Cfg) (b' o' k10 : Nat) (d1 d2 : Option Addr) (e1 e2 : Nat) (w : World) (z1 zc zd ze zf zg zh zi zj zk zl zm zn zo zp zq zr zs zt zu zv zw zx zy zz zA zB zC zD zE zF zG zH zI zJ zK zL zM zN zO zP zQ zR zS zT zU zV zW zX zY zZ Z0 Z1 Z2 Z3 Z4 Z5 Z6 Z7 Z8 Z9 Za Zb Zc Zd Ze Zf Zg Zh Zi Zj Zk Zl Zm Zn Zo Zp Zq Zr Zs Zt Zu Zv Zw Zx Zy Zz ZA ZB ZC ZD ZE ZF ZG ZH ZI ZJ ZK ZL ZM ZN ZO ZP ZQ ZR ZS ZT ZU ZV ZW ZX ZY ZZ Y0 Y1 Y2 Y3 Y4 Y5 Y6 Y7 Y8 : Value), Lay C' w → BaseP q f t J ta kb w → Reads w k10 [.slice d1 R1.length e1, .slice d2 R2.length e2, .string E, .int .i64 A] → IntsAt w d1 R1 → IntsAt w d2 R2 → k10 < w.heap.size → CapsIn kb w ta J → IntsAt w a6 R → Can Try.prog C' b' o' (fun v _ => v = .bool true) 0 (AloneB (Bd + 400)) w (G ((base 5).at ⟨#[.slice a bs.length c, z1, .bool false, .pointer (some ⟨kb, 0, none⟩), .slice ta J.length tc, .int .i64 n, .slice a6 R.length c6, .bool true, .slice a8 R.length c8, .bool true, .pointer (some ⟨k10, 0, none⟩), .bool gk, zc, zd, ze, zf, zg, zh, zi, zj, zk, zl, zm, zn, zo, zp, zq, zr, zs, zt, zu, zv, zw, zx, zy, zz, zA, zB, zC, zD, zE, zF, zG, zH, zI, zJ, zK, zL, zM, zN, zO, zP, zQ, zR, zS, zT, zU, zV, zW, zX, zY, zZ, Z0, Z1, Z2, Z3, Z4, Z5, Z6, Z7, Z8, Z9, Za, Zb, Zc, Zd, Ze, Zf, Zg, Zh, Zi, Zj, Zk, Zl, Zm, Zn, Zo, Zp, Zq, Zr, Zs, Zt, Zu, Zv, Zw, Zx, Zy, Zz, ZA, ZB, ZC, ZD, ZE, ZF, ZG, ZH, ZI, ZJ, ZK, ZL, ZM, ZN, ZO, ZP, ZQ, ZR, ZS, ZT, ZU, ZV, ZW, ZX, ZY, ZZ, Y0, Y1, Y2, Y3, Y4, Y5, Y6, Y7, Y8], []⟩ [.code (tailC 7 body5)]) [])) :
    Can Try.prog C b o (fun v _ => v = .bool true) 0 (AloneB Bd) wl (G ((base 5).at ⟨#[.slice a bs.length c, z1, .bool false, .pointer (some ⟨kb, 0, none⟩), .slice ta J.length tc, .int .i64 n, .slice a6 R.length c6, .bool true, .slice a8 R.length c8, .bool true, za, zb, zc, zd, ze, zf, zg, zh, zi, zj, zk, zl, zm, zn, zo, zp, zq, zr, zs, zt, zu, zv, zw, zx, zy, zz, zA, zB, zC, zD, zE, zF, zG, zH, zI, zJ, zK, zL, zM, zN, zO, zP, zQ, zR, zS, zT, zU, zV, zW, zX, zY, zZ, Z0, Z1, Z2, Z3, Z4, Z5, Z6, Z7, Z8, Z9, Za, Zb, Zc, Zd, Ze, Zf, Zg, Zh, Zi, Zj, Zk, Zl, Zm, Zn, Zo, Zp, Zq, Zr, Zs, Zt, Zu, Zv, Zw, Zx, Zy, Zz, ZA, ZB, ZC, ZD, ZE, ZF, ZG, ZH, ZI, ZJ, ZK, ZL, ZM, ZN, ZO, ZP, ZQ, ZR, ZS, ZT, ZU, ZV, ZW, ZX, ZY, ZZ, Y0, Y1, Y2, Y3, Y4, Y5, Y6, Y7, Y8], []⟩ [.code (tailC 6 body5)]) []) := by
  have hS := steady_aloneB Bd
  have e6 : tailC 6 body5 = .seq (headC 6 body5) (tailC 7 body5) := by kernel_rfl
  rw [e6]
  refine Can.ctl hS hL rfl (fun _ => stepG_seq) ?_
  rw [head_ops5b]
  generalize hK : [Item.code (tailC 7 body5)] = K₁
  simp only [ops5b, headC, body5, Try.f5, Option.getD_some]
  refine Can.ctl hS hL rfl (fun _ => stepG_region) ?_; simp only [List.size_toArray, List.length_cons, List.length_nil, Nat.reduceAdd, Nat.zero_add, List.range, List.range.loop]
  refine Can.op (ok := okS) hS hL rfl rfl (by k_ne) (by kernel_rfl) (fun T d => ⟨.agg #[.string ⟨q.toArray⟩, .int .i64 f, .int .i64 t], wl.re T d, ?_, fun _ => Can.re ?_ T d⟩)
  · have g0 : (wl.re T d).cell? ⟨kb, 0, none⟩ = _ := (hs.keeper 0 (by simp)).1
    have g1 : (wl.re T d).cell? ⟨kb, 1, none⟩ = _ := (hs.keeper 1 (by simp)).1
    have g2 : (wl.re T d).cell? ⟨kb, 2, none⟩ = _ := (hs.keeper 2 (by simp)).1
    simp only [List.getElem?_cons_zero, List.getElem?_cons_succ] at g0 g1 g2
    go_simp
  walk_nrm
  refine Can.op (ok := okS) hS hL rfl rfl (by k_ne) (by kernel_rfl) (fun T d => ⟨.slice ta J.length tc, wl.re T d, ?_, fun _ => Can.re ?_ T d⟩)
  · go_simp
  walk_nrm
  refine Can.ctl hS hL rfl (fun _ => st_enter' (vs := #[.agg #[.string ⟨q.toArray⟩, .int .i64 f, .int .i64 t], .slice ta J.length tc]) rfl rfl (by k_ne) rfl Try.func10 rfl rfl (by kernel_rfl)) ?_
  refine call10 (q := q) (J := J) hn hm hBd hL hs.rowsAt hD ?_
  intro C' b' o' d1 d2 e1 e2 w hL' K hI
  walk_nrm
  have hS' := steady_aloneB (Bd + 400)
  refine Can.op (ok := okS) hS' hL' rfl rfl (by k_ne) (by kernel_rfl) (fun T d => ⟨.tuple #[.agg #[.slice d1 R1.length e1, .slice d2 R2.length e2, .string E, .int .i64 A], .bool gk], w.re T d, ?_, fun _ => Can.re ?_ T d⟩)
  · go_simp
  walk_nrm
  refine Can.op (ok := okS) hS' hL' rfl rfl (by k_ne) (by kernel_rfl) (fun T d => ⟨.agg #[.slice d1 R1.length e1, .slice d2 R2.length e2, .string E, .int .i64 A], w.re T d, ?_, fun _ => Can.re ?_ T d⟩)
  · go_simp
  walk_nrm
  refine Can.op (ok := okS) hS' hL' rfl rfl (by k_ne) (by kernel_rfl) (fun T d => ⟨.bool gk, w.re T d, ?_, fun _ => Can.re ?_ T d⟩)
  · go_simp
  walk_nrm
  refine Can.op (ok := okS) hS' hL' rfl rfl (by k_ne) (by kernel_rfl) (fun T d => ⟨.pointer (some ⟨w.heap.size, 0, none⟩), (w.re T d).alloc (.cells #[.slice none 0 0, .slice none 0 0, .string ⟨#[]⟩, .int .i64 0] 30), ?_, fun hc => ?_⟩)
  · have hz : (w.re T d).heap.size = w.heap.size := rfl
    go_simp
  walk_nrm
  obtain ⟨w₂, hw₂⟩ : ∃ x, x = (w.re T d).alloc (.cells #[.slice none 0 0, .slice none 0 0, .string ⟨#[]⟩, .int .i64 0] 30) := ⟨_, rfl⟩
  rw [← hw₂] at hc ⊢
  have hL₂ : Lay C' w₂ := ⟨hc, hL'.no⟩
  have hr₂ : Reads w₂ w.heap.size [.slice none 0 0, .slice none 0 0, .string ⟨#[]⟩, .int .i64 0] := reads_block (t := 30) (by rw [hw₂]; exact alloc_self (w.re T d) _)
  have K₂ : Kin w.heap.size w w₂ := by rw [hw₂]; exact ((Grown.refl w).re T d |>.alloc _).kin (Nat.le_refl _)
  have z₂ : w₂.heap.size = w.heap.size + 1 := by rw [hw₂, World.size_alloc]; rfl
  clear hw₂ hc
  obtain ⟨⟨v0, v1, v2, v3, c0, c1', c2', c3⟩, hf⟩ := set4_op hr₂ rfl
  refine Can.opN (ok := okS) hS' hL₂ rfl rfl (by k_ne) (by kernel_rfl) (fun T d => ⟨set4 (w₂.re T d) w.heap.size (.slice d1 R1.length e1) (.slice d2 R2.length e2) (.string E) (.int .i64 A), ?_, fun hc => ?_⟩)
  · have c0 : (w₂.re T d).cell? ⟨w.heap.size, 0, none⟩ = some v0 := c0
    have c1 : (w₂.re T d).cell? ⟨w.heap.size, 1, none⟩ = some v1 := c1'
    have c2 : (w₂.re T d).cell? ⟨w.heap.size, 2, none⟩ = some v2 := c2'
    have c3 : (w₂.re T d).cell? ⟨w.heap.size, 3, none⟩ = some v3 := c3
    have f0 : (w₂.re T d).frozen? ⟨w.heap.size, 0, none⟩ = false := hf 0 (by omega)
    have f1 : (w₂.re T d).frozen? ⟨w.heap.size, 1, none⟩ = false := hf 1 (by omega)
    have f2 : (w₂.re T d).frozen? ⟨w.heap.size, 2, none⟩ = false := hf 2 (by omega)
    have f3 : (w₂.re T d).frozen? ⟨w.heap.size, 3, none⟩ = false := hf 3 (by omega)
    generalize w₂.re T d = W at *
    unfold set4
    go_simp
  walk_nrm
  obtain ⟨p1, p2, p3⟩ := put4 (B := w.heap.size) hr₂ rfl (Nat.le_refl _) (.slice d1 R1.length e1) (.slice d2 R2.length e2) (.string E) (.int .i64 A) T d
  generalize set4 (w₂.re T d) w.heap.size (.slice d1 R1.length e1) (.slice d2 R2.length e2) (.string E) (.int .i64 A) = w₄ at *
  have hL₄ : Lay C' w₄ := ⟨hc, hL'.no⟩
  have K₄ := K₂.trans p1
  clear c0 c1' c2' c3 hf hc
  refine Can.op (ok := okS) hS' hL₄ rfl rfl (by k_ne) (by kernel_rfl) (fun T d => ⟨.bool gk, w₄.re T d, ?_, fun _ => Can.re ?_ T d⟩)
  · go_simp
  walk_nrm
  refine Can.ctl hS' hL₄ rfl (fun _ => stepG_region_end) ?_
  subst hK
  have K9 : Kin wl.heap.size wl w₄ := K.trans (K₄.le K.size)
  have hI4 := hI.kin K₄
  exact next C' b' o' w.heap.size d1 d2 e1 e2 w₄ _ _ _ _ _ _ _ _ _ _ _ _ _ _ _ _ _ _ _ _ _ _ _ _ _ _ _ _ _ _ _ _ _ _ _ _ _ _ _ _ _ _ _ _ _ _ _ _ _ _ _ _ _ _ _ _ _ _ _ _ _ _ _ _ _ _ _ _ _ _ _ _ _ _ _ _ _ _ _ _ _ _ _ _ _ _ _ _ _ _ _ _ _ _ _ _ _ _ _ _ _ _ _ _ _ _ _ _ _ _ _ _ _ _ _ _ _ _ _ _ _ _ hL₄ (hs.kin (K9.le hs.low)) p2 hI4.i1 hI4.i2 (by omega) (hcp.kept (K9.le (Nat.le_of_lt hs.low)).cells (Nat.le_refl _)) (h6.kept K9.cells K9.size)
end
noncomputable def ops5c : Array Oper := match headC 7 body5 with | .region _ o _ => o | _ => #[]
theorem head_ops5c : headC 7 body5 = .region 9 ops5c false := by kernel_rfl
section
variable {C : Cfg} {b o Bd kb : Nat} {wl : World} {f t : Int} {J : List (List Int)} {tc : Nat} {ta : Option Addr} {g : Bool} {R1 R2 : List Int} {E : ByteArray} {A : Int} {q : List UInt8} {n : Int} {a : Option Addr} {bs : List Int} {c : Nat} {R : List Int} {a6 : Option Addr} {c6 : Nat} {a8 : Option Addr} {c8 : Nat} {gk : Bool} {k10 : Nat} {d1 d2 : Option Addr} {e1 e2 : Nat} {gl : Bool} {R20 : List Int}
set_option maxRecDepth 100000 in
set_option maxHeartbeats 2000000 in
theorem law5_f {z1 zc zd ze zf zg zh zi zj zk zl zm zn zo zp zq zr zs zt zu zv zw zx zy zz zA zB zC zD zE zF zG zH zI zJ zK zL zM zN zO zP zQ zR zS zT zU zV zW zX zY zZ Z0 Z1 Z2 Z3 Z4 Z5 Z6 Z7 Z8 Z9 Za Zb Zc Zd Ze Zf Zg Zh Zi Zj Zk Zl Zm Zn Zo Zp Zq Zr Zs Zt Zu Zv Zw Zx Zy Zz ZA ZB ZC ZD ZE ZF ZG ZH ZI ZJ ZK ZL ZM ZN ZO ZP ZQ ZR ZS ZT ZU ZV ZW ZX ZY ZZ Y0 Y1 Y2 Y3 Y4 Y5 Y6 Y7 Y8 : Value} (hn : J.length ≤ 1048576) (hm : ∀ l ∈ J, l.length ≤ 1048576) (hBd : Bd < 2000000000) (hD : Sd q f t 20 J gl R20) (hL : Lay C wl) (hs : BaseP q f t J ta kb wl)  (hcp : CapsIn kb wl ta J) (h6 : IntsAt wl a6 R) (hr : Reads wl k10 [.slice d1 R1.length e1, .slice d2 R2.length e2, .string E, .int .i64 A]) (hd1 : IntsAt wl d1 R1) (hz : k10 < wl.heap.size)
    (next : ∀ (C' : Cfg) (b' o' : Nat) (a12 : Option Addr) (c12 : Nat) (w : World) (z1 ze zf zg zh zi zj zk zl zm zn zo zp zq zr zs zt zu zv zw zx zy zz zA zB zC zD zE zF zG zH zI zJ zK zL zM zN zO zP zQ zR zS zT zU zV zW zX zY zZ Z0 Z1 Z2 Z3 Z4 Z5 Z6 Z7 Z8 Z9 Za Zb Zc Zd Ze Zf Zg Zh Zi Zj Zk Zl Zm Zn Zo Zp Zq Zr Zs Zt Zu Zv Zw Zx Zy Zz ZA ZB ZC ZD ZE ZF ZG ZH ZI ZJ ZK ZL ZM ZN ZO ZP ZQ ZR ZS ZT ZU ZV ZW ZX ZY ZZ Y0 Y1 Y2 Y3 Y4 Y5 Y6 Y7 Y8 : Value), Lay C' w → BaseP q f t J ta kb w → IntsAt w a12 R20 → CapsIn kb w ta J → IntsAt w a6 R → Reads w k10 [.slice d1 R1.length e1, .slice d2 R2.length e2, .string E, .int .i64 A] → IntsAt w d1 R1 → k10 < w.heap.size → Can Try.prog C' b' o' (fun v _ => v = .bool true) 0 (AloneB (Bd + 400)) w (G ((base 5).at ⟨#[.slice a bs.length c, z1, .bool false, .pointer (some ⟨kb, 0, none⟩), .slice ta J.length tc, .int .i64 n, .slice a6 R.length c6, .bool true, .slice a8 R.length c8, .bool true, .pointer (some ⟨k10, 0, none⟩), .bool gk, .slice a12 R20.length c12, .bool gl, ze, zf, zg, zh, zi, zj, zk, zl, zm, zn, zo, zp, zq, zr, zs, zt, zu, zv, zw, zx, zy, zz, zA, zB, zC, zD, zE, zF, zG, zH, zI, zJ, zK, zL, zM, zN, zO, zP, zQ, zR, zS, zT, zU, zV, zW, zX, zY, zZ, Z0, Z1, Z2, Z3, Z4, Z5, Z6, Z7, Z8, Z9, Za, Zb, Zc, Zd, Ze, Zf, Zg, Zh, Zi, Zj, Zk, Zl, Zm, Zn, Zo, Zp, Zq, Zr, Zs, Zt, Zu, Zv, Zw, Zx, Zy, Zz, ZA, ZB, ZC, ZD, ZE, ZF, ZG, ZH, ZI, ZJ, ZK, ZL, ZM, ZN, ZO, ZP, ZQ, ZR, ZS, ZT, ZU, ZV, ZW, ZX, ZY, ZZ, Y0, Y1, Y2, Y3, Y4, Y5, Y6, Y7, Y8], []⟩ [.code (tailC 8 body5)]) [])) :
    Can Try.prog C b o (fun v _ => v = .bool true) 0 (AloneB Bd) wl (G ((base 5).at ⟨#[.slice a bs.length c, z1, .bool false, .pointer (some ⟨kb, 0, none⟩), .slice ta J.length tc, .int .i64 n, .slice a6 R.length c6, .bool true, .slice a8 R.length c8, .bool true, .pointer (some ⟨k10, 0, none⟩), .bool gk, zc, zd, ze, zf, zg, zh, zi, zj, zk, zl, zm, zn, zo, zp, zq, zr, zs, zt, zu, zv, zw, zx, zy, zz, zA, zB, zC, zD, zE, zF, zG, zH, zI, zJ, zK, zL, zM, zN, zO, zP, zQ, zR, zS, zT, zU, zV, zW, zX, zY, zZ, Z0, Z1, Z2, Z3, Z4, Z5, Z6, Z7, Z8, Z9, Za, Zb, Zc, Zd, Ze, Zf, Zg, Zh, Zi, Zj, Zk, Zl, Zm, Zn, Zo, Zp, Zq, Zr, Zs, Zt, Zu, Zv, Zw, Zx, Zy, Zz, ZA, ZB, ZC, ZD, ZE, ZF, ZG, ZH, ZI, ZJ, ZK, ZL, ZM, ZN, ZO, ZP, ZQ, ZR, ZS, ZT, ZU, ZV, ZW, ZX, ZY, ZZ, Y0, Y1, Y2, Y3, Y4, Y5, Y6, Y7, Y8], []⟩ [.code (tailC 7 body5)]) []) := by
  have hS := steady_aloneB Bd
  have e7 : tailC 7 body5 = .seq (headC 7 body5) (tailC 8 body5) := by kernel_rfl
  rw [e7]
  refine Can.ctl hS hL rfl (fun _ => stepG_seq) ?_
  rw [head_ops5c]
  generalize hK : [Item.code (tailC 8 body5)] = K₁
  simp only [ops5c, headC, body5, Try.f5, Option.getD_some]
  refine Can.ctl hS hL rfl (fun _ => stepG_region) ?_; simp only [List.size_toArray, List.length_cons, List.length_nil, Nat.reduceAdd, Nat.zero_add, List.range, List.range.loop]
  refine Can.op (ok := okS) hS hL rfl rfl (by k_ne) (by kernel_rfl) (fun T d => ⟨.agg #[.string ⟨q.toArray⟩, .int .i64 f, .int .i64 t], wl.re T d, ?_, fun _ => Can.re ?_ T d⟩)
  · have g0 : (wl.re T d).cell? ⟨kb, 0, none⟩ = _ := (hs.keeper 0 (by simp)).1
    have g1 : (wl.re T d).cell? ⟨kb, 1, none⟩ = _ := (hs.keeper 1 (by simp)).1
    have g2 : (wl.re T d).cell? ⟨kb, 2, none⟩ = _ := (hs.keeper 2 (by simp)).1
    simp only [List.getElem?_cons_zero, List.getElem?_cons_succ] at g0 g1 g2
    go_simp
  walk_nrm
  refine Can.op (ok := okS) hS hL rfl rfl (by k_ne) (by kernel_rfl) (fun T d => ⟨.slice ta J.length tc, wl.re T d, ?_, fun _ => Can.re ?_ T d⟩)
  · go_simp
  walk_nrm
  refine Can.ctl hS hL rfl (fun _ => st_enter' (vs := #[.agg #[.string ⟨q.toArray⟩, .int .i64 f, .int .i64 t], .slice ta J.length tc, .int .i64 20]) rfl rfl (by k_ne) rfl Try.func14 rfl rfl (by kernel_rfl)) ?_
  refine call14s (q := q) hn hm hBd hL hs.rowsAt hD ?_
  intro C' b' o' a12 c12 w hL' K9 hI
  walk_nrm
  have hS' := steady_aloneB (Bd + 400)
  refine Can.op (ok := okS) hS' hL' rfl rfl (by k_ne) (by kernel_rfl) (fun T d => ⟨.tuple #[.slice a12 R20.length c12, .bool gl], w.re T d, ?_, fun _ => Can.re ?_ T d⟩)
  · go_simp
  walk_nrm
  refine Can.op (ok := okS) hS' hL' rfl rfl (by k_ne) (by kernel_rfl) (fun T d => ⟨.slice a12 R20.length c12, w.re T d, ?_, fun _ => Can.re ?_ T d⟩)
  · go_simp
  walk_nrm
  refine Can.op (ok := okS) hS' hL' rfl rfl (by k_ne) (by kernel_rfl) (fun T d => ⟨.bool gl, w.re T d, ?_, fun _ => Can.re ?_ T d⟩)
  · go_simp
  walk_nrm
  refine Can.op (ok := okS) hS' hL' rfl rfl (by k_ne) (by kernel_rfl) (fun T d => ⟨.slice a12 R20.length c12, w.re T d, ?_, fun _ => Can.re ?_ T d⟩)
  · go_simp
  walk_nrm
  refine Can.op (ok := okS) hS' hL' rfl rfl (by k_ne) (by kernel_rfl) (fun T d => ⟨.bool gl, w.re T d, ?_, fun _ => Can.re ?_ T d⟩)
  · go_simp
  walk_nrm
  refine Can.ctl hS' hL' rfl (fun _ => stepG_region_end) ?_
  subst hK
  exact next C' b' o' a12 c12 w _ _ _ _ _ _ _ _ _ _ _ _ _ _ _ _ _ _ _ _ _ _ _ _ _ _ _ _ _ _ _ _ _ _ _ _ _ _ _ _ _ _ _ _ _ _ _ _ _ _ _ _ _ _ _ _ _ _ _ _ _ _ _ _ _ _ _ _ _ _ _ _ _ _ _ _ _ _ _ _ _ _ _ _ _ _ _ _ _ _ _ _ _ _ _ _ _ _ _ _ _ _ _ _ _ _ _ _ _ _ _ _ _ _ _ _ _ _ _ _ hL' (hs.kin (K9.le hs.low)) hI (hcp.kept (K9.le (Nat.le_of_lt hs.low)).cells (Nat.le_refl _)) (h6.kept K9.cells K9.size) (hr.kin K9 hz) (hd1.kept K9.cells K9.size) (Nat.lt_of_lt_of_le hz K9.size)
end
noncomputable def ops5d : Array Oper := match headC 8 body5 with | .region _ o _ => o | _ => #[]
theorem head_ops5d : headC 8 body5 = .region 10 ops5d false := by kernel_rfl
section
variable {C : Cfg} {b o Bd kb : Nat} {wl : World} {f t : Int} {J : List (List Int)} {tc : Nat} {ta : Option Addr} {g : Bool} {R1 R2 : List Int} {E : ByteArray} {A : Int} {q : List UInt8} {n : Int} {a : Option Addr} {bs : List Int} {c : Nat} {R : List Int} {a6 : Option Addr} {c6 : Nat} {a8 : Option Addr} {c8 : Nat} {gk : Bool} {k10 : Nat} {d1 d2 : Option Addr} {e1 e2 : Nat} {gl : Bool} {R20 : List Int} {a12 : Option Addr} {c12 : Nat} {gf : Bool} {R0 : List Int}
set_option maxRecDepth 100000 in
set_option maxHeartbeats 2000000 in
theorem law5_g {z1 ze zf zg zh zi zj zk zl zm zn zo zp zq zr zs zt zu zv zw zx zy zz zA zB zC zD zE zF zG zH zI zJ zK zL zM zN zO zP zQ zR zS zT zU zV zW zX zY zZ Z0 Z1 Z2 Z3 Z4 Z5 Z6 Z7 Z8 Z9 Za Zb Zc Zd Ze Zf Zg Zh Zi Zj Zk Zl Zm Zn Zo Zp Zq Zr Zs Zt Zu Zv Zw Zx Zy Zz ZA ZB ZC ZD ZE ZF ZG ZH ZI ZJ ZK ZL ZM ZN ZO ZP ZQ ZR ZS ZT ZU ZV ZW ZX ZY ZZ Y0 Y1 Y2 Y3 Y4 Y5 Y6 Y7 Y8 : Value} (hn : J.length ≤ 1048576) (hm : ∀ l ∈ J, l.length ≤ 1048576) (hBd : Bd < 2000000000) (hD : Sd q f t 0 J gf R0) (hL : Lay C wl) (hs : BaseP q f t J ta kb wl)  (hcp : CapsIn kb wl ta J) (h6 : IntsAt wl a6 R) (hr : Reads wl k10 [.slice d1 R1.length e1, .slice d2 R2.length e2, .string E, .int .i64 A]) (hd1 : IntsAt wl d1 R1) (hz : k10 < wl.heap.size) (h12 : IntsAt wl a12 R20)
    (next : ∀ (C' : Cfg) (b' o' : Nat) (a14 : Option Addr) (c14 : Nat) (w : World) (z1 zg zh zi zj zk zl zm zn zo zp zq zr zs zt zu zv zw zx zy zz zA zB zC zD zE zF zG zH zI zJ zK zL zM zN zO zP zQ zR zS zT zU zV zW zX zY zZ Z0 Z1 Z2 Z3 Z4 Z5 Z6 Z7 Z8 Z9 Za Zb Zc Zd Ze Zf Zg Zh Zi Zj Zk Zl Zm Zn Zo Zp Zq Zr Zs Zt Zu Zv Zw Zx Zy Zz ZA ZB ZC ZD ZE ZF ZG ZH ZI ZJ ZK ZL ZM ZN ZO ZP ZQ ZR ZS ZT ZU ZV ZW ZX ZY ZZ Y0 Y1 Y2 Y3 Y4 Y5 Y6 Y7 Y8 : Value), Lay C' w → BaseP q f t J ta kb w → IntsAt w a14 R0 → CapsIn kb w ta J → IntsAt w a6 R → Reads w k10 [.slice d1 R1.length e1, .slice d2 R2.length e2, .string E, .int .i64 A] → IntsAt w d1 R1 → k10 < w.heap.size → IntsAt w a12 R20 → Can Try.prog C' b' o' (fun v _ => v = .bool true) 0 (AloneB (Bd + 400)) w (G ((base 5).at ⟨#[.slice a bs.length c, z1, .bool false, .pointer (some ⟨kb, 0, none⟩), .slice ta J.length tc, .int .i64 n, .slice a6 R.length c6, .bool true, .slice a8 R.length c8, .bool true, .pointer (some ⟨k10, 0, none⟩), .bool gk, .slice a12 R20.length c12, .bool gl, .slice a14 R0.length c14, .bool gf, zg, zh, zi, zj, zk, zl, zm, zn, zo, zp, zq, zr, zs, zt, zu, zv, zw, zx, zy, zz, zA, zB, zC, zD, zE, zF, zG, zH, zI, zJ, zK, zL, zM, zN, zO, zP, zQ, zR, zS, zT, zU, zV, zW, zX, zY, zZ, Z0, Z1, Z2, Z3, Z4, Z5, Z6, Z7, Z8, Z9, Za, Zb, Zc, Zd, Ze, Zf, Zg, Zh, Zi, Zj, Zk, Zl, Zm, Zn, Zo, Zp, Zq, Zr, Zs, Zt, Zu, Zv, Zw, Zx, Zy, Zz, ZA, ZB, ZC, ZD, ZE, ZF, ZG, ZH, ZI, ZJ, ZK, ZL, ZM, ZN, ZO, ZP, ZQ, ZR, ZS, ZT, ZU, ZV, ZW, ZX, ZY, ZZ, Y0, Y1, Y2, Y3, Y4, Y5, Y6, Y7, Y8], []⟩ [.code (tailC 9 body5)]) [])) :
    Can Try.prog C b o (fun v _ => v = .bool true) 0 (AloneB Bd) wl (G ((base 5).at ⟨#[.slice a bs.length c, z1, .bool false, .pointer (some ⟨kb, 0, none⟩), .slice ta J.length tc, .int .i64 n, .slice a6 R.length c6, .bool true, .slice a8 R.length c8, .bool true, .pointer (some ⟨k10, 0, none⟩), .bool gk, .slice a12 R20.length c12, .bool gl, ze, zf, zg, zh, zi, zj, zk, zl, zm, zn, zo, zp, zq, zr, zs, zt, zu, zv, zw, zx, zy, zz, zA, zB, zC, zD, zE, zF, zG, zH, zI, zJ, zK, zL, zM, zN, zO, zP, zQ, zR, zS, zT, zU, zV, zW, zX, zY, zZ, Z0, Z1, Z2, Z3, Z4, Z5, Z6, Z7, Z8, Z9, Za, Zb, Zc, Zd, Ze, Zf, Zg, Zh, Zi, Zj, Zk, Zl, Zm, Zn, Zo, Zp, Zq, Zr, Zs, Zt, Zu, Zv, Zw, Zx, Zy, Zz, ZA, ZB, ZC, ZD, ZE, ZF, ZG, ZH, ZI, ZJ, ZK, ZL, ZM, ZN, ZO, ZP, ZQ, ZR, ZS, ZT, ZU, ZV, ZW, ZX, ZY, ZZ, Y0, Y1, Y2, Y3, Y4, Y5, Y6, Y7, Y8], []⟩ [.code (tailC 8 body5)]) []) := by
  have hS := steady_aloneB Bd
  have e8 : tailC 8 body5 = .seq (headC 8 body5) (tailC 9 body5) := by kernel_rfl
  rw [e8]
  refine Can.ctl hS hL rfl (fun _ => stepG_seq) ?_
  rw [head_ops5d]
  generalize hK : [Item.code (tailC 9 body5)] = K₁
  simp only [ops5d, headC, body5, Try.f5, Option.getD_some]
  refine Can.ctl hS hL rfl (fun _ => stepG_region) ?_; simp only [List.size_toArray, List.length_cons, List.length_nil, Nat.reduceAdd, Nat.zero_add, List.range, List.range.loop]
  refine Can.op (ok := okS) hS hL rfl rfl (by k_ne) (by kernel_rfl) (fun T d => ⟨.agg #[.string ⟨q.toArray⟩, .int .i64 f, .int .i64 t], wl.re T d, ?_, fun _ => Can.re ?_ T d⟩)
  · have g0 : (wl.re T d).cell? ⟨kb, 0, none⟩ = _ := (hs.keeper 0 (by simp)).1
    have g1 : (wl.re T d).cell? ⟨kb, 1, none⟩ = _ := (hs.keeper 1 (by simp)).1
    have g2 : (wl.re T d).cell? ⟨kb, 2, none⟩ = _ := (hs.keeper 2 (by simp)).1
    simp only [List.getElem?_cons_zero, List.getElem?_cons_succ] at g0 g1 g2
    go_simp
  walk_nrm
  refine Can.op (ok := okS) hS hL rfl rfl (by k_ne) (by kernel_rfl) (fun T d => ⟨.slice ta J.length tc, wl.re T d, ?_, fun _ => Can.re ?_ T d⟩)
  · go_simp
  walk_nrm
  refine Can.ctl hS hL rfl (fun _ => st_enter' (vs := #[.agg #[.string ⟨q.toArray⟩, .int .i64 f, .int .i64 t], .slice ta J.length tc, .int .i64 0]) rfl rfl (by k_ne) rfl Try.func14 rfl rfl (by kernel_rfl)) ?_
  refine call14s (q := q) hn hm hBd hL hs.rowsAt hD ?_
  intro C' b' o' a14 c14 w hL' K9 hI
  walk_nrm
  have hS' := steady_aloneB (Bd + 400)
  refine Can.op (ok := okS) hS' hL' rfl rfl (by k_ne) (by kernel_rfl) (fun T d => ⟨.tuple #[.slice a14 R0.length c14, .bool gf], w.re T d, ?_, fun _ => Can.re ?_ T d⟩)
  · go_simp
  walk_nrm
  refine Can.op (ok := okS) hS' hL' rfl rfl (by k_ne) (by kernel_rfl) (fun T d => ⟨.slice a14 R0.length c14, w.re T d, ?_, fun _ => Can.re ?_ T d⟩)
  · go_simp
  walk_nrm
  refine Can.op (ok := okS) hS' hL' rfl rfl (by k_ne) (by kernel_rfl) (fun T d => ⟨.bool gf, w.re T d, ?_, fun _ => Can.re ?_ T d⟩)
  · go_simp
  walk_nrm
  refine Can.op (ok := okS) hS' hL' rfl rfl (by k_ne) (by kernel_rfl) (fun T d => ⟨.slice a14 R0.length c14, w.re T d, ?_, fun _ => Can.re ?_ T d⟩)
  · go_simp
  walk_nrm
  refine Can.op (ok := okS) hS' hL' rfl rfl (by k_ne) (by kernel_rfl) (fun T d => ⟨.bool gf, w.re T d, ?_, fun _ => Can.re ?_ T d⟩)
  · go_simp
  walk_nrm
  refine Can.ctl hS' hL' rfl (fun _ => stepG_region_end) ?_
  subst hK
  exact next C' b' o' a14 c14 w _ _ _ _ _ _ _ _ _ _ _ _ _ _ _ _ _ _ _ _ _ _ _ _ _ _ _ _ _ _ _ _ _ _ _ _ _ _ _ _ _ _ _ _ _ _ _ _ _ _ _ _ _ _ _ _ _ _ _ _ _ _ _ _ _ _ _ _ _ _ _ _ _ _ _ _ _ _ _ _ _ _ _ _ _ _ _ _ _ _ _ _ _ _ _ _ _ _ _ _ _ _ _ _ _ _ _ _ _ _ _ _ _ _ _ _ _ _ hL' (hs.kin (K9.le hs.low)) hI (hcp.kept (K9.le (Nat.le_of_lt hs.low)).cells (Nat.le_refl _)) (h6.kept K9.cells K9.size) (hr.kin K9 hz) (hd1.kept K9.cells K9.size) (Nat.lt_of_lt_of_le hz K9.size) (h12.kept K9.cells K9.size)
end
end Go.Town.Kp
namespace Go.Town.Kp
open Go Go.Conc Go.Conc.Lib Go.ConcR.Gen Go.RowKit Go.Town Go.Proofs
open Go.ConcN (upd upd_ne upd_same)
def CutR (w0 : World) (base m : Nat) (J : List (List Int)) (k : Nat) (v : Value) (wr : World) : Prop :=
  ∃ vs, wr.ownsRow base 28 1 v k vs ∧ (∀ i (h : i < J.length), i < k → ∃ a c, vs[i]? = some (.slice a (J[i].take m).length c) ∧ IntsIn base wr a (J[i].take m)) ∧ Below base w0 wr ∧ base ≤ wr.heap.size
theorem ints_take {B : Nat} {w : World} {a : Option Addr} {l : List Int} (h : IntsIn B w a l) (m : Nat) : IntsIn B w a (l.take m) := by
  rcases h with rfl | ⟨b, off, rfl, hb, hc⟩
  · exact .inl (by simp)
  · refine .inr ⟨b, off, rfl, hb, fun i hi => ?_⟩
    simp only [List.length_take] at hi
    rw [hc i (by omega)]
    simp [List.getD, List.getElem?_take_of_lt (show i < m by omega)]
theorem CutR.push {w0 wr wr' : World} {base m k : Nat} {J : List (List Int)} {v' : Value} {vs : List Value} {a : Option Addr} {c mm : Nat}
    (hrows : ∀ i (h : i < J.length), i < k → ∃ a c, vs[i]? = some (.slice a (J[i].take m).length c) ∧ IntsIn base wr a (J[i].take m)) (hl : vs.length = k) (hk : k < J.length) (hmm : mm = (J[k].take m).length)
    (hown : wr'.ownsRow base 28 1 v' (k + 1) (vs ++ [.slice a mm c])) (hI : IntsIn base wr a J[k]) (hb : Below base wr wr') (h0 : Below base w0 wr) (hz : base ≤ wr.heap.size) : CutR w0 base m J (k + 1) v' wr' := by
  have up : ∀ {a : Option Addr} {l : List Int}, IntsIn base wr a l → IntsIn base wr' a l := fun h => h.kept (fun x j v hx hv => (hb.cell (p := ⟨x, j, none⟩) hx).trans hv) (Nat.le_refl _)
  refine ⟨_, hown, fun i hi hik => ?_, h0.trans hb, Nat.le_trans hz hb.size⟩
  by_cases e : i < k
  · obtain ⟨a', c', h1, h2⟩ := hrows i hi e
    exact ⟨a', c', by rw [List.getElem?_append_left (by omega)]; exact h1, up h2⟩
  · obtain rfl : i = k := by omega
    exact ⟨a, c, by rw [List.getElem?_append_right (by omega), hl, Nat.sub_self, hmm]; rfl, up (ints_take hI m)⟩
theorem CutR.done {w0 wr : World} {base m : Nat} {J : List (List Int)} {v : Value} (h : CutR w0 base m J J.length v wr) : ∃ tb cc, v = .slice tb (cutJ m J).length cc ∧ RowsAt wr tb (cutJ m J) := by
  obtain ⟨vs, hown, hrows, hb, hz⟩ := h
  obtain ⟨tb, cc, rfl⟩ := own_slice hown
  refine ⟨tb, cc, by rw [cutJ_length], ?_⟩
  rcases hown.2 with hv | ⟨g, cap, cur, e, hbg, hg, _, _, _, htake⟩
  · exact .inl (by have := hv.2; simp [cutJ, List.length_eq_zero_iff.1 this])
  · simp only [Value.slice.injEq] at e
    obtain ⟨rfl, _, rfl⟩ := e
    refine .inr ⟨g, 0, rfl, (Array.getElem?_eq_some_iff.1 hg).1, fun i hi => ?_⟩
    rw [cutJ_length] at hi
    obtain ⟨a, c, h1, h2⟩ := hrows i hi hi
    have e1 : (cutJ m J).getD i [] = J[i].take m := by rw [cutJ_getD]; simp [List.getD, hi]
    rw [e1]
    refine ⟨a, c, ?_, h2.kept (fun _ _ _ _ hv => hv) hz⟩
    rw [Nat.zero_add, blk_cell hg, ← Array.getElem?_toList, ← h1, ← htake, List.getElem?_take_of_lt (by omega)]
end Go.Town.Kp
namespace Go.Town.Kp
open Go Go.Conc Go.Conc.Lib Go.ConcR.Gen Go.RowKit Go.Town Go.Proofs
open Go.ConcN (upd upd_ne upd_same)
section
variable {C : Cfg} {b o Bd kb : Nat} {wl : World} {f t : Int} {J : List (List Int)} {tc : Nat} {ta : Option Addr} {g : Bool} {R1 R2 : List Int} {E : ByteArray} {A : Int} {q : List UInt8} {n : Int} {a : Option Addr} {bs : List Int} {c : Nat} {R : List Int} {a6 : Option Addr} {c6 : Nat} {a8 : Option Addr} {c8 : Nat} {gk : Bool} {k10 : Nat} {d1 d2 : Option Addr} {e1 e2 : Nat} {gl : Bool} {R20 : List Int} {a12 : Option Addr} {c12 : Nat} {gf : Bool} {R0 : List Int} {a14 : Option Addr} {c14 : Nat}
set_option maxRecDepth 100000 in
set_option maxHeartbeats 4000000 in
theorem law5_h {z1 za zb zc zd ze zf zg zh zi zj zk zl zm zn zo zp zq zr zs zt zu zv zw zx zy zz zA zB zC zD zE zF zG zH zI zJ zK zL zM zN zO zP zQ zR zS zT zU zV zW zX zY zZ Z0 Z1 Z2 Z3 Z4 Z5 Z6 Z7 Z8 Z9 Za Zb Zc Zd Ze Zf Zg Zh Zi Zj Zk Zl Zm Zn Zo Zp Zq Zr Zs Zt Zu Zv Zw Zx Zy Zz ZA ZB ZC ZD ZE ZF ZG ZH ZI ZJ ZK ZL ZM ZN ZO ZP ZQ ZR ZS ZT ZU ZV ZW ZX ZY ZZ Y0 Y1 Y2 : Value} (n0 : 0 ≤ n) (n20 : n ≤ 20) (h4 : J.length ≤ 4) (hl20 : ∀ l ∈ J, l.length ≤ 20) (hL : Lay C wl) (hs : BaseP q f t J ta kb wl) (hcp : CapsIn kb wl ta J)
    (next : ∀ (tb : Option Addr) (cc : Nat) (w : World) (z1 zb zc zd ze zf zg zh zi zj zk zl zm zn zo zp zq zr zs zt zu zv zw zx zy zz zA zB zC zD zE zF zG zH zI zJ zK zL zM zN zO zP zQ zR zS zT zU zV zW zX zY zZ Z0 Z1 Z2 Z3 Z4 Z5 Z6 Z7 Z8 Z9 Za Zb Zc Zd Ze Zf Zg Zh Zi Zj Zk Zl Zm Zn Zo Zp Zq Zr Zs Zt Zu Zv Zw Zx Zy Zz ZA ZB ZC ZD ZE ZF ZG ZH ZI ZJ ZK ZL ZM ZN ZO ZP ZQ ZR ZS ZT ZU ZV ZW ZX ZY ZZ Y0 Y1 Y2 : Value), Lay C w → Kin wl.heap.size wl w → RowsAt w tb (cutJ n.toNat J) → Can Try.prog C b o (fun v _ => v = .bool true) 0 (AloneB Bd) w (G ((base 5).at ⟨#[.slice a bs.length c, z1, .bool false, .pointer (some ⟨kb, 0, none⟩), .slice ta J.length tc, .int .i64 n, .slice a6 R.length c6, .bool true, .slice a8 R.length c8, .bool true, .pointer (some ⟨k10, 0, none⟩), .bool gk, .slice a12 R20.length c12, .bool gl, .slice a14 R0.length c14, .bool gf, .slice tb (cutJ n.toNat J).length cc, zb, zc, zd, ze, zf, zg, zh, zi, zj, zk, zl, zm, zn, zo, zp, zq, zr, zs, zt, zu, zv, zw, zx, zy, zz, zA, zB, zC, zD, zE, zF, zG, zH, zI, zJ, zK, zL, zM, zN, zO, zP, zQ, zR, zS, zT, zU, zV, zW, zX, zY, zZ, Z0, Z1, Z2, Z3, Z4, Z5, Z6, Z7, Z8, Z9, Za, Zb, Zc, Zd, Ze, Zf, Zg, Zh, Zi, Zj, Zk, Zl, Zm, Zn, Zo, Zp, Zq, Zr, Zs, Zt, Zu, Zv, Zw, Zx, Zy, Zz, ZA, ZB, ZC, ZD, ZE, ZF, ZG, ZH, ZI, ZJ, ZK, ZL, ZM, ZN, ZO, ZP, ZQ, ZR, ZS, ZT, ZU, ZV, ZW, ZX, ZY, ZZ, Y0, Y1, Y2], []⟩ [.code (tailC 11 body5)]) [])) :
    Can Try.prog C b o (fun v _ => v = .bool true) 0 (AloneB Bd) wl (G ((base 5).at ⟨#[.slice a bs.length c, z1, .bool false, .pointer (some ⟨kb, 0, none⟩), .slice ta J.length tc, .int .i64 n, .slice a6 R.length c6, .bool true, .slice a8 R.length c8, .bool true, .pointer (some ⟨k10, 0, none⟩), .bool gk, .slice a12 R20.length c12, .bool gl, .slice a14 R0.length c14, .bool gf, za, zb, zc, zd, ze, zf, zg, zh, zi, zj, zk, zl, zm, zn, zo, zp, zq, zr, zs, zt, zu, zv, zw, zx, zy, zz, zA, zB, zC, zD, zE, zF, zG, zH, zI, zJ, zK, zL, zM, zN, zO, zP, zQ, zR, zS, zT, zU, zV, zW, zX, zY, zZ, Z0, Z1, Z2, Z3, Z4, Z5, Z6, Z7, Z8, Z9, Za, Zb, Zc, Zd, Ze, Zf, Zg, Zh, Zi, Zj, Zk, Zl, Zm, Zn, Zo, Zp, Zq, Zr, Zs, Zt, Zu, Zv, Zw, Zx, Zy, Zz, ZA, ZB, ZC, ZD, ZE, ZF, ZG, ZH, ZI, ZJ, ZK, ZL, ZM, ZN, ZO, ZP, ZQ, ZR, ZS, ZT, ZU, ZV, ZW, ZX, ZY, ZZ, Y0, Y1, Y2], []⟩ [.code (tailC 9 body5)]) []) := by
  obtain ⟨j0, ji, jz0, jz1, jz2⟩ := info_parts Try.info28
  have hS := steady_aloneB Bd
  have e9 : tailC 9 body5 = .seq (headC 9 body5) (tailC 10 body5) := by kernel_rfl
  have e10 : tailC 10 body5 = .seq (headC 10 body5) (tailC 11 body5) := by kernel_rfl
  rw [e9]
  refine Can.ctl hS hL rfl (fun _ => stepG_seq) ?_
  refine Can.code' okProgS hS hL (okFr_at (by kernel_rfl) rfl rfl ⟨_, Try.func5⟩) ?_
  intro T d W hW B hB
  simp only [headC, body5, Try.f5, Option.getD_some]
  go_wp2
  have hB := hB.out
  subst hB
  intro hc
  have hW := hW.out
  subst hW
  obtain ⟨W₁, hW₁⟩ : ∃ w, w = (wl.re T d).alloc (.cells #[] 28) := ⟨_, rfl⟩
  have hz₁ : (wl.re T d).heap.size = wl.heap.size := rfl
  simp only [hz₁]
  rw [← hW₁] at hc ⊢
  have hC₁ : W₁.ownsRow wl.heap.size 28 1 (.slice (some ⟨wl.heap.size, 0, none⟩) 0 0) 0 [] := by rw [hW₁]; exact ownsRow_empty (wl.re T d) 28 1
  have hz₂ : wl.heap.size + 1 = W₁.heap.size := by rw [hW₁, World.size_alloc]; rfl
  have K₁ : Kin wl.heap.size wl W₁ := by rw [hW₁]; exact ((Grown.refl wl).re T d |>.alloc _).kin (Nat.le_refl _)
  have hL₁ : Lay C W₁ := ⟨hc, hL.no⟩
  have hR₁ : RowsIn kb W₁ ta J := hs.rows.kept (K₁.le (Nat.le_of_lt hs.low)).cells (Nat.le_refl _)
  have hcp₁ : CapsIn kb W₁ ta J := hcp.kept (K₁.le (Nat.le_of_lt hs.low)).cells (Nat.le_refl _)
  have hkb := hs.low
  clear hc hW₁ hB hW hs hcp
  rw [e10]
  refine Can.ctl hS hL₁ rfl (fun _ => stepG_seq) ?_
  refine Can.code' okProgS hS hL₁ (okFr_at (by kernel_rfl) rfl rfl ⟨_, Try.func5⟩) ?_
  intro T d W hW B hB
  replace hR₁ : RowsIn kb W ta J := by rw [hW.out]; exact hR₁
  replace hcp₁ : CapsIn kb W ta J := by rw [hW.out]; exact hcp₁
  replace hC₁ : RowKit.Hid (CutR W wl.heap.size n.toNat J 0 (.slice (some ⟨wl.heap.size, 0, none⟩) 0 0) W) :=
    ⟨[], by rw [hW.out]; exact hC₁, fun i _ h => by omega, Below.refl _ _, by rw [hW.out]; show wl.heap.size ≤ W₁.heap.size; omega⟩
  simp only [headC, body5, Try.f5, Option.getD_some]
  go_wp2
  go_loopw [16, 17] (fun v i wr => ∃ k : Nat, k ≤ J.length ∧ i = .int .i64 k ∧ RowKit.Hid (CutR W wl.heap.size n.toNat J k v wr)) (fun _ i _ => J.length - (intOf i).toNat)
  case atStart => exact ⟨0, Nat.zero_le _, rfl, hC₁⟩
  case round =>
    obtain ⟨k, hk, rfl, hC⟩ := hrel
    obtain ⟨vs, hown, hrows, hbl, hbs⟩ := hC.out
    obtain ⟨av, cv, rfl⟩ := own_slice hown
    by_cases hlt : k < J.length
    · have hlt' : (k : Int) < (J.length : Int) := by omega
      have hml : J[k].length ≤ 20 := hl20 _ (List.getElem_mem hlt)
      have up : ∀ x j v, x < kb → W.cell? ⟨x, j, none⟩ = some v → wr.cell? ⟨x, j, none⟩ = some v := fun x j v hx hv => (hbl.cell (p := ⟨x, j, none⟩) (by show x < wl.heap.size; omega)).trans hv
      obtain ⟨xb, off, a', c', hta, hxb, hck, hI⟩ := (hR₁.kept up (Nat.le_refl _)).at hlt
      have hcap : J[k].length ≤ c' := by
        rcases hcp₁.kept up (Nat.le_refl _) with h | ⟨xb', off', e, _, hc⟩
        · rw [h] at hlt; simp at hlt
        · rw [hta] at e
          cases e
          obtain ⟨a2, c2, e1, e2⟩ := hc k hlt
          rw [show J.getD k [] = J[k] by simp [List.getD, hlt]] at e1 e2
          rw [hck] at e1
          simp only [Option.some.injEq, Value.slice.injEq] at e1
          omega
      subst hta
      have hI' : IntsIn wl.heap.size wr a' J[k] := hI.kept (fun _ _ _ _ hv => hv) (Nat.le_of_lt hkb)
      have hbs5 : ∀ o, wl.heap.size ≤ (wr.drew.alloc o).heap.size := fun o => by rw [World.size_alloc]; show wl.heap.size ≤ wr.heap.size + 1; omega
      have hown5 : ∀ u, (wr.drew.alloc (.cells #[u] 28)).ownsRow wl.heap.size 28 1 (.slice av k cv) k vs := fun u => (show wr.drew.ownsRow wl.heap.size 28 1 (.slice av k cv) k vs from hown).alloc _
      have S0 : wr.drew.cell? ⟨xb, off + k, none⟩ = some (.slice a' J[k].length c') := hck
      have S1 : ∀ o, (wr.drew.alloc o).cell? ⟨xb, off + k, none⟩ = some (.slice a' J[k].length c') := fun o => cell_alloc S0
      have hb5 : ∀ o w5, (wr.drew.alloc o).grownBy w5 (Value.slice av k cv).ownBlock → Below wl.heap.size wr w5 := fun o w5 hg => (((Below.refl wl.heap.size wr).drew).alloc hbs _).grown hg (hbs5 _) (fun r e => (hown.lt r e).1)
      have S2f : ∀ o w5, (wr.drew.alloc o).grownBy w5 (Value.slice av k cv).ownBlock → w5.cell? ⟨xb, off + k, none⟩ = some (.slice a' J[k].length c') := fun o w5 hg => ((hb5 o w5 hg).cell (p := ⟨xb, off + k, none⟩) (by show xb < wl.heap.size; omega)).trans hck
      obtain ⟨ln, hln⟩ : ∃ ln, J[k].length = ln := ⟨_, rfl⟩
      rw [hln] at hml hcap hck S0
      simp only [hln] at S1 S2f
      replace hln : RowKit.Hid (J[k].length = ln) := hln
      obtain ⟨m, rfl⟩ := Int.eq_ofNat_of_zero_le n0
      have hmm : ((m : Nat) : Int).toNat = m := Int.toNat_natCast m
      obtain ⟨x, hx⟩ : ∃ x : Nat, RowKit.Hid (x = min m ln) := ⟨_, rfl⟩
      have hxc : x ≤ c' := by have := hx.out; omega
      have hxc2 : (x : Int) ≤ (c' : Int) := by omega
      have hx1 : (if (ln : Int) < (m : Int) then (ln : Int) else (m : Int)) = (x : Int) := by have := hx.out; split <;> omega
      have hx2 : (if (m : Int) < (ln : Int) then (m : Int) else (ln : Int)) = (x : Int) := by have := hx.out; split <;> omega
      have hx3 : (if ln < m then (ln : Int) else (m : Int)) = (x : Int) := by have := hx.out; split <;> omega
      have hx4 : (if m < ln then (m : Int) else (ln : Int)) = (x : Int) := by have := hx.out; split <;> omega
      have hx5 : (if (m : Int) ≤ (ln : Int) then (m : Int) else (ln : Int)) = (x : Int) := by have := hx.out; split <;> omega
      have hx6 : (if (ln : Int) ≤ (m : Int) then (ln : Int) else (m : Int)) = (x : Int) := by have := hx.out; split <;> omega
      go_wp2
      go_region_held3 (fun w₁ => w₁.cell? ⟨xb, off + k, none⟩ = some (.slice a' ln c'))
        (first | with_reducible exact S0 | with_reducible exact S1 _ | with_reducible exact S2 | go_keep)
        ((refine step_append_lies _ (by rfl) _ _ _ (by rfl) wl.heap.size 28 j0 (.slice none 0 0) 1 24 Try.underlying25 ji jz0 jz1 jz2 rfl (by decide) _ k _ (by rfl) (hown5 (.slice a' x c')) ⟨wr.heap.size, 0, none⟩ 1 1 [.slice a' x c'] (by rfl) (by rfl) (cell_one_new wr.drew _ _) (by intro u hu; simp at hu; subst hu; rfl) (by omega) (by unfold maxLen; omega) (by omega) (hbs5 _) (wr.heap.size + 1) (World.size_alloc ..) ?_; intro gg cap w5 hown6 hgr6 hat6 hlt6; have S2 := S2f _ _ hgr6))
      rename_i hh
      clear hh
      have hC5 : RowKit.Hid (CutR W wl.heap.size (m : Int).toNat J (k + 1) (.slice (some ⟨gg, 0, none⟩) (k + 1) cap) w5) := by
        refine CutR.push (c := c') (mm := x) hrows (by have := hown.1; omega) hlt ?_ hown6 hI' (hb5 _ _ hgr6) hbl hbs
        rw [List.length_take, hln.out]; have := hx.out; omega
      clear hown6 hgr6 hat6 S2 S2f S1 S0 hown hrows hown5 hb5 hI' hbl
      go_wp2
      go_roundw
      case rel => exact ⟨k + 1, by omega, by go_num, hC5⟩
      case measure => simp [intOf]; omega
    · obtain rfl : k = J.length := by omega
      have hdone := CutR.done hC.out
      obtain ⟨tb, cc, e, hrow⟩ := hdone
      rw [e]
      go_wp2
      have hB := hB.out
      subst hB
      intro hc
      have hW := hW.out
      subst hW
      have K2 : Kin wl.heap.size wl wr := (K₁.re T d).trans (kin_of_below hbl)
      exact next tb cc wr _ _ _ _ _ _ _ _ _ _ _ _ _ _ _ _ _ _ _ _ _ _ _ _ _ _ _ _ _ _ _ _ _ _ _ _ _ _ _ _ _ _ _ _ _ _ _ _ _ _ _ _ _ _ _ _ _ _ _ _ _ _ _ _ _ _ _ _ _ _ _ _ _ _ _ _ _ _ _ _ _ _ _ _ _ _ _ _ _ _ _ _ _ _ _ _ _ _ _ _ _ _ _ _ _ _ _ _ _ _ _ _ _ _ _ _ _ ⟨hc, hL.no⟩ K2 hrow
end
end Go.Town.Kp
