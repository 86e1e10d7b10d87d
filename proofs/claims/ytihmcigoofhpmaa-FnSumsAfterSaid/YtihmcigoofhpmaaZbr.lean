/-
  The law FnSumsAfter: the cut tasks run; the end; the whole walk.
  A slice of bytes that came in.
-/
import Derived.Conc.LeavingOf
import Derived.ChangeShapes
import Derived.ChangeSlices
import Derived.WideShapes
import Derived.ChangeMaps5
import Derived.ChangeArms
import Derived.OpenShut
import Derived.LaidMore
import Derived.Test.YtihmcigoofhpmaaZaz
import Derived.Test.YtihmcigoofhpmaaZbl
import Derived.Test.YtihmcigoofhpmaaZbq
set_option linter.all false
namespace Go.Town.Kp
open Go Go.Conc Go.Conc.Lib Go.ConcR.Gen Go.RowKit Go.Town Go.Proofs
open Go.ConcN (upd upd_ne upd_same)
noncomputable def ops5e : Array Oper := match headC 11 body5 with | .region _ o _ => o | _ => #[]
theorem head_ops5e : headC 11 body5 = .region 16 ops5e false := by kernel_rfl
section
variable {C : Cfg} {b o Bd kb : Nat} {wl : World} {f t : Int} {J : List (List Int)} {tc : Nat} {ta : Option Addr} {g : Bool} {R1 R2 : List Int} {E : ByteArray} {A : Int} {q : List UInt8} {n : Int} {a : Option Addr} {bs : List Int} {c : Nat} {R : List Int} {a6 : Option Addr} {c6 : Nat} {a8 : Option Addr} {c8 : Nat} {gk : Bool} {k10 : Nat} {d1 d2 : Option Addr} {e1 e2 : Nat} {gl : Bool} {R20 : List Int} {a12 : Option Addr} {c12 : Nat} {gf : Bool} {R0 : List Int} {a14 : Option Addr} {c14 : Nat} {tb : Option Addr} {cc : Nat} {gc : Bool} {C1 C2 : List Int} {E2 : ByteArray} {A2 : Int}
set_option maxRecDepth 100000 in
set_option maxHeartbeats 2000000 in
theorem law5_i {z1 zh zi zj zk zl zm zn zo zp zq zr zs zt zu zv zw zx zy zz zA zB zC zD zE zF zG zH zI zJ zK zL zM zN zO zP zQ zR zS zT zU zV zW zX zY zZ Z0 Z1 Z2 Z3 Z4 Z5 Z6 Z7 Z8 Z9 Za Zb Zc Zd Ze Zf Zg Zh Zi Zj Zk Zl Zm Zn Zo Zp Zq Zr Zs Zt Zu Zv Zw Zx Zy Zz ZA ZB ZC ZD ZE ZF ZG ZH ZI ZJ ZK ZL ZM ZN ZO ZP ZQ ZR ZS ZT ZU ZV ZW ZX ZY ZZ Y0 Y1 Y2 Y3 Y4 Y5 Y6 Y7 Y8 : Value} (hn : (cutJ n.toNat J).length ≤ 1048576) (hm : ∀ l ∈ (cutJ n.toNat J), l.length ≤ 1048576) (hBd : Bd < 2000000000) (hD : Kd q f t (cutJ n.toNat J) gc C1 C2 E2 A2) (hL : Lay C wl) (hs : BaseP q f t J ta kb wl) (hRc : RowsAt wl tb (cutJ n.toNat J)) (hcp : CapsIn kb wl ta J) (h6 : IntsAt wl a6 R) (hr : Reads wl k10 [.slice d1 R1.length e1, .slice d2 R2.length e2, .string E, .int .i64 A]) (hd1 : IntsAt wl d1 R1) (hz : k10 < wl.heap.size) (h12 : IntsAt wl a12 R20) (h14 : IntsAt wl a14 R0)
    (next : ∀ (C' : Cfg) (b' o' k18 : Nat) (x1 x2 : Option Addr) (y1 y2 : Nat) (w : World) (z1 zh zk zl zm zn zo zp zq zr zs zt zu zv zw zx zy zz zA zB zC zD zE zF zG zH zI zJ zK zL zM zN zO zP zQ zR zS zT zU zV zW zX zY zZ Z0 Z1 Z2 Z3 Z4 Z5 Z6 Z7 Z8 Z9 Za Zb Zc Zd Ze Zf Zg Zh Zi Zj Zk Zl Zm Zn Zo Zp Zq Zr Zs Zt Zu Zv Zw Zx Zy Zz ZA ZB ZC ZD ZE ZF ZG ZH ZI ZJ ZK ZL ZM ZN ZO ZP ZQ ZR ZS ZT ZU ZV ZW ZX ZY ZZ Y0 Y1 Y2 Y3 Y4 Y5 Y6 Y7 Y8 : Value), Lay C' w → BaseP q f t J ta kb w → Reads w k18 [.slice x1 C1.length y1, .slice x2 C2.length y2, .string E2, .int .i64 A2] → IntsAt w x1 C1 → IntsAt w x2 C2 → k18 < w.heap.size → CapsIn kb w ta J → IntsAt w a6 R → Reads w k10 [.slice d1 R1.length e1, .slice d2 R2.length e2, .string E, .int .i64 A] → IntsAt w d1 R1 → k10 < w.heap.size → IntsAt w a12 R20 → IntsAt w a14 R0 → Can Try.prog C' b' o' (fun v _ => v = .bool true) 0 (AloneB (Bd + 400)) w (G ((base 5).at ⟨#[.slice a bs.length c, z1, .bool false, .pointer (some ⟨kb, 0, none⟩), .slice ta J.length tc, .int .i64 n, .slice a6 R.length c6, .bool true, .slice a8 R.length c8, .bool true, .pointer (some ⟨k10, 0, none⟩), .bool gk, .slice a12 R20.length c12, .bool gl, .slice a14 R0.length c14, .bool gf, .slice tb (cutJ n.toNat J).length cc, zh, .pointer (some ⟨k18, 0, none⟩), .bool gc, zk, zl, zm, zn, zo, zp, zq, zr, zs, zt, zu, zv, zw, zx, zy, zz, zA, zB, zC, zD, zE, zF, zG, zH, zI, zJ, zK, zL, zM, zN, zO, zP, zQ, zR, zS, zT, zU, zV, zW, zX, zY, zZ, Z0, Z1, Z2, Z3, Z4, Z5, Z6, Z7, Z8, Z9, Za, Zb, Zc, Zd, Ze, Zf, Zg, Zh, Zi, Zj, Zk, Zl, Zm, Zn, Zo, Zp, Zq, Zr, Zs, Zt, Zu, Zv, Zw, Zx, Zy, Zz, ZA, ZB, ZC, ZD, ZE, ZF, ZG, ZH, ZI, ZJ, ZK, ZL, ZM, ZN, ZO, ZP, ZQ, ZR, ZS, ZT, ZU, ZV, ZW, ZX, ZY, ZZ, Y0, Y1, Y2, Y3, Y4, Y5, Y6, Y7, Y8], []⟩ [.code (tailC 12 body5)]) [])) :
    Can Try.prog C b o (fun v _ => v = .bool true) 0 (AloneB Bd) wl (G ((base 5).at ⟨#[.slice a bs.length c, z1, .bool false, .pointer (some ⟨kb, 0, none⟩), .slice ta J.length tc, .int .i64 n, .slice a6 R.length c6, .bool true, .slice a8 R.length c8, .bool true, .pointer (some ⟨k10, 0, none⟩), .bool gk, .slice a12 R20.length c12, .bool gl, .slice a14 R0.length c14, .bool gf, .slice tb (cutJ n.toNat J).length cc, zh, zi, zj, zk, zl, zm, zn, zo, zp, zq, zr, zs, zt, zu, zv, zw, zx, zy, zz, zA, zB, zC, zD, zE, zF, zG, zH, zI, zJ, zK, zL, zM, zN, zO, zP, zQ, zR, zS, zT, zU, zV, zW, zX, zY, zZ, Z0, Z1, Z2, Z3, Z4, Z5, Z6, Z7, Z8, Z9, Za, Zb, Zc, Zd, Ze, Zf, Zg, Zh, Zi, Zj, Zk, Zl, Zm, Zn, Zo, Zp, Zq, Zr, Zs, Zt, Zu, Zv, Zw, Zx, Zy, Zz, ZA, ZB, ZC, ZD, ZE, ZF, ZG, ZH, ZI, ZJ, ZK, ZL, ZM, ZN, ZO, ZP, ZQ, ZR, ZS, ZT, ZU, ZV, ZW, ZX, ZY, ZZ, Y0, Y1, Y2, Y3, Y4, Y5, Y6, Y7, Y8], []⟩ [.code (tailC 11 body5)]) []) := by
  have hS := steady_aloneB Bd
  have e11 : tailC 11 body5 = .seq (headC 11 body5) (tailC 12 body5) := by kernel_rfl
  rw [e11]
  refine Can.ctl hS hL rfl (fun _ => stepG_seq) ?_
  rw [head_ops5e]
  generalize hK : [Item.code (tailC 12 body5)] = K₁
  simp only [ops5e, headC, body5, Try.f5, Option.getD_some]
  refine Can.ctl hS hL rfl (fun _ => stepG_region) ?_; simp only [List.size_toArray, List.length_cons, List.length_nil, Nat.reduceAdd, Nat.zero_add, List.range, List.range.loop]
  refine Can.op (ok := okS) hS hL rfl rfl (by k_ne) (by kernel_rfl) (fun T d => ⟨.agg #[.string ⟨q.toArray⟩, .int .i64 f, .int .i64 t], wl.re T d, ?_, fun _ => Can.re ?_ T d⟩)
  · have g0 : (wl.re T d).cell? ⟨kb, 0, none⟩ = _ := (hs.keeper 0 (by simp)).1
    have g1 : (wl.re T d).cell? ⟨kb, 1, none⟩ = _ := (hs.keeper 1 (by simp)).1
    have g2 : (wl.re T d).cell? ⟨kb, 2, none⟩ = _ := (hs.keeper 2 (by simp)).1
    simp only [List.getElem?_cons_zero, List.getElem?_cons_succ] at g0 g1 g2
    go_simp
  walk_nrm
  refine Can.op (ok := okS) hS hL rfl rfl (by k_ne) (by kernel_rfl) (fun T d => ⟨.slice tb (cutJ n.toNat J).length cc, wl.re T d, ?_, fun _ => Can.re ?_ T d⟩)
  · go_simp
  walk_nrm
  refine Can.ctl hS hL rfl (fun _ => st_enter' (vs := #[.agg #[.string ⟨q.toArray⟩, .int .i64 f, .int .i64 t], .slice tb (cutJ n.toNat J).length cc]) rfl rfl (by k_ne) rfl Try.func10 rfl rfl (by kernel_rfl)) ?_
  refine call10 (q := q) (J := (cutJ n.toNat J)) hn hm hBd hL hRc hD ?_
  intro C' b' o' x1 x2 y1 y2 w hL' K hI
  walk_nrm
  have hS' := steady_aloneB (Bd + 400)
  refine Can.op (ok := okS) hS' hL' rfl rfl (by k_ne) (by kernel_rfl) (fun T d => ⟨.tuple #[.agg #[.slice x1 C1.length y1, .slice x2 C2.length y2, .string E2, .int .i64 A2], .bool gc], w.re T d, ?_, fun _ => Can.re ?_ T d⟩)
  · go_simp
  walk_nrm
  refine Can.op (ok := okS) hS' hL' rfl rfl (by k_ne) (by kernel_rfl) (fun T d => ⟨.agg #[.slice x1 C1.length y1, .slice x2 C2.length y2, .string E2, .int .i64 A2], w.re T d, ?_, fun _ => Can.re ?_ T d⟩)
  · go_simp
  walk_nrm
  refine Can.op (ok := okS) hS' hL' rfl rfl (by k_ne) (by kernel_rfl) (fun T d => ⟨.bool gc, w.re T d, ?_, fun _ => Can.re ?_ T d⟩)
  · go_simp
  walk_nrm
  refine Can.op (ok := okS) hS' hL' rfl rfl (by k_ne) (by kernel_rfl) (fun T d => ⟨.pointer (some ⟨w.heap.size, 0, none⟩), (w.re T d).alloc (.cells #[.slice none 0 0, .slice none 0 0, .string ⟨#[]⟩, .int .i64 0] 30), ?_, fun hc => ?_⟩)
  · have hz : (w.re T d).heap.size = w.heap.size := rfl
    go_simp
  walk_nrm
  obtain ⟨w₂, hw₂⟩ : ∃ x, x = (w.re T d).alloc (.cells #[.slice none 0 0, .slice none 0 0, .string ⟨#[]⟩, .int .i64 0] 30) := ⟨_, rfl⟩
  rw [← hw₂] at hc ⊢
  have hL₂ : Lay C' w₂ := ⟨hc, hL'.no⟩
  have hr₂ : Reads w₂ w.heap.size [.slice none 0 0, .slice none 0 0, .string ⟨#[]⟩, .int .i64 0] := reads_block (t := 30) (by rw [hw₂]; exact alloc_self (w.re T d) _)
  have K₂ : Kin w.heap.size w w₂ := by rw [hw₂]; exact ((Grown.refl w).re T d |>.alloc _).kin (Nat.le_refl _)
  have z₂ : w₂.heap.size = w.heap.size + 1 := by rw [hw₂, World.size_alloc]; rfl
  clear hw₂ hc
  obtain ⟨⟨v0, v1, v2, v3, c0, c1', c2', c3⟩, hf⟩ := set4_op hr₂ rfl
  refine Can.opN (ok := okS) hS' hL₂ rfl rfl (by k_ne) (by kernel_rfl) (fun T d => ⟨set4 (w₂.re T d) w.heap.size (.slice x1 C1.length y1) (.slice x2 C2.length y2) (.string E2) (.int .i64 A2), ?_, fun hc => ?_⟩)
  · have c0 : (w₂.re T d).cell? ⟨w.heap.size, 0, none⟩ = some v0 := c0
    have c1 : (w₂.re T d).cell? ⟨w.heap.size, 1, none⟩ = some v1 := c1'
    have c2 : (w₂.re T d).cell? ⟨w.heap.size, 2, none⟩ = some v2 := c2'
    have c3 : (w₂.re T d).cell? ⟨w.heap.size, 3, none⟩ = some v3 := c3
    have f0 : (w₂.re T d).frozen? ⟨w.heap.size, 0, none⟩ = false := hf 0 (by omega)
    have f1 : (w₂.re T d).frozen? ⟨w.heap.size, 1, none⟩ = false := hf 1 (by omega)
    have f2 : (w₂.re T d).frozen? ⟨w.heap.size, 2, none⟩ = false := hf 2 (by omega)
    have f3 : (w₂.re T d).frozen? ⟨w.heap.size, 3, none⟩ = false := hf 3 (by omega)
    generalize w₂.re T d = W at *
    unfold set4
    go_simp
  walk_nrm
  obtain ⟨p1, p2, p3⟩ := put4 (B := w.heap.size) hr₂ rfl (Nat.le_refl _) (.slice x1 C1.length y1) (.slice x2 C2.length y2) (.string E2) (.int .i64 A2) T d
  generalize set4 (w₂.re T d) w.heap.size (.slice x1 C1.length y1) (.slice x2 C2.length y2) (.string E2) (.int .i64 A2) = w₄ at *
  have hL₄ : Lay C' w₄ := ⟨hc, hL'.no⟩
  have K₄ := K₂.trans p1
  clear c0 c1' c2' c3 hf hc
  refine Can.op (ok := okS) hS' hL₄ rfl rfl (by k_ne) (by kernel_rfl) (fun T d => ⟨.bool gc, w₄.re T d, ?_, fun _ => Can.re ?_ T d⟩)
  · go_simp
  walk_nrm
  refine Can.ctl hS' hL₄ rfl (fun _ => stepG_region_end) ?_
  subst hK
  have K9 : Kin wl.heap.size wl w₄ := K.trans (K₄.le K.size)
  have hI4 := hI.kin K₄
  exact next C' b' o' w.heap.size x1 x2 y1 y2 w₄ _ _ _ _ _ _ _ _ _ _ _ _ _ _ _ _ _ _ _ _ _ _ _ _ _ _ _ _ _ _ _ _ _ _ _ _ _ _ _ _ _ _ _ _ _ _ _ _ _ _ _ _ _ _ _ _ _ _ _ _ _ _ _ _ _ _ _ _ _ _ _ _ _ _ _ _ _ _ _ _ _ _ _ _ _ _ _ _ _ _ _ _ _ _ _ _ _ _ _ _ _ _ _ _ _ _ _ _ _ _ _ _ _ _ _ hL₄ (hs.kin (K9.le hs.low)) p2 hI4.i1 hI4.i2 (by omega) (hcp.kept (K9.le (Nat.le_of_lt hs.low)).cells (Nat.le_refl _)) (h6.kept K9.cells K9.size) (hr.kin K9 hz) (hd1.kept K9.cells K9.size) (Nat.lt_of_lt_of_le hz K9.size) (h12.kept K9.cells K9.size) (h14.kept K9.cells K9.size)
end
section
variable {C : Cfg} {b o Bd kb : Nat} {wl : World} {f t : Int} {J : List (List Int)} {tc : Nat} {ta : Option Addr} {g : Bool} {R1 R2 : List Int} {E : ByteArray} {A : Int} {q : List UInt8} {n : Int} {a : Option Addr} {bs : List Int} {c : Nat} {R : List Int} {a6 : Option Addr} {c6 : Nat} {a8 : Option Addr} {c8 : Nat} {gk : Bool} {k10 : Nat} {d1 d2 : Option Addr} {e1 e2 : Nat} {a12 a14 : Option Addr} {c12 c14 : Nat} {tb : Option Addr} {cc : Nat} {gc : Bool} {C2 : List Int} {E2 : ByteArray} {A2 : Int} {k18 : Nat} {x1 x2 : Option Addr} {y1 y2 : Nat}
set_option maxRecDepth 100000 in
set_option maxHeartbeats 4000000 in
theorem law5_j {z1 zh zk zl zm zn zo zp zq zr zs zt zu zv zw zx zy zz zA zB zC zD zE zF zG zH zI zJ zK zL zM zN zO zP zQ zR zS zT zU zV zW zX zY zZ Z0 Z1 Z2 Z3 Z4 Z5 Z6 Z7 Z8 Z9 Za Zb Zc Zd Ze Zf Zg Zh Zi Zj Zk Zl Zm Zn Zo Zp Zq Zr Zs Zt Zu Zv Zw Zx Zy Zz ZA ZB ZC ZD ZE ZF ZG ZH ZI ZJ ZK ZL ZM ZN ZO ZP ZQ ZR ZS ZT ZU ZV ZW ZX ZY ZZ Y0 Y1 Y2 Y3 Y4 Y5 Y6 Y7 Y8 : Value} (h4 : J.length ≤ 4) (hnR : R.length ≤ 1048576) (hnR1 : R1.length ≤ 1048576) (hL : Lay C wl) (h6 : IntsAt wl a6 R) (hr : Reads wl k10 [.slice d1 R1.length e1, .slice d2 R2.length e2, .string E, .int .i64 A]) (hd1 : IntsAt wl d1 R1) (h12 : IntsAt wl a12 R1) (h14 : IntsAt wl a14 (List.replicate J.length 0)) (hr18 : Reads wl k18 [.slice x1 R.length y1, .slice x2 C2.length y2, .string E2, .int .i64 A2]) (hx1 : IntsAt wl x1 R) (hz18 : k18 < wl.heap.size) :
    Can Try.prog C b o (fun v _ => v = .bool true) 0 (AloneB Bd) wl (G ((base 5).at ⟨#[.slice a bs.length c, z1, .bool false, .pointer (some ⟨kb, 0, none⟩), .slice ta J.length tc, .int .i64 n, .slice a6 R.length c6, .bool true, .slice a8 R.length c8, .bool true, .pointer (some ⟨k10, 0, none⟩), .bool gk, .slice a12 R1.length c12, .bool true, .slice a14 J.length c14, .bool true, .slice tb (cutJ n.toNat J).length cc, zh, .pointer (some ⟨k18, 0, none⟩), .bool gc, zk, zl, zm, zn, zo, zp, zq, zr, zs, zt, zu, zv, zw, zx, zy, zz, zA, zB, zC, zD, zE, zF, zG, zH, zI, zJ, zK, zL, zM, zN, zO, zP, zQ, zR, zS, zT, zU, zV, zW, zX, zY, zZ, Z0, Z1, Z2, Z3, Z4, Z5, Z6, Z7, Z8, Z9, Za, Zb, Zc, Zd, Ze, Zf, Zg, Zh, Zi, Zj, Zk, Zl, Zm, Zn, Zo, Zp, Zq, Zr, Zs, Zt, Zu, Zv, Zw, Zx, Zy, Zz, ZA, ZB, ZC, ZD, ZE, ZF, ZG, ZH, ZI, ZJ, ZK, ZL, ZM, ZN, ZO, ZP, ZQ, ZR, ZS, ZT, ZU, ZV, ZW, ZX, ZY, ZZ, Y0, Y1, Y2, Y3, Y4, Y5, Y6, Y7, Y8], []⟩ [.code (tailC 12 body5)]) []) := by
  have hS := steady_aloneB Bd
  have e13 : tailC 13 body5 = .ret := by kernel_rfl
  have e12 : tailC 12 body5 = .seq (headC 12 body5) (tailC 13 body5) := by kernel_rfl
  rw [e12]
  refine Can.ctl hS hL rfl (fun _ => stepG_seq) ?_
  refine Can.code' okProgS hS hL (okFr_at (by kernel_rfl) rfl rfl ⟨_, Try.func5⟩) ?_
  intro T d W hW B hB
  have q10 : W.cell? ⟨k10, 0, none⟩ = some (.slice d1 R1.length e1) := by rw [hW.out]; exact (hr 0 (by simp)).1
  have i12 : IntsAt W a12 R1 := by rw [hW.out]; exact h12
  have id1 : IntsAt W d1 R1 := by rw [hW.out]; exact hd1
  have i14 : IntsAt W a14 (List.replicate J.length 0) := by rw [hW.out]; exact h14
  have ix1 : IntsAt W x1 R := by rw [hW.out]; exact hx1
  have i6 : IntsAt W a6 R := by rw [hW.out]; exact h6
  have q18' : W.cell? ⟨k18, 0, none⟩ = some (.slice x1 R.length y1) := by rw [hW.out]; exact (hr18 0 (by simp)).1
  have hz18' : k18 < W.heap.size := by rw [hW.out]; exact hz18
  have hmk := fun w => mk_ints w J.length (by omega)
  have ca := hidC (cbSame_same a12 d1 c12 e1 R1 W hnR1 i12 id1)
  have cb : RowKit.Hid (∀ w1, Below W.heap.size W w1 → Calls Try.prog 12 #[.slice a14 J.length c14, .slice (some ⟨w1.heap.size, 0, none⟩) J.length J.length] (w1.alloc (.cells (Array.replicate J.length (.int .i64 0)) 3)) fun e w2 => e = .returned (.bool true) ∧ Below W.heap.size W w2) := fun w1 hb => by
    have hB1 : Below W.heap.size W (w1.alloc (.cells (Array.replicate J.length (.int .i64 0)) 3)) := hb.alloc hb.size _
    have hz : IntsAt (w1.alloc (.cells (Array.replicate J.length (.int .i64 0)) 3)) (some ⟨w1.heap.size, 0, none⟩) (List.replicate J.length 0) := by
      refine .inr ⟨w1.heap.size, 0, rfl, by rw [World.size_alloc]; omega, fun i hi => ?_⟩
      simp only [List.length_replicate] at hi
      rw [Nat.zero_add, blk_cell (alloc_self w1 _)]
      simp [hi, List.getD]
    have h := cbSame_same a14 (some ⟨w1.heap.size, 0, none⟩) c14 J.length (List.replicate J.length 0) _ (by simp; omega) (i14.below hB1 (Nat.le_refl _)) hz
    simp only [List.length_replicate] at h
    exact h.mono fun e w2 ⟨he, hb2⟩ => ⟨he, hB1.trans (hb2.mono hB1.size)⟩
  have cc' : RowKit.Hid (∀ w2, Below W.heap.size W w2 → Calls Try.prog 12 #[.slice x1 R.length y1, .slice a6 R.length c6] w2 fun e w3 => e = .returned (.bool true) ∧ Below w2.heap.size w2 w3) := fun w2 hb => cbSame_same x1 a6 y1 c6 R w2 hnR (ix1.below hb (Nat.le_refl _)) (i6.below hb (Nat.le_refl _))
  have q18f : RowKit.Hid (∀ w2, Below W.heap.size W w2 → w2.cell? ⟨k18, 0, none⟩ = some (.slice x1 R.length y1)) := fun w2 hb => (hb.cell (p := ⟨k18, 0, none⟩) hz18').trans q18'
  clear i12 id1 i14 ix1 i6 q18' hr hd1 h12 h14 hr18 hx1 h6
  simp only [headC, body5, Try.f5, Option.getD_some]
  go_wp2_with (first
    | (go_at_call 12; (with_reducible refine ca.out.mono ?_); rintro e w1 ⟨rfl, hb1⟩)
    | (go_at_call 12; (with_reducible refine (cb.out _ hb1).mono ?_); rintro e w2 ⟨rfl, hb2⟩; have q18 := q18f.out _ hb2)
    | (go_at_call 12; (with_reducible refine (cc'.out _ hb2).mono ?_); rintro e w3 ⟨rfl, hb3⟩))
  have hB := hB.out
  subst hB
  intro hc
  have hL' : Lay C w3 := ⟨hc, hL.no⟩
  rw [e13]
  refine Can.ctl hS hL' rfl (fun _ => st_ret) ?_
  exact end5 hL' rfl
end
theorem sd_len {q : List UInt8} {f t n : Int} {J : List (List Int)} {g : Bool} {R : List Int} (h : Sd q f t n J g R) (hn : J.length ≤ 1048576) : R.length ≤ 1048576 := by
  rcases h with ⟨_, _, rfl⟩ | ⟨_, _, _, _, _, _, _, _, rfl⟩
  · simp
  · simpa using hn
theorem kd_len1 {q : List UInt8} {f t : Int} {J : List (List Int)} {g : Bool} {R1 R2 : List Int} {E : ByteArray} {A : Int} (h : Kd q f t J g R1 R2 E A) (hn : J.length ≤ 1048576) : R1.length ≤ 1048576 := (h.len hn).1
section
variable {C : Cfg} {b o Bd : Nat} {wl : World} {a : Option Addr} {bs : List Int} {c : Nat}
theorem law5 (hBd : Bd < 1000000000) (hL : Lay C wl) (hA : BytesAt wl a bs) (hu : ∀ b ∈ bs, InU8 b) (hcap : bs.length ≤ c) (hlen : bs.length ≤ 9223372036854775807) :
    Can Try.prog C b o (fun v _ => v = .bool true) 0 (AloneB Bd) wl (G ((base 5).at ⟨#[.slice a bs.length c, undef, undef, undef, undef, undef, undef, undef, undef, undef, undef, undef, undef, undef, undef, undef, undef, undef, undef, undef, undef, undef, undef, undef, undef, undef, undef, undef, undef, undef, undef, undef, undef, undef, undef, undef, undef, undef, undef, undef, undef, undef, undef, undef, undef, undef, undef, undef, undef, undef, undef, undef, undef, undef, undef, undef, undef, undef, undef, undef, undef, undef, undef, undef, undef, undef, undef, undef, undef, undef, undef, undef, undef, undef, undef, undef, undef, undef, undef, undef, undef, undef, undef, undef, undef, undef, undef, undef, undef, undef, undef, undef, undef, undef, undef, undef, undef, undef, undef, undef, undef, undef, undef, undef, undef, undef, undef, undef, undef, undef, undef, undef, undef, undef, undef, undef, undef, undef, undef, undef, undef, undef, undef, undef, undef, undef, undef, undef, undef, undef, undef, undef, undef], []⟩ [.code body5]) []) := by
  refine law5_a hL hA hu hcap hlen ?_
  intro q f t n J ta tc kb w z1 z6 z7 z8 z9 za zb zc zd ze zf zg zh zi zj zk zl zm zn zo zp zq zr zs zt zu zv zw zx zy zz zA zB zC zD zE zF zG zH zI zJ zK zL zM zN zO zP zQ zR zS zT zU zV zW zX zY zZ Z0 Z1 Z2 Z3 Z4 Z5 Z6 Z7 Z8 Z9 Za Zb Zc Zd Ze Zf Zg Zh Zi Zj Zk Zl Zm Zn Zo Zp Zq Zr Zs Zt Zu Zv Zw Zx Zy Zz ZA ZB ZC ZD ZE ZF ZG ZH ZI ZJ ZK ZL ZM ZN ZO ZP ZQ ZR ZS ZT ZU ZV ZW ZX ZY ZZ Y0 Y1 Y2 Y3 Y4 Y5 Y6 Y7 Y8 hJ hJl hL hs hcp
  obtain ⟨g, R, hD⟩ := sd_ex q f t n J
  obtain ⟨gl, R20, hDl⟩ := sd_ex q f t 20 J
  obtain ⟨gf, R0, hDf⟩ := sd_ex q f t 0 J
  obtain ⟨gk, R1, R2, E, A, hK⟩ := kd_ex q f t J
  obtain ⟨gc, C1, C2, E2, A2, hKc⟩ := kd_ex q f t (cutJ n.toNat J)
  have hm : ∀ l ∈ J, l.length ≤ 1048576 := fun l hl => by have := hJl l hl; omega
  have hmc : ∀ l ∈ cutJ n.toNat J, l.length ≤ 1048576 := fun l hl => by
    simp only [cutJ, List.mem_map] at hl
    obtain ⟨l', hl', rfl⟩ := hl
    have := hJl l' hl'
    rw [List.length_take]; omega
  refine law5_b (by omega) hm (by omega) hD hL hs hcp ?_
  intro C' b' o' a6 c6 w z1 z8 z9 za zb zc zd ze zf zg zh zi zj zk zl zm zn zo zp zq zr zs zt zu zv zw zx zy zz zA zB zC zD zE zF zG zH zI zJ zK zL zM zN zO zP zQ zR zS zT zU zV zW zX zY zZ Z0 Z1 Z2 Z3 Z4 Z5 Z6 Z7 Z8 Z9 Za Zb Zc Zd Ze Zf Zg Zh Zi Zj Zk Zl Zm Zn Zo Zp Zq Zr Zs Zt Zu Zv Zw Zx Zy Zz ZA ZB ZC ZD ZE ZF ZG ZH ZI ZJ ZK ZL ZM ZN ZO ZP ZQ ZR ZS ZT ZU ZV ZW ZX ZY ZZ Y0 Y1 Y2 Y3 Y4 Y5 Y6 Y7 Y8 hL hs h6 hcp
  refine law5_c (by omega) hm hD hL hs hcp h6 ?_
  intro a8 c8 w z1 za zb zc zd ze zf zg zh zi zj zk zl zm zn zo zp zq zr zs zt zu zv zw zx zy zz zA zB zC zD zE zF zG zH zI zJ zK zL zM zN zO zP zQ zR zS zT zU zV zW zX zY zZ Z0 Z1 Z2 Z3 Z4 Z5 Z6 Z7 Z8 Z9 Za Zb Zc Zd Ze Zf Zg Zh Zi Zj Zk Zl Zm Zn Zo Zp Zq Zr Zs Zt Zu Zv Zw Zx Zy Zz ZA ZB ZC ZD ZE ZF ZG ZH ZI ZJ ZK ZL ZM ZN ZO ZP ZQ ZR ZS ZT ZU ZV ZW ZX ZY ZZ Y0 Y1 Y2 Y3 Y4 Y5 Y6 Y7 Y8 hL hs hcp h6 h8
  refine law5_d (sd_len hD (by omega)) hL hs hcp h6 h8 ?_
  intro w z1 za zb zc zd ze zf zg zh zi zj zk zl zm zn zo zp zq zr zs zt zu zv zw zx zy zz zA zB zC zD zE zF zG zH zI zJ zK zL zM zN zO zP zQ zR zS zT zU zV zW zX zY zZ Z0 Z1 Z2 Z3 Z4 Z5 Z6 Z7 Z8 Z9 Za Zb Zc Zd Ze Zf Zg Zh Zi Zj Zk Zl Zm Zn Zo Zp Zq Zr Zs Zt Zu Zv Zw Zx Zy Zz ZA ZB ZC ZD ZE ZF ZG ZH ZI ZJ ZK ZL ZM ZN ZO ZP ZQ ZR ZS ZT ZU ZV ZW ZX ZY ZZ Y0 Y1 Y2 Y3 Y4 Y5 Y6 Y7 Y8 hg hL hs hcp h6
  obtain ⟨rfl, rfl, hF⟩ := sd_facts hD hK hDl hDf hKc hg
  refine law5_e (by omega) hm (by omega) hK hL hs hcp h6 ?_
  intro C' b' o' k10 d1 d2 e1 e2 w z1 zc zd ze zf zg zh zi zj zk zl zm zn zo zp zq zr zs zt zu zv zw zx zy zz zA zB zC zD zE zF zG zH zI zJ zK zL zM zN zO zP zQ zR zS zT zU zV zW zX zY zZ Z0 Z1 Z2 Z3 Z4 Z5 Z6 Z7 Z8 Z9 Za Zb Zc Zd Ze Zf Zg Zh Zi Zj Zk Zl Zm Zn Zo Zp Zq Zr Zs Zt Zu Zv Zw Zx Zy Zz ZA ZB ZC ZD ZE ZF ZG ZH ZI ZJ ZK ZL ZM ZN ZO ZP ZQ ZR ZS ZT ZU ZV ZW ZX ZY ZZ Y0 Y1 Y2 Y3 Y4 Y5 Y6 Y7 Y8 hL hs hr hd1 hd2 hz hcp h6
  refine law5_f (by omega) hm (by omega) hDl hL hs hcp h6 hr hd1 hz ?_
  intro C' b' o' a12 c12 w z1 ze zf zg zh zi zj zk zl zm zn zo zp zq zr zs zt zu zv zw zx zy zz zA zB zC zD zE zF zG zH zI zJ zK zL zM zN zO zP zQ zR zS zT zU zV zW zX zY zZ Z0 Z1 Z2 Z3 Z4 Z5 Z6 Z7 Z8 Z9 Za Zb Zc Zd Ze Zf Zg Zh Zi Zj Zk Zl Zm Zn Zo Zp Zq Zr Zs Zt Zu Zv Zw Zx Zy Zz ZA ZB ZC ZD ZE ZF ZG ZH ZI ZJ ZK ZL ZM ZN ZO ZP ZQ ZR ZS ZT ZU ZV ZW ZX ZY ZZ Y0 Y1 Y2 Y3 Y4 Y5 Y6 Y7 Y8 hL hs h12 hcp h6 hr hd1 hz
  refine law5_g (by omega) hm (by omega) hDf hL hs hcp h6 hr hd1 hz h12 ?_
  intro C' b' o' a14 c14 w z1 zg zh zi zj zk zl zm zn zo zp zq zr zs zt zu zv zw zx zy zz zA zB zC zD zE zF zG zH zI zJ zK zL zM zN zO zP zQ zR zS zT zU zV zW zX zY zZ Z0 Z1 Z2 Z3 Z4 Z5 Z6 Z7 Z8 Z9 Za Zb Zc Zd Ze Zf Zg Zh Zi Zj Zk Zl Zm Zn Zo Zp Zq Zr Zs Zt Zu Zv Zw Zx Zy Zz ZA ZB ZC ZD ZE ZF ZG ZH ZI ZJ ZK ZL ZM ZN ZO ZP ZQ ZR ZS ZT ZU ZV ZW ZX ZY ZZ Y0 Y1 Y2 Y3 Y4 Y5 Y6 Y7 Y8 hL hs h14 hcp h6 hr hd1 hz h12
  refine law5_h hF.n0 hF.n20 hF.four hF.len hL hs hcp ?_
  intro tb cc w z1 zh zi zj zk zl zm zn zo zp zq zr zs zt zu zv zw zx zy zz zA zB zC zD zE zF zG zH zI zJ zK zL zM zN zO zP zQ zR zS zT zU zV zW zX zY zZ Z0 Z1 Z2 Z3 Z4 Z5 Z6 Z7 Z8 Z9 Za Zb Zc Zd Ze Zf Zg Zh Zi Zj Zk Zl Zm Zn Zo Zp Zq Zr Zs Zt Zu Zv Zw Zx Zy Zz ZA ZB ZC ZD ZE ZF ZG ZH ZI ZJ ZK ZL ZM ZN ZO ZP ZQ ZR ZS ZT ZU ZV ZW ZX ZY ZZ Y0 Y1 Y2 Y3 Y4 Y5 Y6 Y7 Y8 hL K9 hRc
  refine law5_i (by rw [cutJ_length]; omega) hmc (by omega) hKc hL (hs.kin (K9.le hs.low)) hRc (hcp.kept (K9.le (Nat.le_of_lt hs.low)).cells (Nat.le_refl _)) (h6.kept K9.cells K9.size) (hr.kin K9 hz) (hd1.kept K9.cells K9.size) (Nat.lt_of_lt_of_le hz K9.size) (h12.kept K9.cells K9.size) (h14.kept K9.cells K9.size) ?_
  intro C' b' o' k18 x1 x2 y1 y2 w z1 zh zk zl zm zn zo zp zq zr zs zt zu zv zw zx zy zz zA zB zC zD zE zF zG zH zI zJ zK zL zM zN zO zP zQ zR zS zT zU zV zW zX zY zZ Z0 Z1 Z2 Z3 Z4 Z5 Z6 Z7 Z8 Z9 Za Zb Zc Zd Ze Zf Zg Zh Zi Zj Zk Zl Zm Zn Zo Zp Zq Zr Zs Zt Zu Zv Zw Zx Zy Zz ZA ZB ZC ZD ZE ZF ZG ZH ZI ZJ ZK ZL ZM ZN ZO ZP ZQ ZR ZS ZT ZU ZV ZW ZX ZY ZZ Y0 Y1 Y2 Y3 Y4 Y5 Y6 Y7 Y8 hL hs hr18 hx1 _ hz18 hcp h6 hr hd1 hz h12 h14
  obtain ⟨_, _, h4, _, hnR, rfl, rfl, rfl⟩ := hF
  simp only [List.length_replicate]
  exact law5_j h4 (by omega) (kd_len1 hK (by omega)) hL h6 hr hd1 h12 h14 hr18 hx1 hz18
end
end Go.Town.Kp
namespace Go.Town.Kp
open Go Go.Conc Go.Conc.Lib Go.ConcR.Gen Go.RowKit Go.Town Go.Proofs Go.ChangeShapes
theorem inU8_of_wf {n : Int} (h : (Lit.int .u8 n).wf = true) : InU8 n := by
  have e1 : IntKind.u8.min = 0 := rfl
  have e2 : IntKind.u8.max = 255 := rfl
  simp [Lit.wf, e1, e2] at h
  exact ⟨by omega, by omega⟩
theorem bytes_open {W : World} {x : Addr} {l c : Nat} {zs : List Int} (hl : l ≤ c) (hz : zs.length = c) (hcell : ∀ i, i < zs.length → W.cell? (x.add i) = some (.int .u8 (zs.getD i 0))) (hw : ∀ n ∈ zs, (Lit.int .u8 n).wf = true) :
    ∃ ys : List Int, l = ys.length ∧ (∀ n ∈ ys, InU8 n) ∧ BytesAt W (some x) ys := by
  refine ⟨zs.take l, by simp; omega, fun n hn => inU8_of_wf (hw n (List.mem_of_mem_take hn)), ?_⟩
  by_cases h0 : l = 0
  · subst h0; exact .inl rfl
  obtain ⟨b, off, spot⟩ := x
  have hc := hcell 0 (by omega)
  have hspot : spot = none := by simpa [Addr.add] using World.cell?_spot hc
  subst hspot
  have hb : b < W.heap.size := by
    unfold World.cell? at hc
    simp only [Addr.add] at hc
    rcases Nat.lt_or_ge b W.heap.size with h | h
    · exact h
    · simp [Array.getElem?_eq_none h] at hc
  refine .inr ⟨b, off, rfl, hb, fun i hi => ?_⟩
  have hi' : i < l := by simp at hi; omega
  have := hcell i (by omega)
  rw [show (zs.take l).getD i 0 = zs.getD i 0 from by simp [List.getD, hi']]
  rw [← this]
  congr 1
  simp [Addr.add]
theorem under22 : Try.prog.underlying 22 = some (.slice 5) := by kernel_rfl
theorem under5 : Try.prog.underlying 5 = some (.int .u8) := by kernel_rfl
section
variable {H : Type} {enc : TypeId × Value → H} {W : World} {base : Nat} {sp : Nat → Bool} {held : Bool}
theorem bytes_in {fuel len cap : Nat} {a : Option Addr} {x : DataW H × List MemPlace} (h : DataW.trod enc Try.prog W base sp held fuel 22 (Value.slice a len cap).cells.toList = some x) : ∃ zs : List Int, len = zs.length ∧ len ≤ cap ∧ len ≤ 9223372036854775807 ∧ (∀ n ∈ zs, InU8 n) ∧ BytesAt W a zs := by
  rcases open_ints under22 under5 (by kernel_rfl) h with ⟨hcs, _⟩ | ⟨x, l, c, zs, hcs, _, hl, hm, hz, _, hcell, hwz⟩
  · simp [Value.cells] at hcs
    obtain ⟨rfl, rfl, rfl⟩ := hcs
    exact ⟨[], rfl, Nat.zero_le _, by omega, by simp, .inl rfl⟩
  · simp [Value.cells] at hcs
    obtain ⟨rfl, rfl, rfl⟩ := hcs
    have hz' : zs.length = cap ∨ zs.length = len := by
      split at hz
      · exact .inl hz
      · exact .inr hz
    obtain ⟨ys, q1, q2, q3⟩ := bytes_open (l := len) (c := zs.length) (by omega) rfl hcell hwz
    exact ⟨ys, q1, hl, by simp only [maxLen] at hm; omega, q2, q3⟩
theorem bytes_shut {a : Option Addr} {bs : List Int} (h : BytesAt W a bs) : BytesAt (shutW W) a bs := by
  rcases h with h | ⟨b, off, rfl, hb, hc⟩
  · exact .inl h
  · exact .inr ⟨b, off, rfl, by rw [shutW_size]; exact hb, fun i hi => by rw [shutW_cell]; exact hc i hi⟩
end
end Go.Town.Kp
