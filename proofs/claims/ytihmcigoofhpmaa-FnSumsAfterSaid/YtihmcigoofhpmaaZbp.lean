/-
  The law FnSumsAfter: the draw; the first call of SumsAfter, the reference's; are they alike.
-/
import Derived.Test.YtihmcigoofhpmaaZbo
set_option linter.all false
namespace Go.Town.Kp
open Go Go.Conc Go.Conc.Lib Go.ConcR.Gen Go.RowKit Go.Town Go.Proofs
open Go.ConcN (upd upd_ne upd_same)
noncomputable def body5 : Code := Try.f5.body.getD .skip
theorem end5 {C : Cfg} {b o Bd : Nat} {wl : World} {tmps : Array Value} {todo : List Item} (hL : Lay C wl) (h2 : tmps[2]? = some (.bool true)) :
    Can Try.prog C b o (fun v _ => v = .bool true) 0 (AloneB Bd) wl (G { (base 5).at ⟨tmps, []⟩ todo with mode := .returning } []) := by
  refine Can.mono (Rs := Alone) (Can.ends (v := .bool true) hL rfl (fun w hw => ?_) (fun _ _ => rfl)) (fun _ _ _ h => h.1)
  have hr : (results Try.f5 tmps).runT Try.prog w #[] = (.ok (.bool true) w, #[]) := by
    simp [results, Try.results5, h2, Sem.runT]
  refine ⟨seen Try.prog 5 #[], ?_, ?_⟩
  · simp only [stepG, G, Frame.at, base, unwind, Try.func5]
    rw [hr]
    simp [doReturn, GStep.after, Result.setW]
  · intro e he; rw [seen_none] at he; simp at he
section
variable {C : Cfg} {b o Bd : Nat} {wl : World} {a : Option Addr} {bs : List Int} {c : Nat}
theorem enter5 : Frame.enter Try.prog 5 #[.slice a bs.length c] .normal = (base 5).at ⟨#[.slice a bs.length c, undef, undef, undef, undef, undef, undef, undef, undef, undef, undef, undef, undef, undef, undef, undef, undef, undef, undef, undef, undef, undef, undef, undef, undef, undef, undef, undef, undef, undef, undef, undef, undef, undef, undef, undef, undef, undef, undef, undef, undef, undef, undef, undef, undef, undef, undef, undef, undef, undef, undef, undef, undef, undef, undef, undef, undef, undef, undef, undef, undef, undef, undef, undef, undef, undef, undef, undef, undef, undef, undef, undef, undef, undef, undef, undef, undef, undef, undef, undef, undef, undef, undef, undef, undef, undef, undef, undef, undef, undef, undef, undef, undef, undef, undef, undef, undef, undef, undef, undef, undef, undef, undef, undef, undef, undef, undef, undef, undef, undef, undef, undef, undef, undef, undef, undef, undef, undef, undef, undef, undef, undef, undef, undef, undef, undef, undef, undef, undef, undef, undef, undef, undef], []⟩ [.code body5] := by kernel_rfl
set_option maxRecDepth 100000 in
set_option maxHeartbeats 2000000 in
theorem law5_a (hL : Lay C wl) (hA : BytesAt wl a bs) (hu : ∀ b ∈ bs, InU8 b) (hcap : bs.length ≤ c) (hlen : bs.length ≤ 9223372036854775807)
    (next : ∀ (q : List UInt8) (f t n : Int) (J : List (List Int)) (ta : Option Addr) (tc kb : Nat) (w : World) (z1 z6 z7 z8 z9 za zb zc zd ze zf zg zh zi zj zk zl zm zn zo zp zq zr zs zt zu zv zw zx zy zz zA zB zC zD zE zF zG zH zI zJ zK zL zM zN zO zP zQ zR zS zT zU zV zW zX zY zZ Z0 Z1 Z2 Z3 Z4 Z5 Z6 Z7 Z8 Z9 Za Zb Zc Zd Ze Zf Zg Zh Zi Zj Zk Zl Zm Zn Zo Zp Zq Zr Zs Zt Zu Zv Zw Zx Zy Zz ZA ZB ZC ZD ZE ZF ZG ZH ZI ZJ ZK ZL ZM ZN ZO ZP ZQ ZR ZS ZT ZU ZV ZW ZX ZY ZZ Y0 Y1 Y2 Y3 Y4 Y5 Y6 Y7 Y8 : Value), J.length ≤ 10 → (∀ l ∈ J, l.length ≤ 30) → Lay C w → BaseP q f t J ta kb w → CapsIn kb w ta J → Can Try.prog C b o (fun v _ => v = .bool true) 0 (AloneB Bd) w (G ((base 5).at ⟨#[.slice a bs.length c, z1, .bool false, .pointer (some ⟨kb, 0, none⟩), .slice ta J.length tc, .int .i64 n, z6, z7, z8, z9, za, zb, zc, zd, ze, zf, zg, zh, zi, zj, zk, zl, zm, zn, zo, zp, zq, zr, zs, zt, zu, zv, zw, zx, zy, zz, zA, zB, zC, zD, zE, zF, zG, zH, zI, zJ, zK, zL, zM, zN, zO, zP, zQ, zR, zS, zT, zU, zV, zW, zX, zY, zZ, Z0, Z1, Z2, Z3, Z4, Z5, Z6, Z7, Z8, Z9, Za, Zb, Zc, Zd, Ze, Zf, Zg, Zh, Zi, Zj, Zk, Zl, Zm, Zn, Zo, Zp, Zq, Zr, Zs, Zt, Zu, Zv, Zw, Zx, Zy, Zz, ZA, ZB, ZC, ZD, ZE, ZF, ZG, ZH, ZI, ZJ, ZK, ZL, ZM, ZN, ZO, ZP, ZQ, ZR, ZS, ZT, ZU, ZV, ZW, ZX, ZY, ZZ, Y0, Y1, Y2, Y3, Y4, Y5, Y6, Y7, Y8], []⟩ [.code (tailC 3 body5)]) [])) :
    Can Try.prog C b o (fun v _ => v = .bool true) 0 (AloneB Bd) wl (G ((base 5).at ⟨#[.slice a bs.length c, undef, undef, undef, undef, undef, undef, undef, undef, undef, undef, undef, undef, undef, undef, undef, undef, undef, undef, undef, undef, undef, undef, undef, undef, undef, undef, undef, undef, undef, undef, undef, undef, undef, undef, undef, undef, undef, undef, undef, undef, undef, undef, undef, undef, undef, undef, undef, undef, undef, undef, undef, undef, undef, undef, undef, undef, undef, undef, undef, undef, undef, undef, undef, undef, undef, undef, undef, undef, undef, undef, undef, undef, undef, undef, undef, undef, undef, undef, undef, undef, undef, undef, undef, undef, undef, undef, undef, undef, undef, undef, undef, undef, undef, undef, undef, undef, undef, undef, undef, undef, undef, undef, undef, undef, undef, undef, undef, undef, undef, undef, undef, undef, undef, undef, undef, undef, undef, undef, undef, undef, undef, undef, undef, undef, undef, undef, undef, undef, undef, undef, undef, undef], []⟩ [.code body5]) []) := by
  have hS := steady_aloneB Bd
  have e0 : tailC 0 body5 = .seq (headC 0 body5) (tailC 1 body5) := by kernel_rfl
  have e1 : tailC 1 body5 = .seq (headC 1 body5) (tailC 2 body5) := by kernel_rfl
  have e2 : tailC 2 body5 = .seq (headC 2 body5) (tailC 3 body5) := by kernel_rfl
  rw [show body5 = tailC 0 body5 from rfl]
  rw [e0]
  refine Can.ctl hS hL rfl (fun _ => stepG_seq) ?_
  refine Can.code' okProgS hS hL (okFr_at (by kernel_rfl) rfl rfl ⟨_, Try.func5⟩) ?_
  intro T d W hW B hB
  simp only [headC, body5, Try.f5, Option.getD_some]
  go_wp2
  have hB := hB.out
  subst hB
  intro hc
  have hW := hW.out
  subst hW
  refine Can.re ?_ T d
  clear hc hB hW
  rw [e1]
  refine Can.ctl hS hL rfl (fun _ => stepG_seq) ?_
  refine Can.code' okProgS hS hL (okFr_at (by kernel_rfl) rfl rfl ⟨_, Try.func5⟩) ?_
  intro T d W hW B hB
  simp only [headC, body5, Try.f5, Option.getD_some]
  by_cases hlong : (1048576 : Int) < (bs.length : Int)
  · go_wp2
    have hB := hB.out
    subst hB
    intro hc todo
    have hW := hW.out
    subst hW
    exact end5 (⟨hL.cut.re T d, hL.no⟩ : Lay C (wl.re T d)) rfl
  go_wp2
  have hB := hB.out
  subst hB
  intro hc
  have hW := hW.out
  subst hW
  refine Can.re ?_ T d
  clear hc hB hW hlong
  rw [e2]
  refine Can.ctl hS hL rfl (fun _ => stepG_seq) ?_
  refine Can.code' okProgS hS hL (okFr_at (by kernel_rfl) rfl rfl ⟨_, Try.func5⟩) ?_
  intro T d W hW B hB
  have hAW : BytesAt W a bs := by rw [hW.out]; exact hA.re T d
  have c13 := hidC (drawSums_any hAW hu hcap)
  have fin : RowKit.Hid (∀ (q : List UInt8) (f t n : Int) (J : List (List Int)) (ta : Option Addr) (tc : Nat) w', J.length ≤ 10 → (∀ l ∈ J, l.length ≤ 30) → RowsAt w' ta J → CapsIn w'.heap.size w' ta J → Cut (hidOf C) (frzOf C) (w'.alloc (.cells #[.string ⟨q.toArray⟩, .int .i64 f, .int .i64 t] 24)) → ∀ z1 z6 z7 z8 z9 za zb zc zd ze zf zg zh zi zj zk zl zm zn zo zp zq zr zs zt zu zv zw zx zy zz zA zB zC zD zE zF zG zH zI zJ zK zL zM zN zO zP zQ zR zS zT zU zV zW zX zY zZ Z0 Z1 Z2 Z3 Z4 Z5 Z6 Z7 Z8 Z9 Za Zb Zc Zd Ze Zf Zg Zh Zi Zj Zk Zl Zm Zn Zo Zp Zq Zr Zs Zt Zu Zv Zw Zx Zy Zz ZA ZB ZC ZD ZE ZF ZG ZH ZI ZJ ZK ZL ZM ZN ZO ZP ZQ ZR ZS ZT ZU ZV ZW ZX ZY ZZ Y0 Y1 Y2 Y3 Y4 Y5 Y6 Y7 Y8 : Value, Can Try.prog C b o (fun v _ => v = .bool true) 0 (AloneB Bd) (w'.alloc (.cells #[.string ⟨q.toArray⟩, .int .i64 f, .int .i64 t] 24)) (G ((base 5).at ⟨#[.slice a bs.length c, z1, .bool false, .pointer (some ⟨w'.heap.size, 0, none⟩), .slice ta J.length tc, .int .i64 n, z6, z7, z8, z9, za, zb, zc, zd, ze, zf, zg, zh, zi, zj, zk, zl, zm, zn, zo, zp, zq, zr, zs, zt, zu, zv, zw, zx, zy, zz, zA, zB, zC, zD, zE, zF, zG, zH, zI, zJ, zK, zL, zM, zN, zO, zP, zQ, zR, zS, zT, zU, zV, zW, zX, zY, zZ, Z0, Z1, Z2, Z3, Z4, Z5, Z6, Z7, Z8, Z9, Za, Zb, Zc, Zd, Ze, Zf, Zg, Zh, Zi, Zj, Zk, Zl, Zm, Zn, Zo, Zp, Zq, Zr, Zs, Zt, Zu, Zv, Zw, Zx, Zy, Zz, ZA, ZB, ZC, ZD, ZE, ZF, ZG, ZH, ZI, ZJ, ZK, ZL, ZM, ZN, ZO, ZP, ZQ, ZR, ZS, ZT, ZU, ZV, ZW, ZX, ZY, ZZ, Y0, Y1, Y2, Y3, Y4, Y5, Y6, Y7, Y8], []⟩ [.code (tailC 3 body5)]) [])) := by
    intro q f t n J ta tc w' hJ hJl hR hCp hc z1 z6 z7 z8 z9 za zb zc zd ze zf zg zh zi zj zk zl zm zn zo zp zq zr zs zt zu zv zw zx zy zz zA zB zC zD zE zF zG zH zI zJ zK zL zM zN zO zP zQ zR zS zT zU zV zW zX zY zZ Z0 Z1 Z2 Z3 Z4 Z5 Z6 Z7 Z8 Z9 Za Zb Zc Zd Ze Zf Zg Zh Zi Zj Zk Zl Zm Zn Zo Zp Zq Zr Zs Zt Zu Zv Zw Zx Zy Zz ZA ZB ZC ZD ZE ZF ZG ZH ZI ZJ ZK ZL ZM ZN ZO ZP ZQ ZR ZS ZT ZU ZV ZW ZX ZY ZZ Y0 Y1 Y2 Y3 Y4 Y5 Y6 Y7 Y8
    have hr : Reads (w'.alloc (.cells #[.string ⟨q.toArray⟩, .int .i64 f, .int .i64 t] 24)) w'.heap.size [.string ⟨q.toArray⟩, .int .i64 f, .int .i64 t] := reads_block (t := 24) (alloc_self w' _)
    exact next q f t n J ta tc w'.heap.size _ _ _ _ _ _ _ _ _ _ _ _ _ _ _ _ _ _ _ _ _ _ _ _ _ _ _ _ _ _ _ _ _ _ _ _ _ _ _ _ _ _ _ _ _ _ _ _ _ _ _ _ _ _ _ _ _ _ _ _ _ _ _ _ _ _ _ _ _ _ _ _ _ _ _ _ _ _ _ _ _ _ _ _ _ _ _ _ _ _ _ _ _ _ _ _ _ _ _ _ _ _ _ _ _ _ _ _ _ _ _ _ _ _ _ _ _ _ _ _ _ _ _ _ _ _ _ _ _ hJ hJl ⟨hc, hL.no⟩ ⟨hr, hR.kept (((Grown.refl w').alloc _).kin (B := w'.heap.size) (Nat.le_refl _)).cells (Nat.le_refl _), by rw [World.size_alloc]; omega⟩ (hCp.kept (((Grown.refl w').alloc _).kin (B := w'.heap.size) (Nat.le_refl _)).cells (Nat.le_refl _))
  clear next hA hAW
  simp only [headC, body5, Try.f5, Option.getD_some]
  go_wp2_with (go_at_call 13; (with_reducible refine c13.out.mono ?_); rintro e w' ⟨q, f, t, n, ta, J, tc, rfl, hJ, hJl, hR, hCp, hb⟩)
  have hB := hB.out
  subst hB
  intro hc
  exact fin.out q f t n J ta tc w' hJ hJl hR hCp hc _ _ _ _ _ _ _ _ _ _ _ _ _ _ _ _ _ _ _ _ _ _ _ _ _ _ _ _ _ _ _ _ _ _ _ _ _ _ _ _ _ _ _ _ _ _ _ _ _ _ _ _ _ _ _ _ _ _ _ _ _ _ _ _ _ _ _ _ _ _ _ _ _ _ _ _ _ _ _ _ _ _ _ _ _ _ _ _ _ _ _ _ _ _ _ _ _ _ _ _ _ _ _ _ _ _ _ _ _ _ _ _ _ _ _ _ _ _ _ _ _ _ _ _ _ _ _ _
end
noncomputable def ops5a : Array Oper := match headC 3 body5 with | .region _ o _ => o | _ => #[]
theorem head_ops5a : headC 3 body5 = .region 4 ops5a false := by kernel_rfl
section
variable {C : Cfg} {b o Bd kb : Nat} {wl : World} {f t : Int} {J : List (List Int)} {tc : Nat} {ta : Option Addr} {g : Bool} {R1 R2 : List Int} {E : ByteArray} {A : Int} {q : List UInt8} {n : Int} {a : Option Addr} {bs : List Int} {c : Nat} {R : List Int}
set_option maxRecDepth 100000 in
set_option maxHeartbeats 2000000 in
theorem law5_b {z1 z6 z7 z8 z9 za zb zc zd ze zf zg zh zi zj zk zl zm zn zo zp zq zr zs zt zu zv zw zx zy zz zA zB zC zD zE zF zG zH zI zJ zK zL zM zN zO zP zQ zR zS zT zU zV zW zX zY zZ Z0 Z1 Z2 Z3 Z4 Z5 Z6 Z7 Z8 Z9 Za Zb Zc Zd Ze Zf Zg Zh Zi Zj Zk Zl Zm Zn Zo Zp Zq Zr Zs Zt Zu Zv Zw Zx Zy Zz ZA ZB ZC ZD ZE ZF ZG ZH ZI ZJ ZK ZL ZM ZN ZO ZP ZQ ZR ZS ZT ZU ZV ZW ZX ZY ZZ Y0 Y1 Y2 Y3 Y4 Y5 Y6 Y7 Y8 : Value} (hn : J.length ≤ 1048576) (hm : ∀ l ∈ J, l.length ≤ 1048576) (hBd : Bd < 2000000000) (hD : Sd q f t n J g R) (hL : Lay C wl) (hs : BaseP q f t J ta kb wl)  (hcp : CapsIn kb wl ta J)
    (next : ∀ (C' : Cfg) (b' o' : Nat) (a6 : Option Addr) (c6 : Nat) (w : World) (z1 z8 z9 za zb zc zd ze zf zg zh zi zj zk zl zm zn zo zp zq zr zs zt zu zv zw zx zy zz zA zB zC zD zE zF zG zH zI zJ zK zL zM zN zO zP zQ zR zS zT zU zV zW zX zY zZ Z0 Z1 Z2 Z3 Z4 Z5 Z6 Z7 Z8 Z9 Za Zb Zc Zd Ze Zf Zg Zh Zi Zj Zk Zl Zm Zn Zo Zp Zq Zr Zs Zt Zu Zv Zw Zx Zy Zz ZA ZB ZC ZD ZE ZF ZG ZH ZI ZJ ZK ZL ZM ZN ZO ZP ZQ ZR ZS ZT ZU ZV ZW ZX ZY ZZ Y0 Y1 Y2 Y3 Y4 Y5 Y6 Y7 Y8 : Value), Lay C' w → BaseP q f t J ta kb w → IntsAt w a6 R → CapsIn kb w ta J → Can Try.prog C' b' o' (fun v _ => v = .bool true) 0 (AloneB (Bd + 400)) w (G ((base 5).at ⟨#[.slice a bs.length c, z1, .bool false, .pointer (some ⟨kb, 0, none⟩), .slice ta J.length tc, .int .i64 n, .slice a6 R.length c6, .bool g, z8, z9, za, zb, zc, zd, ze, zf, zg, zh, zi, zj, zk, zl, zm, zn, zo, zp, zq, zr, zs, zt, zu, zv, zw, zx, zy, zz, zA, zB, zC, zD, zE, zF, zG, zH, zI, zJ, zK, zL, zM, zN, zO, zP, zQ, zR, zS, zT, zU, zV, zW, zX, zY, zZ, Z0, Z1, Z2, Z3, Z4, Z5, Z6, Z7, Z8, Z9, Za, Zb, Zc, Zd, Ze, Zf, Zg, Zh, Zi, Zj, Zk, Zl, Zm, Zn, Zo, Zp, Zq, Zr, Zs, Zt, Zu, Zv, Zw, Zx, Zy, Zz, ZA, ZB, ZC, ZD, ZE, ZF, ZG, ZH, ZI, ZJ, ZK, ZL, ZM, ZN, ZO, ZP, ZQ, ZR, ZS, ZT, ZU, ZV, ZW, ZX, ZY, ZZ, Y0, Y1, Y2, Y3, Y4, Y5, Y6, Y7, Y8], []⟩ [.code (tailC 4 body5)]) [])) :
    Can Try.prog C b o (fun v _ => v = .bool true) 0 (AloneB Bd) wl (G ((base 5).at ⟨#[.slice a bs.length c, z1, .bool false, .pointer (some ⟨kb, 0, none⟩), .slice ta J.length tc, .int .i64 n, z6, z7, z8, z9, za, zb, zc, zd, ze, zf, zg, zh, zi, zj, zk, zl, zm, zn, zo, zp, zq, zr, zs, zt, zu, zv, zw, zx, zy, zz, zA, zB, zC, zD, zE, zF, zG, zH, zI, zJ, zK, zL, zM, zN, zO, zP, zQ, zR, zS, zT, zU, zV, zW, zX, zY, zZ, Z0, Z1, Z2, Z3, Z4, Z5, Z6, Z7, Z8, Z9, Za, Zb, Zc, Zd, Ze, Zf, Zg, Zh, Zi, Zj, Zk, Zl, Zm, Zn, Zo, Zp, Zq, Zr, Zs, Zt, Zu, Zv, Zw, Zx, Zy, Zz, ZA, ZB, ZC, ZD, ZE, ZF, ZG, ZH, ZI, ZJ, ZK, ZL, ZM, ZN, ZO, ZP, ZQ, ZR, ZS, ZT, ZU, ZV, ZW, ZX, ZY, ZZ, Y0, Y1, Y2, Y3, Y4, Y5, Y6, Y7, Y8], []⟩ [.code (tailC 3 body5)]) []) := by
  have hS := steady_aloneB Bd
  have e3 : tailC 3 body5 = .seq (headC 3 body5) (tailC 4 body5) := by kernel_rfl
  rw [e3]
  refine Can.ctl hS hL rfl (fun _ => stepG_seq) ?_
  rw [head_ops5a]
  generalize hK : [Item.code (tailC 4 body5)] = K₁
  simp only [ops5a, headC, body5, Try.f5, Option.getD_some]
  refine Can.ctl hS hL rfl (fun _ => stepG_region) ?_; simp only [List.size_toArray, List.length_cons, List.length_nil, Nat.reduceAdd, Nat.zero_add, List.range, List.range.loop]
  refine Can.op (ok := okS) hS hL rfl rfl (by k_ne) (by kernel_rfl) (fun T d => ⟨.agg #[.string ⟨q.toArray⟩, .int .i64 f, .int .i64 t], wl.re T d, ?_, fun _ => Can.re ?_ T d⟩)
  · have g0 : (wl.re T d).cell? ⟨kb, 0, none⟩ = _ := (hs.keeper 0 (by simp)).1
    have g1 : (wl.re T d).cell? ⟨kb, 1, none⟩ = _ := (hs.keeper 1 (by simp)).1
    have g2 : (wl.re T d).cell? ⟨kb, 2, none⟩ = _ := (hs.keeper 2 (by simp)).1
    simp only [List.getElem?_cons_zero, List.getElem?_cons_succ] at g0 g1 g2
    go_simp
  walk_nrm
  refine Can.op (ok := okS) hS hL rfl rfl (by k_ne) (by kernel_rfl) (fun T d => ⟨.slice ta J.length tc, wl.re T d, ?_, fun _ => Can.re ?_ T d⟩)
  · go_simp
  walk_nrm
  refine Can.op (ok := okS) hS hL rfl rfl (by k_ne) (by kernel_rfl) (fun T d => ⟨.int .i64 n, wl.re T d, ?_, fun _ => Can.re ?_ T d⟩)
  · go_simp
  walk_nrm
  refine Can.ctl hS hL rfl (fun _ => st_enter' (vs := #[.agg #[.string ⟨q.toArray⟩, .int .i64 f, .int .i64 t], .slice ta J.length tc, .int .i64 n]) rfl rfl (by k_ne) rfl Try.func14 rfl rfl (by kernel_rfl)) ?_
  refine call14s (q := q) hn hm hBd hL hs.rowsAt hD ?_
  intro C' b' o' a6 c6 w hL' K9 hI
  walk_nrm
  have hS' := steady_aloneB (Bd + 400)
  refine Can.op (ok := okS) hS' hL' rfl rfl (by k_ne) (by kernel_rfl) (fun T d => ⟨.tuple #[.slice a6 R.length c6, .bool g], w.re T d, ?_, fun _ => Can.re ?_ T d⟩)
  · go_simp
  walk_nrm
  refine Can.op (ok := okS) hS' hL' rfl rfl (by k_ne) (by kernel_rfl) (fun T d => ⟨.slice a6 R.length c6, w.re T d, ?_, fun _ => Can.re ?_ T d⟩)
  · go_simp
  walk_nrm
  refine Can.op (ok := okS) hS' hL' rfl rfl (by k_ne) (by kernel_rfl) (fun T d => ⟨.bool g, w.re T d, ?_, fun _ => Can.re ?_ T d⟩)
  · go_simp
  walk_nrm
  refine Can.op (ok := okS) hS' hL' rfl rfl (by k_ne) (by kernel_rfl) (fun T d => ⟨.slice a6 R.length c6, w.re T d, ?_, fun _ => Can.re ?_ T d⟩)
  · go_simp
  walk_nrm
  refine Can.op (ok := okS) hS' hL' rfl rfl (by k_ne) (by kernel_rfl) (fun T d => ⟨.bool g, w.re T d, ?_, fun _ => Can.re ?_ T d⟩)
  · go_simp
  walk_nrm
  refine Can.ctl hS' hL' rfl (fun _ => stepG_region_end) ?_
  subst hK
  exact next C' b' o' a6 c6 w _ _ _ _ _ _ _ _ _ _ _ _ _ _ _ _ _ _ _ _ _ _ _ _ _ _ _ _ _ _ _ _ _ _ _ _ _ _ _ _ _ _ _ _ _ _ _ _ _ _ _ _ _ _ _ _ _ _ _ _ _ _ _ _ _ _ _ _ _ _ _ _ _ _ _ _ _ _ _ _ _ _ _ _ _ _ _ _ _ _ _ _ _ _ _ _ _ _ _ _ _ _ _ _ _ _ _ _ _ _ _ _ _ _ _ _ _ _ _ _ _ _ _ _ _ _ hL' (hs.kin (K9.le hs.low)) hI (hcp.kept (K9.le (Nat.le_of_lt hs.low)).cells (Nat.le_refl _))
end
section
variable {C : Cfg} {b o Bd kb : Nat} {wl : World} {f t : Int} {J : List (List Int)} {tc : Nat} {ta : Option Addr} {g : Bool} {R1 R2 : List Int} {E : ByteArray} {A : Int} {q : List UInt8} {n : Int} {a : Option Addr} {bs : List Int} {c : Nat} {R : List Int} {a6 : Option Addr} {c6 : Nat}
set_option maxRecDepth 100000 in
set_option maxHeartbeats 2000000 in
theorem law5_c {z1 z8 z9 za zb zc zd ze zf zg zh zi zj zk zl zm zn zo zp zq zr zs zt zu zv zw zx zy zz zA zB zC zD zE zF zG zH zI zJ zK zL zM zN zO zP zQ zR zS zT zU zV zW zX zY zZ Z0 Z1 Z2 Z3 Z4 Z5 Z6 Z7 Z8 Z9 Za Zb Zc Zd Ze Zf Zg Zh Zi Zj Zk Zl Zm Zn Zo Zp Zq Zr Zs Zt Zu Zv Zw Zx Zy Zz ZA ZB ZC ZD ZE ZF ZG ZH ZI ZJ ZK ZL ZM ZN ZO ZP ZQ ZR ZS ZT ZU ZV ZW ZX ZY ZZ Y0 Y1 Y2 Y3 Y4 Y5 Y6 Y7 Y8 : Value} (hn : J.length ≤ 1048576) (hm : ∀ l ∈ J, l.length ≤ 1048576) (hD : Sd q f t n J g R) (hL : Lay C wl) (hs : BaseP q f t J ta kb wl) (hcp : CapsIn kb wl ta J) (h6 : IntsAt wl a6 R)
    (next : ∀ (a8 : Option Addr) (c8 : Nat) (w : World) (z1 za zb zc zd ze zf zg zh zi zj zk zl zm zn zo zp zq zr zs zt zu zv zw zx zy zz zA zB zC zD zE zF zG zH zI zJ zK zL zM zN zO zP zQ zR zS zT zU zV zW zX zY zZ Z0 Z1 Z2 Z3 Z4 Z5 Z6 Z7 Z8 Z9 Za Zb Zc Zd Ze Zf Zg Zh Zi Zj Zk Zl Zm Zn Zo Zp Zq Zr Zs Zt Zu Zv Zw Zx Zy Zz ZA ZB ZC ZD ZE ZF ZG ZH ZI ZJ ZK ZL ZM ZN ZO ZP ZQ ZR ZS ZT ZU ZV ZW ZX ZY ZZ Y0 Y1 Y2 Y3 Y4 Y5 Y6 Y7 Y8 : Value), Lay C w → BaseP q f t J ta kb w → CapsIn kb w ta J → IntsAt w a6 R → IntsAt w a8 R → Can Try.prog C b o (fun v _ => v = .bool true) 0 (AloneB Bd) w (G ((base 5).at ⟨#[.slice a bs.length c, z1, .bool false, .pointer (some ⟨kb, 0, none⟩), .slice ta J.length tc, .int .i64 n, .slice a6 R.length c6, .bool g, .slice a8 R.length c8, .bool g, za, zb, zc, zd, ze, zf, zg, zh, zi, zj, zk, zl, zm, zn, zo, zp, zq, zr, zs, zt, zu, zv, zw, zx, zy, zz, zA, zB, zC, zD, zE, zF, zG, zH, zI, zJ, zK, zL, zM, zN, zO, zP, zQ, zR, zS, zT, zU, zV, zW, zX, zY, zZ, Z0, Z1, Z2, Z3, Z4, Z5, Z6, Z7, Z8, Z9, Za, Zb, Zc, Zd, Ze, Zf, Zg, Zh, Zi, Zj, Zk, Zl, Zm, Zn, Zo, Zp, Zq, Zr, Zs, Zt, Zu, Zv, Zw, Zx, Zy, Zz, ZA, ZB, ZC, ZD, ZE, ZF, ZG, ZH, ZI, ZJ, ZK, ZL, ZM, ZN, ZO, ZP, ZQ, ZR, ZS, ZT, ZU, ZV, ZW, ZX, ZY, ZZ, Y0, Y1, Y2, Y3, Y4, Y5, Y6, Y7, Y8], []⟩ [.code (tailC 5 body5)]) [])) :
    Can Try.prog C b o (fun v _ => v = .bool true) 0 (AloneB Bd) wl (G ((base 5).at ⟨#[.slice a bs.length c, z1, .bool false, .pointer (some ⟨kb, 0, none⟩), .slice ta J.length tc, .int .i64 n, .slice a6 R.length c6, .bool g, z8, z9, za, zb, zc, zd, ze, zf, zg, zh, zi, zj, zk, zl, zm, zn, zo, zp, zq, zr, zs, zt, zu, zv, zw, zx, zy, zz, zA, zB, zC, zD, zE, zF, zG, zH, zI, zJ, zK, zL, zM, zN, zO, zP, zQ, zR, zS, zT, zU, zV, zW, zX, zY, zZ, Z0, Z1, Z2, Z3, Z4, Z5, Z6, Z7, Z8, Z9, Za, Zb, Zc, Zd, Ze, Zf, Zg, Zh, Zi, Zj, Zk, Zl, Zm, Zn, Zo, Zp, Zq, Zr, Zs, Zt, Zu, Zv, Zw, Zx, Zy, Zz, ZA, ZB, ZC, ZD, ZE, ZF, ZG, ZH, ZI, ZJ, ZK, ZL, ZM, ZN, ZO, ZP, ZQ, ZR, ZS, ZT, ZU, ZV, ZW, ZX, ZY, ZZ, Y0, Y1, Y2, Y3, Y4, Y5, Y6, Y7, Y8], []⟩ [.code (tailC 4 body5)]) []) := by
  have hS := steady_aloneB Bd
  have e4 : tailC 4 body5 = .seq (headC 4 body5) (tailC 5 body5) := by kernel_rfl
  rw [e4]
  refine Can.ctl hS hL rfl (fun _ => stepG_seq) ?_
  refine Can.code' okProgS hS hL (okFr_at (by kernel_rfl) rfl rfl ⟨_, Try.func5⟩) ?_
  intro T d W hW B hB
  have g0 : W.cell? ⟨kb, 0, none⟩ = some (.string ⟨q.toArray⟩) := by rw [hW.out]; exact (hs.keeper 0 (by simp)).1
  have g1 : W.cell? ⟨kb, 1, none⟩ = some (.int .i64 f) := by rw [hW.out]; exact (hs.keeper 1 (by simp)).1
  have g2 : W.cell? ⟨kb, 2, none⟩ = some (.int .i64 t) := by rw [hW.out]; exact (hs.keeper 2 (by simp)).1
  have hRW : RowsAt W ta J := by rw [hW.out]; exact RowsIn.re hs.rowsAt T d
  have c15 := hidC (spec15 (tc' := tc) hn hm hRW hD)
  simp only [headC, body5, Try.f5, Option.getD_some]
  go_wp2_with (go_at_call 15; (with_reducible refine c15.out.mono ?_); rintro e w' ⟨a8, c8, rfl, h8⟩)
  have hB := hB.out
  subst hB
  intro hc
  have hW := hW.out
  subst hW
  have K9 := bwre h8.out.2
  exact next a8 c8 w' _ _ _ _ _ _ _ _ _ _ _ _ _ _ _ _ _ _ _ _ _ _ _ _ _ _ _ _ _ _ _ _ _ _ _ _ _ _ _ _ _ _ _ _ _ _ _ _ _ _ _ _ _ _ _ _ _ _ _ _ _ _ _ _ _ _ _ _ _ _ _ _ _ _ _ _ _ _ _ _ _ _ _ _ _ _ _ _ _ _ _ _ _ _ _ _ _ _ _ _ _ _ _ _ _ _ _ _ _ _ _ _ _ _ _ _ _ _ _ _ _ _ _ _ ⟨hc, hL.no⟩ (hs.kin (K9.le hs.low)) (hcp.kept (K9.le (Nat.le_of_lt hs.low)).cells (Nat.le_refl _)) (h6.kept K9.cells K9.size) h8.out.1
end
section
variable {C : Cfg} {b o Bd kb : Nat} {wl : World} {f t : Int} {J : List (List Int)} {tc : Nat} {ta : Option Addr} {g : Bool} {R1 R2 : List Int} {E : ByteArray} {A : Int} {q : List UInt8} {n : Int} {a : Option Addr} {bs : List Int} {c : Nat} {R : List Int} {a6 : Option Addr} {c6 : Nat} {a8 : Option Addr} {c8 : Nat}
set_option maxRecDepth 100000 in
set_option maxHeartbeats 2000000 in
theorem law5_d {z1 za zb zc zd ze zf zg zh zi zj zk zl zm zn zo zp zq zr zs zt zu zv zw zx zy zz zA zB zC zD zE zF zG zH zI zJ zK zL zM zN zO zP zQ zR zS zT zU zV zW zX zY zZ Z0 Z1 Z2 Z3 Z4 Z5 Z6 Z7 Z8 Z9 Za Zb Zc Zd Ze Zf Zg Zh Zi Zj Zk Zl Zm Zn Zo Zp Zq Zr Zs Zt Zu Zv Zw Zx Zy Zz ZA ZB ZC ZD ZE ZF ZG ZH ZI ZJ ZK ZL ZM ZN ZO ZP ZQ ZR ZS ZT ZU ZV ZW ZX ZY ZZ Y0 Y1 Y2 Y3 Y4 Y5 Y6 Y7 Y8 : Value} (hRn : R.length ≤ 1048576) (hL : Lay C wl) (hs : BaseP q f t J ta kb wl) (hcp : CapsIn kb wl ta J) (h6 : IntsAt wl a6 R) (h8 : IntsAt wl a8 R)
    (next : ∀ (w : World) (z1 za zb zc zd ze zf zg zh zi zj zk zl zm zn zo zp zq zr zs zt zu zv zw zx zy zz zA zB zC zD zE zF zG zH zI zJ zK zL zM zN zO zP zQ zR zS zT zU zV zW zX zY zZ Z0 Z1 Z2 Z3 Z4 Z5 Z6 Z7 Z8 Z9 Za Zb Zc Zd Ze Zf Zg Zh Zi Zj Zk Zl Zm Zn Zo Zp Zq Zr Zs Zt Zu Zv Zw Zx Zy Zz ZA ZB ZC ZD ZE ZF ZG ZH ZI ZJ ZK ZL ZM ZN ZO ZP ZQ ZR ZS ZT ZU ZV ZW ZX ZY ZZ Y0 Y1 Y2 Y3 Y4 Y5 Y6 Y7 Y8 : Value), g = true → Lay C w → BaseP q f t J ta kb w → CapsIn kb w ta J → IntsAt w a6 R → Can Try.prog C b o (fun v _ => v = .bool true) 0 (AloneB Bd) w (G ((base 5).at ⟨#[.slice a bs.length c, z1, .bool false, .pointer (some ⟨kb, 0, none⟩), .slice ta J.length tc, .int .i64 n, .slice a6 R.length c6, .bool true, .slice a8 R.length c8, .bool true, za, zb, zc, zd, ze, zf, zg, zh, zi, zj, zk, zl, zm, zn, zo, zp, zq, zr, zs, zt, zu, zv, zw, zx, zy, zz, zA, zB, zC, zD, zE, zF, zG, zH, zI, zJ, zK, zL, zM, zN, zO, zP, zQ, zR, zS, zT, zU, zV, zW, zX, zY, zZ, Z0, Z1, Z2, Z3, Z4, Z5, Z6, Z7, Z8, Z9, Za, Zb, Zc, Zd, Ze, Zf, Zg, Zh, Zi, Zj, Zk, Zl, Zm, Zn, Zo, Zp, Zq, Zr, Zs, Zt, Zu, Zv, Zw, Zx, Zy, Zz, ZA, ZB, ZC, ZD, ZE, ZF, ZG, ZH, ZI, ZJ, ZK, ZL, ZM, ZN, ZO, ZP, ZQ, ZR, ZS, ZT, ZU, ZV, ZW, ZX, ZY, ZZ, Y0, Y1, Y2, Y3, Y4, Y5, Y6, Y7, Y8], []⟩ [.code (tailC 6 body5)]) [])) :
    Can Try.prog C b o (fun v _ => v = .bool true) 0 (AloneB Bd) wl (G ((base 5).at ⟨#[.slice a bs.length c, z1, .bool false, .pointer (some ⟨kb, 0, none⟩), .slice ta J.length tc, .int .i64 n, .slice a6 R.length c6, .bool g, .slice a8 R.length c8, .bool g, za, zb, zc, zd, ze, zf, zg, zh, zi, zj, zk, zl, zm, zn, zo, zp, zq, zr, zs, zt, zu, zv, zw, zx, zy, zz, zA, zB, zC, zD, zE, zF, zG, zH, zI, zJ, zK, zL, zM, zN, zO, zP, zQ, zR, zS, zT, zU, zV, zW, zX, zY, zZ, Z0, Z1, Z2, Z3, Z4, Z5, Z6, Z7, Z8, Z9, Za, Zb, Zc, Zd, Ze, Zf, Zg, Zh, Zi, Zj, Zk, Zl, Zm, Zn, Zo, Zp, Zq, Zr, Zs, Zt, Zu, Zv, Zw, Zx, Zy, Zz, ZA, ZB, ZC, ZD, ZE, ZF, ZG, ZH, ZI, ZJ, ZK, ZL, ZM, ZN, ZO, ZP, ZQ, ZR, ZS, ZT, ZU, ZV, ZW, ZX, ZY, ZZ, Y0, Y1, Y2, Y3, Y4, Y5, Y6, Y7, Y8], []⟩ [.code (tailC 5 body5)]) []) := by
  have hS := steady_aloneB Bd
  have e5 : tailC 5 body5 = .seq (headC 5 body5) (tailC 6 body5) := by kernel_rfl
  rw [e5]
  refine Can.ctl hS hL rfl (fun _ => stepG_seq) ?_
  refine Can.code' okProgS hS hL (okFr_at (by kernel_rfl) rfl rfl ⟨_, Try.func5⟩) ?_
  intro T d W hW B hB
  have i6 : IntsAt W a6 R := by rw [hW.out]; exact h6
  have i8 : IntsAt W a8 R := by rw [hW.out]; exact h8
  have c12 := hidC (cbSame_same a6 a8 c6 c8 R W hRn i6 i8)
  have c12' : RowKit.Hid (∀ w', Below W.heap.size W w' → Calls Try.prog 12 #[.slice a6 R.length c6, .slice a8 R.length c8] w' fun e w'' => e = .returned (.bool true) ∧ Below w'.heap.size w' w'') := fun w' hb => cbSame_same a6 a8 c6 c8 R w' hRn (i6.below hb (Nat.le_refl _)) (i8.below hb (Nat.le_refl _))
  simp only [headC, body5, Try.f5, Option.getD_some]
  cases hg : g with
  | false =>
    go_wp2_with (first
      | (go_at_call 12; (with_reducible refine c12.out.mono ?_); rintro e w1 ⟨rfl, hb1⟩)
      | (go_at_call 12; (with_reducible refine (c12'.out _ hb1).mono ?_); rintro e w2 ⟨rfl, hb2⟩))
    have hB := hB.out
    subst hB
    intro hc todo
    exact end5 ⟨hc, hL.no⟩ rfl
  | true =>
    go_wp2_with (go_at_call 12; (with_reducible refine c12.out.mono ?_); rintro e w1 ⟨rfl, hb1⟩)
    have hB := hB.out
    subst hB
    intro hc
    have hW := hW.out
    subst hW
    have K9 := bwre hb1
    exact next w1 _ _ _ _ _ _ _ _ _ _ _ _ _ _ _ _ _ _ _ _ _ _ _ _ _ _ _ _ _ _ _ _ _ _ _ _ _ _ _ _ _ _ _ _ _ _ _ _ _ _ _ _ _ _ _ _ _ _ _ _ _ _ _ _ _ _ _ _ _ _ _ _ _ _ _ _ _ _ _ _ _ _ _ _ _ _ _ _ _ _ _ _ _ _ _ _ _ _ _ _ _ _ _ _ _ _ _ _ _ _ _ _ _ _ _ _ _ _ _ _ _ _ _ _ hg ⟨hc, hL.no⟩ (hs.kin (K9.le hs.low)) (hcp.kept (K9.le (Nat.le_of_lt hs.low)).cells (Nat.le_refl _)) (h6.kept K9.cells K9.size)
end
end Go.Town.Kp
