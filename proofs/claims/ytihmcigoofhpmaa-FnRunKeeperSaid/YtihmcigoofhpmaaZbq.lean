/-
  The law FnRunKeeper: the draw; the two answers.
-/
import Derived.Test.YtihmcigoofhpmaaZbp
set_option linter.all false
namespace Go.Town.Kp
open Go Go.Conc Go.Conc.Lib Go.ConcR.Gen Go.RowKit Go.Town Go.Proofs
open Go.ConcN (upd upd_ne upd_same)
def listR : List FuncId := [27, 28, 9, 32, 33, 34, 41, 42, 47, 12, 11, 25, 35, 37, 46, 26, 38, 43, 39, 40, 52, 66, 67]
def okR (f : FuncId) : Bool := listR.contains f
theorem okProgR : OkProg Try.prog okR := okProg_of listR (fun f h => by unfold okR at h; simpa using h) (List.all_eq_true.1 (show (listR.all (okBody okR)) = true by kernel_rfl))
noncomputable def body7 : Code := Try.f7.body.getD .skip
theorem end7 {C : Cfg} {b o Bd : Nat} {wl : World} {tmps : Array Value} {todo : List Item} (hL : Lay C wl) (h2 : tmps[2]? = some (.bool true)) :
    Can Try.prog C b o (fun v _ => v = .bool true) 0 (AloneB Bd) wl (G { (base 7).at ⟨tmps, []⟩ todo with mode := .returning } []) := by
  refine Can.mono (Rs := Alone) (Can.ends (v := .bool true) hL rfl (fun w hw => ?_) (fun _ _ => rfl)) (fun _ _ _ h => h.1)
  have hr : (results Try.f7 tmps).runT Try.prog w #[] = (.ok (.bool true) w, #[]) := by
    simp [results, Try.results7, h2, Sem.runT]
  refine ⟨seen Try.prog 7 #[], ?_, ?_⟩
  · simp only [stepG, G, Frame.at, base, unwind, Try.func7]
    rw [hr]
    simp [doReturn, GStep.after, Result.setW]
  · intro e he; rw [seen_none] at he; simp at he
section
variable {C : Cfg} {b o Bd : Nat} {wl : World} {a : Option Addr} {bs : List Int} {c : Nat}
theorem enter7 : Frame.enter Try.prog 7 #[.slice a bs.length c] .normal = (base 7).at ⟨#[.slice a bs.length c, undef, undef, undef, undef, undef, undef, undef, undef, undef, undef, undef, undef, undef, undef, undef, undef, undef, undef, undef, undef, undef, undef, undef, undef, undef, undef, undef, undef, undef, undef, undef, undef, undef, undef, undef, undef, undef, undef, undef, undef, undef, undef, undef, undef, undef, undef, undef, undef, undef, undef, undef, undef, undef, undef, undef, undef, undef, undef, undef, undef, undef, undef, undef, undef, undef, undef, undef, undef, undef, undef, undef, undef, undef, undef, undef, undef, undef, undef, undef, undef, undef, undef, undef, undef, undef, undef, undef, undef, undef, undef, undef, undef, undef, undef, undef, undef, undef, undef, undef, undef, undef, undef, undef, undef, undef, undef, undef, undef, undef, undef, undef, undef, undef, undef, undef, undef, undef, undef, undef, undef, undef, undef, undef, undef, undef, undef, undef, undef, undef, undef, undef, undef, undef, undef, undef, undef, undef, undef, undef, undef, undef, undef, undef, undef, undef, undef, undef, undef, undef, undef, undef, undef, undef, undef, undef, undef, undef, undef, undef, undef, undef, undef, undef, undef, undef, undef, undef, undef, undef, undef, undef, undef, undef, undef, undef, undef, undef, undef, undef, undef, undef], []⟩ [.code body7] := by kernel_rfl
set_option maxRecDepth 100000 in
set_option maxHeartbeats 2000000 in
theorem law7_a (hL : Lay C wl) (hA : BytesAt wl a bs) (hu : ∀ b ∈ bs, InU8 b) (hcap : bs.length ≤ c) (hlen : bs.length ≤ 9223372036854775807)
    (next : ∀ (q : List UInt8) (f t : Int) (J : List (List Int)) (ta : Option Addr) (tc kb : Nat) (w : World) (z1 z5 z6 z7 z8 z9 za zb zc zd ze zf zg zh zi zj zk zl zm zn zo zp zq zr zs zt zu zv zw zx zy zz zA zB zC zD zE zF zG zH zI zJ zK zL zM zN zO zP zQ zR zS zT zU zV zW zX zY zZ Z0 Z1 Z2 Z3 Z4 Z5 Z6 Z7 Z8 Z9 Za Zb Zc Zd Ze Zf Zg Zh Zi Zj Zk Zl Zm Zn Zo Zp Zq Zr Zs Zt Zu Zv Zw Zx Zy Zz ZA ZB ZC ZD ZE ZF ZG ZH ZI ZJ ZK ZL ZM ZN ZO ZP ZQ ZR ZS ZT ZU ZV ZW ZX ZY ZZ Y0 Y1 Y2 Y3 Y4 Y5 Y6 Y7 Y8 Y9 Ya Yb Yc Yd Ye Yf Yg Yh Yi Yj Yk Yl Ym Yn Yo Yp Yq Yr Ys Yt Yu Yv Yw Yx Yy Yz YA YB YC YD YE YF YG YH YI YJ YK YL YM YN YO YP YQ YR YS YT YU YV : Value), J.length ≤ 10 → (∀ l ∈ J, l.length ≤ 30) → Lay C w → BaseP q f t J ta kb w → Can Try.prog C b o (fun v _ => v = .bool true) 0 (AloneB Bd) w (G ((base 7).at ⟨#[.slice a bs.length c, z1, .bool false, .pointer (some ⟨kb, 0, none⟩), .slice ta J.length tc, z5, z6, z7, z8, z9, za, zb, zc, zd, ze, zf, zg, zh, zi, zj, zk, zl, zm, zn, zo, zp, zq, zr, zs, zt, zu, zv, zw, zx, zy, zz, zA, zB, zC, zD, zE, zF, zG, zH, zI, zJ, zK, zL, zM, zN, zO, zP, zQ, zR, zS, zT, zU, zV, zW, zX, zY, zZ, Z0, Z1, Z2, Z3, Z4, Z5, Z6, Z7, Z8, Z9, Za, Zb, Zc, Zd, Ze, Zf, Zg, Zh, Zi, Zj, Zk, Zl, Zm, Zn, Zo, Zp, Zq, Zr, Zs, Zt, Zu, Zv, Zw, Zx, Zy, Zz, ZA, ZB, ZC, ZD, ZE, ZF, ZG, ZH, ZI, ZJ, ZK, ZL, ZM, ZN, ZO, ZP, ZQ, ZR, ZS, ZT, ZU, ZV, ZW, ZX, ZY, ZZ, Y0, Y1, Y2, Y3, Y4, Y5, Y6, Y7, Y8, Y9, Ya, Yb, Yc, Yd, Ye, Yf, Yg, Yh, Yi, Yj, Yk, Yl, Ym, Yn, Yo, Yp, Yq, Yr, Ys, Yt, Yu, Yv, Yw, Yx, Yy, Yz, YA, YB, YC, YD, YE, YF, YG, YH, YI, YJ, YK, YL, YM, YN, YO, YP, YQ, YR, YS, YT, YU, YV], []⟩ [.code (tailC 3 body7)]) [])) :
    Can Try.prog C b o (fun v _ => v = .bool true) 0 (AloneB Bd) wl (G ((base 7).at ⟨#[.slice a bs.length c, undef, undef, undef, undef, undef, undef, undef, undef, undef, undef, undef, undef, undef, undef, undef, undef, undef, undef, undef, undef, undef, undef, undef, undef, undef, undef, undef, undef, undef, undef, undef, undef, undef, undef, undef, undef, undef, undef, undef, undef, undef, undef, undef, undef, undef, undef, undef, undef, undef, undef, undef, undef, undef, undef, undef, undef, undef, undef, undef, undef, undef, undef, undef, undef, undef, undef, undef, undef, undef, undef, undef, undef, undef, undef, undef, undef, undef, undef, undef, undef, undef, undef, undef, undef, undef, undef, undef, undef, undef, undef, undef, undef, undef, undef, undef, undef, undef, undef, undef, undef, undef, undef, undef, undef, undef, undef, undef, undef, undef, undef, undef, undef, undef, undef, undef, undef, undef, undef, undef, undef, undef, undef, undef, undef, undef, undef, undef, undef, undef, undef, undef, undef, undef, undef, undef, undef, undef, undef, undef, undef, undef, undef, undef, undef, undef, undef, undef, undef, undef, undef, undef, undef, undef, undef, undef, undef, undef, undef, undef, undef, undef, undef, undef, undef, undef, undef, undef, undef, undef, undef, undef, undef, undef, undef, undef, undef, undef, undef, undef, undef, undef], []⟩ [.code body7]) []) := by
  have hS := steady_aloneB Bd
  have e0 : tailC 0 body7 = .seq (headC 0 body7) (tailC 1 body7) := by kernel_rfl
  have e1 : tailC 1 body7 = .seq (headC 1 body7) (tailC 2 body7) := by kernel_rfl
  have e2 : tailC 2 body7 = .seq (headC 2 body7) (tailC 3 body7) := by kernel_rfl
  rw [show body7 = tailC 0 body7 from rfl]
  rw [e0]
  refine Can.ctl hS hL rfl (fun _ => stepG_seq) ?_
  refine Can.code' okProgR hS hL (okFr_at (by kernel_rfl) rfl rfl ⟨_, Try.func7⟩) ?_
  intro T d W hW B hB
  simp only [headC, body7, Try.f7, Option.getD_some]
  go_wp2
  have hB := hB.out
  subst hB
  intro hc
  have hW := hW.out
  subst hW
  refine Can.re ?_ T d
  clear hc hB hW
  rw [e1]
  refine Can.ctl hS hL rfl (fun _ => stepG_seq) ?_
  refine Can.code' okProgR hS hL (okFr_at (by kernel_rfl) rfl rfl ⟨_, Try.func7⟩) ?_
  intro T d W hW B hB
  simp only [headC, body7, Try.f7, Option.getD_some]
  by_cases hlong : (1048576 : Int) < (bs.length : Int)
  · go_wp2
    have hB := hB.out
    subst hB
    intro hc todo
    have hW := hW.out
    subst hW
    exact end7 (⟨hL.cut.re T d, hL.no⟩ : Lay C (wl.re T d)) rfl
  go_wp2
  have hB := hB.out
  subst hB
  intro hc
  have hW := hW.out
  subst hW
  refine Can.re ?_ T d
  clear hc hB hW hlong
  rw [e2]
  refine Can.ctl hS hL rfl (fun _ => stepG_seq) ?_
  refine Can.code' okProgR hS hL (okFr_at (by kernel_rfl) rfl rfl ⟨_, Try.func7⟩) ?_
  intro T d W hW B hB
  have hAW : BytesAt W a bs := by rw [hW.out]; exact hA.re T d
  have c9 := hidC (drawRun_any hAW hu hcap)
  have fin : RowKit.Hid (∀ (q : List UInt8) (f t : Int) (J : List (List Int)) (ta : Option Addr) (tc : Nat) w', J.length ≤ 10 → (∀ l ∈ J, l.length ≤ 30) → RowsAt w' ta J → Cut (hidOf C) (frzOf C) (w'.alloc (.cells #[.string ⟨q.toArray⟩, .int .i64 f, .int .i64 t] 24)) → ∀ z1 z5 z6 z7 z8 z9 za zb zc zd ze zf zg zh zi zj zk zl zm zn zo zp zq zr zs zt zu zv zw zx zy zz zA zB zC zD zE zF zG zH zI zJ zK zL zM zN zO zP zQ zR zS zT zU zV zW zX zY zZ Z0 Z1 Z2 Z3 Z4 Z5 Z6 Z7 Z8 Z9 Za Zb Zc Zd Ze Zf Zg Zh Zi Zj Zk Zl Zm Zn Zo Zp Zq Zr Zs Zt Zu Zv Zw Zx Zy Zz ZA ZB ZC ZD ZE ZF ZG ZH ZI ZJ ZK ZL ZM ZN ZO ZP ZQ ZR ZS ZT ZU ZV ZW ZX ZY ZZ Y0 Y1 Y2 Y3 Y4 Y5 Y6 Y7 Y8 Y9 Ya Yb Yc Yd Ye Yf Yg Yh Yi Yj Yk Yl Ym Yn Yo Yp Yq Yr Ys Yt Yu Yv Yw Yx Yy Yz YA YB YC YD YE YF YG YH YI YJ YK YL YM YN YO YP YQ YR YS YT YU YV : Value, Can Try.prog C b o (fun v _ => v = .bool true) 0 (AloneB Bd) (w'.alloc (.cells #[.string ⟨q.toArray⟩, .int .i64 f, .int .i64 t] 24)) (G ((base 7).at ⟨#[.slice a bs.length c, z1, .bool false, .pointer (some ⟨w'.heap.size, 0, none⟩), .slice ta J.length tc, z5, z6, z7, z8, z9, za, zb, zc, zd, ze, zf, zg, zh, zi, zj, zk, zl, zm, zn, zo, zp, zq, zr, zs, zt, zu, zv, zw, zx, zy, zz, zA, zB, zC, zD, zE, zF, zG, zH, zI, zJ, zK, zL, zM, zN, zO, zP, zQ, zR, zS, zT, zU, zV, zW, zX, zY, zZ, Z0, Z1, Z2, Z3, Z4, Z5, Z6, Z7, Z8, Z9, Za, Zb, Zc, Zd, Ze, Zf, Zg, Zh, Zi, Zj, Zk, Zl, Zm, Zn, Zo, Zp, Zq, Zr, Zs, Zt, Zu, Zv, Zw, Zx, Zy, Zz, ZA, ZB, ZC, ZD, ZE, ZF, ZG, ZH, ZI, ZJ, ZK, ZL, ZM, ZN, ZO, ZP, ZQ, ZR, ZS, ZT, ZU, ZV, ZW, ZX, ZY, ZZ, Y0, Y1, Y2, Y3, Y4, Y5, Y6, Y7, Y8, Y9, Ya, Yb, Yc, Yd, Ye, Yf, Yg, Yh, Yi, Yj, Yk, Yl, Ym, Yn, Yo, Yp, Yq, Yr, Ys, Yt, Yu, Yv, Yw, Yx, Yy, Yz, YA, YB, YC, YD, YE, YF, YG, YH, YI, YJ, YK, YL, YM, YN, YO, YP, YQ, YR, YS, YT, YU, YV], []⟩ [.code (tailC 3 body7)]) [])) := by
    intro q f t J ta tc w' hJ hJl hR hc z1 z5 z6 z7 z8 z9 za zb zc zd ze zf zg zh zi zj zk zl zm zn zo zp zq zr zs zt zu zv zw zx zy zz zA zB zC zD zE zF zG zH zI zJ zK zL zM zN zO zP zQ zR zS zT zU zV zW zX zY zZ Z0 Z1 Z2 Z3 Z4 Z5 Z6 Z7 Z8 Z9 Za Zb Zc Zd Ze Zf Zg Zh Zi Zj Zk Zl Zm Zn Zo Zp Zq Zr Zs Zt Zu Zv Zw Zx Zy Zz ZA ZB ZC ZD ZE ZF ZG ZH ZI ZJ ZK ZL ZM ZN ZO ZP ZQ ZR ZS ZT ZU ZV ZW ZX ZY ZZ Y0 Y1 Y2 Y3 Y4 Y5 Y6 Y7 Y8 Y9 Ya Yb Yc Yd Ye Yf Yg Yh Yi Yj Yk Yl Ym Yn Yo Yp Yq Yr Ys Yt Yu Yv Yw Yx Yy Yz YA YB YC YD YE YF YG YH YI YJ YK YL YM YN YO YP YQ YR YS YT YU YV
    have hr : Reads (w'.alloc (.cells #[.string ⟨q.toArray⟩, .int .i64 f, .int .i64 t] 24)) w'.heap.size [.string ⟨q.toArray⟩, .int .i64 f, .int .i64 t] := reads_block (t := 24) (alloc_self w' _)
    exact next q f t J ta tc w'.heap.size _ _ _ _ _ _ _ _ _ _ _ _ _ _ _ _ _ _ _ _ _ _ _ _ _ _ _ _ _ _ _ _ _ _ _ _ _ _ _ _ _ _ _ _ _ _ _ _ _ _ _ _ _ _ _ _ _ _ _ _ _ _ _ _ _ _ _ _ _ _ _ _ _ _ _ _ _ _ _ _ _ _ _ _ _ _ _ _ _ _ _ _ _ _ _ _ _ _ _ _ _ _ _ _ _ _ _ _ _ _ _ _ _ _ _ _ _ _ _ _ _ _ _ _ _ _ _ _ _ _ _ _ _ _ _ _ _ _ _ _ _ _ _ _ _ _ _ _ _ _ _ _ _ _ _ _ _ _ _ _ _ _ _ _ _ _ _ _ _ _ _ _ _ _ _ _ _ _ _ hJ hJl ⟨hc, hL.no⟩ ⟨hr, hR.kept (((Grown.refl w').alloc _).kin (B := w'.heap.size) (Nat.le_refl _)).cells (Nat.le_refl _), by rw [World.size_alloc]; omega⟩
  clear next hA hAW
  simp only [headC, body7, Try.f7, Option.getD_some]
  go_wp2_with (go_at_call 9; (with_reducible refine c9.out.mono ?_); rintro e w' ⟨q, f, t, ta, J, tc, rfl, hJ, hJl, hR, hb⟩)
  have hB := hB.out
  subst hB
  intro hc
  exact fin.out q f t J ta tc w' hJ hJl hR hc _ _ _ _ _ _ _ _ _ _ _ _ _ _ _ _ _ _ _ _ _ _ _ _ _ _ _ _ _ _ _ _ _ _ _ _ _ _ _ _ _ _ _ _ _ _ _ _ _ _ _ _ _ _ _ _ _ _ _ _ _ _ _ _ _ _ _ _ _ _ _ _ _ _ _ _ _ _ _ _ _ _ _ _ _ _ _ _ _ _ _ _ _ _ _ _ _ _ _ _ _ _ _ _ _ _ _ _ _ _ _ _ _ _ _ _ _ _ _ _ _ _ _ _ _ _ _ _ _ _ _ _ _ _ _ _ _ _ _ _ _ _ _ _ _ _ _ _ _ _ _ _ _ _ _ _ _ _ _ _ _ _ _ _ _ _ _ _ _ _ _ _ _ _ _ _ _ _
end
noncomputable def ops7 : Array Oper := match headC 3 body7 with | .region _ o _ => o | _ => #[]
theorem head_ops7 : headC 3 body7 = .region 4 ops7 false := by kernel_rfl
section
variable {C : Cfg} {b o Bd kb : Nat} {wl : World} {f t : Int} {J : List (List Int)} {tc : Nat} {ta : Option Addr} {g : Bool} {R1 R2 : List Int} {E : ByteArray} {A : Int} {q : List UInt8} {a : Option Addr} {bs : List Int} {c : Nat}
set_option maxRecDepth 100000 in
set_option maxHeartbeats 2000000 in
theorem law7_b {z1 z5 z6 z7 z8 z9 za zb zc zd ze zf zg zh zi zj zk zl zm zn zo zp zq zr zs zt zu zv zw zx zy zz zA zB zC zD zE zF zG zH zI zJ zK zL zM zN zO zP zQ zR zS zT zU zV zW zX zY zZ Z0 Z1 Z2 Z3 Z4 Z5 Z6 Z7 Z8 Z9 Za Zb Zc Zd Ze Zf Zg Zh Zi Zj Zk Zl Zm Zn Zo Zp Zq Zr Zs Zt Zu Zv Zw Zx Zy Zz ZA ZB ZC ZD ZE ZF ZG ZH ZI ZJ ZK ZL ZM ZN ZO ZP ZQ ZR ZS ZT ZU ZV ZW ZX ZY ZZ Y0 Y1 Y2 Y3 Y4 Y5 Y6 Y7 Y8 Y9 Ya Yb Yc Yd Ye Yf Yg Yh Yi Yj Yk Yl Ym Yn Yo Yp Yq Yr Ys Yt Yu Yv Yw Yx Yy Yz YA YB YC YD YE YF YG YH YI YJ YK YL YM YN YO YP YQ YR YS YT YU YV : Value} (hn : J.length ≤ 1048576) (hm : ∀ l ∈ J, l.length ≤ 1048576) (hBd : Bd < 2000000000) (hD : Kd q f t J g R1 R2 E A) (hL : Lay C wl) (hs : BaseP q f t J ta kb wl)
    (next : ∀ (C' : Cfg) (b' o' k5 : Nat) (d1 d2 : Option Addr) (e1 e2 : Nat) (w : World) (z1 z7 z8 z9 za zb zc zd ze zf zg zh zi zj zk zl zm zn zo zp zq zr zs zt zu zv zw zx zy zz zA zB zC zD zE zF zG zH zI zJ zK zL zM zN zO zP zQ zR zS zT zU zV zW zX zY zZ Z0 Z1 Z2 Z3 Z4 Z5 Z6 Z7 Z8 Z9 Za Zb Zc Zd Ze Zf Zg Zh Zi Zj Zk Zl Zm Zn Zo Zp Zq Zr Zs Zt Zu Zv Zw Zx Zy Zz ZA ZB ZC ZD ZE ZF ZG ZH ZI ZJ ZK ZL ZM ZN ZO ZP ZQ ZR ZS ZT ZU ZV ZW ZX ZY ZZ Y0 Y1 Y2 Y3 Y4 Y5 Y6 Y7 Y8 Y9 Ya Yb Yc Yd Ye Yf Yg Yh Yi Yj Yk Yl Ym Yn Yo Yp Yq Yr Ys Yt Yu Yv Yw Yx Yy Yz YA YB YC YD YE YF YG YH YI YJ YK YL YM YN YO YP YQ YR YS YT YU YV : Value), Lay C' w → BaseP q f t J ta kb w → Reads w k5 [.slice d1 R1.length e1, .slice d2 R2.length e2, .string E, .int .i64 A] → IntsAt w d1 R1 → IntsAt w d2 R2 → k5 < w.heap.size → Can Try.prog C' b' o' (fun v _ => v = .bool true) 0 (AloneB (Bd + 400)) w (G ((base 7).at ⟨#[.slice a bs.length c, z1, .bool false, .pointer (some ⟨kb, 0, none⟩), .slice ta J.length tc, .pointer (some ⟨k5, 0, none⟩), .bool g, z7, z8, z9, za, zb, zc, zd, ze, zf, zg, zh, zi, zj, zk, zl, zm, zn, zo, zp, zq, zr, zs, zt, zu, zv, zw, zx, zy, zz, zA, zB, zC, zD, zE, zF, zG, zH, zI, zJ, zK, zL, zM, zN, zO, zP, zQ, zR, zS, zT, zU, zV, zW, zX, zY, zZ, Z0, Z1, Z2, Z3, Z4, Z5, Z6, Z7, Z8, Z9, Za, Zb, Zc, Zd, Ze, Zf, Zg, Zh, Zi, Zj, Zk, Zl, Zm, Zn, Zo, Zp, Zq, Zr, Zs, Zt, Zu, Zv, Zw, Zx, Zy, Zz, ZA, ZB, ZC, ZD, ZE, ZF, ZG, ZH, ZI, ZJ, ZK, ZL, ZM, ZN, ZO, ZP, ZQ, ZR, ZS, ZT, ZU, ZV, ZW, ZX, ZY, ZZ, Y0, Y1, Y2, Y3, Y4, Y5, Y6, Y7, Y8, Y9, Ya, Yb, Yc, Yd, Ye, Yf, Yg, Yh, Yi, Yj, Yk, Yl, Ym, Yn, Yo, Yp, Yq, Yr, Ys, Yt, Yu, Yv, Yw, Yx, Yy, Yz, YA, YB, YC, YD, YE, YF, YG, YH, YI, YJ, YK, YL, YM, YN, YO, YP, YQ, YR, YS, YT, YU, YV], []⟩ [.code (tailC 4 body7)]) [])) :
    Can Try.prog C b o (fun v _ => v = .bool true) 0 (AloneB Bd) wl (G ((base 7).at ⟨#[.slice a bs.length c, z1, .bool false, .pointer (some ⟨kb, 0, none⟩), .slice ta J.length tc, z5, z6, z7, z8, z9, za, zb, zc, zd, ze, zf, zg, zh, zi, zj, zk, zl, zm, zn, zo, zp, zq, zr, zs, zt, zu, zv, zw, zx, zy, zz, zA, zB, zC, zD, zE, zF, zG, zH, zI, zJ, zK, zL, zM, zN, zO, zP, zQ, zR, zS, zT, zU, zV, zW, zX, zY, zZ, Z0, Z1, Z2, Z3, Z4, Z5, Z6, Z7, Z8, Z9, Za, Zb, Zc, Zd, Ze, Zf, Zg, Zh, Zi, Zj, Zk, Zl, Zm, Zn, Zo, Zp, Zq, Zr, Zs, Zt, Zu, Zv, Zw, Zx, Zy, Zz, ZA, ZB, ZC, ZD, ZE, ZF, ZG, ZH, ZI, ZJ, ZK, ZL, ZM, ZN, ZO, ZP, ZQ, ZR, ZS, ZT, ZU, ZV, ZW, ZX, ZY, ZZ, Y0, Y1, Y2, Y3, Y4, Y5, Y6, Y7, Y8, Y9, Ya, Yb, Yc, Yd, Ye, Yf, Yg, Yh, Yi, Yj, Yk, Yl, Ym, Yn, Yo, Yp, Yq, Yr, Ys, Yt, Yu, Yv, Yw, Yx, Yy, Yz, YA, YB, YC, YD, YE, YF, YG, YH, YI, YJ, YK, YL, YM, YN, YO, YP, YQ, YR, YS, YT, YU, YV], []⟩ [.code (tailC 3 body7)]) []) := by
  have hS := steady_aloneB Bd
  have e3 : tailC 3 body7 = .seq (headC 3 body7) (tailC 4 body7) := by kernel_rfl
  rw [e3]
  refine Can.ctl hS hL rfl (fun _ => stepG_seq) ?_
  rw [head_ops7]
  generalize hK : [Item.code (tailC 4 body7)] = K₁
  simp only [ops7, headC, body7, Try.f7, Option.getD_some]
  refine Can.ctl hS hL rfl (fun _ => stepG_region) ?_; simp only [List.size_toArray, List.length_cons, List.length_nil, Nat.reduceAdd, Nat.zero_add, List.range, List.range.loop]
  refine Can.op (ok := okR) hS hL rfl rfl (by k_ne) (by kernel_rfl) (fun T d => ⟨.agg #[.string ⟨q.toArray⟩, .int .i64 f, .int .i64 t], wl.re T d, ?_, fun _ => Can.re ?_ T d⟩)
  · have g0 : (wl.re T d).cell? ⟨kb, 0, none⟩ = _ := (hs.keeper 0 (by simp)).1
    have g1 : (wl.re T d).cell? ⟨kb, 1, none⟩ = _ := (hs.keeper 1 (by simp)).1
    have g2 : (wl.re T d).cell? ⟨kb, 2, none⟩ = _ := (hs.keeper 2 (by simp)).1
    simp only [List.getElem?_cons_zero, List.getElem?_cons_succ] at g0 g1 g2
    go_simp
  walk_nrm
  refine Can.op (ok := okR) hS hL rfl rfl (by k_ne) (by kernel_rfl) (fun T d => ⟨.slice ta J.length tc, wl.re T d, ?_, fun _ => Can.re ?_ T d⟩)
  · go_simp
  walk_nrm
  refine Can.ctl hS hL rfl (fun _ => st_enter' (vs := #[.agg #[.string ⟨q.toArray⟩, .int .i64 f, .int .i64 t], .slice ta J.length tc]) rfl rfl (by k_ne) rfl Try.func10 rfl rfl (by kernel_rfl)) ?_
  refine call10 (q := q) (J := J) hn hm hBd hL hs.rowsAt hD ?_
  intro C' b' o' d1 d2 e1 e2 w hL' K hI
  walk_nrm
  have hS' := steady_aloneB (Bd + 400)
  refine Can.op (ok := okR) hS' hL' rfl rfl (by k_ne) (by kernel_rfl) (fun T d => ⟨.tuple #[.agg #[.slice d1 R1.length e1, .slice d2 R2.length e2, .string E, .int .i64 A], .bool g], w.re T d, ?_, fun _ => Can.re ?_ T d⟩)
  · go_simp
  walk_nrm
  refine Can.op (ok := okR) hS' hL' rfl rfl (by k_ne) (by kernel_rfl) (fun T d => ⟨.agg #[.slice d1 R1.length e1, .slice d2 R2.length e2, .string E, .int .i64 A], w.re T d, ?_, fun _ => Can.re ?_ T d⟩)
  · go_simp
  walk_nrm
  refine Can.op (ok := okR) hS' hL' rfl rfl (by k_ne) (by kernel_rfl) (fun T d => ⟨.bool g, w.re T d, ?_, fun _ => Can.re ?_ T d⟩)
  · go_simp
  walk_nrm
  refine Can.op (ok := okR) hS' hL' rfl rfl (by k_ne) (by kernel_rfl) (fun T d => ⟨.pointer (some ⟨w.heap.size, 0, none⟩), (w.re T d).alloc (.cells #[.slice none 0 0, .slice none 0 0, .string ⟨#[]⟩, .int .i64 0] 30), ?_, fun hc => ?_⟩)
  · have hz : (w.re T d).heap.size = w.heap.size := rfl
    go_simp
  walk_nrm
  obtain ⟨w₂, hw₂⟩ : ∃ x, x = (w.re T d).alloc (.cells #[.slice none 0 0, .slice none 0 0, .string ⟨#[]⟩, .int .i64 0] 30) := ⟨_, rfl⟩
  rw [← hw₂] at hc ⊢
  have hL₂ : Lay C' w₂ := ⟨hc, hL'.no⟩
  have hr₂ : Reads w₂ w.heap.size [.slice none 0 0, .slice none 0 0, .string ⟨#[]⟩, .int .i64 0] := reads_block (t := 30) (by rw [hw₂]; exact alloc_self (w.re T d) _)
  have K₂ : Kin w.heap.size w w₂ := by rw [hw₂]; exact ((Grown.refl w).re T d |>.alloc _).kin (Nat.le_refl _)
  have z₂ : w₂.heap.size = w.heap.size + 1 := by rw [hw₂, World.size_alloc]; rfl
  clear hw₂ hc
  obtain ⟨⟨v0, v1, v2, v3, c0, c1', c2', c3⟩, hf⟩ := set4_op hr₂ rfl
  refine Can.opN (ok := okR) hS' hL₂ rfl rfl (by k_ne) (by kernel_rfl) (fun T d => ⟨set4 (w₂.re T d) w.heap.size (.slice d1 R1.length e1) (.slice d2 R2.length e2) (.string E) (.int .i64 A), ?_, fun hc => ?_⟩)
  · have c0 : (w₂.re T d).cell? ⟨w.heap.size, 0, none⟩ = some v0 := c0
    have c1 : (w₂.re T d).cell? ⟨w.heap.size, 1, none⟩ = some v1 := c1'
    have c2 : (w₂.re T d).cell? ⟨w.heap.size, 2, none⟩ = some v2 := c2'
    have c3 : (w₂.re T d).cell? ⟨w.heap.size, 3, none⟩ = some v3 := c3
    have f0 : (w₂.re T d).frozen? ⟨w.heap.size, 0, none⟩ = false := hf 0 (by omega)
    have f1 : (w₂.re T d).frozen? ⟨w.heap.size, 1, none⟩ = false := hf 1 (by omega)
    have f2 : (w₂.re T d).frozen? ⟨w.heap.size, 2, none⟩ = false := hf 2 (by omega)
    have f3 : (w₂.re T d).frozen? ⟨w.heap.size, 3, none⟩ = false := hf 3 (by omega)
    generalize w₂.re T d = W at *
    unfold set4
    go_simp
  walk_nrm
  obtain ⟨p1, p2, p3⟩ := put4 (B := w.heap.size) hr₂ rfl (Nat.le_refl _) (.slice d1 R1.length e1) (.slice d2 R2.length e2) (.string E) (.int .i64 A) T d
  generalize set4 (w₂.re T d) w.heap.size (.slice d1 R1.length e1) (.slice d2 R2.length e2) (.string E) (.int .i64 A) = w₄ at *
  have hL₄ : Lay C' w₄ := ⟨hc, hL'.no⟩
  have K₄ := K₂.trans p1
  clear c0 c1' c2' c3 hf hc
  refine Can.op (ok := okR) hS' hL₄ rfl rfl (by k_ne) (by kernel_rfl) (fun T d => ⟨.bool g, w₄.re T d, ?_, fun _ => Can.re ?_ T d⟩)
  · go_simp
  walk_nrm
  refine Can.ctl hS' hL₄ rfl (fun _ => stepG_region_end) ?_
  subst hK
  have K9 : Kin wl.heap.size wl w₄ := K.trans (K₄.le K.size)
  have hI4 := hI.kin K₄
  exact next C' b' o' w.heap.size d1 d2 e1 e2 w₄ _ _ _ _ _ _ _ _ _ _ _ _ _ _ _ _ _ _ _ _ _ _ _ _ _ _ _ _ _ _ _ _ _ _ _ _ _ _ _ _ _ _ _ _ _ _ _ _ _ _ _ _ _ _ _ _ _ _ _ _ _ _ _ _ _ _ _ _ _ _ _ _ _ _ _ _ _ _ _ _ _ _ _ _ _ _ _ _ _ _ _ _ _ _ _ _ _ _ _ _ _ _ _ _ _ _ _ _ _ _ _ _ _ _ _ _ _ _ _ _ _ _ _ _ _ _ _ _ _ _ _ _ _ _ _ _ _ _ _ _ _ _ _ _ _ _ _ _ _ _ _ _ _ _ _ _ _ _ _ _ _ _ _ _ _ _ _ _ _ _ _ _ _ _ _ _ hL₄ (hs.kin (K9.le hs.low)) p2 hI4.i1 hI4.i2 (by omega)
end
section
variable {C : Cfg} {b o Bd kb : Nat} {wl : World} {f t : Int} {J : List (List Int)} {tc : Nat} {ta : Option Addr} {g : Bool} {R1 R2 : List Int} {E : ByteArray} {A : Int} {q : List UInt8} {a : Option Addr} {bs : List Int} {c : Nat} {k5 : Nat} {d1 d2 : Option Addr} {e1 e2 : Nat}
set_option maxRecDepth 100000 in
set_option maxHeartbeats 2000000 in
theorem law7_c {z1 z7 z8 z9 za zb zc zd ze zf zg zh zi zj zk zl zm zn zo zp zq zr zs zt zu zv zw zx zy zz zA zB zC zD zE zF zG zH zI zJ zK zL zM zN zO zP zQ zR zS zT zU zV zW zX zY zZ Z0 Z1 Z2 Z3 Z4 Z5 Z6 Z7 Z8 Z9 Za Zb Zc Zd Ze Zf Zg Zh Zi Zj Zk Zl Zm Zn Zo Zp Zq Zr Zs Zt Zu Zv Zw Zx Zy Zz ZA ZB ZC ZD ZE ZF ZG ZH ZI ZJ ZK ZL ZM ZN ZO ZP ZQ ZR ZS ZT ZU ZV ZW ZX ZY ZZ Y0 Y1 Y2 Y3 Y4 Y5 Y6 Y7 Y8 Y9 Ya Yb Yc Yd Ye Yf Yg Yh Yi Yj Yk Yl Ym Yn Yo Yp Yq Yr Ys Yt Yu Yv Yw Yx Yy Yz YA YB YC YD YE YF YG YH YI YJ YK YL YM YN YO YP YQ YR YS YT YU YV : Value} (hn : J.length ≤ 1048576) (hm : ∀ l ∈ J, l.length ≤ 1048576) (hD : Kd q f t J g R1 R2 E A) (hL : Lay C wl) (hs : BaseP q f t J ta kb wl) (hr5 : Reads wl k5 [.slice d1 R1.length e1, .slice d2 R2.length e2, .string E, .int .i64 A]) (hi1 : IntsAt wl d1 R1) (hi2 : IntsAt wl d2 R2) (hz5 : k5 < wl.heap.size)
    (next : ∀ (k7 : Nat) (x1 x2 : Option Addr) (y1 y2 : Nat) (w : World) (z1 z9 za zb zc zd ze zf zg zh zi zj zk zl zm zn zo zp zq zr zs zt zu zv zw zx zy zz zA zB zC zD zE zF zG zH zI zJ zK zL zM zN zO zP zQ zR zS zT zU zV zW zX zY zZ Z0 Z1 Z2 Z3 Z4 Z5 Z6 Z7 Z8 Z9 Za Zb Zc Zd Ze Zf Zg Zh Zi Zj Zk Zl Zm Zn Zo Zp Zq Zr Zs Zt Zu Zv Zw Zx Zy Zz ZA ZB ZC ZD ZE ZF ZG ZH ZI ZJ ZK ZL ZM ZN ZO ZP ZQ ZR ZS ZT ZU ZV ZW ZX ZY ZZ Y0 Y1 Y2 Y3 Y4 Y5 Y6 Y7 Y8 Y9 Ya Yb Yc Yd Ye Yf Yg Yh Yi Yj Yk Yl Ym Yn Yo Yp Yq Yr Ys Yt Yu Yv Yw Yx Yy Yz YA YB YC YD YE YF YG YH YI YJ YK YL YM YN YO YP YQ YR YS YT YU YV : Value), Lay C w → BaseP q f t J ta kb w → Reads w k7 [.slice x1 R1.length y1, .slice x2 R2.length y2, .string E, .int .i64 A] → IntsAt w x1 R1 → IntsAt w x2 R2 → k7 < w.heap.size → Reads w k5 [.slice d1 R1.length e1, .slice d2 R2.length e2, .string E, .int .i64 A] → IntsAt w d1 R1 → IntsAt w d2 R2 → k5 < w.heap.size → Can Try.prog C b o (fun v _ => v = .bool true) 0 (AloneB Bd) w (G ((base 7).at ⟨#[.slice a bs.length c, z1, .bool false, .pointer (some ⟨kb, 0, none⟩), .slice ta J.length tc, .pointer (some ⟨k5, 0, none⟩), .bool g, .pointer (some ⟨k7, 0, none⟩), .bool g, z9, za, zb, zc, zd, ze, zf, zg, zh, zi, zj, zk, zl, zm, zn, zo, zp, zq, zr, zs, zt, zu, zv, zw, zx, zy, zz, zA, zB, zC, zD, zE, zF, zG, zH, zI, zJ, zK, zL, zM, zN, zO, zP, zQ, zR, zS, zT, zU, zV, zW, zX, zY, zZ, Z0, Z1, Z2, Z3, Z4, Z5, Z6, Z7, Z8, Z9, Za, Zb, Zc, Zd, Ze, Zf, Zg, Zh, Zi, Zj, Zk, Zl, Zm, Zn, Zo, Zp, Zq, Zr, Zs, Zt, Zu, Zv, Zw, Zx, Zy, Zz, ZA, ZB, ZC, ZD, ZE, ZF, ZG, ZH, ZI, ZJ, ZK, ZL, ZM, ZN, ZO, ZP, ZQ, ZR, ZS, ZT, ZU, ZV, ZW, ZX, ZY, ZZ, Y0, Y1, Y2, Y3, Y4, Y5, Y6, Y7, Y8, Y9, Ya, Yb, Yc, Yd, Ye, Yf, Yg, Yh, Yi, Yj, Yk, Yl, Ym, Yn, Yo, Yp, Yq, Yr, Ys, Yt, Yu, Yv, Yw, Yx, Yy, Yz, YA, YB, YC, YD, YE, YF, YG, YH, YI, YJ, YK, YL, YM, YN, YO, YP, YQ, YR, YS, YT, YU, YV], []⟩ [.code (tailC 5 body7)]) [])) :
    Can Try.prog C b o (fun v _ => v = .bool true) 0 (AloneB Bd) wl (G ((base 7).at ⟨#[.slice a bs.length c, z1, .bool false, .pointer (some ⟨kb, 0, none⟩), .slice ta J.length tc, .pointer (some ⟨k5, 0, none⟩), .bool g, z7, z8, z9, za, zb, zc, zd, ze, zf, zg, zh, zi, zj, zk, zl, zm, zn, zo, zp, zq, zr, zs, zt, zu, zv, zw, zx, zy, zz, zA, zB, zC, zD, zE, zF, zG, zH, zI, zJ, zK, zL, zM, zN, zO, zP, zQ, zR, zS, zT, zU, zV, zW, zX, zY, zZ, Z0, Z1, Z2, Z3, Z4, Z5, Z6, Z7, Z8, Z9, Za, Zb, Zc, Zd, Ze, Zf, Zg, Zh, Zi, Zj, Zk, Zl, Zm, Zn, Zo, Zp, Zq, Zr, Zs, Zt, Zu, Zv, Zw, Zx, Zy, Zz, ZA, ZB, ZC, ZD, ZE, ZF, ZG, ZH, ZI, ZJ, ZK, ZL, ZM, ZN, ZO, ZP, ZQ, ZR, ZS, ZT, ZU, ZV, ZW, ZX, ZY, ZZ, Y0, Y1, Y2, Y3, Y4, Y5, Y6, Y7, Y8, Y9, Ya, Yb, Yc, Yd, Ye, Yf, Yg, Yh, Yi, Yj, Yk, Yl, Ym, Yn, Yo, Yp, Yq, Yr, Ys, Yt, Yu, Yv, Yw, Yx, Yy, Yz, YA, YB, YC, YD, YE, YF, YG, YH, YI, YJ, YK, YL, YM, YN, YO, YP, YQ, YR, YS, YT, YU, YV], []⟩ [.code (tailC 4 body7)]) []) := by
  have hS := steady_aloneB Bd
  have e4 : tailC 4 body7 = .seq (headC 4 body7) (tailC 5 body7) := by kernel_rfl
  rw [e4]
  refine Can.ctl hS hL rfl (fun _ => stepG_seq) ?_
  refine Can.code' okProgR hS hL (okFr_at (by kernel_rfl) rfl rfl ⟨_, Try.func7⟩) ?_
  intro T d W hW B hB
  have g0 : W.cell? ⟨kb, 0, none⟩ = some (.string ⟨q.toArray⟩) := by rw [hW.out]; exact (hs.keeper 0 (by simp)).1
  have g1 : W.cell? ⟨kb, 1, none⟩ = some (.int .i64 f) := by rw [hW.out]; exact (hs.keeper 1 (by simp)).1
  have g2 : W.cell? ⟨kb, 2, none⟩ = some (.int .i64 t) := by rw [hW.out]; exact (hs.keeper 2 (by simp)).1
  have hRW : RowsAt W ta J := by rw [hW.out]; exact RowsIn.re hs.rowsAt T d
  have c11 : RowKit.Hid (Calls Try.prog 11 #[.agg #[.string ⟨q.toArray⟩, .int .i64 f, .int .i64 t], .slice ta J.length tc] W fun e w'' => ∃ (x1 x2 : Option Addr) (y1 y2 : Nat), e = .returned (.tuple #[.agg #[.slice x1 R1.length y1, .slice x2 R2.length y2, .string E, .int .i64 A], .bool g]) ∧ RowKit.Hid (Below W.heap.size W w'' ∧ IntsAt w'' x1 R1 ∧ IntsAt w'' x2 R2)) := (specKeep_any (l := q) hn hm hRW).mono fun e w'' h => by
    obtain ⟨x1, x2, y1, y2, S1, S2, E', A', g', h1, h2, h3, h4, h5⟩ := keep_spec h
    obtain ⟨rfl, rfl, rfl, rfl, rfl⟩ := hD.one h3
    exact ⟨x1, x2, y1, y2, h1, h2, h4, h5⟩
  have fin : RowKit.Hid (∀ (x1 x2 : Option Addr) (y1 y2 : Nat) w', Below W.heap.size W w' ∧ IntsAt w' x1 R1 ∧ IntsAt w' x2 R2 → Cut (hidOf C) (frzOf C) (w'.alloc (.cells #[.slice x1 R1.length y1, .slice x2 R2.length y2, .string E, .int .i64 A] 30)) → ∀ z1 z9 za zb zc zd ze zf zg zh zi zj zk zl zm zn zo zp zq zr zs zt zu zv zw zx zy zz zA zB zC zD zE zF zG zH zI zJ zK zL zM zN zO zP zQ zR zS zT zU zV zW zX zY zZ Z0 Z1 Z2 Z3 Z4 Z5 Z6 Z7 Z8 Z9 Za Zb Zc Zd Ze Zf Zg Zh Zi Zj Zk Zl Zm Zn Zo Zp Zq Zr Zs Zt Zu Zv Zw Zx Zy Zz ZA ZB ZC ZD ZE ZF ZG ZH ZI ZJ ZK ZL ZM ZN ZO ZP ZQ ZR ZS ZT ZU ZV ZW ZX ZY ZZ Y0 Y1 Y2 Y3 Y4 Y5 Y6 Y7 Y8 Y9 Ya Yb Yc Yd Ye Yf Yg Yh Yi Yj Yk Yl Ym Yn Yo Yp Yq Yr Ys Yt Yu Yv Yw Yx Yy Yz YA YB YC YD YE YF YG YH YI YJ YK YL YM YN YO YP YQ YR YS YT YU YV : Value, Can Try.prog C b o (fun v _ => v = .bool true) 0 (AloneB Bd) (w'.alloc (.cells #[.slice x1 R1.length y1, .slice x2 R2.length y2, .string E, .int .i64 A] 30)) (G ((base 7).at ⟨#[.slice a bs.length c, z1, .bool false, .pointer (some ⟨kb, 0, none⟩), .slice ta J.length tc, .pointer (some ⟨k5, 0, none⟩), .bool g, .pointer (some ⟨w'.heap.size, 0, none⟩), .bool g, z9, za, zb, zc, zd, ze, zf, zg, zh, zi, zj, zk, zl, zm, zn, zo, zp, zq, zr, zs, zt, zu, zv, zw, zx, zy, zz, zA, zB, zC, zD, zE, zF, zG, zH, zI, zJ, zK, zL, zM, zN, zO, zP, zQ, zR, zS, zT, zU, zV, zW, zX, zY, zZ, Z0, Z1, Z2, Z3, Z4, Z5, Z6, Z7, Z8, Z9, Za, Zb, Zc, Zd, Ze, Zf, Zg, Zh, Zi, Zj, Zk, Zl, Zm, Zn, Zo, Zp, Zq, Zr, Zs, Zt, Zu, Zv, Zw, Zx, Zy, Zz, ZA, ZB, ZC, ZD, ZE, ZF, ZG, ZH, ZI, ZJ, ZK, ZL, ZM, ZN, ZO, ZP, ZQ, ZR, ZS, ZT, ZU, ZV, ZW, ZX, ZY, ZZ, Y0, Y1, Y2, Y3, Y4, Y5, Y6, Y7, Y8, Y9, Ya, Yb, Yc, Yd, Ye, Yf, Yg, Yh, Yi, Yj, Yk, Yl, Ym, Yn, Yo, Yp, Yq, Yr, Ys, Yt, Yu, Yv, Yw, Yx, Yy, Yz, YA, YB, YC, YD, YE, YF, YG, YH, YI, YJ, YK, YL, YM, YN, YO, YP, YQ, YR, YS, YT, YU, YV], []⟩ [.code (tailC 5 body7)]) [])) := by
    intro x1 x2 y1 y2 w' hs' hc z1 z9 za zb zc zd ze zf zg zh zi zj zk zl zm zn zo zp zq zr zs zt zu zv zw zx zy zz zA zB zC zD zE zF zG zH zI zJ zK zL zM zN zO zP zQ zR zS zT zU zV zW zX zY zZ Z0 Z1 Z2 Z3 Z4 Z5 Z6 Z7 Z8 Z9 Za Zb Zc Zd Ze Zf Zg Zh Zi Zj Zk Zl Zm Zn Zo Zp Zq Zr Zs Zt Zu Zv Zw Zx Zy Zz ZA ZB ZC ZD ZE ZF ZG ZH ZI ZJ ZK ZL ZM ZN ZO ZP ZQ ZR ZS ZT ZU ZV ZW ZX ZY ZZ Y0 Y1 Y2 Y3 Y4 Y5 Y6 Y7 Y8 Y9 Ya Yb Yc Yd Ye Yf Yg Yh Yi Yj Yk Yl Ym Yn Yo Yp Yq Yr Ys Yt Yu Yv Yw Yx Yy Yz YA YB YC YD YE YF YG YH YI YJ YK YL YM YN YO YP YQ YR YS YT YU YV
    have hW := hW.out
    subst hW
    obtain ⟨hb, h2, h3⟩ := hs'
    have K := bwre hb
    have n1 : Kin w'.heap.size w' (w'.alloc (.cells #[.slice x1 R1.length y1, .slice x2 R2.length y2, .string E, .int .i64 A] 30)) := ((Grown.refl w').alloc _).kin (Nat.le_refl _)
    have n2 : Reads (w'.alloc (.cells #[.slice x1 R1.length y1, .slice x2 R2.length y2, .string E, .int .i64 A] 30)) w'.heap.size [.slice x1 R1.length y1, .slice x2 R2.length y2, .string E, .int .i64 A] := reads_block (t := 30) (alloc_self w' _)
    have n3 : (w'.alloc (.cells #[.slice x1 R1.length y1, .slice x2 R2.length y2, .string E, .int .i64 A] 30)).heap.size = w'.heap.size + 1 := World.size_alloc ..
    have K9 := K.trans (n1.le K.size)
    exact next w'.heap.size x1 x2 y1 y2 _ _ _ _ _ _ _ _ _ _ _ _ _ _ _ _ _ _ _ _ _ _ _ _ _ _ _ _ _ _ _ _ _ _ _ _ _ _ _ _ _ _ _ _ _ _ _ _ _ _ _ _ _ _ _ _ _ _ _ _ _ _ _ _ _ _ _ _ _ _ _ _ _ _ _ _ _ _ _ _ _ _ _ _ _ _ _ _ _ _ _ _ _ _ _ _ _ _ _ _ _ _ _ _ _ _ _ _ _ _ _ _ _ _ _ _ _ _ _ _ _ _ _ _ _ _ _ _ _ _ _ _ _ _ _ _ _ _ _ _ _ _ _ _ _ _ _ _ _ _ _ _ _ _ _ _ _ _ _ _ _ _ _ _ _ _ _ _ _ _ _ _ _ _ _ ⟨hc, hL.no⟩ (hs.kin (K9.le hs.low)) n2 (h2.kept n1.cells n1.size) (h3.kept n1.cells n1.size) (by omega) (hr5.kin K9 hz5) (hi1.kept K9.cells K9.size) (hi2.kept K9.cells K9.size) (Nat.lt_of_lt_of_le hz5 K9.size)
  clear next hs hRW hm hD hr5 hi1 hi2 hz5
  replace hn : RowKit.Hid _ := hn
  simp only [headC, body7, Try.f7, Option.getD_some]
  go_wp2_with (go_at_call 11; (with_reducible refine c11.out.mono ?_); rintro e w3 ⟨x1, x2, y1, y2, rfl, hs'⟩)
  have hB := hB.out
  subst hB
  intro hc
  exact fin.out x1 x2 y1 y2 w3 hs'.out hc _ _ _ _ _ _ _ _ _ _ _ _ _ _ _ _ _ _ _ _ _ _ _ _ _ _ _ _ _ _ _ _ _ _ _ _ _ _ _ _ _ _ _ _ _ _ _ _ _ _ _ _ _ _ _ _ _ _ _ _ _ _ _ _ _ _ _ _ _ _ _ _ _ _ _ _ _ _ _ _ _ _ _ _ _ _ _ _ _ _ _ _ _ _ _ _ _ _ _ _ _ _ _ _ _ _ _ _ _ _ _ _ _ _ _ _ _ _ _ _ _ _ _ _ _ _ _ _ _ _ _ _ _ _ _ _ _ _ _ _ _ _ _ _ _ _ _ _ _ _ _ _ _ _ _ _ _ _ _ _ _ _ _ _ _ _ _ _ _ _ _ _ _ _
end
end Go.Town.Kp
