/-
  The law FnRunKeeper: faults counted; the end; the whole walk.
  A slice of bytes that came in.
-/
import Derived.Conc.LeavingOf
import Derived.ChangeShapes
import Derived.ChangeSlices
import Derived.WideShapes
import Derived.ChangeMaps5
import Derived.ChangeArms
import Derived.OpenShut
import Derived.LaidMore
import Derived.Test.YtihmcigoofhpmaaZaz
import Derived.Test.YtihmcigoofhpmaaZbn
import Derived.Test.YtihmcigoofhpmaaZbr
set_option linter.all false
namespace Go.Town.Kp
open Go Go.Conc Go.Conc.Lib Go.ConcR.Gen Go.RowKit Go.Town Go.Proofs
open Go.ConcN (upd upd_ne upd_same)
theorem bytes_toList (s : ByteArray) : s.toList = s.data.toList := ByteArray.toList_eq s
def mxI (R : List Int) : Nat → Int
  | 0 => 0
  | k + 1 => max (mxI R k) (R.getD k 0)
theorem mxI_le {R : List Int} {m : Int} (h0 : 0 ≤ m) (h : ∀ k (hk : k < R.length), R[k] ≤ m) : ∀ k, k ≤ R.length → mxI R k ≤ m
  | 0, _ => h0
  | k + 1, hk => by
    have h1 := mxI_le h0 h k (by omega)
    have h2 := h k (by omega)
    simp only [mxI, List.getD, List.getElem?_eq_getElem (show k < R.length by omega), Option.getD_some]; omega
theorem mxI_eq {R : List Int} {m : Int} (h0 : 0 ≤ m) (h : ∀ k (hk : k < R.length), R[k] = m) : ∀ k, 0 < k → k ≤ R.length → mxI R k = m
  | 0, h1, _ => by omega
  | k + 1, _, hk => by
    have h1 := mxI_le h0 (fun k hk => Int.le_of_eq (h k hk)) k (by omega)
    have h2 := h k (by omega)
    simp only [mxI, List.getD, List.getElem?_eq_getElem (show k < R.length by omega), Option.getD_some]; omega
structure KeepFacts (q : List UInt8) (f : Int) (win : Nat) (J : List (List Int)) (R1 R2 : List Int) (E : ByteArray) : Prop where
  tasks : vT J = true
  w0 : 0 < win
  w20 : win ≤ 20
  n1 : R1.length = J.length
  n2 : R2.length = J.length
  few : mxI R2 R2.length ≤ (tot J (mxR J J.length) : Nat)
  how : (E = ⟨#[103, 105, 118, 101, 110, 32, 117, 112]⟩ ∧ f < needTo J win 20) ∨ (E = ⟨#[100, 111, 110, 101]⟩ ∧ needTo J win 20 ≤ f ∧ (q = [97, 108, 108] → mxI R2 R2.length = (tot J (mxR J J.length) : Nat)))
theorem kd_keep {q : List UInt8} {f t : Int} {J : List (List Int)} {g : Bool} {R1 R2 : List Int} {E : ByteArray} {A : Int} (h : Kd q f t J g R1 R2 E A) : (g = false → E = ⟨#[]⟩) ∧ (g = true → ∃ win : Nat, t = (win : Nat) ∧ KeepFacts q f win J R1 R2 E) := by
  rcases h with ⟨_, rfl, _, _, rfl, _⟩ | ⟨κ, h1, h2, h3, h4, rfl, rfl, rfl, rfl, rfl⟩
  · exact ⟨fun _ => rfl, fun h => by cases h⟩
  · refine ⟨(fun h => by cases h), fun _ => ⟨κ.win, h3, ?_⟩⟩
    simp only [Bool.and_eq_true] at h4
    obtain ⟨v1, v2, v3, v4⟩ := vT_spec h4.2
    obtain ⟨κ', e1, e2, e3, _, w0, w20⟩ := vK_spec h4.1
    have ew : κ'.win = κ.win := by omega
    obtain ⟨r1, r2, r3, r4⟩ := run_faults (κ := κ) (J := J) (by omega) (mxR_le v4 _)
    have hall : κ.rule = .all ↔ q = [97, 108, 108] := by rw [h1]; cases κ.rule <;> simp [Rule.text]
    refine ⟨h4.2, by omega, by omega, by simp, by simp, ?_, ?_⟩
    · exact mxI_le (by omega) (fun k hk => by simp only [List.getElem_map, List.getElem_range]; exact r3 k) _ (Nat.le_refl _)
    · cases ho : (runT κ J (mxR J J.length) 0 St.zero).1.over with
      | true => exact .inl ⟨rfl, by rw [h2]; exact r1 ho⟩
      | false =>
        refine .inr ⟨rfl, by rw [h2]; exact r2 ho, fun hq => ?_⟩
        exact mxI_eq (by omega) (fun k hk => by
          simp only [List.length_map, List.length_range] at hk
          simp only [List.getElem_map, List.getElem_range]
          exact r4 ho (hall.2 hq) k hk) _ (by simp; omega) (Nat.le_refl _)
section
variable {C : Cfg} {b o Bd kb : Nat} {wl : World} {f t : Int} {J : List (List Int)} {tc : Nat} {ta : Option Addr} {g : Bool} {R1 R2 : List Int} {E : ByteArray} {A : Int} {q : List UInt8} {a : Option Addr} {bs : List Int} {c : Nat} {k5 : Nat} {d1 d2 : Option Addr} {e1 e2 : Nat} {k7 : Nat} {x1 x2 : Option Addr} {y1 y2 : Nat} {win : Nat}
set_option maxRecDepth 100000 in
set_option maxHeartbeats 2000000 in
theorem law7_e {z1 z9 za zb zc zd ze zf zg zh zi zj zk zl zm zn zo zp zq zr zs zt zu zv zw zx zy zz zA zB zC zD zE zF zG zH zI zJ zK zL zM zN zO zP zQ zR zS zT zU zV zW zX zY zZ Z0 Z1 Z2 Z3 Z4 Z5 Z6 Z7 Z8 Z9 Za Zb Zc Zd Ze Zf Zg Zh Zi Zj Zk Zl Zm Zn Zo Zp Zq Zr Zs Zt Zu Zv Zw Zx Zy Zz ZA ZB ZC ZD ZE ZF ZG ZH ZI ZJ ZK ZL ZM ZN ZO ZP ZQ ZR ZS ZT ZU ZV ZW ZX ZY ZZ Y0 Y1 Y2 Y3 Y4 Y5 Y6 Y7 Y8 Y9 Ya Yb Yc Yd Ye Yf Yg Yh Yi Yj Yk Yl Ym Yn Yo Yp Yq Yr Ys Yt Yu Yv Yw Yx Yy Yz YA YB YC YD YE YF YG YH YI YJ YK YL YM YN YO YP YQ YR YS YT YU YV : Value} (ht : t = (win : Nat)) (hv : vT J = true) (w0 : 0 < win) (w20 : win ≤ 20) (hL : Lay C wl) (hs : BaseP q f t J ta kb wl) (hr5 : Reads wl k5 [.slice d1 R1.length e1, .slice d2 R2.length e2, .string E, .int .i64 A]) (hi2 : IntsAt wl d2 R2) (hz5 : k5 < wl.heap.size)
    (next : ∀ (w : World) (z1 za zb zc zd ze zf zg zh zi zj zk zl zm zn zo zp zq zr zs zt zu zv zw zx zy zz zA zB zC zD zE zF zG zH zI zJ zK zL zM zN zO zP zQ zR zS zT zU zV zW zX zY zZ Z0 Z1 Z2 Z3 Z4 Z5 Z6 Z7 Z8 Z9 Za Zb Zc Zd Ze Zf Zg Zh Zi Zj Zk Zl Zm Zn Zo Zp Zq Zr Zs Zt Zu Zv Zw Zx Zy Zz ZA ZB ZC ZD ZE ZF ZG ZH ZI ZJ ZK ZL ZM ZN ZO ZP ZQ ZR ZS ZT ZU ZV ZW ZX ZY ZZ Y0 Y1 Y2 Y3 Y4 Y5 Y6 Y7 Y8 Y9 Ya Yb Yc Yd Ye Yf Yg Yh Yi Yj Yk Yl Ym Yn Yo Yp Yq Yr Ys Yt Yu Yv Yw Yx Yy Yz YA YB YC YD YE YF YG YH YI YJ YK YL YM YN YO YP YQ YR YS YT YU YV : Value), Lay C w → BaseP q f t J ta kb w → Reads w k5 [.slice d1 R1.length e1, .slice d2 R2.length e2, .string E, .int .i64 A] → IntsAt w d2 R2 → k5 < w.heap.size → Can Try.prog C b o (fun v _ => v = .bool true) 0 (AloneB Bd) w (G ((base 7).at ⟨#[.slice a bs.length c, z1, .bool false, .pointer (some ⟨kb, 0, none⟩), .slice ta J.length tc, .pointer (some ⟨k5, 0, none⟩), .bool true, .pointer (some ⟨k7, 0, none⟩), .bool true, .int .i64 (needTo J win 20), za, zb, zc, zd, ze, zf, zg, zh, zi, zj, zk, zl, zm, zn, zo, zp, zq, zr, zs, zt, zu, zv, zw, zx, zy, zz, zA, zB, zC, zD, zE, zF, zG, zH, zI, zJ, zK, zL, zM, zN, zO, zP, zQ, zR, zS, zT, zU, zV, zW, zX, zY, zZ, Z0, Z1, Z2, Z3, Z4, Z5, Z6, Z7, Z8, Z9, Za, Zb, Zc, Zd, Ze, Zf, Zg, Zh, Zi, Zj, Zk, Zl, Zm, Zn, Zo, Zp, Zq, Zr, Zs, Zt, Zu, Zv, Zw, Zx, Zy, Zz, ZA, ZB, ZC, ZD, ZE, ZF, ZG, ZH, ZI, ZJ, ZK, ZL, ZM, ZN, ZO, ZP, ZQ, ZR, ZS, ZT, ZU, ZV, ZW, ZX, ZY, ZZ, Y0, Y1, Y2, Y3, Y4, Y5, Y6, Y7, Y8, Y9, Ya, Yb, Yc, Yd, Ye, Yf, Yg, Yh, Yi, Yj, Yk, Yl, Ym, Yn, Yo, Yp, Yq, Yr, Ys, Yt, Yu, Yv, Yw, Yx, Yy, Yz, YA, YB, YC, YD, YE, YF, YG, YH, YI, YJ, YK, YL, YM, YN, YO, YP, YQ, YR, YS, YT, YU, YV], []⟩ [.code (tailC 7 body7)]) [])) :
    Can Try.prog C b o (fun v _ => v = .bool true) 0 (AloneB Bd) wl (G ((base 7).at ⟨#[.slice a bs.length c, z1, .bool false, .pointer (some ⟨kb, 0, none⟩), .slice ta J.length tc, .pointer (some ⟨k5, 0, none⟩), .bool true, .pointer (some ⟨k7, 0, none⟩), .bool true, z9, za, zb, zc, zd, ze, zf, zg, zh, zi, zj, zk, zl, zm, zn, zo, zp, zq, zr, zs, zt, zu, zv, zw, zx, zy, zz, zA, zB, zC, zD, zE, zF, zG, zH, zI, zJ, zK, zL, zM, zN, zO, zP, zQ, zR, zS, zT, zU, zV, zW, zX, zY, zZ, Z0, Z1, Z2, Z3, Z4, Z5, Z6, Z7, Z8, Z9, Za, Zb, Zc, Zd, Ze, Zf, Zg, Zh, Zi, Zj, Zk, Zl, Zm, Zn, Zo, Zp, Zq, Zr, Zs, Zt, Zu, Zv, Zw, Zx, Zy, Zz, ZA, ZB, ZC, ZD, ZE, ZF, ZG, ZH, ZI, ZJ, ZK, ZL, ZM, ZN, ZO, ZP, ZQ, ZR, ZS, ZT, ZU, ZV, ZW, ZX, ZY, ZZ, Y0, Y1, Y2, Y3, Y4, Y5, Y6, Y7, Y8, Y9, Ya, Yb, Yc, Yd, Ye, Yf, Yg, Yh, Yi, Yj, Yk, Yl, Ym, Yn, Yo, Yp, Yq, Yr, Ys, Yt, Yu, Yv, Yw, Yx, Yy, Yz, YA, YB, YC, YD, YE, YF, YG, YH, YI, YJ, YK, YL, YM, YN, YO, YP, YQ, YR, YS, YT, YU, YV], []⟩ [.code (tailC 6 body7)]) []) := by
  have hS := steady_aloneB Bd
  have e6 : tailC 6 body7 = .seq (headC 6 body7) (tailC 7 body7) := by kernel_rfl
  rw [e6]
  refine Can.ctl hS hL rfl (fun _ => stepG_seq) ?_
  refine Can.code' okProgR hS hL (okFr_at (by kernel_rfl) rfl rfl ⟨_, Try.func7⟩) ?_
  intro T d W hW B hB
  have g2 : W.cell? ⟨kb, 2, none⟩ = some (.int .i64 (win : Nat)) := by rw [hW.out, ← ht]; exact (hs.keeper 2 (by simp)).1
  have c27 := hidC (faultsNeeded_any (tc := tc) hv (show RowsAt W ta J by rw [hW.out]; exact RowsIn.re hs.rowsAt T d) w0 w20)
  simp only [headC, body7, Try.f7, Option.getD_some]
  go_wp2_with (go_at_call 27; (with_reducible refine c27.out.mono ?_); rintro e w1 ⟨rfl, hb1⟩)
  have hB := hB.out
  subst hB
  intro hc
  have hW := hW.out
  subst hW
  have K9 := bwre hb1
  exact next w1 _ _ _ _ _ _ _ _ _ _ _ _ _ _ _ _ _ _ _ _ _ _ _ _ _ _ _ _ _ _ _ _ _ _ _ _ _ _ _ _ _ _ _ _ _ _ _ _ _ _ _ _ _ _ _ _ _ _ _ _ _ _ _ _ _ _ _ _ _ _ _ _ _ _ _ _ _ _ _ _ _ _ _ _ _ _ _ _ _ _ _ _ _ _ _ _ _ _ _ _ _ _ _ _ _ _ _ _ _ _ _ _ _ _ _ _ _ _ _ _ _ _ _ _ _ _ _ _ _ _ _ _ _ _ _ _ _ _ _ _ _ _ _ _ _ _ _ _ _ _ _ _ _ _ _ _ _ _ _ _ _ _ _ _ _ _ _ _ _ _ _ _ _ ⟨hc, hL.no⟩ (hs.kin (K9.le hs.low)) (hr5.kin K9 hz5) (hi2.kept K9.cells K9.size) (Nat.lt_of_lt_of_le hz5 K9.size)
set_option maxRecDepth 100000 in
set_option maxHeartbeats 2000000 in
theorem law7_f {z1 za zb zc zd ze zf zg zh zi zj zk zl zm zn zo zp zq zr zs zt zu zv zw zx zy zz zA zB zC zD zE zF zG zH zI zJ zK zL zM zN zO zP zQ zR zS zT zU zV zW zX zY zZ Z0 Z1 Z2 Z3 Z4 Z5 Z6 Z7 Z8 Z9 Za Zb Zc Zd Ze Zf Zg Zh Zi Zj Zk Zl Zm Zn Zo Zp Zq Zr Zs Zt Zu Zv Zw Zx Zy Zz ZA ZB ZC ZD ZE ZF ZG ZH ZI ZJ ZK ZL ZM ZN ZO ZP ZQ ZR ZS ZT ZU ZV ZW ZX ZY ZZ Y0 Y1 Y2 Y3 Y4 Y5 Y6 Y7 Y8 Y9 Ya Yb Yc Yd Ye Yf Yg Yh Yi Yj Yk Yl Ym Yn Yo Yp Yq Yr Ys Yt Yu Yv Yw Yx Yy Yz YA YB YC YD YE YF YG YH YI YJ YK YL YM YN YO YP YQ YR YS YT YU YV : Value} (hv : vT J = true) (hL : Lay C wl) (hs : BaseP q f t J ta kb wl) (hr5 : Reads wl k5 [.slice d1 R1.length e1, .slice d2 R2.length e2, .string E, .int .i64 A]) (hi2 : IntsAt wl d2 R2) (hz5 : k5 < wl.heap.size)
    (next : ∀ (a10 : Option Addr) (c10 : Nat) (w : World) (z1 zd ze zf zg zh zi zj zk zl zm zn zo zp zq zr zs zt zu zv zw zx zy zz zA zB zC zD zE zF zG zH zI zJ zK zL zM zN zO zP zQ zR zS zT zU zV zW zX zY zZ Z0 Z1 Z2 Z3 Z4 Z5 Z6 Z7 Z8 Z9 Za Zb Zc Zd Ze Zf Zg Zh Zi Zj Zk Zl Zm Zn Zo Zp Zq Zr Zs Zt Zu Zv Zw Zx Zy Zz ZA ZB ZC ZD ZE ZF ZG ZH ZI ZJ ZK ZL ZM ZN ZO ZP ZQ ZR ZS ZT ZU ZV ZW ZX ZY ZZ Y0 Y1 Y2 Y3 Y4 Y5 Y6 Y7 Y8 Y9 Ya Yb Yc Yd Ye Yf Yg Yh Yi Yj Yk Yl Ym Yn Yo Yp Yq Yr Ys Yt Yu Yv Yw Yx Yy Yz YA YB YC YD YE YF YG YH YI YJ YK YL YM YN YO YP YQ YR YS YT YU YV : Value), Lay C w → BaseP q f t J ta kb w → Reads w k5 [.slice d1 R1.length e1, .slice d2 R2.length e2, .string E, .int .i64 A] → IntsAt w d2 R2 → Can Try.prog C b o (fun v _ => v = .bool true) 0 (AloneB Bd) w (G ((base 7).at ⟨#[.slice a bs.length c, z1, .bool false, .pointer (some ⟨kb, 0, none⟩), .slice ta J.length tc, .pointer (some ⟨k5, 0, none⟩), .bool true, .pointer (some ⟨k7, 0, none⟩), .bool true, .int .i64 (needTo J win 20), .slice a10 (tot J (mxR J J.length)) c10, .bool true, .int .i64 0, zd, ze, zf, zg, zh, zi, zj, zk, zl, zm, zn, zo, zp, zq, zr, zs, zt, zu, zv, zw, zx, zy, zz, zA, zB, zC, zD, zE, zF, zG, zH, zI, zJ, zK, zL, zM, zN, zO, zP, zQ, zR, zS, zT, zU, zV, zW, zX, zY, zZ, Z0, Z1, Z2, Z3, Z4, Z5, Z6, Z7, Z8, Z9, Za, Zb, Zc, Zd, Ze, Zf, Zg, Zh, Zi, Zj, Zk, Zl, Zm, Zn, Zo, Zp, Zq, Zr, Zs, Zt, Zu, Zv, Zw, Zx, Zy, Zz, ZA, ZB, ZC, ZD, ZE, ZF, ZG, ZH, ZI, ZJ, ZK, ZL, ZM, ZN, ZO, ZP, ZQ, ZR, ZS, ZT, ZU, ZV, ZW, ZX, ZY, ZZ, Y0, Y1, Y2, Y3, Y4, Y5, Y6, Y7, Y8, Y9, Ya, Yb, Yc, Yd, Ye, Yf, Yg, Yh, Yi, Yj, Yk, Yl, Ym, Yn, Yo, Yp, Yq, Yr, Ys, Yt, Yu, Yv, Yw, Yx, Yy, Yz, YA, YB, YC, YD, YE, YF, YG, YH, YI, YJ, YK, YL, YM, YN, YO, YP, YQ, YR, YS, YT, YU, YV], []⟩ [.code (tailC 9 body7)]) [])) :
    Can Try.prog C b o (fun v _ => v = .bool true) 0 (AloneB Bd) wl (G ((base 7).at ⟨#[.slice a bs.length c, z1, .bool false, .pointer (some ⟨kb, 0, none⟩), .slice ta J.length tc, .pointer (some ⟨k5, 0, none⟩), .bool true, .pointer (some ⟨k7, 0, none⟩), .bool true, .int .i64 (needTo J win 20), za, zb, zc, zd, ze, zf, zg, zh, zi, zj, zk, zl, zm, zn, zo, zp, zq, zr, zs, zt, zu, zv, zw, zx, zy, zz, zA, zB, zC, zD, zE, zF, zG, zH, zI, zJ, zK, zL, zM, zN, zO, zP, zQ, zR, zS, zT, zU, zV, zW, zX, zY, zZ, Z0, Z1, Z2, Z3, Z4, Z5, Z6, Z7, Z8, Z9, Za, Zb, Zc, Zd, Ze, Zf, Zg, Zh, Zi, Zj, Zk, Zl, Zm, Zn, Zo, Zp, Zq, Zr, Zs, Zt, Zu, Zv, Zw, Zx, Zy, Zz, ZA, ZB, ZC, ZD, ZE, ZF, ZG, ZH, ZI, ZJ, ZK, ZL, ZM, ZN, ZO, ZP, ZQ, ZR, ZS, ZT, ZU, ZV, ZW, ZX, ZY, ZZ, Y0, Y1, Y2, Y3, Y4, Y5, Y6, Y7, Y8, Y9, Ya, Yb, Yc, Yd, Ye, Yf, Yg, Yh, Yi, Yj, Yk, Yl, Ym, Yn, Yo, Yp, Yq, Yr, Ys, Yt, Yu, Yv, Yw, Yx, Yy, Yz, YA, YB, YC, YD, YE, YF, YG, YH, YI, YJ, YK, YL, YM, YN, YO, YP, YQ, YR, YS, YT, YU, YV], []⟩ [.code (tailC 7 body7)]) []) := by
  have hS := steady_aloneB Bd
  have e7 : tailC 7 body7 = .seq (headC 7 body7) (tailC 8 body7) := by kernel_rfl
  have e8 : tailC 8 body7 = .seq (headC 8 body7) (tailC 9 body7) := by kernel_rfl
  rw [e7]
  refine Can.ctl hS hL rfl (fun _ => stepG_seq) ?_
  refine Can.code' okProgR hS hL (okFr_at (by kernel_rfl) rfl rfl ⟨_, Try.func7⟩) ?_
  intro T d W hW B hB
  have c28 := hidC (faultTicks_any (tc := tc) hv (show RowsAt W ta J by rw [hW.out]; exact RowsIn.re hs.rowsAt T d))
  simp only [headC, body7, Try.f7, Option.getD_some]
  go_wp2_with (go_at_call 28; (with_reducible refine c28.out.mono ?_); rintro e w1 ⟨a10, c10, rfl, _, hb1⟩)
  have hB := hB.out
  subst hB
  intro hc
  have hW := hW.out
  subst hW
  have K9 := bwre hb1
  have hL1 : Lay C w1 := ⟨hc, hL.no⟩
  have hs1 := hs.kin (K9.le hs.low)
  have hr1 := hr5.kin K9 hz5
  have hi1 : IntsAt w1 d2 R2 := hi2.kept K9.cells K9.size
  clear hc hb1 K9 c28 hB
  rw [e8]
  refine Can.ctl hS hL1 rfl (fun _ => stepG_seq) ?_
  refine Can.code' okProgR hS hL1 (okFr_at (by kernel_rfl) rfl rfl ⟨_, Try.func7⟩) ?_
  intro T d W hW B hB
  simp only [headC, body7, Try.f7, Option.getD_some]
  go_wp2
  have hB := hB.out
  subst hB
  intro hc
  have hW := hW.out
  subst hW
  refine Can.re ?_ T d
  exact next a10 c10 w1 _ _ _ _ _ _ _ _ _ _ _ _ _ _ _ _ _ _ _ _ _ _ _ _ _ _ _ _ _ _ _ _ _ _ _ _ _ _ _ _ _ _ _ _ _ _ _ _ _ _ _ _ _ _ _ _ _ _ _ _ _ _ _ _ _ _ _ _ _ _ _ _ _ _ _ _ _ _ _ _ _ _ _ _ _ _ _ _ _ _ _ _ _ _ _ _ _ _ _ _ _ _ _ _ _ _ _ _ _ _ _ _ _ _ _ _ _ _ _ _ _ _ _ _ _ _ _ _ _ _ _ _ _ _ _ _ _ _ _ _ _ _ _ _ _ _ _ _ _ _ _ _ _ _ _ _ _ _ _ _ _ _ _ _ _ _ _ _ _ _ hL1 hs1 hr1 hi1
end
section
variable {C : Cfg} {b o Bd kb : Nat} {wl : World} {f t : Int} {J : List (List Int)} {tc : Nat} {ta : Option Addr} {g : Bool} {R1 R2 : List Int} {E : ByteArray} {A : Int} {q : List UInt8} {a : Option Addr} {bs : List Int} {c : Nat} {k5 : Nat} {d1 d2 : Option Addr} {e1 e2 : Nat} {k7 : Nat} {x1 x2 : Option Addr} {y1 y2 : Nat} {win : Nat} {a10 : Option Addr} {c10 : Nat}
set_option maxRecDepth 100000 in
set_option maxHeartbeats 2000000 in
theorem law7_g {z1 zd ze zf zg zh zi zj zk zl zm zn zo zp zq zr zs zt zu zv zw zx zy zz zA zB zC zD zE zF zG zH zI zJ zK zL zM zN zO zP zQ zR zS zT zU zV zW zX zY zZ Z0 Z1 Z2 Z3 Z4 Z5 Z6 Z7 Z8 Z9 Za Zb Zc Zd Ze Zf Zg Zh Zi Zj Zk Zl Zm Zn Zo Zp Zq Zr Zs Zt Zu Zv Zw Zx Zy Zz ZA ZB ZC ZD ZE ZF ZG ZH ZI ZJ ZK ZL ZM ZN ZO ZP ZQ ZR ZS ZT ZU ZV ZW ZX ZY ZZ Y0 Y1 Y2 Y3 Y4 Y5 Y6 Y7 Y8 Y9 Ya Yb Yc Yd Ye Yf Yg Yh Yi Yj Yk Yl Ym Yn Yo Yp Yq Yr Ys Yt Yu Yv Yw Yx Yy Yz YA YB YC YD YE YF YG YH YI YJ YK YL YM YN YO YP YQ YR YS YT YU YV : Value} (hn2 : R2.length ≤ 1048576) (hL : Lay C wl) (hr5 : Reads wl k5 [.slice d1 R1.length e1, .slice d2 R2.length e2, .string E, .int .i64 A]) (hi2 : IntsAt wl d2 R2)
    (next : ∀ (z1 zd ze zf zg zh zi zj zk zl zm zn zo zp zq zr zs zt zu zv zw zx zy zz zA zB zC zD zE zF zG zH zI zJ zK zL zM zN zO zP zQ zR zS zT zU zV zW zX zY zZ Z0 Z1 Z2 Z3 Z4 Z5 Z6 Z7 Z8 Z9 Za Zb Zc Zd Ze Zf Zg Zh Zi Zj Zk Zl Zm Zn Zo Zp Zq Zr Zs Zt Zu Zv Zw Zx Zy Zz ZA ZB ZC ZD ZE ZF ZG ZH ZI ZJ ZK ZL ZM ZN ZO ZP ZQ ZR ZS ZT ZU ZV ZW ZX ZY ZZ Y0 Y1 Y2 Y3 Y4 Y5 Y6 Y7 Y8 Y9 Ya Yb Yc Yd Ye Yf Yg Yh Yi Yj Yk Yl Ym Yn Yo Yp Yq Yr Ys Yt Yu Yv Yw Yx Yy Yz YA YB YC YD YE YF YG YH YI YJ YK YL YM YN YO YP YQ YR YS YT YU YV : Value), Can Try.prog C b o (fun v _ => v = .bool true) 0 (AloneB Bd) wl (G ((base 7).at ⟨#[.slice a bs.length c, z1, .bool false, .pointer (some ⟨kb, 0, none⟩), .slice ta J.length tc, .pointer (some ⟨k5, 0, none⟩), .bool true, .pointer (some ⟨k7, 0, none⟩), .bool true, .int .i64 (needTo J win 20), .slice a10 (tot J (mxR J J.length)) c10, .bool true, .int .i64 (mxI R2 R2.length), zd, ze, zf, zg, zh, zi, zj, zk, zl, zm, zn, zo, zp, zq, zr, zs, zt, zu, zv, zw, zx, zy, zz, zA, zB, zC, zD, zE, zF, zG, zH, zI, zJ, zK, zL, zM, zN, zO, zP, zQ, zR, zS, zT, zU, zV, zW, zX, zY, zZ, Z0, Z1, Z2, Z3, Z4, Z5, Z6, Z7, Z8, Z9, Za, Zb, Zc, Zd, Ze, Zf, Zg, Zh, Zi, Zj, Zk, Zl, Zm, Zn, Zo, Zp, Zq, Zr, Zs, Zt, Zu, Zv, Zw, Zx, Zy, Zz, ZA, ZB, ZC, ZD, ZE, ZF, ZG, ZH, ZI, ZJ, ZK, ZL, ZM, ZN, ZO, ZP, ZQ, ZR, ZS, ZT, ZU, ZV, ZW, ZX, ZY, ZZ, Y0, Y1, Y2, Y3, Y4, Y5, Y6, Y7, Y8, Y9, Ya, Yb, Yc, Yd, Ye, Yf, Yg, Yh, Yi, Yj, Yk, Yl, Ym, Yn, Yo, Yp, Yq, Yr, Ys, Yt, Yu, Yv, Yw, Yx, Yy, Yz, YA, YB, YC, YD, YE, YF, YG, YH, YI, YJ, YK, YL, YM, YN, YO, YP, YQ, YR, YS, YT, YU, YV], []⟩ [.code (tailC 10 body7)]) [])) :
    Can Try.prog C b o (fun v _ => v = .bool true) 0 (AloneB Bd) wl (G ((base 7).at ⟨#[.slice a bs.length c, z1, .bool false, .pointer (some ⟨kb, 0, none⟩), .slice ta J.length tc, .pointer (some ⟨k5, 0, none⟩), .bool true, .pointer (some ⟨k7, 0, none⟩), .bool true, .int .i64 (needTo J win 20), .slice a10 (tot J (mxR J J.length)) c10, .bool true, .int .i64 0, zd, ze, zf, zg, zh, zi, zj, zk, zl, zm, zn, zo, zp, zq, zr, zs, zt, zu, zv, zw, zx, zy, zz, zA, zB, zC, zD, zE, zF, zG, zH, zI, zJ, zK, zL, zM, zN, zO, zP, zQ, zR, zS, zT, zU, zV, zW, zX, zY, zZ, Z0, Z1, Z2, Z3, Z4, Z5, Z6, Z7, Z8, Z9, Za, Zb, Zc, Zd, Ze, Zf, Zg, Zh, Zi, Zj, Zk, Zl, Zm, Zn, Zo, Zp, Zq, Zr, Zs, Zt, Zu, Zv, Zw, Zx, Zy, Zz, ZA, ZB, ZC, ZD, ZE, ZF, ZG, ZH, ZI, ZJ, ZK, ZL, ZM, ZN, ZO, ZP, ZQ, ZR, ZS, ZT, ZU, ZV, ZW, ZX, ZY, ZZ, Y0, Y1, Y2, Y3, Y4, Y5, Y6, Y7, Y8, Y9, Ya, Yb, Yc, Yd, Ye, Yf, Yg, Yh, Yi, Yj, Yk, Yl, Ym, Yn, Yo, Yp, Yq, Yr, Ys, Yt, Yu, Yv, Yw, Yx, Yy, Yz, YA, YB, YC, YD, YE, YF, YG, YH, YI, YJ, YK, YL, YM, YN, YO, YP, YQ, YR, YS, YT, YU, YV], []⟩ [.code (tailC 9 body7)]) []) := by
  have hS := steady_aloneB Bd
  have e9 : tailC 9 body7 = .seq (headC 9 body7) (tailC 10 body7) := by kernel_rfl
  rw [e9]
  refine Can.ctl hS hL rfl (fun _ => stepG_seq) ?_
  refine Can.code' okProgR hS hL (okFr_at (by kernel_rfl) rfl rfl ⟨_, Try.func7⟩) ?_
  intro T d W hW B hB
  have q1 : W.cell? ⟨k5, 1, none⟩ = some (.slice d2 R2.length e2) := by rw [hW.out]; exact (hr5 1 (by simp)).1
  have i2 : IntsAt W d2 R2 := by rw [hW.out]; exact hi2
  simp only [headC, body7, Try.f7, Option.getD_some]
  go_wp2
  go_loop [12, 13] (fun r i => ∃ k : Nat, k ≤ R2.length ∧ i = .int .i64 k ∧ r = .int .i64 (mxI R2 k)) (fun _ i => R2.length - (intOf i).toNat)
  case atStart => exact ⟨0, Nat.zero_le _, rfl, rfl⟩
  case round =>
    obtain ⟨k, hk, rfl, rfl⟩ := hrel
    by_cases hlt : k < R2.length
    · have hlt' : (k : Int) < (R2.length : Int) := by omega
      obtain ⟨xb, off, hd, hxb, hck⟩ := i2.at hlt
      have hmx : RowKit.Hid (mxI R2 (k + 1) = max (mxI R2 k) R2[k]) := by
        show mxI R2 (k + 1) = _
        simp only [mxI, List.getD, List.getElem?_eq_getElem hlt, Option.getD_some]
      rw [hd] at q1
      generalize R2[k] = v at *
      generalize mxI R2 k = mm at *
      go_wp2
      go_round
      case rel => exact ⟨k + 1, by omega, by go_num, by rw [hmx.out]; congr 1; split <;> omega⟩
      case measure => simp [intOf]; omega
    · obtain rfl : k = R2.length := by omega
      go_wp2
      have hB := hB.out
      subst hB
      intro hc
      have hW := hW.out
      subst hW
      refine Can.re ?_ T d
      exact next _ _ _ _ _ _ _ _ _ _ _ _ _ _ _ _ _ _ _ _ _ _ _ _ _ _ _ _ _ _ _ _ _ _ _ _ _ _ _ _ _ _ _ _ _ _ _ _ _ _ _ _ _ _ _ _ _ _ _ _ _ _ _ _ _ _ _ _ _ _ _ _ _ _ _ _ _ _ _ _ _ _ _ _ _ _ _ _ _ _ _ _ _ _ _ _ _ _ _ _ _ _ _ _ _ _ _ _ _ _ _ _ _ _ _ _ _ _ _ _ _ _ _ _ _ _ _ _ _ _ _ _ _ _ _ _ _ _ _ _ _ _ _ _ _ _ _ _ _ _ _ _ _ _ _ _ _ _ _ _ _ _ _ _ _ _ _ _ _ _
set_option maxRecDepth 100000 in
set_option maxHeartbeats 2000000 in
theorem law7_h {z1 zd ze zf zg zh zi zj zk zl zm zn zo zp zq zr zs zt zu zv zw zx zy zz zA zB zC zD zE zF zG zH zI zJ zK zL zM zN zO zP zQ zR zS zT zU zV zW zX zY zZ Z0 Z1 Z2 Z3 Z4 Z5 Z6 Z7 Z8 Z9 Za Zb Zc Zd Ze Zf Zg Zh Zi Zj Zk Zl Zm Zn Zo Zp Zq Zr Zs Zt Zu Zv Zw Zx Zy Zz ZA ZB ZC ZD ZE ZF ZG ZH ZI ZJ ZK ZL ZM ZN ZO ZP ZQ ZR ZS ZT ZU ZV ZW ZX ZY ZZ Y0 Y1 Y2 Y3 Y4 Y5 Y6 Y7 Y8 Y9 Ya Yb Yc Yd Ye Yf Yg Yh Yi Yj Yk Yl Ym Yn Yo Yp Yq Yr Ys Yt Yu Yv Yw Yx Yy Yz YA YB YC YD YE YF YG YH YI YJ YK YL YM YN YO YP YQ YR YS YT YU YV : Value} (hF : KeepFacts q f win J R1 R2 E) (hL : Lay C wl) (hs : BaseP q f t J ta kb wl) (hr5 : Reads wl k5 [.slice d1 R1.length e1, .slice d2 R2.length e2, .string E, .int .i64 A]) :
    Can Try.prog C b o (fun v _ => v = .bool true) 0 (AloneB Bd) wl (G ((base 7).at ⟨#[.slice a bs.length c, z1, .bool false, .pointer (some ⟨kb, 0, none⟩), .slice ta J.length tc, .pointer (some ⟨k5, 0, none⟩), .bool true, .pointer (some ⟨k7, 0, none⟩), .bool true, .int .i64 (needTo J win 20), .slice a10 (tot J (mxR J J.length)) c10, .bool true, .int .i64 (mxI R2 R2.length), zd, ze, zf, zg, zh, zi, zj, zk, zl, zm, zn, zo, zp, zq, zr, zs, zt, zu, zv, zw, zx, zy, zz, zA, zB, zC, zD, zE, zF, zG, zH, zI, zJ, zK, zL, zM, zN, zO, zP, zQ, zR, zS, zT, zU, zV, zW, zX, zY, zZ, Z0, Z1, Z2, Z3, Z4, Z5, Z6, Z7, Z8, Z9, Za, Zb, Zc, Zd, Ze, Zf, Zg, Zh, Zi, Zj, Zk, Zl, Zm, Zn, Zo, Zp, Zq, Zr, Zs, Zt, Zu, Zv, Zw, Zx, Zy, Zz, ZA, ZB, ZC, ZD, ZE, ZF, ZG, ZH, ZI, ZJ, ZK, ZL, ZM, ZN, ZO, ZP, ZQ, ZR, ZS, ZT, ZU, ZV, ZW, ZX, ZY, ZZ, Y0, Y1, Y2, Y3, Y4, Y5, Y6, Y7, Y8, Y9, Ya, Yb, Yc, Yd, Ye, Yf, Yg, Yh, Yi, Yj, Yk, Yl, Ym, Yn, Yo, Yp, Yq, Yr, Ys, Yt, Yu, Yv, Yw, Yx, Yy, Yz, YA, YB, YC, YD, YE, YF, YG, YH, YI, YJ, YK, YL, YM, YN, YO, YP, YQ, YR, YS, YT, YU, YV], []⟩ [.code (tailC 10 body7)]) []) := by
  have hS := steady_aloneB Bd
  have e11 : tailC 11 body7 = .ret := by kernel_rfl
  have e10 : tailC 10 body7 = .seq (headC 10 body7) (tailC 11 body7) := by kernel_rfl
  rw [e10]
  refine Can.ctl hS hL rfl (fun _ => stepG_seq) ?_
  refine Can.code' okProgR hS hL (okFr_at (by kernel_rfl) rfl rfl ⟨_, Try.func7⟩) ?_
  intro T d W hW B hB
  have q50 : W.cell? ⟨k5, 0, none⟩ = some (.slice d1 R1.length e1) := by rw [hW.out]; exact (hr5 0 (by simp)).1
  have q52 : W.cell? ⟨k5, 2, none⟩ = some (.string E) := by rw [hW.out]; exact (hr5 2 (by simp)).1
  have s0 : W.cell? ⟨kb, 0, none⟩ = some (.string ⟨q.toArray⟩) := by rw [hW.out]; exact (hs.keeper 0 (by simp)).1
  have s1 : W.cell? ⟨kb, 1, none⟩ = some (.int .i64 f) := by rw [hW.out]; exact (hs.keeper 1 (by simp)).1
  obtain ⟨_, _, _, n1, _, few, how⟩ := hF
  rw [n1] at q50
  generalize mxI R2 R2.length = sm at *
  generalize tot J (mxR J J.length) = tt at *
  generalize needTo J win 20 = nd at *
  simp only [headC, body7, Try.f7, Option.getD_some]
  rcases how with ⟨rfl, hlt⟩ | ⟨rfl, hle, hall⟩
  · have hge : ¬ (nd ≤ f) := by omega
    go_wp2
    have hB := hB.out
    subst hB
    intro hc
    have hW := hW.out
    subst hW
    have hL' : Lay C (wl.re T d) := ⟨hc, hL.no⟩
    rw [e11]
    refine Can.ctl hS hL' rfl (fun _ => st_ret) ?_
    exact end7 hL' rfl
  · by_cases hq : q = [97, 108, 108]
    · have heq := hall hq
      subst hq heq
      go_wp2
      have hB := hB.out
      subst hB
      intro hc
      have hW := hW.out
      subst hW
      have hL' : Lay C (wl.re T d) := ⟨hc, hL.no⟩
      rw [e11]
      refine Can.ctl hS hL' rfl (fun _ => st_ret) ?_
      exact end7 hL' rfl
    · have hne : ((⟨q.toArray⟩ : ByteArray).toList == [97, 108, 108]) = false := by
        rw [bytes_toList]
        simpa using hq
      go_wp2
      have hB := hB.out
      subst hB
      intro hc
      have hW := hW.out
      subst hW
      have hL' : Lay C (wl.re T d) := ⟨hc, hL.no⟩
      rw [e11]
      refine Can.ctl hS hL' rfl (fun _ => st_ret) ?_
      exact end7 hL' rfl
end
section
variable {C : Cfg} {b o Bd : Nat} {wl : World} {a : Option Addr} {bs : List Int} {c : Nat}
theorem law7 (hBd : Bd < 1000000000) (hL : Lay C wl) (hA : BytesAt wl a bs) (hu : ∀ b ∈ bs, InU8 b) (hcap : bs.length ≤ c) (hlen : bs.length ≤ 9223372036854775807) :
    Can Try.prog C b o (fun v _ => v = .bool true) 0 (AloneB Bd) wl (G ((base 7).at ⟨#[.slice a bs.length c, undef, undef, undef, undef, undef, undef, undef, undef, undef, undef, undef, undef, undef, undef, undef, undef, undef, undef, undef, undef, undef, undef, undef, undef, undef, undef, undef, undef, undef, undef, undef, undef, undef, undef, undef, undef, undef, undef, undef, undef, undef, undef, undef, undef, undef, undef, undef, undef, undef, undef, undef, undef, undef, undef, undef, undef, undef, undef, undef, undef, undef, undef, undef, undef, undef, undef, undef, undef, undef, undef, undef, undef, undef, undef, undef, undef, undef, undef, undef, undef, undef, undef, undef, undef, undef, undef, undef, undef, undef, undef, undef, undef, undef, undef, undef, undef, undef, undef, undef, undef, undef, undef, undef, undef, undef, undef, undef, undef, undef, undef, undef, undef, undef, undef, undef, undef, undef, undef, undef, undef, undef, undef, undef, undef, undef, undef, undef, undef, undef, undef, undef, undef, undef, undef, undef, undef, undef, undef, undef, undef, undef, undef, undef, undef, undef, undef, undef, undef, undef, undef, undef, undef, undef, undef, undef, undef, undef, undef, undef, undef, undef, undef, undef, undef, undef, undef, undef, undef, undef, undef, undef, undef, undef, undef, undef, undef, undef, undef, undef, undef, undef], []⟩ [.code body7]) []) := by
  refine law7_a hL hA hu hcap hlen ?_
  intro q f t J ta tc kb w z1 z5 z6 z7 z8 z9 za zb zc zd ze zf zg zh zi zj zk zl zm zn zo zp zq zr zs zt zu zv zw zx zy zz zA zB zC zD zE zF zG zH zI zJ zK zL zM zN zO zP zQ zR zS zT zU zV zW zX zY zZ Z0 Z1 Z2 Z3 Z4 Z5 Z6 Z7 Z8 Z9 Za Zb Zc Zd Ze Zf Zg Zh Zi Zj Zk Zl Zm Zn Zo Zp Zq Zr Zs Zt Zu Zv Zw Zx Zy Zz ZA ZB ZC ZD ZE ZF ZG ZH ZI ZJ ZK ZL ZM ZN ZO ZP ZQ ZR ZS ZT ZU ZV ZW ZX ZY ZZ Y0 Y1 Y2 Y3 Y4 Y5 Y6 Y7 Y8 Y9 Ya Yb Yc Yd Ye Yf Yg Yh Yi Yj Yk Yl Ym Yn Yo Yp Yq Yr Ys Yt Yu Yv Yw Yx Yy Yz YA YB YC YD YE YF YG YH YI YJ YK YL YM YN YO YP YQ YR YS YT YU YV hJ hJl hL hs
  obtain ⟨g, R1, R2, E, A, hD⟩ := kd_ex q f t J
  have hm : ∀ l ∈ J, l.length ≤ 1048576 := fun l hl => by have := hJl l hl; omega
  obtain ⟨hn1, hn2⟩ := hD.len (by omega)
  obtain ⟨hE, hall⟩ := kd_keep hD
  refine law7_b (by omega) hm (by omega) hD hL hs ?_
  intro C' b' o' k5 d1 d2 e1 e2 w z1 z7 z8 z9 za zb zc zd ze zf zg zh zi zj zk zl zm zn zo zp zq zr zs zt zu zv zw zx zy zz zA zB zC zD zE zF zG zH zI zJ zK zL zM zN zO zP zQ zR zS zT zU zV zW zX zY zZ Z0 Z1 Z2 Z3 Z4 Z5 Z6 Z7 Z8 Z9 Za Zb Zc Zd Ze Zf Zg Zh Zi Zj Zk Zl Zm Zn Zo Zp Zq Zr Zs Zt Zu Zv Zw Zx Zy Zz ZA ZB ZC ZD ZE ZF ZG ZH ZI ZJ ZK ZL ZM ZN ZO ZP ZQ ZR ZS ZT ZU ZV ZW ZX ZY ZZ Y0 Y1 Y2 Y3 Y4 Y5 Y6 Y7 Y8 Y9 Ya Yb Yc Yd Ye Yf Yg Yh Yi Yj Yk Yl Ym Yn Yo Yp Yq Yr Ys Yt Yu Yv Yw Yx Yy Yz YA YB YC YD YE YF YG YH YI YJ YK YL YM YN YO YP YQ YR YS YT YU YV hL hs hr5 hi1 hi2 hz5
  refine law7_c (by omega) hm hD hL hs hr5 hi1 hi2 hz5 ?_
  intro k7 x1 x2 y1 y2 w z1 z9 za zb zc zd ze zf zg zh zi zj zk zl zm zn zo zp zq zr zs zt zu zv zw zx zy zz zA zB zC zD zE zF zG zH zI zJ zK zL zM zN zO zP zQ zR zS zT zU zV zW zX zY zZ Z0 Z1 Z2 Z3 Z4 Z5 Z6 Z7 Z8 Z9 Za Zb Zc Zd Ze Zf Zg Zh Zi Zj Zk Zl Zm Zn Zo Zp Zq Zr Zs Zt Zu Zv Zw Zx Zy Zz ZA ZB ZC ZD ZE ZF ZG ZH ZI ZJ ZK ZL ZM ZN ZO ZP ZQ ZR ZS ZT ZU ZV ZW ZX ZY ZZ Y0 Y1 Y2 Y3 Y4 Y5 Y6 Y7 Y8 Y9 Ya Yb Yc Yd Ye Yf Yg Yh Yi Yj Yk Yl Ym Yn Yo Yp Yq Yr Ys Yt Yu Yv Yw Yx Yy Yz YA YB YC YD YE YF YG YH YI YJ YK YL YM YN YO YP YQ YR YS YT YU YV hL hs hr7 hx1 hx2 _ hr5 hi1 hi2 hz5
  refine law7_d hE hn1 hn2 hL hs hr5 hi1 hi2 hz5 hr7 hx1 hx2 ?_
  intro w z1 z9 za zb zc zd ze zf zg zh zi zj zk zl zm zn zo zp zq zr zs zt zu zv zw zx zy zz zA zB zC zD zE zF zG zH zI zJ zK zL zM zN zO zP zQ zR zS zT zU zV zW zX zY zZ Z0 Z1 Z2 Z3 Z4 Z5 Z6 Z7 Z8 Z9 Za Zb Zc Zd Ze Zf Zg Zh Zi Zj Zk Zl Zm Zn Zo Zp Zq Zr Zs Zt Zu Zv Zw Zx Zy Zz ZA ZB ZC ZD ZE ZF ZG ZH ZI ZJ ZK ZL ZM ZN ZO ZP ZQ ZR ZS ZT ZU ZV ZW ZX ZY ZZ Y0 Y1 Y2 Y3 Y4 Y5 Y6 Y7 Y8 Y9 Ya Yb Yc Yd Ye Yf Yg Yh Yi Yj Yk Yl Ym Yn Yo Yp Yq Yr Ys Yt Yu Yv Yw Yx Yy Yz YA YB YC YD YE YF YG YH YI YJ YK YL YM YN YO YP YQ YR YS YT YU YV hg hL hs hr5 hi2 hz5
  obtain ⟨win, ht, hF⟩ := hall hg
  refine law7_e ht hF.tasks hF.w0 hF.w20 hL hs hr5 hi2 hz5 ?_
  intro w z1 za zb zc zd ze zf zg zh zi zj zk zl zm zn zo zp zq zr zs zt zu zv zw zx zy zz zA zB zC zD zE zF zG zH zI zJ zK zL zM zN zO zP zQ zR zS zT zU zV zW zX zY zZ Z0 Z1 Z2 Z3 Z4 Z5 Z6 Z7 Z8 Z9 Za Zb Zc Zd Ze Zf Zg Zh Zi Zj Zk Zl Zm Zn Zo Zp Zq Zr Zs Zt Zu Zv Zw Zx Zy Zz ZA ZB ZC ZD ZE ZF ZG ZH ZI ZJ ZK ZL ZM ZN ZO ZP ZQ ZR ZS ZT ZU ZV ZW ZX ZY ZZ Y0 Y1 Y2 Y3 Y4 Y5 Y6 Y7 Y8 Y9 Ya Yb Yc Yd Ye Yf Yg Yh Yi Yj Yk Yl Ym Yn Yo Yp Yq Yr Ys Yt Yu Yv Yw Yx Yy Yz YA YB YC YD YE YF YG YH YI YJ YK YL YM YN YO YP YQ YR YS YT YU YV hL hs hr5 hi2 hz5
  refine law7_f hF.tasks hL hs hr5 hi2 hz5 ?_
  intro a10 c10 w z1 zd ze zf zg zh zi zj zk zl zm zn zo zp zq zr zs zt zu zv zw zx zy zz zA zB zC zD zE zF zG zH zI zJ zK zL zM zN zO zP zQ zR zS zT zU zV zW zX zY zZ Z0 Z1 Z2 Z3 Z4 Z5 Z6 Z7 Z8 Z9 Za Zb Zc Zd Ze Zf Zg Zh Zi Zj Zk Zl Zm Zn Zo Zp Zq Zr Zs Zt Zu Zv Zw Zx Zy Zz ZA ZB ZC ZD ZE ZF ZG ZH ZI ZJ ZK ZL ZM ZN ZO ZP ZQ ZR ZS ZT ZU ZV ZW ZX ZY ZZ Y0 Y1 Y2 Y3 Y4 Y5 Y6 Y7 Y8 Y9 Ya Yb Yc Yd Ye Yf Yg Yh Yi Yj Yk Yl Ym Yn Yo Yp Yq Yr Ys Yt Yu Yv Yw Yx Yy Yz YA YB YC YD YE YF YG YH YI YJ YK YL YM YN YO YP YQ YR YS YT YU YV hL hs hr5 hi2
  refine law7_g hn2 hL hr5 hi2 ?_
  intro z1 zd ze zf zg zh zi zj zk zl zm zn zo zp zq zr zs zt zu zv zw zx zy zz zA zB zC zD zE zF zG zH zI zJ zK zL zM zN zO zP zQ zR zS zT zU zV zW zX zY zZ Z0 Z1 Z2 Z3 Z4 Z5 Z6 Z7 Z8 Z9 Za Zb Zc Zd Ze Zf Zg Zh Zi Zj Zk Zl Zm Zn Zo Zp Zq Zr Zs Zt Zu Zv Zw Zx Zy Zz ZA ZB ZC ZD ZE ZF ZG ZH ZI ZJ ZK ZL ZM ZN ZO ZP ZQ ZR ZS ZT ZU ZV ZW ZX ZY ZZ Y0 Y1 Y2 Y3 Y4 Y5 Y6 Y7 Y8 Y9 Ya Yb Yc Yd Ye Yf Yg Yh Yi Yj Yk Yl Ym Yn Yo Yp Yq Yr Ys Yt Yu Yv Yw Yx Yy Yz YA YB YC YD YE YF YG YH YI YJ YK YL YM YN YO YP YQ YR YS YT YU YV
  exact law7_h hF hL hs hr5
end
end Go.Town.Kp
namespace Go.Town.Kp
open Go Go.Conc Go.Conc.Lib Go.ConcR.Gen Go.RowKit Go.Town Go.Proofs Go.ChangeShapes
theorem inU8_of_wf {n : Int} (h : (Lit.int .u8 n).wf = true) : InU8 n := by
  have e1 : IntKind.u8.min = 0 := rfl
  have e2 : IntKind.u8.max = 255 := rfl
  simp [Lit.wf, e1, e2] at h
  exact ⟨by omega, by omega⟩
theorem bytes_open {W : World} {x : Addr} {l c : Nat} {zs : List Int} (hl : l ≤ c) (hz : zs.length = c) (hcell : ∀ i, i < zs.length → W.cell? (x.add i) = some (.int .u8 (zs.getD i 0))) (hw : ∀ n ∈ zs, (Lit.int .u8 n).wf = true) :
    ∃ ys : List Int, l = ys.length ∧ (∀ n ∈ ys, InU8 n) ∧ BytesAt W (some x) ys := by
  refine ⟨zs.take l, by simp; omega, fun n hn => inU8_of_wf (hw n (List.mem_of_mem_take hn)), ?_⟩
  by_cases h0 : l = 0
  · subst h0; exact .inl rfl
  obtain ⟨b, off, spot⟩ := x
  have hc := hcell 0 (by omega)
  have hspot : spot = none := by simpa [Addr.add] using World.cell?_spot hc
  subst hspot
  have hb : b < W.heap.size := by
    unfold World.cell? at hc
    simp only [Addr.add] at hc
    rcases Nat.lt_or_ge b W.heap.size with h | h
    · exact h
    · simp [Array.getElem?_eq_none h] at hc
  refine .inr ⟨b, off, rfl, hb, fun i hi => ?_⟩
  have hi' : i < l := by simp at hi; omega
  have := hcell i (by omega)
  rw [show (zs.take l).getD i 0 = zs.getD i 0 from by simp [List.getD, hi']]
  rw [← this]
  congr 1
  simp [Addr.add]
theorem under22 : Try.prog.underlying 22 = some (.slice 5) := by kernel_rfl
theorem under5 : Try.prog.underlying 5 = some (.int .u8) := by kernel_rfl
section
variable {H : Type} {enc : TypeId × Value → H} {W : World} {base : Nat} {sp : Nat → Bool} {held : Bool}
theorem bytes_in {fuel len cap : Nat} {a : Option Addr} {x : DataW H × List MemPlace} (h : DataW.trod enc Try.prog W base sp held fuel 22 (Value.slice a len cap).cells.toList = some x) : ∃ zs : List Int, len = zs.length ∧ len ≤ cap ∧ len ≤ 9223372036854775807 ∧ (∀ n ∈ zs, InU8 n) ∧ BytesAt W a zs := by
  rcases open_ints under22 under5 (by kernel_rfl) h with ⟨hcs, _⟩ | ⟨x, l, c, zs, hcs, _, hl, hm, hz, _, hcell, hwz⟩
  · simp [Value.cells] at hcs
    obtain ⟨rfl, rfl, rfl⟩ := hcs
    exact ⟨[], rfl, Nat.zero_le _, by omega, by simp, .inl rfl⟩
  · simp [Value.cells] at hcs
    obtain ⟨rfl, rfl, rfl⟩ := hcs
    have hz' : zs.length = cap ∨ zs.length = len := by
      split at hz
      · exact .inl hz
      · exact .inr hz
    obtain ⟨ys, q1, q2, q3⟩ := bytes_open (l := len) (c := zs.length) (by omega) rfl hcell hwz
    exact ⟨ys, q1, hl, by simp only [maxLen] at hm; omega, q2, q3⟩
theorem bytes_shut {a : Option Addr} {bs : List Int} (h : BytesAt W a bs) : BytesAt (shutW W) a bs := by
  rcases h with h | ⟨b, off, rfl, hb, hc⟩
  · exact .inl h
  · exact .inr ⟨b, off, rfl, by rw [shutW_size]; exact hb, fun i hi => by rw [shutW_cell]; exact hc i hi⟩
end
end Go.Town.Kp
