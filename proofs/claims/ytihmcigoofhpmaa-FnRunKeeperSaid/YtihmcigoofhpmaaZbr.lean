/-
  The law FnRunKeeper: are the answers alike?
-/
import Derived.Lib.QuietBelow
import Derived.Test.YtihmcigoofhpmaaZbq
set_option linter.all false
namespace Go.Town.Kp
open Go Go.Conc Go.Conc.Lib Go.ConcR.Gen Go.RowKit Go.Town Go.Proofs
open Go.ConcN (upd upd_ne upd_same)
section
variable {C : Cfg} {b o Bd kb : Nat} {wl : World} {f t : Int} {J : List (List Int)} {tc : Nat} {ta : Option Addr} {g : Bool} {R1 R2 : List Int} {E : ByteArray} {A : Int} {q : List UInt8} {a : Option Addr} {bs : List Int} {c : Nat} {k5 : Nat} {d1 d2 : Option Addr} {e1 e2 : Nat} {k7 : Nat} {x1 x2 : Option Addr} {y1 y2 : Nat}
set_option maxRecDepth 100000 in
set_option maxHeartbeats 8000000 in
theorem law7_d {z1 z9 za zb zc zd ze zf zg zh zi zj zk zl zm zn zo zp zq zr zs zt zu zv zw zx zy zz zA zB zC zD zE zF zG zH zI zJ zK zL zM zN zO zP zQ zR zS zT zU zV zW zX zY zZ Z0 Z1 Z2 Z3 Z4 Z5 Z6 Z7 Z8 Z9 Za Zb Zc Zd Ze Zf Zg Zh Zi Zj Zk Zl Zm Zn Zo Zp Zq Zr Zs Zt Zu Zv Zw Zx Zy Zz ZA ZB ZC ZD ZE ZF ZG ZH ZI ZJ ZK ZL ZM ZN ZO ZP ZQ ZR ZS ZT ZU ZV ZW ZX ZY ZZ Y0 Y1 Y2 Y3 Y4 Y5 Y6 Y7 Y8 Y9 Ya Yb Yc Yd Ye Yf Yg Yh Yi Yj Yk Yl Ym Yn Yo Yp Yq Yr Ys Yt Yu Yv Yw Yx Yy Yz YA YB YC YD YE YF YG YH YI YJ YK YL YM YN YO YP YQ YR YS YT YU YV : Value} (hE : g = false → E = ⟨#[]⟩) (hn1 : R1.length ≤ 1048576) (hn2 : R2.length ≤ 1048576) (hL : Lay C wl) (hs : BaseP q f t J ta kb wl) (hr5 : Reads wl k5 [.slice d1 R1.length e1, .slice d2 R2.length e2, .string E, .int .i64 A]) (hi1 : IntsAt wl d1 R1) (hi2 : IntsAt wl d2 R2) (hz5 : k5 < wl.heap.size) (hr7 : Reads wl k7 [.slice x1 R1.length y1, .slice x2 R2.length y2, .string E, .int .i64 A]) (hx1 : IntsAt wl x1 R1) (hx2 : IntsAt wl x2 R2)
    (next : ∀ (w : World) (z1 z9 za zb zc zd ze zf zg zh zi zj zk zl zm zn zo zp zq zr zs zt zu zv zw zx zy zz zA zB zC zD zE zF zG zH zI zJ zK zL zM zN zO zP zQ zR zS zT zU zV zW zX zY zZ Z0 Z1 Z2 Z3 Z4 Z5 Z6 Z7 Z8 Z9 Za Zb Zc Zd Ze Zf Zg Zh Zi Zj Zk Zl Zm Zn Zo Zp Zq Zr Zs Zt Zu Zv Zw Zx Zy Zz ZA ZB ZC ZD ZE ZF ZG ZH ZI ZJ ZK ZL ZM ZN ZO ZP ZQ ZR ZS ZT ZU ZV ZW ZX ZY ZZ Y0 Y1 Y2 Y3 Y4 Y5 Y6 Y7 Y8 Y9 Ya Yb Yc Yd Ye Yf Yg Yh Yi Yj Yk Yl Ym Yn Yo Yp Yq Yr Ys Yt Yu Yv Yw Yx Yy Yz YA YB YC YD YE YF YG YH YI YJ YK YL YM YN YO YP YQ YR YS YT YU YV : Value), g = true → Lay C w → BaseP q f t J ta kb w → Reads w k5 [.slice d1 R1.length e1, .slice d2 R2.length e2, .string E, .int .i64 A] → IntsAt w d2 R2 → k5 < w.heap.size → Can Try.prog C b o (fun v _ => v = .bool true) 0 (AloneB Bd) w (G ((base 7).at ⟨#[.slice a bs.length c, z1, .bool false, .pointer (some ⟨kb, 0, none⟩), .slice ta J.length tc, .pointer (some ⟨k5, 0, none⟩), .bool true, .pointer (some ⟨k7, 0, none⟩), .bool true, z9, za, zb, zc, zd, ze, zf, zg, zh, zi, zj, zk, zl, zm, zn, zo, zp, zq, zr, zs, zt, zu, zv, zw, zx, zy, zz, zA, zB, zC, zD, zE, zF, zG, zH, zI, zJ, zK, zL, zM, zN, zO, zP, zQ, zR, zS, zT, zU, zV, zW, zX, zY, zZ, Z0, Z1, Z2, Z3, Z4, Z5, Z6, Z7, Z8, Z9, Za, Zb, Zc, Zd, Ze, Zf, Zg, Zh, Zi, Zj, Zk, Zl, Zm, Zn, Zo, Zp, Zq, Zr, Zs, Zt, Zu, Zv, Zw, Zx, Zy, Zz, ZA, ZB, ZC, ZD, ZE, ZF, ZG, ZH, ZI, ZJ, ZK, ZL, ZM, ZN, ZO, ZP, ZQ, ZR, ZS, ZT, ZU, ZV, ZW, ZX, ZY, ZZ, Y0, Y1, Y2, Y3, Y4, Y5, Y6, Y7, Y8, Y9, Ya, Yb, Yc, Yd, Ye, Yf, Yg, Yh, Yi, Yj, Yk, Yl, Ym, Yn, Yo, Yp, Yq, Yr, Ys, Yt, Yu, Yv, Yw, Yx, Yy, Yz, YA, YB, YC, YD, YE, YF, YG, YH, YI, YJ, YK, YL, YM, YN, YO, YP, YQ, YR, YS, YT, YU, YV], []⟩ [.code (tailC 6 body7)]) [])) :
    Can Try.prog C b o (fun v _ => v = .bool true) 0 (AloneB Bd) wl (G ((base 7).at ⟨#[.slice a bs.length c, z1, .bool false, .pointer (some ⟨kb, 0, none⟩), .slice ta J.length tc, .pointer (some ⟨k5, 0, none⟩), .bool g, .pointer (some ⟨k7, 0, none⟩), .bool g, z9, za, zb, zc, zd, ze, zf, zg, zh, zi, zj, zk, zl, zm, zn, zo, zp, zq, zr, zs, zt, zu, zv, zw, zx, zy, zz, zA, zB, zC, zD, zE, zF, zG, zH, zI, zJ, zK, zL, zM, zN, zO, zP, zQ, zR, zS, zT, zU, zV, zW, zX, zY, zZ, Z0, Z1, Z2, Z3, Z4, Z5, Z6, Z7, Z8, Z9, Za, Zb, Zc, Zd, Ze, Zf, Zg, Zh, Zi, Zj, Zk, Zl, Zm, Zn, Zo, Zp, Zq, Zr, Zs, Zt, Zu, Zv, Zw, Zx, Zy, Zz, ZA, ZB, ZC, ZD, ZE, ZF, ZG, ZH, ZI, ZJ, ZK, ZL, ZM, ZN, ZO, ZP, ZQ, ZR, ZS, ZT, ZU, ZV, ZW, ZX, ZY, ZZ, Y0, Y1, Y2, Y3, Y4, Y5, Y6, Y7, Y8, Y9, Ya, Yb, Yc, Yd, Ye, Yf, Yg, Yh, Yi, Yj, Yk, Yl, Ym, Yn, Yo, Yp, Yq, Yr, Ys, Yt, Yu, Yv, Yw, Yx, Yy, Yz, YA, YB, YC, YD, YE, YF, YG, YH, YI, YJ, YK, YL, YM, YN, YO, YP, YQ, YR, YS, YT, YU, YV], []⟩ [.code (tailC 5 body7)]) []) := by
  have hS := steady_aloneB Bd
  have e5 : tailC 5 body7 = .seq (headC 5 body7) (tailC 6 body7) := by kernel_rfl
  rw [e5]
  refine Can.ctl hS hL rfl (fun _ => stepG_seq) ?_
  refine Can.code' okProgR hS hL (okFr_at (by kernel_rfl) rfl rfl ⟨_, Try.func7⟩) ?_
  intro T d W hW B hB
  have p0 : ∀ dd os, (Go.Sort.grow (redrawn W dd) os).cell? ⟨k5, 0, none⟩ = some (.slice d1 R1.length e1) := fun dd os => cell_regrown (show W.cell? ⟨k5, 0, none⟩ = some (.slice d1 R1.length e1) by rw [hW.out]; exact (hr5 0 (by simp)).1) dd os
  have p1 : ∀ dd os, (Go.Sort.grow (redrawn W dd) os).cell? ⟨k5, 1, none⟩ = some (.slice d2 R2.length e2) := fun dd os => cell_regrown (show W.cell? ⟨k5, 1, none⟩ = some (.slice d2 R2.length e2) by rw [hW.out]; exact (hr5 1 (by simp)).1) dd os
  have p2 : ∀ dd os, (Go.Sort.grow (redrawn W dd) os).cell? ⟨k5, 2, none⟩ = some (.string E) := fun dd os => cell_regrown (show W.cell? ⟨k5, 2, none⟩ = some (.string E) by rw [hW.out]; exact (hr5 2 (by simp)).1) dd os
  have p3 : ∀ dd os, (Go.Sort.grow (redrawn W dd) os).cell? ⟨k5, 3, none⟩ = some (.int .i64 A) := fun dd os => cell_regrown (show W.cell? ⟨k5, 3, none⟩ = some (.int .i64 A) by rw [hW.out]; exact (hr5 3 (by simp)).1) dd os
  have r0 : ∀ dd os, (Go.Sort.grow (redrawn W dd) os).cell? ⟨k7, 0, none⟩ = some (.slice x1 R1.length y1) := fun dd os => cell_regrown (show W.cell? ⟨k7, 0, none⟩ = some (.slice x1 R1.length y1) by rw [hW.out]; exact (hr7 0 (by simp)).1) dd os
  have r1 : ∀ dd os, (Go.Sort.grow (redrawn W dd) os).cell? ⟨k7, 1, none⟩ = some (.slice x2 R2.length y2) := fun dd os => cell_regrown (show W.cell? ⟨k7, 1, none⟩ = some (.slice x2 R2.length y2) by rw [hW.out]; exact (hr7 1 (by simp)).1) dd os
  have r2 : ∀ dd os, (Go.Sort.grow (redrawn W dd) os).cell? ⟨k7, 2, none⟩ = some (.string E) := fun dd os => cell_regrown (show W.cell? ⟨k7, 2, none⟩ = some (.string E) by rw [hW.out]; exact (hr7 2 (by simp)).1) dd os
  have r3 : ∀ dd os, (Go.Sort.grow (redrawn W dd) os).cell? ⟨k7, 3, none⟩ = some (.int .i64 A) := fun dd os => cell_regrown (show W.cell? ⟨k7, 3, none⟩ = some (.int .i64 A) by rw [hW.out]; exact (hr7 3 (by simp)).1) dd os
  have s0 : ∀ dd os, (Go.Sort.grow (redrawn W dd) os).cell? ⟨kb, 0, none⟩ = some (.string ⟨q.toArray⟩) := fun dd os => cell_regrown (show W.cell? ⟨kb, 0, none⟩ = some (.string ⟨q.toArray⟩) by rw [hW.out]; exact (hs.keeper 0 (by simp)).1) dd os
  have s1 : ∀ dd os, (Go.Sort.grow (redrawn W dd) os).cell? ⟨kb, 1, none⟩ = some (.int .i64 f) := fun dd os => cell_regrown (show W.cell? ⟨kb, 1, none⟩ = some (.int .i64 f) by rw [hW.out]; exact (hs.keeper 1 (by simp)).1) dd os
  have s2 : ∀ dd os, (Go.Sort.grow (redrawn W dd) os).cell? ⟨kb, 2, none⟩ = some (.int .i64 t) := fun dd os => cell_regrown (show W.cell? ⟨kb, 2, none⟩ = some (.int .i64 t) by rw [hW.out]; exact (hs.keeper 2 (by simp)).1) dd os
  have cS1 : ∀ dd os, Calls Try.prog 12 #[.slice d1 R1.length e1, .slice x1 R1.length y1] (Go.Sort.grow (redrawn W dd) os) fun e w'' => e = .returned (.bool true) ∧ ∃ p : Regrown, w'' = Go.Sort.grow (redrawn W p.d) p.os := fun dd os => Calls.regrown_of (w := W) (d := dd) (os := os) (cbSame_same d1 x1 e1 y1 R1 _ hn1 (IntsAt.below (show IntsAt W d1 R1 by rw [hW.out]; exact hi1) (below_regrown W dd os) (Nat.le_refl _)) (IntsAt.below (show IntsAt W x1 R1 by rw [hW.out]; exact hx1) (below_regrown W dd os) (Nat.le_refl _)))
  have cS2 : ∀ dd os, Calls Try.prog 12 #[.slice d2 R2.length e2, .slice x2 R2.length y2] (Go.Sort.grow (redrawn W dd) os) fun e w'' => e = .returned (.bool true) ∧ ∃ p : Regrown, w'' = Go.Sort.grow (redrawn W p.d) p.os := fun dd os => Calls.regrown_of (w := W) (d := dd) (os := os) (cbSame_same d2 x2 e2 y2 R2 _ hn2 (IntsAt.below (show IntsAt W d2 R2 by rw [hW.out]; exact hi2) (below_regrown W dd os) (Nat.le_refl _)) (IntsAt.below (show IntsAt W x2 R2 by rw [hW.out]; exact hx2) (below_regrown W dd os) (Nat.le_refl _)))
  have c25 : ∀ dd os, Calls Try.prog 25 #[.agg #[.string ⟨q.toArray⟩, .int .i64 f, .int .i64 t]] (Go.Sort.grow (redrawn W dd) os) fun e w'' => e = .returned (.bool (vK q f t)) ∧ ∃ p : Regrown, w'' = Go.Sort.grow (redrawn W p.d) p.os := fun dd os => Calls.regrown_of (w := W) (d := dd) (os := os) (keeperValid_any q f t _)
  have c26 : ∀ dd os, Calls Try.prog 26 #[.agg #[.string ⟨q.toArray⟩, .int .i64 f, .int .i64 t]] (Go.Sort.grow (redrawn W dd) os) fun e w'' => e = .returned (.bool (vK q f t)) ∧ ∃ p : Regrown, w'' = Go.Sort.grow (redrawn W p.d) p.os := fun dd os => Calls.regrown_of (w := W) (d := dd) (os := os) (specKeeperValid_any q f t _)
  have hcmp : (E.toList == E.toList) = true := by simp
  have hk25 : ∀ w, Calls Try.prog 25 #[.agg #[.string ⟨q.toArray⟩, .int .i64 f, .int .i64 t]] w fun e w' => e = .returned (.bool (vK q f t)) ∧ Below w.heap.size w w' := fun w => keeperValid_any q f t w
  have hk26 : ∀ w, Calls Try.prog 26 #[.agg #[.string ⟨q.toArray⟩, .int .i64 f, .int .i64 t]] w fun e w' => e = .returned (.bool (vK q f t)) ∧ Below w.heap.size w w' := fun w => specKeeperValid_any q f t w
  generalize vK q f t = vk at *
  simp only [headC, body7, Try.f7, Option.getD_some]
  cases hg : g with
  | true =>
    go_wp2
    refine wp_region_quiet_below (by kernel_rfl) (by kernel_rfl) ?_
    repeat (first | go_big_quiet_step (first | (go_at_call 12; with_reducible exact cS1 _ _) | (go_at_call 12; with_reducible exact cS2 _ _) | (go_at_call 25; with_reducible exact c25 _ _) | (go_at_call 26; with_reducible exact c26 _ _)) | quiet_step (first | (go_at_call 12; with_reducible exact cS1 _ _) | (go_at_call 12; with_reducible exact cS2 _ _) | (go_at_call 25; with_reducible exact c25 _ _) | (go_at_call 26; with_reducible exact c26 _ _)))
    refine wpQuiet_nil ?_
    intro _ hw'
    obtain ⟨⟨dq, osq⟩, hw''⟩ := hw'
    subst hw''
    have hS9 := below_regrown W dq osq
    obtain ⟨W9, hW9⟩ : ∃ W9, Go.Sort.grow (redrawn W dq) osq = W9 := ⟨_, rfl⟩
    rw [hW9] at hS9 ⊢
    clear cS1 cS2 c25 c26 p0 p1 p2 p3 r0 r1 r2 r3 s0 s1 s2 hW9
    go_wp2
    have hB := hB.out
    subst hB
    intro hc
    have hW := hW.out
    subst hW
    have K9 := bwre hS9
    exact next W9 _ _ _ _ _ _ _ _ _ _ _ _ _ _ _ _ _ _ _ _ _ _ _ _ _ _ _ _ _ _ _ _ _ _ _ _ _ _ _ _ _ _ _ _ _ _ _ _ _ _ _ _ _ _ _ _ _ _ _ _ _ _ _ _ _ _ _ _ _ _ _ _ _ _ _ _ _ _ _ _ _ _ _ _ _ _ _ _ _ _ _ _ _ _ _ _ _ _ _ _ _ _ _ _ _ _ _ _ _ _ _ _ _ _ _ _ _ _ _ _ _ _ _ _ _ _ _ _ _ _ _ _ _ _ _ _ _ _ _ _ _ _ _ _ _ _ _ _ _ _ _ _ _ _ _ _ _ _ _ _ _ _ _ _ _ _ _ _ _ _ _ _ _ _ hg ⟨hc, hL.no⟩ (hs.kin (K9.le hs.low)) (hr5.kin K9 hz5) (hi2.kept K9.cells K9.size) (Nat.lt_of_lt_of_le hz5 K9.size)
  | false =>
    obtain rfl := hE hg
    go_wp2
    refine wp_region_quiet_below (by kernel_rfl) (by kernel_rfl) ?_
    repeat (first | go_big_quiet_step (first | (go_at_call 12; with_reducible exact cS1 _ _) | (go_at_call 12; with_reducible exact cS2 _ _) | (go_at_call 25; with_reducible exact c25 _ _) | (go_at_call 26; with_reducible exact c26 _ _)) | quiet_step (first | (go_at_call 12; with_reducible exact cS1 _ _) | (go_at_call 12; with_reducible exact cS2 _ _) | (go_at_call 25; with_reducible exact c25 _ _) | (go_at_call 26; with_reducible exact c26 _ _)))
    refine wpQuiet_nil ?_
    intro _ hw'
    obtain ⟨⟨dq, osq⟩, hw''⟩ := hw'
    subst hw''
    have hS9 := below_regrown W dq osq
    have up0 := p0 dq osq
    have up1 := p1 dq osq
    have up2 := p2 dq osq
    have up3 := p3 dq osq
    have ur0 := r0 dq osq
    have ur1 := r1 dq osq
    have ur2 := r2 dq osq
    have ur3 := r3 dq osq
    have us0 := s0 dq osq
    have us1 := s1 dq osq
    have us2 := s2 dq osq
    obtain ⟨W9, hW9⟩ : ∃ W9, Go.Sort.grow (redrawn W dq) osq = W9 := ⟨_, rfl⟩
    rw [hW9] at hS9 up0 up1 up2 up3 ur0 ur1 ur2 ur3 us0 us1 us2 ⊢
    have cT1 : ∀ dd os, Calls Try.prog 12 #[.slice d1 R1.length e1, .slice x1 R1.length y1] (Go.Sort.grow (redrawn W9 dd) os) fun e w'' => e = .returned (.bool true) ∧ ∃ p : Regrown, w'' = Go.Sort.grow (redrawn W9 p.d) p.os := fun dd os => Calls.regrown_of (w := W9) (d := dd) (os := os) (cbSame_same d1 x1 e1 y1 R1 _ hn1 (IntsAt.below (IntsAt.below (show IntsAt W d1 R1 by rw [hW.out]; exact hi1) hS9 (Nat.le_refl _)) (below_regrown W9 dd os) (Nat.le_refl _)) (IntsAt.below (IntsAt.below (show IntsAt W x1 R1 by rw [hW.out]; exact hx1) hS9 (Nat.le_refl _)) (below_regrown W9 dd os) (Nat.le_refl _)))
    have cT2 : ∀ dd os, Calls Try.prog 12 #[.slice d2 R2.length e2, .slice x2 R2.length y2] (Go.Sort.grow (redrawn W9 dd) os) fun e w'' => e = .returned (.bool true) ∧ ∃ p : Regrown, w'' = Go.Sort.grow (redrawn W9 p.d) p.os := fun dd os => Calls.regrown_of (w := W9) (d := dd) (os := os) (cbSame_same d2 x2 e2 y2 R2 _ hn2 (IntsAt.below (IntsAt.below (show IntsAt W d2 R2 by rw [hW.out]; exact hi2) hS9 (Nat.le_refl _)) (below_regrown W9 dd os) (Nat.le_refl _)) (IntsAt.below (IntsAt.below (show IntsAt W x2 R2 by rw [hW.out]; exact hx2) hS9 (Nat.le_refl _)) (below_regrown W9 dd os) (Nat.le_refl _)))
    have c25' : ∀ dd os, Calls Try.prog 25 #[.agg #[.string ⟨q.toArray⟩, .int .i64 f, .int .i64 t]] (Go.Sort.grow (redrawn W9 dd) os) fun e w'' => e = .returned (.bool vk) ∧ ∃ p : Regrown, w'' = Go.Sort.grow (redrawn W9 p.d) p.os := fun dd os => Calls.regrown_of (w := W9) (d := dd) (os := os) (hk25 _)
    have c26' : ∀ dd os, Calls Try.prog 26 #[.agg #[.string ⟨q.toArray⟩, .int .i64 f, .int .i64 t]] (Go.Sort.grow (redrawn W9 dd) os) fun e w'' => e = .returned (.bool vk) ∧ ∃ p : Regrown, w'' = Go.Sort.grow (redrawn W9 p.d) p.os := fun dd os => Calls.regrown_of (w := W9) (d := dd) (os := os) (hk26 _)
    have p0' := fun dd os => cell_regrown up0 dd os
    have p1' := fun dd os => cell_regrown up1 dd os
    have p2' := fun dd os => cell_regrown up2 dd os
    have p3' := fun dd os => cell_regrown up3 dd os
    have r0' := fun dd os => cell_regrown ur0 dd os
    have r1' := fun dd os => cell_regrown ur1 dd os
    have r2' := fun dd os => cell_regrown ur2 dd os
    have r3' := fun dd os => cell_regrown ur3 dd os
    have s0' := fun dd os => cell_regrown us0 dd os
    have s1' := fun dd os => cell_regrown us1 dd os
    have s2' := fun dd os => cell_regrown us2 dd os
    clear cS1 cS2 c25 c26 p0 p1 p2 p3 r0 r1 r2 r3 s0 s1 s2 up0 up1 up2 up3 ur0 ur1 ur2 ur3 us0 us1 us2 hW9 hS9
    go_wp2
    refine wp_region_quiet_below (by kernel_rfl) (by kernel_rfl) ?_
    repeat (first | go_big_quiet_step (first | (go_at_call 12; with_reducible exact cT1 _ _) | (go_at_call 12; with_reducible exact cT2 _ _) | (go_at_call 25; with_reducible exact c25' _ _) | (go_at_call 26; with_reducible exact c26' _ _)) | quiet_step (first | (go_at_call 12; with_reducible exact cT1 _ _) | (go_at_call 12; with_reducible exact cT2 _ _) | (go_at_call 25; with_reducible exact c25' _ _) | (go_at_call 26; with_reducible exact c26' _ _)))
    refine wpQuiet_nil ?_
    intro _ hw'
    obtain ⟨⟨dq2, osq2⟩, hw''⟩ := hw'
    subst hw''
    obtain ⟨W8, hW8⟩ : ∃ W8, Go.Sort.grow (redrawn W9 dq2) osq2 = W8 := ⟨_, rfl⟩
    rw [hW8]
    clear cT1 cT2 c25' c26' hW8 p0' p1' p2' p3' r0' r1' r2' r3' s0' s1' s2'
    go_wp2
    have hB := hB.out
    subst hB
    intro hc todo
    exact end7 ⟨hc, hL.no⟩ rfl
end
end Go.Town.Kp
