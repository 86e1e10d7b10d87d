/-
  The rule for one, told plainly: if the keeper does not give up, each worker has what it has by itself.
  The rules compared, told plainly: each worker has no more by the rule for the rest than by that for one, and no more by that for all; they give up in the same tick.
  cbSame of equal lists.
  The law FnRules: what is asked of the answers; the whole walk.
  A slice of bytes that came in.
-/
import Derived.Conc.LeavingOf
import Derived.ChangeShapes
import Derived.ChangeSlices
import Derived.WideShapes
import Derived.ChangeMaps5
import Derived.ChangeArms
import Derived.OpenShut
import Derived.LaidMore
import Derived.Test.YtihmcigoofhpmaaYaz
import Derived.Test.YtihmcigoofhpmaaYbe
import Derived.Test.YtihmcigoofhpmaaYbg
import Derived.Test.YtihmcigoofhpmaaYbn
import Derived.Test.YtihmcigoofhpmaaYbp
import Derived.Test.YtihmcigoofhpmaaYbq
set_option linter.all false
namespace Go.Town.Kp
open Go Go.Conc Go.Conc.Lib Go.ConcR.Gen Go.RowKit Go.Town Go.Proofs
open Go.ConcN (upd upd_ne upd_same)
def ownS (p : Int × Int) (v : Int) : Int × Int := if v = 0 then (0, p.2 + 1) else (p.1 + v, p.2)
def ownO (p : Int × Int) : Option Int → Int × Int
  | none => p
  | some v => ownS p v
def own (l : List Int) : Int × Int := l.foldl ownS (0, 0)
end Go.Town.Kp
namespace Go.Town.Kp
open Go Go.Conc Go.Conc.Lib Go.ConcR.Gen Go.RowKit Go.Town Go.Proofs
open Go.ConcN (upd upd_ne upd_same)
structure Less (s1 s2 : St) : Prop where
  fl : s2.fl = s1.fl
  over : s2.over = s1.over
  pos : ∀ l, 0 ≤ s2.sum l
  sum : ∀ l, s2.sum l ≤ s1.sum l
  starts : ∀ l, s1.starts l ≤ s2.starts l
theorem Less.refl {s : St} (h : ∀ l, 0 ≤ s.sum l) : Less s s := ⟨rfl, rfl, h, fun _ => Int.le_refl _, fun _ => Int.le_refl _⟩
def Harder (r1 r2 : Rule) : Prop := ∀ i l, hits r1 i l = true → hits r2 i l = true
theorem harder_one_rest : Harder .one .rest := fun i l h => by simp [hits] at h ⊢; omega
theorem harder_rest_all : Harder .rest .all := fun i l _ => rfl
theorem Less.task {κ1 κ2 : Kr} (hb : κ2.bear = κ1.bear) (hw : κ2.win = κ1.win) (hr : Harder κ1.rule κ2.rule) {n tick i : Nat} {v : Int} (hv : 0 ≤ v) {s1 s2 : St} (h : Less s1 s2) : Less (stepT κ1 n tick i v s1) (stepT κ2 n tick i v s2) := by
  unfold stepT
  rw [hb, hw, h.fl]
  by_cases h0 : v = 0
  · simp only [if_pos h0]
    split
    · exact ⟨rfl, rfl, h.pos, h.sum, h.starts⟩
    · have ha : ∀ l, again κ1.rule n i l = true → again κ2.rule n i l = true := fun l e => by
        simp only [again, Bool.and_eq_true] at e ⊢
        exact ⟨e.1, hr _ _ e.2⟩
      refine ⟨rfl, rfl, fun l => ?_, fun l => ?_, fun l => ?_⟩
      · have := h.pos l; simp only; split <;> omega
      · have := h.pos l; have := h.sum l
        simp only
        by_cases e2 : again κ2.rule n i l = true
        · rw [if_pos e2]; split <;> omega
        · rw [if_neg e2, if_neg (fun e1 => e2 (ha l e1))]; exact h.sum l
      · have := h.starts l
        simp only
        by_cases e1 : again κ1.rule n i l = true
        · rw [if_pos e1, if_pos (ha l e1)]; omega
        · rw [if_neg e1]; split <;> omega
  · simp only [if_neg h0]
    refine ⟨rfl, rfl, fun l => ?_, fun l => ?_, h.starts⟩
    · by_cases e : l = i
      · subst e; simp only [upd_same]; have := h.pos l; omega
      · simp only [upd_ne _ _ e]; exact h.pos l
    · by_cases e : l = i
      · subst e; simp only [upd_same]; have := h.sum l; omega
      · simp only [upd_ne _ _ e]; exact h.sum l
theorem Less.one {κ1 κ2 : Kr} (hb : κ2.bear = κ1.bear) (hw : κ2.win = κ1.win) (hr : Harder κ1.rule κ2.rule) {J : List (List Int)} (hT : TasksIn J) {tick i : Nat} {s1 s2 : St} (h : Less s1 s2) : Less (stepW κ1 J tick i s1) (stepW κ2 J tick i s2) := by
  unfold stepW
  cases hv : (J.getD i [])[tick]? with
  | none => exact h
  | some v =>
    refine h.task hb hw hr ?_
    have hi : i < J.length := by
      refine Classical.byContradiction fun hn => ?_
      rw [show J.getD i [] = [] by simp [List.getD, List.getElem?_eq_none (show J.length ≤ i by omega)]] at hv
      simp at hv
    rw [show J.getD i [] = J[i] by simp [List.getD, hi]] at hv
    exact (hT _ (List.getElem_mem hi) v (List.mem_of_getElem? hv)).1
theorem Less.workers {κ1 κ2 : Kr} (hb : κ2.bear = κ1.bear) (hw : κ2.win = κ1.win) (hr : Harder κ1.rule κ2.rule) {J : List (List Int)} (hT : TasksIn J) (tick : Nat) : ∀ (m i : Nat) (s1 s2 : St), Less s1 s2 → Less (runW κ1 J tick m i s1) (runW κ2 J tick m i s2)
  | 0, _, _, _, h => h
  | m + 1, i, s1, s2, h => by
    have h1 := h.one hb hw hr hT (tick := tick) (i := i)
    unfold runW
    rw [h1.over]
    split
    · exact h1
    · exact Less.workers hb hw hr hT tick m (i + 1) _ _ h1
theorem Less.ticks {κ1 κ2 : Kr} (hb : κ2.bear = κ1.bear) (hw : κ2.win = κ1.win) (hr : Harder κ1.rule κ2.rule) {J : List (List Int)} (hT : TasksIn J) : ∀ (m t : Nat) (s1 s2 : St), Less s1 s2 → Less (runT κ1 J m t s1).1 (runT κ2 J m t s2).1 ∧ (runT κ2 J m t s2).2 = (runT κ1 J m t s1).2
  | 0, _, _, _, h => ⟨h, rfl⟩
  | m + 1, t, s1, s2, h => by
    have h1 : Less (tickW κ1 J t s1) (tickW κ2 J t s2) := Less.workers hb hw hr hT t J.length 0 s1 s2 h
    unfold runT
    rw [h1.over]
    split
    · exact ⟨h1, rfl⟩
    · exact Less.ticks hb hw hr hT m (t + 1) _ _ h1
theorem again_one {r r' : Rule} {l : Nat} : again r 1 0 l = again r' 1 0 l := by
  unfold again
  by_cases h : l < 1
  · obtain rfl : l = 0 := by omega
    cases r <;> cases r' <;> rfl
  · simp [h]
theorem stepT_solo {κ1 κ2 : Kr} (hb : κ2.bear = κ1.bear) (hw : κ2.win = κ1.win) (tick : Nat) (v : Int) (s : St) : stepT κ2 1 tick 0 v s = stepT κ1 1 tick 0 v s := by
  unfold stepT
  rw [hb, hw]
  simp only [again_one (r := κ2.rule) (r' := κ1.rule)]
theorem tickW_solo {κ1 κ2 : Kr} (hb : κ2.bear = κ1.bear) (hw : κ2.win = κ1.win) {J : List (List Int)} (hJ : J.length = 1) (t : Nat) (s : St) : tickW κ2 J t s = tickW κ1 J t s := by
  have e : stepW κ2 J t 0 s = stepW κ1 J t 0 s := by
    unfold stepW
    rw [hJ]
    simp only [stepT_solo hb hw]
  unfold tickW
  rw [hJ]
  simp only [runW, e]
theorem runT_solo {κ1 κ2 : Kr} (hb : κ2.bear = κ1.bear) (hw : κ2.win = κ1.win) {J : List (List Int)} (hJ : J.length = 1) : ∀ (m t : Nat) (s : St), runT κ2 J m t s = runT κ1 J m t s
  | 0, _, _ => rfl
  | m + 1, t, s => by
    unfold runT
    rw [tickW_solo hb hw hJ]
    split
    · rfl
    · exact runT_solo hb hw hJ m (t + 1) _
end Go.Town.Kp
namespace Go.Town.Kp
open Go Go.Conc Go.Conc.Lib Go.ConcR.Gen Go.RowKit Go.Town Go.Proofs
set_option maxRecDepth 100000 in
set_option maxHeartbeats 400000 in
theorem cbSame_same (a b : Option Addr) (ca cb : Nat) (zs : List Int) (w : World) (hn : zs.length ≤ 1048576) (hA : IntsAt w a zs) (hB : IntsAt w b zs) :
    Calls Try.prog 12 #[.slice a zs.length ca, .slice b zs.length cb] w fun e w' => e = .returned (.bool true) ∧ Below w.heap.size w w' := by
  go_enter Try.func12, Try.ntmps12
  go_wp2
  go_loopw [5] (fun i wr => ∃ k : Nat, k ≤ zs.length ∧ i = .int .i64 k ∧ Below w.heap.size w wr) (fun i _ => zs.length - (intOf i).toNat)
  case atStart => exact ⟨0, Nat.zero_le _, rfl, Below.refl _ _⟩
  case round =>
    obtain ⟨k, hk, rfl, hb⟩ := hrel
    by_cases hlt : k < zs.length
    · obtain ⟨b1, off1, rfl, hbs1, hck1⟩ := (hA.below hb (Nat.le_refl _)).at hlt
      obtain ⟨b2, off2, rfl, hbs2, hck2⟩ := (hB.below hb (Nat.le_refl _)).at hlt
      have hlt' : (k : Int) < (zs.length : Int) := by omega
      go_wp2
      go_quiet (fail)
      go_wp2
      go_roundw
      case rel => exact ⟨k + 1, by omega, by go_num, below_drewN hb _⟩
      case measure => simp [intOf]; omega
    · go_wp2
      go_ret
      exact ⟨by simp, hb⟩
end Go.Town.Kp
namespace Go.Town.Kp
open Go Go.Conc Go.Conc.Lib Go.ConcR.Gen Go.RowKit Go.Town Go.Proofs
open Go.ConcN (upd upd_ne upd_same)
structure RuleFacts (J : List (List Int)) (R1 R2 S1 S2 U1 U2 : List Int) : Prop where
  four : J.length ≤ 4
  nR1 : R1.length = J.length
  nR2 : R2.length = J.length
  nS1 : S1.length = J.length
  nS2 : S2.length = J.length
  nU1 : U1.length = J.length
  nU2 : U2.length = J.length
  a : ∀ k (h : k < R1.length) (h' : k < S1.length), S1[k] ≤ R1[k]
  b : ∀ k (h : k < S1.length) (h' : k < U1.length), U1[k] ≤ S1[k]
  c : ∀ k (h : k < R2.length) (h' : k < S2.length), R2[k] ≤ S2[k]
  d : ∀ k (h : k < S2.length) (h' : k < U2.length), S2[k] ≤ U2[k]
  solo : J.length = 1 → U1 = R1
theorem vK_rest (f t : Int) : vK [114, 101, 115, 116] f t = vK [111, 110, 101] f t := by simp [vK]
theorem vK_all (f t : Int) : vK [97, 108, 108] f t = vK [111, 110, 101] f t := by simp [vK]
theorem kd_rules {f t : Int} {J : List (List Int)} {g gb gc : Bool} {R1 R2 S1 S2 U1 U2 : List Int} {E E2 E3 : ByteArray} {A A2 A3 : Int} (h1 : Kd [111, 110, 101] f t J g R1 R2 E A) (h2 : Kd [114, 101, 115, 116] f t J gb S1 S2 E2 A2) (h3 : Kd [97, 108, 108] f t J gc U1 U2 E3 A3) :
    gb = g ∧ gc = g ∧ (g = true → E2 = E ∧ E3 = E ∧ A2 = A ∧ A3 = A ∧ RuleFacts J R1 R2 S1 S2 U1 U2) := by
  unfold Kd at h2 h3
  rw [vK_rest] at h2
  rw [vK_all] at h3
  rcases h1 with ⟨n1, rfl, _⟩ | ⟨κ1, q1, f1, t1, v1, rfl, rfl, rfl, rfl, rfl⟩
  · rcases h2 with ⟨_, rfl, _⟩ | ⟨_, _, _, _, v2, _⟩
    · rcases h3 with ⟨_, rfl, _⟩ | ⟨_, _, _, _, v3, _⟩
      · exact ⟨rfl, rfl, fun h => by cases h⟩
      · rw [v3] at n1; cases n1
    · rw [v2] at n1; cases n1
  · rcases h2 with ⟨n2, _⟩ | ⟨κ2, q2, f2, t2, v2, rfl, rfl, rfl, rfl, rfl⟩
    · rw [n2] at v1; cases v1
    rcases h3 with ⟨n3, _⟩ | ⟨κ3, q3, f3, t3, v3, rfl, rfl, rfl, rfl, rfl⟩
    · rw [n3] at v1; cases v1
    simp only [Bool.and_eq_true] at v1
    obtain ⟨w1, w2, w3, w4⟩ := vT_spec v1.2
    have hb2 : κ2.bear = κ1.bear := by omega
    have hw2 : κ2.win = κ1.win := by omega
    have hb3 : κ3.bear = κ1.bear := by omega
    have hw3 : κ3.win = κ1.win := by omega
    have r1 : κ1.rule = .one := by revert q1; cases κ1.rule <;> simp [Rule.text]
    have r2 : κ2.rule = .rest := by revert q2; cases κ2.rule <;> simp [Rule.text]
    have r3 : κ3.rule = .all := by revert q3; cases κ3.rule <;> simp [Rule.text]
    obtain ⟨l12, e12⟩ := Less.ticks hb2 hw2 (by rw [r1, r2]; exact harder_one_rest) w3 (mxR J J.length) 0 St.zero St.zero (Less.refl fun _ => by simp [St.zero])
    obtain ⟨l23, e23⟩ := Less.ticks (κ1 := κ2) (κ2 := κ3) (by omega) (by omega) (by rw [r2, r3]; exact harder_rest_all) w3 (mxR J J.length) 0 St.zero St.zero (Less.refl fun _ => by simp [St.zero])
    refine ⟨rfl, rfl, fun _ => ⟨by rw [l12.over], by rw [l23.over, l12.over], by rw [e12], by rw [e23, e12], w2, by simp, by simp, by simp, by simp, by simp, by simp, fun k h h' => ?_, fun k h h' => ?_, fun k h h' => ?_, fun k h h' => ?_, fun hJ => ?_⟩⟩
    · simp only [List.getElem_map, List.getElem_range]; exact l12.sum k
    · simp only [List.getElem_map, List.getElem_range]; exact l23.sum k
    · simp only [List.getElem_map, List.getElem_range]; exact l12.starts k
    · simp only [List.getElem_map, List.getElem_range]; exact l23.starts k
    · rw [runT_solo hb3 hw3 hJ]
theorem kd_pos {q : List UInt8} {f t : Int} {J : List (List Int)} {g : Bool} {R1 R2 : List Int} {E : ByteArray} {A : Int} (hg : g = true) (h : Kd q f t J g R1 R2 E A) : 0 < J.length := by
  subst hg
  rcases h with ⟨_, h, _⟩ | ⟨_, _, _, _, h, _⟩
  · cases h
  · simp only [Bool.and_eq_true] at h
    exact (vT_spec h.2).1
theorem reads_heap {w w' : World} {x : Nat} {vs : List Value} (h : Reads w x vs) (hw : w'.heap = w.heap) : Reads w' x vs := fun j hj => by
  have hb : w'.heap[x]? = w.heap[x]? := by rw [hw]
  rw [World.cell?_of_block hb, World.frozen?_of_block hb]; exact h j hj
theorem ints_heap {w w' : World} {a : Option Addr} {zs : List Int} (h : IntsAt w a zs) (hw : w'.heap = w.heap) : IntsAt w' a zs :=
  h.kept (fun x j v _ hv => by unfold World.cell? at *; rw [hw]; exact hv) (by rw [hw]; exact Nat.le_refl _)
theorem heap_dr {w wr : World} (h : RowKit.Hid (∃ m, wr = w.drewN m)) : wr.heap = w.heap := by obtain ⟨m, rfl⟩ := h; rfl
theorem dr_dr {w wr : World} (h : RowKit.Hid (∃ m, wr = w.drewN m)) (n : Nat) : RowKit.Hid (∃ m, wr.drewN n = w.drewN m) := by obtain ⟨m, rfl⟩ := h; exact ⟨m + n, World.drewN_drewN _ _ _⟩
section
variable {C : Cfg} {b o Bd kb : Nat} {wl : World} {f t : Int} {J : List (List Int)} {tc : Nat} {ta : Option Addr} {g : Bool} {R1 R2 : List Int} {E : ByteArray} {A : Int} {a : Option Addr} {bs : List Int} {c : Nat} {S1 S2 U1 U2 : List Int} {k5 : Nat} {d1 d2 : Option Addr} {e1 e2 : Nat} {k7 : Nat} {x1 x2 : Option Addr} {y1 y2 : Nat} {k9 : Nat} {i1 i2 : Option Addr} {j1 j2 : Nat} {k11 : Nat}
set_option maxRecDepth 100000 in
set_option maxHeartbeats 2000000 in
theorem law4_h {z1 zd ze zf zg zh zi zj zk zl zm zn zo zp zq zr zt zu zv zw zx zy zz zA zB zC zD zE zF zG zH zI zJ zK zL zM zN zO zP zQ zR zS zT zU zV zW zX zY zZ Z0 Z1 Z2 Z3 Z4 Z5 Z6 Z7 Z8 Z9 Za Zb Zc Zd Ze Zf Zg Zh Zi Zj Zk Zl Zm Zn Zo Zp Zq Zr Zs Zt Zu Zv Zw Zx Zy Zz ZA ZB ZC ZD ZE ZF ZG ZH ZI ZJ ZK ZL ZM ZN ZO ZP ZQ ZR ZS ZT ZU ZV ZW ZX ZY ZZ Y0 Y1 Y2 Y3 Y4 Y5 Y6 Y7 Y8 Y9 Ya Yb Yc Yd Ye Yf Yg Yh Yi Yj Yk Yl Ym Yn Yo Yp Yq Yr Ys Yt : Value} (hL : Lay C wl) (next : g = true → ∀ (z1 zd ze zf zg zh zi zj zk zl zm zn zo zp zq zr zt zu zv zw zx zy zz zA zB zC zD zE zF zG zH zI zJ zK zL zM zN zO zP zQ zR zS zT zU zV zW zX zY zZ Z0 Z1 Z2 Z3 Z4 Z5 Z6 Z7 Z8 Z9 Za Zb Zc Zd Ze Zf Zg Zh Zi Zj Zk Zl Zm Zn Zo Zp Zq Zr Zs Zt Zu Zv Zw Zx Zy Zz ZA ZB ZC ZD ZE ZF ZG ZH ZI ZJ ZK ZL ZM ZN ZO ZP ZQ ZR ZS ZT ZU ZV ZW ZX ZY ZZ Y0 Y1 Y2 Y3 Y4 Y5 Y6 Y7 Y8 Y9 Ya Yb Yc Yd Ye Yf Yg Yh Yi Yj Yk Yl Ym Yn Yo Yp Yq Yr Ys Yt : Value), Can Try.prog C b o (fun v _ => v = .bool true) 0 (AloneB Bd) wl (G ((base 4).at ⟨#[.slice a bs.length c, z1, .bool false, .pointer (some ⟨kb, 0, none⟩), .slice ta J.length tc, .pointer (some ⟨k5, 0, none⟩), .bool true, .pointer (some ⟨k7, 0, none⟩), .bool true, .pointer (some ⟨k9, 0, none⟩), .bool true, .pointer (some ⟨k11, 0, none⟩), .bool true, zd, ze, zf, zg, zh, zi, zj, zk, zl, zm, zn, zo, zp, zq, zr, zt, zu, zv, zw, zx, zy, zz, zA, zB, zC, zD, zE, zF, zG, zH, zI, zJ, zK, zL, zM, zN, zO, zP, zQ, zR, zS, zT, zU, zV, zW, zX, zY, zZ, Z0, Z1, Z2, Z3, Z4, Z5, Z6, Z7, Z8, Z9, Za, Zb, Zc, Zd, Ze, Zf, Zg, Zh, Zi, Zj, Zk, Zl, Zm, Zn, Zo, Zp, Zq, Zr, Zs, Zt, Zu, Zv, Zw, Zx, Zy, Zz, ZA, ZB, ZC, ZD, ZE, ZF, ZG, ZH, ZI, ZJ, ZK, ZL, ZM, ZN, ZO, ZP, ZQ, ZR, ZS, ZT, ZU, ZV, ZW, ZX, ZY, ZZ, Y0, Y1, Y2, Y3, Y4, Y5, Y6, Y7, Y8, Y9, Ya, Yb, Yc, Yd, Ye, Yf, Yg, Yh, Yi, Yj, Yk, Yl, Ym, Yn, Yo, Yp, Yq, Yr, Ys, Yt], []⟩ [.code (tailC 11 body4)]) [])) :
    Can Try.prog C b o (fun v _ => v = .bool true) 0 (AloneB Bd) wl (G ((base 4).at ⟨#[.slice a bs.length c, z1, .bool false, .pointer (some ⟨kb, 0, none⟩), .slice ta J.length tc, .pointer (some ⟨k5, 0, none⟩), .bool g, .pointer (some ⟨k7, 0, none⟩), .bool g, .pointer (some ⟨k9, 0, none⟩), .bool g, .pointer (some ⟨k11, 0, none⟩), .bool g, zd, ze, zf, zg, zh, zi, zj, zk, zl, zm, zn, zo, zp, zq, zr, zt, zu, zv, zw, zx, zy, zz, zA, zB, zC, zD, zE, zF, zG, zH, zI, zJ, zK, zL, zM, zN, zO, zP, zQ, zR, zS, zT, zU, zV, zW, zX, zY, zZ, Z0, Z1, Z2, Z3, Z4, Z5, Z6, Z7, Z8, Z9, Za, Zb, Zc, Zd, Ze, Zf, Zg, Zh, Zi, Zj, Zk, Zl, Zm, Zn, Zo, Zp, Zq, Zr, Zs, Zt, Zu, Zv, Zw, Zx, Zy, Zz, ZA, ZB, ZC, ZD, ZE, ZF, ZG, ZH, ZI, ZJ, ZK, ZL, ZM, ZN, ZO, ZP, ZQ, ZR, ZS, ZT, ZU, ZV, ZW, ZX, ZY, ZZ, Y0, Y1, Y2, Y3, Y4, Y5, Y6, Y7, Y8, Y9, Ya, Yb, Yc, Yd, Ye, Yf, Yg, Yh, Yi, Yj, Yk, Yl, Ym, Yn, Yo, Yp, Yq, Yr, Ys, Yt], []⟩ [.code (tailC 10 body4)]) []) := by
  have hS := steady_aloneB Bd
  have e10 : tailC 10 body4 = .seq (headC 10 body4) (tailC 11 body4) := by kernel_rfl
  rw [e10]
  refine Can.ctl hS hL rfl (fun _ => stepG_seq) ?_
  refine Can.code' okProgP hS hL (okFr_at (by kernel_rfl) rfl rfl ⟨_, Try.func4⟩) ?_
  intro T d W hW B hB
  simp only [headC, body4, Try.f4, Option.getD_some]
  cases g with
  | false =>
    go_wp2
    have hB := hB.out
    subst hB
    intro hc todo
    have hW := hW.out
    subst hW
    exact end4 (⟨hL.cut.re T d, hL.no⟩ : Lay C (wl.re T d)) rfl
  | true =>
    go_wp2
    have hB := hB.out
    subst hB
    intro hc
    have hW := hW.out
    subst hW
    refine Can.re ?_ T d
    exact next (by simp) _ _ _ _ _ _ _ _ _ _ _ _ _ _ _ _ _ _ _ _ _ _ _ _ _ _ _ _ _ _ _ _ _ _ _ _ _ _ _ _ _ _ _ _ _ _ _ _ _ _ _ _ _ _ _ _ _ _ _ _ _ _ _ _ _ _ _ _ _ _ _ _ _ _ _ _ _ _ _ _ _ _ _ _ _ _ _ _ _ _ _ _ _ _ _ _ _ _ _ _ _ _ _ _ _ _ _ _ _ _ _ _ _ _ _ _ _ _ _ _ _ _ _ _ _ _ _ _ _ _ _ _ _ _ _ _ _ _ _ _ _
set_option maxRecDepth 100000 in
set_option maxHeartbeats 8000000 in
theorem law4_i {z1 zd ze zf zg zh zi zj zk zl zm zn zo zp zq zr zt zu zv zw zx zy zz zA zB zC zD zE zF zG zH zI zJ zK zL zM zN zO zP zQ zR zS zT zU zV zW zX zY zZ Z0 Z1 Z2 Z3 Z4 Z5 Z6 Z7 Z8 Z9 Za Zb Zc Zd Ze Zf Zg Zh Zi Zj Zk Zl Zm Zn Zo Zp Zq Zr Zs Zt Zu Zv Zw Zx Zy Zz ZA ZB ZC ZD ZE ZF ZG ZH ZI ZJ ZK ZL ZM ZN ZO ZP ZQ ZR ZS ZT ZU ZV ZW ZX ZY ZZ Y0 Y1 Y2 Y3 Y4 Y5 Y6 Y7 Y8 Y9 Ya Yb Yc Yd Ye Yf Yg Yh Yi Yj Yk Yl Ym Yn Yo Yp Yq Yr Ys Yt : Value} (hF : RuleFacts J R1 R2 S1 S2 U1 U2) (hL : Lay C wl) (hr5 : Reads wl k5 [.slice d1 R1.length e1, .slice d2 R2.length e2, .string E, .int .i64 A]) (hr7 : Reads wl k7 [.slice x1 S1.length y1, .slice x2 S2.length y2, .string E, .int .i64 A]) (hr9 : Reads wl k9 [.slice i1 U1.length j1, .slice i2 U2.length j2, .string E, .int .i64 A]) (ha5 : IntsAt wl d1 R1) (hb5 : IntsAt wl d2 R2) (ha7 : IntsAt wl x1 S1) (hb7 : IntsAt wl x2 S2) (ha9 : IntsAt wl i1 U1) (hb9 : IntsAt wl i2 U2)
    (next : ∀ (z1 z2 zd ze zf zg zh zi zj zk zl zm zn zo zp zq zr zt zu zv zw zx zy zz zA zB zC zD zE zF zG zH zI zJ zK zL zM zN zO zP zQ zR zS zT zU zV zW zX zY zZ Z0 Z1 Z2 Z3 Z4 Z5 Z6 Z7 Z8 Z9 Za Zb Zc Zd Ze Zf Zg Zh Zi Zj Zk Zl Zm Zn Zo Zp Zq Zr Zs Zt Zu Zv Zw Zx Zy Zz ZA ZB ZC ZD ZE ZF ZG ZH ZI ZJ ZK ZL ZM ZN ZO ZP ZQ ZR ZS ZT ZU ZV ZW ZX ZY ZZ Y0 Y1 Y2 Y3 Y4 Y5 Y6 Y7 Y8 Y9 Ya Yb Yc Yd Ye Yf Yg Yh Yi Yj Yk Yl Ym Yn Yo Yp Yq Yr Ys Yt : Value), Can Try.prog C b o (fun v _ => v = .bool true) 0 (AloneB Bd) wl (G ((base 4).at ⟨#[.slice a bs.length c, z1, z2, .pointer (some ⟨kb, 0, none⟩), .slice ta J.length tc, .pointer (some ⟨k5, 0, none⟩), .bool true, .pointer (some ⟨k7, 0, none⟩), .bool true, .pointer (some ⟨k9, 0, none⟩), .bool true, .pointer (some ⟨k11, 0, none⟩), .bool true, zd, ze, zf, zg, zh, zi, zj, zk, zl, zm, zn, zo, zp, zq, zr, zt, zu, zv, zw, zx, zy, zz, zA, zB, zC, zD, zE, zF, zG, zH, zI, zJ, zK, zL, zM, zN, zO, zP, zQ, zR, zS, zT, zU, zV, zW, zX, zY, zZ, Z0, Z1, Z2, Z3, Z4, Z5, Z6, Z7, Z8, Z9, Za, Zb, Zc, Zd, Ze, Zf, Zg, Zh, Zi, Zj, Zk, Zl, Zm, Zn, Zo, Zp, Zq, Zr, Zs, Zt, Zu, Zv, Zw, Zx, Zy, Zz, ZA, ZB, ZC, ZD, ZE, ZF, ZG, ZH, ZI, ZJ, ZK, ZL, ZM, ZN, ZO, ZP, ZQ, ZR, ZS, ZT, ZU, ZV, ZW, ZX, ZY, ZZ, Y0, Y1, Y2, Y3, Y4, Y5, Y6, Y7, Y8, Y9, Ya, Yb, Yc, Yd, Ye, Yf, Yg, Yh, Yi, Yj, Yk, Yl, Ym, Yn, Yo, Yp, Yq, Yr, Ys, Yt], []⟩ [.code (tailC 12 body4)]) [])) :
    Can Try.prog C b o (fun v _ => v = .bool true) 0 (AloneB Bd) wl (G ((base 4).at ⟨#[.slice a bs.length c, z1, .bool false, .pointer (some ⟨kb, 0, none⟩), .slice ta J.length tc, .pointer (some ⟨k5, 0, none⟩), .bool true, .pointer (some ⟨k7, 0, none⟩), .bool true, .pointer (some ⟨k9, 0, none⟩), .bool true, .pointer (some ⟨k11, 0, none⟩), .bool true, zd, ze, zf, zg, zh, zi, zj, zk, zl, zm, zn, zo, zp, zq, zr, zt, zu, zv, zw, zx, zy, zz, zA, zB, zC, zD, zE, zF, zG, zH, zI, zJ, zK, zL, zM, zN, zO, zP, zQ, zR, zS, zT, zU, zV, zW, zX, zY, zZ, Z0, Z1, Z2, Z3, Z4, Z5, Z6, Z7, Z8, Z9, Za, Zb, Zc, Zd, Ze, Zf, Zg, Zh, Zi, Zj, Zk, Zl, Zm, Zn, Zo, Zp, Zq, Zr, Zs, Zt, Zu, Zv, Zw, Zx, Zy, Zz, ZA, ZB, ZC, ZD, ZE, ZF, ZG, ZH, ZI, ZJ, ZK, ZL, ZM, ZN, ZO, ZP, ZQ, ZR, ZS, ZT, ZU, ZV, ZW, ZX, ZY, ZZ, Y0, Y1, Y2, Y3, Y4, Y5, Y6, Y7, Y8, Y9, Ya, Yb, Yc, Yd, Ye, Yf, Yg, Yh, Yi, Yj, Yk, Yl, Ym, Yn, Yo, Yp, Yq, Yr, Ys, Yt], []⟩ [.code (tailC 11 body4)]) []) := by
  have hS := steady_aloneB Bd
  have e11 : tailC 11 body4 = .seq (headC 11 body4) (tailC 12 body4) := by kernel_rfl
  rw [e11]
  refine Can.ctl hS hL rfl (fun _ => stepG_seq) ?_
  refine Can.code' okProgP hS hL (okFr_at (by kernel_rfl) rfl rfl ⟨_, Try.func4⟩) ?_
  intro T d W hW B hB
  replace hr5 : Reads W k5 [.slice d1 R1.length e1, .slice d2 R2.length e2, .string E, .int .i64 A] := by rw [hW.out]; exact hr5
  replace hr7 : Reads W k7 [.slice x1 S1.length y1, .slice x2 S2.length y2, .string E, .int .i64 A] := by rw [hW.out]; exact hr7
  replace hr9 : Reads W k9 [.slice i1 U1.length j1, .slice i2 U2.length j2, .string E, .int .i64 A] := by rw [hW.out]; exact hr9
  replace ha5 : IntsAt W d1 R1 := by rw [hW.out]; exact ha5
  replace hb5 : IntsAt W d2 R2 := by rw [hW.out]; exact hb5
  replace ha7 : IntsAt W x1 S1 := by rw [hW.out]; exact ha7
  replace hb7 : IntsAt W x2 S2 := by rw [hW.out]; exact hb7
  replace ha9 : IntsAt W i1 U1 := by rw [hW.out]; exact ha9
  replace hb9 : IntsAt W i2 U2 := by rw [hW.out]; exact hb9
  obtain ⟨h4, nR1, nR2, nS1, nS2, nU1, nU2, fa, fb, fc, fd, _⟩ := hF
  simp only [headC, body4, Try.f4, Option.getD_some]
  go_wp2
  go_loopw [13] (fun i wr => ∃ k : Nat, k ≤ J.length ∧ i = .int .i64 k ∧ RowKit.Hid (∃ m, wr = W.drewN m)) (fun i _ => J.length - (intOf i).toNat)
  case atStart => exact ⟨0, Nat.zero_le _, rfl, ⟨0, rfl⟩⟩
  case round =>
    obtain ⟨k, hk, rfl, hd⟩ := hrel
    by_cases hlt : k < J.length
    · have hlt' : (k : Int) < (J.length : Int) := by omega
      have hh := heap_dr hd
      have q50 : wr.cell? ⟨k5, 0, none⟩ = some (.slice d1 R1.length e1) := (reads_heap hr5 hh 0 (by simp)).1
      have q51 : wr.cell? ⟨k5, 1, none⟩ = some (.slice d2 R2.length e2) := (reads_heap hr5 hh 1 (by simp)).1
      have q70 : wr.cell? ⟨k7, 0, none⟩ = some (.slice x1 S1.length y1) := (reads_heap hr7 hh 0 (by simp)).1
      have q71 : wr.cell? ⟨k7, 1, none⟩ = some (.slice x2 S2.length y2) := (reads_heap hr7 hh 1 (by simp)).1
      have q90 : wr.cell? ⟨k9, 0, none⟩ = some (.slice i1 U1.length j1) := (reads_heap hr9 hh 0 (by simp)).1
      have q91 : wr.cell? ⟨k9, 1, none⟩ = some (.slice i2 U2.length j2) := (reads_heap hr9 hh 1 (by simp)).1
      obtain ⟨o1, p1, hx1, _, c1⟩ := (ints_heap ha5 hh).at (show k < R1.length by omega)
      obtain ⟨o2, p2, hx2, _, c2⟩ := (ints_heap hb5 hh).at (show k < R2.length by omega)
      obtain ⟨o3, p3, hx3, _, c3⟩ := (ints_heap ha7 hh).at (show k < S1.length by omega)
      obtain ⟨o4, p4, hx4, _, c4⟩ := (ints_heap hb7 hh).at (show k < S2.length by omega)
      obtain ⟨o5, p5, hx5, _, c5⟩ := (ints_heap ha9 hh).at (show k < U1.length by omega)
      obtain ⟨o6, p6, hx6, _, c6⟩ := (ints_heap hb9 hh).at (show k < U2.length by omega)
      have m1 : ¬ R1[k] < S1[k] := by have := fa k (by omega) (by omega); omega
      have m2 : ¬ S1[k] < U1[k] := by have := fb k (by omega) (by omega); omega
      have m3 : ¬ S2[k] < R2[k] := by have := fc k (by omega) (by omega); omega
      have m4 : ¬ U2[k] < S2[k] := by have := fd k (by omega) (by omega); omega
      rw [nR1, hx1] at q50
      rw [nR2, hx2] at q51
      rw [nS1, hx3] at q70
      rw [nS2, hx4] at q71
      rw [nU1, hx5] at q90
      rw [nU2, hx6] at q91
      generalize R1[k] = v1 at *
      generalize R2[k] = v2 at *
      generalize S1[k] = v3 at *
      generalize S2[k] = v4 at *
      generalize U1[k] = v5 at *
      generalize U2[k] = v6 at *
      clear fa fb fc fd hh
      go_wp2
      go_quiet (fail)
      go_wp2
      go_roundw
      case rel => exact ⟨k + 1, by omega, by go_num, dr_dr hd _⟩
      case measure => simp [intOf]; omega
    · obtain rfl : k = J.length := by omega
      obtain ⟨m, rfl⟩ := hd
      go_wp2
      have hB := hB.out
      subst hB
      intro hc
      have hW := hW.out
      subst hW
      refine Can.re (wl := wl) (T := T) (d := d + m) ?_
      exact next _ _ _ _ _ _ _ _ _ _ _ _ _ _ _ _ _ _ _ _ _ _ _ _ _ _ _ _ _ _ _ _ _ _ _ _ _ _ _ _ _ _ _ _ _ _ _ _ _ _ _ _ _ _ _ _ _ _ _ _ _ _ _ _ _ _ _ _ _ _ _ _ _ _ _ _ _ _ _ _ _ _ _ _ _ _ _ _ _ _ _ _ _ _ _ _ _ _ _ _ _ _ _ _ _ _ _ _ _ _ _ _ _ _ _ _ _ _ _ _ _ _ _ _ _ _ _ _ _ _ _ _ _ _ _ _ _ _ _ _ _ _
set_option maxRecDepth 100000 in
set_option maxHeartbeats 2000000 in
theorem law4_j {z1 z2 zd ze zf zg zh zi zj zk zl zm zn zo zp zq zr zt zu zv zw zx zy zz zA zB zC zD zE zF zG zH zI zJ zK zL zM zN zO zP zQ zR zS zT zU zV zW zX zY zZ Z0 Z1 Z2 Z3 Z4 Z5 Z6 Z7 Z8 Z9 Za Zb Zc Zd Ze Zf Zg Zh Zi Zj Zk Zl Zm Zn Zo Zp Zq Zr Zs Zt Zu Zv Zw Zx Zy Zz ZA ZB ZC ZD ZE ZF ZG ZH ZI ZJ ZK ZL ZM ZN ZO ZP ZQ ZR ZS ZT ZU ZV ZW ZX ZY ZZ Y0 Y1 Y2 Y3 Y4 Y5 Y6 Y7 Y8 Y9 Ya Yb Yc Yd Ye Yf Yg Yh Yi Yj Yk Yl Ym Yn Yo Yp Yq Yr Ys Yt : Value} (hpos : 0 < J.length) (hF : RuleFacts J R1 R2 S1 S2 U1 U2) (hL : Lay C wl) (hr5 : Reads wl k5 [.slice d1 R1.length e1, .slice d2 R2.length e2, .string E, .int .i64 A]) (hr7 : Reads wl k7 [.slice x1 S1.length y1, .slice x2 S2.length y2, .string E, .int .i64 A]) (hr9 : Reads wl k9 [.slice i1 U1.length j1, .slice i2 U2.length j2, .string E, .int .i64 A]) (ha5 : IntsAt wl d1 R1) (hb5 : IntsAt wl d2 R2) (ha7 : IntsAt wl x1 S1) (hb7 : IntsAt wl x2 S2) (ha9 : IntsAt wl i1 U1) (hb9 : IntsAt wl i2 U2) :
    Can Try.prog C b o (fun v _ => v = .bool true) 0 (AloneB Bd) wl (G ((base 4).at ⟨#[.slice a bs.length c, z1, z2, .pointer (some ⟨kb, 0, none⟩), .slice ta J.length tc, .pointer (some ⟨k5, 0, none⟩), .bool true, .pointer (some ⟨k7, 0, none⟩), .bool true, .pointer (some ⟨k9, 0, none⟩), .bool true, .pointer (some ⟨k11, 0, none⟩), .bool true, zd, ze, zf, zg, zh, zi, zj, zk, zl, zm, zn, zo, zp, zq, zr, zt, zu, zv, zw, zx, zy, zz, zA, zB, zC, zD, zE, zF, zG, zH, zI, zJ, zK, zL, zM, zN, zO, zP, zQ, zR, zS, zT, zU, zV, zW, zX, zY, zZ, Z0, Z1, Z2, Z3, Z4, Z5, Z6, Z7, Z8, Z9, Za, Zb, Zc, Zd, Ze, Zf, Zg, Zh, Zi, Zj, Zk, Zl, Zm, Zn, Zo, Zp, Zq, Zr, Zs, Zt, Zu, Zv, Zw, Zx, Zy, Zz, ZA, ZB, ZC, ZD, ZE, ZF, ZG, ZH, ZI, ZJ, ZK, ZL, ZM, ZN, ZO, ZP, ZQ, ZR, ZS, ZT, ZU, ZV, ZW, ZX, ZY, ZZ, Y0, Y1, Y2, Y3, Y4, Y5, Y6, Y7, Y8, Y9, Ya, Yb, Yc, Yd, Ye, Yf, Yg, Yh, Yi, Yj, Yk, Yl, Ym, Yn, Yo, Yp, Yq, Yr, Ys, Yt], []⟩ [.code (tailC 12 body4)]) []) := by
  have hS := steady_aloneB Bd
  have e13 : tailC 13 body4 = .ret := by kernel_rfl
  have e12 : tailC 12 body4 = .seq (headC 12 body4) (tailC 13 body4) := by kernel_rfl
  rw [e12]
  refine Can.ctl hS hL rfl (fun _ => stepG_seq) ?_
  refine Can.code' okProgP hS hL (okFr_at (by kernel_rfl) rfl rfl ⟨_, Try.func4⟩) ?_
  intro T d W hW B hB
  have q52 : W.cell? ⟨k5, 2, none⟩ = some (.string E) := by rw [hW.out]; exact (hr5 2 (by simp)).1
  have q72 : W.cell? ⟨k7, 2, none⟩ = some (.string E) := by rw [hW.out]; exact (hr7 2 (by simp)).1
  have q92 : W.cell? ⟨k9, 2, none⟩ = some (.string E) := by rw [hW.out]; exact (hr9 2 (by simp)).1
  have q53 : W.cell? ⟨k5, 3, none⟩ = some (.int .i64 A) := by rw [hW.out]; exact (hr5 3 (by simp)).1
  have q73 : W.cell? ⟨k7, 3, none⟩ = some (.int .i64 A) := by rw [hW.out]; exact (hr7 3 (by simp)).1
  have q93 : W.cell? ⟨k9, 3, none⟩ = some (.int .i64 A) := by rw [hW.out]; exact (hr9 3 (by simp)).1
  have q50 : W.cell? ⟨k5, 0, none⟩ = some (.slice d1 R1.length e1) := by rw [hW.out]; exact (hr5 0 (by simp)).1
  have q90 : W.cell? ⟨k9, 0, none⟩ = some (.slice i1 U1.length j1) := by rw [hW.out]; exact (hr9 0 (by simp)).1
  have hcmp : (E.toList == E.toList) = true := by simp
  simp only [headC, body4, Try.f4, Option.getD_some]
  by_cases hone : J.length = 1
  · have hU := hF.solo hone
    have c12 := hidC (cbSame_same d1 i1 e1 j1 R1 W (by rw [hF.nR1]; omega) (by rw [hW.out]; exact ha5) (by rw [hW.out, ← hU]; exact ha9))
    have hnot : ¬ ((1 : Int) < (J.length : Int)) := by omega
    subst hU
    go_wp2_with (go_at_call 12; (with_reducible refine c12.out.mono ?_); rintro e w' ⟨rfl, hb⟩)
    have hB := hB.out
    subst hB
    intro hc
    have hL' : Lay C w' := ⟨hc, hL.no⟩
    rw [e13]
    refine Can.ctl hS hL' rfl (fun _ => st_ret) ?_
    exact end4 hL' rfl
  · have hgt : (1 : Int) < (J.length : Int) := by have := hF.four; have := hpos; omega
    go_wp2
    have hB := hB.out
    subst hB
    intro hc
    have hW := hW.out
    subst hW
    have hL' : Lay C (wl.re T d) := ⟨hc, hL.no⟩
    rw [e13]
    refine Can.ctl hS hL' rfl (fun _ => st_ret) ?_
    exact end4 hL' rfl
end
section
variable {C : Cfg} {b o Bd : Nat} {wl : World} {a : Option Addr} {bs : List Int} {c : Nat}
theorem law4 (hBd : Bd < 1000000000) (hL : Lay C wl) (hA : BytesAt wl a bs) (hu : ∀ b ∈ bs, InU8 b) (hcap : bs.length ≤ c) (hlen : bs.length ≤ 9223372036854775807) :
    Can Try.prog C b o (fun v _ => v = .bool true) 0 (AloneB Bd) wl (G ((base 4).at ⟨#[.slice a bs.length c, undef, undef, undef, undef, undef, undef, undef, undef, undef, undef, undef, undef, undef, undef, undef, undef, undef, undef, undef, undef, undef, undef, undef, undef, undef, undef, undef, undef, undef, undef, undef, undef, undef, undef, undef, undef, undef, undef, undef, undef, undef, undef, undef, undef, undef, undef, undef, undef, undef, undef, undef, undef, undef, undef, undef, undef, undef, undef, undef, undef, undef, undef, undef, undef, undef, undef, undef, undef, undef, undef, undef, undef, undef, undef, undef, undef, undef, undef, undef, undef, undef, undef, undef, undef, undef, undef, undef, undef, undef, undef, undef, undef, undef, undef, undef, undef, undef, undef, undef, undef, undef, undef, undef, undef, undef, undef, undef, undef, undef, undef, undef, undef, undef, undef, undef, undef, undef, undef, undef, undef, undef, undef, undef, undef, undef, undef, undef, undef, undef, undef, undef, undef, undef, undef, undef, undef, undef, undef, undef, undef, undef, undef, undef, undef, undef, undef, undef, undef, undef, undef, undef, undef], []⟩ [.code body4]) []) := by
  refine law4_a hL hA hu hcap hlen ?_
  intro f t J ta tc kb w z1 z5 z6 z7 z8 z9 za zb zc zd ze zf zg zh zi zj zk zl zm zn zo zp zq zr zt zu zv zw zx zy zz zA zB zC zD zE zF zG zH zI zJ zK zL zM zN zO zP zQ zR zS zT zU zV zW zX zY zZ Z0 Z1 Z2 Z3 Z4 Z5 Z6 Z7 Z8 Z9 Za Zb Zc Zd Ze Zf Zg Zh Zi Zj Zk Zl Zm Zn Zo Zp Zq Zr Zs Zt Zu Zv Zw Zx Zy Zz ZA ZB ZC ZD ZE ZF ZG ZH ZI ZJ ZK ZL ZM ZN ZO ZP ZQ ZR ZS ZT ZU ZV ZW ZX ZY ZZ Y0 Y1 Y2 Y3 Y4 Y5 Y6 Y7 Y8 Y9 Ya Yb Yc Yd Ye Yf Yg Yh Yi Yj Yk Yl Ym Yn Yo Yp Yq Yr Ys Yt hJ hJl hL hs
  obtain ⟨g, R1, R2, E, A, hD⟩ := kd_ex [111, 110, 101] f t J
  obtain ⟨gb, S1, S2, E2, A2, hD2⟩ := kd_ex [114, 101, 115, 116] f t J
  obtain ⟨gc, U1, U2, E3, A3, hD3⟩ := kd_ex [97, 108, 108] f t J
  obtain ⟨rfl, rfl, hall⟩ := kd_rules hD hD2 hD3
  have hm : ∀ l ∈ J, l.length ≤ 1048576 := fun l hl => by have := hJl l hl; omega
  refine law4_b (by omega) hm (by omega) hD hL hs ?_
  intro C' b' o' k5 d1 d2 e1 e2 w z1 z7 z8 z9 za zb zc zd ze zf zg zh zi zj zk zl zm zn zo zp zq zr zt zu zv zw zx zy zz zA zB zC zD zE zF zG zH zI zJ zK zL zM zN zO zP zQ zR zS zT zU zV zW zX zY zZ Z0 Z1 Z2 Z3 Z4 Z5 Z6 Z7 Z8 Z9 Za Zb Zc Zd Ze Zf Zg Zh Zi Zj Zk Zl Zm Zn Zo Zp Zq Zr Zs Zt Zu Zv Zw Zx Zy Zz ZA ZB ZC ZD ZE ZF ZG ZH ZI ZJ ZK ZL ZM ZN ZO ZP ZQ ZR ZS ZT ZU ZV ZW ZX ZY ZZ Y0 Y1 Y2 Y3 Y4 Y5 Y6 Y7 Y8 Y9 Ya Yb Yc Yd Ye Yf Yg Yh Yi Yj Yk Yl Ym Yn Yo Yp Yq Yr Ys Yt hL hs hr5 ha5 hb5 hz5 hk5 la5 lb5
  refine law4_c hL hs hr5 ha5 hb5 hz5 hk5 la5 lb5 ?_
  intro w z1 z7 z8 z9 za zb zc zd ze zf zg zh zi zj zk zl zm zn zo zp zq zr zt zu zv zw zx zy zz zA zB zC zD zE zF zG zH zI zJ zK zL zM zN zO zP zQ zR zS zT zU zV zW zX zY zZ Z0 Z1 Z2 Z3 Z4 Z5 Z6 Z7 Z8 Z9 Za Zb Zc Zd Ze Zf Zg Zh Zi Zj Zk Zl Zm Zn Zo Zp Zq Zr Zs Zt Zu Zv Zw Zx Zy Zz ZA ZB ZC ZD ZE ZF ZG ZH ZI ZJ ZK ZL ZM ZN ZO ZP ZQ ZR ZS ZT ZU ZV ZW ZX ZY ZZ Y0 Y1 Y2 Y3 Y4 Y5 Y6 Y7 Y8 Y9 Ya Yb Yc Yd Ye Yf Yg Yh Yi Yj Yk Yl Ym Yn Yo Yp Yq Yr Ys Yt hL hs hr5 ha5 hb5 hz5
  refine law4_d (by omega) hm (by omega) hD2 hL hs hr5 ha5 hb5 hz5 ?_
  intro C' b' o' k7 x1 x2 y1 y2 w z1 z9 za zb zc zd ze zf zg zh zi zj zk zl zm zn zo zp zq zr zt zu zv zw zx zy zz zA zB zC zD zE zF zG zH zI zJ zK zL zM zN zO zP zQ zR zS zT zU zV zW zX zY zZ Z0 Z1 Z2 Z3 Z4 Z5 Z6 Z7 Z8 Z9 Za Zb Zc Zd Ze Zf Zg Zh Zi Zj Zk Zl Zm Zn Zo Zp Zq Zr Zs Zt Zu Zv Zw Zx Zy Zz ZA ZB ZC ZD ZE ZF ZG ZH ZI ZJ ZK ZL ZM ZN ZO ZP ZQ ZR ZS ZT ZU ZV ZW ZX ZY ZZ Y0 Y1 Y2 Y3 Y4 Y5 Y6 Y7 Y8 Y9 Ya Yb Yc Yd Ye Yf Yg Yh Yi Yj Yk Yl Ym Yn Yo Yp Yq Yr Ys Yt hL hs hr7 ha7 hb7 hz7 hk7 la7 lb7 hr5 ha5 hb5 hz5
  refine law4_e hL hs hr5 ha5 hb5 hz5 hr7 ha7 hb7 hz7 hk5 la5 lb5 hk7 la7 lb7 ?_
  intro w z1 z9 za zb zc zd ze zf zg zh zi zj zk zl zm zn zo zp zq zr zt zu zv zw zx zy zz zA zB zC zD zE zF zG zH zI zJ zK zL zM zN zO zP zQ zR zS zT zU zV zW zX zY zZ Z0 Z1 Z2 Z3 Z4 Z5 Z6 Z7 Z8 Z9 Za Zb Zc Zd Ze Zf Zg Zh Zi Zj Zk Zl Zm Zn Zo Zp Zq Zr Zs Zt Zu Zv Zw Zx Zy Zz ZA ZB ZC ZD ZE ZF ZG ZH ZI ZJ ZK ZL ZM ZN ZO ZP ZQ ZR ZS ZT ZU ZV ZW ZX ZY ZZ Y0 Y1 Y2 Y3 Y4 Y5 Y6 Y7 Y8 Y9 Ya Yb Yc Yd Ye Yf Yg Yh Yi Yj Yk Yl Ym Yn Yo Yp Yq Yr Ys Yt hL hs hr5 ha5 hb5 hz5 hr7 ha7 hb7 hz7
  refine law4_f (by omega) hm (by omega) hD3 hL hs hr5 ha5 hb5 hz5 hr7 ha7 hb7 hz7 ?_
  intro C' b' o' k9 i1 i2 j1 j2 w z1 zb zc zd ze zf zg zh zi zj zk zl zm zn zo zp zq zr zt zu zv zw zx zy zz zA zB zC zD zE zF zG zH zI zJ zK zL zM zN zO zP zQ zR zS zT zU zV zW zX zY zZ Z0 Z1 Z2 Z3 Z4 Z5 Z6 Z7 Z8 Z9 Za Zb Zc Zd Ze Zf Zg Zh Zi Zj Zk Zl Zm Zn Zo Zp Zq Zr Zs Zt Zu Zv Zw Zx Zy Zz ZA ZB ZC ZD ZE ZF ZG ZH ZI ZJ ZK ZL ZM ZN ZO ZP ZQ ZR ZS ZT ZU ZV ZW ZX ZY ZZ Y0 Y1 Y2 Y3 Y4 Y5 Y6 Y7 Y8 Y9 Ya Yb Yc Yd Ye Yf Yg Yh Yi Yj Yk Yl Ym Yn Yo Yp Yq Yr Ys Yt hL hs hr9 ha9 hb9 hz9 hk9 la9 lb9 hr5 ha5 hb5 hz5 hr7 ha7 hb7 hz7
  refine law4_g (by omega) hm hD3 hL hs hr5 ha5 hb5 hz5 hr7 ha7 hb7 hz7 hr9 ha9 hb9 hz9 ?_
  intro k11 r1 r2 s1 s2 w z1 zd ze zf zg zh zi zj zk zl zm zn zo zp zq zr zt zu zv zw zx zy zz zA zB zC zD zE zF zG zH zI zJ zK zL zM zN zO zP zQ zR zS zT zU zV zW zX zY zZ Z0 Z1 Z2 Z3 Z4 Z5 Z6 Z7 Z8 Z9 Za Zb Zc Zd Ze Zf Zg Zh Zi Zj Zk Zl Zm Zn Zo Zp Zq Zr Zs Zt Zu Zv Zw Zx Zy Zz ZA ZB ZC ZD ZE ZF ZG ZH ZI ZJ ZK ZL ZM ZN ZO ZP ZQ ZR ZS ZT ZU ZV ZW ZX ZY ZZ Y0 Y1 Y2 Y3 Y4 Y5 Y6 Y7 Y8 Y9 Ya Yb Yc Yd Ye Yf Yg Yh Yi Yj Yk Yl Ym Yn Yo Yp Yq Yr Ys Yt hL hs _ _ _ _ hr5 ha5 hb5 hz5 hr7 ha7 hb7 hz7 hr9 ha9 hb9 hz9
  refine law4_h hL ?_
  intro hg z1 zd ze zf zg zh zi zj zk zl zm zn zo zp zq zr zt zu zv zw zx zy zz zA zB zC zD zE zF zG zH zI zJ zK zL zM zN zO zP zQ zR zS zT zU zV zW zX zY zZ Z0 Z1 Z2 Z3 Z4 Z5 Z6 Z7 Z8 Z9 Za Zb Zc Zd Ze Zf Zg Zh Zi Zj Zk Zl Zm Zn Zo Zp Zq Zr Zs Zt Zu Zv Zw Zx Zy Zz ZA ZB ZC ZD ZE ZF ZG ZH ZI ZJ ZK ZL ZM ZN ZO ZP ZQ ZR ZS ZT ZU ZV ZW ZX ZY ZZ Y0 Y1 Y2 Y3 Y4 Y5 Y6 Y7 Y8 Y9 Ya Yb Yc Yd Ye Yf Yg Yh Yi Yj Yk Yl Ym Yn Yo Yp Yq Yr Ys Yt
  obtain ⟨rfl, rfl, rfl, rfl, hF⟩ := hall hg
  refine law4_i hF hL hr5 hr7 hr9 ha5 hb5 ha7 hb7 ha9 hb9 ?_
  intro z1 z2 zd ze zf zg zh zi zj zk zl zm zn zo zp zq zr zt zu zv zw zx zy zz zA zB zC zD zE zF zG zH zI zJ zK zL zM zN zO zP zQ zR zS zT zU zV zW zX zY zZ Z0 Z1 Z2 Z3 Z4 Z5 Z6 Z7 Z8 Z9 Za Zb Zc Zd Ze Zf Zg Zh Zi Zj Zk Zl Zm Zn Zo Zp Zq Zr Zs Zt Zu Zv Zw Zx Zy Zz ZA ZB ZC ZD ZE ZF ZG ZH ZI ZJ ZK ZL ZM ZN ZO ZP ZQ ZR ZS ZT ZU ZV ZW ZX ZY ZZ Y0 Y1 Y2 Y3 Y4 Y5 Y6 Y7 Y8 Y9 Ya Yb Yc Yd Ye Yf Yg Yh Yi Yj Yk Yl Ym Yn Yo Yp Yq Yr Ys Yt
  exact law4_j (kd_pos hg hD) hF hL hr5 hr7 hr9 ha5 hb5 ha7 hb7 ha9 hb9
end
end Go.Town.Kp
namespace Go.Town.Kp
open Go Go.Conc Go.Conc.Lib Go.ConcR.Gen Go.RowKit Go.Town Go.Proofs Go.ChangeShapes
theorem inU8_of_wf {n : Int} (h : (Lit.int .u8 n).wf = true) : InU8 n := by
  have e1 : IntKind.u8.min = 0 := rfl
  have e2 : IntKind.u8.max = 255 := rfl
  simp [Lit.wf, e1, e2] at h
  exact ⟨by omega, by omega⟩
theorem bytes_open {W : World} {x : Addr} {l c : Nat} {zs : List Int} (hl : l ≤ c) (hz : zs.length = c) (hcell : ∀ i, i < zs.length → W.cell? (x.add i) = some (.int .u8 (zs.getD i 0))) (hw : ∀ n ∈ zs, (Lit.int .u8 n).wf = true) :
    ∃ ys : List Int, l = ys.length ∧ (∀ n ∈ ys, InU8 n) ∧ BytesAt W (some x) ys := by
  refine ⟨zs.take l, by simp; omega, fun n hn => inU8_of_wf (hw n (List.mem_of_mem_take hn)), ?_⟩
  by_cases h0 : l = 0
  · subst h0; exact .inl rfl
  obtain ⟨b, off, spot⟩ := x
  have hc := hcell 0 (by omega)
  have hspot : spot = none := by simpa [Addr.add] using World.cell?_spot hc
  subst hspot
  have hb : b < W.heap.size := by
    unfold World.cell? at hc
    simp only [Addr.add] at hc
    rcases Nat.lt_or_ge b W.heap.size with h | h
    · exact h
    · simp [Array.getElem?_eq_none h] at hc
  refine .inr ⟨b, off, rfl, hb, fun i hi => ?_⟩
  have hi' : i < l := by simp at hi; omega
  have := hcell i (by omega)
  rw [show (zs.take l).getD i 0 = zs.getD i 0 from by simp [List.getD, hi']]
  rw [← this]
  congr 1
  simp [Addr.add]
theorem under22 : Try.prog.underlying 22 = some (.slice 5) := by kernel_rfl
theorem under5 : Try.prog.underlying 5 = some (.int .u8) := by kernel_rfl
section
variable {H : Type} {enc : TypeId × Value → H} {W : World} {base : Nat} {sp : Nat → Bool} {held : Bool}
theorem bytes_in {fuel len cap : Nat} {a : Option Addr} {x : DataW H × List MemPlace} (h : DataW.trod enc Try.prog W base sp held fuel 22 (Value.slice a len cap).cells.toList = some x) : ∃ zs : List Int, len = zs.length ∧ len ≤ cap ∧ len ≤ 9223372036854775807 ∧ (∀ n ∈ zs, InU8 n) ∧ BytesAt W a zs := by
  rcases open_ints under22 under5 (by kernel_rfl) h with ⟨hcs, _⟩ | ⟨x, l, c, zs, hcs, _, hl, hm, hz, _, hcell, hwz⟩
  · simp [Value.cells] at hcs
    obtain ⟨rfl, rfl, rfl⟩ := hcs
    exact ⟨[], rfl, Nat.zero_le _, by omega, by simp, .inl rfl⟩
  · simp [Value.cells] at hcs
    obtain ⟨rfl, rfl, rfl⟩ := hcs
    have hz' : zs.length = cap ∨ zs.length = len := by
      split at hz
      · exact .inl hz
      · exact .inr hz
    obtain ⟨ys, q1, q2, q3⟩ := bytes_open (l := len) (c := zs.length) (by omega) rfl hcell hwz
    exact ⟨ys, q1, hl, by simp only [maxLen] at hm; omega, q2, q3⟩
theorem bytes_shut {a : Option Addr} {bs : List Int} (h : BytesAt W a bs) : BytesAt (shutW W) a bs := by
  rcases h with h | ⟨b, off, rfl, hb, hc⟩
  · exact .inl h
  · exact .inr ⟨b, off, rfl, by rw [shutW_size]; exact hb, fun i hi => by rw [shutW_cell]; exact hc i hi⟩
end
end Go.Town.Kp
