/-
  The laws of the keeper (P9): which functions keep to themselves; RunKeeper called, with what it answers told without memory.
  The law FnRules, to the first call of RunKeeper.
-/
import Derived.Test.YtihmcigoofhpmaaYbm
import Derived.Test.YtihmcigoofhpmaaYbo
set_option linter.all false
namespace Go.Town.Kp
open Go Go.Conc Go.Conc.Lib Go.ConcR.Gen Go.RowKit Go.Town Go.Proofs
open Go.ConcN (upd upd_ne upd_same)
def listP : List FuncId := [9, 32, 33, 34, 41, 42, 47, 12, 11, 25, 35, 37, 46, 26, 38, 43, 39, 40, 52, 66, 67]
def okP (f : FuncId) : Bool := listP.contains f
theorem okProgP : OkProg Try.prog okP := okProg_of listP (fun f h => by unfold okP at h; simpa using h) (List.all_eq_true.1 (show (listP.all (okBody okP)) = true by kernel_rfl))
theorem BytesAt.re {w : World} {a : Option Addr} {bs : List Int} (h : BytesAt w a bs) (T : Nat → Question → Nat) (d : Nat) : BytesAt (w.re T d) a bs := h
structure BaseP (q : List UInt8) (f t : Int) (J : List (List Int)) (ta : Option Addr) (kb : Nat) (w : World) : Prop where
  keeper : Reads w kb [.string ⟨q.toArray⟩, .int .i64 f, .int .i64 t]
  rows : RowsIn kb w ta J
  low : kb < w.heap.size
theorem BaseP.kin {q : List UInt8} {f t : Int} {J : List (List Int)} {ta : Option Addr} {kb : Nat} {w w' : World} (h : BaseP q f t J ta kb w) (k : Kin (kb + 1) w w') : BaseP q f t J ta kb w' :=
  ⟨h.keeper.kin k (by omega), h.rows.kept (k.le (B' := kb) (by omega)).cells (Nat.le_refl _), Nat.lt_of_lt_of_le h.low k.size⟩
theorem BaseP.rowsAt {q : List UInt8} {f t : Int} {J : List (List Int)} {ta : Option Addr} {kb : Nat} {w : World} (h : BaseP q f t J ta kb w) : RowsAt w ta J := h.rows.kept (B' := w.heap.size) (fun _ _ _ _ hv => hv) (Nat.le_of_lt h.low)
theorem BaseP.rule {q q' : List UInt8} {f t : Int} {J : List (List Int)} {ta : Option Addr} {kb : Nat} {w : World} (h : BaseP q f t J ta kb w) : BaseP q' f t J ta kb (w.setCell ⟨kb, 0, none⟩ (.string ⟨q'.toArray⟩)) := by
  have ne : ∀ (i j : Nat) (v : Value), i ≠ j → (w.setCell ⟨kb, i, none⟩ v).cell? ⟨kb, j, none⟩ = w.cell? ⟨kb, j, none⟩ := fun i j v h => cell_setCell_ne w v (.inr h)
  refine ⟨fun j hj => ?_, h.rows.kept (fun x j v hx hv => (cell_setCell_ne w _ (.inl (by omega))).trans hv) (Nat.le_refl _), by rw [World.size_setCell]; exact h.low⟩
  simp only [List.length_cons, List.length_nil] at hj
  have hf : (w.setCell ⟨kb, 0, none⟩ (.string ⟨q'.toArray⟩)).frozen? ⟨kb, j, none⟩ = false := by rw [frozen_setCell]; exact (h.keeper j (by simp; omega)).2
  refine ⟨?_, hf⟩
  obtain rfl | rfl | rfl : j = 0 ∨ j = 1 ∨ j = 2 := by omega
  · exact cell_setCell_eq _ (h.keeper 0 (by simp)).1
  · rw [ne 0 1 _ (by omega)]; exact (h.keeper 1 (by simp)).1
  · rw [ne 0 2 _ (by omega)]; exact (h.keeper 2 (by simp)).1
theorem enter10 {l : ByteArray} {f t : Int} {n tc : Nat} {ta : Option Addr} : Frame.enter Try.prog 10 #[.agg #[.string l, .int .i64 f, .int .i64 t], .slice ta n tc] .normal = (base 10).at ⟨#[.agg #[.string l, .int .i64 f, .int .i64 t], .slice ta n tc] ++ Array.replicate 18 undef, []⟩ [.code body10] := by kernel_rfl
section
variable {C : Cfg} {b o Bd kb : Nat} {wl : World} {q : List UInt8} {f t : Int} {J : List (List Int)} {tc : Nat} {ta : Option Addr} {g : Bool} {R1 R2 : List Int} {E : ByteArray} {A : Int}
set_option maxRecDepth 100000 in
set_option maxHeartbeats 2000000 in
theorem call10 {b₀ : Frame} {a₀ : Act} {ops₀ : Array Oper} {i₀ : Nat} {rest₀ : List Nat} {k₀ : List Item} {cs : List Frame} {ta' : Option Addr} {tc' : Nat} {Post : Value → World → Prop} (hn : J.length ≤ 1048576) (hm : ∀ l ∈ J, l.length ≤ 1048576) (hBd : Bd < 2000000000) (hL : Lay C wl) (hR : RowsAt wl ta' J) (hD : Kd q f t J g R1 R2 E A)
    (h : ∀ C' b' o' d1 d2 e1 e2 wl', Lay C' wl' → Kin wl.heap.size wl wl' → Ans wl.heap.size R1 R2 d1 d2 wl' → Can Try.prog C' b' o' Post 0 (AloneB (Bd + 400)) wl' (G (b₀.at (a₀.put ((ops₀[i₀]?).bind (·.dst)) (.tuple #[.agg #[.slice d1 R1.length e1, .slice d2 R2.length e2, .string E, .int .i64 A], .bool g])) (.inRegion ops₀ rest₀ :: k₀)) cs)) :
    Can Try.prog C b o Post 0 (AloneB Bd) wl (G (Frame.enter Try.prog 10 #[.agg #[.string ⟨q.toArray⟩, .int .i64 f, .int .i64 t], .slice ta' J.length tc'] .normal) (b₀.at a₀ (.inRegion ops₀ (i₀ :: rest₀) :: k₀) :: cs)) := by
  rw [enter10]
  refine runKeeper okProgT hn hm hBd hL hR (fun hbad wl' hL' hK => ?_) (fun κ h1 h2 h3 hb hw0 hw h4 C' b₁ sa st wl' hL' hK h5 h6 h7 s1 s2 => ?_)
  · obtain ⟨rfl, rfl, rfl, rfl, rfl⟩ := (Kd.one (.inl ⟨hbad, rfl, rfl, rfl, rfl, rfl⟩) hD : _)
    exact Can.mono (h C b o none none 0 0 wl' hL' hK ⟨.inl rfl, .inl rfl, (fun x e => by cases e), (fun x e => by cases e)⟩) (AloneB.mono (by omega))
  · have hv : (vK q f t && vT J) = true := by
      have a1 : vK q f t = true := vK_true (by omega) (by omega) (by omega) (by omega) (by rw [h1]; cases κ.rule <;> simp [Rule.text])
      rw [a1, h4]; rfl
    obtain ⟨rfl, rfl, rfl, rfl, rfl⟩ := (Kd.one (.inr ⟨κ, h1, h2, h3, hv, rfl, rfl, rfl, rfl, rfl⟩) hD : _)
    have := h C' b₁ 5 (some ⟨sa, 0, none⟩) (some ⟨st, 0, none⟩) J.length J.length wl' hL' hK ⟨nums_ints (w := wl') (x := sa) s1, nums_ints (w := wl') (x := st) s2, (fun x e => by cases e; exact h5), (fun x e => by cases e; exact h6)⟩
    simpa using this
theorem kd_ex (q : List UInt8) (f t : Int) (J : List (List Int)) : ∃ g R1 R2 E A, Kd q f t J g R1 R2 E A := by
  cases h : (vK q f t && vT J) with
  | false => exact ⟨false, [], [], ⟨#[]⟩, 0, .inl ⟨h, rfl, rfl, rfl, rfl, rfl⟩⟩
  | true =>
    have h' := h
    simp only [Bool.and_eq_true] at h'
    obtain ⟨κ, h1, h2, h3, _⟩ := vK_spec h'.1
    exact ⟨true, _, _, _, _, .inr ⟨κ, h1, h2, h3, h, rfl, rfl, rfl, rfl, rfl⟩⟩
end
end Go.Town.Kp
namespace Go.Town.Kp
open Go Go.Conc Go.Conc.Lib Go.ConcR.Gen Go.RowKit Go.Town Go.Proofs
open Go.ConcN (upd upd_ne upd_same)
noncomputable def body4 : Code := Try.f4.body.getD .skip
theorem end4 {C : Cfg} {b o Bd : Nat} {wl : World} {tmps : Array Value} {todo : List Item} (hL : Lay C wl) (h2 : tmps[2]? = some (.bool true)) :
    Can Try.prog C b o (fun v _ => v = .bool true) 0 (AloneB Bd) wl (G { (base 4).at ⟨tmps, []⟩ todo with mode := .returning } []) := by
  refine Can.mono (Rs := Alone) (Can.ends (v := .bool true) hL rfl (fun w hw => ?_) (fun _ _ => rfl)) (fun _ _ _ h => h.1)
  have hr : (results Try.f4 tmps).runT Try.prog w #[] = (.ok (.bool true) w, #[]) := by
    simp [results, Try.results4, h2, Sem.runT]
  refine ⟨seen Try.prog 4 #[], ?_, ?_⟩
  · simp only [stepG, G, Frame.at, base, unwind, Try.func4]
    rw [hr]
    simp [doReturn, GStep.after, Result.setW]
  · intro e he; rw [seen_none] at he; simp at he
section
variable {C : Cfg} {b o Bd : Nat} {wl : World} {a : Option Addr} {bs : List Int} {c : Nat}
theorem enter4 : Frame.enter Try.prog 4 #[.slice a bs.length c] .normal = (base 4).at ⟨#[.slice a bs.length c, undef, undef, undef, undef, undef, undef, undef, undef, undef, undef, undef, undef, undef, undef, undef, undef, undef, undef, undef, undef, undef, undef, undef, undef, undef, undef, undef, undef, undef, undef, undef, undef, undef, undef, undef, undef, undef, undef, undef, undef, undef, undef, undef, undef, undef, undef, undef, undef, undef, undef, undef, undef, undef, undef, undef, undef, undef, undef, undef, undef, undef, undef, undef, undef, undef, undef, undef, undef, undef, undef, undef, undef, undef, undef, undef, undef, undef, undef, undef, undef, undef, undef, undef, undef, undef, undef, undef, undef, undef, undef, undef, undef, undef, undef, undef, undef, undef, undef, undef, undef, undef, undef, undef, undef, undef, undef, undef, undef, undef, undef, undef, undef, undef, undef, undef, undef, undef, undef, undef, undef, undef, undef, undef, undef, undef, undef, undef, undef, undef, undef, undef, undef, undef, undef, undef, undef, undef, undef, undef, undef, undef, undef, undef, undef, undef, undef, undef, undef, undef, undef, undef, undef], []⟩ [.code body4] := by kernel_rfl
set_option maxRecDepth 100000 in
set_option maxHeartbeats 2000000 in
theorem law4_a (hL : Lay C wl) (hA : BytesAt wl a bs) (hu : ∀ b ∈ bs, InU8 b) (hcap : bs.length ≤ c) (hlen : bs.length ≤ 9223372036854775807)
    (next : ∀ (f t : Int) (J : List (List Int)) (ta : Option Addr) (tc kb : Nat) (w : World) (z1 z5 z6 z7 z8 z9 za zb zc zd ze zf zg zh zi zj zk zl zm zn zo zp zq zr zs zt zu zv zw zx zy zz zA zB zC zD zE zF zG zH zI zJ zK zL zM zN zO zP zQ zR zS zT zU zV zW zX zY zZ Z0 Z1 Z2 Z3 Z4 Z5 Z6 Z7 Z8 Z9 Za Zb Zc Zd Ze Zf Zg Zh Zi Zj Zk Zl Zm Zn Zo Zp Zq Zr Zs Zt Zu Zv Zw Zx Zy Zz ZA ZB ZC ZD ZE ZF ZG ZH ZI ZJ ZK ZL ZM ZN ZO ZP ZQ ZR ZS ZT ZU ZV ZW ZX ZY ZZ Y0 Y1 Y2 Y3 Y4 Y5 Y6 Y7 Y8 Y9 Ya Yb Yc Yd Ye Yf Yg Yh Yi Yj Yk Yl Ym Yn Yo Yp Yq Yr Ys : Value), J.length ≤ 10 → (∀ l ∈ J, l.length ≤ 30) → Lay C w → BaseP [111, 110, 101] f t J ta kb w → Can Try.prog C b o (fun v _ => v = .bool true) 0 (AloneB Bd) w (G ((base 4).at ⟨#[.slice a bs.length c, z1, .bool false, .pointer (some ⟨kb, 0, none⟩), .slice ta J.length tc, z5, z6, z7, z8, z9, za, zb, zc, zd, ze, zf, zg, zh, zi, zj, zk, zl, zm, zn, zo, zp, zq, zr, zs, zt, zu, zv, zw, zx, zy, zz, zA, zB, zC, zD, zE, zF, zG, zH, zI, zJ, zK, zL, zM, zN, zO, zP, zQ, zR, zS, zT, zU, zV, zW, zX, zY, zZ, Z0, Z1, Z2, Z3, Z4, Z5, Z6, Z7, Z8, Z9, Za, Zb, Zc, Zd, Ze, Zf, Zg, Zh, Zi, Zj, Zk, Zl, Zm, Zn, Zo, Zp, Zq, Zr, Zs, Zt, Zu, Zv, Zw, Zx, Zy, Zz, ZA, ZB, ZC, ZD, ZE, ZF, ZG, ZH, ZI, ZJ, ZK, ZL, ZM, ZN, ZO, ZP, ZQ, ZR, ZS, ZT, ZU, ZV, ZW, ZX, ZY, ZZ, Y0, Y1, Y2, Y3, Y4, Y5, Y6, Y7, Y8, Y9, Ya, Yb, Yc, Yd, Ye, Yf, Yg, Yh, Yi, Yj, Yk, Yl, Ym, Yn, Yo, Yp, Yq, Yr, Ys], []⟩ [.code (tailC 4 body4)]) [])) :
    Can Try.prog C b o (fun v _ => v = .bool true) 0 (AloneB Bd) wl (G ((base 4).at ⟨#[.slice a bs.length c, undef, undef, undef, undef, undef, undef, undef, undef, undef, undef, undef, undef, undef, undef, undef, undef, undef, undef, undef, undef, undef, undef, undef, undef, undef, undef, undef, undef, undef, undef, undef, undef, undef, undef, undef, undef, undef, undef, undef, undef, undef, undef, undef, undef, undef, undef, undef, undef, undef, undef, undef, undef, undef, undef, undef, undef, undef, undef, undef, undef, undef, undef, undef, undef, undef, undef, undef, undef, undef, undef, undef, undef, undef, undef, undef, undef, undef, undef, undef, undef, undef, undef, undef, undef, undef, undef, undef, undef, undef, undef, undef, undef, undef, undef, undef, undef, undef, undef, undef, undef, undef, undef, undef, undef, undef, undef, undef, undef, undef, undef, undef, undef, undef, undef, undef, undef, undef, undef, undef, undef, undef, undef, undef, undef, undef, undef, undef, undef, undef, undef, undef, undef, undef, undef, undef, undef, undef, undef, undef, undef, undef, undef, undef, undef, undef, undef, undef, undef, undef, undef, undef, undef], []⟩ [.code body4]) []) := by
  have hS := steady_aloneB Bd
  have e0 : tailC 0 body4 = .seq (headC 0 body4) (tailC 1 body4) := by kernel_rfl
  have e1 : tailC 1 body4 = .seq (headC 1 body4) (tailC 2 body4) := by kernel_rfl
  have e2 : tailC 2 body4 = .seq (headC 2 body4) (tailC 3 body4) := by kernel_rfl
  have e3 : tailC 3 body4 = .seq (headC 3 body4) (tailC 4 body4) := by kernel_rfl
  rw [show body4 = tailC 0 body4 from rfl]
  rw [e0]
  refine Can.ctl hS hL rfl (fun _ => stepG_seq) ?_
  refine Can.code' okProgP hS hL (okFr_at (by kernel_rfl) rfl rfl ⟨_, Try.func4⟩) ?_
  intro T d W hW B hB
  simp only [headC, body4, Try.f4, Option.getD_some]
  go_wp2
  have hB := hB.out
  subst hB
  intro hc
  have hW := hW.out
  subst hW
  refine Can.re ?_ T d
  clear hc hB hW
  rw [e1]
  refine Can.ctl hS hL rfl (fun _ => stepG_seq) ?_
  refine Can.code' okProgP hS hL (okFr_at (by kernel_rfl) rfl rfl ⟨_, Try.func4⟩) ?_
  intro T d W hW B hB
  simp only [headC, body4, Try.f4, Option.getD_some]
  by_cases hlong : (1048576 : Int) < (bs.length : Int)
  · go_wp2
    have hB := hB.out
    subst hB
    intro hc todo
    have hW := hW.out
    subst hW
    exact end4 (⟨hL.cut.re T d, hL.no⟩ : Lay C (wl.re T d)) rfl
  go_wp2
  have hB := hB.out
  subst hB
  intro hc
  have hW := hW.out
  subst hW
  refine Can.re ?_ T d
  clear hc hB hW hlong
  rw [e2]
  refine Can.ctl hS hL rfl (fun _ => stepG_seq) ?_
  refine Can.code' okProgP hS hL (okFr_at (by kernel_rfl) rfl rfl ⟨_, Try.func4⟩) ?_
  intro T d W hW B hB
  have hAW : BytesAt W a bs := by rw [hW.out]; exact hA.re T d
  have c9 := hidC (drawRun_any hAW hu hcap)
  have fin : RowKit.Hid (∀ (f t : Int) (J : List (List Int)) (ta : Option Addr) (tc : Nat) (q : List UInt8) w', J.length ≤ 10 → (∀ l ∈ J, l.length ≤ 30) → RowsAt w' ta J → Cut (hidOf C) (frzOf C) (w'.alloc (.cells #[.string ⟨q.toArray⟩, .int .i64 f, .int .i64 t] 24)) → ∀ z1 z5 z6 z7 z8 z9 za zb zc zd ze zf zg zh zi zj zk zl zm zn zo zp zq zr zs zt zu zv zw zx zy zz zA zB zC zD zE zF zG zH zI zJ zK zL zM zN zO zP zQ zR zS zT zU zV zW zX zY zZ Z0 Z1 Z2 Z3 Z4 Z5 Z6 Z7 Z8 Z9 Za Zb Zc Zd Ze Zf Zg Zh Zi Zj Zk Zl Zm Zn Zo Zp Zq Zr Zs Zt Zu Zv Zw Zx Zy Zz ZA ZB ZC ZD ZE ZF ZG ZH ZI ZJ ZK ZL ZM ZN ZO ZP ZQ ZR ZS ZT ZU ZV ZW ZX ZY ZZ Y0 Y1 Y2 Y3 Y4 Y5 Y6 Y7 Y8 Y9 Ya Yb Yc Yd Ye Yf Yg Yh Yi Yj Yk Yl Ym Yn Yo Yp Yq Yr Ys : Value, Can Try.prog C b o (fun v _ => v = .bool true) 0 (AloneB Bd) (w'.alloc (.cells #[.string ⟨q.toArray⟩, .int .i64 f, .int .i64 t] 24)) (G ((base 4).at ⟨#[.slice a bs.length c, z1, .bool false, .pointer (some ⟨w'.heap.size, 0, none⟩), .slice ta J.length tc, z5, z6, z7, z8, z9, za, zb, zc, zd, ze, zf, zg, zh, zi, zj, zk, zl, zm, zn, zo, zp, zq, zr, zs, zt, zu, zv, zw, zx, zy, zz, zA, zB, zC, zD, zE, zF, zG, zH, zI, zJ, zK, zL, zM, zN, zO, zP, zQ, zR, zS, zT, zU, zV, zW, zX, zY, zZ, Z0, Z1, Z2, Z3, Z4, Z5, Z6, Z7, Z8, Z9, Za, Zb, Zc, Zd, Ze, Zf, Zg, Zh, Zi, Zj, Zk, Zl, Zm, Zn, Zo, Zp, Zq, Zr, Zs, Zt, Zu, Zv, Zw, Zx, Zy, Zz, ZA, ZB, ZC, ZD, ZE, ZF, ZG, ZH, ZI, ZJ, ZK, ZL, ZM, ZN, ZO, ZP, ZQ, ZR, ZS, ZT, ZU, ZV, ZW, ZX, ZY, ZZ, Y0, Y1, Y2, Y3, Y4, Y5, Y6, Y7, Y8, Y9, Ya, Yb, Yc, Yd, Ye, Yf, Yg, Yh, Yi, Yj, Yk, Yl, Ym, Yn, Yo, Yp, Yq, Yr, Ys], []⟩ [.code (tailC 3 body4)]) [])) := by
    intro f t J ta tc q w' hJ hJl hR hc z1 z5 z6 z7 z8 z9 za zb zc zd ze zf zg zh zi zj zk zl zm zn zo zp zq zr zs zt zu zv zw zx zy zz zA zB zC zD zE zF zG zH zI zJ zK zL zM zN zO zP zQ zR zS zT zU zV zW zX zY zZ Z0 Z1 Z2 Z3 Z4 Z5 Z6 Z7 Z8 Z9 Za Zb Zc Zd Ze Zf Zg Zh Zi Zj Zk Zl Zm Zn Zo Zp Zq Zr Zs Zt Zu Zv Zw Zx Zy Zz ZA ZB ZC ZD ZE ZF ZG ZH ZI ZJ ZK ZL ZM ZN ZO ZP ZQ ZR ZS ZT ZU ZV ZW ZX ZY ZZ Y0 Y1 Y2 Y3 Y4 Y5 Y6 Y7 Y8 Y9 Ya Yb Yc Yd Ye Yf Yg Yh Yi Yj Yk Yl Ym Yn Yo Yp Yq Yr Ys
    have hr : Reads (w'.alloc (.cells #[.string ⟨q.toArray⟩, .int .i64 f, .int .i64 t] 24)) w'.heap.size [.string ⟨q.toArray⟩, .int .i64 f, .int .i64 t] := reads_block (t := 24) (alloc_self w' _)
    have hBase : BaseP q f t J ta w'.heap.size (w'.alloc (.cells #[.string ⟨q.toArray⟩, .int .i64 f, .int .i64 t] 24)) := ⟨hr, hR.kept (((Grown.refl w').alloc _).kin (B := w'.heap.size) (Nat.le_refl _)).cells (Nat.le_refl _), by rw [World.size_alloc]; omega⟩
    have hL₂ : Lay C (w'.alloc (.cells #[.string ⟨q.toArray⟩, .int .i64 f, .int .i64 t] 24)) := ⟨hc, hL.no⟩
    clear hc hr hR hW hB hAW c9
    generalize w'.alloc (.cells #[.string ⟨q.toArray⟩, .int .i64 f, .int .i64 t] 24) = w₂ at *
    generalize w'.heap.size = kb at *
    rw [e3]
    refine Can.ctl hS hL₂ rfl (fun _ => stepG_seq) ?_
    refine Can.code' okProgP hS hL₂ (okFr_at (by kernel_rfl) rfl rfl ⟨_, Try.func4⟩) ?_
    intro T d W hW B hB
    have k0 : W.cell? ⟨kb, 0, none⟩ = some (.string ⟨q.toArray⟩) := by rw [hW.out]; exact (hBase.keeper 0 (by simp)).1
    have k1 : W.frozen? ⟨kb, 0, none⟩ = false := by rw [hW.out]; exact (hBase.keeper 0 (by simp)).2
    simp only [headC, body4, Try.f4, Option.getD_some]
    go_wp2
    have hB := hB.out
    subst hB
    intro hc
    have hW := hW.out
    subst hW
    exact next f t J ta tc kb _ _ _ _ _ _ _ _ _ _ _ _ _ _ _ _ _ _ _ _ _ _ _ _ _ _ _ _ _ _ _ _ _ _ _ _ _ _ _ _ _ _ _ _ _ _ _ _ _ _ _ _ _ _ _ _ _ _ _ _ _ _ _ _ _ _ _ _ _ _ _ _ _ _ _ _ _ _ _ _ _ _ _ _ _ _ _ _ _ _ _ _ _ _ _ _ _ _ _ _ _ _ _ _ _ _ _ _ _ _ _ _ _ _ _ _ _ _ _ _ _ _ _ _ _ _ _ _ _ _ _ _ _ _ _ _ _ _ _ _ _ _ _ _ _ _ _ _ _ _ hJ hJl ⟨hc, hL.no⟩ ((show BaseP q f t J ta kb (w₂.re T d) from ⟨hBase.keeper, hBase.rows, hBase.low⟩).rule (q' := [111, 110, 101]))
  clear next hA hAW
  simp only [headC, body4, Try.f4, Option.getD_some]
  go_wp2_with (go_at_call 9; (with_reducible refine c9.out.mono ?_); rintro e w' ⟨q, f, t, ta, J, tc, rfl, hJ, hJl, hR, hb⟩)
  have hB := hB.out
  subst hB
  intro hc
  exact fin.out f t J ta tc q w' hJ hJl hR hc _ _ _ _ _ _ _ _ _ _ _ _ _ _ _ _ _ _ _ _ _ _ _ _ _ _ _ _ _ _ _ _ _ _ _ _ _ _ _ _ _ _ _ _ _ _ _ _ _ _ _ _ _ _ _ _ _ _ _ _ _ _ _ _ _ _ _ _ _ _ _ _ _ _ _ _ _ _ _ _ _ _ _ _ _ _ _ _ _ _ _ _ _ _ _ _ _ _ _ _ _ _ _ _ _ _ _ _ _ _ _ _ _ _ _ _ _ _ _ _ _ _ _ _ _ _ _ _ _ _ _ _ _ _ _ _ _ _ _ _ _ _ _ _ _ _ _ _ _
end
end Go.Town.Kp
