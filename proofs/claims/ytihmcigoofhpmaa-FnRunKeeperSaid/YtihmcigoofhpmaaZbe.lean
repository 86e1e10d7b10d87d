/-
  keep: the ticks.
-/
import Derived.Test.YtihmcigoofhpmaaZbd
set_option linter.all false
namespace Go.Town
open Go Go.Conc Go.Conc.Lib Go.ConcR Go.ConcR.Gen
section
variable {P : Program} {C : Cfg} {b o : Nat} {Post : Value → World → Prop} {Rs : (Nat → Prop) → (Nat → Role) → Nat → Prop} {k : Nat} {wl : World}
theorem Can.leaves (hS : Steady Rs) (hL : Lay C wl) {b₀ c : Frame} {a : Act} {todo : List Item} {cs : List Frame} {fn : Func} {v : Value} (hn : b₀.kind = .normal) (hd : a.defers = []) (hf : P.funcs[b₀.fn]? = some fn) (hr : ∀ T d, (results fn a.tmps).run P (wl.re T d) = .ok v (wl.re T d)) (h : Can P C b o Post k Rs wl (G (c.finish v) cs)) :
    Can P C b o Post k Rs wl (G { b₀.at a todo with mode := .returning } (c :: cs)) := by
  refine Can.sem (s := results fn a.tmps) (fn := b₀.fn) (nx := fun v => G (c.finish v) cs) hS hL rfl (natural_results fn a.tmps) (fun w v w' hv => ?_) (fun T d => ⟨v, wl.re T d, hr T d, fun _ => h.re T d⟩)
  have hrr : (results fn a.tmps).runT P w #[] = (.ok v w', (results fn a.tmps).events P w #[]) := by
    have := Sem.runT_fst P (results fn a.tmps) w #[]
    rw [hv] at this
    show _ = (_, ((results fn a.tmps).runT P w #[]).2)
    rw [← this]
  simp only [stepG, G, Frame.at, unwind, hd, hf]
  rw [hrr]
  simp [doReturn, hn, GStep.after]
end
end Go.Town
namespace Go.Town.Kp
open Go Go.Conc Go.Conc.Lib Go.ConcR.Gen Go.RowKit Go.Town Go.Proofs
open Go.ConcN (upd upd_ne upd_same)
noncomputable def body36 : Code := Try.f36.body.getD .skip
noncomputable def ticks36 : Code := headC 4 body36
noncomputable def loop36 : Code := bodyC (bodyC (tailC 1 ticks36))
noncomputable def inner36 : Code := bodyC (headC 2 loop36)
noncomputable def give36 : Code := match tailC 2 inner36 with | .cond _ c _ => c | c => c
theorem body36_eq : body36 = .seq (headC 0 body36) (.seq (headC 1 body36) (.seq (headC 2 body36) (.seq (headC 3 body36) (.seq (.seq (headC 0 ticks36) (.block 0 (.loop loop36))) (tailC 5 body36))))) := by kernel_rfl
theorem loop36_eq : loop36 = .seq (headC 0 loop36) (.seq (.cond (.tmp 28) .skip (.exit 0)) (.seq (.block 1 inner36) (tailC 3 loop36))) := by kernel_rfl
theorem inner36_eq : inner36 = .seq (headC 0 inner36) (.seq (headC 1 inner36) (.cond (.tmp 35) give36 .skip)) := by kernel_rfl
theorem give36_eq : give36 = .seq (headC 0 give36) (.seq (headC 1 give36) (.exit 0)) := by kernel_rfl
structure Own (A : At) (κ : Kr) (B fb kb rb qb n : Nat) (e : ByteArray) (at_ : Nat) (w : World) : Prop where
  box : BoxAt kb κ w
  res : ∀ j, j < 4 → (∃ v, w.cell? ⟨rb, j, none⟩ = some v) ∧ w.frozen? ⟨rb, j, none⟩ = false
  q0 : w.cell? ⟨qb, 0, none⟩ = some (.slice (some ⟨A.sa, 0, none⟩) n n) ∧ w.frozen? ⟨qb, 0, none⟩ = false
  q1 : w.cell? ⟨qb, 1, none⟩ = some (.slice (some ⟨A.st, 0, none⟩) n n) ∧ w.frozen? ⟨qb, 1, none⟩ = false
  q2 : w.cell? ⟨qb, 2, none⟩ = some (.string e) ∧ w.frozen? ⟨qb, 2, none⟩ = false
  q3 : w.cell? ⟨qb, 3, none⟩ = some (.int .i64 (at_ : Nat)) ∧ w.frozen? ⟨qb, 3, none⟩ = false
structure Off (A : At) (fb x : Nat) : Prop where
  c : x ≠ A.c
  ta : x ≠ A.ta
  sa : x ≠ A.sa
  st : x ≠ A.st
  fb : x ≠ fb
theorem SideF.both {A : At} {fb : Nat} {w w' : World} (h : SideF A fb w w') {x j : Nat} {v : Value} (hx : Off A fb x) (hv : w.cell? ⟨x, j, none⟩ = some v ∧ w.frozen? ⟨x, j, none⟩ = false) : w'.cell? ⟨x, j, none⟩ = some v ∧ w'.frozen? ⟨x, j, none⟩ = false :=
  ⟨h.cells _ _ _ hx.ta hx.sa hx.st hx.fb hv.1, (h.thaw _ _ _ hx.c hv.1 hv.2).2⟩
theorem Own.side {A : At} {κ : Kr} {B fb kb rb qb n : Nat} {e : ByteArray} {at_ : Nat} {w w' : World} (h : Own A κ B fb kb rb qb n e at_ w) (F : Far A B fb kb) (hr : Off A fb rb) (hq : Off A fb qb) (hs : SideF A fb w w') : Own A κ B fb kb rb qb n e at_ w' :=
  ⟨h.box.side F hs, fun j hj => let ⟨⟨v, hv⟩, hf⟩ := h.res j hj; ⟨⟨v, (hs.both hr ⟨hv, hf⟩).1⟩, (hs.both hr ⟨hv, hf⟩).2⟩, hs.both hq h.q0, hs.both hq h.q1, hs.both hq h.q2, hs.both hq h.q3⟩
structure Kin (B : Nat) (w w' : World) : Prop where
  cells : ∀ x j v, x < B → w.cell? ⟨x, j, none⟩ = some v → w'.cell? ⟨x, j, none⟩ = some v
  thaw : ∀ x j v, x < B → w.cell? ⟨x, j, none⟩ = some v → w.frozen? ⟨x, j, none⟩ = false → w'.frozen? ⟨x, j, none⟩ = false
  size : w.heap.size ≤ w'.heap.size
theorem Kin.refl (B : Nat) (w : World) : Kin B w w := ⟨fun _ _ _ _ h => h, fun _ _ _ _ _ h => h, Nat.le_refl _⟩
theorem Kin.trans {B : Nat} {w w' w'' : World} (h : Kin B w w') (k : Kin B w' w'') : Kin B w w'' :=
  ⟨fun x j v hx hv => k.cells x j v hx (h.cells x j v hx hv), fun x j v hx hv hf => k.thaw x j v hx (h.cells x j v hx hv) (h.thaw x j v hx hv hf), Nat.le_trans h.size k.size⟩
theorem Kin.re {B : Nat} {w w' : World} (h : Kin B w w') (T : Nat → Question → Nat) (d : Nat) : Kin B w (w'.re T d) := ⟨h.cells, h.thaw, h.size⟩
theorem Kin.set {B : Nat} {w w' : World} (h : Kin B w w') {x j : Nat} (v : Value) (hx : B ≤ x) : Kin B w (w'.setCell ⟨x, j, none⟩ v) :=
  h.trans ⟨fun y l u hy hu => (cell_setCell_ne w' v (.inl (by show x ≠ y; omega))).trans hu, fun y l u _ hu hf => (frozen_setCell _ _ _ _).trans hf, by simp [World.setCell]⟩
theorem Grown.kin {B : Nat} {w w' : World} (h : Grown w w') (hB : B ≤ w.heap.size) : Kin B w w' := ⟨fun x j v hx => h.cells x j v (by omega), fun x j v hx => h.thaw x j v (by omega), h.size⟩
theorem SideF.kin {A : At} {B fb kb : Nat} {w w' : World} (h : SideF A fb w w') (F : Far A B fb kb) (hc : B ≤ A.c) : Kin B w w' :=
  ⟨fun x j v hx hv => h.cells x j v (by have := F.b1; omega) (by have := F.b2; omega) (by have := F.b3; omega) (by have := F.b4; omega) hv, fun x j v hx hv hf => (h.thaw x j v (by omega) hv hf).2, h.size⟩
def endText (over : Bool) : ByteArray := if over then ⟨#[103, 105, 118, 101, 110, 32, 117, 112]⟩ else ⟨#[100, 111, 110, 101]⟩
section
variable {A : At} {C : Cfg} {L : Nat → Ws} {Post : Value → World → Prop} {N k : Nat} {wl : World} {i : Nat} {cs : List Frame} {slot : Nat → Option Nat} {sum starts : Nat → Int} {b₀ : Frame} {a₀ : Act} {ops₀ : Array Oper} {i₀ : Nat} {rest₀ : List Nat} {k₀ : List Item}
variable {κ : Kr} {J : List (List Int)} {tn t fb kb rb qb tc B : Nat} {ta : Option Addr} {s : St}
theorem tick_over {κ : Kr} {J : List (List Int)} {t m : Nat} {s : St} (h : (tickW κ J t s).over = true) : runT κ J (m + 1) t s = (tickW κ J t s, t) := by
  conv => lhs; unfold runT
  rw [if_pos h]
theorem tick_on {κ : Kr} {J : List (List Int)} {t m : Nat} {s : St} (h : (tickW κ J t s).over = false) : runT κ J (m + 1) t s = runT κ J m (t + 1) (tickW κ J t s) := by
  conv => lhs; unfold runT
  rw [h]; simp
set_option maxRecDepth 100000 in
set_option maxHeartbeats 1000000 in
theorem keep_ticks (hp : OkProg Try.prog okT) (hn : Hid (A.n = J.length)) (hJ : TasksIn J) (F : Far A B fb kb) (hr : Off A fb rb) (hq : Off A fb qb) (hBc : B ≤ A.c) (hBq : B ≤ qb) (hne : qb ≠ kb ∧ qb ≠ rb) (hw0 : 0 < κ.win) (hw : κ.win ≤ 20) (hb : κ.bear ≤ 20) (hn4 : A.n ≤ 4) (hn1 : 0 < A.n) (htn : tn ≤ 20) : ∀ (m : Nat) {z4 z5 za zb zc zd ze zf zg zh zi zj zk zl zm zn zo zp zq zr zs zt zu zv zw zx zy zz zA zB zC zD zE zF zG zH zI zJ zK zL zM zN zO zP zQ zR zS : Value} {C : Cfg} {L : Nat → Ws} {N c : Nat} {wl : World} {t : Nat} {slot : Nat → Option Nat} {s : St}, tn - t = m → t ≤ tn → 0 < N → N + m * 16 < 2147483500 → (∀ j, N ≤ j → L j = .gone) → Kept A C L slot s.sum s.starts wl → (∀ l, l < A.n → ∃ x, slot l = some x) →
    Small c s → s.over = false → c + m * 4 ≤ 800 → FlAt fb s.fl wl → Own A κ B fb kb rb qb J.length ⟨#[100, 111, 110, 101]⟩ tn wl → RowsIn B wl ta J →
    (∀ y4 y5 y10 y11 y12 y13 y14 y15 y16 y17 y18 y19 y20 y21 y22 y23 y24 y25 y28 y29 y30 y31 y32 y33 y34 y35 y36 y37 y38 y39 y40 y41 y42 y43 y44 y45 y46 y47 y48 y49 y50 y51 y52 y53 y54 y55 y56 y27 C' L' N' slot' wl', Kept A C' L' slot' (runT κ J m t s).1.sum (runT κ J m t s).1.starts wl' → Kin B wl wl' → Own A κ B fb kb rb qb J.length (endText (runT κ J m t s).1.over) (runT κ J m t s).2 wl' → N ≤ N' → N' ≤ N + m * 16 → (∀ j, N' ≤ j → L' j = .gone) →
      Can Try.prog C' A.c 5 Post 0 (Crew A.c A.rp N' L') wl' (G ((base 36).at ⟨#[.agg #[.string κ.rule.text, .int .i64 (κ.bear : Nat), .int .i64 (κ.win : Nat)], .slice ta J.length tc, .int .i64 (tn : Nat), .pointer (some ⟨kb, 0, none⟩), y4, y5, .pointer (some ⟨rb, 0, none⟩), .pointer (some ⟨A.c, 0, none⟩), .pointer (some ⟨qb, 0, none⟩), .slice (some ⟨fb, 0, none⟩) 20 20, y10, y11, y12, y13, y14, y15, y16, y17, y18, y19, y20, y21, y22, y23, y24, y25, .int .i64 (tn : Nat), y27, y28, y29, y30, y31, y32, y33, y34, y35, y36, y37, y38, y39, y40, y41, y42, y43, y44, y45, y46, y47, y48, y49, y50, y51, y52, y53, y54, y55, y56], []⟩ [.code (tailC 5 body36)]) (b₀.at a₀ (.inRegion ops₀ (i₀ :: rest₀) :: k₀) :: cs))) →
    Can Try.prog C A.c 5 Post 0 (Crew A.c A.rp N L) wl (G ((base 36).at ⟨#[.agg #[.string κ.rule.text, .int .i64 (κ.bear : Nat), .int .i64 (κ.win : Nat)], .slice ta J.length tc, .int .i64 (tn : Nat), .pointer (some ⟨kb, 0, none⟩), z4, z5, .pointer (some ⟨rb, 0, none⟩), .pointer (some ⟨A.c, 0, none⟩), .pointer (some ⟨qb, 0, none⟩), .slice (some ⟨fb, 0, none⟩) 20 20, za, zb, zc, zd, ze, zf, zg, zh, zi, zj, zk, zl, zm, zn, zo, zp, .int .i64 (tn : Nat), .int .i64 (t : Nat), zq, zr, zs, zt, zu, zv, zw, zx, zy, zz, zA, zB, zC, zD, zE, zF, zG, zH, zI, zJ, zK, zL, zM, zN, zO, zP, zQ, zR, zS], []⟩ [.code loop36, .inLoop loop36, .inBlock 0, .code (tailC 5 body36)]) (b₀.at a₀ (.inRegion ops₀ (i₀ :: rest₀) :: k₀) :: cs)) := by
  intro m
  induction m with
  | zero =>
    intro z4 z5 za zb zc zd ze zf zg zh zi zj zk zl zm zn zo zp zq zr zs zt zu zv zw zx zy zz zA zB zC zD zE zF zG zH zI zJ zK zL zM zN zO zP zQ zR zS C L N c wl t slot s hm ht hN hNb hg Kp hall hsm hover hcm hF hO hR h
    obtain rfl : t = tn := by omega
    clear hm
    have hS := (crew_free A.c A.rp N L).steady
    have hL := Kp.lay
    rw [loop36_eq]
    refine Can.ctl hS hL rfl (fun _ => stepG_seq) ?_
    refine Can.code' hp hS hL (okFr_at (by kernel_rfl) rfl rfl ⟨_, Try.func36⟩) ?_
    intro T d W hW B hB
    simp only [headC, tailC, bodyC, loop36, ticks36, body36, Try.f36, Option.getD_some]
    go_wp2
    have hB := hB.out
    subst hB
    intro hc
    have hW := hW.out
    subst hW
    refine Can.re ?_ T d
    clear hc
    refine Can.ctl hS hL rfl (fun _ => stepG_seq) ?_
    refine Can.ctl hS hL rfl (fun _ => stepG_cond (t := false) rfl) ?_; simp only [if_true, if_false, Bool.false_eq_true, ↓reduceIte]
    refine Can.ctl hS hL rfl (fun _ => stepG_exit rfl) ?_
    simp only [runT, hover, endText] at h
    exact h _ _ _ _ _ _ _ _ _ _ _ _ _ _ _ _ _ _ _ _ _ _ _ _ _ _ _ _ _ _ _ _ _ _ _ _ _ _ _ _ _ _ _ _ _ _ _ _ C L N slot wl Kp (Kin.refl B wl) hO (Nat.le_refl _) (by omega) hg
  | succ m ih =>
    intro z4 z5 za zb zc zd ze zf zg zh zi zj zk zl zm zn zo zp zq zr zs zt zu zv zw zx zy zz zA zB zC zD zE zF zG zH zI zJ zK zL zM zN zO zP zQ zR zS C L N c wl t slot s hm ht hN hNb hg Kp hall hsm hover hcm hF hO hR h
    have hlt3 : t < tn := by omega
    replace hm : tn ≤ t + (m + 1) ∧ t + (m + 1) ≤ tn := by omega
    have hl4 : J.length ≤ 4 := by rw [← hn.out]; exact hn4
    have hS := (crew_free A.c A.rp N L).steady
    have hL := Kp.lay
    have hsm₂ := Small.workers (k := κ) hJ t J.length 0 c s hsm
    rw [loop36_eq]
    refine Can.ctl hS hL rfl (fun _ => stepG_seq) ?_
    refine Can.code' hp hS hL (okFr_at (by kernel_rfl) rfl rfl ⟨_, Try.func36⟩) ?_
    intro T d W hW B hB
    simp only [headC, tailC, bodyC, loop36, ticks36, body36, Try.f36, Option.getD_some]
    have hlt2 : (t : Int) < (tn : Int) := by omega
    go_wp2
    have hB := hB.out
    subst hB
    intro hc
    have hW := hW.out
    subst hW
    refine Can.re ?_ T d
    clear hc
    refine Can.ctl hS hL rfl (fun _ => stepG_seq) ?_
    refine Can.ctl hS hL rfl (fun _ => stepG_cond (t := true) rfl) ?_; simp only [if_true, if_false, Bool.false_eq_true, ↓reduceIte]
    refine Can.ctl hS hL rfl (fun _ => stepG_skip) ?_
    refine Can.ctl hS hL rfl (fun _ => stepG_seq) ?_
    refine Can.ctl hS hL rfl (fun _ => stepG_block) ?_
    rw [← loop36_eq, inner36_eq]
    refine Can.ctl hS hL rfl (fun _ => stepG_seq) ?_
    refine Can.code' hp hS hL (okFr_at (by kernel_rfl) rfl rfl ⟨_, Try.func36⟩) ?_
    intro T d W hW B hB
    simp only [headC, tailC, bodyC, inner36, loop36, ticks36, body36, Try.f36, Option.getD_some]
    go_wp2
    have hB := hB.out
    subst hB
    intro hc
    have hW := hW.out
    subst hW
    refine Can.re ?_ T d
    clear hc
    refine Can.ctl hS hL rfl (fun _ => stepG_seq) ?_
    generalize hK : [Item.code (.cond (.tmp 35) give36 .skip), Item.inBlock 1, .code (tailC 3 loop36), .inLoop loop36, .inBlock 0, .code (tailC 5 body36)] = K₁
    simp only [headC, tailC, bodyC, ticks36, inner36, loop36, body36, Try.f36, Option.getD_some]
    refine Can.ctl hS hL rfl (fun _ => stepG_region) ?_; simp only [List.size_toArray, List.length_cons, List.length_nil, Nat.reduceAdd, Nat.zero_add, List.range, List.range.loop]
    refine Can.op (ok := okT) hS hL rfl rfl (by k_ne) (by kernel_rfl) (fun T d => ⟨.pointer (some ⟨A.c, 0, none⟩), wl.re T d, ?_, fun _ => Can.re ?_ T d⟩)
    · go_simp
    walk_nrm
    refine Can.op (ok := okT) hS hL rfl rfl (by k_ne) (by kernel_rfl) (fun T d => ⟨.agg #[.string κ.rule.text, .int .i64 (κ.bear : Nat), .int .i64 (κ.win : Nat)], wl.re T d, ?_, fun _ => Can.re ?_ T d⟩)
    · have h0 : (wl.re T d).cell? ⟨kb, 0, none⟩ = some (.string κ.rule.text) := hO.box.b0
      have h1 : (wl.re T d).cell? ⟨kb, 1, none⟩ = some (.int .i64 (κ.bear : Nat)) := hO.box.b1
      have h2 : (wl.re T d).cell? ⟨kb, 2, none⟩ = some (.int .i64 (κ.win : Nat)) := hO.box.b2
      go_simp
    walk_nrm
    refine Can.op (ok := okT) hS hL rfl rfl (by k_ne) (by kernel_rfl) (fun T d => ⟨.slice ta J.length tc, wl.re T d, ?_, fun _ => Can.re ?_ T d⟩)
    · go_simp
    walk_nrm
    refine Can.op (ok := okT) hS hL rfl rfl (by k_ne) (by kernel_rfl) (fun T d => ⟨.int .i64 (t : Nat), wl.re T d, ?_, fun _ => Can.re ?_ T d⟩)
    · go_simp
    walk_nrm
    refine Can.op (ok := okT) hS hL rfl rfl (by k_ne) (by kernel_rfl) (fun T d => ⟨.slice (some ⟨fb, 0, none⟩) 20 20, wl.re T d, ?_, fun _ => Can.re ?_ T d⟩)
    · go_simp
    walk_nrm
    refine Can.ctl hS hL rfl (fun _ => st_tick (p := .pointer (some ⟨A.c, 0, none⟩)) (q := .agg #[.string κ.rule.text, .int .i64 (κ.bear : Nat), .int .i64 (κ.win : Nat)]) (r := .slice ta J.length tc) (s := .int .i64 (t : Nat)) (t := .slice (some ⟨fb, 0, none⟩) 20 20) Try.func49 rfl rfl (by k_ne) rfl (by kernel_rfl)) ?_
    have lt : ∀ x j v, wl.cell? ⟨x, j, none⟩ = some v → x < wl.heap.size := fun x j v hv => block_lt hv
    refine tickAll (c := c) (B := B) hp hn hJ (fun kb' hkb => ?_) (by omega) hw0 hw hb hn4 hN (by omega) hg Kp hall hsm hover (by omega) hF hR ?_
    · have hf := lt _ _ _ (hF 0 (by omega)).1
      have l1 := lt _ _ _ (Kp.mem.tasks 0 hn1).1
      have l2 := lt _ _ _ (Kp.mem.sums 0 hn1).1
      have l3 := lt _ _ _ (Kp.mem.begun 0 hn1).1
      exact ⟨F.f0, F.f1, F.f2, F.f3, by omega, by omega, by omega, by omega, F.b1, F.b2, F.b3, F.b4⟩
    intro C₂ L₂ N₂ slot₂ w₂ K₂ sd₂ fl₂ all₂ h1 h2 hg₂
    walk_nrm
    have hS₂ := (crew_free A.c A.rp N₂ L₂).steady
    have hL₂ := K₂.lay
    refine Can.ctl hS₂ hL₂ rfl (fun _ => stepG_region_end) ?_
    subst hK
    have hO₂ := hO.side F hr hq sd₂
    cases hov : (tickW κ J t s).over with
    | false =>
      rw [tick_on hov] at h
      have all₂ := all₂ hov
      refine Can.ctl hS₂ hL₂ rfl (fun _ => stepG_cond (t := false) rfl) ?_; simp only [if_true, if_false, Bool.false_eq_true, ↓reduceIte]
      refine Can.ctl hS₂ hL₂ rfl (fun _ => stepG_skip) ?_
      refine Can.ctl hS₂ hL₂ rfl (fun _ => stepG_inBlock) ?_
      refine Can.code' hp hS₂ hL₂ (okFr_at (by kernel_rfl) rfl rfl ⟨_, Try.func36⟩) ?_
      intro T d W hW B hB
      simp only [headC, tailC, bodyC, loop36, ticks36, body36, Try.f36, Option.getD_some]
      go_wp2
      have hB := hB.out
      subst hB
      intro hc
      have hW := hW.out
      subst hW
      refine Can.re ?_ T d
      clear hc
      refine Can.ctl hS₂ hL₂ rfl (fun _ => stepG_inLoop) ?_
      rw [show ((t : Int) + 1) = ((t + 1 : Nat) : Int) from by omega]
      refine ih (c := c + J.length) (by omega) (by omega) (by omega) (by omega) hg₂ K₂ all₂ hsm₂ hov (by omega) fl₂ hO₂ (hR.side F sd₂) ?_
      intro y4 y5 y10 y11 y12 y13 y14 y15 y16 y17 y18 y19 y20 y21 y22 y23 y24 y25 y28 y29 y30 y31 y32 y33 y34 y35 y36 y37 y38 y39 y40 y41 y42 y43 y44 y45 y46 y47 y48 y49 y50 y51 y52 y53 y54 y55 y56 y27 C' L' N' slot' wl' K' sd' o' h3 h4 hg'
      exact h _ _ _ _ _ _ _ _ _ _ _ _ _ _ _ _ _ _ _ _ _ _ _ _ _ _ _ _ _ _ _ _ _ _ _ _ _ _ _ _ _ _ _ _ _ _ _ y27 C' L' N' slot' wl' K' ((sd₂.kin F hBc).trans sd') o' (by omega) (by omega) hg'
    | true =>
      rw [tick_over hov] at h
      simp only [hov, endText] at h
      refine Can.ctl hS₂ hL₂ rfl (fun _ => stepG_cond (t := true) rfl) ?_; simp only [if_true, if_false, Bool.false_eq_true, ↓reduceIte]
      rw [give36_eq]
      refine Can.ctl hS₂ hL₂ rfl (fun _ => stepG_seq) ?_
      refine Can.code' hp hS₂ hL₂ (okFr_at (by kernel_rfl) rfl rfl ⟨_, Try.func36⟩) ?_
      intro T d W hW B hB
      simp only [headC, tailC, bodyC, give36, inner36, loop36, ticks36, body36, Try.f36, Option.getD_some]
      have g1 : W.cell? ⟨qb, 2, none⟩ = some (.string ⟨#[100, 111, 110, 101]⟩) := by rw [hW.out]; exact hO₂.q2.1
      have g2 : W.frozen? ⟨qb, 2, none⟩ = false := by rw [hW.out]; exact hO₂.q2.2
      go_wp2
      have hB := hB.out
      subst hB
      intro hc
      have hW := hW.out
      subst hW
      have K₃ := (K₂.re T d).otherCell (x := qb) (j := 2) (.string ⟨#[103, 105, 118, 101, 110, 32, 117, 112]⟩) ⟨hq.c, hq.ta, hq.sa, hq.st⟩ ⟨hc, hL₂.no⟩
      have S₃ : Kin B wl ((w₂.re T d).setCell ⟨qb, 2, none⟩ (.string ⟨#[103, 105, 118, 101, 110, 32, 117, 112]⟩)) := ((sd₂.kin F hBc).re T d).set _ hBq
      have O₃ : Own A κ B fb kb rb qb J.length ⟨#[103, 105, 118, 101, 110, 32, 117, 112]⟩ tn ((w₂.re T d).setCell ⟨qb, 2, none⟩ (.string ⟨#[103, 105, 118, 101, 110, 32, 117, 112]⟩)) :=
        ⟨⟨(cell_setCell_ne _ _ (.inl hne.1)).trans hO₂.box.b0, (cell_setCell_ne _ _ (.inl hne.1)).trans hO₂.box.b1, (cell_setCell_ne _ _ (.inl hne.1)).trans hO₂.box.b2⟩, fun j hj => let ⟨⟨v, hv⟩, hf⟩ := hO₂.res j hj; ⟨⟨v, (cell_setCell_ne _ _ (.inl hne.2)).trans hv⟩, (frozen_setCell _ _ _ _).trans hf⟩,
          ⟨(cell_setCell_ne _ _ (.inr (by simp))).trans hO₂.q0.1, (frozen_setCell _ _ _ _).trans hO₂.q0.2⟩, ⟨(cell_setCell_ne _ _ (.inr (by simp))).trans hO₂.q1.1, (frozen_setCell _ _ _ _).trans hO₂.q1.2⟩, ⟨cell_setCell_eq _ hO₂.q2.1, (frozen_setCell _ _ _ _).trans hO₂.q2.2⟩, ⟨(cell_setCell_ne _ _ (.inr (by simp))).trans hO₂.q3.1, (frozen_setCell _ _ _ _).trans hO₂.q3.2⟩⟩
      generalize (w₂.re T d).setCell ⟨qb, 2, none⟩ (.string ⟨#[103, 105, 118, 101, 110, 32, 117, 112]⟩) = w₃ at *
      have hL₃ := K₃.lay
      clear hc
      refine Can.ctl hS₂ hL₃ rfl (fun _ => stepG_seq) ?_
      refine Can.code' hp hS₂ hL₃ (okFr_at (by kernel_rfl) rfl rfl ⟨_, Try.func36⟩) ?_
      intro T d W hW B hB
      simp only [headC, tailC, bodyC, give36, inner36, loop36, ticks36, body36, Try.f36, Option.getD_some]
      have g1 : W.cell? ⟨qb, 3, none⟩ = some (.int .i64 (tn : Nat)) := by rw [hW.out]; exact O₃.q3.1
      have g2 : W.frozen? ⟨qb, 3, none⟩ = false := by rw [hW.out]; exact O₃.q3.2
      go_wp2
      have hB := hB.out
      subst hB
      intro hc
      have hW := hW.out
      subst hW
      have K₄ := (K₃.re T d).otherCell (x := qb) (j := 3) (.int .i64 (t : Nat)) ⟨hq.c, hq.ta, hq.sa, hq.st⟩ ⟨hc, hL₃.no⟩
      have S₄ : Kin B wl ((w₃.re T d).setCell ⟨qb, 3, none⟩ (.int .i64 (t : Nat))) := (S₃.re T d).set _ hBq
      have O₄ : Own A κ B fb kb rb qb J.length ⟨#[103, 105, 118, 101, 110, 32, 117, 112]⟩ t ((w₃.re T d).setCell ⟨qb, 3, none⟩ (.int .i64 (t : Nat))) :=
        ⟨⟨(cell_setCell_ne _ _ (.inl hne.1)).trans O₃.box.b0, (cell_setCell_ne _ _ (.inl hne.1)).trans O₃.box.b1, (cell_setCell_ne _ _ (.inl hne.1)).trans O₃.box.b2⟩, fun j hj => let ⟨⟨v, hv⟩, hf⟩ := O₃.res j hj; ⟨⟨v, (cell_setCell_ne _ _ (.inl hne.2)).trans hv⟩, (frozen_setCell _ _ _ _).trans hf⟩,
          ⟨(cell_setCell_ne _ _ (.inr (by simp))).trans O₃.q0.1, (frozen_setCell _ _ _ _).trans O₃.q0.2⟩, ⟨(cell_setCell_ne _ _ (.inr (by simp))).trans O₃.q1.1, (frozen_setCell _ _ _ _).trans O₃.q1.2⟩, ⟨(cell_setCell_ne _ _ (.inr (by simp))).trans O₃.q2.1, (frozen_setCell _ _ _ _).trans O₃.q2.2⟩, ⟨cell_setCell_eq _ O₃.q3.1, (frozen_setCell _ _ _ _).trans O₃.q3.2⟩⟩
      refine Can.ctl hS₂ ⟨hc, hL₃.no⟩ rfl (fun _ => stepG_exit rfl) ?_
      exact h _ _ _ _ _ _ _ _ _ _ _ _ _ _ _ _ _ _ _ _ _ _ _ _ _ _ _ _ _ _ _ _ _ _ _ _ _ _ _ _ _ _ _ _ _ _ _ _ C₂ L₂ N₂ slot₂ _ K₄ S₄ O₄ h1 (by omega) hg₂
end
end Go.Town.Kp
