/-
  tick: a worker in a tick.
  tick: a worker that has a task.
  tick: one worker.
-/
import Derived.Deep.QuietTactic
import Derived.BigQuiet
import Derived.IntWalk
import Derived.Test.YtihmcigoofhpmaaZba
set_option linter.all false
namespace Go.Town.Kp
open Go Go.Conc Go.Conc.Lib Go.ConcR.Gen Go.RowKit Go.Town Go.Proofs
open Go.ConcN (upd upd_ne upd_same)
noncomputable def body49 : Code := Try.f49.body.getD .skip
noncomputable def loop49 : Code := bodyC (bodyC (tailC 1 (headC 1 body49)))
noncomputable def inner49 : Code := bodyC (headC 2 loop49)
theorem body49_eq : body49 = .seq (headC 0 body49) (.seq (.seq (headC 0 (headC 1 body49)) (.block 0 (.loop loop49))) (tailC 2 body49)) := by kernel_rfl
theorem loop49_eq : loop49 = .seq (headC 0 loop49) (.seq (.cond (.tmp 16) .skip (.exit 0)) (.seq (.block 1 inner49) (tailC 3 loop49))) := by kernel_rfl
noncomputable def give49 : Code := match tailC 1 (headC 3 inner49) with | .cond _ c _ => c | c => c
theorem inner49_eq : inner49 = .seq (headC 0 inner49) (.seq (.seq (headC 0 (headC 1 inner49)) (.cond (.tmp 33) (.exit 1) .skip)) (.seq (headC 2 inner49) (.seq (.seq (headC 0 (headC 3 inner49)) (.cond (.tmp 47) give49 .skip)) (tailC 4 inner49)))) := by kernel_rfl
section
variable {A : At} {C : Cfg} {L : Nat → Ws} {Post : Value → World → Prop} {N k : Nat} {wl : World} {i : Nat} {cs : List Frame} {slot : Nat → Option Nat} {sum starts : Nat → Int} {b₀ : Frame} {a₀ : Act} {ops₀ : Array Oper} {i₀ : Nat} {rest₀ : List Nat} {k₀ : List Item}
variable {κ : Kr} {J : List (List Int)} {tick fb kb tc B : Nat} {ta : Option Addr} {s : St}
set_option maxRecDepth 100000 in
set_option maxHeartbeats 400000 in
theorem tick_skip {K : List Item} {z5 z7 z8 z9 za zb zc zd ze zf zg zh zi zj zk zl zm zn zo zp zq zr zs zt zu zv zw zx zy zz zA zB zC zD zE zF zG zH zI zJ zK zL zM zN : Value} (hp : OkProg Try.prog okT) (hL : Lay C wl) (hi : i < J.length) (hR : RowsIn B wl ta J) (hle : J.length ≤ 1048576) (hge : J[i].length ≤ tick)
    (h : ∀ y5 y7 y8 y9 y11 y12 y16 y17 y18 y19 y20 y21 y22 y23 y24 y25 y26 y27 y28 y29 y30 y31 y32 y33 y34 y35 y36 y37 y38 y39 y40 y41 y42 y43 y44 y45 y46 y47 y48 y49 y50 y51 y52 y53, Can Try.prog C A.c 5 Post k (Crew A.c A.rp N L) wl (G ((base 49).at ⟨#[.pointer (some ⟨A.c, 0, none⟩), .agg #[.string κ.rule.text, .int .i64 (κ.bear : Nat), .int .i64 (κ.win : Nat)], .slice ta J.length tc, .int .i64 (tick : Nat), .slice (some ⟨fb, 0, none⟩) 20 20, y5, .pointer (some ⟨kb, 0, none⟩), y7, y8, y9, .bool false, y11, y12, .slice ta J.length tc, .int .i64 (J.length : Nat), .int .i64 (i : Nat), y16, y17, y18, y19, y20, y21, y22, y23, y24, y25, y26, y27, y28, y29, y30, y31, y32, y33, y34, y35, y36, y37, y38, y39, y40, y41, y42, y43, y44, y45, y46, y47, y48, y49, y50, y51, y52, y53], []⟩ K) cs)) :
    Can Try.prog C A.c 5 Post k (Crew A.c A.rp N L) wl (G ((base 49).at ⟨#[.pointer (some ⟨A.c, 0, none⟩), .agg #[.string κ.rule.text, .int .i64 (κ.bear : Nat), .int .i64 (κ.win : Nat)], .slice ta J.length tc, .int .i64 (tick : Nat), .slice (some ⟨fb, 0, none⟩) 20 20, z5, .pointer (some ⟨kb, 0, none⟩), z7, z8, z9, .bool false, za, zb, .slice ta J.length tc, .int .i64 (J.length : Nat), .int .i64 (i : Nat), zc, zd, ze, zf, zg, zh, zi, zj, zk, zl, zm, zn, zo, zp, zq, zr, zs, zt, zu, zv, zw, zx, zy, zz, zA, zB, zC, zD, zE, zF, zG, zH, zI, zJ, zK, zL, zM, zN], []⟩ (.code inner49 :: .inBlock 1 :: K)) cs) := by
  have hS := (crew_free A.c A.rp N L).steady
  obtain ⟨tb, to, a₁, c₁, rfl, _, hcell, _⟩ := hR.at hi
  rw [inner49_eq]
  refine Can.ctl hS hL rfl (fun _ => stepG_seq) ?_
  refine Can.code' hp hS hL (okFr_at (by kernel_rfl) rfl rfl ⟨_, Try.func49⟩) ?_
  intro T d W hW B hB
  simp only [headC, tailC, bodyC, inner49, loop49, body49, give49, Try.f49, Option.getD_some]
  have h1 : W.cell? ⟨tb, to + i, none⟩ = some (.slice a₁ J[i].length c₁) := by rw [hW.out]; exact hcell
  go_wp2
  have hB := hB.out
  subst hB
  intro hc
  have hW := hW.out
  subst hW
  refine Can.re ?_ T d
  clear hc
  refine Can.ctl hS hL rfl (fun _ => stepG_seq) ?_
  refine Can.ctl hS hL rfl (fun _ => stepG_seq) ?_
  generalize hK : (Item.code (.cond (.tmp 33) (.exit 1) .skip)) :: (Item.code (.seq (headC 2 inner49) (.seq (.seq (headC 0 (headC 3 inner49)) (.cond (.tmp 47) give49 .skip)) (tailC 4 inner49)))) :: (Item.inBlock 1 :: K) = K₁
  simp only [headC, tailC, bodyC, inner49, loop49, body49, give49, Try.f49, Option.getD_some]
  refine Can.ctl hS hL rfl (fun _ => stepG_region) ?_; simp only [List.size_toArray, List.length_cons, List.length_nil, Nat.reduceAdd, Nat.zero_add, List.range, List.range.loop]
  refine Can.op (ok := okT) hS hL rfl rfl (by k_ne) (by kernel_rfl) (fun T d => ⟨.int .i64 (tick : Nat), wl.re T d, ?_, fun _ => Can.re ?_ T d⟩)
  · go_simp
  walk_nrm
  refine Can.op (ok := okT) hS hL rfl rfl (by k_ne) (by kernel_rfl) (fun T d => ⟨.slice a₁ J[i].length c₁, wl.re T d, ?_, fun _ => Can.re ?_ T d⟩)
  · go_simp
  walk_nrm
  refine Can.op (ok := okT) hS hL rfl rfl (by k_ne) (by kernel_rfl) (fun T d => ⟨.int .i64 (J[i].length : Nat), wl.re T d, ?_, fun _ => Can.re ?_ T d⟩)
  · go_simp
  walk_nrm
  refine Can.op (ok := okT) hS hL rfl rfl (by k_ne) (by kernel_rfl) (fun T d => ⟨.bool true, wl.re T d, ?_, fun _ => Can.re ?_ T d⟩)
  · have hge2 : decide (J[i].length ≤ tick) = true := by simp; omega
    go_simp
  walk_nrm
  refine Can.op (ok := okT) hS hL rfl rfl (by k_ne) (by kernel_rfl) (fun T d => ⟨.bool true, wl.re T d, ?_, fun _ => Can.re ?_ T d⟩)
  · go_simp
  walk_nrm
  refine Can.ctl hS hL rfl (fun _ => stepG_unwanted rfl rfl) ?_
  walk_nrm
  refine Can.ctl hS hL rfl (fun _ => stepG_unwanted rfl rfl) ?_
  walk_nrm
  refine Can.ctl hS hL rfl (fun _ => stepG_unwanted rfl rfl) ?_
  walk_nrm
  refine Can.ctl hS hL rfl (fun _ => stepG_unwanted rfl rfl) ?_
  walk_nrm
  refine Can.ctl hS hL rfl (fun _ => stepG_unwanted rfl rfl) ?_
  walk_nrm
  refine Can.ctl hS hL rfl (fun _ => stepG_unwanted rfl rfl) ?_
  walk_nrm
  refine Can.ctl hS hL rfl (fun _ => stepG_unwanted rfl rfl) ?_
  walk_nrm
  refine Can.ctl hS hL rfl (fun _ => stepG_unwanted rfl rfl) ?_
  walk_nrm
  refine Can.op (ok := okT) hS hL rfl rfl (by k_ne) (by kernel_rfl) (fun T d => ⟨.bool true, wl.re T d, ?_, fun _ => Can.re ?_ T d⟩)
  · go_simp
  walk_nrm
  refine Can.ctl hS hL rfl (fun _ => stepG_region_end) ?_
  subst hK
  refine Can.ctl hS hL rfl (fun _ => stepG_cond (t := true) rfl) ?_; simp only [if_true, if_false, Bool.false_eq_true, ↓reduceIte]
  refine Can.ctl hS hL rfl (fun _ => stepG_exit rfl) ?_
  exact h _ _ _ _ _ _ _ _ _ _ _ _ _ _ _ _ _ _ _ _ _ _ _ _ _ _ _ _ _ _ _ _ _ _ _ _ _ _ _ _ _ _ _ _
structure SideF (A : At) (fb : Nat) (w w' : World) : Prop where
  cells : ∀ x j v, x ≠ A.ta → x ≠ A.sa → x ≠ A.st → x ≠ fb → w.cell? ⟨x, j, none⟩ = some v → w'.cell? ⟨x, j, none⟩ = some v
  thaw : ∀ x j v, x ≠ A.c → w.cell? ⟨x, j, none⟩ = some v → w.frozen? ⟨x, j, none⟩ = false → (∃ v', w'.cell? ⟨x, j, none⟩ = some v') ∧ w'.frozen? ⟨x, j, none⟩ = false
  size : w.heap.size ≤ w'.heap.size
theorem Side.toF {A : At} {w w' : World} (h : Side A w w') (fb : Nat) : SideF A fb w w' := ⟨fun x j v h1 h2 h3 _ hv => h.cells x j v h1 h2 h3 hv, h.thaw, h.size⟩
theorem SideF.trans {A : At} {fb : Nat} {w w' w'' : World} (h : SideF A fb w w') (k : SideF A fb w' w'') : SideF A fb w w'' :=
  ⟨fun x j v h1 h2 h3 h4 hv => k.cells x j v h1 h2 h3 h4 (h.cells x j v h1 h2 h3 h4 hv), fun x j v hx hv hf => by
    obtain ⟨⟨v', hv'⟩, hf'⟩ := h.thaw x j v hx hv hf
    exact k.thaw x j v' hx hv' hf', Nat.le_trans h.size k.size⟩
theorem SideF.set (A : At) (fb : Nat) (w : World) (l : Nat) (u : Value) : SideF A fb w (w.setCell ⟨fb, l, none⟩ u) :=
  ⟨fun x j v _ _ _ h4 hv => (cell_setCell_ne w u (.inl (Ne.symm h4))).trans hv, fun x j v _ hv hf => ⟨cell?_setCell_some hv, (frozen_setCell _ _ _ _).trans hf⟩, by simp [World.setCell]⟩
def FlAt (fb : Nat) (fl : Nat → Int) (w : World) : Prop := ∀ t, t < 20 → w.cell? ⟨fb, t, none⟩ = some (.int .i64 (fl t)) ∧ w.frozen? ⟨fb, t, none⟩ = false
theorem FlAt.side {A : At} {fb : Nat} {fl : Nat → Int} {w w' : World} (h : FlAt fb fl w) (hs : Side A w w') (h0 : fb ≠ A.c) (h1 : fb ≠ A.ta) (h2 : fb ≠ A.sa) (h3 : fb ≠ A.st) : FlAt fb fl w' := fun t ht =>
  ⟨hs.cells _ _ _ h1 h2 h3 (h t ht).1, (hs.thaw _ _ _ h0 (h t ht).1 (h t ht).2).2⟩
theorem FlAt.set {fb : Nat} {fl : Nat → Int} {w : World} (h : FlAt fb fl w) (t : Nat) (v : Int) : FlAt fb (upd fl t v) (w.setCell ⟨fb, t, none⟩ (.int .i64 v)) := fun l hl => by
  refine ⟨?_, (frozen_setCell _ _ _ _).trans (h l hl).2⟩
  by_cases e : l = t
  · subst e; rw [upd_same]; exact cell_setCell_eq _ (h l hl).1
  · rw [upd_ne _ _ e]; exact (cell_setCell_ne w _ (.inr (Ne.symm e))).trans (h l hl).1
structure BoxAt (kb : Nat) (κ : Kr) (w : World) : Prop where
  b0 : w.cell? ⟨kb, 0, none⟩ = some (.string κ.rule.text)
  b1 : w.cell? ⟨kb, 1, none⟩ = some (.int .i64 (κ.bear : Nat))
  b2 : w.cell? ⟨kb, 2, none⟩ = some (.int .i64 (κ.win : Nat))
structure Far (A : At) (B fb kb : Nat) : Prop where
  f0 : fb ≠ A.c
  f1 : fb ≠ A.ta
  f2 : fb ≠ A.sa
  f3 : fb ≠ A.st
  k1 : kb ≠ A.ta
  k2 : kb ≠ A.sa
  k3 : kb ≠ A.st
  k4 : kb ≠ fb
  b1 : B ≤ A.ta
  b2 : B ≤ A.sa
  b3 : B ≤ A.st
  b4 : B ≤ fb
theorem BoxAt.side {A : At} {B fb kb : Nat} {κ : Kr} {w w' : World} (h : BoxAt kb κ w) (F : Far A B fb kb) (hs : SideF A fb w w') : BoxAt kb κ w' :=
  ⟨hs.cells _ _ _ F.k1 F.k2 F.k3 F.k4 h.b0, hs.cells _ _ _ F.k1 F.k2 F.k3 F.k4 h.b1, hs.cells _ _ _ F.k1 F.k2 F.k3 F.k4 h.b2⟩
theorem RowsIn.side {A : At} {B fb kb : Nat} {a : Option Addr} {J : List (List Int)} {w w' : World} (h : RowsIn B w a J) (F : Far A B fb kb) (hs : SideF A fb w w') : RowsIn B w' a J :=
  h.kept (fun x j v hx hv => hs.cells x j v (by have := F.b1; omega) (by have := F.b2; omega) (by have := F.b3; omega) (by have := F.b4; omega) hv) (Nat.le_refl _)
theorem Kept.otherCell (K : Kept A C L slot sum starts wl) {x j : Nat} (v : Value) (hx : x ≠ A.c ∧ x ≠ A.ta ∧ x ≠ A.sa ∧ x ≠ A.st) (hL : Lay C (wl.setCell ⟨x, j, none⟩ v)) : Kept A C L slot sum starts (wl.setCell ⟨x, j, none⟩ v) :=
  ⟨K.ok, K.mem.other v hx, let ⟨es, clock, h⟩ := K.has; ⟨es, clock, h.other ((heap_setCell_obj h.heap rfl).trans h.heap.symm)⟩, ⟨K.chans.inj, Ch.set K.chans.rp _ _, fun l x hl hx => ⟨(K.chans.xs l x hl hx).1, Ch.set (K.chans.xs l x hl hx).2 _ _⟩⟩, hL, K.posts, K.apart, K.own, K.all⟩
theorem wrap_small {x : Int} (h0 : 0 ≤ x) (h1 : x ≤ 100000000) : IntKind.i64.wrap x = x := IntWalk.i64_in x (by omega)
end
end Go.Town.Kp
namespace Go.Town.Kp
open Go Go.Conc Go.Conc.Lib Go.ConcR.Gen Go.RowKit Go.Town Go.Proofs
open Go.ConcN (upd upd_ne upd_same)
section
variable {A : At} {C : Cfg} {L : Nat → Ws} {Post : Value → World → Prop} {N k : Nat} {wl : World} {i : Nat} {cs : List Frame} {slot : Nat → Option Nat} {sum starts : Nat → Int} {b₀ : Frame} {a₀ : Act} {ops₀ : Array Oper} {i₀ : Nat} {rest₀ : List Nat} {k₀ : List Item}
variable {κ : Kr} {J : List (List Int)} {tick fb kb tc B : Nat} {ta : Option Addr} {s : St}
theorem again_eq {r : Rule} {f n : Nat} {slot slot' : Nat → Option Nat} {sum sum' starts starts' : Nat → Int} (h : Re r f n 0 slot slot' sum sum' starts starts') :
    sum' = (fun l => if again r n f l then 0 else sum l) ∧ starts' = (fun l => if again r n f l then starts l + 1 else starts l) := by
  constructor
  · funext l
    by_cases e : again r n f l = true
    · have e' := e
      simp only [again, Bool.and_eq_true, decide_eq_true_eq] at e'
      rw [(h.hit l (Nat.zero_le _) e'.1 e'.2).2.1, if_pos e]
    · rw [(h.mis l (fun ⟨_, h2, h3⟩ => e (by simp [again, h2, h3]))).2.1, if_neg e]
  · funext l
    by_cases e : again r n f l = true
    · have e' := e
      simp only [again, Bool.and_eq_true, decide_eq_true_eq] at e'
      rw [(h.hit l (Nat.zero_le _) e'.1 e'.2).2.2, if_pos e]
    · rw [(h.mis l (fun ⟨_, h2, h3⟩ => e (by simp [again, h2, h3]))).2.2, if_neg e]
theorem hits_self (r : Rule) (f : Nat) : hits r f f = true := by cases r <;> simp [hits]
set_option maxRecDepth 100000 in
set_option maxHeartbeats 400000 in
theorem tick_fault {K : List Item} {z5 z7 z8 z9 za zb zc zd ze zf zg zh zi zj zk zl zm zn zo zp zq zr zs zt zu zv zw zx zy zz zA zB zC zD zE zF zG zH zI zJ zK zL : Value} (hp : OkProg Try.prog okT) (hn : Hid (A.n = J.length)) (hN : 0 < N) (hNb : N + A.n < 2147483640) (hg : ∀ j, N ≤ j → L j = .gone) (Kp : Kept A C L slot sum starts wl) (hs : ∀ l, l < A.n → 0 ≤ starts l ∧ starts l ≤ 1000) (F : Far A B fb kb) {c : Nat} (hcb : c ≤ 1000) (hfl : ∀ t, 0 ≤ s.fl t ∧ s.fl t ≤ c) (hF : FlAt fb s.fl wl) (hBox : BoxAt kb κ wl) (ht : tick < 20) (hw0 : 0 < κ.win) (hw : κ.win ≤ 20) (hb : κ.bear ≤ 20)
    (kk0 : (κ.bear : Int) < fin (upd s.fl tick (s.fl tick + 1)) tick κ.win → ∀ wl', Kept A C L slot sum starts wl' → SideF A fb wl wl' → FlAt fb (upd s.fl tick (s.fl tick + 1)) wl' → Can Try.prog C A.c 5 Post 0 (Crew A.c A.rp N L) wl' (G (b₀.at (a₀.put ((ops₀[i₀]?).bind (·.dst)) (.bool true)) (.inRegion ops₀ rest₀ :: k₀)) cs))
    (kk1 : fin (upd s.fl tick (s.fl tick + 1)) tick κ.win ≤ (κ.bear : Int) → ∀ y5 y7 y8 y9 y11 y12 y16 y17 y18 y19 y20 y21 y22 y23 y24 y25 y26 y27 y28 y29 y30 y31 y32 y33 y34 y35 y36 y37 y38 y39 y40 y41 y42 y43 y44 y45 y46 y47 y48 y49 y50 y51 y52 y53 C' L' N' slot' sum' starts' wl', Kept A C' L' slot' sum' starts' wl' → SideF A fb wl wl' → FlAt fb (upd s.fl tick (s.fl tick + 1)) wl' → Re κ.rule i A.n 0 slot slot' sum sum' starts starts' → N ≤ N' → N' ≤ N + A.n → (∀ j, N' ≤ j → L' j = .gone) →
      Can Try.prog C' A.c 5 Post 0 (Crew A.c A.rp N' L') wl' (G ((base 49).at ⟨#[.pointer (some ⟨A.c, 0, none⟩), .agg #[.string κ.rule.text, .int .i64 (κ.bear : Nat), .int .i64 (κ.win : Nat)], .slice ta J.length tc, .int .i64 (tick : Nat), .slice (some ⟨fb, 0, none⟩) 20 20, y5, .pointer (some ⟨kb, 0, none⟩), y7, y8, y9, .bool false, y11, y12, .slice ta J.length tc, .int .i64 (J.length : Nat), .int .i64 (i : Nat), y16, y17, y18, y19, y20, y21, y22, y23, y24, y25, y26, y27, y28, y29, y30, y31, y32, y33, y34, y35, y36, y37, y38, y39, y40, y41, y42, y43, y44, y45, y46, y47, y48, y49, y50, y51, y52, y53], []⟩ K) (b₀.at a₀ (.inRegion ops₀ (i₀ :: rest₀) :: k₀) :: cs))) :
    Can Try.prog C A.c 5 Post 0 (Crew A.c A.rp N L) wl (G ((base 49).at ⟨#[.pointer (some ⟨A.c, 0, none⟩), .agg #[.string κ.rule.text, .int .i64 (κ.bear : Nat), .int .i64 (κ.win : Nat)], .slice ta J.length tc, .int .i64 (tick : Nat), .slice (some ⟨fb, 0, none⟩) 20 20, z5, .pointer (some ⟨kb, 0, none⟩), z7, z8, z9, .bool false, .int .i64 (i : Nat), za, .slice ta J.length tc, .int .i64 (J.length : Nat), .int .i64 (i : Nat), zb, zc, zd, ze, zf, zg, zh, zi, zj, zk, zl, zm, zn, zo, zp, zq, zr, .bool false, zs, zt, zu, zv, zw, zx, zy, zz, zA, zB, zC, zD, zE, zF, zG, zH, zI, zJ, zK, zL], []⟩ (.code (.cond (.tmp 33) (.exit 1) .skip) :: .code (.seq (headC 2 inner49) (.seq (.seq (headC 0 (headC 3 inner49)) (.cond (.tmp 47) give49 .skip)) (tailC 4 inner49))) :: .inBlock 1 :: K)) (b₀.at a₀ (.inRegion ops₀ (i₀ :: rest₀) :: k₀) :: cs)) := by
  have hS := (crew_free A.c A.rp N L).steady
  have hL := Kp.lay
  refine Can.ctl hS hL rfl (fun _ => stepG_cond (t := false) rfl) ?_; simp only [if_true, if_false, Bool.false_eq_true, ↓reduceIte]
  refine Can.ctl hS hL rfl (fun _ => stepG_skip) ?_
  refine Can.ctl hS hL rfl (fun _ => stepG_seq) ?_
  refine Can.code' hp hS hL (okFr_at (by kernel_rfl) rfl rfl ⟨_, Try.func49⟩) ?_
  intro T d W hW B hB
  simp only [headC, tailC, bodyC, inner49, loop49, body49, give49, Try.f49, Option.getD_some]
  have h1 : W.cell? ⟨fb, tick, none⟩ = some (.int .i64 (s.fl tick)) := by rw [hW.out]; exact (hF tick ht).1
  have h2 : W.frozen? ⟨fb, tick, none⟩ = false := by rw [hW.out]; exact (hF tick ht).2
  have h3 := hfl tick
  have h4 : 0 ≤ s.fl tick + 1 ∧ s.fl tick + 1 ≤ 200000 := by omega
  go_wp2
  have hB := hB.out
  subst hB
  intro hc
  have hW := hW.out
  subst hW
  have K₂ := (Kp.re T d).otherCell (x := fb) (j := tick) (.int .i64 (s.fl tick + 1)) ⟨F.f0, F.f1, F.f2, F.f3⟩ ⟨hc, hL.no⟩
  have S₂ : SideF A fb wl ((wl.re T d).setCell ⟨fb, tick, none⟩ (.int .i64 (s.fl tick + 1))) := (((Side.refl A wl).re T d).toF fb).trans (SideF.set ..)
  have F₂ : FlAt fb (upd s.fl tick (s.fl tick + 1)) ((wl.re T d).setCell ⟨fb, tick, none⟩ (.int .i64 (s.fl tick + 1))) := FlAt.set hF tick _
  have B₂ := hBox.side F S₂
  generalize (wl.re T d).setCell ⟨fb, tick, none⟩ (.int .i64 (s.fl tick + 1)) = w₂ at *
  have hL₂ := K₂.lay
  clear hc
  refine Can.ctl hS hL₂ rfl (fun _ => stepG_seq) ?_
  refine Can.ctl hS hL₂ rfl (fun _ => stepG_seq) ?_
  have hu : ∀ t, 0 ≤ upd s.fl tick (s.fl tick + 1) t ∧ upd s.fl tick (s.fl tick + 1) t ≤ ((c + 1 : Nat) : Int) := fun t => by
    by_cases e : t = tick
    · subst e; rw [upd_same]; have := hfl t; omega
    · rw [upd_ne _ _ e]; have := hfl t; omega
  generalize hfl' : upd s.fl tick (s.fl tick + 1) = fl' at *
  clear hfl'
  refine Can.code' hp hS hL₂ (okFr_at (by kernel_rfl) rfl rfl ⟨_, Try.func49⟩) ?_
  intro T' d' W hW B' hB'
  simp only [headC, tailC, bodyC, inner49, loop49, body49, give49, Try.f49, Option.getD_some]
  have g1 : W.cell? ⟨kb, 1, none⟩ = some (.int .i64 (κ.bear : Nat)) := by rw [hW.out]; exact B₂.b1
  have g2 : W.cell? ⟨kb, 2, none⟩ = some (.int .i64 (κ.win : Nat)) := by rw [hW.out]; exact B₂.b2
  have g3 : ∀ t, t < 20 → W.cell? ⟨fb, t, none⟩ = some (.int .i64 (fl' t)) := fun t ht => by rw [hW.out]; exact (F₂ t ht).1
  have hfin : Hid (∀ n, Calls Try.prog 46 #[.slice (some ⟨fb, 0, none⟩) 20 20, .int .i64 tick, .int .i64 κ.win] (W.drewN n) fun e w' => e = .returned (.int .i64 (fin fl' tick κ.win)) ∧ w' = W.drewN n) := ⟨fun n => (faultsIn_any fb tick κ.win (c + 1) fl' (W.drewN n) ht hw0 hw (by omega) hu g3).mono fun _ _ ⟨a, b⟩ => ⟨a, b.symm⟩⟩
  clear g3
  generalize hfv : fin fl' tick κ.win = fv at *
  have hfv' : Hid _ := ⟨hfv⟩
  clear hfv
  by_cases hov : (κ.bear : Int) < fv
  · have hov2 : decide ((κ.bear : Int) < fv) = true := by simpa using hov
    go_quiet ((go_at_call 46; exact Calls.quiet_of_same (hfin.out _)))
    have hB' := hB'.out
    subst hB'
    intro hc
    have hW := hW.out
    subst hW
    have eW : (w₂.re T' d').drewN nq = w₂.re T' (d' + nq) := rfl
    rw [eW]
    refine Can.re ?_ _ _
    clear hc eW
    refine Can.ctl hS hL₂ rfl (fun _ => stepG_cond (t := true) rfl) ?_; simp only [if_true, if_false, Bool.false_eq_true, ↓reduceIte]
    refine Can.code' hp hS hL₂ (okFr_at (by kernel_rfl) rfl rfl ⟨_, Try.func49⟩) ?_
    intro T d W hW B hB
    simp only [headC, tailC, bodyC, inner49, loop49, body49, give49, Try.f49, Option.getD_some]
    go_wp2
    have hB := hB.out
    subst hB
    intro hc todo
    have hW := hW.out
    subst hW
    refine Can.re ?_ T d
    clear hc
    refine Can.ctl hS hL₂ rfl (fun _ => st_leave1 rfl rfl Try.func49 rfl) ?_
    exact kk0 hov _ K₂ S₂ F₂
  · have hov2 : decide ((κ.bear : Int) < fv) = false := by simpa using hov
    go_quiet ((go_at_call 46; exact Calls.quiet_of_same (hfin.out _)))
    have hB' := hB'.out
    subst hB'
    intro hc
    have hW := hW.out
    subst hW
    have eW : (w₂.re T' d').drewN nq = w₂.re T' (d' + nq) := rfl
    rw [eW]
    refine Can.re ?_ _ _
    clear hc eW
    refine Can.ctl hS hL₂ rfl (fun _ => stepG_cond (t := false) rfl) ?_; simp only [if_true, if_false, Bool.false_eq_true, ↓reduceIte]
    refine Can.ctl hS hL₂ rfl (fun _ => stepG_skip) ?_
    generalize hK : Item.inBlock 1 :: K = K₁
    simp only [headC, tailC, bodyC, inner49, loop49, body49, give49, Try.f49, Option.getD_some]
    refine Can.ctl hS hL₂ rfl (fun _ => stepG_region) ?_; simp only [List.size_toArray, List.length_cons, List.length_nil, Nat.reduceAdd, Nat.zero_add, List.range, List.range.loop]
    refine Can.op (ok := okT) hS hL₂ rfl rfl (by k_ne) (by kernel_rfl) (fun T d => ⟨.pointer (some ⟨A.c, 0, none⟩), w₂.re T d, ?_, fun _ => Can.re ?_ T d⟩)
    · go_simp
    walk_nrm
    refine Can.op (ok := okT) hS hL₂ rfl rfl (by k_ne) (by kernel_rfl) (fun T d => ⟨.pointer (some ⟨kb, 0, none⟩), w₂.re T d, ?_, fun _ => Can.re ?_ T d⟩)
    · go_simp
    walk_nrm
    refine Can.op (ok := okT) hS hL₂ rfl rfl (by k_ne) (by kernel_rfl) (fun T d => ⟨.string κ.rule.text, w₂.re T d, ?_, fun _ => Can.re ?_ T d⟩)
    · have h1 : (w₂.re T d).cell? ⟨kb, 0, none⟩ = some (.string κ.rule.text) := B₂.b0
      go_simp
    walk_nrm
    refine Can.op (ok := okT) hS hL₂ rfl rfl (by k_ne) (by kernel_rfl) (fun T d => ⟨.int .i64 (i : Nat), w₂.re T d, ?_, fun _ => Can.re ?_ T d⟩)
    · go_simp
    walk_nrm
    refine Can.ctl hS hL₂ rfl (fun _ => st_restart (p := .pointer (some ⟨A.c, 0, none⟩)) (q := .string κ.rule.text) (s := .int .i64 (i : Nat)) Try.func55 rfl rfl (by k_ne) rfl (by kernel_rfl)) ?_
    refine restart hp hN hNb hg K₂ hs ?_
    intro C' L' N' slot' sum' starts' wl' K' sd re h1 h2 hg'
    walk_nrm
    have hS' := (crew_free A.c A.rp N' L').steady
    have hL' := K'.lay
    refine Can.ctl hS' hL' rfl (fun _ => stepG_region_end) ?_
    subst hK
    refine Can.ctl hS' hL' rfl (fun _ => stepG_inBlock) ?_
    exact kk1 (by omega) _ _ _ _ _ _ _ _ _ _ _ _ _ _ _ _ _ _ _ _ _ _ _ _ _ _ _ _ _ _ _ _ _ _ _ _ _ _ _ _ _ _ _ _ C' L' N' slot' sum' starts' wl' K' (S₂.trans (sd.toF fb)) (F₂.side sd F.f0 F.f1 F.f2 F.f3) re h1 h2 hg'
end
end Go.Town.Kp
namespace Go.Town.Kp
open Go Go.Conc Go.Conc.Lib Go.ConcR.Gen Go.RowKit Go.Town Go.Proofs
open Go.ConcN (upd upd_ne upd_same)
section
variable {A : At} {C : Cfg} {L : Nat → Ws} {Post : Value → World → Prop} {N k : Nat} {wl : World} {i : Nat} {cs : List Frame} {slot : Nat → Option Nat} {sum starts : Nat → Int} {b₀ : Frame} {a₀ : Act} {ops₀ : Array Oper} {i₀ : Nat} {rest₀ : List Nat} {k₀ : List Item}
variable {κ : Kr} {J : List (List Int)} {tick fb kb tc B : Nat} {ta : Option Addr} {s : St}
theorem stepW_none {κ : Kr} {J : List (List Int)} {tick i : Nat} {s : St} (hi : i < J.length) (h : J[i].length ≤ tick) : stepW κ J tick i s = s := by
  unfold stepW
  have e : J.getD i [] = J[i] := by simp [List.getD, hi]
  rw [e, List.getElem?_eq_none h]
theorem stepW_some {κ : Kr} {J : List (List Int)} {tick i : Nat} {s : St} (hi : i < J.length) (h : tick < J[i].length) : stepW κ J tick i s = stepT κ J.length tick i J[i][tick] s := by
  unfold stepW
  have e : J.getD i [] = J[i] := by simp [List.getD, hi]
  rw [e, List.getElem?_eq_getElem h]
set_option maxRecDepth 100000 in
set_option maxHeartbeats 1000000 in
theorem tick_one {K : List Item} {c : Nat} {z5 z7 z8 z9 za zb zc zd ze zf zg zh zi zj zk zl zm zn zo zp zq zr zs zt zu zv zw zx zy zz zA zB zC zD zE zF zG zH zI zJ zK zL zM zN : Value} (hp : OkProg Try.prog okT) (hn : Hid (A.n = J.length)) (hN : 0 < N) (hNb : N + A.n < 2147483640) (hg : ∀ j, N ≤ j → L j = .gone) (Kp : Kept A C L slot s.sum s.starts wl) (hall : ∀ l, l < A.n → ∃ x, slot l = some x)
    (hsm : Small c s) (hover : s.over = false) (hcb : c ≤ 900) (hJ : TasksIn J) (F : Far A B fb kb) (hF : FlAt fb s.fl wl) (hBox : BoxAt kb κ wl) (hR : RowsIn B wl ta J) (ht : tick < 20) (hw0 : 0 < κ.win) (hw : κ.win ≤ 20) (hb : κ.bear ≤ 20) (hi : i < J.length)
    (kgo : (stepW κ J tick i s).over = false → ∀ y5 y7 y8 y9 y11 y12 y16 y17 y18 y19 y20 y21 y22 y23 y24 y25 y26 y27 y28 y29 y30 y31 y32 y33 y34 y35 y36 y37 y38 y39 y40 y41 y42 y43 y44 y45 y46 y47 y48 y49 y50 y51 y52 y53 C' L' N' slot' wl', Kept A C' L' slot' (stepW κ J tick i s).sum (stepW κ J tick i s).starts wl' → SideF A fb wl wl' → FlAt fb (stepW κ J tick i s).fl wl' → (∀ l, l < A.n → ∃ x, slot' l = some x) → N ≤ N' → N' ≤ N + A.n → (∀ j, N' ≤ j → L' j = .gone) →
      Can Try.prog C' A.c 5 Post 0 (Crew A.c A.rp N' L') wl' (G ((base 49).at ⟨#[.pointer (some ⟨A.c, 0, none⟩), .agg #[.string κ.rule.text, .int .i64 (κ.bear : Nat), .int .i64 (κ.win : Nat)], .slice ta J.length tc, .int .i64 (tick : Nat), .slice (some ⟨fb, 0, none⟩) 20 20, y5, .pointer (some ⟨kb, 0, none⟩), y7, y8, y9, .bool false, y11, y12, .slice ta J.length tc, .int .i64 (J.length : Nat), .int .i64 (i : Nat), y16, y17, y18, y19, y20, y21, y22, y23, y24, y25, y26, y27, y28, y29, y30, y31, y32, y33, y34, y35, y36, y37, y38, y39, y40, y41, y42, y43, y44, y45, y46, y47, y48, y49, y50, y51, y52, y53], []⟩ K) (b₀.at a₀ (.inRegion ops₀ (i₀ :: rest₀) :: k₀) :: cs)))
    (kout : (stepW κ J tick i s).over = true → ∀ C' L' N' slot' wl', Kept A C' L' slot' (stepW κ J tick i s).sum (stepW κ J tick i s).starts wl' → SideF A fb wl wl' → FlAt fb (stepW κ J tick i s).fl wl' → N ≤ N' → N' ≤ N + A.n → (∀ j, N' ≤ j → L' j = .gone) →
      Can Try.prog C' A.c 5 Post 0 (Crew A.c A.rp N' L') wl' (G (b₀.at (a₀.put ((ops₀[i₀]?).bind (·.dst)) (.bool true)) (.inRegion ops₀ rest₀ :: k₀)) cs)) :
    Can Try.prog C A.c 5 Post 0 (Crew A.c A.rp N L) wl (G ((base 49).at ⟨#[.pointer (some ⟨A.c, 0, none⟩), .agg #[.string κ.rule.text, .int .i64 (κ.bear : Nat), .int .i64 (κ.win : Nat)], .slice ta J.length tc, .int .i64 (tick : Nat), .slice (some ⟨fb, 0, none⟩) 20 20, z5, .pointer (some ⟨kb, 0, none⟩), z7, z8, z9, .bool false, za, zb, .slice ta J.length tc, .int .i64 (J.length : Nat), .int .i64 (i : Nat), zc, zd, ze, zf, zg, zh, zi, zj, zk, zl, zm, zn, zo, zp, zq, zr, zs, zt, zu, zv, zw, zx, zy, zz, zA, zB, zC, zD, zE, zF, zG, zH, zI, zJ, zK, zL, zM, zN], []⟩ (.code inner49 :: .inBlock 1 :: K)) (b₀.at a₀ (.inRegion ops₀ (i₀ :: rest₀) :: k₀) :: cs)) := by
  have hle : J.length ≤ 1048576 := by rw [← hn.out]; exact Kp.ok.le
  have hiA : i < A.n := by rw [hn.out]; exact hi
  rcases Nat.lt_or_ge tick J[i].length with hlt | hge
  · rw [stepW_some hi hlt] at kgo kout
    have hv := hJ _ (List.getElem_mem hi) _ (List.getElem_mem hlt)
    obtain ⟨v, hvv⟩ : ∃ v, v = J[i][tick] := ⟨_, rfl⟩
    rw [← hvv] at kgo kout hv
    obtain ⟨tb, to, a₁, c₁, rfl, _, hcell, hI⟩ := hR.at hi
    obtain ⟨b₁, o₁, rfl, _, hc₁⟩ := hI.at hlt
    rw [← hvv] at hc₁
    clear hvv
    have hsum := hsm.sum i
    obtain ⟨x, hx⟩ := hall i hiA
    have hwr : IntKind.i64.wrap (s.sum i + v) = s.sum i + v := wrap_small (by omega) (by omega)
    have hS := (crew_free A.c A.rp N L).steady
    have hL := Kp.lay
    have hiI := hI
    rw [inner49_eq]
    refine Can.ctl hS hL rfl (fun _ => stepG_seq) ?_
    refine Can.code' hp hS hL (okFr_at (by kernel_rfl) rfl rfl ⟨_, Try.func49⟩) ?_
    intro T d W hW B hB
    simp only [headC, tailC, bodyC, inner49, loop49, body49, give49, Try.f49, Option.getD_some]
    have h1 : W.cell? ⟨tb, to + i, none⟩ = some (.slice (some ⟨b₁, o₁, none⟩) J[i].length c₁) := by rw [hW.out]; exact hcell
    go_wp2
    have hB := hB.out
    subst hB
    intro hc
    have hW := hW.out
    subst hW
    refine Can.re ?_ T d
    clear hc
    refine Can.ctl hS hL rfl (fun _ => stepG_seq) ?_
    refine Can.ctl hS hL rfl (fun _ => stepG_seq) ?_
    generalize hK : (Item.code (.cond (.tmp 33) (.exit 1) .skip)) :: (Item.code (.seq (headC 2 inner49) (.seq (.seq (headC 0 (headC 3 inner49)) (.cond (.tmp 47) give49 .skip)) (tailC 4 inner49)))) :: (Item.inBlock 1 :: K) = K₁
    simp only [headC, tailC, bodyC, inner49, loop49, body49, give49, Try.f49, Option.getD_some]
    refine Can.ctl hS hL rfl (fun _ => stepG_region) ?_; simp only [List.size_toArray, List.length_cons, List.length_nil, Nat.reduceAdd, Nat.zero_add, List.range, List.range.loop]
    refine Can.op (ok := okT) hS hL rfl rfl (by k_ne) (by kernel_rfl) (fun T d => ⟨.int .i64 (tick : Nat), wl.re T d, ?_, fun _ => Can.re ?_ T d⟩)
    · go_simp
    walk_nrm
    refine Can.op (ok := okT) hS hL rfl rfl (by k_ne) (by kernel_rfl) (fun T d => ⟨.slice (some ⟨b₁, o₁, none⟩) J[i].length c₁, wl.re T d, ?_, fun _ => Can.re ?_ T d⟩)
    · go_simp
    walk_nrm
    refine Can.op (ok := okT) hS hL rfl rfl (by k_ne) (by kernel_rfl) (fun T d => ⟨.int .i64 (J[i].length : Nat), wl.re T d, ?_, fun _ => Can.re ?_ T d⟩)
    · go_simp
    walk_nrm
    refine Can.op (ok := okT) hS hL rfl rfl (by k_ne) (by kernel_rfl) (fun T d => ⟨.bool false, wl.re T d, ?_, fun _ => Can.re ?_ T d⟩)
    · have hge2 : decide (J[i].length ≤ tick) = false := by simp; omega
      go_simp
    walk_nrm
    refine Can.op (ok := okT) hS hL rfl rfl (by k_ne) (by kernel_rfl) (fun T d => ⟨.bool false, wl.re T d, ?_, fun _ => Can.re ?_ T d⟩)
    · go_simp
    walk_nrm
    refine Can.op (ok := okT) hS hL rfl rfl (by k_ne) (by kernel_rfl) (fun T d => ⟨.pointer (some ⟨A.c, 0, none⟩), wl.re T d, ?_, fun _ => Can.re ?_ T d⟩)
    · go_simp
    walk_nrm
    refine Can.op (ok := okT) hS hL rfl rfl (by k_ne) (by kernel_rfl) (fun T d => ⟨.int .i64 (i : Nat), wl.re T d, ?_, fun _ => Can.re ?_ T d⟩)
    · go_simp
    walk_nrm
    refine Can.op (ok := okT) hS hL rfl rfl (by k_ne) (by kernel_rfl) (fun T d => ⟨.slice (some ⟨b₁, o₁, none⟩) J[i].length c₁, wl.re T d, ?_, fun _ => Can.re ?_ T d⟩)
    · go_simp
    walk_nrm
    refine Can.op (ok := okT) hS hL rfl rfl (by k_ne) (by kernel_rfl) (fun T d => ⟨.int .i64 (tick : Nat), wl.re T d, ?_, fun _ => Can.re ?_ T d⟩)
    · go_simp
    walk_nrm
    refine Can.op (ok := okT) hS hL rfl rfl (by k_ne) (by kernel_rfl) (fun T d => ⟨.pointer (some ⟨b₁, (o₁ + tick), none⟩), wl.re T d, ?_, fun _ => Can.re ?_ T d⟩)
    · have hlt2 : tick < J[i].length := hlt
      go_simp
    walk_nrm
    refine Can.op (ok := okT) hS hL rfl rfl (by k_ne) (by kernel_rfl) (fun T d => ⟨.int .i64 v, wl.re T d, ?_, fun _ => Can.re ?_ T d⟩)
    · have h1 : (wl.re T d).cell? ⟨b₁, o₁ + tick, none⟩ = some (.int .i64 v) := hc₁
      go_simp
    walk_nrm
    refine Can.ctl hS hL rfl (fun _ => st_do (p := .pointer (some ⟨A.c, 0, none⟩)) (q := .int .i64 (i : Nat)) (s := .int .i64 v) Try.func54 rfl rfl (by k_ne) rfl (by kernel_rfl)) ?_
    refine doTask hp Kp hiA hx hwr (fun hv0 L' w₂ K₂ sd₂ hg₂ => ?_) (fun hv0 L' w₂ K₂ sd₂ hg₂ => ?_)
    · walk_nrm
      have hS₂ := (crew_free A.c A.rp N L').steady
      have hL₂ := K₂.lay
      refine Can.op (ok := okT) hS₂ hL₂ rfl rfl (by k_ne) (by kernel_rfl) (fun T d => ⟨.bool false, w₂.re T d, ?_, fun _ => Can.re ?_ T d⟩)
      · go_simp
      walk_nrm
      refine Can.op (ok := okT) hS₂ hL₂ rfl rfl (by k_ne) (by kernel_rfl) (fun T d => ⟨.bool false, w₂.re T d, ?_, fun _ => Can.re ?_ T d⟩)
      · go_simp
      walk_nrm
      refine Can.ctl hS₂ hL₂ rfl (fun _ => stepG_region_end) ?_
      subst hK
      subst hv0
      have hst := hsm.starts
      have hT : stepT κ J.length tick i 0 s = if decide ((κ.bear : Int) < fin (upd s.fl tick (s.fl tick + 1)) tick κ.win) then ⟨s.sum, s.starts, upd s.fl tick (s.fl tick + 1), true⟩ else ⟨fun l => if again κ.rule J.length i l then 0 else s.sum l, fun l => if again κ.rule J.length i l then s.starts l + 1 else s.starts l, upd s.fl tick (s.fl tick + 1), false⟩ := by simp [stepT]
      refine tick_fault (c := c) hp hn hN hNb (fun j hj => hg₂ j (hg j hj)) K₂ (fun l _ => by have := hst l; omega) F (by omega) hsm.fl (hF.side sd₂ F.f0 F.f1 F.f2 F.f3) (hBox.side F (sd₂.toF fb)) ht hw0 hw hb (fun hov wl' K' sd' fl' => ?_) ?_
      · rw [if_pos (by simpa using hov)] at hT
        rw [hT] at kout
        exact kout rfl C L' N _ wl' K' ((sd₂.toF fb).trans sd') fl' (Nat.le_refl _) (by omega) (fun j hj => hg₂ j (hg j hj))
      · intro hov y5 y7 y8 y9 y11 y12 y16 y17 y18 y19 y20 y21 y22 y23 y24 y25 y26 y27 y28 y29 y30 y31 y32 y33 y34 y35 y36 y37 y38 y39 y40 y41 y42 y43 y44 y45 y46 y47 y48 y49 y50 y51 y52 y53 C' L'' N' slot' sum' starts' wl' K' sd' fl' re h1 h2 hg'
        rw [if_neg (by simpa using hov)] at hT
        rw [hT] at kgo
        obtain ⟨e1, e2⟩ := again_eq re
        rw [hn.out] at e1 e2
        refine kgo rfl _ _ _ _ _ _ _ _ _ _ _ _ _ _ _ _ _ _ _ _ _ _ _ _ _ _ _ _ _ _ _ _ _ _ _ _ _ _ _ _ _ _ _ _ C' L'' N' slot' wl' ?_ ((sd₂.toF fb).trans sd') fl' (fun l hl => ?_) h1 h2 hg'
        · simp only
          rw [← e1, ← e2]
          exact K'
        · by_cases hh : hits κ.rule i l = true
          · exact (re.hit l (Nat.zero_le _) hl hh).1
          · rw [(re.mis l (fun ⟨_, _, h3⟩ => hh h3)).1, upd_ne _ _ (fun e => hh (by rw [e]; exact hits_self ..))]
            exact hall l hl
    · walk_nrm
      have hS₂ := (crew_free A.c A.rp N L').steady
      have hL₂ := K₂.lay
      refine Can.op (ok := okT) hS₂ hL₂ rfl rfl (by k_ne) (by kernel_rfl) (fun T d => ⟨.bool true, w₂.re T d, ?_, fun _ => Can.re ?_ T d⟩)
      · go_simp
      walk_nrm
      refine Can.op (ok := okT) hS₂ hL₂ rfl rfl (by k_ne) (by kernel_rfl) (fun T d => ⟨.bool true, w₂.re T d, ?_, fun _ => Can.re ?_ T d⟩)
      · go_simp
      walk_nrm
      refine Can.ctl hS₂ hL₂ rfl (fun _ => stepG_region_end) ?_
      subst hK
      refine Can.ctl hS₂ hL₂ rfl (fun _ => stepG_cond (t := true) rfl) ?_; simp only [if_true, if_false, Bool.false_eq_true, ↓reduceIte]
      refine Can.ctl hS₂ hL₂ rfl (fun _ => stepG_exit rfl) ?_
      have hT : stepT κ J.length tick i v s = ⟨upd s.sum i (s.sum i + v), s.starts, s.fl, false⟩ := by simp [stepT, hv0]
      rw [hT] at kgo
      exact kgo rfl _ _ _ _ _ _ _ _ _ _ _ _ _ _ _ _ _ _ _ _ _ _ _ _ _ _ _ _ _ _ _ _ _ _ _ _ _ _ _ _ _ _ _ _ C L' N slot w₂ K₂ (sd₂.toF fb) (hF.side sd₂ F.f0 F.f1 F.f2 F.f3) hall (Nat.le_refl _) (by omega) (fun j hj => hg₂ j (hg j hj))
  · rw [stepW_none hi hge] at kgo kout
    refine tick_skip hp Kp.lay hi hR hle hge ?_
    intro y5 y7 y8 y9 y11 y12 y16 y17 y18 y19 y20 y21 y22 y23 y24 y25 y26 y27 y28 y29 y30 y31 y32 y33 y34 y35 y36 y37 y38 y39 y40 y41 y42 y43 y44 y45 y46 y47 y48 y49 y50 y51 y52 y53
    exact kgo hover _ _ _ _ _ _ _ _ _ _ _ _ _ _ _ _ _ _ _ _ _ _ _ _ _ _ _ _ _ _ _ _ _ _ _ _ _ _ _ _ _ _ _ _ C L N slot wl Kp ((Side.refl A wl).toF fb) hF hall (Nat.le_refl _) (by omega) hg
end
end Go.Town.Kp
