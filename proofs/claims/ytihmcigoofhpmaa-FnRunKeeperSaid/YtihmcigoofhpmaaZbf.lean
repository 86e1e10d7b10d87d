/-
  keep: the stops, the wait, the end.
  keep as a whole.
  A region that draws its order, in company; a lone call inside a spine.
-/
import Derived.Test.YtihmcigoofhpmaaZbe
set_option linter.all false
namespace Go.Town.Kp
open Go Go.Conc Go.Conc.Lib Go.ConcR.Gen Go.RowKit Go.Town Go.Proofs
open Go.ConcN (upd upd_ne upd_same)
noncomputable def stops36 : Code := headC 5 body36
noncomputable def lst36 : Code := bodyC (bodyC (tailC 1 stops36))
noncomputable def inn36 : Code := bodyC (headC 2 lst36)
theorem tail36_eq : tailC 5 body36 = .seq (.seq (headC 0 stops36) (.block 2 (.loop lst36))) (.seq (headC 6 body36) (tailC 7 body36)) := by kernel_rfl
theorem lst36_eq : lst36 = .seq (headC 0 lst36) (.seq (.cond (.tmp 46) .skip (.exit 2)) (.seq (.block 3 inn36) (tailC 3 lst36))) := by kernel_rfl
theorem inn36_eq : inn36 = .seq (headC 0 inn36) (tailC 1 inn36) := by kernel_rfl
def set4 (w : World) (rb : Nat) (a b c d : Value) : World := (((w.setCell ⟨rb, 0, none⟩ a).setCell ⟨rb, 1, none⟩ b).setCell ⟨rb, 2, none⟩ c).setCell ⟨rb, 3, none⟩ d
theorem set4_cells {w : World} {rb : Nat} (hw : ∀ j, j < 4 → ∃ v, w.cell? ⟨rb, j, none⟩ = some v) (a b c d : Value) : (set4 w rb a b c d).cell? ⟨rb, 0, none⟩ = some a ∧ (set4 w rb a b c d).cell? ⟨rb, 1, none⟩ = some b ∧ (set4 w rb a b c d).cell? ⟨rb, 2, none⟩ = some c ∧ (set4 w rb a b c d).cell? ⟨rb, 3, none⟩ = some d := by
  have ne : ∀ (w : World) (i j : Nat) (v : Value), i ≠ j → (w.setCell ⟨rb, i, none⟩ v).cell? ⟨rb, j, none⟩ = w.cell? ⟨rb, j, none⟩ := fun w i j v h => cell_setCell_ne w v (.inr h)
  obtain ⟨u0, h0⟩ := hw 0 (by omega)
  obtain ⟨u1, h1⟩ := hw 1 (by omega)
  obtain ⟨u2, h2⟩ := hw 2 (by omega)
  obtain ⟨u3, h3⟩ := hw 3 (by omega)
  unfold set4
  refine ⟨?_, ?_, ?_, ?_⟩
  · rw [ne _ 3 0 _ (by omega), ne _ 2 0 _ (by omega), ne _ 1 0 _ (by omega)]; exact cell_setCell_eq _ h0
  · rw [ne _ 3 1 _ (by omega), ne _ 2 1 _ (by omega)]; exact cell_setCell_eq _ ((ne _ 0 1 _ (by omega)).trans h1)
  · rw [ne _ 3 2 _ (by omega)]; exact cell_setCell_eq _ ((ne _ 1 2 _ (by omega)).trans ((ne _ 0 2 _ (by omega)).trans h2))
  · exact cell_setCell_eq _ ((ne _ 2 3 _ (by omega)).trans ((ne _ 1 3 _ (by omega)).trans ((ne _ 0 3 _ (by omega)).trans h3)))
theorem set4_far {w : World} {rb y j : Nat} {a b c d v : Value} (hy : y ≠ rb) (h : w.cell? ⟨y, j, none⟩ = some v ∧ w.frozen? ⟨y, j, none⟩ = false) : (set4 w rb a b c d).cell? ⟨y, j, none⟩ = some v ∧ (set4 w rb a b c d).frozen? ⟨y, j, none⟩ = false := by
  unfold set4
  refine ⟨?_, ?_⟩
  · rw [cell_setCell_ne _ _ (.inl (Ne.symm hy)), cell_setCell_ne _ _ (.inl (Ne.symm hy)), cell_setCell_ne _ _ (.inl (Ne.symm hy)), cell_setCell_ne _ _ (.inl (Ne.symm hy))]; exact h.1
  · rw [frozen_setCell, frozen_setCell, frozen_setCell, frozen_setCell]; exact h.2
section
variable {A : At} {C : Cfg} {L : Nat → Ws} {Post : Value → World → Prop} {N k : Nat} {wl : World} {i : Nat} {cs : List Frame} {slot : Nat → Option Nat} {sum starts : Nat → Int} {b₀ : Frame} {a₀ : Act} {ops₀ : Array Oper} {i₀ : Nat} {rest₀ : List Nat} {k₀ : List Item}
variable {fb rb qb : Nat}
set_option maxRecDepth 100000 in
set_option maxHeartbeats 400000 in
theorem keep_stops {K : List Item} (hp : OkProg Try.prog okT) (hA : A.Ok) : ∀ (m : Nat) {z0 z1 z2 z3 z4 z5 z9 za zb zc zd ze zf zg zh zi zj zk zl zm zn zo zp zq zr zs zt zu zv zw zx zy zz zA zB zC zD zE zF zG zH zK zL zM zN zO zP zQ zR zS zT zU : Value} {L : Nat → Ws} {wl : World} {i : Nat} {slot : Nat → Option Nat}, A.n - i = m → i ≤ A.n → Kept A C L slot sum starts wl → (∀ l, l < i → slot l = none) →
    (∀ y0 y1 y2 y3 y4 y5 y9 y10 y11 y12 y13 y14 y15 y16 y17 y18 y19 y20 y21 y22 y23 y24 y25 y26 y27 y28 y29 y30 y31 y32 y33 y34 y35 y36 y37 y38 y39 y40 y41 y42 y43 y44 y45 y46 y47 y48 y49 y50 y51 y52 y53 y54 y55 y56 L' slot' wl', Kept A C L' slot' sum starts wl' → Side A wl wl' → (∀ l, l < A.n → slot' l = none) → Can Try.prog C A.c 5 Post 0 (Crew A.c A.rp N L') wl' (G ((base 36).at ⟨#[y0, y1, y2, y3, y4, y5, .pointer (some ⟨rb, 0, none⟩), .pointer (some ⟨A.c, 0, none⟩), .pointer (some ⟨qb, 0, none⟩), y9, y10, y11, y12, y13, y14, y15, y16, y17, y18, y19, y20, y21, y22, y23, y24, y25, y26, y27, y28, y29, y30, y31, y32, y33, y34, y35, y36, y37, y38, y39, y40, y41, y42, y43, y44, y45, y46, y47, y48, y49, y50, y51, y52, y53, y54, y55, y56], []⟩ K) cs)) →
    Can Try.prog C A.c 5 Post 0 (Crew A.c A.rp N L) wl (G ((base 36).at ⟨#[z0, z1, z2, z3, z4, z5, .pointer (some ⟨rb, 0, none⟩), .pointer (some ⟨A.c, 0, none⟩), .pointer (some ⟨qb, 0, none⟩), z9, za, zb, zc, zd, ze, zf, zg, zh, zi, zj, zk, zl, zm, zn, zo, zp, zq, zr, zs, zt, zu, zv, zw, zx, zy, zz, zA, zB, zC, zD, zE, zF, zG, zH, .int .i64 (A.n : Nat), .int .i64 (i : Nat), zK, zL, zM, zN, zO, zP, zQ, zR, zS, zT, zU], []⟩ (.code lst36 :: .inLoop lst36 :: .inBlock 2 :: K)) cs) := by
  intro m
  induction m with
  | zero =>
    intro z0 z1 z2 z3 z4 z5 z9 za zb zc zd ze zf zg zh zi zj zk zl zm zn zo zp zq zr zs zt zu zv zw zx zy zz zA zB zC zD zE zF zG zH zK zL zM zN zO zP zQ zR zS zT zU L wl i slot hm hi Kp hnone h
    obtain rfl : i = A.n := by omega
    clear hm
    have hS := (crew_free A.c A.rp N L).steady
    have hL := Kp.lay
    have hle := hA.le
    rw [lst36_eq]
    refine Can.ctl hS hL rfl (fun _ => stepG_seq) ?_
    refine Can.code' hp hS hL (okFr_at (by kernel_rfl) rfl rfl ⟨_, Try.func36⟩) ?_
    intro T d W hW B hB
    simp only [headC, tailC, bodyC, lst36, stops36, body36, Try.f36, Option.getD_some]
    go_wp2
    have hB := hB.out
    subst hB
    intro hc
    have hW := hW.out
    subst hW
    refine Can.re ?_ T d
    clear hc
    refine Can.ctl hS hL rfl (fun _ => stepG_seq) ?_
    refine Can.ctl hS hL rfl (fun _ => stepG_cond (t := false) rfl) ?_; simp only [if_true, if_false, Bool.false_eq_true, ↓reduceIte]
    refine Can.ctl hS hL rfl (fun _ => stepG_exit rfl) ?_
    exact h _ _ _ _ _ _ _ _ _ _ _ _ _ _ _ _ _ _ _ _ _ _ _ _ _ _ _ _ _ _ _ _ _ _ _ _ _ _ _ _ _ _ _ _ _ _ _ _ _ _ _ _ _ _ L slot wl Kp (Side.refl A wl) hnone
  | succ m ih =>
    intro z0 z1 z2 z3 z4 z5 z9 za zb zc zd ze zf zg zh zi zj zk zl zm zn zo zp zq zr zs zt zu zv zw zx zy zz zA zB zC zD zE zF zG zH zK zL zM zN zO zP zQ zR zS zT zU L wl i slot hm hi Kp hnone h
    have hlt : i < A.n := by omega
    replace hm : A.n ≤ i + (m + 1) ∧ i + (m + 1) ≤ A.n := by omega
    have hS := (crew_free A.c A.rp N L).steady
    have hL := Kp.lay
    have hle := hA.le
    rw [lst36_eq]
    refine Can.ctl hS hL rfl (fun _ => stepG_seq) ?_
    refine Can.code' hp hS hL (okFr_at (by kernel_rfl) rfl rfl ⟨_, Try.func36⟩) ?_
    intro T d W hW B hB
    simp only [headC, tailC, bodyC, lst36, stops36, body36, Try.f36, Option.getD_some]
    have hlt2 : (i : Int) < (A.n : Int) := by omega
    go_wp2
    have hB := hB.out
    subst hB
    intro hc
    have hW := hW.out
    subst hW
    refine Can.re ?_ T d
    clear hc
    refine Can.ctl hS hL rfl (fun _ => stepG_seq) ?_
    refine Can.ctl hS hL rfl (fun _ => stepG_cond (t := true) rfl) ?_; simp only [if_true, if_false, Bool.false_eq_true, ↓reduceIte]
    refine Can.ctl hS hL rfl (fun _ => stepG_skip) ?_
    refine Can.ctl hS hL rfl (fun _ => stepG_seq) ?_
    refine Can.ctl hS hL rfl (fun _ => stepG_block) ?_
    rw [← lst36_eq, inn36_eq]
    refine Can.ctl hS hL rfl (fun _ => stepG_seq) ?_
    refine Can.code' hp hS hL (okFr_at (by kernel_rfl) rfl rfl ⟨_, Try.func36⟩) ?_
    intro T d W hW B hB
    simp only [headC, tailC, bodyC, inn36, lst36, stops36, body36, Try.f36, Option.getD_some]
    go_wp2
    have hB := hB.out
    subst hB
    intro hc
    have hW := hW.out
    subst hW
    refine Can.re ?_ T d
    clear hc
    generalize hK : Item.inBlock 3 :: .code (tailC 3 lst36) :: .inLoop lst36 :: .inBlock 2 :: K = K₁
    simp only [headC, tailC, bodyC, inn36, lst36, stops36, body36, Try.f36, Option.getD_some]
    refine Can.ctl hS hL rfl (fun _ => stepG_region) ?_; simp only [List.size_toArray, List.length_cons, List.length_nil, Nat.reduceAdd, Nat.zero_add, List.range, List.range.loop]
    refine Can.op (ok := okT) hS hL rfl rfl (by k_ne) (by kernel_rfl) (fun T d => ⟨.pointer (some ⟨A.c, 0, none⟩), wl.re T d, ?_, fun _ => Can.re ?_ T d⟩)
    · go_simp
    walk_nrm
    refine Can.op (ok := okT) hS hL rfl rfl (by k_ne) (by kernel_rfl) (fun T d => ⟨.int .i64 (i : Nat), wl.re T d, ?_, fun _ => Can.re ?_ T d⟩)
    · go_simp
    walk_nrm
    refine Can.ctl hS hL rfl (fun _ => st_stop (p := .pointer (some ⟨A.c, 0, none⟩)) (q := .int .i64 (i : Nat)) Try.func50 rfl rfl (by k_ne) rfl (by kernel_rfl)) ?_
    refine stop hp Kp hlt ?_
    intro L₂ w₂ K₂ sd₂ hg₂
    walk_nrm
    have hS₂ := (crew_free A.c A.rp N L₂).steady
    have hL₂ := K₂.lay
    refine Can.ctl hS₂ hL₂ rfl (fun _ => stepG_region_end) ?_
    subst hK
    refine Can.ctl hS₂ hL₂ rfl (fun _ => stepG_inBlock) ?_
    refine Can.code' hp hS₂ hL₂ (okFr_at (by kernel_rfl) rfl rfl ⟨_, Try.func36⟩) ?_
    intro T d W hW B hB
    simp only [headC, tailC, bodyC, lst36, stops36, body36, Try.f36, Option.getD_some]
    go_wp2
    have hB := hB.out
    subst hB
    intro hc
    have hW := hW.out
    subst hW
    refine Can.re ?_ T d
    clear hc
    refine Can.ctl hS₂ hL₂ rfl (fun _ => stepG_inLoop) ?_
    rw [show ((i : Int) + 1) = ((i + 1 : Nat) : Int) from by omega]
    refine ih (by omega) (by omega) K₂ (fun l hl => ?_) ?_
    · by_cases e : l = i
      · subst e; exact upd_same _ _ _
      · rw [upd_ne _ _ e]; exact hnone l (by omega)
    · intro y0 y1 y2 y3 y4 y5 y9 y10 y11 y12 y13 y14 y15 y16 y17 y18 y19 y20 y21 y22 y23 y24 y25 y26 y27 y28 y29 y30 y31 y32 y33 y34 y35 y36 y37 y38 y39 y40 y41 y42 y43 y44 y45 y46 y47 y48 y49 y50 y51 y52 y53 y54 y55 y56 L' slot' wl' K' sd' hn'
      exact h _ _ _ _ _ _ _ _ _ _ _ _ _ _ _ _ _ _ _ _ _ _ _ _ _ _ _ _ _ _ _ _ _ _ _ _ _ _ _ _ _ _ _ _ _ _ _ _ _ _ _ _ _ _ L' slot' wl' K' (sd₂.trans sd') hn'
set_option maxRecDepth 100000 in
set_option maxHeartbeats 1000000 in
theorem keep_end {Bd n at_ : Nat} {e : ByteArray} {κ : Kr} {B kb : Nat} {z0 z1 z2 z3 z4 z5 z9 za zb zc zd ze zf zg zh zi zj zk zl zm zn zo zp zq zr zs zt zu zv zw zx zy zz zA zB zC zD zE zF zG zH zI zJ zK zL zM zN zO zP zQ zR zS zT zU : Value} (hp : OkProg Try.prog okT) (Kp : Kept A C L slot sum starts wl) (hNB : N ≤ Bd) (F : Far A B fb kb) (hr : Off A fb rb) (hq : Off A fb qb) (hne : qb ≠ rb) (hBr : B ≤ rb) (hBc : B ≤ A.c) (hO : Own A κ B fb kb rb qb n e at_ wl)
    (h : ∀ wl', Lay C wl' → Kin B wl wl' → (∀ i, i < A.n → wl'.cell? ⟨A.sa, i, none⟩ = some (.int .i64 (sum i)) ∧ wl'.frozen? ⟨A.sa, i, none⟩ = false) → (∀ i, i < A.n → wl'.cell? ⟨A.st, i, none⟩ = some (.int .i64 (starts i)) ∧ wl'.frozen? ⟨A.st, i, none⟩ = false) → Can Try.prog C A.c 5 Post 0 (AloneB Bd) wl' (G (b₀.at (a₀.put ((ops₀[i₀]?).bind (·.dst)) (.agg #[.slice (some ⟨A.sa, 0, none⟩) n n, .slice (some ⟨A.st, 0, none⟩) n n, .string e, .int .i64 (at_ : Nat)])) (.inRegion ops₀ rest₀ :: k₀)) cs)) :
    Can Try.prog C A.c 5 Post 0 (Crew A.c A.rp N L) wl (G ((base 36).at ⟨#[z0, z1, z2, z3, z4, z5, .pointer (some ⟨rb, 0, none⟩), .pointer (some ⟨A.c, 0, none⟩), .pointer (some ⟨qb, 0, none⟩), z9, za, zb, zc, zd, ze, zf, zg, zh, zi, zj, zk, zl, zm, zn, zo, zp, zq, zr, zs, zt, zu, zv, zw, zx, zy, zz, zA, zB, zC, zD, zE, zF, zG, zH, zI, zJ, zK, zL, zM, zN, zO, zP, zQ, zR, zS, zT, zU], []⟩ [.code (tailC 5 body36)]) (b₀.at a₀ (.inRegion ops₀ (i₀ :: rest₀) :: k₀) :: cs)) := by
  have hS := (crew_free A.c A.rp N L).steady
  have hL := Kp.lay
  have hA := Kp.ok
  rw [tail36_eq]
  refine Can.ctl hS hL rfl (fun _ => stepG_seq) ?_
  refine Can.ctl hS hL rfl (fun _ => stepG_seq) ?_
  refine Can.code' hp hS hL (okFr_at (by kernel_rfl) rfl rfl ⟨_, Try.func36⟩) ?_
  intro T d W hW B hB
  simp only [headC, tailC, bodyC, lst36, stops36, body36, Try.f36, Option.getD_some]
  have hle := hA.le
  have g0 : W.cell? ⟨A.c, 0, none⟩ = some (.slice (some ⟨A.ta, 0, none⟩) A.n A.n) := by rw [hW.out]; exact Kp.mem.c0
  go_wp2
  have hB := hB.out
  subst hB
  intro hc
  have hW := hW.out
  subst hW
  refine Can.re ?_ T d
  clear hc
  refine Can.ctl hS hL rfl (fun _ => stepG_block) ?_
  refine Can.ctl hS hL rfl (fun _ => stepG_loop) ?_
  refine keep_stops (i := 0) hp hA A.n rfl (Nat.zero_le _) Kp (fun l hl => by omega) ?_
  intro y0 y1 y2 y3 y4 y5 y9 y10 y11 y12 y13 y14 y15 y16 y17 y18 y19 y20 y21 y22 y23 y24 y25 y26 y27 y28 y29 y30 y31 y32 y33 y34 y35 y36 y37 y38 y39 y40 y41 y42 y43 y44 y45 y46 y47 y48 y49 y50 y51 y52 y53 y54 y55 y56 L₂ slot₂ w₂ K₂ sd₂ hnone
  have hS₂ := (crew_free A.c A.rp N L₂).steady
  have hL₂ := K₂.lay
  have hO₂ := hO.side F hr hq (sd₂.toF fb)
  refine Can.ctl hS₂ hL₂ rfl (fun _ => stepG_seq) ?_
  generalize hK : [Item.code (tailC 7 body36)] = K₁
  simp only [headC, tailC, bodyC, stops36, body36, Try.f36, Option.getD_some]
  refine Can.ctl hS₂ hL₂ rfl (fun _ => stepG_region) ?_; simp only [List.size_toArray, List.length_cons, List.length_nil, Nat.reduceAdd, Nat.zero_add, List.range, List.range.loop]
  refine Can.op (ok := okT) hS₂ hL₂ rfl rfl (by k_ne) (by kernel_rfl) (fun T d => ⟨.pointer (some ⟨A.c, 0, none⟩), w₂.re T d, ?_, fun _ => Can.re ?_ T d⟩)
  · go_simp
  walk_nrm
  refine Can.op (ok := okT) hS₂ hL₂ rfl rfl (by k_ne) (by kernel_rfl) (fun T d => ⟨.pointer (some ⟨A.c, 0, none⟩), w₂.re T d, ?_, fun _ => Can.re ?_ T d⟩)
  · go_simp
  walk_nrm
  refine Can.op (ok := okT) hS₂ hL₂ rfl rfl (by k_ne) (by kernel_rfl) (fun T d => ⟨.pointer (some ⟨A.c, 5, none⟩), w₂.re T d, ?_, fun _ => Can.re ?_ T d⟩)
  · go_simp
  walk_nrm
  refine Can.ctl hS₂ hL₂ rfl (fun _ => st_wait (p := .pointer (some ⟨A.c, 5, none⟩)) Try.wgLib rfl rfl (by k_ne) rfl (by kernel_rfl)) ?_
  refine Can.waitsB (B := Bd) Try.wgLib hL₂ K₂.posts.on (fun rel ρ n hR j hj => ?_) (fun rel ρ n hR => by have := hR.1; omega) ?_
  · have hj' := hR.2.2 j hj
    cases hl : L₂ j with
    | gone => rw [hl] at hj'; exact hj'
    | live u =>
      obtain ⟨_, i, hi, hs⟩ := K₂.all j u hj (by rw [hl]; rfl)
      rw [hnone i hi] at hs; cases hs
    | tells u f =>
      obtain ⟨_, i, hi, hs⟩ := K₂.all j u hj (by rw [hl]; rfl)
      rw [hnone i hi] at hs; cases hs
  walk_nrm
  have hS₃ := steady_aloneB Bd
  refine Can.ctl hS₃ hL₂ rfl (fun _ => stepG_region_end) ?_
  subst hK
  obtain ⟨v0, r0⟩ := (hO₂.res 0 (by omega)).1
  obtain ⟨v1, r1⟩ := (hO₂.res 1 (by omega)).1
  obtain ⟨v2, r2⟩ := (hO₂.res 2 (by omega)).1
  obtain ⟨v3, r3⟩ := (hO₂.res 3 (by omega)).1
  have f0 := (hO₂.res 0 (by omega)).2
  have f1 := (hO₂.res 1 (by omega)).2
  have f2 := (hO₂.res 2 (by omega)).2
  have f3 := (hO₂.res 3 (by omega)).2
  refine Can.code' hp hS₃ hL₂ (okFr_at (by kernel_rfl) rfl rfl ⟨_, Try.func36⟩) ?_
  intro T d W hW B hB
  simp only [headC, tailC, bodyC, lst36, stops36, body36, Try.f36, Option.getD_some]
  have g0 : W.cell? ⟨qb, 0, none⟩ = _ := (by rw [hW.out]; exact hO₂.q0.1 : W.cell? ⟨qb, 0, none⟩ = some (.slice (some ⟨A.sa, 0, none⟩) n n))
  have k0 : W.cell? ⟨rb, 0, none⟩ = some v0 := by rw [hW.out]; exact r0
  have n0 : W.frozen? ⟨rb, 0, none⟩ = false := by rw [hW.out]; exact f0
  have g1 : W.cell? ⟨qb, 1, none⟩ = _ := (by rw [hW.out]; exact hO₂.q1.1 : W.cell? ⟨qb, 1, none⟩ = some (.slice (some ⟨A.st, 0, none⟩) n n))
  have k1 : W.cell? ⟨rb, 1, none⟩ = some v1 := by rw [hW.out]; exact r1
  have n1 : W.frozen? ⟨rb, 1, none⟩ = false := by rw [hW.out]; exact f1
  have g2 : W.cell? ⟨qb, 2, none⟩ = _ := (by rw [hW.out]; exact hO₂.q2.1 : W.cell? ⟨qb, 2, none⟩ = some (.string e))
  have k2 : W.cell? ⟨rb, 2, none⟩ = some v2 := by rw [hW.out]; exact r2
  have n2 : W.frozen? ⟨rb, 2, none⟩ = false := by rw [hW.out]; exact f2
  have g3 : W.cell? ⟨qb, 3, none⟩ = _ := (by rw [hW.out]; exact hO₂.q3.1 : W.cell? ⟨qb, 3, none⟩ = some (.int .i64 (at_ : Nat)))
  have k3 : W.cell? ⟨rb, 3, none⟩ = some v3 := by rw [hW.out]; exact r3
  have n3 : W.frozen? ⟨rb, 3, none⟩ = false := by rw [hW.out]; exact f3
  go_wp2
  have hB := hB.out
  subst hB
  intro hc todo
  have hW := hW.out
  subst hW
  have hrb := hr.c
  have m₂ := K₂.mem
  have far : ∀ (y j : Nat) (v : Value), y ≠ rb → (w₂.re T d).cell? ⟨y, j, none⟩ = some v ∧ (w₂.re T d).frozen? ⟨y, j, none⟩ = false → (set4 (w₂.re T d) rb (.slice (some ⟨A.sa, 0, none⟩) n n) (.slice (some ⟨A.st, 0, none⟩) n n) (.string e) (.int .i64 (at_ : Nat))).cell? ⟨y, j, none⟩ = some v ∧ (set4 (w₂.re T d) rb (.slice (some ⟨A.sa, 0, none⟩) n n) (.slice (some ⟨A.st, 0, none⟩) n n) (.string e) (.int .i64 (at_ : Nat))).frozen? ⟨y, j, none⟩ = false := fun y j v hy hv => set4_far hy hv
  have c1 := set4_cells (w := w₂.re T d) (rb := rb) (fun j hj => (hO₂.res j hj).1) (.slice (some ⟨A.sa, 0, none⟩) n n) (.slice (some ⟨A.st, 0, none⟩) n n) (.string e) (.int .i64 (at_ : Nat))
  have kin : Kin B wl (set4 (w₂.re T d) rb (.slice (some ⟨A.sa, 0, none⟩) n n) (.slice (some ⟨A.st, 0, none⟩) n n) (.string e) (.int .i64 (at_ : Nat))) :=
    ((((((sd₂.toF fb).kin F hBc).re T d).set _ hBr).set _ hBr).set _ hBr).set _ hBr
  have hc : Cut (hidOf C) (frzOf C) (set4 (w₂.re T d) rb (.slice (some ⟨A.sa, 0, none⟩) n n) (.slice (some ⟨A.st, 0, none⟩) n n) (.string e) (.int .i64 (at_ : Nat))) := hc
  refine (show Can Try.prog C A.c 5 Post 0 (AloneB Bd) (set4 (w₂.re T d) rb (.slice (some ⟨A.sa, 0, none⟩) n n) (.slice (some ⟨A.st, 0, none⟩) n n) (.string e) (.int .i64 (at_ : Nat))) _ from ?_)
  generalize set4 (w₂.re T d) rb (.slice (some ⟨A.sa, 0, none⟩) n n) (.slice (some ⟨A.st, 0, none⟩) n n) (.string e) (.int .i64 (at_ : Nat)) = w₄ at *
  have hL₄ : Lay C w₄ := ⟨hc, hL₂.no⟩
  obtain ⟨d0, d1, d2, d3⟩ := c1
  refine Can.leaves (v := .agg #[.slice (some ⟨A.sa, 0, none⟩) n n, .slice (some ⟨A.st, 0, none⟩) n n, .string e, .int .i64 (at_ : Nat)]) hS₃ hL₄ rfl rfl Try.func36 (fun T d => ?_) ?_
  · have d0 : (w₄.re T d).cell? ⟨rb, 0, none⟩ = _ := d0
    have d1 : (w₄.re T d).cell? ⟨rb, 1, none⟩ = _ := d1
    have d2 : (w₄.re T d).cell? ⟨rb, 2, none⟩ = _ := d2
    have d3 : (w₄.re T d).cell? ⟨rb, 3, none⟩ = _ := d3
    generalize w₄.re T d = w₅ at *
    simp [results, Try.results36, go_sem, d0, d1, d2, d3]
  · rw [Frame.finish_at]
    exact h w₄ hL₄ kin (fun i hi => far _ _ _ (Ne.symm hr.sa) (m₂.sums i hi)) (fun i hi => far _ _ _ (Ne.symm hr.st) (m₂.begun i hi))
end
end Go.Town.Kp
namespace Go.Town.Kp
open Go Go.Conc Go.Conc.Lib Go.ConcR.Gen Go.RowKit Go.Town Go.Proofs
open Go.ConcN (upd upd_ne upd_same)
theorem st_newCrew {P : Program} {main : Bool} {b : Frame} {a : Act} {k : List Item} {cs : List Frame} {ops : Array Oper} {i : Nat} {rest : List Nat} {o : Oper} {w : World} {args : Array Operand} {ats : Array TypeId} {p : Value} (hP : P.funcs[48]? = some Try.f48) (ho : ops[i]? = some o) (hw : Region.wanted o (yielded ops a.tmps) = true) (hk : b.kind ≠ .early) (hop : o.op = .call { callee := .value (.func 48), args := args, argTypes := ats }) (ha : args.map a.eval = #[p]) :
    stepG P main (G (b.at a (.inRegion ops (i :: rest) :: k)) cs) w = .go (G ((base 48).at ⟨#[p] ++ Array.replicate 23 undef, []⟩ [.code body48]) (b.at a (.inRegion ops (i :: rest) :: k) :: cs)) w #[] := by
  rw [st_call ho hw hk hop hP (c := body48) rfl rfl, ha]
  rfl
theorem st_keep {P : Program} {main : Bool} {b : Frame} {a : Act} {k : List Item} {cs : List Frame} {ops : Array Oper} {i : Nat} {rest : List Nat} {o : Oper} {w : World} {args : Array Operand} {ats : Array TypeId} {p q r : Value} (hP : P.funcs[36]? = some Try.f36) (ho : ops[i]? = some o) (hw : Region.wanted o (yielded ops a.tmps) = true) (hk : b.kind ≠ .early) (hop : o.op = .call { callee := .value (.func 36), args := args, argTypes := ats }) (ha : args.map a.eval = #[p, q, r]) :
    stepG P main (G (b.at a (.inRegion ops (i :: rest) :: k)) cs) w = .go (G ((base 36).at ⟨#[p, q, r] ++ Array.replicate 54 undef, []⟩ [.code body36]) (b.at a (.inRegion ops (i :: rest) :: k) :: cs)) w #[] := by
  rw [st_call ho hw hk hop hP (c := body36) rfl rfl, ha]
  rfl
section
variable {A : At} {C : Cfg} {L : Nat → Ws} {Post : Value → World → Prop} {N k : Nat} {wl : World} {i : Nat} {cs : List Frame} {slot : Nat → Option Nat} {sum starts : Nat → Int} {b₀ : Frame} {a₀ : Act} {ops₀ : Array Oper} {i₀ : Nat} {rest₀ : List Nat} {k₀ : List Item}
variable {κ : Kr} {J : List (List Int)} {tn tc : Nat} {ta : Option Addr}
set_option maxRecDepth 100000 in
set_option maxHeartbeats 1000000 in
theorem keepAll {C₀ : Cfg} {b' o' Bd : Nat} (hp : OkProg Try.prog okT) (hn4 : J.length ≤ 4) (hn1 : 0 < J.length) (hJ : TasksIn J) (hw0 : 0 < κ.win) (hw : κ.win ≤ 20) (hb : κ.bear ≤ 20) (htn : tn ≤ 20) (hBd : Bd < 2000000000) (hL : Lay C₀ wl) (hR : RowsIn wl.heap.size wl ta J)
    (h : ∀ C' b₁ sa st wl', Lay C' wl' → Kin wl.heap.size wl wl' → wl.heap.size ≤ sa → wl.heap.size ≤ st → sa ≠ st → (∀ i, i < J.length → wl'.cell? ⟨sa, i, none⟩ = some (.int .i64 ((runT κ J tn 0 St.zero).1.sum i)) ∧ wl'.frozen? ⟨sa, i, none⟩ = false) → (∀ i, i < J.length → wl'.cell? ⟨st, i, none⟩ = some (.int .i64 ((runT κ J tn 0 St.zero).1.starts i)) ∧ wl'.frozen? ⟨st, i, none⟩ = false) →
      Can Try.prog C' b₁ 5 Post 0 (AloneB (Bd + 400)) wl' (G (b₀.at (a₀.put ((ops₀[i₀]?).bind (·.dst)) (.agg #[.slice (some ⟨sa, 0, none⟩) J.length J.length, .slice (some ⟨st, 0, none⟩) J.length J.length, .string (endText (runT κ J tn 0 St.zero).1.over), .int .i64 ((runT κ J tn 0 St.zero).2 : Nat)])) (.inRegion ops₀ rest₀ :: k₀)) cs)) :
    Can Try.prog C₀ b' o' Post 0 (AloneB Bd) wl (G ((base 36).at ⟨#[.agg #[.string κ.rule.text, .int .i64 (κ.bear : Nat), .int .i64 (κ.win : Nat)], .slice ta J.length tc, .int .i64 (tn : Nat)] ++ Array.replicate 54 undef, []⟩ [.code body36]) (b₀.at a₀ (.inRegion ops₀ (i₀ :: rest₀) :: k₀) :: cs)) := by
  have hS := steady_aloneB Bd
  have ea : (#[.agg #[.string κ.rule.text, .int .i64 (κ.bear : Nat), .int .i64 (κ.win : Nat)], .slice ta J.length tc, .int .i64 (tn : Nat)] ++ Array.replicate 54 undef : Array Value) = #[.agg #[.string κ.rule.text, .int .i64 (κ.bear : Nat), .int .i64 (κ.win : Nat)], .slice ta J.length tc, .int .i64 (tn : Nat), undef, undef, undef, undef, undef, undef, undef, undef, undef, undef, undef, undef, undef, undef, undef, undef, undef, undef, undef, undef, undef, undef, undef, undef, undef, undef, undef, undef, undef, undef, undef, undef, undef, undef, undef, undef, undef, undef, undef, undef, undef, undef, undef, undef, undef, undef, undef, undef, undef, undef, undef, undef, undef, undef] := by kernel_rfl
  rw [ea, body36_eq]
  refine Can.ctl hS hL rfl (fun _ => stepG_seq) ?_
  refine Can.code' hp hS hL (okFr_at (by kernel_rfl) rfl rfl ⟨_, Try.func36⟩) ?_
  intro T d W hW B hB
  simp only [headC, tailC, bodyC, ticks36, body36, Try.f36, Option.getD_some]
  go_wp2
  have hB := hB.out
  subst hB
  intro hc
  have hW := hW.out
  subst hW
  have hsz : (wl.re T d).heap.size = wl.heap.size := rfl
  have x1 : ((wl.re T d).alloc (.cells #[.string κ.rule.text, .int .i64 (κ.bear : Nat), .int .i64 (κ.win : Nat)] 24)).heap.size = wl.heap.size + 1 := by rw [World.size_alloc, hsz]
  obtain ⟨w₁, hw₁⟩ : ∃ w, w = ((wl.re T d).alloc (.cells #[.string κ.rule.text, .int .i64 (κ.bear : Nat), .int .i64 (κ.win : Nat)] 24)).alloc (.cells #[.slice none 0 0, .slice none 0 0, .string ⟨#[]⟩, .int .i64 0] 30) := ⟨_, rfl⟩
  rw [← hw₁] at hc ⊢
  have z₁ : w₁.heap.size = wl.heap.size + 2 := by rw [hw₁, World.size_alloc, x1]
  have box₁ : BoxAt wl.heap.size κ w₁ := by
    rw [hw₁]
    exact ⟨cell_alloc (cell_new (w := wl.re T d) rfl), cell_alloc (cell_new (w := wl.re T d) rfl), cell_alloc (cell_new (w := wl.re T d) rfl)⟩
  have hb₁ : w₁.heap[wl.heap.size + 1]? = some (.cells #[.slice none 0 0, .slice none 0 0, .string ⟨#[]⟩, .int .i64 0] 30) := by rw [hw₁, ← x1]; exact alloc_self _ _
  have res₁ : ∀ j, j < 4 → ∃ v, w₁.cell? ⟨wl.heap.size + 1, j, none⟩ = some v ∧ w₁.frozen? ⟨wl.heap.size + 1, j, none⟩ = false := fun j hj => by
    match j, hj with
    | 0, _ => exact ⟨_, cell_of_block hb₁ rfl⟩
    | 1, _ => exact ⟨_, cell_of_block hb₁ rfl⟩
    | 2, _ => exact ⟨_, cell_of_block hb₁ rfl⟩
    | 3, _ => exact ⟨_, cell_of_block hb₁ rfl⟩
  have G₁ : Grown wl w₁ := by rw [hw₁]; exact (((Grown.refl wl).re T d).alloc _).alloc _
  simp only [hsz]
  clear hw₁ x1 hb₁ hsz
  have hL₁ : Lay C₀ w₁ := ⟨hc, hL.no⟩
  refine Can.ctl hS hL₁ rfl (fun _ => stepG_seq) ?_
  generalize hK : [Item.code (.seq (headC 2 body36) (.seq (headC 3 body36) (.seq (.seq (headC 0 ticks36) (.block 0 (.loop loop36))) (tailC 5 body36))))] = K₁
  simp only [headC, tailC, bodyC, ticks36, body36, Try.f36, Option.getD_some]
  refine Can.ctl hS hL₁ rfl (fun _ => stepG_region) ?_; simp only [List.size_toArray, List.length_cons, List.length_nil, Nat.reduceAdd, Nat.zero_add, List.range, List.range.loop]
  refine Can.op (ok := okT) hS hL₁ rfl rfl (by k_ne) (by kernel_rfl) (fun T d => ⟨.slice ta J.length tc, w₁.re T d, ?_, fun _ => Can.re ?_ T d⟩)
  · go_simp
  walk_nrm
  refine Can.op (ok := okT) hS hL₁ rfl rfl (by k_ne) (by kernel_rfl) (fun T d => ⟨.int .i64 (J.length : Nat), w₁.re T d, ?_, fun _ => Can.re ?_ T d⟩)
  · have hl4 : J.length ≤ 1048576 := by omega
    go_simp
  walk_nrm
  refine Can.ctl hS hL₁ rfl (fun _ => st_newCrew (p := .int .i64 (J.length : Nat)) Try.func48 rfl rfl (by k_ne) rfl (by kernel_rfl)) ?_
  refine newCrew hp hn4 (by omega) hL₁ ?_
  intro A C₂ L₂ N₂ slot₂ w₂ hAn K₂ all₂ G₂ a1 a2 a3 a4 hN₂ hNB₂ hg₂
  walk_nrm
  have hS₂ := (crew_free A.c A.rp N₂ L₂).steady
  have hL₂ := K₂.lay
  refine Can.op (ok := okT) hS₂ hL₂ rfl rfl (by k_ne) (by kernel_rfl) (fun T d => ⟨.pointer (some ⟨A.c, 0, none⟩), w₂.re T d, ?_, fun _ => Can.re ?_ T d⟩)
  · go_simp
  walk_nrm
  refine Can.ctl hS₂ hL₂ rfl (fun _ => stepG_region_end) ?_
  subst hK
  refine Can.ctl hS₂ hL₂ rfl (fun _ => stepG_seq) ?_
  refine Can.code' hp hS₂ hL₂ (okFr_at (by kernel_rfl) rfl rfl ⟨_, Try.func36⟩) ?_
  intro T d W hW B hB
  simp only [headC, tailC, bodyC, ticks36, body36, Try.f36, Option.getD_some]
  have hle := K₂.ok.le
  have g3 : W.cell? ⟨A.c, 3, none⟩ = some (.slice (some ⟨A.sa, 0, none⟩) A.n A.n) := by rw [hW.out]; exact K₂.mem.c3
  have g4 : W.cell? ⟨A.c, 4, none⟩ = some (.slice (some ⟨A.st, 0, none⟩) A.n A.n) := by rw [hW.out]; exact K₂.mem.c4
  have g3b : ∀ o, (W.alloc o).cell? ⟨A.c, 3, none⟩ = some (.slice (some ⟨A.sa, 0, none⟩) A.n A.n) := fun o => cell_alloc g3
  have g4b : ∀ o, (W.alloc o).cell? ⟨A.c, 4, none⟩ = some (.slice (some ⟨A.st, 0, none⟩) A.n A.n) := fun o => cell_alloc g4
  go_region
  have hB := hB.out
  subst hB
  intro hc
  have hW := hW.out
  subst hW
  obtain ⟨w₃, hw₃⟩ : ∃ w, w = ((w₂.re T d).alloc (.cells #[.slice (some ⟨A.sa, 0, none⟩) J.length J.length, .slice (some ⟨A.st, 0, none⟩) J.length J.length, .string ⟨#[100, 111, 110, 101]⟩, .int .i64 (tn : Nat)] 30)).drew := ⟨_, rfl⟩
  rw [← hw₃] at hc ⊢
  have hc0 : Cut (hidOf C₂) (frzOf C₂) ((w₂.re T d).alloc (.cells #[.slice (some ⟨A.sa, 0, none⟩) J.length J.length, .slice (some ⟨A.st, 0, none⟩) J.length J.length, .string ⟨#[100, 111, 110, 101]⟩, .int .i64 (tn : Nat)] 30)) := by rw [hw₃] at hc; exact ⟨hc.hid, hc.frz⟩
  have K₃ : Kept A C₂ L₂ slot₂ (fun _ => 0) (fun _ => 0) w₃ := by rw [hw₃]; exact ((K₂.re T d).alloc _ ⟨hc0, hL₂.no⟩).re _ _
  have G₃ : Grown w₂ w₃ := by rw [hw₃]; exact (((Grown.refl w₂).re T d).alloc _).re _ _
  have hb₃ : w₃.heap[w₂.heap.size]? = some (.cells #[.slice (some ⟨A.sa, 0, none⟩) J.length J.length, .slice (some ⟨A.st, 0, none⟩) J.length J.length, .string ⟨#[100, 111, 110, 101]⟩, .int .i64 (tn : Nat)] 30) := by rw [hw₃]; exact alloc_self (w₂.re T d) _
  have z₃ : w₃.heap.size = w₂.heap.size + 1 := by
    rw [hw₃]
    show ((w₂.re T d).alloc _).heap.size = _
    rw [World.size_alloc]; rfl
  have hsz : (w₂.re T d).heap.size = w₂.heap.size := rfl
  simp only [hsz]
  clear hw₃ hc0 hc g3 g4 g3b g4b hW hsz
  have z₁ : Hid _ := ⟨z₁⟩
  have z₃ : Hid _ := ⟨z₃⟩
  have hb₃ : Hid _ := ⟨hb₃⟩
  have res₁ : Hid _ := ⟨res₁⟩
  have hL₃ := K₃.lay
  have hn : Hid (A.n = J.length) := ⟨hAn⟩
  clear hAn
  refine Can.ctl hS₂ hL₃ rfl (fun _ => stepG_seq) ?_
  refine Can.code' hp hS₂ hL₃ (okFr_at (by kernel_rfl) rfl rfl ⟨_, Try.func36⟩) ?_
  intro T d W hW B hB
  simp only [headC, tailC, bodyC, ticks36, body36, Try.f36, Option.getD_some]
  have hmk : ∀ w : World, (Instr.makeSlice 28 (.int .i64 20) (.int .i64 20)).run Try.prog w = .ok (.slice (some ⟨w.heap.size, 0, none⟩) 20 20) (w.alloc (.cells (Array.replicate 20 (.int .i64 0)) 3)) := fun w => mk_ints w 20 (by omega)
  go_wp2
  have hB := hB.out
  subst hB
  intro hc
  have hW := hW.out
  subst hW
  have hsz : (w₃.re T d).heap.size = w₃.heap.size := rfl
  simp only [hsz]
  have K₄ := (K₃.re T d).alloc _ ⟨hc, hL₃.no⟩
  have G₄ : Grown w₃ ((w₃.re T d).alloc (.cells (Array.replicate 20 (.int .i64 0)) 3)) := ((Grown.refl w₃).re T d).alloc _
  have hb₄ : ((w₃.re T d).alloc (.cells (Array.replicate 20 (.int .i64 0)) 3)).heap[w₃.heap.size]? = some (.cells (Array.replicate 20 (.int .i64 0)) 3) := alloc_self (w₃.re T d) _
  generalize (w₃.re T d).alloc (.cells (Array.replicate 20 (.int .i64 0)) 3) = w₄ at *
  have F₄ : FlAt w₃.heap.size St.zero.fl w₄ := fun t ht => cell_of_block hb₄ (by simp [St.zero, ht])
  have hL₄ := K₄.lay
  have G₁₂ := G₁.trans G₂
  have G₂₄ := G₃.trans G₄
  have G₁₄ := G₁₂.trans G₂₄
  have G24 := G₂.trans G₂₄
  have zz₁ := z₁.out
  have zz₃ := z₃.out
  have lc : A.c < w₂.heap.size := block_lt K₂.mem.c0
  have lta : A.ta < w₂.heap.size := block_lt (K₂.mem.tasks 0 (by rw [hn.out]; exact hn1)).1
  have lsa : A.sa < w₂.heap.size := block_lt (K₂.mem.sums 0 (by rw [hn.out]; exact hn1)).1
  have lst : A.st < w₂.heap.size := block_lt (K₂.mem.begun 0 (by rw [hn.out]; exact hn1)).1
  have hF : Far A wl.heap.size w₃.heap.size wl.heap.size := ⟨by omega, by omega, by omega, by omega, by omega, by omega, by omega, by omega, by omega, by omega, by omega, by omega⟩
  have hr : Off A w₃.heap.size (wl.heap.size + 1) := ⟨by omega, by omega, by omega, by omega, by omega⟩
  have z2 := G₂.size
  have hq : Off A w₃.heap.size w₂.heap.size := ⟨by omega, by omega, by omega, by omega, by omega⟩
  have O₄ : Own A κ wl.heap.size w₃.heap.size wl.heap.size (wl.heap.size + 1) w₂.heap.size J.length ⟨#[100, 111, 110, 101]⟩ tn w₄ := by
    have q := fun (j : Nat) (v : Value) (hv : (#[.slice (some ⟨A.sa, 0, none⟩) J.length J.length, .slice (some ⟨A.st, 0, none⟩) J.length J.length, .string ⟨#[100, 111, 110, 101]⟩, .int .i64 (tn : Nat)] : Array Value)[j]? = some v) => cell_of_block hb₃.out hv
    have up := fun (j : Nat) (v : Value) (h : w₃.cell? ⟨w₂.heap.size, j, none⟩ = some v ∧ w₃.frozen? ⟨w₂.heap.size, j, none⟩ = false) => (⟨G₄.cells _ _ _ (by omega) h.1, G₄.thaw _ _ _ (by omega) h.1 h.2⟩ : w₄.cell? ⟨w₂.heap.size, j, none⟩ = some v ∧ w₄.frozen? ⟨w₂.heap.size, j, none⟩ = false)
    refine ⟨⟨G24.cells _ _ _ (by omega) box₁.b0, G24.cells _ _ _ (by omega) box₁.b1, G24.cells _ _ _ (by omega) box₁.b2⟩, fun j hj => ?_, up _ _ (q 0 _ rfl), up _ _ (q 1 _ rfl), up _ _ (q 2 _ rfl), up _ _ (q 3 _ rfl)⟩
    obtain ⟨v, h1, h2⟩ := res₁.out j hj
    exact ⟨⟨v, G24.cells _ _ _ (by omega) h1⟩, G24.thaw _ _ _ (by omega) h1 h2⟩
  have R₄ : RowsIn wl.heap.size w₄ ta J := hR.kept (fun x j v hx hv => G₁₄.cells x j v hx hv) (Nat.le_refl _)
  clear hc hsz hW hB
  refine Can.ctl hS₂ hL₄ rfl (fun _ => stepG_seq) ?_
  refine Can.ctl hS₂ hL₄ rfl (fun _ => stepG_seq) ?_
  refine Can.code' hp hS₂ hL₄ (okFr_at (by kernel_rfl) rfl rfl ⟨_, Try.func36⟩) ?_
  intro T d W hW B hB
  simp only [headC, tailC, bodyC, ticks36, body36, Try.f36, Option.getD_some]
  go_wp2
  have hB := hB.out
  subst hB
  intro hc
  have hW := hW.out
  subst hW
  refine Can.re ?_ T d
  clear hc
  refine Can.ctl hS₂ hL₄ rfl (fun _ => stepG_block) ?_
  refine Can.ctl hS₂ hL₄ rfl (fun _ => stepG_loop) ?_
  have hAn := hn.out
  refine keep_ticks (t := 0) (c := 0) (s := St.zero) (B := wl.heap.size) hp hn hJ hF hr hq (by omega) (by omega) ⟨by omega, by omega⟩ hw0 hw hb (by omega) (by omega) htn tn rfl (Nat.zero_le _) hN₂ (by omega) hg₂ K₄ (fun l hl => all₂ l (by omega)) Small.zero rfl (by omega) F₄ O₄ R₄ ?_
  intro y4 y5 y10 y11 y12 y13 y14 y15 y16 y17 y18 y19 y20 y21 y22 y23 y24 y25 y28 y29 y30 y31 y32 y33 y34 y35 y36 y37 y38 y39 y40 y41 y42 y43 y44 y45 y46 y47 y48 y49 y50 y51 y52 y53 y54 y55 y56 y27 C₅ L₅ N₅ slot₅ w₅ K₅ kin₅ O₅ h1 h2 hg₅
  refine keep_end (Bd := Bd + 400) hp K₅ (by omega) hF hr hq (by omega) (by omega) (by omega) O₅ ?_
  intro wl' hL' kin' hsum hst
  rw [hAn] at hsum hst
  refine h C₅ A.c A.sa A.st wl' hL' (((G₁₄.kin (Nat.le_refl _)).trans kin₅).trans kin') (by omega) (by omega) K₅.ok.d6 hsum hst
end
end Go.Town.Kp
namespace Go.Town
open Go Go.Conc Go.Conc.Lib Go.ConcR Go.ConcR.Gen
def ordersOf (ops : Array Oper) : Nat → Array Bool → List (List Nat)
  | 0, _ => [[]]
  | fuel + 1, listed => if (Region.ready .any ops listed).isEmpty then [[]] else (Region.ready .any ops listed).flatMap fun i => (ordersOf ops fuel (listed.setIfInBounds i true)).map (i :: ·)
theorem lin_mem (ops : Array Oper) : ∀ (fuel t : Nat) (listed : Array Bool), Region.linearise.go .any ops fuel t listed [] ∈ ordersOf ops fuel listed := by
  intro fuel
  induction fuel with
  | zero => intro t listed; simp [Region.linearise.go, ordersOf]
  | succ fuel ih =>
    intro t listed
    simp only [Region.linearise.go]
    change (match (Region.ready .any ops listed)[t % (Region.ready .any ops listed).length]? with
      | some i => Region.linearise.go .any ops fuel (t / (Region.ready .any ops listed).length) (listed.setIfInBounds i true) [i]
      | none => [].reverse) ∈ _
    cases hi : (Region.ready .any ops listed)[t % (Region.ready .any ops listed).length]? with
    | none =>
      have hnil : Region.ready .any ops listed = [] := by
        cases hr : Region.ready .any ops listed with
        | nil => rfl
        | cons x xs =>
          rw [hr] at hi
          have hlt : t % (x :: xs).length < (x :: xs).length := Nat.mod_lt _ (by simp)
          simp at hi
          simp at hlt
          omega
      simp [ordersOf, hnil]
    | some i =>
      have hm := List.mem_of_getElem? hi
      have hne : (Region.ready .any ops listed).isEmpty = false := by
        cases hr : Region.ready .any ops listed with
        | nil => rw [hr] at hm; cases hm
        | cons x xs => rfl
      simp only []
      rw [linearise_go_acc, List.reverse_singleton, List.singleton_append]
      simp only [ordersOf, hne, Bool.false_eq_true, if_false, List.mem_flatMap, List.mem_map]
      exact ⟨i, hm, _, ih _ _, rfl⟩
section
variable {P : Program} {C : Cfg} {b o : Nat} {Post : Value → World → Prop} {Rs : (Nat → Prop) → (Nat → Role) → Nat → Prop} {k : Nat} {wl : World}
theorem Can.drawn (hm : P.follows .mixedOrders = true) (hS : Steady Rs) (hL : Lay C wl) {b₀ : Frame} {a : Act} {id : Nat} {ops : Array Oper} {K : List Item} {cs : List Frame} {l : List (List Nat)} (hl : ordersOf ops ops.size (Array.replicate ops.size false) = l) (h : ∀ p ∈ l, Can P C b o Post k Rs wl (G (b₀.at a (.inRegion ops p :: K)) cs)) :
    Can P C b o Post k Rs wl (G (b₀.at a (.code (.region id ops true) :: K)) cs) := by
  refine .walk hS hL fun _ n U hw hsh => Walk.of_step rfl fun w₁ h₁ => ?_
  have hw₁ := hw.outside hL.cut h₁
  refine ⟨_, _, #[], stepG_region_draw, ⟨⟨Nat.le_refl _, fun _ c _ _ h => ⟨c, h, rfl, fun _ _ => rfl⟩, fun _ _ h _ => h, fun _ o h ho => ⟨o, h, ho⟩, rfl, rfl, rfl, fun e he => by simp at he⟩, fun hb => ⟨hb.os, hb.tape, hb.output, hb.size, hb.block⟩⟩, .stop fun w₂ h₂ => ⟨wl, ?_, hsh, ?_⟩⟩
  · exact Weak.outside (w := { w₁ with drawn := w₁.drawn + 1 }) ⟨hw₁.size, hw₁.obj, hw₁.os, hw₁.out, hw₁.noOdd⟩ hL.cut h₂
  · simp only [Region.schedule, hm, Bool.true_or, if_true]
    exact h _ (hl ▸ lin_mem ops _ _ _)
end
section
variable {P : Program} {main : Bool} {b : Frame} {a : Act} {k : List Item} {cs : List Frame} {ops : Array Oper} {i : Nat} {rest : List Nat} {o : Oper} {w : World} {f : FuncId} {fn : Func} {c : Code} {args : Array Operand} {ats : Array TypeId}
theorem st_enter (ho : ops[i]? = some o) (hw : Region.wanted o (yielded ops a.tmps) = true) (hk : b.kind ≠ .early) (hop : o.op = .call { callee := .value (.func f), args, argTypes := ats })
    (hf : P.funcs[f]? = some fn) (hname : (fn.name == "runtime.NumGoroutine") = false) (hb : fn.body = some c) :
    stepG P main (G (b.at a (.inRegion ops (i :: rest) :: k)) cs) w = .go (G (Frame.enter P f (args.map a.eval) .normal) (b.at a (.inRegion ops (i :: rest) :: k) :: cs)) w #[] := by
  have hb' : fn.body.isNone = false := by rw [hb]; rfl
  rw [stepG_enter ho hw hk (run_call_body hop hf hname hb')]
  have : listed P b.fn a o w = #[] := by unfold listed; rw [events_call_body hop hf hname hb']; exact seen_none P _
  rw [this]
end
end Go.Town
