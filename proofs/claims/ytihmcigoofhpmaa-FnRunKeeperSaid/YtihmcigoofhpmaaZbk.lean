/-
  The reference: a task, either way.
  The reference's run.
  The reference's run: the workers in a tick.
-/
import Derived.StillTailTactics
import Derived.Test.YtihmcigoofhpmaaZbj
set_option linter.all false
namespace Go.Town.Kp
open Go Go.Conc Go.Conc.Lib Go.ConcR.Gen Go.RowKit Go.Town Go.Proofs
open Go.ConcN (upd upd_ne upd_same)
def TaskPost (κ : Kr) (base sa st n i tick : Nat) (v : Int) (own0 : Option Nat) (F : List Nat) (s : St) (w : World) (e : Ending) (w' : World) : Prop :=
  ∃ (fa : Option Addr) (F' : List Nat) (fc : Nat), (F' = F ∨ F' = F ++ [tick]) ∧ (stepT κ n tick i v s).fl = cntF F' ∧ ((Value.slice fa F'.length fc).ownBlock = own0 ∨ ∃ g, (Value.slice fa F'.length fc).ownBlock = some g ∧ w.heap.size ≤ g) ∧ e = .returned (ROOM κ sa st n (.slice fa F'.length fc) (endS (stepT κ n tick i v s).over)) ∧ w'.ownsRow base 3 1 (.slice fa F'.length fc) F'.length (nums F') ∧ (Value.slice fa F'.length fc).ownBlock ≠ some sa ∧ (Value.slice fa F'.length fc).ownBlock ≠ some st ∧
    NumsAt w' sa (stepT κ n tick i v s).sum n ∧ NumsAt w' st (stepT κ n tick i v s).starts n ∧ Touch w.heap.size sa st own0 w w'
theorem task_any {κ : Kr} {base sa st n i tick c : Nat} {fa : Option Addr} {fc : Nat} {F : List Nat} {s : St} {v : Int} {w : World} (hv0 : 0 ≤ v) (hv1 : v ≤ 1000) (hi : i < n) (hn : n ≤ 4) (hc : c ≤ 1000) (hs : Small c s) (hS : NumsAt w sa s.sum n) (hT : NumsAt w st s.starts n) (hne : sa ≠ st)
    (hb1 : base ≤ sa) (hb2 : base ≤ st) (hbw : base ≤ w.heap.size) (hown : w.ownsRow base 3 1 (.slice fa F.length fc) F.length (nums F)) (ho1 : (Value.slice fa F.length fc).ownBlock ≠ some sa) (ho2 : (Value.slice fa F.length fc).ownBlock ≠ some st)
    (hF : ∀ f ∈ F, f ≤ tick) (ht : tick < 20) (hFl : F.length ≤ 1000) (hw0 : 0 < κ.win) (hw : κ.win ≤ 20) (hfl : s.fl = cntF F) :
    Calls Try.prog 52 #[.agg #[.string κ.rule.text, .int .i64 (κ.bear : Nat), .int .i64 (κ.win : Nat), .slice (some ⟨sa, 0, none⟩) n n, .slice (some ⟨st, 0, none⟩) n n, .slice fa F.length fc, .string ⟨#[]⟩], .int .i64 i, .int .i64 v, .int .i64 tick] w (TaskPost κ base sa st n i tick v (Value.slice fa F.length fc).ownBlock F s w) := by
  by_cases hz : v = 0
  · subst hz
    refine (task_fault hi hn hc hs hS hT hne hb1 hb2 hbw hown ho1 ho2 hF ht hFl hw0 hw hfl).mono ?_
    rintro e w' ⟨fa', fc', h1, h2, h3, h4, h5, h6, h7, h8⟩
    have e : (F ++ [tick]).length = F.length + 1 := by simp
    refine ⟨fa', F ++ [tick], fc', .inr rfl, ?_, by rw [e]; exact h1, by rw [e]; exact h2, by rw [e]; exact h3, by rw [e]; exact h4, by rw [e]; exact h5, h6, h7, h8⟩
    rw [cntF_append, ← hfl]
    simp only [stepT]
    simp only [if_true]
    split <;> rfl
  · have hT0 : stepT κ n tick i v s = ⟨upd s.sum i (s.sum i + v), s.starts, s.fl, false⟩ := by simp [stepT, hz]
    refine (task_more (c := c) (by omega) hv1 hi hn hc hs hS).mono ?_
    rintro e w' ⟨rfl, o1, o2, k, rfl⟩
    have hg : w.grownBy ((((w.setCell ⟨sa, i, none⟩ (.int .i64 (s.sum i + v))).alloc o1).alloc o2)) (some sa) :=
      ⟨rfl, rfl, rfl, by simp [World.setCell]; omega, fun r hr h1 => by
        have hlt : r < (w.setCell ⟨sa, i, none⟩ (.int .i64 (s.sum i + v))).heap.size := by simpa [World.setCell] using hr
        have hlt2 : r < ((w.setCell ⟨sa, i, none⟩ (.int .i64 (s.sum i + v))).alloc o1).heap.size := by rw [World.size_alloc]; omega
        simp only [World.alloc] at hlt2 ⊢
        rw [Array.getElem?_push_lt hlt2, Array.getElem_push_lt hlt, ← Array.getElem?_eq_getElem hlt]
        exact Below.heap_setCell _ _ _ r (fun e => h1 (by rw [e]))⟩
    refine ⟨fa, F, fc, .inl rfl, by rw [hT0]; exact hfl, .inl rfl, by rw [hT0]; rfl, ?_, ho1, ho2, ?_, ?_, ?_⟩
    · have h1 := hown.kept hg (.inr ho1)
      exact h1
    · rw [hT0]; exact (((hS.set i _).alloc o1).alloc o2).drewN k
    · rw [hT0]; exact (((hT.other _ hne).alloc o1).alloc o2).drewN k
    · exact Touch.drewN (w := w) (w' := (((w.setCell ⟨sa, i, none⟩ (.int .i64 (s.sum i + v))).alloc o1).alloc o2)) ⟨rfl, rfl, rfl, hg.size, fun r hr h1 _ _ => hg.block r hr (fun e => h1 (by simpa using e))⟩ k
end Go.Town.Kp
namespace Go.Town.Kp
open Go Go.Conc Go.Conc.Lib Go.ConcR.Gen Go.RowKit Go.Town Go.Proofs
open Go.ConcN (upd upd_ne upd_same)
theorem body39_eq : body39 = .seq (headC 0 body39) (.seq (headC 1 body39) (tailC 2 body39)) := by kernel_rfl
structure Rn (κ : Kr) (base rb bx sa st n : Nat) (fa : Option Addr) (F : List Nat) (fc : Nat) (e : ByteArray) (s : St) (w0 w : World) : Prop where
  own : w.ownsRow base 3 1 (.slice fa F.length fc) F.length (nums F)
  n1 : (Value.slice fa F.length fc).ownBlock ≠ some sa
  n2 : (Value.slice fa F.length fc).ownBlock ≠ some st
  n3 : (Value.slice fa F.length fc).ownBlock ≠ some bx
  n4 : (Value.slice fa F.length fc).ownBlock ≠ some rb
  s1 : NumsAt w sa s.sum n
  s2 : NumsAt w st s.starts n
  box : Reads w bx [.string κ.rule.text, .int .i64 (κ.bear : Nat), .int .i64 (κ.win : Nat), .slice (some ⟨sa, 0, none⟩) n n, .slice (some ⟨st, 0, none⟩) n n, .slice fa F.length fc, .string e]
  res : Reads w rb [.string ⟨#[]⟩, .int .i64 0, .int .i64 0, .slice none 0 0, .slice none 0 0, .slice none 0 0, .string ⟨#[]⟩]
  below : Below base w0 w
  fl : s.fl = cntF F
structure Rx (base rb bx sa st : Nat) : Prop where
  b1 : base ≤ rb
  b2 : base ≤ bx
  b3 : base ≤ sa
  b4 : base ≤ st
  d1 : sa ≠ st
  d2 : bx ≠ sa
  d3 : bx ≠ st
  d4 : rb ≠ sa
  d5 : rb ≠ st
  d6 : rb ≠ bx
theorem Reads.touch {z sa st x : Nat} {own : Option Nat} {w w' : World} {vs : List Value} (h : Reads w x vs) (ht : Touch z sa st own w w') (hx : x < z) (h1 : x ≠ sa) (h2 : x ≠ st) (h3 : own ≠ some x) : Reads w' x vs := fun j hj => by
  have hb := ht.block x hx h1 h2 (fun e => h3 e.symm)
  exact ⟨(World.cell?_of_block hb).trans (h j hj).1, (World.frozen?_of_block hb).trans (h j hj).2⟩
theorem Reads.set7 {w : World} {x : Nat} {vs : List Value} (h : Reads w x vs) (hl : vs.length = 7) (a b c d e f g : Value) : Reads (set7 w x a b c d e f g) x [a, b, c, d, e, f, g] := fun j hj => by
  obtain ⟨s0, s1, s2, s3, s4, s5, s6⟩ := set7_cells (w := w) (rx := x) (fun j hj => h.ex (by omega)) a b c d e f g
  refine ⟨?_, ?_⟩
  · match j, hj with
    | 0, _ => exact s0
    | 1, _ => exact s1
    | 2, _ => exact s2
    | 3, _ => exact s3
    | 4, _ => exact s4
    | 5, _ => exact s5
    | 6, _ => exact s6
  · unfold Go.Town.Kp.set7
    rw [frozen_setCell, frozen_setCell, frozen_setCell, frozen_setCell, frozen_setCell, frozen_setCell, frozen_setCell]
    exact (h j (by simp at hj; omega)).2
theorem Reads.other7 {w : World} {x y : Nat} {vs : List Value} (h : Reads w x vs) (hy : y ≠ x) (a b c d e f g : Value) : Reads (Go.Town.Kp.set7 w y a b c d e f g) x vs := fun j hj => by
  unfold Go.Town.Kp.set7
  refine ⟨?_, ?_⟩
  · rw [cell_setCell_ne _ _ (.inl hy), cell_setCell_ne _ _ (.inl hy), cell_setCell_ne _ _ (.inl hy), cell_setCell_ne _ _ (.inl hy), cell_setCell_ne _ _ (.inl hy), cell_setCell_ne _ _ (.inl hy), cell_setCell_ne _ _ (.inl hy)]
    exact (h j hj).1
  · rw [frozen_setCell, frozen_setCell, frozen_setCell, frozen_setCell, frozen_setCell, frozen_setCell, frozen_setCell]
    exact (h j hj).2
theorem NumsAt.other7 {w : World} {x y n : Nat} {f' : Nat → Int} (h : NumsAt w x f' n) (hy : y ≠ x) (a b c d e f g : Value) : NumsAt (Go.Town.Kp.set7 w y a b c d e f g) x f' n :=
  ((((((h.other a hy).other b hy).other c hy).other d hy).other e hy).other f hy).other g hy
theorem grownBy_set7 (w : World) (x : Nat) (a b c d e f g : Value) : w.grownBy (Go.Town.Kp.set7 w x a b c d e f g) (some x) := by
  have so : ∀ (w : World) (j : Nat) (v : Value), (w.setCell ⟨x, j, none⟩ v).os = w.os ∧ (w.setCell ⟨x, j, none⟩ v).tape = w.tape ∧ (w.setCell ⟨x, j, none⟩ v).output = w.output ∧ (w.setCell ⟨x, j, none⟩ v).heap.size = w.heap.size := fun w j v => ⟨rfl, rfl, rfl, by simp [World.setCell]⟩
  unfold Go.Town.Kp.set7
  refine ⟨?_, ?_, ?_, ?_, fun k _ hk => ?_⟩
  · rw [(so _ _ _).1, (so _ _ _).1, (so _ _ _).1, (so _ _ _).1, (so _ _ _).1, (so _ _ _).1, (so _ _ _).1]
  · rw [(so _ _ _).2.1, (so _ _ _).2.1, (so _ _ _).2.1, (so _ _ _).2.1, (so _ _ _).2.1, (so _ _ _).2.1, (so _ _ _).2.1]
  · rw [(so _ _ _).2.2.1, (so _ _ _).2.2.1, (so _ _ _).2.2.1, (so _ _ _).2.2.1, (so _ _ _).2.2.1, (so _ _ _).2.2.1, (so _ _ _).2.2.1]
  · rw [(so _ _ _).2.2.2, (so _ _ _).2.2.2, (so _ _ _).2.2.2, (so _ _ _).2.2.2, (so _ _ _).2.2.2, (so _ _ _).2.2.2, (so _ _ _).2.2.2]; exact Nat.le_refl _
  have hx : k ≠ x := fun e => hk (by rw [e])
  have step : ∀ (w : World) (j : Nat) (v : Value), (w.setCell ⟨x, j, none⟩ v).heap[k]? = w.heap[k]? := fun w j v => Below.heap_setCell _ _ _ k hx
  exact (step _ _ _).trans ((step _ _ _).trans ((step _ _ _).trans ((step _ _ _).trans ((step _ _ _).trans ((step _ _ _).trans (step _ _ _))))))
theorem Touch.low {z sa st base : Nat} {own : Option Nat} {w w' : World} (h : Touch z sa st own w w') (hz : base ≤ z) (h1 : base ≤ sa) (h2 : base ≤ st) (h3 : ∀ k, own = some k → base ≤ k) : Below base w w' :=
  ⟨h.os, h.tape, h.output, h.size, fun k hk => h.block k (by omega) (by omega) (by omega) (fun e => by have := h3 k e.symm; omega)⟩
theorem Rn.drew {κ : Kr} {base rb bx sa st n : Nat} {fa : Option Addr} {F : List Nat} {fc : Nat} {e : ByteArray} {s : St} {w0 w : World} (h : Rn κ base rb bx sa st n fa F fc e s w0 w) : Rn κ base rb bx sa st n fa F fc e s w0 w.drew :=
  ⟨h.own, h.n1, h.n2, h.n3, h.n4, h.s1, h.s2, h.box, h.res, below_drew h.below, h.fl⟩
theorem Rn.task {κ : Kr} {base rb bx sa st n i tick : Nat} {fa : Option Addr} {F : List Nat} {fc : Nat} {s : St} {v : Int} {w0 w w' : World} {e : Ending} (X : Rx base rb bx sa st) (R : Rn κ base rb bx sa st n fa F fc ⟨#[]⟩ s w0 w) (hbx : bx < w.heap.size) (hrb : rb < w.heap.size) (hw : base ≤ w.heap.size) (h : TaskPost κ base sa st n i tick v (Value.slice fa F.length fc).ownBlock F s w e w') :
    ∃ fa' F' fc', (F' = F ∨ F' = F ++ [tick]) ∧ e = .returned (ROOM κ sa st n (.slice fa' F'.length fc') (endS (stepT κ n tick i v s).over)) ∧ Reads w' bx [.string κ.rule.text, .int .i64 (κ.bear : Nat), .int .i64 (κ.win : Nat), .slice (some ⟨sa, 0, none⟩) n n, .slice (some ⟨st, 0, none⟩) n n, .slice fa F.length fc, .string ⟨#[]⟩] ∧ Reads w' rb [.string ⟨#[]⟩, .int .i64 0, .int .i64 0, .slice none 0 0, .slice none 0 0, .slice none 0 0, .string ⟨#[]⟩] ∧
      w.heap.size ≤ w'.heap.size ∧ Rn κ base rb bx sa st n fa' F' fc' (endS (stepT κ n tick i v s).over) (stepT κ n tick i v s) w0 (Go.Town.Kp.set7 w' bx (.string κ.rule.text) (.int .i64 (κ.bear : Nat)) (.int .i64 (κ.win : Nat)) (.slice (some ⟨sa, 0, none⟩) n n) (.slice (some ⟨st, 0, none⟩) n n) (.slice fa' F'.length fc') (.string (endS (stepT κ n tick i v s).over))) := by
  obtain ⟨fa', F', fc', h1, h2, h3, h4, h5, h6, h7, h8, h9, h10⟩ := h
  have hlow : ∀ k, (Value.slice fa F.length fc).ownBlock = some k → base ≤ k := fun k hk => (R.own.lt k hk).1
  have box' := R.box.touch h10 hbx X.d2 X.d3 R.n3
  have res' := R.res.touch h10 hrb X.d4 X.d5 R.n4
  have far : ∀ y, (Value.slice fa F.length fc).ownBlock ≠ some y → y < w.heap.size → (Value.slice fa' F'.length fc').ownBlock ≠ some y := fun y hy hlt e => by
    rcases h3 with h3 | ⟨g, h3, hg⟩
    · exact hy (h3.symm.trans e)
    · rw [h3] at e; cases e; omega
  have n3 := far bx R.n3 hbx
  have n4 := far rb R.n4 hrb
  refine ⟨fa', F', fc', h1, h4, box', res', h10.size, ?_⟩
  refine ⟨?_, h6, h7, n3, n4, h8.other7 X.d2 _ _ _ _ _ _ _, h9.other7 X.d3 _ _ _ _ _ _ _, box'.set7 rfl _ _ _ _ _ _ _, res'.other7 (Ne.symm X.d6) _ _ _ _ _ _ _, ?_, h2⟩
  · exact h5.kept (grownBy_set7 ..) (.inr n3)
  · exact (R.below.trans (h10.low hw X.b3 X.b4 hlow)).grown (grownBy_set7 ..) (by have := h10.size; omega) (fun q hq => by cases hq; exact X.b2)
end Go.Town.Kp
namespace Go.Town.Kp
open Go Go.Conc Go.Conc.Lib Go.ConcR.Gen Go.RowKit Go.Town Go.Proofs
open Go.ConcN (upd upd_ne upd_same)
noncomputable def ticks39 : Code := bodyC (bodyC (tailC 1 (headC 2 body39)))
noncomputable def inner39 : Code := bodyC (headC 1 ticks39)
noncomputable def wloop39 : Code := bodyC (tailC 1 inner39)
set_option maxRecDepth 100000 in
set_option maxHeartbeats 8000000 in
theorem run_workers {κ : Kr} {J : List (List Int)} {ta : Option Addr} {tc tn kb rb bx sa st base t : Nat} {w0 : World} {Q : Exit → Act → World → Prop} (X : Rx base rb bx sa st) (hJ : TasksIn J) (hn4 : J.length ≤ 4) (hlen : ∀ l ∈ J, l.length ≤ 1048576) (ht : t < 20) (hw0 : 0 < κ.win) (hw : κ.win ≤ 20)
    {fa₀ : Option Addr} {F₀ : List Nat} {fc₀ c : Nat} {s₀ : St} {w₁ : World} {z4 z5 za zb zc zd ze zf zg zh zi zj zk zl zm zn zo zp zq zr zs zt zu zv zw zx zy zz zA zB zC zD zE zF zG zH zI zJ zK zL zM zN zO zP zQ zR zS zT : Value} (hover : s₀.over = false) (hsm : Small c s₀) (hc : c + 4 ≤ 1000) (hF : ∀ f ∈ F₀, f ≤ t) (hFl : F₀.length + 4 ≤ 1000) (hbx : bx < w₁.heap.size) (hrb : rb < w₁.heap.size) (hbw : base ≤ w₁.heap.size) (hRows : ∀ w', Below base w0 w' → RowsIn base w' ta J)
    (R₀ : Rn κ base rb bx sa st J.length fa₀ F₀ fc₀ ⟨#[]⟩ s₀ w0 w₁)
    (hgo : (tickW κ J t s₀).over = false → ∀ y10 y25 y26 y27 y28 y29 y30 y31 y32 y33 y34 y35 y36 y37 y38 y39 y40 y41 y42 y43 y44 y45 y46 y47 y48 y49 y50 y51 y52 y53 fa F fc w', Rn κ base rb bx sa st J.length fa F fc ⟨#[]⟩ (tickW κ J t s₀) w0 w' → (∀ f ∈ F, f ≤ t) → F.length ≤ F₀.length + J.length → w₁.heap.size ≤ w'.heap.size → Q (.exit 2) ⟨#[.agg #[.string κ.rule.text, .int .i64 (κ.bear : Nat), .int .i64 (κ.win : Nat)], .slice ta J.length tc, .int .i64 (tn : Nat), .pointer (some ⟨kb, 0, none⟩), z4, z5, .pointer (some ⟨rb, 0, none⟩), .int .i64 0, .pointer (some ⟨bx, 0, none⟩), .int .i64 (t : Nat), y10, za, zb, zc, zd, ze, zf, zg, zh, zi, zj, zk, zl, zm, zn, y25, y26, y27, y28, y29, y30, y31, y32, y33, y34, y35, y36, y37, y38, y39, y40, y41, y42, y43, y44, y45, y46, y47, y48, y49, y50, y51, y52, y53, zR, zS, zT], []⟩ w')
    (hout : (tickW κ J t s₀).over = true → ∀ y10 y25 y26 y27 y28 y29 y30 y31 y32 y33 y34 y35 y36 y37 y38 y39 y40 y41 y42 y43 y44 y45 y46 y47 y48 y49 y50 y51 y52 y53 fa F fc w', Rn κ base rb bx sa st J.length fa F fc ⟨#[103, 105, 118, 101, 110, 32, 117, 112]⟩ (tickW κ J t s₀) w0 w' → Q .ret ⟨#[.agg #[.string κ.rule.text, .int .i64 (κ.bear : Nat), .int .i64 (κ.win : Nat)], .slice ta J.length tc, .int .i64 (tn : Nat), .pointer (some ⟨kb, 0, none⟩), z4, z5, .pointer (some ⟨rb, 0, none⟩), .int .i64 (t : Nat), .pointer (some ⟨bx, 0, none⟩), .int .i64 (t : Nat), y10, za, zb, zc, zd, ze, zf, zg, zh, zi, zj, zk, zl, zm, zn, y25, y26, y27, y28, y29, y30, y31, y32, y33, y34, y35, y36, y37, y38, y39, y40, y41, y42, y43, y44, y45, y46, y47, y48, y49, y50, y51, y52, y53, zR, zS, zT], []⟩ (Go.Town.Kp.set7 w' rb (.string κ.rule.text) (.int .i64 (κ.bear : Nat)) (.int .i64 (κ.win : Nat)) (.slice (some ⟨sa, 0, none⟩) J.length J.length) (.slice (some ⟨st, 0, none⟩) J.length J.length) (.slice fa F.length fc) (.string ⟨#[103, 105, 118, 101, 110, 32, 117, 112]⟩))) :
    wloop39.wp Try.prog Q ⟨#[.agg #[.string κ.rule.text, .int .i64 (κ.bear : Nat), .int .i64 (κ.win : Nat)], .slice ta J.length tc, .int .i64 (tn : Nat), .pointer (some ⟨kb, 0, none⟩), z4, z5, .pointer (some ⟨rb, 0, none⟩), .int .i64 0, .pointer (some ⟨bx, 0, none⟩), .int .i64 (t : Nat), .int .i64 0, za, zb, zc, zd, ze, zf, zg, zh, zi, zj, zk, zl, zm, zn, zo, zp, zq, zr, zs, zt, zu, zv, zw, zx, zy, zz, zA, zB, zC, zD, zE, zF, zG, zH, zI, zJ, zK, zL, zM, zN, zO, zP, zQ, zR, zS, zT], []⟩ w₁ := by
  simp only [wloop39, inner39, ticks39, bodyC, headC, tailC, body39, Try.f39, Option.getD_some]
  replace hgo : Hid _ := ⟨hgo⟩
  replace hout : Hid _ := ⟨hout⟩
  have hd1 : Hid _ := ⟨X⟩
  have hd2 : Hid _ := ⟨hJ⟩
  have hd3 : Hid _ := ⟨hlen⟩
  have hd4 : Hid _ := ⟨hRows⟩
  have hd5 : Hid _ := ⟨hover⟩
  clear hJ hlen hRows hover
  go_loopw [7, 10] (fun r v wr => ∃ (i : Nat) (fa : Option Addr) (F : List Nat) (fc : Nat) (s : St), i ≤ J.length ∧ r = .int .i64 0 ∧ v = .int .i64 i ∧ Rn κ base rb bx sa st J.length fa F fc ⟨#[]⟩ s w0 wr ∧ Hid (tickW κ J t s₀ = runW κ J t (J.length - i) i s) ∧ Hid (s.over = false) ∧ Small (c + i) s ∧ (∀ f ∈ F, f ≤ t) ∧ F.length ≤ F₀.length + i ∧ w₁.heap.size ≤ wr.heap.size) (fun _ v _ => J.length - (intOf v).toNat)
  case atStart => exact ⟨0, fa₀, F₀, fc₀, s₀, Nat.zero_le _, rfl, rfl, R₀, ⟨rfl⟩, hd5, hsm, hF, by omega, Nat.le_refl _⟩
  case round =>
    obtain ⟨i, fa, F, fc, s, hi, rfl, rfl, R, hT, ho, hs, hFt, hFn, hsz⟩ := hrel
    by_cases hlt : i < J.length
    · have hlt' : (i : Int) < (J.length : Int) := by omega
      have hrow := hd4.out wr R.below
      obtain ⟨b, off, a', c', rfl, hb, hck, hI⟩ := hrow.at hlt
      have hml : J[i].length ≤ 1048576 := hd3.out _ (List.getElem_mem hlt)
      have hrun : Hid (runW κ J t (J.length - i) i s = if (stepW κ J t i s).over then stepW κ J t i s else runW κ J t (J.length - (i + 1)) (i + 1) (stepW κ J t i s)) := ⟨by
        rw [show J.length - i = (J.length - (i + 1)) + 1 by omega]
        conv => lhs; unfold runW⟩
      have hs2 := hs.one κ hd2.out t i
      have b0 : wr.cell? ⟨bx, 0, none⟩ = some (.string κ.rule.text) := (R.box 0 (by simp)).1
      have b1 : wr.cell? ⟨bx, 1, none⟩ = some (.int .i64 (κ.bear : Nat)) := (R.box 1 (by simp)).1
      have b2 : wr.cell? ⟨bx, 2, none⟩ = some (.int .i64 (κ.win : Nat)) := (R.box 2 (by simp)).1
      have b3 : wr.cell? ⟨bx, 3, none⟩ = some (.slice (some ⟨sa, 0, none⟩) J.length J.length) := (R.box 3 (by simp)).1
      have b4 : wr.cell? ⟨bx, 4, none⟩ = some (.slice (some ⟨st, 0, none⟩) J.length J.length) := (R.box 4 (by simp)).1
      have b5 : wr.cell? ⟨bx, 5, none⟩ = some (.slice fa F.length fc) := (R.box 5 (by simp)).1
      have b6 : wr.cell? ⟨bx, 6, none⟩ = some (.string ⟨#[]⟩) := (R.box 6 (by simp)).1
      by_cases hge : J[i].length ≤ t
      · have hst : Hid (stepW κ J t i s = s) := ⟨stepW_none hlt hge⟩
        have hge' : ¬ (t : Int) < (J[i].length : Int) := by omega
        go_wp2
        go_roundw
        case rel => exact ⟨i + 1, fa, F, fc, s, by omega, rfl, by go_num, R, ⟨by rw [hT.out, hrun.out, hst.out, ho.out]; simp⟩, ho, hs.mono (by omega), hFt, by omega, hsz⟩
        case measure => simp [intOf]; omega
      · have hlt2 : t < J[i].length := by omega
        have hlt2' : (t : Int) < (J[i].length : Int) := by omega
        have hst : Hid (stepW κ J t i s = stepT κ J.length t i J[i][t] s) := ⟨stepW_some hlt hlt2⟩
        have hv := hd2.out _ (List.getElem_mem hlt) _ (List.getElem_mem hlt2)
        obtain ⟨b₂, off₂, rfl, hb₂, hck₂⟩ := hI.at hlt2
        have c52 : Hid (∀ W, W = wr.drew → Calls Try.prog 52 #[.agg #[.string κ.rule.text, .int .i64 (κ.bear : Nat), .int .i64 (κ.win : Nat), .slice (some ⟨sa, 0, none⟩) J.length J.length, .slice (some ⟨st, 0, none⟩) J.length J.length, .slice fa F.length fc, .string ⟨#[]⟩], .int .i64 i, .int .i64 J[i][t], .int .i64 t] W (TaskPost κ base sa st J.length i t J[i][t] (Value.slice fa F.length fc).ownBlock F s W)) := ⟨fun W hW => by
          rw [hW]
          exact task_any (c := c + i) hv.1 hv.2 hlt hn4 (by omega) hs R.drew.s1 R.drew.s2 X.d1 X.b3 X.b4 (by show base ≤ wr.heap.size; omega) R.drew.own R.n1 R.n2 hFt ht (by omega) hw0 hw R.fl⟩
        generalize J[i][t] = v at *
        go_wp2
        go_still_tail 10, (by kernel_rfl)
        change wpList _ _ _ _ _ wr.drew
        have R1 := R.drew
        have z1 : wr.drew.heap.size = wr.heap.size := rfl
        replace z1 : Hid _ := ⟨z1⟩
        obtain ⟨wd, hwd⟩ : ∃ x, Hid (x = wr.drew) := ⟨_, ⟨rfl⟩⟩
        rw [← hwd.out] at R1 z1 ⊢
        have c52' := c52.out wd hwd.out
        replace c52' : Hid _ := ⟨c52'⟩
        clear c52 b0 b1 b2 b3 b4 b5 b6 R hrow hI hck hck₂
        go_wp2_with fail
        refine c52'.out.mono ?_
        rintro e w' hpost
        have zz1 := z1.out
        obtain ⟨fa', F', fc', hF', he, box', res', hsz', R'⟩ := Rn.task X R1 (by omega) (by omega) (by omega) hpost
        clear zz1 hpost
        have he : e = .returned (.agg #[.string κ.rule.text, .int .i64 (κ.bear : Nat), .int .i64 (κ.win : Nat), .slice (some ⟨sa, 0, none⟩) J.length J.length, .slice (some ⟨st, 0, none⟩) J.length J.length, .slice fa' F'.length fc', .string (endS (stepT κ J.length t i v s).over)]) := he
        subst he
        have x0 : w'.cell? ⟨bx, 0, none⟩ = some (.string κ.rule.text) := (box' 0 (by simp)).1
        have fx0 : w'.frozen? ⟨bx, 0, none⟩ = false := (box' 0 (by simp)).2
        have x1 : w'.cell? ⟨bx, 1, none⟩ = some (.int .i64 (κ.bear : Nat)) := (box' 1 (by simp)).1
        have fx1 : w'.frozen? ⟨bx, 1, none⟩ = false := (box' 1 (by simp)).2
        have x2 : w'.cell? ⟨bx, 2, none⟩ = some (.int .i64 (κ.win : Nat)) := (box' 2 (by simp)).1
        have fx2 : w'.frozen? ⟨bx, 2, none⟩ = false := (box' 2 (by simp)).2
        have x3 : w'.cell? ⟨bx, 3, none⟩ = some (.slice (some ⟨sa, 0, none⟩) J.length J.length) := (box' 3 (by simp)).1
        have fx3 : w'.frozen? ⟨bx, 3, none⟩ = false := (box' 3 (by simp)).2
        have x4 : w'.cell? ⟨bx, 4, none⟩ = some (.slice (some ⟨st, 0, none⟩) J.length J.length) := (box' 4 (by simp)).1
        have fx4 : w'.frozen? ⟨bx, 4, none⟩ = false := (box' 4 (by simp)).2
        have x5 : w'.cell? ⟨bx, 5, none⟩ = some (.slice fa F.length fc) := (box' 5 (by simp)).1
        have fx5 : w'.frozen? ⟨bx, 5, none⟩ = false := (box' 5 (by simp)).2
        have x6 : w'.cell? ⟨bx, 6, none⟩ = some (.string ⟨#[]⟩) := (box' 6 (by simp)).1
        have fx6 : w'.frozen? ⟨bx, 6, none⟩ = false := (box' 6 (by simp)).2
        have y0 : w'.cell? ⟨rb, 0, none⟩ = some (.string ⟨#[]⟩) := (res' 0 (by simp)).1
        have fy0 : w'.frozen? ⟨rb, 0, none⟩ = false := (res' 0 (by simp)).2
        have y1 : w'.cell? ⟨rb, 1, none⟩ = some (.int .i64 0) := (res' 1 (by simp)).1
        have fy1 : w'.frozen? ⟨rb, 1, none⟩ = false := (res' 1 (by simp)).2
        have y2 : w'.cell? ⟨rb, 2, none⟩ = some (.int .i64 0) := (res' 2 (by simp)).1
        have fy2 : w'.frozen? ⟨rb, 2, none⟩ = false := (res' 2 (by simp)).2
        have y3 : w'.cell? ⟨rb, 3, none⟩ = some (.slice none 0 0) := (res' 3 (by simp)).1
        have fy3 : w'.frozen? ⟨rb, 3, none⟩ = false := (res' 3 (by simp)).2
        have y4 : w'.cell? ⟨rb, 4, none⟩ = some (.slice none 0 0) := (res' 4 (by simp)).1
        have fy4 : w'.frozen? ⟨rb, 4, none⟩ = false := (res' 4 (by simp)).2
        have y5 : w'.cell? ⟨rb, 5, none⟩ = some (.slice none 0 0) := (res' 5 (by simp)).1
        have fy5 : w'.frozen? ⟨rb, 5, none⟩ = false := (res' 5 (by simp)).2
        have y6 : w'.cell? ⟨rb, 6, none⟩ = some (.string ⟨#[]⟩) := (res' 6 (by simp)).1
        have fy6 : w'.frozen? ⟨rb, 6, none⟩ = false := (res' 6 (by simp)).2
        clear box' res'
        have hne : bx ≠ rb ∧ rb ≠ bx := ⟨Ne.symm X.d6, X.d6⟩
        have hF2 : (∀ f ∈ F', f ≤ t) ∧ F'.length ≤ F.length + 1 := by
          rcases hF' with rfl | rfl
          · exact ⟨hFt, by omega⟩
          · refine ⟨fun f hf => ?_, by simp⟩
            rcases List.mem_append.1 hf with h | h
            · exact hFt f h
            · simp at h; omega
        clear hF'
        replace R' : Hid _ := ⟨R'⟩
        have hsz2 : w₁.heap.size ≤ w'.heap.size := by have := z1.out; omega
        rw [hst.out] at hrun hs2
        cases hov : (stepT κ J.length t i v s).over with
        | false =>
          rw [hov] at R' hrun
          have hT2 : Hid (tickW κ J t s₀ = runW κ J t (J.length - (i + 1)) (i + 1) (stepT κ J.length t i v s)) := ⟨by rw [hT.out, hrun.out]; simp⟩
          have hov' : Hid _ := ⟨hov⟩
          clear hov hrun hst hT
          simp only [endS, Bool.false_eq_true, if_false] at R' ⊢
          go_wp2
          go_roundw
          case rel => exact ⟨i + 1, fa', F', fc', stepT κ J.length t i v s, by omega, rfl, by go_num, R'.out, hT2, hov', hs2, hF2.1, by omega, by simpa [World.setCell] using hsz2⟩
          case measure => simp [intOf]; omega
        | true =>
          rw [hov] at R' hrun
          have hT2 : Hid (tickW κ J t s₀ = stepT κ J.length t i v s) := ⟨by rw [hT.out, hrun.out]; simp⟩
          have hov' : Hid _ := ⟨hov⟩
          clear hov hrun hst hT
          simp only [endS, if_true] at R' ⊢
          go_wp2
          exact hout.out (by rw [hT2.out]; exact hov'.out) _ _ _ _ _ _ _ _ _ _ _ _ _ _ _ _ _ _ _ _ _ _ _ _ _ _ _ _ _ _ fa' F' fc' _ (by rw [hT2.out]; exact R'.out)
    · obtain rfl : i = J.length := by omega
      have hT2 : Hid (tickW κ J t s₀ = s) := ⟨by rw [hT.out, Nat.sub_self]; rfl⟩
      go_wp2
      exact hgo.out (by rw [hT2.out]; exact ho.out) _ _ _ _ _ _ _ _ _ _ _ _ _ _ _ _ _ _ _ _ _ _ _ _ _ _ _ _ _ _ fa F fc wr (by rw [hT2.out]; exact R) hFt hFn hsz
end Go.Town.Kp
