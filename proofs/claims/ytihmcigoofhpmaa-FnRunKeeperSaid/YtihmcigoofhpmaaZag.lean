/-
  From 'the lone run comes there on every tape' to 'whatever the tape answers at each step, it comes there'.
  A lone run's contract holds of a goroutine in company: the others may turn what is hidden from it.
-/
import Derived.Conc.Beside
import Derived.Below
import Derived.Test.YtihmcigoofhpmaaZaf
set_option linter.all false
namespace Go.Town
open Go Go.Conc
def _root_.Go.World.re (w : World) (T : Nat → Question → Nat) (d : Nat) : World := { w with tape := T, drawn := d }
theorem weak_re {wl w : World} (h : Weak wl w) (T T' : Nat → Question → Nat) (d d' : Nat) : Weak (wl.re T d) (w.re T' d') := ⟨h.size, h.obj, h.os, h.out, h.noOdd⟩
theorem weak_rel {wl w : World} (h : Weak wl w) (T : Nat → Question → Nat) (d : Nat) : Weak (wl.re T d) w := ⟨h.size, h.obj, h.os, h.out, h.noOdd⟩
theorem upd_re {wl w w' : World} (h : Upd wl w w') (T : Nat → Question → Nat) (d : Nat) : Upd (wl.re T d) w w' := ⟨h.size, h.cells, h.chan, h.objs, h.still, h.os, h.out, h.tape⟩
inductive LW (P : Program) (KS : List Item → Prop) (Q : Frame → List Frame → World → Prop) : Frame → List Frame → World → Prop
  | stop {fr : Frame} {X : List Frame} {wl : World} : Q fr X wl → LW P KS Q fr X wl
  | step {fr : Frame} {X : List Frame} {wl : World} (nf : (Nat → Question → Nat) → Nat → Frame) (nX : (Nat → Question → Nat) → Nat → List Frame) (nw : (Nat → Question → Nat) → Nat → World) (ne : (Nat → Question → Nat) → Nat → Array Event) :
    (∀ T d, Nice P KS fr X (wl.re T d) (nf T d) (nX T d) (nw T d) (ne T d)) → (∀ T d, LW P KS Q (nf T d) (nX T d) (nw T d)) → LW P KS Q fr X wl
theorem LW.of_step {P : Program} {KS : List Item → Prop} {Q : Frame → List Frame → World → Prop} {fr : Frame} {X : List Frame} {wl : World} (h : ∀ T d, ∃ fr' X' wl' es, Nice P KS fr X (wl.re T d) fr' X' wl' es ∧ LW P KS Q fr' X' wl') : LW P KS Q fr X wl :=
  .step (fun T d => (h T d).choose) (fun T d => (h T d).choose_spec.choose) (fun T d => (h T d).choose_spec.choose_spec.choose) (fun T d => (h T d).choose_spec.choose_spec.choose_spec.choose)
    (fun T d => (h T d).choose_spec.choose_spec.choose_spec.choose_spec.1) (fun T d => (h T d).choose_spec.choose_spec.choose_spec.choose_spec.2)
def deadFrame : Frame := { fn := 0, tmps := #[], todo := [.code (.refuse "")], defers := [{ target := .nil, args := #[] }], mode := .run, kind := .normal }
theorem dead_finish (v : Value) : deadFrame.finish v = deadFrame := rfl
theorem step_dead (P : Program) (w : World) : ∃ o w', step P (lone deadFrame [] w) = .ended o w' := ⟨_, _, step_lone_ended (by simp [stepG, stepG.exec, deadFrame]; exact ⟨rfl, rfl⟩)⟩
theorem step_dead_raised (P : Program) (c : List PanicEntry) (w : World) : ∃ o w', step P (lone { deadFrame with mode := .panicking c } [] w) = .ended o w' := ⟨_, _, step_lone_ended (by simp [stepG, unwind, callDeferred, deadFrame]; exact ⟨rfl, rfl⟩)⟩
def panics : FrameMode → Prop
  | .panicking _ => True
  | _ => False
theorem raised_never {P : Program} : ∀ (X : List Frame) (fr : Frame) (c : List PanicEntry) (w : World), fr.defers = [] → (∃ fn, P.funcs[fr.fn]? = some fn) → (∀ x ∈ X, x.defers = [] ∧ (x.mode = .run ∨ x.mode = .returning) ∧ ∃ fn, P.funcs[x.fn]? = some fn) →
    ∀ n fr' cs' w', runN P n (lone { fr with mode := .panicking c } (X ++ [deadFrame]) w) = .next (lone fr' cs' w') → panics fr'.mode := by
  intro X
  induction X with
  | nil =>
    intro fr c w hd ⟨fn, hfn⟩ _ n fr' cs' w' h
    have hs : step P (lone { fr with mode := .panicking c } ([] ++ [deadFrame]) w) = .next (lone { deadFrame with mode := .panicking c } [] w) :=
      step_lone_go (by simp [stepG, unwind, hd, Frame.catches, hfn, Frame.raise, deadFrame])
    match n with
    | 0 =>
      simp only [runN, Stepped.next.injEq] at h
      have := congrArg (fun m : Machine => (m.gs[0]?).map (·.frame)) h
      simp [lone] at this
      rw [← this]; trivial
    | 1 =>
      simp only [runN, hs, Stepped.next.injEq] at h
      have := congrArg (fun m : Machine => (m.gs[0]?).map (·.frame)) h
      simp [lone] at this
      rw [← this]; trivial
    | n + 2 =>
      obtain ⟨o, w2, h2⟩ := step_dead_raised P c w
      simp only [runN, hs, h2] at h
      cases h
  | cons x X ih =>
    intro fr c w hd ⟨fn, hfn⟩ hX n fr' cs' w' h
    have hx := hX x (by simp)
    have hs : step P (lone { fr with mode := .panicking c } ((x :: X) ++ [deadFrame]) w) = .next (lone { x with mode := .panicking c } (X ++ [deadFrame]) w) :=
      step_lone_go (by
        have hm : x.raise c = { x with mode := .panicking c } := by
          rcases hx.2.1 with e | e <;> simp [Frame.raise, e]
        simp [stepG, unwind, hd, Frame.catches, hfn, hm])
    match n with
    | 0 =>
      simp only [runN, Stepped.next.injEq] at h
      have := congrArg (fun m : Machine => (m.gs[0]?).map (·.frame)) h
      simp [lone] at this
      rw [← this]; trivial
    | n + 1 =>
      simp only [runN, hs] at h
      exact ih x c w hx.1 hx.2.2 (fun y hy => hX y (by simp [hy])) n fr' cs' w' h
theorem lone_inj {fr fr' : Frame} {cs cs' : List Frame} {w w' : World} (h : lone fr cs w = lone fr' cs' w') : fr = fr' ∧ cs = cs' ∧ w = w' := by
  have h1 := congrArg (fun m : Machine => m.gs[0]?) h
  have h2 := congrArg (fun m : Machine => m.world) h
  simp [lone] at h1 h2
  exact ⟨h1.1, h1.2, h2⟩
theorem runN_split {P : Program} {a n : Nat} {m m1 m2 : Machine} (h1 : runN P a m = .next m1) (h2 : runN P n m = .next m2) (h : a ≤ n) : runN P (n - a) m1 = .next m2 := by
  have := runN_add P a (n - a) m
  rw [Nat.add_sub_cancel' h, h1, h2] at this
  exact this.symm
theorem mv_re {wl w wl' w' : World} {es : Array Event} (h : Mv wl w wl' w' es) {T T' : Nat → Question → Nat} {d : Nat} (hT : wl'.tape = wl.tape) :
    Mv (wl.re T d) w (wl'.re T (d + (wl'.drawn - wl.drawn))) w' es :=
  ⟨⟨h.weak.size, h.weak.obj, h.weak.os, h.weak.out, h.weak.noOdd⟩, Nat.le_add_right _ _, by
    have h1 := h.mono; have h2 := h.drawn
    show w'.drawn + d = w.drawn + (d + (wl'.drawn - wl.drawn)); omega, upd_re h.upd T d,
    ⟨h.updl.size, h.updl.cells, h.updl.chan, h.updl.objs, h.updl.still, h.updl.os, h.updl.out, rfl⟩, h.evs, h.heap⟩
theorem nice_re {P : Program} {KS : List Item → Prop} {fr fr' : Frame} {X X' : List Frame} {wl wl' : World} {es : Array Event} (h : Nice P KS fr X wl fr' X' wl' es) (hT : wl'.tape = wl.tape) (hm : wl.drawn ≤ wl'.drawn) {T : Nat → Question → Nat} {d : Nat}
    (hs : ∀ i, wl.drawn + i < wl'.drawn → T (d + i) = wl.tape (wl.drawn + i)) : Nice P KS fr X (wl.re T d) fr' X' (wl'.re T (d + (wl'.drawn - wl.drawn))) es := by
  intro K main cs w hKS hw hsync
  obtain ⟨w', h1, h2⟩ := h K main cs w hKS ⟨hw.size, hw.obj, hw.os, hw.out, hw.noOdd⟩ (fun i hi => by
    have := hsync i (by show d + i < d + (wl'.drawn - wl.drawn); omega)
    rw [this]; exact hs i hi)
  exact ⟨w', h1, mv_re (T' := T) h2 hT⟩
structure St (P : Program) (ok : FuncId → Bool) where
  fr : Frame
  X : List Frame
  wl : World
  hfr : OkFr P ok fr
  hX : ∀ x ∈ X, OkCl P ok x
  hw : Weak wl wl
section
variable {P : Program} {ok : FuncId → Bool} {KS : List Item → Prop} {K₀ : List Item} {Q : Frame → List Frame → World → Prop}
theorem bare_ext {X : List Frame} (hX : ∀ x ∈ X, OkCl P ok x) (K : List Item) : ∀ x ∈ extX K X, x.defers = [] ∧ (x.mode = .run ∨ x.mode = .returning) ∧ ∃ fn, P.funcs[x.fn]? = some fn := by
  induction X with
  | nil => intro x hx; cases hx
  | cons y X ih =>
    intro x hx
    rcases List.mem_cons.1 hx with rfl | hx
    · exact (hX y (by simp)).toOkFr.bare
    · exact ih (fun z hz => hX z (by simp [hz])) x hx
theorem nice_self (hK : KS K₀) {fr fr' : Frame} {X X' : List Frame} {wl wl' : World} {es : Array Event} (h : Nice P KS fr X wl fr' X' wl' es) (hw : Weak wl wl) : Weak wl' wl' ∧ wl.drawn ≤ wl'.drawn ∧ wl'.tape = wl.tape := by
  obtain ⟨w', _, h2⟩ := h K₀ true [] wl hK hw (fun _ _ => rfl)
  exact ⟨h2.weak.self, h2.mono, h2.updl.tape⟩
theorem stuck_never (hp : OkProg P ok) (hK : KS K₀) (hK0 : (K₀ = [] ∧ ∀ K, KS K → K = []) ∨ K₀ = deadEnd) (hQ : ∀ fr X w, Q fr X w → ¬ panics fr.mode) (s : St P ok) (hno : ∀ fr' X' wl' es, OkFr P ok fr' → (∀ x ∈ X', OkCl P ok x) → ¬ Nice P KS s.fr s.X s.wl fr' X' wl' es)
    (n : Nat) (fr' : Frame) (X' : List Frame) (w' : World) (h : runN P (n + 1) (lone (ext (tl K₀ s.X) s.fr) (extX K₀ s.X ++ [deadFrame]) s.wl) = .next (lone fr' (X' ++ [deadFrame]) w')) (hq : Q fr' X' w') : False := by
  have hexit : ∀ id, exitTo id K₀ = none := by
    rcases hK0 with ⟨rfl, _⟩ | rfl <;> exact fun _ => rfl
  have hmode : ¬ panics fr'.mode := hQ _ _ _ hq
  by_cases hret : s.fr.mode = .returning ∧ s.X = []
  ·
    obtain ⟨hm, hX⟩ := hret
    obtain ⟨fn, hfn⟩ := s.hfr.fn
    rw [hX] at h
    change runN P (n + 1) (lone (ext K₀ s.fr) ([] ++ [deadFrame]) s.wl) = _ at h
    have e : stepG P true (G (ext K₀ s.fr) ([] ++ [deadFrame])) s.wl =
        GStep.after (seen P s.fr.fn ((results fn s.fr.tmps).runT P s.wl #[]).2) (match ((results fn s.fr.tmps).runT P s.wl #[]).1 with
          | .ok v w => doReturn P true (ext K₀ s.fr) ([] ++ [deadFrame]) none v w
          | .halt (.stuck x) w => .ended (.stuck x ((ext K₀ s.fr).pos P)) w
          | .halt _ w => .ended (.stuck "return: the result variables cannot be read" ((ext K₀ s.fr).pos P)) w) := by
      simp only [stepG, G, ext_mode, hm, unwind, ext_defers, s.hfr.defers, ext_fn, hfn]
      rfl
    cases hr : (results fn s.fr.tmps).runT P s.wl #[] with
    | mk r es =>
      rw [hr] at e
      cases r with
      | ok v w1 =>
        have hs : step P (lone (ext K₀ s.fr) ([] ++ [deadFrame]) s.wl) = .next (lone deadFrame [] w1) := step_lone_go (by
          have : ({ frame := ext K₀ s.fr, callers := [] ++ [deadFrame], status := .running, dying := none } : Goroutine) = G (ext K₀ s.fr) ([] ++ [deadFrame]) := rfl
          rw [this, e]
          simp [doReturn, s.hfr.kind, GStep.after, dead_finish])
        simp only [runN, hs] at h
        cases n with
        | zero =>
          simp only [runN, Stepped.next.injEq] at h
          have := (lone_inj h).2.1
          simp at this
        | succ n =>
          obtain ⟨o, w2, h2⟩ := step_dead P w1
          simp only [runN, h2] at h
          cases h
      | halt hh w1 =>
        have hs : ∃ o w2, step P (lone (ext K₀ s.fr) ([] ++ [deadFrame]) s.wl) = .ended o w2 := by
          have : ({ frame := ext K₀ s.fr, callers := [] ++ [deadFrame], status := .running, dying := none } : Goroutine) = G (ext K₀ s.fr) ([] ++ [deadFrame]) := rfl
          cases hh <;> exact ⟨_, _, step_lone_ended (by rw [this, e]; simp [GStep.after]; exact ⟨rfl, rfl⟩)⟩
        obtain ⟨o, w2, hs⟩ := hs
        simp only [runN, hs] at h
        cases h
  · by_cases htail : s.X = [] ∧ s.fr.todo = [] ∧ s.fr.mode = .run ∧ K₀ = deadEnd
    ·
      obtain ⟨hX, htd, hm, rfl⟩ := htail
      rw [hX] at h
      have hs : ∃ o w2, step P (lone (ext deadEnd s.fr) ([] ++ [deadFrame]) s.wl) = .ended o w2 := by
        have : ({ frame := ext deadEnd s.fr, callers := [] ++ [deadFrame], status := .running, dying := none } : Goroutine) = G (ext deadEnd s.fr) ([] ++ [deadFrame]) := rfl
        exact ⟨_, _, step_lone_ended (by rw [this]; simp [stepG, stepG.exec, G, hm, htd, deadEnd]; exact ⟨rfl, rfl⟩)⟩
      obtain ⟨o, w2, hs⟩ := hs
      have h' : runN P (n + 1) (lone (ext deadEnd s.fr) ([] ++ [deadFrame]) s.wl) = .next (lone fr' (X' ++ [deadFrame]) w') := h
      simp only [runN, hs] at h'
      cases h'
    have hc := came_step (base := [deadFrame]) (KS := KS) (K₀ := K₀) hp hK hexit s.hw s.hfr s.hX hret (fun h1 h2 h3 => hK0.elim (fun a => a.2) (fun a => absurd ⟨h1, h2, h3, a⟩ htail))
    generalize hst : stepG P true (G (ext (tl K₀ s.X) s.fr) (extX K₀ s.X ++ [deadFrame])) s.wl = st at hc
    cases hc with
    | nice fr2 X2 wl2 es h1 h2 h3 => exact hno _ _ _ _ h1 h2 h3
    | raised c wl2 es =>
      have hs : step P (lone (ext (tl K₀ s.X) s.fr) (extX K₀ s.X ++ [deadFrame]) s.wl) = .next (lone { ext (tl K₀ s.X) s.fr with mode := .panicking c } (extX K₀ s.X ++ [deadFrame]) wl2) := step_lone_go (by
        have : ({ frame := ext (tl K₀ s.X) s.fr, callers := extX K₀ s.X ++ [deadFrame], status := .running, dying := none } : Goroutine) = G (ext (tl K₀ s.X) s.fr) (extX K₀ s.X ++ [deadFrame]) := rfl
        rw [this, hst]; rfl)
      simp only [runN, hs] at h
      exact hmode (raised_never (extX K₀ s.X) (ext (tl K₀ s.X) s.fr) c wl2 s.hfr.defers s.hfr.fn (bare_ext s.hX K₀) n _ _ _ h)
    | ended o w2 es =>
      have hs : step P (lone (ext (tl K₀ s.X) s.fr) (extX K₀ s.X ++ [deadFrame]) s.wl) = .ended o w2 := step_lone_ended (by
        have : ({ frame := ext (tl K₀ s.X) s.fr, callers := extX K₀ s.X ++ [deadFrame], status := .running, dying := none } : Goroutine) = G (ext (tl K₀ s.X) s.fr) (extX K₀ s.X ++ [deadFrame]) := rfl
        rw [this, hst]; rfl)
      simp only [runN, hs] at h
      cases h
theorem least {p : Nat → Prop} (h : ∃ k, p k) : ∃ k, p k ∧ ∀ j, j < k → ¬ p j := by
  obtain ⟨k, hk⟩ := h
  induction k using Nat.strongRecOn with
  | _ k ih =>
    by_cases h : ∃ j, j < k ∧ p j
    · obtain ⟨j, h1, h2⟩ := h; exact ih j h1 h2
    · exact ⟨k, hk, fun j hj hp => h ⟨j, hj, hp⟩⟩
theorem lw_of_runs (hp : OkProg P ok) (hK : KS K₀) (hK0 : (K₀ = [] ∧ ∀ K, KS K → K = []) ∨ K₀ = deadEnd) (hQ : ∀ fr X w, Q fr X w → ¬ panics fr.mode) (hQ2 : ∀ fr X w T d, Weak w w → Q fr X w → Q fr X (w.re T d)) (s0 : St P ok)
    (L : ∀ T d, ∃ n fr' X' w', runN P n (lone (ext (tl K₀ s0.X) s0.fr) (extX K₀ s0.X ++ [deadFrame]) (s0.wl.re T d)) = .next (lone fr' (X' ++ [deadFrame]) w') ∧ Q fr' X' w') : LW P KS (fun fr X w => Q (ext (tl K₀ X) fr) (extX K₀ X) w ∧ Weak w w) s0.fr s0.X s0.wl := by
  classical
  refine Classical.byContradiction fun hno => ?_
  let Bad := fun s : St P ok => ¬ LW P KS (fun fr X w => Q (ext (tl K₀ X) fr) (extX K₀ X) w ∧ Weak w w) s.fr s.X s.wl
  have hbad : ∀ s : St P ok, Bad s → ∃ T d, ∀ fr' X' wl' es, Nice P KS s.fr s.X (s.wl.re T d) fr' X' wl' es → ¬ LW P KS (fun fr X w => Q (ext (tl K₀ X) fr) (extX K₀ X) w ∧ Weak w w) fr' X' wl' := by
    intro s hs
    refine Classical.byContradiction fun hc => hs (LW.of_step fun T d => ?_)
    refine Classical.byContradiction fun hc2 => hc ⟨T, d, fun fr' X' wl' es hn hl => hc2 ⟨fr', X', wl', es, hn, hl⟩⟩
  let tp : St P ok → (Nat → Question → Nat) := fun s => if h : Bad s then (hbad s h).choose else fun _ _ => 0
  let dp : St P ok → Nat := fun s => if h : Bad s then (hbad s h).choose_spec.choose else 0
  have hbd : ∀ s, Bad s → ∀ fr' X' wl' es, Nice P KS s.fr s.X (s.wl.re (tp s) (dp s)) fr' X' wl' es → ¬ LW P KS (fun fr X w => Q (ext (tl K₀ X) fr) (extX K₀ X) w ∧ Weak w w) fr' X' wl' := by
    intro s h
    simp only [tp, dp, dif_pos h]
    exact (hbad s h).choose_spec.choose_spec
  let Goes1 := fun (s s' : St P ok) => ∃ es, Nice P KS s.fr s.X (s.wl.re (tp s) (dp s)) s'.fr s'.X s'.wl es
  let Stuck := fun s : St P ok => ¬ ∃ s', Goes1 s s'
  let nx : St P ok → St P ok := fun s => if h : ∃ s', Goes1 s s' then h.choose else s
  have hnx : ∀ s, ¬ Stuck s → Goes1 s (nx s) := by
    intro s h
    have h' : ∃ s', Goes1 s s' := Classical.byContradiction h
    simp only [nx, dif_pos h']
    exact h'.choose_spec
  let sq : Nat → St P ok := fun k => Nat.rec s0 (fun _ s => nx s) k
  have hsq0 : sq 0 = s0 := rfl
  have hsq : ∀ k, sq (k + 1) = nx (sq k) := fun k => rfl
  have hBk : ∀ k, (∀ j, j < k → ¬ Stuck (sq j)) → Bad (sq k) := by
    intro k
    induction k with
    | zero => intro _; exact hno
    | succ k ih =>
      intro h
      have hb := ih (fun j hj => h j (by omega))
      obtain ⟨es, hn⟩ := hnx (sq k) (h k (by omega))
      show Bad (nx (sq k))
      exact hbd _ hb _ _ _ _ hn
  let c : Nat → Nat := fun k => (sq (k + 1)).wl.drawn - dp (sq k)
  let D : Nat → Nat := fun k => Nat.rec 0 (fun j a => a + c j) k
  have hD0 : D 0 = 0 := rfl
  have hD : ∀ k, D (k + 1) = D k + c k := fun k => rfl
  have hDm : ∀ j k, j ≤ k → D j ≤ D k := by
    intro j k h
    induction k with
    | zero => have hj0 : j = 0 := by omega
              rw [hj0]; exact Nat.le_refl _
    | succ k ih =>
      by_cases e : j = k + 1
      · rw [e]; exact Nat.le_refl _
      · exact Nat.le_trans (ih (by omega)) (by rw [hD]; exact Nat.le_add_right _ _)
  let Pn := fun n k => Stuck (sq k) ∨ n < D (k + 1)
  let Ts : Nat → Question → Nat := fun n q => if h : ∃ k, Pn n k then (tp (sq (least h).choose)) (dp (sq (least h).choose) + (n - D (least h).choose)) q else 0
  have hTs : ∀ n k, (∀ j, j < k → ¬ Stuck (sq j)) → Pn n k → D k ≤ n → Ts n = (tp (sq k)) (dp (sq k) + (n - D k)) := by
    intro n k hk hP hn
    have hex : ∃ k, Pn n k := ⟨k, hP⟩
    have hl := (least hex).choose_spec
    have e : (least hex).choose = k := by
      generalize (least hex).choose = m at hl
      rcases Nat.lt_trichotomy m k with h | h | h
      · rcases hl.1 with h1 | h1
        · exact absurd h1 (hk m h)
        · have := hDm (m + 1) k h; omega
      · exact h
      · exact absurd hP (hl.2 k h)
    funext q
    show (if h : ∃ k, Pn n k then _ else _) = _
    rw [dif_pos hex, e]
  have hrun : ∀ k, (∀ j, j < k → ¬ Stuck (sq j)) → runN P k (lone (ext (tl K₀ s0.X) s0.fr) (extX K₀ s0.X ++ [deadFrame]) (s0.wl.re Ts 0)) = .next (lone (ext (tl K₀ (sq k).X) (sq k).fr) (extX K₀ (sq k).X ++ [deadFrame]) ((sq k).wl.re Ts (D k))) := by
    intro k
    induction k with
    | zero => intro _; rfl
    | succ k ih =>
      intro h
      have h1 := ih (fun j hj => h j (by omega))
      obtain ⟨es, hn⟩ := hnx (sq k) (h k (by omega))
      obtain ⟨hw1, hm1, ht1⟩ := nice_self hK hn (weak_re (sq k).hw _ _ _ _)
      have hn2 := nice_re hn ht1 hm1 (T := Ts) (d := D k) (fun i hi => by
        have hi' : dp (sq k) + i < (nx (sq k)).wl.drawn := hi
        have : D k + i < D (k + 1) := by rw [hD]; show D k + i < D k + ((sq (k + 1)).wl.drawn - dp (sq k)); rw [hsq]; omega
        rw [hTs (D k + i) k (fun j hj => h j (by omega)) (.inr this) (Nat.le_add_right _ _), Nat.add_sub_cancel_left]
        rfl)
      obtain ⟨w', h2, h3⟩ := hn2 K₀ true [deadFrame] ((sq k).wl.re Ts (D k)) hK (weak_re (sq k).hw _ _ _ _) (fun _ _ => rfl)
      have hd : D k + ((nx (sq k)).wl.drawn - dp (sq k)) = D (k + 1) := rfl
      have e : w' = (sq (k + 1)).wl.re Ts (D (k + 1)) := by
        have e1 := h3.heap rfl
        have e2 := h3.drawn
        have e3 := h3.upd.tape
        have e4 := h3.weak.os
        have e5 := h3.weak.out
        obtain ⟨hp1, tp1, dr1, os1, ou1⟩ := w'
        simp only [World.re] at e1 e2 e3 e4 e5 ⊢
        subst e1 e3 e4 e5
        rw [hsq] at *
        congr 1
        have hm1' : dp (sq k) ≤ (nx (sq k)).wl.drawn := hm1
        try simp only [World.re] at e2
        omega
      have hs : step P (lone (ext (tl K₀ (sq k).X) (sq k).fr) (extX K₀ (sq k).X ++ [deadFrame]) ((sq k).wl.re Ts (D k))) = .next (lone (ext (tl K₀ (sq (k + 1)).X) (sq (k + 1)).fr) (extX K₀ (sq (k + 1)).X ++ [deadFrame]) ((sq (k + 1)).wl.re Ts (D (k + 1)))) := step_lone_go (by
        have : ({ frame := ext (tl K₀ (sq k).X) (sq k).fr, callers := extX K₀ (sq k).X ++ [deadFrame], status := .running, dying := none } : Goroutine) = G (ext (tl K₀ (sq k).X) (sq k).fr) (extX K₀ (sq k).X ++ [deadFrame]) := rfl
        rw [this, h2, e]; rfl)
      rw [runN_add, h1]
      simp only [runN, hs]
  obtain ⟨n, fr', X', w', hn, hq⟩ := L Ts 0
  have atQ : ∀ k, (∀ j, j < k → ¬ Stuck (sq j)) → k = n → False := by
    rintro k hk rfl
    have h1 := hrun k hk
    rw [hn] at h1
    simp only [Stepped.next.injEq] at h1
    obtain ⟨e1, e2, e3⟩ := lone_inj h1
    have e2' : X' = extX K₀ (sq k).X := List.append_cancel_right e2
    refine hBk k hk (.stop ?_)
    rw [e1, e2', e3] at hq
    exact ⟨hQ2 _ _ ((sq k).wl.re Ts (D k)) (sq k).wl.tape (sq k).wl.drawn (weak_re (sq k).hw _ _ _ _) hq, (sq k).hw⟩
  by_cases hst : ∃ k, Stuck (sq k) ∧ k < n
  · obtain ⟨k, ⟨h1, h2⟩, h3⟩ := least hst
    have hk : ∀ j, j < k → ¬ Stuck (sq j) := fun j hj hs => h3 j hj ⟨hs, by omega⟩
    have hr := runN_split (hrun k hk) hn (Nat.le_of_lt h2)
    obtain ⟨m, hm⟩ : ∃ m, n - k = m + 1 := ⟨n - k - 1, by omega⟩
    rw [hm] at hr
    let s1 : St P ok := { fr := (sq k).fr, X := (sq k).X, wl := (sq k).wl.re Ts (D k), hfr := (sq k).hfr, hX := (sq k).hX, hw := weak_re (sq k).hw _ _ _ _ }
    refine stuck_never hp hK hK0 hQ s1 (fun fr2 X2 wl2 es a1 a2 hni => ?_) m fr' X' w' hr hq
    obtain ⟨b1, b2, b3⟩ := nice_self hK hni s1.hw
    have hn3 := nice_re hni b3 b2 (T := tp (sq k)) (d := dp (sq k)) (fun i _ => by
      show tp (sq k) (dp (sq k) + i) = Ts (D k + i)
      rw [hTs (D k + i) k hk (.inl h1) (Nat.le_add_right _ _), Nat.add_sub_cancel_left])
    exact h1 ⟨{ fr := fr2, X := X2, wl := _, hfr := a1, hX := a2, hw := weak_re b1 _ _ _ _ }, es, hn3⟩
  · exact atQ n (fun j hj hs => hst ⟨j, hs, hj⟩) rfl
end
end Go.Town
namespace Go.Town
open Go Go.Conc Go.RowKit
inductive Walk (P : Program) (main : Bool) (R : World → World → Prop) (D : World → World → Array Event → Prop) (Stop : Goroutine → World → Prop) : Goroutine → World → Prop
  | stop {g : Goroutine} {w : World} : (∀ w₁, R w w₁ → Stop g w₁) → Walk P main R D Stop g w
  | step {g : Goroutine} {w : World} (ng : World → Goroutine) (nw : World → World) (ne : World → Array Event) : g.status = .running →
    (∀ w₁, R w w₁ → stepG P main g w₁ = .go (ng w₁) (nw w₁) (ne w₁) ∧ D w₁ (nw w₁) (ne w₁)) → (∀ w₁, R w w₁ → Walk P main R D Stop (ng w₁) (nw w₁)) → Walk P main R D Stop g w
section
variable {P : Program} {main : Bool} {R : World → World → Prop} {D : World → World → Array Event → Prop} {Stop : Goroutine → World → Prop}
theorem Walk.of_step {g : Goroutine} {w : World} (hs : g.status = .running) (h : ∀ w₁, R w w₁ → ∃ g' w' es, stepG P main g w₁ = .go g' w' es ∧ D w₁ w' es ∧ Walk P main R D Stop g' w') : Walk P main R D Stop g w := by
  classical
  refine .step (fun w₁ => if h₁ : R w w₁ then (h w₁ h₁).choose else g) (fun w₁ => if h₁ : R w w₁ then (h w₁ h₁).choose_spec.choose else w) (fun w₁ => if h₁ : R w w₁ then (h w₁ h₁).choose_spec.choose_spec.choose else #[]) hs ?_ ?_
  · intro w₁ h₁
    simp only [dif_pos h₁]
    exact ⟨(h w₁ h₁).choose_spec.choose_spec.choose_spec.1, (h w₁ h₁).choose_spec.choose_spec.choose_spec.2.1⟩
  · intro w₁ h₁
    simp only [dif_pos h₁]
    exact (h w₁ h₁).choose_spec.choose_spec.choose_spec.2.2
theorem Walk.bind {Stop' : Goroutine → World → Prop} (refl : ∀ w, R w w) {g : Goroutine} {w : World} (h : Walk P main R D Stop g w) (hs : ∀ g' w', Stop g' w' → Walk P main R D Stop' g' w') : Walk P main R D Stop' g w := by
  induction h with
  | stop h => exact hs _ _ (h _ (refl _))
  | step ng nw ne hr h1 h2 ih => exact .step ng nw ne hr h1 fun w₁ h₁ => ih w₁ h₁
theorem Walk.keeps {I : World → Prop} {g : Goroutine} {w : World} (hR : ∀ w w₁, R w w₁ → I w → I w₁) (h : Walk P main R (fun w w' es => D w w' es ∧ (I w → I w')) Stop g w) (hI : I w) : Walk P main R D (fun g' w' => Stop g' w' ∧ I w') g w := by
  induction h with
  | stop h => exact .stop fun w₁ h₁ => ⟨h w₁ h₁, hR _ _ h₁ hI⟩
  | step ng nw ne hs h1 h2 ih => exact .step ng nw ne hs (fun w₁ h₁ => ⟨(h1 w₁ h₁).1, (h1 w₁ h₁).2.1⟩) (fun w₁ h₁ => ih w₁ h₁ ((h1 w₁ h₁).2.2 (hR _ _ h₁ hI)))
end
structure Out (hid : Nat → Nat → Prop) (w w' : World) : Prop where
  size : w'.heap.size = w.heap.size
  cells : ∀ (b : Nat) (c : Array Value) (e : TypeId) (f : Nat × Nat), w.heap[b]? = some (.cells c e f) → ∃ c', w'.heap[b]? = some (.cells c' e f) ∧ c'.size = c.size ∧ ∀ k, ¬ hid b k → c'[k]? = c[k]?
  objs : ∀ (b : Nat) (o : Obj), w.heap[b]? = some o → isCells o = false → w'.heap[b]? = some o
  os : w'.os = w.os
  out : w'.output = w.output
  tape : w'.tape = w.tape
theorem Out.refl (hid : Nat → Nat → Prop) (w : World) : Out hid w w := ⟨rfl, fun _ c _ _ h => ⟨c, h, rfl, fun _ _ => rfl⟩, fun _ _ h _ => h, rfl, rfl, rfl⟩
theorem Out.trans {hid : Nat → Nat → Prop} {a b c : World} (h : Out hid a b) (k : Out hid b c) : Out hid a c := by
  refine ⟨k.size.trans h.size, fun x cc e f hx => ?_, fun x o hx ho => k.objs x o (h.objs x o hx ho) ho, k.os.trans h.os, k.out.trans h.out, k.tape.trans h.tape⟩
  obtain ⟨c1, h1, h2, h3⟩ := h.cells x cc e f hx
  obtain ⟨c2, h4, h5, h6⟩ := k.cells x c1 e f h1
  exact ⟨c2, h4, h5.trans h2, fun j hj => (h6 j hj).trans (h3 j hj)⟩
theorem Out.at (hid : Nat → Nat → Prop) (w : World) (d : Nat) : Out hid w (w.at d) := ⟨rfl, fun _ c _ _ h => ⟨c, h, rfl, fun _ _ => rfl⟩, fun _ _ h _ => h, rfl, rfl, rfl⟩
def EvM (hid frz : Nat → Nat → Prop) (top : Nat) (e : Event) : Prop :=
  match e.loc with
  | .cell a => a.block < top ∧ e.sync = false ∧ ¬ hid a.block a.off ∧ (e.write = true → ¬ frz a.block a.off)
  | .obj r => r < top ∧ (e.sync = true → e.write = false)
  | .mark .noRoom => True
  | _ => False
structure Mov (hid frz : Nat → Nat → Prop) (w w' : World) (es : Array Event) : Prop where
  size : w.heap.size ≤ w'.heap.size
  cells : ∀ (b : Nat) (c : Array Value) (e : TypeId) (f : Nat × Nat), w.heap[b]? = some (.cells c e f) → ∃ c', w'.heap[b]? = some (.cells c' e f) ∧ c'.size = c.size ∧ ∀ k, hid b k ∨ frz b k → c'[k]? = c[k]?
  chan : ∀ (b : Nat) (o : Obj), w.heap[b]? = some o → o.isChan = true → w'.heap[b]? = some o
  objs : ∀ (b : Nat) (o : Obj), w.heap[b]? = some o → isCells o = false → ∃ o', w'.heap[b]? = some o' ∧ isCells o' = false
  os : w'.os = w.os
  out : w'.output = w.output
  tape : w'.tape = w.tape
  evs : ∀ e ∈ es, EvM hid frz w'.heap.size e
structure Cut (hid frz : Nat → Nat → Prop) (wl : World) : Prop where
  hid : ∀ b k, hid b k → b < wl.heap.size ∧ wl.cell? ⟨b, k, none⟩ = none
  frz : ∀ b k, frz b k → b < wl.heap.size ∧ wl.frozen? ⟨b, k, none⟩ = true
theorem Cut.upd {hid frz : Nat → Nat → Prop} {wl wl' : World} (h : Cut hid frz wl) (hu : Upd wl wl wl') : Cut hid frz wl' :=
  ⟨fun b k hk => let ⟨h1, h2⟩ := h.hid b k hk; ⟨Nat.lt_of_lt_of_le h1 hu.size, (hu.there h1).1.2 h2⟩, fun b k hk => let ⟨h1, h2⟩ := h.frz b k hk; ⟨Nat.lt_of_lt_of_le h1 hu.size, (hu.there h1).2.trans h2⟩⟩
theorem Cut.re {hid frz : Nat → Nat → Prop} {wl : World} (h : Cut hid frz wl) (T : Nat → Question → Nat) (d : Nat) : Cut hid frz (wl.re T d) := ⟨h.hid, h.frz⟩
theorem Weak.outside {hid frz : Nat → Nat → Prop} {wl w w' : World} (h : Weak wl w) (hc : Cut hid frz wl) (ho : Out hid w w') : Weak wl w' := by
  refine ⟨h.size.trans ho.size.symm, fun b o o' hb hb' => ?_, h.os.trans ho.os.symm, h.out.trans ho.out.symm, h.noOdd⟩
  obtain ⟨o1, h1, h2⟩ := h.get hb
  cases hcl : isCells o1 with
  | false => rw [ho.objs b o1 h1 hcl] at hb'; cases hb'; exact h2
  | true =>
    cases o1 <;> simp [isCells] at hcl
    rename_i c1 e1 f1
    obtain ⟨c2, h3, h4, h5⟩ := ho.cells b c1 e1 f1 h1
    rw [h3] at hb'; cases hb'
    have nh : ∀ (c : Array Value) (e : TypeId) (f : Nat × Nat), wl.heap[b]? = some (.cells c e f) → ∀ k, k < c.size → ¬ hid b k := by
      intro c e f hw k hk hh
      have := (hc.hid b k hh).2
      simp [World.cell?, hw, hk] at this
    cases h2 with
    | blind hb => have := hb.cells.2; simp [isCells] at this
    | same =>
      refine .cut (by omega) (fun k hk => h5 k (nh _ _ _ hb k hk)) (fun k _ h => h)
    | cut g1 g2 g3 => exact .cut (by omega) (fun k hk => (h5 k (nh _ _ _ hb k hk)).trans (g2 k hk)) g3
theorem mov_of {hid frz : Nat → Nat → Prop} {wl w wl' w' : World} {es : Array Event} (hc : Cut hid frz wl) (h : Mv wl w wl' w' es) (hs : wl.heap.size = w.heap.size) : Mov hid frz w w' es := by
  refine ⟨h.upd.size, fun b c e f hb => ?_, h.upd.chan, fun b o hb ho => let ⟨o', h1, h2, _⟩ := h.upd.objs b o hb ho; ⟨o', h1, h2⟩, h.upd.os, h.upd.out, h.upd.tape, fun ev he => ?_⟩
  · obtain ⟨c', h1, h2, h3⟩ := h.upd.cells b c e f hb
    exact ⟨c', h1, h2, fun k hk => h3 k (hk.elim (fun q => .inl (hc.hid b k q).2) (fun q => .inr (hc.frz b k q).2))⟩
  · have := h.evs ev he
    have ht : wl'.heap.size = w'.heap.size := h.weak.size
    unfold EvOk at this
    unfold EvM
    split <;> simp_all
    · rename_i a _
      obtain ⟨h1, h2, h3⟩ := this
      rcases h3 with h3 | ⟨⟨v, hv⟩, h4⟩
      · refine ⟨fun hh => ?_, fun _ hf => ?_⟩
        · have := (hc.hid _ _ hh).1; omega
        · have := (hc.frz _ _ hf).1; omega
      · have ha := spot_of_cell hv
        refine ⟨fun hh => ?_, fun hw hf => ?_⟩
        · have := (hc.hid _ _ hh).2; rw [← ha, hv] at this; cases this
        · have := (hc.frz _ _ hf).2; rw [← ha, h4 hw] at this; cases this
def openCh : Obj → Bool
  | .chan _ _ cl _ _ _ => !cl
  | _ => false
inductive ShutO : Obj → Obj → Prop
  | cells {c : Array Value} {e : TypeId} {f₀ f : Nat × Nat} (h : ∀ k, k < c.size → frz f k = true) : ShutO (.cells c e f₀) (.cells c e f)
  | other {o₀ o : Obj} (h₀ : isCells o₀ = false) (h : isCells o = false) (hm : isMap o = false) (hc : openCh o = false) : ShutO o₀ o
structure Shut (n : Nat) (U wl : World) : Prop where
  size : n ≤ wl.heap.size
  obj : ∀ (b : Nat) (o : Obj), b < n → wl.heap[b]? = some o → ∃ o₀, U.heap[b]? = some o₀ ∧ ShutO o₀ o
theorem Shut.re {n : Nat} {U wl : World} (h : Shut n U wl) (T : Nat → Question → Nat) (d : Nat) : Shut n U (wl.re T d) := ⟨h.size, h.obj⟩
theorem Shut.unre {n : Nat} {U wl : World} {T : Nat → Question → Nat} {d : Nat} (h : Shut n U (wl.re T d)) : Shut n U wl := ⟨h.size, h.obj⟩
theorem frozen_of {w : World} {b k : Nat} {c : Array Value} {e : TypeId} {f : Nat × Nat} (h : w.heap[b]? = some (.cells c e f)) : w.frozen? ⟨b, k, none⟩ = frz f k := by simp [World.frozen?, h, frz]
theorem cells_same {c c' : Array Value} (hs : c'.size = c.size) (h : ∀ k, k < c.size → c'[k]? = c[k]?) : c' = c := by
  apply Array.ext_getElem?
  intro k
  by_cases hk : k < c.size
  · exact h k hk
  · rw [Array.getElem?_eq_none (by omega), Array.getElem?_eq_none (by omega)]
theorem Shut.upd {n : Nat} {U wl wl' : World} (h : Shut n U wl) (hu : Upd wl wl wl') : Shut n U wl' := by
  refine ⟨Nat.le_trans h.size hu.size, fun b o hb ho => ?_⟩
  have hlt : b < wl.heap.size := Nat.lt_of_lt_of_le hb h.size
  have h1 := Array.getElem?_eq_getElem hlt
  obtain ⟨o₀, h2, h3⟩ := h.obj b _ hb h1
  generalize wl.heap[b] = p at h1 h3
  refine ⟨o₀, h2, ?_⟩
  cases h3 with
  | cells hf =>
    rename_i c e f₀ f
    obtain ⟨c', g1, g2, g3⟩ := hu.cells b _ _ _ h1
    have := cells_same g2 fun k hk => g3 k (.inr ((frozen_of h1).trans (hf k hk)))
    subst this
    rw [g1] at ho; cases ho
    exact .cells hf
  | other g0 g1 g2 g3 =>
    rw [hu.still b p h1 g1 g2, h1] at ho; cases ho
    exact .other g0 g1 g2 g3
theorem below_upd {n : Nat} {U wl w w' : World} (h : Shut n U wl) (hb : Below n U w) (hs : wl.heap.size = w.heap.size) (hu : Upd wl w w') : Below n U w' := by
  refine ⟨hu.os.trans hb.os, hu.tape.trans hb.tape, hu.out.trans hb.output, Nat.le_trans hb.size hu.size, fun b hlt => ?_⟩
  have hlt' : b < wl.heap.size := Nat.lt_of_lt_of_le hlt h.size
  have h1 := Array.getElem?_eq_getElem hlt'
  obtain ⟨o₀, h2, h3⟩ := h.obj b _ hlt h1
  generalize wl.heap[b] = p at h1 h3
  have h4 := (hb.block b hlt).trans h2
  rw [h2]
  cases h3 with
  | cells hf =>
    obtain ⟨c', g1, g2, g3⟩ := hu.cells b _ _ _ h4
    have := cells_same g2 fun k hk => g3 k (.inr ((frozen_of h1).trans (hf k hk)))
    rw [g1, this]
  | other g0 g1 g2 g3 => rw [hu.still b p h1 g1 g2, h4]
theorem below_out {n : Nat} {hid frz : Nat → Nat → Prop} {U wl w w' : World} (h : Shut n U wl) (hc : Cut hid frz wl) (hb : Below n U w) (ho : Out hid w w') : Below n U w' := by
  refine ⟨ho.os.trans hb.os, ho.tape.trans hb.tape, ho.out.trans hb.output, by rw [ho.size]; exact hb.size, fun b hlt => ?_⟩
  have hlt' : b < wl.heap.size := Nat.lt_of_lt_of_le hlt h.size
  have h1 := Array.getElem?_eq_getElem hlt'
  obtain ⟨o₀, h2, h3⟩ := h.obj b _ hlt h1
  generalize wl.heap[b] = p at h1 h3
  have h4 := (hb.block b hlt).trans h2
  rw [h2]
  cases h3 with
  | cells hf =>
    rename_i c e f₀ f
    obtain ⟨c', g1, g2, g3⟩ := ho.cells b _ _ _ h4
    have := cells_same g2 fun k hk => g3 k fun hh => by
      have := (hc.hid b k hh).2
      simp [World.cell?, h1, hk] at this
    rw [g1, this]
  | other g0 g1 g2 g3 => exact ho.objs b _ h4 g0
def MovB (n : Nat) (U : World) (hid frz : Nat → Nat → Prop) (w w' : World) (es : Array Event) : Prop := Mov hid frz w w' es ∧ (Below n U w → Below n U w')
theorem LW.walk {P : Program} {n : Nat} {U : World} {KS : List Item → Prop} {Q : Frame → List Frame → World → Prop} {hid frz : Nat → Nat → Prop} (K : List Item) (hK : KS K) (main : Bool) (cs : List Frame) {fr : Frame} {X : List Frame} {wl : World} (h : LW P KS Q fr X wl) :
    ∀ {w : World}, Cut hid frz wl → Weak wl w → Shut n U wl → Walk P main (Out hid) (MovB n U hid frz) (fun g w' => ∃ fr' X' wl', g = G (ext (tl K X') fr') (extX K X' ++ cs) ∧ Q fr' X' wl' ∧ Cut hid frz wl' ∧ Weak wl' w' ∧ Shut n U wl') (G (ext (tl K X) fr) (extX K X ++ cs)) w := by
  induction h with
  | stop hq => exact fun {w} hc hw hs => .stop fun w₁ h₁ => ⟨_, _, _, rfl, hq, hc, hw.outside hc h₁, hs⟩
  | step nf nX nw ne hn hl ih =>
    intro w hc hw hsh
    refine Walk.of_step rfl fun w₁ h₁ => ?_
    have hw₁ := hw.outside hc h₁
    obtain ⟨w', h2, h3⟩ := hn w₁.tape w₁.drawn K main cs w₁ hK ⟨hw₁.size, hw₁.obj, hw₁.os, hw₁.out, hw₁.noOdd⟩ (fun _ _ => rfl)
    refine ⟨_, w', _, h2, ⟨mov_of (hc.re _ _) h3 hw₁.size, fun hb => below_upd (hsh.re w₁.tape w₁.drawn) hb hw₁.size h3.upd⟩, ih _ _ ((hc.re _ _).upd h3.updl) h3.weak ((hsh.re w₁.tape w₁.drawn).upd h3.updl)⟩
end Go.Town
