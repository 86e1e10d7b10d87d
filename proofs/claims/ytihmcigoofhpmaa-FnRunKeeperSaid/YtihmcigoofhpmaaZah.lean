/-
  The kit's contracts and pieces of code, carried into company.
  Who is in the company, and where each stands: at a port (or on the way to it), on its way through Done, only leaving, or in Wait.
-/
import Derived.Conc.CrowdComm
import Derived.Conc.CrowdSel
import Derived.Conc.MarkLaws
import Derived.Test.YtihmcigoofhpmaaZaa
import Derived.Test.YtihmcigoofhpmaaZag
set_option linter.all false
namespace Go.Town
open Go Go.Conc Go.RowKit
theorem run_re {α : Type} {P : Program} {s : Sem α} (hs : Natural P s) {w : World} (hw : Weak w w) {a : α} (h : s.run P w = .ok a w) (T : Nat → Question → Nat) (d : Nat) : s.run P (w.re T d) = .ok a (w.re T d) := by
  cases hr : s.runT P w #[] with
  | mk r es =>
    have e := Sem.runT_fst P s w #[]
    rw [hr, h] at e
    simp only at e
    subst e
    obtain ⟨w', h1, h2⟩ := same_run hs (weak_re hw w.tape T w.drawn d) hr trivial (fun i hi => absurd hi (by show ¬ w.drawn + i < w.drawn; omega))
    have h3 := Sem.runT_fst P s (w.re T d) #[]
    rw [h1] at h3
    have e1 := h2.heap rfl
    have e2 := h2.drawn
    have e3 := h2.upd.tape
    have e4 := h2.upd.os
    have e5 := h2.upd.out
    have : w' = w.re T d := by
      obtain ⟨a1, a2, a3, a4, a5⟩ := w'
      simp only [Result.wd, World.re] at e1 e2 e3 e4 e5 ⊢
      subst e1 e3 e4 e5
      congr 1; omega
    rw [← h3, this]; rfl
def AtLeave (P : Program) (R : Value → World → Prop) (fr : Frame) (X : List Frame) (w : World) : Prop :=
  X = [] ∧ ∃ v, R v w ∧ fr.leaving P w (.returned v)
section
variable {P : Program} {ok : FuncId → Bool}
theorem lw_calls (hp : OkProg P ok) {f : FuncId} (h1 : ok f = true) (h2 : okFn P f = true) {args : Array Value} {wl : World} (hw : Weak wl wl) {R : Value → World → Prop} (hR : ∀ v w T d, R v w → R v (w.re T d))
    (h : ∀ T d, Calls P f args (wl.re T d) fun e w' => ∃ v, e = .returned v ∧ R v w') : LW P (fun K => K = []) (fun fr X w => AtLeave P R fr X w ∧ Weak w w) (Frame.enter P f args .normal) [] wl := by
  have hl := lw_of_runs (KS := fun K => K = []) (K₀ := []) hp rfl (.inl ⟨rfl, fun _ h => h⟩) (Q := AtLeave P R) (fun fr X w hq => by
    obtain ⟨_, v, _, hm, _⟩ := hq
    rw [hm]; exact fun h => h) (fun fr X w T d h4 hq => by
    obtain ⟨h3, v, h5, h6, h7, h8, fn, h9, h10⟩ := hq
    exact ⟨h3, v, hR _ _ _ _ h5, h6, h7, h8, fn, h9, run_re (natural_results fn fr.tmps) h4 h10 T d⟩)
    { fr := Frame.enter P f args .normal, X := [], wl := wl, hfr := okFr_enter hp h1 h2 args, hX := by simp, hw := hw } (fun T d => by
    obtain ⟨e, w', fr, ⟨v, rfl, hv⟩, hs, _, hl⟩ := h T d [deadFrame]
    obtain ⟨n, hn⟩ := hs
    refine ⟨n, fr, [], w', ?_, rfl, v, hv, hl⟩
    show runN P n (lone (ext [] (Frame.enter P f args .normal)) ([] ++ [deadFrame]) (wl.re T d)) = _
    rw [ext_nil]; exact hn)
  simp only [tl_nil, ext_nil, extX_nil] at hl
  exact hl
theorem comp_call (hp : OkProg P ok) (hid frz : Nat → Nat → Prop) (main : Bool) (c : Frame) (cs : List Frame) {f : FuncId} (h1 : ok f = true) (h2 : okFn P f = true) {args : Array Value} {wl w : World} {R : Value → World → Prop} (hR : ∀ v w T d, R v w → R v (w.re T d))
    (h : ∀ T d, Calls P f args (wl.re T d) fun e w' => ∃ v, e = .returned v ∧ R v w') {n : Nat} {U : World} (hc : Cut hid frz wl) (hw : Weak wl w) (hsh : Shut n U wl) :
    Walk P main (Out hid) (MovB n U hid frz) (fun g w' => ∃ v wl', g = G (c.finish v) cs ∧ R v wl' ∧ Cut hid frz wl' ∧ Weak wl' w' ∧ Shut n U wl') (G (Frame.enter P f args .normal) (c :: cs)) w := by
  have hwk := LW.walk (KS := fun K => K = []) (hid := hid) (frz := frz) [] rfl main (c :: cs) (lw_calls hp h1 h2 hw.self hR h) hc hw hsh
  simp only [tl_nil, ext_nil, extX_nil] at hwk
  refine hwk.bind (Out.refl hid) ?_
  rintro g w' ⟨fr, X, wl', rfl, ⟨⟨rfl, v, hv, hm, hd, hk, fn, hfn, hr⟩, hww⟩, hc', hw', hsh'⟩
  refine Walk.of_step rfl fun w₁ h₁ => ?_
  have hw₁ := hw'.outside hc' h₁
  have hrr : (results fn fr.tmps).runT P wl' #[] = (.ok v wl', ((results fn fr.tmps).runT P wl' #[]).2) := by
    have := Sem.runT_fst P (results fn fr.tmps) wl' #[]
    rw [hr] at this
    rw [← this]
  obtain ⟨w2, h3, h4⟩ := same_run (natural_results fn fr.tmps) hw₁ hrr trivial (fun i hi => absurd hi (by show ¬ wl'.drawn + i < wl'.drawn; omega))
  refine ⟨G (c.finish v) cs, w2, seen P fr.fn ((results fn fr.tmps).runT P wl' #[]).2, ?_, ⟨mov_of hc' h4.seen hw₁.size, fun hb => below_upd hsh' hb hw₁.size h4.upd⟩, .stop fun w₃ h₃ => ⟨v, wl', rfl, hv, hc', ?_, hsh'⟩⟩
  · have : ({ frame := fr, callers := [] ++ c :: cs, status := .running, dying := none } : Goroutine) = G fr ([] ++ c :: cs) := rfl
    simp only [stepG, G, hm, unwind, hd, hfn]
    rw [h3]
    simp [doReturn, hk, GStep.after, Result.setW]
  · exact h4.weak.outside hc' h₃
def AtCode (b : Frame) (k : List Item) (Q : Exit → Act → World → Prop) (fr : Frame) (w : World) : Prop :=
  ∃ e a, Q e a w ∧ match e with
    | .normal => fr = b.at a k
    | .ret => ∃ todo, fr = { b.at a todo with mode := .returning }
    | _ => False
def Tame (Q : Exit → Act → World → Prop) : Prop := ∀ e a w, Q e a w → e = .normal ∨ e = .ret
theorem lw_code (hp : OkProg P ok) {b : Frame} {a : Act} {c : Code} (hf : OkFr P ok (b.at a [.code c])) {wl : World} (hw : Weak wl wl) {Q : Exit → Act → World → Prop} (hT : Tame Q)
    (hQ : ∀ e a w T d, Weak w w → Q e a w → Q e a (w.re T d)) (h : ∀ T d, c.wp P Q a (wl.re T d)) :
    LW P (fun _ => True) (fun fr X w => (extX deadEnd X = [] ∧ AtCode b deadEnd Q (ext (tl deadEnd X) fr) w) ∧ Weak w w) (b.at a [.code c]) [] wl := by
  refine lw_of_runs (KS := fun _ => True) (K₀ := deadEnd) hp trivial (.inr rfl) (Q := fun fr X w => X = [] ∧ AtCode b deadEnd Q fr w) (fun fr X w hq => ?_) (fun fr X w T d h4 hq => ?_)
    { fr := b.at a [.code c], X := [], wl := wl, hfr := hf, hX := by simp, hw := hw } (fun T d => ?_)
  · obtain ⟨_, e, a, hq, hm⟩ := hq
    rcases hT e a w hq with rfl | rfl
    · rw [hm]; exact fun h => h
    · obtain ⟨todo, hm⟩ := hm; rw [hm]; exact fun h => h
  · obtain ⟨h1, e, a, hq, hm⟩ := hq
    exact ⟨h1, e, a, hQ _ _ _ _ _ h4 hq, hm⟩
  · obtain ⟨e, a', w', hq, harr⟩ := h T d b deadEnd [deadFrame]
    rcases hT e a' w' hq with rfl | rfl
    · obtain ⟨n, hn⟩ := harr
      exact ⟨n, _, [], w', hn, rfl, _, a', hq, rfl⟩
    · obtain ⟨todo, n, hn⟩ := harr
      exact ⟨n, _, [], w', hn, rfl, _, a', hq, todo, rfl⟩
theorem comp_code (hp : OkProg P ok) (hid frz : Nat → Nat → Prop) (main : Bool) (cs : List Frame) {b : Frame} {a : Act} {c : Code} (k : List Item) (hf : OkFr P ok (b.at a [.code c])) {wl w : World} {Q : Exit → Act → World → Prop} (hT : Tame Q)
    (hQ : ∀ e a w T d, Weak w w → Q e a w → Q e a (w.re T d)) (h : ∀ T d, c.wp P Q a (wl.re T d)) {n : Nat} {U : World} (hc : Cut hid frz wl) (hw : Weak wl w) (hsh : Shut n U wl) :
    Walk P main (Out hid) (MovB n U hid frz) (fun g w' => ∃ fr wl', g = G fr cs ∧ AtCode b k Q fr wl' ∧ Cut hid frz wl' ∧ Weak wl' w' ∧ Shut n U wl') (G (b.at a (.code c :: k)) cs) w := by
  refine (LW.walk (hid := hid) (frz := frz) k trivial main cs (lw_code hp hf hw.self hT hQ h) hc hw hsh).bind (Out.refl hid) ?_
  rintro g w' ⟨fr, X, wl', rfl, ⟨⟨hX, e, a', hq, hm⟩, _⟩, hc', hw', hsh'⟩
  cases X with
  | cons x X => cases hX
  | nil =>
    refine .stop fun w₁ h₁ => ⟨ext k fr, wl', rfl, ⟨e, a', hq, ?_⟩, hc', hw'.outside hc' h₁, hsh'⟩
    have hm' := hm
    obtain ⟨fn, tmps, todo, defers, mode, kind, roundOf⟩ := fr
    rcases hT e a' wl' hq with rfl | rfl
    · simp only [tl, ext, Frame.at, Frame.mk.injEq] at hm ⊢
      obtain ⟨rfl, rfl, h3, rfl, rfl, rfl, rfl⟩ := hm
      refine ⟨rfl, rfl, ?_, rfl, rfl, rfl, rfl⟩
      have : todo = [] := List.append_cancel_right (as := todo) (bs := deadEnd) (cs := []) (by simpa using h3)
      rw [this]; rfl
    · obtain ⟨td, hm⟩ := hm
      refine ⟨todo ++ k, ?_⟩
      simp only [tl, ext, Frame.at, Frame.mk.injEq] at hm ⊢
      obtain ⟨rfl, rfl, h3, rfl, rfl, rfl, rfl⟩ := hm
      simp
end
end Go.Town
namespace Go.Town
open Go Go.Conc
open Go.ConcN (sumTo upd sumTo_upd upd_ne upd_same sumTo_congr)
def KK : Int := 4294967296
structure WgIs (b o : Nat) (w : World) (s : Int) (m : Int) : Prop where
  st : w.cell? ⟨b, o, none⟩ = some (.int .u64 s)
  sm : w.cell? ⟨b, o + 1, none⟩ = some (.int .u32 m)
  thaw : w.frozen? ⟨b, o, none⟩ = false ∧ w.frozen? ⟨b, o + 1, none⟩ = false
def Live (b o : Nat) (w : World) : Prop := ∃ s m, WgIs b o w s m
inductive Port where
  | recv (c : Nat) (z : Value) (ok : Bool)
  | send (c : Nat) (v z : Value)
def Port.cases : Port → Array CommCase
  | .recv c z _ => #[rcase c z]
  | .send c v z => #[scase c v z]
def Port.shape : Port → CommShape
  | .recv _ _ ok => .recv ok
  | .send .. => .send
def Port.chan : Port → Nat
  | .recv c .. | .send c .. => c
def Port.out : Port → Bool
  | .recv .. => false
  | .send .. => true
inductive Tag where
  | w0 | w1a | w1 | w2 (v : Nat) | w3 | w4 | w5 | w6
  deriving DecidableEq
inductive Role where
  | self (k d : Nat)
  | seat (p : Port) (home : Goroutine → World → Prop)
  | shut (p : Port) (home : Goroutine → World → Prop)
  | done | rel | deaf | last2 | last3 | last4
  | quit (d : Nat)
  | wait (t : Tag)
  | none
def Role.loose : Role → Bool
  | .seat .. | .shut .. | .done => true
  | _ => false
def Role.count : Role → Nat
  | .self k _ => k
  | .seat .. | .shut .. | .done | .rel | .deaf => 1
  | _ => 0
def Role.isLast : Role → Bool
  | .last2 | .last3 | .last4 => true
  | _ => false
def Role.dd : Role → Nat
  | .self _ d => d
  | .deaf | .last2 | .last3 | .last4 => 1
  | .quit d => d
  | .wait .w1a | .wait .w1 | .wait (.w2 _) | .wait .w3 | .wait .w4 | .wait .w5 => 1
  | _ => 0
def Role.rank : Role → Nat
  | .seat .. => 9
  | .shut .. => 8
  | .done => 7
  | .rel => 6
  | .deaf => 5
  | .last2 => 4
  | .last3 => 3
  | .last4 => 2
  | .quit _ => 1
  | _ => 0
def Role.isSelf : Role → Bool
  | .self .. => true
  | _ => false
section
variable (P : Program) (C : Cfg) (b o : Nat)
structure RB (i : Nat) (w w₁ : World) : Prop where
  live : C.on → Live b o w → Live b o w₁
  cells : ∀ x k, C.Pv i (.cell ⟨x, k, none⟩) ∨ C.St i (.cell ⟨x, k, none⟩) → w₁.cell? ⟨x, k, none⟩ = w.cell? ⟨x, k, none⟩ ∧ w₁.frozen? ⟨x, k, none⟩ = w.frozen? ⟨x, k, none⟩
  objs : ∀ r, C.Pv i (.obj r) ∨ C.St i (.obj r) → w₁.heap[r]? = w.heap[r]?
def EvR (i : Nat) (e : Event) : Prop :=
  ((MemAct.ofEvent e).touch? = none ∨ ∃ x, (MemAct.ofEvent e).touch? = some x ∧ ¬ C.Sh x.loc ∧ (C.Pv i x.loc ∨ x.write = false ∧ C.St i x.loc)) ∧ e.loc ≠ .mark .disable ∧ e.loc ≠ .mark .enable ∧ ∀ x, e.loc ≠ .mark (.release x)
def DR (i : Nat) (w w' : World) (es : Array Event) : Prop := Out (fun x k => C.Pv i (.cell ⟨x, k, none⟩)) w w' ∧ ∀ e ∈ es, EvR C i e
def D0 (w w' : World) (es : Array Event) : Prop := w' = w ∧ es = #[]
def DW (w w' : World) (es : Array Event) : Prop := w' = w ∧ ∀ e ∈ es, e = ⟨.mark (.write ⟨b, o + 1, none⟩), false, true⟩
def AtPort (main : Bool) (p : Port) (g g₂ : Goroutine) : Prop :=
  g.status = .running ∧ g.frame = g₂.frame ∧ g.callers = g₂.callers ∧ g.dying = g₂.dying ∧ ∀ w, stepG P main g w = .comm g₂ p.cases true p.shape w #[]
def Sits (i : Nat) (p : Port) (home : Goroutine → World → Prop) (n : Nat) (g : Goroutine) (w : World) : Prop :=
  (∃ k, n = k + 1 ∧ Goes P (i == 0) (RB C b o i) (DR C i) (fun g w => ∃ g₂, AtPort P (i == 0) p g g₂ ∧ home g₂ w) k g w) ∨ (n = 0 ∧ ∃ g₀ g₂, g = parked g₂ p.cases p.shape ∧ AtPort P (i == 0) p g₀ g₂ ∧ home g₂ w)
section
variable (i : Nat)
def rdE (a : Addr) : Event := ⟨.cell a, false, true⟩
def wrE (a : Addr) : Event := ⟨.cell a, true, true⟩
def mkE (m : Mark) : Event := ⟨.mark m, false, true⟩
def AtD4 (g : Goroutine) (w : World) : Prop :=
  g.status = .running ∧ mayWake P g = true ∧ (WgIs b o w 0 0 → ∃ g', g'.status = .running ∧ stepG P false g w = .go g' (w.setCell ⟨b, o + 1, none⟩ (.int .u32 1)) (semEvents ⟨b, o + 1, none⟩) ∧ ∃ q, QuitsD P q 1 g')
def AtD3 (g : Goroutine) (w : World) : Prop :=
  g.status = .running ∧ (WgIs b o w 1 0 → ∃ g', stepG P false g w = .go g' (w.setCell ⟨b, o, none⟩ (.int .u64 0)) #[wrE ⟨b, o, none⟩] ∧ ∃ m, Goes P false (RB C b o i) D0 (AtD4 P b o) m g' (w.setCell ⟨b, o, none⟩ (.int .u64 0)))
def AtD2 (g : Goroutine) (w : World) : Prop :=
  g.status = .running ∧ (WgIs b o w 1 0 → ∃ g', stepG P false g w = .go g' w #[rdE ⟨b, o, none⟩] ∧ ∃ m, Goes P false (RB C b o i) D0 (AtD3 P C b o i) m g' w)
def AtD1 (g : Goroutine) (w : World) : Prop :=
  g.status = .running ∧ ∀ v wt : Nat, wt ≤ 1 → v < 2147483647 → WgIs b o w ((v + 1 : Nat) * KK + wt) 0 →
    ∃ g', stepG P false g w = .go g' (w.setCell ⟨b, o, none⟩ (.int .u64 (v * KK + wt))) #[rdE ⟨b, o, none⟩, wrE ⟨b, o, none⟩] ∧
      ((v = 0 ∧ wt = 1) → ∃ m, Goes P false (RB C b o i) D0 (AtD2 P C b o i) m g' (w.setCell ⟨b, o, none⟩ (.int .u64 (v * KK + wt)))) ∧ (¬ (v = 0 ∧ wt = 1) → ∃ q, QuitsD P q 1 g')
def AtK1 (g : Goroutine) (w : World) : Prop :=
  g.status = .running ∧ ∃ g', stepG P false g w = .go g' w #[mkE .disable] ∧ ∃ m, Goes P false (RB C b o i) D0 (AtD1 P C b o i) m g' w
def AtR0 (g : Goroutine) (w : World) : Prop :=
  g.status = .running ∧ ∃ g', stepG P false g w = .go g' w #[mkE (.releaseMerge ⟨b, o, none⟩)] ∧ ∃ m, Goes P false (RB C b o i) D0 (AtK1 P C b o i) m g' w
end
section
variable (Anch Fin : Goroutine → World → Prop)
def AtAcq (g : Goroutine) (w : World) : Prop :=
  g.status = .running ∧ ∃ g', stepG P true g w = .go g' w #[mkE (.acquire ⟨b, o, none⟩)] ∧ Fin g' w
def AtKe (g : Goroutine) (w : World) : Prop :=
  g.status = .running ∧ ∃ g', stepG P true g w = .go g' w #[mkE .enable] ∧ ∃ m, Goes P true (RB C b o 0) (DW b o) (AtAcq P b o Fin) m g' w
def AtW4 (g : Goroutine) (w : World) : Prop :=
  g.status = .running ∧ (WgIs b o w 0 0 → ∃ g', stepG P true g w = .go g' w #[rdE ⟨b, o, none⟩] ∧ ∃ m, Goes P true (RB C b o 0) (DW b o) (AtKe P C b o Fin) m g' w)
def AtW3 (g : Goroutine) (w : World) : Prop :=
  g.status = .running ∧ g.offers = none ∧ ((∃ s, WgIs b o w s 0) → stepG P true g w = .go { g with status := .blocked } w #[]) ∧
    (WgIs b o w 0 1 → ∃ g', stepG P true g w = .go g' (w.setCell ⟨b, o + 1, none⟩ (.int .u32 0)) (semEvents ⟨b, o + 1, none⟩) ∧ ∃ m, Goes P true (RB C b o 0) (DW b o) (AtW4 P C b o Fin) m g' (w.setCell ⟨b, o + 1, none⟩ (.int .u32 0)))
def AtW2 (vs : Nat) (g : Goroutine) (w : World) : Prop :=
  g.status = .running ∧ ∀ v : Nat, v < 2147483648 → WgIs b o w (v * KK) 0 →
    (v = vs → ∃ g', stepG P true g w = .go g' (w.setCell ⟨b, o, none⟩ (.int .u64 (v * KK + 1))) #[rdE ⟨b, o, none⟩, wrE ⟨b, o, none⟩] ∧ ∃ m, Goes P true (RB C b o 0) (DW b o) (AtW3 P C b o Fin) m g' (w.setCell ⟨b, o, none⟩ (.int .u64 (v * KK + 1)))) ∧
    (v ≠ vs → ∃ g', stepG P true g w = .go g' w #[rdE ⟨b, o, none⟩] ∧ ∃ m, Goes P true (RB C b o 0) (DW b o) Anch m g' w)
def AtW1 (g : Goroutine) (w : World) : Prop :=
  g.status = .running ∧ ∀ v : Nat, v < 2147483648 → WgIs b o w (v * KK) 0 → ∃ g', stepG P true g w = .go g' w #[rdE ⟨b, o, none⟩] ∧
    (v = 0 → ∃ m, Goes P true (RB C b o 0) (DW b o) (AtKe P C b o Fin) m g' w) ∧ (v ≠ 0 → ∃ m, Goes P true (RB C b o 0) (DW b o) (AtW2 P C b o Anch Fin v) m g' w)
def AtKd (g : Goroutine) (w : World) : Prop :=
  g.status = .running ∧ ∃ g', stepG P true g w = .go g' w #[mkE .disable] ∧ ∃ m, Goes P true (RB C b o 0) (DW b o) Anch m g' w
def Waits : Tag → Nat → Goroutine → World → Prop
  | .w0, n, g, w => Goes P true (RB C b o 0) (DW b o) (AtKd P C b o Anch) n g w
  | .w1a, n, g, w => Goes P true (RB C b o 0) (DW b o) Anch n g w
  | .w1, n, g, w => Goes P true (RB C b o 0) (DW b o) (AtW1 P C b o Anch Fin) n g w
  | .w2 v, n, g, w => 0 < v ∧ Goes P true (RB C b o 0) (DW b o) (AtW2 P C b o Anch Fin v) n g w
  | .w3, n, g, w => (∃ k, n = k + 1 ∧ Goes P true (RB C b o 0) (DW b o) (AtW3 P C b o Fin) k g w) ∨ (n = 0 ∧ ∃ g₀, AtW3 P C b o Fin g₀ w ∧ g = { g₀ with status := .blocked } ∧ ∀ w₁, RB C b o 0 w w₁ → AtW3 P C b o Fin g₀ w₁)
  | .w4, n, g, w => Goes P true (RB C b o 0) (DW b o) (AtW4 P C b o Fin) n g w
  | .w5, n, g, w => Goes P true (RB C b o 0) (DW b o) (AtKe P C b o Fin) n g w
  | .w6, n, g, w => Goes P true (RB C b o 0) (DW b o) (AtAcq P b o Fin) n g w
end
def InRole (Anch Fin : Goroutine → World → Prop) (i : Nat) (r : Role) (n : Nat) (g : Goroutine) (w : World) : Prop :=
  match r with
  | .self .. => True
  | .shut p home => 0 < i ∧ (∀ w w₁ g, RB C b o i w w₁ → home g w → home g w₁) ∧ (∃ c z ok, p = .recv c z ok ∧ ∀ g₂ w, home g₂ w → ∃ m, Goes P false (RB C b o i) (DR C i) (AtR0 P C b o i) m (Go.Conc.served g₂ (recvd ok z false)) w) ∧
      Goes P false (RB C b o i) (DR C i) (fun g w => ∃ g₂, AtPort P false p g g₂ ∧ home g₂ w) n g w
  | .seat p home => (∀ w w₁ g, RB C b o i w w₁ → home g w → home g w₁) ∧ Sits P C b o i p home n g w
  | .done => 0 < i ∧ Goes P false (RB C b o i) (DR C i) (AtR0 P C b o i) n g w
  | .rel => 0 < i ∧ Goes P false (RB C b o i) D0 (AtK1 P C b o i) n g w
  | .deaf => 0 < i ∧ Goes P false (RB C b o i) D0 (AtD1 P C b o i) n g w
  | .last2 => 0 < i ∧ Goes P false (RB C b o i) D0 (AtD2 P C b o i) n g w
  | .last3 => 0 < i ∧ Goes P false (RB C b o i) D0 (AtD3 P C b o i) n g w
  | .last4 => 0 < i ∧ Goes P false (RB C b o i) D0 (AtD4 P b o) n g w
  | .quit d => 0 < i ∧ QuitsD P n d g
  | .wait t => i = 0 ∧ Waits P C b o Anch Fin t n g w
  | .none => False
end
section
variable {P : Program} {C : Cfg} {b o : Nat} {Anch Fin : Goroutine → World → Prop}
theorem RB.refl (i : Nat) (w : World) : RB C b o i w w := ⟨fun _ => id, fun _ _ _ => ⟨rfl, rfl⟩, fun _ _ => rfl⟩
theorem RB.trans {i : Nat} : ∀ a d e, RB C b o i a d → RB C b o i d e → RB C b o i a e := fun _ _ _ h k =>
  ⟨fun c x => k.live c (h.live c x), fun x j hx => ⟨(k.cells x j hx).1.trans (h.cells x j hx).1, (k.cells x j hx).2.trans (h.cells x j hx).2⟩, fun r hr => (k.objs r hr).trans (h.objs r hr)⟩
theorem RB.at (i : Nat) (w : World) (d : Nat) : RB C b o i w (w.at d) := ⟨fun _ ⟨s, m, h⟩ => ⟨s, m, h.st, h.sm, h.thaw⟩, fun _ _ _ => ⟨rfl, rfl⟩, fun _ _ => rfl⟩
theorem InRole.rely {i : Nat} {r : Role} {n : Nat} {g : Goroutine} {w w₁ : World} (h : InRole P C b o Anch Fin i r n g w) (hr : RB C b o i w w₁) : InRole P C b o Anch Fin i r n g w₁ := by
  cases r with
  | self k d => trivial
  | shut p home => exact ⟨h.1, h.2.1, h.2.2.1, Goes.rely RB.trans h.2.2.2 hr⟩
  | seat p home =>
    refine ⟨h.1, ?_⟩
    rcases h.2 with ⟨k, rfl, hg⟩ | ⟨rfl, g₀, g₂, rfl, hat, hh⟩
    · exact .inl ⟨k, rfl, hg.rely RB.trans hr⟩
    · exact .inr ⟨rfl, g₀, g₂, rfl, hat, h.1 _ _ _ hr hh⟩
  | done => exact ⟨h.1, Goes.rely RB.trans h.2 hr⟩
  | rel => exact ⟨h.1, Goes.rely RB.trans h.2 hr⟩
  | deaf => exact ⟨h.1, Goes.rely RB.trans h.2 hr⟩
  | last2 => exact ⟨h.1, Goes.rely RB.trans h.2 hr⟩
  | last3 => exact ⟨h.1, Goes.rely RB.trans h.2 hr⟩
  | last4 => exact ⟨h.1, Goes.rely RB.trans h.2 hr⟩
  | quit d => exact h
  | none => exact h
  | wait t =>
    obtain ⟨rfl, h⟩ := h
    refine ⟨rfl, ?_⟩
    cases t with
    | w3 =>
      rcases h with ⟨k, rfl, hg⟩ | ⟨rfl, g₀, h1, rfl, h2⟩
      · exact .inl ⟨k, rfl, hg.rely RB.trans hr⟩
      · exact .inr ⟨rfl, g₀, h2 _ hr, rfl, fun w₂ h₂ => h2 _ (RB.trans _ _ _ hr h₂)⟩
    | w2 v => exact ⟨h.1, Goes.rely RB.trans h.2 hr⟩
    | _ => exact Goes.rely RB.trans h hr
theorem InRole.status (hA : ∀ g w, Anch g w → g.status = .running) {i : Nat} {r : Role} {n : Nat} {g : Goroutine} {w : World} (h : InRole P C b o Anch Fin i r n g w) (hs : r.isSelf = false) :
    g.status = .running ∨ g.status = .finished ∨ (g.status = .blocked ∧ n = 0 ∧ ((∃ p home, r = .seat p home) ∨ r = .wait .w3)) := by
  cases r with
  | self k d => cases hs
  | shut p home => exact .inl (h.2.2.2.running (fun _ _ x => x.choose_spec.1.1) w (RB.refl i w))
  | seat p home =>
    rcases h.2 with ⟨k, rfl, hg⟩ | ⟨rfl, g₀, g₂, rfl, hat, hh⟩
    · exact .inl (hg.running (fun _ _ x => x.choose_spec.1.1) w (RB.refl i w))
    · exact .inr (.inr ⟨rfl, rfl, .inl ⟨_, _, rfl⟩⟩)
  | done => exact .inl (h.2.running (fun _ _ x => x.1) w (RB.refl i w))
  | rel => exact .inl (h.2.running (fun _ _ x => x.1) w (RB.refl i w))
  | deaf => exact .inl (h.2.running (fun _ _ x => x.1) w (RB.refl i w))
  | last2 => exact .inl (h.2.running (fun _ _ x => x.1) w (RB.refl i w))
  | last3 => exact .inl (h.2.running (fun _ _ x => x.1) w (RB.refl i w))
  | last4 => exact .inl (h.2.running (fun _ _ x => x.1) w (RB.refl i w))
  | quit d => exact h.2.status.imp id .inl
  | none => exact h.elim
  | wait t =>
    obtain ⟨rfl, h⟩ := h
    cases t with
    | w3 =>
      rcases h with ⟨k, rfl, hg⟩ | ⟨rfl, g₀, h1, rfl, h2⟩
      · exact .inl (hg.running (fun _ _ x => x.1) w (RB.refl 0 w))
      · exact .inr (.inr ⟨rfl, rfl, .inr rfl⟩)
    | w0 => exact .inl (Goes.running (fun _ _ x => x.1) w (RB.refl 0 w) h)
    | w1a => exact .inl (Goes.running hA w (RB.refl 0 w) h)
    | w1 => exact .inl (Goes.running (fun _ _ x => x.1) w (RB.refl 0 w) h)
    | w2 v => exact .inl (Goes.running (fun _ _ x => x.1) w (RB.refl 0 w) h.2)
    | w4 => exact .inl (Goes.running (fun _ _ x => x.1) w (RB.refl 0 w) h)
    | w5 => exact .inl (Goes.running (fun _ _ x => x.1) w (RB.refl 0 w) h)
    | w6 => exact .inl (Goes.running (fun _ _ x => x.1) w (RB.refl 0 w) h)
end
end Go.Town
