/-
  The beginning; a new company behind a former one; a child that holds from its start while goroutine 0 waits.
  Words for walks through the WaitGroup's functions wherever the WaitGroup lies.
-/
import Derived.Conc.WgGenN
import Derived.Conc.CrowdMono
import Derived.Test.YtihmcigoofhpmaaZao
set_option linter.all false
namespace Go.Town
open Go Go.Conc
open Go.ConcN (sumTo upd sumTo_upd upd_ne upd_same sumTo_congr le_sumTo)
def Cfg.empty (ad : Addr) : Cfg := { St := fun _ _ => False, Pv := fun _ _ => False, Sh := fun _ => False, Gr := fun _ => False, Dd := fun _ => False, on := False, ad := ad }
def ρ₀ (j : Nat) : Role := if j = 0 then .self 0 0 else .none
theorem ρ₀_other {j : Nat} (h : j ≠ 0) : ρ₀ j = .none := if_neg h
theorem hush₀ : Hush ρ₀ := fun j => by
  by_cases e : j = 0
  · subst e; exact .inr (.inr rfl)
  · exact .inl (ρ₀_other e)
section
variable {P : Program} {C : Cfg} {b o : Nat} {Anch Fin : Goroutine → World → Prop} {who who' : Option Nat} {rel rel' : Nat → Prop} {ρ : Nat → Role} {q : Nat → Nat} {gs gs' : Array Goroutine} {w w' : World} {t t' u : Trace} {sl : Option (Nat × Nat)}
variable {Post : Value → World → Prop} {h k d : Nat} {a : Goroutine}
theorem tr_empty {C : Cfg} {Loose rel : Nat → Prop} {n : Nat} {K : Nat → Prop} (hr : ∀ p, ¬ rel p) : Tr C Loose rel n (fun _ => 0) K #[] := by
  have no : ∀ {i : Nat} {a : Touch}, touchAt (#[] : Trace) i = some a → False := fun h => by
    obtain ⟨x, hx, _⟩ := touch_of h
    simp at hx
  refine ⟨fun said => ?_, fun i a h => (no h).elim, fun i a h => (no h).elim, fun i a h => (no h).elim, fun i a g h => (no h).elim, fun i a g h => (no h).elim, fun g => rfl, fun p hp => absurd hp (hr p), fun op hop => by simp at hop⟩
  rintro ⟨i, j, _, ⟨a, b, h, _⟩, _⟩
  simp [Trace.act?] at h
theorem Town.start (P : Program) (b o : Nat) (Anch Fin : Goroutine → World → Prop) (a : Goroutine) (w : World) : Town P (Cfg.empty ⟨b, o, none⟩) b o Anch Fin (some 0) (fun _ => False) ρ₀ (fun _ => 0) #[a] w #[] := by
  have dd0 : (fun j => (ρ₀ j).dd) = fun _ => 0 := by
    funext j
    by_cases e : j = 0
    · subst e; rfl
    · rw [ρ₀_other e]; rfl
  refine ⟨⟨fun _ _ _ h => h.elim, fun _ _ h => h.elim, fun _ h => h.elim⟩, rfl, fun l => ⟨fun h => h.elim, fun h => h.1.elim⟩, fun _ h => h.elim, fun _ h => h.elim, fun _ _ h => h.elim False.elim False.elim, fun _ _ h => h.elim False.elim False.elim, fun _ _ _ h => h.elim False.elim False.elim, fun _ _ h => h.elim False.elim False.elim, ?_, fun i g hg => ?_, fun i hi => ?_, fun i p home e => ?_, fun i j p p' h h' e e' => ?_, fun i p home e => ?_, fun i k d e => ?_, fun x hx => .inl (some_inj hx).symm, ?_, fun h => h.elim, fun _ j => ?_, by simp, fun e => ?_⟩
  · rw [dd0]; exact tr_empty fun _ h => h
  · have : i = 0 := by
      have := (Array.getElem?_eq_some_iff.1 hg).1
      simp at this; exact this
    subst this; trivial
  · simp at hi; exact ρ₀_other (by omega)
  · by_cases e' : i = 0
    · subst e'; cases e
    · rw [ρ₀_other e'] at e; cases e
  · by_cases e'' : i = 0
    · subst e''; cases e
    · rw [ρ₀_other e''] at e; cases e
  · by_cases e' : i = 0
    · subst e'; cases e
    · rw [ρ₀_other e'] at e; cases e
  · by_cases e' : i = 0
    · subst e'; rfl
    · rw [ρ₀_other e'] at e; cases e
  · simp [cnt, sumTo, ρ₀, Role.count]
  · by_cases e : j = 0
    · subst e; exact rfl
    · rw [ρ₀_other e]; trivial
  · cases e
theorem Town.anew (T : Town P C b o Anch Fin (some 0) (fun _ => False) ρ q gs w t) (hr : ρ 0 = .self 0 0) (hc : Hush ρ) (on : Prop) (b' o' : Nat) (Anch' Fin' : Goroutine → World → Prop)
    (hw : on → WgIs b' o' w 0 0 ∧ ∀ k, k = o' ∨ k = o' + 1 → ¬ C.Sh (.cell ⟨b', k, none⟩) ∧ ¬ C.Gr (.cell ⟨b', k, none⟩)) :
    Town P (C.anew gs.size (fun l => on ∧ (l = .cell ⟨b', o', none⟩ ∨ l = .cell ⟨b', o' + 1, none⟩)) on ⟨b', o', none⟩) b' o' Anch' Fin' (some 0) (fun _ => False) ρ q gs w t := by
  have hself : ∀ j, (ρ j).isSelf = true → j = 0 := fun j hj => self_is T hj
  have hrest : ∀ j, j ≠ 0 → ρ j = .none ∨ ∃ d, ρ j = .quit d := fun j hj => by
    rcases hc j with h | h | h
    · exact .inl h
    · exact .inr h
    · exact absurd (hself j h) hj
  have hquit : ∀ j, 0 < j → j < gs.size → ∃ d, ρ j = .quit d := fun j h0 hj => by
    rcases hrest j (by omega) with h | h
    · have := T.roles j _ (Array.getElem?_eq_getElem hj)
      rw [h] at this; exact this.elim
    · exact h
  have hnl : ∀ g, ¬ (ρ g).loose = true := fun g hg => by
    by_cases e : g = 0
    · subst e; rw [hr] at hg; cases hg
    · rcases hrest g e with h | ⟨d, h⟩ <;> rw [h] at hg <;> cases hg
  have hlf : (fun i => (ρ i).loose = true) = fun _ => False := by
    funext i; exact propext ⟨hnl i, False.elim⟩
  have hSh : ∀ l, on ∧ (l = Loc.cell ⟨b', o', none⟩ ∨ l = .cell ⟨b', o' + 1, none⟩) → ¬ C.Sh l ∧ ¬ C.Gr l := by
    rintro l ⟨h, rfl | rfl⟩
    · exact (hw h).2 _ (.inl rfl)
    · exact (hw h).2 _ (.inr rfl)
  have hnd : ¬ C.Dd 0 := T.notDd (by rw [hr]; simp)
  have htr := T.tr.anew (S := fun l => on ∧ (l = Loc.cell ⟨b', o', none⟩ ∨ l = .cell ⟨b', o' + 1, none⟩)) (on := on) (ad := ⟨b', o', none⟩) T.some1 hnd hnl (fun _ h => h) (fun l hl => ⟨by rcases hl.2 with rfl | rfl <;> rfl, hSh l hl⟩)
  have hcz : ∀ n, cnt ρ n = 0 := fun n => by
    induction n with
    | zero => rfl
    | succ n ih =>
      show cnt ρ n + _ = 0
      rw [ih]; show 0 + (ρ n).count = 0
      by_cases e : n = 0
      · subst e; rw [hr]; rfl
      · rcases hrest n e with h | ⟨d, h⟩ <;> rw [h] <;> rfl
  have hno : ∀ j r, (r.isSelf = false) → (∀ d, r ≠ .quit d) → r ≠ .none → ρ j ≠ r := fun j r h1 h2 h3 e => by
    by_cases ej : j = 0
    · subst ej; rw [hr] at e; subst e; cases h1
    · rcases hrest j ej with h | ⟨d, h⟩
      · exact h3 (e.symm.trans h)
      · exact h2 d (e.symm.trans h)
  refine ⟨⟨fun _ _ _ h => h.elim, fun _ _ _ => ⟨id, id⟩, fun l hl => ⟨fun h => ?_, fun _ => ⟨id, id⟩⟩⟩, rfl, fun l => Iff.rfl, fun l hl => ?_, fun g hg => hquit g hg.1 hg.2, fun _ _ h => h.elim False.elim False.elim, fun _ _ h => h.elim False.elim False.elim, fun _ _ _ h => h.elim False.elim False.elim, fun _ _ h => h.elim False.elim False.elim, ?_, fun i g hg => ?_, T.above, fun i p home e => absurd e (hno i _ rfl (fun d e => by cases e) (fun e => by cases e)), fun i j p p' h h' e => absurd e (hno i _ rfl (fun d e => by cases e) (fun e => by cases e)), fun i p home e => absurd e (hno i _ rfl (fun d e => by cases e) (fun e => by cases e)), T.one, T.holder, T.few, fun hon => ?_, fun _ j => ?_, T.some1, fun e => absurd e (hno 0 _ rfl (fun d e => by cases e) (fun e => by cases e))⟩
  · have := hSh l h
    rcases hl with hl | hl
    · exact this.2 hl
    · exact this.1 hl
  · rcases hl with hl | hl
    · exact T.grs l hl
    · obtain ⟨hon, h⟩ := (T.shs l).1 hl
      have hwg := (T.wg hon).live
      obtain ⟨s, m, hwg⟩ := hwg
      have hb := block_lt hwg.st
      rcases h with rfl | rfl
      · exact ⟨b, o, rfl, hb⟩
      · exact ⟨b, o + 1, rfl, hb⟩
  · rw [hlf]; exact htr
  · have hrole := T.roles i g hg
    by_cases e : i = 0
    · subst e; rw [hr]; trivial
    · rcases hrest i e with h | ⟨d, h⟩
      · rw [h] at hrole; exact hrole.elim
      · rw [h] at hrole ⊢; exact hrole
  · unfold WgOk
    rw [hr]
    refine ⟨fun j => ?_, by rw [hcz]; simpa using (hw hon).1⟩
    by_cases e : j = 0
    · subst e; rw [hr]; rfl
    · rcases hrest j e with h | ⟨d, h⟩ <;> rw [h] <;> rfl
  · by_cases e : j = 0
    · subst e; rw [hr]; exact rfl
    · rcases hrest j e with h | ⟨d, h⟩ <;> rw [h] <;> trivial
end
end Go.Town
namespace Go.Town
open Go Go.Conc Go.Conc.Lib Go.ConcR Go.ConcR.Gen
structure Wk (R : World → World → Prop) (D : World → World → Array Event → Prop) (I : World → Prop) : Prop where
  keep : ∀ w w₁, R w w₁ → I w → I w₁
  quiet : ∀ w, D w w #[]
section
variable {P : Program} {main : Bool} {R : World → World → Prop} {D : World → World → Array Event → Prop} {Stop : Goroutine → World → Prop} {I : World → Prop} {n d : Nat} {b : Frame} {a : Act} {k : List Item} {cs : List Frame} {ops : Array Oper} {i : Nat} {rest : List Nat} {o : Oper} {w : World}
theorem Wk.ctl (W : Wk R D I) {g g' : Goroutine} (hrun : g.status = .running) (hst : ∀ w, stepG P main g w = .go g' w #[]) (h : ∃ n, ∀ w, I w → Goes P main R D Stop n g' w) : ∃ n, ∀ w, I w → Goes P main R D Stop n g w := by
  obtain ⟨n, h⟩ := h
  exact ⟨n + 1, fun w hK => Goes.step hrun fun w₁ h₁ => by rw [hst w₁]; exact ⟨W.quiet w₁, h w₁ (W.keep _ _ h₁ hK)⟩⟩
theorem Wk.look (W : Wk R D I) {g g' : Goroutine} (hrun : g.status = .running) (hst : ∀ w, I w → stepG P main g w = .go g' w #[]) (h : ∃ n, ∀ w, I w → Goes P main R D Stop n g' w) : ∃ n, ∀ w, I w → Goes P main R D Stop n g w := by
  obtain ⟨n, h⟩ := h
  exact ⟨n + 1, fun w hK => Goes.step hrun fun w₁ h₁ => by
    have hK₁ := W.keep _ _ h₁ hK
    rw [hst w₁ hK₁]; exact ⟨W.quiet w₁, h w₁ hK₁⟩⟩
theorem Wk.stop (W : Wk R D I) {g : Goroutine} (h : ∀ w, I w → Stop g w) : ∃ n, ∀ w, I w → Goes P main R D Stop n g w := ⟨0, fun _ hK => Goes.stop fun w₁ h₁ => h w₁ (W.keep _ _ h₁ hK)⟩
theorem Wk.here {g : Goroutine} (hK : I w) (h : ∃ n, ∀ w, I w → Goes P main R D Stop n g w) : ∃ n, Goes P main R D Stop n g w := h.imp fun _ h => h w hK
theorem listed_nil {P : Program} {fn : FuncId} {a : Act} {o : Oper} {w : World} (h : (execOp a.eval o).events P w #[] = #[]) : listed P fn a o w = #[] := by
  refine Array.eq_empty_iff_forall_not_mem.2 fun e he => ?_
  have := mem_listed he
  rw [h] at this
  simp at this
theorem Wk.said (W : Wk R D I) {g g' : Goroutine} {es : Array Event} (hD : ∀ w, D w w es) (hrun : g.status = .running) (hst : ∀ w, I w → stepG P main g w = .go g' w es) (h : ∃ n, ∀ w, I w → Goes P main R D Stop n g' w) : ∃ n, ∀ w, I w → Goes P main R D Stop n g w := by
  obtain ⟨n, h⟩ := h
  exact ⟨n + 1, fun w hK => Goes.step hrun fun w₁ h₁ => by
    have hK₁ := W.keep _ _ h₁ hK
    rw [hst w₁ hK₁]; exact ⟨hD w₁, h w₁ hK₁⟩⟩
def Stb (R : World → World → Prop) (St : Goroutine → World → Prop) (g : Goroutine) (w : World) : Prop := ∀ w₁, R w w₁ → St g w₁
theorem Wk.stb (W : Wk R D I) {St : Goroutine → World → Prop} {g : Goroutine} (h : ∀ w, I w → St g w) : ∃ n, ∀ w, I w → Goes P main R D (Stb R St) n g w := ⟨0, fun _ hK => Goes.stop fun w₁ h₁ w₂ h₂ => h w₂ (W.keep _ _ h₂ (W.keep _ _ h₁ hK))⟩
theorem Wk.val (W : Wk R D I) (ho : ops[i]? = some o) (hw : Region.wanted o (yielded ops a.tmps) = true) (hk : b.kind ≠ .early) (he : ∀ w, (execOp a.eval o).events P w #[] = #[])
    (h : ∀ K : (World → Result Next) → Prop, (∀ v, (∃ n, ∀ w, I w → Goes P main R D Stop n (G (b.at (a.put o.dst v) (.inRegion ops rest :: k)) cs) w) → K (fun w => .ok (.value v) w)) → K (fun w => (execOp a.eval o).run P w)) :
    ∃ n, ∀ w, I w → Goes P main R D Stop n (G (b.at a (.inRegion ops (i :: rest) :: k)) cs) w := by
  obtain ⟨v, h1, h2⟩ := h (fun f => ∃ v, (∀ w, f w = .ok (.value v) w) ∧ ∃ n, ∀ w, I w → Goes P main R D Stop n (G (b.at (a.put o.dst v) (.inRegion ops rest :: k)) cs) w) (fun v hq => ⟨v, fun _ => rfl, hq⟩)
  refine W.ctl rfl (fun w => ?_) h2
  rw [stepG_value ho hw hk (h1 w), listed_nil (he w)]
theorem Wk.valI (W : Wk R D I) (v : Value) (ho : ops[i]? = some o) (hw : Region.wanted o (yielded ops a.tmps) = true) (hk : b.kind ≠ .early) (he : ∀ w, I w → (execOp a.eval o).run P w = .ok (.value v) w ∧ (execOp a.eval o).events P w #[] = #[])
    (h : ∃ n, ∀ w, I w → Goes P main R D Stop n (G (b.at (a.put o.dst v) (.inRegion ops rest :: k)) cs) w) : ∃ n, ∀ w, I w → Goes P main R D Stop n (G (b.at a (.inRegion ops (i :: rest) :: k)) cs) w := by
  refine W.look rfl (fun w hw' => ?_) h
  rw [stepG_value ho hw hk (he w hw').1, listed_nil (he w hw').2]
theorem qs_ctl {g g' : Goroutine} (hs : g.status = .running) (h : ∀ w, stepG P false g w = .go g' w #[]) (hq : ∃ n, QuitsD P n d g') : ∃ n, QuitsD P n d g := hq.elim fun n hq => ⟨n + 1, .ctl hs h hq⟩
theorem qs_val (ho : ops[i]? = some o) (hw : Region.wanted o (yielded ops a.tmps) = true) (hk : b.kind ≠ .early) (he : ∀ w, (execOp a.eval o).events P w #[] = #[])
    (h : ∀ K : (World → Result Next) → Prop, (∀ v, (∃ n, QuitsD P n d (G (b.at (a.put o.dst v) (.inRegion ops rest :: k)) cs)) → K (fun w => .ok (.value v) w)) → K (fun w => (execOp a.eval o).run P w)) : ∃ n, QuitsD P n d (G (b.at a (.inRegion ops (i :: rest) :: k)) cs) := by
  obtain ⟨v, h1, n, h2⟩ := h (fun f => ∃ v, (∀ w, f w = .ok (.value v) w) ∧ ∃ n, QuitsD P n d (G (b.at (a.put o.dst v) (.inRegion ops rest :: k)) cs)) (fun v hq => ⟨v, fun _ => rfl, hq⟩)
  exact ⟨n + 1, QuitsD.value v ho hw hk h1 he h2⟩
theorem qs_enable {L : WgLink} (H : WgLib P L) {ds : List Deferred} {todo : List Item} (hd : a.defers = dcall L.enable #[] :: ds) (hq : ∃ n, QuitsD P n 0 (G { b.at ⟨a.tmps, ds⟩ todo with mode := .returning } cs)) : ∃ n, QuitsD P n 1 (G { b.at a todo with mode := .returning } cs) :=
  hq.elim fun n hq => ⟨n + 1, QuitsD.unwind_mark .enable rfl (by simp) hd H.f_enable (x_enable_n L) (x_enable_b L) (x_enable_x L) (x_enable_f L) hq⟩
end
section
variable {P : Program} {main : Bool} {b : Frame} {a : Act} {k : List Item} {cs : List Frame} {ops : Array Oper} {i : Nat} {rest : List Nat} {o : Oper} {w : World} {f : FuncId} {fn : Func} {c : Code} {args : Array Operand} {ats : Array TypeId} {b₀ : Frame} {a₀ : Act} {todo : List Item}
theorem st_call (ho : ops[i]? = some o) (hw : Region.wanted o (yielded ops a.tmps) = true) (hk : b.kind ≠ .early) (hop : o.op = .call { callee := .value (.func f), args, argTypes := ats })
    (hf : P.funcs[f]? = some fn) (hname : (fn.name == "runtime.NumGoroutine") = false) (hb : fn.body = some c) :
    stepG P main (G (b.at a (.inRegion ops (i :: rest) :: k)) cs) w = .go (G ((base f).at { tmps := args.map a.eval ++ Array.replicate (fn.ntmps - (args.map a.eval).size) undef, defers := [] } [.code c]) (b.at a (.inRegion ops (i :: rest) :: k) :: cs)) w #[] := by
  have hb' : fn.body.isNone = false := by rw [hb]; rfl
  rw [stepG_enter ho hw hk (run_call_body hop hf hname hb'), enter_at _ hf hb]
  have : listed P b.fn a o w = #[] := by unfold listed; rw [events_call_body hop hf hname hb']; exact seen_none P _
  rw [this]
theorem st_leave1 {t : Tmp} (hn : b.kind = .normal) (hd : a.defers = []) (hf : P.funcs[b.fn]? = some fn) (hr : fn.results = #[.tmp t]) :
    stepG P main (G { b.at a todo with mode := .returning } (b₀.at a₀ (.inRegion ops (i :: rest) :: k) :: cs)) w = .go (G (b₀.at (a₀.put ((ops[i]?).bind (·.dst)) (a.tmps.getD t undef)) (.inRegion ops rest :: k)) cs) w #[] := by
  rw [stepG_leave hn hd hf (results_tmp hr _ P w) (events_results_tmp hr _ _), Frame.finish_at]
theorem st_leave0 (hn : b.kind = .normal) (hd : a.defers = []) (hf : P.funcs[b.fn]? = some fn) (hr : fn.results = #[]) :
    stepG P main (G { b.at a todo with mode := .returning } (b₀.at a₀ (.inRegion ops (i :: rest) :: k) :: cs)) w = .go (G (b₀.at (a₀.put ((ops[i]?).bind (·.dst)) (.tuple #[])) (.inRegion ops rest :: k)) cs) w #[] := by
  rw [stepG_leave hn hd hf (results_none hr _ P w) (events_results_none hr _ _), Frame.finish_at]
end
structure Hid (p : Prop) : Prop where
  out : p
def HasWg (b o : Nat) (w : World) : Prop := (∃ v, w.cell? ⟨b, o, none⟩ = some v) ∧ ∃ v, w.cell? ⟨b, o + 1, none⟩ = some v
theorem Live.has {b o : Nat} {w : World} (h : Live b o w) : HasWg b o w := let ⟨_, _, x⟩ := h; ⟨⟨_, x.st⟩, _, x.sm⟩
theorem wk0 {C : Cfg} (hon : C.on) (b o i : Nat) : Wk (RB C b o i) D0 (Live b o) := ⟨fun _ _ h k => h.live hon k, fun _ => ⟨rfl, rfl⟩⟩
theorem wkR {C : Cfg} (hon : C.on) (b o i : Nat) : Wk (RB C b o i) (DR C i) (Live b o) := ⟨fun _ _ h k => h.live hon k, fun _ => ⟨Out.refl _ _, fun e he => by simp at he⟩⟩
theorem wkW {C : Cfg} (hon : C.on) (b o : Nat) : Wk (RB C b o 0) (DW b o) (Live b o) := ⟨fun _ _ h k => h.live hon k, fun _ => ⟨rfl, fun e he => by simp at he⟩⟩
theorem dh_quiet {C : Cfg} (w : World) : DH C w w #[] :=
  ⟨⟨Nat.le_refl _, fun _ c _ _ h => ⟨c, h, rfl, fun _ _ => rfl⟩, fun _ _ h _ => h, fun _ o h ho => ⟨o, h, ho⟩, rfl, rfl, rfl, fun e he => by simp at he⟩, fun _ _ => rfl, fun e he => by simp at he⟩
theorem has_out {hid : Nat → Nat → Prop} {b o : Nat} {w w₁ : World} (h : ∃ v, w.cell? ⟨b, o, none⟩ = some v) (ho : Out hid w w₁) : ∃ v, w₁.cell? ⟨b, o, none⟩ = some v := by
  obtain ⟨v, hv⟩ := h
  obtain ⟨c, e, f, hb, hc⟩ := block_of_cell hv
  obtain ⟨c', hb', hs, _⟩ := ho.cells _ c e f hb
  have hlt : o < c'.size := by rw [hs]; exact (Array.getElem?_eq_some_iff.1 hc).1
  exact ⟨c'[o], by simp [World.cell?, hb', hlt]⟩
theorem HasWg.out {hid : Nat → Nat → Prop} {b o : Nat} {w w₁ : World} (h : HasWg b o w) (ho : Out hid w w₁) : HasWg b o w₁ := ⟨has_out h.1 ho, has_out h.2 ho⟩
theorem wkH (C : Cfg) (b o : Nat) : Wk (Out (hidOf C)) D0 (HasWg b o) := ⟨fun _ _ h k => k.out h, fun _ => ⟨rfl, rfl⟩⟩
theorem wkT (C : Cfg) : Wk (Out (hidOf C)) D0 (fun _ => True) := ⟨fun _ _ _ _ => trivial, fun _ => ⟨rfl, rfl⟩⟩
theorem goes_out {P : Program} {main : Bool} {hid : Nat → Nat → Prop} {Stop : Goroutine → World → Prop} : ∀ {n : Nat} {g : Goroutine} {w : World}, Goes P main (Out hid) D0 Stop n g w → Goes P main (Out hid) D0 (fun g' w' => Stop g' w' ∧ Out hid w w') n g w
  | 0, _, _, h => fun w₁ h₁ => ⟨h w₁ h₁, h₁⟩
  | n + 1, g, w, h => by
    rcases h with h | ⟨hs, h⟩
    · exact .inl fun w₁ h₁ => ⟨h w₁ h₁, h₁⟩
    · refine .inr ⟨hs, fun w₁ h₁ => ?_⟩
      have := h w₁ h₁
      revert this
      cases stepG P main g w₁ with
      | go g' w' es =>
        simp only [goes_go]
        rintro ⟨⟨rfl, rfl⟩, hg⟩
        exact ⟨⟨rfl, rfl⟩, Go.ConcN.goes_mono (fun _ _ x => ⟨x.1, h₁.trans x.2⟩) (goes_out hg)⟩
      | _ => exact id
end Go.Town
