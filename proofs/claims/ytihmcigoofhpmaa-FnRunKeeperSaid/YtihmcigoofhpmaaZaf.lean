/-
  A step of a frame whose code holds only such operations is the same from a lesser world and beside whatever callers.
-/
import Derived.Conc.Own
import Derived.Test.YtihmcigoofhpmaaZae
set_option linter.all false
namespace Go.Town
open Go Go.Conc
def okCode (P : Program) (ok : FuncId → Bool) : Code → Bool
  | .skip | .ret | .label _ | .exit _ => true
  | .region _ ops _ => ops.all (okOp P ok)
  | .seq a b => okCode P ok a && okCode P ok b
  | .cond _ a b => okCode P ok a && okCode P ok b
  | .block _ b | .loop b => okCode P ok b
  | _ => false
def okItem (P : Program) (ok : FuncId → Bool) : Item → Bool
  | .code c => okCode P ok c
  | .inBlock _ => true
  | .inLoop b => okCode P ok b
  | .inRegion ops _ => ops.all (okOp P ok)
  | _ => false
def OkProg (P : Program) (ok : FuncId → Bool) : Prop := ∀ f fn, ok f = true → P.funcs[f]? = some fn → ∀ c, fn.body = some c → okCode P ok c = true
structure OkFr (P : Program) (ok : FuncId → Bool) (fr : Frame) : Prop where
  mode : fr.mode = .run ∨ fr.mode = .returning
  defers : fr.defers = []
  kind : fr.kind = .normal
  round : fr.roundOf = none
  todo : ∀ it ∈ fr.todo, okItem P ok it = true
  fn : ∃ fn, P.funcs[fr.fn]? = some fn
theorem OkFr.bare {P : Program} {ok : FuncId → Bool} {fr : Frame} (h : OkFr P ok fr) : fr.defers = [] ∧ (fr.mode = .run ∨ fr.mode = .returning) ∧ ∃ fn, P.funcs[fr.fn]? = some fn := ⟨h.defers, h.mode, h.fn⟩
structure OkCl (P : Program) (ok : FuncId → Bool) (fr : Frame) : Prop extends OkFr P ok fr where
  some : fr.todo ≠ []
def ext (t : List Item) (fr : Frame) : Frame := { fr with todo := fr.todo ++ t }
theorem ext_nil (fr : Frame) : ext [] fr = fr := by cases fr; simp [ext]
@[simp] theorem ext_fn (t : List Item) (fr : Frame) : (ext t fr).fn = fr.fn := rfl
@[simp] theorem ext_tmps (t : List Item) (fr : Frame) : (ext t fr).tmps = fr.tmps := rfl
@[simp] theorem ext_mode (t : List Item) (fr : Frame) : (ext t fr).mode = fr.mode := rfl
@[simp] theorem ext_kind (t : List Item) (fr : Frame) : (ext t fr).kind = fr.kind := rfl
@[simp] theorem ext_defers (t : List Item) (fr : Frame) : (ext t fr).defers = fr.defers := rfl
@[simp] theorem ext_round (t : List Item) (fr : Frame) : (ext t fr).roundOf = fr.roundOf := rfl
@[simp] theorem ext_todo (t : List Item) (fr : Frame) : (ext t fr).todo = fr.todo ++ t := rfl
def tl (K : List Item) : List Frame → List Item
  | [] => K
  | _ :: _ => []
def extX (K : List Item) : List Frame → List Frame
  | [] => []
  | f :: X => ext (tl K X) f :: extX K X
theorem tl_nil (X : List Frame) : tl [] X = [] := by cases X <;> rfl
theorem extX_nil : ∀ X : List Frame, extX [] X = X
  | [] => rfl
  | f :: X => by simp [extX, tl_nil, ext_nil, extX_nil X]
def deadEnd : List Item := [.code (.refuse "")]
theorem exitTo_ext {t : List Item} {id : Nat} : ∀ {k k' : List Item}, exitTo id k = some k' → exitTo id (k ++ t) = some (k' ++ t)
  | [], k', h => by simp [exitTo] at h
  | x :: k, k', h => by
    cases x <;> simp only [exitTo, List.cons_append] at h ⊢ <;> first
      | exact exitTo_ext h
      | (split at h
         · rename_i hc; cases h; simp [hc]
         · rename_i hc; simp only [hc, if_false]; exact exitTo_ext h)
theorem exitTo_none {t : List Item} {id : Nat} (ht : exitTo id t = none) : ∀ {k : List Item}, exitTo id k = none → exitTo id (k ++ t) = none
  | [], h => ht
  | x :: k, h => by
    cases x <;> simp only [exitTo, List.cons_append] at h ⊢ <;> first
      | exact exitTo_none ht h
      | (split at h
         · cases h
         · rename_i hc; simp only [hc, if_false]; exact exitTo_none ht h)
theorem finish_ext {t : List Item} {fr : Frame} (h : fr.todo ≠ []) (v : Value) : (ext t fr).finish v = ext t (fr.finish v) := by
  obtain ⟨fn, tmps, todo, defers, mode, kind, roundOf⟩ := fr
  cases todo with
  | nil => exact absurd rfl h
  | cons it k =>
    cases it <;> first
      | rfl
      | (rename_i ops td; cases td <;> rfl)
def Sync (wl w : World) (top : Nat) : Prop := ∀ i, wl.drawn + i < top → w.tape (w.drawn + i) = wl.tape (wl.drawn + i)
structure Mv (wl w wl' w' : World) (es : Array Event) : Prop where
  weak : Weak wl' w'
  mono : wl.drawn ≤ wl'.drawn
  drawn : w'.drawn + wl.drawn = w.drawn + wl'.drawn
  upd : Upd wl w w'
  updl : Upd wl wl wl'
  evs : ∀ e ∈ es, EvOk wl wl'.heap.size e
  heap : wl.heap = w.heap → wl'.heap = w'.heap
theorem Mv.still {wl w : World} (h : Weak wl w) : Mv wl w wl w #[] := ⟨h, Nat.le_refl _, rfl, Upd.refl _ _, Upd.refl _ _, by simp, fun h => h⟩
def Nice (P : Program) (KS : List Item → Prop) (fr : Frame) (X : List Frame) (wl : World) (fr' : Frame) (X' : List Frame) (wl' : World) (es : Array Event) : Prop :=
  ∀ (K : List Item) (main : Bool) (cs : List Frame) (w : World), KS K → Weak wl w → Sync wl w wl'.drawn → ∃ w', stepG P main (G (ext (tl K X) fr) (extX K X ++ cs)) w = .go (G (ext (tl K X') fr') (extX K X' ++ cs)) w' es ∧ Mv wl w wl' w' es
theorem foldl_kept {e : Event} (g : Bool × Array Event → Event → Bool × Array Event) (hg : ∀ a x, (g a x).2 = a.2 ∨ (g a x).2 = a.2.push x) : ∀ (l : List Event) (a : Bool × Array Event), e ∈ (l.foldl g a).2 → e ∈ a.2 ∨ e ∈ l
  | [], a, h => .inl h
  | x :: l, a, h => by
    rw [List.foldl_cons] at h
    rcases foldl_kept g hg l (g a x) h with h1 | h1
    · rcases hg a x with hp | hp
      · exact .inl (hp ▸ h1)
      · rw [hp, Array.mem_push] at h1
        rcases h1 with h1 | rfl
        · exact .inl h1
        · exact .inr (by simp)
    · exact .inr (by simp [h1])
theorem seen_mem {P : Program} {fn : FuncId} {es : Array Event} {e : Event} (h : e ∈ seen P fn es) : e ∈ es := by
  unfold seen at h
  simp only [] at h
  rw [← Array.foldl_toList] at h
  rcases foldl_kept _ (by
    rintro ⟨q, kept⟩ x
    simp only []
    split
    · exact .inl rfl
    · simp only []
      split
      · exact .inl rfl
      · exact .inr rfl) _ _ h with h | h
  · simp at h
  · simpa using h
def Plain (P : Program) (ok : FuncId → Bool) : Next → Prop
  | .value _ | .skip => True
  | .enter f _ => ok f = true ∧ okFn P f = true
  | _ => False
def Yields {α : Type} (P : Program) (s : Sem α) (Q : α → Prop) : Prop := ∀ w a w', s.run P w = .ok a w' → Q a
theorem yields_map {α β : Type} {P : Program} {s : Sem α} {f : α → β} {Q : β → Prop} (h : ∀ a, Q (f a)) : Yields P (s >>= fun a => Pure.pure (f a)) Q := by
  intro w b w' hb
  change (s.bind _).run P w = _ at hb
  rw [Sem.run_bind'] at hb
  cases hs : s.run P w with
  | ok a w1 =>
    rw [hs] at hb
    have : (Result.ok (f a) w1 : Result β) = .ok b w' := hb
    cases this; exact h a
  | halt hh w1 => rw [hs] at hb; cases hb
theorem yields_pure {α : Type} {P : Program} {a : α} {Q : α → Prop} (h : Q a) : Yields P (Sem.pure a) Q := fun _ _ _ hb => by cases hb; exact h
theorem yields_pure' {α : Type} {P : Program} {a : α} {Q : α → Prop} (h : Q a) : Yields P (Pure.pure a) Q := yields_pure h
theorem yields_bind {α β : Type} {P : Program} {s : Sem α} {f : α → Sem β} {Q : β → Prop} (h : ∀ a, Yields P (f a) Q) : Yields P (s >>= f) Q := by
  intro w b w' hb
  change (s.bind _).run P w = _ at hb
  rw [Sem.run_bind'] at hb
  cases hs : s.run P w with
  | ok a w1 => rw [hs] at hb; exact h a w1 b w' hb
  | halt hh w1 => rw [hs] at hb; cases hb
theorem yields_halt {α : Type} {P : Program} {hh : Halt} {Q : α → Prop} : Yields P (Sem.halt hh) Q := fun _ _ _ hb => by cases hb
theorem yields_panic {α : Type} {P : Program} (e : RuntimeError) (Q : α → Prop) : Yields P (runtimePanic e) Q := by
  unfold runtimePanic
  refine yields_bind fun p => ?_
  cases e <;> first
    | exact yields_halt
    | exact yields_bind fun _ => yields_bind fun _ => yields_halt
theorem run_callFunc {P : Program} {f : FuncId} (h : okFn P f = true) (args : Array Value) (w : World) : (callFunc f args).run P w = .ok (.enter f args) w := by
  unfold okFn at h
  split at h
  · rename_i fn hfn
    simp only [Bool.and_eq_true, bne_iff_ne, ne_eq] at h
    obtain ⟨hb, hn⟩ := h
    show ((Sem.program Sem.pure).bind _).run P w = _
    simp only [Sem.bind, Sem.run, hfn]
    have h1 : (fn.name == "runtime.NumGoroutine") = false := by simpa using hn
    have h2 : fn.body.isNone = false := by cases hx : fn.body <;> simp [hx] at hb ⊢
    simp only [h1, h2, Bool.false_eq_true, if_false]
    rfl
  · cases h
theorem yields_execOp {P : Program} {ok : FuncId → Bool} {o : Oper} (h : okOp P ok o = true) (a : Act) : Yields P (execOp a.eval o) (Plain P ok) := by
  obtain ⟨dst, op, type, pos, after, guard⟩ := o
  cases op with
  | move x => exact yields_pure trivial
  | assign x => exact yields_pure trivial
  | pick c x y => exact yields_map (fun _ => trivial)
  | alloc e => exact yields_map (fun _ => trivial)
  | box e x => exact yields_map (fun _ => trivial)
  | build t ps => exact yields_map (fun _ => trivial)
  | buildSlice t n ps => exact yields_map (fun _ => trivial)
  | load t x => exact yields_map (fun _ => trivial)
  | unOp op t x => exact yields_map (fun _ => trivial)
  | makeFunc f x y => exact yields_map (fun _ => trivial)
  | makeMap t r => exact yields_map (fun _ => trivial)
  | makeChan t s => exact yields_map (fun _ => trivial)
  | makeSlice t l c => exact yields_map (fun _ => trivial)
  | slice t x l hh m => exact yields_map (fun _ => trivial)
  | fieldAddr t x f => exact yields_map (fun _ => trivial)
  | field t x f => exact yields_map (fun _ => trivial)
  | indexAddr t x i => exact yields_map (fun _ => trivial)
  | index t x i => exact yields_map (fun _ => trivial)
  | range t x => exact yields_map (fun _ => trivial)
  | extract x i => exact yields_map (fun _ => trivial)
  | makeInterface t x => exact yields_map (fun _ => trivial)
  | lookup t x i b => exact yields_map (fun _ => trivial)
  | binOp op t x y u => exact yields_map (fun _ => trivial)
  | convert x y z => exact yields_map (fun _ => trivial)
  | store t x y => exact yields_map (fun _ => trivial)
  | mapUpdate t m k v => exact yields_map (fun _ => trivial)
  | insert t m k v => exact yields_map (fun _ => trivial)
  | ready g => exact absurd h (by simp [okOp])
  | waits g => exact absurd h (by simp [okOp])
  | sliceToArrayPointer d x => exact absurd h (by simp [okOp])
  | mapEntry t m k => exact absurd h (by simp [okOp])
  | entryStore t m s v => exact absurd h (by simp [okOp])
  | next i b => exact absurd h (by simp [okOp])
  | entry i => exact absurd h (by simp [okOp])
  | typeAssert x t u b => exact absurd h (by simp [okOp])
  | go c => exact absurd h (by simp [okOp])
  | defer c => exact absurd h (by simp [okOp])
  | panic x => exact absurd h (by simp [okOp])
  | send c x => exact absurd h (by simp [okOp])
  | recv t c b => exact absurd h (by simp [okOp])
  | select cs b => exact absurd h (by simp [okOp])
  | nilCheck x =>
    show Yields P ((match a.eval x with
      | .pointer none | .nilIface | .nilFunc => runtimePanic .nilDeref
      | .func (.method name) first captured =>
        match (first[0]? : Option Value) with
        | some .nilIface => runtimePanic .nilDeref
        | some (.iface t w) => do
          if (← nilAhead ((← program).types.size + Made.depth) t w name) != some false then
            unsupported (.noEntry "op/nilCheck.the method's receiver behind this interface value is a nil pointer, or cannot be seen to be none, and the arguments act or may panic (ledger 612)")
          pure (.value (.func (.method name) first captured))
        | _ => pure (.value (.func (.method name) first captured))
      | x => pure (.value x)) : Sem Next) _
    repeat' first
      | with_reducible exact yields_panic _ _
      | with_reducible exact yields_pure' trivial
      | with_reducible refine yields_bind fun _ => ?_
      | split
    all_goals exact yields_pure' trivial
  | call c =>
    obtain ⟨callee, args, argTypes⟩ := c
    cases callee with
    | value f =>
      cases f with
      | func f =>
        have hf : (ok f && okFn P f) = true := h
        obtain ⟨h1, h2⟩ := Bool.and_eq_true_iff.1 hf
        intro w n w' hn
        have e : (execOp a.eval { dst := dst, op := Op.call { callee := Callee.value (Operand.func f), args := args, argTypes := argTypes }, type := type, pos := pos, after := after, guard := guard }).run P w = (callFunc f ((#[] ++ args.map a.eval) ++ #[])).run P w := rfl
        rw [e, run_callFunc h2] at hn
        cases hn
        exact ⟨h1, h2⟩
      | _ => cases h
    | invoke r n => cases h
    | builtin b =>
      cases b with
      | append => exact yields_map (s := Builtin.append_ argTypes type (args.map a.eval)) (fun _ => trivial)
      | len => exact yields_map (s := Builtin.len_ argTypes type (args.map a.eval)) (fun _ => trivial)
      | cap => exact yields_map (s := Builtin.cap_ argTypes type (args.map a.eval)) (fun _ => trivial)
      | copy => exact yields_map (s := Builtin.copy_ argTypes type (args.map a.eval)) (fun _ => trivial)
      | min => exact yields_map (s := Builtin.min_ argTypes type (args.map a.eval)) (fun _ => trivial)
      | max => exact yields_map (s := Builtin.max_ argTypes type (args.map a.eval)) (fun _ => trivial)
      | delete => exact yields_map (s := Builtin.delete_ argTypes type (args.map a.eval)) (fun _ => trivial)
      | _ => cases h
theorem okFr_enter {P : Program} {ok : FuncId → Bool} (hp : OkProg P ok) {f : FuncId} (h1 : ok f = true) (h2 : okFn P f = true) (args : Array Value) : OkFr P ok (Frame.enter P f args .normal) := by
  unfold okFn at h2
  split at h2
  · rename_i fn hfn
    simp only [Bool.and_eq_true] at h2
    refine ⟨.inl rfl, rfl, rfl, rfl, ?_, ⟨fn, hfn⟩⟩
    intro it hit
    simp only [Frame.enter, hfn, Option.bind_some, List.mem_singleton] at hit
    subst hit
    cases hb : fn.body with
    | none => simp [hb] at h2
    | some c => exact hp f fn h1 hfn c hb
  · cases h2
theorem okItem_op {P : Program} {ok : FuncId → Bool} {ops : Array Oper} {td : List Nat} (h : okItem P ok (.inRegion ops td) = true) {i : Nat} {o : Oper} (ho : ops[i]? = some o) : okOp P ok o = true := by
  have h' : ops.all (okOp P ok) = true := h
  rw [Array.all_eq_true] at h'
  obtain ⟨hl, he⟩ := Array.getElem?_eq_some_iff.1 ho
  rw [← he]; exact h' i hl
theorem eval_act (fr : Frame) : fr.eval = (⟨fr.tmps, fr.defers⟩ : Act).eval := funext fun x => by cases x <;> rfl
theorem OkFr.todo' {P : Program} {ok : FuncId → Bool} {fr : Frame} (h : OkFr P ok fr) {k : List Item} (hk : ∀ it ∈ k, okItem P ok it = true) : OkFr P ok { fr with todo := k } := ⟨h.mode, h.defers, h.kind, h.round, hk, h.fn⟩
theorem exitTo_sub {P : Program} {ok : FuncId → Bool} {id : Nat} : ∀ {k k' : List Item}, exitTo id k = some k' → (∀ it ∈ k, okItem P ok it = true) → ∀ it ∈ k', okItem P ok it = true
  | [], k', h, _ => by simp [exitTo] at h
  | x :: k, k', h, hk => by
    have hk2 : ∀ it ∈ k, okItem P ok it = true := fun it hit => hk it (by simp [hit])
    cases x <;> simp only [exitTo] at h <;> first
      | exact exitTo_sub h hk2
      | (split at h
         · cases h; exact hk2
         · exact exitTo_sub h hk2)
theorem OkFr.finish {P : Program} {ok : FuncId → Bool} {fr : Frame} (h : OkFr P ok fr) (v : Value) : OkFr P ok (fr.finish v) := by
  obtain ⟨h1, h2, h3, h4, h5, h6⟩ := h
  unfold Frame.finish
  split
  · rename_i ops i rest k hk
    refine ⟨h1, h2, h3, h4, ?_, h6⟩
    intro it hit
    rcases List.mem_cons.1 hit with rfl | hit
    · exact h5 (.inRegion ops (i :: rest)) (by rw [hk]; simp)
    · exact h5 it (by rw [hk]; simp [hit])
  · rename_i l k hk
    have := h5 (.inRangeFunc l) (by rw [hk]; simp)
    cases this
  · rename_i k hk
    have := h5 .beginRound (by rw [hk]; simp)
    cases this
  · rename_i d w r s k hk
    have := h5 (.call d w r s) (by rw [hk]; simp)
    cases this
  · rename_i r a k hk
    have := h5 _ (hk ▸ List.mem_cons_self)
    cases this
  · exact ⟨h1, h2, h3, h4, h5, h6⟩
section
variable {P : Program} {ok : FuncId → Bool} {KS : List Item → Prop} {K₀ : List Item}
inductive Came (P : Program) (ok : FuncId → Bool) (KS : List Item → Prop) (K₀ : List Item) (fr : Frame) (X base : List Frame) (wl : World) : GStep → Prop
  | nice (fr' : Frame) (X' : List Frame) (wl' : World) (es : Array Event) : OkFr P ok fr' → (∀ x ∈ X', OkCl P ok x) → Nice P KS fr X wl fr' X' wl' es → Came P ok KS K₀ fr X base wl (.go (G (ext (tl K₀ X') fr') (extX K₀ X' ++ base)) wl' es)
  | raised (chain : List PanicEntry) (wl' : World) (es : Array Event) : Came P ok KS K₀ fr X base wl (.go (G { ext (tl K₀ X) fr with mode := .panicking chain } (extX K₀ X ++ base)) wl' es)
  | ended (o : Outcome) (w : World) (es : Array Event) : Came P ok KS K₀ fr X base wl (.ended o w es)
theorem came_ended {fr : Frame} {X base : List Frame} {wl : World} {s : GStep} (h : ∃ o w es, s = .ended o w es) : Came P ok KS K₀ fr X base wl s := by
  obtain ⟨o, w, es, rfl⟩ := h
  exact .ended o w es
theorem nice_silent {fr fr' : Frame} {X : List Frame} {wl : World} (h : ∀ K main cs w, KS K → stepG P main (G (ext (tl K X) fr) (extX K X ++ cs)) w = .go (G (ext (tl K X) fr') (extX K X ++ cs)) w #[]) : Nice P KS fr X wl fr' X wl #[] :=
  fun K main cs w hK hw _ => ⟨w, h K main cs w hK, Mv.still hw⟩
theorem came_silent (hK : KS K₀) {fr fr' : Frame} {X base : List Frame} {wl : World} (hX : ∀ x ∈ X, OkCl P ok x) (hf : OkFr P ok fr') (h : ∀ K main cs w, KS K → stepG P main (G (ext (tl K X) fr) (extX K X ++ cs)) w = .go (G (ext (tl K X) fr') (extX K X ++ cs)) w #[]) :
    Came P ok KS K₀ fr X base wl (stepG P true (G (ext (tl K₀ X) fr) (extX K₀ X ++ base)) wl) := by
  rw [h K₀ true base wl hK]
  exact .nice fr' X wl #[] hf hX (nice_silent h)
end
theorem ok1_run {α : Type} {P : Program} {s : Sem α} (hs : Natural P s) {wl : World} (hw : Weak wl wl) {r : Result α} {es : Array Event} (hr : s.runT P wl #[] = (r, es)) : Ok1 r := by
  have := (hs wl wl #[] trivial hw).1
  rw [hr] at this; exact this
theorem same_run {α : Type} {P : Program} {s : Sem α} (hs : Natural P s) {wl w : World} (hw : Weak wl w) {r : Result α} {es : Array Event} (hr : s.runT P wl #[] = (r, es)) (hf : Fine r) (hsync : Sync wl w r.wd.drawn) :
    ∃ w', s.runT P w #[] = (r.setW w', es) ∧ Mv wl w r.wd w' es := by
  obtain ⟨w', h⟩ := (hs wl w #[] trivial hw).2 (by rw [hr]; exact hf) (by rw [hr]; exact hsync)
  have h1 := h.run; have h2 := h.weak; have h3 := h.mono; have h4 := h.drawn; have h5 := h.upd; have h6 := h.updl; have h7 := h.evs; have h8 := h.heap
  rw [hr] at h1 h2 h3 h4 h6 h7 h8
  refine ⟨w', h1, h2, h3, h4, h5, h6, fun e he => ?_, h8⟩
  obtain ⟨l, hl, hq⟩ := h7
  simp only at hl
  rw [hl] at he
  simp at he
  exact hq e he
theorem Mv.seen {P : Program} {fn : FuncId} {wl w wl' w' : World} {es : Array Event} (h : Mv wl w wl' w' es) : Mv wl w wl' w' (seen P fn es) := ⟨h.weak, h.mono, h.drawn, h.upd, h.updl, fun e he => h.evs e (seen_mem he), h.heap⟩
theorem came_run {P : Program} {ok : FuncId → Bool} {KS : List Item → Prop} {K₀ : List Item} (hp : OkProg P ok) (hK : KS K₀) (hK0 : ∀ id, exitTo id K₀ = none) {fr : Frame} {X base : List Frame} {wl : World} (hwl : Weak wl wl) (hf : OkFr P ok fr) (hX : ∀ x ∈ X, OkCl P ok x) (hm : fr.mode = .run)
    (hE : X = [] → fr.todo = [] → ∀ K, KS K → K = []) :
    Came P ok KS K₀ fr X base wl (stepG P true (G (ext (tl K₀ X) fr) (extX K₀ X ++ base)) wl) := by
  have hX0 : ∀ id, exitTo id (tl K₀ X) = none := fun id => by cases X with
    | nil => exact hK0 id
    | cons x X => rfl
  have hT := hf.todo
  have hf' := hf
  obtain ⟨fn, tmps, todo, defers, mode, kind, roundOf⟩ := fr
  obtain ⟨-, h2, h3, h4, -, h6⟩ := hf'
  simp only at h2 h3 h4 hm hT hE
  subst h2 h3 h4 hm
  have okk : ∀ k : List Item, (∀ it ∈ k, okItem P ok it = true) → OkFr P ok { fn := fn, tmps := tmps, todo := k, defers := [], mode := .run, kind := .normal, roundOf := none } := fun k hk => hf.todo' hk
  have okret : OkFr P ok { fn := fn, tmps := tmps, todo := todo, defers := [], mode := .returning, kind := .normal, roundOf := none } := ⟨.inr rfl, rfl, rfl, rfl, hT, h6⟩
  cases todo with
  | nil =>
    have ht : ∀ K, KS K → tl K X = [] := fun K hKS => by cases X with
      | nil => exact hE rfl rfl K hKS
      | cons x X => rfl
    exact came_silent hK hX okret (fun K main cs w hKS => by simp [stepG, stepG.exec, G, ext, ht K hKS])
  | cons it k =>
    have hk : ∀ x ∈ k, okItem P ok x = true := fun x hx => hT x (by simp [hx])
    have hi : okItem P ok it = true := hT it (by simp)
    cases it with
    | inBlock id => exact came_silent hK hX (okk k hk) (fun K main cs w _ => by simp [stepG, stepG.exec, G, ext])
    | inLoop b => exact came_silent hK hX (okk (.code b :: .inLoop b :: k) (by intro x hx; simp only [List.mem_cons] at hx; rcases hx with rfl | rfl | hx; exact hi; exact hi; exact hk x hx)) (fun K main cs w _ => by simp [stepG, stepG.exec, G, ext])
    | code c =>
      cases c with
      | skip => exact came_silent hK hX (okk k hk) (fun K main cs w _ => by simp [stepG, stepG.exec, G, ext])
      | label l => exact came_silent hK hX (okk k hk) (fun K main cs w _ => by simp [stepG, stepG.exec, G, ext])
      | ret => exact came_silent hK hX okret (fun K main cs w _ => by simp [stepG, stepG.exec, G, ext])
      | seq x y =>
        have hxy : (okCode P ok x && okCode P ok y) = true := hi
        obtain ⟨h1, h2⟩ := Bool.and_eq_true_iff.1 hxy
        exact came_silent hK hX (okk (.code x :: .code y :: k) (by intro z hz; simp only [List.mem_cons] at hz; rcases hz with rfl | rfl | hz; exact h1; exact h2; exact hk z hz)) (fun K main cs w _ => by simp [stepG, stepG.exec, G, ext])
      | block id b => exact came_silent hK hX (okk (.code b :: .inBlock id :: k) (by intro z hz; simp only [List.mem_cons] at hz; rcases hz with rfl | rfl | hz; exact hi; rfl; exact hk z hz)) (fun K main cs w _ => by simp [stepG, stepG.exec, G, ext])
      | loop b => exact came_silent hK hX (okk (.code b :: .inLoop b :: k) (by intro z hz; simp only [List.mem_cons] at hz; rcases hz with rfl | rfl | hz; exact hi; exact hi; exact hk z hz)) (fun K main cs w _ => by simp [stepG, stepG.exec, G, ext])
      | cond cc x y =>
        have hxy : (okCode P ok x && okCode P ok y) = true := hi
        obtain ⟨h1, h2⟩ := Bool.and_eq_true_iff.1 hxy
        cases hb : (⟨tmps, []⟩ : Act).eval cc with
        | bool b =>
          exact came_silent hK hX (okk (.code (if b then x else y) :: k) (by intro z hz; simp only [List.mem_cons] at hz; rcases hz with rfl | hz; (cases b; exact h2; exact h1); exact hk z hz)) (fun K main cs w _ => by simp [stepG, stepG.exec, G, ext, eval_act, hb])
        | _ => exact came_ended (by simp [stepG, stepG.exec, G, ext, eval_act, hb])
      | exit id =>
        cases he : exitTo id k with
        | some k' => exact came_silent hK hX (okk k' (exitTo_sub he hk)) (fun K main cs w _ => by simp [stepG, stepG.exec, G, ext, exitTo_ext he])
        | none => exact came_ended (by simp [stepG, stepG.exec, G, ext, exitTo_none (hX0 id) he])
      | region id ops draw =>
        have hr : ∀ td, okItem P ok (.inRegion ops td) = true := fun td => hi
        cases draw with
        | false => exact came_silent hK hX (okk (.inRegion ops (List.range ops.size) :: k) (by intro z hz; simp only [List.mem_cons] at hz; rcases hz with rfl | hz; exact hr _; exact hk z hz)) (fun K main cs w _ => by simp [stepG, stepG.exec, G, ext])
        | true =>
          have e : ∀ K main cs w, stepG P main (G (ext (tl K X) { fn := fn, tmps := tmps, todo := .code (.region id ops true) :: k, defers := [], mode := .run, kind := .normal, roundOf := none }) (extX K X ++ cs)) w =
              .go (G (ext (tl K X) { fn := fn, tmps := tmps, todo := .inRegion ops (Region.schedule (P.follows .mixedOrders) ops (w.tape w.drawn (.order fn id))) :: k, defers := [], mode := .run, kind := .normal, roundOf := none }) (extX K X ++ cs)) { w with drawn := w.drawn + 1 } #[] := fun K main cs w => by
            simp [stepG, stepG.exec, G, ext, choose, Sem.run, Question.forced, Question.cut]
          rw [e]
          refine .nice _ X _ _ (okk _ (by intro z hz; simp only [List.mem_cons] at hz; rcases hz with rfl | hz; exact hr _; exact hk z hz)) hX ?_
          intro K main cs w _ hw hsync
          obtain ⟨w', h1, h2⟩ := same_run (natural_choose (P := P) (.order fn id)) hw (r := .ok (wl.tape wl.drawn (.order fn id)) { wl with drawn := wl.drawn + 1 }) (es := #[]) (by rfl) trivial hsync
          have h3 : (choose (.order fn id)).runT P w #[] = (.ok (w.tape w.drawn (.order fn id)) { w with drawn := w.drawn + 1 }, #[]) := rfl
          rw [h3] at h1
          have h4 := (Prod.mk.inj h1).1
          simp only [Result.setW, Result.ok.injEq] at h4
          exact ⟨w', by rw [e, h4.1, h4.2], h2⟩
      | _ => cases hi
    | inRegion ops td =>
      cases td with
      | nil => exact came_silent hK hX (okk k hk) (fun K main cs w _ => by simp [stepG, stepG.exec, G, ext])
      | cons i rest =>
        have hff := hf.finish
        by_cases hw : ((ops[i]?).map (Region.wanted · (yielded ops tmps))).getD false = true
        · cases ho : ops[i]? with
          | none => simp [ho] at hw
          | some o =>
            have hok := okItem_op hi ho
            obtain ⟨fr, hfr⟩ : ∃ fr : Frame, ({ fn := fn, tmps := tmps, todo := .inRegion ops (i :: rest) :: k, defers := [], mode := .run, kind := .normal, roundOf := none } : Frame) = fr := ⟨_, rfl⟩
            have hev : fr.eval = (⟨tmps, []⟩ : Act).eval := by rw [← hfr]; exact eval_act _
            have e : ∀ K main cs w, stepG P main (G (ext (tl K X) fr) (extX K X ++ cs)) w = stepG.apply P true (ext (tl K X) fr) (extX K X ++ cs) none (execOp (⟨tmps, []⟩ : Act).eval o) w := fun K main cs w => by
              have hev2 : (ext (tl K X) fr).eval = (⟨tmps, []⟩ : Act).eval := by rw [← hfr]; exact eval_act _
              rw [← hev2, ← hfr]
              have hw2 : (Option.map (fun x => Region.wanted x (yielded ops tmps)) (some o)).getD false = true := by rw [← ho]; exact hw
              simp [stepG, stepG.exec, stepG.oper, G, Frame.oper?, ho, ext] at hw2 ⊢
              simp [hw2]
            have hne : fr.todo ≠ [] := by rw [← hfr]; simp
            have hnat := natural_execOp hok (⟨tmps, []⟩ : Act)
            have hyl := yields_execOp hok (⟨tmps, []⟩ : Act)
            generalize execOp (⟨tmps, []⟩ : Act).eval o = s at *
            have hkd : fr.kind = .normal := by rw [← hfr]
            have hroz : fr.roundOf = none := by rw [← hfr]
            have htd : ∃ kk, fr.todo = .inRegion ops (i :: rest) :: kk := ⟨k, by rw [← hfr]⟩
            rw [hfr] at hf hff
            rw [hfr]
            cases hr : s.runT P wl #[] with
            | mk r es =>
              have hrr : s.run P wl = r := by rw [← Sem.runT_fst P s wl #[], hr]
              have hsame : Fine r → ∀ w, Weak wl w → Sync wl w r.wd.drawn → ∃ w', s.runT P w #[] = (r.setW w', es) ∧ Mv wl w r.wd w' es := fun hfi w hw hs => same_run hnat hw hr hfi hs
              cases r with
              | ok n wl' =>
                have hpl := hyl wl n wl' hrr
                have hsame' := hsame trivial
                cases n with
                | value v =>
                  have eg : ∀ K main cs w w', s.runT P w #[] = (.ok (.value v) w', es) → stepG P main (G (ext (tl K X) fr) (extX K X ++ cs)) w = .go (G (ext (tl K X) (fr.finish v)) (extX K X ++ cs)) w' (seen P fr.fn es) := fun K main cs w w' hq => by
                    rw [e, ← finish_ext hne]
                    simp only [stepG.apply, if_true, hq]
                    simp [hkd, GStep.after, G]
                  rw [eg K₀ true base wl wl' hr]
                  refine .nice _ X _ _ (hff v) hX fun K main cs w _ hw hs => ?_
                  obtain ⟨w', h1, h2⟩ := hsame' w hw hs
                  exact ⟨w', eg K main cs w w' h1, h2.seen⟩
                | skip =>
                  have eg : ∀ K main cs w w', s.runT P w #[] = (.ok (.skip) w', es) → stepG P main (G (ext (tl K X) fr) (extX K X ++ cs)) w = .go (G (ext (tl K X) (fr.finish undef)) (extX K X ++ cs)) w' (seen P fr.fn es) := fun K main cs w w' hq => by
                    rw [e, ← finish_ext hne]
                    simp only [stepG.apply, if_true, hq]
                    simp [hkd, GStep.after, G]
                  rw [eg K₀ true base wl wl' hr]
                  refine .nice _ X _ _ (hff _) hX fun K main cs w _ hw hs => ?_
                  obtain ⟨w', h1, h2⟩ := hsame' w hw hs
                  exact ⟨w', eg K main cs w w' h1, h2.seen⟩
                | enter f args =>
                  have eg : ∀ K main cs w w', s.runT P w #[] = (.ok (.enter f args) w', es) → stepG P main (G (ext (tl K X) fr) (extX K X ++ cs)) w = .go (G (ext (tl K (fr :: X)) (Frame.enter P f args .normal)) (extX K (fr :: X) ++ cs)) w' (seen P fr.fn es) := fun K main cs w w' hq => by
                    obtain ⟨kk, hkk⟩ := htd
                    rw [e]
                    simp only [stepG.apply, if_true, hq]
                    simp [hkd, GStep.after, G, hkk, tl, extX, ext_nil]
                  rw [eg K₀ true base wl wl' hr]
                  refine .nice _ (fr :: X) _ _ (okFr_enter hp hpl.1 hpl.2 args) (fun x hx => ?_) fun K main cs w _ hw hs => ?_
                  · rcases List.mem_cons.1 hx with rfl | hx
                    · exact ⟨hf, hne⟩
                    · exact hX x hx
                  · obtain ⟨w', h1, h2⟩ := hsame' w hw hs
                    exact ⟨w', eg K main cs w w' h1, h2.seen⟩
                | _ => exact hpl.elim
              | halt h wl' =>
                cases h with
                | panic v =>
                  have eg : stepG P true (G (ext (tl K₀ X) fr) (extX K₀ X ++ base)) wl = .go (G { ext (tl K₀ X) fr with mode := .panicking [{ v, recovered := false }] } (extX K₀ X ++ base)) wl' (seen P fr.fn es) := by
                    rw [e]
                    simp only [stepG.apply, if_true, hr]
                    have hmd : fr.mode = .run := by rw [← hfr]
                    simp [hkd, GStep.after, G, Frame.raise, hmd]
                  rw [eg]
                  exact .raised _ _ _
                | stuck m => exact came_ended (by rw [e]; simp only [stepG.apply, if_true, hr]; simp [hkd, GStep.after])
                | unsupported u =>
                  have ho := ok1_run hnat hwl hr
                  cases u with
                  | initOrder g => exact ho.elim
                  | _ => exact came_ended (by rw [e]; simp only [stepG.apply, if_true, hr]; simp [hkd, GStep.after])
                | _ => exact (ok1_run hnat hwl hr).elim
        · have hw2 : ((ops[i]?).map (Region.wanted · (yielded ops tmps))).getD false = false := by simpa using hw
          exact came_silent hK hX (hf.finish undef) (fun K main cs w _ => by
            rw [← finish_ext (by simp)]
            simp [stepG, stepG.exec, G, ext] at hw2 ⊢; simp [hw2])
    | _ => cases hi
theorem natural_results {P : Program} (fn : Func) (tmps : Array Value) : Natural P (results fn tmps) := by
  unfold results
  refine natural_bind' (natural_mapMA (fun r => ?_) _) fun vs => natural_pure' _
  cases r with
  | tmp t => exact natural_pure' _
  | cell a t => exact natural_bind' (natural_asAddr _) fun a => natural_loadVar _ _
theorem came_ret {P : Program} {ok : FuncId → Bool} {KS : List Item → Prop} {K₀ : List Item} (hK : KS K₀) {fr x : Frame} {X base : List Frame} {wl : World} (hwl : Weak wl wl) (hf : OkFr P ok fr) (hx : OkCl P ok x) (hX : ∀ y ∈ X, OkCl P ok y) (hm : fr.mode = .returning) :
    Came P ok KS K₀ fr (x :: X) base wl (stepG P true (G (ext (tl K₀ (x :: X)) fr) (extX K₀ (x :: X) ++ base)) wl) := by
  obtain ⟨fn, hfn⟩ := hf.fn
  have e : ∀ K main cs w, stepG P main (G (ext (tl K (x :: X)) fr) (extX K (x :: X) ++ cs)) w =
      GStep.after (seen P fr.fn ((results fn fr.tmps).runT P w #[]).2) (match ((results fn fr.tmps).runT P w #[]).1 with
        | .ok v w => doReturn P main fr ((ext (tl K X) x :: extX K X) ++ cs) none v w
        | .halt (.stuck s) w => .ended (.stuck s (fr.pos P)) w
        | .halt _ w => .ended (.stuck "return: the result variables cannot be read" (fr.pos P)) w) := fun K main cs w => by
    show stepG P main (G (ext [] fr) _) w = _
    rw [ext_nil]
    simp only [stepG, G, hm, unwind, hf.defers, hfn]
    rfl
  have hnat := natural_results (P := P) fn fr.tmps
  cases hr : (results fn fr.tmps).runT P wl #[] with
  | mk r es =>
    cases r with
    | ok v wl' =>
      have eg : ∀ K main cs w w', (results fn fr.tmps).runT P w #[] = (.ok v w', es) → stepG P main (G (ext (tl K (x :: X)) fr) (extX K (x :: X) ++ cs)) w = .go (G (ext (tl K X) (x.finish v)) (extX K X ++ cs)) w' (seen P fr.fn es) := fun K main cs w w' hq => by
        rw [e, hq, ← finish_ext hx.some]
        simp [doReturn, hf.kind, GStep.after, G]
      rw [eg K₀ true base wl wl' hr]
      refine .nice _ X _ _ (hx.toOkFr.finish v) hX fun K main cs w _ hw hs => ?_
      obtain ⟨w', h1, h2⟩ := same_run hnat hw hr trivial hs
      exact ⟨w', eg K main cs w w' h1, h2.seen⟩
    | halt h wl' => exact came_ended (by rw [e, hr]; cases h <;> simp [GStep.after])
theorem came_step {P : Program} {ok : FuncId → Bool} {KS : List Item → Prop} {K₀ : List Item} (hp : OkProg P ok) (hK : KS K₀) (hK0 : ∀ id, exitTo id K₀ = none) {fr : Frame} {X base : List Frame} {wl : World} (hwl : Weak wl wl) (hf : OkFr P ok fr) (hX : ∀ x ∈ X, OkCl P ok x) (hn : ¬ (fr.mode = .returning ∧ X = []))
    (hE : X = [] → fr.todo = [] → fr.mode = .run → ∀ K, KS K → K = []) :
    Came P ok KS K₀ fr X base wl (stepG P true (G (ext (tl K₀ X) fr) (extX K₀ X ++ base)) wl) := by
  rcases hf.mode with hm | hm
  · exact came_run hp hK hK0 hwl hf hX hm (fun h1 h2 => hE h1 h2 hm)
  · cases X with
    | nil => exact absurd ⟨hm, rfl⟩ hn
    | cons x X => exact came_ret hK hwl hf (hX x (by simp)) (fun y hy => hX y (by simp [hy])) hm
end Go.Town
