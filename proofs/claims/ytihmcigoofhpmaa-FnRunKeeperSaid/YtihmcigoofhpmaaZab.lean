/-
  A goroutine's own steps look at no memory but what its lone run looks at: worlds with cells taken away.
-/
import Derived.Calls
import Derived.Conc.Events
import Derived.Below
set_option linter.all false
namespace Go.Town
open Go
def frz (f : Nat × Nat) (k : Nat) : Bool := f.1 ≤ k && k < f.2
def isCells : Obj → Bool
  | .cells .. => true
  | _ => false
def odd : Obj → Bool
  | .view a _ => a.spot.isNone
  | .pending .. => true
  | _ => false
inductive Blind : Obj → Obj → Prop
  | view (a a' : Addr) (t : TypeId) : Blind (.view a t) (.view a' t)
  | late (c : Array Value) (e : TypeId) : Blind (.coro none) (.pending c e)
  | map (es : Array MapEntry) (clock : Nat) : Blind (.coro none) (.map es clock)
  | chan (cap : Nat) (buf : Array Value) (cl : Bool) (s r : Nat) (tm : Bool) : Blind (.chan cap buf true s r tm) (.chan cap buf cl s r tm)
def isMap : Obj → Bool
  | .map .. => true
  | _ => false
theorem Blind.cells {o o' : Obj} (h : Blind o o') : isCells o = false ∧ isCells o' = false := by cases h <;> exact ⟨rfl, rfl⟩
theorem Blind.sameChan {o o' : Obj} (h : Blind o o') : o'.isChan = o.isChan := by cases h <;> rfl
theorem Blind.noMap {o o' : Obj} (h : Blind o o') : isMap o = false := by cases h <;> rfl
theorem isMap_cells {o : Obj} (h : isMap o = true) : isCells o = false ∧ o.isChan = false := by cases o <;> first | (cases h; done) | exact ⟨rfl, rfl⟩
def HaltOk : Halt → Prop
  | .panic _ | .stuck _ => True
  | .unsupported (.initOrder _) => False
  | .unsupported _ => True
  | _ => False
def Ok1 {α : Type} : Result α → Prop
  | .ok _ _ => True
  | .halt h _ => HaltOk h
inductive ObjW : Obj → Obj → Prop
  | same (o : Obj) : ObjW o o
  | blind {o o' : Obj} (h : Blind o o') : ObjW o o'
  | cut {c c' : Array Value} {e : TypeId} {f f' : Nat × Nat} (hs : c.size ≤ c'.size) (hc : ∀ k, k < c.size → c'[k]? = c[k]?) (hf : ∀ k, k < c.size → frz f' k = true → frz f k = true) : ObjW (.cells c e f) (.cells c' e f')
structure Weak (wl w : World) : Prop where
  size : wl.heap.size = w.heap.size
  obj : ∀ (b : Nat) (o o' : Obj), wl.heap[b]? = some o → w.heap[b]? = some o' → ObjW o o'
  os : wl.os = w.os
  out : wl.output = w.output
  noOdd : ∀ (b : Nat) (o : Obj), wl.heap[b]? = some o → odd o = false
theorem Weak.self {wl w : World} (k : Weak wl w) : Weak wl wl := ⟨rfl, fun _ _ _ h h' => by rw [h] at h'; cases h'; exact .same _, rfl, rfl, k.noOdd⟩
theorem Weak.get {wl w : World} (h : Weak wl w) {b : Nat} {o : Obj} (hb : wl.heap[b]? = some o) : ∃ o', w.heap[b]? = some o' ∧ ObjW o o' := by
  have hl : b < w.heap.size := h.size ▸ (Array.getElem?_eq_some_iff.1 hb).1
  exact ⟨_, Array.getElem?_eq_getElem hl, h.obj b o _ hb (Array.getElem?_eq_getElem hl)⟩
structure Upd (wl w w' : World) : Prop where
  size : w.heap.size ≤ w'.heap.size
  cells : ∀ (b : Nat) (c : Array Value) (e : TypeId) (f : Nat × Nat), w.heap[b]? = some (.cells c e f) → ∃ c', w'.heap[b]? = some (.cells c' e f) ∧ c'.size = c.size ∧ ∀ k, (wl.cell? ⟨b, k, none⟩ = none ∨ wl.frozen? ⟨b, k, none⟩ = true) → c'[k]? = c[k]?
  chan : ∀ (b : Nat) (o : Obj), w.heap[b]? = some o → o.isChan = true → w'.heap[b]? = some o
  objs : ∀ (b : Nat) (o : Obj), w.heap[b]? = some o → isCells o = false → ∃ o', w'.heap[b]? = some o' ∧ isCells o' = false ∧ (o.isChan = false → o'.isChan = false) ∧ (isMap o = true → isMap o' = true)
  still : ∀ (b : Nat) (o : Obj), wl.heap[b]? = some o → isCells o = false → isMap o = false → w'.heap[b]? = w.heap[b]?
  os : w'.os = w.os
  out : w'.output = w.output
  tape : w'.tape = w.tape
theorem Upd.refl (wl w : World) : Upd wl w w := ⟨Nat.le_refl _, fun _ c _ _ h => ⟨c, h, rfl, fun _ _ => rfl⟩, fun _ _ h _ => h, fun _ o h ho => ⟨o, h, ho, id, id⟩, fun _ _ _ _ _ => rfl, rfl, rfl, rfl⟩
theorem Upd.there {wl w : World} (h : Upd wl wl w) {b k : Nat} (hb : b < wl.heap.size) : (w.cell? ⟨b, k, none⟩ = none ↔ wl.cell? ⟨b, k, none⟩ = none) ∧ w.frozen? ⟨b, k, none⟩ = wl.frozen? ⟨b, k, none⟩ := by
  obtain ⟨o, ho⟩ : ∃ o, wl.heap[b]? = some o := ⟨_, Array.getElem?_eq_getElem hb⟩
  cases hc : isCells o with
  | true =>
    cases o <;> simp [isCells] at hc
    obtain ⟨c', h1, h2, _⟩ := h.cells b _ _ _ ho
    simp [World.cell?, World.frozen?, ho, h1, h2]
  | false =>
    obtain ⟨o', h1, h2, _⟩ := h.objs b o ho hc
    cases o <;> simp [isCells] at hc <;> cases o' <;> simp [isCells] at h2 <;> simp [World.cell?, World.frozen?, ho, h1]
theorem Upd.trans {wl wm w w1 w2 : World} (hl : Upd wl wl wm) (hs : wl.heap.size = w.heap.size) (h : Upd wl w w1) (h' : Upd wm w1 w2) : Upd wl w w2 := by
  refine ⟨Nat.le_trans h.size h'.size, fun b c e f hb => ?_, fun b o hb ho => h'.chan b o (h.chan b o hb ho) ho, fun b o hb ho => ?_, fun b o hb ho hm => (h'.still b o ((hl.still b o hb ho hm).trans hb) ho hm).trans (h.still b o hb ho hm), h'.os.trans h.os, h'.out.trans h.out, h'.tape.trans h.tape⟩
  · obtain ⟨c1, h1, h2, h3⟩ := h.cells b c e f hb
    obtain ⟨c2, h4, h5, h6⟩ := h'.cells b c1 e f h1
    have hlt : b < wl.heap.size := hs ▸ (Array.getElem?_eq_some_iff.1 hb).1
    refine ⟨c2, h4, h5.trans h2, fun k hk => (h6 k ?_).trans (h3 k hk)⟩
    obtain ⟨e1, e2⟩ := hl.there (k := k) hlt
    rcases hk with hk | hk
    · exact .inl (e1.2 hk)
    · exact .inr (e2.trans hk)
  · obtain ⟨o1, h1, h2, h3⟩ := h.objs b o hb ho
    obtain ⟨o2, h4, h5, h6⟩ := h'.objs b o1 h1 h2
    exact ⟨o2, h4, h5, fun h => h6.1 (h3.1 h), fun h => h6.2 (h3.2 h)⟩
def EvOk (wl : World) (top : Nat) (e : Event) : Prop :=
  match e.loc with
  | .cell a => a.block < top ∧ e.sync = false ∧ (wl.heap.size ≤ a.block ∨ ((∃ v, wl.cell? a = some v) ∧ (e.write = true → wl.frozen? a = false)))
  | .obj r => r < top ∧ (∀ o : Obj, wl.heap[r]? = some o → isCells o = false) ∧ (e.sync = true → e.write = false)
  | .mark .noRoom => True
  | _ => False
def _root_.Go.Result.wd {α : Type} : Result α → World
  | .ok _ w => w
  | .halt _ w => w
def _root_.Go.Result.setW {α : Type} (w' : World) : Result α → Result α
  | .ok a _ => .ok a w'
  | .halt h _ => .halt h w'
def Fine {α : Type} : Result α → Prop
  | .ok _ _ => True
  | .halt (.panic _) _ => True
  | _ => False
structure Same {α : Type} (P : Program) (s : Sem α) (wl w : World) (es : Array Event) (w' : World) : Prop where
  run : s.runT P w es = ((s.runT P wl es).1.setW w', (s.runT P wl es).2)
  weak : Weak (s.runT P wl es).1.wd w'
  mono : wl.drawn ≤ (s.runT P wl es).1.wd.drawn
  drawn : w'.drawn + wl.drawn = w.drawn + (s.runT P wl es).1.wd.drawn
  upd : Upd wl w w'
  updl : Upd wl wl (s.runT P wl es).1.wd
  evs : ∃ l : List Event, (s.runT P wl es).2 = es ++ l.toArray ∧ ∀ e ∈ l, EvOk wl (s.runT P wl es).1.wd.heap.size e
  heap : wl.heap = w.heap → (s.runT P wl es).1.wd.heap = w'.heap
def NatC {α : Type} (P : Program) (C : World → Prop) (s : Sem α) : Prop :=
  ∀ wl w es, C wl → Weak wl w → Ok1 (s.runT P wl es).1 ∧ (Fine (s.runT P wl es).1 → (∀ i, wl.drawn + i < (s.runT P wl es).1.wd.drawn → w.tape (w.drawn + i) = wl.tape (wl.drawn + i)) → ∃ w', Same P s wl w es w')
def Natural {α : Type} (P : Program) (s : Sem α) : Prop := NatC P (fun _ => True) s
theorem Natural.c {α : Type} {P : Program} {C : World → Prop} {s : Sem α} (h : Natural P s) : NatC P C s := fun wl w es _ => h wl w es trivial
def Stable (C : World → Prop) : Prop := ∀ wl wm, C wl → Upd wl wl wm → C wm
theorem EvOk.mono {wl : World} {t t' : Nat} {e : Event} (h : EvOk wl t e) (ht : t ≤ t') : EvOk wl t' e := by
  unfold EvOk at *
  split <;> simp_all
  · omega
  · omega
theorem EvOk.back {wl wm : World} {t : Nat} {e : Event} (h : EvOk wm t e) (hl : Upd wl wl wm) : EvOk wl t e := by
  unfold EvOk at *
  split <;> simp_all
  · rename_i a _
    by_cases hb : wl.heap.size ≤ a.block
    · exact .inl hb
    · refine .inr ?_
      have hb' : a.block < wl.heap.size := by omega
      rcases h.2.2 with h3 | ⟨⟨v, hv⟩, h4⟩
      · have := hl.size; omega
      · have hsp : a.spot = none := by
          cases hs : a.spot with
          | none => rfl
          | some x =>
            unfold World.cell? at hv
            split at hv <;> simp [hs] at hv
        obtain ⟨bb, oo, ss⟩ := a
        simp only at hsp; subst hsp
        obtain ⟨e1, e2⟩ := hl.there (b := bb) (k := oo) hb'
        refine ⟨?_, fun hw => e2 ▸ h4 hw⟩
        cases hcv : wl.cell? ⟨bb, oo, none⟩ with
        | some v' => exact ⟨v', rfl⟩
        | none => rw [e1.2 hcv] at hv; cases hv
  · rename_i r _
    intro o ho
    cases hc : isCells o with
    | false => rfl
    | true =>
      cases o <;> simp [isCells] at hc
      obtain ⟨c', h1, _⟩ := hl.cells _ _ _ _ ho
      have := h.2.1 _ h1
      simp [isCells] at this
theorem natural_pure {α : Type} {P : Program} (a : α) : Natural P (Sem.pure a) := by
  intro wl w es _ hw
  refine ⟨trivial, fun _ _ => ?_⟩
  exact ⟨w, rfl, hw, Nat.le_refl _, by simp [Sem.runT, Result.wd], Upd.refl _ _, Upd.refl _ _, ⟨[], by simp [Sem.runT], by simp⟩, fun h => h⟩
theorem natural_halt {α : Type} {P : Program} (h : Halt) (hh : HaltOk h) : Natural P (Sem.halt h : Sem α) := by
  intro wl w es _ hw
  refine ⟨hh, fun _ _ => ?_⟩
  exact ⟨w, rfl, hw, Nat.le_refl _, by simp [Sem.runT, Result.wd], Upd.refl _ _, Upd.refl _ _, ⟨[], by simp [Sem.runT], by simp⟩, fun h => h⟩
theorem fine_left {α β : Type} {P : Program} {x : Sem α} {f : α → Sem β} {w : World} {es : Array Event} (h : Fine ((x.bind f).runT P w es).1) : Fine (x.runT P w es).1 := by
  rw [Sem.runT_bind'] at h
  cases hx : x.runT P w es with
  | mk r es' =>
    rw [hx] at h
    cases r with
    | ok a w' => trivial
    | halt hh w' => cases hh <;> exact h
theorem natC_bind {α β : Type} {P : Program} {C : World → Prop} {x : Sem α} {f : α → Sem β} (hC : Stable C) (hx : NatC P C x) (hf : ∀ a, NatC P C (f a)) : NatC P C (x.bind f) := by
  intro wl w es hcl hw
  refine ⟨?_, fun hfine hsync => ?_⟩
  · have hb := Sem.runT_bind' P x f wl es
    cases hxr : x.runT P wl es with
    | mk r es1 =>
      rw [hxr] at hb
      cases r with
      | halt h wl1 => rw [hb]; have := (hx wl wl es hcl hw.self).1; rw [hxr] at this; exact this
      | ok a wl1 =>
        simp only at hb
        rw [hb]
        obtain ⟨_, hs00⟩ := (hx wl wl es hcl hw.self).2 (by rw [hxr]; trivial) (fun _ _ => rfl)
        have hw00 := hs00.weak
        have hu00 := hs00.updl
        rw [hxr] at hw00 hu00
        exact (hf a wl1 wl1 es1 (hC _ _ hcl hu00) hw00.self).1
  have hfx := fine_left hfine
  have hb := Sem.runT_bind' P x f wl es
  have hbw := Sem.runT_bind' P x f w es
  have key : ∀ v, Weak wl v → (∀ i, wl.drawn + i < (x.runT P wl es).1.wd.drawn → v.tape (v.drawn + i) = wl.tape (wl.drawn + i)) → ∃ w', Same P x wl v es w' := fun v h1 h2 => (hx wl v es hcl h1).2 hfx h2
  cases hxr : x.runT P wl es with
  | mk r es1 =>
    rw [hxr] at hb hfx key
    cases r with
    | halt h wl1 =>
      simp only at hb
      rw [hb] at hsync
      obtain ⟨w', hs⟩ := key w hw hsync
      have hrun := hs.run
      rw [hxr] at hrun
      rw [hrun] at hbw
      simp only [Result.setW] at hbw
      refine ⟨w', ?_, ?_, ?_, ?_, hs.upd, ?_, ?_, ?_⟩
      · rw [hb, hbw]; rfl
      · rw [hb]; have := hs.weak; rw [hxr] at this; exact this
      · rw [hb]; have := hs.mono; rw [hxr] at this; exact this
      · rw [hb]; have := hs.drawn; rw [hxr] at this; exact this
      · rw [hb]; have := hs.updl; rw [hxr] at this; exact this
      · rw [hb]; have := hs.evs; rw [hxr] at this; exact this
      · rw [hb]; have := hs.heap; rw [hxr] at this; exact this
    | ok a wl1 =>
      simp only at hb
      rw [hb] at hfine hsync
      obtain ⟨_, hs00⟩ := key wl hw.self (fun _ _ => rfl)
      have hw00 := hs00.weak
      have hu00 := hs00.updl
      rw [hxr] at hw00 hu00
      have hc1 : C wl1 := hC _ _ hcl hu00
      obtain ⟨_, hs0⟩ := (hf a wl1 wl1 es1 hc1 hw00.self).2 hfine (fun _ _ => rfl)
      have hm := hs0.mono
      obtain ⟨w1, hs⟩ := key w hw (fun i hi => hsync i (Nat.lt_of_lt_of_le hi hm))
      have hrun := hs.run
      have hd := hs.drawn
      have hmo := hs.mono
      have hwk := hs.weak
      have hul := hs.updl
      have hev := hs.evs
      rw [hxr] at hrun hd hmo hwk hul hev
      simp only [Result.wd, Result.setW] at hrun hd hmo hwk hul hev
      obtain ⟨w', hs'⟩ := (hf a wl1 w1 es1 hc1 hwk).2 hfine (fun i hi => by
        have e1 : wl1.drawn = wl.drawn + (wl1.drawn - wl.drawn) := by omega
        have e2 : w1.drawn + i = w.drawn + ((wl1.drawn - wl.drawn) + i) := by omega
        have := hsync ((wl1.drawn - wl.drawn) + i) (by omega)
        rw [hs.upd.tape, e2, this, hul.tape]
        congr 1; omega)
      rw [hrun] at hbw
      simp only at hbw
      have hhp := hs.heap
      rw [hxr] at hhp
      refine ⟨w', ?_, ?_, ?_, ?_, ?_, ?_, ?_, fun hh => by rw [hb]; exact hs'.heap (hhp hh)⟩
      · rw [hb, hbw]; exact hs'.run
      · rw [hb]; exact hs'.weak
      · rw [hb]; exact Nat.le_trans hmo hs'.mono
      · rw [hb]; have := hs'.drawn; omega
      · exact Upd.trans hul hw.size hs.upd hs'.upd
      · rw [hb]; exact Upd.trans hul rfl hul hs'.updl
      · rw [hb]
        obtain ⟨l1, h1, h2⟩ := hev
        obtain ⟨l2, h3, h4⟩ := hs'.evs
        refine ⟨l1 ++ l2, by rw [h3, h1]; simp, fun e he => ?_⟩
        rcases List.mem_append.1 he with he | he
        · exact (h2 e he).mono hs'.updl.size
        · exact (h4 e he).back hul
theorem natural_bind {α β : Type} {P : Program} {x : Sem α} {f : α → Sem β} (hx : Natural P x) (hf : ∀ a, Natural P (f a)) : Natural P (x.bind f) := natC_bind (fun _ _ _ _ => trivial) hx hf
theorem Weak.cell {wl w : World} (h : Weak wl w) {a : Addr} {v : Value} (hc : wl.cell? a = some v) : w.cell? a = some v := by
  unfold World.cell? at *
  split at hc
  · rename_i c e f hb
    split at hc
    · cases hc
    rename_i hs
    obtain ⟨o', h1, h2⟩ := h.get hb
    cases h2 with
    | blind hb => have := hb.cells.1; simp [isCells] at this
    | same => rw [h1]; simp only [hs, if_false]; exact hc
    | cut g1 g2 g3 =>
      rw [h1]; simp only [hs, if_false]
      rw [g2 _ (Array.getElem?_eq_some_iff.1 hc).1]; exact hc
  · cases hc
theorem spot_of_cell {w : World} {a : Addr} {v : Value} (hc : w.cell? a = some v) : a = ⟨a.block, a.off, none⟩ := by
  unfold World.cell? at hc
  split at hc
  · split at hc
    · cases hc
    · rename_i hs
      obtain ⟨b, o, s⟩ := a
      cases s with
      | none => rfl
      | some x => simp at hs
  · cases hc
theorem block_of_cell {w : World} {a : Addr} {v : Value} (hc : w.cell? a = some v) : ∃ c e f, w.heap[a.block]? = some (.cells c e f) ∧ c[a.off]? = some v := by
  unfold World.cell? at hc
  split at hc
  · rename_i c e f hb
    split at hc
    · cases hc
    · exact ⟨c, e, f, hb, hc⟩
  · cases hc
theorem Weak.frozen {wl w : World} (h : Weak wl w) {a : Addr} {v : Value} (hc : wl.cell? a = some v) (hf : wl.frozen? a = false) : w.frozen? a = false := by
  obtain ⟨c, e, f, hb, hv⟩ := block_of_cell hc
  obtain ⟨o', h1, h2⟩ := h.get hb
  unfold World.frozen? at *
  rw [hb] at hf
  rw [h1]
  cases h2 with
  | blind hb => have := hb.cells.1; simp [isCells] at this
  | same => exact hf
  | cut g1 g2 g3 =>
    rename_i c' f'
    cases hfr : frz f' a.off with
    | false => exact hfr
    | true => have := g3 _ (Array.getElem?_eq_some_iff.1 hv).1 hfr; unfold frz at this; exact absurd hf (by simp only at this ⊢; rw [this]; decide)
theorem far_none {P : Program} {w : World} {a : Addr} {b : Bool} (hv : ∀ o, w.heap[a.block]? = some o → odd o = false) : ∃ h, w.farLoad P a b = .error h ∧ HaltOk h ∧ ∀ α (w' : World), ¬ Fine (Result.halt h w' : Result α) := by
  unfold World.farLoad
  split
  · rename_i x u hb
    have hs : x.spot.isSome = true := by
      have := hv _ hb
      simp only [odd] at this
      cases hx : x.spot with
      | none => rw [hx] at this; cases this
      | some y => rfl
    have : w.viewLoad P x u a b = .error "memory seen as another type: a place without cells" := by
      unfold World.viewLoad World.seen
      simp only [hs, Bool.or_true, if_true]
      rfl
    rw [this]
    exact ⟨_, rfl, trivial, fun _ _ h => h⟩
  · refine ⟨_, rfl, ?_, fun α w' => ?_⟩
    · unfold World.noCell
      split
      · rename_i hb; exact absurd (hv _ hb) (by simp [odd])
      · trivial
      · trivial
    · unfold World.noCell
      split <;> exact fun h => h
theorem farS_none {P : Program} {w : World} {a : Addr} {v : Value} {b : Bool} (hv : ∀ o, w.heap[a.block]? = some o → odd o = false) : ∃ h, w.farStore P a v b = .error h ∧ HaltOk h ∧ ∀ α (w' : World), ¬ Fine (Result.halt h w' : Result α) := by
  unfold World.farStore
  split
  · rename_i x u hb
    have hs : x.spot.isSome = true := by
      have := hv _ hb
      simp only [odd] at this
      cases hx : x.spot with
      | none => rw [hx] at this; cases this
      | some y => rfl
    have : ∃ why, w.viewStore P x u a v b = .error why := by
      unfold World.viewStore World.seen
      by_cases ht : tight P P.depth u = true
      · simp only [ht, hs, Bool.or_true, if_true, Bool.not_true, Bool.false_eq_true, if_false]
        exact ⟨_, rfl⟩
      · simp only [Bool.not_eq_true] at ht
        simp only [ht, Bool.not_false, if_true]
        exact ⟨_, rfl⟩
    obtain ⟨why, this⟩ := this
    rw [this]
    exact ⟨_, rfl, trivial, fun _ _ h => h⟩
  · refine ⟨_, rfl, ?_, fun α w' => ?_⟩
    · unfold World.noCell
      split
      · rename_i hb; exact absurd (hv _ hb) (by simp [odd])
      · trivial
      · trivial
    · unfold World.noCell
      split <;> exact fun h => h
theorem natural_load {P : Program} (a : Addr) : Natural P (load a) := by
  intro wl w es _ hw
  refine ⟨?_, fun hfine hsync => ?_⟩
  · show Ok1 ((Sem.load .plain a Sem.pure).runT P wl es).1
    cases hc : wl.cell? a with
    | some v => simp only [Sem.runT, hc]; trivial
    | none =>
      obtain ⟨h, h1, h2, _⟩ := far_none (P := P) (a := a) (b := Mode.plain == .atomic) (fun o ho => hw.noOdd a.block o ho)
      simp only [Sem.runT, hc, h1]; exact h2
  show ∃ w', Same P (Sem.load .plain a Sem.pure) wl w es w'
  have hfine' : Fine ((Sem.load .plain a Sem.pure).runT P wl es).1 := hfine
  cases hc : wl.cell? a with
  | none =>
    obtain ⟨h, h1, _, h2⟩ := far_none (P := P) (a := a) (b := Mode.plain == .atomic) (fun o ho => hw.noOdd a.block o ho)
    simp only [Sem.runT, hc, h1] at hfine'
    exact absurd hfine' (h2 _ _)
  | some v =>
    have hc' := hw.cell hc
    have e1 : (Sem.load .plain a Sem.pure).runT P wl es = (.ok v wl, es.push ⟨.cell a, false, false⟩) := by simp only [Sem.runT, hc]; rfl
    have e2 : (Sem.load .plain a Sem.pure).runT P w es = (.ok v w, es.push ⟨.cell a, false, false⟩) := by simp only [Sem.runT, hc']; rfl
    refine ⟨w, by rw [e1, e2]; rfl, by rw [e1]; exact hw, by rw [e1]; exact Nat.le_refl _, by rw [e1]; simp [Result.wd], Upd.refl _ _, by rw [e1]; exact Upd.refl _ _, ⟨[⟨.cell a, false, false⟩], by rw [e1]; simp, ?_⟩, by rw [e1]; exact fun h => h⟩
    intro e he
    simp only [List.mem_singleton] at he
    subst he
    obtain ⟨c, ee, f, hb, _⟩ := block_of_cell hc
    rw [e1]
    exact ⟨(Array.getElem?_eq_some_iff.1 hb).1, rfl, .inr ⟨⟨v, hc⟩, fun h => by cases h⟩⟩
theorem heap_setCell (w : World) (a : Addr) (v : Value) (b : Nat) : (w.setCell a v).heap[b]? = if a.block = b then (w.heap[b]?).map (fun | .cells c elem frozen => .cells (if a.spot.isSome then c else c.setIfInBounds a.off v) elem frozen | o => o) else w.heap[b]? := by
  simp only [World.setCell, Array.getElem?_modify]
  split <;> rfl
theorem natural_store {P : Program} (a : Addr) (v : Value) : Natural P (store a v) := by
  intro wl w es _ hw
  refine ⟨?_, fun hfine hsync => ?_⟩
  · show Ok1 ((Sem.store .plain a v (Sem.pure ())).runT P wl es).1
    by_cases hv : (∃ x, v = .agg x) ∨ (∃ x, v = .tuple x)
    · rcases hv with ⟨x, rfl⟩ | ⟨x, rfl⟩ <;> trivial
    · have er : ∀ u : World, (Sem.store .plain a v (Sem.pure ())).runT P u es = match u.cell? a with
          | some _ => if u.frozen? a then (.halt (.unsupported (.unsafePointer "a write to bytes that a string shares")) u, es) else (.ok () (u.setCell a v), es.push ⟨.cell a, true, false⟩)
          | none => match u.farStore P a v (Mode.plain == .atomic) with
            | .ok (w, touched) => (.ok () w, es ++ touched.toArray.map (⟨.cell ·, true, Mode.plain == .atomic⟩))
            | .error h => (.halt h u, es) := by
        intro u
        cases v <;> first | exact absurd (.inl ⟨_, rfl⟩) hv | exact absurd (.inr ⟨_, rfl⟩) hv | rfl
      rw [er]
      cases hc : wl.cell? a with
      | some v0 => simp only []; split <;> trivial
      | none =>
        obtain ⟨h, h1, h2, _⟩ := farS_none (P := P) (a := a) (v := v) (b := Mode.plain == .atomic) (fun o ho => hw.noOdd a.block o ho)
        simp only [h1]; exact h2
  show ∃ w', Same P (Sem.store .plain a v (Sem.pure ())) wl w es w'
  have hfine' : Fine ((Sem.store .plain a v (Sem.pure ())).runT P wl es).1 := hfine
  have hplain : (∀ x, v ≠ .agg x) ∧ (∀ x, v ≠ .tuple x) := by
    constructor <;> rintro x rfl <;> exact hfine'.elim
  have er : ∀ u : World, (Sem.store .plain a v (Sem.pure ())).runT P u es = match u.cell? a with
      | some _ => if u.frozen? a then (.halt (.unsupported (.unsafePointer "a write to bytes that a string shares")) u, es) else (.ok () (u.setCell a v), es.push ⟨.cell a, true, false⟩)
      | none => match u.farStore P a v (Mode.plain == .atomic) with
        | .ok (w, touched) => (.ok () w, es ++ touched.toArray.map (⟨.cell ·, true, Mode.plain == .atomic⟩))
        | .error h => (.halt h u, es) := by
    intro u
    cases v <;> first | exact absurd rfl (hplain.1 _) | exact absurd rfl (hplain.2 _) | rfl
  cases hc : wl.cell? a with
  | none =>
    obtain ⟨h, h1, _, h2⟩ := farS_none (P := P) (a := a) (v := v) (b := Mode.plain == .atomic) (fun o ho => hw.noOdd a.block o ho)
    rw [er, hc] at hfine'
    simp only [h1] at hfine'
    exact absurd hfine' (h2 _ _)
  | some v0 =>
    cases hf : wl.frozen? a with
    | true => rw [er, hc] at hfine'; simp only [hf, if_true] at hfine'; exact hfine'.elim
    | false =>
      have hc' := hw.cell hc
      have hf' := hw.frozen hc hf
      have e1 : (Sem.store .plain a v (Sem.pure ())).runT P wl es = (.ok () (wl.setCell a v), es.push ⟨.cell a, true, false⟩) := by rw [er, hc]; simp only [hf, Bool.false_eq_true, if_false]
      have e2 : (Sem.store .plain a v (Sem.pure ())).runT P w es = (.ok () (w.setCell a v), es.push ⟨.cell a, true, false⟩) := by rw [er, hc']; simp only [hf', Bool.false_eq_true, if_false]
      obtain ⟨c, ee, f, hb, hv0⟩ := block_of_cell hc
      have hsp := spot_of_cell hc
      have hspn : a.spot.isSome = false := by rw [hsp]; rfl
      have upd : ∀ u : World, Weak wl u → Upd wl u (u.setCell a v) := by
        intro u hu
        refine ⟨by simp [World.setCell], fun b c1 e1 f1 hb1 => ?_, fun b o hb1 ho => ?_, fun b o hb1 ho => ?_, fun b o hb1 ho _ => ?_, rfl, rfl, rfl⟩
        · rw [heap_setCell]
          by_cases hab : a.block = b
          · subst hab
            refine ⟨c1.setIfInBounds a.off v, by simp [hb1, hspn], by simp, fun k hk => ?_⟩
            rw [Array.getElem?_setIfInBounds]
            by_cases hka : a.off = k
            · subst hka
              rw [← hsp] at hk
              rcases hk with hk | hk
              · rw [hc] at hk; cases hk
              · rw [hf] at hk; cases hk
            · simp [hka]
          · exact ⟨c1, by simp [hab, hb1], rfl, fun _ _ => rfl⟩
        · rw [heap_setCell]
          split
          · cases o <;> first | (cases ho; done) | (rw [hb1]; rfl)
          · exact hb1
        · rw [heap_setCell]
          split
          · refine ⟨o, ?_, ho, id, id⟩; cases o <;> first | (cases ho; done) | (rw [hb1]; rfl)
          · exact ⟨o, hb1, ho, id, id⟩
        · rw [heap_setCell]
          have hne : a.block ≠ b := by rintro rfl; rw [hb] at hb1; cases hb1; cases ho
          rw [if_neg hne]
      refine ⟨w.setCell a v, by rw [e1, e2]; rfl, ?_, by rw [e1]; exact Nat.le_refl _, by rw [e1]; simp [Result.wd, World.setCell], upd w hw, by rw [e1]; exact upd wl hw.self, ⟨[⟨.cell a, true, false⟩], by rw [e1]; simp, ?_⟩, fun h => by rw [e1]; simp only [Result.wd, World.setCell, h]⟩
      · rw [e1]
        refine ⟨by simp [World.setCell, hw.size, Result.wd], fun b o o' h1 h2 => ?_, hw.os, hw.out, fun b o h => ?_⟩
        · simp only [Result.wd, heap_setCell] at h1 h2
          by_cases hab : a.block = b
          · simp only [hab, if_true] at h1 h2
            obtain ⟨p, hp, rfl⟩ := Option.map_eq_some_iff.1 h1
            obtain ⟨q, hq, rfl⟩ := Option.map_eq_some_iff.1 h2
            cases hw.obj b p q hp hq with
            | blind hb => cases hb <;> first | exact .blind (.view _ _ _) | exact .blind (.late _ _) | exact .blind (.map _ _) | exact .blind (.chan _ _ _ _ _ _)
            | same => exact .same _
            | cut g1 g2 g3 =>
              refine .cut (by simp only [hspn, Bool.false_eq_true, if_false, Array.size_setIfInBounds]; exact g1) (fun k hk => ?_) (fun k hk => g3 k (by simpa [hspn] using hk))
              simp only [hspn, Bool.false_eq_true, if_false, Array.size_setIfInBounds] at hk ⊢
              rw [Array.getElem?_setIfInBounds, Array.getElem?_setIfInBounds]
              by_cases e : a.off = k
              · subst e; simp [hk, Nat.lt_of_lt_of_le hk g1]
              · simp [e, g2 k hk]
          · simp only [hab, if_false] at h1 h2
            exact hw.obj b o o' h1 h2
        · simp only [Result.wd, heap_setCell] at h
          split at h
          · obtain ⟨p, hp, hq⟩ := Option.map_eq_some_iff.1 h
            have hpo := hw.noOdd _ _ hp
            subst hq
            cases p <;> first | rfl | exact hpo
          · exact hw.noOdd _ _ h
      · intro e he
        simp only [List.mem_singleton] at he
        subst he
        rw [e1]
        exact ⟨by simp only [Result.wd, World.setCell, Array.size_modify]; exact (Array.getElem?_eq_some_iff.1 hb).1, rfl, .inr ⟨⟨v0, hc⟩, fun _ => hf⟩⟩
theorem natural_new {P : Program} (o : Obj) (hv : odd o = false) : Natural P (newObj o) := by
  intro wl w es _ hw
  refine ⟨trivial, fun hfine hsync => ?_⟩
  show ∃ w', Same P (Sem.new o Sem.pure) wl w es w'
  have e1 : (Sem.new o Sem.pure).runT P wl es = (.ok wl.heap.size { wl with heap := wl.heap.push o }, es) := rfl
  have e2 : (Sem.new o Sem.pure).runT P w es = (.ok w.heap.size { w with heap := w.heap.push o }, es) := rfl
  have upd : ∀ u : World, wl.heap.size = u.heap.size → Upd wl u { u with heap := u.heap.push o } := fun u hsu =>
    ⟨by simp, fun b c e f hb => ⟨c, by rw [Array.getElem?_push_lt (Array.getElem?_eq_some_iff.1 hb).1]; rw [Array.getElem?_eq_some_iff] at hb; obtain ⟨h1, h2⟩ := hb; rw [h2], rfl, fun _ _ => rfl⟩,
      fun b x hb _ => by rw [Array.getElem?_push_lt (Array.getElem?_eq_some_iff.1 hb).1]; obtain ⟨h1, h2⟩ := Array.getElem?_eq_some_iff.1 hb; rw [h2],
      fun b x hb hx => ⟨x, by rw [Array.getElem?_push_lt (Array.getElem?_eq_some_iff.1 hb).1]; obtain ⟨h1, h2⟩ := Array.getElem?_eq_some_iff.1 hb; rw [h2], hx, id, id⟩,
      fun b x hb _ _ => by have hlt : b < u.heap.size := hsu ▸ (Array.getElem?_eq_some_iff.1 hb).1; show (u.heap.push o)[b]? = _; rw [Array.getElem?_push, if_neg (by omega)], rfl, rfl, rfl⟩
  refine ⟨{ w with heap := w.heap.push o }, by rw [e1, e2, hw.size]; rfl, ?_, by rw [e1]; exact Nat.le_refl _, by rw [e1]; simp [Result.wd], upd w hw.size, by rw [e1]; exact upd wl rfl, ⟨[], by rw [e1]; simp, by simp⟩, fun h => by rw [e1]; simp only [Result.wd, h]⟩
  rw [e1]
  refine ⟨by simp [Result.wd, hw.size], fun b p q h1 h2 => ?_, hw.os, hw.out, fun b x h => ?_⟩
  · simp only [Result.wd, Array.getElem?_push] at h1 h2
    rw [hw.size] at h1
    split at h1
    · rename_i hb; rw [if_pos hb] at h2; cases h1; cases h2; exact .same _
    · rename_i hb; rw [if_neg hb] at h2; exact hw.obj b p q h1 h2
  · simp only [Result.wd, Array.getElem?_push] at h
    split at h
    · cases h; exact hv
    · exact hw.noOdd _ _ h
theorem natural_choose {P : Program} (q : Question) : Natural P (choose q) := by
  intro wl w es _ hw
  refine ⟨?_, fun hfine hsync => ?_⟩
  · show Ok1 ((Sem.choose q Sem.pure).runT P wl es).1
    by_cases hq : q.forced = true
    · simp [-Sem.runT_eq, Sem.runT, hq, Ok1]
    · simp [-Sem.runT_eq, Sem.runT, hq, Ok1]
  show ∃ w', Same P (Sem.choose q Sem.pure) wl w es w'
  have hsync' : ∀ i, wl.drawn + i < ((Sem.choose q Sem.pure).runT P wl es).1.wd.drawn → w.tape (w.drawn + i) = wl.tape (wl.drawn + i) := hsync
  by_cases hq : q.forced = true
  · have e : ∀ u : World, (Sem.choose q Sem.pure).runT P u es = (.ok 0 u, es) := fun u => by simp [Sem.runT, hq]
    exact ⟨w, by rw [e, e]; rfl, by rw [e]; exact hw, by rw [e]; exact Nat.le_refl _, by rw [e]; simp [Result.wd], Upd.refl _ _, by rw [e]; exact Upd.refl _ _, ⟨[], by rw [e]; simp, by simp⟩, fun h => by rw [e]; exact h⟩
  · have e : ∀ u : World, (Sem.choose q Sem.pure).runT P u es = (.ok (q.cut (u.tape u.drawn q)) { u with drawn := u.drawn + 1 }, es) := fun u => by simp [Sem.runT, hq]
    rw [e] at hsync'
    have ht := hsync' 0 (by simp [Result.wd])
    simp only [Nat.add_zero] at ht
    have upd : ∀ u : World, Upd wl u { u with drawn := u.drawn + 1 } := fun u => ⟨Nat.le_refl _, fun _ c _ _ h => ⟨c, h, rfl, fun _ _ => rfl⟩, fun _ _ h _ => h, fun _ o h ho => ⟨o, h, ho, id, id⟩, fun _ _ _ _ _ => rfl, rfl, rfl, rfl⟩
    exact ⟨{ w with drawn := w.drawn + 1 }, by rw [e, e, ht]; rfl, by rw [e]; exact ⟨hw.size, hw.obj, hw.os, hw.out, hw.noOdd⟩, by rw [e]; simp [Result.wd], by rw [e]; simp [Result.wd]; omega, upd w, by rw [e]; exact upd wl, ⟨[], by rw [e]; simp, by simp⟩, fun h => by rw [e]; exact h⟩
theorem natural_program {P : Program} {α : Type} (k : Program → Sem α) (h : Natural P (k P)) : Natural P (Sem.program k) := fun wl w es h0 h1 => ⟨(h wl w es h0 h1).1, fun h2 h3 => let ⟨w', hs⟩ := (h wl w es h0 h1).2 h2 h3; ⟨w', hs.run, hs.weak, hs.mono, hs.drawn, hs.upd, hs.updl, hs.evs, hs.heap⟩⟩
theorem natural_noRoom {P : Program} : Natural P (mark .noRoom) := by
  intro wl w es _ hw
  refine ⟨trivial, fun hfine hsync => ?_⟩
  show ∃ w', Same P (Sem.mark .noRoom (Sem.pure ())) wl w es w'
  have e : ∀ u : World, (Sem.mark .noRoom (Sem.pure ())).runT P u es = (.ok () u, es.push ⟨.mark .noRoom, false, true⟩) := fun u => rfl
  exact ⟨w, by rw [e, e]; rfl, by rw [e]; exact hw, by rw [e]; exact Nat.le_refl _, by rw [e]; simp [Result.wd], Upd.refl _ _, by rw [e]; exact Upd.refl _ _, ⟨[⟨.mark .noRoom, false, true⟩], by rw [e]; simp, by simp [EvOk]⟩, fun h => by rw [e]; exact h⟩
def NoChan (r : Nat) (w : World) : Prop := ∀ o : Obj, w.heap[r]? = some o → isMap o = true
theorem noChan_stable (r : Nat) : Stable (fun w => r < w.heap.size ∧ NoChan r w) := by
  rintro wl wm ⟨hl, h⟩ hu
  refine ⟨Nat.lt_of_lt_of_le hl hu.size, fun o ho => ?_⟩
  obtain ⟨o0, h0⟩ : ∃ o, wl.heap[r]? = some o := ⟨_, Array.getElem?_eq_getElem hl⟩
  have hm := h _ h0
  obtain ⟨o', h1, _, _, h3⟩ := hu.objs _ _ h0 (isMap_cells hm).1
  rw [h1] at ho; cases ho
  exact h3 hm
theorem natC_setObj {P : Program} (r : Nat) (o : Obj) (h1 : isCells o = false) (h2 : o.isChan = false) (h3 : odd o = false) (h4 : isMap o = true) : NatC P (fun w => r < w.heap.size ∧ NoChan r w) (setObj r o) := by
  rintro wl w es ⟨hlt, hno⟩ hw
  refine ⟨?_, fun hfine hsync => ?_⟩
  · show Ok1 ((Sem.setObj r o (Sem.pure ())).runT P wl es).1
    cases hr : wl.heap[r]? with
    | none => simp only [Sem.runT, hr]; trivial
    | some p => cases p <;> simp only [Sem.runT, hr] <;> trivial
  show ∃ w', Same P (Sem.setObj r o (Sem.pure ())) wl w es w'
  have hfine' : Fine ((Sem.setObj r o (Sem.pure ())).runT P wl es).1 := hfine
  cases hr : wl.heap[r]? with
  | none => simp only [Sem.runT, hr] at hfine'; exact hfine'.elim
  | some p =>
    cases hc : isCells p with
    | true => cases p <;> simp [isCells] at hc; simp only [Sem.runT, hr] at hfine'; exact hfine'.elim
    | false =>
      obtain ⟨p', g1, g2⟩ := hw.get hr
      have hpm := hno _ hr
      have hpe : p' = p := by cases g2 with
        | same => rfl
        | cut => simp [isCells] at hc
        | blind hb => rw [hb.noMap] at hpm; cases hpm
      subst hpe
      have hc' := hc
      have hnp := (isMap_cells hpm).2
      have e : ∀ (u : World) (p' : Obj), isCells p' = false → u.heap[r]? = some p' → (Sem.setObj r o (Sem.pure ())).runT P u es = (.ok () { u with heap := u.heap.setIfInBounds r o }, es.push ⟨.obj r, true, o.isChan⟩) := by
        intro u p' hc hu
        cases p' <;> first | (simp [isCells] at hc; done) | (simp only [Sem.runT, hu])
      have upd : ∀ (u : World) (q : Obj), isCells q = false → q.isChan = false → u.heap[r]? = some q → Upd wl u { u with heap := u.heap.setIfInBounds r o } := by
        intro u _ hc hnp hu
        refine ⟨by simp, fun b c ee f hb => ⟨c, ?_, rfl, fun _ _ => rfl⟩, fun b q hb hq => ?_, fun b q hb hq => ?_, fun b q hb hq hqm => ?_, rfl, rfl, rfl⟩
        · have hne : r ≠ b := by rintro rfl; rw [hu] at hb; cases hb; simp [isCells] at hc
          simpa [Array.getElem?_setIfInBounds_ne hne] using hb
        · have hne : r ≠ b := by rintro rfl; rw [hu] at hb; cases hb; rw [hnp] at hq; cases hq
          simpa [Array.getElem?_setIfInBounds_ne hne] using hb
        · by_cases hrb : r = b
          · subst hrb
            exact ⟨o, by simp [(Array.getElem?_eq_some_iff.1 hu).1], h1, fun _ => h2, fun _ => h4⟩
          · exact ⟨q, by simpa [Array.getElem?_setIfInBounds_ne hrb] using hb, hq, id, id⟩
        · have hne : r ≠ b := by rintro rfl; rw [hr] at hb; cases hb; rw [hpm] at hqm; cases hqm
          simp [Array.getElem?_setIfInBounds_ne hne]
      have hl := e wl _ hc hr
      refine ⟨{ w with heap := w.heap.setIfInBounds r o }, by rw [hl, e w _ hc' g1]; rfl, ?_, by rw [hl]; exact Nat.le_refl _, by rw [hl]; simp [Result.wd], upd w _ hc' hnp g1, by rw [hl]; exact upd wl _ hc hnp hr, ⟨[⟨.obj r, true, o.isChan⟩], by rw [hl]; simp, ?_⟩, fun h => by rw [hl]; simp only [Result.wd, h]⟩
      · rw [hl]
        refine ⟨by simp [Result.wd, hw.size], fun b q q' k1 k2 => ?_, hw.os, hw.out, fun b x k => ?_⟩
        · simp only [Result.wd, Array.getElem?_setIfInBounds] at k1 k2
          by_cases hrb : r = b
          · subst hrb
            simp only [if_true] at k1 k2
            rw [if_pos hlt] at k1; rw [if_pos (hw.size ▸ hlt)] at k2
            cases k1; cases k2; exact .same _
          · simp only [hrb, if_false] at k1 k2
            exact hw.obj b q q' k1 k2
        · simp only [Result.wd, Array.getElem?_setIfInBounds] at k
          split at k
          · first
              | (cases k; exact h3)
              | (split at k
                 · cases k; exact h3
                 · cases k)
          · exact hw.noOdd _ _ k
      · intro ev he
        simp only [List.mem_singleton] at he
        subst he
        rw [hl]
        exact ⟨by simp only [Result.wd, Array.size_setIfInBounds]; exact hlt, fun o' ho => by rw [hr] at ho; cases ho; exact hc, fun h => by rw [h2] at h; cases h⟩
theorem natural_getObj_bind {α : Type} {P : Program} (r : Nat) {f : Obj → Sem α} (h : ∀ o, isCells o = false → NatC P (fun w => w.heap[r]? = some o) (f o)) (hbl : ∀ o o', Blind o o' → f o' = f o ∨ ∀ w es, ¬ Fine ((f o).runT P w es).1) : Natural P ((getObj r).bind f) := by
  intro wl w es _ hw
  refine ⟨?_, fun hfine hsync => ?_⟩
  · rw [Sem.runT_bind']
    rw [show getObj r = Sem.getObj r Sem.pure from rfl]
    cases hr : wl.heap[r]? with
    | none => simp only [Sem.runT, hr]; trivial
    | some o =>
      cases hc : isCells o with
      | true => cases o <;> simp [isCells] at hc; simp only [Sem.runT, hr]; trivial
      | false =>
        have e : (Sem.getObj r Sem.pure).runT P wl es = (.ok o wl, es.push ⟨.obj r, false, o.isChan⟩) := by
          cases o <;> first | (simp [isCells] at hc; done) | (simp only [Sem.runT, hr])
        rw [e]
        exact (h o hc wl wl _ hr hw.self).1
  have hfx := fine_left hfine
  cases hr : wl.heap[r]? with
  | none => exact absurd hfx (by show ¬ Fine ((Sem.getObj r Sem.pure).runT P wl es).1; simp only [Sem.runT, hr]; exact fun h => h)
  | some o =>
    cases hc : isCells o with
    | true => cases o <;> simp [isCells] at hc; exact absurd hfx (by show ¬ Fine ((Sem.getObj r Sem.pure).runT P wl es).1; simp only [Sem.runT, hr]; exact fun h => h)
    | false =>
      have e : ∀ u : World, u.heap[r]? = some o → ((getObj r).bind f).runT P u es = (f o).runT P u (es.push ⟨.obj r, false, o.isChan⟩) := by
        intro u hu
        rw [Sem.runT_bind']
        have : (getObj r).runT P u es = (.ok o u, es.push ⟨.obj r, false, o.isChan⟩) := by
          show (Sem.getObj r Sem.pure).runT P u es = _
          cases o <;> first | (simp [isCells] at hc; done) | (simp only [Sem.runT, hu])
        rw [this]
      obtain ⟨o', h1, h2⟩ := hw.get hr
      have e' : ((getObj r).bind f).runT P w es = (f o).runT P w (es.push ⟨.obj r, false, o.isChan⟩) := by
        cases h2 with
        | same => exact e _ h1
        | cut => simp [isCells] at hc
        | blind hb =>
          rw [Sem.runT_bind']
          have : (getObj r).runT P w es = (.ok o' w, es.push ⟨.obj r, false, o'.isChan⟩) := by
            show (Sem.getObj r Sem.pure).runT P w es = _
            have hc' := hb.cells.2
            cases o' <;> first | (simp [isCells] at hc'; done) | (simp only [Sem.runT, h1])
          rw [this, hb.sameChan]
          rcases hbl _ _ hb with hbe | hbe
          · simp only [hbe]
          · rw [e _ hr] at hfine; exact absurd hfine (hbe _ _)
      rw [e _ hr] at hfine hsync
      obtain ⟨w', hs⟩ := (h o hc wl w (es.push ⟨.obj r, false, o.isChan⟩) hr hw).2 hfine hsync
      refine ⟨w', by rw [e _ hr, e']; exact hs.run, by rw [e _ hr]; exact hs.weak, by rw [e _ hr]; exact hs.mono, by rw [e _ hr]; exact hs.drawn, hs.upd, by rw [e _ hr]; exact hs.updl, ?_, fun h => by rw [e _ hr]; exact hs.heap h⟩
      rw [e _ hr]
      obtain ⟨l, h3, h4⟩ := hs.evs
      refine ⟨⟨.obj r, false, o.isChan⟩ :: l, by rw [h3]; apply Array.ext'; simp, fun ev he => ?_⟩
      rcases List.mem_cons.1 he with rfl | he
      · exact ⟨Nat.lt_of_lt_of_le (Array.getElem?_eq_some_iff.1 hr).1 hs.updl.size, fun o ho => by rw [hr] at ho; cases ho; exact hc, fun _ => rfl⟩
      · exact h4 ev he
end Go.Town
