/-
  The company: what is held of the machine while each stands in its role; and how it is kept where one of them takes a step.
  A bystander's step: one on its way to its port, in Done, or leaving.
-/
import Derived.Conc.JoinTrace
import Derived.Test.YtihmcigoofhpmaaZah
set_option linter.all false
namespace Go.Town
open Go Go.Conc
open Go.ConcN (sumTo upd sumTo_upd upd_ne upd_same sumTo_congr)
theorem Out.cell {hid : Nat → Nat → Prop} {w w' : World} (h : Out hid w w') {x k : Nat} (hn : ¬ hid x k) (hlt : x < w.heap.size) : w'.cell? ⟨x, k, none⟩ = w.cell? ⟨x, k, none⟩ ∧ w'.frozen? ⟨x, k, none⟩ = w.frozen? ⟨x, k, none⟩ := by
  obtain ⟨ob, ho⟩ : ∃ ob, w.heap[x]? = some ob := ⟨_, Array.getElem?_eq_getElem hlt⟩
  cases hc : isCells ob with
  | true =>
    cases ob <;> simp [isCells] at hc
    obtain ⟨c', h1, _, h3⟩ := h.cells x _ _ _ ho
    simp [World.cell?, World.frozen?, ho, h1, h3 k hn]
  | false =>
    have h1 := h.objs x ob ho hc
    simp [World.cell?, World.frozen?, ho, h1]
theorem Mov.cell {hid frz : Nat → Nat → Prop} {w w' : World} {es : Array Event} (h : Mov hid frz w w' es) {x k : Nat} (hn : hid x k ∨ frz x k) (hlt : x < w.heap.size) : w'.cell? ⟨x, k, none⟩ = w.cell? ⟨x, k, none⟩ ∧ w'.frozen? ⟨x, k, none⟩ = w.frozen? ⟨x, k, none⟩ := by
  obtain ⟨ob, ho⟩ : ∃ ob, w.heap[x]? = some ob := ⟨_, Array.getElem?_eq_getElem hlt⟩
  cases hc : isCells ob with
  | true =>
    cases ob <;> simp [isCells] at hc
    obtain ⟨c', h1, _, h3⟩ := h.cells x _ _ _ ho
    simp [World.cell?, World.frozen?, ho, h1, h3 k hn]
  | false =>
    obtain ⟨ob', h1, h2⟩ := h.objs x ob ho hc
    cases ob <;> simp [isCells] at hc <;> cases ob' <;> simp [isCells] at h2 <;> simp [World.cell?, World.frozen?, ho, h1]
theorem block_lt {w : World} {a : Addr} {v : Value} (h : w.cell? a = some v) : a.block < w.heap.size := by
  obtain ⟨c, e, f, hb, _⟩ := block_of_cell h
  exact (Array.getElem?_eq_some_iff.1 hb).1
theorem cell_setCell_ne (w : World) {x k x' k' : Nat} (v : Value) (h : x ≠ x' ∨ k ≠ k') : (w.setCell ⟨x, k, none⟩ v).cell? ⟨x', k', none⟩ = w.cell? ⟨x', k', none⟩ := by
  unfold World.cell?
  simp only [heap_setCell]
  by_cases hx : x = x'
  · subst hx
    have hk : k ≠ k' := h.elim (fun q => absurd rfl q) id
    cases hb : w.heap[x]? with
    | none => simp
    | some ob => cases ob <;> simp [Array.getElem?_setIfInBounds_ne hk]
  · simp [hx]
theorem cell_setCell_eq {w : World} {x k : Nat} {v₀ : Value} (v : Value) (h : w.cell? ⟨x, k, none⟩ = some v₀) : (w.setCell ⟨x, k, none⟩ v).cell? ⟨x, k, none⟩ = some v := by
  obtain ⟨c, e, f, hb, hk⟩ := block_of_cell h
  have hlt : k < c.size := (Array.getElem?_eq_some_iff.1 hk).1
  unfold World.cell?
  simp only [heap_setCell]
  simp only at hb
  simp [hb, hlt]
theorem frozen_setCell (w : World) (a a' : Addr) (v : Value) : (w.setCell a v).frozen? a' = w.frozen? a' := by
  unfold World.frozen?
  simp only [heap_setCell]
  by_cases hx : a.block = a'.block
  · simp only [hx, if_true]
    cases hb : w.heap[a'.block]? with
    | none => rfl
    | some ob => cases ob <;> rfl
  · simp [hx]
theorem heap_setCell_obj {w : World} {a : Addr} {v : Value} {r : Nat} {ob : Obj} (h : w.heap[r]? = some ob) (hc : isCells ob = false) : (w.setCell a v).heap[r]? = some ob := by
  rw [heap_setCell]
  split
  · rw [h]; cases ob <;> first | (cases hc; done) | rfl
  · exact h
theorem out_setCell (w : World) (x k : Nat) (v : Value) : Out (fun x' k' => x' = x ∧ k' = k) w (w.setCell ⟨x, k, none⟩ v) := by
  refine ⟨by simp [World.setCell], fun y c e f hb => ?_, fun y ob hb hc => heap_setCell_obj hb hc, rfl, rfl, rfl⟩
  rw [heap_setCell]
  by_cases hx : x = y
  · subst hx
    refine ⟨c.setIfInBounds k v, by simp [hb], by simp, fun k' hk => ?_⟩
    rw [Array.getElem?_setIfInBounds_ne (fun e => hk ⟨rfl, e.symm⟩)]
  · exact ⟨c, by simp [hx, hb], rfl, fun _ _ => rfl⟩
theorem Out.mono {hid hid' : Nat → Nat → Prop} {w w' : World} (h : Out hid w w') (hs : ∀ x k, hid x k → hid' x k) : Out hid' w w' :=
  ⟨h.size, fun x c e f hb => let ⟨c', h1, h2, h3⟩ := h.cells x c e f hb; ⟨c', h1, h2, fun k hk => h3 k fun q => hk (hs x k q)⟩, h.objs, h.os, h.out, h.tape⟩
theorem WgIs.setSt {b o : Nat} {w : World} {s m : Int} (h : WgIs b o w s m) (s' : Int) : WgIs b o (w.setCell ⟨b, o, none⟩ (.int .u64 s')) s' m :=
  ⟨cell_setCell_eq _ h.st, by rw [cell_setCell_ne _ _ (.inr (by omega))]; exact h.sm, by rw [frozen_setCell, frozen_setCell]; exact h.thaw⟩
theorem WgIs.setSm {b o : Nat} {w : World} {s m : Int} (h : WgIs b o w s m) (m' : Int) : WgIs b o (w.setCell ⟨b, o + 1, none⟩ (.int .u32 m')) s m' :=
  ⟨by rw [cell_setCell_ne _ _ (.inr (by omega))]; exact h.st, cell_setCell_eq _ h.sm, by rw [frozen_setCell, frozen_setCell]; exact h.thaw⟩
theorem WgIs.keep {b o : Nat} {w w' : World} {s m : Int} (h : WgIs b o w s m) (h0 : w'.cell? ⟨b, o, none⟩ = w.cell? ⟨b, o, none⟩ ∧ w'.frozen? ⟨b, o, none⟩ = w.frozen? ⟨b, o, none⟩) (h1 : w'.cell? ⟨b, o + 1, none⟩ = w.cell? ⟨b, o + 1, none⟩ ∧ w'.frozen? ⟨b, o + 1, none⟩ = w.frozen? ⟨b, o + 1, none⟩) : WgIs b o w' s m :=
  ⟨h0.1.trans h.st, h1.1.trans h.sm, h0.2.trans h.thaw.1, h1.2.trans h.thaw.2⟩
def hidOf (C : Cfg) (x k : Nat) : Prop := C.Sh (.cell ⟨x, k, none⟩) ∨ C.Gr (.cell ⟨x, k, none⟩) ∨ ∃ g, C.Pv g (.cell ⟨x, k, none⟩)
def frzOf (C : Cfg) (x k : Nat) : Prop := ∃ g, C.St g (.cell ⟨x, k, none⟩)
def cnt (ρ : Nat → Role) (n : Nat) : Nat := sumTo n fun i => (ρ i).count
def WgOk (b o : Nat) (ρ : Nat → Role) (n : Nat) (w : World) : Prop :=
  match ρ 0 with
  | .wait .w3 => ((∀ j, (ρ j).isLast = false) ∧ (0 < cnt ρ n ∧ WgIs b o w (cnt ρ n * KK + 1) 0 ∨ cnt ρ n = 0 ∧ WgIs b o w 0 1)) ∨
      (cnt ρ n = 0 ∧ ∃ i, (∀ j, (ρ j).isLast = true → j = i) ∧ ((ρ i = .last2 ∨ ρ i = .last3) ∧ WgIs b o w 1 0 ∨ ρ i = .last4 ∧ WgIs b o w 0 0))
  | .wait .w4 | .wait .w5 | .wait .w6 => (∀ j, (ρ j).isLast = false) ∧ cnt ρ n = 0 ∧ WgIs b o w 0 0
  | _ => (∀ j, (ρ j).isLast = false) ∧ WgIs b o w (cnt ρ n * KK) 0
def Role.isOff : Role → Prop
  | .quit _ | .none => True
  | .self k _ => k = 0
  | _ => False
def Role.isW3 : Role → Bool
  | .wait .w3 => true
  | _ => false
def Acc (who : Option Nat) (rel : Nat → Prop) (t : Trace) (i : Nat) : Prop :=
  match who with
  | some h => Knows t h i
  | none => ∃ p, rel p ∧ Before t i p
structure Town (P : Program) (C : Cfg) (b o : Nat) (Anch Fin : Goroutine → World → Prop) (who : Option Nat) (rel : Nat → Prop) (ρ : Nat → Role) (q : Nat → Nat) (gs : Array Goroutine) (w : World) (t : Trace) : Prop where
  ok : C.Ok
  ad : C.ad = ⟨b, o, none⟩
  shs : ∀ l, C.Sh l ↔ C.on ∧ (l = .cell ⟨b, o, none⟩ ∨ l = .cell ⟨b, o + 1, none⟩)
  grs : ∀ l, C.Gr l → ∃ x k, l = .cell ⟨x, k, none⟩ ∧ x < w.heap.size
  dds : ∀ g, C.Dd g → ∃ d, ρ g = .quit d
  old : ∀ g l, C.St g l ∨ C.Pv g l → g < gs.size
  plain : ∀ g l, C.St g l ∨ C.Pv g l → (∃ x k, l = .cell ⟨x, k, none⟩) ∨ ∃ r, l = .obj r
  inb : ∀ g x k, C.Pv g (.cell ⟨x, k, none⟩) ∨ C.St g (.cell ⟨x, k, none⟩) → x < w.heap.size
  inbo : ∀ g r, C.Pv g (.obj r) ∨ C.St g (.obj r) → ∃ ob, w.heap[r]? = some ob ∧ isCells ob = false
  tr : Tr C (fun i => (ρ i).loose = true) rel gs.size (fun i => (ρ i).dd) (Acc who rel t) t
  roles : ∀ i g, gs[i]? = some g → InRole P C b o Anch Fin i (ρ i) (q i) g w
  above : ∀ i, gs.size ≤ i → ρ i = .none
  chans : ∀ i p home, ρ i = .seat p home → ∃ k, w.heap[p.chan]? = some (.chan 0 #[] false k k false)
  apart : ∀ i j p p' h h', ρ i = .seat p h → ρ j = .seat p' h' → p.chan = p'.chan → p.out = p'.out
  shuts : ∀ i p home, ρ i = .shut p home → ∃ k, w.heap[p.chan]? = some (.chan 0 #[] true k k false)
  one : ∀ i k d, ρ i = .self k d → who = some i
  holder : ∀ x, who = some x → x = 0 ∨ (ρ x).isSelf = true ∨ ρ x = .done
  few : cnt ρ gs.size < 2147483647
  wg : C.on → WgOk b o ρ gs.size w
  off : ¬ C.on → ∀ j, (ρ j).isOff
  some1 : 0 < gs.size
  awake : ρ 0 = .wait .w3 → WgIs b o w 0 1 → 0 < q 0
section
variable {P : Program} {C : Cfg} {b o : Nat} {Anch Fin : Goroutine → World → Prop} {who who' : Option Nat} {rel rel' : Nat → Prop} {ρ : Nat → Role} {q : Nat → Nat} {gs : Array Goroutine} {w w' : World} {t u : Trace}
theorem Acc.app (h : ∀ p, rel p → rel' p) {i : Nat} (ha : Acc who rel t i) : Acc who rel' (t ++ u) i := by
  cases who with
  | some g => exact Knows.app u ha
  | none => exact ha.imp fun p hp => ⟨h p hp.1, hp.2.app u⟩
theorem WgOk.live {n : Nat} (h : WgOk b o ρ n w) : Live b o w := by
  unfold WgOk at h
  split at h
  · rcases h with ⟨_, ⟨_, h⟩ | ⟨_, h⟩⟩ | ⟨_, i, _, ⟨_, h⟩ | ⟨_, h⟩⟩ <;> exact ⟨_, _, h⟩
  · exact ⟨_, _, h.2.2⟩
  · exact ⟨_, _, h.2.2⟩
  · exact ⟨_, _, h.2.2⟩
  · exact ⟨_, _, h.2⟩
theorem WgOk.keep {n : Nat} (h : WgOk b o ρ n w) (hk : ∀ s m, WgIs b o w s m → WgIs b o w' s m) : WgOk b o ρ n w' := by
  unfold WgOk at h ⊢
  split <;> rename_i e <;> simp only [e] at h
  · rcases h with ⟨h0, ⟨h1, h⟩ | ⟨h1, h⟩⟩ | ⟨h0, i, h1, ⟨h2, h⟩ | ⟨h2, h⟩⟩
    · exact .inl ⟨h0, .inl ⟨h1, hk _ _ h⟩⟩
    · exact .inl ⟨h0, .inr ⟨h1, hk _ _ h⟩⟩
    · exact .inr ⟨h0, i, h1, .inl ⟨h2, hk _ _ h⟩⟩
    · exact .inr ⟨h0, i, h1, .inr ⟨h2, hk _ _ h⟩⟩
  · exact ⟨h.1, h.2.1, hk _ _ h.2.2⟩
  · exact ⟨h.1, h.2.1, hk _ _ h.2.2⟩
  · exact ⟨h.1, h.2.1, hk _ _ h.2.2⟩
  · exact ⟨h.1, hk _ _ h.2⟩
theorem Town.isOn (T : Town P C b o Anch Fin who rel ρ q gs w t) {i : Nat} (h : ¬ (ρ i).isOff) : C.on := by
  by_cases hc : C.on
  · exact hc
  · exact absurd (T.off hc i) h
theorem Town.notDd (T : Town P C b o Anch Fin who rel ρ q gs w t) {i : Nat} (h : ∀ d, ρ i ≠ .quit d) : ¬ C.Dd i := fun hd => by
  obtain ⟨d, e⟩ := T.dds i hd
  exact h d e
theorem Town.at (T : Town P C b o Anch Fin who rel ρ q gs w t) (d : Nat) : Town P C b o Anch Fin who rel ρ q gs (w.at d) t :=
  ⟨T.ok, T.ad, T.shs, T.grs, T.dds, T.old, T.plain, T.inb, T.inbo, T.tr, fun i g hg => (T.roles i g hg).rely (RB.at i w d), T.above, T.chans, T.apart, T.shuts, T.one, T.holder, T.few, fun c => (T.wg c).keep fun _ _ h => ⟨h.st, h.sm, h.thaw⟩, T.off, T.some1, fun h1 h2 => T.awake h1 ⟨h2.st, h2.sm, h2.thaw⟩⟩
theorem Town.rb_out (T : Town P C b o Anch Fin who rel ρ q gs w t) {i : Nat} (h : Out (fun x k => C.Pv i (.cell ⟨x, k, none⟩)) w w') :
    (∀ j, j ≠ i → RB C b o j w w') ∧ (C.on → ∀ s m, WgIs b o w s m → WgIs b o w' s m) := by
  have hwg : C.on → ∀ s m, WgIs b o w s m → WgIs b o w' s m := fun c s m hs =>
    hs.keep (h.cell (fun q => (T.ok.off i _ ((T.shs _).2 ⟨c, .inl rfl⟩)).1 q) (block_lt hs.st)) (h.cell (fun q => (T.ok.off i _ ((T.shs _).2 ⟨c, .inr rfl⟩)).1 q) (block_lt hs.sm))
  refine ⟨fun j hj => ⟨fun c ⟨s, m, hs⟩ => ⟨s, m, hwg c s m hs⟩, fun x k hx => h.cell (fun q => ?_) (T.inb j x k hx), fun r hr => ?_⟩, hwg⟩
  · have := T.ok.apart i j _ q (Ne.symm hj)
    exact hx.elim this.1 this.2
  · obtain ⟨ob, h1, h2⟩ := T.inbo j r hr
    rw [h1, h.objs r ob h1 h2]
theorem Town.rb_set (T : Town P C b o Anch Fin who rel ρ q gs w t) (hon : C.on) {k : Nat} {v : Value} (hk : k = o ∨ k = o + 1) (hl : Live b o (w.setCell ⟨b, k, none⟩ v)) (j : Nat) : RB C b o j w (w.setCell ⟨b, k, none⟩ v) := by
  have h := out_setCell w b k v
  refine ⟨fun _ _ => hl, fun x k' hx => h.cell (fun ⟨h1, h2⟩ => ?_) (T.inb j x k' hx), fun r hr => ?_⟩
  · subst h1 h2
    have := T.ok.off j _ ((T.shs (.cell ⟨x, k', none⟩)).2 ⟨hon, hk.imp (fun e => by rw [e]) (fun e => by rw [e])⟩)
    exact hx.elim this.1 this.2
  · obtain ⟨ob, h1, h2⟩ := T.inbo j r hr
    rw [h1, h.objs r ob h1 h2]
theorem Town.wokenOf (T : Town P C b o Anch Fin who rel ρ q gs w t) (hA : ∀ g w, Anch g w → g.status = .running) (hch : ∀ i p home, ρ i = .seat p home → ∃ k, w'.heap[p.chan]? = some (.chan 0 #[] false k k false)) {j : Nat} {y a a' : Goroutine} (hy : gs[j]? = some y) (hs : (ρ j).isSelf = false) :
    woken P a a' w' y = y ∨ (ρ j = .wait .w3 ∧ woken P a a' w' y = { y with status := .running } ∧ y.status = .blocked) := by
  have key : y.again w' = y ∨ (ρ j = .wait .w3 ∧ y.again w' = { y with status := .running } ∧ y.status = .blocked) := by
    have hr := T.roles j y hy
    rcases hr.status hA hs with h | h | ⟨h, hq, ⟨p, home, e⟩ | e⟩
    · exact .inl (again_running _ (.inl h))
    · exact .inl (again_running _ (.inr h))
    · left
      rw [e] at hr
      rcases hr.2 with ⟨k, hk, _⟩ | ⟨_, g₀, g₂, rfl, _⟩
      · omega
      · obtain ⟨k, hc⟩ := hch j p home e
        cases p with
        | recv c z ok => exact again_recv_open hc
        | send c v z => exact again_send_open hc
    · refine .inr ⟨e, ?_, h⟩
      rw [e] at hr
      rcases hr.2 with ⟨k, hk, _⟩ | ⟨_, g₀, h1, rfl, _⟩
      · omega
      · have := h1.2.1
        simp only [Goroutine.again, this]
  unfold woken
  split
  · exact key
  · exact .inl rfl
theorem Town.step (T : Town P C b o Anch Fin who rel ρ q gs w t) (hA : ∀ g w, Anch g w → g.status = .running) {i : Nat} {g g' a a' : Goroutine} {r' : Role} {n' : Nat} (hi : gs[i]? = some g)
    (hrb : ∀ j, j ≠ i → RB C b o j w w') (hsz : w.heap.size ≤ w'.heap.size) (hobj : ∀ (r : Nat) (ob : Obj), w.heap[r]? = some ob → isCells ob = false → ob.isChan = true → w'.heap[r]? = some ob) (hio : ∀ r, C.Pv i (.obj r) ∨ C.St i (.obj r) → ∃ ob, w'.heap[r]? = some ob ∧ isCells ob = false)
    (hseat : ∀ p h, r' = .seat p h → ∃ h₀, ρ i = .seat p h₀) (hshut : ∀ p h, r' = .shut p h → ∃ h₀, ρ i = .shut p h₀) (hone : ∀ j k d, upd ρ i r' j = .self k d → who' = some j) (hhold : ∀ x, who' = some x → x = 0 ∨ (upd ρ i r' x).isSelf = true ∨ upd ρ i r' x = .done) (hrole : InRole P C b o Anch Fin i r' n' g' w')
    (htr : Tr C (fun j => (upd ρ i r' j).loose = true) rel' gs.size (fun j => (upd ρ i r' j).dd) (Acc who' rel' (t ++ u)) (t ++ u)) (hwg : C.on → WgOk b o (upd ρ i r') gs.size w') (hon : ¬ C.on → r'.isOff) (hdq : C.Dd i → ∃ d, r' = .quit d) (hfew : cnt (upd ρ i r') gs.size < 2147483647)
    (hawk : i ≠ 0 → ρ 0 = .wait .w3 → WgIs b o w' 0 1 → WgIs b o w 0 1 ∨ (mayWake P a = true ∧ a'.status = .running)) (hawk0 : i = 0 → r' = .wait .w3 → WgIs b o w' 0 1 → 0 < n') :
    ∃ q', Town P C b o Anch Fin who' rel' (upd ρ i r') q' ((gs.map (woken P a a' w')).setIfInBounds i g') w' (t ++ u) ∧ q' i = n' ∧ ∀ j, j ≠ i → ρ j ≠ .wait .w3 → q' j = q j := by
  have hlt : i < gs.size := (Array.getElem?_eq_some_iff.1 hi).1
  have hch : ∀ j p home, ρ j = .seat p home → ∃ k, w'.heap[p.chan]? = some (.chan 0 #[] false k k false) := fun j p home e => by
    obtain ⟨k, hk⟩ := T.chans j p home e
    exact ⟨k, hobj _ _ hk rfl rfl⟩
  refine ⟨fun j => if j = i then n' else if (ρ j).isW3 && ((gs[j]?).any fun y => (woken P a a' w' y).status == .running && y.status == .blocked) then 1 else q j, ?_, by simp, ?_⟩
  · refine ⟨T.ok, T.ad, T.shs, fun l hl => (T.grs l hl).imp fun x h => h.imp fun k h => ⟨h.1, Nat.lt_of_lt_of_le h.2 hsz⟩, fun j hj => ?_, by simpa using T.old, T.plain, fun g x k h => Nat.lt_of_lt_of_le (T.inb g x k h) hsz, fun gg r hr => ?_, by simpa using htr, fun j y hy => ?_, fun j hj => ?_, fun j p home e => ?_, fun j l p p' h h' e e' => ?_, fun j p home e => ?_, hone, hhold, by simpa using hfew, by simpa using hwg, fun c j => ?_, by simpa using T.some1, fun h1 h2 => ?_⟩
    · by_cases e : j = i
      · subst e; rw [upd_same]; exact hdq hj
      · rw [upd_ne _ _ e]; exact T.dds j hj
    · by_cases e : gg = i
      · subst e; exact hio r hr
      · obtain ⟨ob, h1, h2⟩ := T.inbo gg r hr
        exact ⟨ob, ((hrb gg e).objs r hr).trans h1, h2⟩
    · by_cases e : j = i
      · subst e
        rw [Array.getElem?_setIfInBounds_self_of_lt (by simpa using hlt)] at hy
        obtain rfl := some_inj hy
        simp only [upd_same, if_true]
        exact hrole
      · rw [Array.getElem?_setIfInBounds_ne (Ne.symm e), Array.getElem?_map] at hy
        obtain ⟨y₀, hy₀, rfl⟩ := Option.map_eq_some_iff.1 hy
        rw [upd_ne _ _ e]
        simp only [e, if_false, hy₀, Option.any_some]
        cases hs : (ρ j).isSelf with
        | true => cases hr : ρ j <;> rw [hr] at hs <;> first | (cases hs; done) | trivial
        | false =>
          have hj := (T.roles j y₀ hy₀).rely (hrb j e)
          rcases T.wokenOf hA hch (a := a) (a' := a') hy₀ hs with hw | ⟨hw3, hw, hb⟩
          · rw [hw]
            have : (y₀.status == .running && y₀.status == .blocked) = false := by cases y₀.status <;> rfl
            simp only [this, Bool.and_false, Bool.false_eq_true, if_false]
            exact hj
          · rw [hw, hb]
            rw [hw3] at hj ⊢
            simp only [Role.isW3, beq_self_eq_true, Bool.and_self, if_true]
            obtain ⟨rfl, hj⟩ := hj
            refine ⟨rfl, .inl ⟨0, rfl, ?_⟩⟩
            rcases hj with ⟨k, _, hg⟩ | ⟨_, g₀, h1, rfl, h2⟩
            · have := hg.running (fun _ _ x => x.1) w' (RB.refl 0 w')
              rw [hb] at this; cases this
            · have e0 : ({ { g₀ with status := .blocked } with status := .running } : Goroutine) = g₀ := by
                have := h1.1
                cases g₀; simp_all
              rw [e0]
              exact Goes.stop fun w₁ h₁ => h2 w₁ h₁
    · have hj' : gs.size ≤ j := by simpa using hj
      have e : j ≠ i := by omega
      rw [upd_ne _ _ e]; exact T.above j hj'
    · by_cases ej : j = i
      · subst ej
        rw [upd_same] at e
        obtain ⟨h₀, e₀⟩ := hseat p home e
        exact hch j p h₀ e₀
      · rw [upd_ne _ _ ej] at e; exact hch j p home e
    · have old : ∀ j p h, upd ρ i r' j = .seat p h → ∃ h₀, ρ j = .seat p h₀ := by
        intro j p h e
        by_cases ej : j = i
        · subst ej; rw [upd_same] at e; exact hseat p h e
        · rw [upd_ne _ _ ej] at e; exact ⟨h, e⟩
      obtain ⟨h₁, e₁⟩ := old j p h e
      obtain ⟨h₂, e₂⟩ := old l p' h' e'
      exact T.apart j l p p' _ _ e₁ e₂
    · have old : ∃ h₀, ρ j = .shut p h₀ := by
        by_cases ej : j = i
        · subst ej; rw [upd_same] at e; exact hshut p home e
        · rw [upd_ne _ _ ej] at e; exact ⟨home, e⟩
      obtain ⟨h₀, e₀⟩ := old
      obtain ⟨k, hk⟩ := T.shuts j p h₀ e₀
      exact ⟨k, hobj _ _ hk rfl rfl⟩
    · by_cases e : j = i
      · subst e; rw [upd_same]; exact hon c
      · rw [upd_ne _ _ e]; exact T.off c j
    · by_cases e : (0 : Nat) = i
      · simp only [e, if_true]
        subst e
        rw [upd_same] at h1
        exact hawk0 rfl h1 h2
      · rw [upd_ne _ _ e] at h1
        simp only [e, if_false, h1, Role.isW3, Bool.true_and]
        obtain ⟨y, hy⟩ : ∃ y, gs[0]? = some y := ⟨_, Array.getElem?_eq_getElem T.some1⟩
        simp only [hy, Option.any_some]
        have hr := T.roles 0 y hy
        rw [h1] at hr
        rcases hr.2 with ⟨k, hk, _⟩ | ⟨hk, g₀, h3, rfl, _⟩
        · split <;> omega
        · have hold : ¬ WgIs b o w 0 1 := fun h => by have := T.awake h1 h; omega
          rcases hawk (Ne.symm e) h1 h2 with h | ⟨h4, h5⟩
          · exact absurd h hold
          · have hoff := h3.2.1
            have : woken P a a' w' { g₀ with status := .blocked } = { { g₀ with status := .blocked } with status := .running } := by
              simp [woken, h4, h5, Goroutine.again, hoff]
            rw [this]; simp
  · intro j e hw3
    have : (ρ j).isW3 = false := by
      cases hr : ρ j with
      | wait t => cases t <;> first | rfl | exact absurd hr hw3
      | _ => rfl
    simp [e, this]
end
end Go.Town
namespace Go.Town
open Go Go.Conc
open Go.ConcN (sumTo upd sumTo_upd upd_ne upd_same sumTo_congr le_sumTo)
def rankA (ρ : Nat → Role) (n : Nat) : Nat := sumTo n fun i => (ρ i).rank
def rankB (ρ : Nat → Role) (q : Nat → Nat) (n : Nat) : Nat := sumTo n fun i => if (ρ i).rank = 0 then 0 else q i
def rankW (ρ : Nat → Role) (n : Nat) : Nat :=
  match ρ 0 with
  | .wait .w0 => 9
  | .wait (.w2 v) => if v = cnt ρ n then 5 else 8
  | .wait .w1a => 7
  | .wait .w1 => 6
  | .wait .w3 => 4
  | .wait .w4 => 3
  | .wait .w5 => 2
  | .wait .w6 => 1
  | _ => 0
def rankQ (ρ : Nat → Role) (q : Nat → Nat) : Nat :=
  match ρ 0 with
  | .wait _ => q 0
  | _ => 0
def meas (ρ : Nat → Role) (q : Nat → Nat) (n : Nat) : Nat × Nat × Nat × Nat := (rankA ρ n, rankB ρ q n, rankW ρ n, rankQ ρ q)
def Lex4 : Nat × Nat × Nat × Nat → Nat × Nat × Nat × Nat → Prop := Prod.Lex (· < ·) (Prod.Lex (· < ·) (Prod.Lex (· < ·) (· < ·)))
theorem lex4_wf : WellFounded Lex4 := (Prod.lex Nat.lt_wfRel (Prod.lex Nat.lt_wfRel (Prod.lex Nat.lt_wfRel Nat.lt_wfRel))).wf
theorem sumTo_upd' {α : Type} (f : Nat → α) (x : α) (φ : Nat → α → Nat) {i : Nat} : ∀ {j : Nat}, i < j → sumTo j (fun a => φ a (upd f i x a)) + φ i (f i) = sumTo j (fun a => φ a (f a)) + φ i x
  | j + 1, h => by
    rcases Nat.lt_or_ge i j with hlt | hge
    · have := sumTo_upd' f x φ hlt
      simp only [sumTo, upd_ne f x (show j ≠ i by omega)]
      omega
    · obtain rfl : i = j := by omega
      simp only [sumTo, upd_same]
      rw [sumTo_congr (g := fun a => φ a (f a)) (fun a ha => by rw [upd_ne f x (by omega)])]
      omega
theorem rankA_upd {ρ : Nat → Role} {i n : Nat} (r : Role) (h : i < n) : rankA (upd ρ i r) n + (ρ i).rank = rankA ρ n + r.rank := sumTo_upd' ρ r (fun _ x => x.rank) h
theorem cnt_upd {ρ : Nat → Role} {i n : Nat} (r : Role) (h : i < n) : cnt (upd ρ i r) n + (ρ i).count = cnt ρ n + r.count := sumTo_upd' ρ r (fun _ x => x.count) h
theorem cnt_pos {ρ : Nat → Role} {i n : Nat} (h : i < n) (hc : 0 < (ρ i).count) : 0 < cnt ρ n := Nat.lt_of_lt_of_le hc (le_sumTo (f := fun i => (ρ i).count) h)
theorem less_role {ρ : Nat → Role} {q q' : Nat → Nat} {i n : Nat} {r : Role} (h : i < n) (hr : r.rank < (ρ i).rank) : Lex4 (meas (upd ρ i r) q' n) (meas ρ q n) := by
  have := rankA_upd (ρ := ρ) r h
  exact .left _ _ (by omega)
theorem less_n {ρ : Nat → Role} {q q' : Nat → Nat} {i n : Nat} {r : Role} (h : i < n) (hr : r.rank = (ρ i).rank) (h0 : 0 < r.rank) (hq : q' i < q i) (ho : ∀ j, j ≠ i → ρ j ≠ .wait .w3 → q' j = q j) : Lex4 (meas (upd ρ i r) q' n) (meas ρ q n) := by
  have h1 := rankA_upd (ρ := ρ) r h
  have e1 : rankA (upd ρ i r) n = rankA ρ n := by omega
  have h2 : rankB (upd ρ i r) q' n < rankB ρ q n := by
    have key : rankB (upd ρ i r) q' n + (if (ρ i).rank = 0 then 0 else q i) = rankB ρ q n + (if r.rank = 0 then 0 else q' i) := by
      have := sumTo_upd' (fun j => (ρ j, q j)) (r, q' i) (fun _ x => if x.1.rank = 0 then 0 else x.2) h
      rw [show rankB (upd ρ i r) q' n = sumTo n fun a => if (upd (fun j => (ρ j, q j)) i (r, q' i) a).1.rank = 0 then 0 else (upd (fun j => (ρ j, q j)) i (r, q' i) a).2 from sumTo_congr fun a _ => by
        by_cases e : a = i
        · subst e; simp [upd_same]
        · rw [upd_ne _ _ e, upd_ne _ _ e]
          by_cases hw : ρ a = .wait .w3
          · simp [hw, Role.rank]
          · simp [ho a e hw]]
      exact this
    rw [if_neg (by omega), if_neg (by omega)] at key
    omega
  unfold meas
  rw [e1]
  exact .right _ (.left _ _ h2)
def Role.leaving : Role → Bool
  | .shut .. | .done | .rel | .deaf | .last2 | .last3 | .last4 | .quit _ => true
  | _ => false
def Adv (r r' : Role) : Prop := r' = r ∨ (r.leaving = true ∧ r'.leaving = true) ∨ ∃ s s', r = .wait s ∧ r' = .wait s'
theorem Adv.rfl' (r : Role) : Adv r r := .inl rfl
theorem Adv.trans {r r' r'' : Role} (h : Adv r r') (k : Adv r' r'') : Adv r r'' := by
  rcases h with rfl | ⟨h1, h2⟩ | ⟨s, s', rfl, rfl⟩
  · exact k
  · rcases k with rfl | ⟨_, k2⟩ | ⟨s, s', rfl, rfl⟩
    · exact .inr (.inl ⟨h1, h2⟩)
    · exact .inr (.inl ⟨h1, k2⟩)
    · cases h2
  · rcases k with rfl | ⟨k1, _⟩ | ⟨_, s'', _, rfl⟩
    · exact .inr (.inr ⟨_, _, rfl, rfl⟩)
    · cases k1
    · exact .inr (.inr ⟨_, _, rfl, rfl⟩)
theorem ev_of {g : Nat} {fn : FuncId} {pos : String} {es : Array Event} {op : MemOp} (h : op ∈ MemOp.ofEvents g fn pos es) : ∃ e ∈ es, op = { g, fn, pos, act := .ofEvent e } := by
  rw [ofEvents_eq] at h
  obtain ⟨e, he, rfl⟩ := Array.mem_map.1 h
  exact ⟨e, he, rfl⟩
section
variable {C : Cfg}
theorem ofEvent_release {e : Event} (h : ∀ a, e.loc ≠ .mark (.release a)) : ∀ a, MemAct.ofEvent e ≠ .mark (.release a) := by
  intro a; replace h := h a
  obtain ⟨loc, wr, sy⟩ := e
  cases loc with
  | mark m => intro hh; apply h; cases wr <;> cases sy <;> (injection hh with h1; subst h1; rfl)
  | _ => cases wr <;> cases sy <;> simp [MemAct.ofEvent]
end
section
variable {P : Program} {C : Cfg} {b o : Nat} {Anch Fin : Goroutine → World → Prop} {who who' : Option Nat} {rel rel' : Nat → Prop} {ρ : Nat → Role} {q : Nat → Nat} {gs : Array Goroutine} {w w' : World} {t u : Trace} {sl : Option (Nat × Nat)}
theorem upd_loose {i : Nat} {r' : Role} (h : r'.loose = (ρ i).loose) : (fun j => (upd ρ i r' j).loose = true) = fun j => (ρ j).loose = true := by
  funext j
  by_cases e : j = i
  · subst e; rw [upd_same, h]
  · rw [upd_ne _ _ e]
theorem deaf_upd (T : Town P C b o Anch Fin who rel ρ q gs w t) {i : Nat} {r' : Role} {es : Array Event} (fn : FuncId) (pos : String) (h : deafBehind (ρ i).dd es = r'.dd) : ∀ j, Deaf (t ++ MemOp.ofEvents i fn pos es) j = (upd ρ i r' j).dd := by
  intro j
  by_cases e : j = i
  · subst e; rw [Deaf_own, T.tr.deaf, upd_same]; exact h
  · rw [upd_ne _ _ e, Deaf_other t (Ne.symm e) _ (fun op hop => by obtain ⟨e, _, rfl⟩ := ev_of hop; rfl)]
    exact T.tr.deaf j
theorem Town.trOne (T : Town P C b o Anch Fin who rel ρ q gs w t) {i : Nat} {r' : Role} {es : Array Event} {H : Prop} (fn : FuncId) (pos : String) (hl : r'.loose = (ρ i).loose) (hd : deafBehind (ρ i).dd es = r'.dd)
    (hm : ∀ (k : Nat) e, es[k]? = some e → MayOp C (fun j => (ρ j).loose = true) gs.size i H ((t ++ MemOp.ofEvents i fn pos es).heard (t.size + k)) { g := i, fn, pos, act := .ofEvent e } ∧ ∀ x, e.loc ≠ .mark (.release x))
    (hH : H → who = some i) : Tr C (fun j => (upd ρ i r' j).loose = true) rel gs.size (fun j => (upd ρ i r' j).dd) (Acc who rel (t ++ MemOp.ofEvents i fn pos es)) (t ++ MemOp.ofEvents i fn pos es) := by
  rw [upd_loose hl]
  refine T.tr.one T.ok (H := H) (fun op hop => by obtain ⟨e, _, rfl⟩ := ev_of hop; rfl) (fun k op hk => ?_) (fun i hi => Acc.app (fun _ h => h) hi) (fun h => ?_) (deaf_upd T fn pos hd) (fun op hop => ?_)
  · rw [ofEvents_eq, Array.getElem?_map] at hk
    obtain ⟨e, he, rfl⟩ := Option.map_eq_some_iff.1 hk
    exact (hm k e he).1
  · have hw := hH h
    subst hw
    refine ⟨fun j hj => hj, fun k hk => ?_⟩
    refine knows_of_g ?_
    rw [ofEvents_eq] at hk ⊢
    have : k < es.size := by simpa using hk
    rw [g?_of (op := { g := i, fn, pos, act := .ofEvent es[k] }) (by rw [at_new]; simp [this])]
  · obtain ⟨e, he, rfl⟩ := ev_of hop
    obtain ⟨k, hk⟩ := Array.mem_iff_getElem?.1 he
    exact ofEvent_release (hm k e hk).2
theorem notHeard (T : Town P C b o Anch Fin who rel ρ q gs w t) {i k : Nat} {fn : FuncId} {pos : String} {es : Array Event} (hk : k < es.size) (hd : 0 < deafBehind (ρ i).dd (es.extract 0 k)) : ¬ (t ++ MemOp.ofEvents i fn pos es).heard (t.size + k) := by
  rintro ⟨g, hg, h0⟩
  have : (t ++ MemOp.ofEvents i fn pos es).g? (t.size + k) = some i := by
    rw [ofEvents_eq]
    rw [g?_of (op := { g := i, fn, pos, act := .ofEvent es[k] }) (by rw [at_new]; simp [hk])]
  rw [this] at hg
  obtain rfl := some_inj hg
  rw [deaf_inside _ _ _ _ _ _ (Nat.le_of_lt hk), T.tr.deaf] at h0
  omega
def Hush (ρ : Nat → Role) : Prop := ∀ j, ρ j = .none ∨ (∃ d, ρ j = .quit d) ∨ (ρ j).isSelf = true
theorem mayR (T : Town P C b o Anch Fin who rel ρ q gs w t) {i : Nat} {g : Goroutine} (hi : gs[i]? = some g) (hl : (ρ i).loose = true) {e : Event} (h : EvR C i e) (H heard : Prop) (fn : FuncId) (pos : String) : MayOp C (fun j => (ρ j).loose = true) gs.size i H heard { g := i, fn, pos, act := .ofEvent e } := by
  rcases h.1 with h | ⟨x, h1, h2, h3⟩
  · exact .mute h
  · exact .own h1 hl (Array.getElem?_eq_some_iff.1 hi).1 h2 h3
theorem mayBook (T : Town P C b o Anch Fin who rel ρ q gs w t) (hon : C.on) {i : Nat} (hnd : ¬ C.Dd i) {g : Goroutine} (hi : gs[i]? = some g) {k : Nat} (hk : k = o ∨ k = o + 1) (wr : Bool) {heard : Prop} (hh : i = 0 ∨ ¬ heard) (H : Prop) (fn : FuncId) (pos : String) :
    MayOp C (fun j => (ρ j).loose = true) gs.size i H heard { g := i, fn, pos, act := .ofEvent ⟨.cell ⟨b, k, none⟩, wr, true⟩ } :=
  .book (b := ⟨.cell ⟨b, k, none⟩, wr, .atomic⟩) (by cases wr <;> rfl) (Array.getElem?_eq_some_iff.1 hi).1 hnd ((T.shs _).2 ⟨hon, hk.imp (fun e => by rw [e]) (fun e => by rw [e])⟩) (.inl ⟨rfl, hh⟩)
variable (P C b o Anch Fin) in
def Moves (who : Option Nat) (rel : Nat → Prop) (ρ : Nat → Role) (q : Nat → Nat) (gs : Array Goroutine) (w : World) (sl : Option (Nat × Nat)) (t : Trace) (i : Nat) : Prop :=
  ∃ gs' w' ops ρ' q' who' rel', runT P (crowd gs w sl) i = (.next (crowd gs' w' sl), ops) ∧ gs'.size = gs.size ∧ Town P C b o Anch Fin who' rel' ρ' q' gs' w' (t ++ ops) ∧ Lex4 (meas ρ' q' gs.size) (meas ρ q gs.size) ∧ Out (hidOf C) w w' ∧
    (∀ j, Adv (ρ j) (ρ' j)) ∧ ((∃ x, (ρ x).isSelf = true) → who' = who) ∧ (∀ x, (ρ x).isSelf = true → gs'[x]? = gs[x]?) ∧ (∀ j, j ≠ i → ρ j ≠ .wait .w3 → q' j = q j) ∧
    (0 < q' i ∨ ∀ p home, ρ i = .seat p home → ∃ g g₂, gs[i]? = some g ∧ AtPort P (i == 0) p g g₂) ∧ (Hush ρ → rel' = rel ∧ Hush ρ')
def StillSelf (ρ : Nat → Role) (gs : Array Goroutine) (w : World) : Prop :=
  ∀ x y, (ρ x).isSelf = true → gs[x]? = some y → ∀ w' : World, (∀ (r : Nat) (ob : Obj), w.heap[r]? = some ob → ob.isChan = true → w'.heap[r]? = some ob) → y.again w' = y
theorem adv_upd {i : Nat} {r' : Role} (h : Adv (ρ i) r') : ∀ j, Adv (ρ j) (upd ρ i r' j) := fun j => by
  by_cases e : j = i
  · subst e; rw [upd_same]; exact h
  · rw [upd_ne _ _ e]; exact .inl rfl
theorem Town.moves (T : Town P C b o Anch Fin who rel ρ q gs w t) (hA : ∀ g w, Anch g w → g.status = .running) (hS : StillSelf ρ gs w) {i : Nat} {g g' : Goroutine} {es : Array Event} {r' : Role} {n' : Nat} (hi : gs[i]? = some g) (hns : (ρ i).isSelf = false)
    (hstep : stepG P (i == 0) g w = .go g' w' es) (hout : Out (hidOf C) w w') (hrb : ∀ j, j ≠ i → RB C b o j w w') (hseat : ∀ p h, r' = .seat p h → ∃ h₀, ρ i = .seat p h₀) (hshut : ∀ p h, r' = .shut p h → ∃ h₀, ρ i = .shut p h₀) (hself : r'.isSelf = false) (hwho : who' = who ∨ (who' = none ∧ who = some i)) (hdn : ρ i = .done → r' = .done ∨ who' = none ∨ who ≠ some i)
    (hrole : InRole P C b o Anch Fin i r' n' g' w')
    (htr : Tr C (fun j => (upd ρ i r' j).loose = true) rel' gs.size (fun j => (upd ρ i r' j).dd) (Acc who' rel' (t ++ MemOp.ofEvents i g.frame.fn g.frame.place es)) (t ++ MemOp.ofEvents i g.frame.fn g.frame.place es))
    (hqq : ((∃ d, ρ i = .quit d) ∧ (∃ d, r' = .quit d) ∧ rel' = rel) ∨ (C.on ∧ ∀ d, ρ i ≠ .quit d)) (hwg : C.on → WgOk b o (upd ρ i r') gs.size w') (hcnt : r'.count ≤ (ρ i).count) (hqn : 0 < n' ∨ ∀ p home, ρ i ≠ .seat p home) (hadv : Adv (ρ i) r') (hawk : i ≠ 0 → ρ 0 = .wait .w3 → WgIs b o w' 0 1 → WgIs b o w 0 1 ∨ (mayWake P g = true ∧ g'.status = .running)) (hawk0 : i = 0 → r' = .wait .w3 → WgIs b o w' 0 1 → 0 < n')
    (hless : ∀ q' : Nat → Nat, q' i = n' → (∀ j, j ≠ i → ρ j ≠ .wait .w3 → q' j = q j) → Lex4 (meas (upd ρ i r') q' gs.size) (meas ρ q gs.size)) : Moves P C b o Anch Fin who rel ρ q gs w sl t i := by
  have hlt : i < gs.size := (Array.getElem?_eq_some_iff.1 hi).1
  have hsame : ∀ x, (ρ x).isSelf = true → who' = who := fun x hx => by
    rcases hwho with h | ⟨_, h⟩
    · exact h
    · cases hr : ρ x <;> rw [hr] at hx <;> try (cases hx; done)
      have := T.one x _ _ hr
      rw [h] at this
      obtain rfl := some_inj this
      rw [hr] at hns; cases hns
  obtain ⟨q', T', h1, h2⟩ := T.step hA (a := g) (a' := g') hi hrb (by rw [hout.size]; exact Nat.le_refl _) (fun r ob hr hc _ => hout.objs r ob hr hc) (fun r hr => by
      obtain ⟨ob, k1, k2⟩ := T.inbo i r hr
      exact ⟨ob, hout.objs r ob k1 k2, k2⟩) hseat hshut (fun j k d hj => by
      by_cases e : j = i
      · subst e; rw [upd_same] at hj; rw [hj] at hself; cases hself
      · rw [upd_ne _ _ e] at hj
        rw [hsame j (by rw [hj]; rfl)]
        exact T.one j k d hj) (fun x hx => by
      rcases hwho with h | ⟨h, _⟩
      · rw [h] at hx
        by_cases e : x = i
        · subst e
          rcases T.holder x hx with h1 | h1 | h1
          · exact .inl h1
          · rw [hns] at h1; cases h1
          · rcases hdn h1 with h2 | h2 | h2
            · rw [upd_same]; exact .inr (.inr h2)
            · rw [h, hx] at h2; cases h2
            · exact absurd hx h2
        · rw [upd_ne _ _ e]; exact T.holder x hx
      · rw [h] at hx; cases hx) hrole htr hwg (fun c => by
      rcases hqq with ⟨_, ⟨d, e⟩, _⟩ | ⟨h, _⟩
      · rw [e]; trivial
      · exact absurd h c) (fun hd => by
      rcases hqq with ⟨_, h, _⟩ | ⟨_, h⟩
      · exact h
      · exact absurd hd (T.notDd h)) (by
      have := cnt_upd (ρ := ρ) r' hlt
      have hf := T.few
      omega) hawk hawk0
  refine ⟨_, w', _, upd ρ i r', q', who', rel', runT_crowd_go (sl := sl) hi hstep, by simp, T', hless q' h1 h2, hout, adv_upd hadv, fun ⟨x, hx⟩ => hsame x hx, fun x hx => ?_, h2, by rw [h1]; exact hqn.imp id fun h p home e => absurd e (h p home), fun hc => ?_⟩
  rotate_left
  · rcases hqq with ⟨_, ⟨d, e⟩, h⟩ | ⟨_, h⟩
    · refine ⟨h, fun j => ?_⟩
      by_cases ej : j = i
      · subst ej; rw [upd_same]; exact .inr (.inl ⟨d, e⟩)
      · rw [upd_ne _ _ ej]; exact hc j
    · rcases hc i with h1 | ⟨d, h1⟩ | h1
      · have := T.roles i g hi
        rw [h1] at this; exact this.elim
      · exact absurd h1 (h d)
      · rw [hns] at h1; cases h1
  have hxi : x ≠ i := fun e => by subst e; rw [hns] at hx; cases hx
  rw [Array.getElem?_setIfInBounds_ne (Ne.symm hxi), Array.getElem?_map]
  cases hy : gs[x]? with
  | none => rfl
  | some y =>
    have : y.again w' = y := hS x y hx hy w' fun r ob h1 h2 => hout.objs r ob h1 (by cases ob <;> first | (cases h2; done) | rfl)
    simp only [Option.map_some, woken, this, ite_self]
end
end Go.Town
