/-
  T6: the join; T7: the end; and the holder's words to the WaitGroup.
  T4: the holder closes a channel; T5: its words to the WaitGroup (deafness, the add, 'take it that I read').
-/
import Derived.Conc.Token
import Derived.Test.YtihmcigoofhpmaaZan
set_option linter.all false
namespace Go.Town
open Go Go.Conc
open Go.ConcN (sumTo upd sumTo_upd upd_ne upd_same sumTo_congr le_sumTo)
section
variable {P : Program} {C : Cfg} {b o : Nat} {Anch Fin : Goroutine → World → Prop} {who who' : Option Nat} {rel rel' : Nat → Prop} {ρ : Nat → Role} {q : Nat → Nat} {gs gs' : Array Goroutine} {w w' : World} {t t' u : Trace} {sl : Option (Nat × Nat)}
variable {Post : Value → World → Prop} {h k d : Nat} {a : Goroutine}
theorem not_counted {n : Nat} (hc : cnt ρ n = 0) {j : Nat} (hj : j < n) : (ρ j).count = 0 := by
  have := le_sumTo (f := fun i => (ρ i).count) hj
  unfold cnt at hc
  omega
theorem Town.acquired (T : Town P C b o Anch Fin who rel ρ q gs w t) (hA : ∀ g w, Anch g w → g.status = .running) (hns : ∀ x, (ρ x).isSelf = false) (hr : ρ 0 = .wait .w6) (hi : gs[0]? = some a) {a' : Goroutine} (hgo : stepG P true a w = .go a' w #[mkE (.acquire ⟨b, o, none⟩)]) :
    ∃ q', Town P C b o Anch Fin (some 0) (fun _ => False) (upd ρ 0 (.self 0 0)) q' ((gs.map (woken P a a' w)).setIfInBounds 0 a') w (t ++ MemOp.ofEvents 0 a.frame.fn a.frame.place #[mkE (.acquire ⟨b, o, none⟩)]) ∧ ∀ j, j ≠ 0 → q' j = q j := by
  have hlt := T.some1
  have hon : C.on := T.isOn (i := 0) (by rw [hr]; exact id)
  have hw := T.wg hon
  unfold WgOk at hw
  rw [hr] at hw
  obtain ⟨hl, hc, hw⟩ := hw
  have hcnt : cnt (upd ρ 0 (.self 0 0)) gs.size = cnt ρ gs.size := cnt_same hlt (by rw [hr]; rfl)
  have hnw : ∀ j, ρ j ≠ .wait .w3 := fun j e => by
    by_cases hj : j < gs.size
    · have hrole := T.roles j _ (Array.getElem?_eq_getElem hj)
      rw [e] at hrole
      obtain ⟨rfl, _⟩ := hrole
      rw [hr] at e; cases e
    · rw [T.above j (by omega)] at e; cases e
  obtain ⟨q', T', _, h2⟩ := T.step hA (a := a) (a' := a') (g' := a') (r' := .self 0 0) (n' := 0) (who' := some 0) (rel' := fun _ => False) (u := MemOp.ofEvents 0 a.frame.fn a.frame.place #[mkE (.acquire ⟨b, o, none⟩)]) hi (fun j _ => RB.refl j w) (Nat.le_refl _) (fun r ob h _ _ => h) (T.inbo 0) (fun p h' e => by cases e) (fun p h' e => by cases e)
    (fun j k' d' e => by
      by_cases e1 : j = 0
      · subst e1; rfl
      · rw [upd_ne _ _ e1] at e
        have := hns j
        rw [e] at this; cases this) (fun x hx => .inl (some_inj hx).symm) trivial
    (by
      have e1 : (fun j => (upd ρ 0 (.self 0 0) j).dd) = fun j => (ρ j).dd := by
        funext j
        by_cases e : j = 0
        · subst e; rw [upd_same, hr]; rfl
        · rw [upd_ne _ _ e]
      rw [upd_loose (by rw [hr]; rfl), e1]
      refine T.tr.acquire (fun i hi => ?_) (by rw [hr]; rfl) a.frame.fn a.frame.place (by rw [ofEvents_one, T.ad]; rfl)
      cases hwh : who with
      | none => rw [hwh] at hi; exact .inr hi
      | some x =>
        rw [hwh] at hi
        rcases T.holder x hwh with rfl | h1 | h1
        · exact .inl hi
        · rw [hns x] at h1; cases h1
        · by_cases hx : x < gs.size
          · have := not_counted hc hx
            rw [h1] at this; cases this
          · rw [T.above x (by omega)] at h1; cases h1)
    (by
      intro _
      unfold WgOk
      rw [upd_same]
      exact ⟨no_last hl rfl, by rw [hcnt, hc]; simpa using hw⟩) (fun _ => rfl) (fun hd => absurd hd (T.notDd (by rw [hr]; simp))) (by rw [hcnt]; exact T.few) (fun h => absurd rfl h) (fun _ e => by cases e)
  exact ⟨q', T', fun j hj => h2 j hj (hnw j)⟩
theorem join (hA : ∀ g w, Anch g w → g.status = .running) (hAW : ∀ g w, Anch g w → ∃ m, Goes P true (RB C b o 0) (DW b o) (AtW1 P C b o Anch Fin) m g w) (T : Town P C b o Anch Fin who rel ρ q gs w t) {s : Tag} (hr : ρ 0 = .wait s) (hl : ∀ j, j ≠ 0 → (ρ j).leaving = true ∨ ρ j = .none)
    (next : ∀ ρ' q' gs' a' w' sl' t', Town P C b o Anch Fin (some 0) (fun _ => False) ρ' q' gs' w' t' → ρ' 0 = .self 0 0 → gs'.size = gs.size → gs'[0]? = some a' → Fin a' w' → Out (hidOf C) w w' → (∀ j, j ≠ 0 → (∃ d, ρ' j = .quit d) ∨ ρ' j = .none) → Ends P Post (crowd gs' w' sl') t') : Ends P Post (crowd gs w sl) t := by
  generalize hμ : meas ρ q gs.size = μ
  induction lex4_wf.apply μ generalizing who rel ρ q gs w sl t s with
  | intro μ _ ihμ =>
    have hns : ∀ x, (ρ x).isSelf = false := fun x => by
      by_cases e : x = 0
      · subst e; rw [hr]; rfl
      · rcases hl x e with h | h
        · cases hx : ρ x <;> rw [hx] at h <;> first | rfl | (cases h; done)
        · rw [h]; rfl
    have haw := T.awakeAll hA (fun x y hx _ => by rw [hns x] at hx; cases hx)
    have hsome : ∃ (i : Nat) (g : Goroutine), gs[i]? = some g ∧ g.status = .running := by
      by_cases hq : ∃ j, j ≠ 0 ∧ (ρ j).leaving = true ∧ ∀ d, ρ j ≠ .quit d
      · obtain ⟨j, hj0, hj, hjq⟩ := hq
        have hjlt : j < gs.size := by
          rcases Nat.lt_or_ge j gs.size with h | h
          · exact h
          · rw [T.above j h] at hj; cases hj
        refine ⟨j, _, Array.getElem?_eq_getElem hjlt, ?_⟩
        have hrole := T.roles j _ (Array.getElem?_eq_getElem hjlt)
        cases hx : ρ j with
        | quit d => exact absurd hx (hjq d)
        | self k d => rw [hx] at hj; cases hj
        | seat p home => rw [hx] at hj; cases hj
        | wait s => rw [hx] at hj; cases hj
        | none => rw [hx] at hj; cases hj
        | shut p home => rw [hx] at hrole; exact hrole.2.2.2.running (fun _ _ x => x.choose_spec.1.1) w (RB.refl j w)
        | done => rw [hx] at hrole; exact hrole.2.running (fun _ _ x => x.1) w (RB.refl j w)
        | rel => rw [hx] at hrole; exact hrole.2.running (fun _ _ x => x.1) w (RB.refl j w)
        | deaf => rw [hx] at hrole; exact hrole.2.running (fun _ _ x => x.1) w (RB.refl j w)
        | last2 => rw [hx] at hrole; exact hrole.2.running (fun _ _ x => x.1) w (RB.refl j w)
        | last3 => rw [hx] at hrole; exact hrole.2.running (fun _ _ x => x.1) w (RB.refl j w)
        | last4 => rw [hx] at hrole; exact hrole.2.running (fun _ _ x => x.1) w (RB.refl j w)
      · have hq' : ∀ j, j ≠ 0 → (∃ d, ρ j = .quit d) ∨ ρ j = .none := fun j hj => by
          rcases hl j hj with h | h
          · left
            cases hx : ρ j with
            | quit d => exact ⟨d, rfl⟩
            | _ => exact absurd ⟨j, hj, h, fun d => by rw [hx]; simp⟩ hq
          · exact .inr h
        obtain ⟨y, hy⟩ : ∃ y, gs[0]? = some y := ⟨_, Array.getElem?_eq_getElem T.some1⟩
        refine ⟨0, y, hy, ?_⟩
        have hrole := T.roles 0 y hy
        rw [hr] at hrole
        rcases hrole.status hA rfl with h | h | ⟨_, h0, h⟩
        · exact h
        · exfalso
          cases s with
          | w3 =>
            rcases hrole.2 with ⟨k', _, hg⟩ | ⟨_, g₀, _, rfl, _⟩
            · have := hg.running (fun _ _ x => x.1) w (RB.refl 0 w); rw [h] at this; cases this
            · cases h
          | w1a => have := Goes.running hA w (RB.refl 0 w) hrole.2; rw [h] at this; cases this
          | w2 v => have := Goes.running (fun _ _ x => x.1) w (RB.refl 0 w) hrole.2.2; rw [h] at this; cases this
          | w0 => have := Goes.running (fun _ _ x => x.1) w (RB.refl 0 w) hrole.2; rw [h] at this; cases this
          | w1 => have := Goes.running (fun _ _ x => x.1) w (RB.refl 0 w) hrole.2; rw [h] at this; cases this
          | w4 => have := Goes.running (fun _ _ x => x.1) w (RB.refl 0 w) hrole.2; rw [h] at this; cases this
          | w5 => have := Goes.running (fun _ _ x => x.1) w (RB.refl 0 w) hrole.2; rw [h] at this; cases this
          | w6 => have := Goes.running (fun _ _ x => x.1) w (RB.refl 0 w) hrole.2; rw [h] at this; cases this
        · rcases h with ⟨p, home, h⟩ | h
          · cases h
          · injection h with h
            subst h
            have hcz : cnt ρ gs.size = 0 := by
              have : ∀ n, cnt ρ n = 0 := fun n => by
                induction n with
                | zero => rfl
                | succ n ih =>
                  show cnt ρ n + _ = 0
                  rw [ih]; show 0 + (ρ n).count = 0
                  by_cases e : n = 0
                  · subst e; rw [hr]; rfl
                  · rcases hq' n e with ⟨d, h⟩ | h <;> rw [h] <;> rfl
              exact this _
            have hw := T.wg (T.isOn (i := 0) (by rw [hr]; exact id))
            unfold WgOk at hw
            rw [hr] at hw
            rcases hw with ⟨_, ⟨h1, _⟩ | ⟨_, h1⟩⟩ | ⟨_, i, _, h1⟩
            · omega
            · have := T.awake hr h1; omega
            · have hil : (ρ i).isLast = true := by rcases h1 with ⟨h | h, _⟩ | ⟨h, _⟩ <;> rw [h] <;> rfl
              by_cases e : i = 0
              · subst e; rw [hr] at hil; cases hil
              · rcases hq' i e with ⟨d, h⟩ | h <;> rw [h] at hil <;> cases hil
    obtain ⟨i, g, dr, sl', hgi, hg, hst⟩ := crowd_pick (P := P) (w := w) (sl := sl) haw hsome
    have Td := T.at dr
    have hod : Out (hidOf C) w (w.at dr) := Out.at _ w dr
    rcases Td.byAny (sl := sl') hA hAW (fun x y hx _ => by rw [hns x] at hx; cases hx) hgi (hns i) hg (fun p home _ x y hx _ => by rw [hns x] at hx; cases hx) with hm | ⟨rfl, hw6, hat⟩
    · obtain ⟨gs', w', ops, ρ', q', who', rel', k1, k2, k3, k4, k5, k6, k7, k8, k9, k10, _⟩ := hm
      refine Ends.step (hst.trans k1) ?_
      obtain ⟨s', hr'⟩ : ∃ s', ρ' 0 = .wait s' := by
        rcases k6 0 with h | ⟨h, _⟩ | ⟨_, s', _, h⟩
        · exact ⟨s, h.trans hr⟩
        · rw [hr] at h; cases h
        · exact ⟨s', h⟩
      refine ihμ (meas ρ' q' gs'.size) (by rw [← hμ, k2]; exact k4) k3 hr' (fun j hj => ?_) (fun ρ₁ q₁ gs₁ a₁ w₁ sl₁ t₁ j1 j2 j3 j4 j5 j6 j7 => next ρ₁ q₁ gs₁ a₁ w₁ sl₁ t₁ j1 j2 (j3.trans k2) j4 j5 ((hod.trans k5).trans j6) j7) rfl
      rcases k6 j with h | ⟨_, h⟩ | ⟨s₁, s₂, h, _⟩
      · rw [h]; exact hl j hj
      · exact .inl h
      · rcases hl j hj with h' | h' <;> rw [h] at h' <;> cases h'
    · obtain ⟨_, a', hgo, hfin⟩ := hat
      obtain ⟨q', T', _⟩ := Td.acquired hA hns hw6 hgi hgo
      have hw := T.wg (T.isOn (i := 0) (by rw [hw6]; exact id))
      unfold WgOk at hw
      rw [hw6] at hw
      obtain ⟨hnl, hcz, _⟩ := hw
      refine Ends.step (hst.trans (runT_crowd_go (sl := sl') hgi hgo)) ?_
      refine next _ q' _ a' _ sl' _ T' (upd_same _ _ _) (by simp) (by simp [T.some1]) hfin hod (fun j hj => ?_)
      rw [upd_ne _ _ hj]
      rcases hl j hj with h | h
      · left
        have hjlt : j < gs.size := by
          rcases Nat.lt_or_ge j gs.size with h' | h'
          · exact h'
          · rw [T.above j h'] at h; cases h
        have hc0 := not_counted hcz hjlt
        have hl0 := hnl j
        cases hx : ρ j with
        | quit d => exact ⟨d, rfl⟩
        | _ => first | (rw [hx] at h; cases h; done) | (rw [hx] at hc0; cases hc0; done) | (rw [hx] at hl0; cases hl0; done)
      · exact .inr h
theorem Town.good (T : Town P C b o Anch Fin (some 0) (fun _ => False) ρ q gs w t) (hr : ρ 0 = .self k 0) (hq : ∀ j, j ≠ 0 → (∃ d, ρ j = .quit d) ∨ ρ j = .none) {v : Value} {es : Array Event} (fn : FuncId) (pos : String) (hes : ∀ e ∈ es, EvM (hidOf C) (frzOf C) w.heap.size e)
    (heo : ∀ e ∈ es, ∀ r, e.loc = .obj r → ∀ g, ¬ C.Pv g (.obj r) ∧ (C.St g (.obj r) → e.write = false)) (hpost : Post v w) (wm : World) (sm : Option (Nat × Nat)) : Good P Post (crowd gs wm sm) (.done v) w (t ++ MemOp.ofEvents 0 fn pos es) := by
  have hu := upd_id hr
  have htr := T.trOne (i := 0) (r' := .self k 0) (es := es) (H := True) fn pos (by rw [hr]) (by rw [hr]; exact deafBehind_still (fun e he => evM_deaf (hes e he)) _) (fun j e he => mayHold T (hes e (Array.mem_of_getElem? he)) (heo e (Array.mem_of_getElem? he)) _ _ _) (fun _ => rfl)
  rw [hu] at htr
  have hnl : ∀ g, ¬ (ρ g).loose = true := fun g hg => by
    by_cases e : g = 0
    · subst e; rw [hr] at hg; cases hg
    · rcases hq g e with ⟨d, h⟩ | h <;> rw [h] at hg <;> cases hg
  have hquit : ∀ i g, gs[i]? = some g → i ≠ 0 → ∃ n d, ρ i = .quit d ∧ QuitsD P n d g := fun i g hg hi => by
    have hrole := T.roles i g hg
    rcases hq i hi with ⟨d, h⟩ | h
    · rw [h] at hrole; exact ⟨_, d, h, hrole.2⟩
    · rw [h] at hrole; exact hrole.elim
  refine ⟨v, rfl, hpost, htr.clean, htr.handed T.some1 (T.notDd (by rw [hr]; simp)) hnl (fun _ h => h), ⟨fun g hg => ?_, rfl⟩, fun i g hg hi => ?_⟩
  · obtain ⟨j, hj⟩ := List.mem_iff_getElem?.1 hg
    rw [List.getElem?_drop] at hj
    obtain ⟨n, d, _, h⟩ := hquit (1 + j) g (by simpa [crowd] using hj) (by omega)
    exact ⟨n, h.leaves⟩
  · obtain ⟨n, d, h1, h⟩ := hquit i g hg hi
    refine ⟨n, ?_⟩
    have := htr.deaf i
    rw [h1] at this
    rw [show (t ++ MemOp.ofEvents 0 fn pos es).deaf i (t ++ MemOp.ofEvents 0 fn pos es).size = d from this]
    exact h.hears _
end
end Go.Town
namespace Go.Town
open Go Go.Conc
open Go.ConcN (sumTo upd sumTo_upd upd_ne upd_same sumTo_congr le_sumTo)
section
variable {P : Program} {C : Cfg} {b o : Nat} {Anch Fin : Goroutine → World → Prop} {who who' : Option Nat} {rel rel' : Nat → Prop} {ρ : Nat → Role} {q : Nat → Nat} {gs gs' : Array Goroutine} {w w' : World} {t t' u : Trace} {sl : Option (Nat × Nat)}
variable {Post : Value → World → Prop} {h k d : Nat} {a : Goroutine}
theorem Town.word (T : Town P C b o Anch Fin (some 0) rel ρ q gs w t) (hon : C.on) (hA : ∀ g w, Anch g w → g.status = .running) (hr : ρ 0 = .self k d) (hi : gs[0]? = some a) {a' : Goroutine} {es : Array Event} {d' : Nat} (hd : deafBehind d es = d')
    (hes : ∀ e ∈ es, e = mkE .disable ∨ e = mkE .enable ∨ e = mkE (.read ⟨b, o + 1, none⟩)) :
    ∃ q', Town P C b o Anch Fin (some 0) rel (upd ρ 0 (.self k d')) q' ((gs.map (woken P a a' w)).setIfInBounds 0 a') w (t ++ MemOp.ofEvents 0 a.frame.fn a.frame.place es) ∧ ∀ j, j ≠ 0 → ρ j ≠ .wait .w3 → q' j = q j := by
  have hlt := T.some1
  obtain ⟨q', T', _, h2⟩ := T.step hA (a := a) (a' := a') (g' := a') (r' := .self k d') (n' := 0) (who' := some 0) (rel' := rel) (u := MemOp.ofEvents 0 a.frame.fn a.frame.place es) hi (fun j _ => RB.refl j w) (Nat.le_refl _) (fun r ob h _ _ => h) (T.inbo 0) (fun p h' e => by cases e) (fun p h' e => by cases e)
    (fun j k' d'' e => by
      by_cases e1 : j = 0
      · subst e1; rfl
      · rw [upd_ne _ _ e1] at e; exact T.one j _ _ e) (fun x hx => .inl (some_inj hx).symm) trivial
    (by
      refine T.trOne (H := True) _ _ (by rw [hr]; rfl) (by rw [hr]; exact hd) (fun j e he => ?_) (fun _ => rfl)
      rcases hes e (Array.mem_of_getElem? he) with rfl | rfl | rfl
      · exact ⟨.mute rfl, by simp [mkE]⟩
      · exact ⟨.mute rfl, by simp [mkE]⟩
      · exact ⟨.book (b := ⟨.cell ⟨b, o + 1, none⟩, false, .said⟩) rfl hlt (T.notDd (by rw [hr]; simp)) ((T.shs _).2 ⟨hon, .inr rfl⟩) (.inr ⟨rfl, rfl⟩), by simp [mkE]⟩)
    (fun c => (T.wg c).upd_same_count hlt (.inr fun s => ⟨by rw [hr]; simp, by simp⟩) (by rw [hr]; rfl) (by rw [hr]; rfl) (.inr rfl)) (fun c => absurd hon c) (fun hd => absurd hd (T.notDd (by rw [hr]; simp))) (by rw [cnt_same hlt (by rw [hr]; rfl)]; exact T.few) (fun h => absurd rfl h) (fun _ e => by cases e)
  exact ⟨q', T', h2⟩
theorem Town.wgSelf (T : Town P C b o Anch Fin who rel ρ q gs w t) (hon : C.on) (hr : ρ 0 = .self k d) : (∀ j, (ρ j).isLast = false) ∧ WgIs b o w (cnt ρ gs.size * KK) 0 := by
  have := T.wg hon
  unfold WgOk at this
  rw [hr] at this
  exact this
theorem Town.added (T : Town P C b o Anch Fin (some 0) rel ρ q gs w t) (hon : C.on) (hA : ∀ g w, Anch g w → g.status = .running) (hr : ρ 0 = .self k d) (hi : gs[0]? = some a) (a' : Goroutine) (hf : cnt ρ gs.size + 1 < 2147483647) :
    ∃ q', Town P C b o Anch Fin (some 0) rel (upd ρ 0 (.self (k + 1) d)) q' ((gs.map (woken P a a' (w.setCell ⟨b, o, none⟩ (.int .u64 ((cnt ρ gs.size + 1 : Nat) * KK))))).setIfInBounds 0 a') (w.setCell ⟨b, o, none⟩ (.int .u64 ((cnt ρ gs.size + 1 : Nat) * KK))) (t ++ MemOp.ofEvents 0 a.frame.fn a.frame.place #[rdE ⟨b, o, none⟩, wrE ⟨b, o, none⟩]) ∧
      (∀ j, j ≠ 0 → ρ j ≠ .wait .w3 → q' j = q j) ∧ Out (hidOf C) w (w.setCell ⟨b, o, none⟩ (.int .u64 ((cnt ρ gs.size + 1 : Nat) * KK))) := by
  have hlt := T.some1
  obtain ⟨hl, hw⟩ := T.wgSelf hon hr
  have hw' := hw.setSt ((cnt ρ gs.size + 1 : Nat) * KK)
  have hcnt : cnt (upd ρ 0 (.self (k + 1) d)) gs.size = cnt ρ gs.size + 1 := by
    have := cnt_upd (ρ := ρ) (.self (k + 1) d) hlt
    rw [hr] at this
    simp only [Role.count] at this
    omega
  have hobj : ∀ r ob, w.heap[r]? = some ob → isCells ob = false → (w.setCell ⟨b, o, none⟩ (.int .u64 ((cnt ρ gs.size + 1 : Nat) * KK))).heap[r]? = some ob := fun r ob h1 h2 => heap_setCell_obj h1 h2
  obtain ⟨q', T', _, h2⟩ := T.step hA (a := a) (a' := a') (g' := a') (r' := .self (k + 1) d) (n' := 0) (who' := some 0) (rel' := rel) (u := MemOp.ofEvents 0 a.frame.fn a.frame.place #[rdE ⟨b, o, none⟩, wrE ⟨b, o, none⟩]) hi (fun j _ => T.rb_set hon (.inl rfl) ⟨_, _, hw'⟩ j) (by simp [World.setCell]) (fun r ob h1 h2 _ => hobj r ob h1 h2)
    (fun r hr => by obtain ⟨ob, h1, h2⟩ := T.inbo 0 r hr; exact ⟨ob, hobj r ob h1 h2, h2⟩) (fun p h' e => by cases e) (fun p h' e => by cases e)
    (fun j k' d'' e => by
      by_cases e1 : j = 0
      · subst e1; rfl
      · rw [upd_ne _ _ e1] at e; exact T.one j _ _ e) (fun x hx => .inl (some_inj hx).symm) trivial
    (by
      refine T.trOne (H := True) _ _ (by rw [hr]; rfl) (by rw [hr]; simp [deafBehind, Role.dd, rdE, wrE]) (fun j e he => ?_) (fun _ => rfl)
      match j, he with
      | 0, he =>
        obtain rfl : rdE ⟨b, o, none⟩ = e := by simpa using he
        exact ⟨mayBook T hon (T.notDd (by rw [hr]; simp)) hi (.inl rfl) false (.inl rfl) _ _ _, by simp [rdE]⟩
      | 1, he =>
        obtain rfl : wrE ⟨b, o, none⟩ = e := by simpa using he
        exact ⟨mayBook T hon (T.notDd (by rw [hr]; simp)) hi (.inl rfl) true (.inl rfl) _ _ _, by simp [wrE]⟩
      | j + 2, he => simp at he)
    (by
      intro _
      unfold WgOk
      rw [upd_same]
      exact ⟨no_last hl rfl, by rw [hcnt]; exact hw'⟩) (fun c => absurd hon c) (fun hd => absurd hd (T.notDd (by rw [hr]; simp))) (by rw [hcnt]; exact hf) (fun h => absurd rfl h) (fun _ e => by cases e)
  exact ⟨q', T', h2, (out_setCell w b o _).mono (sh_st T hon (.inl rfl))⟩
def closeRole (c : Nat) : Role → Role
  | .seat p home => if p.chan = c then .shut p home else .seat p home
  | r => r
theorem closeRole_other {c : Nat} {r : Role} (h : ∀ p home, r = .seat p home → p.chan ≠ c) : closeRole c r = r := by
  cases r with
  | seat p home => simp [closeRole, h p home rfl]
  | _ => rfl
theorem closeRole_seat (c : Nat) (p : Port) (home : Goroutine → World → Prop) : (closeRole c (.seat p home) = .shut p home ∧ p.chan = c) ∨ (closeRole c (.seat p home) = .seat p home ∧ p.chan ≠ c) := by
  by_cases h : p.chan = c
  · exact .inl ⟨by simp [closeRole, h], h⟩
  · exact .inr ⟨by simp [closeRole, h], h⟩
theorem closeRole_facts (c : Nat) (r : Role) : (closeRole c r).count = r.count ∧ (closeRole c r).dd = r.dd ∧ (closeRole c r).loose = r.loose ∧ (closeRole c r).isLast = r.isLast ∧ (closeRole c r).isSelf = r.isSelf := by
  cases r with
  | seat p home => rcases closeRole_seat c p home with ⟨h, _⟩ | ⟨h, _⟩ <;> rw [h] <;> exact ⟨rfl, rfl, rfl, rfl, rfl⟩
  | _ => exact ⟨rfl, rfl, rfl, rfl, rfl⟩
theorem Town.closed (T : Town P C b o Anch Fin (some h) rel ρ q gs w t) (hon : C.on) (hA : ∀ g w, Anch g w → g.status = .running) (hr : ρ h = .self k d) (hi : gs[h]? = some a) {a' : Goroutine} {c kk : Nat} (hck : w.heap[c]? = some (.chan 0 #[] false kk kk false)) (hno : ∀ g, ¬ C.St g (.obj c) ∧ ¬ C.Pv g (.obj c))
    (hmw : mayWake P a = true) (hrun' : a'.status = .running)
    (hcont : ∀ j p home, ρ j = .seat p home → p.chan = c → 0 < j ∧ ∃ z ok, p = .recv c z ok ∧ ∀ g₂ w, home g₂ w → ∃ m, Goes P false (RB C b o j) (DR C j) (AtR0 P C b o j) m (Go.Conc.served g₂ (recvd ok z false)) w) :
    ∃ q', Town P C b o Anch Fin (some h) rel (fun j => closeRole c (ρ j)) q' ((gs.map (woken P a a' (w.setChan c 0 #[] true kk kk false))).setIfInBounds h a') (w.setChan c 0 #[] true kk kk false) (t ++ MemOp.ofEvents h a.frame.fn a.frame.place (closeEvents c)) := by
  have hlt : h < gs.size := (Array.getElem?_eq_some_iff.1 hi).1
  generalize hw' : w.setChan c 0 #[] true kk kk false = w'
  have hat : w.at w.drawn = w := rfl
  have hRB : ∀ j, RB C b o j w w' := fun j => by have := (rb_chan (b := b) (o := o) hck rfl hno w.drawn 0 #[] true kk kk false j).1; rw [hat, hw'] at this; exact this
  have hWg : ∀ s m, WgIs b o w s m → WgIs b o w' s m := by have := (rb_chan (b := b) (o := o) hck rfl hno w.drawn 0 #[] true kk kk false 0).2; rw [hat, hw'] at this; exact this
  have hback : ∀ s m, WgIs b o w' s m → WgIs b o w s m := fun s m h => by
    obtain ⟨s₀, m₀, h₀⟩ := (T.wg hon).live
    obtain ⟨rfl, rfl⟩ := (hWg _ _ h₀).uniq h
    exact h₀
  have hheap : ∀ x, w'.heap[x]? = if x = c then some (.chan 0 #[] true kk kk false) else w.heap[x]? := fun x => by rw [← hw']; exact heap_setChan hck _ _ _ _ _ _ x
  have hwk : ∀ y : Goroutine, woken P a a' w' y = y.again w' := fun y => by simp [woken, hmw, hrun']
  have hcnt : cnt (fun j => closeRole c (ρ j)) gs.size = cnt ρ gs.size := sumTo_congr fun j _ => (closeRole_facts c (ρ j)).1
  have hwait : ∀ s, closeRole c (ρ 0) = .wait s ↔ ρ 0 = .wait s := fun s => by
    cases hx : ρ 0 with
    | seat p home => rcases closeRole_seat c p home with ⟨h, _⟩ | ⟨h, _⟩ <;> rw [h] <;> simp
    | _ => exact Iff.rfl
  have hlastr : ∀ j r, r.isLast = true → (closeRole c (ρ j) = r ↔ ρ j = r) := fun j r hl => by
    cases hx : ρ j with
    | seat p home =>
      constructor
      · intro e; rcases closeRole_seat c p home with ⟨h, _⟩ | ⟨h, _⟩ <;> rw [h] at e <;> subst e <;> cases hl
      · intro e; subst e; cases hl
    | _ => exact Iff.rfl
  have hu : t ++ MemOp.ofEvents h a.frame.fn a.frame.place (closeEvents c) = (t ++ MemOp.ofEvents h a.frame.fn a.frame.place #[(⟨.obj c, false, true⟩ : Event)]) ++ #[{ g := h, fn := a.frame.fn, pos := a.frame.place, act := .close c }] := by
    rw [closeOps, ofEvents_one, Array.append_assoc]; rfl
  have hcl : c < w.heap.size := (Array.getElem?_eq_some_iff.1 hck).1
  have htr0 := T.trOne (i := h) (r' := .self k d) (es := #[(⟨.obj c, false, true⟩ : Event)]) (H := True) a.frame.fn a.frame.place (by rw [hr]) (by rw [hr]; rfl) (fun j e he => by
    obtain rfl : e = ⟨.obj c, false, true⟩ := by simpa using Array.mem_of_getElem? he
    exact mayHold T (e := ⟨.obj c, false, true⟩) (top := w.heap.size) ⟨hcl, fun _ => rfl⟩ (fun r hr' g => by injection hr' with hr'; subst hr'; exact ⟨(hno g).2, fun hs => absurd hs (hno g).1⟩) _ _ _) (fun _ => rfl)
  rw [upd_id hr] at htr0
  have hq1 : ∀ j, ∀ op ∈ (#[{ g := h, fn := a.frame.fn, pos := a.frame.place, act := .close c }] : Array MemOp), ∀ d, deafStep j d op = d := by
    intro j op hop d
    simp only [List.mem_toArray, List.mem_cons, List.not_mem_nil, or_false] at hop
    subst hop; rfl
  have hwg : WgOk b o (fun j => closeRole c (ρ j)) gs.size w' := by
    have hw := T.wg hon
    unfold WgOk at hw ⊢
    have hl : ∀ j, (closeRole c (ρ j)).isLast = (ρ j).isLast := fun j => (closeRole_facts c (ρ j)).2.2.2.1
    simp only [hcnt, hl]
    by_cases hwt : ∃ s, ρ 0 = .wait s
    · obtain ⟨s, hs⟩ := hwt
      rw [(hwait s).2 hs]
      rw [hs] at hw
      cases s with
      | w3 =>
        simp only at hw ⊢
        rcases hw with ⟨h0, ⟨h1, h⟩ | ⟨h1, h⟩⟩ | ⟨h0, i, h1, ⟨h2, h⟩ | ⟨h2, h⟩⟩
        · exact .inl ⟨h0, .inl ⟨h1, hWg _ _ h⟩⟩
        · exact .inl ⟨h0, .inr ⟨h1, hWg _ _ h⟩⟩
        · exact .inr ⟨h0, i, h1, .inl ⟨h2.imp (hlastr i .last2 rfl).2 (hlastr i .last3 rfl).2, hWg _ _ h⟩⟩
        · exact .inr ⟨h0, i, h1, .inr ⟨(hlastr i .last4 rfl).2 h2, hWg _ _ h⟩⟩
      | w4 => exact ⟨hw.1, hw.2.1, hWg _ _ hw.2.2⟩
      | w5 => exact ⟨hw.1, hw.2.1, hWg _ _ hw.2.2⟩
      | w6 => exact ⟨hw.1, hw.2.1, hWg _ _ hw.2.2⟩
      | _ => exact ⟨hw.1, hWg _ _ hw.2⟩
    · have hw0 : (∀ j, (ρ j).isLast = false) ∧ WgIs b o w (cnt ρ gs.size * KK) 0 := by
        cases hz : ρ 0 with
        | wait s => exact absurd ⟨s, hz⟩ hwt
        | _ => rw [hz] at hw; exact hw
      cases hz : closeRole c (ρ 0) with
      | wait s => exact absurd ⟨s, (hwait s).1 hz⟩ hwt
      | _ => exact ⟨hw0.1, hWg _ _ hw0.2⟩
  have hsz : ((gs.map (woken P a a' w')).setIfInBounds h a').size = gs.size := by simp
  have hseatI : ∀ j p home, closeRole c (ρ j) = .seat p home → ρ j = .seat p home ∧ p.chan ≠ c := fun j p home e => by
    cases hx : ρ j with
    | seat p' home' =>
      rw [hx] at e
      rcases closeRole_seat c p' home' with ⟨h, _⟩ | ⟨h, hn⟩
      · rw [h] at e; cases e
      · rw [h] at e; injection e with e1 e2; subst e1 e2; exact ⟨rfl, hn⟩
    | _ => rw [hx] at e; cases e
  have hshutI : ∀ j p home, closeRole c (ρ j) = .shut p home → ρ j = .shut p home ∨ (ρ j = .seat p home ∧ p.chan = c) := fun j p home e => by
    cases hx : ρ j with
    | seat p' home' =>
      rw [hx] at e
      rcases closeRole_seat c p' home' with ⟨h, hc⟩ | ⟨h, _⟩
      · rw [h] at e; injection e with e1 e2; subst e1 e2; exact .inr ⟨rfl, hc⟩
      · rw [h] at e; cases e
    | shut p' home' => rw [hx] at e; exact .inl e
    | _ => rw [hx] at e; cases e
  have hselfI : ∀ j k' d', closeRole c (ρ j) = .self k' d' → ρ j = .self k' d' := fun j k' d' e => by
    cases hx : ρ j with
    | seat p' home' => rw [hx] at e; rcases closeRole_seat c p' home' with ⟨h, _⟩ | ⟨h, _⟩ <;> rw [h] at e <;> cases e
    | _ => rw [hx] at e; exact e
  refine ⟨fun j => match ρ j with
    | .seat p _ => if p.chan = c then q j - 1 else q j
    | .wait .w3 => if q j = 0 then 1 else q j
    | _ => q j, T.ok, T.ad, T.shs, fun l hl => ?_, fun g hg => ?_, by rw [hsz]; exact T.old, T.plain, fun g x k' hx => ?_, fun g r hx => ?_, ?_, fun j y hy => ?_, fun j hj => ?_, fun j p home e => ?_, fun j l p p' h₁ h₂ e1 e2 hch => ?_, fun j p home e => ?_, fun j k' d' e => T.one j _ _ (hselfI j k' d' e), fun x hx => ?_, by rw [hsz, hcnt]; exact T.few, by rw [hsz]; exact fun _ => hwg, fun c => absurd hon c, by rw [hsz]; exact T.some1, fun h1 h2 => ?_⟩
  · have : w'.heap.size = w.heap.size := by rw [← hw']; simp [World.setChan]
    rw [this]; exact T.grs l hl
  · obtain ⟨d, e⟩ := T.dds g hg
    exact ⟨d, by rw [e]; rfl⟩
  · have : w'.heap.size = w.heap.size := by rw [← hw']; simp [World.setChan]
    rw [this]; exact T.inb g x k' hx
  · obtain ⟨ob, h1, h2⟩ := T.inbo g r hx
    exact ⟨ob, ((hRB g).objs r hx).trans h1, h2⟩
  · rw [hsz]
    have e1 : (fun j => (closeRole c (ρ j)).loose = true) = fun j => (ρ j).loose = true := by funext j; rw [(closeRole_facts c (ρ j)).2.2.1]
    have e2 : (fun j => (closeRole c (ρ j)).dd) = fun j => (ρ j).dd := by funext j; rw [(closeRole_facts c (ρ j)).2.1]
    rw [e1, e2, hu]
    refine htr0.mute (fun op hop => ?_) (fun i hi => Acc.app (fun _ h => h) hi) (fun j => (Deaf_quiet (hq1 j)).trans (htr0.deaf j)) (fun op hop => ?_)
    · simp only [List.mem_toArray, List.mem_cons, List.not_mem_nil, or_false] at hop
      subst hop; rfl
    · simp only [List.mem_toArray, List.mem_cons, List.not_mem_nil, or_false] at hop
      intro x; subst hop; simp
  · by_cases e : j = h
    · subst e
      rw [hr]
      trivial
    · rw [Array.getElem?_setIfInBounds_ne (Ne.symm e), Array.getElem?_map] at hy
      obtain ⟨y₀, hy₀, rfl⟩ := Option.map_eq_some_iff.1 hy
      rw [hwk]
      have hrole := T.roles j y₀ hy₀
      have hrely := hrole.rely (hRB j)
      have hns : (ρ j).isSelf = false := by
        cases hs : (ρ j).isSelf with
        | false => rfl
        | true => exact absurd (self_is T hs) e
      cases hx : ρ j with
      | seat p home =>
        rw [hx] at hrely
        rcases closeRole_seat c p home with ⟨hcr, hpc⟩ | ⟨hcr, hpc⟩
        · obtain ⟨hj0, z, ok, rfl, hct⟩ := hcont j p home hx hpc
          rw [hcr]
          simp only [if_pos hpc]
          refine ⟨hj0, hrely.1, ⟨_, z, ok, rfl, hct⟩, ?_⟩
          have hb := ne_zero_beq hj0
          rcases hrely.2 with ⟨k', hk', hg⟩ | ⟨hq0, g₀, g₂, rfl, hat', hh⟩
          · rw [hb] at hg
            rw [again_running _ (.inl (hg.running (fun _ _ x => x.choose_spec.1.1) w' (RB.refl j w'))), hk']
            exact hg
          · rw [hb] at hat'
            have hcl : w'.heap[c]? = some (.chan 0 #[] true kk kk false) := by rw [hheap, if_pos rfl]
            have : (parked g₂ (Port.recv c z ok).cases (Port.recv c z ok).shape).again w' = { parked g₂ (Port.recv c z ok).cases (Port.recv c z ok).shape with status := .running } := again_recv_closed hcl
            rw [this]
            exact Goes.stop fun w₁ h₁ => ⟨g₂, ⟨rfl, rfl, rfl, rfl, fun w₂ => by rw [← hat'.2.2.2.2 w₂]; exact stepG_same hat'.2.1.symm hat'.2.2.1.symm hat'.2.2.2.1.symm w₂⟩, hrely.1 _ _ _ h₁ hh⟩
        · rw [hcr]
          simp only [if_neg hpc]
          have hopen : ∃ k', w'.heap[p.chan]? = some (.chan 0 #[] false k' k' false) := by
            obtain ⟨k', hk'⟩ := T.chans j p home hx
            exact ⟨k', by rw [hheap, if_neg hpc]; exact hk'⟩
          have : y₀.again w' = y₀ := by
            rcases hrely.2 with ⟨k', hk', hg⟩ | ⟨hq0, g₀, g₂, rfl, hat', hh⟩
            · exact again_running _ (.inl (hg.running (fun _ _ x => x.choose_spec.1.1) w' (RB.refl j w')))
            · exact port_again hopen.choose_spec
          rw [this]; exact hrely
      | wait s =>
        rw [hx] at hrely
        have hc0 : closeRole c (.wait s) = .wait s := rfl
        rw [hc0]
        obtain ⟨rfl, hW⟩ := hrely
        cases s with
        | w3 =>
          rcases hW with ⟨k', hk', hg⟩ | ⟨hq0, g₀, h1, rfl, h2⟩
          · rw [again_running _ (.inl (hg.running (fun _ _ x => x.1) w' (RB.refl 0 w')))]
            simp only [if_neg (show ¬ q 0 = 0 by omega)]
            exact ⟨rfl, .inl ⟨k', hk', hg⟩⟩
          · have hoff := h1.2.1
            have e0 : ({ g₀ with status := .blocked } : Goroutine).again w' = g₀ := by
              have h3 := h1.1
              cases g₀; simp_all [Goroutine.again]
            rw [e0]
            simp only [hq0, if_true]
            exact ⟨rfl, .inl ⟨0, rfl, Goes.stop fun w₁ h₁ => h2 w₁ h₁⟩⟩
        | w2 v => rw [again_running _ (.inl (Goes.running (fun _ _ x => x.1) w' (RB.refl 0 w') hW.2))]; exact ⟨rfl, hW⟩
        | w1a => rw [again_running _ (.inl (Goes.running hA w' (RB.refl 0 w') hW))]; exact ⟨rfl, hW⟩
        | w0 => rw [again_running _ (.inl (Goes.running (fun _ _ x => x.1) w' (RB.refl 0 w') hW))]; exact ⟨rfl, hW⟩
        | w1 => rw [again_running _ (.inl (Goes.running (fun _ _ x => x.1) w' (RB.refl 0 w') hW))]; exact ⟨rfl, hW⟩
        | w4 => rw [again_running _ (.inl (Goes.running (fun _ _ x => x.1) w' (RB.refl 0 w') hW))]; exact ⟨rfl, hW⟩
        | w5 => rw [again_running _ (.inl (Goes.running (fun _ _ x => x.1) w' (RB.refl 0 w') hW))]; exact ⟨rfl, hW⟩
        | w6 => rw [again_running _ (.inl (Goes.running (fun _ _ x => x.1) w' (RB.refl 0 w') hW))]; exact ⟨rfl, hW⟩
      | self k' d' => rw [hx] at hns; cases hns
      | _ =>
        all_goals
          rw [hx] at hrely
          rcases hrely.status hA (by rfl) with hs | hs | ⟨_, _, ⟨p, home, hs⟩ | hs⟩
          · rw [again_running _ (.inl hs)]; exact hrely
          · rw [again_running _ (.inr hs)]; exact hrely
          · cases hs
          · cases hs
  · rw [hsz] at hj
    rw [T.above j hj]; rfl
  · obtain ⟨e1, e2⟩ := hseatI j p home e
    obtain ⟨k', hk'⟩ := T.chans j p home e1
    exact ⟨k', by rw [hheap, if_neg e2]; exact hk'⟩
  · exact T.apart j l p p' h₁ h₂ (hseatI j p h₁ e1).1 (hseatI l p' h₂ e2).1 hch
  · rcases hshutI j p home e with e1 | ⟨_, e2⟩
    · obtain ⟨k', hk'⟩ := T.shuts j p home e1
      exact ⟨k', by rw [hheap, if_neg (fun ec => by rw [ec, hck] at hk'; cases hk')]; exact hk'⟩
    · exact ⟨kk, by rw [hheap, if_pos e2]⟩
  · obtain rfl := some_inj hx
    exact .inr (.inl (by rw [hr]; rfl))
  · have h1' := (hwait .w3).1 h1
    have := T.awake h1' (hback _ _ h2)
    simp only [h1']
    split <;> omega
end
end Go.Town
