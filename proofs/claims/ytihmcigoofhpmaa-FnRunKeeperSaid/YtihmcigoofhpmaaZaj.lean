/-
  A bystander's step, role by role.
-/
import Derived.Test.YtihmcigoofhpmaaZai
set_option linter.all false
namespace Go.Town
open Go Go.Conc
open Go.ConcN (sumTo upd sumTo_upd upd_ne upd_same sumTo_congr le_sumTo)
section
variable {P : Program} {C : Cfg} {b o : Nat} {Anch Fin : Goroutine → World → Prop} {who who' : Option Nat} {rel rel' : Nat → Prop} {ρ : Nat → Role} {q : Nat → Nat} {gs : Array Goroutine} {w w' : World} {t u : Trace} {sl : Option (Nat × Nat)}
theorem Town.noOffer (T : Town P C b o Anch Fin who rel ρ q gs w t) (hA : ∀ g w, Anch g w → g.status = .running) {x : Nat} {y : Goroutine} (hy : gs[x]? = some y) (hns : (ρ x).isSelf = false) {c : Nat} {dir : Bool}
    (h : ∀ p' h', ρ x = .seat p' h' → p'.chan = c → p'.out ≠ dir) : offersAt y c dir = [] := by
  have hr := T.roles x y hy
  rcases hr.status hA hns with hs | hs | ⟨hs, hq, ⟨p, home, e⟩ | e⟩
  · exact offersAt_of_not_blocked (by rw [hs]; simp) _ _
  · exact offersAt_of_not_blocked (by rw [hs]; simp) _ _
  · rw [e] at hr
    rcases hr.2 with ⟨k, hk, _⟩ | ⟨_, g₀, g₂, rfl, _⟩
    · omega
    · have hh := h p home e
      cases p with
      | recv c' z ok =>
        cases dir with
        | true => exact offersAt_parked_recv' ..
        | false =>
          rw [show (Port.recv c' z ok).cases = #[rcase c' z] from rfl, offersAt_parked_recv, if_neg]
          exact fun ec => hh ec rfl
      | send c' v z =>
        cases dir with
        | false => exact offersAt_parked_send' ..
        | true =>
          rw [show (Port.send c' v z).cases = #[scase c' v z] from rfl, offersAt_parked_send, if_neg]
          exact fun ec => hh ec rfl
  · rw [e] at hr
    rcases hr.2 with ⟨k, hk, _⟩ | ⟨_, g₀, h1, rfl, _⟩
    · omega
    · have := h1.2.1
      simp [offersAt, this]
theorem ne_zero_beq {i : Nat} (h : 0 < i) : (i == 0) = false := by simp; omega
theorem WgOk.upd_same_count {i n : Nat} {r' : Role} (h : WgOk b o ρ n w) (hi : i < n) (h0 : i ≠ 0 ∨ ∀ s, ρ 0 ≠ .wait s ∧ r' ≠ .wait s) (hc : r'.count = (ρ i).count) (hl : r'.isLast = (ρ i).isLast) (hp : r' = ρ i ∨ r'.isLast = false) : WgOk b o (upd ρ i r') n w := by
  have e1 : cnt (upd ρ i r') n = cnt ρ n := by
    have := cnt_upd (ρ := ρ) r' hi
    rw [hc] at this; omega
  have e2 : ∀ j, (upd ρ i r' j).isLast = (ρ j).isLast := fun j => by
    by_cases e : j = i
    · subst e; rw [upd_same, hl]
    · rw [upd_ne _ _ e]
  have e3 : ∀ j, (ρ j).isLast = true → upd ρ i r' j = ρ j := fun j hj => by
    by_cases e : j = i
    · subst e
      rw [upd_same]
      rcases hp with hp | hp
      · exact hp
      · rw [← hl, hp] at hj; cases hj
    · rw [upd_ne _ _ e]
  have e4 : (∃ s, ρ 0 = .wait s) → upd ρ i r' 0 = ρ 0 := fun ⟨s, hs⟩ => by
    rcases h0 with h0 | h0
    · rw [upd_ne _ _ (Ne.symm h0)]
    · exact absurd hs (h0 s).1
  have e5 : (∀ s, ρ 0 ≠ .wait s) → ∀ s, upd ρ i r' 0 ≠ .wait s := fun hs s => by
    by_cases e : (0 : Nat) = i
    · subst e
      rw [upd_same]
      rcases h0 with h0 | h0
      · exact absurd rfl h0
      · exact (h0 s).2
    · rw [upd_ne _ _ e]; exact hs s
  have wl : ∀ j, (ρ j).isLast = true → (ρ j = .last2 ∨ ρ j = .last3) ∨ ρ j = .last4 := fun j hj => by
    cases hr : ρ j <;> rw [hr] at hj <;> first | (cases hj; done) | simp
  unfold WgOk at h ⊢
  by_cases hw : ∃ s, ρ 0 = .wait s
  · rw [e4 hw]
    split <;> rename_i e <;> simp only [e, e1, e2] at h ⊢
    · rcases h with h | ⟨h1, j, h2, h3⟩
      · exact .inl h
      · have : (ρ j).isLast = true := by rcases h3 with ⟨h3 | h3, _⟩ | ⟨h3, _⟩ <;> rw [h3] <;> rfl
        exact .inr ⟨h1, j, h2, by rw [e3 j this]; exact h3⟩
    · exact h
    · exact h
    · exact h
    · exact h
  · have hw1 : ∀ s, ρ 0 ≠ .wait s := fun s hs => hw ⟨s, hs⟩
    have hw2 := e5 hw1
    cases hr : ρ 0 with
    | wait s => exact absurd hr (hw1 s)
    | _ =>
      all_goals
        rw [hr] at h
        simp only at h
        cases hr' : upd ρ i r' 0 with
        | wait s => exact absurd hr' (hw2 s)
        | _ => simp only [e1, e2]; exact h
theorem Town.way0 (T : Town P C b o Anch Fin who rel ρ q gs w t) (hA : ∀ g w, Anch g w → g.status = .running) (hS : StillSelf ρ gs w) {i : Nat} {g g' : Goroutine} {r : Role} {n' : Nat} (hi : gs[i]? = some g) (hr : ρ i = r) (hpos : 0 < i)
    (hk : 0 < r.rank) (hns : r.isSelf = false) (hseat : ∀ p h, r ≠ .seat p h ∧ r ≠ .shut p h) (hdn : r ≠ .done) (hof : ¬ r.isOff) (hn : n' < q i) (hgo : stepG P false g w = .go g' w #[]) (hrole : InRole P C b o Anch Fin i r n' g' w) : Moves P C b o Anch Fin who rel ρ q gs w sl t i := by
  have hlt : i < gs.size := (Array.getElem?_eq_some_iff.1 hi).1
  refine T.moves hA hS (w' := w) (es := #[]) (r' := r) (n' := n') (who' := who) (rel' := rel) hi (by rw [hr]; exact hns) (by rw [ne_zero_beq hpos]; exact hgo) (Out.refl _ _) (fun j _ => RB.refl j w) (fun p h e => absurd e (hseat p h).1) (fun p h e => absurd e (hseat p h).2) hns (.inl rfl) (by rw [hr]; exact fun e => absurd e hdn) hrole ?_ ?_ ?_ (by rw [hr]; exact Nat.le_refl _) (.inr (by rw [hr]; exact fun p h => (hseat p h).1)) (by rw [hr]; exact .inl rfl) (fun _ _ h => .inl h) (fun e => by omega) (fun q' h1 h2 => less_n hlt (by rw [hr]) hk (by omega) h2)
  · exact T.trOne (H := False) _ _ (by rw [hr]) (by rw [hr]; rfl) (fun k e he => by simp at he) (fun h => h.elim)
  · exact .inr ⟨T.isOn (i := i) (by rw [hr]; exact hof), fun d e => by rw [← hr, e] at hof; exact hof trivial⟩
  · exact fun c => (T.wg c).upd_same_count hlt (.inl (by omega)) (by rw [hr]) (by rw [hr]) (.inl hr.symm)
theorem Town.wayR (T : Town P C b o Anch Fin who rel ρ q gs w t) (hA : ∀ g w, Anch g w → g.status = .running) (hS : StillSelf ρ gs w) {i : Nat} {g g' : Goroutine} {es : Array Event} {n' : Nat} (hi : gs[i]? = some g) (hl : (ρ i).loose = true)
    (hn : n' < q i) (hgo : stepG P (i == 0) g w = .go g' w' es) (hd : DR C i w w' es) (hrole : InRole P C b o Anch Fin i (ρ i) n' g' w') (hqn : 0 < n' ∨ ∀ p home, ρ i ≠ .seat p home) : Moves P C b o Anch Fin who rel ρ q gs w sl t i := by
  have hlt : i < gs.size := (Array.getElem?_eq_some_iff.1 hi).1
  obtain ⟨hrb, hwg⟩ := T.rb_out hd.1
  have hns : (ρ i).isSelf = false := by cases h : ρ i <;> rw [h] at hl <;> first | (cases hl; done) | rfl
  have hk : 0 < (ρ i).rank := by cases h : ρ i <;> rw [h] at hl <;> first | (cases hl; done) | simp [Role.rank]
  have h0 : (ρ i).dd = 0 := by cases h : ρ i <;> rw [h] at hl <;> first | (cases hl; done) | rfl
  have hon : C.on := T.isOn (i := i) (by cases h : ρ i <;> rw [h] at hl <;> first | (cases hl; done) | exact id)
  have hback : WgIs b o w' 0 1 → WgIs b o w 0 1 := fun h => by
    obtain ⟨s, m, h₀⟩ := (T.wg hon).live
    have h₁ := hwg hon _ _ h₀
    have e1 := h₁.st.symm.trans h.st
    have e2 := h₁.sm.symm.trans h.sm
    simp only [Option.some.injEq, Value.int.injEq, true_and] at e1 e2
    rw [← e1, ← e2]; exact h₀
  have hu : upd ρ i (ρ i) = ρ := by
    funext j
    by_cases e : j = i
    · subst e; rw [upd_same]
    · rw [upd_ne _ _ e]
  refine T.moves hA hS (r' := ρ i) (n' := n') (who' := who) (rel' := rel) hi hns hgo (hd.1.mono fun x k h => .inr (.inr ⟨i, h⟩)) hrb (fun p h e => ⟨h, e⟩) (fun p h e => ⟨h, e⟩) hns (.inl rfl) (fun e => .inl e) hrole ?_ (.inr ⟨hon, fun d e => by rw [e] at hl; cases hl⟩) ?_ (Nat.le_refl _) hqn (.inl rfl) (fun _ _ h => .inl (hback h)) (fun e e' => by rw [e'] at hl; cases hl) (fun q' h1 h2 => less_n hlt rfl hk (by omega) h2)
  · refine T.trOne (H := False) _ _ rfl ?_ (fun k e he => ⟨mayR T hi hl (hd.2 e (Array.mem_of_getElem? he)) _ _ _ _, (hd.2 e (Array.mem_of_getElem? he)).2.2.2⟩) (fun h => h.elim)
    exact deafBehind_still (fun e he => ⟨(hd.2 e he).2.1, (hd.2 e he).2.2.1⟩) _
  · rw [hu]
    exact fun c => (T.wg c).keep (hwg c)
theorem Town.park (T : Town P C b o Anch Fin who rel ρ q gs w t) (hA : ∀ g w, Anch g w → g.status = .running) {i : Nat} {g g₂ : Goroutine} {p : Port} {home : Goroutine → World → Prop} (hi : gs[i]? = some g) (hr : ρ i = .seat p home) (hq : 0 < q i)
    (hat : AtPort P (i == 0) p g g₂) (hh : home g₂ w) (hopp : ∀ (x : Nat) (y : Goroutine), (ρ x).isSelf = true → gs[x]? = some y → offersAt y p.chan (!p.out) = []) : Moves P C b o Anch Fin who rel ρ q gs w sl t i := by
  have hlt : i < gs.size := (Array.getElem?_eq_some_iff.1 hi).1
  have hrole := T.roles i g hi
  rw [hr] at hrole
  obtain ⟨k, hc⟩ := T.chans i p home hr
  have hno : ∀ (x : Nat) (y : Goroutine), (gs.setIfInBounds i ph)[x]? = some y → offersAt y p.chan (!p.out) = [] := by
    intro x y hy
    rcases getElem?_stand gs i x y hy with ⟨_, rfl⟩ | ⟨hx, hy'⟩
    · exact offersAt_ph _ _
    · cases hs : (ρ x).isSelf with
      | true => exact hopp x y hs hy'
      | false => exact T.noOffer hA hy' hs fun p' h' e ec => by rw [T.apart x i p' p h' home e hr ec]; cases p.out <;> simp
  have hw : ∀ cc ∈ p.cases, NoWays w (gs.setIfInBounds i ph) cc := by
    intro cc hcc
    cases p with
    | recv c z ok =>
      have : cc = rcase c z := by simpa [Port.cases] using hcc
      subst this
      exact ways_recv_none hc (partners_nil hno)
    | send c v z =>
      have : cc = scase c v z := by simpa [Port.cases] using hcc
      subst this
      exact ways_send_none hc (by simp) (partners_nil hno)
  have hwk : gs.map (woken P g (parked g₂ p.cases p.shape) w) = gs := by
    have : woken P g (parked g₂ p.cases p.shape) w = id := by funext y; simp [woken, parked]
    rw [this, Array.map_id]
  have hu : upd ρ i (.seat p home) = ρ := by
    funext j
    by_cases e : j = i
    · subst e; rw [upd_same, hr]
    · rw [upd_ne _ _ e]
  obtain ⟨q', T', h1, h2⟩ := T.step hA (a := g) (a' := parked g₂ p.cases p.shape) (g' := parked g₂ p.cases p.shape) (r' := .seat p home) (n' := 0) (who' := who) (rel' := rel) (u := MemOp.ofEvents i g.frame.fn g.frame.place #[]) hi (fun j _ => RB.refl j w) (Nat.le_refl _) (fun r ob h _ _ => h) (T.inbo i)
    (fun p' h' e => ⟨home, by injection e with e1 e2; rw [← e1]; exact hr⟩) (fun p' h' e => by cases e) (fun j k d hj => by rw [hu] at hj; exact T.one j k d hj) (by rw [hu]; exact T.holder) ⟨hrole.1, .inr ⟨rfl, g, g₂, rfl, hat, hh⟩⟩ (T.trOne (H := False) _ _ (by rw [hr]) (by rw [hr]; rfl) (fun k e he => by simp at he) (fun h => h.elim)) (by rw [hu]; exact T.wg) (fun c => absurd (T.isOn (i := i) (by rw [hr]; exact id)) c) (fun hd => absurd hd (T.notDd (by rw [hr]; simp))) (by rw [hu]; exact T.few) (fun _ _ h => .inl h) (fun _ e => by cases e)
  rw [hwk] at T'
  refine ⟨_, w, _, upd ρ i (.seat p home), q', who, rel, crowd_waits (sl := sl) hi (hat.2.2.2.2 w) hw, by simp, T', less_n hlt (by rw [hr]) (by simp [Role.rank]) (by omega) h2, Out.refl _ _, by rw [hu]; exact fun j => .inl rfl, fun _ => rfl, fun x hx => ?_, h2, .inr fun p' h' e => ⟨g, g₂, hi, by rw [hr] at e; injection e with e1; subst e1; exact hat⟩, fun hc => by
    rcases hc i with h | ⟨d, h⟩ | h <;> rw [hr] at h <;> cases h⟩
  have hxi : x ≠ i := fun e => by subst e; rw [hr] at hx; cases hx
  rw [Array.getElem?_setIfInBounds_ne (Ne.symm hxi)]
theorem Town.bySeat (T : Town P C b o Anch Fin who rel ρ q gs w t) (hA : ∀ g w, Anch g w → g.status = .running) (hS : StillSelf ρ gs w) {i : Nat} {g : Goroutine} {p : Port} {home : Goroutine → World → Prop} (hi : gs[i]? = some g) (hr : ρ i = .seat p home) (hrun : g.status = .running)
    (hopp : ∀ (x : Nat) (y : Goroutine), (ρ x).isSelf = true → gs[x]? = some y → offersAt y p.chan (!p.out) = []) : Moves P C b o Anch Fin who rel ρ q gs w sl t i := by
  have hrole := T.roles i g hi
  rw [hr] at hrole
  rcases hrole.2 with ⟨k, hk, hg⟩ | ⟨_, g₀, g₂, rfl, _⟩
  · rcases hg.cases with hstop | ⟨k', rfl, hst⟩
    · obtain ⟨g₂, hat, hh⟩ := hstop w (RB.refl i w)
      exact T.park hA hi hr (by omega) hat hh hopp
    · obtain ⟨g', w', es, hgo, hd, hg'⟩ := hst w (RB.refl i w)
      exact T.wayR hA hS (n' := k' + 1) hi (by rw [hr]; rfl) (by omega) hgo hd (by rw [hr]; exact ⟨hrole.1, .inl ⟨k', rfl, hg'⟩⟩) (.inl (Nat.succ_pos _))
  · cases hrun
end
end Go.Town
