/-
  The waiter's steps.
  T1: the holder's walk, in company.
-/
import Derived.Test.YtihmcigoofhpmaaZak
set_option linter.all false
namespace Go.Town
open Go Go.Conc
open Go.ConcN (sumTo upd sumTo_upd upd_ne upd_same sumTo_congr le_sumTo)
theorem lex_trans {α β : Type} {r : α → α → Prop} {s : β → β → Prop} (hr : ∀ a b c, r a b → r b c → r a c) (hs : ∀ a b c, s a b → s b c → s a c) : ∀ a b c, Prod.Lex r s a b → Prod.Lex r s b c → Prod.Lex r s a c := by
  rintro _ _ _ (⟨b1, b2, h1⟩ | ⟨a1, h1⟩) h
  · cases h with
    | left _ _ h2 => exact .left _ _ (hr _ _ _ h1 h2)
    | right _ h2 => exact .left _ _ h1
  · cases h with
    | left _ _ h2 => exact .left _ _ h2
    | right _ h2 => exact .right _ (hs _ _ _ h1 h2)
theorem lex4_trans : ∀ a b c, Lex4 a b → Lex4 b c → Lex4 a c :=
  lex_trans (fun _ _ _ => Nat.lt_trans) (lex_trans (fun _ _ _ => Nat.lt_trans) (lex_trans (fun _ _ _ => Nat.lt_trans) (fun _ _ _ => Nat.lt_trans)))
section
variable {P : Program} {C : Cfg} {b o : Nat} {Anch Fin : Goroutine → World → Prop} {who who' : Option Nat} {rel rel' : Nat → Prop} {ρ : Nat → Role} {q : Nat → Nat} {gs : Array Goroutine} {w w' : World} {t u : Trace} {sl : Option (Nat × Nat)}
def Tag.pre : Tag → Bool
  | .w0 | .w1a | .w1 | .w2 _ => true
  | _ => false
theorem wgok_pre {s : Tag} {n : Nat} (h0 : ρ 0 = .wait s) (hs : s.pre = true) : WgOk b o ρ n w ↔ ((∀ j, (ρ j).isLast = false) ∧ WgIs b o w (cnt ρ n * KK) 0) := by
  unfold WgOk
  rw [h0]
  cases s <;> first | (cases hs; done) | exact Iff.rfl
theorem less_w {s s' : Tag} {q' : Nat → Nat} {n n' : Nat} (hlt : 0 < n) (h0 : ρ 0 = .wait s) (h : rankW (upd ρ 0 (.wait s')) n < rankW ρ n ∨ (rankW (upd ρ 0 (.wait s')) n = rankW ρ n ∧ n' < q 0)) (h1 : q' 0 = n') (h2 : ∀ j, j ≠ 0 → ρ j ≠ .wait .w3 → q' j = q j) :
    Lex4 (meas (upd ρ 0 (.wait s')) q' n) (meas ρ q n) := by
  have eA : rankA (upd ρ 0 (.wait s')) n = rankA ρ n := by
    have := rankA_upd (ρ := ρ) (.wait s') hlt
    rw [h0] at this
    simpa [Role.rank] using this
  have eB : rankB (upd ρ 0 (.wait s')) q' n = rankB ρ q n := sumTo_congr fun i _ => by
    by_cases e : i = 0
    · subst e; simp [upd_same, h0, Role.rank]
    · rw [upd_ne _ _ e]
      by_cases hw : ρ i = .wait .w3
      · simp [hw, Role.rank]
      · rw [h2 i e hw]
  unfold meas
  rw [eA, eB]
  refine .right _ (.right _ ?_)
  rcases h with h | ⟨h, hq⟩
  · exact .left _ _ h
  · rw [h]
    refine .right _ ?_
    simp only [rankQ, upd_same, h0, h1]
    exact hq
theorem Town.waitGo (T : Town P C b o Anch Fin who rel ρ q gs w t) (hA : ∀ g w, Anch g w → g.status = .running) (hS : StillSelf ρ gs w) {g g' : Goroutine} {s s' : Tag} {es : Array Event} {n' : Nat} (hi : gs[0]? = some g) (hr : ρ 0 = .wait s) (hgo : stepG P true g w = .go g' w es)
    (hd : deafBehind (Role.wait s).dd es = (Role.wait s').dd)
    (hm : ∀ (k : Nat) e, es[k]? = some e → (∀ x, e.loc ≠ .mark (.release x)) ∧ ((MemAct.ofEvent e).touch? = none ∨ (e = rdE ⟨b, o, none⟩) ∨ e = ⟨.mark (.write ⟨b, o + 1, none⟩), false, true⟩))
    (hrole : Waits P C b o Anch Fin s' n' g' w) (hwg : C.on → WgOk b o (upd ρ 0 (.wait s')) gs.size w) (hawk : s' = .w3 → WgIs b o w 0 1 → 0 < n')
    (hless : rankW (upd ρ 0 (.wait s')) gs.size < rankW ρ gs.size ∨ (rankW (upd ρ 0 (.wait s')) gs.size = rankW ρ gs.size ∧ n' < q 0)) : Moves P C b o Anch Fin who rel ρ q gs w sl t 0 := by
  have hlt : 0 < gs.size := T.some1
  have hon : C.on := T.isOn (i := 0) (by rw [hr]; exact id)
  have hnq : ∀ d, ρ 0 ≠ .quit d := by rw [hr]; simp
  refine T.moves hA hS (w' := w) (r' := .wait s') (n' := n') (who' := who) (rel' := rel) hi (by rw [hr]; rfl) hgo (Out.refl _ _) (fun j _ => RB.refl j w) (fun p h e => by cases e) (fun p h e => by cases e) rfl (.inl rfl) (by rw [hr]; exact fun e => by cases e) ⟨rfl, hrole⟩ ?_ (.inr ⟨hon, hnq⟩) hwg (Nat.zero_le _) (.inr (by rw [hr]; exact fun p h e => by cases e)) (by rw [hr]; exact .inr (.inr ⟨_, _, rfl, rfl⟩)) (fun _ _ h => .inl h) (fun _ e h => by injection e with e; exact hawk e h) (fun q' h1 h2 => less_w hlt hr hless h1 h2)
  refine T.trOne (H := False) _ _ (by rw [hr]; rfl) (by rw [hr]; exact hd) (fun k e he => ?_) (fun h => h.elim)
  obtain ⟨h1, h2⟩ := hm k e he
  refine ⟨?_, h1⟩
  rcases h2 with h2 | rfl | rfl
  · exact .mute h2
  · exact mayBook T hon (T.notDd hnq) hi (.inl rfl) false (.inl rfl) _ _ _
  · exact .book (b := ⟨.cell ⟨b, o + 1, none⟩, true, .said⟩) rfl hlt (T.notDd hnq) ((T.shs _).2 ⟨hon, .inr rfl⟩) (.inr ⟨rfl, rfl⟩)
theorem Town.waitWay (T : Town P C b o Anch Fin who rel ρ q gs w t) (hA : ∀ g w, Anch g w → g.status = .running) (hS : StillSelf ρ gs w) {g g' : Goroutine} {s : Tag} {es : Array Event} {n' : Nat} (hi : gs[0]? = some g) (hr : ρ 0 = .wait s) (hgo : stepG P true g w = .go g' w es)
    (hes : ∀ e ∈ es, e = ⟨.mark (.write ⟨b, o + 1, none⟩), false, true⟩) (hrole : Waits P C b o Anch Fin s n' g' w) (hn : n' < q 0) (hawk : s = .w3 → 0 < n') : Moves P C b o Anch Fin who rel ρ q gs w sl t 0 := by
  have hu : upd ρ 0 (.wait s) = ρ := by
    funext j
    by_cases e : j = 0
    · subst e; rw [upd_same, hr]
    · rw [upd_ne _ _ e]
  refine T.waitGo hA hS hi hr hgo (deafBehind_still (fun e he => by rw [hes e he]; exact ⟨by simp, by simp⟩) _) (fun k e he => ?_) hrole (by rw [hu]; exact T.wg) (fun h _ => hawk h) (.inr ⟨by rw [hu], hn⟩)
  have := hes e (Array.mem_of_getElem? he)
  subst this
  exact ⟨by simp, .inr (.inr rfl)⟩
theorem cnt_w {n : Nat} {s s' : Tag} (hlt : 0 < n) (h0 : ρ 0 = .wait s) : cnt (upd ρ 0 (.wait s')) n = cnt ρ n := by
  have := cnt_upd (ρ := ρ) (.wait s') hlt
  rw [h0] at this
  simpa [Role.count] using this
theorem last_w {s s' : Tag} (h0 : ρ 0 = .wait s) (h : ∀ j, (ρ j).isLast = false) : ∀ j, (upd ρ 0 (.wait s') j).isLast = false := no_last h rfl
theorem pre_pre {n : Nat} {s s' : Tag} (hlt : 0 < n) (h0 : ρ 0 = .wait s) (hs : s.pre = true) (hs' : s'.pre = true) (h : WgOk b o ρ n w) : WgOk b o (upd ρ 0 (.wait s')) n w := by
  obtain ⟨h1, h2⟩ := (wgok_pre h0 hs).1 h
  exact (wgok_pre (upd_same _ _ _) hs').2 ⟨last_w h0 h1, by rw [cnt_w hlt h0]; exact h2⟩
theorem Town.w0Stop (T : Town P C b o Anch Fin who rel ρ q gs w t) (hA : ∀ g w, Anch g w → g.status = .running) (hS : StillSelf ρ gs w) {g : Goroutine} (hi : gs[0]? = some g) (hr : ρ 0 = .wait .w0) (h : AtKd P C b o Anch g w) : Moves P C b o Anch Fin who rel ρ q gs w sl t 0 := by
  obtain ⟨_, g', hgo, m, hm⟩ := h
  refine T.waitGo hA hS (s' := .w1a) (n' := m) hi hr hgo rfl (fun k e he => ?_) hm (fun c => pre_pre T.some1 hr rfl rfl (T.wg c)) (fun e => by cases e) (.inl (by simp only [rankW, upd_same, hr]; omega))
  obtain rfl : e = mkE .disable := by simpa using Array.mem_of_getElem? he
  exact ⟨by simp [mkE], .inl rfl⟩
theorem Town.w1Stop (T : Town P C b o Anch Fin who rel ρ q gs w t) (hA : ∀ g w, Anch g w → g.status = .running) (hS : StillSelf ρ gs w) {g : Goroutine} (hi : gs[0]? = some g) (hr : ρ 0 = .wait .w1) (h : AtW1 P C b o Anch Fin g w) : Moves P C b o Anch Fin who rel ρ q gs w sl t 0 := by
  have hon : C.on := T.isOn (i := 0) (by rw [hr]; exact id)
  have hnq : ∀ d, ρ 0 ≠ .quit d := by rw [hr]; simp
  obtain ⟨h1, h2⟩ := (wgok_pre hr rfl).1 (T.wg hon)
  have hf := T.few
  obtain ⟨g', hgo, hz, hnz⟩ := h.2 (cnt ρ gs.size) (by omega) h2
  have hev : ∀ (k : Nat) e, (#[rdE ⟨b, o, none⟩] : Array Event)[k]? = some e → (∀ x, e.loc ≠ .mark (.release x)) ∧ ((MemAct.ofEvent e).touch? = none ∨ (e = rdE ⟨b, o, none⟩) ∨ e = ⟨.mark (.write ⟨b, o + 1, none⟩), false, true⟩) := fun k e he => by
    obtain rfl : e = rdE ⟨b, o, none⟩ := by simpa using Array.mem_of_getElem? he
    exact ⟨by simp [rdE], .inr (.inl rfl)⟩
  by_cases hc : cnt ρ gs.size = 0
  · obtain ⟨m, hm⟩ := hz hc
    refine T.waitGo hA hS (s' := .w5) (n' := m) hi hr hgo (by simp [deafBehind, rdE, Role.dd]) hev hm ?_ (fun e => by cases e) (.inl (by simp only [rankW, upd_same, hr]; omega))
    intro _
    unfold WgOk
    rw [upd_same]
    rw [hc] at h2
    exact ⟨last_w hr h1, (cnt_w T.some1 hr).trans hc, by simpa using h2⟩
  · obtain ⟨m, hm⟩ := hnz hc
    refine T.waitGo hA hS (s' := .w2 (cnt ρ gs.size)) (n' := m) hi hr hgo (by simp [deafBehind, rdE, Role.dd]) hev ⟨by omega, hm⟩ (fun c => pre_pre T.some1 hr rfl rfl (T.wg c)) (fun e => by cases e) (.inl ?_)
    simp only [rankW, upd_same, hr, cnt_w T.some1 hr, if_true]
    omega
theorem Town.w2Stop (T : Town P C b o Anch Fin who rel ρ q gs w t) (hA : ∀ g w, Anch g w → g.status = .running) (hS : StillSelf ρ gs w) {g : Goroutine} {vs : Nat} (hi : gs[0]? = some g) (hr : ρ 0 = .wait (.w2 vs)) (hvs : 0 < vs) (h : AtW2 P C b o Anch Fin vs g w) : Moves P C b o Anch Fin who rel ρ q gs w sl t 0 := by
  have hon : C.on := T.isOn (i := 0) (by rw [hr]; exact id)
  have hnq : ∀ d, ρ 0 ≠ .quit d := by rw [hr]; simp
  obtain ⟨h1, h2⟩ := (wgok_pre hr rfl).1 (T.wg hon)
  have hf := T.few
  obtain ⟨hy, hn⟩ := h.2 (cnt ρ gs.size) (by omega) h2
  by_cases hc : cnt ρ gs.size = vs
  · obtain ⟨g', hgo, m, hm⟩ := hy hc
    have hw' := h2.setSt (cnt ρ gs.size * KK + 1)
    refine T.moves hA hS (r' := .wait .w3) (n' := m + 1) (who' := who) (rel' := rel) hi (by rw [hr]; rfl) hgo ((out_setCell w b o _).mono (sh_st T hon (.inl rfl))) (fun j _ => T.rb_set hon (.inl rfl) ⟨_, _, hw'⟩ j) (fun p h e => by cases e) (fun p h e => by cases e) rfl (.inl rfl) (by rw [hr]; exact fun e => by cases e) ⟨rfl, .inl ⟨m, rfl, hm⟩⟩ ?_ (.inr ⟨hon, hnq⟩) ?_ (Nat.zero_le _) (.inr (by rw [hr]; exact fun p h e => by cases e)) (by rw [hr]; exact .inr (.inr ⟨_, _, rfl, rfl⟩)) (fun h => absurd rfl h) (fun _ _ _ => by omega) (fun q' h1 h2 => less_w T.some1 hr (.inl ?_) h1 h2)
    · refine T.trOne (H := False) _ _ (by rw [hr]; rfl) (by rw [hr]; simp [deafBehind, Role.dd, rdE, wrE]) (fun k e he => ?_) (fun h => h.elim)
      match k, he with
      | 0, he =>
        obtain rfl : rdE ⟨b, o, none⟩ = e := by simpa using he
        exact ⟨mayBook T hon (T.notDd hnq) hi (.inl rfl) false (.inl rfl) _ _ _, by simp [rdE]⟩
      | 1, he =>
        obtain rfl : wrE ⟨b, o, none⟩ = e := by simpa using he
        exact ⟨mayBook T hon (T.notDd hnq) hi (.inl rfl) true (.inl rfl) _ _ _, by simp [wrE]⟩
      | k + 2, he => simp at he
    · intro _
      unfold WgOk
      rw [upd_same]
      exact .inl ⟨last_w hr h1, .inl ⟨by rw [cnt_w T.some1 hr]; omega, by rw [cnt_w T.some1 hr]; exact hw'⟩⟩
    · simp only [rankW, upd_same, hr, hc, if_true]; omega
  · obtain ⟨g', hgo, m, hm⟩ := hn hc
    refine T.waitGo hA hS (s' := .w1a) (n' := m) hi hr hgo (by simp [deafBehind, rdE, Role.dd]) (fun k e he => ?_) hm (fun c => pre_pre T.some1 hr rfl rfl (T.wg c)) (fun e => by cases e) (.inl ?_)
    · obtain rfl : e = rdE ⟨b, o, none⟩ := by simpa using Array.mem_of_getElem? he
      exact ⟨by simp [rdE], .inr (.inl rfl)⟩
    · simp only [rankW, upd_same, hr, if_neg (Ne.symm hc)]; omega
theorem Town.w3Stop (T : Town P C b o Anch Fin who rel ρ q gs w t) (hA : ∀ g w, Anch g w → g.status = .running) (hS : StillSelf ρ gs w) {g : Goroutine} (hi : gs[0]? = some g) (hr : ρ 0 = .wait .w3) (hq : 0 < q 0) (h : ∀ w₁, RB C b o 0 w w₁ → AtW3 P C b o Fin g w₁) : Moves P C b o Anch Fin who rel ρ q gs w sl t 0 := by
  have hat := h w (RB.refl 0 w)
  have hon : C.on := T.isOn (i := 0) (by rw [hr]; exact id)
  have hnq : ∀ d, ρ 0 ≠ .quit d := by rw [hr]; simp
  have hu : upd ρ 0 (.wait .w3) = ρ := by
    funext j
    by_cases e : j = 0
    · subst e; rw [upd_same, hr]
    · rw [upd_ne _ _ e]
  have hblk : ∀ s, WgIs b o w s 0 → Moves P C b o Anch Fin who rel ρ q gs w sl t 0 := fun s hw => by
    refine T.waitGo hA hS (s' := .w3) (n' := 0) hi hr (hat.2.2.1 ⟨s, hw⟩) rfl (fun k e he => by simp at he) (.inr ⟨rfl, g, hat, rfl, h⟩) (by rw [hu]; exact T.wg) (fun _ h01 => ?_) (.inr ⟨by rw [hu], hq⟩)
    have := (hw.uniq h01).2
    omega
  have hw := T.wg hon
  unfold WgOk at hw
  rw [hr] at hw
  rcases hw with ⟨hl, ⟨_, hw⟩ | ⟨hc, hw⟩⟩ | ⟨_, i, _, ⟨_, hw⟩ | ⟨_, hw⟩⟩
  · exact hblk _ hw
  · obtain ⟨g', hgo, m, hm⟩ := hat.2.2.2 hw
    have hw' := hw.setSm 0
    refine T.moves hA hS (r' := .wait .w4) (n' := m) (who' := who) (rel' := rel) hi (by rw [hr]; rfl) hgo ((out_setCell w b (o + 1) _).mono (sh_st T hon (.inr rfl))) (fun j _ => T.rb_set hon (.inr rfl) ⟨_, _, hw'⟩ j) (fun p h e => by cases e) (fun p h e => by cases e) rfl (.inl rfl) (by rw [hr]; exact fun e => by cases e) ⟨rfl, hm⟩ ?_ (.inr ⟨hon, hnq⟩) ?_ (Nat.zero_le _) (.inr (by rw [hr]; exact fun p h e => by cases e)) (by rw [hr]; exact .inr (.inr ⟨_, _, rfl, rfl⟩)) (fun h => absurd rfl h) (fun _ e => by cases e) (fun q' h1 h2 => less_w T.some1 hr (.inl ?_) h1 h2)
    · exact T.trOne (H := False) _ _ (by rw [hr]; rfl) (by rw [hr]; simp [deafBehind, Role.dd, semEvents]) (sem_may T hon hnq hi (by rw [hr]; rfl) _ _) (fun h => h.elim)
    · intro _
      unfold WgOk
      rw [upd_same]
      exact ⟨last_w hr hl, (cnt_w T.some1 hr).trans hc, hw'⟩
    · simp only [rankW, upd_same, hr]; omega
  · exact hblk _ hw
  · exact hblk _ hw
theorem Town.w4Stop (T : Town P C b o Anch Fin who rel ρ q gs w t) (hA : ∀ g w, Anch g w → g.status = .running) (hS : StillSelf ρ gs w) {g : Goroutine} (hi : gs[0]? = some g) (hr : ρ 0 = .wait .w4) (h : AtW4 P C b o Fin g w) : Moves P C b o Anch Fin who rel ρ q gs w sl t 0 := by
  have hon : C.on := T.isOn (i := 0) (by rw [hr]; exact id)
  have hnq : ∀ d, ρ 0 ≠ .quit d := by rw [hr]; simp
  have hw := T.wg hon
  unfold WgOk at hw
  rw [hr] at hw
  obtain ⟨g', hgo, m, hm⟩ := h.2 hw.2.2
  refine T.waitGo hA hS (s' := .w5) (n' := m) hi hr hgo (by simp [deafBehind, rdE, Role.dd]) (fun k e he => ?_) hm ?_ (fun e => by cases e) (.inl (by simp only [rankW, upd_same, hr]; omega))
  · obtain rfl : e = rdE ⟨b, o, none⟩ := by simpa using Array.mem_of_getElem? he
    exact ⟨by simp [rdE], .inr (.inl rfl)⟩
  · intro _
    unfold WgOk
    rw [upd_same]
    exact ⟨last_w hr hw.1, (cnt_w T.some1 hr).trans hw.2.1, hw.2.2⟩
theorem Town.w5Stop (T : Town P C b o Anch Fin who rel ρ q gs w t) (hA : ∀ g w, Anch g w → g.status = .running) (hS : StillSelf ρ gs w) {g : Goroutine} (hi : gs[0]? = some g) (hr : ρ 0 = .wait .w5) (h : AtKe P C b o Fin g w) : Moves P C b o Anch Fin who rel ρ q gs w sl t 0 := by
  have hon : C.on := T.isOn (i := 0) (by rw [hr]; exact id)
  have hnq : ∀ d, ρ 0 ≠ .quit d := by rw [hr]; simp
  have hw := T.wg hon
  unfold WgOk at hw
  rw [hr] at hw
  obtain ⟨_, g', hgo, m, hm⟩ := h
  refine T.waitGo hA hS (s' := .w6) (n' := m) hi hr hgo rfl (fun k e he => ?_) hm ?_ (fun e => by cases e) (.inl (by simp only [rankW, upd_same, hr]; omega))
  · obtain rfl : e = mkE .enable := by simpa using Array.mem_of_getElem? he
    exact ⟨by simp [mkE], .inl rfl⟩
  · intro _
    unfold WgOk
    rw [upd_same]
    exact ⟨last_w hr hw.1, (cnt_w T.some1 hr).trans hw.2.1, hw.2.2⟩
theorem Town.reTag (T : Town P C b o Anch Fin who rel ρ q gs w t) {g : Goroutine} {m : Nat} (hi : gs[0]? = some g) (hr : ρ 0 = .wait .w1a) (hm : Goes P true (RB C b o 0) (DW b o) (AtW1 P C b o Anch Fin) m g w) : Town P C b o Anch Fin who rel (upd ρ 0 (.wait .w1)) (upd q 0 m) gs w t := by
  have hlt := T.some1
  refine ⟨T.ok, T.ad, T.shs, T.grs, fun j hj => ?_, T.old, T.plain, T.inb, T.inbo, ?_, fun i y hy => ?_, fun i hi' => ?_, fun i p home e => ?_, fun i j p p' h h' e e' => ?_, fun i p home e => ?_, fun i k d e => ?_, fun x hx => ?_, by rw [cnt_w hlt hr]; exact T.few, fun c => pre_pre hlt hr rfl rfl (T.wg c), fun c => absurd (T.isOn (i := 0) (by rw [hr]; exact id)) c, hlt, fun e => by rw [upd_same] at e; cases e⟩
  · rw [upd_ne _ _ (fun e => by subst e; obtain ⟨d, e⟩ := T.dds _ hj; rw [hr] at e; cases e)]
    exact T.dds j hj
  · rw [upd_loose (by rw [hr]; rfl)]
    have : (fun j => (upd ρ 0 (.wait .w1) j).dd) = fun j => (ρ j).dd := by
      funext j
      by_cases e : j = 0
      · subst e; rw [upd_same, hr]; rfl
      · rw [upd_ne _ _ e]
    rw [this]; exact T.tr
  · by_cases e : i = 0
    · subst e
      rw [hi] at hy; obtain rfl := some_inj hy
      rw [upd_same, upd_same]
      exact ⟨rfl, hm⟩
    · rw [upd_ne _ _ e, upd_ne _ _ e]; exact T.roles i y hy
  · rw [upd_ne _ _ (by omega)]; exact T.above i hi'
  · by_cases e' : i = 0
    · subst e'; rw [upd_same] at e; cases e
    · rw [upd_ne _ _ e'] at e; exact T.chans i p home e
  · have h1 : i ≠ 0 := fun x => by subst x; rw [upd_same] at e; cases e
    have h2 : j ≠ 0 := fun x => by subst x; rw [upd_same] at e'; cases e'
    rw [upd_ne _ _ h1] at e
    rw [upd_ne _ _ h2] at e'
    exact T.apart i j p p' h h' e e'
  · have h1 : i ≠ 0 := fun x => by subst x; rw [upd_same] at e; cases e
    rw [upd_ne _ _ h1] at e
    exact T.shuts i p home e
  · have h1 : i ≠ 0 := fun x => by subst x; rw [upd_same] at e; cases e
    rw [upd_ne _ _ h1] at e
    exact T.one i k d e
  · by_cases e : x = 0
    · exact .inl e
    · rw [upd_ne _ _ e]; exact T.holder x hx
theorem Town.byWait (T : Town P C b o Anch Fin who rel ρ q gs w t) (hA : ∀ g w, Anch g w → g.status = .running) (hAW : ∀ g w, Anch g w → ∃ m, Goes P true (RB C b o 0) (DW b o) (AtW1 P C b o Anch Fin) m g w) (hS : StillSelf ρ gs w) {g : Goroutine} {s : Tag} (hi : gs[0]? = some g) (hr : ρ 0 = .wait s) (hrun : g.status = .running) :
    Moves P C b o Anch Fin who rel ρ q gs w sl t 0 ∨ (s = .w6 ∧ AtAcq P b o Fin g w) := by
  have hrole := T.roles 0 g hi
  rw [hr] at hrole
  have hW := hrole.2
  cases s with
  | w0 =>
    left
    rcases Goes.cases (show Goes _ _ _ _ _ _ _ _ from hW) with hstop | ⟨n', hn, hst⟩
    · exact T.w0Stop hA hS hi hr (hstop w (RB.refl 0 w))
    · obtain ⟨g', w', es, hgo, ⟨rfl, hes⟩, hg'⟩ := hst w (RB.refl 0 w)
      exact T.waitWay hA hS (n' := n') hi hr hgo hes hg' (by omega) (fun e => by cases e)
  | w1a =>
    left
    rcases Goes.cases (show Goes _ _ _ _ _ _ _ _ from hW) with hstop | ⟨n', hn, hst⟩
    · obtain ⟨m, hm⟩ := hAW g w (hstop w (RB.refl 0 w))
      have T' := T.reTag hi hr hm
      have hS' : StillSelf (upd ρ 0 (.wait .w1)) gs w := fun x y hx hy => hS x y (by
        by_cases e : x = 0
        · subst e; rw [upd_same] at hx; cases hx
        · rw [upd_ne _ _ e] at hx; exact hx) hy
      have key : Moves P C b o Anch Fin who rel (upd ρ 0 (.wait .w1)) (upd q 0 m) gs w sl t 0 := by
        rcases hm.cases with hstop' | ⟨n', hn, hst⟩
        · exact T'.w1Stop hA hS' hi (upd_same _ _ _) (hstop' w (RB.refl 0 w))
        · obtain ⟨g', w', es, hgo, ⟨rfl, hes⟩, hg'⟩ := hst w (RB.refl 0 w)
          exact T'.waitWay hA hS' (n' := n') hi (upd_same _ _ _) hgo hes hg' (by rw [upd_same]; omega) (fun e => by cases e)
      obtain ⟨gs', w', ops, ρ', q', who', rel', k1, k2, k3, k4, k5, k6, k7, k8, k9, k10⟩ := key
      refine ⟨gs', w', ops, ρ', q', who', rel', k1, k2, k3, lex4_trans _ _ _ k4 (less_w T.some1 hr (.inl ?_) (upd_same _ _ _) (fun j hj _ => upd_ne _ _ hj)), k5, fun j => ?_, fun ⟨x, hx⟩ => k7 ⟨x, ?_⟩, fun x hx => k8 x ?_, fun j hj hw => (k9 j hj (by rw [upd_ne _ _ hj]; exact hw)).trans (upd_ne _ _ hj), .inr fun p home e => (by rw [hr] at e; cases e), fun hc => by
        rcases hc 0 with h | ⟨d, h⟩ | h <;> rw [hr] at h <;> cases h⟩
      · simp only [rankW, upd_same, hr]; omega
      · exact (adv_upd (ρ := ρ) (i := 0) (r' := .wait .w1) (by rw [hr]; exact .inr (.inr ⟨_, _, rfl, rfl⟩)) j).trans (k6 j)
      · rw [upd_ne _ _ (fun e => by subst e; rw [hr] at hx; cases hx)]; exact hx
      · rw [upd_ne _ _ (fun e => by subst e; rw [hr] at hx; cases hx)]; exact hx
    · obtain ⟨g', w', es, hgo, ⟨rfl, hes⟩, hg'⟩ := hst w (RB.refl 0 w)
      exact T.waitWay hA hS (n' := n') hi hr hgo hes hg' (by omega) (fun e => by cases e)
  | w1 =>
    left
    rcases Goes.cases (show Goes _ _ _ _ _ _ _ _ from hW) with hstop | ⟨n', hn, hst⟩
    · exact T.w1Stop hA hS hi hr (hstop w (RB.refl 0 w))
    · obtain ⟨g', w', es, hgo, ⟨rfl, hes⟩, hg'⟩ := hst w (RB.refl 0 w)
      exact T.waitWay hA hS (n' := n') hi hr hgo hes hg' (by omega) (fun e => by cases e)
  | w2 v =>
    left
    rcases Goes.cases hW.2 with hstop | ⟨n', hn, hst⟩
    · exact T.w2Stop hA hS hi hr hW.1 (hstop w (RB.refl 0 w))
    · obtain ⟨g', w', es, hgo, ⟨rfl, hes⟩, hg'⟩ := hst w (RB.refl 0 w)
      exact T.waitWay hA hS (n' := n') hi hr hgo hes ⟨hW.1, hg'⟩ (by omega) (fun e => by cases e)
  | w3 =>
    left
    rcases hW with ⟨k, hk, hg⟩ | ⟨_, g₀, _, rfl, _⟩
    · rcases hg.cases with hstop | ⟨n', hn, hst⟩
      · exact T.w3Stop hA hS hi hr (by omega) hstop
      · obtain ⟨g', w', es, hgo, ⟨rfl, hes⟩, hg'⟩ := hst w (RB.refl 0 w)
        exact T.waitWay hA hS (n' := n' + 1) hi hr hgo hes (.inl ⟨n', rfl, hg'⟩) (by omega) (fun e => by omega)
    · cases hrun
  | w4 =>
    left
    rcases Goes.cases (show Goes _ _ _ _ _ _ _ _ from hW) with hstop | ⟨n', hn, hst⟩
    · exact T.w4Stop hA hS hi hr (hstop w (RB.refl 0 w))
    · obtain ⟨g', w', es, hgo, ⟨rfl, hes⟩, hg'⟩ := hst w (RB.refl 0 w)
      exact T.waitWay hA hS (n' := n') hi hr hgo hes hg' (by omega) (fun e => by cases e)
  | w5 =>
    left
    rcases Goes.cases (show Goes _ _ _ _ _ _ _ _ from hW) with hstop | ⟨n', hn, hst⟩
    · exact T.w5Stop hA hS hi hr (hstop w (RB.refl 0 w))
    · obtain ⟨g', w', es, hgo, ⟨rfl, hes⟩, hg'⟩ := hst w (RB.refl 0 w)
      exact T.waitWay hA hS (n' := n') hi hr hgo hes hg' (by omega) (fun e => by cases e)
  | w6 =>
    rcases Goes.cases (show Goes _ _ _ _ _ _ _ _ from hW) with hstop | ⟨n', hn, hst⟩
    · exact .inr ⟨rfl, hstop w (RB.refl 0 w)⟩
    · left
      obtain ⟨g', w', es, hgo, ⟨rfl, hes⟩, hg'⟩ := hst w (RB.refl 0 w)
      exact T.waitWay hA hS (n' := n') hi hr hgo hes hg' (by omega) (fun e => by cases e)
end
end Go.Town
namespace Go.Town
open Go Go.Conc
open Go.ConcN (sumTo upd sumTo_upd upd_ne upd_same sumTo_congr le_sumTo)
def Ends (P : Program) (Post : Value → World → Prop) (m : Machine) (t : Trace) : Prop :=
  ∃ N last o w' t', runNT P (N + 1) m t = (.ended o w', t') ∧ runN P N m = .next last ∧ step P last = .ended o w' ∧ Good P Post last o w' t'
theorem Ends.step {P : Program} {Post : Value → World → Prop} {m m' : Machine} {t ops : Trace} (h : stepT P m = (.next m', ops)) (k : Ends P Post m' (t ++ ops)) : Ends P Post m t := by
  obtain ⟨N, last, o, w', t', h1, h2, h3, h4⟩ := k
  refine ⟨N + 1, last, o, w', t', ?_, ?_, h3, h4⟩
  · rw [runNT]; simp only [h]; exact h1
  · rw [runN]; simp only [Go.step, h]; exact h2
theorem Ends.last {P : Program} {Post : Value → World → Prop} {m : Machine} {o : Outcome} {w' : World} {t ops : Trace} (h : stepT P m = (.ended o w', ops)) (k : Good P Post m o w' (t ++ ops)) : Ends P Post m t :=
  ⟨0, m, o, w', t ++ ops, by simp only [runNT, h], rfl, by simp only [Go.step, h], k⟩
theorem Walk.mono {P : Program} {main : Bool} {R : World → World → Prop} {D D' : World → World → Array Event → Prop} {Stop : Goroutine → World → Prop} (hD : ∀ w w' es, D w w' es → D' w w' es) {g : Goroutine} {w : World} (h : Walk P main R D Stop g w) : Walk P main R D' Stop g w := by
  induction h with
  | stop h => exact .stop h
  | step ng nw ne hr h1 h2 ih => exact .step ng nw ne hr (fun w₁ h₁ => ⟨(h1 w₁ h₁).1, hD _ _ _ (h1 w₁ h₁).2⟩) ih
theorem Walk.of_goes {P : Program} {main : Bool} {R : World → World → Prop} {D : World → World → Array Event → Prop} {Stop : Goroutine → World → Prop} : ∀ {n : Nat} {g : Goroutine} {w : World}, Goes P main R D Stop n g w → Walk P main R D Stop g w
  | 0, _, _, h => .stop h
  | _ + 1, _, _, h => h.elim .stop fun ⟨hs, h⟩ => Walk.of_step hs fun w₁ h₁ => by
      obtain ⟨g', w', es, e, hd, hg⟩ := goes_elim (h w₁ h₁)
      exact ⟨g', w', es, e, hd, Walk.of_goes hg⟩
structure DH (C : Cfg) (w w' : World) (es : Array Event) : Prop where
  mov : Mov (hidOf C) (frzOf C) w w' es
  objs : ∀ r, (∃ g, C.Pv g (.obj r) ∨ C.St g (.obj r)) → w'.heap[r]? = w.heap[r]?
  evo : ∀ e ∈ es, ∀ r, e.loc = .obj r → ∀ g, ¬ C.Pv g (.obj r) ∧ (C.St g (.obj r) → e.write = false)
theorem dh_of_mov {C : Cfg} (hno : ∀ g r, ¬ C.Pv g (.obj r) ∧ ¬ C.St g (.obj r)) {w w' : World} {es : Array Event} (h : Mov (hidOf C) (frzOf C) w w' es) : DH C w w' es :=
  ⟨h, fun r ⟨g, hg⟩ => (hg.elim (fun x => absurd x (hno g r).1) fun x => absurd x (hno g r).2), fun _ _ r _ g => ⟨(hno g r).1, fun x => absurd x (hno g r).2⟩⟩
section
variable {P : Program} {C : Cfg} {b o : Nat} {Anch Fin : Goroutine → World → Prop} {who who' : Option Nat} {rel rel' : Nat → Prop} {ρ : Nat → Role} {q : Nat → Nat} {gs : Array Goroutine} {w w' : World} {t u : Trace} {sl : Option (Nat × Nat)}
theorem upd_id {i : Nat} {r : Role} (h : ρ i = r) : upd ρ i r = ρ := by
  funext j
  by_cases e : j = i
  · subst e; rw [upd_same, h]
  · rw [upd_ne _ _ e]
theorem mayHold (T : Town P C b o Anch Fin who rel ρ q gs w t) {h : Nat} {e : Event} {top : Nat} (he : EvM (hidOf C) (frzOf C) top e) (ho : ∀ r, e.loc = .obj r → ∀ g, ¬ C.Pv g (.obj r) ∧ (C.St g (.obj r) → e.write = false)) (heard : Prop) (fn : FuncId) (pos : String) :
    MayOp C (fun j => (ρ j).loose = true) gs.size h True heard { g := h, fn, pos, act := .ofEvent e } ∧ ∀ x, e.loc ≠ .mark (.release x) := by
  obtain ⟨loc, wr, sy⟩ := e
  unfold EvM at he
  cases loc with
  | cell a =>
    obtain ⟨h1, h2, h3, h4⟩ := he
    simp only at h1 h2 h3 h4
    subst h2
    have sp : ∀ g, C.Pv g (.cell a) ∨ C.St g (.cell a) → ∃ x k, a = ⟨x, k, none⟩ := fun g hg => by
      rcases T.plain g _ hg.symm with ⟨x, k, e⟩ | ⟨r, e⟩
      · injection e with e; exact ⟨x, k, e⟩
      · cases e
    refine ⟨.hold (b := ⟨.cell a, wr, .plain⟩) (by cases wr <;> rfl) trivial (fun hs => ?_) (fun hs => ?_) (fun g hg => ?_) (fun g hg => ?_), by simp⟩
    · have hs' : C.Sh (.cell a) := hs
      rcases ((T.shs _).1 hs').2 with e | e <;> injection e with e <;> subst e
      · exact h3 (.inl hs')
      · exact h3 (.inl hs')
    · obtain ⟨x, k, e, _⟩ := T.grs _ (show C.Gr (.cell a) from hs)
      injection e with e; subst e
      exact h3 (.inr (.inl hs))
    · obtain ⟨x, k, rfl⟩ := sp g (.inl hg)
      exact h3 (.inr (.inr ⟨g, hg⟩))
    · obtain ⟨x, k, rfl⟩ := sp g (.inr hg)
      cases wr with
      | false => rfl
      | true => exact absurd ⟨g, hg⟩ (h4 rfl)
  | obj r =>
    obtain ⟨_, h2⟩ := he
    simp only at h2
    have ho' := ho r rfl
    refine ⟨.hold (b := ⟨.obj r, wr, if sy then .atomic else .plain⟩) ?_ trivial (fun hs => ?_) (fun hs => ?_) (fun g => (ho' g).1) (fun g => (ho' g).2), by simp⟩
    · cases wr with
      | false => cases sy <;> rfl
      | true => cases sy with
        | false => rfl
        | true => exact absurd (h2 rfl) (by simp)
    · rcases ((T.shs _).1 hs).2 with e | e <;> cases e
    · obtain ⟨x, k, e, _⟩ := T.grs _ hs; cases e
  | mark m =>
    cases m <;> first | exact he.elim | exact ⟨.mute rfl, by simp⟩
  | output => exact he.elim
  | goroutines => exact he.elim
theorem evM_deaf {e : Event} {top : Nat} {hid frz : Nat → Nat → Prop} (he : EvM hid frz top e) : e.loc ≠ .mark .disable ∧ e.loc ≠ .mark .enable := by
  obtain ⟨loc, wr, sy⟩ := e
  unfold EvM at he
  cases loc with
  | mark m => cases m <;> first | exact he.elim | simp
  | _ => simp
theorem Town.own {h : Nat} (T : Town P C b o Anch Fin (some h) rel ρ q gs w t) (hA : ∀ g w, Anch g w → g.status = .running) {k d : Nat} (hr : ρ h = .self k d) {a a' : Goroutine} {es : Array Event} (hi : gs[h]? = some a) (hd : DH C w w' es) :
    ∃ q', Town P C b o Anch Fin (some h) rel ρ q' ((gs.map (woken P a a' w')).setIfInBounds h a') w' (t ++ MemOp.ofEvents h a.frame.fn a.frame.place es) := by
  have hlt : h < gs.size := (Array.getElem?_eq_some_iff.1 hi).1
  have hkeep : C.on → ∀ s m, WgIs b o w s m ↔ WgIs b o w' s m := fun c s m => by
    obtain ⟨s₀, m₀, h₀⟩ := (T.wg c).live
    have e0 := hd.mov.cell (.inl (.inl ((T.shs _).2 ⟨c, .inl rfl⟩))) (block_lt h₀.st)
    have e1 := hd.mov.cell (.inl (.inl ((T.shs _).2 ⟨c, .inr rfl⟩))) (block_lt h₀.sm)
    exact ⟨fun h => h.keep e0 e1, fun h => h.keep ⟨e0.1.symm, e0.2.symm⟩ ⟨e1.1.symm, e1.2.symm⟩⟩
  have hrb : ∀ j, RB C b o j w w' := fun j => ⟨fun c ⟨s, m, h⟩ => ⟨s, m, (hkeep c s m).1 h⟩, fun x k hx => hd.mov.cell (hx.elim (fun h => .inl (.inr (.inr ⟨j, h⟩))) fun h => .inr ⟨j, h⟩) (T.inb j x k hx), fun r hx => hd.objs r ⟨j, hx⟩⟩
  have hu := upd_id hr
  obtain ⟨q', T', _⟩ := T.step hA (a := a) (a' := a') (g' := a') (r' := .self k d) (n' := 0) (who' := some h) (rel' := rel) (u := MemOp.ofEvents h a.frame.fn a.frame.place es) hi (fun j _ => hrb j) hd.mov.size (fun r ob h1 h2 h3 => hd.mov.chan r ob h1 h3)
    (fun r hr => by obtain ⟨ob, h1, h2⟩ := T.inbo h r hr; exact ⟨ob, ((hrb h).objs r hr).trans h1, h2⟩) (fun p h' e => by cases e) (fun p h' e => by cases e) (by rw [hu]; exact T.one) (by rw [hu]; exact T.holder) trivial
    (by
      refine T.trOne (H := True) _ _ (by rw [hr]) (by rw [hr]; exact deafBehind_still (fun e he => evM_deaf (hd.mov.evs e he)) _) (fun j e he => ?_) (fun _ => rfl)
      have := Array.mem_of_getElem? he
      exact mayHold T (hd.mov.evs e this) (hd.evo e this) _ _ _)
    (by rw [hu]; exact fun c => (T.wg c).keep fun s m h => (hkeep c s m).1 h) (fun c => by have := T.off c h; rw [hr] at this; exact this) (fun hd' => absurd hd' (T.notDd (by rw [hr]; simp))) (by rw [hu]; exact T.few) (fun _ h3 h => .inl ((hkeep (T.isOn (i := 0) (by rw [h3]; exact id)) 0 1).2 h)) (fun _ e => by cases e)
  rw [hu] at T'
  exact ⟨q', T'⟩
theorem Town.byAny (T : Town P C b o Anch Fin who rel ρ q gs w t) (hA : ∀ g w, Anch g w → g.status = .running) (hAW : ∀ g w, Anch g w → ∃ m, Goes P true (RB C b o 0) (DW b o) (AtW1 P C b o Anch Fin) m g w) (hS : StillSelf ρ gs w) {i : Nat} {g : Goroutine} (hi : gs[i]? = some g) (hns : (ρ i).isSelf = false) (hrun : g.status = .running)
    (hopp : ∀ p home, (ρ i = .seat p home ∨ ρ i = .shut p home) → ∀ (x : Nat) (y : Goroutine), (ρ x).isSelf = true → gs[x]? = some y → offersAt y p.chan (!p.out) = []) : Moves P C b o Anch Fin who rel ρ q gs w sl t i ∨ (i = 0 ∧ ρ 0 = .wait .w6 ∧ AtAcq P b o Fin g w) := by
  by_cases hw : ∃ s, ρ i = .wait s
  · obtain ⟨s, hs⟩ := hw
    have hrole := T.roles i g hi
    rw [hs] at hrole
    obtain ⟨rfl, _⟩ := hrole
    rcases T.byWait (sl := sl) hA hAW hS hi hs hrun with h | ⟨rfl, h⟩
    · exact .inl h
    · exact .inr ⟨rfl, hs, h⟩
  · exact .inl (T.byOne hA hS hi hns (fun s h => hw ⟨s, h⟩) hrun hopp)
theorem Town.awakeAll (T : Town P C b o Anch Fin who rel ρ q gs w t) (hA : ∀ g w, Anch g w → g.status = .running) (hs : ∀ x y, (ρ x).isSelf = true → gs[x]? = some y → Go.Conc.awake y) : ∀ g ∈ gs, Go.Conc.awake g := by
  intro g hg
  obtain ⟨i, hi⟩ := Array.mem_iff_getElem?.1 hg
  cases hsf : (ρ i).isSelf with
  | true => exact hs i g hsf hi
  | false =>
    rcases (T.roles i g hi).status hA hsf with h | h | ⟨h, _⟩
    · exact awake_of (.inl h)
    · exact awake_of (.inr (.inr h))
    · exact awake_of (.inr (.inl h))
theorem still_running {h : Nat} (T : Town P C b o Anch Fin (some h) rel ρ q gs w t) {a : Goroutine} (hi : gs[h]? = some a) (hrun : a.status = .running) : StillSelf ρ gs w := by
  intro x y hx hy w' _
  cases hr : ρ x <;> rw [hr] at hx <;> try (cases hx; done)
  have := T.one x _ _ hr
  obtain rfl := some_inj this
  rw [hi] at hy
  obtain rfl := some_inj hy
  exact again_running _ (.inl hrun)
theorem hold {Post : Value → World → Prop} (hA : ∀ g w, Anch g w → g.status = .running) (hAW : ∀ g w, Anch g w → ∃ m, Goes P true (RB C b o 0) (DW b o) (AtW1 P C b o Anch Fin) m g w) {Stop : Goroutine → World → Prop} {h k d : Nat} (hc : h = 0 ∨ 0 < k) {a : Goroutine} {w₀ : World}
    (hW : Walk P (h == 0) (Out (hidOf C)) (DH C) Stop a w₀) :
    ∀ {rel : Nat → Prop} {ρ : Nat → Role} {q : Nat → Nat} {gs : Array Goroutine} {w : World} {sl : Option (Nat × Nat)} {t : Trace}, Town P C b o Anch Fin (some h) rel ρ q gs w t → ρ h = .self k d → gs[h]? = some a → Out (hidOf C) w₀ w →
      (∀ rel' ρ' q' gs' a' w' sl' t', Town P C b o Anch Fin (some h) rel' ρ' q' gs' w' t' → ρ' h = .self k d → gs'.size = gs.size → gs'[h]? = some a' → Stop a' w' → (∀ j, Adv (ρ j) (ρ' j)) → (Hush ρ → rel' = rel ∧ Hush ρ') → Ends P Post (crowd gs' w' sl') t') → Ends P Post (crowd gs w sl) t := by
  induction hW with
  | stop hst => exact fun T hr hi ho next => next _ _ _ _ _ _ _ _ T hr rfl hi (hst _ ho) (fun j => .rfl' _) (fun h => ⟨rfl, h⟩)
  | @step a w₀ ng nw ne hrun h1 h2 ih =>
    intro rel ρ q gs w sl t T hr hi ho next
    generalize hμ : meas ρ q gs.size = μ
    induction lex4_wf.apply μ generalizing rel ρ q gs w sl t with
    | intro μ _ ihμ =>
      have haw := T.awakeAll hA (fun x y hx hy => by
        cases hr' : ρ x <;> rw [hr'] at hx <;> try (cases hx; done)
        obtain rfl := some_inj (T.one x _ _ hr')
        rw [hi] at hy
        obtain rfl := some_inj hy
        exact awake_of (.inl hrun))
      obtain ⟨i, g, dr, sl', hgi, hg, hst⟩ := crowd_pick (P := P) (w := w) (sl := sl) haw ⟨h, a, hi, hrun⟩
      have Td := T.at dr
      have hod : Out (hidOf C) w₀ (w.at dr) := ho.trans (Out.at _ w dr)
      by_cases e : i = h
      · subst e
        rw [hi] at hgi
        obtain rfl := some_inj hgi
        obtain ⟨hgo, hd⟩ := h1 _ hod
        obtain ⟨q', T'⟩ := Td.own hA hr (a' := ng (w.at dr)) hi hd
        have hlt : i < gs.size := (Array.getElem?_eq_some_iff.1 hi).1
        refine Ends.step (hst.trans (runT_crowd_go (sl := sl') hi hgo)) ?_
        refine ih _ hod T' hr (by simp [hlt]) (Out.refl _ _) fun rel' ρ' q' gs' a' w' sl' t' k1 k2 k3 k4 k5 k6 k7 => next rel' ρ' q' gs' a' w' sl' t' k1 k2 (by simpa using k3) k4 k5 k6 k7
      · have hns : (ρ i).isSelf = false := by
          cases hr' : ρ i <;> try rfl
          exact absurd (some_inj (T.one i _ _ hr')).symm e
        rcases Td.byAny (sl := sl') hA hAW (still_running Td hi hrun) hgi hns hg (fun p home _ x y hx hy => by
          cases hr' : ρ x <;> rw [hr'] at hx <;> try (cases hx; done)
          obtain rfl := some_inj (T.one x _ _ hr')
          rw [hi] at hy
          obtain rfl := some_inj hy
          exact offersAt_of_not_blocked (by rw [hrun]; simp) _ _) with hm | ⟨rfl, hw6, _⟩
        · obtain ⟨gs', w', ops, ρ', q', who', rel', k1, k2, k3, k4, k5, k6, k7, k8, _, _, kc⟩ := hm
          have hsf : (ρ h).isSelf = true := by rw [hr]; rfl
          have hwho := k7 ⟨h, hsf⟩
          subst hwho
          have hr' : ρ' h = .self k d := by
            rcases k6 h with x | ⟨x, _⟩ | ⟨s, s', x, _⟩
            · rw [x, hr]
            · rw [hr] at x; cases x
            · rw [hr] at x; cases x
          refine Ends.step (hst.trans k1) ?_
          refine ihμ (meas ρ' q' gs'.size) (by rw [← hμ, k2]; exact k4) k3 hr' (by rw [k8 h hsf]; exact hi) (hod.trans k5) (fun rel'' ρ'' q'' gs'' a'' w'' sl'' t'' j1 j2 j3 j4 j5 j6 j7 => next rel'' ρ'' q'' gs'' a'' w'' sl'' t'' j1 j2 (by rw [j3, k2]) j4 j5 (fun j => (k6 j).trans (j6 j)) fun h => ⟨(j7 (kc h).2).1.trans (kc h).1, (j7 (kc h).2).2⟩) rfl
        · exfalso
          have hwg := T.wg (T.isOn (i := 0) (by rw [hw6]; exact id))
          unfold WgOk at hwg
          rw [hw6] at hwg
          rcases hc with rfl | hc
          · rw [hr] at hw6; cases hw6
          · have := cnt_pos (ρ := ρ) (Array.getElem?_eq_some_iff.1 hi).1 (by rw [hr]; exact hc)
            omega
end
end Go.Town
