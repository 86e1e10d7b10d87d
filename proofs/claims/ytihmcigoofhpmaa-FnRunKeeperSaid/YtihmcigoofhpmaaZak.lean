/-
  The steps through Done that count: the release, the word of deafness, the atomic add, the waking; and the leaver's.
-/
import Derived.Test.YtihmcigoofhpmaaZaj
set_option linter.all false
namespace Go.Town
open Go Go.Conc
open Go.ConcN (sumTo upd sumTo_upd upd_ne upd_same sumTo_congr le_sumTo)
section
variable {P : Program} {C : Cfg} {b o : Nat} {Anch Fin : Goroutine → World → Prop} {who who' : Option Nat} {rel rel' : Nat → Prop} {ρ : Nat → Role} {q : Nat → Nat} {gs : Array Goroutine} {w w' : World} {t u : Trace} {sl : Option (Nat × Nat)}
theorem WgIs.uniq {s m s' m' : Int} (h : WgIs b o w s m) (k : WgIs b o w s' m') : s = s' ∧ m = m' := by
  have e1 := h.st.symm.trans k.st
  have e2 := h.sm.symm.trans k.sm
  simp only [Option.some.injEq, Value.int.injEq, true_and] at e1 e2
  exact ⟨e1, e2⟩
theorem before_new {t : Trace} {g i : Nat} {y : MemOp} (h : Knows t g i) (hg : y.g = g) : Before (t ++ #[y]) i t.size := .inr (h.hb_new (Nat.le_refl _) (by simp) hg)
theorem ofEvents_one (i : Nat) (fn : FuncId) (pos : String) (e : Event) : MemOp.ofEvents i fn pos #[e] = #[{ g := i, fn, pos, act := .ofEvent e }] := by rw [ofEvents_eq]; simp
theorem sh_st (T : Town P C b o Anch Fin who rel ρ q gs w t) (hon : C.on) {k : Nat} (hk : k = o ∨ k = o + 1) : ∀ x j, (x = b ∧ j = k) → hidOf C x j := fun x j ⟨h1, h2⟩ => .inl ((T.shs _).2 ⟨hon, by subst h1 h2; exact hk.imp (fun e => by rw [e]) (fun e => by rw [e])⟩)
theorem Town.doneStop (T : Town P C b o Anch Fin who rel ρ q gs w t) (hA : ∀ g w, Anch g w → g.status = .running) (hS : StillSelf ρ gs w) {i : Nat} {g : Goroutine} (hi : gs[i]? = some g) (hr : ρ i = .done) (hpos : 0 < i) (h : AtR0 P C b o i g w) : Moves P C b o Anch Fin who rel ρ q gs w sl t i := by
  have hlt : i < gs.size := (Array.getElem?_eq_some_iff.1 hi).1
  have hon : C.on := T.isOn (i := i) (by rw [hr]; exact id)
  have hnq : ∀ d, ρ i ≠ .quit d := by rw [hr]; simp
  obtain ⟨_, g', hgo, m, hg'⟩ := h
  have hu : MemOp.ofEvents i g.frame.fn g.frame.place #[mkE (.releaseMerge ⟨b, o, none⟩)] = #[{ g := i, fn := g.frame.fn, pos := g.frame.place, act := .mark (.releaseMerge C.ad) }] := by rw [ofEvents_one, T.ad]; rfl
  have hl : (fun x => (ρ x).loose = true ∧ x ≠ i) = fun j => (upd ρ i .rel j).loose = true := by
    funext x
    by_cases e : x = i
    · subst e; rw [upd_same]; simp [Role.loose]
    · rw [upd_ne _ _ e]; simp [e]
  have hd : (fun x => (ρ x).dd) = fun j => (upd ρ i .rel j).dd := by
    funext x
    by_cases e : x = i
    · subst e; rw [upd_same, hr]; rfl
    · rw [upd_ne _ _ e]
  have key : ∀ who', ((who' = who ∧ who ≠ some i) ∨ (who' = none ∧ who = some i)) → (∀ x, Acc who rel t x → Acc who' (fun p => rel p ∨ p = t.size) (t ++ MemOp.ofEvents i g.frame.fn g.frame.place #[mkE (.releaseMerge ⟨b, o, none⟩)]) x) → Moves P C b o Anch Fin who rel ρ q gs w sl t i := by
    intro who' hwho hK
    refine T.moves hA hS (w' := w) (r' := .rel) (n' := m) (who' := who') (rel' := fun p => rel p ∨ p = t.size) hi (by rw [hr]; rfl) (by rw [ne_zero_beq hpos]; exact hgo) (Out.refl _ _) (fun j _ => RB.refl j w) (fun p h e => by cases e) (fun p h e => by cases e) rfl (hwho.imp And.left id) (fun _ => .inr (hwho.elim (fun h => .inr h.2) fun h => .inl h.1)) ⟨hpos, hg'⟩ ?_ (.inr ⟨hon, hnq⟩) ?_ (by rw [hr]; exact Nat.le_refl _) (.inr (by rw [hr]; exact fun p h e => by cases e)) (by rw [hr]; exact .inr (.inl ⟨rfl, rfl⟩)) (fun _ _ h => .inl h) (fun e => by omega) (fun q' h1 h2 => less_role hlt (by rw [hr]; simp [Role.rank]))
    · have := (T.tr.release (u := MemOp.ofEvents i g.frame.fn g.frame.place #[mkE (.releaseMerge ⟨b, o, none⟩)]) (g := i) hK (by rw [hr]; rfl) g.frame.fn g.frame.place hu).1
      rw [hl, hd] at this
      exact this
    · exact fun c => (T.wg c).upd_same_count hlt (.inl (by omega)) (by rw [hr]; rfl) (by rw [hr]; rfl) (.inr rfl)
  by_cases hw : who = some i
  · refine key none (.inr ⟨rfl, hw⟩) fun x hx => ?_
    rw [hw] at hx
    refine ⟨t.size, .inr rfl, ?_⟩
    rw [hu]
    exact before_new hx rfl
  · exact key who (.inl ⟨rfl, hw⟩) fun x hx => Acc.app (fun p hp => .inl hp) hx
theorem Town.relStop (T : Town P C b o Anch Fin who rel ρ q gs w t) (hA : ∀ g w, Anch g w → g.status = .running) (hS : StillSelf ρ gs w) {i : Nat} {g : Goroutine} (hi : gs[i]? = some g) (hr : ρ i = .rel) (hpos : 0 < i) (h : AtK1 P C b o i g w) : Moves P C b o Anch Fin who rel ρ q gs w sl t i := by
  have hlt : i < gs.size := (Array.getElem?_eq_some_iff.1 hi).1
  have hon : C.on := T.isOn (i := i) (by rw [hr]; exact id)
  have hnq : ∀ d, ρ i ≠ .quit d := by rw [hr]; simp
  obtain ⟨_, g', hgo, m, hg'⟩ := h
  refine T.moves hA hS (w' := w) (r' := .deaf) (n' := m) (who' := who) (rel' := rel) hi (by rw [hr]; rfl) (by rw [ne_zero_beq hpos]; exact hgo) (Out.refl _ _) (fun j _ => RB.refl j w) (fun p h e => by cases e) (fun p h e => by cases e) rfl (.inl rfl) (by rw [hr]; exact fun e => by cases e) ⟨hpos, hg'⟩ ?_ (.inr ⟨hon, hnq⟩) ?_ (by rw [hr]; simp [Role.count]) (.inr (by rw [hr]; exact fun p h e => by cases e)) (by rw [hr]; exact .inr (.inl ⟨rfl, rfl⟩)) (fun _ _ h => .inl h) (fun e => by omega) (fun q' h1 h2 => less_role hlt (by rw [hr]; simp [Role.rank]))
  · refine T.trOne (H := False) _ _ (by rw [hr]; rfl) (by rw [hr]; rfl) (fun k e he => ?_) (fun h => h.elim)
    obtain rfl : e = mkE .disable := by simpa using Array.mem_of_getElem? he
    exact ⟨.mute rfl, by simp [mkE]⟩
  · exact fun c => (T.wg c).upd_same_count hlt (.inl (by omega)) (by rw [hr]; rfl) (by rw [hr]; rfl) (.inr rfl)
theorem Town.quitStep (T : Town P C b o Anch Fin who rel ρ q gs w t) (hA : ∀ g w, Anch g w → g.status = .running) (hS : StillSelf ρ gs w) {i : Nat} {g : Goroutine} {d : Nat} (hi : gs[i]? = some g) (hr : ρ i = .quit d) (hrun : g.status = .running) : Moves P C b o Anch Fin who rel ρ q gs w sl t i := by
  have hlt : i < gs.size := (Array.getElem?_eq_some_iff.1 hi).1
  have hrole := T.roles i g hi
  rw [hr] at hrole
  obtain ⟨hpos, hq⟩ := hrole
  cases hn : q i with
  | zero => rw [hn] at hq; rw [hq.1] at hrun; cases hrun
  | succ k =>
    rw [hn] at hq
    rcases hq with ⟨hf, _⟩ | ⟨_, g', es, hm, hst, hq'⟩
    · rw [hf] at hrun; cases hrun
    refine T.moves hA hS (w' := w) (r' := .quit (deafBehind d es)) (n' := k) (who' := who) (rel' := rel) hi (by rw [hr]; rfl) (by rw [ne_zero_beq hpos]; exact hst w) (Out.refl _ _) (fun j _ => RB.refl j w) (fun p h e => by cases e) (fun p h e => by cases e) rfl (.inl rfl) (by rw [hr]; exact fun e => by cases e) ⟨hpos, hq'⟩ ?_ (.inl ⟨⟨d, hr⟩, ⟨_, rfl⟩, rfl⟩) ?_ (by rw [hr]; simp [Role.count]) (.inr (by rw [hr]; exact fun p h e => by cases e)) (by rw [hr]; exact .inr (.inl ⟨rfl, rfl⟩)) (fun _ _ h => .inl h) (fun e => by omega) (fun q' h1 h2 => less_n hlt (by rw [hr]; rfl) (by simp [Role.rank]) (by omega) h2)
    · refine T.trOne (H := False) _ _ (by rw [hr]; rfl) (by rw [hr]; rfl) (fun j e he => ?_) (fun h => h.elim)
      have := hm e (Array.mem_of_getElem? he)
      refine ⟨.mute (touch_mute this), fun x hl => ?_⟩
      obtain ⟨loc, wr, sy⟩ := e
      simp only at hl
      subst hl
      simp [Event.mute] at this
    · exact fun c => (T.wg c).upd_same_count hlt (.inl (by omega)) (by rw [hr]; rfl) (by rw [hr]; rfl) (.inr rfl)
theorem no_last {i : Nat} {r' : Role} (h : ∀ j, (ρ j).isLast = false) (hr : r'.isLast = false) : ∀ j, (upd ρ i r' j).isLast = false := fun j => by
  by_cases e : j = i
  · subst e; rw [upd_same]; exact hr
  · rw [upd_ne _ _ e]; exact h j
theorem Town.deafStop (T : Town P C b o Anch Fin who rel ρ q gs w t) (hA : ∀ g w, Anch g w → g.status = .running) (hS : StillSelf ρ gs w) {i : Nat} {g : Goroutine} (hi : gs[i]? = some g) (hr : ρ i = .deaf) (hpos : 0 < i) (h : AtD1 P C b o i g w) : Moves P C b o Anch Fin who rel ρ q gs w sl t i := by
  have hlt : i < gs.size := (Array.getElem?_eq_some_iff.1 hi).1
  have hon : C.on := T.isOn (i := i) (by rw [hr]; exact id)
  have hnq : ∀ d, ρ i ≠ .quit d := by rw [hr]; simp
  have hc : 0 < cnt ρ gs.size := cnt_pos hlt (by rw [hr]; exact Nat.one_pos)
  obtain ⟨v, hv⟩ : ∃ v, cnt ρ gs.size = v + 1 := ⟨cnt ρ gs.size - 1, by omega⟩
  have hfew := T.few
  have h0 : (0 : Nat) ≠ i := by omega
  have hwg : (ρ 0 = .wait .w3 ∧ (∀ j, (ρ j).isLast = false) ∧ WgIs b o w ((v + 1 : Nat) * KK + (1 : Nat)) 0) ∨ ((∀ s, ρ 0 = .wait s → s ≠ .w3 ∧ s ≠ .w4 ∧ s ≠ .w5 ∧ s ≠ .w6) ∧ (∀ j, (ρ j).isLast = false) ∧ WgIs b o w ((v + 1 : Nat) * KK + (0 : Nat)) 0) := by
    have hw := T.wg hon
    unfold WgOk at hw
    split at hw <;> rename_i e
    · rcases hw with ⟨h1, ⟨h2, h3⟩ | ⟨h2, _⟩⟩ | ⟨h2, _⟩
      · refine .inl ⟨e, h1, ?_⟩
        rw [hv] at h3
        simpa using h3
      · omega
      · omega
    · omega
    · omega
    · omega
    · rename_i e1 e2 e3
      refine .inr ⟨fun s hs => ⟨?_, ?_, ?_, ?_⟩, hw.1, ?_⟩
      · rintro rfl; exact e1 hs
      · rintro rfl; exact e2 hs
      · rintro rfl; exact e3 hs
      · rintro rfl; exact e hs
      · have := hw.2
        rw [hv] at this
        simpa using this
  have hcnt : ∀ r' : Role, r'.count = 0 → cnt (upd ρ i r') gs.size = v := fun r' hr' => by
    have := cnt_upd (ρ := ρ) r' hlt
    rw [hr] at this
    simp only [show Role.deaf.count = 1 from rfl, hr'] at this
    omega
  have htr : ∀ r' : Role, r'.loose = false → r'.dd = 1 → Tr C (fun j => (upd ρ i r' j).loose = true) rel gs.size (fun j => (upd ρ i r' j).dd) (Acc who rel (t ++ MemOp.ofEvents i g.frame.fn g.frame.place #[rdE ⟨b, o, none⟩, wrE ⟨b, o, none⟩])) (t ++ MemOp.ofEvents i g.frame.fn g.frame.place #[rdE ⟨b, o, none⟩, wrE ⟨b, o, none⟩]) := fun r' h1 h2 => by
    refine T.trOne (H := False) _ _ (by rw [hr, h1]; rfl) (by rw [hr, h2]; simp [deafBehind, Role.dd, rdE, wrE]) (fun k e he => ?_) (fun h => h.elim)
    match k, he with
    | 0, he =>
      obtain rfl : rdE ⟨b, o, none⟩ = e := by simpa using he
      exact ⟨mayBook T hon (T.notDd hnq) hi (.inl rfl) false (.inr (notHeard T (by simp) (by rw [hr]; simp [deafBehind, Role.dd]))) _ _ _, by simp [rdE]⟩
    | 1, he =>
      obtain rfl : wrE ⟨b, o, none⟩ = e := by simpa using he
      exact ⟨mayBook T hon (T.notDd hnq) hi (.inl rfl) true (.inr (notHeard T (by simp) (by rw [hr]; simp [deafBehind, Role.dd, rdE]))) _ _ _, by simp [wrE]⟩
    | k + 2, he => simp at he
  obtain ⟨_, hD⟩ := h
  have go : ∀ (wt : Nat) (r' : Role) (n' : Nat) (g' : Goroutine), stepG P false g w = .go g' (w.setCell ⟨b, o, none⟩ (.int .u64 (v * KK + wt))) #[rdE ⟨b, o, none⟩, wrE ⟨b, o, none⟩] → WgIs b o w ((v + 1 : Nat) * KK + wt) 0 → r'.loose = false → r'.dd = 1 → r'.count = 0 → r'.isSelf = false → r'.leaving = true → r'.rank < 5 →
      InRole P C b o Anch Fin i r' n' g' (w.setCell ⟨b, o, none⟩ (.int .u64 (v * KK + wt))) → WgOk b o (upd ρ i r') gs.size (w.setCell ⟨b, o, none⟩ (.int .u64 (v * KK + wt))) → Moves P C b o Anch Fin who rel ρ q gs w sl t i := by
    intro wt r' n' g' hgo hw h1 h2 h3 h4 h5 h6 hrole hok
    have hw' := hw.setSt (v * KK + wt)
    refine T.moves hA hS (r' := r') (n' := n') (who' := who) (rel' := rel) hi (by rw [hr]; rfl) (by rw [ne_zero_beq hpos]; exact hgo) ((out_setCell w b o _).mono (sh_st T hon (.inl rfl))) (fun j _ => T.rb_set hon (.inl rfl) ⟨_, _, hw'⟩ j) (fun p h e => by rw [e] at h1; cases h1) (fun p h e => by rw [e] at h1; cases h1) h4 (.inl rfl) (by rw [hr]; exact fun e => by cases e) hrole (htr r' h1 h2) (.inr ⟨hon, hnq⟩) (fun _ => hok) (by rw [h3]; exact Nat.zero_le _) (.inr (by rw [hr]; exact fun p h e => by cases e)) (by rw [hr]; exact .inr (.inl ⟨rfl, h5⟩)) (fun _ _ h => ?_) (fun e => by omega) (fun q' _ _ => less_role hlt (by rw [hr]; exact h6))
    have := (hw'.uniq h).2
    omega
  rcases hwg with ⟨e3, hnl, hw⟩ | ⟨hns, hnl, hw⟩
  · obtain ⟨g', hgo, hy, hn⟩ := hD v 1 (by omega) (by omega) hw
    by_cases hv0 : v = 0
    · obtain ⟨m, hm⟩ := hy ⟨hv0, rfl⟩
      refine go 1 .last2 m g' hgo hw rfl rfl rfl rfl rfl (by simp [Role.rank]) ⟨hpos, hm⟩ ?_
      have hw' := hw.setSt (v * KK + (1 : Nat))
      unfold WgOk
      rw [upd_ne _ _ h0, e3]
      refine .inr ⟨by rw [hcnt _ rfl]; exact hv0, i, fun j hj => ?_, .inl ⟨.inl (upd_same _ _ _), ?_⟩⟩
      · by_cases e : j = i
        · exact e
        · rw [upd_ne _ _ e, hnl j] at hj; cases hj
      · subst hv0; simpa using hw'
    · obtain ⟨m, hm⟩ := hn (fun h => hv0 h.1)
      refine go 1 (.quit 1) m g' hgo hw rfl rfl rfl rfl rfl (by simp [Role.rank]) ⟨hpos, hm⟩ ?_
      have hw' := hw.setSt (v * KK + (1 : Nat))
      unfold WgOk
      rw [upd_ne _ _ h0, e3]
      refine .inl ⟨no_last hnl rfl, .inl ⟨by rw [hcnt _ rfl]; omega, ?_⟩⟩
      rw [hcnt _ rfl]; simpa using hw'
  · obtain ⟨g', hgo, _, hn⟩ := hD v 0 (by omega) (by omega) hw
    obtain ⟨m, hm⟩ := hn (fun h => by omega)
    refine go 0 (.quit 1) m g' hgo hw rfl rfl rfl rfl rfl (by simp [Role.rank]) ⟨hpos, hm⟩ ?_
    have hw' := hw.setSt (v * KK + (0 : Nat))
    unfold WgOk
    rw [upd_ne _ _ h0]
    split <;> rename_i e
    · exact absurd rfl (hns _ e).1
    · exact absurd rfl (hns _ e).2.1
    · exact absurd rfl (hns _ e).2.2.1
    · exact absurd rfl (hns _ e).2.2.2
    · refine ⟨no_last hnl rfl, ?_⟩
      rw [hcnt _ rfl]; simpa using hw'
theorem Town.lastAt (T : Town P C b o Anch Fin who rel ρ q gs w t) {i : Nat} (hl : (ρ i).isLast = true) : ρ 0 = .wait .w3 ∧ cnt ρ gs.size = 0 ∧ (∀ j, (ρ j).isLast = true → j = i) ∧ ((ρ i = .last2 ∨ ρ i = .last3) ∧ WgIs b o w 1 0 ∨ ρ i = .last4 ∧ WgIs b o w 0 0) := by
  have hon : C.on := T.isOn (i := i) (fun h => by cases hx : ρ i <;> rw [hx] at hl h <;> first | (cases hl; done) | exact h)
  have hw := T.wg hon
  unfold WgOk at hw
  split at hw <;> rename_i e
  · rcases hw with ⟨h1, _⟩ | ⟨h2, j, h3, h4⟩
    · rw [h1 i] at hl; cases hl
    · have := h3 i hl
      subst this
      exact ⟨e, h2, h3, h4⟩
  · rw [hw.1 i] at hl; cases hl
  · rw [hw.1 i] at hl; cases hl
  · rw [hw.1 i] at hl; cases hl
  · rw [hw.1 i] at hl; cases hl
theorem cnt_same {i n : Nat} {r' : Role} (hlt : i < n) (h : r'.count = (ρ i).count) : cnt (upd ρ i r') n = cnt ρ n := by
  have := cnt_upd (ρ := ρ) r' hlt
  rw [h] at this; omega
theorem Town.last2Stop (T : Town P C b o Anch Fin who rel ρ q gs w t) (hA : ∀ g w, Anch g w → g.status = .running) (hS : StillSelf ρ gs w) {i : Nat} {g : Goroutine} (hi : gs[i]? = some g) (hr : ρ i = .last2) (hpos : 0 < i) (h : AtD2 P C b o i g w) : Moves P C b o Anch Fin who rel ρ q gs w sl t i := by
  have hlt : i < gs.size := (Array.getElem?_eq_some_iff.1 hi).1
  have hon : C.on := T.isOn (i := i) (by rw [hr]; exact id)
  have hnq : ∀ d, ρ i ≠ .quit d := by rw [hr]; simp
  obtain ⟨h3, hc, hu, hcase⟩ := T.lastAt (i := i) (by rw [hr]; rfl)
  have hw : WgIs b o w 1 0 := by
    rcases hcase with ⟨_, h⟩ | ⟨h, _⟩
    · exact h
    · rw [hr] at h; cases h
  obtain ⟨_, hD⟩ := h
  obtain ⟨g', hgo, m, hm⟩ := hD hw
  refine T.moves hA hS (w' := w) (r' := .last3) (n' := m) (who' := who) (rel' := rel) hi (by rw [hr]; rfl) (by rw [ne_zero_beq hpos]; exact hgo) (Out.refl _ _) (fun j _ => RB.refl j w) (fun p h e => by cases e) (fun p h e => by cases e) rfl (.inl rfl) (by rw [hr]; exact fun e => by cases e) ⟨hpos, hm⟩ ?_ (.inr ⟨hon, hnq⟩) ?_ (by rw [hr]; simp [Role.count]) (.inr (by rw [hr]; exact fun p h e => by cases e)) (by rw [hr]; exact .inr (.inl ⟨rfl, rfl⟩)) (fun _ _ h => .inl h) (fun e => by omega) (fun q' _ _ => less_role hlt (by rw [hr]; simp [Role.rank]))
  · refine T.trOne (H := False) _ _ (by rw [hr]; rfl) (by rw [hr]; simp [deafBehind, Role.dd, rdE]) (fun k e he => ?_) (fun h => h.elim)
    match k, he with
    | 0, he =>
      obtain rfl : rdE ⟨b, o, none⟩ = e := by simpa using he
      exact ⟨mayBook T hon (T.notDd hnq) hi (.inl rfl) false (.inr (notHeard T (by simp) (by rw [hr]; simp [deafBehind, Role.dd]))) _ _ _, by simp [rdE]⟩
    | k + 1, he => simp at he
  · intro _
    unfold WgOk
    rw [upd_ne _ _ (by omega), h3]
    refine .inr ⟨(cnt_same hlt (by rw [hr]; rfl)).trans hc, i, fun j hj => ?_, .inl ⟨.inr (upd_same _ _ _), hw⟩⟩
    by_cases e : j = i
    · exact e
    · rw [upd_ne _ _ e] at hj; exact hu j hj
theorem Town.last3Stop (T : Town P C b o Anch Fin who rel ρ q gs w t) (hA : ∀ g w, Anch g w → g.status = .running) (hS : StillSelf ρ gs w) {i : Nat} {g : Goroutine} (hi : gs[i]? = some g) (hr : ρ i = .last3) (hpos : 0 < i) (h : AtD3 P C b o i g w) : Moves P C b o Anch Fin who rel ρ q gs w sl t i := by
  have hlt : i < gs.size := (Array.getElem?_eq_some_iff.1 hi).1
  have hon : C.on := T.isOn (i := i) (by rw [hr]; exact id)
  have hnq : ∀ d, ρ i ≠ .quit d := by rw [hr]; simp
  obtain ⟨h3, hc, hu, hcase⟩ := T.lastAt (i := i) (by rw [hr]; rfl)
  have hw : WgIs b o w 1 0 := by
    rcases hcase with ⟨_, h⟩ | ⟨h, _⟩
    · exact h
    · rw [hr] at h; cases h
  obtain ⟨_, hD⟩ := h
  obtain ⟨g', hgo, m, hm⟩ := hD hw
  have hw' := hw.setSt 0
  refine T.moves hA hS (r' := .last4) (n' := m) (who' := who) (rel' := rel) hi (by rw [hr]; rfl) (by rw [ne_zero_beq hpos]; exact hgo) ((out_setCell w b o _).mono (sh_st T hon (.inl rfl))) (fun j _ => T.rb_set hon (.inl rfl) ⟨_, _, hw'⟩ j) (fun p h e => by cases e) (fun p h e => by cases e) rfl (.inl rfl) (by rw [hr]; exact fun e => by cases e) ⟨hpos, hm⟩ ?_ (.inr ⟨hon, hnq⟩) ?_ (by rw [hr]; simp [Role.count]) (.inr (by rw [hr]; exact fun p h e => by cases e)) (by rw [hr]; exact .inr (.inl ⟨rfl, rfl⟩)) (fun _ _ h => by have := (hw'.uniq h).2; omega) (fun e => by omega) (fun q' _ _ => less_role hlt (by rw [hr]; simp [Role.rank]))
  · refine T.trOne (H := False) _ _ (by rw [hr]; rfl) (by rw [hr]; simp [deafBehind, Role.dd, wrE]) (fun k e he => ?_) (fun h => h.elim)
    match k, he with
    | 0, he =>
      obtain rfl : wrE ⟨b, o, none⟩ = e := by simpa using he
      exact ⟨mayBook T hon (T.notDd hnq) hi (.inl rfl) true (.inr (notHeard T (by simp) (by rw [hr]; simp [deafBehind, Role.dd]))) _ _ _, by simp [wrE]⟩
    | k + 1, he => simp at he
  · intro _
    unfold WgOk
    rw [upd_ne _ _ (by omega), h3]
    refine .inr ⟨(cnt_same hlt (by rw [hr]; rfl)).trans hc, i, fun j hj => ?_, .inr ⟨upd_same _ _ _, hw'⟩⟩
    by_cases e : j = i
    · exact e
    · rw [upd_ne _ _ e] at hj; exact hu j hj
theorem sem_may (T : Town P C b o Anch Fin who rel ρ q gs w t) (hon : C.on) {i : Nat} (hnq : ∀ d, ρ i ≠ .quit d) {g : Goroutine} (hi : gs[i]? = some g) (hd : (ρ i).dd = 1) (fn : FuncId) (pos : String) (k : Nat) (e : Event) (he : (semEvents ⟨b, o + 1, none⟩)[k]? = some e) :
    MayOp C (fun j => (ρ j).loose = true) gs.size i False ((t ++ MemOp.ofEvents i fn pos (semEvents ⟨b, o + 1, none⟩)).heard (t.size + k)) { g := i, fn, pos, act := .ofEvent e } ∧ ∀ x, e.loc ≠ .mark (.release x) := by
  match k, he with
  | 0, he => obtain rfl : mkE .disable = e := by simpa [semEvents, mkE] using he
             exact ⟨.mute rfl, by simp [mkE]⟩
  | 1, he => obtain rfl : rdE ⟨b, o + 1, none⟩ = e := by simpa [semEvents, rdE] using he
             exact ⟨mayBook T hon (T.notDd hnq) hi (.inr rfl) false (.inr (notHeard T (by simp [semEvents]) (by rw [hd]; simp [deafBehind, semEvents]))) _ _ _, by simp [rdE]⟩
  | 2, he => obtain rfl : wrE ⟨b, o + 1, none⟩ = e := by simpa [semEvents, wrE] using he
             exact ⟨mayBook T hon (T.notDd hnq) hi (.inr rfl) true (.inr (notHeard T (by simp [semEvents]) (by rw [hd]; simp [deafBehind, semEvents]))) _ _ _, by simp [wrE]⟩
  | 3, he => obtain rfl : mkE .enable = e := by simpa [semEvents, mkE] using he
             exact ⟨.mute rfl, by simp [mkE]⟩
  | k + 4, he => simp [semEvents] at he
theorem Town.last4Stop (T : Town P C b o Anch Fin who rel ρ q gs w t) (hA : ∀ g w, Anch g w → g.status = .running) (hS : StillSelf ρ gs w) {i : Nat} {g : Goroutine} (hi : gs[i]? = some g) (hr : ρ i = .last4) (hpos : 0 < i) (h : AtD4 P b o g w) : Moves P C b o Anch Fin who rel ρ q gs w sl t i := by
  have hlt : i < gs.size := (Array.getElem?_eq_some_iff.1 hi).1
  have hon : C.on := T.isOn (i := i) (by rw [hr]; exact id)
  have hnq : ∀ d, ρ i ≠ .quit d := by rw [hr]; simp
  obtain ⟨h3, hc, hu, hcase⟩ := T.lastAt (i := i) (by rw [hr]; rfl)
  have hw : WgIs b o w 0 0 := by
    rcases hcase with ⟨h, _⟩ | ⟨_, h⟩
    · rw [hr] at h; rcases h with h | h <;> cases h
    · exact h
  obtain ⟨_, hmw, hD⟩ := h
  obtain ⟨g', hrun', hgo, m, hm⟩ := hD hw
  have hw' := hw.setSm 1
  refine T.moves hA hS (r' := .quit 1) (n' := m) (who' := who) (rel' := rel) hi (by rw [hr]; rfl) (by rw [ne_zero_beq hpos]; exact hgo) ((out_setCell w b (o + 1) _).mono (sh_st T hon (.inr rfl))) (fun j _ => T.rb_set hon (.inr rfl) ⟨_, _, hw'⟩ j) (fun p h e => by cases e) (fun p h e => by cases e) rfl (.inl rfl) (by rw [hr]; exact fun e => by cases e) ⟨hpos, hm⟩ ?_ (.inr ⟨hon, hnq⟩) ?_ (by rw [hr]; simp [Role.count]) (.inr (by rw [hr]; exact fun p h e => by cases e)) (by rw [hr]; exact .inr (.inl ⟨rfl, rfl⟩)) (fun _ _ _ => .inr ⟨hmw, hrun'⟩) (fun e => by omega) (fun q' _ _ => less_role hlt (by rw [hr]; simp [Role.rank]))
  · exact T.trOne (H := False) _ _ (by rw [hr]; rfl) (by rw [hr]; simp [deafBehind, Role.dd, semEvents]) (sem_may T hon hnq hi (by rw [hr]; rfl) _ _) (fun h => h.elim)
  · intro _
    unfold WgOk
    rw [upd_ne _ _ (by omega), h3]
    refine .inl ⟨fun j => ?_, .inr ⟨(cnt_same hlt (by rw [hr]; rfl)).trans hc, hw'⟩⟩
    by_cases e : j = i
    · subst e; rw [upd_same]; rfl
    · rw [upd_ne _ _ e]
      cases hj : (ρ j).isLast with
      | false => rfl
      | true => exact absurd (hu j hj) e
theorem Town.shutStop (T : Town P C b o Anch Fin who rel ρ q gs w t) (hA : ∀ g w, Anch g w → g.status = .running) (hS : StillSelf ρ gs w) {i : Nat} {g g₂ : Goroutine} {p : Port} {home : Goroutine → World → Prop} (hi : gs[i]? = some g) (hr : ρ i = .shut p home) (hat : AtPort P false p g g₂) (hh : home g₂ w) (hopp : ∀ (x : Nat) (y : Goroutine), (ρ x).isSelf = true → gs[x]? = some y → offersAt y p.chan (!p.out) = []) : Moves P C b o Anch Fin who rel ρ q gs w sl t i := by
  have hlt : i < gs.size := (Array.getElem?_eq_some_iff.1 hi).1
  have hrole := T.roles i g hi
  rw [hr] at hrole
  obtain ⟨hpos, _, ⟨c, z, ok, rfl, hnext⟩, _⟩ := hrole
  obtain ⟨k, hc⟩ := T.shuts i _ home hr
  obtain ⟨m, hm⟩ := hnext g₂ w hh
  have hst : stepG P (i == 0) g w = .comm g₂ #[rcase c z] true (.recv ok) w #[] := by rw [ne_zero_beq hpos]; exact hat.2.2.2.2 w
  have hno : ∀ (x : Nat) (y : Goroutine), (gs.setIfInBounds i ph)[x]? = some y → offersAt y c true = [] := by
    intro x y hy
    rcases getElem?_stand gs i x y hy with ⟨_, rfl⟩ | ⟨hx, hy'⟩
    · exact offersAt_ph _ _
    · cases hs : (ρ x).isSelf with
      | true => exact hopp x y hs hy'
      | false =>
        refine T.noOffer hA hy' hs fun p' h' e ec => ?_
        obtain ⟨k', hc'⟩ := T.chans x p' h' e
        rw [ec] at hc'
        rw [show (Port.recv c z ok).chan = c from rfl, hc'] at hc
        cases hc
  have hrun := crowd_recv_closed (sl := sl) (blocking := true) hi hst hc (partners_nil hno)
  rw [finishComm_recv] at hrun
  generalize hu : (MemOp.ofEvents i g.frame.fn g.frame.place #[] ++ #[({ g := i, fn := g₂.frame.fn, pos := g₂.frame.place, act := .recvClosed c } : MemOp)] : Array MemOp) = u at hrun
  have hu' : u = #[{ g := i, fn := g₂.frame.fn, pos := g₂.frame.place, act := .recvClosed c }] := by rw [← hu, ofEvents_eq]; simp
  have hq : ∀ j, ∀ op ∈ u, ∀ d, deafStep j d op = d := by
    intro j op hop d
    subst hu'
    simp only [List.mem_toArray, List.mem_cons, List.not_mem_nil, or_false] at hop
    subst hop; rfl
  have hmu : ∀ op ∈ u, op.act.touch? = none ∧ ∀ x, op.act ≠ .mark (.release x) := by
    intro op hop
    subst hu'
    simp only [List.mem_toArray, List.mem_cons, List.not_mem_nil, or_false] at hop
    subst hop; exact ⟨rfl, by simp⟩
  have hwk : gs.map (woken P g (parked g #[] .send) w) = gs := by
    have : woken P g (parked g #[] .send) w = id := by funext y; simp [woken, parked]
    rw [this, Array.map_id]
  have hdd : (fun j => (upd ρ i .done j).dd) = fun j => (ρ j).dd := by
    funext j
    by_cases e : j = i
    · subst e; rw [upd_same, hr]; rfl
    · rw [upd_ne _ _ e]
  have hcn : cnt (upd ρ i .done) gs.size = cnt ρ gs.size := by
    have := cnt_upd (ρ := ρ) .done hlt
    rw [hr] at this
    simpa [Role.count] using this
  obtain ⟨q', T', h1, h2⟩ := T.step hA (a := g) (a' := parked g #[] .send) (g' := Go.Conc.served g₂ (recvd ok z false)) (r' := .done) (n' := m) (who' := who) (rel' := rel) (u := u) hi (fun j _ => RB.refl j w) (Nat.le_refl _) (fun r ob h _ _ => h) (T.inbo i)
    (fun p' h' e => by cases e) (fun p' h' e => by cases e) (fun j k d hj => by
      by_cases e : j = i
      · subst e; rw [upd_same] at hj; cases hj
      · rw [upd_ne _ _ e] at hj; exact T.one j k d hj) (fun x hx => by
      by_cases e : x = i
      · subst e; rw [upd_same]; exact .inr (.inr rfl)
      · rw [upd_ne _ _ e]; exact T.holder x hx) ⟨hpos, hm⟩
    (by
      rw [upd_loose (by rw [hr]; rfl), hdd]
      exact T.tr.mute (fun op h => (hmu op h).1) (fun i hi => Acc.app (fun _ h => h) hi) (fun j => (Deaf_quiet (hq j)).trans (T.tr.deaf j)) (fun op h => (hmu op h).2))
    (fun c => (T.wg c).upd_same_count hlt (.inl (by omega)) (by rw [hr]; rfl) (by rw [hr]; rfl) (.inr rfl)) (fun c => absurd (T.isOn (i := i) (by rw [hr]; exact id)) c) (fun hd => absurd hd (T.notDd (by rw [hr]; simp))) (by rw [hcn]; exact T.few) (fun _ _ h => .inl h) (fun e => by omega)
  rw [hwk] at T'
  refine ⟨_, w, _, upd ρ i .done, q', who, rel, hrun, by simp, T', less_role hlt (by rw [hr]; simp [Role.rank]), Out.refl _ _, adv_upd (by rw [hr]; exact .inr (.inl ⟨rfl, rfl⟩)), fun _ => rfl, fun x hx => ?_, h2, .inr fun p' h' e => (by rw [hr] at e; cases e), fun hc => by
    rcases hc i with h | ⟨d, h⟩ | h <;> rw [hr] at h <;> cases h⟩
  have hxi : x ≠ i := fun e => by subst e; rw [hr] at hx; cases hx
  rw [Array.getElem?_setIfInBounds_ne (Ne.symm hxi)]
theorem Town.byOne (T : Town P C b o Anch Fin who rel ρ q gs w t) (hA : ∀ g w, Anch g w → g.status = .running) (hS : StillSelf ρ gs w) {i : Nat} {g : Goroutine} (hi : gs[i]? = some g) (hns : (ρ i).isSelf = false) (hnw : ∀ s, ρ i ≠ .wait s) (hrun : g.status = .running)
    (hopp : ∀ p home, (ρ i = .seat p home ∨ ρ i = .shut p home) → ∀ (x : Nat) (y : Goroutine), (ρ x).isSelf = true → gs[x]? = some y → offersAt y p.chan (!p.out) = []) : Moves P C b o Anch Fin who rel ρ q gs w sl t i := by
  have hrole := T.roles i g hi
  cases hr : ρ i with
  | self k d => rw [hr] at hns; cases hns
  | seat p home => exact T.bySeat hA hS hi hr hrun (hopp p home (.inl hr))
  | none => rw [hr] at hrole; exact hrole.elim
  | wait s => exact absurd hr (hnw s)
  | quit d => exact T.quitStep hA hS hi hr hrun
  | done =>
    rw [hr] at hrole
    rcases hrole.2.cases with hstop | ⟨n', hn, hst⟩
    · exact T.doneStop hA hS hi hr hrole.1 (hstop w (RB.refl i w))
    · obtain ⟨g', w', es, hgo, hd, hg'⟩ := hst w (RB.refl i w)
      exact T.wayR hA hS (n' := n') hi (by rw [hr]; rfl) (by omega) (by rw [ne_zero_beq hrole.1]; exact hgo) hd (by rw [hr]; exact ⟨hrole.1, hg'⟩) (.inr (by rw [hr]; exact fun p h e => by cases e))
  | shut p home =>
    rw [hr] at hrole
    rcases hrole.2.2.2.cases with hstop | ⟨n', hn, hst⟩
    · obtain ⟨g₂, hat, hh⟩ := hstop w (RB.refl i w)
      exact T.shutStop hA hS hi hr hat hh (hopp p home (.inr hr))
    · obtain ⟨g', w', es, hgo, hd, hg'⟩ := hst w (RB.refl i w)
      exact T.wayR hA hS (n' := n') hi (by rw [hr]; rfl) (by omega) (by rw [ne_zero_beq hrole.1]; exact hgo) hd (by rw [hr]; exact ⟨hrole.1, hrole.2.1, hrole.2.2.1, hg'⟩) (.inr (by rw [hr]; exact fun p h e => by cases e))
  | rel =>
    rw [hr] at hrole
    rcases hrole.2.cases with hstop | ⟨n', hn, hst⟩
    · exact T.relStop hA hS hi hr hrole.1 (hstop w (RB.refl i w))
    · obtain ⟨g', w', es, hgo, ⟨rfl, rfl⟩, hg'⟩ := hst w (RB.refl i w)
      exact T.way0 hA hS (n' := n') hi hr hrole.1 (by simp [Role.rank]) rfl (fun _ _ => ⟨(fun e => by cases e), (fun e => by cases e)⟩) (fun e => by cases e) id (by omega) hgo ⟨hrole.1, hg'⟩
  | deaf =>
    rw [hr] at hrole
    rcases hrole.2.cases with hstop | ⟨n', hn, hst⟩
    · exact T.deafStop hA hS hi hr hrole.1 (hstop w (RB.refl i w))
    · obtain ⟨g', w', es, hgo, ⟨rfl, rfl⟩, hg'⟩ := hst w (RB.refl i w)
      exact T.way0 hA hS (n' := n') hi hr hrole.1 (by simp [Role.rank]) rfl (fun _ _ => ⟨(fun e => by cases e), (fun e => by cases e)⟩) (fun e => by cases e) id (by omega) hgo ⟨hrole.1, hg'⟩
  | last2 =>
    rw [hr] at hrole
    rcases hrole.2.cases with hstop | ⟨n', hn, hst⟩
    · exact T.last2Stop hA hS hi hr hrole.1 (hstop w (RB.refl i w))
    · obtain ⟨g', w', es, hgo, ⟨rfl, rfl⟩, hg'⟩ := hst w (RB.refl i w)
      exact T.way0 hA hS (n' := n') hi hr hrole.1 (by simp [Role.rank]) rfl (fun _ _ => ⟨(fun e => by cases e), (fun e => by cases e)⟩) (fun e => by cases e) id (by omega) hgo ⟨hrole.1, hg'⟩
  | last3 =>
    rw [hr] at hrole
    rcases hrole.2.cases with hstop | ⟨n', hn, hst⟩
    · exact T.last3Stop hA hS hi hr hrole.1 (hstop w (RB.refl i w))
    · obtain ⟨g', w', es, hgo, ⟨rfl, rfl⟩, hg'⟩ := hst w (RB.refl i w)
      exact T.way0 hA hS (n' := n') hi hr hrole.1 (by simp [Role.rank]) rfl (fun _ _ => ⟨(fun e => by cases e), (fun e => by cases e)⟩) (fun e => by cases e) id (by omega) hgo ⟨hrole.1, hg'⟩
  | last4 =>
    rw [hr] at hrole
    rcases hrole.2.cases with hstop | ⟨n', hn, hst⟩
    · exact T.last4Stop hA hS hi hr hrole.1 (hstop w (RB.refl i w))
    · obtain ⟨g', w', es, hgo, ⟨rfl, rfl⟩, hg'⟩ := hst w (RB.refl i w)
      exact T.way0 hA hS (n' := n') hi hr hrole.1 (by simp [Role.rank]) rfl (fun _ _ => ⟨(fun e => by cases e), (fun e => by cases e)⟩) (fun e => by cases e) id (by omega) hgo ⟨hrole.1, hg'⟩
end
end Go.Town
