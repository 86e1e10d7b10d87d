/-
  T2: the holder meets one that waits at the other side of its channel, or is on the way there.
-/
import Derived.Test.YtihmcigoofhpmaaZal
set_option linter.all false
namespace Go.Town
open Go Go.Conc
open Go.ConcN (sumTo upd sumTo_upd upd_ne upd_same sumTo_congr le_sumTo)
def Port.gets : Port → Port → Value
  | .recv _ _ ok, .send _ v _ => recvd ok v true
  | _, _ => undef
structure MeetsAt (gs gs' : Array Goroutine) (w w' : World) (t t' : Trace) (h i : Nat) (ph pi : Port) (a₂ g₂ : Goroutine) (k : Nat) : Prop where
  size : gs'.size = gs.size
  one : gs'[h]? = some (Go.Conc.served a₂ (ph.gets pi))
  two : gs'[i]? = some (Go.Conc.served g₂ (pi.gets ph))
  rest : ∀ x, x ≠ h → x ≠ i → gs'[x]? = gs[x]?
  world : ∃ d, w' = (w.at d).setChan ph.chan 0 #[] false (k + 1) (k + 1) false
  trace : ∃ fa pa fb pb, t' = t ++ (if ph.out then met h i fa pa fb pb ph.chan k 0 else met i h fa pa fb pb ph.chan k 0)
section
variable {P : Program} {C : Cfg} {b o : Nat} {Anch Fin : Goroutine → World → Prop} {who who' : Option Nat} {rel rel' : Nat → Prop} {ρ : Nat → Role} {q : Nat → Nat} {gs gs' : Array Goroutine} {w w' : World} {t t' u : Trace} {sl : Option (Nat × Nat)}
theorem no_w6 {h : Nat} (T : Town P C b o Anch Fin (some h) rel ρ q gs w t) {k d : Nat} (hc : h = 0 ∨ 0 < k) (hr : ρ h = .self k d) {a : Goroutine} (hi : gs[h]? = some a) : ρ 0 ≠ .wait .w6 := by
  intro hw6
  have hwg := T.wg (T.isOn (i := 0) (by rw [hw6]; exact id))
  unfold WgOk at hwg
  rw [hw6] at hwg
  rcases hc with rfl | hc
  · rw [hr] at hw6; cases hw6
  · have := cnt_pos (ρ := ρ) (Array.getElem?_eq_some_iff.1 hi).1 (by rw [hr]; exact hc)
    omega
theorem self_is {h : Nat} (T : Town P C b o Anch Fin (some h) rel ρ q gs w t) {x : Nat} (hx : (ρ x).isSelf = true) : x = h := by
  cases hr : ρ x <;> rw [hr] at hx <;> try (cases hx; done)
  exact (some_inj (T.one x _ _ hr)).symm
theorem adv_seat {r r' : Role} {p : Port} {home : Goroutine → World → Prop} (h : Adv r r') : r = .seat p home ↔ r' = .seat p home := by
  rcases h with rfl | ⟨h1, h2⟩ | ⟨s, s', rfl, rfl⟩
  · exact Iff.rfl
  · constructor
    · rintro rfl; cases h1
    · rintro rfl; cases h2
  · constructor <;> intro h <;> cases h
theorem adv_self {r r' : Role} {k d : Nat} (h : Adv r r') (hr : r = .self k d) : r' = .self k d := by
  subst hr
  rcases h with rfl | ⟨h1, h2⟩ | ⟨s, s', h1, rfl⟩
  · rfl
  · cases h1
  · cases h1
theorem offers_parked {a₂ : Goroutine} {ph : Port} {c : Nat} {dir : Bool} : offersAt (parked a₂ ph.cases ph.shape) c dir = if ph.chan = c ∧ ph.out = dir then [0] else [] := by
  cases ph with
  | recv c' z ok =>
    cases dir with
    | true => simp [Port.out, Port.cases, offersAt_parked_recv']
    | false => simp [Port.cases, Port.chan, Port.out, offersAt_parked_recv]
  | send c' v z =>
    cases dir with
    | false => simp [Port.out, Port.cases, offersAt_parked_send']
    | true => simp [Port.cases, Port.chan, Port.out, offersAt_parked_send]
theorem port_again {a₂ : Goroutine} {ph : Port} {w : World} {k : Nat} (hc : w.heap[ph.chan]? = some (.chan 0 #[] false k k false)) : (parked a₂ ph.cases ph.shape).again w = parked a₂ ph.cases ph.shape := by
  cases ph with
  | recv c z ok => exact again_recv_open hc
  | send c v z => exact again_send_open hc
theorem meets_parked {x y : Nat} {px py : Port} {gx gx₂ gy : Goroutine} {k : Nat} (hx : gs[x]? = some gx) (hat : AtPort P (x == 0) px gx gx₂) (hxy : y ≠ x) (hy : gs[y]? = some (parked gy py.cases py.shape)) (hc : w.heap[px.chan]? = some (.chan 0 #[] false k k false)) (hch : py.chan = px.chan) (hd : py.out ≠ px.out)
    (ho : ∀ (z : Nat) (g : Goroutine), z ≠ x → z ≠ y → gs[z]? = some g → offersAt g px.chan (!px.out) = []) :
    ∃ gs' ops, runT P (crowd gs w sl) x = (.next (crowd gs' (w.setChan px.chan 0 #[] false (k + 1) (k + 1) false) sl), ops) ∧ gs'.size = gs.size ∧ gs'[x]? = some (Go.Conc.served gx₂ (px.gets py)) ∧ gs'[y]? = some (Go.Conc.served gy (py.gets px)) ∧ (∀ z, z ≠ x → z ≠ y → gs'[z]? = gs[z]?) ∧
      ∃ fa pa fb pb, ops = if px.out then met x y fa pa fb pb px.chan k 0 else met y x fa pa fb pb px.chan k 0 := by
  have hltx : x < gs.size := (Array.getElem?_eq_some_iff.1 hx).1
  have hlty : y < gs.size := (Array.getElem?_eq_some_iff.1 hy).1
  have hp : partners (gs.setIfInBounds x ph) px.chan (!px.out) = [(y, 0)] := by
    rw [partners_one (stand_get hxy hy) (fun z g hz hg => ?_), offers_parked, if_pos ⟨hch, by cases h1 : px.out <;> cases h2 : py.out <;> simp_all⟩]
    · rfl
    · rcases getElem?_stand gs x z g hg with ⟨_, rfl⟩ | ⟨hzx, hg'⟩
      · exact offersAt_ph _ _
      · exact ho z g hzx hz hg'
  have hst := hat.2.2.2.2 w
  cases px with
  | send c v z =>
    cases py with
    | send c' v' z' => exact absurd rfl hd
    | recv c' z' ok' =>
      obtain rfl : c' = c := hch
      have hrun := crowd_send_meets (sl := sl) hx hst hc hxy hy hp
      rw [show (Port.send c' v z).shape = .send from rfl, show (Port.recv c' z' ok').shape = .recv ok' from rfl, finishComm_send, finishComm_recv] at hrun
      refine ⟨_, _, hrun, by simp, by simp [hltx, Port.gets], ?_, fun q h1 h2 => by simp [Array.getElem?_setIfInBounds_ne (Ne.symm h1), Array.getElem?_setIfInBounds_ne (Ne.symm h2)], gx₂.frame.fn, gx₂.frame.place, gy.frame.fn, gy.frame.place, ?_⟩
      · rw [Array.getElem?_setIfInBounds_ne (Ne.symm hxy)]; simp [hlty, Port.gets]
      · rw [ofEvents_eq]; simp [Port.out, met, Port.chan]
  | recv c z ok =>
    cases py with
    | recv c' z' ok' => exact absurd rfl hd
    | send c' v' z' =>
      obtain rfl : c' = c := hch
      have hrun := crowd_recv_meets (sl := sl) hx hst hc hxy hy hp
      rw [show (Port.recv c' z ok).shape = .recv ok from rfl, show (Port.send c' v' z').shape = .send from rfl, finishComm_send, finishComm_recv] at hrun
      refine ⟨_, _, hrun, by simp, by simp [hltx, Port.gets], ?_, fun q h1 h2 => by simp [Array.getElem?_setIfInBounds_ne (Ne.symm h1), Array.getElem?_setIfInBounds_ne (Ne.symm h2)], gy.frame.fn, gy.frame.place, gx₂.frame.fn, gx₂.frame.place, ?_⟩
      · rw [Array.getElem?_setIfInBounds_ne (Ne.symm hxy)]; simp [hlty, Port.gets]
      · rw [ofEvents_eq]; simp [Port.out, met, Port.chan]
def NextMeet (P : Program) (C : Cfg) (b o : Nat) (Anch Fin : Goroutine → World → Prop) (Post : Value → World → Prop) (h k d : Nat) (pH : Port) (a₂ : Goroutine) (ρ : Nat → Role) (n : Nat) (w : World) : Prop :=
  ∀ rel' ρ' q' gs₁ w₁ sl' t₁ i p home g₂ kk gs' w' t', Town P C b o Anch Fin (some h) rel' ρ' q' gs₁ w₁ t₁ → ρ' h = .self k d → gs₁.size = n → (∀ j, Adv (ρ j) (ρ' j)) → Out (hidOf C) w w₁ → i ≠ h → ρ i = .seat p home → ρ' i = .seat p home → p.chan = pH.chan → p.out ≠ pH.out → home g₂ w₁ →
    w₁.heap[pH.chan]? = some (.chan 0 #[] false kk kk false) → MeetsAt gs₁ gs' w₁ w' t₁ t' h i pH p a₂ g₂ kk → Ends P Post (crowd gs' w' sl') t'
theorem NextMeet.later {Post : Value → World → Prop} {h k d n n' : Nat} {pH : Port} {a₂ : Goroutine} {ρ' : Nat → Role} (H : NextMeet P C b o Anch Fin Post h k d pH a₂ ρ n w) (ha : ∀ j, Adv (ρ j) (ρ' j)) (hn : n' = n) (ho : Out (hidOf C) w w') : NextMeet P C b o Anch Fin Post h k d pH a₂ ρ' n' w' := by
  intro rel₁ ρ₁ q₁ gs₁ w₁ sl₁ t₁ i p home g₂ kk gs₂ w₂ t₂ k1 k2 k3 k4 k5 k5' k6 k7 k8 k9 k10 k11 k12
  exact H rel₁ ρ₁ q₁ gs₁ w₁ sl₁ t₁ i p home g₂ kk gs₂ w₂ t₂ k1 k2 (k3.trans hn) (fun j => (ha j).trans (k4 j)) (ho.trans k5) k5' ((adv_seat (ha i)).2 k6) k7 k8 k9 k10 k11 k12
variable {Post : Value → World → Prop} {h k d : Nat} {pH : Port} {a a₂ : Goroutine}
theorem meet_parked (hA : ∀ g w, Anch g w → g.status = .running) (hAW : ∀ g w, Anch g w → ∃ m, Goes P true (RB C b o 0) (DW b o) (AtW1 P C b o Anch Fin) m g w) (hc : h = 0 ∨ 0 < k)
    (T : Town P C b o Anch Fin (some h) rel ρ q gs w t) (hr : ρ h = .self k d) (hi : gs[h]? = some (parked a₂ pH.cases pH.shape)) (hex : ∃ i p home, ρ i = .seat p home ∧ p.chan = pH.chan ∧ p.out ≠ pH.out)
    (hway : ∀ i p home, ρ i = .seat p home → p.chan = pH.chan → p.out ≠ pH.out → 0 < q i) (next : NextMeet P C b o Anch Fin Post h k d pH a₂ ρ gs.size w) : Ends P Post (crowd gs w sl) t := by
  generalize hμ : meas ρ q gs.size = μ
  induction lex4_wf.apply μ generalizing rel ρ q gs w sl t with
  | intro μ _ ihμ =>
    obtain ⟨i₀, p₀, home₀, hr₀, hch₀, hd₀⟩ := id hex
    obtain ⟨kk, hck⟩ := T.chans i₀ p₀ home₀ hr₀
    rw [hch₀] at hck
    have haw := T.awakeAll hA (fun x y hx hy => by
      obtain rfl := self_is T hx
      rw [hi] at hy
      obtain rfl := some_inj hy
      exact awake_of (.inr (.inl rfl)))
    have hlt₀ : i₀ < gs.size := by
      rcases Nat.lt_or_ge i₀ gs.size with h | h
      · exact h
      · rw [T.above i₀ h] at hr₀; cases hr₀
    obtain ⟨g₀, hg₀⟩ : ∃ g₀, gs[i₀]? = some g₀ := ⟨_, Array.getElem?_eq_getElem hlt₀⟩
    have hrun₀ : g₀.status = .running := by
      have hq := hway i₀ p₀ home₀ hr₀ hch₀ hd₀
      have hrole := T.roles i₀ g₀ hg₀
      rw [hr₀] at hrole
      rcases hrole.status hA rfl with h | h | ⟨_, h, _⟩
      · exact h
      · rcases hrole.2 with ⟨k', _, hg⟩ | ⟨h0, _⟩
        · exact hg.running (fun _ _ x => x.choose_spec.1.1) w (RB.refl i₀ w)
        · omega
      · omega
    obtain ⟨i, g, dr, sl', hgi, hg, hst⟩ := crowd_pick (P := P) (w := w) (sl := sl) haw ⟨i₀, g₀, hg₀, hrun₀⟩
    have Td := T.at dr
    have hod : Out (hidOf C) w (w.at dr) := Out.at _ w dr
    have e : i ≠ h := by
      rintro rfl
      rw [hi] at hgi
      obtain rfl := some_inj hgi
      cases hg
    have hns : (ρ i).isSelf = false := by
      cases hs : (ρ i).isSelf with
      | false => rfl
      | true => exact absurd (self_is T hs) e
    have hS : StillSelf ρ gs (w.at dr) := fun x y hx hy w' hw' => by
      obtain rfl := self_is T hx
      rw [hi] at hy
      obtain rfl := some_inj hy
      exact port_again (hw' _ _ hck rfl)
    have other : Moves P C b o Anch Fin (some h) rel ρ q gs (w.at dr) sl' t i → (∀ p home, ρ i = .seat p home → p.chan = pH.chan → p.out ≠ pH.out → ∀ g₂, ¬ AtPort P (i == 0) p g g₂) → Ends P Post (crowd gs w sl) t := by
      rintro ⟨gs', w', ops, ρ', q', who', rel', k1, k2, k3, k4, k5, k6, k7, k8, k9, k10, _⟩ hno
      have hsf : (ρ h).isSelf = true := by rw [hr]; rfl
      have hwho := k7 ⟨h, hsf⟩
      subst hwho
      refine Ends.step (hst.trans k1) ?_
      refine ihμ (meas ρ' q' gs'.size) (by rw [← hμ, k2]; exact k4) k3 (adv_self (k6 h) hr) (by rw [k8 h hsf]; exact hi) ⟨i₀, p₀, home₀, (adv_seat (k6 i₀)).1 hr₀, hch₀, hd₀⟩ (fun j p home hj h1 h2 => ?_) (next.later k6 k2 (hod.trans k5)) rfl
      have hj' := (adv_seat (k6 j)).2 hj
      by_cases ej : j = i
      · subst ej
        rcases k10 with k10 | k10
        · exact k10
        · obtain ⟨g', g₂, hg', hat'⟩ := k10 p home hj'
          rw [hgi] at hg'
          obtain rfl := some_inj hg'
          exact absurd hat' (hno p home hj' h1 h2 g₂)
      · rw [k9 j ej (by rw [hj']; simp)]
        exact hway j p home hj' h1 h2
    by_cases hm : ∃ p home, ρ i = .seat p home ∧ p.chan = pH.chan ∧ p.out ≠ pH.out
    · obtain ⟨p, home, hri, hch, hd⟩ := hm
      have hrole := Td.roles i g hgi
      rw [hri] at hrole
      rcases hrole.2 with ⟨k', hk', hgo⟩ | ⟨h0, _⟩
      · rcases hgo.cases with hstop | ⟨n', hn, hstp⟩
        ·
          obtain ⟨g₂, hat, hh⟩ := hstop (w.at dr) (RB.refl i _)
          have hc' : (w.at dr).heap[p.chan]? = some (.chan 0 #[] false kk kk false) := by rw [hch]; exact hck
          obtain ⟨gs', ops, j1, j2, j3, j4, j5, fa, pa, fb, pb, j6⟩ := meets_parked (sl := sl') (py := pH) hgi hat (Ne.symm e) hi hc' hch.symm (Ne.symm hd) (fun z y hz1 hz2 hy => by
            have hzs : (ρ z).isSelf = false := by
              cases hs : (ρ z).isSelf with
              | false => rfl
              | true => exact absurd (self_is T hs) hz2
            exact T.noOffer hA hy hzs fun p' h' e' ec => by rw [T.apart z i p' p h' home e' hri ec]; cases p.out <;> simp)
          refine Ends.step (hst.trans j1) ?_
          refine next rel ρ q gs (w.at dr) sl' t i p home g₂ kk gs' _ _ Td hr rfl (fun j => .rfl' _) hod e hri hri hch hd hh hck ⟨j2, j4, j3, fun x h1 h2 => j5 x h2 h1, ⟨dr, by rw [hch]; rfl⟩, ?_⟩
          cases ho : pH.out with
          | true =>
            have : p.out = false := by cases hx : p.out <;> simp_all
            rw [this] at j6
            exact ⟨fa, pa, fb, pb, by rw [j6, hch]; simp⟩
          | false =>
            have : p.out = true := by cases hx : p.out <;> simp_all
            rw [this] at j6
            exact ⟨fa, pa, fb, pb, by rw [j6, hch]; simp⟩
        · obtain ⟨g', w', es, hgo', hdr, hg'⟩ := hstp (w.at dr) (RB.refl i _)
          refine other (Td.wayR hA hS (n' := n' + 1) hgi (by rw [hri]; rfl) (by omega) hgo' hdr (by rw [hri]; exact ⟨hrole.1, .inl ⟨n', rfl, hg'⟩⟩) (.inl (Nat.succ_pos _))) fun p' home' hr' _ _ g₂ hat => ?_
          have := hat.2.2.2.2 (w.at dr)
          rw [hgo'] at this
          cases this
      · have := hway i p home hri hch hd; omega
    · rcases Td.byAny (sl := sl') hA hAW hS hgi hns hg (fun p home hp x y hx hy => by
          obtain rfl := self_is T hx
          rw [hi] at hy
          obtain rfl := some_inj hy
          rw [offers_parked, if_neg]
          rintro ⟨h1, h2⟩
          rcases hp with hp | hp
          · exact hm ⟨p, home, hp, h1.symm, by rw [h2]; cases p.out <;> simp⟩
          · obtain ⟨k', hk'⟩ := T.shuts i p home hp
            rw [← h1, hck] at hk'; cases hk') with hmv | ⟨rfl, hw6, _⟩
      · exact other hmv fun p home h1 h2 h3 => absurd ⟨p, home, h1, h2, h3⟩ hm
      · exact absurd hw6 (no_w6 T hc hr hi)
theorem Town.putSelf (T : Town P C b o Anch Fin (some h) rel ρ q gs w t) (hA : ∀ g w, Anch g w → g.status = .running) (hr : ρ h = .self k d) (hi : gs[h]? = some a) (a' : Goroutine) :
    ∃ q', Town P C b o Anch Fin (some h) rel ρ q' (gs.setIfInBounds h a') w t ∧ ∀ j, j ≠ h → ρ j ≠ .wait .w3 → q' j = q j := by
  have hu := upd_id hr
  have hwk : gs.map (woken P a (parked a #[] .send) w) = gs := by
    have : woken P a (parked a #[] .send) w = id := by funext y; simp [woken, parked]
    rw [this, Array.map_id]
  obtain ⟨q', T', _, h2⟩ := T.step hA (a := a) (a' := parked a #[] .send) (g' := a') (r' := .self k d) (n' := 0) (who' := some h) (rel' := rel) (u := #[]) hi (fun j _ => RB.refl j w) (Nat.le_refl _) (fun r ob h _ _ => h) (T.inbo h) (fun p h' e => by cases e) (fun p h' e => by cases e) (by rw [hu]; exact T.one) (by rw [hu]; exact T.holder) trivial
    (by rw [hu]; simpa using T.tr) (by rw [hu]; exact T.wg) (fun c => by have := T.off c h; rw [hr] at this; exact this) (fun hd' => absurd hd' (T.notDd (by rw [hr]; simp))) (by rw [hu]; exact T.few) (fun _ _ h => .inl h) (fun _ e => by cases e)
  rw [hwk, hu] at T'
  exact ⟨q', by simpa using T', h2⟩
theorem parked_served {g g' : Goroutine} {cs cs' : Array CommCase} {sh sh' : CommShape} (h : parked g cs sh = parked g' cs' sh') (v : Value) : cs = cs' ∧ sh = sh' ∧ Go.Conc.served g v = Go.Conc.served g' v := by
  obtain ⟨f, c, s, dd, o'⟩ := g
  obtain ⟨f', c', s', dd', o''⟩ := g'
  simp only [parked, Goroutine.mk.injEq, Option.some.injEq, Prod.mk.injEq, true_and] at h
  obtain ⟨rfl, rfl, rfl, rfl, rfl⟩ := h
  exact ⟨rfl, rfl, rfl⟩
theorem offers_of (T : Town P C b o Anch Fin (some h) rel ρ q gs w t) (hA : ∀ g w, Anch g w → g.status = .running) {j m c : Nat} {dir : Bool} {y : Goroutine} (hj : j ≠ h) (hy : gs[j]? = some y) (hm : m ∈ offersAt y c dir) :
    ∃ p home g₂, ρ j = .seat p home ∧ p.chan = c ∧ p.out = dir ∧ y = parked g₂ p.cases p.shape ∧ home g₂ w ∧ m = 0 := by
  have hns : (ρ j).isSelf = false := by
    cases hs : (ρ j).isSelf with
    | false => rfl
    | true => exact absurd (self_is T hs) hj
  have hrole := T.roles j y hy
  rcases hrole.status hA hns with h | h | ⟨_, h0, ⟨p, home, e⟩ | e⟩
  · rw [offersAt_of_not_blocked (by rw [h]; simp)] at hm; cases hm
  · rw [offersAt_of_not_blocked (by rw [h]; simp)] at hm; cases hm
  · rw [e] at hrole
    rcases hrole.2 with ⟨k', hk', _⟩ | ⟨_, g₀, g₂, rfl, hat, hh⟩
    · omega
    · rw [offers_parked] at hm
      by_cases hcd : p.chan = c ∧ p.out = dir
      · rw [if_pos hcd] at hm
        exact ⟨p, home, g₂, e, hcd.1, hcd.2, rfl, hh, by simpa using hm⟩
      · rw [if_neg hcd] at hm; cases hm
  · rw [e] at hrole
    rcases hrole.2 with ⟨k', hk', _⟩ | ⟨_, g₀, h1, rfl, _⟩
    · omega
    · simp [offersAt, h1.2.1] at hm
theorem meets_some (T : Town P C b o Anch Fin (some h) rel ρ q gs w t) (hA : ∀ g w, Anch g w → g.status = .running) (hi : gs[h]? = some a) (hat : AtPort P (h == 0) pH a a₂) {kk : Nat} (hck : w.heap[pH.chan]? = some (.chan 0 #[] false kk kk false))
    (hex : ∃ i p home g₂, i ≠ h ∧ ρ i = .seat p home ∧ p.chan = pH.chan ∧ p.out ≠ pH.out ∧ gs[i]? = some (parked g₂ p.cases p.shape)) :
    ∃ i p home g₂ gs' w' ops, i ≠ h ∧ ρ i = .seat p home ∧ p.chan = pH.chan ∧ p.out ≠ pH.out ∧ home g₂ w ∧ runT P (crowd gs w sl) h = (.next (crowd gs' w' sl), ops) ∧ MeetsAt gs gs' w w' t (t ++ ops) h i pH p a₂ g₂ kk := by
  have hlt : h < gs.size := (Array.getElem?_eq_some_iff.1 hi).1
  have hst := hat.2.2.2.2 w
  have hpar : ∀ j m, (j, m) ∈ partners (gs.setIfInBounds h ph) pH.chan (!pH.out) → j ≠ h ∧ m = 0 ∧ ∃ p home g₂, ρ j = .seat p home ∧ p.chan = pH.chan ∧ p.out ≠ pH.out ∧ gs[j]? = some (parked g₂ p.cases p.shape) ∧ home g₂ w := by
    intro j m hm
    obtain ⟨y, hy, hmy⟩ := mem_partners.1 hm
    rcases getElem?_stand gs h j y hy with ⟨_, rfl⟩ | ⟨hj, hy'⟩
    · rw [offersAt_ph] at hmy; cases hmy
    · obtain ⟨p, home, g₂, e1, e2, e3, rfl, e5, e6⟩ := offers_of T hA hj hy' hmy
      exact ⟨hj, e6, p, home, g₂, e1, e2, by rw [e3]; cases pH.out <;> simp, hy', e5⟩
  have hne : partners (gs.setIfInBounds h ph) pH.chan (!pH.out) ≠ [] := by
    obtain ⟨i, p, home, g₂, h1, h2, h3, h4, h5⟩ := hex
    have : (i, 0) ∈ partners (gs.setIfInBounds h ph) pH.chan (!pH.out) := mem_partners.2 ⟨_, stand_get h1 h5, by
      rw [offers_parked, if_pos ⟨h3, by cases hx : p.out <;> cases hy : pH.out <;> simp_all⟩]; simp⟩
    intro he; rw [he] at this; cases this
  cases pH with
  | send c v z =>
    obtain ⟨j, gj, zj, shj, dd, hjh, hj, hrun⟩ := crowd_send_meets_some (sl := sl) hi hst hck hne (fun j m hm => by
      obtain ⟨h1, h2, p, home, g₂, h3, h4, h5, h6, h7⟩ := hpar j m hm
      cases p with
      | send c' v' z' => exact absurd rfl h5
      | recv c' z' ok' =>
        obtain rfl : c' = c := h4
        exact ⟨h2, h1, g₂, z', .recv ok', h6⟩)
    have hmem : (j, 0) ∈ partners (gs.setIfInBounds h ph) c false := mem_partners.2 ⟨_, stand_get hjh hj, by rw [offersAt_parked_recv]; simp⟩
    obtain ⟨_, _, p, home, g₂, h3, h4, h5, h6, h7⟩ := hpar j 0 hmem
    cases p with
    | send c' v' z' => exact absurd rfl h5
    | recv c' z' ok' =>
      obtain rfl : c' = c := h4
      rw [hj] at h6
      obtain ⟨e1, e2, e3⟩ := parked_served (some_inj h6) (recvd ok' v true)
      have e1' : zj = z' := by simpa [Port.cases, rcase] using e1
      subst e1'
      have e2' : shj = .recv ok' := e2
      subst e2'
      have hltj : j < gs.size := (Array.getElem?_eq_some_iff.1 hj).1
      rw [show (Port.send c' v z).shape = .send from rfl, finishComm_send, finishComm_recv] at hrun
      refine ⟨j, _, home, g₂, _, _, _, hjh, h3, rfl, h5, h7, hrun, ⟨by simp, by simp [hlt, Port.gets], ?_, fun x h1 h2 => by simp [Array.getElem?_setIfInBounds_ne (Ne.symm h1), Array.getElem?_setIfInBounds_ne (Ne.symm h2)], ⟨dd, rfl⟩, a₂.frame.fn, a₂.frame.place, gj.frame.fn, gj.frame.place, ?_⟩⟩
      · rw [Array.getElem?_setIfInBounds_ne (Ne.symm hjh)]
        simp only [Port.gets, ← e3]
        simp [hltj]
      · rw [ofEvents_eq]; simp [Port.out, met, Port.chan]
  | recv c z ok =>
    obtain ⟨j, gj, vj, zj, shj, dd, hjh, hj, hrun⟩ := crowd_recv_meets_some (sl := sl) hi hst hck hne (fun j m hm => by
      obtain ⟨h1, h2, p, home, g₂, h3, h4, h5, h6, h7⟩ := hpar j m hm
      cases p with
      | recv c' z' ok' => exact absurd rfl h5
      | send c' v' z' =>
        obtain rfl : c' = c := h4
        exact ⟨h2, h1, g₂, v', z', .send, h6⟩)
    have hmem : (j, 0) ∈ partners (gs.setIfInBounds h ph) c true := mem_partners.2 ⟨_, stand_get hjh hj, by rw [offersAt_parked_send]; simp⟩
    obtain ⟨_, _, p, home, g₂, h3, h4, h5, h6, h7⟩ := hpar j 0 hmem
    cases p with
    | recv c' z' ok' => exact absurd rfl h5
    | send c' v' z' =>
      obtain rfl : c' = c := h4
      rw [hj] at h6
      obtain ⟨e1, e2, e3⟩ := parked_served (some_inj h6) undef
      have e1' : vj = v' ∧ zj = z' := by simpa [Port.cases, scase] using e1
      obtain ⟨rfl, rfl⟩ := e1'
      have e2' : shj = .send := e2
      subst e2'
      have hltj : j < gs.size := (Array.getElem?_eq_some_iff.1 hj).1
      rw [show (Port.recv c' z ok).shape = .recv ok from rfl, finishComm_send, finishComm_recv] at hrun
      refine ⟨j, _, home, g₂, _, _, _, hjh, h3, rfl, h5, h7, hrun, ⟨by simp, by simp [hlt, Port.gets], ?_, fun x h1 h2 => by simp [Array.getElem?_setIfInBounds_ne (Ne.symm h1), Array.getElem?_setIfInBounds_ne (Ne.symm h2)], ⟨dd, rfl⟩, gj.frame.fn, gj.frame.place, a₂.frame.fn, a₂.frame.place, ?_⟩⟩
      · rw [Array.getElem?_setIfInBounds_ne (Ne.symm hjh)]
        simp only [Port.gets, ← e3]
        simp [hltj]
      · rw [ofEvents_eq]; simp [Port.out, met, Port.chan]
theorem meet (hA : ∀ g w, Anch g w → g.status = .running) (hAW : ∀ g w, Anch g w → ∃ m, Goes P true (RB C b o 0) (DW b o) (AtW1 P C b o Anch Fin) m g w) (hc : h = 0 ∨ 0 < k)
    (T : Town P C b o Anch Fin (some h) rel ρ q gs w t) (hr : ρ h = .self k d) (hi : gs[h]? = some a) (hat : AtPort P (h == 0) pH a a₂) (hex : ∃ i p home, ρ i = .seat p home ∧ p.chan = pH.chan ∧ p.out ≠ pH.out)
    (next : NextMeet P C b o Anch Fin Post h k d pH a₂ ρ gs.size w) : Ends P Post (crowd gs w sl) t := by
  generalize hμ : meas ρ q gs.size = μ
  induction lex4_wf.apply μ generalizing rel ρ q gs w sl t with
  | intro μ _ ihμ =>
    obtain ⟨i₀, p₀, home₀, hr₀, hch₀, hd₀⟩ := id hex
    obtain ⟨kk, hck⟩ := T.chans i₀ p₀ home₀ hr₀
    rw [hch₀] at hck
    have hrun : a.status = .running := hat.1
    have haw := T.awakeAll hA (fun x y hx hy => by
      obtain rfl := self_is T hx
      rw [hi] at hy
      obtain rfl := some_inj hy
      exact awake_of (.inl hrun))
    obtain ⟨i, g, dr, sl', hgi, hg, hst⟩ := crowd_pick (P := P) (w := w) (sl := sl) haw ⟨h, a, hi, hrun⟩
    have Td := T.at dr
    have hod : Out (hidOf C) w (w.at dr) := Out.at _ w dr
    by_cases e : i = h
    · subst e
      rw [hi] at hgi
      obtain rfl := some_inj hgi
      by_cases hp : ∃ j p home g₂, j ≠ i ∧ ρ j = .seat p home ∧ p.chan = pH.chan ∧ p.out ≠ pH.out ∧ gs[j]? = some (parked g₂ p.cases p.shape)
      · obtain ⟨j, p, home, g₂, gs', w', ops, h1, h2, h3, h4, h5, h6, h7⟩ := meets_some (sl := sl') Td hA hi hat hck hp
        exact Ends.step (hst.trans h6) (next rel ρ q gs (w.at dr) sl' t j p home g₂ kk gs' w' _ Td hr rfl (fun j => .rfl' _) hod h1 h2 h2 h3 h4 h5 hck h7)
      ·
        have hway : ∀ j p home, ρ j = .seat p home → p.chan = pH.chan → p.out ≠ pH.out → 0 < q j := by
          intro j p home hj h1 h2
          have hji : j ≠ i := fun e => by subst e; rw [hr] at hj; cases hj
          have hltj : j < gs.size := by
            rcases Nat.lt_or_ge j gs.size with h | h
            · exact h
            · rw [T.above j h] at hj; cases hj
          have hrole := T.roles j _ (Array.getElem?_eq_getElem hltj)
          rw [hj] at hrole
          rcases hrole.2 with ⟨k', hk', _⟩ | ⟨_, g₀, g₂, hgj, _⟩
          · omega
          · exact absurd ⟨j, p, home, g₂, hji, hj, h1, h2, by rw [Array.getElem?_eq_getElem hltj, hgj]⟩ hp
        have hno : ∀ (x : Nat) (y : Goroutine), (gs.setIfInBounds i ph)[x]? = some y → offersAt y pH.chan (!pH.out) = [] := by
          intro x y hy
          rcases getElem?_stand gs i x y hy with ⟨_, rfl⟩ | ⟨hx, hy'⟩
          · exact offersAt_ph _ _
          · rcases hof : offersAt y pH.chan (!pH.out) with _ | ⟨m, l⟩
            · rfl
            · obtain ⟨p, home, g₂, e1, e2, e3, rfl, e5, e6⟩ := offers_of Td hA hx hy' (m := m) (c := pH.chan) (dir := !pH.out) (by rw [hof]; simp)
              exact absurd ⟨x, p, home, g₂, hx, e1, e2, by rw [e3]; cases pH.out <;> simp, hy'⟩ hp
        have hw : ∀ cc ∈ pH.cases, NoWays (w.at dr) (gs.setIfInBounds i ph) cc := by
          intro cc hcc
          cases pH with
          | recv c z ok =>
            have : cc = rcase c z := by simpa [Port.cases] using hcc
            subst this
            exact ways_recv_none hck (partners_nil hno)
          | send c v z =>
            have : cc = scase c v z := by simpa [Port.cases] using hcc
            subst this
            exact ways_send_none hck (by simp) (partners_nil hno)
        obtain ⟨q', T', hq'⟩ := Td.putSelf hA hr hi (parked a₂ pH.cases pH.shape)
        have hlt : i < gs.size := (Array.getElem?_eq_some_iff.1 hi).1
        refine Ends.step (hst.trans (crowd_waits (sl := sl') hi (hat.2.2.2.2 _) hw)) ?_
        rw [show MemOp.ofEvents i a.frame.fn a.frame.place #[] = #[] from by rw [ofEvents_eq]; simp, Array.append_empty]
        refine meet_parked hA hAW hc T' hr (by simp [hlt]) hex (fun j p home hj h1 h2 => ?_) (next.later (fun j => .rfl' _) (by simp) hod)
        rw [hq' j (fun e => by subst e; rw [hr] at hj; cases hj) (by rw [hj]; simp)]
        exact hway j p home hj h1 h2
    · have hns : (ρ i).isSelf = false := by
        cases hs : (ρ i).isSelf with
        | false => rfl
        | true => exact absurd (self_is T hs) e
      rcases Td.byAny (sl := sl') hA hAW (still_running Td hi hrun) hgi hns hg (fun p home _ x y hx hy => by
          obtain rfl := self_is T hx
          rw [hi] at hy
          obtain rfl := some_inj hy
          exact offersAt_of_not_blocked (by rw [hrun]; simp) _ _) with hm | ⟨rfl, hw6, _⟩
      · obtain ⟨gs', w', ops, ρ', q', who', rel', k1, k2, k3, k4, k5, k6, k7, k8, k9, k10, _⟩ := hm
        have hsf : (ρ h).isSelf = true := by rw [hr]; rfl
        have hwho := k7 ⟨h, hsf⟩
        subst hwho
        refine Ends.step (hst.trans k1) ?_
        exact ihμ (meas ρ' q' gs'.size) (by rw [← hμ, k2]; exact k4) k3 (adv_self (k6 h) hr) (by rw [k8 h hsf]; exact hi) ⟨i₀, p₀, home₀, (adv_seat (k6 i₀)).1 hr₀, hch₀, hd₀⟩ (next.later k6 k2 (hod.trans k5)) rfl
      · exact absurd hw6 (no_w6 T hc hr hi)
end
end Go.Town
