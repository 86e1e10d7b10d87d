/-
  The company behind a meeting.
  The holder's turn comes; T3: it starts a goroutine.
-/
import Derived.Test.YtihmcigoofhpmaaZam
set_option linter.all false
namespace Go.Town
open Go Go.Conc
open Go.ConcN (sumTo upd sumTo_upd upd_ne upd_same sumTo_congr le_sumTo)
section
variable {P : Program} {C : Cfg} {b o : Nat} {Anch Fin : Goroutine → World → Prop} {who who' : Option Nat} {rel rel' : Nat → Prop} {ρ : Nat → Role} {q : Nat → Nat} {gs gs' : Array Goroutine} {w w' : World} {t t' u : Trace} {sl : Option (Nat × Nat)}
theorem cell_setChan {w : World} {c : Nat} {ob : Obj} (hc : w.heap[c]? = some ob) (ho : isCells ob = false) (cap : Nat) (buf : Array Value) (cl : Bool) (s r : Nat) (tm : Bool) (a : Addr) : (w.setChan c cap buf cl s r tm).cell? a = w.cell? a ∧ (w.setChan c cap buf cl s r tm).frozen? a = w.frozen? a := by
  have hlt : c < w.heap.size := (Array.getElem?_eq_some_iff.1 hc).1
  by_cases e : a.block = c
  · have e1 : (w.setChan c cap buf cl s r tm).heap[a.block]? = some (.chan cap buf cl s r tm) := by rw [e]; simp [World.setChan, hlt]
    have e2 : w.heap[a.block]? = some ob := by rw [e]; exact hc
    unfold World.cell? World.frozen?
    rw [e1, e2]
    cases ob <;> first | (cases ho; done) | exact ⟨rfl, rfl⟩
  · have e1 : (w.setChan c cap buf cl s r tm).heap[a.block]? = w.heap[a.block]? := by simp [World.setChan, Array.getElem?_setIfInBounds_ne (Ne.symm e)]
    unfold World.cell? World.frozen?
    rw [e1]; exact ⟨rfl, rfl⟩
theorem heap_setChan {w : World} {c : Nat} {ob : Obj} (hc : w.heap[c]? = some ob) (cap : Nat) (buf : Array Value) (cl : Bool) (s r : Nat) (tm : Bool) (x : Nat) : (w.setChan c cap buf cl s r tm).heap[x]? = if x = c then some (.chan cap buf cl s r tm) else w.heap[x]? := by
  have hlt : c < w.heap.size := (Array.getElem?_eq_some_iff.1 hc).1
  by_cases e : x = c
  · subst e; simp [World.setChan, hlt]
  · simp [World.setChan, e, Array.getElem?_setIfInBounds_ne (Ne.symm e)]
theorem rb_chan {c : Nat} {ob : Obj} (hc : w.heap[c]? = some ob) (ho : isCells ob = false) (hno : ∀ g, ¬ C.St g (.obj c) ∧ ¬ C.Pv g (.obj c)) (d cap : Nat) (buf : Array Value) (cl : Bool) (s r : Nat) (tm : Bool) (j : Nat) :
    RB C b o j w ((w.at d).setChan c cap buf cl s r tm) ∧ ∀ s' m', WgIs b o w s' m' → WgIs b o ((w.at d).setChan c cap buf cl s r tm) s' m' := by
  have hc' : (w.at d).heap[c]? = some ob := hc
  have hw : ∀ s' m', WgIs b o w s' m' → WgIs b o ((w.at d).setChan c cap buf cl s r tm) s' m' := fun s' m' h => h.keep (cell_setChan hc' ho _ _ _ _ _ _ _) (cell_setChan hc' ho _ _ _ _ _ _ _)
  refine ⟨⟨fun _ ⟨s', m', h⟩ => ⟨s', m', hw _ _ h⟩, fun x k _ => cell_setChan hc' ho _ _ _ _ _ _ _, fun x hx => ?_⟩, hw⟩
  rw [heap_setChan hc', if_neg]
  · rfl
  · rintro rfl
    exact hx.elim (hno j).2 (hno j).1
section
variable {C' : Cfg} {i : Nat} (hP : ∀ l, C'.Pv i l ↔ C.Pv i l) (hS : ∀ l, C'.St i l ↔ C.St i l) (hsh : C'.Sh = C.Sh) (hon : C'.on = C.on)
include hP hS hon in
theorem rb_congr : RB C' b o i = RB C b o i := by
  funext w w₁
  refine propext ⟨fun h => ⟨fun c => h.live (hon ▸ c), fun x k hx => h.cells x k (by rw [hP, hS]; exact hx), fun r hx => h.objs r (by rw [hP, hS]; exact hx)⟩, fun h => ⟨fun c => h.live (hon ▸ c), fun x k hx => h.cells x k (by rw [← hP, ← hS]; exact hx), fun r hx => h.objs r (by rw [← hP, ← hS]; exact hx)⟩⟩
include hP hS hsh in
theorem dr_congr : DR C' i = DR C i := by
  have e1 : (fun x k => C'.Pv i (.cell ⟨x, k, none⟩)) = fun x k => C.Pv i (.cell ⟨x, k, none⟩) := by funext x k; exact propext (hP _)
  have e2 : EvR C' i = EvR C i := by funext e; simp only [EvR, hP, hS, hsh]
  funext w w' es
  simp only [DR, e1, e2]
include hP hS hsh hon in
theorem inRole_congr (r : Role) (n : Nat) (g : Goroutine) (w : World) : InRole P C' b o Anch Fin i r n g w ↔ InRole P C b o Anch Fin i r n g w := by
  have e1 := rb_congr (b := b) (o := o) hP hS hon
  have e2 := dr_congr hP hS hsh
  have d3 : AtD3 P C' b o i = AtD3 P C b o i := by funext g w; simp only [AtD3, e1]
  have d2 : AtD2 P C' b o i = AtD2 P C b o i := by funext g w; simp only [AtD2, e1, d3]
  have d1 : AtD1 P C' b o i = AtD1 P C b o i := by funext g w; simp only [AtD1, e1, d2]
  have k1 : AtK1 P C' b o i = AtK1 P C b o i := by funext g w; simp only [AtK1, e1, d1]
  have r0 : AtR0 P C' b o i = AtR0 P C b o i := by funext g w; simp only [AtR0, e1, k1]
  cases r with
  | wait s =>
    by_cases hi : i = 0
    · subst hi
      have ke : AtKe P C' b o Fin = AtKe P C b o Fin := by funext g w; simp only [AtKe, e1]
      have w4 : AtW4 P C' b o Fin = AtW4 P C b o Fin := by funext g w; simp only [AtW4, e1, ke]
      have w3 : AtW3 P C' b o Fin = AtW3 P C b o Fin := by funext g w; simp only [AtW3, e1, w4]
      have w2 : ∀ v, AtW2 P C' b o Anch Fin v = AtW2 P C b o Anch Fin v := fun v => by funext g w; simp only [AtW2, e1, w3]
      have w1 : AtW1 P C' b o Anch Fin = AtW1 P C b o Anch Fin := by funext g w; simp only [AtW1, e1, ke, w2]
      have kd : AtKd P C' b o Anch = AtKd P C b o Anch := by funext g w; simp only [AtKd, e1]
      cases s <;> simp only [InRole, Waits, e1, ke, w4, w3, w2, w1, kd]
    · simp only [InRole, hi, false_and]
  | _ => simp only [InRole, Sits, e1, e2, d3, d2, d1, k1, r0]
end
theorem Cfg.drop_of {C : Cfg} {i g : Nat} {l : Loc} : ((C.drop i).St g l → C.St g l) ∧ ((C.drop i).Pv g l → C.Pv g l) := ⟨fun h => h.2, fun h => h.2⟩
theorem Town.behindMeet {D : Cfg} {h i k d : Nat} {p pH : Port} {home : Goroutine → World → Prop} {a₂ g₂ : Goroutine} {kk : Nat} (T : Town P C b o Anch Fin (some h) rel ρ q gs w t) (hr : ρ h = .self k d) (hd : d = 0) (hD : D = C ∨ D = C.drop i) (hri : ρ i = .seat p home) (hih : i ≠ h) (hlt : h < gs.size)
    (hck : w.heap[pH.chan]? = some (.chan 0 #[] false kk kk false)) (hno : ∀ g, ¬ C.St g (.obj pH.chan) ∧ ¬ C.Pv g (.obj pH.chan)) (M : MeetsAt gs gs' w w' t t' h i pH p a₂ g₂ kk) {ri rh : Role} {ni nh : Nat} {who' : Option Nat}
    (hRi : InRole P D b o Anch Fin i ri ni (Go.Conc.served g₂ (p.gets pH)) w') (hRh : InRole P D b o Anch Fin h rh nh (Go.Conc.served a₂ (pH.gets p)) w')
    (hci : ri.count = 1) (hcH : rh.count = k) (hdi : ri.dd = 0) (hdh : rh.dd = 0) (hli : ri.isLast = false) (hlh : rh.isLast = false) (hwi : ∀ s, ri ≠ .wait s) (hwh : ∀ s, rh ≠ .wait s)
    (hseats : ∀ p' h', ri = .seat p' h' ∨ rh = .seat p' h' → ∃ k', w.heap[p'.chan]? = some (.chan 0 #[] false k' k' false)) (hshut : ∀ p' h', ri ≠ .shut p' h' ∧ rh ≠ .shut p' h')
    (hap : ∀ j l p p' h₁ h₂, upd (upd ρ i ri) h rh j = .seat p h₁ → upd (upd ρ i ri) h rh l = .seat p' h₂ → p.chan = p'.chan → p.out = p'.out)
    (hwho : (who' = some h ∧ ri.isSelf = false ∧ (h = 0 ∨ rh.isSelf = true ∨ rh = .done)) ∨ (who' = some i ∧ rh.isSelf = false ∧ (i = 0 ∨ ri.isSelf = true ∨ ri = .done))) :
    Town P D b o Anch Fin who' rel (upd (upd ρ i ri) h rh) (upd (upd q i ni) h nh) gs' w' t' := by
  subst hd
  have hon : C.on := T.isOn (i := i) (by rw [hri]; exact id)
  have hDs : D.Sh = C.Sh ∧ D.Gr = C.Gr ∧ D.Dd = C.Dd ∧ D.on = C.on ∧ D.ad = C.ad := by rcases hD with rfl | rfl <;> exact ⟨rfl, rfl, rfl, rfl, rfl⟩
  have hDP : ∀ g l, (D.St g l → C.St g l) ∧ (D.Pv g l → C.Pv g l) := fun g l => by rcases hD with rfl | rfl; exact ⟨id, id⟩; exact Cfg.drop_of
  have hDo : ∀ j, j ≠ i → (∀ l, D.Pv j l ↔ C.Pv j l) ∧ ∀ l, D.St j l ↔ C.St j l := fun j hj => by
    rcases hD with rfl | rfl
    · exact ⟨fun _ => Iff.rfl, fun _ => Iff.rfl⟩
    · exact ⟨fun _ => ⟨fun h => h.2, fun h => ⟨hj, h⟩⟩, fun _ => ⟨fun h => h.2, fun h => ⟨hj, h⟩⟩⟩
  obtain ⟨dd, hw'⟩ := M.world
  have hRB : ∀ j, RB C b o j w w' := fun j => by rw [hw']; exact (rb_chan (b := b) (o := o) hck rfl hno dd _ _ _ _ _ _ j).1
  have hWg : ∀ s m, WgIs b o w s m → WgIs b o w' s m := by rw [hw']; exact (rb_chan (b := b) (o := o) hck rfl hno dd _ _ _ _ _ _ 0).2
  have hback : ∀ s m, WgIs b o w' s m → WgIs b o w s m := fun s m h => by
    obtain ⟨s₀, m₀, h₀⟩ := (T.wg hon).live
    obtain ⟨rfl, rfl⟩ := (hWg _ _ h₀).uniq h
    exact h₀
  have hheap : ∀ x, w'.heap[x]? = if x = pH.chan then some (.chan 0 #[] false (kk + 1) (kk + 1) false) else w.heap[x]? := fun x => by
    rw [hw']; exact heap_setChan (w := w.at dd) hck _ _ _ _ _ _ x
  have hopen : ∀ (c k' : Nat), w.heap[c]? = some (Obj.chan 0 #[] false k' k' false) → ∃ k'' : Nat, w'.heap[c]? = some (Obj.chan 0 #[] false k'' k'' false) := fun c k' hc => by
    rw [hheap]
    by_cases e : c = pH.chan
    · rw [if_pos e]; exact ⟨_, rfl⟩
    · rw [if_neg e]; exact ⟨_, hc⟩
  have hρ : ∀ j, j ≠ h → j ≠ i → upd (upd ρ i ri) h rh j = ρ j := fun j h1 h2 => by rw [upd_ne _ _ h1, upd_ne _ _ h2]
  have hρi : upd (upd ρ i ri) h rh i = ri := by rw [upd_ne _ _ hih, upd_same]
  have hρh : upd (upd ρ i ri) h rh h = rh := upd_same _ _ _
  have hs0 : ∀ j, j = h ∨ j = i → (ρ j).dd = 0 := by rintro j (rfl | rfl); rw [hr]; rfl; rw [hri]; rfl
  have hlti : i < gs.size := by
    rcases Nat.lt_or_ge i gs.size with h | h
    · exact h
    · rw [T.above i h] at hri; cases hri
  have hsz := M.size
  have htr : Tr D (fun j => (upd (upd ρ i ri) h rh j).loose = true) rel gs.size (fun j => (upd (upd ρ i ri) h rh j).dd) (Acc who' rel t') t' := by
    have hdd : (fun j => (upd (upd ρ i ri) h rh j).dd) = fun j => (ρ j).dd := by
      funext j
      by_cases e1 : j = h
      · subst e1; rw [hρh, hdh, hs0 _ (.inl rfl)]
      · by_cases e2 : j = i
        · subst e2; rw [hρi, hdi, hs0 _ (.inr rfl)]
        · rw [hρ j e1 e2]
    rw [hdd]
    obtain ⟨fa, pa, fb, pb, ht⟩ := M.trace
    have key : ∀ x y, (x = h ∧ y = i ∨ x = i ∧ y = h) → t' = t ++ met x y fa pa fb pb pH.chan kk 0 → Tr D (fun j => (upd (upd ρ i ri) h rh j).loose = true) rel gs.size (fun j => (ρ j).dd) (Acc who' rel t') t' := by
      intro x y hxy ht'
      subst ht'
      have hx0 := hs0 x (hxy.imp And.left And.left)
      have hy0 := hs0 y (hxy.elim (fun q => .inr q.2) fun q => .inl q.2)
      have Tm := T.tr.meet (h := x) (j := y) (fun z hz => by
        rcases hxy with ⟨rfl, rfl⟩ | ⟨rfl, rfl⟩
        · exact .inl hz
        · exact .inr hz) hx0 hy0 fa pa fb pb pH.chan kk
      have TD : Tr D (fun g => (ρ g).loose = true ∧ g ≠ x ∧ g ≠ y) rel gs.size (fun j => (ρ j).dd) (fun i => Knows (t ++ met x y fa pa fb pb pH.chan kk 0) x i ∧ Knows (t ++ met x y fa pa fb pb pH.chan kk 0) y i) (t ++ met x y fa pa fb pb pH.chan kk 0) := by
        rcases hD with rfl | rfl
        · exact Tm
        · refine Tm.drop (fun hl => ?_) (fun p z a _ _ hz ha => ?_)
          · rcases hxy with ⟨rfl, rfl⟩ | ⟨rfl, rfl⟩
            · exact hl.2.2 rfl
            · exact hl.2.1 rfl
          · obtain ⟨op, ho, hoa⟩ := touch_of ha
            rcases getElem?_append_cases ho with ⟨hlt', ho'⟩ | ⟨_, hu⟩
            · rw [g?_old hlt'] at hz
              refine T.tr.both hx0 hy0 fa pa fb pb pH.chan kk z ?_
              rcases hxy with ⟨rfl, rfl⟩ | ⟨rfl, rfl⟩
              · exact .inr (knows_of_g hz)
              · exact .inl (knows_of_g hz)
            · rw [met_mute _ _ _ _ _ _ _ _ _ op hu] at hoa; cases hoa
      refine TD.account (fun p hp => .inl hp) (fun z a ha hm hs _ => ⟨fun hk => .inl ?_, fun g hg hl => .inr (hl.imp (fun hl => ?_) id)⟩)
      · rcases hwho with ⟨rfl, _⟩ | ⟨rfl, _⟩ <;> rcases hxy with ⟨rfl, rfl⟩ | ⟨rfl, rfl⟩
        · exact hk.1
        · exact hk.2
        · exact hk.2
        · exact hk.1
      · have h1 : g ≠ h := by rcases hxy with ⟨rfl, rfl⟩ | ⟨rfl, rfl⟩; exact hl.2.1; exact hl.2.2
        have h2 : g ≠ i := by rcases hxy with ⟨rfl, rfl⟩ | ⟨rfl, rfl⟩; exact hl.2.2; exact hl.2.1
        rw [hρ g h1 h2]; exact hl.1
    cases ho : pH.out with
    | true => rw [ho, if_pos rfl] at ht; exact key h i (.inl ⟨rfl, rfl⟩) ht
    | false => rw [ho, if_neg (by simp)] at ht; exact key i h (.inr ⟨rfl, rfl⟩) ht
  have h0i : i ≠ 0 ∨ ∀ s, ρ 0 ≠ .wait s ∧ ri ≠ .wait s := by
    by_cases e : i = 0
    · subst e; exact .inr fun s => ⟨by rw [hri]; simp, hwi s⟩
    · exact .inl e
  have h0h : h ≠ 0 ∨ ∀ s, upd ρ i ri 0 ≠ .wait s ∧ rh ≠ .wait s := by
    by_cases e : h = 0
    · subst e; exact .inr fun s => ⟨by rw [upd_ne _ _ (Ne.symm hih), hr]; simp, hwh s⟩
    · exact .inl e
  have hu2 : upd ρ i ri h = .self k 0 := by rw [upd_ne _ _ (Ne.symm hih), hr]
  have hwg : WgOk b o (upd (upd ρ i ri) h rh) gs.size w' := by
    have w1 : WgOk b o (upd ρ i ri) gs.size w := (T.wg hon).upd_same_count hlti h0i (by rw [hci, hri]; rfl) (by rw [hli, hri]; rfl) (.inr hli)
    have w2 : WgOk b o (upd (upd ρ i ri) h rh) gs.size w := w1.upd_same_count hlt h0h (by rw [hcH, hu2]; rfl) (by rw [hlh, hu2]; rfl) (.inr hlh)
    exact w2.keep hWg
  have hcnt : cnt (upd (upd ρ i ri) h rh) gs.size = cnt ρ gs.size := by
    have e1 := cnt_same (ρ := ρ) (r' := ri) hlti (by rw [hci, hri]; rfl)
    have e2 := cnt_same (ρ := upd ρ i ri) (r' := rh) hlt (by rw [hcH, hu2]; rfl)
    omega
  refine ⟨⟨fun g g' l hp hgg => ?_, fun g l hl => ?_, fun l hl => ?_⟩, hDs.2.2.2.2.trans T.ad, fun l => by rw [hDs.1, hDs.2.2.2.1]; exact T.shs l, fun l hl => ?_, fun g hg => ?_, fun g l hl => by rw [hsz]; exact T.old g l (hl.imp (hDP g l).1 (hDP g l).2), fun g l hl => T.plain g l (hl.imp (hDP g l).1 (hDP g l).2), fun g x k' hx => ?_, fun g r hx => ?_, by rw [hsz]; exact htr, fun j y hy => ?_, fun j hj => ?_, fun j p' h' e => ?_, hap, fun j p' h' e => ?_, fun j k' d' e => ?_, fun x hx => ?_, by rw [hsz, hcnt]; exact T.few, by rw [hsz]; exact fun _ => hwg, fun c => absurd (hDs.2.2.2.1 ▸ hon) c, by rw [hsz]; exact T.some1, fun h1 h2 => ?_⟩
  · have := T.ok.apart g g' l ((hDP g l).2 hp) hgg
    exact ⟨fun q => this.1 ((hDP g' l).2 q), fun q => this.2 ((hDP g' l).1 q)⟩
  · have := T.ok.off g l (hDs.1 ▸ hl)
    exact ⟨fun q => this.1 ((hDP g l).2 q), fun q => this.2 ((hDP g l).1 q)⟩
  · have := T.ok.gr l (hDs.2.1 ▸ hl)
    exact ⟨hDs.1 ▸ this.1, fun g => ⟨fun q => (this.2 g).1 ((hDP g l).2 q), fun q => (this.2 g).2 ((hDP g l).1 q)⟩⟩
  · have : w'.heap.size = w.heap.size := by rw [hw']; simp [World.setChan, World.at]
    rw [this]; exact T.grs l (hDs.2.1 ▸ hl)
  · obtain ⟨d, e⟩ := T.dds g (hDs.2.2.1 ▸ hg)
    rw [hρ g (by rintro rfl; rw [hr] at e; cases e) (by rintro rfl; rw [hri] at e; cases e)]; exact ⟨d, e⟩
  · have : w'.heap.size = w.heap.size := by rw [hw']; simp [World.setChan, World.at]
    rw [this]; exact T.inb g x k' (hx.imp (hDP g _).2 (hDP g _).1)
  · have hx' := hx.imp (hDP g _).2 (hDP g _).1
    obtain ⟨ob, h1, h2⟩ := T.inbo g r hx'
    exact ⟨ob, ((hRB g).objs r hx').trans h1, h2⟩
  · by_cases e1 : j = h
    · subst e1
      rw [M.one] at hy; obtain rfl := some_inj hy
      rw [hρh, upd_same]; exact hRh
    · by_cases e2 : j = i
      · subst e2
        rw [M.two] at hy; obtain rfl := some_inj hy
        rw [hρi, upd_ne _ _ e1, upd_same]; exact hRi
      · rw [M.rest j e1 e2] at hy
        rw [hρ j e1 e2, upd_ne _ _ e1, upd_ne _ _ e2]
        exact (inRole_congr (hDo j e2).1 (hDo j e2).2 hDs.1 hDs.2.2.2.1 _ _ _ _).2 ((T.roles j y hy).rely (hRB j))
  · rw [hsz] at hj
    rw [hρ j (by omega) (by omega)]; exact T.above j hj
  · have hold : ∃ k', w.heap[p'.chan]? = some (.chan 0 #[] false k' k' false) := by
      by_cases e1 : j = h
      · subst e1; rw [hρh] at e; exact hseats p' h' (.inr e)
      · by_cases e2 : j = i
        · subst e2; rw [hρi] at e; exact hseats p' h' (.inl e)
        · rw [hρ j e1 e2] at e; exact T.chans j p' h' e
    obtain ⟨k', hk'⟩ := hold
    exact hopen _ _ hk'
  · have e1 : j ≠ h := by rintro rfl; rw [hρh] at e; exact (hshut p' h').2 e
    have e2 : j ≠ i := by rintro rfl; rw [hρi] at e; exact (hshut p' h').1 e
    rw [hρ j e1 e2] at e
    obtain ⟨k', hk'⟩ := T.shuts j p' h' e
    refine ⟨k', ?_⟩
    rw [hheap, if_neg (fun ec => by rw [ec, hck] at hk'; cases hk')]
    exact hk'
  · by_cases e1 : j = h
    · subst e1
      rw [hρh] at e
      rcases hwho with ⟨h1, _⟩ | ⟨_, h2, _⟩
      · exact h1
      · rw [e] at h2; cases h2
    · by_cases e2 : j = i
      · subst e2
        rw [hρi] at e
        rcases hwho with ⟨_, h2, _⟩ | ⟨h1, _⟩
        · rw [e] at h2; cases h2
        · exact h1
      · rw [hρ j e1 e2] at e
        exact absurd (some_inj (T.one j k' d' e)).symm e1
  · rcases hwho with ⟨rfl, _, h2⟩ | ⟨rfl, _, h2⟩
    · obtain rfl := some_inj hx
      rw [hρh]; exact h2
    · obtain rfl := some_inj hx
      rw [hρi]; exact h2
  · have e1 : (0 : Nat) ≠ h := by rintro rfl; rw [hρh] at h1; exact hwh _ h1
    have e2 : (0 : Nat) ≠ i := by rintro rfl; rw [hρi] at h1; exact hwi _ h1
    rw [hρ 0 e1 e2] at h1
    rw [upd_ne _ _ e1, upd_ne _ _ e2]
    exact T.awake h1 (hback _ _ h2)
end
end Go.Town
namespace Go.Town
open Go Go.Conc
open Go.ConcN (sumTo upd sumTo_upd upd_ne upd_same sumTo_congr le_sumTo)
def Turn (P : Program) (Post : Value → World → Prop) (gs : Array Goroutine) (w : World) (sl : Option (Nat × Nat)) (t : Trace) (h : Nat) : Prop :=
  (∃ m' ops, runT P (crowd gs w sl) h = (.next m', ops) ∧ Ends P Post m' (t ++ ops)) ∨ (∃ o w' ops, runT P (crowd gs w sl) h = (.ended o w', ops) ∧ ∀ wm sm, Good P Post (crowd gs wm sm) o w' (t ++ ops))
section
variable {P : Program} {C : Cfg} {b o : Nat} {Anch Fin : Goroutine → World → Prop} {who who' : Option Nat} {rel rel' : Nat → Prop} {ρ : Nat → Role} {q : Nat → Nat} {gs gs' : Array Goroutine} {w w' : World} {t t' u : Trace} {sl : Option (Nat × Nat)}
variable {Post : Value → World → Prop} {h k d : Nat} {a : Goroutine}
theorem turn (hA : ∀ g w, Anch g w → g.status = .running) (hAW : ∀ g w, Anch g w → ∃ m, Goes P true (RB C b o 0) (DW b o) (AtW1 P C b o Anch Fin) m g w) (hc : h = 0 ∨ 0 < k) (T : Town P C b o Anch Fin (some h) rel ρ q gs w t) (hr : ρ h = .self k d) (hi : gs[h]? = some a) (hrun : a.status = .running)
    (next : ∀ rel' ρ' q' gs₁ w₁ sl' t₁, Town P C b o Anch Fin (some h) rel' ρ' q' gs₁ w₁ t₁ → ρ' h = .self k d → gs₁.size = gs.size → gs₁[h]? = some a → (∀ j, Adv (ρ j) (ρ' j)) → (Hush ρ → rel' = rel ∧ Hush ρ') → Out (hidOf C) w w₁ → Turn P Post gs₁ w₁ sl' t₁ h) : Ends P Post (crowd gs w sl) t := by
  generalize hμ : meas ρ q gs.size = μ
  induction lex4_wf.apply μ generalizing rel ρ q gs w sl t with
  | intro μ _ ihμ =>
    have haw := T.awakeAll hA (fun x y hx hy => by
      obtain rfl := self_is T hx
      rw [hi] at hy
      obtain rfl := some_inj hy
      exact awake_of (.inl hrun))
    obtain ⟨i, g, dr, sl', hgi, hg, hst⟩ := crowd_pick (P := P) (w := w) (sl := sl) haw ⟨h, a, hi, hrun⟩
    have Td := T.at dr
    have hod : Out (hidOf C) w (w.at dr) := Out.at _ w dr
    by_cases e : i = h
    · subst e
      rcases next rel ρ q gs (w.at dr) sl' t Td hr rfl hi (fun j => .rfl' _) (fun h => ⟨rfl, h⟩) hod with ⟨m', ops, h1, h2⟩ | ⟨o', w', ops, h1, h2⟩
      · exact Ends.step (hst.trans h1) h2
      · exact Ends.last (hst.trans h1) (h2 w sl)
    · have hns : (ρ i).isSelf = false := by
        cases hs : (ρ i).isSelf with
        | false => rfl
        | true => exact absurd (self_is T hs) e
      rcases Td.byAny (sl := sl') hA hAW (still_running Td hi hrun) hgi hns hg (fun p home _ x y hx hy => by
          obtain rfl := self_is T hx
          rw [hi] at hy
          obtain rfl := some_inj hy
          exact offersAt_of_not_blocked (by rw [hrun]; simp) _ _) with hm | ⟨rfl, hw6, _⟩
      · obtain ⟨gs', w', ops, ρ', q', who', rel', k1, k2, k3, k4, k5, k6, k7, k8, k9, k10, kc⟩ := hm
        have hsf : (ρ h).isSelf = true := by rw [hr]; rfl
        have hwho := k7 ⟨h, hsf⟩
        subst hwho
        refine Ends.step (hst.trans k1) ?_
        exact ihμ (meas ρ' q' gs'.size) (by rw [← hμ, k2]; exact k4) k3 (adv_self (k6 h) hr) (by rw [k8 h hsf]; exact hi) (fun r₁ ρ₁ q₁ gs₁ w₁ sl₁ t₁ j1 j2 j3 j4 j5 jc j6 => next r₁ ρ₁ q₁ gs₁ w₁ sl₁ t₁ j1 j2 (j3.trans k2) j4 (fun j => (k6 j).trans (j5 j)) (fun h => ⟨(jc (kc h).2).1.trans (kc h).1, (jc (kc h).2).2⟩) ((hod.trans k5).trans j6)) rfl
      · exact absurd hw6 (no_w6 T hc hr hi)
def There (w : World) (l : Loc) : Prop := (∃ x j, l = .cell ⟨x, j, none⟩ ∧ x < w.heap.size) ∨ ∃ r ob, l = .obj r ∧ w.heap[r]? = some ob ∧ isCells ob = false
theorem Town.hired {n : Nat} {a' child : Goroutine} {S Q : Loc → Prop} {r : Role} (T : Town P C b o Anch Fin (some h) rel ρ q gs w t) (hr : ρ h = .self (k + 1) 0) (hi : gs[h]? = some a)
    (hS : ∀ l, S l → There w l ∧ ¬ C.Sh l ∧ ¬ C.Gr l ∧ ∀ g, ¬ C.Pv g l) (hQ : ∀ l, Q l → There w l ∧ ¬ C.Sh l ∧ ¬ C.Gr l ∧ ∀ g, ¬ C.Pv g l ∧ ¬ C.St g l)
    (hrole : InRole P (C.hire gs.size S Q) b o Anch Fin gs.size r n child w) (hcount : r.count = 1) (hdd : r.dd = 0) (hlast : r.isLast = false) (hself : r.isSelf = false) (hloose : r.loose = true) (hshut : ∀ p h', r ≠ .shut p h')
    (hseat : ∀ p' h', r = .seat p' h' → (∃ k', w.heap[p'.chan]? = some (.chan 0 #[] false k' k' false)) ∧ ∀ j p h'', ρ j = .seat p h'' → p.chan = p'.chan → p.out = p'.out) (fh : FuncId) (pos : String) (fc : FuncId) :
    Town P (C.hire gs.size S Q) b o Anch Fin (some h) rel (upd (upd ρ h (.self k 0)) gs.size r) (upd q gs.size n) ((gs.setIfInBounds h a').push child) w (t ++ #[{ g := h, fn := fh, pos := pos, act := .go gs.size }, { g := gs.size, fn := fc, pos := pos, act := .start }]) := by
  have hlt : h < gs.size := (Array.getElem?_eq_some_iff.1 hi).1
  have hne : h ≠ gs.size := by omega
  have hsz : ((gs.setIfInBounds h a').push child).size = gs.size + 1 := by simp
  have hnone : ρ gs.size = .none := T.above _ (Nat.le_refl _)
  have hn0 : gs.size ≠ 0 := by have := T.some1; omega
  have ρh : upd (upd ρ h (.self k 0)) gs.size r h = .self k 0 := by rw [upd_ne _ _ hne, upd_same]
  have ρn : upd (upd ρ h (.self k 0)) gs.size r gs.size = r := upd_same _ _ _
  have ρo : ∀ j, j ≠ h → j ≠ gs.size → upd (upd ρ h (.self k 0)) gs.size r j = ρ j := fun j h1 h2 => by rw [upd_ne _ _ h2, upd_ne _ _ h1]
  have hr' : r ≠ .none := by rintro rfl; exact hrole
  have hon : C.on := T.isOn (i := h) (by rw [hr]; exact Nat.succ_ne_zero k)
  have mem : ∀ l, There w l → l.isMemory = true := by rintro l (⟨x, j, rfl, _⟩ | ⟨r, ob, rfl, _⟩) <;> rfl
  have htr := T.tr.hire (h := h) (S := S) (Q := Q) (K' := Knows (t ++ #[{ g := h, fn := fh, pos := pos, act := .go gs.size }, { g := gs.size, fn := fc, pos := pos, act := .start }]) h) (fun i hi => hi) hlt (T.notDd (by rw [hr]; simp)) (by rw [hr]; rfl) (by rw [hnone]; rfl) (fun g l hg => T.old g l hg) (fun l hl => ⟨mem l (hS l hl).1, (hS l hl).2⟩) (fun l hl => ⟨mem l (hQ l hl).1, (hQ l hl).2⟩) fh pos fc (fun _ h _ => h)
  have hcnt : cnt (upd (upd ρ h (.self k 0)) gs.size r) (gs.size + 1) = cnt ρ gs.size := by
    have e1 := cnt_upd (ρ := ρ) (.self k 0) hlt
    rw [hr] at e1
    have e2 : cnt (upd (upd ρ h (.self k 0)) gs.size r) (gs.size + 1) = cnt (upd ρ h (.self k 0)) gs.size + r.count := by
      show sumTo gs.size _ + _ = _
      simp only [ρn]
      congr 1
      exact sumTo_congr fun j hj => by rw [upd_ne _ _ (by omega)]
    simp only [Role.count] at e1
    omega
  have e0 : ∀ s, ρ 0 = .wait s → upd (upd ρ h (.self k 0)) gs.size r 0 = .wait s := fun s hs => by
    rw [ρo 0 (by rintro rfl; rw [hr] at hs; cases hs) (Ne.symm hn0)]; exact hs
  have hlast' : ∀ j, (upd (upd ρ h (.self k 0)) gs.size r j).isLast = (ρ j).isLast := fun j => by
    by_cases e1 : j = h
    · subst e1; rw [ρh, hr]; rfl
    · by_cases e2 : j = gs.size
      · subst e2; rw [ρn, hlast, hnone]; rfl
      · rw [ρo j e1 e2]
  have hwg : WgOk b o (upd (upd ρ h (.self k 0)) gs.size r) (gs.size + 1) w := by
    have hw := T.wg hon
    unfold WgOk at hw ⊢
    by_cases hwt : ∃ s, ρ 0 = .wait s
    · obtain ⟨s, hs⟩ := hwt
      rw [e0 s hs]
      rw [hs] at hw
      cases s with
      | w3 =>
        simp only [hcnt, hlast'] at hw ⊢
        rcases hw with hw | ⟨hw1, i, hw2, hw3⟩
        · exact .inl hw
        · refine .inr ⟨hw1, i, hw2, ?_⟩
          have hil : (ρ i).isLast = true := by rcases hw3 with ⟨h | h, _⟩ | ⟨h, _⟩ <;> rw [h] <;> rfl
          have i1 : i ≠ h := by rintro rfl; rw [hr] at hil; cases hil
          have i2 : i ≠ gs.size := by rintro rfl; rw [hnone] at hil; cases hil
          rw [ρo i i1 i2]; exact hw3
      | _ => simp only [hcnt, hlast'] at hw ⊢; exact hw
    · have n1 : ∀ s, ρ 0 ≠ .wait s := fun s hs => hwt ⟨s, hs⟩
      have n2 : ∀ s, upd (upd ρ h (.self k 0)) gs.size r 0 ≠ .wait s := fun s hs => by
        by_cases e1 : (0 : Nat) = h
        · subst e1; rw [ρh] at hs; cases hs
        · rw [ρo 0 e1 (Ne.symm hn0)] at hs; exact n1 s hs
      have hw' : (∀ j, (ρ j).isLast = false) ∧ WgIs b o w (cnt ρ gs.size * KK) 0 := by
        cases hz : ρ 0 with
        | wait s => exact absurd hz (n1 s)
        | _ => rw [hz] at hw; exact hw
      cases hz : upd (upd ρ h (.self k 0)) gs.size r 0 with
      | wait s => exact absurd hz (n2 s)
      | _ => simp only [hcnt, hlast']; exact hw'
  refine ⟨⟨fun g g' l hp hgg => ?_, fun g l hs => ?_, fun l hl => ?_⟩, T.ad, T.shs, T.grs, fun g hg => ?_, fun g l hg => ?_, fun g l hg => ?_, fun g x j hg => ?_, fun g x hg => ?_, ?_, fun j y hy => ?_, fun j hj => ?_, fun j p' h' e => ?_, fun j l p p' h₁ h₂ e1 e2 hch => ?_, fun j p' h' e => ?_, fun j k' d' e => ?_, fun x hx => ?_, by rw [hsz, hcnt]; exact T.few, by rw [hsz]; exact fun _ => hwg, fun c => absurd hon c, by rw [hsz]; omega, fun h1 h2 => ?_⟩
  · rcases hp with hp | ⟨rfl, hp⟩
    · refine ⟨?_, ?_⟩
      · rintro (h1 | ⟨rfl, h1⟩)
        · exact (T.ok.apart g g' l hp hgg).1 h1
        · exact ((hQ l h1).2.2.2 g).1 hp
      · rintro (h1 | ⟨rfl, h1⟩)
        · exact (T.ok.apart g g' l hp hgg).2 h1
        · exact (hS l h1).2.2.2 g hp
    · refine ⟨?_, ?_⟩
      · rintro (h1 | ⟨rfl, _⟩)
        · exact ((hQ l hp).2.2.2 g').1 h1
        · exact hgg rfl
      · rintro (h1 | ⟨rfl, _⟩)
        · exact ((hQ l hp).2.2.2 g').2 h1
        · exact hgg rfl
  · refine ⟨?_, ?_⟩
    · rintro (h1 | ⟨_, h1⟩)
      · exact (T.ok.off g l hs).1 h1
      · exact (hQ l h1).2.1 hs
    · rintro (h1 | ⟨_, h1⟩)
      · exact (T.ok.off g l hs).2 h1
      · exact (hS l h1).2.1 hs
  · refine ⟨(T.ok.gr l hl).1, fun g => ⟨?_, ?_⟩⟩
    · rintro (h1 | ⟨_, h1⟩)
      · exact ((T.ok.gr l hl).2 g).1 h1
      · exact (hQ l h1).2.2.1 hl
    · rintro (h1 | ⟨_, h1⟩)
      · exact ((T.ok.gr l hl).2 g).2 h1
      · exact (hS l h1).2.2.1 hl
  · obtain ⟨d, e⟩ := T.dds g hg
    rw [ρo g (by rintro rfl; rw [hr] at e; cases e) (by rintro rfl; rw [hnone] at e; cases e)]; exact ⟨d, e⟩
  · rw [hsz]
    rcases hg with (hg | ⟨rfl, _⟩) | (hg | ⟨rfl, _⟩)
    · have := T.old g l (.inl hg); omega
    · omega
    · have := T.old g l (.inr hg); omega
    · omega
  · rcases hg with (hg | ⟨_, hg⟩) | (hg | ⟨_, hg⟩)
    · exact T.plain g l (.inl hg)
    · rcases (hS l hg).1 with ⟨x, j, e, _⟩ | ⟨r, ob, e, _⟩
      · exact .inl ⟨x, j, e⟩
      · exact .inr ⟨r, e⟩
    · exact T.plain g l (.inr hg)
    · rcases (hQ l hg).1 with ⟨x, j, e, _⟩ | ⟨r, ob, e, _⟩
      · exact .inl ⟨x, j, e⟩
      · exact .inr ⟨r, e⟩
  · rcases hg with (hg | ⟨_, hg⟩) | (hg | ⟨_, hg⟩)
    · exact T.inb g x j (.inl hg)
    · rcases (hQ _ hg).1 with ⟨x', j', e, h1⟩ | ⟨r, ob, e, _⟩
      · injection e with e; injection e with e; subst e; exact h1
      · cases e
    · exact T.inb g x j (.inr hg)
    · rcases (hS _ hg).1 with ⟨x', j', e, h1⟩ | ⟨r, ob, e, _⟩
      · injection e with e; injection e with e; subst e; exact h1
      · cases e
  · rcases hg with (hg | ⟨_, hg⟩) | (hg | ⟨_, hg⟩)
    · exact T.inbo g x (.inl hg)
    · rcases (hQ _ hg).1 with ⟨x', j', e, _⟩ | ⟨r, ob, e, h1, h2⟩
      · cases e
      · injection e with e; subst e; exact ⟨ob, h1, h2⟩
    · exact T.inbo g x (.inr hg)
    · rcases (hS _ hg).1 with ⟨x', j', e, _⟩ | ⟨r, ob, e, h1, h2⟩
      · cases e
      · injection e with e; subst e; exact ⟨ob, h1, h2⟩
  · rw [hsz]
    have e1 : (fun j => (upd (upd ρ h (.self k 0)) gs.size r j).dd) = fun j => (ρ j).dd := by
      funext j
      by_cases e1 : j = h
      · subst e1; rw [ρh, hr]; rfl
      · by_cases e2 : j = gs.size
        · subst e2; rw [ρn, hdd, hnone]; rfl
        · rw [ρo j e1 e2]
    rw [e1]
    refine htr.account (fun p hp => .inl hp) (fun z a ha hm hs _ => ⟨fun hk => .inl hk, fun g hg hl => .inr (hl.imp (fun hl' => ?_) id)⟩)
    clear hl hg
    rcases hl' with hlo | hgn
    · have h1 : g ≠ h := fun e => by rw [e, hr] at hlo; cases hlo
      have h2 : g ≠ gs.size := fun e => by rw [e, hnone] at hlo; cases hlo
      rw [ρo g h1 h2]; exact hlo
    · rw [hgn, ρn]; exact hloose
  · by_cases e2 : j = gs.size
    · subst e2
      have : ((gs.setIfInBounds h a').push child)[gs.size]? = some child := by
        rw [show gs.size = (gs.setIfInBounds h a').size by simp]; exact Array.getElem?_push_size
      rw [this] at hy
      obtain rfl := some_inj hy
      rw [ρn, upd_same]; exact hrole
    · rw [Array.getElem?_push, if_neg (by simpa using e2)] at hy
      by_cases e1 : j = h
      · subst e1; rw [ρh]; trivial
      · rw [Array.getElem?_setIfInBounds_ne (Ne.symm e1)] at hy
        rw [ρo j e1 e2, upd_ne _ _ e2]
        refine (inRole_congr (C := C) (C' := C.hire gs.size S Q) (fun l => ?_) (fun l => ?_) rfl rfl _ _ _ _).2 (T.roles j y hy)
        · exact ⟨fun h => h.elim id fun h => absurd h.1 e2, .inl⟩
        · exact ⟨fun h => h.elim id fun h => absurd h.1 e2, .inl⟩
  · rw [hsz] at hj
    rw [ρo j (by omega) (by omega)]; exact T.above j (by omega)
  · by_cases e1 : j = h
    · subst e1; rw [ρh] at e; cases e
    · by_cases e2 : j = gs.size
      · subst e2; rw [ρn] at e; exact (hseat p' h' e).1
      · rw [ρo j e1 e2] at e; exact T.chans j p' h' e
  · have of : ∀ j p h₁, upd (upd ρ h (.self k 0)) gs.size r j = .seat p h₁ → (j = gs.size ∧ r = .seat p h₁) ∨ ρ j = .seat p h₁ := fun j p h₁ e => by
      by_cases e1 : j = h
      · subst e1; rw [ρh] at e; cases e
      · by_cases e2 : j = gs.size
        · subst e2; rw [ρn] at e; exact .inl ⟨rfl, e⟩
        · rw [ρo j e1 e2] at e; exact .inr e
    rcases of j p h₁ e1 with ⟨_, a1⟩ | a1 <;> rcases of l p' h₂ e2 with ⟨_, a2⟩ | a2
    · rw [a1] at a2; injection a2 with a2; rw [a2]
    · exact ((hseat p h₁ a1).2 l p' h₂ a2 hch.symm).symm
    · exact (hseat p' h₂ a2).2 j p h₁ a1 hch
    · exact T.apart j l p p' h₁ h₂ a1 a2 hch
  · by_cases e1 : j = h
    · subst e1; rw [ρh] at e; cases e
    · by_cases e2 : j = gs.size
      · subst e2; rw [ρn] at e; exact absurd e (hshut p' h')
      · rw [ρo j e1 e2] at e; exact T.shuts j p' h' e
  · by_cases e1 : j = h
    · subst e1; rfl
    · by_cases e2 : j = gs.size
      · subst e2; rw [ρn] at e; rw [e] at hself; cases hself
      · rw [ρo j e1 e2] at e; exact T.one j _ _ e
  · obtain rfl := some_inj hx
    rw [ρh]; exact .inr (.inl rfl)
  · have e1 : (0 : Nat) ≠ h := by rintro rfl; rw [ρh] at h1; cases h1
    rw [ρo 0 e1 (Ne.symm hn0)] at h1
    rw [upd_ne _ _ (Ne.symm hn0)]
    exact T.awake h1 h2
end
end Go.Town
