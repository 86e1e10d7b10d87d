/-
  The holder's words to the WaitGroup in company: Add(1); Wait, from its call to its return.
  More words: a load of what stands still; a port; a region that draws its order.
  Continuations: a goroutine that holds the memory stands at g, over a lesser world; from there the run ends well, whatever the others do.
-/
import Derived.Conc.CompanyDraw
import Derived.Conc.MuWords
import Derived.Test.YtihmcigoofhpmaaZap
import Derived.Test.YtihmcigoofhpmaaZaq
import Derived.Test.YtihmcigoofhpmaaZar
import Derived.Test.YtihmcigoofhpmaaZas
set_option linter.all false
namespace Go.Town
open Go Go.Conc Go.Conc.Lib Go.ConcR.Gen
open Go.ConcN (sumTo upd sumTo_upd upd_ne upd_same sumTo_congr le_sumTo)
section
variable {P : Program} {C : Cfg} {b o : Nat} {Anch Fin : Goroutine → World → Prop} {who who' : Option Nat} {rel rel' : Nat → Prop} {ρ : Nat → Role} {q : Nat → Nat} {gs gs' : Array Goroutine} {w w' : World} {t t' u : Trace} {sl : Option (Nat × Nat)}
variable {Post : Value → World → Prop} {h k d : Nat} {a : Goroutine}
theorem Town.reAnch (T : Town P C b o Anch Fin who rel ρ q gs w t) (hw : ∀ s, ρ 0 ≠ .wait s) (Anch' Fin' : Goroutine → World → Prop) : Town P C b o Anch' Fin' who rel ρ q gs w t := by
  refine ⟨T.ok, T.ad, T.shs, T.grs, T.dds, T.old, T.plain, T.inb, T.inbo, T.tr, fun i g hg => ?_, T.above, T.chans, T.apart, T.shuts, T.one, T.holder, T.few, T.wg, T.off, T.some1, T.awake⟩
  have hrole := T.roles i g hg
  cases hr : ρ i with
  | wait s =>
    rw [hr] at hrole
    obtain ⟨rfl, _⟩ := hrole
    exact absurd hr (hw s)
  | _ => rw [hr] at hrole; exact hrole
theorem Town.toWait {n : Nat} (T : Town P C b o Anch Fin (some 0) rel ρ q gs w t) (hr : ρ 0 = .self 0 0) (hon : C.on) (hi : gs[0]? = some a) (hwait : Goes P true (RB C b o 0) (DW b o) (AtKd P C b o Anch) n a w) :
    Town P C b o Anch Fin (some 0) rel (upd ρ 0 (.wait .w0)) (upd q 0 n) gs w t := by
  have hlt := T.some1
  have hself : ∀ j, j ≠ 0 → (ρ j).isSelf = false := fun j hj => by
    cases hs : (ρ j).isSelf with
    | false => rfl
    | true => exact absurd (self_is T hs) hj
  obtain ⟨hl, hwg⟩ := T.wgSelf hon hr
  have hcnt : cnt (upd ρ 0 (.wait .w0)) gs.size = cnt ρ gs.size := cnt_same hlt (by rw [hr]; rfl)
  refine ⟨T.ok, T.ad, T.shs, T.grs, fun g hg => ?_, T.old, T.plain, T.inb, T.inbo, ?_, fun i y hy => ?_, fun i hi' => ?_, fun i p home e => ?_, fun i j p p' h h' e e' => ?_, fun i p home e => ?_, fun i k d e => ?_, fun x hx => .inl (some_inj hx).symm, by rw [hcnt]; exact T.few, fun _ => ?_, fun c => absurd hon c, hlt, fun e => by rw [upd_same] at e; cases e⟩
  · rw [upd_ne _ _ (fun e => by subst e; obtain ⟨d, e⟩ := T.dds _ hg; rw [hr] at e; cases e)]
    exact T.dds g hg
  · rw [upd_loose (by rw [hr]; rfl)]
    have : (fun j => (upd ρ 0 (.wait .w0) j).dd) = fun j => (ρ j).dd := by
      funext j
      by_cases e : j = 0
      · subst e; rw [upd_same, hr]; rfl
      · rw [upd_ne _ _ e]
    rw [this]; exact T.tr
  · by_cases e : i = 0
    · subst e
      rw [hi] at hy; obtain rfl := some_inj hy
      rw [upd_same, upd_same]
      exact ⟨rfl, hwait⟩
    · rw [upd_ne _ _ e, upd_ne _ _ e]; exact T.roles i y hy
  · rw [upd_ne _ _ (by omega)]; exact T.above i hi'
  · by_cases e' : i = 0
    · subst e'; rw [upd_same] at e; cases e
    · rw [upd_ne _ _ e'] at e; exact T.chans i p home e
  · have h1 : i ≠ 0 := fun x => by subst x; rw [upd_same] at e; cases e
    have h2 : j ≠ 0 := fun x => by subst x; rw [upd_same] at e'; cases e'
    rw [upd_ne _ _ h1] at e
    rw [upd_ne _ _ h2] at e'
    exact T.apart i j p p' h h' e e'
  · have h1 : i ≠ 0 := fun x => by subst x; rw [upd_same] at e; cases e
    rw [upd_ne _ _ h1] at e
    exact T.shuts i p home e
  · have h1 : i ≠ 0 := fun x => by subst x; rw [upd_same] at e; cases e
    rw [upd_ne _ _ h1] at e
    have := hself i h1
    rw [e] at this; cases this
  · unfold WgOk
    rw [upd_same]
    exact ⟨no_last hl rfl, by rw [hcnt]; exact hwg⟩
theorem dh_of_d0 {w w' : World} {es : Array Event} (h : D0 w w' es) : DH C w w' es := by obtain ⟨rfl, rfl⟩ := h; exact dh_quiet w'
theorem holdTo (hA : ∀ g w, Anch g w → g.status = .running) (hAW : ∀ g w, Anch g w → ∃ m, Goes P true (RB C b o 0) (DW b o) (AtW1 P C b o Anch Fin) m g w) {St : Goroutine → World → Prop} (hSt : ∀ g w, St g w → g.status = .running) (hc : h = 0 ∨ 0 < k)
    (hW : ∃ m, Goes P (h == 0) (Out (hidOf C)) D0 (Stb (Out (hidOf C)) St) m a w) (T : Town P C b o Anch Fin (some h) rel ρ q gs w t) (hr : ρ h = .self k d) (hi : gs[h]? = some a)
    (next : ∀ rel' ρ' q' gs' a' w' sl' t', Town P C b o Anch Fin (some h) rel' ρ' q' gs' w' t' → ρ' h = .self k d → gs'.size = gs.size → gs'[h]? = some a' → St a' w' → (∀ j, Adv (ρ j) (ρ' j)) → (Hush ρ → rel' = rel ∧ Hush ρ') → Out (hidOf C) w w' → Turn P Post gs' w' sl' t' h) : Ends P Post (crowd gs w sl) t := by
  obtain ⟨m, hg⟩ := hW
  refine hold hA hAW hc (Walk.mono (fun _ _ _ x => dh_of_d0 x) (Walk.of_goes (goes_out hg))) T hr hi (Out.refl _ _) fun rel₁ ρ₁ q₁ gs₁ a₁ w₁ sl₁ t₁ T₁ hr₁ hs₁ hi₁ hst had hh => ?_
  have hrun := hSt _ _ (hst.1 w₁ (Out.refl _ _))
  refine turn hA hAW hc T₁ hr₁ hi₁ hrun fun rel₂ ρ₂ q₂ gs₂ w₂ sl₂ t₂ T₂ hr₂ hs₂ hi₂ had₂ hh₂ ho₂ => ?_
  exact next rel₂ ρ₂ q₂ gs₂ a₁ w₂ sl₂ t₂ T₂ hr₂ (hs₂.trans hs₁) hi₂ (hst.1 w₂ ho₂) (fun j => (had j).trans (had₂ j)) (fun hH => ⟨(hh₂ (hh hH).2).1.trans (hh hH).1, (hh₂ (hh hH).2).2⟩) (hst.2.trans ho₂)
theorem cnt_le (hc : ∀ j, j ≠ 0 → (ρ j).count ≤ 1) : ∀ n, cnt ρ n ≤ n + (ρ 0).count
  | 0 => Nat.zero_le _
  | n + 1 => by
    show cnt ρ n + (ρ n).count ≤ _
    by_cases e : n = 0
    · subst e
      show 0 + _ ≤ _
      omega
    · have := cnt_le hc n
      have := hc n e
      omega
theorem Town.cnt_le (T : Town P C b o Anch Fin (some 0) rel ρ q gs w t) (hr : ρ 0 = .self k d) : cnt ρ gs.size ≤ gs.size + k := by
  have := Go.Town.cnt_le (ρ := ρ) (fun j hj => by
    cases hx : ρ j with
    | self k' d' => exact absurd (self_is T (x := j) (by rw [hx]; rfl)) hj
    | _ => simp [Role.count]) gs.size
  rw [hr] at this
  exact this
theorem addEnd (hA : ∀ g w, Anch g w → g.status = .running) (hAW : ∀ g w, Anch g w → ∃ m, Goes P true (RB C b o 0) (DW b o) (AtW1 P C b o Anch Fin) m g w) (hon : C.on) {g₀ : Goroutine}
    (T : Town P C b o Anch Fin (some 0) rel ρ q gs w t) (hr : ρ 0 = .self k 1) (hi : gs[0]? = some a) (hW : Hw P C (AtA3 P C g₀) a w)
    (next : ∀ rel' ρ' q' gs' w' sl' t', Town P C b o Anch Fin (some 0) rel' ρ' q' gs' w' t' → ρ' 0 = .self k 0 → gs'.size = gs.size → gs'[0]? = some g₀ → (∀ j, j ≠ 0 → Adv (ρ j) (ρ' j)) → Out (hidOf C) w w' → Ends P Post (crowd gs' w' sl') t') : Ends P Post (crowd gs w sl) t := by
  refine holdTo hA hAW (fun g w x => x.1) (.inl rfl) hW T hr hi fun rel₁ ρ₁ q₁ gs₁ a₁ w₁ sl₁ t₁ T₁ hr₁ hs₁ hi₁ hst₁ had₁ _ ho₁ => .inl ?_
  obtain ⟨hrun₁, g₁, hgo₁, m, hw₁⟩ := hst₁
  obtain ⟨q₁', T₁', _⟩ := T₁.word hon hA hr₁ hi₁ (a' := g₁) (es := #[mkE .enable]) (d' := 0) rfl (by simp)
  refine ⟨_, _, runT_crowd_go (sl := sl₁) hi₁ hgo₁, ?_⟩
  have hlt₁ : 0 < gs₁.size := T₁.some1
  refine hold hA hAW (.inl rfl) (Walk.mono (fun _ _ _ x => dh_of_d0 x) (Walk.of_goes (goes_out hw₁))) T₁' (upd_same _ _ _) (by simp [hlt₁]) (Out.refl _ _) fun rel₂ ρ₂ q₂ gs₂ a₂ w₂ sl₂ t₂ T₂ hr₂ hs₂ hi₂ hst₂ had₂ _ => ?_
  obtain ⟨rfl, ho₂⟩ := hst₂
  refine next rel₂ ρ₂ q₂ gs₂ w₂ sl₂ t₂ T₂ hr₂ (by rw [hs₂]; simpa using hs₁) hi₂ (fun j hj => (had₁ j).trans ?_) (ho₁.trans ho₂)
  have := had₂ j
  rw [upd_ne _ _ hj] at this
  exact this
theorem addOne {L : WgLink} (H : WgLib P L) (hA : ∀ g w, Anch g w → g.status = .running) (hAW : ∀ g w, Anch g w → ∃ m, Goes P true (RB C b o 0) (DW b o) (AtW1 P C b o Anch Fin) m g w) (hon : C.on)
    {b₀ : Frame} {a₀ : Act} {ops₀ : Array Oper} {i₀ : Nat} {rest₀ : List Nat} {k₀ : List Item} {cs : List Frame}
    (T : Town P C b o Anch Fin (some 0) rel ρ q gs w t) (hr : ρ 0 = .self k 0) (hf : gs.size + k < 2147483640)
    (hi : gs[0]? = some (G ((base L.add).at ⟨#[.pointer (some ⟨b, o, none⟩), .int .i64 1] ++ Array.replicate 115 undef, []⟩ [.code ((addFn L).body.getD .skip)]) (b₀.at a₀ (.inRegion ops₀ (i₀ :: rest₀) :: k₀) :: cs)))
    (next : ∀ rel' ρ' q' gs' w' sl' t', Town P C b o Anch Fin (some 0) rel' ρ' q' gs' w' t' → ρ' 0 = .self (k + 1) 0 → gs'.size = gs.size → gs'[0]? = some (G (b₀.at (a₀.put ((ops₀[i₀]?).bind (·.dst)) (.tuple #[])) (.inRegion ops₀ rest₀ :: k₀)) cs) → (∀ j, j ≠ 0 → Adv (ρ j) (ρ' j)) → Out (hidOf C) w w' → Ends P Post (crowd gs' w' sl') t') : Ends P Post (crowd gs w sl) t := by
  obtain ⟨n, hwalk⟩ := addWalk H C b o (b₀ := b₀) (a₀ := a₀) (ops₀ := ops₀) (i₀ := i₀) (rest₀ := rest₀) (k₀ := k₀) (cs := cs)
  have hHas : HasWg b o w := by obtain ⟨s, m, x⟩ := (T.wg hon).live; exact Live.has ⟨s, m, x⟩
  refine holdTo hA hAW (fun g w x => x.1) (.inl rfl) ⟨n, hwalk w hHas⟩ T hr hi fun rel₁ ρ₁ q₁ gs₁ a₁ w₁ sl₁ t₁ T₁ hr₁ hs₁ hi₁ hst₁ had₁ _ ho₁ => .inl ?_
  obtain ⟨hrun₁, g₁, hgo₁, hw₁⟩ := hst₁
  obtain ⟨q₁', T₁', _⟩ := T₁.word hon hA hr₁ hi₁ (a' := g₁) (es := #[mkE .disable]) (d' := 1) rfl (by simp)
  refine ⟨_, _, runT_crowd_go (sl := sl₁) hi₁ hgo₁, ?_⟩
  have hlt₁ : 0 < gs₁.size := T₁.some1
  refine holdTo hA hAW (fun g w x => x.1) (.inl rfl) hw₁ T₁' (upd_same _ _ _) (by simp [hlt₁]) fun rel₂ ρ₂ q₂ gs₂ a₂ w₂ sl₂ t₂ T₂ hr₂ hs₂ hi₂ hst₂ had₂ _ ho₂ => .inl ?_
  obtain ⟨hrun₂, hadd⟩ := hst₂
  have hs₂' : gs₂.size = gs.size := by rw [hs₂]; simpa using hs₁
  have hcb := T₂.cnt_le hr₂
  have had02 : ∀ j, j ≠ 0 → Adv (ρ j) (ρ₂ j) := fun j hj => (had₁ j).trans (by have := had₂ j; rw [upd_ne _ _ hj] at this; exact this)
  obtain ⟨g₂, hgo₂, hz, hnz⟩ := hadd (cnt ρ₂ gs₂.size) (by omega) (T₂.wgSelf hon hr₂).2
  obtain ⟨q₂', T₂', _, hout₂⟩ := T₂.added hon hA hr₂ hi₂ g₂ (by omega)
  refine ⟨_, _, runT_crowd_go (sl := sl₂) hi₂ hgo₂, ?_⟩
  have hlt₂ : 0 < gs₂.size := T₂.some1
  by_cases hv : cnt ρ₂ gs₂.size = 0
  ·
    refine holdTo hA hAW (fun g w x => x.1) (.inl rfl) (hz hv) T₂' (upd_same _ _ _) (by simp [hlt₂]) fun rel₃ ρ₃ q₃ gs₃ a₃ w₃ sl₃ t₃ T₃ hr₃ hs₃ hi₃ hst₃ had₃ _ ho₃ => .inl ?_
    obtain ⟨hrun₃, g₃, hgo₃, hw₃⟩ := hst₃
    obtain ⟨q₃', T₃', _⟩ := T₃.word hon hA hr₃ hi₃ (a' := g₃) (es := #[mkE (.read ⟨b, o + 1, none⟩)]) (d' := 1) rfl (by simp)
    refine ⟨_, _, runT_crowd_go (sl := sl₃) hi₃ hgo₃, ?_⟩
    have hlt₃ : 0 < gs₃.size := T₃.some1
    refine addEnd hA hAW hon T₃' (upd_same _ _ _) (by simp [hlt₃]) hw₃ fun rel₄ ρ₄ q₄ gs₄ w₄ sl₄ t₄ T₄ hr₄ hs₄ hi₄ had₄ ho₄ => next rel₄ ρ₄ q₄ gs₄ w₄ sl₄ t₄ T₄ hr₄ ?_ hi₄ (fun j hj => (had02 j hj).trans ?_) ((((ho₁.trans ho₂).trans hout₂).trans ho₃).trans ho₄)
    · rw [hs₄]; simp only [Array.size_setIfInBounds, Array.size_map]; rw [hs₃]; simpa using hs₂'
    · have h3 := had₃ j
      rw [upd_ne _ _ hj] at h3
      have h4 := had₄ j hj
      rw [upd_ne _ _ hj] at h4
      exact h3.trans h4
  · refine addEnd hA hAW hon T₂' (upd_same _ _ _) (by simp [hlt₂]) (hnz hv) fun rel₄ ρ₄ q₄ gs₄ w₄ sl₄ t₄ T₄ hr₄ hs₄ hi₄ had₄ ho₄ => next rel₄ ρ₄ q₄ gs₄ w₄ sl₄ t₄ T₄ hr₄ ?_ hi₄ (fun j hj => (had02 j hj).trans ?_) (((ho₁.trans ho₂).trans hout₂).trans ho₄)
    · rw [hs₄]; simpa using hs₂'
    · have h4 := had₄ j hj
      rw [upd_ne _ _ hj] at h4
      exact h4
theorem waitJoin {L : WgLink} (H : WgLib P L) (hon : C.on)
    {b₀ : Frame} {a₀ : Act} {ops₀ : Array Oper} {i₀ : Nat} {rest₀ : List Nat} {k₀ : List Item} {cs : List Frame}
    (T : Town P C b o Anch Fin (some 0) rel ρ q gs w t) (hr : ρ 0 = .self 0 0) (hl : ∀ j, j ≠ 0 → (ρ j).leaving = true ∨ ρ j = .none)
    (hi : gs[0]? = some (G ((base L.wait).at ⟨#[.pointer (some ⟨b, o, none⟩)] ++ Array.replicate 83 undef, []⟩ [.code ((waitFn L).body.getD .skip)]) (b₀.at a₀ (.inRegion ops₀ (i₀ :: rest₀) :: k₀) :: cs)))
    (next : ∀ ρ' q' gs' w' sl' t', Town P C b o Anch Fin (some 0) (fun _ => False) ρ' q' gs' w' t' → ρ' 0 = .self 0 0 → gs'.size = gs.size → gs'[0]? = some (G (b₀.at (a₀.put ((ops₀[i₀]?).bind (·.dst)) (.tuple #[])) (.inRegion ops₀ rest₀ :: k₀)) cs) → Hush ρ' → Out (hidOf C) w w' → Ends P Post (crowd gs' w' sl') t') : Ends P Post (crowd gs w sl) t := by
  have hL : Live b o w := (T.wg hon).live
  obtain ⟨n, hstart⟩ := waitStart H hon b o (b₀ := b₀) (a₀ := a₀) (ops₀ := ops₀) (i₀ := i₀) (rest₀ := rest₀) (k₀ := k₀) (cs := cs)
  have hround := waitRound H hon b o (b₀ := b₀) (a₀ := a₀) (ops₀ := ops₀) (i₀ := i₀) (rest₀ := rest₀) (k₀ := k₀) (cs := cs)
  have T₁ := (T.reAnch (by rw [hr]; simp) (AnchW L b o (b₀.at a₀ (.inRegion ops₀ (i₀ :: rest₀) :: k₀)) cs) (FinW P C (G (b₀.at (a₀.put ((ops₀[i₀]?).bind (·.dst)) (.tuple #[])) (.inRegion ops₀ rest₀ :: k₀)) cs))).toWait hr hon hi (hstart w hL)
  refine join anchW_running hround T₁ (upd_same _ _ _) (fun j hj => by rw [upd_ne _ _ hj]; exact hl j hj) fun ρ₁ q₁ gs₁ a₁ w₁ sl₁ t₁ T₂ hr₂ hs₂ hi₂ hfin hout hq => ?_
  obtain ⟨m, hg⟩ := hfin
  have hhush : Hush ρ₁ := fun j => by
    by_cases e : j = 0
    · subst e; rw [hr₂]; exact .inr (.inr rfl)
    · rcases hq j e with ⟨d, h⟩ | h
      · exact .inr (.inl ⟨d, h⟩)
      · exact .inl h
  refine hold anchW_running hround (.inl rfl) (Walk.mono (fun _ _ _ x => dh_of_d0 x) (Walk.of_goes (goes_out hg))) T₂ hr₂ hi₂ (Out.refl _ _) fun rel₃ ρ₃ q₃ gs₃ a₃ w₃ sl₃ t₃ T₃ hr₃ hs₃ hi₃ hst₃ had₃ hh₃ => ?_
  obtain ⟨rfl, ho₃⟩ := hst₃
  obtain ⟨rfl, hh⟩ := hh₃ hhush
  exact next ρ₃ q₃ gs₃ w₃ sl₃ t₃ (T₃.reAnch (by rw [hr₃]; simp) Anch Fin) hr₃ (hs₃.trans hs₂) hi₃ hh (hout.trans ho₃)
end
end Go.Town
namespace Go.Town
open Go Go.Conc Go.Conc.Lib Go.ConcR.Gen
section
variable {P : Program} {main : Bool} {R : World → World → Prop} {D : World → World → Array Event → Prop} {Stop : Goroutine → World → Prop} {I : World → Prop} {n d : Nat} {b : Frame} {a : Act} {k : List Item} {cs : List Frame} {ops : Array Oper} {i : Nat} {rest : List Nat} {o : Oper} {w : World}
theorem Wk.valE (W : Wk R D I) (E : Event → Prop) (v : Value) (ho : ops[i]? = some o) (hw : Region.wanted o (yielded ops a.tmps) = true) (hk : b.kind ≠ .early)
    (he : ∀ w, I w → (execOp a.eval o).run P w = .ok (.value v) w ∧ ∀ e ∈ (execOp a.eval o).events P w #[], E e) (hD : ∀ w es, (∀ e ∈ es, E e) → D w w es)
    (h : ∃ n, ∀ w, I w → Goes P main R D Stop n (G (b.at (a.put o.dst v) (.inRegion ops rest :: k)) cs) w) : ∃ n, ∀ w, I w → Goes P main R D Stop n (G (b.at a (.inRegion ops (i :: rest) :: k)) cs) w := by
  obtain ⟨n, h⟩ := h
  refine ⟨n + 1, fun w hK => Goes.step rfl fun w₁ h₁ => ?_⟩
  have hK₁ := W.keep _ _ h₁ hK
  rw [stepG_value ho hw hk (he w₁ hK₁).1]
  exact ⟨hD _ _ fun e hm => (he w₁ hK₁).2 e (mem_listed hm), h w₁ hK₁⟩
theorem port_of {p : Port} (ho : ops[i]? = some o) (hw : Region.wanted o (yielded ops a.tmps) = true) (hk : b.kind ≠ .early) (hr : ∀ w, (execOp a.eval o).run P w = .ok (.comm p.cases true p.shape) w) (he : ∀ w, (execOp a.eval o).events P w #[] = #[]) :
    AtPort P main p (G (b.at a (.inRegion ops (i :: rest) :: k)) cs) (G (b.at a (.inRegion ops (i :: rest) :: k)) cs) :=
  ⟨rfl, rfl, rfl, rfl, fun w => by rw [stepG_comm ho hw hk (hr w), listed_nil (he w)]⟩
theorem served_at {v : Value} : Go.Conc.served (G (b.at a (.inRegion ops (i :: rest) :: k)) cs) v = G (b.at (a.put ((ops[i]?).bind (·.dst)) v) (.inRegion ops rest :: k)) cs := by
  simp only [Go.Conc.served, G, Frame.finish_at]
def lins (m : Region.Mode) (ops : Array Oper) : Nat → Array Bool → List Nat → List (List Nat)
  | 0, _, acc => [acc.reverse]
  | fuel + 1, listed, acc =>
    if Region.ready m ops listed = [] then [acc.reverse] else (Region.ready m ops listed).flatMap fun i => lins m ops fuel (listed.setIfInBounds i true) (i :: acc)
theorem lins_sound {m : Region.Mode} {ops : Array Oper} : ∀ (fuel t : Nat) (listed : Array Bool) (acc : List Nat), Region.linearise.go m ops fuel t listed acc ∈ lins m ops fuel listed acc
  | 0, _, _, _ => by simp [Region.linearise.go, lins]
  | fuel + 1, t, listed, acc => by
    simp only [Region.linearise.go, lins]
    change (match (Region.ready m ops listed)[t % (Region.ready m ops listed).length]? with
      | some i => Region.linearise.go m ops fuel (t / (Region.ready m ops listed).length) (listed.setIfInBounds i true) (i :: acc)
      | none => acc.reverse) ∈ _
    cases hi : (Region.ready m ops listed)[t % (Region.ready m ops listed).length]? with
    | none =>
      have hnil : Region.ready m ops listed = [] := by
        cases hr : Region.ready m ops listed with
        | nil => rfl
        | cons x xs =>
          rw [hr] at hi
          have hlt : t % (x :: xs).length < (x :: xs).length := Nat.mod_lt _ (by simp)
          simp at hi
          simp at hlt
          omega
      rw [if_pos hnil]; simp
    | some j =>
      have hne : Region.ready m ops listed ≠ [] := by
        intro h; rw [h] at hi; simp at hi
      rw [if_neg hne, List.mem_flatMap]
      exact ⟨j, List.mem_of_getElem? hi, lins_sound fuel _ _ _⟩
theorem schedule_mem {mixed : Bool} {ops : Array Oper} (hd : Region.departs ops = false) (t : Nat) : Region.schedule mixed ops t ∈ lins .any ops ops.size (Array.replicate ops.size false) [] := by
  simp only [Region.schedule, hd, Bool.not_false, Bool.or_true, if_true, Region.linearise]
  exact lins_sound _ _ _ _
theorem one_bound {α : Type} {Q : Nat → α → Prop} (hm : ∀ n m x, n ≤ m → Q n x → Q m x) : ∀ (L : List α), (∀ x ∈ L, ∃ n, Q n x) → ∃ n, ∀ x ∈ L, Q n x
  | [], _ => ⟨0, fun _ h => by cases h⟩
  | x :: L, h => by
    obtain ⟨n, hn⟩ := h x (by simp)
    obtain ⟨m, hm'⟩ := one_bound hm L (fun y hy => h y (by simp [hy]))
    refine ⟨max n m, fun y hy => ?_⟩
    rcases List.mem_cons.1 hy with rfl | hy
    · exact hm _ _ _ (Nat.le_max_left _ _) hn
    · exact hm _ _ _ (Nat.le_max_right _ _) (hm' y hy)
theorem Wk.draw (W : Wk R D I) (hD : ∀ w : World, D w { w with drawn := w.drawn + 1 } #[]) (hI : ∀ w : World, I w → I { w with drawn := w.drawn + 1 }) {id : Nat} (hdep : Region.departs ops = false)
    (h : ∀ l ∈ lins .any ops ops.size (Array.replicate ops.size false) [], ∃ n, ∀ w, I w → Goes P main R D Stop n (G (b.at a (.inRegion ops l :: k)) cs) w) :
    ∃ n, ∀ w, I w → Goes P main R D Stop n (G (b.at a (.code (.region id ops true) :: k)) cs) w := by
  obtain ⟨n, hn⟩ := one_bound (Q := fun n l => ∀ w, I w → Goes P main R D Stop n (G (b.at a (.inRegion ops l :: k)) cs) w) (fun n m x hnm hx w hw => Go.ConcM.goes_le hnm (hx w hw)) _ h
  refine ⟨n + 1, fun w hK => Goes.step rfl fun w₁ h₁ => ?_⟩
  rw [stepG_region_draw]
  exact ⟨hD _, hn _ (schedule_mem hdep _) _ (hI _ (W.keep _ _ h₁ hK))⟩
end
theorem dr_of {C : Cfg} {i : Nat} (w : World) (es : Array Event) (h : ∀ e ∈ es, EvR C i e) : DR C i w w es := ⟨Out.refl _ _, h⟩
theorem dr_draw {C : Cfg} {i : Nat} (w : World) : DR C i w { w with drawn := w.drawn + 1 } #[] := ⟨Out.at _ w _, fun e he => by simp at he⟩
theorem evR_still {C : Cfg} {i : Nat} {x k : Nat} (hs : C.St i (.cell ⟨x, k, none⟩)) (hsh : ¬ C.Sh (.cell ⟨x, k, none⟩)) : EvR C i ⟨.cell ⟨x, k, none⟩, false, false⟩ :=
  ⟨.inr ⟨_, rfl, hsh, .inr ⟨rfl, hs⟩⟩, by simp, by simp, by simp⟩
end Go.Town
namespace Go.Town
open Go Go.RowKit Go.Conc Go.Conc.Lib Go.ConcR Go.ConcR.Gen
def NoG (_ : Goroutine) (_ : World) : Prop := False
theorem noG_run (g : Goroutine) (w : World) (h : NoG g w) : g.status = .running := h.elim
theorem noG_wait {P : Program} {C : Cfg} {b o : Nat} (g : Goroutine) (w : World) (h : NoG g w) : ∃ m, Goes P true (RB C b o 0) (DW b o) (AtW1 P C b o NoG NoG) m g w := h.elim
def Steady (Rs : (Nat → Prop) → (Nat → Role) → Nat → Prop) : Prop := ∀ rel ρ rel' ρ' n, Rs rel ρ n → (∀ j, j ≠ 0 → Adv (ρ j) (ρ' j)) → ρ' 0 = ρ 0 → (Hush ρ → rel' = rel ∧ Hush ρ') → Rs rel' ρ' n
def Alone (rel : Nat → Prop) (ρ : Nat → Role) (_ : Nat) : Prop := rel = (fun _ => False) ∧ Hush ρ
theorem steady_alone : Steady Alone := fun rel ρ rel' ρ' n h _ _ hh => by
  obtain ⟨h1, h2⟩ := h
  obtain ⟨h3, h4⟩ := hh h2
  exact ⟨h3.trans h1, h4⟩
structure Lay (C : Cfg) (wl : World) : Prop where
  cut : Cut (hidOf C) (frzOf C) wl
  no : ∀ g r, ¬ C.Pv g (.obj r) ∧ ¬ C.St g (.obj r)
theorem Weak.unre {wl w : World} {T : Nat → Question → Nat} {d : Nat} (h : Weak (wl.re T d) w) : Weak wl w := ⟨h.size, h.obj, h.os, h.out, h.noOdd⟩
theorem Cut.unre {hid frz : Nat → Nat → Prop} {wl : World} {T : Nat → Question → Nat} {d : Nat} (h : Cut hid frz (wl.re T d)) : Cut hid frz wl := ⟨h.hid, h.frz⟩
theorem mov_quiet {hid frz : Nat → Nat → Prop} (w : World) : Mov hid frz w w #[] := ⟨Nat.le_refl _, fun _ c _ _ h => ⟨c, h, rfl, fun _ _ => rfl⟩, fun _ _ h _ => h, fun _ o h ho => ⟨o, h, ho⟩, rfl, rfl, rfl, fun e he => by simp at he⟩
section
variable {P : Program} {C : Cfg} {b o : Nat} {Post : Value → World → Prop} {Rs : (Nat → Prop) → (Nat → Role) → Nat → Prop} {ok : FuncId → Bool}
def Can (P : Program) (C : Cfg) (b o : Nat) (Post : Value → World → Prop) (k : Nat) (Rs : (Nat → Prop) → (Nat → Role) → Nat → Prop) (wl : World) (g : Goroutine) : Prop :=
  ∀ rel ρ q gs w sl t, Town P C b o NoG NoG (some 0) rel ρ q gs w t → ρ 0 = .self k 0 → Rs rel ρ gs.size → gs[0]? = some g → Weak wl w → ∀ n U, Shut n U wl → Below n U w → Ends P (fun v w' => Post v w' ∧ Below n U w') (crowd gs w sl) t
variable {k : Nat} {wl : World} {g : Goroutine}
theorem Can.re (h : Can P C b o Post k Rs wl g) (T : Nat → Question → Nat) (d : Nat) : Can P C b o Post k Rs (wl.re T d) g := fun rel ρ q gs w sl t hT hr hR hi hw n U hs => h rel ρ q gs w sl t hT hr hR hi hw.unre n U hs.unre
theorem Can.mono {Rs' : (Nat → Prop) → (Nat → Role) → Nat → Prop} (h : Can P C b o Post k Rs wl g) (hR : ∀ rel ρ n, Rs' rel ρ n → Rs rel ρ n) : Can P C b o Post k Rs' wl g := fun rel ρ q gs w sl t hT hr hR' hi hw => h rel ρ q gs w sl t hT hr (hR _ _ _ hR') hi hw
theorem Can.walk (hS : Steady Rs) (hL : Lay C wl)
    (hW : ∀ w n U, Weak wl w → Shut n U wl → Walk P true (Out (hidOf C)) (MovB n U (hidOf C) (frzOf C)) (fun g' w' => ∃ wl', Weak wl' w' ∧ Shut n U wl' ∧ Can P C b o Post k Rs wl' g') g w) : Can P C b o Post k Rs wl g := by
  intro rel ρ q gs w sl t T hr hRs hi hw n U hsh hbl
  refine hold (h := 0) noG_run noG_wait (.inl rfl) (((hW w n U hw hsh).keeps (fun _ _ ho hb => below_out hsh hL.cut hb ho) hbl).mono fun _ _ _ => dh_of_mov hL.no) T hr hi (Out.refl _ _) ?_
  rintro rel' ρ' q' gs' a' w' sl' t' T' hr' hsz hi' ⟨⟨wl', hw', hsh', hc⟩, hbl'⟩ hadv hh
  exact hc _ _ _ _ _ _ _ T' hr' (hsz ▸ hS _ _ _ _ _ hRs (fun j _ => hadv j) (hr'.trans hr.symm) hh) hi' hw' n U hsh' hbl'
theorem Can.ctl (hS : Steady Rs) (hL : Lay C wl) {g' : Goroutine} (hrun : g.status = .running) (hst : ∀ w, stepG P true g w = .go g' w #[]) (h : Can P C b o Post k Rs wl g') : Can P C b o Post k Rs wl g :=
  .walk hS hL fun _ n U hw hs => Walk.of_step hrun fun w₁ h₁ => ⟨g', w₁, #[], hst w₁, ⟨mov_quiet w₁, id⟩, .stop fun _ h₂ => ⟨wl, (hw.outside hL.cut h₁).outside hL.cut h₂, hs, h⟩⟩
def Behind (P : Program) (C : Cfg) (b o : Nat) (Post : Value → World → Prop) (k : Nat) (Rs : (Nat → Prop) → (Nat → Role) → Nat → Prop) (b₀ : Frame) (K : List Item) (cs : List Frame) (e : Exit) (a : Act) (w : World) : Prop :=
  match e with
  | .normal => Cut (hidOf C) (frzOf C) w → Can P C b o Post k Rs w (G (b₀.at a K) cs)
  | .ret => Cut (hidOf C) (frzOf C) w → ∀ todo, Can P C b o Post k Rs w (G { b₀.at a todo with mode := .returning } cs)
  | _ => False
theorem Can.code (hp : OkProg P ok) (hS : Steady Rs) (hL : Lay C wl) {b₀ : Frame} {a : Act} {c : Code} {K : List Item} {cs : List Frame} (hf : OkFr P ok (b₀.at a [.code c])) (h : ∀ T d, c.wp P (Behind P C b o Post k Rs b₀ K cs) a (wl.re T d)) :
    Can P C b o Post k Rs wl (G (b₀.at a (.code c :: K)) cs) := by
  refine .walk hS hL fun w n U hw hsh => ?_
  refine (comp_code hp (hidOf C) (frzOf C) true cs K hf (Q := Behind P C b o Post k Rs b₀ K cs) (fun e a w hq => ?_) (fun e a w T d _ hq => ?_) h hL.cut hw hsh).bind (Out.refl _) ?_
  · cases e <;> first | exact .inl rfl | exact .inr rfl | exact hq.elim
  · cases e <;> first | exact hq.elim | exact fun hc => (hq hc.unre).re T d | exact fun hc todo => (hq hc.unre todo).re T d
  · rintro g w' ⟨fr, wl', rfl, ⟨e, a', hq, hm⟩, hc', hw', hsh'⟩
    refine .stop fun w₁ h₁ => ⟨wl', hw'.outside hc' h₁, hsh', ?_⟩
    cases e with
    | normal => rw [hm]; exact hq hc'
    | ret => obtain ⟨todo, hm⟩ := hm; rw [hm]; exact hq hc' todo
    | _ => exact hq.elim
theorem Can.call (hp : OkProg P ok) (hS : Steady Rs) (hL : Lay C wl) {c : Frame} {cs : List Frame} {f : FuncId} (h1 : ok f = true) (h2 : okFn P f = true) {args : Array Value}
    (h : ∀ T d, Calls P f args (wl.re T d) fun e w' => ∃ v, e = .returned v ∧ (Cut (hidOf C) (frzOf C) w' → Can P C b o Post k Rs w' (G (c.finish v) cs))) : Can P C b o Post k Rs wl (G (Frame.enter P f args .normal) (c :: cs)) := by
  refine .walk hS hL fun w n U hw hsh => ?_
  refine (comp_call hp (hidOf C) (frzOf C) true c cs h1 h2 (R := fun v w' => Cut (hidOf C) (frzOf C) w' → Can P C b o Post k Rs w' (G (c.finish v) cs)) (fun v w T d hq hc => (hq hc.unre).re T d) h hL.cut hw hsh).bind (Out.refl _) ?_
  rintro g w' ⟨v, wl', rfl, hq, hc', hw', hsh'⟩
  exact .stop fun w₁ h₁ => ⟨wl', hw'.outside hc' h₁, hsh', hq hc'⟩
theorem Can.sem (hS : Steady Rs) (hL : Lay C wl) (hrun : g.status = .running) {α : Type} {s : Sem α} (hs : Natural P s) {fn : FuncId} {nx : α → Goroutine} (hst : ∀ w v w', s.run P w = .ok v w' → stepG P true g w = .go (nx v) w' (seen P fn (s.events P w #[])))
    (h : ∀ T d, ∃ v w', s.run P (wl.re T d) = .ok v w' ∧ (Cut (hidOf C) (frzOf C) w' → Can P C b o Post k Rs w' (nx v))) : Can P C b o Post k Rs wl g := by
  refine .walk hS hL fun w n U hw hsh => Walk.of_step hrun fun w₁ h₁ => ?_
  have hw₁ := hw.outside hL.cut h₁
  obtain ⟨v, w', hr, hc⟩ := h w₁.tape w₁.drawn
  have hrr : s.runT P (wl.re w₁.tape w₁.drawn) #[] = (.ok v w', (s.runT P (wl.re w₁.tape w₁.drawn) #[]).2) := by
    have := Sem.runT_fst P s (wl.re w₁.tape w₁.drawn) #[]
    rw [hr] at this
    rw [← this]
  have hwr : Weak (wl.re w₁.tape w₁.drawn) w₁ := weak_rel hw₁ _ _
  obtain ⟨w2, h3, h4⟩ := same_run hs hwr hrr trivial (fun _ _ => rfl)
  have h5 : s.run P w₁ = .ok v w2 := by rw [← Sem.runT_fst P s w₁ #[], h3]; rfl
  have h6 : s.events P w₁ #[] = (s.runT P (wl.re w₁.tape w₁.drawn) #[]).2 := by show (s.runT P w₁ #[]).2 = _; rw [h3]
  have hcut : Cut (hidOf C) (frzOf C) w' := (hL.cut.re w₁.tape w₁.drawn).upd h4.updl
  refine ⟨nx v, w2, _, hst w₁ v w2 h5, ?_, .stop fun w₃ h₃ => ⟨w', h4.weak.outside hcut h₃, (hsh.re _ _).upd h4.updl, hc hcut⟩⟩
  rw [h6]
  exact ⟨mov_of (hL.cut.re _ _) h4.seen hwr.size, fun hb => below_upd (hsh.re _ _) hb hwr.size h4.upd⟩
theorem Can.op (hS : Steady Rs) (hL : Lay C wl) {b₀ : Frame} {a : Act} {K : List Item} {cs : List Frame} {ops : Array Oper} {i : Nat} {rest : List Nat} {x : Oper} (ho : ops[i]? = some x) (hw : Region.wanted x (yielded ops a.tmps) = true) (hk : b₀.kind ≠ .early) (hok : okOp P ok x = true)
    (h : ∀ T d, ∃ v w', (execOp a.eval x).run P (wl.re T d) = .ok (.value v) w' ∧ (Cut (hidOf C) (frzOf C) w' → Can P C b o Post k Rs w' (G (b₀.at (a.put x.dst v) (.inRegion ops rest :: K)) cs))) :
    Can P C b o Post k Rs wl (G (b₀.at a (.inRegion ops (i :: rest) :: K)) cs) := by
  refine .walk hS hL fun w n U hw0 hsh => Walk.of_step rfl fun w₁ h₁ => ?_
  have hw₁ := hw0.outside hL.cut h₁
  obtain ⟨v, w', hr, hc⟩ := h w₁.tape w₁.drawn
  have hrr : (execOp a.eval x).runT P (wl.re w₁.tape w₁.drawn) #[] = (.ok (.value v) w', ((execOp a.eval x).runT P (wl.re w₁.tape w₁.drawn) #[]).2) := by
    have := Sem.runT_fst P (execOp a.eval x) (wl.re w₁.tape w₁.drawn) #[]
    rw [hr] at this
    rw [← this]
  have hwr : Weak (wl.re w₁.tape w₁.drawn) w₁ := weak_rel hw₁ _ _
  obtain ⟨w2, h3, h4⟩ := same_run (natural_execOp hok a) hwr hrr trivial (fun _ _ => rfl)
  have h5 : (execOp a.eval x).run P w₁ = .ok (.value v) w2 := by rw [← Sem.runT_fst P _ w₁ #[], h3]; rfl
  have h6 : (execOp a.eval x).events P w₁ #[] = ((execOp a.eval x).runT P (wl.re w₁.tape w₁.drawn) #[]).2 := by show ((execOp a.eval x).runT P w₁ #[]).2 = _; rw [h3]
  have hcut : Cut (hidOf C) (frzOf C) w' := (hL.cut.re w₁.tape w₁.drawn).upd h4.updl
  refine ⟨_, w2, _, stepG_value ho hw hk h5, ?_, .stop fun w₃ h₃ => ⟨w', h4.weak.outside hcut h₃, (hsh.re _ _).upd h4.updl, hc hcut⟩⟩
  unfold listed
  rw [h6]
  exact ⟨mov_of (hL.cut.re _ _) h4.seen hwr.size, fun hb => below_upd (hsh.re _ _) hb hwr.size h4.upd⟩
end
end Go.Town
