/-
  The crew's company: who sits where; the task, the report, the hiring, the close.
  The crew hires; the crew sends one home.
  The crew sends one home.
  The crew's record; start.
  start: the worker's channel is entered.
-/
import Derived.Deep.RegionHeld3
import Derived.Deep.QuietTactic
import Derived.BigQuiet
import Derived.WalkKit
import Derived.RegionTactic
import Derived.BigRegion
import Derived.ChangeAlike
import Derived.Test.YtihmcigoofhpmaaZav
set_option linter.all false
namespace Go.Town.Kp
open Go Go.Conc Go.Conc.Lib Go.ConcR.Gen Go.RowKit Go.Town Go.Proofs
open Go.ConcN (upd upd_ne upd_same)
structure Wd where
  bc : Nat
  bt : Nat
  x : Nat
  s : Int
inductive Ws where
  | live (u : Wd)
  | tells (u : Wd) (f : Bool)
  | gone
def Ws.ok (c rp : Nat) : Ws → Role → Prop
  | .live u, r => r = .seat (.recv u.x (.int .i64 0) true) (HomeR c u.bc u.bt u.x rp u.s)
  | .tells u f, r => r = .seat (.send rp (rep u.x u.s f) undef) (HomeS c u.bc u.bt u.x rp u.s f)
  | .gone, r => r.leaving = true ∨ r = .none
def Ws.wd : Ws → Option Wd
  | .live u | .tells u _ => some u
  | .gone => none
def Crew (c rp N : Nat) (L : Nat → Ws) (_ : Nat → Prop) (ρ : Nat → Role) (n : Nat) : Prop := n = N ∧ 0 < N ∧ ∀ j, j ≠ 0 → (L j).ok c rp (ρ j)
theorem Ws.ok_adv {c rp : Nat} {s : Ws} {r r' : Role} (h : s.ok c rp r) (ha : Adv r r') : s.ok c rp r' := by
  cases s with
  | live u => exact (adv_seat ha).1 h
  | tells u f => exact (adv_seat ha).1 h
  | gone =>
    rcases ha with rfl | ⟨_, h2⟩ | ⟨t, t', rfl, rfl⟩
    · exact h
    · exact .inl h2
    · rcases h with h | h <;> cases h
theorem crew_free (c rp N : Nat) (L : Nat → Ws) : Free (Crew c rp N L) := fun _ _ _ _ _ h ha => ⟨h.1, h.2.1, fun j hj => Ws.ok_adv (h.2.2 j hj) (ha j hj)⟩
structure Posts (C : Cfg) (c : Nat) (L : Nat → Ws) : Prop where
  on : C.on
  no : ∀ g l, ¬ C.Pv g l
  ks : ∀ j u, j ≠ 0 → (L j).wd = some u → KS C j c u.bc u.bt
structure Apart (rp : Nat) (L : Nat → Ws) : Prop where
  ne : ∀ i j u v, i ≠ 0 → j ≠ 0 → i ≠ j → (L i).wd = some u → (L j).wd = some v → u.x ≠ v.x
  rp : ∀ i u, i ≠ 0 → (L i).wd = some u → u.x ≠ rp
section
variable {C : Cfg} {c rp N : Nat} {L : Nat → Ws} {Post : Value → World → Prop} {k : Nat} {wl : World} {g g₂ : Goroutine}
theorem crew_seat {rel : Nat → Prop} {ρ : Nat → Role} {n : Nat} (h : Crew c rp N L rel ρ n) {i : Nat} (hi : i ≠ 0) {p : Port} {home : Goroutine → World → Prop} (hp : ρ i = .seat p home) :
    (∃ u, L i = .live u ∧ p = .recv u.x (.int .i64 0) true ∧ home = HomeR c u.bc u.bt u.x rp u.s) ∨ ∃ u f, L i = .tells u f ∧ p = .send rp (rep u.x u.s f) undef ∧ home = HomeS c u.bc u.bt u.x rp u.s f := by
  have := h.2.2 i hi
  cases hL : L i with
  | live u => rw [hL] at this; rw [show ρ i = _ from this] at hp; cases hp; exact .inl ⟨u, rfl, rfl, rfl⟩
  | tells u f => rw [hL] at this; rw [show ρ i = _ from this] at hp; cases hp; exact .inr ⟨u, f, rfl, rfl, rfl⟩
  | gone => rw [hL] at this; rcases this with q | q <;> rw [hp] at q <;> cases q
theorem crew_apart (hD : Apart rp L) {rel : Nat → Prop} {ρ : Nat → Role} {n : Nat} (h : Crew c rp N L rel ρ n) (h0 : ρ 0 = .self k 0) : ∀ x y p p' h₁ h₂, ρ x = .seat p h₁ → ρ y = .seat p' h₂ → p.chan = p'.chan → p.out = p'.out := by
  intro x y p p' h₁ h₂ hx hy hc
  have hx0 : x ≠ 0 := by rintro rfl; rw [h0] at hx; cases hx
  have hy0 : y ≠ 0 := by rintro rfl; rw [h0] at hy; cases hy
  rcases crew_seat h hx0 hx with ⟨u, hu, rfl, _⟩ | ⟨u, f, hu, rfl, _⟩ <;> rcases crew_seat h hy0 hy with ⟨v, hv, rfl, _⟩ | ⟨v, f', hv, rfl, _⟩
  · rfl
  · exact absurd hc (hD.rp x u hx0 (by rw [hu]; rfl))
  · exact absurd hc.symm (hD.rp y v hy0 (by rw [hv]; rfl))
  · rfl
theorem crew_upd {rel : Nat → Prop} {ρ : Nat → Role} {n j : Nat} (h : Crew c rp N L rel ρ n) (hj : j ≠ 0) {s : Ws} {r : Role} (hr : s.ok c rp r) : Crew c rp N (upd L j s) rel (upd (upd ρ j r) 0 (.self k 0)) n := by
  refine ⟨h.1, h.2.1, fun i hi => ?_⟩
  rw [upd_ne _ _ hi]
  by_cases e : i = j
  · subst e; rw [upd_same, upd_same]; exact hr
  · rw [upd_ne _ _ e, upd_ne _ _ e]; exact h.2.2 i hi
theorem Apart.turn (hD : Apart rp L) {j : Nat} {s : Ws} {u v : Wd} (hu : (L j).wd = some u) (hv : s.wd = some v) (hx : v.x = u.x) : Apart rp (upd L j s) := by
  have e : ∀ i w, (Go.ConcN.upd L j s i).wd = some w → ∃ w', (L i).wd = some w' ∧ w'.x = w.x := fun i w hw => by
    by_cases e : i = j
    · subst e; rw [upd_same, hv] at hw; cases hw; exact ⟨u, hu, hx.symm⟩
    · rw [upd_ne _ _ e] at hw; exact ⟨w, hw, rfl⟩
  refine ⟨fun i j u v hi hj hij h1 h2 => ?_, fun i u hi h1 => ?_⟩
  · obtain ⟨u', a1, a2⟩ := e i u h1
    obtain ⟨v', b1, b2⟩ := e j v h2
    rw [← a2, ← b2]; exact hD.ne i j u' v' hi hj hij a1 b1
  · obtain ⟨u', a1, a2⟩ := e i u h1
    rw [← a2]; exact hD.rp i u' hi a1
theorem bne0 {j : Nat} (h : j ≠ 0) : (j == 0) = false := by simp [h]
theorem sends (hL : Lay C wl) (hP : Posts C c L) (hD : Apart rp L) {j : Nat} {u : Wd} (hj : j ≠ 0) (hl : L j = .live u) (v : Int) {kk : Nat} (hck : wl.heap[u.x]? = some (.chan 0 #[] false kk kk false))
    (hrp : ∃ k', wl.heap[rp]? = some (.chan 0 #[] false k' k' false)) (hat : AtPort Try.prog true (.send u.x (.int .i64 v) undef) g g₂)
    (h : Can Try.prog C c 5 Post k (Crew c rp N (upd L j (.tells ⟨u.bc, u.bt, u.x, IntKind.i64.wrap (u.s + v)⟩ (v == 0)))) (wl.setChan u.x 0 #[] false (kk + 1) (kk + 1) false) (Go.Conc.served g₂ undef)) : Can Try.prog C c 5 Post k (Crew c rp N L) wl g := by
  have hS := hP.ks j u hj (by rw [hl]; rfl)
  refine Can.meets (crew_free c rp N L).steady hL (j := j) (kk := kk) (p := .recv u.x (.int .i64 0) true) (home := HomeR c u.bc u.bt u.x rp u.s)
    (ri := .seat (.send rp (rep u.x (IntKind.i64.wrap (u.s + v)) (v == 0)) undef) (HomeS c u.bc u.bt u.x rp (IntKind.i64.wrap (u.s + v)) (v == 0))) hat
    (fun rel ρ n hR => by have := hR.2.2 j hj; rw [hl] at this; exact this) hj rfl (by simp [Port.out]) (fun rel ρ n i p' home' hR hi hp hc ho => ?_) hck (fun a₂ w w' hh hrb => ?_) ⟨rfl, rfl, rfl, rfl, by simp, by simp⟩ (fun p' h' he => ?_) (fun rel ρ n hR h0 => ?_) (fun rel ρ n hR => ?_) h
  · rcases crew_seat hR hi hp with ⟨u', hu', rfl, _⟩ | ⟨u', f, hu', rfl, _⟩
    · refine Classical.byContradiction fun hne => ?_
      exact hD.ne i j u' u hi hj hne (by rw [hu']; rfl) (by rw [hl]; rfl) hc
    · exact absurd rfl ho
  · obtain ⟨n, hn⟩ := seatTask hS (homeR_rely hS _ _ _ hrb hh) v
    refine ⟨n + 1, ⟨fun w w₁ g r => homeS_rely hS w w₁ g r, .inl ⟨n, rfl, ?_⟩⟩⟩
    rw [bne0 hj]
    exact hn
  · simp only [Role.seat.injEq] at he
    obtain ⟨rfl, _⟩ := he
    exact hrp
  · exact crew_apart (c := c) (N := N) (hD.turn (j := j) (s := .tells ⟨u.bc, u.bt, u.x, IntKind.i64.wrap (u.s + v)⟩ (v == 0)) (u := u) (by rw [hl]; rfl) rfl rfl) (crew_upd hR hj rfl) (upd_same _ _ _)
  · exact crew_upd hR hj rfl
theorem hears (hL : Lay C wl) (hP : Posts C c L) (hD : Apart rp L) {j : Nat} {u : Wd} {f : Bool} (hj : j ≠ 0) (hl : L j = .tells u f) (hone : ∀ i v f', i ≠ 0 → L i = .tells v f' → i = j) {kk : Nat} (hck : wl.heap[rp]? = some (.chan 0 #[] false kk kk false))
    (hx : ∃ k', wl.heap[u.x]? = some (.chan 0 #[] false k' k' false)) {z : Value} (hat : AtPort Try.prog true (.recv rp z false) g g₂)
    (h : Can Try.prog C c 5 Post k (Crew c rp N (upd L j (.live u))) (wl.setChan rp 0 #[] false (kk + 1) (kk + 1) false) (Go.Conc.served g₂ (rep u.x u.s f))) : Can Try.prog C c 5 Post k (Crew c rp N L) wl g := by
  have hS := hP.ks j u hj (by rw [hl]; rfl)
  refine Can.meets (crew_free c rp N L).steady hL (j := j) (kk := kk) (p := .send rp (rep u.x u.s f) undef) (home := HomeS c u.bc u.bt u.x rp u.s f)
    (ri := .seat (.recv u.x (.int .i64 0) true) (HomeR c u.bc u.bt u.x rp u.s)) hat
    (fun rel ρ n hR => by have := hR.2.2 j hj; rw [hl] at this; exact this) hj rfl (by simp [Port.out]) (fun rel ρ n i p' home' hR hi hp hc ho => ?_) hck (fun a₂ w w' hh hrb => ?_) ⟨rfl, rfl, rfl, rfl, by simp, by simp⟩ (fun p' h' he => ?_) (fun rel ρ n hR h0 => ?_) (fun rel ρ n hR => ?_) h
  · rcases crew_seat hR hi hp with ⟨u', hu', rfl, _⟩ | ⟨u', f, hu', rfl, _⟩
    · exact absurd rfl ho
    · exact hone i u' f hi hu'
  · obtain ⟨n, hn⟩ := seatTold hS (homeS_rely hS _ _ _ hrb hh)
    refine ⟨n + 1, ⟨fun w w₁ g r => homeR_rely hS w w₁ g r, .inl ⟨n, rfl, ?_⟩⟩⟩
    rw [bne0 hj]
    exact hn
  · simp only [Role.seat.injEq] at he
    obtain ⟨rfl, _⟩ := he
    exact hx
  · exact crew_apart (c := c) (N := N) (hD.turn (j := j) (s := .live u) (u := u) (by rw [hl]; rfl) rfl rfl) (crew_upd hR hj rfl) (upd_same _ _ _)
  · exact crew_upd hR hj rfl
end
end Go.Town.Kp
namespace Go.Town
open Go Go.Conc
def Frozer (a : Addr) (n b : Nat) (ob ob' : Obj) : Prop :=
  match ob with
  | .cells c e f => ∃ f', ob' = .cells c e f' ∧ (∀ j, frz f j = true → frz f' j = true) ∧ (a.block = b → n ≠ 0 → ∀ j, a.off ≤ j → j < a.off + n → frz f' j = true)
  | _ => ob' = ob
theorem heap_freeze (w : World) (a : Addr) (n b : Nat) (ob : Obj) (h : w.heap[b]? = some ob) : ∃ ob', (w.freeze a n).heap[b]? = some ob' ∧ Frozer a n b ob ob' := by
  unfold World.freeze
  by_cases hn : n = 0
  · rw [if_pos hn]
    refine ⟨ob, h, ?_⟩
    cases ob <;> first | rfl | exact ⟨_, rfl, fun _ h => h, fun _ h => absurd hn h⟩
  · rw [if_neg hn]
    simp only [Array.getElem?_modify]
    by_cases e : a.block = b
    · rw [if_pos e, h]
      refine ⟨_, rfl, ?_⟩
      cases ob <;> try rfl
      rename_i c el f
      obtain ⟨lo, hi⟩ := f
      refine ⟨_, rfl, fun j hj => ?_, fun _ _ j h1 h2 => ?_⟩
      · unfold frz at hj ⊢
        simp only [Bool.and_eq_true, decide_eq_true_eq] at hj ⊢
        split
        · rename_i hlh; simp at hlh; omega
        · simp only; omega
      · unfold frz
        simp only [Bool.and_eq_true, decide_eq_true_eq]
        split <;> simp only <;> omega
    · rw [if_neg e]
      refine ⟨ob, h, ?_⟩
      cases ob <;> first | rfl | exact ⟨_, rfl, fun _ h => h, fun h => absurd h e⟩
theorem size_freeze (w : World) (a : Addr) (n : Nat) : (w.freeze a n).heap.size = w.heap.size := by
  unfold World.freeze; split <;> simp
theorem cell_freeze (w : World) (a : Addr) (n : Nat) (x : Addr) : (w.freeze a n).cell? x = w.cell? x := by
  unfold World.cell?
  cases hb : w.heap[x.block]? with
  | none =>
    have : (w.freeze a n).heap[x.block]? = none := by
      rw [Array.getElem?_eq_none_iff] at hb ⊢; rw [size_freeze]; exact hb
    rw [this]
  | some ob =>
    obtain ⟨ob', h1, h2⟩ := heap_freeze w a n x.block ob hb
    rw [h1]
    cases ob <;> first | (rw [show _ = _ from h2]) | (obtain ⟨f', rfl, _⟩ := h2; rfl)
theorem frozen_freeze {w : World} {a : Addr} {n : Nat} {x : Addr} (h : w.frozen? x = true) : (w.freeze a n).frozen? x = true := by
  unfold World.frozen? at h ⊢
  cases hb : w.heap[x.block]? with
  | none => rw [hb] at h; cases h
  | some ob =>
    obtain ⟨ob', h1, h2⟩ := heap_freeze w a n x.block ob hb
    rw [hb] at h; rw [h1]
    cases ob <;> first | (cases h; done) | skip
    obtain ⟨f', rfl, h3, _⟩ := h2
    exact h3 x.off h
theorem frozen_freeze_self {w : World} {x k : Nat} {v : Value} (h : w.cell? ⟨x, k, none⟩ = some v) : (w.freeze ⟨x, k, none⟩ 1).frozen? ⟨x, k, none⟩ = true := by
  obtain ⟨c, e, f, hb, _⟩ := block_of_cell h
  obtain ⟨ob', h1, f', rfl, _, h3⟩ := heap_freeze w ⟨x, k, none⟩ 1 x _ hb
  unfold World.frozen?
  simp only [h1]
  exact h3 rfl (by decide) k (Nat.le_refl _) (Nat.lt_succ_self _)
theorem frozen_freeze_ne {w : World} {a x : Addr} {n : Nat} (h : a.block ≠ x.block) : (w.freeze a n).frozen? x = w.frozen? x := by
  have : (w.freeze a n).heap[x.block]? = w.heap[x.block]? := by
    unfold World.freeze
    split
    · rfl
    · simp only [Array.getElem?_modify, if_neg h]
  unfold World.frozen?
  rw [this]
theorem obj_freeze {w : World} {a : Addr} {n r : Nat} {ob : Obj} (h : w.heap[r]? = some ob) (hc : isCells ob = false) : (w.freeze a n).heap[r]? = some ob := by
  obtain ⟨ob', h1, h2⟩ := heap_freeze w a n r ob h
  rw [h1]
  cases ob <;> first | (cases hc; done) | (rw [show _ = _ from h2])
theorem Weak.freeze {wl w : World} (h : Weak wl w) (a : Addr) (n : Nat) : Weak (wl.freeze a n) w := by
  refine ⟨(size_freeze _ _ _).trans h.size, fun b o o' h1 h2 => ?_, ?_, ?_, fun b o h1 => ?_⟩
  · obtain ⟨p, hp⟩ : ∃ p, wl.heap[b]? = some p := ⟨_, Array.getElem?_eq_getElem (by have := (Array.getElem?_eq_some_iff.1 h1).1; rw [size_freeze] at this; exact this)⟩
    obtain ⟨ob', e1, e2⟩ := heap_freeze wl a n b p hp
    rw [e1] at h1; cases h1
    have := h.obj b p o' hp h2
    cases p <;> first | (rw [show _ = _ from e2]; exact this) | skip
    obtain ⟨f', rfl, h3, _⟩ := e2
    cases this with
    | same => exact .cut (Nat.le_refl _) (fun _ _ => rfl) (fun k _ hk => h3 k hk)
    | cut g1 g2 g3 => exact .cut g1 g2 (fun k hk h => h3 k (g3 k hk h))
    | blind hb => cases hb
  · unfold World.freeze; split <;> exact h.os
  · unfold World.freeze; split <;> exact h.out
  · obtain ⟨p, hp⟩ : ∃ p, wl.heap[b]? = some p := ⟨_, Array.getElem?_eq_getElem (by have := (Array.getElem?_eq_some_iff.1 h1).1; rw [size_freeze] at this; exact this)⟩
    obtain ⟨ob', e1, e2⟩ := heap_freeze wl a n b p hp
    rw [e1] at h1; cases h1
    have := h.noOdd b p hp
    cases p <;> first | (rw [show _ = _ from e2]; exact this) | (obtain ⟨f', rfl, _⟩ := e2; rfl)
theorem Shut.freeze {n : Nat} {U wl : World} (h : Shut n U wl) (a : Addr) (m : Nat) : Shut n U (wl.freeze a m) := by
  refine ⟨by rw [size_freeze]; exact h.size, fun b o hb ho => ?_⟩
  obtain ⟨p, hp⟩ : ∃ p, wl.heap[b]? = some p := ⟨_, Array.getElem?_eq_getElem (by have := (Array.getElem?_eq_some_iff.1 ho).1; rw [size_freeze] at this; exact this)⟩
  obtain ⟨ob', e1, e2⟩ := heap_freeze wl a m b p hp
  rw [e1] at ho; cases ho
  obtain ⟨o₀, h1, h2⟩ := h.obj b p hb hp
  refine ⟨o₀, h1, ?_⟩
  cases p <;> first | (rw [show _ = _ from e2]; exact h2) | skip
  obtain ⟨f', rfl, h3, _⟩ := e2
  cases h2 with
  | cells g => exact .cells fun k hk => h3 k (g k hk)
  | other _ g1 _ _ => cases g1
end Go.Town
namespace Go.Town.Kp
open Go Go.Conc Go.Conc.Lib Go.ConcR.Gen Go.RowKit Go.Town Go.Proofs
open Go.ConcN (upd upd_ne upd_same)
def hiredW (c bc bt : Nat) (wl : World) : World := ((wl.freeze ⟨bc, 0, none⟩ 1).freeze ⟨bt, 0, none⟩ 1).freeze ⟨c, 2, none⟩ 1
def wants (c bc bt : Nat) (l : Loc) : Prop := l = .cell ⟨bc, 0, none⟩ ∨ l = .cell ⟨bt, 0, none⟩ ∨ l = .cell ⟨c, 2, none⟩
section
variable {C : Cfg} {c rp N : Nat} {L : Nat → Ws} {Post : Value → World → Prop} {k : Nat} {wl : World} {g g' : Goroutine}
theorem KS.hire {i bc bt n : Nat} {S : Loc → Prop} (h : KS C i c bc bt) : KS (C.hire n S (fun _ => False)) i c bc bt := ⟨h.on, .inl h.bs, .inl h.ts, .inl h.rs, h.bn, h.tn, h.rn⟩
theorem hires (hN : 0 < N) (hL : Lay C wl) (hP : Posts C c L) (hD : Apart rp L) {bc bt x kk : Nat} (hb : wl.cell? ⟨bc, 0, none⟩ = some (.pointer (some ⟨c, 0, none⟩))) (ht : wl.cell? ⟨bt, 0, none⟩ = some (.chan (some x))) (hr : wl.cell? ⟨c, 2, none⟩ = some (.chan (some rp)))
    (hck : wl.heap[x]? = some (.chan 0 #[] false kk kk false)) (hxn : ∀ j u, j ≠ 0 → (L j).wd = some u → u.x ≠ x) (hxr : x ≠ rp) (hrun : g.status = .running) (hsp : ∀ w, stepG Try.prog true g w = .spawn g' (born Try.prog (call69 bc bt)) w #[])
    (h : Lay (C.hire N (wants c bc bt) (fun _ => False)) (hiredW c bc bt wl) → Posts (C.hire N (wants c bc bt) (fun _ => False)) c (upd L N (.live ⟨bc, bt, x, 0⟩)) → Apart rp (upd L N (.live ⟨bc, bt, x, 0⟩)) →
      Can Try.prog (C.hire N (wants c bc bt) (fun _ => False)) c 5 Post k (Crew c rp (N + 1) (upd L N (.live ⟨bc, bt, x, 0⟩))) (hiredW c bc bt wl) g') : Can Try.prog C c 5 Post (k + 1) (Crew c rp N L) wl g := by
  have vis : ∀ y j v, wl.cell? ⟨y, j, none⟩ = some v → ¬ C.Sh (.cell ⟨y, j, none⟩) ∧ ¬ C.Gr (.cell ⟨y, j, none⟩) ∧ ∀ g, ¬ C.Pv g (.cell ⟨y, j, none⟩) := fun y j v hv =>
    ⟨fun q => absurd (hv.symm.trans (hL.cut.hid y j (.inl q)).2) (by simp), fun q => absurd (hv.symm.trans (hL.cut.hid y j (.inr (.inl q))).2) (by simp), fun g => hP.no g _⟩
  have hks : KS (C.hire N (wants c bc bt) (fun _ => False)) N c bc bt := ⟨hP.on, .inr ⟨rfl, .inl rfl⟩, .inr ⟨rfl, .inr (.inl rfl)⟩, .inr ⟨rfl, .inr (.inr rfl)⟩, (vis _ _ _ hb).1, (vis _ _ _ ht).1, (vis _ _ _ hr).1⟩
  have hD' : Apart rp (upd L N (.live ⟨bc, bt, x, 0⟩)) := by
    refine ⟨fun i j u v hi hj hij h1 h2 => ?_, fun i u hi h1 => ?_⟩
    · by_cases ei : i = N
      · subst ei
        rw [upd_same] at h1; cases h1
        rw [upd_ne _ _ (Ne.symm hij)] at h2
        exact Ne.symm (hxn j v hj h2)
      · rw [upd_ne _ _ ei] at h1
        by_cases ej : j = N
        · subst ej
          rw [upd_same] at h2; cases h2
          exact hxn i u hi h1
        · rw [upd_ne _ _ ej] at h2
          exact hD.ne i j u v hi hj hij h1 h2
    · by_cases ei : i = N
      · subst ei; rw [upd_same] at h1; cases h1; exact hxr
      · rw [upd_ne _ _ ei] at h1; exact hD.rp i u hi h1
  have hP' : Posts (C.hire N (wants c bc bt) (fun _ => False)) c (upd L N (.live ⟨bc, bt, x, 0⟩)) := by
    refine ⟨hP.on, fun g l q => q.elim (hP.no g l) (fun q => q.2), fun j u hj hu => ?_⟩
    by_cases e : j = N
    · subst e; rw [upd_same] at hu; cases hu; exact hks
    · rw [upd_ne _ _ e] at hu; exact (hP.ks j u hj hu).hire
  have hL' : Lay (C.hire N (wants c bc bt) (fun _ => False)) (hiredW c bc bt wl) := by
    refine ⟨⟨fun y j hy => ?_, fun y j hy => ?_⟩, fun g r => ⟨fun q => q.elim (hP.no g _) (fun q => q.2), fun q => q.elim (hL.no g r).2 (fun q => by rcases q.2 with q | q | q <;> cases q)⟩⟩
    · have hy' : hidOf C y j := by
        rcases hy with q | q | ⟨g, q | q⟩
        · exact .inl q
        · exact .inr (.inl q)
        · exact .inr (.inr ⟨g, q⟩)
        · exact q.2.elim
      obtain ⟨h1, h2⟩ := hL.cut.hid y j hy'
      refine ⟨by unfold hiredW; rw [size_freeze, size_freeze, size_freeze]; exact h1, ?_⟩
      unfold hiredW; rw [cell_freeze, cell_freeze, cell_freeze]; exact h2
    · have hlt : ∀ y j v, wl.cell? ⟨y, j, none⟩ = some v → y < wl.heap.size := fun y j v hv => block_lt hv
      unfold hiredW
      rw [size_freeze, size_freeze, size_freeze]
      obtain ⟨g, q | ⟨_, q⟩⟩ := hy
      · obtain ⟨h1, h2⟩ := hL.cut.frz y j ⟨g, q⟩
        exact ⟨h1, frozen_freeze (frozen_freeze (frozen_freeze h2))⟩
      · rcases q with q | q | q <;> cases q
        · exact ⟨hlt _ _ _ hb, frozen_freeze (frozen_freeze (frozen_freeze_self hb))⟩
        · exact ⟨hlt _ _ _ ht, frozen_freeze (frozen_freeze_self (by rw [cell_freeze]; exact ht))⟩
        · exact ⟨hlt _ _ _ hr, frozen_freeze_self (by rw [cell_freeze, cell_freeze]; exact hr)⟩
  have hkw : ∀ w, Weak wl w → (C.on → Live c 5 w) → KW c bc bt x rp w := fun w hw hl => ⟨hw.cell hb, hw.cell ht, hw.cell hr, hl hP.on⟩
  refine Can.hires (crew_free c rp N L) hL (N := N) (S := wants c bc bt) (child := born Try.prog (call69 bc bt)) (r := .seat (.recv x (.int .i64 0) true) (HomeR c bc bt x rp 0)) (wl' := hiredW c bc bt wl) (fun rel ρ n hR => hR.1) hrun hsp
    (fun w hw l hl => ?_) (fun w hw hlv => ?_) ⟨rfl, rfl, rfl, rfl, rfl, by simp⟩ (fun p h' he => ?_) (fun rel ρ n hR p' h' he j p h'' hj hp hc => ?_) (fun w hw => ((hw.freeze _ _).freeze _ _).freeze _ _) (fun _ _ hs => ((hs.freeze _ _).freeze _ _).freeze _ _) (fun rel ρ n hR => ?_) (h hL' hP' hD')
  · rcases hl with rfl | rfl | rfl
    · exact ⟨.inl ⟨bc, 0, rfl, block_lt (hw.cell hb)⟩, vis _ _ _ hb⟩
    · exact ⟨.inl ⟨bt, 0, rfl, block_lt (hw.cell ht)⟩, vis _ _ _ ht⟩
    · exact ⟨.inl ⟨c, 2, rfl, block_lt (hw.cell hr)⟩, vis _ _ _ hr⟩
  · obtain ⟨n, hn⟩ := seatStart (x := x) (rp := rp) hks
    refine ⟨n + 1, fun w w₁ g r => homeR_rely hks w w₁ g r, .inl ⟨n, rfl, ?_⟩⟩
    rw [bne0 (by omega)]
    exact hn w (hkw w hw hlv)
  · simp only [Role.seat.injEq] at he
    obtain ⟨rfl, _⟩ := he
    exact ⟨kk, hck⟩
  · simp only [Role.seat.injEq] at he
    obtain ⟨rfl, _⟩ := he
    rcases crew_seat hR hj hp with ⟨u, hu, rfl, _⟩ | ⟨u, f, hu, rfl, _⟩
    · rfl
    · exact absurd hc (Ne.symm hxr)
  · obtain ⟨rfl, h0, h1⟩ := hR
    refine ⟨rfl, by omega, fun j hj => ?_⟩
    by_cases e : j = n
    · subst e; rw [upd_same, upd_same]; rfl
    · rw [upd_ne _ _ e, upd_ne _ _ e, upd_ne _ _ hj]; exact h1 j hj
end
end Go.Town.Kp
namespace Go.Town.Kp
open Go Go.Conc Go.Conc.Lib Go.ConcR.Gen Go.RowKit Go.Town Go.Proofs
open Go.ConcN (upd upd_ne upd_same)
section
variable {C : Cfg} {c rp N : Nat} {L : Nat → Ws} {Post : Value → World → Prop} {k : Nat} {wl : World} {g g' : Goroutine}
theorem wd_gone {j : Nat} {i : Nat} {u : Wd} (h : (upd L j .gone i).wd = some u) : i ≠ j ∧ (L i).wd = some u := by
  by_cases e : i = j
  · subst e; rw [upd_same] at h; cases h
  · rw [upd_ne _ _ e] at h; exact ⟨e, h⟩
theorem Posts.gone (h : Posts C c L) (j : Nat) : Posts C c (upd L j .gone) := ⟨h.on, h.no, fun i u hi hu => h.ks i u hi (wd_gone hu).2⟩
theorem Apart.gone (h : Apart rp L) (j : Nat) : Apart rp (upd L j .gone) := ⟨fun i l u v hi hl hil h1 h2 => h.ne i l u v hi hl hil (wd_gone h1).2 (wd_gone h2).2, fun i u hi h1 => h.rp i u hi (wd_gone h1).2⟩
theorem shuts (hL : Lay C wl) (hP : Posts C c L) (hD : Apart rp L) {j : Nat} {u : Wd} (hj : j ≠ 0) (hl : L j = .live u) {kk : Nat} (hck : wl.heap[u.x]? = some (.chan 0 #[] false kk kk false)) (hrun : g.status = .running)
    (hst : ∀ w, w.heap[u.x]? = some (.chan 0 #[] false kk kk false) → stepG Try.prog true g w = .go g' (w.setChan u.x 0 #[] true kk kk false) (closeEvents u.x)) (hmw : mayWake Try.prog g = true) (hrun' : g'.status = .running)
    (h : Can Try.prog C c 5 Post k (Crew c rp N (upd L j .gone)) (wl.setChan u.x 0 #[] true kk kk false) g') : Can Try.prog C c 5 Post k (Crew c rp N L) wl g := by
  have hS := hP.ks j u hj (by rw [hl]; rfl)
  refine Can.closes (crew_free c rp N L) hL hP.on (c := u.x) (kk := kk) hck hrun hst hmw hrun' (fun rel ρ n hR i p home hi hp hc => ?_) (fun rel ρ n hR => ?_) h
  · rcases crew_seat hR hi hp with ⟨u', hu', rfl, rfl⟩ | ⟨u', f, hu', rfl, _⟩
    · have hij : i = j := Classical.byContradiction fun hne => hD.ne i j u' u hi hj hne (by rw [hu']; rfl) (by rw [hl]; rfl) hc
      subst hij
      rw [hl] at hu'
      cases hu'
      exact ⟨_, _, rfl, fun g₂ w hh => seatShut hS hh⟩
    · exact absurd hc.symm (hD.rp j u hj (by rw [hl]; rfl))
  · refine ⟨hR.1, hR.2.1, fun i hi => ?_⟩
    have hi' := hR.2.2 i hi
    by_cases e : i = j
    · subst e
      rw [upd_same]
      show Ws.ok c rp _ (closeRole u.x (ρ i))
      rw [hl] at hi'
      rw [show ρ i = _ from hi']
      refine .inl ?_
      simp [closeRole, Port.chan, Role.leaving]
    · rw [upd_ne _ _ e]
      have : closeRole u.x (ρ i) = ρ i := closeRole_other fun p home hp hc => by
        rcases crew_seat hR hi hp with ⟨u', hu', rfl, _⟩ | ⟨u', f, hu', rfl, _⟩
        · exact hD.ne i j u' u hi hj e (by rw [hu']; rfl) (by rw [hl]; rfl) hc
        · exact hD.rp j u hj (by rw [hl]; rfl) hc.symm
      show Ws.ok c rp _ (closeRole u.x (ρ i))
      rw [this]; exact hi'
end
end Go.Town.Kp
namespace Go.Town
open Go Go.Conc
theorem okFr_at {P : Program} {ok : FuncId → Bool} {b : Frame} {a : Act} {c : Code} (h : okCode P ok c = true) (hd : a.defers = []) (hk : b.kind = .normal) (hf : ∃ fn, P.funcs[b.fn]? = some fn) : OkFr P ok (b.at a [.code c]) :=
  ⟨.inl rfl, hd, hk, rfl, fun it hit => by rw [List.mem_singleton.1 hit]; exact h, hf⟩
end Go.Town
namespace Go.Town.Kp
open Go Go.Conc Go.Conc.Lib Go.ConcR.Gen Go.RowKit Go.Town Go.Proofs
open Go.ConcN (upd upd_ne upd_same)
def okT (f : FuncId) : Bool := [25, 35, 37, 46].contains f
structure Side (A : At) (w w' : World) : Prop where
  cells : ∀ x j v, x ≠ A.ta → x ≠ A.sa → x ≠ A.st → w.cell? ⟨x, j, none⟩ = some v → w'.cell? ⟨x, j, none⟩ = some v
  thaw : ∀ x j v, x ≠ A.c → w.cell? ⟨x, j, none⟩ = some v → w.frozen? ⟨x, j, none⟩ = false → (∃ v', w'.cell? ⟨x, j, none⟩ = some v') ∧ w'.frozen? ⟨x, j, none⟩ = false
  size : w.heap.size ≤ w'.heap.size
structure Kept (A : At) (C : Cfg) (L : Nat → Ws) (slot : Nat → Option Nat) (sum starts : Nat → Int) (wl : World) : Prop where
  ok : A.Ok
  mem : Mem A slot sum starts wl
  has : ∃ es clock, Has A slot wl es clock
  chans : Chans A slot wl
  lay : Lay C wl
  posts : Posts C A.c L
  apart : Apart A.rp L
  own : ∀ i x, i < A.n → slot i = some x → ∃ j u, j ≠ 0 ∧ L j = .live u ∧ u.x = x ∧ u.s = sum i
  all : ∀ j u, j ≠ 0 → (L j).wd = some u → L j = .live u ∧ ∃ i, i < A.n ∧ slot i = some u.x
noncomputable def headC : Nat → Code → Code
  | 0, .seq a _ => a
  | 0, c => c
  | n + 1, .seq _ b => headC n b
  | _ + 1, c => c
noncomputable def tailC : Nat → Code → Code
  | 0, c => c
  | n + 1, .seq _ b => tailC n b
  | _ + 1, c => c
noncomputable def body53 : Code := Try.f53.body.getD .skip
theorem mk95 (w : World) : (Instr.makeChan 95 (.int .i64 0)).run Try.prog w = .ok (.chan (some w.heap.size)) (w.alloc (.chan 0 #[] false 0 0 false)) := by
  obtain ⟨i, hi⟩ : ∃ i, Try.prog.info? 3 = some i := Option.isSome_iff_exists.1 (by kernel_rfl)
  exact run_makeChan (P := Try.prog) (w := w) (t := 95) (e := 3) (dir := .both) (by kernel_rfl) hi .i64 0 (by decide) (by simp)
section
variable {A : At} {C : Cfg} {L : Nat → Ws} {Post : Value → World → Prop} {N k : Nat} {wl : World} {i : Nat} {cs : List Frame}
set_option maxRecDepth 100000 in
set_option maxHeartbeats 400000 in
theorem start_a (hp : OkProg Try.prog okT) (hL : Lay C wl)
   (h : ∀ wl', Lay C wl' → (∃ T d, wl' = (((wl.alloc (.cells #[.pointer (some ⟨A.c, 0, none⟩)] 73)).alloc (.chan 0 #[] false 0 0 false)).alloc (.cells #[.chan (some (wl.heap.size + 1))] 95)).re T d) →
     Can Try.prog C A.c 5 Post k (Crew A.c A.rp N L) wl' (G ((base 53).at ⟨#[.pointer (some ⟨A.c, 0, none⟩), .int .i64 i, .pointer (some ⟨wl.heap.size, 0, none⟩), undef, .pointer (some ⟨wl.heap.size + 2, 0, none⟩), .chan (some (wl.heap.size + 1)), undef, undef, undef, undef, undef, undef, undef, undef, undef, undef, undef, undef, undef, undef, undef, undef, undef, undef, undef, undef, undef, undef, undef, undef], []⟩ [.code (tailC 2 body53)]) cs)) :
   Can Try.prog C A.c 5 Post k (Crew A.c A.rp N L) wl (G ((base 53).at ⟨#[.pointer (some ⟨A.c, 0, none⟩), .int .i64 i] ++ Array.replicate 28 undef, []⟩ [.code body53]) cs) := by
  have hS := (crew_free A.c A.rp N L).steady
  have e0 : body53 = .seq (headC 0 body53) (tailC 1 body53) := by kernel_rfl
  have e1 : tailC 1 body53 = .seq (headC 1 body53) (tailC 2 body53) := by kernel_rfl
  have ea : (#[.pointer (some ⟨A.c, 0, none⟩), .int .i64 i] ++ Array.replicate 28 undef : Array Value) = #[.pointer (some ⟨A.c, 0, none⟩), .int .i64 i, undef, undef, undef, undef, undef, undef, undef, undef, undef, undef, undef, undef, undef, undef, undef, undef, undef, undef, undef, undef, undef, undef, undef, undef, undef, undef, undef, undef] := by kernel_rfl
  rw [ea]
  rw [e0]
  refine Can.ctl hS hL rfl (fun _ => stepG_seq) ?_
  refine Can.code hp hS hL (okFr_at (by kernel_rfl) rfl rfl ⟨_, Try.func53⟩) ?_
  intro T d
  generalize hB : Behind Try.prog C A.c 5 Post k (Crew A.c A.rp N L) (base 53) [.code (tailC 1 body53)] cs = B
  simp only [headC, body53, Try.f53, Option.getD_some]
  go_wp2
  subst hB
  intro hc
  rw [e1]
  refine Can.ctl hS ⟨hc, hL.no⟩ rfl (fun _ => stepG_seq) ?_
  refine Can.code hp hS ⟨hc, hL.no⟩ (okFr_at (by kernel_rfl) rfl rfl ⟨_, Try.func53⟩) ?_
  intro T' d'
  generalize hB : Behind Try.prog C A.c 5 Post k (Crew A.c A.rp N L) (base 53) [.code (tailC 2 body53)] cs = B
  simp only [headC, body53, Try.f53, Option.getD_some]
  have h1 := mk95
  go_wp2
  subst hB
  have hsz : (((wl.re T d).alloc (Obj.cells #[Value.pointer (some { block := A.c, off := 0 })] 73)).re T' d').heap.size = wl.heap.size + 1 := by simp [World.re, World.alloc]
  rw [hsz]
  intro hc
  exact h _ ⟨hc, hL.no⟩ ⟨_, _, rfl⟩
end
end Go.Town.Kp
namespace Go.Town.Kp
open Go Go.Conc Go.Conc.Lib Go.ConcR.Gen Go.RowKit Go.Town Go.Proofs
open Go.ConcN (upd upd_ne upd_same)
section
variable {A : At} {C : Cfg} {L : Nat → Ws} {Post : Value → World → Prop} {N k : Nat} {wl : World} {i bc bt x : Nat} {cs : List Frame} {slot : Nat → Option Nat} {sum starts : Nat → Int} {es : Array MapEntry} {clock : Nat}
set_option maxRecDepth 100000 in
set_option maxHeartbeats 400000 in
theorem start_b (hp : OkProg Try.prog okT) (hL : Lay C wl) (hA : A.Ok) (hm : Mem A slot sum starts wl) (hi : i < A.n) (hb : wl.cell? ⟨bc, 0, none⟩ = some (.pointer (some ⟨A.c, 0, none⟩))) (ht : wl.cell? ⟨bt, 0, none⟩ = some (.chan (some x)))
    (h : ∀ wl', Lay C wl' → (∃ T d, wl' = (wl.setCell ⟨A.ta, i, none⟩ (.chan (some x))).re T d) → Can Try.prog C A.c 5 Post k (Crew A.c A.rp N L) wl' (G ((base 53).at ⟨#[.pointer (some ⟨A.c, 0, none⟩), .int .i64 i, .pointer (some ⟨bc, 0, none⟩), undef, .pointer (some ⟨bt, 0, none⟩), .chan (some x), .pointer (some ⟨A.c, 0, none⟩), .pointer (some ⟨A.c, 0, none⟩), .pointer (some ⟨A.c, 0, none⟩), .slice (some ⟨A.ta, 0, none⟩) A.n A.n, .int .i64 i, .chan (some x), .pointer (some ⟨A.ta, i, none⟩), undef, undef, undef, undef, undef, undef, undef, undef, undef, undef, undef, undef, undef, undef, undef, undef, undef], []⟩ [.code (tailC 3 body53)]) cs)) :
    Can Try.prog C A.c 5 Post k (Crew A.c A.rp N L) wl (G ((base 53).at ⟨#[.pointer (some ⟨A.c, 0, none⟩), .int .i64 i, .pointer (some ⟨bc, 0, none⟩), undef, .pointer (some ⟨bt, 0, none⟩), .chan (some x), undef, undef, undef, undef, undef, undef, undef, undef, undef, undef, undef, undef, undef, undef, undef, undef, undef, undef, undef, undef, undef, undef, undef, undef], []⟩ [.code (tailC 2 body53)]) cs) := by
  have hS := (crew_free A.c A.rp N L).steady
  have e1 : tailC 2 body53 = .seq (headC 2 body53) (tailC 3 body53) := by kernel_rfl
  rw [e1]
  refine Can.ctl hS hL rfl (fun _ => stepG_seq) ?_
  refine Can.code hp hS hL (okFr_at (by kernel_rfl) rfl rfl ⟨_, Try.func53⟩) ?_
  intro T d
  generalize hB : Behind Try.prog C A.c 5 Post k (Crew A.c A.rp N L) (base 53) [.code (tailC 3 body53)] cs = B
  simp only [headC, body53, Try.f53, Option.getD_some]
  have hle := hA.le
  have h0 : (wl.re T d).cell? ⟨A.c, 0, none⟩ = _ := hm.c0
  have h1 : (wl.re T d).cell? ⟨A.c, 1, none⟩ = _ := hm.c1
  have h3 : (wl.re T d).cell? ⟨A.c, 3, none⟩ = _ := hm.c3
  have hb' : (wl.re T d).cell? ⟨bc, 0, none⟩ = _ := hb
  have ht' : (wl.re T d).cell? ⟨bt, 0, none⟩ = _ := ht
  have h5 : (wl.re T d).cell? ⟨A.ta, i, none⟩ = _ := (hm.tasks i hi).1
  have h6 : (wl.re T d).frozen? ⟨A.ta, i, none⟩ = _ := (hm.tasks i hi).2
  generalize hW : wl.re T d = W at *
  go_region
  subst hB
  intro hc
  subst hW
  exact h _ ⟨hc, hL.no⟩ ⟨_, _, rfl⟩
set_option maxRecDepth 100000 in
set_option maxHeartbeats 400000 in
theorem start_c (hp : OkProg Try.prog okT) (hL : Lay C wl) (hA : A.Ok) (hm : Mem A slot sum starts wl) (hi : i < A.n) (hb : wl.cell? ⟨bc, 0, none⟩ = some (.pointer (some ⟨A.c, 0, none⟩))) (ht : wl.cell? ⟨bt, 0, none⟩ = some (.chan (some x))) (hh : wl.heap[A.m]? = some (.map es clock)) (hk : ChanKeys es) (hx : es.toList.findIdx? (keyIs x) = none)
    (h : ∀ wl', Lay C wl' → (∃ T d, wl' = (({ wl with heap := wl.heap.setIfInBounds A.m (.map (es.push { key := .chan (some x), val := .int .i64 i, born := clock }) (clock + 1)) } : World)).re T d) → Can Try.prog C A.c 5 Post k (Crew A.c A.rp N L) wl' (G ((base 53).at ⟨#[.pointer (some ⟨A.c, 0, none⟩), .int .i64 i, .pointer (some ⟨bc, 0, none⟩), undef, .pointer (some ⟨bt, 0, none⟩), .chan (some x), .pointer (some ⟨A.c, 0, none⟩), .pointer (some ⟨A.c, 0, none⟩), .pointer (some ⟨A.c, 0, none⟩), .slice (some ⟨A.ta, 0, none⟩) A.n A.n, .int .i64 i, .chan (some x), .pointer (some ⟨A.ta, i, none⟩), .pointer (some ⟨A.c, 0, none⟩), .pointer (some ⟨A.c, 0, none⟩), .pointer (some ⟨A.c, 1, none⟩), .map (some A.m), .chan (some x), .int .i64 i, undef, undef, undef, undef, undef, undef, undef, undef, undef, undef, undef], []⟩ [.code (tailC 4 body53)]) cs)) :
    Can Try.prog C A.c 5 Post k (Crew A.c A.rp N L) wl (G ((base 53).at ⟨#[.pointer (some ⟨A.c, 0, none⟩), .int .i64 i, .pointer (some ⟨bc, 0, none⟩), undef, .pointer (some ⟨bt, 0, none⟩), .chan (some x), .pointer (some ⟨A.c, 0, none⟩), .pointer (some ⟨A.c, 0, none⟩), .pointer (some ⟨A.c, 0, none⟩), .slice (some ⟨A.ta, 0, none⟩) A.n A.n, .int .i64 i, .chan (some x), .pointer (some ⟨A.ta, i, none⟩), undef, undef, undef, undef, undef, undef, undef, undef, undef, undef, undef, undef, undef, undef, undef, undef, undef], []⟩ [.code (tailC 3 body53)]) cs) := by
  have hS := (crew_free A.c A.rp N L).steady
  have e1 : tailC 3 body53 = .seq (headC 3 body53) (tailC 4 body53) := by kernel_rfl
  rw [e1]
  refine Can.ctl hS hL rfl (fun _ => stepG_seq) ?_
  refine Can.code hp hS hL (okFr_at (by kernel_rfl) rfl rfl ⟨_, Try.func53⟩) ?_
  intro T d
  generalize hB : Behind Try.prog C A.c 5 Post k (Crew A.c A.rp N L) (base 53) [.code (tailC 4 body53)] cs = B
  simp only [headC, body53, Try.f53, Option.getD_some]
  have hle := hA.le
  have h0 : (wl.re T d).cell? ⟨A.c, 0, none⟩ = _ := hm.c0
  have h1 : (wl.re T d).cell? ⟨A.c, 1, none⟩ = _ := hm.c1
  have h3 : (wl.re T d).cell? ⟨A.c, 3, none⟩ = _ := hm.c3
  have hb' : (wl.re T d).cell? ⟨bc, 0, none⟩ = _ := hb
  have ht' : (wl.re T d).cell? ⟨bt, 0, none⟩ = _ := ht
  have h5 : (Instr.mapUpdate 76 (.map (some A.m)) (.chan (some x)) (.int .i64 i)).run Try.prog (wl.re T d).drew = _ := run_mapUpdate_chan (P := Try.prog) (w := (wl.re T d).drew) (mt := 76) (kt := 95) (et := 3) (e := 3) (dir := .both) (by kernel_rfl) (by kernel_rfl) hh hk hx (.int .i64 i)
  generalize hW : wl.re T d = W at *
  go_region
  subst hB
  intro hc
  subst hW
  exact h _ ⟨hc, hL.no⟩ ⟨_, _, rfl⟩
set_option maxRecDepth 100000 in
set_option maxHeartbeats 400000 in
theorem start_d (hp : OkProg Try.prog okT) (hL : Lay C wl) (hA : A.Ok) (hm : Mem A slot sum starts wl) (hi : i < A.n) (hb : wl.cell? ⟨bc, 0, none⟩ = some (.pointer (some ⟨A.c, 0, none⟩))) (ht : wl.cell? ⟨bt, 0, none⟩ = some (.chan (some x)))
    (h : ∀ wl', Lay C wl' → (∃ T d, wl' = (wl.setCell ⟨A.sa, i, none⟩ (.int .i64 0)).re T d) → Can Try.prog C A.c 5 Post k (Crew A.c A.rp N L) wl' (G ((base 53).at ⟨#[.pointer (some ⟨A.c, 0, none⟩), .int .i64 i, .pointer (some ⟨bc, 0, none⟩), undef, .pointer (some ⟨bt, 0, none⟩), .chan (some x), .pointer (some ⟨A.c, 0, none⟩), .pointer (some ⟨A.c, 0, none⟩), .pointer (some ⟨A.c, 0, none⟩), .slice (some ⟨A.ta, 0, none⟩) A.n A.n, .int .i64 i, .chan (some x), .pointer (some ⟨A.ta, i, none⟩), .pointer (some ⟨A.c, 0, none⟩), .pointer (some ⟨A.c, 0, none⟩), .pointer (some ⟨A.c, 1, none⟩), .map (some A.m), .chan (some x), .int .i64 i, .pointer (some ⟨A.c, 0, none⟩), .pointer (some ⟨A.c, 0, none⟩), .pointer (some ⟨A.c, 3, none⟩), .slice (some ⟨A.sa, 0, none⟩) A.n A.n, .int .i64 i, .pointer (some ⟨A.sa, i, none⟩), undef, undef, undef, undef, undef], []⟩ [.code (tailC 5 body53)]) cs)) :
    Can Try.prog C A.c 5 Post k (Crew A.c A.rp N L) wl (G ((base 53).at ⟨#[.pointer (some ⟨A.c, 0, none⟩), .int .i64 i, .pointer (some ⟨bc, 0, none⟩), undef, .pointer (some ⟨bt, 0, none⟩), .chan (some x), .pointer (some ⟨A.c, 0, none⟩), .pointer (some ⟨A.c, 0, none⟩), .pointer (some ⟨A.c, 0, none⟩), .slice (some ⟨A.ta, 0, none⟩) A.n A.n, .int .i64 i, .chan (some x), .pointer (some ⟨A.ta, i, none⟩), .pointer (some ⟨A.c, 0, none⟩), .pointer (some ⟨A.c, 0, none⟩), .pointer (some ⟨A.c, 1, none⟩), .map (some A.m), .chan (some x), .int .i64 i, undef, undef, undef, undef, undef, undef, undef, undef, undef, undef, undef], []⟩ [.code (tailC 4 body53)]) cs) := by
  have hS := (crew_free A.c A.rp N L).steady
  have e1 : tailC 4 body53 = .seq (headC 4 body53) (tailC 5 body53) := by kernel_rfl
  rw [e1]
  refine Can.ctl hS hL rfl (fun _ => stepG_seq) ?_
  refine Can.code hp hS hL (okFr_at (by kernel_rfl) rfl rfl ⟨_, Try.func53⟩) ?_
  intro T d
  generalize hB : Behind Try.prog C A.c 5 Post k (Crew A.c A.rp N L) (base 53) [.code (tailC 5 body53)] cs = B
  simp only [headC, body53, Try.f53, Option.getD_some]
  have hle := hA.le
  have h0 : (wl.re T d).cell? ⟨A.c, 0, none⟩ = _ := hm.c0
  have h1 : (wl.re T d).cell? ⟨A.c, 1, none⟩ = _ := hm.c1
  have h3 : (wl.re T d).cell? ⟨A.c, 3, none⟩ = _ := hm.c3
  have hb' : (wl.re T d).cell? ⟨bc, 0, none⟩ = _ := hb
  have ht' : (wl.re T d).cell? ⟨bt, 0, none⟩ = _ := ht
  have h5 : (wl.re T d).cell? ⟨A.sa, i, none⟩ = _ := (hm.sums i hi).1
  have h6 : (wl.re T d).frozen? ⟨A.sa, i, none⟩ = _ := (hm.sums i hi).2
  generalize hW : wl.re T d = W at *
  go_wp2
  subst hB
  intro hc
  subst hW
  exact h _ ⟨hc, hL.no⟩ ⟨_, _, rfl⟩
end
end Go.Town.Kp
