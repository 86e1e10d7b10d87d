/-
  The holder meets, hires, closes, adds and waits: what comes behind, told over the lesser world.
  Maps whose keys are channels; making channels.
-/
import Derived.Conc.CrowdStepC
import Derived.MapKept
import Derived.WideLaws
import Derived.Conc.SmallLaws
import Derived.Test.YtihmcigoofhpmaaChecked
import Derived.Conc.WgLib
import Derived.Test.YtihmcigoofhpmaaZat
set_option linter.all false
namespace Go.Town
open Go Go.RowKit Go.Conc Go.Conc.Lib Go.ConcR Go.ConcR.Gen
open Go.ConcN (sumTo upd sumTo_upd upd_ne upd_same sumTo_congr)
theorem setChan_heap (w : World) (c cap : Nat) (buf : Array Value) (cl : Bool) (s r : Nat) (tm : Bool) (x : Nat) : (w.setChan c cap buf cl s r tm).heap[x]? = if c = x then (if c < w.heap.size then some (.chan cap buf cl s r tm) else none) else w.heap[x]? := by
  simp only [World.setChan, Array.getElem?_setIfInBounds]
theorem setChan_other {w : World} {c cap : Nat} {buf : Array Value} {cl : Bool} {s r : Nat} {tm : Bool} {x : Nat} (h : c ≠ x) : (w.setChan c cap buf cl s r tm).heap[x]? = w.heap[x]? := by
  rw [setChan_heap, if_neg h]
theorem setChan_cell {w : World} {c : Nat} {ob : Obj} (ho : w.heap[c]? = some ob) (hc : isCells ob = false) (cap : Nat) (buf : Array Value) (cl : Bool) (s r : Nat) (tm : Bool) (a : Addr) :
    (w.setChan c cap buf cl s r tm).cell? a = w.cell? a ∧ (w.setChan c cap buf cl s r tm).frozen? a = w.frozen? a := by
  have hlt := (Array.getElem?_eq_some_iff.1 ho).1
  unfold World.cell? World.frozen?
  by_cases e : c = a.block
  · subst e
    rw [setChan_heap, if_pos rfl, if_pos hlt, ho]
    cases ob <;> first | (simp [isCells] at hc; done) | exact ⟨rfl, rfl⟩
  · rw [setChan_other e]; exact ⟨rfl, rfl⟩
theorem Weak.chan {wl w : World} (h : Weak wl w) {c cap : Nat} {buf : Array Value} {s r : Nat} {tm : Bool} (hc : wl.heap[c]? = some (.chan cap buf false s r tm)) : w.heap[c]? = some (.chan cap buf false s r tm) := by
  obtain ⟨o', h1, h2⟩ := h.get hc
  cases h2 with
  | same => exact h1
  | blind hb => cases hb
theorem Weak.setChan {wl w : World} (h : Weak wl w) (c cap : Nat) (buf : Array Value) (cl : Bool) (s r : Nat) (tm : Bool) (d : Nat) : Weak (wl.setChan c cap buf cl s r tm) ((w.at d).setChan c cap buf cl s r tm) := by
  refine ⟨by simp [World.setChan, World.at, h.size], fun x p q h1 h2 => ?_, h.os, h.out, fun x p h1 => ?_⟩
  · rw [setChan_heap] at h1 h2
    by_cases e : c = x
    · rw [if_pos e] at h1 h2
      split at h1
      · split at h2
        · cases h1; cases h2; exact .same _
        · cases h2
      · cases h1
    · rw [if_neg e] at h1 h2; exact h.obj x p q h1 h2
  · rw [setChan_heap] at h1
    split at h1
    · split at h1
      · cases h1; rfl
      · cases h1
    · exact h.noOdd x p h1
theorem Shut.chan_ge {n : Nat} {U wl : World} (h : Shut n U wl) {c cap : Nat} {buf : Array Value} {s r : Nat} {tm : Bool} (hc : wl.heap[c]? = some (.chan cap buf false s r tm)) : n ≤ c := by
  by_cases hlt : c < n
  · obtain ⟨o₀, _, h2⟩ := h.obj c _ hlt hc
    cases h2 with
    | other g0 g1 g2 g3 => cases g3
  · omega
theorem Shut.setChan {n : Nat} {U wl : World} (h : Shut n U wl) {c : Nat} (hn : n ≤ c) (cap : Nat) (buf : Array Value) (cl : Bool) (s r : Nat) (tm : Bool) : Shut n U (wl.setChan c cap buf cl s r tm) :=
  ⟨by simp only [World.setChan, Array.size_setIfInBounds]; exact h.size, fun b o hb ho => by rw [setChan_other (by omega)] at ho; exact h.obj b o hb ho⟩
theorem below_setChan {n : Nat} {U w : World} (h : Below n U w) {c : Nat} (hn : n ≤ c) (d cap : Nat) (buf : Array Value) (cl : Bool) (s r : Nat) (tm : Bool) : Below n U ((w.at d).setChan c cap buf cl s r tm) :=
  ⟨h.os, h.tape, h.output, by simp only [World.setChan, Array.size_setIfInBounds]; exact h.size, fun b hb => by rw [setChan_other (by omega)]; exact h.block b hb⟩
theorem Shut.thaw_ge {n : Nat} {U wl : World} (h : Shut n U wl) {a : Addr} {v : Value} (hv : wl.cell? a = some v) (hf : wl.frozen? a = false) : n ≤ a.block := by
  by_cases hlt : a.block < n
  · obtain ⟨c, e, f, hb, hc⟩ := block_of_cell hv
    have hsp := spot_of_cell hv
    obtain ⟨o₀, _, h2⟩ := h.obj _ _ hlt hb
    obtain ⟨ab, ao, aspot⟩ := a
    cases hsp; simp only at hb hf hlt hc
    cases h2 with
    | cells g =>
      have hk : ao < c.size := (Array.getElem?_eq_some_iff.1 hc).1
      rw [frozen_of hb, g _ hk] at hf; cases hf
    | other g0 g1 g2 g3 => cases g1
  · omega
theorem Cut.setChan {hid frz : Nat → Nat → Prop} {wl : World} (h : Cut hid frz wl) {c : Nat} {ob : Obj} (ho : wl.heap[c]? = some ob) (hc : isCells ob = false) (cap : Nat) (buf : Array Value) (cl : Bool) (s r : Nat) (tm : Bool) : Cut hid frz (wl.setChan c cap buf cl s r tm) :=
  ⟨fun b k hk => ⟨by simp only [World.setChan, Array.size_setIfInBounds]; exact (h.hid b k hk).1, (setChan_cell ho hc cap buf cl s r tm _).1.trans (h.hid b k hk).2⟩,
    fun b k hk => ⟨by simp only [World.setChan, Array.size_setIfInBounds]; exact (h.frz b k hk).1, (setChan_cell ho hc cap buf cl s r tm _).2.trans (h.frz b k hk).2⟩⟩
theorem Lay.setChan {C : Cfg} {wl : World} (h : Lay C wl) {c : Nat} {ob : Obj} (ho : wl.heap[c]? = some ob) (hc : isCells ob = false) (cap : Nat) (buf : Array Value) (cl : Bool) (s r : Nat) (tm : Bool) : Lay C (wl.setChan c cap buf cl s r tm) := ⟨h.cut.setChan ho hc _ _ _ _ _ _, h.no⟩
theorem rb_setChan {C : Cfg} {b o i : Nat} (hno : ∀ g r, ¬ C.Pv g (.obj r) ∧ ¬ C.St g (.obj r)) {w : World} {c : Nat} {ob : Obj} (ho : w.heap[c]? = some ob) (hc : isCells ob = false) (cap : Nat) (buf : Array Value) (cl : Bool) (s r : Nat) (tm : Bool) (d : Nat) : RB C b o i w ((w.at d).setChan c cap buf cl s r tm) := by
  have hsc := setChan_cell (w := w.at d) (c := c) ho hc cap buf cl s r tm
  refine ⟨fun _ ⟨s', m', h⟩ => ⟨s', m', (hsc _).1.trans h.st, (hsc _).1.trans h.sm, (hsc _).2.trans h.thaw.1, (hsc _).2.trans h.thaw.2⟩, fun x k _ => ⟨(hsc _).1, (hsc _).2⟩, fun x hx => ?_⟩
  rcases hx with hx | hx
  · exact absurd hx (hno i x).1
  · exact absurd hx (hno i x).2
section
variable {P : Program} {C : Cfg} {b o : Nat} {Post : Value → World → Prop} {Rs Rs' : (Nat → Prop) → (Nat → Role) → Nat → Prop} {ok : FuncId → Bool} {k : Nat} {wl : World} {g g₂ : Goroutine}
theorem Can.meets (hS : Steady Rs) (hL : Lay C wl) {pH p : Port} {j kk : Nat} {home : Goroutine → World → Prop} {ri : Role} (hat : AtPort P true pH g g₂)
    (hj : ∀ rel ρ n, Rs rel ρ n → ρ j = .seat p home) (hj0 : j ≠ 0) (hch : p.chan = pH.chan) (hpo : p.out ≠ pH.out)
    (huniq : ∀ rel ρ n i p' home', Rs rel ρ n → i ≠ 0 → ρ i = .seat p' home' → p'.chan = pH.chan → p'.out ≠ pH.out → i = j)
    (hck : wl.heap[pH.chan]? = some (.chan 0 #[] false kk kk false))
    (hri : ∀ a₂ w w', home a₂ w → RB C b o j w w' → ∃ n, InRole P C b o NoG NoG j ri n (Go.Conc.served a₂ (p.gets pH)) w')
    (hrf : ri.count = 1 ∧ ri.dd = 0 ∧ ri.isLast = false ∧ ri.isSelf = false ∧ (∀ s, ri ≠ .wait s) ∧ ∀ p' h', ri ≠ .shut p' h')
    (hseat : ∀ p' h', ri = .seat p' h' → ∃ k', wl.heap[p'.chan]? = some (.chan 0 #[] false k' k' false))
    (hap : ∀ rel ρ n, Rs rel ρ n → ρ 0 = .self k 0 → ∀ x y p p' h₁ h₂, upd (upd ρ j ri) 0 (.self k 0) x = .seat p h₁ → upd (upd ρ j ri) 0 (.self k 0) y = .seat p' h₂ → p.chan = p'.chan → p.out = p'.out)
    (hRs : ∀ rel ρ n, Rs rel ρ n → Rs' rel (upd (upd ρ j ri) 0 (.self k 0)) n)
    (h : Can P C b o Post k Rs' (wl.setChan pH.chan 0 #[] false (kk + 1) (kk + 1) false) (Go.Conc.served g₂ (pH.gets p))) : Can P C b o Post k Rs wl g := by
  intro rel ρ q gs w sl t T hr hR hi hw n₀ U hsh hbl
  refine meet (h := 0) noG_run noG_wait (.inl rfl) T hr hi (a₂ := g₂) (pH := pH) hat ⟨j, p, home, hj _ _ _ hR, hch, hpo⟩ ?_
  intro rel₁ ρ₁ q₁ gs₁ w₁ sl₁ t₁ i p₁ home₁ a₂ kk₁ gs₂ w₂ t₂ T₁ hr₁ hs₁ had₁ ho₁ hi0 hρi hρi₁ hch₁ hpo₁ hhome hck₁ M
  obtain rfl := huniq _ _ _ i p₁ home₁ hR hi0 hρi hch₁ hpo₁
  have hsame := (hj _ _ _ hR).symm.trans hρi
  simp only [Role.seat.injEq] at hsame
  obtain ⟨rfl, rfl⟩ := hsame
  have hw₁ := hw.outside hL.cut ho₁
  have hck₂ := hw₁.chan hck
  rw [hck₁] at hck₂
  simp only [Option.some.injEq, Obj.chan.injEq] at hck₂
  obtain ⟨_, _, _, rfl, _⟩ := hck₂
  obtain ⟨d, hwd⟩ := M.world
  obtain ⟨f1, f2, f3, f4, f5, f6⟩ := hrf
  have hR₁ : Rs rel₁ ρ₁ gs.size := by
    have hhush : Hush ρ → rel₁ = rel ∧ Hush ρ₁ := fun hh => by
      rcases hh i with q | ⟨_, q⟩ | q <;> rw [hρi] at q <;> cases q
    exact hS _ _ _ _ _ hR (fun j _ => had₁ j) (hr₁.trans hr.symm) hhush
  obtain ⟨n, hn⟩ := hri a₂ w₁ w₂ hhome (by rw [hwd]; exact rb_setChan hL.no hck₁ rfl _ _ _ _ _ _ _)
  have T₂ := T₁.behindMeet (D := C) (who' := some 0) (ri := ri) (rh := .self k 0) (ni := n) (nh := 0) hr₁ rfl (.inl rfl) hρi₁ hi0 T₁.some1 hck₁ (fun g => ⟨(hL.no g _).2, (hL.no g _).1⟩) M hn trivial f1 rfl f2 rfl f3 rfl f5 (fun s => by simp) (fun p' h' hp => ?_) (fun p' h' => ⟨f6 p' h', by simp⟩)
    (hap _ _ _ hR₁ hr₁) (.inl ⟨rfl, f4, .inl rfl⟩)
  · refine h _ _ _ _ _ _ _ T₂ (upd_same _ _ _) (hRs _ _ _ ?_) M.one ?_ n₀ U ?_ ?_
    · rw [M.size, hs₁]; exact hR₁
    · rw [hwd]; exact hw₁.setChan _ _ _ _ _ _ _ _
    · exact hsh.setChan (hsh.chan_ge hck) _ _ _ _ _ _
    · rw [hwd]; exact below_setChan (below_out hsh hL.cut hbl ho₁) (hsh.chan_ge hck) _ _ _ _ _ _ _
  · rcases hp with hp | hp
    · obtain ⟨k', hk'⟩ := hseat p' h' hp
      exact ⟨k', hw₁.chan hk'⟩
    · cases hp
def Free (Rs : (Nat → Prop) → (Nat → Role) → Nat → Prop) : Prop := ∀ rel ρ rel' ρ' n, Rs rel ρ n → (∀ j, j ≠ 0 → Adv (ρ j) (ρ' j)) → Rs rel' ρ' n
theorem Free.steady (h : Free Rs) : Steady Rs := fun _ _ _ _ _ hR ha _ _ => h _ _ _ _ _ hR ha
theorem Can.hires (hS : Free Rs) (hL : Lay C wl) {g' child : Goroutine} {S : Loc → Prop} {N : Nat} {r : Role} {wl' : World}
    (hN : ∀ rel ρ n, Rs rel ρ n → n = N) (hrun : g.status = .running) (hsp : ∀ w, stepG P true g w = .spawn g' child w #[])
    (hSp : ∀ w, Weak wl w → ∀ l, S l → There w l ∧ ¬ C.Sh l ∧ ¬ C.Gr l ∧ ∀ g, ¬ C.Pv g l)
    (hrole : ∀ w, Weak wl w → (C.on → Live b o w) → ∃ n, InRole P (C.hire N S (fun _ => False)) b o NoG NoG N r n child w)
    (hrf : r.count = 1 ∧ r.dd = 0 ∧ r.isLast = false ∧ r.isSelf = false ∧ r.loose = true ∧ ∀ p h, r ≠ .shut p h)
    (hseat : ∀ p h, r = .seat p h → ∃ k', wl.heap[p.chan]? = some (.chan 0 #[] false k' k' false))
    (hap : ∀ rel ρ n, Rs rel ρ n → ∀ p' h', r = .seat p' h' → ∀ j p h'', j ≠ 0 → ρ j = .seat p h'' → p.chan = p'.chan → p.out = p'.out)
    (hwl : ∀ w, Weak wl w → Weak wl' w) (hbs : ∀ n U, Shut n U wl → Shut n U wl')
    (hRs : ∀ rel ρ n, Rs rel ρ n → Rs' rel (upd (upd ρ 0 (.self k 0)) N r) (N + 1))
    (h : Can P (C.hire N S (fun _ => False)) b o Post k Rs' wl' g') : Can P C b o Post (k + 1) Rs wl g := by
  intro rel ρ q gs w sl t T hr hR hi hw n₀ U hsh hbl
  refine turn (h := 0) noG_run noG_wait (.inl rfl) T hr hi hrun fun rel₁ ρ₁ q₁ gs₁ w₁ sl₁ t₁ T₁ hr₁ hs₁ hi₁ had₁ hh₁ ho₁ => .inl ?_
  have hw₁ := hw.outside hL.cut ho₁
  have hR₁ : Rs rel₁ ρ₁ gs₁.size := by rw [hs₁]; exact hS _ _ _ _ _ hR (fun j _ => had₁ j)
  have hN₁ := hN _ _ _ hR₁
  obtain ⟨f1, f2, f3, f4, f5, f6⟩ := hrf
  obtain ⟨n, hn⟩ := hrole w₁ hw₁ (fun hon => (T₁.wg hon).live)
  refine ⟨_, _, runT_crowd_spawn (sl := sl₁) (i := 0) hi₁ (hsp w₁), ?_⟩
  have T₂ := T₁.hired (a' := g') (child := child) (S := S) (Q := fun _ => False) (r := r) (n := n) hr₁ hi₁ (hSp w₁ hw₁) (fun _ q => q.elim) (by rw [hN₁]; exact hn) f1 f2 f3 f4 f5 f6 (fun p' h' hp => ?_) g.frame.fn g.frame.place child.frame.fn
  · have hlt0 := T₁.some1
    have hlt := hlt0
    rw [hN₁] at T₂ hlt
    refine (congrArg (Ends P _ _) ?_).mp (h _ _ _ _ _ sl₁ _ T₂ ?_ ?_ ?_ (hwl _ hw₁) n₀ U (hbs _ _ hsh) (below_out hsh hL.cut hbl ho₁))
    · rw [hN₁]; rfl
    · rw [upd_ne _ _ (by omega), upd_same]
    · have hsz : ((gs₁.setIfInBounds 0 g').push child).size = N + 1 := by simp [hN₁]
      rw [hsz]
      exact hRs _ _ _ hR₁
    · rw [Array.getElem?_push]
      have : (0 : Nat) ≠ gs₁.size := by omega
      simp [this, hlt0]
  · obtain ⟨k', hk'⟩ := hseat p' h' hp
    refine ⟨⟨k', hw₁.chan hk'⟩, fun j p h'' hj hc => ?_⟩
    refine hap _ _ _ hR₁ p' h' hp j p h'' (fun e => ?_) hj hc
    subst e
    rw [hr₁] at hj; cases hj
theorem Can.closes (hS : Free Rs) (hL : Lay C wl) (hon : C.on) {g' : Goroutine} {c kk : Nat} (hck : wl.heap[c]? = some (.chan 0 #[] false kk kk false)) (hrun : g.status = .running)
    (hst : ∀ w, w.heap[c]? = some (.chan 0 #[] false kk kk false) → stepG P true g w = .go g' (w.setChan c 0 #[] true kk kk false) (closeEvents c)) (hmw : mayWake P g = true) (hrun' : g'.status = .running)
    (hcont : ∀ rel ρ n, Rs rel ρ n → ∀ j p home, j ≠ 0 → ρ j = .seat p home → p.chan = c → ∃ z ok, p = .recv c z ok ∧ ∀ g₂ w, home g₂ w → ∃ m, Goes P false (RB C b o j) (DR C j) (AtR0 P C b o j) m (Go.Conc.served g₂ (recvd ok z false)) w)
    (hRs : ∀ rel ρ n, Rs rel ρ n → Rs' rel (fun j => closeRole c (ρ j)) n)
    (h : Can P C b o Post k Rs' (wl.setChan c 0 #[] true kk kk false) g') : Can P C b o Post k Rs wl g := by
  intro rel ρ q gs w sl t T hr hR hi hw n₀ U hsh hbl
  refine turn (h := 0) noG_run noG_wait (.inl rfl) T hr hi hrun fun rel₁ ρ₁ q₁ gs₁ w₁ sl₁ t₁ T₁ hr₁ hs₁ hi₁ had₁ hh₁ ho₁ => .inl ?_
  have hw₁ := hw.outside hL.cut ho₁
  have hR₁ : Rs rel₁ ρ₁ gs₁.size := by rw [hs₁]; exact hS _ _ _ _ _ hR (fun j _ => had₁ j)
  have hck₁ := hw₁.chan hck
  have hlt := T₁.some1
  obtain ⟨q₂, T₂⟩ := T₁.closed hon noG_run hr₁ hi₁ (a' := g') hck₁ (fun g => ⟨(hL.no g c).2, (hL.no g c).1⟩) hmw hrun' (fun j p home hj hc => by
    have hj0 : j ≠ 0 := by rintro rfl; rw [hr₁] at hj; cases hj
    exact ⟨by omega, hcont _ _ _ hR₁ j p home hj0 hj hc⟩)
  refine ⟨_, _, runT_crowd_go (sl := sl₁) (i := 0) hi₁ (hst w₁ hck₁), ?_⟩
  refine h _ _ _ _ _ sl₁ _ T₂ (by simp only [hr₁, closeRole]) ?_ (by simp [hlt]) (hw₁.setChan c 0 #[] true kk kk false w₁.drawn) n₀ U (hsh.setChan (hsh.chan_ge hck) _ _ _ _ _ _) (below_setChan (below_out hsh hL.cut hbl ho₁) (hsh.chan_ge hck) w₁.drawn _ _ _ _ _ _)
  have hsz : ((gs₁.map (woken P g g' (w₁.setChan c 0 #[] true kk kk false))).setIfInBounds 0 g').size = gs₁.size := by simp
  rw [hsz]
  exact hRs _ _ _ hR₁
theorem Can.adds {L : WgLink} (H : WgLib P L) (hS : Free Rs) (hL : Lay C wl) (hon : C.on) (hN : ∀ rel ρ n, Rs rel ρ n → n + k < 2147483640)
    {b₀ : Frame} {a₀ : Act} {ops₀ : Array Oper} {i₀ : Nat} {rest₀ : List Nat} {k₀ : List Item} {cs : List Frame}
    (h : Can P C b o Post (k + 1) Rs wl (G (b₀.at (a₀.put ((ops₀[i₀]?).bind (·.dst)) (.tuple #[])) (.inRegion ops₀ rest₀ :: k₀)) cs)) :
    Can P C b o Post k Rs wl (G ((base L.add).at ⟨#[.pointer (some ⟨b, o, none⟩), .int .i64 1] ++ Array.replicate 115 undef, []⟩ [.code ((addFn L).body.getD .skip)]) (b₀.at a₀ (.inRegion ops₀ (i₀ :: rest₀) :: k₀) :: cs)) := by
  intro rel ρ q gs w sl t T hr hR hi hw n₀ U hsh hbl
  refine addOne H noG_run noG_wait hon T hr (hN _ _ _ hR) hi ?_
  intro rel' ρ' q' gs' w' sl' t' T' hr' hs' hi' had ho
  exact h _ _ _ _ _ _ _ T' hr' (hs' ▸ hS _ _ _ _ _ hR had) hi' (hw.outside hL.cut ho) n₀ U hsh (below_out hsh hL.cut hbl ho)
def wgAt (b o : Nat) (l : Loc) : Prop := True ∧ (l = .cell ⟨b, o, none⟩ ∨ l = .cell ⟨b, o + 1, none⟩)
theorem Can.ends (hL : Lay C wl) (hrun : g.status = .running) {v : Value} (hst : ∀ w, Weak wl w → ∃ es, stepG P true g w = .ended (.done v) w es ∧ ∀ e ∈ es, EvM (hidOf C) (frzOf C) w.heap.size e) (hpost : ∀ w, Weak wl w → Post v w) : Can P C b o Post k Alone wl g := by
  intro rel ρ q gs w sl t T hr hR hi hw n₀ U hsh hbl
  obtain ⟨rfl, hh⟩ := hR
  refine turn (h := 0) noG_run noG_wait (.inl rfl) T hr hi hrun fun rel₁ ρ₁ q₁ gs₁ w₁ sl₁ t₁ T₁ hr₁ hs₁ hi₁ had₁ hh₁ ho₁ => .inr ?_
  obtain ⟨rfl, hhu⟩ := hh₁ hh
  have hw₁ := hw.outside hL.cut ho₁
  obtain ⟨es, he, hes⟩ := hst w₁ hw₁
  refine ⟨.done v, w₁, _, ConcN.runT_crowd_ended hi₁ he, fun wm sm => ?_⟩
  refine T₁.good hr₁ (fun j hj => ?_) _ _ hes (fun e _ r _ g => ⟨(hL.no g r).1, fun q => absurd q (hL.no g r).2⟩) ⟨hpost _ hw₁, below_out hsh hL.cut hbl ho₁⟩ wm sm
  rcases hhu j with q | ⟨d, q⟩ | q
  · exact .inr q
  · exact .inl ⟨d, q⟩
  · exact absurd (self_is T₁ q) hj
end
end Go.Town
namespace Go.Town
open Go Go.Conc
def keyIs (x : Nat) (e : MapEntry) : Bool := match e.key with | .chan (some y) => x == y | _ => false
def ChanKeys (es : Array MapEntry) : Prop := ∀ e ∈ es.toList, ∃ y, e.key = .chan (some y)
section
variable {P : Program} {w : World} {mt kt et e : TypeId} {dir : ChanDir} {m x : Nat} {es : Array MapEntry} {clock : Nat}
theorem run_equal_chan (hk : P.underlying kt = some (.chan dir e)) (a b : Option Nat) (w : World) : (Op.equal kt (.chan a) (.chan b)).run P w = .ok (a == b) w := by
  show (Op.equalIn (9999 + 1) kt (.chan a) (.chan b)).run P w = _
  unfold Op.equalIn
  simp [run_underlying hk, Result.andThen]
theorem findNow_chan (l : List MapEntry) (hl : l ≠ []) (i : Nat) : Instr.findNow (.chan dir e) (.chan (some x)) l i = none := by
  cases l with
  | nil => exact absurd rfl hl
  | cons a l => rfl
theorem run_findAsking_chan (hk : P.underlying kt = some (.chan dir e)) : ∀ (l : List MapEntry) (i : Nat) (w : World), (∀ a ∈ l, ∃ y, a.key = .chan (some y)) →
    (Instr.findAsking kt (.chan (some x)) l i).run P w = .ok ((l.findIdx? (keyIs x)).map fun j => (i + j, ((l[j]?).map (·.val)).getD undef)) w
  | [], i, w, _ => by simp [Instr.findAsking]
  | a :: l, i, w, h => by
    obtain ⟨y, hy⟩ := h a (by simp)
    have ih := run_findAsking_chan hk l (i + 1) w (fun b hb => h b (by simp [hb]))
    unfold Instr.findAsking
    simp only [Sem.run_bind, hy, run_equal_chan hk, Result.andThen]
    by_cases e : x = y
    · subst e
      have : keyIs x a = true := by simp [keyIs, hy]
      simp [List.findIdx?_cons, this]
    · have hk' : keyIs x a = false := by simp [keyIs, hy, e]
      have hne : ((some x : Option Nat) == some y) = false := by simp [e]
      simp only [hne, Bool.false_eq_true, if_false, ih, List.findIdx?_cons, hk', Option.map_map]
      congr 1
      cases l.findIdx? (keyIs x) with
      | none => rfl
      | some j => simp; omega
theorem run_findKey_chan (hk : P.underlying kt = some (.chan dir e)) (l : List MapEntry) (w : World) (h : ∀ a ∈ l, ∃ y, a.key = .chan (some y)) :
    (Instr.findKey kt (.chan (some x)) l).run P w = .ok ((l.findIdx? (keyIs x)).map fun j => (j, ((l[j]?).map (·.val)).getD undef)) w := by
  unfold Instr.findKey
  simp only [Sem.run_bind, run_underlying hk, Result.andThen]
  cases l with
  | nil => simp [Instr.findNow]
  | cons a l =>
    rw [findNow_chan _ (by simp)]
    simp only [run_findAsking_chan hk (a :: l) 0 w h, Nat.zero_add]
theorem run_checkKey_chan (hk : P.underlying kt = some (.chan dir e)) (b : Bool) (n : Nat) (c : Option Nat) (w : World) : (Instr.checkKey b (n + 1) kt (.chan c)).run P w = .ok () w := by
  unfold Instr.checkKey
  simp [run_underlying hk, Result.andThen]
theorem run_mapUpdate_chan (hm : P.underlying mt = some (.map kt et)) (hk : P.underlying kt = some (.chan dir e)) (hb : w.heap[m]? = some (.map es clock)) (hes : ChanKeys es) (hno : es.toList.findIdx? (keyIs x) = none) (v : Value) :
    (Instr.mapUpdate mt (.map (some m)) (.chan (some x)) v).run P w = .ok () { w with heap := w.heap.setIfInBounds m (.map (es.push { key := .chan (some x), val := v, born := clock }) (clock + 1)) } := by
  unfold Instr.mapUpdate
  simp [run_underlying hm, MapKept.run_getObj_map hb, run_checkKey_chan hk, run_findKey_chan hk es.toList w hes, hno, MapKept.run_setObj_map _ hb, Result.andThen]
theorem run_lookup_chan (hm : P.underlying mt = some (.map kt et)) (hk : P.underlying kt = some (.chan dir e)) (hb : w.heap[m]? = some (.map es clock)) (hes : ChanKeys es) {j : Nat} (hj : es.toList.findIdx? (keyIs x) = some j) :
    (Instr.lookup mt (.map (some m)) (.chan (some x)) false).run P w = .ok (((es.toList[j]?).map (·.val)).getD undef) w := by
  unfold Instr.lookup
  simp [run_underlying hm, MapKept.run_getObj_map hb, run_checkKey_chan hk, run_findKey_chan hk es.toList w hes, hj, Result.andThen]
theorem run_delete_chan (hm : P.underlying mt = some (.map kt et)) (hk : P.underlying kt = some (.chan dir e)) (hb : w.heap[m]? = some (.map es clock)) (hes : ChanKeys es) {j : Nat} (hj : es.toList.findIdx? (keyIs x) = some j) (ty kt' : TypeId) :
    (Builtin.delete_ #[mt, kt'] ty #[.map (some m), .chan (some x)]).run P w = .ok (.tuple #[]) { w with heap := w.heap.setIfInBounds m (.map (es.eraseIdxIfInBounds j) clock) } := by
  unfold Builtin.delete_
  simp [run_underlying hm, MapKept.run_getObj_map hb, run_checkKey_chan hk, run_findKey_chan hk es.toList w hes, hj, MapKept.run_setObj_map _ hb, Result.andThen]
end
end Go.Town
namespace Go.Proofs
abbrev Try.link : Go.Conc.Lib.WgLink := { add := 68, done := 70, wait := 51, relMerge := 74, disable := 56, enable := 58, inBubble := 64, associate := 75, fatal := 76, uOr := 77, uAdd := 78, raceRead := 79, uLoad := 57, uStore := 80, disassociate := 62, semrelease := 81, acquire := 59, isAssociated := 60, uCas := 61, raceWrite := 63, semacquire := 65, orU64 := 82, addU64 := 83, loadU64 := 72, storeU64 := 84, casU64 := 73, tWgP := 96, tUP := 100, tAssoc := 115, tWg := 87, tAU := 84, tU64 := 82, tUint := 98, tU32 := 85, tPU32 := 104, tPAU := 111, tPU64 := 113, tNoCopy := 79, tANoCopy := 80, tAlign64 := 81 }
theorem Try.wgLib : Go.Conc.Lib.WgLib Try.prog Try.link :=
  ⟨Try.func68, Try.func70, Try.func51, Try.func74, Try.func56, Try.func58, Try.func64, Try.func75, Try.func76, Try.func77, Try.func78, Try.func79, Try.func57, Try.func80, Try.func62, Try.func81, Try.func59, Try.func60, Try.func61, Try.func63, Try.func65, Try.func82, Try.func83, Try.func72, Try.func84, Try.func73, Try.underlying96, Try.runUnderlying96, Try.sizeOf96, Try.isAgg96, Try.zeroValue96, Try.underlying100, Try.runUnderlying100, Try.sizeOf100, Try.isAgg100, Try.zeroValue100, Try.underlying115, Try.runUnderlying115, Try.sizeOf115, Try.isAgg115, Try.zeroValue115, Try.underlying87, Try.runUnderlying87, Try.sizeOf87, Try.isAgg87, Try.zeroValue87, Try.underlying84, Try.runUnderlying84, Try.sizeOf84, Try.isAgg84, Try.zeroValue84, Try.underlying82, Try.runUnderlying82, Try.sizeOf82, Try.isAgg82, Try.zeroValue82, Try.underlying98, Try.runUnderlying98, Try.sizeOf98, Try.isAgg98, Try.zeroValue98, Try.underlying85, Try.runUnderlying85, Try.sizeOf85, Try.isAgg85, Try.zeroValue85, Try.underlying104, Try.runUnderlying104, Try.sizeOf104, Try.isAgg104, Try.zeroValue104, Try.underlying111, Try.runUnderlying111, Try.sizeOf111, Try.isAgg111, Try.zeroValue111, Try.underlying113, Try.runUnderlying113, Try.sizeOf113, Try.isAgg113, Try.zeroValue113, Try.underlying0, Try.runUnderlying0, Try.sizeOf0, Try.isAgg0, Try.zeroValue0, Try.underlying3, Try.runUnderlying3, Try.sizeOf3, Try.isAgg3, Try.zeroValue3, Try.underlying4, Try.runUnderlying4, Try.sizeOf4, Try.isAgg4, Try.zeroValue4, Try.underlying9, Try.runUnderlying9, Try.sizeOf9, Try.isAgg9, Try.zeroValue9, Try.underlying20, Try.runUnderlying20, Try.sizeOf20, Try.isAgg20, Try.zeroValue20, Try.underlying21, Try.runUnderlying21, Try.sizeOf21, Try.isAgg21, Try.zeroValue21, (by kernel_rfl), (by kernel_rfl)⟩
end Go.Proofs
