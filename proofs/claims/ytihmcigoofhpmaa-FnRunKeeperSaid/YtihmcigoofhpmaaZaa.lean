/-
  The trace's side of a company in which one goroutine holds the memory, others sit or walk to their seats touching places of their own and reading still ones, and all say 'Done' to a WaitGroup.
-/
import Derived.Conc.TokenTrace
set_option linter.all false
namespace Go.Town
open Go Go.Conc
structure Cfg where
  St : Nat → Loc → Prop
  Pv : Nat → Loc → Prop
  Sh : Loc → Prop
  Gr : Loc → Prop
  Dd : Nat → Prop
  on : Prop
  ad : Addr
structure Cfg.Ok (C : Cfg) : Prop where
  apart : ∀ g g' l, C.Pv g l → g ≠ g' → ¬ C.Pv g' l ∧ ¬ C.St g' l
  off : ∀ g l, C.Sh l → ¬ C.Pv g l ∧ ¬ C.St g l
  gr : ∀ l, C.Gr l → ¬ C.Sh l ∧ ∀ g, ¬ C.Pv g l ∧ ¬ C.St g l
structure Tr (C : Cfg) (Loose rel : Nat → Prop) (n : Nat) (dd : Nat → Nat) (K : Nat → Prop) (t : Trace) : Prop where
  clean : ∀ said, ¬ Race said t
  known : ∀ i a, touchAt t i = some a → a.loc.isMemory = true → ¬ C.Sh a.loc → ¬ C.Gr a.loc → K i ∨ ∃ g, t.g? i = some g ∧ (C.Pv g a.loc ∨ a.write = false ∧ C.St g a.loc) ∧ (Loose g ∨ ∃ p, rel p ∧ Before t i p)
  sh : ∀ i a, touchAt t i = some a → C.Sh a.loc → (∀ g, g < n → ¬ C.Dd g → Knows t g i) ∨ (a.kind = .atomic ∧ (t.g? i = some 0 ∨ ¬ t.heard i)) ∨ (a.kind = .said ∧ t.g? i = some 0)
  gr : ∀ i a, touchAt t i = some a → C.Gr a.loc → Knows t 0 i ∨ (a.kind = .atomic ∧ (t.g? i = some 0 ∨ ¬ t.heard i)) ∨ (a.kind = .said ∧ t.g? i = some 0)
  wrote : ∀ i a g, touchAt t i = some a → a.write = true → C.St g a.loc → g < n → Knows t g i
  priv : ∀ i a g, touchAt t i = some a → C.Pv g a.loc → g < n → Knows t g i
  deaf : ∀ g, Deaf t g = dd g
  rels : ∀ p, rel p → t.act? p = some (.mark (.releaseMerge C.ad)) ∧ t.heard p
  norel : ∀ op ∈ t, ∀ x, op.act ≠ .mark (.release x)
inductive MayOp (C : Cfg) (Loose : Nat → Prop) (n g : Nat) (H heard : Prop) (op : MemOp) : Prop
  | mute : op.act.touch? = none → MayOp C Loose n g H heard op
  | hold {b : Touch} : op.act.touch? = some b → H → ¬ C.Sh b.loc → ¬ C.Gr b.loc → (∀ g', ¬ C.Pv g' b.loc) → (∀ g', C.St g' b.loc → b.write = false) → MayOp C Loose n g H heard op
  | own {b : Touch} : op.act.touch? = some b → Loose g → g < n → ¬ C.Sh b.loc → (C.Pv g b.loc ∨ b.write = false ∧ C.St g b.loc) → MayOp C Loose n g H heard op
  | book {b : Touch} : op.act.touch? = some b → g < n → ¬ C.Dd g → C.Sh b.loc → (b.kind = .atomic ∧ (g = 0 ∨ ¬ heard) ∨ b.kind = .said ∧ g = 0) → MayOp C Loose n g H heard op
theorem some_inj {α : Type} {x y : α} (h : some x = some y) : x = y := by cases h; rfl
theorem app_cases {t u : Trace} {i : Nat} {x : MemOp} (h : (t ++ u)[i]? = some x) : (i < t.size ∧ t[i]? = some x) ∨ ∃ k, i = t.size + k ∧ u[k]? = some x := by
  by_cases hi : i < t.size
  · exact .inl ⟨hi, by rw [← getElem?_append_old (u := u) hi]; exact h⟩
  · refine .inr ⟨i - t.size, by omega, ?_⟩
    rw [Array.getElem?_append_right (by omega)] at h
    exact h
theorem knows_of_g {t : Trace} {i g : Nat} (h : t.g? i = some g) : Knows t g i := by
  obtain ⟨op, ho, hg⟩ := Option.map_eq_some_iff.1 h
  exact hg ▸ knows_own ho
section
variable {C : Cfg} {Loose rel : Nat → Prop} {n : Nat} {dd dd' : Nat → Nat} {K K' : Nat → Prop} {t u : Trace} {g : Nat} {H : Prop}
theorem Tr.one (X : C.Ok) (T : Tr C Loose rel n dd K t) (hu : ∀ op ∈ u, op.g = g) (hm : ∀ (k : Nat) op, u[k]? = some op → MayOp C Loose n g H ((t ++ u).heard (t.size + k)) op) (hK : ∀ i, K i → K' i)
    (hH : H → (∀ i, K i → Knows t g i) ∧ ∀ k, k < u.size → K' (t.size + k)) (hd : ∀ g', Deaf (t ++ u) g' = dd' g') (hn : ∀ op ∈ u, ∀ x, op.act ≠ .mark (.release x)) : Tr C Loose rel n dd' K' (t ++ u) := by
  have hlt : ∀ {p : Nat} {a : MemAct}, t.act? p = some a → p < t.size := fun h => lt_of_act? h
  have newg : ∀ (k : Nat) op, u[k]? = some op → (t ++ u).g? (t.size + k) = some g := fun k op hk => by
    rw [g?_of (op := op) (by rw [at_new]; exact hk), hu op (Array.mem_of_getElem? hk)]
  refine ⟨fun said => ?_, fun i a ha hmem hsh hgr => ?_, fun i a ha hsh => ?_, fun i a ha hgr => ?_, fun i a g' ha hw hs hg' => ?_, fun i a g' ha hs hg' => ?_, hd, fun p hp => ?_, fun op hop => (Array.mem_append.1 hop).elim (T.norel op) (hn op)⟩
  · refine noRace_append (T.clean said) hu fun i a ha op hop b hb hc => ?_
    obtain ⟨k, hk⟩ := Array.mem_iff_getElem?.1 hop
    cases hm k op hk with
    | mute h => rw [h] at hb; cases hb
    | hold h h0 h1 h1' h2 h3 =>
      rw [h] at hb; cases hb
      rcases T.known i a ha hc.2.1 (hc.1 ▸ h1) (hc.1 ▸ h1') with hk' | ⟨g', _, hp | ⟨hw, hs⟩, _⟩
      · exact (hH h0).1 i hk'
      · exact absurd (hc.1 ▸ hp) (h2 g')
      · have hbw := h3 g' (hc.1 ▸ hs)
        rcases hc.2.2.1 with x | x
        · rw [hw] at x; cases x
        · rw [hbw] at x; cases x
    | own h h0 h1 h2 h3 =>
      rw [h] at hb; cases hb
      rcases h3 with hp | ⟨hw, hs⟩
      · exact T.priv i a g ha (hc.1 ▸ hp) h1
      · rcases hc.2.2.1 with x | x
        · exact T.wrote i a g ha x (hc.1 ▸ hs) h1
        · rw [hw] at x; cases x
    | book h h0 h0' h1 h2 =>
      rw [h] at hb; cases hb
      rcases T.sh i a ha (hc.1 ▸ h1) with hk' | ⟨ka, _⟩ | ⟨ka, g0⟩
      · exact hk' g h0 h0'
      · exfalso
        have hcc := hc.2.2.2
        rw [ka] at hcc
        rcases h2 with ⟨h2, _⟩ | ⟨h2, _⟩ <;> rw [h2] at hcc <;> simp at hcc
      · rcases h2 with ⟨h2, _⟩ | ⟨h2, rfl⟩
        · exfalso
          have hcc := hc.2.2.2
          rw [ka, h2] at hcc
          simp at hcc
        · exact knows_of_g g0
  · obtain ⟨x, hx, hxa⟩ := touch_of ha
    rcases app_cases hx with ⟨hi, hx'⟩ | ⟨k, rfl, hk⟩
    · rcases T.known i a (by rw [touchAt_of hx']; exact hxa) hmem hsh hgr with h | ⟨g', h1, h2, h3⟩
      · exact .inl (hK i h)
      · exact .inr ⟨g', by rw [g?_old hi]; exact h1, h2, h3.imp id fun ⟨p, hp, hb⟩ => ⟨p, hp, hb.app u⟩⟩
    · cases hm k x hk with
      | mute h => rw [h] at hxa; cases hxa
      | hold h h0 => exact .inl ((hH h0).2 k (Array.getElem?_eq_some_iff.1 hk).1)
      | own h h0 h1 h2 h3 => rw [h] at hxa; cases hxa; exact .inr ⟨g, newg k x hk, h3, .inl h0⟩
      | book h h0 h0' h1 => rw [h] at hxa; cases hxa; exact absurd h1 hsh
  · obtain ⟨x, hx, hxa⟩ := touch_of ha
    rcases app_cases hx with ⟨hi, hx'⟩ | ⟨k, rfl, hk⟩
    · rcases T.sh i a (by rw [touchAt_of hx']; exact hxa) hsh with h | h | h
      · exact .inl fun g' hg' hd' => (h g' hg' hd').app u
      · exact .inr (.inl ⟨h.1, h.2.imp (fun q => by rw [g?_old hi]; exact q) (fun q => by rw [heard_old hi]; exact q)⟩)
      · exact .inr (.inr ⟨h.1, by rw [g?_old hi]; exact h.2⟩)
    · cases hm k x hk with
      | mute h => rw [h] at hxa; cases hxa
      | hold h h0 h1 => rw [h] at hxa; cases hxa; exact absurd hsh h1
      | own h h0 h1 h2 => rw [h] at hxa; cases hxa; exact absurd hsh h2
      | book h h0 h0' h1 h2 =>
        rw [h] at hxa; cases hxa
        rcases h2 with ⟨h2, h3⟩ | ⟨h2, h3⟩
        · exact .inr (.inl ⟨h2, h3.imp (fun q => by rw [newg k x hk, q]) id⟩)
        · exact .inr (.inr ⟨h2, by rw [newg k x hk, h3]⟩)
  · obtain ⟨x, hx, hxa⟩ := touch_of ha
    rcases app_cases hx with ⟨hi, hx'⟩ | ⟨k, rfl, hk⟩
    · rcases T.gr i a (by rw [touchAt_of hx']; exact hxa) hgr with h | h | h
      · exact .inl (h.app u)
      · exact .inr (.inl ⟨h.1, h.2.imp (fun q => by rw [g?_old hi]; exact q) (fun q => by rw [heard_old hi]; exact q)⟩)
      · exact .inr (.inr ⟨h.1, by rw [g?_old hi]; exact h.2⟩)
    · cases hm k x hk with
      | mute h => rw [h] at hxa; cases hxa
      | hold h h0 h1 h1' => rw [h] at hxa; cases hxa; exact absurd hgr h1'
      | own h h0 h1 h2 h3 => rw [h] at hxa; cases hxa; exact h3.elim (fun q => absurd q ((X.gr _ hgr).2 g).1) fun q => absurd q.2 ((X.gr _ hgr).2 g).2
      | book h h0 h0' h1 h2 => rw [h] at hxa; cases hxa; exact absurd h1 (X.gr _ hgr).1
  · obtain ⟨x, hx, hxa⟩ := touch_of ha
    rcases app_cases hx with ⟨hi, hx'⟩ | ⟨k, rfl, hk⟩
    · exact (T.wrote i a g' (by rw [touchAt_of hx']; exact hxa) hw hs hg').app u
    · cases hm k x hk with
      | mute h => rw [h] at hxa; cases hxa
      | hold h h0 h1 h1' h2 h3 => rw [h] at hxa; cases hxa; rw [h3 g' hs] at hw; cases hw
      | own h h0 h1 h2 h3 =>
        rw [h] at hxa; cases hxa
        rcases h3 with hp | ⟨hw', _⟩
        · by_cases e : g = g'
          · subst e; exact knows_of_g (newg k x hk)
          · exact absurd hs (X.apart g g' _ hp e).2
        · rw [hw] at hw'; cases hw'
      | book h h0 h0' h1 => rw [h] at hxa; cases hxa; exact absurd hs (X.off g' _ h1).2
  · obtain ⟨x, hx, hxa⟩ := touch_of ha
    rcases app_cases hx with ⟨hi, hx'⟩ | ⟨k, rfl, hk⟩
    · exact (T.priv i a g' (by rw [touchAt_of hx']; exact hxa) hs hg').app u
    · cases hm k x hk with
      | mute h => rw [h] at hxa; cases hxa
      | hold h h0 h1 h1' h2 h3 => rw [h] at hxa; cases hxa; exact absurd hs (h2 g')
      | own h h0 h1 h2 h3 =>
        rw [h] at hxa; cases hxa
        by_cases e : g = g'
        · subst e; exact knows_of_g (newg k x hk)
        · rcases h3 with hp | ⟨_, hq⟩
          · exact absurd hs (X.apart g g' _ hp e).1
          · exact absurd hq (X.apart g' g _ hs (Ne.symm e)).2
      | book h h0 h0' h1 => rw [h] at hxa; cases hxa; exact absurd hs (X.off g' _ h1).1
  · obtain ⟨h1, h2⟩ := T.rels p hp
    exact ⟨by rw [act?_old (hlt h1)]; exact h1, (heard_old (hlt h1)).2 h2⟩
theorem Tr.mute (T : Tr C Loose rel n dd K t) (hm : ∀ op ∈ u, op.act.touch? = none) (hK : ∀ i, K i → K' i) (hd : ∀ g', Deaf (t ++ u) g' = dd' g') (hn : ∀ op ∈ u, ∀ x, op.act ≠ .mark (.release x)) : Tr C Loose rel n dd' K' (t ++ u) := by
  have hlt : ∀ {p : Nat} {a : MemAct}, t.act? p = some a → p < t.size := fun h => lt_of_act? h
  have old : ∀ {i : Nat} {a : Touch}, touchAt (t ++ u) i = some a → i < t.size ∧ touchAt t i = some a := by
    intro i a ha
    obtain ⟨x, hx, hxa⟩ := touch_of ha
    rcases getElem?_append_cases hx with ⟨hi, hx'⟩ | ⟨_, hxu⟩
    · exact ⟨hi, by rw [touchAt_of hx']; exact hxa⟩
    · rw [hm x hxu] at hxa; cases hxa
  refine ⟨fun said => noRace_appendMute (T.clean said) hm, fun i a ha hmem hsh hgr => ?_, fun i a ha hsh => ?_, fun i a ha hgr => ?_, fun i a g' ha hw hs hg' => (T.wrote i a g' (old ha).2 hw hs hg').app u, fun i a g' ha hs hg' => (T.priv i a g' (old ha).2 hs hg').app u, hd, fun p hp => ?_, fun op hop => (Array.mem_append.1 hop).elim (T.norel op) (hn op)⟩
  · obtain ⟨hi, ha'⟩ := old ha
    rcases T.known i a ha' hmem hsh hgr with h | ⟨g', h1, h2, h3⟩
    · exact .inl (hK i h)
    · exact .inr ⟨g', by rw [g?_old hi]; exact h1, h2, h3.imp id fun ⟨p, hp, hb⟩ => ⟨p, hp, hb.app u⟩⟩
  · obtain ⟨hi, ha'⟩ := old ha
    rcases T.sh i a ha' hsh with h | h | h
    · exact .inl fun g' hg' hd' => (h g' hg' hd').app u
    · exact .inr (.inl ⟨h.1, h.2.imp (fun q => by rw [g?_old hi]; exact q) (fun q => by rw [heard_old hi]; exact q)⟩)
    · exact .inr (.inr ⟨h.1, by rw [g?_old hi]; exact h.2⟩)
  · obtain ⟨hi, ha'⟩ := old ha
    rcases T.gr i a ha' hgr with h | h | h
    · exact .inl (h.app u)
    · exact .inr (.inl ⟨h.1, h.2.imp (fun q => by rw [g?_old hi]; exact q) (fun q => by rw [heard_old hi]; exact q)⟩)
    · exact .inr (.inr ⟨h.1, by rw [g?_old hi]; exact h.2⟩)
  · obtain ⟨h1, h2⟩ := T.rels p hp
    exact ⟨by rw [act?_old (hlt h1)]; exact h1, (heard_old (hlt h1)).2 h2⟩
theorem Tr.account {Loose' rel' : Nat → Prop} (T : Tr C Loose rel n dd K t) (hr : ∀ p, rel' p → rel p ∨ (t.act? p = some (.mark (.releaseMerge C.ad)) ∧ t.heard p))
    (h : ∀ i a, touchAt t i = some a → a.loc.isMemory = true → ¬ C.Sh a.loc → ¬ C.Gr a.loc → (K i → K' i ∨ ∃ g, t.g? i = some g ∧ (C.Pv g a.loc ∨ a.write = false ∧ C.St g a.loc) ∧ (Loose' g ∨ ∃ p, rel' p ∧ Before t i p)) ∧
      ∀ g, t.g? i = some g → (Loose g ∨ ∃ p, rel p ∧ Before t i p) → K' i ∨ (Loose' g ∨ ∃ p, rel' p ∧ Before t i p)) : Tr C Loose' rel' n dd K' t := by
  refine ⟨T.clean, fun i a ha hm hs hgr => ?_, T.sh, T.gr, T.wrote, T.priv, T.deaf, fun p hp => (hr p hp).elim (T.rels p) id, T.norel⟩
  obtain ⟨h1, h2⟩ := h i a ha hm hs hgr
  rcases T.known i a ha hm hs hgr with k | ⟨g, k1, k2, k3⟩
  · exact h1 k
  · rcases h2 g k1 k3 with k4 | k4
    · exact .inl k4
    · exact .inr ⟨g, k1, k2, k4⟩
theorem Tr.both {h j : Nat} (T : Tr C Loose rel n dd K t) (hh : dd h = 0) (hj : dd j = 0) (fh : FuncId) (ph : String) (fj : FuncId) (pj : String) (c k : Nat) :
    ∀ i, Knows t h i ∨ Knows t j i → Knows (t ++ met h j fh ph fj pj c k 0) h i ∧ Knows (t ++ met h j fh ph fj pj c k 0) j i := by
  generalize hu : met h j fh ph fj pj c k 0 = u
  have hq : ∀ g, ∀ op ∈ u, ∀ d, deafStep g d op = d := fun g => hu ▸ met_quiet h j fh ph fj pj c k 0 g
  have e0 : (t ++ u)[t.size]? = some { g := h, fn := fh, pos := ph, act := .send c k } := by subst hu; simp [met]
  have e1 : (t ++ u)[t.size + 1]? = some { g := j, fn := fj, pos := pj, act := .recv c k 0 } := by subst hu; simp [met]
  have e2 : (t ++ u)[t.size + 2]? = some { g := h, fn := fh, pos := ph, act := .sendDone c k } := by subst hu; simp [met]
  have e3 : (t ++ u)[t.size + 3]? = some { g := j, fn := fj, pos := pj, act := .recvDone c k } := by subst hu; simp [met]
  have hsz : u.size = 4 := by subst hu; simp [met]
  have hear : ∀ (x : Nat) (m : Nat) op, m ≤ u.size → (t ++ u)[t.size + m]? = some op → op.g = x → dd x = 0 → (t ++ u).heard (t.size + m) := fun x m op hm ho hx hd =>
    ⟨x, by rw [g?_of ho, hx], by rw [deaf_quiet (hq x) m hm, T.deaf x, hd]⟩
  have edge1 : HappensBefore (t ++ u) t.size (t.size + 3) := Relation.TransGen.single (.inr ⟨.handOver (act?_of e0) (act?_of e3), hear h 0 _ (by omega) e0 rfl hh, hear j 3 _ (by omega) e3 rfl hj⟩)
  have edge2 : HappensBefore (t ++ u) (t.size + 1) (t.size + 2) := Relation.TransGen.single (.inr ⟨.room (act?_of e1) (by rw [act?_of e2]; rfl), hear j 1 _ (by omega) e1 rfl hj, hear h 2 _ (by omega) e2 rfl hh⟩)
  rintro i (hk | hk)
  · exact ⟨hk.app u, ⟨t.size + 3, _, e3, rfl, .inr ((hk.hb_new (Nat.le_refl _) e0 rfl).trans edge1)⟩⟩
  · exact ⟨⟨t.size + 2, _, e2, rfl, .inr ((hk.hb_new (by omega) e1 rfl).trans edge2)⟩, hk.app u⟩
theorem Tr.meet {h j : Nat} (T : Tr C Loose rel n dd K t) (hK : ∀ i, K i → Knows t h i ∨ Knows t j i) (hh : dd h = 0) (hj : dd j = 0) (fh : FuncId) (ph : String) (fj : FuncId) (pj : String) (c k : Nat) :
    Tr C (fun g => Loose g ∧ g ≠ h ∧ g ≠ j) rel n dd (fun i => Knows (t ++ met h j fh ph fj pj c k 0) h i ∧ Knows (t ++ met h j fh ph fj pj c k 0) j i) (t ++ met h j fh ph fj pj c k 0) := by
  have both := T.both hh hj fh ph fj pj c k
  revert both
  generalize hu : met h j fh ph fj pj c k 0 = u
  intro both
  have hn : ∀ op ∈ u, op.act.touch? = none := hu ▸ met_mute h j fh ph fj pj c k 0
  have hq : ∀ g, ∀ op ∈ u, ∀ d, deafStep g d op = d := fun g => hu ▸ met_quiet h j fh ph fj pj c k 0 g
  refine (T.mute (K' := fun i => Knows (t ++ u) h i ∧ Knows (t ++ u) j i) (dd' := dd) hn (fun i hi => both i (hK i hi)) (fun g => (Deaf_quiet (hq g)).trans (T.deaf g)) (fun op hop => ?_)).account (fun p hp => .inl hp) (fun i a ha hm hs _ => ⟨fun hk => .inl hk, fun g hg hl => ?_⟩)
  · subst hu
    simp only [met, List.mem_toArray, List.mem_cons, List.not_mem_nil, or_false] at hop
    intro x
    rcases hop with rfl | rfl | rfl | rfl <;> simp
  · rcases hl with hl | hl
    · by_cases e : g = h ∨ g = j
      · left
        obtain ⟨x, hx, hxa⟩ := touch_of ha
        rcases getElem?_append_cases hx with ⟨hi, hx'⟩ | ⟨_, hxu⟩
        · have hk : Knows t g i := knows_of_g (by rw [← g?_old (u := u) hi]; exact hg)
          rcases e with rfl | rfl
          · exact both i (.inl hk)
          · exact both i (.inr hk)
        · rw [hn x hxu] at hxa; cases hxa
      · exact .inr (.inl ⟨hl, fun x => e (.inl x), fun x => e (.inr x)⟩)
    · exact .inr (.inr hl)
def Cfg.hire (C : Cfg) (n : Nat) (S Q : Loc → Prop) : Cfg := { St := fun g l => C.St g l ∨ g = n ∧ S l, Pv := fun g l => C.Pv g l ∨ g = n ∧ Q l, Sh := C.Sh, Gr := C.Gr, Dd := C.Dd, on := C.on, ad := C.ad }
theorem Tr.hire {h : Nat} {S Q : Loc → Prop} (T : Tr C Loose rel n dd K t) (hK : ∀ i, K i → Knows t h i) (hlt : h < n) (hhd : ¬ C.Dd h) (hh : dd h = 0) (hc : dd n = 0) (hnew : ∀ g l, C.St g l ∨ C.Pv g l → g < n)
    (hS : ∀ l, S l → l.isMemory = true ∧ ¬ C.Sh l ∧ ¬ C.Gr l ∧ ∀ g, ¬ C.Pv g l) (hQ : ∀ l, Q l → l.isMemory = true ∧ ¬ C.Sh l ∧ ¬ C.Gr l ∧ ∀ g, ¬ C.Pv g l ∧ ¬ C.St g l) (fh : FuncId) (ph : String) (fc : FuncId)
    (hK' : ∀ i, Knows (t ++ #[{ g := h, fn := fh, pos := ph, act := .go n }, { g := n, fn := fc, pos := ph, act := .start }]) h i → Knows (t ++ #[{ g := h, fn := fh, pos := ph, act := .go n }, { g := n, fn := fc, pos := ph, act := .start }]) n i → K' i) :
    Tr (C.hire n S Q) (fun g => Loose g ∨ g = n) rel (n + 1) dd K' (t ++ #[{ g := h, fn := fh, pos := ph, act := .go n }, { g := n, fn := fc, pos := ph, act := .start }]) := by
  generalize hu : (#[{ g := h, fn := fh, pos := ph, act := .go n }, { g := n, fn := fc, pos := ph, act := .start }] : Trace) = u at hK' ⊢
  have hn : ∀ op ∈ u, op.act.touch? = none := by
    intro op hop
    subst hu
    simp only [List.mem_toArray, List.mem_cons, List.not_mem_nil, or_false] at hop
    rcases hop with rfl | rfl <;> rfl
  have hq : ∀ g, ∀ op ∈ u, ∀ d, deafStep g d op = d := by
    intro g op hop d
    subst hu
    simp only [List.mem_toArray, List.mem_cons, List.not_mem_nil, or_false] at hop
    rcases hop with rfl | rfl <;> rfl
  have e0 : (t ++ u)[t.size]? = some { g := h, fn := fh, pos := ph, act := .go n } := by subst hu; simp
  have e1 : (t ++ u)[t.size + 1]? = some { g := n, fn := fc, pos := ph, act := .start } := by subst hu; simp
  have edge : HappensBefore (t ++ u) t.size (t.size + 1) :=
    Relation.TransGen.single (.inr ⟨.spawn (act?_of e0) (act?_of e1) (g?_of e1), ⟨h, g?_of e0, by rw [deaf_old (Nat.le_refl _)]; exact (T.deaf h).trans hh⟩, ⟨n, g?_of e1, by rw [deaf_quiet (hq n) 1 (by subst hu; simp)]; exact (T.deaf n).trans hc⟩⟩)
  have pass : ∀ {i}, Knows t h i → Knows (t ++ u) n i := fun hk => ⟨t.size + 1, _, e1, rfl, .inr ((hk.hb_new (Nat.le_refl _) e0 rfl).trans edge)⟩
  have old : ∀ {i : Nat} {a : Touch}, touchAt (t ++ u) i = some a → i < t.size ∧ touchAt t i = some a := by
    intro i a ha
    obtain ⟨x, hx, hxa⟩ := touch_of ha
    rcases getElem?_append_cases hx with ⟨hi, hx'⟩ | ⟨_, hxu⟩
    · exact ⟨hi, by rw [touchAt_of hx']; exact hxa⟩
    · rw [hn x hxu] at hxa; cases hxa
  have T' := T.mute (K' := K') (dd' := dd) hn (fun i hi => hK' i ((hK i hi).app u) (pass (hK i hi))) (fun g => (Deaf_quiet (hq g)).trans (T.deaf g)) (fun op hop => by
    subst hu
    simp only [List.mem_toArray, List.mem_cons, List.not_mem_nil, or_false] at hop
    intro x
    rcases hop with rfl | rfl <;> simp)
  refine ⟨T'.clean, fun i a ha hm hs hgr => ?_, fun i a ha hs => ?_, T'.gr, fun i a g ha hw hs hg => ?_, fun i a g ha hs hg => ?_, T'.deaf, T'.rels, T'.norel⟩
  · rcases T'.known i a ha hm hs hgr with k | ⟨g, k1, k2, k3⟩
    · exact .inl k
    · exact .inr ⟨g, k1, k2.imp .inl fun x => ⟨x.1, .inl x.2⟩, k3.imp .inl id⟩
  · obtain ⟨hi, ha'⟩ := old ha
    rcases T.sh i a ha' hs with k | k | k
    · refine .inl fun g hg hd => ?_
      by_cases e : g = n
      · subst e; exact pass (k h hlt hhd)
      · exact (k g (by omega) hd).app u
    · exact .inr (.inl ⟨k.1, k.2.imp (fun q => by rw [g?_old hi]; exact q) (fun q => by rw [heard_old hi]; exact q)⟩)
    · exact .inr (.inr ⟨k.1, by rw [g?_old hi]; exact k.2⟩)
  · rcases hs with hs | ⟨rfl, hs⟩
    · exact T'.wrote i a g ha hw hs (hnew g _ (.inl hs))
    · obtain ⟨q1, q2, q2', q3⟩ := hS _ hs
      rcases T.known i a (old ha).2 q1 q2 q2' with k | ⟨g', _, k | ⟨k, _⟩, _⟩
      · exact pass (hK i k)
      · exact absurd k (q3 g')
      · rw [hw] at k; cases k
  · rcases hs with hs | ⟨rfl, hs⟩
    · exact T'.priv i a g ha hs (hnew g _ (.inr hs))
    · obtain ⟨q1, q2, q2', q3⟩ := hQ _ hs
      rcases T.known i a (old ha).2 q1 q2 q2' with k | ⟨g', _, k | ⟨_, k⟩, _⟩
      · exact pass (hK i k)
      · exact absurd k (q3 g').1
      · exact absurd k (q3 g').2
theorem Tr.release (T : Tr C Loose rel n dd K t) (hK : ∀ i, K i → K' i) (hg : dd g = 0) (fn : FuncId) (pos : String) (hu : u = #[{ g := g, fn := fn, pos := pos, act := .mark (.releaseMerge C.ad) }]) :
    Tr C (fun x => Loose x ∧ x ≠ g) (fun p => rel p ∨ p = t.size) n dd K' (t ++ u) ∧ ∀ i, Knows t g i → Before (t ++ u) i t.size := by
  have e0 : (t ++ u)[t.size]? = some { g := g, fn := fn, pos := pos, act := .mark (.releaseMerge C.ad) } := by subst hu; simp
  have hn : ∀ op ∈ u, op.act.touch? = none := by
    intro op hop
    subst hu
    simp only [List.mem_toArray, List.mem_cons, List.not_mem_nil, or_false] at hop
    subst hop; rfl
  have hq : ∀ g, ∀ op ∈ u, ∀ d, deafStep g d op = d := by
    intro g op hop d
    subst hu
    simp only [List.mem_toArray, List.mem_cons, List.not_mem_nil, or_false] at hop
    subst hop; rfl
  have bef : ∀ i, Knows t g i → Before (t ++ u) i t.size := fun i hk => .inr (hk.hb_new (Nat.le_refl _) e0 rfl)
  refine ⟨(T.mute (K' := K') (dd' := dd) hn hK (fun g' => (Deaf_quiet (hq g')).trans (T.deaf g')) (fun op hop => ?_)).account (fun p hp => ?_) (fun i a ha hm hs _ => ⟨fun hk => .inl hk, fun x hx hl => ?_⟩), bef⟩
  · subst hu
    simp only [List.mem_toArray, List.mem_cons, List.not_mem_nil, or_false] at hop
    intro x; subst hop; simp
  · rcases hp with hp | rfl
    · exact .inl hp
    · exact .inr ⟨act?_of e0, g, g?_of e0, by rw [deaf_old (Nat.le_refl _)]; exact (T.deaf g).trans hg⟩
  · rcases hl with hl | ⟨p, hp, hb⟩
    · by_cases e : x = g
      · subst e
        obtain ⟨y, hy, hya⟩ := touch_of ha
        rcases getElem?_append_cases hy with ⟨hi, _⟩ | ⟨_, hyu⟩
        · exact .inr (.inr ⟨t.size, .inr rfl, bef i (knows_of_g (by rw [← g?_old (u := u) hi]; exact hx))⟩)
        · rw [hn y hyu] at hya; cases hya
      · exact .inr (.inl ⟨hl, e⟩)
    · exact .inr (.inr ⟨p, .inl hp, hb⟩)
theorem Tr.acquire (T : Tr C Loose rel n dd K t) (hK : ∀ i, K i → Knows t 0 i ∨ ∃ p, rel p ∧ Before t i p) (hg : dd 0 = 0) (fn : FuncId) (pos : String) (hu : u = #[{ g := 0, fn := fn, pos := pos, act := .mark (.acquire C.ad) }]) :
    Tr C Loose (fun _ => False) n dd (Knows (t ++ u) 0) (t ++ u) := by
  have e0 : (t ++ u)[t.size]? = some { g := 0, fn := fn, pos := pos, act := .mark (.acquire C.ad) } := by subst hu; simp
  have hn : ∀ op ∈ u, op.act.touch? = none := by
    intro op hop
    subst hu
    simp only [List.mem_toArray, List.mem_cons, List.not_mem_nil, or_false] at hop
    subst hop; rfl
  have hq : ∀ g, ∀ op ∈ u, ∀ d, deafStep g d op = d := by
    intro g op hop d
    subst hu
    simp only [List.mem_toArray, List.mem_cons, List.not_mem_nil, or_false] at hop
    subst hop; rfl
  have edge : ∀ p, rel p → HappensBefore (t ++ u) p t.size := by
    intro p hp
    obtain ⟨h1, h2⟩ := T.rels p hp
    have hlt := lt_of_act? h1
    refine Relation.TransGen.single (.inr ⟨.marked hlt (.inr (by rw [act?_old hlt]; exact h1)) (act?_of e0) (fun k _ hk ho => ?_), (heard_old hlt).2 h2, ⟨0, g?_of e0, by rw [deaf_old (Nat.le_refl _)]; exact (T.deaf 0).trans hg⟩⟩)
    rw [act?_old hk] at ho
    obtain ⟨op, ho1, ho2⟩ := Option.map_eq_some_iff.1 (show (t[k]?).map (·.act) = _ from ho)
    exact T.norel op (Array.mem_of_getElem? ho1) _ ho2
  have now : ∀ i, (∃ p, rel p ∧ Before t i p) → Knows (t ++ u) 0 i := fun i ⟨p, hp, hb⟩ => ⟨t.size, _, e0, rfl, .inr ((hb.app u).hb (edge p hp))⟩
  refine (T.mute (K' := Knows (t ++ u) 0) (dd' := dd) hn (fun i hi => (hK i hi).elim (fun x => x.app u) (now i)) (fun g' => (Deaf_quiet (hq g')).trans (T.deaf g')) (fun op hop => ?_)).account (fun p hp => hp.elim) (fun i a ha hm hs _ => ⟨fun hk => .inl hk, fun x hx hl => ?_⟩)
  · subst hu
    simp only [List.mem_toArray, List.mem_cons, List.not_mem_nil, or_false] at hop
    intro x; subst hop; simp
  · rcases hl with hl | ⟨p, hp, hb⟩
    · exact .inr (.inl hl)
    · exact .inl ⟨t.size, _, e0, rfl, .inr (hb.hb (edge p hp))⟩
theorem Tr.handed (T : Tr C Loose rel n dd (Knows t 0) t) (hn : 0 < n) (hd0 : ¬ C.Dd 0) (hL : ∀ g, ¬ Loose g) (hr : ∀ p, ¬ rel p) : t.HandedOver := by
  intro i g hg hne hc
  obtain ⟨x, hx, hm, hk⟩ := hc
  have fin : Knows t 0 i → ∃ j, t.g? j = some 0 ∧ HappensBefore t i j := by
    rintro ⟨q, z, hq, hz, hb⟩
    rcases hb with rfl | hb
    · rw [g?_of hq, hz] at hg
      exact absurd (some_inj hg).symm hne
    · exact ⟨q, by rw [g?_of hq, hz], hb⟩
  by_cases hs : C.Sh x.loc
  · rcases T.sh i x hx hs with h | ⟨h1, h2⟩ | ⟨_, h2⟩
    · exact fin (h 0 hn hd0)
    · rcases h2 with h2 | h2
      · rw [hg] at h2; exact absurd (some_inj h2) hne
      · rcases hk with hk | hk
        · exact absurd h1 hk
        · exact absurd hk h2
    · rw [hg] at h2; exact absurd (some_inj h2) hne
  · by_cases hgr : C.Gr x.loc
    · rcases T.gr i x hx hgr with h | ⟨h1, h2⟩ | ⟨_, h2⟩
      · exact fin h
      · rcases h2 with h2 | h2
        · rw [hg] at h2; exact absurd (some_inj h2) hne
        · rcases hk with hk | hk
          · exact absurd h1 hk
          · exact absurd hk h2
      · rw [hg] at h2; exact absurd (some_inj h2) hne
    rcases T.known i x hx hm hs hgr with h | ⟨g', _, _, h | ⟨p, h, _⟩⟩
    · exact fin h
    · exact absurd h (hL g')
    · exact absurd h (hr p)
def Cfg.anew (C : Cfg) (n : Nat) (S : Loc → Prop) (on : Prop) (ad : Addr) : Cfg := { St := fun _ _ => False, Pv := fun _ _ => False, Sh := S, Gr := fun l => C.Gr l ∨ C.Sh l, Dd := fun g => 0 < g ∧ g < n, on := on, ad := ad }
theorem Tr.anew {S : Loc → Prop} {on : Prop} {ad : Addr} (T : Tr C Loose rel n dd (Knows t 0) t) (hn : 0 < n) (hd0 : ¬ C.Dd 0) (hL : ∀ g, ¬ Loose g) (hr : ∀ p, ¬ rel p) (hS : ∀ l, S l → l.isMemory = true ∧ ¬ C.Sh l ∧ ¬ C.Gr l) :
    Tr (C.anew n S on ad) (fun _ => False) (fun _ => False) n dd (Knows t 0) t := by
  have know : ∀ i a, touchAt t i = some a → a.loc.isMemory = true → ¬ C.Sh a.loc → ¬ C.Gr a.loc → Knows t 0 i := fun i a ha hm hs hg => by
    rcases T.known i a ha hm hs hg with h | ⟨g', _, _, h | ⟨p, h, _⟩⟩
    · exact h
    · exact absurd h (hL g')
    · exact absurd h (hr p)
  refine ⟨T.clean, fun i a ha hm _ hg => .inl (know i a ha hm (fun h => hg (.inr h)) (fun h => hg (.inl h))), fun i a ha hs => .inl fun g hg hd => ?_, fun i a ha hg => ?_, fun i a g ha _ h => h.elim, fun i a g ha h => h.elim, T.deaf, fun p hp => hp.elim, T.norel⟩
  · obtain ⟨h1, h2, h3⟩ := hS _ hs
    obtain rfl : g = 0 := by
      rcases Nat.eq_zero_or_pos g with h | h
      · exact h
      · exact absurd ⟨h, hg⟩ hd
    exact know i a ha h1 h2 h3
  · rcases hg with hg | hg
    · exact T.gr i a ha hg
    · rcases T.sh i a ha hg with h | h | h
      · exact .inl (h 0 hn hd0)
      · exact .inr (.inl h)
      · exact .inr (.inr h)
def Cfg.drop (C : Cfg) (i : Nat) : Cfg := { St := fun g l => g ≠ i ∧ C.St g l, Pv := fun g l => g ≠ i ∧ C.Pv g l, Sh := C.Sh, Gr := C.Gr, Dd := C.Dd, on := C.on, ad := C.ad }
theorem Tr.drop {i : Nat} (T : Tr C Loose rel n dd K t) (hi : ¬ Loose i) (hr : ∀ p x a, rel p → Before t x p → t.g? x = some i → touchAt t x = some a → K x) : Tr (C.drop i) Loose rel n dd K t := by
  refine ⟨T.clean, fun x a ha hm hs hg => ?_, T.sh, T.gr, fun x a g ha hw hs => T.wrote x a g ha hw hs.2, fun x a g ha hs => T.priv x a g ha hs.2, T.deaf, T.rels, T.norel⟩
  rcases T.known x a ha hm hs hg with h | ⟨g, h1, h2, h3⟩
  · exact .inl h
  · by_cases e : g = i
    · subst e
      rcases h3 with h3 | ⟨p, hp, hb⟩
      · exact absurd h3 hi
      · exact .inl (hr p x a hp hb h1 ha)
    · exact .inr ⟨g, h1, h2.imp (fun h => ⟨e, h⟩) (fun h => ⟨h.1, e, h.2⟩), h3⟩
end
end Go.Town
