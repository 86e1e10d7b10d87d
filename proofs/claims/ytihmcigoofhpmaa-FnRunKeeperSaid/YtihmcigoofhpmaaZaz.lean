/-
  do as a whole.
  Code with what comes behind kept out of sight; companies of a bounded number.
  The lesser world of the beginning: what is there can be read, and nothing of it turns.
  restart: one of them is started again.
  restart: one of them is started again.
-/
import Derived.Test.YtihmcigoofhpmaaZay
set_option linter.all false
namespace Go.Town.Kp
open Go Go.Conc Go.Conc.Lib Go.ConcR.Gen Go.RowKit Go.Town Go.Proofs
open Go.ConcN (upd upd_ne upd_same)
def Ch (w : World) (r : Nat) : Prop := ∃ k, w.heap[r]? = some (.chan 0 #[] false k k false)
theorem Ch.turn {w : World} {r c m : Nat} {ob : Obj} (h : Ch w r) (hc : w.heap[c]? = some ob) : Ch (w.setChan c 0 #[] false m m false) r := by
  obtain ⟨k, h⟩ := h
  have hlt := (Array.getElem?_eq_some_iff.1 hc).1
  by_cases e : c = r
  · subst e
    exact ⟨m, by rw [setChan_heap, if_pos rfl, if_pos hlt]⟩
  · exact ⟨k, by rw [setChan_heap, if_neg e]; exact h⟩
theorem Ch.alloc {w : World} {r : Nat} (h : Ch w r) (o : Obj) : Ch (w.alloc o) r := let ⟨k, h⟩ := h; ⟨k, heap_alloc_lt h⟩
theorem Ch.set {w : World} {r : Nat} (h : Ch w r) (a : Addr) (v : Value) : Ch (w.setCell a v) r := let ⟨k, h⟩ := h; ⟨k, heap_setCell_obj h rfl⟩
theorem Ch.re {w : World} {r : Nat} (h : Ch w r) (T : Nat → Question → Nat) (d : Nat) : Ch (w.re T d) r := h
theorem Side.fresh {A : At} {w w' : World} (h : Side A w w') {x j : Nat} (u : Value) (hx : w.heap.size ≤ x) : Side A w (w'.setCell ⟨x, j, none⟩ u) := by
  refine ⟨fun y l v h1 h2 h3 hv => ?_, fun y l v hy hv hf => ?_, Nat.le_trans h.size (by simp [World.setCell])⟩
  · have := block_lt hv
    exact (cell_setCell_ne w' u (.inl (by show x ≠ y; simp at this; omega))).trans (h.cells y l v h1 h2 h3 hv)
  · obtain ⟨⟨v', hv'⟩, hf'⟩ := h.thaw y l v hy hv hf
    exact ⟨cell?_setCell_some hv', (frozen_setCell _ _ _ _).trans hf'⟩
theorem Posts.turn {C : Cfg} {c j : Nat} {L : Nat → Ws} {s : Ws} {u v : Wd} (h : Posts C c L) (hu : (L j).wd = some u) (hv : s.wd = some v) (h1 : v.bc = u.bc) (h2 : v.bt = u.bt) : Posts C c (upd L j s) := by
  refine ⟨h.on, h.no, fun i w hi hw => ?_⟩
  by_cases e : i = j
  · subst e
    rw [upd_same, hv] at hw
    cases hw
    rw [h1, h2]
    exact h.ks i u hi hu
  · rw [upd_ne _ _ e] at hw
    exact h.ks i w hi hw
theorem upd_upd {α : Type} (f : Nat → α) (j : Nat) (s t : α) : upd (upd f j s) j t = upd f j t := by
  funext i
  by_cases e : i = j
  · subst e; rw [upd_same, upd_same]
  · rw [upd_ne _ _ e, upd_ne _ _ e, upd_ne _ _ e]
section
variable {A : At} {C : Cfg} {L : Nat → Ws} {Post : Value → World → Prop} {N k : Nat} {wl : World} {i : Nat} {cs : List Frame} {slot : Nat → Option Nat} {sum starts : Nat → Int} {b₀ : Frame} {a₀ : Act} {ops₀ : Array Oper} {i₀ : Nat} {rest₀ : List Nat} {k₀ : List Item}
theorem Kept.turned (K : Kept A C L slot sum starts wl) {w : World} {j : Nat} {u : Wd} {s : Int} {sum' : Nat → Int} (hi : i < A.n) (hs : slot i = some u.x) (hj : j ≠ 0) (hl : L j = .live u) (m : Mem A slot sum' starts w) (hh : ∃ es clock, Has A slot w es clock) (hch : ∀ r, Ch wl r → Ch w r) (hL : Lay C w) (h1 : sum' i = s) (h2 : ∀ l, l ≠ i → sum' l = sum l) :
    Kept A C (upd L j (.live ⟨u.bc, u.bt, u.x, s⟩)) slot sum' starts w := by
  have hw : (L j).wd = some u := by rw [hl]; rfl
  refine ⟨K.ok, m, hh, ⟨K.chans.inj, hch _ K.chans.rp, fun l x hl hx => ⟨(K.chans.xs l x hl hx).1, hch _ (K.chans.xs l x hl hx).2⟩⟩, hL, K.posts.turn hw rfl rfl rfl, K.apart.turn hw rfl rfl, fun l x hln hx => ?_, fun j' v hj' hv => ?_⟩
  · by_cases e : l = i
    · subst e
      rw [hs] at hx
      cases hx
      exact ⟨j, _, hj, upd_same _ _ _, rfl, h1.symm⟩
    · obtain ⟨j', u', a1, a2, a3, a4⟩ := K.own l x hln hx
      refine ⟨j', u', a1, ?_, a3, a4.trans (h2 l e).symm⟩
      rw [upd_ne _ _ (fun e' => ?_)]
      · exact a2
      · subst e'
        rw [a2] at hl
        cases hl
        exact e (K.chans.inj l i _ hln hi (by rw [hx, a3]) hs)
  · by_cases e : j' = j
    · subst e
      rw [upd_same] at hv ⊢
      cases hv
      exact ⟨rfl, i, hi, hs⟩
    · rw [upd_ne _ _ e] at hv ⊢
      exact K.all j' v hj' hv
set_option maxRecDepth 100000 in
set_option maxHeartbeats 1000000 in
theorem doTask {x : Nat} {v : Int} (hp : OkProg Try.prog okT) (K : Kept A C L slot sum starts wl) (hi : i < A.n) (hs : slot i = some x) (hv : IntKind.i64.wrap (sum i + v) = sum i + v)
    (h0 : v = 0 → ∀ L' wl', Kept A C L' (upd slot i none) sum starts wl' → Side A wl wl' → (∀ j, L j = .gone → L' j = .gone) → Can Try.prog C A.c 5 Post k (Crew A.c A.rp N L') wl' (G (b₀.at (a₀.put ((ops₀[i₀]?).bind (·.dst)) (.bool true)) (.inRegion ops₀ rest₀ :: k₀)) cs))
    (h1 : v ≠ 0 → ∀ L' wl', Kept A C L' slot (upd sum i (sum i + v)) starts wl' → Side A wl wl' → (∀ j, L j = .gone → L' j = .gone) → Can Try.prog C A.c 5 Post k (Crew A.c A.rp N L') wl' (G (b₀.at (a₀.put ((ops₀[i₀]?).bind (·.dst)) (.bool false)) (.inRegion ops₀ rest₀ :: k₀)) cs)) :
    Can Try.prog C A.c 5 Post k (Crew A.c A.rp N L) wl (G ((base 54).at ⟨#[.pointer (some ⟨A.c, 0, none⟩), .int .i64 i, .int .i64 v] ++ Array.replicate 39 undef, []⟩ [.code body54]) (b₀.at a₀ (.inRegion ops₀ (i₀ :: rest₀) :: k₀) :: cs)) := by
  have hA := K.ok
  obtain ⟨j, u, hj, hlj, rfl, hsum⟩ := K.own i x hi hs
  refine do_a hp K.lay ?_
  rintro w0 hL0 ⟨T0, d0, e0⟩
  have K0 : Kept A C L slot sum starts w0 := by rw [e0]; exact K.re T0 d0
  have sd0 : Side A wl w0 := by rw [e0]; exact (Side.refl A wl).re T0 d0
  have hch0 : ∀ r, Ch wl r → Ch w0 r := by rw [e0]; exact fun r h => h.re T0 d0
  clear e0
  obtain ⟨es, clock, hh⟩ := K0.has
  obtain ⟨hxr, kk, hck⟩ := K0.chans.xs i u.x hi hs
  obtain ⟨krp, hrp⟩ := K0.chans.rp
  obtain ⟨jj, hjj, hjv⟩ := hh.find K0.chans.inj hi hs
  have hmx : A.m ≠ u.x := fun e => by rw [← e, hh.heap] at hck; cases hck
  have hmr : A.m ≠ A.rp := fun e => by rw [← e, hh.heap] at hrp; cases hrp
  have hw : (L j).wd = some u := by rw [hlj]; rfl
  have lt : ∀ y l v, w0.cell? ⟨y, l, none⟩ = some v → y < w0.heap.size := fun y l v hv => block_lt hv
  have lta := lt _ _ _ (K0.mem.tasks i hi).1
  have lsa := lt _ _ _ (K0.mem.sums i hi).1
  have lst := lt _ _ _ (K0.mem.begun i hi).1
  have lc := lt _ _ _ K0.mem.c0
  clear lt
  refine do_b (v := v) hL0 K0.posts K0.apart hA K0.mem hi hs hj hlj hck ⟨krp, hrp⟩ ?_
  rw [hsum, hv]
  have hL1 := hL0.setChan hck rfl 0 #[] false (kk + 1) (kk + 1) false
  have m1 : Mem A slot sum starts (w0.setChan u.x 0 #[] false (kk + 1) (kk + 1) false) := K0.mem.obj hck rfl rfl
  have sd1 : Side A wl (w0.setChan u.x 0 #[] false (kk + 1) (kk + 1) false) := sd0.obj hck rfl rfl
  have hch1 : ∀ r, Ch w0 r → Ch (w0.setChan u.x 0 #[] false (kk + 1) (kk + 1) false) r := fun r h => h.turn hck
  have hm1 : (w0.setChan u.x 0 #[] false (kk + 1) (kk + 1) false).heap[A.m]? = some (.map es clock) := (setChan_other (Ne.symm hmx)).trans hh.heap
  have hz1 : (w0.setChan u.x 0 #[] false (kk + 1) (kk + 1) false).heap.size = w0.heap.size := by simp [World.setChan]
  have sz0 := sd0.size
  obtain ⟨kr1, hr1⟩ := hch1 _ K0.chans.rp
  have hx1 := hch1 _ (K0.chans.xs i u.x hi hs).2
  generalize w0.setChan u.x 0 #[] false (kk + 1) (kk + 1) false = w1 at *
  refine do_c (i := i) (v := v) (u := ⟨u.bc, u.bt, u.x, sum i + v⟩) (f := v == 0) hL1 (K0.posts.turn (s := .tells ⟨u.bc, u.bt, u.x, sum i + v⟩ (v == 0)) hw rfl rfl rfl) (K0.apart.turn (s := .tells ⟨u.bc, u.bt, u.x, sum i + v⟩ (v == 0)) hw rfl rfl) hA m1 hj (upd_same _ _ _) (fun l v' f' hl0 hl => ?_) hr1 hx1 ?_
  · refine Classical.byContradiction fun hne => ?_
    rw [upd_ne _ _ hne] at hl
    have := (K0.all l v' hl0 (by rw [hl]; rfl)).1
    rw [hl] at this
    cases this
  rw [upd_upd]
  rintro w2 hL2 ⟨T2, d2, e2⟩
  obtain ⟨a1, ha1⟩ : ∃ a, a = w1.setChan A.rp 0 #[] false (kr1 + 1) (kr1 + 1) false := ⟨_, rfl⟩
  obtain ⟨a2, ha2⟩ : ∃ a, a = a1.alloc (.cells #[.chan none, .int .i64 0, .bool false] 110) := ⟨_, rfl⟩
  rw [← ha1, ← ha2] at e2
  have za1 : a1.heap.size = w1.heap.size := by rw [ha1]; simp [World.setChan]
  have b0 : a2.cell? ⟨w1.heap.size, 0, none⟩ = some (.chan none) := by rw [ha2, ← za1]; exact cell_new rfl
  have b1 : a2.cell? ⟨w1.heap.size, 1, none⟩ = some (.int .i64 0) := by rw [ha2, ← za1]; exact cell_new rfl
  have b2 : a2.cell? ⟨w1.heap.size, 2, none⟩ = some (.bool false) := by rw [ha2, ← za1]; exact cell_new rfl
  have ma2 : Mem A slot sum starts a2 := by rw [ha2, ha1]; exact (m1.obj hr1 rfl rfl).alloc _
  have sa2 : Side A wl a2 := by rw [ha2, ha1]; exact (sd1.obj hr1 rfl rfl).alloc _
  have ca2 : ∀ r, Ch w1 r → Ch a2 r := by rw [ha2, ha1]; exact fun r h => (h.turn hr1).alloc _
  have hm2 : a2.heap[A.m]? = some (.map es clock) := by rw [ha2, ha1]; exact heap_alloc_lt ((setChan_other (Ne.symm hmr)).trans hm1)
  clear ha1 ha2 za1
  have nx : w1.heap.size ≠ A.c ∧ w1.heap.size ≠ A.ta ∧ w1.heap.size ≠ A.sa ∧ w1.heap.size ≠ A.st := by omega
  have fx : wl.heap.size ≤ w1.heap.size := by omega
  obtain ⟨bx, hbx⟩ : ∃ bx, bx = w1.heap.size := ⟨_, rfl⟩
  rw [← hbx] at e2 b0 b1 b2 nx fx ⊢
  clear hbx
  have m2 : Mem A slot sum starts w2 := by rw [e2]; exact (((ma2.other _ nx).other _ nx).other _ nx).re T2 d2
  have sd2 : Side A wl w2 := by rw [e2]; exact (((sa2.fresh _ fx).fresh _ fx).fresh _ fx).re T2 d2
  have hch2 : ∀ r, Ch w1 r → Ch w2 r := by rw [e2]; exact fun r h => ((((ca2 r h).set _ _).set _ _).set _ _).re T2 d2
  have hmm : w2.heap[A.m]? = some (.map es clock) := by rw [e2]; exact heap_setCell_obj (heap_setCell_obj (heap_setCell_obj hm2 rfl) rfl) rfl
  have hh2 : Has A slot w2 es clock := hh.other (hmm.trans hh.heap.symm)
  have c0 : w2.cell? ⟨bx, 0, none⟩ = some (.chan (some u.x)) := by rw [e2]; exact (cell_setCell_ne _ _ (.inr (by simp))).trans ((cell_setCell_ne _ _ (.inr (by simp))).trans (cell_setCell_eq _ b0))
  have c1 : w2.cell? ⟨bx, 1, none⟩ = some (.int .i64 (sum i + v)) := by rw [e2]; exact (cell_setCell_ne _ _ (.inr (by simp))).trans (cell_setCell_eq _ ((cell_setCell_ne _ _ (.inr (by simp))).trans b1))
  have c2 : w2.cell? ⟨bx, 2, none⟩ = some (.bool (v == 0)) := by rw [e2]; exact cell_setCell_eq _ ((cell_setCell_ne _ _ (.inr (by simp))).trans ((cell_setCell_ne _ _ (.inr (by simp))).trans b2))
  clear e2
  refine do_d (i := i) (v := v) hp hL2 m2 c0 hh2.heap hh2.chanKeys hjj hjv ?_
  rintro w3 hL3 ⟨T3, d3, e3⟩
  have m3 : Mem A slot sum starts w3 := by rw [e3]; exact m2.re T3 d3
  have sd3 : Side A wl w3 := by rw [e3]; exact sd2.re T3 d3
  have hch3 : ∀ r, Ch wl r → Ch w3 r := by rw [e3]; exact fun r h => (hch2 r (hch1 r (hch0 r h))).re T3 d3
  have hh3 : Has A slot w3 es clock := hh2.other (by rw [e3]; rfl)
  have g1 : w3.cell? ⟨bx, 1, none⟩ = some (.int .i64 (sum i + v)) := by rw [e3]; exact c1
  have g2 : w3.cell? ⟨bx, 2, none⟩ = some (.bool (v == 0)) := by rw [e3]; exact c2
  clear e3
  by_cases hv0 : v = 0
  · subst hv0
    have K3 := K.turned (s := sum i + 0) hi hs hj hlj m3 ⟨_, _, hh3⟩ hch3 hL3 (by simp) (fun _ _ => rfl)
    refine do_e1 hp K3 hi (g2.trans (by simp)) ?_
    intro L' wl' K' sd hg
    refine h0 rfl L' wl' K' (sd3.trans sd) (fun l hl => hg l ?_)
    rw [upd_ne _ _ (by rintro rfl; rw [hl] at hlj; cases hlj)]
    exact hl
  · have hf : (v == 0) = false := by simp [hv0]
    rw [hf] at g2
    refine do_e0 hp hL3 hA m3 hi g1 g2 ?_
    rintro w4 hL4 ⟨T4, d4, e4⟩
    have m4 : Mem A slot (upd sum i (sum i + v)) starts w4 := by rw [e4]; exact (m3.setSum hA hi _).re T4 d4
    have sd4 : Side A wl w4 := by rw [e4]; exact (sd3.set _ (.inr (.inl rfl))).re T4 d4
    have hch4 : ∀ r, Ch wl r → Ch w4 r := by rw [e4]; exact fun r h => ((hch3 r h).set _ _).re T4 d4
    have hh4 : Has A slot w4 es clock := hh3.other (by rw [e4]; exact (heap_setCell_obj hh3.heap rfl).trans hh3.heap.symm)
    have K4 := K.turned (s := sum i + v) hi hs hj hlj m4 ⟨_, _, hh4⟩ hch4 hL4 (upd_same _ _ _) (fun l hl => upd_ne _ _ hl)
    refine h1 hv0 _ _ K4 sd4 (fun l hl => ?_)
    rw [upd_ne _ _ (by rintro rfl; rw [hl] at hlj; cases hlj)]
    exact hl
end
end Go.Town.Kp
namespace Go.Town
open Go Go.Conc Go.Conc.Lib Go.ConcR Go.ConcR.Gen
open Go.ConcN (sumTo upd sumTo_upd upd_ne upd_same sumTo_congr)
section
variable {P : Program} {C : Cfg} {b o : Nat} {Post : Value → World → Prop} {Rs Rs' : (Nat → Prop) → (Nat → Role) → Nat → Prop} {ok : FuncId → Bool} {k : Nat} {wl : World} {g g₂ : Goroutine}
structure Eqd {α : Type} (a b : α) : Prop where
  out : a = b
theorem Can.code' (hp : OkProg P ok) (hS : Steady Rs) (hL : Lay C wl) {b₀ : Frame} {a : Act} {c : Code} {K : List Item} {cs : List Frame} (hf : OkFr P ok (b₀.at a [.code c])) (h : ∀ T d W, Eqd W (wl.re T d) → ∀ B, Eqd B (Behind P C b o Post k Rs b₀ K cs) → c.wp P B a W) :
    Can P C b o Post k Rs wl (G (b₀.at a (.code c :: K)) cs) := Can.code hp hS hL hf fun T d => h T d _ ⟨rfl⟩ _ ⟨rfl⟩
def AloneB (B : Nat) (rel : Nat → Prop) (ρ : Nat → Role) (n : Nat) : Prop := Alone rel ρ n ∧ n ≤ B
theorem steady_aloneB (B : Nat) : Steady (AloneB B) := fun rel ρ rel' ρ' n h ha h0 hh => ⟨steady_alone rel ρ rel' ρ' n h.1 ha h0 hh, h.2⟩
theorem AloneB.mono {B B' : Nat} (h : B ≤ B') : ∀ rel ρ n, AloneB B rel ρ n → AloneB B' rel ρ n := fun _ _ _ hh => ⟨hh.1, Nat.le_trans hh.2 h⟩
theorem Can.waitsB {L : WgLink} {B : Nat} (H : WgLib P L) (hL : Lay C wl) (hon : C.on) (hall : ∀ rel ρ n, Rs rel ρ n → ∀ j, j ≠ 0 → (ρ j).leaving = true ∨ ρ j = .none) (hn : ∀ rel ρ n, Rs rel ρ n → n ≤ B)
    {b₀ : Frame} {a₀ : Act} {ops₀ : Array Oper} {i₀ : Nat} {rest₀ : List Nat} {k₀ : List Item} {cs : List Frame}
    (h : Can P C b o Post 0 (AloneB B) wl (G (b₀.at (a₀.put ((ops₀[i₀]?).bind (·.dst)) (.tuple #[])) (.inRegion ops₀ rest₀ :: k₀)) cs)) :
    Can P C b o Post 0 Rs wl (G ((base L.wait).at ⟨#[.pointer (some ⟨b, o, none⟩)] ++ Array.replicate 83 undef, []⟩ [.code ((waitFn L).body.getD .skip)]) (b₀.at a₀ (.inRegion ops₀ (i₀ :: rest₀) :: k₀) :: cs)) := by
  intro rel ρ q gs w sl t T hr hR hi hw n₀ U hsh hbl
  refine waitJoin H hon T hr (hall _ _ _ hR) hi ?_
  intro ρ' q' gs' w' sl' t' T' hr' hs' hi' hh ho
  exact h _ _ _ _ _ _ _ T' hr' ⟨⟨rfl, hh⟩, hs' ▸ hn _ _ _ hR⟩ hi' (hw.outside hL.cut ho) n₀ U hsh (below_out hsh hL.cut hbl ho)
theorem Can.foundsB {B b' o' : Nat} {Rn : Nat → (Nat → Prop) → (Nat → Role) → Nat → Prop} {wl' : World} (hL : Lay C wl) (hwg : WgIs b' o' wl 0 0) (hwl : ∀ w, Weak wl w → Weak wl' w) (hbs : ∀ n U, n ≤ b' → Shut n U wl → Shut n U wl')
    (hRs : ∀ N rel ρ, 0 < N → N ≤ B → Alone rel ρ N → (∀ j, (ρ j).isSelf = true → j = 0) → Rn N rel ρ N) (h : ∀ N, 0 < N → N ≤ B → Can P (C.anew N (wgAt b' o') True ⟨b', o', none⟩) b' o' Post 0 (Rn N) wl' g) : Can P C b o Post 0 (AloneB B) wl g := by
  intro rel ρ q gs w sl t T hr hR hi hw n₀ U hsh hbl
  obtain ⟨⟨rfl, hh⟩, hB⟩ := hR
  have nh : ∀ j v, wl.cell? ⟨b', j, none⟩ = some v → ¬ C.Sh (.cell ⟨b', j, none⟩) ∧ ¬ C.Gr (.cell ⟨b', j, none⟩) := fun j v hv =>
    ⟨fun q => absurd (hv.symm.trans (hL.cut.hid b' j (.inl q)).2) (by simp), fun q => absurd (hv.symm.trans (hL.cut.hid b' j (.inr (.inl q))).2) (by simp)⟩
  have T₂ := T.anew hr hh True b' o' NoG NoG (fun _ => ⟨⟨hw.cell hwg.st, hw.cell hwg.sm, hw.frozen hwg.st hwg.thaw.1, hw.frozen hwg.sm hwg.thaw.2⟩, fun j hj => by
    rcases hj with rfl | rfl
    · exact nh _ _ hwg.st
    · exact nh _ _ hwg.sm⟩)
  exact h gs.size T.some1 hB _ _ _ _ _ _ _ T₂ hr (hRs _ _ _ T.some1 hB ⟨rfl, hh⟩ (fun j q => self_is T q)) hi (hwl _ hw) n₀ U (hbs _ _ (hsh.thaw_ge hwg.st hwg.thaw.1) hsh) hbl
end
end Go.Town
namespace Go.Town
open Go Go.RowKit Go.Conc Go.Town.Kp
def shutO : Obj → Obj
  | .cells c e _ => .cells c e (0, c.size)
  | .map _ _ => .coro none
  | .pending _ _ => .coro none
  | .view a t => .view { a with spot := some 0 } t
  | .chan cap buf _ s r tm => .chan cap buf true s r tm
  | o => o
def shutW (w : World) : World := { w with heap := w.heap.map shutO }
theorem shutW_heap (w : World) (b : Nat) : (shutW w).heap[b]? = (w.heap[b]?).map shutO := by simp [shutW]
theorem shutW_size (w : World) : (shutW w).heap.size = w.heap.size := by simp [shutW]
theorem weak_shut (w : World) : Weak (shutW w) w := by
  refine ⟨shutW_size w, fun b o o' h1 h2 => ?_, rfl, rfl, fun b o h1 => ?_⟩
  · rw [shutW_heap, h2] at h1
    cases h1
    cases o' with
    | cells c e f => exact .cut (Nat.le_refl _) (fun _ _ => rfl) (fun k hk _ => by simp [frz, hk])
    | map es clock => exact .blind (.map _ _)
    | pending c e => exact .blind (.late _ _)
    | view a t => exact .blind (.view _ _ _)
    | chan cap buf cl s r tm => exact .blind (.chan _ _ _ _ _ _)
    | _ => exact .same _
  · rw [shutW_heap] at h1
    obtain ⟨p, _, rfl⟩ := Option.map_eq_some_iff.1 h1
    cases p <;> rfl
theorem shut_shut (w : World) : Shut w.heap.size w (shutW w) := by
  refine ⟨by rw [shutW_size]; exact Nat.le_refl _, fun b o _ h1 => ?_⟩
  rw [shutW_heap] at h1
  obtain ⟨p, hp, rfl⟩ := Option.map_eq_some_iff.1 h1
  refine ⟨p, hp, ?_⟩
  cases p with
  | cells c e f => exact .cells (fun k hk => by simp [frz, hk])
  | _ => exact .other rfl rfl rfl rfl
theorem shutW_cell (w : World) (a : Addr) : (shutW w).cell? a = w.cell? a := by
  unfold World.cell?
  rw [shutW_heap]
  cases w.heap[a.block]? with
  | none => rfl
  | some p => cases p <;> rfl
section
variable {P : Program} {b o : Nat} {Post : Value → World → Prop}
theorem Can.firstB {B : Nat} (hB : 1 ≤ B) {a : Goroutine} {w : World} (h : Can P (Cfg.empty ⟨b, o, none⟩) b o Post 0 (AloneB B) (shutW w) a) : Ends P (fun v w' => Post v w' ∧ Below w.heap.size w w') (solo a w) #[] := by
  rw [solo_eq_crowd]
  exact h _ _ _ _ _ none _ (Town.start P b o NoG NoG a w) rfl ⟨⟨rfl, hush₀⟩, hB⟩ rfl (weak_shut w) _ w (shut_shut w) (Below.refl _ _)
theorem lay_empty (a : Addr) (w : World) : Lay (Cfg.empty a) w := ⟨⟨fun b k hk => by rcases hk with h | h | ⟨g, h⟩ <;> exact h.elim, fun b k hk => by obtain ⟨g, h⟩ := hk; first | exact h.elim | (rcases h with h | h <;> exact h.2.elim)⟩, fun g r => ⟨fun h => h, fun h => h⟩⟩
end
end Go.Town
namespace Go.Town.Kp
open Go Go.Conc Go.Conc.Lib Go.ConcR.Gen Go.RowKit Go.Town Go.Proofs
open Go.ConcN (upd upd_ne upd_same)
inductive Rule where
  | one | rest | all
def Rule.text : Rule → ByteArray
  | .one => ⟨#[111, 110, 101]⟩
  | .rest => ⟨#[114, 101, 115, 116]⟩
  | .all => ⟨#[97, 108, 108]⟩
def hits (r : Rule) (f i : Nat) : Bool := match r with | .one => i == f | .rest => decide (f ≤ i) | .all => true
noncomputable def bodyC : Code → Code
  | .block _ c => c
  | .loop c => c
  | c => c
noncomputable def body55 : Code := Try.f55.body.getD .skip
noncomputable def loop55 : Code := bodyC (bodyC (tailC 1 body55))
noncomputable def inner55 : Code := bodyC (headC 2 loop55)
noncomputable def hit55 : Code := match tailC 2 inner55 with | .cond _ c _ => c | c => c
theorem body55_eq : body55 = .seq (headC 0 body55) (.block 0 (.loop loop55)) := by kernel_rfl
theorem loop55_eq : loop55 = .seq (headC 0 loop55) (.seq (.cond (.tmp 13) .skip (.exit 0)) (.seq (.block 1 inner55) (tailC 3 loop55))) := by kernel_rfl
theorem inner55_eq : inner55 = .seq (headC 0 inner55) (.seq (headC 1 inner55) (.cond (.tmp 30) hit55 .skip)) := by kernel_rfl
theorem hit55_eq : hit55 = .seq (headC 0 hit55) (.seq (headC 1 hit55) (tailC 2 hit55)) := by kernel_rfl
end Go.Town.Kp
namespace Go.Town.Kp
open Go Go.Conc Go.Conc.Lib Go.ConcR.Gen Go.RowKit Go.Town Go.Proofs
open Go.ConcN (upd upd_ne upd_same)
section
variable {A : At} {C : Cfg} {L : Nat → Ws} {Post : Value → World → Prop} {N k : Nat} {wl : World} {i : Nat} {cs : List Frame} {slot : Nat → Option Nat} {sum starts : Nat → Int} {b₀ : Frame} {a₀ : Act} {ops₀ : Array Oper} {i₀ : Nat} {rest₀ : List Nat} {k₀ : List Item}
theorem Kept.begunAt (K : Kept A C L slot sum starts wl) (hi : i < A.n) (s : Int) (hL : Lay C (wl.setCell ⟨A.st, i, none⟩ (.int .i64 s))) : Kept A C L slot sum (upd starts i s) (wl.setCell ⟨A.st, i, none⟩ (.int .i64 s)) :=
  ⟨K.ok, K.mem.setBegun K.ok hi s, let ⟨es, clock, h⟩ := K.has; ⟨es, clock, h.other ((heap_setCell_obj h.heap rfl).trans h.heap.symm)⟩, ⟨K.chans.inj, Ch.set K.chans.rp _ _, fun l x hl hx => ⟨(K.chans.xs l x hl hx).1, Ch.set (K.chans.xs l x hl hx).2 _ _⟩⟩, hL, K.posts, K.apart, K.own, K.all⟩
set_option maxRecDepth 100000 in
set_option maxHeartbeats 400000 in
theorem restart_hit {K : List Item} {r : Rule} {f : Nat} {z3 z4 z5 z7 z8 z9 za zb zc zd ze zf zg zh zi zj zk zl zm zn zo zp zq zr zs zt zu zv zw zx zy zz zA zB zC zD zE zF zG zH zI : Value} (hp : OkProg Try.prog okT) (hN : 0 < N) (hNb : N < 2147483640) (hg : L N = .gone) (Kp : Kept A C L slot sum starts wl) (hi : i < A.n) (hb0 : 0 ≤ starts i) (hb1 : starts i ≤ 1000)
    (h : ∀ y31 y32 y33 y34 y35 y36 y37 y38 y39 y40 y41 y42 y43 y44 y45 C' L' u wl', Kept A C' L' (upd slot i (some u)) (upd sum i 0) (upd starts i (starts i + 1)) wl' → Side A wl wl' → (∀ j, j ≠ N → L j = .gone → L' j = .gone) →
      Can Try.prog C' A.c 5 Post 0 (Crew A.c A.rp (N + 1) L') wl' (G ((base 55).at ⟨#[.pointer (some ⟨A.c, 0, none⟩), .string r.text, .int .i64 (f : Nat), z3, z4, z5, .int .i64 (i : Nat), z7, z8, z9, za, .int .i64 (A.n : Nat), .int .i64 (i : Nat), zb, zc, zd, ze, zf, zg, zh, zi, zj, zk, zl, zm, zn, zo, zp, zq, zr, zs, y31, y32, y33, y34, y35, y36, y37, y38, y39, y40, y41, y42, y43, y44, y45, zI], []⟩ K) cs)) :
    Can Try.prog C A.c 5 Post 0 (Crew A.c A.rp N L) wl (G ((base 55).at ⟨#[.pointer (some ⟨A.c, 0, none⟩), .string r.text, .int .i64 (f : Nat), z3, z4, z5, .int .i64 (i : Nat), z7, z8, z9, za, .int .i64 (A.n : Nat), .int .i64 (i : Nat), zb, zc, zd, ze, zf, zg, zh, zi, zj, zk, zl, zm, zn, zo, zp, zq, zr, zs, zt, zu, zv, zw, zx, zy, zz, zA, zB, zC, zD, zE, zF, zG, zH, zI], []⟩ (.code hit55 :: K)) cs) := by
  have hS := (crew_free A.c A.rp N L).steady
  have hL := Kp.lay
  have hA := Kp.ok
  rw [hit55_eq]
  refine Can.ctl hS hL rfl (fun _ => stepG_seq) ?_
  generalize hK : Item.code (.seq (headC 1 hit55) (tailC 2 hit55)) :: K = K₁
  simp only [headC, hit55, tailC, inner55, bodyC, loop55, body55, Try.f55, Option.getD_some]
  refine Can.ctl hS hL rfl (fun _ => stepG_region) ?_; simp only [List.size_toArray, List.length_cons, List.length_nil, Nat.reduceAdd, Nat.zero_add, List.range, List.range.loop]
  refine Can.op (ok := okT) hS hL rfl rfl (by k_ne) (by kernel_rfl) (fun T d => ⟨.pointer (some ⟨A.c, 0, none⟩), wl.re T d, ?_, fun _ => Can.re ?_ T d⟩)
  · go_simp
  walk_nrm
  refine Can.op (ok := okT) hS hL rfl rfl (by k_ne) (by kernel_rfl) (fun T d => ⟨.int .i64 (i : Nat), wl.re T d, ?_, fun _ => Can.re ?_ T d⟩)
  · go_simp
  walk_nrm
  refine Can.ctl hS hL rfl (fun _ => st_stop (p := .pointer (some ⟨A.c, 0, none⟩)) (q := .int .i64 (i : Nat)) Try.func50 rfl rfl (by k_ne) rfl (by kernel_rfl)) ?_
  refine stop hp Kp hi ?_
  intro L₂ w₂ K₂ sd₂ hg₂
  walk_nrm
  have hS₂ := (crew_free A.c A.rp N L₂).steady
  have hL₂ := K₂.lay
  refine Can.ctl hS₂ hL₂ rfl (fun _ => stepG_region_end) ?_
  subst hK
  refine Can.ctl hS₂ hL₂ rfl (fun _ => stepG_seq) ?_
  generalize hK : Item.code (tailC 2 hit55) :: K = K₁
  simp only [headC, hit55, tailC, inner55, bodyC, loop55, body55, Try.f55, Option.getD_some]
  refine Can.ctl hS₂ hL₂ rfl (fun _ => stepG_region) ?_; simp only [List.size_toArray, List.length_cons, List.length_nil, Nat.reduceAdd, Nat.zero_add, List.range, List.range.loop]
  refine Can.op (ok := okT) hS₂ hL₂ rfl rfl (by k_ne) (by kernel_rfl) (fun T d => ⟨.pointer (some ⟨A.c, 0, none⟩), w₂.re T d, ?_, fun _ => Can.re ?_ T d⟩)
  · go_simp
  walk_nrm
  refine Can.op (ok := okT) hS₂ hL₂ rfl rfl (by k_ne) (by kernel_rfl) (fun T d => ⟨.int .i64 (i : Nat), w₂.re T d, ?_, fun _ => Can.re ?_ T d⟩)
  · go_simp
  walk_nrm
  refine Can.ctl hS₂ hL₂ rfl (fun _ => st_start (p := .pointer (some ⟨A.c, 0, none⟩)) (q := .int .i64 (i : Nat)) Try.func53 rfl rfl (by k_ne) rfl (by kernel_rfl)) ?_
  refine start hp hN hNb (hg₂ _ hg) K₂ hi (upd_same _ _ _) ?_
  intro C₃ u w₃ K₃ sd₃
  walk_nrm
  have hS₃ := (crew_free A.c A.rp (N + 1) (upd L₂ N (.live u))).steady
  have hL₃ := K₃.lay
  rw [upd_upd] at K₃
  refine Can.ctl hS₃ hL₃ rfl (fun _ => stepG_region_end) ?_
  subst hK
  refine Can.code' hp hS₃ hL₃ (okFr_at (by kernel_rfl) rfl rfl ⟨_, Try.func55⟩) ?_
  intro T d W hW B hB
  simp only [headC, tailC, bodyC, hit55, inner55, loop55, body55, Try.f55, Option.getD_some]
  have hle := hA.le
  have m := K₃.mem.re T d
  rw [← hW.out] at m
  have h4 := m.c4
  have h5 := (m.begun i hi).1
  have h6 := (m.begun i hi).2
  clear m
  go_wp2
  have hB := hB.out
  subst hB
  intro hc
  have hW := hW.out
  subst hW
  refine h _ _ _ _ _ _ _ _ _ _ _ _ _ _ _ C₃ _ u.x _ ((K₃.re T d).begunAt hi (starts i + 1) ⟨hc, hL₃.no⟩) ((sd₂.trans sd₃).re T d |>.set _ (.inr (.inr rfl))) ?_
  intro j hj hgj
  rw [upd_ne _ _ hj]
  exact hg₂ j hgj
end
end Go.Town.Kp
