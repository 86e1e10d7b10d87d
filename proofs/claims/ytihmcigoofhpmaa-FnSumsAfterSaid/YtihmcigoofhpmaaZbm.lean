/-
  The reference's drawn keeper: l9Keeper.
  The reference's drawn tasks: l9Tasks.
-/
import Derived.Test.YtihmcigoofhpmaaZbl
set_option linter.all false
namespace Go.Town.Kp
open Go Go.Conc Go.Conc.Lib Go.ConcR.Gen Go.RowKit Go.Town Go.Proofs
theorem Rd.alloc {w : World} {g0 g p : Nat} (h : Rd w g0 g p) (o : Obj) : Rd (w.alloc o) g0 g p := h.kept (World.grownBy_alloc w o none) (fun r e => by cases e) h.lt
theorem Reads.grown {w w' : World} {x g : Nat} {vs : List Value} (h : Reads w x vs) (k : w.grownBy w' (some g)) (hx : x < w.heap.size) (hne : x ≠ g) : Reads w' x vs := fun j hj => by
  have hb := k.block x hx (by intro e; injection e with e; exact hne e)
  rw [World.cell?_of_block hb, World.frozen?_of_block hb]; exact h j hj
theorem Reads.alloc {w : World} {x : Nat} {vs : List Value} (h : Reads w x vs) (hx : x < w.heap.size) (o : Obj) : Reads (w.alloc o) x vs := h.kin (((Grown.refl w).alloc o).kin (Nat.le_refl _)) hx
def RdOn (w : World) (g0 g p : Nat) (w' : World) : Prop := Rd w' g0 g (p + 1) ∧ w.grownBy w' (some g)
theorem num_new {g0 g p gl n : Nat} (zs : List Int) (t : TypeId) {w : World} (hR : Rd w g0 g p) (hp : p ≤ 1000000000) (hgl : gl = w.heap.size) (hn : zs.length = n) (hz : 0 < n) (hz2 : n ≤ 1000) :
    Calls Try.prog 41 #[.pointer (some ⟨g, 0, none⟩), .slice (some ⟨gl, 0, none⟩) n n] (w.alloc (.cells (zs.map (Value.int .i64)).toArray t)) fun e w' => ∃ x : Int, e = .returned (.int .i64 x) ∧ x ∈ zs ∧ RowKit.Hid (RdOn w g0 g p w') := by
  subst hgl hn
  have hlt := hR.lt
  refine (num_any g0 g p w.heap.size _ zs _ (hR.alloc _) hp (by omega) (by simp) (fun e => by simp [e] at hz) hz2 (fun i hi => ?_)).mono fun e w' ⟨x, h1, h2, h3, h4⟩ => ⟨x, h1, h2, h3, (World.grownBy_alloc w _ _).trans h4⟩
  rw [blk_cell (alloc_self w _)]; simp [hi]
theorem of_new {g0 g p gl n : Nat} (ws : List (List UInt8)) (t : TypeId) {w : World} (hR : Rd w g0 g p) (hp : p ≤ 1000000000) (hgl : gl = w.heap.size) (hn : ws.length = n) (hz : 0 < n) (hz2 : n ≤ 1000) :
    Calls Try.prog 47 #[.pointer (some ⟨g, 0, none⟩), .slice (some ⟨gl, 0, none⟩) n n] (w.alloc (.cells (ws.map fun s => Value.string ⟨s.toArray⟩).toArray t)) fun e w' => ∃ x : List UInt8, e = .returned (.string ⟨x.toArray⟩) ∧ RowKit.Hid (RdOn w g0 g p w') := by
  subst hgl hn
  have hlt := hR.lt
  refine (of_any g0 g p w.heap.size _ ws _ (hR.alloc _) hp (by omega) (fun e => by simp [e] at hz) hz2 ⟨by simp, fun i hi => ?_⟩).mono fun e w' ⟨x, h1, _, h3, h4⟩ => ⟨x, h1, h3, (World.grownBy_alloc w _ _).trans h4⟩
  rw [blk_cell (alloc_self w _)]; simp [hi]
theorem pick_new {g0 g p : Nat} {n : Int} {w : World} (hR : Rd w g0 g p) (hp : p ≤ 1000000000) (hn : n ≤ 1000000000) :
    Calls Try.prog 42 #[.pointer (some ⟨g, 0, none⟩), .int .i64 n] w fun e w' => ∃ x : Nat, e = .returned (.int .i64 x) ∧ (((x : Nat) : Int) < n ∨ x = 0) ∧ RowKit.Hid (RdOn w g0 g p w') :=
  (pick_any g0 g p n w hR hp hn).mono fun e w' ⟨x, h1, h2, h3, h4, h5⟩ => by
    obtain ⟨m, rfl⟩ := Int.eq_ofNat_of_zero_le h2
    exact ⟨m, h1, h3.imp id (fun h => by omega), h4, h5⟩
theorem set3_fin {w w4 : World} {g0 g p x : Nat} {vs : List Value} (hq : Reads w4 x vs) (hv : vs.length = 3) (hx : w.heap.size ≤ x) (hg : w.grownBy w4 (some g)) (hR : Rd w4 g0 g p) (hlt : g < w.heap.size) (a b c : Value) :
    (((w4.setCell ⟨x, 0, none⟩ a).setCell ⟨x, 1, none⟩ b).setCell ⟨x, 2, none⟩ c).cell? ⟨x, 0, none⟩ = some a ∧ (((w4.setCell ⟨x, 0, none⟩ a).setCell ⟨x, 1, none⟩ b).setCell ⟨x, 2, none⟩ c).cell? ⟨x, 1, none⟩ = some b ∧ (((w4.setCell ⟨x, 0, none⟩ a).setCell ⟨x, 1, none⟩ b).setCell ⟨x, 2, none⟩ c).cell? ⟨x, 2, none⟩ = some c ∧ RowKit.Hid (Rd (((w4.setCell ⟨x, 0, none⟩ a).setCell ⟨x, 1, none⟩ b).setCell ⟨x, 2, none⟩ c) g0 g p ∧ w.grownBy (((w4.setCell ⟨x, 0, none⟩ a).setCell ⟨x, 1, none⟩ b).setCell ⟨x, 2, none⟩ c) (some g)) := by
  have ne : ∀ (w : World) (i j : Nat) (v : Value), i ≠ j → (w.setCell ⟨x, i, none⟩ v).cell? ⟨x, j, none⟩ = w.cell? ⟨x, j, none⟩ := fun w i j v h => cell_setCell_ne w v (.inr h)
  obtain ⟨v0, h0⟩ := hq.ex (j := 0) (by omega)
  obtain ⟨v1, h1⟩ := hq.ex (j := 1) (by omega)
  obtain ⟨v2, h2⟩ := hq.ex (j := 2) (by omega)
  refine ⟨?_, ?_, ?_, ?_, ?_⟩
  · rw [ne _ 2 0 _ (by omega), ne _ 1 0 _ (by omega)]; exact cell_setCell_eq _ h0
  · rw [ne _ 2 1 _ (by omega)]; exact cell_setCell_eq _ ((ne _ 0 1 _ (by omega)).trans h1)
  · exact cell_setCell_eq _ (((ne _ 1 2 _ (by omega)).trans (ne _ 0 2 _ (by omega))).trans h2)
  · have hs := hg.size
    have hle := hR.le
    have st : ∀ (W : World) (j : Nat) (v : Value), Rd W g0 g p → Rd (W.setCell ⟨x, j, none⟩ v) g0 g p := fun W j v h => h.kept (grownBy_setCell_off W x j v) (fun r e => by injection e with e; subst e; exact ⟨by omega, by omega⟩) h.lt
    exact st _ _ _ (st _ _ _ (st _ _ _ hR))
  · exact grownBy_set_new (grownBy_set_new (grownBy_set_new hg hx _) hx _) hx _
set_option maxRecDepth 100000 in
set_option maxHeartbeats 2000000 in
theorem l9Keeper_any {g0 g p : Nat} {w : World} (hR : Rd w g0 g p) (hp : p ≤ 1000000) :
    Calls Try.prog 33 #[.pointer (some ⟨g, 0, none⟩)] w fun e w' => ∃ (q : List UInt8) (f t : Int) (p' : Nat), e = .returned (.agg #[.string ⟨q.toArray⟩, .int .i64 f, .int .i64 t]) ∧ p' ≤ p + 6 ∧ Rd w' g0 g p' ∧ w.grownBy w' (some g) := by
  have hlt := hR.lt
  have R0 : RowKit.Hid (∀ o, Rd (w.alloc o) g0 g p) := fun o => hR.alloc o
  have hsz : RowKit.Hid (∀ o, w.heap.size + 1 = (w.alloc o).heap.size) := fun o => (World.size_alloc ..).symm
  go_enter Try.func33, Try.ntmps33
  go_wp2_with fail
  refine (of_new (n := 3) [[111, 110, 101], [114, 101, 115, 116], [97, 108, 108]] _ (R0.out _) (by omega) (hsz.out _) rfl (by omega) (by omega)).mono ?_
  rintro e w1 ⟨q, rfl, h1⟩
  go_wp2_with fail
  refine (num_new (n := 5) [3, 1, 0, 2, 20] _ h1.out.1 (by omega) rfl rfl (by omega) (by omega)).mono ?_
  rintro e w2 ⟨f, rfl, _, h2⟩
  go_wp2_with fail
  refine (num_new (n := 5) [2, 3, 1, 5, 20] _ h2.out.1 (by omega) rfl rfl (by omega) (by omega)).mono ?_
  rintro e w3 ⟨t, rfl, _, h3⟩
  have z1 : w.heap.size + 1 ≤ w1.heap.size := by have := h1.out.2.size; rw [World.size_alloc] at this; exact this
  have z3 : w1.heap.size ≤ w3.heap.size := Nat.le_trans h2.out.2.size h3.out.2.size
  have hb0 : Reads w3 w.heap.size [.string ⟨#[]⟩, .int .i64 0, .int .i64 0] := (((reads_block (t := 24) (alloc_self w _)).grown h1.out.2 (by simp) (by omega)).grown h2.out.2 (by omega) (by omega)).grown h3.out.2 (by have := h2.out.2.size; omega) (by omega)
  have hg3 : w.grownBy w3 (some g) := (((World.grownBy_alloc w _ _).trans h1.out.2).trans h2.out.2).trans h3.out.2
  have hR3 : RowKit.Hid (∀ o, Rd (w3.alloc o) g0 g (p + 1 + 1 + 1)) := fun o => h3.out.1.alloc o
  clear h1 h2 h3 R0 hsz hR
  go_wp2_with fail
  refine (pick_new (hR3.out _) (by omega) (by omega)).mono ?_
  rintro e w4 ⟨x, rfl, _, h4⟩
  have hbx : Reads w4 w3.heap.size [.string ⟨q.toArray⟩, .int .i64 f, .int .i64 t] := (reads_block (t := 24) (alloc_self w3 _)).grown h4.out.2 (by simp) (by omega)
  have hb4 : Reads w4 w.heap.size [.string ⟨#[]⟩, .int .i64 0, .int .i64 0] := (hb0.alloc (by omega) _).grown h4.out.2 (by simp; omega) (by omega)
  have hg4 : w.grownBy w4 (some g) := (hg3.trans (World.grownBy_alloc w3 _ _)).trans h4.out.2
  have hR4 : Rd w4 g0 g (p + 1 + 1 + 1 + 1) := h4.out.1
  have z4 : w3.heap.size < w4.heap.size := by have := h4.out.2.size; rw [World.size_alloc] at this; omega
  have y0 := (hbx 0 (by simp)).1
  have y1 := (hbx 1 (by simp)).1
  have y2 := (hbx 2 (by simp)).1
  clear hb0 hg3 hR3 h4
  by_cases x0 : x = 0
  · subst x0
    go_wp2_with fail
    refine (of_new (n := 3) [[], [110, 111, 110, 101], [79, 78, 69]] _ hR4 (by omega) rfl rfl (by omega) (by omega)).mono ?_
    rintro e w5 ⟨q2, rfl, h5⟩
    have hbx5 := hbx.grown h5.out.2 (by omega) (by omega)
    have hb5 := hb4.grown h5.out.2 (by omega) (by omega)
    have hg5 := hg4.trans h5.out.2
    have y0 := (hbx5 0 (by simp)).1
    have y1 := (hbx5 1 (by simp)).1
    have y2 := (hbx5 2 (by simp)).1
    have yf := (hbx5 0 (by simp)).2
    have hR5 : Rd w5 g0 g _ := h5.out.1
    obtain ⟨hb6, hg6, hR6⟩ : Reads (w5.setCell ⟨w3.heap.size, 0, none⟩ (.string ⟨q2.toArray⟩)) w.heap.size [.string ⟨#[]⟩, .int .i64 0, .int .i64 0] ∧ w.grownBy (w5.setCell ⟨w3.heap.size, 0, none⟩ (.string ⟨q2.toArray⟩)) (some g) ∧ Rd (w5.setCell ⟨w3.heap.size, 0, none⟩ (.string ⟨q2.toArray⟩)) g0 g (p + 1 + 1 + 1 + 1 + 1) := by
      refine ⟨fun j hj => ?_, grownBy_set_new hg5 (by omega) _, hR5.kept (grownBy_setCell_off w5 w3.heap.size 0 _) (fun r e => ?_) hR5.lt⟩
      · rw [cell_setCell_ne _ _ (.inl (by omega)), frozen_setCell]; exact hb5 j hj
      · injection e with e; subst e; have := hR5.le; exact ⟨by omega, by omega⟩
    obtain ⟨t0, t1, t2⟩ : (w5.setCell ⟨w3.heap.size, 0, none⟩ (.string ⟨q2.toArray⟩)).cell? ⟨w.heap.size, 0, none⟩ = some (.string ⟨#[]⟩) ∧ (w5.setCell ⟨w3.heap.size, 0, none⟩ (.string ⟨q2.toArray⟩)).cell? ⟨w.heap.size, 1, none⟩ = some (.int .i64 0) ∧ (w5.setCell ⟨w3.heap.size, 0, none⟩ (.string ⟨q2.toArray⟩)).cell? ⟨w.heap.size, 2, none⟩ = some (.int .i64 0) := ⟨(hb6 0 (by simp)).1, (hb6 1 (by simp)).1, (hb6 2 (by simp)).1⟩
    have f0 := (hb5 0 (by simp)).2
    have f1 := (hb5 1 (by simp)).2
    have f2 := (hb5 2 (by simp)).2
    clear h5 hbx hb4 hg4 hR4
    go_wp2
    obtain ⟨s0, s1, s2, hfin⟩ := set3_fin (w := w) hb6 rfl (Nat.le_refl _) hg6 hR6 hlt (.string ⟨q2.toArray⟩) (.int .i64 f) (.int .i64 t)
    generalize ((((w5.setCell ⟨w3.heap.size, 0, none⟩ (.string ⟨q2.toArray⟩)).setCell ⟨w.heap.size, 0, none⟩ (.string ⟨q2.toArray⟩)).setCell ⟨w.heap.size, 1, none⟩ (.int .i64 f)).setCell ⟨w.heap.size, 2, none⟩ (.int .i64 t)) = Wf at *
    refine bodyPost_ret (v := .agg #[.string ⟨q2.toArray⟩, .int .i64 f, .int .i64 t]) (by simp [results, Try.results33, go_sem, s0, s1, s2]) rfl ?_
    refine ⟨_, _, _, _, rfl, ?_, hfin.out.1, hfin.out.2⟩
    omega
  have x0' : ((x : Int) == 0) = false := beq_eq_false_iff_ne.2 (by omega)
  by_cases x1 : x = 1
  · subst x1
    go_wp2_with fail
    refine (num_new (n := 2) [-1, 21] _ hR4 (by omega) rfl rfl (by omega) (by omega)).mono ?_
    rintro e w5 ⟨fz, rfl, _, h5⟩
    have hbx5 := hbx.grown h5.out.2 (by omega) (by omega)
    have hb5 := hb4.grown h5.out.2 (by omega) (by omega)
    have hg5 := hg4.trans h5.out.2
    have y0 := (hbx5 0 (by simp)).1
    have y1 := (hbx5 1 (by simp)).1
    have y2 := (hbx5 2 (by simp)).1
    have yf := (hbx5 1 (by simp)).2
    have hR5 : Rd w5 g0 g _ := h5.out.1
    obtain ⟨hb6, hg6, hR6⟩ : Reads (w5.setCell ⟨w3.heap.size, 1, none⟩ (.int .i64 fz)) w.heap.size [.string ⟨#[]⟩, .int .i64 0, .int .i64 0] ∧ w.grownBy (w5.setCell ⟨w3.heap.size, 1, none⟩ (.int .i64 fz)) (some g) ∧ Rd (w5.setCell ⟨w3.heap.size, 1, none⟩ (.int .i64 fz)) g0 g (p + 1 + 1 + 1 + 1 + 1) := by
      refine ⟨fun j hj => ?_, grownBy_set_new hg5 (by omega) _, hR5.kept (grownBy_setCell_off w5 w3.heap.size 1 _) (fun r e => ?_) hR5.lt⟩
      · rw [cell_setCell_ne _ _ (.inl (by omega)), frozen_setCell]; exact hb5 j hj
      · injection e with e; subst e; have := hR5.le; exact ⟨by omega, by omega⟩
    obtain ⟨t0, t1, t2⟩ : (w5.setCell ⟨w3.heap.size, 1, none⟩ (.int .i64 fz)).cell? ⟨w.heap.size, 0, none⟩ = some (.string ⟨#[]⟩) ∧ (w5.setCell ⟨w3.heap.size, 1, none⟩ (.int .i64 fz)).cell? ⟨w.heap.size, 1, none⟩ = some (.int .i64 0) ∧ (w5.setCell ⟨w3.heap.size, 1, none⟩ (.int .i64 fz)).cell? ⟨w.heap.size, 2, none⟩ = some (.int .i64 0) := ⟨(hb6 0 (by simp)).1, (hb6 1 (by simp)).1, (hb6 2 (by simp)).1⟩
    have f0 := (hb5 0 (by simp)).2
    have f1 := (hb5 1 (by simp)).2
    have f2 := (hb5 2 (by simp)).2
    clear h5 hbx hb4 hg4 hR4
    go_wp2
    obtain ⟨s0, s1, s2, hfin⟩ := set3_fin (w := w) hb6 rfl (Nat.le_refl _) hg6 hR6 hlt (.string ⟨q.toArray⟩) (.int .i64 fz) (.int .i64 t)
    generalize ((((w5.setCell ⟨w3.heap.size, 1, none⟩ (.int .i64 fz)).setCell ⟨w.heap.size, 0, none⟩ (.string ⟨q.toArray⟩)).setCell ⟨w.heap.size, 1, none⟩ (.int .i64 fz)).setCell ⟨w.heap.size, 2, none⟩ (.int .i64 t)) = Wf at *
    refine bodyPost_ret (v := .agg #[.string ⟨q.toArray⟩, .int .i64 fz, .int .i64 t]) (by simp [results, Try.results33, go_sem, s0, s1, s2]) rfl ?_
    refine ⟨_, _, _, _, rfl, ?_, hfin.out.1, hfin.out.2⟩
    omega
  have x1' : ((x : Int) == 1) = false := beq_eq_false_iff_ne.2 (by omega)
  by_cases x2 : x = 2
  · subst x2
    go_wp2_with fail
    refine (num_new (n := 3) [0, 21, -1] _ hR4 (by omega) rfl rfl (by omega) (by omega)).mono ?_
    rintro e w5 ⟨fz, rfl, _, h5⟩
    have hbx5 := hbx.grown h5.out.2 (by omega) (by omega)
    have hb5 := hb4.grown h5.out.2 (by omega) (by omega)
    have hg5 := hg4.trans h5.out.2
    have y0 := (hbx5 0 (by simp)).1
    have y1 := (hbx5 1 (by simp)).1
    have y2 := (hbx5 2 (by simp)).1
    have yf := (hbx5 2 (by simp)).2
    have hR5 : Rd w5 g0 g _ := h5.out.1
    obtain ⟨hb6, hg6, hR6⟩ : Reads (w5.setCell ⟨w3.heap.size, 2, none⟩ (.int .i64 fz)) w.heap.size [.string ⟨#[]⟩, .int .i64 0, .int .i64 0] ∧ w.grownBy (w5.setCell ⟨w3.heap.size, 2, none⟩ (.int .i64 fz)) (some g) ∧ Rd (w5.setCell ⟨w3.heap.size, 2, none⟩ (.int .i64 fz)) g0 g (p + 1 + 1 + 1 + 1 + 1) := by
      refine ⟨fun j hj => ?_, grownBy_set_new hg5 (by omega) _, hR5.kept (grownBy_setCell_off w5 w3.heap.size 2 _) (fun r e => ?_) hR5.lt⟩
      · rw [cell_setCell_ne _ _ (.inl (by omega)), frozen_setCell]; exact hb5 j hj
      · injection e with e; subst e; have := hR5.le; exact ⟨by omega, by omega⟩
    obtain ⟨t0, t1, t2⟩ : (w5.setCell ⟨w3.heap.size, 2, none⟩ (.int .i64 fz)).cell? ⟨w.heap.size, 0, none⟩ = some (.string ⟨#[]⟩) ∧ (w5.setCell ⟨w3.heap.size, 2, none⟩ (.int .i64 fz)).cell? ⟨w.heap.size, 1, none⟩ = some (.int .i64 0) ∧ (w5.setCell ⟨w3.heap.size, 2, none⟩ (.int .i64 fz)).cell? ⟨w.heap.size, 2, none⟩ = some (.int .i64 0) := ⟨(hb6 0 (by simp)).1, (hb6 1 (by simp)).1, (hb6 2 (by simp)).1⟩
    have f0 := (hb5 0 (by simp)).2
    have f1 := (hb5 1 (by simp)).2
    have f2 := (hb5 2 (by simp)).2
    clear h5 hbx hb4 hg4 hR4
    go_wp2
    obtain ⟨s0, s1, s2, hfin⟩ := set3_fin (w := w) hb6 rfl (Nat.le_refl _) hg6 hR6 hlt (.string ⟨q.toArray⟩) (.int .i64 f) (.int .i64 fz)
    generalize ((((w5.setCell ⟨w3.heap.size, 2, none⟩ (.int .i64 fz)).setCell ⟨w.heap.size, 0, none⟩ (.string ⟨q.toArray⟩)).setCell ⟨w.heap.size, 1, none⟩ (.int .i64 f)).setCell ⟨w.heap.size, 2, none⟩ (.int .i64 fz)) = Wf at *
    refine bodyPost_ret (v := .agg #[.string ⟨q.toArray⟩, .int .i64 f, .int .i64 fz]) (by simp [results, Try.results33, go_sem, s0, s1, s2]) rfl ?_
    refine ⟨_, _, _, _, rfl, ?_, hfin.out.1, hfin.out.2⟩
    omega
  have x2' : ((x : Int) == 2) = false := beq_eq_false_iff_ne.2 (by omega)
  obtain ⟨t0, t1, t2⟩ : w4.cell? ⟨w.heap.size, 0, none⟩ = some (.string ⟨#[]⟩) ∧ w4.cell? ⟨w.heap.size, 1, none⟩ = some (.int .i64 0) ∧ w4.cell? ⟨w.heap.size, 2, none⟩ = some (.int .i64 0) := ⟨(hb4 0 (by simp)).1, (hb4 1 (by simp)).1, (hb4 2 (by simp)).1⟩
  have f0 := (hb4 0 (by simp)).2
  have f1 := (hb4 1 (by simp)).2
  have f2 := (hb4 2 (by simp)).2
  go_wp2
  obtain ⟨s0, s1, s2, hfin⟩ := set3_fin (w := w) hb4 rfl (Nat.le_refl _) hg4 hR4 hlt (.string ⟨q.toArray⟩) (.int .i64 f) (.int .i64 t)
  generalize (((w4.setCell ⟨w.heap.size, 0, none⟩ (.string ⟨q.toArray⟩)).setCell ⟨w.heap.size, 1, none⟩ (.int .i64 f)).setCell ⟨w.heap.size, 2, none⟩ (.int .i64 t)) = Wf at *
  refine bodyPost_ret (v := .agg #[.string ⟨q.toArray⟩, .int .i64 f, .int .i64 t]) (by simp [results, Try.results33, go_sem, s0, s1, s2]) rfl ?_
  refine ⟨_, _, _, _, rfl, ?_, hfin.out.1, hfin.out.2⟩
  omega
end Go.Town.Kp
namespace Go.Town.Kp
open Go Go.Conc Go.Conc.Lib Go.ConcR.Gen Go.RowKit Go.Town Go.Proofs
def Row1 (w : World) (base B : Nat) (u : Value) (l : List Int) : Prop :=
  ∃ a c, u = .slice a l.length c ∧ l.length ≤ c ∧ (l = [] ∨ ∃ x off, a = some ⟨x, off, none⟩ ∧ base ≤ x ∧ x < B ∧ ∀ j (hj : j < l.length), w.cell? ⟨x, off + j, none⟩ = some (.int .i64 l[j]))
theorem Row1.kept {w w' : World} {base B B' : Nat} {u : Value} {l : List Int} (h : Row1 w base B u l) (hB : B ≤ B') (hk : ∀ x j, base ≤ x → x < B → w'.cell? ⟨x, j, none⟩ = w.cell? ⟨x, j, none⟩) : Row1 w' base B' u l := by
  obtain ⟨a, c, h1, hc, h2⟩ := h
  refine ⟨a, c, h1, hc, ?_⟩
  rcases h2 with h2 | ⟨x, off, h3, h4, h5, h6⟩
  · exact .inl h2
  · exact .inr ⟨x, off, h3, h4, by omega, fun j hj => (hk _ _ h4 h5).trans (h6 j hj)⟩
def CapsIn (B : Nat) (w : World) (a : Option Addr) (T : List (List Int)) : Prop :=
  T = [] ∨ ∃ b off, a = some ⟨b, off, none⟩ ∧ b < B ∧ ∀ i, i < T.length → ∃ a' c', w.cell? ⟨b, off + i, none⟩ = some (.slice a' (T.getD i []).length c') ∧ (T.getD i []).length ≤ c'
theorem CapsIn.kept {B B' : Nat} {w w' : World} {a : Option Addr} {T : List (List Int)} (h : CapsIn B w a T) (hk : ∀ x j v, x < B → w.cell? ⟨x, j, none⟩ = some v → w'.cell? ⟨x, j, none⟩ = some v) (hz : B ≤ B') : CapsIn B' w' a T := by
  rcases h with rfl | ⟨b, off, rfl, hb, hc⟩
  · exact .inl rfl
  · exact .inr ⟨b, off, rfl, by omega, fun i hi => by
      obtain ⟨a', c', h1, h2⟩ := hc i hi
      exact ⟨a', c', hk _ _ _ hb h1, h2⟩⟩
structure NestV (w : World) (base B : Nat) (v : Value) (J : List (List Int)) (vs : List Value) : Prop where
  own : w.ownsRow base 28 1 v J.length vs
  top : ∀ r, v.ownBlock = some r → r < B
  row : ∀ i (h : i < J.length), ∃ u, vs[i]? = some u ∧ Row1 w base B u J[i] ∧ ∀ r, u.ownBlock = some r → J[i] ≠ [] → v.ownBlock ≠ some r
theorem NestV.kept {w w' : World} {base B : Nat} {v : Value} {J : List (List Int)} {vs : List Value} {row : Option Nat} (h : NestV w base B v J vs) (hB : B ≤ w.heap.size) (hg : w.grownBy w' row) (hr : ∀ r, row = some r → r < base ∨ B ≤ r) : NestV w' base B v J vs := by
  refine ⟨h.own.kept hg ?_, h.top, fun i hi => ?_⟩
  · cases e : v.ownBlock with
    | none => exact .inl rfl
    | some r =>
      refine .inr fun e' => ?_
      have h1 := h.own.lt r e
      have h2 := h.top r e
      rcases hr r e'.symm with h | h <;> omega
  · obtain ⟨u, h1, h2, h3⟩ := h.row i hi
    refine ⟨u, h1, h2.kept (Nat.le_refl _) fun x j hx1 hx2 => World.cell?_of_block (hg.block x (by omega) fun e => ?_), h3⟩
    rcases hr x e.symm with h | h <;> omega
theorem NestV.same {w w' : World} {base B : Nat} {v : Value} {J : List (List Int)} {vs : List Value} (h : NestV w base B v J vs) (hk : ∀ x, base ≤ x → x < B → w'.heap[x]? = w.heap[x]?) : NestV w' base B v J vs := by
  refine ⟨⟨h.own.1, ?_⟩, h.top, fun i hi => ?_⟩
  · rcases h.own.2 with h2 | ⟨g, cap, cur, rfl, hb, hg, rest⟩
    · exact .inl h2
    · exact .inr ⟨g, cap, cur, rfl, hb, (hk g hb (h.top g rfl)).trans hg, rest⟩
  · obtain ⟨u, h1, h2, h3⟩ := h.row i hi
    exact ⟨u, h1, h2.kept (Nat.le_refl _) fun x j hx1 hx2 => World.cell?_of_block (hk x hx1 hx2), h3⟩
theorem Row1.base {w : World} {b b' B : Nat} {u : Value} {l : List Int} (h : Row1 w b B u l) (hb : b' ≤ b) : Row1 w b' B u l := by
  obtain ⟨a, c, h1, hc, h2⟩ := h
  refine ⟨a, c, h1, hc, ?_⟩
  rcases h2 with h2 | ⟨x, off, h3, h4, h5, h6⟩
  · exact .inl h2
  · exact .inr ⟨x, off, h3, by omega, h5, h6⟩
theorem Row1.alloc {w : World} {b : Nat} {u : Value} {l : List Int} (h : Row1 w b w.heap.size u l) (o : Obj) : Row1 (w.alloc o) b (w.alloc o).heap.size u l :=
  h.kept (by rw [World.size_alloc]; omega) fun x j _ hx => World.cell?_of_block ((World.grownBy_alloc w o none).block x hx (by simp))
theorem row1_lit {w : World} {b : Nat} {cs : Array Value} {l : List Int} {c : Nat} {t : TypeId} (hb : b ≤ w.heap.size) (hc : cs = (l.map (Value.int .i64)).toArray) {x : Nat} (hx : x = w.heap.size) {n : Nat} (hn : n = l.length) (hcap : n ≤ c) : Row1 (w.alloc (.cells cs t)) b (w.alloc (.cells cs t)).heap.size (.slice (some ⟨x, 0, none⟩) n c) l := by
  subst hc hx hn
  refine ⟨_, c, rfl, hcap, .inr ⟨w.heap.size, 0, rfl, hb, by rw [World.size_alloc]; omega, fun j hj => ?_⟩⟩
  rw [Nat.zero_add, blk_cell (alloc_self w _)]; simp [hj]
theorem own_slice {w : World} {b size n : Nat} {e : TypeId} {v : Value} {xs : List Value} (h : w.ownsRow b e size v n xs) : ∃ a c, v = .slice a n c := by
  rcases h.2 with ⟨rfl, rfl⟩ | ⟨g, cap, cur, rfl, _⟩
  · exact ⟨_, _, rfl⟩
  · exact ⟨_, _, rfl⟩
theorem NestV.push {w wa w' : World} {base B : Nat} {v v' : Value} {J L : List (List Int)} {vs news : List Value} (h : NestV w base B v J vs) (hB : B ≤ w.heap.size) (hg : w.grownBy wa none)
    (hn : ∀ i (h : i < L.length), ∃ u, news[i]? = some u ∧ Row1 wa B wa.heap.size u L[i]) (hb : base ≤ B)
    (hown : w'.ownsRow base 28 1 v' (J.length + L.length) (vs ++ news)) (hgr : wa.grownBy w' v.ownBlock) (hat : v'.ownBlock = v.ownBlock ∨ v'.ownBlock = some wa.heap.size) : NestV w' base w'.heap.size v' (J ++ L) (vs ++ news) := by
  have hl : vs.length = J.length := by have := h.own.1; omega
  have hs1 := hg.size
  have hs2 := hgr.size
  refine ⟨by rw [List.length_append]; exact hown, fun r e => (hown.lt r e).2, fun i hi => ?_⟩
  have keep : ∀ x j, base ≤ x → x < wa.heap.size → v.ownBlock ≠ some x → w'.cell? ⟨x, j, none⟩ = wa.cell? ⟨x, j, none⟩ := fun x j _ hx hne => World.cell?_of_block (hgr.block x hx fun e => hne e.symm)
  by_cases hij : i < J.length
  · obtain ⟨u, h1, ⟨a, c, rfl, hcap, h2⟩, h3⟩ := h.row i hij
    rw [List.getElem_append_left hij]
    refine ⟨_, by rw [List.getElem?_append_left (by omega)]; exact h1, ⟨a, c, rfl, hcap, ?_⟩, fun r e hne e' => ?_⟩
    · rcases h2 with h2 | ⟨x, off, rfl, h4, h5, h6⟩
      · exact .inl h2
      · by_cases hne : J[i] = []
        · exact .inl hne
        · refine .inr ⟨x, off, rfl, h4, by omega, fun j hj => ?_⟩
          rw [keep x _ h4 (by omega) (h3 x rfl hne)]
          exact (World.cell?_of_block (hg.block x (by omega) (by simp))).trans (h6 j hj)
    · rcases hat with hat | hat
      · exact h3 r e hne (hat ▸ e')
      · rcases h2 with h2 | ⟨x, off, rfl, h4, h5, h6⟩
        · exact hne h2
        · simp only [Value.ownBlock, Option.some.injEq] at e
          subst e
          rw [hat] at e'
          simp only [Option.some.injEq] at e'
          omega
  · have hi2 : i - J.length < L.length := by simp only [List.length_append] at hi; omega
    obtain ⟨u, h1, ⟨a, c, rfl, hcap, h2⟩⟩ := hn (i - J.length) hi2
    have hgl : (J ++ L)[i] = L[i - J.length] := by rw [List.getElem_append_right (by omega)]
    rw [hgl]
    refine ⟨_, by rw [List.getElem?_append_right (by omega), hl]; exact h1, ⟨a, c, rfl, hcap, ?_⟩, fun r e hne e' => ?_⟩
    · rcases h2 with h2 | ⟨x, off, rfl, h4, h5, h6⟩
      · exact .inl h2
      · refine .inr ⟨x, off, rfl, by omega, by omega, fun j hj => (keep x _ (by omega) h5 fun e => ?_).trans (h6 j hj)⟩
        have := h.top x e; omega
    · rcases h2 with h2 | ⟨x, off, rfl, h4, h5, h6⟩
      · exact hne h2
      · simp only [Value.ownBlock, Option.some.injEq] at e
        subst e
        rcases hat with hat | hat
        · have := h.top x (hat ▸ e'); omega
        · rw [hat] at e'; simp only [Option.some.injEq] at e'; omega
theorem NestV.rows {w : World} {base B : Nat} {v : Value} {J : List (List Int)} {vs : List Value} (h : NestV w base B v J vs) (hB : B ≤ w.heap.size) : ∃ a c, v = .slice a J.length c ∧ RowsAt w a J ∧ CapsIn w.heap.size w a J := by
  have hval : ∃ a c, v = .slice a J.length c := by
    rcases h.own.2 with ⟨rfl, h0⟩ | ⟨g, cap, cur, rfl, _⟩
    · exact ⟨_, _, by rw [h0]⟩
    · exact ⟨_, _, rfl⟩
  obtain ⟨a, c, rfl⟩ := hval
  obtain ⟨hl, hv | ⟨g, cap, cur, e, hb, hg, _, _, _, htake⟩⟩ := h.own
  · have : J = [] := List.length_eq_zero_iff.1 hv.2
    exact ⟨a, c, rfl, .inl this, .inl this⟩
  · simp only [Value.slice.injEq] at e
    obtain ⟨rfl, _, rfl⟩ := e
    have cellOf : ∀ i (hi : i < J.length), ∃ a' c', w.cell? ⟨g, 0 + i, none⟩ = some (.slice a' J[i].length c') ∧ J[i].length ≤ c' ∧ IntsAt w a' J[i] := fun i hi => by
      obtain ⟨u, h1, ⟨a', c', rfl, hcap, h2⟩, _⟩ := h.row i hi
      refine ⟨a', c', ?_, hcap, ?_⟩
      · rw [Nat.zero_add, blk_cell hg, ← Array.getElem?_toList, ← h1, ← htake]
        rw [List.getElem?_take_of_lt (by omega)]
      · rcases h2 with h2 | ⟨x, off, rfl, h4, h5, h6⟩
        · exact .inl h2
        · exact .inr ⟨x, off, rfl, by omega, fun j hj => by rw [h6 j hj]; simp [List.getD, hj]⟩
    have lt := (Array.getElem?_eq_some_iff.1 hg).1
    refine ⟨_, _, rfl, .inr ⟨g, 0, rfl, lt, fun i hi => ?_⟩, .inr ⟨g, 0, rfl, lt, fun i hi => ?_⟩⟩
    · obtain ⟨a', c', h1, h2, h3⟩ := cellOf i hi
      rw [show J.getD i [] = J[i] by simp [List.getD, hi]]
      exact ⟨a', c', h1, h3⟩
    · obtain ⟨a', c', h1, h2, h3⟩ := cellOf i hi
      rw [show J.getD i [] = J[i] by simp [List.getD, hi]]
      exact ⟨a', c', h1, h2⟩
theorem row1_own {w : World} {base B : Nat} {u : Value} {l : List Int} (h : w.ownsRow base 3 1 u l.length (l.map (Value.int .i64))) (hB : w.heap.size ≤ B) : Row1 w base B u l := by
  rcases h.2 with ⟨rfl, h0⟩ | ⟨g, cap, cur, rfl, hb, hg, hc, _, _, htake⟩
  · exact ⟨none, 0, by rw [h0], by omega, .inl (List.length_eq_zero_iff.1 h0)⟩
  · refine ⟨_, _, rfl, hc, .inr ⟨g, 0, rfl, hb, by have := (Array.getElem?_eq_some_iff.1 hg).1; omega, fun i hi => ?_⟩⟩
    rw [blk_cell hg, Nat.zero_add, ← Array.getElem?_toList]
    have h3 : (cur.toList.take (l.length * 1))[i]? = some (.int .i64 l[i]) := by rw [htake]; simp [hi]
    rw [List.getElem?_take_of_lt (by omega)] at h3
    exact h3
theorem grown_on {w w' w'' : World} {g : Nat} {row : Option Nat} (h : w.grownBy w' (some g)) (k : w'.grownBy w'' row) (hr : ∀ r, row = some r → r = g ∨ w.heap.size ≤ r) : w.grownBy w'' (some g) :=
  ⟨k.os.trans h.os, k.tape.trans h.tape, k.output.trans h.output, Nat.le_trans h.size k.size, fun i hi hne => (k.block i (Nat.lt_of_lt_of_le hi h.size) (fun e => by rcases hr i e.symm with h | h; exact hne (by rw [h]); omega)).trans (h.block i hi hne)⟩
end Go.Town.Kp
