/-
  Drawn plans: l4Bad.
-/
import Derived.Test.YtkkcnkajffbnaaaDoorN8
namespace Go.Proofs.YtkkcnkajffbnaaaDoor
open Go.RowKit
set_option linter.all false

theorem Tryd.info30 : (Tryd.prog.info? 30).map (fun i => (i.zero, i.size, i.bytes)) = some (some (.slice none 0 0), 1, 24) := by kernel_rfl
theorem Tryd.info3n : (Tryd.prog.info? 3).map (fun i => (i.zero, i.size, i.bytes)) = some (some (.int .i64 0), 1, 8) := by kernel_rfl
theorem rows_ne {W : World} {B B' e e' s s' n n' : Nat} {v v' : Value} {xs xs' : List Value} (h : W.ownsRow B e s v n xs) (h' : W.ownsRow B' e' s' v' n' xs') (hne : e ≠ e') : v.ownBlock = none ∨ v.ownBlock ≠ v'.ownBlock := by
  rcases h.2 with ⟨rfl, -⟩ | ⟨g, cap, cur, rfl, e1, e2, e3⟩
  · exact .inl rfl
  · refine .inr fun q => ?_
    rcases h'.2 with ⟨rfl, -⟩ | ⟨g', cap', cur', rfl, e1', e2', e3'⟩
    · cases q
    · have : g = g' := by injection q
      subst this
      rw [e2] at e2'
      injection e2' with e2'
      injection e2' with _ h2
      exact hne h2
theorem own_less {w : World} {b b' size n : Nat} {e : TypeId} {v : Value} {xs : List Value} (h : w.ownsRow b e size v n xs) (hb : b' ≤ b) : w.ownsRow b' e size v n xs :=
  ⟨h.1, h.2.imp id fun ⟨g, cap, cur, hv, hg, r⟩ => ⟨g, cap, cur, hv, Nat.le_trans hb hg, r⟩⟩
theorem own_slice {w : World} {b size n : Nat} {e : TypeId} {v : Value} {xs : List Value} (h : w.ownsRow b e size v n xs) : ∃ a c, v = .slice a n c := by
  rcases h.2 with ⟨rfl, rfl⟩ | ⟨g, cap, cur, rfl, _⟩
  · exact ⟨_, _, rfl⟩
  · exact ⟨_, _, rfl⟩
/-- A row that is not empty lies somewhere, and holds what it holds. -/
theorem own_at {w : World} {b size n : Nat} {e : TypeId} {v : Value} {xs : List Value} (h : w.ownsRow b e size v n xs) (hn : 0 < n) : ∃ r c, v = .slice (some ⟨r, 0, none⟩) n c ∧ b ≤ r ∧ r < w.heap.size ∧ (∀ j u, xs[j]? = some u → w.cell? ((⟨r, 0, none⟩ : Addr).add j) = some u) ∧ ∀ j, w.frozen? ⟨r, j, none⟩ = false := by
  have hc := fun g => h.cells (g := g)
  rcases h.2 with ⟨rfl, rfl⟩ | ⟨g, cap, cur, rfl, e1, e2, e3⟩
  · omega
  · exact ⟨g, cap, rfl, e1, (Array.getElem?_eq_some_iff.1 e2).1, hc g rfl, fun j => blk_frozen e2⟩
/-- The reader goes on; nothing else of what was there has turned. -/
def On (w : World) (g0 g p : Nat) (w' : World) : Prop := Rd w' g0 g p ∧ w.grownBy w' (some g)
theorem On.alloc {w w' : World} {g0 g p : Nat} (h : On w g0 g p w') (o : Obj) : On w g0 g p (w'.alloc o) := ⟨h.1.alloc o, h.2.trans (World.grownBy_alloc _ _ _)⟩
theorem On.step {w w' w'' : World} {g0 g p : Nat} (h : On w g0 g p w') (k : RdOn w' g0 g p w'') : On w g0 g (p + 1) w'' := ⟨k.1, h.2.trans k.2⟩
theorem On.app {w w' w'' : World} {g0 g p B e s n : Nat} {v : Value} {xs : List Value} (h : On w g0 g p w') (own : w'.ownsRow B e s v n xs) (k : w'.grownBy w'' v.ownBlock) (hB : w.heap.size ≤ B) (hg : g < w.heap.size) : On w g0 g p w'' :=
  ⟨h.1.kept k (fun r e => by have := (own.lt r e).1; have := h.1.le; omega) h.1.lt, grown_on h.2 k fun r e => .inr (by have := (own.lt r e).1; omega)⟩
theorem On.cell {w w' : World} {g0 g p x j : Nat} (h : On w g0 g p w') (hx : w.heap.size ≤ x) (hg : g < w.heap.size) (u : Value) : On w g0 g p (w'.setCell ⟨x, j, none⟩ u) :=
  ⟨h.1.kept (grownBy_setCell_off w' x j u) (fun r e => by injection e with e; subst e; have := h.1.le; exact ⟨by omega, by omega⟩) h.1.lt, grownBy_set_new h.2 hx u⟩
theorem On.size {w w' : World} {g0 g p : Nat} (h : On w g0 g p w') : w.heap.size ≤ w'.heap.size := h.2.size
theorem On.from {w0 w w' : World} {g0 g p : Nat} (h : On w g0 g p w') (k : w0.grownBy w (some g)) : On w0 g0 g p w' := ⟨h.1, k.trans h.2⟩
/-- Plans, each a row of deeds; of the first one the deeds are known. -/
def PlansI (B : Nat) (v : Value) (n : Nat) (W : World) : Prop :=
  ∃ vs, W.ownsRow B 30 1 v n vs ∧ (∀ u ∈ vs, u.oneCell' = true) ∧ (0 < n → ∃ vd ds, vs[0]? = some vd ∧ W.ownsRow B 47 3 vd ds.length (cellsOf ds) ∧ ds.length ≤ 14 ∧ ∀ d ∈ ds, DrawnD d)
theorem PlansI.off {B n : Nat} {v : Value} {W W' : World} {row : Option Nat} (h : PlansI B v n W) (k : W.grownBy W' row) (hg : ∀ B' e s n' (u : Value) xs, (e = 30 ∨ e = 47) → W.ownsRow B' e s u n' xs → B ≤ B' → u.ownBlock = none ∨ u.ownBlock ≠ row) : PlansI B v n W' := by
  obtain ⟨vs, h1, h0, h2⟩ := h
  refine ⟨vs, h1.kept k (hg _ _ _ _ _ _ (.inl rfl) h1 (Nat.le_refl _)), h0, fun hn => ?_⟩
  obtain ⟨vd, ds, e, h3, h4, h5⟩ := h2 hn
  exact ⟨vd, ds, e, h3.kept k (hg _ _ _ _ _ _ (.inr rfl) h3 (Nat.le_refl _)), h4, h5⟩
theorem PlansI.kept {B n g : Nat} {v : Value} {W W' : World} (h : PlansI B v n W) (k : W.grownBy W' (some g)) (hg : g < B) : PlansI B v n W' :=
  h.off k fun B' e s n' u xs _ own hB => .inr fun q => by have := (own.lt g q).1; omega
theorem PlansI.ints {B B' n m : Nat} {v u : Value} {xs : List Value} {W W' : World} (h : PlansI B v n W) (own : W.ownsRow B' 3 1 u m xs) (k : W.grownBy W' u.ownBlock) : PlansI B v n W' :=
  h.off k fun B2 e s n' u' xs' he own' _ => rows_ne own' own (by rcases he with rfl | rfl <;> decide)
theorem PlansI.alloc {B n : Nat} {v : Value} {W : World} (h : PlansI B v n W) (o : Obj) : PlansI B v n (W.alloc o) :=
  h.off (World.grownBy_alloc W o none) fun _ _ _ _ u _ _ _ _ => by cases hv : u.ownBlock <;> simp
theorem PlansI.more {B B' n : Nat} {v : Value} {W : World} (h : PlansI B v n W) (hB : B' ≤ B) : PlansI B' v n W := by
  obtain ⟨vs, h1, h0, h2⟩ := h
  refine ⟨vs, own_less h1 hB, h0, fun hn => ?_⟩
  obtain ⟨vd, ds, e, h3, h4, h5⟩ := h2 hn
  exact ⟨vd, ds, e, own_less h3 hB, h4, h5⟩
/-- Numbers in a row of our own. -/
def IntRow (B : Nat) (v : Value) (zs : List Int) (W : World) : Prop := W.ownsRow B 3 1 v zs.length (zs.map (Value.int .i64))
/-- What l4Bad comes to. -/
def BadPost (W0 : World) (g0 g p B : Nat) (e : Ending) (w' : World) : Prop :=
  ∃ (a1 : Option Addr) (n1 c1 : Nat) (x v3 : Value) (n3 p' : Nat), e = .returned (.tuple #[.slice a1 n1 c1, x, v3]) ∧ 0 < n3 ∧ PlansI B v3 n3 w' ∧ p' ≤ p ∧ On W0 g0 g p' w'
theorem one_cells_int (zs : List Int) : ∀ u ∈ zs.map (Value.int .i64), u.oneCell' = true := by
  intro u hu
  obtain ⟨z, _, rfl⟩ := List.mem_map.1 hu
  rfl
end Go.Proofs.YtkkcnkajffbnaaaDoor
namespace Go.Proofs.YtkkcnkajffbnaaaDoor
open Go.RowKit

theorem badActs_ok : ∀ a ∈ ([[104, 97, 110, 100], [112, 117, 116], [101, 110, 100]] : List (List UInt8)), a.length ≤ 10 ∧ (32 : UInt8) ∉ a ∧ (44 : UInt8) ∉ a := by decide
set_option maxRecDepth 100000 in
set_option maxHeartbeats 8000000 in
theorem l4Bad_any {W0 w : World} {g0 g p B2 B n1 c1 n3 : Nat} {a1 : Option Addr} {v2 v3 : Value} {zs2 : List Int} (hO : On W0 g0 g p w) (hp : p ≤ 100000) (hg : g < W0.heap.size) (hB2 : W0.heap.size ≤ B2) (hB : W0.heap.size ≤ B) (I2 : IntRow B2 v2 zs2 w) (hz : 0 < zs2.length) (hz3 : zs2.length ≤ 100) (P3 : PlansI B v3 n3 w) (hn3 : 0 < n3) (hn33 : n3 ≤ 100) :
    Calls Tryd.prog 79 #[.pointer (some ⟨g, 0, none⟩), .slice a1 n1 c1, v2, v3] w (BadPost W0 g0 g (p + 8) W0.heap.size) := by
  obtain ⟨i0, hi, hz0, hz1, hz2⟩ := info_parts Tryd.info30
  obtain ⟨l0, li, lz0, lz1, lz2⟩ := info_parts Tryd.info3n
  have hlt := hO.1.lt
  obtain ⟨r2, c2, rfl, hr2, -⟩ := own_at I2 hz
  obtain ⟨r3, c3, rfl, hr3, -⟩ := own_at P3.choose_spec.1 hn3
  have O' := hidP hO
  have I2' := hidP I2
  have P3' := hidP P3
  clear I2 P3 hO
  go_enter Tryd.func79, Tryd.ntmps79
  go_wp2_with fail
  refine (pick_new O'.out.1 (by omega) (by omega)).mono ?_
  rintro e w1 ⟨y, rfl, hy, h1⟩
  have O1 := O'.out.step h1.out
  have I1 : IntRow B2 (.slice (some ⟨r2, 0, none⟩) zs2.length c2) zs2 w1 := I2'.out.kept h1.out.2 (.inr (by simp [Value.ownBlock]; omega))
  have P1 := P3'.out.kept h1.out.2 (by omega)
  clear O' I2' P3' h1
  have s1 := O1.size
  have c0 : y = 0 ∨ y = 1 ∨ y = 2 ∨ y = 3 ∨ 3 < y := by omega
  rcases c0 with rfl | rfl | rfl | rfl | hy3
  · obtain ⟨r, c, e, -, -, hc, -⟩ := own_at (I1.alloc (.cells #[] 3)) hz
    cases e
    have P1' := hidP P1
    have O1' := hidP O1
    have hc' := hidP hc
    have e0 := hidP (ownsRow_empty w1 3 1)
    clear P1 O1 hc I1
    go_wp2_with (at_builtin; refine wpList_append_own_at _ rfl (.tmp 16) (.tmp 17) 22 rfl w1.heap.size 3 l0 (.int .i64 0) 1 8 Tryd.underlying22 li lz0 lz1 lz2 rfl (by decide) _ 0 [] rfl e0.out ⟨r2, 0, none⟩ zs2.length _ (zs2.map (Value.int .i64)) rfl (by simp) ?c1 (one_cells_int _) ?c3 ?c4 ?c5 ?_)
    case c1 => exact hc'.out
    case c3 => unfold maxLen; omega
    case c4 => omega
    case c5 => simp
    intro v' w2 hown2 hgr2 _ _
    have O2 := hidP ((O1'.out.alloc (.cells #[] 3)).app e0.out hgr2 s1 hg)
    have P2 := hidP ((P1'.out.alloc (.cells #[] 3)).ints e0.out hgr2)
    have e2 := hidP (hown2.alloc (.cells #[.int .i64 0] 3))
    have s2 := hgr2.size
    simp only [World.size_alloc] at s2
    clear hown2 hgr2 O1' P1' e0 hc'
    go_wp2_with (at_builtin; refine wpList_append_own_at _ rfl (.tmp 18) (.tmp 19) 22 rfl w1.heap.size 3 l0 (.int .i64 0) 1 8 Tryd.underlying22 li lz0 lz1 lz2 rfl (by decide) _ zs2.length _ rfl e2.out ⟨w2.heap.size, 0, none⟩ 1 1 [.int .i64 0] rfl rfl ?c1 ?c2 ?c3 ?c4 ?c5 ?_)
    case c1 => exact cell_one_new _ _ _
    case c2 => intro u hu; simp at hu; subst hu; rfl
    case c3 => unfold maxLen; omega
    case c4 => omega
    case c5 => simp; omega
    intro v'' w3 hown3 hgr3 _ _
    have O3 := hidP ((O2.out.alloc (.cells #[.int .i64 0] 3)).app e2.out hgr3 s1 hg)
    have P3 := hidP ((P2.out.alloc (.cells #[.int .i64 0] 3)).ints e2.out hgr3)
    clear O2 P2 e2 hown3 hgr3
    go_wp2
    go_ret3
    exact ⟨_, _, _, _, _, n3, p + 1, rfl, hn3, P3.out.more hB, by omega, O3.out⟩
  · have P1' := hidP P1
    have O1' := hidP O1
    have I1' := hidP I1
    clear P1 O1 I1
    go_wp2_with fail
    refine (num_new (n := 3) [-2, 4, 9223372036854775807] _ O1'.out.1 (by omega) rfl rfl (by omega) (by omega)).mono ?_
    rintro e w2 ⟨x, rfl, -, h2⟩
    have O2 := hidP (O1'.out.step h2.out)
    have I2 : IntRow B2 (.slice (some ⟨r2, 0, none⟩) zs2.length c2) zs2 w2 := I1'.out.kept h2.out.2 (.inr (by simp [Value.ownBlock]; omega))
    have P2 := P1'.out.kept h2.out.2 (by omega)
    have s2 := h2.out.2.size
    obtain ⟨r, c, e, -, -, hc, hf⟩ := own_at I2 hz
    cases e
    have hcell : w2.cell? ⟨r2, 0, none⟩ = some (.int .i64 zs2[0]) := hc 0 _ (by simp [List.getElem?_eq_getElem hz])
    have hfr := hf 0
    have O3 := hidP (O2.out.cell (x := r2) (j := 0) (by omega) hg (.int .i64 x))
    have P3 := hidP (P2.off (grownBy_setCell_off w2 r2 0 (.int .i64 x)) fun B' e s n' u xs he own _ => rows_ne (v' := .slice (some ⟨r2, 0, none⟩) zs2.length c2) own I2 (by rcases he with rfl | rfl <;> decide))
    have hz' : (0 : Int) < (zs2.length : Int) := by omega
    clear h2 O2 P2 I2 hc hf O1' P1' I1'
    generalize zs2[0] = z0 at *
    go_wp2
    go_ret3
    exact ⟨_, _, _, _, _, n3, p + 2, rfl, hn3, P3.out.more hB, by omega, O3.out⟩
  · obtain ⟨vs, q1, q2, q3⟩ := P1.alloc (.cells #[] 30)
    obtain ⟨r, c, e, -, -, hc, -⟩ := own_at q1 hn3
    cases e
    have hlv : vs.length = n3 * 1 := q1.1
    obtain ⟨vd, ds, d1, d2, d3, d4⟩ := q3 hn3
    have d2' := hidP d2
    have O1' := hidP O1
    have hc' := hidP hc
    have e0 := hidP (ownsRow_empty w1 30 1)
    clear P1 O1 hc I1 q1 q3 d2
    go_wp2_with (at_builtin; refine wpList_append_own_at _ rfl (.tmp 33) (.tmp 34) 84 rfl w1.heap.size 30 i0 (.slice none 0 0) 1 24 Tryd.underlying84 hi hz0 hz1 hz2 rfl (by decide) _ 0 [] rfl e0.out ⟨r3, 0, none⟩ n3 _ vs rfl hlv ?c1 q2 ?c3 ?c4 ?c5 ?_)
    case c1 => exact hc'.out
    case c3 => unfold maxLen; omega
    case c4 => omega
    case c5 => simp
    intro v' w2 hown2 hgr2 _ _
    have O2 := hidP ((O1'.out.alloc (.cells #[] 30)).app e0.out hgr2 s1 hg)
    have D2 := hidP (d2'.out.kept hgr2 (rows_ne d2'.out e0.out (by decide)))
    have e2 := hidP hown2
    have s2 := hgr2.size
    simp only [World.size_alloc] at s2
    clear hown2 hgr2 O1' d2' e0 hc'
    go_wp2_with fail
    refine (of_new (n := 3) [[104, 97, 110, 100], [112, 117, 116], [101, 110, 100]] _ O2.out.1 (by omega) rfl rfl (by omega) (by omega)).mono ?_
    rintro e w3 ⟨a, rfl, ha, h3⟩
    have hb : ∀ {u : Value} {W : World} {e' s' n' : Nat} {xs : List Value}, W.ownsRow B e' s' u n' xs → u.ownBlock = none ∨ u.ownBlock ≠ some g := fun own => .inr fun e => by have := (own.lt g e).1; omega
    have hb1 : ∀ {u : Value} {W : World} {e' s' n' : Nat} {xs : List Value}, W.ownsRow w1.heap.size e' s' u n' xs → u.ownBlock = none ∨ u.ownBlock ≠ some g := fun own => .inr fun e => by have := (own.lt g e).1; omega
    have O3 := hidP (O2.out.step h3.out)
    have D3 := hidP (D2.out.kept h3.out.2 (hb D2.out))
    have e3 := hidP (e2.out.kept h3.out.2 (hb1 e2.out))
    have s3 := h3.out.2.size
    clear h3 O2 D2 e2
    go_wp2_with fail
    refine (num_new (n := 3) [9, 1, 7] _ O3.out.1 (by omega) rfl rfl (by omega) (by omega)).mono ?_
    rintro e w4 ⟨x, rfl, -, h4⟩
    have O4 := hidP (O3.out.step h4.out)
    have D4 := hidP (D3.out.kept h4.out.2 (hb D3.out))
    have e4 := hidP (e3.out.kept h4.out.2 (hb1 e3.out))
    have s4 := h4.out.2.size
    clear h4 O3 D3 e3
    go_wp2_with fail
    refine (num_new (n := 3) [0, 7, 1] _ O4.out.1 (by omega) rfl rfl (by omega) (by omega)).mono ?_
    rintro e w5 ⟨z, rfl, -, h5⟩
    have O5 := hidP (O4.out.step h5.out)
    have D5 := hidP (D4.out.kept h5.out.2 (hb D4.out))
    have e5 := hidP (e4.out.kept h5.out.2 (hb1 e4.out))
    have s5 := h5.out.2.size
    clear h5 O4 D4 e4
    obtain ⟨W6, hW6⟩ : ∃ W6, (w5.alloc (.cells #[.string ⟨a.toArray⟩, .int .i64 x, .int .i64 z] 47)).alloc (.cells #[.slice (some ⟨w5.heap.size, 0, none⟩) 1 1] 30) = W6 := ⟨_, rfl⟩
    have O6 : Hid (On W0 g0 g (p + 1 + 1 + 1 + 1) W6) := by rw [← hW6]; exact (O5.out.alloc _).alloc _
    have D6 : Hid (W6.ownsRow B 47 3 vd ds.length (cellsOf ds)) := by rw [← hW6]; exact (D5.out.alloc _).alloc _
    have e6 : Hid (W6.ownsRow w1.heap.size 30 1 v' n3 vs) := by rw [← hW6]; exact (e5.out.alloc _).alloc _
    have c6 : Hid (∀ (j : Nat) u, [Value.slice (some ⟨w5.heap.size, 0, none⟩) 1 1][j]? = some u → W6.cell? ((⟨w5.heap.size + 1, 0, none⟩ : Addr).add j) = some u) := by
      have := cell_one_new (w5.alloc (.cells #[.string ⟨a.toArray⟩, .int .i64 x, .int .i64 z] 47)) (.slice (some ⟨w5.heap.size, 0, none⟩) 1 1) 30
      rw [World.size_alloc, hW6] at this
      exact this
    have s6 : w5.heap.size ≤ W6.heap.size := by rw [← hW6]; simp; omega
    clear O5 D5 e5
    go_wp2_with (at_builtin; go_loud (refine wpList_append_own_at _ rfl (.tmp 35) (.tmp 47) 84 rfl w1.heap.size 30 i0 (.slice none 0 0) 1 24 Tryd.underlying84 hi hz0 hz1 hz2 rfl (by decide) _ n3 _ rfl e6.out ⟨w5.heap.size + 1, 0, none⟩ 1 1 [.slice (some ⟨w5.heap.size, 0, none⟩) 1 1] rfl rfl ?c1 ?c2 ?c3 ?c4 ?c5 ?_))
    case c1 => exact c6.out
    case c2 => intro u hu; simp at hu; subst hu; rfl
    case c3 => unfold maxLen; omega
    case c4 => omega
    case c5 => omega
    intro v'' w7 hown7 hgr7 _ _
    have O7 := hidP (O6.out.app e6.out hgr7 s1 hg)
    have D7 := hidP (D6.out.kept hgr7 (rows_ne D6.out e6.out (by decide)))
    have e7 := hidP hown7
    clear O6 D6 e6 hown7 hgr7 c6
    go_wp2
    go_ret3
    refine ⟨_, _, _, _, _, n3 + 1, p + 4, rfl, by omega, ⟨_, own_less e7.out s1, fun u hu => ?_, fun _ => ⟨vd, ds, by rw [List.getElem?_append_left (by omega)]; exact d1, own_less D7.out hB, d3, d4⟩⟩, by omega, O7.out⟩
    rcases List.mem_append.1 hu with h | h
    · exact q2 u h
    · simp at h; subst h; rfl
  · go_wp2
    go_ret3
    exact ⟨_, _, _, _, _, n3, p + 1, rfl, hn3, (P1.alloc _).more hB, by omega, O1.alloc _⟩
  · have y0' : ((y : Int) == 0) = false := beq_eq_false_iff_ne.2 (by omega)
    have y1' : ((y : Int) == 1) = false := beq_eq_false_iff_ne.2 (by omega)
    have y2' : ((y : Int) == 2) = false := beq_eq_false_iff_ne.2 (by omega)
    have y3' : ((y : Int) == 3) = false := beq_eq_false_iff_ne.2 (by omega)
    go_wp2
    go_ret3
    exact ⟨_, _, _, _, _, n3, p + 1, rfl, hn3, P1.more hB, by omega, O1⟩
end Go.Proofs.YtkkcnkajffbnaaaDoor
