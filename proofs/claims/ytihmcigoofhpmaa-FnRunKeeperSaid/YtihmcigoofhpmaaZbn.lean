/-
  The reference's source of numbers: l11Open, pick, num, of.
  The reference's drawn keeper: l9Keeper.
-/
import Derived.BigQuiet
import Derived.Deep.QuietTactic
import Derived.Maps.AppendAt
import Derived.Test.YtihmcigoofhpmaaZbl
set_option linter.all false
namespace Go.Town.Kp
open Go Go.Conc Go.Conc.Lib Go.ConcR.Gen Go.RowKit Go.Town Go.Proofs
theorem blk_set {w : World} {b o : Nat} {c : Array Value} {t : TypeId} {f : Nat × Nat} (h : w.heap[b]? = some (.cells c t f)) (v : Value) : (w.setCell ⟨b, o, none⟩ v).heap[b]? = some (.cells (c.setIfInBounds o v) t f) := by
  simp only [World.setCell, Array.getElem?_modify]
  simp [h]
theorem blk_cell {w : World} {b o : Nat} {c : Array Value} {t : TypeId} {f : Nat × Nat} (h : w.heap[b]? = some (.cells c t f)) : w.cell? ⟨b, o, none⟩ = c[o]? := by
  simp [World.cell?, h]
theorem blk_frozen {w : World} {b o : Nat} {c : Array Value} {t : TypeId} (h : w.heap[b]? = some (.cells c t (0, 0))) : w.frozen? ⟨b, o, none⟩ = false := by
  simp [World.frozen?, h]
theorem hidC {P : Program} {f : FuncId} {args : Array Value} {w : World} {Q : Ending → World → Prop} (h : Calls P f args w Q) : RowKit.Hid (Calls P f args w Q) := h
theorem ownsRow_base {w : World} {b b' e size n : Nat} {v : Value} {xs : List Value} (h : w.ownsRow b e size v n xs) (hb : b' ≤ b) : w.ownsRow b' e size v n xs := by
  obtain ⟨h1, h2⟩ := h
  refine ⟨h1, ?_⟩
  rcases h2 with h2 | ⟨g, cap, cur, e1, e2, e3⟩
  · exact .inl h2
  · exact .inr ⟨g, cap, cur, e1, Nat.le_trans hb e2, e3⟩
theorem ownsRow_empty (w : World) (e : TypeId) (n : Nat) : (w.alloc (.cells #[] e)).ownsRow w.heap.size e n (.slice (some ⟨w.heap.size, 0, none⟩) 0 0) 0 [] :=
  ⟨by simp, .inr ⟨w.heap.size, 0, #[], rfl, Nat.le_refl _, heap_alloc_new _ _, Nat.le_refl _, Nat.zero_le _, by simp, by simp⟩⟩
structure Texts (w : World) (g : Nat) (ws : List (List UInt8)) : Prop where
  lt : g < w.heap.size
  at' : ∀ k (h : k < ws.length), w.cell? ⟨g, k, none⟩ = some (.string ⟨ws[k].toArray⟩)
theorem Texts.block {w w' : World} {g : Nat} {ws : List (List UInt8)} (h : Texts w g ws) (hg : w'.heap[g]? = w.heap[g]?) : Texts w' g ws := by
  have hl := (Array.getElem?_eq_some_iff.1 (hg.trans (Array.getElem?_eq_getElem h.lt))).1
  refine ⟨hl, fun k hk => ?_⟩
  rw [← h.at' k hk]
  unfold World.cell?
  simp only [hg]
def BytesAt (w : World) (a : Option Addr) (bs : List Int) : Prop :=
  bs = [] ∨ ∃ b off, a = some ⟨b, off, none⟩ ∧ b < w.heap.size ∧ ∀ i, i < bs.length → w.cell? ⟨b, off + i, none⟩ = some (.int .u8 (bs.getD i 0))
theorem BytesAt.below {w w' : World} {a : Option Addr} {zs : List Int} (h : BytesAt w a zs) {B : Nat} (hw : Below B w w') (hB : w.heap.size ≤ B) : BytesAt w' a zs := by
  rcases h with rfl | ⟨b, off, rfl, hb, hc⟩
  · exact .inl rfl
  · exact .inr ⟨b, off, rfl, Nat.lt_of_lt_of_le hb hw.size, fun i hi => (hw.cell (by show b < B; omega)).trans (hc i hi)⟩
def InU8 (n : Int) : Prop := 0 ≤ n ∧ n ≤ 255
theorem grownBy_setCell_off (W : World) (b o : Nat) (v : Value) : W.grownBy (W.setCell ⟨b, o, none⟩ v) (some b) :=
  ⟨rfl, rfl, rfl, (by rw [World.size_setCell]; exact Nat.le_refl _), fun k _ hk => Below.heap_setCell _ _ _ k (fun e => hk (by rw [e]))⟩
theorem bits_xor_i64_nat (a b : Nat) (ha : a < 9223372036854775808) (hb : b < 9223372036854775808) :
    bits .xor .i64 (a : Int) (b : Int) = ((a ^^^ b : Nat) : Int) := by
  have hx : a ^^^ b < 2 ^ 63 := Nat.xor_lt_two_pow (by omega) (by omega)
  have h1 : (BitVec.ofInt 64 (a : Int)).toNat = a := by
    rw [BitVec.ofInt_natCast, BitVec.toNat_ofNat]; exact Nat.mod_eq_of_lt (by omega)
  have h2 : (BitVec.ofInt 64 (b : Int)).toNat = b := by
    rw [BitVec.ofInt_natCast, BitVec.toNat_ofNat]; exact Nat.mod_eq_of_lt (by omega)
  show IntKind.i64.wrap ((BitVec.ofInt 64 (a : Int) ^^^ BitVec.ofInt 64 (b : Int)).toNat : Int) = _
  rw [BitVec.toNat_xor, h1, h2]
  simp only [IntKind.wrap, IntKind.bits, IntKind.signed]
  simp
  omega
theorem mix_nonneg {v : Int} (h0 : 0 ≤ v) (h1 : v < 9223372036854775808) : 0 ≤ bits .xor .i64 v (v / 64) := by
  obtain ⟨n, rfl⟩ := Int.eq_ofNat_of_zero_le h0
  rw [show ((n : Int) / 64) = ((n / 64 : Nat) : Int) by simp, bits_xor_i64_nat n (n / 64) (by omega) (by omega)]
  omega
theorem grownBy_drewN {w w' : World} {r : Option Nat} (h : w.grownBy w' r) (n : Nat) : w.grownBy (w'.drewN n) r := ⟨h.os, h.tape, h.output, h.size, h.block⟩
structure Rd (w : World) (g0 g : Nat) (p : Nat) : Prop where
  ex : ∃ (bs : List Int) (a : Option Addr) (c : Nat), w.heap[g]? = some (.cells #[.slice a bs.length c, .int .i64 p] 70 (0, 0)) ∧ bs.length ≤ 2000 ∧ (∀ b ∈ bs, InU8 b) ∧
    (bs = [] ∨ ∃ b off, a = some ⟨b, off, none⟩ ∧ b < g0 ∧ ∀ i, i < bs.length → w.cell? ⟨b, off + i, none⟩ = some (.int .u8 (bs.getD i 0)))
  le : g0 ≤ g
set_option maxRecDepth 100000 in
set_option maxHeartbeats 1000000 in
theorem pick_any (g0 g p : Nat) (n : Int) (w : World) (hR : Rd w g0 g p) (hp : p ≤ 1000000000) (hn : n ≤ 1000000000) :
    Calls Try.prog 42 #[.pointer (some ⟨g, 0, none⟩), .int .i64 n] w fun e w' => ∃ x : Int, e = .returned (.int .i64 x) ∧ 0 ≤ x ∧ (x < n ∨ x = 0) ∧ Rd w' g0 g (p + 1) ∧ w.grownBy w' (some g) := by
  obtain ⟨⟨bs, a, c, hg, hbl, hu8, hby⟩, hle⟩ := hR
  have c0 : w.cell? ⟨g, 0, none⟩ = some (.slice a bs.length c) := by rw [blk_cell hg]; rfl
  have c1 : w.cell? ⟨g, 1, none⟩ = some (.int .i64 p) := by rw [blk_cell hg]; rfl
  have f1 : w.frozen? ⟨g, 1, none⟩ = false := blk_frozen hg
  have hs := blk_set hg (o := 1) (.int .i64 (p + 1))
  have hs' : (w.setCell ⟨g, 1, none⟩ (.int .i64 (p + 1))).heap[g]? = some (.cells #[.slice a bs.length c, .int .i64 ((p + 1 : Nat) : Int)] 70 (0, 0)) := by rw [hs]; simp
  have hgr := grownBy_setCell_off w g 1 (.int .i64 (p + 1))
  have hR' : Rd (w.setCell ⟨g, 1, none⟩ (.int .i64 (p + 1))) g0 g (p + 1) := ⟨⟨bs, a, c, hs', hbl, hu8, by
    rcases hby with h | ⟨b, off, rfl, hb, hc⟩
    · exact .inl h
    · refine .inr ⟨b, off, rfl, hb, fun i hi => ?_⟩
      rw [← hc i hi]
      unfold World.cell?
      rw [Below.heap_setCell _ _ _ b (by simp; omega)]⟩, hle⟩
  by_cases h1 : n < 1
  · have h1' : decide (n < 1) = true := by simpa using h1
    go_enter Try.func42, Try.ntmps42
    go_wp2
    go_ret
    exact ⟨0, rfl, Int.le_refl _, .inr rfl, hR', hgr⟩
  · have h1' : decide (n < 1) = false := by simpa using h1
    by_cases h0 : bs.length = 0
    · have h0' : ((bs.length : Int) == 0) = true := by simpa using h0
      go_enter Try.func42, Try.ntmps42
      go_wp2
      go_ret
      exact ⟨0, rfl, Int.le_refl _, .inr rfl, hR', hgr⟩
    · have h0' : ((bs.length : Int) == 0) = false := beq_eq_false_iff_ne.2 (by omega)
      rcases hby with rfl | ⟨b, off, rfl, hb, hc⟩
      · simp at h0
      have hcell : ∀ i, i < bs.length → ∃ x : Int, InU8 x ∧ (w.setCell ⟨g, 1, none⟩ (.int .i64 (p + 1))).cell? ⟨b, off + i, none⟩ = some (.int .u8 x) := fun i hi => by
        refine ⟨bs.getD i 0, ?_, ?_⟩
        · have : bs.getD i 0 = bs[i] := by simp [List.getD, hi]
          rw [this]; exact hu8 _ (by simp)
        · rw [← hc i hi]
          unfold World.cell?
          rw [Below.heap_setCell _ _ _ b (by simp; omega)]
      by_cases hlt : p < bs.length
      · obtain ⟨x, hx, hcx⟩ := hcell p hlt
        clear hcell hc hs hg hu8
        obtain ⟨hx1, hx2⟩ := hx
        go_enter Try.func42, Try.ntmps42
        go_wp2
        go_ret
        exact ⟨x % n, rfl, Int.emod_nonneg _ (by omega), .inl (Int.emod_lt_of_pos _ (by omega)), hR', hgr⟩
      · have hge : ¬ (p : Int) < (bs.length : Int) := by omega
        obtain ⟨q1, hq1⟩ : ∃ q, q = p % bs.length := ⟨_, rfl⟩
        obtain ⟨q2, hq2⟩ : ∃ q, q = (p * 7 + 3) % bs.length := ⟨_, rfl⟩
        obtain ⟨q3, hq3⟩ : ∃ q, q = p / bs.length := ⟨_, rfl⟩
        have l1 : q1 < bs.length := hq1 ▸ Nat.mod_lt _ (by omega)
        have l2 : q2 < bs.length := hq2 ▸ Nat.mod_lt _ (by omega)
        have l3 : q3 ≤ p := hq3 ▸ Nat.div_le_self _ _
        have e1 : (p : Int) % (bs.length : Int) = (q1 : Int) := by rw [hq1]; rfl
        have e2 : ((p : Int) * 7 + 3) % (bs.length : Int) = (q2 : Int) := by rw [hq2]; rfl
        have e3 : (p : Int) / (bs.length : Int) = (q3 : Int) := by rw [hq3]; rfl
        obtain ⟨x, hx, hcx⟩ := hcell q1 l1
        obtain ⟨y, hy, hcy⟩ := hcell q2 l2
        clear hcell hc hs hg hu8 hq1 hq2 hq3
        obtain ⟨hx1, hx2⟩ := hx
        obtain ⟨hy1, hy2⟩ := hy
        go_enter Try.func42, Try.ntmps42
        go_wp2
        go_quiet (fail)
        go_wp2
        go_ret
        have hm := mix_nonneg (v := x * 131 + y * 1117 + p * 29 + q3 * 53) (by omega) (by omega)
        obtain ⟨bb, a, c, z1, z2, z3, z4⟩ := hR'.ex
        exact ⟨_, rfl, Int.tmod_nonneg _ hm, .inl (Int.tmod_lt_of_pos _ (by omega)), ⟨⟨bb, a, c, z1, z2, z3, z4⟩, hle⟩, grownBy_drewN hgr _⟩
theorem cells_kept {w w' : World} {g gl : Nat} {zs : List Int} (h : ∀ (i : Nat) (hi : i < zs.length), w.cell? ⟨gl, i, none⟩ = some (.int .i64 zs[i])) (hl : gl < w.heap.size) (hne : gl ≠ g) (hg : w.grownBy w' (some g)) : ∀ (i : Nat) (hi : i < zs.length), w'.cell? ⟨gl, i, none⟩ = some (.int .i64 zs[i]) := fun i hi => by
  rw [← h i hi]
  unfold World.cell?
  rw [hg.block gl hl (by intro e; injection e with e; exact hne e)]
set_option maxRecDepth 100000 in
set_option maxHeartbeats 400000 in
theorem num_any (g0 g p gl c : Nat) (zs : List Int) (w : World) (hR : Rd w g0 g p) (hp : p ≤ 1000000000) (hne : gl ≠ g) (hl : gl < w.heap.size) (hz : zs ≠ []) (hz2 : zs.length ≤ 1000) (hc : ∀ (i : Nat) (hi : i < zs.length), w.cell? ⟨gl, i, none⟩ = some (.int .i64 zs[i])) :
    Calls Try.prog 41 #[.pointer (some ⟨g, 0, none⟩), .slice (some ⟨gl, 0, none⟩) zs.length c] w fun e w' => ∃ x : Int, e = .returned (.int .i64 x) ∧ x ∈ zs ∧ Rd w' g0 g (p + 1) ∧ w.grownBy w' (some g) := by
  have hpos : 0 < zs.length := by cases zs with | nil => exact absurd rfl hz | cons _ _ => simp
  have hk := hidC (pick_any g0 g p zs.length w hR hp (by omega))
  have hc' := fun w' h => cells_kept (w' := w') hc hl hne h
  go_enter Try.func41, Try.ntmps41
  go_wp2_with fail
  refine hk.out.mono ?_
  rintro e w1 ⟨x, rfl, hx0, hx1, hR1, hg1⟩
  obtain ⟨n, rfl⟩ := Int.eq_ofNat_of_zero_le hx0
  have hlt : n < zs.length := by omega
  have hcell := hc' w1 hg1 n hlt
  clear hc hc' hk
  go_wp2
  go_ret
  exact ⟨_, rfl, by simp, hR1, hg1⟩
theorem Texts.kept {w w' : World} {g gl : Nat} {ws : List (List UInt8)} (h : Texts w gl ws) (hne : gl ≠ g) (hg : w.grownBy w' (some g)) : Texts w' gl ws :=
  h.block (hg.block gl h.lt (by intro e; injection e with e; exact hne e))
set_option maxRecDepth 100000 in
set_option maxHeartbeats 400000 in
theorem of_any (g0 g p gl c : Nat) (ws : List (List UInt8)) (w : World) (hR : Rd w g0 g p) (hp : p ≤ 1000000000) (hne : gl ≠ g) (hz : ws ≠ []) (hz2 : ws.length ≤ 1000) (hT : Texts w gl ws) :
    Calls Try.prog 47 #[.pointer (some ⟨g, 0, none⟩), .slice (some ⟨gl, 0, none⟩) ws.length c] w fun e w' => ∃ x : List UInt8, e = .returned (.string ⟨x.toArray⟩) ∧ x ∈ ws ∧ Rd w' g0 g (p + 1) ∧ w.grownBy w' (some g) := by
  have hpos : 0 < ws.length := by cases ws with | nil => exact absurd rfl hz | cons _ _ => simp
  have hk := hidC (pick_any g0 g p ws.length w hR hp (by omega))
  go_enter Try.func47, Try.ntmps47
  go_wp2_with fail
  refine hk.out.mono ?_
  rintro e w1 ⟨x, rfl, hx0, hx1, hR1, hg1⟩
  obtain ⟨n, rfl⟩ := Int.eq_ofNat_of_zero_le hx0
  have hlt : n < ws.length := by omega
  have hcell := (hT.kept hne hg1).at' n hlt
  clear hT hk
  go_wp2
  go_ret
  exact ⟨ws[n], rfl, by simp, hR1, hg1⟩
set_option maxRecDepth 100000 in
set_option maxHeartbeats 400000 in
theorem l11Open_any (a : Option Addr) (c : Nat) (bs : List Int) (w : World) (hA : BytesAt w a bs) (hu : ∀ b ∈ bs, InU8 b) (hcap : bs.length ≤ c) :
    Calls Try.prog 32 #[.slice a bs.length c] w fun e w' => e = .returned (.pointer (some ⟨w.heap.size, 0, none⟩)) ∧ Rd w' w.heap.size w.heap.size 0 ∧ Below w.heap.size w w' := by
  by_cases hn : 2000 < bs.length
  · have hn' : (2000 : Int) < (bs.length : Int) := by omega
    go_enter Try.func32, Try.ntmps32
    go_wp2
    go_ret
    refine ⟨rfl, ⟨⟨bs.take 2000, a, c, ?_, by simp; omega, fun b hb => hu b (List.mem_of_mem_take hb), ?_⟩, Nat.le_refl _⟩, (Below.refl _ _).alloc (Nat.le_refl _) _⟩
    · rw [List.length_take, show min 2000 bs.length = 2000 by omega]; exact heap_alloc_new _ _
    · rcases hA with h | ⟨b, off, rfl, hb, hc⟩
      · rw [h] at hn; simp at hn
      · refine .inr ⟨b, off, rfl, hb, fun i hi => ?_⟩
        rw [show (bs.take 2000).getD i 0 = bs.getD i 0 by rw [List.length_take] at hi; simp only [List.getD]; rw [List.getElem?_take_of_lt (by omega)], ← hc i (by simp at hi; omega)]
        exact ((Below.refl _ w).alloc (Nat.le_refl _) _).cell (by show b < _; omega)
  · have hn' : ¬ (2000 : Int) < (bs.length : Int) := by omega
    go_enter Try.func32, Try.ntmps32
    go_wp2
    go_ret
    refine ⟨rfl, ⟨⟨bs, a, c, heap_alloc_new _ _, by omega, hu, ?_⟩, Nat.le_refl _⟩, (Below.refl _ _).alloc (Nat.le_refl _) _⟩
    rcases hA with h | ⟨b, off, rfl, hb, hc⟩
    · exact .inl h
    · refine .inr ⟨b, off, rfl, hb, fun i hi => ?_⟩
      rw [← hc i hi]
      exact ((Below.refl _ w).alloc (Nat.le_refl _) _).cell (by show b < _; omega)
theorem Rd.kept {w w' : World} {g0 g p : Nat} {row : Option Nat} (h : Rd w g0 g p) (hg : w.grownBy w' row) (hr : ∀ r, row = some r → g0 ≤ r ∧ r ≠ g) (hl : g < w.heap.size) : Rd w' g0 g p := by
  obtain ⟨⟨bs, a, c, h1, h2, h3, h4⟩, hle⟩ := h
  refine ⟨⟨bs, a, c, (hg.block g hl (fun e => (hr g e.symm).2 rfl)).trans h1, h2, h3, ?_⟩, hle⟩
  rcases h4 with h4 | ⟨b, off, rfl, hb, hc⟩
  · exact .inl h4
  · refine .inr ⟨b, off, rfl, hb, fun i hi => ?_⟩
    rw [← hc i hi]
    unfold World.cell?
    rw [hg.block b (by omega) (fun e => by have := (hr b e.symm).1; omega)]
theorem Rd.lt {w : World} {g0 g p : Nat} (h : Rd w g0 g p) : g < w.heap.size := by
  obtain ⟨⟨bs, a, c, h1, _⟩, _⟩ := h
  exact (Array.getElem?_eq_some_iff.1 h1).1
theorem grownBy_set_new {w w' : World} {r : Option Nat} {x j : Nat} (h : w.grownBy w' r) (hx : w.heap.size ≤ x) (v : Value) : w.grownBy (w'.setCell ⟨x, j, none⟩ v) r :=
  ⟨h.os, h.tape, h.output, by rw [World.size_setCell]; exact h.size, fun k hk hne => (Below.heap_setCell _ _ _ k (by simp; omega)).trans (h.block k hk hne)⟩
theorem Rd.same {w w' : World} {g0 g p : Nat} (h : Rd w g0 g p) (hw : w'.heap = w.heap) : Rd w' g0 g p := by
  obtain ⟨⟨bs, a, c, h1, h2, h3, h4⟩, hle⟩ := h
  refine ⟨⟨bs, a, c, by rw [hw]; exact h1, h2, h3, ?_⟩, hle⟩
  rcases h4 with h4 | ⟨b, off, rfl, hb, hc⟩
  · exact .inl h4
  · exact .inr ⟨b, off, rfl, hb, fun i hi => by rw [← hc i hi]; unfold World.cell?; rw [hw]⟩
end Go.Town.Kp
namespace Go.Town.Kp
open Go Go.Conc Go.Conc.Lib Go.ConcR.Gen Go.RowKit Go.Town Go.Proofs
theorem Rd.alloc {w : World} {g0 g p : Nat} (h : Rd w g0 g p) (o : Obj) : Rd (w.alloc o) g0 g p := h.kept (World.grownBy_alloc w o none) (fun r e => by cases e) h.lt
theorem Reads.grown {w w' : World} {x g : Nat} {vs : List Value} (h : Reads w x vs) (k : w.grownBy w' (some g)) (hx : x < w.heap.size) (hne : x ≠ g) : Reads w' x vs := fun j hj => by
  have hb := k.block x hx (by intro e; injection e with e; exact hne e)
  rw [World.cell?_of_block hb, World.frozen?_of_block hb]; exact h j hj
theorem Reads.alloc {w : World} {x : Nat} {vs : List Value} (h : Reads w x vs) (hx : x < w.heap.size) (o : Obj) : Reads (w.alloc o) x vs := h.kin (((Grown.refl w).alloc o).kin (Nat.le_refl _)) hx
def RdOn (w : World) (g0 g p : Nat) (w' : World) : Prop := Rd w' g0 g (p + 1) ∧ w.grownBy w' (some g)
theorem num_new {g0 g p gl n : Nat} (zs : List Int) (t : TypeId) {w : World} (hR : Rd w g0 g p) (hp : p ≤ 1000000000) (hgl : gl = w.heap.size) (hn : zs.length = n) (hz : 0 < n) (hz2 : n ≤ 1000) :
    Calls Try.prog 41 #[.pointer (some ⟨g, 0, none⟩), .slice (some ⟨gl, 0, none⟩) n n] (w.alloc (.cells (zs.map (Value.int .i64)).toArray t)) fun e w' => ∃ x : Int, e = .returned (.int .i64 x) ∧ x ∈ zs ∧ RowKit.Hid (RdOn w g0 g p w') := by
  subst hgl hn
  have hlt := hR.lt
  refine (num_any g0 g p w.heap.size _ zs _ (hR.alloc _) hp (by omega) (by simp) (fun e => by simp [e] at hz) hz2 (fun i hi => ?_)).mono fun e w' ⟨x, h1, h2, h3, h4⟩ => ⟨x, h1, h2, h3, (World.grownBy_alloc w _ _).trans h4⟩
  rw [blk_cell (alloc_self w _)]; simp [hi]
theorem of_new {g0 g p gl n : Nat} (ws : List (List UInt8)) (t : TypeId) {w : World} (hR : Rd w g0 g p) (hp : p ≤ 1000000000) (hgl : gl = w.heap.size) (hn : ws.length = n) (hz : 0 < n) (hz2 : n ≤ 1000) :
    Calls Try.prog 47 #[.pointer (some ⟨g, 0, none⟩), .slice (some ⟨gl, 0, none⟩) n n] (w.alloc (.cells (ws.map fun s => Value.string ⟨s.toArray⟩).toArray t)) fun e w' => ∃ x : List UInt8, e = .returned (.string ⟨x.toArray⟩) ∧ RowKit.Hid (RdOn w g0 g p w') := by
  subst hgl hn
  have hlt := hR.lt
  refine (of_any g0 g p w.heap.size _ ws _ (hR.alloc _) hp (by omega) (fun e => by simp [e] at hz) hz2 ⟨by simp, fun i hi => ?_⟩).mono fun e w' ⟨x, h1, _, h3, h4⟩ => ⟨x, h1, h3, (World.grownBy_alloc w _ _).trans h4⟩
  rw [blk_cell (alloc_self w _)]; simp [hi]
theorem pick_new {g0 g p : Nat} {n : Int} {w : World} (hR : Rd w g0 g p) (hp : p ≤ 1000000000) (hn : n ≤ 1000000000) :
    Calls Try.prog 42 #[.pointer (some ⟨g, 0, none⟩), .int .i64 n] w fun e w' => ∃ x : Nat, e = .returned (.int .i64 x) ∧ (((x : Nat) : Int) < n ∨ x = 0) ∧ RowKit.Hid (RdOn w g0 g p w') :=
  (pick_any g0 g p n w hR hp hn).mono fun e w' ⟨x, h1, h2, h3, h4, h5⟩ => by
    obtain ⟨m, rfl⟩ := Int.eq_ofNat_of_zero_le h2
    exact ⟨m, h1, h3.imp id (fun h => by omega), h4, h5⟩
theorem set3_fin {w w4 : World} {g0 g p x : Nat} {vs : List Value} (hq : Reads w4 x vs) (hv : vs.length = 3) (hx : w.heap.size ≤ x) (hg : w.grownBy w4 (some g)) (hR : Rd w4 g0 g p) (hlt : g < w.heap.size) (a b c : Value) :
    (((w4.setCell ⟨x, 0, none⟩ a).setCell ⟨x, 1, none⟩ b).setCell ⟨x, 2, none⟩ c).cell? ⟨x, 0, none⟩ = some a ∧ (((w4.setCell ⟨x, 0, none⟩ a).setCell ⟨x, 1, none⟩ b).setCell ⟨x, 2, none⟩ c).cell? ⟨x, 1, none⟩ = some b ∧ (((w4.setCell ⟨x, 0, none⟩ a).setCell ⟨x, 1, none⟩ b).setCell ⟨x, 2, none⟩ c).cell? ⟨x, 2, none⟩ = some c ∧ RowKit.Hid (Rd (((w4.setCell ⟨x, 0, none⟩ a).setCell ⟨x, 1, none⟩ b).setCell ⟨x, 2, none⟩ c) g0 g p ∧ w.grownBy (((w4.setCell ⟨x, 0, none⟩ a).setCell ⟨x, 1, none⟩ b).setCell ⟨x, 2, none⟩ c) (some g)) := by
  have ne : ∀ (w : World) (i j : Nat) (v : Value), i ≠ j → (w.setCell ⟨x, i, none⟩ v).cell? ⟨x, j, none⟩ = w.cell? ⟨x, j, none⟩ := fun w i j v h => cell_setCell_ne w v (.inr h)
  obtain ⟨v0, h0⟩ := hq.ex (j := 0) (by omega)
  obtain ⟨v1, h1⟩ := hq.ex (j := 1) (by omega)
  obtain ⟨v2, h2⟩ := hq.ex (j := 2) (by omega)
  refine ⟨?_, ?_, ?_, ?_, ?_⟩
  · rw [ne _ 2 0 _ (by omega), ne _ 1 0 _ (by omega)]; exact cell_setCell_eq _ h0
  · rw [ne _ 2 1 _ (by omega)]; exact cell_setCell_eq _ ((ne _ 0 1 _ (by omega)).trans h1)
  · exact cell_setCell_eq _ (((ne _ 1 2 _ (by omega)).trans (ne _ 0 2 _ (by omega))).trans h2)
  · have hs := hg.size
    have hle := hR.le
    have st : ∀ (W : World) (j : Nat) (v : Value), Rd W g0 g p → Rd (W.setCell ⟨x, j, none⟩ v) g0 g p := fun W j v h => h.kept (grownBy_setCell_off W x j v) (fun r e => by injection e with e; subst e; exact ⟨by omega, by omega⟩) h.lt
    exact st _ _ _ (st _ _ _ (st _ _ _ hR))
  · exact grownBy_set_new (grownBy_set_new (grownBy_set_new hg hx _) hx _) hx _
set_option maxRecDepth 100000 in
set_option maxHeartbeats 2000000 in
theorem l9Keeper_any {g0 g p : Nat} {w : World} (hR : Rd w g0 g p) (hp : p ≤ 1000000) :
    Calls Try.prog 33 #[.pointer (some ⟨g, 0, none⟩)] w fun e w' => ∃ (q : List UInt8) (f t : Int) (p' : Nat), e = .returned (.agg #[.string ⟨q.toArray⟩, .int .i64 f, .int .i64 t]) ∧ p' ≤ p + 6 ∧ Rd w' g0 g p' ∧ w.grownBy w' (some g) := by
  have hlt := hR.lt
  have R0 : RowKit.Hid (∀ o, Rd (w.alloc o) g0 g p) := fun o => hR.alloc o
  have hsz : RowKit.Hid (∀ o, w.heap.size + 1 = (w.alloc o).heap.size) := fun o => (World.size_alloc ..).symm
  go_enter Try.func33, Try.ntmps33
  go_wp2_with fail
  refine (of_new (n := 3) [[111, 110, 101], [114, 101, 115, 116], [97, 108, 108]] _ (R0.out _) (by omega) (hsz.out _) rfl (by omega) (by omega)).mono ?_
  rintro e w1 ⟨q, rfl, h1⟩
  go_wp2_with fail
  refine (num_new (n := 5) [3, 1, 0, 2, 20] _ h1.out.1 (by omega) rfl rfl (by omega) (by omega)).mono ?_
  rintro e w2 ⟨f, rfl, _, h2⟩
  go_wp2_with fail
  refine (num_new (n := 5) [2, 3, 1, 5, 20] _ h2.out.1 (by omega) rfl rfl (by omega) (by omega)).mono ?_
  rintro e w3 ⟨t, rfl, _, h3⟩
  have z1 : w.heap.size + 1 ≤ w1.heap.size := by have := h1.out.2.size; rw [World.size_alloc] at this; exact this
  have z3 : w1.heap.size ≤ w3.heap.size := Nat.le_trans h2.out.2.size h3.out.2.size
  have hb0 : Reads w3 w.heap.size [.string ⟨#[]⟩, .int .i64 0, .int .i64 0] := (((reads_block (t := 24) (alloc_self w _)).grown h1.out.2 (by simp) (by omega)).grown h2.out.2 (by omega) (by omega)).grown h3.out.2 (by have := h2.out.2.size; omega) (by omega)
  have hg3 : w.grownBy w3 (some g) := (((World.grownBy_alloc w _ _).trans h1.out.2).trans h2.out.2).trans h3.out.2
  have hR3 : RowKit.Hid (∀ o, Rd (w3.alloc o) g0 g (p + 1 + 1 + 1)) := fun o => h3.out.1.alloc o
  clear h1 h2 h3 R0 hsz hR
  go_wp2_with fail
  refine (pick_new (hR3.out _) (by omega) (by omega)).mono ?_
  rintro e w4 ⟨x, rfl, _, h4⟩
  have hbx : Reads w4 w3.heap.size [.string ⟨q.toArray⟩, .int .i64 f, .int .i64 t] := (reads_block (t := 24) (alloc_self w3 _)).grown h4.out.2 (by simp) (by omega)
  have hb4 : Reads w4 w.heap.size [.string ⟨#[]⟩, .int .i64 0, .int .i64 0] := (hb0.alloc (by omega) _).grown h4.out.2 (by simp; omega) (by omega)
  have hg4 : w.grownBy w4 (some g) := (hg3.trans (World.grownBy_alloc w3 _ _)).trans h4.out.2
  have hR4 : Rd w4 g0 g (p + 1 + 1 + 1 + 1) := h4.out.1
  have z4 : w3.heap.size < w4.heap.size := by have := h4.out.2.size; rw [World.size_alloc] at this; omega
  have y0 := (hbx 0 (by simp)).1
  have y1 := (hbx 1 (by simp)).1
  have y2 := (hbx 2 (by simp)).1
  clear hb0 hg3 hR3 h4
  by_cases x0 : x = 0
  · subst x0
    go_wp2_with fail
    refine (of_new (n := 3) [[], [110, 111, 110, 101], [79, 78, 69]] _ hR4 (by omega) rfl rfl (by omega) (by omega)).mono ?_
    rintro e w5 ⟨q2, rfl, h5⟩
    have hbx5 := hbx.grown h5.out.2 (by omega) (by omega)
    have hb5 := hb4.grown h5.out.2 (by omega) (by omega)
    have hg5 := hg4.trans h5.out.2
    have y0 := (hbx5 0 (by simp)).1
    have y1 := (hbx5 1 (by simp)).1
    have y2 := (hbx5 2 (by simp)).1
    have yf := (hbx5 0 (by simp)).2
    have hR5 : Rd w5 g0 g _ := h5.out.1
    obtain ⟨hb6, hg6, hR6⟩ : Reads (w5.setCell ⟨w3.heap.size, 0, none⟩ (.string ⟨q2.toArray⟩)) w.heap.size [.string ⟨#[]⟩, .int .i64 0, .int .i64 0] ∧ w.grownBy (w5.setCell ⟨w3.heap.size, 0, none⟩ (.string ⟨q2.toArray⟩)) (some g) ∧ Rd (w5.setCell ⟨w3.heap.size, 0, none⟩ (.string ⟨q2.toArray⟩)) g0 g (p + 1 + 1 + 1 + 1 + 1) := by
      refine ⟨fun j hj => ?_, grownBy_set_new hg5 (by omega) _, hR5.kept (grownBy_setCell_off w5 w3.heap.size 0 _) (fun r e => ?_) hR5.lt⟩
      · rw [cell_setCell_ne _ _ (.inl (by omega)), frozen_setCell]; exact hb5 j hj
      · injection e with e; subst e; have := hR5.le; exact ⟨by omega, by omega⟩
    obtain ⟨t0, t1, t2⟩ : (w5.setCell ⟨w3.heap.size, 0, none⟩ (.string ⟨q2.toArray⟩)).cell? ⟨w.heap.size, 0, none⟩ = some (.string ⟨#[]⟩) ∧ (w5.setCell ⟨w3.heap.size, 0, none⟩ (.string ⟨q2.toArray⟩)).cell? ⟨w.heap.size, 1, none⟩ = some (.int .i64 0) ∧ (w5.setCell ⟨w3.heap.size, 0, none⟩ (.string ⟨q2.toArray⟩)).cell? ⟨w.heap.size, 2, none⟩ = some (.int .i64 0) := ⟨(hb6 0 (by simp)).1, (hb6 1 (by simp)).1, (hb6 2 (by simp)).1⟩
    have f0 := (hb5 0 (by simp)).2
    have f1 := (hb5 1 (by simp)).2
    have f2 := (hb5 2 (by simp)).2
    clear h5 hbx hb4 hg4 hR4
    go_wp2
    obtain ⟨s0, s1, s2, hfin⟩ := set3_fin (w := w) hb6 rfl (Nat.le_refl _) hg6 hR6 hlt (.string ⟨q2.toArray⟩) (.int .i64 f) (.int .i64 t)
    generalize ((((w5.setCell ⟨w3.heap.size, 0, none⟩ (.string ⟨q2.toArray⟩)).setCell ⟨w.heap.size, 0, none⟩ (.string ⟨q2.toArray⟩)).setCell ⟨w.heap.size, 1, none⟩ (.int .i64 f)).setCell ⟨w.heap.size, 2, none⟩ (.int .i64 t)) = Wf at *
    refine bodyPost_ret (v := .agg #[.string ⟨q2.toArray⟩, .int .i64 f, .int .i64 t]) (by simp [results, Try.results33, go_sem, s0, s1, s2]) rfl ?_
    refine ⟨_, _, _, _, rfl, ?_, hfin.out.1, hfin.out.2⟩
    omega
  have x0' : ((x : Int) == 0) = false := beq_eq_false_iff_ne.2 (by omega)
  by_cases x1 : x = 1
  · subst x1
    go_wp2_with fail
    refine (num_new (n := 2) [-1, 21] _ hR4 (by omega) rfl rfl (by omega) (by omega)).mono ?_
    rintro e w5 ⟨fz, rfl, _, h5⟩
    have hbx5 := hbx.grown h5.out.2 (by omega) (by omega)
    have hb5 := hb4.grown h5.out.2 (by omega) (by omega)
    have hg5 := hg4.trans h5.out.2
    have y0 := (hbx5 0 (by simp)).1
    have y1 := (hbx5 1 (by simp)).1
    have y2 := (hbx5 2 (by simp)).1
    have yf := (hbx5 1 (by simp)).2
    have hR5 : Rd w5 g0 g _ := h5.out.1
    obtain ⟨hb6, hg6, hR6⟩ : Reads (w5.setCell ⟨w3.heap.size, 1, none⟩ (.int .i64 fz)) w.heap.size [.string ⟨#[]⟩, .int .i64 0, .int .i64 0] ∧ w.grownBy (w5.setCell ⟨w3.heap.size, 1, none⟩ (.int .i64 fz)) (some g) ∧ Rd (w5.setCell ⟨w3.heap.size, 1, none⟩ (.int .i64 fz)) g0 g (p + 1 + 1 + 1 + 1 + 1) := by
      refine ⟨fun j hj => ?_, grownBy_set_new hg5 (by omega) _, hR5.kept (grownBy_setCell_off w5 w3.heap.size 1 _) (fun r e => ?_) hR5.lt⟩
      · rw [cell_setCell_ne _ _ (.inl (by omega)), frozen_setCell]; exact hb5 j hj
      · injection e with e; subst e; have := hR5.le; exact ⟨by omega, by omega⟩
    obtain ⟨t0, t1, t2⟩ : (w5.setCell ⟨w3.heap.size, 1, none⟩ (.int .i64 fz)).cell? ⟨w.heap.size, 0, none⟩ = some (.string ⟨#[]⟩) ∧ (w5.setCell ⟨w3.heap.size, 1, none⟩ (.int .i64 fz)).cell? ⟨w.heap.size, 1, none⟩ = some (.int .i64 0) ∧ (w5.setCell ⟨w3.heap.size, 1, none⟩ (.int .i64 fz)).cell? ⟨w.heap.size, 2, none⟩ = some (.int .i64 0) := ⟨(hb6 0 (by simp)).1, (hb6 1 (by simp)).1, (hb6 2 (by simp)).1⟩
    have f0 := (hb5 0 (by simp)).2
    have f1 := (hb5 1 (by simp)).2
    have f2 := (hb5 2 (by simp)).2
    clear h5 hbx hb4 hg4 hR4
    go_wp2
    obtain ⟨s0, s1, s2, hfin⟩ := set3_fin (w := w) hb6 rfl (Nat.le_refl _) hg6 hR6 hlt (.string ⟨q.toArray⟩) (.int .i64 fz) (.int .i64 t)
    generalize ((((w5.setCell ⟨w3.heap.size, 1, none⟩ (.int .i64 fz)).setCell ⟨w.heap.size, 0, none⟩ (.string ⟨q.toArray⟩)).setCell ⟨w.heap.size, 1, none⟩ (.int .i64 fz)).setCell ⟨w.heap.size, 2, none⟩ (.int .i64 t)) = Wf at *
    refine bodyPost_ret (v := .agg #[.string ⟨q.toArray⟩, .int .i64 fz, .int .i64 t]) (by simp [results, Try.results33, go_sem, s0, s1, s2]) rfl ?_
    refine ⟨_, _, _, _, rfl, ?_, hfin.out.1, hfin.out.2⟩
    omega
  have x1' : ((x : Int) == 1) = false := beq_eq_false_iff_ne.2 (by omega)
  by_cases x2 : x = 2
  · subst x2
    go_wp2_with fail
    refine (num_new (n := 3) [0, 21, -1] _ hR4 (by omega) rfl rfl (by omega) (by omega)).mono ?_
    rintro e w5 ⟨fz, rfl, _, h5⟩
    have hbx5 := hbx.grown h5.out.2 (by omega) (by omega)
    have hb5 := hb4.grown h5.out.2 (by omega) (by omega)
    have hg5 := hg4.trans h5.out.2
    have y0 := (hbx5 0 (by simp)).1
    have y1 := (hbx5 1 (by simp)).1
    have y2 := (hbx5 2 (by simp)).1
    have yf := (hbx5 2 (by simp)).2
    have hR5 : Rd w5 g0 g _ := h5.out.1
    obtain ⟨hb6, hg6, hR6⟩ : Reads (w5.setCell ⟨w3.heap.size, 2, none⟩ (.int .i64 fz)) w.heap.size [.string ⟨#[]⟩, .int .i64 0, .int .i64 0] ∧ w.grownBy (w5.setCell ⟨w3.heap.size, 2, none⟩ (.int .i64 fz)) (some g) ∧ Rd (w5.setCell ⟨w3.heap.size, 2, none⟩ (.int .i64 fz)) g0 g (p + 1 + 1 + 1 + 1 + 1) := by
      refine ⟨fun j hj => ?_, grownBy_set_new hg5 (by omega) _, hR5.kept (grownBy_setCell_off w5 w3.heap.size 2 _) (fun r e => ?_) hR5.lt⟩
      · rw [cell_setCell_ne _ _ (.inl (by omega)), frozen_setCell]; exact hb5 j hj
      · injection e with e; subst e; have := hR5.le; exact ⟨by omega, by omega⟩
    obtain ⟨t0, t1, t2⟩ : (w5.setCell ⟨w3.heap.size, 2, none⟩ (.int .i64 fz)).cell? ⟨w.heap.size, 0, none⟩ = some (.string ⟨#[]⟩) ∧ (w5.setCell ⟨w3.heap.size, 2, none⟩ (.int .i64 fz)).cell? ⟨w.heap.size, 1, none⟩ = some (.int .i64 0) ∧ (w5.setCell ⟨w3.heap.size, 2, none⟩ (.int .i64 fz)).cell? ⟨w.heap.size, 2, none⟩ = some (.int .i64 0) := ⟨(hb6 0 (by simp)).1, (hb6 1 (by simp)).1, (hb6 2 (by simp)).1⟩
    have f0 := (hb5 0 (by simp)).2
    have f1 := (hb5 1 (by simp)).2
    have f2 := (hb5 2 (by simp)).2
    clear h5 hbx hb4 hg4 hR4
    go_wp2
    obtain ⟨s0, s1, s2, hfin⟩ := set3_fin (w := w) hb6 rfl (Nat.le_refl _) hg6 hR6 hlt (.string ⟨q.toArray⟩) (.int .i64 f) (.int .i64 fz)
    generalize ((((w5.setCell ⟨w3.heap.size, 2, none⟩ (.int .i64 fz)).setCell ⟨w.heap.size, 0, none⟩ (.string ⟨q.toArray⟩)).setCell ⟨w.heap.size, 1, none⟩ (.int .i64 f)).setCell ⟨w.heap.size, 2, none⟩ (.int .i64 fz)) = Wf at *
    refine bodyPost_ret (v := .agg #[.string ⟨q.toArray⟩, .int .i64 f, .int .i64 fz]) (by simp [results, Try.results33, go_sem, s0, s1, s2]) rfl ?_
    refine ⟨_, _, _, _, rfl, ?_, hfin.out.1, hfin.out.2⟩
    omega
  have x2' : ((x : Int) == 2) = false := beq_eq_false_iff_ne.2 (by omega)
  obtain ⟨t0, t1, t2⟩ : w4.cell? ⟨w.heap.size, 0, none⟩ = some (.string ⟨#[]⟩) ∧ w4.cell? ⟨w.heap.size, 1, none⟩ = some (.int .i64 0) ∧ w4.cell? ⟨w.heap.size, 2, none⟩ = some (.int .i64 0) := ⟨(hb4 0 (by simp)).1, (hb4 1 (by simp)).1, (hb4 2 (by simp)).1⟩
  have f0 := (hb4 0 (by simp)).2
  have f1 := (hb4 1 (by simp)).2
  have f2 := (hb4 2 (by simp)).2
  go_wp2
  obtain ⟨s0, s1, s2, hfin⟩ := set3_fin (w := w) hb4 rfl (Nat.le_refl _) hg4 hR4 hlt (.string ⟨q.toArray⟩) (.int .i64 f) (.int .i64 t)
  generalize (((w4.setCell ⟨w.heap.size, 0, none⟩ (.string ⟨q.toArray⟩)).setCell ⟨w.heap.size, 1, none⟩ (.int .i64 f)).setCell ⟨w.heap.size, 2, none⟩ (.int .i64 t)) = Wf at *
  refine bodyPost_ret (v := .agg #[.string ⟨q.toArray⟩, .int .i64 f, .int .i64 t]) (by simp [results, Try.results33, go_sem, s0, s1, s2]) rfl ?_
  refine ⟨_, _, _, _, rfl, ?_, hfin.out.1, hfin.out.2⟩
  omega
end Go.Town.Kp
