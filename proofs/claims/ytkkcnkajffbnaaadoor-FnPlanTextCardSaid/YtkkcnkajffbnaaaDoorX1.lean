/-
  The reference's source of numbers: l11Open, pick, num, of.
-/
import Derived.Test.YtkkcnkajffbnaaaDoorV8
import Derived.BigQuiet
import Derived.Deep.QuietTactic
namespace Go.Proofs.YtkkcnkajffbnaaaDoor
open Go.RowKit

/-- The slice at a reads as the bytes bs. -/
def BytesAt (w : World) (a : Option Addr) (bs : List Int) : Prop :=
  bs = [] ∨ ∃ b off, a = some ⟨b, off, none⟩ ∧ b < w.heap.size ∧ ∀ i, i < bs.length → w.cell? ⟨b, off + i, none⟩ = some (.int .u8 (bs.getD i 0))
theorem BytesAt.at {w : World} {a : Option Addr} {zs : List Int} (h : BytesAt w a zs) {i : Nat} (hi : i < zs.length) : ∃ b off, a = some ⟨b, off, none⟩ ∧ b < w.heap.size ∧ w.cell? ⟨b, off + i, none⟩ = some (.int .u8 zs[i]) := by
  rcases h with rfl | ⟨b, off, rfl, hb, hc⟩
  · simp at hi
  · refine ⟨b, off, rfl, hb, ?_⟩
    rw [hc i hi]; simp [List.getD, hi]
theorem BytesAt.below {w w' : World} {a : Option Addr} {zs : List Int} (h : BytesAt w a zs) {B : Nat} (hw : Below B w w') (hB : w.heap.size ≤ B) : BytesAt w' a zs := by
  rcases h with rfl | ⟨b, off, rfl, hb, hc⟩
  · exact .inl rfl
  · exact .inr ⟨b, off, rfl, Nat.lt_of_lt_of_le hb hw.size, fun i hi => (hw.cell (by show b < B; omega)).trans (hc i hi)⟩
def InU8 (n : Int) : Prop := 0 ≤ n ∧ n ≤ 255

theorem grownBy_setCell_off (W : World) (b o : Nat) (v : Value) : W.grownBy (W.setCell ⟨b, o, none⟩ v) (some b) :=
  ⟨rfl, rfl, rfl, (KeepsWalks.setCell W _ v).size, fun k _ hk => Below.heap_setCell _ _ _ k (fun e => hk (by rw [e]))⟩

theorem bits_xor_i64_nat (a b : Nat) (ha : a < 9223372036854775808) (hb : b < 9223372036854775808) :
    bits .xor .i64 (a : Int) (b : Int) = ((a ^^^ b : Nat) : Int) := by
  have hx : a ^^^ b < 2 ^ 63 := Nat.xor_lt_two_pow (by omega) (by omega)
  have h1 : (BitVec.ofInt 64 (a : Int)).toNat = a := by
    rw [BitVec.ofInt_natCast, BitVec.toNat_ofNat]; exact Nat.mod_eq_of_lt (by omega)
  have h2 : (BitVec.ofInt 64 (b : Int)).toNat = b := by
    rw [BitVec.ofInt_natCast, BitVec.toNat_ofNat]; exact Nat.mod_eq_of_lt (by omega)
  show IntKind.i64.wrap ((BitVec.ofInt 64 (a : Int) ^^^ BitVec.ofInt 64 (b : Int)).toNat : Int) = _
  rw [BitVec.toNat_xor, h1, h2]
  simp only [IntKind.wrap, IntKind.bits, IntKind.signed]
  simp
  omega
theorem mix_nonneg {v : Int} (h0 : 0 ≤ v) (h1 : v < 9223372036854775808) : 0 ≤ bits .xor .i64 v (v / 64) := by
  obtain ⟨n, rfl⟩ := Int.eq_ofNat_of_zero_le h0
  rw [show ((n : Int) / 64) = ((n / 64 : Nat) : Int) by simp, bits_xor_i64_nat n (n / 64) (by omega) (by omega)]
  omega

theorem grownBy_drewN {w w' : World} {r : Option Nat} (h : w.grownBy w' r) (n : Nat) : w.grownBy (w'.drewN n) r := ⟨h.os, h.tape, h.output, h.size, h.block⟩
/-- A reader in block g: its bytes (below g0), and how many numbers it has told. -/
structure Rd (w : World) (g0 g : Nat) (p : Nat) : Prop where
  ex : ∃ (bs : List Int) (a : Option Addr) (c : Nat), w.heap[g]? = some (.cells #[.slice a bs.length c, .int .i64 p] 81 (0, 0)) ∧ bs.length ≤ 2000 ∧ (∀ b ∈ bs, InU8 b) ∧
    (bs = [] ∨ ∃ b off, a = some ⟨b, off, none⟩ ∧ b < g0 ∧ ∀ i, i < bs.length → w.cell? ⟨b, off + i, none⟩ = some (.int .u8 (bs.getD i 0)))
  le : g0 ≤ g

set_option maxRecDepth 100000 in
set_option maxHeartbeats 1000000 in
theorem pick_any (g0 g p : Nat) (n : Int) (w : World) (hR : Rd w g0 g p) (hp : p ≤ 1000000000) (hn : n ≤ 1000000000) :
    Calls Tryd.prog 45 #[.pointer (some ⟨g, 0, none⟩), .int .i64 n] w fun e w' => ∃ x : Int, e = .returned (.int .i64 x) ∧ 0 ≤ x ∧ (x < n ∨ x = 0) ∧ Rd w' g0 g (p + 1) ∧ w.grownBy w' (some g) := by
  obtain ⟨⟨bs, a, c, hg, hbl, hu8, hby⟩, hle⟩ := hR
  have c0 : w.cell? ⟨g, 0, none⟩ = some (.slice a bs.length c) := by rw [blk_cell hg]; rfl
  have c1 : w.cell? ⟨g, 1, none⟩ = some (.int .i64 p) := by rw [blk_cell hg]; rfl
  have f1 : w.frozen? ⟨g, 1, none⟩ = false := blk_frozen hg
  have hs := blk_set hg (o := 1) (.int .i64 (p + 1))
  have hs' : (w.setCell ⟨g, 1, none⟩ (.int .i64 (p + 1))).heap[g]? = some (.cells #[.slice a bs.length c, .int .i64 ((p + 1 : Nat) : Int)] 81 (0, 0)) := by rw [hs]; simp
  have hgr := grownBy_setCell_off w g 1 (.int .i64 (p + 1))
  have hR' : Rd (w.setCell ⟨g, 1, none⟩ (.int .i64 (p + 1))) g0 g (p + 1) := ⟨⟨bs, a, c, hs', hbl, hu8, by
    rcases hby with h | ⟨b, off, rfl, hb, hc⟩
    · exact .inl h
    · refine .inr ⟨b, off, rfl, hb, fun i hi => ?_⟩
      rw [← hc i hi]
      unfold World.cell?
      rw [Below.heap_setCell _ _ _ b (by simp; omega)]⟩, hle⟩
  by_cases h1 : n < 1
  · have h1' : decide (n < 1) = true := by simpa using h1
    go_enter Tryd.func45, Tryd.ntmps45
    go_wp2
    go_ret
    exact ⟨0, rfl, Int.le_refl _, .inr rfl, hR', hgr⟩
  · have h1' : decide (n < 1) = false := by simpa using h1
    by_cases h0 : bs.length = 0
    · have h0' : ((bs.length : Int) == 0) = true := by simpa using h0
      go_enter Tryd.func45, Tryd.ntmps45
      go_wp2
      go_ret
      exact ⟨0, rfl, Int.le_refl _, .inr rfl, hR', hgr⟩
    · have h0' : ((bs.length : Int) == 0) = false := beq_eq_false_iff_ne.2 (by omega)
      rcases hby with rfl | ⟨b, off, rfl, hb, hc⟩
      · simp at h0
      have hcell : ∀ i, i < bs.length → ∃ x : Int, InU8 x ∧ (w.setCell ⟨g, 1, none⟩ (.int .i64 (p + 1))).cell? ⟨b, off + i, none⟩ = some (.int .u8 x) := fun i hi => by
        refine ⟨bs.getD i 0, ?_, ?_⟩
        · have : bs.getD i 0 = bs[i] := by simp [List.getD, hi]
          rw [this]; exact hu8 _ (by simp)
        · rw [← hc i hi]
          unfold World.cell?
          rw [Below.heap_setCell _ _ _ b (by simp; omega)]
      by_cases hlt : p < bs.length
      · obtain ⟨x, hx, hcx⟩ := hcell p hlt
        clear hcell hc hs hg hu8
        obtain ⟨hx1, hx2⟩ := hx
        go_enter Tryd.func45, Tryd.ntmps45
        go_wp2
        go_ret
        exact ⟨x % n, rfl, Int.emod_nonneg _ (by omega), .inl (Int.emod_lt_of_pos _ (by omega)), hR', hgr⟩
      · have hge : ¬ (p : Int) < (bs.length : Int) := by omega
        obtain ⟨q1, hq1⟩ : ∃ q, q = p % bs.length := ⟨_, rfl⟩
        obtain ⟨q2, hq2⟩ : ∃ q, q = (p * 7 + 3) % bs.length := ⟨_, rfl⟩
        obtain ⟨q3, hq3⟩ : ∃ q, q = p / bs.length := ⟨_, rfl⟩
        have l1 : q1 < bs.length := hq1 ▸ Nat.mod_lt _ (by omega)
        have l2 : q2 < bs.length := hq2 ▸ Nat.mod_lt _ (by omega)
        have l3 : q3 ≤ p := hq3 ▸ Nat.div_le_self _ _
        have e1 : (p : Int) % (bs.length : Int) = (q1 : Int) := by rw [hq1]; rfl
        have e2 : ((p : Int) * 7 + 3) % (bs.length : Int) = (q2 : Int) := by rw [hq2]; rfl
        have e3 : (p : Int) / (bs.length : Int) = (q3 : Int) := by rw [hq3]; rfl
        obtain ⟨x, hx, hcx⟩ := hcell q1 l1
        obtain ⟨y, hy, hcy⟩ := hcell q2 l2
        clear hcell hc hs hg hu8 hq1 hq2 hq3
        obtain ⟨hx1, hx2⟩ := hx
        obtain ⟨hy1, hy2⟩ := hy
        go_enter Tryd.func45, Tryd.ntmps45
        go_wp2
        go_quiet (fail)
        go_wp2
        go_ret
        have hm := mix_nonneg (v := x * 131 + y * 1117 + p * 29 + q3 * 53) (by omega) (by omega)
        obtain ⟨bb, a, c, z1, z2, z3, z4⟩ := hR'.ex
        exact ⟨_, rfl, Int.tmod_nonneg _ hm, .inl (Int.tmod_lt_of_pos _ (by omega)), ⟨⟨bb, a, c, z1, z2, z3, z4⟩, hle⟩, grownBy_drewN hgr _⟩
end Go.Proofs.YtkkcnkajffbnaaaDoor
