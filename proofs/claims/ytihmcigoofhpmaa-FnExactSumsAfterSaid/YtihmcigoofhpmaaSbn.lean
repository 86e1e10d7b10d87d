/-
  The law FnExactSumsAfter, to the first call of SumsAfter.
  The law FnExactSumsAfter: the reference's sums, the copy of the tasks.
  The law FnExactSumsAfter: the copy of the tasks; the first call of SumsAfter, begun.
-/
import Derived.Test.YtihmcigoofhpmaaSbm
set_option linter.all false
namespace Go.Town.Kp
open Go Go.Conc Go.Conc.Lib Go.ConcR.Gen Go.RowKit Go.Town Go.Proofs
open Go.ConcN (upd upd_ne upd_same)
section
variable {C : Cfg} {b o Bd : Nat} {wl : World} {l : ByteArray} {f t n : Int} {J : List (List Int)} {tc : Nat} {ta : Option Addr}
theorem _root_.Go.Town.Lay.re' {C : Cfg} {w : World} (h : Lay C w) (T : Nat → Question → Nat) (d : Nat) : Lay C (w.re T d) := ⟨h.cut.re T d, h.no⟩
theorem enter6 : Frame.enter Try.prog 6 #[.agg #[.string l, .int .i64 f, .int .i64 t], .slice ta J.length tc, .int .i64 n] .normal = (base 6).at ⟨#[.agg #[.string l, .int .i64 f, .int .i64 t], .slice ta J.length tc, .int .i64 n, undef, undef, undef, undef, undef, undef, undef, undef, undef, undef, undef, undef, undef, undef, undef, undef, undef, undef, undef, undef, undef, undef, undef, undef, undef, undef, undef, undef, undef, undef, undef, undef, undef, undef, undef, undef, undef, undef, undef, undef, undef, undef, undef, undef, undef, undef, undef, undef, undef, undef, undef, undef, undef, undef, undef, undef, undef, undef, undef, undef, undef, undef, undef, undef, undef, undef, undef, undef, undef, undef, undef, undef, undef, undef, undef, undef, undef, undef, undef, undef, undef, undef, undef, undef, undef, undef, undef, undef, undef, undef, undef, undef, undef, undef, undef, undef, undef, undef, undef, undef, undef, undef, undef, undef, undef, undef, undef, undef, undef, undef, undef], []⟩ [.code body6] := by kernel_rfl
set_option maxRecDepth 100000 in
set_option maxHeartbeats 1000000 in
theorem law6_a (hL : Lay C wl) (hR : RowsAt wl ta J) (hl : l.size ≤ 9223372036854775807) (hn : J.length ≤ 9223372036854775807) (hm : ∀ l ∈ J, l.length ≤ 9223372036854775807)
    (next : ∀ (q : List UInt8) (_ : l = ⟨q.toArray⟩) (kb : Nat) (w : World) (z4 z5 z7 z8 z9 z10 z11 z12 z13 z14 z15 z16 z17 z18 z19 z20 z21 z22 z23 z24 z25 z26 z27 z28 z29 z30 z31 z32 z33 z34 z35 z36 z37 z38 z39 z40 z41 z42 z43 z44 z45 z46 z47 z48 z49 z50 z51 z52 z53 z54 z55 z56 z57 z58 z59 z60 z61 z62 z63 z64 z65 z66 z67 z68 z69 z70 z71 z72 z73 z74 z75 z76 z77 z78 z79 z80 z81 z82 z83 z84 z85 z86 z87 z88 z89 z90 z91 z92 z93 z94 z95 z96 z97 z98 z99 z100 z101 z102 z103 z104 z105 z106 z107 z108 z109 z110 z111 z112 z113 : Value), J.length ≤ 1048576 → (∀ l ∈ J, l.length ≤ 1048576) → Lay C w → Reads w kb [.string ⟨q.toArray⟩, .int .i64 f, .int .i64 t] → RowsIn kb w ta J → kb + 1 ≤ w.heap.size → Can Try.prog C b o (fun v _ => v = .bool true) 0 (AloneB Bd) w (G ((base 6).at ⟨#[.agg #[.string ⟨q.toArray⟩, .int .i64 f, .int .i64 t], .slice ta J.length tc, .int .i64 n, .pointer (some ⟨kb, 0, none⟩), z4, z5, .bool false, z7, z8, z9, z10, z11, z12, z13, z14, z15, z16, z17, z18, z19, z20, z21, z22, z23, z24, z25, z26, z27, z28, z29, z30, z31, z32, z33, z34, z35, z36, z37, z38, z39, z40, z41, z42, z43, z44, z45, z46, z47, z48, z49, z50, z51, z52, z53, z54, z55, z56, z57, z58, z59, z60, z61, z62, z63, z64, z65, z66, z67, z68, z69, z70, z71, z72, z73, z74, z75, z76, z77, z78, z79, z80, z81, z82, z83, z84, z85, z86, z87, z88, z89, z90, z91, z92, z93, z94, z95, z96, z97, z98, z99, z100, z101, z102, z103, z104, z105, z106, z107, z108, z109, z110, z111, z112, z113], []⟩ [.code (tailC 6 body6)]) [])) :
    Can Try.prog C b o (fun v _ => v = .bool true) 0 (AloneB Bd) wl (G ((base 6).at ⟨#[.agg #[.string l, .int .i64 f, .int .i64 t], .slice ta J.length tc, .int .i64 n, undef, undef, undef, undef, undef, undef, undef, undef, undef, undef, undef, undef, undef, undef, undef, undef, undef, undef, undef, undef, undef, undef, undef, undef, undef, undef, undef, undef, undef, undef, undef, undef, undef, undef, undef, undef, undef, undef, undef, undef, undef, undef, undef, undef, undef, undef, undef, undef, undef, undef, undef, undef, undef, undef, undef, undef, undef, undef, undef, undef, undef, undef, undef, undef, undef, undef, undef, undef, undef, undef, undef, undef, undef, undef, undef, undef, undef, undef, undef, undef, undef, undef, undef, undef, undef, undef, undef, undef, undef, undef, undef, undef, undef, undef, undef, undef, undef, undef, undef, undef, undef, undef, undef, undef, undef, undef, undef, undef, undef, undef, undef], []⟩ [.code body6]) []) := by
  have hS := steady_aloneB Bd
  have hpL := okProgL
  have hpT := okProgT
  have e0 : tailC 0 body6 = .seq (headC 0 body6) (tailC 1 body6) := by kernel_rfl
  have e1 : tailC 1 body6 = .seq (headC 1 body6) (tailC 2 body6) := by kernel_rfl
  have e2 : tailC 2 body6 = .seq (headC 2 body6) (tailC 3 body6) := by kernel_rfl
  have e3 : tailC 3 body6 = .seq (headC 3 body6) (tailC 4 body6) := by kernel_rfl
  have e4 : tailC 4 body6 = .seq (headC 4 body6) (tailC 5 body6) := by kernel_rfl
  have e5 : tailC 5 body6 = .seq (headC 5 body6) (tailC 6 body6) := by kernel_rfl
  rw [show body6 = tailC 0 body6 from rfl]
  rw [e0]
  refine Can.ctl hS hL rfl (fun _ => stepG_seq) ?_
  refine Can.code' hpL hS hL (okFr_at (by kernel_rfl) rfl rfl ⟨_, Try.func6⟩) ?_
  intro T d W hW B hB
  simp only [headC, body6, Try.f6, Option.getD_some]
  go_wp2
  have hB := hB.out
  subst hB
  intro hc
  have hW := hW.out
  subst hW
  obtain ⟨w₁, hw₁⟩ : ∃ w, w = (wl.re T d).alloc (.cells #[.string l, .int .i64 f, .int .i64 t] 39) := ⟨_, rfl⟩
  rw [← hw₁] at hc ⊢
  have hsz : (wl.re T d).heap.size = wl.heap.size := rfl
  have z₁ : w₁.heap.size = wl.heap.size + 1 := by rw [hw₁, World.size_alloc, hsz]
  have r₁ : Reads w₁ wl.heap.size [.string l, .int .i64 f, .int .i64 t] := reads_block (t := 39) (by rw [hw₁, ← hsz]; exact alloc_self (wl.re T d) _)
  have G₁ : Kin wl.heap.size wl w₁ := by rw [hw₁]; exact (((Grown.refl wl).re T d).alloc _).kin (Nat.le_refl _)
  simp only [hsz]
  clear hw₁ hsz
  have hL₁ : Lay C w₁ := ⟨hc, hL.no⟩
  have hR₁ : RowsAt w₁ ta J := hR.kept G₁.cells G₁.size
  clear hc
  rw [e1]
  refine Can.ctl hS hL₁ rfl (fun _ => stepG_seq) ?_
  refine Can.code' hpL hS hL₁ (okFr_at (by kernel_rfl) rfl rfl ⟨_, Try.func6⟩) ?_
  intro T d W hW B hB
  simp only [headC, body6, Try.f6, Option.getD_some]
  go_wp2
  have hB := hB.out
  subst hB
  intro hc
  have hW := hW.out
  subst hW
  refine Can.re ?_ T d
  clear hc hB hW
  replace z₁ : RowKit.Hid _ := z₁
  rw [e2]
  refine Can.ctl hS hL₁ rfl (fun _ => stepG_seq) ?_
  refine Can.code' hpL hS hL₁ (okFr_at (by kernel_rfl) rfl rfl ⟨_, Try.func6⟩) ?_
  intro T d W hW B hB
  have g0 : W.cell? ⟨wl.heap.size, 0, none⟩ = some (.string l) := by rw [hW.out]; exact (r₁ 0 (by simp)).1
  have g1 : W.cell? ⟨wl.heap.size, 1, none⟩ = some (.int .i64 f) := by rw [hW.out]; exact (r₁ 1 (by simp)).1
  have g2 : W.cell? ⟨wl.heap.size, 2, none⟩ = some (.int .i64 t) := by rw [hW.out]; exact (r₁ 2 (by simp)).1
  have c16 : RowKit.Hid (∀ w, Calls Try.prog 16 #[.agg #[.string l, .int .i64 f, .int .i64 t], .int .i64 1048576] w fun e w' => e = .returned (.int .i64 (if (1048576 : Int) < l.size then -1 else 1048576 - l.size)) ∧ Below w.heap.size w w') := fun w => szKeeper_any l _ _ 1048576 w hl (by omega) (by omega)
  simp only [headC, body6, Try.f6, Option.getD_some]
  by_cases hroom : (1048576 : Int) < (l.size : Int)
  · rw [if_pos hroom] at c16
    clear hroom
    go_wp2_with (go_at_call 16; (with_reducible refine (c16.out _).mono ?_); rintro e w' ⟨rfl, hbw⟩)
    have hB := hB.out
    subst hB
    intro hc
    have hL₂ : Lay C w' := ⟨hc, hL.no⟩
    clear hc g0 g1 g2 hbw
    rw [e3]
    refine Can.ctl hS hL₂ rfl (fun _ => stepG_seq) ?_
    refine Can.code' hpL hS hL₂ (okFr_at (by kernel_rfl) rfl rfl ⟨_, Try.func6⟩) ?_
    intro T d W hW B hB
    simp only [headC, body6, Try.f6, Option.getD_some]
    go_wp2
    have hB := hB.out
    subst hB
    intro hc todo
    have hW := hW.out
    subst hW
    exact end6 (hL₂.re' T d) rfl
  rw [if_neg hroom] at c16
  obtain ⟨room, hro⟩ : ∃ room : Int, room = 1048576 - (l.size : Int) := ⟨_, rfl⟩
  rw [← hro] at c16
  have hroom0 : 0 ≤ room := by omega
  have hroom1 : room ≤ 1048576 := by omega
  clear hro hroom
  go_wp2_with (go_at_call 16; (with_reducible refine (c16.out _).mono ?_); rintro e w' ⟨rfl, hbw⟩)
  have hB := hB.out
  subst hB
  intro hc
  have hW := hW.out
  subst hW
  have hL₂ : Lay C w' := ⟨hc, hL.no⟩
  have K₂ : Kin w₁.heap.size w₁ w' := bwre hbw
  have r₂ : Reads w' wl.heap.size [.string l, .int .i64 f, .int .i64 t] := r₁.kin K₂ (by have := z₁.out; omega)
  have G₂ : Kin wl.heap.size wl w' := G₁.trans (K₂.le (by have := z₁.out; omega))
  have hR₂ : RowsAt w' ta J := hR₁.kept K₂.cells K₂.size
  have hR₃ : RowsIn wl.heap.size w' ta J := hR.kept G₂.cells (Nat.le_refl _)
  have z₂ : RowKit.Hid (wl.heap.size + 1 ≤ w'.heap.size) := by have := z₁.out; have := K₂.size; show _ ≤ _; omega
  clear hc g0 g1 g2 hbw K₂ r₁ G₁ hR₁ z₁ hL₁ c16 hB hW
  rw [e3]
  refine Can.ctl hS hL₂ rfl (fun _ => stepG_seq) ?_
  refine Can.code' hpL hS hL₂ (okFr_at (by kernel_rfl) rfl rfl ⟨_, Try.func6⟩) ?_
  intro T d W hW B hB
  have hroom2 : ¬ (room < 0) := by omega
  simp only [headC, body6, Try.f6, Option.getD_some]
  go_wp2
  have hB := hB.out
  subst hB
  intro hc
  have hW := hW.out
  subst hW
  refine Can.re ?_ T d
  clear hc hB hW hroom2
  rw [e4]
  refine Can.ctl hS hL₂ rfl (fun _ => stepG_seq) ?_
  refine Can.code' hpL hS hL₂ (okFr_at (by kernel_rfl) rfl rfl ⟨_, Try.func6⟩) ?_
  intro T d W hW B hB
  have c17 : RowKit.Hid (Calls Try.prog 17 #[.slice ta J.length tc, .int .i64 room] W fun e w' => (∃ v : Int, e = .returned (.int .i64 v) ∧ RowKit.Hid (v < 0 ∨ 0 ≤ v ∧ v ≤ room ∧ (J.length : Int) ≤ room ∧ ∀ l ∈ J, (l.length : Int) ≤ room)) ∧ W = w') := szIntSS_any ta tc J room W hn hm hroom0 hroom1 (by rw [hW.out]; exact hR₂.re T d)
  simp only [headC, body6, Try.f6, Option.getD_some]
  go_wp2_with (go_at_call 17; (with_reducible refine c17.out.mono ?_); rintro e w₃ ⟨⟨v, rfl, hv⟩, rfl⟩)
  have hB := hB.out
  subst hB
  intro hc
  have hW := hW.out
  subst hW
  refine Can.re ?_ T d
  clear hc hB hW c17
  rw [e5]
  refine Can.ctl hS hL₂ rfl (fun _ => stepG_seq) ?_
  refine Can.code' hpL hS hL₂ (okFr_at (by kernel_rfl) rfl rfl ⟨_, Try.func6⟩) ?_
  intro T d W hW B hB
  simp only [headC, body6, Try.f6, Option.getD_some]
  by_cases hneg : v < 0
  · go_wp2
    have hB := hB.out
    subst hB
    intro hc todo
    have hW := hW.out
    subst hW
    exact end6 (hL₂.re' T d) rfl
  · have hv' := hv.out.resolve_left hneg
    obtain ⟨_, _, hJ, hJl⟩ := hv'
    have hJ' : RowKit.Hid (J.length ≤ 1048576) := by show _ ≤ _; omega
    have hJl' : RowKit.Hid (∀ l ∈ J, l.length ≤ 1048576) := fun l hl => by have := hJl l hl; omega
    clear hv hJ hJl hroom0 hroom1
    go_wp2
    have hB := hB.out
    subst hB
    intro hc
    have hW := hW.out
    subst hW
    refine Can.re ?_ T d
    clear hc hB hW hneg
    obtain ⟨q, rfl⟩ : ∃ q : List UInt8, l = ⟨q.toArray⟩ := ⟨l.data.toList, by simp⟩
    exact next q rfl _ _ _ _ _ _ _ _ _ _ _ _ _ _ _ _ _ _ _ _ _ _ _ _ _ _ _ _ _ _ _ _ _ _ _ _ _ _ _ _ _ _ _ _ _ _ _ _ _ _ _ _ _ _ _ _ _ _ _ _ _ _ _ _ _ _ _ _ _ _ _ _ _ _ _ _ _ _ _ _ _ _ _ _ _ _ _ _ _ _ _ _ _ _ _ _ _ _ _ _ _ _ _ _ _ _ _ _ _ _ _ hJ'.out hJl'.out hL₂ r₂ hR₃ z₂.out
end
end Go.Town.Kp
namespace Go.Town.Kp
open Go Go.Conc Go.Conc.Lib Go.ConcR.Gen Go.RowKit Go.Town Go.Proofs
open Go.ConcN (upd upd_ne upd_same)
def SpecR (q : List UInt8) (f t n : Int) (J : List (List Int)) (w : World) (v8 : Value) (g : Bool) : Prop :=
  ((vK q f t && vT J && vA n) = false ∧ g = false ∧ ∃ a, v8 = .slice (some a) 0 0) ∨
  ∃ (κ : Kr) (tn sa : Nat), q = κ.rule.text.data.toList ∧ f = (κ.bear : Nat) ∧ t = (κ.win : Nat) ∧ n = (tn : Nat) ∧ (vK q f t && vT J && vA n) = true ∧ g = true ∧ v8 = .slice (some ⟨sa, 0, none⟩) J.length J.length ∧ ∀ i, i < J.length → w.cell? ⟨sa, i, none⟩ = some (.int .i64 ((runT κ J tn 0 St.zero).1.sum i))
def SpecLow (v8 : Value) (B : Nat) : Prop := ∀ sa n c, v8 = .slice (some ⟨sa, 0, none⟩) n c → n = 0 ∨ sa < B
theorem SpecR.kin {q : List UInt8} {f t n : Int} {J : List (List Int)} {w w' : World} {v8 : Value} {g : Bool} {B : Nat} (h : SpecR q f t n J w v8 g) (k : Kin B w w') (hB : SpecLow v8 B) : SpecR q f t n J w' v8 g := by
  rcases h with h | ⟨κ, tn, sa, h1, h2, h3, h4, h5, h6, h7, h8⟩
  · exact .inl h
  · refine .inr ⟨κ, tn, sa, h1, h2, h3, h4, h5, h6, h7, fun i hi => ?_⟩
    rcases hB sa _ _ h7 with h | h
    · omega
    · exact k.cells _ _ _ h (h8 i hi)
theorem SpecR.low {q : List UInt8} {f t n : Int} {J : List (List Int)} {w : World} {v8 : Value} {g : Bool} (h : SpecR q f t n J w v8 g) : SpecLow v8 w.heap.size := by
  intro sb m c e
  rcases h with ⟨_, _, a, h⟩ | ⟨κ, tn, sa, _, _, _, _, _, _, h7, h8⟩
  · rw [h] at e; cases e; exact .inl rfl
  · rw [h7] at e; cases e
    by_cases h0 : J.length = 0
    · exact .inl h0
    · exact .inr (block_lt (h8 0 (by omega)))
section
variable {C : Cfg} {b o Bd kb : Nat} {wl : World} {q : List UInt8} {f t n : Int} {J : List (List Int)} {tc : Nat} {ta : Option Addr} {z4 z5 z7 z8 z9 z10 z11 z12 z13 z14 z15 z16 z17 z18 z19 z20 z21 z22 z23 z24 z25 z26 z27 z28 z29 z30 z31 z32 z33 z34 z35 z36 z37 z38 z39 z40 z41 z42 z43 z44 z45 z46 z47 z48 z49 z50 z51 z52 z53 z54 z55 z56 z57 z58 z59 z60 z61 z62 z63 z64 z65 z66 z67 z68 z69 z70 z71 z72 z73 z74 z75 z76 z77 z78 z79 z80 z81 z82 z83 z84 z85 z86 z87 z88 z89 z90 z91 z92 z93 z94 z95 z96 z97 z98 z99 z100 z101 z102 z103 z104 z105 z106 z107 z108 z109 z110 z111 z112 z113 : Value}
set_option maxRecDepth 100000 in
set_option maxHeartbeats 1000000 in
theorem law6_b (hn : J.length ≤ 1048576) (hm : ∀ l ∈ J, l.length ≤ 1048576) (hL : Lay C wl) (hk : Reads wl kb [.string ⟨q.toArray⟩, .int .i64 f, .int .i64 t]) (hR : RowsIn kb wl ta J) (hz : kb + 1 ≤ wl.heap.size)
    (next : ∀ (v8 : Value) (g : Bool) (w : World) (z4 z5 z7 z10 z11 z12 z13 z14 z15 z16 z17 z18 z19 z20 z21 z22 z23 z24 z25 z26 z27 z28 z29 z30 z31 z32 z33 z34 z35 z36 z37 z38 z39 z40 z41 z42 z43 z44 z45 z46 z47 z48 z49 z50 z51 z52 z53 z54 z55 z56 z57 z58 z59 z60 z61 z62 z63 z64 z65 z66 z67 z68 z69 z70 z71 z72 z73 z74 z75 z76 z77 z78 z79 z80 z81 z82 z83 z84 z85 z86 z87 z88 z89 z90 z91 z92 z93 z94 z95 z96 z97 z98 z99 z100 z101 z102 z103 z104 z105 z106 z107 z108 z109 z110 z111 z112 z113 : Value), Lay C w → Reads w kb [.string ⟨q.toArray⟩, .int .i64 f, .int .i64 t] → RowsIn kb w ta J → kb + 1 ≤ w.heap.size → SpecR q f t n J w v8 g → Can Try.prog C b o (fun v _ => v = .bool true) 0 (AloneB Bd) w (G ((base 6).at ⟨#[.agg #[.string ⟨q.toArray⟩, .int .i64 f, .int .i64 t], .slice ta J.length tc, .int .i64 n, .pointer (some ⟨kb, 0, none⟩), z4, z5, .bool false, z7, v8, .bool g, z10, z11, z12, z13, z14, z15, z16, z17, z18, z19, z20, z21, z22, z23, z24, z25, z26, z27, z28, z29, z30, z31, z32, z33, z34, z35, z36, z37, z38, z39, z40, z41, z42, z43, z44, z45, z46, z47, z48, z49, z50, z51, z52, z53, z54, z55, z56, z57, z58, z59, z60, z61, z62, z63, z64, z65, z66, z67, z68, z69, z70, z71, z72, z73, z74, z75, z76, z77, z78, z79, z80, z81, z82, z83, z84, z85, z86, z87, z88, z89, z90, z91, z92, z93, z94, z95, z96, z97, z98, z99, z100, z101, z102, z103, z104, z105, z106, z107, z108, z109, z110, z111, z112, z113], []⟩ [.code (tailC 7 body6)]) [])) :
    Can Try.prog C b o (fun v _ => v = .bool true) 0 (AloneB Bd) wl (G ((base 6).at ⟨#[.agg #[.string ⟨q.toArray⟩, .int .i64 f, .int .i64 t], .slice ta J.length tc, .int .i64 n, .pointer (some ⟨kb, 0, none⟩), z4, z5, .bool false, z7, z8, z9, z10, z11, z12, z13, z14, z15, z16, z17, z18, z19, z20, z21, z22, z23, z24, z25, z26, z27, z28, z29, z30, z31, z32, z33, z34, z35, z36, z37, z38, z39, z40, z41, z42, z43, z44, z45, z46, z47, z48, z49, z50, z51, z52, z53, z54, z55, z56, z57, z58, z59, z60, z61, z62, z63, z64, z65, z66, z67, z68, z69, z70, z71, z72, z73, z74, z75, z76, z77, z78, z79, z80, z81, z82, z83, z84, z85, z86, z87, z88, z89, z90, z91, z92, z93, z94, z95, z96, z97, z98, z99, z100, z101, z102, z103, z104, z105, z106, z107, z108, z109, z110, z111, z112, z113], []⟩ [.code (tailC 6 body6)]) []) := by
  have hS := steady_aloneB Bd
  have e6 : tailC 6 body6 = .seq (headC 6 body6) (tailC 7 body6) := by kernel_rfl
  rw [e6]
  refine Can.ctl hS hL rfl (fun _ => stepG_seq) ?_
  refine Can.code' okProgL hS hL (okFr_at (by kernel_rfl) rfl rfl ⟨_, Try.func6⟩) ?_
  intro T d W hW B hB
  have g0 : W.cell? ⟨kb, 0, none⟩ = some (.string ⟨q.toArray⟩) := by rw [hW.out]; exact (hk 0 (by simp)).1
  have g1 : W.cell? ⟨kb, 1, none⟩ = some (.int .i64 f) := by rw [hW.out]; exact (hk 1 (by simp)).1
  have g2 : W.cell? ⟨kb, 2, none⟩ = some (.int .i64 t) := by rw [hW.out]; exact (hk 2 (by simp)).1
  have hRW : RowsAt W ta J := by rw [hW.out]; exact RowsIn.re (hR.kept (B' := wl.heap.size) (fun _ _ _ _ hv => hv) (by omega)) T d
  have c18 : RowKit.Hid (∀ w, Calls Try.prog 18 #[.agg #[.string ⟨q.toArray⟩, .int .i64 f, .int .i64 t]] w fun e w' => e = .returned (.agg #[.string ⟨q.toArray⟩, .int .i64 f, .int .i64 t]) ∧ Below w.heap.size w w') := fun w => toKeeper_any ⟨q.toArray⟩ f t w
  have c19 : RowKit.Hid (∀ w', Below W.heap.size W w' → Calls Try.prog 19 #[.slice ta J.length tc] w' fun e w'' => e = .returned (.slice (some ⟨w'.heap.size, 0, none⟩) J.length J.length) ∧ RowsAt w'' (some ⟨w'.heap.size, 0, none⟩) J ∧ Below W.heap.size W w'') := fun w' hb => (toIntSS_any ta tc J w' hn hm (hRW.below hb (Nat.le_refl _))).mono fun e w'' ⟨he, hC, hB⟩ => ⟨he, hC.rows, hb.trans (hB.mono hb.size)⟩
  have c15 : RowKit.Hid (∀ w' a c, RowsAt w' a J → Calls Try.prog 15 #[.agg #[.string ⟨q.toArray⟩, .int .i64 f, .int .i64 t], .slice a J.length c, .int .i64 n] w' fun e w'' => ∃ v8 g, e = .returned (.tuple #[v8, .bool g]) ∧ Below w'.heap.size w' w'' ∧ RowKit.Hid (SpecR q f t n J w'' v8 g)) := fun w' a c h => (specSums_any hn hm h).mono fun e w'' ⟨hb, hs⟩ => by
    rcases hs with ⟨hvv, a, rfl⟩ | ⟨κ, tn, sa, h1, h2, h3, h4, h5, rfl, h7, h8⟩
    · exact ⟨_, _, rfl, hb, .inl ⟨hvv, rfl, a, rfl⟩⟩
    · exact ⟨_, _, rfl, hb, .inr ⟨κ, tn, sa, h1, h2, h3, h4, h5, rfl, rfl, fun i hi => (h7 i hi).1⟩⟩
  have fin : RowKit.Hid (∀ (v8 : Value) (g : Bool) w', Below W.heap.size W w' → SpecR q f t n J w' v8 g → Cut (hidOf C) (frzOf C) w' → ∀ z4 z5 z7 z10 z11 z12 z13 z14 z15 z16 z17 z18 z19 z20 z21 z22 z23 z24 z25 z26 z27 z28 z29 z30 z31 z32 z33 z34 z35 z36 z37 z38 z39 z40 z41 z42 z43 z44 z45 z46 z47 z48 z49 z50 z51 z52 z53 z54 z55 z56 z57 z58 z59 z60 z61 z62 z63 z64 z65 z66 z67 z68 z69 z70 z71 z72 z73 z74 z75 z76 z77 z78 z79 z80 z81 z82 z83 z84 z85 z86 z87 z88 z89 z90 z91 z92 z93 z94 z95 z96 z97 z98 z99 z100 z101 z102 z103 z104 z105 z106 z107 z108 z109 z110 z111 z112 z113 : Value, Can Try.prog C b o (fun v _ => v = .bool true) 0 (AloneB Bd) w' (G ((base 6).at ⟨#[.agg #[.string ⟨q.toArray⟩, .int .i64 f, .int .i64 t], .slice ta J.length tc, .int .i64 n, .pointer (some ⟨kb, 0, none⟩), z4, z5, .bool false, z7, v8, .bool g, z10, z11, z12, z13, z14, z15, z16, z17, z18, z19, z20, z21, z22, z23, z24, z25, z26, z27, z28, z29, z30, z31, z32, z33, z34, z35, z36, z37, z38, z39, z40, z41, z42, z43, z44, z45, z46, z47, z48, z49, z50, z51, z52, z53, z54, z55, z56, z57, z58, z59, z60, z61, z62, z63, z64, z65, z66, z67, z68, z69, z70, z71, z72, z73, z74, z75, z76, z77, z78, z79, z80, z81, z82, z83, z84, z85, z86, z87, z88, z89, z90, z91, z92, z93, z94, z95, z96, z97, z98, z99, z100, z101, z102, z103, z104, z105, z106, z107, z108, z109, z110, z111, z112, z113], []⟩ [.code (tailC 7 body6)]) [])) := by
    intro v8 g w' hb hs hc z4 z5 z7 z10 z11 z12 z13 z14 z15 z16 z17 z18 z19 z20 z21 z22 z23 z24 z25 z26 z27 z28 z29 z30 z31 z32 z33 z34 z35 z36 z37 z38 z39 z40 z41 z42 z43 z44 z45 z46 z47 z48 z49 z50 z51 z52 z53 z54 z55 z56 z57 z58 z59 z60 z61 z62 z63 z64 z65 z66 z67 z68 z69 z70 z71 z72 z73 z74 z75 z76 z77 z78 z79 z80 z81 z82 z83 z84 z85 z86 z87 z88 z89 z90 z91 z92 z93 z94 z95 z96 z97 z98 z99 z100 z101 z102 z103 z104 z105 z106 z107 z108 z109 z110 z111 z112 z113
    have hW := hW.out
    subst hW
    have K := bwre hb
    exact next v8 g w' _ _ _ _ _ _ _ _ _ _ _ _ _ _ _ _ _ _ _ _ _ _ _ _ _ _ _ _ _ _ _ _ _ _ _ _ _ _ _ _ _ _ _ _ _ _ _ _ _ _ _ _ _ _ _ _ _ _ _ _ _ _ _ _ _ _ _ _ _ _ _ _ _ _ _ _ _ _ _ _ _ _ _ _ _ _ _ _ _ _ _ _ _ _ _ _ _ _ _ _ _ _ _ _ _ _ _ ⟨hc, hL.no⟩ (hk.kin K (by omega)) (hR.kept (K.le (B' := kb) (by omega)).cells (Nat.le_refl _)) (Nat.le_trans hz K.size) hs
  clear next hk hR hRW hm hz
  replace hn : RowKit.Hid _ := hn
  simp only [headC, body6, Try.f6, Option.getD_some]
  go_wp2_with (go_at_call 18; (with_reducible refine (c18.out _).mono ?_); rintro e w' ⟨rfl, hb1⟩)
  refine (c19.out _ hb1).mono ?_
  rintro e w2 ⟨rfl, hR2, hb2⟩
  go_wp2_with (go_at_call 15; (with_reducible refine (c15.out _ _ _ hR2).mono ?_); rintro e w3 ⟨v8, g, rfl, hb3, hs⟩)
  have hB := hB.out
  subst hB
  intro hc
  exact fin.out v8 g w3 (hb2.trans (hb3.mono hb2.size)) hs.out hc _ _ _ _ _ _ _ _ _ _ _ _ _ _ _ _ _ _ _ _ _ _ _ _ _ _ _ _ _ _ _ _ _ _ _ _ _ _ _ _ _ _ _ _ _ _ _ _ _ _ _ _ _ _ _ _ _ _ _ _ _ _ _ _ _ _ _ _ _ _ _ _ _ _ _ _ _ _ _ _ _ _ _ _ _ _ _ _ _ _ _ _ _ _ _ _ _ _ _ _ _ _ _ _ _ _ _
end
end Go.Town.Kp
namespace Go.Town.Kp
open Go Go.Conc Go.Conc.Lib Go.ConcR.Gen Go.RowKit Go.Town Go.Proofs
open Go.ConcN (upd upd_ne upd_same)
section
variable {C : Cfg} {b o Bd kb : Nat} {wl : World} {q : List UInt8} {f t n : Int} {J : List (List Int)} {tc : Nat} {ta : Option Addr} {v8 : Value} {g : Bool}
set_option maxRecDepth 100000 in
set_option maxHeartbeats 1000000 in
theorem law6_c {z4 z5 z7 z10 z11 z12 z13 z14 z15 z16 z17 z18 z19 z20 z21 z22 z23 z24 z25 z26 z27 z28 z29 z30 z31 z32 z33 z34 z35 z36 z37 z38 z39 z40 z41 z42 z43 z44 z45 z46 z47 z48 z49 z50 z51 z52 z53 z54 z55 z56 z57 z58 z59 z60 z61 z62 z63 z64 z65 z66 z67 z68 z69 z70 z71 z72 z73 z74 z75 z76 z77 z78 z79 z80 z81 z82 z83 z84 z85 z86 z87 z88 z89 z90 z91 z92 z93 z94 z95 z96 z97 z98 z99 z100 z101 z102 z103 z104 z105 z106 z107 z108 z109 z110 z111 z112 z113 : Value} (hn : J.length ≤ 1048576) (hm : ∀ l ∈ J, l.length ≤ 1048576) (hL : Lay C wl) (hk : Reads wl kb [.string ⟨q.toArray⟩, .int .i64 f, .int .i64 t]) (hR : RowsIn kb wl ta J) (hz : kb + 1 ≤ wl.heap.size) (hs : SpecR q f t n J wl v8 g)
    (next : ∀ (b10 : Nat) (w : World) (z4 z5 z7 z11 z12 z13 z14 z15 z16 z17 z18 z19 z20 z21 z22 z23 z24 z25 z26 z27 z28 z29 z30 z31 z32 z33 z34 z35 z36 z37 z38 z39 z40 z41 z42 z43 z44 z45 z46 z47 z48 z49 z50 z51 z52 z53 z54 z55 z56 z57 z58 z59 z60 z61 z62 z63 z64 z65 z66 z67 z68 z69 z70 z71 z72 z73 z74 z75 z76 z77 z78 z79 z80 z81 z82 z83 z84 z85 z86 z87 z88 z89 z90 z91 z92 z93 z94 z95 z96 z97 z98 z99 z100 z101 z102 z103 z104 z105 z106 z107 z108 z109 z110 z111 z112 z113 : Value), Lay C w → Reads w kb [.string ⟨q.toArray⟩, .int .i64 f, .int .i64 t] → RowsIn kb w ta J → kb + 1 ≤ w.heap.size → SpecR q f t n J w v8 g → Copied b10 J J.length w → b10 < w.heap.size → kb < b10 → SpecLow v8 b10 → Can Try.prog C b o (fun v _ => v = .bool true) 0 (AloneB Bd) w (G ((base 6).at ⟨#[.agg #[.string ⟨q.toArray⟩, .int .i64 f, .int .i64 t], .slice ta J.length tc, .int .i64 n, .pointer (some ⟨kb, 0, none⟩), z4, z5, .bool false, z7, v8, .bool g, .slice (some ⟨b10, 0, none⟩) J.length J.length, z11, z12, z13, z14, z15, z16, z17, z18, z19, z20, z21, z22, z23, z24, z25, z26, z27, z28, z29, z30, z31, z32, z33, z34, z35, z36, z37, z38, z39, z40, z41, z42, z43, z44, z45, z46, z47, z48, z49, z50, z51, z52, z53, z54, z55, z56, z57, z58, z59, z60, z61, z62, z63, z64, z65, z66, z67, z68, z69, z70, z71, z72, z73, z74, z75, z76, z77, z78, z79, z80, z81, z82, z83, z84, z85, z86, z87, z88, z89, z90, z91, z92, z93, z94, z95, z96, z97, z98, z99, z100, z101, z102, z103, z104, z105, z106, z107, z108, z109, z110, z111, z112, z113], []⟩ [.code (tailC 8 body6)]) [])) :
    Can Try.prog C b o (fun v _ => v = .bool true) 0 (AloneB Bd) wl (G ((base 6).at ⟨#[.agg #[.string ⟨q.toArray⟩, .int .i64 f, .int .i64 t], .slice ta J.length tc, .int .i64 n, .pointer (some ⟨kb, 0, none⟩), z4, z5, .bool false, z7, v8, .bool g, z10, z11, z12, z13, z14, z15, z16, z17, z18, z19, z20, z21, z22, z23, z24, z25, z26, z27, z28, z29, z30, z31, z32, z33, z34, z35, z36, z37, z38, z39, z40, z41, z42, z43, z44, z45, z46, z47, z48, z49, z50, z51, z52, z53, z54, z55, z56, z57, z58, z59, z60, z61, z62, z63, z64, z65, z66, z67, z68, z69, z70, z71, z72, z73, z74, z75, z76, z77, z78, z79, z80, z81, z82, z83, z84, z85, z86, z87, z88, z89, z90, z91, z92, z93, z94, z95, z96, z97, z98, z99, z100, z101, z102, z103, z104, z105, z106, z107, z108, z109, z110, z111, z112, z113], []⟩ [.code (tailC 7 body6)]) []) := by
  have hS := steady_aloneB Bd
  have e7 : tailC 7 body6 = .seq (headC 7 body6) (tailC 8 body6) := by kernel_rfl
  rw [e7]
  refine Can.ctl hS hL rfl (fun _ => stepG_seq) ?_
  refine Can.code' okProgL hS hL (okFr_at (by kernel_rfl) rfl rfl ⟨_, Try.func6⟩) ?_
  intro T d W hW B hB
  have hRW : RowsAt W ta J := by rw [hW.out]; exact RowsIn.re (hR.kept (B' := wl.heap.size) (fun _ _ _ _ hv => hv) (by omega)) T d
  have c19 : RowKit.Hid (Calls Try.prog 19 #[.slice ta J.length tc] W fun e w'' => e = .returned (.slice (some ⟨W.heap.size, 0, none⟩) J.length J.length) ∧ Copied W.heap.size J J.length w'' ∧ Below W.heap.size W w'') := toIntSS_any ta tc J W hn hm hRW
  have fin : RowKit.Hid (∀ w', Below W.heap.size W w' → Copied W.heap.size J J.length w' → Cut (hidOf C) (frzOf C) w' → ∀ z4 z5 z7 z11 z12 z13 z14 z15 z16 z17 z18 z19 z20 z21 z22 z23 z24 z25 z26 z27 z28 z29 z30 z31 z32 z33 z34 z35 z36 z37 z38 z39 z40 z41 z42 z43 z44 z45 z46 z47 z48 z49 z50 z51 z52 z53 z54 z55 z56 z57 z58 z59 z60 z61 z62 z63 z64 z65 z66 z67 z68 z69 z70 z71 z72 z73 z74 z75 z76 z77 z78 z79 z80 z81 z82 z83 z84 z85 z86 z87 z88 z89 z90 z91 z92 z93 z94 z95 z96 z97 z98 z99 z100 z101 z102 z103 z104 z105 z106 z107 z108 z109 z110 z111 z112 z113 : Value, Can Try.prog C b o (fun v _ => v = .bool true) 0 (AloneB Bd) w' (G ((base 6).at ⟨#[.agg #[.string ⟨q.toArray⟩, .int .i64 f, .int .i64 t], .slice ta J.length tc, .int .i64 n, .pointer (some ⟨kb, 0, none⟩), z4, z5, .bool false, z7, v8, .bool g, .slice (some ⟨W.heap.size, 0, none⟩) J.length J.length, z11, z12, z13, z14, z15, z16, z17, z18, z19, z20, z21, z22, z23, z24, z25, z26, z27, z28, z29, z30, z31, z32, z33, z34, z35, z36, z37, z38, z39, z40, z41, z42, z43, z44, z45, z46, z47, z48, z49, z50, z51, z52, z53, z54, z55, z56, z57, z58, z59, z60, z61, z62, z63, z64, z65, z66, z67, z68, z69, z70, z71, z72, z73, z74, z75, z76, z77, z78, z79, z80, z81, z82, z83, z84, z85, z86, z87, z88, z89, z90, z91, z92, z93, z94, z95, z96, z97, z98, z99, z100, z101, z102, z103, z104, z105, z106, z107, z108, z109, z110, z111, z112, z113], []⟩ [.code (tailC 8 body6)]) [])) := by
    intro w' hb hC hc z4 z5 z7 z11 z12 z13 z14 z15 z16 z17 z18 z19 z20 z21 z22 z23 z24 z25 z26 z27 z28 z29 z30 z31 z32 z33 z34 z35 z36 z37 z38 z39 z40 z41 z42 z43 z44 z45 z46 z47 z48 z49 z50 z51 z52 z53 z54 z55 z56 z57 z58 z59 z60 z61 z62 z63 z64 z65 z66 z67 z68 z69 z70 z71 z72 z73 z74 z75 z76 z77 z78 z79 z80 z81 z82 z83 z84 z85 z86 z87 z88 z89 z90 z91 z92 z93 z94 z95 z96 z97 z98 z99 z100 z101 z102 z103 z104 z105 z106 z107 z108 z109 z110 z111 z112 z113
    have hW := hW.out
    subst hW
    have K := bwre hb
    have hlt : wl.heap.size < w'.heap.size := by
      obtain ⟨cs, h1, _⟩ := hC.outer
      exact (Array.getElem?_eq_some_iff.1 h1).1
    exact next wl.heap.size w' _ _ _ _ _ _ _ _ _ _ _ _ _ _ _ _ _ _ _ _ _ _ _ _ _ _ _ _ _ _ _ _ _ _ _ _ _ _ _ _ _ _ _ _ _ _ _ _ _ _ _ _ _ _ _ _ _ _ _ _ _ _ _ _ _ _ _ _ _ _ _ _ _ _ _ _ _ _ _ _ _ _ _ _ _ _ _ _ _ _ _ _ _ _ _ _ _ _ _ _ _ _ _ _ _ _ ⟨hc, hL.no⟩ (hk.kin K (by omega)) (hR.kept (K.le (B' := kb) (by omega)).cells (Nat.le_refl _)) (Nat.le_trans hz K.size) (hs.kin K hs.low) hC hlt (by omega) hs.low
  clear next hk hR hRW hm hz hs
  replace hn : RowKit.Hid _ := hn
  simp only [headC, body6, Try.f6, Option.getD_some]
  go_wp2_with (go_at_call 19; (with_reducible refine c19.out.mono ?_); rintro e w' ⟨rfl, hC, hb1⟩)
  have hB := hB.out
  subst hB
  intro hc
  exact fin.out w' hb1 hC hc _ _ _ _ _ _ _ _ _ _ _ _ _ _ _ _ _ _ _ _ _ _ _ _ _ _ _ _ _ _ _ _ _ _ _ _ _ _ _ _ _ _ _ _ _ _ _ _ _ _ _ _ _ _ _ _ _ _ _ _ _ _ _ _ _ _ _ _ _ _ _ _ _ _ _ _ _ _ _ _ _ _ _ _ _ _ _ _ _ _ _ _ _ _ _ _ _ _ _ _ _ _ _ _ _ _
noncomputable def ops6 : Array Oper := match headC 8 body6 with | .region _ o _ => o | _ => #[]
theorem head8 : headC 8 body6 = .region 10 ops6 false := by kernel_rfl
def ImplR (q : List UInt8) (f t n : Int) (J : List (List Int)) (w : World) (B : Nat) (v : Value) (g : Bool) : Prop :=
  ((vK q f t && vT J && vA n) = false ∧ g = false ∧ v = .slice none 0 0) ∨
  ∃ (κ : Kr) (tn sa : Nat), q = κ.rule.text.data.toList ∧ f = (κ.bear : Nat) ∧ t = (κ.win : Nat) ∧ n = (tn : Nat) ∧ (vK q f t && vT J && vA n) = true ∧ g = true ∧ v = .slice (some ⟨sa, 0, none⟩) J.length J.length ∧ B ≤ sa ∧ ∀ i, i < J.length → w.cell? ⟨sa, i, none⟩ = some (.int .i64 ((runT κ J tn 0 St.zero).1.sum i)) ∧ w.frozen? ⟨sa, i, none⟩ = false
set_option maxRecDepth 100000 in
set_option maxHeartbeats 1000000 in
theorem call14 {b₀ : Frame} {a₀ : Act} {ops₀ : Array Oper} {i₀ : Nat} {rest₀ : List Nat} {k₀ : List Item} {cs : List Frame} {ta' : Option Addr} {tc' : Nat} {Post : Value → World → Prop} (hn : J.length ≤ 1048576) (hm : ∀ l ∈ J, l.length ≤ 1048576) (hBd : Bd < 2000000000) (hL : Lay C wl) (hR : RowsAt wl ta' J)
    (h : ∀ C' b' o' v gi wl', Lay C' wl' → Kin wl.heap.size wl wl' → ImplR q f t n J wl' wl.heap.size v gi → Can Try.prog C' b' o' Post 0 (AloneB (Bd + 400)) wl' (G (b₀.at (a₀.put ((ops₀[i₀]?).bind (·.dst)) (.tuple #[v, .bool gi])) (.inRegion ops₀ rest₀ :: k₀)) cs)) :
    Can Try.prog C b o Post 0 (AloneB Bd) wl (G (Frame.enter Try.prog 14 #[.agg #[.string ⟨q.toArray⟩, .int .i64 f, .int .i64 t], .slice ta' J.length tc', .int .i64 n] .normal) (b₀.at a₀ (.inRegion ops₀ (i₀ :: rest₀) :: k₀) :: cs)) := by
  have e : Frame.enter Try.prog 14 #[.agg #[.string ⟨q.toArray⟩, .int .i64 f, .int .i64 t], .slice ta' J.length tc', .int .i64 n] .normal = (base 14).at ⟨#[.agg #[.string ⟨q.toArray⟩, .int .i64 f, .int .i64 t], .slice ta' J.length tc', .int .i64 n] ++ Array.replicate 26 undef, []⟩ [.code body14] := by kernel_rfl
  rw [e]
  refine sumsAfter okProgT hn hm hBd hL hR (fun hbad wl' hL' hK => ?_) (fun κ h1 h2 h3 hb hw0 hw h4 tn h5 htn C' b₁ sa st wl' hL' hK h6 _ _ h7 => ?_)
  · exact Can.mono (h C b o _ false wl' hL' hK (.inl ⟨hbad, rfl, rfl⟩)) (AloneB.mono (by omega))
  · have hv : (vK q f t && vT J && vA n) = true := by
      have a1 : vK q f t = true := vK_true (by omega) (by omega) (by omega) (by omega) (by rw [h1]; cases κ.rule <;> simp [Rule.text])
      have a3 : vA n = true := by unfold vA; simp only [Bool.and_eq_true, decide_eq_true_eq]; omega
      rw [a1, h4, a3]; rfl
    exact h C' b₁ 5 _ true wl' hL' hK (.inr ⟨κ, tn, sa, h1, h2, h3, h5, hv, rfl, rfl, h6, h7⟩)
end
end Go.Town.Kp
