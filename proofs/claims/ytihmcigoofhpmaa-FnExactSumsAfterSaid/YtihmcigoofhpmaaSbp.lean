/-
  The law FnExactSumsAfter: the second call.
  The law FnExactSumsAfter: the end.
  The law FnExactSumsAfter: the whole walk.
  The row FnExactSumsAfter.
-/
import Derived.Conc.LeavingOf
import Derived.ChangeShapes
import Derived.ChangeSlices
import Derived.WideShapes
import Derived.ChangeMaps5
import Derived.ChangeArms
import Derived.Test.YtihmcigoofhpmaaSbo
set_option linter.all false
namespace Go.Town.Kp
open Go Go.Conc Go.Conc.Lib Go.ConcR.Gen Go.RowKit Go.Town Go.Proofs
open Go.ConcN (upd upd_ne upd_same)
def Det (q : List UInt8) (f t n : Int) (J : List (List Int)) (g : Bool) (R : List Int) : Prop :=
  ((vK q f t && vT J && vA n) = false ∧ g = false ∧ R = []) ∨
  ∃ (κ : Kr) (tn : Nat), q = κ.rule.text.data.toList ∧ f = (κ.bear : Nat) ∧ t = (κ.win : Nat) ∧ n = (tn : Nat) ∧ (vK q f t && vT J && vA n) = true ∧ g = true ∧ R = (List.range J.length).map fun i => (runT κ J tn 0 St.zero).1.sum i
theorem agree2 {q : List UInt8} {f t n : Int} {J : List (List Int)} {w : World} {B : Nat} {v : Value} {g gi : Bool} {R : List Int} (h : Det q f t n J g R) (k : ImplR q f t n J w B v gi) :
    ∃ (a : Option Addr) (c : Nat), v = .slice a R.length c ∧ gi = g ∧ IntsAt w a R := by
  rcases h with ⟨h1, rfl, rfl⟩ | ⟨κ, tn, h1, h2, h3, h4, h5, rfl, rfl⟩
  · rcases k with ⟨_, rfl, rfl⟩ | ⟨κ', tn', sa', k1, k2, k3, k4, k5, rfl, rfl, k8, k9⟩
    · exact ⟨none, 0, rfl, rfl, .inl rfl⟩
    · rw [k5] at h1; cases h1
  · rcases k with ⟨k1, rfl, rfl⟩ | ⟨κ', tn', sa', k1, k2, k3, k4, k5, rfl, rfl, k8, k9⟩
    · rw [k1] at h5; cases h5
    · have e1 : κ' = κ := by
        obtain ⟨r, be, wi⟩ := κ; obtain ⟨r', be', wi'⟩ := κ'
        have := text_inj (k1.symm.trans h1)
        simp only at this h2 h3 k2 k3
        subst this
        have : be' = be := by omega
        have : wi' = wi := by omega
        simp_all
      have e2 : tn' = tn := by omega
      subst e1 e2
      refine ⟨some ⟨sa', 0, none⟩, J.length, by simp, rfl, ?_⟩
      by_cases h0 : J.length = 0
      · exact .inl (by simp [h0])
      · exact .inr ⟨sa', 0, rfl, block_lt (k9 0 (by omega)).1, fun i hi => by
          simp only [List.length_map, List.length_range] at hi
          rw [Nat.zero_add, (k9 i hi).1]; simp [List.getD, hi]⟩
noncomputable def ops6b : Array Oper := match headC 20 body6 with | .region _ o _ => o | _ => #[]
theorem head20 : headC 20 body6 = .region 27 ops6b false := by kernel_rfl
theorem count_kin {m : Nat} {i : Int} {w w' : World} {a : Option Addr} (h : CountS w a i m) (K : Kin w.heap.size w w') : CountS w' a i m := by
  rcases h with h | ⟨x, rfl, hf⟩
  · exact .inl h
  · exact .inr ⟨x, rfl, fun j hj => K.cells _ _ _ (block_lt (hf j hj)) (hf j hj)⟩
section
variable {C : Cfg} {b o Bd kb : Nat} {wl : World} {q : List UInt8} {f t n : Int} {J : List (List Int)} {tc : Nat} {ta : Option Addr} {g : Bool} {b10 : Nat} {R : List Int} {a8 a11 : Option Addr} {c8 c11 : Nat} {v : Int}
set_option maxRecDepth 100000 in
set_option maxHeartbeats 2000000 in
theorem law6_g {z4 z5 z7 z16 z17 z18 z19 z20 z21 z22 z23 z24 z25 z26 z27 z28 z29 z30 z31 z32 z33 z34 z35 z36 z37 z38 z39 z40 z41 z42 z43 z44 z45 z46 z47 z48 z49 z50 z51 z52 z53 z54 z55 z56 z57 z58 z59 z60 z61 z62 z63 z64 z65 z66 z67 z68 z69 z70 z71 z72 z73 z74 z75 z76 z77 z78 z79 z80 z81 z82 z83 z84 z85 z86 z87 z88 z89 z90 z91 z92 z93 z94 z95 z96 z97 z98 z99 z100 z101 z102 z103 z104 z105 z106 z107 z108 z109 z110 z111 z112 z113 : Value} (hn : J.length ≤ 1048576) (hm : ∀ l ∈ J, l.length ≤ 1048576) (hBd : Bd < 2000000000) (hD : Det q f t n J g R) (hL : Lay C wl) (hk : Reads wl kb [.string ⟨q.toArray⟩, .int .i64 f, .int .i64 t]) (hR : RowsIn kb wl ta J) (hz : kb + 1 ≤ wl.heap.size)
    (h8 : IntsAt wl a8 R) (hct : CountS wl a11 1 R.length)
    (next : ∀ (C' : Cfg) (b' o' : Nat) (a16 : Option Addr) (c16 : Nat) (w : World) (z4 z5 z7 z18 z19 z20 z21 z22 z23 z24 z25 z26 z27 z28 z29 z30 z31 z32 z33 z34 z35 z36 z37 z38 z39 z40 z41 z42 z43 z44 z45 z46 z47 z48 z49 z50 z51 z52 z53 z54 z55 z56 z57 z58 z59 z60 z61 z62 z63 z64 z65 z66 z67 z68 z69 z70 z71 z72 z73 z74 z75 z76 z77 z78 z79 z80 z81 z82 z83 z84 z85 z86 z87 z88 z89 z90 z91 z92 z93 z94 z95 z96 z97 z98 z99 z100 z101 z102 z103 z104 z105 z106 z107 z108 z109 z110 z111 z112 z113 : Value), Lay C' w → IntsAt w a8 R → IntsAt w a16 R → CountS w a11 1 R.length → Can Try.prog C' b' o' (fun v _ => v = .bool true) 0 (AloneB (Bd + 400)) w (G ((base 6).at ⟨#[.agg #[.string ⟨q.toArray⟩, .int .i64 f, .int .i64 t], .slice ta J.length tc, .int .i64 n, .pointer (some ⟨kb, 0, none⟩), z4, z5, .bool false, z7, .slice a8 R.length c8, .bool g, .slice (some ⟨b10, 0, none⟩) J.length J.length, .slice a11 R.length c11, .bool g, .int .i64 v, .int .i64 (1 + (R.length : Nat)), .int .i64 (1 + (R.length : Nat)), .slice a16 R.length c16, .bool g, z18, z19, z20, z21, z22, z23, z24, z25, z26, z27, z28, z29, z30, z31, z32, z33, z34, z35, z36, z37, z38, z39, z40, z41, z42, z43, z44, z45, z46, z47, z48, z49, z50, z51, z52, z53, z54, z55, z56, z57, z58, z59, z60, z61, z62, z63, z64, z65, z66, z67, z68, z69, z70, z71, z72, z73, z74, z75, z76, z77, z78, z79, z80, z81, z82, z83, z84, z85, z86, z87, z88, z89, z90, z91, z92, z93, z94, z95, z96, z97, z98, z99, z100, z101, z102, z103, z104, z105, z106, z107, z108, z109, z110, z111, z112, z113], []⟩ [.code (tailC 21 body6)]) [])) :
    Can Try.prog C b o (fun v _ => v = .bool true) 0 (AloneB Bd) wl (G ((base 6).at ⟨#[.agg #[.string ⟨q.toArray⟩, .int .i64 f, .int .i64 t], .slice ta J.length tc, .int .i64 n, .pointer (some ⟨kb, 0, none⟩), z4, z5, .bool false, z7, .slice a8 R.length c8, .bool g, .slice (some ⟨b10, 0, none⟩) J.length J.length, .slice a11 R.length c11, .bool g, .int .i64 v, .int .i64 (1 + (R.length : Nat)), .int .i64 (1 + (R.length : Nat)), z16, z17, z18, z19, z20, z21, z22, z23, z24, z25, z26, z27, z28, z29, z30, z31, z32, z33, z34, z35, z36, z37, z38, z39, z40, z41, z42, z43, z44, z45, z46, z47, z48, z49, z50, z51, z52, z53, z54, z55, z56, z57, z58, z59, z60, z61, z62, z63, z64, z65, z66, z67, z68, z69, z70, z71, z72, z73, z74, z75, z76, z77, z78, z79, z80, z81, z82, z83, z84, z85, z86, z87, z88, z89, z90, z91, z92, z93, z94, z95, z96, z97, z98, z99, z100, z101, z102, z103, z104, z105, z106, z107, z108, z109, z110, z111, z112, z113], []⟩ [.code (tailC 20 body6)]) []) := by
  have hS := steady_aloneB Bd
  have e20 : tailC 20 body6 = .seq (headC 20 body6) (tailC 21 body6) := by kernel_rfl
  rw [e20]
  refine Can.ctl hS hL rfl (fun _ => stepG_seq) ?_
  rw [head20]
  generalize hK : [Item.code (tailC 21 body6)] = K₁
  simp only [ops6b, headC, body6, Try.f6, Option.getD_some]
  refine Can.ctl hS hL rfl (fun _ => stepG_region) ?_; simp only [List.size_toArray, List.length_cons, List.length_nil, Nat.reduceAdd, Nat.zero_add, List.range, List.range.loop]
  refine Can.op (ok := okL) hS hL rfl rfl (by k_ne) (by kernel_rfl) (fun T d => ⟨.agg #[.string ⟨q.toArray⟩, .int .i64 f, .int .i64 t], wl.re T d, ?_, fun _ => Can.re ?_ T d⟩)
  · have g0 : (wl.re T d).cell? ⟨kb, 0, none⟩ = some (.string ⟨q.toArray⟩) := (hk 0 (by simp)).1
    have g1 : (wl.re T d).cell? ⟨kb, 1, none⟩ = some (.int .i64 f) := (hk 1 (by simp)).1
    have g2 : (wl.re T d).cell? ⟨kb, 2, none⟩ = some (.int .i64 t) := (hk 2 (by simp)).1
    go_simp
  walk_nrm
  refine Can.ctl hS hL rfl (fun _ => st_enter' (vs := #[.agg #[.string ⟨q.toArray⟩, .int .i64 f, .int .i64 t]]) rfl rfl (by k_ne) rfl Try.func18 rfl rfl (by kernel_rfl)) ?_
  refine Can.call okProgL hS hL (by kernel_rfl) (by kernel_rfl) (fun T d => (toKeeper_any ⟨q.toArray⟩ f t (wl.re T d)).mono ?_)
  rintro e w₀ ⟨rfl, hb0⟩
  refine ⟨_, rfl, fun hc => ?_⟩
  have K0 : Kin wl.heap.size wl w₀ := bwre hb0
  replace hR := hR.kept (K0.le (B' := kb) (by omega)).cells (Nat.le_refl _)
  replace h8 : IntsAt w₀ a8 R := h8.kept K0.cells K0.size
  replace hct := count_kin hct K0
  have hL0 : Lay C w₀ := ⟨hc, hL.no⟩
  have hz0 := K0.size
  clear hb0 K0 hL hc hk
  rw [Frame.finish_at]
  walk_nrm
  refine Can.op (ok := okL) hS hL0 rfl rfl (by k_ne) (by kernel_rfl) (fun T d => ⟨.slice ta J.length tc, w₀.re T d, ?_, fun _ => Can.re ?_ T d⟩)
  · go_simp
  walk_nrm
  refine Can.ctl hS hL0 rfl (fun _ => st_enter' (vs := #[.slice ta J.length tc]) rfl rfl (by k_ne) rfl Try.func19 rfl rfl (by kernel_rfl)) ?_
  refine Can.call okProgL hS hL0 (by kernel_rfl) (by kernel_rfl) (fun T d => (toIntSS_any ta tc J (w₀.re T d) hn hm (RowsIn.re (hR.kept (B' := w₀.heap.size) (fun _ _ _ _ hv => hv) (by omega)) T d)).mono ?_)
  rintro e w₁ ⟨rfl, hC1, hb1⟩
  refine ⟨_, rfl, fun hc => ?_⟩
  have K1 : Kin w₀.heap.size w₀ w₁ := bwre hb1
  replace h8 : IntsAt w₁ a8 R := h8.kept K1.cells K1.size
  replace hct := count_kin hct K1
  have hL1 : Lay C w₁ := ⟨hc, hL0.no⟩
  have hr1 := hC1.rows
  clear hb1 K1 hL0 hc hC1
  rw [Frame.finish_at]
  walk_nrm
  refine Can.op (ok := okL) hS hL1 rfl rfl (by k_ne) (by kernel_rfl) (fun T d => ⟨.int .i64 n, w₁.re T d, ?_, fun _ => Can.re ?_ T d⟩)
  · go_simp
  walk_nrm
  refine Can.ctl hS hL1 rfl (fun _ => st_enter' (vs := #[.agg #[.string ⟨q.toArray⟩, .int .i64 f, .int .i64 t], .slice (some ⟨w₀.heap.size, 0, none⟩) J.length J.length, .int .i64 n]) rfl rfl (by k_ne) rfl Try.func14 rfl rfl (by kernel_rfl)) ?_
  refine call14 hn hm hBd hL1 hr1 ?_
  intro C' b' o' v11 gi w hL' K hI
  obtain ⟨a16, c16, rfl, rfl, h16⟩ := agree2 hD hI
  walk_nrm
  have hS' := steady_aloneB (Bd + 400)
  refine Can.op (ok := okL) hS' hL' rfl rfl (by k_ne) (by kernel_rfl) (fun T d => ⟨.tuple #[.slice a16 R.length c16, .bool gi], w.re T d, ?_, fun _ => Can.re ?_ T d⟩)
  · go_simp
  walk_nrm
  refine Can.op (ok := okL) hS' hL' rfl rfl (by k_ne) (by kernel_rfl) (fun T d => ⟨.slice a16 R.length c16, w.re T d, ?_, fun _ => Can.re ?_ T d⟩)
  · go_simp
  walk_nrm
  refine Can.op (ok := okL) hS' hL' rfl rfl (by k_ne) (by kernel_rfl) (fun T d => ⟨.bool gi, w.re T d, ?_, fun _ => Can.re ?_ T d⟩)
  · go_simp
  walk_nrm
  refine Can.op (ok := okL) hS' hL' rfl rfl (by k_ne) (by kernel_rfl) (fun T d => ⟨.slice a16 R.length c16, w.re T d, ?_, fun _ => Can.re ?_ T d⟩)
  · go_simp
  walk_nrm
  refine Can.op (ok := okL) hS' hL' rfl rfl (by k_ne) (by kernel_rfl) (fun T d => ⟨.bool gi, w.re T d, ?_, fun _ => Can.re ?_ T d⟩)
  · go_simp
  walk_nrm
  refine Can.ctl hS' hL' rfl (fun _ => stepG_region_end) ?_
  subst hK
  exact next C' b' o' a16 c16 w _ _ _ _ _ _ _ _ _ _ _ _ _ _ _ _ _ _ _ _ _ _ _ _ _ _ _ _ _ _ _ _ _ _ _ _ _ _ _ _ _ _ _ _ _ _ _ _ _ _ _ _ _ _ _ _ _ _ _ _ _ _ _ _ _ _ _ _ _ _ _ _ _ _ _ _ _ _ _ _ _ _ _ _ _ _ _ _ _ _ _ _ _ _ _ _ _ _ _ hL' (h8.kept K.cells K.size) h16 (count_kin hct K)
end
end Go.Town.Kp
namespace Go.Town.Kp
open Go Go.Conc Go.Conc.Lib Go.ConcR.Gen Go.RowKit Go.Town Go.Proofs
open Go.ConcN (upd upd_ne upd_same)
section
variable {C : Cfg} {b o Bd kb : Nat} {wl : World} {q : List UInt8} {f t n : Int} {J : List (List Int)} {tc : Nat} {ta : Option Addr} {g : Bool} {b10 : Nat} {R : List Int} {a8 a11 a16 : Option Addr} {c8 c11 c16 : Nat} {v : Int}
set_option maxRecDepth 100000 in
set_option maxHeartbeats 2000000 in
theorem law6_h {z4 z5 z7 z18 z19 z20 z21 z22 z23 z24 z25 z26 z27 z28 z29 z30 z31 z32 z33 z34 z35 z36 z37 z38 z39 z40 z41 z42 z43 z44 z45 z46 z47 z48 z49 z50 z51 z52 z53 z54 z55 z56 z57 z58 z59 z60 z61 z62 z63 z64 z65 z66 z67 z68 z69 z70 z71 z72 z73 z74 z75 z76 z77 z78 z79 z80 z81 z82 z83 z84 z85 z86 z87 z88 z89 z90 z91 z92 z93 z94 z95 z96 z97 z98 z99 z100 z101 z102 z103 z104 z105 z106 z107 z108 z109 z110 z111 z112 z113 : Value} (hRn : R.length ≤ 1048576) (hL : Lay C wl) (h8 : IntsAt wl a8 R) (h16 : IntsAt wl a16 R) (hct : CountS wl a11 1 R.length) :
    Can Try.prog C b o (fun v _ => v = .bool true) 0 (AloneB Bd) wl (G ((base 6).at ⟨#[.agg #[.string ⟨q.toArray⟩, .int .i64 f, .int .i64 t], .slice ta J.length tc, .int .i64 n, .pointer (some ⟨kb, 0, none⟩), z4, z5, .bool false, z7, .slice a8 R.length c8, .bool g, .slice (some ⟨b10, 0, none⟩) J.length J.length, .slice a11 R.length c11, .bool g, .int .i64 v, .int .i64 (1 + (R.length : Nat)), .int .i64 (1 + (R.length : Nat)), .slice a16 R.length c16, .bool g, z18, z19, z20, z21, z22, z23, z24, z25, z26, z27, z28, z29, z30, z31, z32, z33, z34, z35, z36, z37, z38, z39, z40, z41, z42, z43, z44, z45, z46, z47, z48, z49, z50, z51, z52, z53, z54, z55, z56, z57, z58, z59, z60, z61, z62, z63, z64, z65, z66, z67, z68, z69, z70, z71, z72, z73, z74, z75, z76, z77, z78, z79, z80, z81, z82, z83, z84, z85, z86, z87, z88, z89, z90, z91, z92, z93, z94, z95, z96, z97, z98, z99, z100, z101, z102, z103, z104, z105, z106, z107, z108, z109, z110, z111, z112, z113], []⟩ [.code (tailC 21 body6)]) []) := by
  have hS := steady_aloneB Bd
  have e21 : tailC 21 body6 = .seq (headC 21 body6) (tailC 22 body6) := by kernel_rfl
  have e22 : tailC 22 body6 = .seq (headC 22 body6) (tailC 23 body6) := by kernel_rfl
  have e23 : tailC 23 body6 = .seq (headC 23 body6) (tailC 24 body6) := by kernel_rfl
  have e24 : tailC 24 body6 = .seq (headC 24 body6) (tailC 25 body6) := by kernel_rfl
  have e25 : tailC 25 body6 = .seq (headC 25 body6) (tailC 26 body6) := by kernel_rfl
  have e26 : tailC 26 body6 = .seq (headC 26 body6) (tailC 27 body6) := by kernel_rfl
  have e27 : tailC 27 body6 = .ret := by kernel_rfl
  rw [e21]
  refine Can.ctl hS hL rfl (fun _ => stepG_seq) ?_
  refine Can.code' okProgL hS hL (okFr_at (by kernel_rfl) rfl rfl ⟨_, Try.func6⟩) ?_
  intro T d W hW B hB
  have c20 : RowKit.Hid (Calls Try.prog 20 #[.slice a16 R.length c16, .slice a8 R.length c8] W fun e w' => e = .returned (.bool true) ∧ ∃ m, w' = W.drewN m) := eqIntS_same a16 a8 c16 c8 R W hRn (IntsIn.same h16 (by rw [hW.out]; rfl)) (IntsIn.same h8 (by rw [hW.out]; rfl))
  simp only [headC, body6, Try.f6, Option.getD_some]
  go_wp2_with (go_at_call 20; (with_reducible refine c20.out.mono ?_); rintro e w' ⟨rfl, m, rfl⟩)
  have hB := hB.out
  subst hB
  intro hc
  have hW := hW.out
  subst hW
  refine Can.re (wl := wl) (T := T) (d := d + m) ?_
  clear hc hB hW c20
  rw [e22]
  refine Can.ctl hS hL rfl (fun _ => stepG_seq) ?_
  refine Can.code' okProgL hS hL (okFr_at (by kernel_rfl) rfl rfl ⟨_, Try.func6⟩) ?_
  intro T d W hW B hB
  simp only [headC, body6, Try.f6, Option.getD_some]
  go_wp2
  have hB := hB.out
  subst hB
  intro hc
  have hW := hW.out
  subst hW
  refine Can.re ?_ T d
  clear hc hB hW
  rw [e23]
  refine Can.ctl hS hL rfl (fun _ => stepG_seq) ?_
  refine Can.code' okProgL hS hL (okFr_at (by kernel_rfl) rfl rfl ⟨_, Try.func6⟩) ?_
  intro T d W hW B hB
  have c24 : RowKit.Hid (Calls Try.prog 24 #[.slice a11 R.length c11, .int .i64 1] W fun e w' => e = .returned (.int .i64 (1 + R.length)) ∧ W = w') := heldIntS_opt a11 R.length c11 1 W hRn (by omega) (by omega) (by rw [hW.out]; exact hct)
  simp only [headC, body6, Try.f6, Option.getD_some]
  go_wp2_with (go_at_call 24; (with_reducible refine c24.out.mono ?_); rintro e w4 ⟨rfl, rfl⟩)
  have hB := hB.out
  subst hB
  intro hc
  have hW := hW.out
  subst hW
  refine Can.re ?_ T d
  clear hc hB hW c24
  rw [e24]
  refine Can.ctl hS hL rfl (fun _ => stepG_seq) ?_
  refine Can.code' okProgL hS hL (okFr_at (by kernel_rfl) rfl rfl ⟨_, Try.func6⟩) ?_
  intro T d W hW B hB
  have hp1 : ¬ ((1 : Int) + (R.length : Int) < 0) := by omega
  simp only [headC, body6, Try.f6, Option.getD_some]
  go_wp2
  have hB := hB.out
  subst hB
  intro hc
  have hW := hW.out
  subst hW
  refine Can.re ?_ T d
  clear hc hB hW hp1
  rw [e25]
  refine Can.ctl hS hL rfl (fun _ => stepG_seq) ?_
  refine Can.code' okProgL hS hL (okFr_at (by kernel_rfl) rfl rfl ⟨_, Try.func6⟩) ?_
  intro T d W hW B hB
  simp only [headC, body6, Try.f6, Option.getD_some]
  go_wp2
  have hB := hB.out
  subst hB
  intro hc
  have hW := hW.out
  subst hW
  refine Can.re ?_ T d
  clear hc hB hW
  rw [e26]
  refine Can.ctl hS hL rfl (fun _ => stepG_seq) ?_
  refine Can.code' okProgL hS hL (okFr_at (by kernel_rfl) rfl rfl ⟨_, Try.func6⟩) ?_
  intro T d W hW B hB
  simp only [headC, body6, Try.f6, Option.getD_some]
  go_wp2
  have hB := hB.out
  subst hB
  intro hc
  have hW := hW.out
  subst hW
  refine Can.re ?_ T d
  clear hc hB hW
  rw [e27]
  refine Can.ctl hS hL rfl (fun _ => st_ret) ?_
  exact end6 hL rfl
end
end Go.Town.Kp
namespace Go.Town.Kp
open Go Go.Conc Go.Conc.Lib Go.ConcR.Gen Go.RowKit Go.Town Go.Proofs
open Go.ConcN (upd upd_ne upd_same)
theorem det_of {q : List UInt8} {f t n : Int} {J : List (List Int)} {w : World} {g : Bool} {R : List Int} {a8 : Option Addr} {c8 : Nat} (h : SpecR q f t n J w (.slice a8 R.length c8) g) (hi : IntsAt w a8 R) : Det q f t n J g R := by
  rcases h with ⟨h1, rfl, a, e⟩ | ⟨κ, tn, sa, h1, h2, h3, h4, h5, rfl, e, h8⟩
  · simp only [Value.slice.injEq] at e
    exact .inl ⟨h1, rfl, List.length_eq_zero_iff.1 e.2.1⟩
  · simp only [Value.slice.injEq] at e
    obtain ⟨rfl, e2, _⟩ := e
    refine .inr ⟨κ, tn, h1, h2, h3, h4, h5, rfl, List.ext_getElem (by simpa using e2) fun i hi1 hi2 => ?_⟩
    obtain ⟨b, off, eb, _, hc⟩ := hi.at hi1
    cases eb
    have := h8 i (by omega)
    rw [Nat.zero_add, this] at hc
    simp only [Option.some.injEq, Value.int.injEq, true_and] at hc
    simp [← hc]
section
variable {C : Cfg} {b o Bd : Nat} {wl : World} {l : ByteArray} {f t n : Int} {J : List (List Int)} {tc : Nat} {ta : Option Addr}
theorem law6 (hBd : Bd < 1000000000) (hL : Lay C wl) (hR : RowsAt wl ta J) (hl : l.size ≤ 9223372036854775807) (hn : J.length ≤ 9223372036854775807) (hm : ∀ l ∈ J, l.length ≤ 9223372036854775807) :
    Can Try.prog C b o (fun v _ => v = .bool true) 0 (AloneB Bd) wl (G ((base 6).at ⟨#[.agg #[.string l, .int .i64 f, .int .i64 t], .slice ta J.length tc, .int .i64 n, undef, undef, undef, undef, undef, undef, undef, undef, undef, undef, undef, undef, undef, undef, undef, undef, undef, undef, undef, undef, undef, undef, undef, undef, undef, undef, undef, undef, undef, undef, undef, undef, undef, undef, undef, undef, undef, undef, undef, undef, undef, undef, undef, undef, undef, undef, undef, undef, undef, undef, undef, undef, undef, undef, undef, undef, undef, undef, undef, undef, undef, undef, undef, undef, undef, undef, undef, undef, undef, undef, undef, undef, undef, undef, undef, undef, undef, undef, undef, undef, undef, undef, undef, undef, undef, undef, undef, undef, undef, undef, undef, undef, undef, undef, undef, undef, undef, undef, undef, undef, undef, undef, undef, undef, undef, undef, undef, undef, undef, undef, undef], []⟩ [.code body6]) []) := by
  refine law6_a hL hR hl hn hm ?_
  intro q hq kb w z4 z5 z7 z8 z9 z10 z11 z12 z13 z14 z15 z16 z17 z18 z19 z20 z21 z22 z23 z24 z25 z26 z27 z28 z29 z30 z31 z32 z33 z34 z35 z36 z37 z38 z39 z40 z41 z42 z43 z44 z45 z46 z47 z48 z49 z50 z51 z52 z53 z54 z55 z56 z57 z58 z59 z60 z61 z62 z63 z64 z65 z66 z67 z68 z69 z70 z71 z72 z73 z74 z75 z76 z77 z78 z79 z80 z81 z82 z83 z84 z85 z86 z87 z88 z89 z90 z91 z92 z93 z94 z95 z96 z97 z98 z99 z100 z101 z102 z103 z104 z105 z106 z107 z108 z109 z110 z111 z112 z113 hn hm hL hk hR hz
  refine law6_b hn hm hL hk hR hz ?_
  intro v8 g w z4 z5 z7 z10 z11 z12 z13 z14 z15 z16 z17 z18 z19 z20 z21 z22 z23 z24 z25 z26 z27 z28 z29 z30 z31 z32 z33 z34 z35 z36 z37 z38 z39 z40 z41 z42 z43 z44 z45 z46 z47 z48 z49 z50 z51 z52 z53 z54 z55 z56 z57 z58 z59 z60 z61 z62 z63 z64 z65 z66 z67 z68 z69 z70 z71 z72 z73 z74 z75 z76 z77 z78 z79 z80 z81 z82 z83 z84 z85 z86 z87 z88 z89 z90 z91 z92 z93 z94 z95 z96 z97 z98 z99 z100 z101 z102 z103 z104 z105 z106 z107 z108 z109 z110 z111 z112 z113 hL hk hR hz hs
  refine law6_c hn hm hL hk hR hz hs ?_
  intro b10 w z4 z5 z7 z11 z12 z13 z14 z15 z16 z17 z18 z19 z20 z21 z22 z23 z24 z25 z26 z27 z28 z29 z30 z31 z32 z33 z34 z35 z36 z37 z38 z39 z40 z41 z42 z43 z44 z45 z46 z47 z48 z49 z50 z51 z52 z53 z54 z55 z56 z57 z58 z59 z60 z61 z62 z63 z64 z65 z66 z67 z68 z69 z70 z71 z72 z73 z74 z75 z76 z77 z78 z79 z80 z81 z82 z83 z84 z85 z86 z87 z88 z89 z90 z91 z92 z93 z94 z95 z96 z97 z98 z99 z100 z101 z102 z103 z104 z105 z106 z107 z108 z109 z110 z111 z112 z113 hL hk hR hz hs hC hb10 hkb hlow
  refine law6_d hn hm (by omega) hL hk hR hz hs hC hb10 hkb hlow ?_
  intro C' b' o' v11 gi w w₀ z4 z5 z7 z13 z14 z15 z16 z17 z18 z19 z20 z21 z22 z23 z24 z25 z26 z27 z28 z29 z30 z31 z32 z33 z34 z35 z36 z37 z38 z39 z40 z41 z42 z43 z44 z45 z46 z47 z48 z49 z50 z51 z52 z53 z54 z55 z56 z57 z58 z59 z60 z61 z62 z63 z64 z65 z66 z67 z68 z69 z70 z71 z72 z73 z74 z75 z76 z77 z78 z79 z80 z81 z82 z83 z84 z85 z86 z87 z88 z89 z90 z91 z92 z93 z94 z95 z96 z97 z98 z99 z100 z101 z102 z103 z104 z105 z106 z107 z108 z109 z110 z111 z112 z113 hL hk hR hz hs hC K hb10 hsz hlow hI
  obtain ⟨R, a8, a11, c8, c11, hRn, rfl, rfl, rfl, h8, h11, hF, hlo, hup, hup2⟩ := agree hn hs hI hlow
  have hD := det_of hs h8
  refine law6_e hn hm hRn hL hk hR hkb hb10 hsz (hC.rows.kept K.cells K.size) (hC.outer'.kin K hb10) h8 h11 hF hlo hup ?_
  intro v w z4 z5 z7 z14 z15 z16 z17 z18 z19 z20 z21 z22 z23 z24 z25 z26 z27 z28 z29 z30 z31 z32 z33 z34 z35 z36 z37 z38 z39 z40 z41 z42 z43 z44 z45 z46 z47 z48 z49 z50 z51 z52 z53 z54 z55 z56 z57 z58 z59 z60 z61 z62 z63 z64 z65 z66 z67 z68 z69 z70 z71 z72 z73 z74 z75 z76 z77 z78 z79 z80 z81 z82 z83 z84 z85 z86 z87 z88 z89 z90 z91 z92 z93 z94 z95 z96 z97 z98 z99 z100 z101 z102 z103 z104 z105 z106 z107 z108 z109 z110 z111 z112 z113 hv hL hk hR hz h8 h11 hF
  refine law6_f hRn hv hL hk hR hz hkb hb10 h8 h11 hF hlo hup2 ?_
  intro w z4 z5 z7 z16 z17 z18 z19 z20 z21 z22 z23 z24 z25 z26 z27 z28 z29 z30 z31 z32 z33 z34 z35 z36 z37 z38 z39 z40 z41 z42 z43 z44 z45 z46 z47 z48 z49 z50 z51 z52 z53 z54 z55 z56 z57 z58 z59 z60 z61 z62 z63 z64 z65 z66 z67 z68 z69 z70 z71 z72 z73 z74 z75 z76 z77 z78 z79 z80 z81 z82 z83 z84 z85 z86 z87 z88 z89 z90 z91 z92 z93 z94 z95 z96 z97 z98 z99 z100 z101 z102 z103 z104 z105 z106 z107 z108 z109 z110 z111 z112 z113 hL hk hR hz h8 hct
  refine law6_g hn hm (by omega) hD hL hk hR hz h8 hct ?_
  intro C'' b'' o'' a16 c16 w z4 z5 z7 z18 z19 z20 z21 z22 z23 z24 z25 z26 z27 z28 z29 z30 z31 z32 z33 z34 z35 z36 z37 z38 z39 z40 z41 z42 z43 z44 z45 z46 z47 z48 z49 z50 z51 z52 z53 z54 z55 z56 z57 z58 z59 z60 z61 z62 z63 z64 z65 z66 z67 z68 z69 z70 z71 z72 z73 z74 z75 z76 z77 z78 z79 z80 z81 z82 z83 z84 z85 z86 z87 z88 z89 z90 z91 z92 z93 z94 z95 z96 z97 z98 z99 z100 z101 z102 z103 z104 z105 z106 z107 z108 z109 z110 z111 z112 z113 hL h8 h16 hct
  exact law6_h hRn hL h8 h16 hct
end
end Go.Town.Kp
namespace Go.Town.Kp
open Go Go.Conc Go.Conc.Lib Go.ConcR.Gen Go.RowKit Go.Town Go.Proofs Go.ChangeShapes
section
variable {H : Type} {enc : TypeId × Value → H} {W : World} {base : Nat} {sp : Nat → Bool} {held : Bool}
theorem ints_in {x : Addr} {l c : Nat} {zs : List Int} (hl : l ≤ c) (hz : zs.length = c) (hcell : ∀ i, i < zs.length → W.cell? (x.add i) = some (.int .i64 (zs.getD i 0))) : ∃ ys : List Int, l = ys.length ∧ IntsAt W (some x) ys := by
  refine ⟨zs.take l, by simp; omega, ?_⟩
  by_cases h0 : l = 0
  · subst h0; exact .inl rfl
  obtain ⟨b, off, spot⟩ := x
  have hc := hcell 0 (by omega)
  have hspot : spot = none := by simpa [Addr.add] using World.cell?_spot hc
  subst hspot
  refine .inr ⟨b, off, rfl, block_lt (a := ⟨b, off, none⟩) (by simpa [Addr.add] using hc), fun i hi => ?_⟩
  have hi' : i < zs.length := by simp at hi; omega
  have := hcell i hi'
  have e : (⟨b, off, none⟩ : Addr).add i = ⟨b, off + i, none⟩ := by unfold Addr.add; split <;> simp_all
  rw [e] at this
  rw [this]
  simp only [List.length_take] at hi
  simp [List.getD, List.getElem?_take, show i < l by omega]
theorem row_in {fuel : Nat} {cs : List Value} {x : DataW H × List MemPlace} (h : DataW.trod enc Try.prog W base sp held fuel 28 cs = some x) : ∃ a ys c, cs = [.slice a (ys : List Int).length c] ∧ ys.length ≤ 9223372036854775807 ∧ IntsAt W a ys := by
  rcases open_ints Try.underlying28 Try.underlying3 (by kernel_rfl) h with ⟨hcs, _⟩ | ⟨x, l, c, zs, hcs, _, hl, hm, hz, _, hcell, hwz⟩
  · exact ⟨none, [], 0, hcs, by simp, .inl rfl⟩
  · have hz' : zs.length = c ∨ zs.length = l := by split at hz <;> simp_all
    obtain ⟨ys, rfl, hI⟩ := ints_in (W := W) (x := x) (l := l) (c := zs.length) (zs := zs) (by omega) rfl hcell
    exact ⟨some x, ys, c, hcs, by simp only [maxLen] at hm; omega, hI⟩
theorem rows_in {fuel : Nat} {cs : List Value} {x : DataW H × List MemPlace} (h : DataW.trod enc Try.prog W base sp held fuel 25 cs = some x) : ∃ a J c, cs = [.slice a (J : List (List Int)).length c] ∧ J.length ≤ 9223372036854775807 ∧ (∀ l ∈ J, l.length ≤ 9223372036854775807) ∧ RowsAt W a J := by
  rcases DataW.trod_slice Try.underlying25 h with ⟨hcs, _⟩ | ⟨a, len, cap, elems, rest, n, _, hcs, _, _, hl, hm, hlen, hel, _⟩
  · exact ⟨none, [], 0, hcs, by simp, by simp, .inl rfl⟩
  have key : ∀ i, ∃ l : List Int, i < len → ∃ a' c', W.cell? (a.add i) = some (.slice a' l.length c') ∧ l.length ≤ 9223372036854775807 ∧ IntsAt W a' l := by
    intro i
    by_cases hi : i < len
    · have hE := hel i hi
      rw [show Try.prog.cellsOf 28 = 1 by kernel_rfl, Nat.mul_one] at hE
      have hi' : i < elems.length := by omega
      rw [List.getElem?_eq_getElem hi'] at hE
      simp only [Option.bind_eq_some_iff] at hE
      obtain ⟨c1, hc1, hy1⟩ := hE
      have e0 : (a.add i).add 0 = a.add i := by simp [Addr.add]
      have : ∃ c, c1 = [c] ∧ W.cell? (a.add i) = some c := by
        unfold World.cells? at hc1
        split at hc1
        · simp only [List.range_succ, List.range_zero, List.nil_append, List.mapM_cons, List.mapM_nil, e0] at hc1
          cases hcc : W.cell? (a.add i) with
          | none => simp [hcc] at hc1
          | some c => simp [hcc] at hc1; exact ⟨c, hc1.symm, rfl⟩
        · cases hc1
      obtain ⟨c, rfl, hcell⟩ := this
      obtain ⟨a', ys, c', h1, h2, h3⟩ := row_in hy1
      simp only [List.cons.injEq, and_true] at h1
      subst h1
      exact ⟨ys, fun _ => ⟨a', c', hcell, h2, h3⟩⟩
    · exact ⟨[], fun h => absurd h hi⟩
  let f := fun i => (key i).choose
  have hf : ∀ i, i < len → ∃ a' c', W.cell? (a.add i) = some (.slice a' (f i).length c') ∧ (f i).length ≤ 9223372036854775807 ∧ IntsAt W a' (f i) := fun i => (key i).choose_spec
  clear_value f
  refine ⟨some a, (List.range len).map f, cap, by simpa using hcs, by simp only [List.length_map, List.length_range, maxLen] at hm ⊢; omega, ?_, ?_⟩
  · intro l hl
    simp only [List.mem_map, List.mem_range] at hl
    obtain ⟨i, hi, rfl⟩ := hl
    exact (hf i hi).choose_spec.choose_spec.2.1
  · by_cases h0 : len = 0
    · subst h0; exact .inl rfl
    obtain ⟨b, off, spot⟩ := a
    obtain ⟨a', c', hc, _⟩ := hf 0 (by omega)
    have hspot : spot = none := by simpa [Addr.add] using World.cell?_spot hc
    subst hspot
    refine .inr ⟨b, off, rfl, block_lt (a := ⟨b, off, none⟩) (by simpa [Addr.add] using hc), fun i hi => ?_⟩
    simp only [List.length_map, List.length_range] at hi
    obtain ⟨a', c', hc, _, hI⟩ := hf i hi
    have e : (⟨b, off, none⟩ : Addr).add i = ⟨b, off + i, none⟩ := by unfold Addr.add; split <;> simp_all
    rw [e] at hc
    have eg : ((List.range len).map f).getD i [] = f i := by simp [List.getD, hi]
    rw [eg]
    exact ⟨a', c', hc, hI⟩
set_option maxRecDepth 100000 in
theorem keeper_in {v : Value} {d : DataW H} {ps : List MemPlace} {r : Reach} {b0 : Nat} (hval : Value.okWide Try.prog W r b0 39 v) (h : DataW.Trod enc Try.prog W base sp held 39 v d ps) : ∃ (l : ByteArray) (f t : Int), v = .agg #[.string l, .int .i64 f, .int .i64 t] ∧ l.size ≤ 9223372036854775807 := by
  obtain ⟨cs, rfl, hsz⟩ := Go.WideShapes.okWide_struct Try.underlying39 hval
  have hsz' : cs.size = 3 := hsz.trans (by kernel_rfl)
  obtain ⟨a, b, c, rfl⟩ : ∃ a b c, cs = #[a, b, c] := by
    have hl : cs.toList.length = 3 := hsz'
    have hcs : cs = cs.toList.toArray := rfl
    rw [hcs]
    generalize cs.toList = l at hl ⊢
    clear hcs hsz hsz' hval h
    rcases l with _ | ⟨a, _ | ⟨b, _ | ⟨c, _ | ⟨d, r⟩⟩⟩⟩ <;> simp only [List.length_cons, List.length_nil] at hl
    · omega
    · omega
    · omega
    · exact ⟨a, b, c, rfl⟩
    · omega
  obtain ⟨fuel, hf⟩ := h
  obtain ⟨xs, n, _, _, _, hx, hE⟩ := DataW.trod_struct Try.underlying39 hf
  have hx' : xs.length = 3 := hx
  have e0 := hE 0 _ rfl
  have e1 := hE 1 _ rfl
  have e2 := hE 2 _ rfl
  rw [List.getElem?_eq_getElem (by omega)] at e0 e1 e2
  obtain ⟨s, h0, _, hs⟩ := DataW.trod_string Try.underlying9 e0
  obtain ⟨f, h1, _⟩ := DataW.trod_int Try.underlying3 e1
  obtain ⟨t, h2, _⟩ := DataW.trod_int Try.underlying3 e2
  have h0' : [a] = [Value.string s] := h0
  have h1' : [b] = [Value.int .i64 f] := h1
  have h2' : [c] = [Value.int .i64 t] := h2
  simp only [List.cons.injEq, and_true] at h0' h1' h2'
  subst h0' h1' h2'
  exact ⟨s, f, t, rfl, by simpa [maxLen] using hs⟩
theorem rows_shut {W : World} {a : Option Addr} {J : List (List Int)} (h : RowsAt W a J) : RowsAt (shutW W) a J :=
  h.kept (fun x j v _ hc => by rw [shutW_cell]; exact hc) (Nat.le_of_eq (shutW_size W).symm)
end
end Go.Town.Kp
