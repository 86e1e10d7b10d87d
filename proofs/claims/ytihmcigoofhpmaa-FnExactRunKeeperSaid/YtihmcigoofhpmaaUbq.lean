/-
  The law FnExactRunKeeper: the answer is marked.
  The law FnExactRunKeeper: the second call of RunKeeper.
  The law FnExactRunKeeper: the end; the whole walk.
-/
import Derived.Test.YtihmcigoofhpmaaUbp
set_option linter.all false
namespace Go.Town.Kp
open Go Go.Conc Go.Conc.Lib Go.ConcR.Gen Go.RowKit Go.Town Go.Proofs
open Go.ConcN (upd upd_ne upd_same)
section
variable {C : Cfg} {b o Bd kb k6 : Nat} {wl : World} {q : List UInt8} {f t : Int} {J : List (List Int)} {tc : Nat} {ta : Option Addr} {g : Bool} {R1 R2 : List Int} {E : ByteArray} {A : Int} {a1 a2 : Option Addr} {c1 c2 : Nat} {b8 B₀ k9 : Nat} {d1 d2 : Option Addr} {e1 e2 : Nat} {v : Int}
set_option maxRecDepth 100000 in
set_option maxHeartbeats 2000000 in
theorem law8_f {z3 z5 z12 z13 z14 z15 z16 z17 z18 z19 z20 z21 z22 z23 z24 z25 z26 z27 z28 z29 z30 z31 z32 z33 z34 z35 z36 z37 z38 z39 z40 z41 z42 z43 z44 z45 z46 z47 z48 z49 z50 z51 z52 z53 z54 z55 z56 z57 z58 z59 z60 z61 z62 z63 z64 z65 z66 z67 z68 z69 z70 z71 z72 z73 z74 z75 z76 z77 z78 z79 z80 z81 z82 z83 z84 z85 z86 z87 z88 z89 z90 z91 z92 z93 z94 z95 z96 z97 z98 z99 z100 z101 z102 z103 z104 z105 z106 z107 z108 : Value} (hn1 : R1.length ≤ 1048576) (hn2 : R2.length ≤ 1048576) (hv : 0 ≤ v) (hL : Lay C wl) (hs : Base8 q f t J ta kb k6 a1 a2 c1 c2 R1 R2 E A wl) (hkb : k6 < b8) (hbB : b8 < B₀) (hI : Impl8 B₀ R1 R2 E A k9 d1 d2 e1 e2 wl)
    (next : ∀ (w : World) (z3 z5 z14 z15 z16 z17 z18 z19 z20 z21 z22 z23 z24 z25 z26 z27 z28 z29 z30 z31 z32 z33 z34 z35 z36 z37 z38 z39 z40 z41 z42 z43 z44 z45 z46 z47 z48 z49 z50 z51 z52 z53 z54 z55 z56 z57 z58 z59 z60 z61 z62 z63 z64 z65 z66 z67 z68 z69 z70 z71 z72 z73 z74 z75 z76 z77 z78 z79 z80 z81 z82 z83 z84 z85 z86 z87 z88 z89 z90 z91 z92 z93 z94 z95 z96 z97 z98 z99 z100 z101 z102 z103 z104 z105 z106 z107 z108 : Value), Lay C w → Base8 q f t J ta kb k6 a1 a2 c1 c2 R1 R2 E A w → Reads w k9 [.slice d1 R1.length e1, .slice d2 R2.length e2, .string E, .int .i64 A] → CountS w d1 1 R1.length → CountS w d2 (1 + (R1.length : Nat)) R2.length → k9 < w.heap.size → Can Try.prog C b o (fun v _ => v = .bool true) 0 (AloneB Bd) w (G ((base 8).at ⟨#[.agg #[.string ⟨q.toArray⟩, .int .i64 f, .int .i64 t], .slice ta J.length tc, .pointer (some ⟨kb, 0, none⟩), z3, .bool false, z5, .pointer (some ⟨k6, 0, none⟩), .bool g, .slice (some ⟨b8, 0, none⟩) J.length J.length, .pointer (some ⟨k9, 0, none⟩), .bool g, .int .i64 v, .int .i64 (1 + (R1.length : Nat) + (R2.length : Nat)), .int .i64 (1 + (R1.length : Nat) + (R2.length : Nat)), z14, z15, z16, z17, z18, z19, z20, z21, z22, z23, z24, z25, z26, z27, z28, z29, z30, z31, z32, z33, z34, z35, z36, z37, z38, z39, z40, z41, z42, z43, z44, z45, z46, z47, z48, z49, z50, z51, z52, z53, z54, z55, z56, z57, z58, z59, z60, z61, z62, z63, z64, z65, z66, z67, z68, z69, z70, z71, z72, z73, z74, z75, z76, z77, z78, z79, z80, z81, z82, z83, z84, z85, z86, z87, z88, z89, z90, z91, z92, z93, z94, z95, z96, z97, z98, z99, z100, z101, z102, z103, z104, z105, z106, z107, z108], []⟩ [.code (tailC 20 body8)]) [])) :
    Can Try.prog C b o (fun v _ => v = .bool true) 0 (AloneB Bd) wl (G ((base 8).at ⟨#[.agg #[.string ⟨q.toArray⟩, .int .i64 f, .int .i64 t], .slice ta J.length tc, .pointer (some ⟨kb, 0, none⟩), z3, .bool false, z5, .pointer (some ⟨k6, 0, none⟩), .bool g, .slice (some ⟨b8, 0, none⟩) J.length J.length, .pointer (some ⟨k9, 0, none⟩), .bool g, .int .i64 v, z12, z13, z14, z15, z16, z17, z18, z19, z20, z21, z22, z23, z24, z25, z26, z27, z28, z29, z30, z31, z32, z33, z34, z35, z36, z37, z38, z39, z40, z41, z42, z43, z44, z45, z46, z47, z48, z49, z50, z51, z52, z53, z54, z55, z56, z57, z58, z59, z60, z61, z62, z63, z64, z65, z66, z67, z68, z69, z70, z71, z72, z73, z74, z75, z76, z77, z78, z79, z80, z81, z82, z83, z84, z85, z86, z87, z88, z89, z90, z91, z92, z93, z94, z95, z96, z97, z98, z99, z100, z101, z102, z103, z104, z105, z106, z107, z108], []⟩ [.code (tailC 13 body8)]) []) := by
  have hS := steady_aloneB Bd
  have e13 : tailC 13 body8 = .seq (headC 13 body8) (tailC 14 body8) := by kernel_rfl
  have e14 : tailC 14 body8 = .seq (headC 14 body8) (tailC 15 body8) := by kernel_rfl
  have e15 : tailC 15 body8 = .seq (headC 15 body8) (tailC 16 body8) := by kernel_rfl
  have e16 : tailC 16 body8 = .seq (headC 16 body8) (tailC 17 body8) := by kernel_rfl
  have e17 : tailC 17 body8 = .seq (headC 17 body8) (tailC 18 body8) := by kernel_rfl
  have e18 : tailC 18 body8 = .seq (headC 18 body8) (tailC 19 body8) := by kernel_rfl
  have e19 : tailC 19 body8 = .seq (headC 19 body8) (tailC 20 body8) := by kernel_rfl
  rw [e13]
  refine Can.ctl hS hL rfl (fun _ => stepG_seq) ?_
  refine Can.code' okProgK hS hL (okFr_at (by kernel_rfl) rfl rfl ⟨_, Try.func8⟩) ?_
  intro T d W hW B hB
  have hk90 : W.cell? ⟨k9, 0, none⟩ = some (.slice d1 R1.length e1) := by rw [hW.out]; exact (hI.reads 0 (by simp)).1
  have hk91 : W.cell? ⟨k9, 1, none⟩ = some (.slice d2 R2.length e2) := by rw [hW.out]; exact (hI.reads 1 (by simp)).1
  have hk92 : W.cell? ⟨k9, 2, none⟩ = some (.string E) := by rw [hW.out]; exact (hI.reads 2 (by simp)).1
  have hk93 : W.cell? ⟨k9, 3, none⟩ = some (.int .i64 A) := by rw [hW.out]; exact (hI.reads 3 (by simp)).1
  have hk60 : W.cell? ⟨k6, 0, none⟩ = some (.slice a1 R1.length c1) := by rw [hW.out]; exact (hs.kept 0 (by simp)).1
  have hk61 : W.cell? ⟨k6, 1, none⟩ = some (.slice a2 R2.length c2) := by rw [hW.out]; exact (hs.kept 1 (by simp)).1
  have hk62 : W.cell? ⟨k6, 2, none⟩ = some (.string E) := by rw [hW.out]; exact (hs.kept 2 (by simp)).1
  have hk63 : W.cell? ⟨k6, 3, none⟩ = some (.int .i64 A) := by rw [hW.out]; exact (hs.kept 3 (by simp)).1
  have c29 : RowKit.Hid (Calls Try.prog 29 #[.agg #[.slice d1 R1.length e1, .slice d2 R2.length e2, .string E, .int .i64 A], .agg #[.slice a1 R1.length c1, .slice a2 R2.length c2, .string E, .int .i64 A]] W fun e w' => e = .returned (.bool true) ∧ Below W.heap.size W w') := eqKept_any hn1 hn2 (IntsIn.same hI.ans.i1 (by rw [hW.out]; rfl)) (IntsIn.same hI.ans.i2 (by rw [hW.out]; rfl)) (IntsIn.same hs.i1At (by rw [hW.out]; rfl)) (IntsIn.same hs.i2At (by rw [hW.out]; rfl))
  have hv' : ¬ (v < 0) := by omega
  simp only [headC, body8, Try.f8, Option.getD_some]
  go_wp2_with (go_at_call 29; (with_reducible refine c29.out.mono ?_); rintro e w1 ⟨rfl, hb1⟩)
  have hB := hB.out
  subst hB
  intro hc
  have hW := hW.out
  subst hW
  have K := bwre hb1
  have hL1 : Lay C w1 := ⟨hc, hL.no⟩
  replace hs := hs.kin (K.le hs.low)
  replace hI := hI.kin K
  clear hc hB hW c29 hb1 K hv' hk90 hk91 hk92 hk93 hk60 hk61 hk62 hk63
  rw [e14]
  refine Can.ctl hS hL1 rfl (fun _ => stepG_seq) ?_
  refine Can.code' okProgK hS hL1 (okFr_at (by kernel_rfl) rfl rfl ⟨_, Try.func8⟩) ?_
  intro T d W hW B hB
  simp only [headC, body8, Try.f8, Option.getD_some]
  go_wp2
  have hB := hB.out
  subst hB
  intro hc
  have hW := hW.out
  subst hW
  refine Can.re ?_ T d
  clear hc hB hW
  rw [e15]
  refine Can.ctl hS hL1 rfl (fun _ => stepG_seq) ?_
  refine Can.code' okProgK hS hL1 (okFr_at (by kernel_rfl) rfl rfl ⟨_, Try.func8⟩) ?_
  intro T d W hW B hB
  have hk90 : W.cell? ⟨k9, 0, none⟩ = some (.slice d1 R1.length e1) := by rw [hW.out]; exact (hI.reads 0 (by simp)).1
  have hk91 : W.cell? ⟨k9, 1, none⟩ = some (.slice d2 R2.length e2) := by rw [hW.out]; exact (hI.reads 1 (by simp)).1
  have hk92 : W.cell? ⟨k9, 2, none⟩ = some (.string E) := by rw [hW.out]; exact (hI.reads 2 (by simp)).1
  have hk93 : W.cell? ⟨k9, 3, none⟩ = some (.int .i64 A) := by rw [hW.out]; exact (hI.reads 3 (by simp)).1
  have c30 : RowKit.Hid (Calls Try.prog 30 #[.agg #[.slice d1 R1.length e1, .slice d2 R2.length e2, .string E, .int .i64 A], .int .i64 1] W fun e w' => e = .returned (.int .i64 (1 + (R1.length : Nat) + (R2.length : Nat))) ∧ CountS w' d1 1 R1.length ∧ CountS w' d2 (1 + (R1.length : Nat)) R2.length ∧ TwoS d1 d2 W w') := markKept_any hn1 hn2 (by omega) (by omega) (by rw [hW.out]; exact hI.ans.f1) (by rw [hW.out]; exact hI.ans.f2) hI.ans.parted (by rw [hW.out]; exact fun g e => (hI.ans.lo1 g e).2) (by rw [hW.out]; exact fun g e => (hI.ans.lo2 g e).2)
  simp only [headC, body8, Try.f8, Option.getD_some]
  go_wp2_with (go_at_call 30; (with_reducible refine c30.out.mono ?_); rintro e w2 ⟨rfl, hq1, hq2, hM⟩)
  have hB := hB.out
  subst hB
  intro hc
  have hW := hW.out
  subst hW
  have hL2 : Lay C w2 := ⟨hc, hL.no⟩
  have hr2 : Reads w2 k9 [.slice d1 R1.length e1, .slice d2 R2.length e2, .string E, .int .i64 A] := twoS_reads (w := w1.re T d) hM hI.reads hI.lt (fun g e => by have := hI.l1 g e; omega) (fun g e => by have := hI.l2 g e; omega)
  replace hs := hs.kin (((Kin.refl _ _).re T d).trans (twoS_kin (n := k6 + 1) (w := w1.re T d) hM (show k6 + 1 ≤ w1.heap.size from hs.low) (fun g e => by have := (hI.ans.lo1 g e).1; omega) (fun g e => by have := (hI.ans.lo2 g e).1; omega)))
  have hz2 : k9 < w2.heap.size := Nat.lt_of_lt_of_le hI.lt (show w1.heap.size ≤ w2.heap.size from hM.size)
  clear hc hB hW c30 hM hI hk90 hk91 hk92 hk93
  rw [e16]
  refine Can.ctl hS hL2 rfl (fun _ => stepG_seq) ?_
  refine Can.code' okProgK hS hL2 (okFr_at (by kernel_rfl) rfl rfl ⟨_, Try.func8⟩) ?_
  intro T d W hW B hB
  simp only [headC, body8, Try.f8, Option.getD_some]
  go_wp2
  have hB := hB.out
  subst hB
  intro hc
  have hW := hW.out
  subst hW
  refine Can.re ?_ T d
  clear hc hB hW
  rw [e17]
  refine Can.ctl hS hL2 rfl (fun _ => stepG_seq) ?_
  refine Can.code' okProgK hS hL2 (okFr_at (by kernel_rfl) rfl rfl ⟨_, Try.func8⟩) ?_
  intro T d W hW B hB
  have hk90 : W.cell? ⟨k9, 0, none⟩ = some (.slice d1 R1.length e1) := by rw [hW.out]; exact (hr2 0 (by simp)).1
  have hk91 : W.cell? ⟨k9, 1, none⟩ = some (.slice d2 R2.length e2) := by rw [hW.out]; exact (hr2 1 (by simp)).1
  have hk92 : W.cell? ⟨k9, 2, none⟩ = some (.string E) := by rw [hW.out]; exact (hr2 2 (by simp)).1
  have hk93 : W.cell? ⟨k9, 3, none⟩ = some (.int .i64 A) := by rw [hW.out]; exact (hr2 3 (by simp)).1
  have c31 : RowKit.Hid (Calls Try.prog 31 #[.agg #[.slice d1 R1.length e1, .slice d2 R2.length e2, .string E, .int .i64 A], .int .i64 1] W fun e w' => e = .returned (.int .i64 (1 + (R1.length : Nat) + (R2.length : Nat))) ∧ Below W.heap.size W w') := heldKept_any hn1 hn2 (by omega) (by omega) (by rw [hW.out]; exact hq1) (by rw [hW.out]; exact hq2)
  simp only [headC, body8, Try.f8, Option.getD_some]
  go_wp2_with (go_at_call 31; (with_reducible refine c31.out.mono ?_); rintro e w3 ⟨rfl, hb3⟩)
  have hB := hB.out
  subst hB
  intro hc
  have hW := hW.out
  subst hW
  have K := bwre hb3
  have hL3 : Lay C w3 := ⟨hc, hL.no⟩
  replace hs := hs.kin (K.le hs.low)
  replace hq1 : CountS w3 d1 1 R1.length := hq1.kin K hq1.lt
  replace hq2 : CountS w3 d2 (1 + (R1.length : Nat)) R2.length := hq2.kin K hq2.lt
  replace hr2 : Reads w3 k9 _ := hr2.kin K hz2
  have hz3 : k9 < w3.heap.size := Nat.lt_of_lt_of_le hz2 K.size
  have hp : RowKit.Hid (¬ ((1 : Int) + (R1.length : Int) + (R2.length : Int) < 0)) := by show ¬ _; omega
  clear hc hB hW c31 hb3 K hz2 hk90 hk91 hk92 hk93
  rw [e18]
  refine Can.ctl hS hL3 rfl (fun _ => stepG_seq) ?_
  refine Can.code' okProgK hS hL3 (okFr_at (by kernel_rfl) rfl rfl ⟨_, Try.func8⟩) ?_
  intro T d W hW B hB
  have hp := hp.out
  simp only [headC, body8, Try.f8, Option.getD_some]
  go_wp2
  have hB := hB.out
  subst hB
  intro hc
  have hW := hW.out
  subst hW
  refine Can.re ?_ T d
  clear hc hB hW hp
  rw [e19]
  refine Can.ctl hS hL3 rfl (fun _ => stepG_seq) ?_
  refine Can.code' okProgK hS hL3 (okFr_at (by kernel_rfl) rfl rfl ⟨_, Try.func8⟩) ?_
  intro T d W hW B hB
  simp only [headC, body8, Try.f8, Option.getD_some]
  go_wp2
  have hB := hB.out
  subst hB
  intro hc
  have hW := hW.out
  subst hW
  refine Can.re ?_ T d
  clear hc hB hW
  exact next w3 _ _ _ _ _ _ _ _ _ _ _ _ _ _ _ _ _ _ _ _ _ _ _ _ _ _ _ _ _ _ _ _ _ _ _ _ _ _ _ _ _ _ _ _ _ _ _ _ _ _ _ _ _ _ _ _ _ _ _ _ _ _ _ _ _ _ _ _ _ _ _ _ _ _ _ _ _ _ _ _ _ _ _ _ _ _ _ _ _ _ _ _ _ _ _ _ _ hL3 hs hr2 hq1 hq2 hz3
end
end Go.Town.Kp
namespace Go.Town.Kp
open Go Go.Conc Go.Conc.Lib Go.ConcR.Gen Go.RowKit Go.Town Go.Proofs
open Go.ConcN (upd upd_ne upd_same)
noncomputable def ops8b : Array Oper := match headC 20 body8 with | .region _ o _ => o | _ => #[]
theorem head20k : headC 20 body8 = .region 27 ops8b false := by kernel_rfl
section
variable {C : Cfg} {b o Bd kb k6 : Nat} {wl : World} {q : List UInt8} {f t : Int} {J : List (List Int)} {tc : Nat} {ta : Option Addr} {g : Bool} {R1 R2 : List Int} {E : ByteArray} {A : Int} {a1 a2 : Option Addr} {c1 c2 : Nat} {b8 k9 : Nat} {d1 d2 : Option Addr} {e1 e2 : Nat} {v : Int}
set_option maxRecDepth 100000 in
set_option maxHeartbeats 2000000 in
theorem law8_g {z3 z5 z14 z15 z16 z17 z18 z19 z20 z21 z22 z23 z24 z25 z26 z27 z28 z29 z30 z31 z32 z33 z34 z35 z36 z37 z38 z39 z40 z41 z42 z43 z44 z45 z46 z47 z48 z49 z50 z51 z52 z53 z54 z55 z56 z57 z58 z59 z60 z61 z62 z63 z64 z65 z66 z67 z68 z69 z70 z71 z72 z73 z74 z75 z76 z77 z78 z79 z80 z81 z82 z83 z84 z85 z86 z87 z88 z89 z90 z91 z92 z93 z94 z95 z96 z97 z98 z99 z100 z101 z102 z103 z104 z105 z106 z107 z108 : Value} (hn : J.length ≤ 1048576) (hm : ∀ l ∈ J, l.length ≤ 1048576) (hBd : Bd < 2000000000) (hD : Kd q f t J g R1 R2 E A) (hL : Lay C wl) (hs : Base8 q f t J ta kb k6 a1 a2 c1 c2 R1 R2 E A wl) (hr9 : Reads wl k9 [.slice d1 R1.length e1, .slice d2 R2.length e2, .string E, .int .i64 A]) (hq1 : CountS wl d1 1 R1.length) (hq2 : CountS wl d2 (1 + (R1.length : Nat)) R2.length) (hz9 : k9 < wl.heap.size)
    (next : ∀ (C' : Cfg) (b' o' k14 B₁ : Nat) (m1 m2 : Option Addr) (n1 n2 : Nat) (w : World) (z3 z5 z16 z17 z18 z19 z20 z21 z22 z23 z24 z25 z26 z27 z28 z29 z30 z31 z32 z33 z34 z35 z36 z37 z38 z39 z40 z41 z42 z43 z44 z45 z46 z47 z48 z49 z50 z51 z52 z53 z54 z55 z56 z57 z58 z59 z60 z61 z62 z63 z64 z65 z66 z67 z68 z69 z70 z71 z72 z73 z74 z75 z76 z77 z78 z79 z80 z81 z82 z83 z84 z85 z86 z87 z88 z89 z90 z91 z92 z93 z94 z95 z96 z97 z98 z99 z100 z101 z102 z103 z104 z105 z106 z107 z108 : Value), Lay C' w → Base8 q f t J ta kb k6 a1 a2 c1 c2 R1 R2 E A w → Reads w k9 [.slice d1 R1.length e1, .slice d2 R2.length e2, .string E, .int .i64 A] → CountS w d1 1 R1.length → CountS w d2 (1 + (R1.length : Nat)) R2.length → k9 < w.heap.size → Impl8 B₁ R1 R2 E A k14 m1 m2 n1 n2 w → Can Try.prog C' b' o' (fun v _ => v = .bool true) 0 (AloneB (Bd + 400)) w (G ((base 8).at ⟨#[.agg #[.string ⟨q.toArray⟩, .int .i64 f, .int .i64 t], .slice ta J.length tc, .pointer (some ⟨kb, 0, none⟩), z3, .bool false, z5, .pointer (some ⟨k6, 0, none⟩), .bool g, .slice (some ⟨b8, 0, none⟩) J.length J.length, .pointer (some ⟨k9, 0, none⟩), .bool g, .int .i64 v, .int .i64 (1 + (R1.length : Nat) + (R2.length : Nat)), .int .i64 (1 + (R1.length : Nat) + (R2.length : Nat)), .pointer (some ⟨k14, 0, none⟩), .bool g, z16, z17, z18, z19, z20, z21, z22, z23, z24, z25, z26, z27, z28, z29, z30, z31, z32, z33, z34, z35, z36, z37, z38, z39, z40, z41, z42, z43, z44, z45, z46, z47, z48, z49, z50, z51, z52, z53, z54, z55, z56, z57, z58, z59, z60, z61, z62, z63, z64, z65, z66, z67, z68, z69, z70, z71, z72, z73, z74, z75, z76, z77, z78, z79, z80, z81, z82, z83, z84, z85, z86, z87, z88, z89, z90, z91, z92, z93, z94, z95, z96, z97, z98, z99, z100, z101, z102, z103, z104, z105, z106, z107, z108], []⟩ [.code (tailC 21 body8)]) [])) :
    Can Try.prog C b o (fun v _ => v = .bool true) 0 (AloneB Bd) wl (G ((base 8).at ⟨#[.agg #[.string ⟨q.toArray⟩, .int .i64 f, .int .i64 t], .slice ta J.length tc, .pointer (some ⟨kb, 0, none⟩), z3, .bool false, z5, .pointer (some ⟨k6, 0, none⟩), .bool g, .slice (some ⟨b8, 0, none⟩) J.length J.length, .pointer (some ⟨k9, 0, none⟩), .bool g, .int .i64 v, .int .i64 (1 + (R1.length : Nat) + (R2.length : Nat)), .int .i64 (1 + (R1.length : Nat) + (R2.length : Nat)), z14, z15, z16, z17, z18, z19, z20, z21, z22, z23, z24, z25, z26, z27, z28, z29, z30, z31, z32, z33, z34, z35, z36, z37, z38, z39, z40, z41, z42, z43, z44, z45, z46, z47, z48, z49, z50, z51, z52, z53, z54, z55, z56, z57, z58, z59, z60, z61, z62, z63, z64, z65, z66, z67, z68, z69, z70, z71, z72, z73, z74, z75, z76, z77, z78, z79, z80, z81, z82, z83, z84, z85, z86, z87, z88, z89, z90, z91, z92, z93, z94, z95, z96, z97, z98, z99, z100, z101, z102, z103, z104, z105, z106, z107, z108], []⟩ [.code (tailC 20 body8)]) []) := by
  have hS := steady_aloneB Bd
  have e20 : tailC 20 body8 = .seq (headC 20 body8) (tailC 21 body8) := by kernel_rfl
  rw [e20]
  refine Can.ctl hS hL rfl (fun _ => stepG_seq) ?_
  rw [head20k]
  generalize hK : [Item.code (tailC 21 body8)] = K₁
  simp only [ops8b, headC, body8, Try.f8, Option.getD_some]
  refine Can.ctl hS hL rfl (fun _ => stepG_region) ?_; simp only [List.size_toArray, List.length_cons, List.length_nil, Nat.reduceAdd, Nat.zero_add, List.range, List.range.loop]
  refine Can.op (ok := okK) hS hL rfl rfl (by k_ne) (by kernel_rfl) (fun T d => ⟨.agg #[.string ⟨q.toArray⟩, .int .i64 f, .int .i64 t], wl.re T d, ?_, fun _ => Can.re ?_ T d⟩)
  · have g0 : (wl.re T d).cell? ⟨kb, 0, none⟩ = some (.string ⟨q.toArray⟩) := (hs.keeper 0 (by simp)).1
    have g1 : (wl.re T d).cell? ⟨kb, 1, none⟩ = some (.int .i64 f) := (hs.keeper 1 (by simp)).1
    have g2 : (wl.re T d).cell? ⟨kb, 2, none⟩ = some (.int .i64 t) := (hs.keeper 2 (by simp)).1
    go_simp
  walk_nrm
  refine Can.ctl hS hL rfl (fun _ => st_enter' (vs := #[.agg #[.string ⟨q.toArray⟩, .int .i64 f, .int .i64 t]]) rfl rfl (by k_ne) rfl Try.func18 rfl rfl (by kernel_rfl)) ?_
  refine Can.call okProgK hS hL (by kernel_rfl) (by kernel_rfl) (fun T d => (toKeeper_any ⟨q.toArray⟩ f t (wl.re T d)).mono ?_)
  rintro e w₀ ⟨rfl, hb0⟩
  refine ⟨_, rfl, fun hc => ?_⟩
  have K0 : Kin wl.heap.size wl w₀ := bwre hb0
  have hL0 : Lay C w₀ := ⟨hc, hL.no⟩
  have hs0 := hs.kin (K0.le hs.low)
  clear hb0 hc
  rw [Frame.finish_at]
  walk_nrm
  refine Can.op (ok := okK) hS hL0 rfl rfl (by k_ne) (by kernel_rfl) (fun T d => ⟨.slice ta J.length tc, w₀.re T d, ?_, fun _ => Can.re ?_ T d⟩)
  · go_simp
  walk_nrm
  refine Can.ctl hS hL0 rfl (fun _ => st_enter' (vs := #[.slice ta J.length tc]) rfl rfl (by k_ne) rfl Try.func19 rfl rfl (by kernel_rfl)) ?_
  refine Can.call okProgK hS hL0 (by kernel_rfl) (by kernel_rfl) (fun T d => (toIntSS_any ta tc J (w₀.re T d) hn hm (RowsIn.re hs0.rowsAt T d)).mono ?_)
  rintro e w₁ ⟨rfl, hC1, hb1⟩
  refine ⟨_, rfl, fun hc => ?_⟩
  have K1 : Kin wl.heap.size wl w₁ := K0.trans ((bwre hb1).le K0.size)
  have hL1 : Lay C w₁ := ⟨hc, hL.no⟩
  have hr1 := hC1.rows
  clear hb1 hL0 hc hC1 K0 hs0
  rw [Frame.finish_at]
  walk_nrm
  refine Can.ctl hS hL1 rfl (fun _ => st_enter' (vs := #[.agg #[.string ⟨q.toArray⟩, .int .i64 f, .int .i64 t], .slice (some ⟨w₀.heap.size, 0, none⟩) J.length J.length]) rfl rfl (by k_ne) rfl Try.func10 rfl rfl (by kernel_rfl)) ?_
  refine call10 hn hm hBd hL1 hr1 hD ?_
  intro C' b' o' m1 m2 n1 n2 w hL' K hI
  walk_nrm
  have hS' := steady_aloneB (Bd + 400)
  have K5 : Kin wl.heap.size wl w := K1.trans (K.le K1.size)
  refine Can.op (ok := okK) hS' hL' rfl rfl (by k_ne) (by kernel_rfl) (fun T d => ⟨.tuple #[.agg #[.slice m1 R1.length n1, .slice m2 R2.length n2, .string E, .int .i64 A], .bool g], w.re T d, ?_, fun _ => Can.re ?_ T d⟩)
  · go_simp
  walk_nrm
  refine Can.op (ok := okK) hS' hL' rfl rfl (by k_ne) (by kernel_rfl) (fun T d => ⟨.agg #[.slice m1 R1.length n1, .slice m2 R2.length n2, .string E, .int .i64 A], w.re T d, ?_, fun _ => Can.re ?_ T d⟩)
  · go_simp
  walk_nrm
  refine Can.op (ok := okK) hS' hL' rfl rfl (by k_ne) (by kernel_rfl) (fun T d => ⟨.bool g, w.re T d, ?_, fun _ => Can.re ?_ T d⟩)
  · go_simp
  walk_nrm
  refine Can.op (ok := okK) hS' hL' rfl rfl (by k_ne) (by kernel_rfl) (fun T d => ⟨.pointer (some ⟨w.heap.size, 0, none⟩), (w.re T d).alloc (.cells #[.slice none 0 0, .slice none 0 0, .string ⟨#[]⟩, .int .i64 0] 30), ?_, fun hc => ?_⟩)
  · have hz : (w.re T d).heap.size = w.heap.size := rfl
    go_simp
  walk_nrm
  obtain ⟨w₂, hw₂⟩ : ∃ x, x = (w.re T d).alloc (.cells #[.slice none 0 0, .slice none 0 0, .string ⟨#[]⟩, .int .i64 0] 30) := ⟨_, rfl⟩
  rw [← hw₂] at hc ⊢
  have hL₂ : Lay C' w₂ := ⟨hc, hL'.no⟩
  have hr₂ : Reads w₂ w.heap.size [.slice none 0 0, .slice none 0 0, .string ⟨#[]⟩, .int .i64 0] := reads_block (t := 30) (by rw [hw₂]; exact alloc_self (w.re T d) _)
  have K₂ : Kin w.heap.size w w₂ := by rw [hw₂]; exact ((Grown.refl w).re T d |>.alloc _).kin (Nat.le_refl _)
  have z₂ : w₂.heap.size = w.heap.size + 1 := by rw [hw₂, World.size_alloc]; rfl
  clear hw₂ hc
  obtain ⟨⟨v0, v1, v2, v3, c0, c1', c2', c3⟩, hf⟩ := set4_op hr₂ rfl
  refine Can.opN (ok := okK) hS' hL₂ rfl rfl (by k_ne) (by kernel_rfl) (fun T d => ⟨set4 (w₂.re T d) w.heap.size (.slice m1 R1.length n1) (.slice m2 R2.length n2) (.string E) (.int .i64 A), ?_, fun hc => ?_⟩)
  · have c0 : (w₂.re T d).cell? ⟨w.heap.size, 0, none⟩ = some v0 := c0
    have c1 : (w₂.re T d).cell? ⟨w.heap.size, 1, none⟩ = some v1 := c1'
    have c2 : (w₂.re T d).cell? ⟨w.heap.size, 2, none⟩ = some v2 := c2'
    have c3 : (w₂.re T d).cell? ⟨w.heap.size, 3, none⟩ = some v3 := c3
    have f0 : (w₂.re T d).frozen? ⟨w.heap.size, 0, none⟩ = false := hf 0 (by omega)
    have f1 : (w₂.re T d).frozen? ⟨w.heap.size, 1, none⟩ = false := hf 1 (by omega)
    have f2 : (w₂.re T d).frozen? ⟨w.heap.size, 2, none⟩ = false := hf 2 (by omega)
    have f3 : (w₂.re T d).frozen? ⟨w.heap.size, 3, none⟩ = false := hf 3 (by omega)
    generalize w₂.re T d = W at *
    unfold set4
    go_simp
  walk_nrm
  obtain ⟨p1, p2, p3⟩ := put4 (B := w.heap.size) hr₂ rfl (Nat.le_refl _) (.slice m1 R1.length n1) (.slice m2 R2.length n2) (.string E) (.int .i64 A) T d
  generalize set4 (w₂.re T d) w.heap.size (.slice m1 R1.length n1) (.slice m2 R2.length n2) (.string E) (.int .i64 A) = w₄ at *
  have hL₄ : Lay C' w₄ := ⟨hc, hL'.no⟩
  have K₄ := K₂.trans p1
  clear c0 c1' c2' c3 hf hc
  refine Can.op (ok := okK) hS' hL₄ rfl rfl (by k_ne) (by kernel_rfl) (fun T d => ⟨.bool g, w₄.re T d, ?_, fun _ => Can.re ?_ T d⟩)
  · go_simp
  walk_nrm
  refine Can.ctl hS' hL₄ rfl (fun _ => stepG_region_end) ?_
  subst hK
  have K6 : Kin wl.heap.size wl w₄ := K5.trans (K₄.le K5.size)
  exact next C' b' o' w.heap.size w₁.heap.size m1 m2 n1 n2 w₄ _ _ _ _ _ _ _ _ _ _ _ _ _ _ _ _ _ _ _ _ _ _ _ _ _ _ _ _ _ _ _ _ _ _ _ _ _ _ _ _ _ _ _ _ _ _ _ _ _ _ _ _ _ _ _ _ _ _ _ _ _ _ _ _ _ _ _ _ _ _ _ _ _ _ _ _ _ _ _ _ _ _ _ _ _ _ _ _ _ _ _ _ _ _ _ hL₄ (hs.kin (K6.le hs.low)) (hr9.kin K6 hz9) (hq1.kin K6 hq1.lt) (hq2.kin K6 hq2.lt) (Nat.lt_of_lt_of_le hz9 K6.size) ⟨hI.kin K₄, p2, (fun g e => (hI.lo1 g e).2), (fun g e => (hI.lo2 g e).2), K.size, by omega⟩
end
end Go.Town.Kp
namespace Go.Town.Kp
open Go Go.Conc Go.Conc.Lib Go.ConcR.Gen Go.RowKit Go.Town Go.Proofs
open Go.ConcN (upd upd_ne upd_same)
section
variable {C : Cfg} {b o Bd kb k6 : Nat} {wl : World} {q : List UInt8} {f t : Int} {J : List (List Int)} {tc : Nat} {ta : Option Addr} {g : Bool} {R1 R2 : List Int} {E : ByteArray} {A : Int} {a1 a2 : Option Addr} {c1 c2 : Nat} {b8 k9 k14 B₁ : Nat} {d1 d2 m1 m2 : Option Addr} {e1 e2 n1 n2 : Nat} {v : Int}
set_option maxRecDepth 100000 in
set_option maxHeartbeats 2000000 in
theorem law8_h {z3 z5 z16 z17 z18 z19 z20 z21 z22 z23 z24 z25 z26 z27 z28 z29 z30 z31 z32 z33 z34 z35 z36 z37 z38 z39 z40 z41 z42 z43 z44 z45 z46 z47 z48 z49 z50 z51 z52 z53 z54 z55 z56 z57 z58 z59 z60 z61 z62 z63 z64 z65 z66 z67 z68 z69 z70 z71 z72 z73 z74 z75 z76 z77 z78 z79 z80 z81 z82 z83 z84 z85 z86 z87 z88 z89 z90 z91 z92 z93 z94 z95 z96 z97 z98 z99 z100 z101 z102 z103 z104 z105 z106 z107 z108 : Value} (hn1 : R1.length ≤ 1048576) (hn2 : R2.length ≤ 1048576) (hL : Lay C wl) (hs : Base8 q f t J ta kb k6 a1 a2 c1 c2 R1 R2 E A wl) (hr9 : Reads wl k9 [.slice d1 R1.length e1, .slice d2 R2.length e2, .string E, .int .i64 A]) (hq1 : CountS wl d1 1 R1.length) (hq2 : CountS wl d2 (1 + (R1.length : Nat)) R2.length) (hz9 : k9 < wl.heap.size) (hI : Impl8 B₁ R1 R2 E A k14 m1 m2 n1 n2 wl) :
    Can Try.prog C b o (fun v _ => v = .bool true) 0 (AloneB Bd) wl (G ((base 8).at ⟨#[.agg #[.string ⟨q.toArray⟩, .int .i64 f, .int .i64 t], .slice ta J.length tc, .pointer (some ⟨kb, 0, none⟩), z3, .bool false, z5, .pointer (some ⟨k6, 0, none⟩), .bool g, .slice (some ⟨b8, 0, none⟩) J.length J.length, .pointer (some ⟨k9, 0, none⟩), .bool g, .int .i64 v, .int .i64 (1 + (R1.length : Nat) + (R2.length : Nat)), .int .i64 (1 + (R1.length : Nat) + (R2.length : Nat)), .pointer (some ⟨k14, 0, none⟩), .bool g, z16, z17, z18, z19, z20, z21, z22, z23, z24, z25, z26, z27, z28, z29, z30, z31, z32, z33, z34, z35, z36, z37, z38, z39, z40, z41, z42, z43, z44, z45, z46, z47, z48, z49, z50, z51, z52, z53, z54, z55, z56, z57, z58, z59, z60, z61, z62, z63, z64, z65, z66, z67, z68, z69, z70, z71, z72, z73, z74, z75, z76, z77, z78, z79, z80, z81, z82, z83, z84, z85, z86, z87, z88, z89, z90, z91, z92, z93, z94, z95, z96, z97, z98, z99, z100, z101, z102, z103, z104, z105, z106, z107, z108], []⟩ [.code (tailC 21 body8)]) []) := by
  have hS := steady_aloneB Bd
  have e21 : tailC 21 body8 = .seq (headC 21 body8) (tailC 22 body8) := by kernel_rfl
  have e22 : tailC 22 body8 = .seq (headC 22 body8) (tailC 23 body8) := by kernel_rfl
  have e23 : tailC 23 body8 = .seq (headC 23 body8) (tailC 24 body8) := by kernel_rfl
  have e24 : tailC 24 body8 = .seq (headC 24 body8) (tailC 25 body8) := by kernel_rfl
  have e25 : tailC 25 body8 = .seq (headC 25 body8) (tailC 26 body8) := by kernel_rfl
  have e26 : tailC 26 body8 = .seq (headC 26 body8) (tailC 27 body8) := by kernel_rfl
  have e27 : tailC 27 body8 = .ret := by kernel_rfl
  rw [e21]
  refine Can.ctl hS hL rfl (fun _ => stepG_seq) ?_
  refine Can.code' okProgK hS hL (okFr_at (by kernel_rfl) rfl rfl ⟨_, Try.func8⟩) ?_
  intro T d W hW B hB
  have hk140 : W.cell? ⟨k14, 0, none⟩ = some (.slice m1 R1.length n1) := by rw [hW.out]; exact (hI.reads 0 (by simp)).1
  have hk141 : W.cell? ⟨k14, 1, none⟩ = some (.slice m2 R2.length n2) := by rw [hW.out]; exact (hI.reads 1 (by simp)).1
  have hk142 : W.cell? ⟨k14, 2, none⟩ = some (.string E) := by rw [hW.out]; exact (hI.reads 2 (by simp)).1
  have hk143 : W.cell? ⟨k14, 3, none⟩ = some (.int .i64 A) := by rw [hW.out]; exact (hI.reads 3 (by simp)).1
  have hk60 : W.cell? ⟨k6, 0, none⟩ = some (.slice a1 R1.length c1) := by rw [hW.out]; exact (hs.kept 0 (by simp)).1
  have hk61 : W.cell? ⟨k6, 1, none⟩ = some (.slice a2 R2.length c2) := by rw [hW.out]; exact (hs.kept 1 (by simp)).1
  have hk62 : W.cell? ⟨k6, 2, none⟩ = some (.string E) := by rw [hW.out]; exact (hs.kept 2 (by simp)).1
  have hk63 : W.cell? ⟨k6, 3, none⟩ = some (.int .i64 A) := by rw [hW.out]; exact (hs.kept 3 (by simp)).1
  have c29 : RowKit.Hid (Calls Try.prog 29 #[.agg #[.slice m1 R1.length n1, .slice m2 R2.length n2, .string E, .int .i64 A], .agg #[.slice a1 R1.length c1, .slice a2 R2.length c2, .string E, .int .i64 A]] W fun e w' => e = .returned (.bool true) ∧ Below W.heap.size W w') := eqKept_any hn1 hn2 (IntsIn.same hI.ans.i1 (by rw [hW.out]; rfl)) (IntsIn.same hI.ans.i2 (by rw [hW.out]; rfl)) (IntsIn.same hs.i1At (by rw [hW.out]; rfl)) (IntsIn.same hs.i2At (by rw [hW.out]; rfl))
  simp only [headC, body8, Try.f8, Option.getD_some]
  go_wp2_with (go_at_call 29; (with_reducible refine c29.out.mono ?_); rintro e w1 ⟨rfl, hb1⟩)
  have hB := hB.out
  subst hB
  intro hc
  have hW := hW.out
  subst hW
  have K := bwre hb1
  have hL1 : Lay C w1 := ⟨hc, hL.no⟩
  replace hr9 : Reads w1 k9 _ := hr9.kin K hz9
  replace hq1 : CountS w1 d1 1 R1.length := hq1.kin K hq1.lt
  replace hq2 : CountS w1 d2 (1 + (R1.length : Nat)) R2.length := hq2.kin K hq2.lt
  clear hc hB hW c29 hb1 K hI hs hk60 hk61 hk62 hk63 hk140 hk141 hk142 hk143
  rw [e22]
  refine Can.ctl hS hL1 rfl (fun _ => stepG_seq) ?_
  refine Can.code' okProgK hS hL1 (okFr_at (by kernel_rfl) rfl rfl ⟨_, Try.func8⟩) ?_
  intro T d W hW B hB
  simp only [headC, body8, Try.f8, Option.getD_some]
  go_wp2
  have hB := hB.out
  subst hB
  intro hc
  have hW := hW.out
  subst hW
  refine Can.re ?_ T d
  clear hc hB hW
  rw [e23]
  refine Can.ctl hS hL1 rfl (fun _ => stepG_seq) ?_
  refine Can.code' okProgK hS hL1 (okFr_at (by kernel_rfl) rfl rfl ⟨_, Try.func8⟩) ?_
  intro T d W hW B hB
  have hk90 : W.cell? ⟨k9, 0, none⟩ = some (.slice d1 R1.length e1) := by rw [hW.out]; exact (hr9 0 (by simp)).1
  have hk91 : W.cell? ⟨k9, 1, none⟩ = some (.slice d2 R2.length e2) := by rw [hW.out]; exact (hr9 1 (by simp)).1
  have hk92 : W.cell? ⟨k9, 2, none⟩ = some (.string E) := by rw [hW.out]; exact (hr9 2 (by simp)).1
  have hk93 : W.cell? ⟨k9, 3, none⟩ = some (.int .i64 A) := by rw [hW.out]; exact (hr9 3 (by simp)).1
  have c31 : RowKit.Hid (Calls Try.prog 31 #[.agg #[.slice d1 R1.length e1, .slice d2 R2.length e2, .string E, .int .i64 A], .int .i64 1] W fun e w' => e = .returned (.int .i64 (1 + (R1.length : Nat) + (R2.length : Nat))) ∧ Below W.heap.size W w') := heldKept_any hn1 hn2 (by omega) (by omega) (by rw [hW.out]; exact hq1) (by rw [hW.out]; exact hq2)
  simp only [headC, body8, Try.f8, Option.getD_some]
  go_wp2_with (go_at_call 31; (with_reducible refine c31.out.mono ?_); rintro e w3 ⟨rfl, hb3⟩)
  have hB := hB.out
  subst hB
  intro hc
  have hW := hW.out
  subst hW
  have hL3 : Lay C w3 := ⟨hc, hL.no⟩
  have hp : RowKit.Hid (¬ ((1 : Int) + (R1.length : Int) + (R2.length : Int) < 0)) := by show ¬ _; omega
  clear hc hB hW c31 hb3 hk90 hk91 hk92 hk93
  rw [e24]
  refine Can.ctl hS hL3 rfl (fun _ => stepG_seq) ?_
  refine Can.code' okProgK hS hL3 (okFr_at (by kernel_rfl) rfl rfl ⟨_, Try.func8⟩) ?_
  intro T d W hW B hB
  have hp := hp.out
  simp only [headC, body8, Try.f8, Option.getD_some]
  go_wp2
  have hB := hB.out
  subst hB
  intro hc
  have hW := hW.out
  subst hW
  refine Can.re ?_ T d
  clear hc hB hW hp
  rw [e25]
  refine Can.ctl hS hL3 rfl (fun _ => stepG_seq) ?_
  refine Can.code' okProgK hS hL3 (okFr_at (by kernel_rfl) rfl rfl ⟨_, Try.func8⟩) ?_
  intro T d W hW B hB
  simp only [headC, body8, Try.f8, Option.getD_some]
  go_wp2
  have hB := hB.out
  subst hB
  intro hc
  have hW := hW.out
  subst hW
  refine Can.re ?_ T d
  clear hc hB hW
  rw [e26]
  refine Can.ctl hS hL3 rfl (fun _ => stepG_seq) ?_
  refine Can.code' okProgK hS hL3 (okFr_at (by kernel_rfl) rfl rfl ⟨_, Try.func8⟩) ?_
  intro T d W hW B hB
  simp only [headC, body8, Try.f8, Option.getD_some]
  go_wp2
  have hB := hB.out
  subst hB
  intro hc
  have hW := hW.out
  subst hW
  refine Can.re ?_ T d
  clear hc hB hW
  rw [e27]
  refine Can.ctl hS hL3 rfl (fun _ => st_ret) ?_
  exact end8 hL3 rfl
end
section
variable {C : Cfg} {b o Bd : Nat} {wl : World} {l : ByteArray} {f t : Int} {J : List (List Int)} {tc : Nat} {ta : Option Addr}
theorem law8 (hBd : Bd < 1000000000) (hL : Lay C wl) (hR : RowsAt wl ta J) (hl : l.size ≤ 9223372036854775807) (hn : J.length ≤ 9223372036854775807) (hm : ∀ l ∈ J, l.length ≤ 9223372036854775807) :
    Can Try.prog C b o (fun v _ => v = .bool true) 0 (AloneB Bd) wl (G ((base 8).at ⟨#[.agg #[.string l, .int .i64 f, .int .i64 t], .slice ta J.length tc, undef, undef, undef, undef, undef, undef, undef, undef, undef, undef, undef, undef, undef, undef, undef, undef, undef, undef, undef, undef, undef, undef, undef, undef, undef, undef, undef, undef, undef, undef, undef, undef, undef, undef, undef, undef, undef, undef, undef, undef, undef, undef, undef, undef, undef, undef, undef, undef, undef, undef, undef, undef, undef, undef, undef, undef, undef, undef, undef, undef, undef, undef, undef, undef, undef, undef, undef, undef, undef, undef, undef, undef, undef, undef, undef, undef, undef, undef, undef, undef, undef, undef, undef, undef, undef, undef, undef, undef, undef, undef, undef, undef, undef, undef, undef, undef, undef, undef, undef, undef, undef, undef, undef, undef, undef, undef, undef], []⟩ [.code body8]) []) := by
  refine law8_a hL hR hl hn hm ?_
  intro q hq kb w z3 z5 z6 z7 z8 z9 z10 z11 z12 z13 z14 z15 z16 z17 z18 z19 z20 z21 z22 z23 z24 z25 z26 z27 z28 z29 z30 z31 z32 z33 z34 z35 z36 z37 z38 z39 z40 z41 z42 z43 z44 z45 z46 z47 z48 z49 z50 z51 z52 z53 z54 z55 z56 z57 z58 z59 z60 z61 z62 z63 z64 z65 z66 z67 z68 z69 z70 z71 z72 z73 z74 z75 z76 z77 z78 z79 z80 z81 z82 z83 z84 z85 z86 z87 z88 z89 z90 z91 z92 z93 z94 z95 z96 z97 z98 z99 z100 z101 z102 z103 z104 z105 z106 z107 z108 hn hm hL hk hR hz
  refine law8_b hn hm hL hk hR hz ?_
  intro k6 a1 a2 c1 c2 R1 R2 E A g w z3 z5 z8 z9 z10 z11 z12 z13 z14 z15 z16 z17 z18 z19 z20 z21 z22 z23 z24 z25 z26 z27 z28 z29 z30 z31 z32 z33 z34 z35 z36 z37 z38 z39 z40 z41 z42 z43 z44 z45 z46 z47 z48 z49 z50 z51 z52 z53 z54 z55 z56 z57 z58 z59 z60 z61 z62 z63 z64 z65 z66 z67 z68 z69 z70 z71 z72 z73 z74 z75 z76 z77 z78 z79 z80 z81 z82 z83 z84 z85 z86 z87 z88 z89 z90 z91 z92 z93 z94 z95 z96 z97 z98 z99 z100 z101 z102 z103 z104 z105 z106 z107 z108 hL hD hs
  obtain ⟨hn1, hn2⟩ := hD.len hn
  refine law8_c hn hm hL hs ?_
  intro b8 w z3 z5 z9 z10 z11 z12 z13 z14 z15 z16 z17 z18 z19 z20 z21 z22 z23 z24 z25 z26 z27 z28 z29 z30 z31 z32 z33 z34 z35 z36 z37 z38 z39 z40 z41 z42 z43 z44 z45 z46 z47 z48 z49 z50 z51 z52 z53 z54 z55 z56 z57 z58 z59 z60 z61 z62 z63 z64 z65 z66 z67 z68 z69 z70 z71 z72 z73 z74 z75 z76 z77 z78 z79 z80 z81 z82 z83 z84 z85 z86 z87 z88 z89 z90 z91 z92 z93 z94 z95 z96 z97 z98 z99 z100 z101 z102 z103 z104 z105 z106 z107 z108 hL hs hC hb8 hkb
  refine law8_d hn hm (by omega) hD hL hs hC hb8 hkb ?_
  intro C' b' o' k9 B₀ d1 d2 e1 e2 w z3 z5 z11 z12 z13 z14 z15 z16 z17 z18 z19 z20 z21 z22 z23 z24 z25 z26 z27 z28 z29 z30 z31 z32 z33 z34 z35 z36 z37 z38 z39 z40 z41 z42 z43 z44 z45 z46 z47 z48 z49 z50 z51 z52 z53 z54 z55 z56 z57 z58 z59 z60 z61 z62 z63 z64 z65 z66 z67 z68 z69 z70 z71 z72 z73 z74 z75 z76 z77 z78 z79 z80 z81 z82 z83 z84 z85 z86 z87 z88 z89 z90 z91 z92 z93 z94 z95 z96 z97 z98 z99 z100 z101 z102 z103 z104 z105 z106 z107 z108 hL hs h8 hO hbB hBz hI
  refine law8_e hn hm hn1 hn2 hL hs h8 hO hkb hbB hBz hI ?_
  intro v w z3 z5 z12 z13 z14 z15 z16 z17 z18 z19 z20 z21 z22 z23 z24 z25 z26 z27 z28 z29 z30 z31 z32 z33 z34 z35 z36 z37 z38 z39 z40 z41 z42 z43 z44 z45 z46 z47 z48 z49 z50 z51 z52 z53 z54 z55 z56 z57 z58 z59 z60 z61 z62 z63 z64 z65 z66 z67 z68 z69 z70 z71 z72 z73 z74 z75 z76 z77 z78 z79 z80 z81 z82 z83 z84 z85 z86 z87 z88 z89 z90 z91 z92 z93 z94 z95 z96 z97 z98 z99 z100 z101 z102 z103 z104 z105 z106 z107 z108 hv hL hs hI
  refine law8_f hn1 hn2 hv hL hs hkb hbB hI ?_
  intro w z3 z5 z14 z15 z16 z17 z18 z19 z20 z21 z22 z23 z24 z25 z26 z27 z28 z29 z30 z31 z32 z33 z34 z35 z36 z37 z38 z39 z40 z41 z42 z43 z44 z45 z46 z47 z48 z49 z50 z51 z52 z53 z54 z55 z56 z57 z58 z59 z60 z61 z62 z63 z64 z65 z66 z67 z68 z69 z70 z71 z72 z73 z74 z75 z76 z77 z78 z79 z80 z81 z82 z83 z84 z85 z86 z87 z88 z89 z90 z91 z92 z93 z94 z95 z96 z97 z98 z99 z100 z101 z102 z103 z104 z105 z106 z107 z108 hL hs hr9 hq1 hq2 hz9
  refine law8_g hn hm (by omega) hD hL hs hr9 hq1 hq2 hz9 ?_
  intro C'' b'' o'' k14 B₁ m1 m2 n1 n2 w z3 z5 z16 z17 z18 z19 z20 z21 z22 z23 z24 z25 z26 z27 z28 z29 z30 z31 z32 z33 z34 z35 z36 z37 z38 z39 z40 z41 z42 z43 z44 z45 z46 z47 z48 z49 z50 z51 z52 z53 z54 z55 z56 z57 z58 z59 z60 z61 z62 z63 z64 z65 z66 z67 z68 z69 z70 z71 z72 z73 z74 z75 z76 z77 z78 z79 z80 z81 z82 z83 z84 z85 z86 z87 z88 z89 z90 z91 z92 z93 z94 z95 z96 z97 z98 z99 z100 z101 z102 z103 z104 z105 z106 z107 z108 hL hs hr9 hq1 hq2 hz9 hI
  exact law8_h hn1 hn2 hL hs hr9 hq1 hq2 hz9 hI
end
end Go.Town.Kp
