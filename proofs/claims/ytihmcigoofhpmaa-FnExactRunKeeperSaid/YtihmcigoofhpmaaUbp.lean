/-
  The law FnExactRunKeeper: the reference's answer, the copy of the tasks.
  The law FnExactRunKeeper: the first call of RunKeeper.
  The law FnExactRunKeeper: the answers are alike; the tasks marked.
-/
import Derived.Test.YtihmcigoofhpmaaUbo
set_option linter.all false
namespace Go.Town.Kp
open Go Go.Conc Go.Conc.Lib Go.ConcR.Gen Go.RowKit Go.Town Go.Proofs
open Go.ConcN (upd upd_ne upd_same)
section
variable {C : Cfg} {b o Bd kb : Nat} {wl : World} {q : List UInt8} {f t : Int} {J : List (List Int)} {tc : Nat} {ta : Option Addr}
set_option maxRecDepth 100000 in
set_option maxHeartbeats 2000000 in
theorem law8_b {z3 z5 z6 z7 z8 z9 z10 z11 z12 z13 z14 z15 z16 z17 z18 z19 z20 z21 z22 z23 z24 z25 z26 z27 z28 z29 z30 z31 z32 z33 z34 z35 z36 z37 z38 z39 z40 z41 z42 z43 z44 z45 z46 z47 z48 z49 z50 z51 z52 z53 z54 z55 z56 z57 z58 z59 z60 z61 z62 z63 z64 z65 z66 z67 z68 z69 z70 z71 z72 z73 z74 z75 z76 z77 z78 z79 z80 z81 z82 z83 z84 z85 z86 z87 z88 z89 z90 z91 z92 z93 z94 z95 z96 z97 z98 z99 z100 z101 z102 z103 z104 z105 z106 z107 z108 : Value} (hn : J.length ≤ 1048576) (hm : ∀ l ∈ J, l.length ≤ 1048576) (hL : Lay C wl) (hk : Reads wl kb [.string ⟨q.toArray⟩, .int .i64 f, .int .i64 t]) (hR : RowsIn kb wl ta J) (hz : kb + 1 ≤ wl.heap.size)
    (next : ∀ (k6 : Nat) (a1 a2 : Option Addr) (c1 c2 : Nat) (R1 R2 : List Int) (E : ByteArray) (A : Int) (g : Bool) (w : World) (z3 z5 z8 z9 z10 z11 z12 z13 z14 z15 z16 z17 z18 z19 z20 z21 z22 z23 z24 z25 z26 z27 z28 z29 z30 z31 z32 z33 z34 z35 z36 z37 z38 z39 z40 z41 z42 z43 z44 z45 z46 z47 z48 z49 z50 z51 z52 z53 z54 z55 z56 z57 z58 z59 z60 z61 z62 z63 z64 z65 z66 z67 z68 z69 z70 z71 z72 z73 z74 z75 z76 z77 z78 z79 z80 z81 z82 z83 z84 z85 z86 z87 z88 z89 z90 z91 z92 z93 z94 z95 z96 z97 z98 z99 z100 z101 z102 z103 z104 z105 z106 z107 z108 : Value), Lay C w → Kd q f t J g R1 R2 E A → Base8 q f t J ta kb k6 a1 a2 c1 c2 R1 R2 E A w → Can Try.prog C b o (fun v _ => v = .bool true) 0 (AloneB Bd) w (G ((base 8).at ⟨#[.agg #[.string ⟨q.toArray⟩, .int .i64 f, .int .i64 t], .slice ta J.length tc, .pointer (some ⟨kb, 0, none⟩), z3, .bool false, z5, .pointer (some ⟨k6, 0, none⟩), .bool g, z8, z9, z10, z11, z12, z13, z14, z15, z16, z17, z18, z19, z20, z21, z22, z23, z24, z25, z26, z27, z28, z29, z30, z31, z32, z33, z34, z35, z36, z37, z38, z39, z40, z41, z42, z43, z44, z45, z46, z47, z48, z49, z50, z51, z52, z53, z54, z55, z56, z57, z58, z59, z60, z61, z62, z63, z64, z65, z66, z67, z68, z69, z70, z71, z72, z73, z74, z75, z76, z77, z78, z79, z80, z81, z82, z83, z84, z85, z86, z87, z88, z89, z90, z91, z92, z93, z94, z95, z96, z97, z98, z99, z100, z101, z102, z103, z104, z105, z106, z107, z108], []⟩ [.code (tailC 7 body8)]) [])) :
    Can Try.prog C b o (fun v _ => v = .bool true) 0 (AloneB Bd) wl (G ((base 8).at ⟨#[.agg #[.string ⟨q.toArray⟩, .int .i64 f, .int .i64 t], .slice ta J.length tc, .pointer (some ⟨kb, 0, none⟩), z3, .bool false, z5, z6, z7, z8, z9, z10, z11, z12, z13, z14, z15, z16, z17, z18, z19, z20, z21, z22, z23, z24, z25, z26, z27, z28, z29, z30, z31, z32, z33, z34, z35, z36, z37, z38, z39, z40, z41, z42, z43, z44, z45, z46, z47, z48, z49, z50, z51, z52, z53, z54, z55, z56, z57, z58, z59, z60, z61, z62, z63, z64, z65, z66, z67, z68, z69, z70, z71, z72, z73, z74, z75, z76, z77, z78, z79, z80, z81, z82, z83, z84, z85, z86, z87, z88, z89, z90, z91, z92, z93, z94, z95, z96, z97, z98, z99, z100, z101, z102, z103, z104, z105, z106, z107, z108], []⟩ [.code (tailC 6 body8)]) []) := by
  have hS := steady_aloneB Bd
  have e6 : tailC 6 body8 = .seq (headC 6 body8) (tailC 7 body8) := by kernel_rfl
  rw [e6]
  refine Can.ctl hS hL rfl (fun _ => stepG_seq) ?_
  refine Can.code' okProgK hS hL (okFr_at (by kernel_rfl) rfl rfl ⟨_, Try.func8⟩) ?_
  intro T d W hW B hB
  have g0 : W.cell? ⟨kb, 0, none⟩ = some (.string ⟨q.toArray⟩) := by rw [hW.out]; exact (hk 0 (by simp)).1
  have g1 : W.cell? ⟨kb, 1, none⟩ = some (.int .i64 f) := by rw [hW.out]; exact (hk 1 (by simp)).1
  have g2 : W.cell? ⟨kb, 2, none⟩ = some (.int .i64 t) := by rw [hW.out]; exact (hk 2 (by simp)).1
  have hRW : RowsAt W ta J := by rw [hW.out]; exact RowsIn.re (hR.kept (B' := wl.heap.size) (fun _ _ _ _ hv => hv) (by omega)) T d
  have c18 : RowKit.Hid (∀ w, Calls Try.prog 18 #[.agg #[.string ⟨q.toArray⟩, .int .i64 f, .int .i64 t]] w fun e w' => e = .returned (.agg #[.string ⟨q.toArray⟩, .int .i64 f, .int .i64 t]) ∧ Below w.heap.size w w') := fun w => toKeeper_any ⟨q.toArray⟩ f t w
  have c19 : RowKit.Hid (∀ w', Below W.heap.size W w' → Calls Try.prog 19 #[.slice ta J.length tc] w' fun e w'' => e = .returned (.slice (some ⟨w'.heap.size, 0, none⟩) J.length J.length) ∧ RowsAt w'' (some ⟨w'.heap.size, 0, none⟩) J ∧ Below W.heap.size W w'') := fun w' hb => (toIntSS_any ta tc J w' hn hm (hRW.below hb (Nat.le_refl _))).mono fun e w'' ⟨he, hC, hB⟩ => ⟨he, hC.rows, hb.trans (hB.mono hb.size)⟩
  have c11 : RowKit.Hid (∀ w' a c, RowsAt w' a J → Calls Try.prog 11 #[.agg #[.string ⟨q.toArray⟩, .int .i64 f, .int .i64 t], .slice a J.length c] w' fun e w'' => ∃ (a1 a2 : Option Addr) (c1 c2 : Nat) (R1 R2 : List Int) (E : ByteArray) (A : Int) (g : Bool), e = .returned (.tuple #[.agg #[.slice a1 R1.length c1, .slice a2 R2.length c2, .string E, .int .i64 A], .bool g]) ∧ Below w'.heap.size w' w'' ∧ RowKit.Hid (Kd q f t J g R1 R2 E A ∧ IntsAt w'' a1 R1 ∧ IntsAt w'' a2 R2)) := fun w' a c h => (specKeep_any hn hm h).mono fun e w'' h => by
    obtain ⟨a1, a2, c1, c2, R1, R2, E, A, g, h1, h2, h3, h4, h5⟩ := keep_spec h
    exact ⟨a1, a2, c1, c2, R1, R2, E, A, g, h1, h2, h3, h4, h5⟩
  have fin : RowKit.Hid (∀ (a1 a2 : Option Addr) (c1 c2 : Nat) (R1 R2 : List Int) (E : ByteArray) (A : Int) (g : Bool) w', Below W.heap.size W w' → RowKit.Hid (Kd q f t J g R1 R2 E A ∧ IntsAt w' a1 R1 ∧ IntsAt w' a2 R2) → Cut (hidOf C) (frzOf C) (w'.alloc (.cells #[.slice a1 R1.length c1, .slice a2 R2.length c2, .string E, .int .i64 A] 30)) → ∀ z3 z5 z8 z9 z10 z11 z12 z13 z14 z15 z16 z17 z18 z19 z20 z21 z22 z23 z24 z25 z26 z27 z28 z29 z30 z31 z32 z33 z34 z35 z36 z37 z38 z39 z40 z41 z42 z43 z44 z45 z46 z47 z48 z49 z50 z51 z52 z53 z54 z55 z56 z57 z58 z59 z60 z61 z62 z63 z64 z65 z66 z67 z68 z69 z70 z71 z72 z73 z74 z75 z76 z77 z78 z79 z80 z81 z82 z83 z84 z85 z86 z87 z88 z89 z90 z91 z92 z93 z94 z95 z96 z97 z98 z99 z100 z101 z102 z103 z104 z105 z106 z107 z108 : Value, Can Try.prog C b o (fun v _ => v = .bool true) 0 (AloneB Bd) (w'.alloc (.cells #[.slice a1 R1.length c1, .slice a2 R2.length c2, .string E, .int .i64 A] 30)) (G ((base 8).at ⟨#[.agg #[.string ⟨q.toArray⟩, .int .i64 f, .int .i64 t], .slice ta J.length tc, .pointer (some ⟨kb, 0, none⟩), z3, .bool false, z5, .pointer (some ⟨w'.heap.size, 0, none⟩), .bool g, z8, z9, z10, z11, z12, z13, z14, z15, z16, z17, z18, z19, z20, z21, z22, z23, z24, z25, z26, z27, z28, z29, z30, z31, z32, z33, z34, z35, z36, z37, z38, z39, z40, z41, z42, z43, z44, z45, z46, z47, z48, z49, z50, z51, z52, z53, z54, z55, z56, z57, z58, z59, z60, z61, z62, z63, z64, z65, z66, z67, z68, z69, z70, z71, z72, z73, z74, z75, z76, z77, z78, z79, z80, z81, z82, z83, z84, z85, z86, z87, z88, z89, z90, z91, z92, z93, z94, z95, z96, z97, z98, z99, z100, z101, z102, z103, z104, z105, z106, z107, z108], []⟩ [.code (tailC 7 body8)]) [])) := by
    intro a1 a2 c1 c2 R1 R2 E A g w' hb hs hc z3 z5 z8 z9 z10 z11 z12 z13 z14 z15 z16 z17 z18 z19 z20 z21 z22 z23 z24 z25 z26 z27 z28 z29 z30 z31 z32 z33 z34 z35 z36 z37 z38 z39 z40 z41 z42 z43 z44 z45 z46 z47 z48 z49 z50 z51 z52 z53 z54 z55 z56 z57 z58 z59 z60 z61 z62 z63 z64 z65 z66 z67 z68 z69 z70 z71 z72 z73 z74 z75 z76 z77 z78 z79 z80 z81 z82 z83 z84 z85 z86 z87 z88 z89 z90 z91 z92 z93 z94 z95 z96 z97 z98 z99 z100 z101 z102 z103 z104 z105 z106 z107 z108
    have hW := hW.out
    subst hW
    have K := bwre hb
    obtain ⟨h1, h2, h3⟩ := hs.out
    have n1 : Kin w'.heap.size w' (w'.alloc (.cells #[.slice a1 R1.length c1, .slice a2 R2.length c2, .string E, .int .i64 A] 30)) := ((Grown.refl w').alloc _).kin (Nat.le_refl _)
    have n2 : Reads (w'.alloc (.cells #[.slice a1 R1.length c1, .slice a2 R2.length c2, .string E, .int .i64 A] 30)) w'.heap.size [.slice a1 R1.length c1, .slice a2 R2.length c2, .string E, .int .i64 A] := reads_block (t := 30) (alloc_self w' _)
    have n3 : (w'.alloc (.cells #[.slice a1 R1.length c1, .slice a2 R2.length c2, .string E, .int .i64 A] 30)).heap.size = w'.heap.size + 1 := World.size_alloc ..
    have K2 := K.trans (n1.le K.size)
    exact next w'.heap.size a1 a2 c1 c2 R1 R2 E A g _ _ _ _ _ _ _ _ _ _ _ _ _ _ _ _ _ _ _ _ _ _ _ _ _ _ _ _ _ _ _ _ _ _ _ _ _ _ _ _ _ _ _ _ _ _ _ _ _ _ _ _ _ _ _ _ _ _ _ _ _ _ _ _ _ _ _ _ _ _ _ _ _ _ _ _ _ _ _ _ _ _ _ _ _ _ _ _ _ _ _ _ _ _ _ _ _ _ _ _ _ _ _ _ ⟨hc, hL.no⟩ h1 ⟨hk.kin K2 (by omega), hR.kept (K2.le (B' := kb) (by omega)).cells (Nat.le_refl _), n2, h2.kept (B' := w'.heap.size) n1.cells (Nat.le_refl _), h3.kept (B' := w'.heap.size) n1.cells (Nat.le_refl _), by have := K.size; omega, by omega⟩
  clear next hk hR hRW hm hz
  replace hn : RowKit.Hid _ := hn
  simp only [headC, body8, Try.f8, Option.getD_some]
  go_wp2_with (go_at_call 18; (with_reducible refine (c18.out _).mono ?_); rintro e w' ⟨rfl, hb1⟩)
  refine (c19.out _ hb1).mono ?_
  rintro e w2 ⟨rfl, hR2, hb2⟩
  go_wp2_with (go_at_call 11; (with_reducible refine (c11.out _ _ _ hR2).mono ?_); rintro e w3 ⟨a1, a2, c1, c2, R1, R2, E, A, g, rfl, hb3, hs⟩)
  have hB := hB.out
  subst hB
  intro hc
  exact fin.out a1 a2 c1 c2 R1 R2 E A g w3 (hb2.trans (hb3.mono hb2.size)) hs hc _ _ _ _ _ _ _ _ _ _ _ _ _ _ _ _ _ _ _ _ _ _ _ _ _ _ _ _ _ _ _ _ _ _ _ _ _ _ _ _ _ _ _ _ _ _ _ _ _ _ _ _ _ _ _ _ _ _ _ _ _ _ _ _ _ _ _ _ _ _ _ _ _ _ _ _ _ _ _ _ _ _ _ _ _ _ _ _ _ _ _ _ _ _ _ _ _ _ _ _ _ _ _
end
section
variable {C : Cfg} {b o Bd kb k6 : Nat} {wl : World} {q : List UInt8} {f t : Int} {J : List (List Int)} {tc : Nat} {ta : Option Addr} {g : Bool} {R1 R2 : List Int} {E : ByteArray} {A : Int} {a1 a2 : Option Addr} {c1 c2 : Nat}
set_option maxRecDepth 100000 in
set_option maxHeartbeats 2000000 in
theorem law8_c {z3 z5 z8 z9 z10 z11 z12 z13 z14 z15 z16 z17 z18 z19 z20 z21 z22 z23 z24 z25 z26 z27 z28 z29 z30 z31 z32 z33 z34 z35 z36 z37 z38 z39 z40 z41 z42 z43 z44 z45 z46 z47 z48 z49 z50 z51 z52 z53 z54 z55 z56 z57 z58 z59 z60 z61 z62 z63 z64 z65 z66 z67 z68 z69 z70 z71 z72 z73 z74 z75 z76 z77 z78 z79 z80 z81 z82 z83 z84 z85 z86 z87 z88 z89 z90 z91 z92 z93 z94 z95 z96 z97 z98 z99 z100 z101 z102 z103 z104 z105 z106 z107 z108 : Value} (hn : J.length ≤ 1048576) (hm : ∀ l ∈ J, l.length ≤ 1048576) (hL : Lay C wl) (hs : Base8 q f t J ta kb k6 a1 a2 c1 c2 R1 R2 E A wl)
    (next : ∀ (b8 : Nat) (w : World) (z3 z5 z9 z10 z11 z12 z13 z14 z15 z16 z17 z18 z19 z20 z21 z22 z23 z24 z25 z26 z27 z28 z29 z30 z31 z32 z33 z34 z35 z36 z37 z38 z39 z40 z41 z42 z43 z44 z45 z46 z47 z48 z49 z50 z51 z52 z53 z54 z55 z56 z57 z58 z59 z60 z61 z62 z63 z64 z65 z66 z67 z68 z69 z70 z71 z72 z73 z74 z75 z76 z77 z78 z79 z80 z81 z82 z83 z84 z85 z86 z87 z88 z89 z90 z91 z92 z93 z94 z95 z96 z97 z98 z99 z100 z101 z102 z103 z104 z105 z106 z107 z108 : Value), Lay C w → Base8 q f t J ta kb k6 a1 a2 c1 c2 R1 R2 E A w → Copied b8 J J.length w → b8 < w.heap.size → k6 < b8 → Can Try.prog C b o (fun v _ => v = .bool true) 0 (AloneB Bd) w (G ((base 8).at ⟨#[.agg #[.string ⟨q.toArray⟩, .int .i64 f, .int .i64 t], .slice ta J.length tc, .pointer (some ⟨kb, 0, none⟩), z3, .bool false, z5, .pointer (some ⟨k6, 0, none⟩), .bool g, .slice (some ⟨b8, 0, none⟩) J.length J.length, z9, z10, z11, z12, z13, z14, z15, z16, z17, z18, z19, z20, z21, z22, z23, z24, z25, z26, z27, z28, z29, z30, z31, z32, z33, z34, z35, z36, z37, z38, z39, z40, z41, z42, z43, z44, z45, z46, z47, z48, z49, z50, z51, z52, z53, z54, z55, z56, z57, z58, z59, z60, z61, z62, z63, z64, z65, z66, z67, z68, z69, z70, z71, z72, z73, z74, z75, z76, z77, z78, z79, z80, z81, z82, z83, z84, z85, z86, z87, z88, z89, z90, z91, z92, z93, z94, z95, z96, z97, z98, z99, z100, z101, z102, z103, z104, z105, z106, z107, z108], []⟩ [.code (tailC 8 body8)]) [])) :
    Can Try.prog C b o (fun v _ => v = .bool true) 0 (AloneB Bd) wl (G ((base 8).at ⟨#[.agg #[.string ⟨q.toArray⟩, .int .i64 f, .int .i64 t], .slice ta J.length tc, .pointer (some ⟨kb, 0, none⟩), z3, .bool false, z5, .pointer (some ⟨k6, 0, none⟩), .bool g, z8, z9, z10, z11, z12, z13, z14, z15, z16, z17, z18, z19, z20, z21, z22, z23, z24, z25, z26, z27, z28, z29, z30, z31, z32, z33, z34, z35, z36, z37, z38, z39, z40, z41, z42, z43, z44, z45, z46, z47, z48, z49, z50, z51, z52, z53, z54, z55, z56, z57, z58, z59, z60, z61, z62, z63, z64, z65, z66, z67, z68, z69, z70, z71, z72, z73, z74, z75, z76, z77, z78, z79, z80, z81, z82, z83, z84, z85, z86, z87, z88, z89, z90, z91, z92, z93, z94, z95, z96, z97, z98, z99, z100, z101, z102, z103, z104, z105, z106, z107, z108], []⟩ [.code (tailC 7 body8)]) []) := by
  have hS := steady_aloneB Bd
  have e7 : tailC 7 body8 = .seq (headC 7 body8) (tailC 8 body8) := by kernel_rfl
  rw [e7]
  refine Can.ctl hS hL rfl (fun _ => stepG_seq) ?_
  refine Can.code' okProgK hS hL (okFr_at (by kernel_rfl) rfl rfl ⟨_, Try.func8⟩) ?_
  intro T d W hW B hB
  have hRW : RowsAt W ta J := by rw [hW.out]; exact RowsIn.re hs.rowsAt T d
  have c19 : RowKit.Hid (Calls Try.prog 19 #[.slice ta J.length tc] W fun e w'' => e = .returned (.slice (some ⟨W.heap.size, 0, none⟩) J.length J.length) ∧ Copied W.heap.size J J.length w'' ∧ Below W.heap.size W w'') := toIntSS_any ta tc J W hn hm hRW
  have fin : RowKit.Hid (∀ w', Below W.heap.size W w' → Copied W.heap.size J J.length w' → Cut (hidOf C) (frzOf C) w' → ∀ z3 z5 z9 z10 z11 z12 z13 z14 z15 z16 z17 z18 z19 z20 z21 z22 z23 z24 z25 z26 z27 z28 z29 z30 z31 z32 z33 z34 z35 z36 z37 z38 z39 z40 z41 z42 z43 z44 z45 z46 z47 z48 z49 z50 z51 z52 z53 z54 z55 z56 z57 z58 z59 z60 z61 z62 z63 z64 z65 z66 z67 z68 z69 z70 z71 z72 z73 z74 z75 z76 z77 z78 z79 z80 z81 z82 z83 z84 z85 z86 z87 z88 z89 z90 z91 z92 z93 z94 z95 z96 z97 z98 z99 z100 z101 z102 z103 z104 z105 z106 z107 z108 : Value, Can Try.prog C b o (fun v _ => v = .bool true) 0 (AloneB Bd) w' (G ((base 8).at ⟨#[.agg #[.string ⟨q.toArray⟩, .int .i64 f, .int .i64 t], .slice ta J.length tc, .pointer (some ⟨kb, 0, none⟩), z3, .bool false, z5, .pointer (some ⟨k6, 0, none⟩), .bool g, .slice (some ⟨W.heap.size, 0, none⟩) J.length J.length, z9, z10, z11, z12, z13, z14, z15, z16, z17, z18, z19, z20, z21, z22, z23, z24, z25, z26, z27, z28, z29, z30, z31, z32, z33, z34, z35, z36, z37, z38, z39, z40, z41, z42, z43, z44, z45, z46, z47, z48, z49, z50, z51, z52, z53, z54, z55, z56, z57, z58, z59, z60, z61, z62, z63, z64, z65, z66, z67, z68, z69, z70, z71, z72, z73, z74, z75, z76, z77, z78, z79, z80, z81, z82, z83, z84, z85, z86, z87, z88, z89, z90, z91, z92, z93, z94, z95, z96, z97, z98, z99, z100, z101, z102, z103, z104, z105, z106, z107, z108], []⟩ [.code (tailC 8 body8)]) [])) := by
    intro w' hb hC hc z3 z5 z9 z10 z11 z12 z13 z14 z15 z16 z17 z18 z19 z20 z21 z22 z23 z24 z25 z26 z27 z28 z29 z30 z31 z32 z33 z34 z35 z36 z37 z38 z39 z40 z41 z42 z43 z44 z45 z46 z47 z48 z49 z50 z51 z52 z53 z54 z55 z56 z57 z58 z59 z60 z61 z62 z63 z64 z65 z66 z67 z68 z69 z70 z71 z72 z73 z74 z75 z76 z77 z78 z79 z80 z81 z82 z83 z84 z85 z86 z87 z88 z89 z90 z91 z92 z93 z94 z95 z96 z97 z98 z99 z100 z101 z102 z103 z104 z105 z106 z107 z108
    have hW := hW.out
    subst hW
    have K := bwre hb
    have hlt : wl.heap.size < w'.heap.size := by
      obtain ⟨cs, h1, _⟩ := hC.outer
      exact (Array.getElem?_eq_some_iff.1 h1).1
    exact next wl.heap.size w' _ _ _ _ _ _ _ _ _ _ _ _ _ _ _ _ _ _ _ _ _ _ _ _ _ _ _ _ _ _ _ _ _ _ _ _ _ _ _ _ _ _ _ _ _ _ _ _ _ _ _ _ _ _ _ _ _ _ _ _ _ _ _ _ _ _ _ _ _ _ _ _ _ _ _ _ _ _ _ _ _ _ _ _ _ _ _ _ _ _ _ _ _ _ _ _ _ _ _ _ _ _ ⟨hc, hL.no⟩ (hs.kin (K.le hs.low)) hC hlt hs.low
  clear next hRW hm hs
  replace hn : RowKit.Hid _ := hn
  simp only [headC, body8, Try.f8, Option.getD_some]
  go_wp2_with (go_at_call 19; (with_reducible refine c19.out.mono ?_); rintro e w' ⟨rfl, hC, hb1⟩)
  have hB := hB.out
  subst hB
  intro hc
  exact fin.out w' hb1 hC hc _ _ _ _ _ _ _ _ _ _ _ _ _ _ _ _ _ _ _ _ _ _ _ _ _ _ _ _ _ _ _ _ _ _ _ _ _ _ _ _ _ _ _ _ _ _ _ _ _ _ _ _ _ _ _ _ _ _ _ _ _ _ _ _ _ _ _ _ _ _ _ _ _ _ _ _ _ _ _ _ _ _ _ _ _ _ _ _ _ _ _ _ _ _ _ _ _ _ _ _ _ _
end
end Go.Town.Kp
namespace Go.Town.Kp
open Go Go.Conc Go.Conc.Lib Go.ConcR.Gen Go.RowKit Go.Town Go.Proofs
open Go.ConcN (upd upd_ne upd_same)
noncomputable def ops8 : Array Oper := match headC 8 body8 with | .region _ o _ => o | _ => #[]
theorem head8k : headC 8 body8 = .region 10 ops8 false := by kernel_rfl
theorem enter10 {l : ByteArray} {f t : Int} {n tc : Nat} {ta : Option Addr} : Frame.enter Try.prog 10 #[.agg #[.string l, .int .i64 f, .int .i64 t], .slice ta n tc] .normal = (base 10).at ⟨#[.agg #[.string l, .int .i64 f, .int .i64 t], .slice ta n tc] ++ Array.replicate 18 undef, []⟩ [.code body10] := by kernel_rfl
section
variable {C : Cfg} {b o Bd kb k6 : Nat} {wl : World} {q : List UInt8} {f t : Int} {J : List (List Int)} {tc : Nat} {ta : Option Addr} {g : Bool} {R1 R2 : List Int} {E : ByteArray} {A : Int} {a1 a2 : Option Addr} {c1 c2 : Nat}
set_option maxRecDepth 100000 in
set_option maxHeartbeats 1000000 in
theorem call10 {b₀ : Frame} {a₀ : Act} {ops₀ : Array Oper} {i₀ : Nat} {rest₀ : List Nat} {k₀ : List Item} {cs : List Frame} {ta' : Option Addr} {tc' : Nat} {Post : Value → World → Prop} (hn : J.length ≤ 1048576) (hm : ∀ l ∈ J, l.length ≤ 1048576) (hBd : Bd < 2000000000) (hL : Lay C wl) (hR : RowsAt wl ta' J) (hD : Kd q f t J g R1 R2 E A)
    (h : ∀ C' b' o' d1 d2 e1 e2 wl', Lay C' wl' → Kin wl.heap.size wl wl' → Ans wl.heap.size R1 R2 d1 d2 wl' → Can Try.prog C' b' o' Post 0 (AloneB (Bd + 400)) wl' (G (b₀.at (a₀.put ((ops₀[i₀]?).bind (·.dst)) (.tuple #[.agg #[.slice d1 R1.length e1, .slice d2 R2.length e2, .string E, .int .i64 A], .bool g])) (.inRegion ops₀ rest₀ :: k₀)) cs)) :
    Can Try.prog C b o Post 0 (AloneB Bd) wl (G (Frame.enter Try.prog 10 #[.agg #[.string ⟨q.toArray⟩, .int .i64 f, .int .i64 t], .slice ta' J.length tc'] .normal) (b₀.at a₀ (.inRegion ops₀ (i₀ :: rest₀) :: k₀) :: cs)) := by
  rw [enter10]
  refine runKeeper okProgT hn hm hBd hL hR (fun hbad wl' hL' hK => ?_) (fun κ h1 h2 h3 hb hw0 hw h4 C' b₁ sa st wl' hL' hK h5 h6 h7 s1 s2 => ?_)
  · obtain ⟨rfl, rfl, rfl, rfl, rfl⟩ := (Kd.one (.inl ⟨hbad, rfl, rfl, rfl, rfl, rfl⟩) hD : _)
    exact Can.mono (h C b o none none 0 0 wl' hL' hK ⟨.inl rfl, .inl rfl, .inl rfl, .inl rfl, .inl ⟨rfl, rfl⟩, (fun g e => by cases e), (fun g e => by cases e)⟩) (AloneB.mono (by omega))
  · have hv : (vK q f t && vT J) = true := by
      have a1 : vK q f t = true := vK_true (by omega) (by omega) (by omega) (by omega) (by rw [h1]; cases κ.rule <;> simp [Rule.text])
      rw [a1, h4]; rfl
    obtain ⟨rfl, rfl, rfl, rfl, rfl⟩ := (Kd.one (.inr ⟨κ, h1, h2, h3, hv, rfl, rfl, rfl, rfl, rfl⟩) hD : _)
    obtain ⟨v1, _⟩ := vT_spec h4
    obtain ⟨i1, f1⟩ := nums_ints (w := wl') (x := sa) s1
    obtain ⟨i2, f2⟩ := nums_ints (w := wl') (x := st) s2
    have := h C' b₁ 5 (some ⟨sa, 0, none⟩) (some ⟨st, 0, none⟩) J.length J.length wl' hL' hK ⟨i1, i2, f1, f2, .inr (fun g e e' => by cases e; cases e'; exact h7 rfl), (fun g e => by cases e; exact ⟨h5, block_lt (s1 0 v1).1⟩), (fun g e => by cases e; exact ⟨h6, block_lt (s2 0 v1).1⟩)⟩
    simpa using this
set_option maxRecDepth 100000 in
set_option maxHeartbeats 2000000 in
theorem law8_d {b8 : Nat} {z3 z5 z9 z10 z11 z12 z13 z14 z15 z16 z17 z18 z19 z20 z21 z22 z23 z24 z25 z26 z27 z28 z29 z30 z31 z32 z33 z34 z35 z36 z37 z38 z39 z40 z41 z42 z43 z44 z45 z46 z47 z48 z49 z50 z51 z52 z53 z54 z55 z56 z57 z58 z59 z60 z61 z62 z63 z64 z65 z66 z67 z68 z69 z70 z71 z72 z73 z74 z75 z76 z77 z78 z79 z80 z81 z82 z83 z84 z85 z86 z87 z88 z89 z90 z91 z92 z93 z94 z95 z96 z97 z98 z99 z100 z101 z102 z103 z104 z105 z106 z107 z108 : Value} (hn : J.length ≤ 1048576) (hm : ∀ l ∈ J, l.length ≤ 1048576) (hBd : Bd < 2000000000) (hD : Kd q f t J g R1 R2 E A) (hL : Lay C wl) (hs : Base8 q f t J ta kb k6 a1 a2 c1 c2 R1 R2 E A wl) (hC : Copied b8 J J.length wl) (hb8 : b8 < wl.heap.size) (hkb : k6 < b8)
    (next : ∀ (C' : Cfg) (b' o' k9 B₀ : Nat) (d1 d2 : Option Addr) (e1 e2 : Nat) (w : World) (z3 z5 z11 z12 z13 z14 z15 z16 z17 z18 z19 z20 z21 z22 z23 z24 z25 z26 z27 z28 z29 z30 z31 z32 z33 z34 z35 z36 z37 z38 z39 z40 z41 z42 z43 z44 z45 z46 z47 z48 z49 z50 z51 z52 z53 z54 z55 z56 z57 z58 z59 z60 z61 z62 z63 z64 z65 z66 z67 z68 z69 z70 z71 z72 z73 z74 z75 z76 z77 z78 z79 z80 z81 z82 z83 z84 z85 z86 z87 z88 z89 z90 z91 z92 z93 z94 z95 z96 z97 z98 z99 z100 z101 z102 z103 z104 z105 z106 z107 z108 : Value), Lay C' w → Base8 q f t J ta kb k6 a1 a2 c1 c2 R1 R2 E A w → RowsAt w (some ⟨b8, 0, none⟩) J → Outer b8 B₀ J w → b8 < B₀ → B₀ ≤ w.heap.size → Impl8 B₀ R1 R2 E A k9 d1 d2 e1 e2 w → Can Try.prog C' b' o' (fun v _ => v = .bool true) 0 (AloneB (Bd + 400)) w (G ((base 8).at ⟨#[.agg #[.string ⟨q.toArray⟩, .int .i64 f, .int .i64 t], .slice ta J.length tc, .pointer (some ⟨kb, 0, none⟩), z3, .bool false, z5, .pointer (some ⟨k6, 0, none⟩), .bool g, .slice (some ⟨b8, 0, none⟩) J.length J.length, .pointer (some ⟨k9, 0, none⟩), .bool g, z11, z12, z13, z14, z15, z16, z17, z18, z19, z20, z21, z22, z23, z24, z25, z26, z27, z28, z29, z30, z31, z32, z33, z34, z35, z36, z37, z38, z39, z40, z41, z42, z43, z44, z45, z46, z47, z48, z49, z50, z51, z52, z53, z54, z55, z56, z57, z58, z59, z60, z61, z62, z63, z64, z65, z66, z67, z68, z69, z70, z71, z72, z73, z74, z75, z76, z77, z78, z79, z80, z81, z82, z83, z84, z85, z86, z87, z88, z89, z90, z91, z92, z93, z94, z95, z96, z97, z98, z99, z100, z101, z102, z103, z104, z105, z106, z107, z108], []⟩ [.code (tailC 9 body8)]) [])) :
    Can Try.prog C b o (fun v _ => v = .bool true) 0 (AloneB Bd) wl (G ((base 8).at ⟨#[.agg #[.string ⟨q.toArray⟩, .int .i64 f, .int .i64 t], .slice ta J.length tc, .pointer (some ⟨kb, 0, none⟩), z3, .bool false, z5, .pointer (some ⟨k6, 0, none⟩), .bool g, .slice (some ⟨b8, 0, none⟩) J.length J.length, z9, z10, z11, z12, z13, z14, z15, z16, z17, z18, z19, z20, z21, z22, z23, z24, z25, z26, z27, z28, z29, z30, z31, z32, z33, z34, z35, z36, z37, z38, z39, z40, z41, z42, z43, z44, z45, z46, z47, z48, z49, z50, z51, z52, z53, z54, z55, z56, z57, z58, z59, z60, z61, z62, z63, z64, z65, z66, z67, z68, z69, z70, z71, z72, z73, z74, z75, z76, z77, z78, z79, z80, z81, z82, z83, z84, z85, z86, z87, z88, z89, z90, z91, z92, z93, z94, z95, z96, z97, z98, z99, z100, z101, z102, z103, z104, z105, z106, z107, z108], []⟩ [.code (tailC 8 body8)]) []) := by
  have hS := steady_aloneB Bd
  have e8 : tailC 8 body8 = .seq (headC 8 body8) (tailC 9 body8) := by kernel_rfl
  rw [e8]
  refine Can.ctl hS hL rfl (fun _ => stepG_seq) ?_
  rw [head8k]
  generalize hK : [Item.code (tailC 9 body8)] = K₁
  simp only [ops8, headC, body8, Try.f8, Option.getD_some]
  refine Can.ctl hS hL rfl (fun _ => stepG_region) ?_; simp only [List.size_toArray, List.length_cons, List.length_nil, Nat.reduceAdd, Nat.zero_add, List.range, List.range.loop]
  refine Can.op (ok := okK) hS hL rfl rfl (by k_ne) (by kernel_rfl) (fun T d => ⟨.agg #[.string ⟨q.toArray⟩, .int .i64 f, .int .i64 t], wl.re T d, ?_, fun _ => Can.re ?_ T d⟩)
  · have g0 : (wl.re T d).cell? ⟨kb, 0, none⟩ = some (.string ⟨q.toArray⟩) := (hs.keeper 0 (by simp)).1
    have g1 : (wl.re T d).cell? ⟨kb, 1, none⟩ = some (.int .i64 f) := (hs.keeper 1 (by simp)).1
    have g2 : (wl.re T d).cell? ⟨kb, 2, none⟩ = some (.int .i64 t) := (hs.keeper 2 (by simp)).1
    go_simp
  walk_nrm
  refine Can.ctl hS hL rfl (fun _ => st_enter' (vs := #[.agg #[.string ⟨q.toArray⟩, .int .i64 f, .int .i64 t]]) rfl rfl (by k_ne) rfl Try.func18 rfl rfl (by kernel_rfl)) ?_
  refine Can.call okProgK hS hL (by kernel_rfl) (by kernel_rfl) (fun T d => (toKeeper_any ⟨q.toArray⟩ f t (wl.re T d)).mono ?_)
  rintro e w₀ ⟨rfl, hb0⟩
  refine ⟨_, rfl, fun hc => ?_⟩
  have K0 : Kin wl.heap.size wl w₀ := bwre hb0
  have hC0 : Copied b8 J J.length w₀ := by
    obtain ⟨cs, h1, h2, h3⟩ := hC.outer
    refine ⟨⟨cs, (hb0.block b8 hb8).trans h1, h2, fun j hj hjk => ?_⟩⟩
    obtain ⟨r, r1, r2, r3, r4⟩ := h3 j hj hjk
    exact ⟨r, r1, Nat.lt_of_lt_of_le r2 K0.size, r3, (hb0.block r r2).trans r4⟩
  replace hs := hs.kin (K0.le hs.low)
  have hL0 : Lay C w₀ := ⟨hc, hL.no⟩
  have hz0 := K0.size
  clear hb0 K0 hC hL hc
  rw [Frame.finish_at]
  walk_nrm
  refine Can.op (ok := okK) hS hL0 rfl rfl (by k_ne) (by kernel_rfl) (fun T d => ⟨.slice (some ⟨b8, 0, none⟩) J.length J.length, w₀.re T d, ?_, fun _ => Can.re ?_ T d⟩)
  · go_simp
  walk_nrm
  refine Can.ctl hS hL0 rfl (fun _ => st_enter' (vs := #[.agg #[.string ⟨q.toArray⟩, .int .i64 f, .int .i64 t], .slice (some ⟨b8, 0, none⟩) J.length J.length]) rfl rfl (by k_ne) rfl Try.func10 rfl rfl (by kernel_rfl)) ?_
  refine call10 hn hm hBd hL0 hC0.rows hD ?_
  intro C' b' o' d1 d2 e1 e2 w hL' K hI
  walk_nrm
  have hS' := steady_aloneB (Bd + 400)
  refine Can.op (ok := okK) hS' hL' rfl rfl (by k_ne) (by kernel_rfl) (fun T d => ⟨.tuple #[.agg #[.slice d1 R1.length e1, .slice d2 R2.length e2, .string E, .int .i64 A], .bool g], w.re T d, ?_, fun _ => Can.re ?_ T d⟩)
  · go_simp
  walk_nrm
  refine Can.op (ok := okK) hS' hL' rfl rfl (by k_ne) (by kernel_rfl) (fun T d => ⟨.agg #[.slice d1 R1.length e1, .slice d2 R2.length e2, .string E, .int .i64 A], w.re T d, ?_, fun _ => Can.re ?_ T d⟩)
  · go_simp
  walk_nrm
  refine Can.op (ok := okK) hS' hL' rfl rfl (by k_ne) (by kernel_rfl) (fun T d => ⟨.bool g, w.re T d, ?_, fun _ => Can.re ?_ T d⟩)
  · go_simp
  walk_nrm
  refine Can.op (ok := okK) hS' hL' rfl rfl (by k_ne) (by kernel_rfl) (fun T d => ⟨.pointer (some ⟨w.heap.size, 0, none⟩), (w.re T d).alloc (.cells #[.slice none 0 0, .slice none 0 0, .string ⟨#[]⟩, .int .i64 0] 30), ?_, fun hc => ?_⟩)
  · have hz : (w.re T d).heap.size = w.heap.size := rfl
    go_simp
  walk_nrm
  obtain ⟨w₂, hw₂⟩ : ∃ x, x = (w.re T d).alloc (.cells #[.slice none 0 0, .slice none 0 0, .string ⟨#[]⟩, .int .i64 0] 30) := ⟨_, rfl⟩
  rw [← hw₂] at hc ⊢
  have hL₂ : Lay C' w₂ := ⟨hc, hL'.no⟩
  have hr₂ : Reads w₂ w.heap.size [.slice none 0 0, .slice none 0 0, .string ⟨#[]⟩, .int .i64 0] := reads_block (t := 30) (by rw [hw₂]; exact alloc_self (w.re T d) _)
  have K₂ : Kin w.heap.size w w₂ := by rw [hw₂]; exact ((Grown.refl w).re T d |>.alloc _).kin (Nat.le_refl _)
  have z₂ : w₂.heap.size = w.heap.size + 1 := by rw [hw₂, World.size_alloc]; rfl
  clear hw₂ hc
  obtain ⟨⟨v0, v1, v2, v3, c0, c1', c2', c3⟩, hf⟩ := set4_op hr₂ rfl
  refine Can.opN (ok := okK) hS' hL₂ rfl rfl (by k_ne) (by kernel_rfl) (fun T d => ⟨set4 (w₂.re T d) w.heap.size (.slice d1 R1.length e1) (.slice d2 R2.length e2) (.string E) (.int .i64 A), ?_, fun hc => ?_⟩)
  · have c0 : (w₂.re T d).cell? ⟨w.heap.size, 0, none⟩ = some v0 := c0
    have c1 : (w₂.re T d).cell? ⟨w.heap.size, 1, none⟩ = some v1 := c1'
    have c2 : (w₂.re T d).cell? ⟨w.heap.size, 2, none⟩ = some v2 := c2'
    have c3 : (w₂.re T d).cell? ⟨w.heap.size, 3, none⟩ = some v3 := c3
    have f0 : (w₂.re T d).frozen? ⟨w.heap.size, 0, none⟩ = false := hf 0 (by omega)
    have f1 : (w₂.re T d).frozen? ⟨w.heap.size, 1, none⟩ = false := hf 1 (by omega)
    have f2 : (w₂.re T d).frozen? ⟨w.heap.size, 2, none⟩ = false := hf 2 (by omega)
    have f3 : (w₂.re T d).frozen? ⟨w.heap.size, 3, none⟩ = false := hf 3 (by omega)
    generalize w₂.re T d = W at *
    unfold set4
    go_simp
  walk_nrm
  obtain ⟨p1, p2, p3⟩ := put4 (B := w.heap.size) hr₂ rfl (Nat.le_refl _) (.slice d1 R1.length e1) (.slice d2 R2.length e2) (.string E) (.int .i64 A) T d
  generalize set4 (w₂.re T d) w.heap.size (.slice d1 R1.length e1) (.slice d2 R2.length e2) (.string E) (.int .i64 A) = w₄ at *
  have hL₄ : Lay C' w₄ := ⟨hc, hL'.no⟩
  have K₄ := K₂.trans p1
  clear c0 c1' c2' c3 hf hc
  refine Can.op (ok := okK) hS' hL₄ rfl rfl (by k_ne) (by kernel_rfl) (fun T d => ⟨.bool g, w₄.re T d, ?_, fun _ => Can.re ?_ T d⟩)
  · go_simp
  walk_nrm
  refine Can.ctl hS' hL₄ rfl (fun _ => stepG_region_end) ?_
  subst hK
  have hk6 := hs.low
  have hz4 := K.size
  exact next C' b' o' w.heap.size w₀.heap.size d1 d2 e1 e2 w₄ _ _ _ _ _ _ _ _ _ _ _ _ _ _ _ _ _ _ _ _ _ _ _ _ _ _ _ _ _ _ _ _ _ _ _ _ _ _ _ _ _ _ _ _ _ _ _ _ _ _ _ _ _ _ _ _ _ _ _ _ _ _ _ _ _ _ _ _ _ _ _ _ _ _ _ _ _ _ _ _ _ _ _ _ _ _ _ _ _ _ _ _ _ _ _ _ _ _ _ _ hL₄ (hs.kin ((K.le hs.low).trans (K₄.le (by omega)))) ((hC0.rows.kept K.cells K.size).kept K₄.cells K₄.size) (hC0.outer'.kin (K.trans (K₄.le K.size)) (by omega)) (by omega) (by have := K₄.size; omega) ⟨hI.kin K₄, p2, (fun g e => (hI.lo1 g e).2), (fun g e => (hI.lo2 g e).2), K.size, by omega⟩
end
end Go.Town.Kp
namespace Go.Town.Kp
open Go Go.Conc Go.Conc.Lib Go.ConcR.Gen Go.RowKit Go.Town Go.Proofs
open Go.ConcN (upd upd_ne upd_same)
section
variable {C : Cfg} {b o Bd kb k6 : Nat} {wl : World} {q : List UInt8} {f t : Int} {J : List (List Int)} {tc : Nat} {ta : Option Addr} {g : Bool} {R1 R2 : List Int} {E : ByteArray} {A : Int} {a1 a2 : Option Addr} {c1 c2 : Nat} {b8 B₀ k9 : Nat} {d1 d2 : Option Addr} {e1 e2 : Nat}
set_option maxRecDepth 100000 in
set_option maxHeartbeats 2000000 in
theorem law8_e {z3 z5 z11 z12 z13 z14 z15 z16 z17 z18 z19 z20 z21 z22 z23 z24 z25 z26 z27 z28 z29 z30 z31 z32 z33 z34 z35 z36 z37 z38 z39 z40 z41 z42 z43 z44 z45 z46 z47 z48 z49 z50 z51 z52 z53 z54 z55 z56 z57 z58 z59 z60 z61 z62 z63 z64 z65 z66 z67 z68 z69 z70 z71 z72 z73 z74 z75 z76 z77 z78 z79 z80 z81 z82 z83 z84 z85 z86 z87 z88 z89 z90 z91 z92 z93 z94 z95 z96 z97 z98 z99 z100 z101 z102 z103 z104 z105 z106 z107 z108 : Value} (hn : J.length ≤ 1048576) (hm : ∀ l ∈ J, l.length ≤ 1048576) (hn1 : R1.length ≤ 1048576) (hn2 : R2.length ≤ 1048576) (hL : Lay C wl) (hs : Base8 q f t J ta kb k6 a1 a2 c1 c2 R1 R2 E A wl) (h8 : RowsAt wl (some ⟨b8, 0, none⟩) J) (hO : Outer b8 B₀ J wl) (hkb : k6 < b8) (hbB : b8 < B₀) (hBz : B₀ ≤ wl.heap.size) (hI : Impl8 B₀ R1 R2 E A k9 d1 d2 e1 e2 wl)
    (next : ∀ (v : Int) (w : World) (z3 z5 z12 z13 z14 z15 z16 z17 z18 z19 z20 z21 z22 z23 z24 z25 z26 z27 z28 z29 z30 z31 z32 z33 z34 z35 z36 z37 z38 z39 z40 z41 z42 z43 z44 z45 z46 z47 z48 z49 z50 z51 z52 z53 z54 z55 z56 z57 z58 z59 z60 z61 z62 z63 z64 z65 z66 z67 z68 z69 z70 z71 z72 z73 z74 z75 z76 z77 z78 z79 z80 z81 z82 z83 z84 z85 z86 z87 z88 z89 z90 z91 z92 z93 z94 z95 z96 z97 z98 z99 z100 z101 z102 z103 z104 z105 z106 z107 z108 : Value), 0 ≤ v → Lay C w → Base8 q f t J ta kb k6 a1 a2 c1 c2 R1 R2 E A w → Impl8 B₀ R1 R2 E A k9 d1 d2 e1 e2 w → Can Try.prog C b o (fun v _ => v = .bool true) 0 (AloneB Bd) w (G ((base 8).at ⟨#[.agg #[.string ⟨q.toArray⟩, .int .i64 f, .int .i64 t], .slice ta J.length tc, .pointer (some ⟨kb, 0, none⟩), z3, .bool false, z5, .pointer (some ⟨k6, 0, none⟩), .bool g, .slice (some ⟨b8, 0, none⟩) J.length J.length, .pointer (some ⟨k9, 0, none⟩), .bool g, .int .i64 v, z12, z13, z14, z15, z16, z17, z18, z19, z20, z21, z22, z23, z24, z25, z26, z27, z28, z29, z30, z31, z32, z33, z34, z35, z36, z37, z38, z39, z40, z41, z42, z43, z44, z45, z46, z47, z48, z49, z50, z51, z52, z53, z54, z55, z56, z57, z58, z59, z60, z61, z62, z63, z64, z65, z66, z67, z68, z69, z70, z71, z72, z73, z74, z75, z76, z77, z78, z79, z80, z81, z82, z83, z84, z85, z86, z87, z88, z89, z90, z91, z92, z93, z94, z95, z96, z97, z98, z99, z100, z101, z102, z103, z104, z105, z106, z107, z108], []⟩ [.code (tailC 13 body8)]) [])) :
    Can Try.prog C b o (fun v _ => v = .bool true) 0 (AloneB Bd) wl (G ((base 8).at ⟨#[.agg #[.string ⟨q.toArray⟩, .int .i64 f, .int .i64 t], .slice ta J.length tc, .pointer (some ⟨kb, 0, none⟩), z3, .bool false, z5, .pointer (some ⟨k6, 0, none⟩), .bool g, .slice (some ⟨b8, 0, none⟩) J.length J.length, .pointer (some ⟨k9, 0, none⟩), .bool g, z11, z12, z13, z14, z15, z16, z17, z18, z19, z20, z21, z22, z23, z24, z25, z26, z27, z28, z29, z30, z31, z32, z33, z34, z35, z36, z37, z38, z39, z40, z41, z42, z43, z44, z45, z46, z47, z48, z49, z50, z51, z52, z53, z54, z55, z56, z57, z58, z59, z60, z61, z62, z63, z64, z65, z66, z67, z68, z69, z70, z71, z72, z73, z74, z75, z76, z77, z78, z79, z80, z81, z82, z83, z84, z85, z86, z87, z88, z89, z90, z91, z92, z93, z94, z95, z96, z97, z98, z99, z100, z101, z102, z103, z104, z105, z106, z107, z108], []⟩ [.code (tailC 9 body8)]) []) := by
  have hS := steady_aloneB Bd
  have e9 : tailC 9 body8 = .seq (headC 9 body8) (tailC 10 body8) := by kernel_rfl
  have e10 : tailC 10 body8 = .seq (headC 10 body8) (tailC 11 body8) := by kernel_rfl
  have e11 : tailC 11 body8 = .seq (headC 11 body8) (tailC 12 body8) := by kernel_rfl
  have e12 : tailC 12 body8 = .seq (headC 12 body8) (tailC 13 body8) := by kernel_rfl
  rw [e9]
  refine Can.ctl hS hL rfl (fun _ => stepG_seq) ?_
  refine Can.code' okProgK hS hL (okFr_at (by kernel_rfl) rfl rfl ⟨_, Try.func8⟩) ?_
  intro T d W hW B hB
  have hk90 : W.cell? ⟨k9, 0, none⟩ = some (.slice d1 R1.length e1) := by rw [hW.out]; exact (hI.reads 0 (by simp)).1
  have hk91 : W.cell? ⟨k9, 1, none⟩ = some (.slice d2 R2.length e2) := by rw [hW.out]; exact (hI.reads 1 (by simp)).1
  have hk92 : W.cell? ⟨k9, 2, none⟩ = some (.string E) := by rw [hW.out]; exact (hI.reads 2 (by simp)).1
  have hk93 : W.cell? ⟨k9, 3, none⟩ = some (.int .i64 A) := by rw [hW.out]; exact (hI.reads 3 (by simp)).1
  have hk60 : W.cell? ⟨k6, 0, none⟩ = some (.slice a1 R1.length c1) := by rw [hW.out]; exact (hs.kept 0 (by simp)).1
  have hk61 : W.cell? ⟨k6, 1, none⟩ = some (.slice a2 R2.length c2) := by rw [hW.out]; exact (hs.kept 1 (by simp)).1
  have hk62 : W.cell? ⟨k6, 2, none⟩ = some (.string E) := by rw [hW.out]; exact (hs.kept 2 (by simp)).1
  have hk63 : W.cell? ⟨k6, 3, none⟩ = some (.int .i64 A) := by rw [hW.out]; exact (hs.kept 3 (by simp)).1
  have c29 : RowKit.Hid (Calls Try.prog 29 #[.agg #[.slice d1 R1.length e1, .slice d2 R2.length e2, .string E, .int .i64 A], .agg #[.slice a1 R1.length c1, .slice a2 R2.length c2, .string E, .int .i64 A]] W fun e w' => e = .returned (.bool true) ∧ Below W.heap.size W w') := eqKept_any hn1 hn2 (IntsIn.same hI.ans.i1 (by rw [hW.out]; rfl)) (IntsIn.same hI.ans.i2 (by rw [hW.out]; rfl)) (IntsIn.same hs.i1At (by rw [hW.out]; rfl)) (IntsIn.same hs.i2At (by rw [hW.out]; rfl))
  simp only [headC, body8, Try.f8, Option.getD_some]
  go_wp2_with (go_at_call 29; (with_reducible refine c29.out.mono ?_); rintro e w1 ⟨rfl, hb1⟩)
  have hB := hB.out
  subst hB
  intro hc
  have hW := hW.out
  subst hW
  have K := bwre hb1
  have hL1 : Lay C w1 := ⟨hc, hL.no⟩
  replace hs := hs.kin (K.le hs.low)
  replace h8 : RowsAt w1 (some ⟨b8, 0, none⟩) J := h8.kept K.cells K.size
  replace hO := hO.kin (K.le (B' := B₀) hBz) hbB
  replace hI := hI.kin K
  have hz1 := K.size
  clear hc hB hW c29 hb1 K hk90 hk91 hk92 hk93 hk60 hk61 hk62 hk63
  rw [e10]
  refine Can.ctl hS hL1 rfl (fun _ => stepG_seq) ?_
  refine Can.code' okProgK hS hL1 (okFr_at (by kernel_rfl) rfl rfl ⟨_, Try.func8⟩) ?_
  intro T d W hW B hB
  have hRW : RowsAt W ta J := by rw [hW.out]; exact RowsIn.re hs.rowsAt T d
  have h10W : RowsAt W (some ⟨b8, 0, none⟩) J := by rw [hW.out]; exact RowsIn.re h8 T d
  have c19 : RowKit.Hid (Calls Try.prog 19 #[.slice ta J.length tc] W fun e w'' => e = .returned (.slice (some ⟨W.heap.size, 0, none⟩) J.length J.length) ∧ RowsAt w'' (some ⟨W.heap.size, 0, none⟩) J ∧ RowsAt w'' (some ⟨b8, 0, none⟩) J ∧ Below W.heap.size W w'') := (toIntSS_any ta tc J W hn hm hRW).mono fun e w'' ⟨he, hC, hb⟩ => ⟨he, hC.rows, h10W.below hb (Nat.le_refl _), hb⟩
  have c21 : RowKit.Hid (∀ w' a c, RowsAt w' (some ⟨b8, 0, none⟩) J → RowsAt w' a J → Calls Try.prog 21 #[.slice (some ⟨b8, 0, none⟩) J.length J.length, .slice a J.length c] w' fun e w'' => e = .returned (.bool true) ∧ ∃ m, w'' = w'.drewN m) := fun w' a c h1 h2 => eqIntSS_same _ a _ c J w' hn hm h1 h2
  simp only [headC, body8, Try.f8, Option.getD_some]
  go_wp2_with (go_at_call 19; (with_reducible refine c19.out.mono ?_); rintro e w2 ⟨rfl, hr1, hr2, hb2⟩)
  go_wp2_with (go_at_call 21; (with_reducible refine (c21.out _ _ _ hr2 hr1).mono ?_); rintro e w3 ⟨rfl, m, rfl⟩)
  have hB := hB.out
  subst hB
  intro hc
  have hW := hW.out
  subst hW
  have K := bwre (below_drewN hb2 m)
  obtain ⟨w3, hw3⟩ : ∃ w, w = w2.drewN m := ⟨_, rfl⟩
  rw [← hw3] at hc K ⊢
  have hL3 : Lay C w3 := ⟨hc, hL.no⟩
  replace hs := hs.kin (K.le hs.low)
  replace hO := hO.kin (K.le (B' := B₀) (by omega)) hbB
  replace hI := hI.kin K
  have hz3 := K.size
  clear hc hB hW c19 c21 hr1 hr2 hb2 hw3 K h8 hRW h10W
  rw [e11]
  refine Can.ctl hS hL3 rfl (fun _ => stepG_seq) ?_
  refine Can.code' okProgK hS hL3 (okFr_at (by kernel_rfl) rfl rfl ⟨_, Try.func8⟩) ?_
  intro T d W hW B hB
  simp only [headC, body8, Try.f8, Option.getD_some]
  go_wp2
  have hB := hB.out
  subst hB
  intro hc
  have hW := hW.out
  subst hW
  refine Can.re ?_ T d
  clear hc hB hW
  rw [e12]
  refine Can.ctl hS hL3 rfl (fun _ => stepG_seq) ?_
  refine Can.code' okProgK hS hL3 (okFr_at (by kernel_rfl) rfl rfl ⟨_, Try.func8⟩) ?_
  intro T d W hW B hB
  have c22 : RowKit.Hid (Calls Try.prog 22 #[.slice (some ⟨b8, 0, none⟩) J.length J.length, .int .i64 1] W fun e w' => (∃ v : Int, e = .returned (.int .i64 v) ∧ RowKit.Hid (0 ≤ v)) ∧ Marked b8 B₀ W w') := markIntSS_any b8 B₀ J.length 1 J W hn hm (by omega) (by omega) (by rw [hW.out]; exact hO)
  simp only [headC, body8, Try.f8, Option.getD_some]
  go_wp2_with (go_at_call 22; (with_reducible refine c22.out.mono ?_); rintro e w4 ⟨⟨v, rfl, hv⟩, hM⟩)
  have hB := hB.out
  subst hB
  intro hc
  have hW := hW.out
  subst hW
  exact next v w4 _ _ _ _ _ _ _ _ _ _ _ _ _ _ _ _ _ _ _ _ _ _ _ _ _ _ _ _ _ _ _ _ _ _ _ _ _ _ _ _ _ _ _ _ _ _ _ _ _ _ _ _ _ _ _ _ _ _ _ _ _ _ _ _ _ _ _ _ _ _ _ _ _ _ _ _ _ _ _ _ _ _ _ _ _ _ _ _ _ _ _ _ _ _ _ _ _ _ _ hv.out ⟨hc, hL.no⟩ (hs.kin (((Kin.refl _ _).re T d).trans (marked_kin (n := k6 + 1) (w := w3.re T d) hM (by omega)))) (Impl8.marked (w := w3.re T d) (hI.kin ((Kin.refl _ _).re T d)) hM)
end
end Go.Town.Kp
