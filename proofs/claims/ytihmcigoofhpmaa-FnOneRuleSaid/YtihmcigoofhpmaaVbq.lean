/-
  The law FnOneRule: what is asked of the answer.
  The law FnOneRule: each worker by itself; the whole walk.
  A slice of bytes that came in.
-/
import Derived.Conc.LeavingOf
import Derived.ChangeShapes
import Derived.ChangeSlices
import Derived.WideShapes
import Derived.ChangeMaps5
import Derived.ChangeArms
import Derived.OpenShut
import Derived.LaidMore
import Derived.Test.YtihmcigoofhpmaaVaz
import Derived.Test.YtihmcigoofhpmaaVbn
import Derived.Test.YtihmcigoofhpmaaVbp
set_option linter.all false
namespace Go.Town.Kp
open Go Go.Conc Go.Conc.Lib Go.ConcR.Gen Go.RowKit Go.Town Go.Proofs
open Go.ConcN (upd upd_ne upd_same)
theorem own_bounds {l : List Int} (h : ∀ v ∈ l, 0 ≤ v ∧ v ≤ 1000) : ∀ j, j ≤ l.length → 0 ≤ (own (l.take j)).1 ∧ (own (l.take j)).1 ≤ 1000 * (j : Int) ∧ 0 ≤ (own (l.take j)).2 ∧ (own (l.take j)).2 ≤ (j : Int)
  | 0, _ => by simp [own]
  | j + 1, hj => by
    have ih := own_bounds h j (by omega)
    have hv := h l[j] (List.getElem_mem (by omega))
    rw [own_succ, List.getElem?_eq_getElem (by omega)]
    simp only [ownO, ownS]
    split <;> simp only <;> omega
structure OneFacts (J : List (List Int)) (R1 R2 : List Int) (A : Int) : Prop where
  tasks : TasksIn J
  four : J.length ≤ 4
  len : ∀ l ∈ J, l.length ≤ 20
  n1 : R1.length = J.length
  n2 : R2.length = J.length
  at1 : ∀ k (h : k < J.length) (h' : k < R1.length), R1[k] = (own J[k]).1
  at2 : ∀ k (h : k < J.length) (h' : k < R2.length), R2[k] = (own J[k]).2
  last : A = (mxR J J.length : Nat)
theorem kd_one {f t : Int} {J : List (List Int)} {g : Bool} {R1 R2 : List Int} {E : ByteArray} {A : Int} (h : Kd [111, 110, 101] f t J g R1 R2 E A) :
    g = false ∨ (g = true ∧ E = ⟨#[103, 105, 118, 101, 110, 32, 117, 112]⟩) ∨ (g = true ∧ E = ⟨#[100, 111, 110, 101]⟩ ∧ OneFacts J R1 R2 A) := by
  rcases h with ⟨_, rfl, _⟩ | ⟨κ, h1, h2, h3, h4, rfl, rfl, rfl, rfl, rfl⟩
  · exact .inl rfl
  · simp only [Bool.and_eq_true] at h4
    obtain ⟨v1, v2, v3, v4⟩ := vT_spec h4.2
    have hr : κ.rule = .one := by
      revert h1
      cases κ.rule <;> simp [Rule.text]
    cases ho : (runT κ J (mxR J J.length) 0 St.zero).1.over with
    | true => exact .inr (.inl ⟨rfl, rfl⟩)
    | false =>
      refine .inr (.inr ⟨rfl, rfl, v3, v2, v4, by simp, by simp, fun k h h' => ?_, fun k h h' => ?_, ?_⟩)
      · have := (runT_one hr (mxR J J.length) 0 St.zero rfl (fun l _ => rfl) ho).1 k h
        have hm : J[k].length ≤ mxR J J.length := mxR_ge h
        rw [show J.getD k [] = J[k] by simp [List.getD, h], List.take_of_length_le (by omega)] at this
        simp only [List.getElem_map, List.getElem_range]
        rw [← this]
      · have := (runT_one hr (mxR J J.length) 0 St.zero rfl (fun l _ => rfl) ho).1 k h
        have hm : J[k].length ≤ mxR J J.length := mxR_ge h
        rw [show J.getD k [] = J[k] by simp [List.getD, h], List.take_of_length_le (by omega)] at this
        simp only [List.getElem_map, List.getElem_range]
        rw [← this]
      · have := (runT_one hr (mxR J J.length) 0 St.zero rfl (fun l _ => rfl) ho).2
        rw [this]; simp
section
variable {C : Cfg} {b o Bd kb : Nat} {wl : World} {f t : Int} {J : List (List Int)} {tc : Nat} {ta : Option Addr} {g : Bool} {R1 R2 : List Int} {E : ByteArray} {A : Int} {a : Option Addr} {bs : List Int} {c : Nat} {k5 k7 : Nat} {d1 d2 : Option Addr} {e1 e2 : Nat}
set_option maxRecDepth 100000 in
set_option maxHeartbeats 2000000 in
theorem law3_d {z1 z9 z10 z11 z12 z13 z14 z15 z16 z17 z18 z19 z20 z21 z22 z23 z24 z25 z26 z27 z28 z29 z30 z31 z32 z33 z34 z35 z36 z37 z38 z39 z40 z41 z42 z43 z44 z45 z46 z47 z48 z49 z50 z51 z52 z53 z54 z55 z56 z57 z58 z59 z60 z61 z62 z63 z64 z65 z66 z67 z68 z69 z70 z71 z72 z73 z74 z75 z76 z77 z78 z79 z80 z81 z82 z83 z84 z85 z86 z87 z88 z89 z90 z91 z92 z93 z94 z95 z96 z97 z98 z99 z100 z101 z102 z103 z104 z105 z106 z107 z108 z109 z110 : Value} (hD : Kd [111, 110, 101] f t J g R1 R2 E A) (hL : Lay C wl) (hs : BaseP [111, 110, 101] f t J ta kb wl) (hr5 : Reads wl k5 [.slice d1 R1.length e1, .slice d2 R2.length e2, .string E, .int .i64 A]) (hi1 : IntsAt wl d1 R1) (hi2 : IntsAt wl d2 R2)
    (next : ∀ (w : World) (z1 z9 z10 z11 z12 z13 z14 z15 z16 z17 z18 z19 z20 z21 z22 z23 z24 z25 z26 z27 z28 z29 z30 z31 z32 z33 z34 z35 z36 z37 z38 z39 z40 z41 z42 z43 z44 z45 z46 z47 z48 z49 z50 z51 z52 z53 z54 z55 z56 z57 z58 z59 z60 z61 z62 z63 z64 z65 z66 z67 z68 z69 z70 z71 z72 z73 z74 z75 z76 z77 z78 z79 z80 z81 z82 z83 z84 z85 z86 z87 z88 z89 z90 z91 z92 z93 z94 z95 z96 z97 z98 z99 z100 z101 z102 z103 z104 z105 z106 z107 z108 z109 z110 : Value), E = ⟨#[100, 111, 110, 101]⟩ → OneFacts J R1 R2 A → Lay C w → BaseP [111, 110, 101] f t J ta kb w → Reads w k5 [.slice d1 R1.length e1, .slice d2 R2.length e2, .string E, .int .i64 A] → IntsAt w d1 R1 → IntsAt w d2 R2 → Can Try.prog C b o (fun v _ => v = .bool true) 0 (AloneB Bd) w (G ((base 3).at ⟨#[.slice a bs.length c, z1, .bool false, .pointer (some ⟨kb, 0, none⟩), .slice ta J.length tc, .pointer (some ⟨k5, 0, none⟩), .bool true, .pointer (some ⟨k7, 0, none⟩), .bool true, z9, z10, z11, z12, z13, z14, z15, z16, z17, z18, z19, z20, z21, z22, z23, z24, z25, z26, z27, z28, z29, z30, z31, z32, z33, z34, z35, z36, z37, z38, z39, z40, z41, z42, z43, z44, z45, z46, z47, z48, z49, z50, z51, z52, z53, z54, z55, z56, z57, z58, z59, z60, z61, z62, z63, z64, z65, z66, z67, z68, z69, z70, z71, z72, z73, z74, z75, z76, z77, z78, z79, z80, z81, z82, z83, z84, z85, z86, z87, z88, z89, z90, z91, z92, z93, z94, z95, z96, z97, z98, z99, z100, z101, z102, z103, z104, z105, z106, z107, z108, z109, z110], []⟩ [.code (tailC 7 body3)]) [])) :
    Can Try.prog C b o (fun v _ => v = .bool true) 0 (AloneB Bd) wl (G ((base 3).at ⟨#[.slice a bs.length c, z1, .bool false, .pointer (some ⟨kb, 0, none⟩), .slice ta J.length tc, .pointer (some ⟨k5, 0, none⟩), .bool g, .pointer (some ⟨k7, 0, none⟩), .bool g, z9, z10, z11, z12, z13, z14, z15, z16, z17, z18, z19, z20, z21, z22, z23, z24, z25, z26, z27, z28, z29, z30, z31, z32, z33, z34, z35, z36, z37, z38, z39, z40, z41, z42, z43, z44, z45, z46, z47, z48, z49, z50, z51, z52, z53, z54, z55, z56, z57, z58, z59, z60, z61, z62, z63, z64, z65, z66, z67, z68, z69, z70, z71, z72, z73, z74, z75, z76, z77, z78, z79, z80, z81, z82, z83, z84, z85, z86, z87, z88, z89, z90, z91, z92, z93, z94, z95, z96, z97, z98, z99, z100, z101, z102, z103, z104, z105, z106, z107, z108, z109, z110], []⟩ [.code (tailC 6 body3)]) []) := by
  have hS := steady_aloneB Bd
  have e6 : tailC 6 body3 = .seq (headC 6 body3) (tailC 7 body3) := by kernel_rfl
  rw [e6]
  refine Can.ctl hS hL rfl (fun _ => stepG_seq) ?_
  refine Can.code' okProgP hS hL (okFr_at (by kernel_rfl) rfl rfl ⟨_, Try.func3⟩) ?_
  intro T d W hW B hB
  have h50 : W.cell? ⟨k5, 2, none⟩ = some (.string E) := by rw [hW.out]; exact (hr5 2 (by simp)).1
  rcases kd_one hD with rfl | ⟨rfl, hE⟩ | ⟨rfl, hE, hF⟩
  · simp only [headC, body3, Try.f3, Option.getD_some]
    go_wp2
    have hB := hB.out
    subst hB
    intro hc todo
    have hW := hW.out
    subst hW
    exact end3 (⟨hL.cut.re T d, hL.no⟩ : Lay C (wl.re T d)) rfl
  · rw [hE] at h50
    simp only [headC, body3, Try.f3, Option.getD_some]
    go_wp2
    have hB := hB.out
    subst hB
    intro hc todo
    have hW := hW.out
    subst hW
    exact end3 (⟨hL.cut.re T d, hL.no⟩ : Lay C (wl.re T d)) rfl
  · rw [hE] at h50
    simp only [headC, body3, Try.f3, Option.getD_some]
    go_wp2
    have hB := hB.out
    subst hB
    intro hc
    have hW := hW.out
    subst hW
    refine Can.re ?_ T d
    exact next wl _ _ _ _ _ _ _ _ _ _ _ _ _ _ _ _ _ _ _ _ _ _ _ _ _ _ _ _ _ _ _ _ _ _ _ _ _ _ _ _ _ _ _ _ _ _ _ _ _ _ _ _ _ _ _ _ _ _ _ _ _ _ _ _ _ _ _ _ _ _ _ _ _ _ _ _ _ _ _ _ _ _ _ _ _ _ _ _ _ _ _ _ _ _ _ _ _ _ _ _ _ _ _ hE hF hL hs hr5 hi1 hi2
end
end Go.Town.Kp
namespace Go.Town.Kp
open Go Go.Conc Go.Conc.Lib Go.ConcR.Gen Go.RowKit Go.Town Go.Proofs
open Go.ConcN (upd upd_ne upd_same)
section
variable {C : Cfg} {b o Bd kb : Nat} {wl : World} {f t : Int} {J : List (List Int)} {tc : Nat} {ta : Option Addr} {g : Bool} {R1 R2 : List Int} {E : ByteArray} {A : Int} {a : Option Addr} {bs : List Int} {c : Nat} {k5 k7 : Nat} {d1 d2 : Option Addr} {e1 e2 : Nat}
set_option maxRecDepth 100000 in
set_option maxHeartbeats 2000000 in
theorem law3_7 {z1 z9 z10 z11 z12 z13 z14 z15 z16 z17 z18 z19 z20 z21 z22 z23 z24 z25 z26 z27 z28 z29 z30 z31 z32 z33 z34 z35 z36 z37 z38 z39 z40 z41 z42 z43 z44 z45 z46 z47 z48 z49 z50 z51 z52 z53 z54 z55 z56 z57 z58 z59 z60 z61 z62 z63 z64 z65 z66 z67 z68 z69 z70 z71 z72 z73 z74 z75 z76 z77 z78 z79 z80 z81 z82 z83 z84 z85 z86 z87 z88 z89 z90 z91 z92 z93 z94 z95 z96 z97 z98 z99 z100 z101 z102 z103 z104 z105 z106 z107 z108 z109 z110 : Value} (hL : Lay C wl) (next : ∀ (z1 z10 z11 z12 z13 z14 z15 z16 z17 z18 z19 z20 z21 z22 z23 z24 z25 z26 z27 z28 z29 z30 z31 z32 z33 z34 z35 z36 z37 z38 z39 z40 z41 z42 z43 z44 z45 z46 z47 z48 z49 z50 z51 z52 z53 z54 z55 z56 z57 z58 z59 z60 z61 z62 z63 z64 z65 z66 z67 z68 z69 z70 z71 z72 z73 z74 z75 z76 z77 z78 z79 z80 z81 z82 z83 z84 z85 z86 z87 z88 z89 z90 z91 z92 z93 z94 z95 z96 z97 z98 z99 z100 z101 z102 z103 z104 z105 z106 z107 z108 z109 z110 : Value), Can Try.prog C b o (fun v _ => v = .bool true) 0 (AloneB Bd) wl (G ((base 3).at ⟨#[.slice a bs.length c, z1, .bool false, .pointer (some ⟨kb, 0, none⟩), .slice ta J.length tc, .pointer (some ⟨k5, 0, none⟩), .bool true, .pointer (some ⟨k7, 0, none⟩), .bool true, .int .i64 0, z10, z11, z12, z13, z14, z15, z16, z17, z18, z19, z20, z21, z22, z23, z24, z25, z26, z27, z28, z29, z30, z31, z32, z33, z34, z35, z36, z37, z38, z39, z40, z41, z42, z43, z44, z45, z46, z47, z48, z49, z50, z51, z52, z53, z54, z55, z56, z57, z58, z59, z60, z61, z62, z63, z64, z65, z66, z67, z68, z69, z70, z71, z72, z73, z74, z75, z76, z77, z78, z79, z80, z81, z82, z83, z84, z85, z86, z87, z88, z89, z90, z91, z92, z93, z94, z95, z96, z97, z98, z99, z100, z101, z102, z103, z104, z105, z106, z107, z108, z109, z110], []⟩ [.code (tailC 8 body3)]) [])) :
    Can Try.prog C b o (fun v _ => v = .bool true) 0 (AloneB Bd) wl (G ((base 3).at ⟨#[.slice a bs.length c, z1, .bool false, .pointer (some ⟨kb, 0, none⟩), .slice ta J.length tc, .pointer (some ⟨k5, 0, none⟩), .bool true, .pointer (some ⟨k7, 0, none⟩), .bool true, z9, z10, z11, z12, z13, z14, z15, z16, z17, z18, z19, z20, z21, z22, z23, z24, z25, z26, z27, z28, z29, z30, z31, z32, z33, z34, z35, z36, z37, z38, z39, z40, z41, z42, z43, z44, z45, z46, z47, z48, z49, z50, z51, z52, z53, z54, z55, z56, z57, z58, z59, z60, z61, z62, z63, z64, z65, z66, z67, z68, z69, z70, z71, z72, z73, z74, z75, z76, z77, z78, z79, z80, z81, z82, z83, z84, z85, z86, z87, z88, z89, z90, z91, z92, z93, z94, z95, z96, z97, z98, z99, z100, z101, z102, z103, z104, z105, z106, z107, z108, z109, z110], []⟩ [.code (tailC 7 body3)]) []) := by
  have hS := steady_aloneB Bd
  have e7 : tailC 7 body3 = .seq (headC 7 body3) (tailC 8 body3) := by kernel_rfl
  rw [e7]
  refine Can.ctl hS hL rfl (fun _ => stepG_seq) ?_
  refine Can.code' okProgP hS hL (okFr_at (by kernel_rfl) rfl rfl ⟨_, Try.func3⟩) ?_
  intro T d W hW B hB
  simp only [headC, body3, Try.f3, Option.getD_some]
  go_wp2
  have hB := hB.out
  subst hB
  intro hc
  have hW := hW.out
  subst hW
  refine Can.re ?_ T d
  exact next _ _ _ _ _ _ _ _ _ _ _ _ _ _ _ _ _ _ _ _ _ _ _ _ _ _ _ _ _ _ _ _ _ _ _ _ _ _ _ _ _ _ _ _ _ _ _ _ _ _ _ _ _ _ _ _ _ _ _ _ _ _ _ _ _ _ _ _ _ _ _ _ _ _ _ _ _ _ _ _ _ _ _ _ _ _ _ _ _ _ _ _ _ _ _ _ _ _ _ _ _ _
set_option maxRecDepth 100000 in
set_option maxHeartbeats 4000000 in
theorem law3_e {z1 z10 z11 z12 z13 z14 z15 z16 z17 z18 z19 z20 z21 z22 z23 z24 z25 z26 z27 z28 z29 z30 z31 z32 z33 z34 z35 z36 z37 z38 z39 z40 z41 z42 z43 z44 z45 z46 z47 z48 z49 z50 z51 z52 z53 z54 z55 z56 z57 z58 z59 z60 z61 z62 z63 z64 z65 z66 z67 z68 z69 z70 z71 z72 z73 z74 z75 z76 z77 z78 z79 z80 z81 z82 z83 z84 z85 z86 z87 z88 z89 z90 z91 z92 z93 z94 z95 z96 z97 z98 z99 z100 z101 z102 z103 z104 z105 z106 z107 z108 z109 z110 : Value} (hF : OneFacts J R1 R2 A) (hL : Lay C wl) (hs : BaseP [111, 110, 101] f t J ta kb wl) (hr5 : Reads wl k5 [.slice d1 R1.length e1, .slice d2 R2.length e2, .string E, .int .i64 A]) (hi1 : IntsAt wl d1 R1) (hi2 : IntsAt wl d2 R2)
    (next : ∀ (z1 z2 z10 z11 z12 z13 z14 z15 z16 z17 z18 z19 z20 z21 z22 z23 z24 z25 z26 z27 z28 z29 z30 z31 z32 z33 z34 z35 z36 z37 z38 z39 z40 z41 z42 z43 z44 z45 z46 z47 z48 z49 z50 z51 z52 z53 z54 z55 z56 z57 z58 z59 z60 z61 z62 z63 z64 z65 z66 z67 z68 z69 z70 z71 z72 z73 z74 z75 z76 z77 z78 z79 z80 z81 z82 z83 z84 z85 z86 z87 z88 z89 z90 z91 z92 z93 z94 z95 z96 z97 z98 z99 z100 z101 z102 z103 z104 z105 z106 z107 z108 z109 z110 : Value), Can Try.prog C b o (fun v _ => v = .bool true) 0 (AloneB Bd) wl (G ((base 3).at ⟨#[.slice a bs.length c, z1, z2, .pointer (some ⟨kb, 0, none⟩), .slice ta J.length tc, .pointer (some ⟨k5, 0, none⟩), .bool true, .pointer (some ⟨k7, 0, none⟩), .bool true, .int .i64 (mxR J J.length : Nat), z10, z11, z12, z13, z14, z15, z16, z17, z18, z19, z20, z21, z22, z23, z24, z25, z26, z27, z28, z29, z30, z31, z32, z33, z34, z35, z36, z37, z38, z39, z40, z41, z42, z43, z44, z45, z46, z47, z48, z49, z50, z51, z52, z53, z54, z55, z56, z57, z58, z59, z60, z61, z62, z63, z64, z65, z66, z67, z68, z69, z70, z71, z72, z73, z74, z75, z76, z77, z78, z79, z80, z81, z82, z83, z84, z85, z86, z87, z88, z89, z90, z91, z92, z93, z94, z95, z96, z97, z98, z99, z100, z101, z102, z103, z104, z105, z106, z107, z108, z109, z110], []⟩ [.code (tailC 9 body3)]) [])) :
    Can Try.prog C b o (fun v _ => v = .bool true) 0 (AloneB Bd) wl (G ((base 3).at ⟨#[.slice a bs.length c, z1, .bool false, .pointer (some ⟨kb, 0, none⟩), .slice ta J.length tc, .pointer (some ⟨k5, 0, none⟩), .bool true, .pointer (some ⟨k7, 0, none⟩), .bool true, .int .i64 0, z10, z11, z12, z13, z14, z15, z16, z17, z18, z19, z20, z21, z22, z23, z24, z25, z26, z27, z28, z29, z30, z31, z32, z33, z34, z35, z36, z37, z38, z39, z40, z41, z42, z43, z44, z45, z46, z47, z48, z49, z50, z51, z52, z53, z54, z55, z56, z57, z58, z59, z60, z61, z62, z63, z64, z65, z66, z67, z68, z69, z70, z71, z72, z73, z74, z75, z76, z77, z78, z79, z80, z81, z82, z83, z84, z85, z86, z87, z88, z89, z90, z91, z92, z93, z94, z95, z96, z97, z98, z99, z100, z101, z102, z103, z104, z105, z106, z107, z108, z109, z110], []⟩ [.code (tailC 8 body3)]) []) := by
  have hS := steady_aloneB Bd
  have e8 : tailC 8 body3 = .seq (headC 8 body3) (tailC 9 body3) := by kernel_rfl
  rw [e8]
  refine Can.ctl hS hL rfl (fun _ => stepG_seq) ?_
  refine Can.code' okProgP hS hL (okFr_at (by kernel_rfl) rfl rfl ⟨_, Try.func3⟩) ?_
  intro T d W hW B hB
  have q0 : W.cell? ⟨k5, 0, none⟩ = some (.slice d1 R1.length e1) := by rw [hW.out]; exact (hr5 0 (by simp)).1
  have q1 : W.cell? ⟨k5, 1, none⟩ = some (.slice d2 R2.length e2) := by rw [hW.out]; exact (hr5 1 (by simp)).1
  have hA : RowsAt W ta J := by rw [hW.out]; exact RowsIn.re hs.rowsAt T d
  have i1 : IntsAt W d1 R1 := by rw [hW.out]; exact hi1
  have i2 : IntsAt W d2 R2 := by rw [hW.out]; exact hi2
  obtain ⟨hT, h4, hl20, hn1, hn2, at1, at2, _⟩ := hF
  clear hr5 hi1 hi2 hs
  simp only [headC, body3, Try.f3, Option.getD_some]
  go_wp2
  go_loop [9, 10] (fun r i => ∃ k : Nat, k ≤ J.length ∧ i = .int .i64 k ∧ r = .int .i64 (mxR J k : Nat)) (fun _ i => J.length - (intOf i).toNat)
  case atStart => exact ⟨0, Nat.zero_le _, rfl, rfl⟩
  case round =>
    obtain ⟨k, hk, rfl, rfl⟩ := hrel
    by_cases hlt : k < J.length
    · obtain ⟨xb, off, a', c', rfl, hbs, hck, hI⟩ := hA.at hlt
      have hlt' : (k : Int) < (J.length : Int) := by omega
      have hml : J[k].length ≤ 20 := hl20 _ (List.getElem_mem hlt)
      have hmm : mxR J k ≤ 20 := mxR_le hl20 k
      have hsx : RowKit.Hid (mxR J (k + 1) = max (mxR J k) J[k].length) := mxR_succ hlt
      have hTk : RowKit.Hid (∀ v ∈ J[k], 0 ≤ v ∧ v ≤ 1000) := hT _ (List.getElem_mem hlt)
      obtain ⟨b1, off1, rfl, hb1, hc1⟩ := i1.at (show k < R1.length by omega)
      obtain ⟨b2, off2, rfl, hb2, hc2⟩ := i2.at (show k < R2.length by omega)
      have hk1 : (k : Int) < (R1.length : Int) := by omega
      have hk2 : (k : Int) < (R2.length : Int) := by omega
      rw [at1 k hlt (by omega)] at hc1
      rw [at2 k hlt (by omega)] at hc2
      generalize mxR J k = r at *
      generalize hl : J[k] = l at *
      clear hl
      go_wp2
      go_loop [11, 12, 13] (fun sv tv jv => ∃ j : Nat, j ≤ l.length ∧ jv = .int .i64 j ∧ sv = .int .i64 (own (l.take j)).1 ∧ tv = .int .i64 (own (l.take j)).2) (fun _ _ jv => l.length - (intOf jv).toNat)
      case atStart => exact ⟨0, Nat.zero_le _, rfl, rfl, rfl⟩
      case round =>
        obtain ⟨j, hj, rfl, rfl, rfl⟩ := hrel
        obtain ⟨o1, o2, o3, o4⟩ := own_bounds hTk.out j hj
        by_cases hjl : j < l.length
        · have hjl' : (j : Int) < (l.length : Int) := by omega
          obtain ⟨b3, off3, rfl, hb3, hc3⟩ := hI.at hjl
          have hv := hTk.out l[j] (List.getElem_mem hjl)
          have hs1 : RowKit.Hid (own (l.take (j + 1)) = ownS (own (l.take j)) l[j]) := by
            show own _ = _
            rw [own_succ, List.getElem?_eq_getElem hjl]; rfl
          generalize own (l.take j) = o at *
          obtain ⟨oa, ob⟩ := o
          simp only at o1 o2 o3 o4
          generalize l[j] = v at *
          by_cases hv0 : v = 0
          · subst hv0
            go_wp2
            go_round
            case rel => exact ⟨j + 1, by omega, by go_num, by rw [hs1.out]; simp [ownS], by rw [hs1.out]; simp [ownS]⟩
            case measure => simp [intOf]; omega
          · have hv0' : (v == 0) = false := beq_eq_false_iff_ne.2 hv0
            have hwr : IntKind.i64.wrap (oa + v) = oa + v := IntWalk.i64_in _ (by omega)
            go_wp2
            go_round
            case rel => exact ⟨j + 1, by omega, by go_num, by rw [hs1.out]; simp [ownS, hv0], by rw [hs1.out]; simp [ownS, hv0]⟩
            case measure => simp [intOf]; omega
        · obtain rfl : j = l.length := by omega
          rw [List.take_of_length_le (Nat.le_refl _)] at o1 o2 o3 o4 ⊢
          go_wp2
          go_round
          case rel => exact ⟨k + 1, by omega, by go_num, by rw [hsx.out]; congr 1; split <;> omega⟩
          case measure => simp [intOf]; omega
    · obtain rfl : k = J.length := by omega
      go_wp2
      have hB := hB.out
      subst hB
      intro hc
      have hW := hW.out
      subst hW
      refine Can.re ?_ T d
      exact next _ _ _ _ _ _ _ _ _ _ _ _ _ _ _ _ _ _ _ _ _ _ _ _ _ _ _ _ _ _ _ _ _ _ _ _ _ _ _ _ _ _ _ _ _ _ _ _ _ _ _ _ _ _ _ _ _ _ _ _ _ _ _ _ _ _ _ _ _ _ _ _ _ _ _ _ _ _ _ _ _ _ _ _ _ _ _ _ _ _ _ _ _ _ _ _ _ _ _ _ _ _ _
set_option maxRecDepth 100000 in
set_option maxHeartbeats 2000000 in
theorem law3_f {z1 z2 z10 z11 z12 z13 z14 z15 z16 z17 z18 z19 z20 z21 z22 z23 z24 z25 z26 z27 z28 z29 z30 z31 z32 z33 z34 z35 z36 z37 z38 z39 z40 z41 z42 z43 z44 z45 z46 z47 z48 z49 z50 z51 z52 z53 z54 z55 z56 z57 z58 z59 z60 z61 z62 z63 z64 z65 z66 z67 z68 z69 z70 z71 z72 z73 z74 z75 z76 z77 z78 z79 z80 z81 z82 z83 z84 z85 z86 z87 z88 z89 z90 z91 z92 z93 z94 z95 z96 z97 z98 z99 z100 z101 z102 z103 z104 z105 z106 z107 z108 z109 z110 : Value} (hF : OneFacts J R1 R2 A) (hL : Lay C wl) (hr5 : Reads wl k5 [.slice d1 R1.length e1, .slice d2 R2.length e2, .string E, .int .i64 A]) :
    Can Try.prog C b o (fun v _ => v = .bool true) 0 (AloneB Bd) wl (G ((base 3).at ⟨#[.slice a bs.length c, z1, z2, .pointer (some ⟨kb, 0, none⟩), .slice ta J.length tc, .pointer (some ⟨k5, 0, none⟩), .bool true, .pointer (some ⟨k7, 0, none⟩), .bool true, .int .i64 (mxR J J.length : Nat), z10, z11, z12, z13, z14, z15, z16, z17, z18, z19, z20, z21, z22, z23, z24, z25, z26, z27, z28, z29, z30, z31, z32, z33, z34, z35, z36, z37, z38, z39, z40, z41, z42, z43, z44, z45, z46, z47, z48, z49, z50, z51, z52, z53, z54, z55, z56, z57, z58, z59, z60, z61, z62, z63, z64, z65, z66, z67, z68, z69, z70, z71, z72, z73, z74, z75, z76, z77, z78, z79, z80, z81, z82, z83, z84, z85, z86, z87, z88, z89, z90, z91, z92, z93, z94, z95, z96, z97, z98, z99, z100, z101, z102, z103, z104, z105, z106, z107, z108, z109, z110], []⟩ [.code (tailC 9 body3)]) []) := by
  have hS := steady_aloneB Bd
  have e10 : tailC 10 body3 = .ret := by kernel_rfl
  have e9 : tailC 9 body3 = .seq (headC 9 body3) (tailC 10 body3) := by kernel_rfl
  rw [e9]
  refine Can.ctl hS hL rfl (fun _ => stepG_seq) ?_
  refine Can.code' okProgP hS hL (okFr_at (by kernel_rfl) rfl rfl ⟨_, Try.func3⟩) ?_
  intro T d W hW B hB
  have q3 : W.cell? ⟨k5, 3, none⟩ = some (.int .i64 (mxR J J.length : Nat)) := by rw [hW.out, ← hF.last]; exact (hr5 3 (by simp)).1
  simp only [headC, body3, Try.f3, Option.getD_some]
  go_wp2
  have hB := hB.out
  subst hB
  intro hc
  have hW := hW.out
  subst hW
  refine Can.re ?_ T d
  clear hc hB hW
  rw [e10]
  refine Can.ctl hS hL rfl (fun _ => st_ret) ?_
  exact end3 hL rfl
end
section
variable {C : Cfg} {b o Bd : Nat} {wl : World} {a : Option Addr} {bs : List Int} {c : Nat}
theorem law3 (hBd : Bd < 1000000000) (hL : Lay C wl) (hA : BytesAt wl a bs) (hu : ∀ b ∈ bs, InU8 b) (hcap : bs.length ≤ c) (hlen : bs.length ≤ 9223372036854775807) :
    Can Try.prog C b o (fun v _ => v = .bool true) 0 (AloneB Bd) wl (G ((base 3).at ⟨#[.slice a bs.length c, undef, undef, undef, undef, undef, undef, undef, undef, undef, undef, undef, undef, undef, undef, undef, undef, undef, undef, undef, undef, undef, undef, undef, undef, undef, undef, undef, undef, undef, undef, undef, undef, undef, undef, undef, undef, undef, undef, undef, undef, undef, undef, undef, undef, undef, undef, undef, undef, undef, undef, undef, undef, undef, undef, undef, undef, undef, undef, undef, undef, undef, undef, undef, undef, undef, undef, undef, undef, undef, undef, undef, undef, undef, undef, undef, undef, undef, undef, undef, undef, undef, undef, undef, undef, undef, undef, undef, undef, undef, undef, undef, undef, undef, undef, undef, undef, undef, undef, undef, undef, undef, undef, undef, undef, undef, undef, undef, undef, undef, undef], []⟩ [.code body3]) []) := by
  refine law3_a hL hA hu hcap hlen ?_
  intro f t J ta tc kb w z1 z5 z6 z7 z8 z9 z10 z11 z12 z13 z14 z15 z16 z17 z18 z19 z20 z21 z22 z23 z24 z25 z26 z27 z28 z29 z30 z31 z32 z33 z34 z35 z36 z37 z38 z39 z40 z41 z42 z43 z44 z45 z46 z47 z48 z49 z50 z51 z52 z53 z54 z55 z56 z57 z58 z59 z60 z61 z62 z63 z64 z65 z66 z67 z68 z69 z70 z71 z72 z73 z74 z75 z76 z77 z78 z79 z80 z81 z82 z83 z84 z85 z86 z87 z88 z89 z90 z91 z92 z93 z94 z95 z96 z97 z98 z99 z100 z101 z102 z103 z104 z105 z106 z107 z108 z109 z110 hJ hJl hL hs
  obtain ⟨g, R1, R2, E, A, hD⟩ := kd_ex [111, 110, 101] f t J
  have hm : ∀ l ∈ J, l.length ≤ 1048576 := fun l hl => by have := hJl l hl; omega
  refine law3_b (by omega) hm (by omega) hD hL hs ?_
  intro C' b' o' k5 d1 d2 e1 e2 w z1 z7 z8 z9 z10 z11 z12 z13 z14 z15 z16 z17 z18 z19 z20 z21 z22 z23 z24 z25 z26 z27 z28 z29 z30 z31 z32 z33 z34 z35 z36 z37 z38 z39 z40 z41 z42 z43 z44 z45 z46 z47 z48 z49 z50 z51 z52 z53 z54 z55 z56 z57 z58 z59 z60 z61 z62 z63 z64 z65 z66 z67 z68 z69 z70 z71 z72 z73 z74 z75 z76 z77 z78 z79 z80 z81 z82 z83 z84 z85 z86 z87 z88 z89 z90 z91 z92 z93 z94 z95 z96 z97 z98 z99 z100 z101 z102 z103 z104 z105 z106 z107 z108 z109 z110 hL hs hr5 hi1 hi2 hz5
  refine law3_c (by omega) hm hD hL hs hr5 hi1 hi2 hz5 ?_
  intro k7 x1 x2 y1 y2 w z1 z9 z10 z11 z12 z13 z14 z15 z16 z17 z18 z19 z20 z21 z22 z23 z24 z25 z26 z27 z28 z29 z30 z31 z32 z33 z34 z35 z36 z37 z38 z39 z40 z41 z42 z43 z44 z45 z46 z47 z48 z49 z50 z51 z52 z53 z54 z55 z56 z57 z58 z59 z60 z61 z62 z63 z64 z65 z66 z67 z68 z69 z70 z71 z72 z73 z74 z75 z76 z77 z78 z79 z80 z81 z82 z83 z84 z85 z86 z87 z88 z89 z90 z91 z92 z93 z94 z95 z96 z97 z98 z99 z100 z101 z102 z103 z104 z105 z106 z107 z108 z109 z110 hL hs _ _ _ _ hr5 hi1 hi2 hz5
  refine law3_d hD hL hs hr5 hi1 hi2 ?_
  intro w z1 z9 z10 z11 z12 z13 z14 z15 z16 z17 z18 z19 z20 z21 z22 z23 z24 z25 z26 z27 z28 z29 z30 z31 z32 z33 z34 z35 z36 z37 z38 z39 z40 z41 z42 z43 z44 z45 z46 z47 z48 z49 z50 z51 z52 z53 z54 z55 z56 z57 z58 z59 z60 z61 z62 z63 z64 z65 z66 z67 z68 z69 z70 z71 z72 z73 z74 z75 z76 z77 z78 z79 z80 z81 z82 z83 z84 z85 z86 z87 z88 z89 z90 z91 z92 z93 z94 z95 z96 z97 z98 z99 z100 z101 z102 z103 z104 z105 z106 z107 z108 z109 z110 hE hF hL hs hr5 hi1 hi2
  refine law3_7 hL ?_
  intro z1 z10 z11 z12 z13 z14 z15 z16 z17 z18 z19 z20 z21 z22 z23 z24 z25 z26 z27 z28 z29 z30 z31 z32 z33 z34 z35 z36 z37 z38 z39 z40 z41 z42 z43 z44 z45 z46 z47 z48 z49 z50 z51 z52 z53 z54 z55 z56 z57 z58 z59 z60 z61 z62 z63 z64 z65 z66 z67 z68 z69 z70 z71 z72 z73 z74 z75 z76 z77 z78 z79 z80 z81 z82 z83 z84 z85 z86 z87 z88 z89 z90 z91 z92 z93 z94 z95 z96 z97 z98 z99 z100 z101 z102 z103 z104 z105 z106 z107 z108 z109 z110
  refine law3_e hF hL hs hr5 hi1 hi2 ?_
  intro z1 z2 z10 z11 z12 z13 z14 z15 z16 z17 z18 z19 z20 z21 z22 z23 z24 z25 z26 z27 z28 z29 z30 z31 z32 z33 z34 z35 z36 z37 z38 z39 z40 z41 z42 z43 z44 z45 z46 z47 z48 z49 z50 z51 z52 z53 z54 z55 z56 z57 z58 z59 z60 z61 z62 z63 z64 z65 z66 z67 z68 z69 z70 z71 z72 z73 z74 z75 z76 z77 z78 z79 z80 z81 z82 z83 z84 z85 z86 z87 z88 z89 z90 z91 z92 z93 z94 z95 z96 z97 z98 z99 z100 z101 z102 z103 z104 z105 z106 z107 z108 z109 z110
  exact law3_f hF hL hr5
end
end Go.Town.Kp
namespace Go.Town.Kp
open Go Go.Conc Go.Conc.Lib Go.ConcR.Gen Go.RowKit Go.Town Go.Proofs Go.ChangeShapes
theorem inU8_of_wf {n : Int} (h : (Lit.int .u8 n).wf = true) : InU8 n := by
  have e1 : IntKind.u8.min = 0 := rfl
  have e2 : IntKind.u8.max = 255 := rfl
  simp [Lit.wf, e1, e2] at h
  exact ⟨by omega, by omega⟩
theorem bytes_open {W : World} {x : Addr} {l c : Nat} {zs : List Int} (hl : l ≤ c) (hz : zs.length = c) (hcell : ∀ i, i < zs.length → W.cell? (x.add i) = some (.int .u8 (zs.getD i 0))) (hw : ∀ n ∈ zs, (Lit.int .u8 n).wf = true) :
    ∃ ys : List Int, l = ys.length ∧ (∀ n ∈ ys, InU8 n) ∧ BytesAt W (some x) ys := by
  refine ⟨zs.take l, by simp; omega, fun n hn => inU8_of_wf (hw n (List.mem_of_mem_take hn)), ?_⟩
  by_cases h0 : l = 0
  · subst h0; exact .inl rfl
  obtain ⟨b, off, spot⟩ := x
  have hc := hcell 0 (by omega)
  have hspot : spot = none := by simpa [Addr.add] using World.cell?_spot hc
  subst hspot
  have hb : b < W.heap.size := by
    unfold World.cell? at hc
    simp only [Addr.add] at hc
    rcases Nat.lt_or_ge b W.heap.size with h | h
    · exact h
    · simp [Array.getElem?_eq_none h] at hc
  refine .inr ⟨b, off, rfl, hb, fun i hi => ?_⟩
  have hi' : i < l := by simp at hi; omega
  have := hcell i (by omega)
  rw [show (zs.take l).getD i 0 = zs.getD i 0 from by simp [List.getD, hi']]
  rw [← this]
  congr 1
  simp [Addr.add]
theorem under22 : Try.prog.underlying 22 = some (.slice 5) := by kernel_rfl
theorem under5 : Try.prog.underlying 5 = some (.int .u8) := by kernel_rfl
section
variable {H : Type} {enc : TypeId × Value → H} {W : World} {base : Nat} {sp : Nat → Bool} {held : Bool}
theorem bytes_in {fuel len cap : Nat} {a : Option Addr} {x : DataW H × List MemPlace} (h : DataW.trod enc Try.prog W base sp held fuel 22 (Value.slice a len cap).cells.toList = some x) : ∃ zs : List Int, len = zs.length ∧ len ≤ cap ∧ len ≤ 9223372036854775807 ∧ (∀ n ∈ zs, InU8 n) ∧ BytesAt W a zs := by
  rcases open_ints under22 under5 (by kernel_rfl) h with ⟨hcs, _⟩ | ⟨x, l, c, zs, hcs, _, hl, hm, hz, _, hcell, hwz⟩
  · simp [Value.cells] at hcs
    obtain ⟨rfl, rfl, rfl⟩ := hcs
    exact ⟨[], rfl, Nat.zero_le _, by omega, by simp, .inl rfl⟩
  · simp [Value.cells] at hcs
    obtain ⟨rfl, rfl, rfl⟩ := hcs
    have hz' : zs.length = cap ∨ zs.length = len := by
      split at hz
      · exact .inl hz
      · exact .inr hz
    obtain ⟨ys, q1, q2, q3⟩ := bytes_open (l := len) (c := zs.length) (by omega) rfl hcell hwz
    exact ⟨ys, q1, hl, by simp only [maxLen] at hm; omega, q2, q3⟩
theorem bytes_shut {a : Option Addr} {bs : List Int} (h : BytesAt W a bs) : BytesAt (shutW W) a bs := by
  rcases h with h | ⟨b, off, rfl, hb, hc⟩
  · exact .inl h
  · exact .inr ⟨b, off, rfl, by rw [shutW_size]; exact hb, fun i hi => by rw [shutW_cell]; exact hc i hi⟩
end
end Go.Town.Kp
