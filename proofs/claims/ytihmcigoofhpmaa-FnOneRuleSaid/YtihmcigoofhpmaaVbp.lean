/-
  The laws of the keeper (P9): which functions keep to themselves; RunKeeper called, with what it answers told without memory.
  The law FnOneRule, to the call of RunKeeper.
  The law FnOneRule: the program's answer, the reference's answer.
  The rule for one, told plainly: if the keeper does not give up, each worker has what it has by itself.
-/
import Derived.Test.YtihmcigoofhpmaaVbe
import Derived.Test.YtihmcigoofhpmaaVbg
import Derived.Test.YtihmcigoofhpmaaVbm
import Derived.Test.YtihmcigoofhpmaaVbo
set_option linter.all false
namespace Go.Town.Kp
open Go Go.Conc Go.Conc.Lib Go.ConcR.Gen Go.RowKit Go.Town Go.Proofs
open Go.ConcN (upd upd_ne upd_same)
def listP : List FuncId := [9, 32, 33, 34, 41, 42, 47, 12, 11, 25, 35, 37, 46, 26, 38, 43, 39, 40, 52, 66, 67]
def okP (f : FuncId) : Bool := listP.contains f
theorem okProgP : OkProg Try.prog okP := okProg_of listP (fun f h => by unfold okP at h; simpa using h) (List.all_eq_true.1 (show (listP.all (okBody okP)) = true by kernel_rfl))
theorem BytesAt.re {w : World} {a : Option Addr} {bs : List Int} (h : BytesAt w a bs) (T : Nat → Question → Nat) (d : Nat) : BytesAt (w.re T d) a bs := h
structure BaseP (q : List UInt8) (f t : Int) (J : List (List Int)) (ta : Option Addr) (kb : Nat) (w : World) : Prop where
  keeper : Reads w kb [.string ⟨q.toArray⟩, .int .i64 f, .int .i64 t]
  rows : RowsIn kb w ta J
  low : kb < w.heap.size
theorem BaseP.kin {q : List UInt8} {f t : Int} {J : List (List Int)} {ta : Option Addr} {kb : Nat} {w w' : World} (h : BaseP q f t J ta kb w) (k : Kin (kb + 1) w w') : BaseP q f t J ta kb w' :=
  ⟨h.keeper.kin k (by omega), h.rows.kept (k.le (B' := kb) (by omega)).cells (Nat.le_refl _), Nat.lt_of_lt_of_le h.low k.size⟩
theorem BaseP.rowsAt {q : List UInt8} {f t : Int} {J : List (List Int)} {ta : Option Addr} {kb : Nat} {w : World} (h : BaseP q f t J ta kb w) : RowsAt w ta J := h.rows.kept (B' := w.heap.size) (fun _ _ _ _ hv => hv) (Nat.le_of_lt h.low)
theorem BaseP.rule {q q' : List UInt8} {f t : Int} {J : List (List Int)} {ta : Option Addr} {kb : Nat} {w : World} (h : BaseP q f t J ta kb w) : BaseP q' f t J ta kb (w.setCell ⟨kb, 0, none⟩ (.string ⟨q'.toArray⟩)) := by
  have ne : ∀ (i j : Nat) (v : Value), i ≠ j → (w.setCell ⟨kb, i, none⟩ v).cell? ⟨kb, j, none⟩ = w.cell? ⟨kb, j, none⟩ := fun i j v h => cell_setCell_ne w v (.inr h)
  refine ⟨fun j hj => ?_, h.rows.kept (fun x j v hx hv => (cell_setCell_ne w _ (.inl (by omega))).trans hv) (Nat.le_refl _), by rw [World.size_setCell]; exact h.low⟩
  simp only [List.length_cons, List.length_nil] at hj
  have hf : (w.setCell ⟨kb, 0, none⟩ (.string ⟨q'.toArray⟩)).frozen? ⟨kb, j, none⟩ = false := by rw [frozen_setCell]; exact (h.keeper j (by simp; omega)).2
  refine ⟨?_, hf⟩
  obtain rfl | rfl | rfl : j = 0 ∨ j = 1 ∨ j = 2 := by omega
  · exact cell_setCell_eq _ (h.keeper 0 (by simp)).1
  · rw [ne 0 1 _ (by omega)]; exact (h.keeper 1 (by simp)).1
  · rw [ne 0 2 _ (by omega)]; exact (h.keeper 2 (by simp)).1
theorem enter10 {l : ByteArray} {f t : Int} {n tc : Nat} {ta : Option Addr} : Frame.enter Try.prog 10 #[.agg #[.string l, .int .i64 f, .int .i64 t], .slice ta n tc] .normal = (base 10).at ⟨#[.agg #[.string l, .int .i64 f, .int .i64 t], .slice ta n tc] ++ Array.replicate 18 undef, []⟩ [.code body10] := by kernel_rfl
section
variable {C : Cfg} {b o Bd kb : Nat} {wl : World} {q : List UInt8} {f t : Int} {J : List (List Int)} {tc : Nat} {ta : Option Addr} {g : Bool} {R1 R2 : List Int} {E : ByteArray} {A : Int}
set_option maxRecDepth 100000 in
set_option maxHeartbeats 2000000 in
theorem call10 {b₀ : Frame} {a₀ : Act} {ops₀ : Array Oper} {i₀ : Nat} {rest₀ : List Nat} {k₀ : List Item} {cs : List Frame} {ta' : Option Addr} {tc' : Nat} {Post : Value → World → Prop} (hn : J.length ≤ 1048576) (hm : ∀ l ∈ J, l.length ≤ 1048576) (hBd : Bd < 2000000000) (hL : Lay C wl) (hR : RowsAt wl ta' J) (hD : Kd q f t J g R1 R2 E A)
    (h : ∀ C' b' o' d1 d2 e1 e2 wl', Lay C' wl' → Kin wl.heap.size wl wl' → Ans R1 R2 d1 d2 wl' → Can Try.prog C' b' o' Post 0 (AloneB (Bd + 400)) wl' (G (b₀.at (a₀.put ((ops₀[i₀]?).bind (·.dst)) (.tuple #[.agg #[.slice d1 R1.length e1, .slice d2 R2.length e2, .string E, .int .i64 A], .bool g])) (.inRegion ops₀ rest₀ :: k₀)) cs)) :
    Can Try.prog C b o Post 0 (AloneB Bd) wl (G (Frame.enter Try.prog 10 #[.agg #[.string ⟨q.toArray⟩, .int .i64 f, .int .i64 t], .slice ta' J.length tc'] .normal) (b₀.at a₀ (.inRegion ops₀ (i₀ :: rest₀) :: k₀) :: cs)) := by
  rw [enter10]
  refine runKeeper okProgT hn hm hBd hL hR (fun hbad wl' hL' hK => ?_) (fun κ h1 h2 h3 hb hw0 hw h4 C' b₁ sa st wl' hL' hK h5 h6 h7 s1 s2 => ?_)
  · obtain ⟨rfl, rfl, rfl, rfl, rfl⟩ := (Kd.one (.inl ⟨hbad, rfl, rfl, rfl, rfl, rfl⟩) hD : _)
    exact Can.mono (h C b o none none 0 0 wl' hL' hK ⟨.inl rfl, .inl rfl⟩) (AloneB.mono (by omega))
  · have hv : (vK q f t && vT J) = true := by
      have a1 : vK q f t = true := vK_true (by omega) (by omega) (by omega) (by omega) (by rw [h1]; cases κ.rule <;> simp [Rule.text])
      rw [a1, h4]; rfl
    obtain ⟨rfl, rfl, rfl, rfl, rfl⟩ := (Kd.one (.inr ⟨κ, h1, h2, h3, hv, rfl, rfl, rfl, rfl, rfl⟩) hD : _)
    have := h C' b₁ 5 (some ⟨sa, 0, none⟩) (some ⟨st, 0, none⟩) J.length J.length wl' hL' hK ⟨nums_ints (w := wl') (x := sa) s1, nums_ints (w := wl') (x := st) s2⟩
    simpa using this
theorem kd_ex (q : List UInt8) (f t : Int) (J : List (List Int)) : ∃ g R1 R2 E A, Kd q f t J g R1 R2 E A := by
  cases h : (vK q f t && vT J) with
  | false => exact ⟨false, [], [], ⟨#[]⟩, 0, .inl ⟨h, rfl, rfl, rfl, rfl, rfl⟩⟩
  | true =>
    have h' := h
    simp only [Bool.and_eq_true] at h'
    obtain ⟨κ, h1, h2, h3, _⟩ := vK_spec h'.1
    exact ⟨true, _, _, _, _, .inr ⟨κ, h1, h2, h3, h, rfl, rfl, rfl, rfl, rfl⟩⟩
end
end Go.Town.Kp
namespace Go.Town.Kp
open Go Go.Conc Go.Conc.Lib Go.ConcR.Gen Go.RowKit Go.Town Go.Proofs
open Go.ConcN (upd upd_ne upd_same)
noncomputable def body3 : Code := Try.f3.body.getD .skip
theorem end3 {C : Cfg} {b o Bd : Nat} {wl : World} {tmps : Array Value} {todo : List Item} (hL : Lay C wl) (h2 : tmps[2]? = some (.bool true)) :
    Can Try.prog C b o (fun v _ => v = .bool true) 0 (AloneB Bd) wl (G { (base 3).at ⟨tmps, []⟩ todo with mode := .returning } []) := by
  refine Can.mono (Rs := Alone) (Can.ends (v := .bool true) hL rfl (fun w hw => ?_) (fun _ _ => rfl)) (fun _ _ _ h => h.1)
  have hr : (results Try.f3 tmps).runT Try.prog w #[] = (.ok (.bool true) w, #[]) := by
    simp [results, Try.results3, h2, Sem.runT]
  refine ⟨seen Try.prog 3 #[], ?_, ?_⟩
  · simp only [stepG, G, Frame.at, base, unwind, Try.func3]
    rw [hr]
    simp [doReturn, GStep.after, Result.setW]
  · intro e he; rw [seen_none] at he; simp at he
section
variable {C : Cfg} {b o Bd : Nat} {wl : World} {a : Option Addr} {bs : List Int} {c : Nat}
theorem enter3 : Frame.enter Try.prog 3 #[.slice a bs.length c] .normal = (base 3).at ⟨#[.slice a bs.length c, undef, undef, undef, undef, undef, undef, undef, undef, undef, undef, undef, undef, undef, undef, undef, undef, undef, undef, undef, undef, undef, undef, undef, undef, undef, undef, undef, undef, undef, undef, undef, undef, undef, undef, undef, undef, undef, undef, undef, undef, undef, undef, undef, undef, undef, undef, undef, undef, undef, undef, undef, undef, undef, undef, undef, undef, undef, undef, undef, undef, undef, undef, undef, undef, undef, undef, undef, undef, undef, undef, undef, undef, undef, undef, undef, undef, undef, undef, undef, undef, undef, undef, undef, undef, undef, undef, undef, undef, undef, undef, undef, undef, undef, undef, undef, undef, undef, undef, undef, undef, undef, undef, undef, undef, undef, undef, undef, undef, undef, undef], []⟩ [.code body3] := by kernel_rfl
set_option maxRecDepth 100000 in
set_option maxHeartbeats 2000000 in
theorem law3_a (hL : Lay C wl) (hA : BytesAt wl a bs) (hu : ∀ b ∈ bs, InU8 b) (hcap : bs.length ≤ c) (hlen : bs.length ≤ 9223372036854775807)
    (next : ∀ (f t : Int) (J : List (List Int)) (ta : Option Addr) (tc kb : Nat) (w : World) (z1 z5 z6 z7 z8 z9 z10 z11 z12 z13 z14 z15 z16 z17 z18 z19 z20 z21 z22 z23 z24 z25 z26 z27 z28 z29 z30 z31 z32 z33 z34 z35 z36 z37 z38 z39 z40 z41 z42 z43 z44 z45 z46 z47 z48 z49 z50 z51 z52 z53 z54 z55 z56 z57 z58 z59 z60 z61 z62 z63 z64 z65 z66 z67 z68 z69 z70 z71 z72 z73 z74 z75 z76 z77 z78 z79 z80 z81 z82 z83 z84 z85 z86 z87 z88 z89 z90 z91 z92 z93 z94 z95 z96 z97 z98 z99 z100 z101 z102 z103 z104 z105 z106 z107 z108 z109 z110 : Value), J.length ≤ 10 → (∀ l ∈ J, l.length ≤ 30) → Lay C w → BaseP [111, 110, 101] f t J ta kb w → Can Try.prog C b o (fun v _ => v = .bool true) 0 (AloneB Bd) w (G ((base 3).at ⟨#[.slice a bs.length c, z1, .bool false, .pointer (some ⟨kb, 0, none⟩), .slice ta J.length tc, z5, z6, z7, z8, z9, z10, z11, z12, z13, z14, z15, z16, z17, z18, z19, z20, z21, z22, z23, z24, z25, z26, z27, z28, z29, z30, z31, z32, z33, z34, z35, z36, z37, z38, z39, z40, z41, z42, z43, z44, z45, z46, z47, z48, z49, z50, z51, z52, z53, z54, z55, z56, z57, z58, z59, z60, z61, z62, z63, z64, z65, z66, z67, z68, z69, z70, z71, z72, z73, z74, z75, z76, z77, z78, z79, z80, z81, z82, z83, z84, z85, z86, z87, z88, z89, z90, z91, z92, z93, z94, z95, z96, z97, z98, z99, z100, z101, z102, z103, z104, z105, z106, z107, z108, z109, z110], []⟩ [.code (tailC 4 body3)]) [])) :
    Can Try.prog C b o (fun v _ => v = .bool true) 0 (AloneB Bd) wl (G ((base 3).at ⟨#[.slice a bs.length c, undef, undef, undef, undef, undef, undef, undef, undef, undef, undef, undef, undef, undef, undef, undef, undef, undef, undef, undef, undef, undef, undef, undef, undef, undef, undef, undef, undef, undef, undef, undef, undef, undef, undef, undef, undef, undef, undef, undef, undef, undef, undef, undef, undef, undef, undef, undef, undef, undef, undef, undef, undef, undef, undef, undef, undef, undef, undef, undef, undef, undef, undef, undef, undef, undef, undef, undef, undef, undef, undef, undef, undef, undef, undef, undef, undef, undef, undef, undef, undef, undef, undef, undef, undef, undef, undef, undef, undef, undef, undef, undef, undef, undef, undef, undef, undef, undef, undef, undef, undef, undef, undef, undef, undef, undef, undef, undef, undef, undef, undef], []⟩ [.code body3]) []) := by
  have hS := steady_aloneB Bd
  have e0 : tailC 0 body3 = .seq (headC 0 body3) (tailC 1 body3) := by kernel_rfl
  have e1 : tailC 1 body3 = .seq (headC 1 body3) (tailC 2 body3) := by kernel_rfl
  have e2 : tailC 2 body3 = .seq (headC 2 body3) (tailC 3 body3) := by kernel_rfl
  have e3 : tailC 3 body3 = .seq (headC 3 body3) (tailC 4 body3) := by kernel_rfl
  rw [show body3 = tailC 0 body3 from rfl]
  rw [e0]
  refine Can.ctl hS hL rfl (fun _ => stepG_seq) ?_
  refine Can.code' okProgP hS hL (okFr_at (by kernel_rfl) rfl rfl ⟨_, Try.func3⟩) ?_
  intro T d W hW B hB
  simp only [headC, body3, Try.f3, Option.getD_some]
  go_wp2
  have hB := hB.out
  subst hB
  intro hc
  have hW := hW.out
  subst hW
  refine Can.re ?_ T d
  clear hc hB hW
  rw [e1]
  refine Can.ctl hS hL rfl (fun _ => stepG_seq) ?_
  refine Can.code' okProgP hS hL (okFr_at (by kernel_rfl) rfl rfl ⟨_, Try.func3⟩) ?_
  intro T d W hW B hB
  simp only [headC, body3, Try.f3, Option.getD_some]
  by_cases hlong : (1048576 : Int) < (bs.length : Int)
  · go_wp2
    have hB := hB.out
    subst hB
    intro hc todo
    have hW := hW.out
    subst hW
    exact end3 (⟨hL.cut.re T d, hL.no⟩ : Lay C (wl.re T d)) rfl
  go_wp2
  have hB := hB.out
  subst hB
  intro hc
  have hW := hW.out
  subst hW
  refine Can.re ?_ T d
  clear hc hB hW hlong
  rw [e2]
  refine Can.ctl hS hL rfl (fun _ => stepG_seq) ?_
  refine Can.code' okProgP hS hL (okFr_at (by kernel_rfl) rfl rfl ⟨_, Try.func3⟩) ?_
  intro T d W hW B hB
  have hAW : BytesAt W a bs := by rw [hW.out]; exact hA.re T d
  have c9 := hidC (drawRun_any hAW hu hcap)
  have fin : RowKit.Hid (∀ (f t : Int) (J : List (List Int)) (ta : Option Addr) (tc : Nat) (q : List UInt8) w', J.length ≤ 10 → (∀ l ∈ J, l.length ≤ 30) → RowsAt w' ta J → Cut (hidOf C) (frzOf C) (w'.alloc (.cells #[.string ⟨q.toArray⟩, .int .i64 f, .int .i64 t] 24)) → ∀ z1 z5 z6 z7 z8 z9 z10 z11 z12 z13 z14 z15 z16 z17 z18 z19 z20 z21 z22 z23 z24 z25 z26 z27 z28 z29 z30 z31 z32 z33 z34 z35 z36 z37 z38 z39 z40 z41 z42 z43 z44 z45 z46 z47 z48 z49 z50 z51 z52 z53 z54 z55 z56 z57 z58 z59 z60 z61 z62 z63 z64 z65 z66 z67 z68 z69 z70 z71 z72 z73 z74 z75 z76 z77 z78 z79 z80 z81 z82 z83 z84 z85 z86 z87 z88 z89 z90 z91 z92 z93 z94 z95 z96 z97 z98 z99 z100 z101 z102 z103 z104 z105 z106 z107 z108 z109 z110 : Value, Can Try.prog C b o (fun v _ => v = .bool true) 0 (AloneB Bd) (w'.alloc (.cells #[.string ⟨q.toArray⟩, .int .i64 f, .int .i64 t] 24)) (G ((base 3).at ⟨#[.slice a bs.length c, z1, .bool false, .pointer (some ⟨w'.heap.size, 0, none⟩), .slice ta J.length tc, z5, z6, z7, z8, z9, z10, z11, z12, z13, z14, z15, z16, z17, z18, z19, z20, z21, z22, z23, z24, z25, z26, z27, z28, z29, z30, z31, z32, z33, z34, z35, z36, z37, z38, z39, z40, z41, z42, z43, z44, z45, z46, z47, z48, z49, z50, z51, z52, z53, z54, z55, z56, z57, z58, z59, z60, z61, z62, z63, z64, z65, z66, z67, z68, z69, z70, z71, z72, z73, z74, z75, z76, z77, z78, z79, z80, z81, z82, z83, z84, z85, z86, z87, z88, z89, z90, z91, z92, z93, z94, z95, z96, z97, z98, z99, z100, z101, z102, z103, z104, z105, z106, z107, z108, z109, z110], []⟩ [.code (tailC 3 body3)]) [])) := by
    intro f t J ta tc q w' hJ hJl hR hc z1 z5 z6 z7 z8 z9 z10 z11 z12 z13 z14 z15 z16 z17 z18 z19 z20 z21 z22 z23 z24 z25 z26 z27 z28 z29 z30 z31 z32 z33 z34 z35 z36 z37 z38 z39 z40 z41 z42 z43 z44 z45 z46 z47 z48 z49 z50 z51 z52 z53 z54 z55 z56 z57 z58 z59 z60 z61 z62 z63 z64 z65 z66 z67 z68 z69 z70 z71 z72 z73 z74 z75 z76 z77 z78 z79 z80 z81 z82 z83 z84 z85 z86 z87 z88 z89 z90 z91 z92 z93 z94 z95 z96 z97 z98 z99 z100 z101 z102 z103 z104 z105 z106 z107 z108 z109 z110
    have hr : Reads (w'.alloc (.cells #[.string ⟨q.toArray⟩, .int .i64 f, .int .i64 t] 24)) w'.heap.size [.string ⟨q.toArray⟩, .int .i64 f, .int .i64 t] := reads_block (t := 24) (alloc_self w' _)
    have hBase : BaseP q f t J ta w'.heap.size (w'.alloc (.cells #[.string ⟨q.toArray⟩, .int .i64 f, .int .i64 t] 24)) := ⟨hr, hR.kept (((Grown.refl w').alloc _).kin (B := w'.heap.size) (Nat.le_refl _)).cells (Nat.le_refl _), by rw [World.size_alloc]; omega⟩
    have hL₂ : Lay C (w'.alloc (.cells #[.string ⟨q.toArray⟩, .int .i64 f, .int .i64 t] 24)) := ⟨hc, hL.no⟩
    clear hc hr hR hW hB hAW c9
    generalize w'.alloc (.cells #[.string ⟨q.toArray⟩, .int .i64 f, .int .i64 t] 24) = w₂ at *
    generalize w'.heap.size = kb at *
    rw [e3]
    refine Can.ctl hS hL₂ rfl (fun _ => stepG_seq) ?_
    refine Can.code' okProgP hS hL₂ (okFr_at (by kernel_rfl) rfl rfl ⟨_, Try.func3⟩) ?_
    intro T d W hW B hB
    have k0 : W.cell? ⟨kb, 0, none⟩ = some (.string ⟨q.toArray⟩) := by rw [hW.out]; exact (hBase.keeper 0 (by simp)).1
    have k1 : W.frozen? ⟨kb, 0, none⟩ = false := by rw [hW.out]; exact (hBase.keeper 0 (by simp)).2
    simp only [headC, body3, Try.f3, Option.getD_some]
    go_wp2
    have hB := hB.out
    subst hB
    intro hc
    have hW := hW.out
    subst hW
    exact next f t J ta tc kb _ _ _ _ _ _ _ _ _ _ _ _ _ _ _ _ _ _ _ _ _ _ _ _ _ _ _ _ _ _ _ _ _ _ _ _ _ _ _ _ _ _ _ _ _ _ _ _ _ _ _ _ _ _ _ _ _ _ _ _ _ _ _ _ _ _ _ _ _ _ _ _ _ _ _ _ _ _ _ _ _ _ _ _ _ _ _ _ _ _ _ _ _ _ _ _ _ _ _ _ _ _ _ _ _ _ _ _ hJ hJl ⟨hc, hL.no⟩ ((show BaseP q f t J ta kb (w₂.re T d) from ⟨hBase.keeper, hBase.rows, hBase.low⟩).rule (q' := [111, 110, 101]))
  clear next hA hAW
  simp only [headC, body3, Try.f3, Option.getD_some]
  go_wp2_with (go_at_call 9; (with_reducible refine c9.out.mono ?_); rintro e w' ⟨q, f, t, ta, J, tc, rfl, hJ, hJl, hR, hb⟩)
  have hB := hB.out
  subst hB
  intro hc
  exact fin.out f t J ta tc q w' hJ hJl hR hc _ _ _ _ _ _ _ _ _ _ _ _ _ _ _ _ _ _ _ _ _ _ _ _ _ _ _ _ _ _ _ _ _ _ _ _ _ _ _ _ _ _ _ _ _ _ _ _ _ _ _ _ _ _ _ _ _ _ _ _ _ _ _ _ _ _ _ _ _ _ _ _ _ _ _ _ _ _ _ _ _ _ _ _ _ _ _ _ _ _ _ _ _ _ _ _ _ _ _ _ _ _ _ _ _ _ _
end
end Go.Town.Kp
namespace Go.Town.Kp
open Go Go.Conc Go.Conc.Lib Go.ConcR.Gen Go.RowKit Go.Town Go.Proofs
open Go.ConcN (upd upd_ne upd_same)
noncomputable def ops3 : Array Oper := match headC 4 body3 with | .region _ o _ => o | _ => #[]
theorem head_ops3 : headC 4 body3 = .region 5 ops3 false := by kernel_rfl
section
variable {C : Cfg} {b o Bd kb : Nat} {wl : World} {f t : Int} {J : List (List Int)} {tc : Nat} {ta : Option Addr} {g : Bool} {R1 R2 : List Int} {E : ByteArray} {A : Int} {a : Option Addr} {bs : List Int} {c : Nat}
set_option maxRecDepth 100000 in
set_option maxHeartbeats 2000000 in
theorem law3_b {z1 z5 z6 z7 z8 z9 z10 z11 z12 z13 z14 z15 z16 z17 z18 z19 z20 z21 z22 z23 z24 z25 z26 z27 z28 z29 z30 z31 z32 z33 z34 z35 z36 z37 z38 z39 z40 z41 z42 z43 z44 z45 z46 z47 z48 z49 z50 z51 z52 z53 z54 z55 z56 z57 z58 z59 z60 z61 z62 z63 z64 z65 z66 z67 z68 z69 z70 z71 z72 z73 z74 z75 z76 z77 z78 z79 z80 z81 z82 z83 z84 z85 z86 z87 z88 z89 z90 z91 z92 z93 z94 z95 z96 z97 z98 z99 z100 z101 z102 z103 z104 z105 z106 z107 z108 z109 z110 : Value} (hn : J.length ≤ 1048576) (hm : ∀ l ∈ J, l.length ≤ 1048576) (hBd : Bd < 2000000000) (hD : Kd [111, 110, 101] f t J g R1 R2 E A) (hL : Lay C wl) (hs : BaseP [111, 110, 101] f t J ta kb wl)
    (next : ∀ (C' : Cfg) (b' o' k5 : Nat) (d1 d2 : Option Addr) (e1 e2 : Nat) (w : World) (z1 z7 z8 z9 z10 z11 z12 z13 z14 z15 z16 z17 z18 z19 z20 z21 z22 z23 z24 z25 z26 z27 z28 z29 z30 z31 z32 z33 z34 z35 z36 z37 z38 z39 z40 z41 z42 z43 z44 z45 z46 z47 z48 z49 z50 z51 z52 z53 z54 z55 z56 z57 z58 z59 z60 z61 z62 z63 z64 z65 z66 z67 z68 z69 z70 z71 z72 z73 z74 z75 z76 z77 z78 z79 z80 z81 z82 z83 z84 z85 z86 z87 z88 z89 z90 z91 z92 z93 z94 z95 z96 z97 z98 z99 z100 z101 z102 z103 z104 z105 z106 z107 z108 z109 z110 : Value), Lay C' w → BaseP [111, 110, 101] f t J ta kb w → Reads w k5 [.slice d1 R1.length e1, .slice d2 R2.length e2, .string E, .int .i64 A] → IntsAt w d1 R1 → IntsAt w d2 R2 → k5 < w.heap.size → Can Try.prog C' b' o' (fun v _ => v = .bool true) 0 (AloneB (Bd + 400)) w (G ((base 3).at ⟨#[.slice a bs.length c, z1, .bool false, .pointer (some ⟨kb, 0, none⟩), .slice ta J.length tc, .pointer (some ⟨k5, 0, none⟩), .bool g, z7, z8, z9, z10, z11, z12, z13, z14, z15, z16, z17, z18, z19, z20, z21, z22, z23, z24, z25, z26, z27, z28, z29, z30, z31, z32, z33, z34, z35, z36, z37, z38, z39, z40, z41, z42, z43, z44, z45, z46, z47, z48, z49, z50, z51, z52, z53, z54, z55, z56, z57, z58, z59, z60, z61, z62, z63, z64, z65, z66, z67, z68, z69, z70, z71, z72, z73, z74, z75, z76, z77, z78, z79, z80, z81, z82, z83, z84, z85, z86, z87, z88, z89, z90, z91, z92, z93, z94, z95, z96, z97, z98, z99, z100, z101, z102, z103, z104, z105, z106, z107, z108, z109, z110], []⟩ [.code (tailC 5 body3)]) [])) :
    Can Try.prog C b o (fun v _ => v = .bool true) 0 (AloneB Bd) wl (G ((base 3).at ⟨#[.slice a bs.length c, z1, .bool false, .pointer (some ⟨kb, 0, none⟩), .slice ta J.length tc, z5, z6, z7, z8, z9, z10, z11, z12, z13, z14, z15, z16, z17, z18, z19, z20, z21, z22, z23, z24, z25, z26, z27, z28, z29, z30, z31, z32, z33, z34, z35, z36, z37, z38, z39, z40, z41, z42, z43, z44, z45, z46, z47, z48, z49, z50, z51, z52, z53, z54, z55, z56, z57, z58, z59, z60, z61, z62, z63, z64, z65, z66, z67, z68, z69, z70, z71, z72, z73, z74, z75, z76, z77, z78, z79, z80, z81, z82, z83, z84, z85, z86, z87, z88, z89, z90, z91, z92, z93, z94, z95, z96, z97, z98, z99, z100, z101, z102, z103, z104, z105, z106, z107, z108, z109, z110], []⟩ [.code (tailC 4 body3)]) []) := by
  have hS := steady_aloneB Bd
  have e4 : tailC 4 body3 = .seq (headC 4 body3) (tailC 5 body3) := by kernel_rfl
  rw [e4]
  refine Can.ctl hS hL rfl (fun _ => stepG_seq) ?_
  rw [head_ops3]
  generalize hK : [Item.code (tailC 5 body3)] = K₁
  simp only [ops3, headC, body3, Try.f3, Option.getD_some]
  refine Can.ctl hS hL rfl (fun _ => stepG_region) ?_; simp only [List.size_toArray, List.length_cons, List.length_nil, Nat.reduceAdd, Nat.zero_add, List.range, List.range.loop]
  refine Can.op (ok := okP) hS hL rfl rfl (by k_ne) (by kernel_rfl) (fun T d => ⟨.agg #[.string ⟨#[111, 110, 101]⟩, .int .i64 f, .int .i64 t], wl.re T d, ?_, fun _ => Can.re ?_ T d⟩)
  · have g0 : (wl.re T d).cell? ⟨kb, 0, none⟩ = _ := (hs.keeper 0 (by simp)).1
    have g1 : (wl.re T d).cell? ⟨kb, 1, none⟩ = _ := (hs.keeper 1 (by simp)).1
    have g2 : (wl.re T d).cell? ⟨kb, 2, none⟩ = _ := (hs.keeper 2 (by simp)).1
    simp only [List.getElem?_cons_zero, List.getElem?_cons_succ] at g0 g1 g2
    go_simp
  walk_nrm
  refine Can.op (ok := okP) hS hL rfl rfl (by k_ne) (by kernel_rfl) (fun T d => ⟨.slice ta J.length tc, wl.re T d, ?_, fun _ => Can.re ?_ T d⟩)
  · go_simp
  walk_nrm
  refine Can.ctl hS hL rfl (fun _ => st_enter' (vs := #[.agg #[.string ⟨#[111, 110, 101]⟩, .int .i64 f, .int .i64 t], .slice ta J.length tc]) rfl rfl (by k_ne) rfl Try.func10 rfl rfl (by kernel_rfl)) ?_
  refine call10 (q := [111, 110, 101]) hn hm hBd hL hs.rowsAt hD ?_
  intro C' b' o' d1 d2 e1 e2 w hL' K hI
  walk_nrm
  have hS' := steady_aloneB (Bd + 400)
  refine Can.op (ok := okP) hS' hL' rfl rfl (by k_ne) (by kernel_rfl) (fun T d => ⟨.tuple #[.agg #[.slice d1 R1.length e1, .slice d2 R2.length e2, .string E, .int .i64 A], .bool g], w.re T d, ?_, fun _ => Can.re ?_ T d⟩)
  · go_simp
  walk_nrm
  refine Can.op (ok := okP) hS' hL' rfl rfl (by k_ne) (by kernel_rfl) (fun T d => ⟨.agg #[.slice d1 R1.length e1, .slice d2 R2.length e2, .string E, .int .i64 A], w.re T d, ?_, fun _ => Can.re ?_ T d⟩)
  · go_simp
  walk_nrm
  refine Can.op (ok := okP) hS' hL' rfl rfl (by k_ne) (by kernel_rfl) (fun T d => ⟨.bool g, w.re T d, ?_, fun _ => Can.re ?_ T d⟩)
  · go_simp
  walk_nrm
  refine Can.op (ok := okP) hS' hL' rfl rfl (by k_ne) (by kernel_rfl) (fun T d => ⟨.pointer (some ⟨w.heap.size, 0, none⟩), (w.re T d).alloc (.cells #[.slice none 0 0, .slice none 0 0, .string ⟨#[]⟩, .int .i64 0] 30), ?_, fun hc => ?_⟩)
  · have hz : (w.re T d).heap.size = w.heap.size := rfl
    go_simp
  walk_nrm
  obtain ⟨w₂, hw₂⟩ : ∃ x, x = (w.re T d).alloc (.cells #[.slice none 0 0, .slice none 0 0, .string ⟨#[]⟩, .int .i64 0] 30) := ⟨_, rfl⟩
  rw [← hw₂] at hc ⊢
  have hL₂ : Lay C' w₂ := ⟨hc, hL'.no⟩
  have hr₂ : Reads w₂ w.heap.size [.slice none 0 0, .slice none 0 0, .string ⟨#[]⟩, .int .i64 0] := reads_block (t := 30) (by rw [hw₂]; exact alloc_self (w.re T d) _)
  have K₂ : Kin w.heap.size w w₂ := by rw [hw₂]; exact ((Grown.refl w).re T d |>.alloc _).kin (Nat.le_refl _)
  have z₂ : w₂.heap.size = w.heap.size + 1 := by rw [hw₂, World.size_alloc]; rfl
  clear hw₂ hc
  obtain ⟨⟨v0, v1, v2, v3, c0, c1', c2', c3⟩, hf⟩ := set4_op hr₂ rfl
  refine Can.opN (ok := okP) hS' hL₂ rfl rfl (by k_ne) (by kernel_rfl) (fun T d => ⟨set4 (w₂.re T d) w.heap.size (.slice d1 R1.length e1) (.slice d2 R2.length e2) (.string E) (.int .i64 A), ?_, fun hc => ?_⟩)
  · have c0 : (w₂.re T d).cell? ⟨w.heap.size, 0, none⟩ = some v0 := c0
    have c1 : (w₂.re T d).cell? ⟨w.heap.size, 1, none⟩ = some v1 := c1'
    have c2 : (w₂.re T d).cell? ⟨w.heap.size, 2, none⟩ = some v2 := c2'
    have c3 : (w₂.re T d).cell? ⟨w.heap.size, 3, none⟩ = some v3 := c3
    have f0 : (w₂.re T d).frozen? ⟨w.heap.size, 0, none⟩ = false := hf 0 (by omega)
    have f1 : (w₂.re T d).frozen? ⟨w.heap.size, 1, none⟩ = false := hf 1 (by omega)
    have f2 : (w₂.re T d).frozen? ⟨w.heap.size, 2, none⟩ = false := hf 2 (by omega)
    have f3 : (w₂.re T d).frozen? ⟨w.heap.size, 3, none⟩ = false := hf 3 (by omega)
    generalize w₂.re T d = W at *
    unfold set4
    go_simp
  walk_nrm
  obtain ⟨p1, p2, p3⟩ := put4 (B := w.heap.size) hr₂ rfl (Nat.le_refl _) (.slice d1 R1.length e1) (.slice d2 R2.length e2) (.string E) (.int .i64 A) T d
  generalize set4 (w₂.re T d) w.heap.size (.slice d1 R1.length e1) (.slice d2 R2.length e2) (.string E) (.int .i64 A) = w₄ at *
  have hL₄ : Lay C' w₄ := ⟨hc, hL'.no⟩
  have K₄ := K₂.trans p1
  clear c0 c1' c2' c3 hf hc
  refine Can.op (ok := okP) hS' hL₄ rfl rfl (by k_ne) (by kernel_rfl) (fun T d => ⟨.bool g, w₄.re T d, ?_, fun _ => Can.re ?_ T d⟩)
  · go_simp
  walk_nrm
  refine Can.ctl hS' hL₄ rfl (fun _ => stepG_region_end) ?_
  subst hK
  have K9 : Kin wl.heap.size wl w₄ := K.trans (K₄.le K.size)
  have hI4 := hI.kin K₄
  exact next C' b' o' w.heap.size d1 d2 e1 e2 w₄ _ _ _ _ _ _ _ _ _ _ _ _ _ _ _ _ _ _ _ _ _ _ _ _ _ _ _ _ _ _ _ _ _ _ _ _ _ _ _ _ _ _ _ _ _ _ _ _ _ _ _ _ _ _ _ _ _ _ _ _ _ _ _ _ _ _ _ _ _ _ _ _ _ _ _ _ _ _ _ _ _ _ _ _ _ _ _ _ _ _ _ _ _ _ _ _ _ _ _ _ _ _ _ _ _ hL₄ (hs.kin (K9.le hs.low)) p2 hI4.i1 hI4.i2 (by omega)
end
section
variable {C : Cfg} {b o Bd kb : Nat} {wl : World} {f t : Int} {J : List (List Int)} {tc : Nat} {ta : Option Addr} {g : Bool} {R1 R2 : List Int} {E : ByteArray} {A : Int} {a : Option Addr} {bs : List Int} {c : Nat} {k5 : Nat} {d1 d2 : Option Addr} {e1 e2 : Nat}
set_option maxRecDepth 100000 in
set_option maxHeartbeats 2000000 in
theorem law3_c {z1 z7 z8 z9 z10 z11 z12 z13 z14 z15 z16 z17 z18 z19 z20 z21 z22 z23 z24 z25 z26 z27 z28 z29 z30 z31 z32 z33 z34 z35 z36 z37 z38 z39 z40 z41 z42 z43 z44 z45 z46 z47 z48 z49 z50 z51 z52 z53 z54 z55 z56 z57 z58 z59 z60 z61 z62 z63 z64 z65 z66 z67 z68 z69 z70 z71 z72 z73 z74 z75 z76 z77 z78 z79 z80 z81 z82 z83 z84 z85 z86 z87 z88 z89 z90 z91 z92 z93 z94 z95 z96 z97 z98 z99 z100 z101 z102 z103 z104 z105 z106 z107 z108 z109 z110 : Value} (hn : J.length ≤ 1048576) (hm : ∀ l ∈ J, l.length ≤ 1048576) (hD : Kd [111, 110, 101] f t J g R1 R2 E A) (hL : Lay C wl) (hs : BaseP [111, 110, 101] f t J ta kb wl) (hr5 : Reads wl k5 [.slice d1 R1.length e1, .slice d2 R2.length e2, .string E, .int .i64 A]) (hi1 : IntsAt wl d1 R1) (hi2 : IntsAt wl d2 R2) (hz5 : k5 < wl.heap.size)
    (next : ∀ (k7 : Nat) (x1 x2 : Option Addr) (y1 y2 : Nat) (w : World) (z1 z9 z10 z11 z12 z13 z14 z15 z16 z17 z18 z19 z20 z21 z22 z23 z24 z25 z26 z27 z28 z29 z30 z31 z32 z33 z34 z35 z36 z37 z38 z39 z40 z41 z42 z43 z44 z45 z46 z47 z48 z49 z50 z51 z52 z53 z54 z55 z56 z57 z58 z59 z60 z61 z62 z63 z64 z65 z66 z67 z68 z69 z70 z71 z72 z73 z74 z75 z76 z77 z78 z79 z80 z81 z82 z83 z84 z85 z86 z87 z88 z89 z90 z91 z92 z93 z94 z95 z96 z97 z98 z99 z100 z101 z102 z103 z104 z105 z106 z107 z108 z109 z110 : Value), Lay C w → BaseP [111, 110, 101] f t J ta kb w → Reads w k7 [.slice x1 R1.length y1, .slice x2 R2.length y2, .string E, .int .i64 A] → IntsAt w x1 R1 → IntsAt w x2 R2 → k7 < w.heap.size → Reads w k5 [.slice d1 R1.length e1, .slice d2 R2.length e2, .string E, .int .i64 A] → IntsAt w d1 R1 → IntsAt w d2 R2 → k5 < w.heap.size → Can Try.prog C b o (fun v _ => v = .bool true) 0 (AloneB Bd) w (G ((base 3).at ⟨#[.slice a bs.length c, z1, .bool false, .pointer (some ⟨kb, 0, none⟩), .slice ta J.length tc, .pointer (some ⟨k5, 0, none⟩), .bool g, .pointer (some ⟨k7, 0, none⟩), .bool g, z9, z10, z11, z12, z13, z14, z15, z16, z17, z18, z19, z20, z21, z22, z23, z24, z25, z26, z27, z28, z29, z30, z31, z32, z33, z34, z35, z36, z37, z38, z39, z40, z41, z42, z43, z44, z45, z46, z47, z48, z49, z50, z51, z52, z53, z54, z55, z56, z57, z58, z59, z60, z61, z62, z63, z64, z65, z66, z67, z68, z69, z70, z71, z72, z73, z74, z75, z76, z77, z78, z79, z80, z81, z82, z83, z84, z85, z86, z87, z88, z89, z90, z91, z92, z93, z94, z95, z96, z97, z98, z99, z100, z101, z102, z103, z104, z105, z106, z107, z108, z109, z110], []⟩ [.code (tailC 6 body3)]) [])) :
    Can Try.prog C b o (fun v _ => v = .bool true) 0 (AloneB Bd) wl (G ((base 3).at ⟨#[.slice a bs.length c, z1, .bool false, .pointer (some ⟨kb, 0, none⟩), .slice ta J.length tc, .pointer (some ⟨k5, 0, none⟩), .bool g, z7, z8, z9, z10, z11, z12, z13, z14, z15, z16, z17, z18, z19, z20, z21, z22, z23, z24, z25, z26, z27, z28, z29, z30, z31, z32, z33, z34, z35, z36, z37, z38, z39, z40, z41, z42, z43, z44, z45, z46, z47, z48, z49, z50, z51, z52, z53, z54, z55, z56, z57, z58, z59, z60, z61, z62, z63, z64, z65, z66, z67, z68, z69, z70, z71, z72, z73, z74, z75, z76, z77, z78, z79, z80, z81, z82, z83, z84, z85, z86, z87, z88, z89, z90, z91, z92, z93, z94, z95, z96, z97, z98, z99, z100, z101, z102, z103, z104, z105, z106, z107, z108, z109, z110], []⟩ [.code (tailC 5 body3)]) []) := by
  have hS := steady_aloneB Bd
  have e5 : tailC 5 body3 = .seq (headC 5 body3) (tailC 6 body3) := by kernel_rfl
  rw [e5]
  refine Can.ctl hS hL rfl (fun _ => stepG_seq) ?_
  refine Can.code' okProgP hS hL (okFr_at (by kernel_rfl) rfl rfl ⟨_, Try.func3⟩) ?_
  intro T d W hW B hB
  have g0 : W.cell? ⟨kb, 0, none⟩ = some (.string ⟨#[111, 110, 101]⟩) := by rw [hW.out]; exact (hs.keeper 0 (by simp)).1
  have g1 : W.cell? ⟨kb, 1, none⟩ = some (.int .i64 f) := by rw [hW.out]; exact (hs.keeper 1 (by simp)).1
  have g2 : W.cell? ⟨kb, 2, none⟩ = some (.int .i64 t) := by rw [hW.out]; exact (hs.keeper 2 (by simp)).1
  have hRW : RowsAt W ta J := by rw [hW.out]; exact RowsIn.re hs.rowsAt T d
  have c11 : RowKit.Hid (Calls Try.prog 11 #[.agg #[.string ⟨#[111, 110, 101]⟩, .int .i64 f, .int .i64 t], .slice ta J.length tc] W fun e w'' => ∃ (x1 x2 : Option Addr) (y1 y2 : Nat), e = .returned (.tuple #[.agg #[.slice x1 R1.length y1, .slice x2 R2.length y2, .string E, .int .i64 A], .bool g]) ∧ RowKit.Hid (Below W.heap.size W w'' ∧ IntsAt w'' x1 R1 ∧ IntsAt w'' x2 R2)) := (specKeep_any (l := [111, 110, 101]) hn hm hRW).mono fun e w'' h => by
    obtain ⟨x1, x2, y1, y2, S1, S2, E', A', g', h1, h2, h3, h4, h5⟩ := keep_spec h
    obtain ⟨rfl, rfl, rfl, rfl, rfl⟩ := hD.one h3
    exact ⟨x1, x2, y1, y2, h1, h2, h4, h5⟩
  have fin : RowKit.Hid (∀ (x1 x2 : Option Addr) (y1 y2 : Nat) w', Below W.heap.size W w' ∧ IntsAt w' x1 R1 ∧ IntsAt w' x2 R2 → Cut (hidOf C) (frzOf C) (w'.alloc (.cells #[.slice x1 R1.length y1, .slice x2 R2.length y2, .string E, .int .i64 A] 30)) → ∀ z1 z9 z10 z11 z12 z13 z14 z15 z16 z17 z18 z19 z20 z21 z22 z23 z24 z25 z26 z27 z28 z29 z30 z31 z32 z33 z34 z35 z36 z37 z38 z39 z40 z41 z42 z43 z44 z45 z46 z47 z48 z49 z50 z51 z52 z53 z54 z55 z56 z57 z58 z59 z60 z61 z62 z63 z64 z65 z66 z67 z68 z69 z70 z71 z72 z73 z74 z75 z76 z77 z78 z79 z80 z81 z82 z83 z84 z85 z86 z87 z88 z89 z90 z91 z92 z93 z94 z95 z96 z97 z98 z99 z100 z101 z102 z103 z104 z105 z106 z107 z108 z109 z110 : Value, Can Try.prog C b o (fun v _ => v = .bool true) 0 (AloneB Bd) (w'.alloc (.cells #[.slice x1 R1.length y1, .slice x2 R2.length y2, .string E, .int .i64 A] 30)) (G ((base 3).at ⟨#[.slice a bs.length c, z1, .bool false, .pointer (some ⟨kb, 0, none⟩), .slice ta J.length tc, .pointer (some ⟨k5, 0, none⟩), .bool g, .pointer (some ⟨w'.heap.size, 0, none⟩), .bool g, z9, z10, z11, z12, z13, z14, z15, z16, z17, z18, z19, z20, z21, z22, z23, z24, z25, z26, z27, z28, z29, z30, z31, z32, z33, z34, z35, z36, z37, z38, z39, z40, z41, z42, z43, z44, z45, z46, z47, z48, z49, z50, z51, z52, z53, z54, z55, z56, z57, z58, z59, z60, z61, z62, z63, z64, z65, z66, z67, z68, z69, z70, z71, z72, z73, z74, z75, z76, z77, z78, z79, z80, z81, z82, z83, z84, z85, z86, z87, z88, z89, z90, z91, z92, z93, z94, z95, z96, z97, z98, z99, z100, z101, z102, z103, z104, z105, z106, z107, z108, z109, z110], []⟩ [.code (tailC 6 body3)]) [])) := by
    intro x1 x2 y1 y2 w' hs' hc z1 z9 z10 z11 z12 z13 z14 z15 z16 z17 z18 z19 z20 z21 z22 z23 z24 z25 z26 z27 z28 z29 z30 z31 z32 z33 z34 z35 z36 z37 z38 z39 z40 z41 z42 z43 z44 z45 z46 z47 z48 z49 z50 z51 z52 z53 z54 z55 z56 z57 z58 z59 z60 z61 z62 z63 z64 z65 z66 z67 z68 z69 z70 z71 z72 z73 z74 z75 z76 z77 z78 z79 z80 z81 z82 z83 z84 z85 z86 z87 z88 z89 z90 z91 z92 z93 z94 z95 z96 z97 z98 z99 z100 z101 z102 z103 z104 z105 z106 z107 z108 z109 z110
    have hW := hW.out
    subst hW
    obtain ⟨hb, h2, h3⟩ := hs'
    have K := bwre hb
    have n1 : Kin w'.heap.size w' (w'.alloc (.cells #[.slice x1 R1.length y1, .slice x2 R2.length y2, .string E, .int .i64 A] 30)) := ((Grown.refl w').alloc _).kin (Nat.le_refl _)
    have n2 : Reads (w'.alloc (.cells #[.slice x1 R1.length y1, .slice x2 R2.length y2, .string E, .int .i64 A] 30)) w'.heap.size [.slice x1 R1.length y1, .slice x2 R2.length y2, .string E, .int .i64 A] := reads_block (t := 30) (alloc_self w' _)
    have n3 : (w'.alloc (.cells #[.slice x1 R1.length y1, .slice x2 R2.length y2, .string E, .int .i64 A] 30)).heap.size = w'.heap.size + 1 := World.size_alloc ..
    have K9 := K.trans (n1.le K.size)
    exact next w'.heap.size x1 x2 y1 y2 _ _ _ _ _ _ _ _ _ _ _ _ _ _ _ _ _ _ _ _ _ _ _ _ _ _ _ _ _ _ _ _ _ _ _ _ _ _ _ _ _ _ _ _ _ _ _ _ _ _ _ _ _ _ _ _ _ _ _ _ _ _ _ _ _ _ _ _ _ _ _ _ _ _ _ _ _ _ _ _ _ _ _ _ _ _ _ _ _ _ _ _ _ _ _ _ _ _ _ _ _ _ _ _ ⟨hc, hL.no⟩ (hs.kin (K9.le hs.low)) n2 (h2.kept n1.cells n1.size) (h3.kept n1.cells n1.size) (by omega) (hr5.kin K9 hz5) (hi1.kept K9.cells K9.size) (hi2.kept K9.cells K9.size) (Nat.lt_of_lt_of_le hz5 K9.size)
  clear next hs hRW hm hD hr5 hi1 hi2 hz5
  replace hn : RowKit.Hid _ := hn
  simp only [headC, body3, Try.f3, Option.getD_some]
  go_wp2_with (go_at_call 11; (with_reducible refine c11.out.mono ?_); rintro e w3 ⟨x1, x2, y1, y2, rfl, hs'⟩)
  have hB := hB.out
  subst hB
  intro hc
  exact fin.out x1 x2 y1 y2 w3 hs'.out hc _ _ _ _ _ _ _ _ _ _ _ _ _ _ _ _ _ _ _ _ _ _ _ _ _ _ _ _ _ _ _ _ _ _ _ _ _ _ _ _ _ _ _ _ _ _ _ _ _ _ _ _ _ _ _ _ _ _ _ _ _ _ _ _ _ _ _ _ _ _ _ _ _ _ _ _ _ _ _ _ _ _ _ _ _ _ _ _ _ _ _ _ _ _ _ _ _ _ _ _ _ _ _
end
end Go.Town.Kp
namespace Go.Town.Kp
open Go Go.Conc Go.Conc.Lib Go.ConcR.Gen Go.RowKit Go.Town Go.Proofs
open Go.ConcN (upd upd_ne upd_same)
def ownS (p : Int × Int) (v : Int) : Int × Int := if v = 0 then (0, p.2 + 1) else (p.1 + v, p.2)
def ownO (p : Int × Int) : Option Int → Int × Int
  | none => p
  | some v => ownS p v
def own (l : List Int) : Int × Int := l.foldl ownS (0, 0)
theorem own_succ (l : List Int) (t : Nat) : own (l.take (t + 1)) = ownO (own (l.take t)) l[t]? := by
  unfold own
  by_cases h : t < l.length
  · rw [List.take_succ_eq_append_getElem h, List.foldl_append, List.getElem?_eq_getElem h]; rfl
  · rw [List.take_of_length_le (by omega), List.take_of_length_le (by omega), List.getElem?_eq_none (by omega)]; rfl
theorem stepW_over {κ : Kr} {J : List (List Int)} {tick i : Nat} {s : St} (hr : κ.rule = .one) (hi : i < J.length) (hs : s.over = false) (h : (stepW κ J tick i s).over = false) (l : Nat) :
    ((stepW κ J tick i s).sum l, (stepW κ J tick i s).starts l) = if l = i then ownO (s.sum l, s.starts l) (J.getD i [])[tick]? else (s.sum l, s.starts l) := by
  unfold stepW at h ⊢
  cases hv : (J.getD i [])[tick]? with
  | none => simp [ownO]
  | some v =>
    simp only [hv] at h
    simp only [ownO, ownS]
    unfold stepT at h ⊢
    by_cases h0 : v = 0
    · simp only [if_pos h0] at h ⊢
      split at h
      · simp at h
      · rename_i hb
        rw [if_neg hb]
        simp only [hr, again, hits]
        by_cases hl : l = i
        · subst hl; simp [hi]
        · simp [hl, Ne.symm hl]
    · simp only [if_neg h0]
      by_cases hl : l = i
      · subst hl; simp [upd_same]
      · simp [hl, upd_ne _ _ hl]
theorem runW_one {κ : Kr} {J : List (List Int)} {tick : Nat} (hr : κ.rule = .one) : ∀ (m i : Nat) (s : St), i + m ≤ J.length → s.over = false → (runW κ J tick m i s).over = false → ∀ l,
    ((runW κ J tick m i s).sum l, (runW κ J tick m i s).starts l) = if i ≤ l ∧ l < i + m then ownO (s.sum l, s.starts l) (J.getD l [])[tick]? else (s.sum l, s.starts l)
  | 0, i, s, _, _, _, l => by rw [if_neg (by omega)]; rfl
  | m + 1, i, s, hm, hs, h, l => by
    unfold runW at h ⊢
    by_cases ho : (stepW κ J tick i s).over = true
    · rw [if_pos ho] at h; rw [ho] at h; cases h
    · rw [if_neg ho] at h ⊢
      have ho' : (stepW κ J tick i s).over = false := by simpa using ho
      have e1 := stepW_over hr (by omega) hs ho' l
      have e2 := runW_one hr m (i + 1) _ (by omega) ho' h l
      rw [e2]
      by_cases hl : l = i
      · subst hl
        rw [if_pos rfl] at e1
        rw [if_neg (by omega), if_pos ⟨Nat.le_refl _, by omega⟩]
        exact e1
      · rw [if_neg hl] at e1
        by_cases h2 : i ≤ l ∧ l < i + (m + 1)
        · rw [if_pos h2, if_pos ⟨by omega, by omega⟩, e1]
        · rw [if_neg h2, if_neg (by omega)]; exact e1
theorem runT_one {κ : Kr} {J : List (List Int)} (hr : κ.rule = .one) : ∀ (m t : Nat) (s : St), s.over = false → (∀ l, l < J.length → (s.sum l, s.starts l) = own ((J.getD l []).take t)) → (runT κ J m t s).1.over = false →
    (∀ l, l < J.length → ((runT κ J m t s).1.sum l, (runT κ J m t s).1.starts l) = own ((J.getD l []).take (t + m))) ∧ (runT κ J m t s).2 = t + m
  | 0, t, s, _, hs, _ => ⟨hs, rfl⟩
  | m + 1, t, s, ho, hs, h => by
    by_cases h1 : (tickW κ J t s).over = true
    · rw [tick_over h1] at h; rw [h1] at h; cases h
    · have h1' : (tickW κ J t s).over = false := by simpa using h1
      rw [tick_on h1'] at h ⊢
      have e := fun l => runW_one hr J.length 0 s (by omega) ho h1' l
      have := runT_one hr m (t + 1) (tickW κ J t s) h1' (fun l hl => by
        have := e l
        rw [if_pos ⟨by omega, by omega⟩, hs l hl] at this
        rw [own_succ]; exact this) h
      rw [show t + (m + 1) = t + 1 + m by omega]
      exact this
theorem mxR_mono {J : List (List Int)} : ∀ k m, k ≤ m → mxR J k ≤ mxR J m
  | k, 0, h => by
    obtain rfl : k = 0 := by omega
    exact Nat.le_refl _
  | k, m + 1, h => by
    by_cases e : k = m + 1
    · subst e; exact Nat.le_refl _
    · have := mxR_mono (J := J) k m (by omega)
      simp only [mxR]; omega
theorem mxR_ge {J : List (List Int)} {k : Nat} (h : k < J.length) : J[k].length ≤ mxR J J.length := by
  have h1 := mxR_succ h
  have h2 := mxR_mono (J := J) (k + 1) J.length (by omega)
  omega
end Go.Town.Kp
