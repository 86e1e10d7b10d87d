/-
  The law FnExactSumsAfter: the first call of SumsAfter.
  The law FnExactSumsAfter: behind the first call of SumsAfter.
  The law FnExactSumsAfter: the answer marked.
-/
import Derived.Test.YtihmcigoofhpmaaSbn
set_option linter.all false
namespace Go.Town.Kp
open Go Go.Conc Go.Conc.Lib Go.ConcR.Gen Go.RowKit Go.Town Go.Proofs
open Go.ConcN (upd upd_ne upd_same)
theorem Copied.kin {b k : Nat} {J : List (List Int)} {w w' : World} (h : Copied b J J.length w) (K : Kin w.heap.size w w') : RowsAt w' (some ⟨b, 0, none⟩) J := h.rows.kept K.cells K.size
theorem ImplR.kin {q : List UInt8} {f t n : Int} {J : List (List Int)} {w w' : World} {B : Nat} {v : Value} {g : Bool} (h : ImplR q f t n J w B v g) (k : Kin w.heap.size w w') : ImplR q f t n J w' B v g := by
  rcases h with h | ⟨κ, tn, sa, h1, h2, h3, h4, h5, h6, h7, h8, h9⟩
  · exact .inl h
  · exact .inr ⟨κ, tn, sa, h1, h2, h3, h4, h5, h6, h7, h8, fun i hi => ⟨k.cells _ _ _ (block_lt (h9 i hi).1) (h9 i hi).1, k.thaw _ _ _ (block_lt (h9 i hi).1) (h9 i hi).1 (h9 i hi).2⟩⟩
section
variable {C : Cfg} {b o Bd kb : Nat} {wl : World} {q : List UInt8} {f t n : Int} {J : List (List Int)} {tc : Nat} {ta : Option Addr} {v8 : Value} {g : Bool} {b10 : Nat}
set_option maxRecDepth 100000 in
set_option maxHeartbeats 1000000 in
theorem law6_d {z4 z5 z7 z11 z12 z13 z14 z15 z16 z17 z18 z19 z20 z21 z22 z23 z24 z25 z26 z27 z28 z29 z30 z31 z32 z33 z34 z35 z36 z37 z38 z39 z40 z41 z42 z43 z44 z45 z46 z47 z48 z49 z50 z51 z52 z53 z54 z55 z56 z57 z58 z59 z60 z61 z62 z63 z64 z65 z66 z67 z68 z69 z70 z71 z72 z73 z74 z75 z76 z77 z78 z79 z80 z81 z82 z83 z84 z85 z86 z87 z88 z89 z90 z91 z92 z93 z94 z95 z96 z97 z98 z99 z100 z101 z102 z103 z104 z105 z106 z107 z108 z109 z110 z111 z112 z113 : Value} (hn : J.length ≤ 1048576) (hm : ∀ l ∈ J, l.length ≤ 1048576) (hBd : Bd < 2000000000) (hL : Lay C wl) (hk : Reads wl kb [.string ⟨q.toArray⟩, .int .i64 f, .int .i64 t]) (hR : RowsIn kb wl ta J) (hz : kb + 1 ≤ wl.heap.size) (hs : SpecR q f t n J wl v8 g)
    (hC : Copied b10 J J.length wl) (hb10 : b10 < wl.heap.size) (hkb : kb < b10) (hlow : SpecLow v8 b10)
    (next : ∀ (C' : Cfg) (b' o' : Nat) (v11 : Value) (gi : Bool) (w w₀ : World) (z4 z5 z7 z13 z14 z15 z16 z17 z18 z19 z20 z21 z22 z23 z24 z25 z26 z27 z28 z29 z30 z31 z32 z33 z34 z35 z36 z37 z38 z39 z40 z41 z42 z43 z44 z45 z46 z47 z48 z49 z50 z51 z52 z53 z54 z55 z56 z57 z58 z59 z60 z61 z62 z63 z64 z65 z66 z67 z68 z69 z70 z71 z72 z73 z74 z75 z76 z77 z78 z79 z80 z81 z82 z83 z84 z85 z86 z87 z88 z89 z90 z91 z92 z93 z94 z95 z96 z97 z98 z99 z100 z101 z102 z103 z104 z105 z106 z107 z108 z109 z110 z111 z112 z113 : Value), Lay C' w → Reads w kb [.string ⟨q.toArray⟩, .int .i64 f, .int .i64 t] → RowsIn kb w ta J → kb + 1 ≤ w.heap.size → SpecR q f t n J w v8 g → Copied b10 J J.length w₀ → Kin w₀.heap.size w₀ w → b10 < w₀.heap.size → w₀.heap.size ≤ w.heap.size → SpecLow v8 b10 → ImplR q f t n J w w₀.heap.size v11 gi → Can Try.prog C' b' o' (fun v _ => v = .bool true) 0 (AloneB (Bd + 400)) w (G ((base 6).at ⟨#[.agg #[.string ⟨q.toArray⟩, .int .i64 f, .int .i64 t], .slice ta J.length tc, .int .i64 n, .pointer (some ⟨kb, 0, none⟩), z4, z5, .bool false, z7, v8, .bool g, .slice (some ⟨b10, 0, none⟩) J.length J.length, v11, .bool gi, z13, z14, z15, z16, z17, z18, z19, z20, z21, z22, z23, z24, z25, z26, z27, z28, z29, z30, z31, z32, z33, z34, z35, z36, z37, z38, z39, z40, z41, z42, z43, z44, z45, z46, z47, z48, z49, z50, z51, z52, z53, z54, z55, z56, z57, z58, z59, z60, z61, z62, z63, z64, z65, z66, z67, z68, z69, z70, z71, z72, z73, z74, z75, z76, z77, z78, z79, z80, z81, z82, z83, z84, z85, z86, z87, z88, z89, z90, z91, z92, z93, z94, z95, z96, z97, z98, z99, z100, z101, z102, z103, z104, z105, z106, z107, z108, z109, z110, z111, z112, z113], []⟩ [.code (tailC 9 body6)]) [])) :
    Can Try.prog C b o (fun v _ => v = .bool true) 0 (AloneB Bd) wl (G ((base 6).at ⟨#[.agg #[.string ⟨q.toArray⟩, .int .i64 f, .int .i64 t], .slice ta J.length tc, .int .i64 n, .pointer (some ⟨kb, 0, none⟩), z4, z5, .bool false, z7, v8, .bool g, .slice (some ⟨b10, 0, none⟩) J.length J.length, z11, z12, z13, z14, z15, z16, z17, z18, z19, z20, z21, z22, z23, z24, z25, z26, z27, z28, z29, z30, z31, z32, z33, z34, z35, z36, z37, z38, z39, z40, z41, z42, z43, z44, z45, z46, z47, z48, z49, z50, z51, z52, z53, z54, z55, z56, z57, z58, z59, z60, z61, z62, z63, z64, z65, z66, z67, z68, z69, z70, z71, z72, z73, z74, z75, z76, z77, z78, z79, z80, z81, z82, z83, z84, z85, z86, z87, z88, z89, z90, z91, z92, z93, z94, z95, z96, z97, z98, z99, z100, z101, z102, z103, z104, z105, z106, z107, z108, z109, z110, z111, z112, z113], []⟩ [.code (tailC 8 body6)]) []) := by
  have hS := steady_aloneB Bd
  have e8 : tailC 8 body6 = .seq (headC 8 body6) (tailC 9 body6) := by kernel_rfl
  rw [e8]
  refine Can.ctl hS hL rfl (fun _ => stepG_seq) ?_
  rw [head8]
  generalize hK : [Item.code (tailC 9 body6)] = K₁
  simp only [ops6, headC, body6, Try.f6, Option.getD_some]
  refine Can.ctl hS hL rfl (fun _ => stepG_region) ?_; simp only [List.size_toArray, List.length_cons, List.length_nil, Nat.reduceAdd, Nat.zero_add, List.range, List.range.loop]
  refine Can.op (ok := okL) hS hL rfl rfl (by k_ne) (by kernel_rfl) (fun T d => ⟨.agg #[.string ⟨q.toArray⟩, .int .i64 f, .int .i64 t], wl.re T d, ?_, fun _ => Can.re ?_ T d⟩)
  · have g0 : (wl.re T d).cell? ⟨kb, 0, none⟩ = some (.string ⟨q.toArray⟩) := (hk 0 (by simp)).1
    have g1 : (wl.re T d).cell? ⟨kb, 1, none⟩ = some (.int .i64 f) := (hk 1 (by simp)).1
    have g2 : (wl.re T d).cell? ⟨kb, 2, none⟩ = some (.int .i64 t) := (hk 2 (by simp)).1
    go_simp
  walk_nrm
  refine Can.ctl hS hL rfl (fun _ => st_enter' (vs := #[.agg #[.string ⟨q.toArray⟩, .int .i64 f, .int .i64 t]]) rfl rfl (by k_ne) rfl Try.func18 rfl rfl (by kernel_rfl)) ?_
  refine Can.call okProgL hS hL (by kernel_rfl) (by kernel_rfl) (fun T d => (toKeeper_any ⟨q.toArray⟩ f t (wl.re T d)).mono ?_)
  rintro e w₀ ⟨rfl, hb0⟩
  refine ⟨_, rfl, fun hc => ?_⟩
  have K0 : Kin wl.heap.size wl w₀ := bwre hb0
  have hC0 : Copied b10 J J.length w₀ := by
    obtain ⟨cs, h1, h2, h3⟩ := hC.outer
    refine ⟨⟨cs, (hb0.block b10 hb10).trans h1, h2, fun j hj hjk => ?_⟩⟩
    obtain ⟨r, r1, r2, r3, r4⟩ := h3 j hj hjk
    exact ⟨r, r1, Nat.lt_of_lt_of_le r2 K0.size, r3, (hb0.block r r2).trans r4⟩
  replace hk := hk.kin K0 (by omega)
  replace hR := hR.kept (K0.le (B' := kb) (by omega)).cells (Nat.le_refl _)
  replace hs := hs.kin K0 hs.low
  have hL0 : Lay C w₀ := ⟨hc, hL.no⟩
  have hz0 := K0.size
  clear hb0 K0 hC hL hc
  rw [Frame.finish_at]
  walk_nrm
  refine Can.op (ok := okL) hS hL0 rfl rfl (by k_ne) (by kernel_rfl) (fun T d => ⟨.slice (some ⟨b10, 0, none⟩) J.length J.length, w₀.re T d, ?_, fun _ => Can.re ?_ T d⟩)
  · go_simp
  walk_nrm
  refine Can.op (ok := okL) hS hL0 rfl rfl (by k_ne) (by kernel_rfl) (fun T d => ⟨.int .i64 n, w₀.re T d, ?_, fun _ => Can.re ?_ T d⟩)
  · go_simp
  walk_nrm
  refine Can.ctl hS hL0 rfl (fun _ => st_enter' (vs := #[.agg #[.string ⟨q.toArray⟩, .int .i64 f, .int .i64 t], .slice (some ⟨b10, 0, none⟩) J.length J.length, .int .i64 n]) rfl rfl (by k_ne) rfl Try.func14 rfl rfl (by kernel_rfl)) ?_
  refine call14 hn hm hBd hL0 hC0.rows ?_
  intro C' b' o' v11 gi w hL' K hI
  walk_nrm
  have hS' := steady_aloneB (Bd + 400)
  refine Can.op (ok := okL) hS' hL' rfl rfl (by k_ne) (by kernel_rfl) (fun T d => ⟨.tuple #[v11, .bool gi], w.re T d, ?_, fun _ => Can.re ?_ T d⟩)
  · go_simp
  walk_nrm
  refine Can.op (ok := okL) hS' hL' rfl rfl (by k_ne) (by kernel_rfl) (fun T d => ⟨v11, w.re T d, ?_, fun _ => Can.re ?_ T d⟩)
  · go_simp
  walk_nrm
  refine Can.op (ok := okL) hS' hL' rfl rfl (by k_ne) (by kernel_rfl) (fun T d => ⟨.bool gi, w.re T d, ?_, fun _ => Can.re ?_ T d⟩)
  · go_simp
  walk_nrm
  refine Can.op (ok := okL) hS' hL' rfl rfl (by k_ne) (by kernel_rfl) (fun T d => ⟨v11, w.re T d, ?_, fun _ => Can.re ?_ T d⟩)
  · go_simp
  walk_nrm
  refine Can.op (ok := okL) hS' hL' rfl rfl (by k_ne) (by kernel_rfl) (fun T d => ⟨.bool gi, w.re T d, ?_, fun _ => Can.re ?_ T d⟩)
  · go_simp
  walk_nrm
  refine Can.ctl hS' hL' rfl (fun _ => stepG_region_end) ?_
  subst hK
  exact next C' b' o' v11 gi w w₀ _ _ _ _ _ _ _ _ _ _ _ _ _ _ _ _ _ _ _ _ _ _ _ _ _ _ _ _ _ _ _ _ _ _ _ _ _ _ _ _ _ _ _ _ _ _ _ _ _ _ _ _ _ _ _ _ _ _ _ _ _ _ _ _ _ _ _ _ _ _ _ _ _ _ _ _ _ _ _ _ _ _ _ _ _ _ _ _ _ _ _ _ _ _ _ _ _ _ _ _ _ _ _ _ hL' (hk.kin K (by omega)) (hR.kept (K.le (B' := kb) (by omega)).cells (Nat.le_refl _)) (by have := K.size; omega) (hs.kin K hs.low) hC0 K (by omega) K.size hlow hI
end
end Go.Town.Kp
namespace Go.Town.Kp
open Go Go.Conc Go.Conc.Lib Go.ConcR.Gen Go.RowKit Go.Town Go.Proofs
open Go.ConcN (upd upd_ne upd_same)
theorem text_inj {r r' : Rule} (h : r.text.data.toList = r'.text.data.toList) : r = r' := by
  cases r <;> cases r' <;> first | rfl | (simp [Rule.text] at h)
theorem agree {q : List UInt8} {f t n : Int} {J : List (List Int)} {w : World} {B b10 : Nat} {v8 v11 : Value} {g gi : Bool} (hn : J.length ≤ 1048576) (h : SpecR q f t n J w v8 g) (k : ImplR q f t n J w B v11 gi) (hlow : SpecLow v8 b10) :
    ∃ (R : List Int) (a8 a11 : Option Addr) (c8 c11 : Nat), R.length ≤ 1048576 ∧ gi = g ∧ v8 = .slice a8 R.length c8 ∧ v11 = .slice a11 R.length c11 ∧ IntsAt w a8 R ∧ IntsAt w a11 R ∧ FreeS w a11 R.length ∧ (R = [] ∨ ∃ sa, a8 = some ⟨sa, 0, none⟩ ∧ sa < b10) ∧ (R = [] ∨ ∃ sa, a11 = some ⟨sa, 0, none⟩ ∧ B ≤ sa) ∧ (∀ sa, a11 = some ⟨sa, 0, none⟩ → B ≤ sa) := by
  rcases h with ⟨h1, rfl, a, rfl⟩ | ⟨κ, tn, sa, h1, h2, h3, h4, h5, rfl, rfl, h8⟩
  · rcases k with ⟨_, rfl, rfl⟩ | ⟨κ', tn', sa', k1, k2, k3, k4, k5, rfl, rfl, k8, k9⟩
    · exact ⟨[], some a, none, 0, 0, by simp, rfl, rfl, rfl, .inl rfl, .inl rfl, .inl rfl, .inl rfl, .inl rfl, fun sa e => by cases e⟩
    · rw [k5] at h1; cases h1
  · rcases k with ⟨k1, rfl, rfl⟩ | ⟨κ', tn', sa', k1, k2, k3, k4, k5, rfl, rfl, k8, k9⟩
    · rw [k1] at h5; cases h5
    · have e1 : κ' = κ := by
        obtain ⟨r, be, wi⟩ := κ; obtain ⟨r', be', wi'⟩ := κ'
        have := text_inj (k1.symm.trans h1)
        simp only at this h2 h3 k2 k3
        subst this
        have : be' = be := by omega
        have : wi' = wi := by omega
        simp_all
      have e2 : tn' = tn := by omega
      subst e1 e2
      refine ⟨(List.range J.length).map fun i => (runT κ' J tn' 0 St.zero).1.sum i, some ⟨sa, 0, none⟩, some ⟨sa', 0, none⟩, J.length, J.length, by simpa using hn, rfl, by simp, by simp, ?_, ?_, ?_, ?_, ?_, fun sa e => by cases e; exact k8⟩
      · by_cases h0 : J.length = 0
        · exact .inl (by simp [h0])
        · exact .inr ⟨sa, 0, rfl, block_lt (h8 0 (by omega)), fun i hi => by
            simp only [List.length_map, List.length_range] at hi
            rw [Nat.zero_add, h8 i hi]; simp [List.getD, hi]⟩
      · by_cases h0 : J.length = 0
        · exact .inl (by simp [h0])
        · exact .inr ⟨sa', 0, rfl, block_lt (k9 0 (by omega)).1, fun i hi => by
            simp only [List.length_map, List.length_range] at hi
            rw [Nat.zero_add, (k9 i hi).1]; simp [List.getD, hi]⟩
      · refine .inr ⟨sa', rfl, fun i hi => ?_⟩
        simp only [List.length_map, List.length_range] at hi
        exact ⟨⟨_, (k9 i hi).1⟩, (k9 i hi).2⟩
      · rcases hlow sa _ _ rfl with h | h
        · exact .inl (by simp [h])
        · exact .inr ⟨sa, rfl, h⟩
      · exact .inr ⟨sa', rfl, k8⟩
section
variable {C : Cfg} {b o Bd kb B₀ : Nat} {wl : World} {q : List UInt8} {f t n : Int} {J : List (List Int)} {tc : Nat} {ta : Option Addr} {g : Bool} {b10 : Nat} {R : List Int} {a8 a11 : Option Addr} {c8 c11 : Nat}
theorem below_kin {B : Nat} {w w' : World} (h : Below B w w') : Kin B w w' := ⟨fun x j v hx hv => (h.cell (p := ⟨x, j, none⟩) hx).trans hv, fun x j v hx _ hf => (World.frozen?_of_block (h.block x hx)).trans hf, h.size⟩
theorem ints_marked {b B : Nat} {w w' : World} {a : Option Addr} (h : IntsAt w a R) (hM : Marked b B w w') (hx : R = [] ∨ ∃ sa, a = some ⟨sa, 0, none⟩ ∧ (sa ≤ b ∨ B ≤ sa)) : IntsAt w' a R := by
  rcases h with h | ⟨x, off, rfl, hb, hc⟩
  · exact .inl h
  · rcases hx with hx | ⟨sa, e, hx⟩
    · exact .inl hx
    · cases e
      exact .inr ⟨x, 0, rfl, by rw [hM.size]; exact hb, fun i hi => (hM.cell hx).1.trans (hc i hi)⟩
theorem free_marked {b B m : Nat} {w w' : World} {a : Option Addr} (h : FreeS w a m) (hM : Marked b B w w') (hx : ∀ sa, a = some ⟨sa, 0, none⟩ → m ≠ 0 → sa ≤ b ∨ B ≤ sa) : FreeS w' a m := by
  by_cases h0 : m = 0
  · exact .inl h0
  rcases h with h | ⟨x, rfl, hf⟩
  · exact .inl h
  · exact .inr ⟨x, rfl, fun j hj => by
      have := hM.cell (x := x) (j := j) (hx x rfl h0)
      rw [this.1, this.2]; exact hf j hj⟩
theorem free_kin {m : Nat} {w w' : World} {a : Option Addr} (h : FreeS w a m) (K : Kin w.heap.size w w') : FreeS w' a m := by
  rcases h with h | ⟨x, rfl, hf⟩
  · exact .inl h
  · exact .inr ⟨x, rfl, fun j hj => by
      obtain ⟨v, hv⟩ := (hf j hj).1
      exact ⟨⟨v, K.cells _ _ _ (block_lt hv) hv⟩, K.thaw _ _ _ (block_lt hv) hv (hf j hj).2⟩⟩
set_option maxRecDepth 100000 in
set_option maxHeartbeats 2000000 in
theorem law6_e {z4 z5 z7 z13 z14 z15 z16 z17 z18 z19 z20 z21 z22 z23 z24 z25 z26 z27 z28 z29 z30 z31 z32 z33 z34 z35 z36 z37 z38 z39 z40 z41 z42 z43 z44 z45 z46 z47 z48 z49 z50 z51 z52 z53 z54 z55 z56 z57 z58 z59 z60 z61 z62 z63 z64 z65 z66 z67 z68 z69 z70 z71 z72 z73 z74 z75 z76 z77 z78 z79 z80 z81 z82 z83 z84 z85 z86 z87 z88 z89 z90 z91 z92 z93 z94 z95 z96 z97 z98 z99 z100 z101 z102 z103 z104 z105 z106 z107 z108 z109 z110 z111 z112 z113 : Value} (hn : J.length ≤ 1048576) (hm : ∀ l ∈ J, l.length ≤ 1048576) (hRn : R.length ≤ 1048576) (hL : Lay C wl) (hk : Reads wl kb [.string ⟨q.toArray⟩, .int .i64 f, .int .i64 t]) (hR : RowsIn kb wl ta J) (hkb : kb < b10) (hbB : b10 < B₀) (hBz : B₀ ≤ wl.heap.size)
    (h10 : RowsAt wl (some ⟨b10, 0, none⟩) J) (hO : Outer b10 B₀ J wl) (h8 : IntsAt wl a8 R) (h11 : IntsAt wl a11 R) (hF : FreeS wl a11 R.length) (hlow : R = [] ∨ ∃ sa, a8 = some ⟨sa, 0, none⟩ ∧ sa < b10) (hup : R = [] ∨ ∃ sa, a11 = some ⟨sa, 0, none⟩ ∧ B₀ ≤ sa)
    (next : ∀ (v : Int) (w : World) (z4 z5 z7 z14 z15 z16 z17 z18 z19 z20 z21 z22 z23 z24 z25 z26 z27 z28 z29 z30 z31 z32 z33 z34 z35 z36 z37 z38 z39 z40 z41 z42 z43 z44 z45 z46 z47 z48 z49 z50 z51 z52 z53 z54 z55 z56 z57 z58 z59 z60 z61 z62 z63 z64 z65 z66 z67 z68 z69 z70 z71 z72 z73 z74 z75 z76 z77 z78 z79 z80 z81 z82 z83 z84 z85 z86 z87 z88 z89 z90 z91 z92 z93 z94 z95 z96 z97 z98 z99 z100 z101 z102 z103 z104 z105 z106 z107 z108 z109 z110 z111 z112 z113 : Value), 0 ≤ v → Lay C w → Reads w kb [.string ⟨q.toArray⟩, .int .i64 f, .int .i64 t] → RowsIn kb w ta J → kb + 1 ≤ w.heap.size → IntsAt w a8 R → IntsAt w a11 R → FreeS w a11 R.length → Can Try.prog C b o (fun v _ => v = .bool true) 0 (AloneB Bd) w (G ((base 6).at ⟨#[.agg #[.string ⟨q.toArray⟩, .int .i64 f, .int .i64 t], .slice ta J.length tc, .int .i64 n, .pointer (some ⟨kb, 0, none⟩), z4, z5, .bool false, z7, .slice a8 R.length c8, .bool g, .slice (some ⟨b10, 0, none⟩) J.length J.length, .slice a11 R.length c11, .bool g, .int .i64 v, z14, z15, z16, z17, z18, z19, z20, z21, z22, z23, z24, z25, z26, z27, z28, z29, z30, z31, z32, z33, z34, z35, z36, z37, z38, z39, z40, z41, z42, z43, z44, z45, z46, z47, z48, z49, z50, z51, z52, z53, z54, z55, z56, z57, z58, z59, z60, z61, z62, z63, z64, z65, z66, z67, z68, z69, z70, z71, z72, z73, z74, z75, z76, z77, z78, z79, z80, z81, z82, z83, z84, z85, z86, z87, z88, z89, z90, z91, z92, z93, z94, z95, z96, z97, z98, z99, z100, z101, z102, z103, z104, z105, z106, z107, z108, z109, z110, z111, z112, z113], []⟩ [.code (tailC 13 body6)]) [])) :
    Can Try.prog C b o (fun v _ => v = .bool true) 0 (AloneB Bd) wl (G ((base 6).at ⟨#[.agg #[.string ⟨q.toArray⟩, .int .i64 f, .int .i64 t], .slice ta J.length tc, .int .i64 n, .pointer (some ⟨kb, 0, none⟩), z4, z5, .bool false, z7, .slice a8 R.length c8, .bool g, .slice (some ⟨b10, 0, none⟩) J.length J.length, .slice a11 R.length c11, .bool g, z13, z14, z15, z16, z17, z18, z19, z20, z21, z22, z23, z24, z25, z26, z27, z28, z29, z30, z31, z32, z33, z34, z35, z36, z37, z38, z39, z40, z41, z42, z43, z44, z45, z46, z47, z48, z49, z50, z51, z52, z53, z54, z55, z56, z57, z58, z59, z60, z61, z62, z63, z64, z65, z66, z67, z68, z69, z70, z71, z72, z73, z74, z75, z76, z77, z78, z79, z80, z81, z82, z83, z84, z85, z86, z87, z88, z89, z90, z91, z92, z93, z94, z95, z96, z97, z98, z99, z100, z101, z102, z103, z104, z105, z106, z107, z108, z109, z110, z111, z112, z113], []⟩ [.code (tailC 9 body6)]) []) := by
  have hS := steady_aloneB Bd
  have e9 : tailC 9 body6 = .seq (headC 9 body6) (tailC 10 body6) := by kernel_rfl
  have e10 : tailC 10 body6 = .seq (headC 10 body6) (tailC 11 body6) := by kernel_rfl
  have e11 : tailC 11 body6 = .seq (headC 11 body6) (tailC 12 body6) := by kernel_rfl
  have e12 : tailC 12 body6 = .seq (headC 12 body6) (tailC 13 body6) := by kernel_rfl
  rw [e9]
  refine Can.ctl hS hL rfl (fun _ => stepG_seq) ?_
  refine Can.code' okProgL hS hL (okFr_at (by kernel_rfl) rfl rfl ⟨_, Try.func6⟩) ?_
  intro T d W hW B hB
  have c20 : RowKit.Hid (Calls Try.prog 20 #[.slice a11 R.length c11, .slice a8 R.length c8] W fun e w' => e = .returned (.bool true) ∧ ∃ m, w' = W.drewN m) := eqIntS_same a11 a8 c11 c8 R W hRn (IntsIn.same h11 (by rw [hW.out]; rfl)) (IntsIn.same h8 (by rw [hW.out]; rfl))
  simp only [headC, body6, Try.f6, Option.getD_some]
  go_wp2_with (go_at_call 20; (with_reducible refine c20.out.mono ?_); rintro e w' ⟨rfl, m, rfl⟩)
  have hB := hB.out
  subst hB
  intro hc
  have hW := hW.out
  subst hW
  refine Can.re (wl := wl) (T := T) (d := d + m) ?_
  clear hc hB hW c20
  rw [e10]
  refine Can.ctl hS hL rfl (fun _ => stepG_seq) ?_
  refine Can.code' okProgL hS hL (okFr_at (by kernel_rfl) rfl rfl ⟨_, Try.func6⟩) ?_
  intro T d W hW B hB
  have hRW : RowsAt W ta J := by rw [hW.out]; exact RowsIn.re (hR.kept (B' := wl.heap.size) (fun _ _ _ _ hv => hv) (by omega)) T d
  have h10W : RowsAt W (some ⟨b10, 0, none⟩) J := by rw [hW.out]; exact RowsIn.re h10 T d
  have c19 : RowKit.Hid (Calls Try.prog 19 #[.slice ta J.length tc] W fun e w'' => e = .returned (.slice (some ⟨W.heap.size, 0, none⟩) J.length J.length) ∧ RowsAt w'' (some ⟨W.heap.size, 0, none⟩) J ∧ RowsAt w'' (some ⟨b10, 0, none⟩) J ∧ Below W.heap.size W w'') := (toIntSS_any ta tc J W hn hm hRW).mono fun e w'' ⟨he, hC, hb⟩ => ⟨he, hC.rows, h10W.below hb (Nat.le_refl _), hb⟩
  have c21 : RowKit.Hid (∀ w' a c, RowsAt w' (some ⟨b10, 0, none⟩) J → RowsAt w' a J → Calls Try.prog 21 #[.slice (some ⟨b10, 0, none⟩) J.length J.length, .slice a J.length c] w' fun e w'' => e = .returned (.bool true) ∧ ∃ m, w'' = w'.drewN m) := fun w' a c h1 h2 => eqIntSS_same _ a _ c J w' hn hm h1 h2
  simp only [headC, body6, Try.f6, Option.getD_some]
  go_wp2_with (go_at_call 19; (with_reducible refine c19.out.mono ?_); rintro e w1 ⟨rfl, hr1, hr2, hb1⟩)
  go_wp2_with (go_at_call 21; (with_reducible refine (c21.out _ _ _ hr2 hr1).mono ?_); rintro e w2 ⟨rfl, m, rfl⟩)
  have hB := hB.out
  subst hB
  intro hc
  have hW := hW.out
  subst hW
  have K := bwre (below_drewN hb1 m)
  obtain ⟨w2, hw2⟩ : ∃ w, w = w1.drewN m := ⟨_, rfl⟩
  rw [← hw2] at hc K ⊢
  have hL2 : Lay C w2 := ⟨hc, hL.no⟩
  replace hk := hk.kin K (by omega)
  replace hR := hR.kept (K.le (B' := kb) (by omega)).cells (Nat.le_refl _)
  replace h8 : IntsAt w2 a8 R := h8.kept K.cells K.size
  replace h11 : IntsAt w2 a11 R := h11.kept K.cells K.size
  replace hF := free_kin hF K
  replace hO := hO.kin (K.le (B' := B₀) hBz) hbB
  have hz2 := K.size
  clear hc hB hW c19 c21 hr1 hr2 hb1 hw2 K h10
  rw [e11]
  refine Can.ctl hS hL2 rfl (fun _ => stepG_seq) ?_
  refine Can.code' okProgL hS hL2 (okFr_at (by kernel_rfl) rfl rfl ⟨_, Try.func6⟩) ?_
  intro T d W hW B hB
  simp only [headC, body6, Try.f6, Option.getD_some]
  go_wp2
  have hB := hB.out
  subst hB
  intro hc
  have hW := hW.out
  subst hW
  refine Can.re ?_ T d
  clear hc hB hW
  rw [e12]
  refine Can.ctl hS hL2 rfl (fun _ => stepG_seq) ?_
  refine Can.code' okProgL hS hL2 (okFr_at (by kernel_rfl) rfl rfl ⟨_, Try.func6⟩) ?_
  intro T d W hW B hB
  have c22 : RowKit.Hid (Calls Try.prog 22 #[.slice (some ⟨b10, 0, none⟩) J.length J.length, .int .i64 1] W fun e w' => (∃ v : Int, e = .returned (.int .i64 v) ∧ RowKit.Hid (0 ≤ v)) ∧ Marked b10 B₀ W w') := markIntSS_any b10 B₀ J.length 1 J W hn hm (by omega) (by omega) (by rw [hW.out]; exact hO)
  simp only [headC, body6, Try.f6, Option.getD_some]
  go_wp2_with (go_at_call 22; (with_reducible refine c22.out.mono ?_); rintro e w3 ⟨⟨v, rfl, hv⟩, hM⟩)
  have hB := hB.out
  subst hB
  intro hc
  have hW := hW.out
  subst hW
  have hz3 : w3.heap.size = w2.heap.size := hM.size
  refine next v w3 _ _ _ _ _ _ _ _ _ _ _ _ _ _ _ _ _ _ _ _ _ _ _ _ _ _ _ _ _ _ _ _ _ _ _ _ _ _ _ _ _ _ _ _ _ _ _ _ _ _ _ _ _ _ _ _ _ _ _ _ _ _ _ _ _ _ _ _ _ _ _ _ _ _ _ _ _ _ _ _ _ _ _ _ _ _ _ _ _ _ _ _ _ _ _ _ _ _ _ _ _ _ _ hv.out ⟨hc, hL.no⟩ (fun j hj => ?_) (hR.kept (fun x j v hx hv => (hM.cell (by omega)).1.trans hv) (Nat.le_refl _)) (by omega) (ints_marked (w := w2.re T d) h8 hM (hlow.imp id fun ⟨sa, e, h⟩ => ⟨sa, e, .inl (by omega)⟩)) (ints_marked (w := w2.re T d) h11 hM (hup.imp id fun ⟨sa, e, h⟩ => ⟨sa, e, .inr h⟩)) (free_marked (w := w2.re T d) hF hM fun sa e h0 => ?_)
  · have := hM.cell (x := kb) (j := j) (by omega)
    rw [this.1, this.2]; exact hk j hj
  · rcases hup with hup | ⟨sa', e', h⟩
    · rw [hup] at h0; exact absurd rfl h0
    · rw [e] at e'; cases e'; exact .inr h
end
end Go.Town.Kp
namespace Go.Town.Kp
open Go Go.Conc Go.Conc.Lib Go.ConcR.Gen Go.RowKit Go.Town Go.Proofs
open Go.ConcN (upd upd_ne upd_same)
section
variable {C : Cfg} {b o Bd kb B₀ : Nat} {wl : World} {q : List UInt8} {f t n : Int} {J : List (List Int)} {tc : Nat} {ta : Option Addr} {g : Bool} {b10 : Nat} {R : List Int} {a8 a11 : Option Addr} {c8 c11 : Nat} {v : Int}
theorem OnlyS.cell {a : Option Addr} {w w' : World} (h : OnlyS a w w') {x j : Nat} (hx : ∀ g, a = some ⟨g, 0, none⟩ → x ≠ g) : w'.cell? ⟨x, j, none⟩ = w.cell? ⟨x, j, none⟩ ∧ w'.frozen? ⟨x, j, none⟩ = w.frozen? ⟨x, j, none⟩ :=
  ⟨World.cell?_of_block (h.block x hx), World.frozen?_of_block (h.block x hx)⟩
theorem ints_onlyS {w w' : World} {a a' : Option Addr} (h : IntsAt w a R) (hM : OnlyS a' w w') (hx : R = [] ∨ ∃ sa, a = some ⟨sa, 0, none⟩ ∧ ∀ g, a' = some ⟨g, 0, none⟩ → sa ≠ g) : IntsAt w' a R := by
  rcases h with h | ⟨x, off, rfl, hb, hc⟩
  · exact .inl h
  · rcases hx with hx | ⟨sa, e, hx⟩
    · exact .inl hx
    · cases e
      exact .inr ⟨x, 0, rfl, by rw [hM.size]; exact hb, fun i hi => (hM.cell hx).1.trans (hc i hi)⟩
set_option maxRecDepth 100000 in
set_option maxHeartbeats 2000000 in
theorem law6_f {z4 z5 z7 z14 z15 z16 z17 z18 z19 z20 z21 z22 z23 z24 z25 z26 z27 z28 z29 z30 z31 z32 z33 z34 z35 z36 z37 z38 z39 z40 z41 z42 z43 z44 z45 z46 z47 z48 z49 z50 z51 z52 z53 z54 z55 z56 z57 z58 z59 z60 z61 z62 z63 z64 z65 z66 z67 z68 z69 z70 z71 z72 z73 z74 z75 z76 z77 z78 z79 z80 z81 z82 z83 z84 z85 z86 z87 z88 z89 z90 z91 z92 z93 z94 z95 z96 z97 z98 z99 z100 z101 z102 z103 z104 z105 z106 z107 z108 z109 z110 z111 z112 z113 : Value} (hRn : R.length ≤ 1048576) (hv : 0 ≤ v) (hL : Lay C wl) (hk : Reads wl kb [.string ⟨q.toArray⟩, .int .i64 f, .int .i64 t]) (hR : RowsIn kb wl ta J) (hz : kb + 1 ≤ wl.heap.size) (hkb : kb < b10) (hbB : b10 < B₀)
    (h8 : IntsAt wl a8 R) (h11 : IntsAt wl a11 R) (hF : FreeS wl a11 R.length) (hlow : R = [] ∨ ∃ sa, a8 = some ⟨sa, 0, none⟩ ∧ sa < b10) (hup : ∀ sa, a11 = some ⟨sa, 0, none⟩ → B₀ ≤ sa)
    (next : ∀ (w : World) (z4 z5 z7 z16 z17 z18 z19 z20 z21 z22 z23 z24 z25 z26 z27 z28 z29 z30 z31 z32 z33 z34 z35 z36 z37 z38 z39 z40 z41 z42 z43 z44 z45 z46 z47 z48 z49 z50 z51 z52 z53 z54 z55 z56 z57 z58 z59 z60 z61 z62 z63 z64 z65 z66 z67 z68 z69 z70 z71 z72 z73 z74 z75 z76 z77 z78 z79 z80 z81 z82 z83 z84 z85 z86 z87 z88 z89 z90 z91 z92 z93 z94 z95 z96 z97 z98 z99 z100 z101 z102 z103 z104 z105 z106 z107 z108 z109 z110 z111 z112 z113 : Value), Lay C w → Reads w kb [.string ⟨q.toArray⟩, .int .i64 f, .int .i64 t] → RowsIn kb w ta J → kb + 1 ≤ w.heap.size → IntsAt w a8 R → CountS w a11 1 R.length → Can Try.prog C b o (fun v _ => v = .bool true) 0 (AloneB Bd) w (G ((base 6).at ⟨#[.agg #[.string ⟨q.toArray⟩, .int .i64 f, .int .i64 t], .slice ta J.length tc, .int .i64 n, .pointer (some ⟨kb, 0, none⟩), z4, z5, .bool false, z7, .slice a8 R.length c8, .bool g, .slice (some ⟨b10, 0, none⟩) J.length J.length, .slice a11 R.length c11, .bool g, .int .i64 v, .int .i64 (1 + (R.length : Nat)), .int .i64 (1 + (R.length : Nat)), z16, z17, z18, z19, z20, z21, z22, z23, z24, z25, z26, z27, z28, z29, z30, z31, z32, z33, z34, z35, z36, z37, z38, z39, z40, z41, z42, z43, z44, z45, z46, z47, z48, z49, z50, z51, z52, z53, z54, z55, z56, z57, z58, z59, z60, z61, z62, z63, z64, z65, z66, z67, z68, z69, z70, z71, z72, z73, z74, z75, z76, z77, z78, z79, z80, z81, z82, z83, z84, z85, z86, z87, z88, z89, z90, z91, z92, z93, z94, z95, z96, z97, z98, z99, z100, z101, z102, z103, z104, z105, z106, z107, z108, z109, z110, z111, z112, z113], []⟩ [.code (tailC 20 body6)]) [])) :
    Can Try.prog C b o (fun v _ => v = .bool true) 0 (AloneB Bd) wl (G ((base 6).at ⟨#[.agg #[.string ⟨q.toArray⟩, .int .i64 f, .int .i64 t], .slice ta J.length tc, .int .i64 n, .pointer (some ⟨kb, 0, none⟩), z4, z5, .bool false, z7, .slice a8 R.length c8, .bool g, .slice (some ⟨b10, 0, none⟩) J.length J.length, .slice a11 R.length c11, .bool g, .int .i64 v, z14, z15, z16, z17, z18, z19, z20, z21, z22, z23, z24, z25, z26, z27, z28, z29, z30, z31, z32, z33, z34, z35, z36, z37, z38, z39, z40, z41, z42, z43, z44, z45, z46, z47, z48, z49, z50, z51, z52, z53, z54, z55, z56, z57, z58, z59, z60, z61, z62, z63, z64, z65, z66, z67, z68, z69, z70, z71, z72, z73, z74, z75, z76, z77, z78, z79, z80, z81, z82, z83, z84, z85, z86, z87, z88, z89, z90, z91, z92, z93, z94, z95, z96, z97, z98, z99, z100, z101, z102, z103, z104, z105, z106, z107, z108, z109, z110, z111, z112, z113], []⟩ [.code (tailC 13 body6)]) []) := by
  have hS := steady_aloneB Bd
  have e13 : tailC 13 body6 = .seq (headC 13 body6) (tailC 14 body6) := by kernel_rfl
  have e14 : tailC 14 body6 = .seq (headC 14 body6) (tailC 15 body6) := by kernel_rfl
  have e15 : tailC 15 body6 = .seq (headC 15 body6) (tailC 16 body6) := by kernel_rfl
  have e16 : tailC 16 body6 = .seq (headC 16 body6) (tailC 17 body6) := by kernel_rfl
  have e17 : tailC 17 body6 = .seq (headC 17 body6) (tailC 18 body6) := by kernel_rfl
  have e18 : tailC 18 body6 = .seq (headC 18 body6) (tailC 19 body6) := by kernel_rfl
  have e19 : tailC 19 body6 = .seq (headC 19 body6) (tailC 20 body6) := by kernel_rfl
  rw [e13]
  refine Can.ctl hS hL rfl (fun _ => stepG_seq) ?_
  refine Can.code' okProgL hS hL (okFr_at (by kernel_rfl) rfl rfl ⟨_, Try.func6⟩) ?_
  intro T d W hW B hB
  have c20 : RowKit.Hid (Calls Try.prog 20 #[.slice a11 R.length c11, .slice a8 R.length c8] W fun e w' => e = .returned (.bool true) ∧ ∃ m, w' = W.drewN m) := eqIntS_same a11 a8 c11 c8 R W hRn (IntsIn.same h11 (by rw [hW.out]; rfl)) (IntsIn.same h8 (by rw [hW.out]; rfl))
  have hv' : ¬ (v < 0) := by omega
  simp only [headC, body6, Try.f6, Option.getD_some]
  go_wp2_with (go_at_call 20; (with_reducible refine c20.out.mono ?_); rintro e w' ⟨rfl, m, rfl⟩)
  have hB := hB.out
  subst hB
  intro hc
  have hW := hW.out
  subst hW
  refine Can.re (wl := wl) (T := T) (d := d + m) ?_
  clear hc hB hW c20 hv'
  rw [e14]
  refine Can.ctl hS hL rfl (fun _ => stepG_seq) ?_
  refine Can.code' okProgL hS hL (okFr_at (by kernel_rfl) rfl rfl ⟨_, Try.func6⟩) ?_
  intro T d W hW B hB
  simp only [headC, body6, Try.f6, Option.getD_some]
  go_wp2
  have hB := hB.out
  subst hB
  intro hc
  have hW := hW.out
  subst hW
  refine Can.re ?_ T d
  clear hc hB hW
  rw [e15]
  refine Can.ctl hS hL rfl (fun _ => stepG_seq) ?_
  refine Can.code' okProgL hS hL (okFr_at (by kernel_rfl) rfl rfl ⟨_, Try.func6⟩) ?_
  intro T d W hW B hB
  have c23 : RowKit.Hid (Calls Try.prog 23 #[.slice a11 R.length c11, .int .i64 1] W fun e w' => e = .returned (.int .i64 (1 + R.length)) ∧ CountS w' a11 1 R.length ∧ OnlyS a11 W w') := markIntS_opt a11 R.length c11 1 W hRn (by omega) (by omega) (by rw [hW.out]; exact hF)
  simp only [headC, body6, Try.f6, Option.getD_some]
  go_wp2_with (go_at_call 23; (with_reducible refine c23.out.mono ?_); rintro e w3 ⟨rfl, hct, hM⟩)
  have hB := hB.out
  subst hB
  intro hc
  have hW := hW.out
  subst hW
  have hL3 : Lay C w3 := ⟨hc, hL.no⟩
  have hz3 : w3.heap.size = wl.heap.size := hM.size
  replace hk : Reads w3 kb [.string ⟨q.toArray⟩, .int .i64 f, .int .i64 t] := fun j hj => by
    have := hM.cell (x := kb) (j := j) (fun g hg => by have := hup g hg; omega)
    rw [this.1, this.2]; exact hk j hj
  replace hR : RowsIn kb w3 ta J := hR.kept (fun x j v hx hv => (hM.cell (fun g hg => by have := hup g hg; omega)).1.trans hv) (Nat.le_refl _)
  replace h8 : IntsAt w3 a8 R := ints_onlyS (w := wl.re T d) h8 hM (hlow.imp id fun ⟨sa, e, h⟩ => ⟨sa, e, fun g hg => by have := hup g hg; omega⟩)
  have hz4 : RowKit.Hid (kb + 1 ≤ w3.heap.size) := by show _ ≤ _; omega
  clear hc hB hW c23 hM hz3 hF h11 hL
  rw [e16]
  refine Can.ctl hS hL3 rfl (fun _ => stepG_seq) ?_
  refine Can.code' okProgL hS hL3 (okFr_at (by kernel_rfl) rfl rfl ⟨_, Try.func6⟩) ?_
  intro T d W hW B hB
  simp only [headC, body6, Try.f6, Option.getD_some]
  go_wp2
  have hB := hB.out
  subst hB
  intro hc
  have hW := hW.out
  subst hW
  refine Can.re ?_ T d
  clear hc hB hW
  rw [e17]
  refine Can.ctl hS hL3 rfl (fun _ => stepG_seq) ?_
  refine Can.code' okProgL hS hL3 (okFr_at (by kernel_rfl) rfl rfl ⟨_, Try.func6⟩) ?_
  intro T d W hW B hB
  have c24 : RowKit.Hid (Calls Try.prog 24 #[.slice a11 R.length c11, .int .i64 1] W fun e w' => e = .returned (.int .i64 (1 + R.length)) ∧ W = w') := heldIntS_opt a11 R.length c11 1 W hRn (by omega) (by omega) (by rw [hW.out]; exact hct)
  simp only [headC, body6, Try.f6, Option.getD_some]
  go_wp2_with (go_at_call 24; (with_reducible refine c24.out.mono ?_); rintro e w4 ⟨rfl, rfl⟩)
  have hB := hB.out
  subst hB
  intro hc
  have hW := hW.out
  subst hW
  refine Can.re ?_ T d
  clear hc hB hW c24
  rw [e18]
  refine Can.ctl hS hL3 rfl (fun _ => stepG_seq) ?_
  refine Can.code' okProgL hS hL3 (okFr_at (by kernel_rfl) rfl rfl ⟨_, Try.func6⟩) ?_
  intro T d W hW B hB
  have hp1 : ¬ ((1 : Int) + (R.length : Int) < 0) := by omega
  simp only [headC, body6, Try.f6, Option.getD_some]
  go_wp2
  have hB := hB.out
  subst hB
  intro hc
  have hW := hW.out
  subst hW
  refine Can.re ?_ T d
  clear hc hB hW hp1
  rw [e19]
  refine Can.ctl hS hL3 rfl (fun _ => stepG_seq) ?_
  refine Can.code' okProgL hS hL3 (okFr_at (by kernel_rfl) rfl rfl ⟨_, Try.func6⟩) ?_
  intro T d W hW B hB
  simp only [headC, body6, Try.f6, Option.getD_some]
  go_wp2
  have hB := hB.out
  subst hB
  intro hc
  have hW := hW.out
  subst hW
  refine Can.re ?_ T d
  clear hc hB hW
  exact next w3 _ _ _ _ _ _ _ _ _ _ _ _ _ _ _ _ _ _ _ _ _ _ _ _ _ _ _ _ _ _ _ _ _ _ _ _ _ _ _ _ _ _ _ _ _ _ _ _ _ _ _ _ _ _ _ _ _ _ _ _ _ _ _ _ _ _ _ _ _ _ _ _ _ _ _ _ _ _ _ _ _ _ _ _ _ _ _ _ _ _ _ _ _ _ _ _ _ _ _ _ _ hL3 hk hR hz4.out h8 hct
end
end Go.Town.Kp
