/-
  FnExactRunKeeper: what is answered, told without memory; and how it lies in memory.
  The law FnExactRunKeeper, to the reference's answer.
-/
import Derived.Test.YtihmcigoofhpmaaUbm
import Derived.Test.YtihmcigoofhpmaaUbn
set_option linter.all false
namespace Go.Town.Kp
open Go Go.Conc Go.Conc.Lib Go.ConcR.Gen Go.RowKit Go.Town Go.Proofs
open Go.ConcN (upd upd_ne upd_same)
def Kd (q : List UInt8) (f t : Int) (J : List (List Int)) (g : Bool) (R1 R2 : List Int) (E : ByteArray) (A : Int) : Prop :=
  ((vK q f t && vT J) = false ∧ g = false ∧ R1 = [] ∧ R2 = [] ∧ E = ⟨#[]⟩ ∧ A = 0) ∨
  ∃ κ : Kr, q = κ.rule.text.data.toList ∧ f = (κ.bear : Nat) ∧ t = (κ.win : Nat) ∧ (vK q f t && vT J) = true ∧ g = true ∧
    R1 = (List.range J.length).map (runT κ J (mxR J J.length) 0 St.zero).1.sum ∧ R2 = (List.range J.length).map (runT κ J (mxR J J.length) 0 St.zero).1.starts ∧ E = endText (runT κ J (mxR J J.length) 0 St.zero).1.over ∧ A = ((runT κ J (mxR J J.length) 0 St.zero).2 : Nat)
theorem kr_one {κ κ' : Kr} (h1 : κ'.rule.text.data.toList = κ.rule.text.data.toList) (h2 : (κ'.bear : Int) = (κ.bear : Nat)) (h3 : (κ'.win : Int) = (κ.win : Nat)) : κ' = κ := by
  obtain ⟨r, be, wi⟩ := κ; obtain ⟨r', be', wi'⟩ := κ'
  have e : r' = r := by
    simp only at h1
    cases r <;> cases r' <;> first | rfl | (simp [Rule.text] at h1)
  simp only at h2 h3
  subst e
  have : be' = be := by omega
  have : wi' = wi := by omega
  simp_all
theorem Kd.one {q : List UInt8} {f t : Int} {J : List (List Int)} {g g' : Bool} {R1 R2 S1 S2 : List Int} {E E' : ByteArray} {A A' : Int} (h : Kd q f t J g R1 R2 E A) (k : Kd q f t J g' S1 S2 E' A') : g' = g ∧ S1 = R1 ∧ S2 = R2 ∧ E' = E ∧ A' = A := by
  rcases h with ⟨h1, rfl, rfl, rfl, rfl, rfl⟩ | ⟨κ, h1, h2, h3, h4, rfl, rfl, rfl, rfl, rfl⟩
  · rcases k with ⟨_, rfl, rfl, rfl, rfl, rfl⟩ | ⟨κ', k1, k2, k3, k4, _⟩
    · exact ⟨rfl, rfl, rfl, rfl, rfl⟩
    · rw [k4] at h1; cases h1
  · rcases k with ⟨k1, _⟩ | ⟨κ', k1, k2, k3, k4, rfl, rfl, rfl, rfl, rfl⟩
    · rw [k1] at h4; cases h4
    · have e := kr_one (κ := κ) (κ' := κ') (k1.symm.trans h1) (k2.symm.trans h2) (k3.symm.trans h3)
      subst e; exact ⟨rfl, rfl, rfl, rfl, rfl⟩
theorem Kd.len {q : List UInt8} {f t : Int} {J : List (List Int)} {g : Bool} {R1 R2 : List Int} {E : ByteArray} {A : Int} (h : Kd q f t J g R1 R2 E A) (hn : J.length ≤ 1048576) : R1.length ≤ 1048576 ∧ R2.length ≤ 1048576 := by
  rcases h with ⟨h1, rfl, rfl, rfl, rfl, rfl⟩ | ⟨κ, h1, h2, h3, h4, rfl, rfl, rfl, rfl, rfl⟩
  · exact ⟨by simp, by simp⟩
  · exact ⟨by simpa using hn, by simpa using hn⟩
theorem nums_ints {w : World} {x : Nat} {fn : Nat → Int} {n : Nat} (h : NumsAt w x fn n) : IntsAt w (some ⟨x, 0, none⟩) ((List.range n).map fn) ∧ FreeS w (some ⟨x, 0, none⟩) ((List.range n).map fn).length := by
  refine ⟨?_, ?_⟩
  · by_cases h0 : n = 0
    · exact .inl (by simp [h0])
    · exact .inr ⟨x, 0, rfl, block_lt (h 0 (by omega)).1, fun i hi => by
        simp only [List.length_map, List.length_range] at hi
        rw [Nat.zero_add, (h i hi).1]; simp [List.getD, hi]⟩
  · refine .inr ⟨x, rfl, fun i hi => ?_⟩
    simp only [List.length_map, List.length_range] at hi
    exact ⟨⟨_, (h i hi).1⟩, (h i hi).2⟩
theorem keep_spec {q : List UInt8} {f t : Int} {J : List (List Int)} {w w' : World} {e : Ending} (h : KeepPost q f t J w e w') :
    ∃ (a1 a2 : Option Addr) (c1 c2 : Nat) (R1 R2 : List Int) (E : ByteArray) (A : Int) (g : Bool), e = .returned (.tuple #[.agg #[.slice a1 R1.length c1, .slice a2 R2.length c2, .string E, .int .i64 A], .bool g]) ∧ Below w.heap.size w w' ∧ Kd q f t J g R1 R2 E A ∧ IntsAt w' a1 R1 ∧ IntsAt w' a2 R2 := by
  obtain ⟨hb, ⟨h1, rfl⟩ | ⟨κ, sa, st, h1, h2, h3, h4, rfl, h5, h6⟩⟩ := h
  · exact ⟨none, none, 0, 0, [], [], ⟨#[]⟩, 0, false, rfl, hb, .inl ⟨h1, rfl, rfl, rfl, rfl, rfl⟩, .inl rfl, .inl rfl⟩
  · exact ⟨some ⟨sa, 0, none⟩, some ⟨st, 0, none⟩, J.length, J.length, _, _, _, _, true, by simp, hb, .inr ⟨κ, h1, h2, h3, h4, rfl, rfl, rfl, rfl, rfl⟩, (nums_ints h5).1, (nums_ints h6).1⟩
theorem put4 {B rb : Nat} {w : World} {vs : List Value} (hr : Reads w rb vs) (hv : vs.length = 4) (hB : B ≤ rb) (x0 x1 x2 x3 : Value) (T : Nat → Question → Nat) (d : Nat) :
    Kin B w (set4 (w.re T d) rb x0 x1 x2 x3) ∧ Reads (set4 (w.re T d) rb x0 x1 x2 x3) rb [x0, x1, x2, x3] ∧ (set4 (w.re T d) rb x0 x1 x2 x3).heap.size = w.heap.size := by
  obtain ⟨s0, s1, s2, s3⟩ := set4_cells (w := w.re T d) (rb := rb) (fun j hj => by obtain ⟨v, h⟩ := hr.ex (j := j) (by omega); exact ⟨v, h⟩) x0 x1 x2 x3
  refine ⟨(((((Kin.refl B w).re T d).set _ hB).set _ hB).set _ hB).set _ hB, ?_, ?_⟩
  · intro j hj
    simp only [List.length_cons, List.length_nil] at hj
    have hf : (set4 (w.re T d) rb x0 x1 x2 x3).frozen? ⟨rb, j, none⟩ = false := by
      unfold set4
      rw [frozen_setCell, frozen_setCell, frozen_setCell, frozen_setCell]; exact (hr j (by omega)).2
    refine ⟨?_, hf⟩
    generalize set4 (w.re T d) rb x0 x1 x2 x3 = w₄ at *
    obtain rfl | rfl | rfl | rfl : j = 0 ∨ j = 1 ∨ j = 2 ∨ j = 3 := by omega
    · exact s0
    · exact s1
    · exact s2
    · exact s3
  · unfold set4
    simp only [World.size_setCell]
    rfl
theorem new4 {w : World} {c0 c1 c2 c3 : Value} (x0 x1 x2 x3 : Value) : Kin w.heap.size w (set4 (w.alloc (.cells #[c0, c1, c2, c3] 30)) w.heap.size x0 x1 x2 x3) ∧ Reads (set4 (w.alloc (.cells #[c0, c1, c2, c3] 30)) w.heap.size x0 x1 x2 x3) w.heap.size [x0, x1, x2, x3] ∧ (set4 (w.alloc (.cells #[c0, c1, c2, c3] 30)) w.heap.size x0 x1 x2 x3).heap.size = w.heap.size + 1 := by
  have hr : Reads (w.alloc (.cells #[c0, c1, c2, c3] 30)) w.heap.size [c0, c1, c2, c3] := reads_block (t := 30) (alloc_self w _)
  obtain ⟨h1, h2, h3⟩ := put4 (B := w.heap.size) hr rfl (Nat.le_refl _) x0 x1 x2 x3 (w.alloc (.cells #[c0, c1, c2, c3] 30)).tape (w.alloc (.cells #[c0, c1, c2, c3] 30)).drawn
  rw [re_self] at h1 h2 h3
  exact ⟨(((Grown.refl w).alloc _).kin (Nat.le_refl _)).trans h1, h2, by rw [h3, World.size_alloc]⟩
structure Base8 (q : List UInt8) (f t : Int) (J : List (List Int)) (ta : Option Addr) (kb k6 : Nat) (a1 a2 : Option Addr) (c1 c2 : Nat) (R1 R2 : List Int) (E : ByteArray) (A : Int) (w : World) : Prop where
  keeper : Reads w kb [.string ⟨q.toArray⟩, .int .i64 f, .int .i64 t]
  rows : RowsIn kb w ta J
  kept : Reads w k6 [.slice a1 R1.length c1, .slice a2 R2.length c2, .string E, .int .i64 A]
  i1 : IntsIn k6 w a1 R1
  i2 : IntsIn k6 w a2 R2
  lt : kb < k6
  low : k6 < w.heap.size
section
variable {q : List UInt8} {f t : Int} {J : List (List Int)} {ta : Option Addr} {kb k6 : Nat} {a1 a2 : Option Addr} {c1 c2 : Nat} {R1 R2 : List Int} {E : ByteArray} {A : Int} {w w' : World}
theorem Base8.kin (h : Base8 q f t J ta kb k6 a1 a2 c1 c2 R1 R2 E A w) (k : Kin (k6 + 1) w w') : Base8 q f t J ta kb k6 a1 a2 c1 c2 R1 R2 E A w' :=
  have := h.lt
  ⟨h.keeper.kin k (by omega), h.rows.kept (k.le (B' := kb) (by omega)).cells (Nat.le_refl _), h.kept.kin k (by omega), h.i1.kept (k.le (B' := k6) (by omega)).cells (Nat.le_refl _), h.i2.kept (k.le (B' := k6) (by omega)).cells (Nat.le_refl _), h.lt, Nat.lt_of_lt_of_le h.low k.size⟩
theorem Base8.rowsAt (h : Base8 q f t J ta kb k6 a1 a2 c1 c2 R1 R2 E A w) : RowsAt w ta J := h.rows.kept (B' := w.heap.size) (fun _ _ _ _ hv => hv) (by have := h.lt; have := h.low; omega)
theorem Base8.i1At (h : Base8 q f t J ta kb k6 a1 a2 c1 c2 R1 R2 E A w) : IntsAt w a1 R1 := h.i1.kept (B' := w.heap.size) (fun _ _ _ _ hv => hv) (Nat.le_of_lt h.low)
theorem Base8.i2At (h : Base8 q f t J ta kb k6 a1 a2 c1 c2 R1 R2 E A w) : IntsAt w a2 R2 := h.i2.kept (B' := w.heap.size) (fun _ _ _ _ hv => hv) (Nat.le_of_lt h.low)
structure Ans (B : Nat) (R1 R2 : List Int) (d1 d2 : Option Addr) (w : World) : Prop where
  i1 : IntsAt w d1 R1
  i2 : IntsAt w d2 R2
  f1 : FreeS w d1 R1.length
  f2 : FreeS w d2 R2.length
  parted : Parted d1 R1.length d2 R2.length
  lo1 : ∀ g, d1 = some ⟨g, 0, none⟩ → B ≤ g ∧ g < w.heap.size
  lo2 : ∀ g, d2 = some ⟨g, 0, none⟩ → B ≤ g ∧ g < w.heap.size
theorem Ans.kin {B : Nat} {d1 d2 : Option Addr} (h : Ans B R1 R2 d1 d2 w) (k : Kin w.heap.size w w') : Ans B R1 R2 d1 d2 w' :=
  ⟨h.i1.kept k.cells k.size, h.i2.kept k.cells k.size, h.f1.kin k h.f1.lt, h.f2.kin k h.f2.lt, h.parted, fun g e => ⟨(h.lo1 g e).1, Nat.lt_of_lt_of_le (h.lo1 g e).2 k.size⟩, fun g e => ⟨(h.lo2 g e).1, Nat.lt_of_lt_of_le (h.lo2 g e).2 k.size⟩⟩
theorem ints_mk {b B : Nat} {a : Option Addr} {R : List Int} (h : IntsAt w a R) (hM : Marked b B w w') (hx : ∀ g, a = some ⟨g, 0, none⟩ → B ≤ g) (h0 : R = [] ∨ ∃ g, a = some ⟨g, 0, none⟩) : IntsAt w' a R := by
  rcases h with h | ⟨x, off, rfl, hb, hc⟩
  · exact .inl h
  · rcases h0 with h0 | ⟨g, e⟩
    · exact .inl h0
    · cases e
      exact .inr ⟨x, 0, rfl, by rw [hM.size]; exact hb, fun i hi => (hM.cell (.inr (hx x rfl))).1.trans (hc i hi)⟩
theorem free_mk {b B m : Nat} {a : Option Addr} (h : FreeS w a m) (hM : Marked b B w w') (hx : ∀ g, a = some ⟨g, 0, none⟩ → B ≤ g) : FreeS w' a m := by
  rcases h with h | ⟨x, rfl, hf⟩
  · exact .inl h
  · exact .inr ⟨x, rfl, fun j hj => by
      have := hM.cell (x := x) (j := j) (.inr (hx x rfl))
      rw [this.1, this.2]; exact hf j hj⟩
theorem FreeS.at0 {a : Option Addr} {R : List Int} (h : FreeS w a R.length) : R = [] ∨ ∃ g, a = some ⟨g, 0, none⟩ := by
  rcases h with h | ⟨x, rfl, _⟩
  · exact .inl (List.length_eq_zero_iff.1 h)
  · exact .inr ⟨x, rfl⟩
theorem Ans.marked {b B : Nat} {d1 d2 : Option Addr} (h : Ans B R1 R2 d1 d2 w) (hM : Marked b B w w') : Ans B R1 R2 d1 d2 w' :=
  have l1 := fun g e => (h.lo1 g e).1
  have l2 := fun g e => (h.lo2 g e).1
  ⟨ints_mk h.i1 hM l1 h.f1.at0, ints_mk h.i2 hM l2 h.f2.at0, free_mk h.f1 hM l1, free_mk h.f2 hM l2, h.parted, by rw [hM.size]; exact h.lo1, by rw [hM.size]; exact h.lo2⟩
theorem marked_kin {b B n : Nat} (hM : Marked b B w w') (hn : n ≤ b + 1) : Kin n w w' :=
  ⟨fun x j v hx hv => (hM.cell (.inl (by omega))).1.trans hv, fun x j v hx hv hf => (hM.cell (.inl (by omega))).2.trans hf, by rw [hM.size]; exact Nat.le_refl _⟩
theorem twoS_kin {d1 d2 : Option Addr} {n : Nat} (h : TwoS d1 d2 w w') (hn : n ≤ w.heap.size) (l1 : ∀ g, d1 = some ⟨g, 0, none⟩ → n ≤ g) (l2 : ∀ g, d2 = some ⟨g, 0, none⟩ → n ≤ g) : Kin n w w' :=
  ⟨fun x j v hx hv => (World.cell?_of_block (h.block x (by omega) (fun g e => by have := l1 g e; omega) (fun g e => by have := l2 g e; omega))).trans hv, fun x j v hx hv hf => (World.frozen?_of_block (h.block x (by omega) (fun g e => by have := l1 g e; omega) (fun g e => by have := l2 g e; omega))).trans hf, h.size⟩
theorem twoS_reads {d1 d2 : Option Addr} {x : Nat} {vs : List Value} (h : TwoS d1 d2 w w') (hr : Reads w x vs) (hx : x < w.heap.size) (l1 : ∀ g, d1 = some ⟨g, 0, none⟩ → x ≠ g) (l2 : ∀ g, d2 = some ⟨g, 0, none⟩ → x ≠ g) : Reads w' x vs := fun j hj => by
  rw [World.cell?_of_block (h.block x hx l1 l2), World.frozen?_of_block (h.block x hx l1 l2)]; exact hr j hj
structure Impl8 (B : Nat) (R1 R2 : List Int) (E : ByteArray) (A : Int) (k9 : Nat) (d1 d2 : Option Addr) (e1 e2 : Nat) (w : World) : Prop where
  ans : Ans B R1 R2 d1 d2 w
  reads : Reads w k9 [.slice d1 R1.length e1, .slice d2 R2.length e2, .string E, .int .i64 A]
  l1 : ∀ g, d1 = some ⟨g, 0, none⟩ → g < k9
  l2 : ∀ g, d2 = some ⟨g, 0, none⟩ → g < k9
  lo : B ≤ k9
  lt : k9 < w.heap.size
theorem Impl8.kin {B k9 : Nat} {d1 d2 : Option Addr} {e1 e2 : Nat} (h : Impl8 B R1 R2 E A k9 d1 d2 e1 e2 w) (k : Kin w.heap.size w w') : Impl8 B R1 R2 E A k9 d1 d2 e1 e2 w' :=
  ⟨h.ans.kin k, h.reads.kin k h.lt, h.l1, h.l2, h.lo, Nat.lt_of_lt_of_le h.lt k.size⟩
theorem Impl8.marked {b B k9 : Nat} {d1 d2 : Option Addr} {e1 e2 : Nat} (h : Impl8 B R1 R2 E A k9 d1 d2 e1 e2 w) (hM : Marked b B w w') : Impl8 B R1 R2 E A k9 d1 d2 e1 e2 w' :=
  ⟨h.ans.marked hM, fun j hj => by rw [(hM.cell (x := k9) (j := j) (.inr h.lo)).1, (hM.cell (x := k9) (j := j) (.inr h.lo)).2]; exact h.reads j hj, h.l1, h.l2, h.lo, by rw [hM.size]; exact h.lt⟩
end
end Go.Town.Kp
namespace Go.Town.Kp
open Go Go.Conc Go.Conc.Lib Go.ConcR.Gen Go.RowKit Go.Town Go.Proofs
open Go.ConcN (upd upd_ne upd_same)
def listK : List FuncId := [25, 35, 37, 46, 11, 16, 17, 44, 18, 19, 45, 20, 21, 22, 23, 24, 26, 29, 30, 31, 38, 43, 39, 40, 52, 66, 67]
def okK (f : FuncId) : Bool := listK.contains f
theorem okProgK : OkProg Try.prog okK := okProg_of listK (fun f h => by unfold okK at h; simpa using h) (List.all_eq_true.1 (show (listK.all (okBody okK)) = true by kernel_rfl))
noncomputable def body8 : Code := Try.f8.body.getD .skip
section
variable {C : Cfg} {b o Bd : Nat} {wl : World} {l : ByteArray} {f t : Int} {J : List (List Int)} {tc : Nat} {ta : Option Addr}
theorem end8 {tmps : Array Value} {todo : List Item} (hL : Lay C wl) (h4 : tmps[4]? = some (.bool true)) :
    Can Try.prog C b o (fun v _ => v = .bool true) 0 (AloneB Bd) wl (G { (base 8).at ⟨tmps, []⟩ todo with mode := .returning } []) := by
  refine Can.mono (Rs := Alone) (Can.ends (v := .bool true) hL rfl (fun w hw => ?_) (fun _ _ => rfl)) (fun _ _ _ h => h.1)
  have hr : (results Try.f8 tmps).runT Try.prog w #[] = (.ok (.bool true) w, #[]) := by
    simp [results, Try.results8, h4, Sem.runT]
  refine ⟨seen Try.prog 8 #[], ?_, ?_⟩
  · simp only [stepG, G, Frame.at, base, unwind, Try.func8]
    rw [hr]
    simp [doReturn, GStep.after, Result.setW]
  · intro e he; rw [seen_none] at he; simp at he
theorem enter8 : Frame.enter Try.prog 8 #[.agg #[.string l, .int .i64 f, .int .i64 t], .slice ta J.length tc] .normal = (base 8).at ⟨#[.agg #[.string l, .int .i64 f, .int .i64 t], .slice ta J.length tc, undef, undef, undef, undef, undef, undef, undef, undef, undef, undef, undef, undef, undef, undef, undef, undef, undef, undef, undef, undef, undef, undef, undef, undef, undef, undef, undef, undef, undef, undef, undef, undef, undef, undef, undef, undef, undef, undef, undef, undef, undef, undef, undef, undef, undef, undef, undef, undef, undef, undef, undef, undef, undef, undef, undef, undef, undef, undef, undef, undef, undef, undef, undef, undef, undef, undef, undef, undef, undef, undef, undef, undef, undef, undef, undef, undef, undef, undef, undef, undef, undef, undef, undef, undef, undef, undef, undef, undef, undef, undef, undef, undef, undef, undef, undef, undef, undef, undef, undef, undef, undef, undef, undef, undef, undef, undef, undef], []⟩ [.code body8] := by kernel_rfl
set_option maxRecDepth 100000 in
set_option maxHeartbeats 2000000 in
theorem law8_a (hL : Lay C wl) (hR : RowsAt wl ta J) (hl : l.size ≤ 9223372036854775807) (hn : J.length ≤ 9223372036854775807) (hm : ∀ l ∈ J, l.length ≤ 9223372036854775807)
    (next : ∀ (q : List UInt8) (_ : l = ⟨q.toArray⟩) (kb : Nat) (w : World) (z3 z5 z6 z7 z8 z9 z10 z11 z12 z13 z14 z15 z16 z17 z18 z19 z20 z21 z22 z23 z24 z25 z26 z27 z28 z29 z30 z31 z32 z33 z34 z35 z36 z37 z38 z39 z40 z41 z42 z43 z44 z45 z46 z47 z48 z49 z50 z51 z52 z53 z54 z55 z56 z57 z58 z59 z60 z61 z62 z63 z64 z65 z66 z67 z68 z69 z70 z71 z72 z73 z74 z75 z76 z77 z78 z79 z80 z81 z82 z83 z84 z85 z86 z87 z88 z89 z90 z91 z92 z93 z94 z95 z96 z97 z98 z99 z100 z101 z102 z103 z104 z105 z106 z107 z108 : Value), J.length ≤ 1048576 → (∀ l ∈ J, l.length ≤ 1048576) → Lay C w → Reads w kb [.string ⟨q.toArray⟩, .int .i64 f, .int .i64 t] → RowsIn kb w ta J → kb + 1 ≤ w.heap.size → Can Try.prog C b o (fun v _ => v = .bool true) 0 (AloneB Bd) w (G ((base 8).at ⟨#[.agg #[.string ⟨q.toArray⟩, .int .i64 f, .int .i64 t], .slice ta J.length tc, .pointer (some ⟨kb, 0, none⟩), z3, .bool false, z5, z6, z7, z8, z9, z10, z11, z12, z13, z14, z15, z16, z17, z18, z19, z20, z21, z22, z23, z24, z25, z26, z27, z28, z29, z30, z31, z32, z33, z34, z35, z36, z37, z38, z39, z40, z41, z42, z43, z44, z45, z46, z47, z48, z49, z50, z51, z52, z53, z54, z55, z56, z57, z58, z59, z60, z61, z62, z63, z64, z65, z66, z67, z68, z69, z70, z71, z72, z73, z74, z75, z76, z77, z78, z79, z80, z81, z82, z83, z84, z85, z86, z87, z88, z89, z90, z91, z92, z93, z94, z95, z96, z97, z98, z99, z100, z101, z102, z103, z104, z105, z106, z107, z108], []⟩ [.code (tailC 6 body8)]) [])) :
    Can Try.prog C b o (fun v _ => v = .bool true) 0 (AloneB Bd) wl (G ((base 8).at ⟨#[.agg #[.string l, .int .i64 f, .int .i64 t], .slice ta J.length tc, undef, undef, undef, undef, undef, undef, undef, undef, undef, undef, undef, undef, undef, undef, undef, undef, undef, undef, undef, undef, undef, undef, undef, undef, undef, undef, undef, undef, undef, undef, undef, undef, undef, undef, undef, undef, undef, undef, undef, undef, undef, undef, undef, undef, undef, undef, undef, undef, undef, undef, undef, undef, undef, undef, undef, undef, undef, undef, undef, undef, undef, undef, undef, undef, undef, undef, undef, undef, undef, undef, undef, undef, undef, undef, undef, undef, undef, undef, undef, undef, undef, undef, undef, undef, undef, undef, undef, undef, undef, undef, undef, undef, undef, undef, undef, undef, undef, undef, undef, undef, undef, undef, undef, undef, undef, undef, undef], []⟩ [.code body8]) []) := by
  have hS := steady_aloneB Bd
  have e0 : tailC 0 body8 = .seq (headC 0 body8) (tailC 1 body8) := by kernel_rfl
  have e1 : tailC 1 body8 = .seq (headC 1 body8) (tailC 2 body8) := by kernel_rfl
  have e2 : tailC 2 body8 = .seq (headC 2 body8) (tailC 3 body8) := by kernel_rfl
  have e3 : tailC 3 body8 = .seq (headC 3 body8) (tailC 4 body8) := by kernel_rfl
  have e4 : tailC 4 body8 = .seq (headC 4 body8) (tailC 5 body8) := by kernel_rfl
  have e5 : tailC 5 body8 = .seq (headC 5 body8) (tailC 6 body8) := by kernel_rfl
  rw [show body8 = tailC 0 body8 from rfl]
  rw [e0]
  refine Can.ctl hS hL rfl (fun _ => stepG_seq) ?_
  refine Can.code' okProgK hS hL (okFr_at (by kernel_rfl) rfl rfl ⟨_, Try.func8⟩) ?_
  intro T d W hW B hB
  simp only [headC, body8, Try.f8, Option.getD_some]
  go_wp2
  have hB := hB.out
  subst hB
  intro hc
  have hW := hW.out
  subst hW
  obtain ⟨w₁, hw₁⟩ : ∃ w, w = (wl.re T d).alloc (.cells #[.string l, .int .i64 f, .int .i64 t] 39) := ⟨_, rfl⟩
  rw [← hw₁] at hc ⊢
  have hsz : (wl.re T d).heap.size = wl.heap.size := rfl
  have z₁ : w₁.heap.size = wl.heap.size + 1 := by rw [hw₁, World.size_alloc, hsz]
  have r₁ : Reads w₁ wl.heap.size [.string l, .int .i64 f, .int .i64 t] := reads_block (t := 39) (by rw [hw₁, ← hsz]; exact alloc_self (wl.re T d) _)
  have G₁ : Kin wl.heap.size wl w₁ := by rw [hw₁]; exact (((Grown.refl wl).re T d).alloc _).kin (Nat.le_refl _)
  simp only [hsz]
  clear hw₁ hsz
  have hL₁ : Lay C w₁ := ⟨hc, hL.no⟩
  have hR₁ : RowsAt w₁ ta J := hR.kept G₁.cells G₁.size
  clear hc
  rw [e1]
  refine Can.ctl hS hL₁ rfl (fun _ => stepG_seq) ?_
  refine Can.code' okProgK hS hL₁ (okFr_at (by kernel_rfl) rfl rfl ⟨_, Try.func8⟩) ?_
  intro T d W hW B hB
  simp only [headC, body8, Try.f8, Option.getD_some]
  go_wp2
  have hB := hB.out
  subst hB
  intro hc
  have hW := hW.out
  subst hW
  refine Can.re ?_ T d
  clear hc hB hW
  replace z₁ : RowKit.Hid _ := z₁
  rw [e2]
  refine Can.ctl hS hL₁ rfl (fun _ => stepG_seq) ?_
  refine Can.code' okProgK hS hL₁ (okFr_at (by kernel_rfl) rfl rfl ⟨_, Try.func8⟩) ?_
  intro T d W hW B hB
  have g0 : W.cell? ⟨wl.heap.size, 0, none⟩ = some (.string l) := by rw [hW.out]; exact (r₁ 0 (by simp)).1
  have g1 : W.cell? ⟨wl.heap.size, 1, none⟩ = some (.int .i64 f) := by rw [hW.out]; exact (r₁ 1 (by simp)).1
  have g2 : W.cell? ⟨wl.heap.size, 2, none⟩ = some (.int .i64 t) := by rw [hW.out]; exact (r₁ 2 (by simp)).1
  have c16 : RowKit.Hid (∀ w, Calls Try.prog 16 #[.agg #[.string l, .int .i64 f, .int .i64 t], .int .i64 1048576] w fun e w' => e = .returned (.int .i64 (if (1048576 : Int) < l.size then -1 else 1048576 - l.size)) ∧ Below w.heap.size w w') := fun w => szKeeper_any l _ _ 1048576 w hl (by omega) (by omega)
  simp only [headC, body8, Try.f8, Option.getD_some]
  by_cases hroom : (1048576 : Int) < (l.size : Int)
  · rw [if_pos hroom] at c16
    clear hroom
    go_wp2_with (go_at_call 16; (with_reducible refine (c16.out _).mono ?_); rintro e w' ⟨rfl, hbw⟩)
    have hB := hB.out
    subst hB
    intro hc
    have hL₂ : Lay C w' := ⟨hc, hL.no⟩
    clear hc g0 g1 g2 hbw
    rw [e3]
    refine Can.ctl hS hL₂ rfl (fun _ => stepG_seq) ?_
    refine Can.code' okProgK hS hL₂ (okFr_at (by kernel_rfl) rfl rfl ⟨_, Try.func8⟩) ?_
    intro T d W hW B hB
    simp only [headC, body8, Try.f8, Option.getD_some]
    go_wp2
    have hB := hB.out
    subst hB
    intro hc todo
    have hW := hW.out
    subst hW
    exact end8 (⟨hL₂.cut.re T d, hL₂.no⟩ : Lay C (w'.re T d)) rfl
  rw [if_neg hroom] at c16
  obtain ⟨room, hro⟩ : ∃ room : Int, room = 1048576 - (l.size : Int) := ⟨_, rfl⟩
  rw [← hro] at c16
  have hroom0 : 0 ≤ room := by omega
  have hroom1 : room ≤ 1048576 := by omega
  clear hro hroom
  go_wp2_with (go_at_call 16; (with_reducible refine (c16.out _).mono ?_); rintro e w' ⟨rfl, hbw⟩)
  have hB := hB.out
  subst hB
  intro hc
  have hW := hW.out
  subst hW
  have hL₂ : Lay C w' := ⟨hc, hL.no⟩
  have K₂ : Kin w₁.heap.size w₁ w' := bwre hbw
  have r₂ : Reads w' wl.heap.size [.string l, .int .i64 f, .int .i64 t] := r₁.kin K₂ (by have := z₁.out; omega)
  have G₂ : Kin wl.heap.size wl w' := G₁.trans (K₂.le (by have := z₁.out; omega))
  have hR₂ : RowsAt w' ta J := hR₁.kept K₂.cells K₂.size
  have hR₃ : RowsIn wl.heap.size w' ta J := hR.kept G₂.cells (Nat.le_refl _)
  have z₂ : RowKit.Hid (wl.heap.size + 1 ≤ w'.heap.size) := by have := z₁.out; have := K₂.size; show _ ≤ _; omega
  clear hc g0 g1 g2 hbw K₂ r₁ G₁ hR₁ z₁ hL₁ c16 hB hW
  rw [e3]
  refine Can.ctl hS hL₂ rfl (fun _ => stepG_seq) ?_
  refine Can.code' okProgK hS hL₂ (okFr_at (by kernel_rfl) rfl rfl ⟨_, Try.func8⟩) ?_
  intro T d W hW B hB
  have hroom2 : ¬ (room < 0) := by omega
  simp only [headC, body8, Try.f8, Option.getD_some]
  go_wp2
  have hB := hB.out
  subst hB
  intro hc
  have hW := hW.out
  subst hW
  refine Can.re ?_ T d
  clear hc hB hW hroom2
  rw [e4]
  refine Can.ctl hS hL₂ rfl (fun _ => stepG_seq) ?_
  refine Can.code' okProgK hS hL₂ (okFr_at (by kernel_rfl) rfl rfl ⟨_, Try.func8⟩) ?_
  intro T d W hW B hB
  have c17 : RowKit.Hid (Calls Try.prog 17 #[.slice ta J.length tc, .int .i64 room] W fun e w' => (∃ v : Int, e = .returned (.int .i64 v) ∧ RowKit.Hid (v < 0 ∨ 0 ≤ v ∧ v ≤ room ∧ (J.length : Int) ≤ room ∧ ∀ l ∈ J, (l.length : Int) ≤ room)) ∧ W = w') := szIntSS_any ta tc J room W hn hm hroom0 hroom1 (by rw [hW.out]; exact hR₂.re T d)
  simp only [headC, body8, Try.f8, Option.getD_some]
  go_wp2_with (go_at_call 17; (with_reducible refine c17.out.mono ?_); rintro e w₃ ⟨⟨v, rfl, hv⟩, rfl⟩)
  have hB := hB.out
  subst hB
  intro hc
  have hW := hW.out
  subst hW
  refine Can.re ?_ T d
  clear hc hB hW c17
  rw [e5]
  refine Can.ctl hS hL₂ rfl (fun _ => stepG_seq) ?_
  refine Can.code' okProgK hS hL₂ (okFr_at (by kernel_rfl) rfl rfl ⟨_, Try.func8⟩) ?_
  intro T d W hW B hB
  simp only [headC, body8, Try.f8, Option.getD_some]
  by_cases hneg : v < 0
  · go_wp2
    have hB := hB.out
    subst hB
    intro hc todo
    have hW := hW.out
    subst hW
    exact end8 (⟨hL₂.cut.re T d, hL₂.no⟩ : Lay C (w'.re T d)) rfl
  · have hv' := hv.out.resolve_left hneg
    obtain ⟨_, _, hJ, hJl⟩ := hv'
    have hJ' : RowKit.Hid (J.length ≤ 1048576) := by show _ ≤ _; omega
    have hJl' : RowKit.Hid (∀ l ∈ J, l.length ≤ 1048576) := fun l hl => by have := hJl l hl; omega
    clear hv hJ hJl hroom0 hroom1
    go_wp2
    have hB := hB.out
    subst hB
    intro hc
    have hW := hW.out
    subst hW
    refine Can.re ?_ T d
    clear hc hB hW hneg
    obtain ⟨q, rfl⟩ : ∃ q : List UInt8, l = ⟨q.toArray⟩ := ⟨l.data.toList, by simp⟩
    exact next q rfl _ _ _ _ _ _ _ _ _ _ _ _ _ _ _ _ _ _ _ _ _ _ _ _ _ _ _ _ _ _ _ _ _ _ _ _ _ _ _ _ _ _ _ _ _ _ _ _ _ _ _ _ _ _ _ _ _ _ _ _ _ _ _ _ _ _ _ _ _ _ _ _ _ _ _ _ _ _ _ _ _ _ _ _ _ _ _ _ _ _ _ _ _ _ _ _ _ _ _ _ _ _ _ _ _ _ _ hJ'.out hJl'.out hL₂ r₂ hR₃ z₂.out
end
end Go.Town.Kp
