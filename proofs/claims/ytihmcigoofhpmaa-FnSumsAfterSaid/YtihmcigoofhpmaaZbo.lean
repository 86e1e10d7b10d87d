/-
  The reference's draw of a keeper, tasks and a number of ticks: DrawSumsAfter.
  cbSame of equal lists.
  SumsAfter called, with what it answers told without memory; what the law FnSumsAfter asks of the answers.
-/
import Derived.Test.YtihmcigoofhpmaaZbi
import Derived.Test.YtihmcigoofhpmaaZbn
set_option linter.all false
namespace Go.Town.Kp
open Go Go.Conc Go.Conc.Lib Go.ConcR.Gen Go.RowKit Go.Town Go.Proofs
def DrawPostN (w : World) (e : Ending) (w' : World) : Prop :=
  ∃ (q : List UInt8) (f t n : Int) (ta : Option Addr) (J : List (List Int)) (tc : Nat), e = .returned (.tuple #[.agg #[.string ⟨q.toArray⟩, .int .i64 f, .int .i64 t], .slice ta J.length tc, .int .i64 n]) ∧ J.length ≤ 10 ∧ (∀ l ∈ J, l.length ≤ 30) ∧ RowsAt w' ta J ∧ CapsIn w'.heap.size w' ta J ∧ Below w.heap.size w w'
set_option maxRecDepth 100000 in
set_option maxHeartbeats 4000000 in
theorem drawSums_any {a : Option Addr} {c : Nat} {bs : List Int} {w : World} (hA : BytesAt w a bs) (hu : ∀ b ∈ bs, InU8 b) (hcap : bs.length ≤ c) :
    Calls Try.prog 13 #[.slice a bs.length c] w (DrawPostN w) := by
  have hop := hidC (l11Open_any a c bs (w.alloc (.cells #[.string ⟨#[]⟩, .int .i64 0, .int .i64 0] 24)) (hA.below ((Below.refl _ w).alloc (Nat.le_refl _) _) (Nat.le_refl _)) hu hcap)
  rw [World.size_alloc] at hop
  go_enter Try.func13, Try.ntmps13
  go_wp2_with fail
  refine hop.out.mono ?_
  rintro e w1 ⟨rfl, hR1, hb1⟩
  have z1 : w.heap.size + 2 ≤ w1.heap.size := by have := hR1.lt; omega
  have b1 : Reads w1 w.heap.size [.string ⟨#[]⟩, .int .i64 0, .int .i64 0] := (reads_block (t := 24) (alloc_self w _)).kin (kin_of_below hb1) (by omega)
  have B1 : Below w.heap.size w w1 := ((Below.refl _ w).alloc (Nat.le_refl _) _).trans (hb1.mono (by omega))
  clear hop hb1
  go_wp2_with fail
  refine (l9Keeper_any hR1 (by omega)).mono ?_
  rintro e w2 ⟨q, f, t, p2, rfl, hp2, hR2, hg2⟩
  have z2 := hg2.size
  have b2 := b1.grown hg2 (by omega) (by omega)
  have B2 : Below w.heap.size w w2 := B1.grown hg2 (by omega) (fun k e => by injection e with e; omega)
  clear hg2 b1 B1 hR1
  go_wp2_with fail
  obtain ⟨W, hW⟩ : ∃ W, W = w2.alloc (.cells #[.string ⟨q.toArray⟩, .int .i64 f, .int .i64 t] 24) := ⟨_, rfl⟩
  rw [← hW]
  have b5 : Reads W w2.heap.size [.string ⟨q.toArray⟩, .int .i64 f, .int .i64 t] := reads_block (t := 24) (by rw [hW]; exact alloc_self w2 _)
  have b6 : Reads W w.heap.size [.string ⟨#[]⟩, .int .i64 0, .int .i64 0] := by rw [hW]; exact b2.alloc (by omega) _
  have hR6 : Rd W (w.heap.size + 1) (w.heap.size + 1) p2 := by rw [hW]; exact hR2.alloc _
  have B6 : Below w.heap.size w W := by rw [hW]; exact B2.alloc (by omega) _
  have z6 : W.heap.size = w2.heap.size + 1 := by rw [hW, World.size_alloc]
  clear hW b2 B2 hR2
  refine (l9Tasks_any hR6 (by omega)).mono ?_
  rintro e w3 ⟨ta, J, tc, p3, rfl, hJ, hJl, hRow, hp3, hR3, hg3⟩
  have b7 := b5.grown hg3 (by omega) (by omega)
  have b8 := b6.grown hg3 (by omega) (by omega)
  have z7 := hg3.size
  have B7 : Below w.heap.size w w3 := B6.grown hg3 (by omega) (fun k e => by injection e with e; omega)
  clear b5 b6 hR6 B6
  go_wp2_with fail
  have hR3' : Rd w3.drew (w.heap.size + 1) (w.heap.size + 1) p3 := hR3.same rfl
  have c42 := hidC (pick_new (n := 8) hR3' (by omega) (by omega))
  have y0 := (b7 0 (by simp)).1
  have y1 := (b7 1 (by simp)).1
  have y2 := (b7 2 (by simp)).1
  have S0 : w3.drew.cell? ⟨w2.heap.size, 0, none⟩ = some (.string ⟨q.toArray⟩) ∧ w3.drew.cell? ⟨w2.heap.size, 1, none⟩ = some (.int .i64 f) ∧ w3.drew.cell? ⟨w2.heap.size, 2, none⟩ = some (.int .i64 t) := ⟨y0, y1, y2⟩
  go_region_held3 (fun w₁ => w₁.cell? ⟨w2.heap.size, 0, none⟩ = some (.string ⟨q.toArray⟩) ∧ w₁.cell? ⟨w2.heap.size, 1, none⟩ = some (.int .i64 f) ∧ w₁.cell? ⟨w2.heap.size, 2, none⟩ = some (.int .i64 t))
    (first | with_reducible exact S0 | with_reducible exact S3 | with_reducible exact S4 _ | with_reducible exact S5 | exact S6 | go_keep)
    ((first
      | (go_at_call 42; (with_reducible refine c42.out.mono ?_); rintro e w4 ⟨x, rfl, hx, h4⟩; have b9 := (show Reads w3.drew _ _ from b7).grown h4.out.2 (by show _ < w3.heap.size; omega) (by omega); have b10 := (show Reads w3.drew _ _ from b8).grown h4.out.2 (by show _ < w3.heap.size; omega) (by omega); have z8 : w3.heap.size ≤ w4.heap.size := h4.out.2.size; have S3 : w4.cell? ⟨w2.heap.size, 0, none⟩ = some (.string ⟨q.toArray⟩) ∧ w4.cell? ⟨w2.heap.size, 1, none⟩ = some (.int .i64 f) ∧ w4.cell? ⟨w2.heap.size, 2, none⟩ = some (.int .i64 t) := ⟨(b9 0 (by simp)).1, (b9 1 (by simp)).1, (b9 2 (by simp)).1⟩; have S4 : ∀ o, (w4.alloc o).cell? ⟨w2.heap.size, 0, none⟩ = some (.string ⟨q.toArray⟩) ∧ (w4.alloc o).cell? ⟨w2.heap.size, 1, none⟩ = some (.int .i64 f) ∧ (w4.alloc o).cell? ⟨w2.heap.size, 2, none⟩ = some (.int .i64 t) := fun o => ⟨cell_alloc S3.1, cell_alloc S3.2.1, cell_alloc S3.2.2⟩; have c41 := hidC (num_new (n := 6) [(x : Int), 0, 3, 20, 21, -1] 3 h4.out.1 (by omega) rfl rfl (by omega) (by omega)))
      | (go_at_call 41; (refine c41.out.mono ?_); rintro e w5 ⟨n, rfl, _, h5⟩; have b11 := b9.grown h5.out.2 (by omega) (by omega); have b12 := b10.grown h5.out.2 (by omega) (by omega); have S5 : w5.cell? ⟨w2.heap.size, 0, none⟩ = some (.string ⟨q.toArray⟩) ∧ w5.cell? ⟨w2.heap.size, 1, none⟩ = some (.int .i64 f) ∧ w5.cell? ⟨w2.heap.size, 2, none⟩ = some (.int .i64 t) := ⟨(b11 0 (by simp)).1, (b11 1 (by simp)).1, (b11 2 (by simp)).1⟩; obtain ⟨t0, t1, t2⟩ : w5.cell? ⟨w.heap.size, 0, none⟩ = some (.string ⟨#[]⟩) ∧ w5.cell? ⟨w.heap.size, 1, none⟩ = some (.int .i64 0) ∧ w5.cell? ⟨w.heap.size, 2, none⟩ = some (.int .i64 0) := ⟨(b12 0 (by simp)).1, (b12 1 (by simp)).1, (b12 2 (by simp)).1⟩; have f0 := (b12 0 (by simp)).2; have f1 := (b12 1 (by simp)).2; have f2 := (b12 2 (by simp)).2; have S4' := set3_reads b11 (x := w.heap.size) (by omega) (.string ⟨q.toArray⟩) (.int .i64 f) (.int .i64 t); have S6 := And.intro (S4' 0 (by simp)).1 (And.intro (S4' 1 (by simp)).1 (S4' 2 (by simp)).1))))
  rename_i hh
  clear hh
  obtain ⟨s0, s1, s2⟩ := set3_own b12 rfl (.string ⟨q.toArray⟩) (.int .i64 f) (.int .i64 t)
  obtain ⟨k1, k2⟩ := set3_heap w5 w.heap.size (.string ⟨q.toArray⟩) (.int .i64 f) (.int .i64 t)
  have z9 : w4.heap.size ≤ w5.heap.size := h5.out.2.size
  have hRow' : RowsAt (((w5.setCell ⟨w.heap.size, 0, none⟩ (.string ⟨q.toArray⟩)).setCell ⟨w.heap.size, 1, none⟩ (.int .i64 f)).setCell ⟨w.heap.size, 2, none⟩ (.int .i64 t)) ta J ∧ CapsIn (((w5.setCell ⟨w.heap.size, 0, none⟩ (.string ⟨q.toArray⟩)).setCell ⟨w.heap.size, 1, none⟩ (.int .i64 f)).setCell ⟨w.heap.size, 2, none⟩ (.int .i64 t)).heap.size (((w5.setCell ⟨w.heap.size, 0, none⟩ (.string ⟨q.toArray⟩)).setCell ⟨w.heap.size, 1, none⟩ (.int .i64 f)).setCell ⟨w.heap.size, 2, none⟩ (.int .i64 t)) ta J := hRow _ (by rw [k2]; omega) fun y h1 h2 => by
    have h1' : W.heap.size ≤ y := h1
    have h2' : y < w3.heap.size := h2
    exact (k1 y (by omega)).trans ((h5.out.2.block y (by omega) (by simp; omega)).trans (h4.out.2.block y h2' (by simp; omega)))
  have B9 : Below w.heap.size w w5 := (B7.drew.grown h4.out.2 (by show _ ≤ w3.heap.size; omega) (fun k e => by injection e with e; omega)).grown h5.out.2 (by omega) (fun k e => by injection e with e; omega)
  have B8 : Below w.heap.size w (((w5.setCell ⟨w.heap.size, 0, none⟩ (.string ⟨q.toArray⟩)).setCell ⟨w.heap.size, 1, none⟩ (.int .i64 f)).setCell ⟨w.heap.size, 2, none⟩ (.int .i64 t)) := ((B9.setCell (p := ⟨w.heap.size, 0, none⟩) (Nat.le_refl _) _).setCell (p := ⟨w.heap.size, 1, none⟩) (Nat.le_refl _) _).setCell (p := ⟨w.heap.size, 2, none⟩) (Nat.le_refl _) _
  clear S4' S6 S5 S4 S3 hRow k1 k2 c41 c42
  generalize (((w5.setCell ⟨w.heap.size, 0, none⟩ (.string ⟨q.toArray⟩)).setCell ⟨w.heap.size, 1, none⟩ (.int .i64 f)).setCell ⟨w.heap.size, 2, none⟩ (.int .i64 t)) = W9 at *
  go_wp2
  refine bodyPost_ret (v := .tuple #[.agg #[.string ⟨q.toArray⟩, .int .i64 f, .int .i64 t], .slice ta J.length tc, .int .i64 n]) (by simp [results, Try.results13, go_sem, s0, s1, s2]) rfl ?_
  exact ⟨q, f, t, n, ta, J, tc, rfl, hJ, hJl, hRow'.1, hRow'.2, B8⟩
end Go.Town.Kp
namespace Go.Town.Kp
open Go Go.Conc Go.Conc.Lib Go.ConcR.Gen Go.RowKit Go.Town Go.Proofs
set_option maxRecDepth 100000 in
set_option maxHeartbeats 400000 in
theorem cbSame_same (a b : Option Addr) (ca cb : Nat) (zs : List Int) (w : World) (hn : zs.length ≤ 1048576) (hA : IntsAt w a zs) (hB : IntsAt w b zs) :
    Calls Try.prog 12 #[.slice a zs.length ca, .slice b zs.length cb] w fun e w' => e = .returned (.bool true) ∧ Below w.heap.size w w' := by
  go_enter Try.func12, Try.ntmps12
  go_wp2
  go_loopw [5] (fun i wr => ∃ k : Nat, k ≤ zs.length ∧ i = .int .i64 k ∧ Below w.heap.size w wr) (fun i _ => zs.length - (intOf i).toNat)
  case atStart => exact ⟨0, Nat.zero_le _, rfl, Below.refl _ _⟩
  case round =>
    obtain ⟨k, hk, rfl, hb⟩ := hrel
    by_cases hlt : k < zs.length
    · obtain ⟨b1, off1, rfl, hbs1, hck1⟩ := (hA.below hb (Nat.le_refl _)).at hlt
      obtain ⟨b2, off2, rfl, hbs2, hck2⟩ := (hB.below hb (Nat.le_refl _)).at hlt
      have hlt' : (k : Int) < (zs.length : Int) := by omega
      go_wp2
      go_quiet (fail)
      go_wp2
      go_roundw
      case rel => exact ⟨k + 1, by omega, by go_num, below_drewN hb _⟩
      case measure => simp [intOf]; omega
    · go_wp2
      go_ret
      exact ⟨by simp, hb⟩
end Go.Town.Kp
namespace Go.Town.Kp
open Go Go.Conc Go.Conc.Lib Go.ConcR.Gen Go.RowKit Go.Town Go.Proofs
open Go.ConcN (upd upd_ne upd_same)
def listS : List FuncId := [13, 15, 9, 32, 33, 34, 41, 42, 47, 12, 11, 25, 35, 37, 46, 26, 38, 43, 39, 40, 52, 66, 67]
def okS (f : FuncId) : Bool := listS.contains f
theorem okProgS : OkProg Try.prog okS := okProg_of listS (fun f h => by unfold okS at h; simpa using h) (List.all_eq_true.1 (show (listS.all (okBody okS)) = true by kernel_rfl))
def Sd (q : List UInt8) (f t n : Int) (J : List (List Int)) (g : Bool) (R : List Int) : Prop :=
  ((vK q f t && vT J && vA n) = false ∧ g = false ∧ R = []) ∨
  ∃ (κ : Kr) (tn : Nat), q = κ.rule.text.data.toList ∧ f = (κ.bear : Nat) ∧ t = (κ.win : Nat) ∧ n = (tn : Nat) ∧ (vK q f t && vT J && vA n) = true ∧ g = true ∧ R = (List.range J.length).map (runT κ J tn 0 St.zero).1.sum
theorem Sd.one {q : List UInt8} {f t n : Int} {J : List (List Int)} {g g' : Bool} {R S : List Int} (h : Sd q f t n J g R) (k : Sd q f t n J g' S) : g' = g ∧ S = R := by
  rcases h with ⟨h1, rfl, rfl⟩ | ⟨κ, tn, h1, h2, h3, h4, h5, rfl, rfl⟩
  · rcases k with ⟨_, rfl, rfl⟩ | ⟨κ', tn', k1, k2, k3, k4, k5, _⟩
    · exact ⟨rfl, rfl⟩
    · rw [k5] at h1; cases h1
  · rcases k with ⟨k1, _⟩ | ⟨κ', tn', k1, k2, k3, k4, k5, rfl, rfl⟩
    · rw [k1] at h5; cases h5
    · have e := kr_one (κ := κ) (κ' := κ') (k1.symm.trans h1) (k2.symm.trans h2) (k3.symm.trans h3)
      have e2 : tn' = tn := by omega
      subst e e2; exact ⟨rfl, rfl⟩
theorem sd_ex (q : List UInt8) (f t n : Int) (J : List (List Int)) : ∃ g R, Sd q f t n J g R := by
  cases h : (vK q f t && vT J && vA n) with
  | false => exact ⟨false, [], .inl ⟨h, rfl, rfl⟩⟩
  | true =>
    have h' := h
    simp only [Bool.and_eq_true] at h'
    obtain ⟨κ, h1, h2, h3, _⟩ := vK_spec h'.1.1
    have ha := h'.2
    simp only [vA, Bool.and_eq_true, decide_eq_true_eq] at ha
    exact ⟨true, _, .inr ⟨κ, n.toNat, h1, h2, h3, by omega, h, rfl, rfl⟩⟩
structure SumFacts (n : Int) (J : List (List Int)) (R R1 R20 R0 C1 : List Int) : Prop where
  n0 : 0 ≤ n
  n20 : n ≤ 20
  four : J.length ≤ 4
  len : ∀ l ∈ J, l.length ≤ 20
  nR : R.length = J.length
  last : R20 = R1
  first : R0 = List.replicate J.length 0
  cut : C1 = R
theorem sd_facts {q : List UInt8} {f t n : Int} {J : List (List Int)} {g gk gl gf gc : Bool} {R R1 R2 R20 R0 C1 C2 : List Int} {E E' : ByteArray} {A A' : Int}
    (hD : Sd q f t n J g R) (hK : Kd q f t J gk R1 R2 E A) (hl : Sd q f t 20 J gl R20) (hf : Sd q f t 0 J gf R0) (hc : Kd q f t (cutJ n.toNat J) gc C1 C2 E' A') (hg : g = true) :
    gl = true ∧ gf = true ∧ SumFacts n J R R1 R20 R0 C1 := by
  rcases hD with ⟨_, rfl, _⟩ | ⟨κ, tn, h1, h2, h3, h4, h5, _, rfl⟩
  · cases hg
  simp only [Bool.and_eq_true] at h5
  obtain ⟨⟨hk, hv⟩, ha⟩ := h5
  obtain ⟨v1, v2, v3, v4⟩ := vT_spec hv
  have ha' := ha
  simp only [vA, Bool.and_eq_true, decide_eq_true_eq] at ha'
  have hv' := vT_cut n.toNat hv
  rcases hl with ⟨l1, _⟩ | ⟨κl, tl, a1, a2, a3, a4, _, rfl, rfl⟩
  · rw [hk, hv] at l1; simp [vA] at l1
  rcases hf with ⟨l1, _⟩ | ⟨κf, tf, b1, b2, b3, b4, _, rfl, rfl⟩
  · rw [hk, hv] at l1; simp [vA] at l1
  rcases hK with ⟨l1, _⟩ | ⟨κk, c1, c2, c3, _, rfl, rfl, rfl, rfl, rfl⟩
  · rw [hk, hv] at l1; simp at l1
  rcases hc with ⟨l1, _⟩ | ⟨κc, d1, d2, d3, _, rfl, rfl, rfl, rfl, rfl⟩
  · rw [hk, hv'] at l1; simp at l1
  have e1 := kr_one (κ := κ) (κ' := κl) (a1.symm.trans h1) (a2.symm.trans h2) (a3.symm.trans h3)
  have e2 := kr_one (κ := κ) (κ' := κf) (b1.symm.trans h1) (b2.symm.trans h2) (b3.symm.trans h3)
  have e3 := kr_one (κ := κ) (κ' := κk) (c1.symm.trans h1) (c2.symm.trans h2) (c3.symm.trans h3)
  have e4 := kr_one (κ := κ) (κ' := κc) (d1.symm.trans h1) (d2.symm.trans h2) (d3.symm.trans h3)
  have e5 : tl = 20 := by omega
  have e6 : tf = 0 := by omega
  subst e1 e2 e3 e4 e5 e6
  refine ⟨rfl, rfl, ha'.1, ha'.2, v2, v4, by simp, ?_, ?_, ?_⟩
  · rw [runT_all (mxR_le v4 _)]
  · apply List.ext_getElem
    · simp
    · intro i h1 h2; simp [runT, St.zero]
  · have e7 : n.toNat = tn := by omega
    rw [runT_cut_all, cutJ_length, e7]
section
variable {C : Cfg} {b o Bd : Nat} {wl : World} {q : List UInt8} {f t n : Int} {J : List (List Int)} {tc : Nat} {ta : Option Addr} {g : Bool} {R : List Int}
theorem enter14 {l : ByteArray} {f t n : Int} {m tc : Nat} {ta : Option Addr} : Frame.enter Try.prog 14 #[.agg #[.string l, .int .i64 f, .int .i64 t], .slice ta m tc, .int .i64 n] .normal = (base 14).at ⟨#[.agg #[.string l, .int .i64 f, .int .i64 t], .slice ta m tc, .int .i64 n] ++ Array.replicate 26 undef, []⟩ [.code body14] := by kernel_rfl
set_option maxRecDepth 100000 in
set_option maxHeartbeats 1000000 in
theorem call14s {b₀ : Frame} {a₀ : Act} {ops₀ : Array Oper} {i₀ : Nat} {rest₀ : List Nat} {k₀ : List Item} {cs : List Frame} {ta' : Option Addr} {tc' : Nat} {Post : Value → World → Prop} (hn : J.length ≤ 1048576) (hm : ∀ l ∈ J, l.length ≤ 1048576) (hBd : Bd < 2000000000) (hL : Lay C wl) (hR : RowsAt wl ta' J) (hD : Sd q f t n J g R)
    (h : ∀ C' b' o' a c wl', Lay C' wl' → Kin wl.heap.size wl wl' → IntsAt wl' a R → Can Try.prog C' b' o' Post 0 (AloneB (Bd + 400)) wl' (G (b₀.at (a₀.put ((ops₀[i₀]?).bind (·.dst)) (.tuple #[.slice a R.length c, .bool g])) (.inRegion ops₀ rest₀ :: k₀)) cs)) :
    Can Try.prog C b o Post 0 (AloneB Bd) wl (G (Frame.enter Try.prog 14 #[.agg #[.string ⟨q.toArray⟩, .int .i64 f, .int .i64 t], .slice ta' J.length tc', .int .i64 n] .normal) (b₀.at a₀ (.inRegion ops₀ (i₀ :: rest₀) :: k₀) :: cs)) := by
  rw [enter14]
  refine sumsAfter okProgT hn hm hBd hL hR (fun hbad wl' hL' hK => ?_) (fun κ h1 h2 h3 hb hw0 hw h4 tn h5 htn C' b₁ sa st wl' hL' hK h6 _ _ h7 => ?_)
  · obtain ⟨rfl, rfl⟩ := Sd.one (.inl ⟨hbad, rfl, rfl⟩) hD
    exact Can.mono (h C b o none 0 wl' hL' hK (.inl rfl)) (AloneB.mono (by omega))
  · have hv : (vK q f t && vT J && vA n) = true := by
      have a1 : vK q f t = true := vK_true (by omega) (by omega) (by omega) (by omega) (by rw [h1]; cases κ.rule <;> simp [Rule.text])
      have a3 : vA n = true := by unfold vA; simp only [Bool.and_eq_true, decide_eq_true_eq]; omega
      rw [a1, h4, a3]; rfl
    obtain ⟨rfl, rfl⟩ := Sd.one (.inr ⟨κ, tn, h1, h2, h3, h5, hv, rfl, rfl⟩) hD
    have := h C' b₁ 5 (some ⟨sa, 0, none⟩) J.length wl' hL' hK (nums_ints (w := wl') (x := sa) h7)
    simpa using this
theorem spec15 {ta' : Option Addr} {tc' : Nat} {w : World} (hn : J.length ≤ 1048576) (hm : ∀ l ∈ J, l.length ≤ 1048576) (hR : RowsAt w ta' J) (hD : Sd q f t n J g R) :
    Calls Try.prog 15 #[.agg #[.string ⟨q.toArray⟩, .int .i64 f, .int .i64 t], .slice ta' J.length tc', .int .i64 n] w fun e w' => ∃ (a : Option Addr) (c : Nat), e = .returned (.tuple #[.slice a R.length c, .bool g]) ∧ RowKit.Hid (IntsAt w' a R ∧ Below w.heap.size w w') :=
  (specSums_any hn hm hR).mono fun e w' ⟨hb, hs⟩ => by
    rcases hs with ⟨hvv, a, rfl⟩ | ⟨κ, tn, sa, h1, h2, h3, h4, h5, rfl, h7, h8⟩
    · obtain ⟨rfl, rfl⟩ := Sd.one (.inl ⟨hvv, rfl, rfl⟩) hD
      exact ⟨some a, 0, rfl, .inl rfl, hb⟩
    · obtain ⟨rfl, rfl⟩ := Sd.one (.inr ⟨κ, tn, h1, h2, h3, h4, h5, rfl, rfl⟩) hD
      exact ⟨some ⟨sa, 0, none⟩, J.length, by simp, nums_ints h7, hb⟩
end
end Go.Town.Kp
