/-
  The reference's run, as a whole.
  The reference's SumsAfter.
  The law FnExactSumsAfter: which functions keep to themselves.
  markIntS and heldIntS of any slice; the end of the law.
  What the law FnExactRunKeeper asks of two answers: are they alike, mark them, are they still marked.
-/
import Derived.Test.YtihmcigoofhpmaaUbj
import Derived.Test.YtihmcigoofhpmaaUbl
set_option linter.all false
namespace Go.Town.Kp
open Go Go.Conc Go.Conc.Lib Go.ConcR.Gen Go.RowKit Go.Town Go.Proofs
open Go.ConcN (upd upd_ne upd_same)
def RunPost (κ : Kr) (J : List (List Int)) (tn : Nat) (w : World) (e : Ending) (w' : World) : Prop :=
  ∃ (sa st : Nat) (fa : Option Addr) (fl fc : Nat), e = .returned (.tuple #[ROOM κ sa st J.length (.slice fa fl fc) (endText (runT κ J tn 0 St.zero).1.over), .int .i64 ((runT κ J tn 0 St.zero).2 : Nat)]) ∧ NumsAt w' sa (runT κ J tn 0 St.zero).1.sum J.length ∧ NumsAt w' st (runT κ J tn 0 St.zero).1.starts J.length ∧ Below w.heap.size w w' ∧ w.heap.size ≤ sa ∧ w.heap.size ≤ st ∧ sa ≠ st
set_option maxRecDepth 100000 in
set_option maxHeartbeats 8000000 in
theorem l9Run_any {κ : Kr} {J : List (List Int)} {ta : Option Addr} {tc tn : Nat} {w : World} (hJ : TasksIn J) (hn4 : J.length ≤ 4) (hn1 : 0 < J.length) (hlen : ∀ l ∈ J, l.length ≤ 1048576) (htn : tn ≤ 20) (hw0 : 0 < κ.win) (hw : κ.win ≤ 20) (hR : RowsAt w ta J) :
    Calls Try.prog 39 #[.agg #[.string κ.rule.text, .int .i64 (κ.bear : Nat), .int .i64 (κ.win : Nat)], .slice ta J.length tc, .int .i64 (tn : Nat)] w (RunPost κ J tn w) := by
  go_enter Try.func39, Try.ntmps39
  refine (show Code.wp Try.prog body39 _ _ _ from ?_)
  rw [body39_eq]
  obtain ⟨Q, hQ⟩ : ∃ Q, Eqd Q (bodyPost Try.prog Try.f39 (RunPost κ J tn w)) := ⟨_, ⟨rfl⟩⟩
  rw [← hQ.out]
  simp only [headC, tailC, body39, Try.f39, Option.getD_some]
  go_wp2
  obtain ⟨W, hWe⟩ : ∃ W, Hid (W = (w.alloc (.cells #[.string κ.rule.text, .int .i64 (κ.bear : Nat), .int .i64 (κ.win : Nat)] 24)).alloc (.cells #[.string ⟨#[]⟩, .int .i64 0, .int .i64 0, .slice none 0 0, .slice none 0 0, .slice none 0 0, .string ⟨#[]⟩] 61)) := ⟨_, ⟨rfl⟩⟩
  rw [← hWe.out]
  have hWk : BoxAt w.heap.size κ W := by rw [hWe.out]; exact ⟨cell_alloc (cell_new rfl), cell_alloc (cell_new rfl), cell_alloc (cell_new rfl)⟩
  have hWs : W.heap.size = w.heap.size + 2 := by rw [hWe.out, World.size_alloc, World.size_alloc]
  have hWr : W.heap[w.heap.size + 1]? = some (.cells #[.string ⟨#[]⟩, .int .i64 0, .int .i64 0, .slice none 0 0, .slice none 0 0, .slice none 0 0, .string ⟨#[]⟩] 61) := by
    have e : ∀ o, (w.alloc o).heap.size = w.heap.size + 1 := fun o => World.size_alloc ..
    rw [hWe.out, ← e]; exact alloc_self _ _
  have hWb : Below w.heap.size w W := by rw [hWe.out]; exact ((Below.refl _ w).alloc (Nat.le_refl _) _).alloc (by simp) _
  refine run_mem hn4 (fun c a o v w h => by
    have h' : Q (.panic c) (a.put o v) w := h
    show Q (.panic c) a w
    rw [hQ.out] at h' ⊢
    cases o <;> exact h') hWk ?_
  intro sa st fa₀ bx w3 hM
  obtain ⟨base, hbase⟩ : ∃ b : Nat, Hid (b = w.heap.size) := ⟨_, ⟨rfl⟩⟩
  obtain ⟨rb, hrb⟩ : ∃ b : Nat, Hid (b = w.heap.size + 1) := ⟨_, ⟨rfl⟩⟩
  have q1 := hbase.out
  have q2 := hrb.out
  obtain ⟨m1, m2, m3, m4⟩ := hM.l1
  obtain ⟨n1, n2, n3, n4, n5, n6⟩ := hM.ne
  have X : Rx base rb bx sa st := ⟨by omega, by omega, by omega, by omega, n1, Ne.symm n3, Ne.symm n5, by omega, by omega, by omega⟩
  have hB3 : Below base w w3 := by rw [q1]; exact hWb.trans (hM.below.mono (by omega))
  have lbx : bx < w3.heap.size := (Array.getElem?_eq_some_iff.1 hM.hbx).1
  have hs3 := hM.below.size
  have R₀ : Rn κ base rb bx sa st J.length (some ⟨fa₀, 0, none⟩) [] 0 ⟨#[]⟩ St.zero w w3 := by
    refine ⟨⟨rfl, .inr ⟨fa₀, 0, #[], rfl, by omega, hM.hfa, Nat.le_refl _, Nat.zero_le _, rfl, rfl⟩⟩, by simp [Value.ownBlock]; omega, by simp [Value.ownBlock]; omega, by simp [Value.ownBlock]; omega, by simp [Value.ownBlock]; omega, fun i hi => cell_of_block hM.hsa (by simp [St.zero, hi]), fun i hi => cell_of_block hM.hst (by simp [St.zero, hi]), reads_block (t := 61) hM.hbx, reads_block (t := 61) (by rw [hM.below.block _ (by omega), q2]; exact hWr), hB3, ?_⟩
    funext t; simp [St.zero, cntF]
  have hRows : ∀ w', Below base w w' → RowsIn base w' ta J := fun w' hb => by
    have := RowsIn.kept (B' := base) hR (w' := w') (fun x j v hx hv => (hb.cell (p := ⟨x, j, none⟩) (by show x < base; omega)).trans hv) (by omega)
    exact this
  have hrb3 : rb < w3.heap.size := by omega
  have hbw3 : base ≤ w3.heap.size := by omega
  rw [← q2]
  have hfin : Hid _ := ⟨q1⟩
  have hsz0 : Hid (W.heap.size = base + 2) := ⟨by omega⟩
  clear q1 q2 m1 m2 m3 m4 n1 n2 n3 n4 n5 n6 hM hWr hWs hWb hWk hs3 hB3
  replace hR : Hid _ := ⟨hR⟩
  have hd2 : Hid _ := ⟨hJ⟩
  have hd3 : Hid _ := ⟨hlen⟩
  have hd4 : Hid _ := ⟨hRows⟩
  clear hJ hlen hRows
  obtain ⟨kb, hkb⟩ : ∃ b : Nat, Hid (b = w.heap.size) := ⟨_, ⟨rfl⟩⟩
  rw [← hkb.out]
  go_wp2
  go_loopw [7, 9] (fun r v wr => ∃ (t : Nat) (fa : Option Addr) (F : List Nat) (fc : Nat) (s : St), t ≤ tn ∧ r = .int .i64 0 ∧ v = .int .i64 t ∧ Rn κ base rb bx sa st J.length fa F fc ⟨#[]⟩ s w wr ∧ Hid (runT κ J tn 0 St.zero = runT κ J (tn - t) t s) ∧ Hid (s.over = false) ∧ Small (t * J.length) s ∧ (∀ f ∈ F, f ≤ t) ∧ F.length ≤ t * J.length ∧ w3.heap.size ≤ wr.heap.size) (fun _ v _ => tn - (intOf v).toNat)
  case atStart => exact ⟨0, _, [], 0, St.zero, Nat.zero_le _, rfl, rfl, R₀, ⟨rfl⟩, ⟨rfl⟩, Small.zero.mono (by omega), (fun f hf => by cases hf), by simp, Nat.le_refl _⟩
  case round =>
    obtain ⟨t, fa, F, fc, s, ht, rfl, rfl, R, hT, ho, hs, hFt, hFn, hsz⟩ := hrel
    have htm : t * J.length ≤ 20 * 4 := Nat.mul_le_mul (by omega) hn4
    by_cases hlt : t < tn
    · have hlt' : (t : Int) < (tn : Int) := by omega
      have hrun : Hid (runT κ J (tn - t) t s = if (tickW κ J t s).over then (tickW κ J t s, t) else runT κ J (tn - (t + 1)) (t + 1) (tickW κ J t s)) := ⟨by
        rw [show tn - t = (tn - (t + 1)) + 1 by omega]
        conv => lhs; unfold runT⟩
      have hs2 : Small ((t + 1) * J.length) (tickW κ J t s) := by
        have := Small.workers (k := κ) hd2.out t J.length 0 _ s hs
        rw [Nat.add_mul, Nat.one_mul]; exact this
      have hmul : (t + 1) * J.length = t * J.length + J.length := by rw [Nat.add_mul, Nat.one_mul]
      replace hmul : Hid _ := ⟨hmul⟩
      go_wp2
      refine run_workers (w0 := w) X hd2.out hn4 hd3.out (by omega) hw0 hw ho.out hs (by omega) hFt (by omega) (by omega) (by omega) (by omega) hd4.out R ?_ ?_
      · intro hov y10 y25 y26 y27 y28 y29 y30 y31 y32 y33 y34 y35 y36 y37 y38 y39 y40 y41 y42 y43 y44 y45 y46 y47 y48 y49 y50 y51 y52 y53 fa' F' fc' w' R' hF' hFl' hsz'
        have hT2 : Hid (runT κ J tn 0 St.zero = runT κ J (tn - (t + 1)) (t + 1) (tickW κ J t s)) := ⟨by rw [hT.out, hrun.out, hov]; simp⟩
        replace hov : Hid _ := ⟨hov⟩
        clear hT hrun
        go_wp2
        go_roundw
        case rel => exact ⟨t + 1, fa', F', fc', tickW κ J t s, by omega, rfl, by go_num, R', hT2, hov, hs2, (fun f hf => by have := hF' f hf; omega), by rw [hmul.out]; omega, by omega⟩
        case measure => simp [intOf]; omega
      · intro hov y10 y25 y26 y27 y28 y29 y30 y31 y32 y33 y34 y35 y36 y37 y38 y39 y40 y41 y42 y43 y44 y45 y46 y47 y48 y49 y50 y51 y52 y53 fa' F' fc' w' R'
        have hT2 : runT κ J tn 0 St.zero = (tickW κ J t s, t) := by rw [hT.out, hrun.out, hov]; simp
        show Q .ret _ _
        rw [hQ.out]
        have NS1 := R'.s1
        have NS2 := R'.s2
        have NB := R'.below
        have hsw := R'.below.size
        have hq1 := hfin.out
        have s7 := set7_cells (w := w') (rx := rb) (fun j hj => R'.res.ex (by simpa using hj)) (.string κ.rule.text) (.int .i64 (κ.bear : Nat)) (.int .i64 (κ.win : Nat)) (.slice (some ⟨sa, 0, none⟩) J.length J.length) (.slice (some ⟨st, 0, none⟩) J.length J.length) (.slice fa' F'.length fc') (.string ⟨#[103, 105, 118, 101, 110, 32, 117, 112]⟩)
        have g1 : NumsAt (Go.Town.Kp.set7 w' rb (.string κ.rule.text) (.int .i64 (κ.bear : Nat)) (.int .i64 (κ.win : Nat)) (.slice (some ⟨sa, 0, none⟩) J.length J.length) (.slice (some ⟨st, 0, none⟩) J.length J.length) (.slice fa' F'.length fc') (.string ⟨#[103, 105, 118, 101, 110, 32, 117, 112]⟩)) sa _ J.length := NS1.other7 X.d4 _ _ _ _ _ _ _
        have g2 : NumsAt (Go.Town.Kp.set7 w' rb (.string κ.rule.text) (.int .i64 (κ.bear : Nat)) (.int .i64 (κ.win : Nat)) (.slice (some ⟨sa, 0, none⟩) J.length J.length) (.slice (some ⟨st, 0, none⟩) J.length J.length) (.slice fa' F'.length fc') (.string ⟨#[103, 105, 118, 101, 110, 32, 117, 112]⟩)) st _ J.length := NS2.other7 X.d5 _ _ _ _ _ _ _
        have g3 : Below base w (Go.Town.Kp.set7 w' rb (.string κ.rule.text) (.int .i64 (κ.bear : Nat)) (.int .i64 (κ.win : Nat)) (.slice (some ⟨sa, 0, none⟩) J.length J.length) (.slice (some ⟨st, 0, none⟩) J.length J.length) (.slice fa' F'.length fc') (.string ⟨#[103, 105, 118, 101, 110, 32, 117, 112]⟩)) := NB.grown (grownBy_set7 _ _ _ _ _ _ _ _ _) (by omega) (fun q hq => by cases hq; exact X.b1)
        refine (show bodyPost Try.prog Try.f39 _ .ret _ (Go.Town.Kp.set7 w' rb (.string κ.rule.text) (.int .i64 (κ.bear : Nat)) (.int .i64 (κ.win : Nat)) (.slice (some ⟨sa, 0, none⟩) J.length J.length) (.slice (some ⟨st, 0, none⟩) J.length J.length) (.slice fa' F'.length fc') (.string ⟨#[103, 105, 118, 101, 110, 32, 117, 112]⟩)) from ?_)
        generalize Go.Town.Kp.set7 w' rb (.string κ.rule.text) (.int .i64 (κ.bear : Nat)) (.int .i64 (κ.win : Nat)) (.slice (some ⟨sa, 0, none⟩) J.length J.length) (.slice (some ⟨st, 0, none⟩) J.length J.length) (.slice fa' F'.length fc') (.string ⟨#[103, 105, 118, 101, 110, 32, 117, 112]⟩) = w5 at *
        obtain ⟨t0, t1, t2, t3, t4, t5, t6⟩ := s7
        refine bodyPost_ret (v := .tuple #[ROOM κ sa st J.length (.slice fa' F'.length fc') ⟨#[103, 105, 118, 101, 110, 32, 117, 112]⟩, .int .i64 (t : Nat)]) (by simp [results, Try.results39, go_sem, ROOM, t0, t1, t2, t3, t4, t5, t6]) rfl ?_
        refine ⟨sa, st, fa', F'.length, fc', ?_, by rw [hT2]; exact g1, by rw [hT2]; exact g2, by rw [← hfin.out]; exact g3, by have := X.b3; have := hfin.out; omega, by have := X.b4; have := hfin.out; omega, X.d1⟩
        rw [hT2]
        simp only [hov]
        rfl
    · obtain rfl : t = tn := by omega
      have hT2 : runT κ J t 0 St.zero = (s, t) := by rw [hT.out, Nat.sub_self]; rfl
      replace hT2 : Hid _ := ⟨hT2⟩
      have x0 : wr.cell? ⟨bx, 0, none⟩ = some (.string κ.rule.text) := (R.box 0 (by simp)).1
      have fx0 : wr.frozen? ⟨bx, 0, none⟩ = false := (R.box 0 (by simp)).2
      have x1 : wr.cell? ⟨bx, 1, none⟩ = some (.int .i64 (κ.bear : Nat)) := (R.box 1 (by simp)).1
      have fx1 : wr.frozen? ⟨bx, 1, none⟩ = false := (R.box 1 (by simp)).2
      have x2 : wr.cell? ⟨bx, 2, none⟩ = some (.int .i64 (κ.win : Nat)) := (R.box 2 (by simp)).1
      have fx2 : wr.frozen? ⟨bx, 2, none⟩ = false := (R.box 2 (by simp)).2
      have x3 : wr.cell? ⟨bx, 3, none⟩ = some (.slice (some ⟨sa, 0, none⟩) J.length J.length) := (R.box 3 (by simp)).1
      have fx3 : wr.frozen? ⟨bx, 3, none⟩ = false := (R.box 3 (by simp)).2
      have x4 : wr.cell? ⟨bx, 4, none⟩ = some (.slice (some ⟨st, 0, none⟩) J.length J.length) := (R.box 4 (by simp)).1
      have fx4 : wr.frozen? ⟨bx, 4, none⟩ = false := (R.box 4 (by simp)).2
      have x5 : wr.cell? ⟨bx, 5, none⟩ = some (.slice fa F.length fc) := (R.box 5 (by simp)).1
      have fx5 : wr.frozen? ⟨bx, 5, none⟩ = false := (R.box 5 (by simp)).2
      have x6 : wr.cell? ⟨bx, 6, none⟩ = some (.string ⟨#[]⟩) := (R.box 6 (by simp)).1
      have fx6 : wr.frozen? ⟨bx, 6, none⟩ = false := (R.box 6 (by simp)).2
      have y0 : wr.cell? ⟨rb, 0, none⟩ = some (.string ⟨#[]⟩) := (R.res 0 (by simp)).1
      have fy0 : wr.frozen? ⟨rb, 0, none⟩ = false := (R.res 0 (by simp)).2
      have y1 : wr.cell? ⟨rb, 1, none⟩ = some (.int .i64 0) := (R.res 1 (by simp)).1
      have fy1 : wr.frozen? ⟨rb, 1, none⟩ = false := (R.res 1 (by simp)).2
      have y2 : wr.cell? ⟨rb, 2, none⟩ = some (.int .i64 0) := (R.res 2 (by simp)).1
      have fy2 : wr.frozen? ⟨rb, 2, none⟩ = false := (R.res 2 (by simp)).2
      have y3 : wr.cell? ⟨rb, 3, none⟩ = some (.slice none 0 0) := (R.res 3 (by simp)).1
      have fy3 : wr.frozen? ⟨rb, 3, none⟩ = false := (R.res 3 (by simp)).2
      have y4 : wr.cell? ⟨rb, 4, none⟩ = some (.slice none 0 0) := (R.res 4 (by simp)).1
      have fy4 : wr.frozen? ⟨rb, 4, none⟩ = false := (R.res 4 (by simp)).2
      have y5 : wr.cell? ⟨rb, 5, none⟩ = some (.slice none 0 0) := (R.res 5 (by simp)).1
      have fy5 : wr.frozen? ⟨rb, 5, none⟩ = false := (R.res 5 (by simp)).2
      have y6 : wr.cell? ⟨rb, 6, none⟩ = some (.string ⟨#[]⟩) := (R.res 6 (by simp)).1
      have fy6 : wr.frozen? ⟨rb, 6, none⟩ = false := (R.res 6 (by simp)).2
      have hne : bx ≠ rb ∧ rb ≠ bx := ⟨Ne.symm X.d6, X.d6⟩
      replace R : Hid _ := ⟨R⟩
      clear hT
      go_wp2
      show Q .ret _ _
      rw [hQ.out]
      replace hT2 := hT2.out
      have NS1 : NumsAt (wr.setCell ⟨bx, 6, none⟩ (.string ⟨#[100, 111, 110, 101]⟩)) sa s.sum J.length := R.out.s1.other _ X.d2
      have NS2 : NumsAt (wr.setCell ⟨bx, 6, none⟩ (.string ⟨#[100, 111, 110, 101]⟩)) st s.starts J.length := R.out.s2.other _ X.d3
      have NB : Below base w (wr.setCell ⟨bx, 6, none⟩ (.string ⟨#[100, 111, 110, 101]⟩)) := R.out.below.setCell (p := ⟨bx, 6, none⟩) X.b2 _
      have hsw := R.out.below.size
      have hq1 := hfin.out
      have hex : ∀ j, j < 7 → ∃ v, (wr.setCell ⟨bx, 6, none⟩ (.string ⟨#[100, 111, 110, 101]⟩)).cell? ⟨rb, j, none⟩ = some v := fun j hj => by
        rw [cell_setCell_ne _ _ (.inl hne.1)]
        exact R.out.res.ex (by simpa using hj)
      have hov := ho.out
      have hsz6 : (wr.setCell ⟨bx, 6, none⟩ (.string ⟨#[100, 111, 110, 101]⟩)).heap.size = wr.heap.size := by simp [World.setCell]
      have s7 := set7_cells (w := (wr.setCell ⟨bx, 6, none⟩ (.string ⟨#[100, 111, 110, 101]⟩))) (rx := rb) (fun j hj => hex j hj) (.string κ.rule.text) (.int .i64 (κ.bear : Nat)) (.int .i64 (κ.win : Nat)) (.slice (some ⟨sa, 0, none⟩) J.length J.length) (.slice (some ⟨st, 0, none⟩) J.length J.length) (.slice fa F.length fc) (.string ⟨#[100, 111, 110, 101]⟩)
      have g1 : NumsAt (Go.Town.Kp.set7 (wr.setCell ⟨bx, 6, none⟩ (.string ⟨#[100, 111, 110, 101]⟩)) rb (.string κ.rule.text) (.int .i64 (κ.bear : Nat)) (.int .i64 (κ.win : Nat)) (.slice (some ⟨sa, 0, none⟩) J.length J.length) (.slice (some ⟨st, 0, none⟩) J.length J.length) (.slice fa F.length fc) (.string ⟨#[100, 111, 110, 101]⟩)) sa _ J.length := NS1.other7 X.d4 _ _ _ _ _ _ _
      have g2 : NumsAt (Go.Town.Kp.set7 (wr.setCell ⟨bx, 6, none⟩ (.string ⟨#[100, 111, 110, 101]⟩)) rb (.string κ.rule.text) (.int .i64 (κ.bear : Nat)) (.int .i64 (κ.win : Nat)) (.slice (some ⟨sa, 0, none⟩) J.length J.length) (.slice (some ⟨st, 0, none⟩) J.length J.length) (.slice fa F.length fc) (.string ⟨#[100, 111, 110, 101]⟩)) st _ J.length := NS2.other7 X.d5 _ _ _ _ _ _ _
      have g3 : Below base w (Go.Town.Kp.set7 (wr.setCell ⟨bx, 6, none⟩ (.string ⟨#[100, 111, 110, 101]⟩)) rb (.string κ.rule.text) (.int .i64 (κ.bear : Nat)) (.int .i64 (κ.win : Nat)) (.slice (some ⟨sa, 0, none⟩) J.length J.length) (.slice (some ⟨st, 0, none⟩) J.length J.length) (.slice fa F.length fc) (.string ⟨#[100, 111, 110, 101]⟩)) := NB.grown (grownBy_set7 _ _ _ _ _ _ _ _ _) (by omega) (fun q hq => by cases hq; exact X.b1)
      refine (show bodyPost Try.prog Try.f39 _ .ret _ (Go.Town.Kp.set7 (wr.setCell ⟨bx, 6, none⟩ (.string ⟨#[100, 111, 110, 101]⟩)) rb (.string κ.rule.text) (.int .i64 (κ.bear : Nat)) (.int .i64 (κ.win : Nat)) (.slice (some ⟨sa, 0, none⟩) J.length J.length) (.slice (some ⟨st, 0, none⟩) J.length J.length) (.slice fa F.length fc) (.string ⟨#[100, 111, 110, 101]⟩)) from ?_)
      generalize Go.Town.Kp.set7 (wr.setCell ⟨bx, 6, none⟩ (.string ⟨#[100, 111, 110, 101]⟩)) rb (.string κ.rule.text) (.int .i64 (κ.bear : Nat)) (.int .i64 (κ.win : Nat)) (.slice (some ⟨sa, 0, none⟩) J.length J.length) (.slice (some ⟨st, 0, none⟩) J.length J.length) (.slice fa F.length fc) (.string ⟨#[100, 111, 110, 101]⟩) = w5 at *
      obtain ⟨t0, t1, t2, t3, t4, t5, t6⟩ := s7
      refine bodyPost_ret (v := .tuple #[ROOM κ sa st J.length (.slice fa F.length fc) ⟨#[100, 111, 110, 101]⟩, .int .i64 (t : Nat)]) (by simp [results, Try.results39, go_sem, ROOM, t0, t1, t2, t3, t4, t5, t6]) rfl ?_
      refine ⟨sa, st, fa, F.length, fc, ?_, by rw [hT2]; exact g1, by rw [hT2]; exact g2, by rw [← hfin.out]; exact g3, by have := X.b3; have := hfin.out; omega, by have := X.b4; have := hfin.out; omega, X.d1⟩
      rw [hT2]
      simp only [hov]
      rfl
end Go.Town.Kp
namespace Go.Town.Kp
open Go Go.Conc Go.Conc.Lib Go.ConcR.Gen Go.RowKit Go.Town Go.Proofs
open Go.ConcN (upd upd_ne upd_same)
def SumsPost (l : List UInt8) (f t n : Int) (J : List (List Int)) (w : World) (e : Ending) (w' : World) : Prop :=
  Below w.heap.size w w' ∧ (((vK l f t && vT J && vA n) = false ∧ ∃ a, e = .returned (.tuple #[.slice (some a) 0 0, .bool false])) ∨
    ∃ (κ : Kr) (tn sa : Nat), l = κ.rule.text.data.toList ∧ f = (κ.bear : Nat) ∧ t = (κ.win : Nat) ∧ n = (tn : Nat) ∧ (vK l f t && vT J && vA n) = true ∧ e = .returned (.tuple #[.slice (some ⟨sa, 0, none⟩) J.length J.length, .bool true]) ∧ NumsAt w' sa (runT κ J tn 0 St.zero).1.sum J.length ∧ w.heap.size ≤ sa)
set_option maxRecDepth 100000 in
set_option maxHeartbeats 4000000 in
theorem specSums_any {l : List UInt8} {f t n : Int} {J : List (List Int)} {ta : Option Addr} {tc : Nat} {w : World} (hn : J.length ≤ 1048576) (hm : ∀ l ∈ J, l.length ≤ 1048576) (hR : RowsAt w ta J) :
    Calls Try.prog 15 #[.agg #[.string ⟨l.toArray⟩, .int .i64 f, .int .i64 t], .slice ta J.length tc, .int .i64 n] w (SumsPost l f t n J w) := by
  have c26 : Hid (∀ w, Calls Try.prog 26 #[.agg #[.string ⟨l.toArray⟩, .int .i64 f, .int .i64 t]] w fun e w' => e = .returned (.bool (vK l f t)) ∧ Below w.heap.size w w') := ⟨fun w => specKeeperValid_any l f t w⟩
  have c38 : Hid (∀ w', Below w.heap.size w w' → Calls Try.prog 38 #[.slice ta J.length tc] w' fun e w'' => e = .returned (.bool (vT J)) ∧ w' = w'') := ⟨fun w' hb => specTasksValid_any ta tc J w' hn hm (hR.below hb (Nat.le_refl _))⟩
  have c43 : Hid (∀ w, Calls Try.prog 43 #[.int .i64 n, .int .i64 0, .int .i64 20] w fun e w' => e = .returned (.bool (vA n)) ∧ w = w') := ⟨fun w => l1In_any n 0 20 w⟩
  have hB1 : ∀ o, Below w.heap.size w (w.alloc o) := fun o => (Below.refl _ _).alloc (Nat.le_refl _) _
  cases hk : vK l f t with
  | false =>
    rw [hk] at c26
    have hall : Hid ((vK l f t && vT J && vA n) = false) := ⟨by rw [hk]; rfl⟩
    clear hk
    go_enter Try.func15, Try.ntmps15
    go_wp2_with (go_at_call 26; (with_reducible refine (c26.out _).mono ?_); rintro e w' ⟨rfl, hb⟩)
    refine bodyPost_ret (v := .tuple #[.slice (some ⟨w'.heap.size, 0, none⟩) 0 0, .bool false]) (by simp [results, Try.results15, go_sem]) rfl ?_
    have hb2 := (hB1 (.cells #[.string ⟨l.toArray⟩, .int .i64 f, .int .i64 t] 24)).trans (hb.mono (by simp))
    exact ⟨hb2.alloc hb2.size _, .inl ⟨hall.out, _, rfl⟩⟩
  | true =>
    rw [hk] at c26
    cases hv : vT J with
    | false =>
      rw [hv] at c38
      have hall : Hid ((vK l f t && vT J && vA n) = false) := ⟨by rw [hk, hv]; rfl⟩
      clear hk hv
      go_enter Try.func15, Try.ntmps15
      go_wp2_with (go_at_call 26; (with_reducible refine (c26.out _).mono ?_); rintro e w' ⟨rfl, hb⟩)
      have hb2 := (hB1 (.cells #[.string ⟨l.toArray⟩, .int .i64 f, .int .i64 t] 24)).trans (hb.mono (by simp))
      refine (c38.out _ hb2).mono ?_
      rintro e w'' ⟨rfl, rfl⟩
      go_wp2
      refine bodyPost_ret (v := .tuple #[.slice (some ⟨w'.heap.size, 0, none⟩) 0 0, .bool false]) (by simp [results, Try.results15, go_sem]) rfl ?_
      exact ⟨hb2.alloc hb2.size _, .inl ⟨hall.out, _, rfl⟩⟩
    | true =>
      rw [hv] at c38
      cases ha : vA n with
      | false =>
        rw [ha] at c43
        have hall : Hid ((vK l f t && vT J && vA n) = false) := ⟨by rw [hk, hv, ha]; rfl⟩
        clear hk hv ha
        go_enter Try.func15, Try.ntmps15
        go_wp2_with (go_at_call 26; (with_reducible refine (c26.out _).mono ?_); rintro e w' ⟨rfl, hb⟩)
        have hb2 := (hB1 (.cells #[.string ⟨l.toArray⟩, .int .i64 f, .int .i64 t] 24)).trans (hb.mono (by simp))
        refine (c38.out _ hb2).mono ?_
        rintro e w'' ⟨rfl, rfl⟩
        go_wp2_with (go_at_call 43; (with_reducible refine (c43.out _).mono ?_); rintro e w'' ⟨rfl, rfl⟩)
        refine bodyPost_ret (v := .tuple #[.slice (some ⟨w'.heap.size, 0, none⟩) 0 0, .bool false]) (by simp [results, Try.results15, go_sem]) rfl ?_
        exact ⟨hb2.alloc hb2.size _, .inl ⟨hall.out, _, rfl⟩⟩
      | true =>
        rw [ha] at c43
        have hall : Hid ((vK l f t && vT J && vA n) = true) := ⟨by rw [hk, hv, ha]; rfl⟩
        obtain ⟨κ, rfl, rfl, rfl, k1, k2, k3⟩ := vK_spec hk
        obtain ⟨v1, v2, v3, v4⟩ := vT_spec hv
        obtain ⟨tn, rfl, htn⟩ : ∃ tn : Nat, n = (tn : Nat) ∧ tn ≤ 20 := by
          simp only [vA, Bool.and_eq_true, decide_eq_true_eq] at ha
          exact ⟨n.toNat, by omega, by omega⟩
        clear hk hv ha
        have c39 : Hid (∀ w', Below w.heap.size w w' → Calls Try.prog 39 #[.agg #[.string κ.rule.text, .int .i64 (κ.bear : Nat), .int .i64 (κ.win : Nat)], .slice ta J.length tc, .int .i64 (tn : Nat)] w' (RunPost κ J tn w')) := ⟨fun w' hb => l9Run_any v3 v2 v1 hm htn k2 k3 (hR.below hb (Nat.le_refl _))⟩
        simp only [text_list] at c26 ⊢
        have hl : Hid (κ.rule.text.data.toList = κ.rule.text.data.toList) := ⟨rfl⟩
        go_enter Try.func15, Try.ntmps15
        go_wp2_with (go_at_call 26; (with_reducible refine (c26.out _).mono ?_); rintro e w' ⟨rfl, hb⟩)
        have hb2 := (hB1 (.cells #[.string κ.rule.text, .int .i64 (κ.bear : Nat), .int .i64 (κ.win : Nat)] 24)).trans (hb.mono (by simp))
        refine (c38.out _ hb2).mono ?_
        rintro e w'' ⟨rfl, rfl⟩
        have k0 : w'.cell? ⟨w.heap.size, 0, none⟩ = some (.string κ.rule.text) := (hb.cell (p := ⟨w.heap.size, 0, none⟩) (by simp)).trans (cell_new rfl)
        have kk1 : w'.cell? ⟨w.heap.size, 1, none⟩ = some (.int .i64 (κ.bear : Nat)) := (hb.cell (p := ⟨w.heap.size, 1, none⟩) (by simp)).trans (cell_new rfl)
        have kk2 : w'.cell? ⟨w.heap.size, 2, none⟩ = some (.int .i64 (κ.win : Nat)) := (hb.cell (p := ⟨w.heap.size, 2, none⟩) (by simp)).trans (cell_new rfl)
        go_wp2_with (go_at_call 43; (with_reducible refine (c43.out _).mono ?_); rintro e w'' ⟨rfl, rfl⟩)
        refine (c39.out _ hb2).mono ?_
        rintro e w3 ⟨sa, st, fa, fl, fc, he, s1, s2, hb3, a1, a2, a3⟩
        have he : e = .returned (.tuple #[.agg #[.string κ.rule.text, .int .i64 (κ.bear : Nat), .int .i64 (κ.win : Nat), .slice (some ⟨sa, 0, none⟩) J.length J.length, .slice (some ⟨st, 0, none⟩) J.length J.length, .slice fa fl fc, .string (endText (runT κ J tn 0 St.zero).1.over)], .int .i64 ((runT κ J tn 0 St.zero).2 : Nat)]) := he
        subst he
        have hpost : Hid (NumsAt w3 sa (runT κ J tn 0 St.zero).1.sum J.length) := ⟨s1⟩
        clear s1 s2
        generalize endText (runT κ J tn 0 St.zero).1.over = E at *
        generalize (runT κ J tn 0 St.zero).2 = E2 at *
        go_wp2
        have hb4 := hb2.trans (hb3.mono hb2.size)
        have hz := hb2.size
        refine bodyPost_ret (v := .tuple #[.slice (some ⟨sa, 0, none⟩) J.length J.length, .bool true]) (by simp [results, Try.results15, go_sem]) rfl ?_
        exact ⟨hb4.alloc hb4.size _, .inr ⟨κ, tn, sa, rfl, rfl, rfl, rfl, hall.out, rfl, hpost.out.alloc _, by omega⟩⟩
end Go.Town.Kp
namespace Go.Town.Kp
open Go Go.Conc Go.Conc.Lib Go.ConcR.Gen Go.RowKit Go.Town Go.Proofs
noncomputable def okBody (ok : FuncId → Bool) (f : FuncId) : Bool := match Try.prog.funcs[f]? with
  | some fn => (match fn.body with | some c => okCode Try.prog ok c | none => true)
  | none => true
theorem okProg_of {ok : FuncId → Bool} (l : List FuncId) (hl : ∀ f, ok f = true → f ∈ l) (h : ∀ f ∈ l, okBody ok f = true) : OkProg Try.prog ok := by
  intro f fn hf hfn c hc
  have := h f (hl f hf)
  unfold okBody at this
  rw [hfn] at this
  simp only [hc] at this
  exact this
def listT : List FuncId := [25, 35, 37, 46]
def listL : List FuncId := [25, 35, 37, 46, 15, 16, 17, 44, 18, 19, 45, 20, 21, 22, 23, 24, 26, 38, 43, 39, 40, 52, 66, 67]
def okL (f : FuncId) : Bool := listL.contains f
theorem okProgT : OkProg Try.prog okT := okProg_of listT (fun f h => by simpa [okT, listT] using h) (List.all_eq_true.1 (show (listT.all (okBody okT)) = true by kernel_rfl))
theorem okProgL : OkProg Try.prog okL := okProg_of listL (fun f h => by unfold okL at h; simpa using h) (List.all_eq_true.1 (show (listL.all (okBody okL)) = true by kernel_rfl))
noncomputable def body6 : Code := Try.f6.body.getD .skip
example : okCode Try.prog okL (headC 0 body6) = true := by kernel_rfl
example : okCode Try.prog okL (headC 6 body6) = true := by kernel_rfl
end Go.Town.Kp
namespace Go.Town.Kp
open Go Go.Conc Go.Conc.Lib Go.ConcR.Gen Go.RowKit Go.Town Go.Proofs
open Go.ConcN (upd upd_ne upd_same)
def FreeS (w : World) (a : Option Addr) (n : Nat) : Prop := n = 0 ∨ ∃ g, a = some ⟨g, 0, none⟩ ∧ Free1 w g n
def CountS (w : World) (a : Option Addr) (m : Int) (n : Nat) : Prop := n = 0 ∨ ∃ g, a = some ⟨g, 0, none⟩ ∧ Counts w g m n
structure OnlyS (a : Option Addr) (w w' : World) : Prop where
  os : w'.os = w.os
  tape : w'.tape = w.tape
  output : w'.output = w.output
  size : w'.heap.size = w.heap.size
  block : ∀ r : Nat, (∀ g, a = some ⟨g, 0, none⟩ → r ≠ g) → w'.heap[r]? = w.heap[r]?
theorem OnlyS.refl (a : Option Addr) (w : World) : OnlyS a w w := ⟨rfl, rfl, rfl, rfl, fun _ _ => rfl⟩
set_option maxRecDepth 100000 in
set_option maxHeartbeats 400000 in
theorem markIntS_opt (a : Option Addr) (n c : Nat) (m : Int) (w : World) (hn : n ≤ 1048576) (h0 : 0 ≤ m) (h1 : m ≤ 1152921504606846976) (hf : FreeS w a n) :
    Calls Try.prog 23 #[.slice a n c, .int .i64 m] w fun e w' => e = .returned (.int .i64 (m + n)) ∧ CountS w' a m n ∧ OnlyS a w w' := by
  rcases hf with rfl | ⟨g, rfl, hf⟩
  · go_enter Try.func23, Try.ntmps23
    go_wp2
    go_loopw [1, 5] (fun r i wr => r = .int .i64 m ∧ i = .int .i64 0 ∧ w = wr) (fun _ _ _ => 0)
    case atStart => exact ⟨rfl, rfl, rfl⟩
    case round =>
      obtain ⟨rfl, rfl, rfl⟩ := hrel
      go_wp2
      go_ret
      exact ⟨by simp, .inl rfl, OnlyS.refl _ _⟩
  · exact (markIntS_any g n c m w hn h0 h1 hf).mono fun e w' ⟨he, h2, _, h3⟩ => ⟨he, .inr ⟨g, rfl, h2⟩, h3.os, h3.tape, h3.output, h3.size, fun r hr => h3.block r (hr g rfl) (hr g rfl)⟩
set_option maxRecDepth 100000 in
set_option maxHeartbeats 400000 in
theorem heldIntS_opt (a : Option Addr) (n c : Nat) (m : Int) (w : World) (hn : n ≤ 1048576) (h0 : 0 ≤ m) (h1 : m ≤ 1152921504606846976) (hA : CountS w a m n) :
    Calls Try.prog 24 #[.slice a n c, .int .i64 m] w fun e w' => e = .returned (.int .i64 (m + n)) ∧ w = w' := by
  rcases hA with rfl | ⟨g, rfl, hf⟩
  · go_enter Try.func24, Try.ntmps24
    go_wp2
    go_loop [1, 5] (fun r i => r = .int .i64 m ∧ i = .int .i64 0) (fun _ _ => 0)
    case atStart => exact ⟨rfl, rfl⟩
    case round =>
      obtain ⟨rfl, rfl⟩ := hrel
      go_wp2
      go_ret
      exact ⟨by simp, rfl⟩
  · exact heldIntS_any g n c m w hn h0 h1 hf
section
variable {C : Cfg} {b o Bd : Nat} {wl : World}
theorem end6 {tmps : Array Value} {todo : List Item} (hL : Lay C wl) (h6 : tmps[6]? = some (.bool true)) :
    Can Try.prog C b o (fun v _ => v = .bool true) 0 (AloneB Bd) wl (G { (base 6).at ⟨tmps, []⟩ todo with mode := .returning } []) := by
  refine Can.mono (Rs := Alone) (Can.ends (v := .bool true) hL rfl (fun w hw => ?_) (fun _ _ => rfl)) (fun _ _ _ h => h.1)
  have hr : (results Try.f6 tmps).runT Try.prog w #[] = (.ok (.bool true) w, #[]) := by
    simp [results, Try.results6, h6, Sem.runT]
  refine ⟨seen Try.prog 6 #[], ?_, ?_⟩
  · simp only [stepG, G, Frame.at, base, unwind, Try.func6]
    rw [hr]
    simp [doReturn, GStep.after, Result.setW]
  · intro e he; rw [seen_none] at he; simp at he
end
end Go.Town.Kp
namespace Go.Town.Kp
open Go Go.Conc Go.Conc.Lib Go.ConcR.Gen Go.RowKit Go.Town Go.Proofs
open Go.ConcN (upd upd_ne upd_same)
theorem IntsIn.low {w w' : World} {a : Option Addr} {zs : List Int} (h : IntsAt w a zs) (hb : Below w.heap.size w w') : IntsAt w' a zs :=
  IntsIn.kept h (fun x j v hx hv => (hb.cell (p := ⟨x, j, none⟩) hx).trans hv) hb.size
set_option maxRecDepth 100000 in
set_option maxHeartbeats 1000000 in
theorem eqKept_any {a1 a2 b1 b2 : Option Addr} {c1 c2 d1 d2 : Nat} {R1 R2 : List Int} {E : ByteArray} {A : Int} {w : World} (hn1 : R1.length ≤ 1048576) (hn2 : R2.length ≤ 1048576)
    (i1 : IntsAt w a1 R1) (i2 : IntsAt w a2 R2) (j1 : IntsAt w b1 R1) (j2 : IntsAt w b2 R2) :
    Calls Try.prog 29 #[.agg #[.slice a1 R1.length c1, .slice a2 R2.length c2, .string E, .int .i64 A], .agg #[.slice b1 R1.length d1, .slice b2 R2.length d2, .string E, .int .i64 A]] w fun e w' => e = .returned (.bool true) ∧ Below w.heap.size w w' := by
  have c20 : RowKit.Hid (∀ w' a b ca cb (zs : List Int), zs.length ≤ 1048576 → IntsAt w' a zs → IntsAt w' b zs → Calls Try.prog 20 #[.slice a zs.length ca, .slice b zs.length cb] w' fun e w'' => e = .returned (.bool true) ∧ ∃ m, w'' = w'.drewN m) := fun w' a b ca cb zs h1 h2 h3 => eqIntS_same a b ca cb zs w' h1 h2 h3
  have hB : ∀ o o', Below w.heap.size w ((w.alloc o).alloc o') := fun o o' => ((Below.refl _ _).alloc (Nat.le_refl _) _).alloc (by simp) _
  have k1 : RowKit.Hid (∀ o o', IntsAt ((w.alloc o).alloc o') a1 R1 ∧ IntsAt ((w.alloc o).alloc o') b1 R1) := fun o o' => ⟨IntsIn.low i1 (hB o o'), IntsIn.low j1 (hB o o')⟩
  have k2 : RowKit.Hid (∀ o o' m, IntsAt (((w.alloc o).alloc o').drewN m) a2 R2 ∧ IntsAt (((w.alloc o).alloc o').drewN m) b2 R2) := fun o o' m => ⟨IntsIn.same (IntsIn.low i2 (hB o o')) rfl, IntsIn.same (IntsIn.low j2 (hB o o')) rfl⟩
  have hB' : RowKit.Hid (∀ o o' m, Below w.heap.size w (((w.alloc o).alloc o').drewN m)) := fun o o' m => below_drewN (hB o o') m
  clear i1 i2 j1 j2 hB
  go_enter Try.func29, Try.ntmps29
  go_wp2_with (go_at_call 20; (with_reducible refine (c20.out _ _ _ _ _ R1 hn1 (k1.out _ _).1 (k1.out _ _).2).mono ?_); rintro e w' ⟨rfl, m, rfl⟩)
  go_wp2_with (go_at_call 20; (with_reducible refine (c20.out _ _ _ _ _ R2 hn2 (k2.out _ _ _).1 (k2.out _ _ _).2).mono ?_); rintro e w' ⟨rfl, m', rfl⟩)
  go_ret
  exact ⟨rfl, hB'.out _ _ _⟩
structure TwoS (a a' : Option Addr) (w w' : World) : Prop where
  size : w.heap.size ≤ w'.heap.size
  block : ∀ r : Nat, r < w.heap.size → (∀ g, a = some ⟨g, 0, none⟩ → r ≠ g) → (∀ g, a' = some ⟨g, 0, none⟩ → r ≠ g) → w'.heap[r]? = w.heap[r]?
theorem FreeS.kin {B m : Nat} {w w' : World} {a : Option Addr} (h : FreeS w a m) (K : Kin B w w') (hB : ∀ g, a = some ⟨g, 0, none⟩ → m = 0 ∨ g < B) : FreeS w' a m := by
  rcases h with h | ⟨x, rfl, hf⟩
  · exact .inl h
  · rcases hB x rfl with h | h
    · exact .inl h
    · exact .inr ⟨x, rfl, fun j hj => by
        obtain ⟨v, hv⟩ := (hf j hj).1
        exact ⟨⟨v, K.cells _ _ _ h hv⟩, K.thaw _ _ _ h hv (hf j hj).2⟩⟩
theorem FreeS.lt {m : Nat} {w : World} {a : Option Addr} (h : FreeS w a m) : ∀ g, a = some ⟨g, 0, none⟩ → m = 0 ∨ g < w.heap.size := by
  intro g e
  rcases h with h | ⟨x, rfl, hf⟩
  · exact .inl h
  · cases e
    by_cases h0 : m = 0
    · exact .inl h0
    · obtain ⟨v, hv⟩ := (hf 0 (by omega)).1
      exact .inr (block_lt hv)
theorem CountS.kin {B k : Nat} {m : Int} {w w' : World} {a : Option Addr} (h : CountS w a m k) (K : Kin B w w') (hB : ∀ g, a = some ⟨g, 0, none⟩ → k = 0 ∨ g < B) : CountS w' a m k := by
  rcases h with h | ⟨x, rfl, hf⟩
  · exact .inl h
  · rcases hB x rfl with h | h
    · exact .inl h
    · exact .inr ⟨x, rfl, fun j hj => K.cells _ _ _ h (hf j hj)⟩
theorem CountS.lt {k : Nat} {m : Int} {w : World} {a : Option Addr} (h : CountS w a m k) : ∀ g, a = some ⟨g, 0, none⟩ → k = 0 ∨ g < w.heap.size := by
  intro g e
  rcases h with h | ⟨x, rfl, hf⟩
  · exact .inl h
  · cases e
    by_cases h0 : k = 0
    · exact .inl h0
    · exact .inr (block_lt (hf 0 (by omega)))
theorem FreeS.onlyS {m : Nat} {w w' : World} {a a' : Option Addr} (h : FreeS w a m) (k : OnlyS a' w w') (hx : m = 0 ∨ ∀ g, a = some ⟨g, 0, none⟩ → a' ≠ some ⟨g, 0, none⟩) : FreeS w' a m := by
  rcases hx with hx | hx
  · exact .inl hx
  rcases h with h | ⟨x, rfl, hf⟩
  · exact .inl h
  · have hb : w'.heap[x]? = w.heap[x]? := k.block x fun g hg e => hx x rfl (e ▸ hg)
    exact .inr ⟨x, rfl, fun j hj => by rw [World.cell?_of_block hb, World.frozen?_of_block hb]; exact hf j hj⟩
theorem CountS.onlyS {k : Nat} {m : Int} {w w' : World} {a a' : Option Addr} (h : CountS w a m k) (q : OnlyS a' w w') (hx : k = 0 ∨ ∀ g, a = some ⟨g, 0, none⟩ → a' ≠ some ⟨g, 0, none⟩) : CountS w' a m k := by
  rcases hx with hx | hx
  · exact .inl hx
  rcases h with h | ⟨x, rfl, hf⟩
  · exact .inl h
  · have hb : w'.heap[x]? = w.heap[x]? := q.block x fun g hg e => hx x rfl (e ▸ hg)
    exact .inr ⟨x, rfl, fun j hj => by rw [World.cell?_of_block hb]; exact hf j hj⟩
def Parted (a1 : Option Addr) (n1 : Nat) (a2 : Option Addr) (n2 : Nat) : Prop := (n1 = 0 ∧ n2 = 0) ∨ ∀ g, a1 = some ⟨g, 0, none⟩ → a2 ≠ some ⟨g, 0, none⟩
set_option maxRecDepth 100000 in
set_option maxHeartbeats 1000000 in
theorem markKept_any {a1 a2 : Option Addr} {n1 n2 c1 c2 : Nat} {m : Int} {E : ByteArray} {A : Int} {w : World} (hn1 : n1 ≤ 1048576) (hn2 : n2 ≤ 1048576) (h0 : 0 ≤ m) (h1 : m ≤ 1048576)
    (f1 : FreeS w a1 n1) (f2 : FreeS w a2 n2) (hp : Parted a1 n1 a2 n2) (hl1 : ∀ g, a1 = some ⟨g, 0, none⟩ → g < w.heap.size) (hl2 : ∀ g, a2 = some ⟨g, 0, none⟩ → g < w.heap.size) :
    Calls Try.prog 30 #[.agg #[.slice a1 n1 c1, .slice a2 n2 c2, .string E, .int .i64 A], .int .i64 m] w fun e w' => e = .returned (.int .i64 (m + (n1 : Nat) + (n2 : Nat))) ∧ CountS w' a1 m n1 ∧ CountS w' a2 (m + (n1 : Nat)) n2 ∧ TwoS a1 a2 w w' := by
  have hK : ∀ o, Kin w.heap.size w (w.alloc o) := fun o => (Grown.alloc (Grown.refl w) o).kin (Nat.le_refl _)
  have c23 : RowKit.Hid (∀ w' a n c m, n ≤ 1048576 → 0 ≤ m → m ≤ 1152921504606846976 → FreeS w' a n → Calls Try.prog 23 #[.slice a n c, .int .i64 m] w' fun e w'' => e = .returned (.int .i64 (m + (n : Nat))) ∧ CountS w'' a m n ∧ OnlyS a w' w'') := fun w' a n c m h1 h2 h3 h4 => markIntS_opt a n c m w' h1 h2 h3 h4
  have k1 : RowKit.Hid (∀ o, FreeS (w.alloc o) a1 n1) := fun o => f1.kin (hK o) f1.lt
  have k2 : RowKit.Hid (∀ o w', OnlyS a1 (w.alloc o) w' → FreeS w' a2 n2) := fun o w' h => (f2.kin (hK o) f2.lt).onlyS h (by
    rcases hp with h | h
    · exact .inl h.2
    · exact .inr fun g hg e => h g e hg)
  have k3 : RowKit.Hid (∀ o w', OnlyS a1 (w.alloc o) w' → ∀ j, w'.cell? ⟨w.heap.size, j, none⟩ = (w.alloc o).cell? ⟨w.heap.size, j, none⟩) := fun o w' h j => World.cell?_of_block (h.block _ fun g hg => by have := hl1 g hg; show w.heap.size ≠ g; omega)
  have k4 : RowKit.Hid (∀ o w' w'', CountS w' a1 m n1 → OnlyS a1 (w.alloc o) w' → OnlyS a2 w' w'' → CountS w'' a1 m n1 ∧ TwoS a1 a2 w w'') := fun o w' w'' hc h1 h2 => ⟨hc.onlyS h2 (by
    rcases hp with h | h
    · exact .inl h.1
    · exact .inr h), ⟨by rw [h2.size, h1.size]; simp, fun r hr e1 e2 => ((h2.block r e2).trans (h1.block r e1)).trans ((Below.refl w.heap.size w).alloc (Nat.le_refl _) o |>.block r hr)⟩⟩
  have hm0 : 0 ≤ m + (n1 : Int) := by omega
  have hm1 : m + (n1 : Int) ≤ 1152921504606846976 := by omega
  have hm2 : m ≤ 1152921504606846976 := by omega
  clear f1 f2 hp hl1 hl2 hK
  go_enter Try.func30, Try.ntmps30
  go_wp2_with (go_at_call 23; (with_reducible refine (c23.out _ _ _ _ _ hn1 h0 hm2 (k1.out _)).mono ?_); rintro e w' ⟨rfl, hc1, ho1⟩; have q1 : w'.cell? ⟨w.heap.size, 1, none⟩ = some (.slice a2 n2 c2) := (k3.out _ _ ho1 1).trans (cell_new rfl))
  go_wp2_with (go_at_call 23; (with_reducible refine (c23.out _ _ _ _ _ hn2 hm0 hm1 (k2.out _ _ ho1)).mono ?_); rintro e w'' ⟨rfl, hc2, ho2⟩)
  go_ret
  exact ⟨rfl, (k4.out _ _ _ hc1 ho1 ho2).1, hc2, (k4.out _ _ _ hc1 ho1 ho2).2⟩
set_option maxRecDepth 100000 in
set_option maxHeartbeats 1000000 in
theorem heldKept_any {a1 a2 : Option Addr} {n1 n2 c1 c2 : Nat} {m : Int} {E : ByteArray} {A : Int} {w : World} (hn1 : n1 ≤ 1048576) (hn2 : n2 ≤ 1048576) (h0 : 0 ≤ m) (h1 : m ≤ 1048576)
    (f1 : CountS w a1 m n1) (f2 : CountS w a2 (m + (n1 : Nat)) n2) :
    Calls Try.prog 31 #[.agg #[.slice a1 n1 c1, .slice a2 n2 c2, .string E, .int .i64 A], .int .i64 m] w fun e w' => e = .returned (.int .i64 (m + (n1 : Nat) + (n2 : Nat))) ∧ Below w.heap.size w w' := by
  have hK : ∀ o, Kin w.heap.size w (w.alloc o) := fun o => (Grown.alloc (Grown.refl w) o).kin (Nat.le_refl _)
  have c24 : RowKit.Hid (∀ w' a n c m, n ≤ 1048576 → 0 ≤ m → m ≤ 1152921504606846976 → CountS w' a m n → Calls Try.prog 24 #[.slice a n c, .int .i64 m] w' fun e w'' => e = .returned (.int .i64 (m + (n : Nat))) ∧ w' = w'') := fun w' a n c m h1 h2 h3 h4 => heldIntS_opt a n c m w' h1 h2 h3 h4
  have k1 : RowKit.Hid (∀ o, CountS (w.alloc o) a1 m n1) := fun o => f1.kin (hK o) f1.lt
  have k2 : RowKit.Hid (∀ o, CountS (w.alloc o) a2 (m + (n1 : Nat)) n2) := fun o => f2.kin (hK o) f2.lt
  have hB : RowKit.Hid (∀ o, Below w.heap.size w (w.alloc o)) := fun o => (Below.refl _ _).alloc (Nat.le_refl _) _
  have hm0 : 0 ≤ m + (n1 : Int) := by omega
  have hm1 : m + (n1 : Int) ≤ 1152921504606846976 := by omega
  have hm2 : m ≤ 1152921504606846976 := by omega
  have hm3 : ¬ (m + (n1 : Int) < 0) := by omega
  have hm4 : ¬ (m + (n1 : Int) + (n2 : Int) < 0) := by omega
  clear f1 f2 hK
  go_enter Try.func31, Try.ntmps31
  go_wp2_with (go_at_call 24; (with_reducible refine (c24.out _ _ _ _ _ hn1 h0 hm2 (k1.out _)).mono ?_); rintro e w' ⟨rfl, rfl⟩)
  go_wp2_with (go_at_call 24; (with_reducible refine (c24.out _ _ _ _ _ hn2 hm0 hm1 (k2.out _)).mono ?_); rintro e w' ⟨rfl, rfl⟩)
  go_ret
  exact ⟨rfl, hB.out _⟩
end Go.Town.Kp
