/-
  The reference's run, as a whole.
  Which functions keep to themselves (the lean form, for the laws of P9).
  The reference's RunKeeper.
-/
import Derived.Deep.RegionHeld3
import Derived.Test.YtihmcigoofhpmaaZaz
import Derived.Test.YtihmcigoofhpmaaZbh
import Derived.Test.YtihmcigoofhpmaaZbk
set_option linter.all false
namespace Go.Town.Kp
open Go Go.Conc Go.Conc.Lib Go.ConcR.Gen Go.RowKit Go.Town Go.Proofs
open Go.ConcN (upd upd_ne upd_same)
def RunPost (κ : Kr) (J : List (List Int)) (tn : Nat) (w : World) (e : Ending) (w' : World) : Prop :=
  ∃ (sa st : Nat) (fa : Option Addr) (fl fc : Nat), e = .returned (.tuple #[ROOM κ sa st J.length (.slice fa fl fc) (endText (runT κ J tn 0 St.zero).1.over), .int .i64 ((runT κ J tn 0 St.zero).2 : Nat)]) ∧ NumsAt w' sa (runT κ J tn 0 St.zero).1.sum J.length ∧ NumsAt w' st (runT κ J tn 0 St.zero).1.starts J.length ∧ Below w.heap.size w w' ∧ w.heap.size ≤ sa ∧ w.heap.size ≤ st ∧ sa ≠ st
set_option maxRecDepth 100000 in
set_option maxHeartbeats 8000000 in
theorem l9Run_any {κ : Kr} {J : List (List Int)} {ta : Option Addr} {tc tn : Nat} {w : World} (hJ : TasksIn J) (hn4 : J.length ≤ 4) (hn1 : 0 < J.length) (hlen : ∀ l ∈ J, l.length ≤ 1048576) (htn : tn ≤ 20) (hw0 : 0 < κ.win) (hw : κ.win ≤ 20) (hR : RowsAt w ta J) :
    Calls Try.prog 39 #[.agg #[.string κ.rule.text, .int .i64 (κ.bear : Nat), .int .i64 (κ.win : Nat)], .slice ta J.length tc, .int .i64 (tn : Nat)] w (RunPost κ J tn w) := by
  go_enter Try.func39, Try.ntmps39
  refine (show Code.wp Try.prog body39 _ _ _ from ?_)
  rw [body39_eq]
  obtain ⟨Q, hQ⟩ : ∃ Q, Eqd Q (bodyPost Try.prog Try.f39 (RunPost κ J tn w)) := ⟨_, ⟨rfl⟩⟩
  rw [← hQ.out]
  simp only [headC, tailC, body39, Try.f39, Option.getD_some]
  go_wp2
  obtain ⟨W, hWe⟩ : ∃ W, Hid (W = (w.alloc (.cells #[.string κ.rule.text, .int .i64 (κ.bear : Nat), .int .i64 (κ.win : Nat)] 24)).alloc (.cells #[.string ⟨#[]⟩, .int .i64 0, .int .i64 0, .slice none 0 0, .slice none 0 0, .slice none 0 0, .string ⟨#[]⟩] 61)) := ⟨_, ⟨rfl⟩⟩
  rw [← hWe.out]
  have hWk : BoxAt w.heap.size κ W := by rw [hWe.out]; exact ⟨cell_alloc (cell_new rfl), cell_alloc (cell_new rfl), cell_alloc (cell_new rfl)⟩
  have hWs : W.heap.size = w.heap.size + 2 := by rw [hWe.out, World.size_alloc, World.size_alloc]
  have hWr : W.heap[w.heap.size + 1]? = some (.cells #[.string ⟨#[]⟩, .int .i64 0, .int .i64 0, .slice none 0 0, .slice none 0 0, .slice none 0 0, .string ⟨#[]⟩] 61) := by
    have e : ∀ o, (w.alloc o).heap.size = w.heap.size + 1 := fun o => World.size_alloc ..
    rw [hWe.out, ← e]; exact alloc_self _ _
  have hWb : Below w.heap.size w W := by rw [hWe.out]; exact ((Below.refl _ w).alloc (Nat.le_refl _) _).alloc (by simp) _
  refine run_mem hn4 (fun c a o v w h => by
    have h' : Q (.panic c) (a.put o v) w := h
    show Q (.panic c) a w
    rw [hQ.out] at h' ⊢
    cases o <;> exact h') hWk ?_
  intro sa st fa₀ bx w3 hM
  obtain ⟨base, hbase⟩ : ∃ b : Nat, Hid (b = w.heap.size) := ⟨_, ⟨rfl⟩⟩
  obtain ⟨rb, hrb⟩ : ∃ b : Nat, Hid (b = w.heap.size + 1) := ⟨_, ⟨rfl⟩⟩
  have q1 := hbase.out
  have q2 := hrb.out
  obtain ⟨m1, m2, m3, m4⟩ := hM.l1
  obtain ⟨n1, n2, n3, n4, n5, n6⟩ := hM.ne
  have X : Rx base rb bx sa st := ⟨by omega, by omega, by omega, by omega, n1, Ne.symm n3, Ne.symm n5, by omega, by omega, by omega⟩
  have hB3 : Below base w w3 := by rw [q1]; exact hWb.trans (hM.below.mono (by omega))
  have lbx : bx < w3.heap.size := (Array.getElem?_eq_some_iff.1 hM.hbx).1
  have hs3 := hM.below.size
  have R₀ : Rn κ base rb bx sa st J.length (some ⟨fa₀, 0, none⟩) [] 0 ⟨#[]⟩ St.zero w w3 := by
    refine ⟨⟨rfl, .inr ⟨fa₀, 0, #[], rfl, by omega, hM.hfa, Nat.le_refl _, Nat.zero_le _, rfl, rfl⟩⟩, by simp [Value.ownBlock]; omega, by simp [Value.ownBlock]; omega, by simp [Value.ownBlock]; omega, by simp [Value.ownBlock]; omega, fun i hi => cell_of_block hM.hsa (by simp [St.zero, hi]), fun i hi => cell_of_block hM.hst (by simp [St.zero, hi]), reads_block (t := 61) hM.hbx, reads_block (t := 61) (by rw [hM.below.block _ (by omega), q2]; exact hWr), hB3, ?_⟩
    funext t; simp [St.zero, cntF]
  have hRows : ∀ w', Below base w w' → RowsIn base w' ta J := fun w' hb => by
    have := RowsIn.kept (B' := base) hR (w' := w') (fun x j v hx hv => (hb.cell (p := ⟨x, j, none⟩) (by show x < base; omega)).trans hv) (by omega)
    exact this
  have hrb3 : rb < w3.heap.size := by omega
  have hbw3 : base ≤ w3.heap.size := by omega
  rw [← q2]
  have hfin : Hid _ := ⟨q1⟩
  have hsz0 : Hid (W.heap.size = base + 2) := ⟨by omega⟩
  clear q1 q2 m1 m2 m3 m4 n1 n2 n3 n4 n5 n6 hM hWr hWs hWb hWk hs3 hB3
  replace hR : Hid _ := ⟨hR⟩
  have hd2 : Hid _ := ⟨hJ⟩
  have hd3 : Hid _ := ⟨hlen⟩
  have hd4 : Hid _ := ⟨hRows⟩
  clear hJ hlen hRows
  obtain ⟨kb, hkb⟩ : ∃ b : Nat, Hid (b = w.heap.size) := ⟨_, ⟨rfl⟩⟩
  rw [← hkb.out]
  go_wp2
  go_loopw [7, 9] (fun r v wr => ∃ (t : Nat) (fa : Option Addr) (F : List Nat) (fc : Nat) (s : St), t ≤ tn ∧ r = .int .i64 0 ∧ v = .int .i64 t ∧ Rn κ base rb bx sa st J.length fa F fc ⟨#[]⟩ s w wr ∧ Hid (runT κ J tn 0 St.zero = runT κ J (tn - t) t s) ∧ Hid (s.over = false) ∧ Small (t * J.length) s ∧ (∀ f ∈ F, f ≤ t) ∧ F.length ≤ t * J.length ∧ w3.heap.size ≤ wr.heap.size) (fun _ v _ => tn - (intOf v).toNat)
  case atStart => exact ⟨0, _, [], 0, St.zero, Nat.zero_le _, rfl, rfl, R₀, ⟨rfl⟩, ⟨rfl⟩, Small.zero.mono (by omega), (fun f hf => by cases hf), by simp, Nat.le_refl _⟩
  case round =>
    obtain ⟨t, fa, F, fc, s, ht, rfl, rfl, R, hT, ho, hs, hFt, hFn, hsz⟩ := hrel
    have htm : t * J.length ≤ 20 * 4 := Nat.mul_le_mul (by omega) hn4
    by_cases hlt : t < tn
    · have hlt' : (t : Int) < (tn : Int) := by omega
      have hrun : Hid (runT κ J (tn - t) t s = if (tickW κ J t s).over then (tickW κ J t s, t) else runT κ J (tn - (t + 1)) (t + 1) (tickW κ J t s)) := ⟨by
        rw [show tn - t = (tn - (t + 1)) + 1 by omega]
        conv => lhs; unfold runT⟩
      have hs2 : Small ((t + 1) * J.length) (tickW κ J t s) := by
        have := Small.workers (k := κ) hd2.out t J.length 0 _ s hs
        rw [Nat.add_mul, Nat.one_mul]; exact this
      have hmul : (t + 1) * J.length = t * J.length + J.length := by rw [Nat.add_mul, Nat.one_mul]
      replace hmul : Hid _ := ⟨hmul⟩
      go_wp2
      refine run_workers (w0 := w) X hd2.out hn4 hd3.out (by omega) hw0 hw ho.out hs (by omega) hFt (by omega) (by omega) (by omega) (by omega) hd4.out R ?_ ?_
      · intro hov y10 y25 y26 y27 y28 y29 y30 y31 y32 y33 y34 y35 y36 y37 y38 y39 y40 y41 y42 y43 y44 y45 y46 y47 y48 y49 y50 y51 y52 y53 fa' F' fc' w' R' hF' hFl' hsz'
        have hT2 : Hid (runT κ J tn 0 St.zero = runT κ J (tn - (t + 1)) (t + 1) (tickW κ J t s)) := ⟨by rw [hT.out, hrun.out, hov]; simp⟩
        replace hov : Hid _ := ⟨hov⟩
        clear hT hrun
        go_wp2
        go_roundw
        case rel => exact ⟨t + 1, fa', F', fc', tickW κ J t s, by omega, rfl, by go_num, R', hT2, hov, hs2, (fun f hf => by have := hF' f hf; omega), by rw [hmul.out]; omega, by omega⟩
        case measure => simp [intOf]; omega
      · intro hov y10 y25 y26 y27 y28 y29 y30 y31 y32 y33 y34 y35 y36 y37 y38 y39 y40 y41 y42 y43 y44 y45 y46 y47 y48 y49 y50 y51 y52 y53 fa' F' fc' w' R'
        have hT2 : runT κ J tn 0 St.zero = (tickW κ J t s, t) := by rw [hT.out, hrun.out, hov]; simp
        show Q .ret _ _
        rw [hQ.out]
        have NS1 := R'.s1
        have NS2 := R'.s2
        have NB := R'.below
        have hsw := R'.below.size
        have hq1 := hfin.out
        have s7 := set7_cells (w := w') (rx := rb) (fun j hj => R'.res.ex (by simpa using hj)) (.string κ.rule.text) (.int .i64 (κ.bear : Nat)) (.int .i64 (κ.win : Nat)) (.slice (some ⟨sa, 0, none⟩) J.length J.length) (.slice (some ⟨st, 0, none⟩) J.length J.length) (.slice fa' F'.length fc') (.string ⟨#[103, 105, 118, 101, 110, 32, 117, 112]⟩)
        have g1 : NumsAt (Go.Town.Kp.set7 w' rb (.string κ.rule.text) (.int .i64 (κ.bear : Nat)) (.int .i64 (κ.win : Nat)) (.slice (some ⟨sa, 0, none⟩) J.length J.length) (.slice (some ⟨st, 0, none⟩) J.length J.length) (.slice fa' F'.length fc') (.string ⟨#[103, 105, 118, 101, 110, 32, 117, 112]⟩)) sa _ J.length := NS1.other7 X.d4 _ _ _ _ _ _ _
        have g2 : NumsAt (Go.Town.Kp.set7 w' rb (.string κ.rule.text) (.int .i64 (κ.bear : Nat)) (.int .i64 (κ.win : Nat)) (.slice (some ⟨sa, 0, none⟩) J.length J.length) (.slice (some ⟨st, 0, none⟩) J.length J.length) (.slice fa' F'.length fc') (.string ⟨#[103, 105, 118, 101, 110, 32, 117, 112]⟩)) st _ J.length := NS2.other7 X.d5 _ _ _ _ _ _ _
        have g3 : Below base w (Go.Town.Kp.set7 w' rb (.string κ.rule.text) (.int .i64 (κ.bear : Nat)) (.int .i64 (κ.win : Nat)) (.slice (some ⟨sa, 0, none⟩) J.length J.length) (.slice (some ⟨st, 0, none⟩) J.length J.length) (.slice fa' F'.length fc') (.string ⟨#[103, 105, 118, 101, 110, 32, 117, 112]⟩)) := NB.grown (grownBy_set7 _ _ _ _ _ _ _ _ _) (by omega) (fun q hq => by cases hq; exact X.b1)
        refine (show bodyPost Try.prog Try.f39 _ .ret _ (Go.Town.Kp.set7 w' rb (.string κ.rule.text) (.int .i64 (κ.bear : Nat)) (.int .i64 (κ.win : Nat)) (.slice (some ⟨sa, 0, none⟩) J.length J.length) (.slice (some ⟨st, 0, none⟩) J.length J.length) (.slice fa' F'.length fc') (.string ⟨#[103, 105, 118, 101, 110, 32, 117, 112]⟩)) from ?_)
        generalize Go.Town.Kp.set7 w' rb (.string κ.rule.text) (.int .i64 (κ.bear : Nat)) (.int .i64 (κ.win : Nat)) (.slice (some ⟨sa, 0, none⟩) J.length J.length) (.slice (some ⟨st, 0, none⟩) J.length J.length) (.slice fa' F'.length fc') (.string ⟨#[103, 105, 118, 101, 110, 32, 117, 112]⟩) = w5 at *
        obtain ⟨t0, t1, t2, t3, t4, t5, t6⟩ := s7
        refine bodyPost_ret (v := .tuple #[ROOM κ sa st J.length (.slice fa' F'.length fc') ⟨#[103, 105, 118, 101, 110, 32, 117, 112]⟩, .int .i64 (t : Nat)]) (by simp [results, Try.results39, go_sem, ROOM, t0, t1, t2, t3, t4, t5, t6]) rfl ?_
        refine ⟨sa, st, fa', F'.length, fc', ?_, by rw [hT2]; exact g1, by rw [hT2]; exact g2, by rw [← hfin.out]; exact g3, by have := X.b3; have := hfin.out; omega, by have := X.b4; have := hfin.out; omega, X.d1⟩
        rw [hT2]
        simp only [hov]
        rfl
    · obtain rfl : t = tn := by omega
      have hT2 : runT κ J t 0 St.zero = (s, t) := by rw [hT.out, Nat.sub_self]; rfl
      replace hT2 : Hid _ := ⟨hT2⟩
      have x0 : wr.cell? ⟨bx, 0, none⟩ = some (.string κ.rule.text) := (R.box 0 (by simp)).1
      have fx0 : wr.frozen? ⟨bx, 0, none⟩ = false := (R.box 0 (by simp)).2
      have x1 : wr.cell? ⟨bx, 1, none⟩ = some (.int .i64 (κ.bear : Nat)) := (R.box 1 (by simp)).1
      have fx1 : wr.frozen? ⟨bx, 1, none⟩ = false := (R.box 1 (by simp)).2
      have x2 : wr.cell? ⟨bx, 2, none⟩ = some (.int .i64 (κ.win : Nat)) := (R.box 2 (by simp)).1
      have fx2 : wr.frozen? ⟨bx, 2, none⟩ = false := (R.box 2 (by simp)).2
      have x3 : wr.cell? ⟨bx, 3, none⟩ = some (.slice (some ⟨sa, 0, none⟩) J.length J.length) := (R.box 3 (by simp)).1
      have fx3 : wr.frozen? ⟨bx, 3, none⟩ = false := (R.box 3 (by simp)).2
      have x4 : wr.cell? ⟨bx, 4, none⟩ = some (.slice (some ⟨st, 0, none⟩) J.length J.length) := (R.box 4 (by simp)).1
      have fx4 : wr.frozen? ⟨bx, 4, none⟩ = false := (R.box 4 (by simp)).2
      have x5 : wr.cell? ⟨bx, 5, none⟩ = some (.slice fa F.length fc) := (R.box 5 (by simp)).1
      have fx5 : wr.frozen? ⟨bx, 5, none⟩ = false := (R.box 5 (by simp)).2
      have x6 : wr.cell? ⟨bx, 6, none⟩ = some (.string ⟨#[]⟩) := (R.box 6 (by simp)).1
      have fx6 : wr.frozen? ⟨bx, 6, none⟩ = false := (R.box 6 (by simp)).2
      have y0 : wr.cell? ⟨rb, 0, none⟩ = some (.string ⟨#[]⟩) := (R.res 0 (by simp)).1
      have fy0 : wr.frozen? ⟨rb, 0, none⟩ = false := (R.res 0 (by simp)).2
      have y1 : wr.cell? ⟨rb, 1, none⟩ = some (.int .i64 0) := (R.res 1 (by simp)).1
      have fy1 : wr.frozen? ⟨rb, 1, none⟩ = false := (R.res 1 (by simp)).2
      have y2 : wr.cell? ⟨rb, 2, none⟩ = some (.int .i64 0) := (R.res 2 (by simp)).1
      have fy2 : wr.frozen? ⟨rb, 2, none⟩ = false := (R.res 2 (by simp)).2
      have y3 : wr.cell? ⟨rb, 3, none⟩ = some (.slice none 0 0) := (R.res 3 (by simp)).1
      have fy3 : wr.frozen? ⟨rb, 3, none⟩ = false := (R.res 3 (by simp)).2
      have y4 : wr.cell? ⟨rb, 4, none⟩ = some (.slice none 0 0) := (R.res 4 (by simp)).1
      have fy4 : wr.frozen? ⟨rb, 4, none⟩ = false := (R.res 4 (by simp)).2
      have y5 : wr.cell? ⟨rb, 5, none⟩ = some (.slice none 0 0) := (R.res 5 (by simp)).1
      have fy5 : wr.frozen? ⟨rb, 5, none⟩ = false := (R.res 5 (by simp)).2
      have y6 : wr.cell? ⟨rb, 6, none⟩ = some (.string ⟨#[]⟩) := (R.res 6 (by simp)).1
      have fy6 : wr.frozen? ⟨rb, 6, none⟩ = false := (R.res 6 (by simp)).2
      have hne : bx ≠ rb ∧ rb ≠ bx := ⟨Ne.symm X.d6, X.d6⟩
      replace R : Hid _ := ⟨R⟩
      clear hT
      go_wp2
      show Q .ret _ _
      rw [hQ.out]
      replace hT2 := hT2.out
      have NS1 : NumsAt (wr.setCell ⟨bx, 6, none⟩ (.string ⟨#[100, 111, 110, 101]⟩)) sa s.sum J.length := R.out.s1.other _ X.d2
      have NS2 : NumsAt (wr.setCell ⟨bx, 6, none⟩ (.string ⟨#[100, 111, 110, 101]⟩)) st s.starts J.length := R.out.s2.other _ X.d3
      have NB : Below base w (wr.setCell ⟨bx, 6, none⟩ (.string ⟨#[100, 111, 110, 101]⟩)) := R.out.below.setCell (p := ⟨bx, 6, none⟩) X.b2 _
      have hsw := R.out.below.size
      have hq1 := hfin.out
      have hex : ∀ j, j < 7 → ∃ v, (wr.setCell ⟨bx, 6, none⟩ (.string ⟨#[100, 111, 110, 101]⟩)).cell? ⟨rb, j, none⟩ = some v := fun j hj => by
        rw [cell_setCell_ne _ _ (.inl hne.1)]
        exact R.out.res.ex (by simpa using hj)
      have hov := ho.out
      have hsz6 : (wr.setCell ⟨bx, 6, none⟩ (.string ⟨#[100, 111, 110, 101]⟩)).heap.size = wr.heap.size := by simp [World.setCell]
      have s7 := set7_cells (w := (wr.setCell ⟨bx, 6, none⟩ (.string ⟨#[100, 111, 110, 101]⟩))) (rx := rb) (fun j hj => hex j hj) (.string κ.rule.text) (.int .i64 (κ.bear : Nat)) (.int .i64 (κ.win : Nat)) (.slice (some ⟨sa, 0, none⟩) J.length J.length) (.slice (some ⟨st, 0, none⟩) J.length J.length) (.slice fa F.length fc) (.string ⟨#[100, 111, 110, 101]⟩)
      have g1 : NumsAt (Go.Town.Kp.set7 (wr.setCell ⟨bx, 6, none⟩ (.string ⟨#[100, 111, 110, 101]⟩)) rb (.string κ.rule.text) (.int .i64 (κ.bear : Nat)) (.int .i64 (κ.win : Nat)) (.slice (some ⟨sa, 0, none⟩) J.length J.length) (.slice (some ⟨st, 0, none⟩) J.length J.length) (.slice fa F.length fc) (.string ⟨#[100, 111, 110, 101]⟩)) sa _ J.length := NS1.other7 X.d4 _ _ _ _ _ _ _
      have g2 : NumsAt (Go.Town.Kp.set7 (wr.setCell ⟨bx, 6, none⟩ (.string ⟨#[100, 111, 110, 101]⟩)) rb (.string κ.rule.text) (.int .i64 (κ.bear : Nat)) (.int .i64 (κ.win : Nat)) (.slice (some ⟨sa, 0, none⟩) J.length J.length) (.slice (some ⟨st, 0, none⟩) J.length J.length) (.slice fa F.length fc) (.string ⟨#[100, 111, 110, 101]⟩)) st _ J.length := NS2.other7 X.d5 _ _ _ _ _ _ _
      have g3 : Below base w (Go.Town.Kp.set7 (wr.setCell ⟨bx, 6, none⟩ (.string ⟨#[100, 111, 110, 101]⟩)) rb (.string κ.rule.text) (.int .i64 (κ.bear : Nat)) (.int .i64 (κ.win : Nat)) (.slice (some ⟨sa, 0, none⟩) J.length J.length) (.slice (some ⟨st, 0, none⟩) J.length J.length) (.slice fa F.length fc) (.string ⟨#[100, 111, 110, 101]⟩)) := NB.grown (grownBy_set7 _ _ _ _ _ _ _ _ _) (by omega) (fun q hq => by cases hq; exact X.b1)
      refine (show bodyPost Try.prog Try.f39 _ .ret _ (Go.Town.Kp.set7 (wr.setCell ⟨bx, 6, none⟩ (.string ⟨#[100, 111, 110, 101]⟩)) rb (.string κ.rule.text) (.int .i64 (κ.bear : Nat)) (.int .i64 (κ.win : Nat)) (.slice (some ⟨sa, 0, none⟩) J.length J.length) (.slice (some ⟨st, 0, none⟩) J.length J.length) (.slice fa F.length fc) (.string ⟨#[100, 111, 110, 101]⟩)) from ?_)
      generalize Go.Town.Kp.set7 (wr.setCell ⟨bx, 6, none⟩ (.string ⟨#[100, 111, 110, 101]⟩)) rb (.string κ.rule.text) (.int .i64 (κ.bear : Nat)) (.int .i64 (κ.win : Nat)) (.slice (some ⟨sa, 0, none⟩) J.length J.length) (.slice (some ⟨st, 0, none⟩) J.length J.length) (.slice fa F.length fc) (.string ⟨#[100, 111, 110, 101]⟩) = w5 at *
      obtain ⟨t0, t1, t2, t3, t4, t5, t6⟩ := s7
      refine bodyPost_ret (v := .tuple #[ROOM κ sa st J.length (.slice fa F.length fc) ⟨#[100, 111, 110, 101]⟩, .int .i64 (t : Nat)]) (by simp [results, Try.results39, go_sem, ROOM, t0, t1, t2, t3, t4, t5, t6]) rfl ?_
      refine ⟨sa, st, fa, F.length, fc, ?_, by rw [hT2]; exact g1, by rw [hT2]; exact g2, by rw [← hfin.out]; exact g3, by have := X.b3; have := hfin.out; omega, by have := X.b4; have := hfin.out; omega, X.d1⟩
      rw [hT2]
      simp only [hov]
      rfl
end Go.Town.Kp
namespace Go.Town.Kp
open Go Go.Conc Go.Conc.Lib Go.ConcR.Gen Go.RowKit Go.Town Go.Proofs
noncomputable def okBody (ok : FuncId → Bool) (f : FuncId) : Bool := match Try.prog.funcs[f]? with
  | some fn => (match fn.body with | some c => okCode Try.prog ok c | none => true)
  | none => true
theorem okProg_of {ok : FuncId → Bool} (l : List FuncId) (hl : ∀ f, ok f = true → f ∈ l) (h : ∀ f ∈ l, okBody ok f = true) : OkProg Try.prog ok := by
  intro f fn hf hfn c hc
  have := h f (hl f hf)
  unfold okBody at this
  rw [hfn] at this
  simp only [hc] at this
  exact this
def listT : List FuncId := [25, 35, 37, 46]
theorem okProgT : OkProg Try.prog okT := okProg_of listT (fun f h => by simpa [okT, listT] using h) (List.all_eq_true.1 (show (listT.all (okBody okT)) = true by kernel_rfl))
theorem Try.info28 : (Try.prog.info? 28).map (fun i => (i.zero, i.size, i.bytes)) = some (some (.slice none 0 0), 1, 24) := by kernel_rfl
end Go.Town.Kp
namespace Go.Town.Kp
open Go Go.Conc Go.Conc.Lib Go.ConcR.Gen Go.RowKit Go.Town Go.Proofs
open Go.ConcN (upd upd_ne upd_same)
def KeepPost (l : List UInt8) (f t : Int) (J : List (List Int)) (w : World) (e : Ending) (w' : World) : Prop :=
  Below w.heap.size w w' ∧ (((vK l f t && vT J) = false ∧ e = .returned (.tuple #[.agg #[.slice none 0 0, .slice none 0 0, .string ⟨#[]⟩, .int .i64 0], .bool false])) ∨
    ∃ (κ : Kr) (sa st : Nat), l = κ.rule.text.data.toList ∧ f = (κ.bear : Nat) ∧ t = (κ.win : Nat) ∧ (vK l f t && vT J) = true ∧
      e = .returned (.tuple #[.agg #[.slice (some ⟨sa, 0, none⟩) J.length J.length, .slice (some ⟨st, 0, none⟩) J.length J.length, .string (endText (runT κ J (mxR J J.length) 0 St.zero).1.over), .int .i64 ((runT κ J (mxR J J.length) 0 St.zero).2 : Nat)], .bool true]) ∧
      NumsAt w' sa (runT κ J (mxR J J.length) 0 St.zero).1.sum J.length ∧ NumsAt w' st (runT κ J (mxR J J.length) 0 St.zero).1.starts J.length)
theorem kin_below {B : Nat} {w w' : World} (h : Below B w w') : Kin B w w' := ⟨fun x j v hx hv => (h.cell (p := ⟨x, j, none⟩) hx).trans hv, fun x j v hx _ hf => (World.frozen?_of_block (h.block x hx)).trans hf, h.size⟩
theorem reads7 {w : World} {x : Nat} {a0 a1 a2 a3 a4 a5 a6 : Value} (h : Reads w x [a0, a1, a2, a3, a4, a5, a6]) : (w.cell? ⟨x, 0, none⟩ = some a0 ∧ w.cell? ⟨x, 1, none⟩ = some a1 ∧ w.cell? ⟨x, 2, none⟩ = some a2 ∧ w.cell? ⟨x, 3, none⟩ = some a3 ∧ w.cell? ⟨x, 4, none⟩ = some a4 ∧ w.cell? ⟨x, 5, none⟩ = some a5 ∧ w.cell? ⟨x, 6, none⟩ = some a6) ∧ w.frozen? ⟨x, 0, none⟩ = false ∧ w.frozen? ⟨x, 1, none⟩ = false ∧ w.frozen? ⟨x, 2, none⟩ = false ∧ w.frozen? ⟨x, 3, none⟩ = false ∧ w.frozen? ⟨x, 4, none⟩ = false ∧ w.frozen? ⟨x, 5, none⟩ = false ∧ w.frozen? ⟨x, 6, none⟩ = false :=
  ⟨⟨(h 0 (by simp)).1, (h 1 (by simp)).1, (h 2 (by simp)).1, (h 3 (by simp)).1, (h 4 (by simp)).1, (h 5 (by simp)).1, (h 6 (by simp)).1⟩, (h 0 (by simp)).2, (h 1 (by simp)).2, (h 2 (by simp)).2, (h 3 (by simp)).2, (h 4 (by simp)).2, (h 5 (by simp)).2, (h 6 (by simp)).2⟩
theorem below_set4 {B x : Nat} {w w' : World} {a b c d : Value} (h : Below B w w') (hx : B ≤ x) : Below B w (set4 w' x a b c d) :=
  (((h.setCell (p := ⟨x, 0, none⟩) hx _).setCell (p := ⟨x, 1, none⟩) hx _).setCell (p := ⟨x, 2, none⟩) hx _).setCell (p := ⟨x, 3, none⟩) hx _
set_option maxRecDepth 100000 in
set_option maxHeartbeats 4000000 in
theorem specKeep_bad {l : List UInt8} {f t : Int} {J : List (List Int)} {ta : Option Addr} {tc : Nat} {w : World} (hn : J.length ≤ 1048576) (hm : ∀ l ∈ J, l.length ≤ 1048576) (hR : RowsAt w ta J) (hbad : (vK l f t && vT J) = false) :
    Calls Try.prog 11 #[.agg #[.string ⟨l.toArray⟩, .int .i64 f, .int .i64 t], .slice ta J.length tc] w (KeepPost l f t J w) := by
  have c26 : Hid (∀ w, Calls Try.prog 26 #[.agg #[.string ⟨l.toArray⟩, .int .i64 f, .int .i64 t]] w fun e w' => e = .returned (.bool (vK l f t)) ∧ Below w.heap.size w w') := ⟨fun w => specKeeperValid_any l f t w⟩
  have c38 : Hid (∀ w', Below w.heap.size w w' → Calls Try.prog 38 #[.slice ta J.length tc] w' fun e w'' => e = .returned (.bool (vT J)) ∧ w' = w'') := ⟨fun w' hb => specTasksValid_any ta tc J w' hn hm (hR.below hb (Nat.le_refl _))⟩
  have c40 : Hid (∀ w', Below w.heap.size w w' → Calls Try.prog 40 #[.slice ta J.length tc] w' fun e w'' => e = .returned (.int .i64 (mxR J J.length : Nat)) ∧ w' = w'') := ⟨fun w' hb => specLongest_any ta tc J w' hn hm (hR.below hb (Nat.le_refl _))⟩
  have hB1 : ∀ o o', Below w.heap.size w ((w.alloc o).alloc o') := fun o o' => ((Below.refl _ _).alloc (Nat.le_refl _) _).alloc (by simp) _
  have q26 : Hid (∀ w', Below (w.heap.size + 2) ((w.alloc (.cells #[.string ⟨l.toArray⟩, .int .i64 f, .int .i64 t] 24)).alloc (.cells #[.slice none 0 0, .slice none 0 0, .string ⟨#[]⟩, .int .i64 0] 30)) w' → Reads w' (w.heap.size + 1) [.slice none 0 0, .slice none 0 0, .string ⟨#[]⟩, .int .i64 0] ∧ (w'.cell? ⟨w.heap.size, 0, none⟩ = some (.string ⟨l.toArray⟩) ∧ w'.cell? ⟨w.heap.size, 1, none⟩ = some (.int .i64 f) ∧ w'.cell? ⟨w.heap.size, 2, none⟩ = some (.int .i64 t)) ∧ Below w.heap.size w w' ∧ w.heap.size + 2 ≤ w'.heap.size) := ⟨fun w' hb => by
    have e1 : (w.alloc (.cells #[.string ⟨l.toArray⟩, .int .i64 f, .int .i64 t] 24)).heap.size = w.heap.size + 1 := World.size_alloc ..
    have hr : Reads ((w.alloc (.cells #[.string ⟨l.toArray⟩, .int .i64 f, .int .i64 t] 24)).alloc (.cells #[.slice none 0 0, .slice none 0 0, .string ⟨#[]⟩, .int .i64 0] 30)) (w.heap.size + 1) [.slice none 0 0, .slice none 0 0, .string ⟨#[]⟩, .int .i64 0] := reads_block (t := 30) (by rw [← e1]; exact alloc_self _ _)
    have hz : ((w.alloc (.cells #[.string ⟨l.toArray⟩, .int .i64 f, .int .i64 t] 24)).alloc (.cells #[.slice none 0 0, .slice none 0 0, .string ⟨#[]⟩, .int .i64 0] 30)).heap.size = w.heap.size + 2 := by rw [World.size_alloc, e1]
    refine ⟨hr.kin (kin_below hb) (by omega), ⟨?_, ?_, ?_⟩, (hB1 _ _).trans (hb.mono (by omega)), by rw [← hz]; exact hb.size⟩
    · exact (hb.cell (p := ⟨w.heap.size, 0, none⟩) (by show w.heap.size < _; omega)).trans (cell_alloc (cell_new rfl))
    · exact (hb.cell (p := ⟨w.heap.size, 1, none⟩) (by show w.heap.size < _; omega)).trans (cell_alloc (cell_new rfl))
    · exact (hb.cell (p := ⟨w.heap.size, 2, none⟩) (by show w.heap.size < _; omega)).trans (cell_alloc (cell_new rfl))⟩
  cases hk : vK l f t with
  | false =>
    rw [hk] at c26
    have hall : Hid ((vK l f t && vT J) = false) := ⟨by rw [hk]; rfl⟩
    clear hk
    go_enter Try.func11, Try.ntmps11
    go_wp2_with (go_at_call 26; (with_reducible refine (c26.out _).mono ?_); rintro e w' ⟨rfl, hb⟩; obtain ⟨hq, ⟨k0, kk1, kk2⟩, hb2, hsz⟩ := q26.out _ (by simpa using hb); obtain ⟨⟨v0, v1, v2, v3, c0, c1, c2, c3⟩, hf⟩ := set4_op hq rfl; have f0 := hf 0 (by omega); have f1 := hf 1 (by omega); have f2 := hf 2 (by omega); have f3 := hf 3 (by omega))
    obtain ⟨s0, s1, s2, s3⟩ := set4_cells (w := w') (rb := w.heap.size + 1) (fun j hj => hq.ex (by simpa using hj)) (.slice none 0 0) (.slice none 0 0) (.string ⟨#[]⟩) (.int .i64 0)
    have hB4 : Below w.heap.size w (set4 w' (w.heap.size + 1) (.slice none 0 0) (.slice none 0 0) (.string ⟨#[]⟩) (.int .i64 0)) := below_set4 hb2 (by omega)
    refine (show bodyPost Try.prog Try.f11 (KeepPost l f t J w) .ret ⟨_, _⟩ (set4 w' (w.heap.size + 1) (.slice none 0 0) (.slice none 0 0) (.string ⟨#[]⟩) (.int .i64 0)) from ?_)
    generalize set4 w' (w.heap.size + 1) (.slice none 0 0) (.slice none 0 0) (.string ⟨#[]⟩) (.int .i64 0) = w₄ at *
    refine bodyPost_ret (v := .tuple #[.agg #[.slice none 0 0, .slice none 0 0, .string ⟨#[]⟩, .int .i64 0], .bool false]) (by simp [results, Try.results11, go_sem, s0, s1, s2, s3]) rfl ?_
    exact ⟨hB4, .inl ⟨hall.out, rfl⟩⟩
  | true =>
    rw [hk] at c26
    cases hv : vT J with
    | false =>
      rw [hv] at c38
      have hall : Hid ((vK l f t && vT J) = false) := ⟨by rw [hk, hv]; rfl⟩
      clear hk hv
      go_enter Try.func11, Try.ntmps11
      go_wp2_with (go_at_call 26; (with_reducible refine (c26.out _).mono ?_); rintro e w' ⟨rfl, hb⟩; obtain ⟨hq, ⟨k0, kk1, kk2⟩, hb2, hsz⟩ := q26.out _ (by simpa using hb); obtain ⟨⟨v0, v1, v2, v3, c0, c1, c2, c3⟩, hf⟩ := set4_op hq rfl; have f0 := hf 0 (by omega); have f1 := hf 1 (by omega); have f2 := hf 2 (by omega); have f3 := hf 3 (by omega))
      refine (c38.out _ hb2).mono ?_
      rintro e w'' ⟨rfl, rfl⟩
      go_wp2
      obtain ⟨s0, s1, s2, s3⟩ := set4_cells (w := w') (rb := w.heap.size + 1) (fun j hj => hq.ex (by simpa using hj)) (.slice none 0 0) (.slice none 0 0) (.string ⟨#[]⟩) (.int .i64 0)
      have hB4 : Below w.heap.size w (set4 w' (w.heap.size + 1) (.slice none 0 0) (.slice none 0 0) (.string ⟨#[]⟩) (.int .i64 0)) := below_set4 hb2 (by omega)
      refine (show bodyPost Try.prog Try.f11 (KeepPost l f t J w) .ret ⟨_, _⟩ (set4 w' (w.heap.size + 1) (.slice none 0 0) (.slice none 0 0) (.string ⟨#[]⟩) (.int .i64 0)) from ?_)
      generalize set4 w' (w.heap.size + 1) (.slice none 0 0) (.slice none 0 0) (.string ⟨#[]⟩) (.int .i64 0) = w₄ at *
      refine bodyPost_ret (v := .tuple #[.agg #[.slice none 0 0, .slice none 0 0, .string ⟨#[]⟩, .int .i64 0], .bool false]) (by simp [results, Try.results11, go_sem, s0, s1, s2, s3]) rfl ?_
      exact ⟨hB4, .inl ⟨hall.out, rfl⟩⟩
    | true => rw [hk, hv] at hbad; cases hbad
end Go.Town.Kp
