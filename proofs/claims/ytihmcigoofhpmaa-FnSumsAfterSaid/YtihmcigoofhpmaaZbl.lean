/-
  The reference's run, as a whole.
  Which functions keep to themselves (the lean form, for the laws of P9).
  The reference's RunKeeper.
  The reference's RunKeeper, where all is valid.
  What RunKeeper answers, told without memory (the lean form, for the laws of P9).
  The reference's source of numbers: l11Open, pick, num, of.
-/
import Derived.Deep.RegionHeld3
import Derived.BigQuiet
import Derived.Deep.QuietTactic
import Derived.Maps.AppendAt
import Derived.Test.YtihmcigoofhpmaaZaz
import Derived.Test.YtihmcigoofhpmaaZbh
import Derived.Test.YtihmcigoofhpmaaZbk
set_option linter.all false
namespace Go.Town.Kp
open Go Go.Conc Go.Conc.Lib Go.ConcR.Gen Go.RowKit Go.Town Go.Proofs
open Go.ConcN (upd upd_ne upd_same)
def RunPost (κ : Kr) (J : List (List Int)) (tn : Nat) (w : World) (e : Ending) (w' : World) : Prop :=
  ∃ (sa st : Nat) (fa : Option Addr) (fl fc : Nat), e = .returned (.tuple #[ROOM κ sa st J.length (.slice fa fl fc) (endText (runT κ J tn 0 St.zero).1.over), .int .i64 ((runT κ J tn 0 St.zero).2 : Nat)]) ∧ NumsAt w' sa (runT κ J tn 0 St.zero).1.sum J.length ∧ NumsAt w' st (runT κ J tn 0 St.zero).1.starts J.length ∧ Below w.heap.size w w' ∧ w.heap.size ≤ sa ∧ w.heap.size ≤ st ∧ sa ≠ st
set_option maxRecDepth 100000 in
set_option maxHeartbeats 8000000 in
theorem l9Run_any {κ : Kr} {J : List (List Int)} {ta : Option Addr} {tc tn : Nat} {w : World} (hJ : TasksIn J) (hn4 : J.length ≤ 4) (hn1 : 0 < J.length) (hlen : ∀ l ∈ J, l.length ≤ 1048576) (htn : tn ≤ 20) (hw0 : 0 < κ.win) (hw : κ.win ≤ 20) (hR : RowsAt w ta J) :
    Calls Try.prog 39 #[.agg #[.string κ.rule.text, .int .i64 (κ.bear : Nat), .int .i64 (κ.win : Nat)], .slice ta J.length tc, .int .i64 (tn : Nat)] w (RunPost κ J tn w) := by
  go_enter Try.func39, Try.ntmps39
  refine (show Code.wp Try.prog body39 _ _ _ from ?_)
  rw [body39_eq]
  obtain ⟨Q, hQ⟩ : ∃ Q, Eqd Q (bodyPost Try.prog Try.f39 (RunPost κ J tn w)) := ⟨_, ⟨rfl⟩⟩
  rw [← hQ.out]
  simp only [headC, tailC, body39, Try.f39, Option.getD_some]
  go_wp2
  obtain ⟨W, hWe⟩ : ∃ W, Hid (W = (w.alloc (.cells #[.string κ.rule.text, .int .i64 (κ.bear : Nat), .int .i64 (κ.win : Nat)] 24)).alloc (.cells #[.string ⟨#[]⟩, .int .i64 0, .int .i64 0, .slice none 0 0, .slice none 0 0, .slice none 0 0, .string ⟨#[]⟩] 61)) := ⟨_, ⟨rfl⟩⟩
  rw [← hWe.out]
  have hWk : BoxAt w.heap.size κ W := by rw [hWe.out]; exact ⟨cell_alloc (cell_new rfl), cell_alloc (cell_new rfl), cell_alloc (cell_new rfl)⟩
  have hWs : W.heap.size = w.heap.size + 2 := by rw [hWe.out, World.size_alloc, World.size_alloc]
  have hWr : W.heap[w.heap.size + 1]? = some (.cells #[.string ⟨#[]⟩, .int .i64 0, .int .i64 0, .slice none 0 0, .slice none 0 0, .slice none 0 0, .string ⟨#[]⟩] 61) := by
    have e : ∀ o, (w.alloc o).heap.size = w.heap.size + 1 := fun o => World.size_alloc ..
    rw [hWe.out, ← e]; exact alloc_self _ _
  have hWb : Below w.heap.size w W := by rw [hWe.out]; exact ((Below.refl _ w).alloc (Nat.le_refl _) _).alloc (by simp) _
  refine run_mem hn4 (fun c a o v w h => by
    have h' : Q (.panic c) (a.put o v) w := h
    show Q (.panic c) a w
    rw [hQ.out] at h' ⊢
    cases o <;> exact h') hWk ?_
  intro sa st fa₀ bx w3 hM
  obtain ⟨base, hbase⟩ : ∃ b : Nat, Hid (b = w.heap.size) := ⟨_, ⟨rfl⟩⟩
  obtain ⟨rb, hrb⟩ : ∃ b : Nat, Hid (b = w.heap.size + 1) := ⟨_, ⟨rfl⟩⟩
  have q1 := hbase.out
  have q2 := hrb.out
  obtain ⟨m1, m2, m3, m4⟩ := hM.l1
  obtain ⟨n1, n2, n3, n4, n5, n6⟩ := hM.ne
  have X : Rx base rb bx sa st := ⟨by omega, by omega, by omega, by omega, n1, Ne.symm n3, Ne.symm n5, by omega, by omega, by omega⟩
  have hB3 : Below base w w3 := by rw [q1]; exact hWb.trans (hM.below.mono (by omega))
  have lbx : bx < w3.heap.size := (Array.getElem?_eq_some_iff.1 hM.hbx).1
  have hs3 := hM.below.size
  have R₀ : Rn κ base rb bx sa st J.length (some ⟨fa₀, 0, none⟩) [] 0 ⟨#[]⟩ St.zero w w3 := by
    refine ⟨⟨rfl, .inr ⟨fa₀, 0, #[], rfl, by omega, hM.hfa, Nat.le_refl _, Nat.zero_le _, rfl, rfl⟩⟩, by simp [Value.ownBlock]; omega, by simp [Value.ownBlock]; omega, by simp [Value.ownBlock]; omega, by simp [Value.ownBlock]; omega, fun i hi => cell_of_block hM.hsa (by simp [St.zero, hi]), fun i hi => cell_of_block hM.hst (by simp [St.zero, hi]), reads_block (t := 61) hM.hbx, reads_block (t := 61) (by rw [hM.below.block _ (by omega), q2]; exact hWr), hB3, ?_⟩
    funext t; simp [St.zero, cntF]
  have hRows : ∀ w', Below base w w' → RowsIn base w' ta J := fun w' hb => by
    have := RowsIn.kept (B' := base) hR (w' := w') (fun x j v hx hv => (hb.cell (p := ⟨x, j, none⟩) (by show x < base; omega)).trans hv) (by omega)
    exact this
  have hrb3 : rb < w3.heap.size := by omega
  have hbw3 : base ≤ w3.heap.size := by omega
  rw [← q2]
  have hfin : Hid _ := ⟨q1⟩
  have hsz0 : Hid (W.heap.size = base + 2) := ⟨by omega⟩
  clear q1 q2 m1 m2 m3 m4 n1 n2 n3 n4 n5 n6 hM hWr hWs hWb hWk hs3 hB3
  replace hR : Hid _ := ⟨hR⟩
  have hd2 : Hid _ := ⟨hJ⟩
  have hd3 : Hid _ := ⟨hlen⟩
  have hd4 : Hid _ := ⟨hRows⟩
  clear hJ hlen hRows
  obtain ⟨kb, hkb⟩ : ∃ b : Nat, Hid (b = w.heap.size) := ⟨_, ⟨rfl⟩⟩
  rw [← hkb.out]
  go_wp2
  go_loopw [7, 9] (fun r v wr => ∃ (t : Nat) (fa : Option Addr) (F : List Nat) (fc : Nat) (s : St), t ≤ tn ∧ r = .int .i64 0 ∧ v = .int .i64 t ∧ Rn κ base rb bx sa st J.length fa F fc ⟨#[]⟩ s w wr ∧ Hid (runT κ J tn 0 St.zero = runT κ J (tn - t) t s) ∧ Hid (s.over = false) ∧ Small (t * J.length) s ∧ (∀ f ∈ F, f ≤ t) ∧ F.length ≤ t * J.length ∧ w3.heap.size ≤ wr.heap.size) (fun _ v _ => tn - (intOf v).toNat)
  case atStart => exact ⟨0, _, [], 0, St.zero, Nat.zero_le _, rfl, rfl, R₀, ⟨rfl⟩, ⟨rfl⟩, Small.zero.mono (by omega), (fun f hf => by cases hf), by simp, Nat.le_refl _⟩
  case round =>
    obtain ⟨t, fa, F, fc, s, ht, rfl, rfl, R, hT, ho, hs, hFt, hFn, hsz⟩ := hrel
    have htm : t * J.length ≤ 20 * 4 := Nat.mul_le_mul (by omega) hn4
    by_cases hlt : t < tn
    · have hlt' : (t : Int) < (tn : Int) := by omega
      have hrun : Hid (runT κ J (tn - t) t s = if (tickW κ J t s).over then (tickW κ J t s, t) else runT κ J (tn - (t + 1)) (t + 1) (tickW κ J t s)) := ⟨by
        rw [show tn - t = (tn - (t + 1)) + 1 by omega]
        conv => lhs; unfold runT⟩
      have hs2 : Small ((t + 1) * J.length) (tickW κ J t s) := by
        have := Small.workers (k := κ) hd2.out t J.length 0 _ s hs
        rw [Nat.add_mul, Nat.one_mul]; exact this
      have hmul : (t + 1) * J.length = t * J.length + J.length := by rw [Nat.add_mul, Nat.one_mul]
      replace hmul : Hid _ := ⟨hmul⟩
      go_wp2
      refine run_workers (w0 := w) X hd2.out hn4 hd3.out (by omega) hw0 hw ho.out hs (by omega) hFt (by omega) (by omega) (by omega) (by omega) hd4.out R ?_ ?_
      · intro hov y10 y25 y26 y27 y28 y29 y30 y31 y32 y33 y34 y35 y36 y37 y38 y39 y40 y41 y42 y43 y44 y45 y46 y47 y48 y49 y50 y51 y52 y53 fa' F' fc' w' R' hF' hFl' hsz'
        have hT2 : Hid (runT κ J tn 0 St.zero = runT κ J (tn - (t + 1)) (t + 1) (tickW κ J t s)) := ⟨by rw [hT.out, hrun.out, hov]; simp⟩
        replace hov : Hid _ := ⟨hov⟩
        clear hT hrun
        go_wp2
        go_roundw
        case rel => exact ⟨t + 1, fa', F', fc', tickW κ J t s, by omega, rfl, by go_num, R', hT2, hov, hs2, (fun f hf => by have := hF' f hf; omega), by rw [hmul.out]; omega, by omega⟩
        case measure => simp [intOf]; omega
      · intro hov y10 y25 y26 y27 y28 y29 y30 y31 y32 y33 y34 y35 y36 y37 y38 y39 y40 y41 y42 y43 y44 y45 y46 y47 y48 y49 y50 y51 y52 y53 fa' F' fc' w' R'
        have hT2 : runT κ J tn 0 St.zero = (tickW κ J t s, t) := by rw [hT.out, hrun.out, hov]; simp
        show Q .ret _ _
        rw [hQ.out]
        have NS1 := R'.s1
        have NS2 := R'.s2
        have NB := R'.below
        have hsw := R'.below.size
        have hq1 := hfin.out
        have s7 := set7_cells (w := w') (rx := rb) (fun j hj => R'.res.ex (by simpa using hj)) (.string κ.rule.text) (.int .i64 (κ.bear : Nat)) (.int .i64 (κ.win : Nat)) (.slice (some ⟨sa, 0, none⟩) J.length J.length) (.slice (some ⟨st, 0, none⟩) J.length J.length) (.slice fa' F'.length fc') (.string ⟨#[103, 105, 118, 101, 110, 32, 117, 112]⟩)
        have g1 : NumsAt (Go.Town.Kp.set7 w' rb (.string κ.rule.text) (.int .i64 (κ.bear : Nat)) (.int .i64 (κ.win : Nat)) (.slice (some ⟨sa, 0, none⟩) J.length J.length) (.slice (some ⟨st, 0, none⟩) J.length J.length) (.slice fa' F'.length fc') (.string ⟨#[103, 105, 118, 101, 110, 32, 117, 112]⟩)) sa _ J.length := NS1.other7 X.d4 _ _ _ _ _ _ _
        have g2 : NumsAt (Go.Town.Kp.set7 w' rb (.string κ.rule.text) (.int .i64 (κ.bear : Nat)) (.int .i64 (κ.win : Nat)) (.slice (some ⟨sa, 0, none⟩) J.length J.length) (.slice (some ⟨st, 0, none⟩) J.length J.length) (.slice fa' F'.length fc') (.string ⟨#[103, 105, 118, 101, 110, 32, 117, 112]⟩)) st _ J.length := NS2.other7 X.d5 _ _ _ _ _ _ _
        have g3 : Below base w (Go.Town.Kp.set7 w' rb (.string κ.rule.text) (.int .i64 (κ.bear : Nat)) (.int .i64 (κ.win : Nat)) (.slice (some ⟨sa, 0, none⟩) J.length J.length) (.slice (some ⟨st, 0, none⟩) J.length J.length) (.slice fa' F'.length fc') (.string ⟨#[103, 105, 118, 101, 110, 32, 117, 112]⟩)) := NB.grown (grownBy_set7 _ _ _ _ _ _ _ _ _) (by omega) (fun q hq => by cases hq; exact X.b1)
        refine (show bodyPost Try.prog Try.f39 _ .ret _ (Go.Town.Kp.set7 w' rb (.string κ.rule.text) (.int .i64 (κ.bear : Nat)) (.int .i64 (κ.win : Nat)) (.slice (some ⟨sa, 0, none⟩) J.length J.length) (.slice (some ⟨st, 0, none⟩) J.length J.length) (.slice fa' F'.length fc') (.string ⟨#[103, 105, 118, 101, 110, 32, 117, 112]⟩)) from ?_)
        generalize Go.Town.Kp.set7 w' rb (.string κ.rule.text) (.int .i64 (κ.bear : Nat)) (.int .i64 (κ.win : Nat)) (.slice (some ⟨sa, 0, none⟩) J.length J.length) (.slice (some ⟨st, 0, none⟩) J.length J.length) (.slice fa' F'.length fc') (.string ⟨#[103, 105, 118, 101, 110, 32, 117, 112]⟩) = w5 at *
        obtain ⟨t0, t1, t2, t3, t4, t5, t6⟩ := s7
        refine bodyPost_ret (v := .tuple #[ROOM κ sa st J.length (.slice fa' F'.length fc') ⟨#[103, 105, 118, 101, 110, 32, 117, 112]⟩, .int .i64 (t : Nat)]) (by simp [results, Try.results39, go_sem, ROOM, t0, t1, t2, t3, t4, t5, t6]) rfl ?_
        refine ⟨sa, st, fa', F'.length, fc', ?_, by rw [hT2]; exact g1, by rw [hT2]; exact g2, by rw [← hfin.out]; exact g3, by have := X.b3; have := hfin.out; omega, by have := X.b4; have := hfin.out; omega, X.d1⟩
        rw [hT2]
        simp only [hov]
        rfl
    · obtain rfl : t = tn := by omega
      have hT2 : runT κ J t 0 St.zero = (s, t) := by rw [hT.out, Nat.sub_self]; rfl
      replace hT2 : Hid _ := ⟨hT2⟩
      have x0 : wr.cell? ⟨bx, 0, none⟩ = some (.string κ.rule.text) := (R.box 0 (by simp)).1
      have fx0 : wr.frozen? ⟨bx, 0, none⟩ = false := (R.box 0 (by simp)).2
      have x1 : wr.cell? ⟨bx, 1, none⟩ = some (.int .i64 (κ.bear : Nat)) := (R.box 1 (by simp)).1
      have fx1 : wr.frozen? ⟨bx, 1, none⟩ = false := (R.box 1 (by simp)).2
      have x2 : wr.cell? ⟨bx, 2, none⟩ = some (.int .i64 (κ.win : Nat)) := (R.box 2 (by simp)).1
      have fx2 : wr.frozen? ⟨bx, 2, none⟩ = false := (R.box 2 (by simp)).2
      have x3 : wr.cell? ⟨bx, 3, none⟩ = some (.slice (some ⟨sa, 0, none⟩) J.length J.length) := (R.box 3 (by simp)).1
      have fx3 : wr.frozen? ⟨bx, 3, none⟩ = false := (R.box 3 (by simp)).2
      have x4 : wr.cell? ⟨bx, 4, none⟩ = some (.slice (some ⟨st, 0, none⟩) J.length J.length) := (R.box 4 (by simp)).1
      have fx4 : wr.frozen? ⟨bx, 4, none⟩ = false := (R.box 4 (by simp)).2
      have x5 : wr.cell? ⟨bx, 5, none⟩ = some (.slice fa F.length fc) := (R.box 5 (by simp)).1
      have fx5 : wr.frozen? ⟨bx, 5, none⟩ = false := (R.box 5 (by simp)).2
      have x6 : wr.cell? ⟨bx, 6, none⟩ = some (.string ⟨#[]⟩) := (R.box 6 (by simp)).1
      have fx6 : wr.frozen? ⟨bx, 6, none⟩ = false := (R.box 6 (by simp)).2
      have y0 : wr.cell? ⟨rb, 0, none⟩ = some (.string ⟨#[]⟩) := (R.res 0 (by simp)).1
      have fy0 : wr.frozen? ⟨rb, 0, none⟩ = false := (R.res 0 (by simp)).2
      have y1 : wr.cell? ⟨rb, 1, none⟩ = some (.int .i64 0) := (R.res 1 (by simp)).1
      have fy1 : wr.frozen? ⟨rb, 1, none⟩ = false := (R.res 1 (by simp)).2
      have y2 : wr.cell? ⟨rb, 2, none⟩ = some (.int .i64 0) := (R.res 2 (by simp)).1
      have fy2 : wr.frozen? ⟨rb, 2, none⟩ = false := (R.res 2 (by simp)).2
      have y3 : wr.cell? ⟨rb, 3, none⟩ = some (.slice none 0 0) := (R.res 3 (by simp)).1
      have fy3 : wr.frozen? ⟨rb, 3, none⟩ = false := (R.res 3 (by simp)).2
      have y4 : wr.cell? ⟨rb, 4, none⟩ = some (.slice none 0 0) := (R.res 4 (by simp)).1
      have fy4 : wr.frozen? ⟨rb, 4, none⟩ = false := (R.res 4 (by simp)).2
      have y5 : wr.cell? ⟨rb, 5, none⟩ = some (.slice none 0 0) := (R.res 5 (by simp)).1
      have fy5 : wr.frozen? ⟨rb, 5, none⟩ = false := (R.res 5 (by simp)).2
      have y6 : wr.cell? ⟨rb, 6, none⟩ = some (.string ⟨#[]⟩) := (R.res 6 (by simp)).1
      have fy6 : wr.frozen? ⟨rb, 6, none⟩ = false := (R.res 6 (by simp)).2
      have hne : bx ≠ rb ∧ rb ≠ bx := ⟨Ne.symm X.d6, X.d6⟩
      replace R : Hid _ := ⟨R⟩
      clear hT
      go_wp2
      show Q .ret _ _
      rw [hQ.out]
      replace hT2 := hT2.out
      have NS1 : NumsAt (wr.setCell ⟨bx, 6, none⟩ (.string ⟨#[100, 111, 110, 101]⟩)) sa s.sum J.length := R.out.s1.other _ X.d2
      have NS2 : NumsAt (wr.setCell ⟨bx, 6, none⟩ (.string ⟨#[100, 111, 110, 101]⟩)) st s.starts J.length := R.out.s2.other _ X.d3
      have NB : Below base w (wr.setCell ⟨bx, 6, none⟩ (.string ⟨#[100, 111, 110, 101]⟩)) := R.out.below.setCell (p := ⟨bx, 6, none⟩) X.b2 _
      have hsw := R.out.below.size
      have hq1 := hfin.out
      have hex : ∀ j, j < 7 → ∃ v, (wr.setCell ⟨bx, 6, none⟩ (.string ⟨#[100, 111, 110, 101]⟩)).cell? ⟨rb, j, none⟩ = some v := fun j hj => by
        rw [cell_setCell_ne _ _ (.inl hne.1)]
        exact R.out.res.ex (by simpa using hj)
      have hov := ho.out
      have hsz6 : (wr.setCell ⟨bx, 6, none⟩ (.string ⟨#[100, 111, 110, 101]⟩)).heap.size = wr.heap.size := by simp [World.setCell]
      have s7 := set7_cells (w := (wr.setCell ⟨bx, 6, none⟩ (.string ⟨#[100, 111, 110, 101]⟩))) (rx := rb) (fun j hj => hex j hj) (.string κ.rule.text) (.int .i64 (κ.bear : Nat)) (.int .i64 (κ.win : Nat)) (.slice (some ⟨sa, 0, none⟩) J.length J.length) (.slice (some ⟨st, 0, none⟩) J.length J.length) (.slice fa F.length fc) (.string ⟨#[100, 111, 110, 101]⟩)
      have g1 : NumsAt (Go.Town.Kp.set7 (wr.setCell ⟨bx, 6, none⟩ (.string ⟨#[100, 111, 110, 101]⟩)) rb (.string κ.rule.text) (.int .i64 (κ.bear : Nat)) (.int .i64 (κ.win : Nat)) (.slice (some ⟨sa, 0, none⟩) J.length J.length) (.slice (some ⟨st, 0, none⟩) J.length J.length) (.slice fa F.length fc) (.string ⟨#[100, 111, 110, 101]⟩)) sa _ J.length := NS1.other7 X.d4 _ _ _ _ _ _ _
      have g2 : NumsAt (Go.Town.Kp.set7 (wr.setCell ⟨bx, 6, none⟩ (.string ⟨#[100, 111, 110, 101]⟩)) rb (.string κ.rule.text) (.int .i64 (κ.bear : Nat)) (.int .i64 (κ.win : Nat)) (.slice (some ⟨sa, 0, none⟩) J.length J.length) (.slice (some ⟨st, 0, none⟩) J.length J.length) (.slice fa F.length fc) (.string ⟨#[100, 111, 110, 101]⟩)) st _ J.length := NS2.other7 X.d5 _ _ _ _ _ _ _
      have g3 : Below base w (Go.Town.Kp.set7 (wr.setCell ⟨bx, 6, none⟩ (.string ⟨#[100, 111, 110, 101]⟩)) rb (.string κ.rule.text) (.int .i64 (κ.bear : Nat)) (.int .i64 (κ.win : Nat)) (.slice (some ⟨sa, 0, none⟩) J.length J.length) (.slice (some ⟨st, 0, none⟩) J.length J.length) (.slice fa F.length fc) (.string ⟨#[100, 111, 110, 101]⟩)) := NB.grown (grownBy_set7 _ _ _ _ _ _ _ _ _) (by omega) (fun q hq => by cases hq; exact X.b1)
      refine (show bodyPost Try.prog Try.f39 _ .ret _ (Go.Town.Kp.set7 (wr.setCell ⟨bx, 6, none⟩ (.string ⟨#[100, 111, 110, 101]⟩)) rb (.string κ.rule.text) (.int .i64 (κ.bear : Nat)) (.int .i64 (κ.win : Nat)) (.slice (some ⟨sa, 0, none⟩) J.length J.length) (.slice (some ⟨st, 0, none⟩) J.length J.length) (.slice fa F.length fc) (.string ⟨#[100, 111, 110, 101]⟩)) from ?_)
      generalize Go.Town.Kp.set7 (wr.setCell ⟨bx, 6, none⟩ (.string ⟨#[100, 111, 110, 101]⟩)) rb (.string κ.rule.text) (.int .i64 (κ.bear : Nat)) (.int .i64 (κ.win : Nat)) (.slice (some ⟨sa, 0, none⟩) J.length J.length) (.slice (some ⟨st, 0, none⟩) J.length J.length) (.slice fa F.length fc) (.string ⟨#[100, 111, 110, 101]⟩) = w5 at *
      obtain ⟨t0, t1, t2, t3, t4, t5, t6⟩ := s7
      refine bodyPost_ret (v := .tuple #[ROOM κ sa st J.length (.slice fa F.length fc) ⟨#[100, 111, 110, 101]⟩, .int .i64 (t : Nat)]) (by simp [results, Try.results39, go_sem, ROOM, t0, t1, t2, t3, t4, t5, t6]) rfl ?_
      refine ⟨sa, st, fa, F.length, fc, ?_, by rw [hT2]; exact g1, by rw [hT2]; exact g2, by rw [← hfin.out]; exact g3, by have := X.b3; have := hfin.out; omega, by have := X.b4; have := hfin.out; omega, X.d1⟩
      rw [hT2]
      simp only [hov]
      rfl
end Go.Town.Kp
namespace Go.Town.Kp
open Go Go.Conc Go.Conc.Lib Go.ConcR.Gen Go.RowKit Go.Town Go.Proofs
noncomputable def okBody (ok : FuncId → Bool) (f : FuncId) : Bool := match Try.prog.funcs[f]? with
  | some fn => (match fn.body with | some c => okCode Try.prog ok c | none => true)
  | none => true
theorem okProg_of {ok : FuncId → Bool} (l : List FuncId) (hl : ∀ f, ok f = true → f ∈ l) (h : ∀ f ∈ l, okBody ok f = true) : OkProg Try.prog ok := by
  intro f fn hf hfn c hc
  have := h f (hl f hf)
  unfold okBody at this
  rw [hfn] at this
  simp only [hc] at this
  exact this
def listT : List FuncId := [25, 35, 37, 46]
theorem okProgT : OkProg Try.prog okT := okProg_of listT (fun f h => by simpa [okT, listT] using h) (List.all_eq_true.1 (show (listT.all (okBody okT)) = true by kernel_rfl))
theorem Try.info28 : (Try.prog.info? 28).map (fun i => (i.zero, i.size, i.bytes)) = some (some (.slice none 0 0), 1, 24) := by kernel_rfl
end Go.Town.Kp
namespace Go.Town.Kp
open Go Go.Conc Go.Conc.Lib Go.ConcR.Gen Go.RowKit Go.Town Go.Proofs
open Go.ConcN (upd upd_ne upd_same)
def KeepPost (l : List UInt8) (f t : Int) (J : List (List Int)) (w : World) (e : Ending) (w' : World) : Prop :=
  Below w.heap.size w w' ∧ (((vK l f t && vT J) = false ∧ e = .returned (.tuple #[.agg #[.slice none 0 0, .slice none 0 0, .string ⟨#[]⟩, .int .i64 0], .bool false])) ∨
    ∃ (κ : Kr) (sa st : Nat), l = κ.rule.text.data.toList ∧ f = (κ.bear : Nat) ∧ t = (κ.win : Nat) ∧ (vK l f t && vT J) = true ∧
      e = .returned (.tuple #[.agg #[.slice (some ⟨sa, 0, none⟩) J.length J.length, .slice (some ⟨st, 0, none⟩) J.length J.length, .string (endText (runT κ J (mxR J J.length) 0 St.zero).1.over), .int .i64 ((runT κ J (mxR J J.length) 0 St.zero).2 : Nat)], .bool true]) ∧
      NumsAt w' sa (runT κ J (mxR J J.length) 0 St.zero).1.sum J.length ∧ NumsAt w' st (runT κ J (mxR J J.length) 0 St.zero).1.starts J.length)
end Go.Town.Kp
namespace Go.Town.Kp
open Go Go.Conc Go.Conc.Lib Go.ConcR.Gen Go.RowKit Go.Town Go.Proofs
open Go.ConcN (upd upd_ne upd_same)
end Go.Town.Kp
namespace Go.Town.Kp
open Go Go.Conc Go.Conc.Lib Go.ConcR.Gen Go.RowKit Go.Town Go.Proofs
open Go.ConcN (upd upd_ne upd_same)
def Kd (q : List UInt8) (f t : Int) (J : List (List Int)) (g : Bool) (R1 R2 : List Int) (E : ByteArray) (A : Int) : Prop :=
  ((vK q f t && vT J) = false ∧ g = false ∧ R1 = [] ∧ R2 = [] ∧ E = ⟨#[]⟩ ∧ A = 0) ∨
  ∃ κ : Kr, q = κ.rule.text.data.toList ∧ f = (κ.bear : Nat) ∧ t = (κ.win : Nat) ∧ (vK q f t && vT J) = true ∧ g = true ∧
    R1 = (List.range J.length).map (runT κ J (mxR J J.length) 0 St.zero).1.sum ∧ R2 = (List.range J.length).map (runT κ J (mxR J J.length) 0 St.zero).1.starts ∧ E = endText (runT κ J (mxR J J.length) 0 St.zero).1.over ∧ A = ((runT κ J (mxR J J.length) 0 St.zero).2 : Nat)
theorem kr_one {κ κ' : Kr} (h1 : κ'.rule.text.data.toList = κ.rule.text.data.toList) (h2 : (κ'.bear : Int) = (κ.bear : Nat)) (h3 : (κ'.win : Int) = (κ.win : Nat)) : κ' = κ := by
  obtain ⟨r, be, wi⟩ := κ; obtain ⟨r', be', wi'⟩ := κ'
  have e : r' = r := by
    simp only at h1
    cases r <;> cases r' <;> first | rfl | (simp [Rule.text] at h1)
  simp only at h2 h3
  subst e
  have : be' = be := by omega
  have : wi' = wi := by omega
  simp_all
theorem Kd.one {q : List UInt8} {f t : Int} {J : List (List Int)} {g g' : Bool} {R1 R2 S1 S2 : List Int} {E E' : ByteArray} {A A' : Int} (h : Kd q f t J g R1 R2 E A) (k : Kd q f t J g' S1 S2 E' A') : g' = g ∧ S1 = R1 ∧ S2 = R2 ∧ E' = E ∧ A' = A := by
  rcases h with ⟨h1, rfl, rfl, rfl, rfl, rfl⟩ | ⟨κ, h1, h2, h3, h4, rfl, rfl, rfl, rfl, rfl⟩
  · rcases k with ⟨_, rfl, rfl, rfl, rfl, rfl⟩ | ⟨κ', k1, k2, k3, k4, _⟩
    · exact ⟨rfl, rfl, rfl, rfl, rfl⟩
    · rw [k4] at h1; cases h1
  · rcases k with ⟨k1, _⟩ | ⟨κ', k1, k2, k3, k4, rfl, rfl, rfl, rfl, rfl⟩
    · rw [k1] at h4; cases h4
    · have e := kr_one (κ := κ) (κ' := κ') (k1.symm.trans h1) (k2.symm.trans h2) (k3.symm.trans h3)
      subst e; exact ⟨rfl, rfl, rfl, rfl, rfl⟩
theorem Kd.len {q : List UInt8} {f t : Int} {J : List (List Int)} {g : Bool} {R1 R2 : List Int} {E : ByteArray} {A : Int} (h : Kd q f t J g R1 R2 E A) (hn : J.length ≤ 1048576) : R1.length ≤ 1048576 ∧ R2.length ≤ 1048576 := by
  rcases h with ⟨h1, rfl, rfl, rfl, rfl, rfl⟩ | ⟨κ, h1, h2, h3, h4, rfl, rfl, rfl, rfl, rfl⟩
  · exact ⟨by simp, by simp⟩
  · exact ⟨by simpa using hn, by simpa using hn⟩
theorem nums_ints {w : World} {x : Nat} {fn : Nat → Int} {n : Nat} (h : NumsAt w x fn n) : IntsAt w (some ⟨x, 0, none⟩) ((List.range n).map fn) := by
  by_cases h0 : n = 0
  · exact .inl (by simp [h0])
  · exact .inr ⟨x, 0, rfl, block_lt (h 0 (by omega)).1, fun i hi => by
      simp only [List.length_map, List.length_range] at hi
      rw [Nat.zero_add, (h i hi).1]; simp [List.getD, hi]⟩
theorem put4 {B rb : Nat} {w : World} {vs : List Value} (hr : Reads w rb vs) (hv : vs.length = 4) (hB : B ≤ rb) (x0 x1 x2 x3 : Value) (T : Nat → Question → Nat) (d : Nat) :
    Kin B w (set4 (w.re T d) rb x0 x1 x2 x3) ∧ Reads (set4 (w.re T d) rb x0 x1 x2 x3) rb [x0, x1, x2, x3] ∧ (set4 (w.re T d) rb x0 x1 x2 x3).heap.size = w.heap.size := by
  obtain ⟨s0, s1, s2, s3⟩ := set4_cells (w := w.re T d) (rb := rb) (fun j hj => by obtain ⟨v, h⟩ := hr.ex (j := j) (by omega); exact ⟨v, h⟩) x0 x1 x2 x3
  refine ⟨(((((Kin.refl B w).re T d).set _ hB).set _ hB).set _ hB).set _ hB, ?_, ?_⟩
  · intro j hj
    simp only [List.length_cons, List.length_nil] at hj
    have hf : (set4 (w.re T d) rb x0 x1 x2 x3).frozen? ⟨rb, j, none⟩ = false := by
      unfold set4
      rw [frozen_setCell, frozen_setCell, frozen_setCell, frozen_setCell]; exact (hr j (by omega)).2
    refine ⟨?_, hf⟩
    generalize set4 (w.re T d) rb x0 x1 x2 x3 = w₄ at *
    obtain rfl | rfl | rfl | rfl : j = 0 ∨ j = 1 ∨ j = 2 ∨ j = 3 := by omega
    · exact s0
    · exact s1
    · exact s2
    · exact s3
  · unfold set4
    simp only [World.size_setCell]
    rfl
structure Ans (B : Nat) (R1 R2 : List Int) (d1 d2 : Option Addr) (w : World) : Prop where
  i1 : IntsAt w d1 R1
  i2 : IntsAt w d2 R2
  lo1 : ∀ x, d1 = some x → B ≤ x.block
  lo2 : ∀ x, d2 = some x → B ≤ x.block
theorem Ans.kin {B : Nat} {R1 R2 : List Int} {w w' : World} {d1 d2 : Option Addr} (h : Ans B R1 R2 d1 d2 w) (k : Kin w.heap.size w w') : Ans B R1 R2 d1 d2 w' :=
  ⟨h.i1.kept k.cells k.size, h.i2.kept k.cells k.size, h.lo1, h.lo2⟩
end Go.Town.Kp
namespace Go.Town.Kp
open Go Go.Conc Go.Conc.Lib Go.ConcR.Gen Go.RowKit Go.Town Go.Proofs
theorem blk_set {w : World} {b o : Nat} {c : Array Value} {t : TypeId} {f : Nat × Nat} (h : w.heap[b]? = some (.cells c t f)) (v : Value) : (w.setCell ⟨b, o, none⟩ v).heap[b]? = some (.cells (c.setIfInBounds o v) t f) := by
  simp only [World.setCell, Array.getElem?_modify]
  simp [h]
theorem blk_cell {w : World} {b o : Nat} {c : Array Value} {t : TypeId} {f : Nat × Nat} (h : w.heap[b]? = some (.cells c t f)) : w.cell? ⟨b, o, none⟩ = c[o]? := by
  simp [World.cell?, h]
theorem blk_frozen {w : World} {b o : Nat} {c : Array Value} {t : TypeId} (h : w.heap[b]? = some (.cells c t (0, 0))) : w.frozen? ⟨b, o, none⟩ = false := by
  simp [World.frozen?, h]
theorem hidC {P : Program} {f : FuncId} {args : Array Value} {w : World} {Q : Ending → World → Prop} (h : Calls P f args w Q) : RowKit.Hid (Calls P f args w Q) := h
theorem ownsRow_base {w : World} {b b' e size n : Nat} {v : Value} {xs : List Value} (h : w.ownsRow b e size v n xs) (hb : b' ≤ b) : w.ownsRow b' e size v n xs := by
  obtain ⟨h1, h2⟩ := h
  refine ⟨h1, ?_⟩
  rcases h2 with h2 | ⟨g, cap, cur, e1, e2, e3⟩
  · exact .inl h2
  · exact .inr ⟨g, cap, cur, e1, Nat.le_trans hb e2, e3⟩
theorem ownsRow_empty (w : World) (e : TypeId) (n : Nat) : (w.alloc (.cells #[] e)).ownsRow w.heap.size e n (.slice (some ⟨w.heap.size, 0, none⟩) 0 0) 0 [] :=
  ⟨by simp, .inr ⟨w.heap.size, 0, #[], rfl, Nat.le_refl _, heap_alloc_new _ _, Nat.le_refl _, Nat.zero_le _, by simp, by simp⟩⟩
structure Texts (w : World) (g : Nat) (ws : List (List UInt8)) : Prop where
  lt : g < w.heap.size
  at' : ∀ k (h : k < ws.length), w.cell? ⟨g, k, none⟩ = some (.string ⟨ws[k].toArray⟩)
theorem Texts.block {w w' : World} {g : Nat} {ws : List (List UInt8)} (h : Texts w g ws) (hg : w'.heap[g]? = w.heap[g]?) : Texts w' g ws := by
  have hl := (Array.getElem?_eq_some_iff.1 (hg.trans (Array.getElem?_eq_getElem h.lt))).1
  refine ⟨hl, fun k hk => ?_⟩
  rw [← h.at' k hk]
  unfold World.cell?
  simp only [hg]
def BytesAt (w : World) (a : Option Addr) (bs : List Int) : Prop :=
  bs = [] ∨ ∃ b off, a = some ⟨b, off, none⟩ ∧ b < w.heap.size ∧ ∀ i, i < bs.length → w.cell? ⟨b, off + i, none⟩ = some (.int .u8 (bs.getD i 0))
theorem BytesAt.below {w w' : World} {a : Option Addr} {zs : List Int} (h : BytesAt w a zs) {B : Nat} (hw : Below B w w') (hB : w.heap.size ≤ B) : BytesAt w' a zs := by
  rcases h with rfl | ⟨b, off, rfl, hb, hc⟩
  · exact .inl rfl
  · exact .inr ⟨b, off, rfl, Nat.lt_of_lt_of_le hb hw.size, fun i hi => (hw.cell (by show b < B; omega)).trans (hc i hi)⟩
def InU8 (n : Int) : Prop := 0 ≤ n ∧ n ≤ 255
theorem grownBy_setCell_off (W : World) (b o : Nat) (v : Value) : W.grownBy (W.setCell ⟨b, o, none⟩ v) (some b) :=
  ⟨rfl, rfl, rfl, (by rw [World.size_setCell]; exact Nat.le_refl _), fun k _ hk => Below.heap_setCell _ _ _ k (fun e => hk (by rw [e]))⟩
theorem bits_xor_i64_nat (a b : Nat) (ha : a < 9223372036854775808) (hb : b < 9223372036854775808) :
    bits .xor .i64 (a : Int) (b : Int) = ((a ^^^ b : Nat) : Int) := by
  have hx : a ^^^ b < 2 ^ 63 := Nat.xor_lt_two_pow (by omega) (by omega)
  have h1 : (BitVec.ofInt 64 (a : Int)).toNat = a := by
    rw [BitVec.ofInt_natCast, BitVec.toNat_ofNat]; exact Nat.mod_eq_of_lt (by omega)
  have h2 : (BitVec.ofInt 64 (b : Int)).toNat = b := by
    rw [BitVec.ofInt_natCast, BitVec.toNat_ofNat]; exact Nat.mod_eq_of_lt (by omega)
  show IntKind.i64.wrap ((BitVec.ofInt 64 (a : Int) ^^^ BitVec.ofInt 64 (b : Int)).toNat : Int) = _
  rw [BitVec.toNat_xor, h1, h2]
  simp only [IntKind.wrap, IntKind.bits, IntKind.signed]
  simp
  omega
theorem mix_nonneg {v : Int} (h0 : 0 ≤ v) (h1 : v < 9223372036854775808) : 0 ≤ bits .xor .i64 v (v / 64) := by
  obtain ⟨n, rfl⟩ := Int.eq_ofNat_of_zero_le h0
  rw [show ((n : Int) / 64) = ((n / 64 : Nat) : Int) by simp, bits_xor_i64_nat n (n / 64) (by omega) (by omega)]
  omega
theorem grownBy_drewN {w w' : World} {r : Option Nat} (h : w.grownBy w' r) (n : Nat) : w.grownBy (w'.drewN n) r := ⟨h.os, h.tape, h.output, h.size, h.block⟩
structure Rd (w : World) (g0 g : Nat) (p : Nat) : Prop where
  ex : ∃ (bs : List Int) (a : Option Addr) (c : Nat), w.heap[g]? = some (.cells #[.slice a bs.length c, .int .i64 p] 70 (0, 0)) ∧ bs.length ≤ 2000 ∧ (∀ b ∈ bs, InU8 b) ∧
    (bs = [] ∨ ∃ b off, a = some ⟨b, off, none⟩ ∧ b < g0 ∧ ∀ i, i < bs.length → w.cell? ⟨b, off + i, none⟩ = some (.int .u8 (bs.getD i 0)))
  le : g0 ≤ g
set_option maxRecDepth 100000 in
set_option maxHeartbeats 1000000 in
theorem pick_any (g0 g p : Nat) (n : Int) (w : World) (hR : Rd w g0 g p) (hp : p ≤ 1000000000) (hn : n ≤ 1000000000) :
    Calls Try.prog 42 #[.pointer (some ⟨g, 0, none⟩), .int .i64 n] w fun e w' => ∃ x : Int, e = .returned (.int .i64 x) ∧ 0 ≤ x ∧ (x < n ∨ x = 0) ∧ Rd w' g0 g (p + 1) ∧ w.grownBy w' (some g) := by
  obtain ⟨⟨bs, a, c, hg, hbl, hu8, hby⟩, hle⟩ := hR
  have c0 : w.cell? ⟨g, 0, none⟩ = some (.slice a bs.length c) := by rw [blk_cell hg]; rfl
  have c1 : w.cell? ⟨g, 1, none⟩ = some (.int .i64 p) := by rw [blk_cell hg]; rfl
  have f1 : w.frozen? ⟨g, 1, none⟩ = false := blk_frozen hg
  have hs := blk_set hg (o := 1) (.int .i64 (p + 1))
  have hs' : (w.setCell ⟨g, 1, none⟩ (.int .i64 (p + 1))).heap[g]? = some (.cells #[.slice a bs.length c, .int .i64 ((p + 1 : Nat) : Int)] 70 (0, 0)) := by rw [hs]; simp
  have hgr := grownBy_setCell_off w g 1 (.int .i64 (p + 1))
  have hR' : Rd (w.setCell ⟨g, 1, none⟩ (.int .i64 (p + 1))) g0 g (p + 1) := ⟨⟨bs, a, c, hs', hbl, hu8, by
    rcases hby with h | ⟨b, off, rfl, hb, hc⟩
    · exact .inl h
    · refine .inr ⟨b, off, rfl, hb, fun i hi => ?_⟩
      rw [← hc i hi]
      unfold World.cell?
      rw [Below.heap_setCell _ _ _ b (by simp; omega)]⟩, hle⟩
  by_cases h1 : n < 1
  · have h1' : decide (n < 1) = true := by simpa using h1
    go_enter Try.func42, Try.ntmps42
    go_wp2
    go_ret
    exact ⟨0, rfl, Int.le_refl _, .inr rfl, hR', hgr⟩
  · have h1' : decide (n < 1) = false := by simpa using h1
    by_cases h0 : bs.length = 0
    · have h0' : ((bs.length : Int) == 0) = true := by simpa using h0
      go_enter Try.func42, Try.ntmps42
      go_wp2
      go_ret
      exact ⟨0, rfl, Int.le_refl _, .inr rfl, hR', hgr⟩
    · have h0' : ((bs.length : Int) == 0) = false := beq_eq_false_iff_ne.2 (by omega)
      rcases hby with rfl | ⟨b, off, rfl, hb, hc⟩
      · simp at h0
      have hcell : ∀ i, i < bs.length → ∃ x : Int, InU8 x ∧ (w.setCell ⟨g, 1, none⟩ (.int .i64 (p + 1))).cell? ⟨b, off + i, none⟩ = some (.int .u8 x) := fun i hi => by
        refine ⟨bs.getD i 0, ?_, ?_⟩
        · have : bs.getD i 0 = bs[i] := by simp [List.getD, hi]
          rw [this]; exact hu8 _ (by simp)
        · rw [← hc i hi]
          unfold World.cell?
          rw [Below.heap_setCell _ _ _ b (by simp; omega)]
      by_cases hlt : p < bs.length
      · obtain ⟨x, hx, hcx⟩ := hcell p hlt
        clear hcell hc hs hg hu8
        obtain ⟨hx1, hx2⟩ := hx
        go_enter Try.func42, Try.ntmps42
        go_wp2
        go_ret
        exact ⟨x % n, rfl, Int.emod_nonneg _ (by omega), .inl (Int.emod_lt_of_pos _ (by omega)), hR', hgr⟩
      · have hge : ¬ (p : Int) < (bs.length : Int) := by omega
        obtain ⟨q1, hq1⟩ : ∃ q, q = p % bs.length := ⟨_, rfl⟩
        obtain ⟨q2, hq2⟩ : ∃ q, q = (p * 7 + 3) % bs.length := ⟨_, rfl⟩
        obtain ⟨q3, hq3⟩ : ∃ q, q = p / bs.length := ⟨_, rfl⟩
        have l1 : q1 < bs.length := hq1 ▸ Nat.mod_lt _ (by omega)
        have l2 : q2 < bs.length := hq2 ▸ Nat.mod_lt _ (by omega)
        have l3 : q3 ≤ p := hq3 ▸ Nat.div_le_self _ _
        have e1 : (p : Int) % (bs.length : Int) = (q1 : Int) := by rw [hq1]; rfl
        have e2 : ((p : Int) * 7 + 3) % (bs.length : Int) = (q2 : Int) := by rw [hq2]; rfl
        have e3 : (p : Int) / (bs.length : Int) = (q3 : Int) := by rw [hq3]; rfl
        obtain ⟨x, hx, hcx⟩ := hcell q1 l1
        obtain ⟨y, hy, hcy⟩ := hcell q2 l2
        clear hcell hc hs hg hu8 hq1 hq2 hq3
        obtain ⟨hx1, hx2⟩ := hx
        obtain ⟨hy1, hy2⟩ := hy
        go_enter Try.func42, Try.ntmps42
        go_wp2
        go_quiet (fail)
        go_wp2
        go_ret
        have hm := mix_nonneg (v := x * 131 + y * 1117 + p * 29 + q3 * 53) (by omega) (by omega)
        obtain ⟨bb, a, c, z1, z2, z3, z4⟩ := hR'.ex
        exact ⟨_, rfl, Int.tmod_nonneg _ hm, .inl (Int.tmod_lt_of_pos _ (by omega)), ⟨⟨bb, a, c, z1, z2, z3, z4⟩, hle⟩, grownBy_drewN hgr _⟩
theorem cells_kept {w w' : World} {g gl : Nat} {zs : List Int} (h : ∀ (i : Nat) (hi : i < zs.length), w.cell? ⟨gl, i, none⟩ = some (.int .i64 zs[i])) (hl : gl < w.heap.size) (hne : gl ≠ g) (hg : w.grownBy w' (some g)) : ∀ (i : Nat) (hi : i < zs.length), w'.cell? ⟨gl, i, none⟩ = some (.int .i64 zs[i]) := fun i hi => by
  rw [← h i hi]
  unfold World.cell?
  rw [hg.block gl hl (by intro e; injection e with e; exact hne e)]
set_option maxRecDepth 100000 in
set_option maxHeartbeats 400000 in
theorem num_any (g0 g p gl c : Nat) (zs : List Int) (w : World) (hR : Rd w g0 g p) (hp : p ≤ 1000000000) (hne : gl ≠ g) (hl : gl < w.heap.size) (hz : zs ≠ []) (hz2 : zs.length ≤ 1000) (hc : ∀ (i : Nat) (hi : i < zs.length), w.cell? ⟨gl, i, none⟩ = some (.int .i64 zs[i])) :
    Calls Try.prog 41 #[.pointer (some ⟨g, 0, none⟩), .slice (some ⟨gl, 0, none⟩) zs.length c] w fun e w' => ∃ x : Int, e = .returned (.int .i64 x) ∧ x ∈ zs ∧ Rd w' g0 g (p + 1) ∧ w.grownBy w' (some g) := by
  have hpos : 0 < zs.length := by cases zs with | nil => exact absurd rfl hz | cons _ _ => simp
  have hk := hidC (pick_any g0 g p zs.length w hR hp (by omega))
  have hc' := fun w' h => cells_kept (w' := w') hc hl hne h
  go_enter Try.func41, Try.ntmps41
  go_wp2_with fail
  refine hk.out.mono ?_
  rintro e w1 ⟨x, rfl, hx0, hx1, hR1, hg1⟩
  obtain ⟨n, rfl⟩ := Int.eq_ofNat_of_zero_le hx0
  have hlt : n < zs.length := by omega
  have hcell := hc' w1 hg1 n hlt
  clear hc hc' hk
  go_wp2
  go_ret
  exact ⟨_, rfl, by simp, hR1, hg1⟩
theorem Texts.kept {w w' : World} {g gl : Nat} {ws : List (List UInt8)} (h : Texts w gl ws) (hne : gl ≠ g) (hg : w.grownBy w' (some g)) : Texts w' gl ws :=
  h.block (hg.block gl h.lt (by intro e; injection e with e; exact hne e))
set_option maxRecDepth 100000 in
set_option maxHeartbeats 400000 in
theorem of_any (g0 g p gl c : Nat) (ws : List (List UInt8)) (w : World) (hR : Rd w g0 g p) (hp : p ≤ 1000000000) (hne : gl ≠ g) (hz : ws ≠ []) (hz2 : ws.length ≤ 1000) (hT : Texts w gl ws) :
    Calls Try.prog 47 #[.pointer (some ⟨g, 0, none⟩), .slice (some ⟨gl, 0, none⟩) ws.length c] w fun e w' => ∃ x : List UInt8, e = .returned (.string ⟨x.toArray⟩) ∧ x ∈ ws ∧ Rd w' g0 g (p + 1) ∧ w.grownBy w' (some g) := by
  have hpos : 0 < ws.length := by cases ws with | nil => exact absurd rfl hz | cons _ _ => simp
  have hk := hidC (pick_any g0 g p ws.length w hR hp (by omega))
  go_enter Try.func47, Try.ntmps47
  go_wp2_with fail
  refine hk.out.mono ?_
  rintro e w1 ⟨x, rfl, hx0, hx1, hR1, hg1⟩
  obtain ⟨n, rfl⟩ := Int.eq_ofNat_of_zero_le hx0
  have hlt : n < ws.length := by omega
  have hcell := (hT.kept hne hg1).at' n hlt
  clear hT hk
  go_wp2
  go_ret
  exact ⟨ws[n], rfl, by simp, hR1, hg1⟩
set_option maxRecDepth 100000 in
set_option maxHeartbeats 400000 in
theorem l11Open_any (a : Option Addr) (c : Nat) (bs : List Int) (w : World) (hA : BytesAt w a bs) (hu : ∀ b ∈ bs, InU8 b) (hcap : bs.length ≤ c) :
    Calls Try.prog 32 #[.slice a bs.length c] w fun e w' => e = .returned (.pointer (some ⟨w.heap.size, 0, none⟩)) ∧ Rd w' w.heap.size w.heap.size 0 ∧ Below w.heap.size w w' := by
  by_cases hn : 2000 < bs.length
  · have hn' : (2000 : Int) < (bs.length : Int) := by omega
    go_enter Try.func32, Try.ntmps32
    go_wp2
    go_ret
    refine ⟨rfl, ⟨⟨bs.take 2000, a, c, ?_, by simp; omega, fun b hb => hu b (List.mem_of_mem_take hb), ?_⟩, Nat.le_refl _⟩, (Below.refl _ _).alloc (Nat.le_refl _) _⟩
    · rw [List.length_take, show min 2000 bs.length = 2000 by omega]; exact heap_alloc_new _ _
    · rcases hA with h | ⟨b, off, rfl, hb, hc⟩
      · rw [h] at hn; simp at hn
      · refine .inr ⟨b, off, rfl, hb, fun i hi => ?_⟩
        rw [show (bs.take 2000).getD i 0 = bs.getD i 0 by rw [List.length_take] at hi; simp only [List.getD]; rw [List.getElem?_take_of_lt (by omega)], ← hc i (by simp at hi; omega)]
        exact ((Below.refl _ w).alloc (Nat.le_refl _) _).cell (by show b < _; omega)
  · have hn' : ¬ (2000 : Int) < (bs.length : Int) := by omega
    go_enter Try.func32, Try.ntmps32
    go_wp2
    go_ret
    refine ⟨rfl, ⟨⟨bs, a, c, heap_alloc_new _ _, by omega, hu, ?_⟩, Nat.le_refl _⟩, (Below.refl _ _).alloc (Nat.le_refl _) _⟩
    rcases hA with h | ⟨b, off, rfl, hb, hc⟩
    · exact .inl h
    · refine .inr ⟨b, off, rfl, hb, fun i hi => ?_⟩
      rw [← hc i hi]
      exact ((Below.refl _ w).alloc (Nat.le_refl _) _).cell (by show b < _; omega)
theorem Rd.kept {w w' : World} {g0 g p : Nat} {row : Option Nat} (h : Rd w g0 g p) (hg : w.grownBy w' row) (hr : ∀ r, row = some r → g0 ≤ r ∧ r ≠ g) (hl : g < w.heap.size) : Rd w' g0 g p := by
  obtain ⟨⟨bs, a, c, h1, h2, h3, h4⟩, hle⟩ := h
  refine ⟨⟨bs, a, c, (hg.block g hl (fun e => (hr g e.symm).2 rfl)).trans h1, h2, h3, ?_⟩, hle⟩
  rcases h4 with h4 | ⟨b, off, rfl, hb, hc⟩
  · exact .inl h4
  · refine .inr ⟨b, off, rfl, hb, fun i hi => ?_⟩
    rw [← hc i hi]
    unfold World.cell?
    rw [hg.block b (by omega) (fun e => by have := (hr b e.symm).1; omega)]
theorem Rd.lt {w : World} {g0 g p : Nat} (h : Rd w g0 g p) : g < w.heap.size := by
  obtain ⟨⟨bs, a, c, h1, _⟩, _⟩ := h
  exact (Array.getElem?_eq_some_iff.1 h1).1
theorem grownBy_set_new {w w' : World} {r : Option Nat} {x j : Nat} (h : w.grownBy w' r) (hx : w.heap.size ≤ x) (v : Value) : w.grownBy (w'.setCell ⟨x, j, none⟩ v) r :=
  ⟨h.os, h.tape, h.output, by rw [World.size_setCell]; exact h.size, fun k hk hne => (Below.heap_setCell _ _ _ k (by simp; omega)).trans (h.block k hk hne)⟩
theorem Rd.same {w w' : World} {g0 g p : Nat} (h : Rd w g0 g p) (hw : w'.heap = w.heap) : Rd w' g0 g p := by
  obtain ⟨⟨bs, a, c, h1, h2, h3, h4⟩, hle⟩ := h
  refine ⟨⟨bs, a, c, by rw [hw]; exact h1, h2, h3, ?_⟩, hle⟩
  rcases h4 with h4 | ⟨b, off, rfl, hb, hc⟩
  · exact .inl h4
  · exact .inr ⟨b, off, rfl, hb, fun i hi => by rw [← hc i hi]; unfold World.cell?; rw [hw]⟩
end Go.Town.Kp
