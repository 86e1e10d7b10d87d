/-
  The reference's RunKeeper, where all is valid.
  What RunKeeper answers, told without memory (the lean form, for the laws of P9).
-/
import Derived.Test.YtihmcigoofhpmaaZbl
set_option linter.all false
namespace Go.Town.Kp
open Go Go.Conc Go.Conc.Lib Go.ConcR.Gen Go.RowKit Go.Town Go.Proofs
open Go.ConcN (upd upd_ne upd_same)
theorem set7_far {w : World} {y x i : Nat} {v a b c d e f g : Value} (hy : x ≠ y) (h : w.cell? ⟨x, i, none⟩ = some v ∧ w.frozen? ⟨x, i, none⟩ = false) : (Go.Town.Kp.set7 w y a b c d e f g).cell? ⟨x, i, none⟩ = some v ∧ (Go.Town.Kp.set7 w y a b c d e f g).frozen? ⟨x, i, none⟩ = false := by
  have hy' := Ne.symm hy
  unfold Go.Town.Kp.set7
  refine ⟨?_, ?_⟩
  · rw [cell_setCell_ne _ _ (.inl hy'), cell_setCell_ne _ _ (.inl hy'), cell_setCell_ne _ _ (.inl hy'), cell_setCell_ne _ _ (.inl hy'), cell_setCell_ne _ _ (.inl hy'), cell_setCell_ne _ _ (.inl hy'), cell_setCell_ne _ _ (.inl hy')]
    exact h.1
  · rw [frozen_setCell, frozen_setCell, frozen_setCell, frozen_setCell, frozen_setCell, frozen_setCell, frozen_setCell]
    exact h.2
theorem sets7 {w : World} {x y : Nat} {a0 a1 a2 a3 a4 a5 a6 v0 v1 v2 : Value} (hne : y ≠ x) (h : w.cell? ⟨x, 0, none⟩ = some v0 ∧ w.cell? ⟨x, 1, none⟩ = some v1 ∧ w.cell? ⟨x, 2, none⟩ = some v2) :
    (((((((w.setCell ⟨y, 0, none⟩ a0).setCell ⟨y, 1, none⟩ a1).setCell ⟨y, 2, none⟩ a2).setCell ⟨y, 3, none⟩ a3).setCell ⟨y, 4, none⟩ a4).setCell ⟨y, 5, none⟩ a5).setCell ⟨y, 6, none⟩ a6).cell? ⟨x, 0, none⟩ = some v0 ∧ (((((((w.setCell ⟨y, 0, none⟩ a0).setCell ⟨y, 1, none⟩ a1).setCell ⟨y, 2, none⟩ a2).setCell ⟨y, 3, none⟩ a3).setCell ⟨y, 4, none⟩ a4).setCell ⟨y, 5, none⟩ a5).setCell ⟨y, 6, none⟩ a6).cell? ⟨x, 1, none⟩ = some v1 ∧ (((((((w.setCell ⟨y, 0, none⟩ a0).setCell ⟨y, 1, none⟩ a1).setCell ⟨y, 2, none⟩ a2).setCell ⟨y, 3, none⟩ a3).setCell ⟨y, 4, none⟩ a4).setCell ⟨y, 5, none⟩ a5).setCell ⟨y, 6, none⟩ a6).cell? ⟨x, 2, none⟩ = some v2 := by
  have ne : ∀ (w : World) (i j : Nat) (v : Value), (w.setCell ⟨y, i, none⟩ v).cell? ⟨x, j, none⟩ = w.cell? ⟨x, j, none⟩ := fun w i j v => cell_setCell_ne w v (.inl hne)
  refine ⟨?_, ?_, ?_⟩
  · rw [ne, ne, ne, ne, ne, ne, ne]; exact h.1
  · rw [ne, ne, ne, ne, ne, ne, ne]; exact h.2.1
  · rw [ne, ne, ne, ne, ne, ne, ne]; exact h.2.2
set_option maxRecDepth 100000 in
set_option maxHeartbeats 4000000 in
theorem specKeep_good {l : List UInt8} {f t : Int} {J : List (List Int)} {ta : Option Addr} {tc : Nat} {w : World} (hn : J.length ≤ 1048576) (hm : ∀ l ∈ J, l.length ≤ 1048576) (hR : RowsAt w ta J) (hk : vK l f t = true) (hv : vT J = true) :
    Calls Try.prog 11 #[.agg #[.string ⟨l.toArray⟩, .int .i64 f, .int .i64 t], .slice ta J.length tc] w (KeepPost l f t J w) := by
  have c26 : Hid (∀ w, Calls Try.prog 26 #[.agg #[.string ⟨l.toArray⟩, .int .i64 f, .int .i64 t]] w fun e w' => e = .returned (.bool (vK l f t)) ∧ Below w.heap.size w w') := ⟨fun w => specKeeperValid_any l f t w⟩
  have c38 : Hid (∀ w', Below w.heap.size w w' → Calls Try.prog 38 #[.slice ta J.length tc] w' fun e w'' => e = .returned (.bool (vT J)) ∧ w' = w'') := ⟨fun w' hb => specTasksValid_any ta tc J w' hn hm (hR.below hb (Nat.le_refl _))⟩
  have c40 : Hid (∀ w', Below w.heap.size w w' → Calls Try.prog 40 #[.slice ta J.length tc] w' fun e w'' => e = .returned (.int .i64 (mxR J J.length : Nat)) ∧ w' = w'') := ⟨fun w' hb => specLongest_any ta tc J w' hn hm (hR.below hb (Nat.le_refl _))⟩
  have hB1 : ∀ o o', Below w.heap.size w ((w.alloc o).alloc o') := fun o o' => ((Below.refl _ _).alloc (Nat.le_refl _) _).alloc (by simp) _
  have q26 : Hid (∀ w', Below (w.heap.size + 2) ((w.alloc (.cells #[.string ⟨l.toArray⟩, .int .i64 f, .int .i64 t] 24)).alloc (.cells #[.slice none 0 0, .slice none 0 0, .string ⟨#[]⟩, .int .i64 0] 30)) w' → Reads w' (w.heap.size + 1) [.slice none 0 0, .slice none 0 0, .string ⟨#[]⟩, .int .i64 0] ∧ (w'.cell? ⟨w.heap.size, 0, none⟩ = some (.string ⟨l.toArray⟩) ∧ w'.cell? ⟨w.heap.size, 1, none⟩ = some (.int .i64 f) ∧ w'.cell? ⟨w.heap.size, 2, none⟩ = some (.int .i64 t)) ∧ Below w.heap.size w w' ∧ w.heap.size + 2 ≤ w'.heap.size) := ⟨fun w' hb => by
    have e1 : (w.alloc (.cells #[.string ⟨l.toArray⟩, .int .i64 f, .int .i64 t] 24)).heap.size = w.heap.size + 1 := World.size_alloc ..
    have hr : Reads ((w.alloc (.cells #[.string ⟨l.toArray⟩, .int .i64 f, .int .i64 t] 24)).alloc (.cells #[.slice none 0 0, .slice none 0 0, .string ⟨#[]⟩, .int .i64 0] 30)) (w.heap.size + 1) [.slice none 0 0, .slice none 0 0, .string ⟨#[]⟩, .int .i64 0] := reads_block (t := 30) (by rw [← e1]; exact alloc_self _ _)
    have hz : ((w.alloc (.cells #[.string ⟨l.toArray⟩, .int .i64 f, .int .i64 t] 24)).alloc (.cells #[.slice none 0 0, .slice none 0 0, .string ⟨#[]⟩, .int .i64 0] 30)).heap.size = w.heap.size + 2 := by rw [World.size_alloc, e1]
    refine ⟨hr.kin (kin_below hb) (by omega), ⟨?_, ?_, ?_⟩, (hB1 _ _).trans (hb.mono (by omega)), by rw [← hz]; exact hb.size⟩
    · exact (hb.cell (p := ⟨w.heap.size, 0, none⟩) (by show w.heap.size < _; omega)).trans (cell_alloc (cell_new rfl))
    · exact (hb.cell (p := ⟨w.heap.size, 1, none⟩) (by show w.heap.size < _; omega)).trans (cell_alloc (cell_new rfl))
    · exact (hb.cell (p := ⟨w.heap.size, 2, none⟩) (by show w.heap.size < _; omega)).trans (cell_alloc (cell_new rfl))⟩
  rw [hk] at c26
  rw [hv] at c38
  have hall : Hid ((vK l f t && vT J) = true) := ⟨by rw [hk, hv]; rfl⟩
  obtain ⟨κ, rfl, rfl, rfl, k1, k2, k3⟩ := vK_spec hk
  obtain ⟨v1, v2, v3, v4⟩ := vT_spec hv
  clear hk hv
  obtain ⟨E, A, mx, hE⟩ : ∃ (E : ByteArray) (A : Int) (mx : Nat), RowKit.Hid (E = endText (runT κ J (mxR J J.length) 0 St.zero).1.over ∧ A = ((runT κ J (mxR J J.length) 0 St.zero).2 : Nat) ∧ mx = mxR J J.length) := ⟨_, _, _, rfl, rfl, rfl⟩
  rw [← hE.out.2.2] at c40
  have c39 : Hid (∀ w', Below w.heap.size w w' → Calls Try.prog 39 #[.agg #[.string κ.rule.text, .int .i64 (κ.bear : Nat), .int .i64 (κ.win : Nat)], .slice ta J.length tc, .int .i64 (mx : Nat)] w' fun e w'' => ∃ (sa st : Nat) (fa : Option Addr) (fl fc : Nat), e = .returned (.tuple #[.agg #[.string κ.rule.text, .int .i64 (κ.bear : Nat), .int .i64 (κ.win : Nat), .slice (some ⟨sa, 0, none⟩) J.length J.length, .slice (some ⟨st, 0, none⟩) J.length J.length, .slice fa fl fc, .string E], .int .i64 A]) ∧ RowKit.Hid (NumsAt w'' sa (runT κ J (mxR J J.length) 0 St.zero).1.sum J.length ∧ NumsAt w'' st (runT κ J (mxR J J.length) 0 St.zero).1.starts J.length ∧ w'.heap.size ≤ sa ∧ w'.heap.size ≤ st) ∧ Below w'.heap.size w' w'') := ⟨fun w' hb => by
    rw [hE.out.2.2, hE.out.2.1, hE.out.1]
    exact (l9Run_any v3 v2 v1 hm (mxR_le v4 _) k2 k3 (hR.below hb (Nat.le_refl _))).mono fun e w'' ⟨sa, st, fa, fl, fc, he, s1, s2, hb3, l1, l2, _⟩ => ⟨sa, st, fa, fl, fc, he, ⟨s1, s2, l1, l2⟩, hb3⟩⟩
  simp only [text_list] at c26 q26 ⊢
  have hl : Hid (κ.rule.text.data.toList = κ.rule.text.data.toList) := ⟨rfl⟩
  clear v1 v2 v3 v4 hR hB1 hm hn
  go_enter Try.func11, Try.ntmps11
  go_wp2_with (go_at_call 26; (with_reducible refine (c26.out _).mono ?_); rintro e w' ⟨rfl, hb⟩; obtain ⟨hq, ⟨k0, kk1, kk2⟩, hb2, hsz⟩ := q26.out _ (by simpa using hb); obtain ⟨⟨v0, v1, v2, v3, c0, c1, c2, c3⟩, hf⟩ := set4_op hq rfl; have f0 := hf 0 (by omega); have f1 := hf 1 (by omega); have f2 := hf 2 (by omega); have f3 := hf 3 (by omega))
  refine (c38.out _ hb2).mono ?_
  rintro e w'' ⟨rfl, rfl⟩
  go_wp2_with fail
  clear hb hf c26 c38 q26
  have zA : RowKit.Hid (w'.drew.heap.size = w'.heap.size) := rfl
  have zB : RowKit.Hid (∀ o, (w'.alloc o).drew.heap.size = w'.heap.size + 1) := fun o => World.size_alloc ..
  have hbA : RowKit.Hid (∀ o, Below w.heap.size w (w'.alloc o).drew) := fun o => (hb2.alloc (by omega) _).drew
  have hszA : w.heap.size + 2 ≤ w'.drew.heap.size := hsz
  have hszB : RowKit.Hid (∀ o, w.heap.size + 2 ≤ (w'.alloc o).drew.heap.size) := fun o => by show _ ≤ (w'.alloc o).heap.size; rw [World.size_alloc]; exact Nat.le_succ_of_le hsz
  have rA : RowKit.Hid (∀ w3, Below w'.drew.heap.size w'.drew w3 → Reads w3 (w.heap.size + 1) [.slice none 0 0, .slice none 0 0, .string ⟨#[]⟩, .int .i64 0] ∧ Below w.heap.size w w3 ∧ w.heap.size + 2 ≤ w3.heap.size) := fun w3 hb3 => ⟨Reads.kin (w := w'.drew) hq (kin_below hb3) (Nat.lt_of_lt_of_le (show w.heap.size + 1 < w.heap.size + 2 by omega) hszA), hb2.drew.trans (hb3.mono (Nat.le_trans (by omega) hszA)), Nat.le_trans hszA hb3.size⟩
  have rB : RowKit.Hid (∀ w3, Below (w'.alloc (.cells #[.string ⟨#[]⟩, .int .i64 0, .int .i64 0, .slice none 0 0, .slice none 0 0, .slice none 0 0, .string ⟨#[]⟩] 61)).drew.heap.size (w'.alloc (.cells #[.string ⟨#[]⟩, .int .i64 0, .int .i64 0, .slice none 0 0, .slice none 0 0, .slice none 0 0, .string ⟨#[]⟩] 61)).drew w3 → Reads w3 (w.heap.size + 1) [.slice none 0 0, .slice none 0 0, .string ⟨#[]⟩, .int .i64 0] ∧ Below w.heap.size w w3 ∧ w.heap.size + 2 ≤ w'.heap.size ∧ w'.heap.size + 1 ≤ w3.heap.size ∧ Reads w3 w'.heap.size [.string ⟨#[]⟩, .int .i64 0, .int .i64 0, .slice none 0 0, .slice none 0 0, .slice none 0 0, .string ⟨#[]⟩]) := fun w3 hb3 => ⟨Reads.kin (w := (w'.alloc (.cells #[.string ⟨#[]⟩, .int .i64 0, .int .i64 0, .slice none 0 0, .slice none 0 0, .slice none 0 0, .string ⟨#[]⟩] 61)).drew) (show Reads (w'.alloc _) _ _ from Reads.kin (w := w') hq (((Grown.refl w').alloc _).kin (Nat.le_refl _)) (Nat.lt_of_lt_of_le (show w.heap.size + 1 < w.heap.size + 2 by omega) hszA)) (kin_below hb3) (Nat.lt_of_lt_of_le (show w.heap.size + 1 < w.heap.size + 2 by omega) (hszB _)), (hbA _).trans (hb3.mono (Nat.le_trans (by omega) (hszB (.cells #[.string ⟨#[]⟩, .int .i64 0, .int .i64 0, .slice none 0 0, .slice none 0 0, .slice none 0 0, .string ⟨#[]⟩] 61)))), hsz, by have := hb3.size; rw [zB] at this; exact this, Reads.kin (w := (w'.alloc (.cells #[.string ⟨#[]⟩, .int .i64 0, .int .i64 0, .slice none 0 0, .slice none 0 0, .slice none 0 0, .string ⟨#[]⟩] 61)).drew) (show Reads (w'.alloc _) _ _ from reads_block (t := 61) (alloc_self w' _)) (kin_below hb3) (by rw [zB]; exact Nat.lt_succ_self _)⟩
  have hne : w'.heap.size ≠ w.heap.size := Nat.ne_of_gt (Nat.lt_of_lt_of_le (show w.heap.size < w.heap.size + 2 by omega) hsz)
  go_region_held3 (fun w₁ => w₁.cell? ⟨w.heap.size, 0, none⟩ = some (.string κ.rule.text) ∧ w₁.cell? ⟨w.heap.size, 1, none⟩ = some (.int .i64 (κ.bear : Nat)) ∧ w₁.cell? ⟨w.heap.size, 2, none⟩ = some (.int .i64 (κ.win : Nat)))
    (first | with_reducible exact S3 | with_reducible exact sets7 hne S3 | go_keep)
    ((first
      | (go_at_call 40; (with_reducible refine (c40.out _ (by first | exact hb2.drew | exact hbA.out _)).mono ?_); rintro e w'' ⟨rfl, rfl⟩)
      | (go_at_call 39; (with_reducible refine (c39.out w'.drew hb2.drew).mono ?_); rintro e w3 ⟨sa, st, fa, fl, fc, rfl, hs, hb3⟩; have S3 : w3.cell? ⟨w.heap.size, 0, none⟩ = some (.string κ.rule.text) ∧ w3.cell? ⟨w.heap.size, 1, none⟩ = some (.int .i64 (κ.bear : Nat)) ∧ w3.cell? ⟨w.heap.size, 2, none⟩ = some (.int .i64 (κ.win : Nat)) := ⟨(hb3.cell (p := ⟨w.heap.size, 0, none⟩) (Nat.lt_of_lt_of_le (show w.heap.size < w.heap.size + 2 by omega) hszA)).trans k0, (hb3.cell (p := ⟨w.heap.size, 1, none⟩) (Nat.lt_of_lt_of_le (show w.heap.size < w.heap.size + 2 by omega) hszA)).trans kk1, (hb3.cell (p := ⟨w.heap.size, 2, none⟩) (Nat.lt_of_lt_of_le (show w.heap.size < w.heap.size + 2 by omega) hszA)).trans kk2⟩; obtain ⟨R4, R5, R6⟩ := rA.out _ hb3)
      | (go_at_call 39; (with_reducible refine (c39.out (w'.alloc (.cells #[.string ⟨#[]⟩, .int .i64 0, .int .i64 0, .slice none 0 0, .slice none 0 0, .slice none 0 0, .string ⟨#[]⟩] 61)).drew (hbA.out _)).mono ?_); rintro e w3 ⟨sa, st, fa, fl, fc, rfl, hs, hb3⟩; have S3 : w3.cell? ⟨w.heap.size, 0, none⟩ = some (.string κ.rule.text) ∧ w3.cell? ⟨w.heap.size, 1, none⟩ = some (.int .i64 (κ.bear : Nat)) ∧ w3.cell? ⟨w.heap.size, 2, none⟩ = some (.int .i64 (κ.win : Nat)) := ⟨(hb3.cell (p := ⟨w.heap.size, 0, none⟩) (Nat.lt_of_lt_of_le (show w.heap.size < w.heap.size + 2 by omega) (hszB _))).trans (cell_alloc k0), (hb3.cell (p := ⟨w.heap.size, 1, none⟩) (Nat.lt_of_lt_of_le (show w.heap.size < w.heap.size + 2 by omega) (hszB _))).trans (cell_alloc kk1), (hb3.cell (p := ⟨w.heap.size, 2, none⟩) (Nat.lt_of_lt_of_le (show w.heap.size < w.heap.size + 2 by omega) (hszB _))).trans (cell_alloc kk2)⟩; obtain ⟨R4, R5, R6, R7, R8⟩ := rB.out _ hb3; obtain ⟨⟨x0, x1, x2, x3, x4, x5, x6⟩, y0, y1, y2, y3, y4, y5, y6⟩ := reads7 R8)))
  · obtain ⟨w₇, h₇⟩ : ∃ W, W = w3.alloc (.cells #[.string κ.rule.text, .int .i64 (κ.bear : Nat), .int .i64 (κ.win : Nat), .slice (some ⟨sa, 0, none⟩) J.length J.length, .slice (some ⟨st, 0, none⟩) J.length J.length, .slice fa fl fc, .string E] 61) := ⟨_, rfl⟩
    rw [← h₇]
    obtain ⟨p1, p2, p3, p4⟩ := hs.out
    have q3 : w'.heap.size ≤ w3.heap.size := hb3.size
    have p3' : w'.heap.size ≤ sa := p3
    have p4' : w'.heap.size ≤ st := p4
    have r7 : Reads w₇ w3.heap.size [.string κ.rule.text, .int .i64 (κ.bear : Nat), .int .i64 (κ.win : Nat), .slice (some ⟨sa, 0, none⟩) J.length J.length, .slice (some ⟨st, 0, none⟩) J.length J.length, .slice fa fl fc, .string E] := reads_block (t := 61) (by rw [h₇]; exact alloc_self w3 _)
    have hq7 : Reads w₇ (w.heap.size + 1) [.slice none 0 0, .slice none 0 0, .string ⟨#[]⟩, .int .i64 0] := by rw [h₇]; exact Reads.kin (w := w3) R4 (((Grown.refl w3).alloc _).kin (Nat.le_refl _)) (by omega)
    have b7 : Below w.heap.size w w₇ := by rw [h₇]; exact R5.alloc (by omega) _
    have n7 : RowKit.Hid (NumsAt w₇ sa (runT κ J (mxR J J.length) 0 St.zero).1.sum J.length ∧ NumsAt w₇ st (runT κ J (mxR J J.length) 0 St.zero).1.starts J.length) := by rw [h₇]; exact ⟨fun i hi => ⟨cell_alloc (p1 i hi).1, (frozen_alloc (p1 i hi).1).trans (p1 i hi).2⟩, fun i hi => ⟨cell_alloc (p2 i hi).1, (frozen_alloc (p2 i hi).1).trans (p2 i hi).2⟩⟩
    clear p1 p2 p3 p4 hs hb3 S3 R4 R5 hq k0 kk1 kk2
    rename_i hh
    clear hh
    have v3 : w₇.cell? ⟨w3.heap.size, 3, none⟩ = some (.slice (some ⟨sa, 0, none⟩) J.length J.length) := (r7 3 (by simp)).1
    have v4 : w₇.cell? ⟨w3.heap.size, 4, none⟩ = some (.slice (some ⟨st, 0, none⟩) J.length J.length) := (r7 4 (by simp)).1
    have v6 : w₇.cell? ⟨w3.heap.size, 6, none⟩ = some (.string E) := (r7 6 (by simp)).1
    obtain ⟨⟨u0, u1, u2, u3, d0, d1, d2, d3⟩, hf⟩ := set4_op hq7 rfl
    have f0 := hf 0 (by omega)
    have f1 := hf 1 (by omega)
    have f2 := hf 2 (by omega)
    have f3 := hf 3 (by omega)
    clear hf r7 h₇ c40 c39 rA rB hbA zA zB hszB
    go_wp2
    obtain ⟨s0, s1, s2, s3⟩ := set4_cells (w := w₇) (rb := w.heap.size + 1) (fun j hj => hq7.ex (by simpa using hj)) (.slice (some ⟨sa, 0, none⟩) J.length J.length) (.slice (some ⟨st, 0, none⟩) J.length J.length) (.string E) (.int .i64 A)
    have hB4 : Below w.heap.size w (set4 w₇ (w.heap.size + 1) (.slice (some ⟨sa, 0, none⟩) J.length J.length) (.slice (some ⟨st, 0, none⟩) J.length J.length) (.string E) (.int .i64 A)) := below_set4 b7 (by omega)
    have n8 : RowKit.Hid (NumsAt (set4 w₇ (w.heap.size + 1) (.slice (some ⟨sa, 0, none⟩) J.length J.length) (.slice (some ⟨st, 0, none⟩) J.length J.length) (.string E) (.int .i64 A)) sa (runT κ J (mxR J J.length) 0 St.zero).1.sum J.length ∧ NumsAt (set4 w₇ (w.heap.size + 1) (.slice (some ⟨sa, 0, none⟩) J.length J.length) (.slice (some ⟨st, 0, none⟩) J.length J.length) (.string E) (.int .i64 A)) st (runT κ J (mxR J J.length) 0 St.zero).1.starts J.length) := ⟨fun i hi => set4_far (by omega) (n7.out.1 i hi), fun i hi => set4_far (by omega) (n7.out.2 i hi)⟩
    refine (show bodyPost Try.prog Try.f11 (KeepPost κ.rule.text.data.toList (κ.bear : Nat) (κ.win : Nat) J w) .ret ⟨_, _⟩ (set4 w₇ (w.heap.size + 1) (.slice (some ⟨sa, 0, none⟩) J.length J.length) (.slice (some ⟨st, 0, none⟩) J.length J.length) (.string E) (.int .i64 A)) from ?_)
    generalize set4 w₇ (w.heap.size + 1) (.slice (some ⟨sa, 0, none⟩) J.length J.length) (.slice (some ⟨st, 0, none⟩) J.length J.length) (.string E) (.int .i64 A) = w₄ at *
    refine bodyPost_ret (v := .tuple #[.agg #[.slice (some ⟨sa, 0, none⟩) J.length J.length, .slice (some ⟨st, 0, none⟩) J.length J.length, .string E, .int .i64 A], .bool true]) (by simp [results, Try.results11, go_sem, s0, s1, s2, s3]) rfl ?_
    exact ⟨hB4, .inr ⟨κ, sa, st, rfl, rfl, rfl, hall.out, by rw [hE.out.1, hE.out.2.1], n8.out.1, n8.out.2⟩⟩
  · obtain ⟨w₇, h₇⟩ : ∃ W, W = Go.Town.Kp.set7 w3 w'.heap.size (.string κ.rule.text) (.int .i64 (κ.bear : Nat)) (.int .i64 (κ.win : Nat)) (.slice (some ⟨sa, 0, none⟩) J.length J.length) (.slice (some ⟨st, 0, none⟩) J.length J.length) (.slice fa fl fc) (.string E) := ⟨_, rfl⟩
    unfold Go.Town.Kp.set7 at h₇
    rw [← h₇]
    replace h₇ : w₇ = Go.Town.Kp.set7 w3 w'.heap.size (.string κ.rule.text) (.int .i64 (κ.bear : Nat)) (.int .i64 (κ.win : Nat)) (.slice (some ⟨sa, 0, none⟩) J.length J.length) (.slice (some ⟨st, 0, none⟩) J.length J.length) (.slice fa fl fc) (.string E) := h₇
    obtain ⟨p1, p2, p3, p4⟩ := hs.out
    rw [zB.out] at p3 p4
    have r7 : Reads w₇ w'.heap.size [.string κ.rule.text, .int .i64 (κ.bear : Nat), .int .i64 (κ.win : Nat), .slice (some ⟨sa, 0, none⟩) J.length J.length, .slice (some ⟨st, 0, none⟩) J.length J.length, .slice fa fl fc, .string E] := by rw [h₇]; exact R8.set7 rfl (.string κ.rule.text) (.int .i64 (κ.bear : Nat)) (.int .i64 (κ.win : Nat)) (.slice (some ⟨sa, 0, none⟩) J.length J.length) (.slice (some ⟨st, 0, none⟩) J.length J.length) (.slice fa fl fc) (.string E)
    have hq7 : Reads w₇ (w.heap.size + 1) [.slice none 0 0, .slice none 0 0, .string ⟨#[]⟩, .int .i64 0] := by rw [h₇]; exact R4.other7 (by omega) (.string κ.rule.text) (.int .i64 (κ.bear : Nat)) (.int .i64 (κ.win : Nat)) (.slice (some ⟨sa, 0, none⟩) J.length J.length) (.slice (some ⟨st, 0, none⟩) J.length J.length) (.slice fa fl fc) (.string E)
    have b7 : Below w.heap.size w w₇ := by
      rw [h₇]; unfold Go.Town.Kp.set7
      have e : w.heap.size ≤ w'.heap.size := by omega
      exact ((((((R5.setCell (p := ⟨w'.heap.size, 0, none⟩) e _).setCell (p := ⟨w'.heap.size, 1, none⟩) e _).setCell (p := ⟨w'.heap.size, 2, none⟩) e _).setCell (p := ⟨w'.heap.size, 3, none⟩) e _).setCell (p := ⟨w'.heap.size, 4, none⟩) e _).setCell (p := ⟨w'.heap.size, 5, none⟩) e _).setCell (p := ⟨w'.heap.size, 6, none⟩) e _
    have n7 : RowKit.Hid (NumsAt w₇ sa (runT κ J (mxR J J.length) 0 St.zero).1.sum J.length ∧ NumsAt w₇ st (runT κ J (mxR J J.length) 0 St.zero).1.starts J.length) := by
      rw [h₇]
      exact ⟨fun i hi => set7_far (by omega) (p1 i hi), fun i hi => set7_far (by omega) (p2 i hi)⟩
    clear p1 p2 hs hb3 S3 R4 R5 R8 hq k0 kk1 kk2 x0 x1 x2 x3 x4 x5 x6 y0 y1 y2 y3 y4 y5 y6
    rename_i hh
    clear hh
    have v3 : w₇.cell? ⟨w'.heap.size, 3, none⟩ = some (.slice (some ⟨sa, 0, none⟩) J.length J.length) := (r7 3 (by simp)).1
    have v4 : w₇.cell? ⟨w'.heap.size, 4, none⟩ = some (.slice (some ⟨st, 0, none⟩) J.length J.length) := (r7 4 (by simp)).1
    have v6 : w₇.cell? ⟨w'.heap.size, 6, none⟩ = some (.string E) := (r7 6 (by simp)).1
    obtain ⟨⟨u0, u1, u2, u3, d0, d1, d2, d3⟩, hf⟩ := set4_op hq7 rfl
    have f0 := hf 0 (by omega)
    have f1 := hf 1 (by omega)
    have f2 := hf 2 (by omega)
    have f3 := hf 3 (by omega)
    clear hf r7 h₇ c40 c39 rA rB hbA zA zB hszB
    go_wp2
    obtain ⟨s0, s1, s2, s3⟩ := set4_cells (w := w₇) (rb := w.heap.size + 1) (fun j hj => hq7.ex (by simpa using hj)) (.slice (some ⟨sa, 0, none⟩) J.length J.length) (.slice (some ⟨st, 0, none⟩) J.length J.length) (.string E) (.int .i64 A)
    have hB4 : Below w.heap.size w (set4 w₇ (w.heap.size + 1) (.slice (some ⟨sa, 0, none⟩) J.length J.length) (.slice (some ⟨st, 0, none⟩) J.length J.length) (.string E) (.int .i64 A)) := below_set4 b7 (by omega)
    have n8 : RowKit.Hid (NumsAt (set4 w₇ (w.heap.size + 1) (.slice (some ⟨sa, 0, none⟩) J.length J.length) (.slice (some ⟨st, 0, none⟩) J.length J.length) (.string E) (.int .i64 A)) sa (runT κ J (mxR J J.length) 0 St.zero).1.sum J.length ∧ NumsAt (set4 w₇ (w.heap.size + 1) (.slice (some ⟨sa, 0, none⟩) J.length J.length) (.slice (some ⟨st, 0, none⟩) J.length J.length) (.string E) (.int .i64 A)) st (runT κ J (mxR J J.length) 0 St.zero).1.starts J.length) := ⟨fun i hi => set4_far (by omega) (n7.out.1 i hi), fun i hi => set4_far (by omega) (n7.out.2 i hi)⟩
    refine (show bodyPost Try.prog Try.f11 (KeepPost κ.rule.text.data.toList (κ.bear : Nat) (κ.win : Nat) J w) .ret ⟨_, _⟩ (set4 w₇ (w.heap.size + 1) (.slice (some ⟨sa, 0, none⟩) J.length J.length) (.slice (some ⟨st, 0, none⟩) J.length J.length) (.string E) (.int .i64 A)) from ?_)
    generalize set4 w₇ (w.heap.size + 1) (.slice (some ⟨sa, 0, none⟩) J.length J.length) (.slice (some ⟨st, 0, none⟩) J.length J.length) (.string E) (.int .i64 A) = w₄ at *
    refine bodyPost_ret (v := .tuple #[.agg #[.slice (some ⟨sa, 0, none⟩) J.length J.length, .slice (some ⟨st, 0, none⟩) J.length J.length, .string E, .int .i64 A], .bool true]) (by simp [results, Try.results11, go_sem, s0, s1, s2, s3]) rfl ?_
    exact ⟨hB4, .inr ⟨κ, sa, st, rfl, rfl, rfl, hall.out, by rw [hE.out.1, hE.out.2.1], n8.out.1, n8.out.2⟩⟩
  · obtain ⟨w₇, h₇⟩ : ∃ W, W = Go.Town.Kp.set7 w3 w'.heap.size (.string κ.rule.text) (.int .i64 (κ.bear : Nat)) (.int .i64 (κ.win : Nat)) (.slice (some ⟨sa, 0, none⟩) J.length J.length) (.slice (some ⟨st, 0, none⟩) J.length J.length) (.slice fa fl fc) (.string E) := ⟨_, rfl⟩
    unfold Go.Town.Kp.set7 at h₇
    rw [← h₇]
    replace h₇ : w₇ = Go.Town.Kp.set7 w3 w'.heap.size (.string κ.rule.text) (.int .i64 (κ.bear : Nat)) (.int .i64 (κ.win : Nat)) (.slice (some ⟨sa, 0, none⟩) J.length J.length) (.slice (some ⟨st, 0, none⟩) J.length J.length) (.slice fa fl fc) (.string E) := h₇
    obtain ⟨p1, p2, p3, p4⟩ := hs.out
    rw [zB.out] at p3 p4
    have r7 : Reads w₇ w'.heap.size [.string κ.rule.text, .int .i64 (κ.bear : Nat), .int .i64 (κ.win : Nat), .slice (some ⟨sa, 0, none⟩) J.length J.length, .slice (some ⟨st, 0, none⟩) J.length J.length, .slice fa fl fc, .string E] := by rw [h₇]; exact R8.set7 rfl (.string κ.rule.text) (.int .i64 (κ.bear : Nat)) (.int .i64 (κ.win : Nat)) (.slice (some ⟨sa, 0, none⟩) J.length J.length) (.slice (some ⟨st, 0, none⟩) J.length J.length) (.slice fa fl fc) (.string E)
    have hq7 : Reads w₇ (w.heap.size + 1) [.slice none 0 0, .slice none 0 0, .string ⟨#[]⟩, .int .i64 0] := by rw [h₇]; exact R4.other7 (by omega) (.string κ.rule.text) (.int .i64 (κ.bear : Nat)) (.int .i64 (κ.win : Nat)) (.slice (some ⟨sa, 0, none⟩) J.length J.length) (.slice (some ⟨st, 0, none⟩) J.length J.length) (.slice fa fl fc) (.string E)
    have b7 : Below w.heap.size w w₇ := by
      rw [h₇]; unfold Go.Town.Kp.set7
      have e : w.heap.size ≤ w'.heap.size := by omega
      exact ((((((R5.setCell (p := ⟨w'.heap.size, 0, none⟩) e _).setCell (p := ⟨w'.heap.size, 1, none⟩) e _).setCell (p := ⟨w'.heap.size, 2, none⟩) e _).setCell (p := ⟨w'.heap.size, 3, none⟩) e _).setCell (p := ⟨w'.heap.size, 4, none⟩) e _).setCell (p := ⟨w'.heap.size, 5, none⟩) e _).setCell (p := ⟨w'.heap.size, 6, none⟩) e _
    have n7 : RowKit.Hid (NumsAt w₇ sa (runT κ J (mxR J J.length) 0 St.zero).1.sum J.length ∧ NumsAt w₇ st (runT κ J (mxR J J.length) 0 St.zero).1.starts J.length) := by
      rw [h₇]
      exact ⟨fun i hi => set7_far (by omega) (p1 i hi), fun i hi => set7_far (by omega) (p2 i hi)⟩
    clear p1 p2 hs hb3 S3 R4 R5 R8 hq k0 kk1 kk2 x0 x1 x2 x3 x4 x5 x6 y0 y1 y2 y3 y4 y5 y6
    rename_i hh
    clear hh
    have v3 : w₇.cell? ⟨w'.heap.size, 3, none⟩ = some (.slice (some ⟨sa, 0, none⟩) J.length J.length) := (r7 3 (by simp)).1
    have v4 : w₇.cell? ⟨w'.heap.size, 4, none⟩ = some (.slice (some ⟨st, 0, none⟩) J.length J.length) := (r7 4 (by simp)).1
    have v6 : w₇.cell? ⟨w'.heap.size, 6, none⟩ = some (.string E) := (r7 6 (by simp)).1
    obtain ⟨⟨u0, u1, u2, u3, d0, d1, d2, d3⟩, hf⟩ := set4_op hq7 rfl
    have f0 := hf 0 (by omega)
    have f1 := hf 1 (by omega)
    have f2 := hf 2 (by omega)
    have f3 := hf 3 (by omega)
    clear hf r7 h₇ c40 c39 rA rB hbA zA zB hszB
    go_wp2
    obtain ⟨s0, s1, s2, s3⟩ := set4_cells (w := w₇) (rb := w.heap.size + 1) (fun j hj => hq7.ex (by simpa using hj)) (.slice (some ⟨sa, 0, none⟩) J.length J.length) (.slice (some ⟨st, 0, none⟩) J.length J.length) (.string E) (.int .i64 A)
    have hB4 : Below w.heap.size w (set4 w₇ (w.heap.size + 1) (.slice (some ⟨sa, 0, none⟩) J.length J.length) (.slice (some ⟨st, 0, none⟩) J.length J.length) (.string E) (.int .i64 A)) := below_set4 b7 (by omega)
    have n8 : RowKit.Hid (NumsAt (set4 w₇ (w.heap.size + 1) (.slice (some ⟨sa, 0, none⟩) J.length J.length) (.slice (some ⟨st, 0, none⟩) J.length J.length) (.string E) (.int .i64 A)) sa (runT κ J (mxR J J.length) 0 St.zero).1.sum J.length ∧ NumsAt (set4 w₇ (w.heap.size + 1) (.slice (some ⟨sa, 0, none⟩) J.length J.length) (.slice (some ⟨st, 0, none⟩) J.length J.length) (.string E) (.int .i64 A)) st (runT κ J (mxR J J.length) 0 St.zero).1.starts J.length) := ⟨fun i hi => set4_far (by omega) (n7.out.1 i hi), fun i hi => set4_far (by omega) (n7.out.2 i hi)⟩
    refine (show bodyPost Try.prog Try.f11 (KeepPost κ.rule.text.data.toList (κ.bear : Nat) (κ.win : Nat) J w) .ret ⟨_, _⟩ (set4 w₇ (w.heap.size + 1) (.slice (some ⟨sa, 0, none⟩) J.length J.length) (.slice (some ⟨st, 0, none⟩) J.length J.length) (.string E) (.int .i64 A)) from ?_)
    generalize set4 w₇ (w.heap.size + 1) (.slice (some ⟨sa, 0, none⟩) J.length J.length) (.slice (some ⟨st, 0, none⟩) J.length J.length) (.string E) (.int .i64 A) = w₄ at *
    refine bodyPost_ret (v := .tuple #[.agg #[.slice (some ⟨sa, 0, none⟩) J.length J.length, .slice (some ⟨st, 0, none⟩) J.length J.length, .string E, .int .i64 A], .bool true]) (by simp [results, Try.results11, go_sem, s0, s1, s2, s3]) rfl ?_
    exact ⟨hB4, .inr ⟨κ, sa, st, rfl, rfl, rfl, hall.out, by rw [hE.out.1, hE.out.2.1], n8.out.1, n8.out.2⟩⟩
theorem specKeep_any {l : List UInt8} {f t : Int} {J : List (List Int)} {ta : Option Addr} {tc : Nat} {w : World} (hn : J.length ≤ 1048576) (hm : ∀ l ∈ J, l.length ≤ 1048576) (hR : RowsAt w ta J) :
    Calls Try.prog 11 #[.agg #[.string ⟨l.toArray⟩, .int .i64 f, .int .i64 t], .slice ta J.length tc] w (KeepPost l f t J w) := by
  cases h : (vK l f t && vT J) with
  | false => exact specKeep_bad hn hm hR h
  | true =>
    simp only [Bool.and_eq_true] at h
    exact specKeep_good hn hm hR h.1 h.2
end Go.Town.Kp
namespace Go.Town.Kp
open Go Go.Conc Go.Conc.Lib Go.ConcR.Gen Go.RowKit Go.Town Go.Proofs
open Go.ConcN (upd upd_ne upd_same)
def Kd (q : List UInt8) (f t : Int) (J : List (List Int)) (g : Bool) (R1 R2 : List Int) (E : ByteArray) (A : Int) : Prop :=
  ((vK q f t && vT J) = false ∧ g = false ∧ R1 = [] ∧ R2 = [] ∧ E = ⟨#[]⟩ ∧ A = 0) ∨
  ∃ κ : Kr, q = κ.rule.text.data.toList ∧ f = (κ.bear : Nat) ∧ t = (κ.win : Nat) ∧ (vK q f t && vT J) = true ∧ g = true ∧
    R1 = (List.range J.length).map (runT κ J (mxR J J.length) 0 St.zero).1.sum ∧ R2 = (List.range J.length).map (runT κ J (mxR J J.length) 0 St.zero).1.starts ∧ E = endText (runT κ J (mxR J J.length) 0 St.zero).1.over ∧ A = ((runT κ J (mxR J J.length) 0 St.zero).2 : Nat)
theorem kr_one {κ κ' : Kr} (h1 : κ'.rule.text.data.toList = κ.rule.text.data.toList) (h2 : (κ'.bear : Int) = (κ.bear : Nat)) (h3 : (κ'.win : Int) = (κ.win : Nat)) : κ' = κ := by
  obtain ⟨r, be, wi⟩ := κ; obtain ⟨r', be', wi'⟩ := κ'
  have e : r' = r := by
    simp only at h1
    cases r <;> cases r' <;> first | rfl | (simp [Rule.text] at h1)
  simp only at h2 h3
  subst e
  have : be' = be := by omega
  have : wi' = wi := by omega
  simp_all
theorem Kd.one {q : List UInt8} {f t : Int} {J : List (List Int)} {g g' : Bool} {R1 R2 S1 S2 : List Int} {E E' : ByteArray} {A A' : Int} (h : Kd q f t J g R1 R2 E A) (k : Kd q f t J g' S1 S2 E' A') : g' = g ∧ S1 = R1 ∧ S2 = R2 ∧ E' = E ∧ A' = A := by
  rcases h with ⟨h1, rfl, rfl, rfl, rfl, rfl⟩ | ⟨κ, h1, h2, h3, h4, rfl, rfl, rfl, rfl, rfl⟩
  · rcases k with ⟨_, rfl, rfl, rfl, rfl, rfl⟩ | ⟨κ', k1, k2, k3, k4, _⟩
    · exact ⟨rfl, rfl, rfl, rfl, rfl⟩
    · rw [k4] at h1; cases h1
  · rcases k with ⟨k1, _⟩ | ⟨κ', k1, k2, k3, k4, rfl, rfl, rfl, rfl, rfl⟩
    · rw [k1] at h4; cases h4
    · have e := kr_one (κ := κ) (κ' := κ') (k1.symm.trans h1) (k2.symm.trans h2) (k3.symm.trans h3)
      subst e; exact ⟨rfl, rfl, rfl, rfl, rfl⟩
theorem Kd.len {q : List UInt8} {f t : Int} {J : List (List Int)} {g : Bool} {R1 R2 : List Int} {E : ByteArray} {A : Int} (h : Kd q f t J g R1 R2 E A) (hn : J.length ≤ 1048576) : R1.length ≤ 1048576 ∧ R2.length ≤ 1048576 := by
  rcases h with ⟨h1, rfl, rfl, rfl, rfl, rfl⟩ | ⟨κ, h1, h2, h3, h4, rfl, rfl, rfl, rfl, rfl⟩
  · exact ⟨by simp, by simp⟩
  · exact ⟨by simpa using hn, by simpa using hn⟩
theorem nums_ints {w : World} {x : Nat} {fn : Nat → Int} {n : Nat} (h : NumsAt w x fn n) : IntsAt w (some ⟨x, 0, none⟩) ((List.range n).map fn) := by
  by_cases h0 : n = 0
  · exact .inl (by simp [h0])
  · exact .inr ⟨x, 0, rfl, block_lt (h 0 (by omega)).1, fun i hi => by
      simp only [List.length_map, List.length_range] at hi
      rw [Nat.zero_add, (h i hi).1]; simp [List.getD, hi]⟩
theorem keep_spec {q : List UInt8} {f t : Int} {J : List (List Int)} {w w' : World} {e : Ending} (h : KeepPost q f t J w e w') :
    ∃ (a1 a2 : Option Addr) (c1 c2 : Nat) (R1 R2 : List Int) (E : ByteArray) (A : Int) (g : Bool), e = .returned (.tuple #[.agg #[.slice a1 R1.length c1, .slice a2 R2.length c2, .string E, .int .i64 A], .bool g]) ∧ Below w.heap.size w w' ∧ Kd q f t J g R1 R2 E A ∧ IntsAt w' a1 R1 ∧ IntsAt w' a2 R2 := by
  obtain ⟨hb, ⟨h1, rfl⟩ | ⟨κ, sa, st, h1, h2, h3, h4, rfl, h5, h6⟩⟩ := h
  · exact ⟨none, none, 0, 0, [], [], ⟨#[]⟩, 0, false, rfl, hb, .inl ⟨h1, rfl, rfl, rfl, rfl, rfl⟩, .inl rfl, .inl rfl⟩
  · exact ⟨some ⟨sa, 0, none⟩, some ⟨st, 0, none⟩, J.length, J.length, _, _, _, _, true, by simp, hb, .inr ⟨κ, h1, h2, h3, h4, rfl, rfl, rfl, rfl, rfl⟩, nums_ints h5, nums_ints h6⟩
theorem put4 {B rb : Nat} {w : World} {vs : List Value} (hr : Reads w rb vs) (hv : vs.length = 4) (hB : B ≤ rb) (x0 x1 x2 x3 : Value) (T : Nat → Question → Nat) (d : Nat) :
    Kin B w (set4 (w.re T d) rb x0 x1 x2 x3) ∧ Reads (set4 (w.re T d) rb x0 x1 x2 x3) rb [x0, x1, x2, x3] ∧ (set4 (w.re T d) rb x0 x1 x2 x3).heap.size = w.heap.size := by
  obtain ⟨s0, s1, s2, s3⟩ := set4_cells (w := w.re T d) (rb := rb) (fun j hj => by obtain ⟨v, h⟩ := hr.ex (j := j) (by omega); exact ⟨v, h⟩) x0 x1 x2 x3
  refine ⟨(((((Kin.refl B w).re T d).set _ hB).set _ hB).set _ hB).set _ hB, ?_, ?_⟩
  · intro j hj
    simp only [List.length_cons, List.length_nil] at hj
    have hf : (set4 (w.re T d) rb x0 x1 x2 x3).frozen? ⟨rb, j, none⟩ = false := by
      unfold set4
      rw [frozen_setCell, frozen_setCell, frozen_setCell, frozen_setCell]; exact (hr j (by omega)).2
    refine ⟨?_, hf⟩
    generalize set4 (w.re T d) rb x0 x1 x2 x3 = w₄ at *
    obtain rfl | rfl | rfl | rfl : j = 0 ∨ j = 1 ∨ j = 2 ∨ j = 3 := by omega
    · exact s0
    · exact s1
    · exact s2
    · exact s3
  · unfold set4
    simp only [World.size_setCell]
    rfl
structure Ans (B : Nat) (R1 R2 : List Int) (d1 d2 : Option Addr) (w : World) : Prop where
  i1 : IntsAt w d1 R1
  i2 : IntsAt w d2 R2
  lo1 : ∀ x, d1 = some x → B ≤ x.block
  lo2 : ∀ x, d2 = some x → B ≤ x.block
theorem Ans.kin {B : Nat} {R1 R2 : List Int} {w w' : World} {d1 d2 : Option Addr} (h : Ans B R1 R2 d1 d2 w) (k : Kin w.heap.size w w') : Ans B R1 R2 d1 d2 w' :=
  ⟨h.i1.kept k.cells k.size, h.i2.kept k.cells k.size, h.lo1, h.lo2⟩
end Go.Town.Kp
