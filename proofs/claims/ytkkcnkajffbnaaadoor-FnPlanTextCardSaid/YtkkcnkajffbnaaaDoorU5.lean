/-
  The program's FormatPlan returns the text of deeds, where the table of powers is laid.
-/
import Derived.Test.YtkkcnkajffbnaaaDoorU4
import Derived.Maps.AppendAt
namespace Go.Proofs.YtkkcnkajffbnaaaDoor
open Go.RowKit

def dtV (d : Dd) : Value := .string ⟨(deedText d).toArray⟩

set_option maxRecDepth 100000 in
set_option maxHeartbeats 1000000 in
theorem implFP (a : Option Addr) (c : Nat) (ds : List Dd) (w : World) (hn : szD ds ds.length ≤ 1048576) (hd : ∀ d ∈ ds, DdOk d) (hA : DeedsAt w a ds) (hE : Env w) :
    Calls Tryd.prog 16 #[.slice a ds.length c] w fun e w' => e = .returned (.string ⟨(fmtPlan ds).toArray⟩) ∧ Below w.heap.size w w' := by
  have hlen : ds.length ≤ 1048576 := by unfold szD at hn; omega
  obtain ⟨i0, hi, hz0, hz1, hz2⟩ := info_parts Tryd.info9
  go_enter Tryd.func16, Tryd.ntmps16
  go_wp2_with (at_make; refine wpList_make_own _ rfl _ _ 49 rfl w.heap.size 9 i0 (.string ⟨#[]⟩) 1 Tryd.underlying49 hi hz0 hz1 .i64 .i64 _ ds.length rfl rfl rfl ?b2 ?b3 (Nat.le_refl _) ?_)
  case b2 => rw [hz2]; omega
  case b3 => unfold maxLen; omega
  intro w0 hown0 hgrow0
  have hb0 := (Below.refl w.heap.size w).grown hgrow0 (Nat.le_refl _) (fun k h => by cases h)
  clear hgrow0
  go_wp2
  go_loopw [3, 12] (fun v i wr => ∃ k : Nat, k ≤ ds.length ∧ i = .int .i64 k ∧ wr.ownsRow w.heap.size 9 1 v k ((ds.take k).map dtV) ∧ Below w.heap.size w wr) (fun _ i _ => ds.length - (intOf i).toNat)
  case atStart => exact ⟨0, Nat.zero_le _, rfl, hown0, hb0⟩
  case round =>
    obtain ⟨k, hk, rfl, hown, hb⟩ := hrel
    by_cases hlt : k < ds.length
    · obtain ⟨b, off, rfl, hbs, hc0, hc1, hc2⟩ := (hA.below hb (Nat.le_refl _)).at hlt
      have hlt' : (k : Int) < (ds.length : Int) := by omega
      have hok := hd ds[k] (by simp)
      have hEr := hE.below hb (Nat.le_refl _)
      have hbs' := hb.size
      have hown1 := hown
      --ROUND
      have hli : InI ds[k].line := hok.2.1
      have hwo : InI ds[k].word := hok.2.2
      have hoka : ds[k].act.length ≤ 1048576 := hok.1
      have h1 := Lib.itoa_length_le ds[k].line hli.1 hli.2
      have h2 := Lib.itoa_length_le ds[k].word hwo.1 hwo.2
      have hnw := Lib.hid (needsWord_any ds[k].act)
      have htx : Hid (dtV ds[k] = .string ⟨(deedText ⟨ds[k].act, ds[k].line, ds[k].word⟩).toArray⟩) := rfl
      have hcs := need_cases ds[k].act ds[k].word
      obtain ⟨dv, hdv⟩ : ∃ v, v = dtV ds[k] := ⟨_, rfl⟩
      have hil := Lib.hid (fun w h => itoa_any ds[k].line w hli h)
      have hiw := Lib.hid (fun w h => itoa_any ds[k].word w hwo h)
      generalize ds[k].line = line at *
      generalize ds[k].word = word at *
      generalize ds[k].act = act at *
      rcases hcs with ⟨hw0, hN⟩ | ⟨rfl, rfl⟩ | ⟨rfl, rfl⟩ | ⟨rfl, hp, hh, hN⟩
      · have hdtv : Hid (dtV ds[k] = .string ⟨(act ++ 32 :: Lib.itoa line ++ 32 :: Lib.itoa word).toArray⟩) := by rw [Hid, htx.out]; unfold deedText; rw [if_pos (by simp [needD, hw0])]; rfl
        clear htx hN
        generalize Lib.itoa line = tl at *
        generalize Lib.itoa word = tw at *
        by_cases hna : needW act = true
        · have S0 : (wr.alloc (.cells #[.string ⟨act.toArray⟩, .int .i64 line, .int .i64 word] 47)).drew.cell? ⟨wr.heap.size, 0, none⟩ = some (.string ⟨act.toArray⟩) ∧ (wr.alloc (.cells #[.string ⟨act.toArray⟩, .int .i64 line, .int .i64 word] 47)).drew.cell? ⟨wr.heap.size, 1, none⟩ = some (.int .i64 line) ∧ (wr.alloc (.cells #[.string ⟨act.toArray⟩, .int .i64 line, .int .i64 word] 47)).drew.cell? ⟨wr.heap.size, 2, none⟩ = some (.int .i64 word) ∧ Below wr.heap.size wr (wr.alloc (.cells #[.string ⟨act.toArray⟩, .int .i64 line, .int .i64 word] 47)).drew ∧ wr.heap.size < (wr.alloc (.cells #[.string ⟨act.toArray⟩, .int .i64 line, .int .i64 word] 47)).drew.heap.size :=
            ⟨by simp, by simp, by simp, ((Below.refl _ wr).alloc (Nat.le_refl _) _).drew, by simp⟩
          have hkp := fun (W w' : World) (hS : W.cell? ⟨wr.heap.size, 0, none⟩ = some (.string ⟨act.toArray⟩) ∧ W.cell? ⟨wr.heap.size, 1, none⟩ = some (.int .i64 line) ∧ W.cell? ⟨wr.heap.size, 2, none⟩ = some (.int .i64 word) ∧ Below wr.heap.size wr W ∧ wr.heap.size < W.heap.size) (hb : Below W.heap.size W w') =>
            show w'.cell? ⟨wr.heap.size, 0, none⟩ = some (.string ⟨act.toArray⟩) ∧ w'.cell? ⟨wr.heap.size, 1, none⟩ = some (.int .i64 line) ∧ w'.cell? ⟨wr.heap.size, 2, none⟩ = some (.int .i64 word) ∧ Below wr.heap.size wr w' ∧ wr.heap.size < w'.heap.size from
              ⟨(hb.cell (p := ⟨wr.heap.size, 0, none⟩) hS.2.2.2.2).trans hS.1, (hb.cell (p := ⟨wr.heap.size, 1, none⟩) hS.2.2.2.2).trans hS.2.1, (hb.cell (p := ⟨wr.heap.size, 2, none⟩) hS.2.2.2.2).trans hS.2.2.1, hS.2.2.2.1.trans (hb.mono hS.2.2.2.1.size), Nat.lt_of_lt_of_le hS.2.2.2.2 hb.size⟩
          have hEs : Env (wr.alloc (.cells #[.string ⟨act.toArray⟩, .int .i64 line, .int .i64 word] 47)).drew := hEr.below S0.2.2.2.1 (Nat.le_refl _)
          have ha2 : ¬ 9223372036854775807 < act.length + 1 + tl.length := by omega
          have ha1 : ¬ 9223372036854775807 < act.length + 1 := by omega
          go_wp2
          go_region_held3 (fun w' => w'.cell? ⟨wr.heap.size, 0, none⟩ = some (.string ⟨act.toArray⟩) ∧ w'.cell? ⟨wr.heap.size, 1, none⟩ = some (.int .i64 line) ∧ w'.cell? ⟨wr.heap.size, 2, none⟩ = some (.int .i64 word) ∧ Below wr.heap.size wr w' ∧ wr.heap.size < w'.heap.size)
            (first | exact S0 | exact hkp _ _ S0 (by assumption))
            (first | (go_at_call 32; refine (hil.out _ hEs).mono ?_; rintro e w' ⟨rfl, hbc⟩))
          rename_i w1 hb1 hS
          have hE1 := hEr.below hS.2.2.2.1 (Nat.le_refl _)
          have c0 := hS.1
          have c1 := hS.2.1
          have c2 := hS.2.2.1
          have hbw1 := hS.2.2.2.1
          clear hS hkp S0
          go_wp2_with (first
            | (go_at_call 37; refine (hnw.out _).mono ?_; rintro e w' ⟨rfl, rfl⟩)
            | (go_at_call 32; refine (hiw.out _ hE1).mono ?_; rintro e w2 ⟨rfl, hb2⟩; have hbw2 := hbw1.trans (hb2.mono hbw1.size); have hown2 := ownsRow_below hown hbw2 (Nat.le_refl _); have hs2 := hbw2.size)
            | (at_builtin; refine wpList_append_own _ rfl (.tmp 37) (.tmp 39) 49 rfl w.heap.size 9 i0 (.string ⟨#[]⟩) 1 16 Tryd.underlying49 hi hz0 hz1 hz2 rfl (by decide) _ k _ rfl (hown2.alloc _) ⟨w2.heap.size, 0, none⟩ 1 1 [?newElt1] rfl rfl ?c1x1 ?c2x1 ?c3x1 ?c4x1 ?c5x1 ?_))
          case c1x1 => exact cell_one_new _ _ _
          case c2x1 => intro u hu; simp at hu; subst hu; rfl
          case c3x1 => unfold maxLen; omega
          case c4x1 => omega
          case c5x1 => simp; omega
          intro v' w3 hown3 hgrow3 _
          have hown4 : w3.ownsRow w.heap.size 9 1 v' (k + 1) ((ds.take (k + 1)).map dtV) := by
            rw [List.take_succ_eq_append_getElem hlt, List.map_append, List.map_take, List.map_cons, List.map_nil, hdtv.out]
            simpa [bs_one, bs_append, bs_cons, List.map_take] using hown3
          go_wp2
          go_roundw
          case rel => exact ⟨k + 1, by omega, by go_num, hown4, ((hb.trans (hbw2.mono hb.size)).alloc (by omega) _).grown hgrow3 (by simp; omega) (fun q hq => (hown.lt q hq).1)⟩
          case measure => simp [intOf]; omega
        · have hna' : needW act = false := by simpa using hna
          clear hna
          have S0 : (wr.alloc (.cells #[.string ⟨act.toArray⟩, .int .i64 line, .int .i64 word] 47)).drew.cell? ⟨wr.heap.size, 0, none⟩ = some (.string ⟨act.toArray⟩) ∧ (wr.alloc (.cells #[.string ⟨act.toArray⟩, .int .i64 line, .int .i64 word] 47)).drew.cell? ⟨wr.heap.size, 1, none⟩ = some (.int .i64 line) ∧ (wr.alloc (.cells #[.string ⟨act.toArray⟩, .int .i64 line, .int .i64 word] 47)).drew.cell? ⟨wr.heap.size, 2, none⟩ = some (.int .i64 word) ∧ Below wr.heap.size wr (wr.alloc (.cells #[.string ⟨act.toArray⟩, .int .i64 line, .int .i64 word] 47)).drew ∧ wr.heap.size < (wr.alloc (.cells #[.string ⟨act.toArray⟩, .int .i64 line, .int .i64 word] 47)).drew.heap.size :=
            ⟨by simp, by simp, by simp, ((Below.refl _ wr).alloc (Nat.le_refl _) _).drew, by simp⟩
          have hkp := fun (W w' : World) (hS : W.cell? ⟨wr.heap.size, 0, none⟩ = some (.string ⟨act.toArray⟩) ∧ W.cell? ⟨wr.heap.size, 1, none⟩ = some (.int .i64 line) ∧ W.cell? ⟨wr.heap.size, 2, none⟩ = some (.int .i64 word) ∧ Below wr.heap.size wr W ∧ wr.heap.size < W.heap.size) (hb : Below W.heap.size W w') =>
            show w'.cell? ⟨wr.heap.size, 0, none⟩ = some (.string ⟨act.toArray⟩) ∧ w'.cell? ⟨wr.heap.size, 1, none⟩ = some (.int .i64 line) ∧ w'.cell? ⟨wr.heap.size, 2, none⟩ = some (.int .i64 word) ∧ Below wr.heap.size wr w' ∧ wr.heap.size < w'.heap.size from
              ⟨(hb.cell (p := ⟨wr.heap.size, 0, none⟩) hS.2.2.2.2).trans hS.1, (hb.cell (p := ⟨wr.heap.size, 1, none⟩) hS.2.2.2.2).trans hS.2.1, (hb.cell (p := ⟨wr.heap.size, 2, none⟩) hS.2.2.2.2).trans hS.2.2.1, hS.2.2.2.1.trans (hb.mono hS.2.2.2.1.size), Nat.lt_of_lt_of_le hS.2.2.2.2 hb.size⟩
          have hEs : Env (wr.alloc (.cells #[.string ⟨act.toArray⟩, .int .i64 line, .int .i64 word] 47)).drew := hEr.below S0.2.2.2.1 (Nat.le_refl _)
          have ha2 : ¬ 9223372036854775807 < act.length + 1 + tl.length := by omega
          have ha1 : ¬ 9223372036854775807 < act.length + 1 := by omega
          go_wp2
          go_region_held3 (fun w' => w'.cell? ⟨wr.heap.size, 0, none⟩ = some (.string ⟨act.toArray⟩) ∧ w'.cell? ⟨wr.heap.size, 1, none⟩ = some (.int .i64 line) ∧ w'.cell? ⟨wr.heap.size, 2, none⟩ = some (.int .i64 word) ∧ Below wr.heap.size wr w' ∧ wr.heap.size < w'.heap.size)
            (first | exact S0 | exact hkp _ _ S0 (by assumption))
            (first | (go_at_call 32; refine (hil.out _ hEs).mono ?_; rintro e w' ⟨rfl, hbc⟩))
          rename_i w1 hb1 hS
          have hE1 := hEr.below hS.2.2.2.1 (Nat.le_refl _)
          have c0 := hS.1
          have c1 := hS.2.1
          have c2 := hS.2.2.1
          have hbw1 := hS.2.2.2.1
          clear hS hkp S0
          go_wp2_with (first
            | (go_at_call 37; refine (hnw.out _).mono ?_; rintro e w' ⟨rfl, rfl⟩)
            | (go_at_call 32; refine (hiw.out _ hE1).mono ?_; rintro e w2 ⟨rfl, hb2⟩; have hbw2 := hbw1.trans (hb2.mono hbw1.size); have hown2 := ownsRow_below hown hbw2 (Nat.le_refl _); have hs2 := hbw2.size)
            | (at_builtin; refine wpList_append_own _ rfl (.tmp 37) (.tmp 39) 49 rfl w.heap.size 9 i0 (.string ⟨#[]⟩) 1 16 Tryd.underlying49 hi hz0 hz1 hz2 rfl (by decide) _ k _ rfl (hown2.alloc _) ⟨w2.heap.size, 0, none⟩ 1 1 [?newElt2] rfl rfl ?c1x2 ?c2x2 ?c3x2 ?c4x2 ?c5x2 ?_))
          case c1x2 => exact cell_one_new _ _ _
          case c2x2 => intro u hu; simp at hu; subst hu; rfl
          case c3x2 => unfold maxLen; omega
          case c4x2 => omega
          case c5x2 => simp; omega
          intro v' w3 hown3 hgrow3 _
          have hown4 : w3.ownsRow w.heap.size 9 1 v' (k + 1) ((ds.take (k + 1)).map dtV) := by
            rw [List.take_succ_eq_append_getElem hlt, List.map_append, List.map_take, List.map_cons, List.map_nil, hdtv.out]
            simpa [bs_one, bs_append, bs_cons, List.map_take] using hown3
          go_wp2
          go_roundw
          case rel => exact ⟨k + 1, by omega, by go_num, hown4, ((hb.trans (hbw2.mono hb.size)).alloc (by omega) _).grown hgrow3 (by simp; omega) (fun q hq => (hown.lt q hq).1)⟩
          case measure => simp [intOf]; omega
      · have hdtv : Hid (dtV ds[k] = .string ⟨([112, 117, 116] ++ 32 :: Lib.itoa line ++ 32 :: Lib.itoa 0).toArray⟩) := by rw [Hid, htx.out]; unfold deedText; rw [if_pos (by simp [needD, needW])]; rfl
        clear htx
        generalize Lib.itoa line = tl at *
        generalize Lib.itoa 0 = tw at *
        have hna : needW [112, 117, 116] = true := rfl
        have S0 : (wr.alloc (.cells #[.string ⟨#[112, 117, 116]⟩, .int .i64 line, .int .i64 0] 47)).drew.cell? ⟨wr.heap.size, 0, none⟩ = some (.string ⟨#[112, 117, 116]⟩) ∧ (wr.alloc (.cells #[.string ⟨#[112, 117, 116]⟩, .int .i64 line, .int .i64 0] 47)).drew.cell? ⟨wr.heap.size, 1, none⟩ = some (.int .i64 line) ∧ (wr.alloc (.cells #[.string ⟨#[112, 117, 116]⟩, .int .i64 line, .int .i64 0] 47)).drew.cell? ⟨wr.heap.size, 2, none⟩ = some (.int .i64 0) ∧ Below wr.heap.size wr (wr.alloc (.cells #[.string ⟨#[112, 117, 116]⟩, .int .i64 line, .int .i64 0] 47)).drew ∧ wr.heap.size < (wr.alloc (.cells #[.string ⟨#[112, 117, 116]⟩, .int .i64 line, .int .i64 0] 47)).drew.heap.size :=
          ⟨by simp, by simp, by simp, ((Below.refl _ wr).alloc (Nat.le_refl _) _).drew, by simp⟩
        have hkp := fun (W w' : World) (hS : W.cell? ⟨wr.heap.size, 0, none⟩ = some (.string ⟨#[112, 117, 116]⟩) ∧ W.cell? ⟨wr.heap.size, 1, none⟩ = some (.int .i64 line) ∧ W.cell? ⟨wr.heap.size, 2, none⟩ = some (.int .i64 0) ∧ Below wr.heap.size wr W ∧ wr.heap.size < W.heap.size) (hb : Below W.heap.size W w') =>
          show w'.cell? ⟨wr.heap.size, 0, none⟩ = some (.string ⟨#[112, 117, 116]⟩) ∧ w'.cell? ⟨wr.heap.size, 1, none⟩ = some (.int .i64 line) ∧ w'.cell? ⟨wr.heap.size, 2, none⟩ = some (.int .i64 0) ∧ Below wr.heap.size wr w' ∧ wr.heap.size < w'.heap.size from
            ⟨(hb.cell (p := ⟨wr.heap.size, 0, none⟩) hS.2.2.2.2).trans hS.1, (hb.cell (p := ⟨wr.heap.size, 1, none⟩) hS.2.2.2.2).trans hS.2.1, (hb.cell (p := ⟨wr.heap.size, 2, none⟩) hS.2.2.2.2).trans hS.2.2.1, hS.2.2.2.1.trans (hb.mono hS.2.2.2.1.size), Nat.lt_of_lt_of_le hS.2.2.2.2 hb.size⟩
        have hEs : Env (wr.alloc (.cells #[.string ⟨#[112, 117, 116]⟩, .int .i64 line, .int .i64 0] 47)).drew := hEr.below S0.2.2.2.1 (Nat.le_refl _)
        have ha2 : ¬ 9223372036854775807 < 4 + tl.length := by omega
        go_wp2
        go_region_held3 (fun w' => w'.cell? ⟨wr.heap.size, 0, none⟩ = some (.string ⟨#[112, 117, 116]⟩) ∧ w'.cell? ⟨wr.heap.size, 1, none⟩ = some (.int .i64 line) ∧ w'.cell? ⟨wr.heap.size, 2, none⟩ = some (.int .i64 0) ∧ Below wr.heap.size wr w' ∧ wr.heap.size < w'.heap.size)
          (first | exact S0 | exact hkp _ _ S0 (by assumption))
          (first | (go_at_call 32; refine (hil.out _ hEs).mono ?_; rintro e w' ⟨rfl, hbc⟩))
        rename_i w1 hb1 hS
        have hE1 := hEr.below hS.2.2.2.1 (Nat.le_refl _)
        have c0 := hS.1
        have c1 := hS.2.1
        have c2 := hS.2.2.1
        have hbw1 := hS.2.2.2.1
        clear hS hkp S0
        go_wp2_with (first
          | (go_at_call 37; refine (hnw.out _).mono ?_; rintro e w' ⟨rfl, rfl⟩)
          | (go_at_call 32; refine (hiw.out _ hE1).mono ?_; rintro e w2 ⟨rfl, hb2⟩; have hbw2 := hbw1.trans (hb2.mono hbw1.size); have hown2 := ownsRow_below hown hbw2 (Nat.le_refl _); have hs2 := hbw2.size)
          | (at_builtin; refine wpList_append_own _ rfl (.tmp 37) (.tmp 39) 49 rfl w.heap.size 9 i0 (.string ⟨#[]⟩) 1 16 Tryd.underlying49 hi hz0 hz1 hz2 rfl (by decide) _ k _ rfl (hown2.alloc _) ⟨w2.heap.size, 0, none⟩ 1 1 [?newElt3] rfl rfl ?c1x3 ?c2x3 ?c3x3 ?c4x3 ?c5x3 ?_))
        case c1x3 => exact cell_one_new _ _ _
        case c2x3 => intro u hu; simp at hu; subst hu; rfl
        case c3x3 => unfold maxLen; omega
        case c4x3 => omega
        case c5x3 => simp; omega
        intro v' w3 hown3 hgrow3 _
        have hown4 : w3.ownsRow w.heap.size 9 1 v' (k + 1) ((ds.take (k + 1)).map dtV) := by
          rw [List.take_succ_eq_append_getElem hlt, List.map_append, List.map_take, List.map_cons, List.map_nil, hdtv.out]
          simpa [bs_one, bs_append, bs_cons, List.map_take] using hown3
        go_wp2
        go_roundw
        case rel => exact ⟨k + 1, by omega, by go_num, hown4, ((hb.trans (hbw2.mono hb.size)).alloc (by omega) _).grown hgrow3 (by simp; omega) (fun q hq => (hown.lt q hq).1)⟩
        case measure => simp [intOf]; omega
      · have hdtv : Hid (dtV ds[k] = .string ⟨([104, 97, 110, 100] ++ 32 :: Lib.itoa line ++ 32 :: Lib.itoa 0).toArray⟩) := by rw [Hid, htx.out]; unfold deedText; rw [if_pos (by simp [needD, needW])]; rfl
        clear htx
        generalize Lib.itoa line = tl at *
        generalize Lib.itoa 0 = tw at *
        have hna : needW [104, 97, 110, 100] = true := rfl
        have S0 : (wr.alloc (.cells #[.string ⟨#[104, 97, 110, 100]⟩, .int .i64 line, .int .i64 0] 47)).drew.cell? ⟨wr.heap.size, 0, none⟩ = some (.string ⟨#[104, 97, 110, 100]⟩) ∧ (wr.alloc (.cells #[.string ⟨#[104, 97, 110, 100]⟩, .int .i64 line, .int .i64 0] 47)).drew.cell? ⟨wr.heap.size, 1, none⟩ = some (.int .i64 line) ∧ (wr.alloc (.cells #[.string ⟨#[104, 97, 110, 100]⟩, .int .i64 line, .int .i64 0] 47)).drew.cell? ⟨wr.heap.size, 2, none⟩ = some (.int .i64 0) ∧ Below wr.heap.size wr (wr.alloc (.cells #[.string ⟨#[104, 97, 110, 100]⟩, .int .i64 line, .int .i64 0] 47)).drew ∧ wr.heap.size < (wr.alloc (.cells #[.string ⟨#[104, 97, 110, 100]⟩, .int .i64 line, .int .i64 0] 47)).drew.heap.size :=
          ⟨by simp, by simp, by simp, ((Below.refl _ wr).alloc (Nat.le_refl _) _).drew, by simp⟩
        have hkp := fun (W w' : World) (hS : W.cell? ⟨wr.heap.size, 0, none⟩ = some (.string ⟨#[104, 97, 110, 100]⟩) ∧ W.cell? ⟨wr.heap.size, 1, none⟩ = some (.int .i64 line) ∧ W.cell? ⟨wr.heap.size, 2, none⟩ = some (.int .i64 0) ∧ Below wr.heap.size wr W ∧ wr.heap.size < W.heap.size) (hb : Below W.heap.size W w') =>
          show w'.cell? ⟨wr.heap.size, 0, none⟩ = some (.string ⟨#[104, 97, 110, 100]⟩) ∧ w'.cell? ⟨wr.heap.size, 1, none⟩ = some (.int .i64 line) ∧ w'.cell? ⟨wr.heap.size, 2, none⟩ = some (.int .i64 0) ∧ Below wr.heap.size wr w' ∧ wr.heap.size < w'.heap.size from
            ⟨(hb.cell (p := ⟨wr.heap.size, 0, none⟩) hS.2.2.2.2).trans hS.1, (hb.cell (p := ⟨wr.heap.size, 1, none⟩) hS.2.2.2.2).trans hS.2.1, (hb.cell (p := ⟨wr.heap.size, 2, none⟩) hS.2.2.2.2).trans hS.2.2.1, hS.2.2.2.1.trans (hb.mono hS.2.2.2.1.size), Nat.lt_of_lt_of_le hS.2.2.2.2 hb.size⟩
        have hEs : Env (wr.alloc (.cells #[.string ⟨#[104, 97, 110, 100]⟩, .int .i64 line, .int .i64 0] 47)).drew := hEr.below S0.2.2.2.1 (Nat.le_refl _)
        have ha2 : ¬ 9223372036854775807 < 5 + tl.length := by omega
        go_wp2
        go_region_held3 (fun w' => w'.cell? ⟨wr.heap.size, 0, none⟩ = some (.string ⟨#[104, 97, 110, 100]⟩) ∧ w'.cell? ⟨wr.heap.size, 1, none⟩ = some (.int .i64 line) ∧ w'.cell? ⟨wr.heap.size, 2, none⟩ = some (.int .i64 0) ∧ Below wr.heap.size wr w' ∧ wr.heap.size < w'.heap.size)
          (first | exact S0 | exact hkp _ _ S0 (by assumption))
          (first | (go_at_call 32; refine (hil.out _ hEs).mono ?_; rintro e w' ⟨rfl, hbc⟩))
        rename_i w1 hb1 hS
        have hE1 := hEr.below hS.2.2.2.1 (Nat.le_refl _)
        have c0 := hS.1
        have c1 := hS.2.1
        have c2 := hS.2.2.1
        have hbw1 := hS.2.2.2.1
        clear hS hkp S0
        go_wp2_with (first
          | (go_at_call 37; refine (hnw.out _).mono ?_; rintro e w' ⟨rfl, rfl⟩)
          | (go_at_call 32; refine (hiw.out _ hE1).mono ?_; rintro e w2 ⟨rfl, hb2⟩; have hbw2 := hbw1.trans (hb2.mono hbw1.size); have hown2 := ownsRow_below hown hbw2 (Nat.le_refl _); have hs2 := hbw2.size)
          | (at_builtin; refine wpList_append_own _ rfl (.tmp 37) (.tmp 39) 49 rfl w.heap.size 9 i0 (.string ⟨#[]⟩) 1 16 Tryd.underlying49 hi hz0 hz1 hz2 rfl (by decide) _ k _ rfl (hown2.alloc _) ⟨w2.heap.size, 0, none⟩ 1 1 [?newElt4] rfl rfl ?c1x4 ?c2x4 ?c3x4 ?c4x4 ?c5x4 ?_))
        case c1x4 => exact cell_one_new _ _ _
        case c2x4 => intro u hu; simp at hu; subst hu; rfl
        case c3x4 => unfold maxLen; omega
        case c4x4 => omega
        case c5x4 => simp; omega
        intro v' w3 hown3 hgrow3 _
        have hown4 : w3.ownsRow w.heap.size 9 1 v' (k + 1) ((ds.take (k + 1)).map dtV) := by
          rw [List.take_succ_eq_append_getElem hlt, List.map_append, List.map_take, List.map_cons, List.map_nil, hdtv.out]
          simpa [bs_one, bs_append, bs_cons, List.map_take] using hown3
        go_wp2
        go_roundw
        case rel => exact ⟨k + 1, by omega, by go_num, hown4, ((hb.trans (hbw2.mono hb.size)).alloc (by omega) _).grown hgrow3 (by simp; omega) (fun q hq => (hown.lt q hq).1)⟩
        case measure => simp [intOf]; omega
      · have hdtv : Hid (dtV ds[k] = .string ⟨(act ++ 32 :: Lib.itoa line).toArray⟩) := by rw [Hid, htx.out]; unfold deedText; rw [if_neg (by simp [needD, needW, hp, hh])]; rfl
        clear htx hN
        generalize Lib.itoa line = tl at *
        generalize Lib.itoa 0 = tw at *
        have hna : needW act = false := by simp [needW, hp, hh]
        have S0 : (wr.alloc (.cells #[.string ⟨act.toArray⟩, .int .i64 line, .int .i64 0] 47)).drew.cell? ⟨wr.heap.size, 0, none⟩ = some (.string ⟨act.toArray⟩) ∧ (wr.alloc (.cells #[.string ⟨act.toArray⟩, .int .i64 line, .int .i64 0] 47)).drew.cell? ⟨wr.heap.size, 1, none⟩ = some (.int .i64 line) ∧ (wr.alloc (.cells #[.string ⟨act.toArray⟩, .int .i64 line, .int .i64 0] 47)).drew.cell? ⟨wr.heap.size, 2, none⟩ = some (.int .i64 0) ∧ Below wr.heap.size wr (wr.alloc (.cells #[.string ⟨act.toArray⟩, .int .i64 line, .int .i64 0] 47)).drew ∧ wr.heap.size < (wr.alloc (.cells #[.string ⟨act.toArray⟩, .int .i64 line, .int .i64 0] 47)).drew.heap.size :=
          ⟨by simp, by simp, by simp, ((Below.refl _ wr).alloc (Nat.le_refl _) _).drew, by simp⟩
        have hkp := fun (W w' : World) (hS : W.cell? ⟨wr.heap.size, 0, none⟩ = some (.string ⟨act.toArray⟩) ∧ W.cell? ⟨wr.heap.size, 1, none⟩ = some (.int .i64 line) ∧ W.cell? ⟨wr.heap.size, 2, none⟩ = some (.int .i64 0) ∧ Below wr.heap.size wr W ∧ wr.heap.size < W.heap.size) (hb : Below W.heap.size W w') =>
          show w'.cell? ⟨wr.heap.size, 0, none⟩ = some (.string ⟨act.toArray⟩) ∧ w'.cell? ⟨wr.heap.size, 1, none⟩ = some (.int .i64 line) ∧ w'.cell? ⟨wr.heap.size, 2, none⟩ = some (.int .i64 0) ∧ Below wr.heap.size wr w' ∧ wr.heap.size < w'.heap.size from
            ⟨(hb.cell (p := ⟨wr.heap.size, 0, none⟩) hS.2.2.2.2).trans hS.1, (hb.cell (p := ⟨wr.heap.size, 1, none⟩) hS.2.2.2.2).trans hS.2.1, (hb.cell (p := ⟨wr.heap.size, 2, none⟩) hS.2.2.2.2).trans hS.2.2.1, hS.2.2.2.1.trans (hb.mono hS.2.2.2.1.size), Nat.lt_of_lt_of_le hS.2.2.2.2 hb.size⟩
        have hEs : Env (wr.alloc (.cells #[.string ⟨act.toArray⟩, .int .i64 line, .int .i64 0] 47)).drew := hEr.below S0.2.2.2.1 (Nat.le_refl _)
        have ha2 : ¬ 9223372036854775807 < act.length + 1 + tl.length := by omega
        have ha1 : ¬ 9223372036854775807 < act.length + 1 := by omega
        go_wp2
        go_region_held3 (fun w' => w'.cell? ⟨wr.heap.size, 0, none⟩ = some (.string ⟨act.toArray⟩) ∧ w'.cell? ⟨wr.heap.size, 1, none⟩ = some (.int .i64 line) ∧ w'.cell? ⟨wr.heap.size, 2, none⟩ = some (.int .i64 0) ∧ Below wr.heap.size wr w' ∧ wr.heap.size < w'.heap.size)
          (first | exact S0 | exact hkp _ _ S0 (by assumption))
          (first | (go_at_call 32; refine (hil.out _ hEs).mono ?_; rintro e w' ⟨rfl, hbc⟩))
        rename_i w1 hb1 hS
        have hE1 := hEr.below hS.2.2.2.1 (Nat.le_refl _)
        have c0 := hS.1
        have c1 := hS.2.1
        have c2 := hS.2.2.1
        have hbw1 := hS.2.2.2.1
        clear hS hkp S0
        have hown2 := ownsRow_below hown hbw1 (Nat.le_refl _)
        have hbw2 := hbw1
        have hs2 := hbw1.size
        go_wp2_with (first
          | (go_at_call 37; refine (hnw.out _).mono ?_; rintro e w' ⟨rfl, rfl⟩)
          | (at_builtin; refine wpList_append_own _ rfl (.tmp 37) (.tmp 39) 49 rfl w.heap.size 9 i0 (.string ⟨#[]⟩) 1 16 Tryd.underlying49 hi hz0 hz1 hz2 rfl (by decide) _ k _ rfl (hown2.alloc _) ⟨_, 0, none⟩ 1 1 [?newElt5] rfl rfl ?c1x5 ?c2x5 ?c3x5 ?c4x5 ?c5x5 ?_))
        case c1x5 => exact cell_one_new _ _ _
        case c2x5 => intro u hu; simp at hu; subst hu; rfl
        case c3x5 => unfold maxLen; omega
        case c4x5 => omega
        case c5x5 => simp; omega
        intro v' w3 hown3 hgrow3 _
        have hown4 : w3.ownsRow w.heap.size 9 1 v' (k + 1) ((ds.take (k + 1)).map dtV) := by
          rw [List.take_succ_eq_append_getElem hlt, List.map_append, List.map_take, List.map_cons, List.map_nil, hdtv.out]
          simpa [bs_one, bs_append, bs_cons, List.map_take] using hown3
        go_wp2
        go_roundw
        case rel => exact ⟨k + 1, by omega, by go_num, hown4, ((hb.trans (hbw2.mono hb.size)).alloc (by omega) _).grown hgrow3 (by simp; omega) (fun q hq => (hown.lt q hq).1)⟩
        case measure => simp [intOf]; omega
    · have ek : k = ds.length := by omega
      subst ek
      rw [List.take_length] at hown
      have eown : ∀ v, wr.ownsRow w.heap.size 9 1 v ds.length (ds.map dtV) → wr.ownsRow w.heap.size 9 1 v (ds.map deedText).length ((ds.map deedText).map strV) := by
        intro v h; simp only [List.length_map, List.map_map]; exact h
      have hown' := eown _ hown
      clear eown
      have hll := planL_len ds hd ds.length (Nat.le_refl _)
      have hjl : (Lib.join (ds.map deedText) [44]).length ≤ 140737488355328 := by
        unfold planL at hll; rw [List.take_length] at hll; omega
      have hjn : Hid (fmtPlan ds = joinD (ds.map deedText) [44]) := by
        unfold Hid fmtPlan joinD planL; rw [List.take_length]; by_cases h : ds = [] <;> simp [h]
      have HJ := Lib.hid (fun v h => joined_any v w.heap.size (ds.map deedText) [44] wr h (by simpa using hlen) hjl)
      go_wp2_with (go_at_call 33; refine (HJ.out _ hown').mono ?_; rintro e w' ⟨rfl, hb2⟩)
      go_ret
      exact ⟨ret_str (by rw [hjn.out]), hb.trans (hb2.mono hb.size)⟩
end Go.Proofs.YtkkcnkajffbnaaaDoor
