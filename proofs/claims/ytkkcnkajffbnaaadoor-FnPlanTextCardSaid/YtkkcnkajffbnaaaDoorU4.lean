/-
  The reference's FormatPlan returns the text of deeds.
-/
import Derived.Test.YtkkcnkajffbnaaaDoorU3
namespace Go.Proofs.YtkkcnkajffbnaaaDoor
open Go.RowKit

def DdOk (d : Dd) : Prop := d.act.length ≤ 1048576 ∧ InI d.line ∧ InI d.word
def planL (ds : List Dd) (k : Nat) : List UInt8 := Lib.join ((ds.take k).map deedText) [44]
def fmtPlan (ds : List Dd) : List UInt8 := if ds = [] then [45] else planL ds ds.length
theorem deedText_ne (d : Dd) : deedText d ≠ [] := by unfold deedText deedHead; split <;> simp
theorem deedText_len (d : Dd) (h : DdOk d) : (deedText d).length ≤ d.act.length + 44 := by
  have h1 := Lib.itoa_length_le d.line h.2.1.1 h.2.1.2
  have h2 := Lib.itoa_length_le d.word h.2.2.1 h.2.2.2
  unfold deedText deedHead
  split <;> simp <;> omega
theorem planL_succ (ds : List Dd) (k : Nat) (h : k < ds.length) : planL ds (k + 1) = (if k = 0 then [] else planL ds k ++ [44]) ++ deedText (ds[k]) := by
  unfold planL
  rw [List.take_succ_eq_append_getElem h, List.map_append, List.map_cons, List.map_nil, join_snoc]
  congr 1
  cases k with
  | zero => simp
  | succ k => rw [if_neg, if_neg (by omega)]; simp; intro h'; rw [h'] at h; simp at h
theorem planL_empty (ds : List Dd) : planL ds ds.length = [] ↔ ds = [] := by
  constructor
  · intro h
    by_cases e : ds = []
    · exact e
    · exact absurd h (join_ne_nil _ _ (by intro x hx; obtain ⟨n, _, rfl⟩ := List.mem_map.1 hx; exact deedText_ne n) (by simpa using e))
  · rintro rfl; rfl
theorem planL_len (ds : List Dd) (hd : ∀ d ∈ ds, DdOk d) : ∀ k, k ≤ ds.length → (planL ds k).length ≤ szD ds k + k * 45
  | 0, _ => by simp [planL, Lib.join_nil]
  | k + 1, h => by
    have ih := planL_len ds hd k (by omega)
    have h1 := deedText_len ds[k] (hd _ (by simp))
    have h2 := szD_succ ds k (by omega)
    rw [planL_succ ds k (by omega)]
    split
    · simp; omega
    · simp; omega

set_option maxRecDepth 100000 in
set_option maxHeartbeats 400000 in
theorem specFP (a : Option Addr) (c : Nat) (ds : List Dd) (w : World) (hn : szD ds ds.length ≤ 1048576) (hd : ∀ d ∈ ds, DdOk d) (hA : DeedsAt w a ds) :
    Calls Tryd.prog 14 #[.slice a ds.length c] w fun e w' => e = .returned (.string ⟨(fmtPlan ds).toArray⟩) ∧ Below w.heap.size w w' := by
  have hlen : ds.length ≤ 1048576 := by unfold szD at hn; omega
  go_enter Tryd.func14, Tryd.ntmps14
  go_wp2
  go_loopw [3, 4] (fun out i wr => ∃ k : Nat, k ≤ ds.length ∧ i = .int .i64 k ∧ out = .string ⟨(planL ds k).toArray⟩ ∧ Below w.heap.size w wr) (fun _ i _ => ds.length - (intOf i).toNat)
  case atStart => exact ⟨0, Nat.zero_le _, rfl, rfl, Below.refl _ _⟩
  case round =>
    obtain ⟨k, hk, rfl, rfl, hb⟩ := hrel
    by_cases hlt : k < ds.length
    · obtain ⟨b, off, rfl, hbs, hc0, hc1, hc2⟩ := (hA.below hb (Nat.le_refl _)).at hlt
      have hok := hd ds[k] (by simp)
      have hdec := Lib.hid (fun w => l10Deed_any ds[k] w hok.1 hok.2.1 hok.2.2)
      simp only [deedV] at hdec
      have hll := planL_len ds hd k hk
      have hsk := szD_le ds k
      have hle := deedText_len ds[k] hok
      have hoka := hok.1
      have hl0 : k = 0 → planL ds k = [] := by rintro rfl; rfl
      have hsu := Lib.hid (planL_succ ds k hlt)
      generalize planL ds k = l at *
      generalize deedText ds[k] = t at *
      have hlt' : (k : Int) < (ds.length : Int) := by omega
      have hl2 : l.length ≤ 50000000 := by omega
      by_cases h0 : 0 < k
      · have h0' : (0 : Int) < (k : Int) := by omega
        rw [if_neg (by omega)] at hsu
        go_wp2_with (go_at_call 35; refine (hdec.out _).mono ?_; rintro e w' ⟨rfl, hb2⟩)
        go_roundw
        case rel => exact ⟨k + 1, by omega, by go_num, val_str (by rw [hsu.out, bs_snoc, bs_append]), hb.trans (hb2.mono hb.size)⟩
        case measure => simp [intOf]; omega
      · have h0' : ¬ (0 : Int) < (k : Int) := by omega
        have hsu2 : Hid (planL ds (k + 1) = l ++ t) := by
          obtain rfl : k = 0 := by omega
          rw [Hid, hsu.out, hl0 rfl]
          rfl
        clear hsu
        go_wp2_with (go_at_call 35; refine (hdec.out _).mono ?_; rintro e w' ⟨rfl, hb2⟩)
        go_roundw
        case rel => exact ⟨k + 1, by omega, by go_num, val_str (by rw [hsu2.out, bs_append]), hb.trans (hb2.mono hb.size)⟩
        case measure => simp [intOf]; omega
    · have ek : k = ds.length := by omega
      subst ek
      have hem := planL_empty ds
      have hfm : Hid (fmtPlan ds = if ds = [] then [45] else planL ds ds.length) := rfl
      generalize hfl : planL ds ds.length = l at *
      clear hfl
      by_cases he : ds = []
      · have hl : l.isEmpty = true := by simp [hem.2 he]
        clear hem
        rw [if_pos he] at hfm
        clear he
        go_wp2
        go_ret
        exact ⟨ret_str (by rw [hfm.out]), hb⟩
      · have hl : l.isEmpty = false := by simpa using fun e => he (hem.1 e)
        clear hem
        rw [if_neg he] at hfm
        clear he
        go_wp2
        go_ret
        exact ⟨ret_str (by rw [hfm.out]), hb⟩

set_option maxRecDepth 100000 in
set_option maxHeartbeats 400000 in
theorem needsWord_any (act : List UInt8) (w : World) : Calls Tryd.prog 37 #[.string ⟨act.toArray⟩] w fun e w' => e = .returned (.bool (needW act)) ∧ w = w' := by
  by_cases h1 : act = [112, 117, 116]
  · subst h1
    go_enter Tryd.func37, Tryd.ntmps37
    go_wp2
    go_ret
    exact ⟨rfl, rfl⟩
  by_cases h2 : act = [104, 97, 110, 100]
  · subst h2
    go_enter Tryd.func37, Tryd.ntmps37
    go_wp2
    go_ret
    exact ⟨rfl, rfl⟩
  · have h3 : needW act = false := by simp [needW, h1, h2]
    rw [h3]
    have hp1 : (act == [112, 117, 116]) = false := by simp [h1]
    have hh1 : (act == [104, 97, 110, 100]) = false := by simp [h2]
    go_enter Tryd.func37, Tryd.ntmps37
    go_wp2
    go_ret
    exact ⟨rfl, rfl⟩
end Go.Proofs.YtkkcnkajffbnaaaDoor
