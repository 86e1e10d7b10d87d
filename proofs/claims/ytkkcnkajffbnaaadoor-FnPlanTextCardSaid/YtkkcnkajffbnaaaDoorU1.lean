/-
  Deeds: how they read; szDeedS, toDeedS, eqDeedS.
-/
import Derived.Test.YtkkcnkajffbnaaaDoorT6
namespace Go.Proofs.YtkkcnkajffbnaaaDoor
open Go.RowKit

structure Dd where
  act : List UInt8
  line : Int
  word : Int
def Dd.v0 (d : Dd) : Value := .string ⟨d.act.toArray⟩
def Dd.cells (d : Dd) : List Value := [.string ⟨d.act.toArray⟩, .int .i64 d.line, .int .i64 d.word]
def deedV (d : Dd) : Value := .agg #[.string ⟨d.act.toArray⟩, .int .i64 d.line, .int .i64 d.word]

set_option maxRecDepth 100000 in
set_option maxHeartbeats 400000 in
theorem szDeed_any (d : Dd) (left : Nat) (w : World) (hl : left ≤ 1048576) (hd : d.act.length ≤ 9223372036854775807) :
    Calls Tryd.prog 34 #[deedV d, .int .i64 left] w fun e w' => e = .returned (.int .i64 (if d.act.length ≤ left then ((left - d.act.length : Nat) : Int) else -1)) ∧ Below w.heap.size w w' := by
  have hs := bs_size d.act
  obtain ⟨act, line, word⟩ := d
  simp only at hs hd
  simp only [deedV]
  generalize hn : act.length = n at *
  have hd1 : (n : Int) ≤ 9223372036854775807 := by omega
  have hl1 : (left : Int) ≤ 1048576 := by omega
  by_cases h : n ≤ left
  · have h1 : decide ((left : Int) - (n : Int) < 0) = false := by simp; omega
    rw [if_pos h]
    go_enter Tryd.func34, Tryd.ntmps34
    go_wp2
    go_ret
    exact ⟨ret_int (by omega), (Below.refl _ _).alloc (Nat.le_refl _) _⟩
  · have h1 : decide ((left : Int) - (n : Int) < 0) = true := by simp; omega
    rw [if_neg h]
    go_enter Tryd.func34, Tryd.ntmps34
    go_wp2
    go_ret
    exact ⟨rfl, (Below.refl _ _).alloc (Nat.le_refl _) _⟩

/-- The slice at a reads as the deeds ds. -/
def DeedsAt (w : World) (a : Option Addr) (ds : List Dd) : Prop :=
  ds = [] ∨ ∃ b off, a = some ⟨b, off, none⟩ ∧ b < w.heap.size ∧ ∀ i (h : i < ds.length), w.cell? ⟨b, off + i * 3, none⟩ = some (.string ⟨ds[i].act.toArray⟩) ∧ w.cell? ⟨b, off + i * 3 + 1, none⟩ = some (.int .i64 ds[i].line) ∧ w.cell? ⟨b, off + i * 3 + 2, none⟩ = some (.int .i64 ds[i].word)
theorem DeedsAt.at {w : World} {a : Option Addr} {ds : List Dd} (h : DeedsAt w a ds) {i : Nat} (hi : i < ds.length) : ∃ b off, a = some ⟨b, off, none⟩ ∧ b < w.heap.size ∧ w.cell? ⟨b, off + i * 3, none⟩ = some (.string ⟨ds[i].act.toArray⟩) ∧ w.cell? ⟨b, off + i * 3 + 1, none⟩ = some (.int .i64 ds[i].line) ∧ w.cell? ⟨b, off + i * 3 + 2, none⟩ = some (.int .i64 ds[i].word) := by
  rcases h with rfl | ⟨b, off, rfl, hb, hc⟩
  · simp at hi
  · exact ⟨b, off, rfl, hb, hc i hi⟩
theorem DeedsAt.below {w w' : World} {a : Option Addr} {ds : List Dd} (h : DeedsAt w a ds) {B : Nat} (hw : Below B w w') (hB : w.heap.size ≤ B) : DeedsAt w' a ds := by
  rcases h with rfl | ⟨b, off, rfl, hb, hc⟩
  · exact .inl rfl
  · exact .inr ⟨b, off, rfl, Nat.lt_of_lt_of_le hb hw.size, fun i hi => ⟨(hw.cell (by show b < B; omega)).trans (hc i hi).1, (hw.cell (by show b < B; omega)).trans (hc i hi).2.1, (hw.cell (by show b < B; omega)).trans (hc i hi).2.2⟩⟩
def szD (ds : List Dd) (k : Nat) : Nat := ds.length + ((ds.take k).map (·.act.length)).sum
theorem szD_succ (ds : List Dd) (k : Nat) (h : k < ds.length) : szD ds (k + 1) = szD ds k + ds[k].act.length := by
  unfold szD; rw [List.take_succ_eq_append_getElem h, List.map_append, List.sum_append]
  simp only [List.map_cons, List.map_nil, List.sum_cons, List.sum_nil]
  omega
theorem szD_le (ds : List Dd) (k : Nat) : szD ds k ≤ szD ds ds.length := by
  unfold szD
  have : ((ds.take k).map (·.act.length)).sum ≤ (ds.map (·.act.length)).sum := by
    have e : (ds.map (·.act.length)).sum = (((ds.take k) ++ (ds.drop k)).map (·.act.length)).sum := by rw [List.take_append_drop]
    rw [e, List.map_append, List.sum_append]
    omega
  rw [List.take_length]
  omega
/-- How the size of deeds is counted off. -/
def lessD (left n : Nat) : Int := if n ≤ left then ((left - n : Nat) : Int) else -1

set_option maxRecDepth 100000 in
set_option maxHeartbeats 400000 in
theorem szDeedS_any (a : Option Addr) (c : Nat) (ds : List Dd) (left : Nat) (w : World) (hl : left ≤ 1048576) (hn : ds.length ≤ 9223372036854775807) (hd : ∀ d ∈ ds, d.act.length ≤ 9223372036854775807) (hA : DeedsAt w a ds) :
    Calls Tryd.prog 13 #[.slice a ds.length c, .int .i64 left] w fun e w' => e = .returned (.int .i64 (lessD left (szD ds ds.length))) ∧ Below w.heap.size w w' := by
  have hl1 : (left : Int) ≤ 1048576 := by omega
  have hn1 : (ds.length : Int) ≤ 9223372036854775807 := by omega
  by_cases h0 : ds.length ≤ left
  · have h1 : decide ((left : Int) - (ds.length : Int) < 0) = false := by simp; omega
    have hn2 : (ds.length : Int) ≤ (left : Int) := by omega
    go_enter Tryd.func13, Tryd.ntmps13
    go_wp2
    go_loopw [1, 5] (fun l i wr => ∃ k : Nat, k ≤ ds.length ∧ i = .int .i64 k ∧ szD ds k ≤ left ∧ l = .int .i64 ((left - szD ds k : Nat) : Int) ∧ Below w.heap.size w wr) (fun _ i _ => ds.length - (intOf i).toNat)
    case atStart => exact ⟨0, Nat.zero_le _, rfl, by simp [szD, h0], by simp [szD]; omega, Below.refl _ _⟩
    case round =>
      obtain ⟨k, hk, rfl, hsz, rfl, hb⟩ := hrel
      by_cases hlt : k < ds.length
      · obtain ⟨b, off, rfl, hbs, hc0, hc1, hc2⟩ := (hA.below hb (Nat.le_refl _)).at hlt
        have hlt' : (k : Int) < (ds.length : Int) := by omega
        have hsd := Lib.hid (fun w => szDeed_any ds[k] (left - szD ds k) w (by omega) (hd _ (by simp)))
        have hss := szD_succ ds k hlt
        by_cases hfit : ds[k].act.length ≤ left - szD ds k
        · have hpos : decide (((left - szD ds k - ds[k].act.length : Nat) : Int) < 0) = false := by simp
          go_wp2_with (go_at_call 34; refine (hsd.out _).mono ?_; rintro e w1 ⟨he, hb2⟩; rw [if_pos hfit] at he; subst he)
          go_roundw
          case rel => exact ⟨k + 1, by omega, by go_num, by omega, by go_num, hb.trans (hb2.mono hb.size)⟩
          case measure => simp [intOf]; omega
        · have hle := szD_le ds (k + 1)
          go_wp2_with (go_at_call 34; refine (hsd.out _).mono ?_; rintro e w1 ⟨he, hb2⟩; rw [if_neg hfit] at he; subst he)
          go_ret
          exact ⟨ret_int (by unfold lessD; rw [if_neg (by omega)]), hb.trans (hb2.mono hb.size)⟩
      · obtain rfl : k = ds.length := by omega
        go_wp2
        go_ret
        exact ⟨ret_int (by unfold lessD; rw [if_pos hsz]), hb⟩
  · have h1 : decide ((left : Int) - (ds.length : Int) < 0) = true := by simp; omega
    go_enter Tryd.func13, Tryd.ntmps13
    go_wp2
    go_ret
    exact ⟨ret_int (by unfold lessD; rw [if_neg (by unfold szD; omega)]), Below.refl _ _⟩

/-! ### a row of deeds that is filled from the left -/
def cellD (d : Dd) : Nat → Value
  | 0 => .string ⟨d.act.toArray⟩
  | 1 => .int .i64 d.line
  | _ => .int .i64 d.word
def zeroD : Dd := ⟨[], 0, 0⟩
def fillD (ds : List Dd) (k : Nat) : Array Value := Array.ofFn (n := ds.length * 3) fun j => cellD (if j.val / 3 < k then ds.getD (j.val / 3) zeroD else zeroD) (j.val % 3)
theorem fillD_at (ds : List Dd) (k j : Nat) (h : j < ds.length * 3) : (fillD ds k)[j]? = some (cellD (if j / 3 < k then ds.getD (j / 3) zeroD else zeroD) (j % 3)) := by
  simp [fillD, h]
theorem fillD_set (ds : List Dd) (k : Nat) (h : k < ds.length) :
    (((fillD ds k).setIfInBounds (k * 3) (.string ⟨ds[k].act.toArray⟩)).setIfInBounds (k * 3 + 1) (.int .i64 ds[k].line)).setIfInBounds (k * 3 + 2) (.int .i64 ds[k].word) = fillD ds (k + 1) := by
  apply Array.ext_getElem?
  intro j
  rcases Nat.lt_or_ge j (ds.length * 3) with h3 | h3
  · rw [fillD_at ds _ j h3]
    simp only [Array.getElem?_setIfInBounds, fillD_at ds k j h3, Array.size_setIfInBounds]
    have hs : (fillD ds k).size = ds.length * 3 := by simp [fillD]
    rw [hs]
    by_cases e2 : k * 3 + 2 = j
    · subst e2
      rw [if_pos rfl, if_pos (by omega), if_pos (by omega), show (k * 3 + 2) / 3 = k from by omega, show (k * 3 + 2) % 3 = 2 from by omega]
      simp [cellD, List.getD, h]
    rw [if_neg e2]
    by_cases e1 : k * 3 + 1 = j
    · subst e1
      rw [if_pos rfl, if_pos (by omega), if_pos (by omega), show (k * 3 + 1) / 3 = k from by omega, show (k * 3 + 1) % 3 = 1 from by omega]
      simp [cellD, List.getD, h]
    rw [if_neg e1]
    by_cases e0 : k * 3 = j
    · subst e0
      rw [if_pos rfl, if_pos (by omega), if_pos (by omega), show k * 3 / 3 = k from by omega, show k * 3 % 3 = 0 from by omega]
      simp [cellD, List.getD, h]
    rw [if_neg e0]
    by_cases hk : j / 3 < k
    · rw [if_pos hk, if_pos (by omega)]
    · rw [if_neg hk, if_neg (by omega)]
  · rw [Array.getElem?_eq_none (by simpa [fillD] using h3), Array.getElem?_eq_none (by simpa [fillD] using h3)]
theorem DeedsAt.of_blk {w : World} {b : Nat} {ds : List Dd} {t : TypeId} {f : Nat × Nat} (h : w.heap[b]? = some (.cells (fillD ds ds.length) t f)) : DeedsAt w (some ⟨b, 0, none⟩) ds := by
  refine .inr ⟨_, _, rfl, (Array.getElem?_eq_some_iff.1 h).1, fun i hi => ?_⟩
  unfold World.cell?
  simp only [h, Nat.zero_add]
  refine ⟨?_, ?_, ?_⟩
  · simp [fillD_at ds _ (i * 3) (by omega), show i * 3 / 3 = i from by omega, cellD, List.getD, hi]
  · simp [fillD_at ds _ (i * 3 + 1) (by omega), show (i * 3 + 1) / 3 = i from by omega, show (i * 3 + 1) % 3 = 1 from by omega, cellD, List.getD, hi]
  · simp [fillD_at ds _ (i * 3 + 2) (by omega), show (i * 3 + 2) / 3 = i from by omega, show (i * 3 + 2) % 3 = 2 from by omega, cellD, List.getD, hi]
theorem Tryd.info47 : (Tryd.prog.info? 47).map (fun i => (i.zero, i.size, i.bytes)) = some (some (.agg #[.string ⟨#[]⟩, .int .i64 0, .int .i64 0]), 3, 32) := by kernel_rfl
theorem made_deeds (ds : List Dd) : madeCells (Value.agg #[.string ⟨#[]⟩, .int .i64 0, .int .i64 0]).cells (ds.length * 3) = fillD ds 0 := by
  apply Array.ext
  · simp [madeCells, fillD]
  · intro j h1 h2
    simp only [madeCells, fillD, Value.cells, Array.getElem_map, Array.getElem_range, Array.getElem_ofFn]
    rw [if_neg (by omega)]
    have : j % 3 = 0 ∨ j % 3 = 1 ∨ j % 3 = 2 := by omega
    rcases this with h | h | h <;> simp [h, cellD, zeroD]
theorem mk_deeds (w : World) (ds : List Dd) (h : ds.length ≤ 1048576) : (Instr.makeSlice 30 (.int .i64 (ds.length : Int)) (.int .i64 (ds.length : Int))).run Tryd.prog w = .ok (.slice (some ⟨w.heap.size, 0, none⟩) ds.length ds.length) (w.alloc (.cells (fillD ds 0) 47)) := by
  obtain ⟨i0, hi, hz0, hz1, hz2⟩ := info_parts Tryd.info47
  have := run_make (P := Tryd.prog) w 30 47 i0 _ Tryd.underlying30 hi hz0 .i64 .i64 ds.length ds.length (by omega) (by omega) (by rw [hz2]; omega) (by omega)
  rw [this, hz1]
  simp only [Int.toNat_natCast]
  rw [made_deeds]

set_option maxRecDepth 100000 in
set_option maxHeartbeats 400000 in
theorem toDeed_any (d : Dd) (w : World) :
    Calls Tryd.prog 36 #[deedV d] w fun e w' => e = .returned (deedV d) ∧ Below w.heap.size w w' := by
  obtain ⟨act, line, word⟩ := d
  simp only [deedV]
  go_enter Tryd.func36, Tryd.ntmps36
  go_wp2
  refine bodyPost_ret (v := .agg #[.string ⟨act.toArray⟩, .int .i64 line, .int .i64 word]) (by simp [results, Tryd.results36, go_sem]) rfl ⟨rfl, ?_⟩
  exact (((Below.refl _ _).alloc (Nat.le_refl _) _).alloc (by simp) _).alloc (by simp; omega) _
theorem setCell_blk {w : World} {b o : Nat} {c : Array Value} {t : TypeId} {f : Nat × Nat} (h : w.heap[b]? = some (.cells c t f)) (v : Value) : (w.setCell ⟨b, o, none⟩ v).heap[b]? = some (.cells (c.setIfInBounds o v) t f) := by
  have hl := (Array.getElem?_eq_some_iff.1 h).1
  simp only [World.setCell, Array.getElem?_modify]
  simp [h]
theorem cell_blk {w : World} {b o : Nat} {c : Array Value} {t : TypeId} {f : Nat × Nat} (h : w.heap[b]? = some (.cells c t f)) : w.cell? ⟨b, o, none⟩ = c[o]? := by
  simp [World.cell?, h]
theorem frozen_blk {w : World} {b o : Nat} {c : Array Value} {t : TypeId} (h : w.heap[b]? = some (.cells c t (0, 0))) : w.frozen? ⟨b, o, none⟩ = false := by
  simp [World.frozen?, h]
set_option maxRecDepth 100000 in
set_option maxHeartbeats 400000 in
theorem toDeedS_any (a : Option Addr) (c : Nat) (ds : List Dd) (w : World) (hn : ds.length ≤ 1048576) (hA : DeedsAt w a ds) :
    Calls Tryd.prog 15 #[.slice a ds.length c] w fun e w' => e = .returned (.slice (some ⟨w.heap.size, 0, none⟩) ds.length ds.length) ∧ DeedsAt w' (some ⟨w.heap.size, 0, none⟩) ds ∧ Below w.heap.size w w' := by
  have hmk := mk_deeds w ds hn
  go_enter Tryd.func15, Tryd.ntmps15
  go_wp2
  go_loopw [4] (fun i wr => ∃ k : Nat, k ≤ ds.length ∧ i = .int .i64 k ∧ wr.heap[w.heap.size]? = some (.cells (fillD ds k) 47) ∧ w.heap.size < wr.heap.size ∧ Below w.heap.size w wr) (fun i _ => ds.length - (intOf i).toNat)
  case atStart => exact ⟨0, Nat.zero_le _, rfl, heap_alloc_new _ _, by simp, (Below.refl _ _).alloc (Nat.le_refl _) _⟩
  case round =>
    obtain ⟨k, hk, rfl, hblk, hbs, hb⟩ := hrel
    by_cases hlt : k < ds.length
    · obtain ⟨b, off, rfl, hbb, hc0, hc1, hc2⟩ := (hA.below hb (Nat.le_refl _)).at hlt
      have hlt' : (k : Int) < (ds.length : Int) := by omega
      go_wp2_with fail
      refine (toDeed_any ds[k] _).mono ?_
      rintro e w1 ⟨rfl, hb1⟩
      simp only [deedV]
      have hblk1 : w1.heap[w.heap.size]? = some (.cells (fillD ds k) 47) := by rw [hb1.block _ hbs]; exact hblk
      have f0 : w1.frozen? ⟨w.heap.size, k * 3, none⟩ = false := frozen_blk hblk1
      have f1 : w1.frozen? ⟨w.heap.size, k * 3 + 1, none⟩ = false := frozen_blk hblk1
      have f2 : w1.frozen? ⟨w.heap.size, k * 3 + 2, none⟩ = false := frozen_blk hblk1
      have g0 := (cell_blk hblk1).trans (fillD_at ds k (k * 3) (by omega))
      have g1 := (cell_blk hblk1).trans (fillD_at ds k (k * 3 + 1) (by omega))
      have g2 := (cell_blk hblk1).trans (fillD_at ds k (k * 3 + 2) (by omega))
      have hset := Lib.hid (setCell_blk (setCell_blk (setCell_blk hblk1 (o := k * 3) (.string ⟨ds[k].act.toArray⟩)) (o := k * 3 + 1) (.int .i64 ds[k].line)) (o := k * 3 + 2) (.int .i64 ds[k].word))
      have hfs := Lib.hid (fillD_set ds k hlt)
      have hsz1 := hb1.size
      clear hblk1 hblk
      go_wp2
      go_roundw
      case rel => exact ⟨k + 1, by omega, by go_num, by rw [← hfs.out]; exact hset.out, by simp; omega, (((hb.trans (hb1.mono hb.size)).setCell (Nat.le_refl _) _).setCell (Nat.le_refl _) _).setCell (Nat.le_refl _) _⟩
      case measure => simp [intOf]; omega
    · obtain rfl : k = ds.length := by omega
      go_wp2
      go_ret
      exact ⟨rfl, DeedsAt.of_blk hblk, hb⟩

/-! ### equal deeds -/
set_option maxRecDepth 100000 in
set_option maxHeartbeats 400000 in
theorem eqDeed_same (d : Dd) (w : World) :
    Calls Tryd.prog 38 #[deedV d, deedV d] w fun e w' => e = .returned (.bool true) ∧ Below w.heap.size w w' := by
  obtain ⟨act, line, word⟩ := d
  simp only [deedV]
  go_enter Tryd.func38, Tryd.ntmps38
  go_wp2
  go_ret
  exact ⟨rfl, ((Below.refl _ _).alloc (Nat.le_refl _) _).alloc (by simp) _⟩
end Go.Proofs.YtkkcnkajffbnaaaDoor
