/-
  The drawing of the text of numbers; cbSame.
-/
import Derived.Test.YtkkcnkajffbnaaaDoorX2
namespace Go.Proofs.YtkkcnkajffbnaaaDoor
open Go.RowKit

theorem fmtNums_len (ns : List Int) (h : ns.length ≤ 4) (hn : ∀ n ∈ ns, InI n) : (fmtNums ns).length ≤ 100 ∧ 1 ≤ (fmtNums ns).length := by
  unfold fmtNums
  split
  · simp
  · rename_i hne
    have h1 := fmtL_length ns ns.length hn
    have h2 : fmtL ns ns.length ≠ [] := fun e => hne ((fmtL_empty ns).1 e)
    refine ⟨by omega, ?_⟩
    cases hf : fmtL ns ns.length with
    | nil => exact absurd hf h2
    | cons _ _ => simp
theorem Rd.below {w w' : World} {g0 g p : Nat} (h : Rd w g0 g p) (hb : Below w.heap.size w w') : Rd w' g0 g p := by
  have hl := h.lt
  obtain ⟨⟨bs, a, c, h1, h2, h3, h4⟩, hle⟩ := h
  refine ⟨⟨bs, a, c, (hb.block g hl).trans h1, h2, h3, ?_⟩, hle⟩
  rcases h4 with h4 | ⟨b, off, rfl, hb', hc⟩
  · exact .inl h4
  · exact .inr ⟨b, off, rfl, hb', fun i hi => (hb.cell (by show b < _; omega)).trans (hc i hi)⟩
theorem Rd.drew {w : World} {g0 g p : Nat} (h : Rd w g0 g p) : Rd w.drew g0 g p := ⟨h.ex, h.le⟩
theorem Texts.drew {w : World} {g : Nat} {ws : List (List UInt8)} (h : Texts w g ws) : Texts w.drew g ws := ⟨h.lt, h.at'⟩
def drawn5 : List (List UInt8) := [[], [32], [48], [45], [120]]
theorem wrap_small (k q : Nat) (h : k + q ≤ 1000000000) : IntKind.i64.wrap ((k : Int) + (q : Int)) = ((k + q : Nat) : Int) := by
  simp only [IntKind.wrap, IntKind.bits, IntKind.signed]
  simp
  omega
theorem piece_size (s : ByteArray) (z : List UInt8) (k q : Nat) (h : s.size ≤ 100) (hz : z.length ≤ 1) : (s.extract 0 k ++ ⟨z.toArray⟩ ++ s.extract (k + q) s.size).size ≤ 1000 := by
  have := bs_size z
  simp only [ByteArray.size_append, ByteArray.size_extract]
  omega
theorem drawn5_len : ∀ z ∈ drawn5, z.length ≤ 1 := by decide
def cells5 : Array Value := #[.string ⟨#[]⟩, .string ⟨#[32]⟩, .string ⟨#[48]⟩, .string ⟨#[45]⟩, .string ⟨#[120]⟩]
theorem texts5 (w : World) : Texts (w.alloc (.cells cells5 9)) w.heap.size drawn5 := by
  refine ⟨by simp, fun k hk => ?_⟩
  have : (w.alloc (.cells cells5 9)).heap[w.heap.size]? = some (.cells cells5 9) := heap_alloc_new _ _
  rw [blk_cell this]
  match k, hk with
  | 0, _ => rfl
  | 1, _ => rfl
  | 2, _ => rfl
  | 3, _ => rfl
  | 4, _ => rfl

set_option maxRecDepth 100000 in
set_option maxHeartbeats 1000000 in
theorem drawPN (a : Option Addr) (c : Nat) (bs : List Int) (w : World) (hA : BytesAt w a bs) (hu : ∀ b ∈ bs, InU8 b) (hcap : bs.length ≤ c) :
    Calls Tryd.prog 24 #[.slice a bs.length c] w fun e w' => ∃ s : ByteArray, e = .returned (.string s) ∧ s.size ≤ 1000 ∧ Below w.heap.size w w' := by
  have hop := Lib.hid (l11Open_any a c bs w hA hu hcap)
  go_enter Tryd.func24, Tryd.ntmps24
  go_wp2_with fail
  refine hop.out.mono ?_
  rintro e w1 ⟨rfl, hR1, hb1⟩
  clear hop
  go_wp2_with fail
  refine (drawFN a c bs w1 (hA.below hb1 (Nat.le_refl _)) hu hcap).mono ?_
  rintro e w2 ⟨v, ns, rfl, hnl, hni, hr2, hb2⟩
  obtain ⟨a2, c2, rfl, hi2⟩ := ints_of_row hr2
  obtain ⟨hl1, hl2⟩ := fmtNums_len ns hnl hni
  have hR2 : Rd w2 w.heap.size w.heap.size 0 := hR1.below hb2
  have hb12 : Below w.heap.size w w2 := hb1.trans (hb2.mono hb1.size)
  clear hr2
  have hfn := Lib.hid (specFN a2 c2 ns w2 (by omega) hni hi2)
  generalize fmtNums ns = t at *
  obtain ⟨s, hs⟩ : ∃ s : ByteArray, (⟨t.toArray⟩ : ByteArray) = s := ⟨_, rfl⟩
  have hss : s.size ≤ 100 ∧ 1 ≤ s.size := by rw [← hs, bs_size]; exact ⟨hl1, hl2⟩
  obtain ⟨hs1, hs2⟩ := hss
  rw [hs] at hfn
  clear hs hi2
  go_wp2_with fail
  refine hfn.out.mono ?_
  rintro e w3 ⟨rfl, hb3⟩
  have hR3 : Rd w3 w.heap.size w.heap.size 0 := hR2.below hb3
  have hb13 : Below w.heap.size w w3 := hb12.trans (hb3.mono hb12.size)
  clear hfn
  go_wp2_with fail
  refine (pick_any _ _ _ 2 _ hR3 (by omega) (by omega)).mono ?_
  rintro e w4 ⟨x, rfl, hx0, hx1, hR4, hg4⟩
  have hb14 : Below w.heap.size w w4 := hb13.grown hg4 hb13.size (fun k e => by cases e; exact Nat.le_refl _)
  by_cases hx : x = 0
  · subst hx
    go_wp2
    go_ret
    exact ⟨_, rfl, by omega, hb14⟩
  · have hx' : (x == 0) = false := beq_eq_false_iff_ne.2 hx
    go_wp2_with fail
    refine (pick_any _ _ _ s.size _ hR4 (by omega) (by omega)).mono ?_
    rintro e w5 ⟨y, rfl, hy0, hy1, hR5, hg5⟩
    obtain ⟨k, rfl⟩ := Int.eq_ofNat_of_zero_le hy0
    have hb15 : Below w.heap.size w w5 := hb14.grown hg5 hb14.size (fun k e => by cases e; exact Nat.le_refl _)
    have hk : k < s.size := by omega
    clear hg4 hg5 hR1 hR2 hR3 hR4 hx hx' hy1 hx0 hx1 hb1 hb2 hb3 hb12 hb13 hb14
    have hR6 := hR5.kept (World.grownBy_alloc w5 (.cells cells5 9) none) (fun r e => by cases e) hR5.lt
    have hlt5 := hR5.lt
    have hof := Lib.hid (of_any _ _ _ w5.heap.size 5 drawn5 _ hR6.drew (by omega) (by omega) (by simp [drawn5]) (by decide) (texts5 w5).drew)
    go_wp2
    go_region_with (first
      | (go_at_call 47; refine hof.out.mono ?_; rintro e w6 ⟨z, rfl, hz, hR7, hg7⟩; have hzl := drawn5_len z hz)
      | (go_at_call 45; refine (pick_any _ _ _ 2 _ hR7 (by omega) (by omega)).mono ?_; rintro e w7 ⟨q, rfl, hq0, hq1, hR8, hg8⟩; obtain ⟨qn, rfl⟩ := Int.eq_ofNat_of_zero_le hq0; have hq2 : qn ≤ 1 := (by omega); have hkq : k + qn ≤ s.size := (by omega); have hwr := wrap_small k qn (by omega); clear hq1))
    all_goals
      have hb16 : Below w.heap.size w w6 := (hb15.alloc hb15.size _).drew.grown hg7 (by have := hb15.size; simp; omega) (fun k e => by cases e; exact Nat.le_refl _)
      have hb17 : Below w.heap.size w w7 := hb16.grown hg8 hb16.size (fun k e => by cases e; exact Nat.le_refl _)
      clear hg7 hg8 hR7 hR8 hb15 hb16 hof hR6 hR5
      go_wp2
      go_ret
      exact ⟨_, rfl, piece_size s z k qn hs1 hzl, hb17⟩
end Go.Proofs.YtkkcnkajffbnaaaDoor
