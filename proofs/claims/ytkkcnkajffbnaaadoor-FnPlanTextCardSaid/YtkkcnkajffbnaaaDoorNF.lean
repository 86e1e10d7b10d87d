/-
  Drawn texts of deeds: DrawParsePlan.
-/
import Derived.Test.YtkkcnkajffbnaaaDoorND
namespace Go.Proofs.YtkkcnkajffbnaaaDoor
open Go.RowKit
set_option linter.all false

theorem DrawnD.inn {d : Dd} (h : DrawnD d) : DdOk d := ⟨by have := h.len; omega, ⟨by have := h.l0; omega, h.l1⟩, ⟨by have := h.w0; omega, h.w1⟩⟩
theorem sum_acts : ∀ {ds : List Dd}, (∀ d ∈ ds, d.act.length ≤ 10) → (ds.map (·.act.length)).sum ≤ ds.length * 10
  | [], _ => by simp
  | d :: r, h => by
    have h1 := h d (by simp)
    have h2 := sum_acts (ds := r) fun e he => h e (by simp [he])
    simp only [List.map_cons, List.sum_cons, List.length_cons]
    omega
theorem drawn_sz {ds : List Dd} (hl : ds.length ≤ 14) (h : ∀ d ∈ ds, DrawnD d) : szD ds ds.length ≤ 1048576 := by
  unfold szD
  rw [List.take_length]
  have := sum_acts fun d hd => (h d hd).len
  omega
theorem drawn_len {ds : List Dd} (hl : ds.length ≤ 14) (h : ∀ d ∈ ds, DrawnD d) : (fmtPlan ds).length ≤ 1000 ∧ 1 ≤ (fmtPlan ds).length := by
  unfold fmtPlan
  split
  · simp
  · rename_i hne
    constructor
    · unfold planL
      refine Nat.le_trans (join_length_le 54 _ _ ?_) ?_
      · intro x hx
        obtain ⟨d, hd, rfl⟩ := List.mem_map.1 hx
        have hd' := h d (List.mem_of_mem_take hd)
        have := deedText_len d hd'.inn
        have := hd'.len
        omega
      · simp; omega
    · have hp : 0 < ds.length := List.length_pos_iff.2 hne
      have := planL_succ ds (ds.length - 1) (by omega)
      rw [show ds.length - 1 + 1 = ds.length by omega] at this
      rw [this]
      have h2 := deedText_ne ds[ds.length - 1]
      have h3 := List.length_pos_iff.2 h2
      rw [List.length_append]
      omega

set_option maxRecDepth 100000 in
set_option maxHeartbeats 8000000 in
theorem l10Some_any {g0 g p : Nat} {w : World} (hR : Rd w g0 g p) (hp : p ≤ 40000) :
    Calls Tryd.prog 53 #[.pointer (some ⟨g, 0, none⟩)] w (ListPost g0 g (p + 2001) w) := by
  have hg := hR.lt
  go_enter Tryd.func53, Tryd.ntmps53
  go_wp2_with fail
  refine (pick_new hR (by omega) (by omega)).mono ?_
  rintro e w1 ⟨y, rfl, hy, k1⟩
  have s1 := k1.out.2.size
  by_cases hy0 : y = 0
  · subst hy0
    go_wp2_with fail
    refine (l1List_any k1.out.1 (by omega) (by omega) (by omega)).mono ?_
    rintro e w2 ⟨v, ds, p', rfl, h1, h2, h3, h4, h5, h6⟩
    have h3' := own_less h3 s1
    clear h3
    go_wp2
    go_ret
    exact ⟨_, ds, p', rfl, h1, h2, h3', by omega, h5, k1.out.2.trans h6⟩
  · have y0' : ((y : Int) == 0) = false := beq_eq_false_iff_ne.2 (by omega)
    go_wp2_with fail
    refine (l4Case_any k1.out.1 (by omega)).mono ?_
    rintro e w2 ⟨a1, n1, c1, x, v3, n3, p', rfl, h1, h2, h3, h4⟩
    have s2 := h4.size
    by_cases hn : n1 = 0
    · subst hn
      have h4' := hidP h4
      clear h2 h4
      go_wp2
      go_ret
      exact ⟨_, [], p', rfl, by simp, by simp, own_less (ownsRow_empty w2 47 3) (by omega), by omega, h4'.out.1.alloc _, (k1.out.2.trans h4'.out.2).trans (World.grownBy_alloc _ _ _)⟩
    · have hn1 : ((n1 : Int) == 0) = false := beq_eq_false_iff_ne.2 (by omega)
      have hn3 : ((n3 : Int) == 0) = false := beq_eq_false_iff_ne.2 (by omega)
      have hn3' : (0 : Int) < (n3 : Int) := by omega
      obtain ⟨vs, q1, q2, q3⟩ := h2
      obtain ⟨r3, c3, rfl, -, -, hc, -⟩ := own_at q1 h1
      obtain ⟨vd, ds, d1, d2, d3, d4⟩ := q3 h1
      obtain ⟨ad, cd, rfl⟩ := own_slice d2
      have hcell : w2.cell? ⟨r3, 0, none⟩ = some (.slice ad ds.length cd) := hc 0 _ d1
      have h4' := hidP h4
      have d2' := hidP (own_less d2 s1)
      clear hc q1 q2 q3 d1 d2 h4
      go_wp2
      go_ret
      exact ⟨_, ds, p', rfl, d3, d4, d2'.out, by omega, h4'.out.1, k1.out.2.trans h4'.out.2⟩
set_option maxRecDepth 100000 in
set_option maxHeartbeats 1000000 in
theorem drawFP (a : Option Addr) (c : Nat) (bs : List Int) (w : World) (hA : BytesAt w a bs) (hu : ∀ b ∈ bs, InU8 b) (hcap : bs.length ≤ c) :
    Calls Tryd.prog 29 #[.slice a bs.length c] w fun e w' => ∃ (v : Value) (ds : List Dd), e = .returned v ∧ ds.length ≤ 14 ∧ (∀ d ∈ ds, DrawnD d) ∧ w'.ownsRow w.heap.size 47 3 v ds.length (cellsOf ds) ∧ Below w.heap.size w w' := by
  have hop := Lib.hid (l11Open_any a c bs w hA hu hcap)
  go_enter Tryd.func29, Tryd.ntmps29
  go_wp2_with fail
  refine hop.out.mono ?_
  rintro e w1 ⟨rfl, hR1, hb1⟩
  clear hop
  go_wp2_with fail
  refine (l10Some_any hR1 (by omega)).mono ?_
  rintro e w2 ⟨v, ds, p', rfl, h1, h2, h3, h4, h5, h6⟩
  have h3' := hidP (own_less h3 hb1.size)
  clear h3
  go_wp2
  go_ret
  exact ⟨v, ds, rfl, h1, h2, h3'.out, hb1.grown h6 hb1.size (fun k e => by cases e; exact Nat.le_refl _)⟩
end Go.Proofs.YtkkcnkajffbnaaaDoor
namespace Go.Proofs.YtkkcnkajffbnaaaDoor
open Go.RowKit

theorem piece_size2 (s : ByteArray) (z : List UInt8) (k q : Nat) (h : s.size ≤ 1000) (hz : z.length ≤ 1) : (s.extract 0 k ++ ⟨z.toArray⟩ ++ s.extract (k + q) s.size).size ≤ 3000 := by
  have := bs_size z
  simp only [ByteArray.size_append, ByteArray.size_extract]
  omega
def drawn5p : List (List UInt8) := [[], [32], [48], [44], [120]]
theorem drawn5p_len : ∀ z ∈ drawn5p, z.length ≤ 1 := by decide
def cells5p : Array Value := #[.string ⟨#[]⟩, .string ⟨#[32]⟩, .string ⟨#[48]⟩, .string ⟨#[44]⟩, .string ⟨#[120]⟩]
theorem texts5p (w : World) : Texts (w.alloc (.cells cells5p 9)) w.heap.size drawn5p := by
  refine ⟨by simp, fun k hk => ?_⟩
  have : (w.alloc (.cells cells5p 9)).heap[w.heap.size]? = some (.cells cells5p 9) := heap_alloc_new _ _
  rw [blk_cell this]
  match k, hk with
  | 0, _ => rfl
  | 1, _ => rfl
  | 2, _ => rfl
  | 3, _ => rfl
  | 4, _ => rfl

set_option maxRecDepth 100000 in
set_option maxHeartbeats 1000000 in
theorem drawPP (a : Option Addr) (c : Nat) (bs : List Int) (w : World) (hA : BytesAt w a bs) (hu : ∀ b ∈ bs, InU8 b) (hcap : bs.length ≤ c) :
    Calls Tryd.prog 30 #[.slice a bs.length c] w fun e w' => ∃ s : ByteArray, e = .returned (.string s) ∧ s.size ≤ 3000 ∧ Below w.heap.size w w' := by
  have hop := Lib.hid (l11Open_any a c bs w hA hu hcap)
  go_enter Tryd.func30, Tryd.ntmps30
  go_wp2_with fail
  refine hop.out.mono ?_
  rintro e w1 ⟨rfl, hR1, hb1⟩
  clear hop
  go_wp2_with fail
  refine (l10Some_any hR1 (by omega)).mono ?_
  rintro e w2 ⟨v, ds, p', rfl, hdl, hdd, hr2, hp', hR2, hg2⟩
  obtain ⟨a2, c2, rfl, hi2⟩ := deeds_of_row hr2
  have hb2 : Below w.heap.size w w2 := hb1.grown hg2 hb1.size (fun k e => by cases e; exact Nat.le_refl _)
  obtain ⟨hl1, hl2⟩ := drawn_len hdl hdd
  have hfn := Lib.hid (specFP a2 c2 ds w2 (drawn_sz hdl hdd) (fun d hd => (hdd d hd).inn) hi2)
  clear hr2 hi2 hdd hg2
  generalize fmtPlan ds = t at *
  obtain ⟨s, hs⟩ : ∃ s : ByteArray, (⟨t.toArray⟩ : ByteArray) = s := ⟨_, rfl⟩
  have hss : s.size ≤ 1000 ∧ 1 ≤ s.size := by rw [← hs, bs_size]; exact ⟨hl1, hl2⟩
  obtain ⟨hs1, hs2⟩ := hss
  rw [hs] at hfn
  clear hs hl1 hl2
  go_wp2_with fail
  refine hfn.out.mono ?_
  rintro e w3 ⟨rfl, hb3⟩
  have hR3 : Rd w3 w.heap.size w.heap.size p' := hR2.below hb3
  have hb13 : Below w.heap.size w w3 := hb2.trans (hb3.mono hb2.size)
  clear hfn
  go_wp2_with fail
  refine (pick_any _ _ _ 2 _ hR3 (by omega) (by omega)).mono ?_
  rintro e w4 ⟨x, rfl, hx0, hx1, hR4, hg4⟩
  have hb14 : Below w.heap.size w w4 := hb13.grown hg4 hb13.size (fun k e => by cases e; exact Nat.le_refl _)
  by_cases hx : x = 0
  · subst hx
    go_wp2
    go_ret
    exact ⟨_, rfl, by omega, hb14⟩
  · have hx' : (x == 0) = false := beq_eq_false_iff_ne.2 hx
    go_wp2_with fail
    refine (pick_any _ _ _ s.size _ hR4 (by omega) (by omega)).mono ?_
    rintro e w5 ⟨y, rfl, hy0, hy1, hR5, hg5⟩
    obtain ⟨k, rfl⟩ := Int.eq_ofNat_of_zero_le hy0
    have hb15 : Below w.heap.size w w5 := hb14.grown hg5 hb14.size (fun k e => by cases e; exact Nat.le_refl _)
    have hk : k < s.size := by omega
    clear hg4 hg5 hR1 hR2 hR3 hR4 hx hx' hy1 hx0 hx1 hb1 hb2 hb3 hb13 hb14
    have hR6 := hR5.kept (World.grownBy_alloc w5 (.cells cells5p 9) none) (fun r e => by cases e) hR5.lt
    have hlt5 := hR5.lt
    have hof := Lib.hid (of_any _ _ _ w5.heap.size 5 drawn5p _ hR6.drew (by omega) (by omega) (by simp [drawn5p]) (by decide) (texts5p w5).drew)
    go_wp2
    go_region_with (first
      | (go_at_call 47; refine hof.out.mono ?_; rintro e w6 ⟨z, rfl, hz, hR7, hg7⟩; have hzl := drawn5p_len z hz)
      | (go_at_call 45; refine (pick_any _ _ _ 2 _ hR7 (by omega) (by omega)).mono ?_; rintro e w7 ⟨q, rfl, hq0, hq1, hR8, hg8⟩; obtain ⟨qn, rfl⟩ := Int.eq_ofNat_of_zero_le hq0; have hq2 : qn ≤ 1 := (by omega); have hkq : k + qn ≤ s.size := (by omega); have hwr := wrap_small k qn (by omega); clear hq1))
    all_goals
      have hb16 : Below w.heap.size w w6 := (hb15.alloc hb15.size _).drew.grown hg7 (by have := hb15.size; simp; omega) (fun k e => by cases e; exact Nat.le_refl _)
      have hb17 : Below w.heap.size w w7 := hb16.grown hg8 hb16.size (fun k e => by cases e; exact Nat.le_refl _)
      clear hg7 hg8 hR7 hR8 hb15 hb16 hof hR6 hR5
      go_wp2
      go_ret
      exact ⟨_, rfl, piece_size2 s z k qn hs1 hzl, hb17⟩
end Go.Proofs.YtkkcnkajffbnaaaDoor
