/-
  The reference's source of numbers: num, of, l11Open; the drawing of a list of numbers and of its text.
-/
import Derived.Test.YtkkcnkajffbnaaaDoorX1
namespace Go.Proofs.YtkkcnkajffbnaaaDoor
open Go.RowKit

theorem IntsIn.kept {w w' : World} {g gl : Nat} {zs : List Int} (h : ∀ (i : Nat) (hi : i < zs.length), w.cell? ⟨gl, i, none⟩ = some (.int .i64 zs[i])) (hl : gl < w.heap.size) (hne : gl ≠ g) (hg : w.grownBy w' (some g)) : ∀ (i : Nat) (hi : i < zs.length), w'.cell? ⟨gl, i, none⟩ = some (.int .i64 zs[i]) := fun i hi => by
  rw [← h i hi]
  unfold World.cell?
  rw [hg.block gl hl (by intro e; injection e with e; exact hne e)]

set_option maxRecDepth 100000 in
set_option maxHeartbeats 400000 in
theorem num_any (g0 g p gl c : Nat) (zs : List Int) (w : World) (hR : Rd w g0 g p) (hp : p ≤ 1000000000) (hne : gl ≠ g) (hl : gl < w.heap.size) (hz : zs ≠ []) (hz2 : zs.length ≤ 1000) (hc : ∀ (i : Nat) (hi : i < zs.length), w.cell? ⟨gl, i, none⟩ = some (.int .i64 zs[i])) :
    Calls Tryd.prog 46 #[.pointer (some ⟨g, 0, none⟩), .slice (some ⟨gl, 0, none⟩) zs.length c] w fun e w' => ∃ x : Int, e = .returned (.int .i64 x) ∧ x ∈ zs ∧ Rd w' g0 g (p + 1) ∧ w.grownBy w' (some g) := by
  have hpos : 0 < zs.length := by cases zs with | nil => exact absurd rfl hz | cons _ _ => simp
  have hk := Lib.hid (pick_any g0 g p zs.length w hR hp (by omega))
  have hc' := fun w' h => IntsIn.kept (w' := w') hc hl hne h
  go_enter Tryd.func46, Tryd.ntmps46
  go_wp2_with fail
  refine hk.out.mono ?_
  rintro e w1 ⟨x, rfl, hx0, hx1, hR1, hg1⟩
  obtain ⟨n, rfl⟩ := Int.eq_ofNat_of_zero_le hx0
  have hlt : n < zs.length := by omega
  have hcell := hc' w1 hg1 n hlt
  clear hc hc' hk
  go_wp2
  go_ret
  exact ⟨_, rfl, by simp, hR1, hg1⟩

theorem Texts.kept {w w' : World} {g gl : Nat} {ws : List (List UInt8)} (h : Texts w gl ws) (hne : gl ≠ g) (hg : w.grownBy w' (some g)) : Texts w' gl ws :=
  h.block (hg.block gl h.lt (by intro e; injection e with e; exact hne e))

set_option maxRecDepth 100000 in
set_option maxHeartbeats 400000 in
theorem of_any (g0 g p gl c : Nat) (ws : List (List UInt8)) (w : World) (hR : Rd w g0 g p) (hp : p ≤ 1000000000) (hne : gl ≠ g) (hz : ws ≠ []) (hz2 : ws.length ≤ 1000) (hT : Texts w gl ws) :
    Calls Tryd.prog 47 #[.pointer (some ⟨g, 0, none⟩), .slice (some ⟨gl, 0, none⟩) ws.length c] w fun e w' => ∃ x : List UInt8, e = .returned (.string ⟨x.toArray⟩) ∧ x ∈ ws ∧ Rd w' g0 g (p + 1) ∧ w.grownBy w' (some g) := by
  have hpos : 0 < ws.length := by cases ws with | nil => exact absurd rfl hz | cons _ _ => simp
  have hk := Lib.hid (pick_any g0 g p ws.length w hR hp (by omega))
  go_enter Tryd.func47, Tryd.ntmps47
  go_wp2_with fail
  refine hk.out.mono ?_
  rintro e w1 ⟨x, rfl, hx0, hx1, hR1, hg1⟩
  obtain ⟨n, rfl⟩ := Int.eq_ofNat_of_zero_le hx0
  have hlt : n < ws.length := by omega
  have hcell := (hT.kept hne hg1).at' n hlt
  clear hT hk
  go_wp2
  go_ret
  exact ⟨ws[n], rfl, by simp, hR1, hg1⟩

set_option maxRecDepth 100000 in
set_option maxHeartbeats 400000 in
theorem l11Open_any (a : Option Addr) (c : Nat) (bs : List Int) (w : World) (hA : BytesAt w a bs) (hu : ∀ b ∈ bs, InU8 b) (hcap : bs.length ≤ c) :
    Calls Tryd.prog 44 #[.slice a bs.length c] w fun e w' => e = .returned (.pointer (some ⟨w.heap.size, 0, none⟩)) ∧ Rd w' w.heap.size w.heap.size 0 ∧ Below w.heap.size w w' := by
  by_cases hn : 2000 < bs.length
  · have hn' : (2000 : Int) < (bs.length : Int) := by omega
    go_enter Tryd.func44, Tryd.ntmps44
    go_wp2
    go_ret
    refine ⟨rfl, ⟨⟨bs.take 2000, a, c, ?_, by simp; omega, fun b hb => hu b (List.mem_of_mem_take hb), ?_⟩, Nat.le_refl _⟩, (Below.refl _ _).alloc (Nat.le_refl _) _⟩
    · rw [List.length_take, show min 2000 bs.length = 2000 by omega]; exact heap_alloc_new _ _
    · rcases hA with h | ⟨b, off, rfl, hb, hc⟩
      · rw [h] at hn; simp at hn
      · refine .inr ⟨b, off, rfl, hb, fun i hi => ?_⟩
        rw [show (bs.take 2000).getD i 0 = bs.getD i 0 by rw [List.length_take] at hi; simp only [List.getD]; rw [List.getElem?_take_of_lt (by omega)], ← hc i (by simp at hi; omega)]
        exact ((Below.refl _ w).alloc (Nat.le_refl _) _).cell (by show b < _; omega)
  · have hn' : ¬ (2000 : Int) < (bs.length : Int) := by omega
    go_enter Tryd.func44, Tryd.ntmps44
    go_wp2
    go_ret
    refine ⟨rfl, ⟨⟨bs, a, c, heap_alloc_new _ _, by omega, hu, ?_⟩, Nat.le_refl _⟩, (Below.refl _ _).alloc (Nat.le_refl _) _⟩
    rcases hA with h | ⟨b, off, rfl, hb, hc⟩
    · exact .inl h
    · refine .inr ⟨b, off, rfl, hb, fun i hi => ?_⟩
      rw [← hc i hi]
      exact ((Below.refl _ w).alloc (Nat.le_refl _) _).cell (by show b < _; omega)

theorem ownsRow_keptg {w w' : World} {base e size n g : Nat} {v : Value} {xs : List Value} (h : w.ownsRow base e size v n xs) (hg : w.grownBy w' (some g)) (hne : v.ownBlock ≠ some g) : w'.ownsRow base e size v n xs :=
  h.kept hg (.inr hne)
theorem Rd.kept {w w' : World} {g0 g p : Nat} {row : Option Nat} (h : Rd w g0 g p) (hg : w.grownBy w' row) (hr : ∀ r, row = some r → g0 ≤ r ∧ r ≠ g) (hl : g < w.heap.size) : Rd w' g0 g p := by
  obtain ⟨⟨bs, a, c, h1, h2, h3, h4⟩, hle⟩ := h
  refine ⟨⟨bs, a, c, (hg.block g hl (fun e => (hr g e.symm).2 rfl)).trans h1, h2, h3, ?_⟩, hle⟩
  rcases h4 with h4 | ⟨b, off, rfl, hb, hc⟩
  · exact .inl h4
  · refine .inr ⟨b, off, rfl, hb, fun i hi => ?_⟩
    rw [← hc i hi]
    unfold World.cell?
    rw [hg.block b (by omega) (fun e => by have := (hr b e.symm).1; omega)]
theorem Rd.lt {w : World} {g0 g p : Nat} (h : Rd w g0 g p) : g < w.heap.size := by
  obtain ⟨⟨bs, a, c, h1, _⟩, _⟩ := h
  exact (Array.getElem?_eq_some_iff.1 h1).1
def drawn7 : List Int := [0, 1, -1, 12, 3, -9223372036854775808, 1000000]

set_option maxRecDepth 100000 in
set_option maxHeartbeats 400000 in
theorem drawFN (a : Option Addr) (c : Nat) (bs : List Int) (w : World) (hA : BytesAt w a bs) (hu : ∀ b ∈ bs, InU8 b) (hcap : bs.length ≤ c) :
    Calls Tryd.prog 22 #[.slice a bs.length c] w fun e w' => ∃ (v : Value) (ns : List Int), e = .returned v ∧ ns.length ≤ 4 ∧ (∀ n ∈ ns, InI n) ∧ w'.ownsRow w.heap.size 3 1 v ns.length (ns.map (Value.int .i64)) ∧ Below w.heap.size w w' := by
  obtain ⟨i0, hi, hz0, hz1, hz2⟩ := info_parts Tryd.info3
  have hop := Lib.hid (l11Open_any a c bs w hA hu hcap)
  go_enter Tryd.func22, Tryd.ntmps22
  go_wp2_with fail
  refine hop.out.mono ?_
  rintro e w1 ⟨rfl, hR1, hb1⟩
  have hl1 := hR1.lt
  have hR2 := hR1.kept (World.grownBy_alloc w1 (.cells #[] 3) none) (fun r e => by cases e) hl1
  have hown2 := ownsRow_empty w1 3 1
  go_wp2_with fail
  refine (pick_any _ _ _ 5 _ hR2 (by omega) (by omega)).mono ?_
  rintro e w3 ⟨x, rfl, hx0, hx1, hR3, hg3⟩
  obtain ⟨n, rfl⟩ := Int.eq_ofNat_of_zero_le hx0
  have hb3 : Below w.heap.size w w3 := (hb1.alloc hb1.size _).grown hg3 (by simp; have := hb1.size; omega) (fun k e => by cases e; exact Nat.le_refl _)
  have hown3 := ownsRow_keptg hown2 hg3 (by simp [Value.ownBlock]; omega)
  clear hop hR1 hR2 hown2
  go_wp2
  go_loopw [4, 5] (fun v i wr => ∃ (k p : Nat) (ns : List Int), i = .int .i64 k ∧ k + ns.length ≤ 4 ∧ p + k ≤ 20 ∧ Rd wr w.heap.size w.heap.size p ∧ (∀ n ∈ ns, InI n) ∧ wr.ownsRow w.heap.size 3 1 v ns.length (ns.map (Value.int .i64)) ∧ v.ownBlock ≠ some w.heap.size ∧ Below w.heap.size w wr) (fun _ i _ => (intOf i).toNat)
  case atStart => exact ⟨n, 1, [], rfl, by simp; omega, by omega, hR3, by simp, ownsRow_base hown3 (by omega), by simp [Value.ownBlock]; omega, hb3⟩
  case round =>
    obtain ⟨k, p, ns, rfl, hkl, hpk, hR, hns, hown, hnb, hb⟩ := hrel
    by_cases h0 : 0 < k
    · have h0' : (0 : Int) < (k : Int) := by omega
      have hbs := hb.size
      have hlt := hR.lt
      have hRa := hR.kept (World.grownBy_alloc wr (.cells #[.int .i64 0, .int .i64 1, .int .i64 (-1), .int .i64 12, .int .i64 3, .int .i64 (-9223372036854775808), .int .i64 1000000] 3) none) (fun r e => by cases e) hlt
      have hnum := Lib.hid (num_any _ _ _ wr.heap.size 7 drawn7 _ hRa (by omega) (by omega) (by simp) (by decide) (by decide) (by
        intro i hi
        have : (wr.alloc (.cells #[.int .i64 0, .int .i64 1, .int .i64 (-1), .int .i64 12, .int .i64 3, .int .i64 (-9223372036854775808), .int .i64 1000000] 3)).heap[wr.heap.size]? = some (.cells #[.int .i64 0, .int .i64 1, .int .i64 (-1), .int .i64 12, .int .i64 3, .int .i64 (-9223372036854775808), .int .i64 1000000] 3) := heap_alloc_new _ _
        rw [blk_cell this]
        match i, hi with
        | 0, _ => rfl
        | 1, _ => rfl
        | 2, _ => rfl
        | 3, _ => rfl
        | 4, _ => rfl
        | 5, _ => rfl
        | 6, _ => rfl))
      have hnum' : Hid (Calls Tryd.prog 46 #[.pointer (some ⟨w.heap.size, 0, none⟩), .slice (some ⟨wr.heap.size, 0, none⟩) 7 7] (wr.alloc (.cells #[.int .i64 0, .int .i64 1, .int .i64 (-1), .int .i64 12, .int .i64 3, .int .i64 (-9223372036854775808), .int .i64 1000000] 3)) _) := hnum.out
      clear hnum
      have hown1 := hown.alloc (.cells #[.int .i64 0, .int .i64 1, .int .i64 (-1), .int .i64 12, .int .i64 3, .int .i64 (-9223372036854775808), .int .i64 1000000] 3)
      go_wp2_with (first
        | (go_at_call 46; refine hnum'.out.mono ?_; rintro e w4 ⟨z, rfl, hz, hR4, hg4⟩; have hown4 := (ownsRow_keptg hown1 hg4 hnb).alloc (.cells #[.int .i64 z] 3); have hs4 := hg4.size)
        | (at_builtin; refine wpList_append_own_at _ rfl (.tmp 15) (.tmp 19) 22 rfl w.heap.size 3 i0 (.int .i64 0) 1 8 Tryd.underlying22 hi hz0 hz1 hz2 rfl (by decide) _ ns.length _ rfl hown4 ⟨w4.heap.size, 0, none⟩ 1 1 [.int .i64 z] rfl rfl ?c1 ?c2 ?c3 ?c4 ?c5 ?_))
      case c1 => exact cell_one_new _ _ _
      case c2 => intro u hu; simp at hu; subst hu; rfl
      case c3 => unfold maxLen; omega
      case c4 => omega
      case c5 => simp at hs4 ⊢; omega
      intro v' w5 hown5 hgrow5 _ hob
      have hb4 : Below w.heap.size w w4 := (hb.alloc hbs _).grown hg4 (by simp; omega) (fun k e => by cases e; exact Nat.le_refl _)
      have hb5 : Below w.heap.size w w5 := (hb4.alloc hb4.size _).grown hgrow5 (by have := hb4.size; simp; omega) (fun q hq => (hown.lt q hq).1)
      have hR5 := (hR4.kept (World.grownBy_alloc w4 (.cells #[.int .i64 z] 3) none) (fun r e => by cases e) hR4.lt).kept hgrow5 (fun r e => ⟨(hown.lt r e).1, fun e' => hnb (by rw [e, e'])⟩) (by have := hR4.lt; simp; omega)
      have hnb5 : v'.ownBlock ≠ some w.heap.size := by
        rcases hob with h | h
        · rw [h]; exact hnb
        · intro e
          rw [h] at e
          have := hb4.size
          simp at e
          omega
      have hzi : InI z := by
        have h7 : drawn7.all (fun z => decide (-9223372036854775808 ≤ z ∧ z ≤ 9223372036854775807)) = true := by decide
        have := List.all_eq_true.1 h7 z hz
        simpa [InI] using this
      go_wp2
      go_roundw
      case rel => exact ⟨k - 1, p + 1, ns ++ [z], by go_num, by simp; omega, by omega, hR5, fun n hn => by rcases List.mem_append.1 hn with h | h; exact hns n h; simp at h; exact h ▸ hzi, by simpa using hown5, hnb5, hb5⟩
      case measure => simp [intOf]; omega
    · obtain rfl : k = 0 := by omega
      go_wp2
      go_ret
      exact ⟨_, ns, rfl, by omega, hns, hown, hb⟩
end Go.Proofs.YtkkcnkajffbnaaaDoor
