/-
  cbSame of equal lists; the walk of the law FnNumbers.
-/
import Derived.Test.YtkkcnkajffbnaaaDoorX3
import Derived.Test.YtkkcnkajffbnaaaDoorX4
namespace Go.Proofs.YtkkcnkajffbnaaaDoor
open Go.RowKit

set_option maxRecDepth 100000 in
set_option maxHeartbeats 400000 in
theorem cbSame_same (a b : Option Addr) (ca cb : Nat) (zs : List Int) (w : World) (hn : zs.length ≤ 1048576) (hA : IntsAt w a zs) (hB : IntsAt w b zs) :
    Calls Tryd.prog 23 #[.slice a zs.length ca, .slice b zs.length cb] w fun e w' => e = .returned (.bool true) ∧ Below w.heap.size w w' := by
  go_enter Tryd.func23, Tryd.ntmps23
  go_wp2
  go_loopw [5] (fun i wr => ∃ k : Nat, k ≤ zs.length ∧ i = .int .i64 k ∧ Below w.heap.size w wr) (fun i _ => zs.length - (intOf i).toNat)
  case atStart => exact ⟨0, Nat.zero_le _, rfl, Below.refl _ _⟩
  case round =>
    obtain ⟨k, hk, rfl, hb⟩ := hrel
    by_cases hlt : k < zs.length
    · obtain ⟨b1, off1, rfl, hbs1, hck1⟩ := (hA.below hb (Nat.le_refl _)).at hlt
      obtain ⟨b2, off2, rfl, hbs2, hck2⟩ := (hB.below hb (Nat.le_refl _)).at hlt
      have hlt' : (k : Int) < (zs.length : Int) := by omega
      go_wp2
      go_quiet (fail)
      go_wp2
      go_roundw
      case rel => exact ⟨k + 1, by omega, by go_num, below_drewN hb _⟩
      case measure => simp [intOf]; omega
    · go_wp2
      go_ret
      exact ⟨by simp, hb⟩

set_option maxRecDepth 100000 in
set_option maxHeartbeats 1000000 in
theorem lawN (a b : Option Addr) (c d : Nat) (xs ys : List Int) (w : World) (hA : BytesAt w a xs) (hB : BytesAt w b ys) (hx : ∀ n ∈ xs, InU8 n) (hy : ∀ n ∈ ys, InU8 n) (hc : xs.length ≤ c) (hd : ys.length ≤ d) (hE : EnvP w) :
    Calls Tryd.prog 6 #[.slice a xs.length c, .slice b ys.length d] w fun e w' => e = .returned (.bool true) ∧ Below w.heap.size w w' := by
  by_cases h1 : 1048576 < xs.length
  · have h1' : decide ((1048576 : Int) < (xs.length : Int)) = true := by simp; omega
    go_enter Tryd.func6, Tryd.ntmps6
    go_wp2
    go_ret
    exact ⟨rfl, Below.refl _ _⟩
  have h1' : decide ((1048576 : Int) < (xs.length : Int)) = false := by simp; omega
  by_cases h2 : 1048576 < ys.length
  · have h2' : decide ((1048576 : Int) < (ys.length : Int)) = true := by simp; omega
    go_enter Tryd.func6, Tryd.ntmps6
    go_wp2
    go_ret
    exact ⟨rfl, Below.refl _ _⟩
  have h2' : decide ((1048576 : Int) < (ys.length : Int)) = false := by simp; omega
  go_enter Tryd.func6, Tryd.ntmps6
  go_wp2_with fail
  refine (drawFN a c xs w hA hx hc).mono ?_
  rintro e w1 ⟨v1, ns, rfl, hnl, hni, hr1, hb1⟩
  obtain ⟨a1, c1, rfl, hi1⟩ := ints_of_row hr1
  clear hr1
  have hE1 := hE.below hb1 (Nat.le_refl _)
  go_wp2_with fail
  refine (implFN a1 c1 ns w1 (by omega) hni hi1 hE1.env).mono ?_
  rintro e w2 ⟨rfl, hb2⟩
  have hi2 := hi1.below hb2 (Nat.le_refl _)
  go_wp2_with fail
  refine (specFN a1 c1 ns w2 (by omega) hni hi2).mono ?_
  rintro e w3 ⟨rfl, hb3⟩
  have hi3 := hi2.below hb3 (Nat.le_refl _)
  have hb03 : Below w.heap.size w w3 := (hb1.trans (hb2.mono hb1.size)).trans (hb3.mono (hb1.trans (hb2.mono hb1.size)).size)
  have hpn := parseN_fmt ns (by omega)
  have hfl := (fmtNums_len ns hnl hni).1
  generalize hs : fmtNums ns = t at *
  clear hs hi1 hi2 hb1 hb2 hb3
  have hE3 := hE.below hb03 (Nat.le_refl _)
  obtain ⟨s, hs⟩ : ∃ s : ByteArray, (⟨t.toArray⟩ : ByteArray) = s := ⟨_, rfl⟩
  have hst : s.data.toList = t := by rw [← hs]
  have hss : s.size ≤ 1048576 := by rw [← hs, bs_size]; omega
  have hcmp : (s.toList == s.toList) = true := by simp
  rw [hs]
  rw [← hst] at hpn
  clear hs hst hfl
  have him := Lib.hid (implPN s w3 hss hE3)
  rw [hpn] at him
  clear hpn
  go_wp2
  go_loopw [7, 8] (fun f i wr => ∃ k : Nat, k ≤ ns.length ∧ i = .int .i64 k ∧ f = .bool (fitsB (ns.take k)) ∧ w3 = wr) (fun _ i _ => ns.length - (intOf i).toNat)
  case atStart => exact ⟨0, Nat.zero_le _, rfl, rfl, rfl⟩
  case round =>
    obtain ⟨k, hk, rfl, rfl, rfl⟩ := hrel
    by_cases hlt : k < ns.length
    · obtain ⟨b1, off1, rfl, hbs1, hck1⟩ := hi3.at hlt
      have hfs : Hid (fitsB (ns.take (k + 1)) = (fitsB (ns.take k) && (decide (-1000000 ≤ ns[k]) && decide (ns[k] ≤ 1000000)))) := by
        rw [Hid]
        unfold fitsB
        rw [List.take_succ_eq_append_getElem hlt, List.all_append]
        simp only [List.all_cons, List.all_nil, Bool.and_true]
      obtain ⟨f0, hf0⟩ : ∃ f0, fitsB (ns.take k) = f0 := ⟨_, rfl⟩
      rw [hf0] at hfs ⊢
      clear hf0
      cases f0
      · go_wp2
        go_roundw
        case rel => exact ⟨k + 1, by omega, by go_num, by rw [hfs.out]; rfl, trivial⟩
        case measure => simp [intOf]; omega
      · by_cases hlo : -1000000 ≤ ns[k]
        · have hlo' : decide (-1000000 ≤ ns[k]) = true := by simpa using hlo
          go_wp2
          go_roundw
          case rel => exact ⟨k + 1, by omega, by go_num, by rw [hfs.out]; simp [hlo], trivial⟩
          case measure => simp [intOf]; omega
        · have hlo' : decide (-1000000 ≤ ns[k]) = false := by simpa using hlo
          go_wp2
          go_roundw
          case rel => exact ⟨k + 1, by omega, by go_num, by rw [hfs.out, hlo']; rfl, trivial⟩
          case measure => simp [intOf]; omega
    · obtain rfl : k = ns.length := by omega
      rw [List.take_length]
      have hdr := Lib.hid (fun w h => drawPN b d ys w h hy hd)
      generalize hf : fitsB ns = ok at *
      clear hf
      cases ok
      · simp only [Bool.false_eq_true, if_false, Option.isSome_none, Option.getD_none] at him
        go_wp2_with (go_at_call 19; refine him.out.mono ?_; rintro e w4 ⟨v4, rfl, hr4, hb4⟩)
        have hb04 : Below w.heap.size w w4 := hb03.trans (hb4.mono hb03.size)
        clear hr4 hb4 him
        refine (hdr.out _ (hB.below hb04 (Nat.le_refl _))).mono ?_
        rintro e x1 ⟨t2, rfl, ht, hc1⟩
        have hX1 : Below w.heap.size w x1 := hb04.trans (hc1.mono hb04.size)
        have him2 := Lib.hid (implPN t2 x1 (by omega) (hE.below hX1 (Nat.le_refl _)))
        have hsp2 := Lib.hid (fun w => specPN t2 w (by omega))
        have hcmp2 : (t2.toList == t2.toList) = true := by simp
        clear hc1 hdr hi3 hb03 hE1 hE3
        cases hq : parseN t2.data.toList with
        | none =>
          rw [hq] at him2 hsp2
          simp only [Option.getD_none, Option.isSome_none] at him2 hsp2
          clear hq
          go_wp2_with fail
          refine him2.out.mono ?_
          rintro e x2 ⟨v5, rfl, r5, hc2⟩
          obtain ⟨a5, c5, rfl, i5⟩ := ints_of_row r5
          clear r5
          go_wp2_with fail
          refine (hsp2.out _).mono ?_
          rintro e x3 ⟨v6, rfl, r6, hc3⟩
          obtain ⟨a6, c6, rfl, i6⟩ := ints_of_row r6
          clear r6
          have hX3 : Below w.heap.size w x3 := (hX1.trans (hc2.mono hX1.size)).trans (hc3.mono (hX1.trans (hc2.mono hX1.size)).size)
          have hcb := Lib.hid (cbSame_same _ _ c5 c6 [] _ (by simp) (i5.below hc3 (Nat.le_refl _)) i6)
          go_wp2_with (go_at_call 23; refine hcb.out.mono ?_; rintro e x4 ⟨rfl, hc4⟩)
          go_ret
          exact ⟨rfl, hX3.trans (hc4.mono hX3.size)⟩
        | some ms =>
          rw [hq] at him2 hsp2
          simp only [Option.getD_some, Option.isSome_some] at him2 hsp2
          have hin := parseN_in hq
          have hback := fmt_parseN hq
          clear hq
          go_wp2_with fail
          refine him2.out.mono ?_
          rintro e x2 ⟨v5, rfl, r5, hc2⟩
          obtain ⟨a5, c5, rfl, i5⟩ := ints_of_row r5
          clear r5
          go_wp2_with fail
          refine (hsp2.out _).mono ?_
          rintro e x3 ⟨v6, rfl, r6, hc3⟩
          obtain ⟨a6, c6, rfl, i6⟩ := ints_of_row r6
          clear r6
          have hX3 : Below w.heap.size w x3 := (hX1.trans (hc2.mono hX1.size)).trans (hc3.mono (hX1.trans (hc2.mono hX1.size)).size)
          have i53 := i5.below hc3 (Nat.le_refl _)
          have hcb := Lib.hid (cbSame_same _ _ c5 c6 ms _ (by omega) i53 i6)
          have hfo := Lib.hid (fun w h h' => implFN a5 c5 ms w (by omega) hin.2 h h')
          rw [hback, bs_eta] at hfo
          have hE3 := hE.below hX3 (Nat.le_refl _)
          clear hback him2 hsp2
          go_wp2_with (first
            | (go_at_call 23; refine hcb.out.mono ?_; rintro e x4 ⟨rfl, hc4⟩)
            | (go_at_call 11; refine (hfo.out _ (i53.below hc4 (Nat.le_refl _)) (hE3.below hc4 (Nat.le_refl _)).env).mono ?_; rintro e x5 ⟨rfl, hc5⟩))
          go_ret
          exact ⟨by simp, (hX3.trans (hc4.mono hX3.size)).trans (hc5.mono (hX3.trans (hc4.mono hX3.size)).size)⟩
      · simp only [if_true, Option.isSome_some, Option.getD_some] at him
        go_wp2_with (first
          | (go_at_call 19; refine him.out.mono ?_; rintro e w4 ⟨v4, rfl, hr4, hb4⟩; obtain ⟨a4, c4, rfl, hi4⟩ := ints_of_row hr4)
          | (go_at_call 23; refine (cbSame_same _ _ _ _ ns _ (by omega) hi4 (hi3.below hb4 (Nat.le_refl _))).mono ?_; rintro e w5 ⟨rfl, hb5⟩))
        have hb05 : Below w.heap.size w w5 := (hb03.trans (hb4.mono hb03.size)).trans (hb5.mono (hb03.trans (hb4.mono hb03.size)).size)
        clear hr4 hi4 hb4 hb5 him
        refine (hdr.out _ (hB.below hb05 (Nat.le_refl _))).mono ?_
        rintro e x1 ⟨t2, rfl, ht, hc1⟩
        have hX1 : Below w.heap.size w x1 := hb05.trans (hc1.mono hb05.size)
        have him2 := Lib.hid (implPN t2 x1 (by omega) (hE.below hX1 (Nat.le_refl _)))
        have hsp2 := Lib.hid (fun w => specPN t2 w (by omega))
        have hcmp2 : (t2.toList == t2.toList) = true := by simp
        clear hc1 hdr hi3 hb03 hE1 hE3
        cases hq : parseN t2.data.toList with
        | none =>
          rw [hq] at him2 hsp2
          simp only [Option.getD_none, Option.isSome_none] at him2 hsp2
          clear hq
          go_wp2_with fail
          refine him2.out.mono ?_
          rintro e x2 ⟨v5, rfl, r5, hc2⟩
          obtain ⟨a5, c5, rfl, i5⟩ := ints_of_row r5
          clear r5
          go_wp2_with fail
          refine (hsp2.out _).mono ?_
          rintro e x3 ⟨v6, rfl, r6, hc3⟩
          obtain ⟨a6, c6, rfl, i6⟩ := ints_of_row r6
          clear r6
          have hX3 : Below w.heap.size w x3 := (hX1.trans (hc2.mono hX1.size)).trans (hc3.mono (hX1.trans (hc2.mono hX1.size)).size)
          have hcb := Lib.hid (cbSame_same _ _ c5 c6 [] _ (by simp) (i5.below hc3 (Nat.le_refl _)) i6)
          go_wp2_with (go_at_call 23; refine hcb.out.mono ?_; rintro e x4 ⟨rfl, hc4⟩)
          go_ret
          exact ⟨rfl, hX3.trans (hc4.mono hX3.size)⟩
        | some ms =>
          rw [hq] at him2 hsp2
          simp only [Option.getD_some, Option.isSome_some] at him2 hsp2
          have hin := parseN_in hq
          have hback := fmt_parseN hq
          clear hq
          go_wp2_with fail
          refine him2.out.mono ?_
          rintro e x2 ⟨v5, rfl, r5, hc2⟩
          obtain ⟨a5, c5, rfl, i5⟩ := ints_of_row r5
          clear r5
          go_wp2_with fail
          refine (hsp2.out _).mono ?_
          rintro e x3 ⟨v6, rfl, r6, hc3⟩
          obtain ⟨a6, c6, rfl, i6⟩ := ints_of_row r6
          clear r6
          have hX3 : Below w.heap.size w x3 := (hX1.trans (hc2.mono hX1.size)).trans (hc3.mono (hX1.trans (hc2.mono hX1.size)).size)
          have i53 := i5.below hc3 (Nat.le_refl _)
          have hcb := Lib.hid (cbSame_same _ _ c5 c6 ms _ (by omega) i53 i6)
          have hfo := Lib.hid (fun w h h' => implFN a5 c5 ms w (by omega) hin.2 h h')
          rw [hback, bs_eta] at hfo
          have hE3 := hE.below hX3 (Nat.le_refl _)
          clear hback him2 hsp2
          go_wp2_with (first
            | (go_at_call 23; refine hcb.out.mono ?_; rintro e x4 ⟨rfl, hc4⟩)
            | (go_at_call 11; refine (hfo.out _ (i53.below hc4 (Nat.le_refl _)) (hE3.below hc4 (Nat.le_refl _)).env).mono ?_; rintro e x5 ⟨rfl, hc5⟩))
          go_ret
          exact ⟨by simp, (hX3.trans (hc4.mono hX3.size)).trans (hc5.mono (hX3.trans (hc4.mono hX3.size)).size)⟩
end Go.Proofs.YtkkcnkajffbnaaaDoor
