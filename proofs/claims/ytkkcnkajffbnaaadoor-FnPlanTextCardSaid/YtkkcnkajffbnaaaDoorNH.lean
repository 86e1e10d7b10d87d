/-
  FnPlanText: the deeds that were parsed back.
-/
import Derived.Test.YtkkcnkajffbnaaaDoorNF
import Derived.Test.YtkkcnkajffbnaaaDoorN1
import Derived.Test.YtkkcnkajffbnaaaDoorU5
import Derived.StillTailTactics
import Derived.Deep.RegionWith
namespace Go.Proofs.YtkkcnkajffbnaaaDoor
open Go.RowKit
set_option linter.all false

theorem bytes_back (s : ByteArray) : (⟨s.data.toList.toArray⟩ : ByteArray) = s := by simp
theorem deedOf_in {t : List UInt8} {d : Dd} (h : deedOf t = some d) : d.act.length ≤ 4 ∧ InI d.line ∧ InI d.word := by
  rw [read_deed] at h
  cases hr : readOf t with
  | none => simp [hr] at h
  | some e =>
    simp only [hr, Option.bind_some] at h
    split at h
    · rename_i hc
      injection h with h
      subst h
      simp only [Bool.and_eq_true] at hc
      have ha : e.act.length ≤ 4 := by
        have := hc.1
        unfold actB at this
        simp only [Bool.or_eq_true, beq_iff_eq] at this
        rcases this with (((((h|h)|h)|h)|h)|h)|h <;> rw [h] <;> decide
      refine ⟨ha, ?_⟩
      unfold readOf at hr
      split at hr
      · rename_i a b hcut
        cases hb : numOf b with
        | none => simp [hb] at hr
        | some x =>
          simp [hb] at hr
          subst hr
          obtain ⟨_, _, _, _, _, h1, h2⟩ := numOf_some hb
          exact ⟨⟨by show -9223372036854775808 ≤ x; omega, by show x ≤ 9223372036854775807; omega⟩, ⟨by show (-9223372036854775808 : Int) ≤ 0; omega, by show (0 : Int) ≤ 9223372036854775807; omega⟩⟩
      · rename_i a b c hcut
        cases hb : numOf b with
        | none => simp [hb] at hr
        | some x =>
          cases hcn : numOf c with
          | none => simp [hb, hcn] at hr
          | some y =>
            simp [hb, hcn] at hr
            subst hr
            obtain ⟨_, _, _, _, _, h1, h2⟩ := numOf_some hb
            obtain ⟨_, _, _, _, _, h3, h4⟩ := numOf_some hcn
            exact ⟨⟨by show -9223372036854775808 ≤ x; omega, by show x ≤ 9223372036854775807; omega⟩, ⟨by show -9223372036854775808 ≤ y; omega, by show y ≤ 9223372036854775807; omega⟩⟩
      · cases hr
    · cases h
theorem parseP_in {t : List UInt8} {ns : List Dd} (h : parseP t = some ns) : ns.length ≤ 12 ∧ ∀ d ∈ ns, d.act.length ≤ 4 ∧ InI d.line ∧ InI d.word := by
  unfold parseP at h
  split at h
  · injection h with h
    subst h; simp
  · split at h
    · cases h
    · exact ⟨by have := allOk_length h; omega, allOk_mem (fun x n hx => deedOf_in hx) h⟩
theorem parseP_sz {t : List UInt8} {ns : List Dd} (h : parseP t = some ns) : szD ns ns.length ≤ 1048576 ∧ ∀ d ∈ ns, DdOk d := by
  obtain ⟨h1, h2⟩ := parseP_in h
  refine ⟨?_, fun d hd => ⟨by have := (h2 d hd).1; omega, (h2 d hd).2⟩⟩
  unfold szD
  rw [List.take_length]
  have := sum_acts (ds := ns) fun d hd => by have := (h2 d hd).1; omega
  omega

set_option maxRecDepth 100000 in
set_option maxHeartbeats 8000000 in
theorem plan_10 {w W : World} {b : Option Addr} {d : Nat} {ys : List Int} (x0 x2 x3 x4 x5 x6 x7 x8 x9 x10 x11 x12 x13 x14 x15 x16 x17 x18 x19 x20 x21 x22 x23 x24 x25 x26 x27 x28 x29 x30 x31 x32 x33 x34 x35 x36 x37 x38 x39 x40 x41 x42 x43 x44 x45 x46 x47 x48 x49 x50 x51 x52 x53 x54 x55 x56 x57 x58 x59 x60 x61 x62 x63 x64 x65 x66 x67 x68 x69 x70 x71 x72 x73 x74 x75 x76 x77 x78 x79 x80 x81 x82 x83 x84 x85 x86 x87 x88 x89 x90 x91 x92 x93 x94 x95 x96 x97 x98 x99 x100 x101 x102 x103 x104 x105 x106 x107 x108 x109 x110 x111 x112 x113 x114 x115 x116 x117 x118 x119 x120 x121 x122 x123 x124 x125 x126 x127 x128 x129 x130 x131 x132 x133 x134 x135 x136 x137 x138 x139 x140 x141 x142 x143 x144 x145 x146 x147 x148 x149 x150 x151 x152 x153 x154 x155 x156 x157 x158 x159 : Value) (hb : Below w.heap.size w W) (hB : BytesAt W b ys) (hy : ∀ n ∈ ys, InU8 n) (hd : ys.length ≤ d) (hE : EnvQ W) :
    (tlC 10 (bdC Tryd.f8)).wp Tryd.prog (bodyPost Tryd.prog Tryd.f8 (fun e w' => e = .returned (.bool true) ∧ Below w.heap.size w w')) ⟨#[x0, .slice b ys.length d, x2, x3, x4, x5, x6, x7, x8, x9, x10, x11, x12, x13, x14, x15, x16, x17, x18, x19, x20, x21, x22, x23, x24, x25, x26, x27, x28, x29, x30, x31, x32, x33, x34, x35, x36, x37, x38, x39, x40, x41, x42, x43, x44, x45, x46, x47, x48, x49, x50, x51, x52, x53, x54, x55, x56, x57, x58, x59, x60, x61, x62, x63, x64, x65, x66, x67, x68, x69, x70, x71, x72, x73, x74, x75, x76, x77, x78, x79, x80, x81, x82, x83, x84, x85, x86, x87, x88, x89, x90, x91, x92, x93, x94, x95, x96, x97, x98, x99, x100, x101, x102, x103, x104, x105, x106, x107, x108, x109, x110, x111, x112, x113, x114, x115, x116, x117, x118, x119, x120, x121, x122, x123, x124, x125, x126, x127, x128, x129, x130, x131, x132, x133, x134, x135, x136, x137, x138, x139, x140, x141, x142, x143, x144, x145, x146, x147, x148, x149, x150, x151, x152, x153, x154, x155, x156, x157, x158, x159], []⟩ W := by
  generalize hQ : bodyPost Tryd.prog Tryd.f8 (fun e w' => e = .returned (.bool true) ∧ Below w.heap.size w w') = Q
  simp only [tlC, bdC, Tryd.f8]
  subst hQ
  go_wp2_with fail
  refine (drawPP b d ys W hB hy hd).mono ?_
  rintro e w1 ⟨s, rfl, hs, hb1⟩
  have hE1 := hE.below hb1 (Nat.le_refl _)
  have hbb1 := hb.trans (hb1.mono hb.size)
  have him := Lib.hid (implPP s w1 (by omega) hE1)
  have hsp := Lib.hid (fun w => specPP s w (by omega))
  have hpz := Lib.hid (fun ns h => parseP_sz (t := s.data.toList) (ns := ns) h)
  have hpf := Lib.hid (fun ns h => fmt_parseP (t := s.data.toList) (ns := ns) h)
  clear hB hb hb1 hE
  cases hP : parseP s.data.toList with
  | none =>
    rw [hP] at him hsp
    clear hpz hpf
    simp only [Option.isSome_none, Option.getD_none] at him hsp
    go_wp2_with fail
    refine him.out.mono ?_
    rintro e w2 ⟨v2, rfl, hr2, hb2⟩
    obtain ⟨a2, c2, rfl, hi2⟩ := deeds_of_row hr2
    clear hr2
    go_wp2_with fail
    refine (hsp.out _).mono ?_
    rintro e w3 ⟨v3, rfl, hr3, hb3⟩
    obtain ⟨a3, c3, rfl, hi3⟩ := deeds_of_row hr3
    clear hr3
    have hb12 := hbb1.trans (hb2.mono hbb1.size)
    have hb13 := hb12.trans (hb3.mono hb12.size)
    go_wp2
    go_ret
    exact ⟨rfl, hb13⟩
  | some ns =>
    rw [hP] at him hsp
    obtain ⟨hz, hok⟩ := hpz.out ns hP
    have hfm := hpf.out ns hP
    clear hpz hpf
    simp only [Option.isSome_some, Option.getD_some] at him hsp
    go_wp2_with fail
    refine him.out.mono ?_
    rintro e w2 ⟨v2, rfl, hr2, hb2⟩
    obtain ⟨a2, c2, rfl, hi2⟩ := deeds_of_row hr2
    clear hr2
    go_wp2_with fail
    refine (hsp.out _).mono ?_
    rintro e w3 ⟨v3, rfl, hr3, hb3⟩
    obtain ⟨a3, c3, rfl, hi3⟩ := deeds_of_row hr3
    clear hr3
    have hb12 := hbb1.trans (hb2.mono hbb1.size)
    have hb13 := hb12.trans (hb3.mono hb12.size)
    have hfp := Lib.hid (implFP a2 c2 ns w3 hz hok (hi2.below hb3 (Nat.le_refl _)) ((hE1.below hb2 (Nat.le_refl _)).below hb3 (Nat.le_refl _)).envP.env)
    rw [hfm, bytes_back] at hfp
    go_wp2_with fail
    refine hfp.out.mono ?_
    rintro e w4 ⟨rfl, hb4⟩
    have hb14 := hb13.trans (hb4.mono hb13.size)
    go_wp2
    go_ret
    exact ⟨by simp, hb14⟩
end Go.Proofs.YtkkcnkajffbnaaaDoor
namespace Go.Proofs.YtkkcnkajffbnaaaDoor
open Go.RowKit
set_option linter.all false

set_option maxRecDepth 100000 in
set_option maxHeartbeats 8000000 in
theorem plan_9 {w W : World} {b a a1 : Option Addr} {d c c1 : Nat} {ys : List Int} {ds ns : List Dd} (x0 x2 x3 x4 x6 x7 x8 x9 x11 x12 x13 x14 x15 x16 x17 x18 x19 x20 x21 x22 x23 x24 x25 x26 x27 x28 x29 x30 x31 x32 x33 x34 x35 x36 x37 x38 x39 x40 x41 x42 x43 x44 x45 x46 x47 x48 x49 x50 x51 x52 x53 x54 x55 x56 x57 x58 x59 x60 x61 x62 x63 x64 x65 x66 x67 x68 x69 x70 x71 x72 x73 x74 x75 x76 x77 x78 x79 x80 x81 x82 x83 x84 x85 x86 x87 x88 x89 x90 x91 x92 x93 x94 x95 x96 x97 x98 x99 x100 x101 x102 x103 x104 x105 x106 x107 x108 x109 x110 x111 x112 x113 x114 x115 x116 x117 x118 x119 x120 x121 x122 x123 x124 x125 x126 x127 x128 x129 x130 x131 x132 x133 x134 x135 x136 x137 x138 x139 x140 x141 x142 x143 x144 x145 x146 x147 x148 x149 x150 x151 x152 x153 x154 x155 x156 x157 x158 x159 : Value) (hb : Below w.heap.size w W) (hB : BytesAt W b ys) (hy : ∀ n ∈ ys, InU8 n) (hd : ys.length ≤ d) (hE : EnvQ W) (hA : DeedsAt W a ds) (hA1 : DeedsAt W a1 ns) (hl : ns.length ≤ 100) (hl2 : ds.length ≤ 100) (hds : ∀ k (h : k < ns.length), ∃ h2 : k < ds.length, ds[k] = ns[k]) :
    (tlC 9 (bdC Tryd.f8)).wp Tryd.prog (bodyPost Tryd.prog Tryd.f8 (fun e w' => e = .returned (.bool true) ∧ Below w.heap.size w w')) ⟨#[x0, .slice b ys.length d, x2, x3, x4, .slice a ds.length c, x6, x7, x8, x9, .slice a1 ns.length c1, x11, x12, x13, x14, x15, x16, x17, x18, x19, x20, x21, x22, x23, x24, x25, x26, x27, x28, x29, x30, x31, x32, x33, x34, x35, x36, x37, x38, x39, x40, x41, x42, x43, x44, x45, x46, x47, x48, x49, x50, x51, x52, x53, x54, x55, x56, x57, x58, x59, x60, x61, x62, x63, x64, x65, x66, x67, x68, x69, x70, x71, x72, x73, x74, x75, x76, x77, x78, x79, x80, x81, x82, x83, x84, x85, x86, x87, x88, x89, x90, x91, x92, x93, x94, x95, x96, x97, x98, x99, x100, x101, x102, x103, x104, x105, x106, x107, x108, x109, x110, x111, x112, x113, x114, x115, x116, x117, x118, x119, x120, x121, x122, x123, x124, x125, x126, x127, x128, x129, x130, x131, x132, x133, x134, x135, x136, x137, x138, x139, x140, x141, x142, x143, x144, x145, x146, x147, x148, x149, x150, x151, x152, x153, x154, x155, x156, x157, x158, x159], []⟩ W := by
  have hB' := hidP hB
  have hy' := hidP hy
  have hE' := hidP hE
  have hb' := hidP hb
  have hds' := hidP hds
  have hA' := hidP hA
  have hA1' := hidP hA1
  clear hB hy hE hb hds hA hA1
  generalize hQ : bodyPost Tryd.prog Tryd.f8 (fun e w' => e = .returned (.bool true) ∧ Below w.heap.size w w') = Q
  simp only [tlC, bdC, Tryd.f8]
  subst hQ
  refine wp_seq_k fun K hK => ?_
  have kk := hidP hK
  clear hK
  go_wp2
  go_loopw [12] (fun i wr => ∃ k : Nat, k ≤ ns.length ∧ i = .int .i64 k ∧ Hid (Below W.heap.size W wr)) (fun i _ => ns.length - (intOf i).toNat)
  case atStart => exact ⟨0, Nat.zero_le _, rfl, Below.refl _ _⟩
  case round =>
    obtain ⟨k, hk, rfl, hbb⟩ := hrel
    by_cases hlt : k < ns.length
    · obtain ⟨h2, e2⟩ := hds'.out k hlt
      obtain ⟨b1, off1, rfl, hbs1, h10, h11, h12⟩ := (hA1'.out.below hbb.out (Nat.le_refl _)).at hlt
      obtain ⟨b2, off2, rfl, hbs2, h20, h21, h22⟩ := (hA'.out.below hbb.out (Nat.le_refl _)).at h2
      rw [e2] at h20 h21 h22
      have hlt' : (k : Int) < (ns.length : Int) := by omega
      have hlt2 : (k : Int) < (ds.length : Int) := by omega
      clear e2
      generalize ns[k] = dd at *
      obtain ⟨act, line, word⟩ := dd
      go_wp2
      go_still_tail 8, (by kernel_rfl)
      go_wp2
      go_roundw
      case rel => exact ⟨k + 1, by omega, by go_num, hbb.out.drew⟩
      case measure => simp [intOf]; omega
    · have hlt' : ¬ (k : Int) < (ns.length : Int) := by omega
      have hbw := hb'.out.trans (hbb.out.mono hb'.out.size)
      go_wp2
      refine kk.out _ _ ?_
      exact plan_10 _ _ _ _ _ _ _ _ _ _ _ _ _ _ _ _ _ _ _ _ _ _ _ _ _ _ _ _ _ _ _ _ _ _ _ _ _ _ _ _ _ _ _ _ _ _ _ _ _ _ _ _ _ _ _ _ _ _ _ _ _ _ _ _ _ _ _ _ _ _ _ _ _ _ _ _ _ _ _ _ _ _ _ _ _ _ _ _ _ _ _ _ _ _ _ _ _ _ _ _ _ _ _ _ _ _ _ _ _ _ _ _ _ _ _ _ _ _ _ _ _ _ _ _ _ _ _ _ _ _ _ _ _ _ _ _ _ _ _ _ _ _ _ _ _ _ _ _ _ _ _ _ _ _ _ _ _ _ _ hbw (hB'.out.below hbb.out (Nat.le_refl _)) hy'.out hd (hE'.out.below hbb.out (Nat.le_refl _))
end Go.Proofs.YtkkcnkajffbnaaaDoor
