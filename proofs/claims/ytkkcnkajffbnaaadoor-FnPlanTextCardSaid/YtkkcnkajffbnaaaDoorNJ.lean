/-
  The walk of the law FnPlanText: it returns true for every input.
-/
import Derived.Test.YtkkcnkajffbnaaaDoorNH
namespace Go.Proofs.YtkkcnkajffbnaaaDoor
open Go.RowKit
set_option linter.all false

set_option maxRecDepth 100000 in
set_option maxHeartbeats 8000000 in
theorem plan_7 {w W : World} {b a : Option Addr} {d c : Nat} {ys : List Int} {ds : List Dd} {s : ByteArray} {g : Bool} (x0 x2 x3 x4 x8 x9 x10 x11 x12 x13 x14 x15 x16 x17 x18 x19 x20 x21 x22 x23 x24 x25 x26 x27 x28 x29 x30 x31 x32 x33 x34 x35 x36 x37 x38 x39 x40 x41 x42 x43 x44 x45 x46 x47 x48 x49 x50 x51 x52 x53 x54 x55 x56 x57 x58 x59 x60 x61 x62 x63 x64 x65 x66 x67 x68 x69 x70 x71 x72 x73 x74 x75 x76 x77 x78 x79 x80 x81 x82 x83 x84 x85 x86 x87 x88 x89 x90 x91 x92 x93 x94 x95 x96 x97 x98 x99 x100 x101 x102 x103 x104 x105 x106 x107 x108 x109 x110 x111 x112 x113 x114 x115 x116 x117 x118 x119 x120 x121 x122 x123 x124 x125 x126 x127 x128 x129 x130 x131 x132 x133 x134 x135 x136 x137 x138 x139 x140 x141 x142 x143 x144 x145 x146 x147 x148 x149 x150 x151 x152 x153 x154 x155 x156 x157 x158 x159 : Value) (hb : Below w.heap.size w W) (hB : BytesAt W b ys) (hy : ∀ n ∈ ys, InU8 n) (hd : ys.length ≤ d) (hE : EnvQ W) (hA : DeedsAt W a ds) (hl2 : ds.length ≤ 100) (hs : s.size ≤ 1048576) (hP : parseP s.data.toList = none ∧ g = false ∨ parseP s.data.toList = some ds) :
    (tlC 7 (bdC Tryd.f8)).wp Tryd.prog (bodyPost Tryd.prog Tryd.f8 (fun e w' => e = .returned (.bool true) ∧ Below w.heap.size w w')) ⟨#[x0, .slice b ys.length d, x2, x3, x4, .slice a ds.length c, .string s, .bool g, x8, x9, x10, x11, x12, x13, x14, x15, x16, x17, x18, x19, x20, x21, x22, x23, x24, x25, x26, x27, x28, x29, x30, x31, x32, x33, x34, x35, x36, x37, x38, x39, x40, x41, x42, x43, x44, x45, x46, x47, x48, x49, x50, x51, x52, x53, x54, x55, x56, x57, x58, x59, x60, x61, x62, x63, x64, x65, x66, x67, x68, x69, x70, x71, x72, x73, x74, x75, x76, x77, x78, x79, x80, x81, x82, x83, x84, x85, x86, x87, x88, x89, x90, x91, x92, x93, x94, x95, x96, x97, x98, x99, x100, x101, x102, x103, x104, x105, x106, x107, x108, x109, x110, x111, x112, x113, x114, x115, x116, x117, x118, x119, x120, x121, x122, x123, x124, x125, x126, x127, x128, x129, x130, x131, x132, x133, x134, x135, x136, x137, x138, x139, x140, x141, x142, x143, x144, x145, x146, x147, x148, x149, x150, x151, x152, x153, x154, x155, x156, x157, x158, x159], []⟩ W := by
  have hB' := hidP hB
  have hy' := hidP hy
  have hE' := hidP hE
  have hb' := hidP hb
  have hA' := hidP hA
  clear hB hy hE hb hA
  have him := Lib.hid (implPP s W hs hE'.out)
  generalize hQ : bodyPost Tryd.prog Tryd.f8 (fun e w' => e = .returned (.bool true) ∧ Below w.heap.size w w') = Q
  simp only [tlC, bdC, Tryd.f8]
  subst hQ
  rcases hP with ⟨hP, rfl⟩ | hP
  · rw [hP] at him
    simp only [Option.isSome_none, Option.getD_none] at him
    clear hP
    refine wp_seq_k fun K hK => ?_
    have kk := hidP hK
    clear hK
    go_wp2_with fail
    refine him.out.mono ?_
    rintro e w2 ⟨v2, rfl, hr2, hb2⟩
    obtain ⟨a2, c2, rfl, hi2⟩ := deeds_of_row hr2
    clear hr2
    have hbw := hidP (hb'.out.trans (hb2.mono hb'.out.size))
    have hA2 := hidP (hA'.out.below hb2 (Nat.le_refl _))
    have hB2 := hidP (hB'.out.below hb2 (Nat.le_refl _))
    have hE2 := hidP (hE'.out.below hb2 (Nat.le_refl _))
    have hi2' := hidP hi2
    clear hb2 hi2 him
    go_wp2
    refine kk.out _ _ ?_
    refine wp_seq_k fun K2 hK2 => ?_
    have kk2 := hidP hK2
    clear hK2
    go_wp2
    refine kk2.out _ _ ?_
    exact plan_9 (ns := []) _ _ _ _ _ _ _ _ _ _ _ _ _ _ _ _ _ _ _ _ _ _ _ _ _ _ _ _ _ _ _ _ _ _ _ _ _ _ _ _ _ _ _ _ _ _ _ _ _ _ _ _ _ _ _ _ _ _ _ _ _ _ _ _ _ _ _ _ _ _ _ _ _ _ _ _ _ _ _ _ _ _ _ _ _ _ _ _ _ _ _ _ _ _ _ _ _ _ _ _ _ _ _ _ _ _ _ _ _ _ _ _ _ _ _ _ _ _ _ _ _ _ _ _ _ _ _ _ _ _ _ _ _ _ _ _ _ _ _ _ _ _ _ _ _ _ _ _ _ _ _ _ _ _ _ _ _ hbw.out hB2.out hy'.out hd hE2.out hA2.out hi2'.out (by simp) hl2 (fun k h => absurd h (by simp))
  · rw [hP] at him
    simp only [Option.isSome_some, Option.getD_some] at him
    clear hP
    refine wp_seq_k fun K hK => ?_
    have kk := hidP hK
    clear hK
    go_wp2_with fail
    refine him.out.mono ?_
    rintro e w2 ⟨v2, rfl, hr2, hb2⟩
    obtain ⟨a2, c2, rfl, hi2⟩ := deeds_of_row hr2
    clear hr2
    have hbw := hidP (hb'.out.trans (hb2.mono hb'.out.size))
    have hA2 := hidP (hA'.out.below hb2 (Nat.le_refl _))
    have hB2 := hidP (hB'.out.below hb2 (Nat.le_refl _))
    have hE2 := hidP (hE'.out.below hb2 (Nat.le_refl _))
    have hi2' := hidP hi2
    clear hb2 hi2 him
    go_wp2
    refine kk.out _ _ ?_
    refine wp_seq_k fun K2 hK2 => ?_
    have kk2 := hidP hK2
    clear hK2
    cases g
    · go_wp2
      refine kk2.out _ _ ?_
      exact plan_9 (ns := ds) _ _ _ _ _ _ _ _ _ _ _ _ _ _ _ _ _ _ _ _ _ _ _ _ _ _ _ _ _ _ _ _ _ _ _ _ _ _ _ _ _ _ _ _ _ _ _ _ _ _ _ _ _ _ _ _ _ _ _ _ _ _ _ _ _ _ _ _ _ _ _ _ _ _ _ _ _ _ _ _ _ _ _ _ _ _ _ _ _ _ _ _ _ _ _ _ _ _ _ _ _ _ _ _ _ _ _ _ _ _ _ _ _ _ _ _ _ _ _ _ _ _ _ _ _ _ _ _ _ _ _ _ _ _ _ _ _ _ _ _ _ _ _ _ _ _ _ _ _ _ _ _ _ _ _ _ _ hbw.out hB2.out hy'.out hd hE2.out hA2.out hi2'.out hl2 hl2 (fun k h => ⟨h, rfl⟩)
    · go_wp2
      refine kk2.out _ _ ?_
      exact plan_9 (ns := ds) _ _ _ _ _ _ _ _ _ _ _ _ _ _ _ _ _ _ _ _ _ _ _ _ _ _ _ _ _ _ _ _ _ _ _ _ _ _ _ _ _ _ _ _ _ _ _ _ _ _ _ _ _ _ _ _ _ _ _ _ _ _ _ _ _ _ _ _ _ _ _ _ _ _ _ _ _ _ _ _ _ _ _ _ _ _ _ _ _ _ _ _ _ _ _ _ _ _ _ _ _ _ _ _ _ _ _ _ _ _ _ _ _ _ _ _ _ _ _ _ _ _ _ _ _ _ _ _ _ _ _ _ _ _ _ _ _ _ _ _ _ _ _ _ _ _ _ _ _ _ _ _ _ _ _ _ _ hbw.out hB2.out hy'.out hd hE2.out hA2.out hi2'.out hl2 hl2 (fun k h => ⟨h, rfl⟩)
/-- A deed that is good: it has an act, and no great number. -/
def goodD (d : Dd) : Bool := actB d.act && (decide (d.line < 1000000) && decide (d.word < 1000000))
theorem good_parse {ds : List Dd} (hl : ds.length ≤ 12) (hd : ∀ d ∈ ds, DrawnD d) (hg : ds.all goodD = true) : parseP (fmtPlan ds) = some ds := by
  refine parseP_good hl (fun d h => ⟨(hd d h).s, (hd d h).c⟩) fun d h => ?_
  have h1 := List.all_eq_true.1 hg d h
  simp only [goodD, Bool.and_eq_true, decide_eq_true_eq] at h1
  obtain ⟨ha, hb, hc⟩ := h1
  have h2 := hd d h
  exact deedOf_good ha h2.s (numOf_itoa_small _ ⟨by have := h2.l0; omega, by omega⟩) (numOf_itoa_small _ ⟨by have := h2.w0; omega, by omega⟩)
theorem back_cases {ds : List Dd} {g : Bool} (hd : ∀ d ∈ ds, DrawnD d) (hg : g = (decide (ds.length ≤ 12) && ds.all goodD)) : parseP (fmtPlan ds) = none ∧ g = false ∨ parseP (fmtPlan ds) = some ds := by
  cases hp : parseP (fmtPlan ds) with
  | none =>
    refine .inl ⟨rfl, ?_⟩
    subst hg
    cases hc : (decide (ds.length ≤ 12) && ds.all goodD) with
    | false => rfl
    | true =>
      simp only [Bool.and_eq_true, decide_eq_true_eq] at hc
      rw [good_parse hc.1 hd hc.2] at hp
      cases hp
  | some ns => exact .inr (by rw [parseP_back (fun d h => ⟨(hd d h).s, (hd d h).c⟩) hp])
theorem act_cases (a : List UInt8) : a = [112, 117, 116] ∨ a = [116, 97, 107, 101] ∨ a = [101, 110, 100] ∨ a = [108, 111, 111, 107] ∨ a = [112, 97, 115, 115] ∨ a = [101, 97, 99, 104] ∨ a = [104, 97, 110, 100] ∨ (actB a = false ∧ (a == [112, 117, 116]) = false ∧ (a == [116, 97, 107, 101]) = false ∧ (a == [101, 110, 100]) = false ∧ (a == [108, 111, 111, 107]) = false ∧ (a == [112, 97, 115, 115]) = false ∧ (a == [101, 97, 99, 104]) = false ∧ (a == [104, 97, 110, 100]) = false) := by
  by_cases h : actB a = true
  · unfold actB at h
    simp only [Bool.or_eq_true, beq_iff_eq] at h
    rcases h with (((((h|h)|h)|h)|h)|h)|h <;> simp [h]
  · have h' : actB a = false := by simpa using h
    have h2 := h'
    unfold actB at h2
    simp only [Bool.or_eq_false_iff] at h2
    obtain ⟨⟨⟨⟨⟨⟨h1, h2⟩, h3⟩, h4⟩, h5⟩, h6⟩, h7⟩ := h2
    exact .inr (.inr (.inr (.inr (.inr (.inr (.inr ⟨h', h1, h2, h3, h4, h5, h6, h7⟩))))))

set_option maxRecDepth 100000 in
set_option maxHeartbeats 8000000 in
theorem plan_6 {w W : World} {b a : Option Addr} {d c : Nat} {ys : List Int} {ds : List Dd} {s : ByteArray} {l12 : Bool} (x0 x2 x3 x4 x8 x9 x10 x11 x12 x13 x14 x15 x16 x17 x18 x19 x20 x21 x22 x23 x24 x25 x26 x27 x28 x29 x30 x31 x32 x33 x34 x35 x36 x37 x38 x39 x40 x41 x42 x43 x44 x45 x46 x47 x48 x49 x50 x51 x52 x53 x54 x55 x56 x57 x58 x59 x60 x61 x62 x63 x64 x65 x66 x67 x68 x69 x70 x71 x72 x73 x74 x75 x76 x77 x78 x79 x80 x81 x82 x83 x84 x85 x86 x87 x88 x89 x90 x91 x92 x93 x94 x95 x96 x97 x98 x99 x100 x101 x102 x103 x104 x105 x106 x107 x108 x109 x110 x111 x112 x113 x114 x115 x116 x117 x118 x119 x120 x121 x122 x123 x124 x125 x126 x127 x128 x129 x130 x131 x132 x133 x134 x135 x136 x137 x138 x139 x140 x141 x142 x143 x144 x145 x146 x147 x148 x149 x150 x151 x152 x153 x154 x155 x156 x157 x158 x159 : Value) (hb : Below w.heap.size w W) (hB : BytesAt W b ys) (hy : ∀ n ∈ ys, InU8 n) (hd : ys.length ≤ d) (hE : EnvQ W) (hA : DeedsAt W a ds) (hl12 : l12 = decide (ds.length ≤ 12)) (hl2 : ds.length ≤ 100) (hs : s.size ≤ 1048576) (hP : ∀ g, g = (decide (ds.length ≤ 12) && ds.all goodD) → (parseP s.data.toList = none ∧ g = false ∨ parseP s.data.toList = some ds)) :
    (tlC 6 (bdC Tryd.f8)).wp Tryd.prog (bodyPost Tryd.prog Tryd.f8 (fun e w' => e = .returned (.bool true) ∧ Below w.heap.size w w')) ⟨#[x0, .slice b ys.length d, x2, x3, x4, .slice a ds.length c, .string s, .bool l12, x8, x9, x10, x11, x12, x13, x14, x15, x16, x17, x18, x19, x20, x21, x22, x23, x24, x25, x26, x27, x28, x29, x30, x31, x32, x33, x34, x35, x36, x37, x38, x39, x40, x41, x42, x43, x44, x45, x46, x47, x48, x49, x50, x51, x52, x53, x54, x55, x56, x57, x58, x59, x60, x61, x62, x63, x64, x65, x66, x67, x68, x69, x70, x71, x72, x73, x74, x75, x76, x77, x78, x79, x80, x81, x82, x83, x84, x85, x86, x87, x88, x89, x90, x91, x92, x93, x94, x95, x96, x97, x98, x99, x100, x101, x102, x103, x104, x105, x106, x107, x108, x109, x110, x111, x112, x113, x114, x115, x116, x117, x118, x119, x120, x121, x122, x123, x124, x125, x126, x127, x128, x129, x130, x131, x132, x133, x134, x135, x136, x137, x138, x139, x140, x141, x142, x143, x144, x145, x146, x147, x148, x149, x150, x151, x152, x153, x154, x155, x156, x157, x158, x159], []⟩ W := by
  have hB' := hidP hB
  have hy' := hidP hy
  have hE' := hidP hE
  have hb' := hidP hb
  have hA' := hidP hA
  clear hB hy hE hb hA
  rw [← hl12] at hP
  clear hl12
  generalize hQ : bodyPost Tryd.prog Tryd.f8 (fun e w' => e = .returned (.bool true) ∧ Below w.heap.size w w') = Q
  simp only [tlC, bdC, Tryd.f8]
  subst hQ
  refine wp_seq_k fun K hK => ?_
  have kk := hidP hK
  clear hK
  go_wp2
  go_loopw [7, 8] (fun f i wr => ∃ k : Nat, k ≤ ds.length ∧ i = .int .i64 k ∧ f = .bool (l12 && (ds.take k).all goodD) ∧ W = wr) (fun _ i _ => ds.length - (intOf i).toNat)
  case atStart => exact ⟨0, Nat.zero_le _, rfl, by simp, rfl⟩
  case round =>
    obtain ⟨k, hk, rfl, rfl, hbb⟩ := hrel
    by_cases hlt : k < ds.length
    · obtain ⟨wr', rfl⟩ : ∃ y, y = wr := ⟨wr, rfl⟩
      obtain ⟨b1, off1, rfl, hbs1, h10, h11, h12⟩ := hA'.out.at hlt
      rw [hbb] at h10 h11 h12
      have hlt' : (k : Int) < (ds.length : Int) := by omega
      have hfs : Hid ((l12 && (ds.take (k + 1)).all goodD) = ((l12 && (ds.take k).all goodD) && goodD ds[k])) := by
        rw [Hid, List.take_succ_eq_append_getElem hlt, List.all_append]
        simp only [List.all_cons, List.all_nil, Bool.and_true, Bool.and_assoc]
      generalize ds[k] = dd at *
      obtain ⟨act, line, word⟩ := dd
      obtain ⟨f0, hf0⟩ : ∃ f0, (l12 && (ds.take k).all goodD) = f0 := ⟨_, rfl⟩
      rw [hf0] at hfs ⊢
      clear hf0
      cases f0
      · go_wp2
        go_roundw
        case rel => exact ⟨k + 1, by omega, by go_num, by rw [hfs.out]; rfl, hbb⟩
        case measure => simp [intOf]; omega
      · rcases act_cases act with rfl | rfl | rfl | rfl | rfl | rfl | rfl | ⟨ha0, ha1, ha2, ha3, ha4, ha5, ha6, ha7⟩
        · by_cases hl : line < 1000000
          · have hl' : decide (line < 1000000) = true := by simpa using hl
            by_cases hw : word < 1000000
            · have hw' : decide (word < 1000000) = true := by simpa using hw
              go_wp2
              go_roundw
              case rel => exact ⟨k + 1, by omega, by go_num, by rw [hfs.out]; simp [goodD, hl', hw', actB], hbb⟩
              case measure => simp [intOf]; omega
            · have hw' : decide (word < 1000000) = false := by simpa using hw
              go_wp2
              go_roundw
              case rel => exact ⟨k + 1, by omega, by go_num, by rw [hfs.out]; simp [goodD, hl', hw', actB], hbb⟩
              case measure => simp [intOf]; omega
          · have hl' : decide (line < 1000000) = false := by simpa using hl
            go_wp2
            go_roundw
            case rel => exact ⟨k + 1, by omega, by go_num, by rw [hfs.out]; simp [goodD, hl', actB], hbb⟩
            case measure => simp [intOf]; omega
        · by_cases hl : line < 1000000
          · have hl' : decide (line < 1000000) = true := by simpa using hl
            by_cases hw : word < 1000000
            · have hw' : decide (word < 1000000) = true := by simpa using hw
              go_wp2
              go_roundw
              case rel => exact ⟨k + 1, by omega, by go_num, by rw [hfs.out]; simp [goodD, hl', hw', actB], hbb⟩
              case measure => simp [intOf]; omega
            · have hw' : decide (word < 1000000) = false := by simpa using hw
              go_wp2
              go_roundw
              case rel => exact ⟨k + 1, by omega, by go_num, by rw [hfs.out]; simp [goodD, hl', hw', actB], hbb⟩
              case measure => simp [intOf]; omega
          · have hl' : decide (line < 1000000) = false := by simpa using hl
            go_wp2
            go_roundw
            case rel => exact ⟨k + 1, by omega, by go_num, by rw [hfs.out]; simp [goodD, hl', actB], hbb⟩
            case measure => simp [intOf]; omega
        · by_cases hl : line < 1000000
          · have hl' : decide (line < 1000000) = true := by simpa using hl
            by_cases hw : word < 1000000
            · have hw' : decide (word < 1000000) = true := by simpa using hw
              go_wp2
              go_roundw
              case rel => exact ⟨k + 1, by omega, by go_num, by rw [hfs.out]; simp [goodD, hl', hw', actB], hbb⟩
              case measure => simp [intOf]; omega
            · have hw' : decide (word < 1000000) = false := by simpa using hw
              go_wp2
              go_roundw
              case rel => exact ⟨k + 1, by omega, by go_num, by rw [hfs.out]; simp [goodD, hl', hw', actB], hbb⟩
              case measure => simp [intOf]; omega
          · have hl' : decide (line < 1000000) = false := by simpa using hl
            go_wp2
            go_roundw
            case rel => exact ⟨k + 1, by omega, by go_num, by rw [hfs.out]; simp [goodD, hl', actB], hbb⟩
            case measure => simp [intOf]; omega
        · by_cases hl : line < 1000000
          · have hl' : decide (line < 1000000) = true := by simpa using hl
            by_cases hw : word < 1000000
            · have hw' : decide (word < 1000000) = true := by simpa using hw
              go_wp2
              go_roundw
              case rel => exact ⟨k + 1, by omega, by go_num, by rw [hfs.out]; simp [goodD, hl', hw', actB], hbb⟩
              case measure => simp [intOf]; omega
            · have hw' : decide (word < 1000000) = false := by simpa using hw
              go_wp2
              go_roundw
              case rel => exact ⟨k + 1, by omega, by go_num, by rw [hfs.out]; simp [goodD, hl', hw', actB], hbb⟩
              case measure => simp [intOf]; omega
          · have hl' : decide (line < 1000000) = false := by simpa using hl
            go_wp2
            go_roundw
            case rel => exact ⟨k + 1, by omega, by go_num, by rw [hfs.out]; simp [goodD, hl', actB], hbb⟩
            case measure => simp [intOf]; omega
        · by_cases hl : line < 1000000
          · have hl' : decide (line < 1000000) = true := by simpa using hl
            by_cases hw : word < 1000000
            · have hw' : decide (word < 1000000) = true := by simpa using hw
              go_wp2
              go_roundw
              case rel => exact ⟨k + 1, by omega, by go_num, by rw [hfs.out]; simp [goodD, hl', hw', actB], hbb⟩
              case measure => simp [intOf]; omega
            · have hw' : decide (word < 1000000) = false := by simpa using hw
              go_wp2
              go_roundw
              case rel => exact ⟨k + 1, by omega, by go_num, by rw [hfs.out]; simp [goodD, hl', hw', actB], hbb⟩
              case measure => simp [intOf]; omega
          · have hl' : decide (line < 1000000) = false := by simpa using hl
            go_wp2
            go_roundw
            case rel => exact ⟨k + 1, by omega, by go_num, by rw [hfs.out]; simp [goodD, hl', actB], hbb⟩
            case measure => simp [intOf]; omega
        · by_cases hl : line < 1000000
          · have hl' : decide (line < 1000000) = true := by simpa using hl
            by_cases hw : word < 1000000
            · have hw' : decide (word < 1000000) = true := by simpa using hw
              go_wp2
              go_roundw
              case rel => exact ⟨k + 1, by omega, by go_num, by rw [hfs.out]; simp [goodD, hl', hw', actB], hbb⟩
              case measure => simp [intOf]; omega
            · have hw' : decide (word < 1000000) = false := by simpa using hw
              go_wp2
              go_roundw
              case rel => exact ⟨k + 1, by omega, by go_num, by rw [hfs.out]; simp [goodD, hl', hw', actB], hbb⟩
              case measure => simp [intOf]; omega
          · have hl' : decide (line < 1000000) = false := by simpa using hl
            go_wp2
            go_roundw
            case rel => exact ⟨k + 1, by omega, by go_num, by rw [hfs.out]; simp [goodD, hl', actB], hbb⟩
            case measure => simp [intOf]; omega
        · by_cases hl : line < 1000000
          · have hl' : decide (line < 1000000) = true := by simpa using hl
            by_cases hw : word < 1000000
            · have hw' : decide (word < 1000000) = true := by simpa using hw
              go_wp2
              go_roundw
              case rel => exact ⟨k + 1, by omega, by go_num, by rw [hfs.out]; simp [goodD, hl', hw', actB], hbb⟩
              case measure => simp [intOf]; omega
            · have hw' : decide (word < 1000000) = false := by simpa using hw
              go_wp2
              go_roundw
              case rel => exact ⟨k + 1, by omega, by go_num, by rw [hfs.out]; simp [goodD, hl', hw', actB], hbb⟩
              case measure => simp [intOf]; omega
          · have hl' : decide (line < 1000000) = false := by simpa using hl
            go_wp2
            go_roundw
            case rel => exact ⟨k + 1, by omega, by go_num, by rw [hfs.out]; simp [goodD, hl', actB], hbb⟩
            case measure => simp [intOf]; omega
        · go_wp2
          go_roundw
          case rel => exact ⟨k + 1, by omega, by go_num, by rw [hfs.out]; simp [goodD, ha0], hbb⟩
          case measure => simp [intOf]; omega
    · have hlt' : ¬ (k : Int) < (ds.length : Int) := by omega
      obtain rfl : k = ds.length := by omega
      subst hbb
      rw [List.take_length]
      have hP' := hidP (hP _ rfl)
      go_wp2
      refine kk.out _ _ ?_
      exact plan_7 _ _ _ _ _ _ _ _ _ _ _ _ _ _ _ _ _ _ _ _ _ _ _ _ _ _ _ _ _ _ _ _ _ _ _ _ _ _ _ _ _ _ _ _ _ _ _ _ _ _ _ _ _ _ _ _ _ _ _ _ _ _ _ _ _ _ _ _ _ _ _ _ _ _ _ _ _ _ _ _ _ _ _ _ _ _ _ _ _ _ _ _ _ _ _ _ _ _ _ _ _ _ _ _ _ _ _ _ _ _ _ _ _ _ _ _ _ _ _ _ _ _ _ _ _ _ _ _ _ _ _ _ _ _ _ _ _ _ _ _ _ _ _ _ _ _ _ _ _ _ _ _ _ _ _ _ hb'.out hB'.out hy'.out hd hE'.out hA'.out hl2 hs hP'.out
end Go.Proofs.YtkkcnkajffbnaaaDoor
namespace Go.Proofs.YtkkcnkajffbnaaaDoor
open Go.RowKit
set_option linter.all false

set_option maxRecDepth 100000 in
set_option maxHeartbeats 8000000 in
theorem lawPT (a b : Option Addr) (c d : Nat) (xs ys : List Int) (w : World) (hA : BytesAt w a xs) (hB : BytesAt w b ys) (hx : ∀ n ∈ xs, InU8 n) (hy : ∀ n ∈ ys, InU8 n) (hc : xs.length ≤ c) (hd : ys.length ≤ d) (hE : EnvQ w) :
    Calls Tryd.prog 8 #[.slice a xs.length c, .slice b ys.length d] w fun e w' => e = .returned (.bool true) ∧ Below w.heap.size w w' := by
  by_cases h1 : 1048576 < xs.length
  · have h1' : decide ((1048576 : Int) < (xs.length : Int)) = true := by simp; omega
    go_enter Tryd.func8, Tryd.ntmps8
    go_wp2
    go_ret
    exact ⟨rfl, Below.refl _ _⟩
  have h1' : decide ((1048576 : Int) < (xs.length : Int)) = false := by simp; omega
  by_cases h2 : 1048576 < ys.length
  · have h2' : decide ((1048576 : Int) < (ys.length : Int)) = true := by simp; omega
    go_enter Tryd.func8, Tryd.ntmps8
    go_wp2
    go_ret
    exact ⟨rfl, Below.refl _ _⟩
  have h2' : decide ((1048576 : Int) < (ys.length : Int)) = false := by simp; omega
  have hdr := hidP (drawFP a c xs w hA hx hc)
  have hB' := hidP hB
  have hy' := hidP hy
  have hE' := hidP hE
  clear hA hB hy hE hx hc
  go_enter Tryd.func8, Tryd.ntmps8
  refine wp_seq_k fun K0 hK0 => ?_
  have kk0 := hidP hK0
  clear hK0
  go_wp2
  refine kk0.out _ _ ?_
  refine wp_seq_k fun K1 hK1 => ?_
  have kk1 := hidP hK1
  clear hK1
  go_wp2
  refine kk1.out _ _ ?_
  refine wp_seq_k fun K2 hK2 => ?_
  have kk2 := hidP hK2
  clear hK2
  go_wp2_with fail
  refine hdr.out.mono ?_
  rintro e w1 ⟨v, ds, rfl, hl, hdd, hr1, hb1⟩
  obtain ⟨a1, c1, rfl, hi1⟩ := deeds_of_row hr1
  have hA1 := hidP hi1
  have hbb1 := hidP hb1
  have hB1 := hidP (hB'.out.below hb1 (Nat.le_refl _))
  have hE1 := hidP (hE'.out.below hb1 (Nat.le_refl _))
  have hdd' := hidP hdd
  have hok : Hid (∀ d ∈ ds, DdOk d) := fun d hd => (hdd d hd).inn
  clear hr1 hi1 hb1 hdd hdr hB' hE'
  go_wp2
  refine kk2.out _ _ ?_
  refine wp_seq_k fun K3 hK3 => ?_
  have kk3 := hidP hK3
  clear hK3
  go_wp2_with fail
  refine (implFP a1 c1 ds w1 (drawn_sz hl hdd'.out) hok.out hA1.out hE1.out.envP.env).mono ?_
  rintro e w2 ⟨rfl, hb2⟩
  have hA2 := hidP (hA1.out.below hb2 (Nat.le_refl _))
  have hbb2 := hidP (hbb1.out.trans (hb2.mono hbb1.out.size))
  have hB2 := hidP (hB1.out.below hb2 (Nat.le_refl _))
  have hE2 := hidP (hE1.out.below hb2 (Nat.le_refl _))
  have hsp := Lib.hid (specFP a1 c1 ds w2 (drawn_sz hl hdd'.out) hok.out hA2.out)
  obtain ⟨s, hs⟩ : ∃ s : ByteArray, (⟨(fmtPlan ds).toArray⟩ : ByteArray) = s := ⟨_, rfl⟩
  have hst : Hid (s.data.toList = fmtPlan ds) := by rw [Hid, ← hs]
  have hsz : s.size ≤ 1048576 := by rw [← hs, bs_size]; have := (drawn_len hl hdd'.out).1; omega
  have hcmp : (s.toList == s.toList) = true := by simp
  rw [hs] at hsp ⊢
  clear hs hb2 hA1 hbb1 hB1 hE1
  go_wp2
  refine kk3.out _ _ ?_
  refine wp_seq_k fun K4 hK4 => ?_
  have kk4 := hidP hK4
  clear hK4
  go_wp2_with fail
  refine hsp.out.mono ?_
  rintro e w3 ⟨rfl, hb3⟩
  have hA3 := hidP (hA2.out.below hb3 (Nat.le_refl _))
  have hbb3 := hidP (hbb2.out.trans (hb3.mono hbb2.out.size))
  have hB3 := hidP (hB2.out.below hb3 (Nat.le_refl _))
  have hE3 := hidP (hE2.out.below hb3 (Nat.le_refl _))
  clear hb3 hA2 hbb2 hB2 hE2 hsp
  go_wp2
  refine kk4.out _ _ ?_
  refine wp_seq_k fun K5 hK5 => ?_
  have kk5 := hidP hK5
  clear hK5
  go_wp2
  refine kk5.out _ _ ?_
  exact plan_6 _ _ _ _ _ _ _ _ _ _ _ _ _ _ _ _ _ _ _ _ _ _ _ _ _ _ _ _ _ _ _ _ _ _ _ _ _ _ _ _ _ _ _ _ _ _ _ _ _ _ _ _ _ _ _ _ _ _ _ _ _ _ _ _ _ _ _ _ _ _ _ _ _ _ _ _ _ _ _ _ _ _ _ _ _ _ _ _ _ _ _ _ _ _ _ _ _ _ _ _ _ _ _ _ _ _ _ _ _ _ _ _ _ _ _ _ _ _ _ _ _ _ _ _ _ _ _ _ _ _ _ _ _ _ _ _ _ _ _ _ _ _ _ _ _ _ _ _ _ _ _ _ _ _ _ _ hbb3.out hB3.out hy'.out hd hE3.out hA3.out (by simp; omega) (by omega) hsz (fun g hg => by rw [hst.out]; exact back_cases hdd'.out hg)
end Go.Proofs.YtkkcnkajffbnaaaDoor
