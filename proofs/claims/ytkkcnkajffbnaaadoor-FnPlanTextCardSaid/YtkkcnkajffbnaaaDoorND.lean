/-
  The drawn case of parties: l4Case, whole.
-/
import Derived.Test.YtkkcnkajffbnaaaDoorNC
namespace Go.Proofs.YtkkcnkajffbnaaaDoor
open Go.RowKit
set_option linter.all false

/-- Voices and ears, line after line. -/
def NumS (W : World) (g0 g q l n : Nat) (v u : Value) (w : World) : Prop := l ≤ n ∧ ∃ zs ys, TwoR W g0 g (q + 5 * l) v u zs ys w ∧ zs.length = l ∧ ys.length = l
/-- Rooms: k more come. -/
def RoomS (W : World) (g0 g q k n : Nat) (v : Value) (w : World) : Prop := ∃ zs, zs.length + k = n ∧ IntRow W.heap.size v zs w ∧ On W g0 g (q + zs.length) w
theorem intRow_snoc {B : Nat} {v' : Value} {zs : List Int} {x : Int} {w' : World} (own : w'.ownsRow B 3 1 v' (zs.length + 1) (zs.map (Value.int .i64) ++ [.int .i64 x])) : IntRow B v' (zs ++ [x]) w' := by
  have : IntRow B v' (zs ++ [x]) w' = w'.ownsRow B 3 1 v' (zs.length + 1) (zs.map (Value.int .i64) ++ [.int .i64 x]) := by simp [IntRow]
  rw [this]; exact own

set_option maxRecDepth 100000 in
set_option maxHeartbeats 8000000 in
theorem case_5 {w W : World} {g0 g p q n5 c5 n7 : Nat} {a5 : Option Addr} {v8 v9 : Value} (x1 x2 x3 x4 x6 x10 x11 x12 x13 x14 x15 x16 x17 x18 x19 x20 x21 x22 x23 x24 x25 x26 x27 x28 x29 x30 x31 x32 x33 x34 x35 x36 x37 x38 x39 x40 x41 x42 x43 x44 x45 x46 x47 x48 x49 x50 x51 x52 x53 x54 x55 x56 x57 x58 x59 x60 x61 x62 x63 x64 x65 x66 x67 x68 x69 x70 x71 x72 x73 x74 x75 x76 x77 x78 x79 x80 x81 x82 x83 x84 x85 x86 x87 x88 x89 x90 x91 x92 x93 x94 x95 x96 x97 x98 x99 x100 x101 x102 x103 x104 x105 x106 x107 x108 x109 x110 x111 x112 x113 x114 : Value) {W1 : World} (O : On w g0 g q W) (T0 : TwoR W g0 g q v8 v9 [] [] W1) (hq : q ≤ p + 50) (hp : p ≤ 50000) (hg : g < w.heap.size) (h5 : 1 ≤ n5) (h5b : n5 ≤ 3) (h7 : 1 ≤ n7) (h7b : n7 ≤ 3) :
    (tlC 5 (bdC Tryd.f63)).wp Tryd.prog (bodyPost Tryd.prog Tryd.f63 (BadPost w g0 g (p + 2000) w.heap.size)) ⟨#[.pointer (some ⟨g, 0, none⟩), x1, x2, x3, x4, .slice a5 n5 c5, x6, .int .i64 (n7 : Int), v8, v9, x10, x11, x12, x13, x14, x15, x16, x17, x18, x19, x20, x21, x22, x23, x24, x25, x26, x27, x28, x29, x30, x31, x32, x33, x34, x35, x36, x37, x38, x39, x40, x41, x42, x43, x44, x45, x46, x47, x48, x49, x50, x51, x52, x53, x54, x55, x56, x57, x58, x59, x60, x61, x62, x63, x64, x65, x66, x67, x68, x69, x70, x71, x72, x73, x74, x75, x76, x77, x78, x79, x80, x81, x82, x83, x84, x85, x86, x87, x88, x89, x90, x91, x92, x93, x94, x95, x96, x97, x98, x99, x100, x101, x102, x103, x104, x105, x106, x107, x108, x109, x110, x111, x112, x113, x114], []⟩ W1 := by
  obtain ⟨l0, li, lz0, lz1, lz2⟩ := info_parts Tryd.info3n
  have OW := hidP O
  have hI : Hid (NumS W g0 g q 0 n5 v8 v9 W1) := ⟨by omega, [], [], T0, rfl, rfl⟩
  clear O T0
  have hgW : g < W.heap.size := OW.out.1.lt
  have hwW := OW.out.size
  generalize hQ : bodyPost Tryd.prog Tryd.f63 (BadPost w g0 g (p + 2000) w.heap.size) = Q
  simp only [tlC, bdC, Tryd.f63]
  subst hQ
  refine wp_seq_k fun K hK => ?_
  have kk := hidP hK
  clear hK
  go_wp2
  go_loopw [8, 9, 10] (fun v u i wr => ∃ l : Nat, i = .int .i64 ((l : Int) + 1) ∧ Hid (NumS W g0 g q l n5 v u wr)) (fun _ _ i _ => n5 + 1 - (intOf i).toNat)
  case atStart => exact ⟨0, rfl, hI⟩
  case round =>
    clear hI
    obtain ⟨l, rfl, hO⟩ := hrel
    obtain ⟨s, rfl⟩ : ∃ y, y = u8 := ⟨u8, rfl⟩
    obtain ⟨t, rfl⟩ : ∃ y, y = u9 := ⟨u9, rfl⟩
    obtain ⟨wx, rfl⟩ : ∃ y, y = wr := ⟨wr, rfl⟩
    obtain ⟨hl, zs, ys, T, hzl, hyl⟩ := hO.out
    have T' := hidP T
    have hzl' := hidP hzl
    have hyl' := hidP hyl
    have hzs : zs.length ≤ 3 := by omega
    have hys : ys.length ≤ 3 := by omega
    by_cases h1 : l < n5
    · have h1' : (l : Int) + 1 ≤ (n5 : Int) := by omega
      clear T hO hzl hyl
      go_wp2_with fail
      refine (pick_new T'.out.on.1 (by omega) (by omega)).mono ?_
      rintro e w2 ⟨y, rfl, -, k2⟩
      have T2 := hidP ((T'.out.step k2.out hgW).alloc (.cells #[.int .i64 y] 3))
      clear k2 T'
      go_wp2_with (at_builtin; refine wpList_append_own_at _ rfl (.tmp 41) (.tmp 45) 22 rfl W.heap.size 3 l0 (.int .i64 0) 1 8 Tryd.underlying22 li lz0 lz1 lz2 rfl (by decide) _ zs.length _ rfl T2.out.a ⟨w2.heap.size, 0, none⟩ 1 1 [.int .i64 (y : Int)] rfl rfl ?c1 ?c2 ?c3 ?c4 ?c5 ?_)
      case c1 => exact cell_one_new _ _ _
      case c2 => exact one_int _
      case c3 => unfold maxLen; omega
      case c4 => omega
      case c5 => have := T2.out.on.size; omega
      intro s' w3 hown hgr _ hob
      have T3 := hidP (T2.out.appA _ hown hgr (by simpa using hob) hgW)
      clear hown hgr hob T2
      go_wp2_with fail
      refine (pick_new T3.out.on.1 (by omega) (by omega)).mono ?_
      rintro e w4 ⟨y4, rfl, -, k4⟩
      have T4 := hidP (T3.out.step k4.out hgW)
      clear k4 T3
      go_wp2_with fail
      refine (pick_new T4.out.on.1 (by omega) (by omega)).mono ?_
      rintro e w5 ⟨y5, rfl, -, k5⟩
      have T5 := hidP (T4.out.step k5.out hgW)
      clear k5 T4
      go_wp2_with fail
      refine (pick_new T5.out.on.1 (by omega) (by omega)).mono ?_
      rintro e w6 ⟨y6, rfl, -, k6⟩
      have T6 := hidP (T5.out.step k6.out hgW)
      clear k6 T5
      go_wp2_with fail
      refine (num_new (n := 4) [(y4 : Int), (y5 : Int), (y6 : Int), -1] _ T6.out.on.1 (by omega) rfl rfl (by omega) (by omega)).mono ?_
      rintro e w7 ⟨x, rfl, -, k7⟩
      have T7 := hidP ((T6.out.step k7.out hgW).alloc (.cells #[.int .i64 x] 3))
      clear k7 T6
      go_wp2_with (at_builtin; refine wpList_append_own_at _ rfl (.tmp 47) (.tmp 60) 22 rfl W.heap.size 3 l0 (.int .i64 0) 1 8 Tryd.underlying22 li lz0 lz1 lz2 rfl (by decide) _ ys.length _ rfl T7.out.b ⟨w7.heap.size, 0, none⟩ 1 1 [.int .i64 x] rfl rfl ?c1 ?c2 ?c3 ?c4 ?c5 ?_)
      case c1 => exact cell_one_new _ _ _
      case c2 => exact one_int _
      case c3 => unfold maxLen; omega
      case c4 => omega
      case c5 => have := T7.out.on.size; omega
      intro t' w8 hown hgr _ hob
      have T8 := hidP (T7.out.appB _ hown hgr (by simpa using hob) hgW)
      clear hown hgr hob T7
      have hN : Hid (NumS W g0 g q (l + 1) n5 s' t' w8) := ⟨by omega, _, _, T8.out, by have := hzl'.out; simp; omega, by have := hyl'.out; simp; omega⟩
      clear T8
      go_wp2
      go_roundw
      case rel => exact ⟨l + 1, by go_num, hN⟩
      case measure => simp [intOf]; omega
    · have hl5 : l = n5 := by omega
      have h1' : ¬ (l : Int) + 1 ≤ (n5 : Int) := by omega
      have O2 := T.on.from OW.out.2
      have e8 : IntRow w.heap.size s zs wx := own_less T.a hwW
      have e9 : IntRow w.heap.size t ys wx := own_less T.b hwW
      have O2' := hidP O2
      have e8' := hidP e8
      have e9' := hidP e9
      clear h1 T O2 e8 e9 hO T' hzl hyl
      go_wp2_with fail
      refine kk.out _ _ ?_
      exact case_6 _ _ _ _ _ _ _ _ _ _ _ _ _ _ _ _ _ _ _ _ _ _ _ _ _ _ _ _ _ _ _ _ _ _ _ _ _ _ _ _ _ _ _ _ _ _ _ _ _ _ _ _ _ _ _ _ _ _ _ _ _ _ _ _ _ _ _ _ _ _ _ _ _ _ _ _ _ _ _ _ _ _ _ _ _ _ _ _ _ _ _ _ _ _ _ _ _ _ _ _ _ _ _ _ _ _ _ _ _ _ O2'.out (by omega) hp hg e8'.out e9'.out (hzl'.out.trans hl5) (hyl'.out.trans hl5) h5 h5b h7 h7b
set_option maxRecDepth 100000 in
set_option maxHeartbeats 8000000 in
theorem case_3 {w W : World} {g0 g p q n5 c5 : Nat} {a5 : Option Addr} (x1 x2 x3 x4 x6 x7 x8 x9 x10 x11 x12 x13 x14 x15 x16 x17 x18 x19 x20 x21 x22 x23 x24 x25 x26 x27 x28 x29 x30 x31 x32 x33 x34 x35 x36 x37 x38 x39 x40 x41 x42 x43 x44 x45 x46 x47 x48 x49 x50 x51 x52 x53 x54 x55 x56 x57 x58 x59 x60 x61 x62 x63 x64 x65 x66 x67 x68 x69 x70 x71 x72 x73 x74 x75 x76 x77 x78 x79 x80 x81 x82 x83 x84 x85 x86 x87 x88 x89 x90 x91 x92 x93 x94 x95 x96 x97 x98 x99 x100 x101 x102 x103 x104 x105 x106 x107 x108 x109 x110 x111 x112 x113 x114 : Value) (O : On w g0 g q W) (hq : q ≤ p + 40) (hp : p ≤ 50000) (hg : g < w.heap.size) (h5 : 1 ≤ n5) (h5b : n5 ≤ 3) :
    (tlC 3 (bdC Tryd.f63)).wp Tryd.prog (bodyPost Tryd.prog Tryd.f63 (BadPost w g0 g (p + 2000) w.heap.size)) ⟨#[.pointer (some ⟨g, 0, none⟩), x1, x2, x3, x4, .slice a5 n5 c5, x6, x7, x8, x9, x10, x11, x12, x13, x14, x15, x16, x17, x18, x19, x20, x21, x22, x23, x24, x25, x26, x27, x28, x29, x30, x31, x32, x33, x34, x35, x36, x37, x38, x39, x40, x41, x42, x43, x44, x45, x46, x47, x48, x49, x50, x51, x52, x53, x54, x55, x56, x57, x58, x59, x60, x61, x62, x63, x64, x65, x66, x67, x68, x69, x70, x71, x72, x73, x74, x75, x76, x77, x78, x79, x80, x81, x82, x83, x84, x85, x86, x87, x88, x89, x90, x91, x92, x93, x94, x95, x96, x97, x98, x99, x100, x101, x102, x103, x104, x105, x106, x107, x108, x109, x110, x111, x112, x113, x114], []⟩ W := by
  generalize hQ : bodyPost Tryd.prog Tryd.f63 (BadPost w g0 g (p + 2000) w.heap.size) = Q
  simp only [tlC, bdC, Tryd.f63]
  subst hQ
  refine wp_seq_k fun K hK => ?_
  have kk := hidP hK
  clear hK
  go_wp2_with fail
  refine (pick_new O.1 (by omega) (by omega)).mono ?_
  rintro e w2 ⟨y, rfl, hy, k2⟩
  have O2 := hidP (O.step k2.out)
  have hy2 : y ≤ 1 := by omega
  clear O k2 hy
  go_wp2
  refine kk.out _ _ ?_
  refine wp_seq_k fun K2 hK2 => ?_
  have kk2 := hidP hK2
  clear hK2
  go_wp2
  refine kk2.out _ _ ?_
  have e2 : IntKind.i64.wrap (2 + (y : Int)) = ((2 + y : Nat) : Int) := by rw [IntWalk.i64_in _ (by omega)]; omega
  exact case_5 (n7 := 2 + y) _ _ _ _ _ _ _ _ _ _ _ _ _ _ _ _ _ _ _ _ _ _ _ _ _ _ _ _ _ _ _ _ _ _ _ _ _ _ _ _ _ _ _ _ _ _ _ _ _ _ _ _ _ _ _ _ _ _ _ _ _ _ _ _ _ _ _ _ _ _ _ _ _ _ _ _ _ _ _ _ _ _ _ _ _ _ _ _ _ _ _ _ _ _ _ _ _ _ _ _ _ _ _ _ _ _ _ _ _ _ O2.out (.new O2.out.1) (by omega) hp hg h5 h5b (by omega) (by omega)
set_option maxRecDepth 100000 in
set_option maxHeartbeats 8000000 in
theorem case_2 {w W : World} {g0 g p : Nat} (x1 x2 x3 x4 x6 x7 x8 x9 x10 x11 x12 x13 x14 x15 x16 x17 x18 x19 x20 x21 x22 x23 x24 x25 x26 x27 x28 x29 x30 x31 x32 x33 x34 x35 x36 x37 x38 x39 x40 x41 x42 x43 x44 x45 x46 x47 x48 x49 x50 x51 x52 x53 x54 x55 x56 x57 x58 x59 x60 x61 x62 x63 x64 x65 x66 x67 x68 x69 x70 x71 x72 x73 x74 x75 x76 x77 x78 x79 x80 x81 x82 x83 x84 x85 x86 x87 x88 x89 x90 x91 x92 x93 x94 x95 x96 x97 x98 x99 x100 x101 x102 x103 x104 x105 x106 x107 x108 x109 x110 x111 x112 x113 x114 : Value) (hW : W = w.alloc (.cells #[] 3)) (hR : Rd w g0 g p) (hp : p ≤ 50000) (hg : g < w.heap.size) :
    (tlC 2 (bdC Tryd.f63)).wp Tryd.prog (bodyPost Tryd.prog Tryd.f63 (BadPost w g0 g (p + 2000) w.heap.size)) ⟨#[.pointer (some ⟨g, 0, none⟩), x1, x2, x3, x4, .slice (some ⟨w.heap.size, 0, none⟩) 0 0, x6, x7, x8, x9, x10, x11, x12, x13, x14, x15, x16, x17, x18, x19, x20, x21, x22, x23, x24, x25, x26, x27, x28, x29, x30, x31, x32, x33, x34, x35, x36, x37, x38, x39, x40, x41, x42, x43, x44, x45, x46, x47, x48, x49, x50, x51, x52, x53, x54, x55, x56, x57, x58, x59, x60, x61, x62, x63, x64, x65, x66, x67, x68, x69, x70, x71, x72, x73, x74, x75, x76, x77, x78, x79, x80, x81, x82, x83, x84, x85, x86, x87, x88, x89, x90, x91, x92, x93, x94, x95, x96, x97, x98, x99, x100, x101, x102, x103, x104, x105, x106, x107, x108, x109, x110, x111, x112, x113, x114], []⟩ W := by
  obtain ⟨l0, li, lz0, lz1, lz2⟩ := info_parts Tryd.info3n
  have O0 : On w g0 g p W := by rw [hW]; exact ⟨hR.alloc _, World.grownBy_alloc _ _ _⟩
  have e0 : W.ownsRow w.heap.size 3 1 (.slice (some ⟨w.heap.size, 0, none⟩) 0 0) 0 [] := by rw [hW]; exact ownsRow_empty w 3 1
  have O0' := hidP O0
  have e0' := hidP e0
  clear O0 e0 hW hR
  generalize hQ : bodyPost Tryd.prog Tryd.f63 (BadPost w g0 g (p + 2000) w.heap.size) = Q
  simp only [tlC, bdC, Tryd.f63]
  subst hQ
  refine wp_seq_k fun K hK => ?_
  have kk := hidP hK
  clear hK
  go_wp2_with fail
  refine (pick_new O0'.out.1 (by omega) (by omega)).mono ?_
  rintro e w2 ⟨y, rfl, hy, k2⟩
  have hy2 : y ≤ 1 := by omega
  have e2 : IntKind.i64.wrap (2 + (y : Int)) = ((2 + y : Nat) : Int) := by rw [IntWalk.i64_in _ (by omega)]; omega
  have hI : Hid (RoomS w g0 g (p + 1) (2 + y) (2 + y) (.slice (some ⟨w.heap.size, 0, none⟩) 0 0) w2) := ⟨[], by simp, World.ownsRow.kept e0'.out k2.out.2 (.inr (by simp [Value.ownBlock]; omega)), O0'.out.step k2.out⟩
  clear O0' e0' k2 hy
  have hy3 : 2 ≤ 2 + y := by omega
  have hy4 : 2 + y ≤ 3 := by omega
  clear hy2
  generalize 2 + y = n at *
  go_wp2
  go_loopw [5, 6] (fun v i wr => ∃ k : Nat, i = .int .i64 k ∧ Hid (RoomS w g0 g (p + 1) k n v wr)) (fun _ i _ => (intOf i).toNat)
  case atStart => exact ⟨n, rfl, hI⟩
  case round =>
    clear hI
    obtain ⟨k, rfl, hO⟩ := hrel
    obtain ⟨v, rfl⟩ : ∃ y, y = u5 := ⟨u5, rfl⟩
    obtain ⟨wx, rfl⟩ : ∃ y, y = wr := ⟨wr, rfl⟩
    obtain ⟨zs, hzl, hown0, O1⟩ := hO.out
    have hzl' := hidP hzl
    have I1 := hidP hown0
    have O1' := hidP O1
    have hzs : zs.length ≤ 3 := by omega
    have hk3 : k ≤ 3 := by omega
    by_cases h0 : 0 < k
    · have h0' : (0 : Int) < (k : Int) := by omega
      clear hzl hown0 O1 hO
      go_wp2_with fail
      refine (num_new (n := 4) [1, 2, 0, 1] _ O1'.out.1 (by omega) rfl rfl (by omega) (by omega)).mono ?_
      rintro e w3 ⟨x, rfl, -, k3⟩
      have O3 := hidP ((O1'.out.step k3.out).alloc (.cells #[.int .i64 x] 3))
      have I3 := hidP (World.ownsRow.alloc (IntRow.kept I1.out k3.out.2 hg) (.cells #[.int .i64 x] 3))
      clear k3 O1' I1
      go_wp2_with (at_builtin; refine wpList_append_own_at _ rfl (.tmp 24) (.tmp 28) 22 rfl w.heap.size 3 l0 (.int .i64 0) 1 8 Tryd.underlying22 li lz0 lz1 lz2 rfl (by decide) _ zs.length _ rfl I3.out ⟨w3.heap.size, 0, none⟩ 1 1 [.int .i64 x] rfl rfl ?c1 ?c2 ?c3 ?c4 ?c5 ?_)
      case c1 => exact cell_one_new _ _ _
      case c2 => exact one_int _
      case c3 => unfold maxLen; omega
      case c4 => omega
      case c5 => have := O3.out.size; omega
      intro v' w4 hown hgr _ _
      have O4 := hidP (O3.out.app I3.out hgr (Nat.le_refl _) hg)
      have I4 := hidP (intRow_snoc hown)
      have hN : Hid (RoomS w g0 g (p + 1) (k - 1) n v' w4) := ⟨_, by have := hzl'.out; simp; omega, I4.out, by rw [List.length_append]; exact O4.out⟩
      clear hown hgr O3 I3 O4 I4
      go_wp2
      go_roundw
      case rel => exact ⟨k - 1, by go_num, hN⟩
      case measure => simp [intOf]; omega
    · obtain rfl : k = 0 := by omega
      obtain ⟨a, c, rfl⟩ := own_slice hown0
      have hzn : zs.length = n := hzl
      clear hzl hown0 O1 hO hzl'
      have hzn' := hidP hzn
      clear hzn
      go_wp2
      refine kk.out _ _ ?_
      exact case_3 _ _ _ _ _ _ _ _ _ _ _ _ _ _ _ _ _ _ _ _ _ _ _ _ _ _ _ _ _ _ _ _ _ _ _ _ _ _ _ _ _ _ _ _ _ _ _ _ _ _ _ _ _ _ _ _ _ _ _ _ _ _ _ _ _ _ _ _ _ _ _ _ _ _ _ _ _ _ _ _ _ _ _ _ _ _ _ _ _ _ _ _ _ _ _ _ _ _ _ _ _ _ _ _ _ _ _ _ _ _ _ _ _ O1'.out (by omega) hp hg (by have := hzn'.out; omega) (by omega)
set_option maxRecDepth 100000 in
set_option maxHeartbeats 8000000 in
theorem l4Case_any {g0 g p : Nat} {w : World} (hR : Rd w g0 g p) (hp : p ≤ 50000) :
    Calls Tryd.prog 63 #[.pointer (some ⟨g, 0, none⟩)] w (BadPost w g0 g (p + 2000) w.heap.size) := by
  have hg := hR.lt
  go_enter Tryd.func63, Tryd.ntmps63
  refine wp_seq_k fun K hK => ?_
  have kk := hidP hK
  clear hK
  go_wp2
  refine kk.out _ _ ?_
  refine wp_seq_k fun K2 hK2 => ?_
  have kk2 := hidP hK2
  clear hK2
  go_wp2
  refine kk2.out _ _ ?_
  exact case_2 _ _ _ _ _ _ _ _ _ _ _ _ _ _ _ _ _ _ _ _ _ _ _ _ _ _ _ _ _ _ _ _ _ _ _ _ _ _ _ _ _ _ _ _ _ _ _ _ _ _ _ _ _ _ _ _ _ _ _ _ _ _ _ _ _ _ _ _ _ _ _ _ _ _ _ _ _ _ _ _ _ _ _ _ _ _ _ _ _ _ _ _ _ _ _ _ _ _ _ _ _ _ _ _ _ _ _ _ _ _ _ _ _ rfl hR hp hg
end Go.Proofs.YtkkcnkajffbnaaaDoor
