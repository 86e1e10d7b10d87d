/-
  The drawn case of parties: l4Case.
-/
import Derived.Test.YtkkcnkajffbnaaaDoorNA
namespace Go.Proofs.YtkkcnkajffbnaaaDoor
open Go.RowKit
set_option linter.all false

/-- TwoR rows of numbers of our own, apart from each other. -/
structure TwoR (W : World) (g0 g p : Nat) (v u : Value) (zs ys : List Int) (w : World) : Prop where
  on : On W g0 g p w
  a : IntRow W.heap.size v zs w
  b : IntRow W.heap.size u ys w
  ne : v.ownBlock = none ∨ v.ownBlock ≠ u.ownBlock
theorem ne_turn {a b : Option Nat} (h : a = none ∨ a ≠ b) : b = none ∨ b ≠ a := by
  rcases h with rfl | h
  · cases b
    · exact .inl rfl
    · exact .inr (by simp)
  · exact .inr (Ne.symm h)
theorem TwoR.swap {W w : World} {g0 g p : Nat} {v u : Value} {zs ys : List Int} (h : TwoR W g0 g p v u zs ys w) : TwoR W g0 g p u v ys zs w := ⟨h.on, h.b, h.a, ne_turn h.ne⟩
theorem TwoR.alloc {W w : World} {g0 g p : Nat} {v u : Value} {zs ys : List Int} (h : TwoR W g0 g p v u zs ys w) (o : Obj) : TwoR W g0 g p v u zs ys (w.alloc o) := ⟨h.on.alloc o, World.ownsRow.alloc h.a o, World.ownsRow.alloc h.b o, h.ne⟩
theorem TwoR.step {W w w' : World} {g0 g p : Nat} {v u : Value} {zs ys : List Int} (h : TwoR W g0 g p v u zs ys w) (k : RdOn w g0 g p w') (hg : g < W.heap.size) : TwoR W g0 g (p + 1) v u zs ys w' :=
  ⟨h.on.step k, World.ownsRow.kept h.a k.2 (.inr fun e => by have := (World.ownsRow.lt h.a g e).1; omega), World.ownsRow.kept h.b k.2 (.inr fun e => by have := (World.ownsRow.lt h.b g e).1; omega), h.ne⟩
theorem TwoR.appA {W w w' : World} {g0 g p : Nat} {v v' u : Value} {zs ys : List Int} (h : TwoR W g0 g p v u zs ys w) (x : Int) (own : w'.ownsRow W.heap.size 3 1 v' (zs.length + 1) (zs.map (Value.int .i64) ++ [.int .i64 x])) (k : w.grownBy w' v.ownBlock) (hob : v'.ownBlock = v.ownBlock ∨ v'.ownBlock = some w.heap.size) (hg : g < W.heap.size) : TwoR W g0 g p v' u (zs ++ [x]) ys w' := by
  refine ⟨h.on.app h.a k (Nat.le_refl _) hg, ?_, World.ownsRow.kept h.b k (ne_turn h.ne), ?_⟩
  · have : IntRow W.heap.size v' (zs ++ [x]) w' = w'.ownsRow W.heap.size 3 1 v' (zs.length + 1) (zs.map (Value.int .i64) ++ [.int .i64 x]) := by simp [IntRow]
    rw [this]; exact own
  · rcases hob with e | e
    · rw [e]; exact h.ne
    · rw [e]
      exact .inr fun q => by have := (World.ownsRow.lt h.b _ q.symm).2; omega
theorem TwoR.appB {W w w' : World} {g0 g p : Nat} {v u u' : Value} {zs ys : List Int} (h : TwoR W g0 g p v u zs ys w) (x : Int) (own : w'.ownsRow W.heap.size 3 1 u' (ys.length + 1) (ys.map (Value.int .i64) ++ [.int .i64 x])) (k : w.grownBy w' u.ownBlock) (hob : u'.ownBlock = u.ownBlock ∨ u'.ownBlock = some w.heap.size) (hg : g < W.heap.size) : TwoR W g0 g p v u' zs (ys ++ [x]) w' :=
  (h.swap.appA x own k hob hg).swap
theorem TwoR.new {W : World} {g0 g p : Nat} (h : Rd W g0 g p) : TwoR W g0 g p (.slice (some ⟨W.heap.size, 0, none⟩) 0 0) (.slice (some ⟨W.heap.size + 1, 0, none⟩) 0 0) [] [] ((W.alloc (.cells #[] 3)).alloc (.cells #[] 3)) := by
  have e2 := ownsRow_empty (W.alloc (.cells #[] 3)) 3 1
  rw [World.size_alloc] at e2
  exact ⟨⟨(h.alloc _).alloc _, (World.grownBy_alloc _ _ _).trans (World.grownBy_alloc _ _ _)⟩, (ownsRow_empty W 3 1).alloc _, own_less e2 (by omega), .inr (by simp [Value.ownBlock])⟩
theorem addr_add0 (r i : Nat) : (⟨r, 0, none⟩ : Addr).add i = ⟨r, i, none⟩ := by
  simp only [Addr.add]
  split
  · rename_i h; subst h; rfl
  · simp
/-- A row's number. -/
theorem IntRow.at {B : Nat} {v : Value} {zs : List Int} {w : World} (h : IntRow B v zs w) {i : Nat} (hi : i < zs.length) : ∃ r c, v = .slice (some ⟨r, 0, none⟩) zs.length c ∧ w.cell? ⟨r, i, none⟩ = some (.int .i64 zs[i]) := by
  obtain ⟨r, c, e, -, -, hc, -⟩ := own_at h (by omega)
  refine ⟨r, c, e, ?_⟩
  have := hc i (.int .i64 zs[i]) (by simp [List.getElem?_eq_getElem hi])
  rw [addr_add0] at this
  exact this
theorem IntRow.kept {B g : Nat} {v : Value} {zs : List Int} {w w' : World} (h : IntRow B v zs w) (k : w.grownBy w' (some g)) (hg : g < B) : IntRow B v zs w' :=
  World.ownsRow.kept h k (.inr fun e => by have := (World.ownsRow.lt h g e).1; omega)
theorem IntRow.intS {B g : Nat} {v : Value} {zs : List Int} {w : World} (h : IntRow B v zs w) (hg : g < B) (hz : ∀ z ∈ zs, 0 ≤ z ∧ z ≤ 1000) (hl : zs.length ≤ 100) : ∃ a c, v = .slice a zs.length c ∧ IntS w g a zs := by
  obtain ⟨a, c, rfl⟩ := own_slice h
  refine ⟨a, c, rfl, hz, hl, fun hn => ?_⟩
  obtain ⟨r, c', e, hb, hl', hc, -⟩ := own_at h hn
  injection e with e1 e2 e3
  subst e1
  refine ⟨r, rfl, by omega, hl', fun i hi => ?_⟩
  have := hc i (.int .i64 zs[i]) (by simp [List.getElem?_eq_getElem hi])
  rw [addr_add0] at this
  exact this
/-- A further plan. -/
theorem PlansI.snoc {B n : Nat} {v v' vd : Value} {vs : List Value} {W W' : World} {ds : List Dd} (h1 : W.ownsRow B 30 1 v n vs) (h0 : ∀ u ∈ vs, u.oneCell' = true) (h2 : 0 < n → ∃ vd ds, vs[0]? = some vd ∧ W.ownsRow B 47 3 vd ds.length (cellsOf ds) ∧ ds.length ≤ 14 ∧ ∀ d ∈ ds, DrawnD d) (hd : W.ownsRow B 47 3 vd ds.length (cellsOf ds)) (hl : ds.length ≤ 14) (hds : ∀ d ∈ ds, DrawnD d) (own : W'.ownsRow B 30 1 v' (n + 1) (vs ++ [vd])) (k : W.grownBy W' v.ownBlock) : PlansI B v' (n + 1) W' := by
  have hlv : vs.length = n * 1 := h1.1
  refine ⟨_, own, fun u hu => ?_, fun _ => ?_⟩
  · rcases List.mem_append.1 hu with h | h
    · exact h0 u h
    · simp at h; subst h
      obtain ⟨a, c, rfl⟩ := own_slice hd
      rfl
  · by_cases hn : 0 < n
    · obtain ⟨wd, es, e, h3, h4, h5⟩ := h2 hn
      exact ⟨wd, es, by rw [List.getElem?_append_left (by omega)]; exact e, h3.kept k (rows_ne h3 h1 (by decide)), h4, h5⟩
    · obtain rfl : n = 0 := by omega
      have : vs = [] := List.eq_nil_of_length_eq_zero (by omega)
      subst this
      exact ⟨vd, ds, rfl, hd.kept k (rows_ne hd h1 (by decide)), hl, hds⟩
end Go.Proofs.YtkkcnkajffbnaaaDoor
namespace Go.Proofs.YtkkcnkajffbnaaaDoor
open Go.RowKit

/-- Plans that are drawn, seat after seat. -/
def PlS (W : World) (g0 g P n k : Nat) (v : Value) (w : World) : Prop := k ≤ n ∧ ∃ q, q + 310 * (n - k) ≤ P ∧ On W g0 g q w ∧ PlansI W.heap.size v k w
/-- The lines of a seat, up to one. -/
def InS (W : World) (g0 g q l n : Nat) (v u : Value) (w : World) : Prop := l ≤ n ∧ ∃ zs ys, TwoR W g0 g q v u zs ys w ∧ (∀ z ∈ zs, (0 : Int) ≤ z ∧ z ≤ 1000) ∧ (∀ z ∈ ys, (0 : Int) ≤ z ∧ z ≤ 1000) ∧ zs.length ≤ l ∧ ys.length ≤ l
theorem small_snoc {zs : List Int} {x : Int} (h : ∀ z ∈ zs, (0 : Int) ≤ z ∧ z ≤ 1000) (h0 : 0 ≤ x) (h1 : x ≤ 1000) : ∀ z ∈ zs ++ [x], (0 : Int) ≤ z ∧ z ≤ 1000 := fun z hz => by
  rcases List.mem_append.1 hz with h' | h'
  · exact h z h'
  · simp at h'; subst h'; exact ⟨h0, h1⟩
theorem one_int (x : Int) : ∀ u ∈ [Value.int .i64 x], u.oneCell' = true := by
  intro u hu; simp at hu; subst hu; rfl

set_option maxRecDepth 100000 in
set_option maxHeartbeats 8000000 in
theorem case_6 {w W : World} {g0 g p q n5 c5 n7 : Nat} {a5 : Option Addr} {v8 v9 : Value} {zs8 zs9 : List Int} (x1 x2 x3 x4 x6 x10 x11 x12 x13 x14 x15 x16 x17 x18 x19 x20 x21 x22 x23 x24 x25 x26 x27 x28 x29 x30 x31 x32 x33 x34 x35 x36 x37 x38 x39 x40 x41 x42 x43 x44 x45 x46 x47 x48 x49 x50 x51 x52 x53 x54 x55 x56 x57 x58 x59 x60 x61 x62 x63 x64 x65 x66 x67 x68 x69 x70 x71 x72 x73 x74 x75 x76 x77 x78 x79 x80 x81 x82 x83 x84 x85 x86 x87 x88 x89 x90 x91 x92 x93 x94 x95 x96 x97 x98 x99 x100 x101 x102 x103 x104 x105 x106 x107 x108 x109 x110 x111 x112 x113 x114 : Value) (O : On w g0 g q W) (hq : q ≤ p + 100) (hp : p ≤ 50000) (hg : g < w.heap.size) (I8 : IntRow w.heap.size v8 zs8 W) (I9 : IntRow w.heap.size v9 zs9 W) (h8 : zs8.length = n5) (h9 : zs9.length = n5) (h5 : 1 ≤ n5) (h5b : n5 ≤ 3) (h7 : 1 ≤ n7) (h7b : n7 ≤ 3) :
    (tlC 6 (bdC Tryd.f63)).wp Tryd.prog (bodyPost Tryd.prog Tryd.f63 (BadPost w g0 g (p + 2000) w.heap.size)) ⟨#[.pointer (some ⟨g, 0, none⟩), x1, x2, x3, x4, .slice a5 n5 c5, x6, .int .i64 (n7 : Int), v8, v9, x10, x11, x12, x13, x14, x15, x16, x17, x18, x19, x20, x21, x22, x23, x24, x25, x26, x27, x28, x29, x30, x31, x32, x33, x34, x35, x36, x37, x38, x39, x40, x41, x42, x43, x44, x45, x46, x47, x48, x49, x50, x51, x52, x53, x54, x55, x56, x57, x58, x59, x60, x61, x62, x63, x64, x65, x66, x67, x68, x69, x70, x71, x72, x73, x74, x75, x76, x77, x78, x79, x80, x81, x82, x83, x84, x85, x86, x87, x88, x89, x90, x91, x92, x93, x94, x95, x96, x97, x98, x99, x100, x101, x102, x103, x104, x105, x106, x107, x108, x109, x110, x111, x112, x113, x114], []⟩ W := by
  obtain ⟨i0, hi, hz0, hz1, hz2⟩ := info_parts Tryd.info30
  obtain ⟨l0, li, lz0, lz1, lz2⟩ := info_parts Tryd.info3n
  obtain ⟨r8, c8, rfl, -⟩ := own_at I8 (by omega)
  obtain ⟨r9, c9, rfl, -⟩ := own_at I9 (by omega)
  have I8' := hidP I8
  have I9' := hidP I9
  have OW := hidP O
  clear I8 I9 O
  have hgW : g < W.heap.size := OW.out.1.lt
  have hwW := OW.out.size
  have hg' : g < w.heap.size := hg
  have hlen : ∀ l : Nat, l < n5 → l < zs8.length ∧ l < zs9.length := fun l h => ⟨by omega, by omega⟩
  have h9a : 0 < zs9.length ∧ zs9.length ≤ 100 := ⟨by omega, by omega⟩
  clear h8 h9
  generalize hQ : bodyPost Tryd.prog Tryd.f63 (BadPost w g0 g (p + 2000) w.heap.size) = Q
  simp only [tlC, bdC, Tryd.f63]
  subst hQ
  go_wp2
  have hI : Hid (PlS W g0 g (q + 310 * n7) n7 0 (.slice (some ⟨W.heap.size, 0, none⟩) 0 0) (W.alloc (.cells #[] 30))) :=
    ⟨by omega, q, by omega, ⟨OW.out.1.alloc _, World.grownBy_alloc _ _ _⟩, [], ownsRow_empty W 30 1, by simp, fun h => absurd h (by omega)⟩
  go_loopw [11, 12] (fun v i wr => ∃ k : Nat, i = .int .i64 k ∧ Hid (PlS W g0 g (q + 310 * n7) n7 k v wr)) (fun _ i _ => n7 - (intOf i).toNat)
  case atStart => exact ⟨0, rfl, hI⟩
  case round =>
    clear hI
    obtain ⟨k, rfl, hO⟩ := hrel
    obtain ⟨v, rfl⟩ : ∃ y, y = u11 := ⟨u11, rfl⟩
    obtain ⟨wo, rfl⟩ : ∃ y, y = wr := ⟨wr, rfl⟩
    obtain ⟨hk, q1, hq1, O1, P1⟩ := hO.out
    have O1' := hidP O1
    have P1' := hidP P1
    by_cases h0 : k < n7
    · have h0' : (k : Int) < (n7 : Int) := by omega
      have hI : Hid (InS wo g0 g q1 0 n5 (.slice (some ⟨wo.heap.size, 0, none⟩) 0 0) (.slice (some ⟨wo.heap.size + 1, 0, none⟩) 0 0) ((wo.alloc (.cells #[] 3)).alloc (.cells #[] 3))) :=
        ⟨by omega, [], [], .new O1.1, by simp, by simp, by simp, by simp⟩
      clear O1 P1 hO
      have hgo : g < wo.heap.size := O1'.out.1.lt
      have hWo := O1'.out.size
      go_wp2
      go_loopw [13, 14, 15] (fun v u i wr => ∃ l : Nat, i = .int .i64 ((l : Int) + 1) ∧ Hid (InS wo g0 g q1 l n5 v u wr)) (fun _ _ i _ => n5 + 1 - (intOf i).toNat)
      case atStart => exact ⟨0, rfl, hI⟩
      case round =>
        clear hI
        obtain ⟨l, rfl, hO⟩ := hrel
        obtain ⟨s, rfl⟩ : ∃ y, y = u13 := ⟨u13, rfl⟩
        obtain ⟨t, rfl⟩ : ∃ y, y = u14 := ⟨u14, rfl⟩
        obtain ⟨wx, rfl⟩ : ∃ y, y = wr := ⟨wr, rfl⟩
        obtain ⟨hl, zs, ys, T, hz, hy, hzl, hyl⟩ := hO.out
        have OW2 := (T.on.from (OW.out.2.trans O1'.out.2))
        by_cases h1 : l < n5
        · have h1' : (l : Int) + 1 ≤ (n5 : Int) := by omega
          have hj8 := (hlen l h1).1
          have hj9 := (hlen l h1).2
          obtain ⟨r, c, e, hc8⟩ := (I8'.out.kept (O1'.out.2.trans T.on.2) hg').at (i := l) (hlen l h1).1
          cases e
          obtain ⟨r, c, e, hc9⟩ := (I9'.out.kept (O1'.out.2.trans T.on.2) hg').at (i := l) (hlen l h1).2
          cases e
          have T' := hidP T
          clear T OW2 hO
          generalize zs8[l] = z8 at *
          generalize hz9 : zs9[l] = z9 at *
          have hi8 : (l : Int) < (zs8.length : Int) := by have := (hlen l h1).1; omega
          have hi9 : (l : Int) < (zs9.length : Int) := by have := (hlen l h1).2; omega
          have q : ((z8 = (k : Int)) ∨ ¬ z8 = (k : Int)) ∧ ((z9 = (k : Int)) ∨ ¬ z9 = (k : Int)) := ⟨Classical.em _, Classical.em _⟩
          rcases q with ⟨q8 | q8, q9 | q9⟩
          · have e8 : (z8 == (k : Int)) = true := by simpa using q8
            have e9 : (z9 == (k : Int)) = true := by simpa using q9
            clear q8 q9
            have T1 := hidP (T'.out.alloc (.cells #[.int .i64 ((l : Int) + 1)] 3))
            clear T'
            go_wp2_with (at_builtin; refine wpList_append_own_at _ rfl (.tmp 83) (.tmp 85) 22 rfl wo.heap.size 3 l0 (.int .i64 0) 1 8 Tryd.underlying22 li lz0 lz1 lz2 rfl (by decide) _ zs.length _ rfl T1.out.a ⟨wx.heap.size, 0, none⟩ 1 1 [.int .i64 ((l : Int) + 1)] rfl rfl ?c1 ?c2 ?c3 ?c4 ?c5 ?_)
            case c1 => exact cell_one_new _ _ _
            case c2 => exact one_int _
            case c3 => unfold maxLen; omega
            case c4 => omega
            case c5 => have := T1.out.on.size; omega
            intro s' w4 hown hgr _ hob
            have T2 := hidP (T1.out.appA _ hown hgr (by simpa using hob) hgo)
            clear hown hgr hob T1 hc8
            have hc9' : w4.cell? ⟨r9, l, none⟩ = some (.int .i64 z9) := by
              obtain ⟨r, c, e, hc⟩ := (I9'.out.kept (T2.out.on.from O1'.out.2).2 hg').at (i := l) (hlen l h1).2
              cases e
              rw [hz9] at hc
              exact hc
            clear hc9
            have T3 := hidP (T2.out.alloc (.cells #[.int .i64 ((l : Int) + 1)] 3))
            clear T2
            go_wp2_with (at_builtin; refine wpList_append_own_at _ rfl (.tmp 94) (.tmp 96) 22 rfl wo.heap.size 3 l0 (.int .i64 0) 1 8 Tryd.underlying22 li lz0 lz1 lz2 rfl (by decide) _ ys.length _ rfl T3.out.b ⟨w4.heap.size, 0, none⟩ 1 1 [.int .i64 ((l : Int) + 1)] rfl rfl ?c1 ?c2 ?c3 ?c4 ?c5 ?_)
            case c1 => exact cell_one_new _ _ _
            case c2 => exact one_int _
            case c3 => unfold maxLen; omega
            case c4 => omega
            case c5 => have := T3.out.on.size; omega
            intro t' w5 hown hgr _ hob
            have T4 := hidP (T3.out.appB _ hown hgr (by simpa using hob) hgo)
            clear hown hgr hob T3
            go_wp2
            go_roundw
            case rel => exact ⟨l + 1, by go_num, ⟨by omega, _, _, T4.out, small_snoc hz (by omega) (by omega), small_snoc hy (by omega) (by omega), by simp; omega, by simp; omega⟩⟩
            case measure => simp [intOf]; omega
          · have e8 : (z8 == (k : Int)) = true := by simpa using q8
            have e9 : (z9 == (k : Int)) = false := by simpa using q9
            clear q8 q9
            have T1 := hidP (T'.out.alloc (.cells #[.int .i64 ((l : Int) + 1)] 3))
            clear T'
            go_wp2_with (at_builtin; refine wpList_append_own_at _ rfl (.tmp 83) (.tmp 85) 22 rfl wo.heap.size 3 l0 (.int .i64 0) 1 8 Tryd.underlying22 li lz0 lz1 lz2 rfl (by decide) _ zs.length _ rfl T1.out.a ⟨wx.heap.size, 0, none⟩ 1 1 [.int .i64 ((l : Int) + 1)] rfl rfl ?c1 ?c2 ?c3 ?c4 ?c5 ?_)
            case c1 => exact cell_one_new _ _ _
            case c2 => exact one_int _
            case c3 => unfold maxLen; omega
            case c4 => omega
            case c5 => have := T1.out.on.size; omega
            intro s' w4 hown hgr _ hob
            have T2 := hidP (T1.out.appA _ hown hgr (by simpa using hob) hgo)
            clear hown hgr hob T1 hc8
            have hc9' : w4.cell? ⟨r9, l, none⟩ = some (.int .i64 z9) := by
              obtain ⟨r, c, e, hc⟩ := (I9'.out.kept (T2.out.on.from O1'.out.2).2 hg').at (i := l) (hlen l h1).2
              cases e
              rw [hz9] at hc
              exact hc
            clear hc9
            go_wp2
            go_roundw
            case rel => exact ⟨l + 1, by go_num, ⟨by omega, _, _, T2.out, small_snoc hz (by omega) (by omega), hy, by simp; omega, by omega⟩⟩
            case measure => simp [intOf]; omega
          · have e8 : (z8 == (k : Int)) = false := by simpa using q8
            have e9 : (z9 == (k : Int)) = true := by simpa using q9
            clear q8 q9
            have T3 := hidP (T'.out.alloc (.cells #[.int .i64 ((l : Int) + 1)] 3))
            clear T'
            go_wp2_with (at_builtin; refine wpList_append_own_at _ rfl (.tmp 94) (.tmp 96) 22 rfl wo.heap.size 3 l0 (.int .i64 0) 1 8 Tryd.underlying22 li lz0 lz1 lz2 rfl (by decide) _ ys.length _ rfl T3.out.b ⟨wx.heap.size, 0, none⟩ 1 1 [.int .i64 ((l : Int) + 1)] rfl rfl ?c1 ?c2 ?c3 ?c4 ?c5 ?_)
            case c1 => exact cell_one_new _ _ _
            case c2 => exact one_int _
            case c3 => unfold maxLen; omega
            case c4 => omega
            case c5 => have := T3.out.on.size; omega
            intro t' w5 hown hgr _ hob
            have T4 := hidP (T3.out.appB _ hown hgr (by simpa using hob) hgo)
            clear hown hgr hob T3
            go_wp2
            go_roundw
            case rel => exact ⟨l + 1, by go_num, ⟨by omega, _, _, T4.out, hz, small_snoc hy (by omega) (by omega), by omega, by simp; omega⟩⟩
            case measure => simp [intOf]; omega
          · have e8 : (z8 == (k : Int)) = false := by simpa using q8
            have e9 : (z9 == (k : Int)) = false := by simpa using q9
            clear q8 q9
            go_wp2
            go_roundw
            case rel => exact ⟨l + 1, by go_num, ⟨by omega, _, _, T'.out, hz, hy, by omega, by omega⟩⟩
            case measure => simp [intOf]; omega
        · have hl5 : n5 = l := by omega
          have h1' : ¬ (l : Int) + 1 ≤ (n5 : Int) := by omega
          clear hl5 h1
          obtain ⟨b1, cs, rfl, IS⟩ := T.a.intS hgo hz (by omega)
          obtain ⟨b2, ct, rfl, IT⟩ := T.b.intS hgo hy (by omega)
          have P2 := hidP (P1'.out.kept T.on.2 hgW)
          have O2 := hidP (T.on.from O1'.out.2)
          have hl4 := hidP (l4Plan_any (n := n5) (c1 := cs) (c2 := ct) T.on.1 (by omega) IS IT (by omega))
          clear T IS IT hO OW2
          go_wp2_with fail
          refine hl4.out.mono ?_
          rintro e w3 ⟨vd, ds, p3, rfl, hd1, hd2, hd3, hp3, hR3, hg3⟩
          obtain ⟨ad, cd, rfl⟩ := own_slice hd3
          have O3 := hidP ((show On W g0 g p3 w3 from ⟨hR3, O2.out.2.trans hg3⟩).alloc (.cells #[.slice ad ds.length cd] 30))
          have s3 := hg3.size
          have s2 := O2.out.size
          obtain ⟨vs, f1, f0, f2⟩ := (P2.out.kept hg3 hgW).alloc (.cells #[.slice ad ds.length cd] 30)
          have d3 := hidP (own_less (hd3.alloc (.cells #[.slice ad ds.length cd] 30)) s2)
          have f1' := hidP f1
          have f2' := hidP f2
          clear f1 f2 hd3 hR3 hg3 P2 O2 hl4
          go_wp2_with (at_builtin; refine wpList_append_own_at _ rfl (.tmp 98) (.tmp 105) 84 rfl W.heap.size 30 i0 (.slice none 0 0) 1 24 Tryd.underlying84 hi hz0 hz1 hz2 rfl (by decide) _ k _ rfl f1'.out ⟨w3.heap.size, 0, none⟩ 1 1 [.slice ad ds.length cd] rfl rfl ?c1 ?c2 ?c3 ?c4 ?c5 ?_)
          case c1 => exact cell_one_new _ _ _
          case c2 => intro u hu; simp at hu; subst hu; rfl
          case c3 => unfold maxLen; omega
          case c4 => omega
          case c5 => simp; omega
          intro v' w4 hown hgr _ _
          have hP4 : Hid (PlS W g0 g (q + 310 * n7) n7 (k + 1) v' w4) :=
            ⟨by omega, p3, by omega, O3.out.app f1'.out hgr (Nat.le_refl _) hgW, .snoc f1'.out f0 f2'.out d3.out hd1 hd2 hown hgr⟩
          clear hown hgr f1' f2' d3 O3
          go_wp2
          go_roundw
          case rel => exact ⟨k + 1, by go_num, hP4⟩
          case measure => simp [intOf]; omega
    · have h0' : ¬ (k : Int) < (n7 : Int) := by omega
      obtain rfl : k = n7 := by omega
      have O2 := hidP (O1.from OW.out.2)
      have I2 := hidP (I9'.out.kept O1.2 hg')
      clear O1 P1 hO
      go_wp2_with fail
      refine (l4Bad_any O2.out (by omega) hg (Nat.le_refl _) hwW I2.out h9a.1 h9a.2 P1'.out (by omega) (by omega)).mono ?_
      rintro e w' ⟨a1, n1, c1, x, v3, n3, p', rfl, k1, k2, k3, k4⟩
      go_wp2
      go_ret3
      exact ⟨_, _, _, _, _, _, _, rfl, k1, k2, by omega, k4⟩
end Go.Proofs.YtkkcnkajffbnaaaDoor
