/-
  A drawn list of deeds of single lines.
-/
import Derived.Test.YtkkcnkajffbnaaaDoorN4
import Derived.Maps.AppendAt
namespace Go.Proofs.YtkkcnkajffbnaaaDoor
open Go.RowKit
set_option linter.all false

/-- Deeds that are drawn into a row of our own: k more may come. -/
def DeedsI (w : World) (g0 g P k : Nat) (v : Value) (wr : World) : Prop :=
  ∃ (p' : Nat) (ds : List Dd), k + ds.length ≤ 14 ∧ p' + 20 * k ≤ P ∧ (∀ d ∈ ds, DrawnD d) ∧ Rd wr g0 g p' ∧ wr.ownsRow w.heap.size 47 3 v ds.length (cellsOf ds) ∧ w.grownBy wr (some g)
/-- The same while a deed is at hand, in a variable of its own. -/
structure DeedAt (w : World) (g0 g P k x : Nat) (v : Value) (ds : List Dd) (d : Dd) (wr : World) : Prop where
  box : wr.heap[x]? = some (.cells d.cells.toArray 47 (0, 0))
  len : k + 1 + ds.length ≤ 14
  ok : DrawnD d
  oks : ∀ d ∈ ds, DrawnD d
  rd : ∃ p', p' + 20 * k ≤ P ∧ Rd wr g0 g p'
  own : wr.ownsRow w.heap.size 47 3 v ds.length (cellsOf ds)
  grown : w.grownBy wr (some g)
  lx : w.heap.size ≤ x
  ne : v.ownBlock ≠ some x
/-- What a drawn list comes to. -/
def ListPost (g0 g p : Nat) (w : World) (e : Ending) (w' : World) : Prop :=
  ∃ (v : Value) (ds : List Dd) (p' : Nat), e = .returned v ∧ ds.length ≤ 14 ∧ (∀ d ∈ ds, DrawnD d) ∧ w'.ownsRow w.heap.size 47 3 v ds.length (cellsOf ds) ∧ p' ≤ p ∧ Rd w' g0 g p' ∧ w.grownBy w' (some g)
theorem DeedAt.facts {w wr : World} {g0 g P k x : Nat} {v : Value} {ds : List Dd} {d : Dd} (h : DeedAt w g0 g P k x v ds d wr) : (wr.cell? ⟨x, 0, none⟩ = some (.string ⟨d.act.toArray⟩) ∧ wr.cell? ⟨x, 1, none⟩ = some (.int .i64 d.line) ∧ wr.cell? ⟨x, 2, none⟩ = some (.int .i64 d.word)) ∧ (wr.frozen? ⟨x, 0, none⟩ = false ∧ wr.frozen? ⟨x, 1, none⟩ = false ∧ wr.frozen? ⟨x, 2, none⟩ = false) :=
  ⟨⟨by rw [blk_cell h.box]; rfl, by rw [blk_cell h.box]; rfl, by rw [blk_cell h.box]; rfl⟩, blk_frozen h.box, blk_frozen h.box, blk_frozen h.box⟩
theorem DeedAt.rdOn {w wr w' : World} {g0 g P k x : Nat} {v : Value} {ds : List Dd} {d : Dd} (h : DeedAt w g0 g P k x v ds d wr) (hg : g < w.heap.size) (hr : wr.grownBy w' (some g)) (hp : ∃ q, q + 20 * k ≤ P ∧ Rd w' g0 g q) : DeedAt w g0 g P k x v ds d w' :=
  have h1 := h.lx
  ⟨(hr.block x (Array.getElem?_eq_some_iff.1 h.box).1 (by simp; omega)).trans h.box, h.len, h.ok, h.oks, hp, h.own.kept hr (.inr fun e => by have := (h.own.lt g e).1; omega), h.grown.trans hr, h.lx, h.ne⟩
theorem DeedAt.alloc {w wr : World} {g0 g P k x : Nat} {v : Value} {ds : List Dd} {d : Dd} (h : DeedAt w g0 g P k x v ds d wr) (o : Obj) : DeedAt w g0 g P k x v ds d (wr.alloc o) :=
  have ⟨q, hq, hr⟩ := h.rd
  ⟨((World.grownBy_alloc wr o none).block x (Array.getElem?_eq_some_iff.1 h.box).1 (by simp)).trans h.box, h.len, h.ok, h.oks, ⟨q, hq, hr.alloc o⟩, h.own.alloc o, h.grown.trans (World.grownBy_alloc _ _ _), h.lx, h.ne⟩
theorem DeedAt.more {w wr : World} {g0 g P P' k x : Nat} {v : Value} {ds : List Dd} {d : Dd} (h : DeedAt w g0 g P k x v ds d wr) (hP : P ≤ P') : DeedAt w g0 g P' k x v ds d wr :=
  have ⟨q, hq, hr⟩ := h.rd
  ⟨h.box, h.len, h.ok, h.oks, ⟨q, by omega, hr⟩, h.own, h.grown, h.lx, h.ne⟩
/-- The variable gets another deed. -/
theorem DeedAt.put {w wr : World} {g0 g P k x : Nat} {v : Value} {ds : List Dd} {d : Dd} (h : DeedAt w g0 g P k x v ds d wr) (hg0 : g0 ≤ g) (hg : g < w.heap.size) (e : Dd) (he : DrawnD e) : DeedAt w g0 g P k x v ds e (((wr.setCell ⟨x, 0, none⟩ (.string ⟨e.act.toArray⟩)).setCell ⟨x, 1, none⟩ (.int .i64 e.line)).setCell ⟨x, 2, none⟩ (.int .i64 e.word)) := by
  have h1 := h.lx
  have key : ∀ {W : World} (j : Nat) (u : Value), ((∃ q, q + 20 * k ≤ P ∧ Rd W g0 g q) ∧ W.ownsRow w.heap.size 47 3 v ds.length (cellsOf ds) ∧ w.grownBy W (some g)) → (∃ q, q + 20 * k ≤ P ∧ Rd (W.setCell ⟨x, j, none⟩ u) g0 g q) ∧ (W.setCell ⟨x, j, none⟩ u).ownsRow w.heap.size 47 3 v ds.length (cellsOf ds) ∧ w.grownBy (W.setCell ⟨x, j, none⟩ u) (some g) := by
    rintro W j u ⟨⟨q, hq, hr⟩, ho, hb⟩
    exact ⟨⟨q, hq, hr.kept (grownBy_setCell_off W x j u) (fun r e => by injection e with e; subst e; exact ⟨by omega, by omega⟩) hr.lt⟩, ho.kept (grownBy_setCell_off W x j u) (.inr h.ne), grownBy_set_new hb h1 u⟩
  obtain ⟨k1, k2, k3⟩ := key 2 (.int .i64 e.word) (key 1 (.int .i64 e.line) (key 0 (.string ⟨e.act.toArray⟩) ⟨h.rd, h.own, h.grown⟩))
  exact ⟨blk_set (blk_set (blk_set h.box _) _) _, h.len, he, h.oks, k1, k2, k3, h1, h.ne⟩

set_option maxRecDepth 100000 in
set_option maxHeartbeats 4000000 in
theorem l1List_any {g0 g p : Nat} {n : Int} {w : World} (hR : Rd w g0 g p) (hp : p ≤ 100000) (hn : 0 ≤ n) (hn2 : n ≤ 1000) :
    Calls Tryd.prog 62 #[.pointer (some ⟨g, 0, none⟩), .int .i64 n] w (ListPost g0 g (p + 301) w) := by
  obtain ⟨i0, hi, hz0, hz1, hz2⟩ := info_parts Tryd.info47
  have hlt := hR.lt
  have hg0 := hR.le
  go_enter Tryd.func62, Tryd.ntmps62
  go_wp2_with fail
  refine (pick_new (hR.alloc _) (by omega) (by omega)).mono ?_
  rintro e w1 ⟨k0, rfl, hx, h1⟩
  have hk0 : k0 ≤ 13 := by omega
  have z1 : w.heap.size + 1 ≤ w1.heap.size := by have := h1.out.2.size; rw [World.size_alloc] at this; exact this
  have hI : Hid (DeedsI w g0 g (p + 301) k0 (.slice (some ⟨w.heap.size, 0, none⟩) 0 0) w1) :=
    ⟨p + 1, [], by simp; omega, by omega, by simp, h1.out.1, (ownsRow_empty w 47 3).kept h1.out.2 (.inr (by simp [Value.ownBlock]; omega)), (World.grownBy_alloc w _ _).trans h1.out.2⟩
  clear h1 hx
  go_wp2
  go_loopw [5, 6] (fun v i wr => ∃ k : Nat, i = .int .i64 k ∧ Hid (DeedsI w g0 g (p + 301) k v wr)) (fun _ i _ => (intOf i).toNat)
  case atStart => exact ⟨k0, rfl, hI⟩
  case round =>
    obtain ⟨k, rfl, hO⟩ := hrel
    by_cases h0 : 0 < k
    · have h0' : (0 : Int) < (k : Int) := by omega
      obtain ⟨wo, rfl⟩ : ∃ y, y = wr := ⟨wr, rfl⟩
      obtain ⟨v, rfl⟩ : ∃ y, y = u5 := ⟨u5, rfl⟩
      obtain ⟨p', ds, q1, q2, q3, q4, q5, q6⟩ := hO.out
      go_wp2_with fail
      refine (l1One_any q4 (by omega) hn hn2).mono ?_
      rintro e w2 ⟨d, p2, rfl, hd, hp2, hR2, hg2⟩
      have hlx := q5.lt
      have s2 := hg2.size
      have s6 := q6.size
      have D0 : Hid (DeedAt w g0 g (p + 300) (k - 1) w2.heap.size v ds d (w2.alloc (.cells d.cells.toArray 47))) :=
        ⟨heap_alloc_new _ _, by omega, hd, q3, ⟨p2, by omega, hR2.alloc _⟩, (q5.kept hg2 (.inr fun e => by have := (q5.lt g e).1; omega)).alloc _, (q6.trans hg2).trans (World.grownBy_alloc _ _ _), by omega, fun e => by have := (q5.lt _ e).2; omega⟩
      clear hd hR2 hg2 q5 q6 q4 q3 hO hI hlx
      unfold deedV
      go_wp2_with fail
      rename_i K4 hK4 K3 hK3 K2 hK2 K1 hK1 K0 hK0
      have L : ∀ (X : Nat) (x13 x14 x15 x16 x17 x18 x19 x20 x21 x22 x23 x24 x25 x26 x27 x28 x29 x30 x31 : Value) (d : Dd) (w' : World), DeedAt w g0 g (p + 301) (k - 1) X v ds d w' → K2 ⟨#[.pointer (some ⟨g, 0, none⟩), .int .i64 n, undef, undef, .slice none 0 0, v, .int .i64 k, .pointer (some ⟨X, 0, none⟩), .slice (some ⟨w.heap.size, 0, none⟩) 0 0, .pointer (some ⟨g, 0, none⟩), .int .i64 k0, .int .i64 k, .bool true, x13, x14, x15, x16, x17, x18, x19, x20, x21, x22, x23, x24, x25, x26, x27, x28, x29, x30, x31, undef], []⟩ w' := by
        intro X x13 x14 x15 x16 x17 x18 x19 x20 x21 x22 x23 x24 x25 x26 x27 x28 x29 x30 x31 d w' D
        clear D0
        obtain ⟨⟨f0, f1, f2⟩, y0, y1, y2⟩ := D.facts
        have hown := D.own.alloc (.cells d.cells.toArray 47)
        have hl := D.len
        have hs3 := D.grown.size
        apply hK2
        go_wp2_with (at_builtin; refine wpList_append_own_at _ rfl (.tmp 28) (.tmp 30) 30 rfl w.heap.size 47 i0 (.agg #[.string ⟨#[]⟩, .int .i64 0, .int .i64 0]) 3 32 Tryd.underlying30 hi hz0 hz1 hz2 rfl (by decide) _ ds.length _ rfl hown ⟨w'.heap.size, 0, none⟩ 1 1 d.cells rfl rfl ?c1 ?c2 ?c3 ?c4 ?c5 ?_)
        case c1 => exact cell_three_new _ _ _
        case c2 => exact three_one d
        case c3 => unfold maxLen; omega
        case c4 => omega
        case c5 => simp; omega
        intro v' w4 hown4 hgr4 _ hob
        have hlt4 := hown.lt
        have hI4 : Hid (DeedsI w g0 g (p + 301) (k - 1) v' w4) := by
          obtain ⟨p3, hp3, hR3⟩ := D.rd
          have hs3 := D.grown.size
          refine ⟨p3, ds ++ [d], by simp; omega, by omega, fun y hy => ?_, (hR3.alloc _).kept hgr4 (fun r e => ?_) (by have := hR3.lt; simp; omega), by rw [List.length_append, cellsOf_snoc]; exact hown4, grown_on (D.grown.trans (World.grownBy_alloc w' _ _)) hgr4 fun r e => .inr (by have := (hlt4 r e).1; omega)⟩
          · rcases List.mem_append.1 hy with h | h
            · exact D.oks y h
            · simp at h; subst h; exact D.ok
          · have := (hlt4 r e).1; omega
        clear hown4 hgr4 hob hown hlt4
        go_wp2
        go_roundw
        case rel => exact ⟨k - 1, by go_num, hI4⟩
        case measure => simp [intOf]; omega
      have kk := hidP L
      clear L hK2
      refine (l1Deed_any d n _).mono ?_
      rintro e w3 ⟨b, rfl, rfl⟩
      have D1 : DeedAt w g0 g (p + 300) (k - 1) w2.heap.size v ds d ((w2.alloc (.cells #[.string ⟨d.act.toArray⟩, .int .i64 d.line, .int .i64 d.word] 47)).alloc (.cells d.cells.toArray 47)) := D0.out.alloc (.cells d.cells.toArray 47)
      clear D0
      revert D1
      generalize ((w2.alloc (.cells #[.string ⟨d.act.toArray⟩, .int .i64 d.line, .int .i64 d.word] 47)).alloc (.cells d.cells.toArray 47)) = w3
      generalize w2.heap.size = X
      intro D1
      obtain ⟨⟨f0, f1, f2⟩, y0, y1, y2⟩ := D1.facts
      cases b
      · go_wp2_with fail
        obtain ⟨q, hq, hr⟩ := D1.rd
        refine (pick_new hr (by omega) (by omega)).mono ?_
        rintro e w4 ⟨y, rfl, hy, h4⟩
        have D2 : DeedAt w g0 g (p + 301) (k - 1) X v ds d w4 := (D1.more (by omega)).rdOn hlt h4.out.2 ⟨q + 1, by omega, h4.out.1⟩
        obtain ⟨⟨e0, e1, e2⟩, z0, z1, z2⟩ := D2.facts
        by_cases hy0 : (0 : Int) < (y : Int)
        · go_wp2_with fail
          refine kk.out _ _ _ _ _ _ _ _ _ _ _ _ _ _ _ _ _ _ _ _ ⟨[116, 97, 107, 101], 1, 0⟩ _ ?_
          exact D2.put hg0 hlt ⟨[116, 97, 107, 101], 1, 0⟩ ⟨by decide, by decide, by decide, by decide, by decide, by decide, by decide⟩
        · go_wp2_with fail
          exact kk.out _ _ _ _ _ _ _ _ _ _ _ _ _ _ _ _ _ _ _ _ _ _ D2
      · go_wp2_with fail
        exact kk.out _ _ _ _ _ _ _ _ _ _ _ _ _ _ _ _ _ _ _ _ _ _ (D1.more (by omega))
    · obtain rfl : k = 0 := by omega
      obtain ⟨p', ds, q1, q2, q3, q4, q5, q6⟩ := hO.out
      go_wp2
      go_ret
      exact ⟨_, ds, p', rfl, by omega, q3, q5, by omega, q4, q6⟩
end Go.Proofs.YtkkcnkajffbnaaaDoor
