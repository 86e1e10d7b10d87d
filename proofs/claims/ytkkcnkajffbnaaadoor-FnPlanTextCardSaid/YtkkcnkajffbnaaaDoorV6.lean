/-
  strings.SplitSeq: an iterator that stores into the box of a variable that it has captured: a contract of its own (the caller's invariant abides that store), the law for its caller (the kit's fourth law, turned to that contract), and the contract of SplitSeq with a separator of one byte.
-/
import Derived.Test.YtkkcnkajffbnaaaDoorV5
import Derived.RangeFuncFrom
import Derived.RangeFuncBox
import Derived.RangeFuncBound
import Derived.RangeFuncLeaves
import Derived.Shelf.Abstract
import Derived.Shelf.RegionOpen
import Derived.WalkKit
import Derived.OwnWalkIn
import Derived.TacticsInMore
import Derived.LoopNIn
import Derived.LoopIn
namespace Go.Proofs.YtkkcnkajffbnaaaDoor
open Go.RowKit Go.Shelf

/-- THE ITERATOR's CONTRACT: J abides, too, a store into the iterator's own box. -/
def SeqStopsS {α : Type} (F : Fence) (n : Nat) (P : Program) (g : Nat) (lb : Array Value) (encs : α → Array Value) (box : Nat) (Kp : World → World → Prop) (S Sp : List α → Prop) (N : List α → α → Prop) (w : World) : Prop :=
  ∀ (l : Nat) (J Jx : List α → World → Prop) (W : World), Below w.heap.size w W → AbidesFrom W.heap.size J → AbidesFrom W.heap.size Jx → (∀ s W v, J s W → J s (W.setCell ⟨box, 0, none⟩ v)) →
    (∀ pre x W1, J pre W1 → N pre x → YieldAt F (n - 1) P l (encs x) W1 fun e W' =>
      (e = .returned (.bool true) ∧ J (pre ++ [x]) W' ∧ Kp W1 W') ∨ (e = .returned (.bool false) ∧ Jx (pre ++ [x]) W')) →
    J [] W →
    CallsIn F n P g (#[.func (.yield l) #[] #[]] ++ lb) W fun e W' => (∃ v, e = .returned v) ∧ ((∃ xs, S xs ∧ J xs W') ∨ (∃ pre, Sp pre ∧ Jx pre W'))

section
variable {F : Fence} {n : Nat} {P : Program}
/-- THE LAW FOR ITS CALLER. -/
theorem wpIn_rangeFunc_ownS {α : Type} {g : Operand} {ps : Array Tmp} {assign body : Code} {Q : Exit → Act → World → Prop} {a : Act} {w : World}
    (hro : F.round = none) (h1 : 1 ≤ n) {gf : Nat} {lb : Array Value} (hg : a.eval g = .func (.func gf) #[] lb) (hFg : F.fn gf) (eg : ∀ args w, (callFunc gf args).run P w = .ok (.enter gf args) w)
    {encs : α → Array Value} {box : Nat} {Kp : World → World → Prop} {S Sp : List α → Prop} {N : List α → α → Prop} {w0 : World} (hseq : SeqStopsS F (n - 1) P gf lb encs box Kp S Sp N w0)
    (hKt : ∀ {A B C : World}, Kp A B → Kp B C → Kp A C) (hKb : ∀ (W : World) (l : Nat) (o o' : Obj), w.heap.size ≤ l → W.heap[l]? = some o → o.isCells = false → o.isWalk = false → Kp W (W.putObj l o')) (hb0 : Below w0.heap.size w0 w) (hps : ∀ x, (encs x).size = ps.size)
    (I : List α → World → Prop) (Ix : Code → List α → World → Prop) (hI : OwnFrom w.heap.size I) (hIs : ∀ s W v, I s W → I s (W.setCell ⟨box, 0, none⟩ v)) (hIx : ∀ c, OwnFrom w.heap.size (Ix c)) (h0 : I [] w) (a₁ : α → Act)
    (hassign : ∀ (l : Nat) (x : α) (W : World) (K : Act → World → Prop), K (a₁ x) W →
      assign.wpIn (F.inRound l) (n - 1 - 1) P (Exit.then K (fun _ _ _ => False)) { tmps := (ps.zip (encs x)).foldl (fun t (p, v) => t.setIfInBounds p v) a.tmps, defers := [] } W)
    (hbody : ∀ (l : Nat) (pre : List α) (x : α) (W : World), I pre W → N pre x → body.wpIn (F.inRound l) (n - 1 - 1) P (ownPostK Kp I Ix (pre ++ [x]) W) (a₁ x) W)
    (hdone : ∀ (D : Nat) (xs : List α) (W : World), w.heap.size ≤ D → S xs → I xs W → W.heap[D]? = some (.deferred (some [])) → Q .normal { a with defers := { target := .collected D, args := #[] } :: a.defers } W)
    (hstop : ∀ (D : Nat) (c : Code) (pre : List α) (W : World), w.heap.size ≤ D → Sp pre → Ix c pre W → W.heap[D]? = some (.deferred (some [])) → c.wpIn F n P Q { a with defers := { target := .collected D, args := #[] } :: a.defers } W) :
    (Code.rangeFunc g ps assign body).wpIn F n P Q a w := by
  refine wpIn_rangeFunc ?_
  intro fn hfn
  rw [hro]
  obtain ⟨rec, hrec⟩ : ∃ rec : LoopState → Option Code → Loop, rec = fun st pe => { state := st, pending := pe, fn, tmps := a.tmps, params := ps, assign, body, defers := w.heap.size } := ⟨_, rfl⟩
  obtain ⟨W1, hW1⟩ : ∃ W1, (w.alloc (.deferred (some []))).alloc (.loop (rec .ready none)) = W1 := ⟨_, rfl⟩
  have hL1 : W1.heap[w.heap.size + 1]? = some (.loop (rec .ready none)) := by
    rw [← hW1]; have := World.alloc_heap_new (w.alloc (.deferred (some []))) (.loop (rec .ready none)); rwa [World.size_alloc] at this
  have hK1 : W1.heap[w.heap.size]? = some (.deferred (some [])) := by
    rw [← hW1]; exact (Below.heap_alloc _ _ _ (by simp)).trans (World.alloc_heap_new w _)
  have hI1 : I [] W1 := by rw [← hW1]; exact hI.alloc _ (hI.alloc _ h0)
  have hb1 : Below w0.heap.size w0 W1 := by
    rw [← hW1]; exact hb0.trans ((((Below.refl _ w).alloc (Nat.le_refl _) _).alloc (by simp) _).mono hb0.size)
  refine ⟨w.heap.size + 1, [{ target := .collected w.heap.size, args := #[] }], W1, { target := .fn (.func gf) lb, args := #[.func (.yield (w.heap.size + 1)) #[] #[]] }, W1, gf,
    #[.func (.yield (w.heap.size + 1)) #[] #[]] ++ lb, W1, ?_, ?_, ?_, ?_, fun _ => h1, ?_⟩
  · rw [← hW1, hrec]; exact run_enterLoop_outer _ _ _ _ _
  · simp only [resolve, hg]
    simp [go_sem]
  · intro f' hf'; simp [Target.leads] at hf'; subst hf'; exact hFg
  · simp [invoke, go_sem, eg]
  · -- THE ITERATOR's CONTRACT, AT THE CALLER's INVARIANT WITH THE TWO FACTS OF BOOK-KEEPING BESIDE IT
    have hnw : ∀ {A B : World} {row : Option Nat}, (∀ r, row = some r → W1.heap.size ≤ r ∧ ∃ o : Obj, A.heap[r]? = some o ∧ o.isWalk = true) → (∀ r, row = some r → w.heap.size ≤ r ∧ ∃ o : Obj, A.heap[r]? = some o ∧ o.isCells = false) :=
      fun hr r e => by obtain ⟨hB, o, ho, hw⟩ := hr r e; exact ⟨by rw [← hW1] at hB; simp at hB; omega, o, ho, Obj.not_cells_of_walk hw⟩
    refine (hseq (w.heap.size + 1)
      (fun pre W => I pre W ∧ W.heap[w.heap.size + 1]? = some (.loop (rec .ready none)) ∧ W.heap[w.heap.size]? = some (.deferred (some [])))
      (fun pre W => ∃ c, Ix c pre W ∧ W.heap[w.heap.size + 1]? = some (.loop (rec .done (some c))) ∧ W.heap[w.heap.size]? = some (.deferred (some [])))
      W1 hb1
      (fun s A B row hs hg' hr => ⟨hI s A B row hs.1 hg' (hnw (B := B) hr), (grownBy_keeps hg' (fun r e => (hr r e).2) hs.2.1 rfl).trans hs.2.1, (grownBy_keeps hg' (fun r e => (hr r e).2) hs.2.2 rfl).trans hs.2.2⟩)
      (fun s A B row hs hg' hr => by
        obtain ⟨c, hc, hl, hk⟩ := hs
        exact ⟨c, hIx c s A B row hc hg' (hnw (B := B) hr), (grownBy_keeps hg' (fun r e => (hr r e).2) hl rfl).trans hl, (grownBy_keeps hg' (fun r e => (hr r e).2) hk rfl).trans hk⟩)
      (fun s A v hs => ⟨hIs s A v hs.1, (KeepsOthers.setCell A ⟨box, 0, none⟩ v).same _ _ hs.2.1 rfl, (KeepsOthers.setCell A ⟨box, 0, none⟩ v).same _ _ hs.2.2 rfl⟩)
      ?_ ⟨hI1, hL1, hK1⟩).mono ?_
    · -- ONE ROUND
      rintro pre x W ⟨hi, hl, hk⟩ hlen
      have hlt : w.heap.size + 1 < W.heap.size := (Array.getElem?_eq_some_iff.1 hl).1
      have hy := run_yield (P := P) (args := encs x) hl (by rw [hrec]; exact hps x)
      rw [hrec] at hy
      refine ⟨fn, _, assign, body, hy, roundIn_of_wpIn hfn (hassign _ x W _ ⟨_, run_beginRound hl (by rw [hrec]), ?_⟩)⟩
      have hl2 : (W.putObj (w.heap.size + 1) (.loop { rec .ready none with state := .busy })).heap[w.heap.size + 1]? = some (.loop { rec .ready none with state := .busy }) := World.putObj_heap_same hlt
      have hk2 : (W.putObj (w.heap.size + 1) (.loop { rec .ready none with state := .busy })).heap[w.heap.size]? = some (.deferred (some [])) := (World.putObj_heap_other (by omega)).trans hk
      have hw2 : Kp W (W.putObj (w.heap.size + 1) (.loop { rec .ready none with state := .busy })) := hKb _ _ _ _ (by omega) hl rfl rfl
      refine wpIn_mono (hbody _ pre x _ (hI.putObj _ hi (by omega) hl rfl) hlen) ?_
      have fin : ∀ (jump : Option Code) (W3 : World), KeepsOthers (W.putObj (w.heap.size + 1) (.loop { rec .ready none with state := .busy })) W3 →
          (Instr.endRound (w.heap.size + 1) jump).run P W3 = .ok (.bool jump.isNone) (W3.putObj (w.heap.size + 1) (.loop (rec (if jump.isNone then .ready else .done) jump))) ∧
          W3.heap[w.heap.size + 1]? = some (.loop { rec .ready none with state := .busy }) ∧
          (W3.putObj (w.heap.size + 1) (.loop (rec (if jump.isNone then .ready else .done) jump))).heap[w.heap.size + 1]? = some (.loop (rec (if jump.isNone then .ready else .done) jump)) ∧
          (W3.putObj (w.heap.size + 1) (.loop (rec (if jump.isNone then .ready else .done) jump))).heap[w.heap.size]? = some (.deferred (some [])) := fun jump W3 hk3 => by
        have hl3 := hk3.same _ _ hl2 rfl
        have := run_endRound (P := P) jump hl3
        rw [hrec] at this ⊢
        exact ⟨this, by rw [hrec] at hl3; exact hl3, World.putObj_heap_same (Array.getElem?_eq_some_iff.1 hl3).1, (World.putObj_heap_other (by omega)).trans (hk3.same _ _ hk2 rfl)⟩
      rintro e a3 W3 hp
      cases e with
      | normal =>
        obtain ⟨hk3, hkp3, hi3⟩ := hp
        obtain ⟨hr, hl3, hl4, hk4⟩ := fin none W3 hk3
        exact ⟨_, _, hr, .inl ⟨rfl, ⟨hI.putObj _ hi3 (by omega) hl3 rfl, hl4, hk4⟩, hKt (hKt hw2 hkp3) (hKb _ _ _ _ (by omega) hl3 rfl rfl)⟩⟩
      | ret =>
        obtain ⟨hk3, hi3⟩ := hp
        obtain ⟨hr, hl3, hl4, hk4⟩ := fin (some .ret) W3 hk3
        exact ⟨_, _, hr, .inr ⟨rfl, .ret, (hIx _).putObj _ hi3 (by omega) hl3 rfl, hl4, hk4⟩⟩
      | exit id =>
        obtain ⟨hk3, hi3⟩ := hp
        obtain ⟨hr, hl3, hl4, hk4⟩ := fin (some (.exit id)) W3 hk3
        exact ⟨_, _, hr, .inr ⟨rfl, .exit id, (hIx _).putObj _ hi3 (by omega) hl3 rfl, hl4, hk4⟩⟩
      | goto t =>
        obtain ⟨hk3, hi3⟩ := hp
        obtain ⟨hr, hl3, hl4, hk4⟩ := fin (some (.goto t)) W3 hk3
        exact ⟨_, _, hr, .inr ⟨rfl, .goto t, (hIx _).putObj _ hi3 (by omega) hl3 rfl, hl4, hk4⟩⟩
      | panic ch => exact hp.elim
      | outgrown => exact hp.elim
    · -- BEHIND THE ITERATOR
      rintro e W2 ⟨⟨v, rfl⟩, (⟨xs, hS, hi, hl, hk⟩ | ⟨pre, hSp, c, hi, hl, hk⟩)⟩
      · exact ⟨none, _, by have := run_endLoop (P := P) hl (by rw [hrec]; simp); rw [hrec] at this; exact this, hdone _ xs _ (Nat.le_refl _) hS (hI.putObj _ hi (by omega) hl rfl) ((World.putObj_heap_other (by omega)).trans hk)⟩
      · exact ⟨some c, _, by have := run_endLoop (P := P) hl (by rw [hrec]; simp); rw [hrec] at this; exact this, hstop _ c pre _ (Nat.le_refl _) hSp ((hIx c).putObj _ hi (by omega) hl rfl) ((World.putObj_heap_other (by omega)).trans hk)⟩


end

attribute [local go_sem] Oper.semAt_some

def strE (x : List UInt8) : Array Value := #[Value.string ⟨x.toArray⟩]
/-- The three boxes that SplitSeq lays. -/
def KpB (b : Nat) (W W' : World) : Prop := ∀ k, b ≤ k → k < b + 3 → W'.heap[k]? = W.heap[k]?
theorem KpB.trans {b : Nat} {A B C : World} (h : KpB b A B) (k : KpB b B C) : KpB b A C := fun j h1 h2 => (k j h1 h2).trans (h j h1 h2)
def boxLen (b : Nat) (W : World) : Nat := match W.cell? ⟨b, 0, none⟩ with
  | some (.string r) => r.size
  | _ => 0
theorem boxLen_eq {b : Nat} {W : World} {r : ByteArray} {t : TypeId} (h : Boxed W b t (.string r)) : boxLen b W = r.size := by
  unfold boxLen; rw [h.cell]

set_option maxRecDepth 100000 in
set_option maxHeartbeats 1000000 in
theorem split1_in (F : Fence) (n : Nat) (h6 : F.fn 68) (hro : F.round = none) (hn : 1 ≤ n) (hF : F = Fence.wide) (l b : Nat) (c : UInt8) (s : ByteArray) (hs : s.size ≤ 1048576) (J Jx : List (List UInt8) → World → Prop) (hJs : ∀ s W v, J s W → J s (W.setCell ⟨b, 0, none⟩ v))
    (hY : ∀ pre x W, J pre W → (pre ++ [x]) <+: cuts c s.data.toList → YieldAt F (n - 1) Tryd.prog l (strE x) W fun e W' =>
      (e = .returned (.bool true) ∧ J (pre ++ [x]) W' ∧ KpB b W W') ∨ (e = .returned (.bool false) ∧ Jx (pre ++ [x]) W'))
    (W : World) (hb0 : Boxed W b 9 (.string s)) (hb1 : Boxed W (b + 1) 9 (.string ⟨#[c]⟩)) (hb2 : Boxed W (b + 2) 3 (.int .i64 0)) (h0 : J [] W) :
    CallsIn F n Tryd.prog 68 #[.func (.yield l) #[] #[], .pointer (some ⟨b + 1, 0, none⟩), .pointer (some ⟨b, 0, none⟩), .pointer (some ⟨b + 2, 0, none⟩)] W fun e W' => (∃ v, e = .returned v) ∧
      ((∃ ys, ys = cuts c s.data.toList ∧ J ys W') ∨ (∃ pre, pre <+: cuts c s.data.toList ∧ Jx pre W')) := by
  refine callsIn_of_wp Tryd.func68 rfl h6 ?_ hro
  simp only [Tryd.ntmps68, List.size_toArray, List.length_cons, List.length_nil, Nat.reduceAdd, Nat.reduceSub, Array.replicate_succ, Array.replicate_zero, List.push_toArray, List.append_toArray, List.nil_append, List.cons_append]
  subst hF
  have hne : ∀ r : List UInt8, cuts c r ≠ [] := fun r => cutGo_ne_nil c r []
  have hc1 := hb1.cell
  gi_wp2
  gi_loopw [7, 8] (fun _ _ wr => ∃ (pre : List (List UInt8)) (r : ByteArray), r.size ≤ 1048576 ∧ Hid (cuts c s.data.toList = pre ++ cuts c r.data.toList) ∧ Boxed wr b 9 (.string r) ∧ Boxed wr (b + 1) 9 (.string ⟨#[c]⟩) ∧ Boxed wr (b + 2) 3 (.int .i64 0) ∧ J pre wr)
    (fun _ _ wr => boxLen b wr)
  case atStart =>
    exact ⟨[], s, hs, rfl, hb0, hb1, hb2, h0⟩
  case round =>
    obtain ⟨pre, r, hrs, hcut, k0, k1, k2, hJ⟩ := hrel
    have kc0 := k0.cell
    have kc1 := k1.cell
    have kc2 := k2.cell
    have hix := Lib.hid (fun w => callsIn_wide (n := n - 1).2 (Tryd.strings_Index_one r c w))
    have hge := Lib.indexByte_ge r.data.toList c
    have hlt := indexByte_lt c r.data.toList
    have hsz : r.data.toList.length = r.size := Array.length_toList
    have hcf := cuts_find c r.data.toList
    by_cases hneg : Lib.indexByte r.data.toList c = -1
    · rw [hneg] at hix
      rw [if_pos hneg] at hcf
      rw [hcf] at hcut
      clear hcf hge hlt hneg
      have hx : (⟨r.data.toList.toArray⟩ : ByteArray) = r := bs_eta r
      obtain ⟨fn, tmps, assign, body, hy, hR⟩ := hY pre r.data.toList wr hJ (by rw [hcut.out]; exact List.prefix_refl _)
      rw [strE, hx] at hy
      gi_wp2_with (refine ⟨trivial, ?_⟩; gi_at_call 70; refine (hix.out _).mono ?_; rintro e w1 ⟨rfl, hw1⟩; subst hw1)
      refine hR.mono ?_
      rintro e W3 (⟨rfl, hJ3, hk3⟩ | ⟨rfl, hJx3⟩)
      · gi_wp2
        go_end0
        exact ⟨⟨_, rfl⟩, .inl ⟨_, hcut.out.symm, hJ3⟩⟩
      · gi_wp2
        go_end0
        exact ⟨⟨_, rfl⟩, .inr ⟨_, by rw [hcut.out]; exact List.prefix_refl _, hJx3⟩⟩
    · obtain ⟨i, hi⟩ : ∃ i : Nat, Lib.indexByte r.data.toList c = i := ⟨(Lib.indexByte r.data.toList c).toNat, by omega⟩
      rw [hi] at hix hlt
      rw [if_neg hneg, hi, Int.toNat_natCast] at hcf
      have hil : i < r.size := by omega
      have hdr : (r.extract (i + 1) r.size).data.toList = r.data.toList.drop (i + 1) := by
        rw [Lib.extract_data, List.take_of_length_le (by rw [List.length_drop, hsz]; exact Nat.le_refl _)]
      have hes : (r.extract (i + 1) r.size).size = r.size - (i + 1) := by simp
      have hx : (⟨(r.data.toList.take i).toArray⟩ : ByteArray) = r.extract 0 i := by rw [Lib.extract_eq]; simp
      have hcut2 : Hid (cuts c s.data.toList = (pre ++ [r.data.toList.take i]) ++ cuts c (r.extract (i + 1) r.size).data.toList) := by
        rw [Hid, hcut.out, hcf, hdr]; simp
      obtain ⟨fn, tmps, assign, body, hy, hR⟩ := hY pre (r.data.toList.take i) wr hJ (by rw [hcut2.out]; exact List.prefix_append _ _)
      rw [strE, hx] at hy
      clear hcf hge hneg hi hcut hdr hx
      gi_wp2_with (refine ⟨trivial, ?_⟩; gi_at_call 70; refine (hix.out _).mono ?_; rintro e w1 ⟨rfl, hw1⟩; subst hw1)
      refine hR.mono ?_
      rintro e W3 (⟨rfl, hJ3, hk3⟩ | ⟨rfl, hJx3⟩)
      · have m0 : Boxed W3 b 9 (.string r) := (hk3 b (by omega) (by omega)).trans k0
        have m1 : Boxed W3 (b + 1) 9 (.string ⟨#[c]⟩) := (hk3 (b + 1) (by omega) (by omega)).trans k1
        have m2 : Boxed W3 (b + 2) 3 (.int .i64 0) := (hk3 (b + 2) (by omega) (by omega)).trans k2
        have mc0 := m0.cell
        have mf0 := m0.frozen
        have mc1 := m1.cell
        gi_wp2
        go_roundw
        case rel => exact ⟨_, r.extract (i + 1) r.size, by omega, hcut2, m0.set _, m1.kept (grownBy_setCell' _ _ _) (by simp), m2.kept (grownBy_setCell' _ _ _) (by simp), hJs _ _ _ hJ3⟩
        case measure => rw [boxLen_eq k0, boxLen_eq (m0.set _)]; omega
      · gi_wp2
        refine bodyPost_ret (results_none rfl _ _ _) rfl ?_
        exact ⟨⟨_, rfl⟩, .inr ⟨_, by rw [hcut2.out]; exact List.prefix_append _ _, hJx3⟩⟩
end Go.Proofs.YtkkcnkajffbnaaaDoor
