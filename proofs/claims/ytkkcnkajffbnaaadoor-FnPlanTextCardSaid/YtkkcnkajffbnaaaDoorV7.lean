/-
  The program's ParseNumbers tells the list that a text tells, in a row of its own.
-/
import Derived.Test.YtkkcnkajffbnaaaDoorV6
import Derived.Maps.OwnIn
import Derived.RangeFuncCalls
namespace Go.Proofs.YtkkcnkajffbnaaaDoor
open Go.RowKit Go.Shelf
attribute [local go_sem] Oper.semAt_some

def splitW (w : World) (s : ByteArray) (c : UInt8) : World := ((w.alloc (.cells #[.string s] 9)).alloc (.cells #[.string ⟨#[c]⟩] 9)).alloc (.cells #[.int .i64 0] 3)
def splitF (b : Nat) : Value := .func (.func 68) #[] #[.pointer (some ⟨b + 1, 0, none⟩), .pointer (some ⟨b, 0, none⟩), .pointer (some ⟨b + 2, 0, none⟩)]

set_option maxRecDepth 100000 in
theorem splitSeq_any (s : ByteArray) (c : UInt8) (w : World) :
    Calls Tryd.prog 56 #[.string s, .string ⟨#[c]⟩, .int .i64 0] w fun e w' => e = .returned (splitF w.heap.size) ∧ w' = splitW w s c := by
  go_enter Tryd.func56, Tryd.ntmps56
  go_wp2
  go_ret
  exact ⟨rfl, rfl⟩

set_option maxRecDepth 100000 in
theorem SplitSeq_any (s : ByteArray) (c : UInt8) (w : World) :
    Calls Tryd.prog 42 #[.string s, .string ⟨#[c]⟩] w fun e w' => e = .returned (splitF w.heap.size) ∧ w' = splitW w s c := by
  have h := Lib.hid (splitSeq_any s c w)
  go_enter Tryd.func42, Tryd.ntmps42
  go_wp2_with (go_at_call 56; refine h.out.mono ?_; rintro e w' ⟨rfl, rfl⟩)
  go_ret
  exact ⟨rfl, rfl⟩

theorem splitW_boxes (w : World) (s : ByteArray) (c : UInt8) : Boxed (splitW w s c) w.heap.size 9 (.string s) ∧ Boxed (splitW w s c) (w.heap.size + 1) 9 (.string ⟨#[c]⟩) ∧ Boxed (splitW w s c) (w.heap.size + 2) 3 (.int .i64 0) := by
  have b1 := Boxed.new (w.alloc (.cells #[.string s] 9)) 9 (.string ⟨#[c]⟩)
  have b2 := Boxed.new ((w.alloc (.cells #[.string s] 9)).alloc (.cells #[.string ⟨#[c]⟩] 9)) 3 (.int .i64 0)
  rw [World.size_alloc] at b1
  rw [World.size_alloc, World.size_alloc] at b2
  exact ⟨((Boxed.new w 9 (.string s)).alloc _).alloc _, b1.alloc _, b2⟩
theorem splitW_below (w : World) (s : ByteArray) (c : UInt8) : Below w.heap.size w (splitW w s c) :=
  (((Below.refl _ w).alloc (Nat.le_refl _) _).alloc (by simp) _).alloc (by simp; omega) _
theorem splitW_size (w : World) (s : ByteArray) (c : UInt8) : (splitW w s c).heap.size = w.heap.size + 3 := by simp [splitW]

theorem split_stops (n : Nat) (hn : 1 ≤ n) (b : Nat) (c : UInt8) (s : ByteArray) (hs : s.size ≤ 1048576) (w : World) (hb : b + 3 ≤ w.heap.size) (hb0 : Boxed w b 9 (.string s)) (hb1 : Boxed w (b + 1) 9 (.string ⟨#[c]⟩)) (hb2 : Boxed w (b + 2) 3 (.int .i64 0)) :
    SeqStopsS Fence.wide n Tryd.prog 68 #[.pointer (some ⟨b + 1, 0, none⟩), .pointer (some ⟨b, 0, none⟩), .pointer (some ⟨b + 2, 0, none⟩)] strE b (KpB b) (fun ys => ys = cuts c s.data.toList) (fun pre => pre <+: cuts c s.data.toList) (fun pre x => (pre ++ [x]) <+: cuts c s.data.toList) w :=
  fun l J Jx W hW _ _ hJs hY h0 =>
    split1_in Fence.wide n trivial rfl hn rfl l b c s hs J Jx hJs hY W ((hW.block b (by omega)).trans hb0) ((hW.block (b + 1) (by omega)).trans hb1) ((hW.block (b + 2) (by omega)).trans hb2) h0

theorem keepsOthers_of_below {A B : World} (h : Below A.heap.size A B) : KeepsOthers A B :=
  ⟨h.size, fun k _ hk _ => (h.block k (Array.getElem?_eq_some_iff.1 hk).1).trans hk⟩
theorem kpB_of_below {b : Nat} {A B : World} (h : Below A.heap.size A B) (hb : b + 3 ≤ A.heap.size) : KpB b A B := fun k _ h2 => h.block k (by omega)

theorem results_19 {tmps : Array Value} {W : World} {x y : Nat} {u v : Value} (hx : tmps[2]? = some (.pointer (some ⟨x, 0, none⟩))) (hy : tmps[3]? = some (.pointer (some ⟨y, 0, none⟩))) (hu : Boxed W x 22 u) (hv : Boxed W y 4 v) (h1 : ∃ a n c, u = .slice a n c) (h2 : ∃ b, v = .bool b) :
    (results Tryd.f19 tmps).run Tryd.prog W = .ok (.tuple #[u, v]) W := by
  have c1 := hu.cell
  have c2 := hv.cell
  obtain ⟨a, n, c, rfl⟩ := h1
  obtain ⟨b, rfl⟩ := h2
  simp [results, Tryd.f19, go_sem, c1, c2, hx, hy]

theorem bytes_ext {s : ByteArray} {l : List UInt8} (h : s.data.toList = l) : s = ⟨l.toArray⟩ := by rw [← h]

theorem own_of_row {w : World} {base e size n : Nat} {v : Value} {xs : List Value} (h : w.ownsRow base e size v n xs) {r : Nat} (hr : ∃ o : Obj, w.heap[r]? = some o ∧ o.isCells = false) : some r ≠ v.ownBlock := by
  obtain ⟨o, ho, hc⟩ := hr
  rcases h.2 with ⟨rfl, _⟩ | ⟨g, cap, cur, rfl, _, hgb, _⟩
  · simp [Value.ownBlock]
  · intro e
    obtain rfl : r = g := by simpa [Value.ownBlock] using e
    rw [hgb] at ho; cases ho; cases hc
theorem boxed_of_other {W : World} {B : Nat} {t : TypeId} {v : Value} (h : Boxed W B t v) {r : Nat} (hr : ∃ o : Obj, W.heap[r]? = some o ∧ o.isCells = false) : some B ≠ some r := by
  obtain ⟨o, ho, hc⟩ := hr
  intro e
  obtain rfl : B = r := by simpa using e
  rw [show W.heap[B]? = _ from h] at ho; cases ho; cases hc

/-- Between two rounds: b is the heap's size where the function began; e the elements' type, es their cells each. -/
structure PnI (w : World) (T e es : Nat) (k : Nat) (xs : List Value) (v : Value) (W : World) : Prop where
  b0 : Boxed W w.heap.size T (.slice none 0 0)
  b1 : Boxed W (w.heap.size + 1) 4 (.bool false)
  b3 : Boxed W (w.heap.size + 3) T v
  row : W.ownsRow w.heap.size e es v k xs
  nb : ∀ k, w.heap.size + 4 ≤ k → k < w.heap.size + 7 → v.ownBlock ≠ some k
  bel : Below w.heap.size w W
  sz : w.heap.size + 7 ≤ W.heap.size
theorem PnI.grown {w W W' : World} {T e es k : Nat} {xs : List Value} {v : Value} {row : Option Nat} (h : PnI w T e es k xs v W) (hg : W.grownBy W' row) (hr : ∀ r, row = some r → w.heap.size + 7 ≤ r ∧ ∃ o : Obj, W.heap[r]? = some o ∧ o.isCells = false) : PnI w T e es k xs v W' := by
  have hne : ∀ {B : Nat} {t : TypeId} {u : Value}, Boxed W B t u → Boxed W' B t u := fun hB => hB.kept hg (fun e' => boxed_of_other hB (hr _ e'.symm).2 rfl)
  refine ⟨hne h.b0, hne h.b1, hne h.b3, h.row.kept hg ?_, h.nb, h.bel.grown hg h.bel.size (fun k e' => by have := (hr k e').1; omega), Nat.le_trans h.sz hg.size⟩
  cases hv : v.ownBlock with
  | none => exact .inl rfl
  | some g => exact .inr (fun e' => own_of_row h.row (hr g e'.symm).2 hv.symm)
theorem PnI.split {w W : World} {T e es k : Nat} {xs : List Value} {v : Value} (h : PnI w T e es k xs v W) (x : Value) : PnI w T e es k xs v (W.setCell ⟨w.heap.size + 4, 0, none⟩ x) := by
  have hg := grownBy_setCell' W (w.heap.size + 4) x
  exact ⟨h.b0.kept hg (by simp), h.b1.kept hg (by simp), h.b3.kept hg (by simp), h.row.kept hg (.inr (fun e' => h.nb _ (by omega) (by omega) e')), h.nb, h.bel.setCell (p := ⟨w.heap.size + 4, 0, none⟩) (by simp) x, Nat.le_trans h.sz hg.size⟩
theorem PnI.below {w W W' : World} {T e es k : Nat} {xs : List Value} {v : Value} (h : PnI w T e es k xs v W) (hb : Below W.heap.size W W') : PnI w T e es k xs v W' := by
  have hne : ∀ {B : Nat} {t : TypeId} {u : Value}, Boxed W B t u → Boxed W' B t u := fun hB => (hb.block _ hB.lt).trans hB
  exact ⟨hne h.b0, hne h.b1, hne h.b3, ownsRow_below h.row hb (Nat.le_refl _), h.nb, h.bel.trans (hb.mono h.bel.size), Nat.le_trans h.sz hb.size⟩

theorem PnI.appended {w W2 w1 : World} {T e es k m : Nat} {xs ys : List Value} {v v' : Value} {tmp : Obj} (hP : PnI w T e es k xs v W2) (hT : T ≠ e) (h4 : 4 ≠ e)
    (hown' : w1.ownsRow w.heap.size e es v' m ys) (hgrow : (W2.alloc tmp).grownBy w1 v.ownBlock) (hob : v'.ownBlock = v.ownBlock ∨ v'.ownBlock = some (W2.alloc tmp).heap.size) :
    PnI w T e es m ys v' (w1.setCell ⟨w.heap.size + 3, 0, none⟩ v') ∧ KeepsOthers W2 (w1.setCell ⟨w.heap.size + 3, 0, none⟩ v') ∧ KpB (w.heap.size + 4) W2 (w1.setCell ⟨w.heap.size + 3, 0, none⟩ v') := by
  obtain ⟨hv1, hv2, hr2, hk2, hb3⟩ := hP.b3.appended hT hP.row hP.bel.size (by omega) hown' hgrow
  have hsz := hP.sz
  have hne : ∀ {B : Nat} {t : TypeId} {u : Value}, Boxed W2 B t u → t ≠ e → w.heap.size + 3 ≠ B → Boxed (w1.setCell ⟨w.heap.size + 3, 0, none⟩ v') B t u := fun hB ht hB3 =>
    ((hB.alloc tmp).kept hgrow (hB.not_row ht hP.row)).kept (grownBy_setCell' _ _ _) (by intro e'; injection e' with e'; exact hB3 e'.symm)
  refine ⟨⟨hne hP.b0 hT (by omega), hne hP.b1 h4 (by omega), hv2, hr2, ?_, hP.bel.trans hb3, ?_⟩, hk2, ?_⟩
  · intro k h1 h2
    rcases hob with h | h
    · rw [h]; exact hP.nb k h1 h2
    · rw [h]; intro e'; injection e' with e'; simp at e'; omega
  · have := hb3.size; omega
  · intro k h1 h2
    have hg1 : (w1.setCell ⟨w.heap.size + 3, 0, none⟩ v').heap[k]? = w1.heap[k]? := Below.heap_setCell _ _ _ k (by simp; omega)
    have hg2 : w1.heap[k]? = (W2.alloc tmp).heap[k]? := hgrow.block k (by simp; omega) (fun e' => hP.nb k h1 (by omega) e'.symm)
    rw [hg1, hg2]
    exact Below.heap_alloc _ _ _ (by omega)

theorem badPost {w W W2 : World} {T e es k : Nat} {xs : List Value} {v : Value} {p : List UInt8 → Prop} {q : Nat} {pre : List (List UInt8)} {x : List UInt8} (hP : PnI w T e es k xs v W) (hb2 : Below W.heap.size W W2) (hx : p x ∨ q ≤ pre.length) :
    KeepsOthers W ((W2.setCell ⟨w.heap.size, 0, none⟩ (.slice none 0 0)).setCell ⟨w.heap.size + 1, 0, none⟩ (.bool false)) ∧ (Code.ret = Code.ret ∧ (∃ a y, pre ++ [x] = a ++ [y] ∧ (p y ∨ q ≤ a.length)) ∧
      Boxed ((W2.setCell ⟨w.heap.size, 0, none⟩ (.slice none 0 0)).setCell ⟨w.heap.size + 1, 0, none⟩ (.bool false)) w.heap.size T (.slice none 0 0) ∧
      Boxed ((W2.setCell ⟨w.heap.size, 0, none⟩ (.slice none 0 0)).setCell ⟨w.heap.size + 1, 0, none⟩ (.bool false)) (w.heap.size + 1) 4 (.bool false) ∧
      Below w.heap.size w ((W2.setCell ⟨w.heap.size, 0, none⟩ (.slice none 0 0)).setCell ⟨w.heap.size + 1, 0, none⟩ (.bool false))) := by
  have hP2 := hP.below hb2
  refine ⟨((keepsOthers_of_below hb2).trans (KeepsOthers.setCell _ _ _)).trans (KeepsOthers.setCell _ _ _), rfl, ⟨pre, x, rfl, hx⟩, ?_, ?_, ?_⟩
  · exact (hP2.b0.set _).kept (grownBy_setCell' _ _ _) (by simp)
  · exact (hP2.b1.kept (grownBy_setCell' _ _ _) (by simp)).set _
  · exact (hP2.bel.setCell (p := ⟨w.heap.size, 0, none⟩) (Nat.le_refl _) _).setCell (p := ⟨w.heap.size + 1, 0, none⟩) (by simp) _

set_option maxRecDepth 100000 in
set_option maxHeartbeats 2000000 in
theorem implPN (s : ByteArray) (w : World) (hn : s.size ≤ 1048576) (hE : EnvP w) :
    Calls Tryd.prog 19 #[.string s] w fun e w' => ∃ v, e = .returned (.tuple #[v, .bool (parseN s.data.toList).isSome]) ∧ w'.ownsRow w.heap.size 3 1 v ((parseN s.data.toList).getD []).length (((parseN s.data.toList).getD []).map (Value.int .i64)) ∧ Below w.heap.size w w' := by
  obtain ⟨i0, hi, hz0, hz1, hz2⟩ := info_parts Tryd.info3
  have hsz : s.data.toList.length = s.size := Array.length_toList
  refine (callsIn_wide (n := 3)).1 ?_
  have hro : Fence.wide.round = none := rfl
  by_cases hdash : s.data.toList = [45]
  · rw [hdash, parseN_dash]
    obtain rfl := bytes_ext hdash
    refine callsIn_of_wp_marks Tryd.func19 rfl trivial ?_ hro
    simp only [Tryd.ntmps19, List.size_toArray, List.length_cons, List.length_nil, Nat.reduceAdd, Nat.reduceSub, Array.replicate_succ, Array.replicate_zero, List.push_toArray, List.append_toArray, List.nil_append, List.cons_append]
    gi_wp2
    have k0 := Boxed.new w 22 (.slice (some ⟨w.heap.size + 1 + 1, 0, none⟩) 0 0)
    have k1 := Boxed.new (w.alloc (.cells #[.slice (some ⟨w.heap.size + 1 + 1, 0, none⟩) 0 0] 22)) 4 (.bool true)
    rw [World.size_alloc] at k1
    have k2 := ownsRow_empty ((w.alloc (.cells #[.slice (some ⟨w.heap.size + 1 + 1, 0, none⟩) 0 0] 22)).alloc (.cells #[.bool true] 4)) 3 1
    rw [World.size_alloc, World.size_alloc] at k2
    refine ⟨_, results_19 rfl rfl (((k0.alloc _).alloc _).alloc _) ((k1.alloc _).alloc _) ⟨_, _, _, rfl⟩ ⟨_, rfl⟩, _, rfl, ?_, ?_⟩
    · exact ownsRow_base (k2.alloc _) (by omega)
    · exact ((((Below.refl _ w).alloc (Nat.le_refl _) _).alloc (by simp) _).alloc (by simp; omega) _).alloc (by simp; omega) _
  · have hcmp : (s.toList == [45]) = false := by rw [Lib.toList_data]; simpa using hdash
    have hdone := fun ns => parseN_done (ns := ns) hdash
    have hbad := fun a b x => parseN_bad (a := a) (b := b) (x := x) hdash
    have hsp := Lib.hid (fun w => callsIn_wide (n := 2).2 (SplitSeq_any s 32 w))
    refine callsIn_of_wp_marks Tryd.func19 rfl trivial ?_ hro
    simp only [Tryd.ntmps19, List.size_toArray, List.length_cons, List.length_nil, Nat.reduceAdd, Nat.reduceSub, Array.replicate_succ, Array.replicate_zero, List.push_toArray, List.append_toArray, List.nil_append, List.cons_append]
    gi_wp2_with (refine ⟨trivial, ?_⟩; gi_at_call 42; refine (hsp.out _).mono ?_; rintro e w1 ⟨rfl, hw1⟩; subst hw1)
    obtain ⟨W0, hW0⟩ : ∃ W0, ((((w.alloc (.cells #[.slice none 0 0] 22)).alloc (.cells #[.bool false] 4)).alloc (.cells #[] 3)).alloc (.cells #[.slice (some ⟨w.heap.size + 1 + 1, 0, none⟩) 0 0] 22)) = W0 := ⟨_, rfl⟩
    have hs0 : W0.heap.size = w.heap.size + 4 := by rw [← hW0]; simp
    have hbx := splitW_boxes W0 s 32
    have hI0 : PnI w 22 3 1 0 [] (.slice (some ⟨w.heap.size + 1 + 1, 0, none⟩) 0 0) (splitW W0 s 32) := by
      have k0 := Boxed.new w 22 (.slice none 0 0)
      have k1 := Boxed.new (w.alloc (.cells #[.slice none 0 0] 22)) 4 (.bool false)
      rw [World.size_alloc] at k1
      have k2 := ownsRow_empty ((w.alloc (.cells #[.slice none 0 0] 22)).alloc (.cells #[.bool false] 4)) 3 1
      rw [World.size_alloc, World.size_alloc] at k2
      have k3 := Boxed.new (((w.alloc (.cells #[.slice none 0 0] 22)).alloc (.cells #[.bool false] 4)).alloc (.cells #[] 3)) 22 (.slice (some ⟨w.heap.size + 1 + 1, 0, none⟩) 0 0)
      rw [World.size_alloc, World.size_alloc, World.size_alloc] at k3
      have kb : Below w.heap.size w W0 := by rw [← hW0]; exact ((((Below.refl _ w).alloc (Nat.le_refl _) _).alloc (by simp) _).alloc (by simp; omega) _).alloc (by simp; omega) _
      have kb2 := splitW_below W0 s 32
      have j0 : Boxed W0 w.heap.size 22 (.slice none 0 0) := by rw [← hW0]; exact ((k0.alloc _).alloc _).alloc _
      have j1 : Boxed W0 (w.heap.size + 1) 4 (.bool false) := by rw [← hW0]; exact (k1.alloc _).alloc _
      have j2 : W0.ownsRow w.heap.size 3 1 (.slice (some ⟨w.heap.size + 1 + 1, 0, none⟩) 0 0) 0 [] := by rw [← hW0]; exact ownsRow_base (k2.alloc _) (by omega)
      have j3 : Boxed W0 (w.heap.size + 3) 22 (.slice (some ⟨w.heap.size + 1 + 1, 0, none⟩) 0 0) := by rw [← hW0]; exact k3
      refine ⟨(kb2.block _ j0.lt).trans j0, (kb2.block _ j1.lt).trans j1, (kb2.block _ j3.lt).trans j3, ownsRow_below j2 kb2 (Nat.le_refl _), by intro k h1 _ e; simp [Value.ownBlock] at e; omega, kb.trans (kb2.mono (by omega)), by rw [splitW_size]; omega⟩
    rw [hW0]
    have hz := splitW_size W0 s 32
    rw [show splitF (w.heap.size + 1 + 1 + 1 + 1) = splitF W0.heap.size by rw [hs0]]
    clear hW0
    rw [hs0] at hbx hz ⊢
    obtain ⟨W1, hW1⟩ : ∃ W1, splitW W0 s 32 = W1 := ⟨_, rfl⟩
    rw [hW1] at hbx hI0 hz ⊢
    clear hW1 hs0
    refine wpIn_rangeFunc_ownS hro (by omega) (gf := 68) (lb := #[.pointer (some ⟨w.heap.size + 4 + 1, 0, none⟩), .pointer (some ⟨w.heap.size + 4, 0, none⟩), .pointer (some ⟨w.heap.size + 4 + 2, 0, none⟩)]) rfl trivial (enters_of Tryd.func68 (by kernel_rfl) rfl)
      (split_stops 2 (by omega) (w.heap.size + 4) 32 s hn W1 (by omega) hbx.1 hbx.2.1 hbx.2.2) (fun h k => h.trans k) (fun W l o o' hl _ _ _ j _ h2 => World.putObj_heap_other (by omega)) (Below.refl _ _) (fun _ => rfl)
      (fun pre W => pre.length ≤ 40 ∧ ∃ ns v, Hid (allOk okN pre = some ns) ∧ PnI w 22 3 1 pre.length (ns.map (Value.int .i64)) v W)
      (fun c pre W => c = .ret ∧ (∃ a x, pre = a ++ [x] ∧ (okN x = none ∨ 40 ≤ a.length)) ∧ Boxed W w.heap.size 22 (.slice none 0 0) ∧ Boxed W (w.heap.size + 1) 4 (.bool false) ∧ Below w.heap.size w W)
      ?hI ?hIs ?hIx ?h0 ?a1 ?assign ?body ?done ?stop
    case hI =>
      rintro pre A B row ⟨hl, ns, v, hok, hP⟩ hg hr
      exact ⟨hl, ns, v, hok, hP.grown hg (fun r e => by have := hr r e; rw [hz] at this; exact ⟨by omega, this.2⟩)⟩
    case hIx =>
      rintro c pre A B row ⟨rfl, h1, h2, h3, h4⟩ hg hr
      exact ⟨rfl, h1, h2.kept hg (fun e => boxed_of_other h2 (hr _ e.symm).2 rfl), h3.kept hg (fun e => boxed_of_other h3 (hr _ e.symm).2 rfl), h4.grown hg h4.size (fun k e => by have := (hr k e).1; omega)⟩
    case hIs =>
      rintro pre A x ⟨hl, ns, v, hok, hP⟩
      exact ⟨hl, ns, v, hok, hP.split x⟩
    case h0 => exact ⟨by simp, [], _, rfl, hI0⟩
    case a1 => exact (fun x => { tmps := #[.string s, undef, .pointer (some ⟨w.heap.size, 0, none⟩), .pointer (some ⟨w.heap.size + 1, 0, none⟩), .pointer (some ⟨w.heap.size + 1 + 1 + 1, 0, none⟩), .string ⟨x.toArray⟩, undef, undef, .slice (some ⟨w.heap.size + 1 + 1, 0, none⟩) 0 0, .string s, .bool false, undef, .string s, splitF (w.heap.size + 4), .string ⟨x.toArray⟩, undef, undef, undef, undef, undef, undef, undef, undef, undef, undef, undef, undef, undef, undef, undef, undef, undef, undef, undef, undef, undef, undef, undef, undef, undef], defers := [] })
    case assign =>
      intro l x W K hK
      unfold strE
      gi_wp2
      exact hK
    case body =>
      rintro l pre x W ⟨hl, ns, v, hok, hP⟩ _
      have hnl : Hid (ns.length = pre.length) := allOk_length hok.out
      have hWs := hP.bel.size
      have hW7 := hP.sz
      have hnum := Lib.hid (callsIn_wide (n := 0).2 (parseNumber_any ⟨x.toArray⟩ W (hE.below hP.bel (Nat.le_refl _))))
      simp only [numRet] at hnum
      obtain ⟨av, cv, rfl⟩ : ∃ a c, v = .slice a pre.length c := by
        rcases hP.row.2 with ⟨rfl, h0⟩ | ⟨g, cap, cur, rfl, _⟩
        · rw [h0]; exact ⟨_, _, rfl⟩
        · exact ⟨_, _, rfl⟩
      cases hnx : numOf x with
      | none =>
        rw [hnx] at hnum
        have hko : okN x = none := by unfold okN; rw [hnx]; rfl
        simp only [Option.getD_none, Option.isSome_none] at hnum
        clear hnx
        gi_wp2_with (refine ⟨trivial, ?_⟩; gi_at_call 43; refine (CallsIn.inRound l hnum.out).mono ?_; rintro e W2 ⟨rfl, hb2⟩; have hP2 := hP.below hb2; have j0 := hP2.b0.cell; have f0 := hP2.b0.frozen; have j1 := hP2.b1.cell; have f1 := hP2.b1.frozen; have j3 := hP2.b3.cell; have f3 := hP2.b3.frozen)
        all_goals exact badPost (p := fun y => okN y = none) hP hb2 (.inl hko)
      | some z =>
        rw [hnx] at hnum
        simp only [Option.getD_some, Option.isSome_some] at hnum
        by_cases hr : -1000000 ≤ z ∧ z ≤ 1000000
        · have hko : okN x = some z := by unfold okN; rw [hnx]; simp [hr]
          obtain ⟨hr1, hr2⟩ := hr
          have hr1' : decide (z < -1000000) = false := by simp; omega
          have hr2' : decide (1000000 < z) = false := by simp; omega
          clear hnx
          by_cases h40 : pre.length = 40
          · have h40' : ((pre.length : Int) == 40) = true := by rw [h40]; rfl
            gi_wp2_with (refine ⟨trivial, ?_⟩; gi_at_call 43; refine (CallsIn.inRound l hnum.out).mono ?_; rintro e W2 ⟨rfl, hb2⟩; have hP2 := hP.below hb2; have j0 := hP2.b0.cell; have f0 := hP2.b0.frozen; have j1 := hP2.b1.cell; have f1 := hP2.b1.frozen; have j3 := hP2.b3.cell; have f3 := hP2.b3.frozen)
            all_goals exact badPost (p := fun y => okN y = none) hP hb2 (.inr (by omega))
          · have h40' : ((pre.length : Int) == 40) = false := beq_eq_false_iff_ne.2 (by omega)
            gi_wp2_with (first
              | (refine ⟨trivial, ?_⟩; gi_at_call 43; refine (CallsIn.inRound l hnum.out).mono ?_; rintro e W2 ⟨rfl, hb2⟩; have hP2 := hP.below hb2; have j0 := hP2.b0.cell; have f0 := hP2.b0.frozen; have j1 := hP2.b1.cell; have f1 := hP2.b1.frozen; have j3 := hP2.b3.cell; have f3 := hP2.b3.frozen)
              | (gi_at_builtin; refine wpListIn_append_own_at _ rfl (.tmp 35) (.tmp 37) 22 rfl w.heap.size 3 i0 (.int .i64 0) 1 8 Tryd.underlying22 hi hz0 hz1 hz2 rfl (by decide) _ _ _ rfl (hP2.row.alloc _) ⟨W2.heap.size, 0, none⟩ 1 1 [.int .i64 z] rfl rfl (cell_one_new _ _ _) (by simp [Value.oneCell']) (by unfold maxLen; omega) (by omega) (by have := hP2.bel.size; simp; omega) ?_; intro v' w1 hown' hgrow _ hob; obtain ⟨g', cap', rfl⟩ := ownsRow_succ hown'; obtain ⟨hv1, hv2, hr2, hk2, hb3⟩ := hP2.b3.appended (by decide) hP2.row hP2.bel.size (by omega) hown' hgrow; have hc1 := hv1.cell; have hf1 := hv1.frozen))
            obtain ⟨q1, q2, q3⟩ := hP2.appended (by decide) (by decide) hown' hgrow hob
            exact ⟨(keepsOthers_of_below hb2).trans q2, (kpB_of_below hb2 (by omega)).trans q3, by simp; omega, ns ++ [z], _, allOk_snoc hok.out hko, by simpa using q1⟩
        · have hko : okN x = none := by unfold okN; rw [hnx]; simp [hr]
          clear hnx
          by_cases hr1 : z < -1000000
          · have hr1' : decide (z < -1000000) = true := by simpa using hr1
            gi_wp2_with (refine ⟨trivial, ?_⟩; gi_at_call 43; refine (CallsIn.inRound l hnum.out).mono ?_; rintro e W2 ⟨rfl, hb2⟩; have hP2 := hP.below hb2; have j0 := hP2.b0.cell; have f0 := hP2.b0.frozen; have j1 := hP2.b1.cell; have f1 := hP2.b1.frozen; have j3 := hP2.b3.cell; have f3 := hP2.b3.frozen)
            all_goals exact badPost (p := fun y => okN y = none) hP hb2 (.inl hko)
          · have hr1' : decide (z < -1000000) = false := by simpa using hr1
            have hr2 : decide (1000000 < z) = true := by simp; omega
            gi_wp2_with (refine ⟨trivial, ?_⟩; gi_at_call 43; refine (CallsIn.inRound l hnum.out).mono ?_; rintro e W2 ⟨rfl, hb2⟩; have hP2 := hP.below hb2; have j0 := hP2.b0.cell; have f0 := hP2.b0.frozen; have j1 := hP2.b1.cell; have f1 := hP2.b1.frozen; have j3 := hP2.b3.cell; have f3 := hP2.b3.frozen)
            all_goals exact badPost (p := fun y => okN y = none) hP hb2 (.inl hko)
    case done =>
      rintro D ys W hD rfl ⟨hl, ns, v, hok, hP⟩ hK
      have hnl : Hid (ns.length = (cuts 32 s.data.toList).length) := allOk_length hok.out
      have hfin : Hid (parseN s.data.toList = some ns) := hdone ns hl hok.out
      have j0 := hP.b0.cell; have f0 := hP.b0.frozen; have j1 := hP.b1.cell; have f1 := hP.b1.frozen; have j3 := hP.b3.cell
      obtain ⟨av, cv, rfl⟩ : ∃ a c, v = .slice a (cuts 32 s.data.toList).length c := by
        rcases hP.row.2 with ⟨rfl, h0⟩ | ⟨g, cap, cur, rfl, _⟩
        · rw [h0]; exact ⟨_, _, rfl⟩
        · exact ⟨_, _, rfl⟩
      clear hbad hdone hsp
      gi_wp2
      have m0 : Boxed ((W.setCell ⟨w.heap.size, 0, none⟩ (.slice av (cuts 32 s.data.toList).length cv)).setCell ⟨w.heap.size + 1, 0, none⟩ (.bool true)) w.heap.size 22 (.slice av (cuts 32 s.data.toList).length cv) := (hP.b0.set _).kept (grownBy_setCell' _ _ _) (by simp)
      have m1 : Boxed ((W.setCell ⟨w.heap.size, 0, none⟩ (.slice av (cuts 32 s.data.toList).length cv)).setCell ⟨w.heap.size + 1, 0, none⟩ (.bool true)) (w.heap.size + 1) 4 (.bool true) := (hP.b1.kept (grownBy_setCell' _ _ _) (by simp)).set _
      have mr : ((W.setCell ⟨w.heap.size, 0, none⟩ (.slice av (cuts 32 s.data.toList).length cv)).setCell ⟨w.heap.size + 1, 0, none⟩ (.bool true)).ownsRow w.heap.size 3 1 (.slice av (cuts 32 s.data.toList).length cv) (cuts 32 s.data.toList).length (ns.map (Value.int .i64)) :=
        (hP.row.kept (grownBy_setCell' _ _ _) (.inr (hP.b0.not_row (by decide) hP.row).symm)).kept (grownBy_setCell' _ _ _) (.inr (hP.b1.not_row (by decide) hP.row).symm)
      have mb := (hP.bel.setCell (p := ⟨w.heap.size, 0, none⟩) (Nat.le_refl _) (.slice av (cuts 32 s.data.toList).length cv)).setCell (p := ⟨w.heap.size + 1, 0, none⟩) (by simp) (.bool true)
      have mK : ((W.setCell ⟨w.heap.size, 0, none⟩ (.slice av (cuts 32 s.data.toList).length cv)).setCell ⟨w.heap.size + 1, 0, none⟩ (.bool true)).heap[D]? = some (.deferred (some [])) := ((KeepsOthers.setCell _ _ _).trans (KeepsOthers.setCell _ _ _)).same D _ hK rfl
      refine ⟨by simp, .inl ⟨_, _, rfl, run_takeDeferred mK, ?_⟩⟩
      have hkp : ∀ {B : Nat} {t : TypeId} {u : Value}, Boxed _ B t u → Boxed _ B t u := fun hB => hB.kept (grownBy_putObj' _ D (.deferred none)) (fun e => boxed_of_other hB ⟨_, mK, rfl⟩ e)
      refine ⟨_, results_19 rfl rfl (hkp m0) (hkp m1) ⟨_, _, _, rfl⟩ ⟨_, rfl⟩, _, by rw [hfin.out]; rfl, by rw [hfin.out, Option.getD_some, hnl.out]; exact ownsRow_putObj mr _ mK rfl, mb.trans (belowK_b (w := w) (Nat.le_refl _) _ D _ _ (by omega) mK rfl rfl)⟩
    case stop =>
      rintro D c pre W hD hpre ⟨rfl, ⟨a, x, rfl, hx⟩, h2, h3, h4⟩ hK
      obtain ⟨r, hr⟩ := hpre
      have hfin : Hid (parseN s.data.toList = none) := hbad a r x (by rw [← hr]; simp) (hx.imp id (fun h => by rw [← hr]; simp; omega))
      clear hbad hdone hsp
      gi_wp2
      refine ⟨by simp, .inl ⟨_, _, rfl, run_takeDeferred hK, ?_⟩⟩
      have hkp : ∀ {B : Nat} {t : TypeId} {u : Value}, Boxed _ B t u → Boxed _ B t u := fun hB => hB.kept (grownBy_putObj' _ D (.deferred none)) (fun e => boxed_of_other hB ⟨_, hK, rfl⟩ e)
      refine ⟨_, results_19 rfl rfl (hkp h2) (hkp h3) ⟨_, _, _, rfl⟩ ⟨_, rfl⟩, _, by rw [hfin.out]; rfl, by rw [hfin.out]; exact World.ownsRow_nil _ _ _ _, h4.trans (belowK_b (w := w) (Nat.le_refl _) W D _ _ (by omega) hK rfl rfl)⟩
end Go.Proofs.YtkkcnkajffbnaaaDoor
