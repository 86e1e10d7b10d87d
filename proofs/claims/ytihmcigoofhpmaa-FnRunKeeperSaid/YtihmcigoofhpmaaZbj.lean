/-
  The reference: a fault, as a whole.
  The reference's run: its memory.
-/
import Derived.Test.YtihmcigoofhpmaaZbi
set_option linter.all false
namespace Go.Town.Kp
open Go Go.Conc Go.Conc.Lib Go.ConcR.Gen Go.RowKit Go.Town Go.Proofs
open Go.ConcN (upd upd_ne upd_same)
theorem body52_eq : body52 = .seq (headC 0 body52) (.seq (headC 1 body52) (.seq (headC 2 body52) (.seq (headC 3 body52) (.seq loop52 (tailC 5 body52))))) := by kernel_rfl
theorem ints_of_row {w : World} {base : Nat} {a : Option Addr} {n c : Nat} {F : List Nat} (h : w.ownsRow base 3 1 (.slice a n c) n (nums F)) (hn : n = F.length) : IntsAt w a (F.map Int.ofNat) := by
  subst hn
  rcases h.2 with ⟨hv, h0⟩ | ⟨g, cap, cur, hv, _, hg, hc, _, _, htake⟩
  · have : F = [] := List.length_eq_zero_iff.1 h0
    subst this
    exact .inl rfl
  · simp only [Value.slice.injEq] at hv
    obtain ⟨rfl, _, rfl⟩ := hv
    refine .inr ⟨g, 0, rfl, (Array.getElem?_eq_some_iff.1 hg).1, fun i hi => ?_⟩
    have hi' : i < F.length := by simpa using hi
    have h3 : (cur.toList.take (F.length * 1))[i]? = some (.int .i64 (F[i] : Nat)) := by rw [htake]; simp [nums, hi']
    rw [List.getElem?_take_of_lt (by omega), Array.getElem?_toList] at h3
    rw [Nat.zero_add]
    have h4 := (cell_of_block hg h3).1
    rw [h4]
    simp [List.getD, hi']
theorem IntsAt.set {w : World} {g x j : Nat} {zs : List Int} (h : IntsAt w (some ⟨g, 0, none⟩) zs) (v : Value) (hx : x ≠ g) : IntsAt (w.setCell ⟨x, j, none⟩ v) (some ⟨g, 0, none⟩) zs := by
  rcases h with rfl | ⟨b, off, e, hb, hc⟩
  · exact .inl rfl
  · simp only [Option.some.injEq, Addr.mk.injEq] at e
    obtain ⟨rfl, rfl, _⟩ := e
    exact .inr ⟨_, _, rfl, by simpa [World.setCell] using hb, fun i hi => (cell_setCell_ne w v (.inl hx)).trans (hc i hi)⟩
theorem grownBy_set (W : World) (b o : Nat) (v : Value) : W.grownBy (W.setCell ⟨b, o, none⟩ v) (some b) :=
  ⟨rfl, rfl, rfl, by simp [World.setCell], fun k _ hk => Below.heap_setCell _ _ _ k (fun e => hk (by rw [e]))⟩
structure Touch (z sa st : Nat) (own : Option Nat) (w w' : World) : Prop where
  os : w'.os = w.os
  tape : w'.tape = w.tape
  output : w'.output = w.output
  size : w.heap.size ≤ w'.heap.size
  block : ∀ r : Nat, r < z → r ≠ sa → r ≠ st → some r ≠ own → w'.heap[r]? = w.heap[r]?
section
variable {z sa st : Nat} {own : Option Nat} {w w' w'' : World}
theorem Touch.refl (z sa st : Nat) (own : Option Nat) (w : World) : Touch z sa st own w w := ⟨rfl, rfl, rfl, Nat.le_refl _, fun _ _ _ _ _ => rfl⟩
theorem Touch.alloc (h : Touch z sa st own w w') (hz : z ≤ w.heap.size) (o : Obj) : Touch z sa st own w (w'.alloc o) :=
  ⟨h.os, h.tape, h.output, by rw [World.size_alloc]; have := h.size; omega, fun r hr h1 h2 h3 => by
    have hlt : r < w'.heap.size := by have := h.size; omega
    rw [← h.block r hr h1 h2 h3]
    simp only [World.alloc]; rw [Array.getElem?_push_lt hlt, ← Array.getElem?_eq_getElem hlt]⟩
theorem Touch.grown (h : Touch z sa st own w w') (hz : z ≤ w.heap.size) (hg : w'.grownBy w'' own) : Touch z sa st own w w'' :=
  ⟨hg.os.trans h.os, hg.tape.trans h.tape, hg.output.trans h.output, Nat.le_trans h.size hg.size, fun r hr h1 h2 h3 => (hg.block r (by have := h.size; omega) h3).trans (h.block r hr h1 h2 h3)⟩
theorem Touch.set (h : Touch z sa st own w w') {x j : Nat} (v : Value) (hx : z ≤ x) : Touch z sa st own w (w'.setCell ⟨x, j, none⟩ v) :=
  ⟨h.os, h.tape, h.output, by simpa [World.setCell] using h.size, fun r hr h1 h2 h3 => (Below.heap_setCell _ _ _ r (by show r ≠ x; omega)).trans (h.block r hr h1 h2 h3)⟩
theorem Touch.only (h : Touch z sa st own w w') (k : Only sa st w' w'') : Touch z sa st own w w'' :=
  ⟨k.os.trans h.os, k.tape.trans h.tape, k.output.trans h.output, by rw [k.size]; exact h.size, fun r hr h1 h2 h3 => (k.block r h1 h2).trans (h.block r hr h1 h2 h3)⟩
theorem Touch.drewN (h : Touch z sa st own w w') (k : Nat) : Touch z sa st own w (w'.drewN k) := ⟨h.os, h.tape, h.output, h.size, h.block⟩
end
def set7 (w : World) (rx : Nat) (a b c d e f g : Value) : World := ((((((w.setCell ⟨rx, 0, none⟩ a).setCell ⟨rx, 1, none⟩ b).setCell ⟨rx, 2, none⟩ c).setCell ⟨rx, 3, none⟩ d).setCell ⟨rx, 4, none⟩ e).setCell ⟨rx, 5, none⟩ f).setCell ⟨rx, 6, none⟩ g
theorem set7_cells {w : World} {rx : Nat} (hw : ∀ j, j < 7 → ∃ v, w.cell? ⟨rx, j, none⟩ = some v) (a b c d e f g : Value) : (set7 w rx a b c d e f g).cell? ⟨rx, 0, none⟩ = some a ∧ (set7 w rx a b c d e f g).cell? ⟨rx, 1, none⟩ = some b ∧ (set7 w rx a b c d e f g).cell? ⟨rx, 2, none⟩ = some c ∧ (set7 w rx a b c d e f g).cell? ⟨rx, 3, none⟩ = some d ∧ (set7 w rx a b c d e f g).cell? ⟨rx, 4, none⟩ = some e ∧ (set7 w rx a b c d e f g).cell? ⟨rx, 5, none⟩ = some f ∧ (set7 w rx a b c d e f g).cell? ⟨rx, 6, none⟩ = some g := by
  have ne : ∀ (w : World) (i j : Nat) (v : Value), i ≠ j → (w.setCell ⟨rx, i, none⟩ v).cell? ⟨rx, j, none⟩ = w.cell? ⟨rx, j, none⟩ := fun w i j v h => cell_setCell_ne w v (.inr h)
  have eq : ∀ (w : World) (i : Nat) (v : Value), (∃ u, w.cell? ⟨rx, i, none⟩ = some u) → (w.setCell ⟨rx, i, none⟩ v).cell? ⟨rx, i, none⟩ = some v := fun w i v ⟨u, h⟩ => cell_setCell_eq v h
  unfold set7
  refine ⟨?_, ?_, ?_, ?_, ?_, ?_, ?_⟩
  · rw [ne _ 6 0 _ (by omega), ne _ 5 0 _ (by omega), ne _ 4 0 _ (by omega), ne _ 3 0 _ (by omega), ne _ 2 0 _ (by omega), ne _ 1 0 _ (by omega)]; exact eq _ _ _ (hw 0 (by omega))
  · rw [ne _ 6 1 _ (by omega), ne _ 5 1 _ (by omega), ne _ 4 1 _ (by omega), ne _ 3 1 _ (by omega), ne _ 2 1 _ (by omega)]; exact eq _ _ _ (by rw [ne _ 0 1 _ (by omega)]; exact hw 1 (by omega))
  · rw [ne _ 6 2 _ (by omega), ne _ 5 2 _ (by omega), ne _ 4 2 _ (by omega), ne _ 3 2 _ (by omega)]; exact eq _ _ _ (by rw [ne _ 1 2 _ (by omega), ne _ 0 2 _ (by omega)]; exact hw 2 (by omega))
  · rw [ne _ 6 3 _ (by omega), ne _ 5 3 _ (by omega), ne _ 4 3 _ (by omega)]; exact eq _ _ _ (by rw [ne _ 2 3 _ (by omega), ne _ 1 3 _ (by omega), ne _ 0 3 _ (by omega)]; exact hw 3 (by omega))
  · rw [ne _ 6 4 _ (by omega), ne _ 5 4 _ (by omega)]; exact eq _ _ _ (by rw [ne _ 3 4 _ (by omega), ne _ 2 4 _ (by omega), ne _ 1 4 _ (by omega), ne _ 0 4 _ (by omega)]; exact hw 4 (by omega))
  · rw [ne _ 6 5 _ (by omega)]; exact eq _ _ _ (by rw [ne _ 4 5 _ (by omega), ne _ 3 5 _ (by omega), ne _ 2 5 _ (by omega), ne _ 1 5 _ (by omega), ne _ 0 5 _ (by omega)]; exact hw 5 (by omega))
  · exact eq _ _ _ (by rw [ne _ 5 6 _ (by omega), ne _ 4 6 _ (by omega), ne _ 3 6 _ (by omega), ne _ 2 6 _ (by omega), ne _ 1 6 _ (by omega), ne _ 0 6 _ (by omega)]; exact hw 6 (by omega))
theorem ownsRow_only {w w' : World} {base sa st g m cap : Nat} {xs : List Value} (h : w.ownsRow base 3 1 (.slice (some ⟨g, 0, none⟩) m cap) m xs) (hO : Only sa st w w') (h1 : g ≠ sa) (h2 : g ≠ st) : w'.ownsRow base 3 1 (.slice (some ⟨g, 0, none⟩) m cap) m xs := by
  refine ⟨h.1, ?_⟩
  rcases h.2 with ⟨hv, _⟩ | ⟨g', cap', cur, hv, hb, hg, rest⟩
  · cases hv
  · simp only [Value.slice.injEq, Option.some.injEq, Addr.mk.injEq] at hv
    obtain ⟨⟨rfl, _⟩, _, rfl⟩ := hv
    exact .inr ⟨_, _, cur, rfl, hb, (hO.block _ h1 h2).trans hg, rest⟩
structure Keep3 (base z sa st g n cap m : Nat) (own0 : Option Nat) (xs : List Value) (f1 f2 : Nat → Int) (w0 w : World) : Prop where
  own : w.ownsRow base 3 1 (.slice (some ⟨g, 0, none⟩) m cap) m xs
  s1 : NumsAt w sa f1 n
  s2 : NumsAt w st f2 n
  below : Touch z sa st own0 w0 w
theorem Keep3.set {base z sa st g n cap m : Nat} {own0 : Option Nat} {xs : List Value} {f1 f2 : Nat → Int} {w0 w : World} (h : Keep3 base z sa st g n cap m own0 xs f1 f2 w0 w) {x j : Nat} (v : Value) (h1 : x ≠ sa) (h2 : x ≠ st) (h3 : x ≠ g) (h4 : z ≤ x) : Keep3 base z sa st g n cap m own0 xs f1 f2 w0 (w.setCell ⟨x, j, none⟩ v) :=
  ⟨h.own.kept (grownBy_set w x j v) (.inr (by simp [Value.ownBlock, Ne.symm h3])), h.s1.other v h1, h.s2.other v h2, h.below.set v h4⟩
theorem Keep3.drewN {base z sa st g n cap m : Nat} {own0 : Option Nat} {xs : List Value} {f1 f2 : Nat → Int} {w0 w : World} (h : Keep3 base z sa st g n cap m own0 xs f1 f2 w0 w) (k : Nat) : Keep3 base z sa st g n cap m own0 xs f1 f2 w0 (w.drewN k) :=
  ⟨h.own, h.s1, h.s2, h.below.drewN k⟩
def FaultPost (κ : Kr) (base sa st n i tick : Nat) (own0 : Option Nat) (F : List Nat) (s : St) (w : World) (e : Ending) (w' : World) : Prop :=
  ∃ (fa : Option Addr) (fc : Nat), ((Value.slice fa (F.length + 1) fc).ownBlock = own0 ∨ ∃ g, (Value.slice fa (F.length + 1) fc).ownBlock = some g ∧ w.heap.size ≤ g) ∧ e = .returned (ROOM κ sa st n (.slice fa (F.length + 1) fc) (endS (stepT κ n tick i 0 s).over)) ∧ w'.ownsRow base 3 1 (.slice fa (F.length + 1) fc) (F.length + 1) (nums (F ++ [tick])) ∧ (Value.slice fa (F.length + 1) fc).ownBlock ≠ some sa ∧ (Value.slice fa (F.length + 1) fc).ownBlock ≠ some st ∧
    NumsAt w' sa (stepT κ n tick i 0 s).sum n ∧ NumsAt w' st (stepT κ n tick i 0 s).starts n ∧ Touch w.heap.size sa st own0 w w'
set_option maxRecDepth 100000 in
set_option maxHeartbeats 4000000 in
theorem task_fault {κ : Kr} {base sa st n i tick c : Nat} {fa : Option Addr} {fc : Nat} {F : List Nat} {s : St} {w : World} (hi : i < n) (hn : n ≤ 4) (hc : c ≤ 1000) (hs : Small c s) (hS : NumsAt w sa s.sum n) (hT : NumsAt w st s.starts n) (hne : sa ≠ st)
    (hb1 : base ≤ sa) (hb2 : base ≤ st) (hbw : base ≤ w.heap.size) (hown : w.ownsRow base 3 1 (.slice fa F.length fc) F.length (nums F)) (ho1 : (Value.slice fa F.length fc).ownBlock ≠ some sa) (ho2 : (Value.slice fa F.length fc).ownBlock ≠ some st)
    (hF : ∀ f ∈ F, f ≤ tick) (ht : tick < 20) (hFl : F.length ≤ 1000) (hw0 : 0 < κ.win) (hw : κ.win ≤ 20) (hfl : s.fl = cntF F) :
    Calls Try.prog 52 #[.agg #[.string κ.rule.text, .int .i64 (κ.bear : Nat), .int .i64 (κ.win : Nat), .slice (some ⟨sa, 0, none⟩) n n, .slice (some ⟨st, 0, none⟩) n n, .slice fa F.length fc, .string ⟨#[]⟩], .int .i64 i, .int .i64 0, .int .i64 tick] w (FaultPost κ base sa st n i tick (Value.slice fa F.length fc).ownBlock F s w) := by
  obtain ⟨i0, hinf, hz0, hz1, hz2⟩ := info_parts Try.info3
  have hinf : Hid _ := ⟨hinf⟩
  have hz0 : Hid _ := ⟨hz0⟩
  go_enter Try.func52, Try.ntmps52
  refine (show Code.wp Try.prog body52 _ _ _ from ?_)
  rw [body52_eq]
  obtain ⟨Q, hQ⟩ : ∃ Q, Eqd Q (bodyPost Try.prog Try.f52 (FaultPost κ base sa st n i tick (Value.slice fa F.length fc).ownBlock F s w)) := ⟨_, ⟨rfl⟩⟩
  rw [← hQ.out]
  simp only [headC, tailC, body52, Try.f52, Option.getD_some]
  go_wp2_with (first
    | (at_builtin; refine wpList_append_own_at _ rfl (.tmp 25) (.tmp 27) 28 rfl base 3 i0 (.int .i64 0) 1 8 Try.underlying28 hinf.out hz0.out hz1 hz2 rfl (by decide) (.slice fa F.length fc) F.length (nums F) rfl (((hown.alloc _).alloc _).alloc _) ⟨w.heap.size + 2, 0, none⟩ 1 1 [.int .i64 (tick : Nat)] rfl rfl ?c1 ?c2 ?c3 ?c4 ?c5 ?_))
  case c1 =>
    intro j u hj
    match j, hj with
    | 0, hj =>
      simp at hj; subst hj
      have e : ∀ o1 o2 : Obj, ((w.alloc o1).alloc o2).heap.size = w.heap.size + 2 := fun o1 o2 => by rw [World.size_alloc, World.size_alloc]
      rw [← e]
      exact cell_new rfl
  case c2 => intro u hu; simp at hu; subst hu; rfl
  case c3 => unfold maxLen; omega
  case c4 => omega
  case c5 => simp; omega
  intro v' w3 hown3 hgrow _ hplace
  rcases hown3.2 with ⟨_, h0⟩ | ⟨g, cap, cur, rfl, hg1, hg2, hg3, hg4, hg5, hg6⟩
  · omega
  have lt1 : ∀ k, (Value.slice fa F.length fc).ownBlock = some k → k < w.heap.size := fun k hk => (hown.lt k hk).2
  have hS3 : NumsAt w3 sa s.sum n := (((hS.alloc _).alloc _).alloc _).grown hgrow ho1
  have hT3 : NumsAt w3 st s.starts n := (((hT.alloc _).alloc _).alloc _).grown hgrow ho2
  have lsa : sa < w.heap.size := block_lt (hS i hi).1
  have lst : st < w.heap.size := block_lt (hT i hi).1
  have hbx : w3.heap[w.heap.size]? = some (.cells #[.string κ.rule.text, .int .i64 (κ.bear : Nat), .int .i64 (κ.win : Nat), .slice (some ⟨sa, 0, none⟩) n n, .slice (some ⟨st, 0, none⟩) n n, .slice fa F.length fc, .string ⟨#[]⟩] 61) := by
    rw [hgrow.block w.heap.size (by rw [World.size_alloc, World.size_alloc, World.size_alloc]; omega) (fun e => absurd (lt1 _ e.symm) (by omega))]
    exact heap_alloc_lt (heap_alloc_lt (alloc_self _ _))
  have hrx : w3.heap[w.heap.size + 1]? = some (.cells #[.string ⟨#[]⟩, .int .i64 0, .int .i64 0, .slice none 0 0, .slice none 0 0, .slice none 0 0, .string ⟨#[]⟩] 61) := by
    rw [hgrow.block (w.heap.size + 1) (by rw [World.size_alloc, World.size_alloc, World.size_alloc]; omega) (fun e => absurd (lt1 _ e.symm) (by omega))]
    have e : ∀ o1 : Obj, (w.alloc o1).heap.size = w.heap.size + 1 := fun o1 => by rw [World.size_alloc]
    refine heap_alloc_lt ?_
    rw [← e]
    exact alloc_self _ _
  have hgx : g ≠ w.heap.size ∧ g ≠ w.heap.size + 1 ∧ g ≠ sa ∧ g ≠ st := by
    rcases hplace with hp | hp
    · have := lt1 g (by rw [← hp]; rfl)
      have n1 : (Value.slice fa F.length fc).ownBlock = some g := by rw [← hp]; rfl
      rw [n1] at ho1 ho2
      refine ⟨by omega, by omega, fun e => ho1 (by rw [e]), fun e => ho2 (by rw [e])⟩
    · have : g = w.heap.size + 1 + 1 + 1 := by simpa [Value.ownBlock] using hp
      omega
  have hints : IntsAt w3 (some ⟨g, 0, none⟩) ((F ++ [tick]).map Int.ofNat) := by
    refine ints_of_row (base := base) (c := cap) (F := F ++ [tick]) (n := F.length + 1) ?_ (by simp)
    rw [show nums (F ++ [tick]) = nums F ++ [.int .i64 (tick : Nat)] by simp [nums]]
    exact hown3
  have hB3 : Touch w.heap.size sa st (Value.slice fa F.length fc).ownBlock w w3 := ((((Touch.refl ..).alloc (Nat.le_refl _) _).alloc (Nat.le_refl _) _).alloc (Nat.le_refl _) _).grown (Nat.le_refl _) hgrow
  have hplF : Hid ((Value.slice (some ⟨g, 0, none⟩) (F.length + 1) cap).ownBlock = (Value.slice fa F.length fc).ownBlock ∨ ∃ g', (Value.slice (some ⟨g, 0, none⟩) (F.length + 1) cap).ownBlock = some g' ∧ w.heap.size ≤ g') := ⟨by
    rcases hplace with hp | hp
    · exact .inl hp
    · exact .inr ⟨_, hp, by omega⟩⟩
  obtain ⟨own0, hown0⟩ : ∃ o, Hid (o = (Value.slice fa F.length fc).ownBlock) := ⟨_, ⟨rfl⟩⟩
  rw [← hown0.out] at hB3 hplF
  have hownF : Hid (w3.ownsRow base 3 1 (.slice (some ⟨g, 0, none⟩) (F.length + 1) cap) (F.length + 1) (nums (F ++ [tick]))) := ⟨by
    rw [show nums (F ++ [tick]) = nums F ++ [.int .i64 (tick : Nat)] by simp [nums]]
    exact hown3⟩
  clear hown3 hgrow hplace hg6 hS hT hown ho1 ho2 lt1
  generalize hbe : w.heap.size = bx at *
  replace hbe : Hid _ := ⟨hbe⟩
  obtain ⟨rx, hre⟩ : ∃ x : Nat, Hid (x = bx + 1) := ⟨_, ⟨rfl⟩⟩
  rw [← hre.out] at hrx hgx ⊢
  have a0 := (cell_of_block hbx (j := 0) rfl).1
  have a1 := (cell_of_block hbx (j := 1) rfl).1
  have a2 := (cell_of_block hbx (j := 2) rfl).1
  have a3 := (cell_of_block hbx (j := 3) rfl).1
  have a4 := (cell_of_block hbx (j := 4) rfl).1
  have a5 := (cell_of_block hbx (j := 5) rfl).1
  have a6 := (cell_of_block hbx (j := 6) rfl).1
  have u5 := (cell_of_block hbx (j := 5) rfl).2
  have u6 := (cell_of_block hbx (j := 6) rfl).2
  clear hbx
  go_wp2
  have hgb : g ≠ bx := hgx.1
  have hS4 := hS3.other (j := 5) (Value.slice (some ⟨g, 0, none⟩) (F.length + 1) cap) (show bx ≠ sa by omega)
  have hT4 := hT3.other (j := 5) (Value.slice (some ⟨g, 0, none⟩) (F.length + 1) cap) (show bx ≠ st by omega)
  have hints4 := hints.set (x := bx) (j := 5) (Value.slice (some ⟨g, 0, none⟩) (F.length + 1) cap) (Ne.symm hgb)
  have hB4 : Touch bx sa st own0 w (w3.setCell ⟨bx, 5, none⟩ (Value.slice (some ⟨g, 0, none⟩) (F.length + 1) cap)) := hB3.set _ (Nat.le_refl _)
  have hown4 : Hid ((w3.setCell ⟨bx, 5, none⟩ (Value.slice (some ⟨g, 0, none⟩) (F.length + 1) cap)).ownsRow base 3 1 (.slice (some ⟨g, 0, none⟩) (F.length + 1) cap) (F.length + 1) (nums (F ++ [tick]))) := ⟨hownF.out.kept (grownBy_set w3 bx 5 _) (.inr (by simp [Value.ownBlock, hgb]))⟩
  have b0 : (w3.setCell ⟨bx, 5, none⟩ (Value.slice (some ⟨g, 0, none⟩) (F.length + 1) cap)).cell? ⟨bx, 0, none⟩ = some (.string κ.rule.text) := (cell_setCell_ne _ _ (.inr (by simp))).trans a0
  have b1 : (w3.setCell ⟨bx, 5, none⟩ (Value.slice (some ⟨g, 0, none⟩) (F.length + 1) cap)).cell? ⟨bx, 1, none⟩ = some (.int .i64 (κ.bear : Nat)) := (cell_setCell_ne _ _ (.inr (by simp))).trans a1
  have b2 : (w3.setCell ⟨bx, 5, none⟩ (Value.slice (some ⟨g, 0, none⟩) (F.length + 1) cap)).cell? ⟨bx, 2, none⟩ = some (.int .i64 (κ.win : Nat)) := (cell_setCell_ne _ _ (.inr (by simp))).trans a2
  have b3 : (w3.setCell ⟨bx, 5, none⟩ (Value.slice (some ⟨g, 0, none⟩) (F.length + 1) cap)).cell? ⟨bx, 3, none⟩ = some (.slice (some ⟨sa, 0, none⟩) n n) := (cell_setCell_ne _ _ (.inr (by simp))).trans a3
  have b4 : (w3.setCell ⟨bx, 5, none⟩ (Value.slice (some ⟨g, 0, none⟩) (F.length + 1) cap)).cell? ⟨bx, 4, none⟩ = some (.slice (some ⟨st, 0, none⟩) n n) := (cell_setCell_ne _ _ (.inr (by simp))).trans a4
  have b6 : (w3.setCell ⟨bx, 5, none⟩ (Value.slice (some ⟨g, 0, none⟩) (F.length + 1) cap)).cell? ⟨bx, 6, none⟩ = some (.string ⟨#[]⟩) := (cell_setCell_ne _ _ (.inr (by simp))).trans a6
  have b5 : (w3.setCell ⟨bx, 5, none⟩ (Value.slice (some ⟨g, 0, none⟩) (F.length + 1) cap)).cell? ⟨bx, 5, none⟩ = some (.slice (some ⟨g, 0, none⟩) (F.length + 1) cap) := cell_setCell_eq _ a5
  have v6 : (w3.setCell ⟨bx, 5, none⟩ (Value.slice (some ⟨g, 0, none⟩) (F.length + 1) cap)).frozen? ⟨bx, 6, none⟩ = false := (frozen_setCell _ _ _ _).trans u6
  have hrx4 : (w3.setCell ⟨bx, 5, none⟩ (Value.slice (some ⟨g, 0, none⟩) (F.length + 1) cap)).heap[rx]? = some (.cells #[.string ⟨#[]⟩, .int .i64 0, .int .i64 0, .slice none 0 0, .slice none 0 0, .slice none 0 0, .string ⟨#[]⟩] 61) := (Below.heap_setCell _ _ _ rx (by have := hre.out; show rx ≠ bx; omega)).trans hrx
  generalize w3.setCell ⟨bx, 5, none⟩ (Value.slice (some ⟨g, 0, none⟩) (F.length + 1) cap) = w4 at *
  clear a0 a1 a2 a3 a4 a5 a6 u5 u6 hrx hB3 hints hS3 hT3 hownF
  have r0 := (cell_of_block hrx4 (j := 0) rfl).1
  have q0 := (cell_of_block hrx4 (j := 0) rfl).2
  have r1 := (cell_of_block hrx4 (j := 1) rfl).1
  have q1 := (cell_of_block hrx4 (j := 1) rfl).2
  have r2 := (cell_of_block hrx4 (j := 2) rfl).1
  have q2 := (cell_of_block hrx4 (j := 2) rfl).2
  have r3 := (cell_of_block hrx4 (j := 3) rfl).1
  have q3 := (cell_of_block hrx4 (j := 3) rfl).2
  have r4 := (cell_of_block hrx4 (j := 4) rfl).1
  have q4 := (cell_of_block hrx4 (j := 4) rfl).2
  have r5 := (cell_of_block hrx4 (j := 5) rfl).1
  have q5 := (cell_of_block hrx4 (j := 5) rfl).2
  have r6 := (cell_of_block hrx4 (j := 6) rfl).1
  have q6 := (cell_of_block hrx4 (j := 6) rfl).2
  clear hrx4
  have K4 : Hid (Keep3 base bx sa st g n cap (F.length + 1) own0 (nums (F ++ [tick])) s.sum s.starts w w4) := ⟨⟨hown4.out, hS4, hT4, hB4⟩⟩
  have hrec : (recent (F ++ [tick]) tick κ.win : Int) = fin (upd s.fl tick (s.fl tick + 1)) tick κ.win := by
    rw [recent_fin hw0 (F ++ [tick]) (fun f hf => by
      rcases List.mem_append.1 hf with h | h
      · exact hF f h
      · simp at h; omega), cntF_append, hfl]
  have c66 : Hid (∀ m, Calls Try.prog 66 #[.slice (some ⟨g, 0, none⟩) (F.length + 1) cap, .int .i64 (tick : Nat), .int .i64 (κ.win : Nat)] (w4.drewN m) fun e w' => e = .returned (.int .i64 (recent (F ++ [tick]) tick κ.win : Nat)) ∧ w' = w4.drewN m) := ⟨fun m => by
    have := l9Recent_any (some ⟨g, 0, none⟩) cap (F ++ [tick]) tick κ.win (w4.drewN m) (by simp; omega) (by omega) (by omega) (fun f hf => by
      rcases List.mem_append.1 hf with h | h
      · have := hF f h; omega
      · simp at h; omega) hints4
    rw [List.length_append] at this
    exact this.mono fun _ _ ⟨a, b⟩ => ⟨a, b.symm⟩⟩
  have hrcl : recent (F ++ [tick]) tick κ.win ≤ 2000 := Nat.le_trans (recent_le _ _ _) (by simp; omega)
  have hT0 : stepT κ n tick i 0 s = if decide ((κ.bear : Int) < fin (upd s.fl tick (s.fl tick + 1)) tick κ.win) then ⟨s.sum, s.starts, upd s.fl tick (s.fl tick + 1), true⟩ else ⟨fun l => if again κ.rule n i l then 0 else s.sum l, fun l => if again κ.rule n i l then s.starts l + 1 else s.starts l, upd s.fl tick (s.fl tick + 1), false⟩ := by simp [stepT]
  rw [← hrec] at hT0
  have hcc := hc
  clear hrec hints4 hown4 hB4 hF hFl hw0 hw hc hfl
  generalize recent (F ++ [tick]) tick κ.win = rc at *
  replace hT0 : Hid _ := ⟨hT0⟩
  have hbs1 : bx ≠ sa := by omega
  have hbs2 : bx ≠ st := by omega
  have hrr := hre.out
  have hxs : rx ≠ sa ∧ rx ≠ st ∧ rx ≠ g ∧ bx ≤ rx ∧ bx ≤ bx ∧ rx ≠ bx := by omega
  replace hre : Hid _ := ⟨hrr⟩
  clear hrr
  by_cases hov : κ.bear < rc
  · have hov2 : decide (κ.bear < rc) = true := by simpa using hov
    have hov3 : (κ.bear : Int) < (rc : Int) := by omega
    go_quiet ((go_at_call 66; exact Calls.quiet_of_same (c66.out _)))
    go_wp2
    rw [hQ.out]
    have hT1 := hT0.out
    rw [if_pos (by simpa using hov3)] at hT1
    have K5 : Keep3 base bx sa st g n cap (F.length + 1) own0 (nums (F ++ [tick])) s.sum s.starts w (set7 ((w4.drewN nq).setCell ⟨bx, 6, none⟩ (.string ⟨#[103, 105, 118, 101, 110, 32, 117, 112]⟩)) rx (.string κ.rule.text) (.int .i64 (κ.bear : Nat)) (.int .i64 (κ.win : Nat)) (.slice (some ⟨sa, 0, none⟩) n n) (.slice (some ⟨st, 0, none⟩) n n) (.slice (some ⟨g, 0, none⟩) (F.length + 1) cap) (.string ⟨#[103, 105, 118, 101, 110, 32, 117, 112]⟩)) :=
      ((((((((K4.out.drewN nq).set _ hbs1 hbs2 (Ne.symm hgb) hxs.2.2.2.2.1).set _ hxs.1 hxs.2.1 hxs.2.2.1 hxs.2.2.2.1).set _ hxs.1 hxs.2.1 hxs.2.2.1 hxs.2.2.2.1).set _ hxs.1 hxs.2.1 hxs.2.2.1 hxs.2.2.2.1).set _ hxs.1 hxs.2.1 hxs.2.2.1 hxs.2.2.2.1).set _ hxs.1 hxs.2.1 hxs.2.2.1 hxs.2.2.2.1).set _ hxs.1 hxs.2.1 hxs.2.2.1 hxs.2.2.2.1).set _ hxs.1 hxs.2.1 hxs.2.2.1 hxs.2.2.2.1
    have s7 := set7_cells (w := (w4.drewN nq).setCell ⟨bx, 6, none⟩ (.string ⟨#[103, 105, 118, 101, 110, 32, 117, 112]⟩)) (rx := rx) (by
      intro j hj
      have ne : ∀ v, ((w4.drewN nq).setCell ⟨bx, 6, none⟩ v).cell? ⟨rx, j, none⟩ = w4.cell? ⟨rx, j, none⟩ := fun v => cell_setCell_ne _ _ (.inl (Ne.symm hxs.2.2.2.2.2))
      rw [ne]
      match j, hj with
      | 0, _ => exact ⟨_, r0⟩
      | 1, _ => exact ⟨_, r1⟩
      | 2, _ => exact ⟨_, r2⟩
      | 3, _ => exact ⟨_, r3⟩
      | 4, _ => exact ⟨_, r4⟩
      | 5, _ => exact ⟨_, r5⟩
      | 6, _ => exact ⟨_, r6⟩) (.string κ.rule.text) (.int .i64 (κ.bear : Nat)) (.int .i64 (κ.win : Nat)) (.slice (some ⟨sa, 0, none⟩) n n) (.slice (some ⟨st, 0, none⟩) n n) (.slice (some ⟨g, 0, none⟩) (F.length + 1) cap) (.string ⟨#[103, 105, 118, 101, 110, 32, 117, 112]⟩)
    refine (show bodyPost Try.prog Try.f52 _ .ret _ (set7 ((w4.drewN nq).setCell ⟨bx, 6, none⟩ (.string ⟨#[103, 105, 118, 101, 110, 32, 117, 112]⟩)) rx (.string κ.rule.text) (.int .i64 (κ.bear : Nat)) (.int .i64 (κ.win : Nat)) (.slice (some ⟨sa, 0, none⟩) n n) (.slice (some ⟨st, 0, none⟩) n n) (.slice (some ⟨g, 0, none⟩) (F.length + 1) cap) (.string ⟨#[103, 105, 118, 101, 110, 32, 117, 112]⟩)) from ?_)
    generalize set7 ((w4.drewN nq).setCell ⟨bx, 6, none⟩ (.string ⟨#[103, 105, 118, 101, 110, 32, 117, 112]⟩)) rx (.string κ.rule.text) (.int .i64 (κ.bear : Nat)) (.int .i64 (κ.win : Nat)) (.slice (some ⟨sa, 0, none⟩) n n) (.slice (some ⟨st, 0, none⟩) n n) (.slice (some ⟨g, 0, none⟩) (F.length + 1) cap) (.string ⟨#[103, 105, 118, 101, 110, 32, 117, 112]⟩) = w5 at *
    obtain ⟨t0, t1, t2, t3, t4, t5, t6⟩ := s7
    refine bodyPost_ret (v := ROOM κ sa st n (.slice (some ⟨g, 0, none⟩) (F.length + 1) cap) ⟨#[103, 105, 118, 101, 110, 32, 117, 112]⟩) (by simp [results, Try.results52, go_sem, ROOM, t0, t1, t2, t3, t4, t5, t6]) rfl ?_
    refine ⟨some ⟨g, 0, none⟩, cap, by rw [← hown0.out, hbe.out]; exact hplF.out, by rw [hT1]; rfl, K5.own, by simp [Value.ownBlock, hgx.2.2.1], by simp [Value.ownBlock, hgx.2.2.2], ?_, ?_, by rw [← hown0.out, hbe.out]; exact K5.below⟩
    · rw [hT1]; exact K5.s1
    · rw [hT1]; exact K5.s2
  · have hov2 : decide (κ.bear < rc) = false := by simpa using hov
    have hov3 : ¬ (κ.bear : Int) < (rc : Int) := by omega
    have hT1 := hT0.out
    rw [if_neg (by simpa using hov3)] at hT1
    replace hT1 : Hid _ := ⟨hT1⟩
    go_quiet ((go_at_call 66; exact Calls.quiet_of_same (c66.out _)))
    go_wp2
    refine task_loop hn hcc hs (K4.out.drewN nq).s1 (K4.out.drewN nq).s2 hne hbs1 hbs2 b0 b3 b4 ?_
    intro _ _ _ _ _ _ _ _ _ _ _ _ _ _ _ _ _ _ _ _ _ _ _ _ _ _ _ _ w6 hO hS6 hT6
    have K6 : Hid (Keep3 base bx sa st g n cap (F.length + 1) own0 (nums (F ++ [tick])) (fun l => if again κ.rule n i l then 0 else s.sum l) (fun l => if again κ.rule n i l then s.starts l + 1 else s.starts l) w w6) := ⟨⟨ownsRow_only (K4.out.drewN nq).own hO hgx.2.2.1 hgx.2.2.2, hS6, hT6, (K4.out.drewN nq).below.only hO⟩⟩
    have e0 : w6.cell? ⟨bx, 0, none⟩ = some (.string κ.rule.text) := (hO.cell hbs1 hbs2).1.trans b0
    have e1 : w6.cell? ⟨bx, 1, none⟩ = some (.int .i64 (κ.bear : Nat)) := (hO.cell hbs1 hbs2).1.trans b1
    have e2 : w6.cell? ⟨bx, 2, none⟩ = some (.int .i64 (κ.win : Nat)) := (hO.cell hbs1 hbs2).1.trans b2
    have e3 : w6.cell? ⟨bx, 3, none⟩ = some (.slice (some ⟨sa, 0, none⟩) n n) := (hO.cell hbs1 hbs2).1.trans b3
    have e4 : w6.cell? ⟨bx, 4, none⟩ = some (.slice (some ⟨st, 0, none⟩) n n) := (hO.cell hbs1 hbs2).1.trans b4
    have e5 : w6.cell? ⟨bx, 5, none⟩ = some (.slice (some ⟨g, 0, none⟩) (F.length + 1) cap) := (hO.cell hbs1 hbs2).1.trans b5
    have e6 : w6.cell? ⟨bx, 6, none⟩ = some (.string ⟨#[]⟩) := (hO.cell hbs1 hbs2).1.trans b6
    have x0 : w6.cell? ⟨rx, 0, none⟩ = some (.string ⟨#[]⟩) := (hO.cell hxs.1 hxs.2.1).1.trans r0
    have y0 : w6.frozen? ⟨rx, 0, none⟩ = false := (hO.cell hxs.1 hxs.2.1).2.trans q0
    have x1 : w6.cell? ⟨rx, 1, none⟩ = some (.int .i64 0) := (hO.cell hxs.1 hxs.2.1).1.trans r1
    have y1 : w6.frozen? ⟨rx, 1, none⟩ = false := (hO.cell hxs.1 hxs.2.1).2.trans q1
    have x2 : w6.cell? ⟨rx, 2, none⟩ = some (.int .i64 0) := (hO.cell hxs.1 hxs.2.1).1.trans r2
    have y2 : w6.frozen? ⟨rx, 2, none⟩ = false := (hO.cell hxs.1 hxs.2.1).2.trans q2
    have x3 : w6.cell? ⟨rx, 3, none⟩ = some (.slice none 0 0) := (hO.cell hxs.1 hxs.2.1).1.trans r3
    have y3 : w6.frozen? ⟨rx, 3, none⟩ = false := (hO.cell hxs.1 hxs.2.1).2.trans q3
    have x4 : w6.cell? ⟨rx, 4, none⟩ = some (.slice none 0 0) := (hO.cell hxs.1 hxs.2.1).1.trans r4
    have y4 : w6.frozen? ⟨rx, 4, none⟩ = false := (hO.cell hxs.1 hxs.2.1).2.trans q4
    have x5 : w6.cell? ⟨rx, 5, none⟩ = some (.slice none 0 0) := (hO.cell hxs.1 hxs.2.1).1.trans r5
    have y5 : w6.frozen? ⟨rx, 5, none⟩ = false := (hO.cell hxs.1 hxs.2.1).2.trans q5
    have x6 : w6.cell? ⟨rx, 6, none⟩ = some (.string ⟨#[]⟩) := (hO.cell hxs.1 hxs.2.1).1.trans r6
    have y6 : w6.frozen? ⟨rx, 6, none⟩ = false := (hO.cell hxs.1 hxs.2.1).2.trans q6
    clear hO hS6 hT6 K4 b0 b1 b2 b3 b4 b5 b6 r0 r1 r2 r3 r4 r5 r6 q0 q1 q2 q3 q4 q5 q6 c66
    go_wp2
    rw [hQ.out]
    have hT1 := hT1.out
    have K7 : Keep3 base bx sa st g n cap (F.length + 1) own0 (nums (F ++ [tick])) (fun l => if again κ.rule n i l then 0 else s.sum l) (fun l => if again κ.rule n i l then s.starts l + 1 else s.starts l) w (set7 w6 rx (.string κ.rule.text) (.int .i64 (κ.bear : Nat)) (.int .i64 (κ.win : Nat)) (.slice (some ⟨sa, 0, none⟩) n n) (.slice (some ⟨st, 0, none⟩) n n) (.slice (some ⟨g, 0, none⟩) (F.length + 1) cap) (.string ⟨#[]⟩)) :=
      ((((((K6.out.set _ hxs.1 hxs.2.1 hxs.2.2.1 hxs.2.2.2.1).set _ hxs.1 hxs.2.1 hxs.2.2.1 hxs.2.2.2.1).set _ hxs.1 hxs.2.1 hxs.2.2.1 hxs.2.2.2.1).set _ hxs.1 hxs.2.1 hxs.2.2.1 hxs.2.2.2.1).set _ hxs.1 hxs.2.1 hxs.2.2.1 hxs.2.2.2.1).set _ hxs.1 hxs.2.1 hxs.2.2.1 hxs.2.2.2.1).set _ hxs.1 hxs.2.1 hxs.2.2.1 hxs.2.2.2.1
    have s7 := set7_cells (w := w6) (rx := rx) (by
      intro j hj
      match j, hj with
      | 0, _ => exact ⟨_, x0⟩
      | 1, _ => exact ⟨_, x1⟩
      | 2, _ => exact ⟨_, x2⟩
      | 3, _ => exact ⟨_, x3⟩
      | 4, _ => exact ⟨_, x4⟩
      | 5, _ => exact ⟨_, x5⟩
      | 6, _ => exact ⟨_, x6⟩) (.string κ.rule.text) (.int .i64 (κ.bear : Nat)) (.int .i64 (κ.win : Nat)) (.slice (some ⟨sa, 0, none⟩) n n) (.slice (some ⟨st, 0, none⟩) n n) (.slice (some ⟨g, 0, none⟩) (F.length + 1) cap) (.string ⟨#[]⟩)
    refine (show bodyPost Try.prog Try.f52 _ .ret _ (set7 w6 rx (.string κ.rule.text) (.int .i64 (κ.bear : Nat)) (.int .i64 (κ.win : Nat)) (.slice (some ⟨sa, 0, none⟩) n n) (.slice (some ⟨st, 0, none⟩) n n) (.slice (some ⟨g, 0, none⟩) (F.length + 1) cap) (.string ⟨#[]⟩)) from ?_)
    generalize set7 w6 rx (.string κ.rule.text) (.int .i64 (κ.bear : Nat)) (.int .i64 (κ.win : Nat)) (.slice (some ⟨sa, 0, none⟩) n n) (.slice (some ⟨st, 0, none⟩) n n) (.slice (some ⟨g, 0, none⟩) (F.length + 1) cap) (.string ⟨#[]⟩) = w7 at *
    obtain ⟨t0, t1, t2, t3, t4, t5, t6⟩ := s7
    refine bodyPost_ret (v := ROOM κ sa st n (.slice (some ⟨g, 0, none⟩) (F.length + 1) cap) ⟨#[]⟩) (by simp [results, Try.results52, go_sem, ROOM, t0, t1, t2, t3, t4, t5, t6]) rfl ?_
    refine ⟨some ⟨g, 0, none⟩, cap, by rw [← hown0.out, hbe.out]; exact hplF.out, by rw [hT1]; rfl, K7.own, by simp [Value.ownBlock, hgx.2.2.1], by simp [Value.ownBlock, hgx.2.2.2], ?_, ?_, by rw [← hown0.out, hbe.out]; exact K7.below⟩
    · rw [hT1]; exact K7.s1
    · rw [hT1]; exact K7.s2
end Go.Town.Kp
namespace Go.Town.Kp
open Go Go.Conc Go.Conc.Lib Go.ConcR.Gen Go.RowKit Go.Town Go.Proofs
open Go.ConcN (upd upd_ne upd_same)
noncomputable def body39 : Code := Try.f39.body.getD .skip
structure Made4 (n : Nat) (κ : Kr) (W w' : World) (sa st fa bx : Nat) : Prop where
  below : Below W.heap.size W w'
  l1 : W.heap.size ≤ sa ∧ W.heap.size ≤ st ∧ W.heap.size ≤ fa ∧ W.heap.size ≤ bx
  ne : sa ≠ st ∧ sa ≠ fa ∧ sa ≠ bx ∧ st ≠ fa ∧ st ≠ bx ∧ fa ≠ bx
  hsa : w'.heap[sa]? = some (.cells (Array.replicate n (.int .i64 0)) 3)
  hst : w'.heap[st]? = some (.cells (Array.replicate n (.int .i64 0)) 3)
  hfa : w'.heap[fa]? = some (.cells #[] 3)
  hbx : w'.heap[bx]? = some (.cells #[.string κ.rule.text, .int .i64 (κ.bear : Nat), .int .i64 (κ.win : Nat), .slice (some ⟨sa, 0, none⟩) n n, .slice (some ⟨st, 0, none⟩) n n, .slice (some ⟨fa, 0, none⟩) 0 0, .string ⟨#[]⟩] 61)
theorem four0 (W : World) (a b c d : Obj) : ((((W.alloc a).alloc b).alloc c).alloc d).heap[W.heap.size]? = some a := heap_alloc_lt (heap_alloc_lt (heap_alloc_lt (alloc_self _ _)))
theorem four1 (W : World) (a b c d : Obj) : ((((W.alloc a).alloc b).alloc c).alloc d).heap[W.heap.size + 1]? = some b := by
  have e : (W.alloc a).heap.size = W.heap.size + 1 := World.size_alloc ..
  rw [← e]; exact heap_alloc_lt (heap_alloc_lt (alloc_self _ _))
theorem four2 (W : World) (a b c d : Obj) : ((((W.alloc a).alloc b).alloc c).alloc d).heap[W.heap.size + 2]? = some c := by
  have e : ((W.alloc a).alloc b).heap.size = W.heap.size + 2 := by rw [World.size_alloc, World.size_alloc]
  rw [← e]; exact heap_alloc_lt (alloc_self _ _)
theorem four3 (W : World) (a b c d : Obj) : ((((W.alloc a).alloc b).alloc c).alloc d).heap[W.heap.size + 3]? = some d := by
  have e : (((W.alloc a).alloc b).alloc c).heap.size = W.heap.size + 3 := by rw [World.size_alloc, World.size_alloc, World.size_alloc]
  rw [← e]; exact alloc_self _ _
theorem fourB (W : World) (a b c d : Obj) : Below W.heap.size W ((((W.alloc a).alloc b).alloc c).alloc d) :=
  ((((Below.refl _ W).alloc (Nat.le_refl _) _).alloc (by simp) _).alloc (by simp; omega) _).alloc (by simp; omega) _
theorem below_drew {B : Nat} {w w' : World} (h : Below B w w') : Below B w w'.drew := ⟨h.os, h.tape, h.output, h.size, h.block⟩
set_option maxRecDepth 100000 in
set_option maxHeartbeats 8000000 in
theorem run_mem {κ : Kr} {J : List (List Int)} {ta : Option Addr} {tc kb : Nat} {W : World} {Q : Exit → Act → World → Prop} {z0 z2 z4 z5 z6 z7 z8 z9 za zb zc zd ze zf zg zh zi zj zk zl zm zn zo zp zq zr zs zt zu zv zw zx zy zz zA zB zC zD zE zF zG zH zI zJ zK zL zM zN zO zP zQ zR zS zT zU : Value} (hn : J.length ≤ 4) (hbl : ∀ c a o v w, Q (.panic c) (Act.put a o v) w → Q (.panic c) a w) (hk : BoxAt kb κ W)
    (h : ∀ sa st fa bx w', Made4 J.length κ W w' sa st fa bx → Q .normal ⟨#[z0, .slice ta J.length tc, z2, .pointer (some ⟨kb, 0, none⟩), z4, z5, z6, z7, .pointer (some ⟨bx, 0, none⟩), z9, za, .agg #[.string κ.rule.text, .int .i64 (κ.bear : Nat), .int .i64 (κ.win : Nat)], .slice ta J.length tc, .int .i64 (J.length : Nat), .slice (some ⟨sa, 0, none⟩) J.length J.length, .slice ta J.length tc, .int .i64 (J.length : Nat), .slice (some ⟨st, 0, none⟩) J.length J.length, .slice (some ⟨fa, 0, none⟩) 0 0, .agg #[.string κ.rule.text, .int .i64 (κ.bear : Nat), .int .i64 (κ.win : Nat), .slice (some ⟨sa, 0, none⟩) J.length J.length, .slice (some ⟨st, 0, none⟩) J.length J.length, .slice (some ⟨fa, 0, none⟩) 0 0, .string ⟨#[]⟩], zk, zl, zm, zn, zo, zp, zq, zr, zs, zt, zu, zv, zw, zx, zy, zz, zA, zB, zC, zD, zE, zF, zG, zH, zI, zJ, zK, zL, zM, zN, zO, zP, zQ, zR, zS, zT, zU], []⟩ w') :
    (headC 1 body39).wp Try.prog Q ⟨#[z0, .slice ta J.length tc, z2, .pointer (some ⟨kb, 0, none⟩), z4, z5, z6, z7, z8, z9, za, zb, zc, zd, ze, zf, zg, zh, zi, zj, zk, zl, zm, zn, zo, zp, zq, zr, zs, zt, zu, zv, zw, zx, zy, zz, zA, zB, zC, zD, zE, zF, zG, zH, zI, zJ, zK, zL, zM, zN, zO, zP, zQ, zR, zS, zT, zU], []⟩ W := by
  have e1 := fun w => mk_ints w J.length (by omega)
  have k0 := hk.b0
  have k1 := hk.b1
  have k2 := hk.b2
  have m0 : ∀ o, (W.alloc o).cell? ⟨kb, 0, none⟩ = some (.string κ.rule.text) := fun o => cell_alloc k0
  have m1 : ∀ o, (W.alloc o).cell? ⟨kb, 1, none⟩ = some (.int .i64 (κ.bear : Nat)) := fun o => cell_alloc k1
  have m2 : ∀ o, (W.alloc o).cell? ⟨kb, 2, none⟩ = some (.int .i64 (κ.win : Nat)) := fun o => cell_alloc k2
  have n0 : ∀ o p, ((W.alloc o).alloc p).cell? ⟨kb, 0, none⟩ = some (.string κ.rule.text) := fun o p => cell_alloc (m0 o)
  have n1 : ∀ o p, ((W.alloc o).alloc p).cell? ⟨kb, 1, none⟩ = some (.int .i64 (κ.bear : Nat)) := fun o p => cell_alloc (m1 o)
  have n2 : ∀ o p, ((W.alloc o).alloc p).cell? ⟨kb, 2, none⟩ = some (.int .i64 (κ.win : Nat)) := fun o p => cell_alloc (m2 o)
  have o0 : ∀ o p q, (((W.alloc o).alloc p).alloc q).cell? ⟨kb, 0, none⟩ = some (.string κ.rule.text) := fun o p q => cell_alloc (n0 o p)
  have o1 : ∀ o p q, (((W.alloc o).alloc p).alloc q).cell? ⟨kb, 1, none⟩ = some (.int .i64 (κ.bear : Nat)) := fun o p q => cell_alloc (n1 o p)
  have o2 : ∀ o p q, (((W.alloc o).alloc p).alloc q).cell? ⟨kb, 2, none⟩ = some (.int .i64 (κ.win : Nat)) := fun o p q => cell_alloc (n2 o p)
  have p0 : ∀ o p q r, ((((W.alloc o).alloc p).alloc q).alloc r).cell? ⟨kb, 0, none⟩ = some (.string κ.rule.text) := fun o p q r => cell_alloc (o0 o p q)
  have p1 : ∀ o p q r, ((((W.alloc o).alloc p).alloc q).alloc r).cell? ⟨kb, 1, none⟩ = some (.int .i64 (κ.bear : Nat)) := fun o p q r => cell_alloc (o1 o p q)
  have p2 : ∀ o p q r, ((((W.alloc o).alloc p).alloc q).alloc r).cell? ⟨kb, 2, none⟩ = some (.int .i64 (κ.win : Nat)) := fun o p q r => cell_alloc (o2 o p q)
  replace h : Hid _ := ⟨h⟩
  replace hbl : Hid _ := ⟨hbl⟩
  clear hk
  simp only [headC, body39, Try.f39, Option.getD_some]
  go_region
  all_goals (refine h.out _ _ _ _ _ ⟨below_drew (fourB ..), ⟨by omega, by omega, by omega, by omega⟩, ⟨by omega, by omega, by omega, by omega, by omega, by omega⟩, ?_, ?_, ?_, ?_⟩)
  all_goals first | exact four0 _ _ _ _ _ | exact four1 _ _ _ _ _ | exact four2 _ _ _ _ _ | exact four3 _ _ _ _ _
end Go.Town.Kp
