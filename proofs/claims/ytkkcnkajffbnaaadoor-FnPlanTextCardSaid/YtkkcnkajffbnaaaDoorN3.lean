/-
  A drawn deed of single lines: l1Words, l1Deed, l1One.
-/
import Derived.Test.YtkkcnkajffbnaaaDoorY7
import Derived.Test.YtkkcnkajffbnaaaDoorX3
namespace Go.Proofs.YtkkcnkajffbnaaaDoor
open Go.RowKit
set_option linter.all false

theorem hidC {P : Program} {f : FuncId} {args : Array Value} {w : World} {Q : Ending → World → Prop} (h : Calls P f args w Q) : Hid (Calls P f args w Q) := h
theorem Rd.alloc {w : World} {g0 g p : Nat} (h : Rd w g0 g p) (o : Obj) : Rd (w.alloc o) g0 g p := h.kept (World.grownBy_alloc w o none) (fun r e => by cases e) h.lt
/-- What a call of the reader leaves: the reader goes on, and nothing else of what was there has turned. -/
def RdOn (w : World) (g0 g p : Nat) (w' : World) : Prop := Rd w' g0 g (p + 1) ∧ w.grownBy w' (some g)
theorem num_new {g0 g p gl n : Nat} (zs : List Int) (t : TypeId) {w : World} (hR : Rd w g0 g p) (hp : p ≤ 1000000000) (hgl : gl = w.heap.size) (hn : zs.length = n) (hz : 0 < n) (hz2 : n ≤ 1000) :
    Calls Tryd.prog 46 #[.pointer (some ⟨g, 0, none⟩), .slice (some ⟨gl, 0, none⟩) n n] (w.alloc (.cells (zs.map (Value.int .i64)).toArray t)) fun e w' => ∃ x : Int, e = .returned (.int .i64 x) ∧ x ∈ zs ∧ Hid (RdOn w g0 g p w') := by
  subst hgl hn
  have hlt := hR.lt
  refine (num_any g0 g p w.heap.size _ zs _ (hR.alloc _) hp (by omega) (by simp) (fun e => by simp [e] at hz) hz2 (fun i hi => ?_)).mono fun e w' ⟨x, h1, h2, h3, h4⟩ => ⟨x, h1, h2, h3, (World.grownBy_alloc w _ _).trans h4⟩
  rw [blk_cell (heap_alloc_new w _)]; simp [hi]
theorem of_new {g0 g p gl n : Nat} (ws : List (List UInt8)) (t : TypeId) {w : World} (hR : Rd w g0 g p) (hp : p ≤ 1000000000) (hgl : gl = w.heap.size) (hn : ws.length = n) (hz : 0 < n) (hz2 : n ≤ 1000) :
    Calls Tryd.prog 47 #[.pointer (some ⟨g, 0, none⟩), .slice (some ⟨gl, 0, none⟩) n n] (w.alloc (.cells (ws.map fun s => Value.string ⟨s.toArray⟩).toArray t)) fun e w' => ∃ x : List UInt8, e = .returned (.string ⟨x.toArray⟩) ∧ x ∈ ws ∧ Hid (RdOn w g0 g p w') := by
  subst hgl hn
  have hlt := hR.lt
  refine (of_any g0 g p w.heap.size _ ws _ (hR.alloc _) hp (by omega) (fun e => by simp [e] at hz) hz2 ⟨by simp, fun i hi => ?_⟩).mono fun e w' ⟨x, h1, h2, h3, h4⟩ => ⟨x, h1, h2, h3, (World.grownBy_alloc w _ _).trans h4⟩
  rw [blk_cell (heap_alloc_new w _)]; simp [hi]
theorem pick_new {g0 g p : Nat} {n : Int} {w : World} (hR : Rd w g0 g p) (hp : p ≤ 1000000000) (hn : n ≤ 1000000000) :
    Calls Tryd.prog 45 #[.pointer (some ⟨g, 0, none⟩), .int .i64 n] w fun e w' => ∃ x : Nat, e = .returned (.int .i64 x) ∧ (((x : Nat) : Int) < n ∨ x = 0) ∧ Hid (RdOn w g0 g p w') :=
  (pick_any g0 g p n w hR hp hn).mono fun e w' ⟨x, h1, h2, h3, h4, h5⟩ => by
    obtain ⟨m, rfl⟩ := Int.eq_ofNat_of_zero_le h2
    exact ⟨m, h1, h3.imp id (fun h => by omega), h4, h5⟩
/-- A deed as it is drawn. -/
structure DrawnD (d : Dd) : Prop where
  len : d.act.length ≤ 10
  s : (32 : UInt8) ∉ d.act
  c : (44 : UInt8) ∉ d.act
  l0 : -1 ≤ d.line
  l1 : d.line ≤ 9223372036854775807
  w0 : -1 ≤ d.word
  w1 : d.word ≤ 9223372036854775807
/-- The rows of deeds of our own. -/
theorem grown_on {w w' w'' : World} {g : Nat} {row : Option Nat} (h : w.grownBy w' (some g)) (k : w'.grownBy w'' row) (hr : ∀ r, row = some r → r = g ∨ w.heap.size ≤ r) : w.grownBy w'' (some g) :=
  ⟨k.os.trans h.os, k.tape.trans h.tape, k.output.trans h.output, Nat.le_trans h.size k.size, fun i hi hne => (k.block i (Nat.lt_of_lt_of_le hi h.size) (fun e => by rcases hr i e.symm with h | h; exact hne (by rw [h]); omega)).trans (h.block i hi hne)⟩
theorem grownBy_set_new {w w' : World} {r : Option Nat} {x j : Nat} (h : w.grownBy w' r) (hx : w.heap.size ≤ x) (v : Value) : w.grownBy (w'.setCell ⟨x, j, none⟩ v) r :=
  ⟨h.os, h.tape, h.output, by rw [World.size_setCell]; exact h.size, fun k hk hne => (Below.heap_setCell _ _ _ k (by simp; omega)).trans (h.block k hk hne)⟩
/-- The cells of a block. -/
def Reads (w : World) (x : Nat) (vs : List Value) : Prop := ∀ j, j < vs.length → w.cell? ⟨x, j, none⟩ = vs[j]? ∧ w.frozen? ⟨x, j, none⟩ = false
theorem reads_block {w : World} {x : Nat} {vs : List Value} {t : TypeId} (h : w.heap[x]? = some (.cells vs.toArray t)) : Reads w x vs := fun j hj => ⟨by rw [blk_cell h]; simp, blk_frozen h⟩
theorem Reads.grown {w w' : World} {x g : Nat} {vs : List Value} (h : Reads w x vs) (k : w.grownBy w' (some g)) (hx : x < w.heap.size) (hne : x ≠ g) : Reads w' x vs := fun j hj => by
  have hb := k.block x hx (by intro e; injection e with e; exact hne e)
  rw [World.cell?_of_block hb, World.frozen?_of_block hb]; exact h j hj
theorem Reads.alloc {w : World} {x : Nat} {vs : List Value} (h : Reads w x vs) (hx : x < w.heap.size) (o : Obj) : Reads (w.alloc o) x vs := fun j hj => by
  have hb := (World.grownBy_alloc w o none).block x hx (by simp)
  rw [World.cell?_of_block hb, World.frozen?_of_block hb]; exact h j hj
end Go.Proofs.YtkkcnkajffbnaaaDoor
namespace Go.Proofs.YtkkcnkajffbnaaaDoor
open Go.RowKit

set_option maxRecDepth 100000 in
set_option maxHeartbeats 1000000 in
theorem l1Words_any (act : List UInt8) (w : World) : Calls Tryd.prog 96 #[.string ⟨act.toArray⟩] w fun e w' => ∃ b, e = .returned (.bool b) ∧ w = w' := by
  go_enter Tryd.func96, Tryd.ntmps96
  go_wp2
  go_ret
  exact ⟨_, rfl, rfl⟩
set_option maxRecDepth 100000 in
set_option maxHeartbeats 2000000 in
theorem l1Deed_any (d : Dd) (n : Int) (w : World) : Calls Tryd.prog 77 #[deedV d, .int .i64 n] w fun e w' => ∃ b, e = .returned (.bool b) ∧ w' = w.alloc (.cells d.cells.toArray 47) := by
  obtain ⟨act, line, word⟩ := d
  have c59 := fun w => hidC (l1Act_any act w)
  have c96 := fun w => hidC (l1Words_any act w)
  have c41 := fun n lo hi w => hidC (l1In_any n lo hi w)
  unfold deedV
  simp only
  go_enter Tryd.func77, Tryd.ntmps77
  go_wp2_with fail
  refine (c59 _).out.mono ?_
  rintro e w' ⟨rfl, rfl⟩
  generalize act1 act = b1
  cases b1
  · go_wp2
    go_ret
    exact ⟨_, rfl, rfl⟩
  go_wp2_with fail
  refine (c41 _ _ _ _).out.mono ?_
  rintro e w' ⟨rfl, rfl⟩
  generalize (decide (0 ≤ line) && decide (line ≤ n)) = b2
  cases b2
  · go_wp2
    go_ret
    exact ⟨_, rfl, rfl⟩
  go_wp2_with fail
  refine (c41 _ _ _ _).out.mono ?_
  rintro e w' ⟨rfl, rfl⟩
  generalize (decide (0 ≤ word) && decide (word ≤ 1000)) = b3
  cases b3
  · go_wp2
    go_ret
    exact ⟨_, rfl, rfl⟩
  go_wp2_with fail
  refine (c96 _).out.mono ?_
  rintro e w' ⟨b4, rfl, rfl⟩
  cases b4 <;> go_wp2 <;> go_ret <;> exact ⟨_, rfl, rfl⟩
end Go.Proofs.YtkkcnkajffbnaaaDoor
