/-
  markIntS, markIntSS, heldIntS.
  The lesser world of the beginning: what is there can be read, and nothing of it turns.
-/
import Derived.Test.YtihmcigoofhpmaaUaz
import Derived.Test.YtihmcigoofhpmaaUbe
import Derived.Test.YtihmcigoofhpmaaUbi
set_option linter.all false
namespace Go.Town.Kp
open Go Go.Conc Go.Conc.Lib Go.ConcR.Gen Go.RowKit Go.Town Go.Proofs
def Free1 (w : World) (g n : Nat) : Prop := ∀ j, j < n → (∃ v, w.cell? ⟨g, j, none⟩ = some v) ∧ w.frozen? ⟨g, j, none⟩ = false
def Counts (w : World) (g : Nat) (m : Int) (n : Nat) : Prop := ∀ j, j < n → w.cell? ⟨g, j, none⟩ = some (.int .i64 (m + j))
theorem Free1.set {w : World} {g n : Nat} (h : Free1 w g n) (x k : Nat) (v : Value) : Free1 (w.setCell ⟨x, k, none⟩ v) g n := fun j hj =>
  ⟨let ⟨u, hu⟩ := (h j hj).1; cell?_setCell_some hu, (frozen_setCell _ _ _ _).trans (h j hj).2⟩
theorem Counts.next {w : World} {g n k : Nat} {m : Int} (h : Counts w g m k) (hf : Free1 w g n) (hk : k < n) : Counts (w.setCell ⟨g, k, none⟩ (.int .i64 (m + k))) g m (k + 1) := fun j hj => by
  by_cases e : j = k
  · subst e; obtain ⟨u, hu⟩ := (hf j hk).1; exact cell_setCell_eq _ hu
  · rw [cell_setCell_ne _ _ (.inr (by omega))]; exact h j (by omega)
set_option maxRecDepth 100000 in
set_option maxHeartbeats 400000 in
theorem markIntS_any (g n c : Nat) (m : Int) (w : World) (hn : n ≤ 1048576) (h0 : 0 ≤ m) (h1 : m ≤ 1152921504606846976) (hf : Free1 w g n) :
    Calls Try.prog 23 #[.slice (some ⟨g, 0, none⟩) n c, .int .i64 m] w fun e w' => e = .returned (.int .i64 (m + n)) ∧ Counts w' g m n ∧ (∀ q, Free1 w g q → Free1 w' g q) ∧ Only g g w w' := by
  go_enter Try.func23, Try.ntmps23
  go_wp2
  go_loopw [1, 5] (fun r i wr => ∃ k : Nat, k ≤ n ∧ i = .int .i64 k ∧ r = .int .i64 (m + k) ∧ RowKit.Hid (Counts wr g m k ∧ (∀ q, Free1 w g q → Free1 wr g q) ∧ Only g g w wr)) (fun _ i _ => n - (intOf i).toNat)
  case atStart => exact ⟨0, Nat.zero_le _, rfl, by simp, ⟨fun j hj => by omega, fun _ h => h, Only.refl _ _ _⟩⟩
  case round =>
    obtain ⟨k, hk, rfl, rfl, hH⟩ := hrel
    by_cases hlt : k < n
    · obtain ⟨v, hv⟩ := (hH.out.2.1 n hf k hlt).1
      have hfr := (hH.out.2.1 n hf k hlt).2
      have hlt' : (k : Int) < (n : Int) := by omega
      have hs : IntKind.i64.wrap (m + (k : Int) + 1) = m + (k : Int) + 1 := IntWalk.i64_in _ (by omega)
      have hnx : RowKit.Hid (Counts (wr.setCell ⟨g, k, none⟩ (.int .i64 (m + k))) g m (k + 1) ∧ (∀ q, Free1 w g q → Free1 (wr.setCell ⟨g, k, none⟩ (.int .i64 (m + k))) g q) ∧ Only g g w (wr.setCell ⟨g, k, none⟩ (.int .i64 (m + k)))) := ⟨hH.out.1.next (hH.out.2.1 n hf) hlt, fun q hq => (hH.out.2.1 q hq).set _ _ _, hH.out.2.2.set _ (.inl rfl)⟩
      go_wp2
      go_roundw
      case rel => exact ⟨k + 1, by omega, by go_num, by go_num, hnx⟩
      case measure => simp [intOf]; omega
    · obtain rfl : k = n := by omega
      go_wp2
      go_ret
      exact ⟨rfl, hH.out⟩
set_option maxRecDepth 100000 in
set_option maxHeartbeats 400000 in
theorem heldIntS_any (g n c : Nat) (m : Int) (w : World) (hn : n ≤ 1048576) (h0 : 0 ≤ m) (h1 : m ≤ 1152921504606846976) (hA : Counts w g m n) :
    Calls Try.prog 24 #[.slice (some ⟨g, 0, none⟩) n c, .int .i64 m] w fun e w' => e = .returned (.int .i64 (m + n)) ∧ w = w' := by
  go_enter Try.func24, Try.ntmps24
  go_wp2
  go_loop [1, 5] (fun r i => ∃ k : Nat, k ≤ n ∧ i = .int .i64 k ∧ r = .int .i64 (m + k)) (fun _ i => n - (intOf i).toNat)
  case atStart => exact ⟨0, Nat.zero_le _, rfl, by simp⟩
  case round =>
    obtain ⟨k, hk, rfl, rfl⟩ := hrel
    by_cases hlt : k < n
    · have hck := hA k hlt
      have hlt' : (k : Int) < (n : Int) := by omega
      have hs : IntKind.i64.wrap (m + (k : Int) + 1) = m + (k : Int) + 1 := IntWalk.i64_in _ (by omega)
      go_wp2
      go_round
      case rel => exact ⟨k + 1, by omega, by go_num, by go_num⟩
      case measure => simp [intOf]; omega
    · obtain rfl : k = n := by omega
      go_wp2
      go_ret
      exact ⟨rfl, rfl⟩
structure Marked (b B : Nat) (w w' : World) : Prop where
  size : w'.heap.size = w.heap.size
  os : w'.os = w.os
  tape : w'.tape = w.tape
  out : w'.output = w.output
  block : ∀ r : Nat, r ≤ b ∨ B ≤ r → w'.heap[r]? = w.heap[r]?
theorem Marked.refl (b B : Nat) (w : World) : Marked b B w w := ⟨rfl, rfl, rfl, rfl, fun _ _ => rfl⟩
theorem Marked.only {b B g : Nat} {w w' w'' : World} (h : Marked b B w w') (k : Only g g w' w'') (hg : b < g) (hB : g < B) : Marked b B w w'' :=
  ⟨k.size.trans h.size, k.os.trans h.os, k.tape.trans h.tape, k.output.trans h.out, fun r hr => (k.block r (by omega) (by omega)).trans (h.block r hr)⟩
theorem Marked.cell {b B : Nat} {w w' : World} (h : Marked b B w w') {x j : Nat} (hx : x ≤ b ∨ B ≤ x) : w'.cell? ⟨x, j, none⟩ = w.cell? ⟨x, j, none⟩ ∧ w'.frozen? ⟨x, j, none⟩ = w.frozen? ⟨x, j, none⟩ :=
  ⟨World.cell?_of_block (h.block x hx), World.frozen?_of_block (h.block x hx)⟩
def Outer (b B : Nat) (J : List (List Int)) (w : World) : Prop := ∀ j (h : j < J.length), ∃ r, b < r ∧ r < B ∧ w.cell? ⟨b, j, none⟩ = some (.slice (some ⟨r, 0, none⟩) J[j].length J[j].length) ∧ Free1 w r J[j].length
theorem Copied.outer' {b : Nat} {J : List (List Int)} {w : World} (h : Copied b J J.length w) : Outer b w.heap.size J w := fun j hj => by
  obtain ⟨cs, h1, h2, h3⟩ := h.outer
  obtain ⟨r, g1, g2, g3, g4⟩ := h3 j hj hj
  exact ⟨r, g1, g2, by simp [World.cell?, h1]; exact g3, fun i hi => ⟨⟨_, by simp [World.cell?, g4, ints]; exact ⟨_, List.getElem?_eq_getElem hi, rfl⟩⟩, by simp [World.frozen?, g4]⟩⟩
theorem Outer.only {b B g : Nat} {J : List (List Int)} {w w' : World} (h : Outer b B J w) (k : Only g g w w') (hg : b < g) (hf : ∀ q, Free1 w g q → Free1 w' g q) : Outer b B J w' := fun j hj => by
  obtain ⟨r, h1, h1', h2, h3⟩ := h j hj
  refine ⟨r, h1, h1', (k.cell (by omega) (by omega)).1.trans h2, ?_⟩
  by_cases e : r = g
  · subst e; exact hf _ h3
  · exact fun i hi => by
      have := k.cell (x := r) (j := i) e e
      exact ⟨by rw [this.1]; exact (h3 i hi).1, this.2.trans (h3 i hi).2⟩
theorem Outer.kin {b B : Nat} {J : List (List Int)} {w w' : World} (h : Outer b B J w) (k : Kin B w w') (hb : b < B) : Outer b B J w' := fun j hj => by
  obtain ⟨r, h1, h1', h2, h3⟩ := h j hj
  refine ⟨r, h1, h1', k.cells _ _ _ hb h2, fun i hi => ?_⟩
  obtain ⟨v, hv⟩ := (h3 i hi).1
  exact ⟨⟨v, k.cells _ _ _ h1' hv⟩, k.thaw _ _ _ h1' hv (h3 i hi).2⟩
set_option maxRecDepth 100000 in
set_option maxHeartbeats 400000 in
theorem markIntSS_any (b B c : Nat) (m : Int) (J : List (List Int)) (w : World) (hn : J.length ≤ 1048576) (hm : ∀ l ∈ J, l.length ≤ 1048576) (h0 : 0 ≤ m) (h1 : m ≤ 1048576) (hO : Outer b B J w) :
    Calls Try.prog 22 #[.slice (some ⟨b, 0, none⟩) J.length c, .int .i64 m] w fun e w' => (∃ v : Int, e = .returned (.int .i64 v) ∧ 0 ≤ v) ∧ Marked b B w w' := by
  go_enter Try.func22, Try.ntmps22
  go_wp2
  go_loopw [1, 5] (fun r i wr => ∃ (k : Nat) (v : Int), k ≤ J.length ∧ i = .int .i64 k ∧ r = .int .i64 v ∧ RowKit.Hid (0 ≤ v ∧ v ≤ 1048576 + 1048576 * (k : Int) ∧ Outer b B J wr ∧ Marked b B w wr)) (fun _ i _ => J.length - (intOf i).toNat)
  case atStart => exact ⟨0, m, Nat.zero_le _, rfl, rfl, ⟨h0, by simpa using h1, hO, Marked.refl _ _ _⟩⟩
  case round =>
    obtain ⟨k, v, hk, rfl, rfl, hH⟩ := hrel
    by_cases hlt : k < J.length
    · obtain ⟨v0, v1, hO1, hM1⟩ := hH.out
      obtain ⟨r, hr, hrB, hck, hfr⟩ := hO1 k hlt
      have hlt' : (k : Int) < (J.length : Int) := by omega
      have hml := hm _ (List.getElem_mem hlt)
      have c23 : RowKit.Hid (Calls Try.prog 23 #[.slice (some ⟨r, 0, none⟩) J[k].length J[k].length, .int .i64 v] wr fun e w' => e = .returned (.int .i64 (v + J[k].length)) ∧ RowKit.Hid (0 ≤ v + (J[k].length : Int) ∧ v + (J[k].length : Int) ≤ 1048576 + 1048576 * ((k + 1 : Nat) : Int) ∧ Outer b B J w' ∧ Marked b B w w')) :=
        (markIntS_any r J[k].length J[k].length v wr hml v0 (by omega) hfr).mono fun e w' ⟨he, _, h2, h3⟩ => ⟨he, by omega, by push_cast; omega, hO1.only h3 hr h2, hM1.only h3 hr hrB⟩
      clear hO1 hM1 hfr hO hm
      go_wp2_with (go_at_call 23; (with_reducible refine c23.out.mono ?_); rintro e w' ⟨rfl, hH2⟩)
      go_roundw
      case rel => exact ⟨k + 1, _, by omega, by go_num, rfl, hH2⟩
      case measure => simp [intOf]; omega
    · obtain rfl : k = J.length := by omega
      go_wp2
      go_ret
      exact ⟨⟨v, rfl, hH.out.1⟩, hH.out.2.2.2⟩
end Go.Town.Kp
namespace Go.Town
open Go Go.RowKit Go.Conc Go.Town.Kp
def shutO : Obj → Obj
  | .cells c e _ => .cells c e (0, c.size)
  | .map _ _ => .coro none
  | .pending _ _ => .coro none
  | .view a t => .view { a with spot := some 0 } t
  | .chan cap buf _ s r tm => .chan cap buf true s r tm
  | o => o
def shutW (w : World) : World := { w with heap := w.heap.map shutO }
theorem shutW_heap (w : World) (b : Nat) : (shutW w).heap[b]? = (w.heap[b]?).map shutO := by simp [shutW]
theorem shutW_size (w : World) : (shutW w).heap.size = w.heap.size := by simp [shutW]
theorem weak_shut (w : World) : Weak (shutW w) w := by
  refine ⟨shutW_size w, fun b o o' h1 h2 => ?_, rfl, rfl, fun b o h1 => ?_⟩
  · rw [shutW_heap, h2] at h1
    cases h1
    cases o' with
    | cells c e f => exact .cut (Nat.le_refl _) (fun _ _ => rfl) (fun k hk _ => by simp [frz, hk])
    | map es clock => exact .blind (.map _ _)
    | pending c e => exact .blind (.late _ _)
    | view a t => exact .blind (.view _ _ _)
    | chan cap buf cl s r tm => exact .blind (.chan _ _ _ _ _ _)
    | _ => exact .same _
  · rw [shutW_heap] at h1
    obtain ⟨p, _, rfl⟩ := Option.map_eq_some_iff.1 h1
    cases p <;> rfl
theorem shut_shut (w : World) : Shut w.heap.size w (shutW w) := by
  refine ⟨by rw [shutW_size]; exact Nat.le_refl _, fun b o _ h1 => ?_⟩
  rw [shutW_heap] at h1
  obtain ⟨p, hp, rfl⟩ := Option.map_eq_some_iff.1 h1
  refine ⟨p, hp, ?_⟩
  cases p with
  | cells c e f => exact .cells (fun k hk => by simp [frz, hk])
  | _ => exact .other rfl rfl rfl rfl
theorem shutW_cell (w : World) (a : Addr) : (shutW w).cell? a = w.cell? a := by
  unfold World.cell?
  rw [shutW_heap]
  cases w.heap[a.block]? with
  | none => rfl
  | some p => cases p <;> rfl
section
variable {P : Program} {b o : Nat} {Post : Value → World → Prop}
theorem Can.first {a : Goroutine} {w : World} (h : Can P (Cfg.empty ⟨b, o, none⟩) b o Post 0 Alone (shutW w) a) : Ends P (fun v w' => Post v w' ∧ Below w.heap.size w w') (solo a w) #[] :=
  Can.start (weak_shut w) (shut_shut w) h
theorem Can.firstB {B : Nat} (hB : 1 ≤ B) {a : Goroutine} {w : World} (h : Can P (Cfg.empty ⟨b, o, none⟩) b o Post 0 (AloneB B) (shutW w) a) : Ends P (fun v w' => Post v w' ∧ Below w.heap.size w w') (solo a w) #[] := by
  rw [solo_eq_crowd]
  exact h _ _ _ _ _ none _ (Town.start P b o NoG NoG a w) rfl ⟨⟨rfl, hush₀⟩, hB⟩ rfl (weak_shut w) _ w (shut_shut w) (Below.refl _ _)
theorem lay_empty (a : Addr) (w : World) : Lay (Cfg.empty a) w := ⟨⟨fun b k hk => by rcases hk with h | h | ⟨g, h⟩ <;> exact h.elim, fun b k hk => by obtain ⟨g, h⟩ := hk; first | exact h.elim | (rcases h with h | h <;> exact h.2.elim)⟩, fun g r => ⟨fun h => h, fun h => h⟩⟩
end
end Go.Town
