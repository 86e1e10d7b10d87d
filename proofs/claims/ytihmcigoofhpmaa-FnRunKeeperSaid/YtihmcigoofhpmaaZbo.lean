/-
  The reference's drawn tasks: l9Tasks.
  The walk of l9Tasks.
  The reference's draws of a keeper's run: DrawRunKeeper, DrawSumsAfter.
-/
import Derived.Deep.RegionHeld3
import Derived.Test.YtihmcigoofhpmaaZbn
set_option linter.all false
namespace Go.Town.Kp
open Go Go.Conc Go.Conc.Lib Go.ConcR.Gen Go.RowKit Go.Town Go.Proofs
def Row1 (w : World) (base B : Nat) (u : Value) (l : List Int) : Prop :=
  ∃ a c, u = .slice a l.length c ∧ l.length ≤ c ∧ (l = [] ∨ ∃ x off, a = some ⟨x, off, none⟩ ∧ base ≤ x ∧ x < B ∧ ∀ j (hj : j < l.length), w.cell? ⟨x, off + j, none⟩ = some (.int .i64 l[j]))
theorem Row1.kept {w w' : World} {base B B' : Nat} {u : Value} {l : List Int} (h : Row1 w base B u l) (hB : B ≤ B') (hk : ∀ x j, base ≤ x → x < B → w'.cell? ⟨x, j, none⟩ = w.cell? ⟨x, j, none⟩) : Row1 w' base B' u l := by
  obtain ⟨a, c, h1, hc, h2⟩ := h
  refine ⟨a, c, h1, hc, ?_⟩
  rcases h2 with h2 | ⟨x, off, h3, h4, h5, h6⟩
  · exact .inl h2
  · exact .inr ⟨x, off, h3, h4, by omega, fun j hj => (hk _ _ h4 h5).trans (h6 j hj)⟩
def CapsIn (B : Nat) (w : World) (a : Option Addr) (T : List (List Int)) : Prop :=
  T = [] ∨ ∃ b off, a = some ⟨b, off, none⟩ ∧ b < B ∧ ∀ i, i < T.length → ∃ a' c', w.cell? ⟨b, off + i, none⟩ = some (.slice a' (T.getD i []).length c') ∧ (T.getD i []).length ≤ c'
structure NestV (w : World) (base B : Nat) (v : Value) (J : List (List Int)) (vs : List Value) : Prop where
  own : w.ownsRow base 28 1 v J.length vs
  top : ∀ r, v.ownBlock = some r → r < B
  row : ∀ i (h : i < J.length), ∃ u, vs[i]? = some u ∧ Row1 w base B u J[i] ∧ ∀ r, u.ownBlock = some r → J[i] ≠ [] → v.ownBlock ≠ some r
theorem NestV.kept {w w' : World} {base B : Nat} {v : Value} {J : List (List Int)} {vs : List Value} {row : Option Nat} (h : NestV w base B v J vs) (hB : B ≤ w.heap.size) (hg : w.grownBy w' row) (hr : ∀ r, row = some r → r < base ∨ B ≤ r) : NestV w' base B v J vs := by
  refine ⟨h.own.kept hg ?_, h.top, fun i hi => ?_⟩
  · cases e : v.ownBlock with
    | none => exact .inl rfl
    | some r =>
      refine .inr fun e' => ?_
      have h1 := h.own.lt r e
      have h2 := h.top r e
      rcases hr r e'.symm with h | h <;> omega
  · obtain ⟨u, h1, h2, h3⟩ := h.row i hi
    refine ⟨u, h1, h2.kept (Nat.le_refl _) fun x j hx1 hx2 => World.cell?_of_block (hg.block x (by omega) fun e => ?_), h3⟩
    rcases hr x e.symm with h | h <;> omega
theorem NestV.same {w w' : World} {base B : Nat} {v : Value} {J : List (List Int)} {vs : List Value} (h : NestV w base B v J vs) (hk : ∀ x, base ≤ x → x < B → w'.heap[x]? = w.heap[x]?) : NestV w' base B v J vs := by
  refine ⟨⟨h.own.1, ?_⟩, h.top, fun i hi => ?_⟩
  · rcases h.own.2 with h2 | ⟨g, cap, cur, rfl, hb, hg, rest⟩
    · exact .inl h2
    · exact .inr ⟨g, cap, cur, rfl, hb, (hk g hb (h.top g rfl)).trans hg, rest⟩
  · obtain ⟨u, h1, h2, h3⟩ := h.row i hi
    exact ⟨u, h1, h2.kept (Nat.le_refl _) fun x j hx1 hx2 => World.cell?_of_block (hk x hx1 hx2), h3⟩
theorem Row1.base {w : World} {b b' B : Nat} {u : Value} {l : List Int} (h : Row1 w b B u l) (hb : b' ≤ b) : Row1 w b' B u l := by
  obtain ⟨a, c, h1, hc, h2⟩ := h
  refine ⟨a, c, h1, hc, ?_⟩
  rcases h2 with h2 | ⟨x, off, h3, h4, h5, h6⟩
  · exact .inl h2
  · exact .inr ⟨x, off, h3, by omega, h5, h6⟩
theorem Row1.alloc {w : World} {b : Nat} {u : Value} {l : List Int} (h : Row1 w b w.heap.size u l) (o : Obj) : Row1 (w.alloc o) b (w.alloc o).heap.size u l :=
  h.kept (by rw [World.size_alloc]; omega) fun x j _ hx => World.cell?_of_block ((World.grownBy_alloc w o none).block x hx (by simp))
theorem row1_lit {w : World} {b : Nat} {cs : Array Value} {l : List Int} {c : Nat} {t : TypeId} (hb : b ≤ w.heap.size) (hc : cs = (l.map (Value.int .i64)).toArray) {x : Nat} (hx : x = w.heap.size) {n : Nat} (hn : n = l.length) (hcap : n ≤ c) : Row1 (w.alloc (.cells cs t)) b (w.alloc (.cells cs t)).heap.size (.slice (some ⟨x, 0, none⟩) n c) l := by
  subst hc hx hn
  refine ⟨_, c, rfl, hcap, .inr ⟨w.heap.size, 0, rfl, hb, by rw [World.size_alloc]; omega, fun j hj => ?_⟩⟩
  rw [Nat.zero_add, blk_cell (alloc_self w _)]; simp [hj]
theorem own_slice {w : World} {b size n : Nat} {e : TypeId} {v : Value} {xs : List Value} (h : w.ownsRow b e size v n xs) : ∃ a c, v = .slice a n c := by
  rcases h.2 with ⟨rfl, rfl⟩ | ⟨g, cap, cur, rfl, _⟩
  · exact ⟨_, _, rfl⟩
  · exact ⟨_, _, rfl⟩
theorem NestV.push {w wa w' : World} {base B : Nat} {v v' : Value} {J L : List (List Int)} {vs news : List Value} (h : NestV w base B v J vs) (hB : B ≤ w.heap.size) (hg : w.grownBy wa none)
    (hn : ∀ i (h : i < L.length), ∃ u, news[i]? = some u ∧ Row1 wa B wa.heap.size u L[i]) (hb : base ≤ B)
    (hown : w'.ownsRow base 28 1 v' (J.length + L.length) (vs ++ news)) (hgr : wa.grownBy w' v.ownBlock) (hat : v'.ownBlock = v.ownBlock ∨ v'.ownBlock = some wa.heap.size) : NestV w' base w'.heap.size v' (J ++ L) (vs ++ news) := by
  have hl : vs.length = J.length := by have := h.own.1; omega
  have hs1 := hg.size
  have hs2 := hgr.size
  refine ⟨by rw [List.length_append]; exact hown, fun r e => (hown.lt r e).2, fun i hi => ?_⟩
  have keep : ∀ x j, base ≤ x → x < wa.heap.size → v.ownBlock ≠ some x → w'.cell? ⟨x, j, none⟩ = wa.cell? ⟨x, j, none⟩ := fun x j _ hx hne => World.cell?_of_block (hgr.block x hx fun e => hne e.symm)
  by_cases hij : i < J.length
  · obtain ⟨u, h1, ⟨a, c, rfl, hcap, h2⟩, h3⟩ := h.row i hij
    rw [List.getElem_append_left hij]
    refine ⟨_, by rw [List.getElem?_append_left (by omega)]; exact h1, ⟨a, c, rfl, hcap, ?_⟩, fun r e hne e' => ?_⟩
    · rcases h2 with h2 | ⟨x, off, rfl, h4, h5, h6⟩
      · exact .inl h2
      · by_cases hne : J[i] = []
        · exact .inl hne
        · refine .inr ⟨x, off, rfl, h4, by omega, fun j hj => ?_⟩
          rw [keep x _ h4 (by omega) (h3 x rfl hne)]
          exact (World.cell?_of_block (hg.block x (by omega) (by simp))).trans (h6 j hj)
    · rcases hat with hat | hat
      · exact h3 r e hne (hat ▸ e')
      · rcases h2 with h2 | ⟨x, off, rfl, h4, h5, h6⟩
        · exact hne h2
        · simp only [Value.ownBlock, Option.some.injEq] at e
          subst e
          rw [hat] at e'
          simp only [Option.some.injEq] at e'
          omega
  · have hi2 : i - J.length < L.length := by simp only [List.length_append] at hi; omega
    obtain ⟨u, h1, ⟨a, c, rfl, hcap, h2⟩⟩ := hn (i - J.length) hi2
    have hgl : (J ++ L)[i] = L[i - J.length] := by rw [List.getElem_append_right (by omega)]
    rw [hgl]
    refine ⟨_, by rw [List.getElem?_append_right (by omega), hl]; exact h1, ⟨a, c, rfl, hcap, ?_⟩, fun r e hne e' => ?_⟩
    · rcases h2 with h2 | ⟨x, off, rfl, h4, h5, h6⟩
      · exact .inl h2
      · refine .inr ⟨x, off, rfl, by omega, by omega, fun j hj => (keep x _ (by omega) h5 fun e => ?_).trans (h6 j hj)⟩
        have := h.top x e; omega
    · rcases h2 with h2 | ⟨x, off, rfl, h4, h5, h6⟩
      · exact hne h2
      · simp only [Value.ownBlock, Option.some.injEq] at e
        subst e
        rcases hat with hat | hat
        · have := h.top x (hat ▸ e'); omega
        · rw [hat] at e'; simp only [Option.some.injEq] at e'; omega
theorem NestV.rows {w : World} {base B : Nat} {v : Value} {J : List (List Int)} {vs : List Value} (h : NestV w base B v J vs) (hB : B ≤ w.heap.size) : ∃ a c, v = .slice a J.length c ∧ RowsAt w a J ∧ CapsIn w.heap.size w a J := by
  have hval : ∃ a c, v = .slice a J.length c := by
    rcases h.own.2 with ⟨rfl, h0⟩ | ⟨g, cap, cur, rfl, _⟩
    · exact ⟨_, _, by rw [h0]⟩
    · exact ⟨_, _, rfl⟩
  obtain ⟨a, c, rfl⟩ := hval
  obtain ⟨hl, hv | ⟨g, cap, cur, e, hb, hg, _, _, _, htake⟩⟩ := h.own
  · have : J = [] := List.length_eq_zero_iff.1 hv.2
    exact ⟨a, c, rfl, .inl this, .inl this⟩
  · simp only [Value.slice.injEq] at e
    obtain ⟨rfl, _, rfl⟩ := e
    have cellOf : ∀ i (hi : i < J.length), ∃ a' c', w.cell? ⟨g, 0 + i, none⟩ = some (.slice a' J[i].length c') ∧ J[i].length ≤ c' ∧ IntsAt w a' J[i] := fun i hi => by
      obtain ⟨u, h1, ⟨a', c', rfl, hcap, h2⟩, _⟩ := h.row i hi
      refine ⟨a', c', ?_, hcap, ?_⟩
      · rw [Nat.zero_add, blk_cell hg, ← Array.getElem?_toList, ← h1, ← htake]
        rw [List.getElem?_take_of_lt (by omega)]
      · rcases h2 with h2 | ⟨x, off, rfl, h4, h5, h6⟩
        · exact .inl h2
        · exact .inr ⟨x, off, rfl, by omega, fun j hj => by rw [h6 j hj]; simp [List.getD, hj]⟩
    have lt := (Array.getElem?_eq_some_iff.1 hg).1
    refine ⟨_, _, rfl, .inr ⟨g, 0, rfl, lt, fun i hi => ?_⟩, .inr ⟨g, 0, rfl, lt, fun i hi => ?_⟩⟩
    · obtain ⟨a', c', h1, h2, h3⟩ := cellOf i hi
      rw [show J.getD i [] = J[i] by simp [List.getD, hi]]
      exact ⟨a', c', h1, h3⟩
    · obtain ⟨a', c', h1, h2, h3⟩ := cellOf i hi
      rw [show J.getD i [] = J[i] by simp [List.getD, hi]]
      exact ⟨a', c', h1, h2⟩
theorem row1_own {w : World} {base B : Nat} {u : Value} {l : List Int} (h : w.ownsRow base 3 1 u l.length (l.map (Value.int .i64))) (hB : w.heap.size ≤ B) : Row1 w base B u l := by
  rcases h.2 with ⟨rfl, h0⟩ | ⟨g, cap, cur, rfl, hb, hg, hc, _, _, htake⟩
  · exact ⟨none, 0, by rw [h0], by omega, .inl (List.length_eq_zero_iff.1 h0)⟩
  · refine ⟨_, _, rfl, hc, .inr ⟨g, 0, rfl, hb, by have := (Array.getElem?_eq_some_iff.1 hg).1; omega, fun i hi => ?_⟩⟩
    rw [blk_cell hg, Nat.zero_add, ← Array.getElem?_toList]
    have h3 : (cur.toList.take (l.length * 1))[i]? = some (.int .i64 l[i]) := by rw [htake]; simp [hi]
    rw [List.getElem?_take_of_lt (by omega)] at h3
    exact h3
theorem grown_on {w w' w'' : World} {g : Nat} {row : Option Nat} (h : w.grownBy w' (some g)) (k : w'.grownBy w'' row) (hr : ∀ r, row = some r → r = g ∨ w.heap.size ≤ r) : w.grownBy w'' (some g) :=
  ⟨k.os.trans h.os, k.tape.trans h.tape, k.output.trans h.output, Nat.le_trans h.size k.size, fun i hi hne => (k.block i (Nat.lt_of_lt_of_le hi h.size) (fun e => by rcases hr i e.symm with h | h; exact hne (by rw [h]); omega)).trans (h.block i hi hne)⟩
end Go.Town.Kp
namespace Go.Town.Kp
open Go Go.Conc Go.Conc.Lib Go.ConcR.Gen Go.RowKit Go.Town Go.Proofs
theorem nest_nil (w : World) (base B : Nat) (hB : base ≤ w.heap.size) (hB' : w.heap.size < B) (o : Obj) (ho : o = .cells #[] 28) : NestV (w.alloc o) base B (.slice (some ⟨w.heap.size, 0, none⟩) 0 0) [] [] := by
  subst ho
  exact ⟨ownsRow_base (ownsRow_empty w 28 1) hB, fun r e => by simp [Value.ownBlock] at e; omega, fun i hi => by simp at hi⟩
def TasksPost (g0 g p : Nat) (w : World) (e : Ending) (w' : World) : Prop :=
  ∃ (ta : Option Addr) (J : List (List Int)) (tc p' : Nat), e = .returned (.slice ta J.length tc) ∧ J.length ≤ 10 ∧ (∀ l ∈ J, l.length ≤ 30) ∧ (∀ W', w'.heap.size ≤ W'.heap.size → (∀ x, w.heap.size ≤ x → x < w'.heap.size → W'.heap[x]? = w'.heap[x]?) → RowsAt W' ta J ∧ CapsIn W'.heap.size W' ta J) ∧ p' ≤ p + 100 ∧ Rd w' g0 g p' ∧ w.grownBy w' (some g)
def Outer34 (w : World) (g0 g p k : Nat) (v : Value) (wr : World) : Prop :=
  ∃ (p' B : Nat) (J : List (List Int)) (vs : List Value), k + J.length ≤ 3 ∧ p' + 20 * k ≤ p + 61 ∧ (∀ l ∈ J, l.length ≤ 6) ∧ Rd wr g0 g p' ∧ NestV wr w.heap.size B v J vs ∧ B ≤ wr.heap.size ∧ w.heap.size ≤ B ∧ w.grownBy wr (some g)
def Inner34 (w : World) (g0 g p' m B1 : Nat) (v5 : Value) (wa wr : World) : Prop :=
  ∃ (p'' : Nat) (zs : List Int), m + zs.length ≤ 6 ∧ p'' + 3 * m ≤ p' + 19 ∧ Rd wr g0 g p'' ∧ wr.ownsRow B1 3 1 v5 zs.length (zs.map (Value.int .i64)) ∧ (∀ x, x < B1 → x ≠ g → wr.heap[x]? = wa.heap[x]?) ∧ w.grownBy wr (some g) ∧ B1 ≤ wr.heap.size
theorem tasks_end {g0 g p p' B : Nat} {w w' : World} {v : Value} {J : List (List Int)} {vs : List Value} (hN : NestV w' w.heap.size B v J vs) (hB : B ≤ w'.heap.size) (hJ : J.length ≤ 10) (hl : ∀ l ∈ J, l.length ≤ 30) (hp : p' ≤ p + 100) (hR : Rd w' g0 g p') (hg : w.grownBy w' (some g)) : TasksPost g0 g p w (.returned v) w' := by
  obtain ⟨a, c, rfl⟩ := own_slice hN.own
  refine ⟨a, J, c, p', rfl, hJ, hl, fun W' hz hW => ?_, hp, hR, hg⟩
  obtain ⟨a', c', e, h, h'⟩ := (hN.same fun x h1 h2 => hW x h1 (by omega)).rows (by omega)
  cases e
  exact ⟨h, h'⟩
theorem tasks_push {g0 g p p' B : Nat} {w w3 wa w' : World} {v v' : Value} {J L : List (List Int)} {vs news : List Value} (hg0 : g0 ≤ g) (hlt : g < w.heap.size) (N : NestV w3 w.heap.size B v J vs) (hB : B ≤ w3.heap.size) (hb : w.heap.size ≤ B) (hR : Rd w3 g0 g p') (hg : w.grownBy w3 (some g)) (ha : w3.grownBy wa none)
    (hn : ∀ i (h : i < L.length), ∃ u, news[i]? = some u ∧ Row1 wa B wa.heap.size u L[i]) (hown : w'.ownsRow w.heap.size 28 1 v' (J.length + L.length) (vs ++ news)) (hgr : wa.grownBy w' v.ownBlock) (hat : v'.ownBlock = v.ownBlock ∨ v'.ownBlock = some wa.heap.size)
    (hJ : J.length ≤ 3) (hJ6 : ∀ l ∈ J, l.length ≤ 6) (hL : L.length ≤ 4) (hL30 : ∀ l ∈ L, l.length ≤ 30) (hp : p' ≤ p + 100) : TasksPost g0 g p w (.returned v') w' := by
  refine tasks_end (N.push hB ha hn hb hown hgr hat) (Nat.le_refl _) (by rw [List.length_append]; omega) (fun l hl => ?_) hp ((hR.kept ha (fun r e => by cases e) hR.lt).kept hgr (fun r e => ?_) (by have := hR.lt; have := ha.size; omega)) (grown_on (grown_on hg ha (fun r e => by cases e)) hgr fun r e => .inr (N.own.lt r e).1)
  · rcases List.mem_append.1 hl with h | h
    · have := hJ6 l h; omega
    · exact hL30 l h
  · have := (N.own.lt r e).1; omega
theorem two_grown (w : World) (a b : Obj) : w.grownBy ((w.alloc a).alloc b) none := (World.grownBy_alloc w a none).trans (World.grownBy_alloc _ b none)
set_option maxRecDepth 100000 in
set_option maxHeartbeats 4000000 in
theorem l9Tasks_any {g0 g p : Nat} {w : World} (hR : Rd w g0 g p) (hp : p ≤ 1000000) :
    Calls Try.prog 34 #[.pointer (some ⟨g, 0, none⟩)] w (TasksPost g0 g p w) := by
  obtain ⟨i0, hi, hz0, hz1, hz2⟩ := info_parts Try.info3
  obtain ⟨j0, ji, jz0, jz1, jz2⟩ := info_parts Try.info28
  have hlt := hR.lt
  have hg0 := hR.le
  go_enter Try.func34, Try.ntmps34
  go_wp2_with fail
  refine (pick_new (hR.alloc _) (by omega) (by omega)).mono ?_
  rintro e w1 ⟨x, rfl, hx, h1⟩
  have hx2 : x ≤ 2 := by omega
  have hg1 : w.grownBy w1 (some g) := (World.grownBy_alloc w _ _).trans h1.out.2
  have z1 : w.heap.size + 1 ≤ w1.heap.size := by have := h1.out.2.size; rw [World.size_alloc] at this; exact this
  have hO : RowKit.Hid (Outer34 w g0 g p (1 + x) (.slice (some ⟨w.heap.size, 0, none⟩) 0 0) w1) := ⟨p + 1, w.heap.size + 1, [], [], by simp; omega, by omega, by simp, h1.out.1, (nest_nil w w.heap.size (w.heap.size + 1) (Nat.le_refl _) (by omega) _ rfl).kept (by rw [World.size_alloc]; exact Nat.le_refl _) h1.out.2 (fun r e => by injection e with e; omega), z1, by omega, hg1⟩
  have hw1 : IntKind.i64.wrap (1 + (x : Int)) = ((1 + x : Nat) : Int) := by rw [IntWalk.i64_in _ (by omega)]; omega
  clear h1 hx
  generalize 1 + x = k0 at *
  go_wp2
  go_loopw [3, 4] (fun v i wr => ∃ k : Nat, i = .int .i64 k ∧ RowKit.Hid (Outer34 w g0 g p k v wr)) (fun _ i _ => (intOf i).toNat)
  case atStart => exact ⟨k0, rfl, hO⟩
  case round =>
    obtain ⟨k, rfl, hO2⟩ := hrel
    by_cases h0 : 0 < k
    · have h0' : (0 : Int) < (k : Int) := by omega
      obtain ⟨wo, rfl⟩ : ∃ y, y = wr := ⟨wr, rfl⟩
      obtain ⟨p', B, J, vs, q1, q2, q3, q4, q5, q6, q7, q8⟩ := hO2.out
      go_wp2_with fail
      refine (pick_new (q4.alloc _) (by omega) (by omega)).mono ?_
      rintro e w2 ⟨m0, rfl, hm0, h2⟩
      have hm : m0 ≤ 6 := by omega
      have hs2 := h2.out.2.size
      rw [World.size_alloc] at hs2
      have hI : RowKit.Hid (Inner34 w g0 g p' m0 wo.heap.size (.slice (some ⟨wo.heap.size, 0, none⟩) 0 0) wo w2) := by
        refine ⟨p' + 1, [], by simp; omega, by omega, h2.out.1, (ownsRow_empty wo 3 1).kept h2.out.2 (.inr (by simp [Value.ownBlock]; omega)), fun y hy hne => ?_, (q8.trans (World.grownBy_alloc wo _ _)).trans h2.out.2, by omega⟩
        exact (h2.out.2.block y (by rw [World.size_alloc]; omega) (by simpa using hne)).trans ((World.grownBy_alloc wo _ none).block y hy (by simp))
      clear h2 hm0
      go_wp2
      go_loopw [5, 6] (fun v5 i wr' => ∃ m : Nat, i = .int .i64 m ∧ RowKit.Hid (Inner34 w g0 g p' m wo.heap.size v5 wo wr')) (fun _ i _ => (intOf i).toNat)
      case atStart => exact ⟨m0, rfl, hI⟩
      case round =>
        obtain ⟨m, rfl, hI2⟩ := hrel
        by_cases hm0 : 0 < m
        · have hm0' : (0 : Int) < (m : Int) := by omega
          obtain ⟨p2, zs, y1, y2, y3, y4, y5, y6, y7⟩ := hI2.out
          go_wp2_with fail
          refine (pick_new y3 (by omega) (by omega)).mono ?_
          rintro e w3 ⟨xa, rfl, hxa, h3⟩
          have wa1 : IntKind.i64.wrap (1 + (xa : Int)) = 1 + (xa : Int) := IntWalk.i64_in _ (by omega)
          go_wp2_with fail
          refine (pick_new h3.out.1 (by omega) (by omega)).mono ?_
          rintro e w4 ⟨xb, rfl, hxb, h4⟩
          have wb1 : IntKind.i64.wrap (1 + (xb : Int)) = 1 + (xb : Int) := IntWalk.i64_in _ (by omega)
          go_wp2_with fail
          refine (num_new (n := 4) [1 + (xa : Int), 1 + (xb : Int), 0, 5] _ h4.out.1 (by omega) rfl rfl (by omega) (by omega)).mono ?_
          rintro e w5 ⟨z, rfl, _, h5⟩
          have hg35 : wr.grownBy w5 (some g) := (h3.out.2.trans h4.out.2).trans h5.out.2
          have hown5 := (y4.kept hg35 (.inr fun e => by have := (y4.lt g e).1; omega)).alloc (.cells #[.int .i64 z] 3)
          have hs5 := hg35.size
          have hR5 := h5.out.1
          clear h3 h4 h5 hxa hxb
          go_wp2_with (at_builtin; refine wpList_append_own_at _ rfl (.tmp 22) (.tmp 32) 28 rfl wo.heap.size 3 i0 (.int .i64 0) 1 8 Try.underlying28 hi hz0 hz1 hz2 rfl (by decide) _ zs.length _ rfl hown5 ⟨w5.heap.size, 0, none⟩ 1 1 [.int .i64 z] rfl rfl ?c1 ?c2 ?c3 ?c4 ?c5 ?_)
          case c1 => exact cell_one_new _ _ _
          case c2 => intro u hu; simp at hu; subst hu; rfl
          case c3 => unfold maxLen; omega
          case c4 => omega
          case c5 => simp; omega
          intro v' w6 hown6 hgr6 _ hob
          have hown5' := hown5.lt
          have hI6 : RowKit.Hid (Inner34 w g0 g p' (m - 1) wo.heap.size v' wo w6) := by
            refine ⟨p2 + 1 + 1 + 1, zs ++ [z], by simp; omega, by omega, (hR5.alloc _).kept hgr6 (fun r e => ?_) (by have := hR5.lt; simp; omega), by simpa using hown6, fun y hy hne => ?_, ?_, by have := hgr6.size; rw [World.size_alloc] at this; omega⟩
            · have := hown5' r e; omega
            · refine (hgr6.block y (by rw [World.size_alloc]; omega) fun e => ?_).trans (((World.grownBy_alloc w5 _ none).block y (by omega) (by simp)).trans ((hg35.block y (by omega) (by simpa using hne)).trans (y5 y hy hne)))
              have := hown5' y e.symm; omega
            · exact grown_on ((y6.trans hg35).trans (World.grownBy_alloc w5 _ _)) hgr6 fun r e => .inr (by have := hown5' r e; have := q8.size; omega)
          have hm1 : ((m : Int) - 1) = ((m - 1 : Nat) : Int) := by omega
          clear hown6 hgr6 hob hown5 hown5' hg35 hR5 y3 y4 y5 y6 hI2
          go_wp2
          go_roundw
          case rel => exact ⟨m - 1, by go_num, hI6⟩
          case measure => simp [intOf]; omega
        · obtain rfl : m = 0 := by omega
          obtain ⟨p2, zs, y1, y2, y3, y4, y5, y6, y7⟩ := hI2.out
          have hN := q5.same (w' := wr) fun y hy1 hy2 => y5 y (by omega) (by omega)
          have r5 : Row1 wr B wr.heap.size _ zs := (row1_own y4 (Nat.le_refl _)).base q6
          obtain ⟨a5, c5, rfl⟩ := own_slice y4
          have z5 := q8.size
          go_wp2_with (at_builtin; refine wpList_append_own_at _ rfl (.tmp 34) (.tmp 36) 25 rfl w.heap.size 28 j0 (.slice none 0 0) 1 24 Try.underlying25 ji jz0 jz1 jz2 rfl (by decide) _ J.length _ rfl (hN.own.alloc _) ⟨wr.heap.size, 0, none⟩ 1 1 [.slice a5 zs.length c5] rfl rfl ?c1 ?c2 ?c3 ?c4 ?c5 ?_)
          case c1 => exact cell_one_new _ _ _
          case c2 => intro u hu; simp at hu; subst hu; rfl
          case c3 => unfold maxLen; omega
          case c4 => omega
          case c5 => simp; omega
          intro v' w7 hown7 hgr7 _ hob
          have hO7 : RowKit.Hid (Outer34 w g0 g p (k - 1) v' w7) := by
            refine ⟨p2, w7.heap.size, J ++ [zs], _, by simp; omega, by omega, fun l hl => ?_, (y3.alloc _).kept hgr7 (fun r e => ?_) (by have := y3.lt; simp; omega), NestV.push (L := [zs]) hN (by omega) (World.grownBy_alloc wr _ none) (fun i hi => ?_) q7 hown7 hgr7 (by rw [World.size_alloc]; exact hob), Nat.le_refl _, by have := hgr7.size; rw [World.size_alloc] at this; omega, grown_on (y6.trans (World.grownBy_alloc wr _ _)) hgr7 fun r e => .inr (hN.own.lt r e).1⟩
            · rcases List.mem_append.1 hl with h | h
              · exact q3 l h
              · simp at h; subst h; omega
            · have := (hN.own.lt r e).1; omega
            · obtain rfl : i = 0 := by simp at hi; omega
              exact ⟨_, rfl, r5.alloc _⟩
          have hk1 : ((k : Int) - 1) = ((k - 1 : Nat) : Int) := by omega
          clear hown7 hgr7 hob hN r5 y3 y4 y5 y6 hI2 q3 q4 q5 q8 hO2
          go_wp2
          go_roundw
          case rel => exact ⟨k - 1, by go_num, hO7⟩
          case measure => simp [intOf]; omega
    · obtain rfl : k = 0 := by omega
      obtain ⟨p', B, J, vs, q1, q2, q3, q4, q5, q6, q7, q8⟩ := hO2.out
      clear hO2 hO
      go_wp2_with fail
      refine (pick_new q4 (by omega) (by omega)).mono ?_
      rintro e w2 ⟨x2, rfl, _, h2⟩
      have N2 := q5.kept q6 h2.out.2 (fun r e => by injection e with e; omega)
      have R2 := h2.out.1
      have g2 := q8.trans h2.out.2
      have s2 := h2.out.2.size
      have z2 := q8.size
      clear h2 q4 q5 q8
      by_cases x20 : x2 = 0
      · subst x20
        go_wp2
        go_ret
        exact ⟨_, [], _, _, rfl, by simp, by simp, fun _ _ _ => ⟨.inl rfl, .inl rfl⟩, by omega, R2.alloc _, g2.trans (World.grownBy_alloc w2 _ _)⟩
      have x20' : ((x2 : Int) == 0) = false := beq_eq_false_iff_ne.2 (by omega)
      by_cases x21 : x2 = 1
      · subst x21
        go_wp2_with fail
        refine (num_new (n := 4) [-1, 1001, 1000, 9223372036854775807] _ R2 (by omega) rfl rfl (by omega) (by omega)).mono ?_
        rintro e w3 ⟨z, rfl, _, h3⟩
        have N3 := N2.kept (by omega) h3.out.2 (fun r e => by injection e with e; omega)
        have R3 := h3.out.1
        have g3 := g2.trans h3.out.2
        have s3 := h3.out.2.size
        have z3 := g3.size
        go_wp2_with (at_builtin; refine wpList_append_own_at _ rfl (.tmp 45) (.tmp 50) 25 rfl w.heap.size 28 j0 (.slice none 0 0) 1 24 Try.underlying25 ji jz0 jz1 jz2 rfl (by decide) _ J.length _ rfl ((N3.own.alloc _).alloc _) ⟨w3.heap.size + 1, 0, none⟩ 1 1 [.slice (some ⟨w3.heap.size, 0, none⟩) 1 1] rfl rfl ?c1 ?c2 ?c3 ?c4 ?c5 ?_)
        case c1 =>
          have h := cell_one_new (w3.alloc (.cells #[.int .i64 z] 3)) (.slice (some ⟨w3.heap.size, 0, none⟩) 1 1) 28
          rw [World.size_alloc] at h
          exact h
        case c2 => intro u hu; simp at hu; subst hu; rfl
        case c3 => unfold maxLen; omega
        case c4 => omega
        case c5 => simp; omega
        intro v' w4 hown4 hgr4 _ hob
        have fin := tasks_push (L := [[z]]) (p := p) hR.le hlt N3 (by omega) q7 R3 g3 (two_grown w3 _ _) (fun i hi => by
          obtain rfl : i = 0 := by simp at hi; omega
          exact ⟨_, rfl, (row1_lit (w := w3) (l := [z]) (n := 1) (by omega) rfl rfl rfl (Nat.le_refl _)).alloc _⟩) hown4 hgr4 (by simpa using hob) (by omega) q3 (by simp) (by simp) (by omega)
        go_wp2
        go_ret
        exact fin
      have x21' : ((x2 : Int) == 1) = false := beq_eq_false_iff_ne.2 (by omega)
      by_cases x22 : x2 = 2
      · subst x22
        go_wp2_with fail
        refine (pick_new R2 (by omega) (by omega)).mono ?_
        rintro e w3 ⟨y, rfl, hy, h3⟩
        have N3 := N2.kept (by omega) h3.out.2 (fun r e => by injection e with e; omega)
        have R3 := h3.out.1
        have g3 := g2.trans h3.out.2
        have s3 := h3.out.2.size
        have z3 := g3.size
        have wy : IntKind.i64.wrap (20 + (y : Int)) = 20 + (y : Int) := IntWalk.i64_in _ (by omega)
        have hmk : ∀ w : World, (Instr.makeSlice 28 (.int .i64 (20 + (y : Int))) (.int .i64 (20 + (y : Int)))).run Try.prog w = .ok (.slice (some ⟨w.heap.size, 0, none⟩) (20 + y) (20 + y)) (w.alloc (.cells (Array.replicate (20 + y) (.int .i64 0)) 3)) := fun w => by
          have h := mk_ints w (20 + y) (by omega)
          simpa using h
        go_wp2_with (at_builtin; refine wpList_append_own_at _ rfl (.tmp 54) (.tmp 59) 25 rfl w.heap.size 28 j0 (.slice none 0 0) 1 24 Try.underlying25 ji jz0 jz1 jz2 rfl (by decide) _ J.length _ rfl ((N3.own.alloc _).alloc _) ⟨w3.heap.size + 1, 0, none⟩ 1 1 [.slice (some ⟨w3.heap.size, 0, none⟩) (20 + y) (20 + y)] rfl rfl ?c1 ?c2 ?c3 ?c4 ?c5 ?_)
        case c1 =>
          have h := cell_one_new (w3.alloc (.cells (Array.replicate (20 + y) (.int .i64 0)) 3)) (.slice (some ⟨w3.heap.size, 0, none⟩) (20 + y) (20 + y)) 28
          rw [World.size_alloc] at h
          exact h
        case c2 => intro u hu; simp at hu; subst hu; rfl
        case c3 => unfold maxLen; omega
        case c4 => omega
        case c5 => simp; omega
        intro v' w4 hown4 hgr4 _ hob
        have fin := tasks_push (L := [List.replicate (20 + y) 0]) (p := p) hR.le hlt N3 (by omega) q7 R3 g3 (two_grown w3 _ _) (fun i hi => by
          obtain rfl : i = 0 := by simp at hi; omega
          exact ⟨_, rfl, (row1_lit (w := w3) (l := List.replicate (20 + y) 0) (n := 20 + y) (by omega) (by simp) rfl (by simp) (Nat.le_refl _)).alloc _⟩) hown4 hgr4 (by simpa using hob) (by omega) q3 (by simp) (by simp; omega) (by omega)
        go_wp2
        go_ret
        exact fin
      have x22' : ((x2 : Int) == 2) = false := beq_eq_false_iff_ne.2 (by omega)
      by_cases x23 : x2 = 3
      · subst x23
        go_wp2_with (at_builtin; refine wpList_append_own_at _ rfl (.tmp 63) (.tmp 68) 25 rfl w.heap.size 28 j0 (.slice none 0 0) 1 24 Try.underlying25 ji jz0 jz1 jz2 rfl (by decide) _ J.length _ rfl ((((( N2.own.alloc _).alloc _).alloc _).alloc _).alloc _) ⟨w2.heap.size + 1 + 1 + 1 + 1, 0, none⟩ 4 4 [.slice (some ⟨w2.heap.size, 0, none⟩) 0 0, .slice (some ⟨w2.heap.size + 1, 0, none⟩) 0 0, .slice (some ⟨w2.heap.size + 1 + 1, 0, none⟩) 0 0, .slice (some ⟨w2.heap.size + 1 + 1 + 1, 0, none⟩) 0 0] rfl rfl ?c1 ?c2 ?c3 ?c4 ?c5 ?_)
        case c1 =>
          intro j u hj
          have hb : ((((((w2.alloc (.cells #[] 3)).alloc (.cells #[] 3)).alloc (.cells #[] 3)).alloc (.cells #[] 3)).alloc (.cells #[.slice (some ⟨w2.heap.size, 0, none⟩) 0 0, .slice (some ⟨w2.heap.size + 1, 0, none⟩) 0 0, .slice (some ⟨w2.heap.size + 1 + 1, 0, none⟩) 0 0, .slice (some ⟨w2.heap.size + 1 + 1 + 1, 0, none⟩) 0 0] 28)).heap[w2.heap.size + 1 + 1 + 1 + 1]? = some (.cells #[.slice (some ⟨w2.heap.size, 0, none⟩) 0 0, .slice (some ⟨w2.heap.size + 1, 0, none⟩) 0 0, .slice (some ⟨w2.heap.size + 1 + 1, 0, none⟩) 0 0, .slice (some ⟨w2.heap.size + 1 + 1 + 1, 0, none⟩) 0 0] 28)) := by
            have h := alloc_self ((((w2.alloc (.cells #[] 3)).alloc (.cells #[] 3)).alloc (.cells #[] 3)).alloc (.cells #[] 3)) (.cells #[.slice (some ⟨w2.heap.size, 0, none⟩) 0 0, .slice (some ⟨w2.heap.size + 1, 0, none⟩) 0 0, .slice (some ⟨w2.heap.size + 1 + 1, 0, none⟩) 0 0, .slice (some ⟨w2.heap.size + 1 + 1 + 1, 0, none⟩) 0 0] 28)
            simpa [World.size_alloc] using h
          have := blk_cell (o := j) hb
          rw [show (⟨w2.heap.size + 1 + 1 + 1 + 1, 0, none⟩ : Addr).add j = ⟨w2.heap.size + 1 + 1 + 1 + 1, j, none⟩ by unfold Addr.add; split <;> simp_all, this, ← hj]
          simp
        case c2 => intro u hu; simp at hu; rcases hu with rfl | rfl | rfl | rfl <;> rfl
        case c3 => unfold maxLen; omega
        case c4 => omega
        case c5 => simp; omega
        intro v' w4 hown4 hgr4 _ hob
        have fin := tasks_push (L := [[], [], [], []]) (p := p) hR.le hlt N2 (by omega) q7 R2 g2 ((two_grown w2 _ _).trans ((two_grown _ _ _).trans (World.grownBy_alloc _ _ none))) (fun i hi => by
          obtain rfl | rfl | rfl | rfl : i = 0 ∨ i = 1 ∨ i = 2 ∨ i = 3 := by simp at hi; omega
          all_goals exact ⟨_, rfl, _, 0, rfl, Nat.le_refl _, .inl rfl⟩) hown4 hgr4 (by simpa using hob) (by omega) q3 (by simp) (by simp) (by omega)
        go_wp2
        go_ret
        exact fin
      have x23' : ((x2 : Int) == 3) = false := beq_eq_false_iff_ne.2 (by omega)
      obtain ⟨a9, c9, rfl⟩ := own_slice N2.own
      go_wp2
      go_ret
      exact tasks_end N2 (by omega) (by omega) (fun l hl => by have := q3 l hl; omega) (by omega) R2 g2
end Go.Town.Kp
namespace Go.Town.Kp
open Go Go.Conc Go.Conc.Lib Go.ConcR.Gen Go.RowKit Go.Town Go.Proofs
def DrawPost (w : World) (e : Ending) (w' : World) : Prop :=
  ∃ (q : List UInt8) (f t : Int) (ta : Option Addr) (J : List (List Int)) (tc : Nat), e = .returned (.tuple #[.agg #[.string ⟨q.toArray⟩, .int .i64 f, .int .i64 t], .slice ta J.length tc]) ∧ J.length ≤ 10 ∧ (∀ l ∈ J, l.length ≤ 30) ∧ RowsAt w' ta J ∧ Below w.heap.size w w'
theorem kin_of_below {B : Nat} {w w' : World} (h : Below B w w') : Kin B w w' := ⟨fun x j v hx hv => (h.cell (p := ⟨x, j, none⟩) hx).trans hv, fun x j v hx _ hf => (World.frozen?_of_block (h.block x hx)).trans hf, h.size⟩
theorem set3_heap (w : World) (x : Nat) (a b c : Value) : (∀ y, y ≠ x → (((w.setCell ⟨x, 0, none⟩ a).setCell ⟨x, 1, none⟩ b).setCell ⟨x, 2, none⟩ c).heap[y]? = w.heap[y]?) ∧ (((w.setCell ⟨x, 0, none⟩ a).setCell ⟨x, 1, none⟩ b).setCell ⟨x, 2, none⟩ c).heap.size = w.heap.size :=
  ⟨fun y hy => by rw [Below.heap_setCell _ _ _ y (by simpa using hy), Below.heap_setCell _ _ _ y (by simpa using hy), Below.heap_setCell _ _ _ y (by simpa using hy)], by simp [World.size_setCell]⟩
theorem set3_reads {w : World} {x y : Nat} {vs : List Value} (h : Reads w y vs) (hy : y ≠ x) (a b c : Value) : Reads (((w.setCell ⟨x, 0, none⟩ a).setCell ⟨x, 1, none⟩ b).setCell ⟨x, 2, none⟩ c) y vs := fun j hj => by
  have hb := (set3_heap w x a b c).1 y hy
  rw [World.cell?_of_block hb, World.frozen?_of_block hb]; exact h j hj
theorem set3_own {w : World} {x : Nat} {vs : List Value} (hq : Reads w x vs) (hv : vs.length = 3) (a b c : Value) :
    (((w.setCell ⟨x, 0, none⟩ a).setCell ⟨x, 1, none⟩ b).setCell ⟨x, 2, none⟩ c).cell? ⟨x, 0, none⟩ = some a ∧ (((w.setCell ⟨x, 0, none⟩ a).setCell ⟨x, 1, none⟩ b).setCell ⟨x, 2, none⟩ c).cell? ⟨x, 1, none⟩ = some b ∧ (((w.setCell ⟨x, 0, none⟩ a).setCell ⟨x, 1, none⟩ b).setCell ⟨x, 2, none⟩ c).cell? ⟨x, 2, none⟩ = some c := by
  have ne : ∀ (w : World) (i j : Nat) (v : Value), i ≠ j → (w.setCell ⟨x, i, none⟩ v).cell? ⟨x, j, none⟩ = w.cell? ⟨x, j, none⟩ := fun w i j v h => cell_setCell_ne w v (.inr h)
  obtain ⟨v0, h0⟩ := hq.ex (j := 0) (by omega)
  obtain ⟨v1, h1⟩ := hq.ex (j := 1) (by omega)
  obtain ⟨v2, h2⟩ := hq.ex (j := 2) (by omega)
  refine ⟨?_, ?_, ?_⟩
  · rw [ne _ 2 0 _ (by omega), ne _ 1 0 _ (by omega)]; exact cell_setCell_eq _ h0
  · rw [ne _ 2 1 _ (by omega)]; exact cell_setCell_eq _ ((ne _ 0 1 _ (by omega)).trans h1)
  · exact cell_setCell_eq _ (((ne _ 1 2 _ (by omega)).trans (ne _ 0 2 _ (by omega))).trans h2)
set_option maxRecDepth 100000 in
set_option maxHeartbeats 4000000 in
theorem drawRun_any {a : Option Addr} {c : Nat} {bs : List Int} {w : World} (hA : BytesAt w a bs) (hu : ∀ b ∈ bs, InU8 b) (hcap : bs.length ≤ c) :
    Calls Try.prog 9 #[.slice a bs.length c] w (DrawPost w) := by
  have hop := hidC (l11Open_any a c bs (w.alloc (.cells #[.string ⟨#[]⟩, .int .i64 0, .int .i64 0] 24)) (hA.below ((Below.refl _ w).alloc (Nat.le_refl _) _) (Nat.le_refl _)) hu hcap)
  rw [World.size_alloc] at hop
  go_enter Try.func9, Try.ntmps9
  go_wp2_with fail
  refine hop.out.mono ?_
  rintro e w1 ⟨rfl, hR1, hb1⟩
  have z1 : w.heap.size + 2 ≤ w1.heap.size := by have := hR1.lt; omega
  have b1 : Reads w1 w.heap.size [.string ⟨#[]⟩, .int .i64 0, .int .i64 0] := (reads_block (t := 24) (alloc_self w _)).kin (kin_of_below hb1) (by omega)
  have B1 : Below w.heap.size w w1 := ((Below.refl _ w).alloc (Nat.le_refl _) _).trans (hb1.mono (by omega))
  clear hop hb1
  go_wp2_with fail
  refine (l9Keeper_any hR1 (by omega)).mono ?_
  rintro e w2 ⟨q, f, t, p2, rfl, hp2, hR2, hg2⟩
  have z2 := hg2.size
  have b2 := b1.grown hg2 (by omega) (by omega)
  have B2 : Below w.heap.size w w2 := B1.grown hg2 (by omega) (fun k e => by injection e with e; omega)
  clear hg2 b1 B1 hR1
  go_wp2_with fail
  obtain ⟨W, hW⟩ : ∃ W, W = w2.alloc (.cells #[.string ⟨q.toArray⟩, .int .i64 f, .int .i64 t] 24) := ⟨_, rfl⟩
  rw [← hW]
  have b5 : Reads W w2.heap.size [.string ⟨q.toArray⟩, .int .i64 f, .int .i64 t] := reads_block (t := 24) (by rw [hW]; exact alloc_self w2 _)
  have b6 : Reads W w.heap.size [.string ⟨#[]⟩, .int .i64 0, .int .i64 0] := by rw [hW]; exact b2.alloc (by omega) _
  have hR6 : Rd W.drew (w.heap.size + 1) (w.heap.size + 1) p2 := by rw [hW]; exact (hR2.alloc _).same rfl
  have B6 : Below w.heap.size w W := by rw [hW]; exact B2.alloc (by omega) _
  have z6 : W.heap.size = w2.heap.size + 1 := by rw [hW, World.size_alloc]
  have c34 := hidC (l9Tasks_any hR6 (by omega))
  have y0 := (b5 0 (by simp)).1
  have y1 := (b5 1 (by simp)).1
  have y2 := (b5 2 (by simp)).1
  clear hW b2 B2 hR2 hR6
  go_region_held3 (fun w₁ => w₁.cell? ⟨w2.heap.size, 0, none⟩ = some (.string ⟨q.toArray⟩) ∧ w₁.cell? ⟨w2.heap.size, 1, none⟩ = some (.int .i64 f) ∧ w₁.cell? ⟨w2.heap.size, 2, none⟩ = some (.int .i64 t))
    (first | with_reducible exact S3 | exact S3' | go_keep)
    ((go_at_call 34; (with_reducible refine c34.out.mono ?_); rintro e w3 ⟨ta, J, tc, p3, rfl, hJ, hJl, hRow, hp3, hR3, hg3⟩; have b7 := (show Reads W.drew _ _ from b5).grown hg3 (by show _ < W.heap.size; omega) (by omega); have b8 := (show Reads W.drew _ _ from b6).grown hg3 (by show _ < W.heap.size; omega) (by omega); have S3 : w3.cell? ⟨w2.heap.size, 0, none⟩ = some (.string ⟨q.toArray⟩) ∧ w3.cell? ⟨w2.heap.size, 1, none⟩ = some (.int .i64 f) ∧ w3.cell? ⟨w2.heap.size, 2, none⟩ = some (.int .i64 t) := ⟨(b7 0 (by simp)).1, (b7 1 (by simp)).1, (b7 2 (by simp)).1⟩; obtain ⟨t0, t1, t2⟩ : w3.cell? ⟨w.heap.size, 0, none⟩ = some (.string ⟨#[]⟩) ∧ w3.cell? ⟨w.heap.size, 1, none⟩ = some (.int .i64 0) ∧ w3.cell? ⟨w.heap.size, 2, none⟩ = some (.int .i64 0) := ⟨(b8 0 (by simp)).1, (b8 1 (by simp)).1, (b8 2 (by simp)).1⟩; have f0 := (b8 0 (by simp)).2; have f1 := (b8 1 (by simp)).2; have f2 := (b8 2 (by simp)).2; have S4 := set3_reads b7 (x := w.heap.size) (by omega) (.string ⟨q.toArray⟩) (.int .i64 f) (.int .i64 t); have S3' := And.intro (S4 0 (by simp)).1 (And.intro (S4 1 (by simp)).1 (S4 2 (by simp)).1)))
  rename_i hh
  clear hh
  obtain ⟨s0, s1, s2⟩ := set3_own b8 rfl (.string ⟨q.toArray⟩) (.int .i64 f) (.int .i64 t)
  obtain ⟨k1, k2⟩ := set3_heap w3 w.heap.size (.string ⟨q.toArray⟩) (.int .i64 f) (.int .i64 t)
  have zz : W.heap.size ≤ w3.heap.size := hg3.size
  have hRow' : RowsAt (((w3.setCell ⟨w.heap.size, 0, none⟩ (.string ⟨q.toArray⟩)).setCell ⟨w.heap.size, 1, none⟩ (.int .i64 f)).setCell ⟨w.heap.size, 2, none⟩ (.int .i64 t)) ta J := (hRow _ (by rw [k2]; exact Nat.le_refl _) fun x h1 h2 => k1 x (by have h1 : W.heap.size ≤ x := h1; omega)).1
  have B7 : Below w.heap.size w w3 := B6.drew.grown hg3 (by show _ ≤ W.heap.size; omega) (fun k e => by injection e with e; omega)
  have B8 : Below w.heap.size w (((w3.setCell ⟨w.heap.size, 0, none⟩ (.string ⟨q.toArray⟩)).setCell ⟨w.heap.size, 1, none⟩ (.int .i64 f)).setCell ⟨w.heap.size, 2, none⟩ (.int .i64 t)) := ((B7.setCell (p := ⟨w.heap.size, 0, none⟩) (Nat.le_refl _) _).setCell (p := ⟨w.heap.size, 1, none⟩) (Nat.le_refl _) _).setCell (p := ⟨w.heap.size, 2, none⟩) (Nat.le_refl _) _
  clear S4 S3' hRow k1 k2 c34
  generalize (((w3.setCell ⟨w.heap.size, 0, none⟩ (.string ⟨q.toArray⟩)).setCell ⟨w.heap.size, 1, none⟩ (.int .i64 f)).setCell ⟨w.heap.size, 2, none⟩ (.int .i64 t)) = W9 at *
  go_wp2
  refine bodyPost_ret (v := .tuple #[.agg #[.string ⟨q.toArray⟩, .int .i64 f, .int .i64 t], .slice ta J.length tc]) (by simp [results, Try.results9, go_sem, s0, s1, s2]) rfl ?_
  exact ⟨q, f, t, ta, J, tc, rfl, hJ, hJl, hRow', B8⟩
end Go.Town.Kp
