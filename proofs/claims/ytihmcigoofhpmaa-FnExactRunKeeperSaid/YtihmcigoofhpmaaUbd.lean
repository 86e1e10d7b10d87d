/-
  newCrew as a whole.
  newCrew as a whole.
  The exact laws' helpers: sizes, copies.
  toIntSS: new rows.
-/
import Derived.Lib.Hide
import Derived.Laws.Rows
import Derived.Test.YtihmcigoofhpmaaUbc
set_option linter.all false
namespace Go.Town.Kp
open Go Go.Conc Go.Conc.Lib Go.ConcR.Gen Go.RowKit Go.Town Go.Proofs
open Go.ConcN (upd upd_ne upd_same)
def cutW (w : World) (c : Nat) (cs : Array Value) (t : TypeId) : World := { w with heap := w.heap.setIfInBounds c (.cells cs t) }
theorem weak_cut {w w₁ : World} {c : Nat} {cs cs' : Array Value} {t : TypeId} (hb : w.heap[c]? = some (.cells cs' t)) (hs : cs.size ≤ cs'.size) (hc : ∀ k, k < cs.size → cs'[k]? = cs[k]?) (h : Weak w w₁) : Weak (cutW w c cs t) w₁ := by
  have hlt := (Array.getElem?_eq_some_iff.1 hb).1
  refine ⟨by simp [cutW, h.size], fun b o o' h1 h2 => ?_, h.os, h.out, fun b o h1 => ?_⟩
  · simp only [cutW, Array.getElem?_setIfInBounds] at h1
    by_cases e : c = b
    · subst e
      rw [if_pos rfl, if_pos hlt] at h1
      cases h1
      have := h.obj c _ o' hb h2
      cases this with
      | same => exact .cut hs hc (fun _ _ q => q)
      | cut g1 g2 g3 => exact .cut (Nat.le_trans hs g1) (fun k hk => (g2 k (by omega)).trans (hc k hk)) (fun k hk q => g3 k (by omega) q)
      | blind hb => cases hb
    · rw [if_neg e] at h1; exact h.obj b o o' h1 h2
  · simp only [cutW, Array.getElem?_setIfInBounds] at h1
    by_cases e : c = b
    · subst e; rw [if_pos rfl, if_pos hlt] at h1; cases h1; rfl
    · rw [if_neg e] at h1; exact h.noOdd b o h1
theorem cutW_ne {w : World} {c r : Nat} {cs : Array Value} {t : TypeId} (h : r ≠ c) : (cutW w c cs t).heap[r]? = w.heap[r]? := by
  simp only [cutW]
  rw [Array.getElem?_setIfInBounds_ne (Ne.symm h)]
theorem cutW_self {w : World} {c : Nat} {cs : Array Value} {t : TypeId} (h : c < w.heap.size) : (cutW w c cs t).heap[c]? = some (.cells cs t) := by simp [cutW, h]
theorem cell_of_block {w : World} {b j : Nat} {cs : Array Value} {t : TypeId} {v : Value} (hb : w.heap[b]? = some (.cells cs t)) (hj : cs[j]? = some v) : w.cell? ⟨b, j, none⟩ = some v ∧ w.frozen? ⟨b, j, none⟩ = false := by
  constructor
  · unfold World.cell?; simp only [hb]; simpa using hj
  · unfold World.frozen?; simp only [hb]; simp
theorem kept_first {C₀ : Cfg} {W w : World} {n N ta m rp sa st c : Nat} (hn : n ≤ 4) (hM : Made n W.heap.size W w ta m rp sa st c) (hL : Lay C₀ w) :
    Kept ⟨c, ta, sa, st, m, rp, n⟩ (C₀.anew N (wgAt c 5) True ⟨c, 5, none⟩) (fun _ => .gone) (fun _ => none) (fun _ => 0) (fun _ => 0) (cutW w c #[.slice (some ⟨ta, 0, none⟩) n n, .map (some m), .chan (some rp), .slice (some ⟨sa, 0, none⟩) n n, .slice (some ⟨st, 0, none⟩) n n] 89) := by
  obtain ⟨hE, z1, z2, z3, z4, z5, z6, hne, hc, l1, l2, l3, l4, l5, b1, b2, b3, b4, b5, b6⟩ := hM
  have nta : ta ≠ sa := by rintro rfl; rw [b1] at b4; simp at b4
  have ntb : ta ≠ st := by rintro rfl; rw [b1] at b5; simp at b5
  have hcl : c < w.heap.size := by omega
  obtain ⟨u, hu⟩ : ∃ u, u = cutW w c #[.slice (some ⟨ta, 0, none⟩) n n, .map (some m), .chan (some rp), .slice (some ⟨sa, 0, none⟩) n n, .slice (some ⟨st, 0, none⟩) n n] 89 := ⟨_, rfl⟩
  have ne : ∀ r : Nat, r ≠ c → u.heap[r]? = w.heap[r]? := fun r hr => by rw [hu]; exact cutW_ne hr
  have self : u.heap[c]? = some (.cells #[.slice (some ⟨ta, 0, none⟩) n n, .map (some m), .chan (some rp), .slice (some ⟨sa, 0, none⟩) n n, .slice (some ⟨st, 0, none⟩) n n] 89) := by rw [hu]; exact cutW_self hcl
  have sz : u.heap.size = w.heap.size := by rw [hu]; simp [cutW]
  rw [← hu]
  clear hu
  have rep : ∀ (v : Value) (i : Nat), i < n → (Array.replicate n v)[i]? = some v := fun v i hi => by simp [hi]
  have gone : ∀ (a : Addr), u.cell? a = none ∨ ∃ v, u.cell? a = some v := fun a => by cases u.cell? a <;> simp
  refine ⟨⟨show c ≠ ta by omega, show c ≠ sa by omega, show c ≠ st by omega, nta, ntb, hne, show n ≤ 1048576 by omega⟩, ⟨(cell_of_block self rfl).1, (cell_of_block self rfl).1, (cell_of_block self rfl).1, (cell_of_block self rfl).1, (cell_of_block self rfl).1, fun i hi => cell_of_block ((ne ta (by omega)).trans b1) (rep _ i hi), fun i hi => cell_of_block ((ne sa (by omega)).trans b4) (rep _ i hi), fun i hi => cell_of_block ((ne st (by omega)).trans b5) (rep _ i hi)⟩,
    ⟨#[], 0, (ne m (by omega)).trans b2, (fun e he => by simp at he), (fun i x _ hx => by cases hx), by simp⟩,
    ⟨(fun i j x _ _ hx => by cases hx), ⟨0, (ne rp (by omega)).trans b3⟩, (fun i x _ hx => by cases hx)⟩, ⟨⟨fun b k hk => ?_, fun b k hk => ?_⟩, fun g r => ⟨fun h => h, fun h => h⟩⟩, ⟨trivial, (fun g l h => h), (fun j v _ hv => by cases hv)⟩, ⟨(fun i j v v' _ _ _ hv => by cases hv), (fun i v _ hv => by cases hv)⟩, fun i x _ hx => (by cases hx), fun j v _ hv => (by cases hv)⟩
  · have hk' : (⟨b, k, none⟩ : Addr) = ⟨c, 5, none⟩ ∨ (⟨b, k, none⟩ : Addr) = ⟨c, 6, none⟩ ∨ hidOf C₀ b k := by
      rcases hk with hk | hk | ⟨g, hk⟩
      · rcases hk.2 with h | h
        · exact .inl (by simpa using h)
        · exact .inr (.inl (by simpa using h))
      · rcases hk with h | h
        · exact .inr (.inr (.inr (.inl h)))
        · exact .inr (.inr (.inl h))
      · exact hk.elim
    rcases hk' with h | h | h
    · cases h
      refine ⟨by omega, ?_⟩
      unfold World.cell?
      simp only [self]
      rfl
    · cases h
      refine ⟨by omega, ?_⟩
      unfold World.cell?
      simp only [self]
      rfl
    · obtain ⟨h1, h2⟩ := hL.cut.hid b k h
      refine ⟨by omega, ?_⟩
      by_cases e : b = c
      · subst e
        rcases (by omega : k < 5 ∨ 5 ≤ k) with hk5 | hk5
        · have : ∃ v, w.cell? ⟨b, k, none⟩ = some v := by
            match k, hk5 with
            | 0, _ => exact ⟨_, (cell_of_block b6 rfl).1⟩
            | 1, _ => exact ⟨_, (cell_of_block b6 rfl).1⟩
            | 2, _ => exact ⟨_, (cell_of_block b6 rfl).1⟩
            | 3, _ => exact ⟨_, (cell_of_block b6 rfl).1⟩
            | 4, _ => exact ⟨_, (cell_of_block b6 rfl).1⟩
          obtain ⟨v, hv⟩ := this
          rw [hv] at h2; cases h2
        · unfold World.cell?
          simp only [self]
          simp
          omega
      · unfold World.cell? at h2 ⊢
        simp only [ne b e]
        exact h2
  · obtain ⟨g, hk⟩ := hk
    exact hk.elim
theorem crew_first {c rp N : Nat} {rel : Nat → Prop} {ρ : Nat → Role} (hN : 0 < N) (h : Alone rel ρ N) (h0 : ∀ j, (ρ j).isSelf = true → j = 0) : Crew c rp N (fun _ => .gone) rel ρ N := by
  refine ⟨rfl, hN, fun j hj => ?_⟩
  rcases h.2 j with q | ⟨d, q⟩ | q
  · exact .inr q
  · rw [q]; exact .inl rfl
  · exact absurd (h0 j q) hj
section
variable {A : At} {C : Cfg} {L : Nat → Ws} {Post : Value → World → Prop} {N k : Nat} {wl : World} {i : Nat} {cs : List Frame} {slot : Nat → Option Nat} {sum starts : Nat → Int} {b₀ : Frame} {a₀ : Act} {ops₀ : Array Oper} {i₀ : Nat} {rest₀ : List Nat} {k₀ : List Item}
noncomputable def loop48 : Code := bodyC (bodyC (tailC 1 (headC 2 body48)))
noncomputable def inner48 : Code := bodyC (headC 2 loop48)
theorem body48_eq : body48 = .seq (headC 0 body48) (.seq (headC 1 body48) (.seq (.seq (headC 0 (headC 2 body48)) (.block 0 (.loop loop48))) (tailC 3 body48))) := by kernel_rfl
theorem loop48_eq : loop48 = .seq (headC 0 loop48) (.seq (.cond (.tmp 17) .skip (.exit 0)) (.seq (.block 1 inner48) (tailC 3 loop48))) := by kernel_rfl
theorem inner48_eq : inner48 = .seq (headC 0 inner48) (tailC 1 inner48) := by kernel_rfl
set_option maxRecDepth 100000 in
set_option maxHeartbeats 400000 in
theorem newCrew_loop {n : Nat} (hp : OkProg Try.prog okT) (hn : Hid (A.n = n)) : ∀ (m : Nat) {z1 z4 z5 z6 z7 z8 z9 z10 z11 z12 z13 z14 z17 z18 z19 z20 z21 z22 z23 : Value} {C : Cfg} {L : Nat → Ws} {N : Nat} {wl : World} {i : Nat} {slot : Nat → Option Nat}, n - i = m → i ≤ n → 0 < N → N + m < 2147483640 → (∀ j, N ≤ j → L j = .gone) → Kept A C L slot (fun _ => 0) (fun _ => 0) wl → (∀ l, l < i → ∃ x, slot l = some x) → (∀ l, i ≤ l → slot l = none) →
    (∀ C' L' N' slot' wl', Kept A C' L' slot' (fun _ => 0) (fun _ => 0) wl' → (∀ l, l < n → ∃ x, slot' l = some x) → Side A wl wl' → N ≤ N' → N' ≤ N + m → (∀ j, N' ≤ j → L' j = .gone) → Can Try.prog C' A.c 5 Post 0 (Crew A.c A.rp N' L') wl' (G (b₀.at (a₀.put ((ops₀[i₀]?).bind (·.dst)) (.pointer (some ⟨A.c, 0, none⟩))) (.inRegion ops₀ rest₀ :: k₀)) cs)) →
    Can Try.prog C A.c 5 Post 0 (Crew A.c A.rp N L) wl (G ((base 48).at ⟨#[.int .i64 (n : Nat), z1, .pointer none, .pointer (some ⟨A.c, 0, none⟩), z4, z5, z6, z7, z8, z9, z10, z11, z12, z13, z14, .int .i64 (n : Nat), .int .i64 (i : Nat), z17, z18, z19, z20, z21, z22, z23], []⟩ [.code loop48, .inLoop loop48, .inBlock 0, .code (tailC 3 body48)]) (b₀.at a₀ (.inRegion ops₀ (i₀ :: rest₀) :: k₀) :: cs)) := by
  intro m
  induction m with
  | zero =>
    intro z1 z4 z5 z6 z7 z8 z9 z10 z11 z12 z13 z14 z17 z18 z19 z20 z21 z22 z23 C L N wl i slot hm hi hN hNb hg Kp hall hnone h
    obtain rfl : i = n := by omega
    clear hm
    have hle := Kp.ok.le
    rw [hn.out] at hle
    have hS := (crew_free A.c A.rp N L).steady
    have hL := Kp.lay
    rw [loop48_eq]
    refine Can.ctl hS hL rfl (fun _ => stepG_seq) ?_
    refine Can.code' hp hS hL (okFr_at (by kernel_rfl) rfl rfl ⟨_, Try.func48⟩) ?_
    intro T d W hW B hB
    simp only [headC, tailC, bodyC, loop48, body48, Try.f48, Option.getD_some]
    go_wp2
    have hB := hB.out
    subst hB
    intro hc
    have hW := hW.out
    subst hW
    refine Can.re ?_ T d
    clear hc
    refine Can.ctl hS hL rfl (fun _ => stepG_seq) ?_
    refine Can.ctl hS hL rfl (fun _ => stepG_cond (t := false) rfl) ?_; simp only [if_true, if_false, Bool.false_eq_true, ↓reduceIte]
    refine Can.ctl hS hL rfl (fun _ => stepG_exit rfl) ?_
    refine Can.code' hp hS hL (okFr_at (by kernel_rfl) rfl rfl ⟨_, Try.func48⟩) ?_
    intro T d W hW B hB
    simp only [headC, tailC, bodyC, body48, Try.f48, Option.getD_some]
    go_wp2
    have hB := hB.out
    subst hB
    intro hc todo
    have hW := hW.out
    subst hW
    refine Can.re ?_ T d
    clear hc
    refine Can.ctl hS hL rfl (fun _ => st_leave1 rfl rfl Try.func48 rfl) ?_
    exact h C L N slot wl Kp hall (Side.refl A wl) (Nat.le_refl _) (Nat.le_refl _) hg
  | succ m ih =>
    intro z1 z4 z5 z6 z7 z8 z9 z10 z11 z12 z13 z14 z17 z18 z19 z20 z21 z22 z23 C L N wl i slot hm hi hN hNb hg Kp hall hnone h
    have hlt : i < n := by omega
    replace hm : n ≤ i + (m + 1) ∧ i + (m + 1) ≤ n := by omega
    have hle := Kp.ok.le
    rw [hn.out] at hle
    have hS := (crew_free A.c A.rp N L).steady
    have hL := Kp.lay
    rw [loop48_eq]
    refine Can.ctl hS hL rfl (fun _ => stepG_seq) ?_
    refine Can.code' hp hS hL (okFr_at (by kernel_rfl) rfl rfl ⟨_, Try.func48⟩) ?_
    intro T d W hW B hB
    simp only [headC, tailC, bodyC, loop48, body48, Try.f48, Option.getD_some]
    have hlt2 : (i : Int) < (n : Int) := by omega
    go_wp2
    have hB := hB.out
    subst hB
    intro hc
    have hW := hW.out
    subst hW
    refine Can.re ?_ T d
    clear hc
    refine Can.ctl hS hL rfl (fun _ => stepG_seq) ?_
    refine Can.ctl hS hL rfl (fun _ => stepG_cond (t := true) rfl) ?_; simp only [if_true, if_false, Bool.false_eq_true, ↓reduceIte]
    refine Can.ctl hS hL rfl (fun _ => stepG_skip) ?_
    refine Can.ctl hS hL rfl (fun _ => stepG_seq) ?_
    refine Can.ctl hS hL rfl (fun _ => stepG_block) ?_
    rw [← loop48_eq, inner48_eq]
    refine Can.ctl hS hL rfl (fun _ => stepG_seq) ?_
    refine Can.code' hp hS hL (okFr_at (by kernel_rfl) rfl rfl ⟨_, Try.func48⟩) ?_
    intro T d W hW B hB
    simp only [headC, tailC, bodyC, inner48, loop48, body48, Try.f48, Option.getD_some]
    go_wp2
    have hB := hB.out
    subst hB
    intro hc
    have hW := hW.out
    subst hW
    refine Can.re ?_ T d
    clear hc
    generalize hK : [Item.inBlock 1, .code (tailC 3 loop48), .inLoop loop48, .inBlock 0, .code (tailC 3 body48)] = K₁
    simp only [headC, tailC, bodyC, inner48, loop48, body48, Try.f48, Option.getD_some]
    refine Can.ctl hS hL rfl (fun _ => stepG_region) ?_; simp only [List.size_toArray, List.length_cons, List.length_nil, Nat.reduceAdd, Nat.zero_add, List.range, List.range.loop]
    refine Can.op (ok := okT) hS hL rfl rfl (by k_ne) (by kernel_rfl) (fun T d => ⟨.pointer (some ⟨A.c, 0, none⟩), wl.re T d, ?_, fun _ => Can.re ?_ T d⟩)
    · go_simp
    walk_nrm
    refine Can.op (ok := okT) hS hL rfl rfl (by k_ne) (by kernel_rfl) (fun T d => ⟨.int .i64 (i : Nat), wl.re T d, ?_, fun _ => Can.re ?_ T d⟩)
    · go_simp
    walk_nrm
    refine Can.ctl hS hL rfl (fun _ => st_start (p := .pointer (some ⟨A.c, 0, none⟩)) (q := .int .i64 (i : Nat)) Try.func53 rfl rfl (by k_ne) rfl (by kernel_rfl)) ?_
    refine start hp hN (by omega) (hg _ (Nat.le_refl _)) Kp (by rw [hn.out]; exact hlt) (hnone i (Nat.le_refl _)) ?_
    intro C₂ u w₂ K₂ sd₂
    rw [upd_self (f := fun _ => (0 : Int)) rfl] at K₂
    walk_nrm
    have hS₂ := (crew_free A.c A.rp (N + 1) (upd L N (.live u))).steady
    have hL₂ := K₂.lay
    refine Can.ctl hS₂ hL₂ rfl (fun _ => stepG_region_end) ?_
    subst hK
    refine Can.ctl hS₂ hL₂ rfl (fun _ => stepG_inBlock) ?_
    refine Can.code' hp hS₂ hL₂ (okFr_at (by kernel_rfl) rfl rfl ⟨_, Try.func48⟩) ?_
    intro T d W hW B hB
    simp only [headC, tailC, bodyC, loop48, body48, Try.f48, Option.getD_some]
    go_wp2
    have hB := hB.out
    subst hB
    intro hc
    have hW := hW.out
    subst hW
    refine Can.re ?_ T d
    clear hc
    refine Can.ctl hS₂ hL₂ rfl (fun _ => stepG_inLoop) ?_
    rw [show ((i : Int) + 1) = ((i + 1 : Nat) : Int) from by omega]
    refine ih (by omega) (by omega) (by omega) (by omega) (fun j hj => ?_) K₂ (fun l hl => ?_) (fun l hl => ?_) ?_
    · rw [upd_ne _ _ (by omega)]; exact hg j (by omega)
    · by_cases e : l = i
      · subst e; exact ⟨_, upd_same _ _ _⟩
      · rw [upd_ne _ _ e]; exact hall l (by omega)
    · rw [upd_ne _ _ (by omega)]; exact hnone l (by omega)
    · intro C' L' N' slot' wl' K' all' sd' h1 h2 hg'
      exact h C' L' N' slot' wl' K' all' (sd₂.trans sd') (by omega) (by omega) hg'
end
end Go.Town.Kp
namespace Go.Town.Kp
open Go Go.Conc Go.Conc.Lib Go.ConcR.Gen Go.RowKit Go.Town Go.Proofs
open Go.ConcN (upd upd_ne upd_same)
structure Grown (w w' : World) : Prop where
  cells : ∀ x j v, x < w.heap.size → w.cell? ⟨x, j, none⟩ = some v → w'.cell? ⟨x, j, none⟩ = some v
  thaw : ∀ x j v, x < w.heap.size → w.cell? ⟨x, j, none⟩ = some v → w.frozen? ⟨x, j, none⟩ = false → w'.frozen? ⟨x, j, none⟩ = false
  size : w.heap.size ≤ w'.heap.size
theorem Grown.refl (w : World) : Grown w w := ⟨fun _ _ _ _ h => h, fun _ _ _ _ _ h => h, Nat.le_refl _⟩
theorem Grown.trans {w w' w'' : World} (h : Grown w w') (k : Grown w' w'') : Grown w w'' :=
  ⟨fun x j v hx hv => k.cells x j v (by have := h.size; omega) (h.cells x j v hx hv), fun x j v hx hv hf => k.thaw x j v (by have := h.size; omega) (h.cells x j v hx hv) (h.thaw x j v hx hv hf), Nat.le_trans h.size k.size⟩
theorem Grown.re {w w' : World} (h : Grown w w') (T : Nat → Question → Nat) (d : Nat) : Grown w (w'.re T d) := ⟨h.cells, h.thaw, h.size⟩
theorem Grown.alloc {w w' : World} (h : Grown w w') (o : Obj) : Grown w (w'.alloc o) := h.trans ⟨fun _ _ _ _ hv => cell_alloc hv, fun _ _ _ _ hv hf => (frozen_alloc hv).trans hf, by rw [World.size_alloc]; omega⟩
theorem ext_cell {w w' : World} (h : Ext w w') {a : Addr} {v : Value} (hv : w.cell? a = some v) : w'.cell? a = some v ∧ w'.frozen? a = w.frozen? a := by
  obtain ⟨c, e, f, hb, _⟩ := block_of_cell hv
  have hb' := h.heap _ _ hb
  unfold World.cell? World.frozen? at *
  rw [hb] at hv
  rw [hb', hb]
  exact ⟨hv, rfl⟩
theorem cutW_cell {w : World} {c x j : Nat} {cs : Array Value} {t : TypeId} (h : x ≠ c) : (cutW w c cs t).cell? ⟨x, j, none⟩ = w.cell? ⟨x, j, none⟩ ∧ (cutW w c cs t).frozen? ⟨x, j, none⟩ = w.frozen? ⟨x, j, none⟩ := by
  unfold World.cell? World.frozen?
  simp only [cutW_ne h]
  exact ⟨trivial, trivial⟩
section
variable {C : Cfg} {L : Nat → Ws} {Post : Value → World → Prop} {N k : Nat} {wl : World} {i : Nat} {cs : List Frame} {slot : Nat → Option Nat} {sum starts : Nat → Int} {b₀ : Frame} {a₀ : Act} {ops₀ : Array Oper} {i₀ : Nat} {rest₀ : List Nat} {k₀ : List Item}
variable {A : At}
set_option maxRecDepth 100000 in
set_option maxHeartbeats 400000 in
theorem newCrew {C₀ : Cfg} {b' o' Bd n : Nat} (hp : OkProg Try.prog okT) (hn : n ≤ 4) (hBd : Bd + 4 < 2147483640) (hL : Lay C₀ wl)
    (h : ∀ (A : At) C' L' N' slot' wl', A.n = n → Kept A C' L' slot' (fun _ => 0) (fun _ => 0) wl' → (∀ l, l < n → ∃ x, slot' l = some x) → Grown wl wl' → wl.heap.size ≤ A.c → wl.heap.size ≤ A.ta → wl.heap.size ≤ A.sa → wl.heap.size ≤ A.st → 0 < N' → N' ≤ Bd + n → (∀ j, N' ≤ j → L' j = .gone) → Can Try.prog C' A.c 5 Post 0 (Crew A.c A.rp N' L') wl' (G (b₀.at (a₀.put ((ops₀[i₀]?).bind (·.dst)) (.pointer (some ⟨A.c, 0, none⟩))) (.inRegion ops₀ rest₀ :: k₀)) cs)) :
    Can Try.prog C₀ b' o' Post 0 (AloneB Bd) wl (G ((base 48).at ⟨#[.int .i64 (n : Nat)] ++ Array.replicate 23 undef, []⟩ [.code body48]) (b₀.at a₀ (.inRegion ops₀ (i₀ :: rest₀) :: k₀) :: cs)) := by
  have hS := steady_aloneB Bd
  have ea : (#[.int .i64 (n : Nat)] ++ Array.replicate 23 undef : Array Value) = #[.int .i64 (n : Nat), undef, undef, undef, undef, undef, undef, undef, undef, undef, undef, undef, undef, undef, undef, undef, undef, undef, undef, undef, undef, undef, undef, undef] := by kernel_rfl
  rw [ea, body48_eq]
  refine Can.ctl hS hL rfl (fun _ => stepG_seq) ?_
  refine Can.code' hp hS hL (okFr_at (by kernel_rfl) rfl rfl ⟨_, Try.func48⟩) ?_
  intro T d W hW B hB
  simp only [headC, tailC, bodyC, body48, Try.f48, Option.getD_some]
  go_wp2
  have hB := hB.out
  subst hB
  intro hc
  have hW := hW.out
  subst hW
  refine Can.re ?_ T d
  clear hc
  refine Can.ctl hS hL rfl (fun _ => stepG_seq) ?_
  refine Can.code' hp hS hL (okFr_at (by kernel_rfl) rfl rfl ⟨_, Try.func48⟩) ?_
  intro T d W hW B hB
  refine crew_region hn (fun c a w hc => ?_) (fun ta m rp sa st c v13 w' hM => ?_)
  · rw [hB.out] at hc; exact hc
  have hB := hB.out
  subst hB
  intro hc
  have hW := hW.out
  have hL' : Lay C₀ w' := ⟨hc, hL.no⟩
  have hE : Ext wl w' := ⟨fun r ob hr => hM.1.heap r ob (by rw [hW]; exact hr), by have := hM.1.size; rw [hW] at this; exact this⟩
  have hz : W.heap.size = wl.heap.size := by rw [hW]; rfl
  rw [hz] at hM
  have hM : Made n wl.heap.size wl w' ta m rp sa st c := ⟨hE, hM.2⟩
  clear hW hz
  have hM' := hM
  obtain ⟨_, z1, z2, z3, z4, z5, z6, _, hc1, _, _, _, _, _, _, _, _, _, _, b6⟩ := hM'
  refine Can.foundsB (b' := c) (o' := 5) (Rn := fun N => Crew c rp N (fun _ => .gone)) hL' ⟨(cell_of_block b6 rfl).1, (cell_of_block b6 rfl).1, (cell_of_block b6 rfl).2, (cell_of_block b6 rfl).2⟩ (fun w hw => weak_cut b6 (cs := #[.slice (some ⟨ta, 0, none⟩) n n, .map (some m), .chan (some rp), .slice (some ⟨sa, 0, none⟩) n n, .slice (some ⟨st, 0, none⟩) n n]) (by simp) (fun k hk => ?_) hw) (fun n₀ U hn₀ hs => ⟨by simp only [cutW, Array.size_setIfInBounds]; exact hs.size, fun b o hb ho => hs.obj b o hb (by rw [cutW_ne (by omega)] at ho; exact ho)⟩) (fun N rel ρ h0 _ hA hself => crew_first h0 hA hself) ?_
  · match k, hk with
    | 0, _ => rfl
    | 1, _ => rfl
    | 2, _ => rfl
    | 3, _ => rfl
    | 4, _ => rfl
  intro N hN hNB
  have K := kept_first (C₀ := C₀) (N := N) (W := wl) hn hM hL'
  have hG : Grown wl (cutW w' c #[.slice (some ⟨ta, 0, none⟩) n n, .map (some m), .chan (some rp), .slice (some ⟨sa, 0, none⟩) n n, .slice (some ⟨st, 0, none⟩) n n] 89) :=
    ⟨fun x j v hx hv => (cutW_cell (by omega)).1.trans (ext_cell hE hv).1, fun x j v hx hv hf => (cutW_cell (by omega)).2.trans ((ext_cell hE hv).2.trans hf), by show wl.heap.size ≤ (w'.heap.setIfInBounds _ _).size; rw [Array.size_setIfInBounds]; exact hE.size⟩
  generalize cutW w' c #[.slice (some ⟨ta, 0, none⟩) n n, .map (some m), .chan (some rp), .slice (some ⟨sa, 0, none⟩) n n, .slice (some ⟨st, 0, none⟩) n n] 89 = w₂ at *
  obtain ⟨A, hA⟩ : ∃ A : At, A = ⟨c, ta, sa, st, m, rp, n⟩ := ⟨_, rfl⟩
  have e1 : c = A.c := by rw [hA]
  have e2 : rp = A.rp := by rw [hA]
  have e3 : A.n = n := by rw [hA]
  have e4 : ta = A.ta := by rw [hA]
  have e5 : sa = A.sa := by rw [hA]
  have e6 : st = A.st := by rw [hA]
  rw [← hA] at K
  generalize C₀.anew N (wgAt c 5) True ⟨c, 5, none⟩ = C₁ at *
  rw [e1, e2]
  rw [e1] at z6
  rw [e4] at z1
  rw [e5] at z4
  rw [e6] at z5
  clear b6 hM hA e1 e2 hc1
  have hS := (crew_free A.c A.rp N (fun _ => .gone)).steady
  have hL := K.lay
  refine Can.ctl hS hL rfl (fun _ => stepG_seq) ?_
  refine Can.ctl hS hL rfl (fun _ => stepG_seq) ?_
  refine Can.code' hp hS hL (okFr_at (by kernel_rfl) rfl rfl ⟨_, Try.func48⟩) ?_
  intro T d W hW B hB
  simp only [headC, tailC, bodyC, body48, Try.f48, Option.getD_some]
  go_wp2
  have hB := hB.out
  subst hB
  intro hc
  have hW := hW.out
  subst hW
  refine Can.re ?_ T d
  clear hc
  refine Can.ctl hS hL rfl (fun _ => stepG_block) ?_
  refine Can.ctl hS hL rfl (fun _ => stepG_loop) ?_
  refine newCrew_loop (i := 0) hp ⟨e3⟩ n rfl (Nat.zero_le _) hN (by omega) (fun _ _ => rfl) K (fun l hl => by omega) (fun _ _ => rfl) ?_
  intro C' L' N' slot' wl' K' all' sd' h1 h2 hg'
  refine h A C' L' N' slot' wl' e3 K' all' ⟨fun x j v hx hv => sd'.cells x j v (by omega) (by omega) (by omega) (hG.cells x j v hx hv), fun x j v hx hv hf => (sd'.thaw x j v (by omega) (hG.cells x j v hx hv) (hG.thaw x j v hx hv hf)).2, Nat.le_trans hG.size sd'.size⟩ z6 z1 z4 z5 (by omega) (by omega) hg'
end
end Go.Town.Kp
namespace Go.Town.Kp
open Go Go.Conc Go.Conc.Lib Go.ConcR.Gen Go.RowKit Go.Town Go.Proofs
set_option maxRecDepth 100000 in
set_option maxHeartbeats 400000 in
theorem szIntS_any (a : Option Addr) (c n : Nat) (room : Int) (w : World) (hn : n ≤ 9223372036854775807) (h0 : 0 ≤ room) (h1 : room ≤ 1048576) :
    Calls Try.prog 44 #[.slice a n c, .int .i64 room] w fun e w' => e = .returned (.int .i64 (if room < n then -1 else room - n)) ∧ w = w' := by
  have hs : IntKind.i64.wrap (room - (n : Int)) = room - (n : Int) := IntWalk.i64_in _ (by omega)
  by_cases h : room < n
  · rw [if_pos h]
    have h' : room - (n : Int) < 0 := by omega
    go_enter Try.func44, Try.ntmps44
    go_wp2
    go_ret
    exact ⟨rfl, rfl⟩
  · rw [if_neg h]
    have h' : ¬ (room - (n : Int) < 0) := by omega
    go_enter Try.func44, Try.ntmps44
    go_wp2
    go_ret
    exact ⟨rfl, rfl⟩
set_option maxRecDepth 100000 in
set_option maxHeartbeats 400000 in
theorem szKeeper_any (l : ByteArray) (f t : Value) (room : Int) (w : World) (hn : l.size ≤ 9223372036854775807) (h0 : 0 ≤ room) (h1 : room ≤ 1048576) :
    Calls Try.prog 16 #[.agg #[.string l, f, t], .int .i64 room] w fun e w' => e = .returned (.int .i64 (if room < l.size then -1 else room - l.size)) ∧ Below w.heap.size w w' := by
  have hB : ∀ o, Below w.heap.size w (w.alloc o) := fun o => (Below.refl _ _).alloc (Nat.le_refl _) _
  have hs : IntKind.i64.wrap (room - (l.size : Int)) = room - (l.size : Int) := IntWalk.i64_in _ (by omega)
  by_cases h : room < l.size
  · rw [if_pos h]
    have h' : room - (l.size : Int) < 0 := by omega
    go_enter Try.func16, Try.ntmps16
    go_wp2
    go_ret
    exact ⟨rfl, hB _⟩
  · rw [if_neg h]
    have h' : ¬ (room - (l.size : Int) < 0) := by omega
    go_enter Try.func16, Try.ntmps16
    go_wp2
    go_ret
    exact ⟨rfl, hB _⟩
set_option maxRecDepth 100000 in
set_option maxHeartbeats 400000 in
theorem toKeeper_any (l : ByteArray) (f t : Int) (w : World) :
    Calls Try.prog 18 #[.agg #[.string l, .int .i64 f, .int .i64 t]] w fun e w' => e = .returned (.agg #[.string l, .int .i64 f, .int .i64 t]) ∧ Below w.heap.size w w' := by
  have hB : Below w.heap.size w w := Below.refl _ _
  go_enter Try.func18, Try.ntmps18
  go_wp2
  refine bodyPost_ret (v := .agg #[.string l, .int .i64 f, .int .i64 t]) (by simp [results, Try.results18, go_sem]) rfl ⟨rfl, ?_⟩
  repeat' first
    | exact hB
    | refine Below.alloc ?_ (by first | (simp; done) | (simp; omega)) _
    | refine Below.setCell ?_ (by first | (simp; done) | (simp; omega)) _
set_option maxRecDepth 100000 in
set_option maxHeartbeats 400000 in
theorem szIntSS_any (a : Option Addr) (c : Nat) (J : List (List Int)) (room : Int) (w : World) (hn : J.length ≤ 9223372036854775807) (hm : ∀ l ∈ J, l.length ≤ 9223372036854775807) (h0 : 0 ≤ room) (h1 : room ≤ 1048576) (hA : RowsAt w a J) :
    Calls Try.prog 17 #[.slice a J.length c, .int .i64 room] w fun e w' => (∃ v : Int, e = .returned (.int .i64 v) ∧ (v < 0 ∨ 0 ≤ v ∧ v ≤ room ∧ (J.length : Int) ≤ room ∧ ∀ l ∈ J, (l.length : Int) ≤ room)) ∧ w = w' := by
  have hs : IntKind.i64.wrap (room - (J.length : Int)) = room - (J.length : Int) := IntWalk.i64_in _ (by omega)
  by_cases h : room < J.length
  · have h' : room - (J.length : Int) < 0 := by omega
    go_enter Try.func17, Try.ntmps17
    go_wp2
    go_ret
    exact ⟨⟨_, rfl, .inl (by omega)⟩, rfl⟩
  · have h' : ¬ (room - (J.length : Int) < 0) := by omega
    go_enter Try.func17, Try.ntmps17
    go_wp2
    go_loop [1, 5] (fun r i => ∃ (k : Nat) (v : Int), k ≤ J.length ∧ i = .int .i64 k ∧ r = .int .i64 v ∧ 0 ≤ v ∧ v ≤ room ∧ ∀ l ∈ J.take k, (l.length : Int) ≤ room) (fun _ i => J.length - (intOf i).toNat)
    case atStart => exact ⟨0, _, Nat.zero_le _, rfl, rfl, by omega, by omega, by simp⟩
    case round =>
      obtain ⟨k, v, hk, rfl, rfl, v0, v1, hall⟩ := hrel
      by_cases hlt : k < J.length
      · obtain ⟨b, off, a', c', rfl, hb, hc, hI⟩ := hA.at hlt
        have hml := hm _ (List.getElem_mem hlt)
        have hkl : (k : Int) < (J.length : Int) := by omega
        have c44 : Hid (Calls Try.prog 44 #[.slice a' J[k].length c', .int .i64 v] w fun e w' => e = .returned (.int .i64 (if v < (J[k].length : Int) then -1 else v - J[k].length)) ∧ w = w') := ⟨szIntS_any a' c' J[k].length v w hml v0 (by omega)⟩
        have htk : Hid (v ≥ (J[k].length : Int) → ∀ l ∈ J.take (k + 1), (l.length : Int) ≤ room) := ⟨fun hv l hl => by
          rw [List.take_succ_eq_append_getElem hlt] at hl
          rcases List.mem_append.1 hl with hl | hl
          · exact hall l hl
          · rw [List.mem_singleton] at hl; subst hl; omega⟩
        clear hm hall hI
        generalize J[k].length = m at *
        by_cases h2 : v < (m : Int)
        · rw [if_pos h2] at c44
          go_wp2_with (go_at_call 44; (with_reducible refine c44.out.mono ?_); rintro e w' ⟨rfl, rfl⟩)
          go_ret
          exact ⟨⟨_, rfl, .inl (by omega)⟩, rfl⟩
        · rw [if_neg h2] at c44
          have hnn : ¬ (v - (m : Int) < 0) := by omega
          go_wp2_with (go_at_call 44; (with_reducible refine c44.out.mono ?_); rintro e w' ⟨rfl, rfl⟩)
          go_round
          case rel => exact ⟨k + 1, _, by omega, by go_num, rfl, by omega, by omega, htk.out (by omega)⟩
          case measure => simp [intOf]; omega
      · obtain rfl : k = J.length := by omega
        rw [List.take_length] at hall
        have hall' := Lib.hid hall
        clear hall
        go_wp2
        go_ret
        refine ⟨⟨_, rfl, .inr ?_⟩, rfl⟩
        exact ⟨v0, v1, hall'.out⟩
def fillV (z : Value) (vs : List Value) (k : Nat) : Array Value := (vs.take k ++ List.replicate (vs.length - k) z).toArray
theorem fillV_zero (z : Value) (vs : List Value) : Array.replicate vs.length z = fillV z vs 0 := by simp [fillV]
theorem fillV_at (z : Value) (vs : List Value) (k : Nat) (h : k < vs.length) : (fillV z vs k)[k]? = some z := by
  have e : (vs.take k).length = k := by simp; omega
  simp only [fillV, List.getElem?_toArray]
  rw [List.getElem?_append_right (by omega), e, Nat.sub_self, List.getElem?_replicate, if_pos (by omega)]
theorem fillV_set (z : Value) (vs : List Value) (k : Nat) (h : k < vs.length) : (fillV z vs k).setIfInBounds k (vs[k]) = fillV z vs (k + 1) := by
  have e : (vs.take k).length = k := by simp; omega
  apply Array.ext'
  simp only [fillV, List.setIfInBounds_toArray]
  rw [List.set_append, if_neg (by omega), e, Nat.sub_self, show vs.length - k = (vs.length - (k + 1)) + 1 from by omega, List.replicate_succ, List.take_succ_eq_append_getElem h]
  simp only [List.set_cons_zero, List.append_assoc, List.singleton_append]
theorem fillV_all (z : Value) (vs : List Value) : fillV z vs vs.length = vs.toArray := by simp [fillV]
def ints (zs : List Int) : Array Value := (zs.map (Value.int .i64)).toArray
set_option maxRecDepth 100000 in
set_option maxHeartbeats 400000 in
theorem toIntS_any (a : Option Addr) (c : Nat) (zs : List Int) (w : World) (hn : zs.length ≤ 1048576) (hA : IntsAt w a zs) :
    Calls Try.prog 45 #[.slice a zs.length c] w fun e w' =>
      e = .returned (.slice (some ⟨w.heap.size, 0, none⟩) zs.length zs.length) ∧ w.alloc (.cells (ints zs) 3) = w' := by
  have hmk := mk_ints w zs.length hn
  rw [show zs.length = (zs.map (Value.int .i64)).length from by simp, fillV_zero, List.length_map] at hmk
  go_enter Try.func45, Try.ntmps45
  go_wp2
  go_loopw [4] (fun i wr => ∃ k : Nat, k ≤ zs.length ∧ i = .int .i64 k ∧ wr = w.alloc (.cells (fillV (.int .i64 0) (zs.map (Value.int .i64)) k) 3)) (fun i _ => zs.length - (intOf i).toNat)
  case atStart => exact ⟨0, Nat.zero_le _, rfl, rfl⟩
  case round =>
    obtain ⟨k, hk, rfl, rfl⟩ := hrel
    by_cases hlt : k < zs.length
    · obtain ⟨b, off, rfl, hbs, hck⟩ := hA.at hlt
      have hfa := fillV_at (.int .i64 0) (zs.map (Value.int .i64)) k (by simpa using hlt)
      have hfs := Lib.hid (fillV_set (.int .i64 0) (zs.map (Value.int .i64)) k (by simpa using hlt))
      have hlt' : (k : Int) < (zs.length : Int) := by omega
      go_wp2
      go_roundw
      case rel => exact ⟨k + 1, by omega, by go_num, by have := hfs.out; simp only [List.getElem_map] at this; rw [this]⟩
      case measure => simp [intOf]; omega
    · obtain rfl : k = zs.length := by omega
      have hfe := Lib.hid (fillV_all (.int .i64 0) (zs.map (Value.int .i64)))
      go_wp2
      go_ret
      exact ⟨rfl, by have := hfe.out; rw [List.length_map] at this; rw [this]; rfl⟩
end Go.Town.Kp
namespace Go.Town.Kp
open Go Go.Conc Go.Conc.Lib Go.ConcR.Gen Go.RowKit Go.Town Go.Proofs
theorem Try.info28 : (Try.prog.info? 28).map (fun i => (i.zero, i.size, i.bytes)) = some (some (.slice none 0 0), 1, 24) := by kernel_rfl
theorem mk_rows (w : World) (n : Nat) (h : n ≤ 1048576) : (Instr.makeSlice 25 (.int .i64 (n : Int)) (.int .i64 (n : Int))).run Try.prog w = .ok (.slice (some ⟨w.heap.size, 0, none⟩) n n) (w.alloc (.cells (Array.replicate n (.slice none 0 0)) 28)) := by
  obtain ⟨i0, hi, hz0, hz1, hz2⟩ := info_parts Try.info28
  have := run_make (P := Try.prog) w 25 28 i0 (.slice none 0 0) Try.underlying25 hi hz0 .i64 .i64 n n (by omega) (by omega) (by rw [hz2]; omega) (by omega)
  rw [this, hz1, madeCells_one _ rfl]
  simp only [Int.toNat_natCast, Nat.mul_one]
structure Copied (b : Nat) (J : List (List Int)) (k : Nat) (w : World) : Prop where
  outer : ∃ cs : Array Value, w.heap[b]? = some (.cells cs 28) ∧ cs.size = J.length ∧ ∀ j (h : j < J.length), j < k → ∃ r, b < r ∧ r < w.heap.size ∧ cs[j]? = some (.slice (some ⟨r, 0, none⟩) J[j].length J[j].length) ∧ w.heap[r]? = some (.cells (ints J[j]) 3)
theorem Copied.first (w : World) (J : List (List Int)) : Copied w.heap.size J 0 (w.alloc (.cells (Array.replicate J.length (.slice none 0 0)) 28)) :=
  ⟨⟨_, heap_alloc_new _ _, by simp, fun j h hj => by omega⟩⟩
theorem Copied.next {b : Nat} {J : List (List Int)} {k : Nat} {w : World} (h : Copied b J k w) (hk : k < J.length) :
    Copied b J (k + 1) ((w.alloc (.cells (ints J[k]) 3)).setCell ⟨b, k, none⟩ (.slice (some ⟨w.heap.size, 0, none⟩) J[k].length J[k].length)) := by
  obtain ⟨cs, h1, h2, h3⟩ := h.outer
  have hlt := (Array.getElem?_eq_some_iff.1 h1).1
  have e1 : (w.alloc (.cells (ints J[k]) 3)).heap[b]? = some (.cells cs 28) := (Below.heap_alloc _ _ _ hlt).trans h1
  have ne : ∀ r : Nat, r ≠ b → ∀ o : Obj, (w.alloc (.cells (ints J[k]) 3)).heap[r]? = some o → ((w.alloc (.cells (ints J[k]) 3)).setCell ⟨b, k, none⟩ (.slice (some ⟨w.heap.size, 0, none⟩) J[k].length J[k].length)).heap[r]? = some o := fun r hr o ho => by
    simp only [World.setCell, Array.getElem?_modify]
    rw [if_neg (by show ¬ b = r; omega)]; exact ho
  have sz : ((w.alloc (.cells (ints J[k]) 3)).setCell ⟨b, k, none⟩ (.slice (some ⟨w.heap.size, 0, none⟩) J[k].length J[k].length)).heap.size = w.heap.size + 1 := by simp [World.setCell]
  refine ⟨⟨cs.setIfInBounds k (.slice (some ⟨w.heap.size, 0, none⟩) J[k].length J[k].length), ?_, by simp [h2], fun j hj hjk => ?_⟩⟩
  · simp only [World.setCell, Array.getElem?_modify]
    rw [e1]; simp
  · by_cases e : j = k
    · subst e
      exact ⟨w.heap.size, hlt, by omega, by simp [Array.getElem?_setIfInBounds, h2, hj], ne _ (by omega) _ (heap_alloc_new _ _)⟩
    · obtain ⟨r, g1, g2, g3, g4⟩ := h3 j hj (by omega)
      exact ⟨r, g1, by omega, by rw [Array.getElem?_setIfInBounds, if_neg (by omega)]; exact g3, ne _ (by omega) _ ((Below.heap_alloc _ _ _ g2).trans g4)⟩
theorem Copied.slot {b : Nat} {J : List (List Int)} {k : Nat} {w : World} (h : Copied b J k w) {j : Nat} (hj : j < J.length) : (∃ v, w.cell? ⟨b, j, none⟩ = some v) ∧ w.frozen? ⟨b, j, none⟩ = false := by
  obtain ⟨cs, h1, h2, _⟩ := h.outer
  exact ⟨⟨cs[j], by simp [World.cell?, h1, h2, hj]⟩, by simp [World.frozen?, h1]⟩
set_option maxRecDepth 100000 in
set_option maxHeartbeats 400000 in
theorem toIntSS_any (a : Option Addr) (c : Nat) (J : List (List Int)) (w : World) (hn : J.length ≤ 1048576) (hm : ∀ l ∈ J, l.length ≤ 1048576) (hA : RowsAt w a J) :
    Calls Try.prog 19 #[.slice a J.length c] w fun e w' => e = .returned (.slice (some ⟨w.heap.size, 0, none⟩) J.length J.length) ∧ Copied w.heap.size J J.length w' ∧ Below w.heap.size w w' := by
  have hmk := mk_rows w J.length hn
  go_enter Try.func19, Try.ntmps19
  go_wp2
  go_loopw [4] (fun i wr => ∃ k : Nat, k ≤ J.length ∧ i = .int .i64 k ∧ Copied w.heap.size J k wr ∧ Below w.heap.size w wr) (fun i _ => J.length - (intOf i).toNat)
  case atStart => exact ⟨0, Nat.zero_le _, rfl, Copied.first w J, (Below.refl _ _).alloc (Nat.le_refl _) _⟩
  case round =>
    obtain ⟨k, hk, rfl, hC, hB⟩ := hrel
    by_cases hlt : k < J.length
    · obtain ⟨b, off, a', c', rfl, hbs, hck, hI⟩ := (hA.below hB (Nat.le_refl _)).at hlt
      have hlt' : (k : Int) < (J.length : Int) := by omega
      have hml := hm _ (List.getElem_mem hlt)
      have c45 : Hid (Calls Try.prog 45 #[.slice a' J[k].length c'] wr fun e w' => e = .returned (.slice (some ⟨wr.heap.size, 0, none⟩) J[k].length J[k].length) ∧ wr.alloc (.cells (ints J[k]) 3) = w') := ⟨toIntS_any a' c' J[k] wr hml hI⟩
      obtain ⟨v0, hv0⟩ := (hC.slot hlt).1
      have hs1 : ∀ o, (wr.alloc o).cell? ⟨w.heap.size, k, none⟩ = some v0 := fun o => cell_alloc hv0
      have hs2 : ∀ o, (wr.alloc o).frozen? ⟨w.heap.size, k, none⟩ = false := fun o => (frozen_alloc hv0).trans (hC.slot hlt).2
      have hnx := Lib.hid (hC.next hlt)
      have hbx : Hid (∀ o v, Below w.heap.size w ((wr.alloc o).setCell ⟨w.heap.size, k, none⟩ v)) := ⟨fun o v => (hB.alloc hB.size o).setCell (p := ⟨w.heap.size, k, none⟩) (Nat.le_refl _) v⟩
      clear hv0
      go_wp2_with (go_at_call 45; (with_reducible refine c45.out.mono ?_); rintro e w' ⟨rfl, rfl⟩)
      go_roundw
      case rel => exact ⟨k + 1, by omega, by go_num, hnx.out, hbx.out _ _⟩
      case measure => simp [intOf]; omega
    · obtain rfl : k = J.length := by omega
      go_wp2
      go_ret
      exact ⟨rfl, hC, hB⟩
end Go.Town.Kp
