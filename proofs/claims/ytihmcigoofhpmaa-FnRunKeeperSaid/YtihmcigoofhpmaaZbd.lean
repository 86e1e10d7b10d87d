/-
  newCrew as a whole.
  newCrew as a whole.
-/
import Derived.Test.YtihmcigoofhpmaaZbc
set_option linter.all false
namespace Go.Town.Kp
open Go Go.Conc Go.Conc.Lib Go.ConcR.Gen Go.RowKit Go.Town Go.Proofs
open Go.ConcN (upd upd_ne upd_same)
def cutW (w : World) (c : Nat) (cs : Array Value) (t : TypeId) : World := { w with heap := w.heap.setIfInBounds c (.cells cs t) }
theorem weak_cut {w w₁ : World} {c : Nat} {cs cs' : Array Value} {t : TypeId} (hb : w.heap[c]? = some (.cells cs' t)) (hs : cs.size ≤ cs'.size) (hc : ∀ k, k < cs.size → cs'[k]? = cs[k]?) (h : Weak w w₁) : Weak (cutW w c cs t) w₁ := by
  have hlt := (Array.getElem?_eq_some_iff.1 hb).1
  refine ⟨by simp [cutW, h.size], fun b o o' h1 h2 => ?_, h.os, h.out, fun b o h1 => ?_⟩
  · simp only [cutW, Array.getElem?_setIfInBounds] at h1
    by_cases e : c = b
    · subst e
      rw [if_pos rfl, if_pos hlt] at h1
      cases h1
      have := h.obj c _ o' hb h2
      cases this with
      | same => exact .cut hs hc (fun _ _ q => q)
      | cut g1 g2 g3 => exact .cut (Nat.le_trans hs g1) (fun k hk => (g2 k (by omega)).trans (hc k hk)) (fun k hk q => g3 k (by omega) q)
      | blind hb => cases hb
    · rw [if_neg e] at h1; exact h.obj b o o' h1 h2
  · simp only [cutW, Array.getElem?_setIfInBounds] at h1
    by_cases e : c = b
    · subst e; rw [if_pos rfl, if_pos hlt] at h1; cases h1; rfl
    · rw [if_neg e] at h1; exact h.noOdd b o h1
theorem cutW_ne {w : World} {c r : Nat} {cs : Array Value} {t : TypeId} (h : r ≠ c) : (cutW w c cs t).heap[r]? = w.heap[r]? := by
  simp only [cutW]
  rw [Array.getElem?_setIfInBounds_ne (Ne.symm h)]
theorem cutW_self {w : World} {c : Nat} {cs : Array Value} {t : TypeId} (h : c < w.heap.size) : (cutW w c cs t).heap[c]? = some (.cells cs t) := by simp [cutW, h]
theorem cell_of_block {w : World} {b j : Nat} {cs : Array Value} {t : TypeId} {v : Value} (hb : w.heap[b]? = some (.cells cs t)) (hj : cs[j]? = some v) : w.cell? ⟨b, j, none⟩ = some v ∧ w.frozen? ⟨b, j, none⟩ = false := by
  constructor
  · unfold World.cell?; simp only [hb]; simpa using hj
  · unfold World.frozen?; simp only [hb]; simp
theorem kept_first {C₀ : Cfg} {W w : World} {n N ta m rp sa st c : Nat} (hn : n ≤ 4) (hM : Made n W.heap.size W w ta m rp sa st c) (hL : Lay C₀ w) :
    Kept ⟨c, ta, sa, st, m, rp, n⟩ (C₀.anew N (wgAt c 5) True ⟨c, 5, none⟩) (fun _ => .gone) (fun _ => none) (fun _ => 0) (fun _ => 0) (cutW w c #[.slice (some ⟨ta, 0, none⟩) n n, .map (some m), .chan (some rp), .slice (some ⟨sa, 0, none⟩) n n, .slice (some ⟨st, 0, none⟩) n n] 89) := by
  obtain ⟨hE, z1, z2, z3, z4, z5, z6, hne, hc, l1, l2, l3, l4, l5, b1, b2, b3, b4, b5, b6⟩ := hM
  have nta : ta ≠ sa := by rintro rfl; rw [b1] at b4; simp at b4
  have ntb : ta ≠ st := by rintro rfl; rw [b1] at b5; simp at b5
  have hcl : c < w.heap.size := by omega
  obtain ⟨u, hu⟩ : ∃ u, u = cutW w c #[.slice (some ⟨ta, 0, none⟩) n n, .map (some m), .chan (some rp), .slice (some ⟨sa, 0, none⟩) n n, .slice (some ⟨st, 0, none⟩) n n] 89 := ⟨_, rfl⟩
  have ne : ∀ r : Nat, r ≠ c → u.heap[r]? = w.heap[r]? := fun r hr => by rw [hu]; exact cutW_ne hr
  have self : u.heap[c]? = some (.cells #[.slice (some ⟨ta, 0, none⟩) n n, .map (some m), .chan (some rp), .slice (some ⟨sa, 0, none⟩) n n, .slice (some ⟨st, 0, none⟩) n n] 89) := by rw [hu]; exact cutW_self hcl
  have sz : u.heap.size = w.heap.size := by rw [hu]; simp [cutW]
  rw [← hu]
  clear hu
  have rep : ∀ (v : Value) (i : Nat), i < n → (Array.replicate n v)[i]? = some v := fun v i hi => by simp [hi]
  have gone : ∀ (a : Addr), u.cell? a = none ∨ ∃ v, u.cell? a = some v := fun a => by cases u.cell? a <;> simp
  refine ⟨⟨show c ≠ ta by omega, show c ≠ sa by omega, show c ≠ st by omega, nta, ntb, hne, show n ≤ 1048576 by omega⟩, ⟨(cell_of_block self rfl).1, (cell_of_block self rfl).1, (cell_of_block self rfl).1, (cell_of_block self rfl).1, (cell_of_block self rfl).1, fun i hi => cell_of_block ((ne ta (by omega)).trans b1) (rep _ i hi), fun i hi => cell_of_block ((ne sa (by omega)).trans b4) (rep _ i hi), fun i hi => cell_of_block ((ne st (by omega)).trans b5) (rep _ i hi)⟩,
    ⟨#[], 0, (ne m (by omega)).trans b2, (fun e he => by simp at he), (fun i x _ hx => by cases hx), by simp⟩,
    ⟨(fun i j x _ _ hx => by cases hx), ⟨0, (ne rp (by omega)).trans b3⟩, (fun i x _ hx => by cases hx)⟩, ⟨⟨fun b k hk => ?_, fun b k hk => ?_⟩, fun g r => ⟨fun h => h, fun h => h⟩⟩, ⟨trivial, (fun g l h => h), (fun j v _ hv => by cases hv)⟩, ⟨(fun i j v v' _ _ _ hv => by cases hv), (fun i v _ hv => by cases hv)⟩, fun i x _ hx => (by cases hx), fun j v _ hv => (by cases hv)⟩
  · have hk' : (⟨b, k, none⟩ : Addr) = ⟨c, 5, none⟩ ∨ (⟨b, k, none⟩ : Addr) = ⟨c, 6, none⟩ ∨ hidOf C₀ b k := by
      rcases hk with hk | hk | ⟨g, hk⟩
      · rcases hk.2 with h | h
        · exact .inl (by simpa using h)
        · exact .inr (.inl (by simpa using h))
      · rcases hk with h | h
        · exact .inr (.inr (.inr (.inl h)))
        · exact .inr (.inr (.inl h))
      · exact hk.elim
    rcases hk' with h | h | h
    · cases h
      refine ⟨by omega, ?_⟩
      unfold World.cell?
      simp only [self]
      rfl
    · cases h
      refine ⟨by omega, ?_⟩
      unfold World.cell?
      simp only [self]
      rfl
    · obtain ⟨h1, h2⟩ := hL.cut.hid b k h
      refine ⟨by omega, ?_⟩
      by_cases e : b = c
      · subst e
        rcases (by omega : k < 5 ∨ 5 ≤ k) with hk5 | hk5
        · have : ∃ v, w.cell? ⟨b, k, none⟩ = some v := by
            match k, hk5 with
            | 0, _ => exact ⟨_, (cell_of_block b6 rfl).1⟩
            | 1, _ => exact ⟨_, (cell_of_block b6 rfl).1⟩
            | 2, _ => exact ⟨_, (cell_of_block b6 rfl).1⟩
            | 3, _ => exact ⟨_, (cell_of_block b6 rfl).1⟩
            | 4, _ => exact ⟨_, (cell_of_block b6 rfl).1⟩
          obtain ⟨v, hv⟩ := this
          rw [hv] at h2; cases h2
        · unfold World.cell?
          simp only [self]
          simp
          omega
      · unfold World.cell? at h2 ⊢
        simp only [ne b e]
        exact h2
  · obtain ⟨g, hk⟩ := hk
    exact hk.elim
theorem crew_first {c rp N : Nat} {rel : Nat → Prop} {ρ : Nat → Role} (hN : 0 < N) (h : Alone rel ρ N) (h0 : ∀ j, (ρ j).isSelf = true → j = 0) : Crew c rp N (fun _ => .gone) rel ρ N := by
  refine ⟨rfl, hN, fun j hj => ?_⟩
  rcases h.2 j with q | ⟨d, q⟩ | q
  · exact .inr q
  · rw [q]; exact .inl rfl
  · exact absurd (h0 j q) hj
section
variable {A : At} {C : Cfg} {L : Nat → Ws} {Post : Value → World → Prop} {N k : Nat} {wl : World} {i : Nat} {cs : List Frame} {slot : Nat → Option Nat} {sum starts : Nat → Int} {b₀ : Frame} {a₀ : Act} {ops₀ : Array Oper} {i₀ : Nat} {rest₀ : List Nat} {k₀ : List Item}
noncomputable def loop48 : Code := bodyC (bodyC (tailC 1 (headC 2 body48)))
noncomputable def inner48 : Code := bodyC (headC 2 loop48)
theorem body48_eq : body48 = .seq (headC 0 body48) (.seq (headC 1 body48) (.seq (.seq (headC 0 (headC 2 body48)) (.block 0 (.loop loop48))) (tailC 3 body48))) := by kernel_rfl
theorem loop48_eq : loop48 = .seq (headC 0 loop48) (.seq (.cond (.tmp 17) .skip (.exit 0)) (.seq (.block 1 inner48) (tailC 3 loop48))) := by kernel_rfl
theorem inner48_eq : inner48 = .seq (headC 0 inner48) (tailC 1 inner48) := by kernel_rfl
set_option maxRecDepth 100000 in
set_option maxHeartbeats 400000 in
theorem newCrew_loop {n : Nat} (hp : OkProg Try.prog okT) (hn : Hid (A.n = n)) : ∀ (m : Nat) {z1 z4 z5 z6 z7 z8 z9 za zb zc zd ze zf zg zh zi zj zk zl : Value} {C : Cfg} {L : Nat → Ws} {N : Nat} {wl : World} {i : Nat} {slot : Nat → Option Nat}, n - i = m → i ≤ n → 0 < N → N + m < 2147483640 → (∀ j, N ≤ j → L j = .gone) → Kept A C L slot (fun _ => 0) (fun _ => 0) wl → (∀ l, l < i → ∃ x, slot l = some x) → (∀ l, i ≤ l → slot l = none) →
    (∀ C' L' N' slot' wl', Kept A C' L' slot' (fun _ => 0) (fun _ => 0) wl' → (∀ l, l < n → ∃ x, slot' l = some x) → Side A wl wl' → N ≤ N' → N' ≤ N + m → (∀ j, N' ≤ j → L' j = .gone) → Can Try.prog C' A.c 5 Post 0 (Crew A.c A.rp N' L') wl' (G (b₀.at (a₀.put ((ops₀[i₀]?).bind (·.dst)) (.pointer (some ⟨A.c, 0, none⟩))) (.inRegion ops₀ rest₀ :: k₀)) cs)) →
    Can Try.prog C A.c 5 Post 0 (Crew A.c A.rp N L) wl (G ((base 48).at ⟨#[.int .i64 (n : Nat), z1, .pointer none, .pointer (some ⟨A.c, 0, none⟩), z4, z5, z6, z7, z8, z9, za, zb, zc, zd, ze, .int .i64 (n : Nat), .int .i64 (i : Nat), zf, zg, zh, zi, zj, zk, zl], []⟩ [.code loop48, .inLoop loop48, .inBlock 0, .code (tailC 3 body48)]) (b₀.at a₀ (.inRegion ops₀ (i₀ :: rest₀) :: k₀) :: cs)) := by
  intro m
  induction m with
  | zero =>
    intro z1 z4 z5 z6 z7 z8 z9 za zb zc zd ze zf zg zh zi zj zk zl C L N wl i slot hm hi hN hNb hg Kp hall hnone h
    obtain rfl : i = n := by omega
    clear hm
    have hle := Kp.ok.le
    rw [hn.out] at hle
    have hS := (crew_free A.c A.rp N L).steady
    have hL := Kp.lay
    rw [loop48_eq]
    refine Can.ctl hS hL rfl (fun _ => stepG_seq) ?_
    refine Can.code' hp hS hL (okFr_at (by kernel_rfl) rfl rfl ⟨_, Try.func48⟩) ?_
    intro T d W hW B hB
    simp only [headC, tailC, bodyC, loop48, body48, Try.f48, Option.getD_some]
    go_wp2
    have hB := hB.out
    subst hB
    intro hc
    have hW := hW.out
    subst hW
    refine Can.re ?_ T d
    clear hc
    refine Can.ctl hS hL rfl (fun _ => stepG_seq) ?_
    refine Can.ctl hS hL rfl (fun _ => stepG_cond (t := false) rfl) ?_; simp only [if_true, if_false, Bool.false_eq_true, ↓reduceIte]
    refine Can.ctl hS hL rfl (fun _ => stepG_exit rfl) ?_
    refine Can.code' hp hS hL (okFr_at (by kernel_rfl) rfl rfl ⟨_, Try.func48⟩) ?_
    intro T d W hW B hB
    simp only [headC, tailC, bodyC, body48, Try.f48, Option.getD_some]
    go_wp2
    have hB := hB.out
    subst hB
    intro hc todo
    have hW := hW.out
    subst hW
    refine Can.re ?_ T d
    clear hc
    refine Can.ctl hS hL rfl (fun _ => st_leave1 rfl rfl Try.func48 rfl) ?_
    exact h C L N slot wl Kp hall (Side.refl A wl) (Nat.le_refl _) (Nat.le_refl _) hg
  | succ m ih =>
    intro z1 z4 z5 z6 z7 z8 z9 za zb zc zd ze zf zg zh zi zj zk zl C L N wl i slot hm hi hN hNb hg Kp hall hnone h
    have hlt : i < n := by omega
    replace hm : n ≤ i + (m + 1) ∧ i + (m + 1) ≤ n := by omega
    have hle := Kp.ok.le
    rw [hn.out] at hle
    have hS := (crew_free A.c A.rp N L).steady
    have hL := Kp.lay
    rw [loop48_eq]
    refine Can.ctl hS hL rfl (fun _ => stepG_seq) ?_
    refine Can.code' hp hS hL (okFr_at (by kernel_rfl) rfl rfl ⟨_, Try.func48⟩) ?_
    intro T d W hW B hB
    simp only [headC, tailC, bodyC, loop48, body48, Try.f48, Option.getD_some]
    have hlt2 : (i : Int) < (n : Int) := by omega
    go_wp2
    have hB := hB.out
    subst hB
    intro hc
    have hW := hW.out
    subst hW
    refine Can.re ?_ T d
    clear hc
    refine Can.ctl hS hL rfl (fun _ => stepG_seq) ?_
    refine Can.ctl hS hL rfl (fun _ => stepG_cond (t := true) rfl) ?_; simp only [if_true, if_false, Bool.false_eq_true, ↓reduceIte]
    refine Can.ctl hS hL rfl (fun _ => stepG_skip) ?_
    refine Can.ctl hS hL rfl (fun _ => stepG_seq) ?_
    refine Can.ctl hS hL rfl (fun _ => stepG_block) ?_
    rw [← loop48_eq, inner48_eq]
    refine Can.ctl hS hL rfl (fun _ => stepG_seq) ?_
    refine Can.code' hp hS hL (okFr_at (by kernel_rfl) rfl rfl ⟨_, Try.func48⟩) ?_
    intro T d W hW B hB
    simp only [headC, tailC, bodyC, inner48, loop48, body48, Try.f48, Option.getD_some]
    go_wp2
    have hB := hB.out
    subst hB
    intro hc
    have hW := hW.out
    subst hW
    refine Can.re ?_ T d
    clear hc
    generalize hK : [Item.inBlock 1, .code (tailC 3 loop48), .inLoop loop48, .inBlock 0, .code (tailC 3 body48)] = K₁
    simp only [headC, tailC, bodyC, inner48, loop48, body48, Try.f48, Option.getD_some]
    refine Can.ctl hS hL rfl (fun _ => stepG_region) ?_; simp only [List.size_toArray, List.length_cons, List.length_nil, Nat.reduceAdd, Nat.zero_add, List.range, List.range.loop]
    refine Can.op (ok := okT) hS hL rfl rfl (by k_ne) (by kernel_rfl) (fun T d => ⟨.pointer (some ⟨A.c, 0, none⟩), wl.re T d, ?_, fun _ => Can.re ?_ T d⟩)
    · go_simp
    walk_nrm
    refine Can.op (ok := okT) hS hL rfl rfl (by k_ne) (by kernel_rfl) (fun T d => ⟨.int .i64 (i : Nat), wl.re T d, ?_, fun _ => Can.re ?_ T d⟩)
    · go_simp
    walk_nrm
    refine Can.ctl hS hL rfl (fun _ => st_start (p := .pointer (some ⟨A.c, 0, none⟩)) (q := .int .i64 (i : Nat)) Try.func53 rfl rfl (by k_ne) rfl (by kernel_rfl)) ?_
    refine start hp hN (by omega) (hg _ (Nat.le_refl _)) Kp (by rw [hn.out]; exact hlt) (hnone i (Nat.le_refl _)) ?_
    intro C₂ u w₂ K₂ sd₂
    rw [upd_self (f := fun _ => (0 : Int)) rfl] at K₂
    walk_nrm
    have hS₂ := (crew_free A.c A.rp (N + 1) (upd L N (.live u))).steady
    have hL₂ := K₂.lay
    refine Can.ctl hS₂ hL₂ rfl (fun _ => stepG_region_end) ?_
    subst hK
    refine Can.ctl hS₂ hL₂ rfl (fun _ => stepG_inBlock) ?_
    refine Can.code' hp hS₂ hL₂ (okFr_at (by kernel_rfl) rfl rfl ⟨_, Try.func48⟩) ?_
    intro T d W hW B hB
    simp only [headC, tailC, bodyC, loop48, body48, Try.f48, Option.getD_some]
    go_wp2
    have hB := hB.out
    subst hB
    intro hc
    have hW := hW.out
    subst hW
    refine Can.re ?_ T d
    clear hc
    refine Can.ctl hS₂ hL₂ rfl (fun _ => stepG_inLoop) ?_
    rw [show ((i : Int) + 1) = ((i + 1 : Nat) : Int) from by omega]
    refine ih (by omega) (by omega) (by omega) (by omega) (fun j hj => ?_) K₂ (fun l hl => ?_) (fun l hl => ?_) ?_
    · rw [upd_ne _ _ (by omega)]; exact hg j (by omega)
    · by_cases e : l = i
      · subst e; exact ⟨_, upd_same _ _ _⟩
      · rw [upd_ne _ _ e]; exact hall l (by omega)
    · rw [upd_ne _ _ (by omega)]; exact hnone l (by omega)
    · intro C' L' N' slot' wl' K' all' sd' h1 h2 hg'
      exact h C' L' N' slot' wl' K' all' (sd₂.trans sd') (by omega) (by omega) hg'
end
end Go.Town.Kp
namespace Go.Town.Kp
open Go Go.Conc Go.Conc.Lib Go.ConcR.Gen Go.RowKit Go.Town Go.Proofs
open Go.ConcN (upd upd_ne upd_same)
structure Grown (w w' : World) : Prop where
  cells : ∀ x j v, x < w.heap.size → w.cell? ⟨x, j, none⟩ = some v → w'.cell? ⟨x, j, none⟩ = some v
  thaw : ∀ x j v, x < w.heap.size → w.cell? ⟨x, j, none⟩ = some v → w.frozen? ⟨x, j, none⟩ = false → w'.frozen? ⟨x, j, none⟩ = false
  size : w.heap.size ≤ w'.heap.size
theorem Grown.refl (w : World) : Grown w w := ⟨fun _ _ _ _ h => h, fun _ _ _ _ _ h => h, Nat.le_refl _⟩
theorem Grown.trans {w w' w'' : World} (h : Grown w w') (k : Grown w' w'') : Grown w w'' :=
  ⟨fun x j v hx hv => k.cells x j v (by have := h.size; omega) (h.cells x j v hx hv), fun x j v hx hv hf => k.thaw x j v (by have := h.size; omega) (h.cells x j v hx hv) (h.thaw x j v hx hv hf), Nat.le_trans h.size k.size⟩
theorem Grown.re {w w' : World} (h : Grown w w') (T : Nat → Question → Nat) (d : Nat) : Grown w (w'.re T d) := ⟨h.cells, h.thaw, h.size⟩
theorem Grown.alloc {w w' : World} (h : Grown w w') (o : Obj) : Grown w (w'.alloc o) := h.trans ⟨fun _ _ _ _ hv => cell_alloc hv, fun _ _ _ _ hv hf => (frozen_alloc hv).trans hf, by rw [World.size_alloc]; omega⟩
theorem ext_cell {w w' : World} (h : Ext w w') {a : Addr} {v : Value} (hv : w.cell? a = some v) : w'.cell? a = some v ∧ w'.frozen? a = w.frozen? a := by
  obtain ⟨c, e, f, hb, _⟩ := block_of_cell hv
  have hb' := h.heap _ _ hb
  unfold World.cell? World.frozen? at *
  rw [hb] at hv
  rw [hb', hb]
  exact ⟨hv, rfl⟩
theorem cutW_cell {w : World} {c x j : Nat} {cs : Array Value} {t : TypeId} (h : x ≠ c) : (cutW w c cs t).cell? ⟨x, j, none⟩ = w.cell? ⟨x, j, none⟩ ∧ (cutW w c cs t).frozen? ⟨x, j, none⟩ = w.frozen? ⟨x, j, none⟩ := by
  unfold World.cell? World.frozen?
  simp only [cutW_ne h]
  exact ⟨trivial, trivial⟩
section
variable {C : Cfg} {L : Nat → Ws} {Post : Value → World → Prop} {N k : Nat} {wl : World} {i : Nat} {cs : List Frame} {slot : Nat → Option Nat} {sum starts : Nat → Int} {b₀ : Frame} {a₀ : Act} {ops₀ : Array Oper} {i₀ : Nat} {rest₀ : List Nat} {k₀ : List Item}
variable {A : At}
set_option maxRecDepth 100000 in
set_option maxHeartbeats 400000 in
theorem newCrew {C₀ : Cfg} {b' o' Bd n : Nat} (hp : OkProg Try.prog okT) (hn : n ≤ 4) (hBd : Bd + 4 < 2147483640) (hL : Lay C₀ wl)
    (h : ∀ (A : At) C' L' N' slot' wl', A.n = n → Kept A C' L' slot' (fun _ => 0) (fun _ => 0) wl' → (∀ l, l < n → ∃ x, slot' l = some x) → Grown wl wl' → wl.heap.size ≤ A.c → wl.heap.size ≤ A.ta → wl.heap.size ≤ A.sa → wl.heap.size ≤ A.st → 0 < N' → N' ≤ Bd + n → (∀ j, N' ≤ j → L' j = .gone) → Can Try.prog C' A.c 5 Post 0 (Crew A.c A.rp N' L') wl' (G (b₀.at (a₀.put ((ops₀[i₀]?).bind (·.dst)) (.pointer (some ⟨A.c, 0, none⟩))) (.inRegion ops₀ rest₀ :: k₀)) cs)) :
    Can Try.prog C₀ b' o' Post 0 (AloneB Bd) wl (G ((base 48).at ⟨#[.int .i64 (n : Nat)] ++ Array.replicate 23 undef, []⟩ [.code body48]) (b₀.at a₀ (.inRegion ops₀ (i₀ :: rest₀) :: k₀) :: cs)) := by
  have hS := steady_aloneB Bd
  have ea : (#[.int .i64 (n : Nat)] ++ Array.replicate 23 undef : Array Value) = #[.int .i64 (n : Nat), undef, undef, undef, undef, undef, undef, undef, undef, undef, undef, undef, undef, undef, undef, undef, undef, undef, undef, undef, undef, undef, undef, undef] := by kernel_rfl
  rw [ea, body48_eq]
  refine Can.ctl hS hL rfl (fun _ => stepG_seq) ?_
  refine Can.code' hp hS hL (okFr_at (by kernel_rfl) rfl rfl ⟨_, Try.func48⟩) ?_
  intro T d W hW B hB
  simp only [headC, tailC, bodyC, body48, Try.f48, Option.getD_some]
  go_wp2
  have hB := hB.out
  subst hB
  intro hc
  have hW := hW.out
  subst hW
  refine Can.re ?_ T d
  clear hc
  refine Can.ctl hS hL rfl (fun _ => stepG_seq) ?_
  refine Can.code' hp hS hL (okFr_at (by kernel_rfl) rfl rfl ⟨_, Try.func48⟩) ?_
  intro T d W hW B hB
  refine crew_region hn (fun c a w hc => ?_) (fun ta m rp sa st c v13 w' hM => ?_)
  · rw [hB.out] at hc; exact hc
  have hB := hB.out
  subst hB
  intro hc
  have hW := hW.out
  have hL' : Lay C₀ w' := ⟨hc, hL.no⟩
  have hE : Ext wl w' := ⟨fun r ob hr => hM.1.heap r ob (by rw [hW]; exact hr), by have := hM.1.size; rw [hW] at this; exact this⟩
  have hz : W.heap.size = wl.heap.size := by rw [hW]; rfl
  rw [hz] at hM
  have hM : Made n wl.heap.size wl w' ta m rp sa st c := ⟨hE, hM.2⟩
  clear hW hz
  have hM' := hM
  obtain ⟨_, z1, z2, z3, z4, z5, z6, _, hc1, _, _, _, _, _, _, _, _, _, _, b6⟩ := hM'
  refine Can.foundsB (b' := c) (o' := 5) (Rn := fun N => Crew c rp N (fun _ => .gone)) hL' ⟨(cell_of_block b6 rfl).1, (cell_of_block b6 rfl).1, (cell_of_block b6 rfl).2, (cell_of_block b6 rfl).2⟩ (fun w hw => weak_cut b6 (cs := #[.slice (some ⟨ta, 0, none⟩) n n, .map (some m), .chan (some rp), .slice (some ⟨sa, 0, none⟩) n n, .slice (some ⟨st, 0, none⟩) n n]) (by simp) (fun k hk => ?_) hw) (fun n₀ U hn₀ hs => ⟨by simp only [cutW, Array.size_setIfInBounds]; exact hs.size, fun b o hb ho => hs.obj b o hb (by rw [cutW_ne (by omega)] at ho; exact ho)⟩) (fun N rel ρ h0 _ hA hself => crew_first h0 hA hself) ?_
  · match k, hk with
    | 0, _ => rfl
    | 1, _ => rfl
    | 2, _ => rfl
    | 3, _ => rfl
    | 4, _ => rfl
  intro N hN hNB
  have K := kept_first (C₀ := C₀) (N := N) (W := wl) hn hM hL'
  have hG : Grown wl (cutW w' c #[.slice (some ⟨ta, 0, none⟩) n n, .map (some m), .chan (some rp), .slice (some ⟨sa, 0, none⟩) n n, .slice (some ⟨st, 0, none⟩) n n] 89) :=
    ⟨fun x j v hx hv => (cutW_cell (by omega)).1.trans (ext_cell hE hv).1, fun x j v hx hv hf => (cutW_cell (by omega)).2.trans ((ext_cell hE hv).2.trans hf), by show wl.heap.size ≤ (w'.heap.setIfInBounds _ _).size; rw [Array.size_setIfInBounds]; exact hE.size⟩
  generalize cutW w' c #[.slice (some ⟨ta, 0, none⟩) n n, .map (some m), .chan (some rp), .slice (some ⟨sa, 0, none⟩) n n, .slice (some ⟨st, 0, none⟩) n n] 89 = w₂ at *
  obtain ⟨A, hA⟩ : ∃ A : At, A = ⟨c, ta, sa, st, m, rp, n⟩ := ⟨_, rfl⟩
  have e1 : c = A.c := by rw [hA]
  have e2 : rp = A.rp := by rw [hA]
  have e3 : A.n = n := by rw [hA]
  have e4 : ta = A.ta := by rw [hA]
  have e5 : sa = A.sa := by rw [hA]
  have e6 : st = A.st := by rw [hA]
  rw [← hA] at K
  generalize C₀.anew N (wgAt c 5) True ⟨c, 5, none⟩ = C₁ at *
  rw [e1, e2]
  rw [e1] at z6
  rw [e4] at z1
  rw [e5] at z4
  rw [e6] at z5
  clear b6 hM hA e1 e2 hc1
  have hS := (crew_free A.c A.rp N (fun _ => .gone)).steady
  have hL := K.lay
  refine Can.ctl hS hL rfl (fun _ => stepG_seq) ?_
  refine Can.ctl hS hL rfl (fun _ => stepG_seq) ?_
  refine Can.code' hp hS hL (okFr_at (by kernel_rfl) rfl rfl ⟨_, Try.func48⟩) ?_
  intro T d W hW B hB
  simp only [headC, tailC, bodyC, body48, Try.f48, Option.getD_some]
  go_wp2
  have hB := hB.out
  subst hB
  intro hc
  have hW := hW.out
  subst hW
  refine Can.re ?_ T d
  clear hc
  refine Can.ctl hS hL rfl (fun _ => stepG_block) ?_
  refine Can.ctl hS hL rfl (fun _ => stepG_loop) ?_
  refine newCrew_loop (i := 0) hp ⟨e3⟩ n rfl (Nat.zero_le _) hN (by omega) (fun _ _ => rfl) K (fun l hl => by omega) (fun _ _ => rfl) ?_
  intro C' L' N' slot' wl' K' all' sd' h1 h2 hg'
  refine h A C' L' N' slot' wl' e3 K' all' ⟨fun x j v hx hv => sd'.cells x j v (by omega) (by omega) (by omega) (hG.cells x j v hx hv), fun x j v hx hv hf => (sd'.thaw x j v (by omega) (hG.cells x j v hx hv) (hG.thaw x j v hx hv hf)).2, Nat.le_trans hG.size sd'.size⟩ z6 z1 z4 z5 (by omega) (by omega) hg'
end
end Go.Town.Kp
