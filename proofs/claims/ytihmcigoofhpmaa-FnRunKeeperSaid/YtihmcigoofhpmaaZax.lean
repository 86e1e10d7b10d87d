/-
  start: the worker is counted and started.
  start: the worker goes; start as a whole.
  start as a whole.
  stop: whether one is there.
  stop: the channel is closed.
  stop: the entry goes, the slot is emptied.
-/
import Derived.Conc.TokenWalk
import Derived.Test.YtihmcigoofhpmaaZaw
set_option linter.all false
namespace Go.Town
open Go Go.Conc Go.Conc.Lib Go.ConcR Go.ConcR.Gen
section
variable {P : Program} {main : Bool} {b : Frame} {a : Act} {k : List Item} {cs : List Frame} {ops : Array Oper} {i : Nat} {rest : List Nat} {o : Oper} {w : World} {args : Array Operand} {ats : Array TypeId} {p q : Value}
theorem st_add {L : WgLink} (H : WgLib P L) (ho : ops[i]? = some o) (hw : Region.wanted o (yielded ops a.tmps) = true) (hk : b.kind ≠ .early) (hop : o.op = .call { callee := .value (.func L.add), args := args, argTypes := ats }) (ha : args.map a.eval = #[p, q]) :
    stepG P main (G (b.at a (.inRegion ops (i :: rest) :: k)) cs) w = .go (G ((base L.add).at ⟨#[p, q] ++ Array.replicate 115 undef, []⟩ [.code ((addFn L).body.getD .skip)]) (b.at a (.inRegion ops (i :: rest) :: k) :: cs)) w #[] := by
  rw [st_call ho hw hk hop H.f_add (c := (addFn L).body.getD .skip) rfl rfl, ha]
  rfl
theorem st_wait {L : WgLink} (H : WgLib P L) (ho : ops[i]? = some o) (hw : Region.wanted o (yielded ops a.tmps) = true) (hk : b.kind ≠ .early) (hop : o.op = .call { callee := .value (.func L.wait), args := args, argTypes := ats }) (ha : args.map a.eval = #[p]) :
    stepG P main (G (b.at a (.inRegion ops (i :: rest) :: k)) cs) w = .go (G ((base L.wait).at ⟨#[p] ++ Array.replicate 83 undef, []⟩ [.code ((waitFn L).body.getD .skip)]) (b.at a (.inRegion ops (i :: rest) :: k) :: cs)) w #[] := by
  rw [st_call ho hw hk hop H.f_wait (c := (waitFn L).body.getD .skip) rfl rfl, ha]
  rfl
end
end Go.Town
namespace Go.Town.Kp
open Go Go.Conc Go.Conc.Lib Go.ConcR.Gen Go.RowKit Go.Town Go.Proofs
open Go.ConcN (upd upd_ne upd_same)
section
variable {A : At} {C : Cfg} {L : Nat → Ws} {Post : Value → World → Prop} {N k : Nat} {wl : World} {i bc bt x : Nat} {cs : List Frame}
set_option maxRecDepth 100000 in
set_option maxHeartbeats 400000 in
theorem start_e {v3 v6 v7 v8 v9 v10 v11 v12 v13 v14 v15 v16 v17 v18 v19 v20 v21 v22 v23 v24 v1 v5 : Value} {b₀ : Frame} {a₀ : Act} {ops₀ : Array Oper} {i₀ : Nat} {rest₀ : List Nat} {k₀ : List Item} (hon : C.on) (hN : N < 2147483640) (hL : Lay C wl) (hb : wl.cell? ⟨bc, 0, none⟩ = some (.pointer (some ⟨A.c, 0, none⟩)))
    (h : ∀ v28, Can Try.prog C A.c 5 Post 1 (Crew A.c A.rp N L) wl (G ((base 53).at ⟨#[.pointer (some ⟨A.c, 0, none⟩), v1, .pointer (some ⟨bc, 0, none⟩), v3, .pointer (some ⟨bt, 0, none⟩), v5, v6, v7, v8, v9, v10, v11, v12, v13, v14, v15, v16, v17, v18, v19, v20, v21, v22, v23, v24, .pointer (some ⟨A.c, 0, none⟩), .pointer (some ⟨A.c, 0, none⟩), .pointer (some ⟨A.c, 5, none⟩), v28, undef], []⟩ [.code (tailC 6 body53)]) (b₀.at a₀ (.inRegion ops₀ (i₀ :: rest₀) :: k₀) :: cs))) :
    Can Try.prog C A.c 5 Post 0 (Crew A.c A.rp N L) wl (G ((base 53).at ⟨#[.pointer (some ⟨A.c, 0, none⟩), v1, .pointer (some ⟨bc, 0, none⟩), v3, .pointer (some ⟨bt, 0, none⟩), v5, v6, v7, v8, v9, v10, v11, v12, v13, v14, v15, v16, v17, v18, v19, v20, v21, v22, v23, v24, undef, undef, undef, undef, undef], []⟩ [.code (tailC 5 body53)]) (b₀.at a₀ (.inRegion ops₀ (i₀ :: rest₀) :: k₀) :: cs)) := by
  have hS := (crew_free A.c A.rp N L).steady
  have e1 : tailC 5 body53 = .seq (headC 5 body53) (tailC 6 body53) := by kernel_rfl
  rw [e1]
  refine Can.ctl hS hL rfl (fun _ => stepG_seq) ?_
  generalize hK : [Item.code (tailC 6 body53)] = K at *
  simp only [headC, body53, Try.f53, Option.getD_some]
  refine Can.ctl hS hL rfl (fun _ => stepG_region) ?_; simp only [List.size_toArray, List.length_cons, List.length_nil, Nat.reduceAdd, Nat.zero_add, List.range, List.range.loop]
  refine Can.op (ok := okT) hS hL rfl rfl (by k_ne) (by kernel_rfl) (fun T d => ⟨.pointer (some ⟨A.c, 0, none⟩), wl.re T d, ?_, fun _ => Can.re ?_ T d⟩)
  · have h1 : (wl.re T d).cell? ⟨bc, 0, none⟩ = _ := hb
    go_simp
  walk_nrm
  refine Can.op (ok := okT) hS hL rfl rfl (by k_ne) (by kernel_rfl) (fun T d => ⟨.pointer (some ⟨A.c, 0, none⟩), wl.re T d, ?_, fun _ => Can.re ?_ T d⟩)
  · go_simp
  walk_nrm
  refine Can.op (ok := okT) hS hL rfl rfl (by k_ne) (by kernel_rfl) (fun T d => ⟨.pointer (some ⟨A.c, 5, none⟩), wl.re T d, ?_, fun _ => Can.re ?_ T d⟩)
  · go_simp
  walk_nrm
  refine Can.ctl hS hL rfl (fun _ => st_add (p := .pointer (some ⟨A.c, 5, none⟩)) (q := .int .i64 1) Try.wgLib rfl rfl (by k_ne) rfl (by kernel_rfl)) ?_
  refine Can.adds Try.wgLib (crew_free A.c A.rp N L) hL hon (fun rel ρ n hR => by have := hR.1; omega) ?_
  walk_nrm
  refine Can.ctl hS hL rfl (fun _ => stepG_region_end) ?_
  exact h _
end
end Go.Town.Kp
namespace Go.Town.Kp
open Go Go.Conc Go.Conc.Lib Go.ConcR.Gen Go.RowKit Go.Town Go.Proofs
open Go.ConcN (upd upd_ne upd_same)
noncomputable def ops53 : Array Oper := match tailC 6 body53 with | .region _ ops _ => ops | _ => #[]
section
variable {A : At} {C : Cfg} {L : Nat → Ws} {Post : Value → World → Prop} {N k : Nat} {wl : World} {i bc bt x : Nat} {cs : List Frame}
set_option maxRecDepth 100000 in
set_option maxHeartbeats 400000 in
theorem start_f {v3 v6 v7 v8 v9 v10 v11 v12 v13 v14 v15 v16 v17 v18 v19 v20 v21 v22 v23 v24 v25 v26 v27 v28 v1 v5 v0 : Value} {b₀ : Frame} {a₀ : Act} {ops₀ : Array Oper} {i₀ : Nat} {rest₀ : List Nat} {k₀ : List Item} {kk : Nat} (hN : 0 < N) (hL : Lay C wl) (hP : Posts C A.c L) (hD : Apart A.rp L)
    (hb : wl.cell? ⟨bc, 0, none⟩ = some (.pointer (some ⟨A.c, 0, none⟩))) (ht : wl.cell? ⟨bt, 0, none⟩ = some (.chan (some x))) (hr : wl.cell? ⟨A.c, 2, none⟩ = some (.chan (some A.rp)))
    (hck : wl.heap[x]? = some (.chan 0 #[] false kk kk false)) (hxn : ∀ j u, j ≠ 0 → (L j).wd = some u → u.x ≠ x) (hxr : x ≠ A.rp)
    (h : Lay (C.hire N (wants A.c bc bt) (fun _ => False)) (hiredW A.c bc bt wl) → Posts (C.hire N (wants A.c bc bt) (fun _ => False)) A.c (upd L N (.live ⟨bc, bt, x, 0⟩)) → Apart A.rp (upd L N (.live ⟨bc, bt, x, 0⟩)) →
      Can Try.prog (C.hire N (wants A.c bc bt) (fun _ => False)) A.c 5 Post k (Crew A.c A.rp (N + 1) (upd L N (.live ⟨bc, bt, x, 0⟩))) (hiredW A.c bc bt wl) (G (b₀.at (a₀.put ((ops₀[i₀]?).bind (·.dst)) (.tuple #[])) (.inRegion ops₀ rest₀ :: k₀)) cs)) :
    Can Try.prog C A.c 5 Post (k + 1) (Crew A.c A.rp N L) wl (G ((base 53).at ⟨#[v0, v1, .pointer (some ⟨bc, 0, none⟩), v3, .pointer (some ⟨bt, 0, none⟩), v5, v6, v7, v8, v9, v10, v11, v12, v13, v14, v15, v16, v17, v18, v19, v20, v21, v22, v23, v24, v25, v26, v27, v28, undef], []⟩ [.code (tailC 6 body53)]) (b₀.at a₀ (.inRegion ops₀ (i₀ :: rest₀) :: k₀) :: cs)) := by
  have hS := (crew_free A.c A.rp N L).steady
  simp only [tailC, body53, Try.f53, Option.getD_some]
  refine Can.ctl hS hL rfl (fun _ => stepG_region) ?_; simp only [List.size_toArray, List.length_cons, List.length_nil, Nat.reduceAdd, Nat.zero_add, List.range, List.range.loop]
  refine Can.op (ok := okT) hS hL rfl rfl (by k_ne) (by kernel_rfl) (fun T d => ⟨.func (.func 69) #[] #[.pointer (some ⟨bc, 0, none⟩), .pointer (some ⟨bt, 0, none⟩)], wl.re T d, ?_, fun _ => Can.re ?_ T d⟩)
  · go_simp
  walk_nrm
  refine hires hN hL hP hD hb ht hr hck hxn hxr rfl (fun w => ?_) (fun hL' hP' hD' => ?_) (g' := G ((base 53).at ⟨#[v0, v1, .pointer (some ⟨bc, 0, none⟩), v3, .pointer (some ⟨bt, 0, none⟩), v5, v6, v7, v8, v9, v10, v11, v12, v13, v14, v15, v16, v17, v18, v19, v20, v21, v22, v23, v24, v25, v26, v27, v28, .func (.func 69) #[] #[.pointer (some ⟨bc, 0, none⟩), .pointer (some ⟨bt, 0, none⟩)]], []⟩ [.inRegion ops53 []]) (b₀.at a₀ (.inRegion ops₀ (i₀ :: rest₀) :: k₀) :: cs))
  · rw [stepG_spawn (d := call69 bc bt) rfl rfl (by k_ne) (w' := w) (by go_simp; rfl) rfl, listed_nil (by simp [go_sem])]
    rfl
  · have hS' := (crew_free A.c A.rp (N + 1) (upd L N (.live ⟨bc, bt, x, 0⟩))).steady
    refine Can.ctl hS' hL' rfl (fun _ => stepG_region_end) ?_
    refine Can.ctl hS' hL' rfl (fun _ => stepG_end) ?_
    refine Can.ctl hS' hL' rfl (fun _ => st_leave0 rfl rfl Try.func53 rfl) ?_
    exact h hL' hP' hD'
end
end Go.Town.Kp
namespace Go.Town.Kp
open Go Go.Conc Go.Conc.Lib Go.ConcR.Gen Go.RowKit Go.Town Go.Proofs
open Go.ConcN (upd upd_ne upd_same)
section
variable {A : At} {w w' w'' : World}
theorem Side.refl (A : At) (w : World) : Side A w w := ⟨fun _ _ _ _ _ _ h => h, fun _ _ v _ hv h => ⟨⟨v, hv⟩, h⟩, Nat.le_refl _⟩
theorem Side.trans (h : Side A w w') (k : Side A w' w'') : Side A w w'' :=
  ⟨fun x j v h1 h2 h3 hv => k.cells x j v h1 h2 h3 (h.cells x j v h1 h2 h3 hv), fun x j v hx hv hf => by
    obtain ⟨⟨v', hv'⟩, hf'⟩ := h.thaw x j v hx hv hf
    exact k.thaw x j v' hx hv' hf', Nat.le_trans h.size k.size⟩
theorem Side.alloc (h : Side A w w') (o : Obj) : Side A w (w'.alloc o) := h.trans ⟨fun x j v _ _ _ hv => cell_alloc hv, fun x j v _ hv hf => ⟨⟨v, cell_alloc hv⟩, (frozen_alloc hv).trans hf⟩, by rw [World.size_alloc]; omega⟩
theorem Side.re (h : Side A w w') (T : Nat → Question → Nat) (d : Nat) : Side A w (w'.re T d) := h.trans ⟨fun _ _ _ _ _ _ hv => hv, fun x j v _ hv hf => ⟨⟨v, hv⟩, hf⟩, Nat.le_refl _⟩
theorem Side.set (h : Side A w w') {y l : Nat} (u : Value) (hy : y = A.ta ∨ y = A.sa ∨ y = A.st) : Side A w (w'.setCell ⟨y, l, none⟩ u) :=
  h.trans ⟨fun x j v h1 h2 h3 hv => (cell_setCell_ne w' u (.inl (by rintro rfl; rcases hy with q | q | q; exact h1 q; exact h2 q; exact h3 q))).trans hv,
    fun x j v _ hv hf => ⟨cell?_setCell_some hv, (frozen_setCell _ _ _ _).trans hf⟩, by simp [World.setCell]⟩
theorem Side.obj (h : Side A w w') {r : Nat} {ob ob' : Obj} (hb : w'.heap[r]? = some ob) (hc : isCells ob = false) (hc' : isCells ob' = false) : Side A w { w' with heap := w'.heap.setIfInBounds r ob' } :=
  h.trans ⟨fun x j v _ _ _ hv => (cell_setObj hb hc hc' _).1.trans hv, fun x j v _ hv hf => ⟨⟨v, (cell_setObj hb hc hc' _).1.trans hv⟩, (cell_setObj hb hc hc' _).2.trans hf⟩, by simp⟩
theorem Side.hired (h : Side A w w') {bc bt : Nat} (hbc : w.heap.size ≤ bc) (hbt : w.heap.size ≤ bt) : Side A w (hiredW A.c bc bt w') := by
  refine ⟨fun x j v h1 h2 h3 hv => ?_, fun x j v hx hv hf => ?_, ?_⟩
  · unfold hiredW; rw [cell_freeze, cell_freeze, cell_freeze]; exact h.cells x j v h1 h2 h3 hv
  · obtain ⟨⟨v', hv'⟩, hf'⟩ := h.thaw x j v hx hv hf
    have hlt : x < w.heap.size := block_lt hv
    refine ⟨⟨v', by unfold hiredW; rw [cell_freeze, cell_freeze, cell_freeze]; exact hv'⟩, ?_⟩
    unfold hiredW
    rw [frozen_freeze_ne (Ne.symm hx), frozen_freeze_ne (show bt ≠ x by omega), frozen_freeze_ne (show bc ≠ x by omega)]
    exact hf'
  · unfold hiredW; rw [size_freeze, size_freeze, size_freeze]; exact h.size
variable {slot : Nat → Option Nat} {sum starts : Nat → Int}
theorem Mem.hired (h : Mem A slot sum starts w) (hA : A.Ok) {bc bt : Nat} (hbc : ∀ y, (y = A.ta ∨ y = A.sa ∨ y = A.st) → bc ≠ y ∧ bt ≠ y) : Mem A slot sum starts (hiredW A.c bc bt w) := by
  refine h.kept (fun x j v _ hv => by unfold hiredW; rw [cell_freeze, cell_freeze, cell_freeze]; exact hv) (fun x j v hx _ hf => ?_)
  obtain ⟨h1, h2⟩ := hbc x hx
  unfold hiredW
  rw [frozen_freeze_ne (show A.c ≠ x by rcases hx with rfl | rfl | rfl; exact hA.d1; exact hA.d2; exact hA.d3), frozen_freeze_ne h2, frozen_freeze_ne h1]
  exact hf
theorem obj_hired {c bc bt r : Nat} {ob : Obj} (h : w.heap[r]? = some ob) (hc : isCells ob = false) : (hiredW c bc bt w).heap[r]? = some ob := obj_freeze (obj_freeze (obj_freeze h hc) hc) hc
end
theorem cell_new {w : World} {c : Array Value} {e : TypeId} {j : Nat} {v : Value} (h : c[j]? = some v) : (w.alloc (.cells c e)).cell? ⟨w.heap.size, j, none⟩ = some v := by
  unfold World.cell?
  simp only [World.alloc, Array.getElem?_push_size]
  simpa using h
set_option maxRecDepth 100000 in
set_option maxHeartbeats 1000000 in
theorem start {A : At} {C : Cfg} {L : Nat → Ws} {Post : Value → World → Prop} {N : Nat} {wl : World} {i : Nat} {cs : List Frame} {slot : Nat → Option Nat} {sum starts : Nat → Int} {b₀ : Frame} {a₀ : Act} {ops₀ : Array Oper} {i₀ : Nat} {rest₀ : List Nat} {k₀ : List Item}
    (hp : OkProg Try.prog okT) (hN : 0 < N) (hNb : N < 2147483640) (hg : L N = .gone) (K : Kept A C L slot sum starts wl) (hi : i < A.n) (hnone : slot i = none)
    (h : ∀ C' u wl', Kept A C' (upd L N (.live u)) (upd slot i (some u.x)) (upd sum i 0) starts wl' → Side A wl wl' →
      Can Try.prog C' A.c 5 Post 0 (Crew A.c A.rp (N + 1) (upd L N (.live u))) wl' (G (b₀.at (a₀.put ((ops₀[i₀]?).bind (·.dst)) (.tuple #[])) (.inRegion ops₀ rest₀ :: k₀)) cs)) :
    Can Try.prog C A.c 5 Post 0 (Crew A.c A.rp N L) wl (G ((base 53).at ⟨#[.pointer (some ⟨A.c, 0, none⟩), .int .i64 i] ++ Array.replicate 28 undef, []⟩ [.code body53]) (b₀.at a₀ (.inRegion ops₀ (i₀ :: rest₀) :: k₀) :: cs)) := by
  have hA := K.ok
  obtain ⟨es, clock, hh⟩ := K.has
  have hlt : ∀ y j v, wl.cell? ⟨y, j, none⟩ = some v → y < wl.heap.size := fun y j v hv => block_lt hv
  have lta : A.ta < wl.heap.size := hlt _ _ _ (K.mem.tasks i hi).1
  have lsa : A.sa < wl.heap.size := hlt _ _ _ (K.mem.sums i hi).1
  have lst : A.st < wl.heap.size := hlt _ _ _ (K.mem.begun i hi).1
  have lc : A.c < wl.heap.size := hlt _ _ _ K.mem.c0
  obtain ⟨krp, hrp⟩ := K.chans.rp
  have lrp : A.rp < wl.heap.size := (Array.getElem?_eq_some_iff.1 hrp).1
  have lm : A.m < wl.heap.size := (Array.getElem?_eq_some_iff.1 hh.heap).1
  have lx : ∀ l y, l < A.n → slot l = some y → y < wl.heap.size := fun l y hl hy => let ⟨_, k, hk⟩ := K.chans.xs l y hl hy; (Array.getElem?_eq_some_iff.1 hk).1
  refine start_a hp K.lay ?_
  rintro w1 hL1 ⟨T1, d1, e1⟩
  generalize hbc : wl.heap.size = bc at *
  obtain ⟨a1, ha1⟩ : ∃ a, a = wl.alloc (.cells #[.pointer (some ⟨A.c, 0, none⟩)] 73) := ⟨_, rfl⟩
  obtain ⟨a2, ha2⟩ : ∃ a, a = a1.alloc (.chan 0 #[] false 0 0 false) := ⟨_, rfl⟩
  obtain ⟨a3, ha3⟩ : ∃ a, a = a2.alloc (.cells #[.chan (some (bc + 1))] 95) := ⟨_, rfl⟩
  rw [← ha1, ← ha2, ← ha3] at e1
  have s1 : a1.heap.size = bc + 1 := by rw [ha1, World.size_alloc, hbc]
  have s2 : a2.heap.size = bc + 2 := by rw [ha2, World.size_alloc, s1]
  have hb3 : a3.cell? ⟨bc, 0, none⟩ = some (.pointer (some ⟨A.c, 0, none⟩)) := by
    rw [ha3]; refine cell_alloc ?_
    rw [ha2]; refine cell_alloc ?_
    rw [ha1, ← hbc]; exact cell_new rfl
  have ht3 : a3.cell? ⟨bc + 2, 0, none⟩ = some (.chan (some (bc + 1))) := by
    rw [ha3, ← s2]; exact cell_new rfl
  have hx3 : a3.heap[bc + 1]? = some (.chan 0 #[] false 0 0 false) := by
    rw [ha3]; refine heap_alloc_lt ?_
    rw [ha2, ← s1]; exact heap_alloc_new _ _
  have obj3 : ∀ (r : Nat) (ob : Obj), wl.heap[r]? = some ob → a3.heap[r]? = some ob := fun r ob hr => by rw [ha3, ha2, ha1]; exact heap_alloc_lt (heap_alloc_lt (heap_alloc_lt hr))
  have m3 : Mem A slot sum starts a3 := by rw [ha3, ha2, ha1]; exact ((K.mem.alloc _).alloc _).alloc _
  have sd3 : Side A wl a3 := by rw [ha3, ha2, ha1]; exact (((Side.refl A wl).alloc _).alloc _).alloc _
  clear ha1 ha2 ha3 s1 s2
  have hb1 : w1.cell? ⟨bc, 0, none⟩ = some (.pointer (some ⟨A.c, 0, none⟩)) := by rw [e1]; exact hb3
  have ht1 : w1.cell? ⟨bc + 2, 0, none⟩ = some (.chan (some (bc + 1))) := by rw [e1]; exact ht3
  have hx1 : w1.heap[bc + 1]? = some (.chan 0 #[] false 0 0 false) := by rw [e1]; exact hx3
  have obj1 : ∀ (r : Nat) (ob : Obj), wl.heap[r]? = some ob → w1.heap[r]? = some ob := by rw [e1]; exact obj3
  have m1 : Mem A slot sum starts w1 := by rw [e1]; exact m3.re _ _
  have sd1 : Side A wl w1 := by rw [e1]; exact sd3.re _ _
  clear e1 hb3 ht3 hx3 obj3 m3 sd3
  refine start_b hp hL1 hA m1 hi hb1 ht1 ?_
  rintro w2 hL2 ⟨T2, d2, e2⟩
  have hb2 : w2.cell? ⟨bc, 0, none⟩ = some (.pointer (some ⟨A.c, 0, none⟩)) := by rw [e2]; exact (cell_setCell_ne w1 _ (.inl (by omega))).trans hb1
  have ht2 : w2.cell? ⟨bc + 2, 0, none⟩ = some (.chan (some (bc + 1))) := by rw [e2]; exact (cell_setCell_ne w1 _ (.inl (by omega))).trans ht1
  have obj2 : ∀ (r : Nat) (ob : Obj), isCells ob = false → w1.heap[r]? = some ob → w2.heap[r]? = some ob := fun r ob hc hr => by rw [e2]; exact heap_setCell_obj hr hc
  have m2 : Mem A (upd slot i (some (bc + 1))) sum starts w2 := by rw [e2]; exact (m1.setTask hA hi _).re _ _
  have sd2 : Side A wl w2 := by rw [e2]; exact (sd1.set _ (.inl rfl)).re _ _
  clear e2
  have hfr : ∀ l, l < A.n → slot l ≠ some (bc + 1) := fun l hl hy => by have := lx l _ hl hy; omega
  have hh2 : Has A slot w2 es clock := hh.other ((obj2 _ _ rfl (obj1 _ _ hh.heap)).trans hh.heap.symm)
  refine start_c hp hL2 hA m2 hi hb2 ht2 hh2.heap hh2.chanKeys (hh2.fresh hfr) ?_
  rintro w3 hL3 ⟨T3, d3, e3⟩
  have hh3 := hh2.add hi hnone hfr
  have c3 : ∀ a, w3.cell? a = w2.cell? a := fun a => by rw [e3]; exact (cell_setObj hh2.heap rfl rfl a).1
  have hb3 := (c3 _).trans hb2
  have ht3 := (c3 _).trans ht2
  have m3 : Mem A (upd slot i (some (bc + 1))) sum starts w3 := by rw [e3]; exact (m2.obj hh2.heap rfl rfl).re _ _
  have sd3 : Side A wl w3 := by rw [e3]; exact (sd2.obj hh2.heap rfl rfl).re _ _
  have obj3 : ∀ (r : Nat) (ob : Obj), r ≠ A.m → w2.heap[r]? = some ob → w3.heap[r]? = some ob := fun r ob hr hb => by
    rw [e3]
    show (w2.heap.setIfInBounds A.m _)[r]? = _
    rw [Array.getElem?_setIfInBounds_ne (Ne.symm hr)]; exact hb
  have hm3 : w3.heap[A.m]? = some (.map (es.push { key := .chan (some (bc + 1)), val := .int .i64 (i : Nat), born := clock }) (clock + 1)) := by rw [e3]; exact hh3.heap
  clear e3
  refine start_d hp hL3 hA m3 hi hb3 ht3 ?_
  rintro w4 hL4 ⟨T4, d4, e4⟩
  have hb4 : w4.cell? ⟨bc, 0, none⟩ = some (.pointer (some ⟨A.c, 0, none⟩)) := by rw [e4]; exact (cell_setCell_ne w3 _ (.inl (by omega))).trans hb3
  have ht4 : w4.cell? ⟨bc + 2, 0, none⟩ = some (.chan (some (bc + 1))) := by rw [e4]; exact (cell_setCell_ne w3 _ (.inl (by omega))).trans ht3
  have obj4 : ∀ (r : Nat) (ob : Obj), isCells ob = false → w3.heap[r]? = some ob → w4.heap[r]? = some ob := fun r ob hc hr => by rw [e4]; exact heap_setCell_obj hr hc
  have m4 : Mem A (upd slot i (some (bc + 1))) (upd sum i 0) starts w4 := by rw [e4]; exact (m3.setSum hA hi _).re _ _
  have sd4 : Side A wl w4 := by rw [e4]; exact (sd3.set _ (.inr (.inl rfl))).re _ _
  clear e4
  have hne : ∀ (r : Nat) (ob : Obj), wl.heap[r]? = some ob → (∃ c s k, ob = .chan 0 #[] c s k false) → w4.heap[r]? = some ob := by
    rintro r ob hr ⟨c, s, k, rfl⟩
    have hrm : r ≠ A.m := by rintro rfl; rw [hh.heap] at hr; cases hr
    exact obj4 _ _ rfl (obj3 _ _ hrm (obj2 _ _ rfl (obj1 _ _ hr)))
  have hx4 : w4.heap[bc + 1]? = some (.chan 0 #[] false 0 0 false) := obj4 _ _ rfl (obj3 _ _ (by omega) (obj2 _ _ rfl hx1))
  refine start_e K.posts.on hNb hL4 hb4 fun v28 => ?_
  refine start_f hN hL4 K.posts K.apart hb4 ht4 m4.c2 hx4 (fun j u hj hu => ?_) (by omega) fun hL5 hP5 hD5 => ?_
  · obtain ⟨_, l, hl, hs⟩ := K.all j u hj hu
    have := lx l _ hl hs
    omega
  have hasF : ∃ es clock, Has A (upd slot i (some (bc + 1))) (hiredW A.c bc (bc + 2) w4) es clock := ⟨_, _, hh3.other (by rw [obj_hired (obj4 _ _ rfl hm3) rfl]; exact hh3.heap.symm)⟩
  refine h _ ⟨bc, bc + 2, bc + 1, 0⟩ _ ⟨hA, ?_, hasF, ⟨?_, ?_, ?_⟩, hL5, hP5, hD5, ?_, ?_⟩ ?_
  · exact m4.hired hA (fun y hy => by rcases hy with rfl | rfl | rfl <;> omega)
  · intro l l' y hl hl' hy hy'
    by_cases e : l = i
    · subst e
      rw [upd_same] at hy
      by_cases e' : l' = l
      · exact e'.symm
      · rw [upd_ne _ _ e'] at hy'
        cases hy
        exact absurd hy' (hfr l' hl')
    · rw [upd_ne _ _ e] at hy
      by_cases e' : l' = i
      · subst e'
        rw [upd_same] at hy'
        cases hy'
        exact absurd hy (hfr l hl)
      · rw [upd_ne _ _ e'] at hy'
        exact K.chans.inj l l' y hl hl' hy hy'
  · exact ⟨krp, obj_hired (hne _ _ hrp ⟨_, _, _, rfl⟩) rfl⟩
  · intro l y hl hy
    by_cases e : l = i
    · subst e
      rw [upd_same] at hy
      cases hy
      exact ⟨show bc + 1 ≠ A.rp by omega, 0, obj_hired hx4 rfl⟩
    · rw [upd_ne _ _ e] at hy
      obtain ⟨h1, k, h2⟩ := K.chans.xs l y hl hy
      exact ⟨h1, k, obj_hired (hne _ _ h2 ⟨_, _, _, rfl⟩) rfl⟩
  · intro l y hl hy
    by_cases e : l = i
    · subst e
      rw [upd_same] at hy ⊢
      cases hy
      exact ⟨N, _, by omega, upd_same _ _ _, rfl, rfl⟩
    · rw [upd_ne _ _ e] at hy ⊢
      obtain ⟨j, u, h1, h2, h3, h4⟩ := K.own l y hl hy
      exact ⟨j, u, h1, by rw [upd_ne _ _ (by rintro rfl; rw [hg] at h2; cases h2)]; exact h2, h3, h4⟩
  · intro j u hj hu
    by_cases e : j = N
    · subst e
      rw [upd_same] at hu ⊢
      cases hu
      exact ⟨rfl, i, hi, upd_same _ _ _⟩
    · rw [upd_ne _ _ e] at hu ⊢
      obtain ⟨h1, l, h2, h3⟩ := K.all j u hj hu
      exact ⟨h1, l, h2, by rw [upd_ne _ _ (by rintro rfl; rw [hnone] at h3; cases h3)]; exact h3⟩
  · exact sd4.hired (by omega) (by omega)
end Go.Town.Kp
namespace Go.Town.Kp
open Go Go.Conc Go.Conc.Lib Go.ConcR.Gen Go.RowKit Go.Town Go.Proofs
open Go.ConcN (upd upd_ne upd_same)
noncomputable def body50 : Code := Try.f50.body.getD .skip
theorem eq95 (a b : Option Nat) (w : World) : (binOp .eql 95 (.chan a) (.chan b)).run Try.prog w = .ok (.bool (a == b)) w := by
  have := run_equal_chan (P := Try.prog) (kt := 95) (e := 3) (dir := .both) (by kernel_rfl) a b w
  unfold binOp
  simp [this, Result.andThen]
section
variable {A : At} {C : Cfg} {L : Nat → Ws} {Post : Value → World → Prop} {N k : Nat} {wl : World} {i x : Nat} {cs : List Frame} {slot : Nat → Option Nat} {sum starts : Nat → Int} {b₀ : Frame} {a₀ : Act} {ops₀ : Array Oper} {i₀ : Nat} {rest₀ : List Nat} {k₀ : List Item}
set_option maxRecDepth 100000 in
set_option maxHeartbeats 400000 in
theorem stop_none (hp : OkProg Try.prog okT) (hL : Lay C wl) (hA : A.Ok) (hm : Mem A slot sum starts wl) (hi : i < A.n) (hs : slot i = none)
    (h : ∀ wl', Lay C wl' → (∃ T d, wl' = wl.re T d) → Can Try.prog C A.c 5 Post k (Crew A.c A.rp N L) wl' (G (b₀.at (a₀.put ((ops₀[i₀]?).bind (·.dst)) (.tuple #[])) (.inRegion ops₀ rest₀ :: k₀)) cs)) :
    Can Try.prog C A.c 5 Post k (Crew A.c A.rp N L) wl (G ((base 50).at ⟨#[.pointer (some ⟨A.c, 0, none⟩), .int .i64 i] ++ Array.replicate 34 undef, []⟩ [.code body50]) (b₀.at a₀ (.inRegion ops₀ (i₀ :: rest₀) :: k₀) :: cs)) := by
  have hS := (crew_free A.c A.rp N L).steady
  have ea : (#[.pointer (some ⟨A.c, 0, none⟩), .int .i64 i] ++ Array.replicate 34 undef : Array Value) = #[.pointer (some ⟨A.c, 0, none⟩), .int .i64 i, undef, undef, undef, undef, undef, undef, undef, undef, undef, undef, undef, undef, undef, undef, undef, undef, undef, undef, undef, undef, undef, undef, undef, undef, undef, undef, undef, undef, undef, undef, undef, undef, undef, undef] := by kernel_rfl
  rw [ea]
  have e1 : body50 = .seq (headC 0 body50) (tailC 1 body50) := by kernel_rfl
  rw [e1]
  refine Can.ctl hS hL rfl (fun _ => stepG_seq) ?_
  refine Can.code hp hS hL (okFr_at (by kernel_rfl) rfl rfl ⟨_, Try.func50⟩) ?_
  intro T d
  generalize hB : Behind Try.prog C A.c 5 Post k (Crew A.c A.rp N L) (base 50) [.code (tailC 1 body50)] (b₀.at a₀ (.inRegion ops₀ (i₀ :: rest₀) :: k₀) :: cs) = B
  simp only [headC, body50, Try.f50, Option.getD_some]
  have hle := hA.le
  have h0 : (wl.re T d).cell? ⟨A.c, 0, none⟩ = _ := hm.c0
  have h5 : (wl.re T d).cell? ⟨A.ta, i, none⟩ = some (.chan (none)) := (hm.tasks i hi).1.trans (by rw [hs])
  have heq := eq95
  generalize hW : wl.re T d = W at *
  go_wp2
  subst hB
  intro hc todo
  subst hW
  refine Can.ctl hS ⟨hc, hL.no⟩ rfl (fun _ => st_leave0 rfl rfl Try.func50 rfl) ?_
  exact h _ ⟨hc, hL.no⟩ ⟨_, _, rfl⟩
set_option maxRecDepth 100000 in
set_option maxHeartbeats 400000 in
theorem stop_some (hp : OkProg Try.prog okT) (hL : Lay C wl) (hA : A.Ok) (hm : Mem A slot sum starts wl) (hi : i < A.n) (hs : slot i = some x)
    (h : ∀ wl', Lay C wl' → (∃ T d, wl' = wl.re T d) → Can Try.prog C A.c 5 Post k (Crew A.c A.rp N L) wl' (G ((base 50).at ⟨#[.pointer (some ⟨A.c, 0, none⟩), .int .i64 i, undef, undef, .pointer (some ⟨A.c, 0, none⟩), .pointer (some ⟨A.c, 0, none⟩), .pointer (some ⟨A.c, 0, none⟩), .slice (some ⟨A.ta, 0, none⟩) A.n A.n, .int .i64 i, .pointer (some ⟨A.ta, i, none⟩), .chan (some x), .bool false, undef, undef, undef, undef, undef, undef, undef, undef, undef, undef, undef, undef, undef, undef, undef, undef, undef, undef, undef, undef, undef, undef, undef, undef], []⟩ [.code (tailC 1 body50)]) (b₀.at a₀ (.inRegion ops₀ (i₀ :: rest₀) :: k₀) :: cs))) :
    Can Try.prog C A.c 5 Post k (Crew A.c A.rp N L) wl (G ((base 50).at ⟨#[.pointer (some ⟨A.c, 0, none⟩), .int .i64 i] ++ Array.replicate 34 undef, []⟩ [.code body50]) (b₀.at a₀ (.inRegion ops₀ (i₀ :: rest₀) :: k₀) :: cs)) := by
  have hS := (crew_free A.c A.rp N L).steady
  have ea : (#[.pointer (some ⟨A.c, 0, none⟩), .int .i64 i] ++ Array.replicate 34 undef : Array Value) = #[.pointer (some ⟨A.c, 0, none⟩), .int .i64 i, undef, undef, undef, undef, undef, undef, undef, undef, undef, undef, undef, undef, undef, undef, undef, undef, undef, undef, undef, undef, undef, undef, undef, undef, undef, undef, undef, undef, undef, undef, undef, undef, undef, undef] := by kernel_rfl
  rw [ea]
  have e1 : body50 = .seq (headC 0 body50) (tailC 1 body50) := by kernel_rfl
  rw [e1]
  refine Can.ctl hS hL rfl (fun _ => stepG_seq) ?_
  refine Can.code hp hS hL (okFr_at (by kernel_rfl) rfl rfl ⟨_, Try.func50⟩) ?_
  intro T d
  generalize hB : Behind Try.prog C A.c 5 Post k (Crew A.c A.rp N L) (base 50) [.code (tailC 1 body50)] (b₀.at a₀ (.inRegion ops₀ (i₀ :: rest₀) :: k₀) :: cs) = B
  simp only [headC, body50, Try.f50, Option.getD_some]
  have hle := hA.le
  have h0 : (wl.re T d).cell? ⟨A.c, 0, none⟩ = _ := hm.c0
  have h5 : (wl.re T d).cell? ⟨A.ta, i, none⟩ = some (.chan (some x)) := (hm.tasks i hi).1.trans (by rw [hs])
  have heq := eq95
  generalize hW : wl.re T d = W at *
  go_wp2
  subst hB
  intro hc
  subst hW
  exact h _ ⟨hc, hL.no⟩ ⟨_, _, rfl⟩
end
end Go.Town.Kp
namespace Go.Town.Kp
open Go Go.Conc Go.Conc.Lib Go.ConcR.Gen Go.RowKit Go.Town Go.Proofs
open Go.ConcN (upd upd_ne upd_same)
noncomputable def ops50 : Array Oper := match tailC 1 body50 with | .seq (.region _ ops _) _ => ops | _ => #[]
section
variable {A : At} {C : Cfg} {L : Nat → Ws} {Post : Value → World → Prop} {N k : Nat} {wl : World} {i : Nat} {cs : List Frame} {slot : Nat → Option Nat} {sum starts : Nat → Int}
set_option maxRecDepth 100000 in
set_option maxHeartbeats 400000 in
theorem stop_b (hL : Lay C wl) (hP : Posts C A.c L) (hD : Apart A.rp L) (hA : A.Ok) (hm : Mem A slot sum starts wl) (hi : i < A.n) {u : Wd} {j kk : Nat} (hs : slot i = some u.x) (hj : j ≠ 0) (hl : L j = .live u) (hck : wl.heap[u.x]? = some (.chan 0 #[] false kk kk false))
    (h : Can Try.prog C A.c 5 Post k (Crew A.c A.rp N (upd L j .gone)) (wl.setChan u.x 0 #[] true kk kk false) (G ((base 50).at ⟨#[.pointer (some ⟨A.c, 0, none⟩), .int .i64 i, undef, undef, .pointer (some ⟨A.c, 0, none⟩), .pointer (some ⟨A.c, 0, none⟩), .pointer (some ⟨A.c, 0, none⟩), .slice (some ⟨A.ta, 0, none⟩) A.n A.n, .int .i64 i, .pointer (some ⟨A.ta, i, none⟩), .chan (some u.x), .bool false, .pointer (some ⟨A.c, 0, none⟩), .pointer (some ⟨A.c, 0, none⟩), .pointer (some ⟨A.c, 0, none⟩), .slice (some ⟨A.ta, 0, none⟩) A.n A.n, .int .i64 i, .pointer (some ⟨A.ta, i, none⟩), .chan (some u.x), undef, undef, undef, undef, undef, undef, undef, undef, undef, undef, undef, undef, undef, undef, undef, undef, undef], []⟩ [.code (tailC 2 body50)]) cs)) :
    Can Try.prog C A.c 5 Post k (Crew A.c A.rp N L) wl (G ((base 50).at ⟨#[.pointer (some ⟨A.c, 0, none⟩), .int .i64 i, undef, undef, .pointer (some ⟨A.c, 0, none⟩), .pointer (some ⟨A.c, 0, none⟩), .pointer (some ⟨A.c, 0, none⟩), .slice (some ⟨A.ta, 0, none⟩) A.n A.n, .int .i64 i, .pointer (some ⟨A.ta, i, none⟩), .chan (some u.x), .bool false, undef, undef, undef, undef, undef, undef, undef, undef, undef, undef, undef, undef, undef, undef, undef, undef, undef, undef, undef, undef, undef, undef, undef, undef], []⟩ [.code (tailC 1 body50)]) cs) := by
  have hS := (crew_free A.c A.rp N L).steady
  have hle := hA.le
  have e1 : tailC 1 body50 = .seq (headC 1 body50) (tailC 2 body50) := by kernel_rfl
  rw [e1]
  refine Can.ctl hS hL rfl (fun _ => stepG_seq) ?_
  generalize hK : [Item.code (tailC 2 body50)] = K at *
  simp only [headC, body50, Try.f50, Option.getD_some]
  refine Can.ctl hS hL rfl (fun _ => stepG_region) ?_; simp only [List.size_toArray, List.length_cons, List.length_nil, Nat.reduceAdd, Nat.zero_add, List.range, List.range.loop]
  refine Can.op (ok := okT) hS hL rfl rfl (by k_ne) (by kernel_rfl) (fun T d => ⟨.pointer (some ⟨A.c, 0, none⟩), wl.re T d, ?_, fun _ => Can.re ?_ T d⟩)
  · go_simp
  walk_nrm
  refine Can.op (ok := okT) hS hL rfl rfl (by k_ne) (by kernel_rfl) (fun T d => ⟨.pointer (some ⟨A.c, 0, none⟩), wl.re T d, ?_, fun _ => Can.re ?_ T d⟩)
  · go_simp
  walk_nrm
  refine Can.op (ok := okT) hS hL rfl rfl (by k_ne) (by kernel_rfl) (fun T d => ⟨.pointer (some ⟨A.c, 0, none⟩), wl.re T d, ?_, fun _ => Can.re ?_ T d⟩)
  · go_simp
  walk_nrm
  refine Can.op (ok := okT) hS hL rfl rfl (by k_ne) (by kernel_rfl) (fun T d => ⟨.slice (some ⟨A.ta, 0, none⟩) A.n A.n, wl.re T d, ?_, fun _ => Can.re ?_ T d⟩)
  · have h0 : (wl.re T d).cell? ⟨A.c, 0, none⟩ = _ := hm.c0
    go_simp
  walk_nrm
  refine Can.op (ok := okT) hS hL rfl rfl (by k_ne) (by kernel_rfl) (fun T d => ⟨.int .i64 i, wl.re T d, ?_, fun _ => Can.re ?_ T d⟩)
  · go_simp
  walk_nrm
  refine Can.op (ok := okT) hS hL rfl rfl (by k_ne) (by kernel_rfl) (fun T d => ⟨.pointer (some ⟨A.ta, i, none⟩), wl.re T d, ?_, fun _ => Can.re ?_ T d⟩)
  · go_simp
  walk_nrm
  refine Can.op (ok := okT) hS hL rfl rfl (by k_ne) (by kernel_rfl) (fun T d => ⟨.chan (some u.x), wl.re T d, ?_, fun _ => Can.re ?_ T d⟩)
  · have h5 : (wl.re T d).cell? ⟨A.ta, i, none⟩ = some (.chan (some u.x)) := (hm.tasks i hi).1.trans (by rw [hs])
    go_simp
  walk_nrm
  refine shuts hL hP hD hj hl hck rfl (fun w hw => ?_) (by kernel_rfl) rfl (g' := G ((base 50).at ⟨#[.pointer (some ⟨A.c, 0, none⟩), .int .i64 i, undef, undef, .pointer (some ⟨A.c, 0, none⟩), .pointer (some ⟨A.c, 0, none⟩), .pointer (some ⟨A.c, 0, none⟩), .slice (some ⟨A.ta, 0, none⟩) A.n A.n, .int .i64 i, .pointer (some ⟨A.ta, i, none⟩), .chan (some u.x), .bool false, .pointer (some ⟨A.c, 0, none⟩), .pointer (some ⟨A.c, 0, none⟩), .pointer (some ⟨A.c, 0, none⟩), .slice (some ⟨A.ta, 0, none⟩) A.n A.n, .int .i64 i, .pointer (some ⟨A.ta, i, none⟩), .chan (some u.x), undef, undef, undef, undef, undef, undef, undef, undef, undef, undef, undef, undef, undef, undef, undef, undef, undef], []⟩ (.inRegion ops50 [] :: K)) cs) ?_
  · rw [stepG_close (c := u.x) rfl rfl (by k_ne) rfl rfl hw (by kernel_rfl)]
    rfl
  · refine Can.ctl (crew_free A.c A.rp N (upd L j .gone)).steady (hL.setChan hck rfl _ _ _ _ _ _) rfl (fun _ => stepG_region_end) ?_
    exact h
end
end Go.Town.Kp
namespace Go.Town.Kp
open Go Go.Conc Go.Conc.Lib Go.ConcR.Gen Go.RowKit Go.Town Go.Proofs
open Go.ConcN (upd upd_ne upd_same)
section
variable {A : At} {C : Cfg} {L : Nat → Ws} {Post : Value → World → Prop} {N k : Nat} {wl : World} {i x j : Nat} {cs : List Frame} {slot : Nat → Option Nat} {sum starts : Nat → Int} {es : Array MapEntry} {clock : Nat} {b₀ : Frame} {a₀ : Act} {ops₀ : Array Oper} {i₀ : Nat} {rest₀ : List Nat} {k₀ : List Item}
set_option maxRecDepth 100000 in
set_option maxHeartbeats 400000 in
theorem stop_c (hp : OkProg Try.prog okT) (hL : Lay C wl) (hA : A.Ok) (hm : Mem A slot sum starts wl) (hi : i < A.n) (hs : slot i = some x) (hh : wl.heap[A.m]? = some (.map es clock)) (hk : ChanKeys es) (hx : es.toList.findIdx? (keyIs x) = some j)
    (h : ∀ wl', Lay C wl' → (∃ T d, wl' = (({ wl with heap := wl.heap.setIfInBounds A.m (.map (es.eraseIdxIfInBounds j) clock) } : World)).re T d) → Can Try.prog C A.c 5 Post k (Crew A.c A.rp N L) wl' (G ((base 50).at ⟨#[.pointer (some ⟨A.c, 0, none⟩), .int .i64 i, undef, undef, .pointer (some ⟨A.c, 0, none⟩), .pointer (some ⟨A.c, 0, none⟩), .pointer (some ⟨A.c, 0, none⟩), .slice (some ⟨A.ta, 0, none⟩) A.n A.n, .int .i64 i, .pointer (some ⟨A.ta, i, none⟩), .chan (some x), .bool false, .pointer (some ⟨A.c, 0, none⟩), .pointer (some ⟨A.c, 0, none⟩), .pointer (some ⟨A.c, 0, none⟩), .slice (some ⟨A.ta, 0, none⟩) A.n A.n, .int .i64 i, .pointer (some ⟨A.ta, i, none⟩), .chan (some x), .pointer (some ⟨A.c, 0, none⟩), .pointer (some ⟨A.c, 0, none⟩), .pointer (some ⟨A.c, 1, none⟩), .map (some A.m), .pointer (some ⟨A.c, 0, none⟩), .pointer (some ⟨A.c, 0, none⟩), .pointer (some ⟨A.c, 0, none⟩), .slice (some ⟨A.ta, 0, none⟩) A.n A.n, .int .i64 i, .pointer (some ⟨A.ta, i, none⟩), .chan (some x), undef, undef, undef, undef, undef, undef], []⟩ [.code (tailC 3 body50)]) cs)) :
    Can Try.prog C A.c 5 Post k (Crew A.c A.rp N L) wl (G ((base 50).at ⟨#[.pointer (some ⟨A.c, 0, none⟩), .int .i64 i, undef, undef, .pointer (some ⟨A.c, 0, none⟩), .pointer (some ⟨A.c, 0, none⟩), .pointer (some ⟨A.c, 0, none⟩), .slice (some ⟨A.ta, 0, none⟩) A.n A.n, .int .i64 i, .pointer (some ⟨A.ta, i, none⟩), .chan (some x), .bool false, .pointer (some ⟨A.c, 0, none⟩), .pointer (some ⟨A.c, 0, none⟩), .pointer (some ⟨A.c, 0, none⟩), .slice (some ⟨A.ta, 0, none⟩) A.n A.n, .int .i64 i, .pointer (some ⟨A.ta, i, none⟩), .chan (some x), undef, undef, undef, undef, undef, undef, undef, undef, undef, undef, undef, undef, undef, undef, undef, undef, undef], []⟩ [.code (tailC 2 body50)]) cs) := by
  have hS := (crew_free A.c A.rp N L).steady
  have e1 : tailC 2 body50 = .seq (headC 2 body50) (tailC 3 body50) := by kernel_rfl
  rw [e1]
  refine Can.ctl hS hL rfl (fun _ => stepG_seq) ?_
  refine Can.code hp hS hL (okFr_at (by kernel_rfl) rfl rfl ⟨_, Try.func50⟩) ?_
  intro T d
  generalize hB : Behind Try.prog C A.c 5 Post k (Crew A.c A.rp N L) (base 50) [.code (tailC 3 body50)] cs = B
  simp only [headC, tailC, body50, Try.f50, Option.getD_some]
  have hle := hA.le
  have h0 : (wl.re T d).cell? ⟨A.c, 0, none⟩ = _ := hm.c0
  have h1 : (wl.re T d).cell? ⟨A.c, 1, none⟩ = _ := hm.c1
  have h5 : (wl.re T d).cell? ⟨A.ta, i, none⟩ = some (.chan (some x)) := (hm.tasks i hi).1.trans (by rw [hs])
  have h6 : (wl.re T d).frozen? ⟨A.ta, i, none⟩ = false := (hm.tasks i hi).2
  have hd : (Builtin.delete_ #[76, 95] 0 #[.map (some A.m), .chan (some x)]).run Try.prog (wl.re T d).drew = _ := run_delete_chan (P := Try.prog) (w := (wl.re T d).drew) (mt := 76) (kt := 95) (et := 3) (e := 3) (dir := .both) (by kernel_rfl) (by kernel_rfl) hh hk hx 0 95
  generalize hW : wl.re T d = W at *
  go_region
  subst hB
  intro hc
  subst hW
  exact h _ ⟨hc, hL.no⟩ ⟨_, _, rfl⟩
set_option maxRecDepth 100000 in
set_option maxHeartbeats 400000 in
theorem stop_d (hp : OkProg Try.prog okT) (hL : Lay C wl) (hA : A.Ok) (hm : Mem A slot sum starts wl) (hi : i < A.n) (hs : slot i = some x)
    (h : ∀ wl', Lay C wl' → (∃ T d, wl' = (wl.setCell ⟨A.ta, i, none⟩ (.chan none)).re T d) → Can Try.prog C A.c 5 Post k (Crew A.c A.rp N L) wl' (G (b₀.at (a₀.put ((ops₀[i₀]?).bind (·.dst)) (.tuple #[])) (.inRegion ops₀ rest₀ :: k₀)) cs)) :
    Can Try.prog C A.c 5 Post k (Crew A.c A.rp N L) wl (G ((base 50).at ⟨#[.pointer (some ⟨A.c, 0, none⟩), .int .i64 i, undef, undef, .pointer (some ⟨A.c, 0, none⟩), .pointer (some ⟨A.c, 0, none⟩), .pointer (some ⟨A.c, 0, none⟩), .slice (some ⟨A.ta, 0, none⟩) A.n A.n, .int .i64 i, .pointer (some ⟨A.ta, i, none⟩), .chan (some x), .bool false, .pointer (some ⟨A.c, 0, none⟩), .pointer (some ⟨A.c, 0, none⟩), .pointer (some ⟨A.c, 0, none⟩), .slice (some ⟨A.ta, 0, none⟩) A.n A.n, .int .i64 i, .pointer (some ⟨A.ta, i, none⟩), .chan (some x), .pointer (some ⟨A.c, 0, none⟩), .pointer (some ⟨A.c, 0, none⟩), .pointer (some ⟨A.c, 1, none⟩), .map (some A.m), .pointer (some ⟨A.c, 0, none⟩), .pointer (some ⟨A.c, 0, none⟩), .pointer (some ⟨A.c, 0, none⟩), .slice (some ⟨A.ta, 0, none⟩) A.n A.n, .int .i64 i, .pointer (some ⟨A.ta, i, none⟩), .chan (some x), undef, undef, undef, undef, undef, undef], []⟩ [.code (tailC 3 body50)]) (b₀.at a₀ (.inRegion ops₀ (i₀ :: rest₀) :: k₀) :: cs)) := by
  have hS := (crew_free A.c A.rp N L).steady
  refine Can.code hp hS hL (okFr_at (by kernel_rfl) rfl rfl ⟨_, Try.func50⟩) ?_
  intro T d
  generalize hB : Behind Try.prog C A.c 5 Post k (Crew A.c A.rp N L) (base 50) [] (b₀.at a₀ (.inRegion ops₀ (i₀ :: rest₀) :: k₀) :: cs) = B
  simp only [headC, tailC, body50, Try.f50, Option.getD_some]
  have hle := hA.le
  have h0 : (wl.re T d).cell? ⟨A.c, 0, none⟩ = _ := hm.c0
  have h1 : (wl.re T d).cell? ⟨A.c, 1, none⟩ = _ := hm.c1
  have h5 : (wl.re T d).cell? ⟨A.ta, i, none⟩ = some (.chan (some x)) := (hm.tasks i hi).1.trans (by rw [hs])
  have h6 : (wl.re T d).frozen? ⟨A.ta, i, none⟩ = false := (hm.tasks i hi).2
  generalize hW : wl.re T d = W at *
  go_wp2
  subst hB
  intro hc
  subst hW
  refine Can.ctl hS ⟨hc, hL.no⟩ rfl (fun _ => stepG_end) ?_
  refine Can.ctl hS ⟨hc, hL.no⟩ rfl (fun _ => st_leave0 rfl rfl Try.func50 rfl) ?_
  exact h _ ⟨hc, hL.no⟩ ⟨_, _, rfl⟩
end
end Go.Town.Kp
