/-
  A worker of the keeper's, in company: to its seat, from seat to seat, and out when its channel is closed.
  The crew's memory.
-/
import Derived.Laws.Build
import Derived.Test.YtihmcigoofhpmaaZat
import Derived.Test.YtihmcigoofhpmaaZau
set_option linter.all false
namespace Go.Town.Kp
open Go Go.Conc Go.Conc.Lib Go.ConcR.Gen Go.RowKit Go.Town Go.Proofs
structure KW (c bc bt x rp : Nat) (w : World) : Prop where
  bx : w.cell? ⟨bc, 0, none⟩ = some (.pointer (some ⟨c, 0, none⟩))
  tx : w.cell? ⟨bt, 0, none⟩ = some (.chan (some x))
  rx : w.cell? ⟨c, 2, none⟩ = some (.chan (some rp))
  live : Live c 5 w
structure KS (C : Cfg) (i c bc bt : Nat) : Prop where
  on : C.on
  bs : C.St i (.cell ⟨bc, 0, none⟩)
  ts : C.St i (.cell ⟨bt, 0, none⟩)
  rs : C.St i (.cell ⟨c, 2, none⟩)
  bn : ¬ C.Sh (.cell ⟨bc, 0, none⟩)
  tn : ¬ C.Sh (.cell ⟨bt, 0, none⟩)
  rn : ¬ C.Sh (.cell ⟨c, 2, none⟩)
section
variable {C : Cfg} {i c bc bt x rp : Nat}
theorem KS.bx (h : KS C i c bc bt) : EvR C i ⟨.cell ⟨bc, 0, none⟩, false, false⟩ := evR_still h.bs h.bn
theorem KS.tx (h : KS C i c bc bt) : EvR C i ⟨.cell ⟨bt, 0, none⟩, false, false⟩ := evR_still h.ts h.tn
theorem KS.rx (h : KS C i c bc bt) : EvR C i ⟨.cell ⟨c, 2, none⟩, false, false⟩ := evR_still h.rs h.rn
theorem KW.rely (hS : KS C i c bc bt) {w w₁ : World} (h : KW c bc bt x rp w) (r : RB C c 5 i w w₁) : KW c bc bt x rp w₁ :=
  ⟨(r.cells bc 0 (.inr hS.bs)).1.trans h.bx, (r.cells bt 0 (.inr hS.ts)).1.trans h.tx, (r.cells c 2 (.inr hS.rs)).1.trans h.rx, r.live hS.on h.live⟩
theorem KW.draw {w : World} (h : KW c bc bt x rp w) : KW c bc bt x rp { w with drawn := w.drawn + 1 } := ⟨h.bx, h.tx, h.rx, let ⟨s, m, k⟩ := h.live; ⟨s, m, k.st, k.sm, k.thaw⟩⟩
theorem wkK (hS : KS C i c bc bt) : Wk (RB C c 5 i) (DR C i) (KW c bc bt x rp) := ⟨fun _ _ r h => h.rely hS r, fun _ => ⟨Out.refl _ _, fun e he => by simp at he⟩⟩
noncomputable def bot : Frame := { (default : Frame) with fn := Try.prog.funcs.size, defers := [], mode := .panicking [goexitEntry] }
def call69 (bc bt : Nat) : Deferred := { target := .fn (.func 69) #[.pointer (some ⟨bc, 0, none⟩), .pointer (some ⟨bt, 0, none⟩)], args := #[] }
noncomputable def body69 : Code := Try.f69.body.getD .skip
noncomputable def body71 : Code := Try.f71.body.getD .skip
theorem born_step (bc bt : Nat) (w : World) : stepG Try.prog false (born Try.prog (call69 bc bt)) w =
    .go (G ((baseD 69).at ⟨#[.pointer (some ⟨bc, 0, none⟩), .pointer (some ⟨bt, 0, none⟩)] ++ Array.replicate 9 undef, []⟩ [.code body69]) [bot]) w #[] := by
  simp [born, call69, stepG, unwind, callDeferred, invoke, callFunc, Try.func69, Try.f69, seen, GStep.after, G, Frame.enter, Frame.at, baseD, bot, body69]
noncomputable def ops69 : Array Oper := match body69 with | .seq _ (.region _ ops _) => ops | _ => #[]
noncomputable def ops71r : Array Oper := match body71 with | .seq _ (.seq _ (.block _ (.loop (.seq (.region _ ops _) _)))) => ops | _ => #[]
noncomputable def todo71r : List Item := match body71 with | .seq _ (.seq _ (.block n (.loop (.seq a b)))) => [.code b, .inLoop (.seq a b), .inBlock n] | _ => []
noncomputable def ops71s : Array Oper := match body71 with | .seq _ (.seq _ (.block _ (.loop (.seq _ (.seq _ (.block _ (.seq _ (.seq _ (.region _ ops _))))))))) => ops | _ => #[]
noncomputable def todo71s : List Item := match body71 with | .seq _ (.seq _ (.block n (.loop (.seq a (.seq c (.block m d)))))) => [.inBlock m, .inLoop (.seq a (.seq c (.block m d))), .inBlock n] | _ => []
def rep (x : Nat) (s : Int) (f : Bool) : Value := .agg #[.chan (some x), .int .i64 s, .bool f]
def HomeR (c bc bt x rp : Nat) (s : Int) (g : Goroutine) (w : World) : Prop :=
  KW c bc bt x rp w ∧ ∃ F v2 v3 v5 v7 v8 v9 v10 v11 v12 v13 v14 v15 v16 v17 v18, g = G ((base 71).at ⟨#[.chan (some x), .chan (some rp), v2, v3, .int .i64 s, v5, .chan (some x), v7, v8, v9, v10, v11, v12, v13, v14, v15, v16, v17, v18], []⟩ (.inRegion ops71r [0, 1] :: todo71r)) [(baseD 69).at ⟨F, [dcall 70 #[.pointer (some ⟨c, 5, none⟩)]]⟩ [.inRegion ops69 [5]], bot]
def HomeS (c bc bt x rp : Nat) (s : Int) (f : Bool) (g : Goroutine) (w : World) : Prop :=
  KW c bc bt x rp w ∧ ∃ F v2 v3 v5 v7 v8 v9 v10 v11 v12 v14 v15 v16 v17, g = G ((base 71).at ⟨#[.chan (some x), .chan (some rp), v2, v3, .int .i64 s, v5, .chan (some x), v7, v8, v9, v10, v11, v12, .chan (some rp), v14, v15, v16, v17, rep x s f], []⟩ (.inRegion ops71s [6] :: todo71s)) [(baseD 69).at ⟨F, [dcall 70 #[.pointer (some ⟨c, 5, none⟩)]]⟩ [.inRegion ops69 [5]], bot]
theorem homeR_rely (hS : KS C i c bc bt) {s : Int} (w w₁ : World) (g : Goroutine) (r : RB C c 5 i w w₁) (h : HomeR c bc bt x rp s g w) : HomeR c bc bt x rp s g w₁ := ⟨h.1.rely hS r, h.2⟩
theorem homeS_rely (hS : KS C i c bc bt) {s : Int} {f : Bool} (w w₁ : World) (g : Goroutine) (r : RB C c 5 i w w₁) (h : HomeS c bc bt x rp s f g w) : HomeS c bc bt x rp s f g w₁ := ⟨h.1.rely hS r, h.2⟩
def AtTask (c bc bt x rp : Nat) (s : Int) (g : Goroutine) (w : World) : Prop := ∃ g₂, AtPort Try.prog false (.recv x (.int .i64 0) true) g g₂ ∧ HomeR c bc bt x rp s g₂ w
def AtTell (c bc bt x rp : Nat) (s : Int) (f : Bool) (g : Goroutine) (w : World) : Prop := ∃ g₂, AtPort Try.prog false (.send rp (rep x s f) undef) g g₂ ∧ HomeS c bc bt x rp s f g₂ w
set_option maxRecDepth 100000 in
set_option maxHeartbeats 4000000 in
theorem seatStart (hS : KS C i c bc bt) : ∃ n, ∀ w, KW c bc bt x rp w → Goes Try.prog false (RB C c 5 i) (DR C i) (AtTask c bc bt x rp 0) n (born Try.prog (call69 bc bt)) w := by
  have W := wkK (x := x) (rp := rp) hS
  refine W.ctl rfl (born_step bc bt) ?_
  simp only [body69, Try.f69, Option.getD_some]
  walk_nrm
  refine W.ctl rfl (fun _ => stepG_seq) ?_
  refine W.ctl rfl (fun _ => stepG_region) ?_; simp only [List.size_toArray, List.length_cons, List.length_nil, Nat.reduceAdd, Nat.zero_add, List.range, List.range.loop]
  refine W.valE (EvR C i) (.pointer (some ⟨c, 0, none⟩)) rfl rfl (by k_ne) (fun w hw => ⟨?_, ?_⟩) dr_of ?_
  · have h1 := hw.bx; have h2 := hw.tx; have h3 := hw.rx
    go_simp
  · have h1 := hw.bx; have h2 := hw.tx; have h3 := hw.rx
    intro e he
    simp [go_sem, *] at he
    subst he
    exact hS.bx
  walk_nrm
  refine W.val rfl rfl (by k_ne) (fun _ => by simp [go_sem, *]) (fun K hy => ?_); go_simp; (try w_num); refine hy _ ?_; clear hy K; walk_nrm
  refine W.val rfl rfl (by k_ne) (fun _ => by simp [go_sem, *]) (fun K hy => ?_); go_simp; (try w_num); refine hy _ ?_; clear hy K; walk_nrm
  refine W.ctl rfl (fun _ => stepG_defer rfl rfl (by k_ne) rfl) ?_; walk_nrm
  refine W.ctl rfl (fun _ => stepG_region_end) ?_
  have hlins : lins .any ops69 ops69.size (Array.replicate ops69.size false) [] = [[0, 1, 2, 3, 4, 5], [1, 0, 2, 3, 4, 5], [1, 2, 0, 3, 4, 5], [1, 2, 3, 0, 4, 5], [1, 2, 3, 4, 0, 5]] := by kernel_rfl
  refine W.draw dr_draw (fun w h => h.draw) (by kernel_rfl) ?_
  intro l hl
  replace hl : l ∈ lins .any ops69 ops69.size (Array.replicate ops69.size false) [] := hl
  rw [hlins] at hl
  simp only [List.mem_cons, List.not_mem_nil, or_false] at hl
  have fin : ∃ n, ∀ w, KW c bc bt x rp w → Goes Try.prog false (RB C c 5 i) (DR C i) (AtTask c bc bt x rp 0) n (G ((baseD 69).at ⟨#[.pointer (some ⟨bc, 0, none⟩), .pointer (some ⟨bt, 0, none⟩), .pointer (some ⟨c, 0, none⟩), .pointer (some ⟨c, 0, none⟩), .pointer (some ⟨c, 5, none⟩), .chan (some x), .pointer (some ⟨c, 0, none⟩), .pointer (some ⟨c, 0, none⟩), .pointer (some ⟨c, 2, none⟩), .chan (some rp), undef], [dcall 70 #[.pointer (some ⟨c, 5, none⟩)]]⟩ [.inRegion ops69 [5]]) [bot]) w := by
    simp only [ops69, body69, Try.f69, Option.getD_some]
    refine W.ctl rfl (fun _ => st_call rfl rfl (by k_ne) rfl Try.func71 (by kernel_rfl) rfl) ?_
    walk_nrmf Try.f71
    refine W.ctl rfl (fun _ => stepG_seq) ?_
    refine W.ctl rfl (fun _ => stepG_region) ?_; simp only [List.size_toArray, List.length_cons, List.length_nil, Nat.reduceAdd, Nat.zero_add, List.range, List.range.loop]
    refine W.val rfl rfl (by k_ne) (fun _ => by simp [go_sem, *]) (fun K hy => ?_); go_simp; (try w_num); refine hy _ ?_; clear hy K; walk_nrm
    refine W.ctl rfl (fun _ => stepG_region_end) ?_
    refine W.ctl rfl (fun _ => stepG_seq) ?_
    refine W.ctl rfl (fun _ => stepG_region) ?_; simp only [List.size_toArray, List.length_cons, List.length_nil, Nat.reduceAdd, Nat.zero_add, List.range, List.range.loop]
    refine W.val rfl rfl (by k_ne) (fun _ => by simp [go_sem, *]) (fun K hy => ?_); go_simp; (try w_num); refine hy _ ?_; clear hy K; walk_nrm
    refine W.ctl rfl (fun _ => stepG_region_end) ?_
    refine W.ctl rfl (fun _ => stepG_block) ?_
    refine W.ctl rfl (fun _ => stepG_loop) ?_
    refine W.ctl rfl (fun _ => stepG_seq) ?_
    refine W.ctl rfl (fun _ => stepG_region) ?_; simp only [List.size_toArray, List.length_cons, List.length_nil, Nat.reduceAdd, Nat.zero_add, List.range, List.range.loop]
    refine W.stop fun w hw => ⟨_, port_of rfl rfl (by k_ne) (fun w => ?_) (fun w => ?_), hw, ?_⟩
    · go_simp
      exact ⟨rfl, rfl⟩
    · simp [go_sem, *]
    · exact ⟨_, _, _, _, _, _, _, _, _, _, _, _, _, _, _, _, rfl⟩
  rcases hl with rfl | rfl | rfl | rfl | rfl
  · skip
    refine W.valE (EvR C i) (.chan (some x)) rfl rfl (by k_ne) (fun w hw => ⟨?_, ?_⟩) dr_of ?_
    · have h1 := hw.bx; have h2 := hw.tx; have h3 := hw.rx
      go_simp
    · have h1 := hw.bx; have h2 := hw.tx; have h3 := hw.rx
      intro e he
      simp [go_sem, *] at he
      subst he
      exact hS.tx
    walk_nrm
    refine W.valE (EvR C i) (.pointer (some ⟨c, 0, none⟩)) rfl rfl (by k_ne) (fun w hw => ⟨?_, ?_⟩) dr_of ?_
    · have h1 := hw.bx; have h2 := hw.tx; have h3 := hw.rx
      go_simp
    · have h1 := hw.bx; have h2 := hw.tx; have h3 := hw.rx
      intro e he
      simp [go_sem, *] at he
      subst he
      exact hS.bx
    walk_nrm
    refine W.val rfl rfl (by k_ne) (fun _ => by simp [go_sem, *]) (fun K hy => ?_); go_simp; refine hy _ ?_; clear hy K; walk_nrm
    refine W.val rfl rfl (by k_ne) (fun _ => by simp [go_sem, *]) (fun K hy => ?_); go_simp; refine hy _ ?_; clear hy K; walk_nrm
    refine W.valE (EvR C i) (.chan (some rp)) rfl rfl (by k_ne) (fun w hw => ⟨?_, ?_⟩) dr_of ?_
    · have h1 := hw.bx; have h2 := hw.tx; have h3 := hw.rx
      go_simp
    · have h1 := hw.bx; have h2 := hw.tx; have h3 := hw.rx
      intro e he
      simp [go_sem, *] at he
      subst he
      exact hS.rx
    walk_nrm
    exact fin
  · skip
    refine W.valE (EvR C i) (.pointer (some ⟨c, 0, none⟩)) rfl rfl (by k_ne) (fun w hw => ⟨?_, ?_⟩) dr_of ?_
    · have h1 := hw.bx; have h2 := hw.tx; have h3 := hw.rx
      go_simp
    · have h1 := hw.bx; have h2 := hw.tx; have h3 := hw.rx
      intro e he
      simp [go_sem, *] at he
      subst he
      exact hS.bx
    walk_nrm
    refine W.valE (EvR C i) (.chan (some x)) rfl rfl (by k_ne) (fun w hw => ⟨?_, ?_⟩) dr_of ?_
    · have h1 := hw.bx; have h2 := hw.tx; have h3 := hw.rx
      go_simp
    · have h1 := hw.bx; have h2 := hw.tx; have h3 := hw.rx
      intro e he
      simp [go_sem, *] at he
      subst he
      exact hS.tx
    walk_nrm
    refine W.val rfl rfl (by k_ne) (fun _ => by simp [go_sem, *]) (fun K hy => ?_); go_simp; refine hy _ ?_; clear hy K; walk_nrm
    refine W.val rfl rfl (by k_ne) (fun _ => by simp [go_sem, *]) (fun K hy => ?_); go_simp; refine hy _ ?_; clear hy K; walk_nrm
    refine W.valE (EvR C i) (.chan (some rp)) rfl rfl (by k_ne) (fun w hw => ⟨?_, ?_⟩) dr_of ?_
    · have h1 := hw.bx; have h2 := hw.tx; have h3 := hw.rx
      go_simp
    · have h1 := hw.bx; have h2 := hw.tx; have h3 := hw.rx
      intro e he
      simp [go_sem, *] at he
      subst he
      exact hS.rx
    walk_nrm
    exact fin
  · skip
    refine W.valE (EvR C i) (.pointer (some ⟨c, 0, none⟩)) rfl rfl (by k_ne) (fun w hw => ⟨?_, ?_⟩) dr_of ?_
    · have h1 := hw.bx; have h2 := hw.tx; have h3 := hw.rx
      go_simp
    · have h1 := hw.bx; have h2 := hw.tx; have h3 := hw.rx
      intro e he
      simp [go_sem, *] at he
      subst he
      exact hS.bx
    walk_nrm
    refine W.val rfl rfl (by k_ne) (fun _ => by simp [go_sem, *]) (fun K hy => ?_); go_simp; refine hy _ ?_; clear hy K; walk_nrm
    refine W.valE (EvR C i) (.chan (some x)) rfl rfl (by k_ne) (fun w hw => ⟨?_, ?_⟩) dr_of ?_
    · have h1 := hw.bx; have h2 := hw.tx; have h3 := hw.rx
      go_simp
    · have h1 := hw.bx; have h2 := hw.tx; have h3 := hw.rx
      intro e he
      simp [go_sem, *] at he
      subst he
      exact hS.tx
    walk_nrm
    refine W.val rfl rfl (by k_ne) (fun _ => by simp [go_sem, *]) (fun K hy => ?_); go_simp; refine hy _ ?_; clear hy K; walk_nrm
    refine W.valE (EvR C i) (.chan (some rp)) rfl rfl (by k_ne) (fun w hw => ⟨?_, ?_⟩) dr_of ?_
    · have h1 := hw.bx; have h2 := hw.tx; have h3 := hw.rx
      go_simp
    · have h1 := hw.bx; have h2 := hw.tx; have h3 := hw.rx
      intro e he
      simp [go_sem, *] at he
      subst he
      exact hS.rx
    walk_nrm
    exact fin
  · skip
    refine W.valE (EvR C i) (.pointer (some ⟨c, 0, none⟩)) rfl rfl (by k_ne) (fun w hw => ⟨?_, ?_⟩) dr_of ?_
    · have h1 := hw.bx; have h2 := hw.tx; have h3 := hw.rx
      go_simp
    · have h1 := hw.bx; have h2 := hw.tx; have h3 := hw.rx
      intro e he
      simp [go_sem, *] at he
      subst he
      exact hS.bx
    walk_nrm
    refine W.val rfl rfl (by k_ne) (fun _ => by simp [go_sem, *]) (fun K hy => ?_); go_simp; refine hy _ ?_; clear hy K; walk_nrm
    refine W.val rfl rfl (by k_ne) (fun _ => by simp [go_sem, *]) (fun K hy => ?_); go_simp; refine hy _ ?_; clear hy K; walk_nrm
    refine W.valE (EvR C i) (.chan (some x)) rfl rfl (by k_ne) (fun w hw => ⟨?_, ?_⟩) dr_of ?_
    · have h1 := hw.bx; have h2 := hw.tx; have h3 := hw.rx
      go_simp
    · have h1 := hw.bx; have h2 := hw.tx; have h3 := hw.rx
      intro e he
      simp [go_sem, *] at he
      subst he
      exact hS.tx
    walk_nrm
    refine W.valE (EvR C i) (.chan (some rp)) rfl rfl (by k_ne) (fun w hw => ⟨?_, ?_⟩) dr_of ?_
    · have h1 := hw.bx; have h2 := hw.tx; have h3 := hw.rx
      go_simp
    · have h1 := hw.bx; have h2 := hw.tx; have h3 := hw.rx
      intro e he
      simp [go_sem, *] at he
      subst he
      exact hS.rx
    walk_nrm
    exact fin
  · skip
    refine W.valE (EvR C i) (.pointer (some ⟨c, 0, none⟩)) rfl rfl (by k_ne) (fun w hw => ⟨?_, ?_⟩) dr_of ?_
    · have h1 := hw.bx; have h2 := hw.tx; have h3 := hw.rx
      go_simp
    · have h1 := hw.bx; have h2 := hw.tx; have h3 := hw.rx
      intro e he
      simp [go_sem, *] at he
      subst he
      exact hS.bx
    walk_nrm
    refine W.val rfl rfl (by k_ne) (fun _ => by simp [go_sem, *]) (fun K hy => ?_); go_simp; refine hy _ ?_; clear hy K; walk_nrm
    refine W.val rfl rfl (by k_ne) (fun _ => by simp [go_sem, *]) (fun K hy => ?_); go_simp; refine hy _ ?_; clear hy K; walk_nrm
    refine W.valE (EvR C i) (.chan (some rp)) rfl rfl (by k_ne) (fun w hw => ⟨?_, ?_⟩) dr_of ?_
    · have h1 := hw.bx; have h2 := hw.tx; have h3 := hw.rx
      go_simp
    · have h1 := hw.bx; have h2 := hw.tx; have h3 := hw.rx
      intro e he
      simp [go_sem, *] at he
      subst he
      exact hS.rx
    walk_nrm
    refine W.valE (EvR C i) (.chan (some x)) rfl rfl (by k_ne) (fun w hw => ⟨?_, ?_⟩) dr_of ?_
    · have h1 := hw.bx; have h2 := hw.tx; have h3 := hw.rx
      go_simp
    · have h1 := hw.bx; have h2 := hw.tx; have h3 := hw.rx
      intro e he
      simp [go_sem, *] at he
      subst he
      exact hS.tx
    walk_nrm
    exact fin
set_option maxRecDepth 100000 in
set_option maxHeartbeats 4000000 in
theorem seatTask (hS : KS C i c bc bt) {s : Int} {g : Goroutine} {w : World} (h : HomeR c bc bt x rp s g w) (v : Int) : ∃ n, Goes Try.prog false (RB C c 5 i) (DR C i) (AtTell c bc bt x rp (IntKind.i64.wrap (s + v)) (v == 0)) n (Go.Conc.served g (.tuple #[.int .i64 v, .bool true])) w := by
  have W := wkK (x := x) (rp := rp) hS
  obtain ⟨hw, F, v2, v3, v5, v7, v8, v9, v10, v11, v12, v13, v14, v15, v16, v17, v18, rfl⟩ := h
  rw [served_at]
  refine Wk.here hw ?_
  clear hw w
  simp only [ops71r, todo71r, body71, Try.f71, Option.getD_some]
  walk_nrm
  refine W.val rfl rfl (by k_ne) (fun _ => by simp [go_sem, *]) (fun K hy => ?_); go_simp; (try w_num); refine hy _ ?_; clear hy K; walk_nrm
  refine W.ctl rfl (fun _ => stepG_region_end) ?_
  refine W.ctl rfl (fun _ => stepG_seq) ?_
  refine W.ctl rfl (fun _ => stepG_cond (t := true) rfl) ?_; simp only [if_true, if_false, Bool.false_eq_true, ↓reduceIte]
  refine W.ctl rfl (fun _ => stepG_skip) ?_
  refine W.ctl rfl (fun _ => stepG_block) ?_
  refine W.ctl rfl (fun _ => stepG_seq) ?_
  refine W.ctl rfl (fun _ => stepG_region) ?_; simp only [List.size_toArray, List.length_cons, List.length_nil, Nat.reduceAdd, Nat.zero_add, List.range, List.range.loop]
  refine W.val rfl rfl (by k_ne) (fun _ => by simp [go_sem, *]) (fun K hy => ?_); go_simp; (try w_num); refine hy _ ?_; clear hy K; walk_nrm
  refine W.val rfl rfl (by k_ne) (fun _ => by simp [go_sem, *]) (fun K hy => ?_); go_simp; (try w_num); refine hy _ ?_; clear hy K; walk_nrm
  refine W.ctl rfl (fun _ => stepG_region_end) ?_
  refine W.ctl rfl (fun _ => stepG_seq) ?_
  refine W.ctl rfl (fun _ => stepG_region) ?_; simp only [List.size_toArray, List.length_cons, List.length_nil, Nat.reduceAdd, Nat.zero_add, List.range, List.range.loop]
  refine W.val rfl rfl (by k_ne) (fun _ => by simp [go_sem, *]) (fun K hy => ?_); go_simp; (try w_num); refine hy _ ?_; clear hy K; walk_nrm
  refine W.val rfl rfl (by k_ne) (fun _ => by simp [go_sem, *]) (fun K hy => ?_); go_simp; (try w_num); refine hy _ ?_; clear hy K; walk_nrm
  refine W.val rfl rfl (by k_ne) (fun _ => by simp [go_sem, *]) (fun K hy => ?_); go_simp; (try w_num); refine hy _ ?_; clear hy K; walk_nrm
  refine W.val rfl rfl (by k_ne) (fun _ => by simp [go_sem, *]) (fun K hy => ?_); go_simp; (try w_num); refine hy _ ?_; clear hy K; walk_nrm
  refine W.ctl rfl (fun _ => stepG_region_end) ?_
  refine W.ctl rfl (fun _ => stepG_region) ?_; simp only [List.size_toArray, List.length_cons, List.length_nil, Nat.reduceAdd, Nat.zero_add, List.range, List.range.loop]
  refine W.val rfl rfl (by k_ne) (fun _ => by simp [go_sem, *]) (fun K hy => ?_); go_simp; (try w_num); refine hy _ ?_; clear hy K; walk_nrm
  refine W.val rfl rfl (by k_ne) (fun _ => by simp [go_sem, *]) (fun K hy => ?_); go_simp; (try w_num); refine hy _ ?_; clear hy K; walk_nrm
  refine W.val rfl rfl (by k_ne) (fun _ => by simp [go_sem, *]) (fun K hy => ?_); go_simp; (try w_num); refine hy _ ?_; clear hy K; walk_nrm
  refine W.val rfl rfl (by k_ne) (fun _ => by simp [go_sem, *]) (fun K hy => ?_); go_simp; (try w_num); refine hy _ ?_; clear hy K; walk_nrm
  refine W.val rfl rfl (by k_ne) (fun _ => by simp [go_sem, *]) (fun K hy => ?_); go_simp; (try w_num); refine hy _ ?_; clear hy K; walk_nrm
  refine W.val rfl rfl (by k_ne) (fun _ => by simp [go_sem, *]) (fun K hy => ?_); go_simp; (try w_num); refine hy _ ?_; clear hy K; walk_nrm
  refine W.stop fun w hw => ⟨_, port_of rfl rfl (by k_ne) (fun w => ?_) (fun w => ?_), hw, ?_⟩
  · go_simp
    exact ⟨rfl, rfl⟩
  · simp [go_sem, *]
  · exact ⟨_, _, _, _, _, _, _, _, _, _, _, _, _, _, rfl⟩
set_option maxRecDepth 100000 in
set_option maxHeartbeats 4000000 in
theorem seatTold (hS : KS C i c bc bt) {s : Int} {f : Bool} {g : Goroutine} {w : World} (h : HomeS c bc bt x rp s f g w) : ∃ n, Goes Try.prog false (RB C c 5 i) (DR C i) (AtTask c bc bt x rp s) n (Go.Conc.served g undef) w := by
  have W := wkK (x := x) (rp := rp) hS
  obtain ⟨hw, F, v2, v3, v5, v7, v8, v9, v10, v11, v12, v14, v15, v16, v17, rfl⟩ := h
  rw [served_at]
  refine Wk.here hw ?_
  clear hw w
  simp only [ops71s, todo71s, body71, Try.f71, Option.getD_some]
  walk_nrm
  refine W.ctl rfl (fun _ => stepG_region_end) ?_
  refine W.ctl rfl (fun _ => stepG_inBlock) ?_
  refine W.ctl rfl (fun _ => stepG_inLoop) ?_
  refine W.ctl rfl (fun _ => stepG_seq) ?_
  refine W.ctl rfl (fun _ => stepG_region) ?_; simp only [List.size_toArray, List.length_cons, List.length_nil, Nat.reduceAdd, Nat.zero_add, List.range, List.range.loop]
  refine W.stop fun w hw => ⟨_, port_of rfl rfl (by k_ne) (fun w => ?_) (fun w => ?_), hw, ?_⟩
  · go_simp
    exact ⟨rfl, rfl⟩
  · simp [go_sem, *]
  · exact ⟨_, _, _, _, _, _, _, _, _, _, _, _, _, _, _, _, rfl⟩
theorem quitsTail (F : Array Value) : QuitsD Try.prog 2 0 (G { (baseD 69).at ⟨F, []⟩ [] with mode := .returning } [bot]) := by
  refine QuitsD.ctl (g' := G bot []) rfl (fun w => ?_) ?_
  · simp [G, stepG, unwind, doReturn, results, Frame.at, baseD, bot, Try.func69, Try.f69, seen, GStep.after, goexitEntry]
  refine QuitsD.ctl (g' := { G bot [] with status := .finished }) rfl (fun w => ?_) ⟨rfl, rfl⟩
  simp [G, stepG, unwind, bot, goexitEntry, Frame.catches]
  rfl
set_option maxRecDepth 100000 in
set_option maxHeartbeats 4000000 in
theorem seatShut (hS : KS C i c bc bt) {s : Int} {g : Goroutine} {w : World} (h : HomeR c bc bt x rp s g w) : ∃ n, Goes Try.prog false (RB C c 5 i) (DR C i) (AtR0 Try.prog C c 5 i) n (Go.Conc.served g (recvd true (.int .i64 0) false)) w := by
  have W := wkK (x := x) (rp := rp) hS
  obtain ⟨hw, F, v2, v3, v5, v7, v8, v9, v10, v11, v12, v13, v14, v15, v16, v17, v18, rfl⟩ := h
  rw [served_at]
  refine Wk.here hw ?_
  clear hw w
  simp only [recvd, if_true, ops71r, todo71r, body71, Try.f71, Option.getD_some]
  walk_nrm
  refine W.val rfl rfl (by k_ne) (fun _ => by simp [go_sem, *]) (fun K hy => ?_); go_simp; (try w_num); refine hy _ ?_; clear hy K; walk_nrm
  refine W.ctl rfl (fun _ => stepG_region_end) ?_
  refine W.ctl rfl (fun _ => stepG_seq) ?_
  refine W.ctl rfl (fun _ => stepG_cond (t := false) rfl) ?_; simp only [if_true, if_false, Bool.false_eq_true, ↓reduceIte]
  refine W.ctl rfl (fun _ => stepG_exit rfl) ?_
  refine W.ctl rfl (fun _ => stepG_end) ?_
  refine W.ctl rfl (fun _ => st_leave0 rfl rfl Try.func71 rfl) ?_; simp only [ops69, body69, Try.f69, Option.getD_some]
  refine W.ctl rfl (fun _ => stepG_region_end) ?_
  refine W.ctl rfl (fun _ => stepG_end) ?_
  refine W.ctl rfl (fun _ => stepG_unwind_enter rfl Try.wgLib.f_done (nm_done Try.link) rfl) ?_
  have hD := doneWalk Try.wgLib hS.on (b := c) (o := 5) (i := i) (c := { (baseD 69).at ⟨F.setIfInBounds 10 (.tuple #[]), []⟩ [] with mode := .returning }) (cs := [bot]) rfl (quitsTail _)
  exact hD.imp fun n h w hw => h w hw.live
end
end Go.Town.Kp
namespace Go.Town.Kp
open Go Go.Conc Go.Conc.Lib Go.ConcR.Gen Go.RowKit Go.Town Go.Proofs
structure At where
  c : Nat
  ta : Nat
  sa : Nat
  st : Nat
  m : Nat
  rp : Nat
  n : Nat
structure At.Ok (A : At) : Prop where
  d1 : A.c ≠ A.ta
  d2 : A.c ≠ A.sa
  d3 : A.c ≠ A.st
  d4 : A.ta ≠ A.sa
  d5 : A.ta ≠ A.st
  d6 : A.sa ≠ A.st
  le : A.n ≤ 1048576
structure Mem (A : At) (slot : Nat → Option Nat) (sum starts : Nat → Int) (w : World) : Prop where
  c0 : w.cell? ⟨A.c, 0, none⟩ = some (.slice (some ⟨A.ta, 0, none⟩) A.n A.n)
  c1 : w.cell? ⟨A.c, 1, none⟩ = some (.map (some A.m))
  c2 : w.cell? ⟨A.c, 2, none⟩ = some (.chan (some A.rp))
  c3 : w.cell? ⟨A.c, 3, none⟩ = some (.slice (some ⟨A.sa, 0, none⟩) A.n A.n)
  c4 : w.cell? ⟨A.c, 4, none⟩ = some (.slice (some ⟨A.st, 0, none⟩) A.n A.n)
  tasks : ∀ i, i < A.n → w.cell? ⟨A.ta, i, none⟩ = some (.chan (slot i)) ∧ w.frozen? ⟨A.ta, i, none⟩ = false
  sums : ∀ i, i < A.n → w.cell? ⟨A.sa, i, none⟩ = some (.int .i64 (sum i)) ∧ w.frozen? ⟨A.sa, i, none⟩ = false
  begun : ∀ i, i < A.n → w.cell? ⟨A.st, i, none⟩ = some (.int .i64 (starts i)) ∧ w.frozen? ⟨A.st, i, none⟩ = false
structure Has (A : At) (slot : Nat → Option Nat) (w : World) (es : Array MapEntry) (clock : Nat) : Prop where
  heap : w.heap[A.m]? = some (.map es clock)
  keys : ∀ e ∈ es.toList, ∃ x i, e.key = .chan (some x) ∧ e.val = .int .i64 (i : Nat) ∧ i < A.n ∧ slot i = some x
  ofs : ∀ i x, i < A.n → slot i = some x → ∃ e ∈ es.toList, e.key = .chan (some x)
  nd : es.toList.Pairwise fun a b => a.key ≠ b.key
structure Chans (A : At) (slot : Nat → Option Nat) (w : World) : Prop where
  inj : ∀ i j x, i < A.n → j < A.n → slot i = some x → slot j = some x → i = j
  rp : ∃ k, w.heap[A.rp]? = some (.chan 0 #[] false k k false)
  xs : ∀ i x, i < A.n → slot i = some x → x ≠ A.rp ∧ ∃ k, w.heap[x]? = some (.chan 0 #[] false k k false)
section
variable {A : At} {slot : Nat → Option Nat} {sum starts : Nat → Int} {w w' : World} {es : Array MapEntry} {clock : Nat}
theorem Mem.kept (h : Mem A slot sum starts w) (hk : ∀ x j v, (x = A.c ∨ x = A.ta ∨ x = A.sa ∨ x = A.st) → w.cell? ⟨x, j, none⟩ = some v → w'.cell? ⟨x, j, none⟩ = some v)
    (hf : ∀ x j v, (x = A.ta ∨ x = A.sa ∨ x = A.st) → w.cell? ⟨x, j, none⟩ = some v → w.frozen? ⟨x, j, none⟩ = false → w'.frozen? ⟨x, j, none⟩ = false) : Mem A slot sum starts w' :=
  ⟨hk _ _ _ (.inl rfl) h.c0, hk _ _ _ (.inl rfl) h.c1, hk _ _ _ (.inl rfl) h.c2, hk _ _ _ (.inl rfl) h.c3, hk _ _ _ (.inl rfl) h.c4,
    fun i hi => ⟨hk _ _ _ (.inr (.inl rfl)) (h.tasks i hi).1, hf _ _ _ (.inl rfl) (h.tasks i hi).1 (h.tasks i hi).2⟩,
    fun i hi => ⟨hk _ _ _ (.inr (.inr (.inl rfl))) (h.sums i hi).1, hf _ _ _ (.inr (.inl rfl)) (h.sums i hi).1 (h.sums i hi).2⟩,
    fun i hi => ⟨hk _ _ _ (.inr (.inr (.inr rfl))) (h.begun i hi).1, hf _ _ _ (.inr (.inr rfl)) (h.begun i hi).1 (h.begun i hi).2⟩⟩
theorem cell_alloc {o : Obj} {a : Addr} {v : Value} (h : w.cell? a = some v) : (w.alloc o).cell? a = some v := by
  obtain ⟨c, e, f, hb, hv⟩ := block_of_cell h
  have hlt := (Array.getElem?_eq_some_iff.1 hb).1
  have hs := spot_of_cell h
  have : (w.alloc o).heap[a.block]? = w.heap[a.block]? := by simp only [World.alloc]; rw [Array.getElem?_push_lt hlt, Array.getElem?_eq_getElem hlt]
  unfold World.cell? at h ⊢
  rw [this]; exact h
theorem frozen_alloc {o : Obj} {a : Addr} {v : Value} (h : w.cell? a = some v) : (w.alloc o).frozen? a = w.frozen? a := by
  obtain ⟨c, e, f, hb, hv⟩ := block_of_cell h
  have hlt := (Array.getElem?_eq_some_iff.1 hb).1
  have : (w.alloc o).heap[a.block]? = w.heap[a.block]? := by simp only [World.alloc]; rw [Array.getElem?_push_lt hlt, Array.getElem?_eq_getElem hlt]
  unfold World.frozen?
  rw [this]
theorem heap_alloc_lt {o ob : Obj} {x : Nat} (h : w.heap[x]? = some ob) : (w.alloc o).heap[x]? = some ob := by
  have hlt := (Array.getElem?_eq_some_iff.1 h).1
  simp only [World.alloc]; rw [Array.getElem?_push_lt hlt, ← Array.getElem?_eq_getElem hlt]; exact h
theorem Mem.alloc (h : Mem A slot sum starts w) (o : Obj) : Mem A slot sum starts (w.alloc o) := h.kept (fun _ _ _ _ hv => cell_alloc hv) (fun _ _ _ _ hv hf => (frozen_alloc hv).trans hf)
theorem Mem.re (h : Mem A slot sum starts w) (T : Nat → Question → Nat) (d : Nat) : Mem A slot sum starts (w.re T d) := h.kept (fun _ _ _ _ hv => hv) (fun _ _ _ _ _ hf => hf)
theorem Mem.other (h : Mem A slot sum starts w) {x j : Nat} (v : Value) (hx : x ≠ A.c ∧ x ≠ A.ta ∧ x ≠ A.sa ∧ x ≠ A.st) : Mem A slot sum starts (w.setCell ⟨x, j, none⟩ v) :=
  h.kept (fun y k u hy hu => (cell_setCell_ne w v (.inl (by rintro rfl; rcases hy with rfl | rfl | rfl | rfl <;> simp at hx))).trans hu) (fun y k u _ _ hf => (frozen_setCell w _ _ v).trans hf)
theorem Mem.setTask (h : Mem A slot sum starts w) (hA : A.Ok) {i : Nat} (hi : i < A.n) (x : Option Nat) : Mem A (Go.ConcN.upd slot i x) sum starts (w.setCell ⟨A.ta, i, none⟩ (.chan x)) := by
  have hne : ∀ y j, y ≠ A.ta → (w.setCell ⟨A.ta, i, none⟩ (.chan x)).cell? ⟨y, j, none⟩ = w.cell? ⟨y, j, none⟩ := fun y j hy => cell_setCell_ne w _ (.inl (Ne.symm hy))
  refine ⟨(hne _ _ hA.d1).trans h.c0, (hne _ _ hA.d1).trans h.c1, (hne _ _ hA.d1).trans h.c2, (hne _ _ hA.d1).trans h.c3, (hne _ _ hA.d1).trans h.c4, fun j hj => ⟨?_, (frozen_setCell w _ _ _).trans (h.tasks j hj).2⟩,
    fun j hj => ⟨(hne _ _ (Ne.symm hA.d4)).trans (h.sums j hj).1, (frozen_setCell w _ _ _).trans (h.sums j hj).2⟩, fun j hj => ⟨(hne _ _ (Ne.symm hA.d5)).trans (h.begun j hj).1, (frozen_setCell w _ _ _).trans (h.begun j hj).2⟩⟩
  by_cases e : j = i
  · subst e; rw [Go.ConcN.upd_same]; exact cell_setCell_eq _ (h.tasks j hj).1
  · rw [Go.ConcN.upd_ne _ _ e]; exact (cell_setCell_ne w _ (.inr (Ne.symm e))).trans (h.tasks j hj).1
theorem Mem.setSum (h : Mem A slot sum starts w) (hA : A.Ok) {i : Nat} (hi : i < A.n) (s : Int) : Mem A slot (Go.ConcN.upd sum i s) starts (w.setCell ⟨A.sa, i, none⟩ (.int .i64 s)) := by
  have hne : ∀ y j, y ≠ A.sa → (w.setCell ⟨A.sa, i, none⟩ (.int .i64 s)).cell? ⟨y, j, none⟩ = w.cell? ⟨y, j, none⟩ := fun y j hy => cell_setCell_ne w _ (.inl (Ne.symm hy))
  refine ⟨(hne _ _ hA.d2).trans h.c0, (hne _ _ hA.d2).trans h.c1, (hne _ _ hA.d2).trans h.c2, (hne _ _ hA.d2).trans h.c3, (hne _ _ hA.d2).trans h.c4, fun j hj => ⟨(hne _ _ hA.d4).trans (h.tasks j hj).1, (frozen_setCell w _ _ _).trans (h.tasks j hj).2⟩,
    fun j hj => ⟨?_, (frozen_setCell w _ _ _).trans (h.sums j hj).2⟩, fun j hj => ⟨(hne _ _ (Ne.symm hA.d6)).trans (h.begun j hj).1, (frozen_setCell w _ _ _).trans (h.begun j hj).2⟩⟩
  by_cases e : j = i
  · subst e; rw [Go.ConcN.upd_same]; exact cell_setCell_eq _ (h.sums j hj).1
  · rw [Go.ConcN.upd_ne _ _ e]; exact (cell_setCell_ne w _ (.inr (Ne.symm e))).trans (h.sums j hj).1
theorem Mem.setBegun (h : Mem A slot sum starts w) (hA : A.Ok) {i : Nat} (hi : i < A.n) (s : Int) : Mem A slot sum (Go.ConcN.upd starts i s) (w.setCell ⟨A.st, i, none⟩ (.int .i64 s)) := by
  have hne : ∀ y j, y ≠ A.st → (w.setCell ⟨A.st, i, none⟩ (.int .i64 s)).cell? ⟨y, j, none⟩ = w.cell? ⟨y, j, none⟩ := fun y j hy => cell_setCell_ne w _ (.inl (Ne.symm hy))
  refine ⟨(hne _ _ hA.d3).trans h.c0, (hne _ _ hA.d3).trans h.c1, (hne _ _ hA.d3).trans h.c2, (hne _ _ hA.d3).trans h.c3, (hne _ _ hA.d3).trans h.c4, fun j hj => ⟨(hne _ _ hA.d5).trans (h.tasks j hj).1, (frozen_setCell w _ _ _).trans (h.tasks j hj).2⟩,
    fun j hj => ⟨(hne _ _ hA.d6).trans (h.sums j hj).1, (frozen_setCell w _ _ _).trans (h.sums j hj).2⟩, fun j hj => ⟨?_, (frozen_setCell w _ _ _).trans (h.begun j hj).2⟩⟩
  by_cases e : j = i
  · subst e; rw [Go.ConcN.upd_same]; exact cell_setCell_eq _ (h.begun j hj).1
  · rw [Go.ConcN.upd_ne _ _ e]; exact (cell_setCell_ne w _ (.inr (Ne.symm e))).trans (h.begun j hj).1
theorem cell_setObj {r : Nat} {ob ob' : Obj} (hb : w.heap[r]? = some ob) (hc : isCells ob = false) (hc' : isCells ob' = false) (a : Addr) :
    ({ w with heap := w.heap.setIfInBounds r ob' } : World).cell? a = w.cell? a ∧ ({ w with heap := w.heap.setIfInBounds r ob' } : World).frozen? a = w.frozen? a := by
  have hlt := (Array.getElem?_eq_some_iff.1 hb).1
  unfold World.cell? World.frozen?
  simp only [Array.getElem?_setIfInBounds]
  by_cases e : r = a.block
  · subst e
    rw [if_pos rfl, if_pos hlt, hb]
    cases ob <;> first | (cases hc; done) | (cases ob' <;> first | (cases hc'; done) | exact ⟨rfl, rfl⟩)
  · simp only [e, if_false]; exact ⟨trivial, trivial⟩
theorem Mem.obj (h : Mem A slot sum starts w) {r : Nat} {ob ob' : Obj} (hb : w.heap[r]? = some ob) (hc : isCells ob = false) (hc' : isCells ob' = false) : Mem A slot sum starts { w with heap := w.heap.setIfInBounds r ob' } :=
  h.kept (fun _ _ _ _ hv => (cell_setObj hb hc hc' _).1.trans hv) (fun _ _ _ _ _ hf => (cell_setObj hb hc hc' _).2.trans hf)
theorem Has.other (h : Has A slot w es clock) (hk : w'.heap[A.m]? = w.heap[A.m]?) : Has A slot w' es clock := ⟨hk.trans h.heap, h.keys, h.ofs, h.nd⟩
theorem Has.chanKeys (h : Has A slot w es clock) : ChanKeys es := fun e he => let ⟨x, _, hx, _⟩ := h.keys e he; ⟨x, hx⟩
theorem keyIs_iff {x : Nat} {e : MapEntry} : keyIs x e = true ↔ e.key = .chan (some x) := by
  unfold keyIs
  split
  · rename_i y hy; rw [hy]; simp; exact eq_comm
  · rename_i hno; exact ⟨fun h => (by cases h), fun h => absurd h (hno x)⟩
theorem Has.find (h : Has A slot w es clock) (hin : ∀ i j x, i < A.n → j < A.n → slot i = some x → slot j = some x → i = j) {i x : Nat} (hi : i < A.n) (hx : slot i = some x) : ∃ j, es.toList.findIdx? (keyIs x) = some j ∧ ((es.toList[j]?).map (·.val)).getD undef = .int .i64 (i : Nat) := by
  obtain ⟨e, he, hk⟩ := h.ofs i x hi hx
  cases hf : es.toList.findIdx? (keyIs x) with
  | none =>
    have := List.findIdx?_eq_none_iff.1 hf e he
    rw [keyIs_iff.2 hk] at this; cases this
  | some j =>
    refine ⟨j, rfl, ?_⟩
    obtain ⟨hlt, hj, _⟩ := List.findIdx?_eq_some_iff_getElem.1 hf
    obtain ⟨y, i', hy, hv, hi', hs⟩ := h.keys _ (List.getElem_mem hlt)
    rw [keyIs_iff.1 hj] at hy
    cases hy
    rw [List.getElem?_eq_getElem hlt]
    simp only [Option.map_some, Option.getD_some, hv, hin i' i x hi' hi hs hx]
theorem Has.fresh (h : Has A slot w es clock) {x : Nat} (hx : ∀ i, i < A.n → slot i ≠ some x) : es.toList.findIdx? (keyIs x) = none := by
  rw [List.findIdx?_eq_none_iff]
  intro e he
  obtain ⟨y, i, hy, _, hi, hs⟩ := h.keys e he
  cases hk : keyIs x e with
  | false => rfl
  | true =>
    rw [keyIs_iff.1 hk] at hy
    cases hy
    exact absurd hs (hx i hi)
theorem Has.add (h : Has A slot w es clock) {i x : Nat} (hi : i < A.n) (hnone : slot i = none) (hx : ∀ i, i < A.n → slot i ≠ some x) :
    Has A (Go.ConcN.upd slot i (some x)) { w with heap := w.heap.setIfInBounds A.m (.map (es.push { key := .chan (some x), val := .int .i64 (i : Nat), born := clock }) (clock + 1)) } (es.push { key := .chan (some x), val := .int .i64 (i : Nat), born := clock }) (clock + 1) := by
  have hlt := (Array.getElem?_eq_some_iff.1 h.heap).1
  refine ⟨by simp [hlt], fun e he => ?_, fun j y hj hy => ?_, ?_⟩
  · simp only [Array.toList_push, List.mem_append, List.mem_singleton] at he
    rcases he with he | rfl
    · obtain ⟨y, j, h1, h2, h3, h4⟩ := h.keys e he
      refine ⟨y, j, h1, h2, h3, ?_⟩
      rw [Go.ConcN.upd_ne _ _ (by rintro rfl; rw [hnone] at h4; cases h4)]; exact h4
    · exact ⟨x, i, rfl, rfl, hi, Go.ConcN.upd_same _ _ _⟩
  · simp only [Array.toList_push, List.mem_append, List.mem_singleton]
    by_cases e : j = i
    · subst e
      rw [Go.ConcN.upd_same] at hy
      cases hy
      exact ⟨_, .inr rfl, rfl⟩
    · rw [Go.ConcN.upd_ne _ _ e] at hy
      obtain ⟨e', he', hk⟩ := h.ofs j y hj hy
      exact ⟨e', .inl he', hk⟩
  · simp only [Array.toList_push, List.pairwise_append, List.pairwise_singleton, List.mem_singleton, true_and]
    refine ⟨h.nd, ?_⟩
    rintro a ha b rfl
    obtain ⟨y, j, h1, _, h3, h4⟩ := h.keys a ha
    rw [h1]
    intro hc
    cases hc
    exact hx j h3 h4
theorem Has.del (h : Has A slot w es clock) {i x j : Nat} (hi : i < A.n) (hx : slot i = some x) (hin : ∀ i j x, i < A.n → j < A.n → slot i = some x → slot j = some x → i = j) (hj : es.toList.findIdx? (keyIs x) = some j) :
    Has A (Go.ConcN.upd slot i none) { w with heap := w.heap.setIfInBounds A.m (.map (es.eraseIdxIfInBounds j) clock) } (es.eraseIdxIfInBounds j) clock := by
  have hlt := (Array.getElem?_eq_some_iff.1 h.heap).1
  obtain ⟨hjl, hje, _⟩ := List.findIdx?_eq_some_iff_getElem.1 hj
  have hjl' : j < es.size := by simpa using hjl
  have ht : (es.eraseIdxIfInBounds j).toList = es.toList.eraseIdx j := by
    unfold Array.eraseIdxIfInBounds
    rw [dif_pos hjl', Array.toList_eraseIdx]
  have hsub : (es.toList.eraseIdx j).Sublist es.toList := List.eraseIdx_sublist ..
  have hkey : (es.toList[j]).key = .chan (some x) := keyIs_iff.1 hje
  have hno : ∀ e ∈ es.toList.eraseIdx j, e.key ≠ .chan (some x) := by
    intro e he hk
    obtain ⟨l, hl, rfl⟩ := List.getElem_of_mem he
    rw [List.getElem_eraseIdx] at hk
    have hnd := List.pairwise_iff_getElem.1 h.nd
    have hl' : l < es.toList.length - 1 := by rw [List.length_eraseIdx_of_lt hjl] at hl; exact hl
    split at hk
    · rename_i hlj
      exact hnd l j (by omega) hjl hlj (hk.trans hkey.symm)
    · rename_i hlj
      exact hnd j (l + 1) hjl (by omega) (by omega) (hkey.trans hk.symm)
  refine ⟨by simp [hlt], fun e he => ?_, fun l y hl hy => ?_, ?_⟩
  · rw [ht] at he
    obtain ⟨y, l, h1, h2, h3, h4⟩ := h.keys e (hsub.subset he)
    refine ⟨y, l, h1, h2, h3, ?_⟩
    rw [Go.ConcN.upd_ne _ _ (by
      rintro rfl
      rw [hx] at h4
      cases h4
      exact hno e he h1)]
    exact h4
  · rw [ht]
    by_cases e : l = i
    · subst e; rw [Go.ConcN.upd_same] at hy; cases hy
    · rw [Go.ConcN.upd_ne _ _ e] at hy
      obtain ⟨e', he', hk⟩ := h.ofs l y hl hy
      refine ⟨e', ?_, hk⟩
      obtain ⟨p, hp, rfl⟩ := List.getElem_of_mem he'
      have hpj : p ≠ j := by
        rintro rfl
        rw [hkey] at hk
        cases hk
        exact e (hin l i x hl hi hy hx)
      rw [List.mem_iff_getElem]
      by_cases hlt' : p < j
      · exact ⟨p, by rw [List.length_eraseIdx_of_lt hjl]; omega, by rw [List.getElem_eraseIdx, dif_pos hlt']⟩
      · refine ⟨p - 1, by rw [List.length_eraseIdx_of_lt hjl]; omega, ?_⟩
        rw [List.getElem_eraseIdx, dif_neg (by omega)]
        congr 1; omega
  · rw [ht]; exact h.nd.sublist hsub
end
end Go.Town.Kp
