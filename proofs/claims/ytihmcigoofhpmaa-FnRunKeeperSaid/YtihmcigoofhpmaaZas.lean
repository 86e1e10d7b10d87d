/-
  Wait: from its first step to the loop's head; from the loop's head.
-/
import Derived.Conc.WgGenWait
import Derived.Test.YtihmcigoofhpmaaZap
set_option linter.all false
namespace Go.Town
open Go Go.Conc Go.Conc.Lib Go.ConcR.Gen Go.RowKit
def AnchW (L : WgLink) (b o : Nat) (c : Frame) (cs : List Frame) (g : Goroutine) (w : World) : Prop :=
  ∃ T : Array Value, g = G ((base L.wait).at ⟨T, []⟩ [.code (L7 L), .inLoop (L7 L), .inBlock 0]) (c :: cs) ∧ T.size = 84 ∧ T[0]? = some (.pointer (some ⟨b, o, none⟩)) ∧ Live b o w
def FinW (P : Program) (C : Cfg) (g₀ : Goroutine) (g : Goroutine) (w : World) : Prop := ∃ m, Goes P true (Out (hidOf C)) D0 (fun g _ => g = g₀) m g w
theorem anchW_running {L : WgLink} {b o : Nat} {c : Frame} {cs : List Frame} (g : Goroutine) (w : World) (h : AnchW L b o c cs g w) : g.status = .running := by obtain ⟨_, rfl, _⟩ := h; rfl
section
variable {L : WgLink} {P : Program} (H : WgLib P L) {C : Cfg} (hon : C.on) (b o : Nat) {b₀ : Frame} {a₀ : Act} {ops₀ : Array Oper} {i₀ : Nat} {rest₀ : List Nat} {k₀ : List Item} {cs : List Frame}
include H hon
set_option maxRecDepth 100000 in
set_option maxHeartbeats 8000000 in
theorem waitStart : ∃ n, ∀ w, Live b o w → Goes P true (RB C b o 0) (DW b o) (AtKd P C b o (AnchW L b o (b₀.at a₀ (.inRegion ops₀ (i₀ :: rest₀) :: k₀)) cs)) n
      (G ((base L.wait).at ⟨#[.pointer (some ⟨b, o, none⟩)] ++ Array.replicate 83 undef, []⟩ [.code ((waitFn L).body.getD .skip)]) (b₀.at a₀ (.inRegion ops₀ (i₀ :: rest₀) :: k₀) :: cs)) w := by
  lib_facts
  have W := wkW hon b o
  simp only [waitFn, Option.getD_some]
  walk_nrm
  refine W.ctl rfl (fun _ => stepG_seq) ?_
  refine W.ctl rfl (fun _ => stepG_cond (t := true) rfl) ?_; simp only [if_true, if_false, Bool.false_eq_true, ↓reduceIte]
  refine W.ctl rfl (fun _ => stepG_region) ?_; simp only [List.size_toArray, List.length_cons, List.length_nil, Nat.reduceAdd, Nat.zero_add, List.range, List.range.loop]
  refine W.stop fun w hL => ⟨rfl, _, stepG_mark0 .disable (by simp) rfl rfl (by k_ne) rfl H.f_disable (x_disable_n L) (x_disable_b L) (x_disable_x L) (x_disable_f L), Wk.here hL ?_⟩
  clear hL w
  walk_nrm
  refine W.ctl rfl (fun _ => stepG_region_end) ?_
  refine W.ctl rfl (fun _ => stepG_block) ?_
  refine W.ctl rfl (fun _ => stepG_loop) ?_
  exact W.stop fun w hL => ⟨_, by simp only [L7, body_wait, waitFn, Option.getD_some]; rfl, by rfl, by rfl, hL⟩
set_option maxRecDepth 100000 in
set_option maxHeartbeats 16000000 in
theorem waitRound (g : Goroutine) (w : World) (h : AnchW L b o (b₀.at a₀ (.inRegion ops₀ (i₀ :: rest₀) :: k₀)) cs g w) :
    ∃ m, Goes P true (RB C b o 0) (DW b o) (AtW1 P C b o (AnchW L b o (b₀.at a₀ (.inRegion ops₀ (i₀ :: rest₀) :: k₀)) cs) (FinW P C (G (b₀.at (a₀.put ((ops₀[i₀]?).bind (·.dst)) (.tuple #[])) (.inRegion ops₀ rest₀ :: k₀)) cs))) m g w := by
  lib_facts
  obtain ⟨T, rfl, hT84, t0, hL⟩ := h
  obtain ⟨v0, v1, v2, v3, v4, v5, v6, v7, v8, v9, v10, v11, v12, v13, v14, v15, v16, v17, v18, v19, v20, v21, v22, v23, v24, v25, v26, v27, v28, v29, v30, v31, v32, v33, v34, v35, v36, v37, v38, v39, v40, v41, v42, v43, v44, v45, v46, v47, v48, v49, v50, v51, v52, v53, v54, v55, v56, v57, v58, v59, v60, v61, v62, v63, v64, v65, v66, v67, v68, v69, v70, v71, v72, v73, v74, v75, v76, v77, v78, v79, v80, v81, v82, v83, rfl⟩ := array84 T hT84
  simp only [List.getElem?_toArray, List.getElem?_cons_zero, Option.some.injEq] at t0
  subst t0
  have W := wkW hon b o
  refine Wk.here hL ?_
  clear hL w hT84
  simp only [L7, body_wait, waitFn, Option.getD_some]
  refine W.ctl rfl (fun _ => stepG_block) ?_
  refine W.ctl rfl (fun _ => stepG_seq) ?_
  refine W.ctl rfl (fun _ => stepG_region) ?_; simp only [List.size_toArray, List.length_cons, List.length_nil, Nat.reduceAdd, Nat.zero_add, List.range, List.range.loop]
  refine W.val rfl rfl (by k_ne) (fun _ => by simp [go_sem, *]) (fun K hy => ?_); go_simp; (try w_num); refine hy _ ?_; clear hy K; walk_nrm
  refine W.val rfl rfl (by k_ne) (fun _ => by simp [go_sem, *]) (fun K hy => ?_); go_simp; (try w_num); refine hy _ ?_; clear hy K; walk_nrm
  refine W.val rfl rfl (by k_ne) (fun _ => by simp [go_sem, *]) (fun K hy => ?_); go_simp; (try w_num); refine hy _ ?_; clear hy K; walk_nrm
  refine W.ctl rfl (fun _ => st_call rfl rfl (by k_ne) rfl H.f_uLoad (nm_uLoad L) rfl) ?_; walk_nrmf uLoadFn
  refine W.ctl rfl (fun _ => stepG_seq) ?_
  refine W.ctl rfl (fun _ => stepG_region) ?_; simp only [List.size_toArray, List.length_cons, List.length_nil, Nat.reduceAdd, Nat.zero_add, List.range, List.range.loop]
  refine W.val rfl rfl (by k_ne) (fun _ => by simp [go_sem, *]) (fun K hy => ?_); go_simp; (try w_num); refine hy _ ?_; clear hy K; walk_nrm
  refine W.ctl rfl (fun _ => stepG_region_end) ?_
  refine W.ctl rfl (fun _ => stepG_seq) ?_
  refine W.ctl rfl (fun _ => stepG_region) ?_; simp only [List.size_toArray, List.length_cons, List.length_nil, Nat.reduceAdd, Nat.zero_add, List.range, List.range.loop]
  refine W.val rfl rfl (by k_ne) (fun _ => by simp [go_sem, *]) (fun K hy => ?_); go_simp; (try w_num); refine hy _ ?_; clear hy K; walk_nrm
  refine W.val rfl rfl (by k_ne) (fun _ => by simp [go_sem, *]) (fun K hy => ?_); go_simp; (try w_num); refine hy _ ?_; clear hy K; walk_nrm
  refine W.val rfl rfl (by k_ne) (fun _ => by simp [go_sem, *]) (fun K hy => ?_); go_simp; (try w_num); refine hy _ ?_; clear hy K; walk_nrm
  refine W.stop fun w hL => ⟨rfl, fun v hv hw => ⟨_, stepG_load_atomic rfl rfl (by k_ne) rfl H.f_loadU64 (x_loadU64_n L) (x_loadU64_b L) (x_loadU64_x L) .u64 (x_loadU64_f L) rfl hw.st, fun hv0 => Wk.here hL ?_, fun hv0 => Wk.here hL ?_⟩⟩
  · subst hv0
    clear hw hv hL w
    rw [show (((0 : Nat) : Int) * Go.Town.KK) = 0 from rfl]
    walk_nrm
    refine W.val rfl rfl (by k_ne) (fun _ => by simp [go_sem, *]) (fun K hy => ?_); go_simp; (try w_num); refine hy _ ?_; clear hy K; walk_nrm
    refine W.ctl rfl (fun _ => stepG_region_end) ?_
    refine W.ctl rfl (fun _ => stepG_ret') ?_
    refine W.ctl rfl (fun _ => st_leave1 rfl rfl H.f_uLoad rfl) ?_; walk_nrm
    refine W.val rfl rfl (by k_ne) (fun _ => by simp [go_sem, *]) (fun K hy => ?_); go_simp; (try w_num); refine hy _ ?_; clear hy K; walk_nrm
    refine W.ctl rfl (fun _ => stepG_region_end) ?_
    refine W.ctl rfl (fun _ => stepG_seq) ?_
    refine W.ctl rfl (fun _ => stepG_region) ?_; simp only [List.size_toArray, List.length_cons, List.length_nil, Nat.reduceAdd, Nat.zero_add, List.range, List.range.loop]
    refine W.val rfl rfl (by k_ne) (fun _ => by simp [go_sem, *]) (fun K hy => ?_); go_simp; (try w_num); refine hy _ ?_; clear hy K; walk_nrm
    refine W.val rfl rfl (by k_ne) (fun _ => by simp [go_sem, *]) (fun K hy => ?_); go_simp; (try w_num); refine hy _ ?_; clear hy K; walk_nrm
    refine W.val rfl rfl (by k_ne) (fun _ => by simp [go_sem, *]) (fun K hy => ?_); go_simp; (try w_num); refine hy _ ?_; clear hy K; walk_nrm
    refine W.val rfl rfl (by k_ne) (fun _ => by simp [go_sem, *]) (fun K hy => ?_); go_simp; (try w_num); refine hy _ ?_; clear hy K; walk_nrm
    refine W.ctl rfl (fun _ => stepG_region_end) ?_
    refine W.ctl rfl (fun _ => stepG_seq) ?_
    refine W.ctl rfl (fun _ => stepG_region) ?_; simp only [List.size_toArray, List.length_cons, List.length_nil, Nat.reduceAdd, Nat.zero_add, List.range, List.range.loop]
    refine W.val rfl rfl (by k_ne) (fun _ => by simp [go_sem, *]) (fun K hy => ?_); go_simp; (try w_num); refine hy _ ?_; clear hy K; walk_nrm
    refine W.val rfl rfl (by k_ne) (fun _ => by simp [go_sem, *]) (fun K hy => ?_); go_simp; (try w_num); refine hy _ ?_; clear hy K; walk_nrm
    refine W.val rfl rfl (by k_ne) (fun _ => by simp [go_sem, *]) (fun K hy => ?_); go_simp; (try w_num); refine hy _ ?_; clear hy K; walk_nrm
    refine W.val rfl rfl (by k_ne) (fun _ => by simp [go_sem, *]) (fun K hy => ?_); go_simp; (try w_num); refine hy _ ?_; clear hy K; walk_nrm
    refine W.ctl rfl (fun _ => stepG_region_end) ?_
    refine W.ctl rfl (fun _ => stepG_seq) ?_
    refine W.ctl rfl (fun _ => stepG_seq) ?_
    refine W.ctl rfl (fun _ => stepG_region) ?_; simp only [List.size_toArray, List.length_cons, List.length_nil, Nat.reduceAdd, Nat.zero_add, List.range, List.range.loop]
    refine W.val rfl rfl (by k_ne) (fun _ => by simp [go_sem, *]) (fun K hy => ?_); go_simp; (try w_num); refine hy _ ?_; clear hy K; walk_nrm
    refine W.val rfl rfl (by k_ne) (fun _ => by simp [go_sem, *]) (fun K hy => ?_); go_simp; (try w_num); refine hy _ ?_; clear hy K; walk_nrm
    refine W.ctl rfl (fun _ => stepG_region_end) ?_
    refine W.ctl rfl (fun _ => stepG_cond (t := true) rfl) ?_; simp only [if_true, if_false, Bool.false_eq_true, ↓reduceIte]
    refine W.ctl rfl (fun _ => stepG_seq) ?_
    refine W.ctl rfl (fun _ => stepG_cond (t := true) rfl) ?_; simp only [if_true, if_false, Bool.false_eq_true, ↓reduceIte]
    refine W.ctl rfl (fun _ => stepG_seq) ?_
    refine W.ctl rfl (fun _ => stepG_region) ?_; simp only [List.size_toArray, List.length_cons, List.length_nil, Nat.reduceAdd, Nat.zero_add, List.range, List.range.loop]
    refine W.stop fun w hL => ⟨rfl, _, stepG_mark0 .enable (by simp) rfl rfl (by k_ne) rfl H.f_enable (x_enable_n L) (x_enable_b L) (x_enable_x L) (x_enable_f L), Wk.here hL ?_⟩
    clear hL w
    walk_nrm
    refine W.ctl rfl (fun _ => stepG_region_end) ?_
    refine W.ctl rfl (fun _ => stepG_region) ?_; simp only [List.size_toArray, List.length_cons, List.length_nil, Nat.reduceAdd, Nat.zero_add, List.range, List.range.loop]
    refine W.val rfl rfl (by k_ne) (fun _ => by simp [go_sem, *]) (fun K hy => ?_); go_simp; (try w_num); refine hy _ ?_; clear hy K; walk_nrm
    refine W.valI (.pointer (some ⟨b, o, none⟩)) rfl rfl (by k_ne) (fun w hw => ?_) ?_
    · have hcv := run_convert_to_unsafe (P := P) H.underlying_tWgP H.underlying_tUP H.room_tWg hw.has.1.choose_spec
      have hce := fun es => events_convert_to_unsafe (P := P) H.underlying_tWgP H.underlying_tUP H.room_tWg hw.has.1.choose_spec es
      refine ⟨?_, ?_⟩
      · go_simp
      · simp [go_sem, hce, *]
    walk_nrm
    refine W.stop fun w hL => ⟨rfl, _, stepG_markAt .acquire (by simp) rfl rfl (by k_ne) rfl H.f_acquire (x_acquire_n L) (x_acquire_b L) (x_acquire_x L) (x_acquire_f L) (by simp [Act.eval]), Wk.here (I := fun _ => True) trivial ?_⟩
    clear hL w W
    have W := wkT C
    walk_nrm
    refine W.ctl rfl (fun _ => stepG_region_end) ?_
    refine W.ctl rfl (fun _ => stepG_seq) ?_
    refine W.ctl rfl (fun _ => stepG_seq) ?_
    refine W.ctl rfl (fun _ => stepG_region) ?_; simp only [List.size_toArray, List.length_cons, List.length_nil, Nat.reduceAdd, Nat.zero_add, List.range, List.range.loop]
    refine W.val rfl rfl (by k_ne) (fun _ => by simp [go_sem, *]) (fun K hy => ?_); go_simp; (try w_num); refine hy _ ?_; clear hy K; walk_nrm
    refine W.val rfl rfl (by k_ne) (fun _ => by simp [go_sem, *]) (fun K hy => ?_); go_simp; (try w_num); refine hy _ ?_; clear hy K; walk_nrm
    refine W.val rfl rfl (by k_ne) (fun _ => by simp [go_sem, *]) (fun K hy => ?_); go_simp; (try w_num); refine hy _ ?_; clear hy K; walk_nrm
    refine W.val rfl rfl (by k_ne) (fun _ => by simp [go_sem, *]) (fun K hy => ?_); go_simp; (try w_num); refine hy _ ?_; clear hy K; walk_nrm
    refine W.val rfl rfl (by k_ne) (fun _ => by simp [go_sem, *]) (fun K hy => ?_); go_simp; (try w_num); refine hy _ ?_; clear hy K; walk_nrm
    refine W.val rfl rfl (by k_ne) (fun _ => by simp [go_sem, *]) (fun K hy => ?_); go_simp; (try w_num); refine hy _ ?_; clear hy K; walk_nrm
    refine W.val rfl rfl (by k_ne) (fun _ => by simp [go_sem, *]) (fun K hy => ?_); go_simp; (try w_num); refine hy _ ?_; clear hy K; walk_nrm
    refine W.val rfl rfl (by k_ne) (fun _ => by simp [go_sem, *]) (fun K hy => ?_); go_simp; (try w_num); refine hy _ ?_; clear hy K; walk_nrm
    refine W.ctl rfl (fun _ => stepG_unwanted rfl rfl) ?_; walk_nrm
    refine W.ctl rfl (fun _ => stepG_unwanted rfl rfl) ?_; walk_nrm
    refine W.val rfl rfl (by k_ne) (fun _ => by simp [go_sem, *]) (fun K hy => ?_); go_simp; (try w_num); refine hy _ ?_; clear hy K; walk_nrm
    refine W.ctl rfl (fun _ => stepG_region_end) ?_
    refine W.ctl rfl (fun _ => stepG_cond (t := false) rfl) ?_; simp only [if_true, if_false, Bool.false_eq_true, ↓reduceIte]
    refine W.ctl rfl (fun _ => stepG_skip) ?_
    refine W.ctl rfl (fun _ => stepG_ret') ?_
    refine W.ctl rfl (fun _ => st_leave0 rfl rfl H.f_wait rfl) ?_; walk_nrm
    exact W.stop fun w _ => rfl
  · obtain ⟨S, hS⟩ : ∃ S : Int, S = ((v : Nat) : Int) * 4294967296 := ⟨_, rfl⟩
    have hSK : ((v : Nat) : Int) * Go.Town.KK = S := hS.symm
    have hb1 : bits .and .u64 S 2147483648 = 0 := by have := Go.ConcN.st_flag v 0 (by omega) (by omega); rw [hS]; simpa using this
    have hb2 : bits .and .u64 S 2147483647 = 0 := by have := Go.ConcN.st_waiters v 0 (by omega) (by omega); rw [hS]; simpa using this
    obtain ⟨V, hV⟩ : ∃ V : Int, V = ((v : Nat) : Int) := ⟨_, rfl⟩
    have hb3 : S / 4294967296 = V := by omega
    have hb4 : IntKind.i32.wrap V = V := by rw [IntKind.wrap_i32]; omega
    have hb5 : (V = 0) = False := by simp; omega
    have hb6 : decide (V = 0) = false := by simp; omega
    have hb7 : (V == (0 : Int)) = false := by simp; omega
    have hb8 : IntKind.u64.wrap (S + 1) = S + 1 := by rw [IntKind.wrap_u64]; omega
    rw [hSK]
    have hh : Hid (S = ((v : Nat) : Int) * 4294967296) := ⟨hS⟩
    clear hw hL w hS hSK hV
    walk_nrm
    refine W.val rfl rfl (by k_ne) (fun _ => by simp [go_sem, *]) (fun K hy => ?_); go_simp; (try w_num); refine hy _ ?_; clear hy K; walk_nrm
    refine W.ctl rfl (fun _ => stepG_region_end) ?_
    refine W.ctl rfl (fun _ => stepG_ret') ?_
    refine W.ctl rfl (fun _ => st_leave1 rfl rfl H.f_uLoad rfl) ?_; walk_nrm
    refine W.val rfl rfl (by k_ne) (fun _ => by simp [go_sem, *]) (fun K hy => ?_); go_simp; (try w_num); refine hy _ ?_; clear hy K; walk_nrm
    refine W.ctl rfl (fun _ => stepG_region_end) ?_
    refine W.ctl rfl (fun _ => stepG_seq) ?_
    refine W.ctl rfl (fun _ => stepG_region) ?_; simp only [List.size_toArray, List.length_cons, List.length_nil, Nat.reduceAdd, Nat.zero_add, List.range, List.range.loop]
    refine W.val rfl rfl (by k_ne) (fun _ => by simp [go_sem, *]) (fun K hy => ?_); go_simp; (try w_num); refine hy _ ?_; clear hy K; walk_nrm
    refine W.val rfl rfl (by k_ne) (fun _ => by simp [go_sem, *]) (fun K hy => ?_); go_simp; (try w_num); refine hy _ ?_; clear hy K; walk_nrm
    refine W.val rfl rfl (by k_ne) (fun _ => by simp [go_sem, *]) (fun K hy => ?_); go_simp; (try w_num); refine hy _ ?_; clear hy K; walk_nrm
    refine W.val rfl rfl (by k_ne) (fun _ => by simp [go_sem, *]) (fun K hy => ?_); go_simp; (try w_num); refine hy _ ?_; clear hy K; walk_nrm
    refine W.ctl rfl (fun _ => stepG_region_end) ?_
    refine W.ctl rfl (fun _ => stepG_seq) ?_
    refine W.ctl rfl (fun _ => stepG_region) ?_; simp only [List.size_toArray, List.length_cons, List.length_nil, Nat.reduceAdd, Nat.zero_add, List.range, List.range.loop]
    refine W.val rfl rfl (by k_ne) (fun _ => by simp [go_sem, *]) (fun K hy => ?_); go_simp; (try w_num); refine hy _ ?_; clear hy K; walk_nrm
    refine W.val rfl rfl (by k_ne) (fun _ => by simp [go_sem, *]) (fun K hy => ?_); go_simp; (try w_num); refine hy _ ?_; clear hy K; walk_nrm
    refine W.val rfl rfl (by k_ne) (fun _ => by simp [go_sem, *]) (fun K hy => ?_); go_simp; (try w_num); refine hy _ ?_; clear hy K; walk_nrm
    refine W.val rfl rfl (by k_ne) (fun _ => by simp [go_sem, *]) (fun K hy => ?_); go_simp; (try w_num); refine hy _ ?_; clear hy K; walk_nrm
    refine W.ctl rfl (fun _ => stepG_region_end) ?_
    refine W.ctl rfl (fun _ => stepG_seq) ?_
    refine W.ctl rfl (fun _ => stepG_seq) ?_
    refine W.ctl rfl (fun _ => stepG_region) ?_; simp only [List.size_toArray, List.length_cons, List.length_nil, Nat.reduceAdd, Nat.zero_add, List.range, List.range.loop]
    refine W.val rfl rfl (by k_ne) (fun _ => by simp [go_sem, *]) (fun K hy => ?_); go_simp; (try w_num); refine hy _ ?_; clear hy K; walk_nrm
    refine W.val rfl rfl (by k_ne) (fun _ => by simp [go_sem, *]) (fun K hy => ?_); go_simp; (try w_num); refine hy _ ?_; clear hy K; walk_nrm
    refine W.ctl rfl (fun _ => stepG_region_end) ?_
    refine W.ctl rfl (fun _ => stepG_cond (t := false) rfl) ?_; simp only [if_true, if_false, Bool.false_eq_true, ↓reduceIte]
    refine W.ctl rfl (fun _ => stepG_skip) ?_
    refine W.ctl rfl (fun _ => stepG_seq) ?_
    refine W.ctl rfl (fun _ => stepG_region) ?_; simp only [List.size_toArray, List.length_cons, List.length_nil, Nat.reduceAdd, Nat.zero_add, List.range, List.range.loop]
    refine W.val rfl rfl (by k_ne) (fun _ => by simp [go_sem, *]) (fun K hy => ?_); go_simp; (try w_num); refine hy _ ?_; clear hy K; walk_nrm
    refine W.val rfl rfl (by k_ne) (fun _ => by simp [go_sem, *]) (fun K hy => ?_); go_simp; (try w_num); refine hy _ ?_; clear hy K; walk_nrm
    refine W.val rfl rfl (by k_ne) (fun _ => by simp [go_sem, *]) (fun K hy => ?_); go_simp; (try w_num); refine hy _ ?_; clear hy K; walk_nrm
    refine W.val rfl rfl (by k_ne) (fun _ => by simp [go_sem, *]) (fun K hy => ?_); go_simp; (try w_num); refine hy _ ?_; clear hy K; walk_nrm
    refine W.val rfl rfl (by k_ne) (fun _ => by simp [go_sem, *]) (fun K hy => ?_); go_simp; (try w_num); refine hy _ ?_; clear hy K; walk_nrm
    refine W.val rfl rfl (by k_ne) (fun _ => by simp [go_sem, *]) (fun K hy => ?_); go_simp; (try w_num); refine hy _ ?_; clear hy K; walk_nrm
    refine W.ctl rfl (fun _ => st_call rfl rfl (by k_ne) rfl H.f_uCas (nm_uCas L) rfl) ?_; walk_nrmf uCasFn
    refine W.ctl rfl (fun _ => stepG_seq) ?_
    refine W.ctl rfl (fun _ => stepG_region) ?_; simp only [List.size_toArray, List.length_cons, List.length_nil, Nat.reduceAdd, Nat.zero_add, List.range, List.range.loop]
    refine W.val rfl rfl (by k_ne) (fun _ => by simp [go_sem, *]) (fun K hy => ?_); go_simp; (try w_num); refine hy _ ?_; clear hy K; walk_nrm
    refine W.ctl rfl (fun _ => stepG_region_end) ?_
    refine W.ctl rfl (fun _ => stepG_seq) ?_
    refine W.ctl rfl (fun _ => stepG_region) ?_; simp only [List.size_toArray, List.length_cons, List.length_nil, Nat.reduceAdd, Nat.zero_add, List.range, List.range.loop]
    refine W.val rfl rfl (by k_ne) (fun _ => by simp [go_sem, *]) (fun K hy => ?_); go_simp; (try w_num); refine hy _ ?_; clear hy K; walk_nrm
    refine W.val rfl rfl (by k_ne) (fun _ => by simp [go_sem, *]) (fun K hy => ?_); go_simp; (try w_num); refine hy _ ?_; clear hy K; walk_nrm
    refine W.val rfl rfl (by k_ne) (fun _ => by simp [go_sem, *]) (fun K hy => ?_); go_simp; (try w_num); refine hy _ ?_; clear hy K; walk_nrm
    refine W.val rfl rfl (by k_ne) (fun _ => by simp [go_sem, *]) (fun K hy => ?_); go_simp; (try w_num); refine hy _ ?_; clear hy K; walk_nrm
    refine W.val rfl rfl (by k_ne) (fun _ => by simp [go_sem, *]) (fun K hy => ?_); go_simp; (try w_num); refine hy _ ?_; clear hy K; walk_nrm
    refine W.stop fun w hL => ⟨rfl, fun v₂ hv₂ hw => ⟨fun he => ?_, fun he => ?_⟩⟩
    · subst he
      have hSK : ((v₂ : Nat) : Int) * Go.Town.KK = S := hh.out.symm
      have hw' := hw.setSt (v₂ * Go.Town.KK + 1)
      rw [hSK] at hw
      refine ⟨_, (stepG_cas_hit rfl rfl (by k_ne) rfl H.f_casU64 (x_casU64_n L) (x_casU64_b L) (x_casU64_x L) .u64 (x_casU64_f L) rfl rfl rfl hw.st hw.thaw.1).trans (by rw [hSK]; rfl), Wk.here (I := Live b o) ⟨_, _, hw'⟩ ?_⟩
      clear hw' hw hL w hv₂ hh hSK hv hv0
      walk_nrm
      refine W.val rfl rfl (by k_ne) (fun _ => by simp [go_sem, *]) (fun K hy => ?_); go_simp; (try w_num); refine hy _ ?_; clear hy K; walk_nrm
      refine W.ctl rfl (fun _ => stepG_region_end) ?_
      refine W.ctl rfl (fun _ => stepG_ret') ?_
      refine W.ctl rfl (fun _ => st_leave1 rfl rfl H.f_uCas rfl) ?_; walk_nrm
      refine W.ctl rfl (fun _ => stepG_region_end) ?_
      refine W.ctl rfl (fun _ => stepG_cond (t := true) rfl) ?_; simp only [if_true, if_false, Bool.false_eq_true, ↓reduceIte]
      refine W.ctl rfl (fun _ => stepG_seq) ?_
      refine W.ctl rfl (fun _ => stepG_seq) ?_
      refine W.ctl rfl (fun _ => stepG_region) ?_; simp only [List.size_toArray, List.length_cons, List.length_nil, Nat.reduceAdd, Nat.zero_add, List.range, List.range.loop]
      refine W.val rfl rfl (by k_ne) (fun _ => by simp [go_sem, *]) (fun K hy => ?_); go_simp; (try w_num); refine hy _ ?_; clear hy K; walk_nrm
      refine W.val rfl rfl (by k_ne) (fun _ => by simp [go_sem, *]) (fun K hy => ?_); go_simp; (try w_num); refine hy _ ?_; clear hy K; walk_nrm
      refine W.val rfl rfl (by k_ne) (fun _ => by simp [go_sem, *]) (fun K hy => ?_); go_simp; (try w_num); refine hy _ ?_; clear hy K; walk_nrm
      refine W.val rfl rfl (by k_ne) (fun _ => by simp [go_sem, *]) (fun K hy => ?_); go_simp; (try w_num); refine hy _ ?_; clear hy K; walk_nrm
      refine W.ctl rfl (fun _ => stepG_region_end) ?_
      refine W.ctl rfl (fun _ => stepG_cond (t := true) rfl) ?_; simp only [if_true, if_false, Bool.false_eq_true, ↓reduceIte]
      refine W.ctl rfl (fun _ => stepG_region) ?_; simp only [List.size_toArray, List.length_cons, List.length_nil, Nat.reduceAdd, Nat.zero_add, List.range, List.range.loop]
      refine W.val rfl rfl (by k_ne) (fun _ => by simp [go_sem, *]) (fun K hy => ?_); go_simp; (try w_num); refine hy _ ?_; clear hy K; walk_nrm
      refine W.val rfl rfl (by k_ne) (fun _ => by simp [go_sem, *]) (fun K hy => ?_); go_simp; (try w_num); refine hy _ ?_; clear hy K; walk_nrm
      refine W.val rfl rfl (by k_ne) (fun _ => by simp [go_sem, *]) (fun K hy => ?_); go_simp; (try w_num); refine hy _ ?_; clear hy K; walk_nrm
      refine W.valI (.pointer (some ⟨b, o + 1, none⟩)) rfl rfl (by k_ne) (fun w hw => ?_) ?_
      · have hcv := run_convert_to_unsafe (P := P) H.underlying_tPU32 H.underlying_tUP H.room_tU32 hw.has.2.choose_spec
        have hce := fun es => events_convert_to_unsafe (P := P) H.underlying_tPU32 H.underlying_tUP H.room_tU32 hw.has.2.choose_spec es
        refine ⟨?_, ?_⟩
        · go_simp
        · simp [go_sem, hce, *]
      walk_nrm
      refine W.said (es := #[mkE (.write ⟨b, o + 1, none⟩)]) (fun w => ⟨rfl, fun e he => by simpa [mkE] using he⟩) rfl (fun w _ => stepG_markAt .write (by simp) rfl rfl (by k_ne) rfl H.f_raceWrite (x_raceWrite_n L) (x_raceWrite_b L) (x_raceWrite_x L) (x_raceWrite_f L) (ad := ⟨b, o + 1, none⟩) (by simp [Act.eval])) ?_
      walk_nrm
      refine W.ctl rfl (fun _ => stepG_region_end) ?_
      refine W.ctl rfl (fun _ => stepG_seq) ?_
      refine W.ctl rfl (fun _ => stepG_region) ?_; simp only [List.size_toArray, List.length_cons, List.length_nil, Nat.reduceAdd, Nat.zero_add, List.range, List.range.loop]
      refine W.val rfl rfl (by k_ne) (fun _ => by simp [go_sem, *]) (fun K hy => ?_); go_simp; (try w_num); refine hy _ ?_; clear hy K; walk_nrm
      refine W.ctl rfl (fun _ => stepG_region_end) ?_
      refine W.ctl rfl (fun _ => stepG_seq) ?_
      refine W.ctl rfl (fun _ => stepG_seq) ?_
      refine W.ctl rfl (fun _ => stepG_region) ?_; simp only [List.size_toArray, List.length_cons, List.length_nil, Nat.reduceAdd, Nat.zero_add, List.range, List.range.loop]
      refine W.val rfl rfl (by k_ne) (fun _ => by simp [go_sem, *]) (fun K hy => ?_); go_simp; (try w_num); refine hy _ ?_; clear hy K; walk_nrm
      refine W.val rfl rfl (by k_ne) (fun _ => by simp [go_sem, *]) (fun K hy => ?_); go_simp; (try w_num); refine hy _ ?_; clear hy K; walk_nrm
      refine W.val rfl rfl (by k_ne) (fun _ => by simp [go_sem, *]) (fun K hy => ?_); go_simp; (try w_num); refine hy _ ?_; clear hy K; walk_nrm
      refine W.val rfl rfl (by k_ne) (fun _ => by simp [go_sem, *]) (fun K hy => ?_); go_simp; (try w_num); refine hy _ ?_; clear hy K; walk_nrm
      refine W.ctl rfl (fun _ => stepG_unwanted rfl rfl) ?_; walk_nrm
      refine W.val rfl rfl (by k_ne) (fun _ => by simp [go_sem, *]) (fun K hy => ?_); go_simp; (try w_num); refine hy _ ?_; clear hy K; walk_nrm
      refine W.ctl rfl (fun _ => stepG_region_end) ?_
      refine W.ctl rfl (fun _ => stepG_cond (t := false) rfl) ?_; simp only [if_true, if_false, Bool.false_eq_true, ↓reduceIte]
      refine W.ctl rfl (fun _ => stepG_skip) ?_
      refine W.ctl rfl (fun _ => stepG_seq) ?_
      refine W.ctl rfl (fun _ => stepG_region) ?_; simp only [List.size_toArray, List.length_cons, List.length_nil, Nat.reduceAdd, Nat.zero_add, List.range, List.range.loop]
      refine W.val rfl rfl (by k_ne) (fun _ => by simp [go_sem, *]) (fun K hy => ?_); go_simp; (try w_num); refine hy _ ?_; clear hy K; walk_nrm
      refine W.val rfl rfl (by k_ne) (fun _ => by simp [go_sem, *]) (fun K hy => ?_); go_simp; (try w_num); refine hy _ ?_; clear hy K; walk_nrm
      refine W.val rfl rfl (by k_ne) (fun _ => by simp [go_sem, *]) (fun K hy => ?_); go_simp; (try w_num); refine hy _ ?_; clear hy K; walk_nrm
      refine W.val rfl rfl (by k_ne) (fun _ => by simp [go_sem, *]) (fun K hy => ?_); go_simp; (try w_num); refine hy _ ?_; clear hy K; walk_nrm
      refine W.stop fun w hL => ⟨rfl, rfl, fun hs => stepG_semacquire_wait rfl rfl rfl H.f_semacquire (x_semacquire_n L) (x_semacquire_b L) (x_semacquire_x L) (x_semacquire_f L) (by simp [Act.eval]) hs.choose_spec.sm, fun hw => ⟨_, (stepG_semacquire rfl rfl (by k_ne) rfl H.f_semacquire (x_semacquire_n L) (x_semacquire_b L) (x_semacquire_x L) (x_semacquire_f L) (by simp [Act.eval]) hw.sm (by decide) hw.thaw.2).trans (by rfl), Wk.here (I := Live b o) ⟨_, _, hw.setSm 0⟩ ?_⟩⟩
      clear hw hL w
      walk_nrm
      refine W.ctl rfl (fun _ => stepG_region_end) ?_
      refine W.ctl rfl (fun _ => stepG_seq) ?_
      refine W.ctl rfl (fun _ => stepG_region) ?_; simp only [List.size_toArray, List.length_cons, List.length_nil, Nat.reduceAdd, Nat.zero_add, List.range, List.range.loop]
      refine W.val rfl rfl (by k_ne) (fun _ => by simp [go_sem, *]) (fun K hy => ?_); go_simp; (try w_num); refine hy _ ?_; clear hy K; walk_nrm
      refine W.val rfl rfl (by k_ne) (fun _ => by simp [go_sem, *]) (fun K hy => ?_); go_simp; (try w_num); refine hy _ ?_; clear hy K; walk_nrm
      refine W.val rfl rfl (by k_ne) (fun _ => by simp [go_sem, *]) (fun K hy => ?_); go_simp; (try w_num); refine hy _ ?_; clear hy K; walk_nrm
      refine W.ctl rfl (fun _ => st_call rfl rfl (by k_ne) rfl H.f_uLoad (nm_uLoad L) rfl) ?_; walk_nrmf uLoadFn
      refine W.ctl rfl (fun _ => stepG_seq) ?_
      refine W.ctl rfl (fun _ => stepG_region) ?_; simp only [List.size_toArray, List.length_cons, List.length_nil, Nat.reduceAdd, Nat.zero_add, List.range, List.range.loop]
      refine W.val rfl rfl (by k_ne) (fun _ => by simp [go_sem, *]) (fun K hy => ?_); go_simp; (try w_num); refine hy _ ?_; clear hy K; walk_nrm
      refine W.ctl rfl (fun _ => stepG_region_end) ?_
      refine W.ctl rfl (fun _ => stepG_seq) ?_
      refine W.ctl rfl (fun _ => stepG_region) ?_; simp only [List.size_toArray, List.length_cons, List.length_nil, Nat.reduceAdd, Nat.zero_add, List.range, List.range.loop]
      refine W.val rfl rfl (by k_ne) (fun _ => by simp [go_sem, *]) (fun K hy => ?_); go_simp; (try w_num); refine hy _ ?_; clear hy K; walk_nrm
      refine W.val rfl rfl (by k_ne) (fun _ => by simp [go_sem, *]) (fun K hy => ?_); go_simp; (try w_num); refine hy _ ?_; clear hy K; walk_nrm
      refine W.val rfl rfl (by k_ne) (fun _ => by simp [go_sem, *]) (fun K hy => ?_); go_simp; (try w_num); refine hy _ ?_; clear hy K; walk_nrm
      refine W.stop fun w hL => ⟨rfl, fun hw => ⟨_, stepG_load_atomic rfl rfl (by k_ne) rfl H.f_loadU64 (x_loadU64_n L) (x_loadU64_b L) (x_loadU64_x L) .u64 (x_loadU64_f L) rfl hw.st, Wk.here hL ?_⟩⟩
      clear hw hL w
      walk_nrm
      refine W.val rfl rfl (by k_ne) (fun _ => by simp [go_sem, *]) (fun K hy => ?_); go_simp; (try w_num); refine hy _ ?_; clear hy K; walk_nrm
      refine W.ctl rfl (fun _ => stepG_region_end) ?_
      refine W.ctl rfl (fun _ => stepG_ret') ?_
      refine W.ctl rfl (fun _ => st_leave1 rfl rfl H.f_uLoad rfl) ?_; walk_nrm
      refine W.val rfl rfl (by k_ne) (fun _ => by simp [go_sem, *]) (fun K hy => ?_); go_simp; (try w_num); refine hy _ ?_; clear hy K; walk_nrm
      refine W.val rfl rfl (by k_ne) (fun _ => by simp [go_sem, *]) (fun K hy => ?_); go_simp; (try w_num); refine hy _ ?_; clear hy K; walk_nrm
      refine W.ctl rfl (fun _ => stepG_region_end) ?_
      refine W.ctl rfl (fun _ => stepG_seq) ?_
      refine W.ctl rfl (fun _ => stepG_cond (t := true) rfl) ?_; simp only [if_true, if_false, Bool.false_eq_true, ↓reduceIte]
      refine W.ctl rfl (fun _ => stepG_seq) ?_
      refine W.ctl rfl (fun _ => stepG_region) ?_; simp only [List.size_toArray, List.length_cons, List.length_nil, Nat.reduceAdd, Nat.zero_add, List.range, List.range.loop]
      refine W.stop fun w hL => ⟨rfl, _, stepG_mark0 .enable (by simp) rfl rfl (by k_ne) rfl H.f_enable (x_enable_n L) (x_enable_b L) (x_enable_x L) (x_enable_f L), Wk.here hL ?_⟩
      clear hL w
      walk_nrm
      refine W.ctl rfl (fun _ => stepG_region_end) ?_
      refine W.ctl rfl (fun _ => stepG_region) ?_; simp only [List.size_toArray, List.length_cons, List.length_nil, Nat.reduceAdd, Nat.zero_add, List.range, List.range.loop]
      refine W.val rfl rfl (by k_ne) (fun _ => by simp [go_sem, *]) (fun K hy => ?_); go_simp; (try w_num); refine hy _ ?_; clear hy K; walk_nrm
      refine W.valI (.pointer (some ⟨b, o, none⟩)) rfl rfl (by k_ne) (fun w hw => ?_) ?_
      · have hcv := run_convert_to_unsafe (P := P) H.underlying_tWgP H.underlying_tUP H.room_tWg hw.has.1.choose_spec
        have hce := fun es => events_convert_to_unsafe (P := P) H.underlying_tWgP H.underlying_tUP H.room_tWg hw.has.1.choose_spec es
        refine ⟨?_, ?_⟩
        · go_simp
        · simp [go_sem, hce, *]
      walk_nrm
      refine W.stop fun w hL => ⟨rfl, _, stepG_markAt .acquire (by simp) rfl rfl (by k_ne) rfl H.f_acquire (x_acquire_n L) (x_acquire_b L) (x_acquire_x L) (x_acquire_f L) (by simp [Act.eval]), Wk.here (I := fun _ => True) trivial ?_⟩
      clear hL w W
      have W := wkT C
      walk_nrm
      refine W.ctl rfl (fun _ => stepG_region_end) ?_
      refine W.ctl rfl (fun _ => stepG_seq) ?_
      refine W.ctl rfl (fun _ => stepG_seq) ?_
      refine W.ctl rfl (fun _ => stepG_region) ?_; simp only [List.size_toArray, List.length_cons, List.length_nil, Nat.reduceAdd, Nat.zero_add, List.range, List.range.loop]
      refine W.val rfl rfl (by k_ne) (fun _ => by simp [go_sem, *]) (fun K hy => ?_); go_simp; (try w_num); refine hy _ ?_; clear hy K; walk_nrm
      refine W.ctl rfl (fun _ => stepG_region_end) ?_
      refine W.ctl rfl (fun _ => stepG_cond (t := false) rfl) ?_; simp only [if_true, if_false, Bool.false_eq_true, ↓reduceIte]
      refine W.ctl rfl (fun _ => stepG_skip) ?_
      refine W.ctl rfl (fun _ => stepG_ret') ?_
      refine W.ctl rfl (fun _ => st_leave0 rfl rfl H.f_wait rfl) ?_; walk_nrm
      exact W.stop fun w _ => rfl
    · refine ⟨_, stepG_cas_miss rfl rfl (by k_ne) rfl H.f_casU64 (x_casU64_n L) (x_casU64_b L) (x_casU64_x L) .u64 (x_casU64_f L) rfl rfl rfl hw.st hw.thaw.1 (by have := hh.out; unfold Go.Town.KK; omega), Wk.here hL ?_⟩
      clear hw hL w hh
      walk_nrm
      refine W.val rfl rfl (by k_ne) (fun _ => by simp [go_sem, *]) (fun K hy => ?_); go_simp; (try w_num); refine hy _ ?_; clear hy K; walk_nrm
      refine W.ctl rfl (fun _ => stepG_region_end) ?_
      refine W.ctl rfl (fun _ => stepG_ret') ?_
      refine W.ctl rfl (fun _ => st_leave1 rfl rfl H.f_uCas rfl) ?_; walk_nrm
      refine W.ctl rfl (fun _ => stepG_region_end) ?_
      refine W.ctl rfl (fun _ => stepG_cond (t := false) rfl) ?_; simp only [if_true, if_false, Bool.false_eq_true, ↓reduceIte]
      refine W.ctl rfl (fun _ => stepG_skip) ?_
      refine W.ctl rfl (fun _ => stepG_inBlock) ?_
      refine W.ctl rfl (fun _ => stepG_inLoop) ?_
      exact W.stop fun w hL => ⟨_, by simp only [L7, body_wait, waitFn, Option.getD_some]; rfl, by rfl, by rfl, hL⟩
end
end Go.Town
