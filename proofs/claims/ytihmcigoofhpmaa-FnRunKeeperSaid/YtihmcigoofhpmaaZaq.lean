/-
  Done, from its first step.
-/
import Derived.Test.YtihmcigoofhpmaaZap
set_option linter.all false
namespace Go.Town
open Go Go.Conc Go.Conc.Lib Go.ConcR.Gen Go.RowKit
set_option maxRecDepth 100000 in
set_option maxHeartbeats 8000000 in
theorem doneWalk {L : WgLink} {P : Program} (H : WgLib P L) {C : Cfg} (hon : C.on) {b o i : Nat} {c : Frame} {cs : List Frame} {qt : Nat} (hcm : c.mode = .returning) (hT : QuitsD P qt 0 (G c cs)) :
    ∃ n, ∀ w, Live b o w → Goes P false (RB C b o i) (DR C i) (AtR0 P C b o i) n (G ((baseD L.done).at ⟨#[.pointer (some ⟨b, o, none⟩), undef, undef, undef], []⟩ [.code ((doneFn L).body.getD .skip)]) (c :: cs)) w := by
  lib_facts
  have W := wkR hon b o i
  simp only [doneFn, Option.getD_some]
  refine W.ctl rfl (fun _ => stepG_region) ?_; simp only [List.size_toArray, List.length_cons, List.length_nil, Nat.reduceAdd, Nat.zero_add, List.range, List.range.loop]
  refine W.val rfl rfl (by k_ne) (fun _ => by simp [go_sem, *]) (fun K hy => ?_); go_simp; (try w_num); refine hy _ ?_; clear hy K; walk_nrm
  refine W.ctl rfl (fun _ => st_call rfl rfl (by k_ne) rfl H.f_add (nm_add L) rfl) ?_; walk_nrmf addFn
  refine W.ctl rfl (fun _ => stepG_seq) ?_
  refine W.ctl rfl (fun _ => stepG_cond (t := true) rfl) ?_; simp only [if_true, if_false, Bool.false_eq_true, ↓reduceIte]
  refine W.ctl rfl (fun _ => stepG_seq) ?_
  refine W.ctl rfl (fun _ => stepG_seq) ?_
  refine W.ctl rfl (fun _ => stepG_region) ?_; simp only [List.size_toArray, List.length_cons, List.length_nil, Nat.reduceAdd, Nat.zero_add, List.range, List.range.loop]
  refine W.val rfl rfl (by k_ne) (fun _ => by simp [go_sem, *]) (fun K hy => ?_); go_simp; (try w_num); refine hy _ ?_; clear hy K; walk_nrm
  refine W.val rfl rfl (by k_ne) (fun _ => by simp [go_sem, *]) (fun K hy => ?_); go_simp; (try w_num); refine hy _ ?_; clear hy K; walk_nrm
  refine W.ctl rfl (fun _ => stepG_region_end) ?_
  refine W.ctl rfl (fun _ => stepG_cond (t := true) rfl) ?_; simp only [if_true, if_false, Bool.false_eq_true, ↓reduceIte]
  refine W.ctl rfl (fun _ => stepG_region) ?_; simp only [List.size_toArray, List.length_cons, List.length_nil, Nat.reduceAdd, Nat.zero_add, List.range, List.range.loop]
  refine W.val rfl rfl (by k_ne) (fun _ => by simp [go_sem, *]) (fun K hy => ?_); go_simp; (try w_num); refine hy _ ?_; clear hy K; walk_nrm
  refine W.valI (.pointer (some ⟨b, o, none⟩)) rfl rfl (by k_ne) (fun w hw => ?_) ?_
  · have hcv := run_convert_to_unsafe (P := P) H.underlying_tWgP H.underlying_tUP H.room_tWg hw.has.1.choose_spec
    have hce := fun es => events_convert_to_unsafe (P := P) H.underlying_tWgP H.underlying_tUP H.room_tWg hw.has.1.choose_spec es
    refine ⟨?_, ?_⟩
    · go_simp
    · simp [go_sem, hce, *]
  walk_nrm
  refine W.stop fun w hK => ⟨rfl, _, stepG_markAt .releaseMerge (by simp) rfl rfl (by k_ne) rfl H.f_relMerge (x_relMerge_n L) (x_relMerge_b L) (x_relMerge_x L) (x_relMerge_f L) (by simp [Act.eval]), Wk.here hK ?_⟩
  clear W hK w
  have W := wk0 hon b o i
  walk_nrm
  refine W.ctl rfl (fun _ => stepG_region_end) ?_
  refine W.ctl rfl (fun _ => stepG_seq) ?_
  refine W.ctl rfl (fun _ => stepG_region) ?_; simp only [List.size_toArray, List.length_cons, List.length_nil, Nat.reduceAdd, Nat.zero_add, List.range, List.range.loop]
  refine W.stop fun w hK => ⟨rfl, _, stepG_mark0 .disable (by simp) rfl rfl (by k_ne) rfl H.f_disable (x_disable_n L) (x_disable_b L) (x_disable_x L) (x_disable_f L), Wk.here hK ?_⟩
  clear hK w
  walk_nrm
  refine W.ctl rfl (fun _ => stepG_region_end) ?_
  refine W.ctl rfl (fun _ => stepG_region) ?_; simp only [List.size_toArray, List.length_cons, List.length_nil, Nat.reduceAdd, Nat.zero_add, List.range, List.range.loop]
  refine W.ctl rfl (fun _ => stepG_defer rfl rfl (by k_ne) rfl) ?_; walk_nrm
  refine W.ctl rfl (fun _ => stepG_region_end) ?_
  refine W.ctl rfl (fun _ => stepG_seq) ?_
  refine W.ctl rfl (fun _ => stepG_region) ?_; simp only [List.size_toArray, List.length_cons, List.length_nil, Nat.reduceAdd, Nat.zero_add, List.range, List.range.loop]
  refine W.val rfl rfl (by k_ne) (fun _ => by simp [go_sem, *]) (fun K hy => ?_); go_simp; (try w_num); refine hy _ ?_; clear hy K; walk_nrm
  refine W.ctl rfl (fun _ => stepG_region_end) ?_
  refine W.ctl rfl (fun _ => stepG_seq) ?_
  refine W.ctl rfl (fun _ => stepG_seq) ?_
  refine W.ctl rfl (fun _ => stepG_region) ?_; simp only [List.size_toArray, List.length_cons, List.length_nil, Nat.reduceAdd, Nat.zero_add, List.range, List.range.loop]
  refine W.ctl rfl (fun _ => stepG_entry_pure (.bool false) rfl rfl (by k_ne) rfl H.f_inBubble (x_inBubble_n L) (x_inBubble_b L) (x_inBubble_x L) (x_inBubble_f L)) ?_; walk_nrm
  refine W.ctl rfl (fun _ => stepG_region_end) ?_
  refine W.ctl rfl (fun _ => stepG_cond (t := false) rfl) ?_; simp only [if_true, if_false, Bool.false_eq_true, ↓reduceIte]
  refine W.ctl rfl (fun _ => stepG_skip) ?_
  refine W.ctl rfl (fun _ => stepG_seq) ?_
  refine W.ctl rfl (fun _ => stepG_region) ?_; simp only [List.size_toArray, List.length_cons, List.length_nil, Nat.reduceAdd, Nat.zero_add, List.range, List.range.loop]
  refine W.val rfl rfl (by k_ne) (fun _ => by simp [go_sem, *]) (fun K hy => ?_); go_simp; (try w_num); refine hy _ ?_; clear hy K; walk_nrm
  refine W.val rfl rfl (by k_ne) (fun _ => by simp [go_sem, *]) (fun K hy => ?_); go_simp; (try w_num); refine hy _ ?_; clear hy K; walk_nrm
  refine W.val rfl rfl (by k_ne) (fun _ => by simp [go_sem, *]) (fun K hy => ?_); go_simp; (try w_num); refine hy _ ?_; clear hy K; walk_nrm
  refine W.val rfl rfl (by k_ne) (fun _ => by simp [go_sem, *]) (fun K hy => ?_); go_simp; (try w_num); refine hy _ ?_; clear hy K; walk_nrm
  refine W.val rfl rfl (by k_ne) (fun _ => by simp [go_sem, *]) (fun K hy => ?_); go_simp; (try w_num); refine hy _ ?_; clear hy K; walk_nrm
  refine W.val rfl rfl (by k_ne) (fun _ => by simp [go_sem, *]) (fun K hy => ?_); go_simp; (try w_num); refine hy _ ?_; clear hy K; walk_nrm
  refine W.ctl rfl (fun _ => st_call rfl rfl (by k_ne) rfl H.f_uAdd (nm_uAdd L) rfl) ?_; walk_nrmf uAddFn
  refine W.ctl rfl (fun _ => stepG_seq) ?_
  refine W.ctl rfl (fun _ => stepG_region) ?_; simp only [List.size_toArray, List.length_cons, List.length_nil, Nat.reduceAdd, Nat.zero_add, List.range, List.range.loop]
  refine W.val rfl rfl (by k_ne) (fun _ => by simp [go_sem, *]) (fun K hy => ?_); go_simp; (try w_num); refine hy _ ?_; clear hy K; walk_nrm
  refine W.ctl rfl (fun _ => stepG_region_end) ?_
  refine W.ctl rfl (fun _ => stepG_seq) ?_
  refine W.ctl rfl (fun _ => stepG_region) ?_; simp only [List.size_toArray, List.length_cons, List.length_nil, Nat.reduceAdd, Nat.zero_add, List.range, List.range.loop]
  refine W.val rfl rfl (by k_ne) (fun _ => by simp [go_sem, *]) (fun K hy => ?_); go_simp; (try w_num); refine hy _ ?_; clear hy K; walk_nrm
  refine W.val rfl rfl (by k_ne) (fun _ => by simp [go_sem, *]) (fun K hy => ?_); go_simp; (try w_num); refine hy _ ?_; clear hy K; walk_nrm
  refine W.val rfl rfl (by k_ne) (fun _ => by simp [go_sem, *]) (fun K hy => ?_); go_simp; (try w_num); refine hy _ ?_; clear hy K; walk_nrm
  refine W.val rfl rfl (by k_ne) (fun _ => by simp [go_sem, *]) (fun K hy => ?_); go_simp; (try w_num); refine hy _ ?_; clear hy K; walk_nrm
  refine W.stop fun w hK => ⟨rfl, fun v wt hwt hv hw => ?_⟩
  clear hK W
  have e0 : IntKind.u64.wrap ((v + 1 : Nat) * Go.Town.KK + wt + 18446744069414584320) = v * Go.Town.KK + wt := by
    unfold Go.Town.KK; rw [IntKind.wrap_u64]; omega
  refine ⟨_, (stepG_add_atomic rfl rfl (by k_ne) rfl H.f_addU64 (x_addU64_n L) (x_addU64_b L) (x_addU64_x L) .u64 (x_addU64_f L) rfl rfl hw.st hw.thaw.1).trans (by rw [e0]; rfl), fun hl => ?_, fun hl => ?_⟩
  · obtain ⟨rfl, rfl⟩ := hl
    have W := wk0 hon b o i
    have hK : Live b o (w.setCell ⟨b, o, none⟩ (.int .u64 ((0 : Nat) * Go.Town.KK + (1 : Nat)))) := ⟨_, _, hw.setSt _⟩
    clear hw e0
    rw [show (((0 : Nat) : Int) * Go.Town.KK + ((1 : Nat) : Int)) = 1 from rfl] at hK ⊢
    refine Wk.here hK ?_
    clear hK w
    walk_nrm
    refine W.val rfl rfl (by k_ne) (fun _ => by simp [go_sem, *]) (fun K hy => ?_); go_simp; (try w_num); refine hy _ ?_; clear hy K; walk_nrm
    refine W.ctl rfl (fun _ => stepG_region_end) ?_
    refine W.ctl rfl (fun _ => stepG_ret') ?_
    refine W.ctl rfl (fun _ => st_leave1 rfl rfl H.f_uAdd rfl) ?_; walk_nrm
    refine W.val rfl rfl (by k_ne) (fun _ => by simp [go_sem, *]) (fun K hy => ?_); go_simp; (try w_num); refine hy _ ?_; clear hy K; walk_nrm
    refine W.ctl rfl (fun _ => stepG_region_end) ?_
    refine W.ctl rfl (fun _ => stepG_seq) ?_
    refine W.ctl rfl (fun _ => stepG_seq) ?_
    refine W.ctl rfl (fun _ => stepG_region) ?_; simp only [List.size_toArray, List.length_cons, List.length_nil, Nat.reduceAdd, Nat.zero_add, List.range, List.range.loop]
    refine W.val rfl rfl (by k_ne) (fun _ => by simp [go_sem, *]) (fun K hy => ?_); go_simp; (try w_num); refine hy _ ?_; clear hy K; walk_nrm
    refine W.val rfl rfl (by k_ne) (fun _ => by simp [go_sem, *]) (fun K hy => ?_); go_simp; (try w_num); refine hy _ ?_; clear hy K; walk_nrm
    refine W.val rfl rfl (by k_ne) (fun _ => by simp [go_sem, *]) (fun K hy => ?_); go_simp; (try w_num); refine hy _ ?_; clear hy K; walk_nrm
    refine W.val rfl rfl (by k_ne) (fun _ => by simp [go_sem, *]) (fun K hy => ?_); go_simp; (try w_num); refine hy _ ?_; clear hy K; walk_nrm
    refine W.ctl rfl (fun _ => stepG_unwanted rfl rfl) ?_; walk_nrm
    refine W.ctl rfl (fun _ => stepG_unwanted rfl rfl) ?_; walk_nrm
    refine W.val rfl rfl (by k_ne) (fun _ => by simp [go_sem, *]) (fun K hy => ?_); go_simp; (try w_num); refine hy _ ?_; clear hy K; walk_nrm
    refine W.ctl rfl (fun _ => stepG_region_end) ?_
    refine W.ctl rfl (fun _ => stepG_cond (t := false) rfl) ?_; simp only [if_true, if_false, Bool.false_eq_true, ↓reduceIte]
    refine W.ctl rfl (fun _ => stepG_skip) ?_
    refine W.ctl rfl (fun _ => stepG_seq) ?_
    refine W.ctl rfl (fun _ => stepG_region) ?_; simp only [List.size_toArray, List.length_cons, List.length_nil, Nat.reduceAdd, Nat.zero_add, List.range, List.range.loop]
    refine W.val rfl rfl (by k_ne) (fun _ => by simp [go_sem, *]) (fun K hy => ?_); go_simp; (try w_num); refine hy _ ?_; clear hy K; walk_nrm
    refine W.val rfl rfl (by k_ne) (fun _ => by simp [go_sem, *]) (fun K hy => ?_); go_simp; (try w_num); refine hy _ ?_; clear hy K; walk_nrm
    refine W.val rfl rfl (by k_ne) (fun _ => by simp [go_sem, *]) (fun K hy => ?_); go_simp; (try w_num); refine hy _ ?_; clear hy K; walk_nrm
    refine W.val rfl rfl (by k_ne) (fun _ => by simp [go_sem, *]) (fun K hy => ?_); go_simp; (try w_num); refine hy _ ?_; clear hy K; walk_nrm
    refine W.ctl rfl (fun _ => stepG_region_end) ?_
    refine W.ctl rfl (fun _ => stepG_seq) ?_
    refine W.ctl rfl (fun _ => stepG_region) ?_; simp only [List.size_toArray, List.length_cons, List.length_nil, Nat.reduceAdd, Nat.zero_add, List.range, List.range.loop]
    refine W.val rfl rfl (by k_ne) (fun _ => by simp [go_sem, *]) (fun K hy => ?_); go_simp; (try w_num); refine hy _ ?_; clear hy K; walk_nrm
    refine W.val rfl rfl (by k_ne) (fun _ => by simp [go_sem, *]) (fun K hy => ?_); go_simp; (try w_num); refine hy _ ?_; clear hy K; walk_nrm
    refine W.val rfl rfl (by k_ne) (fun _ => by simp [go_sem, *]) (fun K hy => ?_); go_simp; (try w_num); refine hy _ ?_; clear hy K; walk_nrm
    refine W.val rfl rfl (by k_ne) (fun _ => by simp [go_sem, *]) (fun K hy => ?_); go_simp; (try w_num); refine hy _ ?_; clear hy K; walk_nrm
    refine W.ctl rfl (fun _ => stepG_region_end) ?_
    refine W.ctl rfl (fun _ => stepG_seq) ?_
    refine W.ctl rfl (fun _ => stepG_seq) ?_
    refine W.ctl rfl (fun _ => stepG_region) ?_; simp only [List.size_toArray, List.length_cons, List.length_nil, Nat.reduceAdd, Nat.zero_add, List.range, List.range.loop]
    refine W.val rfl rfl (by k_ne) (fun _ => by simp [go_sem, *]) (fun K hy => ?_); go_simp; (try w_num); refine hy _ ?_; clear hy K; walk_nrm
    refine W.val rfl rfl (by k_ne) (fun _ => by simp [go_sem, *]) (fun K hy => ?_); go_simp; (try w_num); refine hy _ ?_; clear hy K; walk_nrm
    refine W.val rfl rfl (by k_ne) (fun _ => by simp [go_sem, *]) (fun K hy => ?_); go_simp; (try w_num); refine hy _ ?_; clear hy K; walk_nrm
    refine W.val rfl rfl (by k_ne) (fun _ => by simp [go_sem, *]) (fun K hy => ?_); go_simp; (try w_num); refine hy _ ?_; clear hy K; walk_nrm
    refine W.val rfl rfl (by k_ne) (fun _ => by simp [go_sem, *]) (fun K hy => ?_); go_simp; (try w_num); refine hy _ ?_; clear hy K; walk_nrm
    refine W.ctl rfl (fun _ => stepG_unwanted rfl rfl) ?_; walk_nrm
    refine W.ctl rfl (fun _ => stepG_unwanted rfl rfl) ?_; walk_nrm
    refine W.ctl rfl (fun _ => stepG_unwanted rfl rfl) ?_; walk_nrm
    refine W.ctl rfl (fun _ => stepG_unwanted rfl rfl) ?_; walk_nrm
    refine W.val rfl rfl (by k_ne) (fun _ => by simp [go_sem, *]) (fun K hy => ?_); go_simp; (try w_num); refine hy _ ?_; clear hy K; walk_nrm
    refine W.ctl rfl (fun _ => stepG_region_end) ?_
    refine W.ctl rfl (fun _ => stepG_cond (t := false) rfl) ?_; simp only [if_true, if_false, Bool.false_eq_true, ↓reduceIte]
    refine W.ctl rfl (fun _ => stepG_skip) ?_
    refine W.ctl rfl (fun _ => stepG_seq) ?_
    refine W.ctl rfl (fun _ => stepG_seq) ?_
    refine W.ctl rfl (fun _ => stepG_region) ?_; simp only [List.size_toArray, List.length_cons, List.length_nil, Nat.reduceAdd, Nat.zero_add, List.range, List.range.loop]
    refine W.val rfl rfl (by k_ne) (fun _ => by simp [go_sem, *]) (fun K hy => ?_); go_simp; (try w_num); refine hy _ ?_; clear hy K; walk_nrm
    refine W.val rfl rfl (by k_ne) (fun _ => by simp [go_sem, *]) (fun K hy => ?_); go_simp; (try w_num); refine hy _ ?_; clear hy K; walk_nrm
    refine W.ctl rfl (fun _ => stepG_region_end) ?_
    refine W.ctl rfl (fun _ => stepG_cond (t := false) rfl) ?_; simp only [if_true, if_false, Bool.false_eq_true, ↓reduceIte]
    refine W.ctl rfl (fun _ => stepG_skip) ?_
    refine W.ctl rfl (fun _ => stepG_seq) ?_
    refine W.ctl rfl (fun _ => stepG_seq) ?_
    refine W.ctl rfl (fun _ => stepG_region) ?_; simp only [List.size_toArray, List.length_cons, List.length_nil, Nat.reduceAdd, Nat.zero_add, List.range, List.range.loop]
    refine W.val rfl rfl (by k_ne) (fun _ => by simp [go_sem, *]) (fun K hy => ?_); go_simp; (try w_num); refine hy _ ?_; clear hy K; walk_nrm
    refine W.val rfl rfl (by k_ne) (fun _ => by simp [go_sem, *]) (fun K hy => ?_); go_simp; (try w_num); refine hy _ ?_; clear hy K; walk_nrm
    refine W.val rfl rfl (by k_ne) (fun _ => by simp [go_sem, *]) (fun K hy => ?_); go_simp; (try w_num); refine hy _ ?_; clear hy K; walk_nrm
    refine W.val rfl rfl (by k_ne) (fun _ => by simp [go_sem, *]) (fun K hy => ?_); go_simp; (try w_num); refine hy _ ?_; clear hy K; walk_nrm
    refine W.val rfl rfl (by k_ne) (fun _ => by simp [go_sem, *]) (fun K hy => ?_); go_simp; (try w_num); refine hy _ ?_; clear hy K; walk_nrm
    refine W.val rfl rfl (by k_ne) (fun _ => by simp [go_sem, *]) (fun K hy => ?_); go_simp; (try w_num); refine hy _ ?_; clear hy K; walk_nrm
    refine W.val rfl rfl (by k_ne) (fun _ => by simp [go_sem, *]) (fun K hy => ?_); go_simp; (try w_num); refine hy _ ?_; clear hy K; walk_nrm
    refine W.ctl rfl (fun _ => stepG_unwanted rfl rfl) ?_; walk_nrm
    refine W.ctl rfl (fun _ => stepG_unwanted rfl rfl) ?_; walk_nrm
    refine W.ctl rfl (fun _ => stepG_unwanted rfl rfl) ?_; walk_nrm
    refine W.ctl rfl (fun _ => stepG_unwanted rfl rfl) ?_; walk_nrm
    refine W.val rfl rfl (by k_ne) (fun _ => by simp [go_sem, *]) (fun K hy => ?_); go_simp; (try w_num); refine hy _ ?_; clear hy K; walk_nrm
    refine W.ctl rfl (fun _ => stepG_region_end) ?_
    refine W.ctl rfl (fun _ => stepG_cond (t := false) rfl) ?_; simp only [if_true, if_false, Bool.false_eq_true, ↓reduceIte]
    refine W.ctl rfl (fun _ => stepG_skip) ?_
    refine W.ctl rfl (fun _ => stepG_seq) ?_
    refine W.ctl rfl (fun _ => stepG_seq) ?_
    refine W.ctl rfl (fun _ => stepG_region) ?_; simp only [List.size_toArray, List.length_cons, List.length_nil, Nat.reduceAdd, Nat.zero_add, List.range, List.range.loop]
    refine W.val rfl rfl (by k_ne) (fun _ => by simp [go_sem, *]) (fun K hy => ?_); go_simp; (try w_num); refine hy _ ?_; clear hy K; walk_nrm
    refine W.val rfl rfl (by k_ne) (fun _ => by simp [go_sem, *]) (fun K hy => ?_); go_simp; (try w_num); refine hy _ ?_; clear hy K; walk_nrm
    refine W.val rfl rfl (by k_ne) (fun _ => by simp [go_sem, *]) (fun K hy => ?_); go_simp; (try w_num); refine hy _ ?_; clear hy K; walk_nrm
    refine W.val rfl rfl (by k_ne) (fun _ => by simp [go_sem, *]) (fun K hy => ?_); go_simp; (try w_num); refine hy _ ?_; clear hy K; walk_nrm
    refine W.val rfl rfl (by k_ne) (fun _ => by simp [go_sem, *]) (fun K hy => ?_); go_simp; (try w_num); refine hy _ ?_; clear hy K; walk_nrm
    refine W.val rfl rfl (by k_ne) (fun _ => by simp [go_sem, *]) (fun K hy => ?_); go_simp; (try w_num); refine hy _ ?_; clear hy K; walk_nrm
    refine W.ctl rfl (fun _ => stepG_region_end) ?_
    refine W.ctl rfl (fun _ => stepG_cond (t := false) rfl) ?_; simp only [if_true, if_false, Bool.false_eq_true, ↓reduceIte]
    refine W.ctl rfl (fun _ => stepG_skip) ?_
    refine W.ctl rfl (fun _ => stepG_seq) ?_
    refine W.ctl rfl (fun _ => stepG_seq) ?_
    refine W.ctl rfl (fun _ => stepG_region) ?_; simp only [List.size_toArray, List.length_cons, List.length_nil, Nat.reduceAdd, Nat.zero_add, List.range, List.range.loop]
    refine W.val rfl rfl (by k_ne) (fun _ => by simp [go_sem, *]) (fun K hy => ?_); go_simp; (try w_num); refine hy _ ?_; clear hy K; walk_nrm
    refine W.val rfl rfl (by k_ne) (fun _ => by simp [go_sem, *]) (fun K hy => ?_); go_simp; (try w_num); refine hy _ ?_; clear hy K; walk_nrm
    refine W.val rfl rfl (by k_ne) (fun _ => by simp [go_sem, *]) (fun K hy => ?_); go_simp; (try w_num); refine hy _ ?_; clear hy K; walk_nrm
    refine W.ctl rfl (fun _ => st_call rfl rfl (by k_ne) rfl H.f_uLoad (nm_uLoad L) rfl) ?_; walk_nrmf uLoadFn
    refine W.ctl rfl (fun _ => stepG_seq) ?_
    refine W.ctl rfl (fun _ => stepG_region) ?_; simp only [List.size_toArray, List.length_cons, List.length_nil, Nat.reduceAdd, Nat.zero_add, List.range, List.range.loop]
    refine W.val rfl rfl (by k_ne) (fun _ => by simp [go_sem, *]) (fun K hy => ?_); go_simp; (try w_num); refine hy _ ?_; clear hy K; walk_nrm
    refine W.ctl rfl (fun _ => stepG_region_end) ?_
    refine W.ctl rfl (fun _ => stepG_seq) ?_
    refine W.ctl rfl (fun _ => stepG_region) ?_; simp only [List.size_toArray, List.length_cons, List.length_nil, Nat.reduceAdd, Nat.zero_add, List.range, List.range.loop]
    refine W.val rfl rfl (by k_ne) (fun _ => by simp [go_sem, *]) (fun K hy => ?_); go_simp; (try w_num); refine hy _ ?_; clear hy K; walk_nrm
    refine W.val rfl rfl (by k_ne) (fun _ => by simp [go_sem, *]) (fun K hy => ?_); go_simp; (try w_num); refine hy _ ?_; clear hy K; walk_nrm
    refine W.val rfl rfl (by k_ne) (fun _ => by simp [go_sem, *]) (fun K hy => ?_); go_simp; (try w_num); refine hy _ ?_; clear hy K; walk_nrm
    refine W.stop fun w hL => ⟨rfl, fun hw => ⟨_, stepG_load_atomic rfl rfl (by k_ne) rfl H.f_loadU64 (x_loadU64_n L) (x_loadU64_b L) (x_loadU64_x L) .u64 (x_loadU64_f L) rfl hw.st, Wk.here (I := Live b o) ⟨_, _, hw⟩ ?_⟩⟩
    clear hw hL w
    walk_nrm
    refine W.val rfl rfl (by k_ne) (fun _ => by simp [go_sem, *]) (fun K hy => ?_); go_simp; (try w_num); refine hy _ ?_; clear hy K; walk_nrm
    refine W.ctl rfl (fun _ => stepG_region_end) ?_
    refine W.ctl rfl (fun _ => stepG_ret') ?_
    refine W.ctl rfl (fun _ => st_leave1 rfl rfl H.f_uLoad rfl) ?_; walk_nrm
    refine W.val rfl rfl (by k_ne) (fun _ => by simp [go_sem, *]) (fun K hy => ?_); go_simp; (try w_num); refine hy _ ?_; clear hy K; walk_nrm
    refine W.val rfl rfl (by k_ne) (fun _ => by simp [go_sem, *]) (fun K hy => ?_); go_simp; (try w_num); refine hy _ ?_; clear hy K; walk_nrm
    refine W.ctl rfl (fun _ => stepG_region_end) ?_
    refine W.ctl rfl (fun _ => stepG_cond (t := false) rfl) ?_; simp only [if_true, if_false, Bool.false_eq_true, ↓reduceIte]
    refine W.ctl rfl (fun _ => stepG_skip) ?_
    refine W.ctl rfl (fun _ => stepG_seq) ?_
    refine W.ctl rfl (fun _ => stepG_region) ?_; simp only [List.size_toArray, List.length_cons, List.length_nil, Nat.reduceAdd, Nat.zero_add, List.range, List.range.loop]
    refine W.val rfl rfl (by k_ne) (fun _ => by simp [go_sem, *]) (fun K hy => ?_); go_simp; (try w_num); refine hy _ ?_; clear hy K; walk_nrm
    refine W.val rfl rfl (by k_ne) (fun _ => by simp [go_sem, *]) (fun K hy => ?_); go_simp; (try w_num); refine hy _ ?_; clear hy K; walk_nrm
    refine W.val rfl rfl (by k_ne) (fun _ => by simp [go_sem, *]) (fun K hy => ?_); go_simp; (try w_num); refine hy _ ?_; clear hy K; walk_nrm
    refine W.ctl rfl (fun _ => st_call rfl rfl (by k_ne) rfl H.f_uStore (nm_uStore L) rfl) ?_; walk_nrmf uStoreFn
    refine W.ctl rfl (fun _ => stepG_region) ?_; simp only [List.size_toArray, List.length_cons, List.length_nil, Nat.reduceAdd, Nat.zero_add, List.range, List.range.loop]
    refine W.val rfl rfl (by k_ne) (fun _ => by simp [go_sem, *]) (fun K hy => ?_); go_simp; (try w_num); refine hy _ ?_; clear hy K; walk_nrm
    refine W.val rfl rfl (by k_ne) (fun _ => by simp [go_sem, *]) (fun K hy => ?_); go_simp; (try w_num); refine hy _ ?_; clear hy K; walk_nrm
    refine W.val rfl rfl (by k_ne) (fun _ => by simp [go_sem, *]) (fun K hy => ?_); go_simp; (try w_num); refine hy _ ?_; clear hy K; walk_nrm
    refine W.val rfl rfl (by k_ne) (fun _ => by simp [go_sem, *]) (fun K hy => ?_); go_simp; (try w_num); refine hy _ ?_; clear hy K; walk_nrm
    refine W.stop fun w hL => ⟨rfl, fun hw => ⟨_, stepG_store_atomic rfl rfl (by k_ne) rfl H.f_storeU64 (x_storeU64_n L) (x_storeU64_b L) (x_storeU64_x L) (x_storeU64_f L) rfl rfl hw.st hw.thaw.1, Wk.here (I := Live b o) ⟨_, _, hw.setSt 0⟩ ?_⟩⟩
    clear hw hL w
    walk_nrm
    refine W.ctl rfl (fun _ => stepG_region_end) ?_
    refine W.ctl rfl (fun _ => stepG_end) ?_
    refine W.ctl rfl (fun _ => st_leave0 rfl rfl H.f_uStore rfl) ?_; walk_nrm
    refine W.ctl rfl (fun _ => stepG_region_end) ?_
    refine W.ctl rfl (fun _ => stepG_seq) ?_
    refine W.ctl rfl (fun _ => stepG_seq) ?_
    refine W.ctl rfl (fun _ => stepG_region) ?_; simp only [List.size_toArray, List.length_cons, List.length_nil, Nat.reduceAdd, Nat.zero_add, List.range, List.range.loop]
    refine W.val rfl rfl (by k_ne) (fun _ => by simp [go_sem, *]) (fun K hy => ?_); go_simp; (try w_num); refine hy _ ?_; clear hy K; walk_nrm
    refine W.ctl rfl (fun _ => stepG_region_end) ?_
    refine W.ctl rfl (fun _ => stepG_cond (t := false) rfl) ?_; simp only [if_true, if_false, Bool.false_eq_true, ↓reduceIte]
    refine W.ctl rfl (fun _ => stepG_skip) ?_
    refine W.ctl rfl (fun _ => stepG_block) ?_
    refine W.ctl rfl (fun _ => stepG_loop) ?_
    refine W.ctl rfl (fun _ => stepG_seq) ?_
    refine W.ctl rfl (fun _ => stepG_seq) ?_
    refine W.ctl rfl (fun _ => stepG_region) ?_; simp only [List.size_toArray, List.length_cons, List.length_nil, Nat.reduceAdd, Nat.zero_add, List.range, List.range.loop]
    refine W.val rfl rfl (by k_ne) (fun _ => by simp [go_sem, *]) (fun K hy => ?_); go_simp; (try w_num); refine hy _ ?_; clear hy K; walk_nrm
    refine W.val rfl rfl (by k_ne) (fun _ => by simp [go_sem, *]) (fun K hy => ?_); go_simp; (try w_num); refine hy _ ?_; clear hy K; walk_nrm
    refine W.ctl rfl (fun _ => stepG_region_end) ?_
    refine W.ctl rfl (fun _ => stepG_cond (t := true) rfl) ?_; simp only [if_true, if_false, Bool.false_eq_true, ↓reduceIte]
    refine W.ctl rfl (fun _ => stepG_skip) ?_
    refine W.ctl rfl (fun _ => stepG_seq) ?_
    refine W.ctl rfl (fun _ => stepG_block) ?_
    refine W.ctl rfl (fun _ => stepG_region) ?_; simp only [List.size_toArray, List.length_cons, List.length_nil, Nat.reduceAdd, Nat.zero_add, List.range, List.range.loop]
    refine W.val rfl rfl (by k_ne) (fun _ => by simp [go_sem, *]) (fun K hy => ?_); go_simp; (try w_num); refine hy _ ?_; clear hy K; walk_nrm
    refine W.val rfl rfl (by k_ne) (fun _ => by simp [go_sem, *]) (fun K hy => ?_); go_simp; (try w_num); refine hy _ ?_; clear hy K; walk_nrm
    refine W.val rfl rfl (by k_ne) (fun _ => by simp [go_sem, *]) (fun K hy => ?_); go_simp; (try w_num); refine hy _ ?_; clear hy K; walk_nrm
    refine W.stop fun w hL => ⟨rfl, mayWake_entry rfl rfl H.f_semrelease (x_semrelease_b L), fun hw => ⟨_, rfl, (stepG_semrelease rfl rfl (by k_ne) rfl H.f_semrelease (x_semrelease_n L) (x_semrelease_b L) (x_semrelease_x L) (x_semrelease_f L) (by simp [Act.eval]) hw.sm hw.thaw.2).trans (by rfl), ?_⟩⟩
    clear hw hL W w
    walk_nrm
    refine qs_ctl rfl (fun _ => stepG_region_end) ?_
    refine qs_ctl rfl (fun _ => stepG_inBlock) ?_
    refine qs_ctl rfl (fun _ => stepG_region) ?_; simp only [List.size_toArray, List.length_cons, List.length_nil, Nat.reduceAdd, Nat.zero_add, List.range, List.range.loop]
    refine qs_val rfl rfl (by k_ne) (fun _ => by simp [go_sem, *]) (fun K hy => ?_); go_simp; (try w_num); refine hy _ ?_; clear hy K; walk_nrm
    refine qs_val rfl rfl (by k_ne) (fun _ => by simp [go_sem, *]) (fun K hy => ?_); go_simp; (try w_num); refine hy _ ?_; clear hy K; walk_nrm
    refine qs_val rfl rfl (by k_ne) (fun _ => by simp [go_sem, *]) (fun K hy => ?_); go_simp; (try w_num); refine hy _ ?_; clear hy K; walk_nrm
    refine qs_ctl rfl (fun _ => stepG_region_end) ?_
    refine qs_ctl rfl (fun _ => stepG_inLoop) ?_
    refine qs_ctl rfl (fun _ => stepG_seq) ?_
    refine qs_ctl rfl (fun _ => stepG_seq) ?_
    refine qs_ctl rfl (fun _ => stepG_region) ?_; simp only [List.size_toArray, List.length_cons, List.length_nil, Nat.reduceAdd, Nat.zero_add, List.range, List.range.loop]
    refine qs_val rfl rfl (by k_ne) (fun _ => by simp [go_sem, *]) (fun K hy => ?_); go_simp; (try w_num); refine hy _ ?_; clear hy K; walk_nrm
    refine qs_val rfl rfl (by k_ne) (fun _ => by simp [go_sem, *]) (fun K hy => ?_); go_simp; (try w_num); refine hy _ ?_; clear hy K; walk_nrm
    refine qs_ctl rfl (fun _ => stepG_region_end) ?_
    refine qs_ctl rfl (fun _ => stepG_cond (t := false) rfl) ?_; simp only [if_true, if_false, Bool.false_eq_true, ↓reduceIte]
    refine qs_ctl rfl (fun _ => stepG_exit rfl) ?_
    refine qs_ctl rfl (fun _ => stepG_end) ?_
    refine qs_enable H rfl ?_
    refine qs_ctl rfl (fun _ => st_leave0 rfl rfl H.f_add rfl) ?_; walk_nrm
    refine qs_ctl rfl (fun _ => stepG_region_end) ?_
    refine qs_ctl rfl (fun _ => stepG_end) ?_
    exact ⟨_, .leaveD rfl rfl H.f_done rfl hcm hT⟩
  · clear hw e0
    obtain ⟨S, hS⟩ : ∃ S : Int, S = (v : Int) * 4294967296 + (wt : Int) := ⟨_, rfl⟩
    have hSK : (v : Int) * Go.Town.KK + (wt : Int) = S := hS.symm
    have hb1 : bits .and .u64 S 2147483648 = 0 := by rw [hS]; exact Go.ConcN.st_flag v wt (by omega) hwt
    have hb2 : bits .and .u64 S 2147483647 = (wt : Int) := by rw [hS]; exact Go.ConcN.st_waiters v wt (by omega) hwt
    have hb3 : S / 4294967296 = (v : Int) := by omega
    have hb4 : IntKind.i32.wrap (v : Int) = (v : Int) := by rw [IntKind.wrap_i32]; omega
    have hb5 : decide ((v : Int) < 0) = false := by simp
    rw [hSK]
    clear hS hSK
    walk_nrm
    rcases Nat.eq_zero_or_pos v with rfl | hvp
    · obtain rfl : wt = 0 := by omega
      refine qs_val rfl rfl (by k_ne) (fun _ => by simp [go_sem, *]) (fun K hy => ?_); go_simp; (try w_num); refine hy _ ?_; clear hy K; walk_nrm
      refine qs_ctl rfl (fun _ => stepG_region_end) ?_
      refine qs_ctl rfl (fun _ => stepG_ret') ?_
      refine qs_ctl rfl (fun _ => st_leave1 rfl rfl H.f_uAdd rfl) ?_; walk_nrm
      refine qs_val rfl rfl (by k_ne) (fun _ => by simp [go_sem, *]) (fun K hy => ?_); go_simp; (try w_num); refine hy _ ?_; clear hy K; walk_nrm
      refine qs_ctl rfl (fun _ => stepG_region_end) ?_
      refine qs_ctl rfl (fun _ => stepG_seq) ?_
      refine qs_ctl rfl (fun _ => stepG_seq) ?_
      refine qs_ctl rfl (fun _ => stepG_region) ?_; simp only [List.size_toArray, List.length_cons, List.length_nil, Nat.reduceAdd, Nat.zero_add, List.range, List.range.loop]
      refine qs_val rfl rfl (by k_ne) (fun _ => by simp [go_sem, *]) (fun K hy => ?_); go_simp; (try w_num); refine hy _ ?_; clear hy K; walk_nrm
      refine qs_val rfl rfl (by k_ne) (fun _ => by simp [go_sem, *]) (fun K hy => ?_); go_simp; (try w_num); refine hy _ ?_; clear hy K; walk_nrm
      refine qs_val rfl rfl (by k_ne) (fun _ => by simp [go_sem, *]) (fun K hy => ?_); go_simp; (try w_num); refine hy _ ?_; clear hy K; walk_nrm
      refine qs_val rfl rfl (by k_ne) (fun _ => by simp [go_sem, *]) (fun K hy => ?_); go_simp; (try w_num); refine hy _ ?_; clear hy K; walk_nrm
      refine qs_ctl rfl (fun _ => stepG_unwanted rfl rfl) ?_; walk_nrm
      refine qs_ctl rfl (fun _ => stepG_unwanted rfl rfl) ?_; walk_nrm
      refine qs_val rfl rfl (by k_ne) (fun _ => by simp [go_sem, *]) (fun K hy => ?_); go_simp; (try w_num); refine hy _ ?_; clear hy K; walk_nrm
      refine qs_ctl rfl (fun _ => stepG_region_end) ?_
      refine qs_ctl rfl (fun _ => stepG_cond (t := false) rfl) ?_; simp only [if_true, if_false, Bool.false_eq_true, ↓reduceIte]
      refine qs_ctl rfl (fun _ => stepG_skip) ?_
      refine qs_ctl rfl (fun _ => stepG_seq) ?_
      refine qs_ctl rfl (fun _ => stepG_region) ?_; simp only [List.size_toArray, List.length_cons, List.length_nil, Nat.reduceAdd, Nat.zero_add, List.range, List.range.loop]
      refine qs_val rfl rfl (by k_ne) (fun _ => by simp [go_sem, *]) (fun K hy => ?_); go_simp; (try w_num); refine hy _ ?_; clear hy K; walk_nrm
      refine qs_val rfl rfl (by k_ne) (fun _ => by simp [go_sem, *]) (fun K hy => ?_); go_simp; (try w_num); refine hy _ ?_; clear hy K; walk_nrm
      refine qs_val rfl rfl (by k_ne) (fun _ => by simp [go_sem, *]) (fun K hy => ?_); go_simp; (try w_num); refine hy _ ?_; clear hy K; walk_nrm
      refine qs_val rfl rfl (by k_ne) (fun _ => by simp [go_sem, *]) (fun K hy => ?_); go_simp; (try w_num); refine hy _ ?_; clear hy K; walk_nrm
      refine qs_ctl rfl (fun _ => stepG_region_end) ?_
      refine qs_ctl rfl (fun _ => stepG_seq) ?_
      refine qs_ctl rfl (fun _ => stepG_region) ?_; simp only [List.size_toArray, List.length_cons, List.length_nil, Nat.reduceAdd, Nat.zero_add, List.range, List.range.loop]
      refine qs_val rfl rfl (by k_ne) (fun _ => by simp [go_sem, *]) (fun K hy => ?_); go_simp; (try w_num); refine hy _ ?_; clear hy K; walk_nrm
      refine qs_val rfl rfl (by k_ne) (fun _ => by simp [go_sem, *]) (fun K hy => ?_); go_simp; (try w_num); refine hy _ ?_; clear hy K; walk_nrm
      refine qs_val rfl rfl (by k_ne) (fun _ => by simp [go_sem, *]) (fun K hy => ?_); go_simp; (try w_num); refine hy _ ?_; clear hy K; walk_nrm
      refine qs_val rfl rfl (by k_ne) (fun _ => by simp [go_sem, *]) (fun K hy => ?_); go_simp; (try w_num); refine hy _ ?_; clear hy K; walk_nrm
      refine qs_ctl rfl (fun _ => stepG_region_end) ?_
      refine qs_ctl rfl (fun _ => stepG_seq) ?_
      refine qs_ctl rfl (fun _ => stepG_seq) ?_
      refine qs_ctl rfl (fun _ => stepG_region) ?_; simp only [List.size_toArray, List.length_cons, List.length_nil, Nat.reduceAdd, Nat.zero_add, List.range, List.range.loop]
      refine qs_val rfl rfl (by k_ne) (fun _ => by simp [go_sem, *]) (fun K hy => ?_); go_simp; (try w_num); refine hy _ ?_; clear hy K; walk_nrm
      refine qs_val rfl rfl (by k_ne) (fun _ => by simp [go_sem, *]) (fun K hy => ?_); go_simp; (try w_num); refine hy _ ?_; clear hy K; walk_nrm
      refine qs_val rfl rfl (by k_ne) (fun _ => by simp [go_sem, *]) (fun K hy => ?_); go_simp; (try w_num); refine hy _ ?_; clear hy K; walk_nrm
      refine qs_val rfl rfl (by k_ne) (fun _ => by simp [go_sem, *]) (fun K hy => ?_); go_simp; (try w_num); refine hy _ ?_; clear hy K; walk_nrm
      refine qs_val rfl rfl (by k_ne) (fun _ => by simp [go_sem, *]) (fun K hy => ?_); go_simp; (try w_num); refine hy _ ?_; clear hy K; walk_nrm
      refine qs_ctl rfl (fun _ => stepG_unwanted rfl rfl) ?_; walk_nrm
      refine qs_ctl rfl (fun _ => stepG_unwanted rfl rfl) ?_; walk_nrm
      refine qs_ctl rfl (fun _ => stepG_unwanted rfl rfl) ?_; walk_nrm
      refine qs_ctl rfl (fun _ => stepG_unwanted rfl rfl) ?_; walk_nrm
      refine qs_val rfl rfl (by k_ne) (fun _ => by simp [go_sem, *]) (fun K hy => ?_); go_simp; (try w_num); refine hy _ ?_; clear hy K; walk_nrm
      refine qs_ctl rfl (fun _ => stepG_region_end) ?_
      refine qs_ctl rfl (fun _ => stepG_cond (t := false) rfl) ?_; simp only [if_true, if_false, Bool.false_eq_true, ↓reduceIte]
      refine qs_ctl rfl (fun _ => stepG_skip) ?_
      refine qs_ctl rfl (fun _ => stepG_seq) ?_
      refine qs_ctl rfl (fun _ => stepG_seq) ?_
      refine qs_ctl rfl (fun _ => stepG_region) ?_; simp only [List.size_toArray, List.length_cons, List.length_nil, Nat.reduceAdd, Nat.zero_add, List.range, List.range.loop]
      refine qs_val rfl rfl (by k_ne) (fun _ => by simp [go_sem, *]) (fun K hy => ?_); go_simp; (try w_num); refine hy _ ?_; clear hy K; walk_nrm
      refine qs_val rfl rfl (by k_ne) (fun _ => by simp [go_sem, *]) (fun K hy => ?_); go_simp; (try w_num); refine hy _ ?_; clear hy K; walk_nrm
      refine qs_ctl rfl (fun _ => stepG_region_end) ?_
      refine qs_ctl rfl (fun _ => stepG_cond (t := false) rfl) ?_; simp only [if_true, if_false, Bool.false_eq_true, ↓reduceIte]
      refine qs_ctl rfl (fun _ => stepG_skip) ?_
      refine qs_ctl rfl (fun _ => stepG_seq) ?_
      refine qs_ctl rfl (fun _ => stepG_seq) ?_
      refine qs_ctl rfl (fun _ => stepG_region) ?_; simp only [List.size_toArray, List.length_cons, List.length_nil, Nat.reduceAdd, Nat.zero_add, List.range, List.range.loop]
      refine qs_val rfl rfl (by k_ne) (fun _ => by simp [go_sem, *]) (fun K hy => ?_); go_simp; (try w_num); refine hy _ ?_; clear hy K; walk_nrm
      refine qs_val rfl rfl (by k_ne) (fun _ => by simp [go_sem, *]) (fun K hy => ?_); go_simp; (try w_num); refine hy _ ?_; clear hy K; walk_nrm
      refine qs_val rfl rfl (by k_ne) (fun _ => by simp [go_sem, *]) (fun K hy => ?_); go_simp; (try w_num); refine hy _ ?_; clear hy K; walk_nrm
      refine qs_ctl rfl (fun _ => stepG_unwanted rfl rfl) ?_; walk_nrm
      refine qs_ctl rfl (fun _ => stepG_unwanted rfl rfl) ?_; walk_nrm
      refine qs_val rfl rfl (by k_ne) (fun _ => by simp [go_sem, *]) (fun K hy => ?_); go_simp; (try w_num); refine hy _ ?_; clear hy K; walk_nrm
      refine qs_val rfl rfl (by k_ne) (fun _ => by simp [go_sem, *]) (fun K hy => ?_); go_simp; (try w_num); refine hy _ ?_; clear hy K; walk_nrm
      refine qs_ctl rfl (fun _ => stepG_unwanted rfl rfl) ?_; walk_nrm
      refine qs_ctl rfl (fun _ => stepG_unwanted rfl rfl) ?_; walk_nrm
      refine qs_ctl rfl (fun _ => stepG_unwanted rfl rfl) ?_; walk_nrm
      refine qs_ctl rfl (fun _ => stepG_unwanted rfl rfl) ?_; walk_nrm
      refine qs_val rfl rfl (by k_ne) (fun _ => by simp [go_sem, *]) (fun K hy => ?_); go_simp; (try w_num); refine hy _ ?_; clear hy K; walk_nrm
      refine qs_ctl rfl (fun _ => stepG_region_end) ?_
      refine qs_ctl rfl (fun _ => stepG_cond (t := false) rfl) ?_; simp only [if_true, if_false, Bool.false_eq_true, ↓reduceIte]
      refine qs_ctl rfl (fun _ => stepG_skip) ?_
      refine qs_ctl rfl (fun _ => stepG_seq) ?_
      refine qs_ctl rfl (fun _ => stepG_seq) ?_
      refine qs_ctl rfl (fun _ => stepG_region) ?_; simp only [List.size_toArray, List.length_cons, List.length_nil, Nat.reduceAdd, Nat.zero_add, List.range, List.range.loop]
      refine qs_val rfl rfl (by k_ne) (fun _ => by simp [go_sem, *]) (fun K hy => ?_); go_simp; (try w_num); refine hy _ ?_; clear hy K; walk_nrm
      refine qs_val rfl rfl (by k_ne) (fun _ => by simp [go_sem, *]) (fun K hy => ?_); go_simp; (try w_num); refine hy _ ?_; clear hy K; walk_nrm
      refine qs_val rfl rfl (by k_ne) (fun _ => by simp [go_sem, *]) (fun K hy => ?_); go_simp; (try w_num); refine hy _ ?_; clear hy K; walk_nrm
      refine qs_val rfl rfl (by k_ne) (fun _ => by simp [go_sem, *]) (fun K hy => ?_); go_simp; (try w_num); refine hy _ ?_; clear hy K; walk_nrm
      refine qs_val rfl rfl (by k_ne) (fun _ => by simp [go_sem, *]) (fun K hy => ?_); go_simp; (try w_num); refine hy _ ?_; clear hy K; walk_nrm
      refine qs_val rfl rfl (by k_ne) (fun _ => by simp [go_sem, *]) (fun K hy => ?_); go_simp; (try w_num); refine hy _ ?_; clear hy K; walk_nrm
      refine qs_ctl rfl (fun _ => stepG_region_end) ?_
      refine qs_ctl rfl (fun _ => stepG_cond (t := true) rfl) ?_; simp only [if_true, if_false, Bool.false_eq_true, ↓reduceIte]
      refine qs_ctl rfl (fun _ => stepG_ret') ?_
      refine qs_enable H rfl ?_
      refine qs_ctl rfl (fun _ => st_leave0 rfl rfl H.f_add rfl) ?_; walk_nrm
      refine qs_ctl rfl (fun _ => stepG_region_end) ?_
      refine qs_ctl rfl (fun _ => stepG_end) ?_
      exact ⟨_, .leaveD rfl rfl H.f_done rfl hcm hT⟩
    · have hb6 : decide (0 < (v : Int)) = true := by simp; omega
      obtain rfl | rfl : wt = 0 ∨ wt = 1 := by omega
      · skip
        refine qs_val rfl rfl (by k_ne) (fun _ => by simp [go_sem, *]) (fun K hy => ?_); go_simp; (try w_num); refine hy _ ?_; clear hy K; walk_nrm
        refine qs_ctl rfl (fun _ => stepG_region_end) ?_
        refine qs_ctl rfl (fun _ => stepG_ret') ?_
        refine qs_ctl rfl (fun _ => st_leave1 rfl rfl H.f_uAdd rfl) ?_; walk_nrm
        refine qs_val rfl rfl (by k_ne) (fun _ => by simp [go_sem, *]) (fun K hy => ?_); go_simp; (try w_num); refine hy _ ?_; clear hy K; walk_nrm
        refine qs_ctl rfl (fun _ => stepG_region_end) ?_
        refine qs_ctl rfl (fun _ => stepG_seq) ?_
        refine qs_ctl rfl (fun _ => stepG_seq) ?_
        refine qs_ctl rfl (fun _ => stepG_region) ?_; simp only [List.size_toArray, List.length_cons, List.length_nil, Nat.reduceAdd, Nat.zero_add, List.range, List.range.loop]
        refine qs_val rfl rfl (by k_ne) (fun _ => by simp [go_sem, *]) (fun K hy => ?_); go_simp; (try w_num); refine hy _ ?_; clear hy K; walk_nrm
        refine qs_val rfl rfl (by k_ne) (fun _ => by simp [go_sem, *]) (fun K hy => ?_); go_simp; (try w_num); refine hy _ ?_; clear hy K; walk_nrm
        refine qs_val rfl rfl (by k_ne) (fun _ => by simp [go_sem, *]) (fun K hy => ?_); go_simp; (try w_num); refine hy _ ?_; clear hy K; walk_nrm
        refine qs_val rfl rfl (by k_ne) (fun _ => by simp [go_sem, *]) (fun K hy => ?_); go_simp; (try w_num); refine hy _ ?_; clear hy K; walk_nrm
        refine qs_ctl rfl (fun _ => stepG_unwanted rfl rfl) ?_; walk_nrm
        refine qs_ctl rfl (fun _ => stepG_unwanted rfl rfl) ?_; walk_nrm
        refine qs_val rfl rfl (by k_ne) (fun _ => by simp [go_sem, *]) (fun K hy => ?_); go_simp; (try w_num); refine hy _ ?_; clear hy K; walk_nrm
        refine qs_ctl rfl (fun _ => stepG_region_end) ?_
        refine qs_ctl rfl (fun _ => stepG_cond (t := false) rfl) ?_; simp only [if_true, if_false, Bool.false_eq_true, ↓reduceIte]
        refine qs_ctl rfl (fun _ => stepG_skip) ?_
        refine qs_ctl rfl (fun _ => stepG_seq) ?_
        refine qs_ctl rfl (fun _ => stepG_region) ?_; simp only [List.size_toArray, List.length_cons, List.length_nil, Nat.reduceAdd, Nat.zero_add, List.range, List.range.loop]
        refine qs_val rfl rfl (by k_ne) (fun _ => by simp [go_sem, *]) (fun K hy => ?_); go_simp; (try w_num); refine hy _ ?_; clear hy K; walk_nrm
        refine qs_val rfl rfl (by k_ne) (fun _ => by simp [go_sem, *]) (fun K hy => ?_); go_simp; (try w_num); refine hy _ ?_; clear hy K; walk_nrm
        refine qs_val rfl rfl (by k_ne) (fun _ => by simp [go_sem, *]) (fun K hy => ?_); go_simp; (try w_num); refine hy _ ?_; clear hy K; walk_nrm
        refine qs_val rfl rfl (by k_ne) (fun _ => by simp [go_sem, *]) (fun K hy => ?_); go_simp; (try w_num); refine hy _ ?_; clear hy K; walk_nrm
        refine qs_ctl rfl (fun _ => stepG_region_end) ?_
        refine qs_ctl rfl (fun _ => stepG_seq) ?_
        refine qs_ctl rfl (fun _ => stepG_region) ?_; simp only [List.size_toArray, List.length_cons, List.length_nil, Nat.reduceAdd, Nat.zero_add, List.range, List.range.loop]
        refine qs_val rfl rfl (by k_ne) (fun _ => by simp [go_sem, *]) (fun K hy => ?_); go_simp; (try w_num); refine hy _ ?_; clear hy K; walk_nrm
        refine qs_val rfl rfl (by k_ne) (fun _ => by simp [go_sem, *]) (fun K hy => ?_); go_simp; (try w_num); refine hy _ ?_; clear hy K; walk_nrm
        refine qs_val rfl rfl (by k_ne) (fun _ => by simp [go_sem, *]) (fun K hy => ?_); go_simp; (try w_num); refine hy _ ?_; clear hy K; walk_nrm
        refine qs_val rfl rfl (by k_ne) (fun _ => by simp [go_sem, *]) (fun K hy => ?_); go_simp; (try w_num); refine hy _ ?_; clear hy K; walk_nrm
        refine qs_ctl rfl (fun _ => stepG_region_end) ?_
        refine qs_ctl rfl (fun _ => stepG_seq) ?_
        refine qs_ctl rfl (fun _ => stepG_seq) ?_
        refine qs_ctl rfl (fun _ => stepG_region) ?_; simp only [List.size_toArray, List.length_cons, List.length_nil, Nat.reduceAdd, Nat.zero_add, List.range, List.range.loop]
        refine qs_val rfl rfl (by k_ne) (fun _ => by simp [go_sem, *]) (fun K hy => ?_); go_simp; (try w_num); refine hy _ ?_; clear hy K; walk_nrm
        refine qs_val rfl rfl (by k_ne) (fun _ => by simp [go_sem, *]) (fun K hy => ?_); go_simp; (try w_num); refine hy _ ?_; clear hy K; walk_nrm
        refine qs_val rfl rfl (by k_ne) (fun _ => by simp [go_sem, *]) (fun K hy => ?_); go_simp; (try w_num); refine hy _ ?_; clear hy K; walk_nrm
        refine qs_val rfl rfl (by k_ne) (fun _ => by simp [go_sem, *]) (fun K hy => ?_); go_simp; (try w_num); refine hy _ ?_; clear hy K; walk_nrm
        refine qs_val rfl rfl (by k_ne) (fun _ => by simp [go_sem, *]) (fun K hy => ?_); go_simp; (try w_num); refine hy _ ?_; clear hy K; walk_nrm
        refine qs_ctl rfl (fun _ => stepG_unwanted rfl rfl) ?_; walk_nrm
        refine qs_ctl rfl (fun _ => stepG_unwanted rfl rfl) ?_; walk_nrm
        refine qs_ctl rfl (fun _ => stepG_unwanted rfl rfl) ?_; walk_nrm
        refine qs_ctl rfl (fun _ => stepG_unwanted rfl rfl) ?_; walk_nrm
        refine qs_val rfl rfl (by k_ne) (fun _ => by simp [go_sem, *]) (fun K hy => ?_); go_simp; (try w_num); refine hy _ ?_; clear hy K; walk_nrm
        refine qs_ctl rfl (fun _ => stepG_region_end) ?_
        refine qs_ctl rfl (fun _ => stepG_cond (t := false) rfl) ?_; simp only [if_true, if_false, Bool.false_eq_true, ↓reduceIte]
        refine qs_ctl rfl (fun _ => stepG_skip) ?_
        refine qs_ctl rfl (fun _ => stepG_seq) ?_
        refine qs_ctl rfl (fun _ => stepG_seq) ?_
        refine qs_ctl rfl (fun _ => stepG_region) ?_; simp only [List.size_toArray, List.length_cons, List.length_nil, Nat.reduceAdd, Nat.zero_add, List.range, List.range.loop]
        refine qs_val rfl rfl (by k_ne) (fun _ => by simp [go_sem, *]) (fun K hy => ?_); go_simp; (try w_num); refine hy _ ?_; clear hy K; walk_nrm
        refine qs_val rfl rfl (by k_ne) (fun _ => by simp [go_sem, *]) (fun K hy => ?_); go_simp; (try w_num); refine hy _ ?_; clear hy K; walk_nrm
        refine qs_ctl rfl (fun _ => stepG_region_end) ?_
        refine qs_ctl rfl (fun _ => stepG_cond (t := false) rfl) ?_; simp only [if_true, if_false, Bool.false_eq_true, ↓reduceIte]
        refine qs_ctl rfl (fun _ => stepG_skip) ?_
        refine qs_ctl rfl (fun _ => stepG_seq) ?_
        refine qs_ctl rfl (fun _ => stepG_seq) ?_
        refine qs_ctl rfl (fun _ => stepG_region) ?_; simp only [List.size_toArray, List.length_cons, List.length_nil, Nat.reduceAdd, Nat.zero_add, List.range, List.range.loop]
        refine qs_val rfl rfl (by k_ne) (fun _ => by simp [go_sem, *]) (fun K hy => ?_); go_simp; (try w_num); refine hy _ ?_; clear hy K; walk_nrm
        refine qs_val rfl rfl (by k_ne) (fun _ => by simp [go_sem, *]) (fun K hy => ?_); go_simp; (try w_num); refine hy _ ?_; clear hy K; walk_nrm
        refine qs_val rfl rfl (by k_ne) (fun _ => by simp [go_sem, *]) (fun K hy => ?_); go_simp; (try w_num); refine hy _ ?_; clear hy K; walk_nrm
        refine qs_ctl rfl (fun _ => stepG_unwanted rfl rfl) ?_; walk_nrm
        refine qs_ctl rfl (fun _ => stepG_unwanted rfl rfl) ?_; walk_nrm
        refine qs_val rfl rfl (by k_ne) (fun _ => by simp [go_sem, *]) (fun K hy => ?_); go_simp; (try w_num); refine hy _ ?_; clear hy K; walk_nrm
        refine qs_val rfl rfl (by k_ne) (fun _ => by simp [go_sem, *]) (fun K hy => ?_); go_simp; (try w_num); refine hy _ ?_; clear hy K; walk_nrm
        refine qs_ctl rfl (fun _ => stepG_unwanted rfl rfl) ?_; walk_nrm
        refine qs_ctl rfl (fun _ => stepG_unwanted rfl rfl) ?_; walk_nrm
        refine qs_ctl rfl (fun _ => stepG_unwanted rfl rfl) ?_; walk_nrm
        refine qs_ctl rfl (fun _ => stepG_unwanted rfl rfl) ?_; walk_nrm
        refine qs_val rfl rfl (by k_ne) (fun _ => by simp [go_sem, *]) (fun K hy => ?_); go_simp; (try w_num); refine hy _ ?_; clear hy K; walk_nrm
        refine qs_ctl rfl (fun _ => stepG_region_end) ?_
        refine qs_ctl rfl (fun _ => stepG_cond (t := false) rfl) ?_; simp only [if_true, if_false, Bool.false_eq_true, ↓reduceIte]
        refine qs_ctl rfl (fun _ => stepG_skip) ?_
        refine qs_ctl rfl (fun _ => stepG_seq) ?_
        refine qs_ctl rfl (fun _ => stepG_seq) ?_
        refine qs_ctl rfl (fun _ => stepG_region) ?_; simp only [List.size_toArray, List.length_cons, List.length_nil, Nat.reduceAdd, Nat.zero_add, List.range, List.range.loop]
        refine qs_val rfl rfl (by k_ne) (fun _ => by simp [go_sem, *]) (fun K hy => ?_); go_simp; (try w_num); refine hy _ ?_; clear hy K; walk_nrm
        refine qs_val rfl rfl (by k_ne) (fun _ => by simp [go_sem, *]) (fun K hy => ?_); go_simp; (try w_num); refine hy _ ?_; clear hy K; walk_nrm
        refine qs_val rfl rfl (by k_ne) (fun _ => by simp [go_sem, *]) (fun K hy => ?_); go_simp; (try w_num); refine hy _ ?_; clear hy K; walk_nrm
        refine qs_ctl rfl (fun _ => stepG_unwanted rfl rfl) ?_; walk_nrm
        refine qs_ctl rfl (fun _ => stepG_unwanted rfl rfl) ?_; walk_nrm
        refine qs_val rfl rfl (by k_ne) (fun _ => by simp [go_sem, *]) (fun K hy => ?_); go_simp; (try w_num); refine hy _ ?_; clear hy K; walk_nrm
        refine qs_ctl rfl (fun _ => stepG_region_end) ?_
        refine qs_ctl rfl (fun _ => stepG_cond (t := true) rfl) ?_; simp only [if_true, if_false, Bool.false_eq_true, ↓reduceIte]
        refine qs_ctl rfl (fun _ => stepG_ret') ?_
        refine qs_enable H rfl ?_
        refine qs_ctl rfl (fun _ => st_leave0 rfl rfl H.f_add rfl) ?_; walk_nrm
        refine qs_ctl rfl (fun _ => stepG_region_end) ?_
        refine qs_ctl rfl (fun _ => stepG_end) ?_
        exact ⟨_, .leaveD rfl rfl H.f_done rfl hcm hT⟩
      · skip
        refine qs_val rfl rfl (by k_ne) (fun _ => by simp [go_sem, *]) (fun K hy => ?_); go_simp; (try w_num); refine hy _ ?_; clear hy K; walk_nrm
        refine qs_ctl rfl (fun _ => stepG_region_end) ?_
        refine qs_ctl rfl (fun _ => stepG_ret') ?_
        refine qs_ctl rfl (fun _ => st_leave1 rfl rfl H.f_uAdd rfl) ?_; walk_nrm
        refine qs_val rfl rfl (by k_ne) (fun _ => by simp [go_sem, *]) (fun K hy => ?_); go_simp; (try w_num); refine hy _ ?_; clear hy K; walk_nrm
        refine qs_ctl rfl (fun _ => stepG_region_end) ?_
        refine qs_ctl rfl (fun _ => stepG_seq) ?_
        refine qs_ctl rfl (fun _ => stepG_seq) ?_
        refine qs_ctl rfl (fun _ => stepG_region) ?_; simp only [List.size_toArray, List.length_cons, List.length_nil, Nat.reduceAdd, Nat.zero_add, List.range, List.range.loop]
        refine qs_val rfl rfl (by k_ne) (fun _ => by simp [go_sem, *]) (fun K hy => ?_); go_simp; (try w_num); refine hy _ ?_; clear hy K; walk_nrm
        refine qs_val rfl rfl (by k_ne) (fun _ => by simp [go_sem, *]) (fun K hy => ?_); go_simp; (try w_num); refine hy _ ?_; clear hy K; walk_nrm
        refine qs_val rfl rfl (by k_ne) (fun _ => by simp [go_sem, *]) (fun K hy => ?_); go_simp; (try w_num); refine hy _ ?_; clear hy K; walk_nrm
        refine qs_val rfl rfl (by k_ne) (fun _ => by simp [go_sem, *]) (fun K hy => ?_); go_simp; (try w_num); refine hy _ ?_; clear hy K; walk_nrm
        refine qs_ctl rfl (fun _ => stepG_unwanted rfl rfl) ?_; walk_nrm
        refine qs_ctl rfl (fun _ => stepG_unwanted rfl rfl) ?_; walk_nrm
        refine qs_val rfl rfl (by k_ne) (fun _ => by simp [go_sem, *]) (fun K hy => ?_); go_simp; (try w_num); refine hy _ ?_; clear hy K; walk_nrm
        refine qs_ctl rfl (fun _ => stepG_region_end) ?_
        refine qs_ctl rfl (fun _ => stepG_cond (t := false) rfl) ?_; simp only [if_true, if_false, Bool.false_eq_true, ↓reduceIte]
        refine qs_ctl rfl (fun _ => stepG_skip) ?_
        refine qs_ctl rfl (fun _ => stepG_seq) ?_
        refine qs_ctl rfl (fun _ => stepG_region) ?_; simp only [List.size_toArray, List.length_cons, List.length_nil, Nat.reduceAdd, Nat.zero_add, List.range, List.range.loop]
        refine qs_val rfl rfl (by k_ne) (fun _ => by simp [go_sem, *]) (fun K hy => ?_); go_simp; (try w_num); refine hy _ ?_; clear hy K; walk_nrm
        refine qs_val rfl rfl (by k_ne) (fun _ => by simp [go_sem, *]) (fun K hy => ?_); go_simp; (try w_num); refine hy _ ?_; clear hy K; walk_nrm
        refine qs_val rfl rfl (by k_ne) (fun _ => by simp [go_sem, *]) (fun K hy => ?_); go_simp; (try w_num); refine hy _ ?_; clear hy K; walk_nrm
        refine qs_val rfl rfl (by k_ne) (fun _ => by simp [go_sem, *]) (fun K hy => ?_); go_simp; (try w_num); refine hy _ ?_; clear hy K; walk_nrm
        refine qs_ctl rfl (fun _ => stepG_region_end) ?_
        refine qs_ctl rfl (fun _ => stepG_seq) ?_
        refine qs_ctl rfl (fun _ => stepG_region) ?_; simp only [List.size_toArray, List.length_cons, List.length_nil, Nat.reduceAdd, Nat.zero_add, List.range, List.range.loop]
        refine qs_val rfl rfl (by k_ne) (fun _ => by simp [go_sem, *]) (fun K hy => ?_); go_simp; (try w_num); refine hy _ ?_; clear hy K; walk_nrm
        refine qs_val rfl rfl (by k_ne) (fun _ => by simp [go_sem, *]) (fun K hy => ?_); go_simp; (try w_num); refine hy _ ?_; clear hy K; walk_nrm
        refine qs_val rfl rfl (by k_ne) (fun _ => by simp [go_sem, *]) (fun K hy => ?_); go_simp; (try w_num); refine hy _ ?_; clear hy K; walk_nrm
        refine qs_val rfl rfl (by k_ne) (fun _ => by simp [go_sem, *]) (fun K hy => ?_); go_simp; (try w_num); refine hy _ ?_; clear hy K; walk_nrm
        refine qs_ctl rfl (fun _ => stepG_region_end) ?_
        refine qs_ctl rfl (fun _ => stepG_seq) ?_
        refine qs_ctl rfl (fun _ => stepG_seq) ?_
        refine qs_ctl rfl (fun _ => stepG_region) ?_; simp only [List.size_toArray, List.length_cons, List.length_nil, Nat.reduceAdd, Nat.zero_add, List.range, List.range.loop]
        refine qs_val rfl rfl (by k_ne) (fun _ => by simp [go_sem, *]) (fun K hy => ?_); go_simp; (try w_num); refine hy _ ?_; clear hy K; walk_nrm
        refine qs_val rfl rfl (by k_ne) (fun _ => by simp [go_sem, *]) (fun K hy => ?_); go_simp; (try w_num); refine hy _ ?_; clear hy K; walk_nrm
        refine qs_val rfl rfl (by k_ne) (fun _ => by simp [go_sem, *]) (fun K hy => ?_); go_simp; (try w_num); refine hy _ ?_; clear hy K; walk_nrm
        refine qs_val rfl rfl (by k_ne) (fun _ => by simp [go_sem, *]) (fun K hy => ?_); go_simp; (try w_num); refine hy _ ?_; clear hy K; walk_nrm
        refine qs_val rfl rfl (by k_ne) (fun _ => by simp [go_sem, *]) (fun K hy => ?_); go_simp; (try w_num); refine hy _ ?_; clear hy K; walk_nrm
        refine qs_ctl rfl (fun _ => stepG_unwanted rfl rfl) ?_; walk_nrm
        refine qs_ctl rfl (fun _ => stepG_unwanted rfl rfl) ?_; walk_nrm
        refine qs_ctl rfl (fun _ => stepG_unwanted rfl rfl) ?_; walk_nrm
        refine qs_ctl rfl (fun _ => stepG_unwanted rfl rfl) ?_; walk_nrm
        refine qs_val rfl rfl (by k_ne) (fun _ => by simp [go_sem, *]) (fun K hy => ?_); go_simp; (try w_num); refine hy _ ?_; clear hy K; walk_nrm
        refine qs_ctl rfl (fun _ => stepG_region_end) ?_
        refine qs_ctl rfl (fun _ => stepG_cond (t := false) rfl) ?_; simp only [if_true, if_false, Bool.false_eq_true, ↓reduceIte]
        refine qs_ctl rfl (fun _ => stepG_skip) ?_
        refine qs_ctl rfl (fun _ => stepG_seq) ?_
        refine qs_ctl rfl (fun _ => stepG_seq) ?_
        refine qs_ctl rfl (fun _ => stepG_region) ?_; simp only [List.size_toArray, List.length_cons, List.length_nil, Nat.reduceAdd, Nat.zero_add, List.range, List.range.loop]
        refine qs_val rfl rfl (by k_ne) (fun _ => by simp [go_sem, *]) (fun K hy => ?_); go_simp; (try w_num); refine hy _ ?_; clear hy K; walk_nrm
        refine qs_val rfl rfl (by k_ne) (fun _ => by simp [go_sem, *]) (fun K hy => ?_); go_simp; (try w_num); refine hy _ ?_; clear hy K; walk_nrm
        refine qs_ctl rfl (fun _ => stepG_region_end) ?_
        refine qs_ctl rfl (fun _ => stepG_cond (t := false) rfl) ?_; simp only [if_true, if_false, Bool.false_eq_true, ↓reduceIte]
        refine qs_ctl rfl (fun _ => stepG_skip) ?_
        refine qs_ctl rfl (fun _ => stepG_seq) ?_
        refine qs_ctl rfl (fun _ => stepG_seq) ?_
        refine qs_ctl rfl (fun _ => stepG_region) ?_; simp only [List.size_toArray, List.length_cons, List.length_nil, Nat.reduceAdd, Nat.zero_add, List.range, List.range.loop]
        refine qs_val rfl rfl (by k_ne) (fun _ => by simp [go_sem, *]) (fun K hy => ?_); go_simp; (try w_num); refine hy _ ?_; clear hy K; walk_nrm
        refine qs_val rfl rfl (by k_ne) (fun _ => by simp [go_sem, *]) (fun K hy => ?_); go_simp; (try w_num); refine hy _ ?_; clear hy K; walk_nrm
        refine qs_val rfl rfl (by k_ne) (fun _ => by simp [go_sem, *]) (fun K hy => ?_); go_simp; (try w_num); refine hy _ ?_; clear hy K; walk_nrm
        refine qs_val rfl rfl (by k_ne) (fun _ => by simp [go_sem, *]) (fun K hy => ?_); go_simp; (try w_num); refine hy _ ?_; clear hy K; walk_nrm
        refine qs_val rfl rfl (by k_ne) (fun _ => by simp [go_sem, *]) (fun K hy => ?_); go_simp; (try w_num); refine hy _ ?_; clear hy K; walk_nrm
        refine qs_val rfl rfl (by k_ne) (fun _ => by simp [go_sem, *]) (fun K hy => ?_); go_simp; (try w_num); refine hy _ ?_; clear hy K; walk_nrm
        refine qs_val rfl rfl (by k_ne) (fun _ => by simp [go_sem, *]) (fun K hy => ?_); go_simp; (try w_num); refine hy _ ?_; clear hy K; walk_nrm
        refine qs_ctl rfl (fun _ => stepG_unwanted rfl rfl) ?_; walk_nrm
        refine qs_ctl rfl (fun _ => stepG_unwanted rfl rfl) ?_; walk_nrm
        refine qs_ctl rfl (fun _ => stepG_unwanted rfl rfl) ?_; walk_nrm
        refine qs_ctl rfl (fun _ => stepG_unwanted rfl rfl) ?_; walk_nrm
        refine qs_val rfl rfl (by k_ne) (fun _ => by simp [go_sem, *]) (fun K hy => ?_); go_simp; (try w_num); refine hy _ ?_; clear hy K; walk_nrm
        refine qs_ctl rfl (fun _ => stepG_region_end) ?_
        refine qs_ctl rfl (fun _ => stepG_cond (t := false) rfl) ?_; simp only [if_true, if_false, Bool.false_eq_true, ↓reduceIte]
        refine qs_ctl rfl (fun _ => stepG_skip) ?_
        refine qs_ctl rfl (fun _ => stepG_seq) ?_
        refine qs_ctl rfl (fun _ => stepG_seq) ?_
        refine qs_ctl rfl (fun _ => stepG_region) ?_; simp only [List.size_toArray, List.length_cons, List.length_nil, Nat.reduceAdd, Nat.zero_add, List.range, List.range.loop]
        refine qs_val rfl rfl (by k_ne) (fun _ => by simp [go_sem, *]) (fun K hy => ?_); go_simp; (try w_num); refine hy _ ?_; clear hy K; walk_nrm
        refine qs_val rfl rfl (by k_ne) (fun _ => by simp [go_sem, *]) (fun K hy => ?_); go_simp; (try w_num); refine hy _ ?_; clear hy K; walk_nrm
        refine qs_val rfl rfl (by k_ne) (fun _ => by simp [go_sem, *]) (fun K hy => ?_); go_simp; (try w_num); refine hy _ ?_; clear hy K; walk_nrm
        refine qs_ctl rfl (fun _ => stepG_unwanted rfl rfl) ?_; walk_nrm
        refine qs_ctl rfl (fun _ => stepG_unwanted rfl rfl) ?_; walk_nrm
        refine qs_val rfl rfl (by k_ne) (fun _ => by simp [go_sem, *]) (fun K hy => ?_); go_simp; (try w_num); refine hy _ ?_; clear hy K; walk_nrm
        refine qs_ctl rfl (fun _ => stepG_region_end) ?_
        refine qs_ctl rfl (fun _ => stepG_cond (t := true) rfl) ?_; simp only [if_true, if_false, Bool.false_eq_true, ↓reduceIte]
        refine qs_ctl rfl (fun _ => stepG_ret') ?_
        refine qs_enable H rfl ?_
        refine qs_ctl rfl (fun _ => st_leave0 rfl rfl H.f_add rfl) ?_; walk_nrm
        refine qs_ctl rfl (fun _ => stepG_region_end) ?_
        refine qs_ctl rfl (fun _ => stepG_end) ?_
        exact ⟨_, .leaveD rfl rfl H.f_done rfl hcm hT⟩
end Go.Town
