/-
  Add of 1, from its first step: by goroutine 0, which holds.
-/
import Derived.Conc.WgGenWait
import Derived.Test.YtihmcigoofhpmaaZap
set_option linter.all false
namespace Go.Town
open Go Go.Conc Go.Conc.Lib Go.ConcR.Gen Go.RowKit
section
variable (P : Program) (C : Cfg) (b o : Nat) (g₀ : Goroutine)
def Hw (St : Goroutine → World → Prop) (g : Goroutine) (w : World) : Prop := ∃ m, Goes P true (Out (hidOf C)) D0 (Stb (Out (hidOf C)) St) m g w
def AtA3 (g : Goroutine) (w : World) : Prop := g.status = .running ∧ ∃ g', stepG P true g w = .go g' w #[mkE .enable] ∧ ∃ m, Goes P true (Out (hidOf C)) D0 (fun g _ => g = g₀) m g' w
def AtRd (g : Goroutine) (w : World) : Prop := g.status = .running ∧ ∃ g', stepG P true g w = .go g' w #[mkE (.read ⟨b, o + 1, none⟩)] ∧ Hw P C (AtA3 P C g₀) g' w
def AtA1 (g : Goroutine) (w : World) : Prop :=
  g.status = .running ∧ ∀ v : Nat, v < 2147483646 → WgIs b o w (v * KK) 0 → ∃ g', stepG P true g w = .go g' (w.setCell ⟨b, o, none⟩ (.int .u64 ((v + 1 : Nat) * KK))) #[rdE ⟨b, o, none⟩, wrE ⟨b, o, none⟩] ∧
    (v = 0 → Hw P C (AtRd P C b o g₀) g' (w.setCell ⟨b, o, none⟩ (.int .u64 ((v + 1 : Nat) * KK)))) ∧ (v ≠ 0 → Hw P C (AtA3 P C g₀) g' (w.setCell ⟨b, o, none⟩ (.int .u64 ((v + 1 : Nat) * KK))))
def AtA0 (g : Goroutine) (w : World) : Prop := g.status = .running ∧ ∃ g', stepG P true g w = .go g' w #[mkE .disable] ∧ Hw P C (AtA1 P C b o g₀) g' w
end
set_option maxRecDepth 100000 in
set_option maxHeartbeats 8000000 in
theorem addWalk {L : WgLink} {P : Program} (H : WgLib P L) (C : Cfg) (b o : Nat) {b₀ : Frame} {a₀ : Act} {ops₀ : Array Oper} {i₀ : Nat} {rest₀ : List Nat} {k₀ : List Item} {cs : List Frame} :
    ∃ n, ∀ w, HasWg b o w → Goes P true (Out (hidOf C)) D0 (Stb (Out (hidOf C)) (AtA0 P C b o (G (b₀.at (a₀.put ((ops₀[i₀]?).bind (·.dst)) (.tuple #[])) (.inRegion ops₀ rest₀ :: k₀)) cs))) n
      (G ((base L.add).at ⟨#[.pointer (some ⟨b, o, none⟩), .int .i64 1] ++ Array.replicate 115 undef, []⟩ [.code ((addFn L).body.getD .skip)]) (b₀.at a₀ (.inRegion ops₀ (i₀ :: rest₀) :: k₀) :: cs)) w := by
  lib_facts
  have W := wkH C b o
  simp only [addFn, Option.getD_some]
  walk_nrm
  refine W.ctl rfl (fun _ => stepG_seq) ?_
  refine W.ctl rfl (fun _ => stepG_cond (t := true) rfl) ?_; simp only [if_true, if_false, Bool.false_eq_true, ↓reduceIte]
  refine W.ctl rfl (fun _ => stepG_seq) ?_
  refine W.ctl rfl (fun _ => stepG_seq) ?_
  refine W.ctl rfl (fun _ => stepG_region) ?_; simp only [List.size_toArray, List.length_cons, List.length_nil, Nat.reduceAdd, Nat.zero_add, List.range, List.range.loop]
  refine W.val rfl rfl (by k_ne) (fun _ => by simp [go_sem, *]) (fun K hy => ?_); go_simp; (try w_num); refine hy _ ?_; clear hy K; walk_nrm
  refine W.val rfl rfl (by k_ne) (fun _ => by simp [go_sem, *]) (fun K hy => ?_); go_simp; (try w_num); refine hy _ ?_; clear hy K; walk_nrm
  refine W.ctl rfl (fun _ => stepG_region_end) ?_
  refine W.ctl rfl (fun _ => stepG_cond (t := false) rfl) ?_; simp only [if_true, if_false, Bool.false_eq_true, ↓reduceIte]
  refine W.ctl rfl (fun _ => stepG_skip) ?_
  refine W.ctl rfl (fun _ => stepG_seq) ?_
  refine W.ctl rfl (fun _ => stepG_region) ?_; simp only [List.size_toArray, List.length_cons, List.length_nil, Nat.reduceAdd, Nat.zero_add, List.range, List.range.loop]
  refine W.stb fun w hK => ⟨rfl, _, stepG_mark0 .disable (by simp) rfl rfl (by k_ne) rfl H.f_disable (x_disable_n L) (x_disable_b L) (x_disable_x L) (x_disable_f L), Wk.here hK ?_⟩
  clear hK w
  walk_nrm
  refine W.ctl rfl (fun _ => stepG_region_end) ?_
  refine W.ctl rfl (fun _ => stepG_region) ?_; simp only [List.size_toArray, List.length_cons, List.length_nil, Nat.reduceAdd, Nat.zero_add, List.range, List.range.loop]
  refine W.ctl rfl (fun _ => stepG_defer rfl rfl (by k_ne) rfl) ?_; walk_nrm
  refine W.ctl rfl (fun _ => stepG_region_end) ?_
  refine W.ctl rfl (fun _ => stepG_seq) ?_
  refine W.ctl rfl (fun _ => stepG_region) ?_; simp only [List.size_toArray, List.length_cons, List.length_nil, Nat.reduceAdd, Nat.zero_add, List.range, List.range.loop]
  refine W.val rfl rfl (by k_ne) (fun _ => by simp [go_sem, *]) (fun K hy => ?_); go_simp; (try w_num); refine hy _ ?_; clear hy K; walk_nrm
  refine W.ctl rfl (fun _ => stepG_region_end) ?_
  refine W.ctl rfl (fun _ => stepG_seq) ?_
  refine W.ctl rfl (fun _ => stepG_seq) ?_
  refine W.ctl rfl (fun _ => stepG_region) ?_; simp only [List.size_toArray, List.length_cons, List.length_nil, Nat.reduceAdd, Nat.zero_add, List.range, List.range.loop]
  refine W.ctl rfl (fun _ => stepG_entry_pure (.bool false) rfl rfl (by k_ne) rfl H.f_inBubble (x_inBubble_n L) (x_inBubble_b L) (x_inBubble_x L) (x_inBubble_f L)) ?_; walk_nrm
  refine W.ctl rfl (fun _ => stepG_region_end) ?_
  refine W.ctl rfl (fun _ => stepG_cond (t := false) rfl) ?_; simp only [if_true, if_false, Bool.false_eq_true, ↓reduceIte]
  refine W.ctl rfl (fun _ => stepG_skip) ?_
  refine W.ctl rfl (fun _ => stepG_seq) ?_
  refine W.ctl rfl (fun _ => stepG_region) ?_; simp only [List.size_toArray, List.length_cons, List.length_nil, Nat.reduceAdd, Nat.zero_add, List.range, List.range.loop]
  refine W.val rfl rfl (by k_ne) (fun _ => by simp [go_sem, *]) (fun K hy => ?_); go_simp; (try w_num); refine hy _ ?_; clear hy K; walk_nrm
  refine W.val rfl rfl (by k_ne) (fun _ => by simp [go_sem, *]) (fun K hy => ?_); go_simp; (try w_num); refine hy _ ?_; clear hy K; walk_nrm
  refine W.val rfl rfl (by k_ne) (fun _ => by simp [go_sem, *]) (fun K hy => ?_); go_simp; (try w_num); refine hy _ ?_; clear hy K; walk_nrm
  refine W.val rfl rfl (by k_ne) (fun _ => by simp [go_sem, *]) (fun K hy => ?_); go_simp; (try w_num); refine hy _ ?_; clear hy K; walk_nrm
  refine W.val rfl rfl (by k_ne) (fun _ => by simp [go_sem, *]) (fun K hy => ?_); go_simp; (try w_num); refine hy _ ?_; clear hy K; walk_nrm
  refine W.val rfl rfl (by k_ne) (fun _ => by simp [go_sem, *]) (fun K hy => ?_); go_simp; (try w_num); refine hy _ ?_; clear hy K; walk_nrm
  refine W.ctl rfl (fun _ => st_call rfl rfl (by k_ne) rfl H.f_uAdd (nm_uAdd L) rfl) ?_; walk_nrmf uAddFn
  refine W.ctl rfl (fun _ => stepG_seq) ?_
  refine W.ctl rfl (fun _ => stepG_region) ?_; simp only [List.size_toArray, List.length_cons, List.length_nil, Nat.reduceAdd, Nat.zero_add, List.range, List.range.loop]
  refine W.val rfl rfl (by k_ne) (fun _ => by simp [go_sem, *]) (fun K hy => ?_); go_simp; (try w_num); refine hy _ ?_; clear hy K; walk_nrm
  refine W.ctl rfl (fun _ => stepG_region_end) ?_
  refine W.ctl rfl (fun _ => stepG_seq) ?_
  refine W.ctl rfl (fun _ => stepG_region) ?_; simp only [List.size_toArray, List.length_cons, List.length_nil, Nat.reduceAdd, Nat.zero_add, List.range, List.range.loop]
  refine W.val rfl rfl (by k_ne) (fun _ => by simp [go_sem, *]) (fun K hy => ?_); go_simp; (try w_num); refine hy _ ?_; clear hy K; walk_nrm
  refine W.val rfl rfl (by k_ne) (fun _ => by simp [go_sem, *]) (fun K hy => ?_); go_simp; (try w_num); refine hy _ ?_; clear hy K; walk_nrm
  refine W.val rfl rfl (by k_ne) (fun _ => by simp [go_sem, *]) (fun K hy => ?_); go_simp; (try w_num); refine hy _ ?_; clear hy K; walk_nrm
  refine W.val rfl rfl (by k_ne) (fun _ => by simp [go_sem, *]) (fun K hy => ?_); go_simp; (try w_num); refine hy _ ?_; clear hy K; walk_nrm
  refine W.stb fun w hK => ⟨rfl, fun v hv hw => ?_⟩
  have e0 : IntKind.u64.wrap ((v : Nat) * Go.Town.KK + 4294967296) = (v + 1 : Nat) * Go.Town.KK := by
    unfold Go.Town.KK; rw [IntKind.wrap_u64]; omega
  have hK' : HasWg b o (w.setCell ⟨b, o, none⟩ (.int .u64 ((v + 1 : Nat) * Go.Town.KK))) := Live.has ⟨_, _, hw.setSt _⟩
  refine ⟨_, (stepG_add_atomic rfl rfl (by k_ne) rfl H.f_addU64 (x_addU64_n L) (x_addU64_b L) (x_addU64_x L) .u64 (x_addU64_f L) rfl rfl hw.st hw.thaw.1).trans (by rw [e0]; rfl), fun hv0 => Wk.here hK' ?_, fun hv0 => Wk.here hK' ?_⟩
  · subst hv0
    clear hK' e0 hw hK hv
    rw [show (((0 + 1 : Nat) : Int) * Go.Town.KK) = 4294967296 from rfl]
    walk_nrm
    refine W.val rfl rfl (by k_ne) (fun _ => by simp [go_sem, *]) (fun K hy => ?_); go_simp; (try w_num); refine hy _ ?_; clear hy K; walk_nrm
    refine W.ctl rfl (fun _ => stepG_region_end) ?_
    refine W.ctl rfl (fun _ => stepG_ret') ?_
    refine W.ctl rfl (fun _ => st_leave1 rfl rfl H.f_uAdd rfl) ?_; walk_nrm
    refine W.val rfl rfl (by k_ne) (fun _ => by simp [go_sem, *]) (fun K hy => ?_); go_simp; (try w_num); refine hy _ ?_; clear hy K; walk_nrm
    refine W.ctl rfl (fun _ => stepG_region_end) ?_
    refine W.ctl rfl (fun _ => stepG_seq) ?_
    refine W.ctl rfl (fun _ => stepG_seq) ?_
    refine W.ctl rfl (fun _ => stepG_region) ?_; simp only [List.size_toArray, List.length_cons, List.length_nil, Nat.reduceAdd, Nat.zero_add, List.range, List.range.loop]
    refine W.val rfl rfl (by k_ne) (fun _ => by simp [go_sem, *]) (fun K hy => ?_); go_simp; (try w_num); refine hy _ ?_; clear hy K; walk_nrm
    refine W.val rfl rfl (by k_ne) (fun _ => by simp [go_sem, *]) (fun K hy => ?_); go_simp; (try w_num); refine hy _ ?_; clear hy K; walk_nrm
    refine W.val rfl rfl (by k_ne) (fun _ => by simp [go_sem, *]) (fun K hy => ?_); go_simp; (try w_num); refine hy _ ?_; clear hy K; walk_nrm
    refine W.val rfl rfl (by k_ne) (fun _ => by simp [go_sem, *]) (fun K hy => ?_); go_simp; (try w_num); refine hy _ ?_; clear hy K; walk_nrm
    refine W.ctl rfl (fun _ => stepG_unwanted rfl rfl) ?_; walk_nrm
    refine W.ctl rfl (fun _ => stepG_unwanted rfl rfl) ?_; walk_nrm
    refine W.val rfl rfl (by k_ne) (fun _ => by simp [go_sem, *]) (fun K hy => ?_); go_simp; (try w_num); refine hy _ ?_; clear hy K; walk_nrm
    refine W.ctl rfl (fun _ => stepG_region_end) ?_
    refine W.ctl rfl (fun _ => stepG_cond (t := false) rfl) ?_; simp only [if_true, if_false, Bool.false_eq_true, ↓reduceIte]
    refine W.ctl rfl (fun _ => stepG_skip) ?_
    refine W.ctl rfl (fun _ => stepG_seq) ?_
    refine W.ctl rfl (fun _ => stepG_region) ?_; simp only [List.size_toArray, List.length_cons, List.length_nil, Nat.reduceAdd, Nat.zero_add, List.range, List.range.loop]
    refine W.val rfl rfl (by k_ne) (fun _ => by simp [go_sem, *]) (fun K hy => ?_); go_simp; (try w_num); refine hy _ ?_; clear hy K; walk_nrm
    refine W.val rfl rfl (by k_ne) (fun _ => by simp [go_sem, *]) (fun K hy => ?_); go_simp; (try w_num); refine hy _ ?_; clear hy K; walk_nrm
    refine W.val rfl rfl (by k_ne) (fun _ => by simp [go_sem, *]) (fun K hy => ?_); go_simp; (try w_num); refine hy _ ?_; clear hy K; walk_nrm
    refine W.val rfl rfl (by k_ne) (fun _ => by simp [go_sem, *]) (fun K hy => ?_); go_simp; (try w_num); refine hy _ ?_; clear hy K; walk_nrm
    refine W.ctl rfl (fun _ => stepG_region_end) ?_
    refine W.ctl rfl (fun _ => stepG_seq) ?_
    refine W.ctl rfl (fun _ => stepG_region) ?_; simp only [List.size_toArray, List.length_cons, List.length_nil, Nat.reduceAdd, Nat.zero_add, List.range, List.range.loop]
    refine W.val rfl rfl (by k_ne) (fun _ => by simp [go_sem, *]) (fun K hy => ?_); go_simp; (try w_num); refine hy _ ?_; clear hy K; walk_nrm
    refine W.val rfl rfl (by k_ne) (fun _ => by simp [go_sem, *]) (fun K hy => ?_); go_simp; (try w_num); refine hy _ ?_; clear hy K; walk_nrm
    refine W.val rfl rfl (by k_ne) (fun _ => by simp [go_sem, *]) (fun K hy => ?_); go_simp; (try w_num); refine hy _ ?_; clear hy K; walk_nrm
    refine W.val rfl rfl (by k_ne) (fun _ => by simp [go_sem, *]) (fun K hy => ?_); go_simp; (try w_num); refine hy _ ?_; clear hy K; walk_nrm
    refine W.ctl rfl (fun _ => stepG_region_end) ?_
    refine W.ctl rfl (fun _ => stepG_seq) ?_
    refine W.ctl rfl (fun _ => stepG_seq) ?_
    refine W.ctl rfl (fun _ => stepG_region) ?_; simp only [List.size_toArray, List.length_cons, List.length_nil, Nat.reduceAdd, Nat.zero_add, List.range, List.range.loop]
    refine W.val rfl rfl (by k_ne) (fun _ => by simp [go_sem, *]) (fun K hy => ?_); go_simp; (try w_num); refine hy _ ?_; clear hy K; walk_nrm
    refine W.val rfl rfl (by k_ne) (fun _ => by simp [go_sem, *]) (fun K hy => ?_); go_simp; (try w_num); refine hy _ ?_; clear hy K; walk_nrm
    refine W.val rfl rfl (by k_ne) (fun _ => by simp [go_sem, *]) (fun K hy => ?_); go_simp; (try w_num); refine hy _ ?_; clear hy K; walk_nrm
    refine W.val rfl rfl (by k_ne) (fun _ => by simp [go_sem, *]) (fun K hy => ?_); go_simp; (try w_num); refine hy _ ?_; clear hy K; walk_nrm
    refine W.val rfl rfl (by k_ne) (fun _ => by simp [go_sem, *]) (fun K hy => ?_); go_simp; (try w_num); refine hy _ ?_; clear hy K; walk_nrm
    refine W.val rfl rfl (by k_ne) (fun _ => by simp [go_sem, *]) (fun K hy => ?_); go_simp; (try w_num); refine hy _ ?_; clear hy K; walk_nrm
    refine W.val rfl rfl (by k_ne) (fun _ => by simp [go_sem, *]) (fun K hy => ?_); go_simp; (try w_num); refine hy _ ?_; clear hy K; walk_nrm
    refine W.val rfl rfl (by k_ne) (fun _ => by simp [go_sem, *]) (fun K hy => ?_); go_simp; (try w_num); refine hy _ ?_; clear hy K; walk_nrm
    refine W.val rfl rfl (by k_ne) (fun _ => by simp [go_sem, *]) (fun K hy => ?_); go_simp; (try w_num); refine hy _ ?_; clear hy K; walk_nrm
    refine W.val rfl rfl (by k_ne) (fun _ => by simp [go_sem, *]) (fun K hy => ?_); go_simp; (try w_num); refine hy _ ?_; clear hy K; walk_nrm
    refine W.ctl rfl (fun _ => stepG_region_end) ?_
    refine W.ctl rfl (fun _ => stepG_cond (t := true) rfl) ?_; simp only [if_true, if_false, Bool.false_eq_true, ↓reduceIte]
    refine W.ctl rfl (fun _ => stepG_region) ?_; simp only [List.size_toArray, List.length_cons, List.length_nil, Nat.reduceAdd, Nat.zero_add, List.range, List.range.loop]
    refine W.val rfl rfl (by k_ne) (fun _ => by simp [go_sem, *]) (fun K hy => ?_); go_simp; (try w_num); refine hy _ ?_; clear hy K; walk_nrm
    refine W.val rfl rfl (by k_ne) (fun _ => by simp [go_sem, *]) (fun K hy => ?_); go_simp; (try w_num); refine hy _ ?_; clear hy K; walk_nrm
    refine W.val rfl rfl (by k_ne) (fun _ => by simp [go_sem, *]) (fun K hy => ?_); go_simp; (try w_num); refine hy _ ?_; clear hy K; walk_nrm
    refine W.valI (.pointer (some ⟨b, o + 1, none⟩)) rfl rfl (by k_ne) (fun w hw => ?_) ?_
    · have hcv := run_convert_to_unsafe (P := P) H.underlying_tPU32 H.underlying_tUP H.room_tU32 hw.2.choose_spec
      have hce := fun es => events_convert_to_unsafe (P := P) H.underlying_tPU32 H.underlying_tUP H.room_tU32 hw.2.choose_spec es
      refine ⟨?_, ?_⟩
      · go_simp
      · simp [go_sem, hce, *]
    walk_nrm
    refine W.stb fun w hK => ⟨rfl, _, stepG_markAt .read (by simp) rfl rfl (by k_ne) rfl H.f_raceRead (x_raceRead_n L) (x_raceRead_b L) (x_raceRead_x L) (x_raceRead_f L) (by simp [Act.eval]), Wk.here hK ?_⟩
    clear hK w
    walk_nrm
    refine W.ctl rfl (fun _ => stepG_region_end) ?_
    refine W.ctl rfl (fun _ => stepG_seq) ?_
    refine W.ctl rfl (fun _ => stepG_seq) ?_
    refine W.ctl rfl (fun _ => stepG_region) ?_; simp only [List.size_toArray, List.length_cons, List.length_nil, Nat.reduceAdd, Nat.zero_add, List.range, List.range.loop]
    refine W.val rfl rfl (by k_ne) (fun _ => by simp [go_sem, *]) (fun K hy => ?_); go_simp; (try w_num); refine hy _ ?_; clear hy K; walk_nrm
    refine W.val rfl rfl (by k_ne) (fun _ => by simp [go_sem, *]) (fun K hy => ?_); go_simp; (try w_num); refine hy _ ?_; clear hy K; walk_nrm
    refine W.ctl rfl (fun _ => stepG_region_end) ?_
    refine W.ctl rfl (fun _ => stepG_cond (t := false) rfl) ?_; simp only [if_true, if_false, Bool.false_eq_true, ↓reduceIte]
    refine W.ctl rfl (fun _ => stepG_skip) ?_
    refine W.ctl rfl (fun _ => stepG_seq) ?_
    refine W.ctl rfl (fun _ => stepG_seq) ?_
    refine W.ctl rfl (fun _ => stepG_region) ?_; simp only [List.size_toArray, List.length_cons, List.length_nil, Nat.reduceAdd, Nat.zero_add, List.range, List.range.loop]
    refine W.val rfl rfl (by k_ne) (fun _ => by simp [go_sem, *]) (fun K hy => ?_); go_simp; (try w_num); refine hy _ ?_; clear hy K; walk_nrm
    refine W.val rfl rfl (by k_ne) (fun _ => by simp [go_sem, *]) (fun K hy => ?_); go_simp; (try w_num); refine hy _ ?_; clear hy K; walk_nrm
    refine W.val rfl rfl (by k_ne) (fun _ => by simp [go_sem, *]) (fun K hy => ?_); go_simp; (try w_num); refine hy _ ?_; clear hy K; walk_nrm
    refine W.ctl rfl (fun _ => stepG_unwanted rfl rfl) ?_; walk_nrm
    refine W.ctl rfl (fun _ => stepG_unwanted rfl rfl) ?_; walk_nrm
    refine W.val rfl rfl (by k_ne) (fun _ => by simp [go_sem, *]) (fun K hy => ?_); go_simp; (try w_num); refine hy _ ?_; clear hy K; walk_nrm
    refine W.val rfl rfl (by k_ne) (fun _ => by simp [go_sem, *]) (fun K hy => ?_); go_simp; (try w_num); refine hy _ ?_; clear hy K; walk_nrm
    refine W.ctl rfl (fun _ => stepG_unwanted rfl rfl) ?_; walk_nrm
    refine W.ctl rfl (fun _ => stepG_unwanted rfl rfl) ?_; walk_nrm
    refine W.ctl rfl (fun _ => stepG_unwanted rfl rfl) ?_; walk_nrm
    refine W.ctl rfl (fun _ => stepG_unwanted rfl rfl) ?_; walk_nrm
    refine W.val rfl rfl (by k_ne) (fun _ => by simp [go_sem, *]) (fun K hy => ?_); go_simp; (try w_num); refine hy _ ?_; clear hy K; walk_nrm
    refine W.ctl rfl (fun _ => stepG_region_end) ?_
    refine W.ctl rfl (fun _ => stepG_cond (t := false) rfl) ?_; simp only [if_true, if_false, Bool.false_eq_true, ↓reduceIte]
    refine W.ctl rfl (fun _ => stepG_skip) ?_
    refine W.ctl rfl (fun _ => stepG_seq) ?_
    refine W.ctl rfl (fun _ => stepG_seq) ?_
    refine W.ctl rfl (fun _ => stepG_region) ?_; simp only [List.size_toArray, List.length_cons, List.length_nil, Nat.reduceAdd, Nat.zero_add, List.range, List.range.loop]
    refine W.val rfl rfl (by k_ne) (fun _ => by simp [go_sem, *]) (fun K hy => ?_); go_simp; (try w_num); refine hy _ ?_; clear hy K; walk_nrm
    refine W.val rfl rfl (by k_ne) (fun _ => by simp [go_sem, *]) (fun K hy => ?_); go_simp; (try w_num); refine hy _ ?_; clear hy K; walk_nrm
    refine W.val rfl rfl (by k_ne) (fun _ => by simp [go_sem, *]) (fun K hy => ?_); go_simp; (try w_num); refine hy _ ?_; clear hy K; walk_nrm
    refine W.ctl rfl (fun _ => stepG_unwanted rfl rfl) ?_; walk_nrm
    refine W.ctl rfl (fun _ => stepG_unwanted rfl rfl) ?_; walk_nrm
    refine W.val rfl rfl (by k_ne) (fun _ => by simp [go_sem, *]) (fun K hy => ?_); go_simp; (try w_num); refine hy _ ?_; clear hy K; walk_nrm
    refine W.ctl rfl (fun _ => stepG_region_end) ?_
    refine W.ctl rfl (fun _ => stepG_cond (t := true) rfl) ?_; simp only [if_true, if_false, Bool.false_eq_true, ↓reduceIte]
    refine W.ctl rfl (fun _ => stepG_ret') ?_
    refine W.stb fun w hK => ⟨rfl, _, stepG_unwind_entry (v := .tuple #[]) (evs := #[mkE .enable]) rfl H.f_enable (x_enable_n L) (x_enable_b L) (x_enable_x L) (x_enable_f L) (by simp [Extern.Race.none_]) (by simp [mkE]) (by simp [mkE]), Wk.here hK ?_⟩
    refine W.ctl rfl (fun _ => st_leave0 rfl rfl H.f_add rfl) ?_
    exact W.stop fun w _ => rfl
  · obtain ⟨S, hS⟩ : ∃ S : Int, S = ((v + 1 : Nat) : Int) * 4294967296 := ⟨_, rfl⟩
    have hSK : ((v + 1 : Nat) : Int) * Go.Town.KK = S := hS.symm
    have hb1 : bits .and .u64 S 2147483648 = 0 := by have := Go.ConcN.st_flag (v + 1) 0 (by omega) (by omega); rw [hS]; simpa using this
    have hb2 : bits .and .u64 S 2147483647 = 0 := by have := Go.ConcN.st_waiters (v + 1) 0 (by omega) (by omega); rw [hS]; simpa using this
    obtain ⟨V, hV⟩ : ∃ V : Int, V = ((v + 1 : Nat) : Int) := ⟨_, rfl⟩
    have hb3 : S / 4294967296 = V := by omega
    have hb4 : IntKind.i32.wrap V = V := by rw [IntKind.wrap_i32]; omega
    have hb5 : decide (V < 0) = false := by simp; omega
    have hb6 : decide (0 < V) = true := by simp; omega
    have hb7 : (V = 1) = False := by simp; omega
    have hb8 : decide (V = 1) = false := by simp; omega
    have hb9 : (V == (1 : Int)) = false := by simp; omega
    rw [hSK]
    clear hS hSK hV hK' e0 hw hK hv hv0
    walk_nrm
    refine W.val rfl rfl (by k_ne) (fun _ => by simp [go_sem, *]) (fun K hy => ?_); go_simp; (try w_num); refine hy _ ?_; clear hy K; walk_nrm
    refine W.ctl rfl (fun _ => stepG_region_end) ?_
    refine W.ctl rfl (fun _ => stepG_ret') ?_
    refine W.ctl rfl (fun _ => st_leave1 rfl rfl H.f_uAdd rfl) ?_; walk_nrm
    refine W.val rfl rfl (by k_ne) (fun _ => by simp [go_sem, *]) (fun K hy => ?_); go_simp; (try w_num); refine hy _ ?_; clear hy K; walk_nrm
    refine W.ctl rfl (fun _ => stepG_region_end) ?_
    refine W.ctl rfl (fun _ => stepG_seq) ?_
    refine W.ctl rfl (fun _ => stepG_seq) ?_
    refine W.ctl rfl (fun _ => stepG_region) ?_; simp only [List.size_toArray, List.length_cons, List.length_nil, Nat.reduceAdd, Nat.zero_add, List.range, List.range.loop]
    refine W.val rfl rfl (by k_ne) (fun _ => by simp [go_sem, *]) (fun K hy => ?_); go_simp; (try w_num); refine hy _ ?_; clear hy K; walk_nrm
    refine W.val rfl rfl (by k_ne) (fun _ => by simp [go_sem, *]) (fun K hy => ?_); go_simp; (try w_num); refine hy _ ?_; clear hy K; walk_nrm
    refine W.val rfl rfl (by k_ne) (fun _ => by simp [go_sem, *]) (fun K hy => ?_); go_simp; (try w_num); refine hy _ ?_; clear hy K; walk_nrm
    refine W.val rfl rfl (by k_ne) (fun _ => by simp [go_sem, *]) (fun K hy => ?_); go_simp; (try w_num); refine hy _ ?_; clear hy K; walk_nrm
    refine W.ctl rfl (fun _ => stepG_unwanted rfl rfl) ?_; walk_nrm
    refine W.ctl rfl (fun _ => stepG_unwanted rfl rfl) ?_; walk_nrm
    refine W.val rfl rfl (by k_ne) (fun _ => by simp [go_sem, *]) (fun K hy => ?_); go_simp; (try w_num); refine hy _ ?_; clear hy K; walk_nrm
    refine W.ctl rfl (fun _ => stepG_region_end) ?_
    refine W.ctl rfl (fun _ => stepG_cond (t := false) rfl) ?_; simp only [if_true, if_false, Bool.false_eq_true, ↓reduceIte]
    refine W.ctl rfl (fun _ => stepG_skip) ?_
    refine W.ctl rfl (fun _ => stepG_seq) ?_
    refine W.ctl rfl (fun _ => stepG_region) ?_; simp only [List.size_toArray, List.length_cons, List.length_nil, Nat.reduceAdd, Nat.zero_add, List.range, List.range.loop]
    refine W.val rfl rfl (by k_ne) (fun _ => by simp [go_sem, *]) (fun K hy => ?_); go_simp; (try w_num); refine hy _ ?_; clear hy K; walk_nrm
    refine W.val rfl rfl (by k_ne) (fun _ => by simp [go_sem, *]) (fun K hy => ?_); go_simp; (try w_num); refine hy _ ?_; clear hy K; walk_nrm
    refine W.val rfl rfl (by k_ne) (fun _ => by simp [go_sem, *]) (fun K hy => ?_); go_simp; (try w_num); refine hy _ ?_; clear hy K; walk_nrm
    refine W.val rfl rfl (by k_ne) (fun _ => by simp [go_sem, *]) (fun K hy => ?_); go_simp; (try w_num); refine hy _ ?_; clear hy K; walk_nrm
    refine W.ctl rfl (fun _ => stepG_region_end) ?_
    refine W.ctl rfl (fun _ => stepG_seq) ?_
    refine W.ctl rfl (fun _ => stepG_region) ?_; simp only [List.size_toArray, List.length_cons, List.length_nil, Nat.reduceAdd, Nat.zero_add, List.range, List.range.loop]
    refine W.val rfl rfl (by k_ne) (fun _ => by simp [go_sem, *]) (fun K hy => ?_); go_simp; (try w_num); refine hy _ ?_; clear hy K; walk_nrm
    refine W.val rfl rfl (by k_ne) (fun _ => by simp [go_sem, *]) (fun K hy => ?_); go_simp; (try w_num); refine hy _ ?_; clear hy K; walk_nrm
    refine W.val rfl rfl (by k_ne) (fun _ => by simp [go_sem, *]) (fun K hy => ?_); go_simp; (try w_num); refine hy _ ?_; clear hy K; walk_nrm
    refine W.val rfl rfl (by k_ne) (fun _ => by simp [go_sem, *]) (fun K hy => ?_); go_simp; (try w_num); refine hy _ ?_; clear hy K; walk_nrm
    refine W.ctl rfl (fun _ => stepG_region_end) ?_
    refine W.ctl rfl (fun _ => stepG_seq) ?_
    refine W.ctl rfl (fun _ => stepG_seq) ?_
    refine W.ctl rfl (fun _ => stepG_region) ?_; simp only [List.size_toArray, List.length_cons, List.length_nil, Nat.reduceAdd, Nat.zero_add, List.range, List.range.loop]
    refine W.val rfl rfl (by k_ne) (fun _ => by simp [go_sem, *]) (fun K hy => ?_); go_simp; (try w_num); refine hy _ ?_; clear hy K; walk_nrm
    refine W.val rfl rfl (by k_ne) (fun _ => by simp [go_sem, *]) (fun K hy => ?_); go_simp; (try w_num); refine hy _ ?_; clear hy K; walk_nrm
    refine W.val rfl rfl (by k_ne) (fun _ => by simp [go_sem, *]) (fun K hy => ?_); go_simp; (try w_num); refine hy _ ?_; clear hy K; walk_nrm
    refine W.val rfl rfl (by k_ne) (fun _ => by simp [go_sem, *]) (fun K hy => ?_); go_simp; (try w_num); refine hy _ ?_; clear hy K; walk_nrm
    refine W.val rfl rfl (by k_ne) (fun _ => by simp [go_sem, *]) (fun K hy => ?_); go_simp; (try w_num); refine hy _ ?_; clear hy K; walk_nrm
    refine W.val rfl rfl (by k_ne) (fun _ => by simp [go_sem, *]) (fun K hy => ?_); go_simp; (try w_num); refine hy _ ?_; clear hy K; walk_nrm
    refine W.val rfl rfl (by k_ne) (fun _ => by simp [go_sem, *]) (fun K hy => ?_); go_simp; (try w_num); refine hy _ ?_; clear hy K; walk_nrm
    refine W.val rfl rfl (by k_ne) (fun _ => by simp [go_sem, *]) (fun K hy => ?_); go_simp; (try w_num); refine hy _ ?_; clear hy K; walk_nrm
    refine W.val rfl rfl (by k_ne) (fun _ => by simp [go_sem, *]) (fun K hy => ?_); go_simp; (try w_num); refine hy _ ?_; clear hy K; walk_nrm
    refine W.val rfl rfl (by k_ne) (fun _ => by simp [go_sem, *]) (fun K hy => ?_); go_simp; (try w_num); refine hy _ ?_; clear hy K; walk_nrm
    refine W.ctl rfl (fun _ => stepG_region_end) ?_
    refine W.ctl rfl (fun _ => stepG_cond (t := false) rfl) ?_; simp only [if_true, if_false, Bool.false_eq_true, ↓reduceIte]
    refine W.ctl rfl (fun _ => stepG_skip) ?_
    refine W.ctl rfl (fun _ => stepG_seq) ?_
    refine W.ctl rfl (fun _ => stepG_seq) ?_
    refine W.ctl rfl (fun _ => stepG_region) ?_; simp only [List.size_toArray, List.length_cons, List.length_nil, Nat.reduceAdd, Nat.zero_add, List.range, List.range.loop]
    refine W.val rfl rfl (by k_ne) (fun _ => by simp [go_sem, *]) (fun K hy => ?_); go_simp; (try w_num); refine hy _ ?_; clear hy K; walk_nrm
    refine W.val rfl rfl (by k_ne) (fun _ => by simp [go_sem, *]) (fun K hy => ?_); go_simp; (try w_num); refine hy _ ?_; clear hy K; walk_nrm
    refine W.ctl rfl (fun _ => stepG_region_end) ?_
    refine W.ctl rfl (fun _ => stepG_cond (t := false) rfl) ?_; simp only [if_true, if_false, Bool.false_eq_true, ↓reduceIte]
    refine W.ctl rfl (fun _ => stepG_skip) ?_
    refine W.ctl rfl (fun _ => stepG_seq) ?_
    refine W.ctl rfl (fun _ => stepG_seq) ?_
    refine W.ctl rfl (fun _ => stepG_region) ?_; simp only [List.size_toArray, List.length_cons, List.length_nil, Nat.reduceAdd, Nat.zero_add, List.range, List.range.loop]
    refine W.val rfl rfl (by k_ne) (fun _ => by simp [go_sem, *]) (fun K hy => ?_); go_simp; (try w_num); refine hy _ ?_; clear hy K; walk_nrm
    refine W.val rfl rfl (by k_ne) (fun _ => by simp [go_sem, *]) (fun K hy => ?_); go_simp; (try w_num); refine hy _ ?_; clear hy K; walk_nrm
    refine W.val rfl rfl (by k_ne) (fun _ => by simp [go_sem, *]) (fun K hy => ?_); go_simp; (try w_num); refine hy _ ?_; clear hy K; walk_nrm
    refine W.ctl rfl (fun _ => stepG_unwanted rfl rfl) ?_; walk_nrm
    refine W.ctl rfl (fun _ => stepG_unwanted rfl rfl) ?_; walk_nrm
    refine W.val rfl rfl (by k_ne) (fun _ => by simp [go_sem, *]) (fun K hy => ?_); go_simp; (try w_num); refine hy _ ?_; clear hy K; walk_nrm
    refine W.val rfl rfl (by k_ne) (fun _ => by simp [go_sem, *]) (fun K hy => ?_); go_simp; (try w_num); refine hy _ ?_; clear hy K; walk_nrm
    refine W.ctl rfl (fun _ => stepG_unwanted rfl rfl) ?_; walk_nrm
    refine W.ctl rfl (fun _ => stepG_unwanted rfl rfl) ?_; walk_nrm
    refine W.ctl rfl (fun _ => stepG_unwanted rfl rfl) ?_; walk_nrm
    refine W.ctl rfl (fun _ => stepG_unwanted rfl rfl) ?_; walk_nrm
    refine W.val rfl rfl (by k_ne) (fun _ => by simp [go_sem, *]) (fun K hy => ?_); go_simp; (try w_num); refine hy _ ?_; clear hy K; walk_nrm
    refine W.ctl rfl (fun _ => stepG_region_end) ?_
    refine W.ctl rfl (fun _ => stepG_cond (t := false) rfl) ?_; simp only [if_true, if_false, Bool.false_eq_true, ↓reduceIte]
    refine W.ctl rfl (fun _ => stepG_skip) ?_
    refine W.ctl rfl (fun _ => stepG_seq) ?_
    refine W.ctl rfl (fun _ => stepG_seq) ?_
    refine W.ctl rfl (fun _ => stepG_region) ?_; simp only [List.size_toArray, List.length_cons, List.length_nil, Nat.reduceAdd, Nat.zero_add, List.range, List.range.loop]
    refine W.val rfl rfl (by k_ne) (fun _ => by simp [go_sem, *]) (fun K hy => ?_); go_simp; (try w_num); refine hy _ ?_; clear hy K; walk_nrm
    refine W.val rfl rfl (by k_ne) (fun _ => by simp [go_sem, *]) (fun K hy => ?_); go_simp; (try w_num); refine hy _ ?_; clear hy K; walk_nrm
    refine W.val rfl rfl (by k_ne) (fun _ => by simp [go_sem, *]) (fun K hy => ?_); go_simp; (try w_num); refine hy _ ?_; clear hy K; walk_nrm
    refine W.ctl rfl (fun _ => stepG_unwanted rfl rfl) ?_; walk_nrm
    refine W.ctl rfl (fun _ => stepG_unwanted rfl rfl) ?_; walk_nrm
    refine W.val rfl rfl (by k_ne) (fun _ => by simp [go_sem, *]) (fun K hy => ?_); go_simp; (try w_num); refine hy _ ?_; clear hy K; walk_nrm
    refine W.ctl rfl (fun _ => stepG_region_end) ?_
    refine W.ctl rfl (fun _ => stepG_cond (t := true) rfl) ?_; simp only [if_true, if_false, Bool.false_eq_true, ↓reduceIte]
    refine W.ctl rfl (fun _ => stepG_ret') ?_
    refine W.stb fun w hK => ⟨rfl, _, stepG_unwind_entry (v := .tuple #[]) (evs := #[mkE .enable]) rfl H.f_enable (x_enable_n L) (x_enable_b L) (x_enable_x L) (x_enable_f L) (by simp [Extern.Race.none_]) (by simp [mkE]) (by simp [mkE]), Wk.here hK ?_⟩
    refine W.ctl rfl (fun _ => st_leave0 rfl rfl H.f_add rfl) ?_
    exact W.stop fun w _ => rfl
end Go.Town
