/-
  The law FnExactRunKeeper holds: for whatever keeper, tasks, on whatever tape, its run ends with true, and each argument reads behind the call as it read before.
  No condition.
-/
import Derived.Test.YtihmcigoofhpmaaRows
import Derived.Test.YtihmcigoofhpmaaUbq
import Derived.Test.YtihmcigoofhpmaaUbr
set_option linter.all false
namespace Go.Proofs.Ytihmcigoofhpmaa.fnExactRunKeeper
open Go Go.Conc Go.Conc.Lib Go.ConcR.Gen Go.RowKit Go.Town Go.Town.Kp Go.Proofs Go.ChangeShapes
theorem ownK : ownKnob Try.checked.prog.godebug = none := by kernel_rfl
theorem laidOut : laidOutB Try.prog = true := by kernel_rfl
set_option maxRecDepth 100000 in
theorem lifted (os : Os) (started : os.Started) (H : Type) (enc : TypeId × Value → H) :
    ReturnsInLeavingWide {} Try.checked os 8 .any (Rows.fnExactRunKeeperSpec.pre6 enc Try.prog Try.f8 Rows.fnExactRunKeeperRow.domain false) (Rows.fnExactRunKeeperSpec.post enc Try.prog Try.f8 false true false false) := by
  refine returnsInLeavingWide_of_change_sized (C := Try.checked) ownK started Try.func8
    (ChangeSpec.witness6 (enc := enc) (C := Try.checked) false ⟨#[], #[.agg #[.string ⟨#[]⟩, .int .i64 0, .int .i64 0], .slice none 0 0], []⟩ 8 (by kernel_rfl) (by kernel_rfl) (by kernel_rfl) (by kernel_rfl)) ?_
  intro W base args ds gs before hval0 hW _ _ _
  have hval : ∀ (j : Nat) t v, Try.f8.params[j]? = some t → args[j]? = some v → Value.okWide Try.prog W .any base t v := hval0
  have hW' := hW
  obtain ⟨p, q, hA0, hV, rfl, _, _⟩ := hW
  have hA : DataW.TrodAll enc Try.prog W 0 (fun _ => true) true Try.f8.params.toList args.toList ds p := hA0
  rw [Try.params8] at hA hval
  obtain ⟨v0, v1, d0, d1, p0, p1, rfl, rfl, rfl, h0, h1⟩ := trodAll_two hA
  obtain ⟨rfl, rfl⟩ := trodVars_none hV
  have k0 := h0
  have k1 := h1
  obtain ⟨l, f, t, rfl, hl⟩ := keeper_in (hval 0 39 v0 rfl rfl) h0
  obtain ⟨a1, n1, c1, rfl⟩ := Go.WideShapes.okWide_slice Try.underlying25 (hval 1 25 v1 rfl rfl)
  obtain ⟨m1, hm1⟩ := h1
  obtain ⟨ta, J, tc, hcs, hJ, hJl, hR⟩ := rows_in hm1
  simp only [Value.cells, List.cons.injEq, and_true, Value.slice.injEq] at hcs
  obtain ⟨rfl, rfl, rfl⟩ := hcs
  clear hA0 hval0 hval hA
  simp only [List.append_nil] at hW'
  have hlt : ∀ x ∈ p0 ++ p1, x.block < W.heap.size := fun x hx => by simpa using hW'.lt x hx
  have lt0 : ∀ x ∈ p0, x.block < W.heap.size := fun x hx => hlt x (by simp [hx])
  have lt1 : ∀ x ∈ p1, x.block < W.heap.size := fun x hx => hlt x (by simp [hx])
  have hC : Go.Town.Can Try.prog (Cfg.empty ⟨0, 0, none⟩) 0 0 (fun v _ => v = .bool true) 0 (AloneB 1) (shutW W) (G (Frame.enter Try.prog 8 #[.agg #[.string l, .int .i64 f, .int .i64 t], .slice a1 J.length c1] .normal) []) := by
    rw [enter8]
    exact law8 (by omega) (lay_empty _ _) (rows_shut hR) hl hJ hJl
  obtain ⟨M, last, o, w', t', e1, e2, e3, e4⟩ := Go.Town.Can.firstB (Nat.le_refl 1) hC
  refine ⟨M, last, o, w', t', e1, e2, e3, e4.mono fun v hF => ?_⟩
  obtain ⟨rfl, bel⟩ := hF
  exact ⟨_, _, _, _, _, [], hW', trodAll_mk1 (shut_bool Try.underlying4 _), (trodAll_mk2 (Below.trod laidOut (by kernel_rfl) (of_decide_eq_true (by kernel_rfl)) k0 bel lt0) (Below.trod laidOut (by kernel_rfl) (of_decide_eq_true (by kernel_rfl)) k1 bel lt1)), rfl, bel.frame _, fun h => by cases h⟩
theorem said : Rows.FnExactRunKeeperSaid :=
  OpenClaim.holds_of_wide_leaving 8 Try.f8 rfl rfl rfl rfl rfl rfl rfl ⟨rfl, rfl, rfl, rfl, rfl⟩ rfl rfl rfl rfl rfl (by kernel_rfl) Try.func8 (by kernel_rfl)
    (of_decide_eq_true (by kernel_rfl)) (by unfold Func.isWrapper; first | (rw [if_pos (by decide +kernel)]; kernel_rfl) | (rw [if_neg (by decide +kernel)]; exact ⟨rfl, rfl⟩))
    (fun os started H enc _ => lifted os started H enc)
#print axioms said
end Go.Proofs.Ytihmcigoofhpmaa.fnExactRunKeeper
