/-
  The law FnExactSumsAfter holds: for whatever keeper, tasks and number of ticks, on whatever tape, its run ends with true, and each argument reads behind the call as it read before.
  No condition.
-/
import Derived.Test.YtihmcigoofhpmaaRows
import Derived.Test.YtihmcigoofhpmaaSbp
set_option linter.all false
namespace Go.Proofs.Ytihmcigoofhpmaa.fnExactSumsAfter
open Go Go.Conc Go.Conc.Lib Go.ConcR.Gen Go.RowKit Go.Town Go.Town.Kp Go.Proofs Go.ChangeShapes
theorem ownK : ownKnob Try.checked.prog.godebug = none := by kernel_rfl
theorem laidOut : laidOutB Try.prog = true := by kernel_rfl
set_option maxRecDepth 100000 in
theorem lifted (os : Os) (started : os.Started) (H : Type) (enc : TypeId × Value → H) :
    ReturnsInLeavingWide {} Try.checked os 6 .any (Rows.fnExactSumsAfterSpec.pre6 enc Try.prog Try.f6 Rows.fnExactSumsAfterRow.domain false) (Rows.fnExactSumsAfterSpec.post enc Try.prog Try.f6 false true false false) := by
  refine returnsInLeavingWide_of_change_sized (C := Try.checked) ownK started Try.func6
    (ChangeSpec.witness6 (enc := enc) (C := Try.checked) false ⟨#[], #[.agg #[.string ⟨#[]⟩, .int .i64 0, .int .i64 0], .slice none 0 0, .int .i64 0], []⟩ 8 (by kernel_rfl) (by kernel_rfl) (by kernel_rfl) (by kernel_rfl)) ?_
  intro W base args ds gs before hval0 hW _ _ _
  have hval : ∀ (j : Nat) t v, Try.f6.params[j]? = some t → args[j]? = some v → Value.okWide Try.prog W .any base t v := hval0
  have hW' := hW
  obtain ⟨p, q, hA0, hV, rfl, _, _⟩ := hW
  have hA : DataW.TrodAll enc Try.prog W 0 (fun _ => true) true Try.f6.params.toList args.toList ds p := hA0
  rw [Try.params6] at hA hval
  obtain ⟨v0, v1, v2, d0, d1, d2, p0, p1, p2, rfl, rfl, rfl, h0, h1, h2⟩ := trodAll_three hA
  obtain ⟨rfl, rfl⟩ := trodVars_none hV
  have k0 := h0
  have k1 := h1
  have k2 := h2
  obtain ⟨l, f, t, rfl, hl⟩ := keeper_in (hval 0 39 v0 rfl rfl) h0
  obtain ⟨a1, n1, c1, rfl⟩ := Go.WideShapes.okWide_slice Try.underlying25 (hval 1 25 v1 rfl rfl)
  obtain ⟨n, rfl, _⟩ := open_int Try.underlying3 (hval 2 3 v2 rfl rfl) h2
  obtain ⟨m1, hm1⟩ := h1
  obtain ⟨ta, J, tc, hcs, hJ, hJl, hR⟩ := rows_in hm1
  simp only [Value.cells, List.cons.injEq, and_true, Value.slice.injEq] at hcs
  obtain ⟨rfl, rfl, rfl⟩ := hcs
  clear hA0 hval0 hval hA
  simp only [List.append_nil] at hW'
  have hlt : ∀ x ∈ p0 ++ p1 ++ p2, x.block < W.heap.size := fun x hx => by simpa using hW'.lt x hx
  have lt0 : ∀ x ∈ p0, x.block < W.heap.size := fun x hx => hlt x (by simp [hx])
  have lt1 : ∀ x ∈ p1, x.block < W.heap.size := fun x hx => hlt x (by simp [hx])
  have lt2 : ∀ x ∈ p2, x.block < W.heap.size := fun x hx => hlt x (by simp [hx])
  have hC : Go.Town.Can Try.prog (Cfg.empty ⟨0, 0, none⟩) 0 0 (fun v _ => v = .bool true) 0 (AloneB 1) (shutW W) (G (Frame.enter Try.prog 6 #[.agg #[.string l, .int .i64 f, .int .i64 t], .slice a1 J.length c1, .int .i64 n] .normal) []) := by
    rw [enter6]
    exact law6 (by omega) (lay_empty _ _) (rows_shut hR) hl hJ hJl
  obtain ⟨M, last, o, w', t', e1, e2, e3, e4⟩ := Go.Town.Can.firstB (Nat.le_refl 1) hC
  refine ⟨M, last, o, w', t', e1, e2, e3, e4.mono fun v hF => ?_⟩
  obtain ⟨rfl, bel⟩ := hF
  exact ⟨_, _, _, _, _, [], hW', trodAll_mk1 (shut_bool Try.underlying4 _), (trodAll_mk3 (Below.trod laidOut (by kernel_rfl) (of_decide_eq_true (by kernel_rfl)) k0 bel lt0) (Below.trod laidOut (by kernel_rfl) (of_decide_eq_true (by kernel_rfl)) k1 bel lt1) (Below.trod laidOut (by kernel_rfl) (of_decide_eq_true (by kernel_rfl)) k2 bel lt2)), rfl, bel.frame _, fun h => by cases h⟩
theorem said : Rows.FnExactSumsAfterSaid :=
  OpenClaim.holds_of_wide_leaving 6 Try.f6 rfl rfl rfl rfl rfl rfl rfl ⟨rfl, rfl, rfl, rfl, rfl⟩ rfl rfl rfl rfl rfl (by kernel_rfl) Try.func6 (by kernel_rfl)
    (of_decide_eq_true (by kernel_rfl)) (by unfold Func.isWrapper; first | (rw [if_pos (by decide +kernel)]; kernel_rfl) | (rw [if_neg (by decide +kernel)]; exact ⟨rfl, rfl⟩))
    (fun os started H enc _ => lifted os started H enc)
#print axioms said
end Go.Proofs.Ytihmcigoofhpmaa.fnExactSumsAfter
