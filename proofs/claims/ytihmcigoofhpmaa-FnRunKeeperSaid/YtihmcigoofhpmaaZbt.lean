/-
  The law FnRunKeeper holds: for whatever bytes, on whatever tape, its run ends with true, and the argument reads behind the call as it read before.
  No condition.
-/
import Derived.Test.YtihmcigoofhpmaaRows
import Derived.Test.YtihmcigoofhpmaaZbs
set_option linter.all false
namespace Go.Proofs.Ytihmcigoofhpmaa.fnRunKeeper
open Go Go.Conc Go.Conc.Lib Go.ConcR.Gen Go.RowKit Go.Town Go.Town.Kp Go.Proofs Go.ChangeShapes
theorem ownK : ownKnob Try.checked.prog.godebug = none := by kernel_rfl
theorem laidOut : laidOutB Try.prog = true := by kernel_rfl
set_option maxRecDepth 100000 in
theorem lifted (os : Os) (started : os.Started) (H : Type) (enc : TypeId × Value → H) :
    ReturnsInLeavingWide {} Try.checked os 7 .any (Rows.fnRunKeeperSpec.pre6 enc Try.prog Try.f7 Rows.fnRunKeeperRow.domain false) (Rows.fnRunKeeperSpec.post enc Try.prog Try.f7 false true false false) := by
  refine returnsInLeavingWide_of_change_sized (C := Try.checked) ownK started Try.func7
    (ChangeSpec.witness6 (enc := enc) (C := Try.checked) false ⟨#[], #[.slice none 0 0], []⟩ 8 (by kernel_rfl) (by kernel_rfl) (by kernel_rfl) (by kernel_rfl)) ?_
  intro W base args ds gs before hval0 hW _ _ _
  have hval : ∀ (j : Nat) t v, Try.f7.params[j]? = some t → args[j]? = some v → Value.okWide Try.prog W .any base t v := hval0
  have hW' := hW
  obtain ⟨p, q, hA0, hV, rfl, _, _⟩ := hW
  have hA : DataW.TrodAll enc Try.prog W 0 (fun _ => true) true Try.f7.params.toList args.toList ds p := hA0
  rw [Try.params7] at hA hval
  obtain ⟨v0, d0, rfl, rfl, h0⟩ := trodAll_one hA
  obtain ⟨rfl, rfl⟩ := trodVars_none hV
  have k0 := h0
  obtain ⟨a1, n1, c1, rfl⟩ := Go.WideShapes.okWide_slice under22 (hval 0 22 v0 rfl rfl)
  obtain ⟨m1, hm1⟩ := h0
  obtain ⟨bs, rfl, hcap, hlen, hu, hB⟩ := bytes_in hm1
  clear hA0 hval0 hval hA
  simp only [List.append_nil] at hW'
  have lt0 : ∀ x ∈ p, x.block < W.heap.size := fun x hx => by simpa using hW'.lt x (by simp [hx])
  have hC : Go.Town.Can Try.prog (Cfg.empty ⟨0, 0, none⟩) 0 0 (fun v _ => v = .bool true) 0 (AloneB 1) (shutW W) (G (Frame.enter Try.prog 7 #[.slice a1 bs.length c1] .normal) []) := by
    rw [enter7]
    exact law7 (by omega) (lay_empty _ _) (bytes_shut hB) hu hcap hlen
  obtain ⟨M, last, o, w', t', e1, e2, e3, e4⟩ := Go.Town.Can.firstB (Nat.le_refl 1) hC
  refine ⟨M, last, o, w', t', e1, e2, e3, e4.mono fun v hF => ?_⟩
  obtain ⟨rfl, bel⟩ := hF
  exact ⟨_, _, _, _, _, [], hW', trodAll_mk1 (shut_bool Try.underlying4 _), (trodAll_mk1 (Below.trod laidOut (by kernel_rfl) (of_decide_eq_true (by kernel_rfl)) k0 bel lt0)), rfl, bel.frame _, fun h => by cases h⟩
theorem said : Rows.FnRunKeeperSaid :=
  OpenClaim.holds_of_wide_leaving 7 Try.f7 rfl rfl rfl rfl rfl rfl rfl ⟨rfl, rfl, rfl, rfl, rfl⟩ rfl rfl rfl rfl rfl (by kernel_rfl) Try.func7 (by kernel_rfl)
    (of_decide_eq_true (by kernel_rfl)) (by unfold Func.isWrapper; first | (rw [if_pos (by decide +kernel)]; kernel_rfl) | (rw [if_neg (by decide +kernel)]; exact ⟨rfl, rfl⟩))
    (fun os started H enc _ => lifted os started H enc)
#print axioms said
end Go.Proofs.Ytihmcigoofhpmaa.fnRunKeeper
