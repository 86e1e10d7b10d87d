/-
  The row FnExactSumsAfter.
-/
import Derived.Conc.LeavingOf
import Derived.ChangeShapes
import Derived.ChangeSlices
import Derived.WideShapes
import Derived.ChangeMaps5
import Derived.ChangeArms
import Derived.Test.YtihmcigoofhpmaaUbm
set_option linter.all false
namespace Go.Town.Kp
open Go Go.Conc Go.Conc.Lib Go.ConcR.Gen Go.RowKit Go.Town Go.Proofs Go.ChangeShapes
section
variable {H : Type} {enc : TypeId × Value → H} {W : World} {base : Nat} {sp : Nat → Bool} {held : Bool}
theorem ints_in {x : Addr} {l c : Nat} {zs : List Int} (hl : l ≤ c) (hz : zs.length = c) (hcell : ∀ i, i < zs.length → W.cell? (x.add i) = some (.int .i64 (zs.getD i 0))) : ∃ ys : List Int, l = ys.length ∧ IntsAt W (some x) ys := by
  refine ⟨zs.take l, by simp; omega, ?_⟩
  by_cases h0 : l = 0
  · subst h0; exact .inl rfl
  obtain ⟨b, off, spot⟩ := x
  have hc := hcell 0 (by omega)
  have hspot : spot = none := by simpa [Addr.add] using World.cell?_spot hc
  subst hspot
  refine .inr ⟨b, off, rfl, block_lt (a := ⟨b, off, none⟩) (by simpa [Addr.add] using hc), fun i hi => ?_⟩
  have hi' : i < zs.length := by simp at hi; omega
  have := hcell i hi'
  have e : (⟨b, off, none⟩ : Addr).add i = ⟨b, off + i, none⟩ := by unfold Addr.add; split <;> simp_all
  rw [e] at this
  rw [this]
  simp only [List.length_take] at hi
  simp [List.getD, List.getElem?_take, show i < l by omega]
theorem row_in {fuel : Nat} {cs : List Value} {x : DataW H × List MemPlace} (h : DataW.trod enc Try.prog W base sp held fuel 28 cs = some x) : ∃ a ys c, cs = [.slice a (ys : List Int).length c] ∧ ys.length ≤ 9223372036854775807 ∧ IntsAt W a ys := by
  rcases open_ints Try.underlying28 Try.underlying3 (by kernel_rfl) h with ⟨hcs, _⟩ | ⟨x, l, c, zs, hcs, _, hl, hm, hz, _, hcell, hwz⟩
  · exact ⟨none, [], 0, hcs, by simp, .inl rfl⟩
  · have hz' : zs.length = c ∨ zs.length = l := by split at hz <;> simp_all
    obtain ⟨ys, rfl, hI⟩ := ints_in (W := W) (x := x) (l := l) (c := zs.length) (zs := zs) (by omega) rfl hcell
    exact ⟨some x, ys, c, hcs, by simp only [maxLen] at hm; omega, hI⟩
theorem rows_in {fuel : Nat} {cs : List Value} {x : DataW H × List MemPlace} (h : DataW.trod enc Try.prog W base sp held fuel 25 cs = some x) : ∃ a J c, cs = [.slice a (J : List (List Int)).length c] ∧ J.length ≤ 9223372036854775807 ∧ (∀ l ∈ J, l.length ≤ 9223372036854775807) ∧ RowsAt W a J := by
  rcases DataW.trod_slice Try.underlying25 h with ⟨hcs, _⟩ | ⟨a, len, cap, elems, rest, n, _, hcs, _, _, hl, hm, hlen, hel, _⟩
  · exact ⟨none, [], 0, hcs, by simp, by simp, .inl rfl⟩
  have key : ∀ i, ∃ l : List Int, i < len → ∃ a' c', W.cell? (a.add i) = some (.slice a' l.length c') ∧ l.length ≤ 9223372036854775807 ∧ IntsAt W a' l := by
    intro i
    by_cases hi : i < len
    · have hE := hel i hi
      rw [show Try.prog.cellsOf 28 = 1 by kernel_rfl, Nat.mul_one] at hE
      have hi' : i < elems.length := by omega
      rw [List.getElem?_eq_getElem hi'] at hE
      simp only [Option.bind_eq_some_iff] at hE
      obtain ⟨c1, hc1, hy1⟩ := hE
      have e0 : (a.add i).add 0 = a.add i := by simp [Addr.add]
      have : ∃ c, c1 = [c] ∧ W.cell? (a.add i) = some c := by
        unfold World.cells? at hc1
        split at hc1
        · simp only [List.range_succ, List.range_zero, List.nil_append, List.mapM_cons, List.mapM_nil, e0] at hc1
          cases hcc : W.cell? (a.add i) with
          | none => simp [hcc] at hc1
          | some c => simp [hcc] at hc1; exact ⟨c, hc1.symm, rfl⟩
        · cases hc1
      obtain ⟨c, rfl, hcell⟩ := this
      obtain ⟨a', ys, c', h1, h2, h3⟩ := row_in hy1
      simp only [List.cons.injEq, and_true] at h1
      subst h1
      exact ⟨ys, fun _ => ⟨a', c', hcell, h2, h3⟩⟩
    · exact ⟨[], fun h => absurd h hi⟩
  let f := fun i => (key i).choose
  have hf : ∀ i, i < len → ∃ a' c', W.cell? (a.add i) = some (.slice a' (f i).length c') ∧ (f i).length ≤ 9223372036854775807 ∧ IntsAt W a' (f i) := fun i => (key i).choose_spec
  clear_value f
  refine ⟨some a, (List.range len).map f, cap, by simpa using hcs, by simp only [List.length_map, List.length_range, maxLen] at hm ⊢; omega, ?_, ?_⟩
  · intro l hl
    simp only [List.mem_map, List.mem_range] at hl
    obtain ⟨i, hi, rfl⟩ := hl
    exact (hf i hi).choose_spec.choose_spec.2.1
  · by_cases h0 : len = 0
    · subst h0; exact .inl rfl
    obtain ⟨b, off, spot⟩ := a
    obtain ⟨a', c', hc, _⟩ := hf 0 (by omega)
    have hspot : spot = none := by simpa [Addr.add] using World.cell?_spot hc
    subst hspot
    refine .inr ⟨b, off, rfl, block_lt (a := ⟨b, off, none⟩) (by simpa [Addr.add] using hc), fun i hi => ?_⟩
    simp only [List.length_map, List.length_range] at hi
    obtain ⟨a', c', hc, _, hI⟩ := hf i hi
    have e : (⟨b, off, none⟩ : Addr).add i = ⟨b, off + i, none⟩ := by unfold Addr.add; split <;> simp_all
    rw [e] at hc
    have eg : ((List.range len).map f).getD i [] = f i := by simp [List.getD, hi]
    rw [eg]
    exact ⟨a', c', hc, hI⟩
set_option maxRecDepth 100000 in
theorem keeper_in {v : Value} {d : DataW H} {ps : List MemPlace} {r : Reach} {b0 : Nat} (hval : Value.okWide Try.prog W r b0 39 v) (h : DataW.Trod enc Try.prog W base sp held 39 v d ps) : ∃ (l : ByteArray) (f t : Int), v = .agg #[.string l, .int .i64 f, .int .i64 t] ∧ l.size ≤ 9223372036854775807 := by
  obtain ⟨cs, rfl, hsz⟩ := Go.WideShapes.okWide_struct Try.underlying39 hval
  have hsz' : cs.size = 3 := hsz.trans (by kernel_rfl)
  obtain ⟨a, b, c, rfl⟩ : ∃ a b c, cs = #[a, b, c] := by
    have hl : cs.toList.length = 3 := hsz'
    have hcs : cs = cs.toList.toArray := rfl
    rw [hcs]
    generalize cs.toList = l at hl ⊢
    clear hcs hsz hsz' hval h
    rcases l with _ | ⟨a, _ | ⟨b, _ | ⟨c, _ | ⟨d, r⟩⟩⟩⟩ <;> simp only [List.length_cons, List.length_nil] at hl
    · omega
    · omega
    · omega
    · exact ⟨a, b, c, rfl⟩
    · omega
  obtain ⟨fuel, hf⟩ := h
  obtain ⟨xs, n, _, _, _, hx, hE⟩ := DataW.trod_struct Try.underlying39 hf
  have hx' : xs.length = 3 := hx
  have e0 := hE 0 _ rfl
  have e1 := hE 1 _ rfl
  have e2 := hE 2 _ rfl
  rw [List.getElem?_eq_getElem (by omega)] at e0 e1 e2
  obtain ⟨s, h0, _, hs⟩ := DataW.trod_string Try.underlying9 e0
  obtain ⟨f, h1, _⟩ := DataW.trod_int Try.underlying3 e1
  obtain ⟨t, h2, _⟩ := DataW.trod_int Try.underlying3 e2
  have h0' : [a] = [Value.string s] := h0
  have h1' : [b] = [Value.int .i64 f] := h1
  have h2' : [c] = [Value.int .i64 t] := h2
  simp only [List.cons.injEq, and_true] at h0' h1' h2'
  subst h0' h1' h2'
  exact ⟨s, f, t, rfl, by simpa [maxLen] using hs⟩
theorem rows_shut {W : World} {a : Option Addr} {J : List (List Int)} (h : RowsAt W a J) : RowsAt (shutW W) a J :=
  h.kept (fun x j v _ hc => by rw [shutW_cell]; exact hc) (Nat.le_of_eq (shutW_size W).symm)
end
end Go.Town.Kp
