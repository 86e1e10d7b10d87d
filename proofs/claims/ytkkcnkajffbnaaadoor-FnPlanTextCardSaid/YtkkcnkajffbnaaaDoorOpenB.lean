/-
  From the form's reading of a slice of bytes to what the walks lean on.
-/
import Derived.Test.YtkkcnkajffbnaaaDoorX1
import Derived.OpenShut
namespace Go.Proofs.YtkkcnkajffbnaaaDoor
open Go.RowKit

theorem inU8_of_wf {n : Int} (h : (Lit.int .u8 n).wf = true) : InU8 n := by
  have e1 : IntKind.u8.min = 0 := rfl
  have e2 : IntKind.u8.max = 255 := rfl
  simp [Lit.wf, e1, e2] at h
  exact ⟨by omega, by omega⟩
theorem bytes_open {W : World} {x : Addr} {l c : Nat} {zs : List Int} (hl : l ≤ c) (hz : zs.length = c) (hcell : ∀ i, i < zs.length → W.cell? (x.add i) = some (.int .u8 (zs.getD i 0))) (hw : ∀ n ∈ zs, (Lit.int .u8 n).wf = true) :
    ∃ ys : List Int, l = ys.length ∧ (∀ n ∈ ys, InU8 n) ∧ BytesAt W (some x) ys := by
  refine ⟨zs.take l, by simp; omega, fun n hn => inU8_of_wf (hw n (List.mem_of_mem_take hn)), ?_⟩
  by_cases h0 : l = 0
  · subst h0; exact .inl rfl
  obtain ⟨b, off, spot⟩ := x
  have hc := hcell 0 (by omega)
  have hspot : spot = none := by simpa [Addr.add] using World.cell?_spot hc
  subst hspot
  have hb : b < W.heap.size := by
    unfold World.cell? at hc
    simp only [Addr.add] at hc
    rcases Nat.lt_or_ge b W.heap.size with h | h
    · exact h
    · simp [Array.getElem?_eq_none h] at hc
  refine .inr ⟨b, off, rfl, hb, fun i hi => ?_⟩
  have hi' : i < l := by simp at hi; omega
  have := hcell i (by omega)
  rw [show (zs.take l).getD i 0 = zs.getD i 0 from by simp [List.getD, hi']]
  rw [← this]
  congr 1
  simp [Addr.add]
end Go.Proofs.YtkkcnkajffbnaaaDoor
