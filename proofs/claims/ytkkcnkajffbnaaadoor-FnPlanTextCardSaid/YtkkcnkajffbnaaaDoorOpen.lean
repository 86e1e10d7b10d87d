/-
  From the form's reading of an argument to what the walks lean on.
-/
import Derived.Test.YtkkcnkajffbnaaaDoorT3
import Derived.OpenShut
namespace Go.Proofs.YtkkcnkajffbnaaaDoor
open Go.RowKit

theorem inI_of_wf {n : Int} (h : (Lit.int .i64 n).wf = true) : InI n := bounds_i64 h

theorem ints_open {W : World} {x : Addr} {l c : Nat} {zs : List Int} (hl : l ≤ c) (hz : zs.length = c) (hcell : ∀ i, i < zs.length → W.cell? (x.add i) = some (.int .i64 (zs.getD i 0))) (hw : ∀ n ∈ zs, (Lit.int .i64 n).wf = true) :
    ∃ ys : List Int, l = ys.length ∧ (∀ n ∈ ys, InI n) ∧ IntsAt W (some x) ys := by
  refine ⟨zs.take l, by simp; omega, fun n hn => inI_of_wf (hw n (List.mem_of_mem_take hn)), ?_⟩
  by_cases h0 : l = 0
  · subst h0; exact .inl rfl
  obtain ⟨b, off, spot⟩ := x
  have hc := hcell 0 (by omega)
  have hspot : spot = none := by simpa [Addr.add] using World.cell?_spot hc
  subst hspot
  have hb : b < W.heap.size := by
    unfold World.cell? at hc
    simp only [Addr.add] at hc
    rcases Nat.lt_or_ge b W.heap.size with h | h
    · exact h
    · simp [Array.getElem?_eq_none h] at hc
  refine .inr ⟨b, off, rfl, hb, fun i hi => ?_⟩
  have hi' : i < l := by simp at hi; omega
  have := hcell i (by omega)
  rw [show (zs.take l).getD i 0 = zs.getD i 0 from by simp [List.getD, hi']]
  rw [← this]
  congr 1
  simp [Addr.add]
end Go.Proofs.YtkkcnkajffbnaaaDoor
