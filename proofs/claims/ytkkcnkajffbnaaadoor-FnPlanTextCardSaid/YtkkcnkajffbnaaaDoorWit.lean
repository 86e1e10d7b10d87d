/-
  What every closing text of this seat uses: laying a variable in a world, the tables' numbers, and what a row's list gives.
-/
import Derived.Test.YtkkcnkajffbnaaaDoorLaid
import Derived.Test.YtkkcnkajffbnaaaDoorT4
namespace Go.Proofs.YtkkcnkajffbnaaaDoor
open Go.RowKit
def layAt (h : Array Obj) (g : Nat) (vs : Array Value) : Array Obj := h.modify g fun
  | .cells _ t frozen => .cells vs t frozen
  | o => o
def tab32 : Array Value := (([0, 1, 28, 2, 29, 14, 24, 3, 30, 22, 20, 15, 25, 17, 4, 8, 31, 27, 13, 23, 21, 19, 16, 7, 26, 12, 18, 6, 11, 5, 10, 9] : List Int).map (Value.int .u8)).toArray
def tab64 : Array Value := (([0, 1, 56, 2, 57, 49, 28, 3, 61, 58, 42, 50, 38, 29, 17, 4, 62, 47, 59, 36, 45, 43, 51, 22, 53, 39, 33, 30, 24, 18, 12, 5, 63, 55, 48, 27, 60, 41, 37, 16, 46, 35, 44, 21, 52, 32, 23, 11, 54, 26, 40, 15, 34, 20, 31, 10, 25, 14, 19, 9, 13, 8, 7, 6] : List Int).map (Value.int .u8)).toArray
def tabPow : Array Value := (Lib.pow10Tab.map (Value.int .u64)).toArray
theorem gPowType : (Tryd.prog.globals[0]?).map (·.type) = some 119 := by kernel_rfl
theorem cells119 : Tryd.prog.cellsOf 119 = 20 := by kernel_rfl
theorem cells103 : Tryd.prog.cellsOf 103 = 1 := by kernel_rfl
theorem powDatum {H : Type} : (Rows.laid_internal_strconv_uint64pow10 : DataW H) = Lib.tabData .u64 Lib.pow10Tab := by kernel_rfl
theorem size9 {W : World} (h : W.ShapedOpen Tryd.prog) : 9 ≤ W.heap.size := by
  obtain ⟨o, _, h1, _⟩ := h.2 8 (of_decide_eq_true (by kernel_rfl)) (of_decide_eq_true (by kernel_rfl))
  have := (Array.getElem?_eq_some_iff.1 h1).1
  omega
theorem env_of {W : World} {l : List (String × DataW Unit)} (h : laidMet Tryd.prog l W) (hm : ("internal/strconv.uint64pow10", Rows.laid_internal_strconv_uint64pow10) ∈ l) (hs : W.ShapedOpen Tryd.prog) : Env W := by
  obtain ⟨ps, hv, _⟩ := h
  exact ⟨tabIs_mem gPow gPowType Tryd.underlying119 Tryd.underlying103 cells103 cells119 hv (by rw [← powDatum]; exact hm), size9 hs⟩
end Go.Proofs.YtkkcnkajffbnaaaDoor
