/-
  What the closing texts of the parsers use: a world for the witness with all seven listed variables, and what a row's list gives.
-/
import Derived.Test.YtkkcnkajffbnaaaDoorWit
import Derived.Test.YtkkcnkajffbnaaaDoorV4
import Derived.Stop.LaidErr
namespace Go.Proofs.YtkkcnkajffbnaaaDoor
open Go.RowKit
def u8s (l : List Int) : Array Value := (l.map (Value.int .u8)).toArray
def tabFirst : Array Value := u8s (List.replicate 128 240 ++ List.replicate 66 241 ++ List.replicate 30 2 ++ [19, 3, 3, 3, 3, 3, 3, 3, 3, 3, 3, 3, 3, 35, 3, 3, 52, 4, 4, 4, 68] ++ List.replicate 11 241)
def tabAccept : Array Value := u8s ([128, 191, 160, 191, 128, 159, 144, 191, 128, 143] ++ List.replicate 22 0)
abbrev synS : ByteArray := ⟨#[105, 110, 118, 97, 108, 105, 100, 32, 115, 121, 110, 116, 97, 120]⟩
abbrev rngS : ByteArray := ⟨#[118, 97, 108, 117, 101, 32, 111, 117, 116, 32, 111, 102, 32, 114, 97, 110, 103, 101]⟩
/-- So many blocks has the settled world. -/
noncomputable def low : Nat := (World.holding Tryd.prog default ⟨#[], #[], []⟩).heap.size
/-- The settled world, the seven listed variables holding what their initialisers lay. -/
noncomputable def worldP (os : Os) : World :=
  let w0 := World.holding Tryd.prog os ⟨#[.cells #[.string synS] 146, .cells #[.string rngS] 146], #[], []⟩
  { w0 with heap := layAt (layAt (layAt (layAt (layAt (layAt (layAt w0.heap 0 tabPow) 1 tabFirst) 2 tabAccept) 4 #[.iface 144 (.pointer (some ⟨low, 0, none⟩))]) 5 #[.iface 144 (.pointer (some ⟨low + 1, 0, none⟩))]) 6 tab32) 7 tab64 }
theorem gES : Tryd.prog.globalNamed "strconv.ErrSyntax" = some 4 := by kernel_rfl
theorem gESType : (Tryd.prog.globals[4]?).map (·.type) = some 77 := by kernel_rfl
theorem cells146 : Tryd.prog.cellsOf 146 = 1 := by kernel_rfl
theorem cells9 : Tryd.prog.cellsOf 9 = 1 := by kernel_rfl
theorem star : "*" ++ "errors.errorString" = "*errors.errorString" := by decide
theorem row144 (u : TypeId) (h : Tryd.prog.typeName? 3 u = some "*errors.errorString") : u = 144 :=
  typeName_ptr_named (nm := "errors.errorString") (by rw [star]; kernel_rfl) (by kernel_rfl) (by decide) u (by rw [star]; exact h)
theorem envP_of {W : World} {r : List (String × DataW Unit)} {a b c d e : String × DataW Unit} (h : laidMet Tryd.prog (a :: b :: c :: d :: e :: ("strconv.ErrSyntax", Rows.laid_strconv_ErrSyntax) :: r) W) (hm : ("internal/strconv.uint64pow10", Rows.laid_internal_strconv_uint64pow10) ∈ (a :: b :: c :: d :: e :: ("strconv.ErrSyntax", Rows.laid_strconv_ErrSyntax) :: r)) (hs : W.ShapedOpen Tryd.prog) : EnvP W := by
  refine ⟨env_of h hm hs, ?_⟩
  obtain ⟨a0, s0, hv0, -, -, -⟩ := laid_sentinel h.tail.tail.tail.tail.tail gES gESType Tryd.underlying77 row144 Tryd.underlying144 Tryd.underlying146 rfl rfl Tryd.underlying9 cells146 cells9
  exact ⟨_, by have h0 := World.var?_cell gES hv0 0; simpa using h0, .inr ⟨_, _, rfl⟩⟩
end Go.Proofs.YtkkcnkajffbnaaaDoor
