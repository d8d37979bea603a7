/-
  What the rows' listed variables give the walks; a world in which they all hold what the program's text lays.
-/
import Derived.Test.YtnjnbjcibdeihaaDoorLaid
import Derived.Test.YtnjnbjcibdeihaaDoorStReadRef
import Derived.Stop.LaidErr
import Derived.MakeChecks
namespace Go.Proofs.YtnjnbjcibdeihaaDoor
open Go.ChangeShapes Go.WideShapes Go.ChangeAt Go.RowKit
set_option linter.unusedVariables false

theorem gloRangeType : (Tryd.prog.globals[1]?).map (·.type) = some 59 := by kernel_rfl
theorem gloSyntaxType : (Tryd.prog.globals[0]?).map (·.type) = some 59 := by kernel_rfl
theorem gloPowType : (Tryd.prog.globals[2]?).map (·.type) = some 91 := by kernel_rfl
theorem cellsErr : Tryd.prog.cellsOf 89 = 1 := by kernel_rfl
theorem cellsStr : Tryd.prog.cellsOf 9 = 1 := by kernel_rfl
theorem cellsU64 : Tryd.prog.cellsOf 72 = 1 := by kernel_rfl
theorem cellsPow : Tryd.prog.cellsOf 91 = 20 := by kernel_rfl
theorem starErr : "*" ++ "errors.errorString" = "*errors.errorString" := by decide
theorem rowErr (u : TypeId) (h : Tryd.prog.typeName? 3 u = some "*errors.errorString") : u = 87 :=
  typeName_ptr_named (nm := "errors.errorString") (by rw [starErr]; kernel_rfl) (by kernel_rfl) (by decide) u (by rw [starErr]; exact h)

theorem tb_of {W : World} (h : laidMetH Tryd.prog Rows.stampTextsRow.laid W) : Tb W ∧ Es W := by
  have hL : laidMet Tryd.prog Rows.stampTextsRow.laid W := by rw [← MakeChecks.laidMetH_plain _ _ _ (by kernel_rfl)]; exact h
  have h2 := hL.tail.tail
  have h3 := h2.tail
  have h4 := h3.tail
  obtain ⟨a0, s0, hv0, -, -, -⟩ := laid_sentinel h3 gloRange gloRangeType Tryd.underlying59 rowErr Tryd.underlying87 Tryd.underlying89 rfl rfl Tryd.underlying9 cellsErr cellsStr
  obtain ⟨a1, s1, hv1, -, -, -⟩ := laid_sentinel h4 gloSyntax gloSyntaxType Tryd.underlying59 rowErr Tryd.underlying87 Tryd.underlying89 rfl rfl Tryd.underlying9 cellsErr cellsStr
  exact ⟨Lib.tabIs_of_head gloPow gloPowType Tryd.underlying91 Tryd.underlying72 cellsU64 cellsPow h2, ⟨_, _, hv1⟩, ⟨_, _, hv0⟩⟩

def synS : ByteArray := { data := #[105, 110, 118, 97, 108, 105, 100, 32, 115, 121, 110, 116, 97, 120] }
def rngS : ByteArray := { data := #[118, 97, 108, 117, 101, 32, 111, 117, 116, 32, 111, 102, 32, 114, 97, 110, 103, 101] }
/-- So many blocks has the settled world. -/
noncomputable def low : Nat := (World.holding Tryd.prog default ⟨#[], #[], []⟩).heap.size
/-- A world for the witness: two blocks more, each an error's text; the two errors' variables point at them; the three tables as the text lays them. -/
noncomputable def laidWorld2 (os : Os) : World :=
  { World.holding Tryd.prog os ⟨#[.cells #[.string synS] 89, .cells #[.string rngS] 89], #[], []⟩ with heap := (((((World.holding Tryd.prog os ⟨#[.cells #[.string synS] 89, .cells #[.string rngS] 89], #[], []⟩).heap.modify 2 (put tab2)).modify 3 (put tab3)).modify 4 (put tab4)).modify 0 (put #[.iface 87 (.pointer (some ⟨low, 0, none⟩))])).modify 1 (put #[.iface 87 (.pointer (some ⟨low + 1, 0, none⟩))]) }
theorem laid2_met (os : Os) (args : Array Value) : laidMet Tryd.prog Rows.stampTextsRow.laid ((laidWorld2 os).forCall (fun _ _ => 0) ⟨#[], args, []⟩).memory :=
  laidMet_of_run' 8 (by kernel_rfl) (by kernel_rfl)
end Go.Proofs.YtnjnbjcibdeihaaDoor
