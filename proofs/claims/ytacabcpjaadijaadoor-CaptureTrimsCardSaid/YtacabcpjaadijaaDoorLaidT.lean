/-
  What the listed table of powers gives the walks.
-/
import Derived.Test.YtacabcpjaadijaaDoorLaidC
import Derived.Test.YtacabcpjaadijaaDoorCapName
import Derived.Stop.LaidErr
import Derived.MakeChecks
namespace Go.Proofs.YtacabcpjaadijaaDoor
open Go.ChangeShapes Go.WideShapes Go.ChangeAt Go.RowKit
set_option linter.unusedVariables false

theorem gloPow : Tryd.prog.globalNamed "internal/strconv.uint64pow10" = some 0 := by kernel_rfl
theorem gloPowType : (Tryd.prog.globals[0]?).map (·.type) = some 167 := by kernel_rfl
theorem cellsU64 : Tryd.prog.cellsOf 140 = 1 := by kernel_rfl
theorem cellsPow : Tryd.prog.cellsOf 167 = 20 := by kernel_rfl
theorem tbC_of {W : World} (h : laidMetH Tryd.prog Rows.captureNotesRow.laid W) : TbC W := by
  have hL : laidMet Tryd.prog Rows.captureNotesRow.laid W := by rw [← MakeChecks.laidMetH_plain _ _ _ (by kernel_rfl)]; exact h
  exact Lib.tabIs_of_head gloPow gloPowType Tryd.underlying167 Tryd.underlying140 cellsU64 cellsPow hL.tail.tail
end Go.Proofs.YtacabcpjaadijaaDoor
