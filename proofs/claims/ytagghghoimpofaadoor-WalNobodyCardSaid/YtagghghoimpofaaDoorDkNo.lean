/-
  Layer 15: a disk that no call made is not found.
-/
import Derived.Test.YtagghghoimpofaaDoorDkMem
namespace Go.Proofs.YtagghghoimpofaaDoor
open Go Go.RowKit Mono
set_option linter.unusedVariables false
set_option linter.unusedSimpArgs false
set_option maxRecDepth 100000
set_option maxHeartbeats 400000

/-- No disk, or one that no call made. -/
def NoB (W : World) (v : Option Addr) : Prop := v = none ∨ ∃ b, v = some ⟨b, 0, none⟩ ∧ BlkT W b 68 zeroC
theorem NoB.ext {W W' : World} {v : Option Addr} (h : NoB W v) (he : Ext W W') : NoB W' v := by
  rcases h with h | ⟨b, h, hb⟩
  · exact .inl h
  · exact .inr ⟨b, h, hb.ext he⟩
theorem fault_no {W : World} {v : Option Addr} (h : NoB W v) : Calls Tryd.prog 41 #[.pointer v] W fun e w' => e = .returned (.int .i64 1) ∧ w' = W := by
  rcases h with rfl | ⟨b, rfl, hb⟩
  · exact fault_nil W
  · exact fault_zero W b hb
theorem find_no {W : World} {v : Option Addr} (h : NoB W v) (name : ByteArray) : Calls Tryd.prog 44 #[.pointer v, .string name] W fun e w' => e = .returned (.tuple #[.pointer none, .int .i64 1]) ∧ w' = W := by
  have HF := Lib.hid (fault_no h)
  go_enter Tryd.func44, Tryd.ntmps44
  go_wp2_with fail
  refine HF.out.mono ?_
  rintro e w1 ⟨rfl, rfl⟩
  go_wp2_with fail
  go_ret2
  exact ⟨rfl, rfl⟩
theorem read_no {W : World} {v : Option Addr} (h : NoB W v) (s : ByteArray) : Calls Tryd.prog 20 #[.pointer v, .string s] W fun e w' => e = .returned (.tuple #[.slice none 0 0, .int .i64 1]) ∧ w' = W := by
  have HF := Lib.hid (find_no h s)
  go_enter Tryd.func20, Tryd.ntmps20
  go_wp2_with fail
  refine HF.out.mono ?_
  rintro e w1 ⟨rfl, rfl⟩
  go_wp2_with fail
  go_ret2
  exact ⟨rfl, rfl⟩
end Go.Proofs.YtagghghoimpofaaDoor
