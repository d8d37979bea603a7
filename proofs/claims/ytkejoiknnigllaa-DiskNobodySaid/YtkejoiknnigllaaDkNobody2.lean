/-
  Layer 15: no disk has names.
-/
import Derived.Test.YtkejoiknnigllaaDkNobody
import Derived.Laws.IdiomRangeMap
namespace Go.Proofs.Ytkejoiknnigllaa
open Go Go.RowKit Mono
set_option linter.unusedVariables false
set_option linter.unusedSimpArgs false
set_option maxRecDepth 100000
set_option maxHeartbeats 400000

theorem names_no {W : World} {v : Option Addr} (h : NoB W v) : Calls Try.prog 21 #[.pointer v] W fun e w' => e = .returned (.slice none 0 0) ∧ Ext W w' := by
  rcases h with rfl | ⟨b, rfl, hb⟩
  · go_enter Try.func21, Try.ntmps21
    go_wp2_with fail
    go_ret
    exact ⟨rfl, Ext.refl _⟩
  · have k := hb.blk.cell (i := 1) rfl
    have hr := run_range_nilMap (P := Try.prog) W 58 9 67 Try.underlying58
    have HS := Lib.hid (Try.sort_Strings_none none 0 (W.alloc (.mapIter none 0 #[] 0)))
    have HN := fun ty => run_next_nilMap (P := Try.prog) W ty 0 0 #[]
    go_enter Try.func21, Try.ntmps21
    go_wp2_with fail
    go_loopw [2] (fun v wr => v = .slice none 0 0 ∧ wr = W.alloc (.mapIter none 0 #[] 0)) (fun _ _ => 0)
    case atStart => exact ⟨rfl, rfl⟩
    case round =>
      obtain ⟨rfl, rfl⟩ := hrel
      go_wp2_with fail
      refine HS.out.mono ?_
      rintro e w' ⟨rfl, rfl⟩
      go_wp2_with fail
      go_ret
      exact ⟨rfl, ext_alloc _ _⟩
end Go.Proofs.Ytkejoiknnigllaa
