/-
  Layer 15: what refuses a disk; a file by its name; the counts.
-/
import Derived.Test.YtkejoiknnigllaaDkHeap
import Derived.Test.YtkejoiknnigllaaMono
namespace Go.Proofs.Ytkejoiknnigllaa
open Go Go.RowKit Mono
set_option linter.unusedVariables false
set_option linter.unusedSimpArgs false
set_option maxRecDepth 100000

/-- Is a map nil? -/
theorem eqlMap (m : Option Nat) (W : World) : (binOp .eql 58 (.map m) (.map none)).run Try.prog W = .ok (.bool m.isNone) W := by
  have hu := Try.underlying58
  unfold binOp
  simp only [Op.equal]
  rw [show Op.maxDepth = 9999 + 1 from rfl, Op.equalIn]
  cases m <;> simp [run_underlying hu, go_sem]
/-- The cells of a disk that no call made. -/
def zeroC : List Value := [.int .i64 0, .map none, .bool false, .int .i64 0, .int .i64 0, .int .i64 0, .pointer none]
theorem fault_nil (W : World) : Calls Try.prog 37 #[.pointer none] W fun e w' => e = .returned (.int .i64 1) ∧ w' = W := by
  go_enter Try.func37, Try.ntmps37
  go_wp2_with fail
  go_ret
  exact ⟨rfl, rfl⟩
theorem fault_zero (W : World) (b : Nat) (h : BlkT W b 61 zeroC) : Calls Try.prog 37 #[.pointer (some ⟨b, 0, none⟩)] W fun e w' => e = .returned (.int .i64 1) ∧ w' = W := by
  have k1 := h.blk.cell (i := 1) rfl
  have hn := eqlMap none
  go_enter Try.func37, Try.ntmps37
  go_wp2_with fail
  go_ret
  exact ⟨rfl, rfl⟩
def faultN (d : Dk) : Nat := if d.on = true then 0 else 150
theorem fault_any {z bd bm pl : Nat} {W : World} {d : Dk} {ms : List FilM} (h : DkM z W bd bm pl d ms) : Calls Try.prog 37 #[.pointer (some ⟨bd, 0, none⟩)] W fun e w' => e = .returned (.int .i64 ((faultN d : Nat) : Int)) ∧ w' = W := by
  have k1 := h.str.blk.cell (i := 1) rfl
  have hn := eqlMap (some bm)
  have k2 := h.str.blk.cell (i := 2) rfl
  unfold faultN
  cases hon : d.on
  · rw [hon] at k2
    go_enter Try.func37, Try.ntmps37
    go_wp2_with fail
    go_ret
    exact ⟨rfl, rfl⟩
  · rw [hon] at k2
    go_enter Try.func37, Try.ntmps37
    go_wp2_with fail
    go_ret
    exact ⟨rfl, rfl⟩
end Go.Proofs.Ytkejoiknnigllaa
