/-
  The walk of FrameNexts.
-/
import Derived.Test.YtlhnlnmhgkkbaaaFrameLives
namespace Go.Proofs.Ytlhnlnmhgkkbaaa
open Go Go.RowKit Mono Num Crc
set_option linter.unusedSimpArgs false
set_option linter.unusedVariables false

set_option maxHeartbeats 2000000 in
theorem frameNexts_walk (v : Value) (l : List UInt8) (x : Int) (w : World) (hv : Bs w v l) (hx : -9223372036854775808 ≤ x ∧ x ≤ 9223372036854775807) :
    Calls Try.prog 8 #[v, .int .i64 x] w fun e w' => e = .returned (.bool true) ∧ Ext w w' := by
  obtain ⟨A, c, rfl, h1, h2, _, _⟩ := hv.open_
  unfold maxLen at h2
  by_cases hl : 600 < l.length
  · go_enter Try.func8, Try.ntmps8
    go_wp2_with fail
    refine (lives_any _).mono ?_
    rintro e w' ⟨rfl, he⟩
    go_wp2_with fail
    go_ret
    exact ⟨rfl, he⟩
  · go_enter Try.func8, Try.ntmps8
    go_wp2_with fail
    refine (fNext_any _ l x _ hv (by omega) hx.2).mono ?_
    rintro e w1 ⟨rfl, e1⟩
    go_wp2_with fail
    refine (rNext_any _ l x _ (hv.ext e1) (by omega) hx.2).mono ?_
    rintro e w2 ⟨rfl, e2⟩
    go_wp2_with fail
    refine (lives_any _).mono ?_
    rintro e w3 ⟨rfl, e3⟩
    go_wp2_with fail
    go_ret
    exact ⟨rfl, Ext.trans (Ext.trans e1 e2) e3⟩
end Go.Proofs.Ytlhnlnmhgkkbaaa
