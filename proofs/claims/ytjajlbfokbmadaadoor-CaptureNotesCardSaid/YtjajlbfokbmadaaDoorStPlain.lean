/-
  Layer 5: stamps; which may be, which is ahead.
-/
import Derived.Test.YtjajlbfokbmadaaDoorBlk
import Derived.Test.YtjajlbfokbmadaaDoorMonoTail
import Derived.Test.YtjajlbfokbmadaaDoorOpen
import Derived.WalkSpells
import Derived.Outline
namespace Go.Proofs.YtjajlbfokbmadaaDoor
open Go Go.RowKit Mono
set_option linter.unusedVariables false
set_option linter.unusedSimpArgs false

def stV (a b : Int) : Value := .agg #[.int .i64 a, .int .i64 b]
def sgood (a b : Int) : Bool := (a == 0 && b == 0) || (decide (1 ≤ a) && decide (a ≤ 281474976710656) && (b == 1 || b == 2))
def sless (a b c d : Int) : Bool := decide (a < c) || (a == c && decide (b < d))
theorem sgood_iff {a b : Int} : sgood a b = true ↔ (a = 0 ∧ b = 0) ∨ (1 ≤ a ∧ a ≤ 281474976710656 ∧ (b = 1 ∨ b = 2)) := by
  unfold sgood
  simp [and_assoc]
theorem sgood_true {a b : Int} (h : (a = 0 ∧ b = 0) ∨ (1 ≤ a ∧ a ≤ 281474976710656 ∧ (b = 1 ∨ b = 2))) : sgood a b = true := sgood_iff.2 h
theorem sgood_false {a b : Int} (h : ¬ ((a = 0 ∧ b = 0) ∨ (1 ≤ a ∧ a ≤ 281474976710656 ∧ (b = 1 ∨ b = 2)))) : sgood a b = false := by
  cases hs : sgood a b with
  | false => rfl
  | true => exact absurd (sgood_iff.1 hs) h
theorem sgood_cases (a b : Int) : (a = 0 ∧ b = 0) ∨ (a = 0 ∧ b ≠ 0) ∨ a < 0 ∨ 281474976710656 < a ∨ (1 ≤ a ∧ a ≤ 281474976710656 ∧ b = 1) ∨ (1 ≤ a ∧ a ≤ 281474976710656 ∧ b = 2) ∨ (1 ≤ a ∧ a ≤ 281474976710656 ∧ b ≠ 1 ∧ b ≠ 2) := by omega
def knownB (s : Int) : Bool := s == 1 || s == 2
theorem known_any (s : Int) (w : World) : Calls Tryd.prog 74 #[.int .i64 s] w fun e w' => e = .returned (.bool (knownB s)) ∧ w = w' := by
  by_cases h1 : s = 1
  · subst h1
    go_enter Tryd.func74, Tryd.ntmps74
    go_wp2_with fail
    go_ret
    exact ⟨rfl, rfl⟩
  · by_cases h2 : s = 2
    · subst h2
      go_enter Tryd.func74, Tryd.ntmps74
      go_wp2_with fail
      go_ret
      exact ⟨rfl, rfl⟩
    · have b1 : (s == 1) = false := by simpa using h1
      have b2 : (s == 2) = false := by simpa using h2
      have HK := Lib.hid (show knownB s = false by unfold knownB; rw [b1, b2]; rfl)
      clear h1 h2
      go_enter Tryd.func74, Tryd.ntmps74
      go_wp2_with fail
      go_ret
      exact ⟨by rw [HK.out]; rfl, rfl⟩
end Go.Proofs.YtjajlbfokbmadaaDoor
