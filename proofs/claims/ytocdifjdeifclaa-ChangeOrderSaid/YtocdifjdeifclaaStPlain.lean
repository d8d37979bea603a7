/-
  Layer 5: stamps; which may be, which is ahead.
-/
import Derived.Test.YtocdifjdeifclaaBlk
import Derived.Test.YtocdifjdeifclaaMonoLast
import Derived.Test.YtocdifjdeifclaaOpen
import Derived.WalkSpells
import Derived.Outline
namespace Go.Proofs.Ytocdifjdeifclaa
open Go Go.RowKit Mono
set_option linter.unusedVariables false
set_option linter.unusedSimpArgs false

def stV (a b : Int) : Value := .agg #[.int .i64 a, .int .i64 b]
def sgood (a b : Int) : Bool := (a == 0 && b == 0) || (decide (1 ≤ a) && decide (a ≤ 281474976710656) && (b == 1 || b == 2))
def sless (a b c d : Int) : Bool := decide (a < c) || (a == c && decide (b < d))
theorem sgood_iff {a b : Int} : sgood a b = true ↔ (a = 0 ∧ b = 0) ∨ (1 ≤ a ∧ a ≤ 281474976710656 ∧ (b = 1 ∨ b = 2)) := by
  unfold sgood
  simp [and_assoc]
theorem sgood_true {a b : Int} (h : (a = 0 ∧ b = 0) ∨ (1 ≤ a ∧ a ≤ 281474976710656 ∧ (b = 1 ∨ b = 2))) : sgood a b = true := sgood_iff.2 h
theorem sgood_false {a b : Int} (h : ¬ ((a = 0 ∧ b = 0) ∨ (1 ≤ a ∧ a ≤ 281474976710656 ∧ (b = 1 ∨ b = 2)))) : sgood a b = false := by
  cases hs : sgood a b with
  | false => rfl
  | true => exact absurd (sgood_iff.1 hs) h
theorem sgood_cases (a b : Int) : (a = 0 ∧ b = 0) ∨ (a = 0 ∧ b ≠ 0) ∨ a < 0 ∨ 281474976710656 < a ∨ (1 ≤ a ∧ a ≤ 281474976710656 ∧ b = 1) ∨ (1 ≤ a ∧ a ≤ 281474976710656 ∧ b = 2) ∨ (1 ≤ a ∧ a ≤ 281474976710656 ∧ b ≠ 1 ∧ b ≠ 2) := by omega
def knownB (s : Int) : Bool := s == 1 || s == 2
theorem known_any (s : Int) (w : World) : Calls Try.prog 65 #[.int .i64 s] w fun e w' => e = .returned (.bool (knownB s)) ∧ w = w' := by
  by_cases h1 : s = 1
  · subst h1
    go_enter Try.func65, Try.ntmps65
    go_wp2_with fail
    go_ret
    exact ⟨rfl, rfl⟩
  · by_cases h2 : s = 2
    · subst h2
      go_enter Try.func65, Try.ntmps65
      go_wp2_with fail
      go_ret
      exact ⟨rfl, rfl⟩
    · have b1 : (s == 1) = false := by simpa using h1
      have b2 : (s == 2) = false := by simpa using h2
      have HK := Lib.hid (show knownB s = false by unfold knownB; rw [b1, b2]; rfl)
      clear h1 h2
      go_enter Try.func65, Try.ntmps65
      go_wp2_with fail
      go_ret
      exact ⟨by rw [HK.out]; rfl, rfl⟩
end Go.Proofs.Ytocdifjdeifclaa

/-
  The walks of both Good and Less of stamps.
-/
namespace Go.Proofs.Ytocdifjdeifclaa
open Go Go.RowKit Mono
set_option linter.unusedVariables false
set_option linter.unusedSimpArgs false

set_option maxHeartbeats 1000000 in
theorem stGood_any (a b : Int) (w : World) : Calls Try.prog 34 #[stV a b] w fun e w' => e = .returned (.bool (sgood a b)) ∧ Ext w w' := by
  unfold stV
  rcases sgood_cases a b with ⟨rfl, rfl⟩ | ⟨rfl, h⟩ | h | h | ⟨h1, h2, rfl⟩ | ⟨h1, h2, rfl⟩ | ⟨h1, h2, h3, h4⟩
  · have HS := Lib.hid (show sgood 0 0 = true from sgood_true (by omega))
    go_enter Try.func34, Try.ntmps34
    go_wp2_with fail
    go_ret
    exact ⟨by rw [HS.out]; rfl, ext_alloc _ _⟩
  · have HS := Lib.hid (show sgood 0 b = false from sgood_false (by omega))
    have b0 : (b == 0) = false := by rw [beq_eq_false_iff_ne]; exact h
    clear h
    go_enter Try.func34, Try.ntmps34
    go_wp2_with fail
    go_ret
    exact ⟨by rw [HS.out]; rfl, ext_alloc _ _⟩
  · have HS := Lib.hid (show sgood a b = false from sgood_false (by omega))
    have b0 : (a == 0) = false := by rw [beq_eq_false_iff_ne]; omega
    go_enter Try.func34, Try.ntmps34
    go_wp2_with fail
    go_ret
    exact ⟨by rw [HS.out]; rfl, ext_alloc _ _⟩
  · have HS := Lib.hid (show sgood a b = false from sgood_false (by omega))
    have b0 : (a == 0) = false := by rw [beq_eq_false_iff_ne]; omega
    go_enter Try.func34, Try.ntmps34
    go_wp2_with fail
    go_ret
    exact ⟨by rw [HS.out]; rfl, ext_alloc _ _⟩
  · have HS := Lib.hid (show sgood a 1 = true from sgood_true (by omega))
    have b0 : (a == 0) = false := by rw [beq_eq_false_iff_ne]; omega
    have HK := Lib.hid (show knownB 1 = true by rfl)
    go_enter Try.func34, Try.ntmps34
    go_wp2_with fail
    refine (known_any _ _).mono ?_
    rintro e w' ⟨rfl, rfl⟩
    rw [HK.out]
    go_wp2_with fail
    go_ret
    exact ⟨by rw [HS.out]; rfl, ext_alloc _ _⟩
  · have HS := Lib.hid (show sgood a 2 = true from sgood_true (by omega))
    have b0 : (a == 0) = false := by rw [beq_eq_false_iff_ne]; omega
    have HK := Lib.hid (show knownB 2 = true by rfl)
    go_enter Try.func34, Try.ntmps34
    go_wp2_with fail
    refine (known_any _ _).mono ?_
    rintro e w' ⟨rfl, rfl⟩
    rw [HK.out]
    go_wp2_with fail
    go_ret
    exact ⟨by rw [HS.out]; rfl, ext_alloc _ _⟩
  · have HS := Lib.hid (show sgood a b = false from sgood_false (by omega))
    have b0 : (a == 0) = false := by rw [beq_eq_false_iff_ne]; omega
    have HK := Lib.hid (show knownB b = false by unfold knownB; simp [h3, h4])
    have b1 : (b == 1) = false := by simpa using h3
    have b2 : (b == 2) = false := by simpa using h4
    clear h3 h4
    go_enter Try.func34, Try.ntmps34
    go_wp2_with fail
    refine (known_any _ _).mono ?_
    rintro e w' ⟨rfl, rfl⟩
    rw [HK.out]
    go_wp2_with fail
    go_ret
    exact ⟨by rw [HS.out]; rfl, ext_alloc _ _⟩

set_option maxHeartbeats 1000000 in
theorem refSGood_any (a b : Int) (w : World) : Calls Try.prog 39 #[stV a b] w fun e w' => e = .returned (.bool (sgood a b)) ∧ Ext w w' := by
  unfold stV
  rcases sgood_cases a b with ⟨rfl, rfl⟩ | ⟨rfl, h⟩ | h | h | ⟨h1, h2, rfl⟩ | ⟨h1, h2, rfl⟩ | ⟨h1, h2, h3, h4⟩
  · have HS := Lib.hid (show sgood 0 0 = true from sgood_true (by omega))
    go_enter Try.func39, Try.ntmps39
    go_wp2_with fail
    go_ret
    exact ⟨by rw [HS.out]; rfl, ext_alloc _ _⟩
  · have HS := Lib.hid (show sgood 0 b = false from sgood_false (by omega))
    have b0 : (b == 0) = false := by rw [beq_eq_false_iff_ne]; exact h
    clear h
    go_enter Try.func39, Try.ntmps39
    go_wp2_with fail
    go_ret
    exact ⟨by rw [HS.out]; rfl, ext_alloc _ _⟩
  · have HS := Lib.hid (show sgood a b = false from sgood_false (by omega))
    have b0 : (a == 0) = false := by rw [beq_eq_false_iff_ne]; omega
    go_enter Try.func39, Try.ntmps39
    go_wp2_with fail
    go_ret
    exact ⟨by rw [HS.out]; rfl, ext_alloc _ _⟩
  · have HS := Lib.hid (show sgood a b = false from sgood_false (by omega))
    have b0 : (a == 0) = false := by rw [beq_eq_false_iff_ne]; omega
    go_enter Try.func39, Try.ntmps39
    go_wp2_with fail
    go_ret
    exact ⟨by rw [HS.out]; rfl, ext_alloc _ _⟩
  · have HS := Lib.hid (show sgood a 1 = true from sgood_true (by omega))
    have b0 : (a == 0) = false := by rw [beq_eq_false_iff_ne]; omega
    have HK := Lib.hid (show knownB 1 = true by rfl)
    go_enter Try.func39, Try.ntmps39
    go_wp2_with fail
    go_ret
    exact ⟨by rw [HS.out]; rfl, ext_alloc _ _⟩
  · have HS := Lib.hid (show sgood a 2 = true from sgood_true (by omega))
    have b0 : (a == 0) = false := by rw [beq_eq_false_iff_ne]; omega
    have HK := Lib.hid (show knownB 2 = true by rfl)
    go_enter Try.func39, Try.ntmps39
    go_wp2_with fail
    go_ret
    exact ⟨by rw [HS.out]; rfl, ext_alloc _ _⟩
  · have HS := Lib.hid (show sgood a b = false from sgood_false (by omega))
    have b0 : (a == 0) = false := by rw [beq_eq_false_iff_ne]; omega
    have HK := Lib.hid (show knownB b = false by unfold knownB; simp [h3, h4])
    have b1 : (b == 1) = false := by simpa using h3
    have b2 : (b == 2) = false := by simpa using h4
    clear h3 h4
    go_enter Try.func39, Try.ntmps39
    go_wp2_with fail
    go_ret
    exact ⟨by rw [HS.out]; rfl, ext_alloc _ _⟩

end Go.Proofs.Ytocdifjdeifclaa
