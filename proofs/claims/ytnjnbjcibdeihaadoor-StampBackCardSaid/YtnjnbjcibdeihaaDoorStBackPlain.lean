/-
  What is put is got, what is told is read, and the codes keep the order: the plain law.
-/
import Derived.Test.YtnjnbjcibdeihaaDoorStReadRef
import Derived.Test.YtnjnbjcibdeihaaDoorStBytes
namespace Go.Proofs.YtnjnbjcibdeihaaDoor
open Go Go.RowKit Mono Num
set_option linter.unusedVariables false

theorem code_nat {a b : Int} (h : sgood a b = true) : ∃ m : Nat, scode a b = (m : Int) ∧ m ≤ 4611686018427387903 ∧ ∀ tail, sget (nput (m : Int) ++ tail) = ((a, b), (nput (m : Int)).length, 0) := by
  rcases sgood_iff.1 h with ⟨rfl, rfl⟩ | ⟨h1, h2, h3⟩
  · refine ⟨0, scode_zero, by decide, fun tail => ?_⟩
    unfold sget
    rw [nget_nput 0 tail (by decide), nput_length]
    rfl
  · refine ⟨(2 * a + b - 1).toNat, by rw [scode_good ⟨h1, h2, h3⟩]; omega, by omega, fun tail => ?_⟩
    unfold sget
    rw [nget_nput _ tail (by omega), nput_length]
    have e1 : (((2 * a + b - 1).toNat : Nat) : Int) / 2 = a := by omega
    have e2 : (((2 * a + b - 1).toNat : Nat) : Int) % 2 + 1 = b := by omega
    simp only [ne_eq, not_true_eq_false, if_false]
    rw [if_neg (by omega), e1, e2, if_pos h]
theorem sread_back {a b : Int} {r : (Int × Int) × Int} (h : sgood a b = true) (hr : SRead (stext a b) r) : r = ((a, b), 0) := by
  refine hr.uniq ?_
  rcases sgood_iff.1 h with ⟨rfl, rfl⟩ | hg
  · exact .inl ⟨stext_zero, rfl⟩
  · refine .inr (.inl ⟨fun e => ?_, a, b, hg, rfl, rfl⟩)
    have := (stext_len hg).1
    rw [e] at this
    simp at this
theorem codes_order {a b c d : Int} {m n : Nat} (h : sgood a b = true) (k : sgood c d = true) (hm : scode a b = (m : Int)) (hn : scode c d = (n : Int)) : sless a b c d = decide (m < n) := by
  unfold scode at hm hn
  rw [if_pos h] at hm
  rw [if_pos k] at hn
  unfold sless
  rw [Bool.eq_iff_iff]
  rcases sgood_iff.1 h with ⟨rfl, rfl⟩ | ⟨h1, h2, h3⟩ <;> rcases sgood_iff.1 k with ⟨rfl, rfl⟩ | ⟨k1, k2, k3⟩
  all_goals simp at hm hn ⊢
  all_goals (try rw [if_neg (by omega)] at hm) <;> (try rw [if_neg (by omega)] at hn) <;> omega
/-- Of two codes of one length the lesser one is the lesser stamp's. -/
theorem back_order {a b c d : Int} (h : sgood a b = true) (hl : (nput (scode a b)).length = (nput (scode c d)).length) : Op.bytesLess (nput (scode a b)) (nput (scode c d)) = sless a b c d := by
  obtain ⟨m, hm, hm1, _⟩ := code_nat h
  cases k : sgood c d with
  | false =>
    rw [scode_bad k, nput_out (n := -1) (.inl (by decide)), hm, nput_length] at hl
    have := nsize_pos m hm1
    simp at hl
    omega
  | true =>
    obtain ⟨n, hn, hn1, _⟩ := code_nat k
    rw [codes_order h k hm hn, hm, hn]
    rw [hm, hn, nput_length, nput_length] at hl
    exact nput_less m n hm1 hn1 hl
end Go.Proofs.YtnjnbjcibdeihaaDoor
