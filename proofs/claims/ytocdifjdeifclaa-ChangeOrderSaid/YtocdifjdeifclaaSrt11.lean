/-
  Layer 12: Canon's 'less': an order, and what its call does.
-/
import Derived.Test.YtocdifjdeifclaaSrt0
import Derived.Test.YtocdifjdeifclaaChGood
import Derived.Sort.Statements
import Derived.Deep.DeepCutAuto
namespace Go.Proofs.Ytocdifjdeifclaa
open Go Go.RowKit Mono Go.Sort
set_option linter.unusedVariables false
set_option linter.unusedSimpArgs false
set_option maxRecDepth 100000

theorem bls_trans {a b c : List UInt8} (h1 : Op.bytesLess a b = true) (h2 : Op.bytesLess b c = true) : Op.bytesLess a c = true := by
  rw [Go.Proofs.bytesLess_eq] at h1 h2 ⊢
  simp only [decide_eq_true_eq] at h1 h2 ⊢
  exact List.lt_trans h1 h2
theorem bls_total {a b : List UInt8} (h1 : Op.bytesLess a b = false) (hne : a ≠ b) : Op.bytesLess b a = true := by
  rw [Go.Proofs.bytesLess_eq] at h1 ⊢
  simp only [decide_eq_true_eq, decide_eq_false_iff_not] at h1 ⊢
  rcases List.le_iff_lt_or_eq.1 (List.not_lt.1 h1) with h | h
  · exact h
  · exact absurd h.symm hne
theorem wah_trans {a b c : Wr} (h1 : wahead a b = true) (h2 : wahead b c = true) : wahead a c = true := by
  unfold wahead at *
  simp only [Bool.or_eq_true, Bool.and_eq_true, beq_iff_eq, decide_eq_true_eq] at *
  rcases h1 with h1 | ⟨h1, g1⟩
  · rcases h2 with h2 | ⟨h2, g2⟩
    · exact .inl (bls_trans h1 h2)
    · exact .inl (h2 ▸ h1)
  · rcases h2 with h2 | ⟨h2, g2⟩
    · exact .inl (h1 ▸ h2)
    · exact .inr ⟨h1.trans h2, by omega⟩
theorem wah_irrefl (a : Wr) : wahead a a = false := by
  unfold wahead
  simp [bytesLess_irrefl]
/-- Not ahead either way: the same place. -/
theorem wah_total {a b : Wr} (h : wahead a b = false) : wahead b a = true ∨ (a.key = b.key ∧ a.group = b.group) := by
  unfold wahead at *
  simp only [Bool.or_eq_false_iff, Bool.and_eq_false_iff, beq_eq_false_iff_ne, ne_eq, decide_eq_false_iff_not, Bool.or_eq_true, Bool.and_eq_true, beq_iff_eq, decide_eq_true_eq] at *
  by_cases hk : a.key = b.key
  · rcases h.2 with h2 | h2
    · exact absurd hk h2
    · by_cases hg : a.group = b.group
      · exact .inr ⟨hk, hg⟩
      · exact .inl (.inr ⟨hk.symm, by omega⟩)
  · exact .inl (.inl (bls_total h.1 hk))
theorem wah_swo : SWO wahead where
  irrefl := wah_irrefl
  trans := fun _ _ _ h1 h2 => wah_trans h1 h2
  ntrans := fun x y z h1 h2 => by
    cases h : wahead x z with
    | false => rfl
    | true =>
      rcases wah_total h1 with h3 | ⟨k3, g3⟩
      · exact absurd (wah_trans h3 h) (by rw [h2]; exact Bool.false_ne_true)
      · have : wahead y z = wahead x z := by unfold wahead; rw [k3, g3]
        rw [this, h] at h2
        exact absurd h2 (by simp)
end Go.Proofs.Ytocdifjdeifclaa
