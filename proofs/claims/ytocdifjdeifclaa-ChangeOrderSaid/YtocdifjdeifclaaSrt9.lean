/-
  Layer 12: one round of the sort over a row of writes, in plain Lean.
-/
import Derived.Test.YtocdifjdeifclaaSrt0
import Derived.Sort.Walk13a
import Derived.Sort.AssemblyPlain
namespace Go.Proofs.Ytocdifjdeifclaa
open Go Go.RowKit Mono Go.Sort
set_option linter.unusedVariables false
set_option linter.unusedSimpArgs false

/-- The values of one round. -/
structure Rnd (dk : Array Wr) (a b lim : Nat) (fb fp : Bool) (d1 : Array Wr) (lm cp : Nat) (ch : Hint) (d2 : Array Wr) (pv : Nat) (ht : Hint) (d3 : Array Wr) (dn : Bool) : Prop where
  unbal : fb = false → d1 = breakPatterns dk a b ∧ lm = lim - 1
  bal : fb = true → d1 = dk ∧ lm = lim
  piv : choosePivot wahead d1 a b = (cp, ch)
  dec : ch = .decreasing → d2 = reverseRange d1 a b ∧ pv = (b - 1) - (cp - a) ∧ ht = .increasing
  ndec : ch ≠ .decreasing → d2 = d1 ∧ pv = cp ∧ ht = ch
  par : (fb && fp && decide (ht = .increasing)) = true → partialInsertionSort wahead d2 a b = (d3, dn)
  npar : (fb && fp && decide (ht = .increasing)) = false → d3 = d2 ∧ dn = false
  cpr : a ≤ cp ∧ cp < b
  pvr : a ≤ pv ∧ pv < b
  s1 : d1.size = dk.size
  s2 : d2.size = dk.size
  s3 : d3.size = dk.size
  lml : lm ≤ lim
  done : ¬ b - a ≤ 12 → ¬ lim = 0 → dn = true → pdq wahead dk a b lim fb fp = d3
  eqs : ¬ b - a ≤ 12 → ¬ lim = 0 → dn = false → (decide (a > 0) && !wahead d3[a - 1]! d3[pv]!) = true → ∀ mid d4, partitionEqual wahead d3 a b pv = (mid, d4) →
    a < mid ∧ mid ≤ b ∧ Below wahead mid b d4 ∧ pdq wahead dk a b lim fb fp = pdq wahead d4 mid b lm fb fp
  parts : ¬ b - a ≤ 12 → ¬ lim = 0 → dn = false → (decide (a > 0) && !wahead d3[a - 1]! d3[pv]!) = false → ∀ mid ap d4, partition wahead d3 a b pv = (mid, ap, d4) →
    a ≤ mid ∧ mid < b ∧ Below wahead a mid d4 ∧ Below wahead (mid + 1) b d4 ∧
    (mid - a < b - mid → Below wahead (mid + 1) b (pdq wahead d4 a mid lm true true) ∧ pdq wahead dk a b lim fb fp = pdq wahead (pdq wahead d4 a mid lm true true) (mid + 1) b lm (decide (mid - a ≥ (b - a) / 8)) ap) ∧
    (¬ mid - a < b - mid → Below wahead a mid (pdq wahead d4 (mid + 1) b lm true true) ∧ pdq wahead dk a b lim fb fp = pdq wahead (pdq wahead d4 (mid + 1) b lm true true) a mid lm (decide (b - mid ≥ (b - a) / 8)) ap)
theorem rnd (hO : SWO wahead) (dk : Array Wr) (a b lim : Nat) (fb fp : Bool) (hab : a < b) (hb : b ≤ dk.size) (hB : Below wahead a b dk) :
    ∃ d1 lm cp ch d2 pv ht d3 dn, Rnd dk a b lim fb fp d1 lm cp ch d2 pv ht d3 dn := by
  obtain ⟨s1, B1, c1, s2, B2, pv, s3, B3⟩ := rd_facts (limit := lim) (wb := fb) (wp := fp) hO partialInsertionSort_holds reverseRange_holds hab hb hB
  refine ⟨(rd wahead dk a b lim fb fp).d1, (rd wahead dk a b lim fb fp).lim, (rd wahead dk a b lim fb fp).c.1, (rd wahead dk a b lim fb fp).c.2, (rd wahead dk a b lim fb fp).d2, (rd wahead dk a b lim fb fp).pivot, (rd wahead dk a b lim fb fp).hint, (rd wahead dk a b lim fb fp).pi.1, (rd wahead dk a b lim fb fp).pi.2, ⟨fun h => ?_, fun h => ?_, rfl, rd_dec, rd_not, fun h => (rd_pi_yes h).symm, fun h => ?_, c1, pv, s1, s2, s3, rd_lim_le, fun h0 h1 h2 => pdq_done h0 h1 h2, ?_, ?_⟩⟩
  · subst h; exact rd_false
  · subst h; exact rd_true
  · rw [rd_pi_no h]; exact ⟨rfl, rfl⟩
  · intro h0 h1 h2 h3 mid d4 hx
    have h3' := h3
    simp only [Bool.and_eq_true, decide_eq_true_eq, Bool.not_eq_true'] at h3'
    obtain ⟨r1, r2, r3, r4, _⟩ := round_eq hO (partitionEqual_holds wahead) h3'.1 pv.1 pv.2 (by rw [s3]; exact hb) B3 h3'.2 hx
    exact ⟨r1, r2, r4, by rw [pdq_eq h0 h1 h2 h3 (by rw [hx]; exact ⟨r1, r2⟩), hx]⟩
  · intro h0 h1 h2 h3 mid ap d4 hx
    obtain ⟨r1, r2, r3, r4, r5, r6, r7⟩ := round_part hO (partition_holds wahead) pv.1 pv.2 (by rw [s3]; exact hb) B3 hx
    refine ⟨r1, r2, r4, r5, fun h4 => ?_, fun h4 => ?_⟩
    · obtain ⟨pL, sL⟩ := pdq_sorts wahead hO d4 a mid (rd wahead dk a b lim fb fp).lim true true r1 (by rw [r3, s3]; omega) r4
      exact ⟨(r6 _ pL sL).1, by rw [pdq_left h0 h1 h2 h3 (by rw [hx]; exact ⟨r1, r2⟩) (by rw [hx]; exact h4), hx]⟩
    · obtain ⟨pL, sL⟩ := pdq_sorts wahead hO d4 (mid + 1) b (rd wahead dk a b lim fb fp).lim true true (by omega) (by rw [r3, s3]; omega) r5
      exact ⟨(r7 _ pL sL).1, by rw [pdq_right h0 h1 h2 h3 (by rw [hx]; exact ⟨r1, r2⟩) (by rw [hx]; exact h4), hx]⟩
end Go.Proofs.Ytocdifjdeifclaa
