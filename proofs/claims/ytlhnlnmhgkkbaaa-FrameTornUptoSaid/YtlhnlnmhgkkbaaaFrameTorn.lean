/-
  Layer 3 in plain Lean: frames one behind the other that are cut anywhere.
-/
import Derived.Test.YtlhnlnmhgkkbaaaFrameBack
namespace Go.Proofs.Ytlhnlnmhgkkbaaa
open Go.RowKit Mono Num Crc
set_option linter.unusedVariables false

/-- All frames, one behind the other. -/
def allOf (ls : List (List UInt8)) : List UInt8 := (ls.map wrap).flatten
/-- Where the j-th ends. -/
def endsN (ls : List (List UInt8)) (j : Nat) : Nat := (allOf (ls.take j)).length
def frowsP (p : Nat) (l : List UInt8) : List (List UInt8) × Nat × Nat :=
  (((felts p l).filter (fun x => x.2.2 == 0)).map (·.1), (match (felts p l).getLast? with | some x => x.2.1 | none => p), (match (felts p l).getLast? with | some x => x.2.2 | none => 0))
theorem frows_P (l : List UInt8) : frows l = frowsP 0 l := rfl
theorem allOf_cons (x : List UInt8) (ls : List (List UInt8)) : allOf (x :: ls) = wrap x ++ allOf ls := rfl
theorem allOf_snoc (ls : List (List UInt8)) (x : List UInt8) : allOf (ls ++ [x]) = allOf ls ++ wrap x := by simp [allOf]
theorem endsN_zero (ls : List (List UInt8)) : endsN ls 0 = 0 := by simp [endsN, allOf]
theorem endsN_cons (x : List UInt8) (ls : List (List UInt8)) (j : Nat) : endsN (x :: ls) (j + 1) = (wrap x).length + endsN ls j := by
  unfold endsN
  rw [List.take_succ_cons, allOf_cons, List.length_append]
theorem frowsP_nil (p : Nat) : frowsP p [] = ([], p, 0) := by
  unfold frowsP
  rw [felts_nil _ _ rfl]
  rfl
theorem frowsP_cons (p q : Nat) (l t b : List UInt8) (h : felts p l = (b, q, 0) :: felts q t) : frowsP p l = (b :: (frowsP q t).1, (frowsP q t).2.1, (frowsP q t).2.2) := by
  unfold frowsP
  rw [h, List.getLast?_cons]
  simp only [List.filter_cons, beq_self_eq_true, if_true, List.map_cons]
  cases (felts q t).getLast? <;> rfl
theorem torn : ∀ (ls : List (List UInt8)) (p k : Nat), (∀ x ∈ ls, x.length ≤ 1048576) → k ≤ (allOf ls).length →
    ∃ j, j ≤ ls.length ∧ frowsP p ((allOf ls).take k) = (ls.take j, p + endsN ls j, if endsN ls j = k then 0 else 10) ∧ endsN ls j ≤ k ∧ (j < ls.length → k < endsN ls (j + 1))
  | [], p, k, _, hk => by
    have : k = 0 := by simpa [allOf] using hk
    subst this
    refine ⟨0, Nat.le_refl _, ?_, by simp [endsN, allOf], fun h => by simp at h⟩
    rw [List.take_zero, frowsP_nil, endsN_zero]
    rfl
  | x :: ls, p, k, hx, hk => by
    have hxl := hx x (by simp)
    obtain ⟨hl, hk1, hk8⟩ := frame_len x hxl
    rw [allOf_cons] at hk ⊢
    by_cases h0 : k = 0
    · subst h0
      refine ⟨0, Nat.zero_le _, ?_, by rw [endsN_zero]; exact Nat.le_refl _, fun _ => by rw [endsN_cons, endsN_zero]; omega⟩
      rw [List.take_zero, frowsP_nil, endsN_zero]
      rfl
    · by_cases hc : k < (wrap x).length
      · refine ⟨0, Nat.zero_le _, ?_, by rw [endsN_zero]; exact Nat.zero_le _, fun _ => by rw [endsN_cons, endsN_zero]; omega⟩
        have hf := fopen_cut x (allOf ls) k hxl (by omega) hc
        rw [List.length_append] at hk
        have hn : ((wrap x ++ allOf ls).take k).length ≠ 0 := by rw [List.length_take, List.length_append, Nat.min_eq_left hk]; omega
        unfold frowsP
        rw [felts_cons _ _ hn, hf, endsN_zero]
        simp
        omega
      · rw [List.length_append] at hk
        obtain ⟨j, h1, h2, h3, h4⟩ := torn ls (p + (wrap x).length) (k - (wrap x).length) (fun y hy => hx y (by simp [hy])) (by omega)
        have ht : (wrap x ++ allOf ls).take k = wrap x ++ (allOf ls).take (k - (wrap x).length) := by
          rw [List.take_append, List.take_of_length_le (by omega)]
        have hf := fopen_wrap x ((allOf ls).take (k - (wrap x).length)) hxl
        have hn : (wrap x ++ (allOf ls).take (k - (wrap x).length)).length ≠ 0 := by rw [List.length_append]; omega
        have hfe : felts p (wrap x ++ (allOf ls).take (k - (wrap x).length)) = (x, p + (wrap x).length, 0) :: felts (p + (wrap x).length) ((allOf ls).take (k - (wrap x).length)) := by
          rw [felts_cons _ _ hn, hf]
          simp
        refine ⟨j + 1, by simp; omega, ?_, by rw [endsN_cons]; omega, fun h => ?_⟩
        · rw [ht, frowsP_cons _ _ _ _ _ hfe, h2, endsN_cons]
          simp only [List.take_succ_cons, Prod.mk.injEq, true_and]
          refine ⟨by omega, ?_⟩
          by_cases he : endsN ls j = k - (wrap x).length
          · rw [if_pos he, if_pos (by omega)]
          · rw [if_neg he, if_neg (by omega)]
        · rw [endsN_cons]
          have := h4 (by simpa using h)
          omega
theorem endsN_succ (ls : List (List UInt8)) (j : Nat) (x : List UInt8) (h : ls[j]? = some x) : endsN ls (j + 1) = endsN ls j + (wrap x).length := by
  unfold endsN
  rw [List.take_add_one, h, Option.toList_some, allOf_snoc, List.length_append]
theorem endsN_mono (ls : List (List UInt8)) : ∀ j, endsN ls j ≤ (allOf ls).length := by
  intro j
  have h : allOf ls = allOf (ls.take j) ++ allOf (ls.drop j) := by
    unfold allOf
    rw [← List.flatten_append, ← List.map_append, List.take_append_drop]
  unfold endsN
  rw [h, List.length_append]
  exact Nat.le_add_right _ _
def szsum : List (List UInt8) → Nat
  | [] => 0
  | x :: l => 10 + x.length + szsum l
theorem szsum_append (a b : List (List UInt8)) : szsum (a ++ b) = szsum a + szsum b := by
  induction a with
  | nil => simp [szsum]
  | cons x a ih => simp only [List.cons_append, szsum, ih]; omega
theorem szsum_mem {ls : List (List UInt8)} {x : List UInt8} (h : x ∈ ls) : x.length + 10 ≤ szsum ls := by
  induction ls with
  | nil => cases h
  | cons y ls ih =>
    unfold szsum
    rcases List.mem_cons.1 h with rfl | h
    · omega
    · have := ih h; omega
theorem szsum_len (ls : List (List UInt8)) : 10 * ls.length ≤ szsum ls := by
  induction ls with
  | nil => simp [szsum]
  | cons x a ih => simp only [List.length_cons, szsum]; omega
theorem szsum_take (ls : List (List UInt8)) (k : Nat) : szsum (ls.take k) ≤ szsum ls := by
  have := szsum_append (ls.take k) (ls.drop k)
  rw [List.take_append_drop] at this
  omega
theorem allOf_len : ∀ (ls : List (List UInt8)), szsum ls ≤ 1048576 → (allOf ls).length ≤ 2 * szsum ls
  | [], _ => by simp [allOf]
  | x :: ls, h => by
    unfold szsum at h ⊢
    have := allOf_len ls (by omega)
    have := (frame_len x (by omega))
    rw [allOf_cons, List.length_append]
    omega
end Go.Proofs.Ytlhnlnmhgkkbaaa
