/-
  Layer 16 in plain Lean: what bytes are read as, as frames one behind the other.
-/
import Derived.Test.YtagghghoimpofaaDoorWalOk
import Derived.Test.YtagghghoimpofaaDoorFrameBack
namespace Go.Proofs.YtagghghoimpofaaDoor
open Go Go.RowKit Mono Num Crc
set_option linter.unusedVariables false
set_option linter.unusedSimpArgs false
set_option maxRecDepth 100000

theorem right_form {m : List UInt8} (h : right m = true) : 4 ≤ m.length ∧ m = fix (m.take (m.length - 4)) := by
  unfold right at h
  simp only [Bool.and_eq_true, decide_eq_true_eq, beq_iff_eq] at h
  refine ⟨h.1, ?_⟩
  unfold fix
  rw [← h.2, List.take_append_drop]
/-- A frame that is opened is the frame of its body. -/
theorem fopen_form {b : List UInt8} (h : (fopen b).2.2 = 0) : b.take (fopen b).2.1 = wrap (fopen b).1 ∧ (fopen b).1.length ≤ 1048576 := by
  unfold fopen at *
  split at h
  · simp at h
  · rename_i h0
    rw [if_neg h0]
    split at h
    · simp at h
    · rename_i hm
      rw [if_neg hm]
      have hform := nget_form_back (b.drop 1)
      generalize hg : nget (b.drop 1) = g at *
      obtain ⟨n, k, f⟩ := g
      unfold fopen2 at *
      dsimp only at *
      by_cases hf : f = 0
      · subst hf
        obtain ⟨hk, hkl, _, hnp⟩ := hform n k rfl
        rw [if_neg (by simp)] at h ⊢
        split at h
        · simp at h
        · rename_i hn
          rw [if_neg hn]
          split at h
          · simp at h
          · rename_i ha
            rw [if_neg ha]
            split at h
            · simp at h
            · rename_i hr
              rw [if_neg hr]
              dsimp only
              rw [List.length_drop] at hkl
              have hbl : ((b.drop (1 + k)).take n).length = n := by rw [List.length_take, List.length_drop]; omega
              refine ⟨?_, by rw [hbl]; omega⟩
              have hr' : right (b.take (1 + k + n + 4)) = true := by simpa using hr
              obtain ⟨_, hfix⟩ := right_form hr'
              unfold wrap
              rw [hbl, if_neg (by omega), hfix]
              congr 1
              rw [List.length_take, Nat.min_eq_left (by omega), List.take_take, Nat.min_eq_left (by omega), hnp, show 1 + k + n + 4 - 4 = 1 + (k + n) by omega]
              cases b with
              | nil => simp at h0
              | cons x r =>
                have hx : x = 181 := by simpa using hm
                subst hx
                rw [show 1 + (k + n) = (k + n) + 1 by omega, List.take_succ_cons, List.drop_succ_cons, List.drop_zero, show 1 + k = k + 1 by omega, List.drop_succ_cons, List.take_add]
      · rw [if_pos hf] at h
        exact absurd h hf
theorem fopen_err {b : List UInt8} (h : (fopen b).2.2 ≠ 0) : (fopen b).2.1 = 0 := by
  unfold fopen at *
  split at h
  · rename_i h0; rw [if_pos h0]
  · rename_i h0
    rw [if_neg h0]
    split at h
    · rename_i hm; rw [if_pos hm]
    · rename_i hm
      rw [if_neg hm]
      generalize nget (b.drop 1) = g at *
      unfold fopen2 at *
      repeat' split
      all_goals first | rfl | skip
      rename_i h1 h2 h3 h4
      rw [if_neg h1, if_neg h2, if_neg h3, if_neg h4] at h
      exact absurd rfl h
theorem frowsP_form : ∀ (m : Nat) (l : List UInt8) (p : Nat), l.length ≤ m → p ≤ (frowsP p l).2.1 ∧ l.take ((frowsP p l).2.1 - p) = allOf (frowsP p l).1 ∧ ∀ x ∈ (frowsP p l).1, x.length ≤ 1048576
  | m, [], p, _ => by
    rw [frowsP_nil]
    exact ⟨Nat.le_refl _, by simp [allOf], fun x hx => (by cases hx)⟩
  | 0, a :: r, p, h => by simp at h
  | m + 1, a :: r, p, h => by
    have hne : (a :: r).length ≠ 0 := by simp
    by_cases he : (fopen (a :: r)).2.2 = 0
    · obtain ⟨h6, hle⟩ := fopen_room he
      obtain ⟨hw, hb⟩ := fopen_form he
      have hfe : felts p (a :: r) = ((fopen (a :: r)).1, p + (fopen (a :: r)).2.1, 0) :: felts (p + (fopen (a :: r)).2.1) ((a :: r).drop (fopen (a :: r)).2.1) := by
        rw [felts_cons _ _ hne, if_pos he, he]
      rw [frowsP_cons _ _ _ _ _ hfe]
      obtain ⟨i1, i2, i3⟩ := frowsP_form m ((a :: r).drop (fopen (a :: r)).2.1) (p + (fopen (a :: r)).2.1) (by rw [List.length_drop]; omega)
      generalize fopen (a :: r) = g at *
      generalize frowsP (p + g.2.1) ((a :: r).drop g.2.1) = q at *
      refine ⟨by dsimp only; omega, ?_, ?_⟩
      · dsimp only
        rw [allOf_cons, ← hw, ← i2, show q.2.1 - p = g.2.1 + (q.2.1 - (p + g.2.1)) by omega, List.take_add]
      · intro x hx
        rcases List.mem_cons.1 hx with rfl | hx
        · exact hb
        · exact i3 x hx
    · have h0 := fopen_err he
      have hfe : felts p (a :: r) = [((fopen (a :: r)).1, p + (fopen (a :: r)).2.1, (fopen (a :: r)).2.2)] := by rw [felts_cons _ _ hne, if_neg he]
      unfold frowsP
      rw [hfe, h0]
      have hb : ((fopen (a :: r)).2.2 == 0) = false := by simpa using he
      simp [hb, allOf]
theorem frows_form (l : List UInt8) : l.take (frows l).2.1 = allOf (frows l).1 ∧ ∀ x ∈ (frows l).1, x.length ≤ 1048576 := by
  have h := frowsP_form l.length l 0 (Nat.le_refl _)
  rw [frows_P]
  simpa using h.2
theorem frows_allOf (ls : List (List UInt8)) (h : ∀ x ∈ ls, x.length ≤ 1048576) : frows (allOf ls) = (ls, (allOf ls).length, 0) := by
  obtain ⟨j, h1, h2, h3, h4⟩ := torn ls 0 (allOf ls).length h (Nat.le_refl _)
  rw [List.take_length] at h2
  have hm := endsN_mono ls
  have hj : j = ls.length := by
    rcases Nat.lt_or_ge j ls.length with hlt | hge
    · have := h4 hlt
      have := hm (j + 1)
      omega
    · omega
  rw [frows_P, h2, hj, List.take_length]
  have he : endsN ls ls.length = (allOf ls).length := by unfold endsN; rw [List.take_length]
  rw [he, Nat.zero_add, if_pos rfl]
/-- What is left behind the cut is read whole. -/
theorem frows_cut (l : List UInt8) : frows (l.take (frows l).2.1) = ((frows l).1, (frows l).2.1, 0) := by
  obtain ⟨h1, h2⟩ := frows_form l
  have hl : (l.take (frows l).2.1).length = (frows l).2.1 := by rw [List.length_take, Nat.min_eq_left (frows_len l).2]
  have h3 := frows_allOf (frows l).1 h2
  rw [← h1] at h3
  rw [h3, hl]
theorem frows_snoc (l : List UInt8) (x : List UInt8) (hx : x.length ≤ 1048576) : frows (l.take (frows l).2.1 ++ wrap x) = ((frows l).1 ++ [x], (frows l).2.1 + (wrap x).length, 0) := by
  obtain ⟨h1, h2⟩ := frows_form l
  have hl : (l.take (frows l).2.1).length = (frows l).2.1 := by rw [List.length_take, Nat.min_eq_left (frows_len l).2]
  have h3 := frows_allOf ((frows l).1 ++ [x]) (fun y hy => by
    rcases List.mem_append.1 hy with hy | hy
    · exact h2 y hy
    · rw [List.mem_singleton.1 hy]; exact hx)
  rw [allOf_snoc, ← h1] at h3
  rw [h3, List.length_append, hl]
end Go.Proofs.YtagghghoimpofaaDoor
