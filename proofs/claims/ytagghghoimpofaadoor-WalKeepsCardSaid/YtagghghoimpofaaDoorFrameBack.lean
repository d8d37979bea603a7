/-
  Layer 3 in plain Lean: frames that are wrapped are opened; turned ones are not; torn ones tell those that are whole.
-/
import Derived.Test.YtagghghoimpofaaDoorFrameRows
import Derived.Test.YtagghghoimpofaaDoorCrcBurst
namespace Go.Proofs.YtagghghoimpofaaDoor
open Go.RowKit Mono Num Crc
set_option linter.unusedVariables false

theorem fix_len (l : List UInt8) : (fix l).length = l.length + 4 := by simp [fix, sumB]
theorem frame_len (l : List UInt8) (h : l.length ≤ 1048576) : (wrap l).length = 1 + nsize (l.length : Int) + l.length + 4 ∧ 1 ≤ nsize (l.length : Int) ∧ nsize (l.length : Int) ≤ 8 := by
  unfold wrap
  rw [if_neg (by omega), fix_len]
  have h1 := nsize_le (l.length : Int)
  have h2 := nsize_pos l.length (by omega)
  simp only [List.length_cons, List.length_append, nput_length]
  omega
/-- What a whole frame says, whatever its last bytes are. -/
theorem fopen_whole (n : Nat) (m t : List UInt8) (hn : n ≤ 1048576) (hm : m.length = n + 4) :
    fopen (181 :: (nput (n : Int) ++ m) ++ t) = if right (181 :: (nput (n : Int) ++ m)) = true then (m.take n, 1 + nsize (n : Int) + n + 4, 0) else ([], 0, 31) := by
  have hk := nput_length (n : Int)
  have e1 : nget ((181 :: (nput (n : Int) ++ m) ++ t).drop 1) = (n, nsize (n : Int), 0) := by
    rw [List.cons_append, List.drop_succ_cons, List.drop_zero, List.append_assoc]
    exact nget_nput n _ (by omega)
  have hL : (181 :: (nput (n : Int) ++ m) : List UInt8).length = 1 + nsize (n : Int) + n + 4 := by
    simp only [List.length_cons, List.length_append, hk, hm]; omega
  unfold fopen
  rw [if_neg (by simp), if_neg (by simp), e1]
  unfold fopen2
  dsimp only
  rw [if_neg (by simp), if_neg (by omega), if_neg (by rw [List.length_append, hL]; omega)]
  have e2 : (181 :: (nput (n : Int) ++ m) ++ t).take (1 + nsize (n : Int) + n + 4) = 181 :: (nput (n : Int) ++ m) := by
    rw [← hL, List.take_left']
    rfl
  rw [e2]
  cases hr : right (181 :: (nput (n : Int) ++ m)) with
  | false => simp
  | true =>
    rw [if_neg (by simp), if_pos rfl]
    congr 1
    have : 181 :: (nput (n : Int) ++ m) ++ t = (181 :: nput (n : Int)) ++ (m ++ t) := by simp
    rw [this, List.drop_append_of_le_length (by simp [hk]; omega), List.drop_eq_nil_of_le (by simp [hk]; omega), List.nil_append, List.take_append_of_le_length (by omega)]
theorem wrap_form (l : List UInt8) (h : l.length ≤ 1048576) : wrap l = 181 :: (nput (l.length : Int) ++ (l ++ sumB (sum (181 :: (nput (l.length : Int) ++ l))))) := by
  unfold wrap
  rw [if_neg (by omega)]
  unfold fix
  simp
theorem sumB_len (s : BitVec 32) : (sumB s).length = 4 := rfl
theorem fopen_wrap (l t : List UInt8) (h : l.length ≤ 1048576) : fopen (wrap l ++ t) = (l, (wrap l).length, 0) := by
  have hl := (frame_len l h).1
  rw [hl]
  have hr : right (wrap l) = true := by unfold wrap; rw [if_neg (by omega)]; exact right_fix _
  rw [wrap_form l h] at hr ⊢
  rw [fopen_whole l.length _ t h (by rw [List.length_append, sumB_len]), if_pos hr, List.take_append_of_le_length (Nat.le_refl _), List.take_length]

theorem tw_take (l : List UInt8) (k : Nat) (t : BitVec 32) : ∀ j, (tw l k t j).take k = l.take k
  | 0 => rfl
  | j + 1 => by
    show ((tw l k t j).set (k + j) _).take k = _
    rw [List.take_set_of_le (by omega)]
    exact tw_take l k t j
theorem fopen_turned (l : List UInt8) (q : Nat) (t : BitVec 32) (h : l.length ≤ 1048576) (hq : q ≤ l.length) (ht : t ≠ 0#32) :
    fopen (tw (wrap l) (1 + nsize (l.length : Int) + q) t 4) = ([], 0, 31) := by
  have hl := (frame_len l h).1
  have hw : wrap l = fix (181 :: (nput (l.length : Int) ++ l)) := by unfold wrap; rw [if_neg (by omega)]
  have hB : right (tw (wrap l) (1 + nsize (l.length : Int) + q) t 4) = false := by
    rw [hw]
    refine burst _ _ t ?_ ht
    simp only [List.length_cons, List.length_append, nput_length]
    omega
  have htk := tw_take (wrap l) (1 + nsize (l.length : Int) + q) t 4
  have hlen := tw_length (wrap l) (1 + nsize (l.length : Int) + q) t 4
  generalize tw (wrap l) (1 + nsize (l.length : Int) + q) t 4 = b at *
  have h1 : b.take (1 + nsize (l.length : Int)) = 181 :: nput (l.length : Int) := by
    have : b.take (1 + nsize (l.length : Int)) = (b.take (1 + nsize (l.length : Int) + q)).take (1 + nsize (l.length : Int)) := by
      rw [List.take_take, Nat.min_eq_left (by omega)]
    rw [this, htk, List.take_take, Nat.min_eq_left (by omega), wrap_form l h]
    rw [show 1 + nsize (l.length : Int) = nsize (l.length : Int) + 1 by omega, List.take_succ_cons, ← nput_length, List.take_left']
    rfl
  have h2 : b = 181 :: (nput (l.length : Int) ++ b.drop (1 + nsize (l.length : Int))) := by
    have := (List.take_append_drop (1 + nsize (l.length : Int)) b).symm
    rw [h1] at this
    simpa using this
  have hm : (b.drop (1 + nsize (l.length : Int))).length = l.length + 4 := by rw [List.length_drop]; omega
  have h3 := fopen_whole l.length _ [] h hm
  rw [List.append_nil, ← h2, hB] at h3
  simpa using h3

/-- A frame that is cut is cut. -/
theorem fopen_cut (l t : List UInt8) (c : Nat) (h : l.length ≤ 1048576) (h0 : 0 < c) (hc : c < (wrap l).length) : fopen ((wrap l ++ t).take c) = ([], 0, 10) := by
  obtain ⟨hl, hk1, hk8⟩ := frame_len l h
  rw [List.take_append_of_le_length (by omega), wrap_form l h]
  obtain ⟨d, rfl⟩ : ∃ d, c = d + 1 := ⟨c - 1, by omega⟩
  rw [List.take_succ_cons]
  unfold fopen
  rw [if_neg (by simp), if_neg (by simp), List.drop_succ_cons, List.drop_zero]
  by_cases hd : d < nsize (l.length : Int)
  · have hg : nget ((nput (l.length : Int) ++ (l ++ sumB (sum (181 :: (nput (l.length : Int) ++ l))))).take d) = (0, 0, 10) := by
      rw [List.take_append_of_le_length (by rw [nput_length]; omega), nput_enc, enc_cons _ _ hk1]
      cases d with
      | zero => rfl
      | succ d =>
        rw [List.take_succ_cons]
        refine nget_cut _ _ ?_
        rw [nlen_first _ _ rfl hk1]
        simp only [List.length_take, List.length_map, List.length_range]
        omega
    rw [hg]
    unfold fopen2
    simp
  · have hg : nget ((nput (l.length : Int) ++ (l ++ sumB (sum (181 :: (nput (l.length : Int) ++ l))))).take d) = (l.length, nsize (l.length : Int), 0) := by
      rw [show d = (nput (l.length : Int)).length + (d - nsize (l.length : Int)) by rw [nput_length]; omega, List.take_length_add_append]
      exact nget_nput l.length _ (by omega)
    rw [hg]
    unfold fopen2
    dsimp only
    rw [if_neg (by simp), if_neg (by omega), if_pos]
    simp only [List.length_cons, List.length_take, List.length_append, nput_length, sumB_len]
    omega
end Go.Proofs.YtagghghoimpofaaDoor

/-
  Layer 3 in plain Lean: frames one behind the other that are cut anywhere.
-/
namespace Go.Proofs.YtagghghoimpofaaDoor
open Go.RowKit Mono Num Crc
set_option linter.unusedVariables false

/-- All frames, one behind the other. -/
def allOf (ls : List (List UInt8)) : List UInt8 := (ls.map wrap).flatten
/-- Where the j-th ends. -/
def endsN (ls : List (List UInt8)) (j : Nat) : Nat := (allOf (ls.take j)).length
def frowsP (p : Nat) (l : List UInt8) : List (List UInt8) × Nat × Nat :=
  (((felts p l).filter (fun x => x.2.2 == 0)).map (·.1), (match (felts p l).getLast? with | some x => x.2.1 | none => p), (match (felts p l).getLast? with | some x => x.2.2 | none => 0))
theorem frows_P (l : List UInt8) : frows l = frowsP 0 l := rfl
theorem allOf_cons (x : List UInt8) (ls : List (List UInt8)) : allOf (x :: ls) = wrap x ++ allOf ls := rfl
theorem allOf_snoc (ls : List (List UInt8)) (x : List UInt8) : allOf (ls ++ [x]) = allOf ls ++ wrap x := by simp [allOf]
theorem endsN_zero (ls : List (List UInt8)) : endsN ls 0 = 0 := by simp [endsN, allOf]
theorem endsN_cons (x : List UInt8) (ls : List (List UInt8)) (j : Nat) : endsN (x :: ls) (j + 1) = (wrap x).length + endsN ls j := by
  unfold endsN
  rw [List.take_succ_cons, allOf_cons, List.length_append]
theorem frowsP_nil (p : Nat) : frowsP p [] = ([], p, 0) := by
  unfold frowsP
  rw [felts_nil _ _ rfl]
  rfl
theorem frowsP_cons (p q : Nat) (l t b : List UInt8) (h : felts p l = (b, q, 0) :: felts q t) : frowsP p l = (b :: (frowsP q t).1, (frowsP q t).2.1, (frowsP q t).2.2) := by
  unfold frowsP
  rw [h, List.getLast?_cons]
  simp only [List.filter_cons, beq_self_eq_true, if_true, List.map_cons]
  cases (felts q t).getLast? <;> rfl
theorem torn : ∀ (ls : List (List UInt8)) (p k : Nat), (∀ x ∈ ls, x.length ≤ 1048576) → k ≤ (allOf ls).length →
    ∃ j, j ≤ ls.length ∧ frowsP p ((allOf ls).take k) = (ls.take j, p + endsN ls j, if endsN ls j = k then 0 else 10) ∧ endsN ls j ≤ k ∧ (j < ls.length → k < endsN ls (j + 1))
  | [], p, k, _, hk => by
    have : k = 0 := by simpa [allOf] using hk
    subst this
    refine ⟨0, Nat.le_refl _, ?_, by simp [endsN, allOf], fun h => by simp at h⟩
    rw [List.take_zero, frowsP_nil, endsN_zero]
    rfl
  | x :: ls, p, k, hx, hk => by
    have hxl := hx x (by simp)
    obtain ⟨hl, hk1, hk8⟩ := frame_len x hxl
    rw [allOf_cons] at hk ⊢
    by_cases h0 : k = 0
    · subst h0
      refine ⟨0, Nat.zero_le _, ?_, by rw [endsN_zero]; exact Nat.le_refl _, fun _ => by rw [endsN_cons, endsN_zero]; omega⟩
      rw [List.take_zero, frowsP_nil, endsN_zero]
      rfl
    · by_cases hc : k < (wrap x).length
      · refine ⟨0, Nat.zero_le _, ?_, by rw [endsN_zero]; exact Nat.zero_le _, fun _ => by rw [endsN_cons, endsN_zero]; omega⟩
        have hf := fopen_cut x (allOf ls) k hxl (by omega) hc
        rw [List.length_append] at hk
        have hn : ((wrap x ++ allOf ls).take k).length ≠ 0 := by rw [List.length_take, List.length_append, Nat.min_eq_left hk]; omega
        unfold frowsP
        rw [felts_cons _ _ hn, hf, endsN_zero]
        simp
        omega
      · rw [List.length_append] at hk
        obtain ⟨j, h1, h2, h3, h4⟩ := torn ls (p + (wrap x).length) (k - (wrap x).length) (fun y hy => hx y (by simp [hy])) (by omega)
        have ht : (wrap x ++ allOf ls).take k = wrap x ++ (allOf ls).take (k - (wrap x).length) := by
          rw [List.take_append, List.take_of_length_le (by omega)]
        have hf := fopen_wrap x ((allOf ls).take (k - (wrap x).length)) hxl
        have hn : (wrap x ++ (allOf ls).take (k - (wrap x).length)).length ≠ 0 := by rw [List.length_append]; omega
        have hfe : felts p (wrap x ++ (allOf ls).take (k - (wrap x).length)) = (x, p + (wrap x).length, 0) :: felts (p + (wrap x).length) ((allOf ls).take (k - (wrap x).length)) := by
          rw [felts_cons _ _ hn, hf]
          simp
        refine ⟨j + 1, by simp; omega, ?_, by rw [endsN_cons]; omega, fun h => ?_⟩
        · rw [ht, frowsP_cons _ _ _ _ _ hfe, h2, endsN_cons]
          simp only [List.take_succ_cons, Prod.mk.injEq, true_and]
          refine ⟨by omega, ?_⟩
          by_cases he : endsN ls j = k - (wrap x).length
          · rw [if_pos he, if_pos (by omega)]
          · rw [if_neg he, if_neg (by omega)]
        · rw [endsN_cons]
          have := h4 (by simpa using h)
          omega
theorem endsN_succ (ls : List (List UInt8)) (j : Nat) (x : List UInt8) (h : ls[j]? = some x) : endsN ls (j + 1) = endsN ls j + (wrap x).length := by
  unfold endsN
  rw [List.take_add_one, h, Option.toList_some, allOf_snoc, List.length_append]
theorem endsN_mono (ls : List (List UInt8)) : ∀ j, endsN ls j ≤ (allOf ls).length := by
  intro j
  have h : allOf ls = allOf (ls.take j) ++ allOf (ls.drop j) := by
    unfold allOf
    rw [← List.flatten_append, ← List.map_append, List.take_append_drop]
  unfold endsN
  rw [h, List.length_append]
  exact Nat.le_add_right _ _
def szsum : List (List UInt8) → Nat
  | [] => 0
  | x :: l => 10 + x.length + szsum l
theorem szsum_append (a b : List (List UInt8)) : szsum (a ++ b) = szsum a + szsum b := by
  induction a with
  | nil => simp [szsum]
  | cons x a ih => simp only [List.cons_append, szsum, ih]; omega
theorem szsum_mem {ls : List (List UInt8)} {x : List UInt8} (h : x ∈ ls) : x.length + 10 ≤ szsum ls := by
  induction ls with
  | nil => cases h
  | cons y ls ih =>
    unfold szsum
    rcases List.mem_cons.1 h with rfl | h
    · omega
    · have := ih h; omega
theorem szsum_len (ls : List (List UInt8)) : 10 * ls.length ≤ szsum ls := by
  induction ls with
  | nil => simp [szsum]
  | cons x a ih => simp only [List.length_cons, szsum]; omega
theorem szsum_take (ls : List (List UInt8)) (k : Nat) : szsum (ls.take k) ≤ szsum ls := by
  have := szsum_append (ls.take k) (ls.drop k)
  rw [List.take_append_drop] at this
  omega
theorem allOf_len : ∀ (ls : List (List UInt8)), szsum ls ≤ 1048576 → (allOf ls).length ≤ 2 * szsum ls
  | [], _ => by simp [allOf]
  | x :: ls, h => by
    unfold szsum at h ⊢
    have := allOf_len ls (by omega)
    have := (frame_len x (by omega))
    rw [allOf_cons, List.length_append]
    omega
end Go.Proofs.YtagghghoimpofaaDoor
