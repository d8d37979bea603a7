/-
  Layer 3 in plain Lean: frames that are wrapped are opened; turned ones are not; torn ones tell those that are whole.
-/
import Derived.Test.YtlhnlnmhgkkbaaaFrameRows
import Derived.Test.YtlhnlnmhgkkbaaaCrcBurst
namespace Go.Proofs.Ytlhnlnmhgkkbaaa
open Go.RowKit Mono Num Crc
set_option linter.unusedVariables false

theorem fix_len (l : List UInt8) : (fix l).length = l.length + 4 := by simp [fix, sumB]
theorem frame_len (l : List UInt8) (h : l.length ≤ 1048576) : (wrap l).length = 1 + nsize (l.length : Int) + l.length + 4 ∧ 1 ≤ nsize (l.length : Int) ∧ nsize (l.length : Int) ≤ 8 := by
  unfold wrap
  rw [if_neg (by omega), fix_len]
  have h1 := nsize_le (l.length : Int)
  have h2 := nsize_pos l.length (by omega)
  simp only [List.length_cons, List.length_append, nput_length]
  omega
/-- What a whole frame says, whatever its last bytes are. -/
theorem fopen_whole (n : Nat) (m t : List UInt8) (hn : n ≤ 1048576) (hm : m.length = n + 4) :
    fopen (181 :: (nput (n : Int) ++ m) ++ t) = if right (181 :: (nput (n : Int) ++ m)) = true then (m.take n, 1 + nsize (n : Int) + n + 4, 0) else ([], 0, 31) := by
  have hk := nput_length (n : Int)
  have e1 : nget ((181 :: (nput (n : Int) ++ m) ++ t).drop 1) = (n, nsize (n : Int), 0) := by
    rw [List.cons_append, List.drop_succ_cons, List.drop_zero, List.append_assoc]
    exact nget_nput n _ (by omega)
  have hL : (181 :: (nput (n : Int) ++ m) : List UInt8).length = 1 + nsize (n : Int) + n + 4 := by
    simp only [List.length_cons, List.length_append, hk, hm]; omega
  unfold fopen
  rw [if_neg (by simp), if_neg (by simp), e1]
  unfold fopen2
  dsimp only
  rw [if_neg (by simp), if_neg (by omega), if_neg (by rw [List.length_append, hL]; omega)]
  have e2 : (181 :: (nput (n : Int) ++ m) ++ t).take (1 + nsize (n : Int) + n + 4) = 181 :: (nput (n : Int) ++ m) := by
    rw [← hL, List.take_left']
    rfl
  rw [e2]
  cases hr : right (181 :: (nput (n : Int) ++ m)) with
  | false => simp
  | true =>
    rw [if_neg (by simp), if_pos rfl]
    congr 1
    have : 181 :: (nput (n : Int) ++ m) ++ t = (181 :: nput (n : Int)) ++ (m ++ t) := by simp
    rw [this, List.drop_append_of_le_length (by simp [hk]; omega), List.drop_eq_nil_of_le (by simp [hk]; omega), List.nil_append, List.take_append_of_le_length (by omega)]
theorem wrap_form (l : List UInt8) (h : l.length ≤ 1048576) : wrap l = 181 :: (nput (l.length : Int) ++ (l ++ sumB (sum (181 :: (nput (l.length : Int) ++ l))))) := by
  unfold wrap
  rw [if_neg (by omega)]
  unfold fix
  simp
theorem sumB_len (s : BitVec 32) : (sumB s).length = 4 := rfl
theorem fopen_wrap (l t : List UInt8) (h : l.length ≤ 1048576) : fopen (wrap l ++ t) = (l, (wrap l).length, 0) := by
  have hl := (frame_len l h).1
  rw [hl]
  have hr : right (wrap l) = true := by unfold wrap; rw [if_neg (by omega)]; exact right_fix _
  rw [wrap_form l h] at hr ⊢
  rw [fopen_whole l.length _ t h (by rw [List.length_append, sumB_len]), if_pos hr, List.take_append_of_le_length (Nat.le_refl _), List.take_length]

theorem tw_take (l : List UInt8) (k : Nat) (t : BitVec 32) : ∀ j, (tw l k t j).take k = l.take k
  | 0 => rfl
  | j + 1 => by
    show ((tw l k t j).set (k + j) _).take k = _
    rw [List.take_set_of_le (by omega)]
    exact tw_take l k t j
theorem fopen_turned (l : List UInt8) (q : Nat) (t : BitVec 32) (h : l.length ≤ 1048576) (hq : q ≤ l.length) (ht : t ≠ 0#32) :
    fopen (tw (wrap l) (1 + nsize (l.length : Int) + q) t 4) = ([], 0, 31) := by
  have hl := (frame_len l h).1
  have hw : wrap l = fix (181 :: (nput (l.length : Int) ++ l)) := by unfold wrap; rw [if_neg (by omega)]
  have hB : right (tw (wrap l) (1 + nsize (l.length : Int) + q) t 4) = false := by
    rw [hw]
    refine burst _ _ t ?_ ht
    simp only [List.length_cons, List.length_append, nput_length]
    omega
  have htk := tw_take (wrap l) (1 + nsize (l.length : Int) + q) t 4
  have hlen := tw_length (wrap l) (1 + nsize (l.length : Int) + q) t 4
  generalize tw (wrap l) (1 + nsize (l.length : Int) + q) t 4 = b at *
  have h1 : b.take (1 + nsize (l.length : Int)) = 181 :: nput (l.length : Int) := by
    have : b.take (1 + nsize (l.length : Int)) = (b.take (1 + nsize (l.length : Int) + q)).take (1 + nsize (l.length : Int)) := by
      rw [List.take_take, Nat.min_eq_left (by omega)]
    rw [this, htk, List.take_take, Nat.min_eq_left (by omega), wrap_form l h]
    rw [show 1 + nsize (l.length : Int) = nsize (l.length : Int) + 1 by omega, List.take_succ_cons, ← nput_length, List.take_left']
    rfl
  have h2 : b = 181 :: (nput (l.length : Int) ++ b.drop (1 + nsize (l.length : Int))) := by
    have := (List.take_append_drop (1 + nsize (l.length : Int)) b).symm
    rw [h1] at this
    simpa using this
  have hm : (b.drop (1 + nsize (l.length : Int))).length = l.length + 4 := by rw [List.length_drop]; omega
  have h3 := fopen_whole l.length _ [] h hm
  rw [List.append_nil, ← h2, hB] at h3
  simpa using h3

/-- A frame that is cut is cut. -/
theorem fopen_cut (l t : List UInt8) (c : Nat) (h : l.length ≤ 1048576) (h0 : 0 < c) (hc : c < (wrap l).length) : fopen ((wrap l ++ t).take c) = ([], 0, 10) := by
  obtain ⟨hl, hk1, hk8⟩ := frame_len l h
  rw [List.take_append_of_le_length (by omega), wrap_form l h]
  obtain ⟨d, rfl⟩ : ∃ d, c = d + 1 := ⟨c - 1, by omega⟩
  rw [List.take_succ_cons]
  unfold fopen
  rw [if_neg (by simp), if_neg (by simp), List.drop_succ_cons, List.drop_zero]
  by_cases hd : d < nsize (l.length : Int)
  · have hg : nget ((nput (l.length : Int) ++ (l ++ sumB (sum (181 :: (nput (l.length : Int) ++ l))))).take d) = (0, 0, 10) := by
      rw [List.take_append_of_le_length (by rw [nput_length]; omega), nput_enc, enc_cons _ _ hk1]
      cases d with
      | zero => rfl
      | succ d =>
        rw [List.take_succ_cons]
        refine nget_cut _ _ ?_
        rw [nlen_first _ _ rfl hk1]
        simp only [List.length_take, List.length_map, List.length_range]
        omega
    rw [hg]
    unfold fopen2
    simp
  · have hg : nget ((nput (l.length : Int) ++ (l ++ sumB (sum (181 :: (nput (l.length : Int) ++ l))))).take d) = (l.length, nsize (l.length : Int), 0) := by
      rw [show d = (nput (l.length : Int)).length + (d - nsize (l.length : Int)) by rw [nput_length]; omega, List.take_length_add_append]
      exact nget_nput l.length _ (by omega)
    rw [hg]
    unfold fopen2
    dsimp only
    rw [if_neg (by simp), if_neg (by omega), if_pos]
    simp only [List.length_cons, List.length_take, List.length_append, nput_length, sumB_len]
    omega
end Go.Proofs.Ytlhnlnmhgkkbaaa
