/-
  The walk of NumOrder.
-/
import Derived.Test.YtgcgolkoooilhaaNumLaws
namespace Go.Proofs.Ytgcgolkoooilhaa
open Go.RowKit Mono Num
set_option linter.unusedSimpArgs false
set_option linter.unusedVariables false

set_option maxHeartbeats 1000000 in
theorem numOrder_walk (m n : Int) (w : World) (hm : -9223372036854775808 ≤ m ∧ m ≤ 9223372036854775807) (hn : -9223372036854775808 ≤ n ∧ n ≤ 9223372036854775807) :
    Calls Try.prog 5 #[.int .i64 m, .int .i64 n] w fun e w' => e = .returned (.bool true) ∧ Ext w w' := by
  go_enter Try.func5, Try.ntmps5
  go_wp2_with fail
  refine wp_region_mono (by kernel_rfl) (by kernel_rfl) ?_
  refine tele_move rfl (.inl rfl) rfl (isV (.int .i64 m)) (fun ρ w' h => h) ?_
  refine tele_call rfl rfl Try.func11 (by kernel_rfl) (isBs (nput m)) (fun _ _ _ => rfl) ?_ ?_
  · rintro ρ w' he ⟨h8, -⟩
    have e8 : ρ 8 = (.int .i64 m) := h8
    simp only [evR, List.map_toArray, List.map_cons, List.map_nil, e8]
    refine (numPut_any _ [] m _ (Bs.nil_ _) (by simp) hm).mono ?_
    rintro e w'' ⟨r, rfl, h, he⟩
    have h' := h.bs
    try rw [List.nil_append] at h'
    exact ⟨_, rfl, he, h'⟩
  refine tele_val rfl (strV (nput m)) (fun _ _ _ => rfl) ?_ ?_
  · rintro ρ w' he ⟨h9, -⟩
    have e9 : Bs w' (ρ 9) (nput m) := h9
    simp [execOp, evR, e9.str_ 22 9 5 Try.underlying22 Try.underlying5 Try.underlying9]
  refine tele_move rfl (.inl rfl) rfl (isV (.int .i64 n)) (fun ρ w' h => h) ?_
  refine tele_call rfl rfl Try.func11 (by kernel_rfl) (isBs (nput n)) (fun _ _ _ => rfl) ?_ ?_
  · rintro ρ w' he ⟨h11, -⟩
    have e11 : ρ 11 = (.int .i64 n) := h11
    simp only [evR, List.map_toArray, List.map_cons, List.map_nil, e11]
    refine (numPut_any _ [] n _ (Bs.nil_ _) (by simp) hn).mono ?_
    rintro e w'' ⟨r, rfl, h, he⟩
    have h' := h.bs
    try rw [List.nil_append] at h'
    exact ⟨_, rfl, he, h'⟩
  refine tele_val rfl (strV (nput n)) (fun _ _ _ => rfl) ?_ ?_
  · rintro ρ w' he ⟨h12, -⟩
    have e12 : Bs w' (ρ 12) (nput n) := h12
    simp [execOp, evR, e12.str_ 22 9 5 Try.underlying22 Try.underlying5 Try.underlying9]
  refine tele_move rfl (.inr rfl) rfl (isV (strV (nput m))) (fun ρ w' h => h) ?_
  refine tele_move rfl (.inr rfl) rfl (isV (strV (nput n))) (fun ρ w' h => h) ?_
  refine tele_nil ?_
  rintro ρ w' hext ⟨f6, f5, f13, f12, f11, f10, f9, f8, -⟩
  replace f8 : ρ 8 = (.int .i64 m) := f8
  replace f9 : Bs w' (ρ 9) (nput m) := f9
  replace f10 : ρ 10 = (strV (nput m)) := f10
  replace f11 : ρ 11 = (.int .i64 n) := f11
  replace f12 : Bs w' (ρ 12) (nput n) := f12
  replace f13 : ρ 13 = (strV (nput n)) := f13
  replace f5 : ρ 5 = (strV (nput m)) := f5
  replace f6 : ρ 6 = (strV (nput n)) := f6
  simp only [puts, Act.put, List.setIfInBounds_toArray, List.set_cons_zero, List.set_cons_succ]
  rw [f5, f6]
  clear f8 f9 f10 f11 f12 f13 f5 f6
  unfold strV
  by_cases hmo : m < 0 ∨ 4611686018427387903 < m
  · rw [nput_out hmo]
    rcases hmo with h | h
    all_goals
      go_wp2_with fail
      refine (size64 w').mono ?_
      rintro e w'' ⟨rfl, rfl⟩
      go_wp2_with fail
      go_ret
      exact ⟨rfl, hext⟩
  obtain ⟨m, rfl⟩ := Int.eq_ofNat_of_zero_le (show 0 ≤ m by omega)
  have hm1 : m ≤ 4611686018427387903 := by omega
  have HLm := Lib.hid (nput_length (m : Int))
  have hpm := nsize_pos m hm1
  by_cases hno : n < 0 ∨ 4611686018427387903 < n
  · rw [nput_out hno]
    have h0 : 0 < (nput (m : Int)).length := by rw [HLm.out]; exact hpm
    have hz : (((nput (m : Int)).length : Int) == 0) = false := by rw [beq_eq_false_iff_ne]; omega
    have hnil : (nput (m : Int)).isEmpty = false := by
      cases hc : nput (m : Int) with
      | nil => rw [hc] at h0; simp at h0
      | cons x r => rfl
    clear hmo
    rcases hno with h | h
    all_goals
      go_wp2_with fail
      refine (size64 w').mono ?_
      rintro e w'' ⟨rfl, rfl⟩
      go_wp2_with fail
      go_ret
      exact ⟨rfl, hext⟩
  obtain ⟨n, rfl⟩ := Int.eq_ofNat_of_zero_le (show 0 ≤ n by omega)
  have hn1 : n ≤ 4611686018427387903 := by omega
  have HLn := Lib.hid (nput_length (n : Int))
  have hpn := nsize_pos n hn1
  have hsm : ((⟨(nput (m : Int)).toArray⟩ : ByteArray).size) = nsize (m : Int) := by rw [strV_size, HLm.out]
  have hsn : ((⟨(nput (n : Int)).toArray⟩ : ByteArray).size) = nsize (n : Int) := by rw [strV_size, HLn.out]
  clear hmo hno
  by_cases hs : nsize (m : Int) = nsize (n : Int)
  · have hless := nput_less m n hm1 hn1 hs
    have hsame := nput_same m n hm1 hn1 hs
    have hzn : (((nsize (n : Int) : Nat) : Int) == 0) = false := by rw [beq_eq_false_iff_ne]; omega
    have hfin : (decide (m = n) == ((m : Int) == (n : Int))) = true := by
      by_cases h : m = n
      · simp [h]
      · have : ¬ (m : Int) = (n : Int) := by omega
        simp [h, this]
    have HF := Lib.hid hfin
    clear hfin
    go_wp2_with fail
    go_ret
    exact ⟨by show Ending.returned (Value.bool (decide (m = n) == ((m : Int) == (n : Int)))) = _; rw [HF.out], hext⟩
  · have hzm : (((nsize (m : Int) : Nat) : Int) == 0) = false := by rw [beq_eq_false_iff_ne]; omega
    have hzn : (((nsize (n : Int) : Nat) : Int) == 0) = false := by rw [beq_eq_false_iff_ne]; omega
    have hsd : (((nsize (m : Int) : Nat) : Int) == ((nsize (n : Int) : Nat) : Int)) = false := by rw [beq_eq_false_iff_ne]; omega
    rcases Nat.lt_or_gt_of_ne hs with hlt | hlt
    · have hne : (!((nput (m : Int)).take (nsize (m : Int)) == (nput (n : Int)).take (nsize (m : Int)))) = true := by
        have := nput_apart m n hm1 hn1 hs (nsize (m : Int)) hpm
        simpa using this
      have HN := Lib.hid hne
      clear hne hs
      go_wp2_with fail
      refine wp_region_mono (by kernel_rfl) (by kernel_rfl) ?_
      refine tele_move rfl (.inl rfl) rfl (isV (strV (nput (m : Int)))) (fun ρ w' h => h) ?_
      refine tele_move rfl (.inl rfl) rfl (isV (.int .i64 ((nsize (m : Int) : Nat) : Int))) (fun ρ w' h => h) ?_
      refine tele_val rfl (strV ((nput (m : Int)).take (nsize (m : Int)))) (fun _ _ _ => rfl) ?_ ?_
      · rintro ρ w'' he ⟨h66, h67, -⟩
        have e66 : ρ 66 = (strV (nput (m : Int))) := h66
        have e67 : ρ 67 = (.int .i64 ((nsize (m : Int) : Nat) : Int)) := h67
        exact exec_str_upto rfl Try.underlying9 e66 e67 (by rw [HLm.out]; exact Nat.le_refl _)
      refine tele_move rfl (.inl rfl) rfl (isV (strV (nput (n : Int)))) (fun ρ w' h => h) ?_
      refine tele_move rfl (.inl rfl) rfl (isV (.int .i64 ((nsize (m : Int) : Nat) : Int))) (fun ρ w' h => h) ?_
      refine tele_val rfl (strV ((nput (n : Int)).take (nsize (m : Int)))) (fun _ _ _ => rfl) ?_ ?_
      · rintro ρ w'' he ⟨h69, h70, -⟩
        have e69 : ρ 69 = (strV (nput (n : Int))) := h69
        have e70 : ρ 70 = (.int .i64 ((nsize (m : Int) : Nat) : Int)) := h70
        exact exec_str_upto rfl Try.underlying9 e69 e70 (by rw [HLn.out]; omega)
      refine tele_val rfl (.bool true) (fun _ _ _ => rfl) ?_ ?_
      · rintro ρ w'' he ⟨h68, h71, -⟩
        have e68 : ρ 68 = (strV ((nput (m : Int)).take (nsize (m : Int)))) := h68
        have e71 : ρ 71 = (strV ((nput (n : Int)).take (nsize (m : Int)))) := h71
        rw [exec_neq_str rfl e68 e71, HN.out]
      refine tele_move rfl (.inr rfl) rfl (isV (.bool true)) (fun ρ w' h => h) ?_
      refine tele_nil ?_
      rintro ρ w'' hext2 ⟨f4, f72, f71, f70, f69, f68, f67, f66, -⟩
      replace f66 : ρ 66 = (strV (nput (m : Int))) := f66
      replace f67 : ρ 67 = (.int .i64 ((nsize (m : Int) : Nat) : Int)) := f67
      replace f68 : ρ 68 = (strV ((nput (m : Int)).take (nsize (m : Int)))) := f68
      replace f69 : ρ 69 = (strV (nput (n : Int))) := f69
      replace f70 : ρ 70 = (.int .i64 ((nsize (m : Int) : Nat) : Int)) := f70
      replace f71 : ρ 71 = (strV ((nput (n : Int)).take (nsize (m : Int)))) := f71
      replace f72 : ρ 72 = (.bool true) := f72
      replace f4 : ρ 4 = (.bool true) := f4
      simp only [puts, Act.put, List.setIfInBounds_toArray, List.set_cons_zero, List.set_cons_succ]
      rw [f4]
      go_wp2_with fail
      go_ret
      exact ⟨rfl, hext.trans hext2⟩
    · have hne : (!((nput (m : Int)).take (nsize (n : Int)) == (nput (n : Int)).take (nsize (n : Int)))) = true := by
        have := nput_apart m n hm1 hn1 hs (nsize (n : Int)) hpn
        simpa using this
      have HN := Lib.hid hne
      clear hne hs
      go_wp2_with fail
      refine wp_region_mono (by kernel_rfl) (by kernel_rfl) ?_
      refine tele_move rfl (.inl rfl) rfl (isV (strV (nput (m : Int)))) (fun ρ w' h => h) ?_
      refine tele_move rfl (.inl rfl) rfl (isV (.int .i64 ((nsize (n : Int) : Nat) : Int))) (fun ρ w' h => h) ?_
      refine tele_val rfl (strV ((nput (m : Int)).take (nsize (n : Int)))) (fun _ _ _ => rfl) ?_ ?_
      · rintro ρ w'' he ⟨h66, h67, -⟩
        have e66 : ρ 66 = (strV (nput (m : Int))) := h66
        have e67 : ρ 67 = (.int .i64 ((nsize (n : Int) : Nat) : Int)) := h67
        exact exec_str_upto rfl Try.underlying9 e66 e67 (by rw [HLm.out]; omega)
      refine tele_move rfl (.inl rfl) rfl (isV (strV (nput (n : Int)))) (fun ρ w' h => h) ?_
      refine tele_move rfl (.inl rfl) rfl (isV (.int .i64 ((nsize (n : Int) : Nat) : Int))) (fun ρ w' h => h) ?_
      refine tele_val rfl (strV ((nput (n : Int)).take (nsize (n : Int)))) (fun _ _ _ => rfl) ?_ ?_
      · rintro ρ w'' he ⟨h69, h70, -⟩
        have e69 : ρ 69 = (strV (nput (n : Int))) := h69
        have e70 : ρ 70 = (.int .i64 ((nsize (n : Int) : Nat) : Int)) := h70
        exact exec_str_upto rfl Try.underlying9 e69 e70 (by rw [HLn.out]; exact Nat.le_refl _)
      refine tele_val rfl (.bool true) (fun _ _ _ => rfl) ?_ ?_
      · rintro ρ w'' he ⟨h68, h71, -⟩
        have e68 : ρ 68 = (strV ((nput (m : Int)).take (nsize (n : Int)))) := h68
        have e71 : ρ 71 = (strV ((nput (n : Int)).take (nsize (n : Int)))) := h71
        rw [exec_neq_str rfl e68 e71, HN.out]
      refine tele_move rfl (.inr rfl) rfl (isV (.bool true)) (fun ρ w' h => h) ?_
      refine tele_nil ?_
      rintro ρ w'' hext2 ⟨f4, f72, f71, f70, f69, f68, f67, f66, -⟩
      replace f66 : ρ 66 = (strV (nput (m : Int))) := f66
      replace f67 : ρ 67 = (.int .i64 ((nsize (n : Int) : Nat) : Int)) := f67
      replace f68 : ρ 68 = (strV ((nput (m : Int)).take (nsize (n : Int)))) := f68
      replace f69 : ρ 69 = (strV (nput (n : Int))) := f69
      replace f70 : ρ 70 = (.int .i64 ((nsize (n : Int) : Nat) : Int)) := f70
      replace f71 : ρ 71 = (strV ((nput (n : Int)).take (nsize (n : Int)))) := f71
      replace f72 : ρ 72 = (.bool true) := f72
      replace f4 : ρ 4 = (.bool true) := f4
      simp only [puts, Act.put, List.setIfInBounds_toArray, List.set_cons_zero, List.set_cons_succ]
      rw [f4]
      go_wp2_with fail
      go_ret
      exact ⟨rfl, hext.trans hext2⟩
end Go.Proofs.Ytgcgolkoooilhaa
