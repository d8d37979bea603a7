/-
  The walks of the statements of layer 1 that ask no region's order.
-/
import Derived.Test.YtgcgolkoooilhaaNumRefWalks
import Derived.Test.YtgcgolkoooilhaaNumBack
import Derived.Outline
namespace Go.Proofs.Ytgcgolkoooilhaa
open Go.RowKit Mono Num
set_option linter.unusedSimpArgs false
set_option linter.unusedVariables false

theorem size64 (w : World) : Calls Try.prog 10 #[.int .i64 64] w fun e w' => e = .returned (.int .i64 2) ∧ w = w' := by
  have h := numSize_any 64 w ⟨by omega, by omega⟩
  rw [nsize_2 (by omega) (by omega)] at h
  exact h
theorem nget_bad (l : List UInt8) (n k f : Nat) (h : nget l = (n, k, f)) (hf : ¬ f = 0) : n = 0 ∧ k = 0 := by
  cases l with
  | nil => simp [nget] at h; omega
  | cons x r =>
    by_cases hcut : r.length + 1 < nlen x
    · rw [nget_cut x r hcut] at h; simp at h; omega
    by_cases hs : nsize (nval (x.toNat % 64) (r.take (nlen x - 1)) : Nat) < nlen x
    · rw [nget_form x r hcut hs] at h; simp at h; omega
    rw [nget_ok x r hcut hs] at h
    simp only [Prod.mk.injEq] at h
    omega

set_option maxHeartbeats 400000 in
theorem numGets_walk (v : Value) (l : List UInt8) (w : World) (hv : Bs w v l) :
    Calls Try.prog 4 #[v] w fun e w' => e = .returned (.bool true) ∧ Ext w w' := by
  go_enter Try.func4, Try.ntmps4
  go_wp2_with fail
  refine (numGet_any v l w hv).mono ?_
  rintro e w' ⟨rfl, rfl⟩
  go_wp2_with fail
  refine (refGet_any v l w hv).mono ?_
  rintro e w' ⟨rfl, rfl⟩
  generalize (nget l).1 = a
  generalize (nget l).2.1 = b
  generalize (nget l).2.2 = c
  go_wp2_with fail
  refine (size64 w).mono ?_
  rintro e w' ⟨rfl, rfl⟩
  go_wp2_with fail
  go_ret
  exact ⟨rfl, Ext.refl _⟩

set_option maxHeartbeats 1000000 in
theorem numBack_walk (n : Int) (v : Value) (l : List UInt8) (w : World) (hn : -9223372036854775808 ≤ n ∧ n ≤ 9223372036854775807) (hv : Bs w v l) :
    Calls Try.prog 7 #[.int .i64 n, v] w fun e w' => e = .returned (.bool true) ∧ Ext w w' := by
  obtain ⟨A, c, rfl, h1, h2, _, _⟩ := hv.open_
  unfold maxLen at h2
  by_cases hl : 1000 < l.length
  · go_enter Try.func7, Try.ntmps7
    go_wp2_with fail
    refine (size64 w).mono ?_
    rintro e w' ⟨rfl, rfl⟩
    go_wp2_with fail
    go_ret
    exact ⟨rfl, Ext.refl _⟩
  by_cases hout : n < 0 ∨ 4611686018427387903 < n
  · have hnp := nput_out hout
    have hns := nsize_out hout
    have HP := Lib.hid hnp
    clear hnp
    rcases hout with h | h
    all_goals
      go_enter Try.func7, Try.ntmps7
      go_wp2_with fail
      refine (numPut_any _ [] n w (Bs.nil_ w) (by simp) hn).mono ?_
      rintro e w1 ⟨r, rfl, hput, hb1⟩
      rw [List.nil_append, HP.out] at hput
      obtain ⟨A1, c1, rfl, _, _, _, _⟩ := hput.bs.open_
      go_wp2_with fail
      refine (numSize_any n _ hn).mono ?_
      rintro e w5 ⟨rfl, rfl⟩
      rw [hns]
      go_wp2_with fail
      refine (size64 _).mono ?_
      rintro e w' ⟨rfl, rfl⟩
      go_wp2_with fail
      go_ret
      exact ⟨rfl, hb1⟩
  · obtain ⟨m, rfl⟩ := Int.eq_ofNat_of_zero_le (show 0 ≤ n by omega)
    have hm1 : m ≤ 4611686018427387903 := by omega
    have HL := Lib.hid (nput_length (m : Int))
    have hs8 : (nput (m : Int)).length ≤ 8 := by rw [HL.out]; exact nsize_le (m : Int)
    go_enter Try.func7, Try.ntmps7
    go_wp2_with fail
    refine (numPut_any _ [] m w (Bs.nil_ w) (by simp) hn).mono ?_
    rintro e w1 ⟨r, rfl, hput, hb1⟩
    rw [List.nil_append] at hput
    obtain ⟨A1, c1, rfl, g1, g2, _, _⟩ := hput.bs.open_
    unfold maxLen at g2
    have hz1 := hb1.size
    go_wp2_with (first
      | (at_builtin
         refine wpList_append_bs _ rfl (.tmp 35) (.tmp 36) rfl (OwB.empty_ w1 (Nat.le_refl _)) (hput.bs.ext (ext_alloc _ _)) rfl rfl ?_ ?_ ?_
         · simp; omega
         · simp
         intro v2 w2 hown2 hg2 hat2
         have hb2 : Below w1.heap.size w1 w2 := Below.growB (ext_alloc w1 _) (OwB.empty_ w1 (Nat.le_refl _)) hg2 (Nat.le_refl _) (by simp)
         have hz2 := hb2.size)
      | (at_builtin
         refine wpList_append_bs _ rfl (.tmp 37) (.tmp 38) rfl hown2 (hv.ext (Ext.trans hb1 hb2)) rfl rfl ?_ ?_ ?_
         · simp; omega
         · exact hz2
         intro v3 w3 hown3 hg3 hat3
         have hb3 : Below w1.heap.size w1 w3 := Below.growB hb2 hown2 hg3 (Nat.le_refl _) hz2))
    rw [List.nil_append] at hown3
    clear hown2 hg2 hg3 hat2 hat3
    have hG := numGet_any v3 _ w3 hown3.bs
    rw [nget_nput m l hm1] at hG
    refine hG.mono ?_
    rintro e w4 ⟨rfl, rfl⟩
    rw [HL.out]
    go_wp2_with fail
    refine (numSize_any m _ hn).mono ?_
    rintro e w5 ⟨rfl, rfl⟩
    go_wp2_with fail
    go_ret
    exact ⟨rfl, Ext.trans hb1 hb3⟩
end Go.Proofs.Ytgcgolkoooilhaa
