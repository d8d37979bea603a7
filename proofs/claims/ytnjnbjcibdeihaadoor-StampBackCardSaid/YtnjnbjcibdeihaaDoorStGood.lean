/-
  The walks of both Good and Less of stamps.
-/
import Derived.Test.YtnjnbjcibdeihaaDoorStPlain
namespace Go.Proofs.YtnjnbjcibdeihaaDoor
open Go Go.RowKit Mono
set_option linter.unusedVariables false
set_option linter.unusedSimpArgs false

set_option maxHeartbeats 1000000 in
theorem stGood_any (a b : Int) (w : World) : Calls Tryd.prog 12 #[stV a b] w fun e w' => e = .returned (.bool (sgood a b)) ∧ Ext w w' := by
  unfold stV
  rcases sgood_cases a b with ⟨rfl, rfl⟩ | ⟨rfl, h⟩ | h | h | ⟨h1, h2, rfl⟩ | ⟨h1, h2, rfl⟩ | ⟨h1, h2, h3, h4⟩
  · have HS := Lib.hid (show sgood 0 0 = true from sgood_true (by omega))
    go_enter Tryd.func12, Tryd.ntmps12
    go_wp2_with fail
    go_ret
    exact ⟨by rw [HS.out]; rfl, ext_alloc _ _⟩
  · have HS := Lib.hid (show sgood 0 b = false from sgood_false (by omega))
    have b0 : (b == 0) = false := by rw [beq_eq_false_iff_ne]; exact h
    clear h
    go_enter Tryd.func12, Tryd.ntmps12
    go_wp2_with fail
    go_ret
    exact ⟨by rw [HS.out]; rfl, ext_alloc _ _⟩
  · have HS := Lib.hid (show sgood a b = false from sgood_false (by omega))
    have b0 : (a == 0) = false := by rw [beq_eq_false_iff_ne]; omega
    go_enter Tryd.func12, Tryd.ntmps12
    go_wp2_with fail
    go_ret
    exact ⟨by rw [HS.out]; rfl, ext_alloc _ _⟩
  · have HS := Lib.hid (show sgood a b = false from sgood_false (by omega))
    have b0 : (a == 0) = false := by rw [beq_eq_false_iff_ne]; omega
    go_enter Tryd.func12, Tryd.ntmps12
    go_wp2_with fail
    go_ret
    exact ⟨by rw [HS.out]; rfl, ext_alloc _ _⟩
  · have HS := Lib.hid (show sgood a 1 = true from sgood_true (by omega))
    have b0 : (a == 0) = false := by rw [beq_eq_false_iff_ne]; omega
    have HK := Lib.hid (show knownB 1 = true by rfl)
    go_enter Tryd.func12, Tryd.ntmps12
    go_wp2_with fail
    refine (known_any _ _).mono ?_
    rintro e w' ⟨rfl, rfl⟩
    rw [HK.out]
    go_wp2_with fail
    go_ret
    exact ⟨by rw [HS.out]; rfl, ext_alloc _ _⟩
  · have HS := Lib.hid (show sgood a 2 = true from sgood_true (by omega))
    have b0 : (a == 0) = false := by rw [beq_eq_false_iff_ne]; omega
    have HK := Lib.hid (show knownB 2 = true by rfl)
    go_enter Tryd.func12, Tryd.ntmps12
    go_wp2_with fail
    refine (known_any _ _).mono ?_
    rintro e w' ⟨rfl, rfl⟩
    rw [HK.out]
    go_wp2_with fail
    go_ret
    exact ⟨by rw [HS.out]; rfl, ext_alloc _ _⟩
  · have HS := Lib.hid (show sgood a b = false from sgood_false (by omega))
    have b0 : (a == 0) = false := by rw [beq_eq_false_iff_ne]; omega
    have HK := Lib.hid (show knownB b = false by unfold knownB; simp [h3, h4])
    have b1 : (b == 1) = false := by simpa using h3
    have b2 : (b == 2) = false := by simpa using h4
    clear h3 h4
    go_enter Tryd.func12, Tryd.ntmps12
    go_wp2_with fail
    refine (known_any _ _).mono ?_
    rintro e w' ⟨rfl, rfl⟩
    rw [HK.out]
    go_wp2_with fail
    go_ret
    exact ⟨by rw [HS.out]; rfl, ext_alloc _ _⟩

set_option maxHeartbeats 1000000 in
theorem refSGood_any (a b : Int) (w : World) : Calls Tryd.prog 14 #[stV a b] w fun e w' => e = .returned (.bool (sgood a b)) ∧ Ext w w' := by
  unfold stV
  rcases sgood_cases a b with ⟨rfl, rfl⟩ | ⟨rfl, h⟩ | h | h | ⟨h1, h2, rfl⟩ | ⟨h1, h2, rfl⟩ | ⟨h1, h2, h3, h4⟩
  · have HS := Lib.hid (show sgood 0 0 = true from sgood_true (by omega))
    go_enter Tryd.func14, Tryd.ntmps14
    go_wp2_with fail
    go_ret
    exact ⟨by rw [HS.out]; rfl, ext_alloc _ _⟩
  · have HS := Lib.hid (show sgood 0 b = false from sgood_false (by omega))
    have b0 : (b == 0) = false := by rw [beq_eq_false_iff_ne]; exact h
    clear h
    go_enter Tryd.func14, Tryd.ntmps14
    go_wp2_with fail
    go_ret
    exact ⟨by rw [HS.out]; rfl, ext_alloc _ _⟩
  · have HS := Lib.hid (show sgood a b = false from sgood_false (by omega))
    have b0 : (a == 0) = false := by rw [beq_eq_false_iff_ne]; omega
    go_enter Tryd.func14, Tryd.ntmps14
    go_wp2_with fail
    go_ret
    exact ⟨by rw [HS.out]; rfl, ext_alloc _ _⟩
  · have HS := Lib.hid (show sgood a b = false from sgood_false (by omega))
    have b0 : (a == 0) = false := by rw [beq_eq_false_iff_ne]; omega
    go_enter Tryd.func14, Tryd.ntmps14
    go_wp2_with fail
    go_ret
    exact ⟨by rw [HS.out]; rfl, ext_alloc _ _⟩
  · have HS := Lib.hid (show sgood a 1 = true from sgood_true (by omega))
    have b0 : (a == 0) = false := by rw [beq_eq_false_iff_ne]; omega
    have HK := Lib.hid (show knownB 1 = true by rfl)
    go_enter Tryd.func14, Tryd.ntmps14
    go_wp2_with fail
    go_ret
    exact ⟨by rw [HS.out]; rfl, ext_alloc _ _⟩
  · have HS := Lib.hid (show sgood a 2 = true from sgood_true (by omega))
    have b0 : (a == 0) = false := by rw [beq_eq_false_iff_ne]; omega
    have HK := Lib.hid (show knownB 2 = true by rfl)
    go_enter Tryd.func14, Tryd.ntmps14
    go_wp2_with fail
    go_ret
    exact ⟨by rw [HS.out]; rfl, ext_alloc _ _⟩
  · have HS := Lib.hid (show sgood a b = false from sgood_false (by omega))
    have b0 : (a == 0) = false := by rw [beq_eq_false_iff_ne]; omega
    have HK := Lib.hid (show knownB b = false by unfold knownB; simp [h3, h4])
    have b1 : (b == 1) = false := by simpa using h3
    have b2 : (b == 2) = false := by simpa using h4
    clear h3 h4
    go_enter Tryd.func14, Tryd.ntmps14
    go_wp2_with fail
    go_ret
    exact ⟨by rw [HS.out]; rfl, ext_alloc _ _⟩

set_option maxHeartbeats 1000000 in
theorem stLess_any (a b c d : Int) (w : World) : Calls Tryd.prog 13 #[stV a b, stV c d] w fun e w' => e = .returned (.bool (sless a b c d)) ∧ Ext w w' := by
  unfold stV
  have hx : Ext w ((w.alloc (.cells #[.int .i64 a, .int .i64 b] 23)).alloc (.cells #[.int .i64 c, .int .i64 d] 23)) := Ext.trans (ext_alloc _ _) (ext_alloc _ _)
  rcases Int.lt_trichotomy a c with h | h | h
  · have HS := Lib.hid (show sless a b c d = true by unfold sless; simp [h])
    have b0 : (a == c) = false := by rw [beq_eq_false_iff_ne]; omega
    have b1 : (a != c) = true := by rw [bne_iff_ne]; omega
    go_enter Tryd.func13, Tryd.ntmps13
    go_wp2_with fail
    go_ret
    exact ⟨by rw [HS.out]; rfl, hx⟩
  · subst h
    by_cases hb : b < d
    · have HS := Lib.hid (show sless a b a d = true by unfold sless; simp [hb])
      go_enter Tryd.func13, Tryd.ntmps13
      go_wp2_with fail
      go_ret
      exact ⟨by rw [HS.out]; first | rfl | simp [hb], hx⟩
    · have HS := Lib.hid (show sless a b a d = false by unfold sless; simp [hb])
      go_enter Tryd.func13, Tryd.ntmps13
      go_wp2_with fail
      go_ret
      exact ⟨by rw [HS.out]; first | rfl | simp [hb] | (simp; omega), hx⟩
  · have HS := Lib.hid (show sless a b c d = false by unfold sless; simp; omega)
    have b0 : (a == c) = false := by rw [beq_eq_false_iff_ne]; omega
    have b1 : (a != c) = true := by rw [bne_iff_ne]; omega
    go_enter Tryd.func13, Tryd.ntmps13
    go_wp2_with fail
    go_ret
    exact ⟨by rw [HS.out]; first | rfl | (simp; omega), hx⟩

set_option maxHeartbeats 1000000 in
theorem refSLess_any (a b c d : Int) (w : World) : Calls Tryd.prog 15 #[stV a b, stV c d] w fun e w' => e = .returned (.bool (sless a b c d)) ∧ Ext w w' := by
  unfold stV
  have hx : Ext w ((w.alloc (.cells #[.int .i64 a, .int .i64 b] 23)).alloc (.cells #[.int .i64 c, .int .i64 d] 23)) := Ext.trans (ext_alloc _ _) (ext_alloc _ _)
  rcases Int.lt_trichotomy a c with h | h | h
  · have HS := Lib.hid (show sless a b c d = true by unfold sless; simp [h])
    have b0 : (a == c) = false := by rw [beq_eq_false_iff_ne]; omega
    have b1 : (a != c) = true := by rw [bne_iff_ne]; omega
    go_enter Tryd.func15, Tryd.ntmps15
    go_wp2_with fail
    go_ret
    exact ⟨by rw [HS.out]; rfl, hx⟩
  · subst h
    by_cases hb : b < d
    · have HS := Lib.hid (show sless a b a d = true by unfold sless; simp [hb])
      go_enter Tryd.func15, Tryd.ntmps15
      go_wp2_with fail
      go_ret
      exact ⟨by rw [HS.out]; first | rfl | simp [hb], hx⟩
    · have HS := Lib.hid (show sless a b a d = false by unfold sless; simp [hb])
      go_enter Tryd.func15, Tryd.ntmps15
      go_wp2_with fail
      go_ret
      exact ⟨by rw [HS.out]; first | rfl | simp [hb] | (simp; omega), hx⟩
  · have HS := Lib.hid (show sless a b c d = false by unfold sless; simp; omega)
    have b0 : (a == c) = false := by rw [beq_eq_false_iff_ne]; omega
    have b1 : (a != c) = true := by rw [bne_iff_ne]; omega
    go_enter Tryd.func15, Tryd.ntmps15
    go_wp2_with fail
    go_ret
    exact ⟨by rw [HS.out]; first | rfl | (simp; omega), hx⟩
end Go.Proofs.YtnjnbjcibdeihaaDoor
