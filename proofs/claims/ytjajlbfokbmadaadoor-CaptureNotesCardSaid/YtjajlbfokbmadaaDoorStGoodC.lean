/-
  The walks of both Good and Less of stamps.
-/
import Derived.Test.YtjajlbfokbmadaaDoorStPlain
namespace Go.Proofs.YtjajlbfokbmadaaDoor
open Go Go.RowKit Mono
set_option linter.unusedVariables false
set_option linter.unusedSimpArgs false

set_option maxHeartbeats 1000000 in
theorem stGood_any (a b : Int) (w : World) : Calls Tryd.prog 39 #[stV a b] w fun e w' => e = .returned (.bool (sgood a b)) ∧ Ext w w' := by
  unfold stV
  rcases sgood_cases a b with ⟨rfl, rfl⟩ | ⟨rfl, h⟩ | h | h | ⟨h1, h2, rfl⟩ | ⟨h1, h2, rfl⟩ | ⟨h1, h2, h3, h4⟩
  · have HS := Lib.hid (show sgood 0 0 = true from sgood_true (by omega))
    go_enter Tryd.func39, Tryd.ntmps39
    go_wp2_with fail
    go_ret
    exact ⟨by rw [HS.out]; rfl, ext_alloc _ _⟩
  · have HS := Lib.hid (show sgood 0 b = false from sgood_false (by omega))
    have b0 : (b == 0) = false := by rw [beq_eq_false_iff_ne]; exact h
    clear h
    go_enter Tryd.func39, Tryd.ntmps39
    go_wp2_with fail
    go_ret
    exact ⟨by rw [HS.out]; rfl, ext_alloc _ _⟩
  · have HS := Lib.hid (show sgood a b = false from sgood_false (by omega))
    have b0 : (a == 0) = false := by rw [beq_eq_false_iff_ne]; omega
    go_enter Tryd.func39, Tryd.ntmps39
    go_wp2_with fail
    go_ret
    exact ⟨by rw [HS.out]; rfl, ext_alloc _ _⟩
  · have HS := Lib.hid (show sgood a b = false from sgood_false (by omega))
    have b0 : (a == 0) = false := by rw [beq_eq_false_iff_ne]; omega
    go_enter Tryd.func39, Tryd.ntmps39
    go_wp2_with fail
    go_ret
    exact ⟨by rw [HS.out]; rfl, ext_alloc _ _⟩
  · have HS := Lib.hid (show sgood a 1 = true from sgood_true (by omega))
    have b0 : (a == 0) = false := by rw [beq_eq_false_iff_ne]; omega
    have HK := Lib.hid (show knownB 1 = true by rfl)
    go_enter Tryd.func39, Tryd.ntmps39
    go_wp2_with fail
    refine (known_any _ _).mono ?_
    rintro e w' ⟨rfl, rfl⟩
    rw [HK.out]
    go_wp2_with fail
    go_ret
    exact ⟨by rw [HS.out]; rfl, ext_alloc _ _⟩
  · have HS := Lib.hid (show sgood a 2 = true from sgood_true (by omega))
    have b0 : (a == 0) = false := by rw [beq_eq_false_iff_ne]; omega
    have HK := Lib.hid (show knownB 2 = true by rfl)
    go_enter Tryd.func39, Tryd.ntmps39
    go_wp2_with fail
    refine (known_any _ _).mono ?_
    rintro e w' ⟨rfl, rfl⟩
    rw [HK.out]
    go_wp2_with fail
    go_ret
    exact ⟨by rw [HS.out]; rfl, ext_alloc _ _⟩
  · have HS := Lib.hid (show sgood a b = false from sgood_false (by omega))
    have b0 : (a == 0) = false := by rw [beq_eq_false_iff_ne]; omega
    have HK := Lib.hid (show knownB b = false by unfold knownB; simp [h3, h4])
    have b1 : (b == 1) = false := by simpa using h3
    have b2 : (b == 2) = false := by simpa using h4
    clear h3 h4
    go_enter Tryd.func39, Tryd.ntmps39
    go_wp2_with fail
    refine (known_any _ _).mono ?_
    rintro e w' ⟨rfl, rfl⟩
    rw [HK.out]
    go_wp2_with fail
    go_ret
    exact ⟨by rw [HS.out]; rfl, ext_alloc _ _⟩

set_option maxHeartbeats 1000000 in
theorem refSGood_any (a b : Int) (w : World) : Calls Tryd.prog 51 #[stV a b] w fun e w' => e = .returned (.bool (sgood a b)) ∧ Ext w w' := by
  unfold stV
  rcases sgood_cases a b with ⟨rfl, rfl⟩ | ⟨rfl, h⟩ | h | h | ⟨h1, h2, rfl⟩ | ⟨h1, h2, rfl⟩ | ⟨h1, h2, h3, h4⟩
  · have HS := Lib.hid (show sgood 0 0 = true from sgood_true (by omega))
    go_enter Tryd.func51, Tryd.ntmps51
    go_wp2_with fail
    go_ret
    exact ⟨by rw [HS.out]; rfl, ext_alloc _ _⟩
  · have HS := Lib.hid (show sgood 0 b = false from sgood_false (by omega))
    have b0 : (b == 0) = false := by rw [beq_eq_false_iff_ne]; exact h
    clear h
    go_enter Tryd.func51, Tryd.ntmps51
    go_wp2_with fail
    go_ret
    exact ⟨by rw [HS.out]; rfl, ext_alloc _ _⟩
  · have HS := Lib.hid (show sgood a b = false from sgood_false (by omega))
    have b0 : (a == 0) = false := by rw [beq_eq_false_iff_ne]; omega
    go_enter Tryd.func51, Tryd.ntmps51
    go_wp2_with fail
    go_ret
    exact ⟨by rw [HS.out]; rfl, ext_alloc _ _⟩
  · have HS := Lib.hid (show sgood a b = false from sgood_false (by omega))
    have b0 : (a == 0) = false := by rw [beq_eq_false_iff_ne]; omega
    go_enter Tryd.func51, Tryd.ntmps51
    go_wp2_with fail
    go_ret
    exact ⟨by rw [HS.out]; rfl, ext_alloc _ _⟩
  · have HS := Lib.hid (show sgood a 1 = true from sgood_true (by omega))
    have b0 : (a == 0) = false := by rw [beq_eq_false_iff_ne]; omega
    have HK := Lib.hid (show knownB 1 = true by rfl)
    go_enter Tryd.func51, Tryd.ntmps51
    go_wp2_with fail
    go_ret
    exact ⟨by rw [HS.out]; rfl, ext_alloc _ _⟩
  · have HS := Lib.hid (show sgood a 2 = true from sgood_true (by omega))
    have b0 : (a == 0) = false := by rw [beq_eq_false_iff_ne]; omega
    have HK := Lib.hid (show knownB 2 = true by rfl)
    go_enter Tryd.func51, Tryd.ntmps51
    go_wp2_with fail
    go_ret
    exact ⟨by rw [HS.out]; rfl, ext_alloc _ _⟩
  · have HS := Lib.hid (show sgood a b = false from sgood_false (by omega))
    have b0 : (a == 0) = false := by rw [beq_eq_false_iff_ne]; omega
    have HK := Lib.hid (show knownB b = false by unfold knownB; simp [h3, h4])
    have b1 : (b == 1) = false := by simpa using h3
    have b2 : (b == 2) = false := by simpa using h4
    clear h3 h4
    go_enter Tryd.func51, Tryd.ntmps51
    go_wp2_with fail
    go_ret
    exact ⟨by rw [HS.out]; rfl, ext_alloc _ _⟩

end Go.Proofs.YtjajlbfokbmadaaDoor
