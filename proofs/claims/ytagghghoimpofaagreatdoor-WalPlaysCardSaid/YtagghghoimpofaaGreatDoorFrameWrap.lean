/-
 The walks of layer 3, the first part: Wrap and Open.
-/
import Derived.Test.YtagghghoimpofaaGreatDoorFramePlain
namespace Go.Proofs.YtagghghoimpofaaGreatDoor
open Go.RowKit Mono Num Crc
set_option linter.unusedSimpArgs false
set_option linter.unusedVariables false

set_option maxHeartbeats 800000 in
theorem fWrap_any (v : Value) (l : List UInt8) (w : World) (hv : Bs w v l) :
  Calls Tryz.prog 44 #[v] w fun e w' => ∃ r, e = .returned r ∧ OwB w' w.heap.size r (wrap l) ∧ Ext w w' := by
 obtain ⟨A, c, rfl, h1, h2, _, _⟩ := hv.open_
 unfold maxLen at h2
 by_cases hl : 1048576 < l.length
 ·have HW := Lib.hid (show wrap l = [] by unfold wrap; rw [if_pos hl])
  go_enter Tryz.func44, Tryz.ntmps44
  go_wp2_with fail
  go_ret
  exact ⟨_, rfl, by rw [HW.out]; exact OwB.nil_ _ _, Ext.refl _⟩
 ·have HW := Lib.hid (show wrap l = fix (181 :: (nput l.length ++ l)) by unfold wrap; rw [if_neg hl])
  go_enter Tryz.func44, Tryz.ntmps44
  go_wp2_with fail
  refine (numPut_any _ [181] l.length _ (Bs.alloc_ w (l := [181]) 5 _ rfl rfl (Nat.le_refl _) (by decide)) (by simp) (by omega)).mono ?_
  rintro e w1 ⟨r, rfl, h, he⟩
  have hx : Ext w w1 := Ext.trans (ext_alloc _ _) he
  have hs := he.size
  rw [World.size_alloc] at hs
  have hlen : ([181] ++ nput (l.length : Int)).length ≤ 9 := by have := nsize_le (l.length : Int); simp [nput_length]; omega
  clear he
  go_wp2_with (at_builtin; refine wpList_append_bs _ rfl (.tmp 9) (.tmp 10) rfl h (hv.ext hx) rfl rfl (by omega) (by rw [World.size_alloc]; omega) ?_; intro v1 w2 hown1 hg1 hat1; have hb1 : Ext w w2 := Below.growB hx h hg1 (by rw [World.size_alloc]; omega) hx.size)
  refine (crcFix_any _ _ _ hown1.bs (by rw [List.length_append]; omega)).mono ?_
  rintro e w3 ⟨r3, rfl, h3, he3⟩
  go_wp2_with fail
  go_ret
  exact ⟨_, rfl, by rw [HW.out]; rw [List.append_assoc] at h3; exact OwB.mono h3 hb1.size, Ext.trans hb1 he3⟩

set_option maxHeartbeats 800000 in
theorem rWrap_any (v : Value) (l : List UInt8) (w : World) (hv : Bs w v l) :
  Calls Tryz.prog 70 #[v] w fun e w' => ∃ r, e = .returned r ∧ OwB w' w.heap.size r (wrap l) ∧ Ext w w' := by
 obtain ⟨A, c, rfl, h1, h2, _, _⟩ := hv.open_
 unfold maxLen at h2
 by_cases hl : 1048576 < l.length
 ·have HW := Lib.hid (show wrap l = [] by unfold wrap; rw [if_pos hl])
  go_enter Tryz.func70, Tryz.ntmps70
  go_wp2_with fail
  go_ret
  exact ⟨_, rfl, by rw [HW.out]; exact OwB.nil_ _ _, Ext.refl _⟩
 ·have HW := Lib.hid (show wrap l = fix (181 :: (nput l.length ++ l)) by unfold wrap; rw [if_neg hl])
  go_enter Tryz.func70, Tryz.ntmps70
  go_wp2_with fail
  refine (refPut_any _ [181] l.length _ (Bs.alloc_ w (l := [181]) 5 _ rfl rfl (Nat.le_refl _) (by decide)) (by simp) (by omega)).mono ?_
  rintro e w1 ⟨r, rfl, h, he⟩
  have hx : Ext w w1 := Ext.trans (ext_alloc _ _) he
  have hs := he.size
  rw [World.size_alloc] at hs
  have hlen : ([181] ++ nput (l.length : Int)).length ≤ 9 := by have := nsize_le (l.length : Int); simp [nput_length]; omega
  clear he
  go_wp2_with (at_builtin; refine wpList_append_bs _ rfl (.tmp 9) (.tmp 10) rfl h (hv.ext hx) rfl rfl (by omega) (by rw [World.size_alloc]; omega) ?_; intro v1 w2 hown1 hg1 hat1; have hb1 : Ext w w2 := Below.growB hx h hg1 (by rw [World.size_alloc]; omega) hx.size)
  refine (refFix_any _ _ _ hown1.bs (by rw [List.length_append]; omega)).mono ?_
  rintro e w3 ⟨r3, rfl, h3, he3⟩
  go_wp2_with fail
  go_ret
  exact ⟨_, rfl, by rw [HW.out]; rw [List.append_assoc] at h3; exact OwB.mono h3 hb1.size, Ext.trans hb1 he3⟩
end Go.Proofs.YtagghghoimpofaaGreatDoor
