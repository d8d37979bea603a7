/-
 Layer 15: which names may be.
-/
import Derived.Test.YtagghghoimpofaaGreatDoorDkMem
import Derived.WalkSpells
namespace Go.Proofs.YtagghghoimpofaaGreatDoor
open Go Go.RowKit Mono
set_option linter.unusedVariables false
set_option linter.unusedSimpArgs false
set_option maxRecDepth 100000

theorem strV_get (l : List UInt8) (i : Nat) (h : i < (⟨l.toArray⟩ : ByteArray).size) : (⟨l.toArray⟩ : ByteArray)[i] = l[i]'(by simpa [ByteArray.size] using h) := by
 show l.toArray[i] = _
 simp
theorem dall_take {s : List UInt8} {k : Nat} {c : UInt8} (h : s[k]? = some c) (ha : (s.take k).all nameC = true) (hc : nameC c = true) : (s.take (k + 1)).all nameC = true := by
 rw [List.take_add_one, h, List.all_append, ha]
 simp [hc]
theorem dname_false {s : List UInt8} {k : Nat} {c : UInt8} (h : s[k]? = some c) (hc : nameC c = false) : dname s = false := by
 unfold dname
 have : s.all nameC = false := by
  rw [List.all_eq_false]
  exact ⟨c, List.mem_of_getElem? h, by simp [hc]⟩
 simp [this]
theorem nameC_cases (c : UInt8) : (nameC c = true ∧ (97 ≤ c.toNat ∧ c.toNat ≤ 122)) ∨ (nameC c = true ∧ (48 ≤ c.toNat ∧ c.toNat ≤ 57)) ∨ (nameC c = false ∧ c.toNat < 48) ∨ (nameC c = false ∧ (57 < c.toNat ∧ c.toNat < 97)) ∨ (nameC c = false ∧ 122 < c.toNat) := by
 unfold nameC
 by_cases h1 : 97 ≤ c.toNat <;> by_cases h2 : c.toNat ≤ 122 <;> by_cases h3 : 48 ≤ c.toNat <;> by_cases h4 : c.toNat ≤ 57 <;> simp [h1, h2, h3, h4] <;> omega

set_option maxHeartbeats 3200000 in
theorem dkGood_any (s : List UInt8) (w : World) (hm : s.length ≤ maxLen) : Calls Tryz.prog 74 #[strV s] w fun e w' => e = .returned (.bool (dname s)) ∧ w = w' := by
 unfold strV
 unfold maxLen at hm
 have hsz := strV_size s
 go_enter Tryz.func74, Tryz.ntmps74
 go_wp2_with fail
 go_loop [7] (fun i => ∃ k : Nat, k ≤ s.length ∧ i = .int .i64 k ∧ (s.take k).all nameC = true) (fun i => s.length - (intOf i).toNat)
 case atStart => exact ⟨0, Nat.zero_le _, rfl, rfl⟩
 case round =>
  obtain ⟨k, hk, rfl, hall⟩ := hrel
  have HA := Lib.hid hall
  clear hall
  by_cases hlt : k < s.length
  ·have hget : s[k]? = some s[k] := List.getElem?_eq_getElem hlt
   have hsg := strV_get s k (by rw [hsz]; exact hlt)
   have HG := Lib.hid hget
   clear hget
   generalize s[k] = c at *
   rcases nameC_cases c with ⟨hc, h1, h2⟩ | ⟨hc, h1, h2⟩ | ⟨hc, h1⟩ | ⟨hc, h1, h2⟩ | ⟨hc, h1⟩
   ·have HT := Lib.hid (dall_take HG.out HA.out hc)
    clear hc
    have i0 : 97 ≤ (c.toNat : Int) := by omega
    have i1 : ¬ (122 < (c.toNat : Int)) := by omega
    have i2 : ¬ ((c.toNat : Int) < 97) := by omega
    have i3 : (c.toNat : Int) ≤ 122 := by omega
    have i4 : ¬ ((c.toNat : Int) < 48) := by omega
    have i5 : 48 ≤ (c.toNat : Int) := by omega
    have i6 : 57 < (c.toNat : Int) := by omega
    have i7 : ¬ ((c.toNat : Int) ≤ 57) := by omega
    clear h1 h2
    go_wp2_with fail
    go_round
    case rel => exact ⟨k + 1, by omega, by go_num, HT.out⟩
    case measure => simp [intOf]; omega
   ·have HT := Lib.hid (dall_take HG.out HA.out hc)
    clear hc
    have i0 : (c.toNat : Int) < 97 := by omega
    have i1 : ¬ (97 ≤ (c.toNat : Int)) := by omega
    have i2 : ¬ ((c.toNat : Int) < 48) := by omega
    have i3 : 48 ≤ (c.toNat : Int) := by omega
    have i4 : ¬ (57 < (c.toNat : Int)) := by omega
    have i5 : (c.toNat : Int) ≤ 57 := by omega
    have i6 : ¬ (122 < (c.toNat : Int)) := by omega
    have i7 : (c.toNat : Int) ≤ 122 := by omega
    clear h1 h2
    go_wp2_with fail
    go_round
    case rel => exact ⟨k + 1, by omega, by go_num, HT.out⟩
    case measure => simp [intOf]; omega
   ·have HF := Lib.hid (dname_false HG.out hc)
    clear hc
    have i0 : (c.toNat : Int) < 97 := by omega
    have i1 : ¬ (97 ≤ (c.toNat : Int)) := by omega
    have i2 : (c.toNat : Int) < 48 := by omega
    have i3 : ¬ (48 ≤ (c.toNat : Int)) := by omega
    have i4 : (c.toNat : Int) ≤ 57 := by omega
    have i5 : (c.toNat : Int) ≤ 122 := by omega
    have i6 : ¬ (57 < (c.toNat : Int)) := by omega
    have i7 : ¬ (122 < (c.toNat : Int)) := by omega
    clear h1
    go_wp2_with fail
    go_ret
    exact ⟨by rw [HF.out]; rfl, rfl⟩
   ·have HF := Lib.hid (dname_false HG.out hc)
    clear hc
    have i0 : (c.toNat : Int) < 97 := by omega
    have i1 : ¬ (97 ≤ (c.toNat : Int)) := by omega
    have i2 : ¬ ((c.toNat : Int) < 48) := by omega
    have i3 : 48 ≤ (c.toNat : Int) := by omega
    have i4 : 57 < (c.toNat : Int) := by omega
    have i5 : ¬ ((c.toNat : Int) ≤ 57) := by omega
    have i6 : (c.toNat : Int) ≤ 122 := by omega
    have i7 : ¬ (122 < (c.toNat : Int)) := by omega
    clear h1 h2
    go_wp2_with fail
    go_ret
    exact ⟨by rw [HF.out]; rfl, rfl⟩
   ·have HF := Lib.hid (dname_false HG.out hc)
    clear hc
    have i0 : 97 ≤ (c.toNat : Int) := by omega
    have i1 : ¬ ((c.toNat : Int) < 97) := by omega
    have i2 : 122 < (c.toNat : Int) := by omega
    have i3 : ¬ ((c.toNat : Int) ≤ 122) := by omega
    have i4 : ¬ ((c.toNat : Int) < 48) := by omega
    have i5 : 48 ≤ (c.toNat : Int) := by omega
    have i6 : 57 < (c.toNat : Int) := by omega
    have i7 : ¬ ((c.toNat : Int) ≤ 57) := by omega
    clear h1
    go_wp2_with fail
    go_ret
    exact ⟨by rw [HF.out]; rfl, rfl⟩
  ·have hall := HA.out
   rw [List.take_of_length_le (by omega)] at hall
   have HN := Lib.hid (show dname s = (decide (1 ≤ s.length) && decide (s.length ≤ 24)) by unfold dname; rw [hall, Bool.true_and])
   clear hall
   by_cases h1 : 1 ≤ s.length
   ·have hne : ¬ s = [] := by rintro rfl; simp at h1
    by_cases h2 : s.length ≤ 24
    ·go_wp2_with fail
     go_ret
     exact ⟨by rw [HN.out]; simp [h1, h2]; first | omega | exact ⟨hne, by omega⟩ | (intro; omega), rfl⟩
    ·go_wp2_with fail
     go_ret
     exact ⟨by rw [HN.out]; simp [h1, h2]; first | omega | exact ⟨hne, by omega⟩ | (intro; omega), rfl⟩
   ·have hne : s = [] := List.eq_nil_of_length_eq_zero (by omega)
    subst hne
    go_wp2_with fail
    go_ret
    exact ⟨by rw [HN.out]; simp [h1], rfl⟩

set_option maxHeartbeats 3200000 in
theorem refDkGood_any (s : List UInt8) (w : World) (hm : s.length ≤ maxLen) : Calls Tryz.prog 90 #[strV s] w fun e w' => e = .returned (.bool (dname s)) ∧ w = w' := by
 unfold strV
 unfold maxLen at hm
 have hsz := strV_size s
 go_enter Tryz.func90, Tryz.ntmps90
 go_wp2_with fail
 go_loop [3] (fun i => ∃ k : Nat, k ≤ s.length ∧ i = .int .i64 k ∧ (s.take k).all nameC = true) (fun i => s.length - (intOf i).toNat)
 case atStart => exact ⟨0, Nat.zero_le _, rfl, rfl⟩
 case round =>
  obtain ⟨k, hk, rfl, hall⟩ := hrel
  have HA := Lib.hid hall
  clear hall
  by_cases hlt : k < s.length
  ·have hget : s[k]? = some s[k] := List.getElem?_eq_getElem hlt
   have hsg := strV_get s k (by rw [hsz]; exact hlt)
   have HG := Lib.hid hget
   clear hget
   generalize s[k] = c at *
   rcases nameC_cases c with ⟨hc, h1, h2⟩ | ⟨hc, h1, h2⟩ | ⟨hc, h1⟩ | ⟨hc, h1, h2⟩ | ⟨hc, h1⟩
   ·have HT := Lib.hid (dall_take HG.out HA.out hc)
    clear hc
    have i0 : 97 ≤ (c.toNat : Int) := by omega
    have i1 : ¬ (122 < (c.toNat : Int)) := by omega
    have i2 : ¬ ((c.toNat : Int) < 97) := by omega
    have i3 : (c.toNat : Int) ≤ 122 := by omega
    have i4 : ¬ ((c.toNat : Int) < 48) := by omega
    have i5 : 48 ≤ (c.toNat : Int) := by omega
    have i6 : 57 < (c.toNat : Int) := by omega
    have i7 : ¬ ((c.toNat : Int) ≤ 57) := by omega
    clear h1 h2
    go_wp2_with fail
    go_round
    case rel => exact ⟨k + 1, by omega, by go_num, HT.out⟩
    case measure => simp [intOf]; omega
   ·have HT := Lib.hid (dall_take HG.out HA.out hc)
    clear hc
    have i0 : (c.toNat : Int) < 97 := by omega
    have i1 : ¬ (97 ≤ (c.toNat : Int)) := by omega
    have i2 : ¬ ((c.toNat : Int) < 48) := by omega
    have i3 : 48 ≤ (c.toNat : Int) := by omega
    have i4 : ¬ (57 < (c.toNat : Int)) := by omega
    have i5 : (c.toNat : Int) ≤ 57 := by omega
    have i6 : ¬ (122 < (c.toNat : Int)) := by omega
    have i7 : (c.toNat : Int) ≤ 122 := by omega
    clear h1 h2
    go_wp2_with fail
    go_round
    case rel => exact ⟨k + 1, by omega, by go_num, HT.out⟩
    case measure => simp [intOf]; omega
   ·have HF := Lib.hid (dname_false HG.out hc)
    clear hc
    have i0 : (c.toNat : Int) < 97 := by omega
    have i1 : ¬ (97 ≤ (c.toNat : Int)) := by omega
    have i2 : (c.toNat : Int) < 48 := by omega
    have i3 : ¬ (48 ≤ (c.toNat : Int)) := by omega
    have i4 : (c.toNat : Int) ≤ 57 := by omega
    have i5 : (c.toNat : Int) ≤ 122 := by omega
    have i6 : ¬ (57 < (c.toNat : Int)) := by omega
    have i7 : ¬ (122 < (c.toNat : Int)) := by omega
    clear h1
    go_wp2_with fail
    go_ret
    exact ⟨by rw [HF.out]; rfl, rfl⟩
   ·have HF := Lib.hid (dname_false HG.out hc)
    clear hc
    have i0 : (c.toNat : Int) < 97 := by omega
    have i1 : ¬ (97 ≤ (c.toNat : Int)) := by omega
    have i2 : ¬ ((c.toNat : Int) < 48) := by omega
    have i3 : 48 ≤ (c.toNat : Int) := by omega
    have i4 : 57 < (c.toNat : Int) := by omega
    have i5 : ¬ ((c.toNat : Int) ≤ 57) := by omega
    have i6 : (c.toNat : Int) ≤ 122 := by omega
    have i7 : ¬ (122 < (c.toNat : Int)) := by omega
    clear h1 h2
    go_wp2_with fail
    go_ret
    exact ⟨by rw [HF.out]; rfl, rfl⟩
   ·have HF := Lib.hid (dname_false HG.out hc)
    clear hc
    have i0 : 97 ≤ (c.toNat : Int) := by omega
    have i1 : ¬ ((c.toNat : Int) < 97) := by omega
    have i2 : 122 < (c.toNat : Int) := by omega
    have i3 : ¬ ((c.toNat : Int) ≤ 122) := by omega
    have i4 : ¬ ((c.toNat : Int) < 48) := by omega
    have i5 : 48 ≤ (c.toNat : Int) := by omega
    have i6 : 57 < (c.toNat : Int) := by omega
    have i7 : ¬ ((c.toNat : Int) ≤ 57) := by omega
    clear h1
    go_wp2_with fail
    go_ret
    exact ⟨by rw [HF.out]; rfl, rfl⟩
  ·have hall := HA.out
   rw [List.take_of_length_le (by omega)] at hall
   have HN := Lib.hid (show dname s = (decide (1 ≤ s.length) && decide (s.length ≤ 24)) by unfold dname; rw [hall, Bool.true_and])
   clear hall
   by_cases h1 : 1 ≤ s.length
   ·by_cases h2 : s.length ≤ 24
    ·go_wp2_with fail
     go_ret
     exact ⟨by rw [HN.out]; simp [h1, h2]; first | omega | exact ⟨hne, by omega⟩ | (intro; omega), rfl⟩
    ·go_wp2_with fail
     go_ret
     exact ⟨by rw [HN.out]; simp [h1, h2]; first | omega | exact ⟨hne, by omega⟩ | (intro; omega), rfl⟩
   ·go_wp2_with fail
    go_ret
    exact ⟨by rw [HN.out]; simp [h1], rfl⟩

end Go.Proofs.YtagghghoimpofaaGreatDoor
