/-
  The walk of PolicyTexts.
-/
import Derived.Test.YtjamopclfpmgjaaPolLives
import Derived.Test.YtjamopclfpmgjaaPolOpen
import Derived.Test.YtjamopclfpmgjaaPolDec
import Derived.Test.YtjamopclfpmgjaaPolSame
import Derived.Test.YtjamopclfpmgjaaPolTok
namespace Go.Proofs.Ytjamopclfpmgjaa
open Go Go.RowKit Mono Num
set_option linter.unusedSimpArgs false
set_option linter.unusedVariables false

set_option maxHeartbeats 4000000 in
theorem policyTexts_walk (v : Value) (l : List Grp) (s : List UInt8) (w : World) (hv : Gs w v l) (hs : s.length ≤ maxLen) :
    Calls Try.prog 3 #[v, strV s] w fun e w' => e = .returned (.bool true) ∧ Ext w w' := by
  have hV := hv
  obtain ⟨A, c, rfl, h1, h2, h3, h4⟩ := hv.at_
  have hsz := strV_size s
  unfold maxLen at hs
  unfold strV
  by_cases hl : 1000 < l.length
  · go_enter Try.func3, Try.ntmps3
    go_wp2_with fail
    refine (lives_any _).mono ?_
    rintro e w' ⟨rfl, he⟩
    go_wp2_with fail
    go_ret
    exact ⟨rfl, he⟩
  · by_cases hb : 1000 < s.length
    · go_enter Try.func3, Try.ntmps3
      go_wp2_with fail
      refine (lives_any _).mono ?_
      rintro e w' ⟨rfl, he⟩
      go_wp2_with fail
      go_ret
      exact ⟨rfl, he⟩
    · go_enter Try.func3, Try.ntmps3
      go_wp2_with fail
      have HA := Lib.hid (fun w hw => polPrint_any (.slice A l.length c) l w hw)
      have HB := Lib.hid (fun w hw => refPrint_any (.slice A l.length c) l w hw)
      have HC := Lib.hid (fun w => polParse_any s w (by unfold maxLen; omega))
      have HD := Lib.hid (fun w => refParse_any s w (by unfold maxLen; omega))
      rw [parse_same] at HD
      generalize pprint l = f at *
      generalize pparse s = g at *
      obtain ⟨f1, f2⟩ := f
      obtain ⟨g1, g2⟩ := g
      dsimp only at *
      unfold strV at HA HB HC HD
      refine (HA.out _ hV).mono ?_
      rintro e w1 ⟨rfl, x1⟩
      clear HA
      go_wp2_with fail
      refine (HB.out _ (hV.ext x1)).mono ?_
      rintro e w2 ⟨rfl, x2⟩
      clear HB
      replace x1 := Ext.trans x1 x2
      clear x2
      go_wp2_with fail
      refine (HC.out _).mono ?_
      rintro e w3 ⟨r3, rfl, q3, x2⟩
      clear HC
      replace x1 := Ext.trans x1 x2
      clear x2
      go_wp2_with fail
      refine (HD.out _).mono ?_
      rintro e w4 ⟨r4, rfl, q4, x2⟩
      clear HD
      replace q3 := q3.ext x2
      replace x1 := Ext.trans x1 x2
      clear x2
      go_wp2_with fail
      refine (gSame_any _ _ g1 _ q3 q4).mono ?_
      rintro e w5 ⟨rfl, x2⟩
      go_wp2_with fail
      refine (lives_any _).mono ?_
      rintro e w6 ⟨rfl, x3⟩
      go_wp2_with fail
      go_ret
      exact ⟨rfl, Ext.trans (Ext.trans x1 x2) x3⟩
end Go.Proofs.Ytjamopclfpmgjaa
