/-
  The walk of PolicyChecks.
-/
import Derived.Test.YtjamopclfpmgjaaPolLives
import Derived.Test.YtjamopclfpmgjaaPolOpen
namespace Go.Proofs.Ytjamopclfpmgjaa
open Go Go.RowKit Mono Num
set_option linter.unusedSimpArgs false
set_option linter.unusedVariables false

set_option maxHeartbeats 4000000 in
theorem policyChecks_walk (v : Value) (l : List Grp) (nm : List UInt8) (k : Int) (w : World) (hv : Gs w v l) (hk : -9223372036854775808 ≤ k ∧ k ≤ 9223372036854775807) :
    Calls Try.prog 4 #[v, strV nm, .int .i64 k] w fun e w' => e = .returned (.bool true) ∧ Ext w w' := by
  have hV := hv
  obtain ⟨A, c, rfl, h1, h2, h3, h4⟩ := hv.at_
  by_cases hl : 1000 < l.length
  · go_enter Try.func4, Try.ntmps4
    go_wp2_with fail
    refine (lives_any _).mono ?_
    rintro e w' ⟨rfl, he⟩
    go_wp2_with fail
    go_ret
    exact ⟨rfl, he⟩
  · go_enter Try.func4, Try.ntmps4
    go_wp2_with fail
    have HA := Lib.hid (fun w hw => polFind_any (.slice A l.length c) l nm w hw)
    have HB := Lib.hid (fun w hw => refFind_any (.slice A l.length c) l nm w hw)
    have HC := Lib.hid (fun w hw => polOf_any (.slice A l.length c) l k w hw hk)
    have HD := Lib.hid (fun w hw => refOf_any (.slice A l.length c) l k w hw hk)
    generalize pfind l nm = f at *
    generalize pof l k = g at *
    obtain ⟨f1, f2⟩ := f
    obtain ⟨g1, g2⟩ := g
    dsimp only at *
    refine (HA.out _ hV).mono ?_
    rintro e w1 ⟨rfl, x1⟩
    clear HA
    go_wp2_with fail
    refine (HB.out _ (hV.ext x1)).mono ?_
    rintro e w2 ⟨rfl, x2⟩
    clear HB
    replace x1 := Ext.trans x1 x2
    clear x2
    go_wp2_with fail
    refine (HC.out _ (hV.ext x1)).mono ?_
    rintro e w3 ⟨rfl, x2⟩
    clear HC
    replace x1 := Ext.trans x1 x2
    clear x2
    go_wp2_with fail
    refine (HD.out _ (hV.ext x1)).mono ?_
    rintro e w4 ⟨rfl, x2⟩
    clear HD
    replace x1 := Ext.trans x1 x2
    clear x2
    go_wp2_with fail
    refine (polGood_any _ l _ (hV.ext x1)).mono ?_
    rintro e w5 ⟨rfl, x2⟩
    replace x1 := Ext.trans x1 x2
    clear x2
    go_wp2_with fail
    refine (refGood_any _ l _ (hV.ext x1)).mono ?_
    rintro e w6 ⟨rfl, x2⟩
    replace x1 := Ext.trans x1 x2
    clear x2
    go_wp2_with fail
    refine (lives_any _).mono ?_
    rintro e w7 ⟨rfl, x2⟩
    go_wp2_with fail
    go_ret
    exact ⟨rfl, Ext.trans x1 x2⟩
end Go.Proofs.Ytjamopclfpmgjaa
