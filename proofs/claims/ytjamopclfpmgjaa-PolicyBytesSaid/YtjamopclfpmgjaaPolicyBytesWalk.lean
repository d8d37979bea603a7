/-
  The walk of PolicyBytes.
-/
import Derived.Test.YtjamopclfpmgjaaPolLives
import Derived.Test.YtjamopclfpmgjaaPolOpen
import Derived.Test.YtjamopclfpmgjaaPolDec
import Derived.Test.YtjamopclfpmgjaaPolSame
namespace Go.Proofs.Ytjamopclfpmgjaa
open Go Go.RowKit Mono Num
set_option linter.unusedSimpArgs false
set_option linter.unusedVariables false

set_option maxHeartbeats 4000000 in
theorem policyBytes_walk (v : Value) (l : List Grp) (u : Value) (b : List UInt8) (w : World) (hv : Gs w v l) (hu : Bs w u b) :
    Calls Try.prog 6 #[v, u] w fun e w' => e = .returned (.bool true) ∧ Ext w w' := by
  have hV := hv
  have hU := hu
  obtain ⟨A, c, rfl, h1, h2, h3, h4⟩ := hv.at_
  obtain ⟨B, d, rfl, k1, k2, k3, _⟩ := hu.open_
  unfold maxLen at k2
  by_cases hl : 1000 < l.length
  · go_enter Try.func6, Try.ntmps6
    go_wp2_with fail
    refine (lives_any _).mono ?_
    rintro e w' ⟨rfl, he⟩
    go_wp2_with fail
    go_ret
    exact ⟨rfl, he⟩
  · by_cases hb : 1000 < b.length
    · go_enter Try.func6, Try.ntmps6
      go_wp2_with fail
      refine (lives_any _).mono ?_
      rintro e w' ⟨rfl, he⟩
      go_wp2_with fail
      go_ret
      exact ⟨rfl, he⟩
    · go_enter Try.func6, Try.ntmps6
      go_wp2_with fail
      have HA := Lib.hid (fun w hw => polEncode_any (.slice A l.length c) l w hw)
      have HB := Lib.hid (fun w hw => refEncode_any (.slice A l.length c) l w hw)
      have HC := Lib.hid (fun w hw => polDecode_any (.slice B b.length d) b w hw (by omega))
      have HD := Lib.hid (fun w hw => refDecode_any (.slice B b.length d) b w hw (by omega))
      generalize penc l = f at *
      generalize pdec b = g at *
      obtain ⟨f1, f2⟩ := f
      obtain ⟨g1, g2⟩ := g
      dsimp only at *
      refine (HA.out _ hV).mono ?_
      rintro e w1 ⟨r1, rfl, q1, x1⟩
      clear HA
      replace q1 := q1.bs
      go_wp2_with fail
      refine (HB.out _ (hV.ext x1)).mono ?_
      rintro e w2 ⟨r2, rfl, q2, x2⟩
      clear HB
      replace q1 := q1.ext x2
      replace q2 := q2.bs
      replace x1 := Ext.trans x1 x2
      clear x2
      go_wp2_with fail
      refine (HC.out _ (hU.ext x1)).mono ?_
      rintro e w3 ⟨r3, rfl, q3, x2⟩
      clear HC
      replace q1 := q1.ext x2
      replace q2 := q2.ext x2
      replace x1 := Ext.trans x1 x2
      clear x2
      go_wp2_with fail
      refine (HD.out _ (hU.ext x1)).mono ?_
      rintro e w4 ⟨r4, rfl, q4, x2⟩
      clear HD
      replace q1 := q1.ext x2
      replace q2 := q2.ext x2
      replace q3 := q3.ext x2
      replace x1 := Ext.trans x1 x2
      clear x2
      have c1 := q1.str_ (P := Try.prog) 47 9 5 Try.underlying47 Try.underlying5 Try.underlying9
      have c2 := q2.str_ (P := Try.prog) 47 9 5 Try.underlying47 Try.underlying5 Try.underlying9
      unfold strV at c1 c2
      clear q1 q2
      go_wp2_with fail
      refine (gSame_any _ _ g1 _ q3 q4).mono ?_
      rintro e w5 ⟨rfl, x2⟩
      go_wp2_with fail
      refine (lives_any _).mono ?_
      rintro e w6 ⟨rfl, x3⟩
      go_wp2_with fail
      go_ret
      exact ⟨rfl, Ext.trans (Ext.trans x1 x2) x3⟩
end Go.Proofs.Ytjamopclfpmgjaa
