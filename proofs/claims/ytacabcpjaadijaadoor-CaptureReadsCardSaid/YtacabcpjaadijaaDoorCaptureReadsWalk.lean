/-
  The walk of CaptureReads.
-/
import Derived.Test.YtacabcpjaadijaaDoorCapRead
import Derived.Test.YtacabcpjaadijaaDoorCapLives
import Derived.Test.YtacabcpjaadijaaDoorCapNts
import Derived.Test.YtacabcpjaadijaaDoorChSame
namespace Go.Proofs.YtacabcpjaadijaaDoor
open Go Go.RowKit Mono Num
set_option linter.unusedVariables false
set_option linter.unusedSimpArgs false
set_option maxRecDepth 100000

set_option maxHeartbeats 8000000 in
theorem captureReads_walk (vl : Value) (gs : List Grp) (site : Int) (v : Value) (l : List (List UInt8 × List UInt8)) (w : World) (hT : TbC w) (hl : Gs w vl gs) (hn : Ns w v l) :
    Calls Tryd.prog 5 #[vl, .int .i64 site, v] w fun e w' => e = .returned (.bool true) ∧ Ext w w' := by
  have HT := Lib.hid hT
  have HG := Lib.hid hl
  have HN := Lib.hid hn
  have HL := Lib.hid (fun w => lives_any w)
  obtain ⟨Ag, cg, rfl, hg1, hg2, _⟩ := hl.at_
  clear hT hl hn
  go_enter Tryd.func5, Tryd.ntmps5
  by_cases h1 : 100 < gs.length
  · go_wp2_with fail
    refine (HL.out _).mono ?_
    rintro e w3 ⟨rfl, x3⟩
    go_wp2_with fail
    go_ret
    exact ⟨rfl, x3⟩
  go_wp2_with fail
  refine (light19_any _ l w HN.out).mono ?_
  rintro e w1 ⟨⟨q, rfl, hq⟩, x1⟩
  have HQ := Lib.hid hq
  have X1 := Lib.hid x1
  clear hq x1
  cases q
  · go_wp2_with fail
    refine (HL.out _).mono ?_
    rintro e w3 ⟨rfl, x3⟩
    go_wp2_with fail
    go_ret
    exact ⟨rfl, X1.out.trans x3⟩
  go_wp2_with fail
  refine (capRead_any _ gs site _ l _ (HT.out.ext X1.out) (HG.out.ext X1.out) (HN.out.ext X1.out) (HQ.out rfl).1 (HQ.out rfl).2).mono ?_
  rintro e w2 ⟨r, outs, rfl, hcs, hm, x2⟩
  have X2 := Lib.hid (X1.out.trans x2)
  have HC := Lib.hid hcs
  have HM := Lib.hid hm
  obtain ⟨A2, c2, rfl, -⟩ := hcs.at_
  clear hcs hm x2
  go_wp2_with fail
  refine (refRead_any _ gs site _ l _ (HG.out.ext X2.out) (HN.out.ext X2.out) (HQ.out rfl).1 (HQ.out rfl).2).mono ?_
  rintro e w3 ⟨r2, outs2, rfl, hcs2, hm2, x3⟩
  have X3 := Lib.hid (X2.out.trans x3)
  have HC2 := Lib.hid hcs2
  have HCC := Lib.hid (HC.out.ext x3)
  have HM2 := Lib.hid hm2
  obtain ⟨A3, c3, rfl, -⟩ := hcs2.at_
  clear hcs2 hm2 x3
  go_wp2_with fail
  refine (chAll_any _ _ outs outs2 _ HCC.out HC2.out (HM.out.trans HM2.out.symm)).mono ?_
  rintro e w4 ⟨rfl, x4⟩
  have X4 := Lib.hid (X3.out.trans x4)
  clear x4
  go_wp2_with fail
  refine (HL.out _).mono ?_
  rintro e w5 ⟨rfl, x5⟩
  go_wp2_with fail
  go_ret
  exact ⟨rfl, X4.out.trans x5⟩
end Go.Proofs.YtacabcpjaadijaaDoor
