/-
  The chapter's example of layer 7.
-/
import Derived.Test.YtjamopclfpmgjaaPolParseW2
namespace Go.Proofs.Ytjamopclfpmgjaa
open Go Go.RowKit Mono Num
set_option linter.unusedVariables false
set_option linter.unusedSimpArgs false

def exT : List UInt8 := [110, 97, 109, 101, 61, 108, 97, 115, 116, 44, 116, 97, 103, 115, 61, 100, 101, 108, 101, 116, 101]
def exL : List Grp := [([110, 97, 109, 101], 1), ([116, 97, 103, 115], 2)]
def exB : List UInt8 := [2, 4, 110, 97, 109, 101, 1, 4, 116, 97, 103, 115, 2]
theorem ex_parse : pparse exT = (exL, 0) := by decide +kernel
theorem ex_enc : penc exL = (exB, 0) := by decide +kernel

set_option maxHeartbeats 2000000 in
theorem lives_any (w : World) : Calls Try.prog 8 #[] w fun e w' => e = .returned (.bool true) ∧ Ext w w' := by
  have HP := Lib.hid (polParse_any exT w (by decide))
  rw [ex_parse] at HP
  unfold strV exT at HP
  have HE := Lib.hid (fun v w hv => polEncode_any v exL w hv)
  rw [ex_enc] at HE
  dsimp only at HP HE
  go_enter Try.func8, Try.ntmps8
  go_wp2_with fail
  refine HP.out.mono ?_
  rintro e w1 ⟨r, rfl, hr, x1⟩
  obtain ⟨⟨A, c, rfl, k1, k2, k3, k4⟩, _⟩ := id hr
  obtain ⟨b, off, rfl, hb, hc⟩ := k4 (by decide)
  obtain ⟨c2, c3⟩ := hc 1 _ rfl
  go_wp2_with fail
  refine (HE.out _ _ hr).mono ?_
  rintro e w2 ⟨q, rfl, hq, x2⟩
  have d2 := (x2.cell (p := ⟨b, off + 1 * 2, none⟩) hb).trans c2
  have d3 := (x2.cell (p := ⟨b, off + 1 * 2 + 1, none⟩) hb).trans c3
  have ks := hq.bs.str_ (P := Try.prog) 47 9 5 Try.underlying47 Try.underlying5 Try.underlying9
  unfold strV at d2 ks
  unfold exB at ks
  unfold exL at k1 ⊢
  dsimp only [List.length_cons, List.length_nil, Nat.zero_add, Nat.reduceAdd] at k1 d2 d3 ⊢
  clear c2 c3 hc hr hq
  go_wp2_with fail
  go_ret
  exact ⟨rfl, Ext.trans x1 x2⟩
end Go.Proofs.Ytjamopclfpmgjaa
