/-
  Layer 16: the walk of WalNames.
-/
import Derived.Test.YtagghghoimpofaaDoorWalLives
import Derived.Test.YtagghghoimpofaaDoorWalName
import Derived.Test.YtagghghoimpofaaDoorDkGood
namespace Go.Proofs.YtagghghoimpofaaDoor
open Go Go.RowKit Mono
set_option linter.unusedVariables false
set_option linter.unusedSimpArgs false
set_option maxRecDepth 100000
set_option maxHeartbeats 4000000

theorem walNames_walk (n : Int) (t : List UInt8) (W : World) (hT : TbW W) (ht : t.length ≤ maxLen) :
    Calls Tryd.prog 3 #[.int .i64 n, strV t] W fun e w' => e = .returned (.bool true) ∧ Ext W w' := by
  unfold maxLen at ht
  have hl : t.length ≤ 9223372036854775807 := by omega
  have hs : ({ data := t.toArray } : ByteArray).size = t.length := by simp [ByteArray.size]
  have HT := Lib.hid hT
  have HL := Lib.hid (fun w (h : Ext W w) => wlives_any w (hT.ext h))
  clear ht hT
  unfold strV
  by_cases hbig : 1000 < t.length
  · have HLV := Lib.hid (HL.out W (Ext.refl _))
    go_enter Tryd.func3, Tryd.ntmps3
    go_wp2_with fail
    refine HLV.out.mono ?_
    rintro e w1 ⟨rfl, hx1⟩
    go_wp2_with fail
    go_ret
    exact ⟨rfl, hx1⟩
  have HN := Lib.hid (wName_any n W HT.out)
  go_enter Tryd.func3, Tryd.ntmps3
  go_wp2_with fail
  refine HN.out.mono ?_
  rintro e w1 ⟨rfl, hx1⟩
  have HX1 := Lib.hid hx1
  have HR := Lib.hid (refWName_any n w1)
  unfold strV at HR ⊢
  clear hx1 HN
  go_wp2_with fail
  refine HR.out.mono ?_
  rintro e w2 ⟨rfl, hx2⟩
  have HX2 := Lib.hid (HX1.out.trans hx2)
  have HU := Lib.hid (wNumber_any t w2 hl)
  have HRU := Lib.hid (refWNumber_any t w2 hl)
  unfold strV at HU HRU
  clear hx2 HR HX1
  go_wp2_with fail
  refine HU.out.mono ?_
  rintro e w3 ⟨rfl, rfl⟩
  go_wp2_with fail
  refine HRU.out.mono ?_
  rintro e w3 ⟨rfl, rfl⟩
  generalize wnum t = m at *
  by_cases hbad : n < 1 ∨ 999999999999 < n
  · have HW := Lib.hid (wname_bad hbad)
    have HLV := Lib.hid (HL.out w2 HX2.out)
    rw [HW.out]
    go_wp2_with fail
    refine HLV.out.mono ?_
    rintro e w4 ⟨rfl, hx4⟩
    go_wp2_with fail
    go_ret
    exact ⟨rfl, HX2.out.trans hx4⟩
  · obtain ⟨N, rfl⟩ : ∃ m : Nat, n = (m : Int) := ⟨n.toNat, by omega⟩
    have h1 : 1 ≤ N := by omega
    have h2 : N ≤ 999999999999 := by omega
    have hnum := wnum_wname h1 h2
    have hgood := wname_good h1 h2
    have hlen := wname_len (N : Int)
    have hne : wname (N : Int) ≠ [] := by rw [wname_ok h1 h2]; simp
    have HU2 := Lib.hid (wNumber_any (wname (N : Int)) w2 (Nat.le_trans hlen (by decide)))
    have HG2 := Lib.hid (dkGood_any (wname (N : Int)) w2 (Nat.le_trans hlen (by decide)))
    rw [hnum] at HU2
    rw [hgood] at HG2
    have HLV := Lib.hid (HL.out w2 HX2.out)
    unfold strV at HU2 HG2
    clear hbad h1 h2 hnum hgood hlen
    generalize wname (N : Int) = L at *
    have hq : L.isEmpty = false := by cases L with | nil => exact absurd rfl hne | cons a r => rfl
    go_wp2_with fail
    refine HU2.out.mono ?_
    rintro e w3 ⟨rfl, rfl⟩
    go_wp2_with fail
    refine HG2.out.mono ?_
    rintro e w3 ⟨rfl, rfl⟩
    go_wp2_with fail
    refine HLV.out.mono ?_
    rintro e w4 ⟨rfl, hx4⟩
    go_wp2_with fail
    go_ret
    exact ⟨rfl, HX2.out.trans hx4⟩
end Go.Proofs.YtagghghoimpofaaDoor
