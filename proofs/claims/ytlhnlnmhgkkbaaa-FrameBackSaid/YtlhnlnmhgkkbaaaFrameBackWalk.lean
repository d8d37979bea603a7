/-
  The walk of FrameBack.
-/
import Derived.Test.YtlhnlnmhgkkbaaaFrameLives
import Derived.Test.YtlhnlnmhgkkbaaaFrameBack
namespace Go.Proofs.Ytlhnlnmhgkkbaaa
open Go Go.RowKit Mono Num Crc
set_option linter.unusedSimpArgs false
set_option linter.unusedVariables false

set_option maxHeartbeats 2000000 in
theorem frameBack_walk (v : Value) (l : List UInt8) (u : Value) (t : List UInt8) (w : World) (hv : Bs w v l) (hz1 : l.length * 1 ≤ 140737488351232) (ht : Bs w u t) (hz2 : t.length * 1 ≤ 140737488351232) :
    Calls Try.prog 5 #[v, u] w fun e w' => e = .returned (.bool true) ∧ Ext w w' := by
  obtain ⟨A, c, rfl, h1, h2, _, _⟩ := hv.open_
  unfold maxLen at h2
  obtain ⟨B, d, rfl, k1, k2, _, _⟩ := ht.open_
  unfold maxLen at k2
  clear k1
  by_cases hl : 20000 < l.length + t.length
  · go_enter Try.func5, Try.ntmps5
    go_wp2_with fail
    refine (lives_any _).mono ?_
    rintro e w' ⟨rfl, he⟩
    go_wp2_with fail
    go_ret
    exact ⟨rfl, he⟩
  · go_enter Try.func5, Try.ntmps5
    go_wp2_with fail
    refine (fWrap_any _ l _ hv).mono ?_
    rintro e w1 ⟨r1, rfl, k1, x1⟩
    have hf1 := frame_len l (by omega)
    have HB := Lib.hid (fopen_wrap l t (by omega))
    obtain ⟨g, cap, rfl, hgb1, hgb2, hg3, hg4⟩ := OwB.form_ k1 rfl (by omega)
    replace k1 := k1.bs
    have hlw : (wrap l).length ≤ l.length + 14 := by omega
    have HL := Lib.hid hf1
    have hgt : l.length + 5 < (wrap l).length := by omega
    have hgt' : (l.length : Int) + 5 < ((wrap l).length : Int) := by omega
    clear hf1
    go_wp2_with (first | (at_builtin; refine wpList_append_bs _ rfl (.tmp 19) (.tmp 20) rfl (OwB.empty_ w1 (Nat.le_refl _)) (k1.ext (ext_alloc _ _)) rfl rfl (by simp; omega) (by simp) ?_; intro v1 w2 hown1 hg1 hat1; have hb1 : Ext w1 w2 := Below.growB (ext_alloc _ _) (OwB.empty_ w1 (Nat.le_refl _)) hg1 (Nat.le_refl _) (by simp); rw [List.nil_append] at hown1) | (at_builtin; refine wpList_append_bs _ rfl (.tmp 21) (.tmp 22) rfl hown1 (ht.ext (Ext.trans x1 hb1)) rfl rfl (by omega) hb1.size ?_; intro v2 w3 hown2 hg2 hat2; have hb2 : Ext w1 w3 := Below.growB hb1 hown1 hg2 (Nat.le_refl _) hb1.size))
    have hx := Ext.trans x1 hb2
    have hO := fOpen_any v2 (wrap l ++ t) w3 hown2.bs (by rw [List.length_append]; omega)
    rw [HB.out] at hO
    unfold openV at hO
    dsimp only at hO
    have HO := Lib.hid hO
    clear hO hown1 hown2 hg1 hat1 hg2 hat2 hb1 hb2
    refine HO.out.mono ?_
    rintro e w4 ⟨r4, rfl, k4, x4⟩
    have hx4 := Ext.trans hx x4
    have c1 := k4.bs.str_ (P := Try.prog) 22 9 5 Try.underlying22 Try.underlying5 Try.underlying9
    have c2 := (hv.ext hx4).str_ (P := Try.prog) 22 9 5 Try.underlying22 Try.underlying5 Try.underlying9
    unfold strV at c1 c2
    clear k4
    go_wp2_with fail
    refine (lives_any _).mono ?_
    rintro e w6 ⟨rfl, x5⟩
    go_wp2_with fail
    go_ret
    exact ⟨rfl, Ext.trans hx4 x5⟩
end Go.Proofs.Ytlhnlnmhgkkbaaa
