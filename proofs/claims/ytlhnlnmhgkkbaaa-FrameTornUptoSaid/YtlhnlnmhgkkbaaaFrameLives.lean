/-
  The chapter's example of layer 3.
-/
import Derived.Test.YtlhnlnmhgkkbaaaFrameNext
import Derived.Test.YtlhnlnmhgkkbaaaFrameWrap
namespace Go.Proofs.Ytlhnlnmhgkkbaaa
open Go Go.RowKit Mono Num Crc
set_option linter.unusedVariables false
set_option linter.unusedSimpArgs false

theorem wrap_nil : (wrap []).length = 6 ∧ (wrap []).getD 0 0 = 181 := by decide +kernel
theorem frows_nil : frows (wrap [] ++ [181]) = ([[]], 6, 10) := by decide +kernel

set_option maxHeartbeats 1600000 in
theorem lives_any (w : World) : Calls Try.prog 9 #[] w fun e w' => e = .returned (.bool true) ∧ Ext w w' := by
  have HW := Lib.hid (fWrap_any (.slice none 0 0) [] w (Bs.nil_ _))
  obtain ⟨q1, q2⟩ := wrap_nil
  have HQ := Lib.hid frows_nil
  have hlen : (wrap [] ++ [181]).length = 7 := by rw [List.length_append, q1]; rfl
  generalize wrap [] = l at *
  have H1 := Lib.hid q1
  have H2 := Lib.hid q2
  have HL := Lib.hid hlen
  clear hlen
  clear q1 q2
  go_enter Try.func9, Try.ntmps9
  go_wp2_with fail
  refine HW.out.mono ?_
  rintro e w1 ⟨r, rfl, hr, he⟩
  obtain ⟨g, cap, rfl, hgb1, hgb2, hg3, hg4⟩ := OwB.form_ hr H1.out (by omega)
  have hc0 : w1.cell? ⟨g, 0, none⟩ = some (.int .u8 181) := by have := (hr.cell 0 (by have := H1.out; omega)).1; rw [H2.out] at this; exact this
  have hrb := hr.bs
  have hzs := he.size
  clear hr
  go_wp2_with (first | (at_builtin; refine wpList_append_bs _ rfl (.tmp 7) (.tmp 8) rfl (OwB.empty_ w1 (Nat.le_refl _)) (hrb.ext (ext_alloc _ _)) rfl rfl (by have := H1.out; simp; omega) (by simp) ?_; intro v1 w2 hown1 hg1 hat1; have hb1 : Ext w1 w2 := Below.growB (ext_alloc _ _) (OwB.empty_ w1 (Nat.le_refl _)) hg1 (Nat.le_refl _) (by simp); rw [List.nil_append] at hown1) | (at_builtin; refine wpList_append_bs _ rfl (.tmp 9) (.tmp 10) rfl (OwB.ext hown1 (ext_alloc _ _)) (Bs.alloc_ (l := [181]) _ 5 _ rfl rfl (Nat.le_refl _) (show (1 : Nat) ≤ maxLen by decide)) rfl rfl (by have := H1.out; simp; omega) (by have := hb1.size; simp; omega) ?_; intro v2 w3 hown2 hg2 hat2; have hb2 : Ext w1 w3 := Below.growB (Ext.trans hb1 (ext_alloc _ _)) (OwB.ext hown1 (ext_alloc _ _)) hg2 (Nat.le_refl _) (by have := hb1.size; simp; omega)))
  have hx3 := Ext.trans he hb2
  have hc3 := (hb2.cell (p := ⟨g, 0, none⟩) hgb2).trans hc0
  have HB := Lib.hid (fRows_any v2 (l ++ [181]) w3 hown2.bs (by rw [HL.out]; decide))
  rw [HQ.out] at HB
  clear hown1 hown2 hg1 hat1 hg2 hat2 hb1 hc0 hrb
  refine HB.out.mono ?_
  rintro e w4 ⟨r, rfl, hr, he4⟩
  obtain ⟨A4, c4, rfl, k1, k2, _, _⟩ := hr.open_
  have hc4 := (he4.cell (p := ⟨g, 0, none⟩) (Nat.lt_of_lt_of_le hgb2 hb2.size)).trans hc3
  dsimp only [List.length_cons, List.length_nil, Nat.zero_add] at k1 ⊢
  go_wp2_with fail
  go_ret
  exact ⟨rfl, Ext.trans hx3 he4⟩
end Go.Proofs.Ytlhnlnmhgkkbaaa
