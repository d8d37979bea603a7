/-
  The chapter's example of layer 5.
-/
import Derived.Test.YtnjnbjcibdeihaaDoorStNextRef
namespace Go.Proofs.YtnjnbjcibdeihaaDoor
open Go Go.RowKit Mono
set_option linter.unusedVariables false
set_option linter.unusedSimpArgs false

theorem small6 (w : World) : Calls Tryd.prog 49 #[.int .i64 6] w fun e w' => e = .returned (.string ⟨#[54]⟩) ∧ w = w' := by
  go_enter Tryd.func49, Tryd.ntmps49
  go_wp2_with fail
  go_ret
  exact ⟨rfl, rfl⟩
theorem format6 (w : World) : Calls Tryd.prog 45 #[.int .i64 6, .int .i64 10] w fun e w' => e = .returned (.string ⟨#[54]⟩) ∧ w = w' := by
  go_enter Tryd.func45, Tryd.ntmps45
  go_wp2_with fail
  refine (small6 _).mono ?_
  rintro e w' ⟨rfl, rfl⟩
  go_wp2_with fail
  go_ret
  exact ⟨rfl, rfl⟩
theorem itoa6 (w : World) : Calls Tryd.prog 33 #[.int .i64 6] w fun e w' => e = .returned (.string ⟨#[54]⟩) ∧ w = w' := by
  have h : Calls Tryd.prog 39 #[.int .i64 6] w fun e w' => e = .returned (.string ⟨#[54]⟩) ∧ w = w' := by
    go_enter Tryd.func39, Tryd.ntmps39
    go_wp2_with fail
    refine (format6 _).mono ?_
    rintro e w' ⟨rfl, rfl⟩
    go_wp2_with fail
    go_ret
    exact ⟨rfl, rfl⟩
  have H := Lib.hid h
  clear h
  go_enter Tryd.func33, Tryd.ntmps33
  go_wp2_with fail
  refine H.out.mono ?_
  rintro e w' ⟨rfl, rfl⟩
  go_wp2_with fail
  go_ret
  exact ⟨rfl, rfl⟩
set_option maxHeartbeats 1000000 in
theorem text62_any (w : World) : Calls Tryd.prog 24 #[stV 6 2] w fun e w' => e = .returned (.string ⟨#[54, 98]⟩) ∧ Ext w w' := by
  unfold stV
  have HG := Lib.hid (fun w => stGood_any 6 2 w)
  rw [show sgood 6 2 = true by decide] at HG
  unfold stV at HG
  go_enter Tryd.func24, Tryd.ntmps24
  go_wp2_with fail
  have ba := Blk.new w #[.int .i64 6, .int .i64 2] 23
  have hx : Ext w (w.alloc (.cells #[.int .i64 6, .int .i64 2] 23)) := ext_alloc _ _
  obtain ⟨n, hnn⟩ : ∃ n, n = w.heap.size := ⟨_, rfl⟩
  rw [← hnn] at ba ⊢
  clear hnn
  refine (HG.out _).mono ?_
  rintro e w1 ⟨rfl, x1⟩
  replace ba := ba.ext x1
  replace hx := Ext.trans hx x1
  clear x1
  go_wp2_with fail
  refine wp_region_mono (by kernel_rfl) (by kernel_rfl) ?_
  refine tele_val rfl (.pointer (some ⟨n, 0, none⟩)) (fun _ _ _ => rfl) ?_ ?_
  · rintro ρ w' he ⟨h1, -⟩
    have e1 : ρ 1 = (.pointer (some ⟨n, 0, none⟩)) := h1
    simp [execOp, evR, e1, go_sem]
  refine tele_val rfl (.int .i64 6) (fun _ _ _ => rfl) ?_ ?_
  · rintro ρ w' he ⟨h11, -⟩
    have e11 : ρ 11 = (.pointer (some ⟨n, 0, none⟩)) := h11
    have c := (ba.ext he).cell (i := 0) rfl
    simp [execOp, evR, e11, c, go_sem]
  refine tele_call rfl rfl Tryd.func33 (by kernel_rfl) (isV (.string ⟨#[54]⟩)) (fun _ _ _ => rfl) ?_ ?_
  · rintro ρ w' he ⟨h12, -⟩
    have e12 : ρ 12 = (.int .i64 6) := h12
    simp only [evR, List.map_toArray, List.map_cons, List.map_nil, e12]
    refine (itoa6 _).mono ?_
    rintro e w'' ⟨rfl, rfl⟩
    exact ⟨_, rfl, Ext.refl _, rfl⟩
  refine tele_val rfl (.pointer (some ⟨n, 1, none⟩)) (fun _ _ _ => rfl) ?_ ?_
  · rintro ρ w' he ⟨h1, -⟩
    have e1 : ρ 1 = (.pointer (some ⟨n, 0, none⟩)) := h1
    simp [execOp, evR, e1, go_sem]
  refine tele_val rfl (.int .i64 2) (fun _ _ _ => rfl) ?_ ?_
  · rintro ρ w' he ⟨h14, -⟩
    have e14 : ρ 14 = (.pointer (some ⟨n, 1, none⟩)) := h14
    have c := (ba.ext he).cell (i := 1) rfl
    simp [execOp, evR, e14, c, go_sem]
  refine tele_val rfl (.int .i64 1) (fun _ _ _ => rfl) ?_ ?_
  · rintro ρ w' he ⟨h15, -⟩
    have e15 : ρ 15 = (.int .i64 2) := h15
    simp [execOp, evR, e15, go_sem]
    rfl
  refine tele_val rfl (.pointer (some ⟨n, 1, none⟩)) (fun _ _ _ => rfl) ?_ ?_
  · rintro ρ w' he ⟨h1, -⟩
    have e1 : ρ 1 = (.pointer (some ⟨n, 0, none⟩)) := h1
    simp [execOp, evR, e1, go_sem]
  refine tele_val rfl (.int .i64 2) (fun _ _ _ => rfl) ?_ ?_
  · rintro ρ w' he ⟨h17, -⟩
    have e17 : ρ 17 = (.pointer (some ⟨n, 1, none⟩)) := h17
    have c := (ba.ext he).cell (i := 1) rfl
    simp [execOp, evR, e17, c, go_sem]
  refine tele_val rfl (.string ⟨#[98]⟩) (fun _ _ _ => rfl) ?_ ?_
  · rintro ρ w' he ⟨h16, h18, -⟩
    have e16 : ρ 16 = (.int .i64 1) := h16
    have e18 : ρ 18 = (.int .i64 2) := h18
    simp [execOp, evR, e16, e18, run_sliceAt_string (h := Tryd.underlying9), go_sem]
    rfl
  refine tele_val rfl (.string ⟨#[54, 98]⟩) (fun _ _ _ => rfl) ?_ ?_
  · rintro ρ w' he ⟨h13, h19, -⟩
    have e13 : ρ 13 = (.string ⟨#[54]⟩) := h13
    have e19 : ρ 19 = (.string ⟨#[98]⟩) := h19
    simp [execOp, evR, e13, e19, go_sem]
    rfl
  refine tele_move rfl (.inr rfl) rfl (isV (.string ⟨#[54, 98]⟩)) (fun ρ w' h => h) ?_
  refine tele_nil ?_
  rintro ρ w' hext ⟨f2, f20, f19, f18, f17, f16, f15, f14, f13, f12, f11, -⟩
  replace f11 : ρ 11 = (.pointer (some ⟨n, 0, none⟩)) := f11
  replace f12 : ρ 12 = (.int .i64 6) := f12
  replace f13 : ρ 13 = (.string ⟨#[54]⟩) := f13
  replace f14 : ρ 14 = (.pointer (some ⟨n, 1, none⟩)) := f14
  replace f15 : ρ 15 = (.int .i64 2) := f15
  replace f16 : ρ 16 = (.int .i64 1) := f16
  replace f17 : ρ 17 = (.pointer (some ⟨n, 1, none⟩)) := f17
  replace f18 : ρ 18 = (.int .i64 2) := f18
  replace f19 : ρ 19 = (.string ⟨#[98]⟩) := f19
  replace f20 : ρ 20 = (.string ⟨#[54, 98]⟩) := f20
  replace f2 : ρ 2 = (.string ⟨#[54, 98]⟩) := f2
  simp only [puts, Act.put, List.setIfInBounds_toArray, List.set_cons_zero, List.set_cons_succ]
  go_wp2_with fail
  go_ret
  exact ⟨congrArg Ending.returned f2, Ext.trans hx hext⟩
set_option maxHeartbeats 1000000 in
theorem lives_any (w : World) : Calls Tryd.prog 11 #[] w fun e w' => e = .returned (.bool true) ∧ Ext w w' := by
  have HN := Lib.hid (fun w => stNext_any 5 1 3 2 w)
  rw [show snext 5 1 3 2 = ((6, 2), 0) by decide] at HN
  have HT := Lib.hid (fun w => text62_any w)
  unfold snextV stV at HN
  unfold stV at HT
  dsimp only at HN
  go_enter Tryd.func11, Tryd.ntmps11
  go_wp2_with fail
  refine (HN.out _).mono ?_
  rintro e w1 ⟨rfl, x1⟩
  go_wp2_with fail
  refine (HT.out _).mono ?_
  rintro e w2 ⟨rfl, x2⟩
  go_wp2_with fail
  go_ret
  exact ⟨rfl, Ext.trans x1 (Ext.trans (ext_alloc _ _) x2)⟩
end Go.Proofs.YtnjnbjcibdeihaaDoor
