/-
  Layer 6: Meet and Covers of counts.
-/
import Derived.Test.YtocdifjdeifclaaVecEach
namespace Go.Proofs.Ytocdifjdeifclaa
open Go.RowKit Mono
set_option linter.unusedVariables false
set_option linter.unusedSimpArgs false
set_option maxRecDepth 10000

theorem vecMin_any (x y : Int) (w : World) : Calls Try.prog 87 #[.int .i64 x, .int .i64 y] w fun e w' => e = .returned (.int .i64 (min x y)) ∧ w = w' := by
  go_enter Try.func87, Try.ntmps87
  go_wp2_with fail
  all_goals go_ret
  all_goals exact ⟨by simp; omega, rfl⟩

theorem vecMeet_any (a b c d : Int) (w : World) : Calls Try.prog 72 #[vecV a b, vecV c d] w fun e w' => e = .returned (vecV (min a c) (min b d)) ∧ Ext w w' := by
  unfold vecV
  go_enter Try.func72, Try.ntmps72
  go_wp2_with fail
  have ba := ((Blk.new (w) #[.int .i64 a, .int .i64 b] 26).ext (ext_alloc _ (.cells #[.int .i64 c, .int .i64 d] 26))).ext (ext_alloc _ (.cells #[.int .i64 0, .int .i64 0] 26))
  have bb := (Blk.new (((w).alloc (.cells #[.int .i64 a, .int .i64 b] 26))) #[.int .i64 c, .int .i64 d] 26).ext (ext_alloc _ (.cells #[.int .i64 0, .int .i64 0] 26))
  have bo := Blk.new (((((w).alloc (.cells #[.int .i64 a, .int .i64 b] 26))).alloc (.cells #[.int .i64 c, .int .i64 d] 26))) #[.int .i64 0, .int .i64 0] 26
  have hx : Ext w (((((((w).alloc (.cells #[.int .i64 a, .int .i64 b] 26))).alloc (.cells #[.int .i64 c, .int .i64 d] 26))).alloc (.cells #[.int .i64 0, .int .i64 0] 26))) := Ext.trans (Ext.trans (ext_alloc _ _) (ext_alloc _ _)) (ext_alloc _ _)
  simp only [World.size_alloc] at bb bo
  obtain ⟨n, hnn⟩ : ∃ n, n = w.heap.size := ⟨_, rfl⟩
  rw [← hnn] at ba bb bo ⊢
  have HN := Lib.hid hnn
  clear hnn
  generalize ((((((w).alloc (.cells #[.int .i64 a, .int .i64 b] 26))).alloc (.cells #[.int .i64 c, .int .i64 d] 26))).alloc (.cells #[.int .i64 0, .int .i64 0] 26)) = W at *
  have bac0 := ba.cell (i := 0) rfl
  have baz0 := ba.thaw 0
  have bac1 := ba.cell (i := 1) rfl
  have baz1 := ba.thaw 1
  have bbc0 := bb.cell (i := 0) rfl
  have bbz0 := bb.thaw 0
  have bbc1 := bb.cell (i := 1) rfl
  have bbz1 := bb.thaw 1
  refine (each_any _ _ Try.func87 (by kernel_rfl) _ a b c d vecMin_any _).mono ?_
  rintro e w' ⟨rfl, he⟩
  replace bo := bo.ext he
  replace hx := Ext.trans hx he
  have boc0 := bo.cell (i := 0) rfl
  have boz0 := bo.thaw 0
  have boc1 := bo.cell (i := 1) rfl
  have boz1 := bo.thaw 1
  unfold vecV
  go_wp2_with fail
  have bo2 := (bo.set 0 (.int .i64 (min a c))).set 1 (.int .i64 (min b d))
  have d0 := bo2.cell (i := 0) rfl
  have d1 := bo2.cell (i := 1) rfl
  exact bodyPost_ret (v := .agg #[.int .i64 (min a c), .int .i64 (min b d)]) (by simp [results, Try.results72, d0, d1, go_sem]) rfl ⟨rfl, (hx.setCell (by have := HN.out; simp; omega) _).setCell (by have := HN.out; simp; omega) _⟩

/-- Do the first cover the others? -/
def vcovers (a b c d : Int) : Bool := decide (c ≤ a) && decide (d ≤ b)
theorem vcovers_eql (a b c d : Int) : vcovers a b c d = ((min a c == c) && (min b d == d)) := by
  unfold vcovers
  by_cases h1 : c ≤ a <;> by_cases h2 : d ≤ b <;> simp [h1, h2] <;> omega
theorem vecCovers_any (a b c d : Int) (w : World) : Calls Try.prog 47 #[vecV a b, vecV c d] w fun e w' => e = .returned (.bool (vcovers a b c d)) ∧ Ext w w' := by
  unfold vecV
  go_enter Try.func47, Try.ntmps47
  go_wp2_with fail
  have ba := (Blk.new (w) #[.int .i64 a, .int .i64 b] 26).ext (ext_alloc _ (.cells #[.int .i64 c, .int .i64 d] 26))
  have bb := Blk.new (((w).alloc (.cells #[.int .i64 a, .int .i64 b] 26))) #[.int .i64 c, .int .i64 d] 26
  have hx : Ext w (((((w).alloc (.cells #[.int .i64 a, .int .i64 b] 26))).alloc (.cells #[.int .i64 c, .int .i64 d] 26))) := Ext.trans (ext_alloc _ _) (ext_alloc _ _)
  simp only [World.size_alloc] at bb
  obtain ⟨n, hnn⟩ : ∃ n, n = w.heap.size := ⟨_, rfl⟩
  rw [← hnn] at ba bb ⊢
  have HN := Lib.hid hnn
  clear hnn
  generalize ((((w).alloc (.cells #[.int .i64 a, .int .i64 b] 26))).alloc (.cells #[.int .i64 c, .int .i64 d] 26)) = W at *
  refine wp_region_mono (by kernel_rfl) (by kernel_rfl) ?_
  refine tele_val rfl (vecV a b) (fun _ _ _ => rfl) ?_ ?_
  · rintro ρ w' he ⟨h2, -⟩
    have e2 : ρ 2 = (.pointer (some ⟨n, 0, none⟩)) := h2
    unfold vecV
    have c0 := (ba.ext he).cell (i := 0) rfl
    have c1 := (ba.ext he).cell (i := 1) rfl
    simp [execOp, evR, e2, c0, c1, go_sem]
  refine tele_val rfl (vecV c d) (fun _ _ _ => rfl) ?_ ?_
  · rintro ρ w' he ⟨h3, -⟩
    have e3 : ρ 3 = (.pointer (some ⟨n + 1, 0, none⟩)) := h3
    unfold vecV
    have c0 := (bb.ext he).cell (i := 0) rfl
    have c1 := (bb.ext he).cell (i := 1) rfl
    simp [execOp, evR, e3, c0, c1, go_sem]
  refine tele_call rfl rfl Try.func72 (by kernel_rfl) (isV (vecV (min a c) (min b d))) (fun _ _ _ => rfl) ?_ ?_
  · rintro ρ w' he ⟨h5, h6, -⟩
    have e5 : ρ 5 = (vecV a b) := h5
    have e6 : ρ 6 = (vecV c d) := h6
    simp only [evR, List.map_toArray, List.map_cons, List.map_nil, e5, e6]
    refine (vecMeet_any a b c d _).mono ?_
    rintro e w'' ⟨rfl, he⟩
    exact ⟨_, rfl, he, rfl⟩
  refine tele_val rfl (vecV c d) (fun _ _ _ => rfl) ?_ ?_
  · rintro ρ w' he ⟨h3, -⟩
    have e3 : ρ 3 = (.pointer (some ⟨n + 1, 0, none⟩)) := h3
    unfold vecV
    have c0 := (bb.ext he).cell (i := 0) rfl
    have c1 := (bb.ext he).cell (i := 1) rfl
    simp [execOp, evR, e3, c0, c1, go_sem]
  refine tele_val rfl (.bool (vcovers a b c d)) (fun _ _ _ => rfl) ?_ ?_
  · rintro ρ w' he ⟨h7, h8, -⟩
    have e7 : ρ 7 = (vecV (min a c) (min b d)) := h7
    have e8 : ρ 8 = (vecV c d) := h8
    rw [vcovers_eql]
    simp [execOp, evR, e7, e8, vecV, go_sem]
  refine tele_move rfl (.inr rfl) rfl (isV (.bool (vcovers a b c d))) (fun ρ w' h => h) ?_
  refine tele_nil ?_
  rintro ρ w' hext ⟨f4, f9, f8, f7, f6, f5, -⟩
  replace f5 : ρ 5 = (vecV a b) := f5
  replace f6 : ρ 6 = (vecV c d) := f6
  replace f7 : ρ 7 = (vecV (min a c) (min b d)) := f7
  replace f8 : ρ 8 = (vecV c d) := f8
  replace f9 : ρ 9 = (.bool (vcovers a b c d)) := f9
  replace f4 : ρ 4 = (.bool (vcovers a b c d)) := f4
  simp only [puts, Act.put, List.setIfInBounds_toArray, List.set_cons_zero, List.set_cons_succ]
  rw [f4]
  go_wp2_with fail
  go_ret
  exact ⟨rfl, Ext.trans hx hext⟩

end Go.Proofs.Ytocdifjdeifclaa
