/-
  The walks of layer 6: what vec's functions and the document's own compute.
-/
import Derived.Test.YtjajlbfokbmadaaDoorVecEach
namespace Go.Proofs.YtjajlbfokbmadaaDoor
open Go.RowKit Mono
set_option linter.unusedSimpArgs false
set_option linter.unusedVariables false
/-- '==' of two counts. -/
@[go_sem] theorem eqVec (a b c d : Int) (w : World) : (Op.equalIn 10000 29 (.agg #[.int .i64 a, .int .i64 b]) (.agg #[.int .i64 c, .int .i64 d])).run Tryd.prog w = .ok (a == c && b == d) w := by
  have u3 := Tryd.underlying3
  have a3 := Tryd.isAgg3
  have z3 := Tryd.sizeOf3
  rw [show (10000 : Nat) = 9999 + 1 from rfl, Op.equalIn]
  simp only [Sem.run_bind, run_underlying Tryd.underlying29, Result.andThen_ok]
  simp only [Std.Legacy.Range.forIn_eq_forIn_range', Std.Legacy.Range.size, Nat.sub_zero, Nat.add_sub_cancel, Nat.div_one, List.range'_succ, List.range'_zero, List.forIn_cons, List.forIn_nil]
  go_simp
  by_cases h1 : a = c <;> by_cases h2 : b = d <;> simp [h1, h2]

theorem vecClamp_any (x y : Int) (w : World) : Calls Tryd.prog 76 #[.int .i64 x, .int .i64 y] w fun e w' => e = .returned (.int .i64 (min (max x 0) 1099511627776)) ∧ w = w' := by
  go_enter Tryd.func76, Tryd.ntmps76
  go_wp2_with fail
  all_goals go_ret
  all_goals exact ⟨by simp; omega, rfl⟩

def vgood (a b : Int) : Bool := decide (0 ≤ a) && decide (a ≤ 1099511627776) && decide (0 ≤ b) && decide (b ≤ 1099511627776)
theorem vgood_eql (a b : Int) : vgood a b = ((min (max a 0) 1099511627776 == a) && (min (max b 0) 1099511627776 == b)) := by
  unfold vgood
  by_cases h1 : 0 ≤ a <;> by_cases h2 : a ≤ 1099511627776 <;> by_cases h3 : 0 ≤ b <;> by_cases h4 : b ≤ 1099511627776 <;> simp [h1, h2, h3, h4] <;> omega

theorem vecGood_any (a b : Int) (w : World) : Calls Tryd.prog 40 #[vecV a b] w fun e w' => e = .returned (.bool (vgood a b)) ∧ Ext w w' := by
  unfold vecV
  go_enter Tryd.func40, Tryd.ntmps40
  go_wp2_with fail
  have ba := Blk.new w #[.int .i64 a, .int .i64 b] 29
  have hx : Ext w (w.alloc (.cells #[.int .i64 a, .int .i64 b] 29)) := ext_alloc _ _
  obtain ⟨n, hn⟩ : ∃ n, n = w.heap.size := ⟨_, rfl⟩
  rw [← hn] at ba ⊢
  generalize w.alloc (.cells #[.int .i64 a, .int .i64 b] 29) = W at *
  refine wp_region_mono (by kernel_rfl) (by kernel_rfl) ?_
  refine tele_val rfl (vecV a b) (fun _ _ _ => rfl) ?_ ?_
  · rintro ρ w' he ⟨h1, -⟩
    have e1 : ρ 1 = (.pointer (some ⟨n, 0, none⟩)) := h1
    unfold vecV
    have c0 := (ba.ext he).cell (i := 0) rfl
    have c1 := (ba.ext he).cell (i := 1) rfl
    simp [execOp, evR, e1, c0, c1, go_sem]
  refine tele_val rfl (vecV 0 0) (fun _ _ _ => rfl) ?_ ?_
  · rintro ρ w' he -
    simp [execOp, evR, vecV, go_sem]
  refine tele_call rfl rfl Tryd.func75 (by kernel_rfl) (isV (vecV (min (max a 0) 1099511627776) (min (max b 0) 1099511627776))) (fun _ _ _ => rfl) ?_ ?_
  · rintro ρ w' he ⟨h3, h4, -⟩
    have e3 : ρ 3 = (vecV a b) := h3
    have e4 : ρ 4 = (vecV 0 0) := h4
    simp only [evR, List.map_toArray, List.map_cons, List.map_nil, e3, e4]
    refine (each_any _ _ Tryd.func76 (by kernel_rfl) _ a b 0 0 vecClamp_any _).mono ?_
    rintro e w'' ⟨rfl, he⟩
    exact ⟨_, rfl, he, rfl⟩
  refine tele_val rfl (vecV a b) (fun _ _ _ => rfl) ?_ ?_
  · rintro ρ w' he ⟨h1, -⟩
    have e1 : ρ 1 = (.pointer (some ⟨n, 0, none⟩)) := h1
    unfold vecV
    have c0 := (ba.ext he).cell (i := 0) rfl
    have c1 := (ba.ext he).cell (i := 1) rfl
    simp [execOp, evR, e1, c0, c1, go_sem]
  refine tele_val rfl (.bool (vgood a b)) (fun _ _ _ => rfl) ?_ ?_
  · rintro ρ w' he ⟨h5, h6, -⟩
    have e5 : ρ 5 = (vecV (min (max a 0) 1099511627776) (min (max b 0) 1099511627776)) := h5
    have e6 : ρ 6 = (vecV a b) := h6
    rw [vgood_eql]
    simp [execOp, evR, e5, e6, vecV, go_sem]
  refine tele_move rfl (.inr rfl) rfl (isV (.bool (vgood a b))) (fun ρ w' h => h) ?_
  refine tele_nil ?_
  rintro ρ w' hext ⟨f2, f7, f6, f5, f4, f3, -⟩
  replace f3 : ρ 3 = (vecV a b) := f3
  replace f4 : ρ 4 = (vecV 0 0) := f4
  replace f5 : ρ 5 = (vecV (min (max a 0) 1099511627776) (min (max b 0) 1099511627776)) := f5
  replace f6 : ρ 6 = (vecV a b) := f6
  replace f7 : ρ 7 = (.bool (vgood a b)) := f7
  replace f2 : ρ 2 = (.bool (vgood a b)) := f2
  simp only [puts, Act.put, List.setIfInBounds_toArray, List.set_cons_zero, List.set_cons_succ]
  rw [f2]
  go_wp2_with fail
  go_ret
  exact ⟨rfl, Ext.trans hx hext⟩

/-- Do the first cover the others? -/
theorem refVGood_any (a b : Int) (w : World) : Calls Tryd.prog 52 #[vecV a b] w fun e w' => e = .returned (.bool (vgood a b)) ∧ Ext w w' := by
  cases h1 : decide (0 ≤ a) <;> cases h2 : decide (a ≤ 1099511627776) <;> cases h3 : decide (0 ≤ b) <;> cases h4 : decide (b ≤ 1099511627776)
  all_goals
    unfold vecV
    go_enter Tryd.func52, Tryd.ntmps52
    go_wp2_with fail
    go_ret
    exact ⟨by unfold vgood; rw [h1, h2, h3, h4]; rfl, ext_alloc _ _⟩
theorem vgood_bounds {a b : Int} (h : vgood a b = true) : 0 ≤ a ∧ a ≤ 1099511627776 ∧ 0 ≤ b ∧ b ≤ 1099511627776 := by
  unfold vgood at h
  simp only [Bool.and_eq_true, decide_eq_true_eq] at h
  omega
end Go.Proofs.YtjajlbfokbmadaaDoor
