/-
  The walks of layer 6: what vec's functions and the document's own compute.
-/
import Derived.Test.YtfhahkklkkdkoaaVecEach
namespace Go.Proofs.Ytfhahkklkkdkoaa
open Go.RowKit Mono
set_option linter.unusedSimpArgs false
set_option linter.unusedVariables false
/-- '==' of two counts. -/
@[go_sem] theorem eqVec (a b c d : Int) (w : World) : (Op.equalIn 10000 25 (.agg #[.int .i64 a, .int .i64 b]) (.agg #[.int .i64 c, .int .i64 d])).run Try.prog w = .ok (a == c && b == d) w := by
  have u3 := Try.underlying3
  have a3 := Try.isAgg3
  have z3 := Try.sizeOf3
  rw [show (10000 : Nat) = 9999 + 1 from rfl, Op.equalIn]
  simp only [Sem.run_bind, run_underlying Try.underlying25, Result.andThen_ok]
  simp only [Std.Legacy.Range.forIn_eq_forIn_range', Std.Legacy.Range.size, Nat.sub_zero, Nat.add_sub_cancel, Nat.div_one, List.range'_succ, List.range'_zero, List.forIn_cons, List.forIn_nil]
  go_simp
  by_cases h1 : a = c <;> by_cases h2 : b = d <;> simp [h1, h2]

theorem vecMax_any (x y : Int) (w : World) : Calls Try.prog 29 #[.int .i64 x, .int .i64 y] w fun e w' => e = .returned (.int .i64 (max x y)) ∧ w = w' := by
  go_enter Try.func29, Try.ntmps29
  go_wp2_with fail
  all_goals go_ret
  all_goals exact ⟨by simp; omega, rfl⟩
theorem vecMin_any (x y : Int) (w : World) : Calls Try.prog 31 #[.int .i64 x, .int .i64 y] w fun e w' => e = .returned (.int .i64 (min x y)) ∧ w = w' := by
  go_enter Try.func31, Try.ntmps31
  go_wp2_with fail
  all_goals go_ret
  all_goals exact ⟨by simp; omega, rfl⟩
theorem vecClamp_any (x y : Int) (w : World) : Calls Try.prog 30 #[.int .i64 x, .int .i64 y] w fun e w' => e = .returned (.int .i64 (min (max x 0) 1099511627776)) ∧ w = w' := by
  go_enter Try.func30, Try.ntmps30
  go_wp2_with fail
  all_goals go_ret
  all_goals exact ⟨by simp; omega, rfl⟩

def vgood (a b : Int) : Bool := decide (0 ≤ a) && decide (a ≤ 1099511627776) && decide (0 ≤ b) && decide (b ≤ 1099511627776)
theorem vgood_eql (a b : Int) : vgood a b = ((min (max a 0) 1099511627776 == a) && (min (max b 0) 1099511627776 == b)) := by
  unfold vgood
  by_cases h1 : 0 ≤ a <;> by_cases h2 : a ≤ 1099511627776 <;> by_cases h3 : 0 ≤ b <;> by_cases h4 : b ≤ 1099511627776 <;> simp [h1, h2, h3, h4] <;> omega

theorem vecGood_any (a b : Int) (w : World) : Calls Try.prog 12 #[vecV a b] w fun e w' => e = .returned (.bool (vgood a b)) ∧ Ext w w' := by
  unfold vecV
  go_enter Try.func12, Try.ntmps12
  go_wp2_with fail
  have ba := Blk.new w #[.int .i64 a, .int .i64 b] 25
  have hx : Ext w (w.alloc (.cells #[.int .i64 a, .int .i64 b] 25)) := ext_alloc _ _
  obtain ⟨n, hn⟩ : ∃ n, n = w.heap.size := ⟨_, rfl⟩
  rw [← hn] at ba ⊢
  generalize w.alloc (.cells #[.int .i64 a, .int .i64 b] 25) = W at *
  refine wp_region_mono (by kernel_rfl) (by kernel_rfl) ?_
  refine tele_val rfl (vecV a b) (fun _ _ _ => rfl) ?_ ?_
  · rintro ρ w' he ⟨h1, -⟩
    have e1 : ρ 1 = (.pointer (some ⟨n, 0, none⟩)) := h1
    unfold vecV
    have c0 := (ba.ext he).cell (i := 0) rfl
    have c1 := (ba.ext he).cell (i := 1) rfl
    simp [execOp, evR, e1, c0, c1, go_sem]
  refine tele_val rfl (vecV 0 0) (fun _ _ _ => rfl) ?_ ?_
  · rintro ρ w' he -
    simp [execOp, evR, vecV, go_sem]
  refine tele_call rfl rfl Try.func28 (by kernel_rfl) (isV (vecV (min (max a 0) 1099511627776) (min (max b 0) 1099511627776))) (fun _ _ _ => rfl) ?_ ?_
  · rintro ρ w' he ⟨h3, h4, -⟩
    have e3 : ρ 3 = (vecV a b) := h3
    have e4 : ρ 4 = (vecV 0 0) := h4
    simp only [evR, List.map_toArray, List.map_cons, List.map_nil, e3, e4]
    refine (each_any _ _ Try.func30 (by kernel_rfl) _ a b 0 0 vecClamp_any _).mono ?_
    rintro e w'' ⟨rfl, he⟩
    exact ⟨_, rfl, he, rfl⟩
  refine tele_val rfl (vecV a b) (fun _ _ _ => rfl) ?_ ?_
  · rintro ρ w' he ⟨h1, -⟩
    have e1 : ρ 1 = (.pointer (some ⟨n, 0, none⟩)) := h1
    unfold vecV
    have c0 := (ba.ext he).cell (i := 0) rfl
    have c1 := (ba.ext he).cell (i := 1) rfl
    simp [execOp, evR, e1, c0, c1, go_sem]
  refine tele_val rfl (.bool (vgood a b)) (fun _ _ _ => rfl) ?_ ?_
  · rintro ρ w' he ⟨h5, h6, -⟩
    have e5 : ρ 5 = (vecV (min (max a 0) 1099511627776) (min (max b 0) 1099511627776)) := h5
    have e6 : ρ 6 = (vecV a b) := h6
    rw [vgood_eql]
    simp [execOp, evR, e5, e6, vecV, go_sem]
  refine tele_move rfl (.inr rfl) rfl (isV (.bool (vgood a b))) (fun ρ w' h => h) ?_
  refine tele_nil ?_
  rintro ρ w' hext ⟨f2, f7, f6, f5, f4, f3, -⟩
  replace f3 : ρ 3 = (vecV a b) := f3
  replace f4 : ρ 4 = (vecV 0 0) := f4
  replace f5 : ρ 5 = (vecV (min (max a 0) 1099511627776) (min (max b 0) 1099511627776)) := f5
  replace f6 : ρ 6 = (vecV a b) := f6
  replace f7 : ρ 7 = (.bool (vgood a b)) := f7
  replace f2 : ρ 2 = (.bool (vgood a b)) := f2
  simp only [puts, Act.put, List.setIfInBounds_toArray, List.set_cons_zero, List.set_cons_succ]
  rw [f2]
  go_wp2_with fail
  go_ret
  exact ⟨rfl, Ext.trans hx hext⟩

theorem vecMeet_any (a b c d : Int) (w : World) : Calls Try.prog 18 #[vecV a b, vecV c d] w fun e w' => e = .returned (vecV (min a c) (min b d)) ∧ Ext w w' := by
  unfold vecV
  go_enter Try.func18, Try.ntmps18
  go_wp2_with fail
  have ba := ((Blk.new (w) #[.int .i64 a, .int .i64 b] 25).ext (ext_alloc _ (.cells #[.int .i64 c, .int .i64 d] 25))).ext (ext_alloc _ (.cells #[.int .i64 0, .int .i64 0] 25))
  have bb := (Blk.new (((w).alloc (.cells #[.int .i64 a, .int .i64 b] 25))) #[.int .i64 c, .int .i64 d] 25).ext (ext_alloc _ (.cells #[.int .i64 0, .int .i64 0] 25))
  have bo := Blk.new (((((w).alloc (.cells #[.int .i64 a, .int .i64 b] 25))).alloc (.cells #[.int .i64 c, .int .i64 d] 25))) #[.int .i64 0, .int .i64 0] 25
  have hx : Ext w (((((((w).alloc (.cells #[.int .i64 a, .int .i64 b] 25))).alloc (.cells #[.int .i64 c, .int .i64 d] 25))).alloc (.cells #[.int .i64 0, .int .i64 0] 25))) := Ext.trans (Ext.trans (ext_alloc _ _) (ext_alloc _ _)) (ext_alloc _ _)
  simp only [World.size_alloc] at bb bo
  obtain ⟨n, hnn⟩ : ∃ n, n = w.heap.size := ⟨_, rfl⟩
  rw [← hnn] at ba bb bo ⊢
  have HN := Lib.hid hnn
  clear hnn
  generalize ((((((w).alloc (.cells #[.int .i64 a, .int .i64 b] 25))).alloc (.cells #[.int .i64 c, .int .i64 d] 25))).alloc (.cells #[.int .i64 0, .int .i64 0] 25)) = W at *
  have bac0 := ba.cell (i := 0) rfl
  have baz0 := ba.thaw 0
  have bac1 := ba.cell (i := 1) rfl
  have baz1 := ba.thaw 1
  have bbc0 := bb.cell (i := 0) rfl
  have bbz0 := bb.thaw 0
  have bbc1 := bb.cell (i := 1) rfl
  have bbz1 := bb.thaw 1
  refine (each_any _ _ Try.func31 (by kernel_rfl) _ a b c d vecMin_any _).mono ?_
  rintro e w' ⟨rfl, he⟩
  replace bo := bo.ext he
  replace hx := Ext.trans hx he
  have boc0 := bo.cell (i := 0) rfl
  have boz0 := bo.thaw 0
  have boc1 := bo.cell (i := 1) rfl
  have boz1 := bo.thaw 1
  unfold vecV
  go_wp2_with fail
  have bo2 := (bo.set 0 (.int .i64 (min a c))).set 1 (.int .i64 (min b d))
  have d0 := bo2.cell (i := 0) rfl
  have d1 := bo2.cell (i := 1) rfl
  exact bodyPost_ret (v := .agg #[.int .i64 (min a c), .int .i64 (min b d)]) (by simp [results, Try.results18, d0, d1, go_sem]) rfl ⟨rfl, (hx.setCell (by have := HN.out; simp; omega) _).setCell (by have := HN.out; simp; omega) _⟩

/-- Do the first cover the others? -/
def vcovers (a b c d : Int) : Bool := decide (c ≤ a) && decide (d ≤ b)
theorem vcovers_eql (a b c d : Int) : vcovers a b c d = ((min a c == c) && (min b d == d)) := by
  unfold vcovers
  by_cases h1 : c ≤ a <;> by_cases h2 : d ≤ b <;> simp [h1, h2] <;> omega
theorem vecCovers_any (a b c d : Int) (w : World) : Calls Try.prog 14 #[vecV a b, vecV c d] w fun e w' => e = .returned (.bool (vcovers a b c d)) ∧ Ext w w' := by
  unfold vecV
  go_enter Try.func14, Try.ntmps14
  go_wp2_with fail
  have ba := (Blk.new (w) #[.int .i64 a, .int .i64 b] 25).ext (ext_alloc _ (.cells #[.int .i64 c, .int .i64 d] 25))
  have bb := Blk.new (((w).alloc (.cells #[.int .i64 a, .int .i64 b] 25))) #[.int .i64 c, .int .i64 d] 25
  have hx : Ext w (((((w).alloc (.cells #[.int .i64 a, .int .i64 b] 25))).alloc (.cells #[.int .i64 c, .int .i64 d] 25))) := Ext.trans (ext_alloc _ _) (ext_alloc _ _)
  simp only [World.size_alloc] at bb
  obtain ⟨n, hnn⟩ : ∃ n, n = w.heap.size := ⟨_, rfl⟩
  rw [← hnn] at ba bb ⊢
  have HN := Lib.hid hnn
  clear hnn
  generalize ((((w).alloc (.cells #[.int .i64 a, .int .i64 b] 25))).alloc (.cells #[.int .i64 c, .int .i64 d] 25)) = W at *
  refine wp_region_mono (by kernel_rfl) (by kernel_rfl) ?_
  refine tele_val rfl (vecV a b) (fun _ _ _ => rfl) ?_ ?_
  · rintro ρ w' he ⟨h2, -⟩
    have e2 : ρ 2 = (.pointer (some ⟨n, 0, none⟩)) := h2
    unfold vecV
    have c0 := (ba.ext he).cell (i := 0) rfl
    have c1 := (ba.ext he).cell (i := 1) rfl
    simp [execOp, evR, e2, c0, c1, go_sem]
  refine tele_val rfl (vecV c d) (fun _ _ _ => rfl) ?_ ?_
  · rintro ρ w' he ⟨h3, -⟩
    have e3 : ρ 3 = (.pointer (some ⟨n + 1, 0, none⟩)) := h3
    unfold vecV
    have c0 := (bb.ext he).cell (i := 0) rfl
    have c1 := (bb.ext he).cell (i := 1) rfl
    simp [execOp, evR, e3, c0, c1, go_sem]
  refine tele_call rfl rfl Try.func18 (by kernel_rfl) (isV (vecV (min a c) (min b d))) (fun _ _ _ => rfl) ?_ ?_
  · rintro ρ w' he ⟨h5, h6, -⟩
    have e5 : ρ 5 = (vecV a b) := h5
    have e6 : ρ 6 = (vecV c d) := h6
    simp only [evR, List.map_toArray, List.map_cons, List.map_nil, e5, e6]
    refine (vecMeet_any a b c d _).mono ?_
    rintro e w'' ⟨rfl, he⟩
    exact ⟨_, rfl, he, rfl⟩
  refine tele_val rfl (vecV c d) (fun _ _ _ => rfl) ?_ ?_
  · rintro ρ w' he ⟨h3, -⟩
    have e3 : ρ 3 = (.pointer (some ⟨n + 1, 0, none⟩)) := h3
    unfold vecV
    have c0 := (bb.ext he).cell (i := 0) rfl
    have c1 := (bb.ext he).cell (i := 1) rfl
    simp [execOp, evR, e3, c0, c1, go_sem]
  refine tele_val rfl (.bool (vcovers a b c d)) (fun _ _ _ => rfl) ?_ ?_
  · rintro ρ w' he ⟨h7, h8, -⟩
    have e7 : ρ 7 = (vecV (min a c) (min b d)) := h7
    have e8 : ρ 8 = (vecV c d) := h8
    rw [vcovers_eql]
    simp [execOp, evR, e7, e8, vecV, go_sem]
  refine tele_move rfl (.inr rfl) rfl (isV (.bool (vcovers a b c d))) (fun ρ w' h => h) ?_
  refine tele_nil ?_
  rintro ρ w' hext ⟨f4, f9, f8, f7, f6, f5, -⟩
  replace f5 : ρ 5 = (vecV a b) := f5
  replace f6 : ρ 6 = (vecV c d) := f6
  replace f7 : ρ 7 = (vecV (min a c) (min b d)) := f7
  replace f8 : ρ 8 = (vecV c d) := f8
  replace f9 : ρ 9 = (.bool (vcovers a b c d)) := f9
  replace f4 : ρ 4 = (.bool (vcovers a b c d)) := f4
  simp only [puts, Act.put, List.setIfInBounds_toArray, List.set_cons_zero, List.set_cons_succ]
  rw [f4]
  go_wp2_with fail
  go_ret
  exact ⟨rfl, Ext.trans hx hext⟩

def vcompare (a b c d : Int) : Int := if a = c ∧ b = d then 0 else if vcovers c d a b then 1 else if vcovers a b c d then 2 else 3
theorem vcompare_spell (a b c d : Int) : vcompare a b c d = (if (min a c == a && min b d == b) then (if (a == c && b == d) then 0 else 1) else if (min a c == c && min b d == d) then 2 else 3) := by
  unfold vcompare vcovers
  by_cases h1 : a = c <;> by_cases h2 : b = d <;> by_cases h3 : a ≤ c <;> by_cases h4 : b ≤ d <;> by_cases h5 : c ≤ a <;> by_cases h6 : d ≤ b <;> simp_all [Int.min_def]
  all_goals omega

theorem vecCompare_any (a b c d : Int) (w : World) : Calls Try.prog 16 #[vecV a b, vecV c d] w fun e w' => e = .returned (.int .i64 (vcompare a b c d)) ∧ Ext w w' := by
  unfold vecV
  go_enter Try.func16, Try.ntmps16
  go_wp2_with fail
  have ba := (Blk.new (w) #[.int .i64 a, .int .i64 b] 25).ext (ext_alloc _ (.cells #[.int .i64 c, .int .i64 d] 25))
  have bb := Blk.new (((w).alloc (.cells #[.int .i64 a, .int .i64 b] 25))) #[.int .i64 c, .int .i64 d] 25
  have hx : Ext w (((((w).alloc (.cells #[.int .i64 a, .int .i64 b] 25))).alloc (.cells #[.int .i64 c, .int .i64 d] 25))) := Ext.trans (ext_alloc _ _) (ext_alloc _ _)
  simp only [World.size_alloc] at bb
  obtain ⟨n, hnn⟩ : ∃ n, n = w.heap.size := ⟨_, rfl⟩
  rw [← hnn] at ba bb ⊢
  have HN := Lib.hid hnn
  clear hnn
  generalize ((((w).alloc (.cells #[.int .i64 a, .int .i64 b] 25))).alloc (.cells #[.int .i64 c, .int .i64 d] 25)) = W at *
  have bac0 := ba.cell (i := 0) rfl
  have baz0 := ba.thaw 0
  have bac1 := ba.cell (i := 1) rfl
  have baz1 := ba.thaw 1
  have bbc0 := bb.cell (i := 0) rfl
  have bbz0 := bb.thaw 0
  have bbc1 := bb.cell (i := 1) rfl
  have bbz1 := bb.thaw 1
  refine (vecMeet_any a b c d _).mono ?_
  rintro e w' ⟨rfl, he⟩
  replace ba := ba.ext he
  replace bb := bb.ext he
  replace hx := Ext.trans hx he
  clear bac0 bac1 bbc0 bbc1 baz0 baz1 bbz0 bbz1
  have bac0 := ba.cell (i := 0) rfl
  have baz0 := ba.thaw 0
  have bac1 := ba.cell (i := 1) rfl
  have baz1 := ba.thaw 1
  have bbc0 := bb.cell (i := 0) rfl
  have bbz0 := bb.thaw 0
  have bbc1 := bb.cell (i := 1) rfl
  have bbz1 := bb.thaw 1
  have hsp := Lib.hid (vcompare_spell a b c d)
  unfold vecV
  cases h1 : (min a c == a && min b d == b) <;> cases h2 : (a == c && b == d) <;> cases h3 : (min a c == c && min b d == d)
  all_goals
    have hs2 := hsp.out
    simp only [h1, h2, h3, if_true, Bool.false_eq_true, if_false] at hs2
    have hs3 := Lib.hid hs2
    clear hs2
    go_wp2_with fail
    go_ret
    exact ⟨by rw [hs3.out]; rfl, hx⟩

theorem refGood_any (a b : Int) (w : World) : Calls Try.prog 13 #[vecV a b] w fun e w' => e = .returned (.bool (vgood a b)) ∧ Ext w w' := by
  cases h1 : decide (0 ≤ a) <;> cases h2 : decide (a ≤ 1099511627776) <;> cases h3 : decide (0 ≤ b) <;> cases h4 : decide (b ≤ 1099511627776)
  all_goals
    unfold vecV
    go_enter Try.func13, Try.ntmps13
    go_wp2_with fail
    go_ret
    exact ⟨by unfold vgood; rw [h1, h2, h3, h4]; rfl, ext_alloc _ _⟩
theorem refCovers_any (a b c d : Int) (w : World) : Calls Try.prog 15 #[vecV a b, vecV c d] w fun e w' => e = .returned (.bool (vcovers a b c d)) ∧ Ext w w' := by
  cases h1 : decide (c ≤ a) <;> cases h2 : decide (d ≤ b)
  all_goals
    unfold vecV
    go_enter Try.func15, Try.ntmps15
    go_wp2_with fail
    go_ret
    exact ⟨by unfold vcovers; rw [h1, h2]; rfl, Ext.trans (ext_alloc _ _) (ext_alloc _ _)⟩
theorem refMeet_any (a b c d : Int) (w : World) : Calls Try.prog 19 #[vecV a b, vecV c d] w fun e w' => e = .returned (vecV (min a c) (min b d)) ∧ Ext w w' := by
  unfold vecV
  go_enter Try.func19, Try.ntmps19
  go_wp2_with fail
  all_goals first
    | rw [show min a c = a by omega, show min b d = b by omega]
    | rw [show min a c = a by omega, show min b d = d by omega]
    | rw [show min a c = c by omega, show min b d = b by omega]
    | rw [show min a c = c by omega, show min b d = d by omega]
  all_goals exact bodyPost_ret (v := .agg #[.int .i64 _, .int .i64 _]) (by simp [results, Try.results19, go_sem]) rfl ⟨rfl, Ext.trans (ext_alloc _ _) (Ext.trans (ext_alloc _ _) (ext_alloc _ _))⟩
theorem vcompare_ref (a b c d : Int) : vcompare a b c d = (if (vcovers a b c d && vcovers c d a b) = true then 0 else if vcovers c d a b = true then 1 else if vcovers a b c d = true then 2 else 3) := by
  unfold vcompare vcovers
  by_cases h1 : a = c <;> by_cases h2 : b = d <;> by_cases h3 : a ≤ c <;> by_cases h4 : b ≤ d <;> by_cases h5 : c ≤ a <;> by_cases h6 : d ≤ b <;> simp_all
  all_goals omega
end Go.Proofs.Ytfhahkklkkdkoaa
