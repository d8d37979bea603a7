/-
  The walk of vec.each: what a function makes of both counts of two.
-/
import Derived.Test.YtocdifjdeifclaaChecked
import Derived.Test.YtocdifjdeifclaaMonoLast
import Derived.Test.YtocdifjdeifclaaBlk
import Derived.Outline
namespace Go.Proofs.Ytocdifjdeifclaa
open Go.RowKit Mono
set_option linter.unusedVariables false
set_option linter.unusedSimpArgs false
def vecV (a b : Int) : Value := .agg #[.int .i64 a, .int .i64 b]

theorem each_any (f : FuncId) (fn : Func) (hf : Try.prog.funcs[f]? = some fn) (hn : ((fn.name == "runtime.NumGoroutine") || fn.body.isNone) = false) (g : Int → Int → Int) (a b c d : Int)
    (hc : ∀ x y w, Calls Try.prog f #[.int .i64 x, .int .i64 y] w fun e w' => e = .returned (.int .i64 (g x y)) ∧ w = w') (w : World) :
    Calls Try.prog 66 #[vecV a b, vecV c d, .func (.func f) #[] #[]] w fun e w' => e = .returned (vecV (g a c) (g b d)) ∧ Ext w w' := by
  unfold vecV
  go_enter Try.func66, Try.ntmps66
  go_wp2_with fail
  refine wp_loop_rounds 3 ?_; rw [rounds_succ]
  go_wp2_with fail
  have ba := ((Blk.new w #[.int .i64 a, .int .i64 b] 26).ext (ext_alloc _ (.cells #[.int .i64 c, .int .i64 d] 26))).ext (ext_alloc _ (.cells #[.int .i64 0, .int .i64 0] 26))
  have bb := (Blk.new (w.alloc (.cells #[.int .i64 a, .int .i64 b] 26)) #[.int .i64 c, .int .i64 d] 26).ext (ext_alloc _ (.cells #[.int .i64 0, .int .i64 0] 26))
  have bo := Blk.new ((w.alloc (.cells #[.int .i64 a, .int .i64 b] 26)).alloc (.cells #[.int .i64 c, .int .i64 d] 26)) #[.int .i64 0, .int .i64 0] 26
  have hx : Ext w (((w.alloc (.cells #[.int .i64 a, .int .i64 b] 26)).alloc (.cells #[.int .i64 c, .int .i64 d] 26)).alloc (.cells #[.int .i64 0, .int .i64 0] 26)) := (ext_alloc _ _).trans ((ext_alloc _ _).trans (ext_alloc _ _))
  generalize hW : ((w.alloc (Obj.cells #[Value.int IntKind.i64 a, Value.int IntKind.i64 b] 26)).alloc (Obj.cells #[Value.int IntKind.i64 c, Value.int IntKind.i64 d] 26)).alloc (Obj.cells #[Value.int IntKind.i64 0, Value.int IntKind.i64 0] 26) = W at *
  clear hW
  simp only [World.size_alloc] at bb bo
  obtain ⟨n, hnn⟩ : ∃ n, n = w.heap.size := ⟨_, rfl⟩
  rw [← hnn] at ba bb bo ⊢
  have HN := Lib.hid hnn
  clear hnn
  refine wp_region_last_lit (by kernel_rfl) rfl (by kernel_rfl) (by kernel_rfl) ?_
  refine tele_move rfl (.inl rfl) rfl (isV (.int .i64 0)) (fun ρ w' h => h) ?_
  refine tele_move rfl (.inl rfl) rfl (isV (.func (.func f) #[] #[])) (fun ρ w' h => h) ?_
  refine tele_move rfl (.inl rfl) rfl (isV (.int .i64 0)) (fun ρ w' h => h) ?_
  refine tele_val rfl (.pointer (some ⟨n, 0, none⟩)) (fun _ _ _ => rfl) ?_ ?_
  · rintro ρ w' he ⟨h3, h13, -⟩
    have e3 : ρ 3 = (.pointer (some ⟨n, 0, none⟩)) := h3
    have e13 : ρ 13 = (.int .i64 0) := h13
    simp [execOp, evR, e3, e13, go_sem]
  refine tele_val rfl (.int .i64 a) (fun _ _ _ => rfl) ?_ ?_
  · rintro ρ w' he ⟨h14, -⟩
    have e14 : ρ 14 = (.pointer (some ⟨n, 0, none⟩)) := h14
    have c := (ba.ext he).cell (i := 0) rfl
    simp [execOp, evR, e14, c, go_sem]
  refine tele_move rfl (.inl rfl) rfl (isV (.int .i64 0)) (fun ρ w' h => h) ?_
  refine tele_val rfl (.pointer (some ⟨n + 1, 0, none⟩)) (fun _ _ _ => rfl) ?_ ?_
  · rintro ρ w' he ⟨h4, h16, -⟩
    have e4 : ρ 4 = (.pointer (some ⟨n + 1, 0, none⟩)) := h4
    have e16 : ρ 16 = (.int .i64 0) := h16
    simp [execOp, evR, e4, e16, go_sem]
  refine tele_val rfl (.int .i64 c) (fun _ _ _ => rfl) ?_ ?_
  · rintro ρ w' he ⟨h17, -⟩
    have e17 : ρ 17 = (.pointer (some ⟨n + 1, 0, none⟩)) := h17
    have c := (bb.ext he).cell (i := 0) rfl
    simp [execOp, evR, e17, c, go_sem]
  refine tele_callv rfl rfl hf hn (isV (.int .i64 (g a c))) (fun _ _ _ => rfl) ?_ ?_ ?_
  · rintro ρ w' ⟨h12, h15, h18, -⟩
    exact (show ρ 12 = (.func (.func f) #[] #[]) from h12)
  · rintro ρ w' he ⟨h12, h15, h18, -⟩
    have e12 : ρ 12 = (.func (.func f) #[] #[]) := h12
    have e15 : ρ 15 = (.int .i64 a) := h15
    have e18 : ρ 18 = (.int .i64 c) := h18
    simp only [evR, List.map_toArray, List.map_cons, List.map_nil, e15, e18]
    refine (hc _ _ _).mono ?_
    rintro e w'' ⟨rfl, rfl⟩
    exact ⟨_, rfl, Ext.refl _, rfl⟩
  refine tele_val rfl (.pointer (some ⟨n + 1 + 1, 0, none⟩)) (fun _ _ _ => rfl) ?_ ?_
  · rintro ρ w' he ⟨h6, h11, -⟩
    have e6 : ρ 6 = (.pointer (some ⟨n + 1 + 1, 0, none⟩)) := h6
    have e11 : ρ 11 = (.int .i64 0) := h11
    simp [execOp, evR, e6, e11, go_sem]
  refine tele_nil ?_
  rintro ρ w' hext ⟨f20, f19, f18, f17, f16, f15, f14, f13, f12, f11, -⟩
  replace f11 : ρ 11 = (.int .i64 0) := f11
  replace f12 : ρ 12 = (.func (.func f) #[] #[]) := f12
  replace f13 : ρ 13 = (.int .i64 0) := f13
  replace f14 : ρ 14 = (.pointer (some ⟨n, 0, none⟩)) := f14
  replace f15 : ρ 15 = (.int .i64 a) := f15
  replace f16 : ρ 16 = (.int .i64 0) := f16
  replace f17 : ρ 17 = (.pointer (some ⟨n + 1, 0, none⟩)) := f17
  replace f18 : ρ 18 = (.int .i64 c) := f18
  replace f19 : ρ 19 = (.int .i64 (g a c)) := f19
  replace f20 : ρ 20 = (.pointer (some ⟨n + 1 + 1, 0, none⟩)) := f20
  simp only [puts, Act.put, List.setIfInBounds_toArray, List.set_cons_zero, List.set_cons_succ]
  rw [f19, f20]
  clear f11 f12 f13 f14 f15 f16 f17 f18 f19 f20
  replace ba := ba.ext hext
  replace bb := bb.ext hext
  replace bo := bo.ext hext
  replace hx := Ext.trans hx hext
  clear hext
  have hs1 : w'.cell? ⟨n + 1 + 1, 0, none⟩ = some (.int .i64 0) := bo.cell rfl
  have hs2 := bo.thaw 0
  go_wp2_with fail
  have hlt := bo.lt
  replace ba := ba.apart (a := ⟨n + 1 + 1, 0, none⟩) (.int .i64 (g a c)) (by simp; omega)
  replace bb := bb.apart (a := ⟨n + 1 + 1, 0, none⟩) (.int .i64 (g a c)) (by simp)
  replace bo := bo.set 0 (.int .i64 (g a c))
  replace hx := hx.setCell (p := ⟨n + 1 + 1, 0, none⟩) (by have := HN.out; simp; omega) (.int .i64 (g a c))
  simp only [List.set_cons_zero, List.set_cons_succ] at bo
  clear hs1 hs2 hlt
  generalize w'.setCell ⟨n + 1 + 1, 0, none⟩ (.int .i64 (g a c)) = W1 at *
  clear w'
  rw [rounds_succ]
  go_wp2_with fail
  refine wp_region_last_lit (by kernel_rfl) rfl (by kernel_rfl) (by kernel_rfl) ?_
  refine tele_move rfl (.inl rfl) rfl (isV (.int .i64 1)) (fun ρ w' h => h) ?_
  refine tele_move rfl (.inl rfl) rfl (isV (.func (.func f) #[] #[])) (fun ρ w' h => h) ?_
  refine tele_move rfl (.inl rfl) rfl (isV (.int .i64 1)) (fun ρ w' h => h) ?_
  refine tele_val rfl (.pointer (some ⟨n, 1, none⟩)) (fun _ _ _ => rfl) ?_ ?_
  · rintro ρ w' he ⟨h3, h13, -⟩
    have e3 : ρ 3 = (.pointer (some ⟨n, 0, none⟩)) := h3
    have e13 : ρ 13 = (.int .i64 1) := h13
    simp [execOp, evR, e3, e13, go_sem]
  refine tele_val rfl (.int .i64 b) (fun _ _ _ => rfl) ?_ ?_
  · rintro ρ w' he ⟨h14, -⟩
    have e14 : ρ 14 = (.pointer (some ⟨n, 1, none⟩)) := h14
    have c := (ba.ext he).cell (i := 1) rfl
    simp [execOp, evR, e14, c, go_sem]
  refine tele_move rfl (.inl rfl) rfl (isV (.int .i64 1)) (fun ρ w' h => h) ?_
  refine tele_val rfl (.pointer (some ⟨n + 1, 1, none⟩)) (fun _ _ _ => rfl) ?_ ?_
  · rintro ρ w' he ⟨h4, h16, -⟩
    have e4 : ρ 4 = (.pointer (some ⟨n + 1, 0, none⟩)) := h4
    have e16 : ρ 16 = (.int .i64 1) := h16
    simp [execOp, evR, e4, e16, go_sem]
  refine tele_val rfl (.int .i64 d) (fun _ _ _ => rfl) ?_ ?_
  · rintro ρ w' he ⟨h17, -⟩
    have e17 : ρ 17 = (.pointer (some ⟨n + 1, 1, none⟩)) := h17
    have c := (bb.ext he).cell (i := 1) rfl
    simp [execOp, evR, e17, c, go_sem]
  refine tele_callv rfl rfl hf hn (isV (.int .i64 (g b d))) (fun _ _ _ => rfl) ?_ ?_ ?_
  · rintro ρ w' ⟨h12, h15, h18, -⟩
    exact (show ρ 12 = (.func (.func f) #[] #[]) from h12)
  · rintro ρ w' he ⟨h12, h15, h18, -⟩
    have e12 : ρ 12 = (.func (.func f) #[] #[]) := h12
    have e15 : ρ 15 = (.int .i64 b) := h15
    have e18 : ρ 18 = (.int .i64 d) := h18
    simp only [evR, List.map_toArray, List.map_cons, List.map_nil, e15, e18]
    refine (hc _ _ _).mono ?_
    rintro e w'' ⟨rfl, rfl⟩
    exact ⟨_, rfl, Ext.refl _, rfl⟩
  refine tele_val rfl (.pointer (some ⟨n + 1 + 1, 1, none⟩)) (fun _ _ _ => rfl) ?_ ?_
  · rintro ρ w' he ⟨h6, h11, -⟩
    have e6 : ρ 6 = (.pointer (some ⟨n + 1 + 1, 0, none⟩)) := h6
    have e11 : ρ 11 = (.int .i64 1) := h11
    simp [execOp, evR, e6, e11, go_sem]
  refine tele_nil ?_
  rintro ρ w' hext ⟨f20, f19, f18, f17, f16, f15, f14, f13, f12, f11, -⟩
  replace f11 : ρ 11 = (.int .i64 1) := f11
  replace f12 : ρ 12 = (.func (.func f) #[] #[]) := f12
  replace f13 : ρ 13 = (.int .i64 1) := f13
  replace f14 : ρ 14 = (.pointer (some ⟨n, 1, none⟩)) := f14
  replace f15 : ρ 15 = (.int .i64 b) := f15
  replace f16 : ρ 16 = (.int .i64 1) := f16
  replace f17 : ρ 17 = (.pointer (some ⟨n + 1, 1, none⟩)) := f17
  replace f18 : ρ 18 = (.int .i64 d) := f18
  replace f19 : ρ 19 = (.int .i64 (g b d)) := f19
  replace f20 : ρ 20 = (.pointer (some ⟨n + 1 + 1, 1, none⟩)) := f20
  simp only [puts, Act.put, List.setIfInBounds_toArray, List.set_cons_zero, List.set_cons_succ]
  rw [f19, f20]
  clear f11 f12 f13 f14 f15 f16 f17 f18 f19 f20
  replace ba := ba.ext hext
  replace bb := bb.ext hext
  replace bo := bo.ext hext
  replace hx := Ext.trans hx hext
  clear hext
  have hs1 : w'.cell? ⟨n + 1 + 1, 1, none⟩ = some (.int .i64 0) := bo.cell rfl
  have hs2 := bo.thaw 1
  go_wp2_with fail
  have hlt := bo.lt
  replace ba := ba.apart (a := ⟨n + 1 + 1, 1, none⟩) (.int .i64 (g b d)) (by simp; omega)
  replace bb := bb.apart (a := ⟨n + 1 + 1, 1, none⟩) (.int .i64 (g b d)) (by simp)
  replace bo := bo.set 1 (.int .i64 (g b d))
  replace hx := hx.setCell (p := ⟨n + 1 + 1, 1, none⟩) (by have := HN.out; simp; omega) (.int .i64 (g b d))
  simp only [List.set_cons_zero, List.set_cons_succ] at bo
  clear hs1 hs2 hlt
  generalize w'.setCell ⟨n + 1 + 1, 1, none⟩ (.int .i64 (g b d)) = W1 at *
  clear w'
  rw [rounds_succ]
  have c0 := bo.cell (i := 0) rfl
  have c1 := bo.cell (i := 1) rfl
  have z0 := bo.thaw 0
  have z1 := bo.thaw 1
  go_wp2_with fail

  have bo2 := (bo.set 0 (.int .i64 (g a c))).set 1 (.int .i64 (g b d))
  have d0 := bo2.cell (i := 0) rfl
  have d1 := bo2.cell (i := 1) rfl
  exact bodyPost_ret (v := .agg #[.int .i64 (g a c), .int .i64 (g b d)]) (by simp [results, Try.results66, d0, d1, go_sem]) rfl ⟨rfl, (hx.setCell (by have := HN.out; simp; omega) _).setCell (by have := HN.out; simp; omega) _⟩
end Go.Proofs.Ytocdifjdeifclaa

/-
  The walks of layer 6: what vec's functions and the document's own compute.
-/
namespace Go.Proofs.Ytocdifjdeifclaa
open Go.RowKit Mono
set_option linter.unusedSimpArgs false
set_option linter.unusedVariables false
/-- '==' of two counts. -/
@[go_sem] theorem eqVec (a b c d : Int) (w : World) : (Op.equalIn 10000 26 (.agg #[.int .i64 a, .int .i64 b]) (.agg #[.int .i64 c, .int .i64 d])).run Try.prog w = .ok (a == c && b == d) w := by
  have u3 := Try.underlying3
  have a3 := Try.isAgg3
  have z3 := Try.sizeOf3
  rw [show (10000 : Nat) = 9999 + 1 from rfl, Op.equalIn]
  simp only [Sem.run_bind, run_underlying Try.underlying26, Result.andThen_ok]
  simp only [Std.Legacy.Range.forIn_eq_forIn_range', Std.Legacy.Range.size, Nat.sub_zero, Nat.add_sub_cancel, Nat.div_one, List.range'_succ, List.range'_zero, List.forIn_cons, List.forIn_nil]
  go_simp
  by_cases h1 : a = c <;> by_cases h2 : b = d <;> simp [h1, h2]

theorem vecClamp_any (x y : Int) (w : World) : Calls Try.prog 67 #[.int .i64 x, .int .i64 y] w fun e w' => e = .returned (.int .i64 (min (max x 0) 1099511627776)) ∧ w = w' := by
  go_enter Try.func67, Try.ntmps67
  go_wp2_with fail
  all_goals go_ret
  all_goals exact ⟨by simp; omega, rfl⟩

def vgood (a b : Int) : Bool := decide (0 ≤ a) && decide (a ≤ 1099511627776) && decide (0 ≤ b) && decide (b ≤ 1099511627776)
theorem vgood_eql (a b : Int) : vgood a b = ((min (max a 0) 1099511627776 == a) && (min (max b 0) 1099511627776 == b)) := by
  unfold vgood
  by_cases h1 : 0 ≤ a <;> by_cases h2 : a ≤ 1099511627776 <;> by_cases h3 : 0 ≤ b <;> by_cases h4 : b ≤ 1099511627776 <;> simp [h1, h2, h3, h4] <;> omega

theorem vecGood_any (a b : Int) (w : World) : Calls Try.prog 35 #[vecV a b] w fun e w' => e = .returned (.bool (vgood a b)) ∧ Ext w w' := by
  unfold vecV
  go_enter Try.func35, Try.ntmps35
  go_wp2_with fail
  have ba := Blk.new w #[.int .i64 a, .int .i64 b] 26
  have hx : Ext w (w.alloc (.cells #[.int .i64 a, .int .i64 b] 26)) := ext_alloc _ _
  obtain ⟨n, hn⟩ : ∃ n, n = w.heap.size := ⟨_, rfl⟩
  rw [← hn] at ba ⊢
  generalize w.alloc (.cells #[.int .i64 a, .int .i64 b] 26) = W at *
  refine wp_region_mono (by kernel_rfl) (by kernel_rfl) ?_
  refine tele_val rfl (vecV a b) (fun _ _ _ => rfl) ?_ ?_
  · rintro ρ w' he ⟨h1, -⟩
    have e1 : ρ 1 = (.pointer (some ⟨n, 0, none⟩)) := h1
    unfold vecV
    have c0 := (ba.ext he).cell (i := 0) rfl
    have c1 := (ba.ext he).cell (i := 1) rfl
    simp [execOp, evR, e1, c0, c1, go_sem]
  refine tele_val rfl (vecV 0 0) (fun _ _ _ => rfl) ?_ ?_
  · rintro ρ w' he -
    simp [execOp, evR, vecV, go_sem]
  refine tele_call rfl rfl Try.func66 (by kernel_rfl) (isV (vecV (min (max a 0) 1099511627776) (min (max b 0) 1099511627776))) (fun _ _ _ => rfl) ?_ ?_
  · rintro ρ w' he ⟨h3, h4, -⟩
    have e3 : ρ 3 = (vecV a b) := h3
    have e4 : ρ 4 = (vecV 0 0) := h4
    simp only [evR, List.map_toArray, List.map_cons, List.map_nil, e3, e4]
    refine (each_any _ _ Try.func67 (by kernel_rfl) _ a b 0 0 vecClamp_any _).mono ?_
    rintro e w'' ⟨rfl, he⟩
    exact ⟨_, rfl, he, rfl⟩
  refine tele_val rfl (vecV a b) (fun _ _ _ => rfl) ?_ ?_
  · rintro ρ w' he ⟨h1, -⟩
    have e1 : ρ 1 = (.pointer (some ⟨n, 0, none⟩)) := h1
    unfold vecV
    have c0 := (ba.ext he).cell (i := 0) rfl
    have c1 := (ba.ext he).cell (i := 1) rfl
    simp [execOp, evR, e1, c0, c1, go_sem]
  refine tele_val rfl (.bool (vgood a b)) (fun _ _ _ => rfl) ?_ ?_
  · rintro ρ w' he ⟨h5, h6, -⟩
    have e5 : ρ 5 = (vecV (min (max a 0) 1099511627776) (min (max b 0) 1099511627776)) := h5
    have e6 : ρ 6 = (vecV a b) := h6
    rw [vgood_eql]
    simp [execOp, evR, e5, e6, vecV, go_sem]
  refine tele_move rfl (.inr rfl) rfl (isV (.bool (vgood a b))) (fun ρ w' h => h) ?_
  refine tele_nil ?_
  rintro ρ w' hext ⟨f2, f7, f6, f5, f4, f3, -⟩
  replace f3 : ρ 3 = (vecV a b) := f3
  replace f4 : ρ 4 = (vecV 0 0) := f4
  replace f5 : ρ 5 = (vecV (min (max a 0) 1099511627776) (min (max b 0) 1099511627776)) := f5
  replace f6 : ρ 6 = (vecV a b) := f6
  replace f7 : ρ 7 = (.bool (vgood a b)) := f7
  replace f2 : ρ 2 = (.bool (vgood a b)) := f2
  simp only [puts, Act.put, List.setIfInBounds_toArray, List.set_cons_zero, List.set_cons_succ]
  rw [f2]
  go_wp2_with fail
  go_ret
  exact ⟨rfl, Ext.trans hx hext⟩

/-- Do the first cover the others? -/
theorem refVGood_any (a b : Int) (w : World) : Calls Try.prog 40 #[vecV a b] w fun e w' => e = .returned (.bool (vgood a b)) ∧ Ext w w' := by
  cases h1 : decide (0 ≤ a) <;> cases h2 : decide (a ≤ 1099511627776) <;> cases h3 : decide (0 ≤ b) <;> cases h4 : decide (b ≤ 1099511627776)
  all_goals
    unfold vecV
    go_enter Try.func40, Try.ntmps40
    go_wp2_with fail
    go_ret
    exact ⟨by unfold vgood; rw [h1, h2, h3, h4]; rfl, ext_alloc _ _⟩
theorem vgood_bounds {a b : Int} (h : vgood a b = true) : 0 ≤ a ∧ a ≤ 1099511627776 ∧ 0 ≤ b ∧ b ≤ 1099511627776 := by
  unfold vgood at h
  simp only [Bool.and_eq_true, decide_eq_true_eq] at h
  omega
end Go.Proofs.Ytocdifjdeifclaa
