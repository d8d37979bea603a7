/-
  The walk of VecNexts.
-/
import Derived.Test.YtfhahkklkkdkoaaVecLaws
import Derived.Test.YtfhahkklkkdkoaaVecNext
namespace Go.Proofs.Ytfhahkklkkdkoaa
open Go.RowKit Mono
set_option linter.unusedSimpArgs false
set_option linter.unusedVariables false

set_option maxHeartbeats 1000000 in
theorem vecNexts_walk (a b s q : Int) (w : World) (hs : In64 s) :
    Calls Try.prog 6 #[vecV a b, .int .i64 s, .int .i64 q] w fun e w' => e = .returned (.bool true) ∧ Ext w w' := by
  unfold vecV
  go_enter Try.func6, Try.ntmps6
  go_wp2_with fail
  have ba := Blk.new (w) #[.int .i64 a, .int .i64 b] 25
  have hx : Ext w (((w).alloc (.cells #[.int .i64 a, .int .i64 b] 25))) := ext_alloc _ _
  obtain ⟨n, hnn⟩ : ∃ n, n = w.heap.size := ⟨_, rfl⟩
  rw [← hnn] at ba ⊢
  have HN := Lib.hid hnn
  clear hnn
  generalize ((w).alloc (.cells #[.int .i64 a, .int .i64 b] 25)) = W at *
  have bac0 := ba.cell (i := 0) rfl
  have baz0 := ba.thaw 0
  have bac1 := ba.cell (i := 1) rfl
  have baz1 := ba.thaw 1
  refine (vecNext_any a b s _ hs).mono ?_
  rintro e w1 ⟨rfl, e1⟩
  have hC := fun w => refNext_any a b s w hs
  generalize hr : vnext a b s = r at *
  obtain ⟨⟨x, y⟩, z⟩ := r
  have HR := Lib.hid hr
  clear hr
  have HC := Lib.hid hC
  clear hC
  unfold nextV vecV
  dsimp only
  replace ba := ba.ext e1
  replace hx := Ext.trans hx e1
  clear e1
  have bac0 := (ba.ext (ext_alloc _ (.cells #[.int .i64 x, .int .i64 y] 25))).cell (i := 0) rfl
  have bac1 := (ba.ext (ext_alloc _ (.cells #[.int .i64 x, .int .i64 y] 25))).cell (i := 1) rfl
  go_wp2_with fail
  refine (HC.out _).mono ?_
  rintro e w2 ⟨rfl, e2⟩
  have b7 := (Blk.new w1 #[.int .i64 x, .int .i64 y] 25).ext e2
  obtain ⟨n7, hn7⟩ : ∃ m, m = w1.heap.size := ⟨_, rfl⟩
  rw [← hn7] at b7 ⊢
  clear hn7
  replace ba := (ba.ext (ext_alloc _ _)).ext e2
  replace hx := Ext.trans hx (Ext.trans (ext_alloc _ _) e2)
  clear e2 HC bac0 bac1
  unfold nextV vecV
  dsimp only
  go_wp2_with fail
  have b9 := Blk.new w2 #[.int .i64 x, .int .i64 y] 25
  obtain ⟨n9, hn9⟩ : ∃ m, m = w2.heap.size := ⟨_, rfl⟩
  rw [← hn9] at b9 ⊢
  clear hn9
  have e3 := ext_alloc w2 (.cells #[.int .i64 x, .int .i64 y] 25)
  replace ba := ba.ext e3
  replace b7 := b7.ext e3
  replace hx := Ext.trans hx e3
  clear e3
  generalize w2.alloc (.cells #[.int .i64 x, .int .i64 y] 25) = W2 at *
  refine wp_region_mono (by kernel_rfl) (by kernel_rfl) ?_
  refine tele_val rfl (vecV a b) (fun _ _ _ => rfl) ?_ ?_
  · rintro ρ w' he ⟨h3, -⟩
    have e3 : ρ 3 = (.pointer (some ⟨n, 0, none⟩)) := h3
    have c0 := (ba.ext he).cell (i := 0) rfl
    have c1 := (ba.ext he).cell (i := 1) rfl
    simp [execOp, evR, e3, c0, c1, vecV, go_sem]
  refine tele_move rfl (.inl rfl) rfl (isV (.int .i64 s)) (fun ρ w' h => h) ?_
  refine tele_move rfl (.inl rfl) rfl (isV (.int .i64 q)) (fun ρ w' h => h) ?_
  refine tele_call rfl rfl Try.func22 (by kernel_rfl) (isV (.bool (vhas a b s q))) (fun _ _ _ => rfl) ?_ ?_
  · rintro ρ w' he ⟨h23, h24, h25, -⟩
    have e23 : ρ 23 = (vecV a b) := h23
    have e24 : ρ 24 = (.int .i64 s) := h24
    have e25 : ρ 25 = (.int .i64 q) := h25
    simp only [evR, List.map_toArray, List.map_cons, List.map_nil, e23, e24, e25]
    refine (vecHas_any a b s q _ hs).mono ?_
    rintro e w'' ⟨rfl, he⟩
    exact ⟨_, rfl, he, rfl⟩
  refine tele_val rfl (vecV a b) (fun _ _ _ => rfl) ?_ ?_
  · rintro ρ w' he ⟨h3, -⟩
    have e3 : ρ 3 = (.pointer (some ⟨n, 0, none⟩)) := h3
    have c0 := (ba.ext he).cell (i := 0) rfl
    have c1 := (ba.ext he).cell (i := 1) rfl
    simp [execOp, evR, e3, c0, c1, vecV, go_sem]
  refine tele_move rfl (.inl rfl) rfl (isV (.int .i64 s)) (fun ρ w' h => h) ?_
  refine tele_move rfl (.inl rfl) rfl (isV (.int .i64 q)) (fun ρ w' h => h) ?_
  refine tele_call rfl rfl Try.func23 (by kernel_rfl) (isV (.bool (vhas a b s q))) (fun _ _ _ => rfl) ?_ ?_
  · rintro ρ w' he ⟨h27, h28, h29, -⟩
    have e27 : ρ 27 = (vecV a b) := h27
    have e28 : ρ 28 = (.int .i64 s) := h28
    have e29 : ρ 29 = (.int .i64 q) := h29
    simp only [evR, List.map_toArray, List.map_cons, List.map_nil, e27, e28, e29]
    refine (refHas_any a b s q _ hs).mono ?_
    rintro e w'' ⟨rfl, he⟩
    exact ⟨_, rfl, he, rfl⟩
  refine tele_val rfl (.bool true) (fun _ _ _ => rfl) ?_ ?_
  · rintro ρ w' he ⟨h26, h30, -⟩
    have e26 : ρ 26 = (.bool (vhas a b s q)) := h26
    have e30 : ρ 30 = (.bool (vhas a b s q)) := h30
    simp [execOp, evR, e26, e30, go_sem]
  refine tele_move rfl (.inl rfl) rfl (isV (.bool true)) (fun ρ w' h => h) ?_
  refine tele_val rfl (vecV x y) (fun ρ w' hk => by obtain ⟨_, hg, -⟩ := hk; have eg : ρ 32 = (.bool true) := hg; simp [wantedR, Region.wanted, asBoolR, eg]) ?_ ?_
  · rintro ρ w' he ⟨h7, -⟩
    have e7 : ρ 7 = (.pointer (some ⟨n7, 0, none⟩)) := h7
    have c0 := (b7.ext he).cell (i := 0) rfl
    have c1 := (b7.ext he).cell (i := 1) rfl
    simp [execOp, evR, e7, c0, c1, vecV, go_sem]
  refine tele_val rfl (vecV x y) (fun ρ w' hk => by obtain ⟨_, hg, -⟩ := hk; have eg : ρ 32 = (.bool true) := hg; simp [wantedR, Region.wanted, asBoolR, eg]) ?_ ?_
  · rintro ρ w' he ⟨h9, -⟩
    have e9 : ρ 9 = (.pointer (some ⟨n9, 0, none⟩)) := h9
    have c0 := (b9.ext he).cell (i := 0) rfl
    have c1 := (b9.ext he).cell (i := 1) rfl
    simp [execOp, evR, e9, c0, c1, vecV, go_sem]
  refine tele_val rfl (.bool true) (fun ρ w' hk => by obtain ⟨_, _, hg, -⟩ := hk; have eg : ρ 32 = (.bool true) := hg; simp [wantedR, Region.wanted, asBoolR, eg]) ?_ ?_
  · rintro ρ w' he ⟨h33, h34, -⟩
    have e33 : ρ 33 = (vecV x y) := h33
    have e34 : ρ 34 = (vecV x y) := h34
    simp [execOp, evR, e33, e34, vecV, go_sem]
  refine tele_val rfl (.bool true) (fun _ _ _ => rfl) ?_ ?_
  · rintro ρ w' he ⟨h32, h35, -⟩
    have e32 : ρ 32 = (.bool true) := h32
    have e35 : ρ 35 = (.bool true) := h35
    simp [execOp, evR, e32, e35, go_sem]
  refine tele_move rfl (.inl rfl) rfl (isV (.bool true)) (fun ρ w' h => h) ?_
  refine tele_val rfl ((.int .i64 z)) (fun ρ w' hk => by obtain ⟨_, hg, -⟩ := hk; have eg : ρ 37 = (.bool true) := hg; simp [wantedR, Region.wanted, asBoolR, eg]) ?_ ?_
  · rintro ρ w' he ⟨h8, -⟩
    have e8 : ρ 8 = (.int .i64 z) := h8
    simp [execOp, evR, e8]
  refine tele_val rfl ((.int .i64 z)) (fun ρ w' hk => by obtain ⟨_, hg, -⟩ := hk; have eg : ρ 37 = (.bool true) := hg; simp [wantedR, Region.wanted, asBoolR, eg]) ?_ ?_
  · rintro ρ w' he ⟨h10, -⟩
    have e10 : ρ 10 = (.int .i64 z) := h10
    simp [execOp, evR, e10]
  refine tele_val rfl (.bool true) (fun ρ w' hk => by obtain ⟨_, _, hg, -⟩ := hk; have eg : ρ 37 = (.bool true) := hg; simp [wantedR, Region.wanted, asBoolR, eg]) ?_ ?_
  · rintro ρ w' he ⟨h38, h39, -⟩
    have e38 : ρ 38 = (.int .i64 z) := h38
    have e39 : ρ 39 = (.int .i64 z) := h39
    simp [execOp, evR, e38, e39, go_sem]
  refine tele_val rfl (.bool true) (fun _ _ _ => rfl) ?_ ?_
  · rintro ρ w' he ⟨h37, h40, -⟩
    have e37 : ρ 37 = (.bool true) := h37
    have e40 : ρ 40 = (.bool true) := h40
    simp [execOp, evR, e37, e40, go_sem]
  refine tele_move rfl (.inl rfl) rfl (isV (.bool true)) (fun ρ w' h => h) ?_
  refine tele_call rfl rfl Try.func9 (by kernel_rfl) (isV (.bool true)) (fun ρ w' hk => by obtain ⟨hg, -⟩ := hk; have eg : ρ 42 = (.bool true) := hg; simp [wantedR, Region.wanted, asBoolR, eg]) ?_ ?_
  · rintro ρ w' he -
    simp only [evR, List.map_toArray, List.map_cons, List.map_nil]
    refine (lives_any _).mono ?_
    rintro e w'' ⟨rfl, he⟩
    exact ⟨_, rfl, he, rfl⟩
  refine tele_val rfl (.bool true) (fun _ _ _ => rfl) ?_ ?_
  · rintro ρ w' he ⟨h42, h43, -⟩
    have e42 : ρ 42 = (.bool true) := h42
    have e43 : ρ 43 = (.bool true) := h43
    simp [execOp, evR, e42, e43, go_sem]
  refine tele_move rfl (.inr rfl) rfl (isV (.bool true)) (fun ρ w' h => h) ?_
  refine tele_nil ?_
  rintro ρ w' hext ⟨f6, f44, f43, f42, f41, f40, f39, f38, f37, f36, f35, f34, f33, f32, f31, f30, f29, f28, f27, f26, f25, f24, f23, -⟩
  replace f23 : ρ 23 = (vecV a b) := f23
  replace f24 : ρ 24 = (.int .i64 s) := f24
  replace f25 : ρ 25 = (.int .i64 q) := f25
  replace f26 : ρ 26 = (.bool (vhas a b s q)) := f26
  replace f27 : ρ 27 = (vecV a b) := f27
  replace f28 : ρ 28 = (.int .i64 s) := f28
  replace f29 : ρ 29 = (.int .i64 q) := f29
  replace f30 : ρ 30 = (.bool (vhas a b s q)) := f30
  replace f31 : ρ 31 = (.bool true) := f31
  replace f32 : ρ 32 = (.bool true) := f32
  replace f33 : ρ 33 = (vecV x y) := f33
  replace f34 : ρ 34 = (vecV x y) := f34
  replace f35 : ρ 35 = (.bool true) := f35
  replace f36 : ρ 36 = (.bool true) := f36
  replace f37 : ρ 37 = (.bool true) := f37
  replace f38 : ρ 38 = (.int .i64 z) := f38
  replace f39 : ρ 39 = (.int .i64 z) := f39
  replace f40 : ρ 40 = (.bool true) := f40
  replace f41 : ρ 41 = (.bool true) := f41
  replace f42 : ρ 42 = (.bool true) := f42
  replace f43 : ρ 43 = (.bool true) := f43
  replace f44 : ρ 44 = (.bool true) := f44
  replace f6 : ρ 6 = (.bool true) := f6
  simp only [puts, Act.put, List.setIfInBounds_toArray, List.set_cons_zero, List.set_cons_succ]
  rw [f6]
  go_wp2_with fail
  go_ret
  exact ⟨rfl, Ext.trans hx hext⟩
end Go.Proofs.Ytfhahkklkkdkoaa
