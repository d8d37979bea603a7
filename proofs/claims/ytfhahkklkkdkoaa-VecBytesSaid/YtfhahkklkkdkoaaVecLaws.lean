/-
  The walks of the statements of layer 6 on Join and on comparing.
-/
import Derived.Test.YtfhahkklkkdkoaaVecJoin
namespace Go.Proofs.Ytfhahkklkkdkoaa
open Go.RowKit Mono
set_option linter.unusedSimpArgs false
set_option linter.unusedVariables false

set_option maxHeartbeats 400000 in
theorem lives_any (w : World) : Calls Try.prog 9 #[] w fun e w' => e = .returned (.bool true) ∧ Ext w w' := by
  go_enter Try.func9, Try.ntmps9
  go_wp2_with fail
  refine (vecCompare_any 1 2 2 1 _).mono ?_
  rintro e w1 ⟨rfl, h1⟩
  rw [show vcompare 1 2 2 1 = 3 by decide]
  go_wp2_with fail
  refine (vecJoin_any _ [(1, 2), (2, 1)] _ (Vs.two _ _ 1 2 2 1)).mono ?_
  rintro e w2 ⟨rfl, h2⟩
  rw [show vjoin [(1, 2), (2, 1)] = (2, 2) by decide]
  unfold vecV
  go_wp2_with fail
  go_ret
  exact ⟨rfl, Ext.trans h1 (Ext.trans (ext_alloc _ _) h2)⟩

set_option maxHeartbeats 400000 in
theorem vecJoins_walk (v : Value) (l : List (Int × Int)) (w : World) (hv : Vs w v l) :
    Calls Try.prog 3 #[v] w fun e w' => e = .returned (.bool true) ∧ Ext w w' := by
  obtain ⟨A, c, rfl, h1, h2, h3, h4⟩ := id hv
  clear h4 h3
  unfold maxLen at h2
  by_cases hl : 1000 < l.length
  · go_enter Try.func3, Try.ntmps3
    go_wp2_with fail
    refine (lives_any w).mono ?_
    rintro e w' ⟨rfl, he⟩
    go_wp2_with fail
    go_ret
    exact ⟨rfl, he⟩
  · go_enter Try.func3, Try.ntmps3
    go_wp2_with fail
    refine (vecJoin_any _ l _ hv).mono ?_
    rintro e w1 ⟨rfl, e1⟩
    go_wp2_with fail
    refine (refJoin_any _ l _ (hv.ext e1)).mono ?_
    rintro e w2 ⟨rfl, e2⟩
    generalize vjoin l = j
    obtain ⟨x, y⟩ := j
    unfold vecV
    go_wp2_with fail
    refine (lives_any _).mono ?_
    rintro e w3 ⟨rfl, e3⟩
    go_wp2_with fail
    go_ret
    exact ⟨rfl, Ext.trans e1 (Ext.trans e2 e3)⟩

set_option maxHeartbeats 1000000 in
theorem vecCompares_walk (a b c d : Int) (w : World) :
    Calls Try.prog 4 #[vecV a b, vecV c d] w fun e w' => e = .returned (.bool true) ∧ Ext w w' := by
  unfold vecV
  go_enter Try.func4, Try.ntmps4
  go_wp2_with fail
  have ba := (Blk.new (w) #[.int .i64 a, .int .i64 b] 25).ext (ext_alloc _ (.cells #[.int .i64 c, .int .i64 d] 25))
  have bb := Blk.new (((w).alloc (.cells #[.int .i64 a, .int .i64 b] 25))) #[.int .i64 c, .int .i64 d] 25
  have hx : Ext w (((((w).alloc (.cells #[.int .i64 a, .int .i64 b] 25))).alloc (.cells #[.int .i64 c, .int .i64 d] 25))) := Ext.trans (ext_alloc _ _) (ext_alloc _ _)
  simp only [World.size_alloc] at bb
  obtain ⟨n, hnn⟩ : ∃ n, n = w.heap.size := ⟨_, rfl⟩
  rw [← hnn] at ba bb ⊢
  have HN := Lib.hid hnn
  clear hnn
  generalize ((((w).alloc (.cells #[.int .i64 a, .int .i64 b] 25))).alloc (.cells #[.int .i64 c, .int .i64 d] 25)) = W at *
  refine wp_region_mono (by kernel_rfl) (by kernel_rfl) ?_
  refine tele_val rfl (vecV a b) (fun _ _ _ => rfl) ?_ ?_
  · rintro ρ w' he ⟨h2, -⟩
    have e2 : ρ 2 = (.pointer (some ⟨n, 0, none⟩)) := h2
    have c0 := (ba.ext he).cell (i := 0) rfl
    have c1 := (ba.ext he).cell (i := 1) rfl
    simp [execOp, evR, e2, c0, c1, vecV, go_sem]
  refine tele_call rfl rfl Try.func12 (by kernel_rfl) (isV (.bool (vgood a b))) (fun _ _ _ => rfl) ?_ ?_
  · rintro ρ w' he ⟨h5, -⟩
    have e5 : ρ 5 = (vecV a b) := h5
    simp only [evR, List.map_toArray, List.map_cons, List.map_nil, e5]
    refine (vecGood_any a b _).mono ?_
    rintro e w'' ⟨rfl, he⟩
    exact ⟨_, rfl, he, rfl⟩
  refine tele_val rfl (vecV a b) (fun _ _ _ => rfl) ?_ ?_
  · rintro ρ w' he ⟨h2, -⟩
    have e2 : ρ 2 = (.pointer (some ⟨n, 0, none⟩)) := h2
    have c0 := (ba.ext he).cell (i := 0) rfl
    have c1 := (ba.ext he).cell (i := 1) rfl
    simp [execOp, evR, e2, c0, c1, vecV, go_sem]
  refine tele_call rfl rfl Try.func13 (by kernel_rfl) (isV (.bool (vgood a b))) (fun _ _ _ => rfl) ?_ ?_
  · rintro ρ w' he ⟨h7, -⟩
    have e7 : ρ 7 = (vecV a b) := h7
    simp only [evR, List.map_toArray, List.map_cons, List.map_nil, e7]
    refine (refGood_any a b _).mono ?_
    rintro e w'' ⟨rfl, he⟩
    exact ⟨_, rfl, he, rfl⟩
  refine tele_val rfl (.bool true) (fun _ _ _ => rfl) ?_ ?_
  · rintro ρ w' he ⟨h6, h8, -⟩
    have e6 : ρ 6 = (.bool (vgood a b)) := h6
    have e8 : ρ 8 = (.bool (vgood a b)) := h8
    simp [execOp, evR, e6, e8, go_sem]
  refine tele_move rfl (.inl rfl) rfl (isV (.bool true)) (fun ρ w' h => h) ?_
  refine tele_val rfl (vecV a b) (fun ρ w' hk => by obtain ⟨_, hg, -⟩ := hk; have eg : ρ 10 = (.bool true) := hg; simp [wantedR, Region.wanted, asBoolR, eg]) ?_ ?_
  · rintro ρ w' he ⟨h2, -⟩
    have e2 : ρ 2 = (.pointer (some ⟨n, 0, none⟩)) := h2
    have c0 := (ba.ext he).cell (i := 0) rfl
    have c1 := (ba.ext he).cell (i := 1) rfl
    simp [execOp, evR, e2, c0, c1, vecV, go_sem]
  refine tele_val rfl (vecV c d) (fun ρ w' hk => by obtain ⟨_, hg, -⟩ := hk; have eg : ρ 10 = (.bool true) := hg; simp [wantedR, Region.wanted, asBoolR, eg]) ?_ ?_
  · rintro ρ w' he ⟨h3, -⟩
    have e3 : ρ 3 = (.pointer (some ⟨n + 1, 0, none⟩)) := h3
    have c0 := (bb.ext he).cell (i := 0) rfl
    have c1 := (bb.ext he).cell (i := 1) rfl
    simp [execOp, evR, e3, c0, c1, vecV, go_sem]
  refine tele_call rfl rfl Try.func14 (by kernel_rfl) (isV (.bool (vcovers a b c d))) (fun ρ w' hk => by obtain ⟨_, _, hg, -⟩ := hk; have eg : ρ 10 = (.bool true) := hg; simp [wantedR, Region.wanted, asBoolR, eg]) ?_ ?_
  · rintro ρ w' he ⟨h11, h12, -⟩
    have e11 : ρ 11 = (vecV a b) := h11
    have e12 : ρ 12 = (vecV c d) := h12
    simp only [evR, List.map_toArray, List.map_cons, List.map_nil, e11, e12]
    refine (vecCovers_any a b c d _).mono ?_
    rintro e w'' ⟨rfl, he⟩
    exact ⟨_, rfl, he, rfl⟩
  refine tele_val rfl (vecV a b) (fun ρ w' hk => by obtain ⟨_, hg, -⟩ := hk; have eg : ρ 10 = (.bool true) := hg; simp [wantedR, Region.wanted, asBoolR, eg]) ?_ ?_
  · rintro ρ w' he ⟨h2, -⟩
    have e2 : ρ 2 = (.pointer (some ⟨n, 0, none⟩)) := h2
    have c0 := (ba.ext he).cell (i := 0) rfl
    have c1 := (ba.ext he).cell (i := 1) rfl
    simp [execOp, evR, e2, c0, c1, vecV, go_sem]
  refine tele_val rfl (vecV c d) (fun ρ w' hk => by obtain ⟨_, hg, -⟩ := hk; have eg : ρ 10 = (.bool true) := hg; simp [wantedR, Region.wanted, asBoolR, eg]) ?_ ?_
  · rintro ρ w' he ⟨h3, -⟩
    have e3 : ρ 3 = (.pointer (some ⟨n + 1, 0, none⟩)) := h3
    have c0 := (bb.ext he).cell (i := 0) rfl
    have c1 := (bb.ext he).cell (i := 1) rfl
    simp [execOp, evR, e3, c0, c1, vecV, go_sem]
  refine tele_call rfl rfl Try.func15 (by kernel_rfl) (isV (.bool (vcovers a b c d))) (fun ρ w' hk => by obtain ⟨_, _, hg, -⟩ := hk; have eg : ρ 10 = (.bool true) := hg; simp [wantedR, Region.wanted, asBoolR, eg]) ?_ ?_
  · rintro ρ w' he ⟨h14, h15, -⟩
    have e14 : ρ 14 = (vecV a b) := h14
    have e15 : ρ 15 = (vecV c d) := h15
    simp only [evR, List.map_toArray, List.map_cons, List.map_nil, e14, e15]
    refine (refCovers_any a b c d _).mono ?_
    rintro e w'' ⟨rfl, he⟩
    exact ⟨_, rfl, he, rfl⟩
  refine tele_val rfl (.bool true) (fun ρ w' hk => by obtain ⟨_, _, hg, -⟩ := hk; have eg : ρ 10 = (.bool true) := hg; simp [wantedR, Region.wanted, asBoolR, eg]) ?_ ?_
  · rintro ρ w' he ⟨h13, h16, -⟩
    have e13 : ρ 13 = (.bool (vcovers a b c d)) := h13
    have e16 : ρ 16 = (.bool (vcovers a b c d)) := h16
    simp [execOp, evR, e13, e16, go_sem]
  refine tele_val rfl (.bool true) (fun _ _ _ => rfl) ?_ ?_
  · rintro ρ w' he ⟨h10, h17, -⟩
    have e10 : ρ 10 = (.bool true) := h10
    have e17 : ρ 17 = (.bool true) := h17
    simp [execOp, evR, e10, e17, go_sem]
  refine tele_move rfl (.inl rfl) rfl (isV (.bool true)) (fun ρ w' h => h) ?_
  refine tele_val rfl (vecV a b) (fun ρ w' hk => by obtain ⟨_, hg, -⟩ := hk; have eg : ρ 19 = (.bool true) := hg; simp [wantedR, Region.wanted, asBoolR, eg]) ?_ ?_
  · rintro ρ w' he ⟨h2, -⟩
    have e2 : ρ 2 = (.pointer (some ⟨n, 0, none⟩)) := h2
    have c0 := (ba.ext he).cell (i := 0) rfl
    have c1 := (ba.ext he).cell (i := 1) rfl
    simp [execOp, evR, e2, c0, c1, vecV, go_sem]
  refine tele_val rfl (vecV c d) (fun ρ w' hk => by obtain ⟨_, hg, -⟩ := hk; have eg : ρ 19 = (.bool true) := hg; simp [wantedR, Region.wanted, asBoolR, eg]) ?_ ?_
  · rintro ρ w' he ⟨h3, -⟩
    have e3 : ρ 3 = (.pointer (some ⟨n + 1, 0, none⟩)) := h3
    have c0 := (bb.ext he).cell (i := 0) rfl
    have c1 := (bb.ext he).cell (i := 1) rfl
    simp [execOp, evR, e3, c0, c1, vecV, go_sem]
  refine tele_call rfl rfl Try.func16 (by kernel_rfl) (isV (.int .i64 (vcompare a b c d))) (fun ρ w' hk => by obtain ⟨_, _, hg, -⟩ := hk; have eg : ρ 19 = (.bool true) := hg; simp [wantedR, Region.wanted, asBoolR, eg]) ?_ ?_
  · rintro ρ w' he ⟨h20, h21, -⟩
    have e20 : ρ 20 = (vecV a b) := h20
    have e21 : ρ 21 = (vecV c d) := h21
    simp only [evR, List.map_toArray, List.map_cons, List.map_nil, e20, e21]
    refine (vecCompare_any a b c d _).mono ?_
    rintro e w'' ⟨rfl, he⟩
    exact ⟨_, rfl, he, rfl⟩
  refine tele_val rfl (vecV a b) (fun ρ w' hk => by obtain ⟨_, hg, -⟩ := hk; have eg : ρ 19 = (.bool true) := hg; simp [wantedR, Region.wanted, asBoolR, eg]) ?_ ?_
  · rintro ρ w' he ⟨h2, -⟩
    have e2 : ρ 2 = (.pointer (some ⟨n, 0, none⟩)) := h2
    have c0 := (ba.ext he).cell (i := 0) rfl
    have c1 := (ba.ext he).cell (i := 1) rfl
    simp [execOp, evR, e2, c0, c1, vecV, go_sem]
  refine tele_val rfl (vecV c d) (fun ρ w' hk => by obtain ⟨_, hg, -⟩ := hk; have eg : ρ 19 = (.bool true) := hg; simp [wantedR, Region.wanted, asBoolR, eg]) ?_ ?_
  · rintro ρ w' he ⟨h3, -⟩
    have e3 : ρ 3 = (.pointer (some ⟨n + 1, 0, none⟩)) := h3
    have c0 := (bb.ext he).cell (i := 0) rfl
    have c1 := (bb.ext he).cell (i := 1) rfl
    simp [execOp, evR, e3, c0, c1, vecV, go_sem]
  refine tele_call rfl rfl Try.func17 (by kernel_rfl) (isV (.int .i64 (vcompare a b c d))) (fun ρ w' hk => by obtain ⟨_, _, hg, -⟩ := hk; have eg : ρ 19 = (.bool true) := hg; simp [wantedR, Region.wanted, asBoolR, eg]) ?_ ?_
  · rintro ρ w' he ⟨h23, h24, -⟩
    have e23 : ρ 23 = (vecV a b) := h23
    have e24 : ρ 24 = (vecV c d) := h24
    simp only [evR, List.map_toArray, List.map_cons, List.map_nil, e23, e24]
    refine (refCompare_any a b c d _).mono ?_
    rintro e w'' ⟨rfl, he⟩
    exact ⟨_, rfl, he, rfl⟩
  refine tele_val rfl (.bool true) (fun ρ w' hk => by obtain ⟨_, _, hg, -⟩ := hk; have eg : ρ 19 = (.bool true) := hg; simp [wantedR, Region.wanted, asBoolR, eg]) ?_ ?_
  · rintro ρ w' he ⟨h22, h25, -⟩
    have e22 : ρ 22 = (.int .i64 (vcompare a b c d)) := h22
    have e25 : ρ 25 = (.int .i64 (vcompare a b c d)) := h25
    simp [execOp, evR, e22, e25, go_sem]
  refine tele_val rfl (.bool true) (fun _ _ _ => rfl) ?_ ?_
  · rintro ρ w' he ⟨h19, h26, -⟩
    have e19 : ρ 19 = (.bool true) := h19
    have e26 : ρ 26 = (.bool true) := h26
    simp [execOp, evR, e19, e26, go_sem]
  refine tele_move rfl (.inl rfl) rfl (isV (.bool true)) (fun ρ w' h => h) ?_
  refine tele_val rfl (vecV a b) (fun ρ w' hk => by obtain ⟨_, hg, -⟩ := hk; have eg : ρ 28 = (.bool true) := hg; simp [wantedR, Region.wanted, asBoolR, eg]) ?_ ?_
  · rintro ρ w' he ⟨h2, -⟩
    have e2 : ρ 2 = (.pointer (some ⟨n, 0, none⟩)) := h2
    have c0 := (ba.ext he).cell (i := 0) rfl
    have c1 := (ba.ext he).cell (i := 1) rfl
    simp [execOp, evR, e2, c0, c1, vecV, go_sem]
  refine tele_val rfl (vecV c d) (fun ρ w' hk => by obtain ⟨_, hg, -⟩ := hk; have eg : ρ 28 = (.bool true) := hg; simp [wantedR, Region.wanted, asBoolR, eg]) ?_ ?_
  · rintro ρ w' he ⟨h3, -⟩
    have e3 : ρ 3 = (.pointer (some ⟨n + 1, 0, none⟩)) := h3
    have c0 := (bb.ext he).cell (i := 0) rfl
    have c1 := (bb.ext he).cell (i := 1) rfl
    simp [execOp, evR, e3, c0, c1, vecV, go_sem]
  refine tele_call rfl rfl Try.func18 (by kernel_rfl) (isV (vecV (min a c) (min b d))) (fun ρ w' hk => by obtain ⟨_, _, hg, -⟩ := hk; have eg : ρ 28 = (.bool true) := hg; simp [wantedR, Region.wanted, asBoolR, eg]) ?_ ?_
  · rintro ρ w' he ⟨h29, h30, -⟩
    have e29 : ρ 29 = (vecV a b) := h29
    have e30 : ρ 30 = (vecV c d) := h30
    simp only [evR, List.map_toArray, List.map_cons, List.map_nil, e29, e30]
    refine (vecMeet_any a b c d _).mono ?_
    rintro e w'' ⟨rfl, he⟩
    exact ⟨_, rfl, he, rfl⟩
  refine tele_val rfl (vecV a b) (fun ρ w' hk => by obtain ⟨_, hg, -⟩ := hk; have eg : ρ 28 = (.bool true) := hg; simp [wantedR, Region.wanted, asBoolR, eg]) ?_ ?_
  · rintro ρ w' he ⟨h2, -⟩
    have e2 : ρ 2 = (.pointer (some ⟨n, 0, none⟩)) := h2
    have c0 := (ba.ext he).cell (i := 0) rfl
    have c1 := (ba.ext he).cell (i := 1) rfl
    simp [execOp, evR, e2, c0, c1, vecV, go_sem]
  refine tele_val rfl (vecV c d) (fun ρ w' hk => by obtain ⟨_, hg, -⟩ := hk; have eg : ρ 28 = (.bool true) := hg; simp [wantedR, Region.wanted, asBoolR, eg]) ?_ ?_
  · rintro ρ w' he ⟨h3, -⟩
    have e3 : ρ 3 = (.pointer (some ⟨n + 1, 0, none⟩)) := h3
    have c0 := (bb.ext he).cell (i := 0) rfl
    have c1 := (bb.ext he).cell (i := 1) rfl
    simp [execOp, evR, e3, c0, c1, vecV, go_sem]
  refine tele_call rfl rfl Try.func19 (by kernel_rfl) (isV (vecV (min a c) (min b d))) (fun ρ w' hk => by obtain ⟨_, _, hg, -⟩ := hk; have eg : ρ 28 = (.bool true) := hg; simp [wantedR, Region.wanted, asBoolR, eg]) ?_ ?_
  · rintro ρ w' he ⟨h32, h33, -⟩
    have e32 : ρ 32 = (vecV a b) := h32
    have e33 : ρ 33 = (vecV c d) := h33
    simp only [evR, List.map_toArray, List.map_cons, List.map_nil, e32, e33]
    refine (refMeet_any a b c d _).mono ?_
    rintro e w'' ⟨rfl, he⟩
    exact ⟨_, rfl, he, rfl⟩
  refine tele_val rfl (.bool true) (fun ρ w' hk => by obtain ⟨_, _, hg, -⟩ := hk; have eg : ρ 28 = (.bool true) := hg; simp [wantedR, Region.wanted, asBoolR, eg]) ?_ ?_
  · rintro ρ w' he ⟨h31, h34, -⟩
    have e31 : ρ 31 = (vecV (min a c) (min b d)) := h31
    have e34 : ρ 34 = (vecV (min a c) (min b d)) := h34
    simp [execOp, evR, e31, e34, vecV, go_sem]
  refine tele_val rfl (.bool true) (fun _ _ _ => rfl) ?_ ?_
  · rintro ρ w' he ⟨h28, h35, -⟩
    have e28 : ρ 28 = (.bool true) := h28
    have e35 : ρ 35 = (.bool true) := h35
    simp [execOp, evR, e28, e35, go_sem]
  refine tele_move rfl (.inl rfl) rfl (isV (.bool true)) (fun ρ w' h => h) ?_
  refine tele_call rfl rfl Try.func9 (by kernel_rfl) (isV (.bool true)) (fun ρ w' hk => by obtain ⟨hg, -⟩ := hk; have eg : ρ 37 = (.bool true) := hg; simp [wantedR, Region.wanted, asBoolR, eg]) ?_ ?_
  · rintro ρ w' he -
    simp only [evR, List.map_toArray, List.map_cons, List.map_nil]
    refine (lives_any _).mono ?_
    rintro e w'' ⟨rfl, he⟩
    exact ⟨_, rfl, he, rfl⟩
  refine tele_val rfl (.bool true) (fun _ _ _ => rfl) ?_ ?_
  · rintro ρ w' he ⟨h37, h38, -⟩
    have e37 : ρ 37 = (.bool true) := h37
    have e38 : ρ 38 = (.bool true) := h38
    simp [execOp, evR, e37, e38, go_sem]
  refine tele_move rfl (.inr rfl) rfl (isV (.bool true)) (fun ρ w' h => h) ?_
  refine tele_nil ?_
  rintro ρ w' hext ⟨f4, f39, f38, f37, f36, f35, f34, f33, f32, f31, f30, f29, f28, f27, f26, f25, f24, f23, f22, f21, f20, f19, f18, f17, f16, f15, f14, f13, f12, f11, f10, f9, f8, f7, f6, f5, -⟩
  replace f5 : ρ 5 = (vecV a b) := f5
  replace f6 : ρ 6 = (.bool (vgood a b)) := f6
  replace f7 : ρ 7 = (vecV a b) := f7
  replace f8 : ρ 8 = (.bool (vgood a b)) := f8
  replace f9 : ρ 9 = (.bool true) := f9
  replace f10 : ρ 10 = (.bool true) := f10
  replace f11 : ρ 11 = (vecV a b) := f11
  replace f12 : ρ 12 = (vecV c d) := f12
  replace f13 : ρ 13 = (.bool (vcovers a b c d)) := f13
  replace f14 : ρ 14 = (vecV a b) := f14
  replace f15 : ρ 15 = (vecV c d) := f15
  replace f16 : ρ 16 = (.bool (vcovers a b c d)) := f16
  replace f17 : ρ 17 = (.bool true) := f17
  replace f18 : ρ 18 = (.bool true) := f18
  replace f19 : ρ 19 = (.bool true) := f19
  replace f20 : ρ 20 = (vecV a b) := f20
  replace f21 : ρ 21 = (vecV c d) := f21
  replace f22 : ρ 22 = (.int .i64 (vcompare a b c d)) := f22
  replace f23 : ρ 23 = (vecV a b) := f23
  replace f24 : ρ 24 = (vecV c d) := f24
  replace f25 : ρ 25 = (.int .i64 (vcompare a b c d)) := f25
  replace f26 : ρ 26 = (.bool true) := f26
  replace f27 : ρ 27 = (.bool true) := f27
  replace f28 : ρ 28 = (.bool true) := f28
  replace f29 : ρ 29 = (vecV a b) := f29
  replace f30 : ρ 30 = (vecV c d) := f30
  replace f31 : ρ 31 = (vecV (min a c) (min b d)) := f31
  replace f32 : ρ 32 = (vecV a b) := f32
  replace f33 : ρ 33 = (vecV c d) := f33
  replace f34 : ρ 34 = (vecV (min a c) (min b d)) := f34
  replace f35 : ρ 35 = (.bool true) := f35
  replace f36 : ρ 36 = (.bool true) := f36
  replace f37 : ρ 37 = (.bool true) := f37
  replace f38 : ρ 38 = (.bool true) := f38
  replace f39 : ρ 39 = (.bool true) := f39
  replace f4 : ρ 4 = (.bool true) := f4
  simp only [puts, Act.put, List.setIfInBounds_toArray, List.set_cons_zero, List.set_cons_succ]
  rw [f4]
  go_wp2_with fail
  go_ret
  exact ⟨rfl, Ext.trans hx hext⟩
end Go.Proofs.Ytfhahkklkkdkoaa
