/-
  The walk of StampOrders.
-/
import Derived.Test.YtnjnbjcibdeihaaDoorStLater
namespace Go.Proofs.YtnjnbjcibdeihaaDoor
open Go Go.RowKit Mono
set_option linter.unusedVariables false
set_option linter.unusedSimpArgs false

set_option maxHeartbeats 4000000 in
theorem stampOrders_walk (a b c d : Int) (v : Value) (l : List (Int × Int)) (w : World) (hv : Vs w v l) :
    Calls Tryd.prog 5 #[stV a b, stV c d, v] w fun e w' => e = .returned (.bool true) ∧ Ext w w' := by
  have HL := Lib.hid (fun w => lives_any w)
  have hV := hv
  obtain ⟨A, z, rfl, h1, h2, h3, h4⟩ := hv.at_
  clear h4
  by_cases hl : 1000 < l.length
  · unfold stV
    go_enter Tryd.func5, Tryd.ntmps5
    go_wp2_with fail
    refine (HL.out _).mono ?_
    rintro e w' ⟨rfl, he⟩
    go_wp2_with fail
    go_ret
    exact ⟨rfl, Ext.trans (Ext.trans (ext_alloc _ _) (ext_alloc _ _)) he⟩
  · have HG := Lib.hid (fun w => stGood_any a b w)
    have HR := Lib.hid (fun w => refSGood_any a b w)
    have HS := Lib.hid (fun w => stLess_any a b c d w)
    have HT := Lib.hid (fun w => refSLess_any a b c d w)
    have HA := Lib.hid (fun w hw => stLater_any (.slice A l.length z) l w hw)
    have HB := Lib.hid (fun w hw => refLater_any (.slice A l.length z) l w hw)
    generalize sgood a b = g at *
    generalize sless a b c d = s at *
    generalize slater l = o at *
    obtain ⟨o1, o2⟩ := o
    unfold stV at *
    dsimp only at HA HB
    go_enter Tryd.func5, Tryd.ntmps5
    go_wp2_with fail
    have hx : Ext w ((w.alloc (.cells #[.int .i64 a, .int .i64 b] 23)).alloc (.cells #[.int .i64 c, .int .i64 d] 23)) := Ext.trans (ext_alloc _ _) (ext_alloc _ _)
    have ba := (Blk.new w #[.int .i64 a, .int .i64 b] 23).ext (ext_alloc _ (.cells #[.int .i64 c, .int .i64 d] 23))
    have bb := Blk.new (w.alloc (.cells #[.int .i64 a, .int .i64 b] 23)) #[.int .i64 c, .int .i64 d] 23
    simp only [World.size_alloc] at bb
    replace hV := hV.ext hx
    generalize (w.alloc (.cells #[.int .i64 a, .int .i64 b] 23)).alloc (.cells #[.int .i64 c, .int .i64 d] 23) = W0 at *
    refine wp_region_mono (by kernel_rfl) (by kernel_rfl) ?_
    refine tele_val rfl (.agg #[.int .i64 a, .int .i64 b]) (fun _ _ _ => rfl) ?_ ?_
    · rintro ρ w' he ⟨h3, -⟩
      have e3 : ρ 3 = (.pointer (some ⟨w.heap.size, 0, none⟩)) := h3
      have c1 := (ba.ext he).cell (i := 0) rfl
      have c2 := (ba.ext he).cell (i := 1) rfl
      simp [execOp, evR, e3, c1, c2, go_sem]
    refine tele_call rfl rfl Tryd.func12 (by kernel_rfl) (isV (.bool g)) (fun _ _ _ => rfl) ?_ ?_
    · rintro ρ w' he ⟨h11, -⟩
      have e11 : ρ 11 = (.agg #[.int .i64 a, .int .i64 b]) := h11
      simp only [evR, List.map_toArray, List.map_cons, List.map_nil, e11]
      refine (HG.out _).mono ?_
      rintro e w'' ⟨rfl, he⟩
      exact ⟨_, rfl, he, rfl⟩
    refine tele_val rfl (.agg #[.int .i64 a, .int .i64 b]) (fun _ _ _ => rfl) ?_ ?_
    · rintro ρ w' he ⟨h3, -⟩
      have e3 : ρ 3 = (.pointer (some ⟨w.heap.size, 0, none⟩)) := h3
      have c1 := (ba.ext he).cell (i := 0) rfl
      have c2 := (ba.ext he).cell (i := 1) rfl
      simp [execOp, evR, e3, c1, c2, go_sem]
    refine tele_call rfl rfl Tryd.func14 (by kernel_rfl) (isV (.bool g)) (fun _ _ _ => rfl) ?_ ?_
    · rintro ρ w' he ⟨h13, -⟩
      have e13 : ρ 13 = (.agg #[.int .i64 a, .int .i64 b]) := h13
      simp only [evR, List.map_toArray, List.map_cons, List.map_nil, e13]
      refine (HR.out _).mono ?_
      rintro e w'' ⟨rfl, he⟩
      exact ⟨_, rfl, he, rfl⟩
    refine tele_val rfl (.bool true) (fun _ _ _ => rfl) ?_ ?_
    · rintro ρ w' he ⟨h12, h14, -⟩
      have e12 : ρ 12 = (.bool g) := h12
      have e14 : ρ 14 = (.bool g) := h14
      simp [execOp, evR, e12, e14, go_sem]
    refine tele_move rfl (.inl rfl) rfl (isV (.bool true)) (fun ρ w' h => h) ?_
    refine tele_val rfl (.agg #[.int .i64 a, .int .i64 b]) (fun ρ w' hk => by obtain ⟨_, hg, -⟩ := hk; have eg : ρ 16 = (.bool true) := hg; simp [wantedR, Region.wanted, asBoolR, eg]) ?_ ?_
    · rintro ρ w' he ⟨h3, -⟩
      have e3 : ρ 3 = (.pointer (some ⟨w.heap.size, 0, none⟩)) := h3
      have c1 := (ba.ext he).cell (i := 0) rfl
      have c2 := (ba.ext he).cell (i := 1) rfl
      simp [execOp, evR, e3, c1, c2, go_sem]
    refine tele_val rfl (.agg #[.int .i64 c, .int .i64 d]) (fun ρ w' hk => by obtain ⟨_, hg, -⟩ := hk; have eg : ρ 16 = (.bool true) := hg; simp [wantedR, Region.wanted, asBoolR, eg]) ?_ ?_
    · rintro ρ w' he ⟨h4, -⟩
      have e4 : ρ 4 = (.pointer (some ⟨(w.heap.size + 1), 0, none⟩)) := h4
      have c1 := (bb.ext he).cell (i := 0) rfl
      have c2 := (bb.ext he).cell (i := 1) rfl
      simp [execOp, evR, e4, c1, c2, go_sem]
    refine tele_call rfl rfl Tryd.func13 (by kernel_rfl) (isV (.bool s)) (fun ρ w' hk => by obtain ⟨_, _, hg, -⟩ := hk; have eg : ρ 16 = (.bool true) := hg; simp [wantedR, Region.wanted, asBoolR, eg]) ?_ ?_
    · rintro ρ w' he ⟨h17, h18, -⟩
      have e17 : ρ 17 = (.agg #[.int .i64 a, .int .i64 b]) := h17
      have e18 : ρ 18 = (.agg #[.int .i64 c, .int .i64 d]) := h18
      simp only [evR, List.map_toArray, List.map_cons, List.map_nil, e17, e18]
      refine (HS.out _).mono ?_
      rintro e w'' ⟨rfl, he⟩
      exact ⟨_, rfl, he, rfl⟩
    refine tele_val rfl (.agg #[.int .i64 a, .int .i64 b]) (fun ρ w' hk => by obtain ⟨_, hg, -⟩ := hk; have eg : ρ 16 = (.bool true) := hg; simp [wantedR, Region.wanted, asBoolR, eg]) ?_ ?_
    · rintro ρ w' he ⟨h3, -⟩
      have e3 : ρ 3 = (.pointer (some ⟨w.heap.size, 0, none⟩)) := h3
      have c1 := (ba.ext he).cell (i := 0) rfl
      have c2 := (ba.ext he).cell (i := 1) rfl
      simp [execOp, evR, e3, c1, c2, go_sem]
    refine tele_val rfl (.agg #[.int .i64 c, .int .i64 d]) (fun ρ w' hk => by obtain ⟨_, hg, -⟩ := hk; have eg : ρ 16 = (.bool true) := hg; simp [wantedR, Region.wanted, asBoolR, eg]) ?_ ?_
    · rintro ρ w' he ⟨h4, -⟩
      have e4 : ρ 4 = (.pointer (some ⟨(w.heap.size + 1), 0, none⟩)) := h4
      have c1 := (bb.ext he).cell (i := 0) rfl
      have c2 := (bb.ext he).cell (i := 1) rfl
      simp [execOp, evR, e4, c1, c2, go_sem]
    refine tele_call rfl rfl Tryd.func15 (by kernel_rfl) (isV (.bool s)) (fun ρ w' hk => by obtain ⟨_, _, hg, -⟩ := hk; have eg : ρ 16 = (.bool true) := hg; simp [wantedR, Region.wanted, asBoolR, eg]) ?_ ?_
    · rintro ρ w' he ⟨h20, h21, -⟩
      have e20 : ρ 20 = (.agg #[.int .i64 a, .int .i64 b]) := h20
      have e21 : ρ 21 = (.agg #[.int .i64 c, .int .i64 d]) := h21
      simp only [evR, List.map_toArray, List.map_cons, List.map_nil, e20, e21]
      refine (HT.out _).mono ?_
      rintro e w'' ⟨rfl, he⟩
      exact ⟨_, rfl, he, rfl⟩
    refine tele_val rfl (.bool true) (fun ρ w' hk => by obtain ⟨_, _, hg, -⟩ := hk; have eg : ρ 16 = (.bool true) := hg; simp [wantedR, Region.wanted, asBoolR, eg]) ?_ ?_
    · rintro ρ w' he ⟨h19, h22, -⟩
      have e19 : ρ 19 = (.bool s) := h19
      have e22 : ρ 22 = (.bool s) := h22
      simp [execOp, evR, e19, e22, go_sem]
    refine tele_val rfl (.bool true) (fun _ _ _ => rfl) ?_ ?_
    · rintro ρ w' he ⟨h16, h23, -⟩
      have e16 : ρ 16 = (.bool true) := h16
      have e23 : ρ 23 = (.bool true) := h23
      simp [execOp, evR, e16, e23, go_sem]
    refine tele_move rfl (.inl rfl) rfl (isV (.bool true)) (fun ρ w' h => h) ?_
    refine tele_val rfl ((.slice A l.length z)) (fun ρ w' hk => by obtain ⟨_, hg, -⟩ := hk; have eg : ρ 25 = (.bool true) := hg; simp [wantedR, Region.wanted, asBoolR, eg]) ?_ ?_
    · rintro ρ w' he ⟨h2, -⟩
      have e2 : ρ 2 = (.slice A l.length z) := h2
      simp [execOp, evR, e2]
    refine tele_call rfl rfl Tryd.func16 (by kernel_rfl) (isV (.agg #[.int .i64 o1, .int .i64 o2])) (fun ρ w' hk => by obtain ⟨_, hg, -⟩ := hk; have eg : ρ 25 = (.bool true) := hg; simp [wantedR, Region.wanted, asBoolR, eg]) ?_ ?_
    · rintro ρ w' he ⟨h26, -⟩
      have e26 : ρ 26 = (.slice A l.length z) := h26
      simp only [evR, List.map_toArray, List.map_cons, List.map_nil, e26]
      refine (HA.out _ (hV.ext he)).mono ?_
      rintro e w'' ⟨rfl, he⟩
      exact ⟨_, rfl, he, rfl⟩
    refine tele_val rfl ((.slice A l.length z)) (fun ρ w' hk => by obtain ⟨_, hg, -⟩ := hk; have eg : ρ 25 = (.bool true) := hg; simp [wantedR, Region.wanted, asBoolR, eg]) ?_ ?_
    · rintro ρ w' he ⟨h2, -⟩
      have e2 : ρ 2 = (.slice A l.length z) := h2
      simp [execOp, evR, e2]
    refine tele_call rfl rfl Tryd.func17 (by kernel_rfl) (isV (.agg #[.int .i64 o1, .int .i64 o2])) (fun ρ w' hk => by obtain ⟨_, hg, -⟩ := hk; have eg : ρ 25 = (.bool true) := hg; simp [wantedR, Region.wanted, asBoolR, eg]) ?_ ?_
    · rintro ρ w' he ⟨h28, -⟩
      have e28 : ρ 28 = (.slice A l.length z) := h28
      simp only [evR, List.map_toArray, List.map_cons, List.map_nil, e28]
      refine (HB.out _ (hV.ext he)).mono ?_
      rintro e w'' ⟨rfl, he⟩
      exact ⟨_, rfl, he, rfl⟩
    refine tele_val rfl (.bool true) (fun ρ w' hk => by obtain ⟨_, _, hg, -⟩ := hk; have eg : ρ 25 = (.bool true) := hg; simp [wantedR, Region.wanted, asBoolR, eg]) ?_ ?_
    · rintro ρ w' he ⟨h27, h29, -⟩
      have e27 : ρ 27 = (.agg #[.int .i64 o1, .int .i64 o2]) := h27
      have e29 : ρ 29 = (.agg #[.int .i64 o1, .int .i64 o2]) := h29
      simp [execOp, evR, e27, e29, go_sem]
    refine tele_val rfl (.bool true) (fun _ _ _ => rfl) ?_ ?_
    · rintro ρ w' he ⟨h25, h30, -⟩
      have e25 : ρ 25 = (.bool true) := h25
      have e30 : ρ 30 = (.bool true) := h30
      simp [execOp, evR, e25, e30, go_sem]
    refine tele_move rfl (.inl rfl) rfl (isV (.bool true)) (fun ρ w' h => h) ?_
    refine tele_call rfl rfl Tryd.func11 (by kernel_rfl) (isV (.bool true)) (fun ρ w' hk => by obtain ⟨hg, -⟩ := hk; have eg : ρ 32 = (.bool true) := hg; simp [wantedR, Region.wanted, asBoolR, eg]) ?_ ?_
    · rintro ρ w' he -
      simp only [evR, List.map_toArray, List.map_cons, List.map_nil]
      refine (lives_any _).mono ?_
      rintro e w'' ⟨rfl, he⟩
      exact ⟨_, rfl, he, rfl⟩
    refine tele_val rfl (.bool true) (fun _ _ _ => rfl) ?_ ?_
    · rintro ρ w' he ⟨h32, h33, -⟩
      have e32 : ρ 32 = (.bool true) := h32
      have e33 : ρ 33 = (.bool true) := h33
      simp [execOp, evR, e32, e33, go_sem]
    refine tele_move rfl (.inr rfl) rfl (isV (.bool true)) (fun ρ w' h => h) ?_
    refine tele_nil ?_
    rintro ρ w' hext ⟨f6, f34, f33, f32, f31, f30, f29, f28, f27, f26, f25, f24, f23, f22, f21, f20, f19, f18, f17, f16, f15, f14, f13, f12, f11, -⟩
    replace f11 : ρ 11 = (.agg #[.int .i64 a, .int .i64 b]) := f11
    replace f12 : ρ 12 = (.bool g) := f12
    replace f13 : ρ 13 = (.agg #[.int .i64 a, .int .i64 b]) := f13
    replace f14 : ρ 14 = (.bool g) := f14
    replace f15 : ρ 15 = (.bool true) := f15
    replace f16 : ρ 16 = (.bool true) := f16
    replace f17 : ρ 17 = (.agg #[.int .i64 a, .int .i64 b]) := f17
    replace f18 : ρ 18 = (.agg #[.int .i64 c, .int .i64 d]) := f18
    replace f19 : ρ 19 = (.bool s) := f19
    replace f20 : ρ 20 = (.agg #[.int .i64 a, .int .i64 b]) := f20
    replace f21 : ρ 21 = (.agg #[.int .i64 c, .int .i64 d]) := f21
    replace f22 : ρ 22 = (.bool s) := f22
    replace f23 : ρ 23 = (.bool true) := f23
    replace f24 : ρ 24 = (.bool true) := f24
    replace f25 : ρ 25 = (.bool true) := f25
    replace f26 : ρ 26 = (.slice A l.length z) := f26
    replace f27 : ρ 27 = (.agg #[.int .i64 o1, .int .i64 o2]) := f27
    replace f28 : ρ 28 = (.slice A l.length z) := f28
    replace f29 : ρ 29 = (.agg #[.int .i64 o1, .int .i64 o2]) := f29
    replace f30 : ρ 30 = (.bool true) := f30
    replace f31 : ρ 31 = (.bool true) := f31
    replace f32 : ρ 32 = (.bool true) := f32
    replace f33 : ρ 33 = (.bool true) := f33
    replace f34 : ρ 34 = (.bool true) := f34
    replace f6 : ρ 6 = (.bool true) := f6
    simp only [puts, Act.put, List.setIfInBounds_toArray, List.set_cons_zero, List.set_cons_succ]
    rw [f6]
    go_wp2_with fail
    go_ret
    exact ⟨rfl, Ext.trans hx hext⟩
end Go.Proofs.YtnjnbjcibdeihaaDoor
