/-
  The walk of FrameWraps.
-/
import Derived.Test.YtlhnlnmhgkkbaaaFrameLives
namespace Go.Proofs.Ytlhnlnmhgkkbaaa
open Go Go.RowKit Mono Num Crc
set_option linter.unusedSimpArgs false
set_option linter.unusedVariables false

set_option maxHeartbeats 2000000 in
theorem frameWraps_walk (v : Value) (l : List UInt8) (w : World) (hv : Bs w v l) (hz : l.length * 1 ≤ 140737488351232) :
    Calls Try.prog 3 #[v] w fun e w' => e = .returned (.bool true) ∧ Ext w w' := by
  obtain ⟨A, c, rfl, h1, h2, _, _⟩ := hv.open_
  unfold maxLen at h2
  by_cases hl : 20000 < l.length ∧ l.length ≤ 1048576
  · go_enter Try.func3, Try.ntmps3
    go_wp2_with fail
    refine (lives_any _).mono ?_
    rintro e w' ⟨rfl, he⟩
    go_wp2_with fail
    go_ret
    exact ⟨rfl, he⟩
  · go_enter Try.func3, Try.ntmps3
    by_cases h20 : 20000 < l.length
    · have h10 : 1048576 < l.length := by omega
      go_wp2_with (at_builtin; refine wpList_append_bs _ rfl (.tmp 13) (.tmp 14) rfl (OwB.empty_ w (Nat.le_refl _)) (hv.ext (ext_alloc _ _)) rfl rfl (by simp; omega) (by simp) ?_; intro v1 w2 hown1 hg1 hat1; have hx : Ext w w2 := Below.growB (ext_alloc _ _) (OwB.empty_ w (Nat.le_refl _)) hg1 (Nat.le_refl _) (by simp); rw [List.nil_append] at hown1)
      have hob := hown1.bs
      clear hown1 hg1 hat1
      refine wp_region_mono (by kernel_rfl) (by kernel_rfl) ?_
      refine tele_move rfl (.inl rfl) rfl (isV (v1)) (fun ρ w' h => h) ?_
      refine tele_call rfl rfl Try.func10 (by kernel_rfl) (isBs (wrap l)) (fun _ _ _ => rfl) ?_ ?_
      · rintro ρ w' he ⟨h16, -⟩
        have e16 : ρ 16 = (v1) := h16
        simp only [evR, List.map_toArray, List.map_cons, List.map_nil, e16]
        refine (fWrap_any _ l _ (hob.ext he)).mono ?_
        rintro e w'' ⟨r, rfl, h, he'⟩
        exact ⟨_, rfl, he', h.bs⟩
      refine tele_val rfl (strV (wrap l)) (fun _ _ _ => rfl) ?_ ?_
      · rintro ρ w' he ⟨h17, -⟩
        have e17 : Bs w' (ρ 17) (wrap l) := h17
        have c := e17.str_ (P := Try.prog) 22 9 5 Try.underlying22 Try.underlying5 Try.underlying9
        simp [execOp, evR, c]
      refine tele_move rfl (.inl rfl) rfl (isV (.slice A l.length c)) (fun ρ w' h => h) ?_
      refine tele_call rfl rfl Try.func11 (by kernel_rfl) (isBs (wrap l)) (fun _ _ _ => rfl) ?_ ?_
      · rintro ρ w' he ⟨h19, -⟩
        have e19 : ρ 19 = (.slice A l.length c) := h19
        simp only [evR, List.map_toArray, List.map_cons, List.map_nil, e19]
        refine (rWrap_any _ l _ ((hv.ext hx).ext he)).mono ?_
        rintro e w'' ⟨r, rfl, h, he'⟩
        exact ⟨_, rfl, he', h.bs⟩
      refine tele_val rfl (strV (wrap l)) (fun _ _ _ => rfl) ?_ ?_
      · rintro ρ w' he ⟨h20, -⟩
        have e20 : Bs w' (ρ 20) (wrap l) := h20
        have c := e20.str_ (P := Try.prog) 22 9 5 Try.underlying22 Try.underlying5 Try.underlying9
        simp [execOp, evR, c]
      refine tele_val rfl (.bool true) (fun _ _ _ => rfl) ?_ ?_
      · rintro ρ w' he ⟨h18, h21, -⟩
        have e18 : ρ 18 = (strV (wrap l)) := h18
        have e21 : ρ 21 = (strV (wrap l)) := h21
        exact (exec_eql_str rfl e18 e21).trans (by simp)
      refine tele_move rfl (.inl rfl) rfl (isV (.bool true)) (fun ρ w' h => h) ?_
      refine tele_val rfl ((v1)) (fun ρ w' hk => by obtain ⟨_, hg, -⟩ := hk; have eg : ρ 23 = (.bool true) := hg; simp [wantedR, Region.wanted, asBoolR, eg]) ?_ ?_
      · rintro ρ w' he ⟨h3, -⟩
        have e3 : ρ 3 = (v1) := h3
        simp [execOp, evR, e3]
      refine tele_val rfl (strV (l)) (fun ρ w' hk => by obtain ⟨_, hg, -⟩ := hk; have eg : ρ 23 = (.bool true) := hg; simp [wantedR, Region.wanted, asBoolR, eg]) ?_ ?_
      · rintro ρ w' he ⟨h24, -⟩
        have e24 : ρ 24 = (v1) := h24
        have c := (hob.ext he).str_ (P := Try.prog) 22 9 5 Try.underlying22 Try.underlying5 Try.underlying9
        simp [execOp, evR, e24, c]
      refine tele_val rfl ((.slice A l.length c)) (fun ρ w' hk => by obtain ⟨_, hg, -⟩ := hk; have eg : ρ 23 = (.bool true) := hg; simp [wantedR, Region.wanted, asBoolR, eg]) ?_ ?_
      · rintro ρ w' he ⟨h0, -⟩
        have e0 : ρ 0 = (.slice A l.length c) := h0
        simp [execOp, evR, e0]
      refine tele_val rfl (strV (l)) (fun ρ w' hk => by obtain ⟨_, hg, -⟩ := hk; have eg : ρ 23 = (.bool true) := hg; simp [wantedR, Region.wanted, asBoolR, eg]) ?_ ?_
      · rintro ρ w' he ⟨h26, -⟩
        have e26 : ρ 26 = (.slice A l.length c) := h26
        have c := ((hv.ext hx).ext he).str_ (P := Try.prog) 22 9 5 Try.underlying22 Try.underlying5 Try.underlying9
        simp [execOp, evR, e26, c]
      refine tele_val rfl (.bool true) (fun ρ w' hk => by obtain ⟨_, _, hg, -⟩ := hk; have eg : ρ 23 = (.bool true) := hg; simp [wantedR, Region.wanted, asBoolR, eg]) ?_ ?_
      · rintro ρ w' he ⟨h25, h27, -⟩
        have e25 : ρ 25 = (strV (l)) := h25
        have e27 : ρ 27 = (strV (l)) := h27
        exact (exec_eql_str rfl e25 e27).trans (by simp)
      refine tele_val rfl (.bool true) (fun _ _ _ => rfl) ?_ ?_
      · rintro ρ w' he ⟨h23, h28, -⟩
        have e23 : ρ 23 = (.bool true) := h23
        have e28 : ρ 28 = (.bool true) := h28
        simp [execOp, evR, e23, e28, go_sem]
      refine tele_move rfl (.inl rfl) rfl (isV (.bool true)) (fun ρ w' h => h) ?_
      refine tele_call rfl rfl Try.func9 (by kernel_rfl) (isV (.bool true)) (fun ρ w' hk => by obtain ⟨hg, -⟩ := hk; have eg : ρ 30 = (.bool true) := hg; simp [wantedR, Region.wanted, asBoolR, eg]) ?_ ?_
      · rintro ρ w' he -
        simp only [evR, List.map_toArray, List.map_cons, List.map_nil]
        refine (lives_any _).mono ?_
        rintro e w'' ⟨rfl, he⟩
        exact ⟨_, rfl, he, rfl⟩
      refine tele_val rfl (.bool true) (fun _ _ _ => rfl) ?_ ?_
      · rintro ρ w' he ⟨h30, h31, -⟩
        have e30 : ρ 30 = (.bool true) := h30
        have e31 : ρ 31 = (.bool true) := h31
        simp [execOp, evR, e30, e31, go_sem]
      refine tele_move rfl (.inr rfl) rfl (isV (.bool true)) (fun ρ w' h => h) ?_
      refine tele_nil ?_
      rintro ρ w' hext ⟨f2, f32, f31, f30, f29, f28, f27, f26, f25, f24, f23, f22, f21, f20, f19, f18, f17, f16, -⟩
      replace f16 : ρ 16 = (v1) := f16
      replace f17 : Bs w' (ρ 17) (wrap l) := f17
      replace f18 : ρ 18 = (strV (wrap l)) := f18
      replace f19 : ρ 19 = (.slice A l.length c) := f19
      replace f20 : Bs w' (ρ 20) (wrap l) := f20
      replace f21 : ρ 21 = (strV (wrap l)) := f21
      replace f22 : ρ 22 = (.bool true) := f22
      replace f23 : ρ 23 = (.bool true) := f23
      replace f24 : ρ 24 = (v1) := f24
      replace f25 : ρ 25 = (strV (l)) := f25
      replace f26 : ρ 26 = (.slice A l.length c) := f26
      replace f27 : ρ 27 = (strV (l)) := f27
      replace f28 : ρ 28 = (.bool true) := f28
      replace f29 : ρ 29 = (.bool true) := f29
      replace f30 : ρ 30 = (.bool true) := f30
      replace f31 : ρ 31 = (.bool true) := f31
      replace f32 : ρ 32 = (.bool true) := f32
      replace f2 : ρ 2 = (.bool true) := f2
      simp only [puts, Act.put, List.setIfInBounds_toArray, List.set_cons_zero, List.set_cons_succ]
      go_wp2_with fail
      go_ret
      exact ⟨congrArg Ending.returned f2, Ext.trans hx hext⟩
    · go_wp2_with (at_builtin; refine wpList_append_bs _ rfl (.tmp 13) (.tmp 14) rfl (OwB.empty_ w (Nat.le_refl _)) (hv.ext (ext_alloc _ _)) rfl rfl (by simp; omega) (by simp) ?_; intro v1 w2 hown1 hg1 hat1; have hx : Ext w w2 := Below.growB (ext_alloc _ _) (OwB.empty_ w (Nat.le_refl _)) hg1 (Nat.le_refl _) (by simp); rw [List.nil_append] at hown1)
      have hob := hown1.bs
      clear hown1 hg1 hat1
      refine wp_region_mono (by kernel_rfl) (by kernel_rfl) ?_
      refine tele_move rfl (.inl rfl) rfl (isV (v1)) (fun ρ w' h => h) ?_
      refine tele_call rfl rfl Try.func10 (by kernel_rfl) (isBs (wrap l)) (fun _ _ _ => rfl) ?_ ?_
      · rintro ρ w' he ⟨h16, -⟩
        have e16 : ρ 16 = (v1) := h16
        simp only [evR, List.map_toArray, List.map_cons, List.map_nil, e16]
        refine (fWrap_any _ l _ (hob.ext he)).mono ?_
        rintro e w'' ⟨r, rfl, h, he'⟩
        exact ⟨_, rfl, he', h.bs⟩
      refine tele_val rfl (strV (wrap l)) (fun _ _ _ => rfl) ?_ ?_
      · rintro ρ w' he ⟨h17, -⟩
        have e17 : Bs w' (ρ 17) (wrap l) := h17
        have c := e17.str_ (P := Try.prog) 22 9 5 Try.underlying22 Try.underlying5 Try.underlying9
        simp [execOp, evR, c]
      refine tele_move rfl (.inl rfl) rfl (isV (.slice A l.length c)) (fun ρ w' h => h) ?_
      refine tele_call rfl rfl Try.func11 (by kernel_rfl) (isBs (wrap l)) (fun _ _ _ => rfl) ?_ ?_
      · rintro ρ w' he ⟨h19, -⟩
        have e19 : ρ 19 = (.slice A l.length c) := h19
        simp only [evR, List.map_toArray, List.map_cons, List.map_nil, e19]
        refine (rWrap_any _ l _ ((hv.ext hx).ext he)).mono ?_
        rintro e w'' ⟨r, rfl, h, he'⟩
        exact ⟨_, rfl, he', h.bs⟩
      refine tele_val rfl (strV (wrap l)) (fun _ _ _ => rfl) ?_ ?_
      · rintro ρ w' he ⟨h20, -⟩
        have e20 : Bs w' (ρ 20) (wrap l) := h20
        have c := e20.str_ (P := Try.prog) 22 9 5 Try.underlying22 Try.underlying5 Try.underlying9
        simp [execOp, evR, c]
      refine tele_val rfl (.bool true) (fun _ _ _ => rfl) ?_ ?_
      · rintro ρ w' he ⟨h18, h21, -⟩
        have e18 : ρ 18 = (strV (wrap l)) := h18
        have e21 : ρ 21 = (strV (wrap l)) := h21
        exact (exec_eql_str rfl e18 e21).trans (by simp)
      refine tele_move rfl (.inl rfl) rfl (isV (.bool true)) (fun ρ w' h => h) ?_
      refine tele_val rfl ((v1)) (fun ρ w' hk => by obtain ⟨_, hg, -⟩ := hk; have eg : ρ 23 = (.bool true) := hg; simp [wantedR, Region.wanted, asBoolR, eg]) ?_ ?_
      · rintro ρ w' he ⟨h3, -⟩
        have e3 : ρ 3 = (v1) := h3
        simp [execOp, evR, e3]
      refine tele_val rfl (strV (l)) (fun ρ w' hk => by obtain ⟨_, hg, -⟩ := hk; have eg : ρ 23 = (.bool true) := hg; simp [wantedR, Region.wanted, asBoolR, eg]) ?_ ?_
      · rintro ρ w' he ⟨h24, -⟩
        have e24 : ρ 24 = (v1) := h24
        have c := (hob.ext he).str_ (P := Try.prog) 22 9 5 Try.underlying22 Try.underlying5 Try.underlying9
        simp [execOp, evR, e24, c]
      refine tele_val rfl ((.slice A l.length c)) (fun ρ w' hk => by obtain ⟨_, hg, -⟩ := hk; have eg : ρ 23 = (.bool true) := hg; simp [wantedR, Region.wanted, asBoolR, eg]) ?_ ?_
      · rintro ρ w' he ⟨h0, -⟩
        have e0 : ρ 0 = (.slice A l.length c) := h0
        simp [execOp, evR, e0]
      refine tele_val rfl (strV (l)) (fun ρ w' hk => by obtain ⟨_, hg, -⟩ := hk; have eg : ρ 23 = (.bool true) := hg; simp [wantedR, Region.wanted, asBoolR, eg]) ?_ ?_
      · rintro ρ w' he ⟨h26, -⟩
        have e26 : ρ 26 = (.slice A l.length c) := h26
        have c := ((hv.ext hx).ext he).str_ (P := Try.prog) 22 9 5 Try.underlying22 Try.underlying5 Try.underlying9
        simp [execOp, evR, e26, c]
      refine tele_val rfl (.bool true) (fun ρ w' hk => by obtain ⟨_, _, hg, -⟩ := hk; have eg : ρ 23 = (.bool true) := hg; simp [wantedR, Region.wanted, asBoolR, eg]) ?_ ?_
      · rintro ρ w' he ⟨h25, h27, -⟩
        have e25 : ρ 25 = (strV (l)) := h25
        have e27 : ρ 27 = (strV (l)) := h27
        exact (exec_eql_str rfl e25 e27).trans (by simp)
      refine tele_val rfl (.bool true) (fun _ _ _ => rfl) ?_ ?_
      · rintro ρ w' he ⟨h23, h28, -⟩
        have e23 : ρ 23 = (.bool true) := h23
        have e28 : ρ 28 = (.bool true) := h28
        simp [execOp, evR, e23, e28, go_sem]
      refine tele_move rfl (.inl rfl) rfl (isV (.bool true)) (fun ρ w' h => h) ?_
      refine tele_call rfl rfl Try.func9 (by kernel_rfl) (isV (.bool true)) (fun ρ w' hk => by obtain ⟨hg, -⟩ := hk; have eg : ρ 30 = (.bool true) := hg; simp [wantedR, Region.wanted, asBoolR, eg]) ?_ ?_
      · rintro ρ w' he -
        simp only [evR, List.map_toArray, List.map_cons, List.map_nil]
        refine (lives_any _).mono ?_
        rintro e w'' ⟨rfl, he⟩
        exact ⟨_, rfl, he, rfl⟩
      refine tele_val rfl (.bool true) (fun _ _ _ => rfl) ?_ ?_
      · rintro ρ w' he ⟨h30, h31, -⟩
        have e30 : ρ 30 = (.bool true) := h30
        have e31 : ρ 31 = (.bool true) := h31
        simp [execOp, evR, e30, e31, go_sem]
      refine tele_move rfl (.inr rfl) rfl (isV (.bool true)) (fun ρ w' h => h) ?_
      refine tele_nil ?_
      rintro ρ w' hext ⟨f2, f32, f31, f30, f29, f28, f27, f26, f25, f24, f23, f22, f21, f20, f19, f18, f17, f16, -⟩
      replace f16 : ρ 16 = (v1) := f16
      replace f17 : Bs w' (ρ 17) (wrap l) := f17
      replace f18 : ρ 18 = (strV (wrap l)) := f18
      replace f19 : ρ 19 = (.slice A l.length c) := f19
      replace f20 : Bs w' (ρ 20) (wrap l) := f20
      replace f21 : ρ 21 = (strV (wrap l)) := f21
      replace f22 : ρ 22 = (.bool true) := f22
      replace f23 : ρ 23 = (.bool true) := f23
      replace f24 : ρ 24 = (v1) := f24
      replace f25 : ρ 25 = (strV (l)) := f25
      replace f26 : ρ 26 = (.slice A l.length c) := f26
      replace f27 : ρ 27 = (strV (l)) := f27
      replace f28 : ρ 28 = (.bool true) := f28
      replace f29 : ρ 29 = (.bool true) := f29
      replace f30 : ρ 30 = (.bool true) := f30
      replace f31 : ρ 31 = (.bool true) := f31
      replace f32 : ρ 32 = (.bool true) := f32
      replace f2 : ρ 2 = (.bool true) := f2
      simp only [puts, Act.put, List.setIfInBounds_toArray, List.set_cons_zero, List.set_cons_succ]
      go_wp2_with fail
      go_ret
      exact ⟨congrArg Ending.returned f2, Ext.trans hx hext⟩
end Go.Proofs.Ytlhnlnmhgkkbaaa
