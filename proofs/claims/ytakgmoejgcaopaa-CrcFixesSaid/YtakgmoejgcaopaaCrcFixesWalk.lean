/-
  The walk of CrcFixes.
-/
import Derived.Test.YtakgmoejgcaopaaCrcLaws
namespace Go.Proofs.Ytakgmoejgcaopaa
open Go.RowKit Mono Crc
set_option linter.unusedSimpArgs false
set_option linter.unusedVariables false

set_option maxHeartbeats 1000000 in
theorem crcFixes_walk (v : Value) (l : List UInt8) (w : World) (hv : Bs w v l) :
    Calls Try.prog 5 #[v] w fun e w' => e = .returned (.bool true) ∧ Ext w w' := by
  obtain ⟨A, c, rfl, h1, h2, _, _⟩ := hv.open_
  unfold maxLen at h2
  by_cases hl : 20000 < l.length
  · go_enter Try.func5, Try.ntmps5
    go_wp2_with fail
    refine (lives_any w).mono ?_
    rintro e w' ⟨rfl, he⟩
    go_wp2_with fail
    go_ret
    exact ⟨rfl, he⟩
  · go_enter Try.func5, Try.ntmps5
    go_wp2_with (at_builtin; refine wpList_append_bs _ rfl (.tmp 9) (.tmp 10) rfl (OwB.empty_ w (Nat.le_refl _)) (hv.ext (ext_alloc _ _)) rfl rfl (by simp; omega) (by simp) ?_; intro v1 w1 hown1 hg1 hat1; have hb1 : Ext w w1 := Below.growB (ext_alloc w _) (OwB.empty_ w (Nat.le_refl _)) hg1 (Nat.le_refl _) (by simp))
    rw [List.nil_append] at hown1
    refine (crcFix_any v1 l w1 hown1.bs (by omega)).mono ?_
    rintro e w2 ⟨r, rfl, hfix, hb2⟩
    have hv2 := hv.ext (hb1.trans hb2)
    have hown := hown1.bs.ext hb2
    have hF := hfix.bs
    have hx2 := hb1.trans hb2
    clear hfix hown1 hg1 hat1
    go_wp2_with fail
    refine wp_region_mono (by kernel_rfl) (by kernel_rfl) ?_
    refine tele_move rfl (.inl rfl) rfl (isV r) (fun ρ w' h => h) ?_
    refine tele_val rfl (strV (fix l)) (fun _ _ _ => rfl) ?_ ?_
    · rintro ρ w' he ⟨h14, -⟩
      have e14 : ρ 14 = r := h14
      simp [execOp, evR, e14, (hF.ext he).str_ 22 9 5 Try.underlying22 Try.underlying5 Try.underlying9]
    refine tele_move rfl (.inl rfl) rfl (isV (.slice A l.length c)) (fun ρ w' h => h) ?_
    refine tele_call rfl rfl Try.func14 (by kernel_rfl) (isBs (fix l)) (fun _ _ _ => rfl) ?_ ?_
    · rintro ρ w' he ⟨h16, -⟩
      have e16 : ρ 16 = (.slice A l.length c) := h16
      simp only [evR, List.map_toArray, List.map_cons, List.map_nil, e16]
      refine (refFix_any _ l _ (hv2.ext he) (by omega)).mono ?_
      rintro e w'' ⟨r, rfl, h, he⟩
      exact ⟨_, rfl, he, h.bs⟩
    refine tele_val rfl (strV (fix l)) (fun _ _ _ => rfl) ?_ ?_
    · rintro ρ w' he ⟨h17, -⟩
      have e17 : Bs w' (ρ 17) (fix l) := h17
      simp [execOp, evR, e17.str_ 22 9 5 Try.underlying22 Try.underlying5 Try.underlying9]
    refine tele_val rfl (.bool true) (fun _ _ _ => rfl) ?_ ?_
    · rintro ρ w' he ⟨h15, h18, -⟩
      have e15 : ρ 15 = (strV (fix l)) := h15
      have e18 : ρ 18 = (strV (fix l)) := h18
      rw [exec_eql_str rfl e15 e18, beq_self_eq_true]
    refine tele_move rfl (.inl rfl) rfl (isV (.bool true)) (fun ρ w' h => h) ?_
    refine tele_val rfl (v1) (fun ρ w' hk => by obtain ⟨_, hg, -⟩ := hk; have eg : ρ 20 = (.bool true) := hg; simp [wantedR, Region.wanted, asBoolR, eg]) ?_ ?_
    · rintro ρ w' he ⟨h3, -⟩
      have e3 : ρ 3 = v1 := h3
      simp [execOp, evR, e3]
    refine tele_val rfl (strV l) (fun ρ w' hk => by obtain ⟨_, hg, -⟩ := hk; have eg : ρ 20 = (.bool true) := hg; simp [wantedR, Region.wanted, asBoolR, eg]) ?_ ?_
    · rintro ρ w' he ⟨h21, -⟩
      have e21 : ρ 21 = v1 := h21
      simp [execOp, evR, e21, (hown.ext he).str_ 22 9 5 Try.underlying22 Try.underlying5 Try.underlying9]
    refine tele_val rfl ((.slice A l.length c)) (fun ρ w' hk => by obtain ⟨_, hg, -⟩ := hk; have eg : ρ 20 = (.bool true) := hg; simp [wantedR, Region.wanted, asBoolR, eg]) ?_ ?_
    · rintro ρ w' he ⟨h0, -⟩
      have e0 : ρ 0 = (.slice A l.length c) := h0
      simp [execOp, evR, e0]
    refine tele_val rfl (strV l) (fun ρ w' hk => by obtain ⟨_, hg, -⟩ := hk; have eg : ρ 20 = (.bool true) := hg; simp [wantedR, Region.wanted, asBoolR, eg]) ?_ ?_
    · rintro ρ w' he ⟨h23, -⟩
      have e23 : ρ 23 = (.slice A l.length c) := h23
      simp [execOp, evR, e23, (hv2.ext he).str_ 22 9 5 Try.underlying22 Try.underlying5 Try.underlying9]
    refine tele_val rfl (.bool true) (fun ρ w' hk => by obtain ⟨_, _, hg, -⟩ := hk; have eg : ρ 20 = (.bool true) := hg; simp [wantedR, Region.wanted, asBoolR, eg]) ?_ ?_
    · rintro ρ w' he ⟨h22, h24, -⟩
      have e22 : ρ 22 = (strV l) := h22
      have e24 : ρ 24 = (strV l) := h24
      rw [exec_eql_str rfl e22 e24, beq_self_eq_true]
    refine tele_val rfl (.bool true) (fun _ _ _ => rfl) ?_ ?_
    · rintro ρ w' he ⟨h20, h25, -⟩
      have e20 : ρ 20 = (.bool true) := h20
      have e25 : ρ 25 = (.bool true) := h25
      simp [execOp, evR, e20, e25, go_sem]
    refine tele_move rfl (.inl rfl) rfl (isV (.bool true)) (fun ρ w' h => h) ?_
    refine tele_val rfl (r) (fun ρ w' hk => by obtain ⟨_, hg, -⟩ := hk; have eg : ρ 27 = (.bool true) := hg; simp [wantedR, Region.wanted, asBoolR, eg]) ?_ ?_
    · rintro ρ w' he ⟨h4, -⟩
      have e4 : ρ 4 = r := h4
      simp [execOp, evR, e4]
    refine tele_call rfl rfl Try.func15 (by kernel_rfl) (isV (.bool true)) (fun ρ w' hk => by obtain ⟨_, hg, -⟩ := hk; have eg : ρ 27 = (.bool true) := hg; simp [wantedR, Region.wanted, asBoolR, eg]) ?_ ?_
    · rintro ρ w' he ⟨h28, -⟩
      have e28 : ρ 28 = r := h28
      simp only [evR, List.map_toArray, List.map_cons, List.map_nil, e28]
      refine (crcRight_any _ (fix l) _ (hF.ext he)).mono ?_
      rintro e w'' ⟨rfl, rfl⟩
      exact ⟨_, rfl, Ext.refl _, by rw [right_fix]; rfl⟩
    refine tele_val rfl (.bool true) (fun _ _ _ => rfl) ?_ ?_
    · rintro ρ w' he ⟨h27, h29, -⟩
      have e27 : ρ 27 = (.bool true) := h27
      have e29 : ρ 29 = (.bool true) := h29
      simp [execOp, evR, e27, e29, go_sem]
    refine tele_move rfl (.inl rfl) rfl (isV (.bool true)) (fun ρ w' h => h) ?_
    refine tele_val rfl ((.slice A l.length c)) (fun ρ w' hk => by obtain ⟨_, hg, -⟩ := hk; have eg : ρ 31 = (.bool true) := hg; simp [wantedR, Region.wanted, asBoolR, eg]) ?_ ?_
    · rintro ρ w' he ⟨h0, -⟩
      have e0 : ρ 0 = (.slice A l.length c) := h0
      simp [execOp, evR, e0]
    refine tele_call rfl rfl Try.func15 (by kernel_rfl) (isV (.bool (right l))) (fun ρ w' hk => by obtain ⟨_, hg, -⟩ := hk; have eg : ρ 31 = (.bool true) := hg; simp [wantedR, Region.wanted, asBoolR, eg]) ?_ ?_
    · rintro ρ w' he ⟨h32, -⟩
      have e32 : ρ 32 = (.slice A l.length c) := h32
      simp only [evR, List.map_toArray, List.map_cons, List.map_nil, e32]
      refine (crcRight_any _ l _ (hv2.ext he)).mono ?_
      rintro e w'' ⟨rfl, rfl⟩
      exact ⟨_, rfl, Ext.refl _, rfl⟩
    refine tele_val rfl ((.slice A l.length c)) (fun ρ w' hk => by obtain ⟨_, hg, -⟩ := hk; have eg : ρ 31 = (.bool true) := hg; simp [wantedR, Region.wanted, asBoolR, eg]) ?_ ?_
    · rintro ρ w' he ⟨h0, -⟩
      have e0 : ρ 0 = (.slice A l.length c) := h0
      simp [execOp, evR, e0]
    refine tele_call rfl rfl Try.func16 (by kernel_rfl) (isV (.bool (right l))) (fun ρ w' hk => by obtain ⟨_, hg, -⟩ := hk; have eg : ρ 31 = (.bool true) := hg; simp [wantedR, Region.wanted, asBoolR, eg]) ?_ ?_
    · rintro ρ w' he ⟨h34, -⟩
      have e34 : ρ 34 = (.slice A l.length c) := h34
      simp only [evR, List.map_toArray, List.map_cons, List.map_nil, e34]
      refine (refRight_any _ l _ (hv2.ext he) (by omega)).mono ?_
      rintro e w'' ⟨rfl, h⟩
      exact ⟨_, rfl, h, rfl⟩
    refine tele_val rfl (.bool true) (fun ρ w' hk => by obtain ⟨_, _, hg, -⟩ := hk; have eg : ρ 31 = (.bool true) := hg; simp [wantedR, Region.wanted, asBoolR, eg]) ?_ ?_
    · rintro ρ w' he ⟨h33, h35, -⟩
      have e33 : ρ 33 = (.bool (right l)) := h33
      have e35 : ρ 35 = (.bool (right l)) := h35
      simp [execOp, evR, e33, e35, go_sem]
    refine tele_val rfl (.bool true) (fun _ _ _ => rfl) ?_ ?_
    · rintro ρ w' he ⟨h31, h36, -⟩
      have e31 : ρ 31 = (.bool true) := h31
      have e36 : ρ 36 = (.bool true) := h36
      simp [execOp, evR, e31, e36, go_sem]
    refine tele_move rfl (.inl rfl) rfl (isV (.bool true)) (fun ρ w' h => h) ?_
    refine tele_call rfl rfl Try.func8 (by kernel_rfl) (isV (.bool true)) (fun ρ w' hk => by obtain ⟨hg, -⟩ := hk; have eg : ρ 38 = (.bool true) := hg; simp [wantedR, Region.wanted, asBoolR, eg]) ?_ ?_
    · rintro ρ w' he -
      simp only [evR, List.map_toArray, List.map_cons, List.map_nil]
      refine (lives_any _).mono ?_
      rintro e w'' ⟨rfl, h⟩
      exact ⟨_, rfl, h, rfl⟩
    refine tele_val rfl (.bool true) (fun _ _ _ => rfl) ?_ ?_
    · rintro ρ w' he ⟨h38, h39, -⟩
      have e38 : ρ 38 = (.bool true) := h38
      have e39 : ρ 39 = (.bool true) := h39
      simp [execOp, evR, e38, e39, go_sem]
    refine tele_move rfl (.inr rfl) rfl (isV (.bool true)) (fun ρ w' h => h) ?_
    refine tele_nil ?_
    rintro ρ w' hext ⟨f2, f40, f39, f38, f37, f36, f35, f34, f33, f32, f31, f30, f29, f28, f27, f26, f25, f24, f23, f22, f21, f20, f19, f18, f17, f16, f15, f14, -⟩
    replace f14 : ρ 14 = r := f14
    replace f15 : ρ 15 = (strV (fix l)) := f15
    replace f16 : ρ 16 = (.slice A l.length c) := f16
    replace f17 : Bs w' (ρ 17) (fix l) := f17
    replace f18 : ρ 18 = (strV (fix l)) := f18
    replace f19 : ρ 19 = (.bool true) := f19
    replace f20 : ρ 20 = (.bool true) := f20
    replace f21 : ρ 21 = v1 := f21
    replace f22 : ρ 22 = (strV l) := f22
    replace f23 : ρ 23 = (.slice A l.length c) := f23
    replace f24 : ρ 24 = (strV l) := f24
    replace f25 : ρ 25 = (.bool true) := f25
    replace f26 : ρ 26 = (.bool true) := f26
    replace f27 : ρ 27 = (.bool true) := f27
    replace f28 : ρ 28 = r := f28
    replace f29 : ρ 29 = (.bool true) := f29
    replace f30 : ρ 30 = (.bool true) := f30
    replace f31 : ρ 31 = (.bool true) := f31
    replace f32 : ρ 32 = (.slice A l.length c) := f32
    replace f33 : ρ 33 = (.bool (right l)) := f33
    replace f34 : ρ 34 = (.slice A l.length c) := f34
    replace f35 : ρ 35 = (.bool (right l)) := f35
    replace f36 : ρ 36 = (.bool true) := f36
    replace f37 : ρ 37 = (.bool true) := f37
    replace f38 : ρ 38 = (.bool true) := f38
    replace f39 : ρ 39 = (.bool true) := f39
    replace f40 : ρ 40 = (.bool true) := f40
    replace f2 : ρ 2 = (.bool true) := f2
    simp only [puts, Act.put, List.setIfInBounds_toArray, List.set_cons_zero, List.set_cons_succ]
    rw [f2]
    go_wp2_with fail
    go_ret
    exact ⟨rfl, hx2.trans hext⟩
end Go.Proofs.Ytakgmoejgcaopaa
