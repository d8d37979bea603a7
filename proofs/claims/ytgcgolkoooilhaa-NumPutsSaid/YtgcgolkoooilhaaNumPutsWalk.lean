/-
  The walk of NumPuts.
-/
import Derived.Test.YtgcgolkoooilhaaNumLaws
namespace Go.Proofs.Ytgcgolkoooilhaa
open Go.RowKit Mono Num
set_option linter.unusedSimpArgs false
set_option linter.unusedVariables false

set_option maxHeartbeats 1000000 in
theorem numPuts_walk (v : Value) (l : List UInt8) (n : Int) (w : World) (hv : Bs w v l) (hn : -9223372036854775808 ≤ n ∧ n ≤ 9223372036854775807) :
    Calls Try.prog 3 #[v, .int .i64 n] w fun e w' => e = .returned (.bool true) ∧ Ext w w' := by
  obtain ⟨A, c, rfl, h1, h2, _, _⟩ := hv.open_
  unfold maxLen at h2
  by_cases hl : 5000 < l.length
  · go_enter Try.func3, Try.ntmps3
    go_wp2_with fail
    refine (size64 w).mono ?_
    rintro e w' ⟨rfl, rfl⟩
    go_wp2_with fail
    go_ret
    exact ⟨rfl, Ext.refl _⟩
  · go_enter Try.func3, Try.ntmps3
    go_wp2_with (at_builtin; refine wpList_append_bs _ rfl (.tmp 11) (.tmp 12) rfl (OwB.empty_ w (Nat.le_refl _)) (hv.ext (ext_alloc _ _)) rfl rfl (by simp; omega) (by simp) ?_; intro v1 w1 hown1 hg1 hat1; have hb1 : Ext w w1 := Below.growB (ext_alloc w _) (OwB.empty_ w (Nat.le_refl _)) hg1 (Nat.le_refl _) (by simp))
    rw [List.nil_append] at hown1
    have hv2 := hv.ext hb1
    have hown := hown1
    clear hown1 hg1 hat1
    refine wp_region_mono (by kernel_rfl) (by kernel_rfl) ?_
    refine tele_move rfl (.inl rfl) rfl (isV v1) (fun ρ w' h => h) ?_
    refine tele_move rfl (.inl rfl) rfl (isV (.int .i64 n)) (fun ρ w' h => h) ?_
    refine tele_call rfl rfl Try.func11 (by kernel_rfl) (isBs (l ++ nput n)) (fun _ _ _ => rfl) ?_ ?_
    · rintro ρ w' he ⟨h14, h15, -⟩
      have e14 : ρ 14 = v1 := h14
      have e15 : ρ 15 = (.int .i64 n) := h15
      simp only [evR, List.map_toArray, List.map_cons, List.map_nil, e14, e15]
      refine (numPut_any _ l n _ (hown.bs.ext he) (by omega) hn).mono ?_
      rintro e w'' ⟨r, rfl, h, he⟩
      have h' := h.bs
      try rw [List.nil_append] at h'
      exact ⟨_, rfl, he, h'⟩
    refine tele_val rfl (strV (l ++ nput n)) (fun _ _ _ => rfl) ?_ ?_
    · rintro ρ w' he ⟨h16, -⟩
      have e16 : Bs w' (ρ 16) (l ++ nput n) := h16
      simp [execOp, evR, e16.str_ 22 9 5 Try.underlying22 Try.underlying5 Try.underlying9]
    refine tele_move rfl (.inl rfl) rfl (isV (.slice A l.length c)) (fun ρ w' h => h) ?_
    refine tele_move rfl (.inl rfl) rfl (isV (.int .i64 n)) (fun ρ w' h => h) ?_
    refine tele_call rfl rfl Try.func12 (by kernel_rfl) (isBs (l ++ nput n)) (fun _ _ _ => rfl) ?_ ?_
    · rintro ρ w' he ⟨h18, h19, -⟩
      have e18 : ρ 18 = (.slice A l.length c) := h18
      have e19 : ρ 19 = (.int .i64 n) := h19
      simp only [evR, List.map_toArray, List.map_cons, List.map_nil, e18, e19]
      refine (refPut_any _ l n _ (hv2.ext he) (by omega) hn).mono ?_
      rintro e w'' ⟨r, rfl, h, he⟩
      have h' := h.bs
      try rw [List.nil_append] at h'
      exact ⟨_, rfl, he, h'⟩
    refine tele_val rfl (strV (l ++ nput n)) (fun _ _ _ => rfl) ?_ ?_
    · rintro ρ w' he ⟨h20, -⟩
      have e20 : Bs w' (ρ 20) (l ++ nput n) := h20
      simp [execOp, evR, e20.str_ 22 9 5 Try.underlying22 Try.underlying5 Try.underlying9]
    refine tele_val rfl (.bool true) (fun _ _ _ => rfl) ?_ ?_
    · rintro ρ w' he ⟨h17, h21, -⟩
      have e17 : ρ 17 = (strV (l ++ nput n)) := h17
      have e21 : ρ 21 = (strV (l ++ nput n)) := h21
      rw [exec_eql_str rfl e17 e21, beq_self_eq_true]
    refine tele_move rfl (.inl rfl) rfl (isV (.bool true)) (fun ρ w' h => h) ?_
    refine tele_val rfl ((.int .i64 n)) (fun ρ w' hk => by obtain ⟨_, hg, -⟩ := hk; have eg : ρ 23 = (.bool true) := hg; simp [wantedR, Region.wanted, asBoolR, eg]) ?_ ?_
    · rintro ρ w' he ⟨h1, -⟩
      have e1 : ρ 1 = (.int .i64 n) := h1
      simp [execOp, evR, e1]
    refine tele_call rfl rfl Try.func10 (by kernel_rfl) (isV (.int .i64 ((nsize n : Nat) : Int))) (fun ρ w' hk => by obtain ⟨_, hg, -⟩ := hk; have eg : ρ 23 = (.bool true) := hg; simp [wantedR, Region.wanted, asBoolR, eg]) ?_ ?_
    · rintro ρ w' he ⟨h24, -⟩
      have e24 : ρ 24 = (.int .i64 n) := h24
      simp only [evR, List.map_toArray, List.map_cons, List.map_nil, e24]
      refine (numSize_any n _ hn).mono ?_
      rintro e w'' ⟨rfl, rfl⟩
      exact ⟨_, rfl, Ext.refl _, rfl⟩
    refine tele_val rfl ((.int .i64 n)) (fun ρ w' hk => by obtain ⟨_, hg, -⟩ := hk; have eg : ρ 23 = (.bool true) := hg; simp [wantedR, Region.wanted, asBoolR, eg]) ?_ ?_
    · rintro ρ w' he ⟨h1, -⟩
      have e1 : ρ 1 = (.int .i64 n) := h1
      simp [execOp, evR, e1]
    refine tele_call rfl rfl Try.func13 (by kernel_rfl) (isV (.int .i64 ((nsize n : Nat) : Int))) (fun ρ w' hk => by obtain ⟨_, hg, -⟩ := hk; have eg : ρ 23 = (.bool true) := hg; simp [wantedR, Region.wanted, asBoolR, eg]) ?_ ?_
    · rintro ρ w' he ⟨h26, -⟩
      have e26 : ρ 26 = (.int .i64 n) := h26
      simp only [evR, List.map_toArray, List.map_cons, List.map_nil, e26]
      refine (refSize_any n _ hn).mono ?_
      rintro e w'' ⟨rfl, rfl⟩
      exact ⟨_, rfl, Ext.refl _, rfl⟩
    refine tele_val rfl (.bool true) (fun ρ w' hk => by obtain ⟨_, _, hg, -⟩ := hk; have eg : ρ 23 = (.bool true) := hg; simp [wantedR, Region.wanted, asBoolR, eg]) ?_ ?_
    · rintro ρ w' he ⟨h25, h27, -⟩
      have e25 : ρ 25 = (.int .i64 ((nsize n : Nat) : Int)) := h25
      have e27 : ρ 27 = (.int .i64 ((nsize n : Nat) : Int)) := h27
      simp [execOp, evR, e25, e27, go_sem]
    refine tele_val rfl (.bool true) (fun _ _ _ => rfl) ?_ ?_
    · rintro ρ w' he ⟨h23, h28, -⟩
      have e23 : ρ 23 = (.bool true) := h23
      have e28 : ρ 28 = (.bool true) := h28
      simp [execOp, evR, e23, e28, go_sem]
    refine tele_move rfl (.inl rfl) rfl (isV (.bool true)) (fun ρ w' h => h) ?_
    refine tele_val rfl (v1) (fun ρ w' hk => by obtain ⟨_, hg, -⟩ := hk; have eg : ρ 30 = (.bool true) := hg; simp [wantedR, Region.wanted, asBoolR, eg]) ?_ ?_
    · rintro ρ w' he ⟨h5, -⟩
      have e5 : ρ 5 = v1 := h5
      simp [execOp, evR, e5]
    refine tele_val rfl (strV l) (fun ρ w' hk => by obtain ⟨_, hg, -⟩ := hk; have eg : ρ 30 = (.bool true) := hg; simp [wantedR, Region.wanted, asBoolR, eg]) ?_ ?_
    · rintro ρ w' he ⟨h31, -⟩
      have e31 : ρ 31 = v1 := h31
      simp [execOp, evR, e31, (hown.bs.ext he).str_ 22 9 5 Try.underlying22 Try.underlying5 Try.underlying9]
    refine tele_val rfl ((.slice A l.length c)) (fun ρ w' hk => by obtain ⟨_, hg, -⟩ := hk; have eg : ρ 30 = (.bool true) := hg; simp [wantedR, Region.wanted, asBoolR, eg]) ?_ ?_
    · rintro ρ w' he ⟨h0, -⟩
      have e0 : ρ 0 = (.slice A l.length c) := h0
      simp [execOp, evR, e0]
    refine tele_val rfl (strV l) (fun ρ w' hk => by obtain ⟨_, hg, -⟩ := hk; have eg : ρ 30 = (.bool true) := hg; simp [wantedR, Region.wanted, asBoolR, eg]) ?_ ?_
    · rintro ρ w' he ⟨h33, -⟩
      have e33 : ρ 33 = (.slice A l.length c) := h33
      simp [execOp, evR, e33, (hv2.ext he).str_ 22 9 5 Try.underlying22 Try.underlying5 Try.underlying9]
    refine tele_val rfl (.bool true) (fun ρ w' hk => by obtain ⟨_, _, hg, -⟩ := hk; have eg : ρ 30 = (.bool true) := hg; simp [wantedR, Region.wanted, asBoolR, eg]) ?_ ?_
    · rintro ρ w' he ⟨h32, h34, -⟩
      have e32 : ρ 32 = (strV l) := h32
      have e34 : ρ 34 = (strV l) := h34
      rw [exec_eql_str rfl e32 e34, beq_self_eq_true]
    refine tele_val rfl (.bool true) (fun _ _ _ => rfl) ?_ ?_
    · rintro ρ w' he ⟨h30, h35, -⟩
      have e30 : ρ 30 = (.bool true) := h30
      have e35 : ρ 35 = (.bool true) := h35
      simp [execOp, evR, e30, e35, go_sem]
    refine tele_move rfl (.inl rfl) rfl (isV (.bool true)) (fun ρ w' h => h) ?_
    refine tele_call rfl rfl Try.func10 (by kernel_rfl) (isV (.int .i64 2)) (fun ρ w' hk => by obtain ⟨hg, -⟩ := hk; have eg : ρ 37 = (.bool true) := hg; simp [wantedR, Region.wanted, asBoolR, eg]) ?_ ?_
    · rintro ρ w' he -
      simp only [evR, List.map_toArray, List.map_cons, List.map_nil]
      refine (size64 _).mono ?_
      rintro e w'' ⟨rfl, rfl⟩
      exact ⟨_, rfl, Ext.refl _, rfl⟩
    refine tele_val rfl (.bool true) (fun ρ w' hk => by obtain ⟨_, hg, -⟩ := hk; have eg : ρ 37 = (.bool true) := hg; simp [wantedR, Region.wanted, asBoolR, eg]) ?_ ?_
    · rintro ρ w' he ⟨h38, -⟩
      have e38 : ρ 38 = (.int .i64 2) := h38
      simp [execOp, evR, e38, go_sem]
    refine tele_val rfl (.bool true) (fun _ _ _ => rfl) ?_ ?_
    · rintro ρ w' he ⟨h37, h39, -⟩
      have e37 : ρ 37 = (.bool true) := h37
      have e39 : ρ 39 = (.bool true) := h39
      simp [execOp, evR, e37, e39, go_sem]
    refine tele_move rfl (.inr rfl) rfl (isV (.bool true)) (fun ρ w' h => h) ?_
    refine tele_nil ?_
    rintro ρ w' hext ⟨f4, f40, f39, f38, f37, f36, f35, f34, f33, f32, f31, f30, f29, f28, f27, f26, f25, f24, f23, f22, f21, f20, f19, f18, f17, f16, f15, f14, -⟩
    replace f14 : ρ 14 = v1 := f14
    replace f15 : ρ 15 = (.int .i64 n) := f15
    replace f16 : Bs w' (ρ 16) (l ++ nput n) := f16
    replace f17 : ρ 17 = (strV (l ++ nput n)) := f17
    replace f18 : ρ 18 = (.slice A l.length c) := f18
    replace f19 : ρ 19 = (.int .i64 n) := f19
    replace f20 : Bs w' (ρ 20) (l ++ nput n) := f20
    replace f21 : ρ 21 = (strV (l ++ nput n)) := f21
    replace f22 : ρ 22 = (.bool true) := f22
    replace f23 : ρ 23 = (.bool true) := f23
    replace f24 : ρ 24 = (.int .i64 n) := f24
    replace f25 : ρ 25 = (.int .i64 ((nsize n : Nat) : Int)) := f25
    replace f26 : ρ 26 = (.int .i64 n) := f26
    replace f27 : ρ 27 = (.int .i64 ((nsize n : Nat) : Int)) := f27
    replace f28 : ρ 28 = (.bool true) := f28
    replace f29 : ρ 29 = (.bool true) := f29
    replace f30 : ρ 30 = (.bool true) := f30
    replace f31 : ρ 31 = v1 := f31
    replace f32 : ρ 32 = (strV l) := f32
    replace f33 : ρ 33 = (.slice A l.length c) := f33
    replace f34 : ρ 34 = (strV l) := f34
    replace f35 : ρ 35 = (.bool true) := f35
    replace f36 : ρ 36 = (.bool true) := f36
    replace f37 : ρ 37 = (.bool true) := f37
    replace f38 : ρ 38 = (.int .i64 2) := f38
    replace f39 : ρ 39 = (.bool true) := f39
    replace f40 : ρ 40 = (.bool true) := f40
    replace f4 : ρ 4 = (.bool true) := f4
    simp only [puts, Act.put, List.setIfInBounds_toArray, List.set_cons_zero, List.set_cons_succ]
    rw [f4]
    go_wp2_with fail
    go_ret
    exact ⟨rfl, hb1.trans hext⟩
end Go.Proofs.Ytgcgolkoooilhaa
