/-
  The walk of NumForm.
-/
import Derived.Test.YtgcgolkoooilhaaNumLaws
namespace Go.Proofs.Ytgcgolkoooilhaa
open Go.RowKit Mono Num
set_option linter.unusedSimpArgs false
set_option linter.unusedVariables false

set_option maxHeartbeats 1000000 in
theorem numForm_walk (v : Value) (l : List UInt8) (w : World) (hv : Bs w v l) :
    Calls Try.prog 8 #[v] w fun e w' => e = .returned (.bool true) ∧ Ext w w' := by
  obtain ⟨A, c, rfl, h1, h2, _, _⟩ := hv.open_
  unfold maxLen at h2
  obtain ⟨n, k, f, hg⟩ : ∃ n k f, nget l = (n, k, f) := ⟨_, _, _, rfl⟩
  have hG := numGet_any _ l w hv
  rw [hg] at hG
  by_cases hf : f = 0
  · subst hf
    obtain ⟨hk1, hk2, hnm, hform⟩ := nget_form_back l n k hg
    have HF := Lib.hid hform
    clear hg hform
    go_enter Try.func8, Try.ntmps8
    go_wp2_with fail
    refine hG.mono ?_
    rintro e w' ⟨rfl, rfl⟩
    go_wp2_with fail
    have hform := HF.out
    refine wp_region_mono (by kernel_rfl) (by kernel_rfl) ?_
    refine tele_move rfl (.inl rfl) rfl (isV (.int .i64 (k : Int))) (fun ρ w' h => h) ?_
    refine tele_val rfl (.bool true) (fun _ _ _ => rfl) ?_ ?_
    · rintro ρ w' he ⟨h24, -⟩
      have e24 : ρ 24 = (.int .i64 (k : Int)) := h24
      simp [execOp, evR, e24, go_sem]
      omega
    refine tele_move rfl (.inl rfl) rfl (isV (.bool true)) (fun ρ w' h => h) ?_
    refine tele_val rfl ((.int .i64 (k : Int))) (fun ρ w' hk => by obtain ⟨_, hg, -⟩ := hk; have eg : ρ 26 = (.bool true) := hg; simp [wantedR, Region.wanted, asBoolR, eg]) ?_ ?_
    · rintro ρ w' he ⟨h4, -⟩
      have e4 : ρ 4 = (.int .i64 (k : Int)) := h4
      simp [execOp, evR, e4]
    refine tele_val rfl ((.slice A l.length c)) (fun ρ w' hk => by obtain ⟨_, hg, -⟩ := hk; have eg : ρ 26 = (.bool true) := hg; simp [wantedR, Region.wanted, asBoolR, eg]) ?_ ?_
    · rintro ρ w' he ⟨h0, -⟩
      have e0 : ρ 0 = (.slice A l.length c) := h0
      simp [execOp, evR, e0]
    refine tele_val rfl (.int .i64 (l.length : Int)) (fun ρ w' hk => by obtain ⟨_, hg, -⟩ := hk; have eg : ρ 26 = (.bool true) := hg; simp [wantedR, Region.wanted, asBoolR, eg]) ?_ ?_
    · rintro ρ w' he ⟨h28, -⟩
      have e28 : ρ 28 = (.slice A l.length c) := h28
      simp [execOp, evR, e28, go_sem]
    refine tele_val rfl (.bool true) (fun ρ w' hk => by obtain ⟨_, _, hg, -⟩ := hk; have eg : ρ 26 = (.bool true) := hg; simp [wantedR, Region.wanted, asBoolR, eg]) ?_ ?_
    · rintro ρ w' he ⟨h27, h29, -⟩
      have e27 : ρ 27 = (.int .i64 (k : Int)) := h27
      have e29 : ρ 29 = (.int .i64 (l.length : Int)) := h29
      simp [execOp, evR, e27, e29, go_sem]
      omega
    refine tele_val rfl (.bool true) (fun _ _ _ => rfl) ?_ ?_
    · rintro ρ w' he ⟨h26, h30, -⟩
      have e26 : ρ 26 = (.bool true) := h26
      have e30 : ρ 30 = (.bool true) := h30
      simp [execOp, evR, e26, e30, go_sem]
    refine tele_move rfl (.inl rfl) rfl (isV (.bool true)) (fun ρ w' h => h) ?_
    refine tele_val rfl ((.int .i64 (n : Int))) (fun ρ w' hk => by obtain ⟨_, hg, -⟩ := hk; have eg : ρ 32 = (.bool true) := hg; simp [wantedR, Region.wanted, asBoolR, eg]) ?_ ?_
    · rintro ρ w' he ⟨h3, -⟩
      have e3 : ρ 3 = (.int .i64 (n : Int)) := h3
      simp [execOp, evR, e3]
    refine tele_call rfl rfl Try.func11 (by kernel_rfl) (isBs (nput (n : Int))) (fun ρ w' hk => by obtain ⟨_, hg, -⟩ := hk; have eg : ρ 32 = (.bool true) := hg; simp [wantedR, Region.wanted, asBoolR, eg]) ?_ ?_
    · rintro ρ w' he ⟨h33, -⟩
      have e33 : ρ 33 = (.int .i64 (n : Int)) := h33
      simp only [evR, List.map_toArray, List.map_cons, List.map_nil, e33]
      refine (numPut_any _ [] n _ (Bs.nil_ _) (by simp) (by omega)).mono ?_
      rintro e w'' ⟨r, rfl, h, he⟩
      have h' := h.bs
      try rw [List.nil_append] at h'
      exact ⟨_, rfl, he, h'⟩
    refine tele_val rfl (strV (nput (n : Int))) (fun ρ w' hk => by obtain ⟨_, hg, -⟩ := hk; have eg : ρ 32 = (.bool true) := hg; simp [wantedR, Region.wanted, asBoolR, eg]) ?_ ?_
    · rintro ρ w' he ⟨h34, -⟩
      have e34 : Bs w' (ρ 34) (nput (n : Int)) := h34
      simp [execOp, evR, e34.str_ 22 9 5 Try.underlying22 Try.underlying5 Try.underlying9]
    refine tele_val rfl ((.slice A l.length c)) (fun ρ w' hk => by obtain ⟨_, hg, -⟩ := hk; have eg : ρ 32 = (.bool true) := hg; simp [wantedR, Region.wanted, asBoolR, eg]) ?_ ?_
    · rintro ρ w' he ⟨h0, -⟩
      have e0 : ρ 0 = (.slice A l.length c) := h0
      simp [execOp, evR, e0]
    refine tele_val rfl ((.int .i64 (k : Int))) (fun ρ w' hk => by obtain ⟨_, hg, -⟩ := hk; have eg : ρ 32 = (.bool true) := hg; simp [wantedR, Region.wanted, asBoolR, eg]) ?_ ?_
    · rintro ρ w' he ⟨h4, -⟩
      have e4 : ρ 4 = (.int .i64 (k : Int)) := h4
      simp [execOp, evR, e4]
    refine tele_val rfl (.slice A k c) (fun ρ w' hk => by obtain ⟨_, _, hg, -⟩ := hk; have eg : ρ 32 = (.bool true) := hg; simp [wantedR, Region.wanted, asBoolR, eg]) ?_ ?_
    · rintro ρ w' he ⟨h36, h37, -⟩
      have e36 : ρ 36 = (.slice A l.length c) := h36
      have e37 : ρ 37 = (.int .i64 (k : Int)) := h37
      simp [execOp, evR, e36, e37, go_sem]
      intro hbad
      omega
    refine tele_val rfl (strV (l.take k)) (fun ρ w' hk => by obtain ⟨_, hg, -⟩ := hk; have eg : ρ 32 = (.bool true) := hg; simp [wantedR, Region.wanted, asBoolR, eg]) ?_ ?_
    · rintro ρ w' he ⟨h38, -⟩
      have e38 : ρ 38 = (.slice A k c) := h38
      simp [execOp, evR, e38, ((hv.ext he).upto hk2).str_ 22 9 5 Try.underlying22 Try.underlying5 Try.underlying9]
    refine tele_val rfl (.bool true) (fun ρ w' hk => by obtain ⟨_, _, hg, -⟩ := hk; have eg : ρ 32 = (.bool true) := hg; simp [wantedR, Region.wanted, asBoolR, eg]) ?_ ?_
    · rintro ρ w' he ⟨h35, h39, -⟩
      have e35 : ρ 35 = (strV (nput (n : Int))) := h35
      have e39 : ρ 39 = (strV (l.take k)) := h39
      rw [exec_eql_str rfl e35 e39, hform, beq_self_eq_true]
    refine tele_val rfl (.bool true) (fun _ _ _ => rfl) ?_ ?_
    · rintro ρ w' he ⟨h32, h40, -⟩
      have e32 : ρ 32 = (.bool true) := h32
      have e40 : ρ 40 = (.bool true) := h40
      simp [execOp, evR, e32, e40, go_sem]
    refine tele_move rfl (.inr rfl) rfl (isV (.bool true)) (fun ρ w' h => h) ?_
    refine tele_nil ?_
    rintro ρ w' hext ⟨f2, f41, f40, f39, f38, f37, f36, f35, f34, f33, f32, f31, f30, f29, f28, f27, f26, f25, f24, -⟩
    replace f24 : ρ 24 = (.int .i64 (k : Int)) := f24
    replace f25 : ρ 25 = (.bool true) := f25
    replace f26 : ρ 26 = (.bool true) := f26
    replace f27 : ρ 27 = (.int .i64 (k : Int)) := f27
    replace f28 : ρ 28 = (.slice A l.length c) := f28
    replace f29 : ρ 29 = (.int .i64 (l.length : Int)) := f29
    replace f30 : ρ 30 = (.bool true) := f30
    replace f31 : ρ 31 = (.bool true) := f31
    replace f32 : ρ 32 = (.bool true) := f32
    replace f33 : ρ 33 = (.int .i64 (n : Int)) := f33
    replace f34 : Bs w' (ρ 34) (nput (n : Int)) := f34
    replace f35 : ρ 35 = (strV (nput (n : Int))) := f35
    replace f36 : ρ 36 = (.slice A l.length c) := f36
    replace f37 : ρ 37 = (.int .i64 (k : Int)) := f37
    replace f38 : ρ 38 = (.slice A k c) := f38
    replace f39 : ρ 39 = (strV (l.take k)) := f39
    replace f40 : ρ 40 = (.bool true) := f40
    replace f41 : ρ 41 = (.bool true) := f41
    replace f2 : ρ 2 = (.bool true) := f2
    simp only [puts, Act.put, List.setIfInBounds_toArray, List.set_cons_zero, List.set_cons_succ]
    rw [f2]
    go_wp2_with fail
    go_ret
    exact ⟨rfl, hext⟩
  · have hnk : n = 0 ∧ k = 0 := nget_bad l n k f hg hf
    obtain ⟨rfl, rfl⟩ := hnk
    have hfb : ((f : Int) != 0) = true := by rw [bne_iff_ne]; omega
    clear hg hf
    go_enter Try.func8, Try.ntmps8
    go_wp2_with fail
    refine hG.mono ?_
    rintro e w' ⟨rfl, rfl⟩
    go_wp2_with fail
    refine (size64 w).mono ?_
    rintro e w' ⟨rfl, rfl⟩
    go_wp2_with fail
    go_ret
    exact ⟨rfl, Ext.refl _⟩
end Go.Proofs.Ytgcgolkoooilhaa
