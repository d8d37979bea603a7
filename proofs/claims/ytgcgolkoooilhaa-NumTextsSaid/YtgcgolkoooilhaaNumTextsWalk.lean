/-
  The walk of NumTexts.
-/
import Derived.Test.YtgcgolkoooilhaaNumLaws
import Derived.Test.YtgcgolkoooilhaaNumText
namespace Go.Proofs.Ytgcgolkoooilhaa
open Go.RowKit Mono Num
set_option linter.unusedSimpArgs false
set_option linter.unusedVariables false

set_option maxHeartbeats 1000000 in
theorem numTexts_walk (v : Value) (l s : List UInt8) (most : Int) (w : World) (hv : Bs w v l) (sl : l.length * 1 ≤ 140737488351232) (ss : s.length ≤ 140737488351232) (hm : -9223372036854775808 ≤ most ∧ most ≤ 9223372036854775807) :
    Calls Try.prog 9 #[v, strV s, .int .i64 most] w fun e w' => e = .returned (.bool true) ∧ Ext w w' := by
  obtain ⟨A, c, rfl, h1, h2, _, _⟩ := hv.open_
  unfold maxLen at h2
  have hsz := strV_size s
  by_cases hl : (20000 : Int) < (l.length : Int) + (s.length : Int)
  · go_enter Try.func9, Try.ntmps9
    unfold strV
    go_wp2_with fail
    refine (size64 w).mono ?_
    rintro e w' ⟨rfl, rfl⟩
    go_wp2_with fail
    go_ret
    exact ⟨rfl, Ext.refl _⟩
  · have hN := numGetText_any _ l most w hv hm
    go_enter Try.func9, Try.ntmps9
    unfold strV
    go_wp2_with fail
    refine hN.mono ?_
    rintro e w1 ⟨rfl, hb1⟩
    have hR := refGetText_any _ l most w1 (hv.ext hb1) hm
    generalize (ntext l most).1 = a at *
    generalize (ntext l most).2.1 = b at *
    generalize (ntext l most).2.2 = d at *
    clear hN
    go_wp2_with fail
    refine hR.mono ?_
    rintro e w2 ⟨rfl, hb2⟩
    have hv := hv.ext (hb1.trans hb2)
    clear hR
    go_wp2_with fail
    refine wp_region_mono (by kernel_rfl) (by kernel_rfl) ?_
    refine tele_move rfl (.inl rfl) rfl (isV (.slice A l.length c)) (fun ρ w' h => h) ?_
    refine tele_move rfl (.inl rfl) rfl (isV (strV s)) (fun ρ w' h => h) ?_
    refine tele_call rfl rfl Try.func21 (by kernel_rfl) (isBs (l ++ nputText s)) (fun _ _ _ => rfl) ?_ ?_
    · rintro ρ w' he ⟨h35, h36, -⟩
      have e35 : ρ 35 = (.slice A l.length c) := h35
      have e36 : ρ 36 = (strV s) := h36
      simp only [evR, List.map_toArray, List.map_cons, List.map_nil, e35, e36]
      refine (numPutText_any _ l s _ (hv.ext he) (by omega)).mono ?_
      rintro e w'' ⟨r, rfl, h, he⟩
      have h' := h.bs
      try rw [List.nil_append] at h'
      exact ⟨_, rfl, he, h'⟩
    refine tele_val rfl (strV (l ++ nputText s)) (fun _ _ _ => rfl) ?_ ?_
    · rintro ρ w' he ⟨h37, -⟩
      have e37 : Bs w' (ρ 37) (l ++ nputText s) := h37
      simp [execOp, evR, e37.str_ 22 9 5 Try.underlying22 Try.underlying5 Try.underlying9]
    refine tele_move rfl (.inl rfl) rfl (isV (.slice A l.length c)) (fun ρ w' h => h) ?_
    refine tele_move rfl (.inl rfl) rfl (isV (strV s)) (fun ρ w' h => h) ?_
    refine tele_call rfl rfl Try.func22 (by kernel_rfl) (isBs (l ++ nputText s)) (fun _ _ _ => rfl) ?_ ?_
    · rintro ρ w' he ⟨h39, h40, -⟩
      have e39 : ρ 39 = (.slice A l.length c) := h39
      have e40 : ρ 40 = (strV s) := h40
      simp only [evR, List.map_toArray, List.map_cons, List.map_nil, e39, e40]
      refine (refPutText_any _ l s _ (hv.ext he) (by omega)).mono ?_
      rintro e w'' ⟨r, rfl, h, he⟩
      have h' := h.bs
      try rw [List.nil_append] at h'
      exact ⟨_, rfl, he, h'⟩
    refine tele_val rfl (strV (l ++ nputText s)) (fun _ _ _ => rfl) ?_ ?_
    · rintro ρ w' he ⟨h41, -⟩
      have e41 : Bs w' (ρ 41) (l ++ nputText s) := h41
      simp [execOp, evR, e41.str_ 22 9 5 Try.underlying22 Try.underlying5 Try.underlying9]
    refine tele_val rfl (.bool true) (fun _ _ _ => rfl) ?_ ?_
    · rintro ρ w' he ⟨h38, h42, -⟩
      have e38 : ρ 38 = (strV (l ++ nputText s)) := h38
      have e42 : ρ 42 = (strV (l ++ nputText s)) := h42
      rw [exec_eql_str rfl e38 e42, beq_self_eq_true]
    refine tele_move rfl (.inl rfl) rfl (isV (.bool true)) (fun ρ w' h => h) ?_
    refine tele_val rfl ((strV a)) (fun ρ w' hk => by obtain ⟨_, hg, -⟩ := hk; have eg : ρ 44 = (.bool true) := hg; simp [wantedR, Region.wanted, asBoolR, eg]) ?_ ?_
    · rintro ρ w' he ⟨h7, -⟩
      have e7 : ρ 7 = (strV a) := h7
      simp [execOp, evR, e7]
    refine tele_val rfl ((strV a)) (fun ρ w' hk => by obtain ⟨_, hg, -⟩ := hk; have eg : ρ 44 = (.bool true) := hg; simp [wantedR, Region.wanted, asBoolR, eg]) ?_ ?_
    · rintro ρ w' he ⟨h10, -⟩
      have e10 : ρ 10 = (strV a) := h10
      simp [execOp, evR, e10]
    refine tele_val rfl (.bool true) (fun ρ w' hk => by obtain ⟨_, _, hg, -⟩ := hk; have eg : ρ 44 = (.bool true) := hg; simp [wantedR, Region.wanted, asBoolR, eg]) ?_ ?_
    · rintro ρ w' he ⟨h45, h46, -⟩
      have e45 : ρ 45 = (strV a) := h45
      have e46 : ρ 46 = (strV a) := h46
      rw [exec_eql_str rfl e45 e46, beq_self_eq_true]
    refine tele_val rfl (.bool true) (fun _ _ _ => rfl) ?_ ?_
    · rintro ρ w' he ⟨h44, h47, -⟩
      have e44 : ρ 44 = (.bool true) := h44
      have e47 : ρ 47 = (.bool true) := h47
      simp [execOp, evR, e44, e47, go_sem]
    refine tele_move rfl (.inl rfl) rfl (isV (.bool true)) (fun ρ w' h => h) ?_
    refine tele_val rfl ((.int .i64 (b : Int))) (fun ρ w' hk => by obtain ⟨_, hg, -⟩ := hk; have eg : ρ 49 = (.bool true) := hg; simp [wantedR, Region.wanted, asBoolR, eg]) ?_ ?_
    · rintro ρ w' he ⟨h8, -⟩
      have e8 : ρ 8 = (.int .i64 (b : Int)) := h8
      simp [execOp, evR, e8]
    refine tele_val rfl ((.int .i64 (b : Int))) (fun ρ w' hk => by obtain ⟨_, hg, -⟩ := hk; have eg : ρ 49 = (.bool true) := hg; simp [wantedR, Region.wanted, asBoolR, eg]) ?_ ?_
    · rintro ρ w' he ⟨h11, -⟩
      have e11 : ρ 11 = (.int .i64 (b : Int)) := h11
      simp [execOp, evR, e11]
    refine tele_val rfl (.bool true) (fun ρ w' hk => by obtain ⟨_, _, hg, -⟩ := hk; have eg : ρ 49 = (.bool true) := hg; simp [wantedR, Region.wanted, asBoolR, eg]) ?_ ?_
    · rintro ρ w' he ⟨h50, h51, -⟩
      have e50 : ρ 50 = (.int .i64 (b : Int)) := h50
      have e51 : ρ 51 = (.int .i64 (b : Int)) := h51
      simp [execOp, evR, e50, e51, go_sem]
    refine tele_val rfl (.bool true) (fun _ _ _ => rfl) ?_ ?_
    · rintro ρ w' he ⟨h49, h52, -⟩
      have e49 : ρ 49 = (.bool true) := h49
      have e52 : ρ 52 = (.bool true) := h52
      simp [execOp, evR, e49, e52, go_sem]
    refine tele_move rfl (.inl rfl) rfl (isV (.bool true)) (fun ρ w' h => h) ?_
    refine tele_val rfl ((.int .i64 (d : Int))) (fun ρ w' hk => by obtain ⟨_, hg, -⟩ := hk; have eg : ρ 54 = (.bool true) := hg; simp [wantedR, Region.wanted, asBoolR, eg]) ?_ ?_
    · rintro ρ w' he ⟨h9, -⟩
      have e9 : ρ 9 = (.int .i64 (d : Int)) := h9
      simp [execOp, evR, e9]
    refine tele_val rfl ((.int .i64 (d : Int))) (fun ρ w' hk => by obtain ⟨_, hg, -⟩ := hk; have eg : ρ 54 = (.bool true) := hg; simp [wantedR, Region.wanted, asBoolR, eg]) ?_ ?_
    · rintro ρ w' he ⟨h12, -⟩
      have e12 : ρ 12 = (.int .i64 (d : Int)) := h12
      simp [execOp, evR, e12]
    refine tele_val rfl (.bool true) (fun ρ w' hk => by obtain ⟨_, _, hg, -⟩ := hk; have eg : ρ 54 = (.bool true) := hg; simp [wantedR, Region.wanted, asBoolR, eg]) ?_ ?_
    · rintro ρ w' he ⟨h55, h56, -⟩
      have e55 : ρ 55 = (.int .i64 (d : Int)) := h55
      have e56 : ρ 56 = (.int .i64 (d : Int)) := h56
      simp [execOp, evR, e55, e56, go_sem]
    refine tele_val rfl (.bool true) (fun _ _ _ => rfl) ?_ ?_
    · rintro ρ w' he ⟨h54, h57, -⟩
      have e54 : ρ 54 = (.bool true) := h54
      have e57 : ρ 57 = (.bool true) := h57
      simp [execOp, evR, e54, e57, go_sem]
    refine tele_move rfl (.inl rfl) rfl (isV (.bool true)) (fun ρ w' h => h) ?_
    refine tele_call rfl rfl Try.func10 (by kernel_rfl) (isV (.int .i64 2)) (fun ρ w' hk => by obtain ⟨hg, -⟩ := hk; have eg : ρ 59 = (.bool true) := hg; simp [wantedR, Region.wanted, asBoolR, eg]) ?_ ?_
    · rintro ρ w' he -
      simp only [evR, List.map_toArray, List.map_cons, List.map_nil]
      refine (size64 _).mono ?_
      rintro e w'' ⟨rfl, rfl⟩
      exact ⟨_, rfl, Ext.refl _, rfl⟩
    refine tele_val rfl (.bool true) (fun ρ w' hk => by obtain ⟨_, hg, -⟩ := hk; have eg : ρ 59 = (.bool true) := hg; simp [wantedR, Region.wanted, asBoolR, eg]) ?_ ?_
    · rintro ρ w' he ⟨h60, -⟩
      have e60 : ρ 60 = (.int .i64 2) := h60
      simp [execOp, evR, e60, go_sem]
    refine tele_val rfl (.bool true) (fun _ _ _ => rfl) ?_ ?_
    · rintro ρ w' he ⟨h59, h61, -⟩
      have e59 : ρ 59 = (.bool true) := h59
      have e61 : ρ 61 = (.bool true) := h61
      simp [execOp, evR, e59, e61, go_sem]
    refine tele_move rfl (.inr rfl) rfl (isV (.bool true)) (fun ρ w' h => h) ?_
    refine tele_nil ?_
    rintro ρ w' hext ⟨f6, f62, f61, f60, f59, f58, f57, f56, f55, f54, f53, f52, f51, f50, f49, f48, f47, f46, f45, f44, f43, f42, f41, f40, f39, f38, f37, f36, f35, -⟩
    replace f35 : ρ 35 = (.slice A l.length c) := f35
    replace f36 : ρ 36 = (strV s) := f36
    replace f37 : Bs w' (ρ 37) (l ++ nputText s) := f37
    replace f38 : ρ 38 = (strV (l ++ nputText s)) := f38
    replace f39 : ρ 39 = (.slice A l.length c) := f39
    replace f40 : ρ 40 = (strV s) := f40
    replace f41 : Bs w' (ρ 41) (l ++ nputText s) := f41
    replace f42 : ρ 42 = (strV (l ++ nputText s)) := f42
    replace f43 : ρ 43 = (.bool true) := f43
    replace f44 : ρ 44 = (.bool true) := f44
    replace f45 : ρ 45 = (strV a) := f45
    replace f46 : ρ 46 = (strV a) := f46
    replace f47 : ρ 47 = (.bool true) := f47
    replace f48 : ρ 48 = (.bool true) := f48
    replace f49 : ρ 49 = (.bool true) := f49
    replace f50 : ρ 50 = (.int .i64 (b : Int)) := f50
    replace f51 : ρ 51 = (.int .i64 (b : Int)) := f51
    replace f52 : ρ 52 = (.bool true) := f52
    replace f53 : ρ 53 = (.bool true) := f53
    replace f54 : ρ 54 = (.bool true) := f54
    replace f55 : ρ 55 = (.int .i64 (d : Int)) := f55
    replace f56 : ρ 56 = (.int .i64 (d : Int)) := f56
    replace f57 : ρ 57 = (.bool true) := f57
    replace f58 : ρ 58 = (.bool true) := f58
    replace f59 : ρ 59 = (.bool true) := f59
    replace f60 : ρ 60 = (.int .i64 2) := f60
    replace f61 : ρ 61 = (.bool true) := f61
    replace f62 : ρ 62 = (.bool true) := f62
    replace f6 : ρ 6 = (.bool true) := f6
    simp only [puts, Act.put, List.setIfInBounds_toArray, List.set_cons_zero, List.set_cons_succ]
    rw [f6]
    go_wp2_with fail
    go_ret
    exact ⟨rfl, (hb1.trans hb2).trans hext⟩
end Go.Proofs.Ytgcgolkoooilhaa
