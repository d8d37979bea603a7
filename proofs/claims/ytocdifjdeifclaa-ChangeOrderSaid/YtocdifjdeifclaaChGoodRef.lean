/-
  The walk of the document's Good of changes.
-/
import Derived.Test.YtocdifjdeifclaaChGood
import Derived.Test.YtocdifjdeifclaaPolGood
namespace Go.Proofs.Ytocdifjdeifclaa
open Go Go.RowKit Mono Num
set_option linter.unusedVariables false
set_option linter.unusedSimpArgs false
set_option maxRecDepth 10000

def keyN (s : List UInt8) : Nat := if s = [] then 2 else if 32 < s.length then 3 else 0
set_option maxHeartbeats 1000000 in
theorem refKey_any (s : List UInt8) (w : World) : Calls Try.prog 69 #[strV s] w fun e w' => e = .returned (.int .i64 ((keyN s : Nat) : Int)) ∧ Ext w w' := by
  have hz := strV_size s
  go_enter Try.func69, Try.ntmps69
  go_upto_region 1 with (fail)
  obtain ⟨q4, Q4⟩ : ∃ q : Bool, q = (s == []) := ⟨_, rfl⟩
  refine wp_region_seq (by kernel_rfl) ?_
  refine tele_move rfl (.inl rfl) rfl (isV (strV s)) (fun ρ w' h => h) ?_
  refine tele_val rfl (.bool q4) (fun _ _ _ => rfl) ?_ ?_
  · rintro ρ w' he ⟨h3, -⟩
    have e3 : ρ 3 = strV s := h3
    exact (exec_eql_str rfl e3 (show _ = strV [] from rfl)).trans (by rw [Q4])
  refine tele_nil ?_
  rintro ρ w' hext ⟨f4, f3, -⟩
  clear f3
  replace f4 : ρ 4 = .bool q4 := f4
  simp only [puts, Act.put, List.setIfInBounds_toArray, List.set_cons_zero, List.set_cons_succ]
  rw [f4]
  cases q4
  · have h0 : s ≠ [] := by simpa using Q4.symm
    clear Q4
    by_cases h1 : 32 < s.length
    · have HK := Lib.hid (show keyN s = 3 by unfold keyN; rw [if_neg h0, if_pos h1])
      clear h0
      unfold strV
      go_wp2_with fail
      go_ret
      exact ⟨by rw [HK.out]; rfl, hext⟩
    · have HK := Lib.hid (show keyN s = 0 by unfold keyN; rw [if_neg h0, if_neg h1])
      clear h0
      unfold strV
      go_wp2_with fail
      go_ret
      exact ⟨by rw [HK.out]; rfl, hext⟩
  · have h0 : s = [] := by simpa using Q4.symm
    have HK := Lib.hid (show keyN s = 2 by unfold keyN; rw [if_pos h0])
    clear h0 Q4
    go_wp2_with fail
    go_ret
    exact ⟨by rw [HK.out]; rfl, hext⟩

theorem keyN_ok (s : List UInt8) : ((keyN s : Int) == 0) = (!(s == []) && decide (s.length ≤ 32)) := by
  unfold keyN
  by_cases h0 : s = []
  · rw [if_pos h0]; simp [h0]
  · by_cases h1 : 32 < s.length
    · rw [if_neg h0, if_pos h1]; simp [h0, h1]
    · rw [if_neg h0, if_neg h1]; simp [h0]; omega
set_option maxHeartbeats 1000000 in
theorem rwrite_any (vl : Value) (l : List Grp) (x : Wr) (w : World) (hl : Gs w vl l) : Calls Try.prog 41 #[vl, .agg #[strV x.key, .int .i64 x.group, .bool x.gone, strV x.value]] w fun e w' => e = .returned (.bool (wok l.length x)) ∧ Ext w w' := by
  obtain ⟨A0, c0, rfl, _⟩ := hl.at_
  go_enter Try.func41, Try.ntmps41
  go_upto_region 1 with (fail)
  have bm := Blk.new w #[strV x.key, .int .i64 x.group, .bool x.gone, strV x.value] 31
  have hx := ext_alloc w (.cells #[strV x.key, .int .i64 x.group, .bool x.gone, strV x.value] 31)
  obtain ⟨m, hm⟩ : ∃ m, m = w.heap.size := ⟨_, rfl⟩
  rw [← hm] at bm ⊢
  clear hm
  generalize w.alloc (.cells #[strV x.key, .int .i64 x.group, .bool x.gone, strV x.value] 31) = W at *
  obtain ⟨q8, Q8⟩ : ∃ q : Bool, q = ((keyN x.key : Int) == 0) := ⟨_, rfl⟩
  obtain ⟨q12, Q12⟩ : ∃ q : Bool, q = decide (0 ≤ x.group) := ⟨_, rfl⟩
  obtain ⟨q19, Q19⟩ : ∃ q : Bool, q = decide (x.group < (l.length : Int)) := ⟨_, rfl⟩
  obtain ⟨q25, Q25⟩ : ∃ q : Bool, q = decide ((x.value.length : Int) ≤ 64) := ⟨_, rfl⟩
  obtain ⟨q34, Q34⟩ : ∃ q : Bool, q = (x.value == []) := ⟨_, rfl⟩
  refine wp_region_seq (by kernel_rfl) ?_
  refine tele_val rfl (.pointer (some ⟨m, 0, none⟩)) (fun _ _ _ => rfl) ?_ ?_
  · rintro ρ w' he ⟨h3, -⟩
    have e3 : ρ 3 = .pointer (some ⟨m, 0, none⟩) := h3
    simp [execOp, evR, e3, go_sem]
  refine tele_val rfl (strV x.key) (fun _ _ _ => rfl) ?_ ?_
  · rintro ρ w' he ⟨h5, -⟩
    have e5 : ρ 5 = .pointer (some ⟨m, 0, none⟩) := h5
    have c0 := (bm.ext he).cell (i := 0) rfl
    simp [execOp, evR, e5, c0, go_sem]
  refine tele_call rfl rfl Try.func69 (by kernel_rfl) (isV (.int .i64 (keyN x.key : Int))) (fun _ _ _ => rfl) ?_ ?_
  · rintro ρ w' he ⟨h6, -⟩
    have e6 : ρ 6 = strV x.key := h6
    simp only [evR, List.map_toArray, List.map_cons, List.map_nil, e6]
    refine (refKey_any x.key _).mono ?_
    rintro e w'' ⟨rfl, hx⟩
    exact ⟨_, rfl, hx, rfl⟩
  refine tele_val rfl (.bool q8) (fun _ _ _ => rfl) ?_ ?_
  · rintro ρ w' he ⟨h7, -⟩
    have e7 : ρ 7 = .int .i64 (keyN x.key : Int) := h7
    rw [Q8]
    simp [execOp, evR, e7, go_sem]
  refine tele_move rfl (.inl rfl) rfl (isV (.bool q8)) (fun ρ w' h => h) ?_
  refine tele_gval rfl (q8) (.pointer (some ⟨m, 1, none⟩)) (fun ρ w' hk => by obtain ⟨_, hg, -⟩ := hk; have eg : ρ 9 = .bool q8 := hg; cases hq : (q8) <;> simp [wantedR, Region.wanted, asBoolR_bool, asBoolR_undef, eg, ifV, hq]) ?_ ?_
  · rintro ρ w' he ⟨h3, hgd, -⟩ hG
    have e3 : ρ 3 = .pointer (some ⟨m, 0, none⟩) := h3
    simp [execOp, evR, e3, go_sem]
  refine tele_gval rfl (q8) (.int .i64 x.group) (fun ρ w' hk => by obtain ⟨_, hg, -⟩ := hk; have eg : ρ 9 = .bool q8 := hg; cases hq : (q8) <;> simp [wantedR, Region.wanted, asBoolR_bool, asBoolR_undef, eg, ifV, hq]) ?_ ?_
  · rintro ρ w' he ⟨h10, hgd, -⟩ hG
    have e10 : ρ 10 = .pointer (some ⟨m, 1, none⟩) := (show ρ 10 = ifV (q8) (.pointer (some ⟨m, 1, none⟩)) from h10).trans (ifV_true (by first | exact hG | simp_all))
    have c0 := (bm.ext he).cell (i := 1) rfl
    simp [execOp, evR, e10, c0, go_sem]
  refine tele_gval rfl (q8) (.bool q12) (fun ρ w' hk => by obtain ⟨_, hg, -⟩ := hk; have eg : ρ 9 = .bool q8 := hg; cases hq : (q8) <;> simp [wantedR, Region.wanted, asBoolR_bool, asBoolR_undef, eg, ifV, hq]) ?_ ?_
  · rintro ρ w' he ⟨h11, hgd, -⟩ hG
    have e11 : ρ 11 = .int .i64 x.group := (show ρ 11 = ifV (q8) (.int .i64 x.group) from h11).trans (ifV_true (by first | exact hG | simp_all))
    rw [Q12]
    simp [execOp, evR, e11, go_sem]
  refine tele_val rfl (.bool (q8 && q12)) (fun _ _ _ => rfl) ?_ ?_
  · rintro ρ w' he ⟨h9, h12, -⟩
    have e9 : ρ 9 = .bool q8 := h9
    have e12 : ρ 12 = ifV (q8) (.bool q12) := h12
    cases hc : (q8) <;> simp [execOp, evR, e9, e12, ifV, hc, go_sem]
  refine tele_move rfl (.inl rfl) rfl (isV (.bool (q8 && q12))) (fun ρ w' h => h) ?_
  refine tele_gval rfl ((q8 && q12)) (.pointer (some ⟨m, 1, none⟩)) (fun ρ w' hk => by obtain ⟨_, hg, -⟩ := hk; have eg : ρ 14 = .bool (q8 && q12) := hg; cases hq : ((q8 && q12)) <;> simp [wantedR, Region.wanted, asBoolR_bool, asBoolR_undef, eg, ifV, hq]) ?_ ?_
  · rintro ρ w' he ⟨h3, hgd, -⟩ hG
    have e3 : ρ 3 = .pointer (some ⟨m, 0, none⟩) := h3
    simp [execOp, evR, e3, go_sem]
  refine tele_gval rfl ((q8 && q12)) (.int .i64 x.group) (fun ρ w' hk => by obtain ⟨_, hg, -⟩ := hk; have eg : ρ 14 = .bool (q8 && q12) := hg; cases hq : ((q8 && q12)) <;> simp [wantedR, Region.wanted, asBoolR_bool, asBoolR_undef, eg, ifV, hq]) ?_ ?_
  · rintro ρ w' he ⟨h15, hgd, -⟩ hG
    have e15 : ρ 15 = .pointer (some ⟨m, 1, none⟩) := (show ρ 15 = ifV ((q8 && q12)) (.pointer (some ⟨m, 1, none⟩)) from h15).trans (ifV_true (by first | exact hG | simp_all))
    have c0 := (bm.ext he).cell (i := 1) rfl
    simp [execOp, evR, e15, c0, go_sem]
  refine tele_gval rfl ((q8 && q12)) (.slice A0 l.length c0) (fun ρ w' hk => by obtain ⟨_, hg, -⟩ := hk; have eg : ρ 14 = .bool (q8 && q12) := hg; cases hq : ((q8 && q12)) <;> simp [wantedR, Region.wanted, asBoolR_bool, asBoolR_undef, eg, ifV, hq]) ?_ ?_
  · rintro ρ w' he ⟨h0, hgd, -⟩ hG
    have e0 : ρ 0 = .slice A0 l.length c0 := h0
    simp [execOp, evR, e0, go_sem]
  refine tele_gval rfl ((q8 && q12)) (.int .i64 ((l.length : Nat) : Int)) (fun ρ w' hk => by obtain ⟨_, hg, -⟩ := hk; have eg : ρ 14 = .bool (q8 && q12) := hg; cases hq : ((q8 && q12)) <;> simp [wantedR, Region.wanted, asBoolR_bool, asBoolR_undef, eg, ifV, hq]) ?_ ?_
  · rintro ρ w' he ⟨h17, hgd, -⟩ hG
    have e17 : ρ 17 = .slice A0 l.length c0 := (show ρ 17 = ifV ((q8 && q12)) (.slice A0 l.length c0) from h17).trans (ifV_true (by first | exact hG | simp_all))
    simp [execOp, evR, e17, go_sem]
  refine tele_gval rfl ((q8 && q12)) (.bool q19) (fun ρ w' hk => by obtain ⟨_, _, hg, -⟩ := hk; have eg : ρ 14 = .bool (q8 && q12) := hg; cases hq : ((q8 && q12)) <;> simp [wantedR, Region.wanted, asBoolR_bool, asBoolR_undef, eg, ifV, hq]) ?_ ?_
  · rintro ρ w' he ⟨h16, h18, hgd, -⟩ hG
    have e16 : ρ 16 = .int .i64 x.group := (show ρ 16 = ifV ((q8 && q12)) (.int .i64 x.group) from h16).trans (ifV_true (by first | exact hG | simp_all))
    have e18 : ρ 18 = .int .i64 ((l.length : Nat) : Int) := (show ρ 18 = ifV ((q8 && q12)) (.int .i64 ((l.length : Nat) : Int)) from h18).trans (ifV_true (by first | exact hG | simp_all))
    rw [Q19]
    simp [execOp, evR, e16, e18, go_sem]
  refine tele_val rfl (.bool ((q8 && q12) && q19)) (fun _ _ _ => rfl) ?_ ?_
  · rintro ρ w' he ⟨h14, h19, -⟩
    have e14 : ρ 14 = .bool (q8 && q12) := h14
    have e19 : ρ 19 = ifV ((q8 && q12)) (.bool q19) := h19
    cases hc : ((q8 && q12)) <;> simp [execOp, evR, e14, e19, ifV, hc, go_sem]
  refine tele_move rfl (.inl rfl) rfl (isV (.bool ((q8 && q12) && q19))) (fun ρ w' h => h) ?_
  refine tele_gval rfl (((q8 && q12) && q19)) (.pointer (some ⟨m, 3, none⟩)) (fun ρ w' hk => by obtain ⟨_, hg, -⟩ := hk; have eg : ρ 21 = .bool ((q8 && q12) && q19) := hg; cases hq : (((q8 && q12) && q19)) <;> simp [wantedR, Region.wanted, asBoolR_bool, asBoolR_undef, eg, ifV, hq]) ?_ ?_
  · rintro ρ w' he ⟨h3, hgd, -⟩ hG
    have e3 : ρ 3 = .pointer (some ⟨m, 0, none⟩) := h3
    simp [execOp, evR, e3, go_sem]
  refine tele_gval rfl (((q8 && q12) && q19)) (strV x.value) (fun ρ w' hk => by obtain ⟨_, hg, -⟩ := hk; have eg : ρ 21 = .bool ((q8 && q12) && q19) := hg; cases hq : (((q8 && q12) && q19)) <;> simp [wantedR, Region.wanted, asBoolR_bool, asBoolR_undef, eg, ifV, hq]) ?_ ?_
  · rintro ρ w' he ⟨h22, hgd, -⟩ hG
    have e22 : ρ 22 = .pointer (some ⟨m, 3, none⟩) := (show ρ 22 = ifV (((q8 && q12) && q19)) (.pointer (some ⟨m, 3, none⟩)) from h22).trans (ifV_true (by first | exact hG | simp_all))
    have c0 := (bm.ext he).cell (i := 3) rfl
    simp [execOp, evR, e22, c0, go_sem]
  refine tele_gval rfl (((q8 && q12) && q19)) (.int .i64 ((x.value.length : Nat) : Int)) (fun ρ w' hk => by obtain ⟨_, hg, -⟩ := hk; have eg : ρ 21 = .bool ((q8 && q12) && q19) := hg; cases hq : (((q8 && q12) && q19)) <;> simp [wantedR, Region.wanted, asBoolR_bool, asBoolR_undef, eg, ifV, hq]) ?_ ?_
  · rintro ρ w' he ⟨h23, hgd, -⟩ hG
    have e23 : ρ 23 = strV x.value := (show ρ 23 = ifV (((q8 && q12) && q19)) (strV x.value) from h23).trans (ifV_true (by first | exact hG | simp_all))
    have hsz := strV_size x.value
    unfold strV at e23
    simp [execOp, evR, e23, go_sem]
  refine tele_gval rfl (((q8 && q12) && q19)) (.bool q25) (fun ρ w' hk => by obtain ⟨_, hg, -⟩ := hk; have eg : ρ 21 = .bool ((q8 && q12) && q19) := hg; cases hq : (((q8 && q12) && q19)) <;> simp [wantedR, Region.wanted, asBoolR_bool, asBoolR_undef, eg, ifV, hq]) ?_ ?_
  · rintro ρ w' he ⟨h24, hgd, -⟩ hG
    have e24 : ρ 24 = .int .i64 ((x.value.length : Nat) : Int) := (show ρ 24 = ifV (((q8 && q12) && q19)) (.int .i64 ((x.value.length : Nat) : Int)) from h24).trans (ifV_true (by first | exact hG | simp_all))
    rw [Q25]
    simp [execOp, evR, e24, go_sem]
  refine tele_val rfl (.bool (((q8 && q12) && q19) && q25)) (fun _ _ _ => rfl) ?_ ?_
  · rintro ρ w' he ⟨h21, h25, -⟩
    have e21 : ρ 21 = .bool ((q8 && q12) && q19) := h21
    have e25 : ρ 25 = ifV (((q8 && q12) && q19)) (.bool q25) := h25
    cases hc : (((q8 && q12) && q19)) <;> simp [execOp, evR, e21, e25, ifV, hc, go_sem]
  refine tele_move rfl (.inl rfl) rfl (isV (.bool (((q8 && q12) && q19) && q25))) (fun ρ w' h => h) ?_
  refine tele_gval rfl ((((q8 && q12) && q19) && q25)) (.pointer (some ⟨m, 2, none⟩)) (fun ρ w' hk => by obtain ⟨_, hg, -⟩ := hk; have eg : ρ 27 = .bool (((q8 && q12) && q19) && q25) := hg; cases hq : ((((q8 && q12) && q19) && q25)) <;> simp [wantedR, Region.wanted, asBoolR_bool, asBoolR_undef, eg, ifV, hq]) ?_ ?_
  · rintro ρ w' he ⟨h3, hgd, -⟩ hG
    have e3 : ρ 3 = .pointer (some ⟨m, 0, none⟩) := h3
    simp [execOp, evR, e3, go_sem]
  refine tele_gval rfl ((((q8 && q12) && q19) && q25)) (.bool x.gone) (fun ρ w' hk => by obtain ⟨_, hg, -⟩ := hk; have eg : ρ 27 = .bool (((q8 && q12) && q19) && q25) := hg; cases hq : ((((q8 && q12) && q19) && q25)) <;> simp [wantedR, Region.wanted, asBoolR_bool, asBoolR_undef, eg, ifV, hq]) ?_ ?_
  · rintro ρ w' he ⟨h28, hgd, -⟩ hG
    have e28 : ρ 28 = .pointer (some ⟨m, 2, none⟩) := (show ρ 28 = ifV ((((q8 && q12) && q19) && q25)) (.pointer (some ⟨m, 2, none⟩)) from h28).trans (ifV_true (by first | exact hG | simp_all))
    have c0 := (bm.ext he).cell (i := 2) rfl
    simp [execOp, evR, e28, c0, go_sem]
  refine tele_gval rfl ((((q8 && q12) && q19) && q25)) (.bool (!x.gone)) (fun ρ w' hk => by obtain ⟨_, hg, -⟩ := hk; have eg : ρ 27 = .bool (((q8 && q12) && q19) && q25) := hg; cases hq : ((((q8 && q12) && q19) && q25)) <;> simp [wantedR, Region.wanted, asBoolR_bool, asBoolR_undef, eg, ifV, hq]) ?_ ?_
  · rintro ρ w' he ⟨h29, hgd, -⟩ hG
    have e29 : ρ 29 = .bool x.gone := (show ρ 29 = ifV ((((q8 && q12) && q19) && q25)) (.bool x.gone) from h29).trans (ifV_true (by first | exact hG | simp_all))
    simp [execOp, evR, e29, go_sem]
  refine tele_gval rfl ((((q8 && q12) && q19) && q25)) (.bool (!x.gone)) (fun ρ w' hk => by obtain ⟨_, hg, -⟩ := hk; have eg : ρ 27 = .bool (((q8 && q12) && q19) && q25) := hg; cases hq : ((((q8 && q12) && q19) && q25)) <;> simp [wantedR, Region.wanted, asBoolR_bool, asBoolR_undef, eg, ifV, hq]) ?_ ?_
  · rintro ρ w' he ⟨h30, hgd, -⟩ hG
    have e30 : ρ 30 = .bool (!x.gone) := (show ρ 30 = ifV ((((q8 && q12) && q19) && q25)) (.bool (!x.gone)) from h30).trans (ifV_true (by first | exact hG | simp_all))
    simp [execOp, evR, e30, go_sem]
  refine tele_gval rfl ((((q8 && q12) && q19) && q25) && !(!x.gone)) (.pointer (some ⟨m, 3, none⟩)) (fun ρ w' hk => by obtain ⟨_, hg, -⟩ := hk; have eg : ρ 31 = ifV ((((q8 && q12) && q19) && q25)) (.bool (!x.gone)) := hg; cases h0 : ((((q8 && q12) && q19) && q25)) <;> cases hq : ((!x.gone)) <;> simp [wantedR, Region.wanted, asBoolR_bool, asBoolR_undef, eg, ifV, hq, h0]) ?_ ?_
  · rintro ρ w' he ⟨h3, hgd, -⟩ hG
    have e3 : ρ 3 = .pointer (some ⟨m, 0, none⟩) := h3
    simp [execOp, evR, e3, go_sem]
  refine tele_gval rfl ((((q8 && q12) && q19) && q25) && !(!x.gone)) (strV x.value) (fun ρ w' hk => by obtain ⟨_, hg, -⟩ := hk; have eg : ρ 31 = ifV ((((q8 && q12) && q19) && q25)) (.bool (!x.gone)) := hg; cases h0 : ((((q8 && q12) && q19) && q25)) <;> cases hq : ((!x.gone)) <;> simp [wantedR, Region.wanted, asBoolR_bool, asBoolR_undef, eg, ifV, hq, h0]) ?_ ?_
  · rintro ρ w' he ⟨h32, hgd, -⟩ hG
    have e32 : ρ 32 = .pointer (some ⟨m, 3, none⟩) := (show ρ 32 = ifV ((((q8 && q12) && q19) && q25) && !(!x.gone)) (.pointer (some ⟨m, 3, none⟩)) from h32).trans (ifV_true (by first | exact hG | simp_all))
    have c0 := (bm.ext he).cell (i := 3) rfl
    simp [execOp, evR, e32, c0, go_sem]
  refine tele_gval rfl ((((q8 && q12) && q19) && q25) && !(!x.gone)) (.bool q34) (fun ρ w' hk => by obtain ⟨_, hg, -⟩ := hk; have eg : ρ 31 = ifV ((((q8 && q12) && q19) && q25)) (.bool (!x.gone)) := hg; cases h0 : ((((q8 && q12) && q19) && q25)) <;> cases hq : ((!x.gone)) <;> simp [wantedR, Region.wanted, asBoolR_bool, asBoolR_undef, eg, ifV, hq, h0]) ?_ ?_
  · rintro ρ w' he ⟨h33, hgd, -⟩ hG
    have e33 : ρ 33 = strV x.value := (show ρ 33 = ifV ((((q8 && q12) && q19) && q25) && !(!x.gone)) (strV x.value) from h33).trans (ifV_true (by first | exact hG | simp_all))
    exact (exec_eql_str rfl e33 (show _ = strV [] from rfl)).trans (by rw [Q34])
  refine tele_gval rfl ((((q8 && q12) && q19) && q25)) (.bool ((!x.gone) || q34)) (fun ρ w' hk => by obtain ⟨_, _, hg, -⟩ := hk; have eg : ρ 27 = .bool (((q8 && q12) && q19) && q25) := hg; cases hq : ((((q8 && q12) && q19) && q25)) <;> simp [wantedR, Region.wanted, asBoolR_bool, asBoolR_undef, eg, ifV, hq]) ?_ ?_
  · rintro ρ w' he ⟨h31, h34, hgd, -⟩ hG
    have e31 : ρ 31 = .bool (!x.gone) := (show ρ 31 = ifV ((((q8 && q12) && q19) && q25)) (.bool (!x.gone)) from h31).trans (ifV_true (by first | exact hG | simp_all))
    have e34 : ρ 34 = ifV ((((q8 && q12) && q19) && q25) && !(!x.gone)) (.bool q34) := h34
    cases hc : ((!x.gone)) <;> simp [execOp, evR, e31, e34, ifV, hc, hG, go_sem]
  refine tele_val rfl (.bool ((((q8 && q12) && q19) && q25) && ((!x.gone) || q34))) (fun _ _ _ => rfl) ?_ ?_
  · rintro ρ w' he ⟨h27, h35, -⟩
    have e27 : ρ 27 = .bool (((q8 && q12) && q19) && q25) := h27
    have e35 : ρ 35 = ifV ((((q8 && q12) && q19) && q25)) (.bool ((!x.gone) || q34)) := h35
    cases hc : ((((q8 && q12) && q19) && q25)) <;> simp [execOp, evR, e27, e35, ifV, hc, go_sem]
  refine tele_move rfl (.inr rfl) rfl (isV (.bool ((((q8 && q12) && q19) && q25) && ((!x.gone) || q34)))) (fun ρ w' h => h) ?_
  refine tele_nil ?_
  rintro ρ w' hext ⟨f4, f36, f35, f34, f33, f32, f31, f30, f29, f28, f27, f26, f25, f24, f23, f22, f21, f20, f19, f18, f17, f16, f15, f14, f13, f12, f11, f10, f9, f8, f7, f6, f5, -⟩
  clear f5
  clear f6
  clear f7
  clear f8
  clear f9
  clear f10
  clear f11
  clear f12
  clear f13
  clear f14
  clear f15
  clear f16
  clear f17
  clear f18
  clear f19
  clear f20
  clear f21
  clear f22
  clear f23
  clear f24
  clear f25
  clear f26
  clear f27
  clear f28
  clear f29
  clear f30
  clear f31
  clear f32
  clear f33
  clear f34
  clear f35
  clear f36
  replace f4 : ρ 4 = .bool ((((q8 && q12) && q19) && q25) && ((!x.gone) || q34)) := f4
  simp only [puts, Act.put, List.setIfInBounds_toArray, List.set_cons_zero, List.set_cons_succ]
  have hok : ((((q8 && q12) && q19) && q25) && ((!x.gone) || q34)) = wok l.length x := by
    rw [Q8, Q12, Q19, Q25, Q34, keyN_ok]
    unfold wok
    generalize (x.key == []) = kk
    generalize (x.value == []) = zz
    generalize x.gone = d
    rw [Bool.eq_iff_iff]
    cases kk <;> cases zz <;> cases d <;> simp <;> omega
  rw [f4, hok]
  go_wp2_with fail
  go_ret
  exact ⟨rfl, Ext.trans hx hext⟩

set_option maxHeartbeats 2000000 in
theorem rahead_any (k1 : List UInt8) (g1 : Int) (d1 : Bool) (z1 k2 : List UInt8) (g2 : Int) (d2 : Bool) (z2 : List UInt8) (w : World) :
    Calls Try.prog 42 #[.agg #[strV k1, .int .i64 g1, .bool d1, strV z1], .agg #[strV k2, .int .i64 g2, .bool d2, strV z2]] w fun e w' => e = .returned (.bool (Op.bytesLess k1 k2 || (k1 == k2 && decide (g1 < g2)))) ∧ Ext w w' := by
  have HEQ := Lib.hid (show k1 = k2 → Op.bytesLess k1 k2 = false from fun h => by subst h; exact bytesLess_irrefl k1)
  go_enter Try.func42, Try.ntmps42
  go_upto_region 1 with (fail)
  have ba := Blk.new w #[strV k1, .int .i64 g1, .bool d1, strV z1] 31
  have bb := Blk.new (w.alloc (.cells #[strV k1, .int .i64 g1, .bool d1, strV z1] 31)) #[strV k2, .int .i64 g2, .bool d2, strV z2] 31
  replace ba := ba.ext (ext_alloc _ (.cells #[strV k2, .int .i64 g2, .bool d2, strV z2] 31))
  have hx := Ext.trans (ext_alloc w (.cells #[strV k1, .int .i64 g1, .bool d1, strV z1] 31)) (ext_alloc _ (.cells #[strV k2, .int .i64 g2, .bool d2, strV z2] 31))
  simp only [World.size_alloc] at bb
  obtain ⟨na, hna⟩ : ∃ n, n = w.heap.size := ⟨_, rfl⟩
  obtain ⟨nb, hnb⟩ : ∃ n, n = w.heap.size + 1 := ⟨_, rfl⟩
  rw [← hna] at ba
  rw [← hnb] at bb
  rw [← hnb, ← hna]
  clear hna hnb
  generalize (w.alloc (.cells #[strV k1, .int .i64 g1, .bool d1, strV z1] 31)).alloc (.cells #[strV k2, .int .i64 g2, .bool d2, strV z2] 31) = W at *
  obtain ⟨q9, Q9⟩ : ∃ q : Bool, q = (!(k1 == k2)) := ⟨_, rfl⟩
  refine wp_region_seq (by kernel_rfl) ?_
  refine tele_val rfl (.pointer (some ⟨na, 0, none⟩)) (fun _ _ _ => rfl) ?_ ?_
  · rintro ρ w' he ⟨h2, -⟩
    have e2 : ρ 2 = .pointer (some ⟨na, 0, none⟩) := h2
    simp [execOp, evR, e2, go_sem]
  refine tele_val rfl (strV k1) (fun _ _ _ => rfl) ?_ ?_
  · rintro ρ w' he ⟨h5, -⟩
    have e5 : ρ 5 = .pointer (some ⟨na, 0, none⟩) := h5
    have c0 := (ba.ext he).cell (i := 0) rfl
    simp [execOp, evR, e5, c0, go_sem]
  refine tele_val rfl (.pointer (some ⟨nb, 0, none⟩)) (fun _ _ _ => rfl) ?_ ?_
  · rintro ρ w' he ⟨h3, -⟩
    have e3 : ρ 3 = .pointer (some ⟨nb, 0, none⟩) := h3
    simp [execOp, evR, e3, go_sem]
  refine tele_val rfl (strV k2) (fun _ _ _ => rfl) ?_ ?_
  · rintro ρ w' he ⟨h7, -⟩
    have e7 : ρ 7 = .pointer (some ⟨nb, 0, none⟩) := h7
    have c0 := (bb.ext he).cell (i := 0) rfl
    simp [execOp, evR, e7, c0, go_sem]
  refine tele_val rfl (.bool q9) (fun _ _ _ => rfl) ?_ ?_
  · rintro ρ w' he ⟨h6, h8, -⟩
    have e6 : ρ 6 = strV k1 := h6
    have e8 : ρ 8 = strV k2 := h8
    exact (exec_neq_str rfl e6 e8).trans (by rw [Q9])
  refine tele_nil ?_
  rintro ρ w' hext ⟨f9, f8, f7, f6, f5, -⟩
  clear f5
  clear f6
  clear f7
  clear f8
  replace f9 : ρ 9 = .bool q9 := f9
  simp only [puts, Act.put, List.setIfInBounds_toArray, List.set_cons_zero, List.set_cons_succ]
  replace ba := ba.ext hext
  replace bb := bb.ext hext
  replace hx := Ext.trans hx hext
  clear hext
  rw [f9]
  clear f9
  cases q9
  · go_upto_region 3 with (fail)
    obtain ⟨q19, Q19⟩ : ∃ q : Bool, q = decide (g1 < g2) := ⟨_, rfl⟩
    refine wp_region_seq (by kernel_rfl) ?_
    refine tele_val rfl (.pointer (some ⟨na, 1, none⟩)) (fun _ _ _ => rfl) ?_ ?_
    · rintro ρ w' he ⟨h2, -⟩
      have e2 : ρ 2 = .pointer (some ⟨na, 0, none⟩) := h2
      simp [execOp, evR, e2, go_sem]
    refine tele_val rfl (.int .i64 g1) (fun _ _ _ => rfl) ?_ ?_
    · rintro ρ w' he ⟨h15, -⟩
      have e15 : ρ 15 = .pointer (some ⟨na, 1, none⟩) := h15
      have c0 := (ba.ext he).cell (i := 1) rfl
      simp [execOp, evR, e15, c0, go_sem]
    refine tele_val rfl (.pointer (some ⟨nb, 1, none⟩)) (fun _ _ _ => rfl) ?_ ?_
    · rintro ρ w' he ⟨h3, -⟩
      have e3 : ρ 3 = .pointer (some ⟨nb, 0, none⟩) := h3
      simp [execOp, evR, e3, go_sem]
    refine tele_val rfl (.int .i64 g2) (fun _ _ _ => rfl) ?_ ?_
    · rintro ρ w' he ⟨h17, -⟩
      have e17 : ρ 17 = .pointer (some ⟨nb, 1, none⟩) := h17
      have c0 := (bb.ext he).cell (i := 1) rfl
      simp [execOp, evR, e17, c0, go_sem]
    refine tele_val rfl (.bool q19) (fun _ _ _ => rfl) ?_ ?_
    · rintro ρ w' he ⟨h16, h18, -⟩
      have e16 : ρ 16 = .int .i64 g1 := h16
      have e18 : ρ 18 = .int .i64 g2 := h18
      rw [Q19]
      simp [execOp, evR, e16, e18, go_sem]
    refine tele_move rfl (.inr rfl) rfl (isV (.bool q19)) (fun ρ w' h => h) ?_
    refine tele_nil ?_
    rintro ρ w' hext ⟨f4, f19, f18, f17, f16, f15, -⟩
    clear f15
    clear f16
    clear f17
    clear f18
    clear f19
    replace f4 : ρ 4 = .bool q19 := f4
    simp only [puts, Act.put, List.setIfInBounds_toArray, List.set_cons_zero, List.set_cons_succ]
    rw [f4, Q19]
    clear f4 Q19
    go_wp2_with fail
    go_ret
    have hk : (k1 == k2) = true := by revert Q9; cases (k1 == k2) <;> simp
    exact ⟨by rw [hk, HEQ.out (by simpa using hk)]; rfl, Ext.trans hx hext⟩
  · go_upto_region 2 with (fail)
    obtain ⟨q14, Q14⟩ : ∃ q : Bool, q = Op.bytesLess k1 k2 := ⟨_, rfl⟩
    refine wp_region_seq (by kernel_rfl) ?_
    refine tele_val rfl (.pointer (some ⟨na, 0, none⟩)) (fun _ _ _ => rfl) ?_ ?_
    · rintro ρ w' he ⟨h2, -⟩
      have e2 : ρ 2 = .pointer (some ⟨na, 0, none⟩) := h2
      simp [execOp, evR, e2, go_sem]
    refine tele_val rfl (strV k1) (fun _ _ _ => rfl) ?_ ?_
    · rintro ρ w' he ⟨h10, -⟩
      have e10 : ρ 10 = .pointer (some ⟨na, 0, none⟩) := h10
      have c0 := (ba.ext he).cell (i := 0) rfl
      simp [execOp, evR, e10, c0, go_sem]
    refine tele_val rfl (.pointer (some ⟨nb, 0, none⟩)) (fun _ _ _ => rfl) ?_ ?_
    · rintro ρ w' he ⟨h3, -⟩
      have e3 : ρ 3 = .pointer (some ⟨nb, 0, none⟩) := h3
      simp [execOp, evR, e3, go_sem]
    refine tele_val rfl (strV k2) (fun _ _ _ => rfl) ?_ ?_
    · rintro ρ w' he ⟨h12, -⟩
      have e12 : ρ 12 = .pointer (some ⟨nb, 0, none⟩) := h12
      have c0 := (bb.ext he).cell (i := 0) rfl
      simp [execOp, evR, e12, c0, go_sem]
    refine tele_val rfl (.bool q14) (fun _ _ _ => rfl) ?_ ?_
    · rintro ρ w' he ⟨h11, h13, -⟩
      have e11 : ρ 11 = strV k1 := h11
      have e13 : ρ 13 = strV k2 := h13
      unfold strV at e11 e13
      rw [Q14]
      simp [execOp, evR, e11, e13, go_sem]
    refine tele_move rfl (.inr rfl) rfl (isV (.bool q14)) (fun ρ w' h => h) ?_
    refine tele_nil ?_
    rintro ρ w' hext ⟨f4, f14, f13, f12, f11, f10, -⟩
    clear f10
    clear f11
    clear f12
    clear f13
    clear f14
    replace f4 : ρ 4 = .bool q14 := f4
    simp only [puts, Act.put, List.setIfInBounds_toArray, List.set_cons_zero, List.set_cons_succ]
    rw [f4, Q14]
    clear f4 Q14
    go_wp2_with fail
    go_ret
    have hk : (k1 == k2) = false := by revert Q9; cases (k1 == k2) <;> simp
    exact ⟨by rw [hk, Bool.false_and, Bool.or_false]; rfl, Ext.trans hx hext⟩

set_option maxHeartbeats 4000000 in
theorem refChGood_any (vl : Value) (l : List Grp) (site seq sn ss va vb : Int) (vw : Value) (ws : List Wr) (w : World) (hl : Gs w vl l) (hw : Ws w vw ws) :
    Calls Try.prog 14 #[vl, chV ⟨site, seq, sn, ss, va, vb, ws⟩ vw] w fun e w' => e = .returned (.int .i64 ((cgood l ⟨site, seq, sn, ss, va, vb, ws⟩ : Nat) : Int)) ∧ Ext w w' := by
  unfold chV
  dsimp only
  obtain ⟨A, c, rfl, h1, h2, h3, h4⟩ := hw.at_
  go_enter Try.func14, Try.ntmps14
  go_wp2_with fail
  have ba := Blk.new w #[.int .i64 site, .int .i64 seq, .int .i64 sn, .int .i64 ss, .int .i64 va, .int .i64 vb, .slice A ws.length c] 29
  have hx := ext_alloc w (.cells #[.int .i64 site, .int .i64 seq, .int .i64 sn, .int .i64 ss, .int .i64 va, .int .i64 vb, .slice A ws.length c] 29)
  obtain ⟨n, hnn⟩ : ∃ n, n = w.heap.size := ⟨_, rfl⟩
  rw [← hnn] at ba ⊢
  clear hnn
  generalize w.alloc (.cells #[.int .i64 site, .int .i64 seq, .int .i64 sn, .int .i64 ss, .int .i64 va, .int .i64 vb, .slice A ws.length c] 29) = W at *
  refine (refGood_any vl l W (hl.ext hx)).mono ?_
  rintro e w1 ⟨rfl, x1⟩
  replace hx := Ext.trans hx x1
  replace ba := ba.ext x1
  clear x1
  by_cases hp : pgood l = 0
  rotate_left
  · have HR := Lib.hid (show cgood l ⟨site, seq, sn, ss, va, vb, ws⟩ = pgood l by unfold cgood; rw [if_pos hp])
    have hp0 : (((pgood l : Nat) : Int) != 0) = true := by rw [bne_iff_ne]; omega
    clear hp
    go_wp2_with fail
    go_ret
    exact ⟨by rw [HR.out]; rfl, hx⟩
  rw [hp]
  have HP := Lib.hid hp
  clear hp
  go_wp2_with fail
  obtain ⟨q14, Q14⟩ : ∃ q : Bool, q = (site != 1) := ⟨_, rfl⟩
  obtain ⟨q18, Q18⟩ : ∃ q : Bool, q = (site != 2) := ⟨_, rfl⟩
  obtain ⟨q23, Q23⟩ : ∃ q : Bool, q = decide (seq < 1) := ⟨_, rfl⟩
  obtain ⟨q28, Q28⟩ : ∃ q : Bool, q = decide (1099511627776 < seq) := ⟨_, rfl⟩
  obtain ⟨q42, Q42⟩ : ∃ q : Bool, q = (ss != site) := ⟨_, rfl⟩
  obtain ⟨q59, Q59⟩ : ∃ q : Bool, q = ((if site = 1 then va else vb) != seq) := ⟨_, rfl⟩
  obtain ⟨q65, Q65⟩ : ∃ q : Bool, q = decide ((ws.length : Int) < 1) := ⟨_, rfl⟩
  obtain ⟨q71, Q71⟩ : ∃ q : Bool, q = decide ((8 : Int) < (ws.length : Int)) := ⟨_, rfl⟩
  refine wp_region_mono (by kernel_rfl) (by kernel_rfl) ?_
  refine tele_val rfl (.pointer (some ⟨n, 0, none⟩)) (fun _ _ _ => rfl) ?_ ?_
  · rintro ρ w' he ⟨h3, -⟩
    have e3 : ρ 3 = .pointer (some ⟨n, 0, none⟩) := h3
    simp [execOp, evR, e3, go_sem]
  refine tele_val rfl (.int .i64 site) (fun _ _ _ => rfl) ?_ ?_
  · rintro ρ w' he ⟨h12, -⟩
    have e12 : ρ 12 = .pointer (some ⟨n, 0, none⟩) := h12
    have c0 := (ba.ext he).cell (i := 0) rfl
    simp [execOp, evR, e12, c0, go_sem]
  refine tele_val rfl (.bool q14) (fun _ _ _ => rfl) ?_ ?_
  · rintro ρ w' he ⟨h13, -⟩
    have e13 : ρ 13 = .int .i64 site := h13
    rw [Q14]
    simp [execOp, evR, e13, go_sem]
  refine tele_move rfl (.inl rfl) rfl (isV (.bool q14)) (fun ρ w' h => h) ?_
  refine tele_gval rfl (q14) (.pointer (some ⟨n, 0, none⟩)) (fun ρ w' hk => by obtain ⟨_, hg, -⟩ := hk; have eg : ρ 15 = .bool q14 := hg; cases hq : (q14) <;> simp [wantedR, Region.wanted, asBoolR_bool, asBoolR_undef, eg, ifV, hq]) ?_ ?_
  · rintro ρ w' he ⟨h3, hgd, -⟩ hG
    have e3 : ρ 3 = .pointer (some ⟨n, 0, none⟩) := h3
    simp [execOp, evR, e3, go_sem]
  refine tele_gval rfl (q14) (.int .i64 site) (fun ρ w' hk => by obtain ⟨_, hg, -⟩ := hk; have eg : ρ 15 = .bool q14 := hg; cases hq : (q14) <;> simp [wantedR, Region.wanted, asBoolR_bool, asBoolR_undef, eg, ifV, hq]) ?_ ?_
  · rintro ρ w' he ⟨h16, hgd, -⟩ hG
    have e16 : ρ 16 = .pointer (some ⟨n, 0, none⟩) := (show ρ 16 = ifV (q14) (.pointer (some ⟨n, 0, none⟩)) from h16).trans (ifV_true (by first | exact hG | simp_all))
    have c0 := (ba.ext he).cell (i := 0) rfl
    simp [execOp, evR, e16, c0, go_sem]
  refine tele_gval rfl (q14) (.bool q18) (fun ρ w' hk => by obtain ⟨_, hg, -⟩ := hk; have eg : ρ 15 = .bool q14 := hg; cases hq : (q14) <;> simp [wantedR, Region.wanted, asBoolR_bool, asBoolR_undef, eg, ifV, hq]) ?_ ?_
  · rintro ρ w' he ⟨h17, hgd, -⟩ hG
    have e17 : ρ 17 = .int .i64 site := (show ρ 17 = ifV (q14) (.int .i64 site) from h17).trans (ifV_true (by first | exact hG | simp_all))
    rw [Q18]
    simp [execOp, evR, e17, go_sem]
  refine tele_val rfl (.bool (q14 && q18)) (fun _ _ _ => rfl) ?_ ?_
  · rintro ρ w' he ⟨h15, h18, -⟩
    have e15 : ρ 15 = .bool q14 := h15
    have e18 : ρ 18 = ifV (q14) (.bool q18) := h18
    cases hc : (q14) <;> simp [execOp, evR, e15, e18, ifV, hc, go_sem]
  refine tele_move rfl (.inl rfl) rfl (isV (.bool (q14 && q18))) (fun ρ w' h => h) ?_
  refine tele_gval rfl ((!(q14 && q18))) (.pointer (some ⟨n, 1, none⟩)) (fun ρ w' hk => by obtain ⟨_, hg, -⟩ := hk; have eg : ρ 20 = .bool (q14 && q18) := hg; cases hq : ((q14 && q18)) <;> simp [wantedR, Region.wanted, asBoolR_bool, asBoolR_undef, eg, ifV, hq]) ?_ ?_
  · rintro ρ w' he ⟨h3, hgd, -⟩ hG
    have e3 : ρ 3 = .pointer (some ⟨n, 0, none⟩) := h3
    simp [execOp, evR, e3, go_sem]
  refine tele_gval rfl ((!(q14 && q18))) (.int .i64 seq) (fun ρ w' hk => by obtain ⟨_, hg, -⟩ := hk; have eg : ρ 20 = .bool (q14 && q18) := hg; cases hq : ((q14 && q18)) <;> simp [wantedR, Region.wanted, asBoolR_bool, asBoolR_undef, eg, ifV, hq]) ?_ ?_
  · rintro ρ w' he ⟨h21, hgd, -⟩ hG
    have e21 : ρ 21 = .pointer (some ⟨n, 1, none⟩) := (show ρ 21 = ifV ((!(q14 && q18))) (.pointer (some ⟨n, 1, none⟩)) from h21).trans (ifV_true (by first | exact hG | simp_all))
    have c0 := (ba.ext he).cell (i := 1) rfl
    simp [execOp, evR, e21, c0, go_sem]
  refine tele_gval rfl ((!(q14 && q18))) (.bool q23) (fun ρ w' hk => by obtain ⟨_, hg, -⟩ := hk; have eg : ρ 20 = .bool (q14 && q18) := hg; cases hq : ((q14 && q18)) <;> simp [wantedR, Region.wanted, asBoolR_bool, asBoolR_undef, eg, ifV, hq]) ?_ ?_
  · rintro ρ w' he ⟨h22, hgd, -⟩ hG
    have e22 : ρ 22 = .int .i64 seq := (show ρ 22 = ifV ((!(q14 && q18))) (.int .i64 seq) from h22).trans (ifV_true (by first | exact hG | simp_all))
    rw [Q23]
    simp [execOp, evR, e22, go_sem]
  refine tele_val rfl (.bool ((q14 && q18) || q23)) (fun _ _ _ => rfl) ?_ ?_
  · rintro ρ w' he ⟨h20, h23, -⟩
    have e20 : ρ 20 = .bool (q14 && q18) := h20
    have e23 : ρ 23 = ifV ((!(q14 && q18))) (.bool q23) := h23
    cases hc : ((q14 && q18)) <;> simp [execOp, evR, e20, e23, ifV, hc, go_sem]
  refine tele_move rfl (.inl rfl) rfl (isV (.bool ((q14 && q18) || q23))) (fun ρ w' h => h) ?_
  refine tele_gval rfl ((!((q14 && q18) || q23))) (.pointer (some ⟨n, 1, none⟩)) (fun ρ w' hk => by obtain ⟨_, hg, -⟩ := hk; have eg : ρ 25 = .bool ((q14 && q18) || q23) := hg; cases hq : (((q14 && q18) || q23)) <;> simp [wantedR, Region.wanted, asBoolR_bool, asBoolR_undef, eg, ifV, hq]) ?_ ?_
  · rintro ρ w' he ⟨h3, hgd, -⟩ hG
    have e3 : ρ 3 = .pointer (some ⟨n, 0, none⟩) := h3
    simp [execOp, evR, e3, go_sem]
  refine tele_gval rfl ((!((q14 && q18) || q23))) (.int .i64 seq) (fun ρ w' hk => by obtain ⟨_, hg, -⟩ := hk; have eg : ρ 25 = .bool ((q14 && q18) || q23) := hg; cases hq : (((q14 && q18) || q23)) <;> simp [wantedR, Region.wanted, asBoolR_bool, asBoolR_undef, eg, ifV, hq]) ?_ ?_
  · rintro ρ w' he ⟨h26, hgd, -⟩ hG
    have e26 : ρ 26 = .pointer (some ⟨n, 1, none⟩) := (show ρ 26 = ifV ((!((q14 && q18) || q23))) (.pointer (some ⟨n, 1, none⟩)) from h26).trans (ifV_true (by first | exact hG | simp_all))
    have c0 := (ba.ext he).cell (i := 1) rfl
    simp [execOp, evR, e26, c0, go_sem]
  refine tele_gval rfl ((!((q14 && q18) || q23))) (.bool q28) (fun ρ w' hk => by obtain ⟨_, hg, -⟩ := hk; have eg : ρ 25 = .bool ((q14 && q18) || q23) := hg; cases hq : (((q14 && q18) || q23)) <;> simp [wantedR, Region.wanted, asBoolR_bool, asBoolR_undef, eg, ifV, hq]) ?_ ?_
  · rintro ρ w' he ⟨h27, hgd, -⟩ hG
    have e27 : ρ 27 = .int .i64 seq := (show ρ 27 = ifV ((!((q14 && q18) || q23))) (.int .i64 seq) from h27).trans (ifV_true (by first | exact hG | simp_all))
    rw [Q28]
    simp [execOp, evR, e27, go_sem]
  refine tele_val rfl (.bool (((q14 && q18) || q23) || q28)) (fun _ _ _ => rfl) ?_ ?_
  · rintro ρ w' he ⟨h25, h28, -⟩
    have e25 : ρ 25 = .bool ((q14 && q18) || q23) := h25
    have e28 : ρ 28 = ifV ((!((q14 && q18) || q23))) (.bool q28) := h28
    cases hc : (((q14 && q18) || q23)) <;> simp [execOp, evR, e25, e28, ifV, hc, go_sem]
  refine tele_move rfl (.inl rfl) rfl (isV (.bool (((q14 && q18) || q23) || q28))) (fun ρ w' h => h) ?_
  refine tele_gval rfl ((!(((q14 && q18) || q23) || q28))) (.pointer (some ⟨n, 2, none⟩)) (fun ρ w' hk => by obtain ⟨_, hg, -⟩ := hk; have eg : ρ 30 = .bool (((q14 && q18) || q23) || q28) := hg; cases hq : ((((q14 && q18) || q23) || q28)) <;> simp [wantedR, Region.wanted, asBoolR_bool, asBoolR_undef, eg, ifV, hq]) ?_ ?_
  · rintro ρ w' he ⟨h3, hgd, -⟩ hG
    have e3 : ρ 3 = .pointer (some ⟨n, 0, none⟩) := h3
    simp [execOp, evR, e3, go_sem]
  refine tele_gval rfl ((!(((q14 && q18) || q23) || q28))) (.agg #[.int .i64 sn, .int .i64 ss]) (fun ρ w' hk => by obtain ⟨_, hg, -⟩ := hk; have eg : ρ 30 = .bool (((q14 && q18) || q23) || q28) := hg; cases hq : ((((q14 && q18) || q23) || q28)) <;> simp [wantedR, Region.wanted, asBoolR_bool, asBoolR_undef, eg, ifV, hq]) ?_ ?_
  · rintro ρ w' he ⟨h31, hgd, -⟩ hG
    have e31 : ρ 31 = .pointer (some ⟨n, 2, none⟩) := (show ρ 31 = ifV ((!(((q14 && q18) || q23) || q28))) (.pointer (some ⟨n, 2, none⟩)) from h31).trans (ifV_true (by first | exact hG | simp_all))
    have c0 := (ba.ext he).cell (i := 2) rfl
    have c1 := (ba.ext he).cell (i := 3) rfl
    simp [execOp, evR, e31, c0, c1, go_sem]
  refine tele_gcall rfl rfl Try.func39 (by kernel_rfl) ((!(((q14 && q18) || q23) || q28))) (.bool (sgood sn ss)) (fun ρ w' hk => by obtain ⟨_, hg, -⟩ := hk; have eg : ρ 30 = .bool (((q14 && q18) || q23) || q28) := hg; cases hq : ((((q14 && q18) || q23) || q28)) <;> simp [wantedR, Region.wanted, asBoolR_bool, asBoolR_undef, eg, ifV, hq]) ?_ ?_
  · rintro ρ w' he ⟨h32, hgd, -⟩ hG
    have e32 : ρ 32 = .agg #[.int .i64 sn, .int .i64 ss] := (show ρ 32 = ifV ((!(((q14 && q18) || q23) || q28))) (.agg #[.int .i64 sn, .int .i64 ss]) from h32).trans (ifV_true (by first | exact hG | simp_all))
    simp only [evR, List.map_toArray, List.map_cons, List.map_nil, e32]
    refine (refSGood_any sn ss _).mono ?_
    rintro e w'' ⟨rfl, hx⟩
    exact ⟨rfl, hx⟩
  refine tele_gval rfl ((!(((q14 && q18) || q23) || q28))) (.bool (!(sgood sn ss))) (fun ρ w' hk => by obtain ⟨_, hg, -⟩ := hk; have eg : ρ 30 = .bool (((q14 && q18) || q23) || q28) := hg; cases hq : ((((q14 && q18) || q23) || q28)) <;> simp [wantedR, Region.wanted, asBoolR_bool, asBoolR_undef, eg, ifV, hq]) ?_ ?_
  · rintro ρ w' he ⟨h33, hgd, -⟩ hG
    have e33 : ρ 33 = .bool (sgood sn ss) := (show ρ 33 = ifV ((!(((q14 && q18) || q23) || q28))) (.bool (sgood sn ss)) from h33).trans (ifV_true (by first | exact hG | simp_all))
    simp [execOp, evR, e33, go_sem]
  refine tele_val rfl (.bool ((((q14 && q18) || q23) || q28) || (!(sgood sn ss)))) (fun _ _ _ => rfl) ?_ ?_
  · rintro ρ w' he ⟨h30, h34, -⟩
    have e30 : ρ 30 = .bool (((q14 && q18) || q23) || q28) := h30
    have e34 : ρ 34 = ifV ((!(((q14 && q18) || q23) || q28))) (.bool (!(sgood sn ss))) := h34
    cases hc : ((((q14 && q18) || q23) || q28)) <;> simp [execOp, evR, e30, e34, ifV, hc, go_sem]
  refine tele_move rfl (.inl rfl) rfl (isV (.bool ((((q14 && q18) || q23) || q28) || (!(sgood sn ss))))) (fun ρ w' h => h) ?_
  refine tele_gval rfl ((!((((q14 && q18) || q23) || q28) || (!(sgood sn ss))))) (.pointer (some ⟨n, 2, none⟩)) (fun ρ w' hk => by obtain ⟨_, hg, -⟩ := hk; have eg : ρ 36 = .bool ((((q14 && q18) || q23) || q28) || (!(sgood sn ss))) := hg; cases hq : (((((q14 && q18) || q23) || q28) || (!(sgood sn ss)))) <;> simp [wantedR, Region.wanted, asBoolR_bool, asBoolR_undef, eg, ifV, hq]) ?_ ?_
  · rintro ρ w' he ⟨h3, hgd, -⟩ hG
    have e3 : ρ 3 = .pointer (some ⟨n, 0, none⟩) := h3
    simp [execOp, evR, e3, go_sem]
  refine tele_gval rfl ((!((((q14 && q18) || q23) || q28) || (!(sgood sn ss))))) (.pointer (some ⟨n, 3, none⟩)) (fun ρ w' hk => by obtain ⟨_, hg, -⟩ := hk; have eg : ρ 36 = .bool ((((q14 && q18) || q23) || q28) || (!(sgood sn ss))) := hg; cases hq : (((((q14 && q18) || q23) || q28) || (!(sgood sn ss)))) <;> simp [wantedR, Region.wanted, asBoolR_bool, asBoolR_undef, eg, ifV, hq]) ?_ ?_
  · rintro ρ w' he ⟨h37, hgd, -⟩ hG
    have e37 : ρ 37 = .pointer (some ⟨n, 2, none⟩) := (show ρ 37 = ifV ((!((((q14 && q18) || q23) || q28) || (!(sgood sn ss))))) (.pointer (some ⟨n, 2, none⟩)) from h37).trans (ifV_true (by first | exact hG | simp_all))
    simp [execOp, evR, e37, go_sem]
  refine tele_gval rfl ((!((((q14 && q18) || q23) || q28) || (!(sgood sn ss))))) (.int .i64 ss) (fun ρ w' hk => by obtain ⟨_, hg, -⟩ := hk; have eg : ρ 36 = .bool ((((q14 && q18) || q23) || q28) || (!(sgood sn ss))) := hg; cases hq : (((((q14 && q18) || q23) || q28) || (!(sgood sn ss)))) <;> simp [wantedR, Region.wanted, asBoolR_bool, asBoolR_undef, eg, ifV, hq]) ?_ ?_
  · rintro ρ w' he ⟨h38, hgd, -⟩ hG
    have e38 : ρ 38 = .pointer (some ⟨n, 3, none⟩) := (show ρ 38 = ifV ((!((((q14 && q18) || q23) || q28) || (!(sgood sn ss))))) (.pointer (some ⟨n, 3, none⟩)) from h38).trans (ifV_true (by first | exact hG | simp_all))
    have c0 := (ba.ext he).cell (i := 3) rfl
    simp [execOp, evR, e38, c0, go_sem]
  refine tele_gval rfl ((!((((q14 && q18) || q23) || q28) || (!(sgood sn ss))))) (.pointer (some ⟨n, 0, none⟩)) (fun ρ w' hk => by obtain ⟨_, hg, -⟩ := hk; have eg : ρ 36 = .bool ((((q14 && q18) || q23) || q28) || (!(sgood sn ss))) := hg; cases hq : (((((q14 && q18) || q23) || q28) || (!(sgood sn ss)))) <;> simp [wantedR, Region.wanted, asBoolR_bool, asBoolR_undef, eg, ifV, hq]) ?_ ?_
  · rintro ρ w' he ⟨h3, hgd, -⟩ hG
    have e3 : ρ 3 = .pointer (some ⟨n, 0, none⟩) := h3
    simp [execOp, evR, e3, go_sem]
  refine tele_gval rfl ((!((((q14 && q18) || q23) || q28) || (!(sgood sn ss))))) (.int .i64 site) (fun ρ w' hk => by obtain ⟨_, hg, -⟩ := hk; have eg : ρ 36 = .bool ((((q14 && q18) || q23) || q28) || (!(sgood sn ss))) := hg; cases hq : (((((q14 && q18) || q23) || q28) || (!(sgood sn ss)))) <;> simp [wantedR, Region.wanted, asBoolR_bool, asBoolR_undef, eg, ifV, hq]) ?_ ?_
  · rintro ρ w' he ⟨h40, hgd, -⟩ hG
    have e40 : ρ 40 = .pointer (some ⟨n, 0, none⟩) := (show ρ 40 = ifV ((!((((q14 && q18) || q23) || q28) || (!(sgood sn ss))))) (.pointer (some ⟨n, 0, none⟩)) from h40).trans (ifV_true (by first | exact hG | simp_all))
    have c0 := (ba.ext he).cell (i := 0) rfl
    simp [execOp, evR, e40, c0, go_sem]
  refine tele_gval rfl ((!((((q14 && q18) || q23) || q28) || (!(sgood sn ss))))) (.bool q42) (fun ρ w' hk => by obtain ⟨_, _, hg, -⟩ := hk; have eg : ρ 36 = .bool ((((q14 && q18) || q23) || q28) || (!(sgood sn ss))) := hg; cases hq : (((((q14 && q18) || q23) || q28) || (!(sgood sn ss)))) <;> simp [wantedR, Region.wanted, asBoolR_bool, asBoolR_undef, eg, ifV, hq]) ?_ ?_
  · rintro ρ w' he ⟨h39, h41, hgd, -⟩ hG
    have e39 : ρ 39 = .int .i64 ss := (show ρ 39 = ifV ((!((((q14 && q18) || q23) || q28) || (!(sgood sn ss))))) (.int .i64 ss) from h39).trans (ifV_true (by first | exact hG | simp_all))
    have e41 : ρ 41 = .int .i64 site := (show ρ 41 = ifV ((!((((q14 && q18) || q23) || q28) || (!(sgood sn ss))))) (.int .i64 site) from h41).trans (ifV_true (by first | exact hG | simp_all))
    rw [Q42]
    simp [execOp, evR, e39, e41, go_sem]
  refine tele_val rfl (.bool (((((q14 && q18) || q23) || q28) || (!(sgood sn ss))) || q42)) (fun _ _ _ => rfl) ?_ ?_
  · rintro ρ w' he ⟨h36, h42, -⟩
    have e36 : ρ 36 = .bool ((((q14 && q18) || q23) || q28) || (!(sgood sn ss))) := h36
    have e42 : ρ 42 = ifV ((!((((q14 && q18) || q23) || q28) || (!(sgood sn ss))))) (.bool q42) := h42
    cases hc : (((((q14 && q18) || q23) || q28) || (!(sgood sn ss)))) <;> simp [execOp, evR, e36, e42, ifV, hc, go_sem]
  refine tele_move rfl (.inl rfl) rfl (isV (.bool (((((q14 && q18) || q23) || q28) || (!(sgood sn ss))) || q42))) (fun ρ w' h => h) ?_
  refine tele_gval rfl ((!(((((q14 && q18) || q23) || q28) || (!(sgood sn ss))) || q42))) (.pointer (some ⟨n, 4, none⟩)) (fun ρ w' hk => by obtain ⟨_, hg, -⟩ := hk; have eg : ρ 44 = .bool (((((q14 && q18) || q23) || q28) || (!(sgood sn ss))) || q42) := hg; cases hq : ((((((q14 && q18) || q23) || q28) || (!(sgood sn ss))) || q42)) <;> simp [wantedR, Region.wanted, asBoolR_bool, asBoolR_undef, eg, ifV, hq]) ?_ ?_
  · rintro ρ w' he ⟨h3, hgd, -⟩ hG
    have e3 : ρ 3 = .pointer (some ⟨n, 0, none⟩) := h3
    simp [execOp, evR, e3, go_sem]
  refine tele_gval rfl ((!(((((q14 && q18) || q23) || q28) || (!(sgood sn ss))) || q42))) (.agg #[.int .i64 va, .int .i64 vb]) (fun ρ w' hk => by obtain ⟨_, hg, -⟩ := hk; have eg : ρ 44 = .bool (((((q14 && q18) || q23) || q28) || (!(sgood sn ss))) || q42) := hg; cases hq : ((((((q14 && q18) || q23) || q28) || (!(sgood sn ss))) || q42)) <;> simp [wantedR, Region.wanted, asBoolR_bool, asBoolR_undef, eg, ifV, hq]) ?_ ?_
  · rintro ρ w' he ⟨h45, hgd, -⟩ hG
    have e45 : ρ 45 = .pointer (some ⟨n, 4, none⟩) := (show ρ 45 = ifV ((!(((((q14 && q18) || q23) || q28) || (!(sgood sn ss))) || q42))) (.pointer (some ⟨n, 4, none⟩)) from h45).trans (ifV_true (by first | exact hG | simp_all))
    have c0 := (ba.ext he).cell (i := 4) rfl
    have c1 := (ba.ext he).cell (i := 5) rfl
    simp [execOp, evR, e45, c0, c1, go_sem]
  refine tele_gcall rfl rfl Try.func40 (by kernel_rfl) ((!(((((q14 && q18) || q23) || q28) || (!(sgood sn ss))) || q42))) (.bool (vgood va vb)) (fun ρ w' hk => by obtain ⟨_, hg, -⟩ := hk; have eg : ρ 44 = .bool (((((q14 && q18) || q23) || q28) || (!(sgood sn ss))) || q42) := hg; cases hq : ((((((q14 && q18) || q23) || q28) || (!(sgood sn ss))) || q42)) <;> simp [wantedR, Region.wanted, asBoolR_bool, asBoolR_undef, eg, ifV, hq]) ?_ ?_
  · rintro ρ w' he ⟨h46, hgd, -⟩ hG
    have e46 : ρ 46 = .agg #[.int .i64 va, .int .i64 vb] := (show ρ 46 = ifV ((!(((((q14 && q18) || q23) || q28) || (!(sgood sn ss))) || q42))) (.agg #[.int .i64 va, .int .i64 vb]) from h46).trans (ifV_true (by first | exact hG | simp_all))
    simp only [evR, List.map_toArray, List.map_cons, List.map_nil, e46]
    refine (refVGood_any va vb _).mono ?_
    rintro e w'' ⟨rfl, hx⟩
    exact ⟨rfl, hx⟩
  refine tele_gval rfl ((!(((((q14 && q18) || q23) || q28) || (!(sgood sn ss))) || q42))) (.bool (!(vgood va vb))) (fun ρ w' hk => by obtain ⟨_, hg, -⟩ := hk; have eg : ρ 44 = .bool (((((q14 && q18) || q23) || q28) || (!(sgood sn ss))) || q42) := hg; cases hq : ((((((q14 && q18) || q23) || q28) || (!(sgood sn ss))) || q42)) <;> simp [wantedR, Region.wanted, asBoolR_bool, asBoolR_undef, eg, ifV, hq]) ?_ ?_
  · rintro ρ w' he ⟨h47, hgd, -⟩ hG
    have e47 : ρ 47 = .bool (vgood va vb) := (show ρ 47 = ifV ((!(((((q14 && q18) || q23) || q28) || (!(sgood sn ss))) || q42))) (.bool (vgood va vb)) from h47).trans (ifV_true (by first | exact hG | simp_all))
    simp [execOp, evR, e47, go_sem]
  refine tele_val rfl (.bool ((((((q14 && q18) || q23) || q28) || (!(sgood sn ss))) || q42) || (!(vgood va vb)))) (fun _ _ _ => rfl) ?_ ?_
  · rintro ρ w' he ⟨h44, h48, -⟩
    have e44 : ρ 44 = .bool (((((q14 && q18) || q23) || q28) || (!(sgood sn ss))) || q42) := h44
    have e48 : ρ 48 = ifV ((!(((((q14 && q18) || q23) || q28) || (!(sgood sn ss))) || q42))) (.bool (!(vgood va vb))) := h48
    cases hc : ((((((q14 && q18) || q23) || q28) || (!(sgood sn ss))) || q42)) <;> simp [execOp, evR, e44, e48, ifV, hc, go_sem]
  refine tele_move rfl (.inl rfl) rfl (isV (.bool ((((((q14 && q18) || q23) || q28) || (!(sgood sn ss))) || q42) || (!(vgood va vb))))) (fun ρ w' h => h) ?_
  refine tele_gval rfl ((!((((((q14 && q18) || q23) || q28) || (!(sgood sn ss))) || q42) || (!(vgood va vb))))) (.pointer (some ⟨n, 0, none⟩)) (fun ρ w' hk => by obtain ⟨_, hg, -⟩ := hk; have eg : ρ 50 = .bool ((((((q14 && q18) || q23) || q28) || (!(sgood sn ss))) || q42) || (!(vgood va vb))) := hg; cases hq : (((((((q14 && q18) || q23) || q28) || (!(sgood sn ss))) || q42) || (!(vgood va vb)))) <;> simp [wantedR, Region.wanted, asBoolR_bool, asBoolR_undef, eg, ifV, hq]) ?_ ?_
  · rintro ρ w' he ⟨h3, hgd, -⟩ hG
    have e3 : ρ 3 = .pointer (some ⟨n, 0, none⟩) := h3
    simp [execOp, evR, e3, go_sem]
  refine tele_gval rfl ((!((((((q14 && q18) || q23) || q28) || (!(sgood sn ss))) || q42) || (!(vgood va vb))))) (.int .i64 site) (fun ρ w' hk => by obtain ⟨_, hg, -⟩ := hk; have eg : ρ 50 = .bool ((((((q14 && q18) || q23) || q28) || (!(sgood sn ss))) || q42) || (!(vgood va vb))) := hg; cases hq : (((((((q14 && q18) || q23) || q28) || (!(sgood sn ss))) || q42) || (!(vgood va vb)))) <;> simp [wantedR, Region.wanted, asBoolR_bool, asBoolR_undef, eg, ifV, hq]) ?_ ?_
  · rintro ρ w' he ⟨h51, hgd, -⟩ hG
    have e51 : ρ 51 = .pointer (some ⟨n, 0, none⟩) := (show ρ 51 = ifV ((!((((((q14 && q18) || q23) || q28) || (!(sgood sn ss))) || q42) || (!(vgood va vb))))) (.pointer (some ⟨n, 0, none⟩)) from h51).trans (ifV_true (by first | exact hG | simp_all))
    have c0 := (ba.ext he).cell (i := 0) rfl
    simp [execOp, evR, e51, c0, go_sem]
  refine tele_gval rfl ((!((((((q14 && q18) || q23) || q28) || (!(sgood sn ss))) || q42) || (!(vgood va vb))))) (.int .i64 (site - 1)) (fun ρ w' hk => by obtain ⟨_, hg, -⟩ := hk; have eg : ρ 50 = .bool ((((((q14 && q18) || q23) || q28) || (!(sgood sn ss))) || q42) || (!(vgood va vb))) := hg; cases hq : (((((((q14 && q18) || q23) || q28) || (!(sgood sn ss))) || q42) || (!(vgood va vb)))) <;> simp [wantedR, Region.wanted, asBoolR_bool, asBoolR_undef, eg, ifV, hq]) ?_ ?_
  · rintro ρ w' he ⟨h52, hgd, -⟩ hG
    have e52 : ρ 52 = .int .i64 site := (show ρ 52 = ifV ((!((((((q14 && q18) || q23) || q28) || (!(sgood sn ss))) || q42) || (!(vgood va vb))))) (.int .i64 site) from h52).trans (ifV_true (by first | exact hG | simp_all))
    have hs : site = 1 ∨ site = 2 := by
      rw [Q14, Q18] at hG
      simp at hG
      omega
    rcases hs with rfl | rfl <;> simp [execOp, evR, e52, go_sem] <;> rfl
  refine tele_gval rfl ((!((((((q14 && q18) || q23) || q28) || (!(sgood sn ss))) || q42) || (!(vgood va vb))))) (.pointer (some ⟨n, 4, none⟩)) (fun ρ w' hk => by obtain ⟨_, hg, -⟩ := hk; have eg : ρ 50 = .bool ((((((q14 && q18) || q23) || q28) || (!(sgood sn ss))) || q42) || (!(vgood va vb))) := hg; cases hq : (((((((q14 && q18) || q23) || q28) || (!(sgood sn ss))) || q42) || (!(vgood va vb)))) <;> simp [wantedR, Region.wanted, asBoolR_bool, asBoolR_undef, eg, ifV, hq]) ?_ ?_
  · rintro ρ w' he ⟨h3, hgd, -⟩ hG
    have e3 : ρ 3 = .pointer (some ⟨n, 0, none⟩) := h3
    simp [execOp, evR, e3, go_sem]
  refine tele_gval rfl ((!((((((q14 && q18) || q23) || q28) || (!(sgood sn ss))) || q42) || (!(vgood va vb))))) (.pointer (some ⟨n, (if site = 1 then 4 else 5), none⟩)) (fun ρ w' hk => by obtain ⟨_, _, hg, -⟩ := hk; have eg : ρ 50 = .bool ((((((q14 && q18) || q23) || q28) || (!(sgood sn ss))) || q42) || (!(vgood va vb))) := hg; cases hq : (((((((q14 && q18) || q23) || q28) || (!(sgood sn ss))) || q42) || (!(vgood va vb)))) <;> simp [wantedR, Region.wanted, asBoolR_bool, asBoolR_undef, eg, ifV, hq]) ?_ ?_
  · rintro ρ w' he ⟨h54, h53, hgd, -⟩ hG
    have e54 : ρ 54 = .pointer (some ⟨n, 4, none⟩) := (show ρ 54 = ifV ((!((((((q14 && q18) || q23) || q28) || (!(sgood sn ss))) || q42) || (!(vgood va vb))))) (.pointer (some ⟨n, 4, none⟩)) from h54).trans (ifV_true (by first | exact hG | simp_all))
    have e53 : ρ 53 = .int .i64 (site - 1) := (show ρ 53 = ifV ((!((((((q14 && q18) || q23) || q28) || (!(sgood sn ss))) || q42) || (!(vgood va vb))))) (.int .i64 (site - 1)) from h53).trans (ifV_true (by first | exact hG | simp_all))
    have hs : site = 1 ∨ site = 2 := by
      rw [Q14, Q18] at hG
      simp at hG
      omega
    have ha := Try.underlying26
    rcases hs with rfl | rfl <;> simp [execOp, evR, e54, e53, ha, go_sem]
  refine tele_gval rfl ((!((((((q14 && q18) || q23) || q28) || (!(sgood sn ss))) || q42) || (!(vgood va vb))))) (.int .i64 (if site = 1 then va else vb)) (fun ρ w' hk => by obtain ⟨_, hg, -⟩ := hk; have eg : ρ 50 = .bool ((((((q14 && q18) || q23) || q28) || (!(sgood sn ss))) || q42) || (!(vgood va vb))) := hg; cases hq : (((((((q14 && q18) || q23) || q28) || (!(sgood sn ss))) || q42) || (!(vgood va vb)))) <;> simp [wantedR, Region.wanted, asBoolR_bool, asBoolR_undef, eg, ifV, hq]) ?_ ?_
  · rintro ρ w' he ⟨h55, hgd, -⟩ hG
    have e55 : ρ 55 = .pointer (some ⟨n, (if site = 1 then 4 else 5), none⟩) := (show ρ 55 = ifV ((!((((((q14 && q18) || q23) || q28) || (!(sgood sn ss))) || q42) || (!(vgood va vb))))) (.pointer (some ⟨n, (if site = 1 then 4 else 5), none⟩)) from h55).trans (ifV_true (by first | exact hG | simp_all))
    have hs : site = 1 ∨ site = 2 := by
      rw [Q14, Q18] at hG
      simp at hG
      omega
    have c4 := (ba.ext he).cell (i := 4) rfl
    have c5 := (ba.ext he).cell (i := 5) rfl
    rcases hs with rfl | rfl <;> simp [execOp, evR, e55, c4, c5, go_sem]
  refine tele_gval rfl ((!((((((q14 && q18) || q23) || q28) || (!(sgood sn ss))) || q42) || (!(vgood va vb))))) (.pointer (some ⟨n, 1, none⟩)) (fun ρ w' hk => by obtain ⟨_, hg, -⟩ := hk; have eg : ρ 50 = .bool ((((((q14 && q18) || q23) || q28) || (!(sgood sn ss))) || q42) || (!(vgood va vb))) := hg; cases hq : (((((((q14 && q18) || q23) || q28) || (!(sgood sn ss))) || q42) || (!(vgood va vb)))) <;> simp [wantedR, Region.wanted, asBoolR_bool, asBoolR_undef, eg, ifV, hq]) ?_ ?_
  · rintro ρ w' he ⟨h3, hgd, -⟩ hG
    have e3 : ρ 3 = .pointer (some ⟨n, 0, none⟩) := h3
    simp [execOp, evR, e3, go_sem]
  refine tele_gval rfl ((!((((((q14 && q18) || q23) || q28) || (!(sgood sn ss))) || q42) || (!(vgood va vb))))) (.int .i64 seq) (fun ρ w' hk => by obtain ⟨_, hg, -⟩ := hk; have eg : ρ 50 = .bool ((((((q14 && q18) || q23) || q28) || (!(sgood sn ss))) || q42) || (!(vgood va vb))) := hg; cases hq : (((((((q14 && q18) || q23) || q28) || (!(sgood sn ss))) || q42) || (!(vgood va vb)))) <;> simp [wantedR, Region.wanted, asBoolR_bool, asBoolR_undef, eg, ifV, hq]) ?_ ?_
  · rintro ρ w' he ⟨h57, hgd, -⟩ hG
    have e57 : ρ 57 = .pointer (some ⟨n, 1, none⟩) := (show ρ 57 = ifV ((!((((((q14 && q18) || q23) || q28) || (!(sgood sn ss))) || q42) || (!(vgood va vb))))) (.pointer (some ⟨n, 1, none⟩)) from h57).trans (ifV_true (by first | exact hG | simp_all))
    have c0 := (ba.ext he).cell (i := 1) rfl
    simp [execOp, evR, e57, c0, go_sem]
  refine tele_gval rfl ((!((((((q14 && q18) || q23) || q28) || (!(sgood sn ss))) || q42) || (!(vgood va vb))))) (.bool q59) (fun ρ w' hk => by obtain ⟨_, _, hg, -⟩ := hk; have eg : ρ 50 = .bool ((((((q14 && q18) || q23) || q28) || (!(sgood sn ss))) || q42) || (!(vgood va vb))) := hg; cases hq : (((((((q14 && q18) || q23) || q28) || (!(sgood sn ss))) || q42) || (!(vgood va vb)))) <;> simp [wantedR, Region.wanted, asBoolR_bool, asBoolR_undef, eg, ifV, hq]) ?_ ?_
  · rintro ρ w' he ⟨h56, h58, hgd, -⟩ hG
    have e56 : ρ 56 = .int .i64 (if site = 1 then va else vb) := (show ρ 56 = ifV ((!((((((q14 && q18) || q23) || q28) || (!(sgood sn ss))) || q42) || (!(vgood va vb))))) (.int .i64 (if site = 1 then va else vb)) from h56).trans (ifV_true (by first | exact hG | simp_all))
    have e58 : ρ 58 = .int .i64 seq := (show ρ 58 = ifV ((!((((((q14 && q18) || q23) || q28) || (!(sgood sn ss))) || q42) || (!(vgood va vb))))) (.int .i64 seq) from h58).trans (ifV_true (by first | exact hG | simp_all))
    rw [Q59]
    simp [execOp, evR, e56, e58, go_sem]
  refine tele_val rfl (.bool (((((((q14 && q18) || q23) || q28) || (!(sgood sn ss))) || q42) || (!(vgood va vb))) || q59)) (fun _ _ _ => rfl) ?_ ?_
  · rintro ρ w' he ⟨h50, h59, -⟩
    have e50 : ρ 50 = .bool ((((((q14 && q18) || q23) || q28) || (!(sgood sn ss))) || q42) || (!(vgood va vb))) := h50
    have e59 : ρ 59 = ifV ((!((((((q14 && q18) || q23) || q28) || (!(sgood sn ss))) || q42) || (!(vgood va vb))))) (.bool q59) := h59
    cases hc : (((((((q14 && q18) || q23) || q28) || (!(sgood sn ss))) || q42) || (!(vgood va vb)))) <;> simp [execOp, evR, e50, e59, ifV, hc, go_sem]
  refine tele_move rfl (.inl rfl) rfl (isV (.bool (((((((q14 && q18) || q23) || q28) || (!(sgood sn ss))) || q42) || (!(vgood va vb))) || q59))) (fun ρ w' h => h) ?_
  refine tele_gval rfl ((!(((((((q14 && q18) || q23) || q28) || (!(sgood sn ss))) || q42) || (!(vgood va vb))) || q59))) (.pointer (some ⟨n, 6, none⟩)) (fun ρ w' hk => by obtain ⟨_, hg, -⟩ := hk; have eg : ρ 61 = .bool (((((((q14 && q18) || q23) || q28) || (!(sgood sn ss))) || q42) || (!(vgood va vb))) || q59) := hg; cases hq : ((((((((q14 && q18) || q23) || q28) || (!(sgood sn ss))) || q42) || (!(vgood va vb))) || q59)) <;> simp [wantedR, Region.wanted, asBoolR_bool, asBoolR_undef, eg, ifV, hq]) ?_ ?_
  · rintro ρ w' he ⟨h3, hgd, -⟩ hG
    have e3 : ρ 3 = .pointer (some ⟨n, 0, none⟩) := h3
    simp [execOp, evR, e3, go_sem]
  refine tele_gval rfl ((!(((((((q14 && q18) || q23) || q28) || (!(sgood sn ss))) || q42) || (!(vgood va vb))) || q59))) (.slice A ws.length c) (fun ρ w' hk => by obtain ⟨_, hg, -⟩ := hk; have eg : ρ 61 = .bool (((((((q14 && q18) || q23) || q28) || (!(sgood sn ss))) || q42) || (!(vgood va vb))) || q59) := hg; cases hq : ((((((((q14 && q18) || q23) || q28) || (!(sgood sn ss))) || q42) || (!(vgood va vb))) || q59)) <;> simp [wantedR, Region.wanted, asBoolR_bool, asBoolR_undef, eg, ifV, hq]) ?_ ?_
  · rintro ρ w' he ⟨h62, hgd, -⟩ hG
    have e62 : ρ 62 = .pointer (some ⟨n, 6, none⟩) := (show ρ 62 = ifV ((!(((((((q14 && q18) || q23) || q28) || (!(sgood sn ss))) || q42) || (!(vgood va vb))) || q59))) (.pointer (some ⟨n, 6, none⟩)) from h62).trans (ifV_true (by first | exact hG | simp_all))
    have c0 := (ba.ext he).cell (i := 6) rfl
    simp [execOp, evR, e62, c0, go_sem]
  refine tele_gval rfl ((!(((((((q14 && q18) || q23) || q28) || (!(sgood sn ss))) || q42) || (!(vgood va vb))) || q59))) (.int .i64 ((ws.length : Nat) : Int)) (fun ρ w' hk => by obtain ⟨_, hg, -⟩ := hk; have eg : ρ 61 = .bool (((((((q14 && q18) || q23) || q28) || (!(sgood sn ss))) || q42) || (!(vgood va vb))) || q59) := hg; cases hq : ((((((((q14 && q18) || q23) || q28) || (!(sgood sn ss))) || q42) || (!(vgood va vb))) || q59)) <;> simp [wantedR, Region.wanted, asBoolR_bool, asBoolR_undef, eg, ifV, hq]) ?_ ?_
  · rintro ρ w' he ⟨h63, hgd, -⟩ hG
    have e63 : ρ 63 = .slice A ws.length c := (show ρ 63 = ifV ((!(((((((q14 && q18) || q23) || q28) || (!(sgood sn ss))) || q42) || (!(vgood va vb))) || q59))) (.slice A ws.length c) from h63).trans (ifV_true (by first | exact hG | simp_all))
    simp [execOp, evR, e63, go_sem]
  refine tele_gval rfl ((!(((((((q14 && q18) || q23) || q28) || (!(sgood sn ss))) || q42) || (!(vgood va vb))) || q59))) (.bool q65) (fun ρ w' hk => by obtain ⟨_, hg, -⟩ := hk; have eg : ρ 61 = .bool (((((((q14 && q18) || q23) || q28) || (!(sgood sn ss))) || q42) || (!(vgood va vb))) || q59) := hg; cases hq : ((((((((q14 && q18) || q23) || q28) || (!(sgood sn ss))) || q42) || (!(vgood va vb))) || q59)) <;> simp [wantedR, Region.wanted, asBoolR_bool, asBoolR_undef, eg, ifV, hq]) ?_ ?_
  · rintro ρ w' he ⟨h64, hgd, -⟩ hG
    have e64 : ρ 64 = .int .i64 ((ws.length : Nat) : Int) := (show ρ 64 = ifV ((!(((((((q14 && q18) || q23) || q28) || (!(sgood sn ss))) || q42) || (!(vgood va vb))) || q59))) (.int .i64 ((ws.length : Nat) : Int)) from h64).trans (ifV_true (by first | exact hG | simp_all))
    rw [Q65]
    simp [execOp, evR, e64, go_sem]
  refine tele_val rfl (.bool ((((((((q14 && q18) || q23) || q28) || (!(sgood sn ss))) || q42) || (!(vgood va vb))) || q59) || q65)) (fun _ _ _ => rfl) ?_ ?_
  · rintro ρ w' he ⟨h61, h65, -⟩
    have e61 : ρ 61 = .bool (((((((q14 && q18) || q23) || q28) || (!(sgood sn ss))) || q42) || (!(vgood va vb))) || q59) := h61
    have e65 : ρ 65 = ifV ((!(((((((q14 && q18) || q23) || q28) || (!(sgood sn ss))) || q42) || (!(vgood va vb))) || q59))) (.bool q65) := h65
    cases hc : ((((((((q14 && q18) || q23) || q28) || (!(sgood sn ss))) || q42) || (!(vgood va vb))) || q59)) <;> simp [execOp, evR, e61, e65, ifV, hc, go_sem]
  refine tele_move rfl (.inl rfl) rfl (isV (.bool ((((((((q14 && q18) || q23) || q28) || (!(sgood sn ss))) || q42) || (!(vgood va vb))) || q59) || q65))) (fun ρ w' h => h) ?_
  refine tele_gval rfl ((!((((((((q14 && q18) || q23) || q28) || (!(sgood sn ss))) || q42) || (!(vgood va vb))) || q59) || q65))) (.pointer (some ⟨n, 6, none⟩)) (fun ρ w' hk => by obtain ⟨_, hg, -⟩ := hk; have eg : ρ 67 = .bool ((((((((q14 && q18) || q23) || q28) || (!(sgood sn ss))) || q42) || (!(vgood va vb))) || q59) || q65) := hg; cases hq : (((((((((q14 && q18) || q23) || q28) || (!(sgood sn ss))) || q42) || (!(vgood va vb))) || q59) || q65)) <;> simp [wantedR, Region.wanted, asBoolR_bool, asBoolR_undef, eg, ifV, hq]) ?_ ?_
  · rintro ρ w' he ⟨h3, hgd, -⟩ hG
    have e3 : ρ 3 = .pointer (some ⟨n, 0, none⟩) := h3
    simp [execOp, evR, e3, go_sem]
  refine tele_gval rfl ((!((((((((q14 && q18) || q23) || q28) || (!(sgood sn ss))) || q42) || (!(vgood va vb))) || q59) || q65))) (.slice A ws.length c) (fun ρ w' hk => by obtain ⟨_, hg, -⟩ := hk; have eg : ρ 67 = .bool ((((((((q14 && q18) || q23) || q28) || (!(sgood sn ss))) || q42) || (!(vgood va vb))) || q59) || q65) := hg; cases hq : (((((((((q14 && q18) || q23) || q28) || (!(sgood sn ss))) || q42) || (!(vgood va vb))) || q59) || q65)) <;> simp [wantedR, Region.wanted, asBoolR_bool, asBoolR_undef, eg, ifV, hq]) ?_ ?_
  · rintro ρ w' he ⟨h68, hgd, -⟩ hG
    have e68 : ρ 68 = .pointer (some ⟨n, 6, none⟩) := (show ρ 68 = ifV ((!((((((((q14 && q18) || q23) || q28) || (!(sgood sn ss))) || q42) || (!(vgood va vb))) || q59) || q65))) (.pointer (some ⟨n, 6, none⟩)) from h68).trans (ifV_true (by first | exact hG | simp_all))
    have c0 := (ba.ext he).cell (i := 6) rfl
    simp [execOp, evR, e68, c0, go_sem]
  refine tele_gval rfl ((!((((((((q14 && q18) || q23) || q28) || (!(sgood sn ss))) || q42) || (!(vgood va vb))) || q59) || q65))) (.int .i64 ((ws.length : Nat) : Int)) (fun ρ w' hk => by obtain ⟨_, hg, -⟩ := hk; have eg : ρ 67 = .bool ((((((((q14 && q18) || q23) || q28) || (!(sgood sn ss))) || q42) || (!(vgood va vb))) || q59) || q65) := hg; cases hq : (((((((((q14 && q18) || q23) || q28) || (!(sgood sn ss))) || q42) || (!(vgood va vb))) || q59) || q65)) <;> simp [wantedR, Region.wanted, asBoolR_bool, asBoolR_undef, eg, ifV, hq]) ?_ ?_
  · rintro ρ w' he ⟨h69, hgd, -⟩ hG
    have e69 : ρ 69 = .slice A ws.length c := (show ρ 69 = ifV ((!((((((((q14 && q18) || q23) || q28) || (!(sgood sn ss))) || q42) || (!(vgood va vb))) || q59) || q65))) (.slice A ws.length c) from h69).trans (ifV_true (by first | exact hG | simp_all))
    simp [execOp, evR, e69, go_sem]
  refine tele_gval rfl ((!((((((((q14 && q18) || q23) || q28) || (!(sgood sn ss))) || q42) || (!(vgood va vb))) || q59) || q65))) (.bool q71) (fun ρ w' hk => by obtain ⟨_, hg, -⟩ := hk; have eg : ρ 67 = .bool ((((((((q14 && q18) || q23) || q28) || (!(sgood sn ss))) || q42) || (!(vgood va vb))) || q59) || q65) := hg; cases hq : (((((((((q14 && q18) || q23) || q28) || (!(sgood sn ss))) || q42) || (!(vgood va vb))) || q59) || q65)) <;> simp [wantedR, Region.wanted, asBoolR_bool, asBoolR_undef, eg, ifV, hq]) ?_ ?_
  · rintro ρ w' he ⟨h70, hgd, -⟩ hG
    have e70 : ρ 70 = .int .i64 ((ws.length : Nat) : Int) := (show ρ 70 = ifV ((!((((((((q14 && q18) || q23) || q28) || (!(sgood sn ss))) || q42) || (!(vgood va vb))) || q59) || q65))) (.int .i64 ((ws.length : Nat) : Int)) from h70).trans (ifV_true (by first | exact hG | simp_all))
    rw [Q71]
    simp [execOp, evR, e70, go_sem]
  refine tele_val rfl (.bool (((((((((q14 && q18) || q23) || q28) || (!(sgood sn ss))) || q42) || (!(vgood va vb))) || q59) || q65) || q71)) (fun _ _ _ => rfl) ?_ ?_
  · rintro ρ w' he ⟨h67, h71, -⟩
    have e67 : ρ 67 = .bool ((((((((q14 && q18) || q23) || q28) || (!(sgood sn ss))) || q42) || (!(vgood va vb))) || q59) || q65) := h67
    have e71 : ρ 71 = ifV ((!((((((((q14 && q18) || q23) || q28) || (!(sgood sn ss))) || q42) || (!(vgood va vb))) || q59) || q65))) (.bool q71) := h71
    cases hc : (((((((((q14 && q18) || q23) || q28) || (!(sgood sn ss))) || q42) || (!(vgood va vb))) || q59) || q65)) <;> simp [execOp, evR, e67, e71, ifV, hc, go_sem]
  refine tele_nil ?_
  rintro ρ w' hext ⟨f72, f71, f70, f69, f68, f67, f66, f65, f64, f63, f62, f61, f60, f59, f58, f57, f56, f55, f54, f53, f52, f51, f50, f49, f48, f47, f46, f45, f44, f43, f42, f41, f40, f39, f38, f37, f36, f35, f34, f33, f32, f31, f30, f29, f28, f27, f26, f25, f24, f23, f22, f21, f20, f19, f18, f17, f16, f15, f14, f13, f12, -⟩
  clear f12
  clear f13
  clear f14
  clear f15
  clear f16
  clear f17
  clear f18
  clear f19
  clear f20
  clear f21
  clear f22
  clear f23
  clear f24
  clear f25
  clear f26
  clear f27
  clear f28
  clear f29
  clear f30
  clear f31
  clear f32
  clear f33
  clear f34
  clear f35
  clear f36
  clear f37
  clear f38
  clear f39
  clear f40
  clear f41
  clear f42
  clear f43
  clear f44
  clear f45
  clear f46
  clear f47
  clear f48
  clear f49
  clear f50
  clear f51
  clear f52
  clear f53
  clear f54
  clear f55
  clear f56
  clear f57
  clear f58
  clear f59
  clear f60
  clear f61
  clear f62
  clear f63
  clear f64
  clear f65
  clear f66
  clear f67
  clear f68
  clear f69
  clear f70
  clear f71
  replace f72 : ρ 72 = .bool (((((((((q14 && q18) || q23) || q28) || (!(sgood sn ss))) || q42) || (!(vgood va vb))) || q59) || q65) || q71) := f72
  simp only [puts, Act.put, List.setIfInBounds_toArray, List.set_cons_zero, List.set_cons_succ]
  have hch : (((((((((q14 && q18) || q23) || q28) || (!(sgood sn ss))) || q42) || (!(vgood va vb))) || q59) || q65) || q71) = !(chead ⟨site, seq, sn, ss, va, vb, ws⟩ && decide (1 ≤ ws.length) && decide (ws.length ≤ 8)) := by
    rw [Q14, Q18, Q23, Q28, Q42, Q59, Q65, Q71, Bool.eq_iff_iff]
    unfold chead
    dsimp only
    generalize (if site = 1 then va else vb) = zz
    generalize ws.length = nn
    cases sgood sn ss <;> cases vgood va vb <;> simp <;> omega
  rw [hch] at f72
  clear Q14 Q18 Q23 Q28 Q42 Q59 Q65 Q71 hch
  clear q14 q18 q23 q28 q42 q59 q65 q71
  replace hx := Ext.trans hx hext
  replace ba := ba.ext hext
  clear hext
  cases hh : (chead ⟨site, seq, sn, ss, va, vb, ws⟩ && decide (1 ≤ ws.length) && decide (ws.length ≤ 8))
  · have HR := Lib.hid (show cgood l ⟨site, seq, sn, ss, va, vb, ws⟩ = 120 by
      unfold cgood
      rw [if_neg (by rw [HP.out]; simp)]
      cases hc : chead ⟨site, seq, sn, ss, va, vb, ws⟩
      · rw [if_pos rfl]
      · rw [hc] at hh
        simp at hh
        rw [if_neg (by simp), if_pos (by dsimp only; omega)])
    rw [hh] at f72
    replace f72 : ρ 72 = .bool true := f72
    clear hh
    rw [f72]
    go_wp2_with fail
    go_ret
    exact ⟨by rw [HR.out]; rfl, hx⟩
  rw [hh] at f72
  replace f72 : ρ 72 = .bool false := f72
  simp only [Bool.and_eq_true, decide_eq_true_eq] at hh
  obtain ⟨⟨hh0, hn1⟩, hn8⟩ := hh
  have HR := Lib.hid (show cgood l ⟨site, seq, sn, ss, va, vb, ws⟩ = if cgoodF l.length none ws = true then 0 else 120 by unfold cgood; rw [if_neg (by rw [HP.out]; simp), if_neg (by rw [hh0]; simp), if_neg (by dsimp only; omega)])
  clear hh0
  rw [f72]
  clear f72
  obtain ⟨b, off, rfl, hb, hcell⟩ := h4 (by omega)
  clear h4
  have HC := Lib.hid hcell
  clear hcell
  obtain ⟨A0, c0, rfl, _, hc0, _⟩ := hl.at_
  go_wp2_with fail
  go_loopw [6] (fun j wr => ∃ i : Nat, i ≤ ws.length ∧ j = .int .i64 i ∧ cgood l ⟨site, seq, sn, ss, va, vb, ws⟩ = (if cgoodF l.length (prevOf ws i) (ws.drop i) = true then 0 else 120) ∧ Blk wr n [.int .i64 site, .int .i64 seq, .int .i64 sn, .int .i64 ss, .int .i64 va, .int .i64 vb, .slice (some ⟨b, off, none⟩) ws.length c] ∧ Ext w wr) (fun j _ => ws.length - (intOf j).toNat)
  case atStart => exact ⟨0, Nat.zero_le _, rfl, HR.out, ba, hx⟩
  case round =>
    obtain ⟨i, hi, rfl, hpg, ba, hx⟩ := hrel
    have bac := ba.cell (i := 6) rfl
    by_cases hlt : i < ws.length
    · obtain ⟨k, g, d, z, hget, hc0, hc1, hc2, hc3, hk, hg, hz⟩ := HC.out i hlt
      have HS := Lib.hid (cgoodF_step l.length ws i _ hget)
      have HPG := Lib.hid hpg
      have HC1 := Lib.hid (And.intro hc0 (And.intro hc1 (And.intro hc2 hc3)))
      have hwr := fun w h => rwrite_any (.slice A0 l.length c0) l ⟨k, g, d, z⟩ w h
      obtain ⟨okk, hokk⟩ : ∃ o : Bool, o = wok l.length ⟨k, g, d, z⟩ := ⟨_, rfl⟩
      rw [← hokk] at hwr
      dsimp only at hwr
      have HWR := Lib.hid hwr
      have HOK := Lib.hid hokk
      clear hget hpg hc0 hc1 hc2 hc3 hwr hokk
      rcases Nat.eq_zero_or_pos i with hi0 | hi0
      · go_upto_region 9 with (fail)
        clear bac
        refine wp_region_mono (by kernel_rfl) (by kernel_rfl) ?_
        refine tele_move rfl (.inl rfl) rfl (isV (.slice A0 l.length c0)) (fun ρ w' h => h) ?_
        refine tele_val rfl (.pointer (some ⟨n, 6, none⟩)) (fun _ _ _ => rfl) ?_ ?_
        · rintro ρ w' he ⟨h3, -⟩
          have e3 : ρ 3 = .pointer (some ⟨n, 0, none⟩) := h3
          simp [execOp, evR, e3, go_sem]
        refine tele_val rfl (.slice (some ⟨b, off, none⟩) ws.length c) (fun _ _ _ => rfl) ?_ ?_
        · rintro ρ w' he ⟨h81, -⟩
          have e81 : ρ 81 = .pointer (some ⟨n, 6, none⟩) := h81
          have c0 := (ba.ext he).cell (i := 6) rfl
          simp [execOp, evR, e81, c0, go_sem]
        refine tele_move rfl (.inl rfl) rfl (isV (.int .i64 (i : Int))) (fun ρ w' h => h) ?_
        refine tele_val rfl (.pointer (some ⟨b, off + i * 4, none⟩)) (fun _ _ _ => rfl) ?_ ?_
        · rintro ρ w' he ⟨h82, h83, -⟩
          have e82 : ρ 82 = .slice (some ⟨b, off, none⟩) ws.length c := h82
          have e83 : ρ 83 = .int .i64 (i : Int) := h83
          exact index_at 4 rfl Try.underlying27 e82 e83 (by omega) (by kernel_rfl)
        refine tele_val rfl (.agg #[strV k, .int .i64 g, .bool d, strV z]) (fun _ _ _ => rfl) ?_ ?_
        · rintro ρ w' he ⟨h84, -⟩
          have e84 : ρ 84 = .pointer (some ⟨b, off + i * 4, none⟩) := h84
          have c0 := ((hx.trans he).cell (p := ⟨b, off + i * 4, none⟩) hb).trans HC1.out.1
          have c1 := ((hx.trans he).cell (p := ⟨b, off + i * 4 + 1, none⟩) hb).trans HC1.out.2.1
          have c2 := ((hx.trans he).cell (p := ⟨b, off + i * 4 + 2, none⟩) hb).trans HC1.out.2.2.1
          have c3 := ((hx.trans he).cell (p := ⟨b, off + i * 4 + 3, none⟩) hb).trans HC1.out.2.2.2
          simp [execOp, evR, e84, c0, c1, c2, c3, go_sem]
        refine tele_call rfl rfl Try.func41 (by kernel_rfl) (isV (.bool okk)) (fun _ _ _ => rfl) ?_ ?_
        · rintro ρ w' he ⟨h80, h85, -⟩
          have e80 : ρ 80 = .slice A0 l.length c0 := h80
          have e85 : ρ 85 = .agg #[strV k, .int .i64 g, .bool d, strV z] := h85
          simp only [evR, List.map_toArray, List.map_cons, List.map_nil, e80, e85]
          refine (HWR.out _ (hl.ext (hx.trans he))).mono ?_
          rintro e w'' ⟨rfl, hx⟩
          exact ⟨_, rfl, hx, rfl⟩
        refine tele_val rfl (.bool (!okk)) (fun _ _ _ => rfl) ?_ ?_
        · rintro ρ w' he ⟨h86, -⟩
          have e86 : ρ 86 = .bool okk := h86
          simp [execOp, evR, e86, go_sem]
        refine tele_move rfl (.inl rfl) rfl (isV (.bool (!okk))) (fun ρ w' h => h) ?_
        refine tele_gval rfl ((!(!okk))) (.int .i64 (i : Int)) (fun ρ w' hk => by obtain ⟨_, hg, -⟩ := hk; have eg : ρ 88 = .bool (!okk) := hg; cases hq : ((!okk)) <;> simp [wantedR, Region.wanted, asBoolR_bool, asBoolR_undef, eg, ifV, hq]) ?_ ?_
        · rintro ρ w' he ⟨h6, hgd, -⟩ hG
          have e6 : ρ 6 = .int .i64 (i : Int) := h6
          simp [execOp, evR, e6, go_sem]
        refine tele_gval rfl ((!(!okk))) (.bool false) (fun ρ w' hk => by obtain ⟨_, hg, -⟩ := hk; have eg : ρ 88 = .bool (!okk) := hg; cases hq : ((!okk)) <;> simp [wantedR, Region.wanted, asBoolR_bool, asBoolR_undef, eg, ifV, hq]) ?_ ?_
        · rintro ρ w' he ⟨h89, hgd, -⟩ hG
          have e89 : ρ 89 = .int .i64 (i : Int) := (show ρ 89 = ifV ((!(!okk))) (.int .i64 (i : Int)) from h89).trans (ifV_true (by first | exact hG | simp_all))
          simp [execOp, evR, e89, go_sem]
          omega
        refine tele_gval rfl ((!(!okk))) (.bool false) (fun ρ w' hk => by obtain ⟨_, hg, -⟩ := hk; have eg : ρ 88 = .bool (!okk) := hg; cases hq : ((!okk)) <;> simp [wantedR, Region.wanted, asBoolR_bool, asBoolR_undef, eg, ifV, hq]) ?_ ?_
        · rintro ρ w' he ⟨h90, hgd, -⟩ hG
          have e90 : ρ 90 = .bool false := (show ρ 90 = ifV ((!(!okk))) (.bool false) from h90).trans (ifV_true (by first | exact hG | simp_all))
          simp [execOp, evR, e90, go_sem]
        refine tele_pass rfl (fun ρ w' hk => by obtain ⟨_, hg, -⟩ := hk; have eg : ρ 91 = ifV ((!(!okk))) (.bool false) := hg; cases h0 : ((!(!okk))) <;> simp [wantedR, Region.wanted, asBoolR_bool, asBoolR_undef, eg, ifV, h0]) ?_
        refine tele_pass rfl (fun ρ w' hk => by obtain ⟨_, hg, -⟩ := hk; have eg : ρ 91 = ifV ((!(!okk))) (.bool false) := hg; cases h0 : ((!(!okk))) <;> simp [wantedR, Region.wanted, asBoolR_bool, asBoolR_undef, eg, ifV, h0]) ?_
        refine tele_pass rfl (fun ρ w' hk => by obtain ⟨_, hg, -⟩ := hk; have eg : ρ 91 = ifV ((!(!okk))) (.bool false) := hg; cases h0 : ((!(!okk))) <;> simp [wantedR, Region.wanted, asBoolR_bool, asBoolR_undef, eg, ifV, h0]) ?_
        refine tele_pass rfl (fun ρ w' hk => by obtain ⟨_, hg, -⟩ := hk; have eg : ρ 91 = ifV ((!(!okk))) (.bool false) := hg; cases h0 : ((!(!okk))) <;> simp [wantedR, Region.wanted, asBoolR_bool, asBoolR_undef, eg, ifV, h0]) ?_
        refine tele_pass rfl (fun ρ w' hk => by obtain ⟨_, _, hg, -⟩ := hk; have eg : ρ 91 = ifV ((!(!okk))) (.bool false) := hg; cases h0 : ((!(!okk))) <;> simp [wantedR, Region.wanted, asBoolR_bool, asBoolR_undef, eg, ifV, h0]) ?_
        refine tele_pass rfl (fun ρ w' hk => by obtain ⟨_, hg, -⟩ := hk; have eg : ρ 91 = ifV ((!(!okk))) (.bool false) := hg; cases h0 : ((!(!okk))) <;> simp [wantedR, Region.wanted, asBoolR_bool, asBoolR_undef, eg, ifV, h0]) ?_
        refine tele_pass rfl (fun ρ w' hk => by obtain ⟨_, hg, -⟩ := hk; have eg : ρ 91 = ifV ((!(!okk))) (.bool false) := hg; cases h0 : ((!(!okk))) <;> simp [wantedR, Region.wanted, asBoolR_bool, asBoolR_undef, eg, ifV, h0]) ?_
        refine tele_pass rfl (fun ρ w' hk => by obtain ⟨_, hg, -⟩ := hk; have eg : ρ 91 = ifV ((!(!okk))) (.bool false) := hg; cases h0 : ((!(!okk))) <;> simp [wantedR, Region.wanted, asBoolR_bool, asBoolR_undef, eg, ifV, h0]) ?_
        refine tele_pass rfl (fun ρ w' hk => by obtain ⟨_, hg, -⟩ := hk; have eg : ρ 91 = ifV ((!(!okk))) (.bool false) := hg; cases h0 : ((!(!okk))) <;> simp [wantedR, Region.wanted, asBoolR_bool, asBoolR_undef, eg, ifV, h0]) ?_
        refine tele_pass rfl (fun ρ w' hk => by obtain ⟨_, _, hg, -⟩ := hk; have eg : ρ 91 = ifV ((!(!okk))) (.bool false) := hg; cases h0 : ((!(!okk))) <;> simp [wantedR, Region.wanted, asBoolR_bool, asBoolR_undef, eg, ifV, h0]) ?_
        refine tele_pass rfl (fun ρ w' hk => by obtain ⟨_, hg, -⟩ := hk; have eg : ρ 91 = ifV ((!(!okk))) (.bool false) := hg; cases h0 : ((!(!okk))) <;> simp [wantedR, Region.wanted, asBoolR_bool, asBoolR_undef, eg, ifV, h0]) ?_
        refine tele_pass rfl (fun ρ w' hk => by obtain ⟨_, _, hg, -⟩ := hk; have eg : ρ 91 = ifV ((!(!okk))) (.bool false) := hg; cases h0 : ((!(!okk))) <;> simp [wantedR, Region.wanted, asBoolR_bool, asBoolR_undef, eg, ifV, h0]) ?_
        refine tele_pass rfl (fun ρ w' hk => by obtain ⟨_, hg, -⟩ := hk; have eg : ρ 91 = ifV ((!(!okk))) (.bool false) := hg; cases h0 : ((!(!okk))) <;> simp [wantedR, Region.wanted, asBoolR_bool, asBoolR_undef, eg, ifV, h0]) ?_
        refine tele_gval rfl ((!(!okk))) (.bool false) (fun ρ w' hk => by obtain ⟨_, _, hg, -⟩ := hk; have eg : ρ 88 = .bool (!okk) := hg; cases hq : ((!okk)) <;> simp [wantedR, Region.wanted, asBoolR_bool, asBoolR_undef, eg, ifV, hq]) ?_ ?_
        · rintro ρ w' he ⟨h91, h104, hgd, -⟩ hG
          have e91 : ρ 91 = .bool false := (show ρ 91 = ifV ((!(!okk))) (.bool false) from h91).trans (ifV_true (by first | exact hG | simp_all))
          have e104 : ρ 104 = undef := h104
          simp [execOp, evR, e91, e104, go_sem]
        refine tele_val rfl (.bool ((!okk) || false)) (fun _ _ _ => rfl) ?_ ?_
        · rintro ρ w' he ⟨h88, h105, -⟩
          have e88 : ρ 88 = .bool (!okk) := h88
          have e105 : ρ 105 = ifV ((!(!okk))) (.bool false) := h105
          cases hc : ((!okk)) <;> simp [execOp, evR, e88, e105, ifV, hc, go_sem]
        refine tele_nil ?_
        rintro ρ w' hext ⟨f106, f105, f104, f103, f102, f101, f100, f99, f98, f97, f96, f95, f94, f93, f92, f91, f90, f89, f88, f87, f86, f85, f84, f83, f82, f81, f80, -⟩
        clear f80
        clear f81
        clear f82
        clear f83
        clear f84
        clear f85
        clear f86
        clear f87
        clear f88
        clear f89
        clear f90
        clear f91
        clear f92
        clear f93
        clear f94
        clear f95
        clear f96
        clear f97
        clear f98
        clear f99
        clear f100
        clear f101
        clear f102
        clear f103
        clear f104
        clear f105
        replace f106 : ρ 106 = .bool ((!okk) || false) := f106
        simp only [puts, Act.put, List.setIfInBounds_toArray, List.set_cons_zero, List.set_cons_succ]
        rw [f106]
        clear f106
        have HE := Lib.hid (show cgood l ⟨site, seq, sn, ss, va, vb, ws⟩ = (if (okk && cgoodF l.length (prevOf ws (i + 1)) (ws.drop (i + 1))) = true then 0 else 120) by rw [HPG.out, HS.out, HOK.out, hi0, prevOf_zero]; simp)
        clear hi0
        cases okk
        · go_wp2_with fail
          go_ret
          exact ⟨by rw [HE.out]; rfl, Ext.trans hx hext⟩
        · go_wp2_with fail
          go_roundw
          case rel => exact ⟨i + 1, by omega, by go_num, HE.out, ba.ext hext, Ext.trans hx hext⟩
          case measure => simp [intOf]; omega
      · obtain ⟨pk, pg, pd, pz, hget1, hp0, hp1, hp2, hp3, _, _, _⟩ := HC.out (i - 1) (by omega)
        have HPV := Lib.hid (prevOf_pos ws i _ hi0 hget1)
        have HP1 := Lib.hid (And.intro hp0 (And.intro hp1 (And.intro hp2 hp3)))
        have hah := fun w => rahead_any pk pg pd pz k g d z w
        obtain ⟨aa, haa⟩ : ∃ a : Bool, a = (Op.bytesLess pk k || (pk == k && decide (pg < g))) := ⟨_, rfl⟩
        rw [← haa] at hah
        have HAH := Lib.hid hah
        have HAA := Lib.hid haa
        clear hp0 hp1 hp2 hp3 hget1 hah haa
        go_upto_region 9 with (fail)
        clear bac
        refine wp_region_mono (by kernel_rfl) (by kernel_rfl) ?_
        refine tele_move rfl (.inl rfl) rfl (isV (.slice A0 l.length c0)) (fun ρ w' h => h) ?_
        refine tele_val rfl (.pointer (some ⟨n, 6, none⟩)) (fun _ _ _ => rfl) ?_ ?_
        · rintro ρ w' he ⟨h3, -⟩
          have e3 : ρ 3 = .pointer (some ⟨n, 0, none⟩) := h3
          simp [execOp, evR, e3, go_sem]
        refine tele_val rfl (.slice (some ⟨b, off, none⟩) ws.length c) (fun _ _ _ => rfl) ?_ ?_
        · rintro ρ w' he ⟨h81, -⟩
          have e81 : ρ 81 = .pointer (some ⟨n, 6, none⟩) := h81
          have c0 := (ba.ext he).cell (i := 6) rfl
          simp [execOp, evR, e81, c0, go_sem]
        refine tele_move rfl (.inl rfl) rfl (isV (.int .i64 (i : Int))) (fun ρ w' h => h) ?_
        refine tele_val rfl (.pointer (some ⟨b, off + i * 4, none⟩)) (fun _ _ _ => rfl) ?_ ?_
        · rintro ρ w' he ⟨h82, h83, -⟩
          have e82 : ρ 82 = .slice (some ⟨b, off, none⟩) ws.length c := h82
          have e83 : ρ 83 = .int .i64 (i : Int) := h83
          exact index_at 4 rfl Try.underlying27 e82 e83 (by omega) (by kernel_rfl)
        refine tele_val rfl (.agg #[strV k, .int .i64 g, .bool d, strV z]) (fun _ _ _ => rfl) ?_ ?_
        · rintro ρ w' he ⟨h84, -⟩
          have e84 : ρ 84 = .pointer (some ⟨b, off + i * 4, none⟩) := h84
          have c0 := ((hx.trans he).cell (p := ⟨b, off + i * 4, none⟩) hb).trans HC1.out.1
          have c1 := ((hx.trans he).cell (p := ⟨b, off + i * 4 + 1, none⟩) hb).trans HC1.out.2.1
          have c2 := ((hx.trans he).cell (p := ⟨b, off + i * 4 + 2, none⟩) hb).trans HC1.out.2.2.1
          have c3 := ((hx.trans he).cell (p := ⟨b, off + i * 4 + 3, none⟩) hb).trans HC1.out.2.2.2
          simp [execOp, evR, e84, c0, c1, c2, c3, go_sem]
        refine tele_call rfl rfl Try.func41 (by kernel_rfl) (isV (.bool okk)) (fun _ _ _ => rfl) ?_ ?_
        · rintro ρ w' he ⟨h80, h85, -⟩
          have e80 : ρ 80 = .slice A0 l.length c0 := h80
          have e85 : ρ 85 = .agg #[strV k, .int .i64 g, .bool d, strV z] := h85
          simp only [evR, List.map_toArray, List.map_cons, List.map_nil, e80, e85]
          refine (HWR.out _ (hl.ext (hx.trans he))).mono ?_
          rintro e w'' ⟨rfl, hx⟩
          exact ⟨_, rfl, hx, rfl⟩
        refine tele_val rfl (.bool (!okk)) (fun _ _ _ => rfl) ?_ ?_
        · rintro ρ w' he ⟨h86, -⟩
          have e86 : ρ 86 = .bool okk := h86
          simp [execOp, evR, e86, go_sem]
        refine tele_move rfl (.inl rfl) rfl (isV (.bool (!okk))) (fun ρ w' h => h) ?_
        refine tele_gval rfl ((!(!okk))) (.int .i64 (i : Int)) (fun ρ w' hk => by obtain ⟨_, hg, -⟩ := hk; have eg : ρ 88 = .bool (!okk) := hg; cases hq : ((!okk)) <;> simp [wantedR, Region.wanted, asBoolR_bool, asBoolR_undef, eg, ifV, hq]) ?_ ?_
        · rintro ρ w' he ⟨h6, hgd, -⟩ hG
          have e6 : ρ 6 = .int .i64 (i : Int) := h6
          simp [execOp, evR, e6, go_sem]
        refine tele_gval rfl ((!(!okk))) (.bool true) (fun ρ w' hk => by obtain ⟨_, hg, -⟩ := hk; have eg : ρ 88 = .bool (!okk) := hg; cases hq : ((!okk)) <;> simp [wantedR, Region.wanted, asBoolR_bool, asBoolR_undef, eg, ifV, hq]) ?_ ?_
        · rintro ρ w' he ⟨h89, hgd, -⟩ hG
          have e89 : ρ 89 = .int .i64 (i : Int) := (show ρ 89 = ifV ((!(!okk))) (.int .i64 (i : Int)) from h89).trans (ifV_true (by first | exact hG | simp_all))
          simp [execOp, evR, e89, go_sem]
          omega
        refine tele_gval rfl ((!(!okk))) (.bool true) (fun ρ w' hk => by obtain ⟨_, hg, -⟩ := hk; have eg : ρ 88 = .bool (!okk) := hg; cases hq : ((!okk)) <;> simp [wantedR, Region.wanted, asBoolR_bool, asBoolR_undef, eg, ifV, hq]) ?_ ?_
        · rintro ρ w' he ⟨h90, hgd, -⟩ hG
          have e90 : ρ 90 = .bool true := (show ρ 90 = ifV ((!(!okk))) (.bool true) from h90).trans (ifV_true (by first | exact hG | simp_all))
          simp [execOp, evR, e90, go_sem]
        refine tele_gval rfl ((!(!okk))) (.pointer (some ⟨n, 6, none⟩)) (fun ρ w' hk => by obtain ⟨_, hg, -⟩ := hk; have eg : ρ 91 = ifV ((!(!okk))) (.bool true) := hg; cases h0 : ((!(!okk))) <;> simp [wantedR, Region.wanted, asBoolR_bool, asBoolR_undef, eg, ifV, h0]) ?_ ?_
        · rintro ρ w' he ⟨h3, hgd, -⟩ hG
          have e3 : ρ 3 = .pointer (some ⟨n, 0, none⟩) := h3
          simp [execOp, evR, e3, go_sem]
        refine tele_gval rfl ((!(!okk))) (.slice (some ⟨b, off, none⟩) ws.length c) (fun ρ w' hk => by obtain ⟨_, hg, -⟩ := hk; have eg : ρ 91 = ifV ((!(!okk))) (.bool true) := hg; cases h0 : ((!(!okk))) <;> simp [wantedR, Region.wanted, asBoolR_bool, asBoolR_undef, eg, ifV, h0]) ?_ ?_
        · rintro ρ w' he ⟨h92, hgd, -⟩ hG
          have e92 : ρ 92 = .pointer (some ⟨n, 6, none⟩) := (show ρ 92 = ifV ((!(!okk))) (.pointer (some ⟨n, 6, none⟩)) from h92).trans (ifV_true (by first | exact hG | simp_all))
          have c0 := (ba.ext he).cell (i := 6) rfl
          simp [execOp, evR, e92, c0, go_sem]
        refine tele_gval rfl ((!(!okk))) (.int .i64 (i : Int)) (fun ρ w' hk => by obtain ⟨_, hg, -⟩ := hk; have eg : ρ 91 = ifV ((!(!okk))) (.bool true) := hg; cases h0 : ((!(!okk))) <;> simp [wantedR, Region.wanted, asBoolR_bool, asBoolR_undef, eg, ifV, h0]) ?_ ?_
        · rintro ρ w' he ⟨h6, hgd, -⟩ hG
          have e6 : ρ 6 = .int .i64 (i : Int) := h6
          simp [execOp, evR, e6, go_sem]
        refine tele_gval rfl ((!(!okk))) (.int .i64 ((i - 1 : Nat) : Int)) (fun ρ w' hk => by obtain ⟨_, hg, -⟩ := hk; have eg : ρ 91 = ifV ((!(!okk))) (.bool true) := hg; cases h0 : ((!(!okk))) <;> simp [wantedR, Region.wanted, asBoolR_bool, asBoolR_undef, eg, ifV, h0]) ?_ ?_
        · rintro ρ w' he ⟨h94, hgd, -⟩ hG
          have e94 : ρ 94 = .int .i64 (i : Int) := (show ρ 94 = ifV ((!(!okk))) (.int .i64 (i : Int)) from h94).trans (ifV_true (by first | exact hG | simp_all))
          have hw1 : IntKind.i64.wrap ((i : Int) - 1) = ((i - 1 : Nat) : Int) := by rw [IntWalk.i64_in _ (by omega)]; omega
          simp [execOp, evR, e94, hw1, go_sem]
        refine tele_gval rfl ((!(!okk))) (.pointer (some ⟨b, off + (i - 1) * 4, none⟩)) (fun ρ w' hk => by obtain ⟨_, _, hg, -⟩ := hk; have eg : ρ 91 = ifV ((!(!okk))) (.bool true) := hg; cases h0 : ((!(!okk))) <;> simp [wantedR, Region.wanted, asBoolR_bool, asBoolR_undef, eg, ifV, h0]) ?_ ?_
        · rintro ρ w' he ⟨h93, h95, hgd, -⟩ hG
          have e93 : ρ 93 = .slice (some ⟨b, off, none⟩) ws.length c := (show ρ 93 = ifV ((!(!okk))) (.slice (some ⟨b, off, none⟩) ws.length c) from h93).trans (ifV_true (by first | exact hG | simp_all))
          have e95 : ρ 95 = .int .i64 ((i - 1 : Nat) : Int) := (show ρ 95 = ifV ((!(!okk))) (.int .i64 ((i - 1 : Nat) : Int)) from h95).trans (ifV_true (by first | exact hG | simp_all))
          exact index_at 4 rfl Try.underlying27 e93 e95 (by omega) (by kernel_rfl)
        refine tele_gval rfl ((!(!okk))) (.agg #[strV pk, .int .i64 pg, .bool pd, strV pz]) (fun ρ w' hk => by obtain ⟨_, hg, -⟩ := hk; have eg : ρ 91 = ifV ((!(!okk))) (.bool true) := hg; cases h0 : ((!(!okk))) <;> simp [wantedR, Region.wanted, asBoolR_bool, asBoolR_undef, eg, ifV, h0]) ?_ ?_
        · rintro ρ w' he ⟨h96, hgd, -⟩ hG
          have e96 : ρ 96 = .pointer (some ⟨b, off + (i - 1) * 4, none⟩) := (show ρ 96 = ifV ((!(!okk))) (.pointer (some ⟨b, off + (i - 1) * 4, none⟩)) from h96).trans (ifV_true (by first | exact hG | simp_all))
          have c0 := ((hx.trans he).cell (p := ⟨b, off + (i - 1) * 4, none⟩) hb).trans HP1.out.1
          have c1 := ((hx.trans he).cell (p := ⟨b, off + (i - 1) * 4 + 1, none⟩) hb).trans HP1.out.2.1
          have c2 := ((hx.trans he).cell (p := ⟨b, off + (i - 1) * 4 + 2, none⟩) hb).trans HP1.out.2.2.1
          have c3 := ((hx.trans he).cell (p := ⟨b, off + (i - 1) * 4 + 3, none⟩) hb).trans HP1.out.2.2.2
          simp [execOp, evR, e96, c0, c1, c2, c3, go_sem]
        refine tele_gval rfl ((!(!okk))) (.pointer (some ⟨n, 6, none⟩)) (fun ρ w' hk => by obtain ⟨_, hg, -⟩ := hk; have eg : ρ 91 = ifV ((!(!okk))) (.bool true) := hg; cases h0 : ((!(!okk))) <;> simp [wantedR, Region.wanted, asBoolR_bool, asBoolR_undef, eg, ifV, h0]) ?_ ?_
        · rintro ρ w' he ⟨h3, hgd, -⟩ hG
          have e3 : ρ 3 = .pointer (some ⟨n, 0, none⟩) := h3
          simp [execOp, evR, e3, go_sem]
        refine tele_gval rfl ((!(!okk))) (.slice (some ⟨b, off, none⟩) ws.length c) (fun ρ w' hk => by obtain ⟨_, hg, -⟩ := hk; have eg : ρ 91 = ifV ((!(!okk))) (.bool true) := hg; cases h0 : ((!(!okk))) <;> simp [wantedR, Region.wanted, asBoolR_bool, asBoolR_undef, eg, ifV, h0]) ?_ ?_
        · rintro ρ w' he ⟨h98, hgd, -⟩ hG
          have e98 : ρ 98 = .pointer (some ⟨n, 6, none⟩) := (show ρ 98 = ifV ((!(!okk))) (.pointer (some ⟨n, 6, none⟩)) from h98).trans (ifV_true (by first | exact hG | simp_all))
          have c0 := (ba.ext he).cell (i := 6) rfl
          simp [execOp, evR, e98, c0, go_sem]
        refine tele_gval rfl ((!(!okk))) (.int .i64 (i : Int)) (fun ρ w' hk => by obtain ⟨_, hg, -⟩ := hk; have eg : ρ 91 = ifV ((!(!okk))) (.bool true) := hg; cases h0 : ((!(!okk))) <;> simp [wantedR, Region.wanted, asBoolR_bool, asBoolR_undef, eg, ifV, h0]) ?_ ?_
        · rintro ρ w' he ⟨h6, hgd, -⟩ hG
          have e6 : ρ 6 = .int .i64 (i : Int) := h6
          simp [execOp, evR, e6, go_sem]
        refine tele_gval rfl ((!(!okk))) (.pointer (some ⟨b, off + i * 4, none⟩)) (fun ρ w' hk => by obtain ⟨_, _, hg, -⟩ := hk; have eg : ρ 91 = ifV ((!(!okk))) (.bool true) := hg; cases h0 : ((!(!okk))) <;> simp [wantedR, Region.wanted, asBoolR_bool, asBoolR_undef, eg, ifV, h0]) ?_ ?_
        · rintro ρ w' he ⟨h99, h100, hgd, -⟩ hG
          have e99 : ρ 99 = .slice (some ⟨b, off, none⟩) ws.length c := (show ρ 99 = ifV ((!(!okk))) (.slice (some ⟨b, off, none⟩) ws.length c) from h99).trans (ifV_true (by first | exact hG | simp_all))
          have e100 : ρ 100 = .int .i64 (i : Int) := (show ρ 100 = ifV ((!(!okk))) (.int .i64 (i : Int)) from h100).trans (ifV_true (by first | exact hG | simp_all))
          exact index_at 4 rfl Try.underlying27 e99 e100 (by omega) (by kernel_rfl)
        refine tele_gval rfl ((!(!okk))) (.agg #[strV k, .int .i64 g, .bool d, strV z]) (fun ρ w' hk => by obtain ⟨_, hg, -⟩ := hk; have eg : ρ 91 = ifV ((!(!okk))) (.bool true) := hg; cases h0 : ((!(!okk))) <;> simp [wantedR, Region.wanted, asBoolR_bool, asBoolR_undef, eg, ifV, h0]) ?_ ?_
        · rintro ρ w' he ⟨h101, hgd, -⟩ hG
          have e101 : ρ 101 = .pointer (some ⟨b, off + i * 4, none⟩) := (show ρ 101 = ifV ((!(!okk))) (.pointer (some ⟨b, off + i * 4, none⟩)) from h101).trans (ifV_true (by first | exact hG | simp_all))
          have c0 := ((hx.trans he).cell (p := ⟨b, off + i * 4, none⟩) hb).trans HC1.out.1
          have c1 := ((hx.trans he).cell (p := ⟨b, off + i * 4 + 1, none⟩) hb).trans HC1.out.2.1
          have c2 := ((hx.trans he).cell (p := ⟨b, off + i * 4 + 2, none⟩) hb).trans HC1.out.2.2.1
          have c3 := ((hx.trans he).cell (p := ⟨b, off + i * 4 + 3, none⟩) hb).trans HC1.out.2.2.2
          simp [execOp, evR, e101, c0, c1, c2, c3, go_sem]
        refine tele_gcall rfl rfl Try.func42 (by kernel_rfl) ((!(!okk))) (.bool aa) (fun ρ w' hk => by obtain ⟨_, _, hg, -⟩ := hk; have eg : ρ 91 = ifV ((!(!okk))) (.bool true) := hg; cases h0 : ((!(!okk))) <;> simp [wantedR, Region.wanted, asBoolR_bool, asBoolR_undef, eg, ifV, h0]) ?_ ?_
        · rintro ρ w' he ⟨h97, h102, hgd, -⟩ hG
          have e97 : ρ 97 = .agg #[strV pk, .int .i64 pg, .bool pd, strV pz] := (show ρ 97 = ifV ((!(!okk))) (.agg #[strV pk, .int .i64 pg, .bool pd, strV pz]) from h97).trans (ifV_true (by first | exact hG | simp_all))
          have e102 : ρ 102 = .agg #[strV k, .int .i64 g, .bool d, strV z] := (show ρ 102 = ifV ((!(!okk))) (.agg #[strV k, .int .i64 g, .bool d, strV z]) from h102).trans (ifV_true (by first | exact hG | simp_all))
          simp only [evR, List.map_toArray, List.map_cons, List.map_nil, e97, e102]
          refine (HAH.out _).mono ?_
          rintro e w'' ⟨rfl, hx⟩
          exact ⟨rfl, hx⟩
        refine tele_gval rfl ((!(!okk))) (.bool (!aa)) (fun ρ w' hk => by obtain ⟨_, hg, -⟩ := hk; have eg : ρ 91 = ifV ((!(!okk))) (.bool true) := hg; cases h0 : ((!(!okk))) <;> simp [wantedR, Region.wanted, asBoolR_bool, asBoolR_undef, eg, ifV, h0]) ?_ ?_
        · rintro ρ w' he ⟨h103, hgd, -⟩ hG
          have e103 : ρ 103 = .bool aa := (show ρ 103 = ifV ((!(!okk))) (.bool aa) from h103).trans (ifV_true (by first | exact hG | simp_all))
          simp [execOp, evR, e103, go_sem]
        refine tele_gval rfl ((!(!okk))) (.bool (!aa)) (fun ρ w' hk => by obtain ⟨_, _, hg, -⟩ := hk; have eg : ρ 88 = .bool (!okk) := hg; cases hq : ((!okk)) <;> simp [wantedR, Region.wanted, asBoolR_bool, asBoolR_undef, eg, ifV, hq]) ?_ ?_
        · rintro ρ w' he ⟨h91, h104, hgd, -⟩ hG
          have e91 : ρ 91 = .bool true := (show ρ 91 = ifV ((!(!okk))) (.bool true) from h91).trans (ifV_true (by first | exact hG | simp_all))
          have e104 : ρ 104 = .bool (!aa) := (show ρ 104 = ifV ((!(!okk))) (.bool (!aa)) from h104).trans (ifV_true (by first | exact hG | simp_all))
          simp [execOp, evR, e91, e104, go_sem]
        refine tele_val rfl (.bool ((!okk) || (!aa))) (fun _ _ _ => rfl) ?_ ?_
        · rintro ρ w' he ⟨h88, h105, -⟩
          have e88 : ρ 88 = .bool (!okk) := h88
          have e105 : ρ 105 = ifV ((!(!okk))) (.bool (!aa)) := h105
          cases hc : ((!okk)) <;> simp [execOp, evR, e88, e105, ifV, hc, go_sem]
        refine tele_nil ?_
        rintro ρ w' hext ⟨f106, f105, f104, f103, f102, f101, f100, f99, f98, f97, f96, f95, f94, f93, f92, f91, f90, f89, f88, f87, f86, f85, f84, f83, f82, f81, f80, -⟩
        clear f80
        clear f81
        clear f82
        clear f83
        clear f84
        clear f85
        clear f86
        clear f87
        clear f88
        clear f89
        clear f90
        clear f91
        clear f92
        clear f93
        clear f94
        clear f95
        clear f96
        clear f97
        clear f98
        clear f99
        clear f100
        clear f101
        clear f102
        clear f103
        clear f104
        clear f105
        replace f106 : ρ 106 = .bool ((!okk) || (!aa)) := f106
        simp only [puts, Act.put, List.setIfInBounds_toArray, List.set_cons_zero, List.set_cons_succ]
        rw [f106]
        clear f106
        have HE := Lib.hid (show cgood l ⟨site, seq, sn, ss, va, vb, ws⟩ = (if (okk && aa && cgoodF l.length (prevOf ws (i + 1)) (ws.drop (i + 1))) = true then 0 else 120) by
          rw [HPG.out, HS.out, HOK.out, HPV.out, HAA.out]
          rfl)
        cases okk <;> cases aa
        iterate 3
          · go_wp2_with fail
            go_ret
            exact ⟨by rw [HE.out]; rfl, Ext.trans hx hext⟩
        · go_wp2_with fail
          go_roundw
          case rel => exact ⟨i + 1, by omega, by go_num, HE.out, ba.ext hext, Ext.trans hx hext⟩
          case measure => simp [intOf]; omega
    · have hil : i = ws.length := by omega
      have HE := Lib.hid (show cgood l ⟨site, seq, sn, ss, va, vb, ws⟩ = 0 by rw [hpg, hil, List.drop_length, cgoodF_end, if_pos rfl])
      clear hpg hil
      go_wp2_with fail
      go_ret
      exact ⟨by rw [HE.out]; rfl, hx⟩
end Go.Proofs.Ytocdifjdeifclaa
