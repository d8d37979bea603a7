/-
  The walks of cell.Seen and ChangeRows.
-/
import Derived.Test.YtocdifjdeifclaaChRows
import Derived.Test.YtocdifjdeifclaaRowSame
import Derived.Test.YtocdifjdeifclaaRowsLaw
import Derived.Test.YtocdifjdeifclaaChLaw0
namespace Go.Proofs.Ytocdifjdeifclaa
open Go Go.RowKit Mono Num
set_option linter.unusedVariables false
set_option linter.unusedSimpArgs false
set_option maxRecDepth 100000

set_option maxHeartbeats 4000000 in
theorem cellSeen_any (p sn ss va vb : Int) (gone : Bool) (value : List UInt8) (da db : Int) (w : World) :
    Calls Try.prog 18 #[.int .i64 p, .agg #[.int .i64 sn, .int .i64 ss, .int .i64 va, .int .i64 vb, .bool gone, strV value, .int .i64 da, .int .i64 db]] w fun e w' => e = .returned (.tuple #[strV (cseen p ⟨sn, ss, va, vb, gone, value, da, db⟩).1, .bool (cseen p ⟨sn, ss, va, vb, gone, value, da, db⟩).2]) ∧ Ext w w' := by
  obtain ⟨qg, hqg⟩ : ∃ q, (cellgood p ⟨sn, ss, va, vb, gone, value, da, db⟩) = q := ⟨_, rfl⟩
  obtain ⟨qw, hqw⟩ : ∃ q, (cwritten ⟨sn, ss, va, vb, gone, value, da, db⟩) = q := ⟨_, rfl⟩
  obtain ⟨qv, hqv⟩ : ∃ q, (vcovers va vb da db) = q := ⟨_, rfl⟩
  have HS : Hid (cseen p ⟨sn, ss, va, vb, gone, value, da, db⟩ = if (qg && qw && !gone && qv) = true then (value, true) else ([], false)) := Lib.hid (by unfold cseen; rw [hqg, hqw]; dsimp only; rw [hqv])
  unfold strV
  go_enter Try.func18, Try.ntmps18
  go_upto_region 1 with (fail)
  have ba := Blk.new w #[.int .i64 sn, .int .i64 ss, .int .i64 va, .int .i64 vb, .bool gone, .string ⟨value.toArray⟩, .int .i64 da, .int .i64 db] 54
  have hx := ext_alloc w (.cells #[.int .i64 sn, .int .i64 ss, .int .i64 va, .int .i64 vb, .bool gone, .string ⟨value.toArray⟩, .int .i64 da, .int .i64 db] 54)
  obtain ⟨n, hn⟩ : ∃ n, n = w.heap.size := ⟨_, rfl⟩
  rw [← hn] at ba ⊢
  clear hn
  generalize w.alloc (.cells #[.int .i64 sn, .int .i64 ss, .int .i64 va, .int .i64 vb, .bool gone, .string ⟨value.toArray⟩, .int .i64 da, .int .i64 db] 54) = W at *
  replace ba : Blk W n [.int .i64 sn, .int .i64 ss, .int .i64 va, .int .i64 vb, .bool gone, strV value, .int .i64 da, .int .i64 db] := ba
  refine wp_region_seq (by kernel_rfl) ?_
  refine tele_move rfl (.inl rfl) rfl (isV (.int .i64 p)) (fun ρ w' h => h) ?_
  refine tele_val rfl (.agg #[.int .i64 sn, .int .i64 ss, .int .i64 va, .int .i64 vb, .bool gone, strV value, .int .i64 da, .int .i64 db]) (fun _ _ _ => rfl) ?_ ?_
  · rintro ρ w' he ⟨h3, -⟩
    have e3 : ρ 3 = .pointer (some ⟨n, 0, none⟩) := h3
    have c0 := (ba.ext he).cell (i := 0) rfl
    have c1 := (ba.ext he).cell (i := 1) rfl
    have c2 := (ba.ext he).cell (i := 2) rfl
    have c3 := (ba.ext he).cell (i := 3) rfl
    have c4 := (ba.ext he).cell (i := 4) rfl
    have c5 := (ba.ext he).cell (i := 5) rfl
    have c6 := (ba.ext he).cell (i := 6) rfl
    have c7 := (ba.ext he).cell (i := 7) rfl
    simp [execOp, evR, e3, c0, c1, c2, c3, c4, c5, c6, c7, go_sem]
  refine tele_call rfl rfl Try.func45 (by kernel_rfl) (isV (.bool qg)) (fun _ _ _ => rfl) ?_ ?_
  · rintro ρ w' he ⟨h6, h7, -⟩
    have e6 : ρ 6 = .int .i64 p := h6
    have e7 : ρ 7 = .agg #[.int .i64 sn, .int .i64 ss, .int .i64 va, .int .i64 vb, .bool gone, strV value, .int .i64 da, .int .i64 db] := h7
    simp only [evR, List.map_toArray, List.map_cons, List.map_nil, e6, e7]
    have hcg := cellGood_any p sn ss va vb gone value da db w'
    unfold clV at hcg
    dsimp only at hcg
    rw [hqg] at hcg
    refine (hcg).mono ?_
    rintro e w'' ⟨rfl, hx⟩
    exact ⟨_, rfl, hx, rfl⟩
  refine tele_val rfl (.bool (!qg)) (fun _ _ _ => rfl) ?_ ?_
  · rintro ρ w' he ⟨h8, -⟩
    have e8 : ρ 8 = .bool qg := h8
    simp [execOp, evR, e8, go_sem]
  refine tele_move rfl (.inl rfl) rfl (isV (.bool (!qg))) (fun ρ w' h => h) ?_
  refine tele_gval rfl ((!(!qg))) (.agg #[.int .i64 sn, .int .i64 ss, .int .i64 va, .int .i64 vb, .bool gone, strV value, .int .i64 da, .int .i64 db]) (fun ρ w' hk => by obtain ⟨_, hg, -⟩ := hk; have eg : ρ 10 = .bool (!qg) := hg; cases hq : ((!qg)) <;> simp [wantedR, Region.wanted, asBoolR_bool, asBoolR_undef, eg, ifV, hq]) ?_ ?_
  · rintro ρ w' he ⟨h3, hgd, -⟩ hG
    have e3 : ρ 3 = .pointer (some ⟨n, 0, none⟩) := h3
    have c0 := (ba.ext he).cell (i := 0) rfl
    have c1 := (ba.ext he).cell (i := 1) rfl
    have c2 := (ba.ext he).cell (i := 2) rfl
    have c3 := (ba.ext he).cell (i := 3) rfl
    have c4 := (ba.ext he).cell (i := 4) rfl
    have c5 := (ba.ext he).cell (i := 5) rfl
    have c6 := (ba.ext he).cell (i := 6) rfl
    have c7 := (ba.ext he).cell (i := 7) rfl
    simp [execOp, evR, e3, c0, c1, c2, c3, c4, c5, c6, c7, go_sem]
  refine tele_gcall rfl rfl Try.func46 (by kernel_rfl) ((!(!qg))) (.bool qw) (fun ρ w' hk => by obtain ⟨_, hg, -⟩ := hk; have eg : ρ 10 = .bool (!qg) := hg; cases hq : ((!qg)) <;> simp [wantedR, Region.wanted, asBoolR_bool, asBoolR_undef, eg, ifV, hq]) ?_ ?_
  · rintro ρ w' he ⟨h11, hgd, -⟩ hG
    have e11 : ρ 11 = .agg #[.int .i64 sn, .int .i64 ss, .int .i64 va, .int .i64 vb, .bool gone, strV value, .int .i64 da, .int .i64 db] := (show ρ 11 = ifV ((!(!qg))) (.agg #[.int .i64 sn, .int .i64 ss, .int .i64 va, .int .i64 vb, .bool gone, strV value, .int .i64 da, .int .i64 db]) from h11).trans (ifV_true (by first | exact hG | simp_all))
    simp only [evR, List.map_toArray, List.map_cons, List.map_nil, e11]
    have hcg := written_any sn ss va vb gone value da db w'
    unfold clV at hcg
    dsimp only at hcg
    rw [hqw] at hcg
    refine (hcg).mono ?_
    rintro e w'' ⟨rfl, hx⟩
    exact ⟨rfl, hx⟩
  refine tele_gval rfl ((!(!qg))) (.bool (!qw)) (fun ρ w' hk => by obtain ⟨_, hg, -⟩ := hk; have eg : ρ 10 = .bool (!qg) := hg; cases hq : ((!qg)) <;> simp [wantedR, Region.wanted, asBoolR_bool, asBoolR_undef, eg, ifV, hq]) ?_ ?_
  · rintro ρ w' he ⟨h12, hgd, -⟩ hG
    have e12 : ρ 12 = .bool qw := (show ρ 12 = ifV ((!(!qg))) (.bool qw) from h12).trans (ifV_true (by first | exact hG | simp_all))
    simp [execOp, evR, e12, go_sem]
  refine tele_val rfl (.bool ((!qg) || (!qw))) (fun _ _ _ => rfl) ?_ ?_
  · rintro ρ w' he ⟨h10, h13, -⟩
    have e10 : ρ 10 = .bool (!qg) := h10
    have e13 : ρ 13 = ifV ((!(!qg))) (.bool (!qw)) := h13
    cases hc : ((!qg)) <;> simp [execOp, evR, e10, e13, ifV, hc, go_sem]
  refine tele_move rfl (.inl rfl) rfl (isV (.bool ((!qg) || (!qw)))) (fun ρ w' h => h) ?_
  refine tele_gval rfl ((!((!qg) || (!qw)))) (.pointer (some ⟨n, 4, none⟩)) (fun ρ w' hk => by obtain ⟨_, hg, -⟩ := hk; have eg : ρ 15 = .bool ((!qg) || (!qw)) := hg; cases hq : (((!qg) || (!qw))) <;> simp [wantedR, Region.wanted, asBoolR_bool, asBoolR_undef, eg, ifV, hq]) ?_ ?_
  · rintro ρ w' he ⟨h3, hgd, -⟩ hG
    have e3 : ρ 3 = .pointer (some ⟨n, 0, none⟩) := h3
    simp [execOp, evR, e3, go_sem]
  refine tele_gval rfl ((!((!qg) || (!qw)))) (.bool gone) (fun ρ w' hk => by obtain ⟨_, hg, -⟩ := hk; have eg : ρ 15 = .bool ((!qg) || (!qw)) := hg; cases hq : (((!qg) || (!qw))) <;> simp [wantedR, Region.wanted, asBoolR_bool, asBoolR_undef, eg, ifV, hq]) ?_ ?_
  · rintro ρ w' he ⟨h16, hgd, -⟩ hG
    have e16 : ρ 16 = .pointer (some ⟨n, 4, none⟩) := (show ρ 16 = ifV ((!((!qg) || (!qw)))) (.pointer (some ⟨n, 4, none⟩)) from h16).trans (ifV_true (by first | exact hG | simp_all))
    have c0 := (ba.ext he).cell (i := 4) rfl
    simp [execOp, evR, e16, c0, go_sem]
  refine tele_val rfl (.bool (((!qg) || (!qw)) || gone)) (fun _ _ _ => rfl) ?_ ?_
  · rintro ρ w' he ⟨h15, h17, -⟩
    have e15 : ρ 15 = .bool ((!qg) || (!qw)) := h15
    have e17 : ρ 17 = ifV ((!((!qg) || (!qw)))) (.bool gone) := h17
    cases hc : (((!qg) || (!qw))) <;> simp [execOp, evR, e15, e17, ifV, hc, go_sem]
  refine tele_move rfl (.inl rfl) rfl (isV (.bool (((!qg) || (!qw)) || gone))) (fun ρ w' h => h) ?_
  refine tele_gval rfl ((!(((!qg) || (!qw)) || gone))) (.pointer (some ⟨n, 2, none⟩)) (fun ρ w' hk => by obtain ⟨_, hg, -⟩ := hk; have eg : ρ 19 = .bool (((!qg) || (!qw)) || gone) := hg; cases hq : ((((!qg) || (!qw)) || gone)) <;> simp [wantedR, Region.wanted, asBoolR_bool, asBoolR_undef, eg, ifV, hq]) ?_ ?_
  · rintro ρ w' he ⟨h3, hgd, -⟩ hG
    have e3 : ρ 3 = .pointer (some ⟨n, 0, none⟩) := h3
    simp [execOp, evR, e3, go_sem]
  refine tele_gval rfl ((!(((!qg) || (!qw)) || gone))) (.agg #[.int .i64 va, .int .i64 vb]) (fun ρ w' hk => by obtain ⟨_, hg, -⟩ := hk; have eg : ρ 19 = .bool (((!qg) || (!qw)) || gone) := hg; cases hq : ((((!qg) || (!qw)) || gone)) <;> simp [wantedR, Region.wanted, asBoolR_bool, asBoolR_undef, eg, ifV, hq]) ?_ ?_
  · rintro ρ w' he ⟨h20, hgd, -⟩ hG
    have e20 : ρ 20 = .pointer (some ⟨n, 2, none⟩) := (show ρ 20 = ifV ((!(((!qg) || (!qw)) || gone))) (.pointer (some ⟨n, 2, none⟩)) from h20).trans (ifV_true (by first | exact hG | simp_all))
    have c0 := (ba.ext he).cell (i := 2) rfl
    have c1 := (ba.ext he).cell (i := 3) rfl
    simp [execOp, evR, e20, c0, c1, go_sem]
  refine tele_gval rfl ((!(((!qg) || (!qw)) || gone))) (.pointer (some ⟨n, 6, none⟩)) (fun ρ w' hk => by obtain ⟨_, hg, -⟩ := hk; have eg : ρ 19 = .bool (((!qg) || (!qw)) || gone) := hg; cases hq : ((((!qg) || (!qw)) || gone)) <;> simp [wantedR, Region.wanted, asBoolR_bool, asBoolR_undef, eg, ifV, hq]) ?_ ?_
  · rintro ρ w' he ⟨h3, hgd, -⟩ hG
    have e3 : ρ 3 = .pointer (some ⟨n, 0, none⟩) := h3
    simp [execOp, evR, e3, go_sem]
  refine tele_gval rfl ((!(((!qg) || (!qw)) || gone))) (.agg #[.int .i64 da, .int .i64 db]) (fun ρ w' hk => by obtain ⟨_, hg, -⟩ := hk; have eg : ρ 19 = .bool (((!qg) || (!qw)) || gone) := hg; cases hq : ((((!qg) || (!qw)) || gone)) <;> simp [wantedR, Region.wanted, asBoolR_bool, asBoolR_undef, eg, ifV, hq]) ?_ ?_
  · rintro ρ w' he ⟨h22, hgd, -⟩ hG
    have e22 : ρ 22 = .pointer (some ⟨n, 6, none⟩) := (show ρ 22 = ifV ((!(((!qg) || (!qw)) || gone))) (.pointer (some ⟨n, 6, none⟩)) from h22).trans (ifV_true (by first | exact hG | simp_all))
    have c0 := (ba.ext he).cell (i := 6) rfl
    have c1 := (ba.ext he).cell (i := 7) rfl
    simp [execOp, evR, e22, c0, c1, go_sem]
  refine tele_gcall rfl rfl Try.func47 (by kernel_rfl) ((!(((!qg) || (!qw)) || gone))) (.bool qv) (fun ρ w' hk => by obtain ⟨_, _, hg, -⟩ := hk; have eg : ρ 19 = .bool (((!qg) || (!qw)) || gone) := hg; cases hq : ((((!qg) || (!qw)) || gone)) <;> simp [wantedR, Region.wanted, asBoolR_bool, asBoolR_undef, eg, ifV, hq]) ?_ ?_
  · rintro ρ w' he ⟨h21, h23, hgd, -⟩ hG
    have e21 : ρ 21 = .agg #[.int .i64 va, .int .i64 vb] := (show ρ 21 = ifV ((!(((!qg) || (!qw)) || gone))) (.agg #[.int .i64 va, .int .i64 vb]) from h21).trans (ifV_true (by first | exact hG | simp_all))
    have e23 : ρ 23 = .agg #[.int .i64 da, .int .i64 db] := (show ρ 23 = ifV ((!(((!qg) || (!qw)) || gone))) (.agg #[.int .i64 da, .int .i64 db]) from h23).trans (ifV_true (by first | exact hG | simp_all))
    simp only [evR, List.map_toArray, List.map_cons, List.map_nil, e21, e23]
    have hcg := vecCovers_any va vb da db w'
    unfold vecV at hcg
    rw [hqv] at hcg
    refine (hcg).mono ?_
    rintro e w'' ⟨rfl, hx⟩
    exact ⟨rfl, hx⟩
  refine tele_gval rfl ((!(((!qg) || (!qw)) || gone))) (.bool (!qv)) (fun ρ w' hk => by obtain ⟨_, hg, -⟩ := hk; have eg : ρ 19 = .bool (((!qg) || (!qw)) || gone) := hg; cases hq : ((((!qg) || (!qw)) || gone)) <;> simp [wantedR, Region.wanted, asBoolR_bool, asBoolR_undef, eg, ifV, hq]) ?_ ?_
  · rintro ρ w' he ⟨h24, hgd, -⟩ hG
    have e24 : ρ 24 = .bool qv := (show ρ 24 = ifV ((!(((!qg) || (!qw)) || gone))) (.bool qv) from h24).trans (ifV_true (by first | exact hG | simp_all))
    simp [execOp, evR, e24, go_sem]
  refine tele_val rfl (.bool ((((!qg) || (!qw)) || gone) || (!qv))) (fun _ _ _ => rfl) ?_ ?_
  · rintro ρ w' he ⟨h19, h25, -⟩
    have e19 : ρ 19 = .bool (((!qg) || (!qw)) || gone) := h19
    have e25 : ρ 25 = ifV ((!(((!qg) || (!qw)) || gone))) (.bool (!qv)) := h25
    cases hc : ((((!qg) || (!qw)) || gone)) <;> simp [execOp, evR, e19, e25, ifV, hc, go_sem]
  refine tele_nil ?_
  rintro ρ w' hext ⟨f26, f25, f24, f23, f22, f21, f20, f19, f18, f17, f16, f15, f14, f13, f12, f11, f10, f9, f8, f7, f6, -⟩
  clear f6
  clear f7
  clear f8
  clear f9
  clear f10
  clear f11
  clear f12
  clear f13
  clear f14
  clear f15
  clear f16
  clear f17
  clear f18
  clear f19
  clear f20
  clear f21
  clear f22
  clear f23
  clear f24
  clear f25
  replace f26 : ρ 26 = .bool ((((!qg) || (!qw)) || gone) || (!qv)) := f26
  simp only [puts, Act.put, List.setIfInBounds_toArray, List.set_cons_zero, List.set_cons_succ]
  have hok : (((((!qg) || (!qw)) || gone) || (!qv))) = !(qg && qw && !gone && qv) := by cases qg <;> cases qw <;> cases gone <;> cases qv <;> rfl
  rw [f26, hok]
  clear f26 hok hqg hqw hqv
  generalize (qg && qw && !gone && qv) = q at *
  replace hx := hx.trans hext
  have k5 := (ba.ext hext).cell (i := 5) rfl
  unfold strV at k5
  clear ba
  cases q
  · go_wp2_with fail
    go_ret2
    exact ⟨by rw [HS.out]; rfl, hx⟩
  · go_wp2_with fail
    go_ret2
    exact ⟨by rw [HS.out]; rfl, hx⟩

set_option maxHeartbeats 32000000 in
theorem changeRows_walk (vl : Value) (gs : List Grp) (s1 s2 s3 s4 s5 s6 : Int) (vw : Value) (ws : List Wr) (w : World) (hl : Gs w vl gs) (hw : Ws w vw ws) :
    Calls Try.prog 4 #[vl, chV ⟨s1, s2, s3, s4, s5, s6, ws⟩ vw] w fun e w' => e = .returned (.bool true) ∧ Ext w w' := by
  have HL := Lib.hid (fun w => lives_any w)
  obtain ⟨Ag, cg, rfl, g1, g2, g3, g4⟩ := hl.at_
  obtain ⟨A, c, rfl, h1, h2, h3, h4⟩ := hw.at_
  have G4 := Lib.hid g4
  have H4 := Lib.hid h4
  have HGS := Lib.hid hl
  have HWS := Lib.hid hw
  have HLI := Lib.hid (fun w h1 h2 => light_any (.slice Ag gs.length cg) gs (.slice A ws.length c) ws w h1 h2)
  have hrw := fun w1 (he : Ext w w1) => chRows_any (.slice Ag gs.length cg) gs s1 s2 s3 s4 s5 s6 ws (.slice A ws.length c) w1 (hl.ext he) (hw.ext he)
  have hhs := fun key g w1 (he : Ext w w1) => chHas_any s1 s2 s3 s4 s5 s6 (.slice A ws.length c) ws key g w1 (hw.ext he)
  unfold chV at hrw hhs ⊢
  dsimp only at hrw hhs ⊢
  have HRW := Lib.hid hrw
  have HHS := Lib.hid hhs
  clear hrw hhs h4 g4 hl hw
  go_enter Try.func4, Try.ntmps4
  go_upto_region 1 with (fail)
  have ba := Blk.new w #[.int .i64 s1, .int .i64 s2, .int .i64 s3, .int .i64 s4, .int .i64 s5, .int .i64 s6, .slice A ws.length c] 29
  have hx := ext_alloc w (.cells #[.int .i64 s1, .int .i64 s2, .int .i64 s3, .int .i64 s4, .int .i64 s5, .int .i64 s6, .slice A ws.length c] 29)
  obtain ⟨n3, hn3⟩ : ∃ n, n = w.heap.size := ⟨_, rfl⟩
  rw [← hn3] at ba ⊢
  clear hn3
  generalize w.alloc (.cells #[.int .i64 s1, .int .i64 s2, .int .i64 s3, .int .i64 s4, .int .i64 s5, .int .i64 s6, .slice A ws.length c] 29) = W at *
  have k6 := ba.cell (i := 6) rfl
  go_wp2_with fail
  refine (HLI.out _ (HGS.out.ext hx) (HWS.out.ext hx)).mono ?_
  rintro e w1 ⟨⟨q, rfl⟩, x1⟩
  clear k6
  replace hx := Ext.trans hx x1
  replace ba := ba.ext x1
  clear x1
  cases q
  · go_wp2_with fail
    refine (HL.out _).mono ?_
    rintro e w9 ⟨rfl, x9⟩
    go_wp2_with fail
    go_ret
    exact ⟨rfl, Ext.trans hx x9⟩
  have k0 := ba.cell (i := 0) rfl
  have k1 := ba.cell (i := 1) rfl
  have k2 := ba.cell (i := 2) rfl
  have k3 := ba.cell (i := 3) rfl
  have k4 := ba.cell (i := 4) rfl
  have k5 := ba.cell (i := 5) rfl
  have k6 := ba.cell (i := 6) rfl
  go_wp2_with fail
  refine (HRW.out _ hx).mono ?_
  rintro e w2 ⟨vr, outs, rfl, hj, hm⟩
  clear k0 k1 k2 k3 k4 k5 k6
  have hr := hj.read
  replace hx := Ext.trans hx hj.ext
  replace ba := ba.ext hj.ext
  obtain ⟨Ar, cr, rfl⟩ := hj.form
  clear hj HRW
  by_cases hg : cgood gs ⟨s1, s2, s3, s4, s5, s6, ws⟩ = 0
  rotate_left
  · have hc : crows gs ⟨s1, s2, s3, s4, s5, s6, ws⟩ = ([], cgood gs ⟨s1, s2, s3, s4, s5, s6, ws⟩) := by unfold crows; rw [if_pos hg]
    rw [hc] at hm ⊢
    obtain rfl : outs = [] := by simpa using hm
    have hg0 : (((cgood gs ⟨s1, s2, s3, s4, s5, s6, ws⟩ : Nat) : Int) != 0) = true := by rw [bne_iff_ne]; omega
    clear hc hm hr hg
    simp only [List.length_nil]
    go_wp2_with fail
    refine (HL.out _).mono ?_
    rintro e w9 ⟨rfl, x9⟩
    go_wp2_with fail
    go_ret
    exact ⟨rfl, Ext.trans hx x9⟩
  have hc0 : (crows gs ⟨s1, s2, s3, s4, s5, s6, ws⟩).2 = 0 := by unfold crows; rw [if_neg (by omega)]
  rw [hc0]
  clear hc0
  have HFACT := Lib.hid (fun (i : Nat) (ky : List UInt8) (cs : List Cl) hr => row_facts (i := i) (ky := ky) (cs := cs) hg hr)
  have HCNT := Lib.hid (cnt_all hg)
  obtain ⟨-, -, -, hw8, -⟩ := good_parts hg
  dsimp only at hw8
  have HW8 := Lib.hid hw8
  clear hg hw8
  have HCNT2 : Hid (cntP ws (places gs.length (crows gs ⟨s1, s2, s3, s4, s5, s6, ws⟩).1) = ws.length) := HCNT
  have HFACT2 : Hid (∀ (i : Nat) (ky : List UInt8) (cs : List Cl), (crows gs ⟨s1, s2, s3, s4, s5, s6, ws⟩).1[i]? = some (ky, cs) → rgood gs ky cs = 0 ∧ cs.length = gs.length ∧ (∀ k0 c0, 0 < i → (crows gs ⟨s1, s2, s3, s4, s5, s6, ws⟩).1[i - 1]? = some (k0, c0) → Op.bytesLess k0 ky = true) ∧
    ∀ (g : Nat) (y : Grp) (x : Cl), gs[g]? = some y → cs[g]? = some x → (chas ky (g : Int) ws = false → x = Cl.nought) ∧ ∀ z ∈ ws, z.key = ky → z.group = (g : Int) → cseen y.2 x = (z.value, !z.gone)) := HFACT
  clear HCNT HFACT
  generalize (crows gs ⟨s1, s2, s3, s4, s5, s6, ws⟩).1 = R at *
  obtain ⟨n, hn⟩ : ∃ n, n = outs.length := ⟨_, rfl⟩
  have hR : R.length = n := by rw [← hm, List.length_map, hn]
  have hrows := hr.rows
  rw [← hn] at hrows ⊢
  obtain ⟨Ar', cr', hv', r1, r2, r3, r4⟩ := hrows
  injection hv' with e1 e2 e3
  subst e1 e3
  have HR4 := Lib.hid r4
  have HOWN := Lib.hid hr.own
  have HM := Lib.hid hm
  have HN := Lib.hid hn
  have HLE := Lib.hid (fun (i g : Nat) (hi : i < n) (hg : g ≤ gs.length) => cntP_le (ws := ws) (R := R) (i := i) (by omega) hg)
  rw [HCNT2.out] at HLE
  unfold maxLen at r2
  clear r3 r4 hr hm hn
  have BA := Lib.hid ba
  have HX := Lib.hid hx
  clear ba hx
  go_wp2_with fail
  go_loopw [7, 37] (fun c i wr => ∃ k : Nat, k ≤ n ∧ c = .int .i64 ((cntP ws (placesTo gs.length R k 0) : Nat) : Int) ∧ i = .int .i64 k ∧ Ext w2 wr) (fun _ i _ => n - (intOf i).toNat)
  case atStart => exact ⟨0, Nat.zero_le _, by rw [placesTo_zero]; rfl, rfl, Ext.refl _⟩
  case round =>
    obtain ⟨i, hi, rfl, rfl, h0⟩ := hrel
    by_cases hlt : i < n
    · obtain ⟨br, or, rfl, hbr, hcr⟩ := HR4.out (by omega)
      obtain ⟨⟨ky, cs, vx⟩, hg1⟩ : ∃ x, outs[i]? = some x := ⟨_, List.getElem?_eq_getElem (by rw [← HN.out]; omega)⟩
      have hRi : R[i]? = some (ky, cs) := by rw [← HM.out, List.getElem?_map, hg1]; rfl
      obtain ⟨f1, f2, f3, f4⟩ := HFACT2.out i ky cs hRi
      have HRG := Lib.hid f1
      have HLEN := Lib.hid f2
      have HCF := Lib.hid f4
      have HRI := Lib.hid hRi
      obtain ⟨u0, u1⟩ := rwC_get outs i _ hg1
      have p0 := (h0.cell (p := ⟨br, or + i * 2, none⟩) hbr).trans (hcr _ _ u0)
      have p1 := (h0.cell (p := ⟨br, or + i * 2 + 1, none⟩) hbr).trans (hcr _ _ u1)
      have hf := HOWN.out _ (List.mem_of_getElem? hg1)
      dsimp only at hf p0 p1
      obtain ⟨A1, c1, rfl⟩ : ∃ A c, vx = .slice A cs.length c := by obtain ⟨A, c, h, _⟩ := hf; exact ⟨A, c, h⟩
      have hprev : 0 < i → ∃ k0, w2.cell? ⟨br, or + (i - 1) * 2, none⟩ = some (strV k0) ∧ Op.bytesLess k0 ky = true := by
        intro hi0
        obtain ⟨⟨k0, c0, v0⟩, hgp⟩ : ∃ x, outs[i - 1]? = some x := ⟨_, List.getElem?_eq_getElem (by rw [← HN.out]; omega)⟩
        exact ⟨k0, hcr _ _ (rwC_get outs (i - 1) _ hgp).1, f3 k0 c0 hi0 (by rw [← HM.out, List.getElem?_map, hgp]; rfl)⟩
      have HF0 := Lib.hid (hf.ext h0)
      unfold strV at p0
      clear hg1 hRi f1 f2 f3 f4 u0 u1 hcr hf
      go_upto_region 10 with (fail)
      clear p0 p1
      have bt := Blk.new wr #[.string ⟨ky.toArray⟩, .slice A1 cs.length c1] 47
      have HF := Lib.hid (HF0.out.ext (ext_alloc wr (.cells #[.string ⟨ky.toArray⟩, .slice A1 cs.length c1] 47)))
      replace h0 := h0.trans (ext_alloc wr (.cells #[.string ⟨ky.toArray⟩, .slice A1 cs.length c1] 47))
      clear HF0
      generalize wr.heap.size = n9 at *
      generalize wr.alloc (.cells #[.string ⟨ky.toArray⟩, .slice A1 cs.length c1] 47) = W3 at *
      have B9 : Hid (Blk W3 n9 [strV ky, .slice A1 cs.length c1]) := Lib.hid bt
      clear bt
      -- the row may be, and stands behind the one ahead of it
      rcases Nat.eq_zero_or_pos i with hi0 | hi0
      · clear hprev
        refine wp_region_mono (by kernel_rfl) (by kernel_rfl) ?_
        refine tele_move rfl (.inl rfl) rfl (isV (.slice Ag gs.length cg)) (fun ρ w' h => h) ?_
        refine tele_val rfl (.agg #[strV ky, .slice A1 cs.length c1]) (fun _ _ _ => rfl) ?_ ?_
        · rintro ρ w' he ⟨h9, -⟩
          have e9 : ρ 9 = .pointer (some ⟨n9, 0, none⟩) := h9
          have c0 := (B9.out.ext he).cell (i := 0) rfl
          have c1 := (B9.out.ext he).cell (i := 1) rfl
          simp [execOp, evR, e9, c0, c1, go_sem]
        refine tele_call rfl rfl Try.func17 (by kernel_rfl) (isV (.int .i64 0)) (fun _ _ _ => rfl) ?_ ?_
        · rintro ρ w' he ⟨h42, h43, -⟩
          have e42 : ρ 42 = .slice Ag gs.length cg := h42
          have e43 : ρ 43 = .agg #[strV ky, .slice A1 cs.length c1] := h43
          simp only [evR, List.map_toArray, List.map_cons, List.map_nil, e42, e43]
          have hrg := rowGood_any (.slice Ag gs.length cg) gs ky (.slice A1 cs.length c1) cs w' (HGS.out.ext (HX.out.trans (h0.trans he))) (HF.out.ext he)
          rw [HRG.out] at hrg
          refine hrg.mono ?_
          rintro e w'' ⟨rfl, hx⟩
          exact ⟨_, rfl, hx, rfl⟩
        refine tele_val rfl (.bool false) (fun _ _ _ => rfl) ?_ ?_
        · rintro ρ w' he ⟨h44, -⟩
          have e44 : ρ 44 = .int .i64 0 := h44
          simp [execOp, evR, e44, go_sem]
        refine tele_move rfl (.inl rfl) rfl (isV (.bool false)) (fun ρ w' h => h) ?_
        refine tele_val rfl (.int .i64 ((i : Nat) : Int)) (fun ρ w' hk => by obtain ⟨_, hg, -⟩ := hk; have eg : ρ 46 = .bool false := hg; simp [wantedR, Region.wanted, asBoolR, eg]) ?_ ?_
        · rintro ρ w' he ⟨h8, hgd, -⟩
          have e8 : ρ 8 = .int .i64 ((i : Nat) : Int) := h8
          simp [execOp, evR, e8, go_sem]
        refine tele_val rfl (.bool false) (fun ρ w' hk => by obtain ⟨_, hg, -⟩ := hk; have eg : ρ 46 = .bool false := hg; simp [wantedR, Region.wanted, asBoolR, eg]) ?_ ?_
        · rintro ρ w' he ⟨h47, hgd, -⟩
          have e47 : ρ 47 = .int .i64 ((i : Nat) : Int) := h47
          simp [execOp, evR, e47, go_sem]
          omega
        refine tele_val rfl (.bool false) (fun ρ w' hk => by obtain ⟨_, hg, -⟩ := hk; have eg : ρ 46 = .bool false := hg; simp [wantedR, Region.wanted, asBoolR, eg]) ?_ ?_
        · rintro ρ w' he ⟨h48, hgd, -⟩
          have e48 : ρ 48 = .bool false := h48
          simp [execOp, evR, e48, go_sem]
        refine tele_pass rfl (fun ρ w' hk => by obtain ⟨_, hg, -⟩ := hk; have eg : ρ 49 = .bool false := hg; simp [wantedR, Region.wanted, asBoolR_bool, asBoolR_undef, eg]) ?_
        refine tele_pass rfl (fun ρ w' hk => by obtain ⟨_, hg, -⟩ := hk; have eg : ρ 49 = .bool false := hg; simp [wantedR, Region.wanted, asBoolR_bool, asBoolR_undef, eg]) ?_
        refine tele_pass rfl (fun ρ w' hk => by obtain ⟨_, hg, -⟩ := hk; have eg : ρ 49 = .bool false := hg; simp [wantedR, Region.wanted, asBoolR_bool, asBoolR_undef, eg]) ?_
        refine tele_pass rfl (fun ρ w' hk => by obtain ⟨_, _, hg, -⟩ := hk; have eg : ρ 49 = .bool false := hg; simp [wantedR, Region.wanted, asBoolR_bool, asBoolR_undef, eg]) ?_
        refine tele_pass rfl (fun ρ w' hk => by obtain ⟨_, hg, -⟩ := hk; have eg : ρ 49 = .bool false := hg; simp [wantedR, Region.wanted, asBoolR_bool, asBoolR_undef, eg]) ?_
        refine tele_pass rfl (fun ρ w' hk => by obtain ⟨_, hg, -⟩ := hk; have eg : ρ 49 = .bool false := hg; simp [wantedR, Region.wanted, asBoolR_bool, asBoolR_undef, eg]) ?_
        refine tele_pass rfl (fun ρ w' hk => by obtain ⟨_, hg, -⟩ := hk; have eg : ρ 49 = .bool false := hg; simp [wantedR, Region.wanted, asBoolR_bool, asBoolR_undef, eg]) ?_
        refine tele_pass rfl (fun ρ w' hk => by obtain ⟨_, hg, -⟩ := hk; have eg : ρ 49 = .bool false := hg; simp [wantedR, Region.wanted, asBoolR_bool, asBoolR_undef, eg]) ?_
        refine tele_pass rfl (fun ρ w' hk => by obtain ⟨_, _, hg, -⟩ := hk; have eg : ρ 49 = .bool false := hg; simp [wantedR, Region.wanted, asBoolR_bool, asBoolR_undef, eg]) ?_
        refine tele_val rfl (.bool false) (fun ρ w' hk => by obtain ⟨_, _, hg, -⟩ := hk; have eg : ρ 46 = .bool false := hg; simp [wantedR, Region.wanted, asBoolR, eg]) ?_ ?_
        · rintro ρ w' he ⟨h49, h58, hgd, -⟩
          have e49 : ρ 49 = .bool false := h49
          have e58 : ρ 58 = undef := h58
          simp [execOp, evR, e49, e58, go_sem]
        refine tele_val rfl (.bool false) (fun _ _ _ => rfl) ?_ ?_
        · rintro ρ w' he ⟨h46, h59, -⟩
          have e46 : ρ 46 = .bool false := h46
          have e59 : ρ 59 = .bool false := h59
          simp [execOp, evR, e46, e59, go_sem]
        refine tele_nil ?_
        rintro ρ w' hext ⟨f60, f59, f58, f57, f56, f55, f54, f53, f52, f51, f50, f49, f48, f47, f46, f45, f44, f43, f42, -⟩
        clear f42
        clear f43
        clear f44
        clear f45
        clear f46
        clear f47
        clear f48
        clear f49
        clear f50
        clear f51
        clear f52
        clear f53
        clear f54
        clear f55
        clear f56
        clear f57
        clear f58
        clear f59
        replace f60 : ρ 60 = .bool false := f60
        simp only [puts, Act.put, List.setIfInBounds_toArray, List.set_cons_zero, List.set_cons_succ]
        rw [f60]
        clear f60 hi0
        have HFW := Lib.hid (HF.out.ext hext)
        have B9W := Lib.hid (B9.out.ext hext)
        have HXW0 := Lib.hid (HX.out.trans (h0.trans hext))
        have BAW := Lib.hid (BA.out.ext (h0.trans hext))
        have hx2 := Lib.hid (h0.trans hext)
        clear HF B9 h0 hext
        generalize w' = W5 at *
        have B9 := B9W
        have z1 := B9.out.cell (i := 1) rfl
        clear B9W
        go_wp2_with fail
        clear z1
        go_loopw [7, 64] (fun c g wr => ∃ k : Nat, k ≤ cs.length ∧ c = .int .i64 ((cntP ws (placesTo gs.length R i k) : Nat) : Int) ∧ g = .int .i64 k ∧ Ext W5 wr) (fun _ g _ => cs.length - (intOf g).toNat)
        case atStart => exact ⟨0, Nat.zero_le _, rfl, rfl, Ext.refl _⟩
        case round =>
          obtain ⟨g, hgl, rfl, rfl, h5⟩ := hrel
          by_cases hgt : g < cs.length
          · have hgt' : g < gs.length := by rw [← HLEN.out]; exact hgt
            obtain ⟨bg, og, rfl, hbg, hcg⟩ := G4.out (by omega)
            obtain ⟨gnm, pp, hgg, -, q1, -, -⟩ := hcg g hgt'
            have g1 := q1
            obtain ⟨A1', c1', hv1, t1, t2, t3, t4⟩ := HFW.out
            injection hv1 with e1 e2 e3
            subst e1 e3
            obtain ⟨bc, oc, rfl, hbc, hcc⟩ := t4 (by omega)
            obtain ⟨⟨sn, ss, va, vb, gone, value, da, db⟩, hgc⟩ : ∃ x, cs[g]? = some x := ⟨_, List.getElem?_eq_getElem (by omega)⟩
            have hq := clsC_get cs g _ hgc
            have c0 := hcc _ _ (hq 0 (by omega))
            have c1_ := hcc _ _ (hq 1 (by omega))
            have c2 := hcc _ _ (hq 2 (by omega))
            have c3 := hcc _ _ (hq 3 (by omega))
            have c4 := hcc _ _ (hq 4 (by omega))
            have c5 := hcc _ _ (hq 5 (by omega))
            have c6 := hcc _ _ (hq 6 (by omega))
            have c7 := hcc _ _ (hq 7 (by omega))
            obtain ⟨hnone, hwit⟩ := HCF.out g (gnm, pp) _ hgg hgc
            dsimp only at hwit
            have HNONE := Lib.hid hnone
            have HWIT := Lib.hid hwit
            obtain ⟨⟨sv, ok⟩, hsv⟩ : ∃ x, cseen pp ⟨sn, ss, va, vb, gone, value, da, db⟩ = x := ⟨_, rfl⟩
            have HSV := Lib.hid hsv
            rw [hsv] at HWIT
            have HXW := HXW0
            unfold maxLen at t2
            clear hcg hgg q1 t3 t4 hcc hgc hq hnone hwit hsv
            go_wp2_with fail
            refine wp_region_mono (by kernel_rfl) (by kernel_rfl) ?_
            refine tele_move rfl (.inl rfl) rfl (isV (.slice (some ⟨bg, og, none⟩) gs.length cg)) (fun ρ w' h => h) ?_
            refine tele_move rfl (.inl rfl) rfl (isV (.int .i64 ((g : Nat) : Int))) (fun ρ w' h => h) ?_
            refine tele_val rfl (.pointer (some ⟨bg, og + g * 2, none⟩)) (fun _ _ _ => rfl) ?_ ?_
            · rintro ρ w' he ⟨h68, h69, -⟩
              have e68 : ρ 68 = .slice (some ⟨bg, og, none⟩) gs.length cg := h68
              have e69 : ρ 69 = .int .i64 ((g : Nat) : Int) := h69
              exact index_at 2 rfl Try.underlying22 e68 e69 (by omega) (by kernel_rfl)
            refine tele_val rfl (.pointer (some ⟨bg, og + g * 2 + 1, none⟩)) (fun _ _ _ => rfl) ?_ ?_
            · rintro ρ w' he ⟨h70, -⟩
              have e70 : ρ 70 = .pointer (some ⟨bg, og + g * 2, none⟩) := h70
              simp [execOp, evR, e70, go_sem]
            refine tele_val rfl (.int .i64 pp) (fun _ _ _ => rfl) ?_ ?_
            · rintro ρ w' he ⟨h71, -⟩
              have e71 : ρ 71 = .pointer (some ⟨bg, og + g * 2 + 1, none⟩) := h71
              have c0 := ((HXW.out.trans (h5.trans he)).cell (p := ⟨bg, og + g * 2 + 1, none⟩) hbg).trans g1
              simp [execOp, evR, e71, c0, go_sem]
            refine tele_val rfl (.pointer (some ⟨n9, 1, none⟩)) (fun _ _ _ => rfl) ?_ ?_
            · rintro ρ w' he ⟨h9, -⟩
              have e9 : ρ 9 = .pointer (some ⟨n9, 0, none⟩) := h9
              simp [execOp, evR, e9, go_sem]
            refine tele_val rfl (.slice (some ⟨bc, oc, none⟩) cs.length c1) (fun _ _ _ => rfl) ?_ ?_
            · rintro ρ w' he ⟨h73, -⟩
              have e73 : ρ 73 = .pointer (some ⟨n9, 1, none⟩) := h73
              have c0 := (B9.out.ext (h5.trans he)).cell (i := 1) rfl
              simp [execOp, evR, e73, c0, go_sem]
            refine tele_move rfl (.inl rfl) rfl (isV (.int .i64 ((g : Nat) : Int))) (fun ρ w' h => h) ?_
            refine tele_val rfl (.pointer (some ⟨bc, oc + g * 8, none⟩)) (fun _ _ _ => rfl) ?_ ?_
            · rintro ρ w' he ⟨h74, h75, -⟩
              have e74 : ρ 74 = .slice (some ⟨bc, oc, none⟩) cs.length c1 := h74
              have e75 : ρ 75 = .int .i64 ((g : Nat) : Int) := h75
              exact index_at 8 rfl Try.underlying45 e74 e75 (by omega) (by kernel_rfl)
            refine tele_val rfl (.agg #[.int .i64 sn, .int .i64 ss, .int .i64 va, .int .i64 vb, .bool gone, strV value, .int .i64 da, .int .i64 db]) (fun _ _ _ => rfl) ?_ ?_
            · rintro ρ w' he ⟨h76, -⟩
              have e76 : ρ 76 = .pointer (some ⟨bc, oc + g * 8, none⟩) := h76
              have c0 := ((h5.trans he).cell (p := ⟨bc, oc + g * 8, none⟩) hbc).trans c0
              have c1 := ((h5.trans he).cell (p := ⟨bc, oc + g * 8 + 1, none⟩) hbc).trans c1_
              have c2 := ((h5.trans he).cell (p := ⟨bc, oc + g * 8 + 2, none⟩) hbc).trans c2
              have c3 := ((h5.trans he).cell (p := ⟨bc, oc + g * 8 + 3, none⟩) hbc).trans c3
              have c4 := ((h5.trans he).cell (p := ⟨bc, oc + g * 8 + 4, none⟩) hbc).trans c4
              have c5 := ((h5.trans he).cell (p := ⟨bc, oc + g * 8 + 5, none⟩) hbc).trans c5
              have c6 := ((h5.trans he).cell (p := ⟨bc, oc + g * 8 + 6, none⟩) hbc).trans c6
              have c7 := ((h5.trans he).cell (p := ⟨bc, oc + g * 8 + 7, none⟩) hbc).trans c7
              simp [execOp, evR, e76, c0, c1, c2, c3, c4, c5, c6, c7, go_sem]
            refine tele_call rfl rfl Try.func18 (by kernel_rfl) (isV (.tuple #[strV sv, .bool ok])) (fun _ _ _ => rfl) ?_ ?_
            · rintro ρ w' he ⟨h72, h77, -⟩
              have e72 : ρ 72 = .int .i64 pp := h72
              have e77 : ρ 77 = .agg #[.int .i64 sn, .int .i64 ss, .int .i64 va, .int .i64 vb, .bool gone, strV value, .int .i64 da, .int .i64 db] := h77
              simp only [evR, List.map_toArray, List.map_cons, List.map_nil, e72, e77]
              have hse := cellSeen_any pp sn ss va vb gone value da db w'
              rw [HSV.out] at hse
              refine hse.mono ?_
              rintro e w'' ⟨rfl, hx⟩
              exact ⟨_, rfl, hx, rfl⟩
            refine tele_move rfl (.inl rfl) rfl (isV (.tuple #[strV sv, .bool ok])) (fun ρ w' h => h) ?_
            refine tele_val rfl (strV sv) (fun _ _ _ => rfl) ?_ ?_
            · rintro ρ w' he ⟨h67, -⟩
              have e67 : ρ 67 = .tuple #[strV sv, .bool ok] := h67
              simp [execOp, evR, e67, go_sem]
            refine tele_val rfl (.bool ok) (fun _ _ _ => rfl) ?_ ?_
            · rintro ρ w' he ⟨h67, -⟩
              have e67 : ρ 67 = .tuple #[strV sv, .bool ok] := h67
              simp [execOp, evR, e67, go_sem]
            refine tele_move rfl (.inr rfl) rfl (isV (strV sv)) (fun ρ w' h => h) ?_
            refine tele_move rfl (.inr rfl) rfl (isV (.bool ok)) (fun ρ w' h => h) ?_
            refine tele_nil ?_
            rintro ρ w' hext ⟨f12, f11, f80, f79, f67, f78, f77, f76, f75, f74, f73, f72, f71, f70, f69, f68, -⟩
            clear f68
            clear f69
            clear f70
            clear f71
            clear f72
            clear f73
            clear f74
            clear f75
            clear f76
            clear f77
            clear f78
            clear f67
            clear f79
            clear f80
            replace f11 : ρ 11 = strV sv := f11
            replace f12 : ρ 12 = .bool ok := f12
            simp only [puts, Act.put, List.setIfInBounds_toArray, List.set_cons_zero, List.set_cons_succ]
            rw [f11, f12]
            clear f11 f12
            have h6 := h5.trans hext
            have k0 := (BAW.out.ext h6).cell (i := 0) rfl
            have k1 := (BAW.out.ext h6).cell (i := 1) rfl
            have k2 := (BAW.out.ext h6).cell (i := 2) rfl
            have k3 := (BAW.out.ext h6).cell (i := 3) rfl
            have k4 := (BAW.out.ext h6).cell (i := 4) rfl
            have k5 := (BAW.out.ext h6).cell (i := 5) rfl
            have k6 := (BAW.out.ext h6).cell (i := 6) rfl
            have y0 := (B9.out.ext h6).cell (i := 0) rfl
            unfold strV at y0
            clear hext h5
            generalize w' = W6 at *
            go_wp2_with fail
            have hhs := HHS.out ky g _ (HXW0.out.trans h6)
            unfold strV at hhs
            refine hhs.mono ?_
            rintro e W7 ⟨rfl, x7⟩
            clear k0 k1 k2 k3 k4 k5 k6 y0 hhs
            have h7 := h6.trans x7
            clear x7 h6
            obtain ⟨qh, hqh⟩ : ∃ q, chas ky (g : Int) ws = q := ⟨_, rfl⟩
            have HST : Hid (cntP ws (placesTo gs.length R i (g + 1)) = cntP ws (placesTo gs.length R i g) + if qh = true then 1 else 0) := Lib.hid (by rw [placesTo_step HRI.out, cntP_snoc]; dsimp only; rw [hqh])
            have hle := HLE.out i g hlt (by omega)
            have hw8 := HW8.out
            rw [hqh] at HNONE ⊢
            clear hqh
            cases qh
            · -- no write: nothing
              have hno := HNONE.out rfl
              unfold Cl.nought at hno
              injection hno with e0 e1 e2 e3 e4 e5 e6 e7
              subst e0 e1 e2 e3 e4 e5 e6 e7
              have hee := fun w => eqCell Cl.nought Cl.nought w
              unfold clV strV Cl.nought at hee
              dsimp only at hee
              have hef : ∀ w, (Op.equalIn 10000 54 (.agg #[.int .i64 0, .int .i64 0, .int .i64 0, .int .i64 0, .bool false, .string ⟨#[]⟩, .int .i64 0, .int .i64 0]) (.agg #[.int .i64 0, .int .i64 0, .int .i64 0, .int .i64 0, .bool false, .string ⟨#[]⟩, .int .i64 0, .int .i64 0])).run Try.prog w = .ok true w := fun w => (hee w).trans (by simp)
              replace c0 := (h7.cell (p := ⟨bc, oc + g * 8, none⟩) hbc).trans c0
              replace c1_ := (h7.cell (p := ⟨bc, oc + g * 8 + 1, none⟩) hbc).trans c1_
              replace c2 := (h7.cell (p := ⟨bc, oc + g * 8 + 2, none⟩) hbc).trans c2
              replace c3 := (h7.cell (p := ⟨bc, oc + g * 8 + 3, none⟩) hbc).trans c3
              replace c4 := (h7.cell (p := ⟨bc, oc + g * 8 + 4, none⟩) hbc).trans c4
              replace c5 := (h7.cell (p := ⟨bc, oc + g * 8 + 5, none⟩) hbc).trans c5
              replace c6 := (h7.cell (p := ⟨bc, oc + g * 8 + 6, none⟩) hbc).trans c6
              replace c7 := (h7.cell (p := ⟨bc, oc + g * 8 + 7, none⟩) hbc).trans c7
              have z1 := (B9.out.ext h7).cell (i := 1) rfl
              unfold strV at c5
              clear hee HNONE HWIT
              go_wp2_with fail
              clear c0 c1_ c2 c3 c4 c5 c6 c7 z1 hef
              go_roundw
              case rel => exact ⟨g + 1, by omega, by rw [HST.out]; rfl, by go_num, h7⟩
              case measure => simp [intOf]; omega
            · -- its write is seen
              have hwrap : IntKind.i64.wrap (((cntP ws (placesTo gs.length R i g) : Nat) : Int) + 1) = ((cntP ws (placesTo gs.length R i g) + 1 : Nat) : Int) := by rw [IntWalk.i64_in _ (by omega)]; omega
              have HST2 : Hid (cntP ws (placesTo gs.length R i (g + 1)) = cntP ws (placesTo gs.length R i g) + 1) := Lib.hid (by rw [HST.out]; rfl)
              clear c0 c1_ c2 c3 c4 c5 c6 c7 HNONE HST
              generalize cntP ws (placesTo gs.length R i g) = cn at *
              have k6 := (BAW.out.ext h7).cell (i := 6) rfl
              go_wp2_with fail
              clear k6 hwrap
              go_loopw [99] (fun a wr => ∃ k : Nat, k ≤ ws.length ∧ a = .int .i64 k ∧ Ext W5 wr) (fun a _ => ws.length - (intOf a).toNat)
              case atStart => exact ⟨0, Nat.zero_le _, rfl, h7⟩
              case round =>
                obtain ⟨k, hk, rfl, h8⟩ := hrel
                clear h7
                by_cases hkt : k < ws.length
                · obtain ⟨bw, ow, rfl, hbw, hcw⟩ := H4.out (by omega)
                  obtain ⟨wk, wg, d, z, hgw, p0, p1, p2, p3, -, -, -⟩ := hcw k hkt
                  have hsw := HWIT.out _ (List.mem_of_getElem? hgw)
                  dsimp only at hsw
                  have HSW := Lib.hid hsw
                  replace p0 := ((HXW0.out.trans h8).cell (p := ⟨bw, ow + k * 4, none⟩) hbw).trans p0
                  replace p1 := ((HXW0.out.trans h8).cell (p := ⟨bw, ow + k * 4 + 1, none⟩) hbw).trans p1
                  replace p2 := ((HXW0.out.trans h8).cell (p := ⟨bw, ow + k * 4 + 2, none⟩) hbw).trans p2
                  replace p3 := ((HXW0.out.trans h8).cell (p := ⟨bw, ow + k * 4 + 3, none⟩) hbw).trans p3
                  unfold strV at p0 p3
                  clear hgw hcw hsw
                  go_upto_region 23 with (fail)
                  clear p0 p1 p2 p3
                  have bt := Blk.new wr #[.string ⟨wk.toArray⟩, .int .i64 wg, .bool d, .string ⟨z.toArray⟩] 31
                  replace h8 := h8.trans (ext_alloc wr (.cells #[.string ⟨wk.toArray⟩, .int .i64 wg, .bool d, .string ⟨z.toArray⟩] 31))
                  generalize wr.heap.size = n14 at *
                  generalize wr.alloc (.cells #[.string ⟨wk.toArray⟩, .int .i64 wg, .bool d, .string ⟨z.toArray⟩] 31) = W8 at *
                  have BTW : Hid (Blk W8 n14 [strV wk, .int .i64 wg, .bool d, strV z]) := Lib.hid bt
                  have B9W : Hid (Blk W8 n9 [strV ky, .slice (some ⟨bc, oc, none⟩) cs.length c1]) := Lib.hid (B9.out.ext h8)
                  clear bt
                  obtain ⟨q1, Q107⟩ : ∃ q : Bool, q = (wk == ky) := ⟨_, rfl⟩
                  obtain ⟨q2, Q112⟩ : ∃ q : Bool, q = (wg == (g : Int)) := ⟨_, rfl⟩
                  obtain ⟨q3, Q118⟩ : ∃ q : Bool, q = (ok == d) := ⟨_, rfl⟩
                  obtain ⟨q4, Q123⟩ : ∃ q : Bool, q = (!(sv == z)) := ⟨_, rfl⟩
                  refine wp_region_seq (by kernel_rfl) ?_
                  refine tele_val rfl (.pointer (some ⟨n14, 0, none⟩)) (fun _ _ _ => rfl) ?_ ?_
                  · rintro ρ w' he ⟨h14, -⟩
                    have e14 : ρ 14 = .pointer (some ⟨n14, 0, none⟩) := h14
                    simp [execOp, evR, e14, go_sem]
                  refine tele_val rfl (strV wk) (fun _ _ _ => rfl) ?_ ?_
                  · rintro ρ w' he ⟨h103, -⟩
                    have e103 : ρ 103 = .pointer (some ⟨n14, 0, none⟩) := h103
                    have c0 := (BTW.out.ext he).cell (i := 0) rfl
                    simp [execOp, evR, e103, c0, go_sem]
                  refine tele_val rfl (.pointer (some ⟨n9, 0, none⟩)) (fun _ _ _ => rfl) ?_ ?_
                  · rintro ρ w' he ⟨h9, -⟩
                    have e9 : ρ 9 = .pointer (some ⟨n9, 0, none⟩) := h9
                    simp [execOp, evR, e9, go_sem]
                  refine tele_val rfl (strV ky) (fun _ _ _ => rfl) ?_ ?_
                  · rintro ρ w' he ⟨h105, -⟩
                    have e105 : ρ 105 = .pointer (some ⟨n9, 0, none⟩) := h105
                    have c0 := (B9W.out.ext he).cell (i := 0) rfl
                    simp [execOp, evR, e105, c0, go_sem]
                  refine tele_val rfl (.bool q1) (fun _ _ _ => rfl) ?_ ?_
                  · rintro ρ w' he ⟨h104, h106, -⟩
                    have e104 : ρ 104 = strV wk := h104
                    have e106 : ρ 106 = strV ky := h106
                    exact (exec_eql_str rfl e104 e106).trans (by rw [Q107])
                  refine tele_move rfl (.inl rfl) rfl (isV (.bool q1)) (fun ρ w' h => h) ?_
                  refine tele_gval rfl (q1) (.pointer (some ⟨n14, 1, none⟩)) (fun ρ w' hk => by obtain ⟨_, hg, -⟩ := hk; have eg : ρ 108 = .bool q1 := hg; cases hq : (q1) <;> simp [wantedR, Region.wanted, asBoolR_bool, asBoolR_undef, eg, ifV, hq]) ?_ ?_
                  · rintro ρ w' he ⟨h14, hgd, -⟩ hG
                    have e14 : ρ 14 = .pointer (some ⟨n14, 0, none⟩) := h14
                    simp [execOp, evR, e14, go_sem]
                  refine tele_gval rfl (q1) (.int .i64 wg) (fun ρ w' hk => by obtain ⟨_, hg, -⟩ := hk; have eg : ρ 108 = .bool q1 := hg; cases hq : (q1) <;> simp [wantedR, Region.wanted, asBoolR_bool, asBoolR_undef, eg, ifV, hq]) ?_ ?_
                  · rintro ρ w' he ⟨h109, hgd, -⟩ hG
                    have e109 : ρ 109 = .pointer (some ⟨n14, 1, none⟩) := (show ρ 109 = ifV (q1) (.pointer (some ⟨n14, 1, none⟩)) from h109).trans (ifV_true (by first | exact hG | simp_all))
                    have c0 := (BTW.out.ext he).cell (i := 1) rfl
                    simp [execOp, evR, e109, c0, go_sem]
                  refine tele_gval rfl (q1) (.int .i64 ((g : Nat) : Int)) (fun ρ w' hk => by obtain ⟨_, hg, -⟩ := hk; have eg : ρ 108 = .bool q1 := hg; cases hq : (q1) <;> simp [wantedR, Region.wanted, asBoolR_bool, asBoolR_undef, eg, ifV, hq]) ?_ ?_
                  · rintro ρ w' he ⟨h10, hgd, -⟩ hG
                    have e10 : ρ 10 = .int .i64 ((g : Nat) : Int) := h10
                    simp [execOp, evR, e10, go_sem]
                  refine tele_gval rfl (q1) (.bool q2) (fun ρ w' hk => by obtain ⟨_, _, hg, -⟩ := hk; have eg : ρ 108 = .bool q1 := hg; cases hq : (q1) <;> simp [wantedR, Region.wanted, asBoolR_bool, asBoolR_undef, eg, ifV, hq]) ?_ ?_
                  · rintro ρ w' he ⟨h110, h111, hgd, -⟩ hG
                    have e110 : ρ 110 = .int .i64 wg := (show ρ 110 = ifV (q1) (.int .i64 wg) from h110).trans (ifV_true (by first | exact hG | simp_all))
                    have e111 : ρ 111 = .int .i64 ((g : Nat) : Int) := (show ρ 111 = ifV (q1) (.int .i64 ((g : Nat) : Int)) from h111).trans (ifV_true (by first | exact hG | simp_all))
                    rw [Q112]
                    simp [execOp, evR, e110, e111, go_sem]
                  refine tele_val rfl (.bool (q1 && q2)) (fun _ _ _ => rfl) ?_ ?_
                  · rintro ρ w' he ⟨h108, h112, -⟩
                    have e108 : ρ 108 = .bool q1 := h108
                    have e112 : ρ 112 = ifV (q1) (.bool q2) := h112
                    cases hc : (q1) <;> simp [execOp, evR, e108, e112, ifV, hc, go_sem]
                  refine tele_move rfl (.inl rfl) rfl (isV (.bool (q1 && q2))) (fun ρ w' h => h) ?_
                  refine tele_gval rfl ((q1 && q2)) (.bool ok) (fun ρ w' hk => by obtain ⟨_, hg, -⟩ := hk; have eg : ρ 114 = .bool (q1 && q2) := hg; cases hq : ((q1 && q2)) <;> simp [wantedR, Region.wanted, asBoolR_bool, asBoolR_undef, eg, ifV, hq]) ?_ ?_
                  · rintro ρ w' he ⟨h12, hgd, -⟩ hG
                    have e12 : ρ 12 = .bool ok := h12
                    simp [execOp, evR, e12, go_sem]
                  refine tele_gval rfl ((q1 && q2)) (.pointer (some ⟨n14, 2, none⟩)) (fun ρ w' hk => by obtain ⟨_, hg, -⟩ := hk; have eg : ρ 114 = .bool (q1 && q2) := hg; cases hq : ((q1 && q2)) <;> simp [wantedR, Region.wanted, asBoolR_bool, asBoolR_undef, eg, ifV, hq]) ?_ ?_
                  · rintro ρ w' he ⟨h14, hgd, -⟩ hG
                    have e14 : ρ 14 = .pointer (some ⟨n14, 0, none⟩) := h14
                    simp [execOp, evR, e14, go_sem]
                  refine tele_gval rfl ((q1 && q2)) (.bool d) (fun ρ w' hk => by obtain ⟨_, hg, -⟩ := hk; have eg : ρ 114 = .bool (q1 && q2) := hg; cases hq : ((q1 && q2)) <;> simp [wantedR, Region.wanted, asBoolR_bool, asBoolR_undef, eg, ifV, hq]) ?_ ?_
                  · rintro ρ w' he ⟨h116, hgd, -⟩ hG
                    have e116 : ρ 116 = .pointer (some ⟨n14, 2, none⟩) := (show ρ 116 = ifV ((q1 && q2)) (.pointer (some ⟨n14, 2, none⟩)) from h116).trans (ifV_true (by first | exact hG | simp_all))
                    have c0 := (BTW.out.ext he).cell (i := 2) rfl
                    simp [execOp, evR, e116, c0, go_sem]
                  refine tele_gval rfl ((q1 && q2)) (.bool q3) (fun ρ w' hk => by obtain ⟨_, _, hg, -⟩ := hk; have eg : ρ 114 = .bool (q1 && q2) := hg; cases hq : ((q1 && q2)) <;> simp [wantedR, Region.wanted, asBoolR_bool, asBoolR_undef, eg, ifV, hq]) ?_ ?_
                  · rintro ρ w' he ⟨h115, h117, hgd, -⟩ hG
                    have e115 : ρ 115 = .bool ok := (show ρ 115 = ifV ((q1 && q2)) (.bool ok) from h115).trans (ifV_true (by first | exact hG | simp_all))
                    have e117 : ρ 117 = .bool d := (show ρ 117 = ifV ((q1 && q2)) (.bool d) from h117).trans (ifV_true (by first | exact hG | simp_all))
                    rw [Q118]
                    simp [execOp, evR, e115, e117, go_sem]
                  refine tele_gval rfl ((q1 && q2)) (.bool q3) (fun ρ w' hk => by obtain ⟨_, hg, -⟩ := hk; have eg : ρ 114 = .bool (q1 && q2) := hg; cases hq : ((q1 && q2)) <;> simp [wantedR, Region.wanted, asBoolR_bool, asBoolR_undef, eg, ifV, hq]) ?_ ?_
                  · rintro ρ w' he ⟨h118, hgd, -⟩ hG
                    have e118 : ρ 118 = .bool q3 := (show ρ 118 = ifV ((q1 && q2)) (.bool q3) from h118).trans (ifV_true (by first | exact hG | simp_all))
                    simp [execOp, evR, e118, go_sem]
                  refine tele_gval rfl (((q1 && q2) && !q3)) (strV sv) (fun ρ w' hk => by obtain ⟨_, hg, -⟩ := hk; have eg : ρ 119 = ifV ((q1 && q2)) (.bool q3) := hg; cases h0 : ((q1 && q2)) <;> cases hq : (q3) <;> simp [wantedR, Region.wanted, asBoolR_bool, asBoolR_undef, eg, ifV, hq, h0]) ?_ ?_
                  · rintro ρ w' he ⟨h11, hgd, -⟩ hG
                    have e11 : ρ 11 = strV sv := h11
                    simp [execOp, evR, e11, go_sem]
                  refine tele_gval rfl (((q1 && q2) && !q3)) (.pointer (some ⟨n14, 3, none⟩)) (fun ρ w' hk => by obtain ⟨_, hg, -⟩ := hk; have eg : ρ 119 = ifV ((q1 && q2)) (.bool q3) := hg; cases h0 : ((q1 && q2)) <;> cases hq : (q3) <;> simp [wantedR, Region.wanted, asBoolR_bool, asBoolR_undef, eg, ifV, hq, h0]) ?_ ?_
                  · rintro ρ w' he ⟨h14, hgd, -⟩ hG
                    have e14 : ρ 14 = .pointer (some ⟨n14, 0, none⟩) := h14
                    simp [execOp, evR, e14, go_sem]
                  refine tele_gval rfl (((q1 && q2) && !q3)) (strV z) (fun ρ w' hk => by obtain ⟨_, hg, -⟩ := hk; have eg : ρ 119 = ifV ((q1 && q2)) (.bool q3) := hg; cases h0 : ((q1 && q2)) <;> cases hq : (q3) <;> simp [wantedR, Region.wanted, asBoolR_bool, asBoolR_undef, eg, ifV, hq, h0]) ?_ ?_
                  · rintro ρ w' he ⟨h121, hgd, -⟩ hG
                    have e121 : ρ 121 = .pointer (some ⟨n14, 3, none⟩) := (show ρ 121 = ifV (((q1 && q2) && !q3)) (.pointer (some ⟨n14, 3, none⟩)) from h121).trans (ifV_true (by first | exact hG | simp_all))
                    have c0 := (BTW.out.ext he).cell (i := 3) rfl
                    simp [execOp, evR, e121, c0, go_sem]
                  refine tele_gval rfl (((q1 && q2) && !q3)) (.bool q4) (fun ρ w' hk => by obtain ⟨_, _, hg, -⟩ := hk; have eg : ρ 119 = ifV ((q1 && q2)) (.bool q3) := hg; cases h0 : ((q1 && q2)) <;> cases hq : (q3) <;> simp [wantedR, Region.wanted, asBoolR_bool, asBoolR_undef, eg, ifV, hq, h0]) ?_ ?_
                  · rintro ρ w' he ⟨h120, h122, hgd, -⟩ hG
                    have e120 : ρ 120 = strV sv := (show ρ 120 = ifV (((q1 && q2) && !q3)) (strV sv) from h120).trans (ifV_true (by first | exact hG | simp_all))
                    have e122 : ρ 122 = strV z := (show ρ 122 = ifV (((q1 && q2) && !q3)) (strV z) from h122).trans (ifV_true (by first | exact hG | simp_all))
                    exact (exec_neq_str rfl e120 e122).trans (by rw [Q123])
                  refine tele_gval rfl ((q1 && q2)) (.bool (q3 || q4)) (fun ρ w' hk => by obtain ⟨_, _, hg, -⟩ := hk; have eg : ρ 114 = .bool (q1 && q2) := hg; cases hq : ((q1 && q2)) <;> simp [wantedR, Region.wanted, asBoolR_bool, asBoolR_undef, eg, ifV, hq]) ?_ ?_
                  · rintro ρ w' he ⟨h119, h123, hgd, -⟩ hG
                    have e119 : ρ 119 = .bool q3 := (show ρ 119 = ifV ((q1 && q2)) (.bool q3) from h119).trans (ifV_true (by first | exact hG | simp_all))
                    have e123 : ρ 123 = ifV (((q1 && q2) && !q3)) (.bool q4) := h123
                    cases hc : (q3) <;> simp [execOp, evR, e119, e123, ifV, hc, hG, go_sem]
                  refine tele_val rfl (.bool ((q1 && q2) && (q3 || q4))) (fun _ _ _ => rfl) ?_ ?_
                  · rintro ρ w' he ⟨h114, h124, -⟩
                    have e114 : ρ 114 = .bool (q1 && q2) := h114
                    have e124 : ρ 124 = ifV ((q1 && q2)) (.bool (q3 || q4)) := h124
                    cases hc : ((q1 && q2)) <;> simp [execOp, evR, e114, e124, ifV, hc, go_sem]
                  refine tele_nil ?_
                  rintro ρ w' hext ⟨f125, f124, f123, f122, f121, f120, f119, f118, f117, f116, f115, f114, f113, f112, f111, f110, f109, f108, f107, f106, f105, f104, f103, -⟩
                  clear f103
                  clear f104
                  clear f105
                  clear f106
                  clear f107
                  clear f108
                  clear f109
                  clear f110
                  clear f111
                  clear f112
                  clear f113
                  clear f114
                  clear f115
                  clear f116
                  clear f117
                  clear f118
                  clear f119
                  clear f120
                  clear f121
                  clear f122
                  clear f123
                  clear f124
                  replace f125 : ρ 125 = .bool ((q1 && q2) && (q3 || q4)) := f125
                  simp only [puts, Act.put, List.setIfInBounds_toArray, List.set_cons_zero, List.set_cons_succ]
                  have hok : (((q1 && q2) && (q3 || q4))) = false := by
                    rw [Q107, Q112, Q118, Q123]
                    by_cases e1 : wk = ky
                    · by_cases e2 : wg = (g : Int)
                      · have := HSW.out e1 e2
                        injection this with e3 e4
                        subst e3 e4
                        cases d <;> simp
                      · simp [e2]
                    · simp [e1]
                  rw [f125, hok]
                  clear f125 hok Q107 Q112 Q118 Q123 BTW B9W
                  go_wp2_with fail
                  go_roundw
                  case rel => exact ⟨k + 1, by omega, by go_num, Ext.trans h8 hext⟩
                  case measure => simp [intOf]; omega
                · go_wp2_with fail
                  go_roundw
                  case rel => exact ⟨g + 1, by omega, by rw [HST2.out]; simp, by go_num, h8⟩
                  case measure => simp [intOf]; omega
          · obtain rfl : g = cs.length := by omega
            have HST : Hid (cntP ws (placesTo gs.length R i cs.length) = cntP ws (placesTo gs.length R (i + 1) 0)) := Lib.hid (by rw [HLEN.out, placesTo_row HRI.out, placesTo_zero])
            rw [HST.out]
            go_wp2_with fail
            go_roundw
            case rel => exact ⟨i + 1, by omega, rfl, by go_num, hx2.out.trans h5⟩
            case measure => simp [intOf]; omega
      · obtain ⟨k0, q0, hless⟩ := hprev hi0
        clear hprev
        refine wp_region_mono (by kernel_rfl) (by kernel_rfl) ?_
        refine tele_move rfl (.inl rfl) rfl (isV (.slice Ag gs.length cg)) (fun ρ w' h => h) ?_
        refine tele_val rfl (.agg #[strV ky, .slice A1 cs.length c1]) (fun _ _ _ => rfl) ?_ ?_
        · rintro ρ w' he ⟨h9, -⟩
          have e9 : ρ 9 = .pointer (some ⟨n9, 0, none⟩) := h9
          have c0 := (B9.out.ext he).cell (i := 0) rfl
          have c1 := (B9.out.ext he).cell (i := 1) rfl
          simp [execOp, evR, e9, c0, c1, go_sem]
        refine tele_call rfl rfl Try.func17 (by kernel_rfl) (isV (.int .i64 0)) (fun _ _ _ => rfl) ?_ ?_
        · rintro ρ w' he ⟨h42, h43, -⟩
          have e42 : ρ 42 = .slice Ag gs.length cg := h42
          have e43 : ρ 43 = .agg #[strV ky, .slice A1 cs.length c1] := h43
          simp only [evR, List.map_toArray, List.map_cons, List.map_nil, e42, e43]
          have hrg := rowGood_any (.slice Ag gs.length cg) gs ky (.slice A1 cs.length c1) cs w' (HGS.out.ext (HX.out.trans (h0.trans he))) (HF.out.ext he)
          rw [HRG.out] at hrg
          refine hrg.mono ?_
          rintro e w'' ⟨rfl, hx⟩
          exact ⟨_, rfl, hx, rfl⟩
        refine tele_val rfl (.bool false) (fun _ _ _ => rfl) ?_ ?_
        · rintro ρ w' he ⟨h44, -⟩
          have e44 : ρ 44 = .int .i64 0 := h44
          simp [execOp, evR, e44, go_sem]
        refine tele_move rfl (.inl rfl) rfl (isV (.bool false)) (fun ρ w' h => h) ?_
        refine tele_val rfl (.int .i64 ((i : Nat) : Int)) (fun ρ w' hk => by obtain ⟨_, hg, -⟩ := hk; have eg : ρ 46 = .bool false := hg; simp [wantedR, Region.wanted, asBoolR, eg]) ?_ ?_
        · rintro ρ w' he ⟨h8, hgd, -⟩
          have e8 : ρ 8 = .int .i64 ((i : Nat) : Int) := h8
          simp [execOp, evR, e8, go_sem]
        refine tele_val rfl (.bool true) (fun ρ w' hk => by obtain ⟨_, hg, -⟩ := hk; have eg : ρ 46 = .bool false := hg; simp [wantedR, Region.wanted, asBoolR, eg]) ?_ ?_
        · rintro ρ w' he ⟨h47, hgd, -⟩
          have e47 : ρ 47 = .int .i64 ((i : Nat) : Int) := h47
          simp [execOp, evR, e47, go_sem]
          omega
        refine tele_val rfl (.bool true) (fun ρ w' hk => by obtain ⟨_, hg, -⟩ := hk; have eg : ρ 46 = .bool false := hg; simp [wantedR, Region.wanted, asBoolR, eg]) ?_ ?_
        · rintro ρ w' he ⟨h48, hgd, -⟩
          have e48 : ρ 48 = .bool true := h48
          simp [execOp, evR, e48, go_sem]
        refine tele_val rfl (.slice (some ⟨br, or, none⟩) n cr) (fun ρ w' hk => by obtain ⟨_, hg, -⟩ := hk; have eg : ρ 49 = .bool true := hg; simp [wantedR, Region.wanted, asBoolR, eg]) ?_ ?_
        · rintro ρ w' he ⟨h5, hgd, -⟩
          have e5 : ρ 5 = .slice (some ⟨br, or, none⟩) n cr := h5
          simp [execOp, evR, e5, go_sem]
        refine tele_val rfl (.int .i64 ((i : Nat) : Int)) (fun ρ w' hk => by obtain ⟨_, hg, -⟩ := hk; have eg : ρ 49 = .bool true := hg; simp [wantedR, Region.wanted, asBoolR, eg]) ?_ ?_
        · rintro ρ w' he ⟨h8, hgd, -⟩
          have e8 : ρ 8 = .int .i64 ((i : Nat) : Int) := h8
          simp [execOp, evR, e8, go_sem]
        refine tele_val rfl (.int .i64 ((i - 1 : Nat) : Int)) (fun ρ w' hk => by obtain ⟨_, hg, -⟩ := hk; have eg : ρ 49 = .bool true := hg; simp [wantedR, Region.wanted, asBoolR, eg]) ?_ ?_
        · rintro ρ w' he ⟨h51, hgd, -⟩
          have e51 : ρ 51 = .int .i64 ((i : Nat) : Int) := h51
          have hw1 : IntKind.i64.wrap ((i : Int) - 1) = ((i - 1 : Nat) : Int) := by rw [IntWalk.i64_in _ (by omega)]; omega
          simp [execOp, evR, e51, hw1, go_sem]
        refine tele_val rfl (.pointer (some ⟨br, or + (i - 1) * 2, none⟩)) (fun ρ w' hk => by obtain ⟨_, _, hg, -⟩ := hk; have eg : ρ 49 = .bool true := hg; simp [wantedR, Region.wanted, asBoolR, eg]) ?_ ?_
        · rintro ρ w' he ⟨h50, h52, hgd, -⟩
          have e50 : ρ 50 = .slice (some ⟨br, or, none⟩) n cr := h50
          have e52 : ρ 52 = .int .i64 ((i - 1 : Nat) : Int) := h52
          exact index_at 2 rfl Try.underlying34 e50 e52 (by omega) (by kernel_rfl)
        refine tele_val rfl (.pointer (some ⟨br, or + (i - 1) * 2, none⟩)) (fun ρ w' hk => by obtain ⟨_, hg, -⟩ := hk; have eg : ρ 49 = .bool true := hg; simp [wantedR, Region.wanted, asBoolR, eg]) ?_ ?_
        · rintro ρ w' he ⟨h53, hgd, -⟩
          have e53 : ρ 53 = .pointer (some ⟨br, or + (i - 1) * 2, none⟩) := h53
          simp [execOp, evR, e53, go_sem]
        refine tele_val rfl (strV k0) (fun ρ w' hk => by obtain ⟨_, hg, -⟩ := hk; have eg : ρ 49 = .bool true := hg; simp [wantedR, Region.wanted, asBoolR, eg]) ?_ ?_
        · rintro ρ w' he ⟨h54, hgd, -⟩
          have e54 : ρ 54 = .pointer (some ⟨br, or + (i - 1) * 2, none⟩) := h54
          have c0 := ((h0.trans he).cell (p := ⟨br, or + (i - 1) * 2, none⟩) hbr).trans q0
          simp [execOp, evR, e54, c0, go_sem]
        refine tele_val rfl (.pointer (some ⟨n9, 0, none⟩)) (fun ρ w' hk => by obtain ⟨_, hg, -⟩ := hk; have eg : ρ 49 = .bool true := hg; simp [wantedR, Region.wanted, asBoolR, eg]) ?_ ?_
        · rintro ρ w' he ⟨h9, hgd, -⟩
          have e9 : ρ 9 = .pointer (some ⟨n9, 0, none⟩) := h9
          simp [execOp, evR, e9, go_sem]
        refine tele_val rfl (strV ky) (fun ρ w' hk => by obtain ⟨_, hg, -⟩ := hk; have eg : ρ 49 = .bool true := hg; simp [wantedR, Region.wanted, asBoolR, eg]) ?_ ?_
        · rintro ρ w' he ⟨h56, hgd, -⟩
          have e56 : ρ 56 = .pointer (some ⟨n9, 0, none⟩) := h56
          have c0 := (B9.out.ext he).cell (i := 0) rfl
          simp [execOp, evR, e56, c0, go_sem]
        refine tele_val rfl (.bool false) (fun ρ w' hk => by obtain ⟨_, _, hg, -⟩ := hk; have eg : ρ 49 = .bool true := hg; simp [wantedR, Region.wanted, asBoolR, eg]) ?_ ?_
        · rintro ρ w' he ⟨h55, h57, hgd, -⟩
          have e55 : ρ 55 = strV k0 := h55
          have e57 : ρ 57 = strV ky := h57
          unfold strV at e55 e57
          simp [execOp, evR, e55, e57, go_sem, hless]
        refine tele_val rfl (.bool false) (fun ρ w' hk => by obtain ⟨_, _, hg, -⟩ := hk; have eg : ρ 46 = .bool false := hg; simp [wantedR, Region.wanted, asBoolR, eg]) ?_ ?_
        · rintro ρ w' he ⟨h49, h58, hgd, -⟩
          have e49 : ρ 49 = .bool true := h49
          have e58 : ρ 58 = .bool false := h58
          simp [execOp, evR, e49, e58, go_sem]
        refine tele_val rfl (.bool false) (fun _ _ _ => rfl) ?_ ?_
        · rintro ρ w' he ⟨h46, h59, -⟩
          have e46 : ρ 46 = .bool false := h46
          have e59 : ρ 59 = .bool false := h59
          simp [execOp, evR, e46, e59, go_sem]
        refine tele_nil ?_
        rintro ρ w' hext ⟨f60, f59, f58, f57, f56, f55, f54, f53, f52, f51, f50, f49, f48, f47, f46, f45, f44, f43, f42, -⟩
        clear f42
        clear f43
        clear f44
        clear f45
        clear f46
        clear f47
        clear f48
        clear f49
        clear f50
        clear f51
        clear f52
        clear f53
        clear f54
        clear f55
        clear f56
        clear f57
        clear f58
        clear f59
        replace f60 : ρ 60 = .bool false := f60
        simp only [puts, Act.put, List.setIfInBounds_toArray, List.set_cons_zero, List.set_cons_succ]
        rw [f60]
        clear f60 q0 hless hi0
        have HFW := Lib.hid (HF.out.ext hext)
        have B9W := Lib.hid (B9.out.ext hext)
        have HXW0 := Lib.hid (HX.out.trans (h0.trans hext))
        have BAW := Lib.hid (BA.out.ext (h0.trans hext))
        have hx2 := Lib.hid (h0.trans hext)
        clear HF B9 h0 hext
        generalize w' = W5 at *
        have B9 := B9W
        have z1 := B9.out.cell (i := 1) rfl
        clear B9W
        go_wp2_with fail
        clear z1
        go_loopw [7, 64] (fun c g wr => ∃ k : Nat, k ≤ cs.length ∧ c = .int .i64 ((cntP ws (placesTo gs.length R i k) : Nat) : Int) ∧ g = .int .i64 k ∧ Ext W5 wr) (fun _ g _ => cs.length - (intOf g).toNat)
        case atStart => exact ⟨0, Nat.zero_le _, rfl, rfl, Ext.refl _⟩
        case round =>
          obtain ⟨g, hgl, rfl, rfl, h5⟩ := hrel
          by_cases hgt : g < cs.length
          · have hgt' : g < gs.length := by rw [← HLEN.out]; exact hgt
            obtain ⟨bg, og, rfl, hbg, hcg⟩ := G4.out (by omega)
            obtain ⟨gnm, pp, hgg, -, q1, -, -⟩ := hcg g hgt'
            have g1 := q1
            obtain ⟨A1', c1', hv1, t1, t2, t3, t4⟩ := HFW.out
            injection hv1 with e1 e2 e3
            subst e1 e3
            obtain ⟨bc, oc, rfl, hbc, hcc⟩ := t4 (by omega)
            obtain ⟨⟨sn, ss, va, vb, gone, value, da, db⟩, hgc⟩ : ∃ x, cs[g]? = some x := ⟨_, List.getElem?_eq_getElem (by omega)⟩
            have hq := clsC_get cs g _ hgc
            have c0 := hcc _ _ (hq 0 (by omega))
            have c1_ := hcc _ _ (hq 1 (by omega))
            have c2 := hcc _ _ (hq 2 (by omega))
            have c3 := hcc _ _ (hq 3 (by omega))
            have c4 := hcc _ _ (hq 4 (by omega))
            have c5 := hcc _ _ (hq 5 (by omega))
            have c6 := hcc _ _ (hq 6 (by omega))
            have c7 := hcc _ _ (hq 7 (by omega))
            obtain ⟨hnone, hwit⟩ := HCF.out g (gnm, pp) _ hgg hgc
            dsimp only at hwit
            have HNONE := Lib.hid hnone
            have HWIT := Lib.hid hwit
            obtain ⟨⟨sv, ok⟩, hsv⟩ : ∃ x, cseen pp ⟨sn, ss, va, vb, gone, value, da, db⟩ = x := ⟨_, rfl⟩
            have HSV := Lib.hid hsv
            rw [hsv] at HWIT
            have HXW := HXW0
            unfold maxLen at t2
            clear hcg hgg q1 t3 t4 hcc hgc hq hnone hwit hsv
            go_wp2_with fail
            refine wp_region_mono (by kernel_rfl) (by kernel_rfl) ?_
            refine tele_move rfl (.inl rfl) rfl (isV (.slice (some ⟨bg, og, none⟩) gs.length cg)) (fun ρ w' h => h) ?_
            refine tele_move rfl (.inl rfl) rfl (isV (.int .i64 ((g : Nat) : Int))) (fun ρ w' h => h) ?_
            refine tele_val rfl (.pointer (some ⟨bg, og + g * 2, none⟩)) (fun _ _ _ => rfl) ?_ ?_
            · rintro ρ w' he ⟨h68, h69, -⟩
              have e68 : ρ 68 = .slice (some ⟨bg, og, none⟩) gs.length cg := h68
              have e69 : ρ 69 = .int .i64 ((g : Nat) : Int) := h69
              exact index_at 2 rfl Try.underlying22 e68 e69 (by omega) (by kernel_rfl)
            refine tele_val rfl (.pointer (some ⟨bg, og + g * 2 + 1, none⟩)) (fun _ _ _ => rfl) ?_ ?_
            · rintro ρ w' he ⟨h70, -⟩
              have e70 : ρ 70 = .pointer (some ⟨bg, og + g * 2, none⟩) := h70
              simp [execOp, evR, e70, go_sem]
            refine tele_val rfl (.int .i64 pp) (fun _ _ _ => rfl) ?_ ?_
            · rintro ρ w' he ⟨h71, -⟩
              have e71 : ρ 71 = .pointer (some ⟨bg, og + g * 2 + 1, none⟩) := h71
              have c0 := ((HXW.out.trans (h5.trans he)).cell (p := ⟨bg, og + g * 2 + 1, none⟩) hbg).trans g1
              simp [execOp, evR, e71, c0, go_sem]
            refine tele_val rfl (.pointer (some ⟨n9, 1, none⟩)) (fun _ _ _ => rfl) ?_ ?_
            · rintro ρ w' he ⟨h9, -⟩
              have e9 : ρ 9 = .pointer (some ⟨n9, 0, none⟩) := h9
              simp [execOp, evR, e9, go_sem]
            refine tele_val rfl (.slice (some ⟨bc, oc, none⟩) cs.length c1) (fun _ _ _ => rfl) ?_ ?_
            · rintro ρ w' he ⟨h73, -⟩
              have e73 : ρ 73 = .pointer (some ⟨n9, 1, none⟩) := h73
              have c0 := (B9.out.ext (h5.trans he)).cell (i := 1) rfl
              simp [execOp, evR, e73, c0, go_sem]
            refine tele_move rfl (.inl rfl) rfl (isV (.int .i64 ((g : Nat) : Int))) (fun ρ w' h => h) ?_
            refine tele_val rfl (.pointer (some ⟨bc, oc + g * 8, none⟩)) (fun _ _ _ => rfl) ?_ ?_
            · rintro ρ w' he ⟨h74, h75, -⟩
              have e74 : ρ 74 = .slice (some ⟨bc, oc, none⟩) cs.length c1 := h74
              have e75 : ρ 75 = .int .i64 ((g : Nat) : Int) := h75
              exact index_at 8 rfl Try.underlying45 e74 e75 (by omega) (by kernel_rfl)
            refine tele_val rfl (.agg #[.int .i64 sn, .int .i64 ss, .int .i64 va, .int .i64 vb, .bool gone, strV value, .int .i64 da, .int .i64 db]) (fun _ _ _ => rfl) ?_ ?_
            · rintro ρ w' he ⟨h76, -⟩
              have e76 : ρ 76 = .pointer (some ⟨bc, oc + g * 8, none⟩) := h76
              have c0 := ((h5.trans he).cell (p := ⟨bc, oc + g * 8, none⟩) hbc).trans c0
              have c1 := ((h5.trans he).cell (p := ⟨bc, oc + g * 8 + 1, none⟩) hbc).trans c1_
              have c2 := ((h5.trans he).cell (p := ⟨bc, oc + g * 8 + 2, none⟩) hbc).trans c2
              have c3 := ((h5.trans he).cell (p := ⟨bc, oc + g * 8 + 3, none⟩) hbc).trans c3
              have c4 := ((h5.trans he).cell (p := ⟨bc, oc + g * 8 + 4, none⟩) hbc).trans c4
              have c5 := ((h5.trans he).cell (p := ⟨bc, oc + g * 8 + 5, none⟩) hbc).trans c5
              have c6 := ((h5.trans he).cell (p := ⟨bc, oc + g * 8 + 6, none⟩) hbc).trans c6
              have c7 := ((h5.trans he).cell (p := ⟨bc, oc + g * 8 + 7, none⟩) hbc).trans c7
              simp [execOp, evR, e76, c0, c1, c2, c3, c4, c5, c6, c7, go_sem]
            refine tele_call rfl rfl Try.func18 (by kernel_rfl) (isV (.tuple #[strV sv, .bool ok])) (fun _ _ _ => rfl) ?_ ?_
            · rintro ρ w' he ⟨h72, h77, -⟩
              have e72 : ρ 72 = .int .i64 pp := h72
              have e77 : ρ 77 = .agg #[.int .i64 sn, .int .i64 ss, .int .i64 va, .int .i64 vb, .bool gone, strV value, .int .i64 da, .int .i64 db] := h77
              simp only [evR, List.map_toArray, List.map_cons, List.map_nil, e72, e77]
              have hse := cellSeen_any pp sn ss va vb gone value da db w'
              rw [HSV.out] at hse
              refine hse.mono ?_
              rintro e w'' ⟨rfl, hx⟩
              exact ⟨_, rfl, hx, rfl⟩
            refine tele_move rfl (.inl rfl) rfl (isV (.tuple #[strV sv, .bool ok])) (fun ρ w' h => h) ?_
            refine tele_val rfl (strV sv) (fun _ _ _ => rfl) ?_ ?_
            · rintro ρ w' he ⟨h67, -⟩
              have e67 : ρ 67 = .tuple #[strV sv, .bool ok] := h67
              simp [execOp, evR, e67, go_sem]
            refine tele_val rfl (.bool ok) (fun _ _ _ => rfl) ?_ ?_
            · rintro ρ w' he ⟨h67, -⟩
              have e67 : ρ 67 = .tuple #[strV sv, .bool ok] := h67
              simp [execOp, evR, e67, go_sem]
            refine tele_move rfl (.inr rfl) rfl (isV (strV sv)) (fun ρ w' h => h) ?_
            refine tele_move rfl (.inr rfl) rfl (isV (.bool ok)) (fun ρ w' h => h) ?_
            refine tele_nil ?_
            rintro ρ w' hext ⟨f12, f11, f80, f79, f67, f78, f77, f76, f75, f74, f73, f72, f71, f70, f69, f68, -⟩
            clear f68
            clear f69
            clear f70
            clear f71
            clear f72
            clear f73
            clear f74
            clear f75
            clear f76
            clear f77
            clear f78
            clear f67
            clear f79
            clear f80
            replace f11 : ρ 11 = strV sv := f11
            replace f12 : ρ 12 = .bool ok := f12
            simp only [puts, Act.put, List.setIfInBounds_toArray, List.set_cons_zero, List.set_cons_succ]
            rw [f11, f12]
            clear f11 f12
            have h6 := h5.trans hext
            have k0 := (BAW.out.ext h6).cell (i := 0) rfl
            have k1 := (BAW.out.ext h6).cell (i := 1) rfl
            have k2 := (BAW.out.ext h6).cell (i := 2) rfl
            have k3 := (BAW.out.ext h6).cell (i := 3) rfl
            have k4 := (BAW.out.ext h6).cell (i := 4) rfl
            have k5 := (BAW.out.ext h6).cell (i := 5) rfl
            have k6 := (BAW.out.ext h6).cell (i := 6) rfl
            have y0 := (B9.out.ext h6).cell (i := 0) rfl
            unfold strV at y0
            clear hext h5
            generalize w' = W6 at *
            go_wp2_with fail
            have hhs := HHS.out ky g _ (HXW0.out.trans h6)
            unfold strV at hhs
            refine hhs.mono ?_
            rintro e W7 ⟨rfl, x7⟩
            clear k0 k1 k2 k3 k4 k5 k6 y0 hhs
            have h7 := h6.trans x7
            clear x7 h6
            obtain ⟨qh, hqh⟩ : ∃ q, chas ky (g : Int) ws = q := ⟨_, rfl⟩
            have HST : Hid (cntP ws (placesTo gs.length R i (g + 1)) = cntP ws (placesTo gs.length R i g) + if qh = true then 1 else 0) := Lib.hid (by rw [placesTo_step HRI.out, cntP_snoc]; dsimp only; rw [hqh])
            have hle := HLE.out i g hlt (by omega)
            have hw8 := HW8.out
            rw [hqh] at HNONE ⊢
            clear hqh
            cases qh
            · -- no write: nothing
              have hno := HNONE.out rfl
              unfold Cl.nought at hno
              injection hno with e0 e1 e2 e3 e4 e5 e6 e7
              subst e0 e1 e2 e3 e4 e5 e6 e7
              have hee := fun w => eqCell Cl.nought Cl.nought w
              unfold clV strV Cl.nought at hee
              dsimp only at hee
              have hef : ∀ w, (Op.equalIn 10000 54 (.agg #[.int .i64 0, .int .i64 0, .int .i64 0, .int .i64 0, .bool false, .string ⟨#[]⟩, .int .i64 0, .int .i64 0]) (.agg #[.int .i64 0, .int .i64 0, .int .i64 0, .int .i64 0, .bool false, .string ⟨#[]⟩, .int .i64 0, .int .i64 0])).run Try.prog w = .ok true w := fun w => (hee w).trans (by simp)
              replace c0 := (h7.cell (p := ⟨bc, oc + g * 8, none⟩) hbc).trans c0
              replace c1_ := (h7.cell (p := ⟨bc, oc + g * 8 + 1, none⟩) hbc).trans c1_
              replace c2 := (h7.cell (p := ⟨bc, oc + g * 8 + 2, none⟩) hbc).trans c2
              replace c3 := (h7.cell (p := ⟨bc, oc + g * 8 + 3, none⟩) hbc).trans c3
              replace c4 := (h7.cell (p := ⟨bc, oc + g * 8 + 4, none⟩) hbc).trans c4
              replace c5 := (h7.cell (p := ⟨bc, oc + g * 8 + 5, none⟩) hbc).trans c5
              replace c6 := (h7.cell (p := ⟨bc, oc + g * 8 + 6, none⟩) hbc).trans c6
              replace c7 := (h7.cell (p := ⟨bc, oc + g * 8 + 7, none⟩) hbc).trans c7
              have z1 := (B9.out.ext h7).cell (i := 1) rfl
              unfold strV at c5
              clear hee HNONE HWIT
              go_wp2_with fail
              clear c0 c1_ c2 c3 c4 c5 c6 c7 z1 hef
              go_roundw
              case rel => exact ⟨g + 1, by omega, by rw [HST.out]; rfl, by go_num, h7⟩
              case measure => simp [intOf]; omega
            · -- its write is seen
              have hwrap : IntKind.i64.wrap (((cntP ws (placesTo gs.length R i g) : Nat) : Int) + 1) = ((cntP ws (placesTo gs.length R i g) + 1 : Nat) : Int) := by rw [IntWalk.i64_in _ (by omega)]; omega
              have HST2 : Hid (cntP ws (placesTo gs.length R i (g + 1)) = cntP ws (placesTo gs.length R i g) + 1) := Lib.hid (by rw [HST.out]; rfl)
              clear c0 c1_ c2 c3 c4 c5 c6 c7 HNONE HST
              generalize cntP ws (placesTo gs.length R i g) = cn at *
              have k6 := (BAW.out.ext h7).cell (i := 6) rfl
              go_wp2_with fail
              clear k6 hwrap
              go_loopw [99] (fun a wr => ∃ k : Nat, k ≤ ws.length ∧ a = .int .i64 k ∧ Ext W5 wr) (fun a _ => ws.length - (intOf a).toNat)
              case atStart => exact ⟨0, Nat.zero_le _, rfl, h7⟩
              case round =>
                obtain ⟨k, hk, rfl, h8⟩ := hrel
                clear h7
                by_cases hkt : k < ws.length
                · obtain ⟨bw, ow, rfl, hbw, hcw⟩ := H4.out (by omega)
                  obtain ⟨wk, wg, d, z, hgw, p0, p1, p2, p3, -, -, -⟩ := hcw k hkt
                  have hsw := HWIT.out _ (List.mem_of_getElem? hgw)
                  dsimp only at hsw
                  have HSW := Lib.hid hsw
                  replace p0 := ((HXW0.out.trans h8).cell (p := ⟨bw, ow + k * 4, none⟩) hbw).trans p0
                  replace p1 := ((HXW0.out.trans h8).cell (p := ⟨bw, ow + k * 4 + 1, none⟩) hbw).trans p1
                  replace p2 := ((HXW0.out.trans h8).cell (p := ⟨bw, ow + k * 4 + 2, none⟩) hbw).trans p2
                  replace p3 := ((HXW0.out.trans h8).cell (p := ⟨bw, ow + k * 4 + 3, none⟩) hbw).trans p3
                  unfold strV at p0 p3
                  clear hgw hcw hsw
                  go_upto_region 23 with (fail)
                  clear p0 p1 p2 p3
                  have bt := Blk.new wr #[.string ⟨wk.toArray⟩, .int .i64 wg, .bool d, .string ⟨z.toArray⟩] 31
                  replace h8 := h8.trans (ext_alloc wr (.cells #[.string ⟨wk.toArray⟩, .int .i64 wg, .bool d, .string ⟨z.toArray⟩] 31))
                  generalize wr.heap.size = n14 at *
                  generalize wr.alloc (.cells #[.string ⟨wk.toArray⟩, .int .i64 wg, .bool d, .string ⟨z.toArray⟩] 31) = W8 at *
                  have BTW : Hid (Blk W8 n14 [strV wk, .int .i64 wg, .bool d, strV z]) := Lib.hid bt
                  have B9W : Hid (Blk W8 n9 [strV ky, .slice (some ⟨bc, oc, none⟩) cs.length c1]) := Lib.hid (B9.out.ext h8)
                  clear bt
                  obtain ⟨q1, Q107⟩ : ∃ q : Bool, q = (wk == ky) := ⟨_, rfl⟩
                  obtain ⟨q2, Q112⟩ : ∃ q : Bool, q = (wg == (g : Int)) := ⟨_, rfl⟩
                  obtain ⟨q3, Q118⟩ : ∃ q : Bool, q = (ok == d) := ⟨_, rfl⟩
                  obtain ⟨q4, Q123⟩ : ∃ q : Bool, q = (!(sv == z)) := ⟨_, rfl⟩
                  refine wp_region_seq (by kernel_rfl) ?_
                  refine tele_val rfl (.pointer (some ⟨n14, 0, none⟩)) (fun _ _ _ => rfl) ?_ ?_
                  · rintro ρ w' he ⟨h14, -⟩
                    have e14 : ρ 14 = .pointer (some ⟨n14, 0, none⟩) := h14
                    simp [execOp, evR, e14, go_sem]
                  refine tele_val rfl (strV wk) (fun _ _ _ => rfl) ?_ ?_
                  · rintro ρ w' he ⟨h103, -⟩
                    have e103 : ρ 103 = .pointer (some ⟨n14, 0, none⟩) := h103
                    have c0 := (BTW.out.ext he).cell (i := 0) rfl
                    simp [execOp, evR, e103, c0, go_sem]
                  refine tele_val rfl (.pointer (some ⟨n9, 0, none⟩)) (fun _ _ _ => rfl) ?_ ?_
                  · rintro ρ w' he ⟨h9, -⟩
                    have e9 : ρ 9 = .pointer (some ⟨n9, 0, none⟩) := h9
                    simp [execOp, evR, e9, go_sem]
                  refine tele_val rfl (strV ky) (fun _ _ _ => rfl) ?_ ?_
                  · rintro ρ w' he ⟨h105, -⟩
                    have e105 : ρ 105 = .pointer (some ⟨n9, 0, none⟩) := h105
                    have c0 := (B9W.out.ext he).cell (i := 0) rfl
                    simp [execOp, evR, e105, c0, go_sem]
                  refine tele_val rfl (.bool q1) (fun _ _ _ => rfl) ?_ ?_
                  · rintro ρ w' he ⟨h104, h106, -⟩
                    have e104 : ρ 104 = strV wk := h104
                    have e106 : ρ 106 = strV ky := h106
                    exact (exec_eql_str rfl e104 e106).trans (by rw [Q107])
                  refine tele_move rfl (.inl rfl) rfl (isV (.bool q1)) (fun ρ w' h => h) ?_
                  refine tele_gval rfl (q1) (.pointer (some ⟨n14, 1, none⟩)) (fun ρ w' hk => by obtain ⟨_, hg, -⟩ := hk; have eg : ρ 108 = .bool q1 := hg; cases hq : (q1) <;> simp [wantedR, Region.wanted, asBoolR_bool, asBoolR_undef, eg, ifV, hq]) ?_ ?_
                  · rintro ρ w' he ⟨h14, hgd, -⟩ hG
                    have e14 : ρ 14 = .pointer (some ⟨n14, 0, none⟩) := h14
                    simp [execOp, evR, e14, go_sem]
                  refine tele_gval rfl (q1) (.int .i64 wg) (fun ρ w' hk => by obtain ⟨_, hg, -⟩ := hk; have eg : ρ 108 = .bool q1 := hg; cases hq : (q1) <;> simp [wantedR, Region.wanted, asBoolR_bool, asBoolR_undef, eg, ifV, hq]) ?_ ?_
                  · rintro ρ w' he ⟨h109, hgd, -⟩ hG
                    have e109 : ρ 109 = .pointer (some ⟨n14, 1, none⟩) := (show ρ 109 = ifV (q1) (.pointer (some ⟨n14, 1, none⟩)) from h109).trans (ifV_true (by first | exact hG | simp_all))
                    have c0 := (BTW.out.ext he).cell (i := 1) rfl
                    simp [execOp, evR, e109, c0, go_sem]
                  refine tele_gval rfl (q1) (.int .i64 ((g : Nat) : Int)) (fun ρ w' hk => by obtain ⟨_, hg, -⟩ := hk; have eg : ρ 108 = .bool q1 := hg; cases hq : (q1) <;> simp [wantedR, Region.wanted, asBoolR_bool, asBoolR_undef, eg, ifV, hq]) ?_ ?_
                  · rintro ρ w' he ⟨h10, hgd, -⟩ hG
                    have e10 : ρ 10 = .int .i64 ((g : Nat) : Int) := h10
                    simp [execOp, evR, e10, go_sem]
                  refine tele_gval rfl (q1) (.bool q2) (fun ρ w' hk => by obtain ⟨_, _, hg, -⟩ := hk; have eg : ρ 108 = .bool q1 := hg; cases hq : (q1) <;> simp [wantedR, Region.wanted, asBoolR_bool, asBoolR_undef, eg, ifV, hq]) ?_ ?_
                  · rintro ρ w' he ⟨h110, h111, hgd, -⟩ hG
                    have e110 : ρ 110 = .int .i64 wg := (show ρ 110 = ifV (q1) (.int .i64 wg) from h110).trans (ifV_true (by first | exact hG | simp_all))
                    have e111 : ρ 111 = .int .i64 ((g : Nat) : Int) := (show ρ 111 = ifV (q1) (.int .i64 ((g : Nat) : Int)) from h111).trans (ifV_true (by first | exact hG | simp_all))
                    rw [Q112]
                    simp [execOp, evR, e110, e111, go_sem]
                  refine tele_val rfl (.bool (q1 && q2)) (fun _ _ _ => rfl) ?_ ?_
                  · rintro ρ w' he ⟨h108, h112, -⟩
                    have e108 : ρ 108 = .bool q1 := h108
                    have e112 : ρ 112 = ifV (q1) (.bool q2) := h112
                    cases hc : (q1) <;> simp [execOp, evR, e108, e112, ifV, hc, go_sem]
                  refine tele_move rfl (.inl rfl) rfl (isV (.bool (q1 && q2))) (fun ρ w' h => h) ?_
                  refine tele_gval rfl ((q1 && q2)) (.bool ok) (fun ρ w' hk => by obtain ⟨_, hg, -⟩ := hk; have eg : ρ 114 = .bool (q1 && q2) := hg; cases hq : ((q1 && q2)) <;> simp [wantedR, Region.wanted, asBoolR_bool, asBoolR_undef, eg, ifV, hq]) ?_ ?_
                  · rintro ρ w' he ⟨h12, hgd, -⟩ hG
                    have e12 : ρ 12 = .bool ok := h12
                    simp [execOp, evR, e12, go_sem]
                  refine tele_gval rfl ((q1 && q2)) (.pointer (some ⟨n14, 2, none⟩)) (fun ρ w' hk => by obtain ⟨_, hg, -⟩ := hk; have eg : ρ 114 = .bool (q1 && q2) := hg; cases hq : ((q1 && q2)) <;> simp [wantedR, Region.wanted, asBoolR_bool, asBoolR_undef, eg, ifV, hq]) ?_ ?_
                  · rintro ρ w' he ⟨h14, hgd, -⟩ hG
                    have e14 : ρ 14 = .pointer (some ⟨n14, 0, none⟩) := h14
                    simp [execOp, evR, e14, go_sem]
                  refine tele_gval rfl ((q1 && q2)) (.bool d) (fun ρ w' hk => by obtain ⟨_, hg, -⟩ := hk; have eg : ρ 114 = .bool (q1 && q2) := hg; cases hq : ((q1 && q2)) <;> simp [wantedR, Region.wanted, asBoolR_bool, asBoolR_undef, eg, ifV, hq]) ?_ ?_
                  · rintro ρ w' he ⟨h116, hgd, -⟩ hG
                    have e116 : ρ 116 = .pointer (some ⟨n14, 2, none⟩) := (show ρ 116 = ifV ((q1 && q2)) (.pointer (some ⟨n14, 2, none⟩)) from h116).trans (ifV_true (by first | exact hG | simp_all))
                    have c0 := (BTW.out.ext he).cell (i := 2) rfl
                    simp [execOp, evR, e116, c0, go_sem]
                  refine tele_gval rfl ((q1 && q2)) (.bool q3) (fun ρ w' hk => by obtain ⟨_, _, hg, -⟩ := hk; have eg : ρ 114 = .bool (q1 && q2) := hg; cases hq : ((q1 && q2)) <;> simp [wantedR, Region.wanted, asBoolR_bool, asBoolR_undef, eg, ifV, hq]) ?_ ?_
                  · rintro ρ w' he ⟨h115, h117, hgd, -⟩ hG
                    have e115 : ρ 115 = .bool ok := (show ρ 115 = ifV ((q1 && q2)) (.bool ok) from h115).trans (ifV_true (by first | exact hG | simp_all))
                    have e117 : ρ 117 = .bool d := (show ρ 117 = ifV ((q1 && q2)) (.bool d) from h117).trans (ifV_true (by first | exact hG | simp_all))
                    rw [Q118]
                    simp [execOp, evR, e115, e117, go_sem]
                  refine tele_gval rfl ((q1 && q2)) (.bool q3) (fun ρ w' hk => by obtain ⟨_, hg, -⟩ := hk; have eg : ρ 114 = .bool (q1 && q2) := hg; cases hq : ((q1 && q2)) <;> simp [wantedR, Region.wanted, asBoolR_bool, asBoolR_undef, eg, ifV, hq]) ?_ ?_
                  · rintro ρ w' he ⟨h118, hgd, -⟩ hG
                    have e118 : ρ 118 = .bool q3 := (show ρ 118 = ifV ((q1 && q2)) (.bool q3) from h118).trans (ifV_true (by first | exact hG | simp_all))
                    simp [execOp, evR, e118, go_sem]
                  refine tele_gval rfl (((q1 && q2) && !q3)) (strV sv) (fun ρ w' hk => by obtain ⟨_, hg, -⟩ := hk; have eg : ρ 119 = ifV ((q1 && q2)) (.bool q3) := hg; cases h0 : ((q1 && q2)) <;> cases hq : (q3) <;> simp [wantedR, Region.wanted, asBoolR_bool, asBoolR_undef, eg, ifV, hq, h0]) ?_ ?_
                  · rintro ρ w' he ⟨h11, hgd, -⟩ hG
                    have e11 : ρ 11 = strV sv := h11
                    simp [execOp, evR, e11, go_sem]
                  refine tele_gval rfl (((q1 && q2) && !q3)) (.pointer (some ⟨n14, 3, none⟩)) (fun ρ w' hk => by obtain ⟨_, hg, -⟩ := hk; have eg : ρ 119 = ifV ((q1 && q2)) (.bool q3) := hg; cases h0 : ((q1 && q2)) <;> cases hq : (q3) <;> simp [wantedR, Region.wanted, asBoolR_bool, asBoolR_undef, eg, ifV, hq, h0]) ?_ ?_
                  · rintro ρ w' he ⟨h14, hgd, -⟩ hG
                    have e14 : ρ 14 = .pointer (some ⟨n14, 0, none⟩) := h14
                    simp [execOp, evR, e14, go_sem]
                  refine tele_gval rfl (((q1 && q2) && !q3)) (strV z) (fun ρ w' hk => by obtain ⟨_, hg, -⟩ := hk; have eg : ρ 119 = ifV ((q1 && q2)) (.bool q3) := hg; cases h0 : ((q1 && q2)) <;> cases hq : (q3) <;> simp [wantedR, Region.wanted, asBoolR_bool, asBoolR_undef, eg, ifV, hq, h0]) ?_ ?_
                  · rintro ρ w' he ⟨h121, hgd, -⟩ hG
                    have e121 : ρ 121 = .pointer (some ⟨n14, 3, none⟩) := (show ρ 121 = ifV (((q1 && q2) && !q3)) (.pointer (some ⟨n14, 3, none⟩)) from h121).trans (ifV_true (by first | exact hG | simp_all))
                    have c0 := (BTW.out.ext he).cell (i := 3) rfl
                    simp [execOp, evR, e121, c0, go_sem]
                  refine tele_gval rfl (((q1 && q2) && !q3)) (.bool q4) (fun ρ w' hk => by obtain ⟨_, _, hg, -⟩ := hk; have eg : ρ 119 = ifV ((q1 && q2)) (.bool q3) := hg; cases h0 : ((q1 && q2)) <;> cases hq : (q3) <;> simp [wantedR, Region.wanted, asBoolR_bool, asBoolR_undef, eg, ifV, hq, h0]) ?_ ?_
                  · rintro ρ w' he ⟨h120, h122, hgd, -⟩ hG
                    have e120 : ρ 120 = strV sv := (show ρ 120 = ifV (((q1 && q2) && !q3)) (strV sv) from h120).trans (ifV_true (by first | exact hG | simp_all))
                    have e122 : ρ 122 = strV z := (show ρ 122 = ifV (((q1 && q2) && !q3)) (strV z) from h122).trans (ifV_true (by first | exact hG | simp_all))
                    exact (exec_neq_str rfl e120 e122).trans (by rw [Q123])
                  refine tele_gval rfl ((q1 && q2)) (.bool (q3 || q4)) (fun ρ w' hk => by obtain ⟨_, _, hg, -⟩ := hk; have eg : ρ 114 = .bool (q1 && q2) := hg; cases hq : ((q1 && q2)) <;> simp [wantedR, Region.wanted, asBoolR_bool, asBoolR_undef, eg, ifV, hq]) ?_ ?_
                  · rintro ρ w' he ⟨h119, h123, hgd, -⟩ hG
                    have e119 : ρ 119 = .bool q3 := (show ρ 119 = ifV ((q1 && q2)) (.bool q3) from h119).trans (ifV_true (by first | exact hG | simp_all))
                    have e123 : ρ 123 = ifV (((q1 && q2) && !q3)) (.bool q4) := h123
                    cases hc : (q3) <;> simp [execOp, evR, e119, e123, ifV, hc, hG, go_sem]
                  refine tele_val rfl (.bool ((q1 && q2) && (q3 || q4))) (fun _ _ _ => rfl) ?_ ?_
                  · rintro ρ w' he ⟨h114, h124, -⟩
                    have e114 : ρ 114 = .bool (q1 && q2) := h114
                    have e124 : ρ 124 = ifV ((q1 && q2)) (.bool (q3 || q4)) := h124
                    cases hc : ((q1 && q2)) <;> simp [execOp, evR, e114, e124, ifV, hc, go_sem]
                  refine tele_nil ?_
                  rintro ρ w' hext ⟨f125, f124, f123, f122, f121, f120, f119, f118, f117, f116, f115, f114, f113, f112, f111, f110, f109, f108, f107, f106, f105, f104, f103, -⟩
                  clear f103
                  clear f104
                  clear f105
                  clear f106
                  clear f107
                  clear f108
                  clear f109
                  clear f110
                  clear f111
                  clear f112
                  clear f113
                  clear f114
                  clear f115
                  clear f116
                  clear f117
                  clear f118
                  clear f119
                  clear f120
                  clear f121
                  clear f122
                  clear f123
                  clear f124
                  replace f125 : ρ 125 = .bool ((q1 && q2) && (q3 || q4)) := f125
                  simp only [puts, Act.put, List.setIfInBounds_toArray, List.set_cons_zero, List.set_cons_succ]
                  have hok : (((q1 && q2) && (q3 || q4))) = false := by
                    rw [Q107, Q112, Q118, Q123]
                    by_cases e1 : wk = ky
                    · by_cases e2 : wg = (g : Int)
                      · have := HSW.out e1 e2
                        injection this with e3 e4
                        subst e3 e4
                        cases d <;> simp
                      · simp [e2]
                    · simp [e1]
                  rw [f125, hok]
                  clear f125 hok Q107 Q112 Q118 Q123 BTW B9W
                  go_wp2_with fail
                  go_roundw
                  case rel => exact ⟨k + 1, by omega, by go_num, Ext.trans h8 hext⟩
                  case measure => simp [intOf]; omega
                · go_wp2_with fail
                  go_roundw
                  case rel => exact ⟨g + 1, by omega, by rw [HST2.out]; simp, by go_num, h8⟩
                  case measure => simp [intOf]; omega
          · obtain rfl : g = cs.length := by omega
            have HST : Hid (cntP ws (placesTo gs.length R i cs.length) = cntP ws (placesTo gs.length R (i + 1) 0)) := Lib.hid (by rw [HLEN.out, placesTo_row HRI.out, placesTo_zero])
            rw [HST.out]
            go_wp2_with fail
            go_roundw
            case rel => exact ⟨i + 1, by omega, rfl, by go_num, hx2.out.trans h5⟩
            case measure => simp [intOf]; omega
    · have HN2 : Hid (((cntP ws (placesTo gs.length R i 0) : Nat) : Int) = ((ws.length : Nat) : Int)) := Lib.hid (by rw [placesTo_zero, List.take_of_length_le (by omega), HCNT2.out])
      rw [HN2.out]
      have hx := HX.out.trans h0
      have k6 := (BA.out.ext h0).cell (i := 6) rfl
      have hcc : (((ws.length : Nat) : Int) == ((ws.length : Nat) : Int)) = true := by simp
      go_wp2_with fail
      refine (HL.out _).mono ?_
      rintro e w9 ⟨rfl, x9⟩
      go_wp2_with fail
      go_ret
      exact ⟨rfl, Ext.trans hx x9⟩
end Go.Proofs.Ytocdifjdeifclaa
