/-
  The walk of ChangeBytes.
-/
import Derived.Test.YtocdifjdeifclaaChGetRef
import Derived.Test.YtocdifjdeifclaaChLaw0
namespace Go.Proofs.Ytocdifjdeifclaa
open Go Go.RowKit Mono Num
set_option linter.unusedVariables false
set_option linter.unusedSimpArgs false
set_option maxRecDepth 10000

set_option maxHeartbeats 8000000 in
theorem changeBytes_walk (vl : Value) (gs : List Grp) (site seq sn ss va vb : Int) (vw : Value) (ws : List Wr) (v : Value) (b : List UInt8) (w : World) (hl : Gs w vl gs) (hw : Ws w vw ws) (hv : Bs w v b) :
    Calls Try.prog 5 #[vl, chV ⟨site, seq, sn, ss, va, vb, ws⟩ vw, v] w fun e w' => e = .returned (.bool true) ∧ Ext w w' := by
  have HL := Lib.hid (fun w => lives_any w)
  obtain ⟨A, c, rfl, hbc, hcm, _, _⟩ := id hv.open_
  obtain ⟨Ag, cg, rfl, _⟩ := hl.at_
  obtain ⟨A0, c0, rfl, _⟩ := hw.at_
  unfold maxLen at hcm
  have HLI := Lib.hid (fun w h1 h2 => light_any (.slice Ag gs.length cg) gs (.slice A0 ws.length c0) ws w h1 h2)
  unfold chV
  dsimp only
  go_enter Try.func5, Try.ntmps5
  go_wp2_with fail
  have ba := Blk.new w #[.int .i64 site, .int .i64 seq, .int .i64 sn, .int .i64 ss, .int .i64 va, .int .i64 vb, .slice A0 ws.length c0] 29
  have hx := ext_alloc w (.cells #[.int .i64 site, .int .i64 seq, .int .i64 sn, .int .i64 ss, .int .i64 va, .int .i64 vb, .slice A0 ws.length c0] 29)
  obtain ⟨n0, hn0⟩ : ∃ n, n = w.heap.size := ⟨_, rfl⟩
  rw [← hn0] at ba
  rw [← hn0]
  clear hn0
  generalize w.alloc (.cells #[.int .i64 site, .int .i64 seq, .int .i64 sn, .int .i64 ss, .int .i64 va, .int .i64 vb, .slice A0 ws.length c0] 29) = W at *
  refine (HLI.out _ (hl.ext hx) (hw.ext hx)).mono ?_
  rintro e w1 ⟨⟨q, rfl⟩, x1⟩
  replace hx := Ext.trans hx x1
  replace ba := ba.ext x1
  clear x1
  cases q
  · go_wp2_with fail
    refine (HL.out _).mono ?_
    rintro e w9 ⟨rfl, x9⟩
    go_wp2_with fail
    go_ret
    exact ⟨rfl, Ext.trans hx x9⟩
  by_cases h5 : 5000 < b.length
  · go_wp2_with fail
    refine (HL.out _).mono ?_
    rintro e w9 ⟨rfl, x9⟩
    go_wp2_with fail
    go_ret
    exact ⟨rfl, Ext.trans hx x9⟩
  have hgb := fun w h1 h2 => chGet_any A c b (.slice Ag gs.length cg) gs w h1 (by omega) h2
  have hgr := fun w h1 h2 => refChGet_any A c b (.slice Ag gs.length cg) gs w h1 (by omega) h2
  have hpt := fun w h0 h1 h2 => chPut_any (.slice A b.length c) b (.slice Ag gs.length cg) gs site seq sn ss va vb (.slice A0 ws.length c0) ws w h0 (by omega) h1 h2
  have hpr := fun w h0 h1 h2 => refChPut_any (.slice A b.length c) b (.slice Ag gs.length cg) gs site seq sn ss va vb (.slice A0 ws.length c0) ws w h0 (by omega) h1 h2
  generalize b ++ cput gs ⟨site, seq, sn, ss, va, vb, ws⟩ = X at *
  generalize cgetP gs b = RR at *
  obtain ⟨⟨s1, s2, s3, s4, s5, s6, wd⟩, n, f⟩ := RR
  have hsm := fun v1 v2 w h1 h2 => chSame_any s1 s2 s3 s4 s5 s6 v1 v2 wd w h1 h2
  unfold chV at hgb hgr hpt hpr hsm
  dsimp only at hgb hgr hpt hpr hsm
  have HGB := Lib.hid hgb
  have HGR := Lib.hid hgr
  have HPT := Lib.hid hpt
  have HPR := Lib.hid hpr
  have HSM := Lib.hid hsm
  clear hgb hgr hpt hpr hsm
  go_wp2_with fail
  refine (HGB.out _ (hv.ext hx) (hl.ext hx)).mono ?_
  rintro e w2 ⟨v1, rfl, hwx, x2⟩
  obtain ⟨A2, c2, rfl, _⟩ := hwx.at_
  replace hx := Ext.trans hx x2
  replace ba := ba.ext x2
  clear x2 HGB
  have bx := Blk.new w2 #[.int .i64 s1, .int .i64 s2, .int .i64 s3, .int .i64 s4, .int .i64 s5, .int .i64 s6, .slice A2 wd.length c2] 29
  have x3 := ext_alloc w2 (.cells #[.int .i64 s1, .int .i64 s2, .int .i64 s3, .int .i64 s4, .int .i64 s5, .int .i64 s6, .slice A2 wd.length c2] 29)
  replace hx := Ext.trans hx x3
  replace ba := ba.ext x3
  replace hwx := hwx.ext x3
  clear x3
  go_wp2_with fail
  obtain ⟨na, hna⟩ : ∃ n, n = w2.heap.size := ⟨_, rfl⟩
  rw [← hna] at bx ⊢
  clear hna
  generalize w2.alloc (.cells #[.int .i64 s1, .int .i64 s2, .int .i64 s3, .int .i64 s4, .int .i64 s5, .int .i64 s6, .slice A2 wd.length c2] 29) = W2 at *
  refine (HGR.out _ (hv.ext hx) (hl.ext hx)).mono ?_
  rintro e w3 ⟨v2, rfl, hwy, x4⟩
  obtain ⟨A3, c3, rfl, _⟩ := hwy.at_
  replace hx := Ext.trans hx x4
  replace ba := ba.ext x4
  replace bx := bx.ext x4
  replace hwx := hwx.ext x4
  clear x4 HGR
  go_upto_region 5 with (fail)
  have by_ := Blk.new w3 #[.int .i64 s1, .int .i64 s2, .int .i64 s3, .int .i64 s4, .int .i64 s5, .int .i64 s6, .slice A3 wd.length c3] 29
  have x5 := ext_alloc w3 (.cells #[.int .i64 s1, .int .i64 s2, .int .i64 s3, .int .i64 s4, .int .i64 s5, .int .i64 s6, .slice A3 wd.length c3] 29)
  replace hx := Ext.trans hx x5
  replace ba := ba.ext x5
  replace bx := bx.ext x5
  replace hwx := hwx.ext x5
  replace hwy := hwy.ext x5
  clear x5
  obtain ⟨nd, hnd⟩ : ∃ n, n = w3.heap.size := ⟨_, rfl⟩
  rw [← hnd] at by_ ⊢
  clear hnd
  generalize w3.alloc (.cells #[.int .i64 s1, .int .i64 s2, .int .i64 s3, .int .i64 s4, .int .i64 s5, .int .i64 s6, .slice A3 wd.length c3] 29) = W3 at *
  refine wp_region_mono (by kernel_rfl) (by kernel_rfl) ?_
  refine tele_val rfl (.agg #[.int .i64 s1, .int .i64 s2, .int .i64 s3, .int .i64 s4, .int .i64 s5, .int .i64 s6, .slice A2 wd.length c2]) (fun _ _ _ => rfl) ?_ ?_
  · rintro ρ w' he ⟨h7, -⟩
    have e7 : ρ 7 = .pointer (some ⟨na, 0, none⟩) := h7
    have c0 := (bx.ext he).cell (i := 0) rfl
    have c1 := (bx.ext he).cell (i := 1) rfl
    have c2 := (bx.ext he).cell (i := 2) rfl
    have c3 := (bx.ext he).cell (i := 3) rfl
    have c4 := (bx.ext he).cell (i := 4) rfl
    have c5 := (bx.ext he).cell (i := 5) rfl
    have c6 := (bx.ext he).cell (i := 6) rfl
    simp [execOp, evR, e7, c0, c1, c2, c3, c4, c5, c6, go_sem]
  refine tele_val rfl (.agg #[.int .i64 s1, .int .i64 s2, .int .i64 s3, .int .i64 s4, .int .i64 s5, .int .i64 s6, .slice A3 wd.length c3]) (fun _ _ _ => rfl) ?_ ?_
  · rintro ρ w' he ⟨h10, -⟩
    have e10 : ρ 10 = .pointer (some ⟨nd, 0, none⟩) := h10
    have c0 := (by_.ext he).cell (i := 0) rfl
    have c1 := (by_.ext he).cell (i := 1) rfl
    have c2 := (by_.ext he).cell (i := 2) rfl
    have c3 := (by_.ext he).cell (i := 3) rfl
    have c4 := (by_.ext he).cell (i := 4) rfl
    have c5 := (by_.ext he).cell (i := 5) rfl
    have c6 := (by_.ext he).cell (i := 6) rfl
    simp [execOp, evR, e10, c0, c1, c2, c3, c4, c5, c6, go_sem]
  refine tele_call rfl rfl Try.func21 (by kernel_rfl) (isV (.bool true)) (fun _ _ _ => rfl) ?_ ?_
  · rintro ρ w' he ⟨h38, h39, -⟩
    have e38 : ρ 38 = .agg #[.int .i64 s1, .int .i64 s2, .int .i64 s3, .int .i64 s4, .int .i64 s5, .int .i64 s6, .slice A2 wd.length c2] := h38
    have e39 : ρ 39 = .agg #[.int .i64 s1, .int .i64 s2, .int .i64 s3, .int .i64 s4, .int .i64 s5, .int .i64 s6, .slice A3 wd.length c3] := h39
    simp only [evR, List.map_toArray, List.map_cons, List.map_nil, e38, e39]
    refine (HSM.out _ _ _ (hwx.ext he) (hwy.ext he)).mono ?_
    rintro e w'' ⟨rfl, hx⟩
    exact ⟨_, rfl, hx, rfl⟩
  refine tele_move rfl (.inl rfl) rfl (isV (.bool true)) (fun ρ w' h => h) ?_
  refine tele_val rfl (.int .i64 (n : Int)) (fun ρ w' hk => by obtain ⟨_, hg, -⟩ := hk; have eg : ρ 41 = .bool true := hg; simp [wantedR, Region.wanted, asBoolR, eg]) ?_ ?_
  · rintro ρ w' he ⟨h8, hgd, -⟩
    have e8 : ρ 8 = .int .i64 (n : Int) := h8
    simp [execOp, evR, e8, go_sem]
  refine tele_val rfl (.int .i64 (n : Int)) (fun ρ w' hk => by obtain ⟨_, hg, -⟩ := hk; have eg : ρ 41 = .bool true := hg; simp [wantedR, Region.wanted, asBoolR, eg]) ?_ ?_
  · rintro ρ w' he ⟨h11, hgd, -⟩
    have e11 : ρ 11 = .int .i64 (n : Int) := h11
    simp [execOp, evR, e11, go_sem]
  refine tele_val rfl (.bool true) (fun ρ w' hk => by obtain ⟨_, _, hg, -⟩ := hk; have eg : ρ 41 = .bool true := hg; simp [wantedR, Region.wanted, asBoolR, eg]) ?_ ?_
  · rintro ρ w' he ⟨h42, h43, hgd, -⟩
    have e42 : ρ 42 = .int .i64 (n : Int) := h42
    have e43 : ρ 43 = .int .i64 (n : Int) := h43
    simp [execOp, evR, e42, e43, go_sem]
  refine tele_val rfl (.bool true) (fun _ _ _ => rfl) ?_ ?_
  · rintro ρ w' he ⟨h41, h44, -⟩
    have e41 : ρ 41 = .bool true := h41
    have e44 : ρ 44 = .bool true := h44
    simp [execOp, evR, e41, e44, go_sem]
  refine tele_move rfl (.inl rfl) rfl (isV (.bool true)) (fun ρ w' h => h) ?_
  refine tele_val rfl (.int .i64 (f : Int)) (fun ρ w' hk => by obtain ⟨_, hg, -⟩ := hk; have eg : ρ 46 = .bool true := hg; simp [wantedR, Region.wanted, asBoolR, eg]) ?_ ?_
  · rintro ρ w' he ⟨h9, hgd, -⟩
    have e9 : ρ 9 = .int .i64 (f : Int) := h9
    simp [execOp, evR, e9, go_sem]
  refine tele_val rfl (.int .i64 (f : Int)) (fun ρ w' hk => by obtain ⟨_, hg, -⟩ := hk; have eg : ρ 46 = .bool true := hg; simp [wantedR, Region.wanted, asBoolR, eg]) ?_ ?_
  · rintro ρ w' he ⟨h12, hgd, -⟩
    have e12 : ρ 12 = .int .i64 (f : Int) := h12
    simp [execOp, evR, e12, go_sem]
  refine tele_val rfl (.bool true) (fun ρ w' hk => by obtain ⟨_, _, hg, -⟩ := hk; have eg : ρ 46 = .bool true := hg; simp [wantedR, Region.wanted, asBoolR, eg]) ?_ ?_
  · rintro ρ w' he ⟨h47, h48, hgd, -⟩
    have e47 : ρ 47 = .int .i64 (f : Int) := h47
    have e48 : ρ 48 = .int .i64 (f : Int) := h48
    simp [execOp, evR, e47, e48, go_sem]
  refine tele_val rfl (.bool true) (fun _ _ _ => rfl) ?_ ?_
  · rintro ρ w' he ⟨h46, h49, -⟩
    have e46 : ρ 46 = .bool true := h46
    have e49 : ρ 49 = .bool true := h49
    simp [execOp, evR, e46, e49, go_sem]
  refine tele_move rfl (.inl rfl) rfl (isV (.bool true)) (fun ρ w' h => h) ?_
  refine tele_val rfl (.slice A b.length c) (fun ρ w' hk => by obtain ⟨_, hg, -⟩ := hk; have eg : ρ 51 = .bool true := hg; simp [wantedR, Region.wanted, asBoolR, eg]) ?_ ?_
  · rintro ρ w' he ⟨h2, hgd, -⟩
    have e2 : ρ 2 = .slice A b.length c := h2
    simp [execOp, evR, e2, go_sem]
  refine tele_val rfl (.slice Ag gs.length cg) (fun ρ w' hk => by obtain ⟨_, hg, -⟩ := hk; have eg : ρ 51 = .bool true := hg; simp [wantedR, Region.wanted, asBoolR, eg]) ?_ ?_
  · rintro ρ w' he ⟨h0, hgd, -⟩
    have e0 : ρ 0 = .slice Ag gs.length cg := h0
    simp [execOp, evR, e0, go_sem]
  refine tele_val rfl (.agg #[.int .i64 site, .int .i64 seq, .int .i64 sn, .int .i64 ss, .int .i64 va, .int .i64 vb, .slice A0 ws.length c0]) (fun ρ w' hk => by obtain ⟨_, hg, -⟩ := hk; have eg : ρ 51 = .bool true := hg; simp [wantedR, Region.wanted, asBoolR, eg]) ?_ ?_
  · rintro ρ w' he ⟨h4, hgd, -⟩
    have e4 : ρ 4 = .pointer (some ⟨n0, 0, none⟩) := h4
    have c0 := (ba.ext he).cell (i := 0) rfl
    have c1 := (ba.ext he).cell (i := 1) rfl
    have c2 := (ba.ext he).cell (i := 2) rfl
    have c3 := (ba.ext he).cell (i := 3) rfl
    have c4 := (ba.ext he).cell (i := 4) rfl
    have c5 := (ba.ext he).cell (i := 5) rfl
    have c6 := (ba.ext he).cell (i := 6) rfl
    simp [execOp, evR, e4, c0, c1, c2, c3, c4, c5, c6, go_sem]
  refine tele_call rfl rfl Try.func22 (by kernel_rfl) (isOw 0 X) (fun ρ w' hk => by obtain ⟨_, _, _, hg, -⟩ := hk; have eg : ρ 51 = .bool true := hg; simp [wantedR, Region.wanted, asBoolR, eg]) ?_ ?_
  · rintro ρ w' he ⟨h52, h53, h54, hgd, -⟩
    have e52 : ρ 52 = .slice A b.length c := h52
    have e53 : ρ 53 = .slice Ag gs.length cg := h53
    have e54 : ρ 54 = .agg #[.int .i64 site, .int .i64 seq, .int .i64 sn, .int .i64 ss, .int .i64 va, .int .i64 vb, .slice A0 ws.length c0] := h54
    simp only [evR, List.map_toArray, List.map_cons, List.map_nil, e52, e53, e54]
    refine (HPT.out _ (hv.ext (hx.trans he)) (hl.ext (hx.trans he)) (hw.ext (hx.trans he))).mono ?_
    rintro e w'' ⟨r, rfl, hr, hx⟩
    exact ⟨r, rfl, hx, (show OwB _ _ _ _ from hr).mono (Nat.zero_le _)⟩
  refine tele_val rfl (strV X) (fun ρ w' hk => by obtain ⟨_, hg, -⟩ := hk; have eg : ρ 51 = .bool true := hg; simp [wantedR, Region.wanted, asBoolR, eg]) ?_ ?_
  · rintro ρ w' he ⟨h55, hgd, -⟩
    have e55 : (isOw 0 X).rel (ρ 55) w' := h55
    have c := (show OwB _ _ _ _ from e55).bs.str_ (P := Try.prog) 56 9 5 Try.underlying56 Try.underlying5 Try.underlying9
    simp [execOp, evR, c]
  refine tele_val rfl (.slice A b.length c) (fun ρ w' hk => by obtain ⟨_, hg, -⟩ := hk; have eg : ρ 51 = .bool true := hg; simp [wantedR, Region.wanted, asBoolR, eg]) ?_ ?_
  · rintro ρ w' he ⟨h2, hgd, -⟩
    have e2 : ρ 2 = .slice A b.length c := h2
    simp [execOp, evR, e2, go_sem]
  refine tele_val rfl (.slice Ag gs.length cg) (fun ρ w' hk => by obtain ⟨_, hg, -⟩ := hk; have eg : ρ 51 = .bool true := hg; simp [wantedR, Region.wanted, asBoolR, eg]) ?_ ?_
  · rintro ρ w' he ⟨h0, hgd, -⟩
    have e0 : ρ 0 = .slice Ag gs.length cg := h0
    simp [execOp, evR, e0, go_sem]
  refine tele_val rfl (.agg #[.int .i64 site, .int .i64 seq, .int .i64 sn, .int .i64 ss, .int .i64 va, .int .i64 vb, .slice A0 ws.length c0]) (fun ρ w' hk => by obtain ⟨_, hg, -⟩ := hk; have eg : ρ 51 = .bool true := hg; simp [wantedR, Region.wanted, asBoolR, eg]) ?_ ?_
  · rintro ρ w' he ⟨h4, hgd, -⟩
    have e4 : ρ 4 = .pointer (some ⟨n0, 0, none⟩) := h4
    have c0 := (ba.ext he).cell (i := 0) rfl
    have c1 := (ba.ext he).cell (i := 1) rfl
    have c2 := (ba.ext he).cell (i := 2) rfl
    have c3 := (ba.ext he).cell (i := 3) rfl
    have c4 := (ba.ext he).cell (i := 4) rfl
    have c5 := (ba.ext he).cell (i := 5) rfl
    have c6 := (ba.ext he).cell (i := 6) rfl
    simp [execOp, evR, e4, c0, c1, c2, c3, c4, c5, c6, go_sem]
  refine tele_call rfl rfl Try.func23 (by kernel_rfl) (isOw 0 X) (fun ρ w' hk => by obtain ⟨_, _, _, hg, -⟩ := hk; have eg : ρ 51 = .bool true := hg; simp [wantedR, Region.wanted, asBoolR, eg]) ?_ ?_
  · rintro ρ w' he ⟨h57, h58, h59, hgd, -⟩
    have e57 : ρ 57 = .slice A b.length c := h57
    have e58 : ρ 58 = .slice Ag gs.length cg := h58
    have e59 : ρ 59 = .agg #[.int .i64 site, .int .i64 seq, .int .i64 sn, .int .i64 ss, .int .i64 va, .int .i64 vb, .slice A0 ws.length c0] := h59
    simp only [evR, List.map_toArray, List.map_cons, List.map_nil, e57, e58, e59]
    refine (HPR.out _ (hv.ext (hx.trans he)) (hl.ext (hx.trans he)) (hw.ext (hx.trans he))).mono ?_
    rintro e w'' ⟨r, rfl, hr, hx⟩
    exact ⟨r, rfl, hx, (show OwB _ _ _ _ from hr).mono (Nat.zero_le _)⟩
  refine tele_val rfl (strV X) (fun ρ w' hk => by obtain ⟨_, hg, -⟩ := hk; have eg : ρ 51 = .bool true := hg; simp [wantedR, Region.wanted, asBoolR, eg]) ?_ ?_
  · rintro ρ w' he ⟨h60, hgd, -⟩
    have e60 : (isOw 0 X).rel (ρ 60) w' := h60
    have c := (show OwB _ _ _ _ from e60).bs.str_ (P := Try.prog) 56 9 5 Try.underlying56 Try.underlying5 Try.underlying9
    simp [execOp, evR, c]
  refine tele_val rfl (.bool true) (fun ρ w' hk => by obtain ⟨_, _, hg, -⟩ := hk; have eg : ρ 51 = .bool true := hg; simp [wantedR, Region.wanted, asBoolR, eg]) ?_ ?_
  · rintro ρ w' he ⟨h56, h61, hgd, -⟩
    have e56 : ρ 56 = strV X := h56
    have e61 : ρ 61 = strV X := h61
    exact (exec_eql_str rfl e56 e61).trans (by simp)
  refine tele_val rfl (.bool true) (fun _ _ _ => rfl) ?_ ?_
  · rintro ρ w' he ⟨h51, h62, -⟩
    have e51 : ρ 51 = .bool true := h51
    have e62 : ρ 62 = .bool true := h62
    simp [execOp, evR, e51, e62, go_sem]
  refine tele_move rfl (.inl rfl) rfl (isV (.bool true)) (fun ρ w' h => h) ?_
  refine tele_call rfl rfl Try.func10 (by kernel_rfl) (isV (.bool true)) (fun ρ w' hk => by obtain ⟨hg, -⟩ := hk; have eg : ρ 64 = .bool true := hg; simp [wantedR, Region.wanted, asBoolR, eg]) ?_ ?_
  · rintro ρ w' he ⟨hgd, -⟩
    simp only [evR, List.map_toArray, List.map_cons, List.map_nil]
    refine (HL.out _).mono ?_
    rintro e w'' ⟨rfl, hx⟩
    exact ⟨_, rfl, hx, rfl⟩
  refine tele_val rfl (.bool true) (fun _ _ _ => rfl) ?_ ?_
  · rintro ρ w' he ⟨h64, h65, -⟩
    have e64 : ρ 64 = .bool true := h64
    have e65 : ρ 65 = .bool true := h65
    simp [execOp, evR, e64, e65, go_sem]
  refine tele_move rfl (.inr rfl) rfl (isV (.bool true)) (fun ρ w' h => h) ?_
  refine tele_nil ?_
  rintro ρ w' hext ⟨f6, f66, f65, f64, f63, f62, f61, f60, f59, f58, f57, f56, f55, f54, f53, f52, f51, f50, f49, f48, f47, f46, f45, f44, f43, f42, f41, f40, f39, f38, -⟩
  clear f38
  clear f39
  clear f40
  clear f41
  clear f42
  clear f43
  clear f44
  clear f45
  clear f46
  clear f47
  clear f48
  clear f49
  clear f50
  clear f51
  clear f52
  clear f53
  clear f54
  clear f55
  clear f56
  clear f57
  clear f58
  clear f59
  clear f60
  clear f61
  clear f62
  clear f63
  clear f64
  clear f65
  clear f66
  replace f6 : ρ 6 = .bool true := f6
  simp only [puts, Act.put, List.setIfInBounds_toArray, List.set_cons_zero, List.set_cons_succ]
  rw [f6]
  clear f6
  go_wp2_with fail
  go_ret
  exact ⟨rfl, Ext.trans hx hext⟩
end Go.Proofs.Ytocdifjdeifclaa
