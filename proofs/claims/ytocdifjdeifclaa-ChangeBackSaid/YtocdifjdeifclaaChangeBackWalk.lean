/-
  The walk of ChangeBack.
-/
import Derived.Test.YtocdifjdeifclaaChBackPlain
import Derived.Test.YtocdifjdeifclaaChLaw0
namespace Go.Proofs.Ytocdifjdeifclaa
open Go Go.RowKit Mono Num
set_option linter.unusedVariables false
set_option linter.unusedSimpArgs false
set_option maxRecDepth 10000

set_option maxHeartbeats 8000000 in
theorem changeBack_walk (vl : Value) (gs : List Grp) (site seq sn ss va vb : Int) (vw : Value) (ws : List Wr) (v : Value) (b : List UInt8) (w : World) (hl : Gs w vl gs) (hw : Ws w vw ws) (hv : Bs w v b) :
    Calls Try.prog 6 #[vl, chV ⟨site, seq, sn, ss, va, vb, ws⟩ vw, v] w fun e w' => e = .returned (.bool true) ∧ Ext w w' := by
  have HL := Lib.hid (fun w => lives_any w)
  obtain ⟨A, c, rfl, hbc, hcm, _, _⟩ := id hv.open_
  obtain ⟨Ag, cg, rfl, _⟩ := hl.at_
  obtain ⟨A0, c0, rfl, _⟩ := hw.at_
  unfold maxLen at hcm
  have HLI := Lib.hid (fun w h1 h2 => light_any (.slice Ag gs.length cg) gs (.slice A0 ws.length c0) ws w h1 h2)
  have HGD := Lib.hid (fun w h1 h2 => chGood_any (.slice Ag gs.length cg) gs site seq sn ss va vb (.slice A0 ws.length c0) ws w h1 h2)
  have HPT := Lib.hid (fun w h1 h2 => chPut_any (.slice none 0 0) [] (.slice Ag gs.length cg) gs site seq sn ss va vb (.slice A0 ws.length c0) ws w (Bs.nil_ w) (by simp) h1 h2)
  simp only [List.nil_append] at HPT
  have HSM := Lib.hid (fun v1 w h1 h2 => chSame_any site seq sn ss va vb v1 (.slice A0 ws.length c0) ws w h1 h2)
  unfold chV at HGD HPT HSM ⊢
  dsimp only at HGD HPT HSM ⊢
  go_enter Try.func6, Try.ntmps6
  go_wp2_with fail
  have ba := Blk.new w #[.int .i64 site, .int .i64 seq, .int .i64 sn, .int .i64 ss, .int .i64 va, .int .i64 vb, .slice A0 ws.length c0] 29
  have hx := ext_alloc w (.cells #[.int .i64 site, .int .i64 seq, .int .i64 sn, .int .i64 ss, .int .i64 va, .int .i64 vb, .slice A0 ws.length c0] 29)
  obtain ⟨n0, hn0⟩ : ∃ n, n = w.heap.size := ⟨_, rfl⟩
  rw [← hn0] at ba
  rw [← hn0]
  clear hn0
  generalize w.alloc (.cells #[.int .i64 site, .int .i64 seq, .int .i64 sn, .int .i64 ss, .int .i64 va, .int .i64 vb, .slice A0 ws.length c0] 29) = W at *
  refine (HLI.out _ (hl.ext hx) (hw.ext hx)).mono ?_
  rintro e w1 ⟨⟨q, rfl⟩, x1⟩
  replace hx := Ext.trans hx x1
  replace ba := ba.ext x1
  clear x1
  cases q
  · go_wp2_with fail
    refine (HL.out _).mono ?_
    rintro e w9 ⟨rfl, x9⟩
    go_wp2_with fail
    go_ret
    exact ⟨rfl, Ext.trans hx x9⟩
  by_cases h5 : 5000 < b.length
  · go_wp2_with fail
    refine (HL.out _).mono ?_
    rintro e w9 ⟨rfl, x9⟩
    go_wp2_with fail
    go_ret
    exact ⟨rfl, Ext.trans hx x9⟩
  have hgb := fun w h1 h2 => chGet_any A c b (.slice Ag gs.length cg) gs w h1 (by omega) h2
  have hfm := cput_cget gs b (by omega)
  generalize cgetP gs b = RR at *
  obtain ⟨⟨s1, s2, s3, s4, s5, s6, wd⟩, n, f⟩ := RR
  unfold chV at hgb
  try dsimp only at hgb
  try dsimp only at hfm
  have HGB := Lib.hid hgb
  have HFM := Lib.hid hfm
  clear hgb hfm
  have c0 := ba.cell (i := 0) rfl
  have c1 := ba.cell (i := 1) rfl
  have c2 := ba.cell (i := 2) rfl
  have c3 := ba.cell (i := 3) rfl
  have c4 := ba.cell (i := 4) rfl
  have c5 := ba.cell (i := 5) rfl
  have c6 := ba.cell (i := 6) rfl
  go_wp2_with fail
  refine (HPT.out _ (hl.ext hx) (hw.ext hx)).mono ?_
  rintro e w2 ⟨r, rfl, hr, x2⟩
  clear c0 c1 c2 c3 c4 c5 c6
  replace hx := Ext.trans hx x2
  replace ba := ba.ext x2
  clear x2 HPT
  have c0 := ba.cell (i := 0) rfl
  have c1 := ba.cell (i := 1) rfl
  have c2 := ba.cell (i := 2) rfl
  have c3 := ba.cell (i := 3) rfl
  have c4 := ba.cell (i := 4) rfl
  have c5 := ba.cell (i := 5) rfl
  have c6 := ba.cell (i := 6) rfl
  go_wp2_with fail
  refine (HGD.out _ (hl.ext hx) (hw.ext hx)).mono ?_
  rintro e w3 ⟨rfl, x3⟩
  clear c0 c1 c2 c3 c4 c5 c6
  replace hx := Ext.trans hx x3
  replace ba := ba.ext x3
  replace hr := (show OwB _ _ _ _ from hr).bs.ext x3
  clear x3 HGD
  by_cases hg : cgood gs ⟨site, seq, sn, ss, va, vb, ws⟩ = 0
  · have hbk := fun t => cget_cput gs ⟨site, seq, sn, ss, va, vb, ws⟩ t hg
    have hlen := cput_len gs ⟨site, seq, sn, ss, va, vb, ws⟩
    rw [hg]
    clear hg
    generalize cput gs ⟨site, seq, sn, ss, va, vb, ws⟩ = X at *
    have HBK := Lib.hid hbk
    clear hbk
    obtain ⟨A1, c1, rfl, g1, g2, _, _⟩ := hr.open_
    unfold maxLen at g2
    go_wp2_with (first
      | (at_builtin
         refine wpList_append_bs _ rfl (.tmp 33) (.tmp 34) rfl (OwB.empty_ w3 (Nat.le_refl _)) (hr.ext (ext_alloc _ _)) rfl rfl ?_ ?_ ?_
         · simp; omega
         · simp
         intro v2 w4 hown2 hg2 hat2
         have hb2 : Below w3.heap.size w3 w4 := Below.growB (ext_alloc w3 _) (OwB.empty_ w3 (Nat.le_refl _)) hg2 (Nat.le_refl _) (by simp)
         have hz2 := hb2.size)
      | (at_builtin
         refine wpList_append_bs _ rfl (.tmp 35) (.tmp 36) rfl hown2 ((hv.ext hx).ext hb2) rfl rfl ?_ ?_ ?_
         · simp; omega
         · exact hz2
         intro v3 w5 hown3 hg3 hat3
         have hb3 : Below w3.heap.size w3 w5 := Below.growB hb2 hown2 hg3 (Nat.le_refl _) hz2))
    rw [List.nil_append] at hown3
    clear hown2 hg2 hg3 hat2 hat3
    replace hx := Ext.trans hx hb3
    replace ba := ba.ext hb3
    clear hb2 hb3 hz2
    have hbs3 := hown3.bs
    obtain ⟨A3, c3, rfl, _⟩ := id hbs3.open_
    have hgt := chGet_any A3 c3 (X ++ b) (.slice Ag gs.length cg) gs w5 hbs3 (by rw [List.length_append]; omega) (hl.ext hx)
    rw [HBK.out b] at hgt
    unfold chV at hgt
    dsimp only at hgt
    refine hgt.mono ?_
    rintro e w6 ⟨vd, rfl, hwd, x6⟩
    obtain ⟨A4, c4, rfl, _⟩ := hwd.at_
    clear hgt hown3 hbs3
    replace hx := Ext.trans hx x6
    replace ba := ba.ext x6
    clear x6
    have be := Blk.new w6 #[.int .i64 site, .int .i64 seq, .int .i64 sn, .int .i64 ss, .int .i64 va, .int .i64 vb, .slice A4 ws.length c4] 29
    have x7 := ext_alloc w6 (.cells #[.int .i64 site, .int .i64 seq, .int .i64 sn, .int .i64 ss, .int .i64 va, .int .i64 vb, .slice A4 ws.length c4] 29)
    replace ba := ba.ext x7
    have c0 := ba.cell (i := 0) rfl
    have c1 := ba.cell (i := 1) rfl
    have c2 := ba.cell (i := 2) rfl
    have c3 := ba.cell (i := 3) rfl
    have c4 := ba.cell (i := 4) rfl
    have c5 := ba.cell (i := 5) rfl
    have c6 := ba.cell (i := 6) rfl
    have d0 := be.cell (i := 0) rfl
    have d1 := be.cell (i := 1) rfl
    have d2 := be.cell (i := 2) rfl
    have d3 := be.cell (i := 3) rfl
    have d4 := be.cell (i := 4) rfl
    have d5 := be.cell (i := 5) rfl
    have d6 := be.cell (i := 6) rfl
    go_wp2_with fail
    refine (HSM.out _ _ (hwd.ext x7) (hw.ext (hx.trans x7))).mono ?_
    rintro e w7 ⟨rfl, x8⟩
    clear c0 c1 c2 c3 c4 c5 c6
    clear d0 d1 d2 d3 d4 d5 d6
    replace hx := Ext.trans (Ext.trans hx x7) x8
    clear x7 x8 be hwd ba
    go_wp2_with fail
    refine (HGB.out _ (hv.ext hx) (hl.ext hx)).mono ?_
    rintro e w5 ⟨vd, rfl, hwd, x5⟩
    obtain ⟨A2, c2, rfl, _⟩ := hwd.at_
    replace hx := Ext.trans hx x5
    clear x5
    go_upto_region 11 with (fail)
    have bd := Blk.new w5 #[.int .i64 s1, .int .i64 s2, .int .i64 s3, .int .i64 s4, .int .i64 s5, .int .i64 s6, .slice A2 wd.length c2] 29
    have x6 := ext_alloc w5 (.cells #[.int .i64 s1, .int .i64 s2, .int .i64 s3, .int .i64 s4, .int .i64 s5, .int .i64 s6, .slice A2 wd.length c2] 29)
    replace hx := Ext.trans hx x6
    replace hwd := hwd.ext x6
    clear x6
    obtain ⟨nd, hnd⟩ : ∃ n, n = w5.heap.size := ⟨_, rfl⟩
    rw [← hnd] at bd ⊢
    clear hnd
    generalize w5.alloc (.cells #[.int .i64 s1, .int .i64 s2, .int .i64 s3, .int .i64 s4, .int .i64 s5, .int .i64 s6, .slice A2 wd.length c2] 29) = W5 at *
    by_cases hf : f = 0
    · obtain ⟨hnl, hput⟩ := HFM.out hf
      have HNL := Lib.hid hnl
      have hpd := fun w h1 h2 => chPut_any (.slice none 0 0) [] (.slice Ag gs.length cg) gs s1 s2 s3 s4 s5 s6 (.slice A2 wd.length c2) wd w (Bs.nil_ w) (by simp) h1 h2
      rw [hput, List.nil_append] at hpd
      unfold chV at hpd
      dsimp only at hpd
      have HPD := Lib.hid hpd
      clear hpd hput hnl
      subst hf
      refine wp_region_mono (by kernel_rfl) (by kernel_rfl) ?_
      refine tele_move rfl (.inl rfl) rfl (isV (.int .i64 0)) (fun ρ w' h => h) ?_
      refine tele_val rfl (.bool true) (fun _ _ _ => rfl) ?_ ?_
      · rintro ρ w' he ⟨h67, -⟩
        have e67 : ρ 67 = .int .i64 0 := h67
        simp [execOp, evR, e67, go_sem]
      refine tele_move rfl (.inl rfl) rfl (isV (.bool true)) (fun ρ w' h => h) ?_
      refine tele_val rfl (.int .i64 (n : Int)) (fun ρ w' hk => by obtain ⟨_, hg, -⟩ := hk; have eg : ρ 69 = .bool true := hg; simp [wantedR, Region.wanted, asBoolR, eg]) ?_ ?_
      · rintro ρ w' he ⟨h12, hgd, -⟩
        have e12 : ρ 12 = .int .i64 (n : Int) := h12
        simp [execOp, evR, e12, go_sem]
      refine tele_val rfl (.slice A b.length c) (fun ρ w' hk => by obtain ⟨_, hg, -⟩ := hk; have eg : ρ 69 = .bool true := hg; simp [wantedR, Region.wanted, asBoolR, eg]) ?_ ?_
      · rintro ρ w' he ⟨h2, hgd, -⟩
        have e2 : ρ 2 = .slice A b.length c := h2
        simp [execOp, evR, e2, go_sem]
      refine tele_val rfl (.int .i64 ((b.length : Nat) : Int)) (fun ρ w' hk => by obtain ⟨_, hg, -⟩ := hk; have eg : ρ 69 = .bool true := hg; simp [wantedR, Region.wanted, asBoolR, eg]) ?_ ?_
      · rintro ρ w' he ⟨h71, hgd, -⟩
        have e71 : ρ 71 = .slice A b.length c := h71
        simp [execOp, evR, e71, go_sem]
      refine tele_val rfl (.bool false) (fun ρ w' hk => by obtain ⟨_, _, hg, -⟩ := hk; have eg : ρ 69 = .bool true := hg; simp [wantedR, Region.wanted, asBoolR, eg]) ?_ ?_
      · rintro ρ w' he ⟨h70, h72, hgd, -⟩
        have e70 : ρ 70 = .int .i64 (n : Int) := h70
        have e72 : ρ 72 = .int .i64 ((b.length : Nat) : Int) := h72
        have := HNL.out
        simp [execOp, evR, e70, e72, go_sem]
        omega
      refine tele_val rfl (.bool false) (fun ρ w' hk => by obtain ⟨_, hg, -⟩ := hk; have eg : ρ 69 = .bool true := hg; simp [wantedR, Region.wanted, asBoolR, eg]) ?_ ?_
      · rintro ρ w' he ⟨h73, hgd, -⟩
        have e73 : ρ 73 = .bool false := h73
        simp [execOp, evR, e73, go_sem]
      refine tele_val rfl (.slice Ag gs.length cg) (fun ρ w' hk => by obtain ⟨_, hg, -⟩ := hk; have eg : ρ 74 = .bool false := hg; simp [wantedR, Region.wanted, asBoolR, eg]) ?_ ?_
      · rintro ρ w' he ⟨h0, hgd, -⟩
        have e0 : ρ 0 = .slice Ag gs.length cg := h0
        simp [execOp, evR, e0, go_sem]
      refine tele_val rfl (.agg #[.int .i64 s1, .int .i64 s2, .int .i64 s3, .int .i64 s4, .int .i64 s5, .int .i64 s6, .slice A2 wd.length c2]) (fun ρ w' hk => by obtain ⟨_, hg, -⟩ := hk; have eg : ρ 74 = .bool false := hg; simp [wantedR, Region.wanted, asBoolR, eg]) ?_ ?_
      · rintro ρ w' he ⟨h11, hgd, -⟩
        have e11 : ρ 11 = .pointer (some ⟨nd, 0, none⟩) := h11
        have c0 := (bd.ext he).cell (i := 0) rfl
        have c1 := (bd.ext he).cell (i := 1) rfl
        have c2 := (bd.ext he).cell (i := 2) rfl
        have c3 := (bd.ext he).cell (i := 3) rfl
        have c4 := (bd.ext he).cell (i := 4) rfl
        have c5 := (bd.ext he).cell (i := 5) rfl
        have c6 := (bd.ext he).cell (i := 6) rfl
        simp [execOp, evR, e11, c0, c1, c2, c3, c4, c5, c6, go_sem]
      refine tele_call rfl rfl Try.func22 (by kernel_rfl) (isOw 0 (b.take n)) (fun ρ w' hk => by obtain ⟨_, _, hg, -⟩ := hk; have eg : ρ 74 = .bool false := hg; simp [wantedR, Region.wanted, asBoolR, eg]) ?_ ?_
      · rintro ρ w' he ⟨h75, h76, hgd, -⟩
        have e75 : ρ 75 = .slice Ag gs.length cg := h75
        have e76 : ρ 76 = .agg #[.int .i64 s1, .int .i64 s2, .int .i64 s3, .int .i64 s4, .int .i64 s5, .int .i64 s6, .slice A2 wd.length c2] := h76
        simp only [evR, List.map_toArray, List.map_cons, List.map_nil, e75, e76]
        refine (HPD.out _ (hl.ext (hx.trans he)) (hwd.ext he)).mono ?_
        rintro e w'' ⟨r, rfl, hr, hx⟩
        exact ⟨r, rfl, hx, (show OwB _ _ _ _ from hr).mono (Nat.zero_le _)⟩
      refine tele_val rfl (strV (b.take n)) (fun ρ w' hk => by obtain ⟨_, hg, -⟩ := hk; have eg : ρ 74 = .bool false := hg; simp [wantedR, Region.wanted, asBoolR, eg]) ?_ ?_
      · rintro ρ w' he ⟨h77, hgd, -⟩
        have e77 : (isOw 0 (b.take n)).rel (ρ 77) w' := h77
        have c := (show OwB _ _ _ _ from e77).bs.str_ (P := Try.prog) 56 9 5 Try.underlying56 Try.underlying5 Try.underlying9
        simp [execOp, evR, c]
      refine tele_val rfl (.slice A b.length c) (fun ρ w' hk => by obtain ⟨_, hg, -⟩ := hk; have eg : ρ 74 = .bool false := hg; simp [wantedR, Region.wanted, asBoolR, eg]) ?_ ?_
      · rintro ρ w' he ⟨h2, hgd, -⟩
        have e2 : ρ 2 = .slice A b.length c := h2
        simp [execOp, evR, e2, go_sem]
      refine tele_val rfl (.int .i64 (n : Int)) (fun ρ w' hk => by obtain ⟨_, hg, -⟩ := hk; have eg : ρ 74 = .bool false := hg; simp [wantedR, Region.wanted, asBoolR, eg]) ?_ ?_
      · rintro ρ w' he ⟨h12, hgd, -⟩
        have e12 : ρ 12 = .int .i64 (n : Int) := h12
        simp [execOp, evR, e12, go_sem]
      refine tele_val rfl (.slice A n c) (fun ρ w' hk => by obtain ⟨_, _, hg, -⟩ := hk; have eg : ρ 74 = .bool false := hg; simp [wantedR, Region.wanted, asBoolR, eg]) ?_ ?_
      · rintro ρ w' he ⟨h79, h80, hgd, -⟩
        have e79 : ρ 79 = .slice A b.length c := h79
        have e80 : ρ 80 = .int .i64 (n : Int) := h80
        have h1 : (n : Int) ≤ (c : Int) := by have := HNL.out; omega
        have h0 : (0 : Int) ≤ (n : Int) := by omega
        have hu := Try.underlying56
        simp [execOp, evR, e79, e80, h0, h1, go_sem]
      refine tele_val rfl (strV (b.take n)) (fun ρ w' hk => by obtain ⟨_, hg, -⟩ := hk; have eg : ρ 74 = .bool false := hg; simp [wantedR, Region.wanted, asBoolR, eg]) ?_ ?_
      · rintro ρ w' he ⟨h81, hgd, -⟩
        have e81 : ρ 81 = .slice A n c := h81
        have c := ((hv.ext (hx.trans he)).upto HNL.out).str_ (P := Try.prog) 56 9 5 Try.underlying56 Try.underlying5 Try.underlying9
        simp [execOp, evR, e81, c]
      refine tele_val rfl (.bool false) (fun ρ w' hk => by obtain ⟨_, _, hg, -⟩ := hk; have eg : ρ 74 = .bool false := hg; simp [wantedR, Region.wanted, asBoolR, eg]) ?_ ?_
      · rintro ρ w' he ⟨h78, h82, hgd, -⟩
        have e78 : ρ 78 = strV (b.take n) := h78
        have e82 : ρ 82 = strV (b.take n) := h82
        exact (exec_neq_str rfl e78 e82).trans (by simp)
      refine tele_val rfl (.bool false) (fun ρ w' hk => by obtain ⟨_, _, hg, -⟩ := hk; have eg : ρ 69 = .bool true := hg; simp [wantedR, Region.wanted, asBoolR, eg]) ?_ ?_
      · rintro ρ w' he ⟨h74, h83, hgd, -⟩
        have e74 : ρ 74 = .bool false := h74
        have e83 : ρ 83 = .bool false := h83
        simp [execOp, evR, e74, e83, go_sem]
      refine tele_val rfl (.bool false) (fun _ _ _ => rfl) ?_ ?_
      · rintro ρ w' he ⟨h69, h84, -⟩
        have e69 : ρ 69 = .bool true := h69
        have e84 : ρ 84 = .bool false := h84
        simp [execOp, evR, e69, e84, go_sem]
      refine tele_nil ?_
      rintro ρ w' hext ⟨f85, f84, f83, f82, f81, f80, f79, f78, f77, f76, f75, f74, f73, f72, f71, f70, f69, f68, f67, -⟩
      clear f67
      clear f68
      clear f69
      clear f70
      clear f71
      clear f72
      clear f73
      clear f74
      clear f75
      clear f76
      clear f77
      clear f78
      clear f79
      clear f80
      clear f81
      clear f82
      clear f83
      clear f84
      replace f85 : ρ 85 = .bool false := f85
      simp only [puts, Act.put, List.setIfInBounds_toArray, List.set_cons_zero, List.set_cons_succ]
      rw [f85]
      clear f85
      replace hx := Ext.trans hx hext
      go_wp2_with fail
      refine (HL.out _).mono ?_
      rintro e w9 ⟨rfl, x9⟩
      go_wp2_with fail
      go_ret
      exact ⟨rfl, Ext.trans hx x9⟩
    · have HF := Lib.hid hf
      clear hf
      refine wp_region_mono (by kernel_rfl) (by kernel_rfl) ?_
      refine tele_move rfl (.inl rfl) rfl (isV (.int .i64 (f : Int))) (fun ρ w' h => h) ?_
      refine tele_val rfl (.bool false) (fun _ _ _ => rfl) ?_ ?_
      · rintro ρ w' he ⟨h67, -⟩
        have e67 : ρ 67 = .int .i64 (f : Int) := h67
        simp [execOp, evR, e67, HF.out, go_sem]
      refine tele_move rfl (.inl rfl) rfl (isV (.bool false)) (fun ρ w' h => h) ?_
      refine tele_pass rfl (fun ρ w' hk => by obtain ⟨_, hg, -⟩ := hk; have eg : ρ 69 = .bool false := hg; simp [wantedR, Region.wanted, asBoolR_bool, asBoolR_undef, eg]) ?_
      refine tele_pass rfl (fun ρ w' hk => by obtain ⟨_, hg, -⟩ := hk; have eg : ρ 69 = .bool false := hg; simp [wantedR, Region.wanted, asBoolR_bool, asBoolR_undef, eg]) ?_
      refine tele_pass rfl (fun ρ w' hk => by obtain ⟨_, hg, -⟩ := hk; have eg : ρ 69 = .bool false := hg; simp [wantedR, Region.wanted, asBoolR_bool, asBoolR_undef, eg]) ?_
      refine tele_pass rfl (fun ρ w' hk => by obtain ⟨_, _, hg, -⟩ := hk; have eg : ρ 69 = .bool false := hg; simp [wantedR, Region.wanted, asBoolR_bool, asBoolR_undef, eg]) ?_
      refine tele_pass rfl (fun ρ w' hk => by obtain ⟨_, hg, -⟩ := hk; have eg : ρ 69 = .bool false := hg; simp [wantedR, Region.wanted, asBoolR_bool, asBoolR_undef, eg]) ?_
      refine tele_pass rfl (fun ρ w' hk => by obtain ⟨_, hg, -⟩ := hk; have eg : ρ 74 = undef := hg; simp [wantedR, Region.wanted, asBoolR_bool, asBoolR_undef, eg]) ?_
      refine tele_pass rfl (fun ρ w' hk => by obtain ⟨_, hg, -⟩ := hk; have eg : ρ 74 = undef := hg; simp [wantedR, Region.wanted, asBoolR_bool, asBoolR_undef, eg]) ?_
      refine tele_pass rfl (fun ρ w' hk => by obtain ⟨_, _, hg, -⟩ := hk; have eg : ρ 74 = undef := hg; simp [wantedR, Region.wanted, asBoolR_bool, asBoolR_undef, eg]) ?_
      refine tele_pass rfl (fun ρ w' hk => by obtain ⟨_, hg, -⟩ := hk; have eg : ρ 74 = undef := hg; simp [wantedR, Region.wanted, asBoolR_bool, asBoolR_undef, eg]) ?_
      refine tele_pass rfl (fun ρ w' hk => by obtain ⟨_, hg, -⟩ := hk; have eg : ρ 74 = undef := hg; simp [wantedR, Region.wanted, asBoolR_bool, asBoolR_undef, eg]) ?_
      refine tele_pass rfl (fun ρ w' hk => by obtain ⟨_, hg, -⟩ := hk; have eg : ρ 74 = undef := hg; simp [wantedR, Region.wanted, asBoolR_bool, asBoolR_undef, eg]) ?_
      refine tele_pass rfl (fun ρ w' hk => by obtain ⟨_, _, hg, -⟩ := hk; have eg : ρ 74 = undef := hg; simp [wantedR, Region.wanted, asBoolR_bool, asBoolR_undef, eg]) ?_
      refine tele_pass rfl (fun ρ w' hk => by obtain ⟨_, hg, -⟩ := hk; have eg : ρ 74 = undef := hg; simp [wantedR, Region.wanted, asBoolR_bool, asBoolR_undef, eg]) ?_
      refine tele_pass rfl (fun ρ w' hk => by obtain ⟨_, _, hg, -⟩ := hk; have eg : ρ 74 = undef := hg; simp [wantedR, Region.wanted, asBoolR_bool, asBoolR_undef, eg]) ?_
      refine tele_pass rfl (fun ρ w' hk => by obtain ⟨_, _, hg, -⟩ := hk; have eg : ρ 69 = .bool false := hg; simp [wantedR, Region.wanted, asBoolR_bool, asBoolR_undef, eg]) ?_
      refine tele_val rfl (.bool false) (fun _ _ _ => rfl) ?_ ?_
      · rintro ρ w' he ⟨h69, h84, -⟩
        have e69 : ρ 69 = .bool false := h69
        have e84 : ρ 84 = undef := h84
        simp [execOp, evR, e69, e84, go_sem]
      refine tele_nil ?_
      rintro ρ w' hext ⟨f85, f84, f83, f82, f81, f80, f79, f78, f77, f76, f75, f74, f73, f72, f71, f70, f69, f68, f67, -⟩
      clear f67
      clear f68
      clear f69
      clear f70
      clear f71
      clear f72
      clear f73
      clear f74
      clear f75
      clear f76
      clear f77
      clear f78
      clear f79
      clear f80
      clear f81
      clear f82
      clear f83
      clear f84
      replace f85 : ρ 85 = .bool false := f85
      simp only [puts, Act.put, List.setIfInBounds_toArray, List.set_cons_zero, List.set_cons_succ]
      rw [f85]
      clear f85
      replace hx := Ext.trans hx hext
      go_wp2_with fail
      refine (HL.out _).mono ?_
      rintro e w9 ⟨rfl, x9⟩
      go_wp2_with fail
      go_ret
      exact ⟨rfl, Ext.trans hx x9⟩
  · have hX : cput gs ⟨site, seq, sn, ss, va, vb, ws⟩ = [] := by unfold cput; rw [if_neg hg]
    have hb0 : (((cgood gs ⟨site, seq, sn, ss, va, vb, ws⟩ : Nat) : Int) == 0) = false := by rw [beq_eq_false_iff_ne]; omega
    rw [hX] at hr
    clear hX hg ba
    obtain ⟨A1, c1, rfl, _⟩ := hr.open_
    go_wp2_with fail
    refine (HGB.out _ (hv.ext hx) (hl.ext hx)).mono ?_
    rintro e w5 ⟨vd, rfl, hwd, x5⟩
    obtain ⟨A2, c2, rfl, _⟩ := hwd.at_
    replace hx := Ext.trans hx x5
    clear x5
    go_upto_region 11 with (fail)
    have bd := Blk.new w5 #[.int .i64 s1, .int .i64 s2, .int .i64 s3, .int .i64 s4, .int .i64 s5, .int .i64 s6, .slice A2 wd.length c2] 29
    have x6 := ext_alloc w5 (.cells #[.int .i64 s1, .int .i64 s2, .int .i64 s3, .int .i64 s4, .int .i64 s5, .int .i64 s6, .slice A2 wd.length c2] 29)
    replace hx := Ext.trans hx x6
    replace hwd := hwd.ext x6
    clear x6
    obtain ⟨nd, hnd⟩ : ∃ n, n = w5.heap.size := ⟨_, rfl⟩
    rw [← hnd] at bd ⊢
    clear hnd
    generalize w5.alloc (.cells #[.int .i64 s1, .int .i64 s2, .int .i64 s3, .int .i64 s4, .int .i64 s5, .int .i64 s6, .slice A2 wd.length c2] 29) = W5 at *
    by_cases hf : f = 0
    · obtain ⟨hnl, hput⟩ := HFM.out hf
      have HNL := Lib.hid hnl
      have hpd := fun w h1 h2 => chPut_any (.slice none 0 0) [] (.slice Ag gs.length cg) gs s1 s2 s3 s4 s5 s6 (.slice A2 wd.length c2) wd w (Bs.nil_ w) (by simp) h1 h2
      rw [hput, List.nil_append] at hpd
      unfold chV at hpd
      dsimp only at hpd
      have HPD := Lib.hid hpd
      clear hpd hput hnl
      subst hf
      refine wp_region_mono (by kernel_rfl) (by kernel_rfl) ?_
      refine tele_move rfl (.inl rfl) rfl (isV (.int .i64 0)) (fun ρ w' h => h) ?_
      refine tele_val rfl (.bool true) (fun _ _ _ => rfl) ?_ ?_
      · rintro ρ w' he ⟨h67, -⟩
        have e67 : ρ 67 = .int .i64 0 := h67
        simp [execOp, evR, e67, go_sem]
      refine tele_move rfl (.inl rfl) rfl (isV (.bool true)) (fun ρ w' h => h) ?_
      refine tele_val rfl (.int .i64 (n : Int)) (fun ρ w' hk => by obtain ⟨_, hg, -⟩ := hk; have eg : ρ 69 = .bool true := hg; simp [wantedR, Region.wanted, asBoolR, eg]) ?_ ?_
      · rintro ρ w' he ⟨h12, hgd, -⟩
        have e12 : ρ 12 = .int .i64 (n : Int) := h12
        simp [execOp, evR, e12, go_sem]
      refine tele_val rfl (.slice A b.length c) (fun ρ w' hk => by obtain ⟨_, hg, -⟩ := hk; have eg : ρ 69 = .bool true := hg; simp [wantedR, Region.wanted, asBoolR, eg]) ?_ ?_
      · rintro ρ w' he ⟨h2, hgd, -⟩
        have e2 : ρ 2 = .slice A b.length c := h2
        simp [execOp, evR, e2, go_sem]
      refine tele_val rfl (.int .i64 ((b.length : Nat) : Int)) (fun ρ w' hk => by obtain ⟨_, hg, -⟩ := hk; have eg : ρ 69 = .bool true := hg; simp [wantedR, Region.wanted, asBoolR, eg]) ?_ ?_
      · rintro ρ w' he ⟨h71, hgd, -⟩
        have e71 : ρ 71 = .slice A b.length c := h71
        simp [execOp, evR, e71, go_sem]
      refine tele_val rfl (.bool false) (fun ρ w' hk => by obtain ⟨_, _, hg, -⟩ := hk; have eg : ρ 69 = .bool true := hg; simp [wantedR, Region.wanted, asBoolR, eg]) ?_ ?_
      · rintro ρ w' he ⟨h70, h72, hgd, -⟩
        have e70 : ρ 70 = .int .i64 (n : Int) := h70
        have e72 : ρ 72 = .int .i64 ((b.length : Nat) : Int) := h72
        have := HNL.out
        simp [execOp, evR, e70, e72, go_sem]
        omega
      refine tele_val rfl (.bool false) (fun ρ w' hk => by obtain ⟨_, hg, -⟩ := hk; have eg : ρ 69 = .bool true := hg; simp [wantedR, Region.wanted, asBoolR, eg]) ?_ ?_
      · rintro ρ w' he ⟨h73, hgd, -⟩
        have e73 : ρ 73 = .bool false := h73
        simp [execOp, evR, e73, go_sem]
      refine tele_val rfl (.slice Ag gs.length cg) (fun ρ w' hk => by obtain ⟨_, hg, -⟩ := hk; have eg : ρ 74 = .bool false := hg; simp [wantedR, Region.wanted, asBoolR, eg]) ?_ ?_
      · rintro ρ w' he ⟨h0, hgd, -⟩
        have e0 : ρ 0 = .slice Ag gs.length cg := h0
        simp [execOp, evR, e0, go_sem]
      refine tele_val rfl (.agg #[.int .i64 s1, .int .i64 s2, .int .i64 s3, .int .i64 s4, .int .i64 s5, .int .i64 s6, .slice A2 wd.length c2]) (fun ρ w' hk => by obtain ⟨_, hg, -⟩ := hk; have eg : ρ 74 = .bool false := hg; simp [wantedR, Region.wanted, asBoolR, eg]) ?_ ?_
      · rintro ρ w' he ⟨h11, hgd, -⟩
        have e11 : ρ 11 = .pointer (some ⟨nd, 0, none⟩) := h11
        have c0 := (bd.ext he).cell (i := 0) rfl
        have c1 := (bd.ext he).cell (i := 1) rfl
        have c2 := (bd.ext he).cell (i := 2) rfl
        have c3 := (bd.ext he).cell (i := 3) rfl
        have c4 := (bd.ext he).cell (i := 4) rfl
        have c5 := (bd.ext he).cell (i := 5) rfl
        have c6 := (bd.ext he).cell (i := 6) rfl
        simp [execOp, evR, e11, c0, c1, c2, c3, c4, c5, c6, go_sem]
      refine tele_call rfl rfl Try.func22 (by kernel_rfl) (isOw 0 (b.take n)) (fun ρ w' hk => by obtain ⟨_, _, hg, -⟩ := hk; have eg : ρ 74 = .bool false := hg; simp [wantedR, Region.wanted, asBoolR, eg]) ?_ ?_
      · rintro ρ w' he ⟨h75, h76, hgd, -⟩
        have e75 : ρ 75 = .slice Ag gs.length cg := h75
        have e76 : ρ 76 = .agg #[.int .i64 s1, .int .i64 s2, .int .i64 s3, .int .i64 s4, .int .i64 s5, .int .i64 s6, .slice A2 wd.length c2] := h76
        simp only [evR, List.map_toArray, List.map_cons, List.map_nil, e75, e76]
        refine (HPD.out _ (hl.ext (hx.trans he)) (hwd.ext he)).mono ?_
        rintro e w'' ⟨r, rfl, hr, hx⟩
        exact ⟨r, rfl, hx, (show OwB _ _ _ _ from hr).mono (Nat.zero_le _)⟩
      refine tele_val rfl (strV (b.take n)) (fun ρ w' hk => by obtain ⟨_, hg, -⟩ := hk; have eg : ρ 74 = .bool false := hg; simp [wantedR, Region.wanted, asBoolR, eg]) ?_ ?_
      · rintro ρ w' he ⟨h77, hgd, -⟩
        have e77 : (isOw 0 (b.take n)).rel (ρ 77) w' := h77
        have c := (show OwB _ _ _ _ from e77).bs.str_ (P := Try.prog) 56 9 5 Try.underlying56 Try.underlying5 Try.underlying9
        simp [execOp, evR, c]
      refine tele_val rfl (.slice A b.length c) (fun ρ w' hk => by obtain ⟨_, hg, -⟩ := hk; have eg : ρ 74 = .bool false := hg; simp [wantedR, Region.wanted, asBoolR, eg]) ?_ ?_
      · rintro ρ w' he ⟨h2, hgd, -⟩
        have e2 : ρ 2 = .slice A b.length c := h2
        simp [execOp, evR, e2, go_sem]
      refine tele_val rfl (.int .i64 (n : Int)) (fun ρ w' hk => by obtain ⟨_, hg, -⟩ := hk; have eg : ρ 74 = .bool false := hg; simp [wantedR, Region.wanted, asBoolR, eg]) ?_ ?_
      · rintro ρ w' he ⟨h12, hgd, -⟩
        have e12 : ρ 12 = .int .i64 (n : Int) := h12
        simp [execOp, evR, e12, go_sem]
      refine tele_val rfl (.slice A n c) (fun ρ w' hk => by obtain ⟨_, _, hg, -⟩ := hk; have eg : ρ 74 = .bool false := hg; simp [wantedR, Region.wanted, asBoolR, eg]) ?_ ?_
      · rintro ρ w' he ⟨h79, h80, hgd, -⟩
        have e79 : ρ 79 = .slice A b.length c := h79
        have e80 : ρ 80 = .int .i64 (n : Int) := h80
        have h1 : (n : Int) ≤ (c : Int) := by have := HNL.out; omega
        have h0 : (0 : Int) ≤ (n : Int) := by omega
        have hu := Try.underlying56
        simp [execOp, evR, e79, e80, h0, h1, go_sem]
      refine tele_val rfl (strV (b.take n)) (fun ρ w' hk => by obtain ⟨_, hg, -⟩ := hk; have eg : ρ 74 = .bool false := hg; simp [wantedR, Region.wanted, asBoolR, eg]) ?_ ?_
      · rintro ρ w' he ⟨h81, hgd, -⟩
        have e81 : ρ 81 = .slice A n c := h81
        have c := ((hv.ext (hx.trans he)).upto HNL.out).str_ (P := Try.prog) 56 9 5 Try.underlying56 Try.underlying5 Try.underlying9
        simp [execOp, evR, e81, c]
      refine tele_val rfl (.bool false) (fun ρ w' hk => by obtain ⟨_, _, hg, -⟩ := hk; have eg : ρ 74 = .bool false := hg; simp [wantedR, Region.wanted, asBoolR, eg]) ?_ ?_
      · rintro ρ w' he ⟨h78, h82, hgd, -⟩
        have e78 : ρ 78 = strV (b.take n) := h78
        have e82 : ρ 82 = strV (b.take n) := h82
        exact (exec_neq_str rfl e78 e82).trans (by simp)
      refine tele_val rfl (.bool false) (fun ρ w' hk => by obtain ⟨_, _, hg, -⟩ := hk; have eg : ρ 69 = .bool true := hg; simp [wantedR, Region.wanted, asBoolR, eg]) ?_ ?_
      · rintro ρ w' he ⟨h74, h83, hgd, -⟩
        have e74 : ρ 74 = .bool false := h74
        have e83 : ρ 83 = .bool false := h83
        simp [execOp, evR, e74, e83, go_sem]
      refine tele_val rfl (.bool false) (fun _ _ _ => rfl) ?_ ?_
      · rintro ρ w' he ⟨h69, h84, -⟩
        have e69 : ρ 69 = .bool true := h69
        have e84 : ρ 84 = .bool false := h84
        simp [execOp, evR, e69, e84, go_sem]
      refine tele_nil ?_
      rintro ρ w' hext ⟨f85, f84, f83, f82, f81, f80, f79, f78, f77, f76, f75, f74, f73, f72, f71, f70, f69, f68, f67, -⟩
      clear f67
      clear f68
      clear f69
      clear f70
      clear f71
      clear f72
      clear f73
      clear f74
      clear f75
      clear f76
      clear f77
      clear f78
      clear f79
      clear f80
      clear f81
      clear f82
      clear f83
      clear f84
      replace f85 : ρ 85 = .bool false := f85
      simp only [puts, Act.put, List.setIfInBounds_toArray, List.set_cons_zero, List.set_cons_succ]
      rw [f85]
      clear f85
      replace hx := Ext.trans hx hext
      go_wp2_with fail
      refine (HL.out _).mono ?_
      rintro e w9 ⟨rfl, x9⟩
      go_wp2_with fail
      go_ret
      exact ⟨rfl, Ext.trans hx x9⟩
    · have HF := Lib.hid hf
      clear hf
      refine wp_region_mono (by kernel_rfl) (by kernel_rfl) ?_
      refine tele_move rfl (.inl rfl) rfl (isV (.int .i64 (f : Int))) (fun ρ w' h => h) ?_
      refine tele_val rfl (.bool false) (fun _ _ _ => rfl) ?_ ?_
      · rintro ρ w' he ⟨h67, -⟩
        have e67 : ρ 67 = .int .i64 (f : Int) := h67
        simp [execOp, evR, e67, HF.out, go_sem]
      refine tele_move rfl (.inl rfl) rfl (isV (.bool false)) (fun ρ w' h => h) ?_
      refine tele_pass rfl (fun ρ w' hk => by obtain ⟨_, hg, -⟩ := hk; have eg : ρ 69 = .bool false := hg; simp [wantedR, Region.wanted, asBoolR_bool, asBoolR_undef, eg]) ?_
      refine tele_pass rfl (fun ρ w' hk => by obtain ⟨_, hg, -⟩ := hk; have eg : ρ 69 = .bool false := hg; simp [wantedR, Region.wanted, asBoolR_bool, asBoolR_undef, eg]) ?_
      refine tele_pass rfl (fun ρ w' hk => by obtain ⟨_, hg, -⟩ := hk; have eg : ρ 69 = .bool false := hg; simp [wantedR, Region.wanted, asBoolR_bool, asBoolR_undef, eg]) ?_
      refine tele_pass rfl (fun ρ w' hk => by obtain ⟨_, _, hg, -⟩ := hk; have eg : ρ 69 = .bool false := hg; simp [wantedR, Region.wanted, asBoolR_bool, asBoolR_undef, eg]) ?_
      refine tele_pass rfl (fun ρ w' hk => by obtain ⟨_, hg, -⟩ := hk; have eg : ρ 69 = .bool false := hg; simp [wantedR, Region.wanted, asBoolR_bool, asBoolR_undef, eg]) ?_
      refine tele_pass rfl (fun ρ w' hk => by obtain ⟨_, hg, -⟩ := hk; have eg : ρ 74 = undef := hg; simp [wantedR, Region.wanted, asBoolR_bool, asBoolR_undef, eg]) ?_
      refine tele_pass rfl (fun ρ w' hk => by obtain ⟨_, hg, -⟩ := hk; have eg : ρ 74 = undef := hg; simp [wantedR, Region.wanted, asBoolR_bool, asBoolR_undef, eg]) ?_
      refine tele_pass rfl (fun ρ w' hk => by obtain ⟨_, _, hg, -⟩ := hk; have eg : ρ 74 = undef := hg; simp [wantedR, Region.wanted, asBoolR_bool, asBoolR_undef, eg]) ?_
      refine tele_pass rfl (fun ρ w' hk => by obtain ⟨_, hg, -⟩ := hk; have eg : ρ 74 = undef := hg; simp [wantedR, Region.wanted, asBoolR_bool, asBoolR_undef, eg]) ?_
      refine tele_pass rfl (fun ρ w' hk => by obtain ⟨_, hg, -⟩ := hk; have eg : ρ 74 = undef := hg; simp [wantedR, Region.wanted, asBoolR_bool, asBoolR_undef, eg]) ?_
      refine tele_pass rfl (fun ρ w' hk => by obtain ⟨_, hg, -⟩ := hk; have eg : ρ 74 = undef := hg; simp [wantedR, Region.wanted, asBoolR_bool, asBoolR_undef, eg]) ?_
      refine tele_pass rfl (fun ρ w' hk => by obtain ⟨_, _, hg, -⟩ := hk; have eg : ρ 74 = undef := hg; simp [wantedR, Region.wanted, asBoolR_bool, asBoolR_undef, eg]) ?_
      refine tele_pass rfl (fun ρ w' hk => by obtain ⟨_, hg, -⟩ := hk; have eg : ρ 74 = undef := hg; simp [wantedR, Region.wanted, asBoolR_bool, asBoolR_undef, eg]) ?_
      refine tele_pass rfl (fun ρ w' hk => by obtain ⟨_, _, hg, -⟩ := hk; have eg : ρ 74 = undef := hg; simp [wantedR, Region.wanted, asBoolR_bool, asBoolR_undef, eg]) ?_
      refine tele_pass rfl (fun ρ w' hk => by obtain ⟨_, _, hg, -⟩ := hk; have eg : ρ 69 = .bool false := hg; simp [wantedR, Region.wanted, asBoolR_bool, asBoolR_undef, eg]) ?_
      refine tele_val rfl (.bool false) (fun _ _ _ => rfl) ?_ ?_
      · rintro ρ w' he ⟨h69, h84, -⟩
        have e69 : ρ 69 = .bool false := h69
        have e84 : ρ 84 = undef := h84
        simp [execOp, evR, e69, e84, go_sem]
      refine tele_nil ?_
      rintro ρ w' hext ⟨f85, f84, f83, f82, f81, f80, f79, f78, f77, f76, f75, f74, f73, f72, f71, f70, f69, f68, f67, -⟩
      clear f67
      clear f68
      clear f69
      clear f70
      clear f71
      clear f72
      clear f73
      clear f74
      clear f75
      clear f76
      clear f77
      clear f78
      clear f79
      clear f80
      clear f81
      clear f82
      clear f83
      clear f84
      replace f85 : ρ 85 = .bool false := f85
      simp only [puts, Act.put, List.setIfInBounds_toArray, List.set_cons_zero, List.set_cons_succ]
      rw [f85]
      clear f85
      replace hx := Ext.trans hx hext
      go_wp2_with fail
      refine (HL.out _).mono ?_
      rintro e w9 ⟨rfl, x9⟩
      go_wp2_with fail
      go_ret
      exact ⟨rfl, Ext.trans hx x9⟩
end Go.Proofs.Ytocdifjdeifclaa
