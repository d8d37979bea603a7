/-
  The walk of ChangeChecks.
-/
import Derived.Test.YtocdifjdeifclaaChRowsRef
import Derived.Test.YtocdifjdeifclaaRowSame
import Derived.Test.YtocdifjdeifclaaChHas
import Derived.Test.YtocdifjdeifclaaChLaw0
namespace Go.Proofs.Ytocdifjdeifclaa
open Go Go.RowKit Mono Num
set_option linter.unusedVariables false
set_option linter.unusedSimpArgs false
set_option maxRecDepth 100000

theorem crows_snd (gs : List Grp) (c : Ch) : (crows gs c).2 = cgood gs c := by
  unfold crows
  by_cases h : cgood gs c ≠ 0
  · rw [if_pos h]
  · rw [if_neg h]
    dsimp only
    omega

set_option maxHeartbeats 16000000 in
theorem changeChecks_walk (vl : Value) (gs : List Grp) (s1 s2 s3 s4 s5 s6 : Int) (vw : Value) (ws : List Wr) (key : List UInt8) (g : Int) (dd : Bool) (zz : List UInt8) (w : World) (hl : Gs w vl gs) (hw : Ws w vw ws) (hkl : key.length ≤ maxLen) :
    Calls Try.prog 3 #[vl, chV ⟨s1, s2, s3, s4, s5, s6, ws⟩ vw, .agg #[strV key, .int .i64 g, .bool dd, strV zz]] w fun e w' => e = .returned (.bool true) ∧ Ext w w' := by
  have HL := Lib.hid (fun w => lives_any w)
  obtain ⟨Ag, cg, rfl, _⟩ := hl.at_
  obtain ⟨A, c, rfl, h1, h2, h3, h4⟩ := hw.at_
  have H4 := Lib.hid h4
  have HGS := Lib.hid hl
  have HWS := Lib.hid hw
  have HLI := Lib.hid (fun w h1 h2 => light_any (.slice Ag gs.length cg) gs (.slice A ws.length c) ws w h1 h2)
  have hgd := fun w1 (he : Ext w w1) => chGood_any (.slice Ag gs.length cg) gs s1 s2 s3 s4 s5 s6 (.slice A ws.length c) ws w1 (hl.ext he) (hw.ext he)
  have hgr := fun w1 (he : Ext w w1) => refChGood_any (.slice Ag gs.length cg) gs s1 s2 s3 s4 s5 s6 (.slice A ws.length c) ws w1 (hl.ext he) (hw.ext he)
  have hrw := fun w1 (he : Ext w w1) => chRows_any (.slice Ag gs.length cg) gs s1 s2 s3 s4 s5 s6 ws (.slice A ws.length c) w1 (hl.ext he) (hw.ext he)
  have hrr := fun w1 (he : Ext w w1) => refRows_any (.slice Ag gs.length cg) gs s1 s2 s3 s4 s5 s6 ws (.slice A ws.length c) w1 (hl.ext he) (hw.ext he)
  have hhs := fun w1 (he : Ext w w1) => chHas_any s1 s2 s3 s4 s5 s6 (.slice A ws.length c) ws key g w1 (hw.ext he)
  have HEF : Hid ((crows gs ⟨s1, s2, s3, s4, s5, s6, ws⟩).2 = cgood gs ⟨s1, s2, s3, s4, s5, s6, ws⟩) := Lib.hid (crows_snd gs ⟨s1, s2, s3, s4, s5, s6, ws⟩)
  rw [← HEF.out] at hgd hgr
  unfold chV at hgd hgr hrw hrr hhs ⊢
  dsimp only at hgd hgr hrw hrr hhs ⊢
  have HGD := Lib.hid hgd
  have HGR := Lib.hid hgr
  have HRW := Lib.hid hrw
  have HRR := Lib.hid hrr
  have HHS := Lib.hid hhs
  clear hgd hgr hrw hrr hhs h4 HEF
  unfold strV
  go_enter Try.func3, Try.ntmps3
  go_upto_region 1 with (fail)
  have ba := Blk.new w #[.int .i64 s1, .int .i64 s2, .int .i64 s3, .int .i64 s4, .int .i64 s5, .int .i64 s6, .slice A ws.length c] 29
  have bb := Blk.new (w.alloc (.cells #[.int .i64 s1, .int .i64 s2, .int .i64 s3, .int .i64 s4, .int .i64 s5, .int .i64 s6, .slice A ws.length c] 29)) #[.string ⟨key.toArray⟩, .int .i64 g, .bool dd, .string ⟨zz.toArray⟩] 31
  replace ba := ba.ext (ext_alloc _ (.cells #[.string ⟨key.toArray⟩, .int .i64 g, .bool dd, .string ⟨zz.toArray⟩] 31))
  have hx := Ext.trans (ext_alloc w (.cells #[.int .i64 s1, .int .i64 s2, .int .i64 s3, .int .i64 s4, .int .i64 s5, .int .i64 s6, .slice A ws.length c] 29)) (ext_alloc _ (.cells #[.string ⟨key.toArray⟩, .int .i64 g, .bool dd, .string ⟨zz.toArray⟩] 31))
  simp only [World.size_alloc] at bb
  obtain ⟨n4, hn4⟩ : ∃ n, n = w.heap.size := ⟨_, rfl⟩
  obtain ⟨n5, hn5⟩ : ∃ n, n = w.heap.size + 1 := ⟨_, rfl⟩
  rw [← hn4] at ba
  rw [← hn5] at bb
  rw [← hn5, ← hn4]
  clear hn4 hn5
  generalize (w.alloc (.cells #[.int .i64 s1, .int .i64 s2, .int .i64 s3, .int .i64 s4, .int .i64 s5, .int .i64 s6, .slice A ws.length c] 29)).alloc (.cells #[.string ⟨key.toArray⟩, .int .i64 g, .bool dd, .string ⟨zz.toArray⟩] 31) = W at *
  have k6 := ba.cell (i := 6) rfl
  go_wp2_with fail
  refine (HLI.out _ (HGS.out.ext hx) (HWS.out.ext hx)).mono ?_
  rintro e w1 ⟨⟨q, rfl⟩, x1⟩
  clear k6
  replace hx := Ext.trans hx x1
  replace ba := ba.ext x1
  replace bb := bb.ext x1
  clear x1
  have c0 := bb.cell (i := 0) rfl
  cases q
  · go_wp2_with fail
    refine (HL.out _).mono ?_
    rintro e w9 ⟨rfl, x9⟩
    go_wp2_with fail
    go_ret
    exact ⟨rfl, Ext.trans hx x9⟩
  by_cases h5 : 1000 < key.length
  · go_wp2_with fail
    refine (HL.out _).mono ?_
    rintro e w9 ⟨rfl, x9⟩
    go_wp2_with fail
    go_ret
    exact ⟨rfl, Ext.trans hx x9⟩
  have k0 := ba.cell (i := 0) rfl
  have k1 := ba.cell (i := 1) rfl
  have k2 := ba.cell (i := 2) rfl
  have k3 := ba.cell (i := 3) rfl
  have k4 := ba.cell (i := 4) rfl
  have k5 := ba.cell (i := 5) rfl
  have k6 := ba.cell (i := 6) rfl
  go_wp2_with fail
  clear c0
  refine (HRW.out _ hx).mono ?_
  rintro e w2 ⟨va, outs, rfl, hja, hma⟩
  clear k0 k1 k2 k3 k4 k5 k6
  have hra := hja.read
  replace hx := Ext.trans hx hja.ext
  replace ba := ba.ext hja.ext
  replace bb := bb.ext hja.ext
  clear hja HRW
  have k0 := ba.cell (i := 0) rfl
  have k1 := ba.cell (i := 1) rfl
  have k2 := ba.cell (i := 2) rfl
  have k3 := ba.cell (i := 3) rfl
  have k4 := ba.cell (i := 4) rfl
  have k5 := ba.cell (i := 5) rfl
  have k6 := ba.cell (i := 6) rfl
  go_wp2_with fail
  refine (HRR.out _ hx).mono ?_
  rintro e w3 ⟨vb, outs', rfl, hjb, hmb⟩
  clear k0 k1 k2 k3 k4 k5 k6
  have hrb := hjb.read
  replace hra := hra.ext hjb.ext
  replace hx := Ext.trans hx hjb.ext
  replace ba := ba.ext hjb.ext
  replace bb := bb.ext hjb.ext
  clear hjb HRR
  have hall := fun w4 (he : Ext w3 w4) => rowsAll_any va vb outs outs' w4 (hra.ext he) (hrb.ext he) (hma.trans hmb.symm)
  have HAL := Lib.hid hall
  clear hall hma hmb hra hrb outs outs'
  generalize (crows gs ⟨s1, s2, s3, s4, s5, s6, ws⟩).2 = f at *
  have k6 := ba.cell (i := 6) rfl
  go_wp2_with fail
  clear k6
  have HE3 := Lib.hid hx
  have BA3 := Lib.hid ba
  have BB3 := Lib.hid bb
  clear ba bb hx
  go_loopw [11, 41] (fun b i wr => ∃ k : Nat, k ≤ ws.length ∧ b = .bool (chas key g (ws.take k)) ∧ i = .int .i64 k ∧ Ext w3 wr) (fun _ i _ => ws.length - (intOf i).toNat)
  case atStart => exact ⟨0, Nat.zero_le _, rfl, rfl, Ext.refl _⟩
  case round =>
    obtain ⟨k, hk, rfl, rfl, h0⟩ := hrel
    by_cases hlt : k < ws.length
    · obtain ⟨b, off, rfl, hb, hc⟩ := H4.out (by omega)
      obtain ⟨ky, gi, d, z, hget, p0, p1, p2, p3, -, -, -⟩ := hc k hlt
      have HGET := Lib.hid hget
      replace p0 := ((HE3.out.trans h0).cell (p := ⟨b, off + k * 4, none⟩) hb).trans p0
      replace p1 := ((HE3.out.trans h0).cell (p := ⟨b, off + k * 4 + 1, none⟩) hb).trans p1
      replace p2 := ((HE3.out.trans h0).cell (p := ⟨b, off + k * 4 + 2, none⟩) hb).trans p2
      replace p3 := ((HE3.out.trans h0).cell (p := ⟨b, off + k * 4 + 3, none⟩) hb).trans p3
      unfold strV at p0 p3
      clear hget hc
      go_upto_region 9 with (fail)
      clear p0 p1 p2 p3
      have bt := Blk.new wr #[.string ⟨ky.toArray⟩, .int .i64 gi, .bool d, .string ⟨z.toArray⟩] 31
      replace h0 := h0.trans (ext_alloc wr (.cells #[.string ⟨ky.toArray⟩, .int .i64 gi, .bool d, .string ⟨z.toArray⟩] 31))
      generalize wr.heap.size = n13 at *
      generalize wr.alloc (.cells #[.string ⟨ky.toArray⟩, .int .i64 gi, .bool d, .string ⟨z.toArray⟩] 31) = W1 at *
      have BTT : Hid (Blk W1 n13 [strV ky, .int .i64 gi, .bool d, strV z]) := Lib.hid bt
      have BB : Hid (Blk W1 n5 [strV key, .int .i64 g, .bool dd, strV zz]) := Lib.hid (BB3.out.ext h0)
      clear bt
      obtain ⟨q0, Q0⟩ : ∃ q, q = chas key g (ws.take k) := ⟨_, rfl⟩
      rw [← Q0]
      obtain ⟨q1, Q51⟩ : ∃ q : Bool, q = (ky == key) := ⟨_, rfl⟩
      obtain ⟨q2, Q57⟩ : ∃ q : Bool, q = (gi == g) := ⟨_, rfl⟩
      refine wp_region_seq (by kernel_rfl) ?_
      refine tele_move rfl (.inl rfl) rfl (isV (.bool q0)) (fun ρ w' h => h) ?_
      refine tele_move rfl (.inl rfl) rfl (isV (.bool q0)) (fun ρ w' h => h) ?_
      refine tele_gval rfl (!q0) (.pointer (some ⟨n13, 0, none⟩)) (fun ρ w' hk => by obtain ⟨_, hg, -⟩ := hk; have eg : ρ 46 = .bool q0 := hg; cases hq : (q0) <;> simp [wantedR, Region.wanted, asBoolR_bool, asBoolR_undef, eg, ifV, hq]) ?_ ?_
      · rintro ρ w' he ⟨h13, hgd, -⟩ hG
        have e13 : ρ 13 = .pointer (some ⟨n13, 0, none⟩) := h13
        simp [execOp, evR, e13, go_sem]
      refine tele_gval rfl (!q0) (strV ky) (fun ρ w' hk => by obtain ⟨_, hg, -⟩ := hk; have eg : ρ 46 = .bool q0 := hg; cases hq : (q0) <;> simp [wantedR, Region.wanted, asBoolR_bool, asBoolR_undef, eg, ifV, hq]) ?_ ?_
      · rintro ρ w' he ⟨h47, hgd, -⟩ hG
        have e47 : ρ 47 = .pointer (some ⟨n13, 0, none⟩) := (show ρ 47 = ifV (!q0) (.pointer (some ⟨n13, 0, none⟩)) from h47).trans (ifV_true (by first | exact hG | simp_all))
        have c0 := (BTT.out.ext he).cell (i := 0) rfl
        simp [execOp, evR, e47, c0, go_sem]
      refine tele_gval rfl (!q0) (.pointer (some ⟨n5, 0, none⟩)) (fun ρ w' hk => by obtain ⟨_, hg, -⟩ := hk; have eg : ρ 46 = .bool q0 := hg; cases hq : (q0) <;> simp [wantedR, Region.wanted, asBoolR_bool, asBoolR_undef, eg, ifV, hq]) ?_ ?_
      · rintro ρ w' he ⟨h5, hgd, -⟩ hG
        have e5 : ρ 5 = .pointer (some ⟨n5, 0, none⟩) := h5
        simp [execOp, evR, e5, go_sem]
      refine tele_gval rfl (!q0) (strV key) (fun ρ w' hk => by obtain ⟨_, hg, -⟩ := hk; have eg : ρ 46 = .bool q0 := hg; cases hq : (q0) <;> simp [wantedR, Region.wanted, asBoolR_bool, asBoolR_undef, eg, ifV, hq]) ?_ ?_
      · rintro ρ w' he ⟨h49, hgd, -⟩ hG
        have e49 : ρ 49 = .pointer (some ⟨n5, 0, none⟩) := (show ρ 49 = ifV (!q0) (.pointer (some ⟨n5, 0, none⟩)) from h49).trans (ifV_true (by first | exact hG | simp_all))
        have c0 := (BB.out.ext he).cell (i := 0) rfl
        simp [execOp, evR, e49, c0, go_sem]
      refine tele_gval rfl (!q0) (.bool q1) (fun ρ w' hk => by obtain ⟨_, _, hg, -⟩ := hk; have eg : ρ 46 = .bool q0 := hg; cases hq : (q0) <;> simp [wantedR, Region.wanted, asBoolR_bool, asBoolR_undef, eg, ifV, hq]) ?_ ?_
      · rintro ρ w' he ⟨h48, h50, hgd, -⟩ hG
        have e48 : ρ 48 = strV ky := (show ρ 48 = ifV (!q0) (strV ky) from h48).trans (ifV_true (by first | exact hG | simp_all))
        have e50 : ρ 50 = strV key := (show ρ 50 = ifV (!q0) (strV key) from h50).trans (ifV_true (by first | exact hG | simp_all))
        exact (exec_eql_str rfl e48 e50).trans (by rw [Q51])
      refine tele_gval rfl (!q0) (.bool q1) (fun ρ w' hk => by obtain ⟨_, hg, -⟩ := hk; have eg : ρ 46 = .bool q0 := hg; cases hq : (q0) <;> simp [wantedR, Region.wanted, asBoolR_bool, asBoolR_undef, eg, ifV, hq]) ?_ ?_
      · rintro ρ w' he ⟨h51, hgd, -⟩ hG
        have e51 : ρ 51 = .bool q1 := (show ρ 51 = ifV (!q0) (.bool q1) from h51).trans (ifV_true (by first | exact hG | simp_all))
        simp [execOp, evR, e51, go_sem]
      refine tele_gval rfl ((!q0 && q1)) (.pointer (some ⟨n13, 1, none⟩)) (fun ρ w' hk => by obtain ⟨_, hg, -⟩ := hk; have eg : ρ 52 = ifV (!q0) (.bool q1) := hg; cases h0 : (!q0) <;> cases hq : (q1) <;> simp [wantedR, Region.wanted, asBoolR_bool, asBoolR_undef, eg, ifV, hq, h0]) ?_ ?_
      · rintro ρ w' he ⟨h13, hgd, -⟩ hG
        have e13 : ρ 13 = .pointer (some ⟨n13, 0, none⟩) := h13
        simp [execOp, evR, e13, go_sem]
      refine tele_gval rfl ((!q0 && q1)) (.int .i64 gi) (fun ρ w' hk => by obtain ⟨_, hg, -⟩ := hk; have eg : ρ 52 = ifV (!q0) (.bool q1) := hg; cases h0 : (!q0) <;> cases hq : (q1) <;> simp [wantedR, Region.wanted, asBoolR_bool, asBoolR_undef, eg, ifV, hq, h0]) ?_ ?_
      · rintro ρ w' he ⟨h53, hgd, -⟩ hG
        have e53 : ρ 53 = .pointer (some ⟨n13, 1, none⟩) := (show ρ 53 = ifV ((!q0 && q1)) (.pointer (some ⟨n13, 1, none⟩)) from h53).trans (ifV_true (by first | exact hG | simp_all))
        have c0 := (BTT.out.ext he).cell (i := 1) rfl
        simp [execOp, evR, e53, c0, go_sem]
      refine tele_gval rfl ((!q0 && q1)) (.pointer (some ⟨n5, 1, none⟩)) (fun ρ w' hk => by obtain ⟨_, hg, -⟩ := hk; have eg : ρ 52 = ifV (!q0) (.bool q1) := hg; cases h0 : (!q0) <;> cases hq : (q1) <;> simp [wantedR, Region.wanted, asBoolR_bool, asBoolR_undef, eg, ifV, hq, h0]) ?_ ?_
      · rintro ρ w' he ⟨h5, hgd, -⟩ hG
        have e5 : ρ 5 = .pointer (some ⟨n5, 0, none⟩) := h5
        simp [execOp, evR, e5, go_sem]
      refine tele_gval rfl ((!q0 && q1)) (.int .i64 g) (fun ρ w' hk => by obtain ⟨_, hg, -⟩ := hk; have eg : ρ 52 = ifV (!q0) (.bool q1) := hg; cases h0 : (!q0) <;> cases hq : (q1) <;> simp [wantedR, Region.wanted, asBoolR_bool, asBoolR_undef, eg, ifV, hq, h0]) ?_ ?_
      · rintro ρ w' he ⟨h55, hgd, -⟩ hG
        have e55 : ρ 55 = .pointer (some ⟨n5, 1, none⟩) := (show ρ 55 = ifV ((!q0 && q1)) (.pointer (some ⟨n5, 1, none⟩)) from h55).trans (ifV_true (by first | exact hG | simp_all))
        have c0 := (BB.out.ext he).cell (i := 1) rfl
        simp [execOp, evR, e55, c0, go_sem]
      refine tele_gval rfl ((!q0 && q1)) (.bool q2) (fun ρ w' hk => by obtain ⟨_, _, hg, -⟩ := hk; have eg : ρ 52 = ifV (!q0) (.bool q1) := hg; cases h0 : (!q0) <;> cases hq : (q1) <;> simp [wantedR, Region.wanted, asBoolR_bool, asBoolR_undef, eg, ifV, hq, h0]) ?_ ?_
      · rintro ρ w' he ⟨h54, h56, hgd, -⟩ hG
        have e54 : ρ 54 = .int .i64 gi := (show ρ 54 = ifV ((!q0 && q1)) (.int .i64 gi) from h54).trans (ifV_true (by first | exact hG | simp_all))
        have e56 : ρ 56 = .int .i64 g := (show ρ 56 = ifV ((!q0 && q1)) (.int .i64 g) from h56).trans (ifV_true (by first | exact hG | simp_all))
        rw [Q57]
        simp [execOp, evR, e54, e56, go_sem]
      refine tele_gval rfl (!q0) (.bool (q1 && q2)) (fun ρ w' hk => by obtain ⟨_, _, hg, -⟩ := hk; have eg : ρ 46 = .bool q0 := hg; cases hq : (q0) <;> simp [wantedR, Region.wanted, asBoolR_bool, asBoolR_undef, eg, ifV, hq]) ?_ ?_
      · rintro ρ w' he ⟨h52, h57, hgd, -⟩ hG
        have e52 : ρ 52 = .bool q1 := (show ρ 52 = ifV (!q0) (.bool q1) from h52).trans (ifV_true (by first | exact hG | simp_all))
        have e57 : ρ 57 = ifV ((!q0 && q1)) (.bool q2) := h57
        cases hc : (q1) <;> simp [execOp, evR, e52, e57, ifV, hc, hG, go_sem]
      refine tele_val rfl (.bool (q0 || (q1 && q2))) (fun _ _ _ => rfl) ?_ ?_
      · rintro ρ w' he ⟨h46, h58, -⟩
        have e46 : ρ 46 = .bool q0 := h46
        have e58 : ρ 58 = ifV (!q0) (.bool (q1 && q2)) := h58
        cases hc : (q0) <;> simp [execOp, evR, e46, e58, ifV, hc, go_sem]
      refine tele_move rfl (.inr rfl) rfl (isV (.bool (q0 || (q1 && q2)))) (fun ρ w' h => h) ?_
      refine tele_nil ?_
      rintro ρ w' hext ⟨f11, f59, f58, f57, f56, f55, f54, f53, f52, f51, f50, f49, f48, f47, f46, f45, -⟩
      clear f45
      clear f46
      clear f47
      clear f48
      clear f49
      clear f50
      clear f51
      clear f52
      clear f53
      clear f54
      clear f55
      clear f56
      clear f57
      clear f58
      clear f59
      replace f11 : ρ 11 = .bool (q0 || (q1 && q2)) := f11
      simp only [puts, Act.put, List.setIfInBounds_toArray, List.set_cons_zero, List.set_cons_succ]
      have hok : ((q0 || (q1 && q2))) = chas key g (ws.take (k + 1)) := by
        rw [chas_step HGET.out, Q0, Q51, Q57]
      rw [f11, hok]
      clear f11 hok Q0 Q51 Q57 BTT BB
      go_wp2_with fail
      go_roundw
      case rel => exact ⟨k + 1, by omega, rfl, by go_num, Ext.trans h0 hext⟩
      case measure => simp [intOf]; omega
    · have hok : chas key g (ws.take k) = chas key g ws := by rw [List.take_of_length_le (by omega)]
      rw [hok]
      clear hok
      generalize chas key g ws = hh at *
      have HE := Lib.hid (HE3.out.trans h0)
      have BA : Hid (Blk wr n4 [.int .i64 s1, .int .i64 s2, .int .i64 s3, .int .i64 s4, .int .i64 s5, .int .i64 s6, .slice A ws.length c]) := Lib.hid (BA3.out.ext h0)
      have BB : Hid (Blk wr n5 [strV key, .int .i64 g, .bool dd, strV zz]) := Lib.hid (BB3.out.ext h0)
      have hal := fun w5 (he : Ext wr w5) => HAL.out w5 (h0.trans he)
      replace HAL := Lib.hid hal
      clear hal BA3 BB3 HE3 h0
      go_wp2_with fail
      refine wp_region_mono (by kernel_rfl) (by kernel_rfl) ?_
      refine tele_move rfl (.inl rfl) rfl (isV (.slice Ag gs.length cg)) (fun ρ w' h => h) ?_
      refine tele_val rfl (.agg #[.int .i64 s1, .int .i64 s2, .int .i64 s3, .int .i64 s4, .int .i64 s5, .int .i64 s6, .slice A ws.length c]) (fun _ _ _ => rfl) ?_ ?_
      · rintro ρ w' he ⟨h4, -⟩
        have e4 : ρ 4 = .pointer (some ⟨n4, 0, none⟩) := h4
        have c0 := (BA.out.ext he).cell (i := 0) rfl
        have c1 := (BA.out.ext he).cell (i := 1) rfl
        have c2 := (BA.out.ext he).cell (i := 2) rfl
        have c3 := (BA.out.ext he).cell (i := 3) rfl
        have c4 := (BA.out.ext he).cell (i := 4) rfl
        have c5 := (BA.out.ext he).cell (i := 5) rfl
        have c6 := (BA.out.ext he).cell (i := 6) rfl
        simp [execOp, evR, e4, c0, c1, c2, c3, c4, c5, c6, go_sem]
      refine tele_call rfl rfl Try.func13 (by kernel_rfl) (isV (.int .i64 (f : Int))) (fun _ _ _ => rfl) ?_ ?_
      · rintro ρ w' he ⟨h61, h62, -⟩
        have e61 : ρ 61 = .slice Ag gs.length cg := h61
        have e62 : ρ 62 = .agg #[.int .i64 s1, .int .i64 s2, .int .i64 s3, .int .i64 s4, .int .i64 s5, .int .i64 s6, .slice A ws.length c] := h62
        simp only [evR, List.map_toArray, List.map_cons, List.map_nil, e61, e62]
        refine (HGD.out _ (HE.out.trans he)).mono ?_
        rintro e w'' ⟨rfl, hx⟩
        exact ⟨_, rfl, hx, rfl⟩
      refine tele_move rfl (.inl rfl) rfl (isV (.slice Ag gs.length cg)) (fun ρ w' h => h) ?_
      refine tele_val rfl (.agg #[.int .i64 s1, .int .i64 s2, .int .i64 s3, .int .i64 s4, .int .i64 s5, .int .i64 s6, .slice A ws.length c]) (fun _ _ _ => rfl) ?_ ?_
      · rintro ρ w' he ⟨h4, -⟩
        have e4 : ρ 4 = .pointer (some ⟨n4, 0, none⟩) := h4
        have c0 := (BA.out.ext he).cell (i := 0) rfl
        have c1 := (BA.out.ext he).cell (i := 1) rfl
        have c2 := (BA.out.ext he).cell (i := 2) rfl
        have c3 := (BA.out.ext he).cell (i := 3) rfl
        have c4 := (BA.out.ext he).cell (i := 4) rfl
        have c5 := (BA.out.ext he).cell (i := 5) rfl
        have c6 := (BA.out.ext he).cell (i := 6) rfl
        simp [execOp, evR, e4, c0, c1, c2, c3, c4, c5, c6, go_sem]
      refine tele_call rfl rfl Try.func14 (by kernel_rfl) (isV (.int .i64 (f : Int))) (fun _ _ _ => rfl) ?_ ?_
      · rintro ρ w' he ⟨h64, h65, -⟩
        have e64 : ρ 64 = .slice Ag gs.length cg := h64
        have e65 : ρ 65 = .agg #[.int .i64 s1, .int .i64 s2, .int .i64 s3, .int .i64 s4, .int .i64 s5, .int .i64 s6, .slice A ws.length c] := h65
        simp only [evR, List.map_toArray, List.map_cons, List.map_nil, e64, e65]
        refine (HGR.out _ (HE.out.trans he)).mono ?_
        rintro e w'' ⟨rfl, hx⟩
        exact ⟨_, rfl, hx, rfl⟩
      refine tele_val rfl (.bool true) (fun _ _ _ => rfl) ?_ ?_
      · rintro ρ w' he ⟨h63, h66, -⟩
        have e63 : ρ 63 = .int .i64 (f : Int) := h63
        have e66 : ρ 66 = .int .i64 (f : Int) := h66
        simp [execOp, evR, e63, e66, go_sem]
      refine tele_move rfl (.inl rfl) rfl (isV (.bool true)) (fun ρ w' h => h) ?_
      refine tele_val rfl (va) (fun ρ w' hk => by obtain ⟨_, hg, -⟩ := hk; have eg : ρ 68 = .bool true := hg; simp [wantedR, Region.wanted, asBoolR, eg]) ?_ ?_
      · rintro ρ w' he ⟨h7, hgd, -⟩
        have e7 : ρ 7 = va := h7
        simp [execOp, evR, e7, go_sem]
      refine tele_val rfl (vb) (fun ρ w' hk => by obtain ⟨_, hg, -⟩ := hk; have eg : ρ 68 = .bool true := hg; simp [wantedR, Region.wanted, asBoolR, eg]) ?_ ?_
      · rintro ρ w' he ⟨h9, hgd, -⟩
        have e9 : ρ 9 = vb := h9
        simp [execOp, evR, e9, go_sem]
      refine tele_call rfl rfl Try.func15 (by kernel_rfl) (isV (.bool true)) (fun ρ w' hk => by obtain ⟨_, _, hg, -⟩ := hk; have eg : ρ 68 = .bool true := hg; simp [wantedR, Region.wanted, asBoolR, eg]) ?_ ?_
      · rintro ρ w' he ⟨h69, h70, hgd, -⟩
        have e69 : ρ 69 = va := h69
        have e70 : ρ 70 = vb := h70
        simp only [evR, List.map_toArray, List.map_cons, List.map_nil, e69, e70]
        refine (HAL.out _ he).mono ?_
        rintro e w'' ⟨rfl, hx⟩
        exact ⟨_, rfl, hx, rfl⟩
      refine tele_val rfl (.bool true) (fun _ _ _ => rfl) ?_ ?_
      · rintro ρ w' he ⟨h68, h71, -⟩
        have e68 : ρ 68 = .bool true := h68
        have e71 : ρ 71 = .bool true := h71
        simp [execOp, evR, e68, e71, go_sem]
      refine tele_move rfl (.inl rfl) rfl (isV (.bool true)) (fun ρ w' h => h) ?_
      refine tele_val rfl (.int .i64 (f : Int)) (fun ρ w' hk => by obtain ⟨_, hg, -⟩ := hk; have eg : ρ 73 = .bool true := hg; simp [wantedR, Region.wanted, asBoolR, eg]) ?_ ?_
      · rintro ρ w' he ⟨h8, hgd, -⟩
        have e8 : ρ 8 = .int .i64 (f : Int) := h8
        simp [execOp, evR, e8, go_sem]
      refine tele_val rfl (.int .i64 (f : Int)) (fun ρ w' hk => by obtain ⟨_, hg, -⟩ := hk; have eg : ρ 73 = .bool true := hg; simp [wantedR, Region.wanted, asBoolR, eg]) ?_ ?_
      · rintro ρ w' he ⟨h10, hgd, -⟩
        have e10 : ρ 10 = .int .i64 (f : Int) := h10
        simp [execOp, evR, e10, go_sem]
      refine tele_val rfl (.bool true) (fun ρ w' hk => by obtain ⟨_, _, hg, -⟩ := hk; have eg : ρ 73 = .bool true := hg; simp [wantedR, Region.wanted, asBoolR, eg]) ?_ ?_
      · rintro ρ w' he ⟨h74, h75, hgd, -⟩
        have e74 : ρ 74 = .int .i64 (f : Int) := h74
        have e75 : ρ 75 = .int .i64 (f : Int) := h75
        simp [execOp, evR, e74, e75, go_sem]
      refine tele_val rfl (.bool true) (fun _ _ _ => rfl) ?_ ?_
      · rintro ρ w' he ⟨h73, h76, -⟩
        have e73 : ρ 73 = .bool true := h73
        have e76 : ρ 76 = .bool true := h76
        simp [execOp, evR, e73, e76, go_sem]
      refine tele_move rfl (.inl rfl) rfl (isV (.bool true)) (fun ρ w' h => h) ?_
      refine tele_val rfl (.agg #[.int .i64 s1, .int .i64 s2, .int .i64 s3, .int .i64 s4, .int .i64 s5, .int .i64 s6, .slice A ws.length c]) (fun ρ w' hk => by obtain ⟨_, hg, -⟩ := hk; have eg : ρ 78 = .bool true := hg; simp [wantedR, Region.wanted, asBoolR, eg]) ?_ ?_
      · rintro ρ w' he ⟨h4, hgd, -⟩
        have e4 : ρ 4 = .pointer (some ⟨n4, 0, none⟩) := h4
        have c0 := (BA.out.ext he).cell (i := 0) rfl
        have c1 := (BA.out.ext he).cell (i := 1) rfl
        have c2 := (BA.out.ext he).cell (i := 2) rfl
        have c3 := (BA.out.ext he).cell (i := 3) rfl
        have c4 := (BA.out.ext he).cell (i := 4) rfl
        have c5 := (BA.out.ext he).cell (i := 5) rfl
        have c6 := (BA.out.ext he).cell (i := 6) rfl
        simp [execOp, evR, e4, c0, c1, c2, c3, c4, c5, c6, go_sem]
      refine tele_val rfl (.pointer (some ⟨n5, 0, none⟩)) (fun ρ w' hk => by obtain ⟨_, hg, -⟩ := hk; have eg : ρ 78 = .bool true := hg; simp [wantedR, Region.wanted, asBoolR, eg]) ?_ ?_
      · rintro ρ w' he ⟨h5, hgd, -⟩
        have e5 : ρ 5 = .pointer (some ⟨n5, 0, none⟩) := h5
        simp [execOp, evR, e5, go_sem]
      refine tele_val rfl (strV key) (fun ρ w' hk => by obtain ⟨_, hg, -⟩ := hk; have eg : ρ 78 = .bool true := hg; simp [wantedR, Region.wanted, asBoolR, eg]) ?_ ?_
      · rintro ρ w' he ⟨h80, hgd, -⟩
        have e80 : ρ 80 = .pointer (some ⟨n5, 0, none⟩) := h80
        have c0 := (BB.out.ext he).cell (i := 0) rfl
        simp [execOp, evR, e80, c0, go_sem]
      refine tele_val rfl (.pointer (some ⟨n5, 1, none⟩)) (fun ρ w' hk => by obtain ⟨_, hg, -⟩ := hk; have eg : ρ 78 = .bool true := hg; simp [wantedR, Region.wanted, asBoolR, eg]) ?_ ?_
      · rintro ρ w' he ⟨h5, hgd, -⟩
        have e5 : ρ 5 = .pointer (some ⟨n5, 0, none⟩) := h5
        simp [execOp, evR, e5, go_sem]
      refine tele_val rfl (.int .i64 g) (fun ρ w' hk => by obtain ⟨_, hg, -⟩ := hk; have eg : ρ 78 = .bool true := hg; simp [wantedR, Region.wanted, asBoolR, eg]) ?_ ?_
      · rintro ρ w' he ⟨h82, hgd, -⟩
        have e82 : ρ 82 = .pointer (some ⟨n5, 1, none⟩) := h82
        have c0 := (BB.out.ext he).cell (i := 1) rfl
        simp [execOp, evR, e82, c0, go_sem]
      refine tele_call rfl rfl Try.func16 (by kernel_rfl) (isV (.bool hh)) (fun ρ w' hk => by obtain ⟨_, _, _, hg, -⟩ := hk; have eg : ρ 78 = .bool true := hg; simp [wantedR, Region.wanted, asBoolR, eg]) ?_ ?_
      · rintro ρ w' he ⟨h79, h81, h83, hgd, -⟩
        have e79 : ρ 79 = .agg #[.int .i64 s1, .int .i64 s2, .int .i64 s3, .int .i64 s4, .int .i64 s5, .int .i64 s6, .slice A ws.length c] := h79
        have e81 : ρ 81 = strV key := h81
        have e83 : ρ 83 = .int .i64 g := h83
        simp only [evR, List.map_toArray, List.map_cons, List.map_nil, e79, e81, e83]
        refine (HHS.out _ (HE.out.trans he)).mono ?_
        rintro e w'' ⟨rfl, hx⟩
        exact ⟨_, rfl, hx, rfl⟩
      refine tele_val rfl (.bool hh) (fun ρ w' hk => by obtain ⟨_, hg, -⟩ := hk; have eg : ρ 78 = .bool true := hg; simp [wantedR, Region.wanted, asBoolR, eg]) ?_ ?_
      · rintro ρ w' he ⟨h11, hgd, -⟩
        have e11 : ρ 11 = .bool hh := h11
        simp [execOp, evR, e11, go_sem]
      refine tele_val rfl (.bool true) (fun ρ w' hk => by obtain ⟨_, _, hg, -⟩ := hk; have eg : ρ 78 = .bool true := hg; simp [wantedR, Region.wanted, asBoolR, eg]) ?_ ?_
      · rintro ρ w' he ⟨h84, h85, hgd, -⟩
        have e84 : ρ 84 = .bool hh := h84
        have e85 : ρ 85 = .bool hh := h85
        simp [execOp, evR, e84, e85, go_sem]
      refine tele_val rfl (.bool true) (fun _ _ _ => rfl) ?_ ?_
      · rintro ρ w' he ⟨h78, h86, -⟩
        have e78 : ρ 78 = .bool true := h78
        have e86 : ρ 86 = .bool true := h86
        simp [execOp, evR, e78, e86, go_sem]
      refine tele_move rfl (.inl rfl) rfl (isV (.bool true)) (fun ρ w' h => h) ?_
      refine tele_call rfl rfl Try.func10 (by kernel_rfl) (isV (.bool true)) (fun ρ w' hk => by obtain ⟨hg, -⟩ := hk; have eg : ρ 88 = .bool true := hg; simp [wantedR, Region.wanted, asBoolR, eg]) ?_ ?_
      · rintro ρ w' he ⟨hgd, -⟩
        simp only [evR, List.map_toArray, List.map_cons, List.map_nil]
        refine (HL.out _).mono ?_
        rintro e w'' ⟨rfl, hx⟩
        exact ⟨_, rfl, hx, rfl⟩
      refine tele_val rfl (.bool true) (fun _ _ _ => rfl) ?_ ?_
      · rintro ρ w' he ⟨h88, h89, -⟩
        have e88 : ρ 88 = .bool true := h88
        have e89 : ρ 89 = .bool true := h89
        simp [execOp, evR, e88, e89, go_sem]
      refine tele_move rfl (.inr rfl) rfl (isV (.bool true)) (fun ρ w' h => h) ?_
      refine tele_nil ?_
      rintro ρ w' hext ⟨f6, f90, f89, f88, f87, f86, f85, f84, f83, f82, f81, f80, f79, f78, f77, f76, f75, f74, f73, f72, f71, f70, f69, f68, f67, f66, f65, f64, f63, f62, f61, -⟩
      clear f61
      clear f62
      clear f63
      clear f64
      clear f65
      clear f66
      clear f67
      clear f68
      clear f69
      clear f70
      clear f71
      clear f72
      clear f73
      clear f74
      clear f75
      clear f76
      clear f77
      clear f78
      clear f79
      clear f80
      clear f81
      clear f82
      clear f83
      clear f84
      clear f85
      clear f86
      clear f87
      clear f88
      clear f89
      clear f90
      replace f6 : ρ 6 = .bool true := f6
      simp only [puts, Act.put, List.setIfInBounds_toArray, List.set_cons_zero, List.set_cons_succ]
      rw [f6]
      clear f6
      go_wp2_with fail
      go_ret
      exact ⟨rfl, HE.out.trans hext⟩
end Go.Proofs.Ytocdifjdeifclaa
