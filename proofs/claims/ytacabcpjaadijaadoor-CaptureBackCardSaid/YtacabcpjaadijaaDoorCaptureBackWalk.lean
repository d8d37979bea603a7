/-
  The walk of CaptureBack.
-/
import Derived.Test.YtacabcpjaadijaaDoorCapRun
import Derived.Test.YtacabcpjaadijaaDoorCapRead
import Derived.Test.YtacabcpjaadijaaDoorCapLives
import Derived.Test.YtacabcpjaadijaaDoorCapLight
import Derived.Test.YtacabcpjaadijaaDoorChSame
namespace Go.Proofs.YtacabcpjaadijaaDoor
open Go Go.RowKit Mono Num
set_option linter.unusedVariables false
set_option linter.unusedSimpArgs false
set_option maxRecDepth 100000

set_option maxHeartbeats 8000000 in
theorem captureBack_walk (vl : Value) (gs : List Grp) (v : Value) (l : List (Ch × Value)) (w : World) (hT : TbC w) (hl : Gs w vl gs) (hn : Cs w v l) :
    Calls Tryd.prog 6 #[vl, v] w fun e w' => e = .returned (.bool true) ∧ Ext w w' := by
  obtain ⟨i0, hi0, hz0, hz1, hz2⟩ := info_parts infoNt
  have HI0 := Lib.hid hi0
  have HZ0 := Lib.hid hz0
  have HZ1 := Lib.hid hz1
  have HZ2 := Lib.hid hz2
  obtain ⟨AN, cN, rfl, g1, g2, g3, g4⟩ := hn.at_
  have H4 := Lib.hid g4
  have HG := Lib.hid hl
  have HT := Lib.hid hT
  have HCS := Lib.hid hn
  have HL := Lib.hid (fun w => lives_any w)
  obtain ⟨Ag, cg, rfl, hg1, hg2, _⟩ := hl.at_
  have hgl : (gs.length : Int) ≤ 9223372036854775807 := by omega
  clear g4 g3 hn hl hT hi0 hz0 hz1 hz2 hg1 hg2
  go_enter Tryd.func6, Tryd.ntmps6
  go_wp2_with fail
  refine (light13_any Ag gs.length cg _ _ _ hgl HCS.out).mono ?_
  rintro e w1 ⟨⟨q, rfl, hq⟩, x1⟩
  have HQ := Lib.hid hq
  have HX1 := Lib.hid x1
  clear hq x1
  cases q
  · have XX := HX1.out
    go_wp2_with fail
    refine (HL.out _).mono ?_
    rintro e w9 ⟨rfl, x9⟩
    go_wp2_with fail
    go_ret
    exact ⟨rfl, XX.trans x9⟩
  have HLEN := Lib.hid (HQ.out rfl).1
  have HWL := Lib.hid (HQ.out rfl).2
  clear HQ
  go_wp2_with fail
  obtain ⟨site0, hsite0⟩ : ∃ s : Int, ∀ y, l[0]? = some y → y.1.site = s := by
    cases l with
    | nil => exact ⟨0, by simp⟩
    | cons y r => exact ⟨y.1.site, fun z hz => by simp at hz; rw [hz]⟩
  have HSITE := Lib.hid hsite0
  clear hsite0
  go_loopw [5, 19] (fun o i wr => ∃ (k : Nat) (os : List Ch), i = .int .i64 k ∧ Hid (NtJ w o (os.map (noteOf gs)) wr) ∧ Hid (RunC gs site0 os) ∧ Hid (os = (l.take k).map (·.1)) ∧ k ≤ l.length) (fun _ i _ => l.length - (intOf i).toNat)
  case atStart => exact ⟨0, [], rfl, Lib.hid (NtJ.start HX1.out), Lib.hid (RunC.nil_ _ _), Lib.hid rfl, Nat.zero_le _⟩
  case round =>
    obtain ⟨k, os, rfl, hj, hrn, htk, hkl⟩ := hrel
    have HTK := Lib.hid htk.out
    clear HX1 htk
    obtain ⟨AO, cO, rfl, o1, o2, -, -⟩ := hj.out.ns.at_
    have hlo : (os.map (noteOf gs)).length = k := by rw [HTK.out]; simp; omega
    rw [hlo] at o1
    rw [hlo]
    have HLO := Lib.hid hlo
    clear hlo
    have hk12 : k ≤ 600 := by have := HLEN.out; omega
    by_cases hlt : k < l.length
    · obtain ⟨b, off, rfl, hb, hc⟩ := H4.out (by omega)
      obtain ⟨s1, s2, s3, s4, s5, s6, wd, vw, hget, hws, hints, p0, p1, p2, p3, p4, p5, p6⟩ := hc k hlt
      obtain ⟨A2, c2, rfl, -⟩ := hws.at_
      have HGET := Lib.hid hget
      have HC := Lib.hid hc
      have HWS := Lib.hid hws
      replace p0 := (hj.out.ext.cell (p := ⟨b, off + k * 7, none⟩) hb).trans p0
      replace p1 := (hj.out.ext.cell (p := ⟨b, off + k * 7 + 1, none⟩) hb).trans p1
      replace p2 := (hj.out.ext.cell (p := ⟨b, off + k * 7 + 2, none⟩) hb).trans p2
      replace p3 := (hj.out.ext.cell (p := ⟨b, off + k * 7 + 3, none⟩) hb).trans p3
      replace p4 := (hj.out.ext.cell (p := ⟨b, off + k * 7 + 4, none⟩) hb).trans p4
      replace p5 := (hj.out.ext.cell (p := ⟨b, off + k * 7 + 5, none⟩) hb).trans p5
      replace p6 := (hj.out.ext.cell (p := ⟨b, off + k * 7 + 6, none⟩) hb).trans p6
      clear hc hget H4 hws hints
      go_upto_region 7 with (fail)
      clear p0 p1 p2 p3 p4 p5 p6
      have bc := Blk.new wr #[.int .i64 s1, .int .i64 s2, .int .i64 s3, .int .i64 s4, .int .i64 s5, .int .i64 s6, .slice A2 wd.length c2] 32
      have hj2 := Lib.hid (hj.out.more (ext_alloc wr (.cells #[.int .i64 s1, .int .i64 s2, .int .i64 s3, .int .i64 s4, .int .i64 s5, .int .i64 s6, .slice A2 wd.length c2] 32)))
      clear hj
      generalize wr.heap.size = nc at *
      generalize wr.alloc (.cells #[.int .i64 s1, .int .i64 s2, .int .i64 s3, .int .i64 s4, .int .i64 s5, .int .i64 s6, .slice A2 wd.length c2] 32) = W7 at *
      have hcall := capNote_any _ gs s1 s2 s3 s4 s5 s6 _ wd W7 (HG.out.ext hj2.out.ext) (HWS.out.ext hj2.out.ext) (HT.out.ext hj2.out.ext)
      unfold chV strV at hcall
      dsimp only at hcall
      have HCL := Lib.hid hcall
      clear hcall
      have k0 := bc.cell (i := 0) rfl
      have k1 := bc.cell (i := 1) rfl
      have k2 := bc.cell (i := 2) rfl
      have k3 := bc.cell (i := 3) rfl
      have k4 := bc.cell (i := 4) rfl
      have k5 := bc.cell (i := 5) rfl
      have k6 := bc.cell (i := 6) rfl
      go_wp2_with fail
      refine HCL.out.mono ?_
      rintro en W8 ⟨rfl, x8⟩
      clear k0 k1 k2 k3 k4 k5 k6 HCL
      generalize hP : noteN gs ⟨s1, s2, s3, s4, s5, s6, wd⟩ = P at *
      generalize hT : noteT gs ⟨s1, s2, s3, s4, s5, s6, wd⟩ = T at *
      generalize hcg : cgood gs ⟨s1, s2, s3, s4, s5, s6, wd⟩ = g at *
      have bt := Blk.new W8 #[.string ⟨P.toArray⟩, .string ⟨T.toArray⟩] 38
      have hj3 := Lib.hid ((hj2.out.more x8).more (ext_alloc W8 (.cells #[.string ⟨P.toArray⟩, .string ⟨T.toArray⟩] 38)))
      have bc2 := (bc.ext x8).ext (ext_alloc W8 (.cells #[.string ⟨P.toArray⟩, .string ⟨T.toArray⟩] 38))
      clear hj2 x8 bc
      go_upto_region 8 with (fail)
      generalize W8.heap.size = nn at *
      generalize W8.alloc (.cells #[.string ⟨P.toArray⟩, .string ⟨T.toArray⟩] 38) = W9 at *
      have HX := Lib.hid hj3.out.ext
      have HBT := Lib.hid bt
      clear bt
      have bc := bc2
      clear bc2
      by_cases hg0 : g = 0
      rotate_left
      · have hg0' : (((g : Nat) : Int) != 0) = true := by rw [bne_iff_ne]; omega
        clear hg0
        have k0 := bc.cell (i := 0) rfl
        have k1 := bc.cell (i := 1) rfl
        have k2 := bc.cell (i := 2) rfl
        have k3 := bc.cell (i := 3) rfl
        have k4 := bc.cell (i := 4) rfl
        have k5 := bc.cell (i := 5) rfl
        have k6 := bc.cell (i := 6) rfl
        have hcall := chGood_any _ gs s1 s2 s3 s4 s5 s6 _ wd W9 (HG.out.ext hj3.out.ext) (HWS.out.ext hj3.out.ext)
        rw [hcg] at hcall
        unfold chV at hcall
        dsimp only at hcall
        have HCL := Lib.hid hcall
        clear hcall hcg hP hT
        go_wp2_with fail
        refine HCL.out.mono ?_
        rintro en w5 ⟨rfl, x5⟩
        have XX := hj3.out.ext.trans x5
        clear k0 k1 k2 k3 k4 k5 k6 hg0'
        go_wp2_with fail
        refine (HL.out _).mono ?_
        rintro e w9 ⟨rfl, x9⟩
        go_wp2_with fail
        go_ret
        exact ⟨rfl, XX.trans x9⟩
      rw [hg0]
      rw [hg0] at hcg
      obtain ⟨hP1, hT1⟩ := note_good hcg
      rw [hP] at hP1
      rw [hT] at hT1
      have HNT : Hid (Blk W9 nn [strV (pname s2), strV (cput gs ⟨s1, s2, s3, s4, s5, s6, wd⟩)]) := by
        rw [← hP1, ← hT1]
        exact HBT
      have hsb := (good_bounds hcg).1
      dsimp only at hsb
      obtain ⟨hsb1, hsb2⟩ := hsb
      have HCG := Lib.hid hcg
      clear hcg hP hT hP1 hT1 hg0 HBT
      have hs0 : ∀ y, l[0]? = some y → y.1.site = site0 := HSITE.out
      obtain ⟨t1, t2, t3, t4, t5, t6, td, tw, hget0, -, -, r0, -⟩ := HC.out 0 (by omega)
      have ht1 := hs0 _ hget0
      dsimp only at ht1
      rw [ht1] at r0
      simp only [Nat.zero_mul, Nat.add_zero] at r0
      have HS0 := Lib.hid r0
      clear hs0 hget0 ht1 r0
      by_cases hk0 : 0 < k
      · skip
        obtain ⟨q1', pseq, q3', q4', q5', q6', q7', q8', hgetp, -, -, -, rp, -⟩ := HC.out (k - 1) (by omega)
        have HPS := Lib.hid rp
        have hpb : 1 ≤ pseq ∧ pseq ≤ 1099511627776 := by
          have hm : (⟨q1', pseq, q3', q4', q5', q6', q7'⟩ : Ch) ∈ os := by
            rw [HTK.out]
            exact List.mem_map.2 ⟨_, List.mem_of_getElem? (i := k - 1) (by rw [List.getElem?_take, if_pos (by omega)]; exact hgetp), rfl⟩
          exact (good_bounds (hrn.out.ok _ hm).1).1
        obtain ⟨hpb1, hpb2⟩ := hpb
        have hprev : prevSeq os = some pseq := by
          rw [HTK.out]
          exact prev_last (outs := l.take k) (k := k - 1) (by simp; omega) (by rw [List.getElem?_take, if_pos (by omega)]; exact hgetp)
        have HPV := Lib.hid hprev
        clear rp hgetp hprev
        go_upto_region 10 with (fail)
        obtain ⟨q1, Q46⟩ : ∃ q : Bool, q = (s1 != site0) := ⟨_, rfl⟩
        obtain ⟨q2, Q60⟩ : ∃ q : Bool, q = (s2 - 1 != pseq) := ⟨_, rfl⟩
        refine wp_region_mono (by kernel_rfl) (by kernel_rfl) ?_
        refine tele_val rfl (.pointer (some ⟨nc, 0, none⟩)) (fun _ _ _ => rfl) ?_ ?_
        · rintro ρ w' he ⟨h7, -⟩
          have e7 : ρ 7 = .pointer (some ⟨nc, 0, none⟩) := h7
          simp [execOp, evR, e7, go_sem]
        refine tele_val rfl (.int .i64 s1) (fun _ _ _ => rfl) ?_ ?_
        · rintro ρ w' he ⟨h40, -⟩
          have e40 : ρ 40 = .pointer (some ⟨nc, 0, none⟩) := h40
          have c0 := (bc.ext he).cell (i := 0) rfl
          simp [execOp, evR, e40, c0, go_sem]
        refine tele_move rfl (.inl rfl) rfl (isV (.slice (some ⟨b, off, none⟩) l.length cN)) (fun ρ w' h => h) ?_
        refine tele_val rfl (.pointer (some ⟨b, off + 0 * 7, none⟩)) (fun _ _ _ => rfl) ?_ ?_
        · rintro ρ w' he ⟨h42, -⟩
          have e42 : ρ 42 = .slice (some ⟨b, off, none⟩) l.length cN := h42
          exact index_at 7 rfl Tryd.underlying22 e42 (show _ = Value.int .i64 ((0 : Nat) : Int) from rfl) (by omega) (by kernel_rfl)
        refine tele_val rfl (.pointer (some ⟨b, off + 0 * 7, none⟩)) (fun _ _ _ => rfl) ?_ ?_
        · rintro ρ w' he ⟨h43, -⟩
          have e43 : ρ 43 = .pointer (some ⟨b, off + 0 * 7, none⟩) := h43
          simp [execOp, evR, e43, go_sem]
        refine tele_val rfl (.int .i64 site0) (fun _ _ _ => rfl) ?_ ?_
        · rintro ρ w' he ⟨h44, -⟩
          have e44 : ρ 44 = .pointer (some ⟨b, off + 0 * 7, none⟩) := h44
          have c0 := ((HX.out.trans he).cell (p := ⟨b, off, none⟩) hb).trans HS0.out
          simp [execOp, evR, e44, c0, go_sem]
        refine tele_val rfl (.bool q1) (fun _ _ _ => rfl) ?_ ?_
        · rintro ρ w' he ⟨h41, h45, -⟩
          have e41 : ρ 41 = .int .i64 s1 := h41
          have e45 : ρ 45 = .int .i64 site0 := h45
          rw [Q46]
          simp [execOp, evR, e41, e45, go_sem]
        refine tele_move rfl (.inl rfl) rfl (isV (.bool q1)) (fun ρ w' h => h) ?_
        refine tele_gval rfl (!q1) (.int .i64 (k : Int)) (fun ρ w' hk => by obtain ⟨_, hg, -⟩ := hk; have eg : ρ 47 = .bool q1 := hg; cases hq : (q1) <;> simp [wantedR, Region.wanted, asBoolR_bool, asBoolR_undef, eg, ifV, hq]) ?_ ?_
        · rintro ρ w' he ⟨h6, hgd, -⟩ hG
          have e6 : ρ 6 = .int .i64 (k : Int) := h6
          simp [execOp, evR, e6, go_sem]
        refine tele_gval rfl (!q1) (.bool true) (fun ρ w' hk => by obtain ⟨_, hg, -⟩ := hk; have eg : ρ 47 = .bool q1 := hg; cases hq : (q1) <;> simp [wantedR, Region.wanted, asBoolR_bool, asBoolR_undef, eg, ifV, hq]) ?_ ?_
        · rintro ρ w' he ⟨h48, hgd, -⟩ hG
          have e48 : ρ 48 = .int .i64 (k : Int) := (show ρ 48 = ifV (!q1) (.int .i64 (k : Int)) from h48).trans (ifV_true (by first | exact hG | simp_all))
          simp [execOp, evR, e48, go_sem]
          omega
        refine tele_gval rfl (!q1) (.bool true) (fun ρ w' hk => by obtain ⟨_, hg, -⟩ := hk; have eg : ρ 47 = .bool q1 := hg; cases hq : (q1) <;> simp [wantedR, Region.wanted, asBoolR_bool, asBoolR_undef, eg, ifV, hq]) ?_ ?_
        · rintro ρ w' he ⟨h49, hgd, -⟩ hG
          have e49 : ρ 49 = .bool true := (show ρ 49 = ifV (!q1) (.bool true) from h49).trans (ifV_true (by first | exact hG | simp_all))
          simp [execOp, evR, e49, go_sem]
        refine tele_gval rfl (!q1) (.pointer (some ⟨nc, 1, none⟩)) (fun ρ w' hk => by obtain ⟨_, hg, -⟩ := hk; have eg : ρ 50 = ifV (!q1) (.bool true) := hg; cases h0 : (!q1) <;> simp [wantedR, Region.wanted, asBoolR_bool, asBoolR_undef, eg, ifV, h0]) ?_ ?_
        · rintro ρ w' he ⟨h7, hgd, -⟩ hG
          have e7 : ρ 7 = .pointer (some ⟨nc, 0, none⟩) := h7
          simp [execOp, evR, e7, go_sem]
        refine tele_gval rfl (!q1) (.int .i64 s2) (fun ρ w' hk => by obtain ⟨_, hg, -⟩ := hk; have eg : ρ 50 = ifV (!q1) (.bool true) := hg; cases h0 : (!q1) <;> simp [wantedR, Region.wanted, asBoolR_bool, asBoolR_undef, eg, ifV, h0]) ?_ ?_
        · rintro ρ w' he ⟨h51, hgd, -⟩ hG
          have e51 : ρ 51 = .pointer (some ⟨nc, 1, none⟩) := (show ρ 51 = ifV (!q1) (.pointer (some ⟨nc, 1, none⟩)) from h51).trans (ifV_true (by first | exact hG | simp_all))
          have c0 := (bc.ext he).cell (i := 1) rfl
          simp [execOp, evR, e51, c0, go_sem]
        refine tele_gval rfl (!q1) (.int .i64 (s2 - 1)) (fun ρ w' hk => by obtain ⟨_, hg, -⟩ := hk; have eg : ρ 50 = ifV (!q1) (.bool true) := hg; cases h0 : (!q1) <;> simp [wantedR, Region.wanted, asBoolR_bool, asBoolR_undef, eg, ifV, h0]) ?_ ?_
        · rintro ρ w' he ⟨h52, hgd, -⟩ hG
          have e52 : ρ 52 = .int .i64 s2 := (show ρ 52 = ifV (!q1) (.int .i64 s2) from h52).trans (ifV_true (by first | exact hG | simp_all))
          have hw1 : IntKind.i64.wrap (s2 - 1) = s2 - 1 := IntWalk.i64_in _ (by omega)
          simp [execOp, evR, e52, hw1, go_sem]
        refine tele_gval rfl (!q1) (.slice (some ⟨b, off, none⟩) l.length cN) (fun ρ w' hk => by obtain ⟨_, hg, -⟩ := hk; have eg : ρ 50 = ifV (!q1) (.bool true) := hg; cases h0 : (!q1) <;> simp [wantedR, Region.wanted, asBoolR_bool, asBoolR_undef, eg, ifV, h0]) ?_ ?_
        · rintro ρ w' he ⟨h1, hgd, -⟩ hG
          have e1 : ρ 1 = .slice (some ⟨b, off, none⟩) l.length cN := h1
          simp [execOp, evR, e1, go_sem]
        refine tele_gval rfl (!q1) (.int .i64 (k : Int)) (fun ρ w' hk => by obtain ⟨_, hg, -⟩ := hk; have eg : ρ 50 = ifV (!q1) (.bool true) := hg; cases h0 : (!q1) <;> simp [wantedR, Region.wanted, asBoolR_bool, asBoolR_undef, eg, ifV, h0]) ?_ ?_
        · rintro ρ w' he ⟨h6, hgd, -⟩ hG
          have e6 : ρ 6 = .int .i64 (k : Int) := h6
          simp [execOp, evR, e6, go_sem]
        refine tele_gval rfl (!q1) (.int .i64 ((k - 1 : Nat) : Int)) (fun ρ w' hk => by obtain ⟨_, hg, -⟩ := hk; have eg : ρ 50 = ifV (!q1) (.bool true) := hg; cases h0 : (!q1) <;> simp [wantedR, Region.wanted, asBoolR_bool, asBoolR_undef, eg, ifV, h0]) ?_ ?_
        · rintro ρ w' he ⟨h55, hgd, -⟩ hG
          have e55 : ρ 55 = .int .i64 (k : Int) := (show ρ 55 = ifV (!q1) (.int .i64 (k : Int)) from h55).trans (ifV_true (by first | exact hG | simp_all))
          have hw1 : IntKind.i64.wrap ((k : Int) - 1) = ((k - 1 : Nat) : Int) := by rw [IntWalk.i64_in _ (by omega)]; omega
          simp [execOp, evR, e55, hw1, go_sem]
        refine tele_gval rfl (!q1) (.pointer (some ⟨b, off + (k - 1) * 7, none⟩)) (fun ρ w' hk => by obtain ⟨_, _, hg, -⟩ := hk; have eg : ρ 50 = ifV (!q1) (.bool true) := hg; cases h0 : (!q1) <;> simp [wantedR, Region.wanted, asBoolR_bool, asBoolR_undef, eg, ifV, h0]) ?_ ?_
        · rintro ρ w' he ⟨h54, h56, hgd, -⟩ hG
          have e54 : ρ 54 = .slice (some ⟨b, off, none⟩) l.length cN := (show ρ 54 = ifV (!q1) (.slice (some ⟨b, off, none⟩) l.length cN) from h54).trans (ifV_true (by first | exact hG | simp_all))
          have e56 : ρ 56 = .int .i64 ((k - 1 : Nat) : Int) := (show ρ 56 = ifV (!q1) (.int .i64 ((k - 1 : Nat) : Int)) from h56).trans (ifV_true (by first | exact hG | simp_all))
          exact index_at 7 rfl Tryd.underlying22 e54 e56 (by omega) (by kernel_rfl)
        refine tele_gval rfl (!q1) (.pointer (some ⟨b, off + (k - 1) * 7 + 1, none⟩)) (fun ρ w' hk => by obtain ⟨_, hg, -⟩ := hk; have eg : ρ 50 = ifV (!q1) (.bool true) := hg; cases h0 : (!q1) <;> simp [wantedR, Region.wanted, asBoolR_bool, asBoolR_undef, eg, ifV, h0]) ?_ ?_
        · rintro ρ w' he ⟨h57, hgd, -⟩ hG
          have e57 : ρ 57 = .pointer (some ⟨b, off + (k - 1) * 7, none⟩) := (show ρ 57 = ifV (!q1) (.pointer (some ⟨b, off + (k - 1) * 7, none⟩)) from h57).trans (ifV_true (by first | exact hG | simp_all))
          simp [execOp, evR, e57, go_sem]
        refine tele_gval rfl (!q1) (.int .i64 pseq) (fun ρ w' hk => by obtain ⟨_, hg, -⟩ := hk; have eg : ρ 50 = ifV (!q1) (.bool true) := hg; cases h0 : (!q1) <;> simp [wantedR, Region.wanted, asBoolR_bool, asBoolR_undef, eg, ifV, h0]) ?_ ?_
        · rintro ρ w' he ⟨h58, hgd, -⟩ hG
          have e58 : ρ 58 = .pointer (some ⟨b, off + (k - 1) * 7 + 1, none⟩) := (show ρ 58 = ifV (!q1) (.pointer (some ⟨b, off + (k - 1) * 7 + 1, none⟩)) from h58).trans (ifV_true (by first | exact hG | simp_all))
          have c0 := ((HX.out.trans he).cell (p := ⟨b, off + (k - 1) * 7 + 1, none⟩) hb).trans HPS.out
          simp [execOp, evR, e58, c0, go_sem]
        refine tele_gval rfl (!q1) (.bool q2) (fun ρ w' hk => by obtain ⟨_, _, hg, -⟩ := hk; have eg : ρ 50 = ifV (!q1) (.bool true) := hg; cases h0 : (!q1) <;> simp [wantedR, Region.wanted, asBoolR_bool, asBoolR_undef, eg, ifV, h0]) ?_ ?_
        · rintro ρ w' he ⟨h53, h59, hgd, -⟩ hG
          have e53 : ρ 53 = .int .i64 (s2 - 1) := (show ρ 53 = ifV (!q1) (.int .i64 (s2 - 1)) from h53).trans (ifV_true (by first | exact hG | simp_all))
          have e59 : ρ 59 = .int .i64 pseq := (show ρ 59 = ifV (!q1) (.int .i64 pseq) from h59).trans (ifV_true (by first | exact hG | simp_all))
          rw [Q60]
          simp [execOp, evR, e53, e59, go_sem]
        refine tele_gval rfl (!q1) (.bool q2) (fun ρ w' hk => by obtain ⟨_, _, hg, -⟩ := hk; have eg : ρ 47 = .bool q1 := hg; cases hq : (q1) <;> simp [wantedR, Region.wanted, asBoolR_bool, asBoolR_undef, eg, ifV, hq]) ?_ ?_
        · rintro ρ w' he ⟨h50, h60, hgd, -⟩ hG
          have e50 : ρ 50 = .bool true := (show ρ 50 = ifV (!q1) (.bool true) from h50).trans (ifV_true (by first | exact hG | simp_all))
          have e60 : ρ 60 = .bool q2 := (show ρ 60 = ifV (!q1) (.bool q2) from h60).trans (ifV_true (by first | exact hG | simp_all))
          simp [execOp, evR, e50, e60, go_sem]
        refine tele_val rfl (.bool (q1 || q2)) (fun _ _ _ => rfl) ?_ ?_
        · rintro ρ w' he ⟨h47, h61, -⟩
          have e47 : ρ 47 = .bool q1 := h47
          have e61 : ρ 61 = ifV (!q1) (.bool q2) := h61
          cases hc : (q1) <;> simp [execOp, evR, e47, e61, ifV, hc, go_sem]
        refine tele_nil ?_
        rintro ρ w' hext ⟨f62, f61, f60, f59, f58, f57, f56, f55, f54, f53, f52, f51, f50, f49, f48, f47, f46, f45, f44, f43, f42, f41, f40, -⟩
        clear f40
        clear f41
        clear f42
        clear f43
        clear f44
        clear f45
        clear f46
        clear f47
        clear f48
        clear f49
        clear f50
        clear f51
        clear f52
        clear f53
        clear f54
        clear f55
        clear f56
        clear f57
        clear f58
        clear f59
        clear f60
        clear f61
        replace f62 : ρ 62 = .bool (q1 || q2) := f62
        simp only [puts, Act.put, List.setIfInBounds_toArray, List.set_cons_zero, List.set_cons_succ]
        have hok : (q1 || q2) = !(s1 == site0 && s2 - 1 == pseq) := by
          rw [Q46, Q60]
          simp only [bne]
          cases (s1 == site0) <;> cases (s2 - 1 == pseq) <;> rfl
        rw [f62, hok]
        clear f62 hok Q46 Q60
        have HJ2 := Lib.hid (hj3.out.more hext)
        have HN2 := Lib.hid (HNT.out.ext hext)
        clear hj3 hext HX HPS bc HNT
        by_cases hq1 : (s1 == site0 && s2 - 1 == pseq) = true
        rotate_left
        · have hq0 : (s1 == site0 && s2 - 1 == pseq) = false := by simpa using hq1
          rw [hq0]
          clear hq1 hq0
          have XX := HJ2.out.ext
          go_wp2_with fail
          refine (HL.out _).mono ?_
          rintro e w9 ⟨rfl, x9⟩
          go_wp2_with fail
          go_ret
          exact ⟨rfl, XX.trans x9⟩
        rw [hq1]
        simp only [Bool.and_eq_true, beq_iff_eq] at hq1
        have HRN := Lib.hid (hrn.out.snoc HCG.out hq1.1 (by intro q hq; rw [HPV.out] at hq; injection hq with hq; dsimp only; omega))
        clear hq1
        have hal := ext_alloc w' (.cells #[strV (pname s2), strV (cput gs ⟨s1, s2, s3, s4, s5, s6, wd⟩)] 38)
        have bl := Blk.new w' #[strV (pname s2), strV (cput gs ⟨s1, s2, s3, s4, s5, s6, wd⟩)] 38
        have hown := (HJ2.out.more hal).row
        rw [HLO.out] at hown
        have hF : Fl (w'.alloc (.cells #[strV (pname s2), strV (cput gs ⟨s1, s2, s3, s4, s5, s6, wd⟩)] 38)) (.slice (some ⟨w'.heap.size, 0, none⟩) 1 1) 1 [strV (pname s2), strV (cput gs ⟨s1, s2, s3, s4, s5, s6, wd⟩)] := ⟨_, 1, rfl, Nat.le_refl _, by decide, by simp, fun _ => ⟨_, 0, rfl, bl.lt, fun j u hu => by rw [Nat.zero_add]; exact bl.cell (i := j) hu⟩⟩
        have h1c : ∀ u ∈ [strV (pname s2), strV (cput gs ⟨s1, s2, s3, s4, s5, s6, wd⟩)], u.oneCell' = true := by intro u hu; simp only [List.mem_cons, List.not_mem_nil, or_false] at hu; rcases hu with rfl | rfl <;> rfl
        have hsz := (HJ2.out.ext.trans hal).size
        have bt := HN2.out
        have c0 := bt.cell (i := 0) rfl
        have c1 := bt.cell (i := 1) rfl
        unfold strV at *
        clear bl hal bt
        go_upto_region 13 with (at_builtin; refine wpList_append_fl rfl (.tmp 64) (.tmp 66) 47 rfl w.heap.size 38 i0 _ 2 32 Tryd.underlying47 HI0.out HZ0.out HZ1.out HZ2.out rfl (by decide) hown hF rfl rfl rfl h1c (by unfold maxLen; omega) (by omega) hsz ?_; intro v' w3 hown' hg hat; clear c0 c1)
        have hjn := Lib.hid (HJ2.out.app (x := noteOf gs ⟨s1, s2, s3, s4, s5, s6, wd⟩) (tmp := .cells #[.string ⟨(pname s2).toArray⟩, .string ⟨(cput gs ⟨s1, s2, s3, s4, s5, s6, wd⟩).toArray⟩] 38) (noteOf_lim _ _) (by rw [HLO.out]; exact hown') (by rw [HLO.out]; exact hg))
        clear hown hF h1c hsz hg hat hown'
        go_wp2_with fail
        go_roundw
        case rel => exact ⟨k + 1, os ++ [⟨s1, s2, s3, s4, s5, s6, wd⟩], by go_num, Lib.hid (by rw [List.map_append]; exact hjn.out), HRN, Lib.hid (by rw [List.take_add_one, HGET.out, List.map_append, ← HTK.out]; rfl), hlt⟩
        case measure => simp [intOf]; omega
      · go_upto_region 10 with (fail)
        obtain ⟨q1, Q46⟩ : ∃ q : Bool, q = (s1 != site0) := ⟨_, rfl⟩
        refine wp_region_mono (by kernel_rfl) (by kernel_rfl) ?_
        refine tele_val rfl (.pointer (some ⟨nc, 0, none⟩)) (fun _ _ _ => rfl) ?_ ?_
        · rintro ρ w' he ⟨h7, -⟩
          have e7 : ρ 7 = .pointer (some ⟨nc, 0, none⟩) := h7
          simp [execOp, evR, e7, go_sem]
        refine tele_val rfl (.int .i64 s1) (fun _ _ _ => rfl) ?_ ?_
        · rintro ρ w' he ⟨h40, -⟩
          have e40 : ρ 40 = .pointer (some ⟨nc, 0, none⟩) := h40
          have c0 := (bc.ext he).cell (i := 0) rfl
          simp [execOp, evR, e40, c0, go_sem]
        refine tele_move rfl (.inl rfl) rfl (isV (.slice (some ⟨b, off, none⟩) l.length cN)) (fun ρ w' h => h) ?_
        refine tele_val rfl (.pointer (some ⟨b, off + 0 * 7, none⟩)) (fun _ _ _ => rfl) ?_ ?_
        · rintro ρ w' he ⟨h42, -⟩
          have e42 : ρ 42 = .slice (some ⟨b, off, none⟩) l.length cN := h42
          exact index_at 7 rfl Tryd.underlying22 e42 (show _ = Value.int .i64 ((0 : Nat) : Int) from rfl) (by omega) (by kernel_rfl)
        refine tele_val rfl (.pointer (some ⟨b, off + 0 * 7, none⟩)) (fun _ _ _ => rfl) ?_ ?_
        · rintro ρ w' he ⟨h43, -⟩
          have e43 : ρ 43 = .pointer (some ⟨b, off + 0 * 7, none⟩) := h43
          simp [execOp, evR, e43, go_sem]
        refine tele_val rfl (.int .i64 site0) (fun _ _ _ => rfl) ?_ ?_
        · rintro ρ w' he ⟨h44, -⟩
          have e44 : ρ 44 = .pointer (some ⟨b, off + 0 * 7, none⟩) := h44
          have c0 := ((HX.out.trans he).cell (p := ⟨b, off, none⟩) hb).trans HS0.out
          simp [execOp, evR, e44, c0, go_sem]
        refine tele_val rfl (.bool q1) (fun _ _ _ => rfl) ?_ ?_
        · rintro ρ w' he ⟨h41, h45, -⟩
          have e41 : ρ 41 = .int .i64 s1 := h41
          have e45 : ρ 45 = .int .i64 site0 := h45
          rw [Q46]
          simp [execOp, evR, e41, e45, go_sem]
        refine tele_move rfl (.inl rfl) rfl (isV (.bool q1)) (fun ρ w' h => h) ?_
        refine tele_gval rfl (!q1) (.int .i64 (k : Int)) (fun ρ w' hk => by obtain ⟨_, hg, -⟩ := hk; have eg : ρ 47 = .bool q1 := hg; cases hq : (q1) <;> simp [wantedR, Region.wanted, asBoolR_bool, asBoolR_undef, eg, ifV, hq]) ?_ ?_
        · rintro ρ w' he ⟨h6, hgd, -⟩ hG
          have e6 : ρ 6 = .int .i64 (k : Int) := h6
          simp [execOp, evR, e6, go_sem]
        refine tele_gval rfl (!q1) (.bool false) (fun ρ w' hk => by obtain ⟨_, hg, -⟩ := hk; have eg : ρ 47 = .bool q1 := hg; cases hq : (q1) <;> simp [wantedR, Region.wanted, asBoolR_bool, asBoolR_undef, eg, ifV, hq]) ?_ ?_
        · rintro ρ w' he ⟨h48, hgd, -⟩ hG
          have e48 : ρ 48 = .int .i64 (k : Int) := (show ρ 48 = ifV (!q1) (.int .i64 (k : Int)) from h48).trans (ifV_true (by first | exact hG | simp_all))
          simp [execOp, evR, e48, go_sem]
          omega
        refine tele_gval rfl (!q1) (.bool false) (fun ρ w' hk => by obtain ⟨_, hg, -⟩ := hk; have eg : ρ 47 = .bool q1 := hg; cases hq : (q1) <;> simp [wantedR, Region.wanted, asBoolR_bool, asBoolR_undef, eg, ifV, hq]) ?_ ?_
        · rintro ρ w' he ⟨h49, hgd, -⟩ hG
          have e49 : ρ 49 = .bool false := (show ρ 49 = ifV (!q1) (.bool false) from h49).trans (ifV_true (by first | exact hG | simp_all))
          simp [execOp, evR, e49, go_sem]
        refine tele_pass rfl (fun ρ w' hk => by obtain ⟨_, hg, -⟩ := hk; have eg : ρ 50 = ifV (!q1) (.bool false) := hg; cases h0 : (!q1) <;> simp [wantedR, Region.wanted, asBoolR_bool, asBoolR_undef, eg, ifV, h0]) ?_
        refine tele_pass rfl (fun ρ w' hk => by obtain ⟨_, hg, -⟩ := hk; have eg : ρ 50 = ifV (!q1) (.bool false) := hg; cases h0 : (!q1) <;> simp [wantedR, Region.wanted, asBoolR_bool, asBoolR_undef, eg, ifV, h0]) ?_
        refine tele_pass rfl (fun ρ w' hk => by obtain ⟨_, hg, -⟩ := hk; have eg : ρ 50 = ifV (!q1) (.bool false) := hg; cases h0 : (!q1) <;> simp [wantedR, Region.wanted, asBoolR_bool, asBoolR_undef, eg, ifV, h0]) ?_
        refine tele_pass rfl (fun ρ w' hk => by obtain ⟨_, hg, -⟩ := hk; have eg : ρ 50 = ifV (!q1) (.bool false) := hg; cases h0 : (!q1) <;> simp [wantedR, Region.wanted, asBoolR_bool, asBoolR_undef, eg, ifV, h0]) ?_
        refine tele_pass rfl (fun ρ w' hk => by obtain ⟨_, hg, -⟩ := hk; have eg : ρ 50 = ifV (!q1) (.bool false) := hg; cases h0 : (!q1) <;> simp [wantedR, Region.wanted, asBoolR_bool, asBoolR_undef, eg, ifV, h0]) ?_
        refine tele_pass rfl (fun ρ w' hk => by obtain ⟨_, hg, -⟩ := hk; have eg : ρ 50 = ifV (!q1) (.bool false) := hg; cases h0 : (!q1) <;> simp [wantedR, Region.wanted, asBoolR_bool, asBoolR_undef, eg, ifV, h0]) ?_
        refine tele_pass rfl (fun ρ w' hk => by obtain ⟨_, _, hg, -⟩ := hk; have eg : ρ 50 = ifV (!q1) (.bool false) := hg; cases h0 : (!q1) <;> simp [wantedR, Region.wanted, asBoolR_bool, asBoolR_undef, eg, ifV, h0]) ?_
        refine tele_pass rfl (fun ρ w' hk => by obtain ⟨_, hg, -⟩ := hk; have eg : ρ 50 = ifV (!q1) (.bool false) := hg; cases h0 : (!q1) <;> simp [wantedR, Region.wanted, asBoolR_bool, asBoolR_undef, eg, ifV, h0]) ?_
        refine tele_pass rfl (fun ρ w' hk => by obtain ⟨_, hg, -⟩ := hk; have eg : ρ 50 = ifV (!q1) (.bool false) := hg; cases h0 : (!q1) <;> simp [wantedR, Region.wanted, asBoolR_bool, asBoolR_undef, eg, ifV, h0]) ?_
        refine tele_pass rfl (fun ρ w' hk => by obtain ⟨_, _, hg, -⟩ := hk; have eg : ρ 50 = ifV (!q1) (.bool false) := hg; cases h0 : (!q1) <;> simp [wantedR, Region.wanted, asBoolR_bool, asBoolR_undef, eg, ifV, h0]) ?_
        refine tele_gval rfl (!q1) (.bool false) (fun ρ w' hk => by obtain ⟨_, _, hg, -⟩ := hk; have eg : ρ 47 = .bool q1 := hg; cases hq : (q1) <;> simp [wantedR, Region.wanted, asBoolR_bool, asBoolR_undef, eg, ifV, hq]) ?_ ?_
        · rintro ρ w' he ⟨h50, h60, hgd, -⟩ hG
          have e50 : ρ 50 = .bool false := (show ρ 50 = ifV (!q1) (.bool false) from h50).trans (ifV_true (by first | exact hG | simp_all))
          have e60 : ρ 60 = undef := h60
          simp [execOp, evR, e50, e60, go_sem]
        refine tele_val rfl (.bool (q1 || false)) (fun _ _ _ => rfl) ?_ ?_
        · rintro ρ w' he ⟨h47, h61, -⟩
          have e47 : ρ 47 = .bool q1 := h47
          have e61 : ρ 61 = ifV (!q1) (.bool false) := h61
          cases hc : (q1) <;> simp [execOp, evR, e47, e61, ifV, hc, go_sem]
        refine tele_nil ?_
        rintro ρ w' hext ⟨f62, f61, f60, f59, f58, f57, f56, f55, f54, f53, f52, f51, f50, f49, f48, f47, f46, f45, f44, f43, f42, f41, f40, -⟩
        clear f40
        clear f41
        clear f42
        clear f43
        clear f44
        clear f45
        clear f46
        clear f47
        clear f48
        clear f49
        clear f50
        clear f51
        clear f52
        clear f53
        clear f54
        clear f55
        clear f56
        clear f57
        clear f58
        clear f59
        clear f60
        clear f61
        replace f62 : ρ 62 = .bool (q1 || false) := f62
        simp only [puts, Act.put, List.setIfInBounds_toArray, List.set_cons_zero, List.set_cons_succ]
        have hok : (q1 || false) = !(s1 == site0) := by
          rw [Q46]
          simp only [bne]
          cases (s1 == site0) <;> rfl
        rw [f62, hok]
        clear f62 hok Q46
        have HJ2 := Lib.hid (hj3.out.more hext)
        have HN2 := Lib.hid (HNT.out.ext hext)
        clear hj3 hext HX  bc HNT
        by_cases hq1 : (s1 == site0) = true
        rotate_left
        · have hq0 : (s1 == site0) = false := by simpa using hq1
          rw [hq0]
          clear hq1 hq0
          have XX := HJ2.out.ext
          go_wp2_with fail
          refine (HL.out _).mono ?_
          rintro e w9 ⟨rfl, x9⟩
          go_wp2_with fail
          go_ret
          exact ⟨rfl, XX.trans x9⟩
        rw [hq1]
        simp only [Bool.and_eq_true, beq_iff_eq] at hq1
        have HRN := Lib.hid (hrn.out.snoc HCG.out hq1 (by intro q hq; rw [(List.eq_nil_of_length_eq_zero (by have := HLO.out; simp at this; omega) : os = [])] at hq; cases hq))
        clear hq1
        have hal := ext_alloc w' (.cells #[strV (pname s2), strV (cput gs ⟨s1, s2, s3, s4, s5, s6, wd⟩)] 38)
        have bl := Blk.new w' #[strV (pname s2), strV (cput gs ⟨s1, s2, s3, s4, s5, s6, wd⟩)] 38
        have hown := (HJ2.out.more hal).row
        rw [HLO.out] at hown
        have hF : Fl (w'.alloc (.cells #[strV (pname s2), strV (cput gs ⟨s1, s2, s3, s4, s5, s6, wd⟩)] 38)) (.slice (some ⟨w'.heap.size, 0, none⟩) 1 1) 1 [strV (pname s2), strV (cput gs ⟨s1, s2, s3, s4, s5, s6, wd⟩)] := ⟨_, 1, rfl, Nat.le_refl _, by decide, by simp, fun _ => ⟨_, 0, rfl, bl.lt, fun j u hu => by rw [Nat.zero_add]; exact bl.cell (i := j) hu⟩⟩
        have h1c : ∀ u ∈ [strV (pname s2), strV (cput gs ⟨s1, s2, s3, s4, s5, s6, wd⟩)], u.oneCell' = true := by intro u hu; simp only [List.mem_cons, List.not_mem_nil, or_false] at hu; rcases hu with rfl | rfl <;> rfl
        have hsz := (HJ2.out.ext.trans hal).size
        have bt := HN2.out
        have c0 := bt.cell (i := 0) rfl
        have c1 := bt.cell (i := 1) rfl
        unfold strV at *
        clear bl hal bt
        go_upto_region 13 with (at_builtin; refine wpList_append_fl rfl (.tmp 64) (.tmp 66) 47 rfl w.heap.size 38 i0 _ 2 32 Tryd.underlying47 HI0.out HZ0.out HZ1.out HZ2.out rfl (by decide) hown hF rfl rfl rfl h1c (by unfold maxLen; omega) (by omega) hsz ?_; intro v' w3 hown' hg hat; clear c0 c1)
        have hjn := Lib.hid (HJ2.out.app (x := noteOf gs ⟨s1, s2, s3, s4, s5, s6, wd⟩) (tmp := .cells #[.string ⟨(pname s2).toArray⟩, .string ⟨(cput gs ⟨s1, s2, s3, s4, s5, s6, wd⟩).toArray⟩] 38) (noteOf_lim _ _) (by rw [HLO.out]; exact hown') (by rw [HLO.out]; exact hg))
        clear hown hF h1c hsz hg hat hown'
        go_wp2_with fail
        go_roundw
        case rel => exact ⟨k + 1, os ++ [⟨s1, s2, s3, s4, s5, s6, wd⟩], by go_num, Lib.hid (by rw [List.map_append]; exact hjn.out), HRN, Lib.hid (by rw [List.take_add_one, HGET.out, List.map_append, ← HTK.out]; rfl), hlt⟩
        case measure => simp [intOf]; omega
    · have htk2 : os = l.map (·.1) := by rw [HTK.out, List.take_of_length_le (by omega)]
      have HALL := Lib.hid htk2
      clear htk2
      by_cases hl0 : l.length = 0
      · have XX := hj.out.ext
        have hl0' : l.length < 1 := by omega
        clear hl0
        go_wp2_with fail
        refine (HL.out _).mono ?_
        rintro e w9 ⟨rfl, x9⟩
        go_wp2_with fail
        go_ret
        exact ⟨rfl, XX.trans x9⟩
      · have hl1 : 0 < l.length := by omega
        clear hl0
        obtain ⟨b, off, rfl, hb, hc⟩ := H4.out hl1
        obtain ⟨t1, t2, t3, t4, t5, t6, td, tw, hget0, -, -, r0, -⟩ := hc 0 hl1
        have ht1 := HSITE.out _ hget0
        dsimp only at ht1
        rw [ht1] at r0
        simp only [Nat.zero_mul, Nat.add_zero] at r0
        replace r0 := (hj.out.ext.cell (p := ⟨b, off, none⟩) hb).trans r0
        have HPG : Hid (pgood gs = 0) := Lib.hid (good_pgood (hrn.out.ok ⟨t1, t2, t3, t4, t5, t6, td⟩ (by rw [HALL.out]; exact List.mem_map.2 ⟨_, List.mem_of_getElem? hget0, rfl⟩)).1)
        clear hc hget0 ht1
        have hns := hj.out.ns
        rw [HLO.out] at hns
        have HNS := Lib.hid hns
        have HJX := Lib.hid hj.out.ext
        have HLIM := Lib.hid hj.out.lim
        have HKL := Lib.hid (show (os.map (noteOf gs)).length ≤ 1200 by rw [HLO.out]; omega)
        clear hj hns
        go_wp2_with fail
        clear r0
        have hr := cread_run hrn.out HPG.out
        refine (capRead_any _ gs site0 _ (os.map (noteOf gs)) _ (HT.out.ext HJX.out) (HG.out.ext HJX.out) HNS.out HKL.out HLIM.out).mono ?_
        rintro e w2 ⟨r, outs, he, hcs, hm, x2⟩
        rw [hr] at he hm
        subst he
        have X2 := Lib.hid (HJX.out.trans x2)
        have HC2 := Lib.hid hcs
        have HM := Lib.hid hm
        obtain ⟨A2, c2, rfl, -⟩ := hcs.at_
        clear hcs hm x2 hr
        go_wp2_with fail
        refine (chAll_any _ _ outs l _ HC2.out (HCS.out.ext X2.out) (HM.out.trans HALL.out)).mono ?_
        rintro e w4 ⟨rfl, x4⟩
        have XX := X2.out.trans x4
        clear x4
        go_wp2_with fail
        refine (HL.out _).mono ?_
        rintro e w9 ⟨rfl, x9⟩
        go_wp2_with fail
        go_ret
        exact ⟨rfl, XX.trans x9⟩
end Go.Proofs.YtacabcpjaadijaaDoor
