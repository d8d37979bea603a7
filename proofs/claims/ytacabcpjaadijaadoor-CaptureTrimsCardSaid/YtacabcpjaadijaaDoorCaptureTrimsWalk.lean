/-
  The walk of CaptureTrims.
-/
import Derived.Test.YtacabcpjaadijaaDoorCapTrim
import Derived.Test.YtacabcpjaadijaaDoorCapRead
import Derived.Test.YtacabcpjaadijaaDoorCapLives
import Derived.Test.YtacabcpjaadijaaDoorCapLight
import Derived.Test.YtacabcpjaadijaaDoorChSame
namespace Go.Proofs.YtacabcpjaadijaaDoor
open Go Go.RowKit Mono Num
set_option linter.unusedVariables false
set_option linter.unusedSimpArgs false
set_option maxRecDepth 100000

def isRd (ns : List Nte) (gs : List Grp) (site : Int) : MRel := ⟨fun v w => ∃ r outs, v = .tuple #[r, .int .i64 ((cread gs site ns).2 : Int)] ∧ Cs w r outs ∧ outs.map (·.1) = (cread gs site ns).1, fun _ _ _ ⟨r, outs, h1, h2, h3⟩ he => ⟨r, outs, h1, h2.ext he, h3⟩⟩
def isCsL (cs : List Ch) : MRel := ⟨fun v w => ∃ outs, Cs w v outs ∧ outs.map (·.1) = cs, fun _ _ _ ⟨outs, h2, h3⟩ he => ⟨outs, h2.ext he, h3⟩⟩
set_option maxHeartbeats 16000000 in
theorem captureTrims_walk (vl : Value) (gs : List Grp) (v : Value) (l : List (Ch × Value)) (ack : Int) (w : World) (hT : TbC w) (hl : Gs w vl gs) (hn : Cs w v l) :
    Calls Tryd.prog 7 #[vl, v, .int .i64 ack] w fun e w' => e = .returned (.bool true) ∧ Ext w w' := by
  obtain ⟨i0, hi0, hz0, hz1, hz2⟩ := info_parts infoNt
  have HI0 := Lib.hid hi0
  have HZ0 := Lib.hid hz0
  have HZ1 := Lib.hid hz1
  have HZ2 := Lib.hid hz2
  obtain ⟨AN, cN, rfl, g1, g2, g3, g4⟩ := hn.at_
  have H4 := Lib.hid g4
  have HG := Lib.hid hl
  have HT := Lib.hid hT
  have HCS := Lib.hid hn
  have HL := Lib.hid (fun w => lives_any w)
  obtain ⟨Ag, cg, rfl, hg1, hg2, _⟩ := hl.at_
  have hgl : (gs.length : Int) ≤ 9223372036854775807 := by omega
  clear g4 g3 hn hl hT hi0 hz0 hz1 hz2 hg1 hg2
  go_enter Tryd.func7, Tryd.ntmps7
  go_wp2_with fail
  refine (light13_any Ag gs.length cg _ _ _ hgl HCS.out).mono ?_
  rintro e w1 ⟨⟨q, rfl, hq⟩, x1⟩
  have HQ := Lib.hid hq
  have HX1 := Lib.hid x1
  clear hq x1
  cases q
  · have XX := HX1.out
    go_wp2_with fail
    refine (HL.out _).mono ?_
    rintro e w9 ⟨rfl, x9⟩
    go_wp2_with fail
    go_ret
    exact ⟨rfl, XX.trans x9⟩
  have HLEN := Lib.hid (HQ.out rfl).1
  have HWL := Lib.hid (HQ.out rfl).2
  clear HQ
  by_cases hl0 : l.length = 0
  · have hl0' : l.length < 1 := by omega
    have XX := HX1.out
    have hle : ((l.length : Int) == 0) = true := by simpa using hl0
    clear hl0
    go_wp2_with fail
    refine (HL.out _).mono ?_
    rintro e w9 ⟨rfl, x9⟩
    go_wp2_with fail
    go_ret
    exact ⟨rfl, XX.trans x9⟩
  have hl1 : 0 < l.length := by omega
  have hle : ((l.length : Int) == 0) = false := by simpa using hl0
  clear hl0
  obtain ⟨site0, hsite0⟩ : ∃ s : Int, ∀ y, l[0]? = some y → y.1.site = s := by
    cases l with
    | nil => exact ⟨0, by simp⟩
    | cons y r => exact ⟨y.1.site, fun z hz => by simp at hz; rw [hz]⟩
  have HSITE := Lib.hid hsite0
  clear hsite0
  go_wp2_with fail
  clear hle
  go_loopw [7, 29] (fun o i wr => ∃ (k : Nat) (os : List Ch), i = .int .i64 k ∧ Hid (NtJ w o (os.map (noteOf gs)) wr) ∧ Hid (RunC gs site0 os) ∧ Hid (os = (l.take k).map (·.1)) ∧ k ≤ l.length) (fun _ i _ => l.length - (intOf i).toNat)
  case atStart => exact ⟨0, [], rfl, Lib.hid (NtJ.start HX1.out), Lib.hid (RunC.nil_ _ _), Lib.hid rfl, Nat.zero_le _⟩
  case round =>
    obtain ⟨k, os, rfl, hj, hrn, htk, hkl⟩ := hrel
    have HTK := Lib.hid htk.out
    clear HX1 htk
    obtain ⟨AO, cO, rfl, o1, o2, -, -⟩ := hj.out.ns.at_
    have hlo : (os.map (noteOf gs)).length = k := by rw [HTK.out]; simp; omega
    rw [hlo] at o1
    rw [hlo]
    have HLO := Lib.hid hlo
    clear hlo
    have hk12 : k ≤ 600 := by have := HLEN.out; omega
    by_cases hlt : k < l.length
    · obtain ⟨b, off, rfl, hb, hc⟩ := H4.out (by omega)
      obtain ⟨s1, s2, s3, s4, s5, s6, wd, vw, hget, hws, hints, p0, p1, p2, p3, p4, p5, p6⟩ := hc k hlt
      obtain ⟨A2, c2, rfl, -⟩ := hws.at_
      have HGET := Lib.hid hget
      have HC := Lib.hid hc
      have HWS := Lib.hid hws
      replace p0 := (hj.out.ext.cell (p := ⟨b, off + k * 7, none⟩) hb).trans p0
      replace p1 := (hj.out.ext.cell (p := ⟨b, off + k * 7 + 1, none⟩) hb).trans p1
      replace p2 := (hj.out.ext.cell (p := ⟨b, off + k * 7 + 2, none⟩) hb).trans p2
      replace p3 := (hj.out.ext.cell (p := ⟨b, off + k * 7 + 3, none⟩) hb).trans p3
      replace p4 := (hj.out.ext.cell (p := ⟨b, off + k * 7 + 4, none⟩) hb).trans p4
      replace p5 := (hj.out.ext.cell (p := ⟨b, off + k * 7 + 5, none⟩) hb).trans p5
      replace p6 := (hj.out.ext.cell (p := ⟨b, off + k * 7 + 6, none⟩) hb).trans p6
      clear hc hget H4 hws hints
      go_upto_region 7 with (fail)
      clear p0 p1 p2 p3 p4 p5 p6
      have bc := Blk.new wr #[.int .i64 s1, .int .i64 s2, .int .i64 s3, .int .i64 s4, .int .i64 s5, .int .i64 s6, .slice A2 wd.length c2] 32
      have hj2 := Lib.hid (hj.out.more (ext_alloc wr (.cells #[.int .i64 s1, .int .i64 s2, .int .i64 s3, .int .i64 s4, .int .i64 s5, .int .i64 s6, .slice A2 wd.length c2] 32)))
      clear hj
      generalize wr.heap.size = nc at *
      generalize wr.alloc (.cells #[.int .i64 s1, .int .i64 s2, .int .i64 s3, .int .i64 s4, .int .i64 s5, .int .i64 s6, .slice A2 wd.length c2] 32) = W7 at *
      have hcall := capNote_any _ gs s1 s2 s3 s4 s5 s6 _ wd W7 (HG.out.ext hj2.out.ext) (HWS.out.ext hj2.out.ext) (HT.out.ext hj2.out.ext)
      unfold chV strV at hcall
      dsimp only at hcall
      have HCL := Lib.hid hcall
      clear hcall
      have k0 := bc.cell (i := 0) rfl
      have k1 := bc.cell (i := 1) rfl
      have k2 := bc.cell (i := 2) rfl
      have k3 := bc.cell (i := 3) rfl
      have k4 := bc.cell (i := 4) rfl
      have k5 := bc.cell (i := 5) rfl
      have k6 := bc.cell (i := 6) rfl
      go_wp2_with fail
      refine HCL.out.mono ?_
      rintro en W8 ⟨rfl, x8⟩
      clear k0 k1 k2 k3 k4 k5 k6 HCL
      generalize hP : noteN gs ⟨s1, s2, s3, s4, s5, s6, wd⟩ = P at *
      generalize hT : noteT gs ⟨s1, s2, s3, s4, s5, s6, wd⟩ = T at *
      generalize hcg : cgood gs ⟨s1, s2, s3, s4, s5, s6, wd⟩ = g at *
      have bt := Blk.new W8 #[.string ⟨P.toArray⟩, .string ⟨T.toArray⟩] 38
      have hj3 := Lib.hid ((hj2.out.more x8).more (ext_alloc W8 (.cells #[.string ⟨P.toArray⟩, .string ⟨T.toArray⟩] 38)))
      have bc2 := (bc.ext x8).ext (ext_alloc W8 (.cells #[.string ⟨P.toArray⟩, .string ⟨T.toArray⟩] 38))
      clear hj2 x8 bc
      go_upto_region 8 with (fail)
      generalize W8.heap.size = nn at *
      generalize W8.alloc (.cells #[.string ⟨P.toArray⟩, .string ⟨T.toArray⟩] 38) = W9 at *
      have HX := Lib.hid hj3.out.ext
      have HBT := Lib.hid bt
      clear bt
      have bc := bc2
      clear bc2
      by_cases hg0 : g = 0
      rotate_left
      · have hg0' : (((g : Nat) : Int) != 0) = true := by rw [bne_iff_ne]; omega
        clear hg0 hcg hP hT
        refine wp_region_mono (by kernel_rfl) (by kernel_rfl) ?_
        refine tele_move rfl (.inl rfl) rfl (isV (.int .i64 ((g : Nat) : Int))) (fun ρ w' h => h) ?_
        refine tele_val rfl (.bool true) (fun _ _ _ => rfl) ?_ ?_
        · rintro ρ w' he ⟨h40, -⟩
          have e40 : ρ 40 = .int .i64 ((g : Nat) : Int) := h40
          simp only [execOp, evR, e40]
          simp [hg0', go_sem]
        refine tele_move rfl (.inl rfl) rfl (isV (.bool true)) (fun ρ w' h => h) ?_
        refine tele_pass rfl (fun ρ w' hk => by obtain ⟨_, hg, -⟩ := hk; have eg : ρ 42 = .bool true := hg; simp [wantedR, Region.wanted, asBoolR_bool, asBoolR_undef, eg]) ?_
        refine tele_pass rfl (fun ρ w' hk => by obtain ⟨_, hg, -⟩ := hk; have eg : ρ 42 = .bool true := hg; simp [wantedR, Region.wanted, asBoolR_bool, asBoolR_undef, eg]) ?_
        refine tele_pass rfl (fun ρ w' hk => by obtain ⟨_, hg, -⟩ := hk; have eg : ρ 42 = .bool true := hg; simp [wantedR, Region.wanted, asBoolR_bool, asBoolR_undef, eg]) ?_
        refine tele_pass rfl (fun ρ w' hk => by obtain ⟨_, hg, -⟩ := hk; have eg : ρ 42 = .bool true := hg; simp [wantedR, Region.wanted, asBoolR_bool, asBoolR_undef, eg]) ?_
        refine tele_pass rfl (fun ρ w' hk => by obtain ⟨_, hg, -⟩ := hk; have eg : ρ 42 = .bool true := hg; simp [wantedR, Region.wanted, asBoolR_bool, asBoolR_undef, eg]) ?_
        refine tele_pass rfl (fun ρ w' hk => by obtain ⟨_, hg, -⟩ := hk; have eg : ρ 42 = .bool true := hg; simp [wantedR, Region.wanted, asBoolR_bool, asBoolR_undef, eg]) ?_
        refine tele_pass rfl (fun ρ w' hk => by obtain ⟨_, _, hg, -⟩ := hk; have eg : ρ 42 = .bool true := hg; simp [wantedR, Region.wanted, asBoolR_bool, asBoolR_undef, eg]) ?_
        refine tele_val rfl (.bool true) (fun _ _ _ => rfl) ?_ ?_
        · rintro ρ w' he ⟨h42, h49, -⟩
          have e42 : ρ 42 = .bool true := h42
          have e49 : ρ 49 = undef := h49
          simp [execOp, evR, e42, e49, go_sem]
        refine tele_move rfl (.inl rfl) rfl (isV (.bool true)) (fun ρ w' h => h) ?_
        refine tele_pass rfl (fun ρ w' hk => by obtain ⟨_, hg, -⟩ := hk; have eg : ρ 51 = .bool true := hg; simp [wantedR, Region.wanted, asBoolR_bool, asBoolR_undef, eg]) ?_
        refine tele_pass rfl (fun ρ w' hk => by obtain ⟨_, hg, -⟩ := hk; have eg : ρ 51 = .bool true := hg; simp [wantedR, Region.wanted, asBoolR_bool, asBoolR_undef, eg]) ?_
        refine tele_pass rfl (fun ρ w' hk => by obtain ⟨_, hg, -⟩ := hk; have eg : ρ 51 = .bool true := hg; simp [wantedR, Region.wanted, asBoolR_bool, asBoolR_undef, eg]) ?_
        refine tele_pass rfl (fun ρ w' hk => by obtain ⟨_, hg, -⟩ := hk; have eg : ρ 54 = undef := hg; simp [wantedR, Region.wanted, asBoolR_bool, asBoolR_undef, eg]) ?_
        refine tele_pass rfl (fun ρ w' hk => by obtain ⟨_, hg, -⟩ := hk; have eg : ρ 54 = undef := hg; simp [wantedR, Region.wanted, asBoolR_bool, asBoolR_undef, eg]) ?_
        refine tele_pass rfl (fun ρ w' hk => by obtain ⟨_, hg, -⟩ := hk; have eg : ρ 54 = undef := hg; simp [wantedR, Region.wanted, asBoolR_bool, asBoolR_undef, eg]) ?_
        refine tele_pass rfl (fun ρ w' hk => by obtain ⟨_, hg, -⟩ := hk; have eg : ρ 54 = undef := hg; simp [wantedR, Region.wanted, asBoolR_bool, asBoolR_undef, eg]) ?_
        refine tele_pass rfl (fun ρ w' hk => by obtain ⟨_, hg, -⟩ := hk; have eg : ρ 54 = undef := hg; simp [wantedR, Region.wanted, asBoolR_bool, asBoolR_undef, eg]) ?_
        refine tele_pass rfl (fun ρ w' hk => by obtain ⟨_, hg, -⟩ := hk; have eg : ρ 54 = undef := hg; simp [wantedR, Region.wanted, asBoolR_bool, asBoolR_undef, eg]) ?_
        refine tele_pass rfl (fun ρ w' hk => by obtain ⟨_, _, hg, -⟩ := hk; have eg : ρ 54 = undef := hg; simp [wantedR, Region.wanted, asBoolR_bool, asBoolR_undef, eg]) ?_
        refine tele_pass rfl (fun ρ w' hk => by obtain ⟨_, hg, -⟩ := hk; have eg : ρ 54 = undef := hg; simp [wantedR, Region.wanted, asBoolR_bool, asBoolR_undef, eg]) ?_
        refine tele_pass rfl (fun ρ w' hk => by obtain ⟨_, hg, -⟩ := hk; have eg : ρ 54 = undef := hg; simp [wantedR, Region.wanted, asBoolR_bool, asBoolR_undef, eg]) ?_
        refine tele_pass rfl (fun ρ w' hk => by obtain ⟨_, _, hg, -⟩ := hk; have eg : ρ 54 = undef := hg; simp [wantedR, Region.wanted, asBoolR_bool, asBoolR_undef, eg]) ?_
        refine tele_pass rfl (fun ρ w' hk => by obtain ⟨_, _, hg, -⟩ := hk; have eg : ρ 51 = .bool true := hg; simp [wantedR, Region.wanted, asBoolR_bool, asBoolR_undef, eg]) ?_
        refine tele_val rfl (.bool true) (fun _ _ _ => rfl) ?_ ?_
        · rintro ρ w' he ⟨h51, h65, -⟩
          have e51 : ρ 51 = .bool true := h51
          have e65 : ρ 65 = undef := h65
          simp [execOp, evR, e51, e65, go_sem]
        refine tele_nil ?_
        rintro ρ w' hext ⟨f66, f65, f64, f63, f62, f61, f60, f59, f58, f57, f56, f55, f54, f53, f52, f51, f50, f49, f48, f47, f46, f45, f44, f43, f42, f41, f40, -⟩
        clear f40
        clear f41
        clear f42
        clear f43
        clear f44
        clear f45
        clear f46
        clear f47
        clear f48
        clear f49
        clear f50
        clear f51
        clear f52
        clear f53
        clear f54
        clear f55
        clear f56
        clear f57
        clear f58
        clear f59
        clear f60
        clear f61
        clear f62
        clear f63
        clear f64
        clear f65
        replace f66 : ρ 66 = .bool true := f66
        simp only [puts, Act.put, List.setIfInBounds_toArray, List.set_cons_zero, List.set_cons_succ]
        rw [f66]
        clear f66 hg0'
        have XX := hj3.out.ext.trans hext
        go_wp2_with fail
        refine (HL.out _).mono ?_
        rintro e w9 ⟨rfl, x9⟩
        go_wp2_with fail
        go_ret
        exact ⟨rfl, XX.trans x9⟩
      rw [hg0]
      rw [hg0] at hcg
      obtain ⟨hP1, hT1⟩ := note_good hcg
      rw [hP] at hP1
      rw [hT] at hT1
      have HNT : Hid (Blk W9 nn [strV (pname s2), strV (cput gs ⟨s1, s2, s3, s4, s5, s6, wd⟩)]) := by
        rw [← hP1, ← hT1]
        exact HBT
      have hsb := (good_bounds hcg).1
      dsimp only at hsb
      obtain ⟨hsb1, hsb2⟩ := hsb
      have HCG := Lib.hid hcg
      clear hcg hP hT hP1 hT1 hg0 HBT
      have hs0 : ∀ y, l[0]? = some y → y.1.site = site0 := HSITE.out
      obtain ⟨t1, t2, t3, t4, t5, t6, td, tw, hget0, -, -, r0, -⟩ := HC.out 0 (by omega)
      have ht1 := hs0 _ hget0
      dsimp only at ht1
      rw [ht1] at r0
      simp only [Nat.zero_mul, Nat.add_zero] at r0
      have HS0 := Lib.hid r0
      clear hs0 hget0 ht1 r0
      by_cases hk0 : 0 < k
      · skip
        obtain ⟨q1', pseq, q3', q4', q5', q6', q7', q8', hgetp, -, -, -, rp, -⟩ := HC.out (k - 1) (by omega)
        have HPS := Lib.hid rp
        have hpb : 1 ≤ pseq ∧ pseq ≤ 1099511627776 := by
          have hm : (⟨q1', pseq, q3', q4', q5', q6', q7'⟩ : Ch) ∈ os := by
            rw [HTK.out]
            exact List.mem_map.2 ⟨_, List.mem_of_getElem? (i := k - 1) (by rw [List.getElem?_take, if_pos (by omega)]; exact hgetp), rfl⟩
          exact (good_bounds (hrn.out.ok _ hm).1).1
        obtain ⟨hpb1, hpb2⟩ := hpb
        have hprev : prevSeq os = some pseq := by
          rw [HTK.out]
          exact prev_last (outs := l.take k) (k := k - 1) (by simp; omega) (by rw [List.getElem?_take, if_pos (by omega)]; exact hgetp)
        have HPV := Lib.hid hprev
        clear rp hgetp hprev

        obtain ⟨q1, Q49⟩ : ∃ q : Bool, q = (s1 != site0) := ⟨_, rfl⟩
        obtain ⟨q2, Q64⟩ : ∃ q : Bool, q = (s2 - 1 != pseq) := ⟨_, rfl⟩
        refine wp_region_mono (by kernel_rfl) (by kernel_rfl) ?_
        refine tele_move rfl (.inl rfl) rfl (isV (.int .i64 ((0 : Nat) : Int))) (fun ρ w' h => h) ?_
        refine tele_val rfl (.bool false) (fun _ _ _ => rfl) ?_ ?_
        · rintro ρ w' he ⟨h40, -⟩
          have e40 : ρ 40 = .int .i64 ((0 : Nat) : Int) := h40
          simp [execOp, evR, e40, go_sem]
        refine tele_move rfl (.inl rfl) rfl (isV (.bool false)) (fun ρ w' h => h) ?_
        refine tele_val rfl (.pointer (some ⟨nc, 0, none⟩)) (fun ρ w' hk => by obtain ⟨_, hg, -⟩ := hk; have eg : ρ 42 = .bool false := hg; simp [wantedR, Region.wanted, asBoolR, eg]) ?_ ?_
        · rintro ρ w' he ⟨h9, hgd, -⟩
          have e9 : ρ 9 = .pointer (some ⟨nc, 0, none⟩) := h9
          simp [execOp, evR, e9, go_sem]
        refine tele_val rfl (.int .i64 s1) (fun ρ w' hk => by obtain ⟨_, hg, -⟩ := hk; have eg : ρ 42 = .bool false := hg; simp [wantedR, Region.wanted, asBoolR, eg]) ?_ ?_
        · rintro ρ w' he ⟨h43, hgd, -⟩
          have e43 : ρ 43 = .pointer (some ⟨nc, 0, none⟩) := h43
          have c0 := (bc.ext he).cell (i := 0) rfl
          simp [execOp, evR, e43, c0, go_sem]
        refine tele_val rfl (.slice (some ⟨b, off, none⟩) l.length cN) (fun ρ w' hk => by obtain ⟨_, hg, -⟩ := hk; have eg : ρ 42 = .bool false := hg; simp [wantedR, Region.wanted, asBoolR, eg]) ?_ ?_
        · rintro ρ w' he ⟨h1, hgd, -⟩
          have e1 : ρ 1 = .slice (some ⟨b, off, none⟩) l.length cN := h1
          simp [execOp, evR, e1, go_sem]
        refine tele_val rfl (.pointer (some ⟨b, off + 0 * 7, none⟩)) (fun ρ w' hk => by obtain ⟨_, hg, -⟩ := hk; have eg : ρ 42 = .bool false := hg; simp [wantedR, Region.wanted, asBoolR, eg]) ?_ ?_
        · rintro ρ w' he ⟨h45, hgd, -⟩
          have e45 : ρ 45 = .slice (some ⟨b, off, none⟩) l.length cN := h45
          exact index_at 7 rfl Tryd.underlying22 e45 (show _ = Value.int .i64 ((0 : Nat) : Int) from rfl) (by omega) (by kernel_rfl)
        refine tele_val rfl (.pointer (some ⟨b, off + 0 * 7, none⟩)) (fun ρ w' hk => by obtain ⟨_, hg, -⟩ := hk; have eg : ρ 42 = .bool false := hg; simp [wantedR, Region.wanted, asBoolR, eg]) ?_ ?_
        · rintro ρ w' he ⟨h46, hgd, -⟩
          have e46 : ρ 46 = .pointer (some ⟨b, off + 0 * 7, none⟩) := h46
          simp [execOp, evR, e46, go_sem]
        refine tele_val rfl (.int .i64 site0) (fun ρ w' hk => by obtain ⟨_, hg, -⟩ := hk; have eg : ρ 42 = .bool false := hg; simp [wantedR, Region.wanted, asBoolR, eg]) ?_ ?_
        · rintro ρ w' he ⟨h47, hgd, -⟩
          have e47 : ρ 47 = .pointer (some ⟨b, off + 0 * 7, none⟩) := h47
          have c0 := ((HX.out.trans he).cell (p := ⟨b, off, none⟩) hb).trans HS0.out
          simp [execOp, evR, e47, c0, go_sem]
        refine tele_val rfl (.bool q1) (fun ρ w' hk => by obtain ⟨_, _, hg, -⟩ := hk; have eg : ρ 42 = .bool false := hg; simp [wantedR, Region.wanted, asBoolR, eg]) ?_ ?_
        · rintro ρ w' he ⟨h44, h48, hgd, -⟩
          have e44 : ρ 44 = .int .i64 s1 := h44
          have e48 : ρ 48 = .int .i64 site0 := h48
          rw [Q49]
          simp [execOp, evR, e44, e48, go_sem]
        refine tele_val rfl (.bool q1) (fun _ _ _ => rfl) ?_ ?_
        · rintro ρ w' he ⟨h42, h49, -⟩
          have e42 : ρ 42 = .bool false := h42
          have e49 : ρ 49 = .bool q1 := h49
          simp [execOp, evR, e42, e49, go_sem]
        refine tele_move rfl (.inl rfl) rfl (isV (.bool q1)) (fun ρ w' h => h) ?_
        refine tele_gval rfl (!q1) (.int .i64 (k : Int)) (fun ρ w' hk => by obtain ⟨_, hg, -⟩ := hk; have eg : ρ 51 = .bool q1 := hg; cases hq : (q1) <;> simp [wantedR, Region.wanted, asBoolR_bool, asBoolR_undef, eg, ifV, hq]) ?_ ?_
        · rintro ρ w' he ⟨h8, hgd, -⟩ hG
          have e8 : ρ 8 = .int .i64 (k : Int) := h8
          simp [execOp, evR, e8, go_sem]
        refine tele_gval rfl (!q1) (.bool true) (fun ρ w' hk => by obtain ⟨_, hg, -⟩ := hk; have eg : ρ 51 = .bool q1 := hg; cases hq : (q1) <;> simp [wantedR, Region.wanted, asBoolR_bool, asBoolR_undef, eg, ifV, hq]) ?_ ?_
        · rintro ρ w' he ⟨h52, hgd, -⟩ hG
          have e52 : ρ 52 = .int .i64 (k : Int) := (show ρ 52 = ifV (!q1) (.int .i64 (k : Int)) from h52).trans (ifV_true (by first | exact hG | simp_all))
          simp [execOp, evR, e52, go_sem]
          omega
        refine tele_gval rfl (!q1) (.bool true) (fun ρ w' hk => by obtain ⟨_, hg, -⟩ := hk; have eg : ρ 51 = .bool q1 := hg; cases hq : (q1) <;> simp [wantedR, Region.wanted, asBoolR_bool, asBoolR_undef, eg, ifV, hq]) ?_ ?_
        · rintro ρ w' he ⟨h53, hgd, -⟩ hG
          have e53 : ρ 53 = .bool true := (show ρ 53 = ifV (!q1) (.bool true) from h53).trans (ifV_true (by first | exact hG | simp_all))
          simp [execOp, evR, e53, go_sem]
        refine tele_gval rfl (!q1) (.pointer (some ⟨nc, 1, none⟩)) (fun ρ w' hk => by obtain ⟨_, hg, -⟩ := hk; have eg : ρ 54 = ifV (!q1) (.bool true) := hg; cases h0 : (!q1) <;> simp [wantedR, Region.wanted, asBoolR_bool, asBoolR_undef, eg, ifV, h0]) ?_ ?_
        · rintro ρ w' he ⟨h9, hgd, -⟩ hG
          have e9 : ρ 9 = .pointer (some ⟨nc, 0, none⟩) := h9
          simp [execOp, evR, e9, go_sem]
        refine tele_gval rfl (!q1) (.int .i64 s2) (fun ρ w' hk => by obtain ⟨_, hg, -⟩ := hk; have eg : ρ 54 = ifV (!q1) (.bool true) := hg; cases h0 : (!q1) <;> simp [wantedR, Region.wanted, asBoolR_bool, asBoolR_undef, eg, ifV, h0]) ?_ ?_
        · rintro ρ w' he ⟨h55, hgd, -⟩ hG
          have e55 : ρ 55 = .pointer (some ⟨nc, 1, none⟩) := (show ρ 55 = ifV (!q1) (.pointer (some ⟨nc, 1, none⟩)) from h55).trans (ifV_true (by first | exact hG | simp_all))
          have c0 := (bc.ext he).cell (i := 1) rfl
          simp [execOp, evR, e55, c0, go_sem]
        refine tele_gval rfl (!q1) (.int .i64 (s2 - 1)) (fun ρ w' hk => by obtain ⟨_, hg, -⟩ := hk; have eg : ρ 54 = ifV (!q1) (.bool true) := hg; cases h0 : (!q1) <;> simp [wantedR, Region.wanted, asBoolR_bool, asBoolR_undef, eg, ifV, h0]) ?_ ?_
        · rintro ρ w' he ⟨h56, hgd, -⟩ hG
          have e56 : ρ 56 = .int .i64 s2 := (show ρ 56 = ifV (!q1) (.int .i64 s2) from h56).trans (ifV_true (by first | exact hG | simp_all))
          have hw1 : IntKind.i64.wrap (s2 - 1) = s2 - 1 := IntWalk.i64_in _ (by omega)
          simp [execOp, evR, e56, hw1, go_sem]
        refine tele_gval rfl (!q1) (.slice (some ⟨b, off, none⟩) l.length cN) (fun ρ w' hk => by obtain ⟨_, hg, -⟩ := hk; have eg : ρ 54 = ifV (!q1) (.bool true) := hg; cases h0 : (!q1) <;> simp [wantedR, Region.wanted, asBoolR_bool, asBoolR_undef, eg, ifV, h0]) ?_ ?_
        · rintro ρ w' he ⟨h1, hgd, -⟩ hG
          have e1 : ρ 1 = .slice (some ⟨b, off, none⟩) l.length cN := h1
          simp [execOp, evR, e1, go_sem]
        refine tele_gval rfl (!q1) (.int .i64 (k : Int)) (fun ρ w' hk => by obtain ⟨_, hg, -⟩ := hk; have eg : ρ 54 = ifV (!q1) (.bool true) := hg; cases h0 : (!q1) <;> simp [wantedR, Region.wanted, asBoolR_bool, asBoolR_undef, eg, ifV, h0]) ?_ ?_
        · rintro ρ w' he ⟨h8, hgd, -⟩ hG
          have e8 : ρ 8 = .int .i64 (k : Int) := h8
          simp [execOp, evR, e8, go_sem]
        refine tele_gval rfl (!q1) (.int .i64 ((k - 1 : Nat) : Int)) (fun ρ w' hk => by obtain ⟨_, hg, -⟩ := hk; have eg : ρ 54 = ifV (!q1) (.bool true) := hg; cases h0 : (!q1) <;> simp [wantedR, Region.wanted, asBoolR_bool, asBoolR_undef, eg, ifV, h0]) ?_ ?_
        · rintro ρ w' he ⟨h59, hgd, -⟩ hG
          have e59 : ρ 59 = .int .i64 (k : Int) := (show ρ 59 = ifV (!q1) (.int .i64 (k : Int)) from h59).trans (ifV_true (by first | exact hG | simp_all))
          have hw1 : IntKind.i64.wrap ((k : Int) - 1) = ((k - 1 : Nat) : Int) := by rw [IntWalk.i64_in _ (by omega)]; omega
          simp [execOp, evR, e59, hw1, go_sem]
        refine tele_gval rfl (!q1) (.pointer (some ⟨b, off + (k - 1) * 7, none⟩)) (fun ρ w' hk => by obtain ⟨_, _, hg, -⟩ := hk; have eg : ρ 54 = ifV (!q1) (.bool true) := hg; cases h0 : (!q1) <;> simp [wantedR, Region.wanted, asBoolR_bool, asBoolR_undef, eg, ifV, h0]) ?_ ?_
        · rintro ρ w' he ⟨h58, h60, hgd, -⟩ hG
          have e58 : ρ 58 = .slice (some ⟨b, off, none⟩) l.length cN := (show ρ 58 = ifV (!q1) (.slice (some ⟨b, off, none⟩) l.length cN) from h58).trans (ifV_true (by first | exact hG | simp_all))
          have e60 : ρ 60 = .int .i64 ((k - 1 : Nat) : Int) := (show ρ 60 = ifV (!q1) (.int .i64 ((k - 1 : Nat) : Int)) from h60).trans (ifV_true (by first | exact hG | simp_all))
          exact index_at 7 rfl Tryd.underlying22 e58 e60 (by omega) (by kernel_rfl)
        refine tele_gval rfl (!q1) (.pointer (some ⟨b, off + (k - 1) * 7 + 1, none⟩)) (fun ρ w' hk => by obtain ⟨_, hg, -⟩ := hk; have eg : ρ 54 = ifV (!q1) (.bool true) := hg; cases h0 : (!q1) <;> simp [wantedR, Region.wanted, asBoolR_bool, asBoolR_undef, eg, ifV, h0]) ?_ ?_
        · rintro ρ w' he ⟨h61, hgd, -⟩ hG
          have e61 : ρ 61 = .pointer (some ⟨b, off + (k - 1) * 7, none⟩) := (show ρ 61 = ifV (!q1) (.pointer (some ⟨b, off + (k - 1) * 7, none⟩)) from h61).trans (ifV_true (by first | exact hG | simp_all))
          simp [execOp, evR, e61, go_sem]
        refine tele_gval rfl (!q1) (.int .i64 pseq) (fun ρ w' hk => by obtain ⟨_, hg, -⟩ := hk; have eg : ρ 54 = ifV (!q1) (.bool true) := hg; cases h0 : (!q1) <;> simp [wantedR, Region.wanted, asBoolR_bool, asBoolR_undef, eg, ifV, h0]) ?_ ?_
        · rintro ρ w' he ⟨h62, hgd, -⟩ hG
          have e62 : ρ 62 = .pointer (some ⟨b, off + (k - 1) * 7 + 1, none⟩) := (show ρ 62 = ifV (!q1) (.pointer (some ⟨b, off + (k - 1) * 7 + 1, none⟩)) from h62).trans (ifV_true (by first | exact hG | simp_all))
          have c0 := ((HX.out.trans he).cell (p := ⟨b, off + (k - 1) * 7 + 1, none⟩) hb).trans HPS.out
          simp [execOp, evR, e62, c0, go_sem]
        refine tele_gval rfl (!q1) (.bool q2) (fun ρ w' hk => by obtain ⟨_, _, hg, -⟩ := hk; have eg : ρ 54 = ifV (!q1) (.bool true) := hg; cases h0 : (!q1) <;> simp [wantedR, Region.wanted, asBoolR_bool, asBoolR_undef, eg, ifV, h0]) ?_ ?_
        · rintro ρ w' he ⟨h57, h63, hgd, -⟩ hG
          have e57 : ρ 57 = .int .i64 (s2 - 1) := (show ρ 57 = ifV (!q1) (.int .i64 (s2 - 1)) from h57).trans (ifV_true (by first | exact hG | simp_all))
          have e63 : ρ 63 = .int .i64 pseq := (show ρ 63 = ifV (!q1) (.int .i64 pseq) from h63).trans (ifV_true (by first | exact hG | simp_all))
          rw [Q64]
          simp [execOp, evR, e57, e63, go_sem]
        refine tele_gval rfl (!q1) (.bool q2) (fun ρ w' hk => by obtain ⟨_, _, hg, -⟩ := hk; have eg : ρ 51 = .bool q1 := hg; cases hq : (q1) <;> simp [wantedR, Region.wanted, asBoolR_bool, asBoolR_undef, eg, ifV, hq]) ?_ ?_
        · rintro ρ w' he ⟨h54, h64, hgd, -⟩ hG
          have e54 : ρ 54 = .bool true := (show ρ 54 = ifV (!q1) (.bool true) from h54).trans (ifV_true (by first | exact hG | simp_all))
          have e64 : ρ 64 = .bool q2 := (show ρ 64 = ifV (!q1) (.bool q2) from h64).trans (ifV_true (by first | exact hG | simp_all))
          simp [execOp, evR, e54, e64, go_sem]
        refine tele_val rfl (.bool (q1 || q2)) (fun _ _ _ => rfl) ?_ ?_
        · rintro ρ w' he ⟨h51, h65, -⟩
          have e51 : ρ 51 = .bool q1 := h51
          have e65 : ρ 65 = ifV (!q1) (.bool q2) := h65
          cases hc : (q1) <;> simp [execOp, evR, e51, e65, ifV, hc, go_sem]
        refine tele_nil ?_
        rintro ρ w' hext ⟨f66, f65, f64, f63, f62, f61, f60, f59, f58, f57, f56, f55, f54, f53, f52, f51, f50, f49, f48, f47, f46, f45, f44, f43, f42, f41, f40, -⟩
        clear f40
        clear f41
        clear f42
        clear f43
        clear f44
        clear f45
        clear f46
        clear f47
        clear f48
        clear f49
        clear f50
        clear f51
        clear f52
        clear f53
        clear f54
        clear f55
        clear f56
        clear f57
        clear f58
        clear f59
        clear f60
        clear f61
        clear f62
        clear f63
        clear f64
        clear f65
        replace f66 : ρ 66 = .bool (q1 || q2) := f66
        simp only [puts, Act.put, List.setIfInBounds_toArray, List.set_cons_zero, List.set_cons_succ]
        have hok : (q1 || q2) = !(s1 == site0 && s2 - 1 == pseq) := by
          rw [Q49, Q64]
          simp only [bne]
          cases (s1 == site0) <;> cases (s2 - 1 == pseq) <;> rfl
        rw [f66, hok]
        clear f66 hok Q49 Q64
        have HJ2 := Lib.hid (hj3.out.more hext)
        have HN2 := Lib.hid (HNT.out.ext hext)
        clear hj3 hext HX HPS bc HNT
        by_cases hq1 : (s1 == site0 && s2 - 1 == pseq) = true
        rotate_left
        · have hq0 : (s1 == site0 && s2 - 1 == pseq) = false := by simpa using hq1
          rw [hq0]
          clear hq1 hq0
          have XX := HJ2.out.ext
          go_wp2_with fail
          refine (HL.out _).mono ?_
          rintro e w9 ⟨rfl, x9⟩
          go_wp2_with fail
          go_ret
          exact ⟨rfl, XX.trans x9⟩
        rw [hq1]
        simp only [Bool.and_eq_true, beq_iff_eq] at hq1
        have HRN := Lib.hid (hrn.out.snoc HCG.out hq1.1 (by intro q hq; rw [HPV.out] at hq; injection hq with hq; dsimp only; omega))
        clear hq1
        have hal := ext_alloc w' (.cells #[strV (pname s2), strV (cput gs ⟨s1, s2, s3, s4, s5, s6, wd⟩)] 38)
        have bl := Blk.new w' #[strV (pname s2), strV (cput gs ⟨s1, s2, s3, s4, s5, s6, wd⟩)] 38
        have hown := (HJ2.out.more hal).row
        rw [HLO.out] at hown
        have hF : Fl (w'.alloc (.cells #[strV (pname s2), strV (cput gs ⟨s1, s2, s3, s4, s5, s6, wd⟩)] 38)) (.slice (some ⟨w'.heap.size, 0, none⟩) 1 1) 1 [strV (pname s2), strV (cput gs ⟨s1, s2, s3, s4, s5, s6, wd⟩)] := ⟨_, 1, rfl, Nat.le_refl _, by decide, by simp, fun _ => ⟨_, 0, rfl, bl.lt, fun j u hu => by rw [Nat.zero_add]; exact bl.cell (i := j) hu⟩⟩
        have h1c : ∀ u ∈ [strV (pname s2), strV (cput gs ⟨s1, s2, s3, s4, s5, s6, wd⟩)], u.oneCell' = true := by intro u hu; simp only [List.mem_cons, List.not_mem_nil, or_false] at hu; rcases hu with rfl | rfl <;> rfl
        have hsz := (HJ2.out.ext.trans hal).size
        have bt := HN2.out
        have c0 := bt.cell (i := 0) rfl
        have c1 := bt.cell (i := 1) rfl
        unfold strV at *
        clear bl hal bt
        go_upto_region 11 with (at_builtin; refine wpList_append_fl rfl (.tmp 68) (.tmp 70) 47 rfl w.heap.size 38 i0 _ 2 32 Tryd.underlying47 HI0.out HZ0.out HZ1.out HZ2.out rfl (by decide) hown hF rfl rfl rfl h1c (by unfold maxLen; omega) (by omega) hsz ?_; intro v' w3 hown' hg hat; clear c0 c1)
        have hjn := Lib.hid (HJ2.out.app (x := noteOf gs ⟨s1, s2, s3, s4, s5, s6, wd⟩) (tmp := .cells #[.string ⟨(pname s2).toArray⟩, .string ⟨(cput gs ⟨s1, s2, s3, s4, s5, s6, wd⟩).toArray⟩] 38) (noteOf_lim _ _) (by rw [HLO.out]; exact hown') (by rw [HLO.out]; exact hg))
        clear hown hF h1c hsz hg hat hown'
        go_wp2_with fail
        go_roundw
        case rel => exact ⟨k + 1, os ++ [⟨s1, s2, s3, s4, s5, s6, wd⟩], by go_num, Lib.hid (by rw [List.map_append]; exact hjn.out), HRN, Lib.hid (by rw [List.take_add_one, HGET.out, List.map_append, ← HTK.out]; rfl), hlt⟩
        case measure => simp [intOf]; omega
      · skip
        obtain ⟨q1, Q49⟩ : ∃ q : Bool, q = (s1 != site0) := ⟨_, rfl⟩
        refine wp_region_mono (by kernel_rfl) (by kernel_rfl) ?_
        refine tele_move rfl (.inl rfl) rfl (isV (.int .i64 ((0 : Nat) : Int))) (fun ρ w' h => h) ?_
        refine tele_val rfl (.bool false) (fun _ _ _ => rfl) ?_ ?_
        · rintro ρ w' he ⟨h40, -⟩
          have e40 : ρ 40 = .int .i64 ((0 : Nat) : Int) := h40
          simp [execOp, evR, e40, go_sem]
        refine tele_move rfl (.inl rfl) rfl (isV (.bool false)) (fun ρ w' h => h) ?_
        refine tele_val rfl (.pointer (some ⟨nc, 0, none⟩)) (fun ρ w' hk => by obtain ⟨_, hg, -⟩ := hk; have eg : ρ 42 = .bool false := hg; simp [wantedR, Region.wanted, asBoolR, eg]) ?_ ?_
        · rintro ρ w' he ⟨h9, hgd, -⟩
          have e9 : ρ 9 = .pointer (some ⟨nc, 0, none⟩) := h9
          simp [execOp, evR, e9, go_sem]
        refine tele_val rfl (.int .i64 s1) (fun ρ w' hk => by obtain ⟨_, hg, -⟩ := hk; have eg : ρ 42 = .bool false := hg; simp [wantedR, Region.wanted, asBoolR, eg]) ?_ ?_
        · rintro ρ w' he ⟨h43, hgd, -⟩
          have e43 : ρ 43 = .pointer (some ⟨nc, 0, none⟩) := h43
          have c0 := (bc.ext he).cell (i := 0) rfl
          simp [execOp, evR, e43, c0, go_sem]
        refine tele_val rfl (.slice (some ⟨b, off, none⟩) l.length cN) (fun ρ w' hk => by obtain ⟨_, hg, -⟩ := hk; have eg : ρ 42 = .bool false := hg; simp [wantedR, Region.wanted, asBoolR, eg]) ?_ ?_
        · rintro ρ w' he ⟨h1, hgd, -⟩
          have e1 : ρ 1 = .slice (some ⟨b, off, none⟩) l.length cN := h1
          simp [execOp, evR, e1, go_sem]
        refine tele_val rfl (.pointer (some ⟨b, off + 0 * 7, none⟩)) (fun ρ w' hk => by obtain ⟨_, hg, -⟩ := hk; have eg : ρ 42 = .bool false := hg; simp [wantedR, Region.wanted, asBoolR, eg]) ?_ ?_
        · rintro ρ w' he ⟨h45, hgd, -⟩
          have e45 : ρ 45 = .slice (some ⟨b, off, none⟩) l.length cN := h45
          exact index_at 7 rfl Tryd.underlying22 e45 (show _ = Value.int .i64 ((0 : Nat) : Int) from rfl) (by omega) (by kernel_rfl)
        refine tele_val rfl (.pointer (some ⟨b, off + 0 * 7, none⟩)) (fun ρ w' hk => by obtain ⟨_, hg, -⟩ := hk; have eg : ρ 42 = .bool false := hg; simp [wantedR, Region.wanted, asBoolR, eg]) ?_ ?_
        · rintro ρ w' he ⟨h46, hgd, -⟩
          have e46 : ρ 46 = .pointer (some ⟨b, off + 0 * 7, none⟩) := h46
          simp [execOp, evR, e46, go_sem]
        refine tele_val rfl (.int .i64 site0) (fun ρ w' hk => by obtain ⟨_, hg, -⟩ := hk; have eg : ρ 42 = .bool false := hg; simp [wantedR, Region.wanted, asBoolR, eg]) ?_ ?_
        · rintro ρ w' he ⟨h47, hgd, -⟩
          have e47 : ρ 47 = .pointer (some ⟨b, off + 0 * 7, none⟩) := h47
          have c0 := ((HX.out.trans he).cell (p := ⟨b, off, none⟩) hb).trans HS0.out
          simp [execOp, evR, e47, c0, go_sem]
        refine tele_val rfl (.bool q1) (fun ρ w' hk => by obtain ⟨_, _, hg, -⟩ := hk; have eg : ρ 42 = .bool false := hg; simp [wantedR, Region.wanted, asBoolR, eg]) ?_ ?_
        · rintro ρ w' he ⟨h44, h48, hgd, -⟩
          have e44 : ρ 44 = .int .i64 s1 := h44
          have e48 : ρ 48 = .int .i64 site0 := h48
          rw [Q49]
          simp [execOp, evR, e44, e48, go_sem]
        refine tele_val rfl (.bool q1) (fun _ _ _ => rfl) ?_ ?_
        · rintro ρ w' he ⟨h42, h49, -⟩
          have e42 : ρ 42 = .bool false := h42
          have e49 : ρ 49 = .bool q1 := h49
          simp [execOp, evR, e42, e49, go_sem]
        refine tele_move rfl (.inl rfl) rfl (isV (.bool q1)) (fun ρ w' h => h) ?_
        refine tele_gval rfl (!q1) (.int .i64 (k : Int)) (fun ρ w' hk => by obtain ⟨_, hg, -⟩ := hk; have eg : ρ 51 = .bool q1 := hg; cases hq : (q1) <;> simp [wantedR, Region.wanted, asBoolR_bool, asBoolR_undef, eg, ifV, hq]) ?_ ?_
        · rintro ρ w' he ⟨h8, hgd, -⟩ hG
          have e8 : ρ 8 = .int .i64 (k : Int) := h8
          simp [execOp, evR, e8, go_sem]
        refine tele_gval rfl (!q1) (.bool false) (fun ρ w' hk => by obtain ⟨_, hg, -⟩ := hk; have eg : ρ 51 = .bool q1 := hg; cases hq : (q1) <;> simp [wantedR, Region.wanted, asBoolR_bool, asBoolR_undef, eg, ifV, hq]) ?_ ?_
        · rintro ρ w' he ⟨h52, hgd, -⟩ hG
          have e52 : ρ 52 = .int .i64 (k : Int) := (show ρ 52 = ifV (!q1) (.int .i64 (k : Int)) from h52).trans (ifV_true (by first | exact hG | simp_all))
          simp [execOp, evR, e52, go_sem]
          omega
        refine tele_gval rfl (!q1) (.bool false) (fun ρ w' hk => by obtain ⟨_, hg, -⟩ := hk; have eg : ρ 51 = .bool q1 := hg; cases hq : (q1) <;> simp [wantedR, Region.wanted, asBoolR_bool, asBoolR_undef, eg, ifV, hq]) ?_ ?_
        · rintro ρ w' he ⟨h53, hgd, -⟩ hG
          have e53 : ρ 53 = .bool false := (show ρ 53 = ifV (!q1) (.bool false) from h53).trans (ifV_true (by first | exact hG | simp_all))
          simp [execOp, evR, e53, go_sem]
        refine tele_pass rfl (fun ρ w' hk => by obtain ⟨_, hg, -⟩ := hk; have eg : ρ 54 = ifV (!q1) (.bool false) := hg; cases h0 : (!q1) <;> simp [wantedR, Region.wanted, asBoolR_bool, asBoolR_undef, eg, ifV, h0]) ?_
        refine tele_pass rfl (fun ρ w' hk => by obtain ⟨_, hg, -⟩ := hk; have eg : ρ 54 = ifV (!q1) (.bool false) := hg; cases h0 : (!q1) <;> simp [wantedR, Region.wanted, asBoolR_bool, asBoolR_undef, eg, ifV, h0]) ?_
        refine tele_pass rfl (fun ρ w' hk => by obtain ⟨_, hg, -⟩ := hk; have eg : ρ 54 = ifV (!q1) (.bool false) := hg; cases h0 : (!q1) <;> simp [wantedR, Region.wanted, asBoolR_bool, asBoolR_undef, eg, ifV, h0]) ?_
        refine tele_pass rfl (fun ρ w' hk => by obtain ⟨_, hg, -⟩ := hk; have eg : ρ 54 = ifV (!q1) (.bool false) := hg; cases h0 : (!q1) <;> simp [wantedR, Region.wanted, asBoolR_bool, asBoolR_undef, eg, ifV, h0]) ?_
        refine tele_pass rfl (fun ρ w' hk => by obtain ⟨_, hg, -⟩ := hk; have eg : ρ 54 = ifV (!q1) (.bool false) := hg; cases h0 : (!q1) <;> simp [wantedR, Region.wanted, asBoolR_bool, asBoolR_undef, eg, ifV, h0]) ?_
        refine tele_pass rfl (fun ρ w' hk => by obtain ⟨_, hg, -⟩ := hk; have eg : ρ 54 = ifV (!q1) (.bool false) := hg; cases h0 : (!q1) <;> simp [wantedR, Region.wanted, asBoolR_bool, asBoolR_undef, eg, ifV, h0]) ?_
        refine tele_pass rfl (fun ρ w' hk => by obtain ⟨_, _, hg, -⟩ := hk; have eg : ρ 54 = ifV (!q1) (.bool false) := hg; cases h0 : (!q1) <;> simp [wantedR, Region.wanted, asBoolR_bool, asBoolR_undef, eg, ifV, h0]) ?_
        refine tele_pass rfl (fun ρ w' hk => by obtain ⟨_, hg, -⟩ := hk; have eg : ρ 54 = ifV (!q1) (.bool false) := hg; cases h0 : (!q1) <;> simp [wantedR, Region.wanted, asBoolR_bool, asBoolR_undef, eg, ifV, h0]) ?_
        refine tele_pass rfl (fun ρ w' hk => by obtain ⟨_, hg, -⟩ := hk; have eg : ρ 54 = ifV (!q1) (.bool false) := hg; cases h0 : (!q1) <;> simp [wantedR, Region.wanted, asBoolR_bool, asBoolR_undef, eg, ifV, h0]) ?_
        refine tele_pass rfl (fun ρ w' hk => by obtain ⟨_, _, hg, -⟩ := hk; have eg : ρ 54 = ifV (!q1) (.bool false) := hg; cases h0 : (!q1) <;> simp [wantedR, Region.wanted, asBoolR_bool, asBoolR_undef, eg, ifV, h0]) ?_
        refine tele_gval rfl (!q1) (.bool false) (fun ρ w' hk => by obtain ⟨_, _, hg, -⟩ := hk; have eg : ρ 51 = .bool q1 := hg; cases hq : (q1) <;> simp [wantedR, Region.wanted, asBoolR_bool, asBoolR_undef, eg, ifV, hq]) ?_ ?_
        · rintro ρ w' he ⟨h54, h64, hgd, -⟩ hG
          have e54 : ρ 54 = .bool false := (show ρ 54 = ifV (!q1) (.bool false) from h54).trans (ifV_true (by first | exact hG | simp_all))
          have e64 : ρ 64 = undef := h64
          simp [execOp, evR, e54, e64, go_sem]
        refine tele_val rfl (.bool (q1 || false)) (fun _ _ _ => rfl) ?_ ?_
        · rintro ρ w' he ⟨h51, h65, -⟩
          have e51 : ρ 51 = .bool q1 := h51
          have e65 : ρ 65 = ifV (!q1) (.bool false) := h65
          cases hc : (q1) <;> simp [execOp, evR, e51, e65, ifV, hc, go_sem]
        refine tele_nil ?_
        rintro ρ w' hext ⟨f66, f65, f64, f63, f62, f61, f60, f59, f58, f57, f56, f55, f54, f53, f52, f51, f50, f49, f48, f47, f46, f45, f44, f43, f42, f41, f40, -⟩
        clear f40
        clear f41
        clear f42
        clear f43
        clear f44
        clear f45
        clear f46
        clear f47
        clear f48
        clear f49
        clear f50
        clear f51
        clear f52
        clear f53
        clear f54
        clear f55
        clear f56
        clear f57
        clear f58
        clear f59
        clear f60
        clear f61
        clear f62
        clear f63
        clear f64
        clear f65
        replace f66 : ρ 66 = .bool (q1 || false) := f66
        simp only [puts, Act.put, List.setIfInBounds_toArray, List.set_cons_zero, List.set_cons_succ]
        have hok : (q1 || false) = !(s1 == site0) := by
          rw [Q49]
          simp only [bne]
          cases (s1 == site0) <;> rfl
        rw [f66, hok]
        clear f66 hok Q49
        have HJ2 := Lib.hid (hj3.out.more hext)
        have HN2 := Lib.hid (HNT.out.ext hext)
        clear hj3 hext HX  bc HNT
        by_cases hq1 : (s1 == site0) = true
        rotate_left
        · have hq0 : (s1 == site0) = false := by simpa using hq1
          rw [hq0]
          clear hq1 hq0
          have XX := HJ2.out.ext
          go_wp2_with fail
          refine (HL.out _).mono ?_
          rintro e w9 ⟨rfl, x9⟩
          go_wp2_with fail
          go_ret
          exact ⟨rfl, XX.trans x9⟩
        rw [hq1]
        simp only [Bool.and_eq_true, beq_iff_eq] at hq1
        have HRN := Lib.hid (hrn.out.snoc HCG.out hq1 (by intro q hq; rw [(List.eq_nil_of_length_eq_zero (by have := HLO.out; simp at this; omega) : os = [])] at hq; cases hq))
        clear hq1
        have hal := ext_alloc w' (.cells #[strV (pname s2), strV (cput gs ⟨s1, s2, s3, s4, s5, s6, wd⟩)] 38)
        have bl := Blk.new w' #[strV (pname s2), strV (cput gs ⟨s1, s2, s3, s4, s5, s6, wd⟩)] 38
        have hown := (HJ2.out.more hal).row
        rw [HLO.out] at hown
        have hF : Fl (w'.alloc (.cells #[strV (pname s2), strV (cput gs ⟨s1, s2, s3, s4, s5, s6, wd⟩)] 38)) (.slice (some ⟨w'.heap.size, 0, none⟩) 1 1) 1 [strV (pname s2), strV (cput gs ⟨s1, s2, s3, s4, s5, s6, wd⟩)] := ⟨_, 1, rfl, Nat.le_refl _, by decide, by simp, fun _ => ⟨_, 0, rfl, bl.lt, fun j u hu => by rw [Nat.zero_add]; exact bl.cell (i := j) hu⟩⟩
        have h1c : ∀ u ∈ [strV (pname s2), strV (cput gs ⟨s1, s2, s3, s4, s5, s6, wd⟩)], u.oneCell' = true := by intro u hu; simp only [List.mem_cons, List.not_mem_nil, or_false] at hu; rcases hu with rfl | rfl <;> rfl
        have hsz := (HJ2.out.ext.trans hal).size
        have bt := HN2.out
        have c0 := bt.cell (i := 0) rfl
        have c1 := bt.cell (i := 1) rfl
        unfold strV at *
        clear bl hal bt
        go_upto_region 11 with (at_builtin; refine wpList_append_fl rfl (.tmp 68) (.tmp 70) 47 rfl w.heap.size 38 i0 _ 2 32 Tryd.underlying47 HI0.out HZ0.out HZ1.out HZ2.out rfl (by decide) hown hF rfl rfl rfl h1c (by unfold maxLen; omega) (by omega) hsz ?_; intro v' w3 hown' hg hat; clear c0 c1)
        have hjn := Lib.hid (HJ2.out.app (x := noteOf gs ⟨s1, s2, s3, s4, s5, s6, wd⟩) (tmp := .cells #[.string ⟨(pname s2).toArray⟩, .string ⟨(cput gs ⟨s1, s2, s3, s4, s5, s6, wd⟩).toArray⟩] 38) (noteOf_lim _ _) (by rw [HLO.out]; exact hown') (by rw [HLO.out]; exact hg))
        clear hown hF h1c hsz hg hat hown'
        go_wp2_with fail
        go_roundw
        case rel => exact ⟨k + 1, os ++ [⟨s1, s2, s3, s4, s5, s6, wd⟩], by go_num, Lib.hid (by rw [List.map_append]; exact hjn.out), HRN, Lib.hid (by rw [List.take_add_one, HGET.out, List.map_append, ← HTK.out]; rfl), hlt⟩
        case measure => simp [intOf]; omega
    · have htk2 : os = l.map (·.1) := by rw [HTK.out, List.take_of_length_le (by omega)]
      have hkl2 : k = l.length := by omega
      obtain rfl := hkl2
      have HALL := Lib.hid htk2
      obtain ⟨m, hm1, hm2, hm3⟩ := run_gone ack hrn.out
      have hol : os.length = l.length := by rw [htk2]; simp
      rw [hol] at hm1
      clear htk2
      have HM2 := Lib.hid hm2
      have HM3 := Lib.hid hm3
      have HOL := Lib.hid hol
      clear hm2 hm3 hol
      obtain ⟨b, off, rfl, hb, hc⟩ := H4.out hl1
      obtain ⟨t1, t2, t3, t4, t5, t6, td, tw, hget0, -, -, r0, -⟩ := hc 0 hl1
      have ht1 := HSITE.out _ hget0
      dsimp only at ht1
      rw [ht1] at r0
      simp only [Nat.zero_mul, Nat.add_zero] at r0
      have HS0 := Lib.hid r0
      have HPG : Hid (pgood gs = 0) := Lib.hid (good_pgood (hrn.out.ok ⟨t1, t2, t3, t4, t5, t6, td⟩ (by rw [HALL.out]; exact List.mem_map.2 ⟨_, List.mem_of_getElem? hget0, rfl⟩)).1)
      clear hc hget0 ht1 r0
      have hns := hj.out.ns
      rw [HLO.out] at hns
      have HNS := Lib.hid hns
      have HLIM := Lib.hid hj.out.lim
      have HJX := Lib.hid hj.out.ext
      clear hj hns
      go_wp2_with fail
      refine (capTrim_any ack _ _ _ HNS.out (by rw [HLO.out]; omega)).mono ?_
      rintro e w3 ⟨r, rfl, hns4, x3⟩
      rw [HM2.out] at hns4
      have hgl4 : (trimOf ((os.map (noteOf gs)).take m)).length = m := by rw [trimOf_len, List.length_take, HLO.out]; omega
      obtain ⟨A4, c4, rfl, q1, q2, -, q4⟩ := hns4.at_
      rw [hgl4] at q1 q4
      rw [hgl4]
      have HN4 := Lib.hid hns4
      have HQ4 := Lib.hid q4
      have HGL := Lib.hid hgl4
      have HX4 := Lib.hid (HJX.out.trans x3)
      have HX3 := Lib.hid x3
      clear q4 hns4 hgl4 x3
      have hle2 : decide (l.length < m) = false := by simpa using hm1
      go_wp2_with fail
      clear hle2
      have hN3 := HNS.out.ext HX3.out
      obtain ⟨AO', cO', hv, -, o3, -, n4⟩ := hN3.at_
      rw [HLO.out] at hv n4
      injection hv with e1 _ e3
      subst e1 e3
      obtain ⟨bn, on, rfl, hbn, hcn⟩ := n4 hl1
      have HN3 := Lib.hid hN3
      have HCN := Lib.hid hcn
      clear n4 hN3 hcn
      go_loopw [83] (fun i wr => ∃ j : Nat, i = .int .i64 j ∧ j ≤ m ∧ Hid (Ext w3 wr)) (fun i _ => m - (intOf i).toNat)
      case atStart => exact ⟨0, rfl, Nat.zero_le _, Lib.hid (Ext.refl _)⟩
      case round =>
        obtain ⟨j, rfl, hjm, hq⟩ := hrel
        by_cases hjl : j < m
        · obtain ⟨b4, off4, rfl, hb4, hc4⟩ := HQ4.out (by omega)
          obtain ⟨nm, tx, hgt, p0, p1, -, -⟩ := hc4 j hjl
          obtain ⟨nm2, tx2, hgt2, r0, -, -, -⟩ := HCN.out j (by omega)
          have hnn : nm2 = nm ∧ [] = tx := by
            have h := hgt
            unfold trimOf at h
            rw [List.getElem?_map, List.getElem?_take, if_pos hjl, hgt2] at h
            injection h with h
            injection h with h1 h2
            exact ⟨h1, h2⟩
          obtain ⟨rfl, rfl⟩ := hnn
          have HN0 := Lib.hid r0
          replace p0 := (hq.out.cell (p := ⟨b4, off4 + j * 2, none⟩) hb4).trans p0
          replace p1 := (hq.out.cell (p := ⟨b4, off4 + j * 2 + 1, none⟩) hb4).trans p1
          unfold strV at p0 p1
          clear hc4 hgt hgt2 r0
          go_upto_region 18 with (fail)
          have bg := Blk.new wr #[.string ⟨nm2.toArray⟩, .string ⟨#[]⟩] 38
          have hq2 := Lib.hid (hq.out.trans (ext_alloc wr (.cells #[.string ⟨nm2.toArray⟩, .string ⟨#[]⟩] 38)))
          clear hq p0 p1
          have hq := hq2
          clear hq2
          generalize wr.heap.size = ng at *
          generalize wr.alloc (.cells #[.string ⟨nm2.toArray⟩, .string ⟨#[]⟩] 38) = W5 at *
          replace bg : Blk W5 ng [strV nm2, strV []] := bg
          refine wp_region_mono (by kernel_rfl) (by kernel_rfl) ?_
          refine tele_val rfl (.pointer (some ⟨ng, 0, none⟩)) (fun _ _ _ => rfl) ?_ ?_
          · rintro ρ w' he ⟨h14, -⟩
            have e14 : ρ 14 = .pointer (some ⟨ng, 0, none⟩) := h14
            simp [execOp, evR, e14, go_sem]
          refine tele_val rfl (strV nm2) (fun _ _ _ => rfl) ?_ ?_
          · rintro ρ w' he ⟨h88, -⟩
            have e88 : ρ 88 = .pointer (some ⟨ng, 0, none⟩) := h88
            have c0 := (bg.ext he).cell (i := 0) rfl
            simp [execOp, evR, e88, c0, go_sem]
          refine tele_move rfl (.inl rfl) rfl (isV (.slice (some ⟨bn, on, none⟩) l.length cO)) (fun ρ w' h => h) ?_
          refine tele_move rfl (.inl rfl) rfl (isV (.int .i64 (j : Int))) (fun ρ w' h => h) ?_
          refine tele_val rfl (.pointer (some ⟨bn, on + j * 2, none⟩)) (fun _ _ _ => rfl) ?_ ?_
          · rintro ρ w' he ⟨h90, h91, -⟩
            have e90 : ρ 90 = .slice (some ⟨bn, on, none⟩) l.length cO := h90
            have e91 : ρ 91 = .int .i64 (j : Int) := h91
            exact index_at 2 rfl Tryd.underlying47 e90 e91 (by omega) (by kernel_rfl)
          refine tele_val rfl (.pointer (some ⟨bn, on + j * 2, none⟩)) (fun _ _ _ => rfl) ?_ ?_
          · rintro ρ w' he ⟨h92, -⟩
            have e92 : ρ 92 = .pointer (some ⟨bn, on + j * 2, none⟩) := h92
            simp [execOp, evR, e92, go_sem]
          refine tele_val rfl (strV nm2) (fun _ _ _ => rfl) ?_ ?_
          · rintro ρ w' he ⟨h93, -⟩
            have e93 : ρ 93 = .pointer (some ⟨bn, on + j * 2, none⟩) := h93
            have c0 := ((hq.out.trans he).cell (p := ⟨bn, on + j * 2, none⟩) hbn).trans HN0.out
            simp [execOp, evR, e93, c0, go_sem]
          refine tele_val rfl (.bool false) (fun _ _ _ => rfl) ?_ ?_
          · rintro ρ w' he ⟨h89, h94, -⟩
            have e89 : ρ 89 = strV nm2 := h89
            have e94 : ρ 94 = strV nm2 := h94
            exact (exec_neq_str rfl e89 e94).trans (by simp)
          refine tele_move rfl (.inl rfl) rfl (isV (.bool false)) (fun ρ w' h => h) ?_
          refine tele_val rfl (.pointer (some ⟨ng, 1, none⟩)) (fun ρ w' hk => by obtain ⟨_, hg, -⟩ := hk; have eg : ρ 96 = .bool false := hg; simp [wantedR, Region.wanted, asBoolR, eg]) ?_ ?_
          · rintro ρ w' he ⟨h14, hgd, -⟩
            have e14 : ρ 14 = .pointer (some ⟨ng, 0, none⟩) := h14
            simp [execOp, evR, e14, go_sem]
          refine tele_val rfl (strV []) (fun ρ w' hk => by obtain ⟨_, hg, -⟩ := hk; have eg : ρ 96 = .bool false := hg; simp [wantedR, Region.wanted, asBoolR, eg]) ?_ ?_
          · rintro ρ w' he ⟨h97, hgd, -⟩
            have e97 : ρ 97 = .pointer (some ⟨ng, 1, none⟩) := h97
            have c0 := (bg.ext he).cell (i := 1) rfl
            simp [execOp, evR, e97, c0, go_sem]
          refine tele_val rfl (.bool false) (fun ρ w' hk => by obtain ⟨_, hg, -⟩ := hk; have eg : ρ 96 = .bool false := hg; simp [wantedR, Region.wanted, asBoolR, eg]) ?_ ?_
          · rintro ρ w' he ⟨h98, hgd, -⟩
            have e98 : ρ 98 = strV [] := h98
            exact (exec_neq_str (b := []) rfl e98 rfl).trans (by simp)
          refine tele_val rfl (.bool false) (fun _ _ _ => rfl) ?_ ?_
          · rintro ρ w' he ⟨h96, h99, -⟩
            have e96 : ρ 96 = .bool false := h96
            have e99 : ρ 99 = .bool false := h99
            simp [execOp, evR, e96, e99, go_sem]
          refine tele_nil ?_
          rintro ρ w' hext ⟨f100, f99, f98, f97, f96, f95, f94, f93, f92, f91, f90, f89, f88, -⟩
          clear f88
          clear f89
          clear f90
          clear f91
          clear f92
          clear f93
          clear f94
          clear f95
          clear f96
          clear f97
          clear f98
          clear f99
          replace f100 : ρ 100 = .bool false := f100
          simp only [puts, Act.put, List.setIfInBounds_toArray, List.set_cons_zero, List.set_cons_succ]
          rw [f100]
          clear f100
          go_wp2_with fail
          go_roundw
          case rel => exact ⟨j + 1, by go_num, hjl, Lib.hid (hq.out.trans hext)⟩
          case measure => simp [intOf]; omega
        · obtain rfl : m = j := by omega
          obtain ⟨A5, hsl, hsn⟩ := notes_from (some ⟨bn, on, none⟩) l.length cO m hm1 o1
          have HSL := Lib.hid hsl
          have hnd := hsn _ _ HLO.out HN3.out
          rw [← List.map_drop] at hnd
          have HND := Lib.hid hnd
          have HKM : Hid (((os.drop m).map (noteOf gs)).length ≤ 1200) := Lib.hid (by rw [List.length_map, List.length_drop, HOL.out]; omega)
          have HLM : Hid (∀ x ∈ (os.drop m).map (noteOf gs), x.1.length ≤ 12000 ∧ x.2.length ≤ 12000) := Lib.hid (fun x hx => by
            obtain ⟨y, hy, rfl⟩ := List.mem_map.1 hx
            exact noteOf_lim gs y)
          have hrd := cread_run (hrn.out.drop m) HPG.out
          have HRD := Lib.hid hrd
          clear hsl hsn hnd hrd
          have HX5 := hq
          have hq := Lib.hid (HX4.out.trans HX5.out)
          go_upto_region 21 with (fail)
          refine wp_region_mono (by kernel_rfl) (by kernel_rfl) ?_
          refine tele_move rfl (.inl rfl) rfl (isV (.slice Ag gs.length cg)) (fun ρ w' h => h) ?_
          refine tele_move rfl (.inl rfl) rfl (isV (.slice (some ⟨b, off, none⟩) l.length cN)) (fun ρ w' h => h) ?_
          refine tele_val rfl (.pointer (some ⟨b, off + 0 * 7, none⟩)) (fun _ _ _ => rfl) ?_ ?_
          · rintro ρ w' he ⟨h104, -⟩
            have e104 : ρ 104 = .slice (some ⟨b, off, none⟩) l.length cN := h104
            exact index_at 7 rfl Tryd.underlying22 e104 (show _ = Value.int .i64 ((0 : Nat) : Int) from rfl) (by omega) (by kernel_rfl)
          refine tele_val rfl (.pointer (some ⟨b, off + 0 * 7, none⟩)) (fun _ _ _ => rfl) ?_ ?_
          · rintro ρ w' he ⟨h105, -⟩
            have e105 : ρ 105 = .pointer (some ⟨b, off + 0 * 7, none⟩) := h105
            simp [execOp, evR, e105, go_sem]
          refine tele_val rfl (.int .i64 site0) (fun _ _ _ => rfl) ?_ ?_
          · rintro ρ w' he ⟨h106, -⟩
            have e106 : ρ 106 = .pointer (some ⟨b, off + 0 * 7, none⟩) := h106
            have c0 := ((hq.out.trans he).cell (p := ⟨b, off, none⟩) hb).trans HS0.out
            simp [execOp, evR, e106, c0, go_sem]
          refine tele_move rfl (.inl rfl) rfl (isV (.slice (some ⟨bn, on, none⟩) l.length cO)) (fun ρ w' h => h) ?_
          refine tele_move rfl (.inl rfl) rfl (isV (.slice A4 m c4)) (fun ρ w' h => h) ?_
          refine tele_val rfl (.int .i64 ((m : Nat) : Int)) (fun _ _ _ => rfl) ?_ ?_
          · rintro ρ w' he ⟨h109, -⟩
            have e109 : ρ 109 = .slice A4 m c4 := h109
            simp [execOp, evR, e109, go_sem]
          refine tele_val rfl (.slice A5 (l.length - m) (cO - m)) (fun _ _ _ => rfl) ?_ ?_
          · rintro ρ w' he ⟨h108, h110, -⟩
            have e108 : ρ 108 = .slice (some ⟨bn, on, none⟩) l.length cO := h108
            have e110 : ρ 110 = .int .i64 ((m : Nat) : Int) := h110
            exact HSL.out _ _ _ _ _ rfl e108 e110
          refine tele_call rfl rfl Tryd.func20 (by kernel_rfl) (isRd ((os.drop m).map (noteOf gs)) gs site0) (fun _ _ _ => rfl) ?_ ?_
          · rintro ρ w' he ⟨h103, h107, h111, -⟩
            have e103 : ρ 103 = .slice Ag gs.length cg := h103
            have e107 : ρ 107 = .int .i64 site0 := h107
            have e111 : ρ 111 = .slice A5 (l.length - m) (cO - m) := h111
            simp only [evR, List.map_toArray, List.map_cons, List.map_nil, e103, e107, e111]
            refine (capRead_any _ gs site0 _ ((os.drop m).map (noteOf gs)) _ (HT.out.ext (hq.out.trans he)) (HG.out.ext (hq.out.trans he)) (HND.out.ext (HX5.out.trans he)) HKM.out HLM.out).mono ?_
            rintro e w'' ⟨r, outs, he', hcs, hm, hx⟩
            exact ⟨_, he', hx, r, outs, rfl, hcs, hm⟩
          refine tele_move rfl (.inl rfl) rfl (isRd ((os.drop m).map (noteOf gs)) gs site0) (fun ρ w' h => h) ?_
          refine tele_any rfl (isCsL (cread gs site0 ((os.drop m).map (noteOf gs))).1) ?_ ?_
          · rintro ρ w' he hk
            rw [if_pos (show wantedR _ _ _ = true from rfl)]
            obtain ⟨h102, -⟩ := hk
            have e102 : (isRd ((os.drop m).map (noteOf gs)) gs site0).rel (ρ 102) w' := h102
            obtain ⟨r, outs, e, hcs, hm⟩ := e102
            exact monoUpon_ok (v := r) (by simp [execOp, evR, e, go_sem]) (Ext.refl _) ⟨outs, hcs, hm⟩
          refine tele_any rfl (isV (.int .i64 ((cread gs site0 ((os.drop m).map (noteOf gs))).2 : Int))) ?_ ?_
          · rintro ρ w' he hk
            rw [if_pos (show wantedR _ _ _ = true from rfl)]
            obtain ⟨h102, -⟩ := hk
            have e102 : (isRd ((os.drop m).map (noteOf gs)) gs site0).rel (ρ 102) w' := h102
            obtain ⟨r, outs, e, hcs, hm⟩ := e102
            exact monoUpon_ok (by simp [execOp, evR, e, go_sem]) (Ext.refl _) rfl
          refine tele_move rfl (.inr rfl) rfl (isCsL (cread gs site0 ((os.drop m).map (noteOf gs))).1) (fun ρ w' h => h) ?_
          refine tele_move rfl (.inr rfl) rfl (isV (.int .i64 ((cread gs site0 ((os.drop m).map (noteOf gs))).2 : Int))) (fun ρ w' h => h) ?_
          refine tele_nil ?_
          rintro ρ w' hext ⟨f16, f15, f114, f113, f102, f112, f111, f110, f109, f108, f107, f106, f105, f104, f103, -⟩
          clear f103
          clear f104
          clear f105
          clear f106
          clear f107
          clear f108
          clear f109
          clear f110
          clear f111
          clear f112
          clear f102
          clear f113
          clear f114
          replace f15 : (isCsL (cread gs site0 ((os.drop m).map (noteOf gs))).1).rel (ρ 15) w' := f15
          replace f16 : (isV (.int .i64 ((cread gs site0 ((os.drop m).map (noteOf gs))).2 : Int))).rel (ρ 16) w' := f16
          simp only [puts, Act.put, List.setIfInBounds_toArray, List.set_cons_zero, List.set_cons_succ]
          rw [HRD.out] at f15 f16
          rw [f16]
          obtain ⟨outs, hcs, hmo⟩ := (show (isCsL (os.drop m)).rel (ρ 15) w' from f15)
          obtain ⟨A6, c6, hv6, -⟩ := hcs.at_
          rw [hv6] at hcs
          rw [hv6]
          have HC6 := Lib.hid hcs
          have HM6 := Lib.hid hmo
          have HX6 := Lib.hid (hq.out.trans hext)
          clear f15 f16 hv6 hcs hmo hext hq HX5
          go_wp2_with fail
          refine (capFrom_any ack (l.length : Int) _ l _ (HCS.out.ext HX6.out) (by omega) (fun x hx => Nat.le_trans (HWL.out x hx) (by decide))).mono ?_
          rintro e w6 ⟨r6, outs2, rfl, hcs2, hmo2, x6⟩
          have hfl : outs2.map (·.1) = os.drop m := by
            rw [hmo2, ← HM3.out, Int.toNat_natCast, HALL.out, List.filter_map]
            exact List.take_of_length_le (by rw [List.length_map]; exact List.length_filter_le _ _)
          have HFL := Lib.hid (HM6.out.trans hfl.symm)
          obtain ⟨A7, c7, rfl, -⟩ := hcs2.at_
          have HC7 := Lib.hid hcs2
          have HC8 := Lib.hid (HC6.out.ext x6)
          have HX7 := Lib.hid (HX6.out.trans x6)
          clear hfl hcs2 hmo2 x6
          go_wp2_with fail
          refine (chAll_any _ _ outs outs2 _ HC8.out HC7.out HFL.out).mono ?_
          rintro e w4 ⟨rfl, x4⟩
          have XX := HX7.out.trans x4
          clear x4
          go_wp2_with fail
          refine (HL.out _).mono ?_
          rintro e w9 ⟨rfl, x9⟩
          go_wp2_with fail
          go_ret
          exact ⟨rfl, XX.trans x9⟩
end Go.Proofs.YtacabcpjaadijaaDoor
