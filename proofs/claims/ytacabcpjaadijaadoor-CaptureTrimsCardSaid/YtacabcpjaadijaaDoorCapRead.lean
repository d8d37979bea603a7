/-
  Layer 19: the walk of capture.Read.
-/
import Derived.Test.YtacabcpjaadijaaDoorCapReadPlain
import Derived.Test.YtacabcpjaadijaaDoorMono
import Derived.IntWalk
namespace Go.Proofs.YtacabcpjaadijaaDoor
open Go Go.RowKit Mono Num
set_option linter.unusedVariables false
set_option linter.unusedSimpArgs false
set_option maxRecDepth 100000

set_option maxHeartbeats 8000000 in
theorem capRead_any (vl : Value) (gs : List Grp) (site : Int) (v : Value) (l : List (List UInt8 × List UInt8)) (w : World) (hT : TbC w) (hl : Gs w vl gs) (hn : Ns w v l) (hlen : l.length ≤ 1200) (hlim : ∀ x ∈ l, x.1.length ≤ 12000 ∧ x.2.length ≤ 12000) :
    Calls Tryd.prog 20 #[vl, .int .i64 site, v] w fun e w' => ReadQ gs site l w e w' := by
  obtain ⟨i0, hi0, hz0, hz1, hz2⟩ := info_parts infoCh
  have HI0 := Lib.hid hi0
  have HZ0 := Lib.hid hz0
  have HZ1 := Lib.hid hz1
  have HZ2 := Lib.hid hz2
  obtain ⟨AN, cN, rfl, g1, g2, g3, g4⟩ := hn.at_
  have H4 := Lib.hid g4
  have HG := Lib.hid hl
  have HT := Lib.hid hT
  have HLIM := Lib.hid hlim
  have HLEN := Lib.hid hlen
  clear g4 g3 hn hl hT hlim hlen hi0 hz0 hz1 hz2
  go_enter Tryd.func20, Tryd.ntmps20
  go_wp2_with fail
  refine (polGood_any vl gs _ HG.out).mono ?_
  rintro e w1 ⟨rfl, x1⟩
  have HX1 := Lib.hid x1
  clear x1
  by_cases hp : pgood gs = 0
  rotate_left
  · have hp0 : (((pgood gs : Nat) : Int) != 0) = true := by rw [bne_iff_ne]; omega
    have HR := Lib.hid (cread_no (site := site) (l := l) hp)
    clear hp
    go_wp2_with fail
    go_ret2
    exact ReadQ.no HR.out rfl HX1.out
  rw [hp]
  have HP := Lib.hid hp
  clear hp
  go_wp2_with fail
  go_loopw [6, 22] (fun o i wr => ∃ (k : Nat) (outs : List (Ch × Value)), i = .int .i64 k ∧ Hid (RdJ w o outs wr) ∧ Hid (CR gs site l k (outs.map (·.1))) ∧ k ≤ l.length) (fun _ i _ => l.length - (intOf i).toNat)
  case atStart => exact ⟨0, [], rfl, Lib.hid (RdJ.start HX1.out), Lib.hid (CR.start _ _ _), Nat.zero_le _⟩
  case round =>
    obtain ⟨k, outs, rfl, hj, hcr, hkl⟩ := hrel
    clear HX1
    obtain ⟨AO, cO, rfl, o1, o2, -, -⟩ := hj.out.cs.at_
    have hlo : outs.length = k := by have := hcr.out.len; simpa using this
    rw [hlo] at o1
    rw [hlo]
    have HLO := Lib.hid hlo
    clear hlo
    have hk12 : k ≤ 1200 := by have := HLEN.out; omega
    by_cases hlt : k < l.length
    · obtain ⟨b, off, rfl, hb, hc⟩ := H4.out (by omega)
      obtain ⟨nm, tx, hget, p0, p1, -, -⟩ := hc k hlt
      have HGET := Lib.hid hget
      have hlm := HLIM.out _ (List.mem_of_getElem? hget)
      dsimp only at hlm
      obtain ⟨hnl, htl⟩ := hlm
      replace p0 := (hj.out.ext.cell (p := ⟨b, off + k * 2, none⟩) hb).trans p0
      replace p1 := (hj.out.ext.cell (p := ⟨b, off + k * 2 + 1, none⟩) hb).trans p1
      clear hc hget H4
      unfold strV at p0 p1
      go_upto_region 7 with (fail)
      have bt := Blk.new wr #[.string ⟨nm.toArray⟩, .string ⟨tx.toArray⟩] 38
      have hj2 := Lib.hid (hj.out.more (ext_alloc wr (.cells #[.string ⟨nm.toArray⟩, .string ⟨tx.toArray⟩] 38)))
      clear hj p0 p1
      generalize wr.heap.size = nn at *
      generalize wr.alloc (.cells #[.string ⟨nm.toArray⟩, .string ⟨tx.toArray⟩] 38) = W7 at *
      have k1 := bt.cell (i := 1) rfl
      obtain ⟨AB, cB, W8, hcv, hbs, x8⟩ := bytes_of_str tx W7 (by unfold maxLen; omega)
      have HBS := Lib.hid hbs
      have HBT := Lib.hid (bt.ext x8)
      have HJ := Lib.hid (hj2.out.more x8)
      clear hbs bt hj2 x8
      go_wp2_with fail
      clear hcv k1
      obtain ⟨⟨s1, s2, s3, s4, s5, s6, wd⟩, n, er, hgp⟩ : ∃ d n e, cgetP gs tx = (d, n, e) := ⟨_, _, _, rfl⟩
      have hcall := chGet_any AB cB tx vl gs W8 HBS.out (by omega) (HG.out.ext HJ.out.ext)
      rw [hgp] at hcall
      unfold chV at hcall
      dsimp only at hcall
      have hsq := cget_seq gs tx
      rw [hgp] at hsq
      dsimp only at hsq
      obtain ⟨hsq0, hsq1⟩ := hsq
      have HGP := Lib.hid hgp
      have HCL := Lib.hid hcall
      clear hgp hcall
      refine HCL.out.mono ?_
      rintro en W9 ⟨vw, rfl, hws, x9⟩
      obtain ⟨A2, c2, rfl, -⟩ := hws.ws.at_
      have HWS := Lib.hid (hws.ext (ext_alloc W9 (.cells #[.int .i64 s1, .int .i64 s2, .int .i64 s3, .int .i64 s4, .int .i64 s5, .int .i64 s6, .slice A2 wd.length c2] 32)))
      have bc := Blk.new W9 #[.int .i64 s1, .int .i64 s2, .int .i64 s3, .int .i64 s4, .int .i64 s5, .int .i64 s6, .slice A2 wd.length c2] 32
      have bt := (HBT.out.ext x9).ext (ext_alloc W9 (.cells #[.int .i64 s1, .int .i64 s2, .int .i64 s3, .int .i64 s4, .int .i64 s5, .int .i64 s6, .slice A2 wd.length c2] 32))
      have hj9 := Lib.hid ((HJ.out.more x9).more (ext_alloc W9 (.cells #[.int .i64 s1, .int .i64 s2, .int .i64 s3, .int .i64 s4, .int .i64 s5, .int .i64 s6, .slice A2 wd.length c2] 32)))
      clear HCL HJ HBS hws x9 HBT
      go_upto_region 8 with (fail)
      generalize W9.heap.size = nc at *
      generalize W9.alloc (.cells #[.int .i64 s1, .int .i64 s2, .int .i64 s3, .int .i64 s4, .int .i64 s5, .int .i64 s6, .slice A2 wd.length c2] 32) = W10 at *
      have HX := Lib.hid hj9.out.ext
      replace bt : Blk W10 nn [strV nm, strV tx] := bt
      obtain ⟨q1, Q36⟩ : ∃ q : Bool, q = ((er : Int) != 0) := ⟨_, rfl⟩
      obtain ⟨q2, Q42⟩ : ∃ q : Bool, q = ((n : Int) != (tx.length : Int)) := ⟨_, rfl⟩
      obtain ⟨q3, Q48⟩ : ∃ q : Bool, q = (s1 != site) := ⟨_, rfl⟩
      obtain ⟨q4, Q56⟩ : ∃ q : Bool, q = (!(pname s2 == nm)) := ⟨_, rfl⟩
      refine wp_region_mono (by kernel_rfl) (by kernel_rfl) ?_
      refine tele_move rfl (.inl rfl) rfl (isV (.int .i64 (er : Int))) (fun ρ w' h => h) ?_
      refine tele_val rfl (.bool q1) (fun _ _ _ => rfl) ?_ ?_
      · rintro ρ w' he ⟨h35, -⟩
        have e35 : ρ 35 = .int .i64 (er : Int) := h35
        rw [Q36]
        simp [execOp, evR, e35, go_sem]
      refine tele_move rfl (.inl rfl) rfl (isV (.bool q1)) (fun ρ w' h => h) ?_
      refine tele_gval rfl (!q1) (.int .i64 (n : Int)) (fun ρ w' hk => by obtain ⟨_, hg, -⟩ := hk; have eg : ρ 37 = .bool q1 := hg; cases hq : (q1) <;> simp [wantedR, Region.wanted, asBoolR_bool, asBoolR_undef, eg, ifV, hq]) ?_ ?_
      · rintro ρ w' he ⟨h12, hgd, -⟩ hG
        have e12 : ρ 12 = .int .i64 (n : Int) := h12
        simp [execOp, evR, e12, go_sem]
      refine tele_gval rfl (!q1) (.pointer (some ⟨nn, 1, none⟩)) (fun ρ w' hk => by obtain ⟨_, hg, -⟩ := hk; have eg : ρ 37 = .bool q1 := hg; cases hq : (q1) <;> simp [wantedR, Region.wanted, asBoolR_bool, asBoolR_undef, eg, ifV, hq]) ?_ ?_
      · rintro ρ w' he ⟨h10, hgd, -⟩ hG
        have e10 : ρ 10 = .pointer (some ⟨nn, 0, none⟩) := h10
        simp [execOp, evR, e10, go_sem]
      refine tele_gval rfl (!q1) (strV tx) (fun ρ w' hk => by obtain ⟨_, hg, -⟩ := hk; have eg : ρ 37 = .bool q1 := hg; cases hq : (q1) <;> simp [wantedR, Region.wanted, asBoolR_bool, asBoolR_undef, eg, ifV, hq]) ?_ ?_
      · rintro ρ w' he ⟨h39, hgd, -⟩ hG
        have e39 : ρ 39 = .pointer (some ⟨nn, 1, none⟩) := (show ρ 39 = ifV (!q1) (.pointer (some ⟨nn, 1, none⟩)) from h39).trans (ifV_true (by first | exact hG | simp_all))
        have c0 := (bt.ext he).cell (i := 1) rfl
        simp [execOp, evR, e39, c0, go_sem]
      refine tele_gval rfl (!q1) (.int .i64 ((tx.length : Nat) : Int)) (fun ρ w' hk => by obtain ⟨_, hg, -⟩ := hk; have eg : ρ 37 = .bool q1 := hg; cases hq : (q1) <;> simp [wantedR, Region.wanted, asBoolR_bool, asBoolR_undef, eg, ifV, hq]) ?_ ?_
      · rintro ρ w' he ⟨h40, hgd, -⟩ hG
        have e40 : ρ 40 = strV tx := (show ρ 40 = ifV (!q1) (strV tx) from h40).trans (ifV_true (by first | exact hG | simp_all))
        have hsz := strV_size tx
        unfold strV at e40
        simp [execOp, evR, e40, go_sem]
      refine tele_gval rfl (!q1) (.bool q2) (fun ρ w' hk => by obtain ⟨_, _, hg, -⟩ := hk; have eg : ρ 37 = .bool q1 := hg; cases hq : (q1) <;> simp [wantedR, Region.wanted, asBoolR_bool, asBoolR_undef, eg, ifV, hq]) ?_ ?_
      · rintro ρ w' he ⟨h38, h41, hgd, -⟩ hG
        have e38 : ρ 38 = .int .i64 (n : Int) := (show ρ 38 = ifV (!q1) (.int .i64 (n : Int)) from h38).trans (ifV_true (by first | exact hG | simp_all))
        have e41 : ρ 41 = .int .i64 ((tx.length : Nat) : Int) := (show ρ 41 = ifV (!q1) (.int .i64 ((tx.length : Nat) : Int)) from h41).trans (ifV_true (by first | exact hG | simp_all))
        rw [Q42]
        simp [execOp, evR, e38, e41, go_sem]
      refine tele_val rfl (.bool (q1 || q2)) (fun _ _ _ => rfl) ?_ ?_
      · rintro ρ w' he ⟨h37, h42, -⟩
        have e37 : ρ 37 = .bool q1 := h37
        have e42 : ρ 42 = ifV (!q1) (.bool q2) := h42
        cases hc : (q1) <;> simp [execOp, evR, e37, e42, ifV, hc, go_sem]
      refine tele_move rfl (.inl rfl) rfl (isV (.bool (q1 || q2))) (fun ρ w' h => h) ?_
      refine tele_gval rfl ((!(q1 || q2))) (.pointer (some ⟨nc, 0, none⟩)) (fun ρ w' hk => by obtain ⟨_, hg, -⟩ := hk; have eg : ρ 44 = .bool (q1 || q2) := hg; cases hq : ((q1 || q2)) <;> simp [wantedR, Region.wanted, asBoolR_bool, asBoolR_undef, eg, ifV, hq]) ?_ ?_
      · rintro ρ w' he ⟨h11, hgd, -⟩ hG
        have e11 : ρ 11 = .pointer (some ⟨nc, 0, none⟩) := h11
        simp [execOp, evR, e11, go_sem]
      refine tele_gval rfl ((!(q1 || q2))) (.int .i64 s1) (fun ρ w' hk => by obtain ⟨_, hg, -⟩ := hk; have eg : ρ 44 = .bool (q1 || q2) := hg; cases hq : ((q1 || q2)) <;> simp [wantedR, Region.wanted, asBoolR_bool, asBoolR_undef, eg, ifV, hq]) ?_ ?_
      · rintro ρ w' he ⟨h45, hgd, -⟩ hG
        have e45 : ρ 45 = .pointer (some ⟨nc, 0, none⟩) := (show ρ 45 = ifV ((!(q1 || q2))) (.pointer (some ⟨nc, 0, none⟩)) from h45).trans (ifV_true (by first | exact hG | simp_all))
        have c0 := (bc.ext he).cell (i := 0) rfl
        simp [execOp, evR, e45, c0, go_sem]
      refine tele_gval rfl ((!(q1 || q2))) (.int .i64 site) (fun ρ w' hk => by obtain ⟨_, hg, -⟩ := hk; have eg : ρ 44 = .bool (q1 || q2) := hg; cases hq : ((q1 || q2)) <;> simp [wantedR, Region.wanted, asBoolR_bool, asBoolR_undef, eg, ifV, hq]) ?_ ?_
      · rintro ρ w' he ⟨h1, hgd, -⟩ hG
        have e1 : ρ 1 = .int .i64 site := h1
        simp [execOp, evR, e1, go_sem]
      refine tele_gval rfl ((!(q1 || q2))) (.bool q3) (fun ρ w' hk => by obtain ⟨_, _, hg, -⟩ := hk; have eg : ρ 44 = .bool (q1 || q2) := hg; cases hq : ((q1 || q2)) <;> simp [wantedR, Region.wanted, asBoolR_bool, asBoolR_undef, eg, ifV, hq]) ?_ ?_
      · rintro ρ w' he ⟨h46, h47, hgd, -⟩ hG
        have e46 : ρ 46 = .int .i64 s1 := (show ρ 46 = ifV ((!(q1 || q2))) (.int .i64 s1) from h46).trans (ifV_true (by first | exact hG | simp_all))
        have e47 : ρ 47 = .int .i64 site := (show ρ 47 = ifV ((!(q1 || q2))) (.int .i64 site) from h47).trans (ifV_true (by first | exact hG | simp_all))
        rw [Q48]
        simp [execOp, evR, e46, e47, go_sem]
      refine tele_val rfl (.bool ((q1 || q2) || q3)) (fun _ _ _ => rfl) ?_ ?_
      · rintro ρ w' he ⟨h44, h48, -⟩
        have e44 : ρ 44 = .bool (q1 || q2) := h44
        have e48 : ρ 48 = ifV ((!(q1 || q2))) (.bool q3) := h48
        cases hc : ((q1 || q2)) <;> simp [execOp, evR, e44, e48, ifV, hc, go_sem]
      refine tele_move rfl (.inl rfl) rfl (isV (.bool ((q1 || q2) || q3))) (fun ρ w' h => h) ?_
      refine tele_gval rfl ((!((q1 || q2) || q3))) (.pointer (some ⟨nc, 1, none⟩)) (fun ρ w' hk => by obtain ⟨_, hg, -⟩ := hk; have eg : ρ 50 = .bool ((q1 || q2) || q3) := hg; cases hq : (((q1 || q2) || q3)) <;> simp [wantedR, Region.wanted, asBoolR_bool, asBoolR_undef, eg, ifV, hq]) ?_ ?_
      · rintro ρ w' he ⟨h11, hgd, -⟩ hG
        have e11 : ρ 11 = .pointer (some ⟨nc, 0, none⟩) := h11
        simp [execOp, evR, e11, go_sem]
      refine tele_gval rfl ((!((q1 || q2) || q3))) (.int .i64 s2) (fun ρ w' hk => by obtain ⟨_, hg, -⟩ := hk; have eg : ρ 50 = .bool ((q1 || q2) || q3) := hg; cases hq : (((q1 || q2) || q3)) <;> simp [wantedR, Region.wanted, asBoolR_bool, asBoolR_undef, eg, ifV, hq]) ?_ ?_
      · rintro ρ w' he ⟨h51, hgd, -⟩ hG
        have e51 : ρ 51 = .pointer (some ⟨nc, 1, none⟩) := (show ρ 51 = ifV ((!((q1 || q2) || q3))) (.pointer (some ⟨nc, 1, none⟩)) from h51).trans (ifV_true (by first | exact hG | simp_all))
        have c0 := (bc.ext he).cell (i := 1) rfl
        simp [execOp, evR, e51, c0, go_sem]
      refine tele_gcall rfl rfl Tryd.func15 (by kernel_rfl) ((!((q1 || q2) || q3))) (strV (pname s2)) (fun ρ w' hk => by obtain ⟨_, hg, -⟩ := hk; have eg : ρ 50 = .bool ((q1 || q2) || q3) := hg; cases hq : (((q1 || q2) || q3)) <;> simp [wantedR, Region.wanted, asBoolR_bool, asBoolR_undef, eg, ifV, hq]) ?_ ?_
      · rintro ρ w' he ⟨h52, hgd, -⟩ hG
        have e52 : ρ 52 = .int .i64 s2 := (show ρ 52 = ifV ((!((q1 || q2) || q3))) (.int .i64 s2) from h52).trans (ifV_true (by first | exact hG | simp_all))
        simp only [evR, List.map_toArray, List.map_cons, List.map_nil, e52]
        refine (capName_any _ _ (HT.out.ext (HX.out.trans he))).mono ?_
        rintro e w'' ⟨rfl, h'⟩
        exact ⟨rfl, h'⟩
      refine tele_gval rfl ((!((q1 || q2) || q3))) (.pointer (some ⟨nn, 0, none⟩)) (fun ρ w' hk => by obtain ⟨_, hg, -⟩ := hk; have eg : ρ 50 = .bool ((q1 || q2) || q3) := hg; cases hq : (((q1 || q2) || q3)) <;> simp [wantedR, Region.wanted, asBoolR_bool, asBoolR_undef, eg, ifV, hq]) ?_ ?_
      · rintro ρ w' he ⟨h10, hgd, -⟩ hG
        have e10 : ρ 10 = .pointer (some ⟨nn, 0, none⟩) := h10
        simp [execOp, evR, e10, go_sem]
      refine tele_gval rfl ((!((q1 || q2) || q3))) (strV nm) (fun ρ w' hk => by obtain ⟨_, hg, -⟩ := hk; have eg : ρ 50 = .bool ((q1 || q2) || q3) := hg; cases hq : (((q1 || q2) || q3)) <;> simp [wantedR, Region.wanted, asBoolR_bool, asBoolR_undef, eg, ifV, hq]) ?_ ?_
      · rintro ρ w' he ⟨h54, hgd, -⟩ hG
        have e54 : ρ 54 = .pointer (some ⟨nn, 0, none⟩) := (show ρ 54 = ifV ((!((q1 || q2) || q3))) (.pointer (some ⟨nn, 0, none⟩)) from h54).trans (ifV_true (by first | exact hG | simp_all))
        have c0 := (bt.ext he).cell (i := 0) rfl
        simp [execOp, evR, e54, c0, go_sem]
      refine tele_gval rfl ((!((q1 || q2) || q3))) (.bool q4) (fun ρ w' hk => by obtain ⟨_, _, hg, -⟩ := hk; have eg : ρ 50 = .bool ((q1 || q2) || q3) := hg; cases hq : (((q1 || q2) || q3)) <;> simp [wantedR, Region.wanted, asBoolR_bool, asBoolR_undef, eg, ifV, hq]) ?_ ?_
      · rintro ρ w' he ⟨h53, h55, hgd, -⟩ hG
        have e53 : ρ 53 = strV (pname s2) := (show ρ 53 = ifV ((!((q1 || q2) || q3))) (strV (pname s2)) from h53).trans (ifV_true (by first | exact hG | simp_all))
        have e55 : ρ 55 = strV nm := (show ρ 55 = ifV ((!((q1 || q2) || q3))) (strV nm) from h55).trans (ifV_true (by first | exact hG | simp_all))
        exact (exec_neq_str rfl e53 e55).trans (by rw [Q56])
      refine tele_val rfl (.bool (((q1 || q2) || q3) || q4)) (fun _ _ _ => rfl) ?_ ?_
      · rintro ρ w' he ⟨h50, h56, -⟩
        have e50 : ρ 50 = .bool ((q1 || q2) || q3) := h50
        have e56 : ρ 56 = ifV ((!((q1 || q2) || q3))) (.bool q4) := h56
        cases hc : (((q1 || q2) || q3)) <;> simp [execOp, evR, e50, e56, ifV, hc, go_sem]
      refine tele_nil ?_
      rintro ρ w' hext ⟨f57, f56, f55, f54, f53, f52, f51, f50, f49, f48, f47, f46, f45, f44, f43, f42, f41, f40, f39, f38, f37, f36, f35, -⟩
      clear f35
      clear f36
      clear f37
      clear f38
      clear f39
      clear f40
      clear f41
      clear f42
      clear f43
      clear f44
      clear f45
      clear f46
      clear f47
      clear f48
      clear f49
      clear f50
      clear f51
      clear f52
      clear f53
      clear f54
      clear f55
      clear f56
      replace f57 : ρ 57 = .bool (((q1 || q2) || q3) || q4) := f57
      simp only [puts, Act.put, List.setIfInBounds_toArray, List.set_cons_zero, List.set_cons_succ]
      have hok : (((q1 || q2) || q3) || q4) = !(noteOk gs site (nm, tx)) := by
        rw [noteOk_eq HGP.out, Q36, Q42, Q48, Q56]
        have a1 : ((er : Int) != 0) = !(er == 0) := by rw [Bool.eq_iff_iff]; simp
        have a2 : ((n : Int) != (tx.length : Int)) = !(n == tx.length) := by rw [Bool.eq_iff_iff]; simp; omega
        rw [a1, a2]
        simp only [bne]
        cases (er == 0) <;> cases (n == tx.length) <;> cases (s1 == site) <;> cases (pname s2 == nm) <;> rfl
      rw [f57, hok]
      clear f57 hok Q36 Q42 Q48 Q56
      have HC := Lib.hid (bc.ext hext)
      have HW := Lib.hid (HWS.out.ext hext)
      have HJ := Lib.hid (hj9.out.more hext)
      clear bc HWS hj9 hext HX bt
      generalize hnk : noteOk gs site (nm, tx) = nk at *
      cases nk
      · have HR := Lib.hid (hcr.out.bad1 HGET.out hnk HP.out)
        clear hnk
        go_wp2_with fail
        go_ret2
        exact ReadQ.no HR.out rfl HJ.out.ext
      have HOK := Lib.hid hnk
      clear hnk
      have HGD := Lib.hid (good_bounds (cget_good (noteOk_get HOK.out)))
      by_cases hk0 : 0 < k
      · obtain ⟨bo, oo, pseq, rfl, hbo, hps, hpv, hpb1, hpb2⟩ := HJ.out.last HLO.out hk0
        have HBO := Lib.hid hbo
        have HPS := Lib.hid hps
        have bc := HC.out
        clear hbo hps
        go_upto_region 11 with (fail)
        obtain ⟨q5, Q72⟩ : ∃ q : Bool, q = (pseq + 1 != s2) := ⟨_, rfl⟩
        refine wp_region_mono (by kernel_rfl) (by kernel_rfl) ?_
        refine tele_move rfl (.inl rfl) rfl (isV (.int .i64 (k : Int))) (fun ρ w' h => h) ?_
        refine tele_val rfl (.bool true) (fun _ _ _ => rfl) ?_ ?_
        · rintro ρ w' he ⟨h60, -⟩
          have e60 : ρ 60 = .int .i64 (k : Int) := h60
          simp [execOp, evR, e60, go_sem]
          omega
        refine tele_move rfl (.inl rfl) rfl (isV (.bool true)) (fun ρ w' h => h) ?_
        refine tele_val rfl (.slice (some ⟨bo, oo, none⟩) k cO) (fun ρ w' hk => by obtain ⟨_, hg, -⟩ := hk; have eg : ρ 62 = .bool true := hg; simp [wantedR, Region.wanted, asBoolR, eg]) ?_ ?_
        · rintro ρ w' he ⟨h6, hgd, -⟩
          have e6 : ρ 6 = .slice (some ⟨bo, oo, none⟩) k cO := h6
          simp [execOp, evR, e6, go_sem]
        refine tele_val rfl (.int .i64 (k : Int)) (fun ρ w' hk => by obtain ⟨_, hg, -⟩ := hk; have eg : ρ 62 = .bool true := hg; simp [wantedR, Region.wanted, asBoolR, eg]) ?_ ?_
        · rintro ρ w' he ⟨h14, hgd, -⟩
          have e14 : ρ 14 = .int .i64 (k : Int) := h14
          simp [execOp, evR, e14, go_sem]
        refine tele_val rfl (.int .i64 ((k - 1 : Nat) : Int)) (fun ρ w' hk => by obtain ⟨_, hg, -⟩ := hk; have eg : ρ 62 = .bool true := hg; simp [wantedR, Region.wanted, asBoolR, eg]) ?_ ?_
        · rintro ρ w' he ⟨h64, hgd, -⟩
          have e64 : ρ 64 = .int .i64 (k : Int) := h64
          have hw1 : IntKind.i64.wrap ((k : Int) - 1) = ((k - 1 : Nat) : Int) := by rw [IntWalk.i64_in _ (by omega)]; omega
          simp [execOp, evR, e64, hw1, go_sem]
        refine tele_val rfl (.pointer (some ⟨bo, oo + (k - 1) * 7, none⟩)) (fun ρ w' hk => by obtain ⟨_, _, hg, -⟩ := hk; have eg : ρ 62 = .bool true := hg; simp [wantedR, Region.wanted, asBoolR, eg]) ?_ ?_
        · rintro ρ w' he ⟨h63, h65, hgd, -⟩
          have e63 : ρ 63 = .slice (some ⟨bo, oo, none⟩) k cO := h63
          have e65 : ρ 65 = .int .i64 ((k - 1 : Nat) : Int) := h65
          exact index_at 7 rfl Tryd.underlying22 e63 e65 (by omega) (by kernel_rfl)
        refine tele_val rfl (.pointer (some ⟨bo, oo + (k - 1) * 7 + 1, none⟩)) (fun ρ w' hk => by obtain ⟨_, hg, -⟩ := hk; have eg : ρ 62 = .bool true := hg; simp [wantedR, Region.wanted, asBoolR, eg]) ?_ ?_
        · rintro ρ w' he ⟨h66, hgd, -⟩
          have e66 : ρ 66 = .pointer (some ⟨bo, oo + (k - 1) * 7, none⟩) := h66
          simp [execOp, evR, e66, go_sem]
        refine tele_val rfl (.int .i64 pseq) (fun ρ w' hk => by obtain ⟨_, hg, -⟩ := hk; have eg : ρ 62 = .bool true := hg; simp [wantedR, Region.wanted, asBoolR, eg]) ?_ ?_
        · rintro ρ w' he ⟨h67, hgd, -⟩
          have e67 : ρ 67 = .pointer (some ⟨bo, oo + (k - 1) * 7 + 1, none⟩) := h67
          have c0 := (he.cell (p := ⟨bo, oo + (k - 1) * 7 + 1, none⟩) HBO.out).trans HPS.out
          simp [execOp, evR, e67, c0, go_sem]
        refine tele_val rfl (.int .i64 (pseq + 1)) (fun ρ w' hk => by obtain ⟨_, hg, -⟩ := hk; have eg : ρ 62 = .bool true := hg; simp [wantedR, Region.wanted, asBoolR, eg]) ?_ ?_
        · rintro ρ w' he ⟨h68, hgd, -⟩
          have e68 : ρ 68 = .int .i64 pseq := h68
          have hw1 : IntKind.i64.wrap (pseq + 1) = pseq + 1 := IntWalk.i64_in _ (by omega)
          simp [execOp, evR, e68, hw1, go_sem]
        refine tele_val rfl (.pointer (some ⟨nc, 1, none⟩)) (fun ρ w' hk => by obtain ⟨_, hg, -⟩ := hk; have eg : ρ 62 = .bool true := hg; simp [wantedR, Region.wanted, asBoolR, eg]) ?_ ?_
        · rintro ρ w' he ⟨h11, hgd, -⟩
          have e11 : ρ 11 = .pointer (some ⟨nc, 0, none⟩) := h11
          simp [execOp, evR, e11, go_sem]
        refine tele_val rfl (.int .i64 s2) (fun ρ w' hk => by obtain ⟨_, hg, -⟩ := hk; have eg : ρ 62 = .bool true := hg; simp [wantedR, Region.wanted, asBoolR, eg]) ?_ ?_
        · rintro ρ w' he ⟨h70, hgd, -⟩
          have e70 : ρ 70 = .pointer (some ⟨nc, 1, none⟩) := h70
          have c0 := (bc.ext he).cell (i := 1) rfl
          simp [execOp, evR, e70, c0, go_sem]
        refine tele_val rfl (.bool q5) (fun ρ w' hk => by obtain ⟨_, _, hg, -⟩ := hk; have eg : ρ 62 = .bool true := hg; simp [wantedR, Region.wanted, asBoolR, eg]) ?_ ?_
        · rintro ρ w' he ⟨h69, h71, hgd, -⟩
          have e69 : ρ 69 = .int .i64 (pseq + 1) := h69
          have e71 : ρ 71 = .int .i64 s2 := h71
          rw [Q72]
          simp [execOp, evR, e69, e71, go_sem]
        refine tele_val rfl (.bool q5) (fun _ _ _ => rfl) ?_ ?_
        · rintro ρ w' he ⟨h62, h72, -⟩
          have e62 : ρ 62 = .bool true := h62
          have e72 : ρ 72 = .bool q5 := h72
          simp [execOp, evR, e62, e72, go_sem]
        refine tele_nil ?_
        rintro ρ w' hext ⟨f73, f72, f71, f70, f69, f68, f67, f66, f65, f64, f63, f62, f61, f60, -⟩
        clear f60
        clear f61
        clear f62
        clear f63
        clear f64
        clear f65
        clear f66
        clear f67
        clear f68
        clear f69
        clear f70
        clear f71
        clear f72
        replace f73 : ρ 73 = .bool q5 := f73
        simp only [puts, Act.put, List.setIfInBounds_toArray, List.set_cons_zero, List.set_cons_succ]
        rw [f73, Q72]
        clear f73
        by_cases hps2 : pseq + 1 = s2
        rotate_left
        · have HR := Lib.hid (hcr.out.bad2 HGET.out hpv (by dsimp only; rw [HGP.out]; exact hps2) HP.out)
          have hq5 : (pseq + 1 != s2) = true := by simpa using hps2
          rw [hq5]
          clear hps2 hq5 hpv Q72
          go_wp2_with fail
          go_ret2
          exact ReadQ.no HR.out rfl (HJ.out.ext.trans hext)
        have hq5 : (pseq + 1 != s2) = false := by simpa using hps2
        rw [hq5]
        have hn := hcr.out.next HGET.out HOK.out (by intro q hq; rw [hpv] at hq; injection hq with hq; dsimp only; rw [HGP.out]; dsimp only; omega)
        dsimp only at hn
        rw [HGP.out] at hn
        dsimp only at hn
        have HN := Lib.hid hn
        clear hn
        clear hps2 hq5 hpv Q72
        have HC2 := Lib.hid (HC.out.ext hext)
        have HW2 := Lib.hid (HW.out.ext hext)
        have HJ2 := Lib.hid (HJ.out.more hext)
        clear HC HW HJ hext bc HBO HPS
        have bc := HC2.out
        have hal := ext_alloc w' (.cells #[.int .i64 s1, .int .i64 s2, .int .i64 s3, .int .i64 s4, .int .i64 s5, .int .i64 s6, .slice A2 wd.length c2] 32)
        have bl := Blk.new w' #[.int .i64 s1, .int .i64 s2, .int .i64 s3, .int .i64 s4, .int .i64 s5, .int .i64 s6, .slice A2 wd.length c2] 32
        have hown := (HJ2.out.more hal).row
        rw [HLO.out] at hown
        have hF : Fl (w'.alloc (.cells #[.int .i64 s1, .int .i64 s2, .int .i64 s3, .int .i64 s4, .int .i64 s5, .int .i64 s6, .slice A2 wd.length c2] 32)) (.slice (some ⟨w'.heap.size, 0, none⟩) 1 1) 1 (chC ⟨s1, s2, s3, s4, s5, s6, wd⟩ (.slice A2 wd.length c2)) := ⟨_, 1, rfl, Nat.le_refl _, by decide, by simp, fun _ => ⟨_, 0, rfl, bl.lt, fun j u hu => by rw [Nat.zero_add]; exact bl.cell (i := j) hu⟩⟩
        have h1c := ch_one s1 s2 s3 s4 s5 s6 wd A2 wd.length c2
        have hsz := (HJ2.out.ext.trans hal).size
        have c0 := bc.cell (i := 0) rfl
        have c1 := bc.cell (i := 1) rfl
        have c2' := bc.cell (i := 2) rfl
        have c3 := bc.cell (i := 3) rfl
        have c4 := bc.cell (i := 4) rfl
        have c5 := bc.cell (i := 5) rfl
        have c6 := bc.cell (i := 6) rfl
        clear bl hal
        go_upto_region 14 with (at_builtin; refine wpList_append_fl rfl (.tmp 74) (.tmp 76) 22 rfl w.heap.size 32 i0 _ 7 72 Tryd.underlying22 HI0.out HZ0.out HZ1.out HZ2.out rfl (by decide) hown hF rfl rfl rfl h1c (by unfold maxLen; omega) (by omega) hsz ?_; intro v' w3 hown' hg hat; clear c0 c1 c2' c3 c4 c5 c6)
        have hjn := Lib.hid (HJ2.out.app (xc := ⟨s1, s2, s3, s4, s5, s6, wd⟩) (tmp := .cells #[.int .i64 s1, .int .i64 s2, .int .i64 s3, .int .i64 s4, .int .i64 s5, .int .i64 s6, .slice A2 wd.length c2] 32) HW2.out (by have := HGD.out; rw [HGP.out] at this; exact this) (by rw [HLO.out]; exact hown') (by rw [HLO.out]; exact hg))
        clear hown hF h1c hsz bc hg hat hown'
        go_wp2_with fail
        go_roundw
        case rel => exact ⟨k + 1, outs ++ [(⟨s1, s2, s3, s4, s5, s6, wd⟩, .slice A2 wd.length c2)], by go_num, hjn, Lib.hid (by rw [List.map_append]; exact HN.out), hlt⟩
        case measure => simp [intOf]; omega
      · go_upto_region 11 with (fail)
        have bc := HC.out
        refine wp_region_mono (by kernel_rfl) (by kernel_rfl) ?_
        refine tele_move rfl (.inl rfl) rfl (isV (.int .i64 (k : Int))) (fun ρ w' h => h) ?_
        refine tele_val rfl (.bool false) (fun _ _ _ => rfl) ?_ ?_
        · rintro ρ w' he ⟨h60, -⟩
          have e60 : ρ 60 = .int .i64 (k : Int) := h60
          simp [execOp, evR, e60, go_sem]
          omega
        refine tele_move rfl (.inl rfl) rfl (isV (.bool false)) (fun ρ w' h => h) ?_
        refine tele_pass rfl (fun ρ w' hk => by obtain ⟨_, hg, -⟩ := hk; have eg : ρ 62 = .bool false := hg; simp [wantedR, Region.wanted, asBoolR_bool, asBoolR_undef, eg]) ?_
        refine tele_pass rfl (fun ρ w' hk => by obtain ⟨_, hg, -⟩ := hk; have eg : ρ 62 = .bool false := hg; simp [wantedR, Region.wanted, asBoolR_bool, asBoolR_undef, eg]) ?_
        refine tele_pass rfl (fun ρ w' hk => by obtain ⟨_, hg, -⟩ := hk; have eg : ρ 62 = .bool false := hg; simp [wantedR, Region.wanted, asBoolR_bool, asBoolR_undef, eg]) ?_
        refine tele_pass rfl (fun ρ w' hk => by obtain ⟨_, _, hg, -⟩ := hk; have eg : ρ 62 = .bool false := hg; simp [wantedR, Region.wanted, asBoolR_bool, asBoolR_undef, eg]) ?_
        refine tele_pass rfl (fun ρ w' hk => by obtain ⟨_, hg, -⟩ := hk; have eg : ρ 62 = .bool false := hg; simp [wantedR, Region.wanted, asBoolR_bool, asBoolR_undef, eg]) ?_
        refine tele_pass rfl (fun ρ w' hk => by obtain ⟨_, hg, -⟩ := hk; have eg : ρ 62 = .bool false := hg; simp [wantedR, Region.wanted, asBoolR_bool, asBoolR_undef, eg]) ?_
        refine tele_pass rfl (fun ρ w' hk => by obtain ⟨_, hg, -⟩ := hk; have eg : ρ 62 = .bool false := hg; simp [wantedR, Region.wanted, asBoolR_bool, asBoolR_undef, eg]) ?_
        refine tele_pass rfl (fun ρ w' hk => by obtain ⟨_, hg, -⟩ := hk; have eg : ρ 62 = .bool false := hg; simp [wantedR, Region.wanted, asBoolR_bool, asBoolR_undef, eg]) ?_
        refine tele_pass rfl (fun ρ w' hk => by obtain ⟨_, hg, -⟩ := hk; have eg : ρ 62 = .bool false := hg; simp [wantedR, Region.wanted, asBoolR_bool, asBoolR_undef, eg]) ?_
        refine tele_pass rfl (fun ρ w' hk => by obtain ⟨_, _, hg, -⟩ := hk; have eg : ρ 62 = .bool false := hg; simp [wantedR, Region.wanted, asBoolR_bool, asBoolR_undef, eg]) ?_
        refine tele_val rfl (.bool false) (fun _ _ _ => rfl) ?_ ?_
        · rintro ρ w' he ⟨h62, h72, -⟩
          have e62 : ρ 62 = .bool false := h62
          have e72 : ρ 72 = undef := h72
          simp [execOp, evR, e62, e72, go_sem]
        refine tele_nil ?_
        rintro ρ w' hext ⟨f73, f72, f71, f70, f69, f68, f67, f66, f65, f64, f63, f62, f61, f60, -⟩
        clear f60
        clear f61
        clear f62
        clear f63
        clear f64
        clear f65
        clear f66
        clear f67
        clear f68
        clear f69
        clear f70
        clear f71
        clear f72
        replace f73 : ρ 73 = .bool false := f73
        simp only [puts, Act.put, List.setIfInBounds_toArray, List.set_cons_zero, List.set_cons_succ]
        rw [f73]
        clear f73
        have hn := hcr.out.next HGET.out HOK.out (by intro q hq; have h0 := hcr.out.len; rw [(List.eq_nil_of_length_eq_zero (by omega) : outs.map (·.1) = [])] at hq; cases hq)
        dsimp only at hn
        rw [HGP.out] at hn
        dsimp only at hn
        have HN := Lib.hid hn
        clear hn
        have HC2 := Lib.hid (HC.out.ext hext)
        have HW2 := Lib.hid (HW.out.ext hext)
        have HJ2 := Lib.hid (HJ.out.more hext)
        clear HC HW HJ hext bc
        have bc := HC2.out
        have hal := ext_alloc w' (.cells #[.int .i64 s1, .int .i64 s2, .int .i64 s3, .int .i64 s4, .int .i64 s5, .int .i64 s6, .slice A2 wd.length c2] 32)
        have bl := Blk.new w' #[.int .i64 s1, .int .i64 s2, .int .i64 s3, .int .i64 s4, .int .i64 s5, .int .i64 s6, .slice A2 wd.length c2] 32
        have hown := (HJ2.out.more hal).row
        rw [HLO.out] at hown
        have hF : Fl (w'.alloc (.cells #[.int .i64 s1, .int .i64 s2, .int .i64 s3, .int .i64 s4, .int .i64 s5, .int .i64 s6, .slice A2 wd.length c2] 32)) (.slice (some ⟨w'.heap.size, 0, none⟩) 1 1) 1 (chC ⟨s1, s2, s3, s4, s5, s6, wd⟩ (.slice A2 wd.length c2)) := ⟨_, 1, rfl, Nat.le_refl _, by decide, by simp, fun _ => ⟨_, 0, rfl, bl.lt, fun j u hu => by rw [Nat.zero_add]; exact bl.cell (i := j) hu⟩⟩
        have h1c := ch_one s1 s2 s3 s4 s5 s6 wd A2 wd.length c2
        have hsz := (HJ2.out.ext.trans hal).size
        have c0 := bc.cell (i := 0) rfl
        have c1 := bc.cell (i := 1) rfl
        have c2' := bc.cell (i := 2) rfl
        have c3 := bc.cell (i := 3) rfl
        have c4 := bc.cell (i := 4) rfl
        have c5 := bc.cell (i := 5) rfl
        have c6 := bc.cell (i := 6) rfl
        clear bl hal
        go_upto_region 14 with (at_builtin; refine wpList_append_fl rfl (.tmp 74) (.tmp 76) 22 rfl w.heap.size 32 i0 _ 7 72 Tryd.underlying22 HI0.out HZ0.out HZ1.out HZ2.out rfl (by decide) hown hF rfl rfl rfl h1c (by unfold maxLen; omega) (by omega) hsz ?_; intro v' w3 hown' hg hat; clear c0 c1 c2' c3 c4 c5 c6)
        have hjn := Lib.hid (HJ2.out.app (xc := ⟨s1, s2, s3, s4, s5, s6, wd⟩) (tmp := .cells #[.int .i64 s1, .int .i64 s2, .int .i64 s3, .int .i64 s4, .int .i64 s5, .int .i64 s6, .slice A2 wd.length c2] 32) HW2.out (by have := HGD.out; rw [HGP.out] at this; exact this) (by rw [HLO.out]; exact hown') (by rw [HLO.out]; exact hg))
        clear hown hF h1c hsz bc hg hat hown'
        go_wp2_with fail
        go_roundw
        case rel => exact ⟨k + 1, outs ++ [(⟨s1, s2, s3, s4, s5, s6, wd⟩, .slice A2 wd.length c2)], by go_num, hjn, Lib.hid (by rw [List.map_append]; exact HN.out), hlt⟩
        case measure => simp [intOf]; omega
    · have HR := Lib.hid (hcr.out.fin hlt HP.out)
      go_wp2_with fail
      go_ret2
      have hcs := hj.out.cs
      rw [HLO.out] at hcs
      exact ReadQ.mk _ outs HR.out rfl hcs rfl hj.out.ext
end Go.Proofs.YtacabcpjaadijaaDoor

/-
  Layer 19: the walk of the document's Read.
-/
namespace Go.Proofs.YtacabcpjaadijaaDoor
open Go Go.RowKit Mono Num
set_option linter.unusedVariables false
set_option linter.unusedSimpArgs false
set_option maxRecDepth 100000

set_option maxHeartbeats 8000000 in
theorem refRead_any (vl : Value) (gs : List Grp) (site : Int) (v : Value) (l : List (List UInt8 × List UInt8)) (w : World) (hl : Gs w vl gs) (hn : Ns w v l) (hlen : l.length ≤ 1200) (hlim : ∀ x ∈ l, x.1.length ≤ 12000 ∧ x.2.length ≤ 12000) :
    Calls Tryd.prog 21 #[vl, .int .i64 site, v] w fun e w' => ReadQ gs site l w e w' := by
  obtain ⟨i0, hi0, hz0, hz1, hz2⟩ := info_parts infoCh
  have HI0 := Lib.hid hi0
  have HZ0 := Lib.hid hz0
  have HZ1 := Lib.hid hz1
  have HZ2 := Lib.hid hz2
  obtain ⟨AN, cN, rfl, g1, g2, g3, g4⟩ := hn.at_
  have H4 := Lib.hid g4
  have HG := Lib.hid hl
  have HLIM := Lib.hid hlim
  have HLEN := Lib.hid hlen
  clear g4 g3 hn hl hlim hlen hi0 hz0 hz1 hz2
  go_enter Tryd.func21, Tryd.ntmps21
  go_wp2_with fail
  refine (refGood_any vl gs _ HG.out).mono ?_
  rintro e w1 ⟨rfl, x1⟩
  have HX1 := Lib.hid x1
  clear x1
  by_cases hp : pgood gs = 0
  rotate_left
  · have hp0 : (((pgood gs : Nat) : Int) != 0) = true := by rw [bne_iff_ne]; omega
    have HR := Lib.hid (cread_no (site := site) (l := l) hp)
    clear hp
    go_wp2_with fail
    go_ret2
    exact ReadQ.no HR.out rfl HX1.out
  rw [hp]
  have HP := Lib.hid hp
  clear hp
  go_wp2_with fail
  go_loopw [9, 10] (fun o i wr => ∃ (k : Nat) (outs : List (Ch × Value)), i = .int .i64 k ∧ Hid (RdJ w o outs wr) ∧ Hid (CR gs site l k (outs.map (·.1))) ∧ k ≤ l.length) (fun _ i _ => l.length - (intOf i).toNat)
  case atStart => exact ⟨0, [], rfl, Lib.hid (RdJ.start HX1.out), Lib.hid (CR.start _ _ _), Nat.zero_le _⟩
  case round =>
    obtain ⟨k, outs, rfl, hj, hcr, hkl⟩ := hrel
    clear HX1
    obtain ⟨AO, cO, rfl, o1, o2, -, -⟩ := hj.out.cs.at_
    have hlo : outs.length = k := by have := hcr.out.len; simpa using this
    rw [hlo] at o1
    rw [hlo]
    have HLO := Lib.hid hlo
    clear hlo
    have hk12 : k ≤ 1200 := by have := HLEN.out; omega
    by_cases hlt : k < l.length
    · obtain ⟨b, off, rfl, hb, hc⟩ := H4.out (by omega)
      obtain ⟨nm, tx, hget, p0, p1, -, -⟩ := hc k hlt
      have HGET := Lib.hid hget
      have hlm := HLIM.out _ (List.mem_of_getElem? hget)
      dsimp only at hlm
      obtain ⟨hnl, htl⟩ := hlm
      have HA := Lib.hid (And.intro p0 p1)
      replace p1 := (hj.out.ext.cell (p := ⟨b, off + k * 2 + 1, none⟩) hb).trans p1
      clear hc hget H4 p0
      unfold strV at p1
      go_upto_region 8 with (fail)
      obtain ⟨AB, cB, W8, hcv, hbs, x8⟩ := bytes_of_str tx wr (by unfold maxLen; omega)
      have HBS := Lib.hid hbs
      have HJ := Lib.hid (hj.out.more x8)
      clear hbs hj x8
      go_wp2_with fail
      clear hcv p1
      obtain ⟨⟨s1, s2, s3, s4, s5, s6, wd⟩, n, er, hgp⟩ : ∃ d n e, cgetP gs tx = (d, n, e) := ⟨_, _, _, rfl⟩
      have hcall := refChGet_any AB cB tx vl gs W8 HBS.out (by omega) (HG.out.ext HJ.out.ext)
      rw [hgp] at hcall
      unfold chV at hcall
      dsimp only at hcall
      have hsq := cget_seq gs tx
      rw [hgp] at hsq
      dsimp only at hsq
      obtain ⟨hsq0, hsq1⟩ := hsq
      have HGP := Lib.hid hgp
      have HCL := Lib.hid hcall
      clear hgp hcall
      refine HCL.out.mono ?_
      rintro en W9 ⟨vw, rfl, hws, x9⟩
      obtain ⟨A2, c2, rfl, -⟩ := hws.ws.at_
      have HWS := Lib.hid (hws.ext (ext_alloc W9 (.cells #[.int .i64 s1, .int .i64 s2, .int .i64 s3, .int .i64 s4, .int .i64 s5, .int .i64 s6, .slice A2 wd.length c2] 32)))
      have bc := Blk.new W9 #[.int .i64 s1, .int .i64 s2, .int .i64 s3, .int .i64 s4, .int .i64 s5, .int .i64 s6, .slice A2 wd.length c2] 32
      have hj9 := Lib.hid ((HJ.out.more x9).more (ext_alloc W9 (.cells #[.int .i64 s1, .int .i64 s2, .int .i64 s3, .int .i64 s4, .int .i64 s5, .int .i64 s6, .slice A2 wd.length c2] 32)))
      clear HCL HJ HBS hws x9
      go_upto_region 9 with (fail)
      generalize W9.heap.size = nc at *
      generalize W9.alloc (.cells #[.int .i64 s1, .int .i64 s2, .int .i64 s3, .int .i64 s4, .int .i64 s5, .int .i64 s6, .slice A2 wd.length c2] 32) = W10 at *
      have HX := Lib.hid hj9.out.ext
      by_cases hk0 : 0 < k
      · obtain ⟨bo, oo, pseq, rfl, hbo, hps, hpv, hpb1, hpb2⟩ := hj9.out.last HLO.out hk0
        have HBO := Lib.hid hbo
        have HPS := Lib.hid hps
        clear hbo hps
        obtain ⟨q1, Q38⟩ : ∃ q : Bool, q = ((er : Int) != 0) := ⟨_, rfl⟩
        obtain ⟨q2, Q47⟩ : ∃ q : Bool, q = ((n : Int) != (tx.length : Int)) := ⟨_, rfl⟩
        obtain ⟨q3, Q53⟩ : ∃ q : Bool, q = (s1 != site) := ⟨_, rfl⟩
        obtain ⟨q4, Q64⟩ : ∃ q : Bool, q = (!(nm == pname s2)) := ⟨_, rfl⟩
        obtain ⟨q5, Q79⟩ : ∃ q : Bool, q = (s2 - 1 != pseq) := ⟨_, rfl⟩
        refine wp_region_mono (by kernel_rfl) (by kernel_rfl) ?_
        refine tele_move rfl (.inl rfl) rfl (isV (.int .i64 (er : Int))) (fun ρ w' h => h) ?_
        refine tele_val rfl (.bool q1) (fun _ _ _ => rfl) ?_ ?_
        · rintro ρ w' he ⟨h37, -⟩
          have e37 : ρ 37 = .int .i64 (er : Int) := h37
          rw [Q38]
          simp [execOp, evR, e37, go_sem]
        refine tele_move rfl (.inl rfl) rfl (isV (.bool q1)) (fun ρ w' h => h) ?_
        refine tele_gval rfl (!q1) (.int .i64 (n : Int)) (fun ρ w' hk => by obtain ⟨_, hg, -⟩ := hk; have eg : ρ 39 = .bool q1 := hg; cases hq : (q1) <;> simp [wantedR, Region.wanted, asBoolR_bool, asBoolR_undef, eg, ifV, hq]) ?_ ?_
        · rintro ρ w' he ⟨h12, hgd, -⟩ hG
          have e12 : ρ 12 = .int .i64 (n : Int) := h12
          simp [execOp, evR, e12, go_sem]
        refine tele_gval rfl (!q1) (.slice (some ⟨b, off, none⟩) l.length cN) (fun ρ w' hk => by obtain ⟨_, hg, -⟩ := hk; have eg : ρ 39 = .bool q1 := hg; cases hq : (q1) <;> simp [wantedR, Region.wanted, asBoolR_bool, asBoolR_undef, eg, ifV, hq]) ?_ ?_
        · rintro ρ w' he ⟨h2, hgd, -⟩ hG
          have e2 : ρ 2 = .slice (some ⟨b, off, none⟩) l.length cN := h2
          simp [execOp, evR, e2, go_sem]
        refine tele_gval rfl (!q1) (.int .i64 (k : Int)) (fun ρ w' hk => by obtain ⟨_, hg, -⟩ := hk; have eg : ρ 39 = .bool q1 := hg; cases hq : (q1) <;> simp [wantedR, Region.wanted, asBoolR_bool, asBoolR_undef, eg, ifV, hq]) ?_ ?_
        · rintro ρ w' he ⟨h10, hgd, -⟩ hG
          have e10 : ρ 10 = .int .i64 (k : Int) := h10
          simp [execOp, evR, e10, go_sem]
        refine tele_gval rfl (!q1) (.pointer (some ⟨b, off + k * 2, none⟩)) (fun ρ w' hk => by obtain ⟨_, _, hg, -⟩ := hk; have eg : ρ 39 = .bool q1 := hg; cases hq : (q1) <;> simp [wantedR, Region.wanted, asBoolR_bool, asBoolR_undef, eg, ifV, hq]) ?_ ?_
        · rintro ρ w' he ⟨h41, h42, hgd, -⟩ hG
          have e41 : ρ 41 = .slice (some ⟨b, off, none⟩) l.length cN := (show ρ 41 = ifV (!q1) (.slice (some ⟨b, off, none⟩) l.length cN) from h41).trans (ifV_true (by first | exact hG | simp_all))
          have e42 : ρ 42 = .int .i64 (k : Int) := (show ρ 42 = ifV (!q1) (.int .i64 (k : Int)) from h42).trans (ifV_true (by first | exact hG | simp_all))
          exact index_at 2 rfl Tryd.underlying47 e41 e42 (by omega) (by kernel_rfl)
        refine tele_gval rfl (!q1) (.pointer (some ⟨b, off + k * 2 + 1, none⟩)) (fun ρ w' hk => by obtain ⟨_, hg, -⟩ := hk; have eg : ρ 39 = .bool q1 := hg; cases hq : (q1) <;> simp [wantedR, Region.wanted, asBoolR_bool, asBoolR_undef, eg, ifV, hq]) ?_ ?_
        · rintro ρ w' he ⟨h43, hgd, -⟩ hG
          have e43 : ρ 43 = .pointer (some ⟨b, off + k * 2, none⟩) := (show ρ 43 = ifV (!q1) (.pointer (some ⟨b, off + k * 2, none⟩)) from h43).trans (ifV_true (by first | exact hG | simp_all))
          simp [execOp, evR, e43, go_sem]
        refine tele_gval rfl (!q1) (strV tx) (fun ρ w' hk => by obtain ⟨_, hg, -⟩ := hk; have eg : ρ 39 = .bool q1 := hg; cases hq : (q1) <;> simp [wantedR, Region.wanted, asBoolR_bool, asBoolR_undef, eg, ifV, hq]) ?_ ?_
        · rintro ρ w' he ⟨h44, hgd, -⟩ hG
          have e44 : ρ 44 = .pointer (some ⟨b, off + k * 2 + 1, none⟩) := (show ρ 44 = ifV (!q1) (.pointer (some ⟨b, off + k * 2 + 1, none⟩)) from h44).trans (ifV_true (by first | exact hG | simp_all))
          have c0 := ((HX.out.trans he).cell (p := ⟨b, off + k * 2 + 1, none⟩) hb).trans HA.out.2
          simp [execOp, evR, e44, c0, go_sem]
        refine tele_gval rfl (!q1) (.int .i64 ((tx.length : Nat) : Int)) (fun ρ w' hk => by obtain ⟨_, hg, -⟩ := hk; have eg : ρ 39 = .bool q1 := hg; cases hq : (q1) <;> simp [wantedR, Region.wanted, asBoolR_bool, asBoolR_undef, eg, ifV, hq]) ?_ ?_
        · rintro ρ w' he ⟨h45, hgd, -⟩ hG
          have e45 : ρ 45 = strV tx := (show ρ 45 = ifV (!q1) (strV tx) from h45).trans (ifV_true (by first | exact hG | simp_all))
          have hsz := strV_size tx
          unfold strV at e45
          simp [execOp, evR, e45, go_sem]
        refine tele_gval rfl (!q1) (.bool q2) (fun ρ w' hk => by obtain ⟨_, _, hg, -⟩ := hk; have eg : ρ 39 = .bool q1 := hg; cases hq : (q1) <;> simp [wantedR, Region.wanted, asBoolR_bool, asBoolR_undef, eg, ifV, hq]) ?_ ?_
        · rintro ρ w' he ⟨h40, h46, hgd, -⟩ hG
          have e40 : ρ 40 = .int .i64 (n : Int) := (show ρ 40 = ifV (!q1) (.int .i64 (n : Int)) from h40).trans (ifV_true (by first | exact hG | simp_all))
          have e46 : ρ 46 = .int .i64 ((tx.length : Nat) : Int) := (show ρ 46 = ifV (!q1) (.int .i64 ((tx.length : Nat) : Int)) from h46).trans (ifV_true (by first | exact hG | simp_all))
          rw [Q47]
          simp [execOp, evR, e40, e46, go_sem]
        refine tele_val rfl (.bool (q1 || q2)) (fun _ _ _ => rfl) ?_ ?_
        · rintro ρ w' he ⟨h39, h47, -⟩
          have e39 : ρ 39 = .bool q1 := h39
          have e47 : ρ 47 = ifV (!q1) (.bool q2) := h47
          cases hc : (q1) <;> simp [execOp, evR, e39, e47, ifV, hc, go_sem]
        refine tele_move rfl (.inl rfl) rfl (isV (.bool (q1 || q2))) (fun ρ w' h => h) ?_
        refine tele_gval rfl ((!(q1 || q2))) (.pointer (some ⟨nc, 0, none⟩)) (fun ρ w' hk => by obtain ⟨_, hg, -⟩ := hk; have eg : ρ 49 = .bool (q1 || q2) := hg; cases hq : ((q1 || q2)) <;> simp [wantedR, Region.wanted, asBoolR_bool, asBoolR_undef, eg, ifV, hq]) ?_ ?_
        · rintro ρ w' he ⟨h11, hgd, -⟩ hG
          have e11 : ρ 11 = .pointer (some ⟨nc, 0, none⟩) := h11
          simp [execOp, evR, e11, go_sem]
        refine tele_gval rfl ((!(q1 || q2))) (.int .i64 s1) (fun ρ w' hk => by obtain ⟨_, hg, -⟩ := hk; have eg : ρ 49 = .bool (q1 || q2) := hg; cases hq : ((q1 || q2)) <;> simp [wantedR, Region.wanted, asBoolR_bool, asBoolR_undef, eg, ifV, hq]) ?_ ?_
        · rintro ρ w' he ⟨h50, hgd, -⟩ hG
          have e50 : ρ 50 = .pointer (some ⟨nc, 0, none⟩) := (show ρ 50 = ifV ((!(q1 || q2))) (.pointer (some ⟨nc, 0, none⟩)) from h50).trans (ifV_true (by first | exact hG | simp_all))
          have c0 := (bc.ext he).cell (i := 0) rfl
          simp [execOp, evR, e50, c0, go_sem]
        refine tele_gval rfl ((!(q1 || q2))) (.int .i64 site) (fun ρ w' hk => by obtain ⟨_, hg, -⟩ := hk; have eg : ρ 49 = .bool (q1 || q2) := hg; cases hq : ((q1 || q2)) <;> simp [wantedR, Region.wanted, asBoolR_bool, asBoolR_undef, eg, ifV, hq]) ?_ ?_
        · rintro ρ w' he ⟨h1, hgd, -⟩ hG
          have e1 : ρ 1 = .int .i64 site := h1
          simp [execOp, evR, e1, go_sem]
        refine tele_gval rfl ((!(q1 || q2))) (.bool q3) (fun ρ w' hk => by obtain ⟨_, _, hg, -⟩ := hk; have eg : ρ 49 = .bool (q1 || q2) := hg; cases hq : ((q1 || q2)) <;> simp [wantedR, Region.wanted, asBoolR_bool, asBoolR_undef, eg, ifV, hq]) ?_ ?_
        · rintro ρ w' he ⟨h51, h52, hgd, -⟩ hG
          have e51 : ρ 51 = .int .i64 s1 := (show ρ 51 = ifV ((!(q1 || q2))) (.int .i64 s1) from h51).trans (ifV_true (by first | exact hG | simp_all))
          have e52 : ρ 52 = .int .i64 site := (show ρ 52 = ifV ((!(q1 || q2))) (.int .i64 site) from h52).trans (ifV_true (by first | exact hG | simp_all))
          rw [Q53]
          simp [execOp, evR, e51, e52, go_sem]
        refine tele_val rfl (.bool ((q1 || q2) || q3)) (fun _ _ _ => rfl) ?_ ?_
        · rintro ρ w' he ⟨h49, h53, -⟩
          have e49 : ρ 49 = .bool (q1 || q2) := h49
          have e53 : ρ 53 = ifV ((!(q1 || q2))) (.bool q3) := h53
          cases hc : ((q1 || q2)) <;> simp [execOp, evR, e49, e53, ifV, hc, go_sem]
        refine tele_move rfl (.inl rfl) rfl (isV (.bool ((q1 || q2) || q3))) (fun ρ w' h => h) ?_
        refine tele_gval rfl ((!((q1 || q2) || q3))) (.slice (some ⟨b, off, none⟩) l.length cN) (fun ρ w' hk => by obtain ⟨_, hg, -⟩ := hk; have eg : ρ 55 = .bool ((q1 || q2) || q3) := hg; cases hq : (((q1 || q2) || q3)) <;> simp [wantedR, Region.wanted, asBoolR_bool, asBoolR_undef, eg, ifV, hq]) ?_ ?_
        · rintro ρ w' he ⟨h2, hgd, -⟩ hG
          have e2 : ρ 2 = .slice (some ⟨b, off, none⟩) l.length cN := h2
          simp [execOp, evR, e2, go_sem]
        refine tele_gval rfl ((!((q1 || q2) || q3))) (.int .i64 (k : Int)) (fun ρ w' hk => by obtain ⟨_, hg, -⟩ := hk; have eg : ρ 55 = .bool ((q1 || q2) || q3) := hg; cases hq : (((q1 || q2) || q3)) <;> simp [wantedR, Region.wanted, asBoolR_bool, asBoolR_undef, eg, ifV, hq]) ?_ ?_
        · rintro ρ w' he ⟨h10, hgd, -⟩ hG
          have e10 : ρ 10 = .int .i64 (k : Int) := h10
          simp [execOp, evR, e10, go_sem]
        refine tele_gval rfl ((!((q1 || q2) || q3))) (.pointer (some ⟨b, off + k * 2, none⟩)) (fun ρ w' hk => by obtain ⟨_, _, hg, -⟩ := hk; have eg : ρ 55 = .bool ((q1 || q2) || q3) := hg; cases hq : (((q1 || q2) || q3)) <;> simp [wantedR, Region.wanted, asBoolR_bool, asBoolR_undef, eg, ifV, hq]) ?_ ?_
        · rintro ρ w' he ⟨h56, h57, hgd, -⟩ hG
          have e56 : ρ 56 = .slice (some ⟨b, off, none⟩) l.length cN := (show ρ 56 = ifV ((!((q1 || q2) || q3))) (.slice (some ⟨b, off, none⟩) l.length cN) from h56).trans (ifV_true (by first | exact hG | simp_all))
          have e57 : ρ 57 = .int .i64 (k : Int) := (show ρ 57 = ifV ((!((q1 || q2) || q3))) (.int .i64 (k : Int)) from h57).trans (ifV_true (by first | exact hG | simp_all))
          exact index_at 2 rfl Tryd.underlying47 e56 e57 (by omega) (by kernel_rfl)
        refine tele_gval rfl ((!((q1 || q2) || q3))) (.pointer (some ⟨b, off + k * 2, none⟩)) (fun ρ w' hk => by obtain ⟨_, hg, -⟩ := hk; have eg : ρ 55 = .bool ((q1 || q2) || q3) := hg; cases hq : (((q1 || q2) || q3)) <;> simp [wantedR, Region.wanted, asBoolR_bool, asBoolR_undef, eg, ifV, hq]) ?_ ?_
        · rintro ρ w' he ⟨h58, hgd, -⟩ hG
          have e58 : ρ 58 = .pointer (some ⟨b, off + k * 2, none⟩) := (show ρ 58 = ifV ((!((q1 || q2) || q3))) (.pointer (some ⟨b, off + k * 2, none⟩)) from h58).trans (ifV_true (by first | exact hG | simp_all))
          simp [execOp, evR, e58, go_sem]
        refine tele_gval rfl ((!((q1 || q2) || q3))) (strV nm) (fun ρ w' hk => by obtain ⟨_, hg, -⟩ := hk; have eg : ρ 55 = .bool ((q1 || q2) || q3) := hg; cases hq : (((q1 || q2) || q3)) <;> simp [wantedR, Region.wanted, asBoolR_bool, asBoolR_undef, eg, ifV, hq]) ?_ ?_
        · rintro ρ w' he ⟨h59, hgd, -⟩ hG
          have e59 : ρ 59 = .pointer (some ⟨b, off + k * 2, none⟩) := (show ρ 59 = ifV ((!((q1 || q2) || q3))) (.pointer (some ⟨b, off + k * 2, none⟩)) from h59).trans (ifV_true (by first | exact hG | simp_all))
          have c0 := ((HX.out.trans he).cell (p := ⟨b, off + k * 2, none⟩) hb).trans HA.out.1
          simp [execOp, evR, e59, c0, go_sem]
        refine tele_gval rfl ((!((q1 || q2) || q3))) (.pointer (some ⟨nc, 1, none⟩)) (fun ρ w' hk => by obtain ⟨_, hg, -⟩ := hk; have eg : ρ 55 = .bool ((q1 || q2) || q3) := hg; cases hq : (((q1 || q2) || q3)) <;> simp [wantedR, Region.wanted, asBoolR_bool, asBoolR_undef, eg, ifV, hq]) ?_ ?_
        · rintro ρ w' he ⟨h11, hgd, -⟩ hG
          have e11 : ρ 11 = .pointer (some ⟨nc, 0, none⟩) := h11
          simp [execOp, evR, e11, go_sem]
        refine tele_gval rfl ((!((q1 || q2) || q3))) (.int .i64 s2) (fun ρ w' hk => by obtain ⟨_, hg, -⟩ := hk; have eg : ρ 55 = .bool ((q1 || q2) || q3) := hg; cases hq : (((q1 || q2) || q3)) <;> simp [wantedR, Region.wanted, asBoolR_bool, asBoolR_undef, eg, ifV, hq]) ?_ ?_
        · rintro ρ w' he ⟨h61, hgd, -⟩ hG
          have e61 : ρ 61 = .pointer (some ⟨nc, 1, none⟩) := (show ρ 61 = ifV ((!((q1 || q2) || q3))) (.pointer (some ⟨nc, 1, none⟩)) from h61).trans (ifV_true (by first | exact hG | simp_all))
          have c0 := (bc.ext he).cell (i := 1) rfl
          simp [execOp, evR, e61, c0, go_sem]
        refine tele_gcall rfl rfl Tryd.func16 (by kernel_rfl) ((!((q1 || q2) || q3))) (strV (pname s2)) (fun ρ w' hk => by obtain ⟨_, hg, -⟩ := hk; have eg : ρ 55 = .bool ((q1 || q2) || q3) := hg; cases hq : (((q1 || q2) || q3)) <;> simp [wantedR, Region.wanted, asBoolR_bool, asBoolR_undef, eg, ifV, hq]) ?_ ?_
        · rintro ρ w' he ⟨h62, hgd, -⟩ hG
          have e62 : ρ 62 = .int .i64 s2 := (show ρ 62 = ifV ((!((q1 || q2) || q3))) (.int .i64 s2) from h62).trans (ifV_true (by first | exact hG | simp_all))
          simp only [evR, List.map_toArray, List.map_cons, List.map_nil, e62]
          refine (refCName_any _ _).mono ?_
          rintro e w'' ⟨rfl, h'⟩
          exact ⟨rfl, h'⟩
        refine tele_gval rfl ((!((q1 || q2) || q3))) (.bool q4) (fun ρ w' hk => by obtain ⟨_, _, hg, -⟩ := hk; have eg : ρ 55 = .bool ((q1 || q2) || q3) := hg; cases hq : (((q1 || q2) || q3)) <;> simp [wantedR, Region.wanted, asBoolR_bool, asBoolR_undef, eg, ifV, hq]) ?_ ?_
        · rintro ρ w' he ⟨h60, h63, hgd, -⟩ hG
          have e60 : ρ 60 = strV nm := (show ρ 60 = ifV ((!((q1 || q2) || q3))) (strV nm) from h60).trans (ifV_true (by first | exact hG | simp_all))
          have e63 : ρ 63 = strV (pname s2) := (show ρ 63 = ifV ((!((q1 || q2) || q3))) (strV (pname s2)) from h63).trans (ifV_true (by first | exact hG | simp_all))
          exact (exec_neq_str rfl e60 e63).trans (by rw [Q64])
        refine tele_val rfl (.bool (((q1 || q2) || q3) || q4)) (fun _ _ _ => rfl) ?_ ?_
        · rintro ρ w' he ⟨h55, h64, -⟩
          have e55 : ρ 55 = .bool ((q1 || q2) || q3) := h55
          have e64 : ρ 64 = ifV ((!((q1 || q2) || q3))) (.bool q4) := h64
          cases hc : (((q1 || q2) || q3)) <;> simp [execOp, evR, e55, e64, ifV, hc, go_sem]
        refine tele_move rfl (.inl rfl) rfl (isV (.bool (((q1 || q2) || q3) || q4))) (fun ρ w' h => h) ?_
        refine tele_gval rfl ((!(((q1 || q2) || q3) || q4))) (.int .i64 (k : Int)) (fun ρ w' hk => by obtain ⟨_, hg, -⟩ := hk; have eg : ρ 66 = .bool (((q1 || q2) || q3) || q4) := hg; cases hq : ((((q1 || q2) || q3) || q4)) <;> simp [wantedR, Region.wanted, asBoolR_bool, asBoolR_undef, eg, ifV, hq]) ?_ ?_
        · rintro ρ w' he ⟨h10, hgd, -⟩ hG
          have e10 : ρ 10 = .int .i64 (k : Int) := h10
          simp [execOp, evR, e10, go_sem]
        refine tele_gval rfl ((!(((q1 || q2) || q3) || q4))) (.bool true) (fun ρ w' hk => by obtain ⟨_, hg, -⟩ := hk; have eg : ρ 66 = .bool (((q1 || q2) || q3) || q4) := hg; cases hq : ((((q1 || q2) || q3) || q4)) <;> simp [wantedR, Region.wanted, asBoolR_bool, asBoolR_undef, eg, ifV, hq]) ?_ ?_
        · rintro ρ w' he ⟨h67, hgd, -⟩ hG
          have e67 : ρ 67 = .int .i64 (k : Int) := (show ρ 67 = ifV ((!(((q1 || q2) || q3) || q4))) (.int .i64 (k : Int)) from h67).trans (ifV_true (by first | exact hG | simp_all))
          simp [execOp, evR, e67, go_sem]
          omega
        refine tele_gval rfl ((!(((q1 || q2) || q3) || q4))) (.bool true) (fun ρ w' hk => by obtain ⟨_, hg, -⟩ := hk; have eg : ρ 66 = .bool (((q1 || q2) || q3) || q4) := hg; cases hq : ((((q1 || q2) || q3) || q4)) <;> simp [wantedR, Region.wanted, asBoolR_bool, asBoolR_undef, eg, ifV, hq]) ?_ ?_
        · rintro ρ w' he ⟨h68, hgd, -⟩ hG
          have e68 : ρ 68 = .bool true := (show ρ 68 = ifV ((!(((q1 || q2) || q3) || q4))) (.bool true) from h68).trans (ifV_true (by first | exact hG | simp_all))
          simp [execOp, evR, e68, go_sem]
        refine tele_gval rfl ((!(((q1 || q2) || q3) || q4))) (.pointer (some ⟨nc, 1, none⟩)) (fun ρ w' hk => by obtain ⟨_, hg, -⟩ := hk; have eg : ρ 69 = ifV ((!(((q1 || q2) || q3) || q4))) (.bool true) := hg; cases h0 : ((!(((q1 || q2) || q3) || q4))) <;> simp [wantedR, Region.wanted, asBoolR_bool, asBoolR_undef, eg, ifV, h0]) ?_ ?_
        · rintro ρ w' he ⟨h11, hgd, -⟩ hG
          have e11 : ρ 11 = .pointer (some ⟨nc, 0, none⟩) := h11
          simp [execOp, evR, e11, go_sem]
        refine tele_gval rfl ((!(((q1 || q2) || q3) || q4))) (.int .i64 s2) (fun ρ w' hk => by obtain ⟨_, hg, -⟩ := hk; have eg : ρ 69 = ifV ((!(((q1 || q2) || q3) || q4))) (.bool true) := hg; cases h0 : ((!(((q1 || q2) || q3) || q4))) <;> simp [wantedR, Region.wanted, asBoolR_bool, asBoolR_undef, eg, ifV, h0]) ?_ ?_
        · rintro ρ w' he ⟨h70, hgd, -⟩ hG
          have e70 : ρ 70 = .pointer (some ⟨nc, 1, none⟩) := (show ρ 70 = ifV ((!(((q1 || q2) || q3) || q4))) (.pointer (some ⟨nc, 1, none⟩)) from h70).trans (ifV_true (by first | exact hG | simp_all))
          have c0 := (bc.ext he).cell (i := 1) rfl
          simp [execOp, evR, e70, c0, go_sem]
        refine tele_gval rfl ((!(((q1 || q2) || q3) || q4))) (.int .i64 (s2 - 1)) (fun ρ w' hk => by obtain ⟨_, hg, -⟩ := hk; have eg : ρ 69 = ifV ((!(((q1 || q2) || q3) || q4))) (.bool true) := hg; cases h0 : ((!(((q1 || q2) || q3) || q4))) <;> simp [wantedR, Region.wanted, asBoolR_bool, asBoolR_undef, eg, ifV, h0]) ?_ ?_
        · rintro ρ w' he ⟨h71, hgd, -⟩ hG
          have e71 : ρ 71 = .int .i64 s2 := (show ρ 71 = ifV ((!(((q1 || q2) || q3) || q4))) (.int .i64 s2) from h71).trans (ifV_true (by first | exact hG | simp_all))
          have hw1 : IntKind.i64.wrap (s2 - 1) = s2 - 1 := IntWalk.i64_in _ (by omega)
          simp [execOp, evR, e71, hw1, go_sem]
        refine tele_gval rfl ((!(((q1 || q2) || q3) || q4))) (.slice (some ⟨bo, oo, none⟩) k cO) (fun ρ w' hk => by obtain ⟨_, hg, -⟩ := hk; have eg : ρ 69 = ifV ((!(((q1 || q2) || q3) || q4))) (.bool true) := hg; cases h0 : ((!(((q1 || q2) || q3) || q4))) <;> simp [wantedR, Region.wanted, asBoolR_bool, asBoolR_undef, eg, ifV, h0]) ?_ ?_
        · rintro ρ w' he ⟨h9, hgd, -⟩ hG
          have e9 : ρ 9 = .slice (some ⟨bo, oo, none⟩) k cO := h9
          simp [execOp, evR, e9, go_sem]
        refine tele_gval rfl ((!(((q1 || q2) || q3) || q4))) (.int .i64 (k : Int)) (fun ρ w' hk => by obtain ⟨_, hg, -⟩ := hk; have eg : ρ 69 = ifV ((!(((q1 || q2) || q3) || q4))) (.bool true) := hg; cases h0 : ((!(((q1 || q2) || q3) || q4))) <;> simp [wantedR, Region.wanted, asBoolR_bool, asBoolR_undef, eg, ifV, h0]) ?_ ?_
        · rintro ρ w' he ⟨h10, hgd, -⟩ hG
          have e10 : ρ 10 = .int .i64 (k : Int) := h10
          simp [execOp, evR, e10, go_sem]
        refine tele_gval rfl ((!(((q1 || q2) || q3) || q4))) (.int .i64 ((k - 1 : Nat) : Int)) (fun ρ w' hk => by obtain ⟨_, hg, -⟩ := hk; have eg : ρ 69 = ifV ((!(((q1 || q2) || q3) || q4))) (.bool true) := hg; cases h0 : ((!(((q1 || q2) || q3) || q4))) <;> simp [wantedR, Region.wanted, asBoolR_bool, asBoolR_undef, eg, ifV, h0]) ?_ ?_
        · rintro ρ w' he ⟨h74, hgd, -⟩ hG
          have e74 : ρ 74 = .int .i64 (k : Int) := (show ρ 74 = ifV ((!(((q1 || q2) || q3) || q4))) (.int .i64 (k : Int)) from h74).trans (ifV_true (by first | exact hG | simp_all))
          have hw1 : IntKind.i64.wrap ((k : Int) - 1) = ((k - 1 : Nat) : Int) := by rw [IntWalk.i64_in _ (by omega)]; omega
          simp [execOp, evR, e74, hw1, go_sem]
        refine tele_gval rfl ((!(((q1 || q2) || q3) || q4))) (.pointer (some ⟨bo, oo + (k - 1) * 7, none⟩)) (fun ρ w' hk => by obtain ⟨_, _, hg, -⟩ := hk; have eg : ρ 69 = ifV ((!(((q1 || q2) || q3) || q4))) (.bool true) := hg; cases h0 : ((!(((q1 || q2) || q3) || q4))) <;> simp [wantedR, Region.wanted, asBoolR_bool, asBoolR_undef, eg, ifV, h0]) ?_ ?_
        · rintro ρ w' he ⟨h73, h75, hgd, -⟩ hG
          have e73 : ρ 73 = .slice (some ⟨bo, oo, none⟩) k cO := (show ρ 73 = ifV ((!(((q1 || q2) || q3) || q4))) (.slice (some ⟨bo, oo, none⟩) k cO) from h73).trans (ifV_true (by first | exact hG | simp_all))
          have e75 : ρ 75 = .int .i64 ((k - 1 : Nat) : Int) := (show ρ 75 = ifV ((!(((q1 || q2) || q3) || q4))) (.int .i64 ((k - 1 : Nat) : Int)) from h75).trans (ifV_true (by first | exact hG | simp_all))
          exact index_at 7 rfl Tryd.underlying22 e73 e75 (by omega) (by kernel_rfl)
        refine tele_gval rfl ((!(((q1 || q2) || q3) || q4))) (.pointer (some ⟨bo, oo + (k - 1) * 7 + 1, none⟩)) (fun ρ w' hk => by obtain ⟨_, hg, -⟩ := hk; have eg : ρ 69 = ifV ((!(((q1 || q2) || q3) || q4))) (.bool true) := hg; cases h0 : ((!(((q1 || q2) || q3) || q4))) <;> simp [wantedR, Region.wanted, asBoolR_bool, asBoolR_undef, eg, ifV, h0]) ?_ ?_
        · rintro ρ w' he ⟨h76, hgd, -⟩ hG
          have e76 : ρ 76 = .pointer (some ⟨bo, oo + (k - 1) * 7, none⟩) := (show ρ 76 = ifV ((!(((q1 || q2) || q3) || q4))) (.pointer (some ⟨bo, oo + (k - 1) * 7, none⟩)) from h76).trans (ifV_true (by first | exact hG | simp_all))
          simp [execOp, evR, e76, go_sem]
        refine tele_gval rfl ((!(((q1 || q2) || q3) || q4))) (.int .i64 pseq) (fun ρ w' hk => by obtain ⟨_, hg, -⟩ := hk; have eg : ρ 69 = ifV ((!(((q1 || q2) || q3) || q4))) (.bool true) := hg; cases h0 : ((!(((q1 || q2) || q3) || q4))) <;> simp [wantedR, Region.wanted, asBoolR_bool, asBoolR_undef, eg, ifV, h0]) ?_ ?_
        · rintro ρ w' he ⟨h77, hgd, -⟩ hG
          have e77 : ρ 77 = .pointer (some ⟨bo, oo + (k - 1) * 7 + 1, none⟩) := (show ρ 77 = ifV ((!(((q1 || q2) || q3) || q4))) (.pointer (some ⟨bo, oo + (k - 1) * 7 + 1, none⟩)) from h77).trans (ifV_true (by first | exact hG | simp_all))
          have c0 := (he.cell (p := ⟨bo, oo + (k - 1) * 7 + 1, none⟩) HBO.out).trans HPS.out
          simp [execOp, evR, e77, c0, go_sem]
        refine tele_gval rfl ((!(((q1 || q2) || q3) || q4))) (.bool q5) (fun ρ w' hk => by obtain ⟨_, _, hg, -⟩ := hk; have eg : ρ 69 = ifV ((!(((q1 || q2) || q3) || q4))) (.bool true) := hg; cases h0 : ((!(((q1 || q2) || q3) || q4))) <;> simp [wantedR, Region.wanted, asBoolR_bool, asBoolR_undef, eg, ifV, h0]) ?_ ?_
        · rintro ρ w' he ⟨h72, h78, hgd, -⟩ hG
          have e72 : ρ 72 = .int .i64 (s2 - 1) := (show ρ 72 = ifV ((!(((q1 || q2) || q3) || q4))) (.int .i64 (s2 - 1)) from h72).trans (ifV_true (by first | exact hG | simp_all))
          have e78 : ρ 78 = .int .i64 pseq := (show ρ 78 = ifV ((!(((q1 || q2) || q3) || q4))) (.int .i64 pseq) from h78).trans (ifV_true (by first | exact hG | simp_all))
          rw [Q79]
          simp [execOp, evR, e72, e78, go_sem]
        refine tele_gval rfl ((!(((q1 || q2) || q3) || q4))) (.bool q5) (fun ρ w' hk => by obtain ⟨_, _, hg, -⟩ := hk; have eg : ρ 66 = .bool (((q1 || q2) || q3) || q4) := hg; cases hq : ((((q1 || q2) || q3) || q4)) <;> simp [wantedR, Region.wanted, asBoolR_bool, asBoolR_undef, eg, ifV, hq]) ?_ ?_
        · rintro ρ w' he ⟨h69, h79, hgd, -⟩ hG
          have e69 : ρ 69 = .bool true := (show ρ 69 = ifV ((!(((q1 || q2) || q3) || q4))) (.bool true) from h69).trans (ifV_true (by first | exact hG | simp_all))
          have e79 : ρ 79 = .bool q5 := (show ρ 79 = ifV ((!(((q1 || q2) || q3) || q4))) (.bool q5) from h79).trans (ifV_true (by first | exact hG | simp_all))
          simp [execOp, evR, e69, e79, go_sem]
        refine tele_val rfl (.bool ((((q1 || q2) || q3) || q4) || q5)) (fun _ _ _ => rfl) ?_ ?_
        · rintro ρ w' he ⟨h66, h80, -⟩
          have e66 : ρ 66 = .bool (((q1 || q2) || q3) || q4) := h66
          have e80 : ρ 80 = ifV ((!(((q1 || q2) || q3) || q4))) (.bool q5) := h80
          cases hc : ((((q1 || q2) || q3) || q4)) <;> simp [execOp, evR, e66, e80, ifV, hc, go_sem]
        refine tele_nil ?_
        rintro ρ w' hext ⟨f81, f80, f79, f78, f77, f76, f75, f74, f73, f72, f71, f70, f69, f68, f67, f66, f65, f64, f63, f62, f61, f60, f59, f58, f57, f56, f55, f54, f53, f52, f51, f50, f49, f48, f47, f46, f45, f44, f43, f42, f41, f40, f39, f38, f37, -⟩
        clear f37
        clear f38
        clear f39
        clear f40
        clear f41
        clear f42
        clear f43
        clear f44
        clear f45
        clear f46
        clear f47
        clear f48
        clear f49
        clear f50
        clear f51
        clear f52
        clear f53
        clear f54
        clear f55
        clear f56
        clear f57
        clear f58
        clear f59
        clear f60
        clear f61
        clear f62
        clear f63
        clear f64
        clear f65
        clear f66
        clear f67
        clear f68
        clear f69
        clear f70
        clear f71
        clear f72
        clear f73
        clear f74
        clear f75
        clear f76
        clear f77
        clear f78
        clear f79
        clear f80
        replace f81 : ρ 81 = .bool ((((q1 || q2) || q3) || q4) || q5) := f81
        simp only [puts, Act.put, List.setIfInBounds_toArray, List.set_cons_zero, List.set_cons_succ]
        have hok : ((((q1 || q2) || q3) || q4) || q5) = !(noteOk gs site (nm, tx) && (s2 - 1 == pseq)) := by
          rw [noteOk_eq HGP.out, Q38, Q47, Q53, Q64, Q79]
          have a1 : ((er : Int) != 0) = !(er == 0) := by rw [Bool.eq_iff_iff]; simp
          have a2 : ((n : Int) != (tx.length : Int)) = !(n == tx.length) := by rw [Bool.eq_iff_iff]; simp; omega
          have a3 : (nm == pname s2) = (pname s2 == nm) := by rw [Bool.eq_iff_iff]; simp only [beq_iff_eq]; exact eq_comm
          rw [a1, a2, a3]
          simp only [bne]
          cases (er == 0) <;> cases (n == tx.length) <;> cases (s1 == site) <;> cases (pname s2 == nm) <;> cases (s2 - 1 == pseq) <;> rfl
        rw [f81, hok]
        clear f81 hok Q38 Q47 Q53 Q64 Q79
        have HC2 := Lib.hid (bc.ext hext)
        have HW2 := Lib.hid (HWS.out.ext hext)
        have HJ2 := Lib.hid (hj9.out.more hext)
        clear bc HWS hj9 hext HX HBO HPS
        by_cases hnk : noteOk gs site (nm, tx) = true
        rotate_left
        · have hn0 : noteOk gs site (nm, tx) = false := by simpa using hnk
          have HR := Lib.hid (hcr.out.bad1 HGET.out hn0 HP.out)
          rw [hn0, Bool.false_and]
          clear hnk hpv hn0
          go_wp2_with fail
          go_ret2
          exact ReadQ.no HR.out rfl HJ2.out.ext
        have HOK := Lib.hid hnk
        have HGD := Lib.hid (good_bounds (cget_good (noteOk_get HOK.out)))
        by_cases hps2 : s2 - 1 = pseq
        rotate_left
        · have HR := Lib.hid (hcr.out.bad2 HGET.out hpv (by dsimp only; rw [HGP.out]; dsimp only; omega) HP.out)
          have hq5 : (s2 - 1 == pseq) = false := by simpa using hps2
          rw [hq5, Bool.and_false]
          clear hps2 hq5 hpv hnk
          go_wp2_with fail
          go_ret2
          exact ReadQ.no HR.out rfl HJ2.out.ext
        have hq5 : (s2 - 1 == pseq) = true := by simpa using hps2
        rw [hnk, hq5]
        have hn := hcr.out.next HGET.out HOK.out (by intro q hq; rw [hpv] at hq; injection hq with hq; dsimp only; rw [HGP.out]; dsimp only; omega)
        dsimp only at hn
        rw [HGP.out] at hn
        dsimp only at hn
        have HN := Lib.hid hn
        clear hn hps2 hq5 hpv hnk
        have bc := HC2.out
        have hal := ext_alloc w' (.cells #[.int .i64 s1, .int .i64 s2, .int .i64 s3, .int .i64 s4, .int .i64 s5, .int .i64 s6, .slice A2 wd.length c2] 32)
        have bl := Blk.new w' #[.int .i64 s1, .int .i64 s2, .int .i64 s3, .int .i64 s4, .int .i64 s5, .int .i64 s6, .slice A2 wd.length c2] 32
        have hown := (HJ2.out.more hal).row
        rw [HLO.out] at hown
        have hF : Fl (w'.alloc (.cells #[.int .i64 s1, .int .i64 s2, .int .i64 s3, .int .i64 s4, .int .i64 s5, .int .i64 s6, .slice A2 wd.length c2] 32)) (.slice (some ⟨w'.heap.size, 0, none⟩) 1 1) 1 (chC ⟨s1, s2, s3, s4, s5, s6, wd⟩ (.slice A2 wd.length c2)) := ⟨_, 1, rfl, Nat.le_refl _, by decide, by simp, fun _ => ⟨_, 0, rfl, bl.lt, fun j u hu => by rw [Nat.zero_add]; exact bl.cell (i := j) hu⟩⟩
        have h1c := ch_one s1 s2 s3 s4 s5 s6 wd A2 wd.length c2
        have hsz := (HJ2.out.ext.trans hal).size
        have c0 := bc.cell (i := 0) rfl
        have c1 := bc.cell (i := 1) rfl
        have c2' := bc.cell (i := 2) rfl
        have c3 := bc.cell (i := 3) rfl
        have c4 := bc.cell (i := 4) rfl
        have c5 := bc.cell (i := 5) rfl
        have c6 := bc.cell (i := 6) rfl
        clear bl hal
        go_upto_region 7 with (at_builtin; refine wpList_append_fl rfl (.tmp 82) (.tmp 84) 22 rfl w.heap.size 32 i0 _ 7 72 Tryd.underlying22 HI0.out HZ0.out HZ1.out HZ2.out rfl (by decide) hown hF rfl rfl rfl h1c (by unfold maxLen; omega) (by omega) hsz ?_; intro v' w3 hown' hg hat; clear c0 c1 c2' c3 c4 c5 c6)
        have hjn := Lib.hid (HJ2.out.app (xc := ⟨s1, s2, s3, s4, s5, s6, wd⟩) (tmp := .cells #[.int .i64 s1, .int .i64 s2, .int .i64 s3, .int .i64 s4, .int .i64 s5, .int .i64 s6, .slice A2 wd.length c2] 32) HW2.out (by have := HGD.out; rw [HGP.out] at this; exact this) (by rw [HLO.out]; exact hown') (by rw [HLO.out]; exact hg))
        clear hown hF h1c hsz bc hg hat hown'
        go_wp2_with fail
        go_roundw
        case rel => exact ⟨k + 1, outs ++ [(⟨s1, s2, s3, s4, s5, s6, wd⟩, .slice A2 wd.length c2)], by go_num, hjn, Lib.hid (by rw [List.map_append]; exact HN.out), hlt⟩
        case measure => simp [intOf]; omega
      · skip
        obtain ⟨q1, Q38⟩ : ∃ q : Bool, q = ((er : Int) != 0) := ⟨_, rfl⟩
        obtain ⟨q2, Q47⟩ : ∃ q : Bool, q = ((n : Int) != (tx.length : Int)) := ⟨_, rfl⟩
        obtain ⟨q3, Q53⟩ : ∃ q : Bool, q = (s1 != site) := ⟨_, rfl⟩
        obtain ⟨q4, Q64⟩ : ∃ q : Bool, q = (!(nm == pname s2)) := ⟨_, rfl⟩
        refine wp_region_mono (by kernel_rfl) (by kernel_rfl) ?_
        refine tele_move rfl (.inl rfl) rfl (isV (.int .i64 (er : Int))) (fun ρ w' h => h) ?_
        refine tele_val rfl (.bool q1) (fun _ _ _ => rfl) ?_ ?_
        · rintro ρ w' he ⟨h37, -⟩
          have e37 : ρ 37 = .int .i64 (er : Int) := h37
          rw [Q38]
          simp [execOp, evR, e37, go_sem]
        refine tele_move rfl (.inl rfl) rfl (isV (.bool q1)) (fun ρ w' h => h) ?_
        refine tele_gval rfl (!q1) (.int .i64 (n : Int)) (fun ρ w' hk => by obtain ⟨_, hg, -⟩ := hk; have eg : ρ 39 = .bool q1 := hg; cases hq : (q1) <;> simp [wantedR, Region.wanted, asBoolR_bool, asBoolR_undef, eg, ifV, hq]) ?_ ?_
        · rintro ρ w' he ⟨h12, hgd, -⟩ hG
          have e12 : ρ 12 = .int .i64 (n : Int) := h12
          simp [execOp, evR, e12, go_sem]
        refine tele_gval rfl (!q1) (.slice (some ⟨b, off, none⟩) l.length cN) (fun ρ w' hk => by obtain ⟨_, hg, -⟩ := hk; have eg : ρ 39 = .bool q1 := hg; cases hq : (q1) <;> simp [wantedR, Region.wanted, asBoolR_bool, asBoolR_undef, eg, ifV, hq]) ?_ ?_
        · rintro ρ w' he ⟨h2, hgd, -⟩ hG
          have e2 : ρ 2 = .slice (some ⟨b, off, none⟩) l.length cN := h2
          simp [execOp, evR, e2, go_sem]
        refine tele_gval rfl (!q1) (.int .i64 (k : Int)) (fun ρ w' hk => by obtain ⟨_, hg, -⟩ := hk; have eg : ρ 39 = .bool q1 := hg; cases hq : (q1) <;> simp [wantedR, Region.wanted, asBoolR_bool, asBoolR_undef, eg, ifV, hq]) ?_ ?_
        · rintro ρ w' he ⟨h10, hgd, -⟩ hG
          have e10 : ρ 10 = .int .i64 (k : Int) := h10
          simp [execOp, evR, e10, go_sem]
        refine tele_gval rfl (!q1) (.pointer (some ⟨b, off + k * 2, none⟩)) (fun ρ w' hk => by obtain ⟨_, _, hg, -⟩ := hk; have eg : ρ 39 = .bool q1 := hg; cases hq : (q1) <;> simp [wantedR, Region.wanted, asBoolR_bool, asBoolR_undef, eg, ifV, hq]) ?_ ?_
        · rintro ρ w' he ⟨h41, h42, hgd, -⟩ hG
          have e41 : ρ 41 = .slice (some ⟨b, off, none⟩) l.length cN := (show ρ 41 = ifV (!q1) (.slice (some ⟨b, off, none⟩) l.length cN) from h41).trans (ifV_true (by first | exact hG | simp_all))
          have e42 : ρ 42 = .int .i64 (k : Int) := (show ρ 42 = ifV (!q1) (.int .i64 (k : Int)) from h42).trans (ifV_true (by first | exact hG | simp_all))
          exact index_at 2 rfl Tryd.underlying47 e41 e42 (by omega) (by kernel_rfl)
        refine tele_gval rfl (!q1) (.pointer (some ⟨b, off + k * 2 + 1, none⟩)) (fun ρ w' hk => by obtain ⟨_, hg, -⟩ := hk; have eg : ρ 39 = .bool q1 := hg; cases hq : (q1) <;> simp [wantedR, Region.wanted, asBoolR_bool, asBoolR_undef, eg, ifV, hq]) ?_ ?_
        · rintro ρ w' he ⟨h43, hgd, -⟩ hG
          have e43 : ρ 43 = .pointer (some ⟨b, off + k * 2, none⟩) := (show ρ 43 = ifV (!q1) (.pointer (some ⟨b, off + k * 2, none⟩)) from h43).trans (ifV_true (by first | exact hG | simp_all))
          simp [execOp, evR, e43, go_sem]
        refine tele_gval rfl (!q1) (strV tx) (fun ρ w' hk => by obtain ⟨_, hg, -⟩ := hk; have eg : ρ 39 = .bool q1 := hg; cases hq : (q1) <;> simp [wantedR, Region.wanted, asBoolR_bool, asBoolR_undef, eg, ifV, hq]) ?_ ?_
        · rintro ρ w' he ⟨h44, hgd, -⟩ hG
          have e44 : ρ 44 = .pointer (some ⟨b, off + k * 2 + 1, none⟩) := (show ρ 44 = ifV (!q1) (.pointer (some ⟨b, off + k * 2 + 1, none⟩)) from h44).trans (ifV_true (by first | exact hG | simp_all))
          have c0 := ((HX.out.trans he).cell (p := ⟨b, off + k * 2 + 1, none⟩) hb).trans HA.out.2
          simp [execOp, evR, e44, c0, go_sem]
        refine tele_gval rfl (!q1) (.int .i64 ((tx.length : Nat) : Int)) (fun ρ w' hk => by obtain ⟨_, hg, -⟩ := hk; have eg : ρ 39 = .bool q1 := hg; cases hq : (q1) <;> simp [wantedR, Region.wanted, asBoolR_bool, asBoolR_undef, eg, ifV, hq]) ?_ ?_
        · rintro ρ w' he ⟨h45, hgd, -⟩ hG
          have e45 : ρ 45 = strV tx := (show ρ 45 = ifV (!q1) (strV tx) from h45).trans (ifV_true (by first | exact hG | simp_all))
          have hsz := strV_size tx
          unfold strV at e45
          simp [execOp, evR, e45, go_sem]
        refine tele_gval rfl (!q1) (.bool q2) (fun ρ w' hk => by obtain ⟨_, _, hg, -⟩ := hk; have eg : ρ 39 = .bool q1 := hg; cases hq : (q1) <;> simp [wantedR, Region.wanted, asBoolR_bool, asBoolR_undef, eg, ifV, hq]) ?_ ?_
        · rintro ρ w' he ⟨h40, h46, hgd, -⟩ hG
          have e40 : ρ 40 = .int .i64 (n : Int) := (show ρ 40 = ifV (!q1) (.int .i64 (n : Int)) from h40).trans (ifV_true (by first | exact hG | simp_all))
          have e46 : ρ 46 = .int .i64 ((tx.length : Nat) : Int) := (show ρ 46 = ifV (!q1) (.int .i64 ((tx.length : Nat) : Int)) from h46).trans (ifV_true (by first | exact hG | simp_all))
          rw [Q47]
          simp [execOp, evR, e40, e46, go_sem]
        refine tele_val rfl (.bool (q1 || q2)) (fun _ _ _ => rfl) ?_ ?_
        · rintro ρ w' he ⟨h39, h47, -⟩
          have e39 : ρ 39 = .bool q1 := h39
          have e47 : ρ 47 = ifV (!q1) (.bool q2) := h47
          cases hc : (q1) <;> simp [execOp, evR, e39, e47, ifV, hc, go_sem]
        refine tele_move rfl (.inl rfl) rfl (isV (.bool (q1 || q2))) (fun ρ w' h => h) ?_
        refine tele_gval rfl ((!(q1 || q2))) (.pointer (some ⟨nc, 0, none⟩)) (fun ρ w' hk => by obtain ⟨_, hg, -⟩ := hk; have eg : ρ 49 = .bool (q1 || q2) := hg; cases hq : ((q1 || q2)) <;> simp [wantedR, Region.wanted, asBoolR_bool, asBoolR_undef, eg, ifV, hq]) ?_ ?_
        · rintro ρ w' he ⟨h11, hgd, -⟩ hG
          have e11 : ρ 11 = .pointer (some ⟨nc, 0, none⟩) := h11
          simp [execOp, evR, e11, go_sem]
        refine tele_gval rfl ((!(q1 || q2))) (.int .i64 s1) (fun ρ w' hk => by obtain ⟨_, hg, -⟩ := hk; have eg : ρ 49 = .bool (q1 || q2) := hg; cases hq : ((q1 || q2)) <;> simp [wantedR, Region.wanted, asBoolR_bool, asBoolR_undef, eg, ifV, hq]) ?_ ?_
        · rintro ρ w' he ⟨h50, hgd, -⟩ hG
          have e50 : ρ 50 = .pointer (some ⟨nc, 0, none⟩) := (show ρ 50 = ifV ((!(q1 || q2))) (.pointer (some ⟨nc, 0, none⟩)) from h50).trans (ifV_true (by first | exact hG | simp_all))
          have c0 := (bc.ext he).cell (i := 0) rfl
          simp [execOp, evR, e50, c0, go_sem]
        refine tele_gval rfl ((!(q1 || q2))) (.int .i64 site) (fun ρ w' hk => by obtain ⟨_, hg, -⟩ := hk; have eg : ρ 49 = .bool (q1 || q2) := hg; cases hq : ((q1 || q2)) <;> simp [wantedR, Region.wanted, asBoolR_bool, asBoolR_undef, eg, ifV, hq]) ?_ ?_
        · rintro ρ w' he ⟨h1, hgd, -⟩ hG
          have e1 : ρ 1 = .int .i64 site := h1
          simp [execOp, evR, e1, go_sem]
        refine tele_gval rfl ((!(q1 || q2))) (.bool q3) (fun ρ w' hk => by obtain ⟨_, _, hg, -⟩ := hk; have eg : ρ 49 = .bool (q1 || q2) := hg; cases hq : ((q1 || q2)) <;> simp [wantedR, Region.wanted, asBoolR_bool, asBoolR_undef, eg, ifV, hq]) ?_ ?_
        · rintro ρ w' he ⟨h51, h52, hgd, -⟩ hG
          have e51 : ρ 51 = .int .i64 s1 := (show ρ 51 = ifV ((!(q1 || q2))) (.int .i64 s1) from h51).trans (ifV_true (by first | exact hG | simp_all))
          have e52 : ρ 52 = .int .i64 site := (show ρ 52 = ifV ((!(q1 || q2))) (.int .i64 site) from h52).trans (ifV_true (by first | exact hG | simp_all))
          rw [Q53]
          simp [execOp, evR, e51, e52, go_sem]
        refine tele_val rfl (.bool ((q1 || q2) || q3)) (fun _ _ _ => rfl) ?_ ?_
        · rintro ρ w' he ⟨h49, h53, -⟩
          have e49 : ρ 49 = .bool (q1 || q2) := h49
          have e53 : ρ 53 = ifV ((!(q1 || q2))) (.bool q3) := h53
          cases hc : ((q1 || q2)) <;> simp [execOp, evR, e49, e53, ifV, hc, go_sem]
        refine tele_move rfl (.inl rfl) rfl (isV (.bool ((q1 || q2) || q3))) (fun ρ w' h => h) ?_
        refine tele_gval rfl ((!((q1 || q2) || q3))) (.slice (some ⟨b, off, none⟩) l.length cN) (fun ρ w' hk => by obtain ⟨_, hg, -⟩ := hk; have eg : ρ 55 = .bool ((q1 || q2) || q3) := hg; cases hq : (((q1 || q2) || q3)) <;> simp [wantedR, Region.wanted, asBoolR_bool, asBoolR_undef, eg, ifV, hq]) ?_ ?_
        · rintro ρ w' he ⟨h2, hgd, -⟩ hG
          have e2 : ρ 2 = .slice (some ⟨b, off, none⟩) l.length cN := h2
          simp [execOp, evR, e2, go_sem]
        refine tele_gval rfl ((!((q1 || q2) || q3))) (.int .i64 (k : Int)) (fun ρ w' hk => by obtain ⟨_, hg, -⟩ := hk; have eg : ρ 55 = .bool ((q1 || q2) || q3) := hg; cases hq : (((q1 || q2) || q3)) <;> simp [wantedR, Region.wanted, asBoolR_bool, asBoolR_undef, eg, ifV, hq]) ?_ ?_
        · rintro ρ w' he ⟨h10, hgd, -⟩ hG
          have e10 : ρ 10 = .int .i64 (k : Int) := h10
          simp [execOp, evR, e10, go_sem]
        refine tele_gval rfl ((!((q1 || q2) || q3))) (.pointer (some ⟨b, off + k * 2, none⟩)) (fun ρ w' hk => by obtain ⟨_, _, hg, -⟩ := hk; have eg : ρ 55 = .bool ((q1 || q2) || q3) := hg; cases hq : (((q1 || q2) || q3)) <;> simp [wantedR, Region.wanted, asBoolR_bool, asBoolR_undef, eg, ifV, hq]) ?_ ?_
        · rintro ρ w' he ⟨h56, h57, hgd, -⟩ hG
          have e56 : ρ 56 = .slice (some ⟨b, off, none⟩) l.length cN := (show ρ 56 = ifV ((!((q1 || q2) || q3))) (.slice (some ⟨b, off, none⟩) l.length cN) from h56).trans (ifV_true (by first | exact hG | simp_all))
          have e57 : ρ 57 = .int .i64 (k : Int) := (show ρ 57 = ifV ((!((q1 || q2) || q3))) (.int .i64 (k : Int)) from h57).trans (ifV_true (by first | exact hG | simp_all))
          exact index_at 2 rfl Tryd.underlying47 e56 e57 (by omega) (by kernel_rfl)
        refine tele_gval rfl ((!((q1 || q2) || q3))) (.pointer (some ⟨b, off + k * 2, none⟩)) (fun ρ w' hk => by obtain ⟨_, hg, -⟩ := hk; have eg : ρ 55 = .bool ((q1 || q2) || q3) := hg; cases hq : (((q1 || q2) || q3)) <;> simp [wantedR, Region.wanted, asBoolR_bool, asBoolR_undef, eg, ifV, hq]) ?_ ?_
        · rintro ρ w' he ⟨h58, hgd, -⟩ hG
          have e58 : ρ 58 = .pointer (some ⟨b, off + k * 2, none⟩) := (show ρ 58 = ifV ((!((q1 || q2) || q3))) (.pointer (some ⟨b, off + k * 2, none⟩)) from h58).trans (ifV_true (by first | exact hG | simp_all))
          simp [execOp, evR, e58, go_sem]
        refine tele_gval rfl ((!((q1 || q2) || q3))) (strV nm) (fun ρ w' hk => by obtain ⟨_, hg, -⟩ := hk; have eg : ρ 55 = .bool ((q1 || q2) || q3) := hg; cases hq : (((q1 || q2) || q3)) <;> simp [wantedR, Region.wanted, asBoolR_bool, asBoolR_undef, eg, ifV, hq]) ?_ ?_
        · rintro ρ w' he ⟨h59, hgd, -⟩ hG
          have e59 : ρ 59 = .pointer (some ⟨b, off + k * 2, none⟩) := (show ρ 59 = ifV ((!((q1 || q2) || q3))) (.pointer (some ⟨b, off + k * 2, none⟩)) from h59).trans (ifV_true (by first | exact hG | simp_all))
          have c0 := ((HX.out.trans he).cell (p := ⟨b, off + k * 2, none⟩) hb).trans HA.out.1
          simp [execOp, evR, e59, c0, go_sem]
        refine tele_gval rfl ((!((q1 || q2) || q3))) (.pointer (some ⟨nc, 1, none⟩)) (fun ρ w' hk => by obtain ⟨_, hg, -⟩ := hk; have eg : ρ 55 = .bool ((q1 || q2) || q3) := hg; cases hq : (((q1 || q2) || q3)) <;> simp [wantedR, Region.wanted, asBoolR_bool, asBoolR_undef, eg, ifV, hq]) ?_ ?_
        · rintro ρ w' he ⟨h11, hgd, -⟩ hG
          have e11 : ρ 11 = .pointer (some ⟨nc, 0, none⟩) := h11
          simp [execOp, evR, e11, go_sem]
        refine tele_gval rfl ((!((q1 || q2) || q3))) (.int .i64 s2) (fun ρ w' hk => by obtain ⟨_, hg, -⟩ := hk; have eg : ρ 55 = .bool ((q1 || q2) || q3) := hg; cases hq : (((q1 || q2) || q3)) <;> simp [wantedR, Region.wanted, asBoolR_bool, asBoolR_undef, eg, ifV, hq]) ?_ ?_
        · rintro ρ w' he ⟨h61, hgd, -⟩ hG
          have e61 : ρ 61 = .pointer (some ⟨nc, 1, none⟩) := (show ρ 61 = ifV ((!((q1 || q2) || q3))) (.pointer (some ⟨nc, 1, none⟩)) from h61).trans (ifV_true (by first | exact hG | simp_all))
          have c0 := (bc.ext he).cell (i := 1) rfl
          simp [execOp, evR, e61, c0, go_sem]
        refine tele_gcall rfl rfl Tryd.func16 (by kernel_rfl) ((!((q1 || q2) || q3))) (strV (pname s2)) (fun ρ w' hk => by obtain ⟨_, hg, -⟩ := hk; have eg : ρ 55 = .bool ((q1 || q2) || q3) := hg; cases hq : (((q1 || q2) || q3)) <;> simp [wantedR, Region.wanted, asBoolR_bool, asBoolR_undef, eg, ifV, hq]) ?_ ?_
        · rintro ρ w' he ⟨h62, hgd, -⟩ hG
          have e62 : ρ 62 = .int .i64 s2 := (show ρ 62 = ifV ((!((q1 || q2) || q3))) (.int .i64 s2) from h62).trans (ifV_true (by first | exact hG | simp_all))
          simp only [evR, List.map_toArray, List.map_cons, List.map_nil, e62]
          refine (refCName_any _ _).mono ?_
          rintro e w'' ⟨rfl, h'⟩
          exact ⟨rfl, h'⟩
        refine tele_gval rfl ((!((q1 || q2) || q3))) (.bool q4) (fun ρ w' hk => by obtain ⟨_, _, hg, -⟩ := hk; have eg : ρ 55 = .bool ((q1 || q2) || q3) := hg; cases hq : (((q1 || q2) || q3)) <;> simp [wantedR, Region.wanted, asBoolR_bool, asBoolR_undef, eg, ifV, hq]) ?_ ?_
        · rintro ρ w' he ⟨h60, h63, hgd, -⟩ hG
          have e60 : ρ 60 = strV nm := (show ρ 60 = ifV ((!((q1 || q2) || q3))) (strV nm) from h60).trans (ifV_true (by first | exact hG | simp_all))
          have e63 : ρ 63 = strV (pname s2) := (show ρ 63 = ifV ((!((q1 || q2) || q3))) (strV (pname s2)) from h63).trans (ifV_true (by first | exact hG | simp_all))
          exact (exec_neq_str rfl e60 e63).trans (by rw [Q64])
        refine tele_val rfl (.bool (((q1 || q2) || q3) || q4)) (fun _ _ _ => rfl) ?_ ?_
        · rintro ρ w' he ⟨h55, h64, -⟩
          have e55 : ρ 55 = .bool ((q1 || q2) || q3) := h55
          have e64 : ρ 64 = ifV ((!((q1 || q2) || q3))) (.bool q4) := h64
          cases hc : (((q1 || q2) || q3)) <;> simp [execOp, evR, e55, e64, ifV, hc, go_sem]
        refine tele_move rfl (.inl rfl) rfl (isV (.bool (((q1 || q2) || q3) || q4))) (fun ρ w' h => h) ?_
        refine tele_gval rfl ((!(((q1 || q2) || q3) || q4))) (.int .i64 (k : Int)) (fun ρ w' hk => by obtain ⟨_, hg, -⟩ := hk; have eg : ρ 66 = .bool (((q1 || q2) || q3) || q4) := hg; cases hq : ((((q1 || q2) || q3) || q4)) <;> simp [wantedR, Region.wanted, asBoolR_bool, asBoolR_undef, eg, ifV, hq]) ?_ ?_
        · rintro ρ w' he ⟨h10, hgd, -⟩ hG
          have e10 : ρ 10 = .int .i64 (k : Int) := h10
          simp [execOp, evR, e10, go_sem]
        refine tele_gval rfl ((!(((q1 || q2) || q3) || q4))) (.bool false) (fun ρ w' hk => by obtain ⟨_, hg, -⟩ := hk; have eg : ρ 66 = .bool (((q1 || q2) || q3) || q4) := hg; cases hq : ((((q1 || q2) || q3) || q4)) <;> simp [wantedR, Region.wanted, asBoolR_bool, asBoolR_undef, eg, ifV, hq]) ?_ ?_
        · rintro ρ w' he ⟨h67, hgd, -⟩ hG
          have e67 : ρ 67 = .int .i64 (k : Int) := (show ρ 67 = ifV ((!(((q1 || q2) || q3) || q4))) (.int .i64 (k : Int)) from h67).trans (ifV_true (by first | exact hG | simp_all))
          simp [execOp, evR, e67, go_sem]
          omega
        refine tele_gval rfl ((!(((q1 || q2) || q3) || q4))) (.bool false) (fun ρ w' hk => by obtain ⟨_, hg, -⟩ := hk; have eg : ρ 66 = .bool (((q1 || q2) || q3) || q4) := hg; cases hq : ((((q1 || q2) || q3) || q4)) <;> simp [wantedR, Region.wanted, asBoolR_bool, asBoolR_undef, eg, ifV, hq]) ?_ ?_
        · rintro ρ w' he ⟨h68, hgd, -⟩ hG
          have e68 : ρ 68 = .bool false := (show ρ 68 = ifV ((!(((q1 || q2) || q3) || q4))) (.bool false) from h68).trans (ifV_true (by first | exact hG | simp_all))
          simp [execOp, evR, e68, go_sem]
        refine tele_pass rfl (fun ρ w' hk => by obtain ⟨_, hg, -⟩ := hk; have eg : ρ 69 = ifV ((!(((q1 || q2) || q3) || q4))) (.bool false) := hg; cases h0 : ((!(((q1 || q2) || q3) || q4))) <;> simp [wantedR, Region.wanted, asBoolR_bool, asBoolR_undef, eg, ifV, h0]) ?_
        refine tele_pass rfl (fun ρ w' hk => by obtain ⟨_, hg, -⟩ := hk; have eg : ρ 69 = ifV ((!(((q1 || q2) || q3) || q4))) (.bool false) := hg; cases h0 : ((!(((q1 || q2) || q3) || q4))) <;> simp [wantedR, Region.wanted, asBoolR_bool, asBoolR_undef, eg, ifV, h0]) ?_
        refine tele_pass rfl (fun ρ w' hk => by obtain ⟨_, hg, -⟩ := hk; have eg : ρ 69 = ifV ((!(((q1 || q2) || q3) || q4))) (.bool false) := hg; cases h0 : ((!(((q1 || q2) || q3) || q4))) <;> simp [wantedR, Region.wanted, asBoolR_bool, asBoolR_undef, eg, ifV, h0]) ?_
        refine tele_pass rfl (fun ρ w' hk => by obtain ⟨_, hg, -⟩ := hk; have eg : ρ 69 = ifV ((!(((q1 || q2) || q3) || q4))) (.bool false) := hg; cases h0 : ((!(((q1 || q2) || q3) || q4))) <;> simp [wantedR, Region.wanted, asBoolR_bool, asBoolR_undef, eg, ifV, h0]) ?_
        refine tele_pass rfl (fun ρ w' hk => by obtain ⟨_, hg, -⟩ := hk; have eg : ρ 69 = ifV ((!(((q1 || q2) || q3) || q4))) (.bool false) := hg; cases h0 : ((!(((q1 || q2) || q3) || q4))) <;> simp [wantedR, Region.wanted, asBoolR_bool, asBoolR_undef, eg, ifV, h0]) ?_
        refine tele_pass rfl (fun ρ w' hk => by obtain ⟨_, hg, -⟩ := hk; have eg : ρ 69 = ifV ((!(((q1 || q2) || q3) || q4))) (.bool false) := hg; cases h0 : ((!(((q1 || q2) || q3) || q4))) <;> simp [wantedR, Region.wanted, asBoolR_bool, asBoolR_undef, eg, ifV, h0]) ?_
        refine tele_pass rfl (fun ρ w' hk => by obtain ⟨_, _, hg, -⟩ := hk; have eg : ρ 69 = ifV ((!(((q1 || q2) || q3) || q4))) (.bool false) := hg; cases h0 : ((!(((q1 || q2) || q3) || q4))) <;> simp [wantedR, Region.wanted, asBoolR_bool, asBoolR_undef, eg, ifV, h0]) ?_
        refine tele_pass rfl (fun ρ w' hk => by obtain ⟨_, hg, -⟩ := hk; have eg : ρ 69 = ifV ((!(((q1 || q2) || q3) || q4))) (.bool false) := hg; cases h0 : ((!(((q1 || q2) || q3) || q4))) <;> simp [wantedR, Region.wanted, asBoolR_bool, asBoolR_undef, eg, ifV, h0]) ?_
        refine tele_pass rfl (fun ρ w' hk => by obtain ⟨_, hg, -⟩ := hk; have eg : ρ 69 = ifV ((!(((q1 || q2) || q3) || q4))) (.bool false) := hg; cases h0 : ((!(((q1 || q2) || q3) || q4))) <;> simp [wantedR, Region.wanted, asBoolR_bool, asBoolR_undef, eg, ifV, h0]) ?_
        refine tele_pass rfl (fun ρ w' hk => by obtain ⟨_, _, hg, -⟩ := hk; have eg : ρ 69 = ifV ((!(((q1 || q2) || q3) || q4))) (.bool false) := hg; cases h0 : ((!(((q1 || q2) || q3) || q4))) <;> simp [wantedR, Region.wanted, asBoolR_bool, asBoolR_undef, eg, ifV, h0]) ?_
        refine tele_gval rfl ((!(((q1 || q2) || q3) || q4))) (.bool false) (fun ρ w' hk => by obtain ⟨_, _, hg, -⟩ := hk; have eg : ρ 66 = .bool (((q1 || q2) || q3) || q4) := hg; cases hq : ((((q1 || q2) || q3) || q4)) <;> simp [wantedR, Region.wanted, asBoolR_bool, asBoolR_undef, eg, ifV, hq]) ?_ ?_
        · rintro ρ w' he ⟨h69, h79, hgd, -⟩ hG
          have e69 : ρ 69 = .bool false := (show ρ 69 = ifV ((!(((q1 || q2) || q3) || q4))) (.bool false) from h69).trans (ifV_true (by first | exact hG | simp_all))
          have e79 : ρ 79 = undef := h79
          simp [execOp, evR, e69, e79, go_sem]
        refine tele_val rfl (.bool ((((q1 || q2) || q3) || q4) || false)) (fun _ _ _ => rfl) ?_ ?_
        · rintro ρ w' he ⟨h66, h80, -⟩
          have e66 : ρ 66 = .bool (((q1 || q2) || q3) || q4) := h66
          have e80 : ρ 80 = ifV ((!(((q1 || q2) || q3) || q4))) (.bool false) := h80
          cases hc : ((((q1 || q2) || q3) || q4)) <;> simp [execOp, evR, e66, e80, ifV, hc, go_sem]
        refine tele_nil ?_
        rintro ρ w' hext ⟨f81, f80, f79, f78, f77, f76, f75, f74, f73, f72, f71, f70, f69, f68, f67, f66, f65, f64, f63, f62, f61, f60, f59, f58, f57, f56, f55, f54, f53, f52, f51, f50, f49, f48, f47, f46, f45, f44, f43, f42, f41, f40, f39, f38, f37, -⟩
        clear f37
        clear f38
        clear f39
        clear f40
        clear f41
        clear f42
        clear f43
        clear f44
        clear f45
        clear f46
        clear f47
        clear f48
        clear f49
        clear f50
        clear f51
        clear f52
        clear f53
        clear f54
        clear f55
        clear f56
        clear f57
        clear f58
        clear f59
        clear f60
        clear f61
        clear f62
        clear f63
        clear f64
        clear f65
        clear f66
        clear f67
        clear f68
        clear f69
        clear f70
        clear f71
        clear f72
        clear f73
        clear f74
        clear f75
        clear f76
        clear f77
        clear f78
        clear f79
        clear f80
        replace f81 : ρ 81 = .bool ((((q1 || q2) || q3) || q4) || false) := f81
        simp only [puts, Act.put, List.setIfInBounds_toArray, List.set_cons_zero, List.set_cons_succ]
        have hok : ((((q1 || q2) || q3) || q4) || false) = !(noteOk gs site (nm, tx)) := by
          rw [noteOk_eq HGP.out, Q38, Q47, Q53, Q64]
          have a1 : ((er : Int) != 0) = !(er == 0) := by rw [Bool.eq_iff_iff]; simp
          have a2 : ((n : Int) != (tx.length : Int)) = !(n == tx.length) := by rw [Bool.eq_iff_iff]; simp; omega
          have a3 : (nm == pname s2) = (pname s2 == nm) := by rw [Bool.eq_iff_iff]; simp only [beq_iff_eq]; exact eq_comm
          rw [a1, a2, a3]
          simp only [bne]
          cases (er == 0) <;> cases (n == tx.length) <;> cases (s1 == site) <;> cases (pname s2 == nm) <;> rfl
        rw [f81, hok]
        clear f81 hok Q38 Q47 Q53 Q64
        have HC2 := Lib.hid (bc.ext hext)
        have HW2 := Lib.hid (HWS.out.ext hext)
        have HJ2 := Lib.hid (hj9.out.more hext)
        clear bc HWS hj9 hext HX
        by_cases hnk : noteOk gs site (nm, tx) = true
        rotate_left
        · have hn0 : noteOk gs site (nm, tx) = false := by simpa using hnk
          have HR := Lib.hid (hcr.out.bad1 HGET.out hn0 HP.out)
          rw [hn0]
          clear hnk hn0
          go_wp2_with fail
          go_ret2
          exact ReadQ.no HR.out rfl HJ2.out.ext
        have HOK := Lib.hid hnk
        have HGD := Lib.hid (good_bounds (cget_good (noteOk_get HOK.out)))
        rw [hnk]
        have hn := hcr.out.next HGET.out HOK.out (by intro q hq; have h0 := hcr.out.len; rw [(List.eq_nil_of_length_eq_zero (by omega) : outs.map (·.1) = [])] at hq; cases hq)
        dsimp only at hn
        rw [HGP.out] at hn
        dsimp only at hn
        have HN := Lib.hid hn
        clear hn hnk
        have bc := HC2.out
        have hal := ext_alloc w' (.cells #[.int .i64 s1, .int .i64 s2, .int .i64 s3, .int .i64 s4, .int .i64 s5, .int .i64 s6, .slice A2 wd.length c2] 32)
        have bl := Blk.new w' #[.int .i64 s1, .int .i64 s2, .int .i64 s3, .int .i64 s4, .int .i64 s5, .int .i64 s6, .slice A2 wd.length c2] 32
        have hown := (HJ2.out.more hal).row
        rw [HLO.out] at hown
        have hF : Fl (w'.alloc (.cells #[.int .i64 s1, .int .i64 s2, .int .i64 s3, .int .i64 s4, .int .i64 s5, .int .i64 s6, .slice A2 wd.length c2] 32)) (.slice (some ⟨w'.heap.size, 0, none⟩) 1 1) 1 (chC ⟨s1, s2, s3, s4, s5, s6, wd⟩ (.slice A2 wd.length c2)) := ⟨_, 1, rfl, Nat.le_refl _, by decide, by simp, fun _ => ⟨_, 0, rfl, bl.lt, fun j u hu => by rw [Nat.zero_add]; exact bl.cell (i := j) hu⟩⟩
        have h1c := ch_one s1 s2 s3 s4 s5 s6 wd A2 wd.length c2
        have hsz := (HJ2.out.ext.trans hal).size
        have c0 := bc.cell (i := 0) rfl
        have c1 := bc.cell (i := 1) rfl
        have c2' := bc.cell (i := 2) rfl
        have c3 := bc.cell (i := 3) rfl
        have c4 := bc.cell (i := 4) rfl
        have c5 := bc.cell (i := 5) rfl
        have c6 := bc.cell (i := 6) rfl
        clear bl hal
        go_upto_region 7 with (at_builtin; refine wpList_append_fl rfl (.tmp 82) (.tmp 84) 22 rfl w.heap.size 32 i0 _ 7 72 Tryd.underlying22 HI0.out HZ0.out HZ1.out HZ2.out rfl (by decide) hown hF rfl rfl rfl h1c (by unfold maxLen; omega) (by omega) hsz ?_; intro v' w3 hown' hg hat; clear c0 c1 c2' c3 c4 c5 c6)
        have hjn := Lib.hid (HJ2.out.app (xc := ⟨s1, s2, s3, s4, s5, s6, wd⟩) (tmp := .cells #[.int .i64 s1, .int .i64 s2, .int .i64 s3, .int .i64 s4, .int .i64 s5, .int .i64 s6, .slice A2 wd.length c2] 32) HW2.out (by have := HGD.out; rw [HGP.out] at this; exact this) (by rw [HLO.out]; exact hown') (by rw [HLO.out]; exact hg))
        clear hown hF h1c hsz bc hg hat hown'
        go_wp2_with fail
        go_roundw
        case rel => exact ⟨k + 1, outs ++ [(⟨s1, s2, s3, s4, s5, s6, wd⟩, .slice A2 wd.length c2)], by go_num, hjn, Lib.hid (by rw [List.map_append]; exact HN.out), hlt⟩
        case measure => simp [intOf]; omega
    · have HR := Lib.hid (hcr.out.fin hlt HP.out)
      go_wp2_with fail
      go_ret2
      have hcs := hj.out.cs
      rw [HLO.out] at hcs
      exact ReadQ.mk _ outs HR.out rfl hcs rfl hj.out.ext
end Go.Proofs.YtacabcpjaadijaaDoor
