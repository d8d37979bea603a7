/-
  Layer 12: what is the very same: writes, changes, lists of changes.
-/
import Derived.Test.YtacabcpjaadijaaDoorCapPlain
import Derived.Test.YtacabcpjaadijaaDoorChGood
import Derived.Test.YtacabcpjaadijaaDoorMono
import Derived.Deep.Cut
namespace Go.Proofs.YtacabcpjaadijaaDoor
open Go Go.RowKit Mono Num
set_option linter.unusedVariables false
set_option linter.unusedSimpArgs false
set_option maxRecDepth 100000

set_option maxHeartbeats 2000000 in
theorem wsSame_any (va vb : Value) (l : List Wr) (w : World) (ha : Ws w va l) (hb : Ws w vb l) :
    Calls Tryd.prog 29 #[va, vb] w fun e w' => e = .returned (.bool true) ∧ Ext w w' := by
  obtain ⟨A, c, rfl, h1, h2, h3, h4⟩ := ha.at_
  obtain ⟨B, d, rfl, k1, k2, k3, k4⟩ := hb.at_
  have hl2 : (((l.length : Nat) : Int) != ((l.length : Nat) : Int)) = false := by simp
  go_enter Tryd.func29, Tryd.ntmps29
  go_wp2_with fail
  go_loopw [5] (fun i wr => ∃ k : Nat, k ≤ l.length ∧ i = .int .i64 k ∧ Ext w wr) (fun i _ => l.length - (intOf i).toNat)
  case atStart => exact ⟨0, Nat.zero_le _, rfl, Ext.refl _⟩
  case round =>
    obtain ⟨i, hi, rfl, hx⟩ := hrel
    by_cases hlt : i < l.length
    · obtain ⟨ba, oa, rfl, hba, hca⟩ := h4 (by omega)
      obtain ⟨bb, ob, rfl, hbb, hcb⟩ := k4 (by omega)
      obtain ⟨k, g, q, z, hg, xa1, xa2, xa3, xa4, _, _, _⟩ := hca i hlt
      obtain ⟨k', g', q', z', hg', xb1, xb2, xb3, xb4, _, _, _⟩ := hcb i hlt
      rw [hg] at hg'
      injection hg' with hg'
      injection hg' with e1 e2 e3 e4
      subst e1 e2 e3 e4
      have hia : (i : Int) < l.length := by omega
      have hz0 : ∀ x : Nat, (0 : Int) ≤ (x : Int) := fun x => by omega
      have HA := Lib.hid (And.intro xa1 (And.intro xa2 (And.intro xa3 xa4)))
      have HB := Lib.hid (And.intro xb1 (And.intro xb2 (And.intro xb3 xb4)))
      clear hca hcb h4 k4 hg xa1 xa2 xa3 xa4 xb1 xb2 xb3 xb4
      go_wp2_with fail
      refine wp_region_mono (by kernel_rfl) (by kernel_rfl) ?_
      refine tele_move rfl (.inl rfl) rfl (isV (.slice (some ⟨ba, oa, none⟩) l.length c)) (fun ρ w' h => h) ?_
      refine tele_move rfl (.inl rfl) rfl (isV (.int .i64 (i : Int))) (fun ρ w' h => h) ?_
      refine tele_val rfl (.pointer (some ⟨ba, oa + i * 4, none⟩)) (fun _ _ _ => rfl) ?_ ?_
      · rintro ρ w' he ⟨h17, h18, -⟩
        have e17 : ρ 17 = .slice (some ⟨ba, oa, none⟩) l.length c := h17
        have e18 : ρ 18 = .int .i64 (i : Int) := h18
        exact index_at 4 rfl Tryd.underlying30 e17 e18 (by omega) (by kernel_rfl)
      refine tele_val rfl (.agg #[strV k, .int .i64 g, .bool q, strV z]) (fun _ _ _ => rfl) ?_ ?_
      · rintro ρ w' he ⟨h19, -⟩
        have e19 : ρ 19 = .pointer (some ⟨ba, oa + i * 4, none⟩) := h19
        have c0 := ((hx.trans he).cell (p := ⟨ba, oa + i * 4, none⟩) hba).trans HA.out.1
        have c1 := ((hx.trans he).cell (p := ⟨ba, oa + i * 4 + 1, none⟩) hba).trans HA.out.2.1
        have c2 := ((hx.trans he).cell (p := ⟨ba, oa + i * 4 + 2, none⟩) hba).trans HA.out.2.2.1
        have c3 := ((hx.trans he).cell (p := ⟨ba, oa + i * 4 + 3, none⟩) hba).trans HA.out.2.2.2
        simp [execOp, evR, e19, c0, c1, c2, c3, go_sem]
      refine tele_move rfl (.inl rfl) rfl (isV (.slice (some ⟨bb, ob, none⟩) l.length d)) (fun ρ w' h => h) ?_
      refine tele_move rfl (.inl rfl) rfl (isV (.int .i64 (i : Int))) (fun ρ w' h => h) ?_
      refine tele_val rfl (.pointer (some ⟨bb, ob + i * 4, none⟩)) (fun _ _ _ => rfl) ?_ ?_
      · rintro ρ w' he ⟨h21, h22, -⟩
        have e21 : ρ 21 = .slice (some ⟨bb, ob, none⟩) l.length d := h21
        have e22 : ρ 22 = .int .i64 (i : Int) := h22
        exact index_at 4 rfl Tryd.underlying30 e21 e22 (by omega) (by kernel_rfl)
      refine tele_val rfl (.agg #[strV k, .int .i64 g, .bool q, strV z]) (fun _ _ _ => rfl) ?_ ?_
      · rintro ρ w' he ⟨h23, -⟩
        have e23 : ρ 23 = .pointer (some ⟨bb, ob + i * 4, none⟩) := h23
        have c0 := ((hx.trans he).cell (p := ⟨bb, ob + i * 4, none⟩) hbb).trans HB.out.1
        have c1 := ((hx.trans he).cell (p := ⟨bb, ob + i * 4 + 1, none⟩) hbb).trans HB.out.2.1
        have c2 := ((hx.trans he).cell (p := ⟨bb, ob + i * 4 + 2, none⟩) hbb).trans HB.out.2.2.1
        have c3 := ((hx.trans he).cell (p := ⟨bb, ob + i * 4 + 3, none⟩) hbb).trans HB.out.2.2.2
        simp [execOp, evR, e23, c0, c1, c2, c3, go_sem]
      refine tele_val rfl (.bool false) (fun _ _ _ => rfl) ?_ ?_
      · rintro ρ w' he ⟨h20, h24, -⟩
        have e20 : ρ 20 = .agg #[strV k, .int .i64 g, .bool q, strV z] := h20
        have e24 : ρ 24 = .agg #[strV k, .int .i64 g, .bool q, strV z] := h24
        unfold strV at e20 e24
        simp [execOp, evR, e20, e24, go_sem]
      refine tele_nil ?_
      rintro ρ w' hext ⟨f25, f24, f23, f22, f21, f20, f19, f18, f17, -⟩
      clear f17
      clear f18
      clear f19
      clear f20
      clear f21
      clear f22
      clear f23
      clear f24
      replace f25 : ρ 25 = .bool false := f25
      simp only [puts, Act.put, List.setIfInBounds_toArray, List.set_cons_zero, List.set_cons_succ]
      rw [f25]
      clear f25
      go_wp2_with fail
      go_roundw
      case rel => exact ⟨i + 1, by omega, by go_num, Ext.trans hx hext⟩
      case measure => simp [intOf]; omega
    · clear h4 k4
      go_wp2_with fail
      go_ret
      exact ⟨rfl, hx⟩

set_option maxHeartbeats 2000000 in
theorem chSame_any (site seq sn ss va vb : Int) (v1 v2 : Value) (ws : List Wr) (w : World) (h1 : Ws w v1 ws) (h2 : Ws w v2 ws) :
    Calls Tryd.prog 11 #[chV ⟨site, seq, sn, ss, va, vb, ws⟩ v1, chV ⟨site, seq, sn, ss, va, vb, ws⟩ v2] w fun e w' => e = .returned (.bool true) ∧ Ext w w' := by
  have HS := Lib.hid (fun w a b => wsSame_any v1 v2 ws w a b)
  unfold chV
  dsimp only
  obtain ⟨A1, c1, rfl, _⟩ := h1.at_
  obtain ⟨A2, c2, rfl, _⟩ := h2.at_
  go_enter Tryd.func11, Tryd.ntmps11
  go_upto_region 1 with (fail)
  have ba := Blk.new w #[.int .i64 site, .int .i64 seq, .int .i64 sn, .int .i64 ss, .int .i64 va, .int .i64 vb, .slice A1 ws.length c1] 32
  have bb := Blk.new (w.alloc (.cells #[.int .i64 site, .int .i64 seq, .int .i64 sn, .int .i64 ss, .int .i64 va, .int .i64 vb, .slice A1 ws.length c1] 32)) #[.int .i64 site, .int .i64 seq, .int .i64 sn, .int .i64 ss, .int .i64 va, .int .i64 vb, .slice A2 ws.length c2] 32
  replace ba := ba.ext (ext_alloc _ (.cells #[.int .i64 site, .int .i64 seq, .int .i64 sn, .int .i64 ss, .int .i64 va, .int .i64 vb, .slice A2 ws.length c2] 32))
  have hx := Ext.trans (ext_alloc w (.cells #[.int .i64 site, .int .i64 seq, .int .i64 sn, .int .i64 ss, .int .i64 va, .int .i64 vb, .slice A1 ws.length c1] 32)) (ext_alloc _ (.cells #[.int .i64 site, .int .i64 seq, .int .i64 sn, .int .i64 ss, .int .i64 va, .int .i64 vb, .slice A2 ws.length c2] 32))
  simp only [World.size_alloc] at bb
  obtain ⟨na, hna⟩ : ∃ n, n = w.heap.size := ⟨_, rfl⟩
  obtain ⟨nb, hnb⟩ : ∃ n, n = w.heap.size + 1 := ⟨_, rfl⟩
  rw [← hna] at ba
  rw [← hnb] at bb
  rw [← hnb, ← hna]
  clear hna hnb
  generalize (w.alloc (.cells #[.int .i64 site, .int .i64 seq, .int .i64 sn, .int .i64 ss, .int .i64 va, .int .i64 vb, .slice A1 ws.length c1] 32)).alloc (.cells #[.int .i64 site, .int .i64 seq, .int .i64 sn, .int .i64 ss, .int .i64 va, .int .i64 vb, .slice A2 ws.length c2] 32) = W at *
  refine wp_region_seq (by kernel_rfl) ?_
  refine tele_val rfl (.pointer (some ⟨na, 0, none⟩)) (fun _ _ _ => rfl) ?_ ?_
  · rintro ρ w' he ⟨h2, -⟩
    have e2 : ρ 2 = .pointer (some ⟨na, 0, none⟩) := h2
    simp [execOp, evR, e2, go_sem]
  refine tele_val rfl (.int .i64 site) (fun _ _ _ => rfl) ?_ ?_
  · rintro ρ w' he ⟨h5, -⟩
    have e5 : ρ 5 = .pointer (some ⟨na, 0, none⟩) := h5
    have c0 := (ba.ext he).cell (i := 0) rfl
    simp [execOp, evR, e5, c0, go_sem]
  refine tele_val rfl (.pointer (some ⟨nb, 0, none⟩)) (fun _ _ _ => rfl) ?_ ?_
  · rintro ρ w' he ⟨h3, -⟩
    have e3 : ρ 3 = .pointer (some ⟨nb, 0, none⟩) := h3
    simp [execOp, evR, e3, go_sem]
  refine tele_val rfl (.int .i64 site) (fun _ _ _ => rfl) ?_ ?_
  · rintro ρ w' he ⟨h7, -⟩
    have e7 : ρ 7 = .pointer (some ⟨nb, 0, none⟩) := h7
    have c0 := (bb.ext he).cell (i := 0) rfl
    simp [execOp, evR, e7, c0, go_sem]
  refine tele_val rfl (.bool true) (fun _ _ _ => rfl) ?_ ?_
  · rintro ρ w' he ⟨h6, h8, -⟩
    have e6 : ρ 6 = .int .i64 site := h6
    have e8 : ρ 8 = .int .i64 site := h8
    simp [execOp, evR, e6, e8, go_sem]
  refine tele_move rfl (.inl rfl) rfl (isV (.bool true)) (fun ρ w' h => h) ?_
  refine tele_val rfl (.pointer (some ⟨na, 1, none⟩)) (fun ρ w' hk => by obtain ⟨_, hg, -⟩ := hk; have eg : ρ 10 = .bool true := hg; simp [wantedR, Region.wanted, asBoolR, eg]) ?_ ?_
  · rintro ρ w' he ⟨h2, hgd, -⟩
    have e2 : ρ 2 = .pointer (some ⟨na, 0, none⟩) := h2
    simp [execOp, evR, e2, go_sem]
  refine tele_val rfl (.int .i64 seq) (fun ρ w' hk => by obtain ⟨_, hg, -⟩ := hk; have eg : ρ 10 = .bool true := hg; simp [wantedR, Region.wanted, asBoolR, eg]) ?_ ?_
  · rintro ρ w' he ⟨h11, hgd, -⟩
    have e11 : ρ 11 = .pointer (some ⟨na, 1, none⟩) := h11
    have c0 := (ba.ext he).cell (i := 1) rfl
    simp [execOp, evR, e11, c0, go_sem]
  refine tele_val rfl (.pointer (some ⟨nb, 1, none⟩)) (fun ρ w' hk => by obtain ⟨_, hg, -⟩ := hk; have eg : ρ 10 = .bool true := hg; simp [wantedR, Region.wanted, asBoolR, eg]) ?_ ?_
  · rintro ρ w' he ⟨h3, hgd, -⟩
    have e3 : ρ 3 = .pointer (some ⟨nb, 0, none⟩) := h3
    simp [execOp, evR, e3, go_sem]
  refine tele_val rfl (.int .i64 seq) (fun ρ w' hk => by obtain ⟨_, hg, -⟩ := hk; have eg : ρ 10 = .bool true := hg; simp [wantedR, Region.wanted, asBoolR, eg]) ?_ ?_
  · rintro ρ w' he ⟨h13, hgd, -⟩
    have e13 : ρ 13 = .pointer (some ⟨nb, 1, none⟩) := h13
    have c0 := (bb.ext he).cell (i := 1) rfl
    simp [execOp, evR, e13, c0, go_sem]
  refine tele_val rfl (.bool true) (fun ρ w' hk => by obtain ⟨_, _, hg, -⟩ := hk; have eg : ρ 10 = .bool true := hg; simp [wantedR, Region.wanted, asBoolR, eg]) ?_ ?_
  · rintro ρ w' he ⟨h12, h14, hgd, -⟩
    have e12 : ρ 12 = .int .i64 seq := h12
    have e14 : ρ 14 = .int .i64 seq := h14
    simp [execOp, evR, e12, e14, go_sem]
  refine tele_val rfl (.bool true) (fun _ _ _ => rfl) ?_ ?_
  · rintro ρ w' he ⟨h10, h15, -⟩
    have e10 : ρ 10 = .bool true := h10
    have e15 : ρ 15 = .bool true := h15
    simp [execOp, evR, e10, e15, go_sem]
  refine tele_move rfl (.inl rfl) rfl (isV (.bool true)) (fun ρ w' h => h) ?_
  refine tele_val rfl (.pointer (some ⟨na, 2, none⟩)) (fun ρ w' hk => by obtain ⟨_, hg, -⟩ := hk; have eg : ρ 17 = .bool true := hg; simp [wantedR, Region.wanted, asBoolR, eg]) ?_ ?_
  · rintro ρ w' he ⟨h2, hgd, -⟩
    have e2 : ρ 2 = .pointer (some ⟨na, 0, none⟩) := h2
    simp [execOp, evR, e2, go_sem]
  refine tele_val rfl (.agg #[.int .i64 sn, .int .i64 ss]) (fun ρ w' hk => by obtain ⟨_, hg, -⟩ := hk; have eg : ρ 17 = .bool true := hg; simp [wantedR, Region.wanted, asBoolR, eg]) ?_ ?_
  · rintro ρ w' he ⟨h18, hgd, -⟩
    have e18 : ρ 18 = .pointer (some ⟨na, 2, none⟩) := h18
    have c0 := (ba.ext he).cell (i := 2) rfl
    have c1 := (ba.ext he).cell (i := 3) rfl
    simp [execOp, evR, e18, c0, c1, go_sem]
  refine tele_val rfl (.pointer (some ⟨nb, 2, none⟩)) (fun ρ w' hk => by obtain ⟨_, hg, -⟩ := hk; have eg : ρ 17 = .bool true := hg; simp [wantedR, Region.wanted, asBoolR, eg]) ?_ ?_
  · rintro ρ w' he ⟨h3, hgd, -⟩
    have e3 : ρ 3 = .pointer (some ⟨nb, 0, none⟩) := h3
    simp [execOp, evR, e3, go_sem]
  refine tele_val rfl (.agg #[.int .i64 sn, .int .i64 ss]) (fun ρ w' hk => by obtain ⟨_, hg, -⟩ := hk; have eg : ρ 17 = .bool true := hg; simp [wantedR, Region.wanted, asBoolR, eg]) ?_ ?_
  · rintro ρ w' he ⟨h20, hgd, -⟩
    have e20 : ρ 20 = .pointer (some ⟨nb, 2, none⟩) := h20
    have c0 := (bb.ext he).cell (i := 2) rfl
    have c1 := (bb.ext he).cell (i := 3) rfl
    simp [execOp, evR, e20, c0, c1, go_sem]
  refine tele_val rfl (.bool true) (fun ρ w' hk => by obtain ⟨_, _, hg, -⟩ := hk; have eg : ρ 17 = .bool true := hg; simp [wantedR, Region.wanted, asBoolR, eg]) ?_ ?_
  · rintro ρ w' he ⟨h19, h21, hgd, -⟩
    have e19 : ρ 19 = .agg #[.int .i64 sn, .int .i64 ss] := h19
    have e21 : ρ 21 = .agg #[.int .i64 sn, .int .i64 ss] := h21
    simp [execOp, evR, e19, e21, go_sem]
  refine tele_val rfl (.bool true) (fun _ _ _ => rfl) ?_ ?_
  · rintro ρ w' he ⟨h17, h22, -⟩
    have e17 : ρ 17 = .bool true := h17
    have e22 : ρ 22 = .bool true := h22
    simp [execOp, evR, e17, e22, go_sem]
  refine tele_move rfl (.inl rfl) rfl (isV (.bool true)) (fun ρ w' h => h) ?_
  refine tele_val rfl (.pointer (some ⟨na, 4, none⟩)) (fun ρ w' hk => by obtain ⟨_, hg, -⟩ := hk; have eg : ρ 24 = .bool true := hg; simp [wantedR, Region.wanted, asBoolR, eg]) ?_ ?_
  · rintro ρ w' he ⟨h2, hgd, -⟩
    have e2 : ρ 2 = .pointer (some ⟨na, 0, none⟩) := h2
    simp [execOp, evR, e2, go_sem]
  refine tele_val rfl (.agg #[.int .i64 va, .int .i64 vb]) (fun ρ w' hk => by obtain ⟨_, hg, -⟩ := hk; have eg : ρ 24 = .bool true := hg; simp [wantedR, Region.wanted, asBoolR, eg]) ?_ ?_
  · rintro ρ w' he ⟨h25, hgd, -⟩
    have e25 : ρ 25 = .pointer (some ⟨na, 4, none⟩) := h25
    have c0 := (ba.ext he).cell (i := 4) rfl
    have c1 := (ba.ext he).cell (i := 5) rfl
    simp [execOp, evR, e25, c0, c1, go_sem]
  refine tele_val rfl (.pointer (some ⟨nb, 4, none⟩)) (fun ρ w' hk => by obtain ⟨_, hg, -⟩ := hk; have eg : ρ 24 = .bool true := hg; simp [wantedR, Region.wanted, asBoolR, eg]) ?_ ?_
  · rintro ρ w' he ⟨h3, hgd, -⟩
    have e3 : ρ 3 = .pointer (some ⟨nb, 0, none⟩) := h3
    simp [execOp, evR, e3, go_sem]
  refine tele_val rfl (.agg #[.int .i64 va, .int .i64 vb]) (fun ρ w' hk => by obtain ⟨_, hg, -⟩ := hk; have eg : ρ 24 = .bool true := hg; simp [wantedR, Region.wanted, asBoolR, eg]) ?_ ?_
  · rintro ρ w' he ⟨h27, hgd, -⟩
    have e27 : ρ 27 = .pointer (some ⟨nb, 4, none⟩) := h27
    have c0 := (bb.ext he).cell (i := 4) rfl
    have c1 := (bb.ext he).cell (i := 5) rfl
    simp [execOp, evR, e27, c0, c1, go_sem]
  refine tele_val rfl (.bool true) (fun ρ w' hk => by obtain ⟨_, _, hg, -⟩ := hk; have eg : ρ 24 = .bool true := hg; simp [wantedR, Region.wanted, asBoolR, eg]) ?_ ?_
  · rintro ρ w' he ⟨h26, h28, hgd, -⟩
    have e26 : ρ 26 = .agg #[.int .i64 va, .int .i64 vb] := h26
    have e28 : ρ 28 = .agg #[.int .i64 va, .int .i64 vb] := h28
    simp [execOp, evR, e26, e28, go_sem]
  refine tele_val rfl (.bool true) (fun _ _ _ => rfl) ?_ ?_
  · rintro ρ w' he ⟨h24, h29, -⟩
    have e24 : ρ 24 = .bool true := h24
    have e29 : ρ 29 = .bool true := h29
    simp [execOp, evR, e24, e29, go_sem]
  refine tele_move rfl (.inl rfl) rfl (isV (.bool true)) (fun ρ w' h => h) ?_
  refine tele_val rfl (.pointer (some ⟨na, 6, none⟩)) (fun ρ w' hk => by obtain ⟨_, hg, -⟩ := hk; have eg : ρ 31 = .bool true := hg; simp [wantedR, Region.wanted, asBoolR, eg]) ?_ ?_
  · rintro ρ w' he ⟨h2, hgd, -⟩
    have e2 : ρ 2 = .pointer (some ⟨na, 0, none⟩) := h2
    simp [execOp, evR, e2, go_sem]
  refine tele_val rfl (.slice A1 ws.length c1) (fun ρ w' hk => by obtain ⟨_, hg, -⟩ := hk; have eg : ρ 31 = .bool true := hg; simp [wantedR, Region.wanted, asBoolR, eg]) ?_ ?_
  · rintro ρ w' he ⟨h32, hgd, -⟩
    have e32 : ρ 32 = .pointer (some ⟨na, 6, none⟩) := h32
    have c0 := (ba.ext he).cell (i := 6) rfl
    simp [execOp, evR, e32, c0, go_sem]
  refine tele_val rfl (.pointer (some ⟨nb, 6, none⟩)) (fun ρ w' hk => by obtain ⟨_, hg, -⟩ := hk; have eg : ρ 31 = .bool true := hg; simp [wantedR, Region.wanted, asBoolR, eg]) ?_ ?_
  · rintro ρ w' he ⟨h3, hgd, -⟩
    have e3 : ρ 3 = .pointer (some ⟨nb, 0, none⟩) := h3
    simp [execOp, evR, e3, go_sem]
  refine tele_val rfl (.slice A2 ws.length c2) (fun ρ w' hk => by obtain ⟨_, hg, -⟩ := hk; have eg : ρ 31 = .bool true := hg; simp [wantedR, Region.wanted, asBoolR, eg]) ?_ ?_
  · rintro ρ w' he ⟨h34, hgd, -⟩
    have e34 : ρ 34 = .pointer (some ⟨nb, 6, none⟩) := h34
    have c0 := (bb.ext he).cell (i := 6) rfl
    simp [execOp, evR, e34, c0, go_sem]
  refine tele_call rfl rfl Tryd.func29 (by kernel_rfl) (isV (.bool true)) (fun ρ w' hk => by obtain ⟨_, _, hg, -⟩ := hk; have eg : ρ 31 = .bool true := hg; simp [wantedR, Region.wanted, asBoolR, eg]) ?_ ?_
  · rintro ρ w' he ⟨h33, h35, hgd, -⟩
    have e33 : ρ 33 = .slice A1 ws.length c1 := h33
    have e35 : ρ 35 = .slice A2 ws.length c2 := h35
    simp only [evR, List.map_toArray, List.map_cons, List.map_nil, e33, e35]
    refine (HS.out _ (h1.ext (hx.trans he)) (h2.ext (hx.trans he))).mono ?_
    rintro e w'' ⟨rfl, hx⟩
    exact ⟨_, rfl, hx, rfl⟩
  refine tele_val rfl (.bool true) (fun _ _ _ => rfl) ?_ ?_
  · rintro ρ w' he ⟨h31, h36, -⟩
    have e31 : ρ 31 = .bool true := h31
    have e36 : ρ 36 = .bool true := h36
    simp [execOp, evR, e31, e36, go_sem]
  refine tele_move rfl (.inr rfl) rfl (isV (.bool true)) (fun ρ w' h => h) ?_
  refine tele_nil ?_
  rintro ρ w' hext ⟨f4, f37, f36, f35, f34, f33, f32, f31, f30, f29, f28, f27, f26, f25, f24, f23, f22, f21, f20, f19, f18, f17, f16, f15, f14, f13, f12, f11, f10, f9, f8, f7, f6, f5, -⟩
  clear f5
  clear f6
  clear f7
  clear f8
  clear f9
  clear f10
  clear f11
  clear f12
  clear f13
  clear f14
  clear f15
  clear f16
  clear f17
  clear f18
  clear f19
  clear f20
  clear f21
  clear f22
  clear f23
  clear f24
  clear f25
  clear f26
  clear f27
  clear f28
  clear f29
  clear f30
  clear f31
  clear f32
  clear f33
  clear f34
  clear f35
  clear f36
  clear f37
  replace f4 : ρ 4 = .bool true := f4
  simp only [puts, Act.put, List.setIfInBounds_toArray, List.set_cons_zero, List.set_cons_succ]
  rw [f4]
  clear f4
  go_wp2_with fail
  go_ret
  exact ⟨rfl, Ext.trans hx hext⟩


set_option maxHeartbeats 4000000 in
theorem chAll_any (va vb : Value) (la lb : List (Ch × Value)) (w : World) (ha : Cs w va la) (hb : Cs w vb lb) (he : la.map (·.1) = lb.map (·.1)) :
    Calls Tryd.prog 12 #[va, vb] w fun e w' => e = .returned (.bool true) ∧ Ext w w' := by
  have hlen : la.length = lb.length := by simpa using congrArg List.length he
  have HE := Lib.hid he
  obtain ⟨A1, c1, rfl, k1, k2, k3, k4⟩ := ha.at_
  obtain ⟨A2, c2, rfl, j1, j2, j3, j4⟩ := hb.at_
  rw [← hlen] at j1 j4 ⊢
  have H4 := Lib.hid k4
  have J4 := Lib.hid j4
  clear k4 j4 ha hb he hlen
  go_enter Tryd.func12, Tryd.ntmps12
  go_wp2_with fail
  go_loopw [5] (fun i wr => ∃ k : Nat, k ≤ la.length ∧ i = .int .i64 k ∧ Ext w wr) (fun i _ => la.length - (intOf i).toNat)
  case atStart => exact ⟨0, Nat.zero_le _, rfl, Ext.refl _⟩
  case round =>
    obtain ⟨k, hk, rfl, hx⟩ := hrel
    by_cases hlt : k < la.length
    · obtain ⟨b1, o1, rfl, hb1, hc1⟩ := H4.out (by omega)
      obtain ⟨site, seq, sn, ss, va, vb, ws, vw, hget, hws, hin, p0, p1, p2, p3, p4, p5, p6⟩ := hc1 k hlt
      obtain ⟨b2, o2, rfl, hb2, hc2⟩ := J4.out (by omega)
      obtain ⟨site', seq', sn', ss', va', vb', ws', vw', hget', hws', hin', q0, q1, q2, q3, q4, q5, q6⟩ := hc2 k hlt
      have hsame : (⟨site, seq, sn, ss, va, vb, ws⟩ : Ch) = ⟨site', seq', sn', ss', va', vb', ws'⟩ := by
        have := congrArg (fun l => l[k]?) HE.out
        simp only [List.getElem?_map, hget, hget', Option.map_some] at this
        injection this
      injection hsame with a1 a2 a3 a4 a5 a6 a7
      subst a1 a2 a3 a4 a5 a6 a7
      have HC1 := Lib.hid hc1
      have HC2 := Lib.hid hc2
      clear hc1 hc2 hget hget' hin hin'
      go_wp2_with fail
      refine wp_region_mono (by kernel_rfl) (by kernel_rfl) ?_
      refine tele_move rfl (.inl rfl) rfl (isV (.slice (some ⟨b1, o1, none⟩) la.length c1)) (fun ρ w' h => h) ?_
      refine tele_move rfl (.inl rfl) rfl (isV (.int .i64 (k : Int))) (fun ρ w' h => h) ?_
      refine tele_val rfl (.pointer (some ⟨b1, o1 + k * 7, none⟩)) (fun _ _ _ => rfl) ?_ ?_
      · rintro ρ w' he ⟨h17, h18, -⟩
        have e17 : ρ 17 = .slice (some ⟨b1, o1, none⟩) la.length c1 := h17
        have e18 : ρ 18 = .int .i64 (k : Int) := h18
        exact index_at 7 rfl Tryd.underlying22 e17 e18 (by omega) (by kernel_rfl)
      refine tele_val rfl (chV ⟨site, seq, sn, ss, va, vb, ws⟩ vw) (fun _ _ _ => rfl) ?_ ?_
      · rintro ρ w' he ⟨h19, -⟩
        have e19 : ρ 19 = .pointer (some ⟨b1, o1 + k * 7, none⟩) := h19
        have c0 := ((hx.trans he).cell (p := ⟨b1, o1 + k * 7, none⟩) hb1).trans p0
        have c1 := ((hx.trans he).cell (p := ⟨b1, o1 + k * 7 + 1, none⟩) hb1).trans p1
        have c2 := ((hx.trans he).cell (p := ⟨b1, o1 + k * 7 + 2, none⟩) hb1).trans p2
        have c3 := ((hx.trans he).cell (p := ⟨b1, o1 + k * 7 + 3, none⟩) hb1).trans p3
        have c4 := ((hx.trans he).cell (p := ⟨b1, o1 + k * 7 + 4, none⟩) hb1).trans p4
        have c5 := ((hx.trans he).cell (p := ⟨b1, o1 + k * 7 + 5, none⟩) hb1).trans p5
        have c6 := ((hx.trans he).cell (p := ⟨b1, o1 + k * 7 + 6, none⟩) hb1).trans p6
        simp [execOp, evR, e19, c0, c1, c2, c3, c4, c5, c6, chV, go_sem]
      refine tele_move rfl (.inl rfl) rfl (isV (.slice (some ⟨b2, o2, none⟩) la.length c2)) (fun ρ w' h => h) ?_
      refine tele_move rfl (.inl rfl) rfl (isV (.int .i64 (k : Int))) (fun ρ w' h => h) ?_
      refine tele_val rfl (.pointer (some ⟨b2, o2 + k * 7, none⟩)) (fun _ _ _ => rfl) ?_ ?_
      · rintro ρ w' he ⟨h21, h22, -⟩
        have e21 : ρ 21 = .slice (some ⟨b2, o2, none⟩) la.length c2 := h21
        have e22 : ρ 22 = .int .i64 (k : Int) := h22
        exact index_at 7 rfl Tryd.underlying22 e21 e22 (by omega) (by kernel_rfl)
      refine tele_val rfl (chV ⟨site, seq, sn, ss, va, vb, ws⟩ vw') (fun _ _ _ => rfl) ?_ ?_
      · rintro ρ w' he ⟨h23, -⟩
        have e23 : ρ 23 = .pointer (some ⟨b2, o2 + k * 7, none⟩) := h23
        have c0 := ((hx.trans he).cell (p := ⟨b2, o2 + k * 7, none⟩) hb2).trans q0
        have c1 := ((hx.trans he).cell (p := ⟨b2, o2 + k * 7 + 1, none⟩) hb2).trans q1
        have c2 := ((hx.trans he).cell (p := ⟨b2, o2 + k * 7 + 2, none⟩) hb2).trans q2
        have c3 := ((hx.trans he).cell (p := ⟨b2, o2 + k * 7 + 3, none⟩) hb2).trans q3
        have c4 := ((hx.trans he).cell (p := ⟨b2, o2 + k * 7 + 4, none⟩) hb2).trans q4
        have c5 := ((hx.trans he).cell (p := ⟨b2, o2 + k * 7 + 5, none⟩) hb2).trans q5
        have c6 := ((hx.trans he).cell (p := ⟨b2, o2 + k * 7 + 6, none⟩) hb2).trans q6
        simp [execOp, evR, e23, c0, c1, c2, c3, c4, c5, c6, chV, go_sem]
      refine tele_call rfl rfl Tryd.func11 (by kernel_rfl) (isV (.bool true)) (fun _ _ _ => rfl) ?_ ?_
      · rintro ρ w' he ⟨h20, h24, -⟩
        have e20 : ρ 20 = chV ⟨site, seq, sn, ss, va, vb, ws⟩ vw := h20
        have e24 : ρ 24 = chV ⟨site, seq, sn, ss, va, vb, ws⟩ vw' := h24
        simp only [evR, List.map_toArray, List.map_cons, List.map_nil, e20, e24]
        refine (chSame_any site seq sn ss va vb vw vw' ws w' (hws.ext (hx.trans he)) (hws'.ext (hx.trans he))).mono ?_
        rintro e w'' ⟨rfl, h'⟩
        exact ⟨_, rfl, h', rfl⟩
      refine tele_val rfl (.bool false) (fun _ _ _ => rfl) ?_ ?_
      · rintro ρ w' he ⟨h25, -⟩
        have e25 : ρ 25 = .bool true := h25
        simp [execOp, evR, e25, go_sem]
      refine tele_nil ?_
      rintro ρ w' hext ⟨f26, -⟩
      replace f26 : ρ 26 = .bool false := f26
      simp only [puts, Act.put, List.setIfInBounds_toArray, List.set_cons_zero, List.set_cons_succ]
      rw [f26]
      clear f26
      go_wp2_with fail
      go_roundw
      case rel => exact ⟨k + 1, by omega, by simp, hx.trans hext⟩
      case measure => simp [intOf]; omega
    · go_wp2_with fail
      go_ret
      exact ⟨rfl, hx⟩
end Go.Proofs.YtacabcpjaadijaaDoor
