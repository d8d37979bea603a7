/-
  Layer 12: the laws' helpers: light, the example, what is the very same.
-/
import Derived.Test.YtocdifjdeifclaaChPut
import Derived.Deep.Cut
namespace Go.Proofs.Ytocdifjdeifclaa
open Go Go.RowKit Mono Num
set_option linter.unusedVariables false
set_option linter.unusedSimpArgs false
set_option maxRecDepth 10000

set_option maxHeartbeats 2000000 in
theorem wsSame_any (va vb : Value) (l : List Wr) (w : World) (ha : Ws w va l) (hb : Ws w vb l) :
    Calls Try.prog 25 #[va, vb] w fun e w' => e = .returned (.bool true) ∧ Ext w w' := by
  obtain ⟨A, c, rfl, h1, h2, h3, h4⟩ := ha.at_
  obtain ⟨B, d, rfl, k1, k2, k3, k4⟩ := hb.at_
  have hl2 : (((l.length : Nat) : Int) != ((l.length : Nat) : Int)) = false := by simp
  go_enter Try.func25, Try.ntmps25
  go_wp2_with fail
  go_loopw [5] (fun i wr => ∃ k : Nat, k ≤ l.length ∧ i = .int .i64 k ∧ Ext w wr) (fun i _ => l.length - (intOf i).toNat)
  case atStart => exact ⟨0, Nat.zero_le _, rfl, Ext.refl _⟩
  case round =>
    obtain ⟨i, hi, rfl, hx⟩ := hrel
    by_cases hlt : i < l.length
    · obtain ⟨ba, oa, rfl, hba, hca⟩ := h4 (by omega)
      obtain ⟨bb, ob, rfl, hbb, hcb⟩ := k4 (by omega)
      obtain ⟨k, g, q, z, hg, xa1, xa2, xa3, xa4, _, _, _⟩ := hca i hlt
      obtain ⟨k', g', q', z', hg', xb1, xb2, xb3, xb4, _, _, _⟩ := hcb i hlt
      rw [hg] at hg'
      injection hg' with hg'
      injection hg' with e1 e2 e3 e4
      subst e1 e2 e3 e4
      have hia : (i : Int) < l.length := by omega
      have hz0 : ∀ x : Nat, (0 : Int) ≤ (x : Int) := fun x => by omega
      have HA := Lib.hid (And.intro xa1 (And.intro xa2 (And.intro xa3 xa4)))
      have HB := Lib.hid (And.intro xb1 (And.intro xb2 (And.intro xb3 xb4)))
      clear hca hcb h4 k4 hg xa1 xa2 xa3 xa4 xb1 xb2 xb3 xb4
      go_wp2_with fail
      refine wp_region_mono (by kernel_rfl) (by kernel_rfl) ?_
      refine tele_move rfl (.inl rfl) rfl (isV (.slice (some ⟨ba, oa, none⟩) l.length c)) (fun ρ w' h => h) ?_
      refine tele_move rfl (.inl rfl) rfl (isV (.int .i64 (i : Int))) (fun ρ w' h => h) ?_
      refine tele_val rfl (.pointer (some ⟨ba, oa + i * 4, none⟩)) (fun _ _ _ => rfl) ?_ ?_
      · rintro ρ w' he ⟨h17, h18, -⟩
        have e17 : ρ 17 = .slice (some ⟨ba, oa, none⟩) l.length c := h17
        have e18 : ρ 18 = .int .i64 (i : Int) := h18
        exact index_at 4 rfl Try.underlying27 e17 e18 (by omega) (by kernel_rfl)
      refine tele_val rfl (.agg #[strV k, .int .i64 g, .bool q, strV z]) (fun _ _ _ => rfl) ?_ ?_
      · rintro ρ w' he ⟨h19, -⟩
        have e19 : ρ 19 = .pointer (some ⟨ba, oa + i * 4, none⟩) := h19
        have c0 := ((hx.trans he).cell (p := ⟨ba, oa + i * 4, none⟩) hba).trans HA.out.1
        have c1 := ((hx.trans he).cell (p := ⟨ba, oa + i * 4 + 1, none⟩) hba).trans HA.out.2.1
        have c2 := ((hx.trans he).cell (p := ⟨ba, oa + i * 4 + 2, none⟩) hba).trans HA.out.2.2.1
        have c3 := ((hx.trans he).cell (p := ⟨ba, oa + i * 4 + 3, none⟩) hba).trans HA.out.2.2.2
        simp [execOp, evR, e19, c0, c1, c2, c3, go_sem]
      refine tele_move rfl (.inl rfl) rfl (isV (.slice (some ⟨bb, ob, none⟩) l.length d)) (fun ρ w' h => h) ?_
      refine tele_move rfl (.inl rfl) rfl (isV (.int .i64 (i : Int))) (fun ρ w' h => h) ?_
      refine tele_val rfl (.pointer (some ⟨bb, ob + i * 4, none⟩)) (fun _ _ _ => rfl) ?_ ?_
      · rintro ρ w' he ⟨h21, h22, -⟩
        have e21 : ρ 21 = .slice (some ⟨bb, ob, none⟩) l.length d := h21
        have e22 : ρ 22 = .int .i64 (i : Int) := h22
        exact index_at 4 rfl Try.underlying27 e21 e22 (by omega) (by kernel_rfl)
      refine tele_val rfl (.agg #[strV k, .int .i64 g, .bool q, strV z]) (fun _ _ _ => rfl) ?_ ?_
      · rintro ρ w' he ⟨h23, -⟩
        have e23 : ρ 23 = .pointer (some ⟨bb, ob + i * 4, none⟩) := h23
        have c0 := ((hx.trans he).cell (p := ⟨bb, ob + i * 4, none⟩) hbb).trans HB.out.1
        have c1 := ((hx.trans he).cell (p := ⟨bb, ob + i * 4 + 1, none⟩) hbb).trans HB.out.2.1
        have c2 := ((hx.trans he).cell (p := ⟨bb, ob + i * 4 + 2, none⟩) hbb).trans HB.out.2.2.1
        have c3 := ((hx.trans he).cell (p := ⟨bb, ob + i * 4 + 3, none⟩) hbb).trans HB.out.2.2.2
        simp [execOp, evR, e23, c0, c1, c2, c3, go_sem]
      refine tele_val rfl (.bool false) (fun _ _ _ => rfl) ?_ ?_
      · rintro ρ w' he ⟨h20, h24, -⟩
        have e20 : ρ 20 = .agg #[strV k, .int .i64 g, .bool q, strV z] := h20
        have e24 : ρ 24 = .agg #[strV k, .int .i64 g, .bool q, strV z] := h24
        unfold strV at e20 e24
        simp [execOp, evR, e20, e24, go_sem]
      refine tele_nil ?_
      rintro ρ w' hext ⟨f25, f24, f23, f22, f21, f20, f19, f18, f17, -⟩
      clear f17
      clear f18
      clear f19
      clear f20
      clear f21
      clear f22
      clear f23
      clear f24
      replace f25 : ρ 25 = .bool false := f25
      simp only [puts, Act.put, List.setIfInBounds_toArray, List.set_cons_zero, List.set_cons_succ]
      rw [f25]
      clear f25
      go_wp2_with fail
      go_roundw
      case rel => exact ⟨i + 1, by omega, by go_num, Ext.trans hx hext⟩
      case measure => simp [intOf]; omega
    · clear h4 k4
      go_wp2_with fail
      go_ret
      exact ⟨rfl, hx⟩

set_option maxHeartbeats 2000000 in
theorem chSame_any (site seq sn ss va vb : Int) (v1 v2 : Value) (ws : List Wr) (w : World) (h1 : Ws w v1 ws) (h2 : Ws w v2 ws) :
    Calls Try.prog 21 #[chV ⟨site, seq, sn, ss, va, vb, ws⟩ v1, chV ⟨site, seq, sn, ss, va, vb, ws⟩ v2] w fun e w' => e = .returned (.bool true) ∧ Ext w w' := by
  have HS := Lib.hid (fun w a b => wsSame_any v1 v2 ws w a b)
  unfold chV
  dsimp only
  obtain ⟨A1, c1, rfl, _⟩ := h1.at_
  obtain ⟨A2, c2, rfl, _⟩ := h2.at_
  go_enter Try.func21, Try.ntmps21
  go_upto_region 1 with (fail)
  have ba := Blk.new w #[.int .i64 site, .int .i64 seq, .int .i64 sn, .int .i64 ss, .int .i64 va, .int .i64 vb, .slice A1 ws.length c1] 29
  have bb := Blk.new (w.alloc (.cells #[.int .i64 site, .int .i64 seq, .int .i64 sn, .int .i64 ss, .int .i64 va, .int .i64 vb, .slice A1 ws.length c1] 29)) #[.int .i64 site, .int .i64 seq, .int .i64 sn, .int .i64 ss, .int .i64 va, .int .i64 vb, .slice A2 ws.length c2] 29
  replace ba := ba.ext (ext_alloc _ (.cells #[.int .i64 site, .int .i64 seq, .int .i64 sn, .int .i64 ss, .int .i64 va, .int .i64 vb, .slice A2 ws.length c2] 29))
  have hx := Ext.trans (ext_alloc w (.cells #[.int .i64 site, .int .i64 seq, .int .i64 sn, .int .i64 ss, .int .i64 va, .int .i64 vb, .slice A1 ws.length c1] 29)) (ext_alloc _ (.cells #[.int .i64 site, .int .i64 seq, .int .i64 sn, .int .i64 ss, .int .i64 va, .int .i64 vb, .slice A2 ws.length c2] 29))
  simp only [World.size_alloc] at bb
  obtain ⟨na, hna⟩ : ∃ n, n = w.heap.size := ⟨_, rfl⟩
  obtain ⟨nb, hnb⟩ : ∃ n, n = w.heap.size + 1 := ⟨_, rfl⟩
  rw [← hna] at ba
  rw [← hnb] at bb
  rw [← hnb, ← hna]
  clear hna hnb
  generalize (w.alloc (.cells #[.int .i64 site, .int .i64 seq, .int .i64 sn, .int .i64 ss, .int .i64 va, .int .i64 vb, .slice A1 ws.length c1] 29)).alloc (.cells #[.int .i64 site, .int .i64 seq, .int .i64 sn, .int .i64 ss, .int .i64 va, .int .i64 vb, .slice A2 ws.length c2] 29) = W at *
  refine wp_region_seq (by kernel_rfl) ?_
  refine tele_val rfl (.pointer (some ⟨na, 0, none⟩)) (fun _ _ _ => rfl) ?_ ?_
  · rintro ρ w' he ⟨h2, -⟩
    have e2 : ρ 2 = .pointer (some ⟨na, 0, none⟩) := h2
    simp [execOp, evR, e2, go_sem]
  refine tele_val rfl (.int .i64 site) (fun _ _ _ => rfl) ?_ ?_
  · rintro ρ w' he ⟨h5, -⟩
    have e5 : ρ 5 = .pointer (some ⟨na, 0, none⟩) := h5
    have c0 := (ba.ext he).cell (i := 0) rfl
    simp [execOp, evR, e5, c0, go_sem]
  refine tele_val rfl (.pointer (some ⟨nb, 0, none⟩)) (fun _ _ _ => rfl) ?_ ?_
  · rintro ρ w' he ⟨h3, -⟩
    have e3 : ρ 3 = .pointer (some ⟨nb, 0, none⟩) := h3
    simp [execOp, evR, e3, go_sem]
  refine tele_val rfl (.int .i64 site) (fun _ _ _ => rfl) ?_ ?_
  · rintro ρ w' he ⟨h7, -⟩
    have e7 : ρ 7 = .pointer (some ⟨nb, 0, none⟩) := h7
    have c0 := (bb.ext he).cell (i := 0) rfl
    simp [execOp, evR, e7, c0, go_sem]
  refine tele_val rfl (.bool true) (fun _ _ _ => rfl) ?_ ?_
  · rintro ρ w' he ⟨h6, h8, -⟩
    have e6 : ρ 6 = .int .i64 site := h6
    have e8 : ρ 8 = .int .i64 site := h8
    simp [execOp, evR, e6, e8, go_sem]
  refine tele_move rfl (.inl rfl) rfl (isV (.bool true)) (fun ρ w' h => h) ?_
  refine tele_val rfl (.pointer (some ⟨na, 1, none⟩)) (fun ρ w' hk => by obtain ⟨_, hg, -⟩ := hk; have eg : ρ 10 = .bool true := hg; simp [wantedR, Region.wanted, asBoolR, eg]) ?_ ?_
  · rintro ρ w' he ⟨h2, hgd, -⟩
    have e2 : ρ 2 = .pointer (some ⟨na, 0, none⟩) := h2
    simp [execOp, evR, e2, go_sem]
  refine tele_val rfl (.int .i64 seq) (fun ρ w' hk => by obtain ⟨_, hg, -⟩ := hk; have eg : ρ 10 = .bool true := hg; simp [wantedR, Region.wanted, asBoolR, eg]) ?_ ?_
  · rintro ρ w' he ⟨h11, hgd, -⟩
    have e11 : ρ 11 = .pointer (some ⟨na, 1, none⟩) := h11
    have c0 := (ba.ext he).cell (i := 1) rfl
    simp [execOp, evR, e11, c0, go_sem]
  refine tele_val rfl (.pointer (some ⟨nb, 1, none⟩)) (fun ρ w' hk => by obtain ⟨_, hg, -⟩ := hk; have eg : ρ 10 = .bool true := hg; simp [wantedR, Region.wanted, asBoolR, eg]) ?_ ?_
  · rintro ρ w' he ⟨h3, hgd, -⟩
    have e3 : ρ 3 = .pointer (some ⟨nb, 0, none⟩) := h3
    simp [execOp, evR, e3, go_sem]
  refine tele_val rfl (.int .i64 seq) (fun ρ w' hk => by obtain ⟨_, hg, -⟩ := hk; have eg : ρ 10 = .bool true := hg; simp [wantedR, Region.wanted, asBoolR, eg]) ?_ ?_
  · rintro ρ w' he ⟨h13, hgd, -⟩
    have e13 : ρ 13 = .pointer (some ⟨nb, 1, none⟩) := h13
    have c0 := (bb.ext he).cell (i := 1) rfl
    simp [execOp, evR, e13, c0, go_sem]
  refine tele_val rfl (.bool true) (fun ρ w' hk => by obtain ⟨_, _, hg, -⟩ := hk; have eg : ρ 10 = .bool true := hg; simp [wantedR, Region.wanted, asBoolR, eg]) ?_ ?_
  · rintro ρ w' he ⟨h12, h14, hgd, -⟩
    have e12 : ρ 12 = .int .i64 seq := h12
    have e14 : ρ 14 = .int .i64 seq := h14
    simp [execOp, evR, e12, e14, go_sem]
  refine tele_val rfl (.bool true) (fun _ _ _ => rfl) ?_ ?_
  · rintro ρ w' he ⟨h10, h15, -⟩
    have e10 : ρ 10 = .bool true := h10
    have e15 : ρ 15 = .bool true := h15
    simp [execOp, evR, e10, e15, go_sem]
  refine tele_move rfl (.inl rfl) rfl (isV (.bool true)) (fun ρ w' h => h) ?_
  refine tele_val rfl (.pointer (some ⟨na, 2, none⟩)) (fun ρ w' hk => by obtain ⟨_, hg, -⟩ := hk; have eg : ρ 17 = .bool true := hg; simp [wantedR, Region.wanted, asBoolR, eg]) ?_ ?_
  · rintro ρ w' he ⟨h2, hgd, -⟩
    have e2 : ρ 2 = .pointer (some ⟨na, 0, none⟩) := h2
    simp [execOp, evR, e2, go_sem]
  refine tele_val rfl (.agg #[.int .i64 sn, .int .i64 ss]) (fun ρ w' hk => by obtain ⟨_, hg, -⟩ := hk; have eg : ρ 17 = .bool true := hg; simp [wantedR, Region.wanted, asBoolR, eg]) ?_ ?_
  · rintro ρ w' he ⟨h18, hgd, -⟩
    have e18 : ρ 18 = .pointer (some ⟨na, 2, none⟩) := h18
    have c0 := (ba.ext he).cell (i := 2) rfl
    have c1 := (ba.ext he).cell (i := 3) rfl
    simp [execOp, evR, e18, c0, c1, go_sem]
  refine tele_val rfl (.pointer (some ⟨nb, 2, none⟩)) (fun ρ w' hk => by obtain ⟨_, hg, -⟩ := hk; have eg : ρ 17 = .bool true := hg; simp [wantedR, Region.wanted, asBoolR, eg]) ?_ ?_
  · rintro ρ w' he ⟨h3, hgd, -⟩
    have e3 : ρ 3 = .pointer (some ⟨nb, 0, none⟩) := h3
    simp [execOp, evR, e3, go_sem]
  refine tele_val rfl (.agg #[.int .i64 sn, .int .i64 ss]) (fun ρ w' hk => by obtain ⟨_, hg, -⟩ := hk; have eg : ρ 17 = .bool true := hg; simp [wantedR, Region.wanted, asBoolR, eg]) ?_ ?_
  · rintro ρ w' he ⟨h20, hgd, -⟩
    have e20 : ρ 20 = .pointer (some ⟨nb, 2, none⟩) := h20
    have c0 := (bb.ext he).cell (i := 2) rfl
    have c1 := (bb.ext he).cell (i := 3) rfl
    simp [execOp, evR, e20, c0, c1, go_sem]
  refine tele_val rfl (.bool true) (fun ρ w' hk => by obtain ⟨_, _, hg, -⟩ := hk; have eg : ρ 17 = .bool true := hg; simp [wantedR, Region.wanted, asBoolR, eg]) ?_ ?_
  · rintro ρ w' he ⟨h19, h21, hgd, -⟩
    have e19 : ρ 19 = .agg #[.int .i64 sn, .int .i64 ss] := h19
    have e21 : ρ 21 = .agg #[.int .i64 sn, .int .i64 ss] := h21
    simp [execOp, evR, e19, e21, go_sem]
  refine tele_val rfl (.bool true) (fun _ _ _ => rfl) ?_ ?_
  · rintro ρ w' he ⟨h17, h22, -⟩
    have e17 : ρ 17 = .bool true := h17
    have e22 : ρ 22 = .bool true := h22
    simp [execOp, evR, e17, e22, go_sem]
  refine tele_move rfl (.inl rfl) rfl (isV (.bool true)) (fun ρ w' h => h) ?_
  refine tele_val rfl (.pointer (some ⟨na, 4, none⟩)) (fun ρ w' hk => by obtain ⟨_, hg, -⟩ := hk; have eg : ρ 24 = .bool true := hg; simp [wantedR, Region.wanted, asBoolR, eg]) ?_ ?_
  · rintro ρ w' he ⟨h2, hgd, -⟩
    have e2 : ρ 2 = .pointer (some ⟨na, 0, none⟩) := h2
    simp [execOp, evR, e2, go_sem]
  refine tele_val rfl (.agg #[.int .i64 va, .int .i64 vb]) (fun ρ w' hk => by obtain ⟨_, hg, -⟩ := hk; have eg : ρ 24 = .bool true := hg; simp [wantedR, Region.wanted, asBoolR, eg]) ?_ ?_
  · rintro ρ w' he ⟨h25, hgd, -⟩
    have e25 : ρ 25 = .pointer (some ⟨na, 4, none⟩) := h25
    have c0 := (ba.ext he).cell (i := 4) rfl
    have c1 := (ba.ext he).cell (i := 5) rfl
    simp [execOp, evR, e25, c0, c1, go_sem]
  refine tele_val rfl (.pointer (some ⟨nb, 4, none⟩)) (fun ρ w' hk => by obtain ⟨_, hg, -⟩ := hk; have eg : ρ 24 = .bool true := hg; simp [wantedR, Region.wanted, asBoolR, eg]) ?_ ?_
  · rintro ρ w' he ⟨h3, hgd, -⟩
    have e3 : ρ 3 = .pointer (some ⟨nb, 0, none⟩) := h3
    simp [execOp, evR, e3, go_sem]
  refine tele_val rfl (.agg #[.int .i64 va, .int .i64 vb]) (fun ρ w' hk => by obtain ⟨_, hg, -⟩ := hk; have eg : ρ 24 = .bool true := hg; simp [wantedR, Region.wanted, asBoolR, eg]) ?_ ?_
  · rintro ρ w' he ⟨h27, hgd, -⟩
    have e27 : ρ 27 = .pointer (some ⟨nb, 4, none⟩) := h27
    have c0 := (bb.ext he).cell (i := 4) rfl
    have c1 := (bb.ext he).cell (i := 5) rfl
    simp [execOp, evR, e27, c0, c1, go_sem]
  refine tele_val rfl (.bool true) (fun ρ w' hk => by obtain ⟨_, _, hg, -⟩ := hk; have eg : ρ 24 = .bool true := hg; simp [wantedR, Region.wanted, asBoolR, eg]) ?_ ?_
  · rintro ρ w' he ⟨h26, h28, hgd, -⟩
    have e26 : ρ 26 = .agg #[.int .i64 va, .int .i64 vb] := h26
    have e28 : ρ 28 = .agg #[.int .i64 va, .int .i64 vb] := h28
    simp [execOp, evR, e26, e28, go_sem]
  refine tele_val rfl (.bool true) (fun _ _ _ => rfl) ?_ ?_
  · rintro ρ w' he ⟨h24, h29, -⟩
    have e24 : ρ 24 = .bool true := h24
    have e29 : ρ 29 = .bool true := h29
    simp [execOp, evR, e24, e29, go_sem]
  refine tele_move rfl (.inl rfl) rfl (isV (.bool true)) (fun ρ w' h => h) ?_
  refine tele_val rfl (.pointer (some ⟨na, 6, none⟩)) (fun ρ w' hk => by obtain ⟨_, hg, -⟩ := hk; have eg : ρ 31 = .bool true := hg; simp [wantedR, Region.wanted, asBoolR, eg]) ?_ ?_
  · rintro ρ w' he ⟨h2, hgd, -⟩
    have e2 : ρ 2 = .pointer (some ⟨na, 0, none⟩) := h2
    simp [execOp, evR, e2, go_sem]
  refine tele_val rfl (.slice A1 ws.length c1) (fun ρ w' hk => by obtain ⟨_, hg, -⟩ := hk; have eg : ρ 31 = .bool true := hg; simp [wantedR, Region.wanted, asBoolR, eg]) ?_ ?_
  · rintro ρ w' he ⟨h32, hgd, -⟩
    have e32 : ρ 32 = .pointer (some ⟨na, 6, none⟩) := h32
    have c0 := (ba.ext he).cell (i := 6) rfl
    simp [execOp, evR, e32, c0, go_sem]
  refine tele_val rfl (.pointer (some ⟨nb, 6, none⟩)) (fun ρ w' hk => by obtain ⟨_, hg, -⟩ := hk; have eg : ρ 31 = .bool true := hg; simp [wantedR, Region.wanted, asBoolR, eg]) ?_ ?_
  · rintro ρ w' he ⟨h3, hgd, -⟩
    have e3 : ρ 3 = .pointer (some ⟨nb, 0, none⟩) := h3
    simp [execOp, evR, e3, go_sem]
  refine tele_val rfl (.slice A2 ws.length c2) (fun ρ w' hk => by obtain ⟨_, hg, -⟩ := hk; have eg : ρ 31 = .bool true := hg; simp [wantedR, Region.wanted, asBoolR, eg]) ?_ ?_
  · rintro ρ w' he ⟨h34, hgd, -⟩
    have e34 : ρ 34 = .pointer (some ⟨nb, 6, none⟩) := h34
    have c0 := (bb.ext he).cell (i := 6) rfl
    simp [execOp, evR, e34, c0, go_sem]
  refine tele_call rfl rfl Try.func25 (by kernel_rfl) (isV (.bool true)) (fun ρ w' hk => by obtain ⟨_, _, hg, -⟩ := hk; have eg : ρ 31 = .bool true := hg; simp [wantedR, Region.wanted, asBoolR, eg]) ?_ ?_
  · rintro ρ w' he ⟨h33, h35, hgd, -⟩
    have e33 : ρ 33 = .slice A1 ws.length c1 := h33
    have e35 : ρ 35 = .slice A2 ws.length c2 := h35
    simp only [evR, List.map_toArray, List.map_cons, List.map_nil, e33, e35]
    refine (HS.out _ (h1.ext (hx.trans he)) (h2.ext (hx.trans he))).mono ?_
    rintro e w'' ⟨rfl, hx⟩
    exact ⟨_, rfl, hx, rfl⟩
  refine tele_val rfl (.bool true) (fun _ _ _ => rfl) ?_ ?_
  · rintro ρ w' he ⟨h31, h36, -⟩
    have e31 : ρ 31 = .bool true := h31
    have e36 : ρ 36 = .bool true := h36
    simp [execOp, evR, e31, e36, go_sem]
  refine tele_move rfl (.inr rfl) rfl (isV (.bool true)) (fun ρ w' h => h) ?_
  refine tele_nil ?_
  rintro ρ w' hext ⟨f4, f37, f36, f35, f34, f33, f32, f31, f30, f29, f28, f27, f26, f25, f24, f23, f22, f21, f20, f19, f18, f17, f16, f15, f14, f13, f12, f11, f10, f9, f8, f7, f6, f5, -⟩
  clear f5
  clear f6
  clear f7
  clear f8
  clear f9
  clear f10
  clear f11
  clear f12
  clear f13
  clear f14
  clear f15
  clear f16
  clear f17
  clear f18
  clear f19
  clear f20
  clear f21
  clear f22
  clear f23
  clear f24
  clear f25
  clear f26
  clear f27
  clear f28
  clear f29
  clear f30
  clear f31
  clear f32
  clear f33
  clear f34
  clear f35
  clear f36
  clear f37
  replace f4 : ρ 4 = .bool true := f4
  simp only [puts, Act.put, List.setIfInBounds_toArray, List.set_cons_zero, List.set_cons_succ]
  rw [f4]
  clear f4
  go_wp2_with fail
  go_ret
  exact ⟨rfl, Ext.trans hx hext⟩

/-- Some integer, some truth. -/
def isInt : MRel := ⟨fun v _ => ∃ z : Int, v = .int .i64 z, fun _ _ _ h _ => h⟩
def SomeB (e : Ending) : Prop := ∃ q : Bool, e = .returned (.bool q)
def isGs (l : List Grp) : MRel := ⟨fun v w => Gs w v l, fun _ _ _ h he => h.ext he⟩
theorem add_ref_any (a b m : Int) (w : World) : Calls Try.prog 27 #[.int .i64 a, .int .i64 b, .int .i64 m] w fun e w' => (∃ z : Int, e = .returned (.int .i64 z)) ∧ w = w' := by
  go_enter Try.func27, Try.ntmps27
  go_wp2_with fail
  all_goals go_ret
  all_goals exact ⟨⟨_, rfl⟩, rfl⟩

set_option maxHeartbeats 2000000 in
theorem light_any (vg : Value) (gs : List Grp) (vw : Value) (ws : List Wr) (w : World) (hg : Gs w vg gs) (hw : Ws w vw ws) :
    Calls Try.prog 9 #[vg, vw] w fun e w' => SomeB e ∧ Ext w w' := by
  obtain ⟨A0, c0, rfl, _⟩ := hg.at_
  obtain ⟨A, c, rfl, h1, h2, h3, h4⟩ := hw.at_
  clear hg
  go_enter Try.func9, Try.ntmps9
  go_wp2_with fail
  refine (add_ref_any _ _ _ _).mono ?_
  rintro e w1 ⟨⟨z, rfl⟩, rfl⟩
  go_wp2_with fail
  go_loopw [5, 6] (fun n i wr => ∃ (k : Nat) (z : Int), k ≤ ws.length ∧ i = .int .i64 k ∧ n = .int .i64 z ∧ Ext w wr) (fun _ i _ => ws.length - (intOf i).toNat)
  case atStart => exact ⟨0, z, Nat.zero_le _, rfl, rfl, Ext.refl _⟩
  case round =>
    obtain ⟨i, n, hi, rfl, rfl, hx⟩ := hrel
    by_cases hlt : i < ws.length
    · obtain ⟨b, off, rfl, hb, hc⟩ := h4 (by omega)
      obtain ⟨k, g, q, y, hget, xa1, xa2, xa3, xa4, hk, _, hy⟩ := hc i hlt
      have HA := Lib.hid (And.intro xa1 (And.intro xa2 (And.intro xa3 xa4)))
      have hia : (i : Int) < ws.length := by omega
      clear hc h4 hget xa1 xa2 xa3 xa4
      by_cases hn : n ≤ 5000
      · go_wp2_with fail
        refine wp_region_mono (by kernel_rfl) (by kernel_rfl) ?_
        refine tele_move rfl (.inl rfl) rfl (isV (.int .i64 n)) (fun ρ w' h => h) ?_
        refine tele_call rfl rfl Try.func27 (by kernel_rfl) (isInt) (fun _ _ _ => rfl) ?_ ?_
        · rintro ρ w' he ⟨h20, -⟩
          have e20 : ρ 20 = .int .i64 n := h20
          simp only [evR, List.map_toArray, List.map_cons, List.map_nil, e20]
          refine (add_ref_any _ _ _ _).mono ?_
          rintro e w'' ⟨⟨z, rfl⟩, rfl⟩
          exact ⟨_, rfl, Ext.refl _, z, rfl⟩
        refine tele_move rfl (.inl rfl) rfl (isV (.slice (some ⟨b, off, none⟩) ws.length c)) (fun ρ w' h => h) ?_
        refine tele_move rfl (.inl rfl) rfl (isV (.int .i64 (i : Int))) (fun ρ w' h => h) ?_
        refine tele_val rfl (.pointer (some ⟨b, off + i * 4, none⟩)) (fun _ _ _ => rfl) ?_ ?_
        · rintro ρ w' he ⟨h22, h23, -⟩
          have e22 : ρ 22 = .slice (some ⟨b, off, none⟩) ws.length c := h22
          have e23 : ρ 23 = .int .i64 (i : Int) := h23
          exact index_at 4 rfl Try.underlying27 e22 e23 (by omega) (by kernel_rfl)
        refine tele_val rfl (.pointer (some ⟨b, off + i * 4, none⟩)) (fun _ _ _ => rfl) ?_ ?_
        · rintro ρ w' he ⟨h24, -⟩
          have e24 : ρ 24 = .pointer (some ⟨b, off + i * 4, none⟩) := h24
          simp [execOp, evR, e24, go_sem]
        refine tele_val rfl (strV k) (fun _ _ _ => rfl) ?_ ?_
        · rintro ρ w' he ⟨h25, -⟩
          have e25 : ρ 25 = .pointer (some ⟨b, off + i * 4, none⟩) := h25
          have c0 := ((hx.trans he).cell (p := ⟨b, off + i * 4, none⟩) hb).trans HA.out.1
          simp [execOp, evR, e25, c0, go_sem]
        refine tele_val rfl (.int .i64 ((k.length : Nat) : Int)) (fun _ _ _ => rfl) ?_ ?_
        · rintro ρ w' he ⟨h26, -⟩
          have e26 : ρ 26 = strV k := h26
          have hsz := strV_size k
          unfold strV at e26
          simp [execOp, evR, e26, go_sem]
        refine tele_call rfl rfl Try.func27 (by kernel_rfl) (isInt) (fun _ _ _ => rfl) ?_ ?_
        · rintro ρ w' he ⟨h21, h27, -⟩
          have e21 : (isInt).rel (ρ 21) w' := h21
          have e27 : ρ 27 = .int .i64 ((k.length : Nat) : Int) := h27
          simp only [evR, List.map_toArray, List.map_cons, List.map_nil, e27]
          obtain ⟨y21, e21⟩ := e21
          rw [e21]
          refine (add_ref_any _ _ _ _).mono ?_
          rintro e w'' ⟨⟨z, rfl⟩, rfl⟩
          exact ⟨_, rfl, Ext.refl _, z, rfl⟩
        refine tele_move rfl (.inl rfl) rfl (isV (.slice (some ⟨b, off, none⟩) ws.length c)) (fun ρ w' h => h) ?_
        refine tele_move rfl (.inl rfl) rfl (isV (.int .i64 (i : Int))) (fun ρ w' h => h) ?_
        refine tele_val rfl (.pointer (some ⟨b, off + i * 4, none⟩)) (fun _ _ _ => rfl) ?_ ?_
        · rintro ρ w' he ⟨h29, h30, -⟩
          have e29 : ρ 29 = .slice (some ⟨b, off, none⟩) ws.length c := h29
          have e30 : ρ 30 = .int .i64 (i : Int) := h30
          exact index_at 4 rfl Try.underlying27 e29 e30 (by omega) (by kernel_rfl)
        refine tele_val rfl (.pointer (some ⟨b, off + i * 4 + 3, none⟩)) (fun _ _ _ => rfl) ?_ ?_
        · rintro ρ w' he ⟨h31, -⟩
          have e31 : ρ 31 = .pointer (some ⟨b, off + i * 4, none⟩) := h31
          simp [execOp, evR, e31, go_sem]
        refine tele_val rfl (strV y) (fun _ _ _ => rfl) ?_ ?_
        · rintro ρ w' he ⟨h32, -⟩
          have e32 : ρ 32 = .pointer (some ⟨b, off + i * 4 + 3, none⟩) := h32
          have c0 := ((hx.trans he).cell (p := ⟨b, off + i * 4 + 3, none⟩) hb).trans HA.out.2.2.2
          simp [execOp, evR, e32, c0, go_sem]
        refine tele_val rfl (.int .i64 ((y.length : Nat) : Int)) (fun _ _ _ => rfl) ?_ ?_
        · rintro ρ w' he ⟨h33, -⟩
          have e33 : ρ 33 = strV y := h33
          have hsz := strV_size y
          unfold strV at e33
          simp [execOp, evR, e33, go_sem]
        refine tele_call rfl rfl Try.func27 (by kernel_rfl) (isInt) (fun _ _ _ => rfl) ?_ ?_
        · rintro ρ w' he ⟨h28, h34, -⟩
          have e28 : (isInt).rel (ρ 28) w' := h28
          have e34 : ρ 34 = .int .i64 ((y.length : Nat) : Int) := h34
          simp only [evR, List.map_toArray, List.map_cons, List.map_nil, e34]
          obtain ⟨y28, e28⟩ := e28
          rw [e28]
          refine (add_ref_any _ _ _ _).mono ?_
          rintro e w'' ⟨⟨z, rfl⟩, rfl⟩
          exact ⟨_, rfl, Ext.refl _, z, rfl⟩
        refine tele_move rfl (.inr rfl) rfl (isInt) (fun ρ w' h => h) ?_
        refine tele_nil ?_
        rintro ρ w' hext ⟨f5, f35, f34, f33, f32, f31, f30, f29, f28, f27, f26, f25, f24, f23, f22, f21, f20, -⟩
        clear f20
        clear f21
        clear f22
        clear f23
        clear f24
        clear f25
        clear f26
        clear f27
        clear f28
        clear f29
        clear f30
        clear f31
        clear f32
        clear f33
        clear f34
        clear f35
        replace f5 : (isInt).rel (ρ 5) w' := f5
        simp only [puts, Act.put, List.setIfInBounds_toArray, List.set_cons_zero, List.set_cons_succ]
        obtain ⟨z, f5⟩ := f5
        rw [f5]
        clear f5
        go_wp2_with fail
        go_roundw
        case rel => exact ⟨i + 1, z, by omega, by go_num, rfl, Ext.trans hx hext⟩
        case measure => simp [intOf]; omega
      · go_wp2_with fail
        go_ret
        exact ⟨⟨_, rfl⟩, hx⟩
    · clear h4
      go_wp2_with fail
      go_ret
      exact ⟨⟨_, rfl⟩, hx⟩

theorem schema_any (w : World) : Calls Try.prog 28 #[] w fun e w' => ∃ v, e = .returned v ∧ Gs w' v [([97], 1), ([98], 2)] ∧ Ext w w' := by
  go_enter Try.func28, Try.ntmps28
  go_wp2_with fail
  go_ret
  refine ⟨_, rfl, ⟨⟨_, 2, rfl, by decide, by decide, by simp, fun _ => ⟨w.heap.size, 0, rfl, by simp, fun i x hx => ?_⟩⟩, ?_⟩, ext_alloc _ _⟩
  · have b := Blk.new w #[.string ⟨#[97]⟩, .int .i64 1, .string ⟨#[98]⟩, .int .i64 2] 52
    match i, hx with
    | 0, hx =>
      obtain rfl : ([97], 1) = x := by simpa using hx
      exact ⟨b.cell (i := 0) rfl, b.cell (i := 1) rfl⟩
    | 1, hx =>
      obtain rfl : ([98], 2) = x := by simpa using hx
      exact ⟨b.cell (i := 2) rfl, b.cell (i := 3) rfl⟩
  · intro g hg
    simp only [List.mem_cons, List.not_mem_nil, or_false] at hg
    rcases hg with rfl | rfl <;> exact ⟨by decide, by unfold In64; dsimp only; omega⟩

def exW : List Wr := [⟨[107], 0, false, [120]⟩]
theorem ex_good : cgood [([97], 1), ([98], 2)] ⟨1, 1, 1, 1, 1, 0, exW⟩ = 0 := by decide +kernel
theorem ex_put : cput [([97], 1), ([98], 2)] ⟨1, 1, 1, 1, 1, 0, exW⟩ = [1, 1, 2, 1, 0, 1, 1, 107, 0, 0, 1, 120] := by decide +kernel
set_option maxHeartbeats 2000000 in
theorem lives_any (w : World) : Calls Try.prog 10 #[] w fun e w' => e = .returned (.bool true) ∧ Ext w w' := by
  have HG := Lib.hid (fun w vl vw h1 h2 => chGood_any vl [([97], 1), ([98], 2)] 1 1 1 1 1 0 vw exW w h1 h2)
  have HP := Lib.hid (fun w vl vw h1 h2 => chPut_any (.slice none 0 0) [] vl [([97], 1), ([98], 2)] 1 1 1 1 1 0 vw exW w (Bs.nil_ w) (by simp) h1 h2)
  rw [ex_good] at HG
  rw [ex_put] at HP
  unfold chV at HG HP
  dsimp only at HG HP
  go_enter Try.func10, Try.ntmps10
  go_upto_region 2 with (fail)
  have bw : Blk _ _ [strV [107], .int .i64 0, .bool false, strV [120]] := Blk.new w #[.string ⟨#[107]⟩, .int .i64 0, .bool false, .string ⟨#[120]⟩] 31
  have bc := Blk.new (w.alloc (.cells #[.string ⟨#[107]⟩, .int .i64 0, .bool false, .string ⟨#[120]⟩] 31)) #[.int .i64 1, .int .i64 1, .int .i64 1, .int .i64 1, .int .i64 1, .int .i64 0, .slice (some ⟨w.heap.size, 0, none⟩) 1 1] 29
  replace bw := bw.ext (ext_alloc _ (.cells #[.int .i64 1, .int .i64 1, .int .i64 1, .int .i64 1, .int .i64 1, .int .i64 0, .slice (some ⟨w.heap.size, 0, none⟩) 1 1] 29))
  have hx := (ext_alloc w (.cells #[.string ⟨#[107]⟩, .int .i64 0, .bool false, .string ⟨#[120]⟩] 31)).trans (ext_alloc _ (.cells #[.int .i64 1, .int .i64 1, .int .i64 1, .int .i64 1, .int .i64 1, .int .i64 0, .slice (some ⟨w.heap.size, 0, none⟩) 1 1] 29))
  simp only [World.size_alloc] at bc
  generalize (w.alloc (.cells #[.string ⟨#[107]⟩, .int .i64 0, .bool false, .string ⟨#[120]⟩] 31)).alloc (.cells #[.int .i64 1, .int .i64 1, .int .i64 1, .int .i64 1, .int .i64 1, .int .i64 0, .slice (some ⟨w.heap.size, 0, none⟩) 1 1] 29) = W at *
  have hws : Ws W (.slice (some ⟨w.heap.size, 0, none⟩) 1 1) exW := by
    refine ⟨⟨_, 1, rfl, by decide, by decide, by simp, fun _ => ⟨w.heap.size, 0, rfl, bw.lt, fun i x hxx => ?_⟩⟩, fun x hx => ?_⟩
    · match i, hxx with
      | 0, hxx =>
        obtain rfl : (⟨[107], 0, false, [120]⟩ : Wr) = x := by simpa [exW] using hxx
        exact ⟨bw.cell (i := 0) rfl, bw.cell (i := 1) rfl, bw.cell (i := 2) rfl, bw.cell (i := 3) rfl⟩
    · simp only [exW, List.mem_cons, List.not_mem_nil, or_false] at hx
      subst hx
      exact ⟨by decide, by unfold In64; dsimp only; omega, by decide⟩
  obtain ⟨n, hn⟩ : ∃ n, n = w.heap.size + 1 := ⟨_, rfl⟩
  obtain ⟨m, hm⟩ : ∃ m, m = w.heap.size := ⟨_, rfl⟩
  rw [← hn, ← hm] at bc
  rw [← hm] at hws
  rw [← hn]
  clear hn hm bw
  refine wp_region_mono (by kernel_rfl) (by kernel_rfl) ?_
  refine tele_call rfl rfl Try.func28 (by kernel_rfl) (isGs [([97], 1), ([98], 2)]) (fun _ _ _ => rfl) ?_ ?_
  · rintro ρ w' he -
    simp only [evR, List.map_toArray, List.map_cons, List.map_nil]
    refine (schema_any _).mono ?_
    rintro e w'' ⟨r, rfl, hr, hx⟩
    exact ⟨r, rfl, hx, hr⟩
  refine tele_val rfl (.agg #[.int .i64 1, .int .i64 1, .int .i64 1, .int .i64 1, .int .i64 1, .int .i64 0, .slice (some ⟨m, 0, none⟩) 1 1]) (fun _ _ _ => rfl) ?_ ?_
  · rintro ρ w' he ⟨h1, -⟩
    have e1 : ρ 1 = .pointer (some ⟨n, 0, none⟩) := h1
    have c0 := (bc.ext he).cell (i := 0) rfl
    have c1 := (bc.ext he).cell (i := 1) rfl
    have c2 := (bc.ext he).cell (i := 2) rfl
    have c3 := (bc.ext he).cell (i := 3) rfl
    have c4 := (bc.ext he).cell (i := 4) rfl
    have c5 := (bc.ext he).cell (i := 5) rfl
    have c6 := (bc.ext he).cell (i := 6) rfl
    simp [execOp, evR, e1, c0, c1, c2, c3, c4, c5, c6, go_sem]
  refine tele_call rfl rfl Try.func13 (by kernel_rfl) (isV (.int .i64 0)) (fun _ _ _ => rfl) ?_ ?_
  · rintro ρ w' he ⟨h7, h8, -⟩
    have e7 : (isGs [([97], 1), ([98], 2)]).rel (ρ 7) w' := h7
    have e8 : ρ 8 = .agg #[.int .i64 1, .int .i64 1, .int .i64 1, .int .i64 1, .int .i64 1, .int .i64 0, .slice (some ⟨m, 0, none⟩) 1 1] := h8
    simp only [evR, List.map_toArray, List.map_cons, List.map_nil, e8]
    refine (HG.out _ _ _ e7 (hws.ext he)).mono ?_
    rintro e w'' ⟨rfl, hx⟩
    exact ⟨_, rfl, hx, rfl⟩
  refine tele_val rfl (.bool true) (fun _ _ _ => rfl) ?_ ?_
  · rintro ρ w' he ⟨h9, -⟩
    have e9 : ρ 9 = .int .i64 0 := h9
    simp [execOp, evR, e9, go_sem]
  refine tele_move rfl (.inl rfl) rfl (isV (.bool true)) (fun ρ w' h => h) ?_
  refine tele_call rfl rfl Try.func28 (by kernel_rfl) (isGs [([97], 1), ([98], 2)]) (fun ρ w' hk => by obtain ⟨hg, -⟩ := hk; have eg : ρ 11 = .bool true := hg; simp [wantedR, Region.wanted, asBoolR, eg]) ?_ ?_
  · rintro ρ w' he ⟨hgd, -⟩
    simp only [evR, List.map_toArray, List.map_cons, List.map_nil]
    refine (schema_any _).mono ?_
    rintro e w'' ⟨r, rfl, hr, hx⟩
    exact ⟨r, rfl, hx, hr⟩
  refine tele_val rfl (.agg #[.int .i64 1, .int .i64 1, .int .i64 1, .int .i64 1, .int .i64 1, .int .i64 0, .slice (some ⟨m, 0, none⟩) 1 1]) (fun ρ w' hk => by obtain ⟨_, hg, -⟩ := hk; have eg : ρ 11 = .bool true := hg; simp [wantedR, Region.wanted, asBoolR, eg]) ?_ ?_
  · rintro ρ w' he ⟨h1, hgd, -⟩
    have e1 : ρ 1 = .pointer (some ⟨n, 0, none⟩) := h1
    have c0 := (bc.ext he).cell (i := 0) rfl
    have c1 := (bc.ext he).cell (i := 1) rfl
    have c2 := (bc.ext he).cell (i := 2) rfl
    have c3 := (bc.ext he).cell (i := 3) rfl
    have c4 := (bc.ext he).cell (i := 4) rfl
    have c5 := (bc.ext he).cell (i := 5) rfl
    have c6 := (bc.ext he).cell (i := 6) rfl
    simp [execOp, evR, e1, c0, c1, c2, c3, c4, c5, c6, go_sem]
  refine tele_call rfl rfl Try.func22 (by kernel_rfl) (isOw 0 [1, 1, 2, 1, 0, 1, 1, 107, 0, 0, 1, 120]) (fun ρ w' hk => by obtain ⟨_, _, hg, -⟩ := hk; have eg : ρ 11 = .bool true := hg; simp [wantedR, Region.wanted, asBoolR, eg]) ?_ ?_
  · rintro ρ w' he ⟨h12, h13, hgd, -⟩
    have e12 : (isGs [([97], 1), ([98], 2)]).rel (ρ 12) w' := h12
    have e13 : ρ 13 = .agg #[.int .i64 1, .int .i64 1, .int .i64 1, .int .i64 1, .int .i64 1, .int .i64 0, .slice (some ⟨m, 0, none⟩) 1 1] := h13
    simp only [evR, List.map_toArray, List.map_cons, List.map_nil, e13]
    refine (HP.out _ _ _ e12 (hws.ext he)).mono ?_
    rintro e w'' ⟨r, rfl, hr, hx⟩
    exact ⟨r, rfl, hx, (show OwB _ _ _ _ from hr).mono (Nat.zero_le _)⟩
  refine tele_val rfl (strV [1, 1, 2, 1, 0, 1, 1, 107, 0, 0, 1, 120]) (fun ρ w' hk => by obtain ⟨_, hg, -⟩ := hk; have eg : ρ 11 = .bool true := hg; simp [wantedR, Region.wanted, asBoolR, eg]) ?_ ?_
  · rintro ρ w' he ⟨h14, hgd, -⟩
    have e14 : (isOw 0 [1, 1, 2, 1, 0, 1, 1, 107, 0, 0, 1, 120]).rel (ρ 14) w' := h14
    have c := (show OwB _ _ _ _ from e14).bs.str_ (P := Try.prog) 56 9 5 Try.underlying56 Try.underlying5 Try.underlying9
    simp [execOp, evR, c]
  refine tele_val rfl (.bool true) (fun ρ w' hk => by obtain ⟨_, hg, -⟩ := hk; have eg : ρ 11 = .bool true := hg; simp [wantedR, Region.wanted, asBoolR, eg]) ?_ ?_
  · rintro ρ w' he ⟨h15, hgd, -⟩
    have e15 : ρ 15 = strV [1, 1, 2, 1, 0, 1, 1, 107, 0, 0, 1, 120] := h15
    exact (exec_eql_str rfl e15 (show _ = strV [1, 1, 2, 1, 0, 1, 1, 107, 0, 0, 1, 120] from rfl)).trans (by simp)
  refine tele_val rfl (.bool true) (fun _ _ _ => rfl) ?_ ?_
  · rintro ρ w' he ⟨h11, h16, -⟩
    have e11 : ρ 11 = .bool true := h11
    have e16 : ρ 16 = .bool true := h16
    simp [execOp, evR, e11, e16, go_sem]
  refine tele_move rfl (.inr rfl) rfl (isV (.bool true)) (fun ρ w' h => h) ?_
  refine tele_nil ?_
  rintro ρ w' hext ⟨f0, f17, f16, f15, f14, f13, f12, f11, f10, f9, f8, f7, -⟩
  clear f7
  clear f8
  clear f9
  clear f10
  clear f11
  clear f12
  clear f13
  clear f14
  clear f15
  clear f16
  clear f17
  replace f0 : ρ 0 = .bool true := f0
  simp only [puts, Act.put, List.setIfInBounds_toArray, List.set_cons_zero, List.set_cons_succ]
  rw [f0]
  clear f0
  go_wp2_with fail
  go_ret
  exact ⟨rfl, Ext.trans hx hext⟩
end Go.Proofs.Ytocdifjdeifclaa
