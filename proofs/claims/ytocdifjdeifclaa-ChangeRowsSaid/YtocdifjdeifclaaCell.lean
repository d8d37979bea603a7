/-
  Layer 8: cells: in plain Lean; which may be, which have a write, the cell of one write.
-/
import Derived.Test.YtocdifjdeifclaaChGood
import Derived.Test.YtocdifjdeifclaaCapWs
namespace Go.Proofs.Ytocdifjdeifclaa
open Go Go.RowKit Mono Num
set_option linter.unusedVariables false
set_option linter.unusedSimpArgs false
set_option maxRecDepth 100000

/-- A cell. -/
structure Cl where
  sn : Int
  ss : Int
  va : Int
  vb : Int
  gone : Bool
  value : List UInt8
  da : Int
  db : Int
def Cl.nought : Cl := ⟨0, 0, 0, 0, false, [], 0, 0⟩
def clC (c : Cl) : List Value := [.int .i64 c.sn, .int .i64 c.ss, .int .i64 c.va, .int .i64 c.vb, .bool c.gone, strV c.value, .int .i64 c.da, .int .i64 c.db]
def clV (c : Cl) : Value := .agg #[.int .i64 c.sn, .int .i64 c.ss, .int .i64 c.va, .int .i64 c.vb, .bool c.gone, strV c.value, .int .i64 c.da, .int .i64 c.db]
/-- Has a cell a write? -/
def cwritten (c : Cl) : Bool := !((c.sn == 0) && (c.ss == 0) && (c.va == 0) && (c.vb == 0) && !c.gone && (c.value == []))
def cellrest (c : Cl) : Bool := !(cwritten c) || (decide (0 < c.sn) && sgood c.sn c.ss && vgood c.va c.vb && decide (c.value.length ≤ 64) && !(c.gone && !(c.value == [])))
/-- May a cell be, under a policy? -/
def cellgood (p : Int) (c : Cl) : Bool := if p = 1 then ((c.da == 0) && (c.db == 0)) && cellrest c else if p = 2 then (!c.gone && vgood c.da c.db) && cellrest c else false
/-- The cell of one write that may be. -/
def clOf (p sn ss va vb : Int) (gone : Bool) (value : List UInt8) : Cl := if gone = true ∧ p = 2 then ⟨0, 0, 0, 0, false, [], va, vb⟩ else ⟨sn, ss, va, vb, gone, value, 0, 0⟩
theorem eqVecN (n : Nat) (a b c d : Int) (w : World) : (Op.equalIn (n + 2) 26 (.agg #[.int .i64 a, .int .i64 b]) (.agg #[.int .i64 c, .int .i64 d])).run Try.prog w = .ok (a == c && b == d) w := by
  have u3 := Try.underlying3
  have a3 := Try.isAgg3
  have z3 := Try.sizeOf3
  rw [show n + 2 = (n + 1) + 1 from rfl, Op.equalIn]
  simp only [Sem.run_bind, run_underlying Try.underlying26, Result.andThen_ok]
  simp only [Std.Legacy.Range.forIn_eq_forIn_range', Std.Legacy.Range.size, Nat.sub_zero, Nat.add_sub_cancel, Nat.div_one, List.range'_succ, List.range'_zero, List.forIn_cons, List.forIn_nil]
  go_simp
  by_cases h1 : a = c <;> by_cases h2 : b = d <;> simp [h1, h2]
/-- '==' of two cells. -/
theorem eqCell (c d : Cl) (w : World) : (Op.equalIn 10000 54 (clV c) (clV d)).run Try.prog w = .ok ((c.sn == d.sn) && (c.ss == d.ss) && (c.va == d.va) && (c.vb == d.vb) && (c.gone == d.gone) && (c.value == d.value) && (c.da == d.da) && (c.db == d.db)) w := by
  have hv := eqVecN 9997
  simp only [show 9997 + 2 = 9999 from rfl] at hv
  unfold clV strV
  rw [show (10000 : Nat) = 9999 + 1 from rfl, run_equalIn_agg _ 9999 54 _ _ Try.underlying54 (by kernel_rfl)]
  obtain ⟨c0, c1, c2, c3, c4, c5, c6, c7⟩ := c
  obtain ⟨d0, d1, d2, d3, d4, d5, d6, d7⟩ := d
  dsimp only
  simp [Op.eqFields, hv, go_sem]
  by_cases h0 : c0 = d0
  · by_cases h1 : c1 = d1
    · by_cases h2 : c2 = d2
      · by_cases h3 : c3 = d3
        · by_cases h4 : c4 = d4
          · by_cases h5 : c5 = d5
            · by_cases h6 : c6 = d6 <;> by_cases h7 : c7 = d7 <;> simp [h0, h1, h2, h3, h4, h5, h6, h7]
            · simp [h0, h1, h2, h3, h4, h5]
          · simp [h0, h1, h2, h3, h4]
        · simp [h0, h1, h2, h3]
      · simp [h0, h1, h2]
    · simp [h0, h1]
  · simp [h0]
set_option maxHeartbeats 4000000 in
theorem written_any (sn ss va vb : Int) (gone : Bool) (value : List UInt8) (da db : Int) (w : World) : Calls Try.prog 46 #[clV ⟨sn, ss, va, vb, gone, value, da, db⟩] w fun e w' => e = .returned (.bool (cwritten ⟨sn, ss, va, vb, gone, value, da, db⟩)) ∧ Ext w w' := by
  have HC : Hid (cwritten ⟨sn, ss, va, vb, gone, value, da, db⟩ = !((sn == 0) && (ss == 0) && (va == 0) && (vb == 0) && !gone && (value == []))) := Lib.hid rfl
  unfold clV strV
  dsimp only
  go_enter Try.func46, Try.ntmps46
  go_upto_region 1 with (fail)
  have ba := Blk.new w #[.int .i64 sn, .int .i64 ss, .int .i64 va, .int .i64 vb, .bool gone, .string ⟨value.toArray⟩, .int .i64 da, .int .i64 db] 54
  have hx := ext_alloc w (.cells #[.int .i64 sn, .int .i64 ss, .int .i64 va, .int .i64 vb, .bool gone, .string ⟨value.toArray⟩, .int .i64 da, .int .i64 db] 54)
  obtain ⟨n, hn⟩ : ∃ n, n = w.heap.size := ⟨_, rfl⟩
  rw [← hn] at ba ⊢
  have HN := Lib.hid (show w.heap.size ≤ n by omega)
  clear hn
  generalize w.alloc (.cells #[.int .i64 sn, .int .i64 ss, .int .i64 va, .int .i64 vb, .bool gone, .string ⟨value.toArray⟩, .int .i64 da, .int .i64 db] 54) = W at *
  have hb2 := (ba.set 6 (.int .i64 0)).set 7 (.int .i64 0)
  simp only [List.set_cons_succ, List.set_cons_zero] at hb2
  have k0 := hb2.cell (i := 0) rfl
  have k1 := hb2.cell (i := 1) rfl
  have k2 := hb2.cell (i := 2) rfl
  have k3 := hb2.cell (i := 3) rfl
  have k4 := hb2.cell (i := 4) rfl
  have k5 := hb2.cell (i := 5) rfl
  have k6 := hb2.cell (i := 6) rfl
  have k7 := hb2.cell (i := 7) rfl
  have z6 := ba.thaw 6
  have z7 := ba.thaw 7
  have y6 := ba.cell (i := 6) rfl
  have y7 := ba.cell (i := 7) rfl
  have hee := fun w => eqCell ⟨sn, ss, va, vb, gone, value, 0, 0⟩ Cl.nought w
  unfold clV strV Cl.nought at hee
  dsimp only at hee
  have hq : ∀ w', (Op.equalIn 10000 54 (.agg #[.int .i64 sn, .int .i64 ss, .int .i64 va, .int .i64 vb, .bool gone, .string ⟨value.toArray⟩, .int .i64 0, .int .i64 0]) (.agg #[.int .i64 0, .int .i64 0, .int .i64 0, .int .i64 0, .bool false, .string ⟨#[]⟩, .int .i64 0, .int .i64 0])).run Try.prog w' = .ok (!(cwritten ⟨sn, ss, va, vb, gone, value, da, db⟩)) w' := fun w' => by
    rw [HC.out]
    refine (hee w').trans ?_
    congr 1
    cases gone <;> simp
  generalize hqq : cwritten ⟨sn, ss, va, vb, gone, value, da, db⟩ = q at *
  have HQ := Lib.hid hqq
  clear hqq
  have HX := Lib.hid ((hx.setCell (p := ⟨n, 6, none⟩) HN.out (.int .i64 0)).setCell (p := ⟨n, 7, none⟩) HN.out (.int .i64 0))
  clear hee hb2 ba hx
  go_wp2_with fail
  go_ret
  exact ⟨by rw [HQ.out]; simp, HX.out⟩

set_option maxHeartbeats 8000000 in
theorem cellGood_any (p sn ss va vb : Int) (gone : Bool) (value : List UInt8) (da db : Int) (w : World) : Calls Try.prog 45 #[.int .i64 p, clV ⟨sn, ss, va, vb, gone, value, da, db⟩] w fun e w' => e = .returned (.bool (cellgood p ⟨sn, ss, va, vb, gone, value, da, db⟩)) ∧ Ext w w' := by
  by_cases hp1 : p = 1
  · subst hp1
    by_cases hd : da = 0 ∧ db = 0
    · have HCG : Hid (cellgood 1 ⟨sn, ss, va, vb, gone, value, da, db⟩ = cellrest ⟨sn, ss, va, vb, gone, value, da, db⟩) := Lib.hid (by unfold cellgood; simp [hd])
      have hdd : ((da == 0) && (db == 0)) = true := by simp [hd]
      clear hd
      unfold clV strV
      dsimp only
      go_enter Try.func45, Try.ntmps45
      go_upto_region 1 with (fail)
      have ba := Blk.new w #[.int .i64 sn, .int .i64 ss, .int .i64 va, .int .i64 vb, .bool gone, .string ⟨value.toArray⟩, .int .i64 da, .int .i64 db] 54
      have hx := ext_alloc w (.cells #[.int .i64 sn, .int .i64 ss, .int .i64 va, .int .i64 vb, .bool gone, .string ⟨value.toArray⟩, .int .i64 da, .int .i64 db] 54)
      obtain ⟨n, hn⟩ : ∃ n, n = w.heap.size := ⟨_, rfl⟩
      rw [← hn] at ba ⊢
      have HN := Lib.hid (show w.heap.size ≤ n by omega)
      clear hn
      generalize w.alloc (.cells #[.int .i64 sn, .int .i64 ss, .int .i64 va, .int .i64 vb, .bool gone, .string ⟨value.toArray⟩, .int .i64 da, .int .i64 db] 54) = W at *
      have d6 := ba.cell (i := 6) rfl
      have d7 := ba.cell (i := 7) rfl
      have k0 := ba.cell (i := 0) rfl
      have k1 := ba.cell (i := 1) rfl
      have k2 := ba.cell (i := 2) rfl
      have k3 := ba.cell (i := 3) rfl
      have k4 := ba.cell (i := 4) rfl
      have k5 := ba.cell (i := 5) rfl
      have k6 := ba.cell (i := 6) rfl
      have k7 := ba.cell (i := 7) rfl
      have hwr := written_any sn ss va vb gone value da db W
      unfold clV strV at hwr
      dsimp only at hwr
      have HWR := Lib.hid hwr
      clear hwr
      go_wp2_with fail
      refine HWR.out.mono ?_
      rintro e w2 ⟨rfl, x2⟩
      clear k0 k1 k2 k3 k4 k5 k6 k7 HWR
      replace ba := ba.ext x2
      replace hx := hx.trans x2
      clear x2
      generalize hqq : cwritten ⟨sn, ss, va, vb, gone, value, da, db⟩ = q at *
      have HQ := Lib.hid hqq
      clear hqq
      cases q
      · go_wp2_with fail
        go_ret
        exact ⟨by rw [HCG.out]; unfold cellrest; rw [HQ.out]; rfl, hx⟩
      go_upto_region 11 with (fail)
      replace ba : Blk w2 n [.int .i64 sn, .int .i64 ss, .int .i64 va, .int .i64 vb, .bool gone, strV value, .int .i64 da, .int .i64 db] := ba
      obtain ⟨q1, Q28⟩ : ∃ q : Bool, q = decide (0 < sn) := ⟨_, rfl⟩
      obtain ⟨q2, Q43⟩ : ∃ q : Bool, q = decide ((value.length : Int) ≤ 64) := ⟨_, rfl⟩
      obtain ⟨q3, Q51⟩ : ∃ q : Bool, q = (!(value == [])) := ⟨_, rfl⟩
      refine wp_region_seq (by kernel_rfl) ?_
      refine tele_val rfl (.pointer (some ⟨n, 0, none⟩)) (fun _ _ _ => rfl) ?_ ?_
      · rintro ρ w' he ⟨h3, -⟩
        have e3 : ρ 3 = .pointer (some ⟨n, 0, none⟩) := h3
        simp [execOp, evR, e3, go_sem]
      refine tele_val rfl (.pointer (some ⟨n, 0, none⟩)) (fun _ _ _ => rfl) ?_ ?_
      · rintro ρ w' he ⟨h25, -⟩
        have e25 : ρ 25 = .pointer (some ⟨n, 0, none⟩) := h25
        simp [execOp, evR, e25, go_sem]
      refine tele_val rfl (.int .i64 sn) (fun _ _ _ => rfl) ?_ ?_
      · rintro ρ w' he ⟨h26, -⟩
        have e26 : ρ 26 = .pointer (some ⟨n, 0, none⟩) := h26
        have c0 := (ba.ext he).cell (i := 0) rfl
        simp [execOp, evR, e26, c0, go_sem]
      refine tele_val rfl (.bool q1) (fun _ _ _ => rfl) ?_ ?_
      · rintro ρ w' he ⟨h27, -⟩
        have e27 : ρ 27 = .int .i64 sn := h27
        rw [Q28]
        simp [execOp, evR, e27, go_sem]
      refine tele_move rfl (.inl rfl) rfl (isV (.bool q1)) (fun ρ w' h => h) ?_
      refine tele_gval rfl (q1) (.pointer (some ⟨n, 0, none⟩)) (fun ρ w' hk => by obtain ⟨_, hg, -⟩ := hk; have eg : ρ 29 = .bool q1 := hg; cases hq : (q1) <;> simp [wantedR, Region.wanted, asBoolR_bool, asBoolR_undef, eg, ifV, hq]) ?_ ?_
      · rintro ρ w' he ⟨h3, hgd, -⟩ hG
        have e3 : ρ 3 = .pointer (some ⟨n, 0, none⟩) := h3
        simp [execOp, evR, e3, go_sem]
      refine tele_gval rfl (q1) (.agg #[.int .i64 sn, .int .i64 ss]) (fun ρ w' hk => by obtain ⟨_, hg, -⟩ := hk; have eg : ρ 29 = .bool q1 := hg; cases hq : (q1) <;> simp [wantedR, Region.wanted, asBoolR_bool, asBoolR_undef, eg, ifV, hq]) ?_ ?_
      · rintro ρ w' he ⟨h30, hgd, -⟩ hG
        have e30 : ρ 30 = .pointer (some ⟨n, 0, none⟩) := (show ρ 30 = ifV (q1) (.pointer (some ⟨n, 0, none⟩)) from h30).trans (ifV_true (by first | exact hG | simp_all))
        have c0 := (ba.ext he).cell (i := 0) rfl
        have c1 := (ba.ext he).cell (i := 1) rfl
        simp [execOp, evR, e30, c0, c1, go_sem]
      refine tele_gcall rfl rfl Try.func34 (by kernel_rfl) (q1) (.bool (sgood sn ss)) (fun ρ w' hk => by obtain ⟨_, hg, -⟩ := hk; have eg : ρ 29 = .bool q1 := hg; cases hq : (q1) <;> simp [wantedR, Region.wanted, asBoolR_bool, asBoolR_undef, eg, ifV, hq]) ?_ ?_
      · rintro ρ w' he ⟨h31, hgd, -⟩ hG
        have e31 : ρ 31 = .agg #[.int .i64 sn, .int .i64 ss] := (show ρ 31 = ifV (q1) (.agg #[.int .i64 sn, .int .i64 ss]) from h31).trans (ifV_true (by first | exact hG | simp_all))
        simp only [evR, List.map_toArray, List.map_cons, List.map_nil, e31]
        refine (stGood_any sn ss _).mono ?_
        rintro e w'' ⟨rfl, hx⟩
        exact ⟨rfl, hx⟩
      refine tele_val rfl (.bool (q1 && (sgood sn ss))) (fun _ _ _ => rfl) ?_ ?_
      · rintro ρ w' he ⟨h29, h32, -⟩
        have e29 : ρ 29 = .bool q1 := h29
        have e32 : ρ 32 = ifV (q1) (.bool (sgood sn ss)) := h32
        cases hc : (q1) <;> simp [execOp, evR, e29, e32, ifV, hc, go_sem]
      refine tele_move rfl (.inl rfl) rfl (isV (.bool (q1 && (sgood sn ss)))) (fun ρ w' h => h) ?_
      refine tele_gval rfl ((q1 && (sgood sn ss))) (.pointer (some ⟨n, 2, none⟩)) (fun ρ w' hk => by obtain ⟨_, hg, -⟩ := hk; have eg : ρ 34 = .bool (q1 && (sgood sn ss)) := hg; cases hq : ((q1 && (sgood sn ss))) <;> simp [wantedR, Region.wanted, asBoolR_bool, asBoolR_undef, eg, ifV, hq]) ?_ ?_
      · rintro ρ w' he ⟨h3, hgd, -⟩ hG
        have e3 : ρ 3 = .pointer (some ⟨n, 0, none⟩) := h3
        simp [execOp, evR, e3, go_sem]
      refine tele_gval rfl ((q1 && (sgood sn ss))) (.agg #[.int .i64 va, .int .i64 vb]) (fun ρ w' hk => by obtain ⟨_, hg, -⟩ := hk; have eg : ρ 34 = .bool (q1 && (sgood sn ss)) := hg; cases hq : ((q1 && (sgood sn ss))) <;> simp [wantedR, Region.wanted, asBoolR_bool, asBoolR_undef, eg, ifV, hq]) ?_ ?_
      · rintro ρ w' he ⟨h35, hgd, -⟩ hG
        have e35 : ρ 35 = .pointer (some ⟨n, 2, none⟩) := (show ρ 35 = ifV ((q1 && (sgood sn ss))) (.pointer (some ⟨n, 2, none⟩)) from h35).trans (ifV_true (by first | exact hG | simp_all))
        have c0 := (ba.ext he).cell (i := 2) rfl
        have c1 := (ba.ext he).cell (i := 3) rfl
        simp [execOp, evR, e35, c0, c1, go_sem]
      refine tele_gcall rfl rfl Try.func35 (by kernel_rfl) ((q1 && (sgood sn ss))) (.bool (vgood va vb)) (fun ρ w' hk => by obtain ⟨_, hg, -⟩ := hk; have eg : ρ 34 = .bool (q1 && (sgood sn ss)) := hg; cases hq : ((q1 && (sgood sn ss))) <;> simp [wantedR, Region.wanted, asBoolR_bool, asBoolR_undef, eg, ifV, hq]) ?_ ?_
      · rintro ρ w' he ⟨h36, hgd, -⟩ hG
        have e36 : ρ 36 = .agg #[.int .i64 va, .int .i64 vb] := (show ρ 36 = ifV ((q1 && (sgood sn ss))) (.agg #[.int .i64 va, .int .i64 vb]) from h36).trans (ifV_true (by first | exact hG | simp_all))
        simp only [evR, List.map_toArray, List.map_cons, List.map_nil, e36]
        refine (vecGood_any va vb _).mono ?_
        rintro e w'' ⟨rfl, hx⟩
        exact ⟨rfl, hx⟩
      refine tele_val rfl (.bool ((q1 && (sgood sn ss)) && (vgood va vb))) (fun _ _ _ => rfl) ?_ ?_
      · rintro ρ w' he ⟨h34, h37, -⟩
        have e34 : ρ 34 = .bool (q1 && (sgood sn ss)) := h34
        have e37 : ρ 37 = ifV ((q1 && (sgood sn ss))) (.bool (vgood va vb)) := h37
        cases hc : ((q1 && (sgood sn ss))) <;> simp [execOp, evR, e34, e37, ifV, hc, go_sem]
      refine tele_move rfl (.inl rfl) rfl (isV (.bool ((q1 && (sgood sn ss)) && (vgood va vb)))) (fun ρ w' h => h) ?_
      refine tele_gval rfl (((q1 && (sgood sn ss)) && (vgood va vb))) (.pointer (some ⟨n, 5, none⟩)) (fun ρ w' hk => by obtain ⟨_, hg, -⟩ := hk; have eg : ρ 39 = .bool ((q1 && (sgood sn ss)) && (vgood va vb)) := hg; cases hq : (((q1 && (sgood sn ss)) && (vgood va vb))) <;> simp [wantedR, Region.wanted, asBoolR_bool, asBoolR_undef, eg, ifV, hq]) ?_ ?_
      · rintro ρ w' he ⟨h3, hgd, -⟩ hG
        have e3 : ρ 3 = .pointer (some ⟨n, 0, none⟩) := h3
        simp [execOp, evR, e3, go_sem]
      refine tele_gval rfl (((q1 && (sgood sn ss)) && (vgood va vb))) (strV value) (fun ρ w' hk => by obtain ⟨_, hg, -⟩ := hk; have eg : ρ 39 = .bool ((q1 && (sgood sn ss)) && (vgood va vb)) := hg; cases hq : (((q1 && (sgood sn ss)) && (vgood va vb))) <;> simp [wantedR, Region.wanted, asBoolR_bool, asBoolR_undef, eg, ifV, hq]) ?_ ?_
      · rintro ρ w' he ⟨h40, hgd, -⟩ hG
        have e40 : ρ 40 = .pointer (some ⟨n, 5, none⟩) := (show ρ 40 = ifV (((q1 && (sgood sn ss)) && (vgood va vb))) (.pointer (some ⟨n, 5, none⟩)) from h40).trans (ifV_true (by first | exact hG | simp_all))
        have c0 := (ba.ext he).cell (i := 5) rfl
        simp [execOp, evR, e40, c0, go_sem]
      refine tele_gval rfl (((q1 && (sgood sn ss)) && (vgood va vb))) (.int .i64 ((value.length : Nat) : Int)) (fun ρ w' hk => by obtain ⟨_, hg, -⟩ := hk; have eg : ρ 39 = .bool ((q1 && (sgood sn ss)) && (vgood va vb)) := hg; cases hq : (((q1 && (sgood sn ss)) && (vgood va vb))) <;> simp [wantedR, Region.wanted, asBoolR_bool, asBoolR_undef, eg, ifV, hq]) ?_ ?_
      · rintro ρ w' he ⟨h41, hgd, -⟩ hG
        have e41 : ρ 41 = strV value := (show ρ 41 = ifV (((q1 && (sgood sn ss)) && (vgood va vb))) (strV value) from h41).trans (ifV_true (by first | exact hG | simp_all))
        have hsz := strV_size value
        unfold strV at e41
        simp [execOp, evR, e41, go_sem]
      refine tele_gval rfl (((q1 && (sgood sn ss)) && (vgood va vb))) (.bool q2) (fun ρ w' hk => by obtain ⟨_, hg, -⟩ := hk; have eg : ρ 39 = .bool ((q1 && (sgood sn ss)) && (vgood va vb)) := hg; cases hq : (((q1 && (sgood sn ss)) && (vgood va vb))) <;> simp [wantedR, Region.wanted, asBoolR_bool, asBoolR_undef, eg, ifV, hq]) ?_ ?_
      · rintro ρ w' he ⟨h42, hgd, -⟩ hG
        have e42 : ρ 42 = .int .i64 ((value.length : Nat) : Int) := (show ρ 42 = ifV (((q1 && (sgood sn ss)) && (vgood va vb))) (.int .i64 ((value.length : Nat) : Int)) from h42).trans (ifV_true (by first | exact hG | simp_all))
        rw [Q43]
        simp [execOp, evR, e42, go_sem]
      refine tele_val rfl (.bool (((q1 && (sgood sn ss)) && (vgood va vb)) && q2)) (fun _ _ _ => rfl) ?_ ?_
      · rintro ρ w' he ⟨h39, h43, -⟩
        have e39 : ρ 39 = .bool ((q1 && (sgood sn ss)) && (vgood va vb)) := h39
        have e43 : ρ 43 = ifV (((q1 && (sgood sn ss)) && (vgood va vb))) (.bool q2) := h43
        cases hc : (((q1 && (sgood sn ss)) && (vgood va vb))) <;> simp [execOp, evR, e39, e43, ifV, hc, go_sem]
      refine tele_move rfl (.inl rfl) rfl (isV (.bool (((q1 && (sgood sn ss)) && (vgood va vb)) && q2))) (fun ρ w' h => h) ?_
      refine tele_gval rfl ((((q1 && (sgood sn ss)) && (vgood va vb)) && q2)) (.pointer (some ⟨n, 4, none⟩)) (fun ρ w' hk => by obtain ⟨_, hg, -⟩ := hk; have eg : ρ 45 = .bool (((q1 && (sgood sn ss)) && (vgood va vb)) && q2) := hg; cases hq : ((((q1 && (sgood sn ss)) && (vgood va vb)) && q2)) <;> simp [wantedR, Region.wanted, asBoolR_bool, asBoolR_undef, eg, ifV, hq]) ?_ ?_
      · rintro ρ w' he ⟨h3, hgd, -⟩ hG
        have e3 : ρ 3 = .pointer (some ⟨n, 0, none⟩) := h3
        simp [execOp, evR, e3, go_sem]
      refine tele_gval rfl ((((q1 && (sgood sn ss)) && (vgood va vb)) && q2)) (.bool gone) (fun ρ w' hk => by obtain ⟨_, hg, -⟩ := hk; have eg : ρ 45 = .bool (((q1 && (sgood sn ss)) && (vgood va vb)) && q2) := hg; cases hq : ((((q1 && (sgood sn ss)) && (vgood va vb)) && q2)) <;> simp [wantedR, Region.wanted, asBoolR_bool, asBoolR_undef, eg, ifV, hq]) ?_ ?_
      · rintro ρ w' he ⟨h46, hgd, -⟩ hG
        have e46 : ρ 46 = .pointer (some ⟨n, 4, none⟩) := (show ρ 46 = ifV ((((q1 && (sgood sn ss)) && (vgood va vb)) && q2)) (.pointer (some ⟨n, 4, none⟩)) from h46).trans (ifV_true (by first | exact hG | simp_all))
        have c0 := (ba.ext he).cell (i := 4) rfl
        simp [execOp, evR, e46, c0, go_sem]
      refine tele_gval rfl ((((q1 && (sgood sn ss)) && (vgood va vb)) && q2)) (.bool gone) (fun ρ w' hk => by obtain ⟨_, hg, -⟩ := hk; have eg : ρ 45 = .bool (((q1 && (sgood sn ss)) && (vgood va vb)) && q2) := hg; cases hq : ((((q1 && (sgood sn ss)) && (vgood va vb)) && q2)) <;> simp [wantedR, Region.wanted, asBoolR_bool, asBoolR_undef, eg, ifV, hq]) ?_ ?_
      · rintro ρ w' he ⟨h47, hgd, -⟩ hG
        have e47 : ρ 47 = .bool gone := (show ρ 47 = ifV ((((q1 && (sgood sn ss)) && (vgood va vb)) && q2)) (.bool gone) from h47).trans (ifV_true (by first | exact hG | simp_all))
        simp [execOp, evR, e47, go_sem]
      refine tele_gval rfl (((((q1 && (sgood sn ss)) && (vgood va vb)) && q2) && gone)) (.pointer (some ⟨n, 5, none⟩)) (fun ρ w' hk => by obtain ⟨_, hg, -⟩ := hk; have eg : ρ 48 = ifV ((((q1 && (sgood sn ss)) && (vgood va vb)) && q2)) (.bool gone) := hg; cases h0 : ((((q1 && (sgood sn ss)) && (vgood va vb)) && q2)) <;> cases hq : (gone) <;> simp [wantedR, Region.wanted, asBoolR_bool, asBoolR_undef, eg, ifV, hq, h0]) ?_ ?_
      · rintro ρ w' he ⟨h3, hgd, -⟩ hG
        have e3 : ρ 3 = .pointer (some ⟨n, 0, none⟩) := h3
        simp [execOp, evR, e3, go_sem]
      refine tele_gval rfl (((((q1 && (sgood sn ss)) && (vgood va vb)) && q2) && gone)) (strV value) (fun ρ w' hk => by obtain ⟨_, hg, -⟩ := hk; have eg : ρ 48 = ifV ((((q1 && (sgood sn ss)) && (vgood va vb)) && q2)) (.bool gone) := hg; cases h0 : ((((q1 && (sgood sn ss)) && (vgood va vb)) && q2)) <;> cases hq : (gone) <;> simp [wantedR, Region.wanted, asBoolR_bool, asBoolR_undef, eg, ifV, hq, h0]) ?_ ?_
      · rintro ρ w' he ⟨h49, hgd, -⟩ hG
        have e49 : ρ 49 = .pointer (some ⟨n, 5, none⟩) := (show ρ 49 = ifV (((((q1 && (sgood sn ss)) && (vgood va vb)) && q2) && gone)) (.pointer (some ⟨n, 5, none⟩)) from h49).trans (ifV_true (by first | exact hG | simp_all))
        have c0 := (ba.ext he).cell (i := 5) rfl
        simp [execOp, evR, e49, c0, go_sem]
      refine tele_gval rfl (((((q1 && (sgood sn ss)) && (vgood va vb)) && q2) && gone)) (.bool q3) (fun ρ w' hk => by obtain ⟨_, hg, -⟩ := hk; have eg : ρ 48 = ifV ((((q1 && (sgood sn ss)) && (vgood va vb)) && q2)) (.bool gone) := hg; cases h0 : ((((q1 && (sgood sn ss)) && (vgood va vb)) && q2)) <;> cases hq : (gone) <;> simp [wantedR, Region.wanted, asBoolR_bool, asBoolR_undef, eg, ifV, hq, h0]) ?_ ?_
      · rintro ρ w' he ⟨h50, hgd, -⟩ hG
        have e50 : ρ 50 = strV value := (show ρ 50 = ifV (((((q1 && (sgood sn ss)) && (vgood va vb)) && q2) && gone)) (strV value) from h50).trans (ifV_true (by first | exact hG | simp_all))
        exact (exec_neq_str rfl e50 (show _ = strV [] from rfl)).trans (by rw [Q51])
      refine tele_gval rfl ((((q1 && (sgood sn ss)) && (vgood va vb)) && q2)) (.bool (gone && q3)) (fun ρ w' hk => by obtain ⟨_, _, hg, -⟩ := hk; have eg : ρ 45 = .bool (((q1 && (sgood sn ss)) && (vgood va vb)) && q2) := hg; cases hq : ((((q1 && (sgood sn ss)) && (vgood va vb)) && q2)) <;> simp [wantedR, Region.wanted, asBoolR_bool, asBoolR_undef, eg, ifV, hq]) ?_ ?_
      · rintro ρ w' he ⟨h48, h51, hgd, -⟩ hG
        have e48 : ρ 48 = .bool gone := (show ρ 48 = ifV ((((q1 && (sgood sn ss)) && (vgood va vb)) && q2)) (.bool gone) from h48).trans (ifV_true (by first | exact hG | simp_all))
        have e51 : ρ 51 = ifV (((((q1 && (sgood sn ss)) && (vgood va vb)) && q2) && gone)) (.bool q3) := h51
        cases hc : (gone) <;> simp [execOp, evR, e48, e51, ifV, hc, hG, go_sem]
      refine tele_gval rfl ((((q1 && (sgood sn ss)) && (vgood va vb)) && q2)) (.bool (!(gone && q3))) (fun ρ w' hk => by obtain ⟨_, hg, -⟩ := hk; have eg : ρ 45 = .bool (((q1 && (sgood sn ss)) && (vgood va vb)) && q2) := hg; cases hq : ((((q1 && (sgood sn ss)) && (vgood va vb)) && q2)) <;> simp [wantedR, Region.wanted, asBoolR_bool, asBoolR_undef, eg, ifV, hq]) ?_ ?_
      · rintro ρ w' he ⟨h52, hgd, -⟩ hG
        have e52 : ρ 52 = .bool (gone && q3) := (show ρ 52 = ifV ((((q1 && (sgood sn ss)) && (vgood va vb)) && q2)) (.bool (gone && q3)) from h52).trans (ifV_true (by first | exact hG | simp_all))
        simp [execOp, evR, e52, go_sem]
      refine tele_val rfl (.bool ((((q1 && (sgood sn ss)) && (vgood va vb)) && q2) && (!(gone && q3)))) (fun _ _ _ => rfl) ?_ ?_
      · rintro ρ w' he ⟨h45, h53, -⟩
        have e45 : ρ 45 = .bool (((q1 && (sgood sn ss)) && (vgood va vb)) && q2) := h45
        have e53 : ρ 53 = ifV ((((q1 && (sgood sn ss)) && (vgood va vb)) && q2)) (.bool (!(gone && q3))) := h53
        cases hc : ((((q1 && (sgood sn ss)) && (vgood va vb)) && q2)) <;> simp [execOp, evR, e45, e53, ifV, hc, go_sem]
      refine tele_move rfl (.inr rfl) rfl (isV (.bool ((((q1 && (sgood sn ss)) && (vgood va vb)) && q2) && (!(gone && q3))))) (fun ρ w' h => h) ?_
      refine tele_nil ?_
      rintro ρ w' hext ⟨f4, f54, f53, f52, f51, f50, f49, f48, f47, f46, f45, f44, f43, f42, f41, f40, f39, f38, f37, f36, f35, f34, f33, f32, f31, f30, f29, f28, f27, f26, f25, -⟩
      clear f25
      clear f26
      clear f27
      clear f28
      clear f29
      clear f30
      clear f31
      clear f32
      clear f33
      clear f34
      clear f35
      clear f36
      clear f37
      clear f38
      clear f39
      clear f40
      clear f41
      clear f42
      clear f43
      clear f44
      clear f45
      clear f46
      clear f47
      clear f48
      clear f49
      clear f50
      clear f51
      clear f52
      clear f53
      clear f54
      replace f4 : ρ 4 = .bool ((((q1 && (sgood sn ss)) && (vgood va vb)) && q2) && (!(gone && q3))) := f4
      simp only [puts, Act.put, List.setIfInBounds_toArray, List.set_cons_zero, List.set_cons_succ]
      have hok : ((((q1 && (sgood sn ss)) && (vgood va vb)) && q2) && (!(gone && q3))) = cellrest ⟨sn, ss, va, vb, gone, value, da, db⟩ := by
        unfold cellrest
        rw [HQ.out, Q28, Q43, Q51]
        dsimp only
        have a1 : decide ((value.length : Int) ≤ 64) = decide (value.length ≤ 64) := by rw [Bool.eq_iff_iff]; simp; omega
        rw [a1]
        cases gone <;> simp
      rw [f4, hok]
      clear f4 hok Q28 Q43 Q51
      go_wp2_with fail
      go_ret
      exact ⟨by rw [HCG.out]; rfl, hx.trans hext⟩
    · have HCG : Hid (cellgood 1 ⟨sn, ss, va, vb, gone, value, da, db⟩ = false) := Lib.hid (by unfold cellgood; simp; intro h1 h2; exact absurd ⟨h1, h2⟩ hd)
      have hdd : ((da == 0) && (db == 0)) = false := by rw [Bool.eq_false_iff]; intro h; simp at h; exact hd h
      clear hd
      unfold clV strV
      dsimp only
      go_enter Try.func45, Try.ntmps45
      go_upto_region 1 with (fail)
      have ba := Blk.new w #[.int .i64 sn, .int .i64 ss, .int .i64 va, .int .i64 vb, .bool gone, .string ⟨value.toArray⟩, .int .i64 da, .int .i64 db] 54
      have hx := ext_alloc w (.cells #[.int .i64 sn, .int .i64 ss, .int .i64 va, .int .i64 vb, .bool gone, .string ⟨value.toArray⟩, .int .i64 da, .int .i64 db] 54)
      obtain ⟨n, hn⟩ : ∃ n, n = w.heap.size := ⟨_, rfl⟩
      rw [← hn] at ba ⊢
      have HN := Lib.hid (show w.heap.size ≤ n by omega)
      clear hn
      generalize w.alloc (.cells #[.int .i64 sn, .int .i64 ss, .int .i64 va, .int .i64 vb, .bool gone, .string ⟨value.toArray⟩, .int .i64 da, .int .i64 db] 54) = W at *
      have d6 := ba.cell (i := 6) rfl
      have d7 := ba.cell (i := 7) rfl
      go_wp2_with fail
      go_ret
      exact ⟨by rw [HCG.out]; rfl, hx⟩
  by_cases hp2 : p = 2
  · subst hp2
    by_cases hgv : (gone || !(vgood da db)) = true
    · have HGV := Lib.hid hgv
      have HCG : Hid (cellgood 2 ⟨sn, ss, va, vb, gone, value, da, db⟩ = false) := Lib.hid (by unfold cellgood; dsimp only; cases gone <;> simp_all)
      clear hgv
      unfold clV strV
      dsimp only
      go_enter Try.func45, Try.ntmps45
      go_upto_region 1 with (fail)
      have ba := Blk.new w #[.int .i64 sn, .int .i64 ss, .int .i64 va, .int .i64 vb, .bool gone, .string ⟨value.toArray⟩, .int .i64 da, .int .i64 db] 54
      have hx := ext_alloc w (.cells #[.int .i64 sn, .int .i64 ss, .int .i64 va, .int .i64 vb, .bool gone, .string ⟨value.toArray⟩, .int .i64 da, .int .i64 db] 54)
      obtain ⟨n, hn⟩ : ∃ n, n = w.heap.size := ⟨_, rfl⟩
      rw [← hn] at ba ⊢
      have HN := Lib.hid (show w.heap.size ≤ n by omega)
      clear hn
      generalize w.alloc (.cells #[.int .i64 sn, .int .i64 ss, .int .i64 va, .int .i64 vb, .bool gone, .string ⟨value.toArray⟩, .int .i64 da, .int .i64 db] 54) = W at *
      replace ba : Blk W n [.int .i64 sn, .int .i64 ss, .int .i64 va, .int .i64 vb, .bool gone, strV value, .int .i64 da, .int .i64 db] := ba
      go_upto_region 7 with (fail)
      refine wp_region_seq (by kernel_rfl) ?_
      refine tele_val rfl (.pointer (some ⟨n, 4, none⟩)) (fun _ _ _ => rfl) ?_ ?_
      · rintro ρ w' he ⟨h3, -⟩
        have e3 : ρ 3 = .pointer (some ⟨n, 0, none⟩) := h3
        simp [execOp, evR, e3, go_sem]
      refine tele_val rfl (.bool gone) (fun _ _ _ => rfl) ?_ ?_
      · rintro ρ w' he ⟨h14, -⟩
        have e14 : ρ 14 = .pointer (some ⟨n, 4, none⟩) := h14
        have c0 := (ba.ext he).cell (i := 4) rfl
        simp [execOp, evR, e14, c0, go_sem]
      refine tele_move rfl (.inl rfl) rfl (isV (.bool gone)) (fun ρ w' h => h) ?_
      refine tele_gval rfl (!gone) (.pointer (some ⟨n, 6, none⟩)) (fun ρ w' hk => by obtain ⟨_, hg, -⟩ := hk; have eg : ρ 16 = .bool gone := hg; cases hq : (gone) <;> simp [wantedR, Region.wanted, asBoolR_bool, asBoolR_undef, eg, ifV, hq]) ?_ ?_
      · rintro ρ w' he ⟨h3, hgd, -⟩ hG
        have e3 : ρ 3 = .pointer (some ⟨n, 0, none⟩) := h3
        simp [execOp, evR, e3, go_sem]
      refine tele_gval rfl (!gone) (.agg #[.int .i64 da, .int .i64 db]) (fun ρ w' hk => by obtain ⟨_, hg, -⟩ := hk; have eg : ρ 16 = .bool gone := hg; cases hq : (gone) <;> simp [wantedR, Region.wanted, asBoolR_bool, asBoolR_undef, eg, ifV, hq]) ?_ ?_
      · rintro ρ w' he ⟨h17, hgd, -⟩ hG
        have e17 : ρ 17 = .pointer (some ⟨n, 6, none⟩) := (show ρ 17 = ifV (!gone) (.pointer (some ⟨n, 6, none⟩)) from h17).trans (ifV_true (by first | exact hG | simp_all))
        have c0 := (ba.ext he).cell (i := 6) rfl
        have c1 := (ba.ext he).cell (i := 7) rfl
        simp [execOp, evR, e17, c0, c1, go_sem]
      refine tele_gcall rfl rfl Try.func35 (by kernel_rfl) (!gone) (.bool (vgood da db)) (fun ρ w' hk => by obtain ⟨_, hg, -⟩ := hk; have eg : ρ 16 = .bool gone := hg; cases hq : (gone) <;> simp [wantedR, Region.wanted, asBoolR_bool, asBoolR_undef, eg, ifV, hq]) ?_ ?_
      · rintro ρ w' he ⟨h18, hgd, -⟩ hG
        have e18 : ρ 18 = .agg #[.int .i64 da, .int .i64 db] := (show ρ 18 = ifV (!gone) (.agg #[.int .i64 da, .int .i64 db]) from h18).trans (ifV_true (by first | exact hG | simp_all))
        simp only [evR, List.map_toArray, List.map_cons, List.map_nil, e18]
        refine (vecGood_any da db _).mono ?_
        rintro e w'' ⟨rfl, hx⟩
        exact ⟨rfl, hx⟩
      refine tele_gval rfl (!gone) (.bool (!(vgood da db))) (fun ρ w' hk => by obtain ⟨_, hg, -⟩ := hk; have eg : ρ 16 = .bool gone := hg; cases hq : (gone) <;> simp [wantedR, Region.wanted, asBoolR_bool, asBoolR_undef, eg, ifV, hq]) ?_ ?_
      · rintro ρ w' he ⟨h19, hgd, -⟩ hG
        have e19 : ρ 19 = .bool (vgood da db) := (show ρ 19 = ifV (!gone) (.bool (vgood da db)) from h19).trans (ifV_true (by first | exact hG | simp_all))
        simp [execOp, evR, e19, go_sem]
      refine tele_val rfl (.bool (gone || (!(vgood da db)))) (fun _ _ _ => rfl) ?_ ?_
      · rintro ρ w' he ⟨h16, h20, -⟩
        have e16 : ρ 16 = .bool gone := h16
        have e20 : ρ 20 = ifV (!gone) (.bool (!(vgood da db))) := h20
        cases hc : (gone) <;> simp [execOp, evR, e16, e20, ifV, hc, go_sem]
      refine tele_nil ?_
      rintro ρ w' hext ⟨f21, f20, f19, f18, f17, f16, f15, f14, -⟩
      clear f14
      clear f15
      clear f16
      clear f17
      clear f18
      clear f19
      clear f20
      replace f21 : ρ 21 = .bool (gone || (!(vgood da db))) := f21
      simp only [puts, Act.put, List.setIfInBounds_toArray, List.set_cons_zero, List.set_cons_succ]
      rw [f21, HGV.out]
      clear f21
      replace ba := ba.ext hext
      replace hx := hx.trans hext
      clear hext
      go_wp2_with fail
      go_ret
      exact ⟨by rw [HCG.out]; rfl, hx⟩
    · have hgf : (gone || !(vgood da db)) = false := by simpa using hgv
      have HGV := Lib.hid hgf
      have HCG : Hid (cellgood 2 ⟨sn, ss, va, vb, gone, value, da, db⟩ = cellrest ⟨sn, ss, va, vb, gone, value, da, db⟩) := Lib.hid (by unfold cellgood; dsimp only; cases gone <;> simp_all)
      clear hgv hgf
      unfold clV strV
      dsimp only
      go_enter Try.func45, Try.ntmps45
      go_upto_region 1 with (fail)
      have ba := Blk.new w #[.int .i64 sn, .int .i64 ss, .int .i64 va, .int .i64 vb, .bool gone, .string ⟨value.toArray⟩, .int .i64 da, .int .i64 db] 54
      have hx := ext_alloc w (.cells #[.int .i64 sn, .int .i64 ss, .int .i64 va, .int .i64 vb, .bool gone, .string ⟨value.toArray⟩, .int .i64 da, .int .i64 db] 54)
      obtain ⟨n, hn⟩ : ∃ n, n = w.heap.size := ⟨_, rfl⟩
      rw [← hn] at ba ⊢
      have HN := Lib.hid (show w.heap.size ≤ n by omega)
      clear hn
      generalize w.alloc (.cells #[.int .i64 sn, .int .i64 ss, .int .i64 va, .int .i64 vb, .bool gone, .string ⟨value.toArray⟩, .int .i64 da, .int .i64 db] 54) = W at *
      replace ba : Blk W n [.int .i64 sn, .int .i64 ss, .int .i64 va, .int .i64 vb, .bool gone, strV value, .int .i64 da, .int .i64 db] := ba
      go_upto_region 7 with (fail)
      refine wp_region_seq (by kernel_rfl) ?_
      refine tele_val rfl (.pointer (some ⟨n, 4, none⟩)) (fun _ _ _ => rfl) ?_ ?_
      · rintro ρ w' he ⟨h3, -⟩
        have e3 : ρ 3 = .pointer (some ⟨n, 0, none⟩) := h3
        simp [execOp, evR, e3, go_sem]
      refine tele_val rfl (.bool gone) (fun _ _ _ => rfl) ?_ ?_
      · rintro ρ w' he ⟨h14, -⟩
        have e14 : ρ 14 = .pointer (some ⟨n, 4, none⟩) := h14
        have c0 := (ba.ext he).cell (i := 4) rfl
        simp [execOp, evR, e14, c0, go_sem]
      refine tele_move rfl (.inl rfl) rfl (isV (.bool gone)) (fun ρ w' h => h) ?_
      refine tele_gval rfl (!gone) (.pointer (some ⟨n, 6, none⟩)) (fun ρ w' hk => by obtain ⟨_, hg, -⟩ := hk; have eg : ρ 16 = .bool gone := hg; cases hq : (gone) <;> simp [wantedR, Region.wanted, asBoolR_bool, asBoolR_undef, eg, ifV, hq]) ?_ ?_
      · rintro ρ w' he ⟨h3, hgd, -⟩ hG
        have e3 : ρ 3 = .pointer (some ⟨n, 0, none⟩) := h3
        simp [execOp, evR, e3, go_sem]
      refine tele_gval rfl (!gone) (.agg #[.int .i64 da, .int .i64 db]) (fun ρ w' hk => by obtain ⟨_, hg, -⟩ := hk; have eg : ρ 16 = .bool gone := hg; cases hq : (gone) <;> simp [wantedR, Region.wanted, asBoolR_bool, asBoolR_undef, eg, ifV, hq]) ?_ ?_
      · rintro ρ w' he ⟨h17, hgd, -⟩ hG
        have e17 : ρ 17 = .pointer (some ⟨n, 6, none⟩) := (show ρ 17 = ifV (!gone) (.pointer (some ⟨n, 6, none⟩)) from h17).trans (ifV_true (by first | exact hG | simp_all))
        have c0 := (ba.ext he).cell (i := 6) rfl
        have c1 := (ba.ext he).cell (i := 7) rfl
        simp [execOp, evR, e17, c0, c1, go_sem]
      refine tele_gcall rfl rfl Try.func35 (by kernel_rfl) (!gone) (.bool (vgood da db)) (fun ρ w' hk => by obtain ⟨_, hg, -⟩ := hk; have eg : ρ 16 = .bool gone := hg; cases hq : (gone) <;> simp [wantedR, Region.wanted, asBoolR_bool, asBoolR_undef, eg, ifV, hq]) ?_ ?_
      · rintro ρ w' he ⟨h18, hgd, -⟩ hG
        have e18 : ρ 18 = .agg #[.int .i64 da, .int .i64 db] := (show ρ 18 = ifV (!gone) (.agg #[.int .i64 da, .int .i64 db]) from h18).trans (ifV_true (by first | exact hG | simp_all))
        simp only [evR, List.map_toArray, List.map_cons, List.map_nil, e18]
        refine (vecGood_any da db _).mono ?_
        rintro e w'' ⟨rfl, hx⟩
        exact ⟨rfl, hx⟩
      refine tele_gval rfl (!gone) (.bool (!(vgood da db))) (fun ρ w' hk => by obtain ⟨_, hg, -⟩ := hk; have eg : ρ 16 = .bool gone := hg; cases hq : (gone) <;> simp [wantedR, Region.wanted, asBoolR_bool, asBoolR_undef, eg, ifV, hq]) ?_ ?_
      · rintro ρ w' he ⟨h19, hgd, -⟩ hG
        have e19 : ρ 19 = .bool (vgood da db) := (show ρ 19 = ifV (!gone) (.bool (vgood da db)) from h19).trans (ifV_true (by first | exact hG | simp_all))
        simp [execOp, evR, e19, go_sem]
      refine tele_val rfl (.bool (gone || (!(vgood da db)))) (fun _ _ _ => rfl) ?_ ?_
      · rintro ρ w' he ⟨h16, h20, -⟩
        have e16 : ρ 16 = .bool gone := h16
        have e20 : ρ 20 = ifV (!gone) (.bool (!(vgood da db))) := h20
        cases hc : (gone) <;> simp [execOp, evR, e16, e20, ifV, hc, go_sem]
      refine tele_nil ?_
      rintro ρ w' hext ⟨f21, f20, f19, f18, f17, f16, f15, f14, -⟩
      clear f14
      clear f15
      clear f16
      clear f17
      clear f18
      clear f19
      clear f20
      replace f21 : ρ 21 = .bool (gone || (!(vgood da db))) := f21
      simp only [puts, Act.put, List.setIfInBounds_toArray, List.set_cons_zero, List.set_cons_succ]
      rw [f21, HGV.out]
      clear f21
      replace ba := ba.ext hext
      replace hx := hx.trans hext
      clear hext
      have k0 := ba.cell (i := 0) rfl
      have k1 := ba.cell (i := 1) rfl
      have k2 := ba.cell (i := 2) rfl
      have k3 := ba.cell (i := 3) rfl
      have k4 := ba.cell (i := 4) rfl
      have k5 := ba.cell (i := 5) rfl
      have k6 := ba.cell (i := 6) rfl
      have k7 := ba.cell (i := 7) rfl
      have hwr := written_any sn ss va vb gone value da db w'
      unfold clV strV at hwr
      dsimp only at hwr
      have HWR := Lib.hid hwr
      clear hwr
      go_wp2_with fail
      refine HWR.out.mono ?_
      rintro e w2 ⟨rfl, x2⟩
      clear k0 k1 k2 k3 k4 k5 k6 k7 HWR
      replace ba := ba.ext x2
      replace hx := hx.trans x2
      clear x2
      generalize hqq : cwritten ⟨sn, ss, va, vb, gone, value, da, db⟩ = q at *
      have HQ := Lib.hid hqq
      clear hqq
      cases q
      · go_wp2_with fail
        go_ret
        exact ⟨by rw [HCG.out]; unfold cellrest; rw [HQ.out]; rfl, hx⟩
      go_upto_region 11 with (fail)
      replace ba : Blk w2 n [.int .i64 sn, .int .i64 ss, .int .i64 va, .int .i64 vb, .bool gone, strV value, .int .i64 da, .int .i64 db] := ba
      obtain ⟨q1, Q28⟩ : ∃ q : Bool, q = decide (0 < sn) := ⟨_, rfl⟩
      obtain ⟨q2, Q43⟩ : ∃ q : Bool, q = decide ((value.length : Int) ≤ 64) := ⟨_, rfl⟩
      obtain ⟨q3, Q51⟩ : ∃ q : Bool, q = (!(value == [])) := ⟨_, rfl⟩
      refine wp_region_seq (by kernel_rfl) ?_
      refine tele_val rfl (.pointer (some ⟨n, 0, none⟩)) (fun _ _ _ => rfl) ?_ ?_
      · rintro ρ w' he ⟨h3, -⟩
        have e3 : ρ 3 = .pointer (some ⟨n, 0, none⟩) := h3
        simp [execOp, evR, e3, go_sem]
      refine tele_val rfl (.pointer (some ⟨n, 0, none⟩)) (fun _ _ _ => rfl) ?_ ?_
      · rintro ρ w' he ⟨h25, -⟩
        have e25 : ρ 25 = .pointer (some ⟨n, 0, none⟩) := h25
        simp [execOp, evR, e25, go_sem]
      refine tele_val rfl (.int .i64 sn) (fun _ _ _ => rfl) ?_ ?_
      · rintro ρ w' he ⟨h26, -⟩
        have e26 : ρ 26 = .pointer (some ⟨n, 0, none⟩) := h26
        have c0 := (ba.ext he).cell (i := 0) rfl
        simp [execOp, evR, e26, c0, go_sem]
      refine tele_val rfl (.bool q1) (fun _ _ _ => rfl) ?_ ?_
      · rintro ρ w' he ⟨h27, -⟩
        have e27 : ρ 27 = .int .i64 sn := h27
        rw [Q28]
        simp [execOp, evR, e27, go_sem]
      refine tele_move rfl (.inl rfl) rfl (isV (.bool q1)) (fun ρ w' h => h) ?_
      refine tele_gval rfl (q1) (.pointer (some ⟨n, 0, none⟩)) (fun ρ w' hk => by obtain ⟨_, hg, -⟩ := hk; have eg : ρ 29 = .bool q1 := hg; cases hq : (q1) <;> simp [wantedR, Region.wanted, asBoolR_bool, asBoolR_undef, eg, ifV, hq]) ?_ ?_
      · rintro ρ w' he ⟨h3, hgd, -⟩ hG
        have e3 : ρ 3 = .pointer (some ⟨n, 0, none⟩) := h3
        simp [execOp, evR, e3, go_sem]
      refine tele_gval rfl (q1) (.agg #[.int .i64 sn, .int .i64 ss]) (fun ρ w' hk => by obtain ⟨_, hg, -⟩ := hk; have eg : ρ 29 = .bool q1 := hg; cases hq : (q1) <;> simp [wantedR, Region.wanted, asBoolR_bool, asBoolR_undef, eg, ifV, hq]) ?_ ?_
      · rintro ρ w' he ⟨h30, hgd, -⟩ hG
        have e30 : ρ 30 = .pointer (some ⟨n, 0, none⟩) := (show ρ 30 = ifV (q1) (.pointer (some ⟨n, 0, none⟩)) from h30).trans (ifV_true (by first | exact hG | simp_all))
        have c0 := (ba.ext he).cell (i := 0) rfl
        have c1 := (ba.ext he).cell (i := 1) rfl
        simp [execOp, evR, e30, c0, c1, go_sem]
      refine tele_gcall rfl rfl Try.func34 (by kernel_rfl) (q1) (.bool (sgood sn ss)) (fun ρ w' hk => by obtain ⟨_, hg, -⟩ := hk; have eg : ρ 29 = .bool q1 := hg; cases hq : (q1) <;> simp [wantedR, Region.wanted, asBoolR_bool, asBoolR_undef, eg, ifV, hq]) ?_ ?_
      · rintro ρ w' he ⟨h31, hgd, -⟩ hG
        have e31 : ρ 31 = .agg #[.int .i64 sn, .int .i64 ss] := (show ρ 31 = ifV (q1) (.agg #[.int .i64 sn, .int .i64 ss]) from h31).trans (ifV_true (by first | exact hG | simp_all))
        simp only [evR, List.map_toArray, List.map_cons, List.map_nil, e31]
        refine (stGood_any sn ss _).mono ?_
        rintro e w'' ⟨rfl, hx⟩
        exact ⟨rfl, hx⟩
      refine tele_val rfl (.bool (q1 && (sgood sn ss))) (fun _ _ _ => rfl) ?_ ?_
      · rintro ρ w' he ⟨h29, h32, -⟩
        have e29 : ρ 29 = .bool q1 := h29
        have e32 : ρ 32 = ifV (q1) (.bool (sgood sn ss)) := h32
        cases hc : (q1) <;> simp [execOp, evR, e29, e32, ifV, hc, go_sem]
      refine tele_move rfl (.inl rfl) rfl (isV (.bool (q1 && (sgood sn ss)))) (fun ρ w' h => h) ?_
      refine tele_gval rfl ((q1 && (sgood sn ss))) (.pointer (some ⟨n, 2, none⟩)) (fun ρ w' hk => by obtain ⟨_, hg, -⟩ := hk; have eg : ρ 34 = .bool (q1 && (sgood sn ss)) := hg; cases hq : ((q1 && (sgood sn ss))) <;> simp [wantedR, Region.wanted, asBoolR_bool, asBoolR_undef, eg, ifV, hq]) ?_ ?_
      · rintro ρ w' he ⟨h3, hgd, -⟩ hG
        have e3 : ρ 3 = .pointer (some ⟨n, 0, none⟩) := h3
        simp [execOp, evR, e3, go_sem]
      refine tele_gval rfl ((q1 && (sgood sn ss))) (.agg #[.int .i64 va, .int .i64 vb]) (fun ρ w' hk => by obtain ⟨_, hg, -⟩ := hk; have eg : ρ 34 = .bool (q1 && (sgood sn ss)) := hg; cases hq : ((q1 && (sgood sn ss))) <;> simp [wantedR, Region.wanted, asBoolR_bool, asBoolR_undef, eg, ifV, hq]) ?_ ?_
      · rintro ρ w' he ⟨h35, hgd, -⟩ hG
        have e35 : ρ 35 = .pointer (some ⟨n, 2, none⟩) := (show ρ 35 = ifV ((q1 && (sgood sn ss))) (.pointer (some ⟨n, 2, none⟩)) from h35).trans (ifV_true (by first | exact hG | simp_all))
        have c0 := (ba.ext he).cell (i := 2) rfl
        have c1 := (ba.ext he).cell (i := 3) rfl
        simp [execOp, evR, e35, c0, c1, go_sem]
      refine tele_gcall rfl rfl Try.func35 (by kernel_rfl) ((q1 && (sgood sn ss))) (.bool (vgood va vb)) (fun ρ w' hk => by obtain ⟨_, hg, -⟩ := hk; have eg : ρ 34 = .bool (q1 && (sgood sn ss)) := hg; cases hq : ((q1 && (sgood sn ss))) <;> simp [wantedR, Region.wanted, asBoolR_bool, asBoolR_undef, eg, ifV, hq]) ?_ ?_
      · rintro ρ w' he ⟨h36, hgd, -⟩ hG
        have e36 : ρ 36 = .agg #[.int .i64 va, .int .i64 vb] := (show ρ 36 = ifV ((q1 && (sgood sn ss))) (.agg #[.int .i64 va, .int .i64 vb]) from h36).trans (ifV_true (by first | exact hG | simp_all))
        simp only [evR, List.map_toArray, List.map_cons, List.map_nil, e36]
        refine (vecGood_any va vb _).mono ?_
        rintro e w'' ⟨rfl, hx⟩
        exact ⟨rfl, hx⟩
      refine tele_val rfl (.bool ((q1 && (sgood sn ss)) && (vgood va vb))) (fun _ _ _ => rfl) ?_ ?_
      · rintro ρ w' he ⟨h34, h37, -⟩
        have e34 : ρ 34 = .bool (q1 && (sgood sn ss)) := h34
        have e37 : ρ 37 = ifV ((q1 && (sgood sn ss))) (.bool (vgood va vb)) := h37
        cases hc : ((q1 && (sgood sn ss))) <;> simp [execOp, evR, e34, e37, ifV, hc, go_sem]
      refine tele_move rfl (.inl rfl) rfl (isV (.bool ((q1 && (sgood sn ss)) && (vgood va vb)))) (fun ρ w' h => h) ?_
      refine tele_gval rfl (((q1 && (sgood sn ss)) && (vgood va vb))) (.pointer (some ⟨n, 5, none⟩)) (fun ρ w' hk => by obtain ⟨_, hg, -⟩ := hk; have eg : ρ 39 = .bool ((q1 && (sgood sn ss)) && (vgood va vb)) := hg; cases hq : (((q1 && (sgood sn ss)) && (vgood va vb))) <;> simp [wantedR, Region.wanted, asBoolR_bool, asBoolR_undef, eg, ifV, hq]) ?_ ?_
      · rintro ρ w' he ⟨h3, hgd, -⟩ hG
        have e3 : ρ 3 = .pointer (some ⟨n, 0, none⟩) := h3
        simp [execOp, evR, e3, go_sem]
      refine tele_gval rfl (((q1 && (sgood sn ss)) && (vgood va vb))) (strV value) (fun ρ w' hk => by obtain ⟨_, hg, -⟩ := hk; have eg : ρ 39 = .bool ((q1 && (sgood sn ss)) && (vgood va vb)) := hg; cases hq : (((q1 && (sgood sn ss)) && (vgood va vb))) <;> simp [wantedR, Region.wanted, asBoolR_bool, asBoolR_undef, eg, ifV, hq]) ?_ ?_
      · rintro ρ w' he ⟨h40, hgd, -⟩ hG
        have e40 : ρ 40 = .pointer (some ⟨n, 5, none⟩) := (show ρ 40 = ifV (((q1 && (sgood sn ss)) && (vgood va vb))) (.pointer (some ⟨n, 5, none⟩)) from h40).trans (ifV_true (by first | exact hG | simp_all))
        have c0 := (ba.ext he).cell (i := 5) rfl
        simp [execOp, evR, e40, c0, go_sem]
      refine tele_gval rfl (((q1 && (sgood sn ss)) && (vgood va vb))) (.int .i64 ((value.length : Nat) : Int)) (fun ρ w' hk => by obtain ⟨_, hg, -⟩ := hk; have eg : ρ 39 = .bool ((q1 && (sgood sn ss)) && (vgood va vb)) := hg; cases hq : (((q1 && (sgood sn ss)) && (vgood va vb))) <;> simp [wantedR, Region.wanted, asBoolR_bool, asBoolR_undef, eg, ifV, hq]) ?_ ?_
      · rintro ρ w' he ⟨h41, hgd, -⟩ hG
        have e41 : ρ 41 = strV value := (show ρ 41 = ifV (((q1 && (sgood sn ss)) && (vgood va vb))) (strV value) from h41).trans (ifV_true (by first | exact hG | simp_all))
        have hsz := strV_size value
        unfold strV at e41
        simp [execOp, evR, e41, go_sem]
      refine tele_gval rfl (((q1 && (sgood sn ss)) && (vgood va vb))) (.bool q2) (fun ρ w' hk => by obtain ⟨_, hg, -⟩ := hk; have eg : ρ 39 = .bool ((q1 && (sgood sn ss)) && (vgood va vb)) := hg; cases hq : (((q1 && (sgood sn ss)) && (vgood va vb))) <;> simp [wantedR, Region.wanted, asBoolR_bool, asBoolR_undef, eg, ifV, hq]) ?_ ?_
      · rintro ρ w' he ⟨h42, hgd, -⟩ hG
        have e42 : ρ 42 = .int .i64 ((value.length : Nat) : Int) := (show ρ 42 = ifV (((q1 && (sgood sn ss)) && (vgood va vb))) (.int .i64 ((value.length : Nat) : Int)) from h42).trans (ifV_true (by first | exact hG | simp_all))
        rw [Q43]
        simp [execOp, evR, e42, go_sem]
      refine tele_val rfl (.bool (((q1 && (sgood sn ss)) && (vgood va vb)) && q2)) (fun _ _ _ => rfl) ?_ ?_
      · rintro ρ w' he ⟨h39, h43, -⟩
        have e39 : ρ 39 = .bool ((q1 && (sgood sn ss)) && (vgood va vb)) := h39
        have e43 : ρ 43 = ifV (((q1 && (sgood sn ss)) && (vgood va vb))) (.bool q2) := h43
        cases hc : (((q1 && (sgood sn ss)) && (vgood va vb))) <;> simp [execOp, evR, e39, e43, ifV, hc, go_sem]
      refine tele_move rfl (.inl rfl) rfl (isV (.bool (((q1 && (sgood sn ss)) && (vgood va vb)) && q2))) (fun ρ w' h => h) ?_
      refine tele_gval rfl ((((q1 && (sgood sn ss)) && (vgood va vb)) && q2)) (.pointer (some ⟨n, 4, none⟩)) (fun ρ w' hk => by obtain ⟨_, hg, -⟩ := hk; have eg : ρ 45 = .bool (((q1 && (sgood sn ss)) && (vgood va vb)) && q2) := hg; cases hq : ((((q1 && (sgood sn ss)) && (vgood va vb)) && q2)) <;> simp [wantedR, Region.wanted, asBoolR_bool, asBoolR_undef, eg, ifV, hq]) ?_ ?_
      · rintro ρ w' he ⟨h3, hgd, -⟩ hG
        have e3 : ρ 3 = .pointer (some ⟨n, 0, none⟩) := h3
        simp [execOp, evR, e3, go_sem]
      refine tele_gval rfl ((((q1 && (sgood sn ss)) && (vgood va vb)) && q2)) (.bool gone) (fun ρ w' hk => by obtain ⟨_, hg, -⟩ := hk; have eg : ρ 45 = .bool (((q1 && (sgood sn ss)) && (vgood va vb)) && q2) := hg; cases hq : ((((q1 && (sgood sn ss)) && (vgood va vb)) && q2)) <;> simp [wantedR, Region.wanted, asBoolR_bool, asBoolR_undef, eg, ifV, hq]) ?_ ?_
      · rintro ρ w' he ⟨h46, hgd, -⟩ hG
        have e46 : ρ 46 = .pointer (some ⟨n, 4, none⟩) := (show ρ 46 = ifV ((((q1 && (sgood sn ss)) && (vgood va vb)) && q2)) (.pointer (some ⟨n, 4, none⟩)) from h46).trans (ifV_true (by first | exact hG | simp_all))
        have c0 := (ba.ext he).cell (i := 4) rfl
        simp [execOp, evR, e46, c0, go_sem]
      refine tele_gval rfl ((((q1 && (sgood sn ss)) && (vgood va vb)) && q2)) (.bool gone) (fun ρ w' hk => by obtain ⟨_, hg, -⟩ := hk; have eg : ρ 45 = .bool (((q1 && (sgood sn ss)) && (vgood va vb)) && q2) := hg; cases hq : ((((q1 && (sgood sn ss)) && (vgood va vb)) && q2)) <;> simp [wantedR, Region.wanted, asBoolR_bool, asBoolR_undef, eg, ifV, hq]) ?_ ?_
      · rintro ρ w' he ⟨h47, hgd, -⟩ hG
        have e47 : ρ 47 = .bool gone := (show ρ 47 = ifV ((((q1 && (sgood sn ss)) && (vgood va vb)) && q2)) (.bool gone) from h47).trans (ifV_true (by first | exact hG | simp_all))
        simp [execOp, evR, e47, go_sem]
      refine tele_gval rfl (((((q1 && (sgood sn ss)) && (vgood va vb)) && q2) && gone)) (.pointer (some ⟨n, 5, none⟩)) (fun ρ w' hk => by obtain ⟨_, hg, -⟩ := hk; have eg : ρ 48 = ifV ((((q1 && (sgood sn ss)) && (vgood va vb)) && q2)) (.bool gone) := hg; cases h0 : ((((q1 && (sgood sn ss)) && (vgood va vb)) && q2)) <;> cases hq : (gone) <;> simp [wantedR, Region.wanted, asBoolR_bool, asBoolR_undef, eg, ifV, hq, h0]) ?_ ?_
      · rintro ρ w' he ⟨h3, hgd, -⟩ hG
        have e3 : ρ 3 = .pointer (some ⟨n, 0, none⟩) := h3
        simp [execOp, evR, e3, go_sem]
      refine tele_gval rfl (((((q1 && (sgood sn ss)) && (vgood va vb)) && q2) && gone)) (strV value) (fun ρ w' hk => by obtain ⟨_, hg, -⟩ := hk; have eg : ρ 48 = ifV ((((q1 && (sgood sn ss)) && (vgood va vb)) && q2)) (.bool gone) := hg; cases h0 : ((((q1 && (sgood sn ss)) && (vgood va vb)) && q2)) <;> cases hq : (gone) <;> simp [wantedR, Region.wanted, asBoolR_bool, asBoolR_undef, eg, ifV, hq, h0]) ?_ ?_
      · rintro ρ w' he ⟨h49, hgd, -⟩ hG
        have e49 : ρ 49 = .pointer (some ⟨n, 5, none⟩) := (show ρ 49 = ifV (((((q1 && (sgood sn ss)) && (vgood va vb)) && q2) && gone)) (.pointer (some ⟨n, 5, none⟩)) from h49).trans (ifV_true (by first | exact hG | simp_all))
        have c0 := (ba.ext he).cell (i := 5) rfl
        simp [execOp, evR, e49, c0, go_sem]
      refine tele_gval rfl (((((q1 && (sgood sn ss)) && (vgood va vb)) && q2) && gone)) (.bool q3) (fun ρ w' hk => by obtain ⟨_, hg, -⟩ := hk; have eg : ρ 48 = ifV ((((q1 && (sgood sn ss)) && (vgood va vb)) && q2)) (.bool gone) := hg; cases h0 : ((((q1 && (sgood sn ss)) && (vgood va vb)) && q2)) <;> cases hq : (gone) <;> simp [wantedR, Region.wanted, asBoolR_bool, asBoolR_undef, eg, ifV, hq, h0]) ?_ ?_
      · rintro ρ w' he ⟨h50, hgd, -⟩ hG
        have e50 : ρ 50 = strV value := (show ρ 50 = ifV (((((q1 && (sgood sn ss)) && (vgood va vb)) && q2) && gone)) (strV value) from h50).trans (ifV_true (by first | exact hG | simp_all))
        exact (exec_neq_str rfl e50 (show _ = strV [] from rfl)).trans (by rw [Q51])
      refine tele_gval rfl ((((q1 && (sgood sn ss)) && (vgood va vb)) && q2)) (.bool (gone && q3)) (fun ρ w' hk => by obtain ⟨_, _, hg, -⟩ := hk; have eg : ρ 45 = .bool (((q1 && (sgood sn ss)) && (vgood va vb)) && q2) := hg; cases hq : ((((q1 && (sgood sn ss)) && (vgood va vb)) && q2)) <;> simp [wantedR, Region.wanted, asBoolR_bool, asBoolR_undef, eg, ifV, hq]) ?_ ?_
      · rintro ρ w' he ⟨h48, h51, hgd, -⟩ hG
        have e48 : ρ 48 = .bool gone := (show ρ 48 = ifV ((((q1 && (sgood sn ss)) && (vgood va vb)) && q2)) (.bool gone) from h48).trans (ifV_true (by first | exact hG | simp_all))
        have e51 : ρ 51 = ifV (((((q1 && (sgood sn ss)) && (vgood va vb)) && q2) && gone)) (.bool q3) := h51
        cases hc : (gone) <;> simp [execOp, evR, e48, e51, ifV, hc, hG, go_sem]
      refine tele_gval rfl ((((q1 && (sgood sn ss)) && (vgood va vb)) && q2)) (.bool (!(gone && q3))) (fun ρ w' hk => by obtain ⟨_, hg, -⟩ := hk; have eg : ρ 45 = .bool (((q1 && (sgood sn ss)) && (vgood va vb)) && q2) := hg; cases hq : ((((q1 && (sgood sn ss)) && (vgood va vb)) && q2)) <;> simp [wantedR, Region.wanted, asBoolR_bool, asBoolR_undef, eg, ifV, hq]) ?_ ?_
      · rintro ρ w' he ⟨h52, hgd, -⟩ hG
        have e52 : ρ 52 = .bool (gone && q3) := (show ρ 52 = ifV ((((q1 && (sgood sn ss)) && (vgood va vb)) && q2)) (.bool (gone && q3)) from h52).trans (ifV_true (by first | exact hG | simp_all))
        simp [execOp, evR, e52, go_sem]
      refine tele_val rfl (.bool ((((q1 && (sgood sn ss)) && (vgood va vb)) && q2) && (!(gone && q3)))) (fun _ _ _ => rfl) ?_ ?_
      · rintro ρ w' he ⟨h45, h53, -⟩
        have e45 : ρ 45 = .bool (((q1 && (sgood sn ss)) && (vgood va vb)) && q2) := h45
        have e53 : ρ 53 = ifV ((((q1 && (sgood sn ss)) && (vgood va vb)) && q2)) (.bool (!(gone && q3))) := h53
        cases hc : ((((q1 && (sgood sn ss)) && (vgood va vb)) && q2)) <;> simp [execOp, evR, e45, e53, ifV, hc, go_sem]
      refine tele_move rfl (.inr rfl) rfl (isV (.bool ((((q1 && (sgood sn ss)) && (vgood va vb)) && q2) && (!(gone && q3))))) (fun ρ w' h => h) ?_
      refine tele_nil ?_
      rintro ρ w' hext ⟨f4, f54, f53, f52, f51, f50, f49, f48, f47, f46, f45, f44, f43, f42, f41, f40, f39, f38, f37, f36, f35, f34, f33, f32, f31, f30, f29, f28, f27, f26, f25, -⟩
      clear f25
      clear f26
      clear f27
      clear f28
      clear f29
      clear f30
      clear f31
      clear f32
      clear f33
      clear f34
      clear f35
      clear f36
      clear f37
      clear f38
      clear f39
      clear f40
      clear f41
      clear f42
      clear f43
      clear f44
      clear f45
      clear f46
      clear f47
      clear f48
      clear f49
      clear f50
      clear f51
      clear f52
      clear f53
      clear f54
      replace f4 : ρ 4 = .bool ((((q1 && (sgood sn ss)) && (vgood va vb)) && q2) && (!(gone && q3))) := f4
      simp only [puts, Act.put, List.setIfInBounds_toArray, List.set_cons_zero, List.set_cons_succ]
      have hok : ((((q1 && (sgood sn ss)) && (vgood va vb)) && q2) && (!(gone && q3))) = cellrest ⟨sn, ss, va, vb, gone, value, da, db⟩ := by
        unfold cellrest
        rw [HQ.out, Q28, Q43, Q51]
        dsimp only
        have a1 : decide ((value.length : Int) ≤ 64) = decide (value.length ≤ 64) := by rw [Bool.eq_iff_iff]; simp; omega
        rw [a1]
        cases gone <;> simp
      rw [f4, hok]
      clear f4 hok Q28 Q43 Q51
      go_wp2_with fail
      go_ret
      exact ⟨by rw [HCG.out]; rfl, hx.trans hext⟩
  · have HCG : Hid (cellgood p ⟨sn, ss, va, vb, gone, value, da, db⟩ = false) := Lib.hid (by unfold cellgood; rw [if_neg hp1, if_neg hp2])
    have b1 : (p == 1) = false := by rw [beq_eq_false_iff_ne]; exact hp1
    have b2 : (p == 2) = false := by rw [beq_eq_false_iff_ne]; exact hp2
    clear hp1 hp2
    unfold clV strV
    dsimp only
    go_enter Try.func45, Try.ntmps45
    go_upto_region 1 with (fail)
    have ba := Blk.new w #[.int .i64 sn, .int .i64 ss, .int .i64 va, .int .i64 vb, .bool gone, .string ⟨value.toArray⟩, .int .i64 da, .int .i64 db] 54
    have hx := ext_alloc w (.cells #[.int .i64 sn, .int .i64 ss, .int .i64 va, .int .i64 vb, .bool gone, .string ⟨value.toArray⟩, .int .i64 da, .int .i64 db] 54)
    obtain ⟨n, hn⟩ : ∃ n, n = w.heap.size := ⟨_, rfl⟩
    rw [← hn] at ba ⊢
    have HN := Lib.hid (show w.heap.size ≤ n by omega)
    clear hn
    generalize w.alloc (.cells #[.int .i64 sn, .int .i64 ss, .int .i64 va, .int .i64 vb, .bool gone, .string ⟨value.toArray⟩, .int .i64 da, .int .i64 db] 54) = W at *
    go_wp2_with fail
    go_ret
    exact ⟨by rw [HCG.out]; rfl, hx⟩

end Go.Proofs.Ytocdifjdeifclaa
