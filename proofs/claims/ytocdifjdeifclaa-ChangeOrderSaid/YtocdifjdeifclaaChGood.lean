/-
  The walk of change.Good: which changes may be.
-/
import Derived.Test.YtocdifjdeifclaaChPlain
import Derived.Test.YtocdifjdeifclaaMono
import Derived.Test.YtocdifjdeifclaaPolGood
import Derived.Deep.Cut
namespace Go.Proofs.Ytocdifjdeifclaa
open Go Go.RowKit Mono Num
set_option linter.unusedVariables false
set_option linter.unusedSimpArgs false
set_option maxRecDepth 10000

/-- The address of an element. -/
theorem index_at {w : World} {o : Oper} {f : Operand → Value} {t e : TypeId} {x y : Operand} {b off c n i : Nat} (k : Nat) (hop : o.op = .indexAddr t x y) (ht : Try.prog.underlying t = some (.slice e))
    (hx : f x = .slice (some ⟨b, off, none⟩) n c) (hy : f y = .int .i64 (i : Int)) (hi : i < n) (hk : (sizeOf e).run Try.prog w = .ok k w) :
    (execOp f o).run Try.prog w = .ok (.value (.pointer (some ⟨b, off + i * k, none⟩))) w := by
  have hi' : (i : Int) < (n : Int) := by omega
  have h0 : (0 : Int) ≤ (i : Int) := by omega
  simp [execOp, hop, hx, hy, Instr.indexAt, run_underlying ht, hi', h0, hk, add_at, go_sem]
  intro h
  omega

set_option maxHeartbeats 1000000 in
theorem of_any (x : Wr) (w : World) : Calls Try.prog 36 #[.agg #[strV x.key, .int .i64 x.group, .bool x.gone, strV x.value]] w fun e w' => e = .returned (.agg #[strV x.key, .int .i64 x.group]) ∧ Ext w w' := by
  obtain ⟨k, g, d, z⟩ := x
  dsimp only
  unfold strV
  go_enter Try.func36, Try.ntmps36
  go_wp2_with fail
  have bo := Blk.new (w.alloc (.cells #[.string ⟨k.toArray⟩, .int .i64 g, .bool d, .string ⟨z.toArray⟩] 31)) #[.string ⟨k.toArray⟩, .int .i64 g] 82
  have d0 := bo.cell (i := 0) rfl
  have d1 := bo.cell (i := 1) rfl
  simp only [World.size_alloc] at d0 d1
  exact bodyPost_ret (v := .agg #[.string ⟨k.toArray⟩, .int .i64 g]) (by simp [results, Try.results36, d0, d1, go_sem]) rfl ⟨rfl, Ext.trans (ext_alloc _ _) (ext_alloc _ _)⟩

set_option maxHeartbeats 1000000 in
theorem ahead_any (k1 : List UInt8) (g1 : Int) (k2 : List UInt8) (g2 : Int) (w : World) : Calls Try.prog 37 #[.agg #[strV k1, .int .i64 g1], .agg #[strV k2, .int .i64 g2]] w fun e w' => e = .returned (.bool (Op.bytesLess k1 k2 || (k1 == k2 && decide (g1 < g2)))) ∧ Ext w w' := by
  go_enter Try.func37, Try.ntmps37
  go_upto_region 1 with (fail)
  have ba := Blk.new w #[strV k1, .int .i64 g1] 82
  have bb := Blk.new (w.alloc (.cells #[strV k1, .int .i64 g1] 82)) #[strV k2, .int .i64 g2] 82
  replace ba := ba.ext (ext_alloc _ (.cells #[strV k2, .int .i64 g2] 82))
  have hx := Ext.trans (ext_alloc w (.cells #[strV k1, .int .i64 g1] 82)) (ext_alloc _ (.cells #[strV k2, .int .i64 g2] 82))
  simp only [World.size_alloc] at bb
  obtain ⟨na, hna⟩ : ∃ n, n = w.heap.size := ⟨_, rfl⟩
  obtain ⟨nb, hnb⟩ : ∃ n, n = w.heap.size + 1 := ⟨_, rfl⟩
  rw [← hna] at ba
  rw [← hnb] at bb
  rw [← hnb, ← hna]
  clear hna hnb
  generalize (w.alloc (.cells #[strV k1, .int .i64 g1] 82)).alloc (.cells #[strV k2, .int .i64 g2] 82) = W at *
  obtain ⟨q9, Q9⟩ : ∃ q : Bool, q = Op.bytesLess k1 k2 := ⟨_, rfl⟩
  obtain ⟨q15, Q15⟩ : ∃ q : Bool, q = (k1 == k2) := ⟨_, rfl⟩
  obtain ⟨q21, Q21⟩ : ∃ q : Bool, q = decide (g1 < g2) := ⟨_, rfl⟩
  refine wp_region_seq (by kernel_rfl) ?_
  refine tele_val rfl (.pointer (some ⟨na, 0, none⟩)) (fun _ _ _ => rfl) ?_ ?_
  · rintro ρ w' he ⟨h2, -⟩
    have e2 : ρ 2 = .pointer (some ⟨na, 0, none⟩) := h2
    simp [execOp, evR, e2, go_sem]
  refine tele_val rfl (strV k1) (fun _ _ _ => rfl) ?_ ?_
  · rintro ρ w' he ⟨h5, -⟩
    have e5 : ρ 5 = .pointer (some ⟨na, 0, none⟩) := h5
    have c0 := (ba.ext he).cell (i := 0) rfl
    simp [execOp, evR, e5, c0, go_sem]
  refine tele_val rfl (.pointer (some ⟨nb, 0, none⟩)) (fun _ _ _ => rfl) ?_ ?_
  · rintro ρ w' he ⟨h3, -⟩
    have e3 : ρ 3 = .pointer (some ⟨nb, 0, none⟩) := h3
    simp [execOp, evR, e3, go_sem]
  refine tele_val rfl (strV k2) (fun _ _ _ => rfl) ?_ ?_
  · rintro ρ w' he ⟨h7, -⟩
    have e7 : ρ 7 = .pointer (some ⟨nb, 0, none⟩) := h7
    have c0 := (bb.ext he).cell (i := 0) rfl
    simp [execOp, evR, e7, c0, go_sem]
  refine tele_val rfl (.bool q9) (fun _ _ _ => rfl) ?_ ?_
  · rintro ρ w' he ⟨h6, h8, -⟩
    have e6 : ρ 6 = strV k1 := h6
    have e8 : ρ 8 = strV k2 := h8
    unfold strV at e6 e8
    rw [Q9]
    simp [execOp, evR, e6, e8, go_sem]
  refine tele_move rfl (.inl rfl) rfl (isV (.bool q9)) (fun ρ w' h => h) ?_
  refine tele_gval rfl (!q9) (.pointer (some ⟨na, 0, none⟩)) (fun ρ w' hk => by obtain ⟨_, hg, -⟩ := hk; have eg : ρ 10 = .bool q9 := hg; cases hq : (q9) <;> simp [wantedR, Region.wanted, asBoolR_bool, asBoolR_undef, eg, ifV, hq]) ?_ ?_
  · rintro ρ w' he ⟨h2, hgd, -⟩ hG
    have e2 : ρ 2 = .pointer (some ⟨na, 0, none⟩) := h2
    simp [execOp, evR, e2, go_sem]
  refine tele_gval rfl (!q9) (strV k1) (fun ρ w' hk => by obtain ⟨_, hg, -⟩ := hk; have eg : ρ 10 = .bool q9 := hg; cases hq : (q9) <;> simp [wantedR, Region.wanted, asBoolR_bool, asBoolR_undef, eg, ifV, hq]) ?_ ?_
  · rintro ρ w' he ⟨h11, hgd, -⟩ hG
    have e11 : ρ 11 = .pointer (some ⟨na, 0, none⟩) := (show ρ 11 = ifV (!q9) (.pointer (some ⟨na, 0, none⟩)) from h11).trans (ifV_true (by first | exact hG | simp_all))
    have c0 := (ba.ext he).cell (i := 0) rfl
    simp [execOp, evR, e11, c0, go_sem]
  refine tele_gval rfl (!q9) (.pointer (some ⟨nb, 0, none⟩)) (fun ρ w' hk => by obtain ⟨_, hg, -⟩ := hk; have eg : ρ 10 = .bool q9 := hg; cases hq : (q9) <;> simp [wantedR, Region.wanted, asBoolR_bool, asBoolR_undef, eg, ifV, hq]) ?_ ?_
  · rintro ρ w' he ⟨h3, hgd, -⟩ hG
    have e3 : ρ 3 = .pointer (some ⟨nb, 0, none⟩) := h3
    simp [execOp, evR, e3, go_sem]
  refine tele_gval rfl (!q9) (strV k2) (fun ρ w' hk => by obtain ⟨_, hg, -⟩ := hk; have eg : ρ 10 = .bool q9 := hg; cases hq : (q9) <;> simp [wantedR, Region.wanted, asBoolR_bool, asBoolR_undef, eg, ifV, hq]) ?_ ?_
  · rintro ρ w' he ⟨h13, hgd, -⟩ hG
    have e13 : ρ 13 = .pointer (some ⟨nb, 0, none⟩) := (show ρ 13 = ifV (!q9) (.pointer (some ⟨nb, 0, none⟩)) from h13).trans (ifV_true (by first | exact hG | simp_all))
    have c0 := (bb.ext he).cell (i := 0) rfl
    simp [execOp, evR, e13, c0, go_sem]
  refine tele_gval rfl (!q9) (.bool q15) (fun ρ w' hk => by obtain ⟨_, _, hg, -⟩ := hk; have eg : ρ 10 = .bool q9 := hg; cases hq : (q9) <;> simp [wantedR, Region.wanted, asBoolR_bool, asBoolR_undef, eg, ifV, hq]) ?_ ?_
  · rintro ρ w' he ⟨h12, h14, hgd, -⟩ hG
    have e12 : ρ 12 = strV k1 := (show ρ 12 = ifV (!q9) (strV k1) from h12).trans (ifV_true (by first | exact hG | simp_all))
    have e14 : ρ 14 = strV k2 := (show ρ 14 = ifV (!q9) (strV k2) from h14).trans (ifV_true (by first | exact hG | simp_all))
    exact (exec_eql_str rfl e12 e14).trans (by rw [Q15])
  refine tele_gval rfl (!q9) (.bool q15) (fun ρ w' hk => by obtain ⟨_, hg, -⟩ := hk; have eg : ρ 10 = .bool q9 := hg; cases hq : (q9) <;> simp [wantedR, Region.wanted, asBoolR_bool, asBoolR_undef, eg, ifV, hq]) ?_ ?_
  · rintro ρ w' he ⟨h15, hgd, -⟩ hG
    have e15 : ρ 15 = .bool q15 := (show ρ 15 = ifV (!q9) (.bool q15) from h15).trans (ifV_true (by first | exact hG | simp_all))
    simp [execOp, evR, e15, go_sem]
  refine tele_gval rfl ((!q9 && q15)) (.pointer (some ⟨na, 1, none⟩)) (fun ρ w' hk => by obtain ⟨_, hg, -⟩ := hk; have eg : ρ 16 = ifV (!q9) (.bool q15) := hg; cases h0 : (!q9) <;> cases hq : (q15) <;> simp [wantedR, Region.wanted, asBoolR_bool, asBoolR_undef, eg, ifV, hq, h0]) ?_ ?_
  · rintro ρ w' he ⟨h2, hgd, -⟩ hG
    have e2 : ρ 2 = .pointer (some ⟨na, 0, none⟩) := h2
    simp [execOp, evR, e2, go_sem]
  refine tele_gval rfl ((!q9 && q15)) (.int .i64 g1) (fun ρ w' hk => by obtain ⟨_, hg, -⟩ := hk; have eg : ρ 16 = ifV (!q9) (.bool q15) := hg; cases h0 : (!q9) <;> cases hq : (q15) <;> simp [wantedR, Region.wanted, asBoolR_bool, asBoolR_undef, eg, ifV, hq, h0]) ?_ ?_
  · rintro ρ w' he ⟨h17, hgd, -⟩ hG
    have e17 : ρ 17 = .pointer (some ⟨na, 1, none⟩) := (show ρ 17 = ifV ((!q9 && q15)) (.pointer (some ⟨na, 1, none⟩)) from h17).trans (ifV_true (by first | exact hG | simp_all))
    have c0 := (ba.ext he).cell (i := 1) rfl
    simp [execOp, evR, e17, c0, go_sem]
  refine tele_gval rfl ((!q9 && q15)) (.pointer (some ⟨nb, 1, none⟩)) (fun ρ w' hk => by obtain ⟨_, hg, -⟩ := hk; have eg : ρ 16 = ifV (!q9) (.bool q15) := hg; cases h0 : (!q9) <;> cases hq : (q15) <;> simp [wantedR, Region.wanted, asBoolR_bool, asBoolR_undef, eg, ifV, hq, h0]) ?_ ?_
  · rintro ρ w' he ⟨h3, hgd, -⟩ hG
    have e3 : ρ 3 = .pointer (some ⟨nb, 0, none⟩) := h3
    simp [execOp, evR, e3, go_sem]
  refine tele_gval rfl ((!q9 && q15)) (.int .i64 g2) (fun ρ w' hk => by obtain ⟨_, hg, -⟩ := hk; have eg : ρ 16 = ifV (!q9) (.bool q15) := hg; cases h0 : (!q9) <;> cases hq : (q15) <;> simp [wantedR, Region.wanted, asBoolR_bool, asBoolR_undef, eg, ifV, hq, h0]) ?_ ?_
  · rintro ρ w' he ⟨h19, hgd, -⟩ hG
    have e19 : ρ 19 = .pointer (some ⟨nb, 1, none⟩) := (show ρ 19 = ifV ((!q9 && q15)) (.pointer (some ⟨nb, 1, none⟩)) from h19).trans (ifV_true (by first | exact hG | simp_all))
    have c0 := (bb.ext he).cell (i := 1) rfl
    simp [execOp, evR, e19, c0, go_sem]
  refine tele_gval rfl ((!q9 && q15)) (.bool q21) (fun ρ w' hk => by obtain ⟨_, _, hg, -⟩ := hk; have eg : ρ 16 = ifV (!q9) (.bool q15) := hg; cases h0 : (!q9) <;> cases hq : (q15) <;> simp [wantedR, Region.wanted, asBoolR_bool, asBoolR_undef, eg, ifV, hq, h0]) ?_ ?_
  · rintro ρ w' he ⟨h18, h20, hgd, -⟩ hG
    have e18 : ρ 18 = .int .i64 g1 := (show ρ 18 = ifV ((!q9 && q15)) (.int .i64 g1) from h18).trans (ifV_true (by first | exact hG | simp_all))
    have e20 : ρ 20 = .int .i64 g2 := (show ρ 20 = ifV ((!q9 && q15)) (.int .i64 g2) from h20).trans (ifV_true (by first | exact hG | simp_all))
    rw [Q21]
    simp [execOp, evR, e18, e20, go_sem]
  refine tele_gval rfl (!q9) (.bool (q15 && q21)) (fun ρ w' hk => by obtain ⟨_, _, hg, -⟩ := hk; have eg : ρ 10 = .bool q9 := hg; cases hq : (q9) <;> simp [wantedR, Region.wanted, asBoolR_bool, asBoolR_undef, eg, ifV, hq]) ?_ ?_
  · rintro ρ w' he ⟨h16, h21, hgd, -⟩ hG
    have e16 : ρ 16 = .bool q15 := (show ρ 16 = ifV (!q9) (.bool q15) from h16).trans (ifV_true (by first | exact hG | simp_all))
    have e21 : ρ 21 = ifV ((!q9 && q15)) (.bool q21) := h21
    cases hc : (q15) <;> simp [execOp, evR, e16, e21, ifV, hc, hG, go_sem]
  refine tele_val rfl (.bool (q9 || (q15 && q21))) (fun _ _ _ => rfl) ?_ ?_
  · rintro ρ w' he ⟨h10, h22, -⟩
    have e10 : ρ 10 = .bool q9 := h10
    have e22 : ρ 22 = ifV (!q9) (.bool (q15 && q21)) := h22
    cases hc : (q9) <;> simp [execOp, evR, e10, e22, ifV, hc, go_sem]
  refine tele_move rfl (.inr rfl) rfl (isV (.bool (q9 || (q15 && q21)))) (fun ρ w' h => h) ?_
  refine tele_nil ?_
  rintro ρ w' hext ⟨f4, f23, f22, f21, f20, f19, f18, f17, f16, f15, f14, f13, f12, f11, f10, f9, f8, f7, f6, f5, -⟩
  clear f5
  clear f6
  clear f7
  clear f8
  clear f9
  clear f10
  clear f11
  clear f12
  clear f13
  clear f14
  clear f15
  clear f16
  clear f17
  clear f18
  clear f19
  clear f20
  clear f21
  clear f22
  clear f23
  replace f4 : ρ 4 = .bool (q9 || (q15 && q21)) := f4
  simp only [puts, Act.put, List.setIfInBounds_toArray, List.set_cons_zero, List.set_cons_succ]
  rw [f4, Q9, Q15, Q21]
  go_wp2_with fail
  go_ret
  exact ⟨rfl, Ext.trans hx hext⟩

set_option maxHeartbeats 4000000 in
theorem chGood_any (vl : Value) (l : List Grp) (site seq sn ss va vb : Int) (vw : Value) (ws : List Wr) (w : World) (hl : Gs w vl l) (hw : Ws w vw ws) :
    Calls Try.prog 13 #[vl, chV ⟨site, seq, sn, ss, va, vb, ws⟩ vw] w fun e w' => e = .returned (.int .i64 ((cgood l ⟨site, seq, sn, ss, va, vb, ws⟩ : Nat) : Int)) ∧ Ext w w' := by
  unfold chV
  dsimp only
  go_enter Try.func13, Try.ntmps13
  go_wp2_with fail
  have ba := Blk.new w #[.int .i64 site, .int .i64 seq, .int .i64 sn, .int .i64 ss, .int .i64 va, .int .i64 vb, vw] 29
  have hx := ext_alloc w (.cells #[.int .i64 site, .int .i64 seq, .int .i64 sn, .int .i64 ss, .int .i64 va, .int .i64 vb, vw] 29)
  obtain ⟨n, hnn⟩ : ∃ n, n = w.heap.size := ⟨_, rfl⟩
  rw [← hnn] at ba ⊢
  have HN := Lib.hid hnn
  clear hnn
  generalize w.alloc (.cells #[.int .i64 site, .int .i64 seq, .int .i64 sn, .int .i64 ss, .int .i64 va, .int .i64 vb, vw] 29) = W at *
  refine (polGood_any vl l W (hl.ext hx)).mono ?_
  rintro e w1 ⟨rfl, x1⟩
  replace hx := Ext.trans hx x1
  replace ba := ba.ext x1
  clear x1
  by_cases hp : pgood l = 0
  rotate_left
  · have HR := Lib.hid (show cgood l ⟨site, seq, sn, ss, va, vb, ws⟩ = pgood l by unfold cgood; rw [if_pos hp])
    have hp0 : (((pgood l : Nat) : Int) != 0) = true := by rw [bne_iff_ne]; omega
    clear hp
    go_wp2_with fail
    go_ret
    exact ⟨by rw [HR.out]; rfl, hx⟩
  rw [hp]
  have HP := Lib.hid hp
  clear hp
  go_wp2_with fail
  obtain ⟨q16, Q16⟩ : ∃ q : Bool, q = (site != 1) := ⟨_, rfl⟩
  obtain ⟨q20, Q20⟩ : ∃ q : Bool, q = (site != 2) := ⟨_, rfl⟩
  obtain ⟨q25, Q25⟩ : ∃ q : Bool, q = decide (seq < 1) := ⟨_, rfl⟩
  obtain ⟨q30, Q30⟩ : ∃ q : Bool, q = decide (1099511627776 < seq) := ⟨_, rfl⟩
  obtain ⟨q38, Q38⟩ : ∃ q : Bool, q = (ss != site) := ⟨_, rfl⟩
  obtain ⟨q61, Q61⟩ : ∃ q : Bool, q = ((if site = 1 then va else vb) != seq) := ⟨_, rfl⟩
  refine wp_region_mono (by kernel_rfl) (by kernel_rfl) ?_
  refine tele_val rfl (.pointer (some ⟨n, 0, none⟩)) (fun _ _ _ => rfl) ?_ ?_
  · rintro ρ w' he ⟨h3, -⟩
    have e3 : ρ 3 = .pointer (some ⟨n, 0, none⟩) := h3
    simp [execOp, evR, e3, go_sem]
  refine tele_val rfl (.int .i64 site) (fun _ _ _ => rfl) ?_ ?_
  · rintro ρ w' he ⟨h14, -⟩
    have e14 : ρ 14 = .pointer (some ⟨n, 0, none⟩) := h14
    have c0 := (ba.ext he).cell (i := 0) rfl
    simp [execOp, evR, e14, c0, go_sem]
  refine tele_val rfl (.bool q16) (fun _ _ _ => rfl) ?_ ?_
  · rintro ρ w' he ⟨h15, -⟩
    have e15 : ρ 15 = .int .i64 site := h15
    rw [Q16]
    simp [execOp, evR, e15, go_sem]
  refine tele_move rfl (.inl rfl) rfl (isV (.bool q16)) (fun ρ w' h => h) ?_
  refine tele_gval rfl (q16) (.pointer (some ⟨n, 0, none⟩)) (fun ρ w' hk => by obtain ⟨_, hg, -⟩ := hk; have eg : ρ 17 = .bool q16 := hg; cases hq : (q16) <;> simp [wantedR, Region.wanted, asBoolR_bool, asBoolR_undef, eg, ifV, hq]) ?_ ?_
  · rintro ρ w' he ⟨h3, hgd, -⟩ hG
    have e3 : ρ 3 = .pointer (some ⟨n, 0, none⟩) := h3
    simp [execOp, evR, e3, go_sem]
  refine tele_gval rfl (q16) (.int .i64 site) (fun ρ w' hk => by obtain ⟨_, hg, -⟩ := hk; have eg : ρ 17 = .bool q16 := hg; cases hq : (q16) <;> simp [wantedR, Region.wanted, asBoolR_bool, asBoolR_undef, eg, ifV, hq]) ?_ ?_
  · rintro ρ w' he ⟨h18, hgd, -⟩ hG
    have e18 : ρ 18 = .pointer (some ⟨n, 0, none⟩) := (show ρ 18 = ifV (q16) (.pointer (some ⟨n, 0, none⟩)) from h18).trans (ifV_true (by first | exact hG | simp_all))
    have c0 := (ba.ext he).cell (i := 0) rfl
    simp [execOp, evR, e18, c0, go_sem]
  refine tele_gval rfl (q16) (.bool q20) (fun ρ w' hk => by obtain ⟨_, hg, -⟩ := hk; have eg : ρ 17 = .bool q16 := hg; cases hq : (q16) <;> simp [wantedR, Region.wanted, asBoolR_bool, asBoolR_undef, eg, ifV, hq]) ?_ ?_
  · rintro ρ w' he ⟨h19, hgd, -⟩ hG
    have e19 : ρ 19 = .int .i64 site := (show ρ 19 = ifV (q16) (.int .i64 site) from h19).trans (ifV_true (by first | exact hG | simp_all))
    rw [Q20]
    simp [execOp, evR, e19, go_sem]
  refine tele_val rfl (.bool (q16 && q20)) (fun _ _ _ => rfl) ?_ ?_
  · rintro ρ w' he ⟨h17, h20, -⟩
    have e17 : ρ 17 = .bool q16 := h17
    have e20 : ρ 20 = ifV (q16) (.bool q20) := h20
    cases hc : (q16) <;> simp [execOp, evR, e17, e20, ifV, hc, go_sem]
  refine tele_move rfl (.inl rfl) rfl (isV (.bool (q16 && q20))) (fun ρ w' h => h) ?_
  refine tele_gval rfl ((!(q16 && q20))) (.pointer (some ⟨n, 1, none⟩)) (fun ρ w' hk => by obtain ⟨_, hg, -⟩ := hk; have eg : ρ 22 = .bool (q16 && q20) := hg; cases hq : ((q16 && q20)) <;> simp [wantedR, Region.wanted, asBoolR_bool, asBoolR_undef, eg, ifV, hq]) ?_ ?_
  · rintro ρ w' he ⟨h3, hgd, -⟩ hG
    have e3 : ρ 3 = .pointer (some ⟨n, 0, none⟩) := h3
    simp [execOp, evR, e3, go_sem]
  refine tele_gval rfl ((!(q16 && q20))) (.int .i64 seq) (fun ρ w' hk => by obtain ⟨_, hg, -⟩ := hk; have eg : ρ 22 = .bool (q16 && q20) := hg; cases hq : ((q16 && q20)) <;> simp [wantedR, Region.wanted, asBoolR_bool, asBoolR_undef, eg, ifV, hq]) ?_ ?_
  · rintro ρ w' he ⟨h23, hgd, -⟩ hG
    have e23 : ρ 23 = .pointer (some ⟨n, 1, none⟩) := (show ρ 23 = ifV ((!(q16 && q20))) (.pointer (some ⟨n, 1, none⟩)) from h23).trans (ifV_true (by first | exact hG | simp_all))
    have c0 := (ba.ext he).cell (i := 1) rfl
    simp [execOp, evR, e23, c0, go_sem]
  refine tele_gval rfl ((!(q16 && q20))) (.bool q25) (fun ρ w' hk => by obtain ⟨_, hg, -⟩ := hk; have eg : ρ 22 = .bool (q16 && q20) := hg; cases hq : ((q16 && q20)) <;> simp [wantedR, Region.wanted, asBoolR_bool, asBoolR_undef, eg, ifV, hq]) ?_ ?_
  · rintro ρ w' he ⟨h24, hgd, -⟩ hG
    have e24 : ρ 24 = .int .i64 seq := (show ρ 24 = ifV ((!(q16 && q20))) (.int .i64 seq) from h24).trans (ifV_true (by first | exact hG | simp_all))
    rw [Q25]
    simp [execOp, evR, e24, go_sem]
  refine tele_val rfl (.bool ((q16 && q20) || q25)) (fun _ _ _ => rfl) ?_ ?_
  · rintro ρ w' he ⟨h22, h25, -⟩
    have e22 : ρ 22 = .bool (q16 && q20) := h22
    have e25 : ρ 25 = ifV ((!(q16 && q20))) (.bool q25) := h25
    cases hc : ((q16 && q20)) <;> simp [execOp, evR, e22, e25, ifV, hc, go_sem]
  refine tele_move rfl (.inl rfl) rfl (isV (.bool ((q16 && q20) || q25))) (fun ρ w' h => h) ?_
  refine tele_gval rfl ((!((q16 && q20) || q25))) (.pointer (some ⟨n, 1, none⟩)) (fun ρ w' hk => by obtain ⟨_, hg, -⟩ := hk; have eg : ρ 27 = .bool ((q16 && q20) || q25) := hg; cases hq : (((q16 && q20) || q25)) <;> simp [wantedR, Region.wanted, asBoolR_bool, asBoolR_undef, eg, ifV, hq]) ?_ ?_
  · rintro ρ w' he ⟨h3, hgd, -⟩ hG
    have e3 : ρ 3 = .pointer (some ⟨n, 0, none⟩) := h3
    simp [execOp, evR, e3, go_sem]
  refine tele_gval rfl ((!((q16 && q20) || q25))) (.int .i64 seq) (fun ρ w' hk => by obtain ⟨_, hg, -⟩ := hk; have eg : ρ 27 = .bool ((q16 && q20) || q25) := hg; cases hq : (((q16 && q20) || q25)) <;> simp [wantedR, Region.wanted, asBoolR_bool, asBoolR_undef, eg, ifV, hq]) ?_ ?_
  · rintro ρ w' he ⟨h28, hgd, -⟩ hG
    have e28 : ρ 28 = .pointer (some ⟨n, 1, none⟩) := (show ρ 28 = ifV ((!((q16 && q20) || q25))) (.pointer (some ⟨n, 1, none⟩)) from h28).trans (ifV_true (by first | exact hG | simp_all))
    have c0 := (ba.ext he).cell (i := 1) rfl
    simp [execOp, evR, e28, c0, go_sem]
  refine tele_gval rfl ((!((q16 && q20) || q25))) (.bool q30) (fun ρ w' hk => by obtain ⟨_, hg, -⟩ := hk; have eg : ρ 27 = .bool ((q16 && q20) || q25) := hg; cases hq : (((q16 && q20) || q25)) <;> simp [wantedR, Region.wanted, asBoolR_bool, asBoolR_undef, eg, ifV, hq]) ?_ ?_
  · rintro ρ w' he ⟨h29, hgd, -⟩ hG
    have e29 : ρ 29 = .int .i64 seq := (show ρ 29 = ifV ((!((q16 && q20) || q25))) (.int .i64 seq) from h29).trans (ifV_true (by first | exact hG | simp_all))
    rw [Q30]
    simp [execOp, evR, e29, go_sem]
  refine tele_val rfl (.bool (((q16 && q20) || q25) || q30)) (fun _ _ _ => rfl) ?_ ?_
  · rintro ρ w' he ⟨h27, h30, -⟩
    have e27 : ρ 27 = .bool ((q16 && q20) || q25) := h27
    have e30 : ρ 30 = ifV ((!((q16 && q20) || q25))) (.bool q30) := h30
    cases hc : (((q16 && q20) || q25)) <;> simp [execOp, evR, e27, e30, ifV, hc, go_sem]
  refine tele_move rfl (.inl rfl) rfl (isV (.bool (((q16 && q20) || q25) || q30))) (fun ρ w' h => h) ?_
  refine tele_gval rfl ((!(((q16 && q20) || q25) || q30))) (.pointer (some ⟨n, 2, none⟩)) (fun ρ w' hk => by obtain ⟨_, hg, -⟩ := hk; have eg : ρ 32 = .bool (((q16 && q20) || q25) || q30) := hg; cases hq : ((((q16 && q20) || q25) || q30)) <;> simp [wantedR, Region.wanted, asBoolR_bool, asBoolR_undef, eg, ifV, hq]) ?_ ?_
  · rintro ρ w' he ⟨h3, hgd, -⟩ hG
    have e3 : ρ 3 = .pointer (some ⟨n, 0, none⟩) := h3
    simp [execOp, evR, e3, go_sem]
  refine tele_gval rfl ((!(((q16 && q20) || q25) || q30))) (.pointer (some ⟨n, 3, none⟩)) (fun ρ w' hk => by obtain ⟨_, hg, -⟩ := hk; have eg : ρ 32 = .bool (((q16 && q20) || q25) || q30) := hg; cases hq : ((((q16 && q20) || q25) || q30)) <;> simp [wantedR, Region.wanted, asBoolR_bool, asBoolR_undef, eg, ifV, hq]) ?_ ?_
  · rintro ρ w' he ⟨h33, hgd, -⟩ hG
    have e33 : ρ 33 = .pointer (some ⟨n, 2, none⟩) := (show ρ 33 = ifV ((!(((q16 && q20) || q25) || q30))) (.pointer (some ⟨n, 2, none⟩)) from h33).trans (ifV_true (by first | exact hG | simp_all))
    simp [execOp, evR, e33, go_sem]
  refine tele_gval rfl ((!(((q16 && q20) || q25) || q30))) (.int .i64 ss) (fun ρ w' hk => by obtain ⟨_, hg, -⟩ := hk; have eg : ρ 32 = .bool (((q16 && q20) || q25) || q30) := hg; cases hq : ((((q16 && q20) || q25) || q30)) <;> simp [wantedR, Region.wanted, asBoolR_bool, asBoolR_undef, eg, ifV, hq]) ?_ ?_
  · rintro ρ w' he ⟨h34, hgd, -⟩ hG
    have e34 : ρ 34 = .pointer (some ⟨n, 3, none⟩) := (show ρ 34 = ifV ((!(((q16 && q20) || q25) || q30))) (.pointer (some ⟨n, 3, none⟩)) from h34).trans (ifV_true (by first | exact hG | simp_all))
    have c0 := (ba.ext he).cell (i := 3) rfl
    simp [execOp, evR, e34, c0, go_sem]
  refine tele_gval rfl ((!(((q16 && q20) || q25) || q30))) (.pointer (some ⟨n, 0, none⟩)) (fun ρ w' hk => by obtain ⟨_, hg, -⟩ := hk; have eg : ρ 32 = .bool (((q16 && q20) || q25) || q30) := hg; cases hq : ((((q16 && q20) || q25) || q30)) <;> simp [wantedR, Region.wanted, asBoolR_bool, asBoolR_undef, eg, ifV, hq]) ?_ ?_
  · rintro ρ w' he ⟨h3, hgd, -⟩ hG
    have e3 : ρ 3 = .pointer (some ⟨n, 0, none⟩) := h3
    simp [execOp, evR, e3, go_sem]
  refine tele_gval rfl ((!(((q16 && q20) || q25) || q30))) (.int .i64 site) (fun ρ w' hk => by obtain ⟨_, hg, -⟩ := hk; have eg : ρ 32 = .bool (((q16 && q20) || q25) || q30) := hg; cases hq : ((((q16 && q20) || q25) || q30)) <;> simp [wantedR, Region.wanted, asBoolR_bool, asBoolR_undef, eg, ifV, hq]) ?_ ?_
  · rintro ρ w' he ⟨h36, hgd, -⟩ hG
    have e36 : ρ 36 = .pointer (some ⟨n, 0, none⟩) := (show ρ 36 = ifV ((!(((q16 && q20) || q25) || q30))) (.pointer (some ⟨n, 0, none⟩)) from h36).trans (ifV_true (by first | exact hG | simp_all))
    have c0 := (ba.ext he).cell (i := 0) rfl
    simp [execOp, evR, e36, c0, go_sem]
  refine tele_gval rfl ((!(((q16 && q20) || q25) || q30))) (.bool q38) (fun ρ w' hk => by obtain ⟨_, _, hg, -⟩ := hk; have eg : ρ 32 = .bool (((q16 && q20) || q25) || q30) := hg; cases hq : ((((q16 && q20) || q25) || q30)) <;> simp [wantedR, Region.wanted, asBoolR_bool, asBoolR_undef, eg, ifV, hq]) ?_ ?_
  · rintro ρ w' he ⟨h35, h37, hgd, -⟩ hG
    have e35 : ρ 35 = .int .i64 ss := (show ρ 35 = ifV ((!(((q16 && q20) || q25) || q30))) (.int .i64 ss) from h35).trans (ifV_true (by first | exact hG | simp_all))
    have e37 : ρ 37 = .int .i64 site := (show ρ 37 = ifV ((!(((q16 && q20) || q25) || q30))) (.int .i64 site) from h37).trans (ifV_true (by first | exact hG | simp_all))
    rw [Q38]
    simp [execOp, evR, e35, e37, go_sem]
  refine tele_val rfl (.bool ((((q16 && q20) || q25) || q30) || q38)) (fun _ _ _ => rfl) ?_ ?_
  · rintro ρ w' he ⟨h32, h38, -⟩
    have e32 : ρ 32 = .bool (((q16 && q20) || q25) || q30) := h32
    have e38 : ρ 38 = ifV ((!(((q16 && q20) || q25) || q30))) (.bool q38) := h38
    cases hc : ((((q16 && q20) || q25) || q30)) <;> simp [execOp, evR, e32, e38, ifV, hc, go_sem]
  refine tele_move rfl (.inl rfl) rfl (isV (.bool ((((q16 && q20) || q25) || q30) || q38))) (fun ρ w' h => h) ?_
  refine tele_gval rfl ((!((((q16 && q20) || q25) || q30) || q38))) (.pointer (some ⟨n, 2, none⟩)) (fun ρ w' hk => by obtain ⟨_, hg, -⟩ := hk; have eg : ρ 40 = .bool ((((q16 && q20) || q25) || q30) || q38) := hg; cases hq : (((((q16 && q20) || q25) || q30) || q38)) <;> simp [wantedR, Region.wanted, asBoolR_bool, asBoolR_undef, eg, ifV, hq]) ?_ ?_
  · rintro ρ w' he ⟨h3, hgd, -⟩ hG
    have e3 : ρ 3 = .pointer (some ⟨n, 0, none⟩) := h3
    simp [execOp, evR, e3, go_sem]
  refine tele_gval rfl ((!((((q16 && q20) || q25) || q30) || q38))) (.agg #[.int .i64 sn, .int .i64 ss]) (fun ρ w' hk => by obtain ⟨_, hg, -⟩ := hk; have eg : ρ 40 = .bool ((((q16 && q20) || q25) || q30) || q38) := hg; cases hq : (((((q16 && q20) || q25) || q30) || q38)) <;> simp [wantedR, Region.wanted, asBoolR_bool, asBoolR_undef, eg, ifV, hq]) ?_ ?_
  · rintro ρ w' he ⟨h41, hgd, -⟩ hG
    have e41 : ρ 41 = .pointer (some ⟨n, 2, none⟩) := (show ρ 41 = ifV ((!((((q16 && q20) || q25) || q30) || q38))) (.pointer (some ⟨n, 2, none⟩)) from h41).trans (ifV_true (by first | exact hG | simp_all))
    have c0 := (ba.ext he).cell (i := 2) rfl
    have c1 := (ba.ext he).cell (i := 3) rfl
    simp [execOp, evR, e41, c0, c1, go_sem]
  refine tele_gcall rfl rfl Try.func34 (by kernel_rfl) ((!((((q16 && q20) || q25) || q30) || q38))) (.bool (sgood sn ss)) (fun ρ w' hk => by obtain ⟨_, hg, -⟩ := hk; have eg : ρ 40 = .bool ((((q16 && q20) || q25) || q30) || q38) := hg; cases hq : (((((q16 && q20) || q25) || q30) || q38)) <;> simp [wantedR, Region.wanted, asBoolR_bool, asBoolR_undef, eg, ifV, hq]) ?_ ?_
  · rintro ρ w' he ⟨h42, hgd, -⟩ hG
    have e42 : ρ 42 = .agg #[.int .i64 sn, .int .i64 ss] := (show ρ 42 = ifV ((!((((q16 && q20) || q25) || q30) || q38))) (.agg #[.int .i64 sn, .int .i64 ss]) from h42).trans (ifV_true (by first | exact hG | simp_all))
    simp only [evR, List.map_toArray, List.map_cons, List.map_nil, e42]
    refine (stGood_any sn ss _).mono ?_
    rintro e w'' ⟨rfl, hx⟩
    exact ⟨rfl, hx⟩
  refine tele_gval rfl ((!((((q16 && q20) || q25) || q30) || q38))) (.bool (!(sgood sn ss))) (fun ρ w' hk => by obtain ⟨_, hg, -⟩ := hk; have eg : ρ 40 = .bool ((((q16 && q20) || q25) || q30) || q38) := hg; cases hq : (((((q16 && q20) || q25) || q30) || q38)) <;> simp [wantedR, Region.wanted, asBoolR_bool, asBoolR_undef, eg, ifV, hq]) ?_ ?_
  · rintro ρ w' he ⟨h43, hgd, -⟩ hG
    have e43 : ρ 43 = .bool (sgood sn ss) := (show ρ 43 = ifV ((!((((q16 && q20) || q25) || q30) || q38))) (.bool (sgood sn ss)) from h43).trans (ifV_true (by first | exact hG | simp_all))
    simp [execOp, evR, e43, go_sem]
  refine tele_val rfl (.bool (((((q16 && q20) || q25) || q30) || q38) || (!(sgood sn ss)))) (fun _ _ _ => rfl) ?_ ?_
  · rintro ρ w' he ⟨h40, h44, -⟩
    have e40 : ρ 40 = .bool ((((q16 && q20) || q25) || q30) || q38) := h40
    have e44 : ρ 44 = ifV ((!((((q16 && q20) || q25) || q30) || q38))) (.bool (!(sgood sn ss))) := h44
    cases hc : (((((q16 && q20) || q25) || q30) || q38)) <;> simp [execOp, evR, e40, e44, ifV, hc, go_sem]
  refine tele_move rfl (.inl rfl) rfl (isV (.bool (((((q16 && q20) || q25) || q30) || q38) || (!(sgood sn ss))))) (fun ρ w' h => h) ?_
  refine tele_gval rfl ((!(((((q16 && q20) || q25) || q30) || q38) || (!(sgood sn ss))))) (.pointer (some ⟨n, 4, none⟩)) (fun ρ w' hk => by obtain ⟨_, hg, -⟩ := hk; have eg : ρ 46 = .bool (((((q16 && q20) || q25) || q30) || q38) || (!(sgood sn ss))) := hg; cases hq : ((((((q16 && q20) || q25) || q30) || q38) || (!(sgood sn ss)))) <;> simp [wantedR, Region.wanted, asBoolR_bool, asBoolR_undef, eg, ifV, hq]) ?_ ?_
  · rintro ρ w' he ⟨h3, hgd, -⟩ hG
    have e3 : ρ 3 = .pointer (some ⟨n, 0, none⟩) := h3
    simp [execOp, evR, e3, go_sem]
  refine tele_gval rfl ((!(((((q16 && q20) || q25) || q30) || q38) || (!(sgood sn ss))))) (.agg #[.int .i64 va, .int .i64 vb]) (fun ρ w' hk => by obtain ⟨_, hg, -⟩ := hk; have eg : ρ 46 = .bool (((((q16 && q20) || q25) || q30) || q38) || (!(sgood sn ss))) := hg; cases hq : ((((((q16 && q20) || q25) || q30) || q38) || (!(sgood sn ss)))) <;> simp [wantedR, Region.wanted, asBoolR_bool, asBoolR_undef, eg, ifV, hq]) ?_ ?_
  · rintro ρ w' he ⟨h47, hgd, -⟩ hG
    have e47 : ρ 47 = .pointer (some ⟨n, 4, none⟩) := (show ρ 47 = ifV ((!(((((q16 && q20) || q25) || q30) || q38) || (!(sgood sn ss))))) (.pointer (some ⟨n, 4, none⟩)) from h47).trans (ifV_true (by first | exact hG | simp_all))
    have c0 := (ba.ext he).cell (i := 4) rfl
    have c1 := (ba.ext he).cell (i := 5) rfl
    simp [execOp, evR, e47, c0, c1, go_sem]
  refine tele_gcall rfl rfl Try.func35 (by kernel_rfl) ((!(((((q16 && q20) || q25) || q30) || q38) || (!(sgood sn ss))))) (.bool (vgood va vb)) (fun ρ w' hk => by obtain ⟨_, hg, -⟩ := hk; have eg : ρ 46 = .bool (((((q16 && q20) || q25) || q30) || q38) || (!(sgood sn ss))) := hg; cases hq : ((((((q16 && q20) || q25) || q30) || q38) || (!(sgood sn ss)))) <;> simp [wantedR, Region.wanted, asBoolR_bool, asBoolR_undef, eg, ifV, hq]) ?_ ?_
  · rintro ρ w' he ⟨h48, hgd, -⟩ hG
    have e48 : ρ 48 = .agg #[.int .i64 va, .int .i64 vb] := (show ρ 48 = ifV ((!(((((q16 && q20) || q25) || q30) || q38) || (!(sgood sn ss))))) (.agg #[.int .i64 va, .int .i64 vb]) from h48).trans (ifV_true (by first | exact hG | simp_all))
    simp only [evR, List.map_toArray, List.map_cons, List.map_nil, e48]
    refine (vecGood_any va vb _).mono ?_
    rintro e w'' ⟨rfl, hx⟩
    exact ⟨rfl, hx⟩
  refine tele_gval rfl ((!(((((q16 && q20) || q25) || q30) || q38) || (!(sgood sn ss))))) (.bool (!(vgood va vb))) (fun ρ w' hk => by obtain ⟨_, hg, -⟩ := hk; have eg : ρ 46 = .bool (((((q16 && q20) || q25) || q30) || q38) || (!(sgood sn ss))) := hg; cases hq : ((((((q16 && q20) || q25) || q30) || q38) || (!(sgood sn ss)))) <;> simp [wantedR, Region.wanted, asBoolR_bool, asBoolR_undef, eg, ifV, hq]) ?_ ?_
  · rintro ρ w' he ⟨h49, hgd, -⟩ hG
    have e49 : ρ 49 = .bool (vgood va vb) := (show ρ 49 = ifV ((!(((((q16 && q20) || q25) || q30) || q38) || (!(sgood sn ss))))) (.bool (vgood va vb)) from h49).trans (ifV_true (by first | exact hG | simp_all))
    simp [execOp, evR, e49, go_sem]
  refine tele_val rfl (.bool ((((((q16 && q20) || q25) || q30) || q38) || (!(sgood sn ss))) || (!(vgood va vb)))) (fun _ _ _ => rfl) ?_ ?_
  · rintro ρ w' he ⟨h46, h50, -⟩
    have e46 : ρ 46 = .bool (((((q16 && q20) || q25) || q30) || q38) || (!(sgood sn ss))) := h46
    have e50 : ρ 50 = ifV ((!(((((q16 && q20) || q25) || q30) || q38) || (!(sgood sn ss))))) (.bool (!(vgood va vb))) := h50
    cases hc : ((((((q16 && q20) || q25) || q30) || q38) || (!(sgood sn ss)))) <;> simp [execOp, evR, e46, e50, ifV, hc, go_sem]
  refine tele_move rfl (.inl rfl) rfl (isV (.bool ((((((q16 && q20) || q25) || q30) || q38) || (!(sgood sn ss))) || (!(vgood va vb))))) (fun ρ w' h => h) ?_
  refine tele_gval rfl ((!((((((q16 && q20) || q25) || q30) || q38) || (!(sgood sn ss))) || (!(vgood va vb))))) (.pointer (some ⟨n, 0, none⟩)) (fun ρ w' hk => by obtain ⟨_, hg, -⟩ := hk; have eg : ρ 52 = .bool ((((((q16 && q20) || q25) || q30) || q38) || (!(sgood sn ss))) || (!(vgood va vb))) := hg; cases hq : (((((((q16 && q20) || q25) || q30) || q38) || (!(sgood sn ss))) || (!(vgood va vb)))) <;> simp [wantedR, Region.wanted, asBoolR_bool, asBoolR_undef, eg, ifV, hq]) ?_ ?_
  · rintro ρ w' he ⟨h3, hgd, -⟩ hG
    have e3 : ρ 3 = .pointer (some ⟨n, 0, none⟩) := h3
    simp [execOp, evR, e3, go_sem]
  refine tele_gval rfl ((!((((((q16 && q20) || q25) || q30) || q38) || (!(sgood sn ss))) || (!(vgood va vb))))) (.int .i64 site) (fun ρ w' hk => by obtain ⟨_, hg, -⟩ := hk; have eg : ρ 52 = .bool ((((((q16 && q20) || q25) || q30) || q38) || (!(sgood sn ss))) || (!(vgood va vb))) := hg; cases hq : (((((((q16 && q20) || q25) || q30) || q38) || (!(sgood sn ss))) || (!(vgood va vb)))) <;> simp [wantedR, Region.wanted, asBoolR_bool, asBoolR_undef, eg, ifV, hq]) ?_ ?_
  · rintro ρ w' he ⟨h53, hgd, -⟩ hG
    have e53 : ρ 53 = .pointer (some ⟨n, 0, none⟩) := (show ρ 53 = ifV ((!((((((q16 && q20) || q25) || q30) || q38) || (!(sgood sn ss))) || (!(vgood va vb))))) (.pointer (some ⟨n, 0, none⟩)) from h53).trans (ifV_true (by first | exact hG | simp_all))
    have c0 := (ba.ext he).cell (i := 0) rfl
    simp [execOp, evR, e53, c0, go_sem]
  refine tele_gval rfl ((!((((((q16 && q20) || q25) || q30) || q38) || (!(sgood sn ss))) || (!(vgood va vb))))) (.int .i64 (site - 1)) (fun ρ w' hk => by obtain ⟨_, hg, -⟩ := hk; have eg : ρ 52 = .bool ((((((q16 && q20) || q25) || q30) || q38) || (!(sgood sn ss))) || (!(vgood va vb))) := hg; cases hq : (((((((q16 && q20) || q25) || q30) || q38) || (!(sgood sn ss))) || (!(vgood va vb)))) <;> simp [wantedR, Region.wanted, asBoolR_bool, asBoolR_undef, eg, ifV, hq]) ?_ ?_
  · rintro ρ w' he ⟨h54, hgd, -⟩ hG
    have e54 : ρ 54 = .int .i64 site := (show ρ 54 = ifV ((!((((((q16 && q20) || q25) || q30) || q38) || (!(sgood sn ss))) || (!(vgood va vb))))) (.int .i64 site) from h54).trans (ifV_true (by first | exact hG | simp_all))
    have hs : site = 1 ∨ site = 2 := by
      rw [Q16, Q20] at hG
      simp at hG
      omega
    rcases hs with rfl | rfl <;> simp [execOp, evR, e54, go_sem] <;> rfl
  refine tele_gval rfl ((!((((((q16 && q20) || q25) || q30) || q38) || (!(sgood sn ss))) || (!(vgood va vb))))) (.pointer (some ⟨n, 4, none⟩)) (fun ρ w' hk => by obtain ⟨_, hg, -⟩ := hk; have eg : ρ 52 = .bool ((((((q16 && q20) || q25) || q30) || q38) || (!(sgood sn ss))) || (!(vgood va vb))) := hg; cases hq : (((((((q16 && q20) || q25) || q30) || q38) || (!(sgood sn ss))) || (!(vgood va vb)))) <;> simp [wantedR, Region.wanted, asBoolR_bool, asBoolR_undef, eg, ifV, hq]) ?_ ?_
  · rintro ρ w' he ⟨h3, hgd, -⟩ hG
    have e3 : ρ 3 = .pointer (some ⟨n, 0, none⟩) := h3
    simp [execOp, evR, e3, go_sem]
  refine tele_gval rfl ((!((((((q16 && q20) || q25) || q30) || q38) || (!(sgood sn ss))) || (!(vgood va vb))))) (.pointer (some ⟨n, (if site = 1 then 4 else 5), none⟩)) (fun ρ w' hk => by obtain ⟨_, _, hg, -⟩ := hk; have eg : ρ 52 = .bool ((((((q16 && q20) || q25) || q30) || q38) || (!(sgood sn ss))) || (!(vgood va vb))) := hg; cases hq : (((((((q16 && q20) || q25) || q30) || q38) || (!(sgood sn ss))) || (!(vgood va vb)))) <;> simp [wantedR, Region.wanted, asBoolR_bool, asBoolR_undef, eg, ifV, hq]) ?_ ?_
  · rintro ρ w' he ⟨h56, h55, hgd, -⟩ hG
    have e56 : ρ 56 = .pointer (some ⟨n, 4, none⟩) := (show ρ 56 = ifV ((!((((((q16 && q20) || q25) || q30) || q38) || (!(sgood sn ss))) || (!(vgood va vb))))) (.pointer (some ⟨n, 4, none⟩)) from h56).trans (ifV_true (by first | exact hG | simp_all))
    have e55 : ρ 55 = .int .i64 (site - 1) := (show ρ 55 = ifV ((!((((((q16 && q20) || q25) || q30) || q38) || (!(sgood sn ss))) || (!(vgood va vb))))) (.int .i64 (site - 1)) from h55).trans (ifV_true (by first | exact hG | simp_all))
    have hs : site = 1 ∨ site = 2 := by
      rw [Q16, Q20] at hG
      simp at hG
      omega
    have ha := Try.underlying26
    rcases hs with rfl | rfl <;> simp [execOp, evR, e56, e55, ha, go_sem]
  refine tele_gval rfl ((!((((((q16 && q20) || q25) || q30) || q38) || (!(sgood sn ss))) || (!(vgood va vb))))) (.int .i64 (if site = 1 then va else vb)) (fun ρ w' hk => by obtain ⟨_, hg, -⟩ := hk; have eg : ρ 52 = .bool ((((((q16 && q20) || q25) || q30) || q38) || (!(sgood sn ss))) || (!(vgood va vb))) := hg; cases hq : (((((((q16 && q20) || q25) || q30) || q38) || (!(sgood sn ss))) || (!(vgood va vb)))) <;> simp [wantedR, Region.wanted, asBoolR_bool, asBoolR_undef, eg, ifV, hq]) ?_ ?_
  · rintro ρ w' he ⟨h57, hgd, -⟩ hG
    have e57 : ρ 57 = .pointer (some ⟨n, (if site = 1 then 4 else 5), none⟩) := (show ρ 57 = ifV ((!((((((q16 && q20) || q25) || q30) || q38) || (!(sgood sn ss))) || (!(vgood va vb))))) (.pointer (some ⟨n, (if site = 1 then 4 else 5), none⟩)) from h57).trans (ifV_true (by first | exact hG | simp_all))
    have hs : site = 1 ∨ site = 2 := by
      rw [Q16, Q20] at hG
      simp at hG
      omega
    have c4 := (ba.ext he).cell (i := 4) rfl
    have c5 := (ba.ext he).cell (i := 5) rfl
    rcases hs with rfl | rfl <;> simp [execOp, evR, e57, c4, c5, go_sem]
  refine tele_gval rfl ((!((((((q16 && q20) || q25) || q30) || q38) || (!(sgood sn ss))) || (!(vgood va vb))))) (.pointer (some ⟨n, 1, none⟩)) (fun ρ w' hk => by obtain ⟨_, hg, -⟩ := hk; have eg : ρ 52 = .bool ((((((q16 && q20) || q25) || q30) || q38) || (!(sgood sn ss))) || (!(vgood va vb))) := hg; cases hq : (((((((q16 && q20) || q25) || q30) || q38) || (!(sgood sn ss))) || (!(vgood va vb)))) <;> simp [wantedR, Region.wanted, asBoolR_bool, asBoolR_undef, eg, ifV, hq]) ?_ ?_
  · rintro ρ w' he ⟨h3, hgd, -⟩ hG
    have e3 : ρ 3 = .pointer (some ⟨n, 0, none⟩) := h3
    simp [execOp, evR, e3, go_sem]
  refine tele_gval rfl ((!((((((q16 && q20) || q25) || q30) || q38) || (!(sgood sn ss))) || (!(vgood va vb))))) (.int .i64 seq) (fun ρ w' hk => by obtain ⟨_, hg, -⟩ := hk; have eg : ρ 52 = .bool ((((((q16 && q20) || q25) || q30) || q38) || (!(sgood sn ss))) || (!(vgood va vb))) := hg; cases hq : (((((((q16 && q20) || q25) || q30) || q38) || (!(sgood sn ss))) || (!(vgood va vb)))) <;> simp [wantedR, Region.wanted, asBoolR_bool, asBoolR_undef, eg, ifV, hq]) ?_ ?_
  · rintro ρ w' he ⟨h59, hgd, -⟩ hG
    have e59 : ρ 59 = .pointer (some ⟨n, 1, none⟩) := (show ρ 59 = ifV ((!((((((q16 && q20) || q25) || q30) || q38) || (!(sgood sn ss))) || (!(vgood va vb))))) (.pointer (some ⟨n, 1, none⟩)) from h59).trans (ifV_true (by first | exact hG | simp_all))
    have c0 := (ba.ext he).cell (i := 1) rfl
    simp [execOp, evR, e59, c0, go_sem]
  refine tele_gval rfl ((!((((((q16 && q20) || q25) || q30) || q38) || (!(sgood sn ss))) || (!(vgood va vb))))) (.bool q61) (fun ρ w' hk => by obtain ⟨_, _, hg, -⟩ := hk; have eg : ρ 52 = .bool ((((((q16 && q20) || q25) || q30) || q38) || (!(sgood sn ss))) || (!(vgood va vb))) := hg; cases hq : (((((((q16 && q20) || q25) || q30) || q38) || (!(sgood sn ss))) || (!(vgood va vb)))) <;> simp [wantedR, Region.wanted, asBoolR_bool, asBoolR_undef, eg, ifV, hq]) ?_ ?_
  · rintro ρ w' he ⟨h58, h60, hgd, -⟩ hG
    have e58 : ρ 58 = .int .i64 (if site = 1 then va else vb) := (show ρ 58 = ifV ((!((((((q16 && q20) || q25) || q30) || q38) || (!(sgood sn ss))) || (!(vgood va vb))))) (.int .i64 (if site = 1 then va else vb)) from h58).trans (ifV_true (by first | exact hG | simp_all))
    have e60 : ρ 60 = .int .i64 seq := (show ρ 60 = ifV ((!((((((q16 && q20) || q25) || q30) || q38) || (!(sgood sn ss))) || (!(vgood va vb))))) (.int .i64 seq) from h60).trans (ifV_true (by first | exact hG | simp_all))
    rw [Q61]
    simp [execOp, evR, e58, e60, go_sem]
  refine tele_val rfl (.bool (((((((q16 && q20) || q25) || q30) || q38) || (!(sgood sn ss))) || (!(vgood va vb))) || q61)) (fun _ _ _ => rfl) ?_ ?_
  · rintro ρ w' he ⟨h52, h61, -⟩
    have e52 : ρ 52 = .bool ((((((q16 && q20) || q25) || q30) || q38) || (!(sgood sn ss))) || (!(vgood va vb))) := h52
    have e61 : ρ 61 = ifV ((!((((((q16 && q20) || q25) || q30) || q38) || (!(sgood sn ss))) || (!(vgood va vb))))) (.bool q61) := h61
    cases hc : (((((((q16 && q20) || q25) || q30) || q38) || (!(sgood sn ss))) || (!(vgood va vb)))) <;> simp [execOp, evR, e52, e61, ifV, hc, go_sem]
  refine tele_nil ?_
  rintro ρ w' hext ⟨f62, f61, f60, f59, f58, f57, f56, f55, f54, f53, f52, f51, f50, f49, f48, f47, f46, f45, f44, f43, f42, f41, f40, f39, f38, f37, f36, f35, f34, f33, f32, f31, f30, f29, f28, f27, f26, f25, f24, f23, f22, f21, f20, f19, f18, f17, f16, f15, f14, -⟩
  clear f14
  clear f15
  clear f16
  clear f17
  clear f18
  clear f19
  clear f20
  clear f21
  clear f22
  clear f23
  clear f24
  clear f25
  clear f26
  clear f27
  clear f28
  clear f29
  clear f30
  clear f31
  clear f32
  clear f33
  clear f34
  clear f35
  clear f36
  clear f37
  clear f38
  clear f39
  clear f40
  clear f41
  clear f42
  clear f43
  clear f44
  clear f45
  clear f46
  clear f47
  clear f48
  clear f49
  clear f50
  clear f51
  clear f52
  clear f53
  clear f54
  clear f55
  clear f56
  clear f57
  clear f58
  clear f59
  clear f60
  clear f61
  replace f62 : ρ 62 = .bool (((((((q16 && q20) || q25) || q30) || q38) || (!(sgood sn ss))) || (!(vgood va vb))) || q61) := f62
  simp only [puts, Act.put, List.setIfInBounds_toArray, List.set_cons_zero, List.set_cons_succ]
  have hch : (((((((q16 && q20) || q25) || q30) || q38) || (!(sgood sn ss))) || (!(vgood va vb))) || q61) = !chead ⟨site, seq, sn, ss, va, vb, ws⟩ := by
    rw [Q16, Q20, Q25, Q30, Q38, Q61, Bool.eq_iff_iff]
    unfold chead
    dsimp only
    generalize (if site = 1 then va else vb) = zz
    cases sgood sn ss <;> cases vgood va vb <;> simp <;> omega
  rw [hch] at f62
  clear Q16 Q20 Q25 Q30 Q38 Q61 hch
  clear q16 q20 q25 q30 q38 q61
  replace hx := Ext.trans hx hext
  replace ba := ba.ext hext
  clear hext
  cases hh : chead ⟨site, seq, sn, ss, va, vb, ws⟩
  · have HR := Lib.hid (show cgood l ⟨site, seq, sn, ss, va, vb, ws⟩ = 120 by unfold cgood; rw [if_neg (by rw [HP.out]; simp), if_pos hh])
    rw [hh] at f62
    replace f62 : ρ 62 = .bool true := f62
    clear hh
    rw [f62]
    go_wp2_with fail
    go_ret
    exact ⟨by rw [HR.out]; rfl, hx⟩
  rw [hh] at f62
  replace f62 : ρ 62 = .bool false := f62
  have HH := Lib.hid hh
  clear hh
  rw [f62]
  clear f62
  have HW := Lib.hid hw
  obtain ⟨A, c, rfl, h1, h2, h3, h4⟩ := hw.at_
  have bac := ba.cell (i := 6) rfl
  by_cases hn : ws.length < 1 ∨ 8 < ws.length
  · have HR := Lib.hid (show cgood l ⟨site, seq, sn, ss, va, vb, ws⟩ = 120 by unfold cgood; rw [if_neg (by rw [HP.out]; simp), if_neg (by rw [HH.out]; simp), if_pos hn])
    clear h4
    rcases hn with hn | hn
    · go_wp2_with fail
      go_ret
      exact ⟨by rw [HR.out]; rfl, hx⟩
    · have hn0 : ¬ (ws.length : Int) < 1 := by omega
      go_wp2_with fail
      go_ret
      exact ⟨by rw [HR.out]; rfl, hx⟩
  have HR := Lib.hid (show cgood l ⟨site, seq, sn, ss, va, vb, ws⟩ = if cgoodF l.length none ws = true then 0 else 120 by unfold cgood; rw [if_neg (by rw [HP.out]; simp), if_neg (by rw [HH.out]; simp), if_neg hn])
  obtain ⟨b, off, rfl, hb, hcell⟩ := h4 (by omega)
  clear h4
  have HC := Lib.hid hcell
  clear hcell
  have hn0 : ¬ (ws.length : Int) < 1 := by omega
  have hn8 : ws.length ≤ 8 := by omega
  clear hn
  have hln : l.length ≤ 9223372036854775807 := by
    obtain ⟨A, c, _, k1, k2, _⟩ := hl.at_
    omega
  obtain ⟨A0, c0, rfl, _⟩ := hl.at_
  clear bac
  have bac := ba.cell (i := 6) rfl
  go_wp2_with fail
  clear bac
  go_loopw [75] (fun j wr => ∃ i : Nat, i ≤ ws.length ∧ j = .int .i64 i ∧ cgood l ⟨site, seq, sn, ss, va, vb, ws⟩ = (if cgoodF l.length (prevOf ws i) (ws.drop i) = true then 0 else 120) ∧ Blk wr n [.int .i64 site, .int .i64 seq, .int .i64 sn, .int .i64 ss, .int .i64 va, .int .i64 vb, .slice (some ⟨b, off, none⟩) ws.length c] ∧ Ext w wr) (fun j _ => ws.length - (intOf j).toNat)
  case atStart => exact ⟨0, Nat.zero_le _, rfl, HR.out, ba, hx⟩
  case round =>
    obtain ⟨i, hi, rfl, hpg, ba, hx⟩ := hrel
    by_cases hlt : i < ws.length
    · obtain ⟨k, g, d, z, hget, hc0, hc1, hc2, hc3, hk, hg, hz⟩ := HC.out i hlt
      have HG := Lib.hid hget
      have HS := Lib.hid (cgoodF_step l.length ws i _ hget)
      have HPG := Lib.hid hpg
      replace hc0 := (hx.cell (p := ⟨b, off + i * 4, none⟩) hb).trans hc0
      replace hc1 := (hx.cell (p := ⟨b, off + i * 4 + 1, none⟩) hb).trans hc1
      replace hc2 := (hx.cell (p := ⟨b, off + i * 4 + 2, none⟩) hb).trans hc2
      replace hc3 := (hx.cell (p := ⟨b, off + i * 4 + 3, none⟩) hb).trans hc3
      unfold strV at hc0 hc3
      clear hget hpg
      go_upto_region 12 with (fail)
      clear hc0 hc1 hc2 hc3
      have bm : Blk _ _ [strV k, .int .i64 g, .bool d, strV z] := Blk.new wr #[.string ⟨k.toArray⟩, .int .i64 g, .bool d, .string ⟨z.toArray⟩] 31
      have xb := Ext.trans hx (ext_alloc wr (.cells #[.string ⟨k.toArray⟩, .int .i64 g, .bool d, .string ⟨z.toArray⟩] 31))
      replace ba := ba.ext (ext_alloc wr (.cells #[.string ⟨k.toArray⟩, .int .i64 g, .bool d, .string ⟨z.toArray⟩] 31))
      clear hx
      obtain ⟨m, hm⟩ : ∃ m, m = wr.heap.size := ⟨_, rfl⟩
      rw [← hm] at bm ⊢
      clear hm
      generalize wr.alloc (.cells #[.string ⟨k.toArray⟩, .int .i64 g, .bool d, .string ⟨z.toArray⟩] 31) = W2 at *
      obtain ⟨q82, Q82⟩ : ∃ q : Bool, q = (k == []) := ⟨_, rfl⟩
      obtain ⟨q87, Q87⟩ : ∃ q : Bool, q = decide ((32 : Int) < (k.length : Int)) := ⟨_, rfl⟩
      obtain ⟨q92, Q92⟩ : ∃ q : Bool, q = decide (g < 0) := ⟨_, rfl⟩
      obtain ⟨q99, Q99⟩ : ∃ q : Bool, q = decide ((l.length : Int) ≤ g) := ⟨_, rfl⟩
      obtain ⟨q105, Q105⟩ : ∃ q : Bool, q = decide ((64 : Int) < (z.length : Int)) := ⟨_, rfl⟩
      obtain ⟨q113, Q113⟩ : ∃ q : Bool, q = (!(z == [])) := ⟨_, rfl⟩
      refine wp_region_seq (by kernel_rfl) ?_
      refine tele_val rfl (.pointer (some ⟨m, 0, none⟩)) (fun _ _ _ => rfl) ?_ ?_
      · rintro ρ w' he ⟨h8, -⟩
        have e8 : ρ 8 = .pointer (some ⟨m, 0, none⟩) := h8
        simp [execOp, evR, e8, go_sem]
      refine tele_val rfl (strV k) (fun _ _ _ => rfl) ?_ ?_
      · rintro ρ w' he ⟨h80, -⟩
        have e80 : ρ 80 = .pointer (some ⟨m, 0, none⟩) := h80
        have c0 := (bm.ext he).cell (i := 0) rfl
        simp [execOp, evR, e80, c0, go_sem]
      refine tele_val rfl (.bool q82) (fun _ _ _ => rfl) ?_ ?_
      · rintro ρ w' he ⟨h81, -⟩
        have e81 : ρ 81 = strV k := h81
        exact (exec_eql_str rfl e81 (show _ = strV [] from rfl)).trans (by rw [Q82])
      refine tele_move rfl (.inl rfl) rfl (isV (.bool q82)) (fun ρ w' h => h) ?_
      refine tele_gval rfl (!q82) (.pointer (some ⟨m, 0, none⟩)) (fun ρ w' hk => by obtain ⟨_, hg, -⟩ := hk; have eg : ρ 83 = .bool q82 := hg; cases hq : (q82) <;> simp [wantedR, Region.wanted, asBoolR_bool, asBoolR_undef, eg, ifV, hq]) ?_ ?_
      · rintro ρ w' he ⟨h8, hgd, -⟩ hG
        have e8 : ρ 8 = .pointer (some ⟨m, 0, none⟩) := h8
        simp [execOp, evR, e8, go_sem]
      refine tele_gval rfl (!q82) (strV k) (fun ρ w' hk => by obtain ⟨_, hg, -⟩ := hk; have eg : ρ 83 = .bool q82 := hg; cases hq : (q82) <;> simp [wantedR, Region.wanted, asBoolR_bool, asBoolR_undef, eg, ifV, hq]) ?_ ?_
      · rintro ρ w' he ⟨h84, hgd, -⟩ hG
        have e84 : ρ 84 = .pointer (some ⟨m, 0, none⟩) := (show ρ 84 = ifV (!q82) (.pointer (some ⟨m, 0, none⟩)) from h84).trans (ifV_true (by first | exact hG | simp_all))
        have c0 := (bm.ext he).cell (i := 0) rfl
        simp [execOp, evR, e84, c0, go_sem]
      refine tele_gval rfl (!q82) (.int .i64 ((k.length : Nat) : Int)) (fun ρ w' hk => by obtain ⟨_, hg, -⟩ := hk; have eg : ρ 83 = .bool q82 := hg; cases hq : (q82) <;> simp [wantedR, Region.wanted, asBoolR_bool, asBoolR_undef, eg, ifV, hq]) ?_ ?_
      · rintro ρ w' he ⟨h85, hgd, -⟩ hG
        have e85 : ρ 85 = strV k := (show ρ 85 = ifV (!q82) (strV k) from h85).trans (ifV_true (by first | exact hG | simp_all))
        have hsz := strV_size k
        unfold strV at e85
        simp [execOp, evR, e85, go_sem]
      refine tele_gval rfl (!q82) (.bool q87) (fun ρ w' hk => by obtain ⟨_, hg, -⟩ := hk; have eg : ρ 83 = .bool q82 := hg; cases hq : (q82) <;> simp [wantedR, Region.wanted, asBoolR_bool, asBoolR_undef, eg, ifV, hq]) ?_ ?_
      · rintro ρ w' he ⟨h86, hgd, -⟩ hG
        have e86 : ρ 86 = .int .i64 ((k.length : Nat) : Int) := (show ρ 86 = ifV (!q82) (.int .i64 ((k.length : Nat) : Int)) from h86).trans (ifV_true (by first | exact hG | simp_all))
        rw [Q87]
        simp [execOp, evR, e86, go_sem]
      refine tele_val rfl (.bool (q82 || q87)) (fun _ _ _ => rfl) ?_ ?_
      · rintro ρ w' he ⟨h83, h87, -⟩
        have e83 : ρ 83 = .bool q82 := h83
        have e87 : ρ 87 = ifV (!q82) (.bool q87) := h87
        cases hc : (q82) <;> simp [execOp, evR, e83, e87, ifV, hc, go_sem]
      refine tele_move rfl (.inl rfl) rfl (isV (.bool (q82 || q87))) (fun ρ w' h => h) ?_
      refine tele_gval rfl ((!(q82 || q87))) (.pointer (some ⟨m, 1, none⟩)) (fun ρ w' hk => by obtain ⟨_, hg, -⟩ := hk; have eg : ρ 89 = .bool (q82 || q87) := hg; cases hq : ((q82 || q87)) <;> simp [wantedR, Region.wanted, asBoolR_bool, asBoolR_undef, eg, ifV, hq]) ?_ ?_
      · rintro ρ w' he ⟨h8, hgd, -⟩ hG
        have e8 : ρ 8 = .pointer (some ⟨m, 0, none⟩) := h8
        simp [execOp, evR, e8, go_sem]
      refine tele_gval rfl ((!(q82 || q87))) (.int .i64 g) (fun ρ w' hk => by obtain ⟨_, hg, -⟩ := hk; have eg : ρ 89 = .bool (q82 || q87) := hg; cases hq : ((q82 || q87)) <;> simp [wantedR, Region.wanted, asBoolR_bool, asBoolR_undef, eg, ifV, hq]) ?_ ?_
      · rintro ρ w' he ⟨h90, hgd, -⟩ hG
        have e90 : ρ 90 = .pointer (some ⟨m, 1, none⟩) := (show ρ 90 = ifV ((!(q82 || q87))) (.pointer (some ⟨m, 1, none⟩)) from h90).trans (ifV_true (by first | exact hG | simp_all))
        have c0 := (bm.ext he).cell (i := 1) rfl
        simp [execOp, evR, e90, c0, go_sem]
      refine tele_gval rfl ((!(q82 || q87))) (.bool q92) (fun ρ w' hk => by obtain ⟨_, hg, -⟩ := hk; have eg : ρ 89 = .bool (q82 || q87) := hg; cases hq : ((q82 || q87)) <;> simp [wantedR, Region.wanted, asBoolR_bool, asBoolR_undef, eg, ifV, hq]) ?_ ?_
      · rintro ρ w' he ⟨h91, hgd, -⟩ hG
        have e91 : ρ 91 = .int .i64 g := (show ρ 91 = ifV ((!(q82 || q87))) (.int .i64 g) from h91).trans (ifV_true (by first | exact hG | simp_all))
        rw [Q92]
        simp [execOp, evR, e91, go_sem]
      refine tele_val rfl (.bool ((q82 || q87) || q92)) (fun _ _ _ => rfl) ?_ ?_
      · rintro ρ w' he ⟨h89, h92, -⟩
        have e89 : ρ 89 = .bool (q82 || q87) := h89
        have e92 : ρ 92 = ifV ((!(q82 || q87))) (.bool q92) := h92
        cases hc : ((q82 || q87)) <;> simp [execOp, evR, e89, e92, ifV, hc, go_sem]
      refine tele_move rfl (.inl rfl) rfl (isV (.bool ((q82 || q87) || q92))) (fun ρ w' h => h) ?_
      refine tele_gval rfl ((!((q82 || q87) || q92))) (.pointer (some ⟨m, 1, none⟩)) (fun ρ w' hk => by obtain ⟨_, hg, -⟩ := hk; have eg : ρ 94 = .bool ((q82 || q87) || q92) := hg; cases hq : (((q82 || q87) || q92)) <;> simp [wantedR, Region.wanted, asBoolR_bool, asBoolR_undef, eg, ifV, hq]) ?_ ?_
      · rintro ρ w' he ⟨h8, hgd, -⟩ hG
        have e8 : ρ 8 = .pointer (some ⟨m, 0, none⟩) := h8
        simp [execOp, evR, e8, go_sem]
      refine tele_gval rfl ((!((q82 || q87) || q92))) (.int .i64 g) (fun ρ w' hk => by obtain ⟨_, hg, -⟩ := hk; have eg : ρ 94 = .bool ((q82 || q87) || q92) := hg; cases hq : (((q82 || q87) || q92)) <;> simp [wantedR, Region.wanted, asBoolR_bool, asBoolR_undef, eg, ifV, hq]) ?_ ?_
      · rintro ρ w' he ⟨h95, hgd, -⟩ hG
        have e95 : ρ 95 = .pointer (some ⟨m, 1, none⟩) := (show ρ 95 = ifV ((!((q82 || q87) || q92))) (.pointer (some ⟨m, 1, none⟩)) from h95).trans (ifV_true (by first | exact hG | simp_all))
        have c0 := (bm.ext he).cell (i := 1) rfl
        simp [execOp, evR, e95, c0, go_sem]
      refine tele_gval rfl ((!((q82 || q87) || q92))) (.slice A0 l.length c0) (fun ρ w' hk => by obtain ⟨_, hg, -⟩ := hk; have eg : ρ 94 = .bool ((q82 || q87) || q92) := hg; cases hq : (((q82 || q87) || q92)) <;> simp [wantedR, Region.wanted, asBoolR_bool, asBoolR_undef, eg, ifV, hq]) ?_ ?_
      · rintro ρ w' he ⟨h0, hgd, -⟩ hG
        have e0 : ρ 0 = .slice A0 l.length c0 := h0
        simp [execOp, evR, e0, go_sem]
      refine tele_gval rfl ((!((q82 || q87) || q92))) (.int .i64 ((l.length : Nat) : Int)) (fun ρ w' hk => by obtain ⟨_, hg, -⟩ := hk; have eg : ρ 94 = .bool ((q82 || q87) || q92) := hg; cases hq : (((q82 || q87) || q92)) <;> simp [wantedR, Region.wanted, asBoolR_bool, asBoolR_undef, eg, ifV, hq]) ?_ ?_
      · rintro ρ w' he ⟨h97, hgd, -⟩ hG
        have e97 : ρ 97 = .slice A0 l.length c0 := (show ρ 97 = ifV ((!((q82 || q87) || q92))) (.slice A0 l.length c0) from h97).trans (ifV_true (by first | exact hG | simp_all))
        simp [execOp, evR, e97, go_sem]
      refine tele_gval rfl ((!((q82 || q87) || q92))) (.bool q99) (fun ρ w' hk => by obtain ⟨_, _, hg, -⟩ := hk; have eg : ρ 94 = .bool ((q82 || q87) || q92) := hg; cases hq : (((q82 || q87) || q92)) <;> simp [wantedR, Region.wanted, asBoolR_bool, asBoolR_undef, eg, ifV, hq]) ?_ ?_
      · rintro ρ w' he ⟨h96, h98, hgd, -⟩ hG
        have e96 : ρ 96 = .int .i64 g := (show ρ 96 = ifV ((!((q82 || q87) || q92))) (.int .i64 g) from h96).trans (ifV_true (by first | exact hG | simp_all))
        have e98 : ρ 98 = .int .i64 ((l.length : Nat) : Int) := (show ρ 98 = ifV ((!((q82 || q87) || q92))) (.int .i64 ((l.length : Nat) : Int)) from h98).trans (ifV_true (by first | exact hG | simp_all))
        rw [Q99]
        simp [execOp, evR, e96, e98, go_sem]
      refine tele_val rfl (.bool (((q82 || q87) || q92) || q99)) (fun _ _ _ => rfl) ?_ ?_
      · rintro ρ w' he ⟨h94, h99, -⟩
        have e94 : ρ 94 = .bool ((q82 || q87) || q92) := h94
        have e99 : ρ 99 = ifV ((!((q82 || q87) || q92))) (.bool q99) := h99
        cases hc : (((q82 || q87) || q92)) <;> simp [execOp, evR, e94, e99, ifV, hc, go_sem]
      refine tele_move rfl (.inl rfl) rfl (isV (.bool (((q82 || q87) || q92) || q99))) (fun ρ w' h => h) ?_
      refine tele_gval rfl ((!(((q82 || q87) || q92) || q99))) (.pointer (some ⟨m, 3, none⟩)) (fun ρ w' hk => by obtain ⟨_, hg, -⟩ := hk; have eg : ρ 101 = .bool (((q82 || q87) || q92) || q99) := hg; cases hq : ((((q82 || q87) || q92) || q99)) <;> simp [wantedR, Region.wanted, asBoolR_bool, asBoolR_undef, eg, ifV, hq]) ?_ ?_
      · rintro ρ w' he ⟨h8, hgd, -⟩ hG
        have e8 : ρ 8 = .pointer (some ⟨m, 0, none⟩) := h8
        simp [execOp, evR, e8, go_sem]
      refine tele_gval rfl ((!(((q82 || q87) || q92) || q99))) (strV z) (fun ρ w' hk => by obtain ⟨_, hg, -⟩ := hk; have eg : ρ 101 = .bool (((q82 || q87) || q92) || q99) := hg; cases hq : ((((q82 || q87) || q92) || q99)) <;> simp [wantedR, Region.wanted, asBoolR_bool, asBoolR_undef, eg, ifV, hq]) ?_ ?_
      · rintro ρ w' he ⟨h102, hgd, -⟩ hG
        have e102 : ρ 102 = .pointer (some ⟨m, 3, none⟩) := (show ρ 102 = ifV ((!(((q82 || q87) || q92) || q99))) (.pointer (some ⟨m, 3, none⟩)) from h102).trans (ifV_true (by first | exact hG | simp_all))
        have c0 := (bm.ext he).cell (i := 3) rfl
        simp [execOp, evR, e102, c0, go_sem]
      refine tele_gval rfl ((!(((q82 || q87) || q92) || q99))) (.int .i64 ((z.length : Nat) : Int)) (fun ρ w' hk => by obtain ⟨_, hg, -⟩ := hk; have eg : ρ 101 = .bool (((q82 || q87) || q92) || q99) := hg; cases hq : ((((q82 || q87) || q92) || q99)) <;> simp [wantedR, Region.wanted, asBoolR_bool, asBoolR_undef, eg, ifV, hq]) ?_ ?_
      · rintro ρ w' he ⟨h103, hgd, -⟩ hG
        have e103 : ρ 103 = strV z := (show ρ 103 = ifV ((!(((q82 || q87) || q92) || q99))) (strV z) from h103).trans (ifV_true (by first | exact hG | simp_all))
        have hsz := strV_size z
        unfold strV at e103
        simp [execOp, evR, e103, go_sem]
      refine tele_gval rfl ((!(((q82 || q87) || q92) || q99))) (.bool q105) (fun ρ w' hk => by obtain ⟨_, hg, -⟩ := hk; have eg : ρ 101 = .bool (((q82 || q87) || q92) || q99) := hg; cases hq : ((((q82 || q87) || q92) || q99)) <;> simp [wantedR, Region.wanted, asBoolR_bool, asBoolR_undef, eg, ifV, hq]) ?_ ?_
      · rintro ρ w' he ⟨h104, hgd, -⟩ hG
        have e104 : ρ 104 = .int .i64 ((z.length : Nat) : Int) := (show ρ 104 = ifV ((!(((q82 || q87) || q92) || q99))) (.int .i64 ((z.length : Nat) : Int)) from h104).trans (ifV_true (by first | exact hG | simp_all))
        rw [Q105]
        simp [execOp, evR, e104, go_sem]
      refine tele_val rfl (.bool ((((q82 || q87) || q92) || q99) || q105)) (fun _ _ _ => rfl) ?_ ?_
      · rintro ρ w' he ⟨h101, h105, -⟩
        have e101 : ρ 101 = .bool (((q82 || q87) || q92) || q99) := h101
        have e105 : ρ 105 = ifV ((!(((q82 || q87) || q92) || q99))) (.bool q105) := h105
        cases hc : ((((q82 || q87) || q92) || q99)) <;> simp [execOp, evR, e101, e105, ifV, hc, go_sem]
      refine tele_move rfl (.inl rfl) rfl (isV (.bool ((((q82 || q87) || q92) || q99) || q105))) (fun ρ w' h => h) ?_
      refine tele_gval rfl ((!((((q82 || q87) || q92) || q99) || q105))) (.pointer (some ⟨m, 2, none⟩)) (fun ρ w' hk => by obtain ⟨_, hg, -⟩ := hk; have eg : ρ 107 = .bool ((((q82 || q87) || q92) || q99) || q105) := hg; cases hq : (((((q82 || q87) || q92) || q99) || q105)) <;> simp [wantedR, Region.wanted, asBoolR_bool, asBoolR_undef, eg, ifV, hq]) ?_ ?_
      · rintro ρ w' he ⟨h8, hgd, -⟩ hG
        have e8 : ρ 8 = .pointer (some ⟨m, 0, none⟩) := h8
        simp [execOp, evR, e8, go_sem]
      refine tele_gval rfl ((!((((q82 || q87) || q92) || q99) || q105))) (.bool d) (fun ρ w' hk => by obtain ⟨_, hg, -⟩ := hk; have eg : ρ 107 = .bool ((((q82 || q87) || q92) || q99) || q105) := hg; cases hq : (((((q82 || q87) || q92) || q99) || q105)) <;> simp [wantedR, Region.wanted, asBoolR_bool, asBoolR_undef, eg, ifV, hq]) ?_ ?_
      · rintro ρ w' he ⟨h108, hgd, -⟩ hG
        have e108 : ρ 108 = .pointer (some ⟨m, 2, none⟩) := (show ρ 108 = ifV ((!((((q82 || q87) || q92) || q99) || q105))) (.pointer (some ⟨m, 2, none⟩)) from h108).trans (ifV_true (by first | exact hG | simp_all))
        have c0 := (bm.ext he).cell (i := 2) rfl
        simp [execOp, evR, e108, c0, go_sem]
      refine tele_gval rfl ((!((((q82 || q87) || q92) || q99) || q105))) (.bool d) (fun ρ w' hk => by obtain ⟨_, hg, -⟩ := hk; have eg : ρ 107 = .bool ((((q82 || q87) || q92) || q99) || q105) := hg; cases hq : (((((q82 || q87) || q92) || q99) || q105)) <;> simp [wantedR, Region.wanted, asBoolR_bool, asBoolR_undef, eg, ifV, hq]) ?_ ?_
      · rintro ρ w' he ⟨h109, hgd, -⟩ hG
        have e109 : ρ 109 = .bool d := (show ρ 109 = ifV ((!((((q82 || q87) || q92) || q99) || q105))) (.bool d) from h109).trans (ifV_true (by first | exact hG | simp_all))
        simp [execOp, evR, e109, go_sem]
      refine tele_gval rfl (((!((((q82 || q87) || q92) || q99) || q105)) && d)) (.pointer (some ⟨m, 3, none⟩)) (fun ρ w' hk => by obtain ⟨_, hg, -⟩ := hk; have eg : ρ 110 = ifV ((!((((q82 || q87) || q92) || q99) || q105))) (.bool d) := hg; cases h0 : ((!((((q82 || q87) || q92) || q99) || q105))) <;> cases hq : (d) <;> simp [wantedR, Region.wanted, asBoolR_bool, asBoolR_undef, eg, ifV, hq, h0]) ?_ ?_
      · rintro ρ w' he ⟨h8, hgd, -⟩ hG
        have e8 : ρ 8 = .pointer (some ⟨m, 0, none⟩) := h8
        simp [execOp, evR, e8, go_sem]
      refine tele_gval rfl (((!((((q82 || q87) || q92) || q99) || q105)) && d)) (strV z) (fun ρ w' hk => by obtain ⟨_, hg, -⟩ := hk; have eg : ρ 110 = ifV ((!((((q82 || q87) || q92) || q99) || q105))) (.bool d) := hg; cases h0 : ((!((((q82 || q87) || q92) || q99) || q105))) <;> cases hq : (d) <;> simp [wantedR, Region.wanted, asBoolR_bool, asBoolR_undef, eg, ifV, hq, h0]) ?_ ?_
      · rintro ρ w' he ⟨h111, hgd, -⟩ hG
        have e111 : ρ 111 = .pointer (some ⟨m, 3, none⟩) := (show ρ 111 = ifV (((!((((q82 || q87) || q92) || q99) || q105)) && d)) (.pointer (some ⟨m, 3, none⟩)) from h111).trans (ifV_true (by first | exact hG | simp_all))
        have c0 := (bm.ext he).cell (i := 3) rfl
        simp [execOp, evR, e111, c0, go_sem]
      refine tele_gval rfl (((!((((q82 || q87) || q92) || q99) || q105)) && d)) (.bool q113) (fun ρ w' hk => by obtain ⟨_, hg, -⟩ := hk; have eg : ρ 110 = ifV ((!((((q82 || q87) || q92) || q99) || q105))) (.bool d) := hg; cases h0 : ((!((((q82 || q87) || q92) || q99) || q105))) <;> cases hq : (d) <;> simp [wantedR, Region.wanted, asBoolR_bool, asBoolR_undef, eg, ifV, hq, h0]) ?_ ?_
      · rintro ρ w' he ⟨h112, hgd, -⟩ hG
        have e112 : ρ 112 = strV z := (show ρ 112 = ifV (((!((((q82 || q87) || q92) || q99) || q105)) && d)) (strV z) from h112).trans (ifV_true (by first | exact hG | simp_all))
        exact (exec_neq_str rfl e112 (show _ = strV [] from rfl)).trans (by rw [Q113])
      refine tele_gval rfl ((!((((q82 || q87) || q92) || q99) || q105))) (.bool (d && q113)) (fun ρ w' hk => by obtain ⟨_, _, hg, -⟩ := hk; have eg : ρ 107 = .bool ((((q82 || q87) || q92) || q99) || q105) := hg; cases hq : (((((q82 || q87) || q92) || q99) || q105)) <;> simp [wantedR, Region.wanted, asBoolR_bool, asBoolR_undef, eg, ifV, hq]) ?_ ?_
      · rintro ρ w' he ⟨h110, h113, hgd, -⟩ hG
        have e110 : ρ 110 = .bool d := (show ρ 110 = ifV ((!((((q82 || q87) || q92) || q99) || q105))) (.bool d) from h110).trans (ifV_true (by first | exact hG | simp_all))
        have e113 : ρ 113 = ifV (((!((((q82 || q87) || q92) || q99) || q105)) && d)) (.bool q113) := h113
        cases hc : (d) <;> simp [execOp, evR, e110, e113, ifV, hc, hG, go_sem]
      refine tele_val rfl (.bool (((((q82 || q87) || q92) || q99) || q105) || (d && q113))) (fun _ _ _ => rfl) ?_ ?_
      · rintro ρ w' he ⟨h107, h114, -⟩
        have e107 : ρ 107 = .bool ((((q82 || q87) || q92) || q99) || q105) := h107
        have e114 : ρ 114 = ifV ((!((((q82 || q87) || q92) || q99) || q105))) (.bool (d && q113)) := h114
        cases hc : (((((q82 || q87) || q92) || q99) || q105)) <;> simp [execOp, evR, e107, e114, ifV, hc, go_sem]
      refine tele_nil ?_
      rintro ρ w' hext ⟨f115, f114, f113, f112, f111, f110, f109, f108, f107, f106, f105, f104, f103, f102, f101, f100, f99, f98, f97, f96, f95, f94, f93, f92, f91, f90, f89, f88, f87, f86, f85, f84, f83, f82, f81, f80, -⟩
      clear f80
      clear f81
      clear f82
      clear f83
      clear f84
      clear f85
      clear f86
      clear f87
      clear f88
      clear f89
      clear f90
      clear f91
      clear f92
      clear f93
      clear f94
      clear f95
      clear f96
      clear f97
      clear f98
      clear f99
      clear f100
      clear f101
      clear f102
      clear f103
      clear f104
      clear f105
      clear f106
      clear f107
      clear f108
      clear f109
      clear f110
      clear f111
      clear f112
      clear f113
      clear f114
      replace f115 : ρ 115 = .bool (((((q82 || q87) || q92) || q99) || q105) || (d && q113)) := f115
      simp only [puts, Act.put, List.setIfInBounds_toArray, List.set_cons_zero, List.set_cons_succ]

      have hok : (((((q82 || q87) || q92) || q99) || q105) || (d && q113)) = !wok l.length ⟨k, g, d, z⟩ := by
        rw [Q82, Q87, Q92, Q99, Q105, Q113, Bool.eq_iff_iff]
        unfold wok
        dsimp only
        generalize (k == []) = kk
        generalize (z == []) = zz
        cases kk <;> cases zz <;> cases d <;> simp <;> omega
      rw [hok] at f115
      clear Q82 Q87 Q92 Q99 Q105 Q113 hok
      clear q82 q87 q92 q99 q105 q113
      replace xb := Ext.trans xb hext
      replace ba := ba.ext hext
      replace bm := bm.ext hext
      clear hext
      cases hw : wok l.length ⟨k, g, d, z⟩
      · have HE := Lib.hid (show cgood l ⟨site, seq, sn, ss, va, vb, ws⟩ = 120 by rw [HPG.out, HS.out, hw]; simp)
        rw [hw] at f115
        replace f115 : ρ 115 = .bool true := f115
        clear hw
        rw [f115]
        go_wp2_with fail
        go_ret
        exact ⟨by rw [HE.out]; rfl, xb⟩
      rw [hw] at f115
      replace f115 : ρ 115 = .bool false := f115
      have HOK := Lib.hid hw
      clear hw
      rw [f115]
      clear f115
      rcases Nat.eq_zero_or_pos i with hi0 | hi0
      · subst hi0
        go_upto_region 14 with (fail)
        refine wp_region_mono (by kernel_rfl) (by kernel_rfl) ?_
        refine tele_move rfl (.inl rfl) rfl (isV (.int .i64 ((0 : Nat) : Int))) (fun ρ w' h => h) ?_
        refine tele_val rfl (.bool false) (fun _ _ _ => rfl) ?_ ?_
        · rintro ρ w' he ⟨h116, -⟩
          have e116 : ρ 116 = .int .i64 ((0 : Nat) : Int) := h116
          simp [execOp, evR, e116, go_sem]
        refine tele_move rfl (.inl rfl) rfl (isV (.bool false)) (fun ρ w' h => h) ?_
        refine tele_pass rfl (fun ρ w' hk => by obtain ⟨_, hg, -⟩ := hk; have eg : ρ 118 = .bool false := hg; simp [wantedR, Region.wanted, asBoolR, eg]) ?_
        refine tele_pass rfl (fun ρ w' hk => by obtain ⟨_, hg, -⟩ := hk; have eg : ρ 118 = .bool false := hg; simp [wantedR, Region.wanted, asBoolR, eg]) ?_
        refine tele_pass rfl (fun ρ w' hk => by obtain ⟨_, hg, -⟩ := hk; have eg : ρ 118 = .bool false := hg; simp [wantedR, Region.wanted, asBoolR, eg]) ?_
        refine tele_pass rfl (fun ρ w' hk => by obtain ⟨_, hg, -⟩ := hk; have eg : ρ 118 = .bool false := hg; simp [wantedR, Region.wanted, asBoolR, eg]) ?_
        refine tele_pass rfl (fun ρ w' hk => by obtain ⟨_, _, hg, -⟩ := hk; have eg : ρ 118 = .bool false := hg; simp [wantedR, Region.wanted, asBoolR, eg]) ?_
        refine tele_pass rfl (fun ρ w' hk => by obtain ⟨_, hg, -⟩ := hk; have eg : ρ 118 = .bool false := hg; simp [wantedR, Region.wanted, asBoolR, eg]) ?_
        refine tele_pass rfl (fun ρ w' hk => by obtain ⟨_, hg, -⟩ := hk; have eg : ρ 118 = .bool false := hg; simp [wantedR, Region.wanted, asBoolR, eg]) ?_
        refine tele_pass rfl (fun ρ w' hk => by obtain ⟨_, hg, -⟩ := hk; have eg : ρ 118 = .bool false := hg; simp [wantedR, Region.wanted, asBoolR, eg]) ?_
        refine tele_pass rfl (fun ρ w' hk => by obtain ⟨_, hg, -⟩ := hk; have eg : ρ 118 = .bool false := hg; simp [wantedR, Region.wanted, asBoolR, eg]) ?_
        refine tele_pass rfl (fun ρ w' hk => by obtain ⟨_, _, hg, -⟩ := hk; have eg : ρ 118 = .bool false := hg; simp [wantedR, Region.wanted, asBoolR, eg]) ?_
        refine tele_pass rfl (fun ρ w' hk => by obtain ⟨_, hg, -⟩ := hk; have eg : ρ 118 = .bool false := hg; simp [wantedR, Region.wanted, asBoolR, eg]) ?_
        refine tele_val rfl (.bool false) (fun _ _ _ => rfl) ?_ ?_
        · rintro ρ w' he ⟨h118, h129, -⟩
          have e118 : ρ 118 = .bool false := h118
          have e129 : ρ 129 = undef := h129
          simp [execOp, evR, e118, e129, go_sem]
        refine tele_nil ?_
        rintro ρ w' hext ⟨f130, f129, f128, f127, f126, f125, f124, f123, f122, f121, f120, f119, f118, f117, f116, -⟩
        clear f116
        clear f117
        clear f118
        clear f119
        clear f120
        clear f121
        clear f122
        clear f123
        clear f124
        clear f125
        clear f126
        clear f127
        clear f128
        clear f129
        replace f130 : ρ 130 = .bool false := f130
        simp only [puts, Act.put, List.setIfInBounds_toArray, List.set_cons_zero, List.set_cons_succ]

        rw [f130]
        clear f130
        have HE := Lib.hid (show cgood l ⟨site, seq, sn, ss, va, vb, ws⟩ = (if cgoodF l.length (prevOf ws (0 + 1)) (ws.drop (0 + 1)) = true then 0 else 120) by rw [HPG.out, HS.out, HOK.out, prevOf_zero]; simp)
        go_wp2_with fail
        go_roundw
        case rel => exact ⟨0 + 1, by omega, by go_num, HE.out, ba.ext hext, Ext.trans xb hext⟩
        case measure => simp [intOf]; omega
      · obtain ⟨pk, pg, pd, pz, hget1, hp0, hp1, hp2, hp3, _, _, _⟩ := HC.out (i - 1) (by omega)
        have HPV := Lib.hid (prevOf_pos ws i _ hi0 hget1)
        have HP1 := Lib.hid (And.intro hp0 (And.intro hp1 (And.intro hp2 hp3)))
        have hah := fun w => ahead_any pk pg k g w
        obtain ⟨aa, haa⟩ : ∃ a : Bool, a = (Op.bytesLess pk k || (pk == k && decide (pg < g))) := ⟨_, rfl⟩
        rw [← haa] at hah
        have HAH := Lib.hid hah
        have HAA := Lib.hid haa
        clear hp0 hp1 hp2 hp3 hget1 hah haa
        go_upto_region 14 with (fail)
        refine wp_region_mono (by kernel_rfl) (by kernel_rfl) ?_
        refine tele_move rfl (.inl rfl) rfl (isV (.int .i64 (i : Int))) (fun ρ w' h => h) ?_
        refine tele_val rfl (.bool true) (fun _ _ _ => rfl) ?_ ?_
        · rintro ρ w' he ⟨h116, -⟩
          have e116 : ρ 116 = .int .i64 (i : Int) := h116
          simp [execOp, evR, e116, go_sem]
          omega
        refine tele_move rfl (.inl rfl) rfl (isV (.bool true)) (fun ρ w' h => h) ?_
        refine tele_val rfl (.pointer (some ⟨n, 6, none⟩)) (fun ρ w' hk => by obtain ⟨_, hg, -⟩ := hk; have eg : ρ 118 = .bool true := hg; simp [wantedR, Region.wanted, asBoolR, eg]) ?_ ?_
        · rintro ρ w' he ⟨h3, hgd, -⟩
          have e3 : ρ 3 = .pointer (some ⟨n, 0, none⟩) := h3
          simp [execOp, evR, e3, go_sem]
        refine tele_val rfl (.slice (some ⟨b, off, none⟩) ws.length c) (fun ρ w' hk => by obtain ⟨_, hg, -⟩ := hk; have eg : ρ 118 = .bool true := hg; simp [wantedR, Region.wanted, asBoolR, eg]) ?_ ?_
        · rintro ρ w' he ⟨h119, hgd, -⟩
          have e119 : ρ 119 = .pointer (some ⟨n, 6, none⟩) := h119
          have c0 := (ba.ext he).cell (i := 6) rfl
          simp [execOp, evR, e119, c0, go_sem]
        refine tele_val rfl (.int .i64 (i : Int)) (fun ρ w' hk => by obtain ⟨_, hg, -⟩ := hk; have eg : ρ 118 = .bool true := hg; simp [wantedR, Region.wanted, asBoolR, eg]) ?_ ?_
        · rintro ρ w' he ⟨h7, hgd, -⟩
          have e7 : ρ 7 = .int .i64 (i : Int) := h7
          simp [execOp, evR, e7, go_sem]
        refine tele_val rfl (.int .i64 ((i - 1 : Nat) : Int)) (fun ρ w' hk => by obtain ⟨_, hg, -⟩ := hk; have eg : ρ 118 = .bool true := hg; simp [wantedR, Region.wanted, asBoolR, eg]) ?_ ?_
        · rintro ρ w' he ⟨h121, hgd, -⟩
          have e121 : ρ 121 = .int .i64 (i : Int) := h121
          have hw1 : IntKind.i64.wrap ((i : Int) - 1) = ((i - 1 : Nat) : Int) := by rw [IntWalk.i64_in _ (by omega)]; omega
          simp [execOp, evR, e121, hw1, go_sem]
        refine tele_val rfl (.pointer (some ⟨b, off + (i - 1) * 4, none⟩)) (fun ρ w' hk => by obtain ⟨_, _, hg, -⟩ := hk; have eg : ρ 118 = .bool true := hg; simp [wantedR, Region.wanted, asBoolR, eg]) ?_ ?_
        · rintro ρ w' he ⟨h120, h122, hgd, -⟩
          have e120 : ρ 120 = .slice (some ⟨b, off, none⟩) ws.length c := h120
          have e122 : ρ 122 = .int .i64 ((i - 1 : Nat) : Int) := h122
          exact index_at (w := w') 4 rfl Try.underlying27 e120 e122 (by omega) (by kernel_rfl)
        refine tele_val rfl (.agg #[strV pk, .int .i64 pg, .bool pd, strV pz]) (fun ρ w' hk => by obtain ⟨_, hg, -⟩ := hk; have eg : ρ 118 = .bool true := hg; simp [wantedR, Region.wanted, asBoolR, eg]) ?_ ?_
        · rintro ρ w' he ⟨h123, hgd, -⟩
          have e123 : ρ 123 = .pointer (some ⟨b, off + (i - 1) * 4, none⟩) := h123
          have c0 := (xb.trans he).cell (p := ⟨b, off + (i - 1) * 4, none⟩) hb |>.trans HP1.out.1
          have c1 := (xb.trans he).cell (p := ⟨b, off + (i - 1) * 4 + 1, none⟩) hb |>.trans HP1.out.2.1
          have c2 := (xb.trans he).cell (p := ⟨b, off + (i - 1) * 4 + 2, none⟩) hb |>.trans HP1.out.2.2.1
          have c3 := (xb.trans he).cell (p := ⟨b, off + (i - 1) * 4 + 3, none⟩) hb |>.trans HP1.out.2.2.2
          simp [execOp, evR, e123, c0, c1, c2, c3, go_sem]
        refine tele_call rfl rfl Try.func36 (by kernel_rfl) (isV (.agg #[strV pk, .int .i64 pg])) (fun ρ w' hk => by obtain ⟨_, hg, -⟩ := hk; have eg : ρ 118 = .bool true := hg; simp [wantedR, Region.wanted, asBoolR, eg]) ?_ ?_
        · rintro ρ w' he ⟨h124, hgd, -⟩
          have e124 : ρ 124 = .agg #[strV pk, .int .i64 pg, .bool pd, strV pz] := h124
          simp only [evR, List.map_toArray, List.map_cons, List.map_nil, e124]
          refine (of_any ⟨pk, pg, pd, pz⟩ _).mono ?_
          rintro e w'' ⟨rfl, hx⟩
          exact ⟨_, rfl, hx, rfl⟩
        refine tele_val rfl (.agg #[strV k, .int .i64 g, .bool d, strV z]) (fun ρ w' hk => by obtain ⟨_, hg, -⟩ := hk; have eg : ρ 118 = .bool true := hg; simp [wantedR, Region.wanted, asBoolR, eg]) ?_ ?_
        · rintro ρ w' he ⟨h8, hgd, -⟩
          have e8 : ρ 8 = .pointer (some ⟨m, 0, none⟩) := h8
          have c0 := (bm.ext he).cell (i := 0) rfl
          have c1 := (bm.ext he).cell (i := 1) rfl
          have c2 := (bm.ext he).cell (i := 2) rfl
          have c3 := (bm.ext he).cell (i := 3) rfl
          simp [execOp, evR, e8, c0, c1, c2, c3, go_sem]
        refine tele_call rfl rfl Try.func36 (by kernel_rfl) (isV (.agg #[strV k, .int .i64 g])) (fun ρ w' hk => by obtain ⟨_, hg, -⟩ := hk; have eg : ρ 118 = .bool true := hg; simp [wantedR, Region.wanted, asBoolR, eg]) ?_ ?_
        · rintro ρ w' he ⟨h126, hgd, -⟩
          have e126 : ρ 126 = .agg #[strV k, .int .i64 g, .bool d, strV z] := h126
          simp only [evR, List.map_toArray, List.map_cons, List.map_nil, e126]
          refine (of_any ⟨k, g, d, z⟩ _).mono ?_
          rintro e w'' ⟨rfl, hx⟩
          exact ⟨_, rfl, hx, rfl⟩
        refine tele_call rfl rfl Try.func37 (by kernel_rfl) (isV (.bool aa)) (fun ρ w' hk => by obtain ⟨_, _, hg, -⟩ := hk; have eg : ρ 118 = .bool true := hg; simp [wantedR, Region.wanted, asBoolR, eg]) ?_ ?_
        · rintro ρ w' he ⟨h125, h127, hgd, -⟩
          have e125 : ρ 125 = .agg #[strV pk, .int .i64 pg] := h125
          have e127 : ρ 127 = .agg #[strV k, .int .i64 g] := h127
          simp only [evR, List.map_toArray, List.map_cons, List.map_nil, e125, e127]
          refine (HAH.out _).mono ?_
          rintro e w'' ⟨rfl, hx⟩
          exact ⟨_, rfl, hx, rfl⟩
        refine tele_val rfl (.bool (!aa)) (fun ρ w' hk => by obtain ⟨_, hg, -⟩ := hk; have eg : ρ 118 = .bool true := hg; simp [wantedR, Region.wanted, asBoolR, eg]) ?_ ?_
        · rintro ρ w' he ⟨h128, hgd, -⟩
          have e128 : ρ 128 = .bool aa := h128
          simp [execOp, evR, e128, go_sem]
        refine tele_val rfl (.bool (!aa)) (fun _ _ _ => rfl) ?_ ?_
        · rintro ρ w' he ⟨h118, h129, -⟩
          have e118 : ρ 118 = .bool true := h118
          have e129 : ρ 129 = .bool (!aa) := h129
          simp [execOp, evR, e118, e129, go_sem]
        refine tele_nil ?_
        rintro ρ w' hext ⟨f130, f129, f128, f127, f126, f125, f124, f123, f122, f121, f120, f119, f118, f117, f116, -⟩
        clear f116
        clear f117
        clear f118
        clear f119
        clear f120
        clear f121
        clear f122
        clear f123
        clear f124
        clear f125
        clear f126
        clear f127
        clear f128
        clear f129
        replace f130 : ρ 130 = .bool (!aa) := f130
        simp only [puts, Act.put, List.setIfInBounds_toArray, List.set_cons_zero, List.set_cons_succ]

        rw [f130]
        clear f130
        have HE := Lib.hid (show cgood l ⟨site, seq, sn, ss, va, vb, ws⟩ = (if (aa && cgoodF l.length (prevOf ws (i + 1)) (ws.drop (i + 1))) = true then 0 else 120) by
          rw [HPG.out, HS.out, HOK.out, HPV.out, HAA.out]
          rfl)
        cases aa
        · go_wp2_with fail
          go_ret
          exact ⟨by rw [HE.out]; rfl, Ext.trans xb hext⟩
        · go_wp2_with fail
          go_roundw
          case rel => exact ⟨i + 1, by omega, by go_num, HE.out, ba.ext hext, Ext.trans xb hext⟩
          case measure => simp [intOf]; omega
    · have hil : i = ws.length := by omega
      have HE := Lib.hid (show cgood l ⟨site, seq, sn, ss, va, vb, ws⟩ = 0 by rw [hpg, hil, List.drop_length, cgoodF_end, if_pos rfl])
      clear hpg hil
      go_wp2_with fail
      go_ret
      exact ⟨by rw [HE.out]; rfl, hx⟩
end Go.Proofs.Ytocdifjdeifclaa
