/-
  Layer 15: the statement of DiskSure: the walk.
-/
import Derived.Test.YtkejoiknnigllaaDkLight2
import Derived.Test.YtkejoiknnigllaaDkLives
namespace Go.Proofs.Ytkejoiknnigllaa
open Go Go.RowKit Mono
set_option linter.unusedVariables false
set_option linter.unusedSimpArgs false
set_option maxRecDepth 100000
set_option maxHeartbeats 2000000

theorem sure_strV : strV sureS = .string { data := #[115, 117, 114, 101] } := rfl
theorem fail_on {d : Dk} (h : d.on = true) (keep : Int) : dFail d keep = (d.lose keep, 0) := by unfold dFail; rw [h]; rfl
theorem fs_len {z br : Nat} {W : World} {s : RSt} {r : Dk} (h : RkM z W br s r) : s.ms.length = r.fs.length := by rw [← h.fs, List.length_map]

theorem str_app (a b : List UInt8) : (⟨a.toArray⟩ : ByteArray) ++ ⟨b.toArray⟩ = ⟨(a ++ b).toArray⟩ := by
  apply ByteArray.ext
  simp [ByteArray.data_append]
theorem exec_add_s {P : Program} {w : World} {o : Oper} {t t2 : TypeId} {x y : Operand} {f : Operand → Value} {a b : List UInt8} (hop : o.op = .binOp .add t x y t2) (hx : f x = strV a) (hy : f y = strV b) (hl : a.length + b.length ≤ 100000) :
    (execOp f o).run P w = .ok (.value (strV (a ++ b))) w := by
  unfold strV at *
  simp [execOp, hop, hx, hy, go_sem]
  rw [if_neg (by omega), str_app]
theorem exec_bs_to {w : World} {o : Oper} {f : Operand → Value} {x y : Operand} {A : Option Addr} {n c k : Nat} (hop : o.op = .slice 23 x none (some y) none)
    (hx : f x = .slice A n c) (hy : f y = .int .i64 (k : Int)) (hk : k ≤ n) (hn : n ≤ c) :
    (execOp f o).run Try.prog w = .ok (.value (.slice A k c)) w := by
  have h1 : (k : Int) ≤ (c : Int) := by omega
  have h0 : (0 : Int) ≤ (k : Int) := by omega
  have hu := Try.underlying23
  simp [execOp, hop, hx, hy, h0, h1, go_sem]
theorem exec_bs_str {w : World} {o : Oper} {f : Operand → Value} {x : Operand} {v : Value} {l : List UInt8} (hop : o.op = .convert 23 9 x) (hx : f x = v) (h : Bs w v l) :
    (execOp f o).run Try.prog w = .ok (.value (strV l)) w := by
  have := h.str_ (P := Try.prog) 23 9 5 Try.underlying23 Try.underlying5 Try.underlying9
  simp [execOp, hop, hx, this, go_sem]

theorem diskSure_walk (v : Value) (l : List (Act × Value)) (vf : Value) (first : List UInt8) (vm : Value) (more : List UInt8) (keep : Int) (W : World) (hl : As W v l) (hf : Bs W vf first) (hm : Bs W vm more) :
    Calls Try.prog 3 #[v, vf, vm, .int .i64 keep] W fun e w' => e = .returned (.bool true) ∧ Ext W w' := by
  obtain ⟨A, c, rfl, g1, g2, g4⟩ := hl.at_
  obtain ⟨A1, c1, rfl, i1, i2, _, _⟩ := hf.open_
  obtain ⟨A2, c2, rfl, j1, j2, _, _⟩ := hm.open_
  have HL := Lib.hid hl
  have HBF := Lib.hid hf
  have HBM := Lib.hid hm
  have HLT := Lib.hid (light_sum _ l W hl)
  unfold maxLen at i2 j2 g2
  clear g4 hl hf hm
  go_enter Try.func3, Try.ntmps3
  go_wp2_with fail
  refine HLT.out.mono ?_
  rintro e w0 ⟨⟨q, rfl, hq⟩, hx0⟩
  have HX0 := Lib.hid hx0
  have HLV := Lib.hid (lives_any w0)
  cases q
  · go_wp2_with fail
    refine HLV.out.mono ?_
    rintro e w6 ⟨rfl, hx⟩
    go_wp2_with fail
    go_ret
    exact ⟨rfl, hx0.trans hx⟩
  · obtain ⟨hlight, hsum⟩ := hq rfl
    by_cases l1 : first.length ≤ 2500
    case neg =>
      go_wp2_with fail
      refine HLV.out.mono ?_
      rintro e w6 ⟨rfl, hx⟩
      go_wp2_with fail
      go_ret
      exact ⟨rfl, hx0.trans hx⟩
    by_cases l2 : more.length ≤ 2500
    case neg =>
      go_wp2_with fail
      refine HLV.out.mono ?_
      rintro e w6 ⟨rfl, hx⟩
      go_wp2_with fail
      go_ret
      exact ⟨rfl, hx0.trans hx⟩
    clear HLV
    have HMD := Lib.hid (made_any _ l w0 (HL.out.ext hx0) hlight)
    have hsm0 := (madeD_small HL.out)
    have hsm1 := hsm0.small (by have := hlight.1; omega)
    have hok0 := madeD_ok l
    have hon0 : (madeD l).on = true := rfl
    have hroom : (madeD l).room = 1048576 := actsP_room l _
    have hused : (madeD l).used ≤ 20000 := Nat.le_trans (actsP_used (fresh_ok (by decide))) (by show 0 + _ ≤ _; omega)
    obtain ⟨z, hz⟩ : ∃ z, z = w0.heap.size := ⟨_, rfl⟩
    rw [← hz] at HMD
    have HZ := Lib.hid hz
    obtain ⟨M, hM⟩ : ∃ M, M = madeD l := ⟨_, rfl⟩
    rw [← hM] at HMD hsm0 hsm1 hok0 hon0 hroom hused
    have HF1 := fail_on hon0 0
    obtain ⟨D, hD⟩ : ∃ D, D = dPower (M.lose 0) := ⟨_, rfl⟩
    have HOK := Lib.hid (show D.Ok from by rw [hD]; exact dPower_ok (hok0.lose 0))
    have hSMD : D.SmallC (l.length + 3) := by
      rw [hD]
      have := hsm0.grow (dFail_grow M 0)
      rw [HF1] at this
      exact dPower_small this
    have HSMD := Lib.hid hSMD
    have HLL := Lib.hid hlight.1
    have HUS := Lib.hid (show D.used ≤ 20000 from by rw [hD]; exact Nat.le_trans (lose_used M 0) hused)
    have HRM := Lib.hid (show D.room = 1048576 from by rw [hD]; exact hroom)
    have HON := Lib.hid (show D.on = true from by rw [hD]; rfl)
    have HPL := Lib.hid (show D.plan = none from by rw [hD]; rfl)
    have HOK0 := Lib.hid hok0
    have HSM1 := Lib.hid hsm1
    have HFF1 := Lib.hid HF1
    have HDD := Lib.hid (show dPower (M.lose 0) = D from hD.symm)
    clear hx0 hz hlight hq hsm0 hsm1 hok0 hon0 HF1 hSMD hM hD HLT hroom hused hsum
    go_wp2_with fail
    refine HMD.out.mono ?_
    rintro e w1 ⟨bd, br, rfl, hp1, hx1⟩
    have HX1 := Lib.hid hx1
    have HC1 := Lib.hid (Pair.d (x := dFail M 0) hp1 (fun k hk => by have := hx1.size; rw [← HZ.out] at this; omega) (fun bm pl ms hm => fail_any hm HOK0.out HSM1.out 0))
    clear hx1 hp1 HMD
    go_wp2_with fail
    refine HC1.out.mono ?_
    rintro e w2 ⟨rfl, hk2, hp2⟩
    rw [HFF1.out] at hp2
    have HX2 := Lib.hid (hk2.ext HX1.out (fun b hb => by rw [← HZ.out]; exact hb))
    have HC2 := Lib.hid (Pair.r (x := dFail M 0) hp2 (fun k hk => by have := HX2.out.size; rw [← HZ.out] at this; omega) (fun s hm _ => rfail_any hm HOK0.out HSM1.out (by have := HX2.out.size; rw [← HZ.out] at this; omega) 0))
    clear hk2 hp2 HC1
    go_wp2_with fail
    refine HC2.out.mono ?_
    rintro e w3 ⟨rfl, hk3, hp3⟩
    rw [HFF1.out] at hp3
    have HX3 := Lib.hid (hk3.ext HX2.out (fun b hb => by rw [← HZ.out]; exact hb))
    have HC3 := Lib.hid (Pair.dpower hp3)
    clear hk3 hp3 HC2
    go_wp2_with fail
    refine HC3.out.mono ?_
    rintro e w4 ⟨rfl, hk4, hp4⟩
    have HX4 := Lib.hid (hk4.ext HX3.out (fun b hb => by rw [← HZ.out]; exact hb))
    have HC4 := Lib.hid (Pair.rpower hp4 (fun k hk => by have := HX4.out.size; rw [← HZ.out] at this; omega))
    clear hk4 hp4 HC3
    go_wp2_with fail
    refine HC4.out.mono ?_
    rintro e w5 ⟨rfl, hk5, hp5⟩
    have HX5 := Lib.hid (hk5.ext HX4.out (fun b hb => by rw [← HZ.out]; exact hb))
    have hp5' : PairZ z bd br D w5 := by have := hp5; simp only [HDD.out] at this; exact this
    obtain ⟨bm, pl, ms, s, hdk, hrk, -, -, -⟩ := hp5'
    obtain ⟨A5, c5, hsv, hc5, hm5, -⟩ := hrk.form
    have hfl := fs_len hrk
    have hcl := hrk.str.blk.cell (i := 1) rfl
    rw [hsv, hfl] at hcl
    rw [hfl] at hc5
    obtain ⟨n5, hn5⟩ : ∃ n, n = D.fs.length := ⟨_, rfl⟩
    rw [← hn5] at hcl hc5
    have HDK := Lib.hid hdk
    unfold maxLen at hm5
    have HZ5 := Lib.hid (show z ≤ w5.heap.size from by have := HX5.out.size; rw [← HZ.out] at this; exact this)
    clear hk5 hp5 hdk hrk HC4 hsv hfl
    by_cases h64 : 64 ≤ n5
    · have HLV := Lib.hid (lives_any w5)
      go_wp2_with fail
      refine HLV.out.mono ?_
      rintro e w6 ⟨rfl, hx⟩
      go_wp2_with fail
      go_ret
      exact ⟨rfl, HX0.out.trans (HX5.out.trans hx)⟩
    · obtain ⟨s2, s3, s4, s5, s6, s7⟩ := sure_all (first := first) (more := more) HOK.out HON.out HPL.out (by omega) HUS.out HRM.out l1 l2 keep
      have H2 := Lib.hid s2
      have H3 := Lib.hid s3
      have H4 := Lib.hid s4
      have H5 := Lib.hid s5
      have H6 := Lib.hid s6
      have H7 := Lib.hid s7
      clear s2 s3 s4 s5 s6 s7 HON HPL HUS HRM
      have HSM5 := HSMD
      have HOK5 := HOK
      have HDK5 := HDK
      have hc6 := drop_any HDK5.out HOK5.out (HSM5.out.small (by have := HLL.out; omega)) HZ5.out sureS (by decide)
      rw [sure_strV] at hc6
      have HC6 := Lib.hid hc6
      clear hc6
      go_wp2_with fail
      refine HC6.out.mono ?_
      rintro e w6 ⟨pl6, ms6, rfl, hs6⟩
      have HX6 := Lib.hid (hs6.kb.ext HX5.out (fun b hb => by rw [← HZ.out]; exact HDK5.out.lowall b hb))
      have HDK6 := Lib.hid (show DkM z w6 bd bm pl6 (sd1 D) ms6 from hs6.dk)
      have HZ6 := Lib.hid (Nat.le_trans HZ5.out hs6.kb.size)
      have HOK6 := Lib.hid (show (sd1 D).Ok from by have := dDrop_ok HOK5.out sureS; exact this)
      have HSM6 := Lib.hid (show (sd1 D).SmallC (l.length + 4) from by have := HSM5.out.grow (dDrop_grow D sureS); exact this)
      clear hs6 HC6
      have hc7 := make_any HDK6.out HOK6.out (HSM6.out.small (by have := HLL.out; omega)) HZ6.out sureS (by decide)
      rw [H2.out, sure_strV] at hc7
      have HC7 := Lib.hid hc7
      clear hc7
      go_wp2_with fail
      refine HC7.out.mono ?_
      rintro e w7 ⟨pl7, ms7, rfl, hs7⟩
      have HX7 := Lib.hid (hs7.kb.ext HX6.out (fun b hb => by rw [← HZ.out]; exact HDK6.out.lowall b hb))
      have HDK7 := Lib.hid (show DkM z w7 bd bm pl7 (sd2 D) ms7 from hs7.dk)
      have HZ7 := Lib.hid (Nat.le_trans HZ6.out hs7.kb.size)
      have HOK7 := Lib.hid (show (sd2 D).Ok from by have := dMake_ok HOK6.out sureS; rw [H2.out] at this; exact this)
      have HSM7 := Lib.hid (show (sd2 D).SmallC (l.length + 5) from by have := HSM6.out.grow (dMake_grow (sd1 D) sureS); rw [H2.out] at this; exact this)
      clear hs7 HC7
      have hc8 := append_any HDK7.out HOK7.out (HSM7.out.small (by have := HLL.out; omega)) HZ7.out sureS (by decide) (HBF.out.ext (HX0.out.trans HX7.out))
      rw [H3.out, sure_strV] at hc8
      have HC8 := Lib.hid hc8
      clear hc8
      go_wp2_with fail
      refine HC8.out.mono ?_
      rintro e w8 ⟨pl8, ms8, rfl, hs8⟩
      have HX8 := Lib.hid (hs8.kb.ext HX7.out (fun b hb => by rw [← HZ.out]; exact HDK7.out.lowall b hb))
      have HDK8 := Lib.hid (show DkM z w8 bd bm pl8 (sd3 D first) ms8 from hs8.dk)
      have HZ8 := Lib.hid (Nat.le_trans HZ7.out hs8.kb.size)
      have HOK8 := Lib.hid (show (sd3 D first).Ok from by have := dAppend_ok HOK7.out sureS first; rw [H3.out] at this; exact this)
      have HSM8 := Lib.hid (show (sd3 D first).SmallC (l.length + 6) from by have := HSM7.out.grow (dAppend_grow (sd2 D) sureS first); rw [H3.out] at this; exact this)
      clear hs8 HC8
      have hc9 := sync_any HDK8.out HOK8.out (HSM8.out.small (by have := HLL.out; omega)) HZ8.out sureS (by decide)
      rw [H4.out, sure_strV] at hc9
      have HC9 := Lib.hid hc9
      clear hc9
      go_wp2_with fail
      refine HC9.out.mono ?_
      rintro e w9 ⟨pl9, ms9, rfl, hs9⟩
      have HX9 := Lib.hid (hs9.kb.ext HX8.out (fun b hb => by rw [← HZ.out]; exact HDK8.out.lowall b hb))
      have HDK9 := Lib.hid (show DkM z w9 bd bm pl9 (sd4 D first) ms9 from hs9.dk)
      have HZ9 := Lib.hid (Nat.le_trans HZ8.out hs9.kb.size)
      have HOK9 := Lib.hid (show (sd4 D first).Ok from by have := dSync_ok HOK8.out sureS; rw [H4.out] at this; exact this)
      have HSM9 := Lib.hid (show (sd4 D first).SmallC (l.length + 7) from by have := HSM8.out.grow (dSync_grow (sd3 D first) sureS); rw [H4.out] at this; exact this)
      clear hs9 HC9
      have hc10 := append_any HDK9.out HOK9.out (HSM9.out.small (by have := HLL.out; omega)) HZ9.out sureS (by decide) (HBM.out.ext (HX0.out.trans HX9.out))
      rw [H5.out, sure_strV] at hc10
      have HC10 := Lib.hid hc10
      clear hc10
      go_wp2_with fail
      refine HC10.out.mono ?_
      rintro e w10 ⟨pl10, ms10, rfl, hs10⟩
      have HX10 := Lib.hid (hs10.kb.ext HX9.out (fun b hb => by rw [← HZ.out]; exact HDK9.out.lowall b hb))
      have HDK10 := Lib.hid (show DkM z w10 bd bm pl10 (sd5 D first more) ms10 from hs10.dk)
      have HZ10 := Lib.hid (Nat.le_trans HZ9.out hs10.kb.size)
      have HOK10 := Lib.hid (show (sd5 D first more).Ok from by have := dAppend_ok HOK9.out sureS more; rw [H5.out] at this; exact this)
      have HSM10 := Lib.hid (show (sd5 D first more).SmallC (l.length + 8) from by have := HSM9.out.grow (dAppend_grow (sd4 D first) sureS more); rw [H5.out] at this; exact this)
      clear hs10 HC10
      have hc11 := fail_any HDK10.out HOK10.out (HSM10.out.small (by have := HLL.out; omega)) keep
      rw [H6.out] at hc11
      have HC11 := Lib.hid hc11
      clear hc11
      go_wp2_with fail
      refine HC11.out.mono ?_
      rintro e w11 ⟨pl11, ms11, rfl, hs11⟩
      have HX11 := Lib.hid (hs11.kb.ext HX10.out (fun b hb => by rw [← HZ.out]; exact HDK10.out.lowall b hb))
      have HDK11 := Lib.hid (show DkM z w11 bd bm pl11 ((sd5 D first more).lose keep) ms11 from hs11.dk)
      have HOK11 := Lib.hid (HOK10.out.lose keep)
      clear hs11 HC11
      have HC12 := Lib.hid (power_any HDK11.out)
      go_wp2_with fail
      refine HC12.out.mono ?_
      rintro e w12 ⟨rfl, hdk12, hk12⟩
      have HX12 := Lib.hid (hk12.ext HX11.out (fun b hb => by rw [← HZ.out, hb]; exact HDK11.out.lowall bd (.inl (.inl rfl))))
      have HDK12 := Lib.hid hdk12
      have HOK12 := Lib.hid (dPower_ok HOK11.out)
      clear hdk12 hk12 HC12
      have hc13 := read_any HDK12.out HOK12.out sureS (by decide)
      obtain ⟨k, hk⟩ : ∃ k : Nat, k = (max 0 (min keep (more.length : Int))).toNat := ⟨_, rfl⟩
      obtain ⟨R, hR⟩ : ∃ R, R = first ++ more.take k := ⟨_, rfl⟩
      rw [H7.out, sure_strV, ← hk, ← hR] at hc13
      have HC13 := Lib.hid hc13
      clear hc13
      go_wp2_with fail
      refine HC13.out.mono ?_
      rintro e w13 ⟨vb, rfl, hob, hx13⟩
      have HOB := Lib.hid hob
      have HX13 := Lib.hid (HX12.out.trans hx13)
      clear hob hx13 HC13
      obtain ⟨Ab, cb, rfl, b1, b2, -, -⟩ := HOB.out.bs.open_
      obtain ⟨e1, he1⟩ : ∃ e : Int, e = min keep (more.length : Int) := ⟨_, rfl⟩
      have hk1 : (k : Int) = max 0 e1 := by rw [he1]; omega
      have hk2 : k ≤ more.length := by omega
      have HMIN := Lib.hid (fun (w' : World) (ts : Array TypeId) (t : TypeId) => show (Builtin.min_ ts t #[.int .i64 keep, .int .i64 (more.length : Int)]).run Try.prog w' = .ok (.int .i64 e1) w' by
        rw [run_min_int2, he1]
        congr 2
        split <;> omega)
      have HMAX := Lib.hid (fun (w' : World) (ts : Array TypeId) (t : TypeId) => show (Builtin.max_ ts t #[.int .i64 0, .int .i64 e1]).run Try.prog w' = .ok (.int .i64 (k : Int)) w' by
        rw [run_max_int2, hk1]
        congr 2
        split <;> omega)
      have hob := HOB.out.bs
      have hmin := HMIN.out
      have hmax := HMAX.out
      have HBB := Lib.hid hob
      have HB1 := Lib.hid (HBF.out.ext (HX0.out.trans HX13.out))
      have HB2 := Lib.hid ((HBM.out.ext (HX0.out.trans HX13.out)).upto hk2)
      have hR1 : R.length ≤ 100000 := by rw [hR, List.length_append, List.length_take]; omega
      have HRR := Lib.hid hR
      clear hR hob HOB hk hk1 he1 H7 H6 H5 H4 H3 H2 HDK12 HOK12 HX12 HDK11 HOK11 HX11 HDK10 HOK10 HX10 HDK9 HOK9 HX9
      go_wp2_with fail
      refine wp_region_mono (by kernel_rfl) (by kernel_rfl) ?_
      refine tele_move rfl (.inl rfl) rfl (isV (.int .i64 0)) (fun ρ w' h => h) ?_
      refine tele_val rfl ((.bool true)) (fun _ _ _ => rfl) ?_ ?_
      · rintro ρ w' he ⟨h99, -⟩
        have e99 : ρ 99 = (.int .i64 0) := h99
        simp [execOp, evR, e99, go_sem]
      refine tele_move rfl (.inl rfl) rfl (isV (.bool true)) (fun ρ w' h => h) ?_
      refine tele_val rfl ((.slice Ab R.length cb)) (fun ρ w' hk => by obtain ⟨_, hg, -⟩ := hk; have eg : ρ 101 = (.bool true) := hg; simp [wantedR, Region.wanted, asBoolR, eg]) ?_ ?_
      · rintro ρ w' he ⟨h13, -⟩
        have e13 : ρ 13 = (.slice Ab R.length cb) := h13
        simp [execOp, evR, e13]
      refine tele_val rfl ((strV R)) (fun ρ w' hk => by obtain ⟨_, hg, -⟩ := hk; have eg : ρ 101 = (.bool true) := hg; simp [wantedR, Region.wanted, asBoolR, eg]) ?_ ?_
      · rintro ρ w' he ⟨h102, -⟩
        have e102 : ρ 102 = (.slice Ab R.length cb) := h102
        exact exec_bs_str rfl e102 (HBB.out.ext he)
      refine tele_val rfl ((.slice A1 first.length c1)) (fun ρ w' hk => by obtain ⟨_, hg, -⟩ := hk; have eg : ρ 101 = (.bool true) := hg; simp [wantedR, Region.wanted, asBoolR, eg]) ?_ ?_
      · rintro ρ w' he ⟨h1, -⟩
        have e1 : ρ 1 = (.slice A1 first.length c1) := h1
        simp [execOp, evR, e1]
      refine tele_val rfl ((strV first)) (fun ρ w' hk => by obtain ⟨_, hg, -⟩ := hk; have eg : ρ 101 = (.bool true) := hg; simp [wantedR, Region.wanted, asBoolR, eg]) ?_ ?_
      · rintro ρ w' he ⟨h104, -⟩
        have e104 : ρ 104 = (.slice A1 first.length c1) := h104
        exact exec_bs_str rfl e104 (HB1.out.ext he)
      refine tele_val rfl ((.slice A2 more.length c2)) (fun ρ w' hk => by obtain ⟨_, hg, -⟩ := hk; have eg : ρ 101 = (.bool true) := hg; simp [wantedR, Region.wanted, asBoolR, eg]) ?_ ?_
      · rintro ρ w' he ⟨h2, -⟩
        have e2 : ρ 2 = (.slice A2 more.length c2) := h2
        simp [execOp, evR, e2]
      refine tele_val rfl ((.int .i64 (k : Int))) (fun ρ w' hk => by obtain ⟨_, hg, -⟩ := hk; have eg : ρ 101 = (.bool true) := hg; simp [wantedR, Region.wanted, asBoolR, eg]) ?_ ?_
      · rintro ρ w' he ⟨h15, -⟩
        have e15 : ρ 15 = (.int .i64 (k : Int)) := h15
        simp [execOp, evR, e15]
      refine tele_val rfl ((.slice A2 k c2)) (fun ρ w' hk => by obtain ⟨_, _, hg, -⟩ := hk; have eg : ρ 101 = (.bool true) := hg; simp [wantedR, Region.wanted, asBoolR, eg]) ?_ ?_
      · rintro ρ w' he ⟨h106, h107, -⟩
        have e106 : ρ 106 = (.slice A2 more.length c2) := h106
        have e107 : ρ 107 = (.int .i64 (k : Int)) := h107
        exact exec_bs_to rfl e106 e107 hk2 j1
      refine tele_val rfl ((strV (more.take k))) (fun ρ w' hk => by obtain ⟨_, hg, -⟩ := hk; have eg : ρ 101 = (.bool true) := hg; simp [wantedR, Region.wanted, asBoolR, eg]) ?_ ?_
      · rintro ρ w' he ⟨h108, -⟩
        have e108 : ρ 108 = (.slice A2 k c2) := h108
        exact exec_bs_str rfl e108 (HB2.out.ext he)
      refine tele_val rfl ((strV (first ++ more.take k))) (fun ρ w' hk => by obtain ⟨_, _, hg, -⟩ := hk; have eg : ρ 101 = (.bool true) := hg; simp [wantedR, Region.wanted, asBoolR, eg]) ?_ ?_
      · rintro ρ w' he ⟨h105, h109, -⟩
        have e105 : ρ 105 = (strV first) := h105
        have e109 : ρ 109 = (strV (more.take k)) := h109
        exact exec_add_s rfl e105 e109 (by rw [List.length_take]; omega)
      refine tele_val rfl ((.bool true)) (fun ρ w' hk => by obtain ⟨_, _, hg, -⟩ := hk; have eg : ρ 101 = (.bool true) := hg; simp [wantedR, Region.wanted, asBoolR, eg]) ?_ ?_
      · rintro ρ w' he ⟨h103, h110, -⟩
        have e103 : ρ 103 = (strV R) := h103
        have e110 : ρ 110 = (strV (first ++ more.take k)) := h110
        rw [exec_eql_str rfl e103 e110, ← HRR.out]
        simp
      refine tele_val rfl ((.bool true)) (fun _ _ _ => rfl) ?_ ?_
      · rintro ρ w' he ⟨h101, h111, -⟩
        have e101 : ρ 101 = (.bool true) := h101
        have e111 : ρ 111 = (.bool true) := h111
        simp [execOp, evR, e101, e111, go_sem]
      refine tele_move rfl (.inl rfl) rfl (isV (.bool true)) (fun ρ w' h => h) ?_
      refine tele_call rfl rfl Try.func9 (by kernel_rfl) (isV (.bool true)) (fun ρ w' hk => by obtain ⟨hg, -⟩ := hk; have eg : ρ 113 = (.bool true) := hg; simp [wantedR, Region.wanted, asBoolR, eg]) ?_ ?_
      · rintro ρ w' he -
        simp only [evR, List.map_toArray, List.map_cons, List.map_nil]
        refine (lives_any _).mono ?_
        rintro e w'' ⟨rfl, hx⟩
        exact ⟨_, rfl, hx, rfl⟩
      refine tele_val rfl ((.bool true)) (fun _ _ _ => rfl) ?_ ?_
      · rintro ρ w' he ⟨h113, h114, -⟩
        have e113 : ρ 113 = (.bool true) := h113
        have e114 : ρ 114 = (.bool true) := h114
        simp [execOp, evR, e113, e114, go_sem]
      refine tele_move rfl (.inr rfl) rfl (isV (.bool true)) (fun ρ w' h => h) ?_
      refine tele_nil ?_
      rintro ρ w' hext ⟨f8, f115, f114, f113, f112, f111, f110, f109, f108, f107, f106, f105, f104, f103, f102, f101, f100, f99, -⟩
      replace f99 : ρ 99 = (.int .i64 0) := f99
      replace f100 : ρ 100 = (.bool true) := f100
      replace f101 : ρ 101 = (.bool true) := f101
      replace f102 : ρ 102 = (.slice Ab R.length cb) := f102
      replace f103 : ρ 103 = (strV R) := f103
      replace f104 : ρ 104 = (.slice A1 first.length c1) := f104
      replace f105 : ρ 105 = (strV first) := f105
      replace f106 : ρ 106 = (.slice A2 more.length c2) := f106
      replace f107 : ρ 107 = (.int .i64 (k : Int)) := f107
      replace f108 : ρ 108 = (.slice A2 k c2) := f108
      replace f109 : ρ 109 = (strV (more.take k)) := f109
      replace f110 : ρ 110 = (strV (first ++ more.take k)) := f110
      replace f111 : ρ 111 = (.bool true) := f111
      replace f112 : ρ 112 = (.bool true) := f112
      replace f113 : ρ 113 = (.bool true) := f113
      replace f114 : ρ 114 = (.bool true) := f114
      replace f115 : ρ 115 = (.bool true) := f115
      replace f8 : ρ 8 = (.bool true) := f8
      simp only [puts, Act.put, List.setIfInBounds_toArray, List.set_cons_zero, List.set_cons_succ]
      rw [f8]
      have HXE := Lib.hid ((HX0.out.trans HX13.out).trans hext)
      clear hext f8 f99 f100 f101 f102 f103 f104 f105 f106 f107 f108 f109 f110 f111 f112 f113 f114 f115
      go_wp2_with fail
      go_ret
      exact ⟨rfl, HXE.out⟩
end Go.Proofs.Ytkejoiknnigllaa
