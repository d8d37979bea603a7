/-
  The walk of CaptureNotes.
-/
import Derived.Test.YtjajlbfokbmadaaDoorCapNote
import Derived.Test.YtjajlbfokbmadaaDoorCapNum
import Derived.Test.YtjajlbfokbmadaaDoorCapLives
import Derived.Test.YtjajlbfokbmadaaDoorCapLight
namespace Go.Proofs.YtjajlbfokbmadaaDoor
open Go Go.RowKit Mono Num
set_option linter.unusedVariables false
set_option linter.unusedSimpArgs false
set_option maxRecDepth 100000

set_option maxHeartbeats 8000000 in
theorem captureNotes_walk (vl : Value) (gs : List Grp) (site seq sn ss va vb : Int) (vw : Value) (ws : List Wr) (nm : List UInt8) (w : World) (hT : TbC w) (hl : Gs w vl gs) (hw : Ws w vw ws) (hi : (Ch.mk site seq sn ss va vb ws).ints) (hs : nm.length ≤ maxLen) :
    Calls Tryd.prog 4 #[vl, chV ⟨site, seq, sn, ss, va, vb, ws⟩ vw, strV nm] w fun e w' => e = .returned (.bool true) ∧ Ext w w' := by
  have HT := Lib.hid hT
  have HG := Lib.hid hl
  have HW := Lib.hid hw
  have HI := Lib.hid hi
  have HL := Lib.hid (fun w => lives_any w)
  obtain ⟨A, c, rfl, _⟩ := hw.at_
  obtain ⟨Ag, cg, rfl, hg1, hg2, _⟩ := hl.at_
  have hnm : nm.length ≤ 9223372036854775807 := by unfold maxLen at hs; omega
  have hgl : (gs.length : Int) ≤ 9223372036854775807 := by omega
  clear hT hl hw hi hs hg1 hg2
  have hsz : ({ data := nm.toArray } : ByteArray).size = nm.length := by simp [ByteArray.size]
  unfold chV
  dsimp only
  go_enter Tryd.func4, Tryd.ntmps4
  go_upto_region 1 with (fail)
  have ba := Blk.new w #[.int .i64 site, .int .i64 seq, .int .i64 sn, .int .i64 ss, .int .i64 va, .int .i64 vb, .slice A ws.length c] 32
  have hx := ext_alloc w (.cells #[.int .i64 site, .int .i64 seq, .int .i64 sn, .int .i64 ss, .int .i64 va, .int .i64 vb, .slice A ws.length c] 32)
  obtain ⟨na, hna⟩ : ∃ n, n = w.heap.size := ⟨_, rfl⟩
  rw [← hna] at ba
  rw [← hna]
  clear hna
  generalize w.alloc (.cells #[.int .i64 site, .int .i64 seq, .int .i64 sn, .int .i64 ss, .int .i64 va, .int .i64 vb, .slice A ws.length c] 32) = W at *
  have k0 := ba.cell (i := 0) rfl
  have k1 := ba.cell (i := 1) rfl
  have k2 := ba.cell (i := 2) rfl
  have k3 := ba.cell (i := 3) rfl
  have k4 := ba.cell (i := 4) rfl
  have k5 := ba.cell (i := 5) rfl
  have k6 := ba.cell (i := 6) rfl
  have bl := Blk.new W #[.int .i64 site, .int .i64 seq, .int .i64 sn, .int .i64 ss, .int .i64 va, .int .i64 vb, .slice A ws.length c] 32
  have x1 := ext_alloc W (.cells #[.int .i64 site, .int .i64 seq, .int .i64 sn, .int .i64 ss, .int .i64 va, .int .i64 vb, .slice A ws.length c] 32)
  have hcs : Cs _ (.slice (some ⟨W.heap.size, 0, none⟩) 1 1) [((⟨site, seq, sn, ss, va, vb, ws⟩ : Ch), (.slice A ws.length c : Value))] := ⟨⟨_, 1, rfl, Nat.le_refl _, by decide, by simp, fun _ => ⟨_, 0, rfl, bl.lt, fun j u hu => by rw [Nat.zero_add]; exact bl.cell (i := j) hu⟩⟩, fun x hx' => by
    rw [List.mem_singleton.1 hx']
    exact ⟨HW.out.ext (hx.trans x1), HI.out⟩⟩
  have HLT := Lib.hid (light13_any Ag gs.length cg _ _ _ hgl hcs)
  have HX1 := Lib.hid (hx.trans x1)
  have HB1 := Lib.hid (ba.ext x1)
  clear bl x1 hcs ba hx hgl
  unfold strV at *
  go_wp2_with fail
  refine HLT.out.mono ?_
  rintro e w2 ⟨⟨q, rfl, -⟩, x2⟩
  have hx := HX1.out.trans x2
  have ba := HB1.out.ext x2
  clear HX1 HB1 HLT k0 k1 k2 k3 k4 k5 k6 x2
  cases q
  · go_wp2_with fail
    refine (HL.out _).mono ?_
    rintro e w3 ⟨rfl, x3⟩
    go_wp2_with fail
    go_ret
    exact ⟨rfl, hx.trans x3⟩
  by_cases hn : 1000 < nm.length
  · go_wp2_with fail
    refine (HL.out _).mono ?_
    rintro e w3 ⟨rfl, x3⟩
    go_wp2_with fail
    go_ret
    exact ⟨rfl, hx.trans x3⟩
  have k0 := ba.cell (i := 0) rfl
  have k1 := ba.cell (i := 1) rfl
  have k2 := ba.cell (i := 2) rfl
  have k3 := ba.cell (i := 3) rfl
  have k4 := ba.cell (i := 4) rfl
  have k5 := ba.cell (i := 5) rfl
  have k6 := ba.cell (i := 6) rfl
  have HN1 := Lib.hid (capNote_any _ gs site seq sn ss va vb _ ws w2 (HG.out.ext hx) (HW.out.ext hx) (HT.out.ext hx))
  unfold chV strV at HN1
  dsimp only at HN1
  have HX := Lib.hid hx
  have HA := Lib.hid ba
  clear hx ba
  go_wp2_with fail
  refine HN1.out.mono ?_
  rintro e w3 ⟨rfl, x3⟩
  have hx := HX.out.trans x3
  have ba := HA.out.ext x3
  clear HX HA HN1 k0 k1 k2 k3 k4 k5 k6 x3
  generalize hP : noteN gs ⟨site, seq, sn, ss, va, vb, ws⟩ = P at *
  generalize hTx : noteT gs ⟨site, seq, sn, ss, va, vb, ws⟩ = T at *
  generalize hgg : cgood gs ⟨site, seq, sn, ss, va, vb, ws⟩ = g at *
  have b7 := Blk.new w3 #[.string ⟨P.toArray⟩, .string ⟨T.toArray⟩] 38
  have x4 := ext_alloc w3 (.cells #[.string ⟨P.toArray⟩, .string ⟨T.toArray⟩] 38)
  replace ba := ba.ext x4
  replace hx := hx.trans x4
  clear x4
  go_upto_region 4 with (fail)
  generalize w3.heap.size = n7 at *
  generalize w3.alloc (.cells #[.string ⟨P.toArray⟩, .string ⟨T.toArray⟩] 38) = W4 at *
  have k0 := ba.cell (i := 0) rfl
  have k1 := ba.cell (i := 1) rfl
  have k2 := ba.cell (i := 2) rfl
  have k3 := ba.cell (i := 3) rfl
  have k4 := ba.cell (i := 4) rfl
  have k5 := ba.cell (i := 5) rfl
  have k6 := ba.cell (i := 6) rfl
  have HN2 := Lib.hid (refNote_any _ gs site seq sn ss va vb _ ws W4 (HG.out.ext hx) (HW.out.ext hx))
  rw [hP, hTx, hgg] at HN2
  unfold chV strV at HN2
  dsimp only at HN2
  clear hP hTx hgg
  have HX := Lib.hid hx
  have HA := Lib.hid ba
  have H7 := Lib.hid b7
  clear hx ba b7
  go_wp2_with fail
  refine HN2.out.mono ?_
  rintro e w5 ⟨rfl, x5⟩
  have hx := HX.out.trans x5
  have ba := HA.out.ext x5
  have b7 := H7.out.ext x5
  clear HX HA H7 HN2 k0 k1 k2 k3 k4 k5 k6 x5
  have b9 := Blk.new w5 #[.string ⟨P.toArray⟩, .string ⟨T.toArray⟩] 38
  have x6 := ext_alloc w5 (.cells #[.string ⟨P.toArray⟩, .string ⟨T.toArray⟩] 38)
  replace ba := ba.ext x6
  replace b7 := b7.ext x6
  replace hx := hx.trans x6
  clear x6
  go_upto_region 5 with (fail)
  generalize w5.heap.size = n9 at *
  generalize w5.alloc (.cells #[.string ⟨P.toArray⟩, .string ⟨T.toArray⟩] 38) = W6 at *
  refine wp_region_mono (by kernel_rfl) (by kernel_rfl) ?_
  refine tele_val rfl (.agg #[strV P, strV T]) (fun _ _ _ => rfl) ?_ ?_
  · rintro ρ w' he ⟨h7, -⟩
    have e7 : ρ 7 = (.pointer (some ⟨n7, 0, none⟩)) := h7
    have c0 := (b7.ext he).cell (i := 0) rfl; have c1 := (b7.ext he).cell (i := 1) rfl; simp [execOp, evR, e7, c0, c1, strV, go_sem]
  refine tele_val rfl (.agg #[strV P, strV T]) (fun _ _ _ => rfl) ?_ ?_
  · rintro ρ w' he ⟨h9, -⟩
    have e9 : ρ 9 = (.pointer (some ⟨n9, 0, none⟩)) := h9
    have c0 := (b9.ext he).cell (i := 0) rfl; have c1 := (b9.ext he).cell (i := 1) rfl; simp [execOp, evR, e9, c0, c1, strV, go_sem]
  refine tele_val rfl (.bool true) (fun _ _ _ => rfl) ?_ ?_
  · rintro ρ w' he ⟨h34, h35, -⟩
    have e34 : ρ 34 = (.agg #[strV P, strV T]) := h34
    have e35 : ρ 35 = (.agg #[strV P, strV T]) := h35
    unfold strV at e34 e35; simp [execOp, evR, e34, e35, run_equalIn_agg, go_sem]
  refine tele_move rfl (.inl rfl) rfl (isV (.bool true)) (fun ρ w' h => h) ?_
  refine tele_val rfl ((.int .i64 (g : Int))) (fun ρ w' hk => by obtain ⟨_, hg, -⟩ := hk; have eg : ρ 37 = (.bool true) := hg; simp [wantedR, Region.wanted, asBoolR, eg]) ?_ ?_
  · rintro ρ w' he ⟨h8, -⟩
    have e8 : ρ 8 = (.int .i64 (g : Int)) := h8
    simp [execOp, evR, e8]
  refine tele_val rfl ((.int .i64 (g : Int))) (fun ρ w' hk => by obtain ⟨_, hg, -⟩ := hk; have eg : ρ 37 = (.bool true) := hg; simp [wantedR, Region.wanted, asBoolR, eg]) ?_ ?_
  · rintro ρ w' he ⟨h10, -⟩
    have e10 : ρ 10 = (.int .i64 (g : Int)) := h10
    simp [execOp, evR, e10]
  refine tele_val rfl (.bool true) (fun ρ w' hk => by obtain ⟨_, _, hg, -⟩ := hk; have eg : ρ 37 = (.bool true) := hg; simp [wantedR, Region.wanted, asBoolR, eg]) ?_ ?_
  · rintro ρ w' he ⟨h38, h39, -⟩
    have e38 : ρ 38 = (.int .i64 (g : Int)) := h38
    have e39 : ρ 39 = (.int .i64 (g : Int)) := h39
    simp [execOp, evR, e38, e39, go_sem]
  refine tele_val rfl (.bool true) (fun _ _ _ => rfl) ?_ ?_
  · rintro ρ w' he ⟨h37, h40, -⟩
    have e37 : ρ 37 = (.bool true) := h37
    have e40 : ρ 40 = (.bool true) := h40
    simp [execOp, evR, e37, e40, go_sem]
  refine tele_move rfl (.inl rfl) rfl (isV (.bool true)) (fun ρ w' h => h) ?_
  refine tele_val rfl (.pointer (some ⟨na, 1, none⟩)) (fun ρ w' hk => by obtain ⟨_, hg, -⟩ := hk; have eg : ρ 42 = (.bool true) := hg; simp [wantedR, Region.wanted, asBoolR, eg]) ?_ ?_
  · rintro ρ w' he ⟨h4, -⟩
    have e4 : ρ 4 = (.pointer (some ⟨na, 0, none⟩)) := h4
    simp [execOp, evR, e4, go_sem]
  refine tele_val rfl (.int .i64 seq) (fun ρ w' hk => by obtain ⟨_, hg, -⟩ := hk; have eg : ρ 42 = (.bool true) := hg; simp [wantedR, Region.wanted, asBoolR, eg]) ?_ ?_
  · rintro ρ w' he ⟨h43, -⟩
    have e43 : ρ 43 = (.pointer (some ⟨na, 1, none⟩)) := h43
    have c1 := (ba.ext he).cell (i := 1) rfl; simp [execOp, evR, e43, c1, go_sem]
  refine tele_call rfl rfl Tryd.func15 (by kernel_rfl) (isV (strV (pname seq))) (fun ρ w' hk => by obtain ⟨_, hg, -⟩ := hk; have eg : ρ 42 = (.bool true) := hg; simp [wantedR, Region.wanted, asBoolR, eg]) ?_ ?_
  · rintro ρ w' he ⟨h44, -⟩
    have e44 : ρ 44 = (.int .i64 seq) := h44
    simp only [evR, List.map_toArray, List.map_cons, List.map_nil, e44]
    refine (capName_any _ _ (HT.out.ext (hx.trans he))).mono ?_; rintro e w'' ⟨rfl, h'⟩; exact ⟨_, rfl, h', rfl⟩
  refine tele_val rfl (.pointer (some ⟨na, 1, none⟩)) (fun ρ w' hk => by obtain ⟨_, hg, -⟩ := hk; have eg : ρ 42 = (.bool true) := hg; simp [wantedR, Region.wanted, asBoolR, eg]) ?_ ?_
  · rintro ρ w' he ⟨h4, -⟩
    have e4 : ρ 4 = (.pointer (some ⟨na, 0, none⟩)) := h4
    simp [execOp, evR, e4, go_sem]
  refine tele_val rfl (.int .i64 seq) (fun ρ w' hk => by obtain ⟨_, hg, -⟩ := hk; have eg : ρ 42 = (.bool true) := hg; simp [wantedR, Region.wanted, asBoolR, eg]) ?_ ?_
  · rintro ρ w' he ⟨h46, -⟩
    have e46 : ρ 46 = (.pointer (some ⟨na, 1, none⟩)) := h46
    have c1 := (ba.ext he).cell (i := 1) rfl; simp [execOp, evR, e46, c1, go_sem]
  refine tele_call rfl rfl Tryd.func16 (by kernel_rfl) (isV (strV (pname seq))) (fun ρ w' hk => by obtain ⟨_, hg, -⟩ := hk; have eg : ρ 42 = (.bool true) := hg; simp [wantedR, Region.wanted, asBoolR, eg]) ?_ ?_
  · rintro ρ w' he ⟨h47, -⟩
    have e47 : ρ 47 = (.int .i64 seq) := h47
    simp only [evR, List.map_toArray, List.map_cons, List.map_nil, e47]
    refine (refCName_any _ _).mono ?_; rintro e w'' ⟨rfl, h'⟩; exact ⟨_, rfl, h', rfl⟩
  refine tele_val rfl (.bool true) (fun ρ w' hk => by obtain ⟨_, _, hg, -⟩ := hk; have eg : ρ 42 = (.bool true) := hg; simp [wantedR, Region.wanted, asBoolR, eg]) ?_ ?_
  · rintro ρ w' he ⟨h45, h48, -⟩
    have e45 : ρ 45 = (strV (pname seq)) := h45
    have e48 : ρ 48 = (strV (pname seq)) := h48
    rw [exec_eql_str rfl e45 e48]; simp
  refine tele_val rfl (.bool true) (fun _ _ _ => rfl) ?_ ?_
  · rintro ρ w' he ⟨h42, h49, -⟩
    have e42 : ρ 42 = (.bool true) := h42
    have e49 : ρ 49 = (.bool true) := h49
    simp [execOp, evR, e42, e49, go_sem]
  refine tele_move rfl (.inl rfl) rfl (isV (.bool true)) (fun ρ w' h => h) ?_
  refine tele_val rfl ((strV nm)) (fun ρ w' hk => by obtain ⟨_, hg, -⟩ := hk; have eg : ρ 51 = (.bool true) := hg; simp [wantedR, Region.wanted, asBoolR, eg]) ?_ ?_
  · rintro ρ w' he ⟨h2, -⟩
    have e2 : ρ 2 = (strV nm) := h2
    simp [execOp, evR, e2]
  refine tele_call rfl rfl Tryd.func17 (by kernel_rfl) (isV (.int .i64 (pnumber nm))) (fun ρ w' hk => by obtain ⟨_, hg, -⟩ := hk; have eg : ρ 51 = (.bool true) := hg; simp [wantedR, Region.wanted, asBoolR, eg]) ?_ ?_
  · rintro ρ w' he ⟨h52, -⟩
    have e52 : ρ 52 = (strV nm) := h52
    simp only [evR, List.map_toArray, List.map_cons, List.map_nil, e52]
    refine (capNumber_any nm _ (by omega)).mono ?_; rintro e w'' ⟨rfl, rfl⟩; exact ⟨_, rfl, Ext.refl _, rfl⟩
  refine tele_val rfl ((strV nm)) (fun ρ w' hk => by obtain ⟨_, hg, -⟩ := hk; have eg : ρ 51 = (.bool true) := hg; simp [wantedR, Region.wanted, asBoolR, eg]) ?_ ?_
  · rintro ρ w' he ⟨h2, -⟩
    have e2 : ρ 2 = (strV nm) := h2
    simp [execOp, evR, e2]
  refine tele_call rfl rfl Tryd.func18 (by kernel_rfl) (isV (.int .i64 (pnumber nm))) (fun ρ w' hk => by obtain ⟨_, hg, -⟩ := hk; have eg : ρ 51 = (.bool true) := hg; simp [wantedR, Region.wanted, asBoolR, eg]) ?_ ?_
  · rintro ρ w' he ⟨h54, -⟩
    have e54 : ρ 54 = (strV nm) := h54
    simp only [evR, List.map_toArray, List.map_cons, List.map_nil, e54]
    refine (refNumber_any nm _ (by omega)).mono ?_; rintro e w'' ⟨rfl, rfl⟩; exact ⟨_, rfl, Ext.refl _, rfl⟩
  refine tele_val rfl (.bool true) (fun ρ w' hk => by obtain ⟨_, _, hg, -⟩ := hk; have eg : ρ 51 = (.bool true) := hg; simp [wantedR, Region.wanted, asBoolR, eg]) ?_ ?_
  · rintro ρ w' he ⟨h53, h55, -⟩
    have e53 : ρ 53 = (.int .i64 (pnumber nm)) := h53
    have e55 : ρ 55 = (.int .i64 (pnumber nm)) := h55
    simp [execOp, evR, e53, e55, go_sem]
  refine tele_val rfl (.bool true) (fun _ _ _ => rfl) ?_ ?_
  · rintro ρ w' he ⟨h51, h56, -⟩
    have e51 : ρ 51 = (.bool true) := h51
    have e56 : ρ 56 = (.bool true) := h56
    simp [execOp, evR, e51, e56, go_sem]
  refine tele_move rfl (.inl rfl) rfl (isV (.bool true)) (fun ρ w' h => h) ?_
  refine tele_call rfl rfl Tryd.func9 (by kernel_rfl) (isV (.bool true)) (fun ρ w' hk => by obtain ⟨hg, -⟩ := hk; have eg : ρ 58 = (.bool true) := hg; simp [wantedR, Region.wanted, asBoolR, eg]) ?_ ?_
  · rintro ρ w' he -
    simp only [evR, List.map_toArray, List.map_cons, List.map_nil]
    refine (lives_any _).mono ?_; rintro e w'' ⟨rfl, h'⟩; exact ⟨_, rfl, h', rfl⟩
  refine tele_val rfl (.bool true) (fun _ _ _ => rfl) ?_ ?_
  · rintro ρ w' he ⟨h58, h59, -⟩
    have e58 : ρ 58 = (.bool true) := h58
    have e59 : ρ 59 = (.bool true) := h59
    simp [execOp, evR, e58, e59, go_sem]
  refine tele_move rfl (.inr rfl) rfl (isV (.bool true)) (fun ρ w' h => h) ?_
  refine tele_nil ?_
  rintro ρ w' hext ⟨f6, f60, f59, f58, f57, f56, f55, f54, f53, f52, f51, f50, f49, f48, f47, f46, f45, f44, f43, f42, f41, f40, f39, f38, f37, f36, f35, f34, -⟩
  replace f34 : ρ 34 = (.agg #[strV P, strV T]) := f34
  replace f35 : ρ 35 = (.agg #[strV P, strV T]) := f35
  replace f36 : ρ 36 = (.bool true) := f36
  replace f37 : ρ 37 = (.bool true) := f37
  replace f38 : ρ 38 = (.int .i64 (g : Int)) := f38
  replace f39 : ρ 39 = (.int .i64 (g : Int)) := f39
  replace f40 : ρ 40 = (.bool true) := f40
  replace f41 : ρ 41 = (.bool true) := f41
  replace f42 : ρ 42 = (.bool true) := f42
  replace f43 : ρ 43 = (.pointer (some ⟨na, 1, none⟩)) := f43
  replace f44 : ρ 44 = (.int .i64 seq) := f44
  replace f45 : ρ 45 = (strV (pname seq)) := f45
  replace f46 : ρ 46 = (.pointer (some ⟨na, 1, none⟩)) := f46
  replace f47 : ρ 47 = (.int .i64 seq) := f47
  replace f48 : ρ 48 = (strV (pname seq)) := f48
  replace f49 : ρ 49 = (.bool true) := f49
  replace f50 : ρ 50 = (.bool true) := f50
  replace f51 : ρ 51 = (.bool true) := f51
  replace f52 : ρ 52 = (strV nm) := f52
  replace f53 : ρ 53 = (.int .i64 (pnumber nm)) := f53
  replace f54 : ρ 54 = (strV nm) := f54
  replace f55 : ρ 55 = (.int .i64 (pnumber nm)) := f55
  replace f56 : ρ 56 = (.bool true) := f56
  replace f57 : ρ 57 = (.bool true) := f57
  replace f58 : ρ 58 = (.bool true) := f58
  replace f59 : ρ 59 = (.bool true) := f59
  replace f60 : ρ 60 = (.bool true) := f60
  replace f6 : ρ 6 = (.bool true) := f6
  simp only [puts, Act.put, List.setIfInBounds_toArray, List.set_cons_zero, List.set_cons_succ]
  rw [f6]
  clear f34 f35 f36 f37 f38 f39 f40 f41 f42 f43 f44 f45 f46 f47 f48 f49 f50 f51 f52 f53 f54 f55 f56 f57 f58 f59 f6 f60
  go_wp2_with fail
  go_ret
  exact ⟨rfl, hx.trans hext⟩
end Go.Proofs.YtjajlbfokbmadaaDoor
