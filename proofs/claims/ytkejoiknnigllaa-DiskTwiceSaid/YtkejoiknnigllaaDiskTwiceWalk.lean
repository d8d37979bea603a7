/-
  Layer 15: the statement of DiskTwice: the walk.
-/
import Derived.Test.YtkejoiknnigllaaDkMade
import Derived.Test.YtkejoiknnigllaaDkLight
import Derived.Test.YtkejoiknnigllaaDkLives
namespace Go.Proofs.Ytkejoiknnigllaa
open Go Go.RowKit Mono
set_option linter.unusedVariables false
set_option linter.unusedSimpArgs false
set_option maxRecDepth 100000
set_option maxHeartbeats 2000000

theorem Fil.lose_twice (f : Fil) (h : f.sure ≤ f.b.length) (keep again : Int) : (f.lose keep).lose again = f.lose keep := by
  have hk := keepN_le keep f h
  have hl : (f.b.take (keepN keep f)).length = keepN keep f := by rw [List.length_take]; omega
  have : keepN again (f.lose keep) = keepN keep f := by
    show keepN keep f + (max 0 (min again (((f.b.take (keepN keep f)).length : Int) - (keepN keep f : Int)))).toNat = keepN keep f
    rw [hl]
    omega
  unfold Fil.lose at this ⊢
  dsimp only at this ⊢
  rw [this, List.take_of_length_le (by rw [hl]; exact Nat.le_refl _)]
/-- A disk whose power failed and came back. -/
def onceD (d : Dk) (keep : Int) : Dk := dPower (d.lose keep)
theorem once_twice {d : Dk} (h : d.Ok) (keep again : Int) : (onceD (onceD d keep) again).fs = (onceD d keep).fs := by
  show List.map (Fil.lose again) (List.map (Fil.lose keep) d.fs) = List.map (Fil.lose keep) d.fs
  rw [List.map_map]
  exact List.map_congr_left fun f hf => Fil.lose_twice f (h.sure f hf) keep again
theorem dFail_on {d : Dk} (h : d.on = true) (keep : Int) : dFail d keep = (d.lose keep, 0) := by unfold dFail; rw [h]; rfl
theorem dFail_off {d : Dk} (h : d.on = false) (keep : Int) : dFail d keep = (d, 150) := by unfold dFail; rw [h]; rfl
theorem dRead_eq {d d' : Dk} (h : d.fs = d'.fs) (h1 : d.on = true) (h2 : d'.on = true) (s : List UInt8) : dRead d s = dRead d' s := by unfold dRead; rw [h, h1, h2]
theorem dRead_in {d : Dk} (h1 : d.on = true) {s : List UInt8} (h : s ∈ d.fs.map fun f => f.name) : (dRead d s).2 = 0 := by
  obtain ⟨f, hf, rfl⟩ := List.mem_map.1 h
  unfold dRead
  rw [h1]
  have : findF f.name d.fs ≠ none := by
    unfold findF
    rw [Ne, List.find?_eq_none]
    intro hn
    exact hn f hf (by simp)
  cases hq : findF f.name d.fs with
  | none => exact absurd hq this
  | some g => rfl

theorem diskTwice_walk (v : Value) (l : List (Act × Value)) (keep again : Int) (W : World) (hl : As W v l) :
    Calls Try.prog 6 #[v, .int .i64 keep, .int .i64 again] W fun e w' => e = .returned (.bool true) ∧ Ext W w' := by
  obtain ⟨A, c, rfl, g1, g2, g4⟩ := hl.at_
  have HL := Lib.hid hl
  have HLT := Lib.hid (light_any _ l W hl)
  clear g4 hl g1 g2
  go_enter Try.func6, Try.ntmps6
  go_wp2_with fail
  refine HLT.out.mono ?_
  rintro e w0 ⟨⟨q, rfl, hq⟩, hx0⟩
  cases q
  · have HLV := Lib.hid (lives_any w0)
    go_wp2_with fail
    refine HLV.out.mono ?_
    rintro e w6 ⟨rfl, hx⟩
    go_wp2_with fail
    go_ret
    exact ⟨rfl, hx0.trans hx⟩
  · have hlight := hq rfl
    have HMD := Lib.hid (made_any _ l w0 (HL.out.ext hx0) hlight)
    have hsm0 := (madeD_small HL.out)
    have hsm1 := hsm0.small (by have := hlight.1; omega)
    have hok0 := madeD_ok l
    have hon0 : (madeD l).on = true := rfl
    obtain ⟨z, hz⟩ : ∃ z, z = w0.heap.size := ⟨_, rfl⟩
    rw [← hz] at HMD
    have HX0 := Lib.hid hx0
    have HZ := Lib.hid hz
    obtain ⟨M, hM⟩ : ∃ M, M = madeD l := ⟨_, rfl⟩
    rw [← hM] at HMD hsm0 hsm1 hok0 hon0
    have HF1 := dFail_on hon0 keep
    obtain ⟨D, hD⟩ : ∃ D, D = onceD M keep := ⟨_, rfl⟩
    have HOK := Lib.hid (show D.Ok from by rw [hD]; exact dPower_ok (hok0.lose keep))
    have hSMD : D.SmallC (l.length + 3) := by
      rw [hD]
      have := hsm0.grow (dFail_grow M keep)
      rw [HF1] at this
      exact dPower_small this
    have HSMD := Lib.hid (hSMD.small (by have := hlight.1; omega))
    have HOND := Lib.hid (show D.on = true from by rw [hD]; rfl)
    have HF2 := Lib.hid (dFail_on HOND.out again)
    have HF3 := Lib.hid (dFail_off (d := D.lose again) rfl again)
    have HTOK := Lib.hid (show (onceD D again).Ok from dPower_ok (HOK.out.lose again))
    have HLOK := Lib.hid (show (D.lose again).Ok from HOK.out.lose again)
    have hSML : (D.lose again).SmallC (l.length + 4) := by
      have := hSMD.grow (dFail_grow D again)
      rw [HF2.out] at this
      exact this
    have HSML := Lib.hid (hSML.small (by have := hlight.1; omega))
    have HFS := Lib.hid (show (onceD D again).fs = D.fs from by rw [hD]; exact once_twice hok0 keep again)
    have HFA := Lib.hid (show (onceD D again).fails = D.fails + 1 from rfl)
    have HOK0 := Lib.hid hok0
    have HSM1 := Lib.hid hsm1
    have HFF1 := Lib.hid HF1
    have HDD := Lib.hid (show dPower (M.lose keep) = D from hD.symm)
    clear hx0 hz hlight hq hsm0 hsm1 hok0 hon0 HF1 hSMD hSML hM hD HLT
    go_wp2_with fail
    refine HMD.out.mono ?_
    rintro e w1 ⟨bd, br, rfl, hp1, hx1⟩
    have HX1 := Lib.hid hx1
    have HC1 := Lib.hid (Pair.d (x := dFail M keep) hp1 (fun k hk => by have := hx1.size; rw [← HZ.out] at this; omega) (fun bm pl ms hm => fail_any hm HOK0.out HSM1.out keep))
    clear hx1 hp1 HMD
    go_wp2_with fail
    refine HC1.out.mono ?_
    rintro e w2 ⟨rfl, hk2, hp2⟩
    rw [HFF1.out] at hp2
    have HX2 := Lib.hid (hk2.ext HX1.out (fun b hb => by rw [← HZ.out]; exact hb))
    have HC2 := Lib.hid (Pair.r (x := dFail M keep) hp2 (fun k hk => by have := HX2.out.size; rw [← HZ.out] at this; omega) (fun s hm _ => rfail_any hm HOK0.out HSM1.out (by have := HX2.out.size; rw [← HZ.out] at this; omega) keep))
    clear hk2 hp2 HC1
    go_wp2_with fail
    refine HC2.out.mono ?_
    rintro e w3 ⟨rfl, hk3, hp3⟩
    rw [HFF1.out] at hp3
    have HX3 := Lib.hid (hk3.ext HX2.out (fun b hb => by rw [← HZ.out]; exact hb))
    have HC3 := Lib.hid (Pair.dpower hp3)
    clear hk3 hp3 HC2
    go_wp2_with fail
    refine HC3.out.mono ?_
    rintro e w4 ⟨rfl, hk4, hp4⟩
    have HX4 := Lib.hid (hk4.ext HX3.out (fun b hb => by rw [← HZ.out]; exact hb))
    have HC4 := Lib.hid (Pair.rpower hp4 (fun k hk => by have := HX4.out.size; rw [← HZ.out] at this; omega))
    clear hk4 hp4 HC3
    go_wp2_with fail
    refine HC4.out.mono ?_
    rintro e w5 ⟨rfl, hk5, hp5⟩
    have HX5 := Lib.hid (hk5.ext HX4.out (fun b hb => by rw [← HZ.out]; exact hb))
    have hp5' : PairZ z bd br D w5 := by have := hp5; simp only [HDD.out] at this; exact this
    have HP5 := Lib.hid hp5'
    have HC5 := Lib.hid (same_any hp5' HOK.out)
    clear hk5 hp5 hp5' HC4
    go_wp2_with fail
    refine HC5.out.mono ?_
    rintro e w6 ⟨rfl, hx6⟩
    have HX6 := Lib.hid (HX5.out.trans hx6)
    have hc6 := Pair.d (x := dFail D again) (HP5.out.ext hx6) (fun k hk => by have := HX6.out.size; rw [← HZ.out] at this; omega) (fun bm pl ms hm => fail_any hm HOK.out HSMD.out again)
    rw [HF2.out] at hc6
    have HC6 := Lib.hid hc6
    clear hx6 hc6 HC5
    go_wp2_with fail
    refine HC6.out.mono ?_
    rintro e w7 ⟨rfl, hk7, hp7⟩
    have HX7 := Lib.hid (hk7.ext HX6.out (fun b hb => by rw [← HZ.out]; exact hb))
    have hc7 := Pair.d (x := dFail (D.lose again) again) hp7 (fun k hk => by have := HX7.out.size; rw [← HZ.out] at this; omega) (fun bm pl ms hm => fail_any hm HLOK.out HSML.out again)
    rw [HF3.out] at hc7
    have HC7 := Lib.hid hc7
    clear hk7 hp7 hc7 HC6
    go_wp2_with fail
    refine HC7.out.mono ?_
    rintro e w8 ⟨rfl, hk8, hp8⟩
    have HX8 := Lib.hid (hk8.ext HX7.out (fun b hb => by rw [← HZ.out]; exact hb))
    have HC8 := Lib.hid (Pair.dpower hp8)
    clear hk8 hp8 HC7
    go_wp2_with fail
    refine HC8.out.mono ?_
    rintro e w9 ⟨rfl, hk9, hp9⟩
    have HX9 := Lib.hid (hk9.ext HX8.out (fun b hb => by rw [← HZ.out]; exact hb))
    obtain ⟨bm, pl, ms, s, hdk, hrk, -⟩ := hp9
    have HDK9 := Lib.hid (show DkM z w9 bd bm pl (onceD D again) ms from hdk)
    have HRK9 := Lib.hid hrk
    have HC9 := Lib.hid (rnames_any hrk HOK.out)
    clear hk9 hdk hrk HC8
    go_wp2_with fail
    refine HC9.out.mono ?_
    rintro e w10 ⟨vn, rfl, hss, hx10⟩
    obtain ⟨L, hL⟩ : ∃ L, L = D.fs.map fun f => f.name := ⟨_, rfl⟩
    have HNI := Lib.hid (show ∀ s ∈ L, s.length ≤ maxLen ∧ (dRead D s).2 = 0 from fun s hs => by
      rw [hL] at hs
      refine ⟨?_, dRead_in HOND.out hs⟩
      obtain ⟨f, hf, rfl⟩ := List.mem_map.1 hs
      have := HOK.out.names f hf
      unfold dname at this
      simp only [Bool.and_eq_true, decide_eq_true_eq] at this
      unfold maxLen
      omega)
    rw [← hL] at hss
    obtain ⟨An, cn, rfl, a1, a2, a3⟩ := hss.at_
    unfold maxLen at a2
    have HX10 := Lib.hid (HX9.out.trans hx10)
    have HDK10 := Lib.hid (HDK9.out.ext hx10)
    have HRK10 := Lib.hid (HRK9.out.ext hx10)
    clear hss hx10 hL HC9
    go_wp2_with fail
    go_loopw [59] (fun iv wr => ∃ k : Nat, k ≤ L.length ∧ iv = .int .i64 k ∧ Ext w10 wr) (fun iv _ => L.length - (intOf iv).toNat)
    case atStart => exact ⟨0, Nat.zero_le _, rfl, Ext.refl _⟩
    case round =>
      obtain ⟨k, hk, rfl, hwx⟩ := hrel
      have HWX := Lib.hid hwx
      by_cases hlt : k < L.length
      · obtain ⟨ba, oa, rfl, hba, hca⟩ := a3 (by omega)
        obtain ⟨s, hs⟩ : ∃ s, L[k]? = some s := ⟨_, List.getElem?_eq_getElem hlt⟩
        have x1 := (hwx.cell (p := ⟨ba, oa + k, none⟩) hba).trans (hca k s hs)
        have HSI := Lib.hid (HNI.out s (List.mem_of_getElem? hs))
        have hrd := read_any (HDK10.out.ext hwx) HTOK.out s HSI.out.1
        rw [dRead_eq HFS.out rfl HOND.out s, HSI.out.2] at hrd
        have HRD := Lib.hid hrd
        unfold strV at x1 HRD
        clear hs hca a3 hwx hrd
        go_wp2_with fail
        refine HRD.out.mono ?_
        rintro e w2 ⟨vb, rfl, hob, hx2⟩
        have HX2' := Lib.hid (HWX.out.trans hx2)
        have hrr := rread_any (HRK10.out.ext (HWX.out.trans hx2)) HOK.out s
        rw [HSI.out.2] at hrr
        have HRR := Lib.hid hrr
        unfold strV at HRR
        obtain ⟨Ab, cb, rfl, b1, b2, -, -⟩ := hob.bs.open_
        have HOB := Lib.hid hob
        clear hob hx2 hrr b1 b2
        go_wp2_with fail
        refine HRR.out.mono ?_
        rintro e w3 ⟨vc, rfl, hoc, hx3⟩
        have HX3' := Lib.hid (HX2'.out.trans hx3)
        have cv1 := (HOB.out.ext hx3).bs.str (P := Try.prog) 23 9 5 Try.underlying23 Try.underlying5 Try.underlying9
        have cv2 := hoc.bs.str (P := Try.prog) 23 9 5 Try.underlying23 Try.underlying5 Try.underlying9
        have hq : ((dRead D s).1 != (dRead D s).1) = false := by simp
        obtain ⟨bs, hbs⟩ : ∃ bs, bs = (dRead D s).1 := ⟨_, rfl⟩
        rw [← hbs] at cv1 cv2 hq ⊢
        clear hoc hx3 hbs HRD HRR HOB x1
        go_wp2_with fail
        clear cv1 cv2 hq
        go_roundw
        case rel => exact ⟨k + 1, by omega, by simp, HX3'.out⟩
        case measure => simp [intOf]; omega
      · obtain rfl : k = L.length := by omega
        have HDK := Lib.hid (HDK10.out.ext hwx)
        have HRK := Lib.hid (HRK10.out.ext hwx)
        have HBR := Lib.hid HRK.out.str.blk
        have HXW := Lib.hid (HX10.out.trans hwx)
        clear hwx
        go_wp2_with fail
        refine wp_region_mono (by kernel_rfl) (by kernel_rfl) ?_
        refine tele_move rfl (.inl rfl) rfl (isV (.pointer (some ⟨bd, 0, none⟩))) (fun ρ w' h => h) ?_
        refine tele_call rfl rfl Try.func21 (by kernel_rfl) (isSs (D.fs.map fun f => f.name)) (fun _ _ _ => rfl) ?_ ?_
        · rintro ρ w' he ⟨h85, -⟩
          have e85 : ρ 85 = (.pointer (some ⟨bd, 0, none⟩)) := h85
          simp only [evR, List.map_toArray, List.map_cons, List.map_nil, e85]
          refine (names_any (HDK.out.ext he) HTOK.out).mono ?_
          rintro e w'' ⟨v, rfl, hs, hx⟩
          rw [HFS.out] at hs
          exact ⟨v, rfl, hx, hs⟩
        refine tele_move rfl (.inl rfl) rfl (isV (.pointer (some ⟨br, 0, none⟩))) (fun ρ w' h => h) ?_
        refine tele_call rfl rfl Try.func33 (by kernel_rfl) (isSs (D.fs.map fun f => f.name)) (fun _ _ _ => rfl) ?_ ?_
        · rintro ρ w' he ⟨h87, -⟩
          have e87 : ρ 87 = (.pointer (some ⟨br, 0, none⟩)) := h87
          simp only [evR, List.map_toArray, List.map_cons, List.map_nil, e87]
          refine (rnames_any (HRK.out.ext he) HOK.out).mono ?_
          rintro e w'' ⟨v, rfl, hs, hx⟩
          exact ⟨v, rfl, hx, hs⟩
        refine tele_call rfl rfl Try.func26 (by kernel_rfl) (isV (.bool true)) (fun _ _ _ => rfl) ?_ ?_
        · rintro ρ w' he ⟨h86, h88, -⟩
          have e86 : (isSs (D.fs.map fun f => f.name)).rel (ρ 86) w' := h86
          have e88 : (isSs (D.fs.map fun f => f.name)).rel (ρ 88) w' := h88
          simp only [evR, List.map_toArray, List.map_cons, List.map_nil]
          refine (texts_any (show Ss w' (ρ 86) (D.fs.map fun f => f.name) from e86) (show Ss w' (ρ 88) (D.fs.map fun f => f.name) from e88)).mono ?_
          rintro e w'' ⟨rfl, hx⟩
          exact ⟨_, rfl, hx, rfl⟩
        refine tele_move rfl (.inl rfl) rfl (isV (.bool true)) (fun ρ w' h => h) ?_
        refine tele_val rfl ((.pointer (some ⟨bd, 0, none⟩))) (fun ρ w' hk => by obtain ⟨_, hg, -⟩ := hk; have eg : ρ 90 = (.bool true) := hg; simp [wantedR, Region.wanted, asBoolR, eg]) ?_ ?_
        · rintro ρ w' he ⟨h7, -⟩
          have e7 : ρ 7 = (.pointer (some ⟨bd, 0, none⟩)) := h7
          simp [execOp, evR, e7]
        refine tele_call rfl rfl Try.func34 (by kernel_rfl) (isV (.int .i64 ((D.fails : Int) + 1))) (fun ρ w' hk => by obtain ⟨_, hg, -⟩ := hk; have eg : ρ 90 = (.bool true) := hg; simp [wantedR, Region.wanted, asBoolR, eg]) ?_ ?_
        · rintro ρ w' he ⟨h91, -⟩
          have e91 : ρ 91 = (.pointer (some ⟨bd, 0, none⟩)) := h91
          simp only [evR, List.map_toArray, List.map_cons, List.map_nil, e91]
          refine (fails_any (HDK.out.ext he)).mono ?_
          rintro e w'' ⟨rfl, rfl⟩
          exact ⟨_, rfl, Ext.refl _, by rw [HFA.out]; rfl⟩
        refine tele_val rfl ((.pointer (some ⟨br, 0, none⟩))) (fun ρ w' hk => by obtain ⟨_, hg, -⟩ := hk; have eg : ρ 90 = (.bool true) := hg; simp [wantedR, Region.wanted, asBoolR, eg]) ?_ ?_
        · rintro ρ w' he ⟨h8, -⟩
          have e8 : ρ 8 = (.pointer (some ⟨br, 0, none⟩)) := h8
          simp [execOp, evR, e8]
        refine tele_val rfl (.pointer (some ⟨br, 0, none⟩)) (fun ρ w' hk => by obtain ⟨_, hg, -⟩ := hk; have eg : ρ 90 = (.bool true) := hg; simp [wantedR, Region.wanted, asBoolR, eg]) ?_ ?_
        · rintro ρ w' he ⟨h93, -⟩
          have e93 : ρ 93 = (.pointer (some ⟨br, 0, none⟩)) := h93
          simp [execOp, evR, e93, go_sem]
        refine tele_val rfl (.pointer (some ⟨br, 3, none⟩)) (fun ρ w' hk => by obtain ⟨_, hg, -⟩ := hk; have eg : ρ 90 = (.bool true) := hg; simp [wantedR, Region.wanted, asBoolR, eg]) ?_ ?_
        · rintro ρ w' he ⟨h94, -⟩
          have e94 : ρ 94 = (.pointer (some ⟨br, 0, none⟩)) := h94
          simp [execOp, evR, e94, go_sem]
        refine tele_val rfl (.int .i64 (D.fails : Int)) (fun ρ w' hk => by obtain ⟨_, hg, -⟩ := hk; have eg : ρ 90 = (.bool true) := hg; simp [wantedR, Region.wanted, asBoolR, eg]) ?_ ?_
        · rintro ρ w' he ⟨h95, -⟩
          have e95 : ρ 95 = (.pointer (some ⟨br, 3, none⟩)) := h95
          have c := (HBR.out.ext he).cell (i := 3) rfl
          simp [execOp, evR, e95, c, go_sem]
        refine tele_val rfl (.int .i64 ((D.fails : Int) + 1)) (fun ρ w' hk => by obtain ⟨_, hg, -⟩ := hk; have eg : ρ 90 = (.bool true) := hg; simp [wantedR, Region.wanted, asBoolR, eg]) ?_ ?_
        · rintro ρ w' he ⟨h96, -⟩
          have e96 : ρ 96 = (.int .i64 (D.fails : Int)) := h96
          have hcn := HSMD.out.cnt
          have hw : IntKind.i64.wrap ((D.fails : Int) + 1) = (D.fails : Int) + 1 := IntWalk.i64_in _ (by omega)
          simp [execOp, evR, e96, hw, go_sem]
        refine tele_val rfl (.bool true) (fun ρ w' hk => by obtain ⟨_, _, hg, -⟩ := hk; have eg : ρ 90 = (.bool true) := hg; simp [wantedR, Region.wanted, asBoolR, eg]) ?_ ?_
        · rintro ρ w' he ⟨h92, h97, -⟩
          have e92 : ρ 92 = (.int .i64 ((D.fails : Int) + 1)) := h92
          have e97 : ρ 97 = (.int .i64 ((D.fails : Int) + 1)) := h97
          simp [execOp, evR, e92, e97, go_sem]
        refine tele_val rfl (.bool true) (fun _ _ _ => rfl) ?_ ?_
        · rintro ρ w' he ⟨h90, h98, -⟩
          have e90 : ρ 90 = (.bool true) := h90
          have e98 : ρ 98 = (.bool true) := h98
          simp [execOp, evR, e90, e98, go_sem]
        refine tele_move rfl (.inl rfl) rfl (isV (.bool true)) (fun ρ w' h => h) ?_
        refine tele_call rfl rfl Try.func9 (by kernel_rfl) (isV (.bool true)) (fun ρ w' hk => by obtain ⟨hg, -⟩ := hk; have eg : ρ 100 = (.bool true) := hg; simp [wantedR, Region.wanted, asBoolR, eg]) ?_ ?_
        · rintro ρ w' he -
          simp only [evR, List.map_toArray, List.map_cons, List.map_nil]
          refine (lives_any _).mono ?_
          rintro e w'' ⟨rfl, hx⟩
          exact ⟨_, rfl, hx, rfl⟩
        refine tele_val rfl (.bool true) (fun _ _ _ => rfl) ?_ ?_
        · rintro ρ w' he ⟨h100, h101, -⟩
          have e100 : ρ 100 = (.bool true) := h100
          have e101 : ρ 101 = (.bool true) := h101
          simp [execOp, evR, e100, e101, go_sem]
        refine tele_move rfl (.inr rfl) rfl (isV (.bool true)) (fun ρ w' h => h) ?_
        refine tele_nil ?_
        rintro ρ w' hext ⟨f6, f102, f101, f100, f99, f98, f97, f96, f95, f94, f93, f92, f91, f90, f89, f88, f87, f86, f85, -⟩
        replace f85 : ρ 85 = (.pointer (some ⟨bd, 0, none⟩)) := f85
        replace f86 : (isSs (D.fs.map fun f => f.name)).rel (ρ 86) w' := f86
        replace f87 : ρ 87 = (.pointer (some ⟨br, 0, none⟩)) := f87
        replace f88 : (isSs (D.fs.map fun f => f.name)).rel (ρ 88) w' := f88
        replace f89 : ρ 89 = (.bool true) := f89
        replace f90 : ρ 90 = (.bool true) := f90
        replace f91 : ρ 91 = (.pointer (some ⟨bd, 0, none⟩)) := f91
        replace f92 : ρ 92 = (.int .i64 ((D.fails : Int) + 1)) := f92
        replace f93 : ρ 93 = (.pointer (some ⟨br, 0, none⟩)) := f93
        replace f94 : ρ 94 = (.pointer (some ⟨br, 0, none⟩)) := f94
        replace f95 : ρ 95 = (.pointer (some ⟨br, 3, none⟩)) := f95
        replace f96 : ρ 96 = (.int .i64 (D.fails : Int)) := f96
        replace f97 : ρ 97 = (.int .i64 ((D.fails : Int) + 1)) := f97
        replace f98 : ρ 98 = (.bool true) := f98
        replace f99 : ρ 99 = (.bool true) := f99
        replace f100 : ρ 100 = (.bool true) := f100
        replace f101 : ρ 101 = (.bool true) := f101
        replace f102 : ρ 102 = (.bool true) := f102
        replace f6 : ρ 6 = (.bool true) := f6
        simp only [puts, Act.put, List.setIfInBounds_toArray, List.set_cons_zero, List.set_cons_succ]
        rw [f6]
        have HXE := Lib.hid ((HX0.out.trans HXW.out).trans hext)
        clear hext f85 f86 f87 f88 f89 f90 f91 f92 f93 f94 f95 f96 f97 f98 f99 f100 f101 f102 f6
        go_wp2_with fail
        go_ret
        exact ⟨rfl, HXE.out⟩
end Go.Proofs.Ytkejoiknnigllaa
