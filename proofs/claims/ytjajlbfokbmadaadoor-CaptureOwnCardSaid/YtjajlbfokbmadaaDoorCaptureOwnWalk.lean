/-
  The walk of CaptureOwn.
-/
import Derived.Test.YtjajlbfokbmadaaDoorCapLives
import Derived.Test.YtjajlbfokbmadaaDoorCapLight
import Derived.Test.YtjajlbfokbmadaaDoorChSame
import Derived.Test.YtjajlbfokbmadaaDoorCapOwn
namespace Go.Proofs.YtjajlbfokbmadaaDoor
open Go Go.RowKit Mono Num
set_option linter.unusedVariables false
set_option linter.unusedSimpArgs false
set_option maxRecDepth 100000

theorem filter_take_succ {α : Type} (q : α → Bool) (l : List α) (i : Nat) (x : α) (h : l[i]? = some x) : (l.take (i + 1)).filter q = (l.take i).filter q ++ (if q x = true then [x] else []) := by
  rw [List.take_add_one, h, Option.toList_some, List.filter_append]
  cases hq : q x <;> simp [hq]
theorem filter_at {α : Type} (q : α → Bool) (l : List α) (i : Nat) (x : α) (h : l[i]? = some x) (hq : q x = true) : (l.filter q)[((l.take i).filter q).length]? = some x := by
  have hi := (List.getElem?_eq_some_iff.1 h).1
  have h1 : l = l.take i ++ x :: l.drop (i + 1) := by
    conv => lhs; rw [← List.take_append_drop i l]
    rw [List.drop_eq_getElem_cons hi]
    congr 2
    exact (List.getElem?_eq_some_iff.1 h).2
  have h2 : l.filter q = (l.take i).filter q ++ x :: (l.drop (i + 1)).filter q := by
    conv => lhs; rw [h1]
    rw [List.filter_append, List.filter_cons, if_pos hq]
  rw [h2, List.getElem?_append_right (Nat.le_refl _), Nat.sub_self]
  rfl

set_option maxHeartbeats 8000000 in
theorem captureOwn_walk (v : Value) (l : List (Ch × Value)) (u : Int) (w : World) (hv : Cs w v l) :
    Calls Tryd.prog 3 #[v, .int .i64 u] w fun e w' => e = .returned (.bool true) ∧ Ext w w' := by
  have HL := Lib.hid (fun w => lives_any w)
  have HV := Lib.hid hv
  obtain ⟨A, c, rfl, g1, g2, g3, g4⟩ := hv.at_
  have H4 := Lib.hid g4
  clear g4 hv
  go_enter Tryd.func3, Tryd.ntmps3
  go_wp2_with fail
  refine (light13_any none 0 0 _ l _ (by decide) HV.out).mono ?_
  rintro e w1 ⟨⟨q, rfl, hq⟩, x1⟩
  have HQ := Lib.hid hq
  clear hq
  cases q
  · go_wp2_with fail
    refine (HL.out _).mono ?_
    rintro e w2 ⟨rfl, x2⟩
    go_wp2_with fail
    go_ret
    exact ⟨rfl, Ext.trans x1 x2⟩
  go_wp2_with fail
  have hb := HQ.out rfl
  refine (capOwn_any u _ l w1 (HV.out.ext x1) (by omega) (fun x hx => by have := hb.2 x hx; omega)).mono ?_
  rintro e w2 ⟨r, outs, rfl, hr, hm, x2⟩
  obtain ⟨Ar, cr, rfl, k1, k2, k3, k4⟩ := hr.at_
  have hol : outs.length = (l.filter (fun x => decide (x.1.site = u))).length := by simpa using congrArg List.length hm
  have hfl := List.length_filter_le (fun x : Ch × Value => decide (x.1.site = u)) l
  have hx0 := Ext.trans x1 x2
  have K4 := Lib.hid k4
  have HR := Lib.hid hr
  have HM := Lib.hid hm
  have HB := Lib.hid hb
  have HOL := Lib.hid hol
  have HFL := Lib.hid hfl
  have hol6 : outs.length ≤ 600 := by omega
  clear k4 hr hm x1 x2 hb hol hfl
  go_wp2_with fail
  go_loopw [6, 18] (fun kv iv wr => ∃ i : Nat, i ≤ l.length ∧ iv = .int .i64 i ∧ kv = .int .i64 (((l.take i).filter (fun x => decide (x.1.site = u))).length : Nat) ∧ Ext w2 wr) (fun _ iv _ => l.length - (intOf iv).toNat)
  case atStart => exact ⟨0, Nat.zero_le _, rfl, rfl, Ext.refl _⟩
  case round =>
    obtain ⟨i, hi, rfl, rfl, hx⟩ := hrel
    by_cases hlt : i < l.length
    · obtain ⟨b, off, rfl, hb, hcell⟩ := H4.out (by omega)
      obtain ⟨site, seq, sn, ss, va, vb, ws, vw, hget, hws, hin, p0, p1, p2, p3, p4, p5, p6⟩ := hcell i hlt
      obtain ⟨Av, cv, rfl, _⟩ := hws.at_
      have hx1 := Ext.trans hx0 hx
      replace p0 := (hx1.cell (p := ⟨b, off + i * 7, none⟩) hb).trans p0
      replace p1 := (hx1.cell (p := ⟨b, off + i * 7 + 1, none⟩) hb).trans p1
      replace p2 := (hx1.cell (p := ⟨b, off + i * 7 + 2, none⟩) hb).trans p2
      replace p3 := (hx1.cell (p := ⟨b, off + i * 7 + 3, none⟩) hb).trans p3
      replace p4 := (hx1.cell (p := ⟨b, off + i * 7 + 4, none⟩) hb).trans p4
      replace p5 := (hx1.cell (p := ⟨b, off + i * 7 + 5, none⟩) hb).trans p5
      replace p6 := (hx1.cell (p := ⟨b, off + i * 7 + 6, none⟩) hb).trans p6
      have HT := Lib.hid (filter_take_succ (fun x : Ch × Value => decide (x.1.site = u)) l i _ hget)
      have HG := Lib.hid hget
      have hws2 := hws
      have hx9 := Ext.trans hx1 (ext_alloc wr (.cells #[.int .i64 site, .int .i64 seq, .int .i64 sn, .int .i64 ss, .int .i64 va, .int .i64 vb, .slice Av ws.length cv] 32))
      have hxo := Ext.trans hx (ext_alloc wr (.cells #[.int .i64 site, .int .i64 seq, .int .i64 sn, .int .i64 ss, .int .i64 va, .int .i64 vb, .slice Av ws.length cv] 32))
      have ba := Blk.new wr #[.int .i64 site, .int .i64 seq, .int .i64 sn, .int .i64 ss, .int .i64 va, .int .i64 vb, .slice Av ws.length cv] 32
      have l0 := ba.cell (i := 0) rfl
      have HX9 := Lib.hid hx9
      have HXO := Lib.hid hxo
      have HBA := Lib.hid ba
      have HWS := Lib.hid hws2
      clear hcell hget hws hin hx1 hx9 hxo ba hws2
      have hkb : ((l.take i).filter (fun x => decide (x.1.site = u))).length ≤ 600 := by
        have h1 := List.length_filter_le (fun x : Ch × Value => decide (x.1.site = u)) (l.take i)
        have h2 := List.length_take_le i l
        have h3 := HB.out.1
        omega
      generalize hkk : ((l.take i).filter (fun x => decide (x.1.site = u))).length = kk at *
      have HKK := Lib.hid hkk
      clear hkk
      by_cases hs : site = u
      · subst hs
        have hat := filter_at (fun x : Ch × Value => decide (x.1.site = site)) l i _ HG.out (by simp)
        rw [HKK.out] at hat
        have hat2 : (outs.map (·.1))[kk]? = some ⟨site, seq, sn, ss, va, vb, ws⟩ := by rw [HM.out, List.getElem?_map, hat]; rfl
        have hkl : kk < outs.length := by have := (List.getElem?_eq_some_iff.1 hat2).1; simpa using this
        obtain ⟨br, orr, rfl, hbr, hcr⟩ := K4.out (by omega)
        obtain ⟨site', seq', sn', ss', va', vb', ws', vo, hgo, hwo, _, y0, y1, y2, y3, y4, y5, y6⟩ := hcr kk hkl
        have hsame : (⟨site', seq', sn', ss', va', vb', ws'⟩ : Ch) = ⟨site, seq, sn, ss, va, vb, ws⟩ := by
          rw [List.getElem?_map, hgo] at hat2
          injection hat2
        injection hsame with a1 a2 a3 a4 a5 a6 a7
        subst a1 a2 a3 a4 a5 a6 a7
        have HY := Lib.hid (And.intro y0 (And.intro y1 (And.intro y2 (And.intro y3 (And.intro y4 (And.intro y5 y6))))))
        have HWO := Lib.hid hwo
        clear hat hat2 hcr hgo hwo y0 y1 y2 y3 y4 y5 y6
        go_wp2_with fail
        have hxo := HXO.out
        have hx9 := HX9.out
        have ba := HBA.out
        have hws2 := HWS.out
        have hwo := HWO.out
        obtain ⟨y0, y1, y2, y3, y4, y5, y6⟩ := HY.out
        clear p0 p1 p2 p3 p4 p5 p6 l0 HXO HX9 HBA HWS HWO HY
        generalize wr.heap.size = n8 at *
        generalize wr.alloc (.cells #[.int .i64 site', .int .i64 seq', .int .i64 sn', .int .i64 ss', .int .i64 va', .int .i64 vb', .slice Av ws'.length cv] 32) = W8 at *
        refine wp_region_mono (by kernel_rfl) (by kernel_rfl) ?_
        refine tele_move rfl (.inl rfl) rfl (isV (.int .i64 (kk : Int))) (fun ρ w' h => h) ?_
        refine tele_move rfl (.inl rfl) rfl (isV (.slice (some ⟨br, orr, none⟩) outs.length cr)) (fun ρ w' h => h) ?_
        refine tele_val rfl (.int .i64 (outs.length : Int)) (fun _ _ _ => rfl) ?_ ?_
        · rintro ρ w' he ⟨h27, -⟩
          have e27 : ρ 27 = (.slice (some ⟨br, orr, none⟩) outs.length cr) := h27
          simp [execOp, evR, e27, go_sem]
        refine tele_val rfl (.bool false) (fun _ _ _ => rfl) ?_ ?_
        · rintro ρ w' he ⟨h26, h28, -⟩
          have e26 : ρ 26 = (.int .i64 (kk : Int)) := h26
          have e28 : ρ 28 = (.int .i64 (outs.length : Int)) := h28
          simp [execOp, evR, e26, e28, go_sem]; omega
        refine tele_move rfl (.inl rfl) rfl (isV (.bool false)) (fun ρ w' h => h) ?_
        refine tele_val rfl ((.slice (some ⟨br, orr, none⟩) outs.length cr)) (fun ρ w' hk => by obtain ⟨_, hg, -⟩ := hk; have eg : ρ 30 = (.bool false) := hg; simp [wantedR, Region.wanted, asBoolR, eg]) ?_ ?_
        · rintro ρ w' he ⟨h5, -⟩
          have e5 : ρ 5 = (.slice (some ⟨br, orr, none⟩) outs.length cr) := h5
          simp [execOp, evR, e5]
        refine tele_val rfl ((.int .i64 (kk : Int))) (fun ρ w' hk => by obtain ⟨_, hg, -⟩ := hk; have eg : ρ 30 = (.bool false) := hg; simp [wantedR, Region.wanted, asBoolR, eg]) ?_ ?_
        · rintro ρ w' he ⟨h6, -⟩
          have e6 : ρ 6 = (.int .i64 (kk : Int)) := h6
          simp [execOp, evR, e6]
        refine tele_val rfl (.pointer (some ⟨br, orr + kk * 7, none⟩)) (fun ρ w' hk => by obtain ⟨_, _, hg, -⟩ := hk; have eg : ρ 30 = (.bool false) := hg; simp [wantedR, Region.wanted, asBoolR, eg]) ?_ ?_
        · rintro ρ w' he ⟨h31, h32, -⟩
          have e31 : ρ 31 = (.slice (some ⟨br, orr, none⟩) outs.length cr) := h31
          have e32 : ρ 32 = (.int .i64 (kk : Int)) := h32
          exact index_at 7 rfl Tryd.underlying22 e31 e32 (by omega) (by kernel_rfl)
        refine tele_val rfl (chV ⟨site', seq', sn', ss', va', vb', ws'⟩ vo) (fun ρ w' hk => by obtain ⟨_, hg, -⟩ := hk; have eg : ρ 30 = (.bool false) := hg; simp [wantedR, Region.wanted, asBoolR, eg]) ?_ ?_
        · rintro ρ w' he ⟨h33, -⟩
          have e33 : ρ 33 = (.pointer (some ⟨br, orr + kk * 7, none⟩)) := h33
          have c0 := (((hxo.trans he).cell (p := ⟨br, orr + kk * 7, none⟩) hbr).trans y0); have c1 := (((hxo.trans he).cell (p := ⟨br, orr + kk * 7 + 1, none⟩) hbr).trans y1); have c2 := (((hxo.trans he).cell (p := ⟨br, orr + kk * 7 + 2, none⟩) hbr).trans y2); have c3 := (((hxo.trans he).cell (p := ⟨br, orr + kk * 7 + 3, none⟩) hbr).trans y3); have c4 := (((hxo.trans he).cell (p := ⟨br, orr + kk * 7 + 4, none⟩) hbr).trans y4); have c5 := (((hxo.trans he).cell (p := ⟨br, orr + kk * 7 + 5, none⟩) hbr).trans y5); have c6 := (((hxo.trans he).cell (p := ⟨br, orr + kk * 7 + 6, none⟩) hbr).trans y6); simp [execOp, evR, e33, c0, c1, c2, c3, c4, c5, c6, chV, go_sem]
        refine tele_val rfl (chV ⟨site', seq', sn', ss', va', vb', ws'⟩ (.slice Av ws'.length cv)) (fun ρ w' hk => by obtain ⟨_, hg, -⟩ := hk; have eg : ρ 30 = (.bool false) := hg; simp [wantedR, Region.wanted, asBoolR, eg]) ?_ ?_
        · rintro ρ w' he ⟨h8, -⟩
          have e8 : ρ 8 = (.pointer (some ⟨n8, 0, none⟩)) := h8
          have c0 := (ba.ext he).cell (i := 0) rfl; have c1 := (ba.ext he).cell (i := 1) rfl; have c2 := (ba.ext he).cell (i := 2) rfl; have c3 := (ba.ext he).cell (i := 3) rfl; have c4 := (ba.ext he).cell (i := 4) rfl; have c5 := (ba.ext he).cell (i := 5) rfl; have c6 := (ba.ext he).cell (i := 6) rfl; simp [execOp, evR, e8, c0, c1, c2, c3, c4, c5, c6, chV, go_sem]
        refine tele_call rfl rfl Tryd.func11 (by kernel_rfl) (isV (.bool true)) (fun ρ w' hk => by obtain ⟨_, _, hg, -⟩ := hk; have eg : ρ 30 = (.bool false) := hg; simp [wantedR, Region.wanted, asBoolR, eg]) ?_ ?_
        · rintro ρ w' he ⟨h34, h35, -⟩
          have e34 : ρ 34 = (chV ⟨site', seq', sn', ss', va', vb', ws'⟩ vo) := h34
          have e35 : ρ 35 = (chV ⟨site', seq', sn', ss', va', vb', ws'⟩ (.slice Av ws'.length cv)) := h35
          simp only [evR, List.map_toArray, List.map_cons, List.map_nil, e34, e35]
          refine (chSame_any site' seq' sn' ss' va' vb' _ _ ws' _ (hwo.ext (hxo.trans he)) (hws2.ext (hx9.trans he))).mono ?_; rintro e w'' ⟨rfl, h'⟩; exact ⟨_, rfl, h', rfl⟩
        refine tele_val rfl (.bool false) (fun ρ w' hk => by obtain ⟨_, hg, -⟩ := hk; have eg : ρ 30 = (.bool false) := hg; simp [wantedR, Region.wanted, asBoolR, eg]) ?_ ?_
        · rintro ρ w' he ⟨h36, -⟩
          have e36 : ρ 36 = (.bool true) := h36
          simp [execOp, evR, e36, go_sem]
        refine tele_val rfl (.bool false) (fun _ _ _ => rfl) ?_ ?_
        · rintro ρ w' he ⟨h30, h37, -⟩
          have e30 : ρ 30 = (.bool false) := h30
          have e37 : ρ 37 = (.bool false) := h37
          simp [execOp, evR, e30, e37, go_sem]
        refine tele_nil ?_
        rintro ρ w' hext ⟨f38, f37, f36, f35, f34, f33, f32, f31, f30, f29, f28, f27, f26, -⟩
        replace f26 : ρ 26 = (.int .i64 (kk : Int)) := f26
        replace f27 : ρ 27 = (.slice (some ⟨br, orr, none⟩) outs.length cr) := f27
        replace f28 : ρ 28 = (.int .i64 (outs.length : Int)) := f28
        replace f29 : ρ 29 = (.bool false) := f29
        replace f30 : ρ 30 = (.bool false) := f30
        replace f31 : ρ 31 = (.slice (some ⟨br, orr, none⟩) outs.length cr) := f31
        replace f32 : ρ 32 = (.int .i64 (kk : Int)) := f32
        replace f33 : ρ 33 = (.pointer (some ⟨br, orr + kk * 7, none⟩)) := f33
        replace f34 : ρ 34 = (chV ⟨site', seq', sn', ss', va', vb', ws'⟩ vo) := f34
        replace f35 : ρ 35 = (chV ⟨site', seq', sn', ss', va', vb', ws'⟩ (.slice Av ws'.length cv)) := f35
        replace f36 : ρ 36 = (.bool true) := f36
        replace f37 : ρ 37 = (.bool false) := f37
        replace f38 : ρ 38 = (.bool false) := f38
        simp only [puts, Act.put, List.setIfInBounds_toArray, List.set_cons_zero, List.set_cons_succ]
        rw [f38]
        clear f26 f27 f28 f29 f30 f31 f32 f33 f34 f35 f36 f37 f38 y0 y1 y2 y3 y4 y5 y6
        go_wp2_with fail
        go_roundw
        case rel => exact ⟨i + 1, by omega, by simp, by rw [HT.out, List.length_append, HKK.out]; simp, Ext.trans hxo hext⟩
        case measure => simp [intOf]; omega
      · go_wp2_with fail
        go_roundw
        case rel => exact ⟨i + 1, by omega, by simp, by rw [HT.out, List.length_append, HKK.out]; simp [hs], HXO.out⟩
        case measure => simp [intOf]; omega
    · obtain rfl : i = l.length := by omega
      rw [List.take_length, ← HOL.out]
      go_wp2_with fail
      have hbo : ∀ x ∈ outs, x.1.writes.length ≤ 600 ∧ x.1.site = u := fun x hx' => by
        have h1 : x.1 ∈ outs.map (·.1) := List.mem_map.2 ⟨x, hx', rfl⟩
        rw [HM.out] at h1
        obtain ⟨y, hy, he⟩ := List.mem_map.1 h1
        rw [← he]
        exact ⟨HB.out.2 y (List.mem_filter.1 hy).1, by simpa using (List.mem_filter.1 hy).2⟩
      refine (capOwn_any u _ outs _ (HR.out.ext hx) (by omega) (fun x hx' => by have := (hbo x hx').1; omega)).mono ?_
      rintro e w4 ⟨r4, outs4, rfl, hr4, hm4, x4⟩
      have hmm : outs4.map (·.1) = outs.map (·.1) := by
        rw [hm4, List.filter_eq_self.2 (fun x hx' => by simpa using (hbo x hx').2)]
      have HA := Lib.hid (chAll_any r4 _ outs4 outs w4 hr4 (HR.out.ext (Ext.trans hx x4)) hmm)
      obtain ⟨A4, c4, rfl, _⟩ := hr4.at_
      clear hbo hr4 hm4
      go_wp2_with fail
      refine HA.out.mono ?_
      rintro e w5 ⟨rfl, x5⟩
      go_wp2_with fail
      refine (HL.out _).mono ?_
      rintro e w6 ⟨rfl, x6⟩
      go_wp2_with fail
      go_ret
      exact ⟨rfl, Ext.trans hx0 (Ext.trans hx (Ext.trans x4 (Ext.trans x5 x6)))⟩
end Go.Proofs.YtjajlbfokbmadaaDoor
