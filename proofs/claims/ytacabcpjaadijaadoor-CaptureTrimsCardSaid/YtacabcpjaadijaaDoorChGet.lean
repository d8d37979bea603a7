/-
  The walk of change.Get.
-/
import Derived.Test.YtacabcpjaadijaaDoorChGet0
namespace Go.Proofs.YtacabcpjaadijaaDoor
open Go Go.RowKit Mono Num
set_option linter.unusedVariables false
set_option linter.unusedSimpArgs false
set_option maxRecDepth 10000

/-- What Get reads ahead of the writes, and then. -/
def rdHead (b : List UInt8) : (Nat × Nat × (Int × Int) × (Int × Int)) × Nat × Nat × Bool :=
  let s1 := rdNum b (0, false)
  let s2 := rdNum b s1.2
  let s3 := rdStamp b s2.2
  let s4 := rdVec b s3.2
  let s5 := rdNum b s4.2
  ((s1.1, s2.1, s3.1, s4.1), s5.1, s5.2)
def rdChange (b : List UInt8) : Ch × Nat × Bool :=
  let h := rdHead b
  let t := rdAll b (min h.2.1 9) h.2.2
  (⟨h.1.1, h.1.2.1, h.1.2.2.1.1, h.1.2.2.1.2, h.1.2.2.2.1, h.1.2.2.2.2, t.1⟩, t.2)
/-- What Get tells. -/
def cgetP (gs : List Grp) (b : List UInt8) : Ch × Nat × Nat :=
  if pgood gs ≠ 0 then (Ch.nought, 0, pgood gs) else if ((rdChange b).2.2 || !(cgood gs (rdChange b).1 == 0)) = true then (Ch.nought, 0, 120) else ((rdChange b).1, (rdChange b).2.1, 0)

set_option maxHeartbeats 8000000 in
theorem chGet_any (A : Option Addr) (c : Nat) (b : List UInt8) (vl : Value) (gs : List Grp) (w : World) (hb : Bs w (.slice A b.length c) b) (hbl : b.length ≤ 20000) (hl : Gs w vl gs) :
    Calls Tryd.prog 36 #[.slice A b.length c, vl] w fun en w' => ∃ vw, en = .returned (.tuple #[chV (cgetP gs b).1 vw, .int .i64 ((cgetP gs b).2.1 : Int), .int .i64 ((cgetP gs b).2.2 : Int)]) ∧ WsO w' vw (cgetP gs b).1.writes ∧ Ext w w' := by
  have hc9 : b.length ≤ c ∧ c ≤ 9223372036854775807 := by
    obtain ⟨_, _, e, h1, h2, _⟩ := hb
    injection e with _ e1 e2
    simp only [List.length_map] at *
    unfold maxLen at h2
    omega
  obtain ⟨hcl, hc9⟩ := hc9
  have HB := Lib.hid hb
  have HLG := Lib.hid hl
  clear hb hl
  go_enter Tryd.func36, Tryd.ntmps36
  go_wp2_with fail
  have bn := Blk.new w #[.int .i64 0, .int .i64 0, .int .i64 0, .int .i64 0, .int .i64 0, .int .i64 0, .slice none 0 0] 32
  have hx := ext_alloc w (.cells #[.int .i64 0, .int .i64 0, .int .i64 0, .int .i64 0, .int .i64 0, .int .i64 0, .slice none 0 0] 32)
  obtain ⟨nb, hnb⟩ : ∃ n, n = w.heap.size := ⟨_, rfl⟩
  rw [← hnb] at bn ⊢
  have HNB := Lib.hid hnb
  clear hnb
  generalize w.alloc (.cells #[.int .i64 0, .int .i64 0, .int .i64 0, .int .i64 0, .int .i64 0, .int .i64 0, .slice none 0 0] 32) = W at *
  refine (polGood_any vl gs W (HLG.out.ext hx)).mono ?_
  rintro e w1 ⟨rfl, x1⟩
  replace hx := Ext.trans hx x1
  replace bn := bn.ext x1
  clear x1
  by_cases hp : pgood gs = 0
  rotate_left
  · have HR := Lib.hid (show cgetP gs b = (Ch.nought, 0, pgood gs) by unfold cgetP; rw [if_pos hp])
    have hp0 : (((pgood gs : Nat) : Int) != 0) = true := by rw [bne_iff_ne]; omega
    clear hp
    have f0 := bn.cell (i := 0) rfl
    have fz0 := bn.thaw 0
    have f1 := bn.cell (i := 1) rfl
    have fz1 := bn.thaw 1
    have f2 := bn.cell (i := 2) rfl
    have fz2 := bn.thaw 2
    have f3 := bn.cell (i := 3) rfl
    have fz3 := bn.thaw 3
    have f4 := bn.cell (i := 4) rfl
    have fz4 := bn.thaw 4
    have f5 := bn.cell (i := 5) rfl
    have fz5 := bn.thaw 5
    have f6 := bn.cell (i := 6) rfl
    have fz6 := bn.thaw 6
    go_wp2_with fail
    have bf := set7_blk bn (.int .i64 0) (.int .i64 0) (.int .i64 0) (.int .i64 0) (.int .i64 0) (.int .i64 0) (.slice none 0 0)
    have d0 := bf.cell (i := 0) rfl
    have d1 := bf.cell (i := 1) rfl
    have d2 := bf.cell (i := 2) rfl
    have d3 := bf.cell (i := 3) rfl
    have d4 := bf.cell (i := 4) rfl
    have d5 := bf.cell (i := 5) rfl
    have d6 := bf.cell (i := 6) rfl
    have xf := set7_ext hx (Nat.le_of_eq HNB.out.symm) (.int .i64 0) (.int .i64 0) (.int .i64 0) (.int .i64 0) (.int .i64 0) (.int .i64 0) (.slice none 0 0)
    unfold set7 at d0 d1 d2 d3 d4 d5 d6 xf
    exact bodyPost_ret (v := .tuple #[.agg #[.int .i64 0, .int .i64 0, .int .i64 0, .int .i64 0, .int .i64 0, .int .i64 0, .slice none 0 0], .int .i64 0, .int .i64 ((pgood gs : Nat) : Int)]) (by simp [results, Tryd.results36, d0, d1, d2, d3, d4, d5, d6, go_sem]) rfl ⟨.slice none 0 0, by rw [HR.out]; rfl, by rw [HR.out]; exact WsO.nil_ _, xf⟩
  rw [hp]
  have HP := Lib.hid hp
  clear hp
  obtain ⟨x1, a1, b1, hs1⟩ : ∃ x a q, rdNum b (0, false) = (x, a, q) := ⟨_, _, _, rfl⟩
  have i1 := rdNum_in b (0, false) (Nat.zero_le _)
  have t1 := fun w' rb h => rnum_any w w' rb A c b 0 false h HB.out (Nat.zero_le _) (by omega)
  simp only [hs1] at i1 t1
  obtain ⟨x2, a2, b2, hs2⟩ : ∃ x a q, rdNum b (a1, b1) = (x, a, q) := ⟨_, _, _, rfl⟩
  have i2 := rdNum_in b (a1, b1) i1.1
  have t2 := fun w' rb h => rnum_any w w' rb A c b a1 b1 h HB.out i1.1 (by omega)
  simp only [hs2] at i2 t2
  have hst := sget_in (b.drop a2)
  rw [List.length_drop] at hst
  have t3 := fun v w' h => stGet_any v (b.drop a2) w' h
  obtain ⟨⟨sn, ss⟩, k3, e3, hs3⟩ : ∃ x k e, sget (b.drop a2) = (x, k, e) := ⟨_, _, _, rfl⟩
  simp only [hs3] at t3 hst
  obtain ⟨p3, hp3⟩ : ∃ p, p = a2 + k3 := ⟨_, rfl⟩
  obtain ⟨q3, hq3⟩ : ∃ q, q = (b2 || !(e3 == 0)) := ⟨_, rfl⟩
  have le3 : p3 ≤ b.length := by omega
  have hr3 : rdStamp b (a2, b2) = ((sn, ss), p3, q3) := by unfold rdStamp; rw [hs3, hp3, hq3]
  have hvt := vget_in (b.drop p3)
  rw [List.length_drop] at hvt
  have t4 := fun v w' h => vecGet_any v (b.drop p3) w' h
  obtain ⟨⟨va, vb⟩, k4, e4, hs4⟩ : ∃ x k e, vget (b.drop p3) = (x, k, e) := ⟨_, _, _, rfl⟩
  simp only [hs4] at t4 hvt
  obtain ⟨p4, hp4⟩ : ∃ p, p = p3 + k4 := ⟨_, rfl⟩
  obtain ⟨q4, hq4⟩ : ∃ q, q = (q3 || !(e4 == 0)) := ⟨_, rfl⟩
  have le4 : p4 ≤ b.length := by omega
  have hr4 : rdVec b (p3, q3) = ((va, vb), p4, q4) := by unfold rdVec; rw [hs4, hp4, hq4]
  obtain ⟨x5, a5, b5, hs5⟩ : ∃ x a q, rdNum b (p4, q4) = (x, a, q) := ⟨_, _, _, rfl⟩
  have i5 := rdNum_in b (p4, q4) le4
  have t5 := fun w' rb h => rnum_any w w' rb A c b p4 q4 h HB.out le4 (by omega)
  simp only [hs5] at i5 t5
  have HHD := Lib.hid (show rdHead b = ((x1, x2, (sn, ss), (va, vb)), x5, a5, b5) by unfold rdHead; simp only [hs1, hs2, hr3, hr4, hs5])
  unfold stV at t3
  unfold getV vecV at t4
  have T1 := Lib.hid t1
  have T2 := Lib.hid t2
  have T3 := Lib.hid t3
  have T4 := Lib.hid t4
  have T5 := Lib.hid t5
  have HP3 := Lib.hid hp3
  have HQ3 := Lib.hid hq3
  have HP4 := Lib.hid hp4
  have HQ4 := Lib.hid hq4
  have L3 := Lib.hid (show a2 + k3 ≤ 100000 by omega)
  have L4 := Lib.hid (show p3 + k4 ≤ 100000 by omega)
  clear t1 t2 t3 t4 t5 hs1 hs2 hs3 hs4 hs5 hr3 hr4 hp3 hq3 hp4 hq4
  obtain ⟨j1, -⟩ := i1
  obtain ⟨j2, m2⟩ := i2
  go_wp2_with fail
  have H0 := Lib.hid (⟨Blk.new w1 #[.slice A b.length c, .int .i64 0, .bool false] 121, hx.trans (ext_alloc _ _), hx.size⟩ : Rdr w (w1.alloc (.cells #[.slice A b.length c, .int .i64 0, .bool false] 121)) w1.heap.size (.slice A b.length c) 0 false)
  have hnr := bn.lt
  replace bn := bn.ext (ext_alloc w1 (.cells #[.slice A b.length c, .int .i64 0, .bool false] 121))
  obtain ⟨rb, hrb⟩ : ∃ n, n = w1.heap.size := ⟨_, rfl⟩
  rw [← hrb] at H0 hnr ⊢
  clear hrb hx
  generalize w1.alloc (.cells #[.slice A b.length c, .int .i64 0, .bool false] 121) = W2 at *
  have HNR := Lib.hid (Nat.ne_of_lt hnr)
  refine (T1.out _ rb H0.out).mono ?_
  rintro en w2 ⟨rfl, h1, hg1⟩
  replace bn := bn.gb hg1 HNR.out
  have H1 := Lib.hid h1
  clear h1 hg1 H0 T1
  go_wp2_with fail
  refine (T2.out _ rb H1.out).mono ?_
  rintro en w3 ⟨rfl, h2, hg2⟩
  replace bn := bn.gb hg2 HNR.out
  have H2 := Lib.hid h2
  clear h2 hg2 H1 T2
  obtain ⟨SL1, sl1, sl2, hs1⟩ := slice_from_run A b.length c a2 j2
  have HS1 := Lib.hid hs1
  clear hs1
  have x3 := ext_alloc w3 (.cells #[.int .i64 (x1 : Int), .int .i64 (x2 : Int), .int .i64 0, .int .i64 0, .int .i64 0, .int .i64 0, .slice none 0 0] 32)
  have r1 := (H2.out.blk.ext x3).cell (i := 1) rfl
  go_wp2_with fail
  clear sl1 sl2 r1
  have bc := Blk.new w3 #[.int .i64 (x1 : Int), .int .i64 (x2 : Int), .int .i64 0, .int .i64 0, .int .i64 0, .int .i64 0, .slice none 0 0] 32
  have HNC := Lib.hid (Nat.ne_of_lt bn.lt)
  have HRC := Lib.hid (Nat.ne_of_lt H2.out.blk.lt)
  have HWC := Lib.hid (H2.out.ext.size)
  replace bn := bn.ext x3
  have H3 := Lib.hid (H2.out.more x3)
  clear x3 H2
  obtain ⟨cb, hcb⟩ : ∃ n, n = w3.heap.size := ⟨_, rfl⟩
  rw [← hcb] at bc HNC HRC HWC ⊢
  clear hcb
  generalize w3.alloc (.cells #[.int .i64 (x1 : Int), .int .i64 (x2 : Int), .int .i64 0, .int .i64 0, .int .i64 0, .int .i64 0, .slice none 0 0] 32) = W4 at *
  refine (T3.out _ _ (HS1.out _ _ (HB.out.ext H3.out.ext))).mono ?_
  rintro en w4 ⟨rfl, x4⟩
  clear HS1 T3
  replace bn := bn.ext x4
  replace bc := bc.ext x4
  have H4 := Lib.hid (H3.out.more x4)
  clear x4 H3
  have x5' := ext_alloc w4 (.cells #[.int .i64 sn, .int .i64 ss] 27)
  go_wp2_with fail
  have bs := Blk.new w4 #[.int .i64 sn, .int .i64 ss] 27
  have HSR := Lib.hid (Nat.ne_of_gt H4.out.blk.lt)
  have HSC := Lib.hid (Nat.ne_of_gt bc.lt)
  replace bn := bn.ext x5'
  replace bc := bc.ext x5'
  have H5 := Lib.hid (H4.out.more x5')
  clear x5' H4
  obtain ⟨sb, hsb⟩ : ∃ n, n = w4.heap.size := ⟨_, rfl⟩
  rw [← hsb] at bs HSR HSC ⊢
  clear hsb
  generalize w4.alloc (.cells #[.int .i64 sn, .int .i64 ss] 27) = W5 at *
  refine (on_any w _ rb _ a2 b2 k3 e3 H5.out L3.out).mono ?_
  rintro en w5 ⟨⟨ru, rfl⟩, h6, hg6⟩
  rw [← HP3.out, ← HQ3.out] at h6
  replace bn := bn.gb hg6 HNR.out
  replace bc := bc.gb hg6 (fun e => HRC.out e.symm)
  replace bs := bs.gb hg6 HSR.out
  have H6 := Lib.hid h6
  have r1 := h6.blk.cell (i := 1) rfl
  clear h6 hg6 H5
  obtain ⟨SL2, sl1, sl2, hs1⟩ := slice_from_run A b.length c p3 le3
  have HS2 := Lib.hid hs1
  clear hs1
  go_wp2_with fail
  clear sl1 sl2 r1
  refine (T4.out _ _ (HS2.out _ _ (HB.out.ext H6.out.ext))).mono ?_
  rintro en w6 ⟨rfl, x7⟩
  clear HS2 T4
  replace bn := bn.ext x7
  replace bc := bc.ext x7
  replace bs := bs.ext x7
  have H7 := Lib.hid (H6.out.more x7)
  clear x7 H6
  have x8 := ext_alloc w6 (.cells #[.int .i64 va, .int .i64 vb] 29)
  go_wp2_with fail
  have bv := Blk.new w6 #[.int .i64 va, .int .i64 vb] 29
  have HVR := Lib.hid (Nat.ne_of_gt H7.out.blk.lt)
  have HVC := Lib.hid (Nat.ne_of_gt bc.lt)
  replace bn := bn.ext x8
  replace bc := bc.ext x8
  replace bs := bs.ext x8
  have H8 := Lib.hid (H7.out.more x8)
  clear x8 H7
  obtain ⟨vk, hvk⟩ : ∃ n, n = w6.heap.size := ⟨_, rfl⟩
  rw [← hvk] at bv HVR HVC ⊢
  clear hvk
  generalize w6.alloc (.cells #[.int .i64 va, .int .i64 vb] 29) = W7 at *
  refine (on_any w _ rb _ p3 q3 k4 e4 H8.out L4.out).mono ?_
  rintro en w7 ⟨⟨ru2, rfl⟩, h9, hg9⟩
  rw [← HP4.out, ← HQ4.out] at h9
  replace bn := bn.gb hg9 HNR.out
  replace bc := bc.gb hg9 (fun e => HRC.out e.symm)
  replace bs := bs.gb hg9 HSR.out
  replace bv := bv.gb hg9 HVR.out
  have H9 := Lib.hid h9
  clear h9 hg9 H8
  have s0 := bs.cell (i := 0) rfl
  have s1 := bs.cell (i := 1) rfl
  have v0 := bv.cell (i := 0) rfl
  have v1 := bv.cell (i := 1) rfl
  have c2 := bc.cell (i := 2) rfl
  have c3 := bc.cell (i := 3) rfl
  have c4 := bc.cell (i := 4) rfl
  have c5 := bc.cell (i := 5) rfl
  have z2 := bc.thaw 2
  have z3 := bc.thaw 3
  have z4 := bc.thaw 4
  have z5 := bc.thaw 5
  have hne1 : ¬ sb = cb := HSC.out
  have hne2 : ¬ vk = cb := HVC.out
  go_wp2_with fail
  go_region
  clear s0 s1 v0 v1 c2 c3 c4 c5 z2 z3 z4 z5 hne1 hne2
  replace bn := ((((bn.apart (a := ⟨cb, 2, none⟩) (.int .i64 sn) HNC.out).apart (a := ⟨cb, 3, none⟩) (.int .i64 ss) HNC.out).apart (a := ⟨cb, 4, none⟩) (.int .i64 va) HNC.out).apart (a := ⟨cb, 5, none⟩) (.int .i64 vb) HNC.out).drew
  have H10 := Lib.hid (((((H9.out.apart 2 (.int .i64 sn) HRC.out HWC.out).apart 3 (.int .i64 ss) HRC.out HWC.out).apart 4 (.int .i64 va) HRC.out HWC.out).apart 5 (.int .i64 vb) HRC.out HWC.out).more (ext_drew _))
  replace bc := ((((bc.set 2 (.int .i64 sn)).set 3 (.int .i64 ss)).set 4 (.int .i64 va)).set 5 (.int .i64 vb)).drew
  simp only [List.set_cons_zero, List.set_cons_succ] at bc
  clear H9 bs bv HSR HSC HVR HVC
  generalize ((((w7.setCell ⟨cb, 2, none⟩ (.int .i64 sn)).setCell ⟨cb, 3, none⟩ (.int .i64 ss)).setCell ⟨cb, 4, none⟩ (.int .i64 va)).setCell ⟨cb, 5, none⟩ (.int .i64 vb)).drew = W8 at *
  go_wp2_with fail
  refine (T5.out _ rb H10.out).mono ?_
  rintro en w8 ⟨rfl, h11, hg11⟩
  replace bn := bn.gb hg11 HNR.out
  replace bc := bc.gb hg11 (fun e => HRC.out e.symm)
  have hlt1 := bn.lt
  have hlt2 := bc.lt
  have hlt3 := h11.blk.lt
  have HG := Lib.hid (⟨h11, bc, bn, World.ownsRow_nil _ _ _ _, rfl, HRC.out, fun e => HNR.out e.symm, fun e => HNC.out e.symm, hlt3, hlt2, hlt1, HWC.out, Nat.le_of_eq HNB.out.symm, Nat.le_refl _⟩ : GSt w w8 rb cb nb w8.heap.size (.slice A b.length c) [.int .i64 (x1 : Int), .int .i64 (x2 : Int), .int .i64 sn, .int .i64 ss, .int .i64 va, .int .i64 vb] (.slice none 0 0) [] a5 b5)
  clear h11 hg11 bn bc hlt1 hlt2 hlt3 H10 T5
  obtain ⟨i5, k5⟩ := i5
  obtain ⟨base, hbase⟩ : ∃ n, n = w8.heap.size := ⟨_, rfl⟩
  rw [← hbase] at HG
  clear hbase
  obtain ⟨K, hK⟩ : ∃ K, K = min x5 9 := ⟨_, rfl⟩
  have hK9 : K ≤ 9 := by omega
  have HM := Lib.hid (fun (w' : World) (ts : Array TypeId) (t : TypeId) => show (Builtin.min_ ts t #[.int .i64 (x5 : Int), .int .i64 9]).run Tryd.prog w' = .ok (.int .i64 (K : Int)) w' by
    rw [run_min_int2]
    congr 2
    split <;> omega)
  have HK := Lib.hid hK
  clear hK
  go_wp2_with fail
  go_loopw [65] (fun _ wr => ∃ acc vs a bad, GSt w wr rb cb nb base (.slice A b.length c) [.int .i64 (x1 : Int), .int .i64 (x2 : Int), .int .i64 sn, .int .i64 ss, .int .i64 va, .int .i64 vb] vs acc a bad ∧ a ≤ b.length ∧ acc.length ≤ K ∧ (∀ x ∈ acc, x.fits) ∧
    rdAll b (K) (a5, b5) = (acc ++ (rdAll b (K - acc.length) (a, bad)).1, (rdAll b (K - acc.length) (a, bad)).2)) (fun _ wr => writesLeft cb wr)
  case atStart => exact ⟨[], _, a5, b5, HG.out, i5, Nat.zero_le _, by simp, rfl⟩
  case round =>
    obtain ⟨acc, vs, a, bad, hG, ha, hacc, hfit, hall⟩ := hrel
    obtain ⟨Av, cv, rfl⟩ : ∃ Av cv, vs = .slice Av acc.length cv := by
      rcases hG.row.2 with ⟨rfl, hn⟩ | ⟨g, cap, cur, rfl, _⟩
      · exact ⟨none, 0, by rw [hn]⟩
      · exact ⟨_, _, rfl⟩
    have HG1 := Lib.hid hG
    have hmin := HM.out
    have c6 := hG.chg.cell (i := 6) rfl
    have q2 := hG.rdr.blk.cell (i := 2) rfl
    have HFIT := Lib.hid hfit
    have HALL := Lib.hid hall
    clear hG hfit hall
    by_cases hlt : acc.length < K
    · have hlt' : (acc.length : Int) < (K : Int) := by omega
      cases bad
      · obtain ⟨i0, hi0, hz0, hz1, hz2⟩ := info_parts infoWr
        have HI0 := Lib.hid hi0
        have HZ0 := Lib.hid hz0
        have HZ1 := Lib.hid hz1
        have HZ2 := Lib.hid hz2
        clear hi0 hz0 hz1 hz2
        go_wp2_with fail
        clear hmin
        have hin := rdWrite_in b (a, false) ha (by omega)
        refine wp_region_chain [3, 4, 5, 7] (fun k => if k = 1 then 2 else 4) (fun k => if k = 1 then .slice Av acc.length cv else if k = 2 then .pointer (some ⟨rb, 0, none⟩) else .pointer (some ⟨cb, 6, none⟩))
          (GPh w rb cb nb base (.slice A b.length c) [.int .i64 (x1 : Int), .int .i64 (x2 : Int), .int .i64 sn, .int .i64 ss, .int .i64 va, .int .i64 vb] (.slice Av acc.length cv) acc (rdWrite b (a, false)).1 a (rdWrite b (a, false)).2.1 (rdWrite b (a, false)).2.2) (by kernel_rfl) (by kernel_rfl) HG1.out.drew ?_
        refine telec_side (by decide) ?_ ?_
        · rintro ρ vs w' hv hg ⟨h9, -⟩
          have e9 : ρ 9 = .pointer (some ⟨cb, 0, none⟩) := h9
          simp [execOp, evR, e9, go_sem]
        refine telec_side (by decide) ?_ ?_
        · rintro ρ vs w' hv hg ⟨h78, -⟩
          have e78 : ρ 78 = .pointer (some ⟨cb, 6, none⟩) := h78
          have cc := GPh.load hg hv
          simp [execOp, evR, e78, cc, go_sem]
        refine telec_side (by decide) ?_ ?_
        · rintro ρ vs w' hv hg ⟨h8, -⟩
          have e8 : ρ 8 = .pointer (some ⟨rb, 0, none⟩) := h8
          simp [execOp, evR, e8]
        refine telec_chain (by decide) ?_ ?_
        · rintro ρ vs w' hv hg ⟨h80, -⟩
          have e80 : ρ 80 = .pointer (some ⟨rb, 0, none⟩) := h80
          obtain rfl := List.eq_nil_of_length_eq_zero hv
          rw [run_call_func rfl Tryd.func71 (by kernel_rfl)]
          simp only [evR, List.map_toArray, List.map_cons, List.map_nil, e80]
          refine (rdwrite_any w w' rb A c b a false (GSt.rdr hg) HB.out ha (by omega)).mono ?_
          rintro en w9 ⟨rfl, h12, hg12⟩
          exact ⟨_, rfl, rfl, GSt.read hg h12 hg12⟩
        refine telec_chain (by decide) ?_ ?_
        · rintro ρ vs w' hv hg ⟨h81, -⟩
          have e81 : ρ 81 = vs.getD 0 undef := h81
          obtain ⟨v1, rfl⟩ : ∃ v1, vs = [v1] := by match vs, hv with | [v1], _ => exact ⟨v1, rfl⟩
          obtain ⟨rfl, hg⟩ := hg
          replace e81 : ρ 81 = .agg #[strV (rdWrite b (a, false)).1.key, .int .i64 (rdWrite b (a, false)).1.group, .bool (rdWrite b (a, false)).1.gone, strV (rdWrite b (a, false)).1.value] := e81
          have hrun : (execOp (evR ρ) { dst := some 82, op := Op.buildSlice 30 1 #[(0, Operand.tmp 81)], type := 30, pos := "change.go:163", after := #[{ on := 3, ground := Ground.data }], guard := none }).run Tryd.prog w' = .ok (.value (.slice (some ⟨w'.heap.size, 0, none⟩) 1 1)) (w'.alloc (.cells #[strV (rdWrite b (a, false)).1.key, .int .i64 (rdWrite b (a, false)).1.group, .bool (rdWrite b (a, false)).1.gone, strV (rdWrite b (a, false)).1.value] 62)) := by
            simp [execOp, evR, e81, go_sem]
          rw [hrun]
          exact ⟨w', rfl, rfl, hg⟩
        refine telec_chain (by decide) ?_ ?_
        · rintro ρ vs w' hv hg ⟨h79, h82, -⟩
          have e79 : ρ 79 = .slice Av acc.length cv := h79
          have e82 : ρ 82 = vs.getD 1 undef := h82
          obtain ⟨v1, v2, rfl⟩ : ∃ v1 v2, vs = [v1, v2] := by match vs, hv with | [v1, v2], _ => exact ⟨v1, v2, rfl⟩
          obtain ⟨W9, rfl, rfl, hg⟩ := hg
          replace e82 : ρ 82 = .slice (some ⟨W9.heap.size, 0, none⟩) 1 1 := e82
          have hacc9 : acc.length < 9 := by omega
          obtain ⟨v', w10, hrun, hown, hgrow, _, _⟩ := run_append_own_at (P := Tryd.prog) (W9.alloc (.cells #[strV (rdWrite b (a, false)).1.key, .int .i64 (rdWrite b (a, false)).1.group, .bool (rdWrite b (a, false)).1.gone, strV (rdWrite b (a, false)).1.value] 62)) base 30 30 62 i0 _ 4 48 Tryd.underlying30 HI0.out HZ0.out HZ1.out HZ2.out rfl (by decide) _ acc.length (wcells acc) (hg.row.alloc _) ⟨W9.heap.size, 0, none⟩ 1 1 [strV (rdWrite b (a, false)).1.key, .int .i64 (rdWrite b (a, false)).1.group, .bool (rdWrite b (a, false)).1.gone, strV (rdWrite b (a, false)).1.value] rfl (four_new _ _ _ _ _ _) (four_one _ _ _ _) (by unfold maxLen; omega) (by omega) (by have := hg.hb; simp; omega)
          obtain ⟨hbk, hg3⟩ := GSt.more hg hown rfl rfl hgrow
          rw [exec_append rfl e79 e82, hrun]
          exact ⟨hbk, hg3⟩
        refine telec_side (by decide) ?_ ?_
        · rintro ρ vs w' hv hg ⟨h9, -⟩
          have e9 : ρ 9 = .pointer (some ⟨cb, 0, none⟩) := h9
          simp [execOp, evR, e9, go_sem]
        refine telec_chain (by decide) ?_ ?_
        · rintro ρ vs w' hv hg ⟨h84, h83, -⟩
          have e84 : ρ 84 = .pointer (some ⟨cb, 6, none⟩) := h84
          have e83 : ρ 83 = vs.getD 2 undef := h83
          obtain ⟨v1, v2, v3, rfl⟩ : ∃ v1 v2 v3, vs = [v1, v2, v3] := by match vs, hv with | [v1, v2, v3], _ => exact ⟨v1, v2, v3, rfl⟩
          obtain ⟨hbk, hg⟩ := hg
          replace e83 : ρ 83 = v3 := e83
          obtain ⟨A3, n3, k3', rfl⟩ : ∃ A3 n3 k3', v3 = .slice A3 n3 k3' := by
            rcases hg.row.2 with ⟨rfl, _⟩ | ⟨g, cap, cur, rfl, _⟩
            · exact ⟨_, _, _, rfl⟩
            · exact ⟨_, _, _, rfl⟩
          have d6 := hbk.cell (i := 6) rfl
          have dz6 := hbk.thaw 6
          have hrun : (execOp (evR ρ) { dst := none, op := Op.store 30 (Operand.tmp 84) (Operand.tmp 83), type := 0, pos := "change.go:163", after := #[{ on := 6, ground := Ground.data }, { on := 5, ground := Ground.data }, { on := 5, ground := Ground.chain }, { on := 0, ground := Ground.phase }, { on := 1, ground := Ground.phase }, { on := 2, ground := Ground.phase }, { on := 3, ground := Ground.phase }, { on := 4, ground := Ground.phase }, { on := 5, ground := Ground.phase }], guard := none }).run Tryd.prog w' = .ok .skip (w'.setCell ⟨cb, 6, none⟩ (.slice A3 n3 k3')) := by
            simp [execOp, evR, e84, e83, d6, dz6, go_sem]
          rw [hrun]
          exact ⟨_, hg⟩
        refine telec_nil ?_
        rintro ρ vs w' hv hg -
        obtain ⟨v1, v2, v3, v4, rfl⟩ : ∃ v1 v2 v3 v4, vs = [v1, v2, v3, v4] := by match vs, hv with | [v1, v2, v3, v4], _ => exact ⟨v1, v2, v3, v4, rfl⟩
        obtain ⟨vs', hg⟩ := hg
        simp only [puts, Act.put, List.setIfInBounds_toArray, List.set_cons_zero, List.set_cons_succ]
        go_wp2_with fail
        go_roundw
        case rel => exact ⟨acc ++ [(rdWrite b (a, false)).1], vs', _, _, hg, hin.1, by simp; omega, fun x hx => by
          rcases List.mem_append.1 hx with hx | hx
          · exact HFIT.out x hx
          · rw [List.mem_singleton.1 hx]; exact hin.2, by
          rw [HALL.out, show K - acc.length = (K - (acc ++ [(rdWrite b (a, false)).1]).length) + 1 by simp; omega, rdAll_step _ _ _ rfl]
          simp⟩
        case measure => rw [GSt.left hg, GSt.left HG1.out]; simp; omega
      · have HCH := Lib.hid (show rdChange b = (⟨x1, x2, sn, ss, va, vb, acc⟩, a, true) by unfold rdChange; rw [HHD.out]; dsimp only; rw [← HK.out, HALL.out, rdAll_bad _ _ _ rfl, List.append_nil])
        have q2 := HG1.out.rdr.blk.cell (i := 2) rfl
        have HR := Lib.hid (show cgetP gs b = (Ch.nought, 0, 120) by unfold cgetP; rw [if_neg (by rw [HP.out]; simp), HCH.out, if_pos (by rfl)])
        have bn := HG1.out.res
        have f0 := bn.cell (i := 0) rfl
        have fz0 := bn.thaw 0
        have f1 := bn.cell (i := 1) rfl
        have fz1 := bn.thaw 1
        have f2 := bn.cell (i := 2) rfl
        have fz2 := bn.thaw 2
        have f3 := bn.cell (i := 3) rfl
        have fz3 := bn.thaw 3
        have f4 := bn.cell (i := 4) rfl
        have fz4 := bn.thaw 4
        have f5 := bn.cell (i := 5) rfl
        have fz5 := bn.thaw 5
        have f6 := bn.cell (i := 6) rfl
        have fz6 := bn.thaw 6
        go_wp2_with fail
        have bf := set7_blk bn (.int .i64 0) (.int .i64 0) (.int .i64 0) (.int .i64 0) (.int .i64 0) (.int .i64 0) (.slice none 0 0)
        have d0 := bf.cell (i := 0) rfl
        have d1 := bf.cell (i := 1) rfl
        have d2 := bf.cell (i := 2) rfl
        have d3 := bf.cell (i := 3) rfl
        have d4 := bf.cell (i := 4) rfl
        have d5 := bf.cell (i := 5) rfl
        have d6 := bf.cell (i := 6) rfl
        have xf := set7_ext HG1.out.rdr.ext HG1.out.on (.int .i64 0) (.int .i64 0) (.int .i64 0) (.int .i64 0) (.int .i64 0) (.int .i64 0) (.slice none 0 0)
        unfold set7 at d0 d1 d2 d3 d4 d5 d6 xf
        exact bodyPost_ret (v := .tuple #[.agg #[.int .i64 0, .int .i64 0, .int .i64 0, .int .i64 0, .int .i64 0, .int .i64 0, .slice none 0 0], .int .i64 0, .int .i64 120]) (by simp [results, Tryd.results36, d0, d1, d2, d3, d4, d5, d6, go_sem]) rfl ⟨.slice none 0 0, by rw [HR.out]; rfl, by rw [HR.out]; exact WsO.nil_ _, xf⟩
    · have hge : ¬ (acc.length : Int) < (K : Int) := by omega
      have hKl : K - acc.length = 0 := by omega
      cases bad
      · have HCH := Lib.hid (show rdChange b = (⟨x1, x2, sn, ss, va, vb, acc⟩, a, false) by unfold rdChange; rw [HHD.out]; dsimp only; rw [← HK.out, HALL.out, hKl, rdAll, List.append_nil])
        have cc := HG1.out.chg
        have e0 := cc.cell (i := 0) rfl
        have e1 := cc.cell (i := 1) rfl
        have e2 := cc.cell (i := 2) rfl
        have e3 := cc.cell (i := 3) rfl
        have e4 := cc.cell (i := 4) rfl
        have e5 := cc.cell (i := 5) rfl
        clear hKl
        go_wp2_with fail
        refine (chGood_any vl gs x1 x2 sn ss va vb _ acc _ (HLG.out.ext HG1.out.rdr.ext) (ws_of_row HG1.out.row HFIT.out)).mono ?_
        rintro en w9 ⟨rfl, x9⟩
        clear e0 e1 e2 e3 e4 e5 cc c6 q2
        have HX9 := Lib.hid x9
        have bn := HG1.out.res.ext x9
        have xx := Lib.hid (HG1.out.rdr.ext.trans x9)
        clear x9
        cases hcg : (cgood gs ⟨x1, x2, sn, ss, va, vb, acc⟩ == 0)
        · have HR := Lib.hid (show cgetP gs b = (Ch.nought, 0, 120) by unfold cgetP; rw [if_neg (by rw [HP.out]; simp), HCH.out, if_pos (by rw [hcg]; rfl)])
          have hb0 : (((cgood gs ⟨x1, x2, sn, ss, va, vb, acc⟩ : Nat) : Int) != 0) = true := by
            rw [bne_iff_ne]
            have := beq_eq_false_iff_ne.1 hcg
            omega
          clear hcg
          have f0 := bn.cell (i := 0) rfl
          have fz0 := bn.thaw 0
          have f1 := bn.cell (i := 1) rfl
          have fz1 := bn.thaw 1
          have f2 := bn.cell (i := 2) rfl
          have fz2 := bn.thaw 2
          have f3 := bn.cell (i := 3) rfl
          have fz3 := bn.thaw 3
          have f4 := bn.cell (i := 4) rfl
          have fz4 := bn.thaw 4
          have f5 := bn.cell (i := 5) rfl
          have fz5 := bn.thaw 5
          have f6 := bn.cell (i := 6) rfl
          have fz6 := bn.thaw 6
          go_wp2_with fail
          have bf := set7_blk bn (.int .i64 0) (.int .i64 0) (.int .i64 0) (.int .i64 0) (.int .i64 0) (.int .i64 0) (.slice none 0 0)
          have d0 := bf.cell (i := 0) rfl
          have d1 := bf.cell (i := 1) rfl
          have d2 := bf.cell (i := 2) rfl
          have d3 := bf.cell (i := 3) rfl
          have d4 := bf.cell (i := 4) rfl
          have d5 := bf.cell (i := 5) rfl
          have d6 := bf.cell (i := 6) rfl
          have xf := set7_ext xx.out HG1.out.on (.int .i64 0) (.int .i64 0) (.int .i64 0) (.int .i64 0) (.int .i64 0) (.int .i64 0) (.slice none 0 0)
          unfold set7 at d0 d1 d2 d3 d4 d5 d6 xf
          exact bodyPost_ret (v := .tuple #[.agg #[.int .i64 0, .int .i64 0, .int .i64 0, .int .i64 0, .int .i64 0, .int .i64 0, .slice none 0 0], .int .i64 0, .int .i64 120]) (by simp [results, Tryd.results36, d0, d1, d2, d3, d4, d5, d6, go_sem]) rfl ⟨.slice none 0 0, by rw [HR.out]; rfl, by rw [HR.out]; exact WsO.nil_ _, xf⟩
        · have hcg0 : cgood gs ⟨x1, x2, sn, ss, va, vb, acc⟩ = 0 := by simpa using hcg
          have HR := Lib.hid (show cgetP gs b = (⟨x1, x2, sn, ss, va, vb, acc⟩, a, 0) by unfold cgetP; rw [if_neg (by rw [HP.out]; simp), HCH.out, if_neg (by rw [hcg]; simp)])
          rw [hcg0]
          clear hcg hcg0
          have cc := HG1.out.chg.ext HX9.out
          have cr := HG1.out.rdr.blk.ext HX9.out
          have e0 := cc.cell (i := 0) rfl
          have e1 := cc.cell (i := 1) rfl
          have e2 := cc.cell (i := 2) rfl
          have e3 := cc.cell (i := 3) rfl
          have e4 := cc.cell (i := 4) rfl
          have e5 := cc.cell (i := 5) rfl
          have e6 := cc.cell (i := 6) rfl
          have r1 := cr.cell (i := 1) rfl
          have nn1 : ¬ rb = nb := HG1.out.nrn
          have nn2 : ¬ cb = nb := HG1.out.ncn
          have f0 := bn.cell (i := 0) rfl
          have fz0 := bn.thaw 0
          have f1 := bn.cell (i := 1) rfl
          have fz1 := bn.thaw 1
          have f2 := bn.cell (i := 2) rfl
          have fz2 := bn.thaw 2
          have f3 := bn.cell (i := 3) rfl
          have fz3 := bn.thaw 3
          have f4 := bn.cell (i := 4) rfl
          have fz4 := bn.thaw 4
          have f5 := bn.cell (i := 5) rfl
          have fz5 := bn.thaw 5
          have f6 := bn.cell (i := 6) rfl
          have fz6 := bn.thaw 6
          go_wp2_with fail
          go_region
          have bf := (set7_blk bn (.int .i64 (x1 : Int)) (.int .i64 (x2 : Int)) (.int .i64 sn) (.int .i64 ss) (.int .i64 va) (.int .i64 vb) (.slice Av acc.length cv)).drew
          have d0 := bf.cell (i := 0) rfl
          have d1 := bf.cell (i := 1) rfl
          have d2 := bf.cell (i := 2) rfl
          have d3 := bf.cell (i := 3) rfl
          have d4 := bf.cell (i := 4) rfl
          have d5 := bf.cell (i := 5) rfl
          have d6 := bf.cell (i := 6) rfl
          have xf := (set7_ext xx.out HG1.out.on (.int .i64 (x1 : Int)) (.int .i64 (x2 : Int)) (.int .i64 sn) (.int .i64 ss) (.int .i64 va) (.int .i64 vb) (.slice Av acc.length cv)).trans (ext_drew _)
          have hws : WsO _ (.slice Av acc.length cv) acc := ⟨row_zero ((HG1.out.row.kept (gb_trans (gb_ext HX9.out (some nb)) (set7_gb w9 nb (.int .i64 (x1 : Int)) (.int .i64 (x2 : Int)) (.int .i64 sn) (.int .i64 ss) (.int .i64 va) (.int .i64 vb) (.slice Av acc.length cv))) (by
            rcases hv : (Value.slice Av acc.length cv).ownBlock with _ | jj
            · exact .inl rfl
            · refine .inr fun e => ?_
              injection e with e
              have := (World.ownsRow.lt HG1.out.row jj hv).1
              have := HG1.out.ln
              omega)).drew), HFIT.out⟩
          unfold set7 at d0 d1 d2 d3 d4 d5 d6 xf hws
          have HWS := Lib.hid hws
          clear hws
          go_wp2_with fail
          exact bodyPost_ret (v := .tuple #[.agg #[.int .i64 (x1 : Int), .int .i64 (x2 : Int), .int .i64 sn, .int .i64 ss, .int .i64 va, .int .i64 vb, .slice Av acc.length cv], .int .i64 (a : Int), .int .i64 0]) (by simp [results, Tryd.results36, d0, d1, d2, d3, d4, d5, d6, go_sem]) rfl ⟨.slice Av acc.length cv, by rw [HR.out]; rfl, by rw [HR.out]; exact HWS.out, xf⟩
      · have HCH := Lib.hid (show rdChange b = (⟨x1, x2, sn, ss, va, vb, acc⟩, a, true) by unfold rdChange; rw [HHD.out]; dsimp only; rw [← HK.out, HALL.out, hKl, rdAll, List.append_nil])
        clear hKl
        have q2 := HG1.out.rdr.blk.cell (i := 2) rfl
        have HR := Lib.hid (show cgetP gs b = (Ch.nought, 0, 120) by unfold cgetP; rw [if_neg (by rw [HP.out]; simp), HCH.out, if_pos (by rfl)])
        have bn := HG1.out.res
        have f0 := bn.cell (i := 0) rfl
        have fz0 := bn.thaw 0
        have f1 := bn.cell (i := 1) rfl
        have fz1 := bn.thaw 1
        have f2 := bn.cell (i := 2) rfl
        have fz2 := bn.thaw 2
        have f3 := bn.cell (i := 3) rfl
        have fz3 := bn.thaw 3
        have f4 := bn.cell (i := 4) rfl
        have fz4 := bn.thaw 4
        have f5 := bn.cell (i := 5) rfl
        have fz5 := bn.thaw 5
        have f6 := bn.cell (i := 6) rfl
        have fz6 := bn.thaw 6
        go_wp2_with fail
        have bf := set7_blk bn (.int .i64 0) (.int .i64 0) (.int .i64 0) (.int .i64 0) (.int .i64 0) (.int .i64 0) (.slice none 0 0)
        have d0 := bf.cell (i := 0) rfl
        have d1 := bf.cell (i := 1) rfl
        have d2 := bf.cell (i := 2) rfl
        have d3 := bf.cell (i := 3) rfl
        have d4 := bf.cell (i := 4) rfl
        have d5 := bf.cell (i := 5) rfl
        have d6 := bf.cell (i := 6) rfl
        have xf := set7_ext HG1.out.rdr.ext HG1.out.on (.int .i64 0) (.int .i64 0) (.int .i64 0) (.int .i64 0) (.int .i64 0) (.int .i64 0) (.slice none 0 0)
        unfold set7 at d0 d1 d2 d3 d4 d5 d6 xf
        exact bodyPost_ret (v := .tuple #[.agg #[.int .i64 0, .int .i64 0, .int .i64 0, .int .i64 0, .int .i64 0, .int .i64 0, .slice none 0 0], .int .i64 0, .int .i64 120]) (by simp [results, Tryd.results36, d0, d1, d2, d3, d4, d5, d6, go_sem]) rfl ⟨.slice none 0 0, by rw [HR.out]; rfl, by rw [HR.out]; exact WsO.nil_ _, xf⟩
end Go.Proofs.YtacabcpjaadijaaDoor

/-
  Layer 12 in plain Lean: what is put is read, and what is read is put as it was.
-/
namespace Go.Proofs.YtacabcpjaadijaaDoor
open Go Go.RowKit Mono Num
set_option linter.unusedVariables false
set_option linter.unusedSimpArgs false

/-! ### What is put is read -/
theorem ntextM_put (most : Int) (n t : List UInt8) (h : (n.length : Int) ≤ most) (h2 : n.length ≤ 4611686018427387903) : ntext (nputText n ++ t) most = (n, (nputText n).length, 0) := by
  have e : nget (nputText n ++ t) = (n.length, nsize (n.length : Int), 0) := by
    unfold nputText
    rw [List.append_assoc]
    exact nget_nput n.length _ (by omega)
  have hl : (nputText n).length = nsize (n.length : Int) + n.length := by unfold nputText; rw [List.length_append, nput_length]
  unfold ntext
  rw [e]
  dsimp only
  rw [if_pos rfl, if_neg (by omega), if_neg (by rw [List.length_append, hl]; omega), hl]
  congr 1
  unfold nputText
  rw [List.append_assoc, List.drop_append_of_le_length (by rw [nput_length]; exact Nat.le_refl _), List.drop_eq_nil_of_le (by rw [nput_length]; exact Nat.le_refl _), List.nil_append, List.take_left']
  rfl
theorem code_nat {a b : Int} (h : sgood a b = true) : ∃ m : Nat, scode a b = (m : Int) ∧ m ≤ 4611686018427387903 ∧ ∀ tail, sget (nput (m : Int) ++ tail) = ((a, b), (nput (m : Int)).length, 0) := by
  rcases sgood_iff.1 h with ⟨rfl, rfl⟩ | ⟨h1, h2, h3⟩
  · refine ⟨0, scode_zero, by decide, fun tail => ?_⟩
    unfold sget
    rw [nget_nput 0 tail (by decide), nput_length]
    rfl
  · refine ⟨(2 * a + b - 1).toNat, by rw [scode_good ⟨h1, h2, h3⟩]; omega, by omega, fun tail => ?_⟩
    unfold sget
    rw [nget_nput _ tail (by omega), nput_length]
    have e1 : (((2 * a + b - 1).toNat : Nat) : Int) / 2 = a := by omega
    have e2 : (((2 * a + b - 1).toNat : Nat) : Int) % 2 + 1 = b := by omega
    simp only [ne_eq, not_true_eq_false, if_false]
    rw [if_neg (by omega), e1, e2, if_pos h]
theorem drop_step {b p r : List UInt8} {a : Nat} (h : b.drop a = p ++ r) : b.drop (a + p.length) = r := by
  rw [← List.drop_drop, h, List.drop_left']
  rfl
theorem rdNum_put {b r : List UInt8} {a n : Nat} (h : b.drop a = nput (n : Int) ++ r) (hn : n ≤ 4611686018427387903) : rdNum b (a, false) = (n, a + (nput (n : Int)).length, false) := by
  unfold rdNum
  dsimp only
  rw [h, nget_nput n r hn, nput_length]
  rfl
theorem rdText_put {b r s : List UInt8} {a : Nat} {most : Int} (h : b.drop a = nputText s ++ r) (hm : (s.length : Int) ≤ most) (hs : s.length ≤ 4611686018427387903) : rdText b most (a, false) = (s, a + (nputText s).length, false) := by
  unfold rdText
  dsimp only
  rw [h, ntextM_put most s r hm hs]
  rfl
theorem rdWrite_put {b r : List UInt8} {a : Nat} {x : Wr} {n : Nat} (h : b.drop a = wput x ++ r) (hx : wok n x = true) (hn : n ≤ 100000) : rdWrite b (a, false) = (x, a + (wput x).length, false) := by
  obtain ⟨k, g, d, z⟩ := x
  have hw := wok_spec hx
  dsimp only at hw
  obtain ⟨g', rfl⟩ : ∃ m : Nat, g = m := ⟨g.toNat, by omega⟩
  have hgone : d = true → z = [] := by
    unfold wok at hx
    intro hd
    simp only [Bool.and_eq_true, Bool.not_eq_true', Bool.and_eq_false_iff] at hx
    rcases hx.2 with h1 | h1
    · rw [hd] at h1; cases h1
    · simpa using h1
  unfold wput at h ⊢
  dsimp only at h ⊢
  rw [List.append_assoc, List.append_assoc] at h
  have h1 := rdText_put h (most := 32) (by omega) (by omega)
  have d1 := drop_step h
  have h2 := rdNum_put d1 (by omega)
  have d2 := drop_step d1
  unfold rdWrite
  simp only [h1, h2]
  cases d
  · rw [if_neg (by simp), List.append_assoc] at d2
    have h3 := rdNum_put (n := 0) d2 (by omega)
    have d3 := drop_step d2
    have h4 := rdText_put d3 (most := 64) (by omega) (by omega)
    rw [show ((0 : Nat) : Int) = 0 from rfl] at h3
    simp only [h3, h4, if_true]
    simp only [List.length_append, Bool.false_eq_true, if_false, Nat.add_assoc]
  · obtain rfl := hgone rfl
    rw [if_pos rfl] at d2
    have h3 := rdNum_put (n := 1) d2 (by omega)
    rw [show ((1 : Nat) : Int) = 1 from rfl] at h3
    simp only [h3]
    rw [if_neg (by decide)]
    simp only [List.length_append, if_true, Nat.add_assoc]
theorem rdAll_put (n : Nat) (hn : n ≤ 100000) : ∀ (ws : List Wr) (b r : List UInt8) (a : Nat), b.drop a = wputs ws ++ r → (∀ x ∈ ws, wok n x = true) → rdAll b ws.length (a, false) = (ws, a + (wputs ws).length, false)
  | [], b, r, a, _, _ => by simp [rdAll, wputs]
  | x :: ws, b, r, a, h, hw => by
    have e : wputs (x :: ws) = wput x ++ wputs ws := by unfold wputs; simp
    rw [e, List.append_assoc] at h
    have h1 := rdWrite_put h (hw x (by simp)) hn
    have h2 := rdAll_put n hn ws b r _ (drop_step h) fun y hy => hw y (by simp [hy])
    rw [List.length_cons, rdAll_step _ _ _ rfl, h1]
    dsimp only
    rw [h2, e, List.length_append, Nat.add_assoc]
theorem chead_spec {c : Ch} (h : chead c = true) : (c.site = 1 ∨ c.site = 2) ∧ 1 ≤ c.seq ∧ c.seq ≤ 1099511627776 ∧ sgood c.sn c.ss = true ∧ vgood c.va c.vb = true := by
  unfold chead at h
  simp only [Bool.and_eq_true, Bool.or_eq_true, beq_iff_eq, decide_eq_true_eq] at h
  exact ⟨h.1.1.1.1.1.1, h.1.1.1.1.1.2, h.1.1.1.1.2, h.1.1.2, h.1.2⟩
theorem cgood_parts {gs : List Grp} {c : Ch} (h : cgood gs c = 0) : pgood gs = 0 ∧ chead c = true ∧ 1 ≤ c.writes.length ∧ c.writes.length ≤ 8 ∧ ∀ x ∈ c.writes, wok gs.length x = true := by
  unfold cgood at h
  by_cases hp : pgood gs = 0
  · rw [if_neg (by omega)] at h
    cases hc : chead c
    · rw [if_pos hc] at h; cases h
    · rw [if_neg (by simp [hc])] at h
      by_cases hn : c.writes.length < 1 ∨ 8 < c.writes.length
      · rw [if_pos hn] at h; cases h
      · rw [if_neg hn] at h
        cases hf : cgoodF gs.length none c.writes
        · rw [if_neg (by simp [hf])] at h; cases h
        · exact ⟨hp, rfl, by omega, by omega, cgoodF_all _ _ _ hf⟩
  · rw [if_pos hp] at h
    exact absurd h hp
theorem pgood_len {gs : List Grp} (h : pgood gs = 0) : gs.length ≤ 4 := by
  unfold pgood at h
  by_cases h0 : gs.length = 0
  · omega
  · rw [if_neg h0] at h
    by_cases h4 : 4 < gs.length
    · rw [if_pos h4] at h; cases h
    · omega
theorem cput_len (gs : List Grp) (c : Ch) : (cput gs c).length ≤ 2000 := by
  unfold cput
  split
  · rename_i h
    obtain ⟨_, _, _, hn8, hw⟩ := cgood_parts h
    have h1 := nsize_le c.site
    have h2 := nsize_le c.seq
    have h3 := nsize_le (scode c.sn c.ss)
    have h4 := vput_len c.va c.vb
    have h5 := nsize_le (c.writes.length : Int)
    have h6 := wputs_len c.writes fun x hx => ⟨(wok_spec (hw x hx)).1, (wok_spec (hw x hx)).2.2.2⟩
    simp only [List.length_append, nput_length]
    omega
  · simp
/-- **What is put is read.** -/
theorem cget_cput (gs : List Grp) (c : Ch) (t : List UInt8) (h : cgood gs c = 0) : cgetP gs (cput gs c ++ t) = (c, (cput gs c).length, 0) := by
  obtain ⟨hp, hh, hn1, hn8, hw⟩ := cgood_parts h
  obtain ⟨hs, hq1, hq2, hsg, hvg⟩ := chead_spec hh
  obtain ⟨m, hm, hm1, hback⟩ := code_nat hsg
  have hput : cput gs c = nput c.site ++ nput c.seq ++ nput (scode c.sn c.ss) ++ vput c.va c.vb ++ nput (c.writes.length : Int) ++ wputs c.writes := by unfold cput; rw [if_pos h]
  have hgl := pgood_len hp
  obtain ⟨site, seq, sn, ss, va, vb, ws⟩ := c
  dsimp only at *
  obtain ⟨s', rfl⟩ : ∃ k : Nat, site = k := ⟨site.toNat, by omega⟩
  obtain ⟨q', rfl⟩ : ∃ k : Nat, seq = k := ⟨seq.toNat, by omega⟩
  rw [hm] at hput
  generalize hB : cput gs ⟨(s' : Int), (q' : Int), sn, ss, va, vb, ws⟩ ++ t = B
  have d0 : B.drop 0 = nput (s' : Int) ++ (nput (q' : Int) ++ (nput (m : Int) ++ (vput va vb ++ (nput (ws.length : Int) ++ (wputs ws ++ t))))) := by
    rw [List.drop_zero, ← hB, hput]; simp only [List.append_assoc]
  have h1 := rdNum_put d0 (by omega)
  have d1 := drop_step d0
  have h2 := rdNum_put d1 (by omega)
  have d2 := drop_step d1
  have h3 : rdStamp B (0 + (nput (s' : Int)).length + (nput (q' : Int)).length, false) = ((sn, ss), 0 + (nput (s' : Int)).length + (nput (q' : Int)).length + (nput (m : Int)).length, false) := by
    unfold rdStamp
    dsimp only
    rw [d2, hback]
    rfl
  have d3 := drop_step d2
  have h4 : rdVec B (0 + (nput (s' : Int)).length + (nput (q' : Int)).length + (nput (m : Int)).length, false) = ((va, vb), 0 + (nput (s' : Int)).length + (nput (q' : Int)).length + (nput (m : Int)).length + (vput va vb).length, false) := by
    unfold rdVec
    dsimp only
    rw [d3, vget_vput va vb _ hvg]
    rfl
  have d4 := drop_step d3
  have h5 := rdNum_put d4 (by omega)
  have d5 := drop_step d4
  have h6 := rdAll_put gs.length (by omega) ws B t _ d5 hw
  have hr : rdChange B = (⟨(s' : Int), (q' : Int), sn, ss, va, vb, ws⟩, (cput gs ⟨(s' : Int), (q' : Int), sn, ss, va, vb, ws⟩).length, false) := by
    unfold rdChange rdHead
    simp only [h1, h2, h3, h4, h5]
    rw [show min ws.length 9 = ws.length by omega, h6]
    dsimp only
    rw [hput]
    simp only [List.length_append, Nat.zero_add]
  unfold cgetP
  rw [if_neg (by omega), hr, if_neg (by rw [h]; simp)]

/-! ### What is read is put as it was -/
theorem ntextM_form {l : List UInt8} {most : Int} (h : (ntext l most).2.2 = 0) : (ntext l most).2.1 ≤ l.length ∧ nputText (ntext l most).1 = l.take (ntext l most).2.1 := by
  unfold ntext at h ⊢
  split at h
  · rename_i h0
    rw [if_pos h0]
    split at h
    · simp at h
    · rename_i h1
      rw [if_neg h1]
      split at h
      · simp at h
      · rename_i h2
        rw [if_neg h2]
        have hb := nget_form_back l (nget l).1 (nget l).2.1 (by rw [← h0])
        obtain ⟨b1, b2, b3, b4⟩ := hb
        generalize (nget l).1 = n at *
        generalize (nget l).2.1 = k at *
        dsimp only
        have hl : ((l.drop k).take n).length = n := by rw [List.length_take, List.length_drop]; omega
        refine ⟨by omega, ?_⟩
        unfold nputText
        rw [hl, b4, List.take_add]
  · rename_i h0
    exact absurd h h0
theorem sget_form {l : List UInt8} (h : (sget l).2.2 = 0) : (sget l).2.1 ≤ l.length ∧ nput (scode (sget l).1.1 (sget l).1.2) = l.take (sget l).2.1 := by
  unfold sget at h ⊢
  by_cases h0 : (nget l).2.2 = 0
  · have hb := nget_form_back l (nget l).1 (nget l).2.1 (by rw [← h0])
    obtain ⟨b1, b2, b3, b4⟩ := hb
    simp only [h0, ne_eq, not_true_eq_false, if_false] at h ⊢
    by_cases hz : (nget l).1 = 0
    · rw [if_pos hz]
      rw [hz] at b4
      exact ⟨b2, by dsimp only; rw [scode_zero]; exact b4⟩
    · rw [if_neg hz] at h ⊢
      by_cases hs : sgood (((nget l).1 : Int) / 2) (((nget l).1 : Int) % 2 + 1) = true
      · rw [if_pos hs]
        refine ⟨b2, ?_⟩
        dsimp only
        have hc : scode (((nget l).1 : Int) / 2) (((nget l).1 : Int) % 2 + 1) = ((nget l).1 : Int) := by
          rcases sgood_iff.1 hs with ⟨_, h2⟩ | h2
          · omega
          · rw [scode_good h2]; omega
        rw [hc]
        exact b4
      · rw [if_neg hs] at h
        simp at h
  · simp only [h0, ne_eq, not_false_eq_true, if_true] at h
theorem vget_form {l : List UInt8} (h : (vget l).2.2 = 0) : (vget l).2.1 ≤ l.length ∧ vput (vget l).1.1 (vget l).1.2 = l.take (vget l).2.1 := by
  unfold vget at h ⊢
  by_cases h0 : (nget l).2.2 = 0
  · rw [if_pos h0] at h ⊢
    obtain ⟨b1, b2, b3, b4⟩ := nget_form_back l (nget l).1 (nget l).2.1 (by rw [← h0])
    unfold vget2 at h ⊢
    by_cases h1 : (nget (l.drop (nget l).2.1)).2.2 = 0
    · rw [if_pos h1] at h ⊢
      obtain ⟨c1, c2, c3, c4⟩ := nget_form_back _ (nget (l.drop (nget l).2.1)).1 (nget (l.drop (nget l).2.1)).2.1 (by rw [← h1])
      rw [List.length_drop] at c2
      by_cases hv : vgood ((nget l).1 : Int) ((nget (l.drop (nget l).2.1)).1 : Int) = true
      · rw [if_pos hv]
        refine ⟨by dsimp only; omega, ?_⟩
        dsimp only
        unfold vput
        rw [if_pos hv, b4, c4, List.take_add]
      · rw [if_neg hv] at h
        simp at h
    · rw [if_neg h1] at h
      exact absurd h h1
  · rw [if_neg h0] at h
    exact absurd h h0
theorem bad_or {p q : Bool} (h : (p || q) = false) : p = false ∧ q = false := by cases p <;> cases q <;> simp_all
theorem beq_zero {n : Nat} (h : (!(n == 0)) = false) : n = 0 := by simpa using h
theorem take_more (b : List UInt8) (a k : Nat) : b.take (a + k) = b.take a ++ (b.drop a).take k := List.take_add
theorem rdNum_form {b : List UInt8} {s : Nat × Bool} (hs : s.1 ≤ b.length) (h : (rdNum b s).2.2 = false) : s.2 = false ∧ (rdNum b s).2.1 ≤ b.length ∧ b.take (rdNum b s).2.1 = b.take s.1 ++ nput ((rdNum b s).1 : Int) := by
  unfold rdNum at h ⊢
  dsimp only at h ⊢
  obtain ⟨h1, h2⟩ := bad_or h
  have h3 := beq_zero h2
  obtain ⟨_, c2, _, c4⟩ := nget_form_back _ (nget (b.drop s.1)).1 (nget (b.drop s.1)).2.1 (by rw [← h3])
  rw [List.length_drop] at c2
  exact ⟨h1, by omega, by rw [take_more, c4]⟩
theorem rdText_form {b : List UInt8} {most : Int} {s : Nat × Bool} (hs : s.1 ≤ b.length) (h : (rdText b most s).2.2 = false) : s.2 = false ∧ (rdText b most s).2.1 ≤ b.length ∧ b.take (rdText b most s).2.1 = b.take s.1 ++ nputText (rdText b most s).1 := by
  unfold rdText at h ⊢
  dsimp only at h ⊢
  obtain ⟨h1, h2⟩ := bad_or h
  obtain ⟨c2, c4⟩ := ntextM_form (beq_zero h2)
  rw [List.length_drop] at c2
  exact ⟨h1, by omega, by rw [take_more, c4]⟩
theorem rdStamp_form {b : List UInt8} {s : Nat × Bool} (hs : s.1 ≤ b.length) (h : (rdStamp b s).2.2 = false) : s.2 = false ∧ (rdStamp b s).2.1 ≤ b.length ∧ b.take (rdStamp b s).2.1 = b.take s.1 ++ nput (scode (rdStamp b s).1.1 (rdStamp b s).1.2) := by
  unfold rdStamp at h ⊢
  dsimp only at h ⊢
  obtain ⟨h1, h2⟩ := bad_or h
  obtain ⟨c2, c4⟩ := sget_form (beq_zero h2)
  rw [List.length_drop] at c2
  exact ⟨h1, by omega, by rw [take_more, c4]⟩
theorem rdVec_form {b : List UInt8} {s : Nat × Bool} (hs : s.1 ≤ b.length) (h : (rdVec b s).2.2 = false) : s.2 = false ∧ (rdVec b s).2.1 ≤ b.length ∧ b.take (rdVec b s).2.1 = b.take s.1 ++ vput (rdVec b s).1.1 (rdVec b s).1.2 := by
  unfold rdVec at h ⊢
  dsimp only at h ⊢
  obtain ⟨h1, h2⟩ := bad_or h
  obtain ⟨c2, c4⟩ := vget_form (beq_zero h2)
  rw [List.length_drop] at c2
  exact ⟨h1, by omega, by rw [take_more, c4]⟩
theorem rdWrite_form {b : List UInt8} {s : Nat × Bool} (hs : s.1 ≤ b.length) (h : (rdWrite b s).2.2 = false) : s.2 = false ∧ (rdWrite b s).2.1 ≤ b.length ∧ b.take (rdWrite b s).2.1 = b.take s.1 ++ wput (rdWrite b s).1 := by
  have i1 := (rdText_in b 32 s hs).1
  have i2 := (rdNum_in b _ i1).1
  have i3 := (rdNum_in b _ i2).1
  have f1 := rdText_form (most := 32) hs
  have f2 := rdNum_form i1
  have f3 := rdNum_form i2
  have f4 := rdText_form (most := 64) i3
  unfold rdWrite at h ⊢
  dsimp only at h ⊢
  generalize rdText b 32 s = t1 at *
  generalize rdNum b t1.2 = t2 at *
  generalize rdNum b t2.2 = t3 at *
  generalize rdText b 64 t3.2 = t4 at *
  by_cases h0 : t3.1 = 0
  · rw [if_pos h0] at h ⊢
    dsimp only at h ⊢
    obtain ⟨g4, g5, g6⟩ := f4 h
    obtain ⟨g3, _, k3⟩ := f3 g4
    obtain ⟨g2, _, k2⟩ := f2 g3
    obtain ⟨g1, _, k1⟩ := f1 g2
    refine ⟨g1, g5, ?_⟩
    rw [g6, k3, k2, k1, h0]
    simp only [wput, Bool.false_eq_true, if_false, List.append_assoc]
    rfl
  · rw [if_neg h0] at h ⊢
    by_cases h1 : t3.1 = 1
    · rw [if_pos h1] at h ⊢
      dsimp only at h ⊢
      obtain ⟨g3, g5, k3⟩ := f3 h
      obtain ⟨g2, _, k2⟩ := f2 g3
      obtain ⟨g1, _, k1⟩ := f1 g2
      refine ⟨g1, g5, ?_⟩
      rw [k3, k2, k1, h1]
      simp only [wput, if_true, List.append_assoc]
      rfl
    · rw [if_neg h1] at h
      simp at h
theorem rdAll_form (b : List UInt8) : ∀ (n : Nat) (s : Nat × Bool), s.1 ≤ b.length → b.length ≤ 100000 → (rdAll b n s).2.2 = false → (rdAll b n s).1.length = n ∧ s.2 = false ∧ (rdAll b n s).2.1 ≤ b.length ∧ b.take (rdAll b n s).2.1 = b.take s.1 ++ wputs (rdAll b n s).1
  | 0, s, hs, _, h => ⟨rfl, h, hs, by simp [rdAll, wputs]⟩
  | n + 1, s, hs, hb, h => by
    cases hq : s.2
    · rw [rdAll_step b n s hq] at h ⊢
      dsimp only at h ⊢
      obtain ⟨g1, g2, g3, g4⟩ := rdAll_form b n _ (rdWrite_in b s hs hb).1 hb h
      obtain ⟨k1, k2, k3⟩ := rdWrite_form hs g2
      refine ⟨by rw [List.length_cons, g1], rfl, g3, ?_⟩
      rw [g4, k3, List.append_assoc]
      rfl
    · rw [rdAll_bad b _ s hq] at h
      dsimp only at h
      rw [hq] at h
      cases h
/-- **What is read is put as it was.** -/
theorem cput_cget (gs : List Grp) (b : List UInt8) (hb : b.length ≤ 100000) (h : (cgetP gs b).2.2 = 0) : (cgetP gs b).2.1 ≤ b.length ∧ cput gs (cgetP gs b).1 = b.take (cgetP gs b).2.1 := by
  unfold cgetP at h ⊢
  by_cases hp : pgood gs = 0
  · rw [if_neg (by omega)] at h ⊢
    by_cases hc : ((rdChange b).2.2 || !(cgood gs (rdChange b).1 == 0)) = true
    · rw [if_pos hc] at h
      cases h
    · rw [if_neg hc]
      obtain ⟨hc1, hc2⟩ := bad_or (Bool.eq_false_iff.2 hc)
      have hg := beq_zero hc2
      obtain ⟨_, _, hn1, hn8, _⟩ := cgood_parts hg
      dsimp only
      obtain ⟨x1, s1, e1⟩ : ∃ x t, rdNum b (0, false) = (x, t) := ⟨_, _, rfl⟩
      have i1 := (rdNum_in b (0, false) (Nat.zero_le _)).1
      have f1 := rdNum_form (b := b) (s := (0, false)) (Nat.zero_le _)
      rw [e1] at i1 f1
      obtain ⟨x2, s2, e2⟩ : ∃ x t, rdNum b s1 = (x, t) := ⟨_, _, rfl⟩
      have i2 := (rdNum_in b _ i1).1
      have f2 := rdNum_form i1
      dsimp only at i2 f2
      rw [e2] at i2 f2
      obtain ⟨x3, s3, e3⟩ : ∃ x t, rdStamp b s2 = (x, t) := ⟨_, _, rfl⟩
      have i3 := rdStamp_in b _ i2
      have f3 := rdStamp_form i2
      dsimp only at i3 f3
      rw [e3] at i3 f3
      obtain ⟨x4, s4, e4⟩ : ∃ x t, rdVec b s3 = (x, t) := ⟨_, _, rfl⟩
      have i4 := rdVec_in b _ i3
      have f4 := rdVec_form i3
      dsimp only at i4 f4
      rw [e4] at i4 f4
      obtain ⟨x5, s5, e5⟩ : ∃ x t, rdNum b s4 = (x, t) := ⟨_, _, rfl⟩
      have i5 := (rdNum_in b _ i4).1
      have f5 := rdNum_form i4
      dsimp only at i5 f5
      rw [e5] at i5 f5
      obtain ⟨x6, s6, e6⟩ : ∃ x t, rdAll b (min x5 9) s5 = (x, t) := ⟨_, _, rfl⟩
      have f6 := rdAll_form b (min x5 9) s5 i5 hb
      rw [e6] at f6
      have hr : rdChange b = (⟨x1, x2, x3.1, x3.2, x4.1, x4.2, x6⟩, s6) := by unfold rdChange rdHead; simp only [e1, e2, e3, e4, e5, e6]
      rw [hr] at hc1 hg hn1 hn8 ⊢
      dsimp only at *
      clear e1 e2 e3 e4 e5 e6 hr
      obtain ⟨g6, q6, le6, k6⟩ := f6 hc1
      obtain ⟨q5, _, k5⟩ := f5 q6
      obtain ⟨q4, _, k4⟩ := f4 q5
      obtain ⟨q3, _, k3⟩ := f3 q4
      obtain ⟨q2, _, k2⟩ := f2 q3
      obtain ⟨q1, _, k1⟩ := f1 q2
      refine ⟨le6, ?_⟩
      unfold cput
      rw [if_pos hg]
      dsimp only
      have h5 : x6.length = x5 := by omega
      rw [k6, k5, k4, k3, k2, k1, h5]
      simp only [List.take_zero, List.nil_append, List.append_assoc]
  · rw [if_pos hp] at h
    exact absurd h hp
end Go.Proofs.YtacabcpjaadijaaDoor
