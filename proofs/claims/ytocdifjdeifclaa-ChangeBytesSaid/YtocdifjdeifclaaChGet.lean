/-
  The walk of change.Get.
-/
import Derived.Test.YtocdifjdeifclaaChGet0
namespace Go.Proofs.Ytocdifjdeifclaa
open Go Go.RowKit Mono Num
set_option linter.unusedVariables false
set_option linter.unusedSimpArgs false
set_option maxRecDepth 10000

/-- What Get reads ahead of the writes, and then. -/
def rdHead (b : List UInt8) : (Nat × Nat × (Int × Int) × (Int × Int)) × Nat × Nat × Bool :=
  let s1 := rdNum b (0, false)
  let s2 := rdNum b s1.2
  let s3 := rdStamp b s2.2
  let s4 := rdVec b s3.2
  let s5 := rdNum b s4.2
  ((s1.1, s2.1, s3.1, s4.1), s5.1, s5.2)
def rdChange (b : List UInt8) : Ch × Nat × Bool :=
  let h := rdHead b
  let t := rdAll b (min h.2.1 9) h.2.2
  (⟨h.1.1, h.1.2.1, h.1.2.2.1.1, h.1.2.2.1.2, h.1.2.2.2.1, h.1.2.2.2.2, t.1⟩, t.2)
/-- What Get tells. -/
def cgetP (gs : List Grp) (b : List UInt8) : Ch × Nat × Nat :=
  if pgood gs ≠ 0 then (Ch.nought, 0, pgood gs) else if ((rdChange b).2.2 || !(cgood gs (rdChange b).1 == 0)) = true then (Ch.nought, 0, 120) else ((rdChange b).1, (rdChange b).2.1, 0)

set_option maxHeartbeats 8000000 in
theorem chGet_any (A : Option Addr) (c : Nat) (b : List UInt8) (vl : Value) (gs : List Grp) (w : World) (hb : Bs w (.slice A b.length c) b) (hbl : b.length ≤ 10000) (hl : Gs w vl gs) :
    Calls Try.prog 19 #[.slice A b.length c, vl] w fun en w' => ∃ vw, en = .returned (.tuple #[chV (cgetP gs b).1 vw, .int .i64 ((cgetP gs b).2.1 : Int), .int .i64 ((cgetP gs b).2.2 : Int)]) ∧ Ws w' vw (cgetP gs b).1.writes ∧ Ext w w' := by
  have hc9 : b.length ≤ c ∧ c ≤ 9223372036854775807 := by
    obtain ⟨_, _, e, h1, h2, _⟩ := hb
    injection e with _ e1 e2
    simp only [List.length_map] at *
    unfold maxLen at h2
    omega
  obtain ⟨hcl, hc9⟩ := hc9
  have HB := Lib.hid hb
  have HLG := Lib.hid hl
  clear hb hl
  go_enter Try.func19, Try.ntmps19
  go_wp2_with fail
  have bn := Blk.new w #[.int .i64 0, .int .i64 0, .int .i64 0, .int .i64 0, .int .i64 0, .int .i64 0, .slice none 0 0] 29
  have hx := ext_alloc w (.cells #[.int .i64 0, .int .i64 0, .int .i64 0, .int .i64 0, .int .i64 0, .int .i64 0, .slice none 0 0] 29)
  obtain ⟨nb, hnb⟩ : ∃ n, n = w.heap.size := ⟨_, rfl⟩
  rw [← hnb] at bn ⊢
  have HNB := Lib.hid hnb
  clear hnb
  generalize w.alloc (.cells #[.int .i64 0, .int .i64 0, .int .i64 0, .int .i64 0, .int .i64 0, .int .i64 0, .slice none 0 0] 29) = W at *
  refine (polGood_any vl gs W (HLG.out.ext hx)).mono ?_
  rintro e w1 ⟨rfl, x1⟩
  replace hx := Ext.trans hx x1
  replace bn := bn.ext x1
  clear x1
  by_cases hp : pgood gs = 0
  rotate_left
  · have HR := Lib.hid (show cgetP gs b = (Ch.nought, 0, pgood gs) by unfold cgetP; rw [if_pos hp])
    have hp0 : (((pgood gs : Nat) : Int) != 0) = true := by rw [bne_iff_ne]; omega
    clear hp
    have f0 := bn.cell (i := 0) rfl
    have fz0 := bn.thaw 0
    have f1 := bn.cell (i := 1) rfl
    have fz1 := bn.thaw 1
    have f2 := bn.cell (i := 2) rfl
    have fz2 := bn.thaw 2
    have f3 := bn.cell (i := 3) rfl
    have fz3 := bn.thaw 3
    have f4 := bn.cell (i := 4) rfl
    have fz4 := bn.thaw 4
    have f5 := bn.cell (i := 5) rfl
    have fz5 := bn.thaw 5
    have f6 := bn.cell (i := 6) rfl
    have fz6 := bn.thaw 6
    go_wp2_with fail
    have bf := set7_blk bn (.int .i64 0) (.int .i64 0) (.int .i64 0) (.int .i64 0) (.int .i64 0) (.int .i64 0) (.slice none 0 0)
    have d0 := bf.cell (i := 0) rfl
    have d1 := bf.cell (i := 1) rfl
    have d2 := bf.cell (i := 2) rfl
    have d3 := bf.cell (i := 3) rfl
    have d4 := bf.cell (i := 4) rfl
    have d5 := bf.cell (i := 5) rfl
    have d6 := bf.cell (i := 6) rfl
    have xf := set7_ext hx (Nat.le_of_eq HNB.out.symm) (.int .i64 0) (.int .i64 0) (.int .i64 0) (.int .i64 0) (.int .i64 0) (.int .i64 0) (.slice none 0 0)
    unfold set7 at d0 d1 d2 d3 d4 d5 d6 xf
    exact bodyPost_ret (v := .tuple #[.agg #[.int .i64 0, .int .i64 0, .int .i64 0, .int .i64 0, .int .i64 0, .int .i64 0, .slice none 0 0], .int .i64 0, .int .i64 ((pgood gs : Nat) : Int)]) (by simp [results, Try.results19, d0, d1, d2, d3, d4, d5, d6, go_sem]) rfl ⟨.slice none 0 0, by rw [HR.out]; rfl, by rw [HR.out]; exact Ws.nil_ _, xf⟩
  rw [hp]
  have HP := Lib.hid hp
  clear hp
  obtain ⟨x1, a1, b1, hs1⟩ : ∃ x a q, rdNum b (0, false) = (x, a, q) := ⟨_, _, _, rfl⟩
  have i1 := rdNum_in b (0, false) (Nat.zero_le _)
  have t1 := fun w' rb h => rnum_any w w' rb A c b 0 false h HB.out (Nat.zero_le _) (by omega)
  simp only [hs1] at i1 t1
  obtain ⟨x2, a2, b2, hs2⟩ : ∃ x a q, rdNum b (a1, b1) = (x, a, q) := ⟨_, _, _, rfl⟩
  have i2 := rdNum_in b (a1, b1) i1.1
  have t2 := fun w' rb h => rnum_any w w' rb A c b a1 b1 h HB.out i1.1 (by omega)
  simp only [hs2] at i2 t2
  have hst := sget_in (b.drop a2)
  rw [List.length_drop] at hst
  have t3 := fun v w' h => stGet_any v (b.drop a2) w' h
  obtain ⟨⟨sn, ss⟩, k3, e3, hs3⟩ : ∃ x k e, sget (b.drop a2) = (x, k, e) := ⟨_, _, _, rfl⟩
  simp only [hs3] at t3 hst
  obtain ⟨p3, hp3⟩ : ∃ p, p = a2 + k3 := ⟨_, rfl⟩
  obtain ⟨q3, hq3⟩ : ∃ q, q = (b2 || !(e3 == 0)) := ⟨_, rfl⟩
  have le3 : p3 ≤ b.length := by omega
  have hr3 : rdStamp b (a2, b2) = ((sn, ss), p3, q3) := by unfold rdStamp; rw [hs3, hp3, hq3]
  have hvt := vget_in (b.drop p3)
  rw [List.length_drop] at hvt
  have t4 := fun v w' h => vecGet_any v (b.drop p3) w' h
  obtain ⟨⟨va, vb⟩, k4, e4, hs4⟩ : ∃ x k e, vget (b.drop p3) = (x, k, e) := ⟨_, _, _, rfl⟩
  simp only [hs4] at t4 hvt
  obtain ⟨p4, hp4⟩ : ∃ p, p = p3 + k4 := ⟨_, rfl⟩
  obtain ⟨q4, hq4⟩ : ∃ q, q = (q3 || !(e4 == 0)) := ⟨_, rfl⟩
  have le4 : p4 ≤ b.length := by omega
  have hr4 : rdVec b (p3, q3) = ((va, vb), p4, q4) := by unfold rdVec; rw [hs4, hp4, hq4]
  obtain ⟨x5, a5, b5, hs5⟩ : ∃ x a q, rdNum b (p4, q4) = (x, a, q) := ⟨_, _, _, rfl⟩
  have i5 := rdNum_in b (p4, q4) le4
  have t5 := fun w' rb h => rnum_any w w' rb A c b p4 q4 h HB.out le4 (by omega)
  simp only [hs5] at i5 t5
  have HHD := Lib.hid (show rdHead b = ((x1, x2, (sn, ss), (va, vb)), x5, a5, b5) by unfold rdHead; simp only [hs1, hs2, hr3, hr4, hs5])
  unfold stV at t3
  unfold getV vecV at t4
  have T1 := Lib.hid t1
  have T2 := Lib.hid t2
  have T3 := Lib.hid t3
  have T4 := Lib.hid t4
  have T5 := Lib.hid t5
  have HP3 := Lib.hid hp3
  have HQ3 := Lib.hid hq3
  have HP4 := Lib.hid hp4
  have HQ4 := Lib.hid hq4
  have L3 := Lib.hid (show a2 + k3 ≤ 100000 by omega)
  have L4 := Lib.hid (show p3 + k4 ≤ 100000 by omega)
  clear t1 t2 t3 t4 t5 hs1 hs2 hs3 hs4 hs5 hr3 hr4 hp3 hq3 hp4 hq4
  obtain ⟨j1, -⟩ := i1
  obtain ⟨j2, m2⟩ := i2
  go_wp2_with fail
  have H0 := Lib.hid (⟨Blk.new w1 #[.slice A b.length c, .int .i64 0, .bool false] 97, hx.trans (ext_alloc _ _), hx.size⟩ : Rdr w (w1.alloc (.cells #[.slice A b.length c, .int .i64 0, .bool false] 97)) w1.heap.size (.slice A b.length c) 0 false)
  have hnr := bn.lt
  replace bn := bn.ext (ext_alloc w1 (.cells #[.slice A b.length c, .int .i64 0, .bool false] 97))
  obtain ⟨rb, hrb⟩ : ∃ n, n = w1.heap.size := ⟨_, rfl⟩
  rw [← hrb] at H0 hnr ⊢
  clear hrb hx
  generalize w1.alloc (.cells #[.slice A b.length c, .int .i64 0, .bool false] 97) = W2 at *
  have HNR := Lib.hid (Nat.ne_of_lt hnr)
  refine (T1.out _ rb H0.out).mono ?_
  rintro en w2 ⟨rfl, h1, hg1⟩
  replace bn := bn.gb hg1 HNR.out
  have H1 := Lib.hid h1
  clear h1 hg1 H0 T1
  go_wp2_with fail
  refine (T2.out _ rb H1.out).mono ?_
  rintro en w3 ⟨rfl, h2, hg2⟩
  replace bn := bn.gb hg2 HNR.out
  have H2 := Lib.hid h2
  clear h2 hg2 H1 T2
  obtain ⟨SL1, sl1, sl2, hs1⟩ := slice_from_run A b.length c a2 j2
  have HS1 := Lib.hid hs1
  clear hs1
  have x3 := ext_alloc w3 (.cells #[.int .i64 (x1 : Int), .int .i64 (x2 : Int), .int .i64 0, .int .i64 0, .int .i64 0, .int .i64 0, .slice none 0 0] 29)
  have r1 := (H2.out.blk.ext x3).cell (i := 1) rfl
  go_wp2_with fail
  clear sl1 sl2 r1
  have bc := Blk.new w3 #[.int .i64 (x1 : Int), .int .i64 (x2 : Int), .int .i64 0, .int .i64 0, .int .i64 0, .int .i64 0, .slice none 0 0] 29
  have HNC := Lib.hid (Nat.ne_of_lt bn.lt)
  have HRC := Lib.hid (Nat.ne_of_lt H2.out.blk.lt)
  have HWC := Lib.hid (H2.out.ext.size)
  replace bn := bn.ext x3
  have H3 := Lib.hid (H2.out.more x3)
  clear x3 H2
  obtain ⟨cb, hcb⟩ : ∃ n, n = w3.heap.size := ⟨_, rfl⟩
  rw [← hcb] at bc HNC HRC HWC ⊢
  clear hcb
  generalize w3.alloc (.cells #[.int .i64 (x1 : Int), .int .i64 (x2 : Int), .int .i64 0, .int .i64 0, .int .i64 0, .int .i64 0, .slice none 0 0] 29) = W4 at *
  refine (T3.out _ _ (HS1.out _ _ (HB.out.ext H3.out.ext))).mono ?_
  rintro en w4 ⟨rfl, x4⟩
  clear HS1 T3
  replace bn := bn.ext x4
  replace bc := bc.ext x4
  have H4 := Lib.hid (H3.out.more x4)
  clear x4 H3
  have x5' := ext_alloc w4 (.cells #[.int .i64 sn, .int .i64 ss] 24)
  go_wp2_with fail
  have bs := Blk.new w4 #[.int .i64 sn, .int .i64 ss] 24
  have HSR := Lib.hid (Nat.ne_of_gt H4.out.blk.lt)
  have HSC := Lib.hid (Nat.ne_of_gt bc.lt)
  replace bn := bn.ext x5'
  replace bc := bc.ext x5'
  have H5 := Lib.hid (H4.out.more x5')
  clear x5' H4
  obtain ⟨sb, hsb⟩ : ∃ n, n = w4.heap.size := ⟨_, rfl⟩
  rw [← hsb] at bs HSR HSC ⊢
  clear hsb
  generalize w4.alloc (.cells #[.int .i64 sn, .int .i64 ss] 24) = W5 at *
  refine (on_any w _ rb _ a2 b2 k3 e3 H5.out L3.out).mono ?_
  rintro en w5 ⟨⟨ru, rfl⟩, h6, hg6⟩
  rw [← HP3.out, ← HQ3.out] at h6
  replace bn := bn.gb hg6 HNR.out
  replace bc := bc.gb hg6 (fun e => HRC.out e.symm)
  replace bs := bs.gb hg6 HSR.out
  have H6 := Lib.hid h6
  have r1 := h6.blk.cell (i := 1) rfl
  clear h6 hg6 H5
  obtain ⟨SL2, sl1, sl2, hs1⟩ := slice_from_run A b.length c p3 le3
  have HS2 := Lib.hid hs1
  clear hs1
  go_wp2_with fail
  clear sl1 sl2 r1
  refine (T4.out _ _ (HS2.out _ _ (HB.out.ext H6.out.ext))).mono ?_
  rintro en w6 ⟨rfl, x7⟩
  clear HS2 T4
  replace bn := bn.ext x7
  replace bc := bc.ext x7
  replace bs := bs.ext x7
  have H7 := Lib.hid (H6.out.more x7)
  clear x7 H6
  have x8 := ext_alloc w6 (.cells #[.int .i64 va, .int .i64 vb] 26)
  go_wp2_with fail
  have bv := Blk.new w6 #[.int .i64 va, .int .i64 vb] 26
  have HVR := Lib.hid (Nat.ne_of_gt H7.out.blk.lt)
  have HVC := Lib.hid (Nat.ne_of_gt bc.lt)
  replace bn := bn.ext x8
  replace bc := bc.ext x8
  replace bs := bs.ext x8
  have H8 := Lib.hid (H7.out.more x8)
  clear x8 H7
  obtain ⟨vk, hvk⟩ : ∃ n, n = w6.heap.size := ⟨_, rfl⟩
  rw [← hvk] at bv HVR HVC ⊢
  clear hvk
  generalize w6.alloc (.cells #[.int .i64 va, .int .i64 vb] 26) = W7 at *
  refine (on_any w _ rb _ p3 q3 k4 e4 H8.out L4.out).mono ?_
  rintro en w7 ⟨⟨ru2, rfl⟩, h9, hg9⟩
  rw [← HP4.out, ← HQ4.out] at h9
  replace bn := bn.gb hg9 HNR.out
  replace bc := bc.gb hg9 (fun e => HRC.out e.symm)
  replace bs := bs.gb hg9 HSR.out
  replace bv := bv.gb hg9 HVR.out
  have H9 := Lib.hid h9
  clear h9 hg9 H8
  have s0 := bs.cell (i := 0) rfl
  have s1 := bs.cell (i := 1) rfl
  have v0 := bv.cell (i := 0) rfl
  have v1 := bv.cell (i := 1) rfl
  have c2 := bc.cell (i := 2) rfl
  have c3 := bc.cell (i := 3) rfl
  have c4 := bc.cell (i := 4) rfl
  have c5 := bc.cell (i := 5) rfl
  have z2 := bc.thaw 2
  have z3 := bc.thaw 3
  have z4 := bc.thaw 4
  have z5 := bc.thaw 5
  have hne1 : ¬ sb = cb := HSC.out
  have hne2 : ¬ vk = cb := HVC.out
  go_wp2_with fail
  go_region
  clear s0 s1 v0 v1 c2 c3 c4 c5 z2 z3 z4 z5 hne1 hne2
  replace bn := ((((bn.apart (a := ⟨cb, 2, none⟩) (.int .i64 sn) HNC.out).apart (a := ⟨cb, 3, none⟩) (.int .i64 ss) HNC.out).apart (a := ⟨cb, 4, none⟩) (.int .i64 va) HNC.out).apart (a := ⟨cb, 5, none⟩) (.int .i64 vb) HNC.out).drew
  have H10 := Lib.hid (((((H9.out.apart 2 (.int .i64 sn) HRC.out HWC.out).apart 3 (.int .i64 ss) HRC.out HWC.out).apart 4 (.int .i64 va) HRC.out HWC.out).apart 5 (.int .i64 vb) HRC.out HWC.out).more (ext_drew _))
  replace bc := ((((bc.set 2 (.int .i64 sn)).set 3 (.int .i64 ss)).set 4 (.int .i64 va)).set 5 (.int .i64 vb)).drew
  simp only [List.set_cons_zero, List.set_cons_succ] at bc
  clear H9 bs bv HSR HSC HVR HVC
  generalize ((((w7.setCell ⟨cb, 2, none⟩ (.int .i64 sn)).setCell ⟨cb, 3, none⟩ (.int .i64 ss)).setCell ⟨cb, 4, none⟩ (.int .i64 va)).setCell ⟨cb, 5, none⟩ (.int .i64 vb)).drew = W8 at *
  go_wp2_with fail
  refine (T5.out _ rb H10.out).mono ?_
  rintro en w8 ⟨rfl, h11, hg11⟩
  replace bn := bn.gb hg11 HNR.out
  replace bc := bc.gb hg11 (fun e => HRC.out e.symm)
  have hlt1 := bn.lt
  have hlt2 := bc.lt
  have hlt3 := h11.blk.lt
  have HG := Lib.hid (⟨h11, bc, bn, World.ownsRow_nil _ _ _ _, rfl, HRC.out, fun e => HNR.out e.symm, fun e => HNC.out e.symm, hlt3, hlt2, hlt1, HWC.out, Nat.le_of_eq HNB.out.symm, Nat.le_refl _⟩ : GSt w w8 rb cb nb w8.heap.size (.slice A b.length c) [.int .i64 (x1 : Int), .int .i64 (x2 : Int), .int .i64 sn, .int .i64 ss, .int .i64 va, .int .i64 vb] (.slice none 0 0) [] a5 b5)
  clear h11 hg11 bn bc hlt1 hlt2 hlt3 H10 T5
  obtain ⟨i5, k5⟩ := i5
  obtain ⟨base, hbase⟩ : ∃ n, n = w8.heap.size := ⟨_, rfl⟩
  rw [← hbase] at HG
  clear hbase
  obtain ⟨K, hK⟩ : ∃ K, K = min x5 9 := ⟨_, rfl⟩
  have hK9 : K ≤ 9 := by omega
  have HM := Lib.hid (fun (w' : World) (ts : Array TypeId) (t : TypeId) => show (Builtin.min_ ts t #[.int .i64 (x5 : Int), .int .i64 9]).run Try.prog w' = .ok (.int .i64 (K : Int)) w' by
    rw [run_min_int2]
    congr 2
    split <;> omega)
  have HK := Lib.hid hK
  clear hK
  go_wp2_with fail
  go_loopw [65] (fun _ wr => ∃ acc vs a bad, GSt w wr rb cb nb base (.slice A b.length c) [.int .i64 (x1 : Int), .int .i64 (x2 : Int), .int .i64 sn, .int .i64 ss, .int .i64 va, .int .i64 vb] vs acc a bad ∧ a ≤ b.length ∧ acc.length ≤ K ∧ (∀ x ∈ acc, x.fits) ∧
    rdAll b (K) (a5, b5) = (acc ++ (rdAll b (K - acc.length) (a, bad)).1, (rdAll b (K - acc.length) (a, bad)).2)) (fun _ wr => writesLeft cb wr)
  case atStart => exact ⟨[], _, a5, b5, HG.out, i5, Nat.zero_le _, by simp, rfl⟩
  case round =>
    obtain ⟨acc, vs, a, bad, hG, ha, hacc, hfit, hall⟩ := hrel
    obtain ⟨Av, cv, rfl⟩ : ∃ Av cv, vs = .slice Av acc.length cv := by
      rcases hG.row.2 with ⟨rfl, hn⟩ | ⟨g, cap, cur, rfl, _⟩
      · exact ⟨none, 0, by rw [hn]⟩
      · exact ⟨_, _, rfl⟩
    have HG1 := Lib.hid hG
    have hmin := HM.out
    have c6 := hG.chg.cell (i := 6) rfl
    have q2 := hG.rdr.blk.cell (i := 2) rfl
    have HFIT := Lib.hid hfit
    have HALL := Lib.hid hall
    clear hG hfit hall
    by_cases hlt : acc.length < K
    · have hlt' : (acc.length : Int) < (K : Int) := by omega
      cases bad
      · obtain ⟨i0, hi0, hz0, hz1, hz2⟩ := info_parts infoWr
        have HI0 := Lib.hid hi0
        have HZ0 := Lib.hid hz0
        have HZ1 := Lib.hid hz1
        have HZ2 := Lib.hid hz2
        clear hi0 hz0 hz1 hz2
        go_wp2_with fail
        clear hmin
        have hin := rdWrite_in b (a, false) ha (by omega)
        refine wp_region_chain [3, 4, 5, 7] (fun k => if k = 1 then 2 else 4) (fun k => if k = 1 then .slice Av acc.length cv else if k = 2 then .pointer (some ⟨rb, 0, none⟩) else .pointer (some ⟨cb, 6, none⟩))
          (GPh w rb cb nb base (.slice A b.length c) [.int .i64 (x1 : Int), .int .i64 (x2 : Int), .int .i64 sn, .int .i64 ss, .int .i64 va, .int .i64 vb] (.slice Av acc.length cv) acc (rdWrite b (a, false)).1 a (rdWrite b (a, false)).2.1 (rdWrite b (a, false)).2.2) (by kernel_rfl) (by kernel_rfl) HG1.out.drew ?_
        refine telec_side (by decide) ?_ ?_
        · rintro ρ vs w' hv hg ⟨h9, -⟩
          have e9 : ρ 9 = .pointer (some ⟨cb, 0, none⟩) := h9
          simp [execOp, evR, e9, go_sem]
        refine telec_side (by decide) ?_ ?_
        · rintro ρ vs w' hv hg ⟨h78, -⟩
          have e78 : ρ 78 = .pointer (some ⟨cb, 6, none⟩) := h78
          have cc := GPh.load hg hv
          simp [execOp, evR, e78, cc, go_sem]
        refine telec_side (by decide) ?_ ?_
        · rintro ρ vs w' hv hg ⟨h8, -⟩
          have e8 : ρ 8 = .pointer (some ⟨rb, 0, none⟩) := h8
          simp [execOp, evR, e8]
        refine telec_chain (by decide) ?_ ?_
        · rintro ρ vs w' hv hg ⟨h80, -⟩
          have e80 : ρ 80 = .pointer (some ⟨rb, 0, none⟩) := h80
          obtain rfl := List.eq_nil_of_length_eq_zero hv
          rw [run_call_func rfl Try.func52 (by kernel_rfl)]
          simp only [evR, List.map_toArray, List.map_cons, List.map_nil, e80]
          refine (rdwrite_any w w' rb A c b a false (GSt.rdr hg) HB.out ha (by omega)).mono ?_
          rintro en w9 ⟨rfl, h12, hg12⟩
          exact ⟨_, rfl, rfl, GSt.read hg h12 hg12⟩
        refine telec_chain (by decide) ?_ ?_
        · rintro ρ vs w' hv hg ⟨h81, -⟩
          have e81 : ρ 81 = vs.getD 0 undef := h81
          obtain ⟨v1, rfl⟩ : ∃ v1, vs = [v1] := by match vs, hv with | [v1], _ => exact ⟨v1, rfl⟩
          obtain ⟨rfl, hg⟩ := hg
          replace e81 : ρ 81 = .agg #[strV (rdWrite b (a, false)).1.key, .int .i64 (rdWrite b (a, false)).1.group, .bool (rdWrite b (a, false)).1.gone, strV (rdWrite b (a, false)).1.value] := e81
          have hrun : (execOp (evR ρ) { dst := some 82, op := Op.buildSlice 27 1 #[(0, Operand.tmp 81)], type := 27, pos := "change.go:163", after := #[{ on := 3, ground := Ground.data }], guard := none }).run Try.prog w' = .ok (.value (.slice (some ⟨w'.heap.size, 0, none⟩) 1 1)) (w'.alloc (.cells #[strV (rdWrite b (a, false)).1.key, .int .i64 (rdWrite b (a, false)).1.group, .bool (rdWrite b (a, false)).1.gone, strV (rdWrite b (a, false)).1.value] 31)) := by
            simp [execOp, evR, e81, go_sem]
          rw [hrun]
          exact ⟨w', rfl, rfl, hg⟩
        refine telec_chain (by decide) ?_ ?_
        · rintro ρ vs w' hv hg ⟨h79, h82, -⟩
          have e79 : ρ 79 = .slice Av acc.length cv := h79
          have e82 : ρ 82 = vs.getD 1 undef := h82
          obtain ⟨v1, v2, rfl⟩ : ∃ v1 v2, vs = [v1, v2] := by match vs, hv with | [v1, v2], _ => exact ⟨v1, v2, rfl⟩
          obtain ⟨W9, rfl, rfl, hg⟩ := hg
          replace e82 : ρ 82 = .slice (some ⟨W9.heap.size, 0, none⟩) 1 1 := e82
          have hacc9 : acc.length < 9 := by omega
          obtain ⟨v', w10, hrun, hown, hgrow, _, _⟩ := run_append_own_at (P := Try.prog) (W9.alloc (.cells #[strV (rdWrite b (a, false)).1.key, .int .i64 (rdWrite b (a, false)).1.group, .bool (rdWrite b (a, false)).1.gone, strV (rdWrite b (a, false)).1.value] 31)) base 27 27 31 i0 _ 4 48 Try.underlying27 HI0.out HZ0.out HZ1.out HZ2.out rfl (by decide) _ acc.length (wcells acc) (hg.row.alloc _) ⟨W9.heap.size, 0, none⟩ 1 1 [strV (rdWrite b (a, false)).1.key, .int .i64 (rdWrite b (a, false)).1.group, .bool (rdWrite b (a, false)).1.gone, strV (rdWrite b (a, false)).1.value] rfl (four_new _ _ _ _ _ _) (four_one _ _ _ _) (by unfold maxLen; omega) (by omega) (by have := hg.hb; simp; omega)
          obtain ⟨hbk, hg3⟩ := GSt.more hg hown rfl rfl hgrow
          rw [exec_append rfl e79 e82, hrun]
          exact ⟨hbk, hg3⟩
        refine telec_side (by decide) ?_ ?_
        · rintro ρ vs w' hv hg ⟨h9, -⟩
          have e9 : ρ 9 = .pointer (some ⟨cb, 0, none⟩) := h9
          simp [execOp, evR, e9, go_sem]
        refine telec_chain (by decide) ?_ ?_
        · rintro ρ vs w' hv hg ⟨h84, h83, -⟩
          have e84 : ρ 84 = .pointer (some ⟨cb, 6, none⟩) := h84
          have e83 : ρ 83 = vs.getD 2 undef := h83
          obtain ⟨v1, v2, v3, rfl⟩ : ∃ v1 v2 v3, vs = [v1, v2, v3] := by match vs, hv with | [v1, v2, v3], _ => exact ⟨v1, v2, v3, rfl⟩
          obtain ⟨hbk, hg⟩ := hg
          replace e83 : ρ 83 = v3 := e83
          obtain ⟨A3, n3, k3', rfl⟩ : ∃ A3 n3 k3', v3 = .slice A3 n3 k3' := by
            rcases hg.row.2 with ⟨rfl, _⟩ | ⟨g, cap, cur, rfl, _⟩
            · exact ⟨_, _, _, rfl⟩
            · exact ⟨_, _, _, rfl⟩
          have d6 := hbk.cell (i := 6) rfl
          have dz6 := hbk.thaw 6
          have hrun : (execOp (evR ρ) { dst := none, op := Op.store 27 (Operand.tmp 84) (Operand.tmp 83), type := 0, pos := "change.go:163", after := #[{ on := 6, ground := Ground.data }, { on := 5, ground := Ground.data }, { on := 5, ground := Ground.chain }, { on := 0, ground := Ground.phase }, { on := 1, ground := Ground.phase }, { on := 2, ground := Ground.phase }, { on := 3, ground := Ground.phase }, { on := 4, ground := Ground.phase }, { on := 5, ground := Ground.phase }], guard := none }).run Try.prog w' = .ok .skip (w'.setCell ⟨cb, 6, none⟩ (.slice A3 n3 k3')) := by
            simp [execOp, evR, e84, e83, d6, dz6, go_sem]
          rw [hrun]
          exact ⟨_, hg⟩
        refine telec_nil ?_
        rintro ρ vs w' hv hg -
        obtain ⟨v1, v2, v3, v4, rfl⟩ : ∃ v1 v2 v3 v4, vs = [v1, v2, v3, v4] := by match vs, hv with | [v1, v2, v3, v4], _ => exact ⟨v1, v2, v3, v4, rfl⟩
        obtain ⟨vs', hg⟩ := hg
        simp only [puts, Act.put, List.setIfInBounds_toArray, List.set_cons_zero, List.set_cons_succ]
        go_wp2_with fail
        go_roundw
        case rel => exact ⟨acc ++ [(rdWrite b (a, false)).1], vs', _, _, hg, hin.1, by simp; omega, fun x hx => by
          rcases List.mem_append.1 hx with hx | hx
          · exact HFIT.out x hx
          · rw [List.mem_singleton.1 hx]; exact hin.2, by
          rw [HALL.out, show K - acc.length = (K - (acc ++ [(rdWrite b (a, false)).1]).length) + 1 by simp; omega, rdAll_step _ _ _ rfl]
          simp⟩
        case measure => rw [GSt.left hg, GSt.left HG1.out]; simp; omega
      · have HCH := Lib.hid (show rdChange b = (⟨x1, x2, sn, ss, va, vb, acc⟩, a, true) by unfold rdChange; rw [HHD.out]; dsimp only; rw [← HK.out, HALL.out, rdAll_bad _ _ _ rfl, List.append_nil])
        have q2 := HG1.out.rdr.blk.cell (i := 2) rfl
        have HR := Lib.hid (show cgetP gs b = (Ch.nought, 0, 120) by unfold cgetP; rw [if_neg (by rw [HP.out]; simp), HCH.out, if_pos (by rfl)])
        have bn := HG1.out.res
        have f0 := bn.cell (i := 0) rfl
        have fz0 := bn.thaw 0
        have f1 := bn.cell (i := 1) rfl
        have fz1 := bn.thaw 1
        have f2 := bn.cell (i := 2) rfl
        have fz2 := bn.thaw 2
        have f3 := bn.cell (i := 3) rfl
        have fz3 := bn.thaw 3
        have f4 := bn.cell (i := 4) rfl
        have fz4 := bn.thaw 4
        have f5 := bn.cell (i := 5) rfl
        have fz5 := bn.thaw 5
        have f6 := bn.cell (i := 6) rfl
        have fz6 := bn.thaw 6
        go_wp2_with fail
        have bf := set7_blk bn (.int .i64 0) (.int .i64 0) (.int .i64 0) (.int .i64 0) (.int .i64 0) (.int .i64 0) (.slice none 0 0)
        have d0 := bf.cell (i := 0) rfl
        have d1 := bf.cell (i := 1) rfl
        have d2 := bf.cell (i := 2) rfl
        have d3 := bf.cell (i := 3) rfl
        have d4 := bf.cell (i := 4) rfl
        have d5 := bf.cell (i := 5) rfl
        have d6 := bf.cell (i := 6) rfl
        have xf := set7_ext HG1.out.rdr.ext HG1.out.on (.int .i64 0) (.int .i64 0) (.int .i64 0) (.int .i64 0) (.int .i64 0) (.int .i64 0) (.slice none 0 0)
        unfold set7 at d0 d1 d2 d3 d4 d5 d6 xf
        exact bodyPost_ret (v := .tuple #[.agg #[.int .i64 0, .int .i64 0, .int .i64 0, .int .i64 0, .int .i64 0, .int .i64 0, .slice none 0 0], .int .i64 0, .int .i64 120]) (by simp [results, Try.results19, d0, d1, d2, d3, d4, d5, d6, go_sem]) rfl ⟨.slice none 0 0, by rw [HR.out]; rfl, by rw [HR.out]; exact Ws.nil_ _, xf⟩
    · have hge : ¬ (acc.length : Int) < (K : Int) := by omega
      have hKl : K - acc.length = 0 := by omega
      cases bad
      · have HCH := Lib.hid (show rdChange b = (⟨x1, x2, sn, ss, va, vb, acc⟩, a, false) by unfold rdChange; rw [HHD.out]; dsimp only; rw [← HK.out, HALL.out, hKl, rdAll, List.append_nil])
        have cc := HG1.out.chg
        have e0 := cc.cell (i := 0) rfl
        have e1 := cc.cell (i := 1) rfl
        have e2 := cc.cell (i := 2) rfl
        have e3 := cc.cell (i := 3) rfl
        have e4 := cc.cell (i := 4) rfl
        have e5 := cc.cell (i := 5) rfl
        clear hKl
        go_wp2_with fail
        refine (chGood_any vl gs x1 x2 sn ss va vb _ acc _ (HLG.out.ext HG1.out.rdr.ext) (ws_of_row HG1.out.row HFIT.out)).mono ?_
        rintro en w9 ⟨rfl, x9⟩
        clear e0 e1 e2 e3 e4 e5 cc c6 q2
        have HX9 := Lib.hid x9
        have bn := HG1.out.res.ext x9
        have xx := Lib.hid (HG1.out.rdr.ext.trans x9)
        clear x9
        cases hcg : (cgood gs ⟨x1, x2, sn, ss, va, vb, acc⟩ == 0)
        · have HR := Lib.hid (show cgetP gs b = (Ch.nought, 0, 120) by unfold cgetP; rw [if_neg (by rw [HP.out]; simp), HCH.out, if_pos (by rw [hcg]; rfl)])
          have hb0 : (((cgood gs ⟨x1, x2, sn, ss, va, vb, acc⟩ : Nat) : Int) != 0) = true := by
            rw [bne_iff_ne]
            have := beq_eq_false_iff_ne.1 hcg
            omega
          clear hcg
          have f0 := bn.cell (i := 0) rfl
          have fz0 := bn.thaw 0
          have f1 := bn.cell (i := 1) rfl
          have fz1 := bn.thaw 1
          have f2 := bn.cell (i := 2) rfl
          have fz2 := bn.thaw 2
          have f3 := bn.cell (i := 3) rfl
          have fz3 := bn.thaw 3
          have f4 := bn.cell (i := 4) rfl
          have fz4 := bn.thaw 4
          have f5 := bn.cell (i := 5) rfl
          have fz5 := bn.thaw 5
          have f6 := bn.cell (i := 6) rfl
          have fz6 := bn.thaw 6
          go_wp2_with fail
          have bf := set7_blk bn (.int .i64 0) (.int .i64 0) (.int .i64 0) (.int .i64 0) (.int .i64 0) (.int .i64 0) (.slice none 0 0)
          have d0 := bf.cell (i := 0) rfl
          have d1 := bf.cell (i := 1) rfl
          have d2 := bf.cell (i := 2) rfl
          have d3 := bf.cell (i := 3) rfl
          have d4 := bf.cell (i := 4) rfl
          have d5 := bf.cell (i := 5) rfl
          have d6 := bf.cell (i := 6) rfl
          have xf := set7_ext xx.out HG1.out.on (.int .i64 0) (.int .i64 0) (.int .i64 0) (.int .i64 0) (.int .i64 0) (.int .i64 0) (.slice none 0 0)
          unfold set7 at d0 d1 d2 d3 d4 d5 d6 xf
          exact bodyPost_ret (v := .tuple #[.agg #[.int .i64 0, .int .i64 0, .int .i64 0, .int .i64 0, .int .i64 0, .int .i64 0, .slice none 0 0], .int .i64 0, .int .i64 120]) (by simp [results, Try.results19, d0, d1, d2, d3, d4, d5, d6, go_sem]) rfl ⟨.slice none 0 0, by rw [HR.out]; rfl, by rw [HR.out]; exact Ws.nil_ _, xf⟩
        · have hcg0 : cgood gs ⟨x1, x2, sn, ss, va, vb, acc⟩ = 0 := by simpa using hcg
          have HR := Lib.hid (show cgetP gs b = (⟨x1, x2, sn, ss, va, vb, acc⟩, a, 0) by unfold cgetP; rw [if_neg (by rw [HP.out]; simp), HCH.out, if_neg (by rw [hcg]; simp)])
          rw [hcg0]
          clear hcg hcg0
          have cc := HG1.out.chg.ext HX9.out
          have cr := HG1.out.rdr.blk.ext HX9.out
          have e0 := cc.cell (i := 0) rfl
          have e1 := cc.cell (i := 1) rfl
          have e2 := cc.cell (i := 2) rfl
          have e3 := cc.cell (i := 3) rfl
          have e4 := cc.cell (i := 4) rfl
          have e5 := cc.cell (i := 5) rfl
          have e6 := cc.cell (i := 6) rfl
          have r1 := cr.cell (i := 1) rfl
          have nn1 : ¬ rb = nb := HG1.out.nrn
          have nn2 : ¬ cb = nb := HG1.out.ncn
          have f0 := bn.cell (i := 0) rfl
          have fz0 := bn.thaw 0
          have f1 := bn.cell (i := 1) rfl
          have fz1 := bn.thaw 1
          have f2 := bn.cell (i := 2) rfl
          have fz2 := bn.thaw 2
          have f3 := bn.cell (i := 3) rfl
          have fz3 := bn.thaw 3
          have f4 := bn.cell (i := 4) rfl
          have fz4 := bn.thaw 4
          have f5 := bn.cell (i := 5) rfl
          have fz5 := bn.thaw 5
          have f6 := bn.cell (i := 6) rfl
          have fz6 := bn.thaw 6
          go_wp2_with fail
          go_region
          have bf := (set7_blk bn (.int .i64 (x1 : Int)) (.int .i64 (x2 : Int)) (.int .i64 sn) (.int .i64 ss) (.int .i64 va) (.int .i64 vb) (.slice Av acc.length cv)).drew
          have d0 := bf.cell (i := 0) rfl
          have d1 := bf.cell (i := 1) rfl
          have d2 := bf.cell (i := 2) rfl
          have d3 := bf.cell (i := 3) rfl
          have d4 := bf.cell (i := 4) rfl
          have d5 := bf.cell (i := 5) rfl
          have d6 := bf.cell (i := 6) rfl
          have xf := (set7_ext xx.out HG1.out.on (.int .i64 (x1 : Int)) (.int .i64 (x2 : Int)) (.int .i64 sn) (.int .i64 ss) (.int .i64 va) (.int .i64 vb) (.slice Av acc.length cv)).trans (ext_drew _)
          have hws := ws_of_row ((HG1.out.row.kept (gb_trans (gb_ext HX9.out (some nb)) (set7_gb w9 nb (.int .i64 (x1 : Int)) (.int .i64 (x2 : Int)) (.int .i64 sn) (.int .i64 ss) (.int .i64 va) (.int .i64 vb) (.slice Av acc.length cv))) (by
            rcases hv : (Value.slice Av acc.length cv).ownBlock with _ | jj
            · exact .inl rfl
            · refine .inr fun e => ?_
              injection e with e
              have := (World.ownsRow.lt HG1.out.row jj hv).1
              have := HG1.out.ln
              omega)).drew) HFIT.out
          unfold set7 at d0 d1 d2 d3 d4 d5 d6 xf hws
          have HWS := Lib.hid hws
          clear hws
          go_wp2_with fail
          exact bodyPost_ret (v := .tuple #[.agg #[.int .i64 (x1 : Int), .int .i64 (x2 : Int), .int .i64 sn, .int .i64 ss, .int .i64 va, .int .i64 vb, .slice Av acc.length cv], .int .i64 (a : Int), .int .i64 0]) (by simp [results, Try.results19, d0, d1, d2, d3, d4, d5, d6, go_sem]) rfl ⟨.slice Av acc.length cv, by rw [HR.out]; rfl, by rw [HR.out]; exact HWS.out, xf⟩
      · have HCH := Lib.hid (show rdChange b = (⟨x1, x2, sn, ss, va, vb, acc⟩, a, true) by unfold rdChange; rw [HHD.out]; dsimp only; rw [← HK.out, HALL.out, hKl, rdAll, List.append_nil])
        clear hKl
        have q2 := HG1.out.rdr.blk.cell (i := 2) rfl
        have HR := Lib.hid (show cgetP gs b = (Ch.nought, 0, 120) by unfold cgetP; rw [if_neg (by rw [HP.out]; simp), HCH.out, if_pos (by rfl)])
        have bn := HG1.out.res
        have f0 := bn.cell (i := 0) rfl
        have fz0 := bn.thaw 0
        have f1 := bn.cell (i := 1) rfl
        have fz1 := bn.thaw 1
        have f2 := bn.cell (i := 2) rfl
        have fz2 := bn.thaw 2
        have f3 := bn.cell (i := 3) rfl
        have fz3 := bn.thaw 3
        have f4 := bn.cell (i := 4) rfl
        have fz4 := bn.thaw 4
        have f5 := bn.cell (i := 5) rfl
        have fz5 := bn.thaw 5
        have f6 := bn.cell (i := 6) rfl
        have fz6 := bn.thaw 6
        go_wp2_with fail
        have bf := set7_blk bn (.int .i64 0) (.int .i64 0) (.int .i64 0) (.int .i64 0) (.int .i64 0) (.int .i64 0) (.slice none 0 0)
        have d0 := bf.cell (i := 0) rfl
        have d1 := bf.cell (i := 1) rfl
        have d2 := bf.cell (i := 2) rfl
        have d3 := bf.cell (i := 3) rfl
        have d4 := bf.cell (i := 4) rfl
        have d5 := bf.cell (i := 5) rfl
        have d6 := bf.cell (i := 6) rfl
        have xf := set7_ext HG1.out.rdr.ext HG1.out.on (.int .i64 0) (.int .i64 0) (.int .i64 0) (.int .i64 0) (.int .i64 0) (.int .i64 0) (.slice none 0 0)
        unfold set7 at d0 d1 d2 d3 d4 d5 d6 xf
        exact bodyPost_ret (v := .tuple #[.agg #[.int .i64 0, .int .i64 0, .int .i64 0, .int .i64 0, .int .i64 0, .int .i64 0, .slice none 0 0], .int .i64 0, .int .i64 120]) (by simp [results, Try.results19, d0, d1, d2, d3, d4, d5, d6, go_sem]) rfl ⟨.slice none 0 0, by rw [HR.out]; rfl, by rw [HR.out]; exact Ws.nil_ _, xf⟩
end Go.Proofs.Ytocdifjdeifclaa
