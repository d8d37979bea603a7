/-
  Layer 12: the sort's functions, over a 'less' that lays blocks: the pivot chosen.
-/
import Derived.Test.YtocdifjdeifclaaSrt6
import Derived.Deep.DeepCutAuto
namespace Go.Proofs.Ytocdifjdeifclaa
open Go Go.RowKit Mono Go.Sort
set_option linter.unusedVariables false
set_option linter.unusedSimpArgs false
set_option maxRecDepth 100000
set_option maxHeartbeats 4000000
variable {w0 W W' : World} {ob sf : Nat} {sb : Array Value} {blk off n : Nat} {d d' : Array Wr}

theorem sPivot_any (S : Srt w0 ob sf sb blk off n) (h : St w0 blk off n d W) {a b : Nat} (hab : a + 12 < b) (hb : b ≤ n) :
    Calls Try.prog 104 #[.agg #[.func (.func 63) #[] #[.pointer (some ⟨ob, 0, none⟩)], .func (.func sf) #[] sb], .int .i64 (a : Int), .int .i64 (b : Int)] W
      fun e w' => e = .returned (.tuple #[.int .i64 ((choosePivot wahead d a b).1 : Int), .int .i64 (hintCode (choosePivot wahead d a b).2)]) ∧ Ext W w' := by
  have hn := S.hn
  obtain ⟨R, hR⟩ : ∃ R, R = rawPivot wahead d a b := ⟨_, rfl⟩
  have HP := Lib.hid (show choosePivot wahead d a b = (R.1, hintOf R.2) by rw [hR, choosePivot_eq])
  obtain ⟨l, hl⟩ : ∃ x, x = b - a := ⟨_, rfl⟩
  obtain ⟨q, hq⟩ : ∃ x, x = l / 4 := ⟨_, rfl⟩
  obtain ⟨q2, hq2⟩ : ∃ x, x = q * 2 := ⟨_, rfl⟩
  obtain ⟨q3, hq3⟩ : ∃ x, x = q * 3 := ⟨_, rfl⟩
  obtain ⟨i, hi⟩ : ∃ x, x = a + q := ⟨_, rfl⟩
  obtain ⟨j, hj⟩ : ∃ x, x = a + q2 := ⟨_, rfl⟩
  obtain ⟨k, hk⟩ : ∃ x, x = a + q3 := ⟨_, rfl⟩
  have hw1 : IntKind.i64.wrap ((b : Int) - (a : Int)) = (l : Int) := by rw [IntWalk.i64_in _ (by omega)]; omega
  have hw2 : (l : Int).tdiv 4 = (q : Int) := by rw [Int.tdiv_eq_ediv_of_nonneg (by omega)]; omega
  have hw3 : IntKind.i64.wrap (q : Int) = (q : Int) := by rw [IntWalk.i64_in _ (by omega)]
  have hw4 : IntKind.i64.wrap ((q : Int) * 2) = (q2 : Int) := by rw [IntWalk.i64_in _ (by omega)]; omega
  have hw5 : IntKind.i64.wrap ((q : Int) * 3) = (q3 : Int) := by rw [IntWalk.i64_in _ (by omega)]; omega
  have hw6 : IntKind.i64.wrap ((a : Int) + (q : Int)) = (i : Int) := by rw [IntWalk.i64_in _ (by omega)]; omega
  have hw7 : IntKind.i64.wrap ((a : Int) + (q2 : Int)) = (j : Int) := by rw [IntWalk.i64_in _ (by omega)]; omega
  have hw8 : IntKind.i64.wrap ((a : Int) + (q3 : Int)) = (k : Int) := by rw [IntWalk.i64_in _ (by omega)]; omega
  have hl8 : (8 : Int) ≤ (l : Int) := by omega
  have HBD := Lib.hid (show 1 ≤ i ∧ i + 1 < n ∧ 1 ≤ j ∧ j + 1 < n ∧ 1 ≤ k ∧ k + 1 < n by omega)
  have hRE : R = if l ≥ 50 then median wahead d (medianAdjacent wahead d i 0).1 (medianAdjacent wahead d j (medianAdjacent wahead d i 0).2).1 (medianAdjacent wahead d k (medianAdjacent wahead d j (medianAdjacent wahead d i 0).2).2).1 (medianAdjacent wahead d k (medianAdjacent wahead d j (medianAdjacent wahead d i 0).2).2).2 else median wahead d i j k 0 := by
    rw [hR]
    unfold rawPivot
    rw [← hl, if_pos (by omega), ← hq, Nat.mul_one, ← hi, ← hq2, ← hj, ← hq3, ← hk]
  have HRE := Lib.hid hRE
  clear hRE hR hl hq hq2 hq3 hi hj hk
  have HS := Lib.hid S
  have hx := ext_alloc W (.cells #[.func (.func 63) #[] #[.pointer (some ⟨ob, 0, none⟩)], .func (.func sf) #[] sb] 147)
  have HBX := Lib.hid (Blk.new W #[.func (.func 63) #[] #[.pointer (some ⟨ob, 0, none⟩)], .func (.func sf) #[] sb] 147)
  have HH := Lib.hid (h.ext S hx)
  have HX := Lib.hid hx
  have HLO := Lib.hid (show w0.heap.size ≤ W.heap.size from h.rb.size)
  have HNL := Lib.hid (show (W.alloc (.cells #[.func (.func 63) #[] #[.pointer (some ⟨ob, 0, none⟩)], .func (.func sf) #[] sb] 147)).heap.size = W.heap.size + 1 by rw [World.size_alloc])
  clear hx h S
  go_enter Try.func104, Try.ntmps104
  go_upto_if 34 with fail
  obtain ⟨nb, hnb⟩ : ∃ nb, nb = W.heap.size := ⟨_, rfl⟩
  obtain ⟨wb, hwb⟩ : ∃ wb, wb = W.alloc (.cells #[.func (.func 63) #[] #[.pointer (some ⟨ob, 0, none⟩)], .func (.func sf) #[] sb] 147) := ⟨_, rfl⟩
  rw [← hwb] at HBX HH HX HNL ⊢
  rw [← hnb] at HBX HLO HNL ⊢
  obtain ⟨cb, hcb⟩ : ∃ cb, cb = nb + 1 := ⟨_, rfl⟩
  have HCN := Lib.hid (show Cn w0 blk off n d cb 0 (wb.alloc (.cells #[.int .i64 0] 3)) by
    refine ⟨HH.out.ext HS.out (ext_alloc _ _), ?_, by have := HLO.out; omega⟩
    rw [hcb, ← HNL.out]
    exact Blk.new wb #[.int .i64 0] 3)
  have HX2 := Lib.hid (HX.out.trans (ext_alloc wb (.cells #[.int .i64 0] 3)))
  have HBX2 := Lib.hid (HBX.out.ext (ext_alloc wb (.cells #[.int .i64 0] 3)))
  have HNB := Lib.hid (show nb ≠ cb by omega)
  have HSZ := Lib.hid (show W.heap.size ≤ cb by omega)
  obtain ⟨wd, hwd⟩ : ∃ wd, wd = wb.alloc (.cells #[.int .i64 0] 3) := ⟨_, rfl⟩
  rw [← hwd] at HCN HX2 HBX2 ⊢
  rw [← hcb] at ⊢
  have HC := HCN
  clear hwd hcb hnb hwb HX HBX HH HNL HLO HCN hw1 hw2 hw3 hw4 hw5 hw6 hw7 hw8
  have bx := HBX2.out
  have k0 := bx.cell (i := 0) rfl
  have k1 := bx.cell (i := 1) rfl
  clear bx
  go_cut [10, 11, 12] (fun s10 s11 s12 wc => ∃ (x y z t : Nat), s10 = .int .i64 (x : Int) ∧ s11 = .int .i64 (y : Int) ∧ s12 = .int .i64 (z : Int) ∧ R = median wahead d x y z t ∧ x < n ∧ y < n ∧ z < n ∧ t < 100 ∧ Rb cb wd wc ∧ Cn w0 blk off n d cb t wc)
  case first =>
    by_cases h50 : 50 ≤ l
    · have h501 : (50 : Int) ≤ (l : Int) := by omega
      have hq1 := medianAdjacent_count wahead d i 0
      have hm1 := medianAdjacent_mem wahead d i 0
      obtain ⟨r1, hr1⟩ : ∃ r, r = medianAdjacent wahead d i 0 := ⟨_, rfl⟩
      rw [← hr1] at hq1 hm1
      obtain ⟨x, t1⟩ := r1
      have hq2 := medianAdjacent_count wahead d j t1
      have hm2 := medianAdjacent_mem wahead d j t1
      obtain ⟨r2, hr2⟩ : ∃ r, r = medianAdjacent wahead d j t1 := ⟨_, rfl⟩
      rw [← hr2] at hq2 hm2
      obtain ⟨y, t2⟩ := r2
      have hq3 := medianAdjacent_count wahead d k t2
      have hm3 := medianAdjacent_mem wahead d k t2
      obtain ⟨r3, hr3⟩ : ∃ r, r = medianAdjacent wahead d k t2 := ⟨_, rfl⟩
      rw [← hr3] at hq3 hm3
      obtain ⟨z, t3⟩ := r3
      simp only at hq1 hq2 hq3 hm1 hm2 hm3
      have HF := Lib.hid (show R = median wahead d x y z t3 by rw [HRE.out, if_pos h50, ← hr1]; simp only; rw [← hr2]; simp only; rw [← hr3])
      have HT := Lib.hid (show t1 < 100 ∧ t2 < 100 ∧ t3 < 100 ∧ x < n ∧ y < n ∧ z < n by have := HBD.out; omega)
      have HE := Lib.hid (And.intro hr1 (And.intro hr2 hr3))
      clear hq1 hq2 hq3 hm1 hm2 hm3 hr1 hr2 hr3
      go_wp2_with fail
      refine (sMedAdj_any HS.out HC.out HBD.out.1 HBD.out.2.1 (by omega)).mono ?_
      rw [← HE.out.1]
      rintro e w3 ⟨rfl, hk3, hc3⟩
      have HC3 := Lib.hid hc3
      have HK3 := Lib.hid hk3
      clear hk3 hc3 k0 k1
      have bx := HK3.out.blk HBX2.out HNB.out
      have k0 := bx.cell (i := 0) rfl
      have k1 := bx.cell (i := 1) rfl
      clear bx
      simp only at HC3 ⊢
      go_wp2_with fail
      clear k0 k1
      refine (sMedAdj_any HS.out HC3.out HBD.out.2.2.1 HBD.out.2.2.2.1 (by have := HT.out; omega)).mono ?_
      rw [← HE.out.2.1]
      rintro e w4 ⟨rfl, hk4, hc4⟩
      have HC4 := Lib.hid hc4
      have HK4 := Lib.hid (HK3.out.trans hk4)
      clear hk4 hc4
      have bx := HK4.out.blk HBX2.out HNB.out
      have k0 := bx.cell (i := 0) rfl
      have k1 := bx.cell (i := 1) rfl
      clear bx
      simp only at HC4 ⊢
      go_wp2_with fail
      clear k0 k1
      refine (sMedAdj_any HS.out HC4.out HBD.out.2.2.2.2.1 HBD.out.2.2.2.2.2 (by have := HT.out; omega)).mono ?_
      rw [← HE.out.2.2]
      rintro e w5 ⟨rfl, hk5, hc5⟩
      have HC5 := Lib.hid hc5
      have HK5 := Lib.hid (HK4.out.trans hk5)
      clear hk5 hc5
      simp only at HC5 ⊢
      go_wp2_with fail
      go_meet
      exact ⟨x, y, z, t3, rfl, rfl, rfl, HF.out, HT.out.2.2.2.1, HT.out.2.2.2.2.1, HT.out.2.2.2.2.2, HT.out.2.2.1, HK5.out, HC5.out⟩
    · have h501 : ¬ (50 : Int) ≤ (l : Int) := by omega
      go_wp2_with fail
      go_meet
      exact ⟨i, j, k, 0, rfl, rfl, rfl, by rw [HRE.out, if_neg h50], by have := HBD.out; omega, by have := HBD.out; omega, by have := HBD.out; omega, by omega, Rb.refl _ _, HC.out⟩
  case rest =>
    obtain ⟨x, y, z, t, rfl, rfl, rfl, hRm, hx, hy, hz, ht, hk3, hc3⟩ := hcut
    have HRm := Lib.hid hRm
    have HC3 := Lib.hid hc3
    have HK3 := Lib.hid hk3
    clear hk3 hc3 k0 k1 hRm HC HRE
    have bx := HK3.out.blk HBX2.out HNB.out
    have k0 := bx.cell (i := 0) rfl
    have k1 := bx.cell (i := 1) rfl
    clear bx
    go_wp2_with fail
    clear k0 k1
    refine (sMed_any HS.out HC3.out hx hy hz (by omega)).mono ?_
    rw [← HRm.out]
    rintro e w4 ⟨rfl, hk4, hc4⟩
    have HC4 := Lib.hid hc4
    have HX4 := Lib.hid ((HK3.out.trans hk4).ext HX2.out HSZ.out)
    clear hk4 hc4 HRm
    obtain ⟨rp, rs⟩ := R
    simp only at HC4 HP ⊢
    have c0 := HC4.out.cnt.cell (i := 0) rfl
    by_cases h0 : rs = 0
    · have h01 : (rs : Int) = 0 := by omega
      have h02 : ((rs : Int) == 0) = true := by simp [h01]
      have HPP := Lib.hid (show hintCode (hintOf rs) = 1 by rw [h0]; rfl)
      clear h0
      go_wp2_with fail
      go_ret2
      rw [HP.out]
      simp only
      rw [HPP.out]
      exact ⟨rfl, HX4.out⟩
    have h01 : ¬ (rs : Int) = 0 := by omega
    have h02 : ((rs : Int) == 0) = false := by simp [h0]
    by_cases h12 : rs = 12
    · have h121 : (rs : Int) = 12 := by omega
      have h122 : ((rs : Int) == 12) = true := by simp [h121]
      have HPP := Lib.hid (show hintCode (hintOf rs) = 2 by rw [h12]; rfl)
      clear h12
      go_wp2_with fail
      go_ret2
      rw [HP.out]
      simp only
      rw [HPP.out]
      exact ⟨rfl, HX4.out⟩
    have h121 : ¬ (rs : Int) = 12 := by omega
    have h122 : ((rs : Int) == 12) = false := by simp only [beq_eq_false_iff_ne, ne_eq]; exact h121
    have HPP := Lib.hid (show hintCode (hintOf rs) = 0 by unfold hintOf; rw [if_neg h0, if_neg h12]; rfl)
    go_wp2_with fail
    go_ret2
    rw [HP.out]
    simp only
    rw [HPP.out]
    exact ⟨rfl, HX4.out⟩
end Go.Proofs.Ytocdifjdeifclaa
