/-
  The walks of layer 6, the fourth part: Next.
-/
import Derived.Test.YtfhahkklkkdkoaaVecFns2
namespace Go.Proofs.Ytfhahkklkkdkoaa
open Go.RowKit Mono
set_option linter.unusedSimpArgs false
set_option linter.unusedVariables false

/-- One more: the counts and the error. -/
def vnext (a b s : Int) : (Int × Int) × Int :=
  if vgood a b = true ∧ s = 1 then (if a = 1099511627776 then ((0, 0), 3) else ((a + 1, b), 0))
  else if vgood a b = true ∧ s = 2 then (if b = 1099511627776 then ((0, 0), 3) else ((a, b + 1), 0))
  else ((0, 0), 2)
theorem vgood_bounds {a b : Int} (h : vgood a b = true) : 0 ≤ a ∧ a ≤ 1099511627776 ∧ 0 ≤ b ∧ b ≤ 1099511627776 := by
  unfold vgood at h
  simp only [Bool.and_eq_true, decide_eq_true_eq] at h
  omega
theorem vgood_more1 {a b : Int} (h : vgood a b = true) : vgood (a + 1) b = !(a == 1099511627776) := by
  have := vgood_bounds h
  unfold vgood
  rw [Bool.eq_iff_iff]
  simp only [Bool.and_eq_true, decide_eq_true_eq, Bool.not_eq_true', beq_eq_false_iff_ne]
  omega
theorem vgood_more2 {a b : Int} (h : vgood a b = true) : vgood a (b + 1) = !(b == 1099511627776) := by
  have := vgood_bounds h
  unfold vgood
  rw [Bool.eq_iff_iff]
  simp only [Bool.and_eq_true, decide_eq_true_eq, Bool.not_eq_true', beq_eq_false_iff_ne]
  omega
def nextV (r : (Int × Int) × Int) : Value := .tuple #[vecV r.1.1 r.1.2, .int .i64 r.2]

set_option maxHeartbeats 800000 in
theorem vecNext_any (a b s : Int) (w : World) (hs : In64 s) : Calls Try.prog 20 #[vecV a b, .int .i64 s] w fun e w' => e = .returned (nextV (vnext a b s)) ∧ Ext w w' := by
  unfold In64 at hs
  unfold nextV
  rcases (show s = 1 ∨ s = 2 ∨ s < 1 ∨ 2 < s by omega) with h1 | h1 | h1 | h1
  · subst h1
    unfold vecV
    go_enter Try.func20, Try.ntmps20
    go_wp2_with fail
    have ba := (Blk.new (w) #[.int .i64 a, .int .i64 b] 25).ext (ext_alloc _ (.cells #[.int .i64 0, .int .i64 0] 25))
    have bo := Blk.new (((w).alloc (.cells #[.int .i64 a, .int .i64 b] 25))) #[.int .i64 0, .int .i64 0] 25
    have hx : Ext w (((((w).alloc (.cells #[.int .i64 a, .int .i64 b] 25))).alloc (.cells #[.int .i64 0, .int .i64 0] 25))) := Ext.trans (ext_alloc _ _) (ext_alloc _ _)
    simp only [World.size_alloc] at bo
    obtain ⟨n, hnn⟩ : ∃ n, n = w.heap.size := ⟨_, rfl⟩
    rw [← hnn] at ba bo ⊢
    have HN := Lib.hid hnn
    clear hnn
    generalize ((((w).alloc (.cells #[.int .i64 a, .int .i64 b] 25))).alloc (.cells #[.int .i64 0, .int .i64 0] 25)) = W at *
    have bac0 := ba.cell (i := 0) rfl
    have baz0 := ba.thaw 0
    have bac1 := ba.cell (i := 1) rfl
    have baz1 := ba.thaw 1
    refine (vecGood_any a b _).mono ?_
    rintro e w' ⟨rfl, he⟩
    replace ba := ba.ext he
    replace bo := bo.ext he
    replace hx := Ext.trans hx he
    clear bac0 bac1 baz0 baz1 he
    have bac0 := ba.cell (i := 0) rfl
    have baz0 := ba.thaw 0
    have bac1 := ba.cell (i := 1) rfl
    have baz1 := ba.thaw 1
    have boc0 := bo.cell (i := 0) rfl
    have boz0 := bo.thaw 0
    have boc1 := bo.cell (i := 1) rfl
    have boz1 := bo.thaw 1
    cases hg : vgood a b
    · have HV := Lib.hid (show vnext a b 1 = ((0, 0), 2) by simp [vnext, hg])
      clear hg
      go_wp2_with fail
      have bo2 := (bo.set 0 (.int .i64 (0))).set 1 (.int .i64 (0))
      have d0 := bo2.cell (i := 0) rfl
      have d1 := bo2.cell (i := 1) rfl
      have G1 : w.heap.size ≤ n + 1 := by have := HN.out; omega
      exact bodyPost_ret (v := .tuple #[.agg #[.int .i64 (0), .int .i64 (0)], .int .i64 2]) (by simp [results, Try.results20, d0, d1, go_sem]) rfl ⟨by (rw [HV.out]; try rfl), (hx.setCell G1 _).setCell G1 _⟩
    · have hb := vgood_bounds hg
      have hm := vgood_more1 hg
      have HG := Lib.hid hg
      have HB := Lib.hid hb
      have HM := Lib.hid hm
      clear hg hm
      go_wp2_with fail
      replace ba := ba.set 0 (.int .i64 (a + 1))
      have G0 : w.heap.size ≤ n := by have := HN.out; omega
      replace bo := bo.apart (a := ⟨n, 0, none⟩) (.int .i64 (a + 1)) (by simp)
      replace hx := hx.setCell (p := ⟨n, 0, none⟩) G0 (.int .i64 (a + 1))
      clear bac0 bac1 baz0 baz1 boc0 boc1 boz0 boz1 G0
      simp only [List.set_cons_zero, List.set_cons_succ] at ba
      generalize w'.setCell ⟨n, 0, none⟩ (.int .i64 (a + 1)) = W1 at *
      clear w'
      refine (vecGood_any (a + 1) (b) _).mono ?_
      rintro e w' ⟨rfl, he⟩
      rw [HM.out]
      replace ba := ba.ext he
      replace bo := bo.ext he
      replace hx := Ext.trans hx he
      clear he hb
      have bac0 := ba.cell (i := 0) rfl
      have baz0 := ba.thaw 0
      have bac1 := ba.cell (i := 1) rfl
      have baz1 := ba.thaw 1
      have boc0 := bo.cell (i := 0) rfl
      have boz0 := bo.thaw 0
      have boc1 := bo.cell (i := 1) rfl
      have boz1 := bo.thaw 1
      cases hq : (a == 1099511627776)
      · have HV := Lib.hid (show vnext a b 1 = ((a + 1, b), 0) by have := HG.out; simp at hq; simp [vnext, this, hq])
        go_wp2_with fail
        have bo2 := (bo.set 0 (.int .i64 (a + 1))).set 1 (.int .i64 (b))
        have d0 := bo2.cell (i := 0) rfl
        have d1 := bo2.cell (i := 1) rfl
        have G1 : w.heap.size ≤ n + 1 := by have := HN.out; omega
        exact bodyPost_ret (v := .tuple #[.agg #[.int .i64 (a + 1), .int .i64 (b)], .int .i64 0]) (by simp [results, Try.results20, d0, d1, go_sem]) rfl ⟨by (rw [HV.out]; try rfl), (hx.setCell G1 _).setCell G1 _⟩
      · have HV := Lib.hid (show vnext a b 1 = ((0, 0), 3) by have := HG.out; simp at hq; subst hq; simp [vnext, this])
        go_wp2_with fail
        have bo2 := (bo.set 0 (.int .i64 (0))).set 1 (.int .i64 (0))
        have d0 := bo2.cell (i := 0) rfl
        have d1 := bo2.cell (i := 1) rfl
        have G1 : w.heap.size ≤ n + 1 := by have := HN.out; omega
        exact bodyPost_ret (v := .tuple #[.agg #[.int .i64 (0), .int .i64 (0)], .int .i64 3]) (by simp [results, Try.results20, d0, d1, go_sem]) rfl ⟨by (rw [HV.out]; try rfl), (hx.setCell G1 _).setCell G1 _⟩
  · subst h1
    unfold vecV
    go_enter Try.func20, Try.ntmps20
    go_wp2_with fail
    have ba := (Blk.new (w) #[.int .i64 a, .int .i64 b] 25).ext (ext_alloc _ (.cells #[.int .i64 0, .int .i64 0] 25))
    have bo := Blk.new (((w).alloc (.cells #[.int .i64 a, .int .i64 b] 25))) #[.int .i64 0, .int .i64 0] 25
    have hx : Ext w (((((w).alloc (.cells #[.int .i64 a, .int .i64 b] 25))).alloc (.cells #[.int .i64 0, .int .i64 0] 25))) := Ext.trans (ext_alloc _ _) (ext_alloc _ _)
    simp only [World.size_alloc] at bo
    obtain ⟨n, hnn⟩ : ∃ n, n = w.heap.size := ⟨_, rfl⟩
    rw [← hnn] at ba bo ⊢
    have HN := Lib.hid hnn
    clear hnn
    generalize ((((w).alloc (.cells #[.int .i64 a, .int .i64 b] 25))).alloc (.cells #[.int .i64 0, .int .i64 0] 25)) = W at *
    have bac0 := ba.cell (i := 0) rfl
    have baz0 := ba.thaw 0
    have bac1 := ba.cell (i := 1) rfl
    have baz1 := ba.thaw 1
    refine (vecGood_any a b _).mono ?_
    rintro e w' ⟨rfl, he⟩
    replace ba := ba.ext he
    replace bo := bo.ext he
    replace hx := Ext.trans hx he
    clear bac0 bac1 baz0 baz1 he
    have bac0 := ba.cell (i := 0) rfl
    have baz0 := ba.thaw 0
    have bac1 := ba.cell (i := 1) rfl
    have baz1 := ba.thaw 1
    have boc0 := bo.cell (i := 0) rfl
    have boz0 := bo.thaw 0
    have boc1 := bo.cell (i := 1) rfl
    have boz1 := bo.thaw 1
    cases hg : vgood a b
    · have HV := Lib.hid (show vnext a b 2 = ((0, 0), 2) by simp [vnext, hg])
      clear hg
      go_wp2_with fail
      have bo2 := (bo.set 0 (.int .i64 (0))).set 1 (.int .i64 (0))
      have d0 := bo2.cell (i := 0) rfl
      have d1 := bo2.cell (i := 1) rfl
      have G1 : w.heap.size ≤ n + 1 := by have := HN.out; omega
      exact bodyPost_ret (v := .tuple #[.agg #[.int .i64 (0), .int .i64 (0)], .int .i64 2]) (by simp [results, Try.results20, d0, d1, go_sem]) rfl ⟨by (rw [HV.out]; try rfl), (hx.setCell G1 _).setCell G1 _⟩
    · have hb := vgood_bounds hg
      have hm := vgood_more2 hg
      have HG := Lib.hid hg
      have HB := Lib.hid hb
      have HM := Lib.hid hm
      clear hg hm
      go_wp2_with fail
      replace ba := ba.set 1 (.int .i64 (b + 1))
      have G0 : w.heap.size ≤ n := by have := HN.out; omega
      replace bo := bo.apart (a := ⟨n, 1, none⟩) (.int .i64 (b + 1)) (by simp)
      replace hx := hx.setCell (p := ⟨n, 1, none⟩) G0 (.int .i64 (b + 1))
      clear bac0 bac1 baz0 baz1 boc0 boc1 boz0 boz1 G0
      simp only [List.set_cons_zero, List.set_cons_succ] at ba
      generalize w'.setCell ⟨n, 1, none⟩ (.int .i64 (b + 1)) = W1 at *
      clear w'
      refine (vecGood_any (a) (b + 1) _).mono ?_
      rintro e w' ⟨rfl, he⟩
      rw [HM.out]
      replace ba := ba.ext he
      replace bo := bo.ext he
      replace hx := Ext.trans hx he
      clear he hb
      have bac0 := ba.cell (i := 0) rfl
      have baz0 := ba.thaw 0
      have bac1 := ba.cell (i := 1) rfl
      have baz1 := ba.thaw 1
      have boc0 := bo.cell (i := 0) rfl
      have boz0 := bo.thaw 0
      have boc1 := bo.cell (i := 1) rfl
      have boz1 := bo.thaw 1
      cases hq : (b == 1099511627776)
      · have HV := Lib.hid (show vnext a b 2 = ((a, b + 1), 0) by have := HG.out; simp at hq; simp [vnext, this, hq])
        go_wp2_with fail
        have bo2 := (bo.set 0 (.int .i64 (a))).set 1 (.int .i64 (b + 1))
        have d0 := bo2.cell (i := 0) rfl
        have d1 := bo2.cell (i := 1) rfl
        have G1 : w.heap.size ≤ n + 1 := by have := HN.out; omega
        exact bodyPost_ret (v := .tuple #[.agg #[.int .i64 (a), .int .i64 (b + 1)], .int .i64 0]) (by simp [results, Try.results20, d0, d1, go_sem]) rfl ⟨by (rw [HV.out]; try rfl), (hx.setCell G1 _).setCell G1 _⟩
      · have HV := Lib.hid (show vnext a b 2 = ((0, 0), 3) by have := HG.out; simp at hq; subst hq; simp [vnext, this])
        go_wp2_with fail
        have bo2 := (bo.set 0 (.int .i64 (0))).set 1 (.int .i64 (0))
        have d0 := bo2.cell (i := 0) rfl
        have d1 := bo2.cell (i := 1) rfl
        have G1 : w.heap.size ≤ n + 1 := by have := HN.out; omega
        exact bodyPost_ret (v := .tuple #[.agg #[.int .i64 (0), .int .i64 (0)], .int .i64 3]) (by simp [results, Try.results20, d0, d1, go_sem]) rfl ⟨by (rw [HV.out]; try rfl), (hx.setCell G1 _).setCell G1 _⟩
  iterate 2
    · have HV := Lib.hid (show vnext a b s = ((0, 0), 2) by unfold vnext; rw [if_neg (by omega), if_neg (by omega)])
      unfold vecV
      go_enter Try.func20, Try.ntmps20
      go_wp2_with fail
      all_goals try omega
      all_goals try (simp_all; done)
      all_goals exact bodyPost_ret (v := .tuple #[.agg #[.int .i64 0, .int .i64 0], .int .i64 2]) (by simp [results, Try.results20, go_sem]) rfl ⟨by (rw [HV.out]; try rfl), Ext.trans (ext_alloc _ _) (ext_alloc _ _)⟩

set_option maxHeartbeats 800000 in
theorem refNext_any (a b s : Int) (w : World) (hs : In64 s) : Calls Try.prog 21 #[vecV a b, .int .i64 s] w fun e w' => e = .returned (nextV (vnext a b s)) ∧ Ext w w' := by
  unfold In64 at hs
  unfold nextV
  rcases (show s = 1 ∨ s = 2 ∨ s < 1 ∨ 2 < s by omega) with h1 | h1 | h1 | h1
  · subst h1
    unfold vecV
    go_enter Try.func21, Try.ntmps21
    go_wp2_with fail
    have ba := (Blk.new (w) #[.int .i64 a, .int .i64 b] 25).ext (ext_alloc _ (.cells #[.int .i64 0, .int .i64 0] 25))
    have bo := Blk.new (((w).alloc (.cells #[.int .i64 a, .int .i64 b] 25))) #[.int .i64 0, .int .i64 0] 25
    have hx : Ext w (((((w).alloc (.cells #[.int .i64 a, .int .i64 b] 25))).alloc (.cells #[.int .i64 0, .int .i64 0] 25))) := Ext.trans (ext_alloc _ _) (ext_alloc _ _)
    simp only [World.size_alloc] at bo
    obtain ⟨n, hnn⟩ : ∃ n, n = w.heap.size := ⟨_, rfl⟩
    rw [← hnn] at ba bo ⊢
    have HN := Lib.hid hnn
    clear hnn
    generalize ((((w).alloc (.cells #[.int .i64 a, .int .i64 b] 25))).alloc (.cells #[.int .i64 0, .int .i64 0] 25)) = W at *
    have bac0 := ba.cell (i := 0) rfl
    have baz0 := ba.thaw 0
    have bac1 := ba.cell (i := 1) rfl
    have baz1 := ba.thaw 1
    refine (refGood_any a b _).mono ?_
    rintro e w' ⟨rfl, he⟩
    replace ba := ba.ext he
    replace bo := bo.ext he
    replace hx := Ext.trans hx he
    clear bac0 bac1 baz0 baz1 he
    have bac0 := ba.cell (i := 0) rfl
    have baz0 := ba.thaw 0
    have bac1 := ba.cell (i := 1) rfl
    have baz1 := ba.thaw 1
    have boc0 := bo.cell (i := 0) rfl
    have boz0 := bo.thaw 0
    have boc1 := bo.cell (i := 1) rfl
    have boz1 := bo.thaw 1
    cases hg : vgood a b
    · have HV := Lib.hid (show vnext a b 1 = ((0, 0), 2) by simp [vnext, hg])
      clear hg
      go_wp2_with fail
      have bo2 := (bo.set 0 (.int .i64 (0))).set 1 (.int .i64 (0))
      have d0 := bo2.cell (i := 0) rfl
      have d1 := bo2.cell (i := 1) rfl
      have G1 : w.heap.size ≤ n + 1 := by have := HN.out; omega
      exact bodyPost_ret (v := .tuple #[.agg #[.int .i64 (0), .int .i64 (0)], .int .i64 2]) (by simp [results, Try.results21, d0, d1, go_sem]) rfl ⟨by (rw [HV.out]; try rfl), (hx.setCell G1 _).setCell G1 _⟩
    · have hb := vgood_bounds hg
      have HG := Lib.hid hg
      clear hg
      cases hq : (a == 1099511627776)
      · have HV := Lib.hid (show vnext a b 1 = ((a + 1, b), 0) by have := HG.out; simp at hq; simp [vnext, this, hq])
        have nb : n + 1 ≠ n := by omega
        have nc : n ≠ n + 1 := by omega
        go_wp2_with fail
        replace ba := ba.set 0 (.int .i64 (a + 1))
        replace bo := (bo.apart (a := ⟨n, 0, none⟩) (.int .i64 (a + 1)) nb).set 0 (.int .i64 (a + 1))
        replace bo := bo.set 1 (.int .i64 (b))
        have G1 : w.heap.size ≤ n + 1 := by have := HN.out; omega
        have G0 : w.heap.size ≤ n := by have := HN.out; omega
        have d0 := bo.cell (i := 0) rfl
        have d1 := bo.cell (i := 1) rfl
        exact bodyPost_ret (v := .tuple #[.agg #[.int .i64 (a + 1), .int .i64 (b)], .int .i64 0]) (by simp [results, Try.results21, d0, d1, go_sem]) rfl ⟨by (rw [HV.out]; try rfl), ((hx.setCell G0 _).setCell G1 _).setCell G1 _⟩
      · have HV := Lib.hid (show vnext a b 1 = ((0, 0), 3) by have := HG.out; simp at hq; subst hq; simp [vnext, this])
        go_wp2_with fail
        have bo2 := (bo.set 0 (.int .i64 (0))).set 1 (.int .i64 (0))
        have d0 := bo2.cell (i := 0) rfl
        have d1 := bo2.cell (i := 1) rfl
        have G1 : w.heap.size ≤ n + 1 := by have := HN.out; omega
        exact bodyPost_ret (v := .tuple #[.agg #[.int .i64 (0), .int .i64 (0)], .int .i64 3]) (by simp [results, Try.results21, d0, d1, go_sem]) rfl ⟨by (rw [HV.out]; try rfl), (hx.setCell G1 _).setCell G1 _⟩
  · subst h1
    unfold vecV
    go_enter Try.func21, Try.ntmps21
    go_wp2_with fail
    have ba := (Blk.new (w) #[.int .i64 a, .int .i64 b] 25).ext (ext_alloc _ (.cells #[.int .i64 0, .int .i64 0] 25))
    have bo := Blk.new (((w).alloc (.cells #[.int .i64 a, .int .i64 b] 25))) #[.int .i64 0, .int .i64 0] 25
    have hx : Ext w (((((w).alloc (.cells #[.int .i64 a, .int .i64 b] 25))).alloc (.cells #[.int .i64 0, .int .i64 0] 25))) := Ext.trans (ext_alloc _ _) (ext_alloc _ _)
    simp only [World.size_alloc] at bo
    obtain ⟨n, hnn⟩ : ∃ n, n = w.heap.size := ⟨_, rfl⟩
    rw [← hnn] at ba bo ⊢
    have HN := Lib.hid hnn
    clear hnn
    generalize ((((w).alloc (.cells #[.int .i64 a, .int .i64 b] 25))).alloc (.cells #[.int .i64 0, .int .i64 0] 25)) = W at *
    have bac0 := ba.cell (i := 0) rfl
    have baz0 := ba.thaw 0
    have bac1 := ba.cell (i := 1) rfl
    have baz1 := ba.thaw 1
    refine (refGood_any a b _).mono ?_
    rintro e w' ⟨rfl, he⟩
    replace ba := ba.ext he
    replace bo := bo.ext he
    replace hx := Ext.trans hx he
    clear bac0 bac1 baz0 baz1 he
    have bac0 := ba.cell (i := 0) rfl
    have baz0 := ba.thaw 0
    have bac1 := ba.cell (i := 1) rfl
    have baz1 := ba.thaw 1
    have boc0 := bo.cell (i := 0) rfl
    have boz0 := bo.thaw 0
    have boc1 := bo.cell (i := 1) rfl
    have boz1 := bo.thaw 1
    cases hg : vgood a b
    · have HV := Lib.hid (show vnext a b 2 = ((0, 0), 2) by simp [vnext, hg])
      clear hg
      go_wp2_with fail
      have bo2 := (bo.set 0 (.int .i64 (0))).set 1 (.int .i64 (0))
      have d0 := bo2.cell (i := 0) rfl
      have d1 := bo2.cell (i := 1) rfl
      have G1 : w.heap.size ≤ n + 1 := by have := HN.out; omega
      exact bodyPost_ret (v := .tuple #[.agg #[.int .i64 (0), .int .i64 (0)], .int .i64 2]) (by simp [results, Try.results21, d0, d1, go_sem]) rfl ⟨by (rw [HV.out]; try rfl), (hx.setCell G1 _).setCell G1 _⟩
    · have hb := vgood_bounds hg
      have HG := Lib.hid hg
      clear hg
      cases hq : (b == 1099511627776)
      · have HV := Lib.hid (show vnext a b 2 = ((a, b + 1), 0) by have := HG.out; simp at hq; simp [vnext, this, hq])
        have nb : n + 1 ≠ n := by omega
        have nc : n ≠ n + 1 := by omega
        go_wp2_with fail
        replace ba := ba.set 1 (.int .i64 (b + 1))
        replace bo := (bo.apart (a := ⟨n, 1, none⟩) (.int .i64 (b + 1)) nb).set 0 (.int .i64 (a))
        replace bo := bo.set 1 (.int .i64 (b + 1))
        have G1 : w.heap.size ≤ n + 1 := by have := HN.out; omega
        have G0 : w.heap.size ≤ n := by have := HN.out; omega
        have d0 := bo.cell (i := 0) rfl
        have d1 := bo.cell (i := 1) rfl
        exact bodyPost_ret (v := .tuple #[.agg #[.int .i64 (a), .int .i64 (b + 1)], .int .i64 0]) (by simp [results, Try.results21, d0, d1, go_sem]) rfl ⟨by (rw [HV.out]; try rfl), ((hx.setCell G0 _).setCell G1 _).setCell G1 _⟩
      · have HV := Lib.hid (show vnext a b 2 = ((0, 0), 3) by have := HG.out; simp at hq; subst hq; simp [vnext, this])
        go_wp2_with fail
        have bo2 := (bo.set 0 (.int .i64 (0))).set 1 (.int .i64 (0))
        have d0 := bo2.cell (i := 0) rfl
        have d1 := bo2.cell (i := 1) rfl
        have G1 : w.heap.size ≤ n + 1 := by have := HN.out; omega
        exact bodyPost_ret (v := .tuple #[.agg #[.int .i64 (0), .int .i64 (0)], .int .i64 3]) (by simp [results, Try.results21, d0, d1, go_sem]) rfl ⟨by (rw [HV.out]; try rfl), (hx.setCell G1 _).setCell G1 _⟩
  iterate 2
    · have HV := Lib.hid (show vnext a b s = ((0, 0), 2) by unfold vnext; rw [if_neg (by omega), if_neg (by omega)])
      have h2 : (s != 1) = true := by simp; omega
      have h3 : (s != 2) = true := by simp; omega
      unfold vecV
      go_enter Try.func21, Try.ntmps21
      go_wp2_with fail
      all_goals try omega
      all_goals try (simp_all; done)
      all_goals exact bodyPost_ret (v := .tuple #[.agg #[.int .i64 0, .int .i64 0], .int .i64 2]) (by simp [results, Try.results21, go_sem]) rfl ⟨by (rw [HV.out]; try rfl), Ext.trans (ext_alloc _ _) (ext_alloc _ _)⟩
end Go.Proofs.Ytfhahkklkkdkoaa
