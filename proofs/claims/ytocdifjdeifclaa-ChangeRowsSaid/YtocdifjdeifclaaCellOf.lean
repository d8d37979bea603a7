/-
  Layer 8: the cell of one write, by the code and by the document; cells that are the very same.
-/
import Derived.Test.YtocdifjdeifclaaCell
namespace Go.Proofs.Ytocdifjdeifclaa
open Go Go.RowKit Mono Num
set_option linter.unusedVariables false
set_option linter.unusedSimpArgs false
set_option maxRecDepth 100000

def set8 (w : World) (b : Nat) (x0 x1 x2 x3 x4 x5 x6 x7 : Value) : World := (((((((w.setCell ⟨b, 0, none⟩ x0).setCell ⟨b, 1, none⟩ x1).setCell ⟨b, 2, none⟩ x2).setCell ⟨b, 3, none⟩ x3).setCell ⟨b, 4, none⟩ x4).setCell ⟨b, 5, none⟩ x5).setCell ⟨b, 6, none⟩ x6).setCell ⟨b, 7, none⟩ x7
theorem set8_blk {w : World} {b : Nat} {y0 y1 y2 y3 y4 y5 y6 y7 : Value} (h : Blk w b [y0, y1, y2, y3, y4, y5, y6, y7]) (x0 x1 x2 x3 x4 x5 x6 x7 : Value) : Blk (set8 w b x0 x1 x2 x3 x4 x5 x6 x7) b [x0, x1, x2, x3, x4, x5, x6, x7] :=
  (((((((h.set 0 x0).set 1 x1).set 2 x2).set 3 x3).set 4 x4).set 5 x5).set 6 x6).set 7 x7
theorem set8_ext {w0 w : World} {b : Nat} (h : Ext w0 w) (hb : w0.heap.size ≤ b) (x0 x1 x2 x3 x4 x5 x6 x7 : Value) : Ext w0 (set8 w b x0 x1 x2 x3 x4 x5 x6 x7) :=
  (((((((h.setCell (p := ⟨b, 0, none⟩) hb x0).setCell (p := ⟨b, 1, none⟩) hb x1).setCell (p := ⟨b, 2, none⟩) hb x2).setCell (p := ⟨b, 3, none⟩) hb x3).setCell (p := ⟨b, 4, none⟩) hb x4).setCell (p := ⟨b, 5, none⟩) hb x5).setCell (p := ⟨b, 6, none⟩) hb x6).setCell (p := ⟨b, 7, none⟩) hb x7
set_option maxHeartbeats 8000000 in
theorem cellOf_any (p sn ss va vb : Int) (gone : Bool) (value : List UInt8) (w : World) (hp : p = 1 ∨ p = 2) (hs : sgood sn ss = true) (hn : 1 ≤ sn) (hv : vgood va vb = true) (hg : gone = true → value = []) (hl : value.length ≤ 64) :
    Calls Try.prog 30 #[.int .i64 p, stV sn ss, vecV va vb, .bool gone, strV value] w fun e w' => e = .returned (.tuple #[clV (clOf p sn ss va vb gone value), .int .i64 0]) ∧ Ext w w' := by
  have HS := Lib.hid hs
  have HV := Lib.hid hv
  have sn0 : (sn == 0) = false := by rw [beq_eq_false_iff_ne]; omega
  have hsz := strV_size value
  clear hs hv
  cases gone
  · clear hg
    rcases hp with rfl | rfl
    · skip
      have HR : Hid (clOf 1 sn ss va vb false value = ⟨sn, ss, va, vb, false, value, 0, 0⟩) := Lib.hid (by unfold clOf; simp)
      unfold stV vecV strV
      try dsimp only
      go_enter Try.func30, Try.ntmps30
      go_upto_region 1 with (fail)
      have bs := Blk.new w #[.int .i64 sn, .int .i64 ss] 24
      have bv := Blk.new (w.alloc (.cells #[.int .i64 sn, .int .i64 ss] 24)) #[.int .i64 va, .int .i64 vb] 26
      have bc := Blk.new ((w.alloc (.cells #[.int .i64 sn, .int .i64 ss] 24)).alloc (.cells #[.int .i64 va, .int .i64 vb] 26)) #[.int .i64 0, .int .i64 0, .int .i64 0, .int .i64 0, .bool false, .string ⟨#[]⟩, .int .i64 0, .int .i64 0] 54
      replace bs := (bs.ext (ext_alloc _ (.cells #[.int .i64 va, .int .i64 vb] 26))).ext (ext_alloc _ (.cells #[.int .i64 0, .int .i64 0, .int .i64 0, .int .i64 0, .bool false, .string ⟨#[]⟩, .int .i64 0, .int .i64 0] 54))
      replace bv := bv.ext (ext_alloc _ (.cells #[.int .i64 0, .int .i64 0, .int .i64 0, .int .i64 0, .bool false, .string ⟨#[]⟩, .int .i64 0, .int .i64 0] 54))
      have hx := ((ext_alloc w (.cells #[.int .i64 sn, .int .i64 ss] 24)).trans (ext_alloc _ (.cells #[.int .i64 va, .int .i64 vb] 26))).trans (ext_alloc _ (.cells #[.int .i64 0, .int .i64 0, .int .i64 0, .int .i64 0, .bool false, .string ⟨#[]⟩, .int .i64 0, .int .i64 0] 54))
      simp only [World.size_alloc] at bv bc
      obtain ⟨ns, hns⟩ : ∃ n, n = w.heap.size := ⟨_, rfl⟩
      obtain ⟨nv, hnv⟩ : ∃ n, n = w.heap.size + 1 := ⟨_, rfl⟩
      obtain ⟨nc, hnc⟩ : ∃ n, n = w.heap.size + 1 + 1 := ⟨_, rfl⟩
      have hne1 : ns ≠ nc := by omega
      have hne2 : nv ≠ nc := by omega
      have HNC := Lib.hid (show w.heap.size ≤ nc by omega)
      rw [← hns] at bs
      rw [← hnv] at bv
      rw [← hnc] at bc
      rw [← hnc, ← hnv, ← hns]
      clear hns hnv hnc
      generalize ((w.alloc (.cells #[.int .i64 sn, .int .i64 ss] 24)).alloc (.cells #[.int .i64 va, .int .i64 vb] 26)).alloc (.cells #[.int .i64 0, .int .i64 0, .int .i64 0, .int .i64 0, .bool false, .string ⟨#[]⟩, .int .i64 0, .int .i64 0] 54) = W at *
      have s0 := bs.cell (i := 0) rfl
      have s1 := bs.cell (i := 1) rfl
      go_wp2_with fail
      refine (stGood_any sn ss _).mono ?_
      rintro e w1 ⟨rfl, x1⟩
      rw [HS.out]
      replace bs := bs.ext x1
      replace bv := bv.ext x1
      replace bc := bc.ext x1
      replace hx := hx.trans x1
      clear x1 s0 s1
      have s0 := bs.cell (i := 0) rfl
      have s1 := bs.cell (i := 1) rfl
      have v0 := bv.cell (i := 0) rfl
      have v1 := bv.cell (i := 1) rfl
      go_wp2_with fail
      refine (vecGood_any va vb _).mono ?_
      rintro e w2 ⟨rfl, x2⟩
      rw [HV.out]
      replace bs := bs.ext x2
      replace bv := bv.ext x2
      replace bc := bc.ext x2
      replace hx := hx.trans x2
      clear x2 s0 s1 v0 v1
      have s0 := bs.cell (i := 0) rfl
      have s1 := bs.cell (i := 1) rfl
      have v0 := bv.cell (i := 0) rfl
      have v1 := bv.cell (i := 1) rfl
      go_upto_region 11 with (fail)
      have z0 := bc.thaw 0
      have y0 := bc.cell (i := 0) rfl
      have z1 := bc.thaw 1
      have y1 := bc.cell (i := 1) rfl
      have z2 := bc.thaw 2
      have y2 := bc.cell (i := 2) rfl
      have z3 := bc.thaw 3
      have y3 := bc.cell (i := 3) rfl
      have z4 := bc.thaw 4
      have y4 := bc.cell (i := 4) rfl
      have z5 := bc.thaw 5
      have y5 := bc.cell (i := 5) rfl
      have z6 := bc.thaw 6
      have y6 := bc.cell (i := 6) rfl
      have z7 := bc.thaw 7
      have y7 := bc.cell (i := 7) rfl
      have hr := set8_blk bc (.int .i64 sn) (.int .i64 ss) (.int .i64 va) (.int .i64 vb) (.bool false) (.string ⟨value.toArray⟩) (.int .i64 0) (.int .i64 0)
      have r0 := hr.cell (i := 0) rfl
      have r1 := hr.cell (i := 1) rfl
      have r2 := hr.cell (i := 2) rfl
      have r3 := hr.cell (i := 3) rfl
      have r4 := hr.cell (i := 4) rfl
      have r5 := hr.cell (i := 5) rfl
      have r6 := hr.cell (i := 6) rfl
      have r7 := hr.cell (i := 7) rfl
      have hxf := set8_ext hx HNC.out (.int .i64 sn) (.int .i64 ss) (.int .i64 va) (.int .i64 vb) (.bool false) (.string ⟨value.toArray⟩) (.int .i64 0) (.int .i64 0)
      unfold set8 at r0 r1 r2 r3 r4 r5 r6 r7 hxf
      have HXF := Lib.hid hxf
      clear hxf hr hx bs bv bc
      go_wp2_with fail
      exact bodyPost_ret (v := .tuple #[.agg #[.int .i64 sn, .int .i64 ss, .int .i64 va, .int .i64 vb, .bool false, .string ⟨value.toArray⟩, .int .i64 0, .int .i64 0], .int .i64 0]) (by simp [results, Try.results30, r0, r1, r2, r3, r4, r5, r6, r7, go_sem]) rfl ⟨by rw [HR.out]; rfl, HXF.out⟩
    · skip
      have HR : Hid (clOf 2 sn ss va vb false value = ⟨sn, ss, va, vb, false, value, 0, 0⟩) := Lib.hid (by unfold clOf; simp)
      unfold stV vecV strV
      try dsimp only
      go_enter Try.func30, Try.ntmps30
      go_upto_region 1 with (fail)
      have bs := Blk.new w #[.int .i64 sn, .int .i64 ss] 24
      have bv := Blk.new (w.alloc (.cells #[.int .i64 sn, .int .i64 ss] 24)) #[.int .i64 va, .int .i64 vb] 26
      have bc := Blk.new ((w.alloc (.cells #[.int .i64 sn, .int .i64 ss] 24)).alloc (.cells #[.int .i64 va, .int .i64 vb] 26)) #[.int .i64 0, .int .i64 0, .int .i64 0, .int .i64 0, .bool false, .string ⟨#[]⟩, .int .i64 0, .int .i64 0] 54
      replace bs := (bs.ext (ext_alloc _ (.cells #[.int .i64 va, .int .i64 vb] 26))).ext (ext_alloc _ (.cells #[.int .i64 0, .int .i64 0, .int .i64 0, .int .i64 0, .bool false, .string ⟨#[]⟩, .int .i64 0, .int .i64 0] 54))
      replace bv := bv.ext (ext_alloc _ (.cells #[.int .i64 0, .int .i64 0, .int .i64 0, .int .i64 0, .bool false, .string ⟨#[]⟩, .int .i64 0, .int .i64 0] 54))
      have hx := ((ext_alloc w (.cells #[.int .i64 sn, .int .i64 ss] 24)).trans (ext_alloc _ (.cells #[.int .i64 va, .int .i64 vb] 26))).trans (ext_alloc _ (.cells #[.int .i64 0, .int .i64 0, .int .i64 0, .int .i64 0, .bool false, .string ⟨#[]⟩, .int .i64 0, .int .i64 0] 54))
      simp only [World.size_alloc] at bv bc
      obtain ⟨ns, hns⟩ : ∃ n, n = w.heap.size := ⟨_, rfl⟩
      obtain ⟨nv, hnv⟩ : ∃ n, n = w.heap.size + 1 := ⟨_, rfl⟩
      obtain ⟨nc, hnc⟩ : ∃ n, n = w.heap.size + 1 + 1 := ⟨_, rfl⟩
      have hne1 : ns ≠ nc := by omega
      have hne2 : nv ≠ nc := by omega
      have HNC := Lib.hid (show w.heap.size ≤ nc by omega)
      rw [← hns] at bs
      rw [← hnv] at bv
      rw [← hnc] at bc
      rw [← hnc, ← hnv, ← hns]
      clear hns hnv hnc
      generalize ((w.alloc (.cells #[.int .i64 sn, .int .i64 ss] 24)).alloc (.cells #[.int .i64 va, .int .i64 vb] 26)).alloc (.cells #[.int .i64 0, .int .i64 0, .int .i64 0, .int .i64 0, .bool false, .string ⟨#[]⟩, .int .i64 0, .int .i64 0] 54) = W at *
      have s0 := bs.cell (i := 0) rfl
      have s1 := bs.cell (i := 1) rfl
      go_wp2_with fail
      refine (stGood_any sn ss _).mono ?_
      rintro e w1 ⟨rfl, x1⟩
      rw [HS.out]
      replace bs := bs.ext x1
      replace bv := bv.ext x1
      replace bc := bc.ext x1
      replace hx := hx.trans x1
      clear x1 s0 s1
      have s0 := bs.cell (i := 0) rfl
      have s1 := bs.cell (i := 1) rfl
      have v0 := bv.cell (i := 0) rfl
      have v1 := bv.cell (i := 1) rfl
      go_wp2_with fail
      refine (vecGood_any va vb _).mono ?_
      rintro e w2 ⟨rfl, x2⟩
      rw [HV.out]
      replace bs := bs.ext x2
      replace bv := bv.ext x2
      replace bc := bc.ext x2
      replace hx := hx.trans x2
      clear x2 s0 s1 v0 v1
      have s0 := bs.cell (i := 0) rfl
      have s1 := bs.cell (i := 1) rfl
      have v0 := bv.cell (i := 0) rfl
      have v1 := bv.cell (i := 1) rfl
      go_upto_region 11 with (fail)
      have z0 := bc.thaw 0
      have y0 := bc.cell (i := 0) rfl
      have z1 := bc.thaw 1
      have y1 := bc.cell (i := 1) rfl
      have z2 := bc.thaw 2
      have y2 := bc.cell (i := 2) rfl
      have z3 := bc.thaw 3
      have y3 := bc.cell (i := 3) rfl
      have z4 := bc.thaw 4
      have y4 := bc.cell (i := 4) rfl
      have z5 := bc.thaw 5
      have y5 := bc.cell (i := 5) rfl
      have z6 := bc.thaw 6
      have y6 := bc.cell (i := 6) rfl
      have z7 := bc.thaw 7
      have y7 := bc.cell (i := 7) rfl
      have hr := set8_blk bc (.int .i64 sn) (.int .i64 ss) (.int .i64 va) (.int .i64 vb) (.bool false) (.string ⟨value.toArray⟩) (.int .i64 0) (.int .i64 0)
      have r0 := hr.cell (i := 0) rfl
      have r1 := hr.cell (i := 1) rfl
      have r2 := hr.cell (i := 2) rfl
      have r3 := hr.cell (i := 3) rfl
      have r4 := hr.cell (i := 4) rfl
      have r5 := hr.cell (i := 5) rfl
      have r6 := hr.cell (i := 6) rfl
      have r7 := hr.cell (i := 7) rfl
      have hxf := set8_ext hx HNC.out (.int .i64 sn) (.int .i64 ss) (.int .i64 va) (.int .i64 vb) (.bool false) (.string ⟨value.toArray⟩) (.int .i64 0) (.int .i64 0)
      unfold set8 at r0 r1 r2 r3 r4 r5 r6 r7 hxf
      have HXF := Lib.hid hxf
      clear hxf hr hx bs bv bc
      go_wp2_with fail
      exact bodyPost_ret (v := .tuple #[.agg #[.int .i64 sn, .int .i64 ss, .int .i64 va, .int .i64 vb, .bool false, .string ⟨value.toArray⟩, .int .i64 0, .int .i64 0], .int .i64 0]) (by simp [results, Try.results30, r0, r1, r2, r3, r4, r5, r6, r7, go_sem]) rfl ⟨by rw [HR.out]; rfl, HXF.out⟩
  · obtain rfl := hg rfl
    rcases hp with rfl | rfl
    · skip
      have HR : Hid (clOf 1 sn ss va vb true [] = ⟨sn, ss, va, vb, true, [], 0, 0⟩) := Lib.hid (by unfold clOf; simp)
      unfold stV vecV strV
      try dsimp only
      go_enter Try.func30, Try.ntmps30
      go_upto_region 1 with (fail)
      have bs := Blk.new w #[.int .i64 sn, .int .i64 ss] 24
      have bv := Blk.new (w.alloc (.cells #[.int .i64 sn, .int .i64 ss] 24)) #[.int .i64 va, .int .i64 vb] 26
      have bc := Blk.new ((w.alloc (.cells #[.int .i64 sn, .int .i64 ss] 24)).alloc (.cells #[.int .i64 va, .int .i64 vb] 26)) #[.int .i64 0, .int .i64 0, .int .i64 0, .int .i64 0, .bool false, .string ⟨#[]⟩, .int .i64 0, .int .i64 0] 54
      replace bs := (bs.ext (ext_alloc _ (.cells #[.int .i64 va, .int .i64 vb] 26))).ext (ext_alloc _ (.cells #[.int .i64 0, .int .i64 0, .int .i64 0, .int .i64 0, .bool false, .string ⟨#[]⟩, .int .i64 0, .int .i64 0] 54))
      replace bv := bv.ext (ext_alloc _ (.cells #[.int .i64 0, .int .i64 0, .int .i64 0, .int .i64 0, .bool false, .string ⟨#[]⟩, .int .i64 0, .int .i64 0] 54))
      have hx := ((ext_alloc w (.cells #[.int .i64 sn, .int .i64 ss] 24)).trans (ext_alloc _ (.cells #[.int .i64 va, .int .i64 vb] 26))).trans (ext_alloc _ (.cells #[.int .i64 0, .int .i64 0, .int .i64 0, .int .i64 0, .bool false, .string ⟨#[]⟩, .int .i64 0, .int .i64 0] 54))
      simp only [World.size_alloc] at bv bc
      obtain ⟨ns, hns⟩ : ∃ n, n = w.heap.size := ⟨_, rfl⟩
      obtain ⟨nv, hnv⟩ : ∃ n, n = w.heap.size + 1 := ⟨_, rfl⟩
      obtain ⟨nc, hnc⟩ : ∃ n, n = w.heap.size + 1 + 1 := ⟨_, rfl⟩
      have hne1 : ns ≠ nc := by omega
      have hne2 : nv ≠ nc := by omega
      have HNC := Lib.hid (show w.heap.size ≤ nc by omega)
      rw [← hns] at bs
      rw [← hnv] at bv
      rw [← hnc] at bc
      rw [← hnc, ← hnv, ← hns]
      clear hns hnv hnc
      generalize ((w.alloc (.cells #[.int .i64 sn, .int .i64 ss] 24)).alloc (.cells #[.int .i64 va, .int .i64 vb] 26)).alloc (.cells #[.int .i64 0, .int .i64 0, .int .i64 0, .int .i64 0, .bool false, .string ⟨#[]⟩, .int .i64 0, .int .i64 0] 54) = W at *
      have s0 := bs.cell (i := 0) rfl
      have s1 := bs.cell (i := 1) rfl
      go_wp2_with fail
      refine (stGood_any sn ss _).mono ?_
      rintro e w1 ⟨rfl, x1⟩
      rw [HS.out]
      replace bs := bs.ext x1
      replace bv := bv.ext x1
      replace bc := bc.ext x1
      replace hx := hx.trans x1
      clear x1 s0 s1
      have s0 := bs.cell (i := 0) rfl
      have s1 := bs.cell (i := 1) rfl
      have v0 := bv.cell (i := 0) rfl
      have v1 := bv.cell (i := 1) rfl
      go_wp2_with fail
      refine (vecGood_any va vb _).mono ?_
      rintro e w2 ⟨rfl, x2⟩
      rw [HV.out]
      replace bs := bs.ext x2
      replace bv := bv.ext x2
      replace bc := bc.ext x2
      replace hx := hx.trans x2
      clear x2 s0 s1 v0 v1
      have s0 := bs.cell (i := 0) rfl
      have s1 := bs.cell (i := 1) rfl
      have v0 := bv.cell (i := 0) rfl
      have v1 := bv.cell (i := 1) rfl
      go_upto_region 11 with (fail)
      have z0 := bc.thaw 0
      have y0 := bc.cell (i := 0) rfl
      have z1 := bc.thaw 1
      have y1 := bc.cell (i := 1) rfl
      have z2 := bc.thaw 2
      have y2 := bc.cell (i := 2) rfl
      have z3 := bc.thaw 3
      have y3 := bc.cell (i := 3) rfl
      have z4 := bc.thaw 4
      have y4 := bc.cell (i := 4) rfl
      have z5 := bc.thaw 5
      have y5 := bc.cell (i := 5) rfl
      have z6 := bc.thaw 6
      have y6 := bc.cell (i := 6) rfl
      have z7 := bc.thaw 7
      have y7 := bc.cell (i := 7) rfl
      have hr := set8_blk bc (.int .i64 sn) (.int .i64 ss) (.int .i64 va) (.int .i64 vb) (.bool true) (.string ⟨#[]⟩) (.int .i64 0) (.int .i64 0)
      have r0 := hr.cell (i := 0) rfl
      have r1 := hr.cell (i := 1) rfl
      have r2 := hr.cell (i := 2) rfl
      have r3 := hr.cell (i := 3) rfl
      have r4 := hr.cell (i := 4) rfl
      have r5 := hr.cell (i := 5) rfl
      have r6 := hr.cell (i := 6) rfl
      have r7 := hr.cell (i := 7) rfl
      have hxf := set8_ext hx HNC.out (.int .i64 sn) (.int .i64 ss) (.int .i64 va) (.int .i64 vb) (.bool true) (.string ⟨#[]⟩) (.int .i64 0) (.int .i64 0)
      unfold set8 at r0 r1 r2 r3 r4 r5 r6 r7 hxf
      have HXF := Lib.hid hxf
      clear hxf hr hx bs bv bc
      go_wp2_with fail
      exact bodyPost_ret (v := .tuple #[.agg #[.int .i64 sn, .int .i64 ss, .int .i64 va, .int .i64 vb, .bool true, .string ⟨#[]⟩, .int .i64 0, .int .i64 0], .int .i64 0]) (by simp [results, Try.results30, r0, r1, r2, r3, r4, r5, r6, r7, go_sem]) rfl ⟨by rw [HR.out]; rfl, HXF.out⟩
    · skip
      have HR : Hid (clOf 2 sn ss va vb true [] = ⟨0, 0, 0, 0, false, [], va, vb⟩) := Lib.hid (by unfold clOf; simp)
      unfold stV vecV strV
      try dsimp only
      go_enter Try.func30, Try.ntmps30
      go_upto_region 1 with (fail)
      have bs := Blk.new w #[.int .i64 sn, .int .i64 ss] 24
      have bv := Blk.new (w.alloc (.cells #[.int .i64 sn, .int .i64 ss] 24)) #[.int .i64 va, .int .i64 vb] 26
      have bc := Blk.new ((w.alloc (.cells #[.int .i64 sn, .int .i64 ss] 24)).alloc (.cells #[.int .i64 va, .int .i64 vb] 26)) #[.int .i64 0, .int .i64 0, .int .i64 0, .int .i64 0, .bool false, .string ⟨#[]⟩, .int .i64 0, .int .i64 0] 54
      replace bs := (bs.ext (ext_alloc _ (.cells #[.int .i64 va, .int .i64 vb] 26))).ext (ext_alloc _ (.cells #[.int .i64 0, .int .i64 0, .int .i64 0, .int .i64 0, .bool false, .string ⟨#[]⟩, .int .i64 0, .int .i64 0] 54))
      replace bv := bv.ext (ext_alloc _ (.cells #[.int .i64 0, .int .i64 0, .int .i64 0, .int .i64 0, .bool false, .string ⟨#[]⟩, .int .i64 0, .int .i64 0] 54))
      have hx := ((ext_alloc w (.cells #[.int .i64 sn, .int .i64 ss] 24)).trans (ext_alloc _ (.cells #[.int .i64 va, .int .i64 vb] 26))).trans (ext_alloc _ (.cells #[.int .i64 0, .int .i64 0, .int .i64 0, .int .i64 0, .bool false, .string ⟨#[]⟩, .int .i64 0, .int .i64 0] 54))
      simp only [World.size_alloc] at bv bc
      obtain ⟨ns, hns⟩ : ∃ n, n = w.heap.size := ⟨_, rfl⟩
      obtain ⟨nv, hnv⟩ : ∃ n, n = w.heap.size + 1 := ⟨_, rfl⟩
      obtain ⟨nc, hnc⟩ : ∃ n, n = w.heap.size + 1 + 1 := ⟨_, rfl⟩
      have hne1 : ns ≠ nc := by omega
      have hne2 : nv ≠ nc := by omega
      have HNC := Lib.hid (show w.heap.size ≤ nc by omega)
      rw [← hns] at bs
      rw [← hnv] at bv
      rw [← hnc] at bc
      rw [← hnc, ← hnv, ← hns]
      clear hns hnv hnc
      generalize ((w.alloc (.cells #[.int .i64 sn, .int .i64 ss] 24)).alloc (.cells #[.int .i64 va, .int .i64 vb] 26)).alloc (.cells #[.int .i64 0, .int .i64 0, .int .i64 0, .int .i64 0, .bool false, .string ⟨#[]⟩, .int .i64 0, .int .i64 0] 54) = W at *
      have s0 := bs.cell (i := 0) rfl
      have s1 := bs.cell (i := 1) rfl
      go_wp2_with fail
      refine (stGood_any sn ss _).mono ?_
      rintro e w1 ⟨rfl, x1⟩
      rw [HS.out]
      replace bs := bs.ext x1
      replace bv := bv.ext x1
      replace bc := bc.ext x1
      replace hx := hx.trans x1
      clear x1 s0 s1
      have s0 := bs.cell (i := 0) rfl
      have s1 := bs.cell (i := 1) rfl
      have v0 := bv.cell (i := 0) rfl
      have v1 := bv.cell (i := 1) rfl
      go_wp2_with fail
      refine (vecGood_any va vb _).mono ?_
      rintro e w2 ⟨rfl, x2⟩
      rw [HV.out]
      replace bs := bs.ext x2
      replace bv := bv.ext x2
      replace bc := bc.ext x2
      replace hx := hx.trans x2
      clear x2 s0 s1 v0 v1
      have s0 := bs.cell (i := 0) rfl
      have s1 := bs.cell (i := 1) rfl
      have v0 := bv.cell (i := 0) rfl
      have v1 := bv.cell (i := 1) rfl
      go_upto_region 10 with (fail)
      have z0 := bc.thaw 0
      have y0 := bc.cell (i := 0) rfl
      have z1 := bc.thaw 1
      have y1 := bc.cell (i := 1) rfl
      have z2 := bc.thaw 2
      have y2 := bc.cell (i := 2) rfl
      have z3 := bc.thaw 3
      have y3 := bc.cell (i := 3) rfl
      have z4 := bc.thaw 4
      have y4 := bc.cell (i := 4) rfl
      have z5 := bc.thaw 5
      have y5 := bc.cell (i := 5) rfl
      have z6 := bc.thaw 6
      have y6 := bc.cell (i := 6) rfl
      have z7 := bc.thaw 7
      have y7 := bc.cell (i := 7) rfl
      have hr := set8_blk bc (.int .i64 0) (.int .i64 0) (.int .i64 0) (.int .i64 0) (.bool false) (.string ⟨#[]⟩) (.int .i64 va) (.int .i64 vb)
      have r0 := hr.cell (i := 0) rfl
      have r1 := hr.cell (i := 1) rfl
      have r2 := hr.cell (i := 2) rfl
      have r3 := hr.cell (i := 3) rfl
      have r4 := hr.cell (i := 4) rfl
      have r5 := hr.cell (i := 5) rfl
      have r6 := hr.cell (i := 6) rfl
      have r7 := hr.cell (i := 7) rfl
      have hxf := set8_ext hx HNC.out (.int .i64 0) (.int .i64 0) (.int .i64 0) (.int .i64 0) (.bool false) (.string ⟨#[]⟩) (.int .i64 va) (.int .i64 vb)
      unfold set8 at r0 r1 r2 r3 r4 r5 r6 r7 hxf
      have HXF := Lib.hid hxf
      clear hxf hr hx bs bv bc
      go_wp2_with fail
      exact bodyPost_ret (v := .tuple #[.agg #[.int .i64 0, .int .i64 0, .int .i64 0, .int .i64 0, .bool false, .string ⟨#[]⟩, .int .i64 va, .int .i64 vb], .int .i64 0]) (by simp [results, Try.results30, r0, r1, r2, r3, r4, r5, r6, r7, go_sem]) rfl ⟨by rw [HR.out]; rfl, HXF.out⟩
set_option maxHeartbeats 8000000 in
theorem refOf_any (p sn ss va vb : Int) (gone : Bool) (value : List UInt8) (w : World) (hp : p = 1 ∨ p = 2) (hs : sgood sn ss = true) (hn : 1 ≤ sn) (hv : vgood va vb = true) (hg : gone = true → value = []) (hl : value.length ≤ 64) :
    Calls Try.prog 32 #[.int .i64 p, stV sn ss, vecV va vb, .bool gone, strV value] w fun e w' => e = .returned (.tuple #[clV (clOf p sn ss va vb gone value), .int .i64 0]) ∧ Ext w w' := by
  have HS := Lib.hid hs
  have HV := Lib.hid hv
  have sn0 : (sn == 0) = false := by rw [beq_eq_false_iff_ne]; omega
  have hsz := strV_size value
  clear hs hv
  cases gone
  · clear hg
    rcases hp with rfl | rfl
    · skip
      have HR : Hid (clOf 1 sn ss va vb false value = ⟨sn, ss, va, vb, false, value, 0, 0⟩) := Lib.hid (by unfold clOf; simp)
      unfold stV vecV strV
      try dsimp only
      go_enter Try.func32, Try.ntmps32
      go_upto_region 1 with (fail)
      have bs := Blk.new w #[.int .i64 sn, .int .i64 ss] 24
      have bv := Blk.new (w.alloc (.cells #[.int .i64 sn, .int .i64 ss] 24)) #[.int .i64 va, .int .i64 vb] 26
      have bc := Blk.new ((w.alloc (.cells #[.int .i64 sn, .int .i64 ss] 24)).alloc (.cells #[.int .i64 va, .int .i64 vb] 26)) #[.int .i64 0, .int .i64 0, .int .i64 0, .int .i64 0, .bool false, .string ⟨#[]⟩, .int .i64 0, .int .i64 0] 54
      replace bs := (bs.ext (ext_alloc _ (.cells #[.int .i64 va, .int .i64 vb] 26))).ext (ext_alloc _ (.cells #[.int .i64 0, .int .i64 0, .int .i64 0, .int .i64 0, .bool false, .string ⟨#[]⟩, .int .i64 0, .int .i64 0] 54))
      replace bv := bv.ext (ext_alloc _ (.cells #[.int .i64 0, .int .i64 0, .int .i64 0, .int .i64 0, .bool false, .string ⟨#[]⟩, .int .i64 0, .int .i64 0] 54))
      have hx := ((ext_alloc w (.cells #[.int .i64 sn, .int .i64 ss] 24)).trans (ext_alloc _ (.cells #[.int .i64 va, .int .i64 vb] 26))).trans (ext_alloc _ (.cells #[.int .i64 0, .int .i64 0, .int .i64 0, .int .i64 0, .bool false, .string ⟨#[]⟩, .int .i64 0, .int .i64 0] 54))
      simp only [World.size_alloc] at bv bc
      obtain ⟨ns, hns⟩ : ∃ n, n = w.heap.size := ⟨_, rfl⟩
      obtain ⟨nv, hnv⟩ : ∃ n, n = w.heap.size + 1 := ⟨_, rfl⟩
      obtain ⟨nc, hnc⟩ : ∃ n, n = w.heap.size + 1 + 1 := ⟨_, rfl⟩
      have hne1 : ns ≠ nc := by omega
      have hne2 : nv ≠ nc := by omega
      have HNC := Lib.hid (show w.heap.size ≤ nc by omega)
      rw [← hns] at bs
      rw [← hnv] at bv
      rw [← hnc] at bc
      rw [← hnc, ← hnv, ← hns]
      clear hns hnv hnc
      generalize ((w.alloc (.cells #[.int .i64 sn, .int .i64 ss] 24)).alloc (.cells #[.int .i64 va, .int .i64 vb] 26)).alloc (.cells #[.int .i64 0, .int .i64 0, .int .i64 0, .int .i64 0, .bool false, .string ⟨#[]⟩, .int .i64 0, .int .i64 0] 54) = W at *
      have s0 := bs.cell (i := 0) rfl
      have s1 := bs.cell (i := 1) rfl
      go_wp2_with fail
      refine (refSGood_any sn ss _).mono ?_
      rintro e w1 ⟨rfl, x1⟩
      rw [HS.out]
      replace bs := bs.ext x1
      replace bv := bv.ext x1
      replace bc := bc.ext x1
      replace hx := hx.trans x1
      clear x1 s0 s1
      have s0 := bs.cell (i := 0) rfl
      have s1 := bs.cell (i := 1) rfl
      have v0 := bv.cell (i := 0) rfl
      have v1 := bv.cell (i := 1) rfl
      go_wp2_with fail
      refine (refVGood_any va vb _).mono ?_
      rintro e w2 ⟨rfl, x2⟩
      rw [HV.out]
      replace bs := bs.ext x2
      replace bv := bv.ext x2
      replace bc := bc.ext x2
      replace hx := hx.trans x2
      clear x2 s0 s1 v0 v1
      have s0 := bs.cell (i := 0) rfl
      have s1 := bs.cell (i := 1) rfl
      have v0 := bv.cell (i := 0) rfl
      have v1 := bv.cell (i := 1) rfl
      go_upto_region 7 with (fail)
      have z0 := bc.thaw 0
      have y0 := bc.cell (i := 0) rfl
      have z1 := bc.thaw 1
      have y1 := bc.cell (i := 1) rfl
      have z2 := bc.thaw 2
      have y2 := bc.cell (i := 2) rfl
      have z3 := bc.thaw 3
      have y3 := bc.cell (i := 3) rfl
      have z4 := bc.thaw 4
      have y4 := bc.cell (i := 4) rfl
      have z5 := bc.thaw 5
      have y5 := bc.cell (i := 5) rfl
      have z6 := bc.thaw 6
      have y6 := bc.cell (i := 6) rfl
      have z7 := bc.thaw 7
      have y7 := bc.cell (i := 7) rfl
      have hr := set8_blk bc (.int .i64 sn) (.int .i64 ss) (.int .i64 va) (.int .i64 vb) (.bool false) (.string ⟨value.toArray⟩) (.int .i64 0) (.int .i64 0)
      have r0 := hr.cell (i := 0) rfl
      have r1 := hr.cell (i := 1) rfl
      have r2 := hr.cell (i := 2) rfl
      have r3 := hr.cell (i := 3) rfl
      have r4 := hr.cell (i := 4) rfl
      have r5 := hr.cell (i := 5) rfl
      have r6 := hr.cell (i := 6) rfl
      have r7 := hr.cell (i := 7) rfl
      have hxf := set8_ext hx HNC.out (.int .i64 sn) (.int .i64 ss) (.int .i64 va) (.int .i64 vb) (.bool false) (.string ⟨value.toArray⟩) (.int .i64 0) (.int .i64 0)
      unfold set8 at r0 r1 r2 r3 r4 r5 r6 r7 hxf
      have HXF := Lib.hid hxf
      clear hxf hr hx bs bv bc
      go_wp2_with fail
      exact bodyPost_ret (v := .tuple #[.agg #[.int .i64 sn, .int .i64 ss, .int .i64 va, .int .i64 vb, .bool false, .string ⟨value.toArray⟩, .int .i64 0, .int .i64 0], .int .i64 0]) (by simp [results, Try.results32, r0, r1, r2, r3, r4, r5, r6, r7, go_sem]) rfl ⟨by rw [HR.out]; rfl, HXF.out⟩
    · skip
      have HR : Hid (clOf 2 sn ss va vb false value = ⟨sn, ss, va, vb, false, value, 0, 0⟩) := Lib.hid (by unfold clOf; simp)
      unfold stV vecV strV
      try dsimp only
      go_enter Try.func32, Try.ntmps32
      go_upto_region 1 with (fail)
      have bs := Blk.new w #[.int .i64 sn, .int .i64 ss] 24
      have bv := Blk.new (w.alloc (.cells #[.int .i64 sn, .int .i64 ss] 24)) #[.int .i64 va, .int .i64 vb] 26
      have bc := Blk.new ((w.alloc (.cells #[.int .i64 sn, .int .i64 ss] 24)).alloc (.cells #[.int .i64 va, .int .i64 vb] 26)) #[.int .i64 0, .int .i64 0, .int .i64 0, .int .i64 0, .bool false, .string ⟨#[]⟩, .int .i64 0, .int .i64 0] 54
      replace bs := (bs.ext (ext_alloc _ (.cells #[.int .i64 va, .int .i64 vb] 26))).ext (ext_alloc _ (.cells #[.int .i64 0, .int .i64 0, .int .i64 0, .int .i64 0, .bool false, .string ⟨#[]⟩, .int .i64 0, .int .i64 0] 54))
      replace bv := bv.ext (ext_alloc _ (.cells #[.int .i64 0, .int .i64 0, .int .i64 0, .int .i64 0, .bool false, .string ⟨#[]⟩, .int .i64 0, .int .i64 0] 54))
      have hx := ((ext_alloc w (.cells #[.int .i64 sn, .int .i64 ss] 24)).trans (ext_alloc _ (.cells #[.int .i64 va, .int .i64 vb] 26))).trans (ext_alloc _ (.cells #[.int .i64 0, .int .i64 0, .int .i64 0, .int .i64 0, .bool false, .string ⟨#[]⟩, .int .i64 0, .int .i64 0] 54))
      simp only [World.size_alloc] at bv bc
      obtain ⟨ns, hns⟩ : ∃ n, n = w.heap.size := ⟨_, rfl⟩
      obtain ⟨nv, hnv⟩ : ∃ n, n = w.heap.size + 1 := ⟨_, rfl⟩
      obtain ⟨nc, hnc⟩ : ∃ n, n = w.heap.size + 1 + 1 := ⟨_, rfl⟩
      have hne1 : ns ≠ nc := by omega
      have hne2 : nv ≠ nc := by omega
      have HNC := Lib.hid (show w.heap.size ≤ nc by omega)
      rw [← hns] at bs
      rw [← hnv] at bv
      rw [← hnc] at bc
      rw [← hnc, ← hnv, ← hns]
      clear hns hnv hnc
      generalize ((w.alloc (.cells #[.int .i64 sn, .int .i64 ss] 24)).alloc (.cells #[.int .i64 va, .int .i64 vb] 26)).alloc (.cells #[.int .i64 0, .int .i64 0, .int .i64 0, .int .i64 0, .bool false, .string ⟨#[]⟩, .int .i64 0, .int .i64 0] 54) = W at *
      have s0 := bs.cell (i := 0) rfl
      have s1 := bs.cell (i := 1) rfl
      go_wp2_with fail
      refine (refSGood_any sn ss _).mono ?_
      rintro e w1 ⟨rfl, x1⟩
      rw [HS.out]
      replace bs := bs.ext x1
      replace bv := bv.ext x1
      replace bc := bc.ext x1
      replace hx := hx.trans x1
      clear x1 s0 s1
      have s0 := bs.cell (i := 0) rfl
      have s1 := bs.cell (i := 1) rfl
      have v0 := bv.cell (i := 0) rfl
      have v1 := bv.cell (i := 1) rfl
      go_wp2_with fail
      refine (refVGood_any va vb _).mono ?_
      rintro e w2 ⟨rfl, x2⟩
      rw [HV.out]
      replace bs := bs.ext x2
      replace bv := bv.ext x2
      replace bc := bc.ext x2
      replace hx := hx.trans x2
      clear x2 s0 s1 v0 v1
      have s0 := bs.cell (i := 0) rfl
      have s1 := bs.cell (i := 1) rfl
      have v0 := bv.cell (i := 0) rfl
      have v1 := bv.cell (i := 1) rfl
      go_upto_region 7 with (fail)
      have z0 := bc.thaw 0
      have y0 := bc.cell (i := 0) rfl
      have z1 := bc.thaw 1
      have y1 := bc.cell (i := 1) rfl
      have z2 := bc.thaw 2
      have y2 := bc.cell (i := 2) rfl
      have z3 := bc.thaw 3
      have y3 := bc.cell (i := 3) rfl
      have z4 := bc.thaw 4
      have y4 := bc.cell (i := 4) rfl
      have z5 := bc.thaw 5
      have y5 := bc.cell (i := 5) rfl
      have z6 := bc.thaw 6
      have y6 := bc.cell (i := 6) rfl
      have z7 := bc.thaw 7
      have y7 := bc.cell (i := 7) rfl
      have hr := set8_blk bc (.int .i64 sn) (.int .i64 ss) (.int .i64 va) (.int .i64 vb) (.bool false) (.string ⟨value.toArray⟩) (.int .i64 0) (.int .i64 0)
      have r0 := hr.cell (i := 0) rfl
      have r1 := hr.cell (i := 1) rfl
      have r2 := hr.cell (i := 2) rfl
      have r3 := hr.cell (i := 3) rfl
      have r4 := hr.cell (i := 4) rfl
      have r5 := hr.cell (i := 5) rfl
      have r6 := hr.cell (i := 6) rfl
      have r7 := hr.cell (i := 7) rfl
      have hxf := set8_ext hx HNC.out (.int .i64 sn) (.int .i64 ss) (.int .i64 va) (.int .i64 vb) (.bool false) (.string ⟨value.toArray⟩) (.int .i64 0) (.int .i64 0)
      unfold set8 at r0 r1 r2 r3 r4 r5 r6 r7 hxf
      have HXF := Lib.hid hxf
      clear hxf hr hx bs bv bc
      go_wp2_with fail
      exact bodyPost_ret (v := .tuple #[.agg #[.int .i64 sn, .int .i64 ss, .int .i64 va, .int .i64 vb, .bool false, .string ⟨value.toArray⟩, .int .i64 0, .int .i64 0], .int .i64 0]) (by simp [results, Try.results32, r0, r1, r2, r3, r4, r5, r6, r7, go_sem]) rfl ⟨by rw [HR.out]; rfl, HXF.out⟩
  · obtain rfl := hg rfl
    rcases hp with rfl | rfl
    · skip
      have HR : Hid (clOf 1 sn ss va vb true [] = ⟨sn, ss, va, vb, true, [], 0, 0⟩) := Lib.hid (by unfold clOf; simp)
      unfold stV vecV strV
      try dsimp only
      go_enter Try.func32, Try.ntmps32
      go_upto_region 1 with (fail)
      have bs := Blk.new w #[.int .i64 sn, .int .i64 ss] 24
      have bv := Blk.new (w.alloc (.cells #[.int .i64 sn, .int .i64 ss] 24)) #[.int .i64 va, .int .i64 vb] 26
      have bc := Blk.new ((w.alloc (.cells #[.int .i64 sn, .int .i64 ss] 24)).alloc (.cells #[.int .i64 va, .int .i64 vb] 26)) #[.int .i64 0, .int .i64 0, .int .i64 0, .int .i64 0, .bool false, .string ⟨#[]⟩, .int .i64 0, .int .i64 0] 54
      replace bs := (bs.ext (ext_alloc _ (.cells #[.int .i64 va, .int .i64 vb] 26))).ext (ext_alloc _ (.cells #[.int .i64 0, .int .i64 0, .int .i64 0, .int .i64 0, .bool false, .string ⟨#[]⟩, .int .i64 0, .int .i64 0] 54))
      replace bv := bv.ext (ext_alloc _ (.cells #[.int .i64 0, .int .i64 0, .int .i64 0, .int .i64 0, .bool false, .string ⟨#[]⟩, .int .i64 0, .int .i64 0] 54))
      have hx := ((ext_alloc w (.cells #[.int .i64 sn, .int .i64 ss] 24)).trans (ext_alloc _ (.cells #[.int .i64 va, .int .i64 vb] 26))).trans (ext_alloc _ (.cells #[.int .i64 0, .int .i64 0, .int .i64 0, .int .i64 0, .bool false, .string ⟨#[]⟩, .int .i64 0, .int .i64 0] 54))
      simp only [World.size_alloc] at bv bc
      obtain ⟨ns, hns⟩ : ∃ n, n = w.heap.size := ⟨_, rfl⟩
      obtain ⟨nv, hnv⟩ : ∃ n, n = w.heap.size + 1 := ⟨_, rfl⟩
      obtain ⟨nc, hnc⟩ : ∃ n, n = w.heap.size + 1 + 1 := ⟨_, rfl⟩
      have hne1 : ns ≠ nc := by omega
      have hne2 : nv ≠ nc := by omega
      have HNC := Lib.hid (show w.heap.size ≤ nc by omega)
      rw [← hns] at bs
      rw [← hnv] at bv
      rw [← hnc] at bc
      rw [← hnc, ← hnv, ← hns]
      clear hns hnv hnc
      generalize ((w.alloc (.cells #[.int .i64 sn, .int .i64 ss] 24)).alloc (.cells #[.int .i64 va, .int .i64 vb] 26)).alloc (.cells #[.int .i64 0, .int .i64 0, .int .i64 0, .int .i64 0, .bool false, .string ⟨#[]⟩, .int .i64 0, .int .i64 0] 54) = W at *
      have s0 := bs.cell (i := 0) rfl
      have s1 := bs.cell (i := 1) rfl
      go_wp2_with fail
      refine (refSGood_any sn ss _).mono ?_
      rintro e w1 ⟨rfl, x1⟩
      rw [HS.out]
      replace bs := bs.ext x1
      replace bv := bv.ext x1
      replace bc := bc.ext x1
      replace hx := hx.trans x1
      clear x1 s0 s1
      have s0 := bs.cell (i := 0) rfl
      have s1 := bs.cell (i := 1) rfl
      have v0 := bv.cell (i := 0) rfl
      have v1 := bv.cell (i := 1) rfl
      go_wp2_with fail
      refine (refVGood_any va vb _).mono ?_
      rintro e w2 ⟨rfl, x2⟩
      rw [HV.out]
      replace bs := bs.ext x2
      replace bv := bv.ext x2
      replace bc := bc.ext x2
      replace hx := hx.trans x2
      clear x2 s0 s1 v0 v1
      have s0 := bs.cell (i := 0) rfl
      have s1 := bs.cell (i := 1) rfl
      have v0 := bv.cell (i := 0) rfl
      have v1 := bv.cell (i := 1) rfl
      go_upto_region 7 with (fail)
      have z0 := bc.thaw 0
      have y0 := bc.cell (i := 0) rfl
      have z1 := bc.thaw 1
      have y1 := bc.cell (i := 1) rfl
      have z2 := bc.thaw 2
      have y2 := bc.cell (i := 2) rfl
      have z3 := bc.thaw 3
      have y3 := bc.cell (i := 3) rfl
      have z4 := bc.thaw 4
      have y4 := bc.cell (i := 4) rfl
      have z5 := bc.thaw 5
      have y5 := bc.cell (i := 5) rfl
      have z6 := bc.thaw 6
      have y6 := bc.cell (i := 6) rfl
      have z7 := bc.thaw 7
      have y7 := bc.cell (i := 7) rfl
      have hr := set8_blk bc (.int .i64 sn) (.int .i64 ss) (.int .i64 va) (.int .i64 vb) (.bool true) (.string ⟨#[]⟩) (.int .i64 0) (.int .i64 0)
      have r0 := hr.cell (i := 0) rfl
      have r1 := hr.cell (i := 1) rfl
      have r2 := hr.cell (i := 2) rfl
      have r3 := hr.cell (i := 3) rfl
      have r4 := hr.cell (i := 4) rfl
      have r5 := hr.cell (i := 5) rfl
      have r6 := hr.cell (i := 6) rfl
      have r7 := hr.cell (i := 7) rfl
      have hxf := set8_ext hx HNC.out (.int .i64 sn) (.int .i64 ss) (.int .i64 va) (.int .i64 vb) (.bool true) (.string ⟨#[]⟩) (.int .i64 0) (.int .i64 0)
      unfold set8 at r0 r1 r2 r3 r4 r5 r6 r7 hxf
      have HXF := Lib.hid hxf
      clear hxf hr hx bs bv bc
      go_wp2_with fail
      exact bodyPost_ret (v := .tuple #[.agg #[.int .i64 sn, .int .i64 ss, .int .i64 va, .int .i64 vb, .bool true, .string ⟨#[]⟩, .int .i64 0, .int .i64 0], .int .i64 0]) (by simp [results, Try.results32, r0, r1, r2, r3, r4, r5, r6, r7, go_sem]) rfl ⟨by rw [HR.out]; rfl, HXF.out⟩
    · skip
      have HR : Hid (clOf 2 sn ss va vb true [] = ⟨0, 0, 0, 0, false, [], va, vb⟩) := Lib.hid (by unfold clOf; simp)
      unfold stV vecV strV
      try dsimp only
      go_enter Try.func32, Try.ntmps32
      go_upto_region 1 with (fail)
      have bs := Blk.new w #[.int .i64 sn, .int .i64 ss] 24
      have bv := Blk.new (w.alloc (.cells #[.int .i64 sn, .int .i64 ss] 24)) #[.int .i64 va, .int .i64 vb] 26
      have bc := Blk.new ((w.alloc (.cells #[.int .i64 sn, .int .i64 ss] 24)).alloc (.cells #[.int .i64 va, .int .i64 vb] 26)) #[.int .i64 0, .int .i64 0, .int .i64 0, .int .i64 0, .bool false, .string ⟨#[]⟩, .int .i64 0, .int .i64 0] 54
      replace bs := (bs.ext (ext_alloc _ (.cells #[.int .i64 va, .int .i64 vb] 26))).ext (ext_alloc _ (.cells #[.int .i64 0, .int .i64 0, .int .i64 0, .int .i64 0, .bool false, .string ⟨#[]⟩, .int .i64 0, .int .i64 0] 54))
      replace bv := bv.ext (ext_alloc _ (.cells #[.int .i64 0, .int .i64 0, .int .i64 0, .int .i64 0, .bool false, .string ⟨#[]⟩, .int .i64 0, .int .i64 0] 54))
      have hx := ((ext_alloc w (.cells #[.int .i64 sn, .int .i64 ss] 24)).trans (ext_alloc _ (.cells #[.int .i64 va, .int .i64 vb] 26))).trans (ext_alloc _ (.cells #[.int .i64 0, .int .i64 0, .int .i64 0, .int .i64 0, .bool false, .string ⟨#[]⟩, .int .i64 0, .int .i64 0] 54))
      simp only [World.size_alloc] at bv bc
      obtain ⟨ns, hns⟩ : ∃ n, n = w.heap.size := ⟨_, rfl⟩
      obtain ⟨nv, hnv⟩ : ∃ n, n = w.heap.size + 1 := ⟨_, rfl⟩
      obtain ⟨nc, hnc⟩ : ∃ n, n = w.heap.size + 1 + 1 := ⟨_, rfl⟩
      have hne1 : ns ≠ nc := by omega
      have hne2 : nv ≠ nc := by omega
      have HNC := Lib.hid (show w.heap.size ≤ nc by omega)
      rw [← hns] at bs
      rw [← hnv] at bv
      rw [← hnc] at bc
      rw [← hnc, ← hnv, ← hns]
      clear hns hnv hnc
      generalize ((w.alloc (.cells #[.int .i64 sn, .int .i64 ss] 24)).alloc (.cells #[.int .i64 va, .int .i64 vb] 26)).alloc (.cells #[.int .i64 0, .int .i64 0, .int .i64 0, .int .i64 0, .bool false, .string ⟨#[]⟩, .int .i64 0, .int .i64 0] 54) = W at *
      have s0 := bs.cell (i := 0) rfl
      have s1 := bs.cell (i := 1) rfl
      go_wp2_with fail
      refine (refSGood_any sn ss _).mono ?_
      rintro e w1 ⟨rfl, x1⟩
      rw [HS.out]
      replace bs := bs.ext x1
      replace bv := bv.ext x1
      replace bc := bc.ext x1
      replace hx := hx.trans x1
      clear x1 s0 s1
      have s0 := bs.cell (i := 0) rfl
      have s1 := bs.cell (i := 1) rfl
      have v0 := bv.cell (i := 0) rfl
      have v1 := bv.cell (i := 1) rfl
      go_wp2_with fail
      refine (refVGood_any va vb _).mono ?_
      rintro e w2 ⟨rfl, x2⟩
      rw [HV.out]
      replace bs := bs.ext x2
      replace bv := bv.ext x2
      replace bc := bc.ext x2
      replace hx := hx.trans x2
      clear x2 s0 s1 v0 v1
      have s0 := bs.cell (i := 0) rfl
      have s1 := bs.cell (i := 1) rfl
      have v0 := bv.cell (i := 0) rfl
      have v1 := bv.cell (i := 1) rfl
      go_upto_region 6 with (fail)
      have z0 := bc.thaw 0
      have y0 := bc.cell (i := 0) rfl
      have z1 := bc.thaw 1
      have y1 := bc.cell (i := 1) rfl
      have z2 := bc.thaw 2
      have y2 := bc.cell (i := 2) rfl
      have z3 := bc.thaw 3
      have y3 := bc.cell (i := 3) rfl
      have z4 := bc.thaw 4
      have y4 := bc.cell (i := 4) rfl
      have z5 := bc.thaw 5
      have y5 := bc.cell (i := 5) rfl
      have z6 := bc.thaw 6
      have y6 := bc.cell (i := 6) rfl
      have z7 := bc.thaw 7
      have y7 := bc.cell (i := 7) rfl
      have hr := set8_blk bc (.int .i64 0) (.int .i64 0) (.int .i64 0) (.int .i64 0) (.bool false) (.string ⟨#[]⟩) (.int .i64 va) (.int .i64 vb)
      have r0 := hr.cell (i := 0) rfl
      have r1 := hr.cell (i := 1) rfl
      have r2 := hr.cell (i := 2) rfl
      have r3 := hr.cell (i := 3) rfl
      have r4 := hr.cell (i := 4) rfl
      have r5 := hr.cell (i := 5) rfl
      have r6 := hr.cell (i := 6) rfl
      have r7 := hr.cell (i := 7) rfl
      have hxf := set8_ext hx HNC.out (.int .i64 0) (.int .i64 0) (.int .i64 0) (.int .i64 0) (.bool false) (.string ⟨#[]⟩) (.int .i64 va) (.int .i64 vb)
      unfold set8 at r0 r1 r2 r3 r4 r5 r6 r7 hxf
      have HXF := Lib.hid hxf
      clear hxf hr hx bs bv bc
      go_wp2_with fail
      exact bodyPost_ret (v := .tuple #[.agg #[.int .i64 0, .int .i64 0, .int .i64 0, .int .i64 0, .bool false, .string ⟨#[]⟩, .int .i64 va, .int .i64 vb], .int .i64 0]) (by simp [results, Try.results32, r0, r1, r2, r3, r4, r5, r6, r7, go_sem]) rfl ⟨by rw [HR.out]; rfl, HXF.out⟩
end Go.Proofs.Ytocdifjdeifclaa
