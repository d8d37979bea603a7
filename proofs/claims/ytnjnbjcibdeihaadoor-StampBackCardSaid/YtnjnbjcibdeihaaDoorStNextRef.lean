/-
  The walk of the document's Next of stamps.
-/
import Derived.Test.YtnjnbjcibdeihaaDoorStNext
namespace Go.Proofs.YtnjnbjcibdeihaaDoor
open Go Go.RowKit Mono
set_option linter.unusedVariables false
set_option linter.unusedSimpArgs false

set_option maxHeartbeats 4000000 in
theorem refSNext_any (a b now site : Int) (w : World) :
    Calls Tryd.prog 10 #[stV a b, .int .i64 now, .int .i64 site] w fun e w' => e = .returned (snextV (snext a b now site)) ∧ Ext w w' := by
  unfold stV
  cases hk : knownB site
  · have HR := Lib.hid (snext_bad (a := a) (b := b) (now := now) (.inl hk))
    have b1 : (site != 1) = true := by unfold knownB at hk; simp at hk; simp [hk]
    have b2 : (site != 2) = true := by unfold knownB at hk; simp at hk; simp [hk]
    clear hk
    go_enter Tryd.func10, Tryd.ntmps10
    go_wp2_with fail
    have hx : Ext w ((w.alloc (.cells #[.int .i64 a, .int .i64 b] 23)).alloc (.cells #[.int .i64 0, .int .i64 0] 23)) := Ext.trans (ext_alloc _ _) (ext_alloc _ _)
    have ba := (Blk.new w #[.int .i64 a, .int .i64 b] 23).ext (ext_alloc _ (.cells #[.int .i64 0, .int .i64 0] 23))
    have bo := Blk.new (w.alloc (.cells #[.int .i64 a, .int .i64 b] 23)) #[.int .i64 0, .int .i64 0] 23
    simp only [World.size_alloc] at bo
    have G1 : w.heap.size ≤ w.heap.size + 1 := by omega
    exact bodyPost_ret (v := .tuple #[.agg #[.int .i64 0, .int .i64 0], .int .i64 2]) (by simp [results, Tryd.results10, go_sem]) rfl ⟨by (rw [HR.out]; try rfl), hx⟩
  · have HKT := Lib.hid hk
    have hsite : site = 1 ∨ site = 2 := by unfold knownB at hk; simpa using hk
    clear hk
    cases hs : sgood a b
    · rcases hsite with rfl | rfl
      · have HR := Lib.hid (snext_bad (now := now) (site := 1) (.inr hs))
        have HS := Lib.hid hs
        clear hs
        go_enter Tryd.func10, Tryd.ntmps10
        go_wp2_with fail
        have hx : Ext w ((w.alloc (.cells #[.int .i64 a, .int .i64 b] 23)).alloc (.cells #[.int .i64 0, .int .i64 0] 23)) := Ext.trans (ext_alloc _ _) (ext_alloc _ _)
        have ba := (Blk.new w #[.int .i64 a, .int .i64 b] 23).ext (ext_alloc _ (.cells #[.int .i64 0, .int .i64 0] 23))
        have bo := Blk.new (w.alloc (.cells #[.int .i64 a, .int .i64 b] 23)) #[.int .i64 0, .int .i64 0] 23
        simp only [World.size_alloc] at bo
        have G1 : w.heap.size ≤ w.heap.size + 1 := by omega
        refine (refSGood_any a b _).mono ?_
        rintro e w1 ⟨rfl, x1⟩
        rw [HS.out]
        replace ba := ba.ext x1
        replace bo := bo.ext x1
        replace hx := Ext.trans hx x1
        clear x1
        have bac0 := ba.cell (i := 0) rfl
        have bac1 := ba.cell (i := 1) rfl
        have boc0 := bo.cell (i := 0) rfl
        have boc1 := bo.cell (i := 1) rfl
        have boz0 := bo.thaw 0
        have boz1 := bo.thaw 1
        go_wp2_with fail
        have bo2 := (bo.set 0 (.int .i64 (0))).set 1 (.int .i64 (0))
        have d0 := bo2.cell (i := 0) rfl
        have d1 := bo2.cell (i := 1) rfl
        exact bodyPost_ret (v := .tuple #[.agg #[.int .i64 (0), .int .i64 (0)], .int .i64 2]) (by simp [results, Tryd.results10, d0, d1, go_sem]) rfl ⟨by (rw [HR.out]; try rfl), Below.setCell (Below.setCell hx G1 _) G1 _⟩
      · have HR := Lib.hid (snext_bad (now := now) (site := 2) (.inr hs))
        have HS := Lib.hid hs
        clear hs
        go_enter Tryd.func10, Tryd.ntmps10
        go_wp2_with fail
        have hx : Ext w ((w.alloc (.cells #[.int .i64 a, .int .i64 b] 23)).alloc (.cells #[.int .i64 0, .int .i64 0] 23)) := Ext.trans (ext_alloc _ _) (ext_alloc _ _)
        have ba := (Blk.new w #[.int .i64 a, .int .i64 b] 23).ext (ext_alloc _ (.cells #[.int .i64 0, .int .i64 0] 23))
        have bo := Blk.new (w.alloc (.cells #[.int .i64 a, .int .i64 b] 23)) #[.int .i64 0, .int .i64 0] 23
        simp only [World.size_alloc] at bo
        have G1 : w.heap.size ≤ w.heap.size + 1 := by omega
        refine (refSGood_any a b _).mono ?_
        rintro e w1 ⟨rfl, x1⟩
        rw [HS.out]
        replace ba := ba.ext x1
        replace bo := bo.ext x1
        replace hx := Ext.trans hx x1
        clear x1
        have bac0 := ba.cell (i := 0) rfl
        have bac1 := ba.cell (i := 1) rfl
        have boc0 := bo.cell (i := 0) rfl
        have boc1 := bo.cell (i := 1) rfl
        have boz0 := bo.thaw 0
        have boz1 := bo.thaw 1
        go_wp2_with fail
        have bo2 := (bo.set 0 (.int .i64 (0))).set 1 (.int .i64 (0))
        have d0 := bo2.cell (i := 0) rfl
        have d1 := bo2.cell (i := 1) rfl
        exact bodyPost_ret (v := .tuple #[.agg #[.int .i64 (0), .int .i64 (0)], .int .i64 2]) (by simp [results, Tryd.results10, d0, d1, go_sem]) rfl ⟨by (rw [HR.out]; try rfl), Below.setCell (Below.setCell hx G1 _) G1 _⟩
    · rcases hsite with rfl | rfl
      · have HS := Lib.hid hs
        have hab : 0 ≤ a ∧ a ≤ 281474976710656 := by rcases sgood_iff.1 hs with h | h <;> omega
        obtain ⟨ha0, ha1⟩ := hab
        clear hs
        by_cases hn : (1099511627776 : Int) < now
        · by_cases hm : a + 1 < 1099511627776
          · have HN := Lib.hid (show snum a now = 1099511627776 by unfold snum; omega)
            have HR := Lib.hid (snext_ok (a := a) (b := b) (now := now) HKT.out HS.out (by rw [HN.out]; omega))
            rw [HN.out] at HR
            go_enter Tryd.func10, Tryd.ntmps10
            go_wp2_with fail
            have hx : Ext w ((w.alloc (.cells #[.int .i64 a, .int .i64 b] 23)).alloc (.cells #[.int .i64 0, .int .i64 0] 23)) := Ext.trans (ext_alloc _ _) (ext_alloc _ _)
            have ba := (Blk.new w #[.int .i64 a, .int .i64 b] 23).ext (ext_alloc _ (.cells #[.int .i64 0, .int .i64 0] 23))
            have bo := Blk.new (w.alloc (.cells #[.int .i64 a, .int .i64 b] 23)) #[.int .i64 0, .int .i64 0] 23
            simp only [World.size_alloc] at bo
            have G1 : w.heap.size ≤ w.heap.size + 1 := by omega
            refine (refSGood_any a b _).mono ?_
            rintro e w1 ⟨rfl, x1⟩
            rw [HS.out]
            replace ba := ba.ext x1
            replace bo := bo.ext x1
            replace hx := Ext.trans hx x1
            clear x1
            have bac0 := ba.cell (i := 0) rfl
            have bac1 := ba.cell (i := 1) rfl
            have boc0 := bo.cell (i := 0) rfl
            have boc1 := bo.cell (i := 1) rfl
            have boz0 := bo.thaw 0
            have boz1 := bo.thaw 1
            go_wp2_with fail
            have bo2 := (bo.set 0 (.int .i64 (1099511627776))).set 1 (.int .i64 (1))
            have d0 := bo2.cell (i := 0) rfl
            have d1 := bo2.cell (i := 1) rfl
            exact bodyPost_ret (v := .tuple #[.agg #[.int .i64 (1099511627776), .int .i64 (1)], .int .i64 0]) (by simp [results, Tryd.results10, d0, d1, go_sem]) rfl ⟨by (rw [HR.out]; try rfl), Below.setCell (Below.setCell hx G1 _) G1 _⟩
          · have HN := Lib.hid (show snum a now = a + 1 by unfold snum; omega)
            by_cases hbig : 281474976710656 < a + 1
            · have HR := Lib.hid (snext_clock (a := a) (b := b) (now := now) HKT.out HS.out (by rw [HN.out]; omega))
              go_enter Tryd.func10, Tryd.ntmps10
              go_wp2_with fail
              have hx : Ext w ((w.alloc (.cells #[.int .i64 a, .int .i64 b] 23)).alloc (.cells #[.int .i64 0, .int .i64 0] 23)) := Ext.trans (ext_alloc _ _) (ext_alloc _ _)
              have ba := (Blk.new w #[.int .i64 a, .int .i64 b] 23).ext (ext_alloc _ (.cells #[.int .i64 0, .int .i64 0] 23))
              have bo := Blk.new (w.alloc (.cells #[.int .i64 a, .int .i64 b] 23)) #[.int .i64 0, .int .i64 0] 23
              simp only [World.size_alloc] at bo
              have G1 : w.heap.size ≤ w.heap.size + 1 := by omega
              refine (refSGood_any a b _).mono ?_
              rintro e w1 ⟨rfl, x1⟩
              rw [HS.out]
              replace ba := ba.ext x1
              replace bo := bo.ext x1
              replace hx := Ext.trans hx x1
              clear x1
              have bac0 := ba.cell (i := 0) rfl
              have bac1 := ba.cell (i := 1) rfl
              have boc0 := bo.cell (i := 0) rfl
              have boc1 := bo.cell (i := 1) rfl
              have boz0 := bo.thaw 0
              have boz1 := bo.thaw 1
              go_wp2_with fail
              have bo2 := (bo.set 0 (.int .i64 (0))).set 1 (.int .i64 (0))
              have d0 := bo2.cell (i := 0) rfl
              have d1 := bo2.cell (i := 1) rfl
              exact bodyPost_ret (v := .tuple #[.agg #[.int .i64 (0), .int .i64 (0)], .int .i64 50]) (by simp [results, Tryd.results10, d0, d1, go_sem]) rfl ⟨by (rw [HR.out]; try rfl), Below.setCell (Below.setCell hx G1 _) G1 _⟩
            · have HR := Lib.hid (snext_ok (a := a) (b := b) (now := now) HKT.out HS.out (by rw [HN.out]; omega))
              rw [HN.out] at HR
              go_enter Tryd.func10, Tryd.ntmps10
              go_wp2_with fail
              have hx : Ext w ((w.alloc (.cells #[.int .i64 a, .int .i64 b] 23)).alloc (.cells #[.int .i64 0, .int .i64 0] 23)) := Ext.trans (ext_alloc _ _) (ext_alloc _ _)
              have ba := (Blk.new w #[.int .i64 a, .int .i64 b] 23).ext (ext_alloc _ (.cells #[.int .i64 0, .int .i64 0] 23))
              have bo := Blk.new (w.alloc (.cells #[.int .i64 a, .int .i64 b] 23)) #[.int .i64 0, .int .i64 0] 23
              simp only [World.size_alloc] at bo
              have G1 : w.heap.size ≤ w.heap.size + 1 := by omega
              refine (refSGood_any a b _).mono ?_
              rintro e w1 ⟨rfl, x1⟩
              rw [HS.out]
              replace ba := ba.ext x1
              replace bo := bo.ext x1
              replace hx := Ext.trans hx x1
              clear x1
              have bac0 := ba.cell (i := 0) rfl
              have bac1 := ba.cell (i := 1) rfl
              have boc0 := bo.cell (i := 0) rfl
              have boc1 := bo.cell (i := 1) rfl
              have boz0 := bo.thaw 0
              have boz1 := bo.thaw 1
              go_wp2_with fail
              have bo2 := (bo.set 0 (.int .i64 (a + 1))).set 1 (.int .i64 (1))
              have d0 := bo2.cell (i := 0) rfl
              have d1 := bo2.cell (i := 1) rfl
              exact bodyPost_ret (v := .tuple #[.agg #[.int .i64 (a + 1), .int .i64 (1)], .int .i64 0]) (by simp [results, Tryd.results10, d0, d1, go_sem]) rfl ⟨by (rw [HR.out]; try rfl), Below.setCell (Below.setCell hx G1 _) G1 _⟩
        · by_cases hm : a + 1 < now
          · have HN := Lib.hid (show snum a now = now by unfold snum; omega)
            have HR := Lib.hid (snext_ok (a := a) (b := b) (now := now) HKT.out HS.out (by rw [HN.out]; omega))
            rw [HN.out] at HR
            go_enter Tryd.func10, Tryd.ntmps10
            go_wp2_with fail
            have hx : Ext w ((w.alloc (.cells #[.int .i64 a, .int .i64 b] 23)).alloc (.cells #[.int .i64 0, .int .i64 0] 23)) := Ext.trans (ext_alloc _ _) (ext_alloc _ _)
            have ba := (Blk.new w #[.int .i64 a, .int .i64 b] 23).ext (ext_alloc _ (.cells #[.int .i64 0, .int .i64 0] 23))
            have bo := Blk.new (w.alloc (.cells #[.int .i64 a, .int .i64 b] 23)) #[.int .i64 0, .int .i64 0] 23
            simp only [World.size_alloc] at bo
            have G1 : w.heap.size ≤ w.heap.size + 1 := by omega
            refine (refSGood_any a b _).mono ?_
            rintro e w1 ⟨rfl, x1⟩
            rw [HS.out]
            replace ba := ba.ext x1
            replace bo := bo.ext x1
            replace hx := Ext.trans hx x1
            clear x1
            have bac0 := ba.cell (i := 0) rfl
            have bac1 := ba.cell (i := 1) rfl
            have boc0 := bo.cell (i := 0) rfl
            have boc1 := bo.cell (i := 1) rfl
            have boz0 := bo.thaw 0
            have boz1 := bo.thaw 1
            go_wp2_with fail
            have bo2 := (bo.set 0 (.int .i64 (now))).set 1 (.int .i64 (1))
            have d0 := bo2.cell (i := 0) rfl
            have d1 := bo2.cell (i := 1) rfl
            exact bodyPost_ret (v := .tuple #[.agg #[.int .i64 (now), .int .i64 (1)], .int .i64 0]) (by simp [results, Tryd.results10, d0, d1, go_sem]) rfl ⟨by (rw [HR.out]; try rfl), Below.setCell (Below.setCell hx G1 _) G1 _⟩
          · have HN := Lib.hid (show snum a now = a + 1 by unfold snum; omega)
            by_cases hbig : 281474976710656 < a + 1
            · have HR := Lib.hid (snext_clock (a := a) (b := b) (now := now) HKT.out HS.out (by rw [HN.out]; omega))
              go_enter Tryd.func10, Tryd.ntmps10
              go_wp2_with fail
              have hx : Ext w ((w.alloc (.cells #[.int .i64 a, .int .i64 b] 23)).alloc (.cells #[.int .i64 0, .int .i64 0] 23)) := Ext.trans (ext_alloc _ _) (ext_alloc _ _)
              have ba := (Blk.new w #[.int .i64 a, .int .i64 b] 23).ext (ext_alloc _ (.cells #[.int .i64 0, .int .i64 0] 23))
              have bo := Blk.new (w.alloc (.cells #[.int .i64 a, .int .i64 b] 23)) #[.int .i64 0, .int .i64 0] 23
              simp only [World.size_alloc] at bo
              have G1 : w.heap.size ≤ w.heap.size + 1 := by omega
              refine (refSGood_any a b _).mono ?_
              rintro e w1 ⟨rfl, x1⟩
              rw [HS.out]
              replace ba := ba.ext x1
              replace bo := bo.ext x1
              replace hx := Ext.trans hx x1
              clear x1
              have bac0 := ba.cell (i := 0) rfl
              have bac1 := ba.cell (i := 1) rfl
              have boc0 := bo.cell (i := 0) rfl
              have boc1 := bo.cell (i := 1) rfl
              have boz0 := bo.thaw 0
              have boz1 := bo.thaw 1
              go_wp2_with fail
              have bo2 := (bo.set 0 (.int .i64 (0))).set 1 (.int .i64 (0))
              have d0 := bo2.cell (i := 0) rfl
              have d1 := bo2.cell (i := 1) rfl
              exact bodyPost_ret (v := .tuple #[.agg #[.int .i64 (0), .int .i64 (0)], .int .i64 50]) (by simp [results, Tryd.results10, d0, d1, go_sem]) rfl ⟨by (rw [HR.out]; try rfl), Below.setCell (Below.setCell hx G1 _) G1 _⟩
            · have HR := Lib.hid (snext_ok (a := a) (b := b) (now := now) HKT.out HS.out (by rw [HN.out]; omega))
              rw [HN.out] at HR
              go_enter Tryd.func10, Tryd.ntmps10
              go_wp2_with fail
              have hx : Ext w ((w.alloc (.cells #[.int .i64 a, .int .i64 b] 23)).alloc (.cells #[.int .i64 0, .int .i64 0] 23)) := Ext.trans (ext_alloc _ _) (ext_alloc _ _)
              have ba := (Blk.new w #[.int .i64 a, .int .i64 b] 23).ext (ext_alloc _ (.cells #[.int .i64 0, .int .i64 0] 23))
              have bo := Blk.new (w.alloc (.cells #[.int .i64 a, .int .i64 b] 23)) #[.int .i64 0, .int .i64 0] 23
              simp only [World.size_alloc] at bo
              have G1 : w.heap.size ≤ w.heap.size + 1 := by omega
              refine (refSGood_any a b _).mono ?_
              rintro e w1 ⟨rfl, x1⟩
              rw [HS.out]
              replace ba := ba.ext x1
              replace bo := bo.ext x1
              replace hx := Ext.trans hx x1
              clear x1
              have bac0 := ba.cell (i := 0) rfl
              have bac1 := ba.cell (i := 1) rfl
              have boc0 := bo.cell (i := 0) rfl
              have boc1 := bo.cell (i := 1) rfl
              have boz0 := bo.thaw 0
              have boz1 := bo.thaw 1
              go_wp2_with fail
              have bo2 := (bo.set 0 (.int .i64 (a + 1))).set 1 (.int .i64 (1))
              have d0 := bo2.cell (i := 0) rfl
              have d1 := bo2.cell (i := 1) rfl
              exact bodyPost_ret (v := .tuple #[.agg #[.int .i64 (a + 1), .int .i64 (1)], .int .i64 0]) (by simp [results, Tryd.results10, d0, d1, go_sem]) rfl ⟨by (rw [HR.out]; try rfl), Below.setCell (Below.setCell hx G1 _) G1 _⟩
      · have HS := Lib.hid hs
        have hab : 0 ≤ a ∧ a ≤ 281474976710656 := by rcases sgood_iff.1 hs with h | h <;> omega
        obtain ⟨ha0, ha1⟩ := hab
        clear hs
        by_cases hn : (1099511627776 : Int) < now
        · by_cases hm : a + 1 < 1099511627776
          · have HN := Lib.hid (show snum a now = 1099511627776 by unfold snum; omega)
            have HR := Lib.hid (snext_ok (a := a) (b := b) (now := now) HKT.out HS.out (by rw [HN.out]; omega))
            rw [HN.out] at HR
            go_enter Tryd.func10, Tryd.ntmps10
            go_wp2_with fail
            have hx : Ext w ((w.alloc (.cells #[.int .i64 a, .int .i64 b] 23)).alloc (.cells #[.int .i64 0, .int .i64 0] 23)) := Ext.trans (ext_alloc _ _) (ext_alloc _ _)
            have ba := (Blk.new w #[.int .i64 a, .int .i64 b] 23).ext (ext_alloc _ (.cells #[.int .i64 0, .int .i64 0] 23))
            have bo := Blk.new (w.alloc (.cells #[.int .i64 a, .int .i64 b] 23)) #[.int .i64 0, .int .i64 0] 23
            simp only [World.size_alloc] at bo
            have G1 : w.heap.size ≤ w.heap.size + 1 := by omega
            refine (refSGood_any a b _).mono ?_
            rintro e w1 ⟨rfl, x1⟩
            rw [HS.out]
            replace ba := ba.ext x1
            replace bo := bo.ext x1
            replace hx := Ext.trans hx x1
            clear x1
            have bac0 := ba.cell (i := 0) rfl
            have bac1 := ba.cell (i := 1) rfl
            have boc0 := bo.cell (i := 0) rfl
            have boc1 := bo.cell (i := 1) rfl
            have boz0 := bo.thaw 0
            have boz1 := bo.thaw 1
            go_wp2_with fail
            have bo2 := (bo.set 0 (.int .i64 (1099511627776))).set 1 (.int .i64 (2))
            have d0 := bo2.cell (i := 0) rfl
            have d1 := bo2.cell (i := 1) rfl
            exact bodyPost_ret (v := .tuple #[.agg #[.int .i64 (1099511627776), .int .i64 (2)], .int .i64 0]) (by simp [results, Tryd.results10, d0, d1, go_sem]) rfl ⟨by (rw [HR.out]; try rfl), Below.setCell (Below.setCell hx G1 _) G1 _⟩
          · have HN := Lib.hid (show snum a now = a + 1 by unfold snum; omega)
            by_cases hbig : 281474976710656 < a + 1
            · have HR := Lib.hid (snext_clock (a := a) (b := b) (now := now) HKT.out HS.out (by rw [HN.out]; omega))
              go_enter Tryd.func10, Tryd.ntmps10
              go_wp2_with fail
              have hx : Ext w ((w.alloc (.cells #[.int .i64 a, .int .i64 b] 23)).alloc (.cells #[.int .i64 0, .int .i64 0] 23)) := Ext.trans (ext_alloc _ _) (ext_alloc _ _)
              have ba := (Blk.new w #[.int .i64 a, .int .i64 b] 23).ext (ext_alloc _ (.cells #[.int .i64 0, .int .i64 0] 23))
              have bo := Blk.new (w.alloc (.cells #[.int .i64 a, .int .i64 b] 23)) #[.int .i64 0, .int .i64 0] 23
              simp only [World.size_alloc] at bo
              have G1 : w.heap.size ≤ w.heap.size + 1 := by omega
              refine (refSGood_any a b _).mono ?_
              rintro e w1 ⟨rfl, x1⟩
              rw [HS.out]
              replace ba := ba.ext x1
              replace bo := bo.ext x1
              replace hx := Ext.trans hx x1
              clear x1
              have bac0 := ba.cell (i := 0) rfl
              have bac1 := ba.cell (i := 1) rfl
              have boc0 := bo.cell (i := 0) rfl
              have boc1 := bo.cell (i := 1) rfl
              have boz0 := bo.thaw 0
              have boz1 := bo.thaw 1
              go_wp2_with fail
              have bo2 := (bo.set 0 (.int .i64 (0))).set 1 (.int .i64 (0))
              have d0 := bo2.cell (i := 0) rfl
              have d1 := bo2.cell (i := 1) rfl
              exact bodyPost_ret (v := .tuple #[.agg #[.int .i64 (0), .int .i64 (0)], .int .i64 50]) (by simp [results, Tryd.results10, d0, d1, go_sem]) rfl ⟨by (rw [HR.out]; try rfl), Below.setCell (Below.setCell hx G1 _) G1 _⟩
            · have HR := Lib.hid (snext_ok (a := a) (b := b) (now := now) HKT.out HS.out (by rw [HN.out]; omega))
              rw [HN.out] at HR
              go_enter Tryd.func10, Tryd.ntmps10
              go_wp2_with fail
              have hx : Ext w ((w.alloc (.cells #[.int .i64 a, .int .i64 b] 23)).alloc (.cells #[.int .i64 0, .int .i64 0] 23)) := Ext.trans (ext_alloc _ _) (ext_alloc _ _)
              have ba := (Blk.new w #[.int .i64 a, .int .i64 b] 23).ext (ext_alloc _ (.cells #[.int .i64 0, .int .i64 0] 23))
              have bo := Blk.new (w.alloc (.cells #[.int .i64 a, .int .i64 b] 23)) #[.int .i64 0, .int .i64 0] 23
              simp only [World.size_alloc] at bo
              have G1 : w.heap.size ≤ w.heap.size + 1 := by omega
              refine (refSGood_any a b _).mono ?_
              rintro e w1 ⟨rfl, x1⟩
              rw [HS.out]
              replace ba := ba.ext x1
              replace bo := bo.ext x1
              replace hx := Ext.trans hx x1
              clear x1
              have bac0 := ba.cell (i := 0) rfl
              have bac1 := ba.cell (i := 1) rfl
              have boc0 := bo.cell (i := 0) rfl
              have boc1 := bo.cell (i := 1) rfl
              have boz0 := bo.thaw 0
              have boz1 := bo.thaw 1
              go_wp2_with fail
              have bo2 := (bo.set 0 (.int .i64 (a + 1))).set 1 (.int .i64 (2))
              have d0 := bo2.cell (i := 0) rfl
              have d1 := bo2.cell (i := 1) rfl
              exact bodyPost_ret (v := .tuple #[.agg #[.int .i64 (a + 1), .int .i64 (2)], .int .i64 0]) (by simp [results, Tryd.results10, d0, d1, go_sem]) rfl ⟨by (rw [HR.out]; try rfl), Below.setCell (Below.setCell hx G1 _) G1 _⟩
        · by_cases hm : a + 1 < now
          · have HN := Lib.hid (show snum a now = now by unfold snum; omega)
            have HR := Lib.hid (snext_ok (a := a) (b := b) (now := now) HKT.out HS.out (by rw [HN.out]; omega))
            rw [HN.out] at HR
            go_enter Tryd.func10, Tryd.ntmps10
            go_wp2_with fail
            have hx : Ext w ((w.alloc (.cells #[.int .i64 a, .int .i64 b] 23)).alloc (.cells #[.int .i64 0, .int .i64 0] 23)) := Ext.trans (ext_alloc _ _) (ext_alloc _ _)
            have ba := (Blk.new w #[.int .i64 a, .int .i64 b] 23).ext (ext_alloc _ (.cells #[.int .i64 0, .int .i64 0] 23))
            have bo := Blk.new (w.alloc (.cells #[.int .i64 a, .int .i64 b] 23)) #[.int .i64 0, .int .i64 0] 23
            simp only [World.size_alloc] at bo
            have G1 : w.heap.size ≤ w.heap.size + 1 := by omega
            refine (refSGood_any a b _).mono ?_
            rintro e w1 ⟨rfl, x1⟩
            rw [HS.out]
            replace ba := ba.ext x1
            replace bo := bo.ext x1
            replace hx := Ext.trans hx x1
            clear x1
            have bac0 := ba.cell (i := 0) rfl
            have bac1 := ba.cell (i := 1) rfl
            have boc0 := bo.cell (i := 0) rfl
            have boc1 := bo.cell (i := 1) rfl
            have boz0 := bo.thaw 0
            have boz1 := bo.thaw 1
            go_wp2_with fail
            have bo2 := (bo.set 0 (.int .i64 (now))).set 1 (.int .i64 (2))
            have d0 := bo2.cell (i := 0) rfl
            have d1 := bo2.cell (i := 1) rfl
            exact bodyPost_ret (v := .tuple #[.agg #[.int .i64 (now), .int .i64 (2)], .int .i64 0]) (by simp [results, Tryd.results10, d0, d1, go_sem]) rfl ⟨by (rw [HR.out]; try rfl), Below.setCell (Below.setCell hx G1 _) G1 _⟩
          · have HN := Lib.hid (show snum a now = a + 1 by unfold snum; omega)
            by_cases hbig : 281474976710656 < a + 1
            · have HR := Lib.hid (snext_clock (a := a) (b := b) (now := now) HKT.out HS.out (by rw [HN.out]; omega))
              go_enter Tryd.func10, Tryd.ntmps10
              go_wp2_with fail
              have hx : Ext w ((w.alloc (.cells #[.int .i64 a, .int .i64 b] 23)).alloc (.cells #[.int .i64 0, .int .i64 0] 23)) := Ext.trans (ext_alloc _ _) (ext_alloc _ _)
              have ba := (Blk.new w #[.int .i64 a, .int .i64 b] 23).ext (ext_alloc _ (.cells #[.int .i64 0, .int .i64 0] 23))
              have bo := Blk.new (w.alloc (.cells #[.int .i64 a, .int .i64 b] 23)) #[.int .i64 0, .int .i64 0] 23
              simp only [World.size_alloc] at bo
              have G1 : w.heap.size ≤ w.heap.size + 1 := by omega
              refine (refSGood_any a b _).mono ?_
              rintro e w1 ⟨rfl, x1⟩
              rw [HS.out]
              replace ba := ba.ext x1
              replace bo := bo.ext x1
              replace hx := Ext.trans hx x1
              clear x1
              have bac0 := ba.cell (i := 0) rfl
              have bac1 := ba.cell (i := 1) rfl
              have boc0 := bo.cell (i := 0) rfl
              have boc1 := bo.cell (i := 1) rfl
              have boz0 := bo.thaw 0
              have boz1 := bo.thaw 1
              go_wp2_with fail
              have bo2 := (bo.set 0 (.int .i64 (0))).set 1 (.int .i64 (0))
              have d0 := bo2.cell (i := 0) rfl
              have d1 := bo2.cell (i := 1) rfl
              exact bodyPost_ret (v := .tuple #[.agg #[.int .i64 (0), .int .i64 (0)], .int .i64 50]) (by simp [results, Tryd.results10, d0, d1, go_sem]) rfl ⟨by (rw [HR.out]; try rfl), Below.setCell (Below.setCell hx G1 _) G1 _⟩
            · have HR := Lib.hid (snext_ok (a := a) (b := b) (now := now) HKT.out HS.out (by rw [HN.out]; omega))
              rw [HN.out] at HR
              go_enter Tryd.func10, Tryd.ntmps10
              go_wp2_with fail
              have hx : Ext w ((w.alloc (.cells #[.int .i64 a, .int .i64 b] 23)).alloc (.cells #[.int .i64 0, .int .i64 0] 23)) := Ext.trans (ext_alloc _ _) (ext_alloc _ _)
              have ba := (Blk.new w #[.int .i64 a, .int .i64 b] 23).ext (ext_alloc _ (.cells #[.int .i64 0, .int .i64 0] 23))
              have bo := Blk.new (w.alloc (.cells #[.int .i64 a, .int .i64 b] 23)) #[.int .i64 0, .int .i64 0] 23
              simp only [World.size_alloc] at bo
              have G1 : w.heap.size ≤ w.heap.size + 1 := by omega
              refine (refSGood_any a b _).mono ?_
              rintro e w1 ⟨rfl, x1⟩
              rw [HS.out]
              replace ba := ba.ext x1
              replace bo := bo.ext x1
              replace hx := Ext.trans hx x1
              clear x1
              have bac0 := ba.cell (i := 0) rfl
              have bac1 := ba.cell (i := 1) rfl
              have boc0 := bo.cell (i := 0) rfl
              have boc1 := bo.cell (i := 1) rfl
              have boz0 := bo.thaw 0
              have boz1 := bo.thaw 1
              go_wp2_with fail
              have bo2 := (bo.set 0 (.int .i64 (a + 1))).set 1 (.int .i64 (2))
              have d0 := bo2.cell (i := 0) rfl
              have d1 := bo2.cell (i := 1) rfl
              exact bodyPost_ret (v := .tuple #[.agg #[.int .i64 (a + 1), .int .i64 (2)], .int .i64 0]) (by simp [results, Tryd.results10, d0, d1, go_sem]) rfl ⟨by (rw [HR.out]; try rfl), Below.setCell (Below.setCell hx G1 _) G1 _⟩
end Go.Proofs.YtnjnbjcibdeihaaDoor
