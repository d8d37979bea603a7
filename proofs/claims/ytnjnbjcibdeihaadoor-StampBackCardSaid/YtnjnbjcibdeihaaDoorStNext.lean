/-
  The walks of both Next of stamps.
-/
import Derived.Test.YtnjnbjcibdeihaaDoorStGood
namespace Go.Proofs.YtnjnbjcibdeihaaDoor
open Go Go.RowKit Mono
set_option linter.unusedVariables false
set_option linter.unusedSimpArgs false

def snum (a now : Int) : Int := max (a + 1) (min now 1099511627776)
def snext (a b now site : Int) : (Int × Int) × Nat :=
  if knownB site = false ∨ sgood a b = false then ((0, 0), 2) else if 281474976710656 < snum a now then ((0, 0), 50) else ((snum a now, site), 0)
def snextV (r : (Int × Int) × Nat) : Value := .tuple #[stV r.1.1 r.1.2, .int .i64 (r.2 : Int)]
theorem snext_bad {a b now site : Int} (h : knownB site = false ∨ sgood a b = false) : snext a b now site = ((0, 0), 2) := by unfold snext; rw [if_pos h]
theorem snext_clock {a b now site : Int} (h1 : knownB site = true) (h2 : sgood a b = true) (h : 281474976710656 < snum a now) : snext a b now site = ((0, 0), 50) := by
  unfold snext; rw [if_neg (by simp [h1, h2]), if_pos h]
theorem snext_ok {a b now site : Int} (h1 : knownB site = true) (h2 : sgood a b = true) (h : ¬ 281474976710656 < snum a now) : snext a b now site = ((snum a now, site), 0) := by
  unfold snext; rw [if_neg (by simp [h1, h2]), if_neg h]

set_option maxHeartbeats 4000000 in
theorem stNext_any (a b now site : Int) (w : World) :
    Calls Tryd.prog 9 #[stV a b, .int .i64 now, .int .i64 site] w fun e w' => e = .returned (snextV (snext a b now site)) ∧ Ext w w' := by
  unfold stV
  cases hk : knownB site
  · have HR := Lib.hid (snext_bad (a := a) (b := b) (now := now) (.inl hk))
    have HK := Lib.hid hk
    clear hk
    go_enter Tryd.func9, Tryd.ntmps9
    go_wp2_with fail
    have hx : Ext w ((w.alloc (.cells #[.int .i64 a, .int .i64 b] 23)).alloc (.cells #[.int .i64 0, .int .i64 0] 23)) := Ext.trans (ext_alloc _ _) (ext_alloc _ _)
    have ba := (Blk.new w #[.int .i64 a, .int .i64 b] 23).ext (ext_alloc _ (.cells #[.int .i64 0, .int .i64 0] 23))
    have bo := Blk.new (w.alloc (.cells #[.int .i64 a, .int .i64 b] 23)) #[.int .i64 0, .int .i64 0] 23
    simp only [World.size_alloc] at bo
    have G1 : w.heap.size ≤ w.heap.size + 1 := by omega
    refine (known_any _ _).mono ?_
    rintro e w0 ⟨rfl, rfl⟩
    rw [HK.out]
    have bac0 := ba.cell (i := 0) rfl
    have bac1 := ba.cell (i := 1) rfl
    have boc0 := bo.cell (i := 0) rfl
    have boc1 := bo.cell (i := 1) rfl
    have boz0 := bo.thaw 0
    have boz1 := bo.thaw 1
    go_wp2_with fail
    exact bodyPost_ret (v := .tuple #[.agg #[.int .i64 0, .int .i64 0], .int .i64 2]) (by simp [results, Tryd.results9, go_sem]) rfl ⟨by (rw [HR.out]; try rfl), hx⟩
  · have HKT := Lib.hid hk
    have hsite : site = 1 ∨ site = 2 := by unfold knownB at hk; simpa using hk
    have HK := Lib.hid hk
    clear hk
    cases hs : sgood a b
    · have HR := Lib.hid (snext_bad (now := now) (site := site) (.inr hs))
      have HS := Lib.hid hs
      clear hs
      go_enter Tryd.func9, Tryd.ntmps9
      go_wp2_with fail
      have hx : Ext w ((w.alloc (.cells #[.int .i64 a, .int .i64 b] 23)).alloc (.cells #[.int .i64 0, .int .i64 0] 23)) := Ext.trans (ext_alloc _ _) (ext_alloc _ _)
      have ba := (Blk.new w #[.int .i64 a, .int .i64 b] 23).ext (ext_alloc _ (.cells #[.int .i64 0, .int .i64 0] 23))
      have bo := Blk.new (w.alloc (.cells #[.int .i64 a, .int .i64 b] 23)) #[.int .i64 0, .int .i64 0] 23
      simp only [World.size_alloc] at bo
      have G1 : w.heap.size ≤ w.heap.size + 1 := by omega
      refine (known_any _ _).mono ?_
      rintro e w0 ⟨rfl, rfl⟩
      rw [HK.out]
      go_wp2_with fail
      refine (stGood_any a b _).mono ?_
      rintro e w1 ⟨rfl, x1⟩
      rw [HS.out]
      replace ba := ba.ext x1
      replace bo := bo.ext x1
      replace hx := Ext.trans hx x1
      clear x1
      have bac0 := ba.cell (i := 0) rfl
      have bac1 := ba.cell (i := 1) rfl
      have boc0 := bo.cell (i := 0) rfl
      have boc1 := bo.cell (i := 1) rfl
      have boz0 := bo.thaw 0
      have boz1 := bo.thaw 1
      go_wp2_with fail
      have bo2 := (bo.set 0 (.int .i64 (0))).set 1 (.int .i64 (0))
      have d0 := bo2.cell (i := 0) rfl
      have d1 := bo2.cell (i := 1) rfl
      exact bodyPost_ret (v := .tuple #[.agg #[.int .i64 (0), .int .i64 (0)], .int .i64 2]) (by simp [results, Tryd.results9, d0, d1, go_sem]) rfl ⟨by (rw [HR.out]; try rfl), Below.setCell (Below.setCell hx G1 _) G1 _⟩
    · have HS := Lib.hid hs
      have hab : 0 ≤ a ∧ a ≤ 281474976710656 := by rcases sgood_iff.1 hs with h | h <;> omega
      obtain ⟨ha0, ha1⟩ := hab
      clear hs
      by_cases hn : (1099511627776 : Int) < now
      · by_cases hm : a + 1 < 1099511627776
        · have HN := Lib.hid (show snum a now = 1099511627776 by unfold snum; omega)
          have HR := Lib.hid (snext_ok (a := a) (b := b) (now := now) HKT.out HS.out (by rw [HN.out]; omega))
          rw [HN.out] at HR
          have HG2 := Lib.hid (show sgood (1099511627776) site = true from sgood_true (by omega))
          go_enter Tryd.func9, Tryd.ntmps9
          go_wp2_with fail
          have hx : Ext w ((w.alloc (.cells #[.int .i64 a, .int .i64 b] 23)).alloc (.cells #[.int .i64 0, .int .i64 0] 23)) := Ext.trans (ext_alloc _ _) (ext_alloc _ _)
          have ba := (Blk.new w #[.int .i64 a, .int .i64 b] 23).ext (ext_alloc _ (.cells #[.int .i64 0, .int .i64 0] 23))
          have bo := Blk.new (w.alloc (.cells #[.int .i64 a, .int .i64 b] 23)) #[.int .i64 0, .int .i64 0] 23
          simp only [World.size_alloc] at bo
          have G1 : w.heap.size ≤ w.heap.size + 1 := by omega
          refine (known_any _ _).mono ?_
          rintro e w0 ⟨rfl, rfl⟩
          rw [HK.out]
          go_wp2_with fail
          refine (stGood_any a b _).mono ?_
          rintro e w1 ⟨rfl, x1⟩
          rw [HS.out]
          replace ba := ba.ext x1
          replace bo := bo.ext x1
          replace hx := Ext.trans hx x1
          clear x1
          have bac0 := ba.cell (i := 0) rfl
          have bac1 := ba.cell (i := 1) rfl
          have boc0 := bo.cell (i := 0) rfl
          have boc1 := bo.cell (i := 1) rfl
          have boz0 := bo.thaw 0
          have boz1 := bo.thaw 1
          go_wp2_with fail
          replace ba := ba.ext (ext_alloc w1 (.cells #[.int .i64 (1099511627776), .int .i64 site] 23))
          replace bo := bo.ext (ext_alloc w1 (.cells #[.int .i64 (1099511627776), .int .i64 site] 23))
          replace hx := Ext.trans hx (ext_alloc w1 (.cells #[.int .i64 (1099511627776), .int .i64 site] 23))
          have bs := Blk.new w1 #[.int .i64 (1099511627776), .int .i64 site] 23
          refine (stGood_any (1099511627776) site _).mono ?_
          rintro e w2 ⟨rfl, x2⟩
          rw [HG2.out]
          replace bo := bo.ext x2
          replace bs := bs.ext x2
          replace hx := Ext.trans hx x2
          clear x2 ba
          clear bac0 bac1 boc0 boc1 boz0 boz1
          have boc0 := bo.cell (i := 0) rfl
          have boc1 := bo.cell (i := 1) rfl
          have boz0 := bo.thaw 0
          have boz1 := bo.thaw 1
          have bsc0 := bs.cell (i := 0) rfl
          have bsc1 := bs.cell (i := 1) rfl
          go_wp2_with fail
          have bo2 := (bo.set 0 (.int .i64 (1099511627776))).set 1 (.int .i64 (site))
          have d0 := bo2.cell (i := 0) rfl
          have d1 := bo2.cell (i := 1) rfl
          exact bodyPost_ret (v := .tuple #[.agg #[.int .i64 (1099511627776), .int .i64 (site)], .int .i64 0]) (by simp [results, Tryd.results9, d0, d1, go_sem]) rfl ⟨by (rw [HR.out]; try rfl), Below.setCell (Below.setCell hx G1 _) G1 _⟩
        · have HN := Lib.hid (show snum a now = a + 1 by unfold snum; omega)
          by_cases hbig : 281474976710656 < a + 1
          · have HR := Lib.hid (snext_clock (a := a) (b := b) (now := now) HKT.out HS.out (by rw [HN.out]; omega))
            have HG2 := Lib.hid (show sgood (a + 1) site = false from sgood_false (by omega))
            go_enter Tryd.func9, Tryd.ntmps9
            go_wp2_with fail
            have hx : Ext w ((w.alloc (.cells #[.int .i64 a, .int .i64 b] 23)).alloc (.cells #[.int .i64 0, .int .i64 0] 23)) := Ext.trans (ext_alloc _ _) (ext_alloc _ _)
            have ba := (Blk.new w #[.int .i64 a, .int .i64 b] 23).ext (ext_alloc _ (.cells #[.int .i64 0, .int .i64 0] 23))
            have bo := Blk.new (w.alloc (.cells #[.int .i64 a, .int .i64 b] 23)) #[.int .i64 0, .int .i64 0] 23
            simp only [World.size_alloc] at bo
            have G1 : w.heap.size ≤ w.heap.size + 1 := by omega
            refine (known_any _ _).mono ?_
            rintro e w0 ⟨rfl, rfl⟩
            rw [HK.out]
            go_wp2_with fail
            refine (stGood_any a b _).mono ?_
            rintro e w1 ⟨rfl, x1⟩
            rw [HS.out]
            replace ba := ba.ext x1
            replace bo := bo.ext x1
            replace hx := Ext.trans hx x1
            clear x1
            have bac0 := ba.cell (i := 0) rfl
            have bac1 := ba.cell (i := 1) rfl
            have boc0 := bo.cell (i := 0) rfl
            have boc1 := bo.cell (i := 1) rfl
            have boz0 := bo.thaw 0
            have boz1 := bo.thaw 1
            go_wp2_with fail
            replace ba := ba.ext (ext_alloc w1 (.cells #[.int .i64 (a + 1), .int .i64 site] 23))
            replace bo := bo.ext (ext_alloc w1 (.cells #[.int .i64 (a + 1), .int .i64 site] 23))
            replace hx := Ext.trans hx (ext_alloc w1 (.cells #[.int .i64 (a + 1), .int .i64 site] 23))
            have bs := Blk.new w1 #[.int .i64 (a + 1), .int .i64 site] 23
            refine (stGood_any (a + 1) site _).mono ?_
            rintro e w2 ⟨rfl, x2⟩
            rw [HG2.out]
            replace bo := bo.ext x2
            replace bs := bs.ext x2
            replace hx := Ext.trans hx x2
            clear x2 ba
            clear bac0 bac1 boc0 boc1 boz0 boz1
            have boc0 := bo.cell (i := 0) rfl
            have boc1 := bo.cell (i := 1) rfl
            have boz0 := bo.thaw 0
            have boz1 := bo.thaw 1
            have bsc0 := bs.cell (i := 0) rfl
            have bsc1 := bs.cell (i := 1) rfl
            go_wp2_with fail
            have bo2 := (bo.set 0 (.int .i64 (0))).set 1 (.int .i64 (0))
            have d0 := bo2.cell (i := 0) rfl
            have d1 := bo2.cell (i := 1) rfl
            exact bodyPost_ret (v := .tuple #[.agg #[.int .i64 (0), .int .i64 (0)], .int .i64 50]) (by simp [results, Tryd.results9, d0, d1, go_sem]) rfl ⟨by (rw [HR.out]; try rfl), Below.setCell (Below.setCell hx G1 _) G1 _⟩
          · have HR := Lib.hid (snext_ok (a := a) (b := b) (now := now) HKT.out HS.out (by rw [HN.out]; omega))
            rw [HN.out] at HR
            have HG2 := Lib.hid (show sgood (a + 1) site = true from sgood_true (by omega))
            go_enter Tryd.func9, Tryd.ntmps9
            go_wp2_with fail
            have hx : Ext w ((w.alloc (.cells #[.int .i64 a, .int .i64 b] 23)).alloc (.cells #[.int .i64 0, .int .i64 0] 23)) := Ext.trans (ext_alloc _ _) (ext_alloc _ _)
            have ba := (Blk.new w #[.int .i64 a, .int .i64 b] 23).ext (ext_alloc _ (.cells #[.int .i64 0, .int .i64 0] 23))
            have bo := Blk.new (w.alloc (.cells #[.int .i64 a, .int .i64 b] 23)) #[.int .i64 0, .int .i64 0] 23
            simp only [World.size_alloc] at bo
            have G1 : w.heap.size ≤ w.heap.size + 1 := by omega
            refine (known_any _ _).mono ?_
            rintro e w0 ⟨rfl, rfl⟩
            rw [HK.out]
            go_wp2_with fail
            refine (stGood_any a b _).mono ?_
            rintro e w1 ⟨rfl, x1⟩
            rw [HS.out]
            replace ba := ba.ext x1
            replace bo := bo.ext x1
            replace hx := Ext.trans hx x1
            clear x1
            have bac0 := ba.cell (i := 0) rfl
            have bac1 := ba.cell (i := 1) rfl
            have boc0 := bo.cell (i := 0) rfl
            have boc1 := bo.cell (i := 1) rfl
            have boz0 := bo.thaw 0
            have boz1 := bo.thaw 1
            go_wp2_with fail
            replace ba := ba.ext (ext_alloc w1 (.cells #[.int .i64 (a + 1), .int .i64 site] 23))
            replace bo := bo.ext (ext_alloc w1 (.cells #[.int .i64 (a + 1), .int .i64 site] 23))
            replace hx := Ext.trans hx (ext_alloc w1 (.cells #[.int .i64 (a + 1), .int .i64 site] 23))
            have bs := Blk.new w1 #[.int .i64 (a + 1), .int .i64 site] 23
            refine (stGood_any (a + 1) site _).mono ?_
            rintro e w2 ⟨rfl, x2⟩
            rw [HG2.out]
            replace bo := bo.ext x2
            replace bs := bs.ext x2
            replace hx := Ext.trans hx x2
            clear x2 ba
            clear bac0 bac1 boc0 boc1 boz0 boz1
            have boc0 := bo.cell (i := 0) rfl
            have boc1 := bo.cell (i := 1) rfl
            have boz0 := bo.thaw 0
            have boz1 := bo.thaw 1
            have bsc0 := bs.cell (i := 0) rfl
            have bsc1 := bs.cell (i := 1) rfl
            go_wp2_with fail
            have bo2 := (bo.set 0 (.int .i64 (a + 1))).set 1 (.int .i64 (site))
            have d0 := bo2.cell (i := 0) rfl
            have d1 := bo2.cell (i := 1) rfl
            exact bodyPost_ret (v := .tuple #[.agg #[.int .i64 (a + 1), .int .i64 (site)], .int .i64 0]) (by simp [results, Tryd.results9, d0, d1, go_sem]) rfl ⟨by (rw [HR.out]; try rfl), Below.setCell (Below.setCell hx G1 _) G1 _⟩
      · by_cases hm : a + 1 < now
        · have HN := Lib.hid (show snum a now = now by unfold snum; omega)
          have HR := Lib.hid (snext_ok (a := a) (b := b) (now := now) HKT.out HS.out (by rw [HN.out]; omega))
          rw [HN.out] at HR
          have HG2 := Lib.hid (show sgood (now) site = true from sgood_true (by omega))
          go_enter Tryd.func9, Tryd.ntmps9
          go_wp2_with fail
          have hx : Ext w ((w.alloc (.cells #[.int .i64 a, .int .i64 b] 23)).alloc (.cells #[.int .i64 0, .int .i64 0] 23)) := Ext.trans (ext_alloc _ _) (ext_alloc _ _)
          have ba := (Blk.new w #[.int .i64 a, .int .i64 b] 23).ext (ext_alloc _ (.cells #[.int .i64 0, .int .i64 0] 23))
          have bo := Blk.new (w.alloc (.cells #[.int .i64 a, .int .i64 b] 23)) #[.int .i64 0, .int .i64 0] 23
          simp only [World.size_alloc] at bo
          have G1 : w.heap.size ≤ w.heap.size + 1 := by omega
          refine (known_any _ _).mono ?_
          rintro e w0 ⟨rfl, rfl⟩
          rw [HK.out]
          go_wp2_with fail
          refine (stGood_any a b _).mono ?_
          rintro e w1 ⟨rfl, x1⟩
          rw [HS.out]
          replace ba := ba.ext x1
          replace bo := bo.ext x1
          replace hx := Ext.trans hx x1
          clear x1
          have bac0 := ba.cell (i := 0) rfl
          have bac1 := ba.cell (i := 1) rfl
          have boc0 := bo.cell (i := 0) rfl
          have boc1 := bo.cell (i := 1) rfl
          have boz0 := bo.thaw 0
          have boz1 := bo.thaw 1
          go_wp2_with fail
          replace ba := ba.ext (ext_alloc w1 (.cells #[.int .i64 (now), .int .i64 site] 23))
          replace bo := bo.ext (ext_alloc w1 (.cells #[.int .i64 (now), .int .i64 site] 23))
          replace hx := Ext.trans hx (ext_alloc w1 (.cells #[.int .i64 (now), .int .i64 site] 23))
          have bs := Blk.new w1 #[.int .i64 (now), .int .i64 site] 23
          refine (stGood_any (now) site _).mono ?_
          rintro e w2 ⟨rfl, x2⟩
          rw [HG2.out]
          replace bo := bo.ext x2
          replace bs := bs.ext x2
          replace hx := Ext.trans hx x2
          clear x2 ba
          clear bac0 bac1 boc0 boc1 boz0 boz1
          have boc0 := bo.cell (i := 0) rfl
          have boc1 := bo.cell (i := 1) rfl
          have boz0 := bo.thaw 0
          have boz1 := bo.thaw 1
          have bsc0 := bs.cell (i := 0) rfl
          have bsc1 := bs.cell (i := 1) rfl
          go_wp2_with fail
          have bo2 := (bo.set 0 (.int .i64 (now))).set 1 (.int .i64 (site))
          have d0 := bo2.cell (i := 0) rfl
          have d1 := bo2.cell (i := 1) rfl
          exact bodyPost_ret (v := .tuple #[.agg #[.int .i64 (now), .int .i64 (site)], .int .i64 0]) (by simp [results, Tryd.results9, d0, d1, go_sem]) rfl ⟨by (rw [HR.out]; try rfl), Below.setCell (Below.setCell hx G1 _) G1 _⟩
        · have HN := Lib.hid (show snum a now = a + 1 by unfold snum; omega)
          by_cases hbig : 281474976710656 < a + 1
          · have HR := Lib.hid (snext_clock (a := a) (b := b) (now := now) HKT.out HS.out (by rw [HN.out]; omega))
            have HG2 := Lib.hid (show sgood (a + 1) site = false from sgood_false (by omega))
            go_enter Tryd.func9, Tryd.ntmps9
            go_wp2_with fail
            have hx : Ext w ((w.alloc (.cells #[.int .i64 a, .int .i64 b] 23)).alloc (.cells #[.int .i64 0, .int .i64 0] 23)) := Ext.trans (ext_alloc _ _) (ext_alloc _ _)
            have ba := (Blk.new w #[.int .i64 a, .int .i64 b] 23).ext (ext_alloc _ (.cells #[.int .i64 0, .int .i64 0] 23))
            have bo := Blk.new (w.alloc (.cells #[.int .i64 a, .int .i64 b] 23)) #[.int .i64 0, .int .i64 0] 23
            simp only [World.size_alloc] at bo
            have G1 : w.heap.size ≤ w.heap.size + 1 := by omega
            refine (known_any _ _).mono ?_
            rintro e w0 ⟨rfl, rfl⟩
            rw [HK.out]
            go_wp2_with fail
            refine (stGood_any a b _).mono ?_
            rintro e w1 ⟨rfl, x1⟩
            rw [HS.out]
            replace ba := ba.ext x1
            replace bo := bo.ext x1
            replace hx := Ext.trans hx x1
            clear x1
            have bac0 := ba.cell (i := 0) rfl
            have bac1 := ba.cell (i := 1) rfl
            have boc0 := bo.cell (i := 0) rfl
            have boc1 := bo.cell (i := 1) rfl
            have boz0 := bo.thaw 0
            have boz1 := bo.thaw 1
            go_wp2_with fail
            replace ba := ba.ext (ext_alloc w1 (.cells #[.int .i64 (a + 1), .int .i64 site] 23))
            replace bo := bo.ext (ext_alloc w1 (.cells #[.int .i64 (a + 1), .int .i64 site] 23))
            replace hx := Ext.trans hx (ext_alloc w1 (.cells #[.int .i64 (a + 1), .int .i64 site] 23))
            have bs := Blk.new w1 #[.int .i64 (a + 1), .int .i64 site] 23
            refine (stGood_any (a + 1) site _).mono ?_
            rintro e w2 ⟨rfl, x2⟩
            rw [HG2.out]
            replace bo := bo.ext x2
            replace bs := bs.ext x2
            replace hx := Ext.trans hx x2
            clear x2 ba
            clear bac0 bac1 boc0 boc1 boz0 boz1
            have boc0 := bo.cell (i := 0) rfl
            have boc1 := bo.cell (i := 1) rfl
            have boz0 := bo.thaw 0
            have boz1 := bo.thaw 1
            have bsc0 := bs.cell (i := 0) rfl
            have bsc1 := bs.cell (i := 1) rfl
            go_wp2_with fail
            have bo2 := (bo.set 0 (.int .i64 (0))).set 1 (.int .i64 (0))
            have d0 := bo2.cell (i := 0) rfl
            have d1 := bo2.cell (i := 1) rfl
            exact bodyPost_ret (v := .tuple #[.agg #[.int .i64 (0), .int .i64 (0)], .int .i64 50]) (by simp [results, Tryd.results9, d0, d1, go_sem]) rfl ⟨by (rw [HR.out]; try rfl), Below.setCell (Below.setCell hx G1 _) G1 _⟩
          · have HR := Lib.hid (snext_ok (a := a) (b := b) (now := now) HKT.out HS.out (by rw [HN.out]; omega))
            rw [HN.out] at HR
            have HG2 := Lib.hid (show sgood (a + 1) site = true from sgood_true (by omega))
            go_enter Tryd.func9, Tryd.ntmps9
            go_wp2_with fail
            have hx : Ext w ((w.alloc (.cells #[.int .i64 a, .int .i64 b] 23)).alloc (.cells #[.int .i64 0, .int .i64 0] 23)) := Ext.trans (ext_alloc _ _) (ext_alloc _ _)
            have ba := (Blk.new w #[.int .i64 a, .int .i64 b] 23).ext (ext_alloc _ (.cells #[.int .i64 0, .int .i64 0] 23))
            have bo := Blk.new (w.alloc (.cells #[.int .i64 a, .int .i64 b] 23)) #[.int .i64 0, .int .i64 0] 23
            simp only [World.size_alloc] at bo
            have G1 : w.heap.size ≤ w.heap.size + 1 := by omega
            refine (known_any _ _).mono ?_
            rintro e w0 ⟨rfl, rfl⟩
            rw [HK.out]
            go_wp2_with fail
            refine (stGood_any a b _).mono ?_
            rintro e w1 ⟨rfl, x1⟩
            rw [HS.out]
            replace ba := ba.ext x1
            replace bo := bo.ext x1
            replace hx := Ext.trans hx x1
            clear x1
            have bac0 := ba.cell (i := 0) rfl
            have bac1 := ba.cell (i := 1) rfl
            have boc0 := bo.cell (i := 0) rfl
            have boc1 := bo.cell (i := 1) rfl
            have boz0 := bo.thaw 0
            have boz1 := bo.thaw 1
            go_wp2_with fail
            replace ba := ba.ext (ext_alloc w1 (.cells #[.int .i64 (a + 1), .int .i64 site] 23))
            replace bo := bo.ext (ext_alloc w1 (.cells #[.int .i64 (a + 1), .int .i64 site] 23))
            replace hx := Ext.trans hx (ext_alloc w1 (.cells #[.int .i64 (a + 1), .int .i64 site] 23))
            have bs := Blk.new w1 #[.int .i64 (a + 1), .int .i64 site] 23
            refine (stGood_any (a + 1) site _).mono ?_
            rintro e w2 ⟨rfl, x2⟩
            rw [HG2.out]
            replace bo := bo.ext x2
            replace bs := bs.ext x2
            replace hx := Ext.trans hx x2
            clear x2 ba
            clear bac0 bac1 boc0 boc1 boz0 boz1
            have boc0 := bo.cell (i := 0) rfl
            have boc1 := bo.cell (i := 1) rfl
            have boz0 := bo.thaw 0
            have boz1 := bo.thaw 1
            have bsc0 := bs.cell (i := 0) rfl
            have bsc1 := bs.cell (i := 1) rfl
            go_wp2_with fail
            have bo2 := (bo.set 0 (.int .i64 (a + 1))).set 1 (.int .i64 (site))
            have d0 := bo2.cell (i := 0) rfl
            have d1 := bo2.cell (i := 1) rfl
            exact bodyPost_ret (v := .tuple #[.agg #[.int .i64 (a + 1), .int .i64 (site)], .int .i64 0]) (by simp [results, Tryd.results9, d0, d1, go_sem]) rfl ⟨by (rw [HR.out]; try rfl), Below.setCell (Below.setCell hx G1 _) G1 _⟩
end Go.Proofs.YtnjnbjcibdeihaaDoor
