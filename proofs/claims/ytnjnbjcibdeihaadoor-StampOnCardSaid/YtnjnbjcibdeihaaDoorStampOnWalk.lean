/-
  The walk of StampOn.
-/
import Derived.Test.YtnjnbjcibdeihaaDoorStLives
namespace Go.Proofs.YtnjnbjcibdeihaaDoor
open Go Go.RowKit Mono
set_option linter.unusedVariables false
set_option linter.unusedSimpArgs false

theorem sless_true {a b c d : Int} (h : a < c) : sless a b c d = true := by unfold sless; simp [h]
theorem snext_cases (a b now s : Int) (hs : s = 1 ∨ s = 2) : snext a b now s = ((0, 0), 2) ∨ snext a b now s = ((0, 0), 50) ∨
    (snext a b now s = ((snum a now, s), 0) ∧ sgood (snum a now) s = true ∧ sless a b (snum a now) s = true ∧ min now 1099511627776 ≤ snum a now) := by
  have hk : knownB s = true := by unfold knownB; rcases hs with rfl | rfl <;> rfl
  cases hg : sgood a b with
  | false => exact .inl (snext_bad (.inr hg))
  | true =>
    by_cases hc : 281474976710656 < snum a now
    · exact .inr (.inl (snext_clock hk hg hc))
    · refine .inr (.inr ⟨snext_ok hk hg hc, ?_, ?_, ?_⟩)
      · refine sgood_true (.inr ⟨?_, by omega, hs⟩)
        have := sgood_iff.1 hg
        unfold snum
        omega
      · refine sless_true ?_
        unfold snum
        omega
      · unfold snum
        omega

set_option maxHeartbeats 4000000 in
theorem stampOn_walk (a b c d now : Int) (w : World) :
    Calls Tryd.prog 4 #[stV a b, stV c d, .int .i64 now] w fun e w' => e = .returned (.bool true) ∧ Ext w w' := by
  have HL := Lib.hid (fun w => lives_any w)
  have HN := Lib.hid (fun s w => stNext_any a b now s w)
  have HG := Lib.hid (fun x y w => stGood_any x y w)
  have HS := Lib.hid (fun x y z u w => stLess_any x y z u w)
  unfold snextV at HN
  unfold stV at HN HG HS ⊢
  go_enter Tryd.func4, Tryd.ntmps4
  go_wp2_with fail
  have hx : Ext w ((w.alloc (.cells #[.int .i64 a, .int .i64 b] 23)).alloc (.cells #[.int .i64 c, .int .i64 d] 23)) := Ext.trans (ext_alloc _ _) (ext_alloc _ _)
  have ba := (Blk.new w #[.int .i64 a, .int .i64 b] 23).ext (ext_alloc _ (.cells #[.int .i64 c, .int .i64 d] 23))
  have bb := Blk.new (w.alloc (.cells #[.int .i64 a, .int .i64 b] 23)) #[.int .i64 c, .int .i64 d] 23
  simp only [World.size_alloc] at bb
  generalize (w.alloc (.cells #[.int .i64 a, .int .i64 b] 23)).alloc (.cells #[.int .i64 c, .int .i64 d] 23) = W0 at *
  go_loopw [7] (fun i wr => ∃ k : Nat, 1 ≤ k ∧ k ≤ 3 ∧ i = .int .i64 k ∧ Ext W0 wr) (fun i _ => 3 - (intOf i).toNat)
  case atStart => exact ⟨1, Nat.le_refl _, by decide, rfl, Ext.refl _⟩
  case round =>
    obtain ⟨k, hk1, hk3, rfl, hxr⟩ := hrel
    replace ba := ba.ext hxr
    replace bb := bb.ext hxr
    have hxw := Ext.trans hx hxr
    by_cases hlt : k ≤ 2
    · have bac0 := ba.cell (i := 0) rfl
      have bac1 := ba.cell (i := 1) rfl
      go_wp2_with fail
      refine (HN.out _ _).mono ?_
      rintro e w1 ⟨rfl, x1⟩
      rcases snext_cases a b now k (by omega) with h | h | ⟨h, hg, hl, hm⟩
      · rw [h]
        clear h
        dsimp only
        have bs := Blk.new w1 #[.int .i64 0, .int .i64 0] 23
        have xs := ext_alloc w1 (.cells #[.int .i64 0, .int .i64 0] 23)
        have bsc0 := bs.cell (i := 0) rfl
        have bsc1 := bs.cell (i := 1) rfl
        go_wp2_with fail
        go_roundw
        case rel => exact ⟨k + 1, by omega, by omega, by simp, Ext.trans hxr (Ext.trans x1 xs)⟩
        case measure => simp [intOf]; omega
      · rw [h]
        clear h
        dsimp only
        have bs := Blk.new w1 #[.int .i64 0, .int .i64 0] 23
        have xs := ext_alloc w1 (.cells #[.int .i64 0, .int .i64 0] 23)
        have bsc0 := bs.cell (i := 0) rfl
        have bsc1 := bs.cell (i := 1) rfl
        go_wp2_with fail
        go_roundw
        case rel => exact ⟨k + 1, by omega, by omega, by simp, Ext.trans hxr (Ext.trans x1 xs)⟩
        case measure => simp [intOf]; omega
      · rw [h]
        clear h
        have HQ := Lib.hid hg
        have HW := Lib.hid hl
        have HM := Lib.hid hm
        clear hg hl hm
        generalize snum a now = m at *
        dsimp only
        have bs := Blk.new w1 #[.int .i64 m, .int .i64 k] 23
        have xs := ext_alloc w1 (.cells #[.int .i64 m, .int .i64 k] 23)
        replace ba := (ba.ext x1).ext xs
        replace bb := (bb.ext x1).ext xs
        replace hxr := Ext.trans hxr (Ext.trans x1 xs)
        clear x1 xs bac0 bac1 hxw
        have hs1 : w1.heap.size = w1.heap.size := rfl
        obtain ⟨n, hn⟩ : ∃ n, n = w1.heap.size := ⟨_, rfl⟩
        have bsc0 := bs.cell (i := 0) rfl
        have bsc1 := bs.cell (i := 1) rfl
        go_wp2_with fail
        refine (HG.out _ _ _).mono ?_
        rintro e w2 ⟨rfl, x2⟩
        rw [HQ.out]
        replace ba := ba.ext x2
        replace bb := bb.ext x2
        replace bs := bs.ext x2
        replace hxr := Ext.trans hxr x2
        clear x2 bsc0 bsc1
        have bac0 := ba.cell (i := 0) rfl
        have bac1 := ba.cell (i := 1) rfl
        have bsc0 := bs.cell (i := 0) rfl
        have bsc1 := bs.cell (i := 1) rfl
        go_wp2_with fail
        refine (HS.out _ _ _ _ _).mono ?_
        rintro e w3 ⟨rfl, x3⟩
        rw [HW.out]
        replace ba := ba.ext x3
        replace bb := bb.ext x3
        replace bs := bs.ext x3
        replace hxr := Ext.trans hxr x3
        clear x3 bsc0 bsc1 bac0 bac1
        have bbc0 := bb.cell (i := 0) rfl
        have bbc1 := bb.cell (i := 1) rfl
        have bsc0 := bs.cell (i := 0) rfl
        have bsc1 := bs.cell (i := 1) rfl
        by_cases h1 : 1099511627776 < now
        · by_cases h2 : c < 1099511627776
          · have HW2 := Lib.hid (show sless c d m k = true from sless_true (by have := HM.out; omega))
            go_wp2_with fail
            refine (HS.out _ _ _ _ _).mono ?_
            rintro e w4 ⟨rfl, x4⟩
            rw [HW2.out]
            go_wp2_with fail
            go_roundw
            case rel => exact ⟨k + 1, by omega, by omega, by simp, Ext.trans hxr x4⟩
            case measure => simp [intOf]; omega
          · go_wp2_with fail
            go_roundw
            case rel => exact ⟨k + 1, by omega, by omega, by simp, hxr⟩
            case measure => simp [intOf]; omega
        · by_cases h2 : c < now
          · have HW2 := Lib.hid (show sless c d m k = true from sless_true (by have := HM.out; omega))
            go_wp2_with fail
            refine (HS.out _ _ _ _ _).mono ?_
            rintro e w4 ⟨rfl, x4⟩
            rw [HW2.out]
            go_wp2_with fail
            go_roundw
            case rel => exact ⟨k + 1, by omega, by omega, by simp, Ext.trans hxr x4⟩
            case measure => simp [intOf]; omega
          · go_wp2_with fail
            go_roundw
            case rel => exact ⟨k + 1, by omega, by omega, by simp, hxr⟩
            case measure => simp [intOf]; omega
    · go_wp2_with fail
      refine (HL.out _).mono ?_
      rintro e w1 ⟨rfl, x1⟩
      go_wp2_with fail
      go_ret
      exact ⟨rfl, Ext.trans hxw x1⟩
end Go.Proofs.YtnjnbjcibdeihaaDoor
