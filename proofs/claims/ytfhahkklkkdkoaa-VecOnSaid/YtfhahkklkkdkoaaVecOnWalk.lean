/-
  The walk of VecOn.
-/
import Derived.Test.YtfhahkklkkdkoaaVecLaws
import Derived.Test.YtfhahkklkkdkoaaVecNext
namespace Go.Proofs.Ytfhahkklkkdkoaa
open Go.RowKit Mono
set_option linter.unusedSimpArgs false
set_option linter.unusedVariables false

theorem vnext_cases (a b s : Int) : vnext a b s = ((0, 0), 2) ∨ vnext a b s = ((0, 0), 3) ∨
    (s = 1 ∧ 0 ≤ a ∧ a < 1099511627776 ∧ 0 ≤ b ∧ b ≤ 1099511627776 ∧ vnext a b s = ((a + 1, b), 0)) ∨ (s = 2 ∧ 0 ≤ a ∧ a ≤ 1099511627776 ∧ 0 ≤ b ∧ b < 1099511627776 ∧ vnext a b s = ((a, b + 1), 0)) := by
  unfold vnext
  by_cases h1 : vgood a b = true ∧ s = 1
  · have hb := vgood_bounds h1.1
    rw [if_pos h1]
    by_cases h2 : a = 1099511627776
    · rw [if_pos h2]; exact .inr (.inl rfl)
    · rw [if_neg h2]; exact .inr (.inr (.inl ⟨h1.2, by omega, by omega, by omega, by omega, rfl⟩))
  · rw [if_neg h1]
    by_cases h1 : vgood a b = true ∧ s = 2
    · have hb := vgood_bounds h1.1
      rw [if_pos h1]
      by_cases h2 : b = 1099511627776
      · rw [if_pos h2]; exact .inr (.inl rfl)
      · rw [if_neg h2]; exact .inr (.inr (.inr ⟨h1.2, by omega, by omega, by omega, by omega, rfl⟩))
    · rw [if_neg h1]; exact .inl rfl

set_option maxHeartbeats 1000000 in
theorem vecOn_walk (a b s : Int) (w : World) (hs : In64 s) :
    Calls Try.prog 7 #[vecV a b, .int .i64 s] w fun e w' => e = .returned (.bool true) ∧ Ext w w' := by
  rcases vnext_cases a b s with hr | hr | ⟨rfl, g1, g2, g3, g4, hr⟩ | ⟨rfl, g1, g2, g3, g4, hr⟩
  · unfold vecV
    go_enter Try.func7, Try.ntmps7
    go_wp2_with fail
    have ba := Blk.new (w) #[.int .i64 a, .int .i64 b] 25
    have hx : Ext w (((w).alloc (.cells #[.int .i64 a, .int .i64 b] 25))) := ext_alloc _ _
    obtain ⟨n, hnn⟩ : ∃ n, n = w.heap.size := ⟨_, rfl⟩
    rw [← hnn] at ba ⊢
    have HN := Lib.hid hnn
    clear hnn
    generalize ((w).alloc (.cells #[.int .i64 a, .int .i64 b] 25)) = W at *
    have bac0 := ba.cell (i := 0) rfl
    have baz0 := ba.thaw 0
    have bac1 := ba.cell (i := 1) rfl
    have baz1 := ba.thaw 1
    refine (vecNext_any a b _ _ hs).mono ?_
    rintro e w1 ⟨rfl, e1⟩
    rw [hr]
    clear hr
    unfold nextV vecV
    dsimp only
    replace ba := ba.ext e1
    replace hx := Ext.trans hx e1
    clear e1
    have b5 := Blk.new w1 #[.int .i64 (0), .int .i64 (0)] 25
    have e3 := ext_alloc w1 (.cells #[.int .i64 (0), .int .i64 (0)] 25)
    replace ba := ba.ext e3
    replace hx := Ext.trans hx e3
    clear e3
    have bac0 := ba.cell (i := 0) rfl
    have bac1 := ba.cell (i := 1) rfl
    have b5c0 := b5.cell (i := 0) rfl
    have b5c1 := b5.cell (i := 1) rfl
    go_wp2_with fail
    refine (lives_any _).mono ?_
    rintro e w3 ⟨rfl, e3⟩
    go_wp2_with fail
    go_ret
    exact ⟨rfl, Ext.trans hx e3⟩
  · unfold vecV
    go_enter Try.func7, Try.ntmps7
    go_wp2_with fail
    have ba := Blk.new (w) #[.int .i64 a, .int .i64 b] 25
    have hx : Ext w (((w).alloc (.cells #[.int .i64 a, .int .i64 b] 25))) := ext_alloc _ _
    obtain ⟨n, hnn⟩ : ∃ n, n = w.heap.size := ⟨_, rfl⟩
    rw [← hnn] at ba ⊢
    have HN := Lib.hid hnn
    clear hnn
    generalize ((w).alloc (.cells #[.int .i64 a, .int .i64 b] 25)) = W at *
    have bac0 := ba.cell (i := 0) rfl
    have baz0 := ba.thaw 0
    have bac1 := ba.cell (i := 1) rfl
    have baz1 := ba.thaw 1
    refine (vecNext_any a b _ _ hs).mono ?_
    rintro e w1 ⟨rfl, e1⟩
    rw [hr]
    clear hr
    unfold nextV vecV
    dsimp only
    replace ba := ba.ext e1
    replace hx := Ext.trans hx e1
    clear e1
    have b5 := Blk.new w1 #[.int .i64 (0), .int .i64 (0)] 25
    have e3 := ext_alloc w1 (.cells #[.int .i64 (0), .int .i64 (0)] 25)
    replace ba := ba.ext e3
    replace hx := Ext.trans hx e3
    clear e3
    have bac0 := ba.cell (i := 0) rfl
    have bac1 := ba.cell (i := 1) rfl
    have b5c0 := b5.cell (i := 0) rfl
    have b5c1 := b5.cell (i := 1) rfl
    go_wp2_with fail
    refine (lives_any _).mono ?_
    rintro e w3 ⟨rfl, e3⟩
    go_wp2_with fail
    go_ret
    exact ⟨rfl, Ext.trans hx e3⟩
  · have hp1 : vcompare a b (a + 1) (b) = 1 := by unfold vcompare vcovers; simp; omega
    have hp2 : vhas (a + 1) (b) 1 (a + 1) = true := by unfold vhas; simp; omega
    have hp3 : vhas a b 1 (a + 1) = false := by unfold vhas; simp; omega
    unfold vecV
    go_enter Try.func7, Try.ntmps7
    go_wp2_with fail
    have ba := Blk.new (w) #[.int .i64 a, .int .i64 b] 25
    have hx : Ext w (((w).alloc (.cells #[.int .i64 a, .int .i64 b] 25))) := ext_alloc _ _
    obtain ⟨n, hnn⟩ : ∃ n, n = w.heap.size := ⟨_, rfl⟩
    rw [← hnn] at ba ⊢
    have HN := Lib.hid hnn
    clear hnn
    generalize ((w).alloc (.cells #[.int .i64 a, .int .i64 b] 25)) = W at *
    have bac0 := ba.cell (i := 0) rfl
    have baz0 := ba.thaw 0
    have bac1 := ba.cell (i := 1) rfl
    have baz1 := ba.thaw 1
    refine (vecNext_any a b _ _ hs).mono ?_
    rintro e w1 ⟨rfl, e1⟩
    rw [hr]
    clear hr
    unfold nextV vecV
    dsimp only
    replace ba := ba.ext e1
    replace hx := Ext.trans hx e1
    clear e1
    have b5 := Blk.new w1 #[.int .i64 (a + 1), .int .i64 (b)] 25
    have e3 := ext_alloc w1 (.cells #[.int .i64 (a + 1), .int .i64 (b)] 25)
    replace ba := ba.ext e3
    replace hx := Ext.trans hx e3
    clear e3
    have bac0 := ba.cell (i := 0) rfl
    have bac1 := ba.cell (i := 1) rfl
    have HQ1 := Lib.hid hp1
    have HQ2 := Lib.hid hp2
    have HQ3 := Lib.hid hp3
    clear hp1 hp2 hp3
    go_wp2_with fail
    obtain ⟨n5, hn5⟩ : ∃ m, m = w1.heap.size := ⟨_, rfl⟩
    rw [← hn5] at b5 ⊢
    clear hn5
    generalize w1.alloc (.cells #[.int .i64 (a + 1), .int .i64 (b)] 25) = W1 at *
    rw [show a + 1 + b - a - b = 1 by omega]
    have hp1 := HQ1.out
    have hp2 := HQ2.out
    have hp3 := HQ3.out
    refine wp_region_mono (by kernel_rfl) (by kernel_rfl) ?_
    refine tele_val rfl (vecV a b) (fun _ _ _ => rfl) ?_ ?_
    · rintro ρ w' he ⟨h2, -⟩
      have e2 : ρ 2 = (.pointer (some ⟨n, 0, none⟩)) := h2
      have c0 := (ba.ext he).cell (i := 0) rfl
      have c1 := (ba.ext he).cell (i := 1) rfl
      simp [execOp, evR, e2, c0, c1, vecV, go_sem]
    refine tele_val rfl (vecV (a + 1) (b)) (fun _ _ _ => rfl) ?_ ?_
    · rintro ρ w' he ⟨h5, -⟩
      have e5 : ρ 5 = (.pointer (some ⟨n5, 0, none⟩)) := h5
      have c0 := (b5.ext he).cell (i := 0) rfl
      have c1 := (b5.ext he).cell (i := 1) rfl
      simp [execOp, evR, e5, c0, c1, vecV, go_sem]
    refine tele_call rfl rfl Try.func16 (by kernel_rfl) (isV (.int .i64 1)) (fun _ _ _ => rfl) ?_ ?_
    · rintro ρ w' he ⟨h33, h34, -⟩
      have e33 : ρ 33 = (vecV a b) := h33
      have e34 : ρ 34 = (vecV (a + 1) (b)) := h34
      simp only [evR, List.map_toArray, List.map_cons, List.map_nil, e33, e34]
      refine (vecCompare_any a b (a + 1) (b) _).mono ?_
      rintro e w'' ⟨rfl, he⟩
      exact ⟨_, rfl, he, by rw [hp1]; rfl⟩
    refine tele_val rfl (.bool true) (fun _ _ _ => rfl) ?_ ?_
    · rintro ρ w' he ⟨h35, -⟩
      have e35 : ρ 35 = (.int .i64 1) := h35
      simp [execOp, evR, e35, go_sem]
    refine tele_move rfl (.inl rfl) rfl (isV (.bool true)) (fun ρ w' h => h) ?_
    refine tele_val rfl ((.int .i64 1)) (fun ρ w' hk => by obtain ⟨_, hg, -⟩ := hk; have eg : ρ 37 = (.bool true) := hg; simp [wantedR, Region.wanted, asBoolR, eg]) ?_ ?_
    · rintro ρ w' he ⟨h7, -⟩
      have e7 : ρ 7 = (.int .i64 1) := h7
      simp [execOp, evR, e7]
    refine tele_val rfl (.bool true) (fun ρ w' hk => by obtain ⟨_, hg, -⟩ := hk; have eg : ρ 37 = (.bool true) := hg; simp [wantedR, Region.wanted, asBoolR, eg]) ?_ ?_
    · rintro ρ w' he ⟨h38, -⟩
      have e38 : ρ 38 = (.int .i64 1) := h38
      simp [execOp, evR, e38, go_sem]
    refine tele_val rfl (.bool true) (fun _ _ _ => rfl) ?_ ?_
    · rintro ρ w' he ⟨h37, h39, -⟩
      have e37 : ρ 37 = (.bool true) := h37
      have e39 : ρ 39 = (.bool true) := h39
      simp [execOp, evR, e37, e39, go_sem]
    refine tele_move rfl (.inl rfl) rfl (isV (.bool true)) (fun ρ w' h => h) ?_
    refine tele_val rfl ((.int .i64 1)) (fun ρ w' hk => by obtain ⟨_, hg, -⟩ := hk; have eg : ρ 41 = (.bool true) := hg; simp [wantedR, Region.wanted, asBoolR, eg]) ?_ ?_
    · rintro ρ w' he ⟨h1, -⟩
      have e1 : ρ 1 = (.int .i64 1) := h1
      simp [execOp, evR, e1]
    refine tele_val rfl (.bool true) (fun ρ w' hk => by obtain ⟨_, hg, -⟩ := hk; have eg : ρ 41 = (.bool true) := hg; simp [wantedR, Region.wanted, asBoolR, eg]) ?_ ?_
    · rintro ρ w' he ⟨h42, -⟩
      have e42 : ρ 42 = (.int .i64 1) := h42
      simp [execOp, evR, e42, go_sem]
    refine tele_val rfl (.bool true) (fun _ _ _ => rfl) ?_ ?_
    · rintro ρ w' he ⟨h41, h43, -⟩
      have e41 : ρ 41 = (.bool true) := h41
      have e43 : ρ 43 = (.bool true) := h43
      simp [execOp, evR, e41, e43, go_sem]
    refine tele_move rfl (.inl rfl) rfl (isV (.bool true)) (fun ρ w' h => h) ?_
    refine tele_val rfl ((.int .i64 1)) (fun ρ w' hk => by obtain ⟨_, hg, -⟩ := hk; have eg : ρ 45 = (.bool true) := hg; simp [wantedR, Region.wanted, asBoolR, eg]) ?_ ?_
    · rintro ρ w' he ⟨h1, -⟩
      have e1 : ρ 1 = (.int .i64 1) := h1
      simp [execOp, evR, e1]
    refine tele_val rfl (.bool true) (fun ρ w' hk => by obtain ⟨_, hg, -⟩ := hk; have eg : ρ 45 = (.bool true) := hg; simp [wantedR, Region.wanted, asBoolR, eg]) ?_ ?_
    · rintro ρ w' he ⟨h46, -⟩
      have e46 : ρ 46 = (.int .i64 1) := h46
      simp [execOp, evR, e46, go_sem]
    refine tele_val rfl (.bool true) (fun _ _ _ => rfl) ?_ ?_
    · rintro ρ w' he ⟨h45, h47, -⟩
      have e45 : ρ 45 = (.bool true) := h45
      have e47 : ρ 47 = (.bool true) := h47
      simp [execOp, evR, e45, e47, go_sem]
    refine tele_move rfl (.inl rfl) rfl (isV (.bool true)) (fun ρ w' h => h) ?_
    refine tele_val rfl (vecV (a + 1) (b)) (fun ρ w' hk => by obtain ⟨_, hg, -⟩ := hk; have eg : ρ 49 = (.bool true) := hg; simp [wantedR, Region.wanted, asBoolR, eg]) ?_ ?_
    · rintro ρ w' he ⟨h5, -⟩
      have e5 : ρ 5 = (.pointer (some ⟨n5, 0, none⟩)) := h5
      have c0 := (b5.ext he).cell (i := 0) rfl
      have c1 := (b5.ext he).cell (i := 1) rfl
      simp [execOp, evR, e5, c0, c1, vecV, go_sem]
    refine tele_val rfl ((.int .i64 1)) (fun ρ w' hk => by obtain ⟨_, hg, -⟩ := hk; have eg : ρ 49 = (.bool true) := hg; simp [wantedR, Region.wanted, asBoolR, eg]) ?_ ?_
    · rintro ρ w' he ⟨h1, -⟩
      have e1 : ρ 1 = (.int .i64 1) := h1
      simp [execOp, evR, e1]
    refine tele_val rfl ((.int .i64 1)) (fun ρ w' hk => by obtain ⟨_, hg, -⟩ := hk; have eg : ρ 49 = (.bool true) := hg; simp [wantedR, Region.wanted, asBoolR, eg]) ?_ ?_
    · rintro ρ w' he ⟨h1, -⟩
      have e1 : ρ 1 = (.int .i64 1) := h1
      simp [execOp, evR, e1]
    refine tele_val rfl (.int .i64 0) (fun ρ w' hk => by obtain ⟨_, hg, -⟩ := hk; have eg : ρ 49 = (.bool true) := hg; simp [wantedR, Region.wanted, asBoolR, eg]) ?_ ?_
    · rintro ρ w' he ⟨h52, -⟩
      have e52 : ρ 52 = (.int .i64 1) := h52
      simp [execOp, evR, e52, go_sem]
      try decide
    refine tele_val rfl (.pointer (some ⟨n5, 0, none⟩)) (fun ρ w' hk => by obtain ⟨_, _, hg, -⟩ := hk; have eg : ρ 49 = (.bool true) := hg; simp [wantedR, Region.wanted, asBoolR, eg]) ?_ ?_
    · rintro ρ w' he ⟨h5, h53, -⟩
      have e5 : ρ 5 = (.pointer (some ⟨n5, 0, none⟩)) := h5
      have e53 : ρ 53 = (.int .i64 0) := h53
      simp [execOp, evR, e5, e53, go_sem]
    refine tele_val rfl (.int .i64 (a + 1)) (fun ρ w' hk => by obtain ⟨_, hg, -⟩ := hk; have eg : ρ 49 = (.bool true) := hg; simp [wantedR, Region.wanted, asBoolR, eg]) ?_ ?_
    · rintro ρ w' he ⟨h54, -⟩
      have e54 : ρ 54 = (.pointer (some ⟨n5, 0, none⟩)) := h54
      have c := (b5.ext he).cell (i := 0) rfl
      simp [execOp, evR, e54, c, go_sem]
    refine tele_call rfl rfl Try.func22 (by kernel_rfl) (isV (.bool true)) (fun ρ w' hk => by obtain ⟨_, _, _, hg, -⟩ := hk; have eg : ρ 49 = (.bool true) := hg; simp [wantedR, Region.wanted, asBoolR, eg]) ?_ ?_
    · rintro ρ w' he ⟨h50, h51, h55, -⟩
      have e50 : ρ 50 = (vecV (a + 1) (b)) := h50
      have e51 : ρ 51 = (.int .i64 1) := h51
      have e55 : ρ 55 = (.int .i64 (a + 1)) := h55
      simp only [evR, List.map_toArray, List.map_cons, List.map_nil, e50, e51, e55]
      refine (vecHas_any (a + 1) (b) 1 (a + 1) _ hs).mono ?_
      rintro e w'' ⟨rfl, he⟩
      exact ⟨_, rfl, he, by rw [hp2]; rfl⟩
    refine tele_val rfl (.bool true) (fun _ _ _ => rfl) ?_ ?_
    · rintro ρ w' he ⟨h49, h56, -⟩
      have e49 : ρ 49 = (.bool true) := h49
      have e56 : ρ 56 = (.bool true) := h56
      simp [execOp, evR, e49, e56, go_sem]
    refine tele_move rfl (.inl rfl) rfl (isV (.bool true)) (fun ρ w' h => h) ?_
    refine tele_val rfl (vecV a b) (fun ρ w' hk => by obtain ⟨_, hg, -⟩ := hk; have eg : ρ 58 = (.bool true) := hg; simp [wantedR, Region.wanted, asBoolR, eg]) ?_ ?_
    · rintro ρ w' he ⟨h2, -⟩
      have e2 : ρ 2 = (.pointer (some ⟨n, 0, none⟩)) := h2
      have c0 := (ba.ext he).cell (i := 0) rfl
      have c1 := (ba.ext he).cell (i := 1) rfl
      simp [execOp, evR, e2, c0, c1, vecV, go_sem]
    refine tele_val rfl ((.int .i64 1)) (fun ρ w' hk => by obtain ⟨_, hg, -⟩ := hk; have eg : ρ 58 = (.bool true) := hg; simp [wantedR, Region.wanted, asBoolR, eg]) ?_ ?_
    · rintro ρ w' he ⟨h1, -⟩
      have e1 : ρ 1 = (.int .i64 1) := h1
      simp [execOp, evR, e1]
    refine tele_val rfl ((.int .i64 1)) (fun ρ w' hk => by obtain ⟨_, hg, -⟩ := hk; have eg : ρ 58 = (.bool true) := hg; simp [wantedR, Region.wanted, asBoolR, eg]) ?_ ?_
    · rintro ρ w' he ⟨h1, -⟩
      have e1 : ρ 1 = (.int .i64 1) := h1
      simp [execOp, evR, e1]
    refine tele_val rfl (.int .i64 0) (fun ρ w' hk => by obtain ⟨_, hg, -⟩ := hk; have eg : ρ 58 = (.bool true) := hg; simp [wantedR, Region.wanted, asBoolR, eg]) ?_ ?_
    · rintro ρ w' he ⟨h61, -⟩
      have e61 : ρ 61 = (.int .i64 1) := h61
      simp [execOp, evR, e61, go_sem]
      try decide
    refine tele_val rfl (.pointer (some ⟨n5, 0, none⟩)) (fun ρ w' hk => by obtain ⟨_, _, hg, -⟩ := hk; have eg : ρ 58 = (.bool true) := hg; simp [wantedR, Region.wanted, asBoolR, eg]) ?_ ?_
    · rintro ρ w' he ⟨h5, h62, -⟩
      have e5 : ρ 5 = (.pointer (some ⟨n5, 0, none⟩)) := h5
      have e62 : ρ 62 = (.int .i64 0) := h62
      simp [execOp, evR, e5, e62, go_sem]
    refine tele_val rfl (.int .i64 (a + 1)) (fun ρ w' hk => by obtain ⟨_, hg, -⟩ := hk; have eg : ρ 58 = (.bool true) := hg; simp [wantedR, Region.wanted, asBoolR, eg]) ?_ ?_
    · rintro ρ w' he ⟨h63, -⟩
      have e63 : ρ 63 = (.pointer (some ⟨n5, 0, none⟩)) := h63
      have c := (b5.ext he).cell (i := 0) rfl
      simp [execOp, evR, e63, c, go_sem]
    refine tele_call rfl rfl Try.func22 (by kernel_rfl) (isV (.bool false)) (fun ρ w' hk => by obtain ⟨_, _, _, hg, -⟩ := hk; have eg : ρ 58 = (.bool true) := hg; simp [wantedR, Region.wanted, asBoolR, eg]) ?_ ?_
    · rintro ρ w' he ⟨h59, h60, h64, -⟩
      have e59 : ρ 59 = (vecV a b) := h59
      have e60 : ρ 60 = (.int .i64 1) := h60
      have e64 : ρ 64 = (.int .i64 (a + 1)) := h64
      simp only [evR, List.map_toArray, List.map_cons, List.map_nil, e59, e60, e64]
      refine (vecHas_any a b 1 (a + 1) _ hs).mono ?_
      rintro e w'' ⟨rfl, he⟩
      exact ⟨_, rfl, he, by rw [hp3]; rfl⟩
    refine tele_val rfl (.bool true) (fun ρ w' hk => by obtain ⟨_, hg, -⟩ := hk; have eg : ρ 58 = (.bool true) := hg; simp [wantedR, Region.wanted, asBoolR, eg]) ?_ ?_
    · rintro ρ w' he ⟨h65, -⟩
      have e65 : ρ 65 = (.bool false) := h65
      simp [execOp, evR, e65, go_sem]
    refine tele_val rfl (.bool true) (fun _ _ _ => rfl) ?_ ?_
    · rintro ρ w' he ⟨h58, h66, -⟩
      have e58 : ρ 58 = (.bool true) := h58
      have e66 : ρ 66 = (.bool true) := h66
      simp [execOp, evR, e58, e66, go_sem]
    refine tele_move rfl (.inl rfl) rfl (isV (.bool true)) (fun ρ w' h => h) ?_
    refine tele_call rfl rfl Try.func9 (by kernel_rfl) (isV (.bool true)) (fun ρ w' hk => by obtain ⟨hg, -⟩ := hk; have eg : ρ 68 = (.bool true) := hg; simp [wantedR, Region.wanted, asBoolR, eg]) ?_ ?_
    · rintro ρ w' he -
      simp only [evR, List.map_toArray, List.map_cons, List.map_nil]
      refine (lives_any _).mono ?_
      rintro e w'' ⟨rfl, he⟩
      exact ⟨_, rfl, he, rfl⟩
    refine tele_val rfl (.bool true) (fun _ _ _ => rfl) ?_ ?_
    · rintro ρ w' he ⟨h68, h69, -⟩
      have e68 : ρ 68 = (.bool true) := h68
      have e69 : ρ 69 = (.bool true) := h69
      simp [execOp, evR, e68, e69, go_sem]
    refine tele_move rfl (.inr rfl) rfl (isV (.bool true)) (fun ρ w' h => h) ?_
    refine tele_nil ?_
    rintro ρ w' hext ⟨f4, f70, f69, f68, f67, f66, f65, f64, f63, f62, f61, f60, f59, f58, f57, f56, f55, f54, f53, f52, f51, f50, f49, f48, f47, f46, f45, f44, f43, f42, f41, f40, f39, f38, f37, f36, f35, f34, f33, -⟩
    replace f33 : ρ 33 = (vecV a b) := f33
    replace f34 : ρ 34 = (vecV (a + 1) (b)) := f34
    replace f35 : ρ 35 = (.int .i64 1) := f35
    replace f36 : ρ 36 = (.bool true) := f36
    replace f37 : ρ 37 = (.bool true) := f37
    replace f38 : ρ 38 = (.int .i64 1) := f38
    replace f39 : ρ 39 = (.bool true) := f39
    replace f40 : ρ 40 = (.bool true) := f40
    replace f41 : ρ 41 = (.bool true) := f41
    replace f42 : ρ 42 = (.int .i64 1) := f42
    replace f43 : ρ 43 = (.bool true) := f43
    replace f44 : ρ 44 = (.bool true) := f44
    replace f45 : ρ 45 = (.bool true) := f45
    replace f46 : ρ 46 = (.int .i64 1) := f46
    replace f47 : ρ 47 = (.bool true) := f47
    replace f48 : ρ 48 = (.bool true) := f48
    replace f49 : ρ 49 = (.bool true) := f49
    replace f50 : ρ 50 = (vecV (a + 1) (b)) := f50
    replace f51 : ρ 51 = (.int .i64 1) := f51
    replace f52 : ρ 52 = (.int .i64 1) := f52
    replace f53 : ρ 53 = (.int .i64 0) := f53
    replace f54 : ρ 54 = (.pointer (some ⟨n5, 0, none⟩)) := f54
    replace f55 : ρ 55 = (.int .i64 (a + 1)) := f55
    replace f56 : ρ 56 = (.bool true) := f56
    replace f57 : ρ 57 = (.bool true) := f57
    replace f58 : ρ 58 = (.bool true) := f58
    replace f59 : ρ 59 = (vecV a b) := f59
    replace f60 : ρ 60 = (.int .i64 1) := f60
    replace f61 : ρ 61 = (.int .i64 1) := f61
    replace f62 : ρ 62 = (.int .i64 0) := f62
    replace f63 : ρ 63 = (.pointer (some ⟨n5, 0, none⟩)) := f63
    replace f64 : ρ 64 = (.int .i64 (a + 1)) := f64
    replace f65 : ρ 65 = (.bool false) := f65
    replace f66 : ρ 66 = (.bool true) := f66
    replace f67 : ρ 67 = (.bool true) := f67
    replace f68 : ρ 68 = (.bool true) := f68
    replace f69 : ρ 69 = (.bool true) := f69
    replace f70 : ρ 70 = (.bool true) := f70
    replace f4 : ρ 4 = (.bool true) := f4
    simp only [puts, Act.put, List.setIfInBounds_toArray, List.set_cons_zero, List.set_cons_succ]
    rw [f4]
    go_wp2_with fail
    go_ret
    exact ⟨rfl, Ext.trans hx hext⟩
  · have hp1 : vcompare a b (a) (b + 1) = 1 := by unfold vcompare vcovers; simp; omega
    have hp2 : vhas (a) (b + 1) 2 (b + 1) = true := by unfold vhas; simp; omega
    have hp3 : vhas a b 2 (b + 1) = false := by unfold vhas; simp; omega
    unfold vecV
    go_enter Try.func7, Try.ntmps7
    go_wp2_with fail
    have ba := Blk.new (w) #[.int .i64 a, .int .i64 b] 25
    have hx : Ext w (((w).alloc (.cells #[.int .i64 a, .int .i64 b] 25))) := ext_alloc _ _
    obtain ⟨n, hnn⟩ : ∃ n, n = w.heap.size := ⟨_, rfl⟩
    rw [← hnn] at ba ⊢
    have HN := Lib.hid hnn
    clear hnn
    generalize ((w).alloc (.cells #[.int .i64 a, .int .i64 b] 25)) = W at *
    have bac0 := ba.cell (i := 0) rfl
    have baz0 := ba.thaw 0
    have bac1 := ba.cell (i := 1) rfl
    have baz1 := ba.thaw 1
    refine (vecNext_any a b _ _ hs).mono ?_
    rintro e w1 ⟨rfl, e1⟩
    rw [hr]
    clear hr
    unfold nextV vecV
    dsimp only
    replace ba := ba.ext e1
    replace hx := Ext.trans hx e1
    clear e1
    have b5 := Blk.new w1 #[.int .i64 (a), .int .i64 (b + 1)] 25
    have e3 := ext_alloc w1 (.cells #[.int .i64 (a), .int .i64 (b + 1)] 25)
    replace ba := ba.ext e3
    replace hx := Ext.trans hx e3
    clear e3
    have bac0 := ba.cell (i := 0) rfl
    have bac1 := ba.cell (i := 1) rfl
    have HQ1 := Lib.hid hp1
    have HQ2 := Lib.hid hp2
    have HQ3 := Lib.hid hp3
    clear hp1 hp2 hp3
    go_wp2_with fail
    obtain ⟨n5, hn5⟩ : ∃ m, m = w1.heap.size := ⟨_, rfl⟩
    rw [← hn5] at b5 ⊢
    clear hn5
    generalize w1.alloc (.cells #[.int .i64 (a), .int .i64 (b + 1)] 25) = W1 at *
    rw [show a + (b + 1) - a - b = 1 by omega]
    have hp1 := HQ1.out
    have hp2 := HQ2.out
    have hp3 := HQ3.out
    refine wp_region_mono (by kernel_rfl) (by kernel_rfl) ?_
    refine tele_val rfl (vecV a b) (fun _ _ _ => rfl) ?_ ?_
    · rintro ρ w' he ⟨h2, -⟩
      have e2 : ρ 2 = (.pointer (some ⟨n, 0, none⟩)) := h2
      have c0 := (ba.ext he).cell (i := 0) rfl
      have c1 := (ba.ext he).cell (i := 1) rfl
      simp [execOp, evR, e2, c0, c1, vecV, go_sem]
    refine tele_val rfl (vecV (a) (b + 1)) (fun _ _ _ => rfl) ?_ ?_
    · rintro ρ w' he ⟨h5, -⟩
      have e5 : ρ 5 = (.pointer (some ⟨n5, 0, none⟩)) := h5
      have c0 := (b5.ext he).cell (i := 0) rfl
      have c1 := (b5.ext he).cell (i := 1) rfl
      simp [execOp, evR, e5, c0, c1, vecV, go_sem]
    refine tele_call rfl rfl Try.func16 (by kernel_rfl) (isV (.int .i64 1)) (fun _ _ _ => rfl) ?_ ?_
    · rintro ρ w' he ⟨h33, h34, -⟩
      have e33 : ρ 33 = (vecV a b) := h33
      have e34 : ρ 34 = (vecV (a) (b + 1)) := h34
      simp only [evR, List.map_toArray, List.map_cons, List.map_nil, e33, e34]
      refine (vecCompare_any a b (a) (b + 1) _).mono ?_
      rintro e w'' ⟨rfl, he⟩
      exact ⟨_, rfl, he, by rw [hp1]; rfl⟩
    refine tele_val rfl (.bool true) (fun _ _ _ => rfl) ?_ ?_
    · rintro ρ w' he ⟨h35, -⟩
      have e35 : ρ 35 = (.int .i64 1) := h35
      simp [execOp, evR, e35, go_sem]
    refine tele_move rfl (.inl rfl) rfl (isV (.bool true)) (fun ρ w' h => h) ?_
    refine tele_val rfl ((.int .i64 1)) (fun ρ w' hk => by obtain ⟨_, hg, -⟩ := hk; have eg : ρ 37 = (.bool true) := hg; simp [wantedR, Region.wanted, asBoolR, eg]) ?_ ?_
    · rintro ρ w' he ⟨h7, -⟩
      have e7 : ρ 7 = (.int .i64 1) := h7
      simp [execOp, evR, e7]
    refine tele_val rfl (.bool true) (fun ρ w' hk => by obtain ⟨_, hg, -⟩ := hk; have eg : ρ 37 = (.bool true) := hg; simp [wantedR, Region.wanted, asBoolR, eg]) ?_ ?_
    · rintro ρ w' he ⟨h38, -⟩
      have e38 : ρ 38 = (.int .i64 1) := h38
      simp [execOp, evR, e38, go_sem]
    refine tele_val rfl (.bool true) (fun _ _ _ => rfl) ?_ ?_
    · rintro ρ w' he ⟨h37, h39, -⟩
      have e37 : ρ 37 = (.bool true) := h37
      have e39 : ρ 39 = (.bool true) := h39
      simp [execOp, evR, e37, e39, go_sem]
    refine tele_move rfl (.inl rfl) rfl (isV (.bool true)) (fun ρ w' h => h) ?_
    refine tele_val rfl ((.int .i64 2)) (fun ρ w' hk => by obtain ⟨_, hg, -⟩ := hk; have eg : ρ 41 = (.bool true) := hg; simp [wantedR, Region.wanted, asBoolR, eg]) ?_ ?_
    · rintro ρ w' he ⟨h1, -⟩
      have e1 : ρ 1 = (.int .i64 2) := h1
      simp [execOp, evR, e1]
    refine tele_val rfl (.bool true) (fun ρ w' hk => by obtain ⟨_, hg, -⟩ := hk; have eg : ρ 41 = (.bool true) := hg; simp [wantedR, Region.wanted, asBoolR, eg]) ?_ ?_
    · rintro ρ w' he ⟨h42, -⟩
      have e42 : ρ 42 = (.int .i64 2) := h42
      simp [execOp, evR, e42, go_sem]
    refine tele_val rfl (.bool true) (fun _ _ _ => rfl) ?_ ?_
    · rintro ρ w' he ⟨h41, h43, -⟩
      have e41 : ρ 41 = (.bool true) := h41
      have e43 : ρ 43 = (.bool true) := h43
      simp [execOp, evR, e41, e43, go_sem]
    refine tele_move rfl (.inl rfl) rfl (isV (.bool true)) (fun ρ w' h => h) ?_
    refine tele_val rfl ((.int .i64 2)) (fun ρ w' hk => by obtain ⟨_, hg, -⟩ := hk; have eg : ρ 45 = (.bool true) := hg; simp [wantedR, Region.wanted, asBoolR, eg]) ?_ ?_
    · rintro ρ w' he ⟨h1, -⟩
      have e1 : ρ 1 = (.int .i64 2) := h1
      simp [execOp, evR, e1]
    refine tele_val rfl (.bool true) (fun ρ w' hk => by obtain ⟨_, hg, -⟩ := hk; have eg : ρ 45 = (.bool true) := hg; simp [wantedR, Region.wanted, asBoolR, eg]) ?_ ?_
    · rintro ρ w' he ⟨h46, -⟩
      have e46 : ρ 46 = (.int .i64 2) := h46
      simp [execOp, evR, e46, go_sem]
    refine tele_val rfl (.bool true) (fun _ _ _ => rfl) ?_ ?_
    · rintro ρ w' he ⟨h45, h47, -⟩
      have e45 : ρ 45 = (.bool true) := h45
      have e47 : ρ 47 = (.bool true) := h47
      simp [execOp, evR, e45, e47, go_sem]
    refine tele_move rfl (.inl rfl) rfl (isV (.bool true)) (fun ρ w' h => h) ?_
    refine tele_val rfl (vecV (a) (b + 1)) (fun ρ w' hk => by obtain ⟨_, hg, -⟩ := hk; have eg : ρ 49 = (.bool true) := hg; simp [wantedR, Region.wanted, asBoolR, eg]) ?_ ?_
    · rintro ρ w' he ⟨h5, -⟩
      have e5 : ρ 5 = (.pointer (some ⟨n5, 0, none⟩)) := h5
      have c0 := (b5.ext he).cell (i := 0) rfl
      have c1 := (b5.ext he).cell (i := 1) rfl
      simp [execOp, evR, e5, c0, c1, vecV, go_sem]
    refine tele_val rfl ((.int .i64 2)) (fun ρ w' hk => by obtain ⟨_, hg, -⟩ := hk; have eg : ρ 49 = (.bool true) := hg; simp [wantedR, Region.wanted, asBoolR, eg]) ?_ ?_
    · rintro ρ w' he ⟨h1, -⟩
      have e1 : ρ 1 = (.int .i64 2) := h1
      simp [execOp, evR, e1]
    refine tele_val rfl ((.int .i64 2)) (fun ρ w' hk => by obtain ⟨_, hg, -⟩ := hk; have eg : ρ 49 = (.bool true) := hg; simp [wantedR, Region.wanted, asBoolR, eg]) ?_ ?_
    · rintro ρ w' he ⟨h1, -⟩
      have e1 : ρ 1 = (.int .i64 2) := h1
      simp [execOp, evR, e1]
    refine tele_val rfl (.int .i64 1) (fun ρ w' hk => by obtain ⟨_, hg, -⟩ := hk; have eg : ρ 49 = (.bool true) := hg; simp [wantedR, Region.wanted, asBoolR, eg]) ?_ ?_
    · rintro ρ w' he ⟨h52, -⟩
      have e52 : ρ 52 = (.int .i64 2) := h52
      simp [execOp, evR, e52, go_sem]
      try decide
    refine tele_val rfl (.pointer (some ⟨n5, 1, none⟩)) (fun ρ w' hk => by obtain ⟨_, _, hg, -⟩ := hk; have eg : ρ 49 = (.bool true) := hg; simp [wantedR, Region.wanted, asBoolR, eg]) ?_ ?_
    · rintro ρ w' he ⟨h5, h53, -⟩
      have e5 : ρ 5 = (.pointer (some ⟨n5, 0, none⟩)) := h5
      have e53 : ρ 53 = (.int .i64 1) := h53
      simp [execOp, evR, e5, e53, go_sem]
    refine tele_val rfl (.int .i64 (b + 1)) (fun ρ w' hk => by obtain ⟨_, hg, -⟩ := hk; have eg : ρ 49 = (.bool true) := hg; simp [wantedR, Region.wanted, asBoolR, eg]) ?_ ?_
    · rintro ρ w' he ⟨h54, -⟩
      have e54 : ρ 54 = (.pointer (some ⟨n5, 1, none⟩)) := h54
      have c := (b5.ext he).cell (i := 1) rfl
      simp [execOp, evR, e54, c, go_sem]
    refine tele_call rfl rfl Try.func22 (by kernel_rfl) (isV (.bool true)) (fun ρ w' hk => by obtain ⟨_, _, _, hg, -⟩ := hk; have eg : ρ 49 = (.bool true) := hg; simp [wantedR, Region.wanted, asBoolR, eg]) ?_ ?_
    · rintro ρ w' he ⟨h50, h51, h55, -⟩
      have e50 : ρ 50 = (vecV (a) (b + 1)) := h50
      have e51 : ρ 51 = (.int .i64 2) := h51
      have e55 : ρ 55 = (.int .i64 (b + 1)) := h55
      simp only [evR, List.map_toArray, List.map_cons, List.map_nil, e50, e51, e55]
      refine (vecHas_any (a) (b + 1) 2 (b + 1) _ hs).mono ?_
      rintro e w'' ⟨rfl, he⟩
      exact ⟨_, rfl, he, by rw [hp2]; rfl⟩
    refine tele_val rfl (.bool true) (fun _ _ _ => rfl) ?_ ?_
    · rintro ρ w' he ⟨h49, h56, -⟩
      have e49 : ρ 49 = (.bool true) := h49
      have e56 : ρ 56 = (.bool true) := h56
      simp [execOp, evR, e49, e56, go_sem]
    refine tele_move rfl (.inl rfl) rfl (isV (.bool true)) (fun ρ w' h => h) ?_
    refine tele_val rfl (vecV a b) (fun ρ w' hk => by obtain ⟨_, hg, -⟩ := hk; have eg : ρ 58 = (.bool true) := hg; simp [wantedR, Region.wanted, asBoolR, eg]) ?_ ?_
    · rintro ρ w' he ⟨h2, -⟩
      have e2 : ρ 2 = (.pointer (some ⟨n, 0, none⟩)) := h2
      have c0 := (ba.ext he).cell (i := 0) rfl
      have c1 := (ba.ext he).cell (i := 1) rfl
      simp [execOp, evR, e2, c0, c1, vecV, go_sem]
    refine tele_val rfl ((.int .i64 2)) (fun ρ w' hk => by obtain ⟨_, hg, -⟩ := hk; have eg : ρ 58 = (.bool true) := hg; simp [wantedR, Region.wanted, asBoolR, eg]) ?_ ?_
    · rintro ρ w' he ⟨h1, -⟩
      have e1 : ρ 1 = (.int .i64 2) := h1
      simp [execOp, evR, e1]
    refine tele_val rfl ((.int .i64 2)) (fun ρ w' hk => by obtain ⟨_, hg, -⟩ := hk; have eg : ρ 58 = (.bool true) := hg; simp [wantedR, Region.wanted, asBoolR, eg]) ?_ ?_
    · rintro ρ w' he ⟨h1, -⟩
      have e1 : ρ 1 = (.int .i64 2) := h1
      simp [execOp, evR, e1]
    refine tele_val rfl (.int .i64 1) (fun ρ w' hk => by obtain ⟨_, hg, -⟩ := hk; have eg : ρ 58 = (.bool true) := hg; simp [wantedR, Region.wanted, asBoolR, eg]) ?_ ?_
    · rintro ρ w' he ⟨h61, -⟩
      have e61 : ρ 61 = (.int .i64 2) := h61
      simp [execOp, evR, e61, go_sem]
      try decide
    refine tele_val rfl (.pointer (some ⟨n5, 1, none⟩)) (fun ρ w' hk => by obtain ⟨_, _, hg, -⟩ := hk; have eg : ρ 58 = (.bool true) := hg; simp [wantedR, Region.wanted, asBoolR, eg]) ?_ ?_
    · rintro ρ w' he ⟨h5, h62, -⟩
      have e5 : ρ 5 = (.pointer (some ⟨n5, 0, none⟩)) := h5
      have e62 : ρ 62 = (.int .i64 1) := h62
      simp [execOp, evR, e5, e62, go_sem]
    refine tele_val rfl (.int .i64 (b + 1)) (fun ρ w' hk => by obtain ⟨_, hg, -⟩ := hk; have eg : ρ 58 = (.bool true) := hg; simp [wantedR, Region.wanted, asBoolR, eg]) ?_ ?_
    · rintro ρ w' he ⟨h63, -⟩
      have e63 : ρ 63 = (.pointer (some ⟨n5, 1, none⟩)) := h63
      have c := (b5.ext he).cell (i := 1) rfl
      simp [execOp, evR, e63, c, go_sem]
    refine tele_call rfl rfl Try.func22 (by kernel_rfl) (isV (.bool false)) (fun ρ w' hk => by obtain ⟨_, _, _, hg, -⟩ := hk; have eg : ρ 58 = (.bool true) := hg; simp [wantedR, Region.wanted, asBoolR, eg]) ?_ ?_
    · rintro ρ w' he ⟨h59, h60, h64, -⟩
      have e59 : ρ 59 = (vecV a b) := h59
      have e60 : ρ 60 = (.int .i64 2) := h60
      have e64 : ρ 64 = (.int .i64 (b + 1)) := h64
      simp only [evR, List.map_toArray, List.map_cons, List.map_nil, e59, e60, e64]
      refine (vecHas_any a b 2 (b + 1) _ hs).mono ?_
      rintro e w'' ⟨rfl, he⟩
      exact ⟨_, rfl, he, by rw [hp3]; rfl⟩
    refine tele_val rfl (.bool true) (fun ρ w' hk => by obtain ⟨_, hg, -⟩ := hk; have eg : ρ 58 = (.bool true) := hg; simp [wantedR, Region.wanted, asBoolR, eg]) ?_ ?_
    · rintro ρ w' he ⟨h65, -⟩
      have e65 : ρ 65 = (.bool false) := h65
      simp [execOp, evR, e65, go_sem]
    refine tele_val rfl (.bool true) (fun _ _ _ => rfl) ?_ ?_
    · rintro ρ w' he ⟨h58, h66, -⟩
      have e58 : ρ 58 = (.bool true) := h58
      have e66 : ρ 66 = (.bool true) := h66
      simp [execOp, evR, e58, e66, go_sem]
    refine tele_move rfl (.inl rfl) rfl (isV (.bool true)) (fun ρ w' h => h) ?_
    refine tele_call rfl rfl Try.func9 (by kernel_rfl) (isV (.bool true)) (fun ρ w' hk => by obtain ⟨hg, -⟩ := hk; have eg : ρ 68 = (.bool true) := hg; simp [wantedR, Region.wanted, asBoolR, eg]) ?_ ?_
    · rintro ρ w' he -
      simp only [evR, List.map_toArray, List.map_cons, List.map_nil]
      refine (lives_any _).mono ?_
      rintro e w'' ⟨rfl, he⟩
      exact ⟨_, rfl, he, rfl⟩
    refine tele_val rfl (.bool true) (fun _ _ _ => rfl) ?_ ?_
    · rintro ρ w' he ⟨h68, h69, -⟩
      have e68 : ρ 68 = (.bool true) := h68
      have e69 : ρ 69 = (.bool true) := h69
      simp [execOp, evR, e68, e69, go_sem]
    refine tele_move rfl (.inr rfl) rfl (isV (.bool true)) (fun ρ w' h => h) ?_
    refine tele_nil ?_
    rintro ρ w' hext ⟨f4, f70, f69, f68, f67, f66, f65, f64, f63, f62, f61, f60, f59, f58, f57, f56, f55, f54, f53, f52, f51, f50, f49, f48, f47, f46, f45, f44, f43, f42, f41, f40, f39, f38, f37, f36, f35, f34, f33, -⟩
    replace f33 : ρ 33 = (vecV a b) := f33
    replace f34 : ρ 34 = (vecV (a) (b + 1)) := f34
    replace f35 : ρ 35 = (.int .i64 1) := f35
    replace f36 : ρ 36 = (.bool true) := f36
    replace f37 : ρ 37 = (.bool true) := f37
    replace f38 : ρ 38 = (.int .i64 1) := f38
    replace f39 : ρ 39 = (.bool true) := f39
    replace f40 : ρ 40 = (.bool true) := f40
    replace f41 : ρ 41 = (.bool true) := f41
    replace f42 : ρ 42 = (.int .i64 2) := f42
    replace f43 : ρ 43 = (.bool true) := f43
    replace f44 : ρ 44 = (.bool true) := f44
    replace f45 : ρ 45 = (.bool true) := f45
    replace f46 : ρ 46 = (.int .i64 2) := f46
    replace f47 : ρ 47 = (.bool true) := f47
    replace f48 : ρ 48 = (.bool true) := f48
    replace f49 : ρ 49 = (.bool true) := f49
    replace f50 : ρ 50 = (vecV (a) (b + 1)) := f50
    replace f51 : ρ 51 = (.int .i64 2) := f51
    replace f52 : ρ 52 = (.int .i64 2) := f52
    replace f53 : ρ 53 = (.int .i64 1) := f53
    replace f54 : ρ 54 = (.pointer (some ⟨n5, 1, none⟩)) := f54
    replace f55 : ρ 55 = (.int .i64 (b + 1)) := f55
    replace f56 : ρ 56 = (.bool true) := f56
    replace f57 : ρ 57 = (.bool true) := f57
    replace f58 : ρ 58 = (.bool true) := f58
    replace f59 : ρ 59 = (vecV a b) := f59
    replace f60 : ρ 60 = (.int .i64 2) := f60
    replace f61 : ρ 61 = (.int .i64 2) := f61
    replace f62 : ρ 62 = (.int .i64 1) := f62
    replace f63 : ρ 63 = (.pointer (some ⟨n5, 1, none⟩)) := f63
    replace f64 : ρ 64 = (.int .i64 (b + 1)) := f64
    replace f65 : ρ 65 = (.bool false) := f65
    replace f66 : ρ 66 = (.bool true) := f66
    replace f67 : ρ 67 = (.bool true) := f67
    replace f68 : ρ 68 = (.bool true) := f68
    replace f69 : ρ 69 = (.bool true) := f69
    replace f70 : ρ 70 = (.bool true) := f70
    replace f4 : ρ 4 = (.bool true) := f4
    simp only [puts, Act.put, List.setIfInBounds_toArray, List.set_cons_zero, List.set_cons_succ]
    rw [f4]
    go_wp2_with fail
    go_ret
    exact ⟨rfl, Ext.trans hx hext⟩
end Go.Proofs.Ytfhahkklkkdkoaa
