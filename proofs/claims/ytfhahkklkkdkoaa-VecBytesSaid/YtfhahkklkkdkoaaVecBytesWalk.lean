/-
  The walk of VecBytes.
-/
import Derived.Test.YtfhahkklkkdkoaaVecGet
import Derived.Test.YtfhahkklkkdkoaaVecLaws
namespace Go.Proofs.Ytfhahkklkkdkoaa
open Go.RowKit Mono Num
set_option linter.unusedSimpArgs false
set_option linter.unusedVariables false

set_option maxHeartbeats 2000000 in
theorem vecBytes_walk (v : Value) (l : List UInt8) (a b : Int) (w : World) (hv : Bs w v l) :
    Calls Try.prog 8 #[v, vecV a b] w fun e w' => e = .returned (.bool true) ∧ Ext w w' := by
  obtain ⟨A, c, rfl, h1, h2, _, _⟩ := hv.open_
  unfold maxLen at h2
  by_cases hl : 1000 < l.length
  · unfold vecV
    go_enter Try.func8, Try.ntmps8
    go_wp2_with fail
    refine (lives_any _).mono ?_
    rintro e w' ⟨rfl, he⟩
    go_wp2_with fail
    go_ret
    exact ⟨rfl, Ext.trans (ext_alloc _ _) he⟩
  · unfold vecV
    go_enter Try.func8, Try.ntmps8
    go_wp2_with fail
    have ba := Blk.new (w) #[.int .i64 a, .int .i64 b] 25
    have hx : Ext w (((w).alloc (.cells #[.int .i64 a, .int .i64 b] 25))) := ext_alloc _ _
    obtain ⟨n, hnn⟩ : ∃ n, n = w.heap.size := ⟨_, rfl⟩
    rw [← hnn] at ba ⊢
    have HN := Lib.hid hnn
    clear hnn
    generalize ((w).alloc (.cells #[.int .i64 a, .int .i64 b] 25)) = W at *
    refine (vecGet_any _ l _ (hv.ext hx)).mono ?_
    rintro e w1 ⟨rfl, e1⟩
    have HC := Lib.hid (fun w hw => ref6Get_any (.slice A l.length c) l w hw)
    obtain ⟨x, y, k, f, hr⟩ : ∃ x y k f, vget l = ((x, y), k, f) := ⟨_, _, _, _, rfl⟩
    rw [hr] at HC ⊢
    unfold getV vecV
    dsimp only
    replace ba := ba.ext e1
    replace hx := Ext.trans hx e1
    clear e1 hr
    go_wp2_with fail
    refine (HC.out _ ((hv.ext hx).ext (ext_alloc _ _))).mono ?_
    rintro e w2 ⟨rfl, e2⟩
    have b5 := (Blk.new w1 #[.int .i64 x, .int .i64 y] 25).ext e2
    replace ba := (ba.ext (ext_alloc w1 (.cells #[.int .i64 x, .int .i64 y] 25))).ext e2
    replace hx := Ext.trans hx (Ext.trans (ext_alloc w1 (.cells #[.int .i64 x, .int .i64 y] 25)) e2)
    obtain ⟨n5, hn5⟩ : ∃ m, m = w1.heap.size := ⟨_, rfl⟩
    rw [← hn5] at b5 ⊢
    clear hn5 e2 HC
    unfold getV vecV
    dsimp only
    have bac0 := (ba.ext (ext_alloc _ (.cells #[.int .i64 x, .int .i64 y] 25))).cell (i := 0) rfl
    have bac1 := (ba.ext (ext_alloc _ (.cells #[.int .i64 x, .int .i64 y] 25))).cell (i := 1) rfl
    go_wp2_with fail
    clear bac0 bac1
    have b8 := Blk.new w2 #[.int .i64 x, .int .i64 y] 25
    replace ba := ba.ext (ext_alloc w2 (.cells #[.int .i64 x, .int .i64 y] 25))
    replace b5 := b5.ext (ext_alloc w2 (.cells #[.int .i64 x, .int .i64 y] 25))
    replace hx := Ext.trans hx (ext_alloc w2 (.cells #[.int .i64 x, .int .i64 y] 25))
    obtain ⟨n8, hn8⟩ : ∃ m, m = w2.heap.size := ⟨_, rfl⟩
    rw [← hn8] at b8 ⊢
    clear hn8
    refine (vecPut_any _ [] a b _ (Bs.nil_ _) (by simp)).mono ?_
    rintro e w3 ⟨p, rfl, hp, e3⟩
    rw [List.nil_append] at hp
    replace ba := ba.ext e3
    replace b5 := b5.ext e3
    replace b8 := b8.ext e3
    replace hx := Ext.trans hx e3
    have hpb := hp.bs
    clear e3 hp
    go_wp2_with fail
    refine wp_region_mono (by kernel_rfl) (by kernel_rfl) ?_
    refine tele_val rfl (vecV x y) (fun _ _ _ => rfl) ?_ ?_
    · rintro ρ w' he ⟨h5, -⟩
      have e5 : ρ 5 = (.pointer (some ⟨n5, 0, none⟩)) := h5
      have c0 := (b5.ext he).cell (i := 0) rfl
      have c1 := (b5.ext he).cell (i := 1) rfl
      simp [execOp, evR, e5, c0, c1, vecV, go_sem]
    refine tele_val rfl (vecV x y) (fun _ _ _ => rfl) ?_ ?_
    · rintro ρ w' he ⟨h8, -⟩
      have e8 : ρ 8 = (.pointer (some ⟨n8, 0, none⟩)) := h8
      have c0 := (b8.ext he).cell (i := 0) rfl
      have c1 := (b8.ext he).cell (i := 1) rfl
      simp [execOp, evR, e8, c0, c1, vecV, go_sem]
    refine tele_val rfl (.bool false) (fun _ _ _ => rfl) ?_ ?_
    · rintro ρ w' he ⟨h33, h34, -⟩
      have e33 : ρ 33 = (vecV x y) := h33
      have e34 : ρ 34 = (vecV x y) := h34
      simp [execOp, evR, e33, e34, vecV, go_sem]
    refine tele_move rfl (.inl rfl) rfl (isV (.bool false)) (fun ρ w' h => h) ?_
    refine tele_val rfl ((.int .i64 (k : Int))) (fun ρ w' hk => by obtain ⟨_, hg, -⟩ := hk; have eg : ρ 36 = (.bool false) := hg; simp [wantedR, Region.wanted, asBoolR, eg]) ?_ ?_
    · rintro ρ w' he ⟨h6, -⟩
      have e6 : ρ 6 = (.int .i64 (k : Int)) := h6
      simp [execOp, evR, e6]
    refine tele_val rfl ((.int .i64 (k : Int))) (fun ρ w' hk => by obtain ⟨_, hg, -⟩ := hk; have eg : ρ 36 = (.bool false) := hg; simp [wantedR, Region.wanted, asBoolR, eg]) ?_ ?_
    · rintro ρ w' he ⟨h9, -⟩
      have e9 : ρ 9 = (.int .i64 (k : Int)) := h9
      simp [execOp, evR, e9]
    refine tele_val rfl (.bool false) (fun ρ w' hk => by obtain ⟨_, _, hg, -⟩ := hk; have eg : ρ 36 = (.bool false) := hg; simp [wantedR, Region.wanted, asBoolR, eg]) ?_ ?_
    · rintro ρ w' he ⟨h37, h38, -⟩
      have e37 : ρ 37 = (.int .i64 (k : Int)) := h37
      have e38 : ρ 38 = (.int .i64 (k : Int)) := h38
      simp [execOp, evR, e37, e38, go_sem]
    refine tele_val rfl (.bool false) (fun _ _ _ => rfl) ?_ ?_
    · rintro ρ w' he ⟨h36, h39, -⟩
      have e36 : ρ 36 = (.bool false) := h36
      have e39 : ρ 39 = (.bool false) := h39
      simp [execOp, evR, e36, e39, go_sem]
    refine tele_move rfl (.inl rfl) rfl (isV (.bool false)) (fun ρ w' h => h) ?_
    refine tele_val rfl ((.int .i64 (f : Int))) (fun ρ w' hk => by obtain ⟨_, hg, -⟩ := hk; have eg : ρ 41 = (.bool false) := hg; simp [wantedR, Region.wanted, asBoolR, eg]) ?_ ?_
    · rintro ρ w' he ⟨h7, -⟩
      have e7 : ρ 7 = (.int .i64 (f : Int)) := h7
      simp [execOp, evR, e7]
    refine tele_val rfl ((.int .i64 (f : Int))) (fun ρ w' hk => by obtain ⟨_, hg, -⟩ := hk; have eg : ρ 41 = (.bool false) := hg; simp [wantedR, Region.wanted, asBoolR, eg]) ?_ ?_
    · rintro ρ w' he ⟨h10, -⟩
      have e10 : ρ 10 = (.int .i64 (f : Int)) := h10
      simp [execOp, evR, e10]
    refine tele_val rfl (.bool false) (fun ρ w' hk => by obtain ⟨_, _, hg, -⟩ := hk; have eg : ρ 41 = (.bool false) := hg; simp [wantedR, Region.wanted, asBoolR, eg]) ?_ ?_
    · rintro ρ w' he ⟨h42, h43, -⟩
      have e42 : ρ 42 = (.int .i64 (f : Int)) := h42
      have e43 : ρ 43 = (.int .i64 (f : Int)) := h43
      simp [execOp, evR, e42, e43, go_sem]
    refine tele_val rfl (.bool false) (fun _ _ _ => rfl) ?_ ?_
    · rintro ρ w' he ⟨h41, h44, -⟩
      have e41 : ρ 41 = (.bool false) := h41
      have e44 : ρ 44 = (.bool false) := h44
      simp [execOp, evR, e41, e44, go_sem]
    refine tele_move rfl (.inl rfl) rfl (isV (.bool false)) (fun ρ w' h => h) ?_
    refine tele_val rfl ((.slice A l.length c)) (fun ρ w' hk => by obtain ⟨_, hg, -⟩ := hk; have eg : ρ 46 = (.bool false) := hg; simp [wantedR, Region.wanted, asBoolR, eg]) ?_ ?_
    · rintro ρ w' he ⟨h0, -⟩
      have e0 : ρ 0 = (.slice A l.length c) := h0
      simp [execOp, evR, e0]
    refine tele_val rfl (vecV a b) (fun ρ w' hk => by obtain ⟨_, hg, -⟩ := hk; have eg : ρ 46 = (.bool false) := hg; simp [wantedR, Region.wanted, asBoolR, eg]) ?_ ?_
    · rintro ρ w' he ⟨h3, -⟩
      have e3 : ρ 3 = (.pointer (some ⟨n, 0, none⟩)) := h3
      have c0 := (ba.ext he).cell (i := 0) rfl
      have c1 := (ba.ext he).cell (i := 1) rfl
      simp [execOp, evR, e3, c0, c1, vecV, go_sem]
    refine tele_call rfl rfl Try.func26 (by kernel_rfl) (isBs (l ++ vput a b)) (fun ρ w' hk => by obtain ⟨_, _, hg, -⟩ := hk; have eg : ρ 46 = (.bool false) := hg; simp [wantedR, Region.wanted, asBoolR, eg]) ?_ ?_
    · rintro ρ w' he ⟨h47, h48, -⟩
      have e47 : ρ 47 = (.slice A l.length c) := h47
      have e48 : ρ 48 = (vecV a b) := h48
      simp only [evR, List.map_toArray, List.map_cons, List.map_nil, e47, e48]
      refine (vecPut_any _ l a b _ ((hv.ext hx).ext he) (by omega)).mono ?_
      rintro e w'' ⟨r, rfl, h, he⟩
      exact ⟨_, rfl, he, h.bs⟩
    refine tele_val rfl (strV (l ++ vput a b)) (fun ρ w' hk => by obtain ⟨_, hg, -⟩ := hk; have eg : ρ 46 = (.bool false) := hg; simp [wantedR, Region.wanted, asBoolR, eg]) ?_ ?_
    · rintro ρ w' he ⟨h49, -⟩
      have e49 : Bs w' (ρ 49) (l ++ vput a b) := h49
      simp [execOp, evR, e49.str_ 41 9 5 Try.underlying41 Try.underlying5 Try.underlying9]
    refine tele_val rfl ((.slice A l.length c)) (fun ρ w' hk => by obtain ⟨_, hg, -⟩ := hk; have eg : ρ 46 = (.bool false) := hg; simp [wantedR, Region.wanted, asBoolR, eg]) ?_ ?_
    · rintro ρ w' he ⟨h0, -⟩
      have e0 : ρ 0 = (.slice A l.length c) := h0
      simp [execOp, evR, e0]
    refine tele_val rfl (vecV a b) (fun ρ w' hk => by obtain ⟨_, hg, -⟩ := hk; have eg : ρ 46 = (.bool false) := hg; simp [wantedR, Region.wanted, asBoolR, eg]) ?_ ?_
    · rintro ρ w' he ⟨h3, -⟩
      have e3 : ρ 3 = (.pointer (some ⟨n, 0, none⟩)) := h3
      have c0 := (ba.ext he).cell (i := 0) rfl
      have c1 := (ba.ext he).cell (i := 1) rfl
      simp [execOp, evR, e3, c0, c1, vecV, go_sem]
    refine tele_call rfl rfl Try.func27 (by kernel_rfl) (isBs (l ++ vput a b)) (fun ρ w' hk => by obtain ⟨_, _, hg, -⟩ := hk; have eg : ρ 46 = (.bool false) := hg; simp [wantedR, Region.wanted, asBoolR, eg]) ?_ ?_
    · rintro ρ w' he ⟨h51, h52, -⟩
      have e51 : ρ 51 = (.slice A l.length c) := h51
      have e52 : ρ 52 = (vecV a b) := h52
      simp only [evR, List.map_toArray, List.map_cons, List.map_nil, e51, e52]
      refine (ref6Put_any _ l a b _ ((hv.ext hx).ext he) (by omega)).mono ?_
      rintro e w'' ⟨r, rfl, h, he⟩
      exact ⟨_, rfl, he, h.bs⟩
    refine tele_val rfl (strV (l ++ vput a b)) (fun ρ w' hk => by obtain ⟨_, hg, -⟩ := hk; have eg : ρ 46 = (.bool false) := hg; simp [wantedR, Region.wanted, asBoolR, eg]) ?_ ?_
    · rintro ρ w' he ⟨h53, -⟩
      have e53 : Bs w' (ρ 53) (l ++ vput a b) := h53
      simp [execOp, evR, e53.str_ 41 9 5 Try.underlying41 Try.underlying5 Try.underlying9]
    refine tele_val rfl (.bool false) (fun ρ w' hk => by obtain ⟨_, _, hg, -⟩ := hk; have eg : ρ 46 = (.bool false) := hg; simp [wantedR, Region.wanted, asBoolR, eg]) ?_ ?_
    · rintro ρ w' he ⟨h50, h54, -⟩
      have e50 : ρ 50 = (strV (l ++ vput a b)) := h50
      have e54 : ρ 54 = (strV (l ++ vput a b)) := h54
      rw [exec_neq_str rfl e50 e54, beq_self_eq_true]
      rfl
    refine tele_val rfl (.bool false) (fun _ _ _ => rfl) ?_ ?_
    · rintro ρ w' he ⟨h46, h55, -⟩
      have e46 : ρ 46 = (.bool false) := h46
      have e55 : ρ 55 = (.bool false) := h55
      simp [execOp, evR, e46, e55, go_sem]
    refine tele_nil ?_
    rintro ρ w' hext ⟨f56, f55, f54, f53, f52, f51, f50, f49, f48, f47, f46, f45, f44, f43, f42, f41, f40, f39, f38, f37, f36, f35, f34, f33, -⟩
    replace f33 : ρ 33 = (vecV x y) := f33
    replace f34 : ρ 34 = (vecV x y) := f34
    replace f35 : ρ 35 = (.bool false) := f35
    replace f36 : ρ 36 = (.bool false) := f36
    replace f37 : ρ 37 = (.int .i64 (k : Int)) := f37
    replace f38 : ρ 38 = (.int .i64 (k : Int)) := f38
    replace f39 : ρ 39 = (.bool false) := f39
    replace f40 : ρ 40 = (.bool false) := f40
    replace f41 : ρ 41 = (.bool false) := f41
    replace f42 : ρ 42 = (.int .i64 (f : Int)) := f42
    replace f43 : ρ 43 = (.int .i64 (f : Int)) := f43
    replace f44 : ρ 44 = (.bool false) := f44
    replace f45 : ρ 45 = (.bool false) := f45
    replace f46 : ρ 46 = (.bool false) := f46
    replace f47 : ρ 47 = (.slice A l.length c) := f47
    replace f48 : ρ 48 = (vecV a b) := f48
    replace f49 : Bs w' (ρ 49) (l ++ vput a b) := f49
    replace f50 : ρ 50 = (strV (l ++ vput a b)) := f50
    replace f51 : ρ 51 = (.slice A l.length c) := f51
    replace f52 : ρ 52 = (vecV a b) := f52
    replace f53 : Bs w' (ρ 53) (l ++ vput a b) := f53
    replace f54 : ρ 54 = (strV (l ++ vput a b)) := f54
    replace f55 : ρ 55 = (.bool false) := f55
    replace f56 : ρ 56 = (.bool false) := f56
    simp only [puts, Act.put, List.setIfInBounds_toArray, List.set_cons_zero, List.set_cons_succ]
    rw [f56]
    clear f33 f34 f35 f36 f37 f38 f39 f40 f41 f42 f43 f44 f45 f46 f47 f48 f49 f50 f51 f52 f53 f54 f55 f56
    replace ba := ba.ext hext
    replace hx := Ext.trans hx hext
    replace hpb := hpb.ext hext
    clear b5 b8 hext
    have bac0 := ba.cell (i := 0) rfl
    have baz0 := ba.thaw 0
    have bac1 := ba.cell (i := 1) rfl
    have baz1 := ba.thaw 1
    go_wp2_with fail
    refine (vecGood_any a b _).mono ?_
    rintro e w4 ⟨rfl, e4⟩
    replace ba := ba.ext e4
    replace hx := Ext.trans hx e4
    replace hpb := hpb.ext e4
    clear e4 bac0 bac1 baz0 baz1
    obtain ⟨A', c', rfl, q1, q2, _, _⟩ := hpb.open_
    unfold maxLen at q2
    have HQ := Lib.hid (vput_len a b)
    cases hg : vgood a b
    · have hp0 : (vput a b).length = 0 := by unfold vput; rw [hg]; rfl
      rw [hp0]
      rw [hp0] at q1
      clear hp0 hg
      go_wp2_with fail
      refine (lives_any _).mono ?_
      rintro e w5 ⟨rfl, e5⟩
      go_wp2_with fail
      go_ret
      exact ⟨rfl, Ext.trans hx e5⟩
    · have HB := Lib.hid (vget_vput a b l hg)
      clear hg
      have HX := Lib.hid hx.size
      have hpl := HQ.out
      go_wp2_with first
        | (at_builtin; refine wpList_append_bs _ rfl (.tmp 67) (.tmp 68) rfl (OwB.empty_ w4 (Nat.le_refl _)) (hpb.ext (ext_alloc _ _)) rfl rfl (by simp; omega) (by simp) ?_; intro v1 w5 hown1 hg1 hat1; have hb1 : Ext w4 w5 := Below.growB (ext_alloc w4 _) (OwB.empty_ w4 (Nat.le_refl _)) hg1 (Nat.le_refl _) (by simp); rw [List.nil_append] at hown1)
        | (at_builtin; refine wpList_append_bs _ rfl (.tmp 69) (.tmp 70) rfl hown1 ((hv.ext hx).ext hb1) rfl rfl (by omega) hb1.size ?_; intro v2 w6 hown2 hg2 hat2; have hb2 : Ext w4 w6 := Below.growB hb1 hown1 hg2 (Nat.le_refl _) hb1.size)
      refine (vecGet_any _ _ _ hown2.bs).mono ?_
      rintro e w7 ⟨rfl, e7⟩
      rw [HB.out]
      have e8 : Ext w4 w7 := Ext.trans hb2 e7
      replace ba := ba.ext e8
      replace hx := Ext.trans hx e8
      clear hown1 hown2 hg1 hg2 hat1 hat2 hb1 hb2 e7 e8
      unfold getV vecV
      dsimp only
      have bac0 := (ba.ext (ext_alloc _ (.cells #[.int .i64 a, .int .i64 b] 25))).cell (i := 0) rfl
      have bac1 := (ba.ext (ext_alloc _ (.cells #[.int .i64 a, .int .i64 b] 25))).cell (i := 1) rfl
      go_wp2_with fail
      refine (lives_any _).mono ?_
      rintro e w9 ⟨rfl, e9⟩
      go_wp2_with fail
      go_ret
      exact ⟨rfl, Ext.trans (Ext.trans hx (ext_alloc _ _)) e9⟩
end Go.Proofs.Ytfhahkklkkdkoaa
