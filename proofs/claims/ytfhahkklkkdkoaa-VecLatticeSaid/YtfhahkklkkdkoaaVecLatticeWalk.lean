/-
  The walk of VecLattice.
-/
import Derived.Test.YtfhahkklkkdkoaaVecLaws
import Derived.Test.YtfhahkklkkdkoaaVecNext
import Derived.Test.YtfhahkklkkdkoaaMonoTail
namespace Go.Proofs.Ytfhahkklkkdkoaa
open Go.RowKit Mono
set_option linter.unusedSimpArgs false
set_option linter.unusedVariables false

/-- A slot that holds a block of the region's own. -/
def isNew (B : Nat) (L : List Value) : MRel := ⟨fun v w => ∃ b, v = .pointer (some ⟨b, 0, none⟩) ∧ B ≤ b ∧ Blk w b L, fun _ _ _ ⟨b, h1, h2, h3⟩ he => ⟨b, h1, h2, h3.ext he⟩⟩
def isVs (l : List (Int × Int)) : MRel := ⟨fun v w => Vs w v l, fun _ _ _ h he => h.ext he⟩
theorem vjoin2 (a b c d : Int) (h1 : 0 ≤ a) (h2 : 0 ≤ b) : vjoin [(a, b), (c, d)] = (max a c, max b d) := by
  simp [vjoin]; omega

set_option maxHeartbeats 4000000 in
set_option maxRecDepth 20000 in
theorem vecLattice_walk (a1 a2 b1 b2 c1 c2 : Int) (w : World) :
    Calls Try.prog 5 #[vecV a1 a2, vecV b1 b2, vecV c1 c2] w fun e w' => e = .returned (.bool true) ∧ Ext w w' := by
  unfold vecV
  go_enter Try.func5, Try.ntmps5
  go_wp2_with fail
  have ba := ((Blk.new (w) #[.int .i64 a1, .int .i64 a2] 25).ext (ext_alloc _ (.cells #[.int .i64 b1, .int .i64 b2] 25))).ext (ext_alloc _ (.cells #[.int .i64 c1, .int .i64 c2] 25))
  have bb := (Blk.new (((w).alloc (.cells #[.int .i64 a1, .int .i64 a2] 25))) #[.int .i64 b1, .int .i64 b2] 25).ext (ext_alloc _ (.cells #[.int .i64 c1, .int .i64 c2] 25))
  have bc := Blk.new (((((w).alloc (.cells #[.int .i64 a1, .int .i64 a2] 25))).alloc (.cells #[.int .i64 b1, .int .i64 b2] 25))) #[.int .i64 c1, .int .i64 c2] 25
  have hx : Ext w (((((((w).alloc (.cells #[.int .i64 a1, .int .i64 a2] 25))).alloc (.cells #[.int .i64 b1, .int .i64 b2] 25))).alloc (.cells #[.int .i64 c1, .int .i64 c2] 25))) := Ext.trans (Ext.trans (ext_alloc _ _) (ext_alloc _ _)) (ext_alloc _ _)
  simp only [World.size_alloc] at bb bc
  obtain ⟨n, hnn⟩ : ∃ n, n = w.heap.size := ⟨_, rfl⟩
  rw [← hnn] at ba bb bc ⊢
  have HN := Lib.hid hnn
  clear hnn
  generalize ((((((w).alloc (.cells #[.int .i64 a1, .int .i64 a2] 25))).alloc (.cells #[.int .i64 b1, .int .i64 b2] 25))).alloc (.cells #[.int .i64 c1, .int .i64 c2] 25)) = W at *
  have bac0 := ba.cell (i := 0) rfl
  have baz0 := ba.thaw 0
  have bac1 := ba.cell (i := 1) rfl
  have baz1 := ba.thaw 1
  have bbc0 := bb.cell (i := 0) rfl
  have bbz0 := bb.thaw 0
  have bbc1 := bb.cell (i := 1) rfl
  have bbz1 := bb.thaw 1
  have bcc0 := bc.cell (i := 0) rfl
  have bcz0 := bc.thaw 0
  have bcc1 := bc.cell (i := 1) rfl
  have bcz1 := bc.thaw 1
  refine (vecGood_any a1 a2 _).mono ?_
  rintro e w1 ⟨rfl, he⟩
  replace ba := ba.ext he
  replace bb := bb.ext he
  replace bc := bc.ext he
  replace hx := Ext.trans hx he
  clear bac0 bac1 baz0 baz1 bbc0 bbc1 bbz0 bbz1 bcc0 bcc1 bcz0 bcz1
  clear he
  have bac0 := ba.cell (i := 0) rfl
  have baz0 := ba.thaw 0
  have bac1 := ba.cell (i := 1) rfl
  have baz1 := ba.thaw 1
  have bbc0 := bb.cell (i := 0) rfl
  have bbz0 := bb.thaw 0
  have bbc1 := bb.cell (i := 1) rfl
  have bbz1 := bb.thaw 1
  have bcc0 := bc.cell (i := 0) rfl
  have bcz0 := bc.thaw 0
  have bcc1 := bc.cell (i := 1) rfl
  have bcz1 := bc.thaw 1
  cases hga : vgood a1 a2
  · go_wp2_with fail
    refine (lives_any _).mono ?_
    rintro e w3 ⟨rfl, e3⟩
    go_wp2_with fail
    go_ret
    exact ⟨rfl, Ext.trans hx e3⟩
  · have HA := Lib.hid hga
    clear hga
    go_wp2_with fail
    refine (vecGood_any b1 b2 _).mono ?_
    rintro e w2 ⟨rfl, he⟩
    replace ba := ba.ext he
    replace bb := bb.ext he
    replace bc := bc.ext he
    replace hx := Ext.trans hx he
    clear bac0 bac1 baz0 baz1 bbc0 bbc1 bbz0 bbz1 bcc0 bcc1 bcz0 bcz1
    clear he
    have bac0 := ba.cell (i := 0) rfl
    have baz0 := ba.thaw 0
    have bac1 := ba.cell (i := 1) rfl
    have baz1 := ba.thaw 1
    have bbc0 := bb.cell (i := 0) rfl
    have bbz0 := bb.thaw 0
    have bbc1 := bb.cell (i := 1) rfl
    have bbz1 := bb.thaw 1
    have bcc0 := bc.cell (i := 0) rfl
    have bcz0 := bc.thaw 0
    have bcc1 := bc.cell (i := 1) rfl
    have bcz1 := bc.thaw 1
    cases hgb : vgood b1 b2
    · go_wp2_with fail
      refine (lives_any _).mono ?_
      rintro e w3 ⟨rfl, e3⟩
      go_wp2_with fail
      go_ret
      exact ⟨rfl, Ext.trans hx e3⟩
    · have HB := Lib.hid hgb
      clear hgb
      go_wp2_with fail
      refine (vecGood_any c1 c2 _).mono ?_
      rintro e w3 ⟨rfl, he⟩
      replace ba := ba.ext he
      replace bb := bb.ext he
      replace bc := bc.ext he
      replace hx := Ext.trans hx he
      clear bac0 bac1 baz0 baz1 bbc0 bbc1 bbz0 bbz1 bcc0 bcc1 bcz0 bcz1
      clear he
      have bac0 := ba.cell (i := 0) rfl
      have baz0 := ba.thaw 0
      have bac1 := ba.cell (i := 1) rfl
      have baz1 := ba.thaw 1
      have bbc0 := bb.cell (i := 0) rfl
      have bbz0 := bb.thaw 0
      have bbc1 := bb.cell (i := 1) rfl
      have bbz1 := bb.thaw 1
      have bcc0 := bc.cell (i := 0) rfl
      have bcz0 := bc.thaw 0
      have bcc1 := bc.cell (i := 1) rfl
      have bcz1 := bc.thaw 1
      cases hgc : vgood c1 c2
      · go_wp2_with fail
        refine (lives_any _).mono ?_
        rintro e w3 ⟨rfl, e3⟩
        go_wp2_with fail
        go_ret
        exact ⟨rfl, Ext.trans hx e3⟩
      · have HC := Lib.hid hgc
        clear hgc
        go_wp2_with fail
        clear bac0 bac1 baz0 baz1 bbc0 bbc1 bbz0 bbz1 bcc0 bcc1 bcz0 bcz1
        obtain ⟨ga1, ga2, ga3, ga4⟩ := vgood_bounds HA.out
        obtain ⟨gb1, gb2, gb3, gb4⟩ := vgood_bounds HB.out
        obtain ⟨gc1, gc2, gc3, gc4⟩ := vgood_bounds HC.out
        clear w1 w2
        generalize hw3 : w3 = W at *
        refine wp_region_tail_lit 9 (by kernel_rfl) rfl (by kernel_rfl) (by kernel_rfl) ?_
        refine tele_val rfl (vecV a1 a2) (fun _ _ _ => rfl) ?_ ?_
        · rintro ρ w' he ⟨h3, -⟩
          have e3 : ρ 3 = (.pointer (some ⟨n, 0, none⟩)) := h3
          have c0 := (ba.ext he).cell (i := 0) rfl
          have c1 := (ba.ext he).cell (i := 1) rfl
          simp [execOp, evR, e3, c0, c1, vecV, go_sem]
        refine tele_val rfl (vecV b1 b2) (fun _ _ _ => rfl) ?_ ?_
        · rintro ρ w' he ⟨h4, -⟩
          have e4 : ρ 4 = (.pointer (some ⟨n + 1, 0, none⟩)) := h4
          have c0 := (bb.ext he).cell (i := 0) rfl
          have c1 := (bb.ext he).cell (i := 1) rfl
          simp [execOp, evR, e4, c0, c1, vecV, go_sem]
        refine tele_any rfl (isVs [(a1, a2), (b1, b2)]) ?_ ?_
        · rintro ρ w' he hk
          rw [if_pos (show wantedR _ _ _ = true from rfl)]
          obtain ⟨h23, h24, -⟩ := hk
          have e23 : ρ 23 = (vecV a1 a2) := h23
          have e24 : ρ 24 = (vecV b1 b2) := h24
          show monoUpon Try.prog w' _ ((execOp (evR ρ) { dst := _, op := .buildSlice 22 2 #[(0, .tmp 23), (1, .tmp 24)], type := _, pos := _, after := _, guard := _ }).run Try.prog w')
          simp only [execOp, evR, List.map_toArray, List.map_cons, List.map_nil, e23, e24, vecV]
          simp [go_sem]
          exact ⟨ext_alloc _ _, Vs.two _ _ _ _ _ _⟩
        refine tele_call rfl rfl Try.func10 (by kernel_rfl) (isV (vecV (max a1 b1) (max a2 b2))) (fun _ _ _ => rfl) ?_ ?_
        · rintro ρ w' he ⟨h25, -⟩
          have e25 : (isVs [(a1, a2), (b1, b2)]).rel (ρ 25) w' := h25
          simp only [evR, List.map_toArray, List.map_cons, List.map_nil, e25]
          have hj := vecJoin_any _ [(a1, a2), (b1, b2)] _ (show Vs w' _ _ from h25)
          rw [vjoin2 _ _ _ _ (by omega) (by omega)] at hj
          refine hj.mono ?_
          rintro e w'' ⟨rfl, he⟩
          exact ⟨_, rfl, he, rfl⟩
        refine tele_val rfl (vecV a1 a2) (fun _ _ _ => rfl) ?_ ?_
        · rintro ρ w' he ⟨h3, -⟩
          have e3 : ρ 3 = (.pointer (some ⟨n, 0, none⟩)) := h3
          have c0 := (ba.ext he).cell (i := 0) rfl
          have c1 := (ba.ext he).cell (i := 1) rfl
          simp [execOp, evR, e3, c0, c1, vecV, go_sem]
        refine tele_val rfl (vecV b1 b2) (fun _ _ _ => rfl) ?_ ?_
        · rintro ρ w' he ⟨h4, -⟩
          have e4 : ρ 4 = (.pointer (some ⟨n + 1, 0, none⟩)) := h4
          have c0 := (bb.ext he).cell (i := 0) rfl
          have c1 := (bb.ext he).cell (i := 1) rfl
          simp [execOp, evR, e4, c0, c1, vecV, go_sem]
        refine tele_call rfl rfl Try.func18 (by kernel_rfl) (isV (vecV (min a1 b1) (min a2 b2))) (fun _ _ _ => rfl) ?_ ?_
        · rintro ρ w' he ⟨h27, h28, -⟩
          have e27 : ρ 27 = (vecV a1 a2) := h27
          have e28 : ρ 28 = (vecV b1 b2) := h28
          simp only [evR, List.map_toArray, List.map_cons, List.map_nil, e27, e28]
          have hj := vecMeet_any a1 a2 b1 b2 w'
          refine hj.mono ?_
          rintro e w'' ⟨rfl, he⟩
          exact ⟨_, rfl, he, rfl⟩
        refine tele_any rfl (isNew W.heap.size [.int .i64 0, .int .i64 0]) ?_ ?_
        · rintro ρ w' he hk
          rw [if_pos (show wantedR _ _ _ = true from rfl)]
          obtain - := hk
          simp only [execOp]
          simp [go_sem]
          exact ⟨ext_alloc _ _, _, rfl, he.size, Blk.new _ _ _⟩
        refine tele_any rfl (isNew W.heap.size [.int .i64 0, .int .i64 0]) ?_ ?_
        · rintro ρ w' he hk
          rw [if_pos (show wantedR _ _ _ = true from rfl)]
          obtain - := hk
          simp only [execOp]
          simp [go_sem]
          exact ⟨ext_alloc _ _, _, rfl, he.size, Blk.new _ _ _⟩
        refine tele_nil ?_
        rintro ρ w' hext ⟨f8, f7, f29, f28, f27, f26, f25, f24, f23, -⟩ hap
        replace f23 : ρ 23 = (vecV a1 a2) := f23
        replace f24 : ρ 24 = (vecV b1 b2) := f24
        replace f25 : (isVs [(a1, a2), (b1, b2)]).rel (ρ 25) w' := f25
        replace f26 : ρ 26 = (vecV (max a1 b1) (max a2 b2)) := f26
        replace f27 : ρ 27 = (vecV a1 a2) := f27
        replace f28 : ρ 28 = (vecV b1 b2) := f28
        replace f29 : ρ 29 = (vecV (min a1 b1) (min a2 b2)) := f29
        replace f7 : (isNew W.heap.size [.int .i64 0, .int .i64 0]).rel (ρ 7) w' := f7
        replace f8 : (isNew W.heap.size [.int .i64 0, .int .i64 0]).rel (ρ 8) w' := f8
        simp only [puts, Act.put, List.setIfInBounds_toArray, List.set_cons_zero, List.set_cons_succ]
        obtain ⟨n7, e7, h7, b7⟩ := f7
        obtain ⟨n8, e8, h8, b8⟩ := f8
        have hne : n7 ≠ n8 := by
          have := hap 7 8 _ _ 7 8 (by decide) rfl rfl rfl rfl ⟨_, rfl⟩ ⟨_, rfl⟩
          rw [e7, e8] at this
          intro h
          subst h
          exact this rfl
        have hne' : n8 ≠ n7 := hne.symm
        have la := ba.lt
        have lb := bb.lt
        have lc := bc.lt
        have lw := hx.size
        have na7 : n ≠ n7 := by omega
        have na8 : n ≠ n8 := by omega
        have nb7 : n + 1 ≠ n7 := by omega
        have nb8 : n + 1 ≠ n8 := by omega
        have nc7 : n + 1 + 1 ≠ n7 := by omega
        have nc8 : n + 1 + 1 ≠ n8 := by omega
        have hw7 : w.heap.size ≤ n7 := by omega
        have hw8 : w.heap.size ≤ n8 := by omega
        clear hap la lb lc lw h7 h8
        rw [f26, f29, e7, e8]
        clear f23 f24 f25 f26 f27 f28 f29 e7 e8
        replace ba := ba.ext hext
        replace bb := bb.ext hext
        replace bc := bc.ext hext
        replace hx := Ext.trans hx hext
        have b7c0 := b7.cell (i := 0) rfl
        have b7c1 := b7.cell (i := 1) rfl
        have b7z0 := b7.thaw 0
        have b7z1 := b7.thaw 1
        have b8c0 := b8.cell (i := 0) rfl
        have b8c1 := b8.cell (i := 1) rfl
        have b8z0 := b8.thaw 0
        have b8z1 := b8.thaw 1
        unfold vecV
        go_wp2_with fail
        replace ba := ((((ba).apart (a := ⟨n7, 0, none⟩) (.int .i64 (max a1 b1)) (na7)).apart (a := ⟨n7, 1, none⟩) (.int .i64 (max a2 b2)) (na7)).apart (a := ⟨n8, 0, none⟩) (.int .i64 (min a1 b1)) (na8)).apart (a := ⟨n8, 1, none⟩) (.int .i64 (min a2 b2)) (na8)
        replace bb := ((((bb).apart (a := ⟨n7, 0, none⟩) (.int .i64 (max a1 b1)) (nb7)).apart (a := ⟨n7, 1, none⟩) (.int .i64 (max a2 b2)) (nb7)).apart (a := ⟨n8, 0, none⟩) (.int .i64 (min a1 b1)) (nb8)).apart (a := ⟨n8, 1, none⟩) (.int .i64 (min a2 b2)) (nb8)
        replace bc := ((((bc).apart (a := ⟨n7, 0, none⟩) (.int .i64 (max a1 b1)) (nc7)).apart (a := ⟨n7, 1, none⟩) (.int .i64 (max a2 b2)) (nc7)).apart (a := ⟨n8, 0, none⟩) (.int .i64 (min a1 b1)) (nc8)).apart (a := ⟨n8, 1, none⟩) (.int .i64 (min a2 b2)) (nc8)
        have bj := ((((b7).set 0 (.int .i64 (max a1 b1))).set 1 (.int .i64 (max a2 b2))).apart (a := ⟨n8, 0, none⟩) (.int .i64 (min a1 b1)) (hne)).apart (a := ⟨n8, 1, none⟩) (.int .i64 (min a2 b2)) (hne)
        have bm := ((((b8).apart (a := ⟨n7, 0, none⟩) (.int .i64 (max a1 b1)) (hne')).apart (a := ⟨n7, 1, none⟩) (.int .i64 (max a2 b2)) (hne')).set 0 (.int .i64 (min a1 b1))).set 1 (.int .i64 (min a2 b2))
        simp only [List.set_cons_zero, List.set_cons_succ] at bj bm
        replace hx := (((hx.setCell (p := ⟨n7, 0, none⟩) hw7 (.int .i64 (max a1 b1))).setCell (p := ⟨n7, 1, none⟩) hw7 (.int .i64 (max a2 b2))).setCell (p := ⟨n8, 0, none⟩) hw8 (.int .i64 (min a1 b1))).setCell (p := ⟨n8, 1, none⟩) hw8 (.int .i64 (min a2 b2))
        generalize (((w'.setCell ⟨n7, 0, none⟩ (.int .i64 (max a1 b1))).setCell ⟨n7, 1, none⟩ (.int .i64 (max a2 b2))).setCell ⟨n8, 0, none⟩ (.int .i64 (min a1 b1))).setCell ⟨n8, 1, none⟩ (.int .i64 (min a2 b2)) = W1 at *
        have hx : Ext w W1 := hx
        clear b7 b8 b7c0 b7c1 b7z0 b7z1 b8c0 b8c1 b8z0 b8z1 hext na7 na8 nb7 nb8 nc7 nc8 hw7 hw8 hw3 hne hne' w' w3
        refine wp_region_mono (by kernel_rfl) (by kernel_rfl) ?_
        refine tele_val rfl (vecV (max a1 b1) (max a2 b2)) (fun _ _ _ => rfl) ?_ ?_
        · rintro ρ w' he ⟨h7, -⟩
          have e7 : ρ 7 = (.pointer (some ⟨n7, 0, none⟩)) := h7
          have c0 := (bj.ext he).cell (i := 0) rfl
          have c1 := (bj.ext he).cell (i := 1) rfl
          simp [execOp, evR, e7, c0, c1, vecV, go_sem]
        refine tele_val rfl (vecV b1 b2) (fun _ _ _ => rfl) ?_ ?_
        · rintro ρ w' he ⟨h4, -⟩
          have e4 : ρ 4 = (.pointer (some ⟨n + 1, 0, none⟩)) := h4
          have c0 := (bb.ext he).cell (i := 0) rfl
          have c1 := (bb.ext he).cell (i := 1) rfl
          simp [execOp, evR, e4, c0, c1, vecV, go_sem]
        refine tele_val rfl (vecV a1 a2) (fun _ _ _ => rfl) ?_ ?_
        · rintro ρ w' he ⟨h3, -⟩
          have e3 : ρ 3 = (.pointer (some ⟨n, 0, none⟩)) := h3
          have c0 := (ba.ext he).cell (i := 0) rfl
          have c1 := (ba.ext he).cell (i := 1) rfl
          simp [execOp, evR, e3, c0, c1, vecV, go_sem]
        refine tele_any rfl (isVs [(b1, b2), (a1, a2)]) ?_ ?_
        · rintro ρ w' he hk
          rw [if_pos (show wantedR _ _ _ = true from rfl)]
          obtain ⟨h31, h32, -⟩ := hk
          have e31 : ρ 31 = (vecV b1 b2) := h31
          have e32 : ρ 32 = (vecV a1 a2) := h32
          show monoUpon Try.prog w' _ ((execOp (evR ρ) { dst := _, op := .buildSlice 22 2 #[(0, .tmp 31), (1, .tmp 32)], type := _, pos := _, after := _, guard := _ }).run Try.prog w')
          simp only [execOp, evR, List.map_toArray, List.map_cons, List.map_nil, e31, e32, vecV]
          simp [go_sem]
          exact ⟨ext_alloc _ _, Vs.two _ _ _ _ _ _⟩
        refine tele_call rfl rfl Try.func10 (by kernel_rfl) (isV (vecV (max a1 b1) (max a2 b2))) (fun _ _ _ => rfl) ?_ ?_
        · rintro ρ w' he ⟨h33, -⟩
          have e33 : (isVs [(b1, b2), (a1, a2)]).rel (ρ 33) w' := h33
          simp only [evR, List.map_toArray, List.map_cons, List.map_nil, e33]
          have hj := vecJoin_any _ [(b1, b2), (a1, a2)] _ (show Vs w' _ _ from h33)
          rw [vjoin2 _ _ _ _ (by omega) (by omega)] at hj
          rw [show max b1 a1 = max a1 b1 by omega] at hj
          rw [show max b2 a2 = max a2 b2 by omega] at hj
          refine hj.mono ?_
          rintro e w'' ⟨rfl, he⟩
          exact ⟨_, rfl, he, rfl⟩
        refine tele_val rfl (.bool false) (fun _ _ _ => rfl) ?_ ?_
        · rintro ρ w' he ⟨h30, h34, -⟩
          have e30 : ρ 30 = (vecV (max a1 b1) (max a2 b2)) := h30
          have e34 : ρ 34 = (vecV (max a1 b1) (max a2 b2)) := h34
          simp [execOp, evR, e30, e34, vecV, go_sem]
        refine tele_move rfl (.inl rfl) rfl (isV (.bool false)) (fun ρ w' h => h) ?_
        refine tele_val rfl (vecV (max a1 b1) (max a2 b2)) (fun ρ w' hk => by obtain ⟨_, hg, -⟩ := hk; have eg : ρ 36 = (.bool false) := hg; simp [wantedR, Region.wanted, asBoolR, eg]) ?_ ?_
        · rintro ρ w' he ⟨h7, -⟩
          have e7 : ρ 7 = (.pointer (some ⟨n7, 0, none⟩)) := h7
          have c0 := (bj.ext he).cell (i := 0) rfl
          have c1 := (bj.ext he).cell (i := 1) rfl
          simp [execOp, evR, e7, c0, c1, vecV, go_sem]
        refine tele_val rfl (vecV c1 c2) (fun ρ w' hk => by obtain ⟨_, hg, -⟩ := hk; have eg : ρ 36 = (.bool false) := hg; simp [wantedR, Region.wanted, asBoolR, eg]) ?_ ?_
        · rintro ρ w' he ⟨h5, -⟩
          have e5 : ρ 5 = (.pointer (some ⟨n + 1 + 1, 0, none⟩)) := h5
          have c0 := (bc.ext he).cell (i := 0) rfl
          have c1 := (bc.ext he).cell (i := 1) rfl
          simp [execOp, evR, e5, c0, c1, vecV, go_sem]
        refine tele_any rfl (isVs [((max a1 b1), (max a2 b2)), (c1, c2)]) ?_ ?_
        · rintro ρ w' he hk
          rw [if_pos]
          rotate_left
          · obtain ⟨_, _, hg, -⟩ := hk
            have eg : ρ 36 = (.bool false) := hg
            simp [wantedR, Region.wanted, asBoolR, eg]
          obtain ⟨h37, h38, -⟩ := hk
          have e37 : ρ 37 = (vecV (max a1 b1) (max a2 b2)) := h37
          have e38 : ρ 38 = (vecV c1 c2) := h38
          show monoUpon Try.prog w' _ ((execOp (evR ρ) { dst := _, op := .buildSlice 22 2 #[(0, .tmp 37), (1, .tmp 38)], type := _, pos := _, after := _, guard := _ }).run Try.prog w')
          simp only [execOp, evR, List.map_toArray, List.map_cons, List.map_nil, e37, e38, vecV]
          simp [go_sem]
          exact ⟨ext_alloc _ _, Vs.two _ _ _ _ _ _⟩
        refine tele_call rfl rfl Try.func10 (by kernel_rfl) (isV (vecV (max (max a1 b1) c1) (max (max a2 b2) c2))) (fun ρ w' hk => by obtain ⟨_, hg, -⟩ := hk; have eg : ρ 36 = (.bool false) := hg; simp [wantedR, Region.wanted, asBoolR, eg]) ?_ ?_
        · rintro ρ w' he ⟨h39, -⟩
          have e39 : (isVs [((max a1 b1), (max a2 b2)), (c1, c2)]).rel (ρ 39) w' := h39
          simp only [evR, List.map_toArray, List.map_cons, List.map_nil, e39]
          have hj := vecJoin_any _ [((max a1 b1), (max a2 b2)), (c1, c2)] _ (show Vs w' _ _ from h39)
          rw [vjoin2 _ _ _ _ (by omega) (by omega)] at hj
          refine hj.mono ?_
          rintro e w'' ⟨rfl, he⟩
          exact ⟨_, rfl, he, rfl⟩
        refine tele_val rfl (vecV a1 a2) (fun ρ w' hk => by obtain ⟨_, hg, -⟩ := hk; have eg : ρ 36 = (.bool false) := hg; simp [wantedR, Region.wanted, asBoolR, eg]) ?_ ?_
        · rintro ρ w' he ⟨h3, -⟩
          have e3 : ρ 3 = (.pointer (some ⟨n, 0, none⟩)) := h3
          have c0 := (ba.ext he).cell (i := 0) rfl
          have c1 := (ba.ext he).cell (i := 1) rfl
          simp [execOp, evR, e3, c0, c1, vecV, go_sem]
        refine tele_val rfl (vecV b1 b2) (fun ρ w' hk => by obtain ⟨_, hg, -⟩ := hk; have eg : ρ 36 = (.bool false) := hg; simp [wantedR, Region.wanted, asBoolR, eg]) ?_ ?_
        · rintro ρ w' he ⟨h4, -⟩
          have e4 : ρ 4 = (.pointer (some ⟨n + 1, 0, none⟩)) := h4
          have c0 := (bb.ext he).cell (i := 0) rfl
          have c1 := (bb.ext he).cell (i := 1) rfl
          simp [execOp, evR, e4, c0, c1, vecV, go_sem]
        refine tele_val rfl (vecV c1 c2) (fun ρ w' hk => by obtain ⟨_, hg, -⟩ := hk; have eg : ρ 36 = (.bool false) := hg; simp [wantedR, Region.wanted, asBoolR, eg]) ?_ ?_
        · rintro ρ w' he ⟨h5, -⟩
          have e5 : ρ 5 = (.pointer (some ⟨n + 1 + 1, 0, none⟩)) := h5
          have c0 := (bc.ext he).cell (i := 0) rfl
          have c1 := (bc.ext he).cell (i := 1) rfl
          simp [execOp, evR, e5, c0, c1, vecV, go_sem]
        refine tele_any rfl (isVs [(b1, b2), (c1, c2)]) ?_ ?_
        · rintro ρ w' he hk
          rw [if_pos]
          rotate_left
          · obtain ⟨_, _, hg, -⟩ := hk
            have eg : ρ 36 = (.bool false) := hg
            simp [wantedR, Region.wanted, asBoolR, eg]
          obtain ⟨h42, h43, -⟩ := hk
          have e42 : ρ 42 = (vecV b1 b2) := h42
          have e43 : ρ 43 = (vecV c1 c2) := h43
          show monoUpon Try.prog w' _ ((execOp (evR ρ) { dst := _, op := .buildSlice 22 2 #[(0, .tmp 42), (1, .tmp 43)], type := _, pos := _, after := _, guard := _ }).run Try.prog w')
          simp only [execOp, evR, List.map_toArray, List.map_cons, List.map_nil, e42, e43, vecV]
          simp [go_sem]
          exact ⟨ext_alloc _ _, Vs.two _ _ _ _ _ _⟩
        refine tele_call rfl rfl Try.func10 (by kernel_rfl) (isV (vecV (max b1 c1) (max b2 c2))) (fun ρ w' hk => by obtain ⟨_, hg, -⟩ := hk; have eg : ρ 36 = (.bool false) := hg; simp [wantedR, Region.wanted, asBoolR, eg]) ?_ ?_
        · rintro ρ w' he ⟨h44, -⟩
          have e44 : (isVs [(b1, b2), (c1, c2)]).rel (ρ 44) w' := h44
          simp only [evR, List.map_toArray, List.map_cons, List.map_nil, e44]
          have hj := vecJoin_any _ [(b1, b2), (c1, c2)] _ (show Vs w' _ _ from h44)
          rw [vjoin2 _ _ _ _ (by omega) (by omega)] at hj
          refine hj.mono ?_
          rintro e w'' ⟨rfl, he⟩
          exact ⟨_, rfl, he, rfl⟩
        refine tele_any rfl (isVs [(a1, a2), ((max b1 c1), (max b2 c2))]) ?_ ?_
        · rintro ρ w' he hk
          rw [if_pos]
          rotate_left
          · obtain ⟨_, _, hg, -⟩ := hk
            have eg : ρ 36 = (.bool false) := hg
            simp [wantedR, Region.wanted, asBoolR, eg]
          obtain ⟨h41, h45, -⟩ := hk
          have e41 : ρ 41 = (vecV a1 a2) := h41
          have e45 : ρ 45 = (vecV (max b1 c1) (max b2 c2)) := h45
          show monoUpon Try.prog w' _ ((execOp (evR ρ) { dst := _, op := .buildSlice 22 2 #[(0, .tmp 41), (1, .tmp 45)], type := _, pos := _, after := _, guard := _ }).run Try.prog w')
          simp only [execOp, evR, List.map_toArray, List.map_cons, List.map_nil, e41, e45, vecV]
          simp [go_sem]
          exact ⟨ext_alloc _ _, Vs.two _ _ _ _ _ _⟩
        refine tele_call rfl rfl Try.func10 (by kernel_rfl) (isV (vecV (max (max a1 b1) c1) (max (max a2 b2) c2))) (fun ρ w' hk => by obtain ⟨_, hg, -⟩ := hk; have eg : ρ 36 = (.bool false) := hg; simp [wantedR, Region.wanted, asBoolR, eg]) ?_ ?_
        · rintro ρ w' he ⟨h46, -⟩
          have e46 : (isVs [(a1, a2), ((max b1 c1), (max b2 c2))]).rel (ρ 46) w' := h46
          simp only [evR, List.map_toArray, List.map_cons, List.map_nil, e46]
          have hj := vecJoin_any _ [(a1, a2), ((max b1 c1), (max b2 c2))] _ (show Vs w' _ _ from h46)
          rw [vjoin2 _ _ _ _ (by omega) (by omega)] at hj
          rw [show max a1 (max b1 c1) = max (max a1 b1) c1 by omega] at hj
          rw [show max a2 (max b2 c2) = max (max a2 b2) c2 by omega] at hj
          refine hj.mono ?_
          rintro e w'' ⟨rfl, he⟩
          exact ⟨_, rfl, he, rfl⟩
        refine tele_val rfl (.bool false) (fun ρ w' hk => by obtain ⟨_, _, hg, -⟩ := hk; have eg : ρ 36 = (.bool false) := hg; simp [wantedR, Region.wanted, asBoolR, eg]) ?_ ?_
        · rintro ρ w' he ⟨h40, h47, -⟩
          have e40 : ρ 40 = (vecV (max (max a1 b1) c1) (max (max a2 b2) c2)) := h40
          have e47 : ρ 47 = (vecV (max (max a1 b1) c1) (max (max a2 b2) c2)) := h47
          simp [execOp, evR, e40, e47, vecV, go_sem]
        refine tele_val rfl (.bool false) (fun _ _ _ => rfl) ?_ ?_
        · rintro ρ w' he ⟨h36, h48, -⟩
          have e36 : ρ 36 = (.bool false) := h36
          have e48 : ρ 48 = (.bool false) := h48
          simp [execOp, evR, e36, e48, go_sem]
        refine tele_move rfl (.inl rfl) rfl (isV (.bool false)) (fun ρ w' h => h) ?_
        refine tele_val rfl (vecV a1 a2) (fun ρ w' hk => by obtain ⟨_, hg, -⟩ := hk; have eg : ρ 50 = (.bool false) := hg; simp [wantedR, Region.wanted, asBoolR, eg]) ?_ ?_
        · rintro ρ w' he ⟨h3, -⟩
          have e3 : ρ 3 = (.pointer (some ⟨n, 0, none⟩)) := h3
          have c0 := (ba.ext he).cell (i := 0) rfl
          have c1 := (ba.ext he).cell (i := 1) rfl
          simp [execOp, evR, e3, c0, c1, vecV, go_sem]
        refine tele_val rfl (vecV a1 a2) (fun ρ w' hk => by obtain ⟨_, hg, -⟩ := hk; have eg : ρ 50 = (.bool false) := hg; simp [wantedR, Region.wanted, asBoolR, eg]) ?_ ?_
        · rintro ρ w' he ⟨h3, -⟩
          have e3 : ρ 3 = (.pointer (some ⟨n, 0, none⟩)) := h3
          have c0 := (ba.ext he).cell (i := 0) rfl
          have c1 := (ba.ext he).cell (i := 1) rfl
          simp [execOp, evR, e3, c0, c1, vecV, go_sem]
        refine tele_any rfl (isVs [(a1, a2), (a1, a2)]) ?_ ?_
        · rintro ρ w' he hk
          rw [if_pos]
          rotate_left
          · obtain ⟨_, _, hg, -⟩ := hk
            have eg : ρ 50 = (.bool false) := hg
            simp [wantedR, Region.wanted, asBoolR, eg]
          obtain ⟨h51, h52, -⟩ := hk
          have e51 : ρ 51 = (vecV a1 a2) := h51
          have e52 : ρ 52 = (vecV a1 a2) := h52
          show monoUpon Try.prog w' _ ((execOp (evR ρ) { dst := _, op := .buildSlice 22 2 #[(0, .tmp 51), (1, .tmp 52)], type := _, pos := _, after := _, guard := _ }).run Try.prog w')
          simp only [execOp, evR, List.map_toArray, List.map_cons, List.map_nil, e51, e52, vecV]
          simp [go_sem]
          exact ⟨ext_alloc _ _, Vs.two _ _ _ _ _ _⟩
        refine tele_call rfl rfl Try.func10 (by kernel_rfl) (isV (vecV a1 a2)) (fun ρ w' hk => by obtain ⟨_, hg, -⟩ := hk; have eg : ρ 50 = (.bool false) := hg; simp [wantedR, Region.wanted, asBoolR, eg]) ?_ ?_
        · rintro ρ w' he ⟨h53, -⟩
          have e53 : (isVs [(a1, a2), (a1, a2)]).rel (ρ 53) w' := h53
          simp only [evR, List.map_toArray, List.map_cons, List.map_nil, e53]
          have hj := vecJoin_any _ [(a1, a2), (a1, a2)] _ (show Vs w' _ _ from h53)
          rw [vjoin2 _ _ _ _ (by omega) (by omega)] at hj
          rw [show max a1 a1 = a1 by omega] at hj
          rw [show max a2 a2 = a2 by omega] at hj
          refine hj.mono ?_
          rintro e w'' ⟨rfl, he⟩
          exact ⟨_, rfl, he, rfl⟩
        refine tele_val rfl (vecV a1 a2) (fun ρ w' hk => by obtain ⟨_, hg, -⟩ := hk; have eg : ρ 50 = (.bool false) := hg; simp [wantedR, Region.wanted, asBoolR, eg]) ?_ ?_
        · rintro ρ w' he ⟨h3, -⟩
          have e3 : ρ 3 = (.pointer (some ⟨n, 0, none⟩)) := h3
          have c0 := (ba.ext he).cell (i := 0) rfl
          have c1 := (ba.ext he).cell (i := 1) rfl
          simp [execOp, evR, e3, c0, c1, vecV, go_sem]
        refine tele_val rfl (.bool false) (fun ρ w' hk => by obtain ⟨_, _, hg, -⟩ := hk; have eg : ρ 50 = (.bool false) := hg; simp [wantedR, Region.wanted, asBoolR, eg]) ?_ ?_
        · rintro ρ w' he ⟨h54, h55, -⟩
          have e54 : ρ 54 = (vecV a1 a2) := h54
          have e55 : ρ 55 = (vecV a1 a2) := h55
          simp [execOp, evR, e54, e55, vecV, go_sem]
        refine tele_val rfl (.bool false) (fun _ _ _ => rfl) ?_ ?_
        · rintro ρ w' he ⟨h50, h56, -⟩
          have e50 : ρ 50 = (.bool false) := h50
          have e56 : ρ 56 = (.bool false) := h56
          simp [execOp, evR, e50, e56, go_sem]
        refine tele_move rfl (.inl rfl) rfl (isV (.bool false)) (fun ρ w' h => h) ?_
        refine tele_val rfl (vecV (max a1 b1) (max a2 b2)) (fun ρ w' hk => by obtain ⟨_, hg, -⟩ := hk; have eg : ρ 58 = (.bool false) := hg; simp [wantedR, Region.wanted, asBoolR, eg]) ?_ ?_
        · rintro ρ w' he ⟨h7, -⟩
          have e7 : ρ 7 = (.pointer (some ⟨n7, 0, none⟩)) := h7
          have c0 := (bj.ext he).cell (i := 0) rfl
          have c1 := (bj.ext he).cell (i := 1) rfl
          simp [execOp, evR, e7, c0, c1, vecV, go_sem]
        refine tele_val rfl (vecV a1 a2) (fun ρ w' hk => by obtain ⟨_, hg, -⟩ := hk; have eg : ρ 58 = (.bool false) := hg; simp [wantedR, Region.wanted, asBoolR, eg]) ?_ ?_
        · rintro ρ w' he ⟨h3, -⟩
          have e3 : ρ 3 = (.pointer (some ⟨n, 0, none⟩)) := h3
          have c0 := (ba.ext he).cell (i := 0) rfl
          have c1 := (ba.ext he).cell (i := 1) rfl
          simp [execOp, evR, e3, c0, c1, vecV, go_sem]
        refine tele_call rfl rfl Try.func14 (by kernel_rfl) (isV (.bool true)) (fun ρ w' hk => by obtain ⟨_, _, hg, -⟩ := hk; have eg : ρ 58 = (.bool false) := hg; simp [wantedR, Region.wanted, asBoolR, eg]) ?_ ?_
        · rintro ρ w' he ⟨h59, h60, -⟩
          have e59 : ρ 59 = (vecV (max a1 b1) (max a2 b2)) := h59
          have e60 : ρ 60 = (vecV a1 a2) := h60
          simp only [evR, List.map_toArray, List.map_cons, List.map_nil, e59, e60]
          refine (vecCovers_any (max a1 b1) (max a2 b2) a1 a2 _).mono ?_
          rintro e w'' ⟨rfl, he⟩
          exact ⟨_, rfl, he, by show Value.bool _ = Value.bool true; congr 1; simp [vcovers]; omega⟩
        refine tele_val rfl (.bool false) (fun ρ w' hk => by obtain ⟨_, hg, -⟩ := hk; have eg : ρ 58 = (.bool false) := hg; simp [wantedR, Region.wanted, asBoolR, eg]) ?_ ?_
        · rintro ρ w' he ⟨h61, -⟩
          have e61 : ρ 61 = (.bool true) := h61
          simp [execOp, evR, e61, go_sem]
        refine tele_val rfl (.bool false) (fun _ _ _ => rfl) ?_ ?_
        · rintro ρ w' he ⟨h58, h62, -⟩
          have e58 : ρ 58 = (.bool false) := h58
          have e62 : ρ 62 = (.bool false) := h62
          simp [execOp, evR, e58, e62, go_sem]
        refine tele_move rfl (.inl rfl) rfl (isV (.bool false)) (fun ρ w' h => h) ?_
        refine tele_val rfl (vecV (max a1 b1) (max a2 b2)) (fun ρ w' hk => by obtain ⟨_, hg, -⟩ := hk; have eg : ρ 64 = (.bool false) := hg; simp [wantedR, Region.wanted, asBoolR, eg]) ?_ ?_
        · rintro ρ w' he ⟨h7, -⟩
          have e7 : ρ 7 = (.pointer (some ⟨n7, 0, none⟩)) := h7
          have c0 := (bj.ext he).cell (i := 0) rfl
          have c1 := (bj.ext he).cell (i := 1) rfl
          simp [execOp, evR, e7, c0, c1, vecV, go_sem]
        refine tele_val rfl (vecV b1 b2) (fun ρ w' hk => by obtain ⟨_, hg, -⟩ := hk; have eg : ρ 64 = (.bool false) := hg; simp [wantedR, Region.wanted, asBoolR, eg]) ?_ ?_
        · rintro ρ w' he ⟨h4, -⟩
          have e4 : ρ 4 = (.pointer (some ⟨n + 1, 0, none⟩)) := h4
          have c0 := (bb.ext he).cell (i := 0) rfl
          have c1 := (bb.ext he).cell (i := 1) rfl
          simp [execOp, evR, e4, c0, c1, vecV, go_sem]
        refine tele_call rfl rfl Try.func14 (by kernel_rfl) (isV (.bool true)) (fun ρ w' hk => by obtain ⟨_, _, hg, -⟩ := hk; have eg : ρ 64 = (.bool false) := hg; simp [wantedR, Region.wanted, asBoolR, eg]) ?_ ?_
        · rintro ρ w' he ⟨h65, h66, -⟩
          have e65 : ρ 65 = (vecV (max a1 b1) (max a2 b2)) := h65
          have e66 : ρ 66 = (vecV b1 b2) := h66
          simp only [evR, List.map_toArray, List.map_cons, List.map_nil, e65, e66]
          refine (vecCovers_any (max a1 b1) (max a2 b2) b1 b2 _).mono ?_
          rintro e w'' ⟨rfl, he⟩
          exact ⟨_, rfl, he, by show Value.bool _ = Value.bool true; congr 1; simp [vcovers]; omega⟩
        refine tele_val rfl (.bool false) (fun ρ w' hk => by obtain ⟨_, hg, -⟩ := hk; have eg : ρ 64 = (.bool false) := hg; simp [wantedR, Region.wanted, asBoolR, eg]) ?_ ?_
        · rintro ρ w' he ⟨h67, -⟩
          have e67 : ρ 67 = (.bool true) := h67
          simp [execOp, evR, e67, go_sem]
        refine tele_val rfl (.bool false) (fun _ _ _ => rfl) ?_ ?_
        · rintro ρ w' he ⟨h64, h68, -⟩
          have e64 : ρ 64 = (.bool false) := h64
          have e68 : ρ 68 = (.bool false) := h68
          simp [execOp, evR, e64, e68, go_sem]
        refine tele_move rfl (.inl rfl) rfl (isV (.bool false)) (fun ρ w' h => h) ?_
        refine tele_val rfl (vecV a1 a2) (fun ρ w' hk => by obtain ⟨_, hg, -⟩ := hk; have eg : ρ 70 = (.bool false) := hg; simp [wantedR, Region.wanted, asBoolR, eg]) ?_ ?_
        · rintro ρ w' he ⟨h3, -⟩
          have e3 : ρ 3 = (.pointer (some ⟨n, 0, none⟩)) := h3
          have c0 := (ba.ext he).cell (i := 0) rfl
          have c1 := (ba.ext he).cell (i := 1) rfl
          simp [execOp, evR, e3, c0, c1, vecV, go_sem]
        refine tele_val rfl (vecV (min a1 b1) (min a2 b2)) (fun ρ w' hk => by obtain ⟨_, hg, -⟩ := hk; have eg : ρ 70 = (.bool false) := hg; simp [wantedR, Region.wanted, asBoolR, eg]) ?_ ?_
        · rintro ρ w' he ⟨h8, -⟩
          have e8 : ρ 8 = (.pointer (some ⟨n8, 0, none⟩)) := h8
          have c0 := (bm.ext he).cell (i := 0) rfl
          have c1 := (bm.ext he).cell (i := 1) rfl
          simp [execOp, evR, e8, c0, c1, vecV, go_sem]
        refine tele_call rfl rfl Try.func14 (by kernel_rfl) (isV (.bool true)) (fun ρ w' hk => by obtain ⟨_, _, hg, -⟩ := hk; have eg : ρ 70 = (.bool false) := hg; simp [wantedR, Region.wanted, asBoolR, eg]) ?_ ?_
        · rintro ρ w' he ⟨h71, h72, -⟩
          have e71 : ρ 71 = (vecV a1 a2) := h71
          have e72 : ρ 72 = (vecV (min a1 b1) (min a2 b2)) := h72
          simp only [evR, List.map_toArray, List.map_cons, List.map_nil, e71, e72]
          refine (vecCovers_any a1 a2 (min a1 b1) (min a2 b2) _).mono ?_
          rintro e w'' ⟨rfl, he⟩
          exact ⟨_, rfl, he, by show Value.bool _ = Value.bool true; congr 1; simp [vcovers]; omega⟩
        refine tele_val rfl (.bool false) (fun ρ w' hk => by obtain ⟨_, hg, -⟩ := hk; have eg : ρ 70 = (.bool false) := hg; simp [wantedR, Region.wanted, asBoolR, eg]) ?_ ?_
        · rintro ρ w' he ⟨h73, -⟩
          have e73 : ρ 73 = (.bool true) := h73
          simp [execOp, evR, e73, go_sem]
        refine tele_val rfl (.bool false) (fun _ _ _ => rfl) ?_ ?_
        · rintro ρ w' he ⟨h70, h74, -⟩
          have e70 : ρ 70 = (.bool false) := h70
          have e74 : ρ 74 = (.bool false) := h74
          simp [execOp, evR, e70, e74, go_sem]
        refine tele_move rfl (.inl rfl) rfl (isV (.bool false)) (fun ρ w' h => h) ?_
        refine tele_val rfl (vecV b1 b2) (fun ρ w' hk => by obtain ⟨_, hg, -⟩ := hk; have eg : ρ 76 = (.bool false) := hg; simp [wantedR, Region.wanted, asBoolR, eg]) ?_ ?_
        · rintro ρ w' he ⟨h4, -⟩
          have e4 : ρ 4 = (.pointer (some ⟨n + 1, 0, none⟩)) := h4
          have c0 := (bb.ext he).cell (i := 0) rfl
          have c1 := (bb.ext he).cell (i := 1) rfl
          simp [execOp, evR, e4, c0, c1, vecV, go_sem]
        refine tele_val rfl (vecV (min a1 b1) (min a2 b2)) (fun ρ w' hk => by obtain ⟨_, hg, -⟩ := hk; have eg : ρ 76 = (.bool false) := hg; simp [wantedR, Region.wanted, asBoolR, eg]) ?_ ?_
        · rintro ρ w' he ⟨h8, -⟩
          have e8 : ρ 8 = (.pointer (some ⟨n8, 0, none⟩)) := h8
          have c0 := (bm.ext he).cell (i := 0) rfl
          have c1 := (bm.ext he).cell (i := 1) rfl
          simp [execOp, evR, e8, c0, c1, vecV, go_sem]
        refine tele_call rfl rfl Try.func14 (by kernel_rfl) (isV (.bool true)) (fun ρ w' hk => by obtain ⟨_, _, hg, -⟩ := hk; have eg : ρ 76 = (.bool false) := hg; simp [wantedR, Region.wanted, asBoolR, eg]) ?_ ?_
        · rintro ρ w' he ⟨h77, h78, -⟩
          have e77 : ρ 77 = (vecV b1 b2) := h77
          have e78 : ρ 78 = (vecV (min a1 b1) (min a2 b2)) := h78
          simp only [evR, List.map_toArray, List.map_cons, List.map_nil, e77, e78]
          refine (vecCovers_any b1 b2 (min a1 b1) (min a2 b2) _).mono ?_
          rintro e w'' ⟨rfl, he⟩
          exact ⟨_, rfl, he, by show Value.bool _ = Value.bool true; congr 1; simp [vcovers]; omega⟩
        refine tele_val rfl (.bool false) (fun ρ w' hk => by obtain ⟨_, hg, -⟩ := hk; have eg : ρ 76 = (.bool false) := hg; simp [wantedR, Region.wanted, asBoolR, eg]) ?_ ?_
        · rintro ρ w' he ⟨h79, -⟩
          have e79 : ρ 79 = (.bool true) := h79
          simp [execOp, evR, e79, go_sem]
        refine tele_val rfl (.bool false) (fun _ _ _ => rfl) ?_ ?_
        · rintro ρ w' he ⟨h76, h80, -⟩
          have e76 : ρ 76 = (.bool false) := h76
          have e80 : ρ 80 = (.bool false) := h80
          simp [execOp, evR, e76, e80, go_sem]
        refine tele_nil ?_
        rintro ρ w' hext ⟨f81, f80, f79, f78, f77, f76, f75, f74, f73, f72, f71, f70, f69, f68, f67, f66, f65, f64, f63, f62, f61, f60, f59, f58, f57, f56, f55, f54, f53, f52, f51, f50, f49, f48, f47, f46, f45, f44, f43, f42, f41, f40, f39, f38, f37, f36, f35, f34, f33, f32, f31, f30, -⟩
        replace f30 : ρ 30 = (vecV (max a1 b1) (max a2 b2)) := f30
        replace f31 : ρ 31 = (vecV b1 b2) := f31
        replace f32 : ρ 32 = (vecV a1 a2) := f32
        replace f33 : (isVs [(b1, b2), (a1, a2)]).rel (ρ 33) w' := f33
        replace f34 : ρ 34 = (vecV (max a1 b1) (max a2 b2)) := f34
        replace f35 : ρ 35 = (.bool false) := f35
        replace f36 : ρ 36 = (.bool false) := f36
        replace f37 : ρ 37 = (vecV (max a1 b1) (max a2 b2)) := f37
        replace f38 : ρ 38 = (vecV c1 c2) := f38
        replace f39 : (isVs [((max a1 b1), (max a2 b2)), (c1, c2)]).rel (ρ 39) w' := f39
        replace f40 : ρ 40 = (vecV (max (max a1 b1) c1) (max (max a2 b2) c2)) := f40
        replace f41 : ρ 41 = (vecV a1 a2) := f41
        replace f42 : ρ 42 = (vecV b1 b2) := f42
        replace f43 : ρ 43 = (vecV c1 c2) := f43
        replace f44 : (isVs [(b1, b2), (c1, c2)]).rel (ρ 44) w' := f44
        replace f45 : ρ 45 = (vecV (max b1 c1) (max b2 c2)) := f45
        replace f46 : (isVs [(a1, a2), ((max b1 c1), (max b2 c2))]).rel (ρ 46) w' := f46
        replace f47 : ρ 47 = (vecV (max (max a1 b1) c1) (max (max a2 b2) c2)) := f47
        replace f48 : ρ 48 = (.bool false) := f48
        replace f49 : ρ 49 = (.bool false) := f49
        replace f50 : ρ 50 = (.bool false) := f50
        replace f51 : ρ 51 = (vecV a1 a2) := f51
        replace f52 : ρ 52 = (vecV a1 a2) := f52
        replace f53 : (isVs [(a1, a2), (a1, a2)]).rel (ρ 53) w' := f53
        replace f54 : ρ 54 = (vecV a1 a2) := f54
        replace f55 : ρ 55 = (vecV a1 a2) := f55
        replace f56 : ρ 56 = (.bool false) := f56
        replace f57 : ρ 57 = (.bool false) := f57
        replace f58 : ρ 58 = (.bool false) := f58
        replace f59 : ρ 59 = (vecV (max a1 b1) (max a2 b2)) := f59
        replace f60 : ρ 60 = (vecV a1 a2) := f60
        replace f61 : ρ 61 = (.bool true) := f61
        replace f62 : ρ 62 = (.bool false) := f62
        replace f63 : ρ 63 = (.bool false) := f63
        replace f64 : ρ 64 = (.bool false) := f64
        replace f65 : ρ 65 = (vecV (max a1 b1) (max a2 b2)) := f65
        replace f66 : ρ 66 = (vecV b1 b2) := f66
        replace f67 : ρ 67 = (.bool true) := f67
        replace f68 : ρ 68 = (.bool false) := f68
        replace f69 : ρ 69 = (.bool false) := f69
        replace f70 : ρ 70 = (.bool false) := f70
        replace f71 : ρ 71 = (vecV a1 a2) := f71
        replace f72 : ρ 72 = (vecV (min a1 b1) (min a2 b2)) := f72
        replace f73 : ρ 73 = (.bool true) := f73
        replace f74 : ρ 74 = (.bool false) := f74
        replace f75 : ρ 75 = (.bool false) := f75
        replace f76 : ρ 76 = (.bool false) := f76
        replace f77 : ρ 77 = (vecV b1 b2) := f77
        replace f78 : ρ 78 = (vecV (min a1 b1) (min a2 b2)) := f78
        replace f79 : ρ 79 = (.bool true) := f79
        replace f80 : ρ 80 = (.bool false) := f80
        replace f81 : ρ 81 = (.bool false) := f81
        simp only [puts, Act.put, List.setIfInBounds_toArray, List.set_cons_zero, List.set_cons_succ]
        rw [f81]
        clear f30 f31 f32 f33 f34 f35 f36 f37 f38 f39 f40 f41 f42 f43 f44 f45 f46 f47 f48 f49 f50 f51 f52 f53 f54 f55 f56 f57 f58 f59 f60 f61 f62 f63 f64 f65 f66 f67 f68 f69 f70 f71 f72 f73 f74 f75 f76 f77 f78 f79 f80 f81
        replace ba := ba.ext hext
        replace bb := bb.ext hext
        replace bc := bc.ext hext
        replace bj := bj.ext hext
        replace bm := bm.ext hext
        replace hx := Ext.trans hx hext
        clear hext
        have bac0 := ba.cell (i := 0) rfl
        have baz0 := ba.thaw 0
        have bac1 := ba.cell (i := 1) rfl
        have baz1 := ba.thaw 1
        have bbc0 := bb.cell (i := 0) rfl
        have bbz0 := bb.thaw 0
        have bbc1 := bb.cell (i := 1) rfl
        have bbz1 := bb.thaw 1
        have bcc0 := bc.cell (i := 0) rfl
        have bcz0 := bc.thaw 0
        have bcc1 := bc.cell (i := 1) rfl
        have bcz1 := bc.thaw 1
        have bjc0 := bj.cell (i := 0) rfl
        have bjz0 := bj.thaw 0
        have bjc1 := bj.cell (i := 1) rfl
        have bjz1 := bj.thaw 1
        have bmc0 := bm.cell (i := 0) rfl
        have bmz0 := bm.thaw 0
        have bmc1 := bm.cell (i := 1) rfl
        have bmz1 := bm.thaw 1
        go_wp2_with fail
        refine (vecCovers_any c1 c2 a1 a2 _).mono ?_
        rintro e wk ⟨rfl, he⟩
        replace ba := ba.ext he
        replace bb := bb.ext he
        replace bc := bc.ext he
        replace bj := bj.ext he
        replace bm := bm.ext he
        replace hx := Ext.trans hx he
        clear bac0 bac1 baz0 baz1 bbc0 bbc1 bbz0 bbz1 bcc0 bcc1 bcz0 bcz1 bjc0 bjc1 bjz0 bjz1 bmc0 bmc1 bmz0 bmz1
        clear he
        have bac0 := ba.cell (i := 0) rfl
        have baz0 := ba.thaw 0
        have bac1 := ba.cell (i := 1) rfl
        have baz1 := ba.thaw 1
        have bbc0 := bb.cell (i := 0) rfl
        have bbz0 := bb.thaw 0
        have bbc1 := bb.cell (i := 1) rfl
        have bbz1 := bb.thaw 1
        have bcc0 := bc.cell (i := 0) rfl
        have bcz0 := bc.thaw 0
        have bcc1 := bc.cell (i := 1) rfl
        have bcz1 := bc.thaw 1
        have bjc0 := bj.cell (i := 0) rfl
        have bjz0 := bj.thaw 0
        have bjc1 := bj.cell (i := 1) rfl
        have bjz1 := bj.thaw 1
        have bmc0 := bm.cell (i := 0) rfl
        have bmz0 := bm.thaw 0
        have bmc1 := bm.cell (i := 1) rfl
        have bmz1 := bm.thaw 1
        cases hC1 : vcovers c1 c2 a1 a2
        · go_wp2_with fail
          refine (vecCovers_any a1 a2 c1 c2 _).mono ?_
          rintro e wk ⟨rfl, he⟩
          replace ba := ba.ext he
          replace bb := bb.ext he
          replace bc := bc.ext he
          replace bj := bj.ext he
          replace bm := bm.ext he
          replace hx := Ext.trans hx he
          clear bac0 bac1 baz0 baz1 bbc0 bbc1 bbz0 bbz1 bcc0 bcc1 bcz0 bcz1 bjc0 bjc1 bjz0 bjz1 bmc0 bmc1 bmz0 bmz1
          clear he
          have bac0 := ba.cell (i := 0) rfl
          have baz0 := ba.thaw 0
          have bac1 := ba.cell (i := 1) rfl
          have baz1 := ba.thaw 1
          have bbc0 := bb.cell (i := 0) rfl
          have bbz0 := bb.thaw 0
          have bbc1 := bb.cell (i := 1) rfl
          have bbz1 := bb.thaw 1
          have bcc0 := bc.cell (i := 0) rfl
          have bcz0 := bc.thaw 0
          have bcc1 := bc.cell (i := 1) rfl
          have bcz1 := bc.thaw 1
          have bjc0 := bj.cell (i := 0) rfl
          have bjz0 := bj.thaw 0
          have bjc1 := bj.cell (i := 1) rfl
          have bjz1 := bj.thaw 1
          have bmc0 := bm.cell (i := 0) rfl
          have bmz0 := bm.thaw 0
          have bmc1 := bm.cell (i := 1) rfl
          have bmz1 := bm.thaw 1
          cases hD1 : vcovers a1 a2 c1 c2
          · go_wp2_with fail
            clear bac0 bac1 baz0 baz1 bbc0 bbc1 bbz0 bbz1 bcc0 bcc1 bcz0 bcz1 bjc0 bjc1 bjz0 bjz1 bmc0 bmc1 bmz0 bmz1
            refine wp_region_mono (by kernel_rfl) (by kernel_rfl) ?_
            refine tele_val rfl (vecV a1 a2) (fun _ _ _ => rfl) ?_ ?_
            · rintro ρ w' he ⟨h3, -⟩
              have e3 : ρ 3 = (.pointer (some ⟨n, 0, none⟩)) := h3
              have c0 := (ba.ext he).cell (i := 0) rfl
              have c1 := (ba.ext he).cell (i := 1) rfl
              simp [execOp, evR, e3, c0, c1, vecV, go_sem]
            refine tele_val rfl (vecV (min a1 b1) (min a2 b2)) (fun _ _ _ => rfl) ?_ ?_
            · rintro ρ w' he ⟨h8, -⟩
              have e8 : ρ 8 = (.pointer (some ⟨n8, 0, none⟩)) := h8
              have c0 := (bm.ext he).cell (i := 0) rfl
              have c1 := (bm.ext he).cell (i := 1) rfl
              simp [execOp, evR, e8, c0, c1, vecV, go_sem]
            refine tele_any rfl (isVs [(a1, a2), ((min a1 b1), (min a2 b2))]) ?_ ?_
            · rintro ρ w' he hk
              rw [if_pos (show wantedR _ _ _ = true from rfl)]
              obtain ⟨h112, h113, -⟩ := hk
              have e112 : ρ 112 = (vecV a1 a2) := h112
              have e113 : ρ 113 = (vecV (min a1 b1) (min a2 b2)) := h113
              show monoUpon Try.prog w' _ ((execOp (evR ρ) { dst := _, op := .buildSlice 22 2 #[(0, .tmp 112), (1, .tmp 113)], type := _, pos := _, after := _, guard := _ }).run Try.prog w')
              simp only [execOp, evR, List.map_toArray, List.map_cons, List.map_nil, e112, e113, vecV]
              simp [go_sem]
              exact ⟨ext_alloc _ _, Vs.two _ _ _ _ _ _⟩
            refine tele_call rfl rfl Try.func10 (by kernel_rfl) (isV (vecV a1 a2)) (fun _ _ _ => rfl) ?_ ?_
            · rintro ρ w' he ⟨h114, -⟩
              have e114 : (isVs [(a1, a2), ((min a1 b1), (min a2 b2))]).rel (ρ 114) w' := h114
              simp only [evR, List.map_toArray, List.map_cons, List.map_nil, e114]
              have hj := vecJoin_any _ [(a1, a2), ((min a1 b1), (min a2 b2))] _ (show Vs w' _ _ from h114)
              rw [vjoin2 _ _ _ _ (by omega) (by omega)] at hj
              rw [show max a1 (min a1 b1) = a1 by omega] at hj
              rw [show max a2 (min a2 b2) = a2 by omega] at hj
              refine hj.mono ?_
              rintro e w'' ⟨rfl, he⟩
              exact ⟨_, rfl, he, rfl⟩
            refine tele_val rfl (vecV a1 a2) (fun _ _ _ => rfl) ?_ ?_
            · rintro ρ w' he ⟨h3, -⟩
              have e3 : ρ 3 = (.pointer (some ⟨n, 0, none⟩)) := h3
              have c0 := (ba.ext he).cell (i := 0) rfl
              have c1 := (ba.ext he).cell (i := 1) rfl
              simp [execOp, evR, e3, c0, c1, vecV, go_sem]
            refine tele_val rfl (.bool true) (fun _ _ _ => rfl) ?_ ?_
            · rintro ρ w' he ⟨h115, h116, -⟩
              have e115 : ρ 115 = (vecV a1 a2) := h115
              have e116 : ρ 116 = (vecV a1 a2) := h116
              simp [execOp, evR, e115, e116, vecV, go_sem]
            refine tele_move rfl (.inl rfl) rfl (isV (.bool true)) (fun ρ w' h => h) ?_
            refine tele_val rfl (vecV a1 a2) (fun ρ w' hk => by obtain ⟨_, hg, -⟩ := hk; have eg : ρ 118 = (.bool true) := hg; simp [wantedR, Region.wanted, asBoolR, eg]) ?_ ?_
            · rintro ρ w' he ⟨h3, -⟩
              have e3 : ρ 3 = (.pointer (some ⟨n, 0, none⟩)) := h3
              have c0 := (ba.ext he).cell (i := 0) rfl
              have c1 := (ba.ext he).cell (i := 1) rfl
              simp [execOp, evR, e3, c0, c1, vecV, go_sem]
            refine tele_val rfl (vecV (max a1 b1) (max a2 b2)) (fun ρ w' hk => by obtain ⟨_, hg, -⟩ := hk; have eg : ρ 118 = (.bool true) := hg; simp [wantedR, Region.wanted, asBoolR, eg]) ?_ ?_
            · rintro ρ w' he ⟨h7, -⟩
              have e7 : ρ 7 = (.pointer (some ⟨n7, 0, none⟩)) := h7
              have c0 := (bj.ext he).cell (i := 0) rfl
              have c1 := (bj.ext he).cell (i := 1) rfl
              simp [execOp, evR, e7, c0, c1, vecV, go_sem]
            refine tele_call rfl rfl Try.func18 (by kernel_rfl) (isV (vecV a1 a2)) (fun ρ w' hk => by obtain ⟨_, _, hg, -⟩ := hk; have eg : ρ 118 = (.bool true) := hg; simp [wantedR, Region.wanted, asBoolR, eg]) ?_ ?_
            · rintro ρ w' he ⟨h119, h120, -⟩
              have e119 : ρ 119 = (vecV a1 a2) := h119
              have e120 : ρ 120 = (vecV (max a1 b1) (max a2 b2)) := h120
              simp only [evR, List.map_toArray, List.map_cons, List.map_nil, e119, e120]
              have hj := vecMeet_any a1 a2 (max a1 b1) (max a2 b2) w'
              rw [show min a1 (max a1 b1) = a1 by omega] at hj
              rw [show min a2 (max a2 b2) = a2 by omega] at hj
              refine hj.mono ?_
              rintro e w'' ⟨rfl, he⟩
              exact ⟨_, rfl, he, rfl⟩
            refine tele_val rfl (vecV a1 a2) (fun ρ w' hk => by obtain ⟨_, hg, -⟩ := hk; have eg : ρ 118 = (.bool true) := hg; simp [wantedR, Region.wanted, asBoolR, eg]) ?_ ?_
            · rintro ρ w' he ⟨h3, -⟩
              have e3 : ρ 3 = (.pointer (some ⟨n, 0, none⟩)) := h3
              have c0 := (ba.ext he).cell (i := 0) rfl
              have c1 := (ba.ext he).cell (i := 1) rfl
              simp [execOp, evR, e3, c0, c1, vecV, go_sem]
            refine tele_val rfl (.bool true) (fun ρ w' hk => by obtain ⟨_, _, hg, -⟩ := hk; have eg : ρ 118 = (.bool true) := hg; simp [wantedR, Region.wanted, asBoolR, eg]) ?_ ?_
            · rintro ρ w' he ⟨h121, h122, -⟩
              have e121 : ρ 121 = (vecV a1 a2) := h121
              have e122 : ρ 122 = (vecV a1 a2) := h122
              simp [execOp, evR, e121, e122, vecV, go_sem]
            refine tele_val rfl (.bool true) (fun _ _ _ => rfl) ?_ ?_
            · rintro ρ w' he ⟨h118, h123, -⟩
              have e118 : ρ 118 = (.bool true) := h118
              have e123 : ρ 123 = (.bool true) := h123
              simp [execOp, evR, e118, e123, go_sem]
            refine tele_move rfl (.inl rfl) rfl (isV (.bool true)) (fun ρ w' h => h) ?_
            refine tele_call rfl rfl Try.func9 (by kernel_rfl) (isV (.bool true)) (fun ρ w' hk => by obtain ⟨hg, -⟩ := hk; have eg : ρ 125 = (.bool true) := hg; simp [wantedR, Region.wanted, asBoolR, eg]) ?_ ?_
            · rintro ρ w' he -
              simp only [evR, List.map_toArray, List.map_cons, List.map_nil]
              refine (lives_any _).mono ?_
              rintro e w'' ⟨rfl, he⟩
              exact ⟨_, rfl, he, rfl⟩
            refine tele_val rfl (.bool true) (fun _ _ _ => rfl) ?_ ?_
            · rintro ρ w' he ⟨h125, h126, -⟩
              have e125 : ρ 125 = (.bool true) := h125
              have e126 : ρ 126 = (.bool true) := h126
              simp [execOp, evR, e125, e126, go_sem]
            refine tele_move rfl (.inr rfl) rfl (isV (.bool true)) (fun ρ w' h => h) ?_
            refine tele_nil ?_
            rintro ρ w' hext ⟨f6, f127, f126, f125, f124, f123, f122, f121, f120, f119, f118, f117, f116, f115, f114, f113, f112, -⟩
            replace f112 : ρ 112 = (vecV a1 a2) := f112
            replace f113 : ρ 113 = (vecV (min a1 b1) (min a2 b2)) := f113
            replace f114 : (isVs [(a1, a2), ((min a1 b1), (min a2 b2))]).rel (ρ 114) w' := f114
            replace f115 : ρ 115 = (vecV a1 a2) := f115
            replace f116 : ρ 116 = (vecV a1 a2) := f116
            replace f117 : ρ 117 = (.bool true) := f117
            replace f118 : ρ 118 = (.bool true) := f118
            replace f119 : ρ 119 = (vecV a1 a2) := f119
            replace f120 : ρ 120 = (vecV (max a1 b1) (max a2 b2)) := f120
            replace f121 : ρ 121 = (vecV a1 a2) := f121
            replace f122 : ρ 122 = (vecV a1 a2) := f122
            replace f123 : ρ 123 = (.bool true) := f123
            replace f124 : ρ 124 = (.bool true) := f124
            replace f125 : ρ 125 = (.bool true) := f125
            replace f126 : ρ 126 = (.bool true) := f126
            replace f127 : ρ 127 = (.bool true) := f127
            replace f6 : ρ 6 = (.bool true) := f6
            simp only [puts, Act.put, List.setIfInBounds_toArray, List.set_cons_zero, List.set_cons_succ]
            rw [f6]
            go_wp2_with fail
            go_ret
            exact ⟨rfl, Ext.trans hx hext⟩
          · go_wp2_with fail
            refine (vecCovers_any b1 b2 c1 c2 _).mono ?_
            rintro e wk ⟨rfl, he⟩
            replace ba := ba.ext he
            replace bb := bb.ext he
            replace bc := bc.ext he
            replace bj := bj.ext he
            replace bm := bm.ext he
            replace hx := Ext.trans hx he
            clear bac0 bac1 baz0 baz1 bbc0 bbc1 bbz0 bbz1 bcc0 bcc1 bcz0 bcz1 bjc0 bjc1 bjz0 bjz1 bmc0 bmc1 bmz0 bmz1
            clear he
            have bac0 := ba.cell (i := 0) rfl
            have baz0 := ba.thaw 0
            have bac1 := ba.cell (i := 1) rfl
            have baz1 := ba.thaw 1
            have bbc0 := bb.cell (i := 0) rfl
            have bbz0 := bb.thaw 0
            have bbc1 := bb.cell (i := 1) rfl
            have bbz1 := bb.thaw 1
            have bcc0 := bc.cell (i := 0) rfl
            have bcz0 := bc.thaw 0
            have bcc1 := bc.cell (i := 1) rfl
            have bcz1 := bc.thaw 1
            have bjc0 := bj.cell (i := 0) rfl
            have bjz0 := bj.thaw 0
            have bjc1 := bj.cell (i := 1) rfl
            have bjz1 := bj.thaw 1
            have bmc0 := bm.cell (i := 0) rfl
            have bmz0 := bm.thaw 0
            have bmc1 := bm.cell (i := 1) rfl
            have bmz1 := bm.thaw 1
            cases hD2 : vcovers b1 b2 c1 c2
            · go_wp2_with fail
              clear bac0 bac1 baz0 baz1 bbc0 bbc1 bbz0 bbz1 bcc0 bcc1 bcz0 bcz1 bjc0 bjc1 bjz0 bjz1 bmc0 bmc1 bmz0 bmz1
              refine wp_region_mono (by kernel_rfl) (by kernel_rfl) ?_
              refine tele_val rfl (vecV a1 a2) (fun _ _ _ => rfl) ?_ ?_
              · rintro ρ w' he ⟨h3, -⟩
                have e3 : ρ 3 = (.pointer (some ⟨n, 0, none⟩)) := h3
                have c0 := (ba.ext he).cell (i := 0) rfl
                have c1 := (ba.ext he).cell (i := 1) rfl
                simp [execOp, evR, e3, c0, c1, vecV, go_sem]
              refine tele_val rfl (vecV (min a1 b1) (min a2 b2)) (fun _ _ _ => rfl) ?_ ?_
              · rintro ρ w' he ⟨h8, -⟩
                have e8 : ρ 8 = (.pointer (some ⟨n8, 0, none⟩)) := h8
                have c0 := (bm.ext he).cell (i := 0) rfl
                have c1 := (bm.ext he).cell (i := 1) rfl
                simp [execOp, evR, e8, c0, c1, vecV, go_sem]
              refine tele_any rfl (isVs [(a1, a2), ((min a1 b1), (min a2 b2))]) ?_ ?_
              · rintro ρ w' he hk
                rw [if_pos (show wantedR _ _ _ = true from rfl)]
                obtain ⟨h112, h113, -⟩ := hk
                have e112 : ρ 112 = (vecV a1 a2) := h112
                have e113 : ρ 113 = (vecV (min a1 b1) (min a2 b2)) := h113
                show monoUpon Try.prog w' _ ((execOp (evR ρ) { dst := _, op := .buildSlice 22 2 #[(0, .tmp 112), (1, .tmp 113)], type := _, pos := _, after := _, guard := _ }).run Try.prog w')
                simp only [execOp, evR, List.map_toArray, List.map_cons, List.map_nil, e112, e113, vecV]
                simp [go_sem]
                exact ⟨ext_alloc _ _, Vs.two _ _ _ _ _ _⟩
              refine tele_call rfl rfl Try.func10 (by kernel_rfl) (isV (vecV a1 a2)) (fun _ _ _ => rfl) ?_ ?_
              · rintro ρ w' he ⟨h114, -⟩
                have e114 : (isVs [(a1, a2), ((min a1 b1), (min a2 b2))]).rel (ρ 114) w' := h114
                simp only [evR, List.map_toArray, List.map_cons, List.map_nil, e114]
                have hj := vecJoin_any _ [(a1, a2), ((min a1 b1), (min a2 b2))] _ (show Vs w' _ _ from h114)
                rw [vjoin2 _ _ _ _ (by omega) (by omega)] at hj
                rw [show max a1 (min a1 b1) = a1 by omega] at hj
                rw [show max a2 (min a2 b2) = a2 by omega] at hj
                refine hj.mono ?_
                rintro e w'' ⟨rfl, he⟩
                exact ⟨_, rfl, he, rfl⟩
              refine tele_val rfl (vecV a1 a2) (fun _ _ _ => rfl) ?_ ?_
              · rintro ρ w' he ⟨h3, -⟩
                have e3 : ρ 3 = (.pointer (some ⟨n, 0, none⟩)) := h3
                have c0 := (ba.ext he).cell (i := 0) rfl
                have c1 := (ba.ext he).cell (i := 1) rfl
                simp [execOp, evR, e3, c0, c1, vecV, go_sem]
              refine tele_val rfl (.bool true) (fun _ _ _ => rfl) ?_ ?_
              · rintro ρ w' he ⟨h115, h116, -⟩
                have e115 : ρ 115 = (vecV a1 a2) := h115
                have e116 : ρ 116 = (vecV a1 a2) := h116
                simp [execOp, evR, e115, e116, vecV, go_sem]
              refine tele_move rfl (.inl rfl) rfl (isV (.bool true)) (fun ρ w' h => h) ?_
              refine tele_val rfl (vecV a1 a2) (fun ρ w' hk => by obtain ⟨_, hg, -⟩ := hk; have eg : ρ 118 = (.bool true) := hg; simp [wantedR, Region.wanted, asBoolR, eg]) ?_ ?_
              · rintro ρ w' he ⟨h3, -⟩
                have e3 : ρ 3 = (.pointer (some ⟨n, 0, none⟩)) := h3
                have c0 := (ba.ext he).cell (i := 0) rfl
                have c1 := (ba.ext he).cell (i := 1) rfl
                simp [execOp, evR, e3, c0, c1, vecV, go_sem]
              refine tele_val rfl (vecV (max a1 b1) (max a2 b2)) (fun ρ w' hk => by obtain ⟨_, hg, -⟩ := hk; have eg : ρ 118 = (.bool true) := hg; simp [wantedR, Region.wanted, asBoolR, eg]) ?_ ?_
              · rintro ρ w' he ⟨h7, -⟩
                have e7 : ρ 7 = (.pointer (some ⟨n7, 0, none⟩)) := h7
                have c0 := (bj.ext he).cell (i := 0) rfl
                have c1 := (bj.ext he).cell (i := 1) rfl
                simp [execOp, evR, e7, c0, c1, vecV, go_sem]
              refine tele_call rfl rfl Try.func18 (by kernel_rfl) (isV (vecV a1 a2)) (fun ρ w' hk => by obtain ⟨_, _, hg, -⟩ := hk; have eg : ρ 118 = (.bool true) := hg; simp [wantedR, Region.wanted, asBoolR, eg]) ?_ ?_
              · rintro ρ w' he ⟨h119, h120, -⟩
                have e119 : ρ 119 = (vecV a1 a2) := h119
                have e120 : ρ 120 = (vecV (max a1 b1) (max a2 b2)) := h120
                simp only [evR, List.map_toArray, List.map_cons, List.map_nil, e119, e120]
                have hj := vecMeet_any a1 a2 (max a1 b1) (max a2 b2) w'
                rw [show min a1 (max a1 b1) = a1 by omega] at hj
                rw [show min a2 (max a2 b2) = a2 by omega] at hj
                refine hj.mono ?_
                rintro e w'' ⟨rfl, he⟩
                exact ⟨_, rfl, he, rfl⟩
              refine tele_val rfl (vecV a1 a2) (fun ρ w' hk => by obtain ⟨_, hg, -⟩ := hk; have eg : ρ 118 = (.bool true) := hg; simp [wantedR, Region.wanted, asBoolR, eg]) ?_ ?_
              · rintro ρ w' he ⟨h3, -⟩
                have e3 : ρ 3 = (.pointer (some ⟨n, 0, none⟩)) := h3
                have c0 := (ba.ext he).cell (i := 0) rfl
                have c1 := (ba.ext he).cell (i := 1) rfl
                simp [execOp, evR, e3, c0, c1, vecV, go_sem]
              refine tele_val rfl (.bool true) (fun ρ w' hk => by obtain ⟨_, _, hg, -⟩ := hk; have eg : ρ 118 = (.bool true) := hg; simp [wantedR, Region.wanted, asBoolR, eg]) ?_ ?_
              · rintro ρ w' he ⟨h121, h122, -⟩
                have e121 : ρ 121 = (vecV a1 a2) := h121
                have e122 : ρ 122 = (vecV a1 a2) := h122
                simp [execOp, evR, e121, e122, vecV, go_sem]
              refine tele_val rfl (.bool true) (fun _ _ _ => rfl) ?_ ?_
              · rintro ρ w' he ⟨h118, h123, -⟩
                have e118 : ρ 118 = (.bool true) := h118
                have e123 : ρ 123 = (.bool true) := h123
                simp [execOp, evR, e118, e123, go_sem]
              refine tele_move rfl (.inl rfl) rfl (isV (.bool true)) (fun ρ w' h => h) ?_
              refine tele_call rfl rfl Try.func9 (by kernel_rfl) (isV (.bool true)) (fun ρ w' hk => by obtain ⟨hg, -⟩ := hk; have eg : ρ 125 = (.bool true) := hg; simp [wantedR, Region.wanted, asBoolR, eg]) ?_ ?_
              · rintro ρ w' he -
                simp only [evR, List.map_toArray, List.map_cons, List.map_nil]
                refine (lives_any _).mono ?_
                rintro e w'' ⟨rfl, he⟩
                exact ⟨_, rfl, he, rfl⟩
              refine tele_val rfl (.bool true) (fun _ _ _ => rfl) ?_ ?_
              · rintro ρ w' he ⟨h125, h126, -⟩
                have e125 : ρ 125 = (.bool true) := h125
                have e126 : ρ 126 = (.bool true) := h126
                simp [execOp, evR, e125, e126, go_sem]
              refine tele_move rfl (.inr rfl) rfl (isV (.bool true)) (fun ρ w' h => h) ?_
              refine tele_nil ?_
              rintro ρ w' hext ⟨f6, f127, f126, f125, f124, f123, f122, f121, f120, f119, f118, f117, f116, f115, f114, f113, f112, -⟩
              replace f112 : ρ 112 = (vecV a1 a2) := f112
              replace f113 : ρ 113 = (vecV (min a1 b1) (min a2 b2)) := f113
              replace f114 : (isVs [(a1, a2), ((min a1 b1), (min a2 b2))]).rel (ρ 114) w' := f114
              replace f115 : ρ 115 = (vecV a1 a2) := f115
              replace f116 : ρ 116 = (vecV a1 a2) := f116
              replace f117 : ρ 117 = (.bool true) := f117
              replace f118 : ρ 118 = (.bool true) := f118
              replace f119 : ρ 119 = (vecV a1 a2) := f119
              replace f120 : ρ 120 = (vecV (max a1 b1) (max a2 b2)) := f120
              replace f121 : ρ 121 = (vecV a1 a2) := f121
              replace f122 : ρ 122 = (vecV a1 a2) := f122
              replace f123 : ρ 123 = (.bool true) := f123
              replace f124 : ρ 124 = (.bool true) := f124
              replace f125 : ρ 125 = (.bool true) := f125
              replace f126 : ρ 126 = (.bool true) := f126
              replace f127 : ρ 127 = (.bool true) := f127
              replace f6 : ρ 6 = (.bool true) := f6
              simp only [puts, Act.put, List.setIfInBounds_toArray, List.set_cons_zero, List.set_cons_succ]
              rw [f6]
              go_wp2_with fail
              go_ret
              exact ⟨rfl, Ext.trans hx hext⟩
            · go_wp2_with fail
              refine (vecCovers_any (min a1 b1) (min a2 b2) c1 c2 _).mono ?_
              rintro e wk ⟨rfl, he⟩
              replace ba := ba.ext he
              replace bb := bb.ext he
              replace bc := bc.ext he
              replace bj := bj.ext he
              replace bm := bm.ext he
              replace hx := Ext.trans hx he
              clear bac0 bac1 baz0 baz1 bbc0 bbc1 bbz0 bbz1 bcc0 bcc1 bcz0 bcz1 bjc0 bjc1 bjz0 bjz1 bmc0 bmc1 bmz0 bmz1
              clear he
              have bac0 := ba.cell (i := 0) rfl
              have baz0 := ba.thaw 0
              have bac1 := ba.cell (i := 1) rfl
              have baz1 := ba.thaw 1
              have bbc0 := bb.cell (i := 0) rfl
              have bbz0 := bb.thaw 0
              have bbc1 := bb.cell (i := 1) rfl
              have bbz1 := bb.thaw 1
              have bcc0 := bc.cell (i := 0) rfl
              have bcz0 := bc.thaw 0
              have bcc1 := bc.cell (i := 1) rfl
              have bcz1 := bc.thaw 1
              have bjc0 := bj.cell (i := 0) rfl
              have bjz0 := bj.thaw 0
              have bjc1 := bj.cell (i := 1) rfl
              have bjz1 := bj.thaw 1
              have bmc0 := bm.cell (i := 0) rfl
              have bmz0 := bm.thaw 0
              have bmc1 := bm.cell (i := 1) rfl
              have bmz1 := bm.thaw 1
              rw [show vcovers (min a1 b1) (min a2 b2) c1 c2 = true by simp [vcovers] at hD1 hD2 ⊢; omega]
              go_wp2_with fail
              clear bac0 bac1 baz0 baz1 bbc0 bbc1 bbz0 bbz1 bcc0 bcc1 bcz0 bcz1 bjc0 bjc1 bjz0 bjz1 bmc0 bmc1 bmz0 bmz1
              refine wp_region_mono (by kernel_rfl) (by kernel_rfl) ?_
              refine tele_val rfl (vecV a1 a2) (fun _ _ _ => rfl) ?_ ?_
              · rintro ρ w' he ⟨h3, -⟩
                have e3 : ρ 3 = (.pointer (some ⟨n, 0, none⟩)) := h3
                have c0 := (ba.ext he).cell (i := 0) rfl
                have c1 := (ba.ext he).cell (i := 1) rfl
                simp [execOp, evR, e3, c0, c1, vecV, go_sem]
              refine tele_val rfl (vecV (min a1 b1) (min a2 b2)) (fun _ _ _ => rfl) ?_ ?_
              · rintro ρ w' he ⟨h8, -⟩
                have e8 : ρ 8 = (.pointer (some ⟨n8, 0, none⟩)) := h8
                have c0 := (bm.ext he).cell (i := 0) rfl
                have c1 := (bm.ext he).cell (i := 1) rfl
                simp [execOp, evR, e8, c0, c1, vecV, go_sem]
              refine tele_any rfl (isVs [(a1, a2), ((min a1 b1), (min a2 b2))]) ?_ ?_
              · rintro ρ w' he hk
                rw [if_pos (show wantedR _ _ _ = true from rfl)]
                obtain ⟨h112, h113, -⟩ := hk
                have e112 : ρ 112 = (vecV a1 a2) := h112
                have e113 : ρ 113 = (vecV (min a1 b1) (min a2 b2)) := h113
                show monoUpon Try.prog w' _ ((execOp (evR ρ) { dst := _, op := .buildSlice 22 2 #[(0, .tmp 112), (1, .tmp 113)], type := _, pos := _, after := _, guard := _ }).run Try.prog w')
                simp only [execOp, evR, List.map_toArray, List.map_cons, List.map_nil, e112, e113, vecV]
                simp [go_sem]
                exact ⟨ext_alloc _ _, Vs.two _ _ _ _ _ _⟩
              refine tele_call rfl rfl Try.func10 (by kernel_rfl) (isV (vecV a1 a2)) (fun _ _ _ => rfl) ?_ ?_
              · rintro ρ w' he ⟨h114, -⟩
                have e114 : (isVs [(a1, a2), ((min a1 b1), (min a2 b2))]).rel (ρ 114) w' := h114
                simp only [evR, List.map_toArray, List.map_cons, List.map_nil, e114]
                have hj := vecJoin_any _ [(a1, a2), ((min a1 b1), (min a2 b2))] _ (show Vs w' _ _ from h114)
                rw [vjoin2 _ _ _ _ (by omega) (by omega)] at hj
                rw [show max a1 (min a1 b1) = a1 by omega] at hj
                rw [show max a2 (min a2 b2) = a2 by omega] at hj
                refine hj.mono ?_
                rintro e w'' ⟨rfl, he⟩
                exact ⟨_, rfl, he, rfl⟩
              refine tele_val rfl (vecV a1 a2) (fun _ _ _ => rfl) ?_ ?_
              · rintro ρ w' he ⟨h3, -⟩
                have e3 : ρ 3 = (.pointer (some ⟨n, 0, none⟩)) := h3
                have c0 := (ba.ext he).cell (i := 0) rfl
                have c1 := (ba.ext he).cell (i := 1) rfl
                simp [execOp, evR, e3, c0, c1, vecV, go_sem]
              refine tele_val rfl (.bool true) (fun _ _ _ => rfl) ?_ ?_
              · rintro ρ w' he ⟨h115, h116, -⟩
                have e115 : ρ 115 = (vecV a1 a2) := h115
                have e116 : ρ 116 = (vecV a1 a2) := h116
                simp [execOp, evR, e115, e116, vecV, go_sem]
              refine tele_move rfl (.inl rfl) rfl (isV (.bool true)) (fun ρ w' h => h) ?_
              refine tele_val rfl (vecV a1 a2) (fun ρ w' hk => by obtain ⟨_, hg, -⟩ := hk; have eg : ρ 118 = (.bool true) := hg; simp [wantedR, Region.wanted, asBoolR, eg]) ?_ ?_
              · rintro ρ w' he ⟨h3, -⟩
                have e3 : ρ 3 = (.pointer (some ⟨n, 0, none⟩)) := h3
                have c0 := (ba.ext he).cell (i := 0) rfl
                have c1 := (ba.ext he).cell (i := 1) rfl
                simp [execOp, evR, e3, c0, c1, vecV, go_sem]
              refine tele_val rfl (vecV (max a1 b1) (max a2 b2)) (fun ρ w' hk => by obtain ⟨_, hg, -⟩ := hk; have eg : ρ 118 = (.bool true) := hg; simp [wantedR, Region.wanted, asBoolR, eg]) ?_ ?_
              · rintro ρ w' he ⟨h7, -⟩
                have e7 : ρ 7 = (.pointer (some ⟨n7, 0, none⟩)) := h7
                have c0 := (bj.ext he).cell (i := 0) rfl
                have c1 := (bj.ext he).cell (i := 1) rfl
                simp [execOp, evR, e7, c0, c1, vecV, go_sem]
              refine tele_call rfl rfl Try.func18 (by kernel_rfl) (isV (vecV a1 a2)) (fun ρ w' hk => by obtain ⟨_, _, hg, -⟩ := hk; have eg : ρ 118 = (.bool true) := hg; simp [wantedR, Region.wanted, asBoolR, eg]) ?_ ?_
              · rintro ρ w' he ⟨h119, h120, -⟩
                have e119 : ρ 119 = (vecV a1 a2) := h119
                have e120 : ρ 120 = (vecV (max a1 b1) (max a2 b2)) := h120
                simp only [evR, List.map_toArray, List.map_cons, List.map_nil, e119, e120]
                have hj := vecMeet_any a1 a2 (max a1 b1) (max a2 b2) w'
                rw [show min a1 (max a1 b1) = a1 by omega] at hj
                rw [show min a2 (max a2 b2) = a2 by omega] at hj
                refine hj.mono ?_
                rintro e w'' ⟨rfl, he⟩
                exact ⟨_, rfl, he, rfl⟩
              refine tele_val rfl (vecV a1 a2) (fun ρ w' hk => by obtain ⟨_, hg, -⟩ := hk; have eg : ρ 118 = (.bool true) := hg; simp [wantedR, Region.wanted, asBoolR, eg]) ?_ ?_
              · rintro ρ w' he ⟨h3, -⟩
                have e3 : ρ 3 = (.pointer (some ⟨n, 0, none⟩)) := h3
                have c0 := (ba.ext he).cell (i := 0) rfl
                have c1 := (ba.ext he).cell (i := 1) rfl
                simp [execOp, evR, e3, c0, c1, vecV, go_sem]
              refine tele_val rfl (.bool true) (fun ρ w' hk => by obtain ⟨_, _, hg, -⟩ := hk; have eg : ρ 118 = (.bool true) := hg; simp [wantedR, Region.wanted, asBoolR, eg]) ?_ ?_
              · rintro ρ w' he ⟨h121, h122, -⟩
                have e121 : ρ 121 = (vecV a1 a2) := h121
                have e122 : ρ 122 = (vecV a1 a2) := h122
                simp [execOp, evR, e121, e122, vecV, go_sem]
              refine tele_val rfl (.bool true) (fun _ _ _ => rfl) ?_ ?_
              · rintro ρ w' he ⟨h118, h123, -⟩
                have e118 : ρ 118 = (.bool true) := h118
                have e123 : ρ 123 = (.bool true) := h123
                simp [execOp, evR, e118, e123, go_sem]
              refine tele_move rfl (.inl rfl) rfl (isV (.bool true)) (fun ρ w' h => h) ?_
              refine tele_call rfl rfl Try.func9 (by kernel_rfl) (isV (.bool true)) (fun ρ w' hk => by obtain ⟨hg, -⟩ := hk; have eg : ρ 125 = (.bool true) := hg; simp [wantedR, Region.wanted, asBoolR, eg]) ?_ ?_
              · rintro ρ w' he -
                simp only [evR, List.map_toArray, List.map_cons, List.map_nil]
                refine (lives_any _).mono ?_
                rintro e w'' ⟨rfl, he⟩
                exact ⟨_, rfl, he, rfl⟩
              refine tele_val rfl (.bool true) (fun _ _ _ => rfl) ?_ ?_
              · rintro ρ w' he ⟨h125, h126, -⟩
                have e125 : ρ 125 = (.bool true) := h125
                have e126 : ρ 126 = (.bool true) := h126
                simp [execOp, evR, e125, e126, go_sem]
              refine tele_move rfl (.inr rfl) rfl (isV (.bool true)) (fun ρ w' h => h) ?_
              refine tele_nil ?_
              rintro ρ w' hext ⟨f6, f127, f126, f125, f124, f123, f122, f121, f120, f119, f118, f117, f116, f115, f114, f113, f112, -⟩
              replace f112 : ρ 112 = (vecV a1 a2) := f112
              replace f113 : ρ 113 = (vecV (min a1 b1) (min a2 b2)) := f113
              replace f114 : (isVs [(a1, a2), ((min a1 b1), (min a2 b2))]).rel (ρ 114) w' := f114
              replace f115 : ρ 115 = (vecV a1 a2) := f115
              replace f116 : ρ 116 = (vecV a1 a2) := f116
              replace f117 : ρ 117 = (.bool true) := f117
              replace f118 : ρ 118 = (.bool true) := f118
              replace f119 : ρ 119 = (vecV a1 a2) := f119
              replace f120 : ρ 120 = (vecV (max a1 b1) (max a2 b2)) := f120
              replace f121 : ρ 121 = (vecV a1 a2) := f121
              replace f122 : ρ 122 = (vecV a1 a2) := f122
              replace f123 : ρ 123 = (.bool true) := f123
              replace f124 : ρ 124 = (.bool true) := f124
              replace f125 : ρ 125 = (.bool true) := f125
              replace f126 : ρ 126 = (.bool true) := f126
              replace f127 : ρ 127 = (.bool true) := f127
              replace f6 : ρ 6 = (.bool true) := f6
              simp only [puts, Act.put, List.setIfInBounds_toArray, List.set_cons_zero, List.set_cons_succ]
              rw [f6]
              go_wp2_with fail
              go_ret
              exact ⟨rfl, Ext.trans hx hext⟩
        · go_wp2_with fail
          refine (vecCovers_any c1 c2 b1 b2 _).mono ?_
          rintro e wk ⟨rfl, he⟩
          replace ba := ba.ext he
          replace bb := bb.ext he
          replace bc := bc.ext he
          replace bj := bj.ext he
          replace bm := bm.ext he
          replace hx := Ext.trans hx he
          clear bac0 bac1 baz0 baz1 bbc0 bbc1 bbz0 bbz1 bcc0 bcc1 bcz0 bcz1 bjc0 bjc1 bjz0 bjz1 bmc0 bmc1 bmz0 bmz1
          clear he
          have bac0 := ba.cell (i := 0) rfl
          have baz0 := ba.thaw 0
          have bac1 := ba.cell (i := 1) rfl
          have baz1 := ba.thaw 1
          have bbc0 := bb.cell (i := 0) rfl
          have bbz0 := bb.thaw 0
          have bbc1 := bb.cell (i := 1) rfl
          have bbz1 := bb.thaw 1
          have bcc0 := bc.cell (i := 0) rfl
          have bcz0 := bc.thaw 0
          have bcc1 := bc.cell (i := 1) rfl
          have bcz1 := bc.thaw 1
          have bjc0 := bj.cell (i := 0) rfl
          have bjz0 := bj.thaw 0
          have bjc1 := bj.cell (i := 1) rfl
          have bjz1 := bj.thaw 1
          have bmc0 := bm.cell (i := 0) rfl
          have bmz0 := bm.thaw 0
          have bmc1 := bm.cell (i := 1) rfl
          have bmz1 := bm.thaw 1
          cases hC2 : vcovers c1 c2 b1 b2
          · go_wp2_with fail
            refine (vecCovers_any a1 a2 c1 c2 _).mono ?_
            rintro e wk ⟨rfl, he⟩
            replace ba := ba.ext he
            replace bb := bb.ext he
            replace bc := bc.ext he
            replace bj := bj.ext he
            replace bm := bm.ext he
            replace hx := Ext.trans hx he
            clear bac0 bac1 baz0 baz1 bbc0 bbc1 bbz0 bbz1 bcc0 bcc1 bcz0 bcz1 bjc0 bjc1 bjz0 bjz1 bmc0 bmc1 bmz0 bmz1
            clear he
            have bac0 := ba.cell (i := 0) rfl
            have baz0 := ba.thaw 0
            have bac1 := ba.cell (i := 1) rfl
            have baz1 := ba.thaw 1
            have bbc0 := bb.cell (i := 0) rfl
            have bbz0 := bb.thaw 0
            have bbc1 := bb.cell (i := 1) rfl
            have bbz1 := bb.thaw 1
            have bcc0 := bc.cell (i := 0) rfl
            have bcz0 := bc.thaw 0
            have bcc1 := bc.cell (i := 1) rfl
            have bcz1 := bc.thaw 1
            have bjc0 := bj.cell (i := 0) rfl
            have bjz0 := bj.thaw 0
            have bjc1 := bj.cell (i := 1) rfl
            have bjz1 := bj.thaw 1
            have bmc0 := bm.cell (i := 0) rfl
            have bmz0 := bm.thaw 0
            have bmc1 := bm.cell (i := 1) rfl
            have bmz1 := bm.thaw 1
            cases hD1 : vcovers a1 a2 c1 c2
            · go_wp2_with fail
              clear bac0 bac1 baz0 baz1 bbc0 bbc1 bbz0 bbz1 bcc0 bcc1 bcz0 bcz1 bjc0 bjc1 bjz0 bjz1 bmc0 bmc1 bmz0 bmz1
              refine wp_region_mono (by kernel_rfl) (by kernel_rfl) ?_
              refine tele_val rfl (vecV a1 a2) (fun _ _ _ => rfl) ?_ ?_
              · rintro ρ w' he ⟨h3, -⟩
                have e3 : ρ 3 = (.pointer (some ⟨n, 0, none⟩)) := h3
                have c0 := (ba.ext he).cell (i := 0) rfl
                have c1 := (ba.ext he).cell (i := 1) rfl
                simp [execOp, evR, e3, c0, c1, vecV, go_sem]
              refine tele_val rfl (vecV (min a1 b1) (min a2 b2)) (fun _ _ _ => rfl) ?_ ?_
              · rintro ρ w' he ⟨h8, -⟩
                have e8 : ρ 8 = (.pointer (some ⟨n8, 0, none⟩)) := h8
                have c0 := (bm.ext he).cell (i := 0) rfl
                have c1 := (bm.ext he).cell (i := 1) rfl
                simp [execOp, evR, e8, c0, c1, vecV, go_sem]
              refine tele_any rfl (isVs [(a1, a2), ((min a1 b1), (min a2 b2))]) ?_ ?_
              · rintro ρ w' he hk
                rw [if_pos (show wantedR _ _ _ = true from rfl)]
                obtain ⟨h112, h113, -⟩ := hk
                have e112 : ρ 112 = (vecV a1 a2) := h112
                have e113 : ρ 113 = (vecV (min a1 b1) (min a2 b2)) := h113
                show monoUpon Try.prog w' _ ((execOp (evR ρ) { dst := _, op := .buildSlice 22 2 #[(0, .tmp 112), (1, .tmp 113)], type := _, pos := _, after := _, guard := _ }).run Try.prog w')
                simp only [execOp, evR, List.map_toArray, List.map_cons, List.map_nil, e112, e113, vecV]
                simp [go_sem]
                exact ⟨ext_alloc _ _, Vs.two _ _ _ _ _ _⟩
              refine tele_call rfl rfl Try.func10 (by kernel_rfl) (isV (vecV a1 a2)) (fun _ _ _ => rfl) ?_ ?_
              · rintro ρ w' he ⟨h114, -⟩
                have e114 : (isVs [(a1, a2), ((min a1 b1), (min a2 b2))]).rel (ρ 114) w' := h114
                simp only [evR, List.map_toArray, List.map_cons, List.map_nil, e114]
                have hj := vecJoin_any _ [(a1, a2), ((min a1 b1), (min a2 b2))] _ (show Vs w' _ _ from h114)
                rw [vjoin2 _ _ _ _ (by omega) (by omega)] at hj
                rw [show max a1 (min a1 b1) = a1 by omega] at hj
                rw [show max a2 (min a2 b2) = a2 by omega] at hj
                refine hj.mono ?_
                rintro e w'' ⟨rfl, he⟩
                exact ⟨_, rfl, he, rfl⟩
              refine tele_val rfl (vecV a1 a2) (fun _ _ _ => rfl) ?_ ?_
              · rintro ρ w' he ⟨h3, -⟩
                have e3 : ρ 3 = (.pointer (some ⟨n, 0, none⟩)) := h3
                have c0 := (ba.ext he).cell (i := 0) rfl
                have c1 := (ba.ext he).cell (i := 1) rfl
                simp [execOp, evR, e3, c0, c1, vecV, go_sem]
              refine tele_val rfl (.bool true) (fun _ _ _ => rfl) ?_ ?_
              · rintro ρ w' he ⟨h115, h116, -⟩
                have e115 : ρ 115 = (vecV a1 a2) := h115
                have e116 : ρ 116 = (vecV a1 a2) := h116
                simp [execOp, evR, e115, e116, vecV, go_sem]
              refine tele_move rfl (.inl rfl) rfl (isV (.bool true)) (fun ρ w' h => h) ?_
              refine tele_val rfl (vecV a1 a2) (fun ρ w' hk => by obtain ⟨_, hg, -⟩ := hk; have eg : ρ 118 = (.bool true) := hg; simp [wantedR, Region.wanted, asBoolR, eg]) ?_ ?_
              · rintro ρ w' he ⟨h3, -⟩
                have e3 : ρ 3 = (.pointer (some ⟨n, 0, none⟩)) := h3
                have c0 := (ba.ext he).cell (i := 0) rfl
                have c1 := (ba.ext he).cell (i := 1) rfl
                simp [execOp, evR, e3, c0, c1, vecV, go_sem]
              refine tele_val rfl (vecV (max a1 b1) (max a2 b2)) (fun ρ w' hk => by obtain ⟨_, hg, -⟩ := hk; have eg : ρ 118 = (.bool true) := hg; simp [wantedR, Region.wanted, asBoolR, eg]) ?_ ?_
              · rintro ρ w' he ⟨h7, -⟩
                have e7 : ρ 7 = (.pointer (some ⟨n7, 0, none⟩)) := h7
                have c0 := (bj.ext he).cell (i := 0) rfl
                have c1 := (bj.ext he).cell (i := 1) rfl
                simp [execOp, evR, e7, c0, c1, vecV, go_sem]
              refine tele_call rfl rfl Try.func18 (by kernel_rfl) (isV (vecV a1 a2)) (fun ρ w' hk => by obtain ⟨_, _, hg, -⟩ := hk; have eg : ρ 118 = (.bool true) := hg; simp [wantedR, Region.wanted, asBoolR, eg]) ?_ ?_
              · rintro ρ w' he ⟨h119, h120, -⟩
                have e119 : ρ 119 = (vecV a1 a2) := h119
                have e120 : ρ 120 = (vecV (max a1 b1) (max a2 b2)) := h120
                simp only [evR, List.map_toArray, List.map_cons, List.map_nil, e119, e120]
                have hj := vecMeet_any a1 a2 (max a1 b1) (max a2 b2) w'
                rw [show min a1 (max a1 b1) = a1 by omega] at hj
                rw [show min a2 (max a2 b2) = a2 by omega] at hj
                refine hj.mono ?_
                rintro e w'' ⟨rfl, he⟩
                exact ⟨_, rfl, he, rfl⟩
              refine tele_val rfl (vecV a1 a2) (fun ρ w' hk => by obtain ⟨_, hg, -⟩ := hk; have eg : ρ 118 = (.bool true) := hg; simp [wantedR, Region.wanted, asBoolR, eg]) ?_ ?_
              · rintro ρ w' he ⟨h3, -⟩
                have e3 : ρ 3 = (.pointer (some ⟨n, 0, none⟩)) := h3
                have c0 := (ba.ext he).cell (i := 0) rfl
                have c1 := (ba.ext he).cell (i := 1) rfl
                simp [execOp, evR, e3, c0, c1, vecV, go_sem]
              refine tele_val rfl (.bool true) (fun ρ w' hk => by obtain ⟨_, _, hg, -⟩ := hk; have eg : ρ 118 = (.bool true) := hg; simp [wantedR, Region.wanted, asBoolR, eg]) ?_ ?_
              · rintro ρ w' he ⟨h121, h122, -⟩
                have e121 : ρ 121 = (vecV a1 a2) := h121
                have e122 : ρ 122 = (vecV a1 a2) := h122
                simp [execOp, evR, e121, e122, vecV, go_sem]
              refine tele_val rfl (.bool true) (fun _ _ _ => rfl) ?_ ?_
              · rintro ρ w' he ⟨h118, h123, -⟩
                have e118 : ρ 118 = (.bool true) := h118
                have e123 : ρ 123 = (.bool true) := h123
                simp [execOp, evR, e118, e123, go_sem]
              refine tele_move rfl (.inl rfl) rfl (isV (.bool true)) (fun ρ w' h => h) ?_
              refine tele_call rfl rfl Try.func9 (by kernel_rfl) (isV (.bool true)) (fun ρ w' hk => by obtain ⟨hg, -⟩ := hk; have eg : ρ 125 = (.bool true) := hg; simp [wantedR, Region.wanted, asBoolR, eg]) ?_ ?_
              · rintro ρ w' he -
                simp only [evR, List.map_toArray, List.map_cons, List.map_nil]
                refine (lives_any _).mono ?_
                rintro e w'' ⟨rfl, he⟩
                exact ⟨_, rfl, he, rfl⟩
              refine tele_val rfl (.bool true) (fun _ _ _ => rfl) ?_ ?_
              · rintro ρ w' he ⟨h125, h126, -⟩
                have e125 : ρ 125 = (.bool true) := h125
                have e126 : ρ 126 = (.bool true) := h126
                simp [execOp, evR, e125, e126, go_sem]
              refine tele_move rfl (.inr rfl) rfl (isV (.bool true)) (fun ρ w' h => h) ?_
              refine tele_nil ?_
              rintro ρ w' hext ⟨f6, f127, f126, f125, f124, f123, f122, f121, f120, f119, f118, f117, f116, f115, f114, f113, f112, -⟩
              replace f112 : ρ 112 = (vecV a1 a2) := f112
              replace f113 : ρ 113 = (vecV (min a1 b1) (min a2 b2)) := f113
              replace f114 : (isVs [(a1, a2), ((min a1 b1), (min a2 b2))]).rel (ρ 114) w' := f114
              replace f115 : ρ 115 = (vecV a1 a2) := f115
              replace f116 : ρ 116 = (vecV a1 a2) := f116
              replace f117 : ρ 117 = (.bool true) := f117
              replace f118 : ρ 118 = (.bool true) := f118
              replace f119 : ρ 119 = (vecV a1 a2) := f119
              replace f120 : ρ 120 = (vecV (max a1 b1) (max a2 b2)) := f120
              replace f121 : ρ 121 = (vecV a1 a2) := f121
              replace f122 : ρ 122 = (vecV a1 a2) := f122
              replace f123 : ρ 123 = (.bool true) := f123
              replace f124 : ρ 124 = (.bool true) := f124
              replace f125 : ρ 125 = (.bool true) := f125
              replace f126 : ρ 126 = (.bool true) := f126
              replace f127 : ρ 127 = (.bool true) := f127
              replace f6 : ρ 6 = (.bool true) := f6
              simp only [puts, Act.put, List.setIfInBounds_toArray, List.set_cons_zero, List.set_cons_succ]
              rw [f6]
              go_wp2_with fail
              go_ret
              exact ⟨rfl, Ext.trans hx hext⟩
            · go_wp2_with fail
              refine (vecCovers_any b1 b2 c1 c2 _).mono ?_
              rintro e wk ⟨rfl, he⟩
              replace ba := ba.ext he
              replace bb := bb.ext he
              replace bc := bc.ext he
              replace bj := bj.ext he
              replace bm := bm.ext he
              replace hx := Ext.trans hx he
              clear bac0 bac1 baz0 baz1 bbc0 bbc1 bbz0 bbz1 bcc0 bcc1 bcz0 bcz1 bjc0 bjc1 bjz0 bjz1 bmc0 bmc1 bmz0 bmz1
              clear he
              have bac0 := ba.cell (i := 0) rfl
              have baz0 := ba.thaw 0
              have bac1 := ba.cell (i := 1) rfl
              have baz1 := ba.thaw 1
              have bbc0 := bb.cell (i := 0) rfl
              have bbz0 := bb.thaw 0
              have bbc1 := bb.cell (i := 1) rfl
              have bbz1 := bb.thaw 1
              have bcc0 := bc.cell (i := 0) rfl
              have bcz0 := bc.thaw 0
              have bcc1 := bc.cell (i := 1) rfl
              have bcz1 := bc.thaw 1
              have bjc0 := bj.cell (i := 0) rfl
              have bjz0 := bj.thaw 0
              have bjc1 := bj.cell (i := 1) rfl
              have bjz1 := bj.thaw 1
              have bmc0 := bm.cell (i := 0) rfl
              have bmz0 := bm.thaw 0
              have bmc1 := bm.cell (i := 1) rfl
              have bmz1 := bm.thaw 1
              cases hD2 : vcovers b1 b2 c1 c2
              · go_wp2_with fail
                clear bac0 bac1 baz0 baz1 bbc0 bbc1 bbz0 bbz1 bcc0 bcc1 bcz0 bcz1 bjc0 bjc1 bjz0 bjz1 bmc0 bmc1 bmz0 bmz1
                refine wp_region_mono (by kernel_rfl) (by kernel_rfl) ?_
                refine tele_val rfl (vecV a1 a2) (fun _ _ _ => rfl) ?_ ?_
                · rintro ρ w' he ⟨h3, -⟩
                  have e3 : ρ 3 = (.pointer (some ⟨n, 0, none⟩)) := h3
                  have c0 := (ba.ext he).cell (i := 0) rfl
                  have c1 := (ba.ext he).cell (i := 1) rfl
                  simp [execOp, evR, e3, c0, c1, vecV, go_sem]
                refine tele_val rfl (vecV (min a1 b1) (min a2 b2)) (fun _ _ _ => rfl) ?_ ?_
                · rintro ρ w' he ⟨h8, -⟩
                  have e8 : ρ 8 = (.pointer (some ⟨n8, 0, none⟩)) := h8
                  have c0 := (bm.ext he).cell (i := 0) rfl
                  have c1 := (bm.ext he).cell (i := 1) rfl
                  simp [execOp, evR, e8, c0, c1, vecV, go_sem]
                refine tele_any rfl (isVs [(a1, a2), ((min a1 b1), (min a2 b2))]) ?_ ?_
                · rintro ρ w' he hk
                  rw [if_pos (show wantedR _ _ _ = true from rfl)]
                  obtain ⟨h112, h113, -⟩ := hk
                  have e112 : ρ 112 = (vecV a1 a2) := h112
                  have e113 : ρ 113 = (vecV (min a1 b1) (min a2 b2)) := h113
                  show monoUpon Try.prog w' _ ((execOp (evR ρ) { dst := _, op := .buildSlice 22 2 #[(0, .tmp 112), (1, .tmp 113)], type := _, pos := _, after := _, guard := _ }).run Try.prog w')
                  simp only [execOp, evR, List.map_toArray, List.map_cons, List.map_nil, e112, e113, vecV]
                  simp [go_sem]
                  exact ⟨ext_alloc _ _, Vs.two _ _ _ _ _ _⟩
                refine tele_call rfl rfl Try.func10 (by kernel_rfl) (isV (vecV a1 a2)) (fun _ _ _ => rfl) ?_ ?_
                · rintro ρ w' he ⟨h114, -⟩
                  have e114 : (isVs [(a1, a2), ((min a1 b1), (min a2 b2))]).rel (ρ 114) w' := h114
                  simp only [evR, List.map_toArray, List.map_cons, List.map_nil, e114]
                  have hj := vecJoin_any _ [(a1, a2), ((min a1 b1), (min a2 b2))] _ (show Vs w' _ _ from h114)
                  rw [vjoin2 _ _ _ _ (by omega) (by omega)] at hj
                  rw [show max a1 (min a1 b1) = a1 by omega] at hj
                  rw [show max a2 (min a2 b2) = a2 by omega] at hj
                  refine hj.mono ?_
                  rintro e w'' ⟨rfl, he⟩
                  exact ⟨_, rfl, he, rfl⟩
                refine tele_val rfl (vecV a1 a2) (fun _ _ _ => rfl) ?_ ?_
                · rintro ρ w' he ⟨h3, -⟩
                  have e3 : ρ 3 = (.pointer (some ⟨n, 0, none⟩)) := h3
                  have c0 := (ba.ext he).cell (i := 0) rfl
                  have c1 := (ba.ext he).cell (i := 1) rfl
                  simp [execOp, evR, e3, c0, c1, vecV, go_sem]
                refine tele_val rfl (.bool true) (fun _ _ _ => rfl) ?_ ?_
                · rintro ρ w' he ⟨h115, h116, -⟩
                  have e115 : ρ 115 = (vecV a1 a2) := h115
                  have e116 : ρ 116 = (vecV a1 a2) := h116
                  simp [execOp, evR, e115, e116, vecV, go_sem]
                refine tele_move rfl (.inl rfl) rfl (isV (.bool true)) (fun ρ w' h => h) ?_
                refine tele_val rfl (vecV a1 a2) (fun ρ w' hk => by obtain ⟨_, hg, -⟩ := hk; have eg : ρ 118 = (.bool true) := hg; simp [wantedR, Region.wanted, asBoolR, eg]) ?_ ?_
                · rintro ρ w' he ⟨h3, -⟩
                  have e3 : ρ 3 = (.pointer (some ⟨n, 0, none⟩)) := h3
                  have c0 := (ba.ext he).cell (i := 0) rfl
                  have c1 := (ba.ext he).cell (i := 1) rfl
                  simp [execOp, evR, e3, c0, c1, vecV, go_sem]
                refine tele_val rfl (vecV (max a1 b1) (max a2 b2)) (fun ρ w' hk => by obtain ⟨_, hg, -⟩ := hk; have eg : ρ 118 = (.bool true) := hg; simp [wantedR, Region.wanted, asBoolR, eg]) ?_ ?_
                · rintro ρ w' he ⟨h7, -⟩
                  have e7 : ρ 7 = (.pointer (some ⟨n7, 0, none⟩)) := h7
                  have c0 := (bj.ext he).cell (i := 0) rfl
                  have c1 := (bj.ext he).cell (i := 1) rfl
                  simp [execOp, evR, e7, c0, c1, vecV, go_sem]
                refine tele_call rfl rfl Try.func18 (by kernel_rfl) (isV (vecV a1 a2)) (fun ρ w' hk => by obtain ⟨_, _, hg, -⟩ := hk; have eg : ρ 118 = (.bool true) := hg; simp [wantedR, Region.wanted, asBoolR, eg]) ?_ ?_
                · rintro ρ w' he ⟨h119, h120, -⟩
                  have e119 : ρ 119 = (vecV a1 a2) := h119
                  have e120 : ρ 120 = (vecV (max a1 b1) (max a2 b2)) := h120
                  simp only [evR, List.map_toArray, List.map_cons, List.map_nil, e119, e120]
                  have hj := vecMeet_any a1 a2 (max a1 b1) (max a2 b2) w'
                  rw [show min a1 (max a1 b1) = a1 by omega] at hj
                  rw [show min a2 (max a2 b2) = a2 by omega] at hj
                  refine hj.mono ?_
                  rintro e w'' ⟨rfl, he⟩
                  exact ⟨_, rfl, he, rfl⟩
                refine tele_val rfl (vecV a1 a2) (fun ρ w' hk => by obtain ⟨_, hg, -⟩ := hk; have eg : ρ 118 = (.bool true) := hg; simp [wantedR, Region.wanted, asBoolR, eg]) ?_ ?_
                · rintro ρ w' he ⟨h3, -⟩
                  have e3 : ρ 3 = (.pointer (some ⟨n, 0, none⟩)) := h3
                  have c0 := (ba.ext he).cell (i := 0) rfl
                  have c1 := (ba.ext he).cell (i := 1) rfl
                  simp [execOp, evR, e3, c0, c1, vecV, go_sem]
                refine tele_val rfl (.bool true) (fun ρ w' hk => by obtain ⟨_, _, hg, -⟩ := hk; have eg : ρ 118 = (.bool true) := hg; simp [wantedR, Region.wanted, asBoolR, eg]) ?_ ?_
                · rintro ρ w' he ⟨h121, h122, -⟩
                  have e121 : ρ 121 = (vecV a1 a2) := h121
                  have e122 : ρ 122 = (vecV a1 a2) := h122
                  simp [execOp, evR, e121, e122, vecV, go_sem]
                refine tele_val rfl (.bool true) (fun _ _ _ => rfl) ?_ ?_
                · rintro ρ w' he ⟨h118, h123, -⟩
                  have e118 : ρ 118 = (.bool true) := h118
                  have e123 : ρ 123 = (.bool true) := h123
                  simp [execOp, evR, e118, e123, go_sem]
                refine tele_move rfl (.inl rfl) rfl (isV (.bool true)) (fun ρ w' h => h) ?_
                refine tele_call rfl rfl Try.func9 (by kernel_rfl) (isV (.bool true)) (fun ρ w' hk => by obtain ⟨hg, -⟩ := hk; have eg : ρ 125 = (.bool true) := hg; simp [wantedR, Region.wanted, asBoolR, eg]) ?_ ?_
                · rintro ρ w' he -
                  simp only [evR, List.map_toArray, List.map_cons, List.map_nil]
                  refine (lives_any _).mono ?_
                  rintro e w'' ⟨rfl, he⟩
                  exact ⟨_, rfl, he, rfl⟩
                refine tele_val rfl (.bool true) (fun _ _ _ => rfl) ?_ ?_
                · rintro ρ w' he ⟨h125, h126, -⟩
                  have e125 : ρ 125 = (.bool true) := h125
                  have e126 : ρ 126 = (.bool true) := h126
                  simp [execOp, evR, e125, e126, go_sem]
                refine tele_move rfl (.inr rfl) rfl (isV (.bool true)) (fun ρ w' h => h) ?_
                refine tele_nil ?_
                rintro ρ w' hext ⟨f6, f127, f126, f125, f124, f123, f122, f121, f120, f119, f118, f117, f116, f115, f114, f113, f112, -⟩
                replace f112 : ρ 112 = (vecV a1 a2) := f112
                replace f113 : ρ 113 = (vecV (min a1 b1) (min a2 b2)) := f113
                replace f114 : (isVs [(a1, a2), ((min a1 b1), (min a2 b2))]).rel (ρ 114) w' := f114
                replace f115 : ρ 115 = (vecV a1 a2) := f115
                replace f116 : ρ 116 = (vecV a1 a2) := f116
                replace f117 : ρ 117 = (.bool true) := f117
                replace f118 : ρ 118 = (.bool true) := f118
                replace f119 : ρ 119 = (vecV a1 a2) := f119
                replace f120 : ρ 120 = (vecV (max a1 b1) (max a2 b2)) := f120
                replace f121 : ρ 121 = (vecV a1 a2) := f121
                replace f122 : ρ 122 = (vecV a1 a2) := f122
                replace f123 : ρ 123 = (.bool true) := f123
                replace f124 : ρ 124 = (.bool true) := f124
                replace f125 : ρ 125 = (.bool true) := f125
                replace f126 : ρ 126 = (.bool true) := f126
                replace f127 : ρ 127 = (.bool true) := f127
                replace f6 : ρ 6 = (.bool true) := f6
                simp only [puts, Act.put, List.setIfInBounds_toArray, List.set_cons_zero, List.set_cons_succ]
                rw [f6]
                go_wp2_with fail
                go_ret
                exact ⟨rfl, Ext.trans hx hext⟩
              · go_wp2_with fail
                refine (vecCovers_any (min a1 b1) (min a2 b2) c1 c2 _).mono ?_
                rintro e wk ⟨rfl, he⟩
                replace ba := ba.ext he
                replace bb := bb.ext he
                replace bc := bc.ext he
                replace bj := bj.ext he
                replace bm := bm.ext he
                replace hx := Ext.trans hx he
                clear bac0 bac1 baz0 baz1 bbc0 bbc1 bbz0 bbz1 bcc0 bcc1 bcz0 bcz1 bjc0 bjc1 bjz0 bjz1 bmc0 bmc1 bmz0 bmz1
                clear he
                have bac0 := ba.cell (i := 0) rfl
                have baz0 := ba.thaw 0
                have bac1 := ba.cell (i := 1) rfl
                have baz1 := ba.thaw 1
                have bbc0 := bb.cell (i := 0) rfl
                have bbz0 := bb.thaw 0
                have bbc1 := bb.cell (i := 1) rfl
                have bbz1 := bb.thaw 1
                have bcc0 := bc.cell (i := 0) rfl
                have bcz0 := bc.thaw 0
                have bcc1 := bc.cell (i := 1) rfl
                have bcz1 := bc.thaw 1
                have bjc0 := bj.cell (i := 0) rfl
                have bjz0 := bj.thaw 0
                have bjc1 := bj.cell (i := 1) rfl
                have bjz1 := bj.thaw 1
                have bmc0 := bm.cell (i := 0) rfl
                have bmz0 := bm.thaw 0
                have bmc1 := bm.cell (i := 1) rfl
                have bmz1 := bm.thaw 1
                rw [show vcovers (min a1 b1) (min a2 b2) c1 c2 = true by simp [vcovers] at hD1 hD2 ⊢; omega]
                go_wp2_with fail
                clear bac0 bac1 baz0 baz1 bbc0 bbc1 bbz0 bbz1 bcc0 bcc1 bcz0 bcz1 bjc0 bjc1 bjz0 bjz1 bmc0 bmc1 bmz0 bmz1
                refine wp_region_mono (by kernel_rfl) (by kernel_rfl) ?_
                refine tele_val rfl (vecV a1 a2) (fun _ _ _ => rfl) ?_ ?_
                · rintro ρ w' he ⟨h3, -⟩
                  have e3 : ρ 3 = (.pointer (some ⟨n, 0, none⟩)) := h3
                  have c0 := (ba.ext he).cell (i := 0) rfl
                  have c1 := (ba.ext he).cell (i := 1) rfl
                  simp [execOp, evR, e3, c0, c1, vecV, go_sem]
                refine tele_val rfl (vecV (min a1 b1) (min a2 b2)) (fun _ _ _ => rfl) ?_ ?_
                · rintro ρ w' he ⟨h8, -⟩
                  have e8 : ρ 8 = (.pointer (some ⟨n8, 0, none⟩)) := h8
                  have c0 := (bm.ext he).cell (i := 0) rfl
                  have c1 := (bm.ext he).cell (i := 1) rfl
                  simp [execOp, evR, e8, c0, c1, vecV, go_sem]
                refine tele_any rfl (isVs [(a1, a2), ((min a1 b1), (min a2 b2))]) ?_ ?_
                · rintro ρ w' he hk
                  rw [if_pos (show wantedR _ _ _ = true from rfl)]
                  obtain ⟨h112, h113, -⟩ := hk
                  have e112 : ρ 112 = (vecV a1 a2) := h112
                  have e113 : ρ 113 = (vecV (min a1 b1) (min a2 b2)) := h113
                  show monoUpon Try.prog w' _ ((execOp (evR ρ) { dst := _, op := .buildSlice 22 2 #[(0, .tmp 112), (1, .tmp 113)], type := _, pos := _, after := _, guard := _ }).run Try.prog w')
                  simp only [execOp, evR, List.map_toArray, List.map_cons, List.map_nil, e112, e113, vecV]
                  simp [go_sem]
                  exact ⟨ext_alloc _ _, Vs.two _ _ _ _ _ _⟩
                refine tele_call rfl rfl Try.func10 (by kernel_rfl) (isV (vecV a1 a2)) (fun _ _ _ => rfl) ?_ ?_
                · rintro ρ w' he ⟨h114, -⟩
                  have e114 : (isVs [(a1, a2), ((min a1 b1), (min a2 b2))]).rel (ρ 114) w' := h114
                  simp only [evR, List.map_toArray, List.map_cons, List.map_nil, e114]
                  have hj := vecJoin_any _ [(a1, a2), ((min a1 b1), (min a2 b2))] _ (show Vs w' _ _ from h114)
                  rw [vjoin2 _ _ _ _ (by omega) (by omega)] at hj
                  rw [show max a1 (min a1 b1) = a1 by omega] at hj
                  rw [show max a2 (min a2 b2) = a2 by omega] at hj
                  refine hj.mono ?_
                  rintro e w'' ⟨rfl, he⟩
                  exact ⟨_, rfl, he, rfl⟩
                refine tele_val rfl (vecV a1 a2) (fun _ _ _ => rfl) ?_ ?_
                · rintro ρ w' he ⟨h3, -⟩
                  have e3 : ρ 3 = (.pointer (some ⟨n, 0, none⟩)) := h3
                  have c0 := (ba.ext he).cell (i := 0) rfl
                  have c1 := (ba.ext he).cell (i := 1) rfl
                  simp [execOp, evR, e3, c0, c1, vecV, go_sem]
                refine tele_val rfl (.bool true) (fun _ _ _ => rfl) ?_ ?_
                · rintro ρ w' he ⟨h115, h116, -⟩
                  have e115 : ρ 115 = (vecV a1 a2) := h115
                  have e116 : ρ 116 = (vecV a1 a2) := h116
                  simp [execOp, evR, e115, e116, vecV, go_sem]
                refine tele_move rfl (.inl rfl) rfl (isV (.bool true)) (fun ρ w' h => h) ?_
                refine tele_val rfl (vecV a1 a2) (fun ρ w' hk => by obtain ⟨_, hg, -⟩ := hk; have eg : ρ 118 = (.bool true) := hg; simp [wantedR, Region.wanted, asBoolR, eg]) ?_ ?_
                · rintro ρ w' he ⟨h3, -⟩
                  have e3 : ρ 3 = (.pointer (some ⟨n, 0, none⟩)) := h3
                  have c0 := (ba.ext he).cell (i := 0) rfl
                  have c1 := (ba.ext he).cell (i := 1) rfl
                  simp [execOp, evR, e3, c0, c1, vecV, go_sem]
                refine tele_val rfl (vecV (max a1 b1) (max a2 b2)) (fun ρ w' hk => by obtain ⟨_, hg, -⟩ := hk; have eg : ρ 118 = (.bool true) := hg; simp [wantedR, Region.wanted, asBoolR, eg]) ?_ ?_
                · rintro ρ w' he ⟨h7, -⟩
                  have e7 : ρ 7 = (.pointer (some ⟨n7, 0, none⟩)) := h7
                  have c0 := (bj.ext he).cell (i := 0) rfl
                  have c1 := (bj.ext he).cell (i := 1) rfl
                  simp [execOp, evR, e7, c0, c1, vecV, go_sem]
                refine tele_call rfl rfl Try.func18 (by kernel_rfl) (isV (vecV a1 a2)) (fun ρ w' hk => by obtain ⟨_, _, hg, -⟩ := hk; have eg : ρ 118 = (.bool true) := hg; simp [wantedR, Region.wanted, asBoolR, eg]) ?_ ?_
                · rintro ρ w' he ⟨h119, h120, -⟩
                  have e119 : ρ 119 = (vecV a1 a2) := h119
                  have e120 : ρ 120 = (vecV (max a1 b1) (max a2 b2)) := h120
                  simp only [evR, List.map_toArray, List.map_cons, List.map_nil, e119, e120]
                  have hj := vecMeet_any a1 a2 (max a1 b1) (max a2 b2) w'
                  rw [show min a1 (max a1 b1) = a1 by omega] at hj
                  rw [show min a2 (max a2 b2) = a2 by omega] at hj
                  refine hj.mono ?_
                  rintro e w'' ⟨rfl, he⟩
                  exact ⟨_, rfl, he, rfl⟩
                refine tele_val rfl (vecV a1 a2) (fun ρ w' hk => by obtain ⟨_, hg, -⟩ := hk; have eg : ρ 118 = (.bool true) := hg; simp [wantedR, Region.wanted, asBoolR, eg]) ?_ ?_
                · rintro ρ w' he ⟨h3, -⟩
                  have e3 : ρ 3 = (.pointer (some ⟨n, 0, none⟩)) := h3
                  have c0 := (ba.ext he).cell (i := 0) rfl
                  have c1 := (ba.ext he).cell (i := 1) rfl
                  simp [execOp, evR, e3, c0, c1, vecV, go_sem]
                refine tele_val rfl (.bool true) (fun ρ w' hk => by obtain ⟨_, _, hg, -⟩ := hk; have eg : ρ 118 = (.bool true) := hg; simp [wantedR, Region.wanted, asBoolR, eg]) ?_ ?_
                · rintro ρ w' he ⟨h121, h122, -⟩
                  have e121 : ρ 121 = (vecV a1 a2) := h121
                  have e122 : ρ 122 = (vecV a1 a2) := h122
                  simp [execOp, evR, e121, e122, vecV, go_sem]
                refine tele_val rfl (.bool true) (fun _ _ _ => rfl) ?_ ?_
                · rintro ρ w' he ⟨h118, h123, -⟩
                  have e118 : ρ 118 = (.bool true) := h118
                  have e123 : ρ 123 = (.bool true) := h123
                  simp [execOp, evR, e118, e123, go_sem]
                refine tele_move rfl (.inl rfl) rfl (isV (.bool true)) (fun ρ w' h => h) ?_
                refine tele_call rfl rfl Try.func9 (by kernel_rfl) (isV (.bool true)) (fun ρ w' hk => by obtain ⟨hg, -⟩ := hk; have eg : ρ 125 = (.bool true) := hg; simp [wantedR, Region.wanted, asBoolR, eg]) ?_ ?_
                · rintro ρ w' he -
                  simp only [evR, List.map_toArray, List.map_cons, List.map_nil]
                  refine (lives_any _).mono ?_
                  rintro e w'' ⟨rfl, he⟩
                  exact ⟨_, rfl, he, rfl⟩
                refine tele_val rfl (.bool true) (fun _ _ _ => rfl) ?_ ?_
                · rintro ρ w' he ⟨h125, h126, -⟩
                  have e125 : ρ 125 = (.bool true) := h125
                  have e126 : ρ 126 = (.bool true) := h126
                  simp [execOp, evR, e125, e126, go_sem]
                refine tele_move rfl (.inr rfl) rfl (isV (.bool true)) (fun ρ w' h => h) ?_
                refine tele_nil ?_
                rintro ρ w' hext ⟨f6, f127, f126, f125, f124, f123, f122, f121, f120, f119, f118, f117, f116, f115, f114, f113, f112, -⟩
                replace f112 : ρ 112 = (vecV a1 a2) := f112
                replace f113 : ρ 113 = (vecV (min a1 b1) (min a2 b2)) := f113
                replace f114 : (isVs [(a1, a2), ((min a1 b1), (min a2 b2))]).rel (ρ 114) w' := f114
                replace f115 : ρ 115 = (vecV a1 a2) := f115
                replace f116 : ρ 116 = (vecV a1 a2) := f116
                replace f117 : ρ 117 = (.bool true) := f117
                replace f118 : ρ 118 = (.bool true) := f118
                replace f119 : ρ 119 = (vecV a1 a2) := f119
                replace f120 : ρ 120 = (vecV (max a1 b1) (max a2 b2)) := f120
                replace f121 : ρ 121 = (vecV a1 a2) := f121
                replace f122 : ρ 122 = (vecV a1 a2) := f122
                replace f123 : ρ 123 = (.bool true) := f123
                replace f124 : ρ 124 = (.bool true) := f124
                replace f125 : ρ 125 = (.bool true) := f125
                replace f126 : ρ 126 = (.bool true) := f126
                replace f127 : ρ 127 = (.bool true) := f127
                replace f6 : ρ 6 = (.bool true) := f6
                simp only [puts, Act.put, List.setIfInBounds_toArray, List.set_cons_zero, List.set_cons_succ]
                rw [f6]
                go_wp2_with fail
                go_ret
                exact ⟨rfl, Ext.trans hx hext⟩
          · go_wp2_with fail
            refine (vecCovers_any c1 c2 (max a1 b1) (max a2 b2) _).mono ?_
            rintro e wk ⟨rfl, he⟩
            replace ba := ba.ext he
            replace bb := bb.ext he
            replace bc := bc.ext he
            replace bj := bj.ext he
            replace bm := bm.ext he
            replace hx := Ext.trans hx he
            clear bac0 bac1 baz0 baz1 bbc0 bbc1 bbz0 bbz1 bcc0 bcc1 bcz0 bcz1 bjc0 bjc1 bjz0 bjz1 bmc0 bmc1 bmz0 bmz1
            clear he
            have bac0 := ba.cell (i := 0) rfl
            have baz0 := ba.thaw 0
            have bac1 := ba.cell (i := 1) rfl
            have baz1 := ba.thaw 1
            have bbc0 := bb.cell (i := 0) rfl
            have bbz0 := bb.thaw 0
            have bbc1 := bb.cell (i := 1) rfl
            have bbz1 := bb.thaw 1
            have bcc0 := bc.cell (i := 0) rfl
            have bcz0 := bc.thaw 0
            have bcc1 := bc.cell (i := 1) rfl
            have bcz1 := bc.thaw 1
            have bjc0 := bj.cell (i := 0) rfl
            have bjz0 := bj.thaw 0
            have bjc1 := bj.cell (i := 1) rfl
            have bjz1 := bj.thaw 1
            have bmc0 := bm.cell (i := 0) rfl
            have bmz0 := bm.thaw 0
            have bmc1 := bm.cell (i := 1) rfl
            have bmz1 := bm.thaw 1
            rw [show vcovers c1 c2 (max a1 b1) (max a2 b2) = true by simp [vcovers] at hC1 hC2 ⊢; omega]
            go_wp2_with fail
            refine (vecCovers_any a1 a2 c1 c2 _).mono ?_
            rintro e wk ⟨rfl, he⟩
            replace ba := ba.ext he
            replace bb := bb.ext he
            replace bc := bc.ext he
            replace bj := bj.ext he
            replace bm := bm.ext he
            replace hx := Ext.trans hx he
            clear bac0 bac1 baz0 baz1 bbc0 bbc1 bbz0 bbz1 bcc0 bcc1 bcz0 bcz1 bjc0 bjc1 bjz0 bjz1 bmc0 bmc1 bmz0 bmz1
            clear he
            have bac0 := ba.cell (i := 0) rfl
            have baz0 := ba.thaw 0
            have bac1 := ba.cell (i := 1) rfl
            have baz1 := ba.thaw 1
            have bbc0 := bb.cell (i := 0) rfl
            have bbz0 := bb.thaw 0
            have bbc1 := bb.cell (i := 1) rfl
            have bbz1 := bb.thaw 1
            have bcc0 := bc.cell (i := 0) rfl
            have bcz0 := bc.thaw 0
            have bcc1 := bc.cell (i := 1) rfl
            have bcz1 := bc.thaw 1
            have bjc0 := bj.cell (i := 0) rfl
            have bjz0 := bj.thaw 0
            have bjc1 := bj.cell (i := 1) rfl
            have bjz1 := bj.thaw 1
            have bmc0 := bm.cell (i := 0) rfl
            have bmz0 := bm.thaw 0
            have bmc1 := bm.cell (i := 1) rfl
            have bmz1 := bm.thaw 1
            cases hD1 : vcovers a1 a2 c1 c2
            · go_wp2_with fail
              clear bac0 bac1 baz0 baz1 bbc0 bbc1 bbz0 bbz1 bcc0 bcc1 bcz0 bcz1 bjc0 bjc1 bjz0 bjz1 bmc0 bmc1 bmz0 bmz1
              refine wp_region_mono (by kernel_rfl) (by kernel_rfl) ?_
              refine tele_val rfl (vecV a1 a2) (fun _ _ _ => rfl) ?_ ?_
              · rintro ρ w' he ⟨h3, -⟩
                have e3 : ρ 3 = (.pointer (some ⟨n, 0, none⟩)) := h3
                have c0 := (ba.ext he).cell (i := 0) rfl
                have c1 := (ba.ext he).cell (i := 1) rfl
                simp [execOp, evR, e3, c0, c1, vecV, go_sem]
              refine tele_val rfl (vecV (min a1 b1) (min a2 b2)) (fun _ _ _ => rfl) ?_ ?_
              · rintro ρ w' he ⟨h8, -⟩
                have e8 : ρ 8 = (.pointer (some ⟨n8, 0, none⟩)) := h8
                have c0 := (bm.ext he).cell (i := 0) rfl
                have c1 := (bm.ext he).cell (i := 1) rfl
                simp [execOp, evR, e8, c0, c1, vecV, go_sem]
              refine tele_any rfl (isVs [(a1, a2), ((min a1 b1), (min a2 b2))]) ?_ ?_
              · rintro ρ w' he hk
                rw [if_pos (show wantedR _ _ _ = true from rfl)]
                obtain ⟨h112, h113, -⟩ := hk
                have e112 : ρ 112 = (vecV a1 a2) := h112
                have e113 : ρ 113 = (vecV (min a1 b1) (min a2 b2)) := h113
                show monoUpon Try.prog w' _ ((execOp (evR ρ) { dst := _, op := .buildSlice 22 2 #[(0, .tmp 112), (1, .tmp 113)], type := _, pos := _, after := _, guard := _ }).run Try.prog w')
                simp only [execOp, evR, List.map_toArray, List.map_cons, List.map_nil, e112, e113, vecV]
                simp [go_sem]
                exact ⟨ext_alloc _ _, Vs.two _ _ _ _ _ _⟩
              refine tele_call rfl rfl Try.func10 (by kernel_rfl) (isV (vecV a1 a2)) (fun _ _ _ => rfl) ?_ ?_
              · rintro ρ w' he ⟨h114, -⟩
                have e114 : (isVs [(a1, a2), ((min a1 b1), (min a2 b2))]).rel (ρ 114) w' := h114
                simp only [evR, List.map_toArray, List.map_cons, List.map_nil, e114]
                have hj := vecJoin_any _ [(a1, a2), ((min a1 b1), (min a2 b2))] _ (show Vs w' _ _ from h114)
                rw [vjoin2 _ _ _ _ (by omega) (by omega)] at hj
                rw [show max a1 (min a1 b1) = a1 by omega] at hj
                rw [show max a2 (min a2 b2) = a2 by omega] at hj
                refine hj.mono ?_
                rintro e w'' ⟨rfl, he⟩
                exact ⟨_, rfl, he, rfl⟩
              refine tele_val rfl (vecV a1 a2) (fun _ _ _ => rfl) ?_ ?_
              · rintro ρ w' he ⟨h3, -⟩
                have e3 : ρ 3 = (.pointer (some ⟨n, 0, none⟩)) := h3
                have c0 := (ba.ext he).cell (i := 0) rfl
                have c1 := (ba.ext he).cell (i := 1) rfl
                simp [execOp, evR, e3, c0, c1, vecV, go_sem]
              refine tele_val rfl (.bool true) (fun _ _ _ => rfl) ?_ ?_
              · rintro ρ w' he ⟨h115, h116, -⟩
                have e115 : ρ 115 = (vecV a1 a2) := h115
                have e116 : ρ 116 = (vecV a1 a2) := h116
                simp [execOp, evR, e115, e116, vecV, go_sem]
              refine tele_move rfl (.inl rfl) rfl (isV (.bool true)) (fun ρ w' h => h) ?_
              refine tele_val rfl (vecV a1 a2) (fun ρ w' hk => by obtain ⟨_, hg, -⟩ := hk; have eg : ρ 118 = (.bool true) := hg; simp [wantedR, Region.wanted, asBoolR, eg]) ?_ ?_
              · rintro ρ w' he ⟨h3, -⟩
                have e3 : ρ 3 = (.pointer (some ⟨n, 0, none⟩)) := h3
                have c0 := (ba.ext he).cell (i := 0) rfl
                have c1 := (ba.ext he).cell (i := 1) rfl
                simp [execOp, evR, e3, c0, c1, vecV, go_sem]
              refine tele_val rfl (vecV (max a1 b1) (max a2 b2)) (fun ρ w' hk => by obtain ⟨_, hg, -⟩ := hk; have eg : ρ 118 = (.bool true) := hg; simp [wantedR, Region.wanted, asBoolR, eg]) ?_ ?_
              · rintro ρ w' he ⟨h7, -⟩
                have e7 : ρ 7 = (.pointer (some ⟨n7, 0, none⟩)) := h7
                have c0 := (bj.ext he).cell (i := 0) rfl
                have c1 := (bj.ext he).cell (i := 1) rfl
                simp [execOp, evR, e7, c0, c1, vecV, go_sem]
              refine tele_call rfl rfl Try.func18 (by kernel_rfl) (isV (vecV a1 a2)) (fun ρ w' hk => by obtain ⟨_, _, hg, -⟩ := hk; have eg : ρ 118 = (.bool true) := hg; simp [wantedR, Region.wanted, asBoolR, eg]) ?_ ?_
              · rintro ρ w' he ⟨h119, h120, -⟩
                have e119 : ρ 119 = (vecV a1 a2) := h119
                have e120 : ρ 120 = (vecV (max a1 b1) (max a2 b2)) := h120
                simp only [evR, List.map_toArray, List.map_cons, List.map_nil, e119, e120]
                have hj := vecMeet_any a1 a2 (max a1 b1) (max a2 b2) w'
                rw [show min a1 (max a1 b1) = a1 by omega] at hj
                rw [show min a2 (max a2 b2) = a2 by omega] at hj
                refine hj.mono ?_
                rintro e w'' ⟨rfl, he⟩
                exact ⟨_, rfl, he, rfl⟩
              refine tele_val rfl (vecV a1 a2) (fun ρ w' hk => by obtain ⟨_, hg, -⟩ := hk; have eg : ρ 118 = (.bool true) := hg; simp [wantedR, Region.wanted, asBoolR, eg]) ?_ ?_
              · rintro ρ w' he ⟨h3, -⟩
                have e3 : ρ 3 = (.pointer (some ⟨n, 0, none⟩)) := h3
                have c0 := (ba.ext he).cell (i := 0) rfl
                have c1 := (ba.ext he).cell (i := 1) rfl
                simp [execOp, evR, e3, c0, c1, vecV, go_sem]
              refine tele_val rfl (.bool true) (fun ρ w' hk => by obtain ⟨_, _, hg, -⟩ := hk; have eg : ρ 118 = (.bool true) := hg; simp [wantedR, Region.wanted, asBoolR, eg]) ?_ ?_
              · rintro ρ w' he ⟨h121, h122, -⟩
                have e121 : ρ 121 = (vecV a1 a2) := h121
                have e122 : ρ 122 = (vecV a1 a2) := h122
                simp [execOp, evR, e121, e122, vecV, go_sem]
              refine tele_val rfl (.bool true) (fun _ _ _ => rfl) ?_ ?_
              · rintro ρ w' he ⟨h118, h123, -⟩
                have e118 : ρ 118 = (.bool true) := h118
                have e123 : ρ 123 = (.bool true) := h123
                simp [execOp, evR, e118, e123, go_sem]
              refine tele_move rfl (.inl rfl) rfl (isV (.bool true)) (fun ρ w' h => h) ?_
              refine tele_call rfl rfl Try.func9 (by kernel_rfl) (isV (.bool true)) (fun ρ w' hk => by obtain ⟨hg, -⟩ := hk; have eg : ρ 125 = (.bool true) := hg; simp [wantedR, Region.wanted, asBoolR, eg]) ?_ ?_
              · rintro ρ w' he -
                simp only [evR, List.map_toArray, List.map_cons, List.map_nil]
                refine (lives_any _).mono ?_
                rintro e w'' ⟨rfl, he⟩
                exact ⟨_, rfl, he, rfl⟩
              refine tele_val rfl (.bool true) (fun _ _ _ => rfl) ?_ ?_
              · rintro ρ w' he ⟨h125, h126, -⟩
                have e125 : ρ 125 = (.bool true) := h125
                have e126 : ρ 126 = (.bool true) := h126
                simp [execOp, evR, e125, e126, go_sem]
              refine tele_move rfl (.inr rfl) rfl (isV (.bool true)) (fun ρ w' h => h) ?_
              refine tele_nil ?_
              rintro ρ w' hext ⟨f6, f127, f126, f125, f124, f123, f122, f121, f120, f119, f118, f117, f116, f115, f114, f113, f112, -⟩
              replace f112 : ρ 112 = (vecV a1 a2) := f112
              replace f113 : ρ 113 = (vecV (min a1 b1) (min a2 b2)) := f113
              replace f114 : (isVs [(a1, a2), ((min a1 b1), (min a2 b2))]).rel (ρ 114) w' := f114
              replace f115 : ρ 115 = (vecV a1 a2) := f115
              replace f116 : ρ 116 = (vecV a1 a2) := f116
              replace f117 : ρ 117 = (.bool true) := f117
              replace f118 : ρ 118 = (.bool true) := f118
              replace f119 : ρ 119 = (vecV a1 a2) := f119
              replace f120 : ρ 120 = (vecV (max a1 b1) (max a2 b2)) := f120
              replace f121 : ρ 121 = (vecV a1 a2) := f121
              replace f122 : ρ 122 = (vecV a1 a2) := f122
              replace f123 : ρ 123 = (.bool true) := f123
              replace f124 : ρ 124 = (.bool true) := f124
              replace f125 : ρ 125 = (.bool true) := f125
              replace f126 : ρ 126 = (.bool true) := f126
              replace f127 : ρ 127 = (.bool true) := f127
              replace f6 : ρ 6 = (.bool true) := f6
              simp only [puts, Act.put, List.setIfInBounds_toArray, List.set_cons_zero, List.set_cons_succ]
              rw [f6]
              go_wp2_with fail
              go_ret
              exact ⟨rfl, Ext.trans hx hext⟩
            · go_wp2_with fail
              refine (vecCovers_any b1 b2 c1 c2 _).mono ?_
              rintro e wk ⟨rfl, he⟩
              replace ba := ba.ext he
              replace bb := bb.ext he
              replace bc := bc.ext he
              replace bj := bj.ext he
              replace bm := bm.ext he
              replace hx := Ext.trans hx he
              clear bac0 bac1 baz0 baz1 bbc0 bbc1 bbz0 bbz1 bcc0 bcc1 bcz0 bcz1 bjc0 bjc1 bjz0 bjz1 bmc0 bmc1 bmz0 bmz1
              clear he
              have bac0 := ba.cell (i := 0) rfl
              have baz0 := ba.thaw 0
              have bac1 := ba.cell (i := 1) rfl
              have baz1 := ba.thaw 1
              have bbc0 := bb.cell (i := 0) rfl
              have bbz0 := bb.thaw 0
              have bbc1 := bb.cell (i := 1) rfl
              have bbz1 := bb.thaw 1
              have bcc0 := bc.cell (i := 0) rfl
              have bcz0 := bc.thaw 0
              have bcc1 := bc.cell (i := 1) rfl
              have bcz1 := bc.thaw 1
              have bjc0 := bj.cell (i := 0) rfl
              have bjz0 := bj.thaw 0
              have bjc1 := bj.cell (i := 1) rfl
              have bjz1 := bj.thaw 1
              have bmc0 := bm.cell (i := 0) rfl
              have bmz0 := bm.thaw 0
              have bmc1 := bm.cell (i := 1) rfl
              have bmz1 := bm.thaw 1
              cases hD2 : vcovers b1 b2 c1 c2
              · go_wp2_with fail
                clear bac0 bac1 baz0 baz1 bbc0 bbc1 bbz0 bbz1 bcc0 bcc1 bcz0 bcz1 bjc0 bjc1 bjz0 bjz1 bmc0 bmc1 bmz0 bmz1
                refine wp_region_mono (by kernel_rfl) (by kernel_rfl) ?_
                refine tele_val rfl (vecV a1 a2) (fun _ _ _ => rfl) ?_ ?_
                · rintro ρ w' he ⟨h3, -⟩
                  have e3 : ρ 3 = (.pointer (some ⟨n, 0, none⟩)) := h3
                  have c0 := (ba.ext he).cell (i := 0) rfl
                  have c1 := (ba.ext he).cell (i := 1) rfl
                  simp [execOp, evR, e3, c0, c1, vecV, go_sem]
                refine tele_val rfl (vecV (min a1 b1) (min a2 b2)) (fun _ _ _ => rfl) ?_ ?_
                · rintro ρ w' he ⟨h8, -⟩
                  have e8 : ρ 8 = (.pointer (some ⟨n8, 0, none⟩)) := h8
                  have c0 := (bm.ext he).cell (i := 0) rfl
                  have c1 := (bm.ext he).cell (i := 1) rfl
                  simp [execOp, evR, e8, c0, c1, vecV, go_sem]
                refine tele_any rfl (isVs [(a1, a2), ((min a1 b1), (min a2 b2))]) ?_ ?_
                · rintro ρ w' he hk
                  rw [if_pos (show wantedR _ _ _ = true from rfl)]
                  obtain ⟨h112, h113, -⟩ := hk
                  have e112 : ρ 112 = (vecV a1 a2) := h112
                  have e113 : ρ 113 = (vecV (min a1 b1) (min a2 b2)) := h113
                  show monoUpon Try.prog w' _ ((execOp (evR ρ) { dst := _, op := .buildSlice 22 2 #[(0, .tmp 112), (1, .tmp 113)], type := _, pos := _, after := _, guard := _ }).run Try.prog w')
                  simp only [execOp, evR, List.map_toArray, List.map_cons, List.map_nil, e112, e113, vecV]
                  simp [go_sem]
                  exact ⟨ext_alloc _ _, Vs.two _ _ _ _ _ _⟩
                refine tele_call rfl rfl Try.func10 (by kernel_rfl) (isV (vecV a1 a2)) (fun _ _ _ => rfl) ?_ ?_
                · rintro ρ w' he ⟨h114, -⟩
                  have e114 : (isVs [(a1, a2), ((min a1 b1), (min a2 b2))]).rel (ρ 114) w' := h114
                  simp only [evR, List.map_toArray, List.map_cons, List.map_nil, e114]
                  have hj := vecJoin_any _ [(a1, a2), ((min a1 b1), (min a2 b2))] _ (show Vs w' _ _ from h114)
                  rw [vjoin2 _ _ _ _ (by omega) (by omega)] at hj
                  rw [show max a1 (min a1 b1) = a1 by omega] at hj
                  rw [show max a2 (min a2 b2) = a2 by omega] at hj
                  refine hj.mono ?_
                  rintro e w'' ⟨rfl, he⟩
                  exact ⟨_, rfl, he, rfl⟩
                refine tele_val rfl (vecV a1 a2) (fun _ _ _ => rfl) ?_ ?_
                · rintro ρ w' he ⟨h3, -⟩
                  have e3 : ρ 3 = (.pointer (some ⟨n, 0, none⟩)) := h3
                  have c0 := (ba.ext he).cell (i := 0) rfl
                  have c1 := (ba.ext he).cell (i := 1) rfl
                  simp [execOp, evR, e3, c0, c1, vecV, go_sem]
                refine tele_val rfl (.bool true) (fun _ _ _ => rfl) ?_ ?_
                · rintro ρ w' he ⟨h115, h116, -⟩
                  have e115 : ρ 115 = (vecV a1 a2) := h115
                  have e116 : ρ 116 = (vecV a1 a2) := h116
                  simp [execOp, evR, e115, e116, vecV, go_sem]
                refine tele_move rfl (.inl rfl) rfl (isV (.bool true)) (fun ρ w' h => h) ?_
                refine tele_val rfl (vecV a1 a2) (fun ρ w' hk => by obtain ⟨_, hg, -⟩ := hk; have eg : ρ 118 = (.bool true) := hg; simp [wantedR, Region.wanted, asBoolR, eg]) ?_ ?_
                · rintro ρ w' he ⟨h3, -⟩
                  have e3 : ρ 3 = (.pointer (some ⟨n, 0, none⟩)) := h3
                  have c0 := (ba.ext he).cell (i := 0) rfl
                  have c1 := (ba.ext he).cell (i := 1) rfl
                  simp [execOp, evR, e3, c0, c1, vecV, go_sem]
                refine tele_val rfl (vecV (max a1 b1) (max a2 b2)) (fun ρ w' hk => by obtain ⟨_, hg, -⟩ := hk; have eg : ρ 118 = (.bool true) := hg; simp [wantedR, Region.wanted, asBoolR, eg]) ?_ ?_
                · rintro ρ w' he ⟨h7, -⟩
                  have e7 : ρ 7 = (.pointer (some ⟨n7, 0, none⟩)) := h7
                  have c0 := (bj.ext he).cell (i := 0) rfl
                  have c1 := (bj.ext he).cell (i := 1) rfl
                  simp [execOp, evR, e7, c0, c1, vecV, go_sem]
                refine tele_call rfl rfl Try.func18 (by kernel_rfl) (isV (vecV a1 a2)) (fun ρ w' hk => by obtain ⟨_, _, hg, -⟩ := hk; have eg : ρ 118 = (.bool true) := hg; simp [wantedR, Region.wanted, asBoolR, eg]) ?_ ?_
                · rintro ρ w' he ⟨h119, h120, -⟩
                  have e119 : ρ 119 = (vecV a1 a2) := h119
                  have e120 : ρ 120 = (vecV (max a1 b1) (max a2 b2)) := h120
                  simp only [evR, List.map_toArray, List.map_cons, List.map_nil, e119, e120]
                  have hj := vecMeet_any a1 a2 (max a1 b1) (max a2 b2) w'
                  rw [show min a1 (max a1 b1) = a1 by omega] at hj
                  rw [show min a2 (max a2 b2) = a2 by omega] at hj
                  refine hj.mono ?_
                  rintro e w'' ⟨rfl, he⟩
                  exact ⟨_, rfl, he, rfl⟩
                refine tele_val rfl (vecV a1 a2) (fun ρ w' hk => by obtain ⟨_, hg, -⟩ := hk; have eg : ρ 118 = (.bool true) := hg; simp [wantedR, Region.wanted, asBoolR, eg]) ?_ ?_
                · rintro ρ w' he ⟨h3, -⟩
                  have e3 : ρ 3 = (.pointer (some ⟨n, 0, none⟩)) := h3
                  have c0 := (ba.ext he).cell (i := 0) rfl
                  have c1 := (ba.ext he).cell (i := 1) rfl
                  simp [execOp, evR, e3, c0, c1, vecV, go_sem]
                refine tele_val rfl (.bool true) (fun ρ w' hk => by obtain ⟨_, _, hg, -⟩ := hk; have eg : ρ 118 = (.bool true) := hg; simp [wantedR, Region.wanted, asBoolR, eg]) ?_ ?_
                · rintro ρ w' he ⟨h121, h122, -⟩
                  have e121 : ρ 121 = (vecV a1 a2) := h121
                  have e122 : ρ 122 = (vecV a1 a2) := h122
                  simp [execOp, evR, e121, e122, vecV, go_sem]
                refine tele_val rfl (.bool true) (fun _ _ _ => rfl) ?_ ?_
                · rintro ρ w' he ⟨h118, h123, -⟩
                  have e118 : ρ 118 = (.bool true) := h118
                  have e123 : ρ 123 = (.bool true) := h123
                  simp [execOp, evR, e118, e123, go_sem]
                refine tele_move rfl (.inl rfl) rfl (isV (.bool true)) (fun ρ w' h => h) ?_
                refine tele_call rfl rfl Try.func9 (by kernel_rfl) (isV (.bool true)) (fun ρ w' hk => by obtain ⟨hg, -⟩ := hk; have eg : ρ 125 = (.bool true) := hg; simp [wantedR, Region.wanted, asBoolR, eg]) ?_ ?_
                · rintro ρ w' he -
                  simp only [evR, List.map_toArray, List.map_cons, List.map_nil]
                  refine (lives_any _).mono ?_
                  rintro e w'' ⟨rfl, he⟩
                  exact ⟨_, rfl, he, rfl⟩
                refine tele_val rfl (.bool true) (fun _ _ _ => rfl) ?_ ?_
                · rintro ρ w' he ⟨h125, h126, -⟩
                  have e125 : ρ 125 = (.bool true) := h125
                  have e126 : ρ 126 = (.bool true) := h126
                  simp [execOp, evR, e125, e126, go_sem]
                refine tele_move rfl (.inr rfl) rfl (isV (.bool true)) (fun ρ w' h => h) ?_
                refine tele_nil ?_
                rintro ρ w' hext ⟨f6, f127, f126, f125, f124, f123, f122, f121, f120, f119, f118, f117, f116, f115, f114, f113, f112, -⟩
                replace f112 : ρ 112 = (vecV a1 a2) := f112
                replace f113 : ρ 113 = (vecV (min a1 b1) (min a2 b2)) := f113
                replace f114 : (isVs [(a1, a2), ((min a1 b1), (min a2 b2))]).rel (ρ 114) w' := f114
                replace f115 : ρ 115 = (vecV a1 a2) := f115
                replace f116 : ρ 116 = (vecV a1 a2) := f116
                replace f117 : ρ 117 = (.bool true) := f117
                replace f118 : ρ 118 = (.bool true) := f118
                replace f119 : ρ 119 = (vecV a1 a2) := f119
                replace f120 : ρ 120 = (vecV (max a1 b1) (max a2 b2)) := f120
                replace f121 : ρ 121 = (vecV a1 a2) := f121
                replace f122 : ρ 122 = (vecV a1 a2) := f122
                replace f123 : ρ 123 = (.bool true) := f123
                replace f124 : ρ 124 = (.bool true) := f124
                replace f125 : ρ 125 = (.bool true) := f125
                replace f126 : ρ 126 = (.bool true) := f126
                replace f127 : ρ 127 = (.bool true) := f127
                replace f6 : ρ 6 = (.bool true) := f6
                simp only [puts, Act.put, List.setIfInBounds_toArray, List.set_cons_zero, List.set_cons_succ]
                rw [f6]
                go_wp2_with fail
                go_ret
                exact ⟨rfl, Ext.trans hx hext⟩
              · go_wp2_with fail
                refine (vecCovers_any (min a1 b1) (min a2 b2) c1 c2 _).mono ?_
                rintro e wk ⟨rfl, he⟩
                replace ba := ba.ext he
                replace bb := bb.ext he
                replace bc := bc.ext he
                replace bj := bj.ext he
                replace bm := bm.ext he
                replace hx := Ext.trans hx he
                clear bac0 bac1 baz0 baz1 bbc0 bbc1 bbz0 bbz1 bcc0 bcc1 bcz0 bcz1 bjc0 bjc1 bjz0 bjz1 bmc0 bmc1 bmz0 bmz1
                clear he
                have bac0 := ba.cell (i := 0) rfl
                have baz0 := ba.thaw 0
                have bac1 := ba.cell (i := 1) rfl
                have baz1 := ba.thaw 1
                have bbc0 := bb.cell (i := 0) rfl
                have bbz0 := bb.thaw 0
                have bbc1 := bb.cell (i := 1) rfl
                have bbz1 := bb.thaw 1
                have bcc0 := bc.cell (i := 0) rfl
                have bcz0 := bc.thaw 0
                have bcc1 := bc.cell (i := 1) rfl
                have bcz1 := bc.thaw 1
                have bjc0 := bj.cell (i := 0) rfl
                have bjz0 := bj.thaw 0
                have bjc1 := bj.cell (i := 1) rfl
                have bjz1 := bj.thaw 1
                have bmc0 := bm.cell (i := 0) rfl
                have bmz0 := bm.thaw 0
                have bmc1 := bm.cell (i := 1) rfl
                have bmz1 := bm.thaw 1
                rw [show vcovers (min a1 b1) (min a2 b2) c1 c2 = true by simp [vcovers] at hD1 hD2 ⊢; omega]
                go_wp2_with fail
                clear bac0 bac1 baz0 baz1 bbc0 bbc1 bbz0 bbz1 bcc0 bcc1 bcz0 bcz1 bjc0 bjc1 bjz0 bjz1 bmc0 bmc1 bmz0 bmz1
                refine wp_region_mono (by kernel_rfl) (by kernel_rfl) ?_
                refine tele_val rfl (vecV a1 a2) (fun _ _ _ => rfl) ?_ ?_
                · rintro ρ w' he ⟨h3, -⟩
                  have e3 : ρ 3 = (.pointer (some ⟨n, 0, none⟩)) := h3
                  have c0 := (ba.ext he).cell (i := 0) rfl
                  have c1 := (ba.ext he).cell (i := 1) rfl
                  simp [execOp, evR, e3, c0, c1, vecV, go_sem]
                refine tele_val rfl (vecV (min a1 b1) (min a2 b2)) (fun _ _ _ => rfl) ?_ ?_
                · rintro ρ w' he ⟨h8, -⟩
                  have e8 : ρ 8 = (.pointer (some ⟨n8, 0, none⟩)) := h8
                  have c0 := (bm.ext he).cell (i := 0) rfl
                  have c1 := (bm.ext he).cell (i := 1) rfl
                  simp [execOp, evR, e8, c0, c1, vecV, go_sem]
                refine tele_any rfl (isVs [(a1, a2), ((min a1 b1), (min a2 b2))]) ?_ ?_
                · rintro ρ w' he hk
                  rw [if_pos (show wantedR _ _ _ = true from rfl)]
                  obtain ⟨h112, h113, -⟩ := hk
                  have e112 : ρ 112 = (vecV a1 a2) := h112
                  have e113 : ρ 113 = (vecV (min a1 b1) (min a2 b2)) := h113
                  show monoUpon Try.prog w' _ ((execOp (evR ρ) { dst := _, op := .buildSlice 22 2 #[(0, .tmp 112), (1, .tmp 113)], type := _, pos := _, after := _, guard := _ }).run Try.prog w')
                  simp only [execOp, evR, List.map_toArray, List.map_cons, List.map_nil, e112, e113, vecV]
                  simp [go_sem]
                  exact ⟨ext_alloc _ _, Vs.two _ _ _ _ _ _⟩
                refine tele_call rfl rfl Try.func10 (by kernel_rfl) (isV (vecV a1 a2)) (fun _ _ _ => rfl) ?_ ?_
                · rintro ρ w' he ⟨h114, -⟩
                  have e114 : (isVs [(a1, a2), ((min a1 b1), (min a2 b2))]).rel (ρ 114) w' := h114
                  simp only [evR, List.map_toArray, List.map_cons, List.map_nil, e114]
                  have hj := vecJoin_any _ [(a1, a2), ((min a1 b1), (min a2 b2))] _ (show Vs w' _ _ from h114)
                  rw [vjoin2 _ _ _ _ (by omega) (by omega)] at hj
                  rw [show max a1 (min a1 b1) = a1 by omega] at hj
                  rw [show max a2 (min a2 b2) = a2 by omega] at hj
                  refine hj.mono ?_
                  rintro e w'' ⟨rfl, he⟩
                  exact ⟨_, rfl, he, rfl⟩
                refine tele_val rfl (vecV a1 a2) (fun _ _ _ => rfl) ?_ ?_
                · rintro ρ w' he ⟨h3, -⟩
                  have e3 : ρ 3 = (.pointer (some ⟨n, 0, none⟩)) := h3
                  have c0 := (ba.ext he).cell (i := 0) rfl
                  have c1 := (ba.ext he).cell (i := 1) rfl
                  simp [execOp, evR, e3, c0, c1, vecV, go_sem]
                refine tele_val rfl (.bool true) (fun _ _ _ => rfl) ?_ ?_
                · rintro ρ w' he ⟨h115, h116, -⟩
                  have e115 : ρ 115 = (vecV a1 a2) := h115
                  have e116 : ρ 116 = (vecV a1 a2) := h116
                  simp [execOp, evR, e115, e116, vecV, go_sem]
                refine tele_move rfl (.inl rfl) rfl (isV (.bool true)) (fun ρ w' h => h) ?_
                refine tele_val rfl (vecV a1 a2) (fun ρ w' hk => by obtain ⟨_, hg, -⟩ := hk; have eg : ρ 118 = (.bool true) := hg; simp [wantedR, Region.wanted, asBoolR, eg]) ?_ ?_
                · rintro ρ w' he ⟨h3, -⟩
                  have e3 : ρ 3 = (.pointer (some ⟨n, 0, none⟩)) := h3
                  have c0 := (ba.ext he).cell (i := 0) rfl
                  have c1 := (ba.ext he).cell (i := 1) rfl
                  simp [execOp, evR, e3, c0, c1, vecV, go_sem]
                refine tele_val rfl (vecV (max a1 b1) (max a2 b2)) (fun ρ w' hk => by obtain ⟨_, hg, -⟩ := hk; have eg : ρ 118 = (.bool true) := hg; simp [wantedR, Region.wanted, asBoolR, eg]) ?_ ?_
                · rintro ρ w' he ⟨h7, -⟩
                  have e7 : ρ 7 = (.pointer (some ⟨n7, 0, none⟩)) := h7
                  have c0 := (bj.ext he).cell (i := 0) rfl
                  have c1 := (bj.ext he).cell (i := 1) rfl
                  simp [execOp, evR, e7, c0, c1, vecV, go_sem]
                refine tele_call rfl rfl Try.func18 (by kernel_rfl) (isV (vecV a1 a2)) (fun ρ w' hk => by obtain ⟨_, _, hg, -⟩ := hk; have eg : ρ 118 = (.bool true) := hg; simp [wantedR, Region.wanted, asBoolR, eg]) ?_ ?_
                · rintro ρ w' he ⟨h119, h120, -⟩
                  have e119 : ρ 119 = (vecV a1 a2) := h119
                  have e120 : ρ 120 = (vecV (max a1 b1) (max a2 b2)) := h120
                  simp only [evR, List.map_toArray, List.map_cons, List.map_nil, e119, e120]
                  have hj := vecMeet_any a1 a2 (max a1 b1) (max a2 b2) w'
                  rw [show min a1 (max a1 b1) = a1 by omega] at hj
                  rw [show min a2 (max a2 b2) = a2 by omega] at hj
                  refine hj.mono ?_
                  rintro e w'' ⟨rfl, he⟩
                  exact ⟨_, rfl, he, rfl⟩
                refine tele_val rfl (vecV a1 a2) (fun ρ w' hk => by obtain ⟨_, hg, -⟩ := hk; have eg : ρ 118 = (.bool true) := hg; simp [wantedR, Region.wanted, asBoolR, eg]) ?_ ?_
                · rintro ρ w' he ⟨h3, -⟩
                  have e3 : ρ 3 = (.pointer (some ⟨n, 0, none⟩)) := h3
                  have c0 := (ba.ext he).cell (i := 0) rfl
                  have c1 := (ba.ext he).cell (i := 1) rfl
                  simp [execOp, evR, e3, c0, c1, vecV, go_sem]
                refine tele_val rfl (.bool true) (fun ρ w' hk => by obtain ⟨_, _, hg, -⟩ := hk; have eg : ρ 118 = (.bool true) := hg; simp [wantedR, Region.wanted, asBoolR, eg]) ?_ ?_
                · rintro ρ w' he ⟨h121, h122, -⟩
                  have e121 : ρ 121 = (vecV a1 a2) := h121
                  have e122 : ρ 122 = (vecV a1 a2) := h122
                  simp [execOp, evR, e121, e122, vecV, go_sem]
                refine tele_val rfl (.bool true) (fun _ _ _ => rfl) ?_ ?_
                · rintro ρ w' he ⟨h118, h123, -⟩
                  have e118 : ρ 118 = (.bool true) := h118
                  have e123 : ρ 123 = (.bool true) := h123
                  simp [execOp, evR, e118, e123, go_sem]
                refine tele_move rfl (.inl rfl) rfl (isV (.bool true)) (fun ρ w' h => h) ?_
                refine tele_call rfl rfl Try.func9 (by kernel_rfl) (isV (.bool true)) (fun ρ w' hk => by obtain ⟨hg, -⟩ := hk; have eg : ρ 125 = (.bool true) := hg; simp [wantedR, Region.wanted, asBoolR, eg]) ?_ ?_
                · rintro ρ w' he -
                  simp only [evR, List.map_toArray, List.map_cons, List.map_nil]
                  refine (lives_any _).mono ?_
                  rintro e w'' ⟨rfl, he⟩
                  exact ⟨_, rfl, he, rfl⟩
                refine tele_val rfl (.bool true) (fun _ _ _ => rfl) ?_ ?_
                · rintro ρ w' he ⟨h125, h126, -⟩
                  have e125 : ρ 125 = (.bool true) := h125
                  have e126 : ρ 126 = (.bool true) := h126
                  simp [execOp, evR, e125, e126, go_sem]
                refine tele_move rfl (.inr rfl) rfl (isV (.bool true)) (fun ρ w' h => h) ?_
                refine tele_nil ?_
                rintro ρ w' hext ⟨f6, f127, f126, f125, f124, f123, f122, f121, f120, f119, f118, f117, f116, f115, f114, f113, f112, -⟩
                replace f112 : ρ 112 = (vecV a1 a2) := f112
                replace f113 : ρ 113 = (vecV (min a1 b1) (min a2 b2)) := f113
                replace f114 : (isVs [(a1, a2), ((min a1 b1), (min a2 b2))]).rel (ρ 114) w' := f114
                replace f115 : ρ 115 = (vecV a1 a2) := f115
                replace f116 : ρ 116 = (vecV a1 a2) := f116
                replace f117 : ρ 117 = (.bool true) := f117
                replace f118 : ρ 118 = (.bool true) := f118
                replace f119 : ρ 119 = (vecV a1 a2) := f119
                replace f120 : ρ 120 = (vecV (max a1 b1) (max a2 b2)) := f120
                replace f121 : ρ 121 = (vecV a1 a2) := f121
                replace f122 : ρ 122 = (vecV a1 a2) := f122
                replace f123 : ρ 123 = (.bool true) := f123
                replace f124 : ρ 124 = (.bool true) := f124
                replace f125 : ρ 125 = (.bool true) := f125
                replace f126 : ρ 126 = (.bool true) := f126
                replace f127 : ρ 127 = (.bool true) := f127
                replace f6 : ρ 6 = (.bool true) := f6
                simp only [puts, Act.put, List.setIfInBounds_toArray, List.set_cons_zero, List.set_cons_succ]
                rw [f6]
                go_wp2_with fail
                go_ret
                exact ⟨rfl, Ext.trans hx hext⟩
end Go.Proofs.Ytfhahkklkkdkoaa
