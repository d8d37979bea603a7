/-
  The walk of StampTexts.
-/
import Derived.Test.YtnjnbjcibdeihaaDoorStReadRef
namespace Go.Proofs.YtnjnbjcibdeihaaDoor
open Go Go.RowKit Mono
set_option linter.unusedVariables false
set_option linter.unusedSimpArgs false

set_option maxHeartbeats 4000000 in
theorem stampTexts_walk (a b : Int) (s : List UInt8) (w : World) (hT : Tb w) (hE : Es w) :
    Calls Tryd.prog 7 #[stV a b, strV s] w fun e w' => e = .returned (.bool true) ∧ Ext w w' := by
  have HL := Lib.hid (fun w => lives_any w)
  by_cases hl : 1000 < s.length
  · unfold stV strV
    go_enter Tryd.func7, Tryd.ntmps7
    set_option maxRecDepth 10000 in
    go_wp2_with fail
    refine (HL.out _).mono ?_
    rintro e w' ⟨rfl, he⟩
    go_wp2_with fail
    go_ret
    exact ⟨rfl, Ext.trans (ext_alloc _ _) he⟩
  · have HG := Lib.hid (fun w hT hE => stRead_any s w (by omega) hT hE)
    have HR := Lib.hid (fun w => refSRead_any s w (by omega))
    have HP := Lib.hid (fun w hT => stText_any a b w hT)
    have HQ := Lib.hid (fun w => refSText_any a b w)
    generalize stext a b = tx at *
    unfold stV at *
    unfold strV at HG HR ⊢
    go_enter Tryd.func7, Tryd.ntmps7
    set_option maxRecDepth 10000 in
    go_wp2_with fail
    have hx := ext_alloc w (.cells #[.int .i64 a, .int .i64 b] 23)
    have ba := Blk.new w #[.int .i64 a, .int .i64 b] 23
    refine (HG.out _ (hT.ext hx) (hE.ext hx)).mono ?_
    rintro e w1 ⟨⟨⟨x, y⟩, z⟩, rfl, hr, x1⟩
    dsimp only
    have xa := ext_alloc w1 (.cells #[.int .i64 x, .int .i64 y] 23)
    have b5 := Blk.new w1 #[.int .i64 x, .int .i64 y] 23
    replace ba := (ba.ext x1).ext xa
    replace hx := Ext.trans hx (Ext.trans x1 xa)
    clear x1 xa
    have HRR := Lib.hid hr
    clear hr
    set_option maxRecDepth 10000 in
    go_wp2_with fail
    refine (HR.out _).mono ?_
    rintro e w2 ⟨r2, rfl, hr2, x1⟩
    obtain rfl := hr2.uniq HRR.out
    dsimp only
    have xa := ext_alloc w2 (.cells #[.int .i64 x, .int .i64 y] 23)
    have b7 := Blk.new w2 #[.int .i64 x, .int .i64 y] 23
    replace ba := (ba.ext x1).ext xa
    replace b5 := (b5.ext x1).ext xa
    replace hx := Ext.trans hx (Ext.trans x1 xa)
    clear x1 xa hr2
    set_option maxRecDepth 10000 in
    go_wp2_with fail
    replace hT := hT.ext hx
    generalize w2.alloc (.cells #[.int .i64 x, .int .i64 y] 23) = W0 at *
    refine wp_region_mono (by kernel_rfl) (by kernel_rfl) ?_
    refine tele_val rfl (.agg #[.int .i64 a, .int .i64 b]) (fun _ _ _ => rfl) ?_ ?_
    · rintro ρ w' he ⟨h2, -⟩
      have e2 : ρ 2 = (.pointer (some ⟨w.heap.size, 0, none⟩)) := h2
      have c1 := (ba.ext he).cell (i := 0) rfl
      have c2 := (ba.ext he).cell (i := 1) rfl
      simp [execOp, evR, e2, c1, c2, go_sem]
    refine tele_call rfl rfl Tryd.func24 (by kernel_rfl) (isV (strV tx)) (fun _ _ _ => rfl) ?_ ?_
    · rintro ρ w' he ⟨h23, -⟩
      have e23 : ρ 23 = (.agg #[.int .i64 a, .int .i64 b]) := h23
      simp only [evR, List.map_toArray, List.map_cons, List.map_nil, e23]
      refine (HP.out _ (hT.ext he)).mono ?_
      rintro e w'' ⟨rfl, he⟩
      exact ⟨_, rfl, he, rfl⟩
    refine tele_val rfl (.agg #[.int .i64 a, .int .i64 b]) (fun _ _ _ => rfl) ?_ ?_
    · rintro ρ w' he ⟨h2, -⟩
      have e2 : ρ 2 = (.pointer (some ⟨w.heap.size, 0, none⟩)) := h2
      have c1 := (ba.ext he).cell (i := 0) rfl
      have c2 := (ba.ext he).cell (i := 1) rfl
      simp [execOp, evR, e2, c1, c2, go_sem]
    refine tele_call rfl rfl Tryd.func25 (by kernel_rfl) (isV (strV tx)) (fun _ _ _ => rfl) ?_ ?_
    · rintro ρ w' he ⟨h25, -⟩
      have e25 : ρ 25 = (.agg #[.int .i64 a, .int .i64 b]) := h25
      simp only [evR, List.map_toArray, List.map_cons, List.map_nil, e25]
      refine (HQ.out _).mono ?_
      rintro e w'' ⟨rfl, he⟩
      exact ⟨_, rfl, he, rfl⟩
    refine tele_val rfl (.bool true) (fun _ _ _ => rfl) ?_ ?_
    · rintro ρ w' he ⟨h24, h26, -⟩
      have e24 : ρ 24 = (strV tx) := h24
      have e26 : ρ 26 = (strV tx) := h26
      exact (exec_eql_str rfl e24 e26).trans (by simp)
    refine tele_move rfl (.inl rfl) rfl (isV (.bool true)) (fun ρ w' h => h) ?_
    refine tele_val rfl (.agg #[.int .i64 x, .int .i64 y]) (fun ρ w' hk => by obtain ⟨_, hg, -⟩ := hk; have eg : ρ 28 = (.bool true) := hg; simp [wantedR, Region.wanted, asBoolR, eg]) ?_ ?_
    · rintro ρ w' he ⟨h5, -⟩
      have e5 : ρ 5 = (.pointer (some ⟨w1.heap.size, 0, none⟩)) := h5
      have c1 := (b5.ext he).cell (i := 0) rfl
      have c2 := (b5.ext he).cell (i := 1) rfl
      simp [execOp, evR, e5, c1, c2, go_sem]
    refine tele_val rfl (.agg #[.int .i64 x, .int .i64 y]) (fun ρ w' hk => by obtain ⟨_, hg, -⟩ := hk; have eg : ρ 28 = (.bool true) := hg; simp [wantedR, Region.wanted, asBoolR, eg]) ?_ ?_
    · rintro ρ w' he ⟨h7, -⟩
      have e7 : ρ 7 = (.pointer (some ⟨w2.heap.size, 0, none⟩)) := h7
      have c1 := (b7.ext he).cell (i := 0) rfl
      have c2 := (b7.ext he).cell (i := 1) rfl
      simp [execOp, evR, e7, c1, c2, go_sem]
    refine tele_val rfl (.bool true) (fun ρ w' hk => by obtain ⟨_, _, hg, -⟩ := hk; have eg : ρ 28 = (.bool true) := hg; simp [wantedR, Region.wanted, asBoolR, eg]) ?_ ?_
    · rintro ρ w' he ⟨h29, h30, -⟩
      have e29 : ρ 29 = (.agg #[.int .i64 x, .int .i64 y]) := h29
      have e30 : ρ 30 = (.agg #[.int .i64 x, .int .i64 y]) := h30
      simp [execOp, evR, e29, e30, go_sem]
    refine tele_val rfl (.bool true) (fun _ _ _ => rfl) ?_ ?_
    · rintro ρ w' he ⟨h28, h31, -⟩
      have e28 : ρ 28 = (.bool true) := h28
      have e31 : ρ 31 = (.bool true) := h31
      simp [execOp, evR, e28, e31, go_sem]
    refine tele_move rfl (.inl rfl) rfl (isV (.bool true)) (fun ρ w' h => h) ?_
    refine tele_val rfl ((.int .i64 z)) (fun ρ w' hk => by obtain ⟨_, hg, -⟩ := hk; have eg : ρ 33 = (.bool true) := hg; simp [wantedR, Region.wanted, asBoolR, eg]) ?_ ?_
    · rintro ρ w' he ⟨h6, -⟩
      have e6 : ρ 6 = (.int .i64 z) := h6
      simp [execOp, evR, e6]
    refine tele_val rfl ((.int .i64 z)) (fun ρ w' hk => by obtain ⟨_, hg, -⟩ := hk; have eg : ρ 33 = (.bool true) := hg; simp [wantedR, Region.wanted, asBoolR, eg]) ?_ ?_
    · rintro ρ w' he ⟨h8, -⟩
      have e8 : ρ 8 = (.int .i64 z) := h8
      simp [execOp, evR, e8]
    refine tele_val rfl (.bool true) (fun ρ w' hk => by obtain ⟨_, _, hg, -⟩ := hk; have eg : ρ 33 = (.bool true) := hg; simp [wantedR, Region.wanted, asBoolR, eg]) ?_ ?_
    · rintro ρ w' he ⟨h34, h35, -⟩
      have e34 : ρ 34 = (.int .i64 z) := h34
      have e35 : ρ 35 = (.int .i64 z) := h35
      simp [execOp, evR, e34, e35, go_sem]
    refine tele_val rfl (.bool true) (fun _ _ _ => rfl) ?_ ?_
    · rintro ρ w' he ⟨h33, h36, -⟩
      have e33 : ρ 33 = (.bool true) := h33
      have e36 : ρ 36 = (.bool true) := h36
      simp [execOp, evR, e33, e36, go_sem]
    refine tele_move rfl (.inl rfl) rfl (isV (.bool true)) (fun ρ w' h => h) ?_
    refine tele_call rfl rfl Tryd.func11 (by kernel_rfl) (isV (.bool true)) (fun ρ w' hk => by obtain ⟨hg, -⟩ := hk; have eg : ρ 38 = (.bool true) := hg; simp [wantedR, Region.wanted, asBoolR, eg]) ?_ ?_
    · rintro ρ w' he -
      simp only [evR, List.map_toArray, List.map_cons, List.map_nil]
      refine (lives_any _).mono ?_
      rintro e w'' ⟨rfl, he⟩
      exact ⟨_, rfl, he, rfl⟩
    refine tele_val rfl (.bool true) (fun _ _ _ => rfl) ?_ ?_
    · rintro ρ w' he ⟨h38, h39, -⟩
      have e38 : ρ 38 = (.bool true) := h38
      have e39 : ρ 39 = (.bool true) := h39
      simp [execOp, evR, e38, e39, go_sem]
    refine tele_move rfl (.inr rfl) rfl (isV (.bool true)) (fun ρ w' h => h) ?_
    refine tele_nil ?_
    rintro ρ w' hext ⟨f4, f40, f39, f38, f37, f36, f35, f34, f33, f32, f31, f30, f29, f28, f27, f26, f25, f24, f23, -⟩
    replace f23 : ρ 23 = (.agg #[.int .i64 a, .int .i64 b]) := f23
    replace f24 : ρ 24 = (strV tx) := f24
    replace f25 : ρ 25 = (.agg #[.int .i64 a, .int .i64 b]) := f25
    replace f26 : ρ 26 = (strV tx) := f26
    replace f27 : ρ 27 = (.bool true) := f27
    replace f28 : ρ 28 = (.bool true) := f28
    replace f29 : ρ 29 = (.agg #[.int .i64 x, .int .i64 y]) := f29
    replace f30 : ρ 30 = (.agg #[.int .i64 x, .int .i64 y]) := f30
    replace f31 : ρ 31 = (.bool true) := f31
    replace f32 : ρ 32 = (.bool true) := f32
    replace f33 : ρ 33 = (.bool true) := f33
    replace f34 : ρ 34 = (.int .i64 z) := f34
    replace f35 : ρ 35 = (.int .i64 z) := f35
    replace f36 : ρ 36 = (.bool true) := f36
    replace f37 : ρ 37 = (.bool true) := f37
    replace f38 : ρ 38 = (.bool true) := f38
    replace f39 : ρ 39 = (.bool true) := f39
    replace f40 : ρ 40 = (.bool true) := f40
    replace f4 : ρ 4 = (.bool true) := f4
    simp only [puts, Act.put, List.setIfInBounds_toArray, List.set_cons_zero, List.set_cons_succ]
    rw [f4]
    go_wp2_with fail
    go_ret
    exact ⟨rfl, Ext.trans hx hext⟩
end Go.Proofs.YtnjnbjcibdeihaaDoor
