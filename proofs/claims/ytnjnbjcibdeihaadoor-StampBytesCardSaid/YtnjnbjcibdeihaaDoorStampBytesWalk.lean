/-
  The walk of StampBytes.
-/
import Derived.Test.YtnjnbjcibdeihaaDoorStBytes
namespace Go.Proofs.YtnjnbjcibdeihaaDoor
open Go Go.RowKit Mono Num
set_option linter.unusedVariables false
set_option linter.unusedSimpArgs false

set_option maxHeartbeats 4000000 in
theorem stampBytes_walk (v : Value) (l : List UInt8) (c d : Int) (w : World) (hv : Bs w v l) :
    Calls Tryd.prog 6 #[v, stV c d] w fun e w' => e = .returned (.bool true) ∧ Ext w w' := by
  have HL := Lib.hid (fun w => lives_any w)
  have hU := hv
  obtain ⟨A, z, rfl, h1, h2, h3, h4⟩ := hv.open_
  unfold maxLen at h2
  clear h4
  by_cases hl : 1000 < l.length
  · unfold stV
    go_enter Tryd.func6, Tryd.ntmps6
    go_wp2_with fail
    refine (HL.out _).mono ?_
    rintro e w' ⟨rfl, he⟩
    go_wp2_with fail
    go_ret
    exact ⟨rfl, Ext.trans (ext_alloc _ _) he⟩
  · have HG := Lib.hid (fun w hw => stGet_any (.slice A l.length z) l w hw)
    have HR := Lib.hid (fun w hw => refSGet_any (.slice A l.length z) l w hw)
    have HP := Lib.hid (fun w hw => stPut_any (.slice A l.length z) l c d w hw (by omega))
    have HQ := Lib.hid (fun w hw => refSPut_any (.slice A l.length z) l c d w hw (by omega))
    generalize sget l = g at *
    generalize sput l c d = pl at *
    obtain ⟨⟨x, y⟩, k, e0⟩ := g
    unfold stV at *
    dsimp only at HG HR
    go_enter Tryd.func6, Tryd.ntmps6
    go_wp2_with fail
    have hx := ext_alloc w (.cells #[.int .i64 c, .int .i64 d] 23)
    have ba := Blk.new w #[.int .i64 c, .int .i64 d] 23
    replace hU := hU.ext hx
    refine (HG.out _ hU).mono ?_
    rintro e w1 ⟨rfl, x1⟩
    have xa := ext_alloc w1 (.cells #[.int .i64 x, .int .i64 y] 23)
    have b5 := Blk.new w1 #[.int .i64 x, .int .i64 y] 23
    replace hU := (hU.ext x1).ext xa
    replace ba := (ba.ext x1).ext xa
    replace hx := Ext.trans hx (Ext.trans x1 xa)
    clear x1 xa
    go_wp2_with fail
    refine (HR.out _ hU).mono ?_
    rintro e w2 ⟨rfl, x1⟩
    have xa := ext_alloc w2 (.cells #[.int .i64 x, .int .i64 y] 23)
    have b8 := Blk.new w2 #[.int .i64 x, .int .i64 y] 23
    replace hU := (hU.ext x1).ext xa
    replace ba := (ba.ext x1).ext xa
    replace b5 := (b5.ext x1).ext xa
    replace hx := Ext.trans hx (Ext.trans x1 xa)
    clear x1 xa
    go_wp2_with fail
    generalize w2.alloc (.cells #[.int .i64 x, .int .i64 y] 23) = W0 at *
    refine wp_region_mono (by kernel_rfl) (by kernel_rfl) ?_
    refine tele_move rfl (.inl rfl) rfl (isV (.slice A l.length z)) (fun ρ w' h => h) ?_
    refine tele_val rfl (.agg #[.int .i64 c, .int .i64 d]) (fun _ _ _ => rfl) ?_ ?_
    · rintro ρ w' he ⟨h3, -⟩
      have e3 : ρ 3 = (.pointer (some ⟨w.heap.size, 0, none⟩)) := h3
      have c1 := (ba.ext he).cell (i := 0) rfl
      have c2 := (ba.ext he).cell (i := 1) rfl
      simp [execOp, evR, e3, c1, c2, go_sem]
    refine tele_call rfl rfl Tryd.func20 (by kernel_rfl) (isBs (pl)) (fun _ _ _ => rfl) ?_ ?_
    · rintro ρ w' he ⟨h27, h28, -⟩
      have e27 : ρ 27 = (.slice A l.length z) := h27
      have e28 : ρ 28 = (.agg #[.int .i64 c, .int .i64 d]) := h28
      simp only [evR, List.map_toArray, List.map_cons, List.map_nil, e27, e28]
      refine (HP.out _ (hU.ext he)).mono ?_
      rintro e w'' ⟨r, rfl, h, he⟩
      exact ⟨_, rfl, he, h.bs⟩
    refine tele_val rfl (strV (pl)) (fun _ _ _ => rfl) ?_ ?_
    · rintro ρ w' he ⟨h29, -⟩
      have e29 : Bs w' (ρ 29) (pl) := h29
      have c := e29.str_ (P := Tryd.prog) 38 9 5 Tryd.underlying38 Tryd.underlying5 Tryd.underlying9
      simp [execOp, evR, c]
    refine tele_move rfl (.inl rfl) rfl (isV (.slice A l.length z)) (fun ρ w' h => h) ?_
    refine tele_val rfl (.agg #[.int .i64 c, .int .i64 d]) (fun _ _ _ => rfl) ?_ ?_
    · rintro ρ w' he ⟨h3, -⟩
      have e3 : ρ 3 = (.pointer (some ⟨w.heap.size, 0, none⟩)) := h3
      have c1 := (ba.ext he).cell (i := 0) rfl
      have c2 := (ba.ext he).cell (i := 1) rfl
      simp [execOp, evR, e3, c1, c2, go_sem]
    refine tele_call rfl rfl Tryd.func21 (by kernel_rfl) (isBs (pl)) (fun _ _ _ => rfl) ?_ ?_
    · rintro ρ w' he ⟨h31, h32, -⟩
      have e31 : ρ 31 = (.slice A l.length z) := h31
      have e32 : ρ 32 = (.agg #[.int .i64 c, .int .i64 d]) := h32
      simp only [evR, List.map_toArray, List.map_cons, List.map_nil, e31, e32]
      refine (HQ.out _ (hU.ext he)).mono ?_
      rintro e w'' ⟨r, rfl, h, he⟩
      exact ⟨_, rfl, he, h.bs⟩
    refine tele_val rfl (strV (pl)) (fun _ _ _ => rfl) ?_ ?_
    · rintro ρ w' he ⟨h33, -⟩
      have e33 : Bs w' (ρ 33) (pl) := h33
      have c := e33.str_ (P := Tryd.prog) 38 9 5 Tryd.underlying38 Tryd.underlying5 Tryd.underlying9
      simp [execOp, evR, c]
    refine tele_val rfl (.bool true) (fun _ _ _ => rfl) ?_ ?_
    · rintro ρ w' he ⟨h30, h34, -⟩
      have e30 : ρ 30 = (strV (pl)) := h30
      have e34 : ρ 34 = (strV (pl)) := h34
      exact (exec_eql_str rfl e30 e34).trans (by simp)
    refine tele_move rfl (.inl rfl) rfl (isV (.bool true)) (fun ρ w' h => h) ?_
    refine tele_val rfl (.agg #[.int .i64 x, .int .i64 y]) (fun ρ w' hk => by obtain ⟨_, hg, -⟩ := hk; have eg : ρ 36 = (.bool true) := hg; simp [wantedR, Region.wanted, asBoolR, eg]) ?_ ?_
    · rintro ρ w' he ⟨h5, -⟩
      have e5 : ρ 5 = (.pointer (some ⟨w1.heap.size, 0, none⟩)) := h5
      have c1 := (b5.ext he).cell (i := 0) rfl
      have c2 := (b5.ext he).cell (i := 1) rfl
      simp [execOp, evR, e5, c1, c2, go_sem]
    refine tele_val rfl (.agg #[.int .i64 x, .int .i64 y]) (fun ρ w' hk => by obtain ⟨_, hg, -⟩ := hk; have eg : ρ 36 = (.bool true) := hg; simp [wantedR, Region.wanted, asBoolR, eg]) ?_ ?_
    · rintro ρ w' he ⟨h8, -⟩
      have e8 : ρ 8 = (.pointer (some ⟨w2.heap.size, 0, none⟩)) := h8
      have c1 := (b8.ext he).cell (i := 0) rfl
      have c2 := (b8.ext he).cell (i := 1) rfl
      simp [execOp, evR, e8, c1, c2, go_sem]
    refine tele_val rfl (.bool true) (fun ρ w' hk => by obtain ⟨_, _, hg, -⟩ := hk; have eg : ρ 36 = (.bool true) := hg; simp [wantedR, Region.wanted, asBoolR, eg]) ?_ ?_
    · rintro ρ w' he ⟨h37, h38, -⟩
      have e37 : ρ 37 = (.agg #[.int .i64 x, .int .i64 y]) := h37
      have e38 : ρ 38 = (.agg #[.int .i64 x, .int .i64 y]) := h38
      simp [execOp, evR, e37, e38, go_sem]
    refine tele_val rfl (.bool true) (fun _ _ _ => rfl) ?_ ?_
    · rintro ρ w' he ⟨h36, h39, -⟩
      have e36 : ρ 36 = (.bool true) := h36
      have e39 : ρ 39 = (.bool true) := h39
      simp [execOp, evR, e36, e39, go_sem]
    refine tele_move rfl (.inl rfl) rfl (isV (.bool true)) (fun ρ w' h => h) ?_
    refine tele_val rfl ((.int .i64 (k : Int))) (fun ρ w' hk => by obtain ⟨_, hg, -⟩ := hk; have eg : ρ 41 = (.bool true) := hg; simp [wantedR, Region.wanted, asBoolR, eg]) ?_ ?_
    · rintro ρ w' he ⟨h6, -⟩
      have e6 : ρ 6 = (.int .i64 (k : Int)) := h6
      simp [execOp, evR, e6]
    refine tele_val rfl ((.int .i64 (k : Int))) (fun ρ w' hk => by obtain ⟨_, hg, -⟩ := hk; have eg : ρ 41 = (.bool true) := hg; simp [wantedR, Region.wanted, asBoolR, eg]) ?_ ?_
    · rintro ρ w' he ⟨h9, -⟩
      have e9 : ρ 9 = (.int .i64 (k : Int)) := h9
      simp [execOp, evR, e9]
    refine tele_val rfl (.bool true) (fun ρ w' hk => by obtain ⟨_, _, hg, -⟩ := hk; have eg : ρ 41 = (.bool true) := hg; simp [wantedR, Region.wanted, asBoolR, eg]) ?_ ?_
    · rintro ρ w' he ⟨h42, h43, -⟩
      have e42 : ρ 42 = (.int .i64 (k : Int)) := h42
      have e43 : ρ 43 = (.int .i64 (k : Int)) := h43
      simp [execOp, evR, e42, e43, go_sem]
    refine tele_val rfl (.bool true) (fun _ _ _ => rfl) ?_ ?_
    · rintro ρ w' he ⟨h41, h44, -⟩
      have e41 : ρ 41 = (.bool true) := h41
      have e44 : ρ 44 = (.bool true) := h44
      simp [execOp, evR, e41, e44, go_sem]
    refine tele_move rfl (.inl rfl) rfl (isV (.bool true)) (fun ρ w' h => h) ?_
    refine tele_val rfl ((.int .i64 (e0 : Int))) (fun ρ w' hk => by obtain ⟨_, hg, -⟩ := hk; have eg : ρ 46 = (.bool true) := hg; simp [wantedR, Region.wanted, asBoolR, eg]) ?_ ?_
    · rintro ρ w' he ⟨h7, -⟩
      have e7 : ρ 7 = (.int .i64 (e0 : Int)) := h7
      simp [execOp, evR, e7]
    refine tele_val rfl ((.int .i64 (e0 : Int))) (fun ρ w' hk => by obtain ⟨_, hg, -⟩ := hk; have eg : ρ 46 = (.bool true) := hg; simp [wantedR, Region.wanted, asBoolR, eg]) ?_ ?_
    · rintro ρ w' he ⟨h10, -⟩
      have e10 : ρ 10 = (.int .i64 (e0 : Int)) := h10
      simp [execOp, evR, e10]
    refine tele_val rfl (.bool true) (fun ρ w' hk => by obtain ⟨_, _, hg, -⟩ := hk; have eg : ρ 46 = (.bool true) := hg; simp [wantedR, Region.wanted, asBoolR, eg]) ?_ ?_
    · rintro ρ w' he ⟨h47, h48, -⟩
      have e47 : ρ 47 = (.int .i64 (e0 : Int)) := h47
      have e48 : ρ 48 = (.int .i64 (e0 : Int)) := h48
      simp [execOp, evR, e47, e48, go_sem]
    refine tele_val rfl (.bool true) (fun _ _ _ => rfl) ?_ ?_
    · rintro ρ w' he ⟨h46, h49, -⟩
      have e46 : ρ 46 = (.bool true) := h46
      have e49 : ρ 49 = (.bool true) := h49
      simp [execOp, evR, e46, e49, go_sem]
    refine tele_move rfl (.inl rfl) rfl (isV (.bool true)) (fun ρ w' h => h) ?_
    refine tele_call rfl rfl Tryd.func11 (by kernel_rfl) (isV (.bool true)) (fun ρ w' hk => by obtain ⟨hg, -⟩ := hk; have eg : ρ 51 = (.bool true) := hg; simp [wantedR, Region.wanted, asBoolR, eg]) ?_ ?_
    · rintro ρ w' he -
      simp only [evR, List.map_toArray, List.map_cons, List.map_nil]
      refine (lives_any _).mono ?_
      rintro e w'' ⟨rfl, he⟩
      exact ⟨_, rfl, he, rfl⟩
    refine tele_val rfl (.bool true) (fun _ _ _ => rfl) ?_ ?_
    · rintro ρ w' he ⟨h51, h52, -⟩
      have e51 : ρ 51 = (.bool true) := h51
      have e52 : ρ 52 = (.bool true) := h52
      simp [execOp, evR, e51, e52, go_sem]
    refine tele_move rfl (.inr rfl) rfl (isV (.bool true)) (fun ρ w' h => h) ?_
    refine tele_nil ?_
    rintro ρ w' hext ⟨f4, f53, f52, f51, f50, f49, f48, f47, f46, f45, f44, f43, f42, f41, f40, f39, f38, f37, f36, f35, f34, f33, f32, f31, f30, f29, f28, f27, -⟩
    replace f27 : ρ 27 = (.slice A l.length z) := f27
    replace f28 : ρ 28 = (.agg #[.int .i64 c, .int .i64 d]) := f28
    replace f29 : Bs w' (ρ 29) (pl) := f29
    replace f30 : ρ 30 = (strV (pl)) := f30
    replace f31 : ρ 31 = (.slice A l.length z) := f31
    replace f32 : ρ 32 = (.agg #[.int .i64 c, .int .i64 d]) := f32
    replace f33 : Bs w' (ρ 33) (pl) := f33
    replace f34 : ρ 34 = (strV (pl)) := f34
    replace f35 : ρ 35 = (.bool true) := f35
    replace f36 : ρ 36 = (.bool true) := f36
    replace f37 : ρ 37 = (.agg #[.int .i64 x, .int .i64 y]) := f37
    replace f38 : ρ 38 = (.agg #[.int .i64 x, .int .i64 y]) := f38
    replace f39 : ρ 39 = (.bool true) := f39
    replace f40 : ρ 40 = (.bool true) := f40
    replace f41 : ρ 41 = (.bool true) := f41
    replace f42 : ρ 42 = (.int .i64 (k : Int)) := f42
    replace f43 : ρ 43 = (.int .i64 (k : Int)) := f43
    replace f44 : ρ 44 = (.bool true) := f44
    replace f45 : ρ 45 = (.bool true) := f45
    replace f46 : ρ 46 = (.bool true) := f46
    replace f47 : ρ 47 = (.int .i64 (e0 : Int)) := f47
    replace f48 : ρ 48 = (.int .i64 (e0 : Int)) := f48
    replace f49 : ρ 49 = (.bool true) := f49
    replace f50 : ρ 50 = (.bool true) := f50
    replace f51 : ρ 51 = (.bool true) := f51
    replace f52 : ρ 52 = (.bool true) := f52
    replace f53 : ρ 53 = (.bool true) := f53
    replace f4 : ρ 4 = (.bool true) := f4
    simp only [puts, Act.put, List.setIfInBounds_toArray, List.set_cons_zero, List.set_cons_succ]
    rw [f4]
    go_wp2_with fail
    go_ret
    exact ⟨rfl, Ext.trans hx hext⟩
end Go.Proofs.YtnjnbjcibdeihaaDoor
