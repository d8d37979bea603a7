/-
  Layer 15: both disks tell the same.
-/
import Derived.Test.YtkejoiknnigllaaDkSame
namespace Go.Proofs.Ytkejoiknnigllaa
open Go Go.RowKit Mono
set_option linter.unusedVariables false
set_option linter.unusedSimpArgs false
set_option maxRecDepth 100000
set_option maxHeartbeats 4000000

def isSs (l : List (List UInt8)) : MRel := ⟨fun v w => Ss w v l, fun _ _ _ h he => h.ext he⟩
theorem Ext.set {W0 W : World} (h : Ext W0 W) {b : Nat} (hb : W0.heap.size ≤ b) (i : Nat) (v : Value) : Ext W0 (W.setCell ⟨b, i, none⟩ v) := Kb.ext h (Kb.set (fun k => k = b) W b i v rfl) (fun k hk => by rw [hk]; exact hb)

theorem same_any {z bd br : Nat} {F : Nat → Prop} {W : World} {d : Dk} (h : Pair z bd br F d d W) (hok : d.Ok) :
    Calls Try.prog 31 #[.pointer (some ⟨bd, 0, none⟩), .pointer (some ⟨br, 0, none⟩)] W fun e w' => e = .returned (.bool true) ∧ Ext W w' := by
  obtain ⟨bm, pl, ms, s, hdk, hrk, -⟩ := h
  have HDK := Lib.hid hdk
  have HRK := Lib.hid hrk
  have HBR := Lib.hid hrk.str.blk
  have HOK := Lib.hid hok
  have HNL := Lib.hid (show ∀ s ∈ d.fs.map (fun f => f.name), s.length ≤ maxLen from fun s hs => by
    obtain ⟨f, hf, rfl⟩ := List.mem_map.1 hs
    have := hok.names f hf
    unfold dname at this
    simp only [Bool.and_eq_true, decide_eq_true_eq] at this
    unfold maxLen
    omega)
  have HBL := Lib.hid (show ∀ s, (dRead d s).1.length ≤ 1048576 from fun s => by
    unfold dRead
    split
    · exact Nat.zero_le _
    · split
      · exact Nat.zero_le _
      · rename_i f hf
        exact hok.len f (findF_mem hf).1)
  clear hdk hrk hok
  go_enter Try.func31, Try.ntmps31
  go_wp2_with fail
  refine wp_region_mono (by kernel_rfl) (by kernel_rfl) ?_
  refine tele_move rfl (.inl rfl) rfl (isV (.pointer (some ⟨bd, 0, none⟩))) (fun ρ w' h => h) ?_
  refine tele_call rfl rfl Try.func21 (by kernel_rfl) (isSs (d.fs.map fun f => f.name)) (fun _ _ _ => rfl) ?_ ?_
  · rintro ρ w' he ⟨h12, -⟩
    have e12 : ρ 12 = (.pointer (some ⟨bd, 0, none⟩)) := h12
    simp only [evR, List.map_toArray, List.map_cons, List.map_nil, e12]
    refine (names_any (HDK.out.ext he) HOK.out).mono ?_
    rintro e w'' ⟨v, rfl, hs, hx⟩
    exact ⟨v, rfl, hx, hs⟩
  refine tele_move rfl (.inl rfl) rfl (isV (.pointer (some ⟨br, 0, none⟩))) (fun ρ w' h => h) ?_
  refine tele_call rfl rfl Try.func33 (by kernel_rfl) (isSs (d.fs.map fun f => f.name)) (fun _ _ _ => rfl) ?_ ?_
  · rintro ρ w' he ⟨h14, -⟩
    have e14 : ρ 14 = (.pointer (some ⟨br, 0, none⟩)) := h14
    simp only [evR, List.map_toArray, List.map_cons, List.map_nil, e14]
    refine (rnames_any (HRK.out.ext he) HOK.out).mono ?_
    rintro e w'' ⟨v, rfl, hs, hx⟩
    exact ⟨v, rfl, hx, hs⟩
  refine tele_call rfl rfl Try.func26 (by kernel_rfl) (isV (.bool true)) (fun _ _ _ => rfl) ?_ ?_
  · rintro ρ w' he ⟨h13, h15, -⟩
    have e13 : (isSs (d.fs.map fun f => f.name)).rel (ρ 13) w' := h13
    have e15 : (isSs (d.fs.map fun f => f.name)).rel (ρ 15) w' := h15
    simp only [evR, List.map_toArray, List.map_cons, List.map_nil]
    refine (texts_any (show Ss w' (ρ 13) (d.fs.map fun f => f.name) from e13) (show Ss w' (ρ 15) (d.fs.map fun f => f.name) from e15)).mono ?_
    rintro e w'' ⟨rfl, hx⟩
    exact ⟨_, rfl, hx, rfl⟩
  refine tele_val rfl (.bool false) (fun _ _ _ => rfl) ?_ ?_
  · rintro ρ w' he ⟨h16, -⟩
    have e16 : ρ 16 = (.bool true) := h16
    simp [execOp, evR, e16, go_sem]
  refine tele_move rfl (.inl rfl) rfl (isV (.bool false)) (fun ρ w' h => h) ?_
  refine tele_val rfl ((.pointer (some ⟨bd, 0, none⟩))) (fun ρ w' hk => by obtain ⟨_, hg, -⟩ := hk; have eg : ρ 18 = (.bool false) := hg; simp [wantedR, Region.wanted, asBoolR, eg]) ?_ ?_
  · rintro ρ w' he ⟨h0, -⟩
    have e0 : ρ 0 = (.pointer (some ⟨bd, 0, none⟩)) := h0
    simp [execOp, evR, e0]
  refine tele_call rfl rfl Try.func22 (by kernel_rfl) (isV (.int .i64 (d.used : Int))) (fun ρ w' hk => by obtain ⟨_, hg, -⟩ := hk; have eg : ρ 18 = (.bool false) := hg; simp [wantedR, Region.wanted, asBoolR, eg]) ?_ ?_
  · rintro ρ w' he ⟨h19, -⟩
    have e19 : ρ 19 = (.pointer (some ⟨bd, 0, none⟩)) := h19
    simp only [evR, List.map_toArray, List.map_cons, List.map_nil, e19]
    refine (used_any (HDK.out.ext he)).mono ?_
    rintro e w'' ⟨rfl, rfl⟩
    exact ⟨_, rfl, Ext.refl _, rfl⟩
  refine tele_val rfl ((.pointer (some ⟨br, 0, none⟩))) (fun ρ w' hk => by obtain ⟨_, hg, -⟩ := hk; have eg : ρ 18 = (.bool false) := hg; simp [wantedR, Region.wanted, asBoolR, eg]) ?_ ?_
  · rintro ρ w' he ⟨h1, -⟩
    have e1 : ρ 1 = (.pointer (some ⟨br, 0, none⟩)) := h1
    simp [execOp, evR, e1]
  refine tele_call rfl rfl Try.func54 (by kernel_rfl) (isV (.int .i64 (d.used : Int))) (fun ρ w' hk => by obtain ⟨_, hg, -⟩ := hk; have eg : ρ 18 = (.bool false) := hg; simp [wantedR, Region.wanted, asBoolR, eg]) ?_ ?_
  · rintro ρ w' he ⟨h21, -⟩
    have e21 : ρ 21 = (.pointer (some ⟨br, 0, none⟩)) := h21
    simp only [evR, List.map_toArray, List.map_cons, List.map_nil, e21]
    refine (rused_any (HRK.out.ext he) HOK.out).mono ?_
    rintro e w'' ⟨rfl, rfl⟩
    exact ⟨_, rfl, Ext.refl _, rfl⟩
  refine tele_val rfl (.bool false) (fun ρ w' hk => by obtain ⟨_, _, hg, -⟩ := hk; have eg : ρ 18 = (.bool false) := hg; simp [wantedR, Region.wanted, asBoolR, eg]) ?_ ?_
  · rintro ρ w' he ⟨h20, h22, -⟩
    have e20 : ρ 20 = (.int .i64 (d.used : Int)) := h20
    have e22 : ρ 22 = (.int .i64 (d.used : Int)) := h22
    simp [execOp, evR, e20, e22, go_sem]
  refine tele_val rfl (.bool false) (fun _ _ _ => rfl) ?_ ?_
  · rintro ρ w' he ⟨h18, h23, -⟩
    have e18 : ρ 18 = (.bool false) := h18
    have e23 : ρ 23 = (.bool false) := h23
    simp [execOp, evR, e18, e23, go_sem]
  refine tele_move rfl (.inl rfl) rfl (isV (.bool false)) (fun ρ w' h => h) ?_
  refine tele_val rfl ((.pointer (some ⟨bd, 0, none⟩))) (fun ρ w' hk => by obtain ⟨_, hg, -⟩ := hk; have eg : ρ 25 = (.bool false) := hg; simp [wantedR, Region.wanted, asBoolR, eg]) ?_ ?_
  · rintro ρ w' he ⟨h0, -⟩
    have e0 : ρ 0 = (.pointer (some ⟨bd, 0, none⟩)) := h0
    simp [execOp, evR, e0]
  refine tele_call rfl rfl Try.func23 (by kernel_rfl) (isV (.int .i64 (d.ops : Int))) (fun ρ w' hk => by obtain ⟨_, hg, -⟩ := hk; have eg : ρ 25 = (.bool false) := hg; simp [wantedR, Region.wanted, asBoolR, eg]) ?_ ?_
  · rintro ρ w' he ⟨h26, -⟩
    have e26 : ρ 26 = (.pointer (some ⟨bd, 0, none⟩)) := h26
    simp only [evR, List.map_toArray, List.map_cons, List.map_nil, e26]
    refine (ops_any (HDK.out.ext he)).mono ?_
    rintro e w'' ⟨rfl, rfl⟩
    exact ⟨_, rfl, Ext.refl _, rfl⟩
  refine tele_val rfl ((.pointer (some ⟨br, 0, none⟩))) (fun ρ w' hk => by obtain ⟨_, hg, -⟩ := hk; have eg : ρ 25 = (.bool false) := hg; simp [wantedR, Region.wanted, asBoolR, eg]) ?_ ?_
  · rintro ρ w' he ⟨h1, -⟩
    have e1 : ρ 1 = (.pointer (some ⟨br, 0, none⟩)) := h1
    simp [execOp, evR, e1]
  refine tele_val rfl (.pointer (some ⟨br, 0, none⟩)) (fun ρ w' hk => by obtain ⟨_, hg, -⟩ := hk; have eg : ρ 25 = (.bool false) := hg; simp [wantedR, Region.wanted, asBoolR, eg]) ?_ ?_
  · rintro ρ w' he ⟨h28, -⟩
    have e28 : ρ 28 = (.pointer (some ⟨br, 0, none⟩)) := h28
    simp [execOp, evR, e28, go_sem]
  refine tele_val rfl (.pointer (some ⟨br, 4, none⟩)) (fun ρ w' hk => by obtain ⟨_, hg, -⟩ := hk; have eg : ρ 25 = (.bool false) := hg; simp [wantedR, Region.wanted, asBoolR, eg]) ?_ ?_
  · rintro ρ w' he ⟨h29, -⟩
    have e29 : ρ 29 = (.pointer (some ⟨br, 0, none⟩)) := h29
    simp [execOp, evR, e29, go_sem]
  refine tele_val rfl (.int .i64 (d.ops : Int)) (fun ρ w' hk => by obtain ⟨_, hg, -⟩ := hk; have eg : ρ 25 = (.bool false) := hg; simp [wantedR, Region.wanted, asBoolR, eg]) ?_ ?_
  · rintro ρ w' he ⟨h30, -⟩
    have e30 : ρ 30 = (.pointer (some ⟨br, 4, none⟩)) := h30
    have c := (HBR.out.ext he).cell (i := 4) rfl
    simp [execOp, evR, e30, c, go_sem]
  refine tele_val rfl (.bool false) (fun ρ w' hk => by obtain ⟨_, _, hg, -⟩ := hk; have eg : ρ 25 = (.bool false) := hg; simp [wantedR, Region.wanted, asBoolR, eg]) ?_ ?_
  · rintro ρ w' he ⟨h27, h31, -⟩
    have e27 : ρ 27 = (.int .i64 (d.ops : Int)) := h27
    have e31 : ρ 31 = (.int .i64 (d.ops : Int)) := h31
    simp [execOp, evR, e27, e31, go_sem]
  refine tele_val rfl (.bool false) (fun _ _ _ => rfl) ?_ ?_
  · rintro ρ w' he ⟨h25, h32, -⟩
    have e25 : ρ 25 = (.bool false) := h25
    have e32 : ρ 32 = (.bool false) := h32
    simp [execOp, evR, e25, e32, go_sem]
  refine tele_move rfl (.inl rfl) rfl (isV (.bool false)) (fun ρ w' h => h) ?_
  refine tele_val rfl ((.pointer (some ⟨bd, 0, none⟩))) (fun ρ w' hk => by obtain ⟨_, hg, -⟩ := hk; have eg : ρ 34 = (.bool false) := hg; simp [wantedR, Region.wanted, asBoolR, eg]) ?_ ?_
  · rintro ρ w' he ⟨h0, -⟩
    have e0 : ρ 0 = (.pointer (some ⟨bd, 0, none⟩)) := h0
    simp [execOp, evR, e0]
  refine tele_call rfl rfl Try.func34 (by kernel_rfl) (isV (.int .i64 (d.fails : Int))) (fun ρ w' hk => by obtain ⟨_, hg, -⟩ := hk; have eg : ρ 34 = (.bool false) := hg; simp [wantedR, Region.wanted, asBoolR, eg]) ?_ ?_
  · rintro ρ w' he ⟨h35, -⟩
    have e35 : ρ 35 = (.pointer (some ⟨bd, 0, none⟩)) := h35
    simp only [evR, List.map_toArray, List.map_cons, List.map_nil, e35]
    refine (fails_any (HDK.out.ext he)).mono ?_
    rintro e w'' ⟨rfl, rfl⟩
    exact ⟨_, rfl, Ext.refl _, rfl⟩
  refine tele_val rfl ((.pointer (some ⟨br, 0, none⟩))) (fun ρ w' hk => by obtain ⟨_, hg, -⟩ := hk; have eg : ρ 34 = (.bool false) := hg; simp [wantedR, Region.wanted, asBoolR, eg]) ?_ ?_
  · rintro ρ w' he ⟨h1, -⟩
    have e1 : ρ 1 = (.pointer (some ⟨br, 0, none⟩)) := h1
    simp [execOp, evR, e1]
  refine tele_val rfl (.pointer (some ⟨br, 0, none⟩)) (fun ρ w' hk => by obtain ⟨_, hg, -⟩ := hk; have eg : ρ 34 = (.bool false) := hg; simp [wantedR, Region.wanted, asBoolR, eg]) ?_ ?_
  · rintro ρ w' he ⟨h37, -⟩
    have e37 : ρ 37 = (.pointer (some ⟨br, 0, none⟩)) := h37
    simp [execOp, evR, e37, go_sem]
  refine tele_val rfl (.pointer (some ⟨br, 3, none⟩)) (fun ρ w' hk => by obtain ⟨_, hg, -⟩ := hk; have eg : ρ 34 = (.bool false) := hg; simp [wantedR, Region.wanted, asBoolR, eg]) ?_ ?_
  · rintro ρ w' he ⟨h38, -⟩
    have e38 : ρ 38 = (.pointer (some ⟨br, 0, none⟩)) := h38
    simp [execOp, evR, e38, go_sem]
  refine tele_val rfl (.int .i64 (d.fails : Int)) (fun ρ w' hk => by obtain ⟨_, hg, -⟩ := hk; have eg : ρ 34 = (.bool false) := hg; simp [wantedR, Region.wanted, asBoolR, eg]) ?_ ?_
  · rintro ρ w' he ⟨h39, -⟩
    have e39 : ρ 39 = (.pointer (some ⟨br, 3, none⟩)) := h39
    have c := (HBR.out.ext he).cell (i := 3) rfl
    simp [execOp, evR, e39, c, go_sem]
  refine tele_val rfl (.bool false) (fun ρ w' hk => by obtain ⟨_, _, hg, -⟩ := hk; have eg : ρ 34 = (.bool false) := hg; simp [wantedR, Region.wanted, asBoolR, eg]) ?_ ?_
  · rintro ρ w' he ⟨h36, h40, -⟩
    have e36 : ρ 36 = (.int .i64 (d.fails : Int)) := h36
    have e40 : ρ 40 = (.int .i64 (d.fails : Int)) := h40
    simp [execOp, evR, e36, e40, go_sem]
  refine tele_val rfl (.bool false) (fun _ _ _ => rfl) ?_ ?_
  · rintro ρ w' he ⟨h34, h41, -⟩
    have e34 : ρ 34 = (.bool false) := h34
    have e41 : ρ 41 = (.bool false) := h41
    simp [execOp, evR, e34, e41, go_sem]
  refine tele_move rfl (.inl rfl) rfl (isV (.bool false)) (fun ρ w' h => h) ?_
  refine tele_val rfl ((.pointer (some ⟨bd, 0, none⟩))) (fun ρ w' hk => by obtain ⟨_, hg, -⟩ := hk; have eg : ρ 43 = (.bool false) := hg; simp [wantedR, Region.wanted, asBoolR, eg]) ?_ ?_
  · rintro ρ w' he ⟨h0, -⟩
    have e0 : ρ 0 = (.pointer (some ⟨bd, 0, none⟩)) := h0
    simp [execOp, evR, e0]
  refine tele_call rfl rfl Try.func24 (by kernel_rfl) (isV (.bool d.on)) (fun ρ w' hk => by obtain ⟨_, hg, -⟩ := hk; have eg : ρ 43 = (.bool false) := hg; simp [wantedR, Region.wanted, asBoolR, eg]) ?_ ?_
  · rintro ρ w' he ⟨h44, -⟩
    have e44 : ρ 44 = (.pointer (some ⟨bd, 0, none⟩)) := h44
    simp only [evR, List.map_toArray, List.map_cons, List.map_nil, e44]
    refine (on_any (HDK.out.ext he)).mono ?_
    rintro e w'' ⟨rfl, rfl⟩
    exact ⟨_, rfl, Ext.refl _, rfl⟩
  refine tele_val rfl ((.pointer (some ⟨br, 0, none⟩))) (fun ρ w' hk => by obtain ⟨_, hg, -⟩ := hk; have eg : ρ 43 = (.bool false) := hg; simp [wantedR, Region.wanted, asBoolR, eg]) ?_ ?_
  · rintro ρ w' he ⟨h1, -⟩
    have e1 : ρ 1 = (.pointer (some ⟨br, 0, none⟩)) := h1
    simp [execOp, evR, e1]
  refine tele_val rfl (.pointer (some ⟨br, 0, none⟩)) (fun ρ w' hk => by obtain ⟨_, hg, -⟩ := hk; have eg : ρ 43 = (.bool false) := hg; simp [wantedR, Region.wanted, asBoolR, eg]) ?_ ?_
  · rintro ρ w' he ⟨h46, -⟩
    have e46 : ρ 46 = (.pointer (some ⟨br, 0, none⟩)) := h46
    simp [execOp, evR, e46, go_sem]
  refine tele_val rfl (.pointer (some ⟨br, 2, none⟩)) (fun ρ w' hk => by obtain ⟨_, hg, -⟩ := hk; have eg : ρ 43 = (.bool false) := hg; simp [wantedR, Region.wanted, asBoolR, eg]) ?_ ?_
  · rintro ρ w' he ⟨h47, -⟩
    have e47 : ρ 47 = (.pointer (some ⟨br, 0, none⟩)) := h47
    simp [execOp, evR, e47, go_sem]
  refine tele_val rfl (.bool (!d.on)) (fun ρ w' hk => by obtain ⟨_, hg, -⟩ := hk; have eg : ρ 43 = (.bool false) := hg; simp [wantedR, Region.wanted, asBoolR, eg]) ?_ ?_
  · rintro ρ w' he ⟨h48, -⟩
    have e48 : ρ 48 = (.pointer (some ⟨br, 2, none⟩)) := h48
    have c := (HBR.out.ext he).cell (i := 2) rfl
    simp [execOp, evR, e48, c, go_sem]
  refine tele_val rfl (.bool false) (fun ρ w' hk => by obtain ⟨_, _, hg, -⟩ := hk; have eg : ρ 43 = (.bool false) := hg; simp [wantedR, Region.wanted, asBoolR, eg]) ?_ ?_
  · rintro ρ w' he ⟨h45, h49, -⟩
    have e45 : ρ 45 = (.bool d.on) := h45
    have e49 : ρ 49 = (.bool (!d.on)) := h49
    cases hon : d.on
    all_goals
      rw [hon] at e45 e49
      simp [execOp, evR, e45, e49, go_sem]
  refine tele_val rfl (.bool false) (fun _ _ _ => rfl) ?_ ?_
  · rintro ρ w' he ⟨h43, h50, -⟩
    have e43 : ρ 43 = (.bool false) := h43
    have e50 : ρ 50 = (.bool false) := h50
    simp [execOp, evR, e43, e50, go_sem]
  refine tele_nil ?_
  rintro ρ w' hext ⟨f51, f50, f49, f48, f47, f46, f45, f44, f43, f42, f41, f40, f39, f38, f37, f36, f35, f34, f33, f32, f31, f30, f29, f28, f27, f26, f25, f24, f23, f22, f21, f20, f19, f18, f17, f16, f15, f14, f13, f12, -⟩
  replace f12 : ρ 12 = (.pointer (some ⟨bd, 0, none⟩)) := f12
  replace f13 : (isSs (d.fs.map fun f => f.name)).rel (ρ 13) w' := f13
  replace f14 : ρ 14 = (.pointer (some ⟨br, 0, none⟩)) := f14
  replace f15 : (isSs (d.fs.map fun f => f.name)).rel (ρ 15) w' := f15
  replace f16 : ρ 16 = (.bool true) := f16
  replace f17 : ρ 17 = (.bool false) := f17
  replace f18 : ρ 18 = (.bool false) := f18
  replace f19 : ρ 19 = (.pointer (some ⟨bd, 0, none⟩)) := f19
  replace f20 : ρ 20 = (.int .i64 (d.used : Int)) := f20
  replace f21 : ρ 21 = (.pointer (some ⟨br, 0, none⟩)) := f21
  replace f22 : ρ 22 = (.int .i64 (d.used : Int)) := f22
  replace f23 : ρ 23 = (.bool false) := f23
  replace f24 : ρ 24 = (.bool false) := f24
  replace f25 : ρ 25 = (.bool false) := f25
  replace f26 : ρ 26 = (.pointer (some ⟨bd, 0, none⟩)) := f26
  replace f27 : ρ 27 = (.int .i64 (d.ops : Int)) := f27
  replace f28 : ρ 28 = (.pointer (some ⟨br, 0, none⟩)) := f28
  replace f29 : ρ 29 = (.pointer (some ⟨br, 0, none⟩)) := f29
  replace f30 : ρ 30 = (.pointer (some ⟨br, 4, none⟩)) := f30
  replace f31 : ρ 31 = (.int .i64 (d.ops : Int)) := f31
  replace f32 : ρ 32 = (.bool false) := f32
  replace f33 : ρ 33 = (.bool false) := f33
  replace f34 : ρ 34 = (.bool false) := f34
  replace f35 : ρ 35 = (.pointer (some ⟨bd, 0, none⟩)) := f35
  replace f36 : ρ 36 = (.int .i64 (d.fails : Int)) := f36
  replace f37 : ρ 37 = (.pointer (some ⟨br, 0, none⟩)) := f37
  replace f38 : ρ 38 = (.pointer (some ⟨br, 0, none⟩)) := f38
  replace f39 : ρ 39 = (.pointer (some ⟨br, 3, none⟩)) := f39
  replace f40 : ρ 40 = (.int .i64 (d.fails : Int)) := f40
  replace f41 : ρ 41 = (.bool false) := f41
  replace f42 : ρ 42 = (.bool false) := f42
  replace f43 : ρ 43 = (.bool false) := f43
  replace f44 : ρ 44 = (.pointer (some ⟨bd, 0, none⟩)) := f44
  replace f45 : ρ 45 = (.bool d.on) := f45
  replace f46 : ρ 46 = (.pointer (some ⟨br, 0, none⟩)) := f46
  replace f47 : ρ 47 = (.pointer (some ⟨br, 0, none⟩)) := f47
  replace f48 : ρ 48 = (.pointer (some ⟨br, 2, none⟩)) := f48
  replace f49 : ρ 49 = (.bool (!d.on)) := f49
  replace f50 : ρ 50 = (.bool false) := f50
  replace f51 : ρ 51 = (.bool false) := f51
  simp only [puts, Act.put, List.setIfInBounds_toArray, List.set_cons_zero, List.set_cons_succ]
  rw [f51]
  have HX1 := Lib.hid hext
  have HRK1 := Lib.hid (HRK.out.ext hext)
  clear hext f12 f13 f14 f15 f16 f17 f18 f19 f20 f21 f22 f23 f24 f25 f26 f27 f28 f29 f30 f31 f32 f33 f34 f35 f36 f37 f38 f39 f40 f41 f42 f43 f44 f45 f46 f47 f48 f49 f50 f51
  go_wp2_with fail
  refine (rnames_any HRK1.out HOK.out).mono ?_
  rintro e w1 ⟨v, rfl, hss, hx1⟩
  obtain ⟨L, hL⟩ : ∃ L, L = d.fs.map fun f => f.name := ⟨_, rfl⟩
  rw [← hL] at hss HNL
  obtain ⟨A, c, rfl, a1, a2, a3⟩ := hss.at_
  have HXW := Lib.hid (HX1.out.trans hx1)
  unfold maxLen at a2
  clear hss hx1 hL
  go_wp2_with fail
  go_loopw [6, 7, 8, 9, 10, 11, 55] (fun _ _ _ _ _ _ iv wr => ∃ k : Nat, k ≤ L.length ∧ iv = .int .i64 k ∧ Ext w1 wr) (fun _ _ _ _ _ _ iv _ => L.length - (intOf iv).toNat)
  case atStart => exact ⟨0, Nat.zero_le _, rfl, Ext.refl _⟩
  case round =>
    obtain ⟨k, hk, rfl, hwx⟩ := hrel
    have HWX := Lib.hid hwx
    by_cases hlt : k < L.length
    · obtain ⟨ba, oa, rfl, hba, hca⟩ := a3 (by omega)
      obtain ⟨s, hs⟩ : ∃ s, L[k]? = some s := ⟨_, List.getElem?_eq_getElem hlt⟩
      have x1 := (hwx.cell (p := ⟨ba, oa + k, none⟩) hba).trans (hca k s hs)
      have HSL := Lib.hid (HNL.out s (List.mem_of_getElem? hs))
      have HRD := Lib.hid (read_any ((HDK.out.ext HXW.out).ext hwx) HOK.out s HSL.out)
      have hbl := HBL.out s
      unfold strV at x1 HRD
      clear hs hca a3 hwx
      go_wp2_with fail
      refine HRD.out.mono ?_
      rintro e w2 ⟨vb, rfl, hob, hx2⟩
      have HX2 := Lib.hid (HWX.out.trans hx2)
      have HRR := Lib.hid (rread_any ((HRK.out.ext HXW.out).ext (HWX.out.trans hx2)) HOK.out s)
      unfold strV at HRR
      obtain ⟨Ab, cb, rfl, b1, b2, -, -⟩ := hob.bs.open_
      have HOB := Lib.hid hob
      clear hob hx2
      go_wp2_with fail
      refine HRR.out.mono ?_
      rintro e w3 ⟨vc, rfl, hoc, hx3⟩
      have HX3 := Lib.hid (HX2.out.trans hx3)
      have HOB3 := Lib.hid (HOB.out.ext hx3)
      have cv1 := (HOB.out.ext hx3).bs.str (P := Try.prog) 23 9 5 Try.underlying23 Try.underlying5 Try.underlying9
      have cv2 := hoc.bs.str (P := Try.prog) 23 9 5 Try.underlying23 Try.underlying5 Try.underlying9
      have hq : ((dRead d s).1 != (dRead d s).1) = false := by simp
      have hq2 : ((((dRead d s).2 : Nat) : Int) != (((dRead d s).2 : Nat) : Int)) = false := by simp
      have HBASE := Lib.hid (HWX.out.size)
      obtain ⟨bs, hbs⟩ : ∃ bs, bs = (dRead d s).1 := ⟨_, rfl⟩
      obtain ⟨er, her⟩ : ∃ er : Int, er = (((dRead d s).2 : Nat) : Int) := ⟨_, rfl⟩
      rw [← hbs] at hbl b1 HOB3 cv1 cv2 hq ⊢
      rw [← her] at hq2 ⊢
      unfold maxLen at b2
      clear hoc hx3 hbs her HRD HRR HOB
      go_wp2_with fail
      clear cv1 cv2 hq hq2
      go_loopw [11, 83] (fun _ jv wr2 => ∃ (j : Nat) (cur : List UInt8), j ≤ bs.length ∧ jv = .int .i64 j ∧ cur.length = bs.length ∧ OwB wr2 wr.heap.size (.slice Ab bs.length cb) cur ∧ Ext w1 wr2) (fun _ jv _ => bs.length - (intOf jv).toNat)
      case atStart => exact ⟨0, bs, Nat.zero_le _, rfl, rfl, HOB3.out, HX3.out⟩
      case round =>
        obtain ⟨j, cur, hj, rfl, hcl, how, hex⟩ := hrel
        have HHW := Lib.hid how
        have HEX := Lib.hid hex
        by_cases hjl : j < bs.length
        · obtain ⟨g, co', hform, -⟩ := OwB.form_ how hcl (by omega)
          injection hform with q1 q2 q3
          subst q1
          clear q2 q3 co'
          obtain ⟨cc, tt⟩ := how.cell j (by omega)
          obtain ⟨x, hx⟩ : ∃ x, x = cur.getD j 0 := ⟨_, rfl⟩
          rw [← hx] at cc
          obtain ⟨y, hy⟩ := xor_u8 (x.toNat : Int) 1
          have HSET := Lib.hid (how.set_ j y)
          have HE2 := Lib.hid (Ext.set hex (b := g) (Nat.le_trans HBASE.out (how.lt2 g rfl)) j (.int .u8 (y.toNat : Int)))
          clear how hex hx
          go_wp2_with fail
          go_roundw
          case rel => exact ⟨j + 1, cur.set j y, by omega, by simp, by simpa using hcl, HSET.out, HE2.out⟩
          case measure => simp [intOf]; omega
        · clear how hex
          go_wp2_with fail
          go_roundw
          case rel => exact ⟨k + 1, by omega, by simp, HEX.out⟩
          case measure => simp [intOf]; omega
    · clear hwx
      go_wp2_with fail
      go_ret
      exact ⟨rfl, HXW.out.trans HWX.out⟩
end Go.Proofs.Ytkejoiknnigllaa
