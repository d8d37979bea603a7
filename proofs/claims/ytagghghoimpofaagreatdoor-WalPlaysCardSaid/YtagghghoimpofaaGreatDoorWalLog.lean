/-
 Layer 16: the program's log: what is read of it, and why it refuses.
-/
import Derived.Test.YtagghghoimpofaaGreatDoorWalMem
import Derived.Test.YtagghghoimpofaaGreatDoorWalName
import Derived.Test.YtagghghoimpofaaGreatDoorDkAppend
namespace Go.Proofs.YtagghghoimpofaaGreatDoor
open Go Go.RowKit Mono
set_option linter.unusedVariables false
set_option linter.unusedSimpArgs false
set_option maxRecDepth 100000
set_option maxHeartbeats 4000000

theorem Lg.last_at {l : Lg} (h : l.segs ≠ []) : l.segs[l.segs.length - 1]? = some l.last := by
 unfold Lg.last
 rw [List.getLastD_eq_getLast?, List.getLast?_eq_some_getLast h, ← List.getLast?_eq_getElem?, List.getLast?_eq_some_getLast h]
 rfl
theorem segs_pos {l : Lg} (h : l.segs ≠ []) : 0 < l.segs.length := List.length_pos_iff.2 h
theorem index_seg {w : World} {o : Oper} {f : Operand → Value} {x y : Operand} {b c n i : Nat} (hop : o.op = .indexAddr 71 x y)
  (hx : f x = .slice (some ⟨b, 0, none⟩) n c) (hy : f y = .int .i64 (i : Int)) (hi : i < n) :
  (execOp f o).run Tryz.prog w = .ok (.value (.pointer (some ⟨b, i * 3, none⟩))) w := by
 have hi' : (i : Int) < (n : Int) := by omega
 have h0 : (0 : Int) ≤ (i : Int) := by omega
 have hk : (sizeOf 79).run Tryz.prog w = .ok 3 w := by kernel_rfl
 simp [execOp, hop, hx, hy, Instr.indexAt, run_underlying Tryz.underlying71, hi', h0, hk, add_at, go_sem]
 intro h
 omega
theorem LgM.slice {z bl bd : Nat} {W : World} {v : Value} {l : Lg} (h : LgM z W bl bd v l) (hne : l.segs ≠ []) : ∃ g c, v = .slice (some ⟨g, 0, none⟩) l.segs.length c ∧ l.segs.length ≤ 9223372036854775807 := by
 obtain ⟨g, c, hv, h1, h2⟩ := h.form hne
 unfold maxLen at h2
 exact ⟨g, c, hv, by omega⟩
theorem wlast_any {z bl bd g c : Nat} {W : World} {l : Lg} (h : LgM z W bl bd (.slice (some ⟨g, 0, none⟩) l.segs.length c) l) (hne : l.segs ≠ []) :
  Calls Tryz.prog 39 #[.pointer (some ⟨bl, 0, none⟩)] W fun e w' => e = .returned (.pointer (some ⟨g, (l.segs.length - 1) * 3, none⟩)) ∧ Ext W w' := by
 obtain ⟨-, -, -, h2⟩ := h.slice hne
 have hb := Lib.hid h.str.blk
 have hp := segs_pos hne
 obtain ⟨i, hi⟩ : ∃ i, i + 1 = l.segs.length := ⟨l.segs.length - 1, by omega⟩
 rw [show l.segs.length - 1 = i by omega]
 have hw : IntKind.i64.wrap ((l.segs.length : Int) - 1) = (i : Int) := by rw [IntWalk.i64_in _ (by omega)]; omega
 go_enter Tryz.func39, Tryz.ntmps39
 go_wp2_with fail
 refine wp_region_mono (by kernel_rfl) (by kernel_rfl) ?_
 refine tele_move rfl (.inl rfl) rfl (isV (.pointer (some ⟨bl, 0, none⟩))) (fun ρ w' h => h) ?_
 refine tele_val rfl (.pointer (some ⟨bl, 0, none⟩)) (fun _ _ _ => rfl) ?_ ?_
 ·rintro ρ w' he ⟨h3, -⟩
  have e3 : ρ 3 = (.pointer (some ⟨bl, 0, none⟩)) := h3
  simp [execOp, evR, e3, go_sem]
 refine tele_val rfl (.pointer (some ⟨bl, 0, none⟩)) (fun _ _ _ => rfl) ?_ ?_
 ·rintro ρ w' he ⟨h4, -⟩
  have e4 : ρ 4 = (.pointer (some ⟨bl, 0, none⟩)) := h4
  simp [execOp, evR, e4, go_sem]
 refine tele_val rfl (.slice (some ⟨g, 0, none⟩) l.segs.length c) (fun _ _ _ => rfl) ?_ ?_
 ·rintro ρ w' he ⟨h5, -⟩
  have e5 : ρ 5 = (.pointer (some ⟨bl, 0, none⟩)) := h5
  have c := hb.out.ext he
  have c := c.cell (i := 0) rfl
  simp [execOp, evR, e5, c, go_sem]
 refine tele_move rfl (.inl rfl) rfl (isV (.pointer (some ⟨bl, 0, none⟩))) (fun ρ w' h => h) ?_
 refine tele_val rfl (.pointer (some ⟨bl, 0, none⟩)) (fun _ _ _ => rfl) ?_ ?_
 ·rintro ρ w' he ⟨h7, -⟩
  have e7 : ρ 7 = (.pointer (some ⟨bl, 0, none⟩)) := h7
  simp [execOp, evR, e7, go_sem]
 refine tele_val rfl (.pointer (some ⟨bl, 0, none⟩)) (fun _ _ _ => rfl) ?_ ?_
 ·rintro ρ w' he ⟨h8, -⟩
  have e8 : ρ 8 = (.pointer (some ⟨bl, 0, none⟩)) := h8
  simp [execOp, evR, e8, go_sem]
 refine tele_val rfl (.slice (some ⟨g, 0, none⟩) l.segs.length c) (fun _ _ _ => rfl) ?_ ?_
 ·rintro ρ w' he ⟨h9, -⟩
  have e9 : ρ 9 = (.pointer (some ⟨bl, 0, none⟩)) := h9
  have c := hb.out.ext he
  have c := c.cell (i := 0) rfl
  simp [execOp, evR, e9, c, go_sem]
 refine tele_val rfl (.int .i64 (l.segs.length : Int)) (fun _ _ _ => rfl) ?_ ?_
 ·rintro ρ w' he ⟨h10, -⟩
  have e10 : ρ 10 = (.slice (some ⟨g, 0, none⟩) l.segs.length c) := h10
  simp [execOp, evR, e10, go_sem]
 refine tele_val rfl (.int .i64 (i : Int)) (fun _ _ _ => rfl) ?_ ?_
 ·rintro ρ w' he ⟨h11, -⟩
  have e11 : ρ 11 = (.int .i64 (l.segs.length : Int)) := h11
  simp [execOp, evR, e11, hw, go_sem]
 refine tele_val rfl (.pointer (some ⟨g, i * 3, none⟩)) (fun _ _ _ => rfl) ?_ ?_
 ·rintro ρ w' he ⟨h6, h12, -⟩
  have e6 : ρ 6 = (.slice (some ⟨g, 0, none⟩) l.segs.length c) := h6
  have e12 : ρ 12 = (.int .i64 (i : Int)) := h12
  exact index_seg rfl e6 e12 (by omega)
 refine tele_move rfl (.inr rfl) rfl (isV (.pointer (some ⟨g, i * 3, none⟩))) (fun ρ w' h => h) ?_
 refine tele_nil ?_
 rintro ρ w' hext ⟨f2, f13, f12, f11, f10, f9, f8, f7, f6, f5, f4, f3, -⟩
 replace f3 : ρ 3 = (.pointer (some ⟨bl, 0, none⟩)) := f3
 replace f4 : ρ 4 = (.pointer (some ⟨bl, 0, none⟩)) := f4
 replace f5 : ρ 5 = (.pointer (some ⟨bl, 0, none⟩)) := f5
 replace f6 : ρ 6 = (.slice (some ⟨g, 0, none⟩) l.segs.length c) := f6
 replace f7 : ρ 7 = (.pointer (some ⟨bl, 0, none⟩)) := f7
 replace f8 : ρ 8 = (.pointer (some ⟨bl, 0, none⟩)) := f8
 replace f9 : ρ 9 = (.pointer (some ⟨bl, 0, none⟩)) := f9
 replace f10 : ρ 10 = (.slice (some ⟨g, 0, none⟩) l.segs.length c) := f10
 replace f11 : ρ 11 = (.int .i64 (l.segs.length : Int)) := f11
 replace f12 : ρ 12 = (.int .i64 (i : Int)) := f12
 replace f13 : ρ 13 = (.pointer (some ⟨g, i * 3, none⟩)) := f13
 replace f2 : ρ 2 = (.pointer (some ⟨g, i * 3, none⟩)) := f2
 simp only [puts, Act.put, List.setIfInBounds_toArray, List.set_cons_zero, List.set_cons_succ]
 rw [f2]
 go_wp2_with fail
 go_ret
 exact ⟨rfl, hext⟩
theorem wnext_any {z bl bd : Nat} {v : Value} {W : World} {l : Lg} (h : LgM z W bl bd v l) (hne : l.segs ≠ []) (hb : l.next ≤ 9000000000000000000) :
  Calls Tryz.prog 42 #[.pointer (some ⟨bl, 0, none⟩)] W fun e w' => e = .returned (.int .i64 (l.next : Int)) ∧ Ext W w' := by
 obtain ⟨g, c, rfl, -⟩ := h.slice hne
 have HH := Lib.hid h
 have HNE := Lib.hid hne
 obtain ⟨i, hi⟩ : ∃ i, i = l.segs.length - 1 := ⟨_, rfl⟩
 have hi2 := Lg.last_at hne
 rw [← hi] at hi2
 have HI := Lib.hid hi
 have HI2 := Lib.hid hi2
 have hw : IntKind.i64.wrap ((l.last.frm : Int) + (l.last.count : Int)) = (l.next : Int) := by unfold Lg.next at *; rw [IntWalk.i64_in _ (by omega)]; omega
 clear hi hi2 h hne
 go_enter Tryz.func42, Tryz.ntmps42
 go_wp2_with fail
 refine wp_region_mono (by kernel_rfl) (by kernel_rfl) ?_
 refine tele_move rfl (.inl rfl) rfl (isV (.pointer (some ⟨bl, 0, none⟩))) (fun ρ w' h => h) ?_
 refine tele_call rfl rfl Tryz.func39 (by kernel_rfl) (isV (.pointer (some ⟨g, i * 3, none⟩))) (fun _ _ _ => rfl) ?_ ?_
 ·rintro ρ w' he ⟨h3, -⟩
  have e3 : ρ 3 = (.pointer (some ⟨bl, 0, none⟩)) := h3
  simp only [evR, List.map_toArray, List.map_cons, List.map_nil, e3]
  refine (wlast_any (HH.out.ext he) HNE.out).mono ?_
  rintro e w2 ⟨rfl, hx2⟩
  rw [← HI.out]
  exact ⟨_, rfl, hx2, rfl⟩
 refine tele_val rfl (.pointer (some ⟨g, i * 3, none⟩)) (fun _ _ _ => rfl) ?_ ?_
 ·rintro ρ w' he ⟨h4, -⟩
  have e4 : ρ 4 = (.pointer (some ⟨g, i * 3, none⟩)) := h4
  simp [execOp, evR, e4, go_sem]
 refine tele_val rfl (.pointer (some ⟨g, i * 3, none⟩)) (fun _ _ _ => rfl) ?_ ?_
 ·rintro ρ w' he ⟨h5, -⟩
  have e5 : ρ 5 = (.pointer (some ⟨g, i * 3, none⟩)) := h5
  simp [execOp, evR, e5, go_sem]
 refine tele_val rfl (.int .i64 (l.last.frm : Int)) (fun _ _ _ => rfl) ?_ ?_
 ·rintro ρ w' he ⟨h6, -⟩
  have e6 : ρ 6 = (.pointer (some ⟨g, i * 3, none⟩)) := h6
  have c := (LgM.cells (HH.out.ext he) HI2.out).1
  simp [execOp, evR, e6, c, go_sem]
 refine tele_move rfl (.inl rfl) rfl (isV (.pointer (some ⟨bl, 0, none⟩))) (fun ρ w' h => h) ?_
 refine tele_call rfl rfl Tryz.func39 (by kernel_rfl) (isV (.pointer (some ⟨g, i * 3, none⟩))) (fun _ _ _ => rfl) ?_ ?_
 ·rintro ρ w' he ⟨h8, -⟩
  have e8 : ρ 8 = (.pointer (some ⟨bl, 0, none⟩)) := h8
  simp only [evR, List.map_toArray, List.map_cons, List.map_nil, e8]
  refine (wlast_any (HH.out.ext he) HNE.out).mono ?_
  rintro e w2 ⟨rfl, hx2⟩
  rw [← HI.out]
  exact ⟨_, rfl, hx2, rfl⟩
 refine tele_val rfl (.pointer (some ⟨g, i * 3, none⟩)) (fun _ _ _ => rfl) ?_ ?_
 ·rintro ρ w' he ⟨h9, -⟩
  have e9 : ρ 9 = (.pointer (some ⟨g, i * 3, none⟩)) := h9
  simp [execOp, evR, e9, go_sem]
 refine tele_val rfl (.pointer (some ⟨g, i * 3 + 1, none⟩)) (fun _ _ _ => rfl) ?_ ?_
 ·rintro ρ w' he ⟨h10, -⟩
  have e10 : ρ 10 = (.pointer (some ⟨g, i * 3, none⟩)) := h10
  simp [execOp, evR, e10, go_sem]
 refine tele_val rfl (.int .i64 (l.last.count : Int)) (fun _ _ _ => rfl) ?_ ?_
 ·rintro ρ w' he ⟨h11, -⟩
  have e11 : ρ 11 = (.pointer (some ⟨g, i * 3 + 1, none⟩)) := h11
  have c := (LgM.cells (HH.out.ext he) HI2.out).2.1
  simp [execOp, evR, e11, c, go_sem]
 refine tele_val rfl (.int .i64 (l.next : Int)) (fun _ _ _ => rfl) ?_ ?_
 ·rintro ρ w' he ⟨h7, h12, -⟩
  have e7 : ρ 7 = (.int .i64 (l.last.frm : Int)) := h7
  have e12 : ρ 12 = (.int .i64 (l.last.count : Int)) := h12
  simp [execOp, evR, e7, e12, hw, go_sem]
 refine tele_move rfl (.inr rfl) rfl (isV (.int .i64 (l.next : Int))) (fun ρ w' h => h) ?_
 refine tele_nil ?_
 rintro ρ w' hext ⟨f2, f13, f12, f11, f10, f9, f8, f7, f6, f5, f4, f3, -⟩
 replace f3 : ρ 3 = (.pointer (some ⟨bl, 0, none⟩)) := f3
 replace f4 : ρ 4 = (.pointer (some ⟨g, i * 3, none⟩)) := f4
 replace f5 : ρ 5 = (.pointer (some ⟨g, i * 3, none⟩)) := f5
 replace f6 : ρ 6 = (.pointer (some ⟨g, i * 3, none⟩)) := f6
 replace f7 : ρ 7 = (.int .i64 (l.last.frm : Int)) := f7
 replace f8 : ρ 8 = (.pointer (some ⟨bl, 0, none⟩)) := f8
 replace f9 : ρ 9 = (.pointer (some ⟨g, i * 3, none⟩)) := f9
 replace f10 : ρ 10 = (.pointer (some ⟨g, i * 3, none⟩)) := f10
 replace f11 : ρ 11 = (.pointer (some ⟨g, i * 3 + 1, none⟩)) := f11
 replace f12 : ρ 12 = (.int .i64 (l.last.count : Int)) := f12
 replace f13 : ρ 13 = (.int .i64 (l.next : Int)) := f13
 replace f2 : ρ 2 = (.int .i64 (l.next : Int)) := f2
 simp only [puts, Act.put, List.setIfInBounds_toArray, List.set_cons_zero, List.set_cons_succ]
 rw [f2]
 go_wp2_with fail
 go_ret
 exact ⟨rfl, hext⟩
theorem did_any (n : Nat) (W : World) : Calls Tryz.prog 46 #[.int .i64 (n : Int)] W fun e w' => e = .returned (.int .i64 (didE n : Int)) ∧ w' = W := by
 unfold didE
 by_cases h : n = 3
 ·subst h
  go_enter Tryz.func46, Tryz.ntmps46
  go_wp2_with fail
  go_ret
  exact ⟨rfl, rfl⟩
 ·have h' : ¬ (n : Int) = 3 := by omega
  rw [if_neg h]
  go_enter Tryz.func46, Tryz.ntmps46
  go_wp2_with fail
  go_ret
  exact ⟨rfl, rfl⟩
theorem wfault_any {z bl bd bm pl : Nat} {v : Value} {W : World} {d : Dk} {l : Lg} {ms : List FilM} (hd : DkM z W bd bm pl d ms) (h : LgM z W bl bd v l) :
  Calls Tryz.prog 43 #[.pointer (some ⟨bl, 0, none⟩)] W fun e w' => e = .returned (.int .i64 (wFault d l : Int)) ∧ Ext W w' := by
 have hb := Lib.hid h.str.blk
 have k1 := h.str.blk.cell (i := 1) rfl
 have HD := Lib.hid hd
 clear h hd
 cases hon : d.on
 ·have HF := Lib.hid (show wFault d l = 150 by unfold wFault; rw [if_pos hon])
  go_enter Tryz.func43, Tryz.ntmps43
  go_wp2_with fail
  refine wp_region_mono (by kernel_rfl) (by kernel_rfl) ?_
  refine tele_move rfl (.inl rfl) rfl (isV (.pointer (some ⟨bl, 0, none⟩))) (fun ρ w' h => h) ?_
  refine tele_val rfl (.pointer (some ⟨bl, 0, none⟩)) (fun _ _ _ => rfl) ?_ ?_
  ·rintro ρ w' he ⟨h14, -⟩
   have e14 : ρ 14 = (.pointer (some ⟨bl, 0, none⟩)) := h14
   simp [execOp, evR, e14, go_sem]
  refine tele_val rfl (.pointer (some ⟨bl, 1, none⟩)) (fun _ _ _ => rfl) ?_ ?_
  ·rintro ρ w' he ⟨h15, -⟩
   have e15 : ρ 15 = (.pointer (some ⟨bl, 0, none⟩)) := h15
   simp [execOp, evR, e15, go_sem]
  refine tele_val rfl (.pointer (some ⟨bd, 0, none⟩)) (fun _ _ _ => rfl) ?_ ?_
  ·rintro ρ w' he ⟨h16, -⟩
   have e16 : ρ 16 = (.pointer (some ⟨bl, 1, none⟩)) := h16
   have c := hb.out.ext he
   have c := c.cell (i := 1) rfl
   simp [execOp, evR, e16, c, go_sem]
  refine tele_call rfl rfl Tryz.func61 (by kernel_rfl) (isV (.bool false)) (fun _ _ _ => rfl) ?_ ?_
  ·rintro ρ w' he ⟨h17, -⟩
   have e17 : ρ 17 = (.pointer (some ⟨bd, 0, none⟩)) := h17
   simp only [evR, List.map_toArray, List.map_cons, List.map_nil, e17]
   refine (on_any (HD.out.ext he)).mono ?_
   rintro e w2 ⟨rfl, rfl⟩
   rw [hon]
   exact ⟨_, rfl, Ext.refl _, rfl⟩
  refine tele_val rfl (.bool true) (fun _ _ _ => rfl) ?_ ?_
  ·rintro ρ w' he ⟨h18, -⟩
   have e18 : ρ 18 = (.bool false) := h18
   simp [execOp, evR, e18, go_sem]
  refine tele_move rfl (.inl rfl) rfl (isV (.bool true)) (fun ρ w' h => h) ?_
  refine tele_pass rfl (fun ρ w' hk => by obtain ⟨_, hg, -⟩ := hk; have eg : ρ 20 = (.bool true) := hg; simp [wantedR, Region.wanted, asBoolR, eg]) ?_
  refine tele_pass rfl (fun ρ w' hk => by obtain ⟨_, hg, -⟩ := hk; have eg : ρ 20 = (.bool true) := hg; simp [wantedR, Region.wanted, asBoolR, eg]) ?_
  refine tele_pass rfl (fun ρ w' hk => by obtain ⟨_, hg, -⟩ := hk; have eg : ρ 20 = (.bool true) := hg; simp [wantedR, Region.wanted, asBoolR, eg]) ?_
  refine tele_pass rfl (fun ρ w' hk => by obtain ⟨_, hg, -⟩ := hk; have eg : ρ 20 = (.bool true) := hg; simp [wantedR, Region.wanted, asBoolR, eg]) ?_
  refine tele_pass rfl (fun ρ w' hk => by obtain ⟨_, hg, -⟩ := hk; have eg : ρ 20 = (.bool true) := hg; simp [wantedR, Region.wanted, asBoolR, eg]) ?_
  refine tele_pass rfl (fun ρ w' hk => by obtain ⟨_, hg, -⟩ := hk; have eg : ρ 20 = (.bool true) := hg; simp [wantedR, Region.wanted, asBoolR, eg]) ?_
  refine tele_pass rfl (fun ρ w' hk => by obtain ⟨_, hg, -⟩ := hk; have eg : ρ 20 = (.bool true) := hg; simp [wantedR, Region.wanted, asBoolR, eg]) ?_
  refine tele_pass rfl (fun ρ w' hk => by obtain ⟨_, hg, -⟩ := hk; have eg : ρ 20 = (.bool true) := hg; simp [wantedR, Region.wanted, asBoolR, eg]) ?_
  refine tele_pass rfl (fun ρ w' hk => by obtain ⟨_, hg, -⟩ := hk; have eg : ρ 20 = (.bool true) := hg; simp [wantedR, Region.wanted, asBoolR, eg]) ?_
  refine tele_pass rfl (fun ρ w' hk => by obtain ⟨_, _, hg, -⟩ := hk; have eg : ρ 20 = (.bool true) := hg; simp [wantedR, Region.wanted, asBoolR, eg]) ?_
  refine tele_val rfl (.bool true) (fun _ _ _ => rfl) ?_ ?_
  ·rintro ρ w' he ⟨h20, h30, -⟩
   have e20 : ρ 20 = (.bool true) := h20
   have e30 : ρ 30 = undef := h30
   simp [execOp, evR, e20, e30, go_sem]
  refine tele_move rfl (.inr rfl) rfl (isV (.bool true)) (fun ρ w' h => h) ?_
  refine tele_nil ?_
  rintro ρ w' hext ⟨f13, f31, f30, f29, f28, f27, f26, f25, f24, f23, f22, f21, f20, f19, f18, f17, f16, f15, f14, -⟩
  replace f14 : ρ 14 = (.pointer (some ⟨bl, 0, none⟩)) := f14
  replace f15 : ρ 15 = (.pointer (some ⟨bl, 0, none⟩)) := f15
  replace f16 : ρ 16 = (.pointer (some ⟨bl, 1, none⟩)) := f16
  replace f17 : ρ 17 = (.pointer (some ⟨bd, 0, none⟩)) := f17
  replace f18 : ρ 18 = (.bool false) := f18
  replace f19 : ρ 19 = (.bool true) := f19
  replace f20 : ρ 20 = (.bool true) := f20
  replace f21 : ρ 21 = undef := f21
  replace f22 : ρ 22 = undef := f22
  replace f23 : ρ 23 = undef := f23
  replace f24 : ρ 24 = undef := f24
  replace f25 : ρ 25 = undef := f25
  replace f26 : ρ 26 = undef := f26
  replace f27 : ρ 27 = undef := f27
  replace f28 : ρ 28 = undef := f28
  replace f29 : ρ 29 = undef := f29
  replace f30 : ρ 30 = undef := f30
  replace f31 : ρ 31 = (.bool true) := f31
  replace f13 : ρ 13 = (.bool true) := f13
  simp only [puts, Act.put, List.setIfInBounds_toArray, List.set_cons_zero, List.set_cons_succ]
  rw [f13]
  go_wp2_with fail
  go_ret
  exact ⟨by rw [HF.out]; rfl, hext⟩
 by_cases hne : (d.fails : Int) = (l.fails : Int)
 rotate_left
 ·have HF := Lib.hid (show wFault d l = 150 by unfold wFault; rw [if_neg (by simp [hon]), if_pos (by omega)])
  go_enter Tryz.func43, Tryz.ntmps43
  go_wp2_with fail
  refine wp_region_mono (by kernel_rfl) (by kernel_rfl) ?_
  refine tele_move rfl (.inl rfl) rfl (isV (.pointer (some ⟨bl, 0, none⟩))) (fun ρ w' h => h) ?_
  refine tele_val rfl (.pointer (some ⟨bl, 0, none⟩)) (fun _ _ _ => rfl) ?_ ?_
  ·rintro ρ w' he ⟨h14, -⟩
   have e14 : ρ 14 = (.pointer (some ⟨bl, 0, none⟩)) := h14
   simp [execOp, evR, e14, go_sem]
  refine tele_val rfl (.pointer (some ⟨bl, 1, none⟩)) (fun _ _ _ => rfl) ?_ ?_
  ·rintro ρ w' he ⟨h15, -⟩
   have e15 : ρ 15 = (.pointer (some ⟨bl, 0, none⟩)) := h15
   simp [execOp, evR, e15, go_sem]
  refine tele_val rfl (.pointer (some ⟨bd, 0, none⟩)) (fun _ _ _ => rfl) ?_ ?_
  ·rintro ρ w' he ⟨h16, -⟩
   have e16 : ρ 16 = (.pointer (some ⟨bl, 1, none⟩)) := h16
   have c := hb.out.ext he
   have c := c.cell (i := 1) rfl
   simp [execOp, evR, e16, c, go_sem]
  refine tele_call rfl rfl Tryz.func61 (by kernel_rfl) (isV (.bool true)) (fun _ _ _ => rfl) ?_ ?_
  ·rintro ρ w' he ⟨h17, -⟩
   have e17 : ρ 17 = (.pointer (some ⟨bd, 0, none⟩)) := h17
   simp only [evR, List.map_toArray, List.map_cons, List.map_nil, e17]
   refine (on_any (HD.out.ext he)).mono ?_
   rintro e w2 ⟨rfl, rfl⟩
   rw [hon]
   exact ⟨_, rfl, Ext.refl _, rfl⟩
  refine tele_val rfl (.bool false) (fun _ _ _ => rfl) ?_ ?_
  ·rintro ρ w' he ⟨h18, -⟩
   have e18 : ρ 18 = (.bool true) := h18
   simp [execOp, evR, e18, go_sem]
  refine tele_move rfl (.inl rfl) rfl (isV (.bool false)) (fun ρ w' h => h) ?_
  refine tele_val rfl ((.pointer (some ⟨bl, 0, none⟩))) (fun ρ w' hk => by obtain ⟨_, hg, -⟩ := hk; have eg : ρ 20 = (.bool false) := hg; simp [wantedR, Region.wanted, asBoolR, eg]) ?_ ?_
  ·rintro ρ w' he ⟨h0, -⟩
   have e0 : ρ 0 = (.pointer (some ⟨bl, 0, none⟩)) := h0
   simp [execOp, evR, e0]
  refine tele_val rfl (.pointer (some ⟨bl, 0, none⟩)) (fun ρ w' hk => by obtain ⟨_, hg, -⟩ := hk; have eg : ρ 20 = (.bool false) := hg; simp [wantedR, Region.wanted, asBoolR, eg]) ?_ ?_
  ·rintro ρ w' he ⟨h21, -⟩
   have e21 : ρ 21 = (.pointer (some ⟨bl, 0, none⟩)) := h21
   simp [execOp, evR, e21, go_sem]
  refine tele_val rfl (.pointer (some ⟨bl, 1, none⟩)) (fun ρ w' hk => by obtain ⟨_, hg, -⟩ := hk; have eg : ρ 20 = (.bool false) := hg; simp [wantedR, Region.wanted, asBoolR, eg]) ?_ ?_
  ·rintro ρ w' he ⟨h22, -⟩
   have e22 : ρ 22 = (.pointer (some ⟨bl, 0, none⟩)) := h22
   simp [execOp, evR, e22, go_sem]
  refine tele_val rfl (.pointer (some ⟨bd, 0, none⟩)) (fun ρ w' hk => by obtain ⟨_, hg, -⟩ := hk; have eg : ρ 20 = (.bool false) := hg; simp [wantedR, Region.wanted, asBoolR, eg]) ?_ ?_
  ·rintro ρ w' he ⟨h23, -⟩
   have e23 : ρ 23 = (.pointer (some ⟨bl, 1, none⟩)) := h23
   have c := hb.out.ext he
   have c := c.cell (i := 1) rfl
   simp [execOp, evR, e23, c, go_sem]
  refine tele_call rfl rfl Tryz.func35 (by kernel_rfl) (isV (.int .i64 (d.fails : Int))) (fun ρ w' hk => by obtain ⟨_, hg, -⟩ := hk; have eg : ρ 20 = (.bool false) := hg; simp [wantedR, Region.wanted, asBoolR, eg]) ?_ ?_
  ·rintro ρ w' he ⟨h24, -⟩
   have e24 : ρ 24 = (.pointer (some ⟨bd, 0, none⟩)) := h24
   simp only [evR, List.map_toArray, List.map_cons, List.map_nil, e24]
   refine (fails_any (HD.out.ext he)).mono ?_
   rintro e w2 ⟨rfl, rfl⟩
   exact ⟨_, rfl, Ext.refl _, rfl⟩
  refine tele_val rfl ((.pointer (some ⟨bl, 0, none⟩))) (fun ρ w' hk => by obtain ⟨_, hg, -⟩ := hk; have eg : ρ 20 = (.bool false) := hg; simp [wantedR, Region.wanted, asBoolR, eg]) ?_ ?_
  ·rintro ρ w' he ⟨h0, -⟩
   have e0 : ρ 0 = (.pointer (some ⟨bl, 0, none⟩)) := h0
   simp [execOp, evR, e0]
  refine tele_val rfl (.pointer (some ⟨bl, 0, none⟩)) (fun ρ w' hk => by obtain ⟨_, hg, -⟩ := hk; have eg : ρ 20 = (.bool false) := hg; simp [wantedR, Region.wanted, asBoolR, eg]) ?_ ?_
  ·rintro ρ w' he ⟨h26, -⟩
   have e26 : ρ 26 = (.pointer (some ⟨bl, 0, none⟩)) := h26
   simp [execOp, evR, e26, go_sem]
  refine tele_val rfl (.pointer (some ⟨bl, 4, none⟩)) (fun ρ w' hk => by obtain ⟨_, hg, -⟩ := hk; have eg : ρ 20 = (.bool false) := hg; simp [wantedR, Region.wanted, asBoolR, eg]) ?_ ?_
  ·rintro ρ w' he ⟨h27, -⟩
   have e27 : ρ 27 = (.pointer (some ⟨bl, 0, none⟩)) := h27
   simp [execOp, evR, e27, go_sem]
  refine tele_val rfl (.int .i64 (l.fails : Int)) (fun ρ w' hk => by obtain ⟨_, hg, -⟩ := hk; have eg : ρ 20 = (.bool false) := hg; simp [wantedR, Region.wanted, asBoolR, eg]) ?_ ?_
  ·rintro ρ w' he ⟨h28, -⟩
   have e28 : ρ 28 = (.pointer (some ⟨bl, 4, none⟩)) := h28
   have c := hb.out.ext he
   have c := c.cell (i := 4) rfl
   simp [execOp, evR, e28, c, go_sem]
  refine tele_val rfl (.bool true) (fun ρ w' hk => by obtain ⟨_, _, hg, -⟩ := hk; have eg : ρ 20 = (.bool false) := hg; simp [wantedR, Region.wanted, asBoolR, eg]) ?_ ?_
  ·rintro ρ w' he ⟨h25, h29, -⟩
   have e25 : ρ 25 = (.int .i64 (d.fails : Int)) := h25
   have e29 : ρ 29 = (.int .i64 (l.fails : Int)) := h29
   simp [execOp, evR, e25, e29, hne, go_sem]
  refine tele_val rfl (.bool true) (fun _ _ _ => rfl) ?_ ?_
  ·rintro ρ w' he ⟨h20, h30, -⟩
   have e20 : ρ 20 = (.bool false) := h20
   have e30 : ρ 30 = (.bool true) := h30
   simp [execOp, evR, e20, e30, go_sem]
  refine tele_move rfl (.inr rfl) rfl (isV (.bool true)) (fun ρ w' h => h) ?_
  refine tele_nil ?_
  rintro ρ w' hext ⟨f13, f31, f30, f29, f28, f27, f26, f25, f24, f23, f22, f21, f20, f19, f18, f17, f16, f15, f14, -⟩
  replace f14 : ρ 14 = (.pointer (some ⟨bl, 0, none⟩)) := f14
  replace f15 : ρ 15 = (.pointer (some ⟨bl, 0, none⟩)) := f15
  replace f16 : ρ 16 = (.pointer (some ⟨bl, 1, none⟩)) := f16
  replace f17 : ρ 17 = (.pointer (some ⟨bd, 0, none⟩)) := f17
  replace f18 : ρ 18 = (.bool true) := f18
  replace f19 : ρ 19 = (.bool false) := f19
  replace f20 : ρ 20 = (.bool false) := f20
  replace f21 : ρ 21 = (.pointer (some ⟨bl, 0, none⟩)) := f21
  replace f22 : ρ 22 = (.pointer (some ⟨bl, 0, none⟩)) := f22
  replace f23 : ρ 23 = (.pointer (some ⟨bl, 1, none⟩)) := f23
  replace f24 : ρ 24 = (.pointer (some ⟨bd, 0, none⟩)) := f24
  replace f25 : ρ 25 = (.int .i64 (d.fails : Int)) := f25
  replace f26 : ρ 26 = (.pointer (some ⟨bl, 0, none⟩)) := f26
  replace f27 : ρ 27 = (.pointer (some ⟨bl, 0, none⟩)) := f27
  replace f28 : ρ 28 = (.pointer (some ⟨bl, 4, none⟩)) := f28
  replace f29 : ρ 29 = (.int .i64 (l.fails : Int)) := f29
  replace f30 : ρ 30 = (.bool true) := f30
  replace f31 : ρ 31 = (.bool true) := f31
  replace f13 : ρ 13 = (.bool true) := f13
  simp only [puts, Act.put, List.setIfInBounds_toArray, List.set_cons_zero, List.set_cons_succ]
  rw [f13]
  go_wp2_with fail
  go_ret
  exact ⟨by rw [HF.out]; rfl, hext⟩
 ·have HF := Lib.hid (show wFault d l = 0 by unfold wFault; rw [if_neg (by simp [hon]), if_neg (by omega)])
  go_enter Tryz.func43, Tryz.ntmps43
  go_wp2_with fail
  refine wp_region_mono (by kernel_rfl) (by kernel_rfl) ?_
  refine tele_move rfl (.inl rfl) rfl (isV (.pointer (some ⟨bl, 0, none⟩))) (fun ρ w' h => h) ?_
  refine tele_val rfl (.pointer (some ⟨bl, 0, none⟩)) (fun _ _ _ => rfl) ?_ ?_
  ·rintro ρ w' he ⟨h14, -⟩
   have e14 : ρ 14 = (.pointer (some ⟨bl, 0, none⟩)) := h14
   simp [execOp, evR, e14, go_sem]
  refine tele_val rfl (.pointer (some ⟨bl, 1, none⟩)) (fun _ _ _ => rfl) ?_ ?_
  ·rintro ρ w' he ⟨h15, -⟩
   have e15 : ρ 15 = (.pointer (some ⟨bl, 0, none⟩)) := h15
   simp [execOp, evR, e15, go_sem]
  refine tele_val rfl (.pointer (some ⟨bd, 0, none⟩)) (fun _ _ _ => rfl) ?_ ?_
  ·rintro ρ w' he ⟨h16, -⟩
   have e16 : ρ 16 = (.pointer (some ⟨bl, 1, none⟩)) := h16
   have c := hb.out.ext he
   have c := c.cell (i := 1) rfl
   simp [execOp, evR, e16, c, go_sem]
  refine tele_call rfl rfl Tryz.func61 (by kernel_rfl) (isV (.bool true)) (fun _ _ _ => rfl) ?_ ?_
  ·rintro ρ w' he ⟨h17, -⟩
   have e17 : ρ 17 = (.pointer (some ⟨bd, 0, none⟩)) := h17
   simp only [evR, List.map_toArray, List.map_cons, List.map_nil, e17]
   refine (on_any (HD.out.ext he)).mono ?_
   rintro e w2 ⟨rfl, rfl⟩
   rw [hon]
   exact ⟨_, rfl, Ext.refl _, rfl⟩
  refine tele_val rfl (.bool false) (fun _ _ _ => rfl) ?_ ?_
  ·rintro ρ w' he ⟨h18, -⟩
   have e18 : ρ 18 = (.bool true) := h18
   simp [execOp, evR, e18, go_sem]
  refine tele_move rfl (.inl rfl) rfl (isV (.bool false)) (fun ρ w' h => h) ?_
  refine tele_val rfl ((.pointer (some ⟨bl, 0, none⟩))) (fun ρ w' hk => by obtain ⟨_, hg, -⟩ := hk; have eg : ρ 20 = (.bool false) := hg; simp [wantedR, Region.wanted, asBoolR, eg]) ?_ ?_
  ·rintro ρ w' he ⟨h0, -⟩
   have e0 : ρ 0 = (.pointer (some ⟨bl, 0, none⟩)) := h0
   simp [execOp, evR, e0]
  refine tele_val rfl (.pointer (some ⟨bl, 0, none⟩)) (fun ρ w' hk => by obtain ⟨_, hg, -⟩ := hk; have eg : ρ 20 = (.bool false) := hg; simp [wantedR, Region.wanted, asBoolR, eg]) ?_ ?_
  ·rintro ρ w' he ⟨h21, -⟩
   have e21 : ρ 21 = (.pointer (some ⟨bl, 0, none⟩)) := h21
   simp [execOp, evR, e21, go_sem]
  refine tele_val rfl (.pointer (some ⟨bl, 1, none⟩)) (fun ρ w' hk => by obtain ⟨_, hg, -⟩ := hk; have eg : ρ 20 = (.bool false) := hg; simp [wantedR, Region.wanted, asBoolR, eg]) ?_ ?_
  ·rintro ρ w' he ⟨h22, -⟩
   have e22 : ρ 22 = (.pointer (some ⟨bl, 0, none⟩)) := h22
   simp [execOp, evR, e22, go_sem]
  refine tele_val rfl (.pointer (some ⟨bd, 0, none⟩)) (fun ρ w' hk => by obtain ⟨_, hg, -⟩ := hk; have eg : ρ 20 = (.bool false) := hg; simp [wantedR, Region.wanted, asBoolR, eg]) ?_ ?_
  ·rintro ρ w' he ⟨h23, -⟩
   have e23 : ρ 23 = (.pointer (some ⟨bl, 1, none⟩)) := h23
   have c := hb.out.ext he
   have c := c.cell (i := 1) rfl
   simp [execOp, evR, e23, c, go_sem]
  refine tele_call rfl rfl Tryz.func35 (by kernel_rfl) (isV (.int .i64 (d.fails : Int))) (fun ρ w' hk => by obtain ⟨_, hg, -⟩ := hk; have eg : ρ 20 = (.bool false) := hg; simp [wantedR, Region.wanted, asBoolR, eg]) ?_ ?_
  ·rintro ρ w' he ⟨h24, -⟩
   have e24 : ρ 24 = (.pointer (some ⟨bd, 0, none⟩)) := h24
   simp only [evR, List.map_toArray, List.map_cons, List.map_nil, e24]
   refine (fails_any (HD.out.ext he)).mono ?_
   rintro e w2 ⟨rfl, rfl⟩
   exact ⟨_, rfl, Ext.refl _, rfl⟩
  refine tele_val rfl ((.pointer (some ⟨bl, 0, none⟩))) (fun ρ w' hk => by obtain ⟨_, hg, -⟩ := hk; have eg : ρ 20 = (.bool false) := hg; simp [wantedR, Region.wanted, asBoolR, eg]) ?_ ?_
  ·rintro ρ w' he ⟨h0, -⟩
   have e0 : ρ 0 = (.pointer (some ⟨bl, 0, none⟩)) := h0
   simp [execOp, evR, e0]
  refine tele_val rfl (.pointer (some ⟨bl, 0, none⟩)) (fun ρ w' hk => by obtain ⟨_, hg, -⟩ := hk; have eg : ρ 20 = (.bool false) := hg; simp [wantedR, Region.wanted, asBoolR, eg]) ?_ ?_
  ·rintro ρ w' he ⟨h26, -⟩
   have e26 : ρ 26 = (.pointer (some ⟨bl, 0, none⟩)) := h26
   simp [execOp, evR, e26, go_sem]
  refine tele_val rfl (.pointer (some ⟨bl, 4, none⟩)) (fun ρ w' hk => by obtain ⟨_, hg, -⟩ := hk; have eg : ρ 20 = (.bool false) := hg; simp [wantedR, Region.wanted, asBoolR, eg]) ?_ ?_
  ·rintro ρ w' he ⟨h27, -⟩
   have e27 : ρ 27 = (.pointer (some ⟨bl, 0, none⟩)) := h27
   simp [execOp, evR, e27, go_sem]
  refine tele_val rfl (.int .i64 (l.fails : Int)) (fun ρ w' hk => by obtain ⟨_, hg, -⟩ := hk; have eg : ρ 20 = (.bool false) := hg; simp [wantedR, Region.wanted, asBoolR, eg]) ?_ ?_
  ·rintro ρ w' he ⟨h28, -⟩
   have e28 : ρ 28 = (.pointer (some ⟨bl, 4, none⟩)) := h28
   have c := hb.out.ext he
   have c := c.cell (i := 4) rfl
   simp [execOp, evR, e28, c, go_sem]
  refine tele_val rfl (.bool false) (fun ρ w' hk => by obtain ⟨_, _, hg, -⟩ := hk; have eg : ρ 20 = (.bool false) := hg; simp [wantedR, Region.wanted, asBoolR, eg]) ?_ ?_
  ·rintro ρ w' he ⟨h25, h29, -⟩
   have e25 : ρ 25 = (.int .i64 (d.fails : Int)) := h25
   have e29 : ρ 29 = (.int .i64 (l.fails : Int)) := h29
   simp [execOp, evR, e25, e29, hne, go_sem]
  refine tele_val rfl (.bool false) (fun _ _ _ => rfl) ?_ ?_
  ·rintro ρ w' he ⟨h20, h30, -⟩
   have e20 : ρ 20 = (.bool false) := h20
   have e30 : ρ 30 = (.bool false) := h30
   simp [execOp, evR, e20, e30, go_sem]
  refine tele_move rfl (.inr rfl) rfl (isV (.bool false)) (fun ρ w' h => h) ?_
  refine tele_nil ?_
  rintro ρ w' hext ⟨f13, f31, f30, f29, f28, f27, f26, f25, f24, f23, f22, f21, f20, f19, f18, f17, f16, f15, f14, -⟩
  replace f14 : ρ 14 = (.pointer (some ⟨bl, 0, none⟩)) := f14
  replace f15 : ρ 15 = (.pointer (some ⟨bl, 0, none⟩)) := f15
  replace f16 : ρ 16 = (.pointer (some ⟨bl, 1, none⟩)) := f16
  replace f17 : ρ 17 = (.pointer (some ⟨bd, 0, none⟩)) := f17
  replace f18 : ρ 18 = (.bool true) := f18
  replace f19 : ρ 19 = (.bool false) := f19
  replace f20 : ρ 20 = (.bool false) := f20
  replace f21 : ρ 21 = (.pointer (some ⟨bl, 0, none⟩)) := f21
  replace f22 : ρ 22 = (.pointer (some ⟨bl, 0, none⟩)) := f22
  replace f23 : ρ 23 = (.pointer (some ⟨bl, 1, none⟩)) := f23
  replace f24 : ρ 24 = (.pointer (some ⟨bd, 0, none⟩)) := f24
  replace f25 : ρ 25 = (.int .i64 (d.fails : Int)) := f25
  replace f26 : ρ 26 = (.pointer (some ⟨bl, 0, none⟩)) := f26
  replace f27 : ρ 27 = (.pointer (some ⟨bl, 0, none⟩)) := f27
  replace f28 : ρ 28 = (.pointer (some ⟨bl, 4, none⟩)) := f28
  replace f29 : ρ 29 = (.int .i64 (l.fails : Int)) := f29
  replace f30 : ρ 30 = (.bool false) := f30
  replace f31 : ρ 31 = (.bool false) := f31
  replace f13 : ρ 13 = (.bool false) := f13
  simp only [puts, Act.put, List.setIfInBounds_toArray, List.set_cons_zero, List.set_cons_succ]
  rw [f13]
  go_wp2_with fail
  go_ret
  exact ⟨by rw [HF.out]; rfl, hext⟩
theorem wSure_any {z bl bd bm pl : Nat} {v : Value} {W : World} {d : Dk} {l : Lg} {ms : List FilM} (hd : DkM z W bd bm pl d ms) (h : LgM z W bl bd v l) (hne : l.segs ≠ []) (hb : l.next ≤ 9000000000000000000) :
  Calls Tryz.prog 23 #[.pointer (some ⟨bl, 0, none⟩)] W fun e w' => e = .returned (.int .i64 (l.sure : Int)) ∧ Ext W w' := by
 have HF := Lib.hid (wfault_any hd h)
 have hE : wFault d l = 0 ∨ wFault d l = 150 := by unfold wFault; split; exact .inr rfl; split; exact .inr rfl; exact .inl rfl
 have HH := Lib.hid h
 have HNE := Lib.hid hne
 have HB := Lib.hid hb
 obtain ⟨g, c, rfl, -⟩ := h.slice hne
 clear h hd hne hb
 obtain ⟨n, hn⟩ : ∃ n, n = wFault d l := ⟨_, rfl⟩
 rw [← hn] at hE HF
 have hn1 : ¬ (n : Int) = 1 := by omega
 clear hE hn
 go_enter Tryz.func23, Tryz.ntmps23
 go_wp2_with fail
 refine HF.out.mono ?_
 rintro e w1 ⟨rfl, hx1⟩
 have HX := Lib.hid hx1
 have hstr := (HH.out.ext hx1).str.blk
 have k3 := hstr.cell (i := 3) rfl
 clear hx1 hstr
 go_wp2_with fail
 go_ret
 exact ⟨rfl, HX.out⟩
theorem wNext_any {z bl bd bm pl : Nat} {v : Value} {W : World} {d : Dk} {l : Lg} {ms : List FilM} (hd : DkM z W bd bm pl d ms) (h : LgM z W bl bd v l) (hne : l.segs ≠ []) (hb : l.next ≤ 9000000000000000000) :
  Calls Tryz.prog 15 #[.pointer (some ⟨bl, 0, none⟩)] W fun e w' => e = .returned (.int .i64 (l.next : Int)) ∧ Ext W w' := by
 have HF := Lib.hid (wfault_any hd h)
 have hE : wFault d l = 0 ∨ wFault d l = 150 := by unfold wFault; split; exact .inr rfl; split; exact .inr rfl; exact .inl rfl
 have HH := Lib.hid h
 have HNE := Lib.hid hne
 have HB := Lib.hid hb
 obtain ⟨g, c, rfl, -⟩ := h.slice hne
 clear h hd hne hb
 obtain ⟨n, hn⟩ : ∃ n, n = wFault d l := ⟨_, rfl⟩
 rw [← hn] at hE HF
 have hn1 : ¬ (n : Int) = 1 := by omega
 clear hE hn
 go_enter Tryz.func15, Tryz.ntmps15
 go_wp2_with fail
 refine HF.out.mono ?_
 rintro e w1 ⟨rfl, hx1⟩
 have HX := Lib.hid hx1
 have hstr := (HH.out.ext hx1).str.blk
 have HN := Lib.hid (wnext_any (HH.out.ext hx1) HNE.out HB.out)
 clear hx1 hstr
 go_wp2_with fail
 refine HN.out.mono ?_
 rintro e w2 ⟨rfl, hx2⟩
 go_wp2_with fail
 go_ret
 exact ⟨rfl, HX.out.trans hx2⟩
theorem wFirst_any {z bl bd bm pl : Nat} {v : Value} {W : World} {d : Dk} {l : Lg} {ms : List FilM} (hd : DkM z W bd bm pl d ms) (h : LgM z W bl bd v l) (hne : l.segs ≠ []) (hb : l.next ≤ 9000000000000000000) :
  Calls Tryz.prog 20 #[.pointer (some ⟨bl, 0, none⟩)] W fun e w' => e = .returned (.int .i64 (l.first : Int)) ∧ Ext W w' := by
 have HF := Lib.hid (wfault_any hd h)
 have hE : wFault d l = 0 ∨ wFault d l = 150 := by unfold wFault; split; exact .inr rfl; split; exact .inr rfl; exact .inl rfl
 have HH := Lib.hid h
 have HNE := Lib.hid hne
 have HB := Lib.hid hb
 obtain ⟨g, c, rfl, -⟩ := h.slice hne
 clear h hd hne hb
 obtain ⟨n, hn⟩ : ∃ n, n = wFault d l := ⟨_, rfl⟩
 rw [← hn] at hE HF
 have hn1 : ¬ (n : Int) = 1 := by omega
 clear hE hn
 go_enter Tryz.func20, Tryz.ntmps20
 go_wp2_with fail
 refine HF.out.mono ?_
 rintro e w1 ⟨rfl, hx1⟩
 have HX := Lib.hid hx1
 have hstr := (HH.out.ext hx1).str.blk
 have k0 := hstr.cell (i := 0) rfl
 have hp := segs_pos HNE.out
 have h0 : l.segs[0]? = some (l.segs.headD ⟨1, 0, 0⟩) := by
  cases hs : l.segs with
  | nil => exact absurd hs HNE.out
  | cons a r => rfl
 have c0 := (LgM.cells (HH.out.ext hx1) h0).1
 have hsz : (sizeOf 79).run Tryz.prog w1 = .ok 3 w1 := by kernel_rfl
 have HF1 := Lib.hid (show l.first = (l.segs.headD ⟨1, 0, 0⟩).frm from rfl)
 generalize l.segs.headD ⟨1, 0, 0⟩ = s0 at *
 rw [Nat.zero_mul] at c0
 have hp' : (0 : Int) < (l.segs.length : Int) := by omega
 clear hx1 hstr h0
 go_wp2_with fail
 go_ret
 exact ⟨by rw [HF1.out]; rfl, HX.out⟩
theorem wOn_any {z bl bd bm pl : Nat} {v : Value} {W : World} {d : Dk} {l : Lg} {ms : List FilM} (hd : DkM z W bd bm pl d ms) (h : LgM z W bl bd v l) :
  Calls Tryz.prog 24 #[.pointer (some ⟨bl, 0, none⟩)] W fun e w' => e = .returned (.bool (decide (wFault d l = 0))) ∧ Ext W w' := by
 have HF := Lib.hid (wfault_any hd h)
 clear h hd
 generalize wFault d l = n at *
 go_enter Tryz.func24, Tryz.ntmps24
 go_wp2_with fail
 refine HF.out.mono ?_
 rintro e w1 ⟨rfl, hx1⟩
 go_wp2_with fail
 go_ret
 refine ⟨?_, hx1⟩
 have : ((n : Int) == 0) = decide (n = 0) := by rw [Bool.eq_iff_iff]; simp
 rw [← this]
 rfl
end Go.Proofs.YtagghghoimpofaaGreatDoor
