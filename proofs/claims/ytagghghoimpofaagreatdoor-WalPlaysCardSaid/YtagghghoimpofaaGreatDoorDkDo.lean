/-
 Layer 15: what is done where the power does not fail: the inner functions of Make, Append, Sync, Cut, Drop.
-/
import Derived.Test.YtagghghoimpofaaGreatDoorDkCount
import Derived.Test.YtagghghoimpofaaGreatDoorMonoDet
namespace Go.Proofs.YtagghghoimpofaaGreatDoor
open Go Go.RowKit Mono
open Go.Maps (Keyed has size)
set_option linter.unusedVariables false
set_option linter.unusedSimpArgs false
set_option maxRecDepth 100000

theorem Dk.Ok.tick {d : Dk} (h : d.Ok) : d.tick.Ok := by
 unfold Dk.tick
 rcases d.plan with _ | ⟨_ | n, k⟩ <;> exact ⟨h.room, h.sorted, h.sure, h.len, h.few, h.used, h.names⟩
theorem upd_off {name : List UInt8} {g : Fil → Fil} : ∀ {l : List FilM}, (∀ x ∈ l, x.name ≠ name) → updF name g (l.map FilM.fil) = l.map FilM.fil
 | [], _ => rfl
 | x :: r, h => by
  have ih := upd_off (g := g) (fun y hy => h y (List.mem_cons_of_mem _ hy))
  unfold updF at *
  simp only [List.map_cons, ih]
  have : ¬ (x.fil.name == name) = true := by have := h x List.mem_cons_self; simpa [FilM.fil] using this
  rw [if_neg this]
theorem upd_split {name : List UInt8} {g : Fil → Fil} {l r : List FilM} {m m' : FilM} (hn : m.name = name) (hp : (l ++ m :: r).Pairwise fun a b => a.name ≠ b.name) (hg : m'.fil = g m.fil) : (l ++ m' :: r).map FilM.fil = updF name g ((l ++ m :: r).map FilM.fil) := by
 obtain ⟨h1, h2, h3⟩ := List.pairwise_append.1 hp
 obtain ⟨h4, h5⟩ := List.pairwise_cons.1 h2
 subst hn
 have e1 := upd_off (name := m.name) (g := g) (l := l) (fun x hx => h3 x hx m List.mem_cons_self)
 have e2 := upd_off (name := m.name) (g := g) (l := r) (fun x hx e => h4 x hx e.symm)
 rw [List.map_append, List.map_cons, List.map_append, List.map_cons]
 unfold updF at *
 rw [List.map_append, e1, List.map_cons, e2, hg]
 simp [FilM.fil]
theorem dall_put {bd bm pl : Nat} {d d' : Dk} {l r : List FilM} {m m' : FilM} (hp : d'.plan = d.plan) (hb : m'.blk = m.blk) (hv : ∀ j, m'.v.ownBlock = some j → m.v.ownBlock = some j) : ∀ k, dall bd bm pl d' (l ++ m' :: r) k → dall bd bm pl d (l ++ m :: r) k :=
 dall_same (by rw [hp]; exact fun h => h) (fun x hx => by
  rcases List.mem_append.1 hx with hx | hx
  ·exact ⟨x, by simp [hx], rfl, fun _ h => h⟩
  ·rcases List.mem_cons.1 hx with rfl | hx
   ·exact ⟨m, by simp, hb, hv⟩
   ·exact ⟨x, by simp [hx], rfl, fun _ h => h⟩)
theorem append1_any (W : World) : Calls Tryz.prog 82 #[] W fun e w' => e = .returned (.tuple #[]) ∧ w' = W := by
 go_enter Tryz.func82, Tryz.ntmps82
 go_wp2_with fail
 go_end0
 exact ⟨rfl, rfl⟩

theorem sync1_any {z bd bm pl : Nat} {W : World} {d : Dk} {ms : List FilM} (h : DkM z W bd bm pl d ms) (hok : d.Ok) {name : List UInt8} {m : FilM} (hf : findM name ms = some m) {p : Nat} (hb : BlkT W p 102 [.pointer (some ⟨m.blk, 0, none⟩)]) :
  Calls Tryz.prog 79 #[.pointer (some ⟨p, 0, none⟩)] W fun e w' => e = .returned (.tuple #[]) ∧ ∃ ms', DkS z W w' bd bm pl d ms pl (d.upd name fun f => { f with sure := f.b.length }) ms' := by
 obtain ⟨hm, hn⟩ := findM_mem hf
 obtain ⟨l, r, rfl⟩ := List.append_of_mem hm
 have hp := names_apart h hok
 have bf := (h.files m hm).1.blk
 obtain ⟨A, c, hmv, g1, g2, g3, g4⟩ := (h.bytes m hm).bs.open_
 rw [hmv] at bf
 have HH := Lib.hid h
 have HP := Lib.hid hp
 have HM := Lib.hid hmv
 have hsure : m.sure ≤ m.b.length := hok.sure m.fil (by rw [← h.fs]; exact List.mem_map.2 ⟨m, hm, rfl⟩)
 have hlen : m.b.length ≤ 1048576 := hok.len m.fil (by rw [← h.fs]; exact List.mem_map.2 ⟨m, hm, rfl⟩)
 have hmem := hm
 have bp := hb.blk
 clear h hp hmv hm hb
 go_enter Tryz.func79, Tryz.ntmps79
 go_wp2_with fail
 refine wp_region_last_lit (by kernel_rfl) rfl (by kernel_rfl) (by kernel_rfl) ?_
 refine tele_val rfl (.pointer (some ⟨m.blk, 0, none⟩)) (fun _ _ _ => rfl) ?_ ?_
 ·rintro ρ w' he ⟨h0, -⟩
  have e0 : ρ 0 = (.pointer (some ⟨p, 0, none⟩)) := h0
  have c := (bp.ext he).cell (i := 0) rfl
  simp [execOp, evR, e0, c, go_sem]
 refine tele_val rfl (.pointer (some ⟨m.blk, 0, none⟩)) (fun _ _ _ => rfl) ?_ ?_
 ·rintro ρ w' he ⟨h0, -⟩
  have e0 : ρ 0 = (.pointer (some ⟨p, 0, none⟩)) := h0
  have c := (bp.ext he).cell (i := 0) rfl
  simp [execOp, evR, e0, c, go_sem]
 refine tele_val rfl (.pointer (some ⟨m.blk, 0, none⟩)) (fun _ _ _ => rfl) ?_ ?_
 ·rintro ρ w' he ⟨h2, -⟩
  have e2 : ρ 2 = (.pointer (some ⟨m.blk, 0, none⟩)) := h2
  simp [execOp, evR, e2, go_sem]
 refine tele_val rfl (.pointer (some ⟨m.blk, 0, none⟩)) (fun _ _ _ => rfl) ?_ ?_
 ·rintro ρ w' he ⟨h3, -⟩
  have e3 : ρ 3 = (.pointer (some ⟨m.blk, 0, none⟩)) := h3
  simp [execOp, evR, e3, go_sem]
 refine tele_val rfl (.slice A m.b.length c) (fun _ _ _ => rfl) ?_ ?_
 ·rintro ρ w' he ⟨h4, -⟩
  have e4 : ρ 4 = (.pointer (some ⟨m.blk, 0, none⟩)) := h4
  have c := (bf.ext he).cell (i := 0) rfl
  simp [execOp, evR, e4, c, go_sem]
 refine tele_val rfl (.int .i64 (m.b.length : Int)) (fun _ _ _ => rfl) ?_ ?_
 ·rintro ρ w' he ⟨h5, -⟩
  have e5 : ρ 5 = (.slice A m.b.length c) := h5
  simp [execOp, evR, e5, go_sem]
 refine tele_val rfl (.pointer (some ⟨m.blk, 0, none⟩)) (fun _ _ _ => rfl) ?_ ?_
 ·rintro ρ w' he ⟨h1, -⟩
  have e1 : ρ 1 = (.pointer (some ⟨m.blk, 0, none⟩)) := h1
  simp [execOp, evR, e1, go_sem]
 refine tele_val rfl (.pointer (some ⟨m.blk, 1, none⟩)) (fun _ _ _ => rfl) ?_ ?_
 ·rintro ρ w' he ⟨h7, -⟩
  have e7 : ρ 7 = (.pointer (some ⟨m.blk, 0, none⟩)) := h7
  simp [execOp, evR, e7, go_sem]
 refine tele_nil ?_
 rintro ρ w' hext ⟨f8, f7, f6, f5, f4, f3, f2, f1, -⟩
 replace f1 : ρ 1 = (.pointer (some ⟨m.blk, 0, none⟩)) := f1
 replace f2 : ρ 2 = (.pointer (some ⟨m.blk, 0, none⟩)) := f2
 replace f3 : ρ 3 = (.pointer (some ⟨m.blk, 0, none⟩)) := f3
 replace f4 : ρ 4 = (.pointer (some ⟨m.blk, 0, none⟩)) := f4
 replace f5 : ρ 5 = (.slice A m.b.length c) := f5
 replace f6 : ρ 6 = (.int .i64 (m.b.length : Int)) := f6
 replace f7 : ρ 7 = (.pointer (some ⟨m.blk, 0, none⟩)) := f7
 replace f8 : ρ 8 = (.pointer (some ⟨m.blk, 1, none⟩)) := f8
 simp only [puts, Act.put, List.setIfInBounds_toArray, List.set_cons_zero, List.set_cons_succ]
 have HD := HH.out.ext hext
 have c1 := (bf.ext hext).cell (i := 1) rfl
 have t1 := (bf.ext hext).thaw 1
 have hfs : (l ++ (⟨m.name, m.blk, m.v, m.b, m.b.length⟩ : FilM) :: r).map FilM.fil = (d.upd name fun f => { f with sure := f.b.length }).fs := by
  show _ = updF name _ d.fs
  rw [← HH.out.fs]
  exact upd_split hn HP.out rfl
 have hu : ((d.upd name fun f => { f with sure := f.b.length }).used : Int) = (d.used : Int) := by
  show (usedF _ : Int) = (usedF _ : Int)
  rw [← hfs, ← HH.out.fs, List.map_append, List.map_cons, List.map_append, List.map_cons, used_split, used_split]
  rfl
 have h5 := HD.fput (m' := ⟨m.name, m.blk, m.v, m.b, m.b.length⟩) (d' := d.upd name fun f => { f with sure := f.b.length }) 1 (.int .i64 (m.b.length : Int)) rfl rfl rfl (HD.bytes m hmem) rfl rfl hfs
 rw [← hu] at h5
 have HX := Lib.hid (⟨h5, (Kb.of_ext hext).trans (Kb.set (dall bd bm pl d (l ++ m :: r)) _ m.blk 1 (.int .i64 (m.b.length : Int)) (.inl (.inr (.inr (.inr ⟨m, hmem, rfl⟩))))) (fun _ h => .inl h), fun k hk => .inl (dall_put (m := m) (m' := ⟨m.name, m.blk, m.v, m.b, m.b.length⟩) rfl rfl (fun _ h => h) k hk)⟩ : DkS z W _ bd bm pl d (l ++ m :: r) pl _ _)
 clear h5 hu hfs HD
 rw [f6, f8]
 go_wp2_with fail
 go_end0
 exact ⟨rfl, _, HX.out⟩

theorem cut1_any {z bd bm pl : Nat} {W : World} {d : Dk} {ms : List FilM} (h : DkM z W bd bm pl d ms) (hok : d.Ok) {name : List UInt8} {m : FilM} (hf : findM name ms = some m) {N : Nat} (hN : N ≤ m.b.length) {p0 p1 p2 : Nat}
  (h0 : BlkT W p0 24 [.pointer (some ⟨bd, 0, none⟩)]) (h1 : BlkT W p1 102 [.pointer (some ⟨m.blk, 0, none⟩)]) (h2 : BlkT W p2 3 [.int .i64 (N : Int)]) :
  Calls Tryz.prog 78 #[.pointer (some ⟨p0, 0, none⟩), .pointer (some ⟨p1, 0, none⟩), .pointer (some ⟨p2, 0, none⟩)] W fun e w' => e = .returned (.tuple #[]) ∧ ∃ ms', DkS z W w' bd bm pl d ms pl (d.upd name fun f => ⟨f.name, f.b.take N, min f.sure N⟩) ms' := by
 obtain ⟨hm, hn⟩ := findM_mem hf
 obtain ⟨l, r, rfl⟩ := List.append_of_mem hm
 have hp := names_apart h hok
 have bf := (h.files m hm).1.blk
 obtain ⟨A, c, hmv, g1, g2, g3, g4⟩ := (h.bytes m hm).bs.open_
 rw [hmv] at bf
 have HH := Lib.hid h
 have HP := Lib.hid hp
 have HM := Lib.hid hmv
 have hsure : m.sure ≤ m.b.length := hok.sure m.fil (by rw [← h.fs]; exact List.mem_map.2 ⟨m, hm, rfl⟩)
 have hlen : m.b.length ≤ 1048576 := hok.len m.fil (by rw [← h.fs]; exact List.mem_map.2 ⟨m, hm, rfl⟩)
 have hmem := hm
 have b0 := h0.blk
 have b1 := h1.blk
 have b2 := h2.blk
 have bz := h.str.blk
 have HB0 := Lib.hid h0
 have HB1 := Lib.hid h1
 have HB2 := Lib.hid h2
 have hused : d.used ≤ 1073741824 := Nat.le_trans hok.used hok.room
 have hlu : m.b.length ≤ d.used := by
  show _ ≤ usedF d.fs
  rw [← h.fs, List.map_append, List.map_cons, used_split]
  show m.b.length ≤ _ + m.b.length + _
  omega
 obtain ⟨D0, hD0⟩ : ∃ D0, D0 = d.used := ⟨_, rfl⟩
 rw [← hD0] at hused hlu
 have HDD := Lib.hid hD0
 unfold dstrC at bz
 rw [← hD0] at bz
 clear h hp hmv hm h0 h1 h2 hD0
 go_enter Tryz.func78, Tryz.ntmps78
 go_wp2_with fail
 refine wp_region_last_lit (by kernel_rfl) rfl (by kernel_rfl) (by kernel_rfl) ?_
 refine tele_val rfl (.pointer (some ⟨bd, 0, none⟩)) (fun _ _ _ => rfl) ?_ ?_
 ·rintro ρ w' he ⟨h0, -⟩
  have e0 : ρ 0 = (.pointer (some ⟨p0, 0, none⟩)) := h0
  have c := (b0.ext he).cell (i := 0) rfl
  simp [execOp, evR, e0, c, go_sem]
 refine tele_val rfl (.pointer (some ⟨bd, 0, none⟩)) (fun _ _ _ => rfl) ?_ ?_
 ·rintro ρ w' he ⟨h3, -⟩
  have e3 : ρ 3 = (.pointer (some ⟨bd, 0, none⟩)) := h3
  simp [execOp, evR, e3, go_sem]
 refine tele_val rfl (.pointer (some ⟨bd, 3, none⟩)) (fun _ _ _ => rfl) ?_ ?_
 ·rintro ρ w' he ⟨h4, -⟩
  have e4 : ρ 4 = (.pointer (some ⟨bd, 0, none⟩)) := h4
  simp [execOp, evR, e4, go_sem]
 refine tele_val rfl (.int .i64 (D0 : Int)) (fun _ _ _ => rfl) ?_ ?_
 ·rintro ρ w' he ⟨h5, -⟩
  have e5 : ρ 5 = (.pointer (some ⟨bd, 3, none⟩)) := h5
  have c := (bz.ext he).cell (i := 3) rfl
  simp [execOp, evR, e5, c, go_sem]
 refine tele_val rfl (.pointer (some ⟨m.blk, 0, none⟩)) (fun _ _ _ => rfl) ?_ ?_
 ·rintro ρ w' he ⟨h1, -⟩
  have e1 : ρ 1 = (.pointer (some ⟨p1, 0, none⟩)) := h1
  have c := (b1.ext he).cell (i := 0) rfl
  simp [execOp, evR, e1, c, go_sem]
 refine tele_val rfl (.pointer (some ⟨m.blk, 0, none⟩)) (fun _ _ _ => rfl) ?_ ?_
 ·rintro ρ w' he ⟨h7, -⟩
  have e7 : ρ 7 = (.pointer (some ⟨m.blk, 0, none⟩)) := h7
  simp [execOp, evR, e7, go_sem]
 refine tele_val rfl (.pointer (some ⟨m.blk, 0, none⟩)) (fun _ _ _ => rfl) ?_ ?_
 ·rintro ρ w' he ⟨h8, -⟩
  have e8 : ρ 8 = (.pointer (some ⟨m.blk, 0, none⟩)) := h8
  simp [execOp, evR, e8, go_sem]
 refine tele_val rfl (.slice A m.b.length c) (fun _ _ _ => rfl) ?_ ?_
 ·rintro ρ w' he ⟨h9, -⟩
  have e9 : ρ 9 = (.pointer (some ⟨m.blk, 0, none⟩)) := h9
  have c := (bf.ext he).cell (i := 0) rfl
  simp [execOp, evR, e9, c, go_sem]
 refine tele_val rfl (.int .i64 (m.b.length : Int)) (fun _ _ _ => rfl) ?_ ?_
 ·rintro ρ w' he ⟨h10, -⟩
  have e10 : ρ 10 = (.slice A m.b.length c) := h10
  simp [execOp, evR, e10, go_sem]
 refine tele_val rfl (.int .i64 (N : Int)) (fun _ _ _ => rfl) ?_ ?_
 ·rintro ρ w' he ⟨h2, -⟩
  have e2 : ρ 2 = (.pointer (some ⟨p2, 0, none⟩)) := h2
  have c := (b2.ext he).cell (i := 0) rfl
  simp [execOp, evR, e2, c, go_sem]
 refine tele_val rfl (.int .i64 ((m.b.length : Int) - (N : Int))) (fun _ _ _ => rfl) ?_ ?_
 ·rintro ρ w' he ⟨h11, h12, -⟩
  have e11 : ρ 11 = (.int .i64 (m.b.length : Int)) := h11
  have e12 : ρ 12 = (.int .i64 (N : Int)) := h12
  have hw : IntKind.i64.wrap ((m.b.length : Int) - (N : Int)) = (m.b.length : Int) - (N : Int) := by rw [IntWalk.i64_in _ (by omega)]
  simp [execOp, evR, e11, e12, hw, go_sem]
 refine tele_val rfl (.int .i64 ((D0 : Int) - ((m.b.length : Int) - (N : Int)))) (fun _ _ _ => rfl) ?_ ?_
 ·rintro ρ w' he ⟨h6, h13, -⟩
  have e6 : ρ 6 = (.int .i64 (D0 : Int)) := h6
  have e13 : ρ 13 = (.int .i64 ((m.b.length : Int) - (N : Int))) := h13
  have hw : IntKind.i64.wrap ((D0 : Int) - ((m.b.length : Int) - (N : Int))) = (D0 : Int) - ((m.b.length : Int) - (N : Int)) := by rw [IntWalk.i64_in _ (by omega)]
  simp [execOp, evR, e6, e13, hw, go_sem]
 refine tele_val rfl (.pointer (some ⟨bd, 0, none⟩)) (fun _ _ _ => rfl) ?_ ?_
 ·rintro ρ w' he ⟨h3, -⟩
  have e3 : ρ 3 = (.pointer (some ⟨bd, 0, none⟩)) := h3
  simp [execOp, evR, e3, go_sem]
 refine tele_val rfl (.pointer (some ⟨bd, 3, none⟩)) (fun _ _ _ => rfl) ?_ ?_
 ·rintro ρ w' he ⟨h15, -⟩
  have e15 : ρ 15 = (.pointer (some ⟨bd, 0, none⟩)) := h15
  simp [execOp, evR, e15, go_sem]
 refine tele_nil ?_
 rintro ρ w' hext ⟨f16, f15, f14, f13, f12, f11, f10, f9, f8, f7, f6, f5, f4, f3, -⟩
 replace f3 : ρ 3 = (.pointer (some ⟨bd, 0, none⟩)) := f3
 replace f4 : ρ 4 = (.pointer (some ⟨bd, 0, none⟩)) := f4
 replace f5 : ρ 5 = (.pointer (some ⟨bd, 3, none⟩)) := f5
 replace f6 : ρ 6 = (.int .i64 (D0 : Int)) := f6
 replace f7 : ρ 7 = (.pointer (some ⟨m.blk, 0, none⟩)) := f7
 replace f8 : ρ 8 = (.pointer (some ⟨m.blk, 0, none⟩)) := f8
 replace f9 : ρ 9 = (.pointer (some ⟨m.blk, 0, none⟩)) := f9
 replace f10 : ρ 10 = (.slice A m.b.length c) := f10
 replace f11 : ρ 11 = (.int .i64 (m.b.length : Int)) := f11
 replace f12 : ρ 12 = (.int .i64 (N : Int)) := f12
 replace f13 : ρ 13 = (.int .i64 ((m.b.length : Int) - (N : Int))) := f13
 replace f14 : ρ 14 = (.int .i64 ((D0 : Int) - ((m.b.length : Int) - (N : Int)))) := f14
 replace f15 : ρ 15 = (.pointer (some ⟨bd, 0, none⟩)) := f15
 replace f16 : ρ 16 = (.pointer (some ⟨bd, 3, none⟩)) := f16
 simp only [puts, Act.put, List.setIfInBounds_toArray, List.set_cons_zero, List.set_cons_succ]
 have HD := HH.out.ext hext
 have k3 := HD.str.blk.cell (i := 3) rfl
 have t3 := HD.str.blk.thaw 3
 have hfs : (l ++ (⟨m.name, m.blk, .slice A N N, m.b.take N, min m.sure N⟩ : FilM) :: r).map FilM.fil = (d.upd name fun f => ⟨f.name, f.b.take N, min f.sure N⟩).fs := by
  show _ = updF name _ d.fs
  rw [← HH.out.fs]
  exact upd_split hn HP.out rfl
 have hu : ((d.upd name fun f => ⟨f.name, f.b.take N, min f.sure N⟩).used : Int) = (D0 : Int) - ((m.b.length : Int) - (N : Int)) := by
  show (usedF _ : Int) = _
  rw [HDD.out]
  show _ = (usedF d.fs : Int) - _
  rw [← hfs, ← HH.out.fs, List.map_append, List.map_cons, List.map_append, List.map_cons, used_split, used_split]
  have e1 : (FilM.fil ⟨m.name, m.blk, .slice A N N, m.b.take N, min m.sure N⟩).b.length = N := by show (m.b.take N).length = N; simp; omega
  have e2 : m.fil.b.length = m.b.length := rfl
  rw [e1, e2]
  omega
 obtain ⟨U, hU⟩ : ∃ U : Int, U = (D0 : Int) - ((m.b.length : Int) - (N : Int)) := ⟨_, rfl⟩
 rw [← hU] at hu f14
 have h4 := HD.put (u' := U) (d' := d) (pl' := pl) 3 (.int .i64 U) rfl rfl HD.plan
 have hk4 := (Kb.of_ext (fp := dall bd bm pl d (l ++ m :: r)) hext).trans (Kb.set (dall bd bm pl d (l ++ m :: r)) _ bd 3 (.int .i64 U) (.inl (.inl rfl))) (fun _ h => .inl h)
 have c0 := (((HB0.out.ext hext).other (a := ⟨bd, 3, none⟩) (.int .i64 U) ((HB0.out.ext hext).ne HD.str (by decide))).blk)
 have c1 := (((HB1.out.ext hext).other (a := ⟨bd, 3, none⟩) (.int .i64 U) ((HB1.out.ext hext).ne HD.str (by decide))).blk)
 have c2 := (((HB2.out.ext hext).other (a := ⟨bd, 3, none⟩) (.int .i64 U) ((HB2.out.ext hext).ne HD.str (by decide))).blk)
 have cf := (h4.files m hmem).1.blk
 have HN1 := Lib.hid (show p1 ≠ m.blk from (HB1.out.ext hext).ne (HD.files m hmem).1 (by decide))
 have HN2 := Lib.hid (show p2 ≠ m.blk from (HB2.out.ext hext).ne (HD.files m hmem).1 (by decide))
 rw [HM.out] at cf
 have H4 := Lib.hid h4
 have HK4 := Lib.hid hk4
 have HU := Lib.hid hu
 clear h4 hk4 hu hU b0 b1 b2 bf bz
 have b0 := c0
 have b1 := c1
 have b2 := c2
 have bf := cf
 clear c0 c1 c2 cf
 have HX := Lib.hid hext
 clear HD
 rw [f14, f16]
 go_wp2_with fail
 clear k3 t3
 generalize w'.setCell ⟨bd, 3, none⟩ (.int .i64 U) = W4 at *
 refine wp_region_turns 2 [(0, 0, false), (0, 1, false), (0, 0, false), (0, 0, false), (0, 0, false), (0, 0, false), (0, 0, false), (0, 0, false), (0, 0, false), (0, 1, false), (0, 1, false), (0, 1, false), (0, 0, false), (0, 1, false), (0, 1, false), (0, 1, false), (0, 0, false), (0, 0, true), (1, 2, false), (1, 1, false), (1, 1, true)] (fun w0 c => match c with | 0 => w0 | 1 => w0.setCell ⟨m.blk, 0, none⟩ (.slice A N N) | _ => (w0.setCell ⟨m.blk, 0, none⟩ (.slice A N N)).setCell ⟨m.blk, 1, none⟩ (.int .i64 ((min m.sure N : Nat) : Int))) (by kernel_rfl) (by kernel_rfl) (by kernel_rfl) (fun _ => rfl) ?_
 intro w0 ws hext hsz hws
 have q0 : ws 0 = w0 := hws 0
 have q1 : ws 1 = w0.setCell ⟨m.blk, 0, none⟩ (.slice A N N) := hws 1
 have q2 : ws 2 = (w0.setCell ⟨m.blk, 0, none⟩ (.slice A N N)).setCell ⟨m.blk, 1, none⟩ (.int .i64 ((min m.sure N : Nat) : Int)) := hws 2
 clear hws
 have b1w0 := b1.ext hext
 have b2w0 := b2.ext hext
 have bfw0 := bf.ext hext
 have b1w1 := b1w0.apart (a := ⟨m.blk, 0, none⟩) (.slice A N N) HN1.out
 have b2w1 := b2w0.apart (a := ⟨m.blk, 0, none⟩) (.slice A N N) HN2.out
 have bfw1 := bfw0.set 0 (.slice A N N)
 have bfw2 := bfw1.set 1 (.int .i64 ((min m.sure N : Nat) : Int))
 simp only [List.set_cons_zero, List.set_cons_succ] at bfw1
 refine detT_read rfl (.pointer (some ⟨m.blk, 0, none⟩)) (fun _ _ => rfl) ?_ ?_
 ·rintro ρ ⟨h1, -⟩ c hc1 hc2
  have e1 : ρ 1 = .pointer (some ⟨p1, 0, none⟩) := h1
  have hc : c = 0 := by have h1 : 0 ≤ c := hc1; have h2 : c ≤ 0 := hc2; omega
  rcases hc with rfl
  ·rw [q0]
   have c := b1w0.cell (i := 0) rfl
   simp [execOp, evR, e1, c, go_sem]
 refine detT_read rfl (.pointer (some ⟨m.blk, 0, none⟩)) (fun _ _ => rfl) ?_ ?_
 ·rintro ρ ⟨h1, -⟩ c hc1 hc2
  have e1 : ρ 1 = .pointer (some ⟨p1, 0, none⟩) := h1
  have hc : c = 0 ∨ c = 1 := by have h1 : 0 ≤ c := hc1; have h2 : c ≤ 1 := hc2; omega
  rcases hc with rfl | rfl
  ·rw [q0]
   have c := b1w0.cell (i := 0) rfl
   simp [execOp, evR, e1, c, go_sem]
  ·rw [q1]
   have c := b1w1.cell (i := 0) rfl
   simp [execOp, evR, e1, c, go_sem]
 refine detT_read rfl (.pointer (some ⟨m.blk, 0, none⟩)) (fun _ _ => rfl) ?_ ?_
 ·rintro ρ ⟨h1, -⟩ c hc1 hc2
  have e1 : ρ 1 = .pointer (some ⟨p1, 0, none⟩) := h1
  have hc : c = 0 := by have h1 : 0 ≤ c := hc1; have h2 : c ≤ 0 := hc2; omega
  rcases hc with rfl
  ·rw [q0]
   have c := b1w0.cell (i := 0) rfl
   simp [execOp, evR, e1, c, go_sem]
 refine detT_pure rfl (.pointer (some ⟨m.blk, 0, none⟩)) (fun _ _ => rfl) ?_ ?_
 ·rintro ρ ⟨h19, -⟩ w'
  have e19 : ρ 19 = .pointer (some ⟨m.blk, 0, none⟩) := h19
  simp [execOp, evR, e19, go_sem]
 refine detT_pure rfl (.pointer (some ⟨m.blk, 0, none⟩)) (fun _ _ => rfl) ?_ ?_
 ·rintro ρ ⟨h20, -⟩ w'
  have e20 : ρ 20 = .pointer (some ⟨m.blk, 0, none⟩) := h20
  simp [execOp, evR, e20, go_sem]
 refine detT_read rfl (.slice A m.b.length c) (fun _ _ => rfl) ?_ ?_
 ·rintro ρ ⟨h21, -⟩ c hc1 hc2
  have e21 : ρ 21 = .pointer (some ⟨m.blk, 0, none⟩) := h21
  have hc : c = 0 := by have h1 : 0 ≤ c := hc1; have h2 : c ≤ 0 := hc2; omega
  rcases hc with rfl
  ·rw [q0]
   have c := bfw0.cell (i := 0) rfl
   simp [execOp, evR, e21, c, go_sem]
 refine detT_read rfl (.int .i64 (N : Int)) (fun _ _ => rfl) ?_ ?_
 ·rintro ρ ⟨h2, -⟩ c hc1 hc2
  have e2 : ρ 2 = .pointer (some ⟨p2, 0, none⟩) := h2
  have hc : c = 0 := by have h1 : 0 ≤ c := hc1; have h2 : c ≤ 0 := hc2; omega
  rcases hc with rfl
  ·rw [q0]
   have c := b2w0.cell (i := 0) rfl
   simp [execOp, evR, e2, c, go_sem]
 refine detT_read rfl (.int .i64 (N : Int)) (fun _ _ => rfl) ?_ ?_
 ·rintro ρ ⟨h2, -⟩ c hc1 hc2
  have e2 : ρ 2 = .pointer (some ⟨p2, 0, none⟩) := h2
  have hc : c = 0 := by have h1 : 0 ≤ c := hc1; have h2 : c ≤ 0 := hc2; omega
  rcases hc with rfl
  ·rw [q0]
   have c := b2w0.cell (i := 0) rfl
   simp [execOp, evR, e2, c, go_sem]
 refine detT_pure rfl (.slice A N N) (fun _ _ => rfl) ?_ ?_
 ·rintro ρ ⟨h22, h23, h24, -⟩ w'
  have e22 : ρ 22 = .slice A m.b.length c := h22
  have e23 : ρ 23 = .int .i64 (N : Int) := h23
  have e24 : ρ 24 = .int .i64 (N : Int) := h24
  have q1 : (N : Int) ≤ (N : Int) := Int.le_refl _
  have q2 : (0 : Int) ≤ (N : Int) := by omega
  have q3 : (N : Int) ≤ (c : Int) := by omega
  simp [execOp, evR, e22, e23, e24, q1, q2, q3, go_sem]
 refine detT_read rfl (.pointer (some ⟨m.blk, 0, none⟩)) (fun _ _ => rfl) ?_ ?_
 ·rintro ρ ⟨h1, -⟩ c hc1 hc2
  have e1 : ρ 1 = .pointer (some ⟨p1, 0, none⟩) := h1
  have hc : c = 0 ∨ c = 1 := by have h1 : 0 ≤ c := hc1; have h2 : c ≤ 1 := hc2; omega
  rcases hc with rfl | rfl
  ·rw [q0]
   have c := b1w0.cell (i := 0) rfl
   simp [execOp, evR, e1, c, go_sem]
  ·rw [q1]
   have c := b1w1.cell (i := 0) rfl
   simp [execOp, evR, e1, c, go_sem]
 refine detT_pure rfl (.pointer (some ⟨m.blk, 0, none⟩)) (fun _ _ => rfl) ?_ ?_
 ·rintro ρ ⟨h26, -⟩ w'
  have e26 : ρ 26 = .pointer (some ⟨m.blk, 0, none⟩) := h26
  simp [execOp, evR, e26, go_sem]
 refine detT_pure rfl (.pointer (some ⟨m.blk, 1, none⟩)) (fun _ _ => rfl) ?_ ?_
 ·rintro ρ ⟨h27, -⟩ w'
  have e27 : ρ 27 = .pointer (some ⟨m.blk, 0, none⟩) := h27
  simp [execOp, evR, e27, go_sem]
 refine detT_read rfl (.int .i64 (m.sure : Int)) (fun _ _ => rfl) ?_ ?_
 ·rintro ρ ⟨h28, -⟩ c hc1 hc2
  have e28 : ρ 28 = .pointer (some ⟨m.blk, 1, none⟩) := h28
  have hc : c = 0 := by have h1 : 0 ≤ c := hc1; have h2 : c ≤ 0 := hc2; omega
  rcases hc with rfl
  ·rw [q0]
   have c := bfw0.cell (i := 1) rfl
   simp [execOp, evR, e28, c, go_sem]
 refine detT_read rfl (.int .i64 (N : Int)) (fun _ _ => rfl) ?_ ?_
 ·rintro ρ ⟨h2, -⟩ c hc1 hc2
  have e2 : ρ 2 = .pointer (some ⟨p2, 0, none⟩) := h2
  have hc : c = 0 ∨ c = 1 := by have h1 : 0 ≤ c := hc1; have h2 : c ≤ 1 := hc2; omega
  rcases hc with rfl | rfl
  ·rw [q0]
   have c := b2w0.cell (i := 0) rfl
   simp [execOp, evR, e2, c, go_sem]
  ·rw [q1]
   have c := b2w1.cell (i := 0) rfl
   simp [execOp, evR, e2, c, go_sem]
 refine detT_pure rfl (.int .i64 ((min m.sure N : Nat) : Int)) (fun _ _ => rfl) ?_ ?_
 ·rintro ρ ⟨h29, h30, -⟩ w'
  have e29 : ρ 29 = .int .i64 (m.sure : Int) := h29
  have e30 : ρ 30 = .int .i64 (N : Int) := h30
  simp [execOp, resolve, invoke, builtin, evR, e29, e30, run_min_int2, go_sem]
  split <;> omega
 refine detT_pure rfl (.pointer (some ⟨m.blk, 0, none⟩)) (fun _ _ => rfl) ?_ ?_
 ·rintro ρ ⟨h17, -⟩ w'
  have e17 : ρ 17 = .pointer (some ⟨m.blk, 0, none⟩) := h17
  simp [execOp, evR, e17, go_sem]
 refine detT_pure rfl (.pointer (some ⟨m.blk, 0, none⟩)) (fun _ _ => rfl) ?_ ?_
 ·rintro ρ ⟨h32, -⟩ w'
  have e32 : ρ 32 = .pointer (some ⟨m.blk, 0, none⟩) := h32
  simp [execOp, evR, e32, go_sem]
 refine detT_store rfl (fun _ _ => rfl) ?_ ?_
 ·rintro ρ ⟨h33, h25, -⟩
  have e33 : ρ 33 = .pointer (some ⟨m.blk, 0, none⟩) := h33
  have e25 : ρ 25 = .slice A N N := h25
  show (execOp (evR ρ) _).run Tryz.prog (ws 0) = .ok .skip (ws 1)
  rw [q0, q1]
  have c := bfw0.cell (i := 0) rfl
  have t := bfw0.thaw 0
  simp [execOp, evR, e33, e25, c, t, go_sem]
 refine detT_pure rfl (.pointer (some ⟨m.blk, 0, none⟩)) (fun _ _ => rfl) ?_ ?_
 ·rintro ρ ⟨h18, -⟩ w'
  have e18 : ρ 18 = .pointer (some ⟨m.blk, 0, none⟩) := h18
  simp [execOp, evR, e18, go_sem]
 refine detT_pure rfl (.pointer (some ⟨m.blk, 1, none⟩)) (fun _ _ => rfl) ?_ ?_
 ·rintro ρ ⟨h34, -⟩ w'
  have e34 : ρ 34 = .pointer (some ⟨m.blk, 0, none⟩) := h34
  simp [execOp, evR, e34, go_sem]
 refine detT_store rfl (fun _ _ => rfl) ?_ ?_
 ·rintro ρ ⟨h35, h31, -⟩
  have e35 : ρ 35 = .pointer (some ⟨m.blk, 1, none⟩) := h35
  have e31 : ρ 31 = .int .i64 ((min m.sure N : Nat) : Int) := h31
  show (execOp (evR ρ) _).run Tryz.prog (ws 1) = .ok .skip (ws 2)
  rw [q1, q2]
  have c := bfw1.cell (i := 1) rfl
  have t := bfw1.thaw 1
  simp [execOp, evR, e35, e31, c, t, go_sem]
 simp only [DetT, applyV, Act.put, List.setIfInBounds_toArray, List.set_cons_zero, List.set_cons_succ]
 rw [q2]
 have HD4 := H4.out.ext hext
 have hcv : cutV m.v N = .slice A N N := by rw [HM.out]; rfl
 have hb4 := (HD4.bytes m hmem).cut hN
 rw [hcv] at hb4
 have h5 := HD4.fput (m' := ⟨m.name, m.blk, .slice A N N, m.b.take N, m.sure⟩) (d' := { d with fs := (l ++ ⟨m.name, m.blk, .slice A N N, m.b.take N, m.sure⟩ :: r).map FilM.fil }) 0 (.slice A N N) rfl rfl rfl hb4 rfl rfl rfl
 have h6 := h5.fput (m' := ⟨m.name, m.blk, .slice A N N, m.b.take N, min m.sure N⟩) (d' := d.upd name fun f => ⟨f.name, f.b.take N, min f.sure N⟩) 1 (.int .i64 ((min m.sure N : Nat) : Int)) rfl rfl rfl (h5.bytes ⟨m.name, m.blk, .slice A N N, m.b.take N, m.sure⟩ (by simp)) rfl rfl hfs
 rw [← HU.out] at h6
 have hb' : dall bd bm pl d (l ++ m :: r) m.blk := .inl (.inr (.inr (.inr ⟨m, hmem, rfl⟩)))
 have HXX := Lib.hid (⟨h6, (((HK4.out.trans (Kb.of_ext (fp := dall bd bm pl d (l ++ m :: r)) hext) (fun _ h => .inl h)).trans (Kb.set (dall bd bm pl d (l ++ m :: r)) _ m.blk 0 (.slice A N N) hb') (fun _ h => .inl h)).trans (Kb.set (dall bd bm pl d (l ++ m :: r)) _ m.blk 1 (.int .i64 ((min m.sure N : Nat) : Int)) hb') (fun _ h => .inl h)),
  fun k hk => .inl (dall_put (m := m) (m' := ⟨m.name, m.blk, .slice A N N, m.b.take N, min m.sure N⟩) rfl rfl (fun j hj => by rw [HM.out, ← cutV_own A m.b.length c N]; exact hj) k hk)⟩ : DkS z W _ bd bm pl d (l ++ m :: r) pl _ _)
 clear h5 h6 hb4 hb' hfs bf
 go_wp2_with fail
 go_end0
 exact ⟨rfl, _, HXX.out⟩
end Go.Proofs.YtagghghoimpofaaGreatDoor

/-
 Layer 15: a file comes, a file goes: the map's blocks.
-/
namespace Go.Proofs.YtagghghoimpofaaGreatDoor
open Go Go.RowKit Mono
open Go.Maps (Keyed has size)
set_option linter.unusedVariables false
set_option linter.unusedSimpArgs false
set_option maxRecDepth 100000

def resW {α : Type} (r : Result α) (w : World) : World := match r with
 | .ok _ w' => w'
 | _ => w
theorem turned_kb {W W' : World} {b : Nat} (h : W.mapTurned W' b) : Kb (fun k => k = b) W W' := by
 obtain ⟨es, clock, es', clock', hb, rfl⟩ := h
 refine ⟨rfl, rfl, rfl, by simp [Go.ChangeMaps.setBlock], fun k hk hn => ?_⟩
 have hn' : ¬ b = k := fun e => hn e.symm
 simp [Go.ChangeMaps.setBlock, Array.getElem?_setIfInBounds, hn']
theorem DkM.insert {z bd bm pl : Nat} {W : World} {d : Dk} {ms : List FilM} (h : DkM z W bd bm pl d ms) (hz : z ≤ W.heap.size) {name : List UInt8} (hl : name.length ≤ maxLen) (hno : findM name ms = none) (hfew : ms.length < maxLen) :
  ∃ W2, (Instr.mapUpdate 39 (.map (some bm)) (strV name) (.pointer (some ⟨W.heap.size, 0, none⟩))).run Tryz.prog (W.alloc (.cells #[.slice none 0 0, .int .i64 0] 106)) = .ok () W2 ∧
   DkS z W W2 bd bm pl d ms pl { d with fs := insF name d.fs } (insM ⟨name, W.heap.size, .slice none 0 0, [], 0⟩ ms) := by
 have hx := ext_alloc W (.cells #[.slice none 0 0, .int .i64 0] 106)
 have h1 := h.ext hx
 have hg := BlkT.new W #[.slice none 0 0, .int .i64 0] 106
 obtain ⟨n, D, ho, hm⟩ := h1.map
 have ht := own_tight ho
 rw [hm.size_] at ht
 obtain ⟨W2, hrun, ho2, htu⟩ := ht.store (e := 102) keyS Tryz.underlying39 hfew (keyOf_str name hl) (ptrR_mk W.heap.size)
 have hkb := turned_kb htu
 have hno' : ∀ m ∈ ms, m.name ≠ name := fun m hm e => by
  have := List.find?_eq_none.1 hno m hm
  simp [e] at this
 have hlt : ∀ m ∈ ms, m.blk < W.heap.size := fun m hm => (h.files m hm).1.lt
 have hne : ∀ {b : Nat} {T : TypeId} {L : List Value}, BlkT (W.alloc (.cells #[.slice none 0 0, .int .i64 0] 106)) b T L → ¬ b = bm := fun hb => map_ne hb ho
 have hbs : ∀ {v : Value} {b : List UInt8}, BsT z (W.alloc (.cells #[.slice none 0 0, .int .i64 0] 106)) v b → ∀ j, v.ownBlock = some j → ¬ j = bm := by
  rintro v b hb j hj rfl
  obtain ⟨_, C, fz, h2⟩ := hb.typed j hj
  obtain ⟨es, clock, hb', _⟩ := ho
  rw [hb'] at h2
  cases h2
 refine ⟨W2, hrun, ⟨?_, ?_, ?_, ⟨_, _, ho2, ?_⟩, ?_, ?_, ?_, h.zd, h.zm⟩, ?_, ?_⟩
 ·rw [insM_fil _ rfl rfl, h.fs]
 ·have := h1.str.kb hkb (hne h1.str)
  have e : dstrC { d with fs := insF name d.fs } bm pl = dstrC d bm pl := by
   have : usedF (insF name d.fs) = usedF d.fs := by
    have key : ∀ fs : List Fil, usedF (insF name fs) = usedF fs := by
     intro fs
     induction fs with
     | nil => simp [insF, usedF]
     | cons f r ih =>
      unfold insF
      split
      ·simp [usedF]
      ·unfold usedF at *
       simp [ih]
    exact key _
   simp only [dstrC, dstrU, Dk.used, this]
  show BlkT W2 bd _ (dstrC _ bm pl)
  rw [e]
  exact this
 ·intro a k hp
  obtain ⟨h2, h3⟩ := h1.plan a k hp
  exact ⟨h2.kb hkb (hne h2), h3⟩
 ·exact hm.put (ho.tidy keyS) (x := ⟨name, W.heap.size, .slice none 0 0, [], 0⟩) hl hno'
 ·intro m hmm
  rcases insM_mem.1 hmm with rfl | hmm
  ·exact ⟨hg.kb hkb (hne hg), hz⟩
  ·exact ⟨(h1.files m hmm).1.kb hkb (hne (h1.files m hmm).1), (h1.files m hmm).2⟩
 ·intro m hmm
  rcases insM_mem.1 hmm with rfl | hmm
  ·exact BsT.nil_ z W2
  ·exact (h1.bytes m hmm).kb hkb (hbs (h1.bytes m hmm))
 ·exact insM_blk (fun m hm e => by have := hlt m hm; rw [e] at this; exact Nat.lt_irrefl _ this) h1.blks
 ·exact (Kb.of_ext (fp := dall bd bm pl d ms) hx).trans (hkb.mono (fp' := dall bd bm pl d ms) (fun b hb => by rw [hb]; exact .inl (.inr (.inl rfl)))) (fun _ h => .inl h)
 ·rintro k ((rfl | rfl | ⟨hp, rfl⟩ | ⟨m, hmm, rfl⟩) | ⟨m, hmm, hj⟩)
  ·exact .inl (.inl (.inl rfl))
  ·exact .inl (.inl (.inr (.inl rfl)))
  ·exact .inl (.inl (.inr (.inr (.inl ⟨hp, rfl⟩))))
  ·rcases insM_mem.1 hmm with rfl | hmm
   ·exact .inr (Nat.le_refl _)
   ·exact .inl (.inl (.inr (.inr (.inr ⟨m, hmm, rfl⟩))))
  ·rcases insM_mem.1 hmm with rfl | hmm
   ·cases hj
   ·exact .inl (.inr ⟨m, hmm, hj⟩)
theorem DkU.delete {u : Int} {z bd bm pl : Nat} {W : World} {d : Dk} {ms : List FilM} (h : DkU u z W bd bm pl d ms) (hp : ms.Pairwise fun a b => a.name ≠ b.name) {m : FilM} (hm : m ∈ ms) (hl : m.name.length ≤ maxLen) (ty : TypeId) :
  ∃ W2, (Builtin.delete_ #[39, 9] ty #[.map (some bm), strV m.name]).run Tryz.prog W = .ok (.tuple #[]) W2 ∧ Kb (fun k => k = bm) W W2 ∧
   DkU u z W2 bd bm pl { d with fs := d.fs.filter fun f => !(f.name == m.name) } (ms.filter fun x => !(x.name == m.name)) := by
 obtain ⟨n, D, ho, hmp⟩ := h.map
 obtain ⟨W2, hrun, ho2, htu⟩ := ho.drop (e := 102) keyS Tryz.underlying39 (keyOf_str m.name hl) ty
 have hkb := turned_kb htu
 have hne : ∀ {b : Nat} {T : TypeId} {L : List Value}, BlkT W b T L → ¬ b = bm := fun hb => map_ne hb ho
 refine ⟨W2, hrun, hkb, ⟨?_, ?_, ?_, ⟨_, _, ho2, hmp.drop (ho.tidy keyS) hm hp⟩, ?_, ?_, ?_, h.zd, h.zm⟩⟩
 ·rw [← h.fs, List.filter_map]
  rfl
 ·exact h.str.kb hkb (hne h.str)
 ·intro a k hpl
  exact ⟨(h.plan a k hpl).1.kb hkb (hne (h.plan a k hpl).1), (h.plan a k hpl).2⟩
 ·intro x hx
  have hx := (List.mem_filter.1 hx).1
  exact ⟨(h.files x hx).1.kb hkb (hne (h.files x hx).1), (h.files x hx).2⟩
 ·intro x hx
  have hx := (List.mem_filter.1 hx).1
  refine (h.bytes x hx).kb hkb fun j hj => ?_
  rintro rfl
  obtain ⟨_, C, fz, h2⟩ := (h.bytes x hx).typed j hj
  obtain ⟨es, clock, hb', _⟩ := ho
  rw [hb'] at h2
  cases h2
 ·exact h.blks.filter _
theorem used_filter {name : List UInt8} {l r : List FilM} {m : FilM} (hn : m.name = name) (hp : (l ++ m :: r).Pairwise fun a b => a.name ≠ b.name) : usedF (((l ++ m :: r).map FilM.fil).filter fun f => !(f.name == name)) + m.b.length = usedF ((l ++ m :: r).map FilM.fil) := by
 obtain ⟨h1, h2, h3⟩ := List.pairwise_append.1 hp
 obtain ⟨h4, h5⟩ := List.pairwise_cons.1 h2
 subst hn
 have off : ∀ l : List FilM, (∀ x ∈ l, x.name ≠ m.name) → (l.map FilM.fil).filter (fun f => !(f.name == m.name)) = l.map FilM.fil := by
  intro l hl
  refine List.filter_eq_self.2 fun f hf => ?_
  obtain ⟨x, hx, rfl⟩ := List.mem_map.1 hf
  simpa [FilM.fil] using hl x hx
 rw [List.map_append, List.map_cons, used_split, List.filter_append, List.filter_cons, off l (fun x hx => h3 x hx m List.mem_cons_self), off r (fun x hx e => h4 x hx e.symm)]
 have e : (!(m.fil.name == m.name)) = false := by simp [FilM.fil]
 rw [e]
 simp only [Bool.false_eq_true, if_false]
 show usedF (_ ++ _) + _ = _
 unfold usedF
 simp only [List.map_append, List.sum_append]
 have : m.fil.b.length = m.b.length := rfl
 omega
end Go.Proofs.YtagghghoimpofaaGreatDoor

/-
 Layer 15: what is done where the power does not fail: the inner functions of Make and Drop.
-/
namespace Go.Proofs.YtagghghoimpofaaGreatDoor
open Go Go.RowKit Mono
open Go.Maps (Keyed has size)
set_option linter.unusedVariables false
set_option linter.unusedSimpArgs false
set_option maxRecDepth 100000

theorem map_ne_of {W : World} {bm p : Nat} {T : TypeId} {L : List Value} {ms : List FilM} (h : ∃ n D, W.ownsMap Tryz.prog 9 ptrR bm n D ∧ MapIs D ms) (hb : BlkT W p T L) (e : p = bm) : False := by
 obtain ⟨n, D, ho, _⟩ := h
 exact map_ne hb ho e
theorem make1_any {z bd bm pl : Nat} {W : World} {d : Dk} {ms : List FilM} (h : DkM z W bd bm pl d ms) (hz : z ≤ W.heap.size) {name : List UInt8} (hl : name.length ≤ maxLen) (hno : findM name ms = none) (hfew : ms.length < maxLen) {p0 p1 : Nat}
  (h0 : BlkT W p0 24 [.pointer (some ⟨bd, 0, none⟩)]) (h1 : BlkT W p1 9 [strV name]) :
  Calls Tryz.prog 76 #[.pointer (some ⟨p0, 0, none⟩), .pointer (some ⟨p1, 0, none⟩)] W fun e w' => e = .returned (.tuple #[]) ∧ ∃ ms', DkS z W w' bd bm pl d ms pl { d with fs := insF name d.fs } ms' := by
 have HH := Lib.hid h
 clear h
 go_enter Tryz.func76, Tryz.ntmps76
 go_wp2_with fail
 refine wp_region_turns 2 [(0, 1, false), (0, 1, false), (0, 1, false), (0, 1, false), (0, 1, false), (0, 0, false), (0, 0, true), (1, 1, true)] (fun w0 c => match c with | 0 => w0 | 1 => w0.alloc (.cells #[.slice none 0 0, .int .i64 0] 106) | _ => resW ((Instr.mapUpdate 39 (.map (some bm)) (strV name) (.pointer (some ⟨w0.heap.size, 0, none⟩))).run Tryz.prog (w0.alloc (.cells #[.slice none 0 0, .int .i64 0] 106))) (w0.alloc (.cells #[.slice none 0 0, .int .i64 0] 106))) (by kernel_rfl) (by kernel_rfl) (by kernel_rfl) (fun _ => rfl) ?_
 intro w0 ws hext hsz hws
 have q0 : ws 0 = w0 := hws 0
 have q1 : ws 1 = w0.alloc (.cells #[.slice none 0 0, .int .i64 0] 106) := hws 1
 have q2 : ws 2 = resW ((Instr.mapUpdate 39 (.map (some bm)) (strV name) (.pointer (some ⟨w0.heap.size, 0, none⟩))).run Tryz.prog (w0.alloc (.cells #[.slice none 0 0, .int .i64 0] 106))) (w0.alloc (.cells #[.slice none 0 0, .int .i64 0] 106)) := hws 2
 clear hws
 have b0w0 := h0.blk.ext hext
 have b1w0 := h1.blk.ext hext
 have bzw0 := (HH.out.ext hext).str.blk
 have b0w1 := b0w0.ext (ext_alloc _ (.cells #[.slice none 0 0, .int .i64 0] 106))
 have b1w1 := b1w0.ext (ext_alloc _ (.cells #[.slice none 0 0, .int .i64 0] 106))
 have bzw1 := bzw0.ext (ext_alloc _ (.cells #[.slice none 0 0, .int .i64 0] 106))
 obtain ⟨W2, hrun, hS⟩ := DkM.insert (HH.out.ext hext) (by rw [hsz]; exact hz) hl hno hfew
 rw [hrun] at q2
 simp only [resW] at q2
 refine detT_read rfl (.pointer (some ⟨bd, 0, none⟩)) (fun _ _ => rfl) ?_ ?_
 ·rintro ρ ⟨h0, -⟩ c hc1 hc2
  have e0 : ρ 0 = .pointer (some ⟨p0, 0, none⟩) := h0
  have hc : c = 0 ∨ c = 1 := by have h1 : 0 ≤ c := hc1; have h2 : c ≤ 1 := hc2; omega
  rcases hc with rfl | rfl
  ·rw [q0]
   have c := b0w0.cell (i := 0) rfl
   simp [execOp, evR, e0, c, go_sem]
  ·rw [q1]
   have c := b0w1.cell (i := 0) rfl
   simp [execOp, evR, e0, c, go_sem]
 refine detT_pure rfl (.pointer (some ⟨bd, 0, none⟩)) (fun _ _ => rfl) ?_ ?_
 ·rintro ρ ⟨h2, -⟩ w'
  have e2 : ρ 2 = .pointer (some ⟨bd, 0, none⟩) := h2
  simp [execOp, evR, e2, go_sem]
 refine detT_pure rfl (.pointer (some ⟨bd, 1, none⟩)) (fun _ _ => rfl) ?_ ?_
 ·rintro ρ ⟨h3, -⟩ w'
  have e3 : ρ 3 = .pointer (some ⟨bd, 0, none⟩) := h3
  simp [execOp, evR, e3, go_sem]
 refine detT_read rfl (.map (some bm)) (fun _ _ => rfl) ?_ ?_
 ·rintro ρ ⟨h4, -⟩ c hc1 hc2
  have e4 : ρ 4 = .pointer (some ⟨bd, 1, none⟩) := h4
  have hc : c = 0 ∨ c = 1 := by have h1 : 0 ≤ c := hc1; have h2 : c ≤ 1 := hc2; omega
  rcases hc with rfl | rfl
  ·rw [q0]
   have c := bzw0.cell (i := 1) rfl
   simp [execOp, evR, e4, c, go_sem]
  ·rw [q1]
   have c := bzw1.cell (i := 1) rfl
   simp [execOp, evR, e4, c, go_sem]
 refine detT_read rfl (strV name) (fun _ _ => rfl) ?_ ?_
 ·rintro ρ ⟨h1, -⟩ c hc1 hc2
  have e1 : ρ 1 = .pointer (some ⟨p1, 0, none⟩) := h1
  have hc : c = 0 ∨ c = 1 := by have h1 : 0 ≤ c := hc1; have h2 : c ≤ 1 := hc2; omega
  rcases hc with rfl | rfl
  ·rw [q0]
   have c := b1w0.cell (i := 0) rfl
   simp [execOp, evR, e1, c, go_sem]
  ·rw [q1]
   have c := b1w1.cell (i := 0) rfl
   simp [execOp, evR, e1, c, go_sem]
 refine detT_pure rfl (.agg #[.slice none 0 0, .int .i64 0]) (fun _ _ => rfl) ?_ ?_
 ·rintro ρ - w'
  simp [execOp, evR, go_sem]
 refine detT_turn rfl (.pointer (some ⟨w0.heap.size, 0, none⟩)) (fun _ _ => rfl) ?_ ?_
 ·rintro ρ ⟨h7, -⟩
  have e7 : ρ 7 = .agg #[.slice none 0 0, .int .i64 0] := h7
  show (execOp (evR ρ) _).run Tryz.prog (ws 0) = .ok (.value _) (ws 1)
  rw [q0, q1]
  simp [execOp, evR, e7, go_sem]
 refine detT_store rfl (fun _ _ => rfl) ?_ ?_
 ·rintro ρ ⟨h5, h6, h8, -⟩
  have e5 : ρ 5 = .map (some bm) := h5
  have e6 : ρ 6 = strV name := h6
  have e8 : ρ 8 = .pointer (some ⟨w0.heap.size, 0, none⟩) := h8
  show (execOp (evR ρ) _).run Tryz.prog (ws 1) = .ok .skip (ws 2)
  rw [q1, q2]
  simp [execOp, evR, e5, e6, e8, hrun, go_sem]
 simp only [DetT, applyV, Act.put, List.setIfInBounds_toArray, List.set_cons_zero, List.set_cons_succ]
 rw [q2]
 have HX := Lib.hid ((DkS.ext HH.out hext).trans hS)
 clear hS hrun
 go_wp2_with fail
 go_end0
 exact ⟨rfl, _, HX.out⟩

theorem drop1_any {z bd bm pl : Nat} {W : World} {d : Dk} {ms : List FilM} (h : DkM z W bd bm pl d ms) (hok : d.Ok) {name : List UInt8} (hl : name.length ≤ maxLen) {m : FilM} (hf : findM name ms = some m) {p0 p1 p2 : Nat}
  (h0 : BlkT W p0 24 [.pointer (some ⟨bd, 0, none⟩)]) (h1 : BlkT W p1 102 [.pointer (some ⟨m.blk, 0, none⟩)]) (h2 : BlkT W p2 9 [strV name]) :
  Calls Tryz.prog 92 #[.pointer (some ⟨p0, 0, none⟩), .pointer (some ⟨p1, 0, none⟩), .pointer (some ⟨p2, 0, none⟩)] W fun e w' => e = .returned (.tuple #[]) ∧ ∃ ms', DkS z W w' bd bm pl d ms pl { d with fs := d.fs.filter fun f => !(f.name == name) } ms' := by
 obtain ⟨hm, hn⟩ := findM_mem hf
 obtain ⟨l, r, rfl⟩ := List.append_of_mem hm
 have hp := names_apart h hok
 have bf := (h.files m hm).1.blk
 obtain ⟨A, c, hmv, g1, g2, g3, g4⟩ := (h.bytes m hm).bs.open_
 rw [hmv] at bf
 have HH := Lib.hid h
 have HP := Lib.hid hp
 have HM := Lib.hid hmv
 have hlen : m.b.length ≤ 1048576 := hok.len m.fil (by rw [← h.fs]; exact List.mem_map.2 ⟨m, hm, rfl⟩)
 have hmem := hm
 have b0 := h0.blk
 have b1 := h1.blk
 have b2 := h2.blk
 have bz := h.str.blk
 have HB0 := Lib.hid h0
 have HB2 := Lib.hid h2
 have HMP := Lib.hid h.map
 have hused : d.used ≤ 1073741824 := Nat.le_trans hok.used hok.room
 have hlu : m.b.length ≤ d.used := by
  show _ ≤ usedF d.fs
  rw [← h.fs, List.map_append, List.map_cons, used_split]
  show m.b.length ≤ _ + m.b.length + _
  omega
 obtain ⟨D0, hD0⟩ : ∃ D0, D0 = d.used := ⟨_, rfl⟩
 rw [← hD0] at hused hlu
 have HDD := Lib.hid hD0
 unfold dstrC at bz
 rw [← hD0] at bz
 obtain ⟨U, hU⟩ : ∃ U : Int, U = (D0 : Int) - (m.b.length : Int) := ⟨_, rfl⟩
 have HU := Lib.hid hU
 clear h hp hmv hm h0 h1 h2 hD0 hU
 go_enter Tryz.func92, Tryz.ntmps92
 go_wp2_with fail
 refine wp_region_turns 1 [(0, 0, false), (0, 0, false), (0, 0, false), (0, 0, false), (0, 0, false), (0, 0, false), (0, 0, false), (0, 0, false), (0, 0, false), (0, 0, false), (0, 1, false), (0, 0, false), (0, 0, true)] (fun w0 c => match c with | 0 => w0 | _ => w0.setCell ⟨bd, 3, none⟩ (.int .i64 U)) (by kernel_rfl) (by kernel_rfl) (by kernel_rfl) (fun _ => rfl) ?_
 intro w0 ws hext hsz hws
 have q0 : ws 0 = w0 := hws 0
 have q1 : ws 1 = w0.setCell ⟨bd, 3, none⟩ (.int .i64 U) := hws 1
 clear hws
 have HD := HH.out.ext hext
 have b0w0 := b0.ext hext
 have b1w0 := b1.ext hext
 have bfw0 := bf.ext hext
 have bzw0 := bz.ext hext
 refine detT_read rfl (.pointer (some ⟨bd, 0, none⟩)) (fun _ _ => rfl) ?_ ?_
 ·rintro ρ ⟨h0, -⟩ c hc1 hc2
  have e0 : ρ 0 = .pointer (some ⟨p0, 0, none⟩) := h0
  have hc : c = 0 := by have h1 : 0 ≤ c := hc1; have h2 : c ≤ 0 := hc2; omega
  rcases hc with rfl
  ·rw [q0]
   have c := b0w0.cell (i := 0) rfl
   simp [execOp, evR, e0, c, go_sem]
 refine detT_pure rfl (.pointer (some ⟨bd, 0, none⟩)) (fun _ _ => rfl) ?_ ?_
 ·rintro ρ ⟨h3, -⟩ w'
  have e3 : ρ 3 = .pointer (some ⟨bd, 0, none⟩) := h3
  simp [execOp, evR, e3, go_sem]
 refine detT_pure rfl (.pointer (some ⟨bd, 3, none⟩)) (fun _ _ => rfl) ?_ ?_
 ·rintro ρ ⟨h4, -⟩ w'
  have e4 : ρ 4 = .pointer (some ⟨bd, 0, none⟩) := h4
  simp [execOp, evR, e4, go_sem]
 refine detT_read rfl (.int .i64 (D0 : Int)) (fun _ _ => rfl) ?_ ?_
 ·rintro ρ ⟨h5, -⟩ c hc1 hc2
  have e5 : ρ 5 = .pointer (some ⟨bd, 3, none⟩) := h5
  have hc : c = 0 := by have h1 : 0 ≤ c := hc1; have h2 : c ≤ 0 := hc2; omega
  rcases hc with rfl
  ·rw [q0]
   have c := bzw0.cell (i := 3) rfl
   simp [execOp, evR, e5, c, go_sem]
 refine detT_read rfl (.pointer (some ⟨m.blk, 0, none⟩)) (fun _ _ => rfl) ?_ ?_
 ·rintro ρ ⟨h1, -⟩ c hc1 hc2
  have e1 : ρ 1 = .pointer (some ⟨p1, 0, none⟩) := h1
  have hc : c = 0 := by have h1 : 0 ≤ c := hc1; have h2 : c ≤ 0 := hc2; omega
  rcases hc with rfl
  ·rw [q0]
   have c := b1w0.cell (i := 0) rfl
   simp [execOp, evR, e1, c, go_sem]
 refine detT_pure rfl (.pointer (some ⟨m.blk, 0, none⟩)) (fun _ _ => rfl) ?_ ?_
 ·rintro ρ ⟨h7, -⟩ w'
  have e7 : ρ 7 = .pointer (some ⟨m.blk, 0, none⟩) := h7
  simp [execOp, evR, e7, go_sem]
 refine detT_pure rfl (.pointer (some ⟨m.blk, 0, none⟩)) (fun _ _ => rfl) ?_ ?_
 ·rintro ρ ⟨h8, -⟩ w'
  have e8 : ρ 8 = .pointer (some ⟨m.blk, 0, none⟩) := h8
  simp [execOp, evR, e8, go_sem]
 refine detT_read rfl (.slice A m.b.length c) (fun _ _ => rfl) ?_ ?_
 ·rintro ρ ⟨h9, -⟩ c hc1 hc2
  have e9 : ρ 9 = .pointer (some ⟨m.blk, 0, none⟩) := h9
  have hc : c = 0 := by have h1 : 0 ≤ c := hc1; have h2 : c ≤ 0 := hc2; omega
  rcases hc with rfl
  ·rw [q0]
   have c := bfw0.cell (i := 0) rfl
   simp [execOp, evR, e9, c, go_sem]
 refine detT_pure rfl (.int .i64 ((m.b.length : Nat) : Int)) (fun _ _ => rfl) ?_ ?_
 ·rintro ρ ⟨h10, -⟩ w'
  have e10 : ρ 10 = .slice A m.b.length c := h10
  simp [execOp, evR, e10, go_sem]
 refine detT_pure rfl (.int .i64 U) (fun _ _ => rfl) ?_ ?_
 ·rintro ρ ⟨h6, h11, -⟩ w'
  have e6 : ρ 6 = .int .i64 (D0 : Int) := h6
  have e11 : ρ 11 = .int .i64 ((m.b.length : Nat) : Int) := h11
  have hw : IntKind.i64.wrap ((D0 : Int) - (m.b.length : Int)) = U := by rw [IntWalk.i64_in _ (by omega)]; exact HU.out.symm
  simp [execOp, evR, e6, e11, hw, go_sem]
 refine detT_pure rfl (.pointer (some ⟨bd, 0, none⟩)) (fun _ _ => rfl) ?_ ?_
 ·rintro ρ ⟨h3, -⟩ w'
  have e3 : ρ 3 = .pointer (some ⟨bd, 0, none⟩) := h3
  simp [execOp, evR, e3, go_sem]
 refine detT_pure rfl (.pointer (some ⟨bd, 3, none⟩)) (fun _ _ => rfl) ?_ ?_
 ·rintro ρ ⟨h13, -⟩ w'
  have e13 : ρ 13 = .pointer (some ⟨bd, 0, none⟩) := h13
  simp [execOp, evR, e13, go_sem]
 refine detT_store rfl (fun _ _ => rfl) ?_ ?_
 ·rintro ρ ⟨h14, h12, -⟩
  have e14 : ρ 14 = .pointer (some ⟨bd, 3, none⟩) := h14
  have e12 : ρ 12 = .int .i64 U := h12
  show (execOp (evR ρ) _).run Tryz.prog (ws 0) = .ok .skip (ws 1)
  rw [q0, q1]
  have c := bzw0.cell (i := 3) rfl
  have t := bzw0.thaw 3
  simp [execOp, evR, e14, e12, c, t, go_sem]
 simp only [DetT, applyV, Act.put, List.setIfInBounds_toArray, List.set_cons_zero, List.set_cons_succ]
 rw [q1]
 have h4 := HD.put (u' := U) (d' := d) (pl' := pl) 3 (.int .i64 U) rfl rfl HD.plan
 have hk4 := (Kb.of_ext (fp := dall bd bm pl d (l ++ m :: r)) hext).trans (Kb.set (dall bd bm pl d (l ++ m :: r)) _ bd 3 (.int .i64 U) (.inl (.inl rfl))) (fun _ h => .inl h)
 have c0 := (((HB0.out.ext hext).other (a := ⟨bd, 3, none⟩) (.int .i64 U) ((HB0.out.ext hext).ne HD.str (by decide))).blk)
 have c2 := (((HB2.out.ext hext).other (a := ⟨bd, 3, none⟩) (.int .i64 U) ((HB2.out.ext hext).ne HD.str (by decide))).blk)
 rw [← hn] at c2
 have HB0X := Lib.hid ((HB0.out.ext hext).other (a := ⟨bd, 3, none⟩) (.int .i64 U) ((HB0.out.ext hext).ne HD.str (by decide)))
 have HB0K := Lib.hid (fun (Wa Wb : World) (hkb : Kb (fun k => k = bm) Wa Wb) (hb : BlkT Wa p0 24 [.pointer (some ⟨bd, 0, none⟩)]) => (hb.kb hkb (fun e => map_ne_of HMP.out (HB0.out) e)).blk)
 have H4 := Lib.hid h4
 have HK4 := Lib.hid hk4
 clear h4 hk4 b0 b1 b2 bf bz b0w0 b1w0 bfw0 bzw0 HD q0 q1 ws
 go_wp2_with fail
 generalize w0.setCell ⟨bd, 3, none⟩ (.int .i64 U) = W4 at *
 refine wp_region_turns 1 [(0, 1, false), (0, 1, false), (0, 1, false), (0, 0, false), (0, 0, false), (0, 0, true)] (fun w0 c => match c with | 0 => w0 | _ => resW ((Builtin.delete_ #[39, 9] 0 #[.map (some bm), strV m.name]).run Tryz.prog w0) w0) (by kernel_rfl) (by kernel_rfl) (by kernel_rfl) (fun _ => rfl) ?_
 intro w0 ws hext hsz hws
 have q0 : ws 0 = w0 := hws 0
 have q1 : ws 1 = resW ((Builtin.delete_ #[39, 9] 0 #[.map (some bm), strV m.name]).run Tryz.prog w0) w0 := hws 1
 clear hws
 have b0w0 := c0.ext hext
 have b2w0 := c2.ext hext
 have bzw0 := (H4.out.ext hext).str.blk
 obtain ⟨W2, hrun, hkb, hS⟩ := (H4.out.ext hext).delete HP.out hmem (by rw [hn]; exact hl) 0
 rw [hrun] at q1
 simp only [resW] at q1
 have b0w1 := HB0K.out _ _ hkb (HB0X.out.ext hext)
 refine detT_read rfl (.pointer (some ⟨bd, 0, none⟩)) (fun _ _ => rfl) ?_ ?_
 ·rintro ρ ⟨h0, -⟩ c hc1 hc2
  have e0 : ρ 0 = .pointer (some ⟨p0, 0, none⟩) := h0
  have hc : c = 0 ∨ c = 1 := by have h1 : 0 ≤ c := hc1; have h2 : c ≤ 1 := hc2; omega
  rcases hc with rfl | rfl
  ·rw [q0]
   have c := b0w0.cell (i := 0) rfl
   simp [execOp, evR, e0, c, go_sem]
  ·rw [q1]
   have c := b0w1.cell (i := 0) rfl
   simp [execOp, evR, e0, c, go_sem]
 refine detT_pure rfl (.pointer (some ⟨bd, 0, none⟩)) (fun _ _ => rfl) ?_ ?_
 ·rintro ρ ⟨h15, -⟩ w'
  have e15 : ρ 15 = .pointer (some ⟨bd, 0, none⟩) := h15
  simp [execOp, evR, e15, go_sem]
 refine detT_pure rfl (.pointer (some ⟨bd, 1, none⟩)) (fun _ _ => rfl) ?_ ?_
 ·rintro ρ ⟨h16, -⟩ w'
  have e16 : ρ 16 = .pointer (some ⟨bd, 0, none⟩) := h16
  simp [execOp, evR, e16, go_sem]
 refine detT_read rfl (.map (some bm)) (fun _ _ => rfl) ?_ ?_
 ·rintro ρ ⟨h17, -⟩ c hc1 hc2
  have e17 : ρ 17 = .pointer (some ⟨bd, 1, none⟩) := h17
  have hc : c = 0 := by have h1 : 0 ≤ c := hc1; have h2 : c ≤ 0 := hc2; omega
  rcases hc with rfl
  ·rw [q0]
   have c := bzw0.cell (i := 1) rfl
   simp [execOp, evR, e17, c, go_sem]
 refine detT_read rfl (strV m.name) (fun _ _ => rfl) ?_ ?_
 ·rintro ρ ⟨h2, -⟩ c hc1 hc2
  have e2 : ρ 2 = .pointer (some ⟨p2, 0, none⟩) := h2
  have hc : c = 0 := by have h1 : 0 ≤ c := hc1; have h2 : c ≤ 0 := hc2; omega
  rcases hc with rfl
  ·rw [q0]
   have c := b2w0.cell (i := 0) rfl
   simp [execOp, evR, e2, c, go_sem]
 refine detT_turn rfl (.tuple #[]) (fun _ _ => rfl) ?_ ?_
 ·rintro ρ ⟨h18, h19, -⟩
  have e18 : ρ 18 = .map (some bm) := h18
  have e19 : ρ 19 = strV m.name := h19
  show (execOp (evR ρ) _).run Tryz.prog (ws 0) = .ok (.value _) (ws 1)
  rw [q0, q1]
  simp [execOp, resolve, invoke, builtin, evR, e18, e19, hrun, go_sem]
 simp only [DetT, applyV, Act.put, List.setIfInBounds_toArray, List.set_cons_zero, List.set_cons_succ]
 rw [q1]
 have hfs : (U : Int) = (({ d with fs := d.fs.filter fun f => !(f.name == m.name) } : Dk).used : Int) := by
  rw [HU.out, HDD.out]
  show (usedF d.fs : Int) - _ = (usedF _ : Int)
  rw [← HH.out.fs]
  have := used_filter (name := m.name) rfl HP.out
  dsimp only
  omega
 rw [hfs] at hS
 have HX := Lib.hid (⟨hS, (HK4.out.trans (Kb.of_ext (fp := dall bd bm pl d (l ++ m :: r)) hext) (fun _ h => .inl h)).trans (hkb.mono (fp' := dall bd bm pl d (l ++ m :: r)) (fun b hb => by rw [hb]; exact .inl (.inr (.inl rfl)))) (fun _ h => .inl h),
  fun k hk => .inl (dall_same (fun h => h) (fun x hx => ⟨x, (List.mem_filter.1 hx).1, rfl, fun _ h => h⟩) k hk)⟩ : DkS z W W2 bd bm pl d (l ++ m :: r) pl _ _)
 clear hS hrun hkb hfs
 go_wp2_with fail
 go_end0
 rw [← hn]
 exact ⟨rfl, _, HX.out⟩
end Go.Proofs.YtagghghoimpofaaGreatDoor
