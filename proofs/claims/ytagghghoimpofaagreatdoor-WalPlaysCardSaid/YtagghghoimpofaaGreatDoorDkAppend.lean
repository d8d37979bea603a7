/-
 Layer 15: Append of the program's disk.
-/
import Derived.Test.YtagghghoimpofaaGreatDoorDkOps
import Derived.Sort.Walk0
namespace Go.Proofs.YtagghghoimpofaaGreatDoor
open Go Go.RowKit Mono
open Go.Maps (Keyed has size)
set_option linter.unusedVariables false
set_option linter.unusedSimpArgs false
set_option maxRecDepth 100000
set_option maxHeartbeats 1000000

theorem Dk.Ok.upd {d : Dk} (h : d.Ok) {name : List UInt8} {g : Fil → Fil} (hn : ∀ f, (g f).name = f.name) (hs : ∀ f ∈ d.fs, f.name = name → (g f).sure ≤ (g f).b.length) (hl : ∀ f ∈ d.fs, f.name = name → (g f).b.length ≤ 1048576) (hu : (d.upd name g).used ≤ d.room) : (d.upd name g).Ok := by
 have mem : ∀ f ∈ (d.upd name g).fs, ∃ f0 ∈ d.fs, (f = g f0 ∧ f0.name = name) ∨ f = f0 := by
  intro f hf
  obtain ⟨f0, h0, rfl⟩ := List.mem_map.1 hf
  by_cases e : (f0.name == name) = true
  ·exact ⟨f0, h0, .inl ⟨by rw [if_pos e], by simpa using e⟩⟩
  ·exact ⟨f0, h0, .inr (by rw [if_neg e])⟩
 refine ⟨h.room, ?_, fun f hf => ?_, fun f hf => ?_, by simpa [Dk.upd, updF] using h.few, hu, fun f hf => ?_⟩
 ·refine List.pairwise_map.2 (h.sorted.imp fun {a b} hab => ?_)
  have e : ∀ f : Fil, (if (f.name == name) = true then g f else f).name = f.name := by intro f; split <;> simp [hn]
  rw [e, e]
  exact hab
 ·obtain ⟨f0, h0, ⟨rfl, e⟩ | rfl⟩ := mem f hf
  ·exact hs f0 h0 e
  ·exact h.sure _ h0
 ·obtain ⟨f0, h0, ⟨rfl, e⟩ | rfl⟩ := mem f hf
  ·exact hl f0 h0 e
  ·exact h.len _ h0
 ·obtain ⟨f0, h0, ⟨rfl, e⟩ | rfl⟩ := mem f hf
  ·rw [hn]; exact h.names _ h0
  ·exact h.names _ h0
theorem mem_uniq {d : Dk} (h : d.Ok) {f f' : Fil} (hf : f ∈ d.fs) (hf' : f' ∈ d.fs) (e : f.name = f'.name) : f = f' := by
 obtain ⟨l, r, hl⟩ := List.append_of_mem hf
 have hs := h.sorted
 rw [hl] at hs hf'
 obtain ⟨h1, h2, h3⟩ := List.pairwise_append.1 hs
 obtain ⟨h4, h5⟩ := List.pairwise_cons.1 h2
 rcases List.mem_append.1 hf' with hm | hm
 ·have := h3 f' hm f List.mem_cons_self
  rw [e, bl_irrefl] at this
  cases this
 ·rcases List.mem_cons.1 hm with rfl | hm
  ·rfl
  ·have := h4 f' hm
   rw [e, bl_irrefl] at this
   cases this

theorem append_any {z bd bm pl : Nat} {W : World} {d : Dk} {ms : List FilM} (h : DkM z W bd bm pl d ms) (hok : d.Ok) (hsm : d.Small) (hz : z ≤ W.heap.size) (name : List UInt8) (hl : name.length ≤ maxLen) {v : Value} {b : List UInt8} (hb : Bs W v b) :
  Calls Tryz.prog 47 #[.pointer (some ⟨bd, 0, none⟩), strV name, v] W (DkPost z W bd bm pl d ms (dAppend d name b)) := by
 obtain ⟨A2, c2, rfl, j1, j2, j3, j4⟩ := hb.open_
 have HFF := Lib.hid (findF_fs h name)
 have HFI := Lib.hid (find_any h name hl)
 have HH := Lib.hid h
 have HOK := Lib.hid hok
 have HSM := Lib.hid hsm
 have HB := Lib.hid hb
 have HZ := Lib.hid hz
 unfold findN findV lookV at HFI
 unfold strV at HFI ⊢
 have hbl : b.length ≤ maxLen := by omega
 unfold maxLen at hbl
 clear h hok hsm hb hz j3 j4
 cases hon : d.on
 ·rw [hon] at HFI
  have hres : dAppend d name b = (d, 150) := by unfold dAppend; simp [hon]
  rw [hres]
  go_enter Tryz.func47, Tryz.ntmps47
  go_wp2_with fail
  refine HFI.out.mono ?_
  rintro e w1 ⟨rfl, rfl⟩
  go_wp2_with fail
  go_ret
  exact DkPost.same HH.out (Ext.refl _) 150
 ·rw [hon] at HFI
  cases hf : findM name ms with
  | none =>
   rw [hf] at HFI
   have hres : dAppend d name b = (d, 152) := by unfold dAppend; simp [hon, HFF.out, hf]
   rw [hres]
   go_enter Tryz.func47, Tryz.ntmps47
   go_wp2_with fail
   refine HFI.out.mono ?_
   rintro e w1 ⟨rfl, rfl⟩
   go_wp2_with fail
   go_ret
   exact DkPost.same HH.out (Ext.refl _) 152
  | some m =>
   rw [hf] at HFI
   obtain ⟨hm, hn⟩ := findM_mem hf
   have bf := (HH.out.files m hm).1.blk
   obtain ⟨A, c, hmv, g1, g2, g3, g4⟩ := (HH.out.bytes m hm).bs.open_
   rw [hmv] at bf
   have hlen : m.b.length ≤ 1048576 := HOK.out.len m.fil (by rw [← HH.out.fs]; exact List.mem_map.2 ⟨m, hm, rfl⟩)
   have hfb : m.fil.b.length = m.b.length := rfl
   have hcut := (HH.out.bytes m hm).cut (Nat.le_refl _)
   rw [List.take_length, hmv] at hcut
   have HBC := Lib.hid (show BsT z W (.slice A m.b.length m.b.length) m.b from hcut)
   have BF := Lib.hid bf
   have HM := Lib.hid hmv
   have HMM := Lib.hid hm
   have kf := bf.cell (i := 0) rfl
   have hused : d.used ≤ d.room := HOK.out.used
   have hroom : d.room ≤ 1073741824 := HOK.out.room
   have bd0 := HH.out.str.blk
   obtain ⟨D0, hD0⟩ : ∃ D0, D0 = d.used := ⟨_, rfl⟩
   unfold dstrC at bd0
   rw [← hD0] at hused bd0
   have HDD := Lib.hid hD0
   have HBD := Lib.hid bd0
   clear hcut bf hmv hm g3 g4 hD0 bd0
   have hw27 : IntKind.i64.wrap (1048576 - (m.b.length : Int)) = 1048576 - (m.b.length : Int) := by rw [IntWalk.i64_in _ (by omega)]
   by_cases hl1 : 1048576 < m.b.length + b.length
   ·have hres : dAppend d name b = (d, 3) := by
     unfold dAppend
     simp only [hon, HFF.out, hf, Option.map_some, Bool.true_eq_false, if_false, hfb, hl1, if_true]
    rw [hres]
    have hc : (1048576 - (m.b.length : Int)) < (b.length : Int) := by omega
    go_enter Tryz.func47, Tryz.ntmps47
    go_wp2_with fail
    refine HFI.out.mono ?_
    rintro e w1 ⟨rfl, rfl⟩
    go_wp2_with fail
    go_ret
    exact DkPost.same HH.out (Ext.refl _) 3
   have hc : ¬ (1048576 - (m.b.length : Int)) < (b.length : Int) := by omega
   by_cases hl2 : d.room < d.used + b.length
   ·have hres : dAppend d name b = (d, 151) := by
     unfold dAppend
     simp only [hon, HFF.out, hf, Option.map_some, Bool.true_eq_false, if_false, hfb, hl1, hl2, if_true]
    rw [hres]
    rw [← HDD.out] at hl2
    go_enter Tryz.func47, Tryz.ntmps47
    go_wp2_with fail
    refine HFI.out.mono ?_
    rintro e w1 ⟨rfl, rfl⟩
    go_wp2_with fail
    refine wp_region_turns 0 [(0, 0, false), (0, 0, false), (0, 0, false), (0, 0, false), (0, 0, false), (0, 0, false), (0, 0, false), (0, 0, false), (0, 0, false), (0, 0, false), (0, 0, false), (0, 0, false), (0, 0, false)] (fun w0 c => w0) (by kernel_rfl) (by kernel_rfl) (by kernel_rfl) (fun _ => rfl) ?_
    intro w0 ws hext hsz hws
    have q0 : ws 0 = w0 := hws 0
    clear hws
    have bdw0 := HBD.out.ext hext
    refine detT_pure rfl (.slice A2 b.length c2) (fun _ _ => rfl) ?_ ?_
    ·rintro ρ ⟨h2, -⟩ w'
     have e2 : ρ 2 = .slice A2 b.length c2 := h2
     simp [execOp, evR, e2, go_sem]
    refine detT_pure rfl (.int .i64 (b.length : Int)) (fun _ _ => rfl) ?_ ?_
    ·rintro ρ ⟨h30, -⟩ w'
     have e30 : ρ 30 = .slice A2 b.length c2 := h30
     simp [execOp, evR, e30, go_sem]
    refine detT_pure rfl (.pointer (some ⟨bd, 0, none⟩)) (fun _ _ => rfl) ?_ ?_
    ·rintro ρ ⟨h0, -⟩ w'
     have e0 : ρ 0 = .pointer (some ⟨bd, 0, none⟩) := h0
     simp [execOp, evR, e0, go_sem]
    refine detT_pure rfl (.pointer (some ⟨bd, 0, none⟩)) (fun _ _ => rfl) ?_ ?_
    ·rintro ρ ⟨h32, -⟩ w'
     have e32 : ρ 32 = .pointer (some ⟨bd, 0, none⟩) := h32
     simp [execOp, evR, e32, go_sem]
    refine detT_pure rfl (.pointer (some ⟨bd, 0, none⟩)) (fun _ _ => rfl) ?_ ?_
    ·rintro ρ ⟨h33, -⟩ w'
     have e33 : ρ 33 = .pointer (some ⟨bd, 0, none⟩) := h33
     simp [execOp, evR, e33, go_sem]
    refine detT_read rfl (.int .i64 (d.room : Int)) (fun _ _ => rfl) ?_ ?_
    ·rintro ρ ⟨h34, -⟩ c hc1 hc2
     have e34 : ρ 34 = .pointer (some ⟨bd, 0, none⟩) := h34
     have hc : c = 0 := by have h1 : 0 ≤ c := hc1; have h2 : c ≤ 0 := hc2; omega
     rcases hc with rfl
     ·rw [q0]
      have c := bdw0.cell (i := 0) rfl
      simp [execOp, evR, e34, c, go_sem]
    refine detT_pure rfl (.pointer (some ⟨bd, 0, none⟩)) (fun _ _ => rfl) ?_ ?_
    ·rintro ρ ⟨h0, -⟩ w'
     have e0 : ρ 0 = .pointer (some ⟨bd, 0, none⟩) := h0
     simp [execOp, evR, e0, go_sem]
    refine detT_pure rfl (.pointer (some ⟨bd, 0, none⟩)) (fun _ _ => rfl) ?_ ?_
    ·rintro ρ ⟨h36, -⟩ w'
     have e36 : ρ 36 = .pointer (some ⟨bd, 0, none⟩) := h36
     simp [execOp, evR, e36, go_sem]
    refine detT_pure rfl (.pointer (some ⟨bd, 3, none⟩)) (fun _ _ => rfl) ?_ ?_
    ·rintro ρ ⟨h37, -⟩ w'
     have e37 : ρ 37 = .pointer (some ⟨bd, 0, none⟩) := h37
     simp [execOp, evR, e37, go_sem]
    refine detT_read rfl (.int .i64 (D0 : Int)) (fun _ _ => rfl) ?_ ?_
    ·rintro ρ ⟨h38, -⟩ c hc1 hc2
     have e38 : ρ 38 = .pointer (some ⟨bd, 3, none⟩) := h38
     have hc : c = 0 := by have h1 : 0 ≤ c := hc1; have h2 : c ≤ 0 := hc2; omega
     rcases hc with rfl
     ·rw [q0]
      have c := bdw0.cell (i := 3) rfl
      simp [execOp, evR, e38, c, go_sem]
    refine detT_pure rfl (.int .i64 ((d.room : Int) - (D0 : Int))) (fun _ _ => rfl) ?_ ?_
    ·rintro ρ ⟨h35, h39, -⟩ w'
     have e35 : ρ 35 = .int .i64 (d.room : Int) := h35
     have e39 : ρ 39 = .int .i64 (D0 : Int) := h39
     have hw : IntKind.i64.wrap ((d.room : Int) - (D0 : Int)) = (d.room : Int) - (D0 : Int) := by rw [IntWalk.i64_in _ (by omega)]
     simp [execOp, evR, e35, e39, hw, go_sem]
    refine detT_pure rfl (.bool true) (fun _ _ => rfl) ?_ ?_
    ·rintro ρ ⟨h31, h40, -⟩ w'
     have e31 : ρ 31 = .int .i64 (b.length : Int) := h31
     have e40 : ρ 40 = .int .i64 ((d.room : Int) - (D0 : Int)) := h40
     simp [execOp, evR, e31, e40, go_sem]
     omega
    refine detT_pure rfl (.bool true) (fun _ _ => rfl) ?_ ?_
    ·rintro ρ ⟨h41, -⟩ w'
     have e41 : ρ 41 = .bool true := h41
     simp [execOp, evR, e41, go_sem]
    simp only [DetT, applyV, Act.put, List.setIfInBounds_toArray, List.set_cons_zero, List.set_cons_succ]
    rw [q0]
    go_wp2_with fail
    go_ret
    exact DkPost.same HH.out hext 151
   ·have hres : dAppend d name b = (d.upd name (fun f : Fil => { f with b := f.b ++ b })).count id := by
     unfold dAppend
     simp only [hon, HFF.out, hf, Option.map_some, Bool.true_eq_false, if_false, hfb, hl1, hl2]
    rw [hres]
    rw [← HDD.out] at hl2
    go_enter Tryz.func47, Tryz.ntmps47
    go_wp2_with fail
    refine HFI.out.mono ?_
    rintro e w1 ⟨rfl, rfl⟩
    go_wp2_with fail
    refine wp_region_turns 0 [(0, 0, false), (0, 0, false), (0, 0, false), (0, 0, false), (0, 0, false), (0, 0, false), (0, 0, false), (0, 0, false), (0, 0, false), (0, 0, false), (0, 0, false), (0, 0, false), (0, 0, false)] (fun w0 c => w0) (by kernel_rfl) (by kernel_rfl) (by kernel_rfl) (fun _ => rfl) ?_
    intro w0 ws hext hsz hws
    have q0 : ws 0 = w0 := hws 0
    clear hws
    have bdw0 := HBD.out.ext hext
    refine detT_pure rfl (.slice A2 b.length c2) (fun _ _ => rfl) ?_ ?_
    ·rintro ρ ⟨h2, -⟩ w'
     have e2 : ρ 2 = .slice A2 b.length c2 := h2
     simp [execOp, evR, e2, go_sem]
    refine detT_pure rfl (.int .i64 (b.length : Int)) (fun _ _ => rfl) ?_ ?_
    ·rintro ρ ⟨h30, -⟩ w'
     have e30 : ρ 30 = .slice A2 b.length c2 := h30
     simp [execOp, evR, e30, go_sem]
    refine detT_pure rfl (.pointer (some ⟨bd, 0, none⟩)) (fun _ _ => rfl) ?_ ?_
    ·rintro ρ ⟨h0, -⟩ w'
     have e0 : ρ 0 = .pointer (some ⟨bd, 0, none⟩) := h0
     simp [execOp, evR, e0, go_sem]
    refine detT_pure rfl (.pointer (some ⟨bd, 0, none⟩)) (fun _ _ => rfl) ?_ ?_
    ·rintro ρ ⟨h32, -⟩ w'
     have e32 : ρ 32 = .pointer (some ⟨bd, 0, none⟩) := h32
     simp [execOp, evR, e32, go_sem]
    refine detT_pure rfl (.pointer (some ⟨bd, 0, none⟩)) (fun _ _ => rfl) ?_ ?_
    ·rintro ρ ⟨h33, -⟩ w'
     have e33 : ρ 33 = .pointer (some ⟨bd, 0, none⟩) := h33
     simp [execOp, evR, e33, go_sem]
    refine detT_read rfl (.int .i64 (d.room : Int)) (fun _ _ => rfl) ?_ ?_
    ·rintro ρ ⟨h34, -⟩ c hc1 hc2
     have e34 : ρ 34 = .pointer (some ⟨bd, 0, none⟩) := h34
     have hc : c = 0 := by have h1 : 0 ≤ c := hc1; have h2 : c ≤ 0 := hc2; omega
     rcases hc with rfl
     ·rw [q0]
      have c := bdw0.cell (i := 0) rfl
      simp [execOp, evR, e34, c, go_sem]
    refine detT_pure rfl (.pointer (some ⟨bd, 0, none⟩)) (fun _ _ => rfl) ?_ ?_
    ·rintro ρ ⟨h0, -⟩ w'
     have e0 : ρ 0 = .pointer (some ⟨bd, 0, none⟩) := h0
     simp [execOp, evR, e0, go_sem]
    refine detT_pure rfl (.pointer (some ⟨bd, 0, none⟩)) (fun _ _ => rfl) ?_ ?_
    ·rintro ρ ⟨h36, -⟩ w'
     have e36 : ρ 36 = .pointer (some ⟨bd, 0, none⟩) := h36
     simp [execOp, evR, e36, go_sem]
    refine detT_pure rfl (.pointer (some ⟨bd, 3, none⟩)) (fun _ _ => rfl) ?_ ?_
    ·rintro ρ ⟨h37, -⟩ w'
     have e37 : ρ 37 = .pointer (some ⟨bd, 0, none⟩) := h37
     simp [execOp, evR, e37, go_sem]
    refine detT_read rfl (.int .i64 (D0 : Int)) (fun _ _ => rfl) ?_ ?_
    ·rintro ρ ⟨h38, -⟩ c hc1 hc2
     have e38 : ρ 38 = .pointer (some ⟨bd, 3, none⟩) := h38
     have hc : c = 0 := by have h1 : 0 ≤ c := hc1; have h2 : c ≤ 0 := hc2; omega
     rcases hc with rfl
     ·rw [q0]
      have c := bdw0.cell (i := 3) rfl
      simp [execOp, evR, e38, c, go_sem]
    refine detT_pure rfl (.int .i64 ((d.room : Int) - (D0 : Int))) (fun _ _ => rfl) ?_ ?_
    ·rintro ρ ⟨h35, h39, -⟩ w'
     have e35 : ρ 35 = .int .i64 (d.room : Int) := h35
     have e39 : ρ 39 = .int .i64 (D0 : Int) := h39
     have hw : IntKind.i64.wrap ((d.room : Int) - (D0 : Int)) = (d.room : Int) - (D0 : Int) := by rw [IntWalk.i64_in _ (by omega)]
     simp [execOp, evR, e35, e39, hw, go_sem]
    refine detT_pure rfl (.bool false) (fun _ _ => rfl) ?_ ?_
    ·rintro ρ ⟨h31, h40, -⟩ w'
     have e31 : ρ 31 = .int .i64 (b.length : Int) := h31
     have e40 : ρ 40 = .int .i64 ((d.room : Int) - (D0 : Int)) := h40
     simp [execOp, evR, e31, e40, go_sem]
     omega
    refine detT_pure rfl (.bool false) (fun _ _ => rfl) ?_ ?_
    ·rintro ρ ⟨h41, -⟩ w'
     have e41 : ρ 41 = .bool false := h41
     simp [execOp, evR, e41, go_sem]
    simp only [DetT, applyV, Act.put, List.setIfInBounds_toArray, List.set_cons_zero, List.set_cons_succ]
    rw [q0]
    have HX1 := Lib.hid hext
    have HD := Lib.hid (HH.out.ext hext)
    replace HBC := Lib.hid (HBC.out.kb (Kb.of_ext (fp := fun _ => False) hext) (fun _ _ h => h))
    replace HB := Lib.hid (HB.out.ext hext)
    replace BF := Lib.hid (BF.out.ext hext)
    replace HZ := Lib.hid (Nat.le_trans HZ.out hext.size)
    clear bdw0 q0 ws hsz kf hw27
    go_wp2_with fail
    refine wp_region_turns 2 [(0, 1, false), (0, 1, false), (0, 1, false), (0, 1, false), (0, 1, false), (0, 1, false), (0, 1, false), (0, 1, false), (0, 1, false), (0, 1, false), (0, 1, false), (0, 1, false), (0, 1, false), (0, 1, false), (0, 1, false), (0, 0, false), (0, 0, false), (0, 0, true), (1, 2, false), (1, 1, false), (1, 1, true)] (fun w0 c => match c with | 0 => w0 | 1 => resW ((Builtin.append_ #[34, 34] 34 #[.slice A m.b.length m.b.length, .slice A2 b.length c2]).run Tryz.prog w0) w0 | _ => (resW ((Builtin.append_ #[34, 34] 34 #[.slice A m.b.length m.b.length, .slice A2 b.length c2]).run Tryz.prog w0) w0).setCell ⟨m.blk, 0, none⟩ (resV ((Builtin.append_ #[34, 34] 34 #[.slice A m.b.length m.b.length, .slice A2 b.length c2]).run Tryz.prog w0))) (by kernel_rfl) (by kernel_rfl) (by kernel_rfl) (fun _ => rfl) ?_
    intro w0 ws hext hsz hws
    have q0 : ws 0 = w0 := hws 0
    have q1 : ws 1 = resW ((Builtin.append_ #[34, 34] 34 #[.slice A m.b.length m.b.length, .slice A2 b.length c2]).run Tryz.prog w0) w0 := hws 1
    have q2 : ws 2 = (resW ((Builtin.append_ #[34, 34] 34 #[.slice A m.b.length m.b.length, .slice A2 b.length c2]).run Tryz.prog w0) w0).setCell ⟨m.blk, 0, none⟩ (resV ((Builtin.append_ #[34, 34] 34 #[.slice A m.b.length m.b.length, .slice A2 b.length c2]).run Tryz.prog w0)) := hws 2
    clear hws
    have bfw0 := BF.out.ext hext
    obtain ⟨v', W1, hrun, hbt, hex1, hown⟩ := append_full ((HBC.out.kb (Kb.of_ext (fp := fun _ => False) hext) (fun _ _ h => h))) (HB.out.ext hext) (by omega) (Nat.le_trans HZ.out hext.size) 34
    obtain ⟨A3, c3, hv3, -⟩ := hbt.bs.open_
    obtain ⟨L3, hL3⟩ : ∃ n, n = (m.b ++ b).length := ⟨_, rfl⟩
    rw [← hL3] at hv3
    subst hv3
    have HL3 := Lib.hid hL3
    clear hL3
    rw [hrun] at q1 q2
    simp only [resW, resV] at q1 q2
    have bfw1 := bfw0.ext hex1
    refine detT_pure rfl (.pointer (some ⟨m.blk, 0, none⟩)) (fun _ _ => rfl) ?_ ?_
    ·rintro ρ ⟨h7, -⟩ w'
     have e7 : ρ 7 = .pointer (some ⟨m.blk, 0, none⟩) := h7
     simp [execOp, evR, e7, go_sem]
    refine detT_pure rfl (.pointer (some ⟨m.blk, 0, none⟩)) (fun _ _ => rfl) ?_ ?_
    ·rintro ρ ⟨h7, -⟩ w'
     have e7 : ρ 7 = .pointer (some ⟨m.blk, 0, none⟩) := h7
     simp [execOp, evR, e7, go_sem]
    refine detT_pure rfl (.pointer (some ⟨m.blk, 0, none⟩)) (fun _ _ => rfl) ?_ ?_
    ·rintro ρ ⟨h43, -⟩ w'
     have e43 : ρ 43 = .pointer (some ⟨m.blk, 0, none⟩) := h43
     simp [execOp, evR, e43, go_sem]
    refine detT_pure rfl (.pointer (some ⟨m.blk, 0, none⟩)) (fun _ _ => rfl) ?_ ?_
    ·rintro ρ ⟨h44, -⟩ w'
     have e44 : ρ 44 = .pointer (some ⟨m.blk, 0, none⟩) := h44
     simp [execOp, evR, e44, go_sem]
    refine detT_read rfl (.slice A m.b.length c) (fun _ _ => rfl) ?_ ?_
    ·rintro ρ ⟨h45, -⟩ c hc1 hc2
     have e45 : ρ 45 = .pointer (some ⟨m.blk, 0, none⟩) := h45
     have hc : c = 0 ∨ c = 1 := by have h1 : 0 ≤ c := hc1; have h2 : c ≤ 1 := hc2; omega
     rcases hc with rfl | rfl
     ·rw [q0]
      have c := bfw0.cell (i := 0) rfl
      simp [execOp, evR, e45, c, go_sem]
     ·rw [q1]
      have c := bfw1.cell (i := 0) rfl
      simp [execOp, evR, e45, c, go_sem]
    refine detT_pure rfl (.pointer (some ⟨m.blk, 0, none⟩)) (fun _ _ => rfl) ?_ ?_
    ·rintro ρ ⟨h7, -⟩ w'
     have e7 : ρ 7 = .pointer (some ⟨m.blk, 0, none⟩) := h7
     simp [execOp, evR, e7, go_sem]
    refine detT_pure rfl (.pointer (some ⟨m.blk, 0, none⟩)) (fun _ _ => rfl) ?_ ?_
    ·rintro ρ ⟨h47, -⟩ w'
     have e47 : ρ 47 = .pointer (some ⟨m.blk, 0, none⟩) := h47
     simp [execOp, evR, e47, go_sem]
    refine detT_pure rfl (.pointer (some ⟨m.blk, 0, none⟩)) (fun _ _ => rfl) ?_ ?_
    ·rintro ρ ⟨h48, -⟩ w'
     have e48 : ρ 48 = .pointer (some ⟨m.blk, 0, none⟩) := h48
     simp [execOp, evR, e48, go_sem]
    refine detT_read rfl (.slice A m.b.length c) (fun _ _ => rfl) ?_ ?_
    ·rintro ρ ⟨h49, -⟩ c hc1 hc2
     have e49 : ρ 49 = .pointer (some ⟨m.blk, 0, none⟩) := h49
     have hc : c = 0 ∨ c = 1 := by have h1 : 0 ≤ c := hc1; have h2 : c ≤ 1 := hc2; omega
     rcases hc with rfl | rfl
     ·rw [q0]
      have c := bfw0.cell (i := 0) rfl
      simp [execOp, evR, e49, c, go_sem]
     ·rw [q1]
      have c := bfw1.cell (i := 0) rfl
      simp [execOp, evR, e49, c, go_sem]
    refine detT_pure rfl (.int .i64 (m.b.length : Int)) (fun _ _ => rfl) ?_ ?_
    ·rintro ρ ⟨h50, -⟩ w'
     have e50 : ρ 50 = .slice A m.b.length c := h50
     simp [execOp, evR, e50, go_sem]
    refine detT_pure rfl (.pointer (some ⟨m.blk, 0, none⟩)) (fun _ _ => rfl) ?_ ?_
    ·rintro ρ ⟨h7, -⟩ w'
     have e7 : ρ 7 = .pointer (some ⟨m.blk, 0, none⟩) := h7
     simp [execOp, evR, e7, go_sem]
    refine detT_pure rfl (.pointer (some ⟨m.blk, 0, none⟩)) (fun _ _ => rfl) ?_ ?_
    ·rintro ρ ⟨h52, -⟩ w'
     have e52 : ρ 52 = .pointer (some ⟨m.blk, 0, none⟩) := h52
     simp [execOp, evR, e52, go_sem]
    refine detT_pure rfl (.pointer (some ⟨m.blk, 0, none⟩)) (fun _ _ => rfl) ?_ ?_
    ·rintro ρ ⟨h53, -⟩ w'
     have e53 : ρ 53 = .pointer (some ⟨m.blk, 0, none⟩) := h53
     simp [execOp, evR, e53, go_sem]
    refine detT_read rfl (.slice A m.b.length c) (fun _ _ => rfl) ?_ ?_
    ·rintro ρ ⟨h54, -⟩ c hc1 hc2
     have e54 : ρ 54 = .pointer (some ⟨m.blk, 0, none⟩) := h54
     have hc : c = 0 ∨ c = 1 := by have h1 : 0 ≤ c := hc1; have h2 : c ≤ 1 := hc2; omega
     rcases hc with rfl | rfl
     ·rw [q0]
      have c := bfw0.cell (i := 0) rfl
      simp [execOp, evR, e54, c, go_sem]
     ·rw [q1]
      have c := bfw1.cell (i := 0) rfl
      simp [execOp, evR, e54, c, go_sem]
    refine detT_pure rfl (.int .i64 (m.b.length : Int)) (fun _ _ => rfl) ?_ ?_
    ·rintro ρ ⟨h55, -⟩ w'
     have e55 : ρ 55 = .slice A m.b.length c := h55
     simp [execOp, evR, e55, go_sem]
    refine detT_pure rfl (.slice A m.b.length m.b.length) (fun _ _ => rfl) ?_ ?_
    ·rintro ρ ⟨h46, h51, h56, -⟩ w'
     have e46 : ρ 46 = .slice A m.b.length c := h46
     have e51 : ρ 51 = .int .i64 (m.b.length : Int) := h51
     have e56 : ρ 56 = .int .i64 (m.b.length : Int) := h56
     have q1 : (m.b.length : Int) ≤ (m.b.length : Int) := Int.le_refl _
     have q2 : (0 : Int) ≤ (m.b.length : Int) := by omega
     have q3 : (m.b.length : Int) ≤ (c : Int) := by omega
     simp [execOp, evR, e46, e51, e56, q1, q2, q3, go_sem]
    refine detT_pure rfl (.slice A2 b.length c2) (fun _ _ => rfl) ?_ ?_
    ·rintro ρ ⟨h2, -⟩ w'
     have e2 : ρ 2 = .slice A2 b.length c2 := h2
     simp [execOp, evR, e2, go_sem]
    refine detT_turn rfl (.slice A3 L3 c3) (fun _ _ => rfl) ?_ ?_
    ·rintro ρ ⟨h57, h58, -⟩
     have e57 : ρ 57 = .slice A m.b.length m.b.length := h57
     have e58 : ρ 58 = .slice A2 b.length c2 := h58
     show (execOp (evR ρ) _).run Tryz.prog (ws 0) = .ok (.value _) (ws 1)
     rw [q0, q1]
     simp only [execOp, resolve, invoke, builtin, evR, List.map_toArray, List.map_cons, List.map_nil, e57, e58, Sem.run_bind, Sem.run_pure, Result.andThen_ok, hrun]
    refine detT_pure rfl (.pointer (some ⟨m.blk, 0, none⟩)) (fun _ _ => rfl) ?_ ?_
    ·rintro ρ ⟨h42, -⟩ w'
     have e42 : ρ 42 = .pointer (some ⟨m.blk, 0, none⟩) := h42
     simp [execOp, evR, e42, go_sem]
    refine detT_pure rfl (.pointer (some ⟨m.blk, 0, none⟩)) (fun _ _ => rfl) ?_ ?_
    ·rintro ρ ⟨h60, -⟩ w'
     have e60 : ρ 60 = .pointer (some ⟨m.blk, 0, none⟩) := h60
     simp [execOp, evR, e60, go_sem]
    refine detT_store rfl (fun _ _ => rfl) ?_ ?_
    ·rintro ρ ⟨h61, h59, -⟩
     have e61 : ρ 61 = .pointer (some ⟨m.blk, 0, none⟩) := h61
     have e59 : ρ 59 = .slice A3 L3 c3 := h59
     show (execOp (evR ρ) _).run Tryz.prog (ws 1) = .ok .skip (ws 2)
     rw [q1, q2]
     have c := bfw1.cell (i := 0) rfl
     have t := bfw1.thaw 0
     simp [execOp, evR, e61, e59, c, t, go_sem]
    simp only [DetT, applyV, Act.put, List.setIfInBounds_toArray, List.set_cons_zero, List.set_cons_succ]
    rw [q2]
    obtain ⟨l, r, hlr⟩ := List.append_of_mem HMM.out
    have HHD := HD.out.ext (hext.trans hex1)
    rw [hlr] at HHD
    have hp := names_apart (hlr ▸ HH.out) HOK.out
    have hfs : (l ++ (⟨m.name, m.blk, .slice A3 L3 c3, m.b ++ b, m.sure⟩ : FilM) :: r).map FilM.fil = (d.upd name (fun f : Fil => { f with b := f.b ++ b })).fs := by
     show _ = updF name _ d.fs
     rw [← HH.out.fs, hlr]
     exact upd_split hn hp rfl
    have hu : ((d.upd name (fun f : Fil => { f with b := f.b ++ b })).used : Int) = (D0 : Int) + (b.length : Int) := by
     show (usedF _ : Int) = _
     rw [HDD.out]
     show _ = (usedF d.fs : Int) + _
     rw [← hfs, ← HH.out.fs, hlr, List.map_append, List.map_cons, List.map_append, List.map_cons, used_split, used_split]
     have e1 : (FilM.fil ⟨m.name, m.blk, .slice A3 L3 c3, m.b ++ b, m.sure⟩).b.length = m.b.length + b.length := by show (m.b ++ b).length = _; simp
     rw [e1, hfb]
     omega
    have h5 := HHD.fput (m' := ⟨m.name, m.blk, .slice A3 L3 c3, m.b ++ b, m.sure⟩) (d' := d.upd name (fun f : Fil => { f with b := f.b ++ b })) 0 (.slice A3 L3 c3) rfl rfl rfl hbt rfl rfl hfs
    have hw68 : IntKind.i64.wrap ((D0 : Int) + (b.length : Int)) = (D0 : Int) + (b.length : Int) := by rw [IntWalk.i64_in _ (by omega)]
    have h6 := h5.put (u' := ((d.upd name (fun f : Fil => { f with b := f.b ++ b })).used : Int)) (d' := d.upd name (fun f : Fil => { f with b := f.b ++ b })) (pl' := pl) 3 (.int .i64 ((D0 : Int) + (b.length : Int))) (by rw [hu]; rfl) rfl h5.plan
    have hkb := (((Kb.of_ext (fp := dall bd bm pl d ms) (HX1.out.trans (hext.trans hex1)))).trans (Kb.set (dall bd bm pl d ms) W1 m.blk 0 (.slice A3 L3 c3) (.inl (.inr (.inr (.inr ⟨m, HMM.out, rfl⟩))))) (fun _ h => .inl h)).trans (Kb.set (dall bd bm pl d ms) _ bd 3 (.int .i64 ((D0 : Int) + (b.length : Int))) (.inl (.inl rfl))) (fun _ h => .inl h)
    have hds : DkS z w1 _ bd bm pl d ms pl (d.upd name (fun f : Fil => { f with b := f.b ++ b })) (l ++ (⟨m.name, m.blk, .slice A3 L3 c3, m.b ++ b, m.sure⟩ : FilM) :: r) := ⟨h6, hkb, fun k hk => by
     rcases hk with (rfl | rfl | ⟨hp, rfl⟩ | ⟨x, hx, rfl⟩) | ⟨x, hx, hj⟩
     ·exact .inl (.inl (.inl rfl))
     ·exact .inl (.inl (.inr (.inl rfl)))
     ·exact .inl (.inl (.inr (.inr (.inl ⟨hp, rfl⟩))))
     ·refine .inl (.inl (.inr (.inr (.inr ?_))))
      rcases List.mem_append.1 hx with hx | hx
      ·exact ⟨x, by rw [hlr]; simp [hx], rfl⟩
      ·rcases List.mem_cons.1 hx with rfl | hx
       ·exact ⟨m, HMM.out, rfl⟩
       ·exact ⟨x, by rw [hlr]; simp [hx], rfl⟩
     ·rcases List.mem_append.1 hx with hx | hx
      ·exact .inl (.inr ⟨x, by rw [hlr]; simp [hx], hj⟩)
      ·rcases List.mem_cons.1 hx with rfl | hx
       ·rcases hown k hj with h1 | h1
        ·refine .inl (.inr ⟨m, HMM.out, ?_⟩)
         rw [HM.out, ← cutV_own A m.b.length c m.b.length]
         exact h1
        ·exact .inr (Nat.le_trans (Nat.le_trans HX1.out.size hext.size) h1)
       ·exact .inl (.inr ⟨x, by rw [hlr]; simp [hx], hj⟩)⟩
    have hok1 : (d.upd name (fun f : Fil => { f with b := f.b ++ b })).Ok := by
     have hfm : m.fil ∈ d.fs := by rw [← HH.out.fs]; exact List.mem_map.2 ⟨m, HMM.out, rfl⟩
     refine HOK.out.upd (fun _ => rfl) (fun f hf hfn => ?_) (fun f hf hfn => ?_) (by have := HDD.out; have h := hu; omega)
     ·have := HOK.out.sure f hf
      show f.sure ≤ (f.b ++ b).length
      simp
      omega
     ·have e := mem_uniq HOK.out hf hfm (hfn.trans hn.symm)
      subst e
      show (m.fil.b ++ b).length ≤ _
      simp [hfb]
      omega
    have HDS := Lib.hid hds
    have HC := Lib.hid (count_Append h6 hok1 ⟨HSM.out.cnt, HSM.out.plan⟩ #[] (fun w' => ∃ ms', DkS z _ w' bd bm pl (d.upd name (fun f : Fil => { f with b := f.b ++ b })) (l ++ (⟨m.name, m.blk, .slice A3 L3 c3, m.b ++ b, m.sure⟩ : FilM) :: r) pl (id (d.upd name (fun f : Fil => { f with b := f.b ++ b })).tick) ms') (fun w hs => by
     refine (append1_any w).mono ?_
     rintro e w' ⟨he, rfl⟩
     exact ⟨he, _, hs⟩))
    have hbd5 := h5.str.blk
    have k3 : (W1.setCell ⟨m.blk, 0, none⟩ (.slice A3 L3 c3)).cell? ⟨bd, 3, none⟩ = some (.int .i64 (D0 : Int)) := by
     rw [HDD.out]
     exact hbd5.cell (i := 3) rfl
    have t3 := hbd5.thaw 3
    have hne : bd ≠ m.blk := fun e => (HHD.files m (by simp)).1.ne HHD.str (by decide) e.symm
    have k3' : W1.cell? ⟨bd, 3, none⟩ = some (.int .i64 (D0 : Int)) := by
     rw [HDD.out]
     exact HHD.str.blk.cell (i := 3) rfl
    have t3' := HHD.str.blk.thaw 3
    clear hds h5 h6 hkb hok1 hu hfs hp HHD hbd5 hbt hown hrun bfw0 bfw1 q1 q2
    go_wp2_with fail
    refine HC.out.mono ?_
    intro e w' hcnt
    have hp := DkPost.of_count HDS.out id hcnt
    obtain ⟨pl', ms', rfl, hfin⟩ := hp
    have HFIN := Lib.hid hfin
    clear hfin hcnt
    go_wp2_with fail
    go_ret
    exact ⟨pl', ms', rfl, HFIN.out⟩
end Go.Proofs.YtagghghoimpofaaGreatDoor

/-
 Layer 15: what a call leaves may be: the bounds of a disk, from call to call.
-/
namespace Go.Proofs.YtagghghoimpofaaGreatDoor
open Go Go.RowKit Mono
set_option linter.unusedVariables false
set_option linter.unusedSimpArgs false

theorem Dk.Ok.count {d : Dk} (h : d.Ok) {act : Dk → Dk} (ha : (act d.tick).Ok) : (d.count act).1.Ok := by
 rw [Dk.count_eq]
 cases d.dead with
 | some k => exact h.lose k
 | none => exact ha
theorem findF_mem {name : List UInt8} {fs : List Fil} {f : Fil} (h : findF name fs = some f) : f ∈ fs ∧ f.name = name := by
 refine ⟨List.mem_of_find?_eq_some h, ?_⟩
 have := List.find?_some h
 simpa using this
theorem usedF_upd_le {name : List UInt8} {g : Fil → Fil} {fs : List Fil} (h : ∀ f ∈ fs, (g f).b.length ≤ f.b.length) : usedF (updF name g fs) ≤ usedF fs := by
 unfold updF
 refine used_map_le fun f hf => ?_
 split
 ·exact h f hf
 ·exact Nat.le_refl _
theorem bl_trans {a b c : List UInt8} (h1 : Op.bytesLess a b = true) (h2 : Op.bytesLess b c = true) : Op.bytesLess a c = true := by
 rw [Go.Proofs.bytesLess_eq] at h1 h2 ⊢
 simp only [decide_eq_true_eq] at h1 h2 ⊢
 exact List.lt_trans h1 h2
theorem bl_total {a b : List UInt8} (h1 : Op.bytesLess a b = false) (hne : a ≠ b) : Op.bytesLess b a = true := by
 rw [Go.Proofs.bytesLess_eq] at h1 ⊢
 simp only [decide_eq_true_eq, decide_eq_false_iff_not] at h1 ⊢
 rcases List.le_iff_lt_or_eq.1 (List.not_lt.1 h1) with h | h
 ·exact h
 ·exact absurd h.symm hne
theorem insF_mem {name : List UInt8} {x : Fil} : ∀ {fs : List Fil}, x ∈ insF name fs ↔ x = ⟨name, [], 0⟩ ∨ x ∈ fs
 | [] => by simp [insF]
 | f :: r => by
  unfold insF
  split
  ·simp
  ·have ih := insF_mem (name := name) (x := x) (fs := r)
   simp only [List.mem_cons, ih]
   constructor
   ·rintro (h | h | h)
    ·exact .inr (.inl h)
    ·exact .inl h
    ·exact .inr (.inr h)
   ·rintro (h | h | h)
    ·exact .inr (.inl h)
    ·exact .inl h
    ·exact .inr (.inr h)
theorem insF_len (name : List UInt8) : ∀ fs : List Fil, (insF name fs).length = fs.length + 1
 | [] => rfl
 | f :: r => by
  unfold insF
  split
  ·rfl
  ·simp [insF_len name r]
theorem insF_used (name : List UInt8) : ∀ fs : List Fil, usedF (insF name fs) = usedF fs
 | [] => by simp [insF, usedF]
 | f :: r => by
  have ih := insF_used name r
  unfold insF
  split
  ·simp [usedF]
  ·unfold usedF at *
   simp [ih]
theorem insF_sorted {name : List UInt8} : ∀ {fs : List Fil}, (∀ f ∈ fs, f.name ≠ name) → fs.Pairwise (fun a b => Op.bytesLess a.name b.name = true) → (insF name fs).Pairwise fun a b => Op.bytesLess a.name b.name = true
 | [], _, _ => by simp [insF]
 | f :: r, hn, hp => by
  obtain ⟨h1, h2⟩ := List.pairwise_cons.1 hp
  unfold insF
  by_cases hl : Op.bytesLess name f.name = true
  ·rw [if_pos hl]
   refine List.pairwise_cons.2 ⟨fun x hx => ?_, hp⟩
   rcases List.mem_cons.1 hx with rfl | hx
   ·exact hl
   ·exact bl_trans hl (h1 x hx)
  ·rw [if_neg hl]
   refine List.pairwise_cons.2 ⟨fun x hx => ?_, insF_sorted (fun x hx => hn x (List.mem_cons_of_mem _ hx)) h2⟩
   rcases insF_mem.1 hx with rfl | hx
   ·exact bl_total (by simpa using hl) (fun e => hn f List.mem_cons_self e.symm)
   ·exact h1 x hx
theorem findF_none {name : List UInt8} {fs : List Fil} (h : findF name fs = none) : ∀ f ∈ fs, f.name ≠ name := by
 intro f hf e
 have := List.find?_eq_none.1 h f hf
 simp [e] at this
theorem dMake_ok {d : Dk} (h : d.Ok) (name : List UInt8) : (dMake d name).1.Ok := by
 unfold dMake
 split
 ·exact h
 split
 ·exact h
 rename_i hg
 split
 ·exact h
 rename_i hf
 split
 ·exact h
 rename_i h64
 have hnone : findF name d.fs = none := by
  cases hx : findF name d.fs with
  | none => rfl
  | some f => rw [hx] at hf; simp at hf
 refine h.count ?_
 have ht := h.tick
 have e := tick_fs d
 refine ⟨ht.room, ?_, fun f hf => ?_, fun f hf => ?_, ?_, ?_, fun f hf => ?_⟩
 ·show (insF name d.tick.fs).Pairwise _
  rw [e]
  exact insF_sorted (findF_none hnone) h.sorted
 ·rcases insF_mem.1 hf with rfl | hf
  ·exact Nat.le_refl _
  ·exact ht.sure f hf
 ·rcases insF_mem.1 hf with rfl | hf
  ·exact Nat.zero_le _
  ·exact ht.len f hf
 ·show (insF name d.tick.fs).length ≤ 64
  rw [insF_len, e]
  omega
 ·show usedF (insF name d.tick.fs) ≤ _
  rw [insF_used]
  exact ht.used
 ·rcases insF_mem.1 hf with rfl | hf
  ·simpa using hg
  ·exact ht.names f hf
theorem dAppend_ok {d : Dk} (h : d.Ok) (name b : List UInt8) : (dAppend d name b).1.Ok := by
 unfold dAppend
 split
 ·exact h
 cases hf : findF name d.fs with
 | none => exact h
 | some f =>
  dsimp only
  split
  ·exact h
  rename_i h1
  split
  ·exact h
  rename_i h2
  obtain ⟨hm, hn⟩ := findF_mem hf
  have hok1 : (d.upd name fun f => { f with b := f.b ++ b }).Ok := by
   refine h.upd (fun _ => rfl) (fun x hx hxn => ?_) (fun x hx hxn => ?_) ?_
   ·have := h.sure x hx
    show x.sure ≤ (x.b ++ b).length
    simp
    omega
   ·have e := mem_uniq h hx hm (hxn.trans hn.symm)
    subst e
    show (x.b ++ b).length ≤ _
    simp
    omega
   ·have key : ∀ fs : List Fil, fs.Pairwise (fun a b => a.name ≠ b.name) → usedF (updF name (fun f => { f with b := f.b ++ b }) fs) ≤ usedF fs + b.length := by
     intro fs
     induction fs with
     | nil => intro _; simp [updF, usedF]
     | cons x r ih =>
      intro hp
      obtain ⟨h3, h4⟩ := List.pairwise_cons.1 hp
      unfold usedF updF at *
      simp only [List.map_cons, List.sum_cons]
      by_cases hx : (x.name == name) = true
      ·rw [if_pos hx]
       have hx' : x.name = name := by simpa using hx
       have off : r.map (fun f => if (f.name == name) = true then ({ f with b := f.b ++ b } : Fil) else f) = r := by
        conv => rhs; rw [← List.map_id r]
        refine List.map_congr_left fun y hy => ?_
        rw [if_neg]
        ·rfl
        ·intro hy2
         exact h3 y hy (by rw [hx']; simpa using Eq.symm (by simpa using hy2 : y.name = name))
       rw [off]
       simp
       omega
      ·rw [if_neg hx]
       have := ih h4
       dsimp only at this
       omega
    have := key d.fs (h.sorted.imp fun {a b} hab e => by rw [e, bl_irrefl] at hab; cases hab)
    show usedF _ ≤ d.room
    have hd : d.used = usedF d.fs := rfl
    unfold Dk.upd
    dsimp only
    omega
  exact hok1.count hok1.tick
theorem dSync_ok {d : Dk} (h : d.Ok) (name : List UInt8) : (dSync d name).1.Ok := by
 unfold dSync
 split
 ·exact h
 cases hf : findF name d.fs with
 | none => exact h
 | some f =>
  refine h.count ?_
  have ht := h.tick
  refine ht.upd (fun _ => rfl) (fun x hx hxn => Nat.le_refl _) (fun x hx hxn => ht.len x hx) ?_
  exact Nat.le_trans (usedF_upd_le (g := fun f : Fil => { f with sure := f.b.length }) fun x hx => Nat.le_refl _) ht.used
theorem dCut_ok {d : Dk} (h : d.Ok) (name : List UInt8) (n : Int) : (dCut d name n).1.Ok := by
 unfold dCut
 split
 ·exact h
 cases hf : findF name d.fs with
 | none => exact h
 | some f =>
  dsimp only
  split
  ·exact h
  refine h.count ?_
  have ht := h.tick
  refine ht.upd (fun _ => rfl) (fun x hx hxn => ?_) (fun x hx hxn => ?_) ?_
  ·have := ht.sure x hx
   show min x.sure n.toNat ≤ (x.b.take n.toNat).length
   simp
   omega
  ·have := ht.len x hx
   show (x.b.take n.toNat).length ≤ _
   simp
   omega
  ·exact Nat.le_trans (usedF_upd_le (g := fun f : Fil => ⟨f.name, f.b.take n.toNat, min f.sure n.toNat⟩) fun x hx => by simp; omega) ht.used
theorem dDrop_ok {d : Dk} (h : d.Ok) (name : List UInt8) : (dDrop d name).1.Ok := by
 unfold dDrop
 split
 ·exact h
 cases hf : findF name d.fs with
 | none => exact h
 | some f =>
  refine h.count ?_
  have ht := h.tick
  have hsub : (d.tick.fs.filter fun f => !(f.name == name)).Sublist d.tick.fs := List.filter_sublist
  refine ⟨ht.room, ht.sorted.sublist hsub, fun f hf => ht.sure f (hsub.subset hf), fun f hf => ht.len f (hsub.subset hf), Nat.le_trans hsub.length_le ht.few, ?_, fun f hf => ht.names f (hsub.subset hf)⟩
  refine Nat.le_trans ?_ ht.used
  have key : ∀ fs : List Fil, usedF (fs.filter fun f => !(f.name == name)) ≤ usedF fs := by
   intro fs
   induction fs with
   | nil => exact Nat.le_refl _
   | cons x r ih =>
    rw [List.filter_cons]
    split
    ·unfold usedF at *
     simp
     exact ih
    ·unfold usedF at *
     simp
     omega
  exact key _
theorem dArm_ok {d : Dk} (h : d.Ok) (n keep : Int) : (dArm d n keep).1.Ok := by
 unfold dArm
 split
 ·exact h
 split
 ·exact h
 exact ⟨h.room, h.sorted, h.sure, h.len, h.few, h.used, h.names⟩
theorem dFail_ok {d : Dk} (h : d.Ok) (keep : Int) : (dFail d keep).1.Ok := by
 unfold dFail
 split
 ·exact h
 exact h.lose keep
theorem dPower_ok {d : Dk} (h : d.Ok) : (dPower d).Ok := ⟨h.room, h.sorted, h.sure, h.len, h.few, h.used, h.names⟩
theorem fresh_ok {room : Nat} (h : room ≤ 1073741824) : (Dk.fresh room).Ok := ⟨h, List.Pairwise.nil, fun f hf => (by cases hf), fun f hf => (by cases hf), Nat.zero_le _, Nat.zero_le _, fun f hf => (by cases hf)⟩

/-! ### How many operations there were -/
/-- What a step adds to the counts: at most one. -/
structure Dk.Grow (d d' : Dk) : Prop where
 cnt : d'.ops + d'.fails ≤ d.ops + d.fails + 1
 plan : ∀ n k, d'.plan = some (n, k) → ∃ n0, d.plan = some (n0, k) ∧ n ≤ n0
theorem Dk.Grow.refl (d : Dk) : Dk.Grow d d := ⟨Nat.le_succ _, fun n k h => ⟨n, h, Nat.le_refl _⟩⟩
theorem Dk.Grow.lose (d : Dk) (k : Int) : Dk.Grow d (d.lose k) := ⟨by show d.ops + (d.fails + 1) ≤ _; omega, fun _ _ h => by cases h⟩
theorem Dk.Grow.tick (d : Dk) : Dk.Grow d d.tick := by
 unfold Dk.tick
 rcases hp : d.plan with _ | ⟨_ | n, k⟩
 ·exact ⟨by dsimp only; omega, fun n k h => by simp at h⟩
 ·exact ⟨by dsimp only; omega, fun a b h => ⟨a, by rw [hp]; exact h, Nat.le_refl _⟩⟩
 ·exact ⟨by dsimp only; omega, fun a b h => by dsimp only at h; injection h with h; injection h with e1 e2; subst e1 e2; exact ⟨n + 1, hp, Nat.le_succ _⟩⟩
theorem Dk.Grow.count {d d0 : Dk} {act : Dk → Dk} (h0 : d0.ops = d.ops ∧ d0.fails = d.fails ∧ d0.plan = d.plan) (ha : ∀ x : Dk, (act x).ops = x.ops ∧ (act x).fails = x.fails ∧ (act x).plan = x.plan) : Dk.Grow d (d0.count act).1 := by
 rw [Dk.count_eq]
 cases d0.dead with
 | some k =>
  have := Dk.Grow.lose d0 k
  exact ⟨by have h := this.cnt; dsimp only; rw [h0.1, h0.2.1] at h; exact h, fun _ _ h => by cases h⟩
 | none =>
  have := Dk.Grow.tick d0
  refine ⟨?_, fun n k h => ?_⟩
  ·have h := this.cnt
   rw [h0.1, h0.2.1] at h
   dsimp only
   rw [(ha _).1, (ha _).2.1]
   exact h
  ·dsimp only at h
   rw [(ha _).2.2] at h
   obtain ⟨n0, h1, h2⟩ := this.plan n k h
   exact ⟨n0, by rw [← h0.2.2]; exact h1, h2⟩
theorem dMake_grow (d : Dk) (name : List UInt8) : Dk.Grow d (dMake d name).1 := by
 unfold dMake
 repeat' split
 all_goals first | exact Dk.Grow.refl d | exact Dk.Grow.count ⟨rfl, rfl, rfl⟩ (fun _ => ⟨rfl, rfl, rfl⟩)
theorem dAppend_grow (d : Dk) (name b : List UInt8) : Dk.Grow d (dAppend d name b).1 := by
 unfold dAppend
 repeat' split
 all_goals first | exact Dk.Grow.refl d | exact Dk.Grow.count ⟨rfl, rfl, rfl⟩ (fun _ => ⟨rfl, rfl, rfl⟩)
theorem dSync_grow (d : Dk) (name : List UInt8) : Dk.Grow d (dSync d name).1 := by
 unfold dSync
 repeat' split
 all_goals first | exact Dk.Grow.refl d | exact Dk.Grow.count ⟨rfl, rfl, rfl⟩ (fun _ => ⟨rfl, rfl, rfl⟩)
theorem dCut_grow (d : Dk) (name : List UInt8) (n : Int) : Dk.Grow d (dCut d name n).1 := by
 unfold dCut
 repeat' split
 all_goals first | exact Dk.Grow.refl d | exact Dk.Grow.count ⟨rfl, rfl, rfl⟩ (fun _ => ⟨rfl, rfl, rfl⟩)
theorem dDrop_grow (d : Dk) (name : List UInt8) : Dk.Grow d (dDrop d name).1 := by
 unfold dDrop
 repeat' split
 all_goals first | exact Dk.Grow.refl d | exact Dk.Grow.count ⟨rfl, rfl, rfl⟩ (fun _ => ⟨rfl, rfl, rfl⟩)
/-- The bound c on the counts. -/
structure Dk.SmallC (c : Nat) (d : Dk) : Prop where
 cnt : d.ops + d.fails ≤ c
 plan : ∀ n k, d.plan = some (n, k) → n < 9223372036854775808
theorem Dk.SmallC.small {c : Nat} {d : Dk} (h : d.SmallC c) (hc : c ≤ 1000000000) : d.Small := ⟨Nat.le_trans h.cnt hc, h.plan⟩
theorem Dk.SmallC.grow {c : Nat} {d d' : Dk} (h : d.SmallC c) (g : Dk.Grow d d') : d'.SmallC (c + 1) := ⟨by have := g.cnt; have := h.cnt; omega, fun n k hp => by
 obtain ⟨n0, h1, h2⟩ := g.plan n k hp
 exact Nat.lt_of_le_of_lt h2 (h.plan n0 k h1)⟩
theorem dArm_small {c : Nat} {d : Dk} (h : d.SmallC c) (n keep : Int) (hn : n < 9223372036854775808) : (dArm d n keep).1.SmallC (c + 1) := by
 unfold dArm
 split
 ·exact ⟨Nat.le_succ_of_le h.cnt, h.plan⟩
 split
 ·exact ⟨Nat.le_succ_of_le h.cnt, h.plan⟩
 refine ⟨Nat.le_succ_of_le h.cnt, fun a k hp => ?_⟩
 injection hp with hp
 injection hp with e1 e2
 omega
theorem dPower_small {c : Nat} {d : Dk} (h : d.SmallC c) : (dPower d).SmallC (c + 1) := ⟨Nat.le_succ_of_le h.cnt, h.plan⟩
theorem fresh_small (room : Nat) : (Dk.fresh room).SmallC 0 := ⟨Nat.le_refl _, fun n k h => by cases h⟩
end Go.Proofs.YtagghghoimpofaaGreatDoor
