/-
  Layer 15: Append of the program's disk.
-/
import Derived.Test.YtkejoiknnigllaaDkOps2
namespace Go.Proofs.Ytkejoiknnigllaa
open Go Go.RowKit Mono
open Go.Maps (Keyed has size)
set_option linter.unusedVariables false
set_option linter.unusedSimpArgs false
set_option maxRecDepth 100000
set_option maxHeartbeats 1000000

theorem Dk.Ok.upd {d : Dk} (h : d.Ok) {name : List UInt8} {g : Fil → Fil} (hn : ∀ f, (g f).name = f.name) (hs : ∀ f ∈ d.fs, f.name = name → (g f).sure ≤ (g f).b.length) (hl : ∀ f ∈ d.fs, f.name = name → (g f).b.length ≤ 1048576) (hu : (d.upd name g).used ≤ d.room) : (d.upd name g).Ok := by
  have mem : ∀ f ∈ (d.upd name g).fs, ∃ f0 ∈ d.fs, (f = g f0 ∧ f0.name = name) ∨ f = f0 := by
    intro f hf
    obtain ⟨f0, h0, rfl⟩ := List.mem_map.1 hf
    by_cases e : (f0.name == name) = true
    · exact ⟨f0, h0, .inl ⟨by rw [if_pos e], by simpa using e⟩⟩
    · exact ⟨f0, h0, .inr (by rw [if_neg e])⟩
  refine ⟨h.room, ?_, fun f hf => ?_, fun f hf => ?_, by simpa [Dk.upd, updF] using h.few, hu, fun f hf => ?_⟩
  · refine List.pairwise_map.2 (h.sorted.imp fun {a b} hab => ?_)
    have e : ∀ f : Fil, (if (f.name == name) = true then g f else f).name = f.name := by intro f; split <;> simp [hn]
    rw [e, e]
    exact hab
  · obtain ⟨f0, h0, ⟨rfl, e⟩ | rfl⟩ := mem f hf
    · exact hs f0 h0 e
    · exact h.sure _ h0
  · obtain ⟨f0, h0, ⟨rfl, e⟩ | rfl⟩ := mem f hf
    · exact hl f0 h0 e
    · exact h.len _ h0
  · obtain ⟨f0, h0, ⟨rfl, e⟩ | rfl⟩ := mem f hf
    · rw [hn]; exact h.names _ h0
    · exact h.names _ h0
theorem mem_uniq {d : Dk} (h : d.Ok) {f f' : Fil} (hf : f ∈ d.fs) (hf' : f' ∈ d.fs) (e : f.name = f'.name) : f = f' := by
  obtain ⟨l, r, hl⟩ := List.append_of_mem hf
  have hs := h.sorted
  rw [hl] at hs hf'
  obtain ⟨h1, h2, h3⟩ := List.pairwise_append.1 hs
  obtain ⟨h4, h5⟩ := List.pairwise_cons.1 h2
  rcases List.mem_append.1 hf' with hm | hm
  · have := h3 f' hm f List.mem_cons_self
    rw [e, bl_irrefl] at this
    cases this
  · rcases List.mem_cons.1 hm with rfl | hm
    · rfl
    · have := h4 f' hm
      rw [e, bl_irrefl] at this
      cases this

theorem append_any {z bd bm pl : Nat} {W : World} {d : Dk} {ms : List FilM} (h : DkM z W bd bm pl d ms) (hok : d.Ok) (hsm : d.Small) (hz : z ≤ W.heap.size) (name : List UInt8) (hl : name.length ≤ maxLen) {v : Value} {b : List UInt8} (hb : Bs W v b) :
    Calls Try.prog 17 #[.pointer (some ⟨bd, 0, none⟩), strV name, v] W (DkPost z W bd bm pl d ms (dAppend d name b)) := by
  obtain ⟨A2, c2, rfl, j1, j2, j3, j4⟩ := hb.open_
  have HFF := Lib.hid (findF_fs h name)
  have HFI := Lib.hid (find_any h name hl)
  have HH := Lib.hid h
  have HOK := Lib.hid hok
  have HSM := Lib.hid hsm
  have HB := Lib.hid hb
  have HZ := Lib.hid hz
  unfold findN findV lookV at HFI
  unfold strV at HFI ⊢
  have hbl : b.length ≤ maxLen := by omega
  unfold maxLen at hbl
  clear h hok hsm hb hz j3 j4
  cases hon : d.on
  · rw [hon] at HFI
    have hres : dAppend d name b = (d, 150) := by unfold dAppend; simp [hon]
    rw [hres]
    go_enter Try.func17, Try.ntmps17
    go_wp2_with fail
    refine HFI.out.mono ?_
    rintro e w1 ⟨rfl, rfl⟩
    go_wp2_with fail
    go_ret
    exact DkPost.same HH.out (Ext.refl _) 150
  · rw [hon] at HFI
    cases hf : findM name ms with
    | none =>
      rw [hf] at HFI
      have hres : dAppend d name b = (d, 152) := by unfold dAppend; simp [hon, HFF.out, hf]
      rw [hres]
      go_enter Try.func17, Try.ntmps17
      go_wp2_with fail
      refine HFI.out.mono ?_
      rintro e w1 ⟨rfl, rfl⟩
      go_wp2_with fail
      go_ret
      exact DkPost.same HH.out (Ext.refl _) 152
    | some m =>
      rw [hf] at HFI
      obtain ⟨hm, hn⟩ := findM_mem hf
      have bf := (HH.out.files m hm).1.blk
      obtain ⟨A, c, hmv, g1, g2, g3, g4⟩ := (HH.out.bytes m hm).bs.open_
      rw [hmv] at bf
      have hlen : m.b.length ≤ 1048576 := HOK.out.len m.fil (by rw [← HH.out.fs]; exact List.mem_map.2 ⟨m, hm, rfl⟩)
      have hfb : m.fil.b.length = m.b.length := rfl
      have hcut := (HH.out.bytes m hm).cut (Nat.le_refl _)
      rw [List.take_length, hmv] at hcut
      have HBC := Lib.hid (show BsT z W (.slice A m.b.length m.b.length) m.b from hcut)
      have BF := Lib.hid bf
      have HM := Lib.hid hmv
      have HMM := Lib.hid hm
      have kf := bf.cell (i := 0) rfl
      have hused : d.used ≤ d.room := HOK.out.used
      have hroom : d.room ≤ 1073741824 := HOK.out.room
      have bd0 := HH.out.str.blk
      obtain ⟨D0, hD0⟩ : ∃ D0, D0 = d.used := ⟨_, rfl⟩
      unfold dstrC at bd0
      rw [← hD0] at hused bd0
      have HDD := Lib.hid hD0
      have HBD := Lib.hid bd0
      clear hcut bf hmv hm g3 g4 hD0 bd0
      have hw27 : IntKind.i64.wrap (1048576 - (m.b.length : Int)) = 1048576 - (m.b.length : Int) := by rw [IntWalk.i64_in _ (by omega)]
      by_cases hl1 : 1048576 < m.b.length + b.length
      · have hres : dAppend d name b = (d, 3) := by
          unfold dAppend
          simp only [hon, HFF.out, hf, Option.map_some, Bool.true_eq_false, if_false, hfb, hl1, if_true]
        rw [hres]
        have hc : (1048576 - (m.b.length : Int)) < (b.length : Int) := by omega
        go_enter Try.func17, Try.ntmps17
        go_wp2_with fail
        refine HFI.out.mono ?_
        rintro e w1 ⟨rfl, rfl⟩
        go_wp2_with fail
        go_ret
        exact DkPost.same HH.out (Ext.refl _) 3
      have hc : ¬ (1048576 - (m.b.length : Int)) < (b.length : Int) := by omega
      by_cases hl2 : d.room < d.used + b.length
      · have hres : dAppend d name b = (d, 151) := by
          unfold dAppend
          simp only [hon, HFF.out, hf, Option.map_some, Bool.true_eq_false, if_false, hfb, hl1, hl2, if_true]
        rw [hres]
        rw [← HDD.out] at hl2
        go_enter Try.func17, Try.ntmps17
        go_wp2_with fail
        refine HFI.out.mono ?_
        rintro e w1 ⟨rfl, rfl⟩
        go_wp2_with fail
        refine wp_region_turns 0 [(0, 0, false), (0, 0, false), (0, 0, false), (0, 0, false), (0, 0, false), (0, 0, false), (0, 0, false), (0, 0, false), (0, 0, false), (0, 0, false), (0, 0, false), (0, 0, false), (0, 0, false)] (fun w0 c => w0) (by kernel_rfl) (by kernel_rfl) (by kernel_rfl) (fun _ => rfl) ?_
        intro w0 ws hext hsz hws
        have q0 : ws 0 = w0 := hws 0
        clear hws
        have bdw0 := HBD.out.ext hext
        refine detT_pure rfl (.slice A2 b.length c2) (fun _ _ => rfl) ?_ ?_
        · rintro ρ ⟨h2, -⟩ w'
          have e2 : ρ 2 = .slice A2 b.length c2 := h2
          simp [execOp, evR, e2, go_sem]
        refine detT_pure rfl (.int .i64 (b.length : Int)) (fun _ _ => rfl) ?_ ?_
        · rintro ρ ⟨h30, -⟩ w'
          have e30 : ρ 30 = .slice A2 b.length c2 := h30
          simp [execOp, evR, e30, go_sem]
        refine detT_pure rfl (.pointer (some ⟨bd, 0, none⟩)) (fun _ _ => rfl) ?_ ?_
        · rintro ρ ⟨h0, -⟩ w'
          have e0 : ρ 0 = .pointer (some ⟨bd, 0, none⟩) := h0
          simp [execOp, evR, e0, go_sem]
        refine detT_pure rfl (.pointer (some ⟨bd, 0, none⟩)) (fun _ _ => rfl) ?_ ?_
        · rintro ρ ⟨h32, -⟩ w'
          have e32 : ρ 32 = .pointer (some ⟨bd, 0, none⟩) := h32
          simp [execOp, evR, e32, go_sem]
        refine detT_pure rfl (.pointer (some ⟨bd, 0, none⟩)) (fun _ _ => rfl) ?_ ?_
        · rintro ρ ⟨h33, -⟩ w'
          have e33 : ρ 33 = .pointer (some ⟨bd, 0, none⟩) := h33
          simp [execOp, evR, e33, go_sem]
        refine detT_read rfl (.int .i64 (d.room : Int)) (fun _ _ => rfl) ?_ ?_
        · rintro ρ ⟨h34, -⟩ c hc1 hc2
          have e34 : ρ 34 = .pointer (some ⟨bd, 0, none⟩) := h34
          have hc : c = 0 := by have h1 : 0 ≤ c := hc1; have h2 : c ≤ 0 := hc2; omega
          rcases hc with rfl
          · rw [q0]
            have c := bdw0.cell (i := 0) rfl
            simp [execOp, evR, e34, c, go_sem]
        refine detT_pure rfl (.pointer (some ⟨bd, 0, none⟩)) (fun _ _ => rfl) ?_ ?_
        · rintro ρ ⟨h0, -⟩ w'
          have e0 : ρ 0 = .pointer (some ⟨bd, 0, none⟩) := h0
          simp [execOp, evR, e0, go_sem]
        refine detT_pure rfl (.pointer (some ⟨bd, 0, none⟩)) (fun _ _ => rfl) ?_ ?_
        · rintro ρ ⟨h36, -⟩ w'
          have e36 : ρ 36 = .pointer (some ⟨bd, 0, none⟩) := h36
          simp [execOp, evR, e36, go_sem]
        refine detT_pure rfl (.pointer (some ⟨bd, 3, none⟩)) (fun _ _ => rfl) ?_ ?_
        · rintro ρ ⟨h37, -⟩ w'
          have e37 : ρ 37 = .pointer (some ⟨bd, 0, none⟩) := h37
          simp [execOp, evR, e37, go_sem]
        refine detT_read rfl (.int .i64 (D0 : Int)) (fun _ _ => rfl) ?_ ?_
        · rintro ρ ⟨h38, -⟩ c hc1 hc2
          have e38 : ρ 38 = .pointer (some ⟨bd, 3, none⟩) := h38
          have hc : c = 0 := by have h1 : 0 ≤ c := hc1; have h2 : c ≤ 0 := hc2; omega
          rcases hc with rfl
          · rw [q0]
            have c := bdw0.cell (i := 3) rfl
            simp [execOp, evR, e38, c, go_sem]
        refine detT_pure rfl (.int .i64 ((d.room : Int) - (D0 : Int))) (fun _ _ => rfl) ?_ ?_
        · rintro ρ ⟨h35, h39, -⟩ w'
          have e35 : ρ 35 = .int .i64 (d.room : Int) := h35
          have e39 : ρ 39 = .int .i64 (D0 : Int) := h39
          have hw : IntKind.i64.wrap ((d.room : Int) - (D0 : Int)) = (d.room : Int) - (D0 : Int) := by rw [IntWalk.i64_in _ (by omega)]
          simp [execOp, evR, e35, e39, hw, go_sem]
        refine detT_pure rfl (.bool true) (fun _ _ => rfl) ?_ ?_
        · rintro ρ ⟨h31, h40, -⟩ w'
          have e31 : ρ 31 = .int .i64 (b.length : Int) := h31
          have e40 : ρ 40 = .int .i64 ((d.room : Int) - (D0 : Int)) := h40
          simp [execOp, evR, e31, e40, go_sem]
          omega
        refine detT_pure rfl (.bool true) (fun _ _ => rfl) ?_ ?_
        · rintro ρ ⟨h41, -⟩ w'
          have e41 : ρ 41 = .bool true := h41
          simp [execOp, evR, e41, go_sem]
        simp only [DetT, applyV, Act.put, List.setIfInBounds_toArray, List.set_cons_zero, List.set_cons_succ]
        rw [q0]
        go_wp2_with fail
        go_ret
        exact DkPost.same HH.out hext 151
      · have hres : dAppend d name b = (d.upd name (fun f : Fil => { f with b := f.b ++ b })).count id := by
          unfold dAppend
          simp only [hon, HFF.out, hf, Option.map_some, Bool.true_eq_false, if_false, hfb, hl1, hl2]
        rw [hres]
        rw [← HDD.out] at hl2
        go_enter Try.func17, Try.ntmps17
        go_wp2_with fail
        refine HFI.out.mono ?_
        rintro e w1 ⟨rfl, rfl⟩
        go_wp2_with fail
        refine wp_region_turns 0 [(0, 0, false), (0, 0, false), (0, 0, false), (0, 0, false), (0, 0, false), (0, 0, false), (0, 0, false), (0, 0, false), (0, 0, false), (0, 0, false), (0, 0, false), (0, 0, false), (0, 0, false)] (fun w0 c => w0) (by kernel_rfl) (by kernel_rfl) (by kernel_rfl) (fun _ => rfl) ?_
        intro w0 ws hext hsz hws
        have q0 : ws 0 = w0 := hws 0
        clear hws
        have bdw0 := HBD.out.ext hext
        refine detT_pure rfl (.slice A2 b.length c2) (fun _ _ => rfl) ?_ ?_
        · rintro ρ ⟨h2, -⟩ w'
          have e2 : ρ 2 = .slice A2 b.length c2 := h2
          simp [execOp, evR, e2, go_sem]
        refine detT_pure rfl (.int .i64 (b.length : Int)) (fun _ _ => rfl) ?_ ?_
        · rintro ρ ⟨h30, -⟩ w'
          have e30 : ρ 30 = .slice A2 b.length c2 := h30
          simp [execOp, evR, e30, go_sem]
        refine detT_pure rfl (.pointer (some ⟨bd, 0, none⟩)) (fun _ _ => rfl) ?_ ?_
        · rintro ρ ⟨h0, -⟩ w'
          have e0 : ρ 0 = .pointer (some ⟨bd, 0, none⟩) := h0
          simp [execOp, evR, e0, go_sem]
        refine detT_pure rfl (.pointer (some ⟨bd, 0, none⟩)) (fun _ _ => rfl) ?_ ?_
        · rintro ρ ⟨h32, -⟩ w'
          have e32 : ρ 32 = .pointer (some ⟨bd, 0, none⟩) := h32
          simp [execOp, evR, e32, go_sem]
        refine detT_pure rfl (.pointer (some ⟨bd, 0, none⟩)) (fun _ _ => rfl) ?_ ?_
        · rintro ρ ⟨h33, -⟩ w'
          have e33 : ρ 33 = .pointer (some ⟨bd, 0, none⟩) := h33
          simp [execOp, evR, e33, go_sem]
        refine detT_read rfl (.int .i64 (d.room : Int)) (fun _ _ => rfl) ?_ ?_
        · rintro ρ ⟨h34, -⟩ c hc1 hc2
          have e34 : ρ 34 = .pointer (some ⟨bd, 0, none⟩) := h34
          have hc : c = 0 := by have h1 : 0 ≤ c := hc1; have h2 : c ≤ 0 := hc2; omega
          rcases hc with rfl
          · rw [q0]
            have c := bdw0.cell (i := 0) rfl
            simp [execOp, evR, e34, c, go_sem]
        refine detT_pure rfl (.pointer (some ⟨bd, 0, none⟩)) (fun _ _ => rfl) ?_ ?_
        · rintro ρ ⟨h0, -⟩ w'
          have e0 : ρ 0 = .pointer (some ⟨bd, 0, none⟩) := h0
          simp [execOp, evR, e0, go_sem]
        refine detT_pure rfl (.pointer (some ⟨bd, 0, none⟩)) (fun _ _ => rfl) ?_ ?_
        · rintro ρ ⟨h36, -⟩ w'
          have e36 : ρ 36 = .pointer (some ⟨bd, 0, none⟩) := h36
          simp [execOp, evR, e36, go_sem]
        refine detT_pure rfl (.pointer (some ⟨bd, 3, none⟩)) (fun _ _ => rfl) ?_ ?_
        · rintro ρ ⟨h37, -⟩ w'
          have e37 : ρ 37 = .pointer (some ⟨bd, 0, none⟩) := h37
          simp [execOp, evR, e37, go_sem]
        refine detT_read rfl (.int .i64 (D0 : Int)) (fun _ _ => rfl) ?_ ?_
        · rintro ρ ⟨h38, -⟩ c hc1 hc2
          have e38 : ρ 38 = .pointer (some ⟨bd, 3, none⟩) := h38
          have hc : c = 0 := by have h1 : 0 ≤ c := hc1; have h2 : c ≤ 0 := hc2; omega
          rcases hc with rfl
          · rw [q0]
            have c := bdw0.cell (i := 3) rfl
            simp [execOp, evR, e38, c, go_sem]
        refine detT_pure rfl (.int .i64 ((d.room : Int) - (D0 : Int))) (fun _ _ => rfl) ?_ ?_
        · rintro ρ ⟨h35, h39, -⟩ w'
          have e35 : ρ 35 = .int .i64 (d.room : Int) := h35
          have e39 : ρ 39 = .int .i64 (D0 : Int) := h39
          have hw : IntKind.i64.wrap ((d.room : Int) - (D0 : Int)) = (d.room : Int) - (D0 : Int) := by rw [IntWalk.i64_in _ (by omega)]
          simp [execOp, evR, e35, e39, hw, go_sem]
        refine detT_pure rfl (.bool false) (fun _ _ => rfl) ?_ ?_
        · rintro ρ ⟨h31, h40, -⟩ w'
          have e31 : ρ 31 = .int .i64 (b.length : Int) := h31
          have e40 : ρ 40 = .int .i64 ((d.room : Int) - (D0 : Int)) := h40
          simp [execOp, evR, e31, e40, go_sem]
          omega
        refine detT_pure rfl (.bool false) (fun _ _ => rfl) ?_ ?_
        · rintro ρ ⟨h41, -⟩ w'
          have e41 : ρ 41 = .bool false := h41
          simp [execOp, evR, e41, go_sem]
        simp only [DetT, applyV, Act.put, List.setIfInBounds_toArray, List.set_cons_zero, List.set_cons_succ]
        rw [q0]
        have HX1 := Lib.hid hext
        have HD := Lib.hid (HH.out.ext hext)
        replace HBC := Lib.hid (HBC.out.kb (Kb.of_ext (fp := fun _ => False) hext) (fun _ _ h => h))
        replace HB := Lib.hid (HB.out.ext hext)
        replace BF := Lib.hid (BF.out.ext hext)
        replace HZ := Lib.hid (Nat.le_trans HZ.out hext.size)
        clear bdw0 q0 ws hsz kf hw27
        go_wp2_with fail
        refine wp_region_turns 2 [(0, 1, false), (0, 1, false), (0, 1, false), (0, 1, false), (0, 1, false), (0, 1, false), (0, 1, false), (0, 1, false), (0, 1, false), (0, 1, false), (0, 1, false), (0, 1, false), (0, 1, false), (0, 1, false), (0, 1, false), (0, 0, false), (0, 0, false), (0, 0, true), (1, 2, false), (1, 1, false), (1, 1, true)] (fun w0 c => match c with | 0 => w0 | 1 => resW ((Builtin.append_ #[23, 23] 23 #[.slice A m.b.length m.b.length, .slice A2 b.length c2]).run Try.prog w0) w0 | _ => (resW ((Builtin.append_ #[23, 23] 23 #[.slice A m.b.length m.b.length, .slice A2 b.length c2]).run Try.prog w0) w0).setCell ⟨m.blk, 0, none⟩ (resV ((Builtin.append_ #[23, 23] 23 #[.slice A m.b.length m.b.length, .slice A2 b.length c2]).run Try.prog w0))) (by kernel_rfl) (by kernel_rfl) (by kernel_rfl) (fun _ => rfl) ?_
        intro w0 ws hext hsz hws
        have q0 : ws 0 = w0 := hws 0
        have q1 : ws 1 = resW ((Builtin.append_ #[23, 23] 23 #[.slice A m.b.length m.b.length, .slice A2 b.length c2]).run Try.prog w0) w0 := hws 1
        have q2 : ws 2 = (resW ((Builtin.append_ #[23, 23] 23 #[.slice A m.b.length m.b.length, .slice A2 b.length c2]).run Try.prog w0) w0).setCell ⟨m.blk, 0, none⟩ (resV ((Builtin.append_ #[23, 23] 23 #[.slice A m.b.length m.b.length, .slice A2 b.length c2]).run Try.prog w0)) := hws 2
        clear hws
        have bfw0 := BF.out.ext hext
        obtain ⟨v', W1, hrun, hbt, hex1, hown⟩ := append_full ((HBC.out.kb (Kb.of_ext (fp := fun _ => False) hext) (fun _ _ h => h))) (HB.out.ext hext) (by omega) (Nat.le_trans HZ.out hext.size) 23
        obtain ⟨A3, c3, hv3, -⟩ := hbt.bs.open_
        obtain ⟨L3, hL3⟩ : ∃ n, n = (m.b ++ b).length := ⟨_, rfl⟩
        rw [← hL3] at hv3
        subst hv3
        have HL3 := Lib.hid hL3
        clear hL3
        rw [hrun] at q1 q2
        simp only [resW, resV] at q1 q2
        have bfw1 := bfw0.ext hex1
        refine detT_pure rfl (.pointer (some ⟨m.blk, 0, none⟩)) (fun _ _ => rfl) ?_ ?_
        · rintro ρ ⟨h7, -⟩ w'
          have e7 : ρ 7 = .pointer (some ⟨m.blk, 0, none⟩) := h7
          simp [execOp, evR, e7, go_sem]
        refine detT_pure rfl (.pointer (some ⟨m.blk, 0, none⟩)) (fun _ _ => rfl) ?_ ?_
        · rintro ρ ⟨h7, -⟩ w'
          have e7 : ρ 7 = .pointer (some ⟨m.blk, 0, none⟩) := h7
          simp [execOp, evR, e7, go_sem]
        refine detT_pure rfl (.pointer (some ⟨m.blk, 0, none⟩)) (fun _ _ => rfl) ?_ ?_
        · rintro ρ ⟨h43, -⟩ w'
          have e43 : ρ 43 = .pointer (some ⟨m.blk, 0, none⟩) := h43
          simp [execOp, evR, e43, go_sem]
        refine detT_pure rfl (.pointer (some ⟨m.blk, 0, none⟩)) (fun _ _ => rfl) ?_ ?_
        · rintro ρ ⟨h44, -⟩ w'
          have e44 : ρ 44 = .pointer (some ⟨m.blk, 0, none⟩) := h44
          simp [execOp, evR, e44, go_sem]
        refine detT_read rfl (.slice A m.b.length c) (fun _ _ => rfl) ?_ ?_
        · rintro ρ ⟨h45, -⟩ c hc1 hc2
          have e45 : ρ 45 = .pointer (some ⟨m.blk, 0, none⟩) := h45
          have hc : c = 0 ∨ c = 1 := by have h1 : 0 ≤ c := hc1; have h2 : c ≤ 1 := hc2; omega
          rcases hc with rfl | rfl
          · rw [q0]
            have c := bfw0.cell (i := 0) rfl
            simp [execOp, evR, e45, c, go_sem]
          · rw [q1]
            have c := bfw1.cell (i := 0) rfl
            simp [execOp, evR, e45, c, go_sem]
        refine detT_pure rfl (.pointer (some ⟨m.blk, 0, none⟩)) (fun _ _ => rfl) ?_ ?_
        · rintro ρ ⟨h7, -⟩ w'
          have e7 : ρ 7 = .pointer (some ⟨m.blk, 0, none⟩) := h7
          simp [execOp, evR, e7, go_sem]
        refine detT_pure rfl (.pointer (some ⟨m.blk, 0, none⟩)) (fun _ _ => rfl) ?_ ?_
        · rintro ρ ⟨h47, -⟩ w'
          have e47 : ρ 47 = .pointer (some ⟨m.blk, 0, none⟩) := h47
          simp [execOp, evR, e47, go_sem]
        refine detT_pure rfl (.pointer (some ⟨m.blk, 0, none⟩)) (fun _ _ => rfl) ?_ ?_
        · rintro ρ ⟨h48, -⟩ w'
          have e48 : ρ 48 = .pointer (some ⟨m.blk, 0, none⟩) := h48
          simp [execOp, evR, e48, go_sem]
        refine detT_read rfl (.slice A m.b.length c) (fun _ _ => rfl) ?_ ?_
        · rintro ρ ⟨h49, -⟩ c hc1 hc2
          have e49 : ρ 49 = .pointer (some ⟨m.blk, 0, none⟩) := h49
          have hc : c = 0 ∨ c = 1 := by have h1 : 0 ≤ c := hc1; have h2 : c ≤ 1 := hc2; omega
          rcases hc with rfl | rfl
          · rw [q0]
            have c := bfw0.cell (i := 0) rfl
            simp [execOp, evR, e49, c, go_sem]
          · rw [q1]
            have c := bfw1.cell (i := 0) rfl
            simp [execOp, evR, e49, c, go_sem]
        refine detT_pure rfl (.int .i64 (m.b.length : Int)) (fun _ _ => rfl) ?_ ?_
        · rintro ρ ⟨h50, -⟩ w'
          have e50 : ρ 50 = .slice A m.b.length c := h50
          simp [execOp, evR, e50, go_sem]
        refine detT_pure rfl (.pointer (some ⟨m.blk, 0, none⟩)) (fun _ _ => rfl) ?_ ?_
        · rintro ρ ⟨h7, -⟩ w'
          have e7 : ρ 7 = .pointer (some ⟨m.blk, 0, none⟩) := h7
          simp [execOp, evR, e7, go_sem]
        refine detT_pure rfl (.pointer (some ⟨m.blk, 0, none⟩)) (fun _ _ => rfl) ?_ ?_
        · rintro ρ ⟨h52, -⟩ w'
          have e52 : ρ 52 = .pointer (some ⟨m.blk, 0, none⟩) := h52
          simp [execOp, evR, e52, go_sem]
        refine detT_pure rfl (.pointer (some ⟨m.blk, 0, none⟩)) (fun _ _ => rfl) ?_ ?_
        · rintro ρ ⟨h53, -⟩ w'
          have e53 : ρ 53 = .pointer (some ⟨m.blk, 0, none⟩) := h53
          simp [execOp, evR, e53, go_sem]
        refine detT_read rfl (.slice A m.b.length c) (fun _ _ => rfl) ?_ ?_
        · rintro ρ ⟨h54, -⟩ c hc1 hc2
          have e54 : ρ 54 = .pointer (some ⟨m.blk, 0, none⟩) := h54
          have hc : c = 0 ∨ c = 1 := by have h1 : 0 ≤ c := hc1; have h2 : c ≤ 1 := hc2; omega
          rcases hc with rfl | rfl
          · rw [q0]
            have c := bfw0.cell (i := 0) rfl
            simp [execOp, evR, e54, c, go_sem]
          · rw [q1]
            have c := bfw1.cell (i := 0) rfl
            simp [execOp, evR, e54, c, go_sem]
        refine detT_pure rfl (.int .i64 (m.b.length : Int)) (fun _ _ => rfl) ?_ ?_
        · rintro ρ ⟨h55, -⟩ w'
          have e55 : ρ 55 = .slice A m.b.length c := h55
          simp [execOp, evR, e55, go_sem]
        refine detT_pure rfl (.slice A m.b.length m.b.length) (fun _ _ => rfl) ?_ ?_
        · rintro ρ ⟨h46, h51, h56, -⟩ w'
          have e46 : ρ 46 = .slice A m.b.length c := h46
          have e51 : ρ 51 = .int .i64 (m.b.length : Int) := h51
          have e56 : ρ 56 = .int .i64 (m.b.length : Int) := h56
          have q1 : (m.b.length : Int) ≤ (m.b.length : Int) := Int.le_refl _
          have q2 : (0 : Int) ≤ (m.b.length : Int) := by omega
          have q3 : (m.b.length : Int) ≤ (c : Int) := by omega
          simp [execOp, evR, e46, e51, e56, q1, q2, q3, go_sem]
        refine detT_pure rfl (.slice A2 b.length c2) (fun _ _ => rfl) ?_ ?_
        · rintro ρ ⟨h2, -⟩ w'
          have e2 : ρ 2 = .slice A2 b.length c2 := h2
          simp [execOp, evR, e2, go_sem]
        refine detT_turn rfl (.slice A3 L3 c3) (fun _ _ => rfl) ?_ ?_
        · rintro ρ ⟨h57, h58, -⟩
          have e57 : ρ 57 = .slice A m.b.length m.b.length := h57
          have e58 : ρ 58 = .slice A2 b.length c2 := h58
          show (execOp (evR ρ) _).run Try.prog (ws 0) = .ok (.value _) (ws 1)
          rw [q0, q1]
          simp only [execOp, resolve, invoke, builtin, evR, List.map_toArray, List.map_cons, List.map_nil, e57, e58, Sem.run_bind, Sem.run_pure, Result.andThen_ok, hrun]
        refine detT_pure rfl (.pointer (some ⟨m.blk, 0, none⟩)) (fun _ _ => rfl) ?_ ?_
        · rintro ρ ⟨h42, -⟩ w'
          have e42 : ρ 42 = .pointer (some ⟨m.blk, 0, none⟩) := h42
          simp [execOp, evR, e42, go_sem]
        refine detT_pure rfl (.pointer (some ⟨m.blk, 0, none⟩)) (fun _ _ => rfl) ?_ ?_
        · rintro ρ ⟨h60, -⟩ w'
          have e60 : ρ 60 = .pointer (some ⟨m.blk, 0, none⟩) := h60
          simp [execOp, evR, e60, go_sem]
        refine detT_store rfl (fun _ _ => rfl) ?_ ?_
        · rintro ρ ⟨h61, h59, -⟩
          have e61 : ρ 61 = .pointer (some ⟨m.blk, 0, none⟩) := h61
          have e59 : ρ 59 = .slice A3 L3 c3 := h59
          show (execOp (evR ρ) _).run Try.prog (ws 1) = .ok .skip (ws 2)
          rw [q1, q2]
          have c := bfw1.cell (i := 0) rfl
          have t := bfw1.thaw 0
          simp [execOp, evR, e61, e59, c, t, go_sem]
        simp only [DetT, applyV, Act.put, List.setIfInBounds_toArray, List.set_cons_zero, List.set_cons_succ]
        rw [q2]
        obtain ⟨l, r, hlr⟩ := List.append_of_mem HMM.out
        have HHD := HD.out.ext (hext.trans hex1)
        rw [hlr] at HHD
        have hp := names_apart (hlr ▸ HH.out) HOK.out
        have hfs : (l ++ (⟨m.name, m.blk, .slice A3 L3 c3, m.b ++ b, m.sure⟩ : FilM) :: r).map FilM.fil = (d.upd name (fun f : Fil => { f with b := f.b ++ b })).fs := by
          show _ = updF name _ d.fs
          rw [← HH.out.fs, hlr]
          exact upd_split hn hp rfl
        have hu : ((d.upd name (fun f : Fil => { f with b := f.b ++ b })).used : Int) = (D0 : Int) + (b.length : Int) := by
          show (usedF _ : Int) = _
          rw [HDD.out]
          show _ = (usedF d.fs : Int) + _
          rw [← hfs, ← HH.out.fs, hlr, List.map_append, List.map_cons, List.map_append, List.map_cons, used_split, used_split]
          have e1 : (FilM.fil ⟨m.name, m.blk, .slice A3 L3 c3, m.b ++ b, m.sure⟩).b.length = m.b.length + b.length := by show (m.b ++ b).length = _; simp
          rw [e1, hfb]
          omega
        have h5 := HHD.fput (m' := ⟨m.name, m.blk, .slice A3 L3 c3, m.b ++ b, m.sure⟩) (d' := d.upd name (fun f : Fil => { f with b := f.b ++ b })) 0 (.slice A3 L3 c3) rfl rfl rfl hbt rfl rfl hfs
        have hw68 : IntKind.i64.wrap ((D0 : Int) + (b.length : Int)) = (D0 : Int) + (b.length : Int) := by rw [IntWalk.i64_in _ (by omega)]
        have h6 := h5.put (u' := ((d.upd name (fun f : Fil => { f with b := f.b ++ b })).used : Int)) (d' := d.upd name (fun f : Fil => { f with b := f.b ++ b })) (pl' := pl) 3 (.int .i64 ((D0 : Int) + (b.length : Int))) (by rw [hu]; rfl) rfl h5.plan
        have hkb := (((Kb.of_ext (fp := dall bd bm pl d ms) (HX1.out.trans (hext.trans hex1)))).trans (Kb.set (dall bd bm pl d ms) W1 m.blk 0 (.slice A3 L3 c3) (.inl (.inr (.inr (.inr ⟨m, HMM.out, rfl⟩))))) (fun _ h => .inl h)).trans (Kb.set (dall bd bm pl d ms) _ bd 3 (.int .i64 ((D0 : Int) + (b.length : Int))) (.inl (.inl rfl))) (fun _ h => .inl h)
        have hds : DkS z w1 _ bd bm pl d ms pl (d.upd name (fun f : Fil => { f with b := f.b ++ b })) (l ++ (⟨m.name, m.blk, .slice A3 L3 c3, m.b ++ b, m.sure⟩ : FilM) :: r) := ⟨h6, hkb, fun k hk => by
          rcases hk with (rfl | rfl | ⟨hp, rfl⟩ | ⟨x, hx, rfl⟩) | ⟨x, hx, hj⟩
          · exact .inl (.inl (.inl rfl))
          · exact .inl (.inl (.inr (.inl rfl)))
          · exact .inl (.inl (.inr (.inr (.inl ⟨hp, rfl⟩))))
          · refine .inl (.inl (.inr (.inr (.inr ?_))))
            rcases List.mem_append.1 hx with hx | hx
            · exact ⟨x, by rw [hlr]; simp [hx], rfl⟩
            · rcases List.mem_cons.1 hx with rfl | hx
              · exact ⟨m, HMM.out, rfl⟩
              · exact ⟨x, by rw [hlr]; simp [hx], rfl⟩
          · rcases List.mem_append.1 hx with hx | hx
            · exact .inl (.inr ⟨x, by rw [hlr]; simp [hx], hj⟩)
            · rcases List.mem_cons.1 hx with rfl | hx
              · rcases hown k hj with h1 | h1
                · refine .inl (.inr ⟨m, HMM.out, ?_⟩)
                  rw [HM.out, ← cutV_own A m.b.length c m.b.length]
                  exact h1
                · exact .inr (Nat.le_trans (Nat.le_trans HX1.out.size hext.size) h1)
              · exact .inl (.inr ⟨x, by rw [hlr]; simp [hx], hj⟩)⟩
        have hok1 : (d.upd name (fun f : Fil => { f with b := f.b ++ b })).Ok := by
          have hfm : m.fil ∈ d.fs := by rw [← HH.out.fs]; exact List.mem_map.2 ⟨m, HMM.out, rfl⟩
          refine HOK.out.upd (fun _ => rfl) (fun f hf hfn => ?_) (fun f hf hfn => ?_) (by have := HDD.out; have h := hu; omega)
          · have := HOK.out.sure f hf
            show f.sure ≤ (f.b ++ b).length
            simp
            omega
          · have e := mem_uniq HOK.out hf hfm (hfn.trans hn.symm)
            subst e
            show (m.fil.b ++ b).length ≤ _
            simp [hfb]
            omega
        have HDS := Lib.hid hds
        have HC := Lib.hid (count_Append h6 hok1 ⟨HSM.out.cnt, HSM.out.plan⟩ #[] (fun w' => ∃ ms', DkS z _ w' bd bm pl (d.upd name (fun f : Fil => { f with b := f.b ++ b })) (l ++ (⟨m.name, m.blk, .slice A3 L3 c3, m.b ++ b, m.sure⟩ : FilM) :: r) pl (id (d.upd name (fun f : Fil => { f with b := f.b ++ b })).tick) ms') (fun w hs => by
          refine (append1_any w).mono ?_
          rintro e w' ⟨he, rfl⟩
          exact ⟨he, _, hs⟩))
        have hbd5 := h5.str.blk
        have k3 : (W1.setCell ⟨m.blk, 0, none⟩ (.slice A3 L3 c3)).cell? ⟨bd, 3, none⟩ = some (.int .i64 (D0 : Int)) := by
          rw [HDD.out]
          exact hbd5.cell (i := 3) rfl
        have t3 := hbd5.thaw 3
        have hne : bd ≠ m.blk := fun e => (HHD.files m (by simp)).1.ne HHD.str (by decide) e.symm
        have k3' : W1.cell? ⟨bd, 3, none⟩ = some (.int .i64 (D0 : Int)) := by
          rw [HDD.out]
          exact HHD.str.blk.cell (i := 3) rfl
        have t3' := HHD.str.blk.thaw 3
        clear hds h5 h6 hkb hok1 hu hfs hp HHD hbd5 hbt hown hrun bfw0 bfw1 q1 q2
        go_wp2_with fail
        refine HC.out.mono ?_
        intro e w' hcnt
        have hp := DkPost.of_count HDS.out id hcnt
        obtain ⟨pl', ms', rfl, hfin⟩ := hp
        have HFIN := Lib.hid hfin
        clear hfin hcnt
        go_wp2_with fail
        go_ret
        exact ⟨pl', ms', rfl, HFIN.out⟩
end Go.Proofs.Ytkejoiknnigllaa
