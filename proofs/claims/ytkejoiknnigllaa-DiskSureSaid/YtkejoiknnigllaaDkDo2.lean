/-
  Layer 15: what is done where the power does not fail: the inner functions of Make and Drop.
-/
import Derived.Test.YtkejoiknnigllaaDkIns
namespace Go.Proofs.Ytkejoiknnigllaa
open Go Go.RowKit Mono
open Go.Maps (Keyed has size)
set_option linter.unusedVariables false
set_option linter.unusedSimpArgs false
set_option maxRecDepth 100000

theorem map_ne_of {W : World} {bm p : Nat} {T : TypeId} {L : List Value} {ms : List FilM} (h : ∃ n D, W.ownsMap Try.prog 9 ptrR bm n D ∧ MapIs D ms) (hb : BlkT W p T L) (e : p = bm) : False := by
  obtain ⟨n, D, ho, _⟩ := h
  exact map_ne hb ho e
theorem make1_any {z bd bm pl : Nat} {W : World} {d : Dk} {ms : List FilM} (h : DkM z W bd bm pl d ms) (hz : z ≤ W.heap.size) {name : List UInt8} (hl : name.length ≤ maxLen) (hno : findM name ms = none) (hfew : ms.length < maxLen) {p0 p1 : Nat}
    (h0 : BlkT W p0 26 [.pointer (some ⟨bd, 0, none⟩)]) (h1 : BlkT W p1 9 [strV name]) :
    Calls Try.prog 43 #[.pointer (some ⟨p0, 0, none⟩), .pointer (some ⟨p1, 0, none⟩)] W fun e w' => e = .returned (.tuple #[]) ∧ ∃ ms', DkS z W w' bd bm pl d ms pl { d with fs := insF name d.fs } ms' := by
  have HH := Lib.hid h
  clear h
  go_enter Try.func43, Try.ntmps43
  go_wp2_with fail
  refine wp_region_turns 2 [(0, 1, false), (0, 1, false), (0, 1, false), (0, 1, false), (0, 1, false), (0, 0, false), (0, 0, true), (1, 1, true)] (fun w0 c => match c with | 0 => w0 | 1 => w0.alloc (.cells #[.slice none 0 0, .int .i64 0] 72) | _ => resW ((Instr.mapUpdate 58 (.map (some bm)) (strV name) (.pointer (some ⟨w0.heap.size, 0, none⟩))).run Try.prog (w0.alloc (.cells #[.slice none 0 0, .int .i64 0] 72))) (w0.alloc (.cells #[.slice none 0 0, .int .i64 0] 72))) (by kernel_rfl) (by kernel_rfl) (by kernel_rfl) (fun _ => rfl) ?_
  intro w0 ws hext hsz hws
  have q0 : ws 0 = w0 := hws 0
  have q1 : ws 1 = w0.alloc (.cells #[.slice none 0 0, .int .i64 0] 72) := hws 1
  have q2 : ws 2 = resW ((Instr.mapUpdate 58 (.map (some bm)) (strV name) (.pointer (some ⟨w0.heap.size, 0, none⟩))).run Try.prog (w0.alloc (.cells #[.slice none 0 0, .int .i64 0] 72))) (w0.alloc (.cells #[.slice none 0 0, .int .i64 0] 72)) := hws 2
  clear hws
  have b0w0 := h0.blk.ext hext
  have b1w0 := h1.blk.ext hext
  have bzw0 := (HH.out.ext hext).str.blk
  have b0w1 := b0w0.ext (ext_alloc _ (.cells #[.slice none 0 0, .int .i64 0] 72))
  have b1w1 := b1w0.ext (ext_alloc _ (.cells #[.slice none 0 0, .int .i64 0] 72))
  have bzw1 := bzw0.ext (ext_alloc _ (.cells #[.slice none 0 0, .int .i64 0] 72))
  obtain ⟨W2, hrun, hS⟩ := DkM.insert (HH.out.ext hext) (by rw [hsz]; exact hz) hl hno hfew
  rw [hrun] at q2
  simp only [resW] at q2
  refine detT_read rfl (.pointer (some ⟨bd, 0, none⟩)) (fun _ _ => rfl) ?_ ?_
  · rintro ρ ⟨h0, -⟩ c hc1 hc2
    have e0 : ρ 0 = .pointer (some ⟨p0, 0, none⟩) := h0
    have hc : c = 0 ∨ c = 1 := by have h1 : 0 ≤ c := hc1; have h2 : c ≤ 1 := hc2; omega
    rcases hc with rfl | rfl
    · rw [q0]
      have c := b0w0.cell (i := 0) rfl
      simp [execOp, evR, e0, c, go_sem]
    · rw [q1]
      have c := b0w1.cell (i := 0) rfl
      simp [execOp, evR, e0, c, go_sem]
  refine detT_pure rfl (.pointer (some ⟨bd, 0, none⟩)) (fun _ _ => rfl) ?_ ?_
  · rintro ρ ⟨h2, -⟩ w'
    have e2 : ρ 2 = .pointer (some ⟨bd, 0, none⟩) := h2
    simp [execOp, evR, e2, go_sem]
  refine detT_pure rfl (.pointer (some ⟨bd, 1, none⟩)) (fun _ _ => rfl) ?_ ?_
  · rintro ρ ⟨h3, -⟩ w'
    have e3 : ρ 3 = .pointer (some ⟨bd, 0, none⟩) := h3
    simp [execOp, evR, e3, go_sem]
  refine detT_read rfl (.map (some bm)) (fun _ _ => rfl) ?_ ?_
  · rintro ρ ⟨h4, -⟩ c hc1 hc2
    have e4 : ρ 4 = .pointer (some ⟨bd, 1, none⟩) := h4
    have hc : c = 0 ∨ c = 1 := by have h1 : 0 ≤ c := hc1; have h2 : c ≤ 1 := hc2; omega
    rcases hc with rfl | rfl
    · rw [q0]
      have c := bzw0.cell (i := 1) rfl
      simp [execOp, evR, e4, c, go_sem]
    · rw [q1]
      have c := bzw1.cell (i := 1) rfl
      simp [execOp, evR, e4, c, go_sem]
  refine detT_read rfl (strV name) (fun _ _ => rfl) ?_ ?_
  · rintro ρ ⟨h1, -⟩ c hc1 hc2
    have e1 : ρ 1 = .pointer (some ⟨p1, 0, none⟩) := h1
    have hc : c = 0 ∨ c = 1 := by have h1 : 0 ≤ c := hc1; have h2 : c ≤ 1 := hc2; omega
    rcases hc with rfl | rfl
    · rw [q0]
      have c := b1w0.cell (i := 0) rfl
      simp [execOp, evR, e1, c, go_sem]
    · rw [q1]
      have c := b1w1.cell (i := 0) rfl
      simp [execOp, evR, e1, c, go_sem]
  refine detT_pure rfl (.agg #[.slice none 0 0, .int .i64 0]) (fun _ _ => rfl) ?_ ?_
  · rintro ρ - w'
    simp [execOp, evR, go_sem]
  refine detT_turn rfl (.pointer (some ⟨w0.heap.size, 0, none⟩)) (fun _ _ => rfl) ?_ ?_
  · rintro ρ ⟨h7, -⟩
    have e7 : ρ 7 = .agg #[.slice none 0 0, .int .i64 0] := h7
    show (execOp (evR ρ) _).run Try.prog (ws 0) = .ok (.value _) (ws 1)
    rw [q0, q1]
    simp [execOp, evR, e7, go_sem]
  refine detT_store rfl (fun _ _ => rfl) ?_ ?_
  · rintro ρ ⟨h5, h6, h8, -⟩
    have e5 : ρ 5 = .map (some bm) := h5
    have e6 : ρ 6 = strV name := h6
    have e8 : ρ 8 = .pointer (some ⟨w0.heap.size, 0, none⟩) := h8
    show (execOp (evR ρ) _).run Try.prog (ws 1) = .ok .skip (ws 2)
    rw [q1, q2]
    simp [execOp, evR, e5, e6, e8, hrun, go_sem]
  simp only [DetT, applyV, Act.put, List.setIfInBounds_toArray, List.set_cons_zero, List.set_cons_succ]
  rw [q2]
  have HX := Lib.hid ((DkS.ext HH.out hext).trans hS)
  clear hS hrun
  go_wp2_with fail
  go_end0
  exact ⟨rfl, _, HX.out⟩

theorem drop1_any {z bd bm pl : Nat} {W : World} {d : Dk} {ms : List FilM} (h : DkM z W bd bm pl d ms) (hok : d.Ok) {name : List UInt8} (hl : name.length ≤ maxLen) {m : FilM} (hf : findM name ms = some m) {p0 p1 p2 : Nat}
    (h0 : BlkT W p0 26 [.pointer (some ⟨bd, 0, none⟩)]) (h1 : BlkT W p1 67 [.pointer (some ⟨m.blk, 0, none⟩)]) (h2 : BlkT W p2 9 [strV name]) :
    Calls Try.prog 42 #[.pointer (some ⟨p0, 0, none⟩), .pointer (some ⟨p1, 0, none⟩), .pointer (some ⟨p2, 0, none⟩)] W fun e w' => e = .returned (.tuple #[]) ∧ ∃ ms', DkS z W w' bd bm pl d ms pl { d with fs := d.fs.filter fun f => !(f.name == name) } ms' := by
  obtain ⟨hm, hn⟩ := findM_mem hf
  obtain ⟨l, r, rfl⟩ := List.append_of_mem hm
  have hp := names_apart h hok
  have bf := (h.files m hm).1.blk
  obtain ⟨A, c, hmv, g1, g2, g3, g4⟩ := (h.bytes m hm).bs.open_
  rw [hmv] at bf
  have HH := Lib.hid h
  have HP := Lib.hid hp
  have HM := Lib.hid hmv
  have hlen : m.b.length ≤ 1048576 := hok.len m.fil (by rw [← h.fs]; exact List.mem_map.2 ⟨m, hm, rfl⟩)
  have hmem := hm
  have b0 := h0.blk
  have b1 := h1.blk
  have b2 := h2.blk
  have bz := h.str.blk
  have HB0 := Lib.hid h0
  have HB2 := Lib.hid h2
  have HMP := Lib.hid h.map
  have hused : d.used ≤ 1073741824 := Nat.le_trans hok.used hok.room
  have hlu : m.b.length ≤ d.used := by
    show _ ≤ usedF d.fs
    rw [← h.fs, List.map_append, List.map_cons, used_split]
    show m.b.length ≤ _ + m.b.length + _
    omega
  obtain ⟨D0, hD0⟩ : ∃ D0, D0 = d.used := ⟨_, rfl⟩
  rw [← hD0] at hused hlu
  have HDD := Lib.hid hD0
  unfold dstrC at bz
  rw [← hD0] at bz
  obtain ⟨U, hU⟩ : ∃ U : Int, U = (D0 : Int) - (m.b.length : Int) := ⟨_, rfl⟩
  have HU := Lib.hid hU
  clear h hp hmv hm h0 h1 h2 hD0 hU
  go_enter Try.func42, Try.ntmps42
  go_wp2_with fail
  refine wp_region_turns 1 [(0, 0, false), (0, 0, false), (0, 0, false), (0, 0, false), (0, 0, false), (0, 0, false), (0, 0, false), (0, 0, false), (0, 0, false), (0, 0, false), (0, 1, false), (0, 0, false), (0, 0, true)] (fun w0 c => match c with | 0 => w0 | _ => w0.setCell ⟨bd, 3, none⟩ (.int .i64 U)) (by kernel_rfl) (by kernel_rfl) (by kernel_rfl) (fun _ => rfl) ?_
  intro w0 ws hext hsz hws
  have q0 : ws 0 = w0 := hws 0
  have q1 : ws 1 = w0.setCell ⟨bd, 3, none⟩ (.int .i64 U) := hws 1
  clear hws
  have HD := HH.out.ext hext
  have b0w0 := b0.ext hext
  have b1w0 := b1.ext hext
  have bfw0 := bf.ext hext
  have bzw0 := bz.ext hext
  refine detT_read rfl (.pointer (some ⟨bd, 0, none⟩)) (fun _ _ => rfl) ?_ ?_
  · rintro ρ ⟨h0, -⟩ c hc1 hc2
    have e0 : ρ 0 = .pointer (some ⟨p0, 0, none⟩) := h0
    have hc : c = 0 := by have h1 : 0 ≤ c := hc1; have h2 : c ≤ 0 := hc2; omega
    rcases hc with rfl
    · rw [q0]
      have c := b0w0.cell (i := 0) rfl
      simp [execOp, evR, e0, c, go_sem]
  refine detT_pure rfl (.pointer (some ⟨bd, 0, none⟩)) (fun _ _ => rfl) ?_ ?_
  · rintro ρ ⟨h3, -⟩ w'
    have e3 : ρ 3 = .pointer (some ⟨bd, 0, none⟩) := h3
    simp [execOp, evR, e3, go_sem]
  refine detT_pure rfl (.pointer (some ⟨bd, 3, none⟩)) (fun _ _ => rfl) ?_ ?_
  · rintro ρ ⟨h4, -⟩ w'
    have e4 : ρ 4 = .pointer (some ⟨bd, 0, none⟩) := h4
    simp [execOp, evR, e4, go_sem]
  refine detT_read rfl (.int .i64 (D0 : Int)) (fun _ _ => rfl) ?_ ?_
  · rintro ρ ⟨h5, -⟩ c hc1 hc2
    have e5 : ρ 5 = .pointer (some ⟨bd, 3, none⟩) := h5
    have hc : c = 0 := by have h1 : 0 ≤ c := hc1; have h2 : c ≤ 0 := hc2; omega
    rcases hc with rfl
    · rw [q0]
      have c := bzw0.cell (i := 3) rfl
      simp [execOp, evR, e5, c, go_sem]
  refine detT_read rfl (.pointer (some ⟨m.blk, 0, none⟩)) (fun _ _ => rfl) ?_ ?_
  · rintro ρ ⟨h1, -⟩ c hc1 hc2
    have e1 : ρ 1 = .pointer (some ⟨p1, 0, none⟩) := h1
    have hc : c = 0 := by have h1 : 0 ≤ c := hc1; have h2 : c ≤ 0 := hc2; omega
    rcases hc with rfl
    · rw [q0]
      have c := b1w0.cell (i := 0) rfl
      simp [execOp, evR, e1, c, go_sem]
  refine detT_pure rfl (.pointer (some ⟨m.blk, 0, none⟩)) (fun _ _ => rfl) ?_ ?_
  · rintro ρ ⟨h7, -⟩ w'
    have e7 : ρ 7 = .pointer (some ⟨m.blk, 0, none⟩) := h7
    simp [execOp, evR, e7, go_sem]
  refine detT_pure rfl (.pointer (some ⟨m.blk, 0, none⟩)) (fun _ _ => rfl) ?_ ?_
  · rintro ρ ⟨h8, -⟩ w'
    have e8 : ρ 8 = .pointer (some ⟨m.blk, 0, none⟩) := h8
    simp [execOp, evR, e8, go_sem]
  refine detT_read rfl (.slice A m.b.length c) (fun _ _ => rfl) ?_ ?_
  · rintro ρ ⟨h9, -⟩ c hc1 hc2
    have e9 : ρ 9 = .pointer (some ⟨m.blk, 0, none⟩) := h9
    have hc : c = 0 := by have h1 : 0 ≤ c := hc1; have h2 : c ≤ 0 := hc2; omega
    rcases hc with rfl
    · rw [q0]
      have c := bfw0.cell (i := 0) rfl
      simp [execOp, evR, e9, c, go_sem]
  refine detT_pure rfl (.int .i64 ((m.b.length : Nat) : Int)) (fun _ _ => rfl) ?_ ?_
  · rintro ρ ⟨h10, -⟩ w'
    have e10 : ρ 10 = .slice A m.b.length c := h10
    simp [execOp, evR, e10, go_sem]
  refine detT_pure rfl (.int .i64 U) (fun _ _ => rfl) ?_ ?_
  · rintro ρ ⟨h6, h11, -⟩ w'
    have e6 : ρ 6 = .int .i64 (D0 : Int) := h6
    have e11 : ρ 11 = .int .i64 ((m.b.length : Nat) : Int) := h11
    have hw : IntKind.i64.wrap ((D0 : Int) - (m.b.length : Int)) = U := by rw [IntWalk.i64_in _ (by omega)]; exact HU.out.symm
    simp [execOp, evR, e6, e11, hw, go_sem]
  refine detT_pure rfl (.pointer (some ⟨bd, 0, none⟩)) (fun _ _ => rfl) ?_ ?_
  · rintro ρ ⟨h3, -⟩ w'
    have e3 : ρ 3 = .pointer (some ⟨bd, 0, none⟩) := h3
    simp [execOp, evR, e3, go_sem]
  refine detT_pure rfl (.pointer (some ⟨bd, 3, none⟩)) (fun _ _ => rfl) ?_ ?_
  · rintro ρ ⟨h13, -⟩ w'
    have e13 : ρ 13 = .pointer (some ⟨bd, 0, none⟩) := h13
    simp [execOp, evR, e13, go_sem]
  refine detT_store rfl (fun _ _ => rfl) ?_ ?_
  · rintro ρ ⟨h14, h12, -⟩
    have e14 : ρ 14 = .pointer (some ⟨bd, 3, none⟩) := h14
    have e12 : ρ 12 = .int .i64 U := h12
    show (execOp (evR ρ) _).run Try.prog (ws 0) = .ok .skip (ws 1)
    rw [q0, q1]
    have c := bzw0.cell (i := 3) rfl
    have t := bzw0.thaw 3
    simp [execOp, evR, e14, e12, c, t, go_sem]
  simp only [DetT, applyV, Act.put, List.setIfInBounds_toArray, List.set_cons_zero, List.set_cons_succ]
  rw [q1]
  have h4 := HD.put (u' := U) (d' := d) (pl' := pl) 3 (.int .i64 U) rfl rfl HD.plan
  have hk4 := (Kb.of_ext (fp := dall bd bm pl d (l ++ m :: r)) hext).trans (Kb.set (dall bd bm pl d (l ++ m :: r)) _ bd 3 (.int .i64 U) (.inl (.inl rfl))) (fun _ h => .inl h)
  have c0 := (((HB0.out.ext hext).other (a := ⟨bd, 3, none⟩) (.int .i64 U) ((HB0.out.ext hext).ne HD.str (by decide))).blk)
  have c2 := (((HB2.out.ext hext).other (a := ⟨bd, 3, none⟩) (.int .i64 U) ((HB2.out.ext hext).ne HD.str (by decide))).blk)
  rw [← hn] at c2
  have HB0X := Lib.hid ((HB0.out.ext hext).other (a := ⟨bd, 3, none⟩) (.int .i64 U) ((HB0.out.ext hext).ne HD.str (by decide)))
  have HB0K := Lib.hid (fun (Wa Wb : World) (hkb : Kb (fun k => k = bm) Wa Wb) (hb : BlkT Wa p0 26 [.pointer (some ⟨bd, 0, none⟩)]) => (hb.kb hkb (fun e => map_ne_of HMP.out (HB0.out) e)).blk)
  have H4 := Lib.hid h4
  have HK4 := Lib.hid hk4
  clear h4 hk4 b0 b1 b2 bf bz b0w0 b1w0 bfw0 bzw0 HD q0 q1 ws
  go_wp2_with fail
  generalize w0.setCell ⟨bd, 3, none⟩ (.int .i64 U) = W4 at *
  refine wp_region_turns 1 [(0, 1, false), (0, 1, false), (0, 1, false), (0, 0, false), (0, 0, false), (0, 0, true)] (fun w0 c => match c with | 0 => w0 | _ => resW ((Builtin.delete_ #[58, 9] 0 #[.map (some bm), strV m.name]).run Try.prog w0) w0) (by kernel_rfl) (by kernel_rfl) (by kernel_rfl) (fun _ => rfl) ?_
  intro w0 ws hext hsz hws
  have q0 : ws 0 = w0 := hws 0
  have q1 : ws 1 = resW ((Builtin.delete_ #[58, 9] 0 #[.map (some bm), strV m.name]).run Try.prog w0) w0 := hws 1
  clear hws
  have b0w0 := c0.ext hext
  have b2w0 := c2.ext hext
  have bzw0 := (H4.out.ext hext).str.blk
  obtain ⟨W2, hrun, hkb, hS⟩ := (H4.out.ext hext).delete HP.out hmem (by rw [hn]; exact hl) 0
  rw [hrun] at q1
  simp only [resW] at q1
  have b0w1 := HB0K.out _ _ hkb (HB0X.out.ext hext)
  refine detT_read rfl (.pointer (some ⟨bd, 0, none⟩)) (fun _ _ => rfl) ?_ ?_
  · rintro ρ ⟨h0, -⟩ c hc1 hc2
    have e0 : ρ 0 = .pointer (some ⟨p0, 0, none⟩) := h0
    have hc : c = 0 ∨ c = 1 := by have h1 : 0 ≤ c := hc1; have h2 : c ≤ 1 := hc2; omega
    rcases hc with rfl | rfl
    · rw [q0]
      have c := b0w0.cell (i := 0) rfl
      simp [execOp, evR, e0, c, go_sem]
    · rw [q1]
      have c := b0w1.cell (i := 0) rfl
      simp [execOp, evR, e0, c, go_sem]
  refine detT_pure rfl (.pointer (some ⟨bd, 0, none⟩)) (fun _ _ => rfl) ?_ ?_
  · rintro ρ ⟨h15, -⟩ w'
    have e15 : ρ 15 = .pointer (some ⟨bd, 0, none⟩) := h15
    simp [execOp, evR, e15, go_sem]
  refine detT_pure rfl (.pointer (some ⟨bd, 1, none⟩)) (fun _ _ => rfl) ?_ ?_
  · rintro ρ ⟨h16, -⟩ w'
    have e16 : ρ 16 = .pointer (some ⟨bd, 0, none⟩) := h16
    simp [execOp, evR, e16, go_sem]
  refine detT_read rfl (.map (some bm)) (fun _ _ => rfl) ?_ ?_
  · rintro ρ ⟨h17, -⟩ c hc1 hc2
    have e17 : ρ 17 = .pointer (some ⟨bd, 1, none⟩) := h17
    have hc : c = 0 := by have h1 : 0 ≤ c := hc1; have h2 : c ≤ 0 := hc2; omega
    rcases hc with rfl
    · rw [q0]
      have c := bzw0.cell (i := 1) rfl
      simp [execOp, evR, e17, c, go_sem]
  refine detT_read rfl (strV m.name) (fun _ _ => rfl) ?_ ?_
  · rintro ρ ⟨h2, -⟩ c hc1 hc2
    have e2 : ρ 2 = .pointer (some ⟨p2, 0, none⟩) := h2
    have hc : c = 0 := by have h1 : 0 ≤ c := hc1; have h2 : c ≤ 0 := hc2; omega
    rcases hc with rfl
    · rw [q0]
      have c := b2w0.cell (i := 0) rfl
      simp [execOp, evR, e2, c, go_sem]
  refine detT_turn rfl (.tuple #[]) (fun _ _ => rfl) ?_ ?_
  · rintro ρ ⟨h18, h19, -⟩
    have e18 : ρ 18 = .map (some bm) := h18
    have e19 : ρ 19 = strV m.name := h19
    show (execOp (evR ρ) _).run Try.prog (ws 0) = .ok (.value _) (ws 1)
    rw [q0, q1]
    simp [execOp, resolve, invoke, builtin, evR, e18, e19, hrun, go_sem]
  simp only [DetT, applyV, Act.put, List.setIfInBounds_toArray, List.set_cons_zero, List.set_cons_succ]
  rw [q1]
  have hfs : (U : Int) = (({ d with fs := d.fs.filter fun f => !(f.name == m.name) } : Dk).used : Int) := by
    rw [HU.out, HDD.out]
    show (usedF d.fs : Int) - _ = (usedF _ : Int)
    rw [← HH.out.fs]
    have := used_filter (name := m.name) rfl HP.out
    dsimp only
    omega
  rw [hfs] at hS
  have HX := Lib.hid (⟨hS, (HK4.out.trans (Kb.of_ext (fp := dall bd bm pl d (l ++ m :: r)) hext) (fun _ h => .inl h)).trans (hkb.mono (fp' := dall bd bm pl d (l ++ m :: r)) (fun b hb => by rw [hb]; exact .inl (.inr (.inl rfl)))) (fun _ h => .inl h),
    fun k hk => .inl (dall_same (fun h => h) (fun x hx => ⟨x, (List.mem_filter.1 hx).1, rfl, fun _ h => h⟩) k hk)⟩ : DkS z W W2 bd bm pl d (l ++ m :: r) pl _ _)
  clear hS hrun hkb hfs
  go_wp2_with fail
  go_end0
  rw [← hn]
  exact ⟨rfl, _, HX.out⟩
end Go.Proofs.Ytkejoiknnigllaa
