/-
  Layer 15: Fail, Sync, Cut of the document's disk.
-/
import Derived.Test.YtkejoiknnigllaaRkLose
namespace Go.Proofs.Ytkejoiknnigllaa
open Go Go.RowKit Mono
set_option linter.unusedVariables false
set_option linter.unusedSimpArgs false
set_option maxRecDepth 100000
set_option maxHeartbeats 1000000

theorem rfail_any {z br : Nat} {W : World} {s : RSt} {r : Dk} (h : RkM z W br s r) (hok : r.Ok) (hsm : r.Small) (hz : z ≤ W.heap.size) (keep : Int) :
    Calls Try.prog 12 #[.pointer (some ⟨br, 0, none⟩), .int .i64 keep] W (RkPost z W br s r (dFail r keep)) := by
  have HH := Lib.hid h
  have k2 := h.str.blk.cell (i := 2) rfl
  have HL := Lib.hid (rlose_any h hok hsm hz keep)
  cases hon : r.on
  · have hres : dFail r keep = (r, 150) := by unfold dFail; rw [if_pos hon]
    rw [hres]
    rw [hon] at k2
    simp only [Bool.not_false] at k2
    clear h hon
    go_enter Try.func12, Try.ntmps12
    go_wp2_with fail
    go_ret
    exact RkPost.same HH.out (Ext.refl _) 150
  · have hres : dFail r keep = (r.lose keep, 0) := by unfold dFail; rw [if_neg (by simp [hon])]
    rw [hres]
    rw [hon] at k2
    simp only [Bool.not_true] at k2
    clear h hon
    go_enter Try.func12, Try.ntmps12
    go_wp2_with fail
    refine HL.out.mono ?_
    rintro e w1 ⟨rfl, s', hs⟩
    have HS := Lib.hid hs
    clear hs
    go_wp2_with fail
    go_ret
    exact ⟨s', rfl, HS.out⟩
theorem RkPost.lost {z br : Nat} {W W' : World} {s s' : RSt} {r r1 : Dk} {k : Int} {act : Dk → Dk} (hd : r1.dead = some k) (h : RkS z W W' br s r s' (r1.lose k)) : RkPost z W br s r (r1.count act) (.returned (.int .i64 150)) W' := by
  rw [Dk.count_eq, hd]
  exact ⟨s', rfl, h⟩
theorem RkPost.acted {z br : Nat} {W W' : World} {s s' : RSt} {r r1 : Dk} {act : Dk → Dk} (hd : r1.dead = none) (h : RkS z W W' br s r s' (act r1.tick)) : RkPost z W br s r (r1.count act) (.returned (.int .i64 0)) W' := by
  rw [Dk.count_eq, hd]
  exact ⟨s', rfl, h⟩
theorem set_fil {ms : List RFil} {i : Nat} {m m' : RFil} {name : List UInt8} {g : Fil → Fil} {fs : List Fil} (hfs : ms.map RFil.fil = fs) (hm : ms[i]? = some m) (hi : findI name fs = some i) (hs : fs.Pairwise fun a b => a.name ≠ b.name) (hg : m'.fil = g m.fil) : (ms.set i m').map RFil.fil = updF name g fs := by
  have hn : m.fil.name = name := by
    unfold findI at hi
    have := (List.findIdx?_eq_some_iff_getElem.1 hi).2.1
    have he : fs[i]? = some m.fil := by rw [← hfs, List.getElem?_map, hm]; rfl
    have hlt := (List.getElem?_eq_some_iff.1 he).1
    rw [(List.getElem?_eq_some_iff.1 he).2] at this
    simpa using this
  have hl : i < ms.length := (List.getElem?_eq_some_iff.1 hm).1
  rw [List.map_set, hfs, hg]
  apply List.ext_getElem?
  intro j
  unfold updF
  rw [List.getElem?_map, List.getElem?_set]
  have he : fs[i]? = some m.fil := by rw [← hfs, List.getElem?_map, hm]; rfl
  have hil := (List.getElem?_eq_some_iff.1 he).1
  by_cases hij : i = j
  · subst hij
    rw [if_pos rfl, if_pos hil, he]
    simp [hn]
  · rw [if_neg hij]
    cases hj : fs[j]? with
    | none => rfl
    | some f =>
      have hne : ¬ (f.name == name) = true := by
        intro hfn
        have hfn : f.name = name := by simpa using hfn
        have hjl := (List.getElem?_eq_some_iff.1 hj).1
        have hje := (List.getElem?_eq_some_iff.1 hj).2
        have hie := (List.getElem?_eq_some_iff.1 he).2
        rcases Nat.lt_or_ge i j with h1 | h1
        · have := List.pairwise_iff_getElem.1 hs i j hil hjl h1
          rw [hje, hie] at this
          exact this (hn.trans hfn.symm)
        · have := List.pairwise_iff_getElem.1 hs j i hjl hil (by omega)
          rw [hje, hie] at this
          exact this (hfn.trans hn.symm)
      rw [Option.map_some, if_neg hne]
theorem Dk.Ok.apart {d : Dk} (h : d.Ok) : d.fs.Pairwise fun a b => a.name ≠ b.name := h.sorted.imp fun {a b} hab e => by rw [e, bl_irrefl] at hab; cases hab

theorem rsync_any {z br : Nat} {W : World} {s : RSt} {r : Dk} (h : RkM z W br s r) (hok : r.Ok) (hsm : r.Small) (hz : z ≤ W.heap.size) (name : List UInt8) :
    Calls Try.prog 50 #[.pointer (some ⟨br, 0, none⟩), strV name] W (RkPost z W br s r (dSync r name)) := by
  have HFI := Lib.hid (rfind_any h name)
  obtain ⟨A, cF, hv, f1, f2, f3⟩ := h.form
  have k1 := h.str.blk.cell (i := 1) rfl
  rw [hv] at k1
  have k2 := h.str.blk.cell (i := 2) rfl
  have k7 := h.str.blk.cell (i := 7) rfl
  have HH := Lib.hid h
  have HL := Lib.hid h.len
  obtain ⟨n, hn⟩ : ∃ n, n = s.ms.length := ⟨_, rfl⟩
  rw [← hn] at k1 f1 f3 hv
  have HN := Lib.hid hn
  have HV := Lib.hid hv
  have HOK := Lib.hid hok
  have HSM := Lib.hid hsm
  have HC := Lib.hid (rcounted_any h hsm)
  unfold maxLen at f2
  unfold strV at HFI ⊢
  clear h hn hv hok hsm
  cases hon : r.on
  · have hres : dSync r name = (r, 150) := by unfold dSync; rw [if_pos hon]
    rw [hres]
    rw [hon] at k2
    simp only [Bool.not_false] at k2
    clear hon
    go_enter Try.func50, Try.ntmps50
    go_wp2_with fail
    go_ret
    exact RkPost.same HH.out (Ext.refl _) 150
  · rw [hon] at k2
    simp only [Bool.not_true] at k2
    have HON := Lib.hid hon
    clear hon
    cases hfi : findI name r.fs with
    | none =>
      have hfn := (findI_spec name r.fs).2 hfi
      have hres : dSync r name = (r, 152) := by unfold dSync; rw [if_neg (by simp [HON.out]), hfn]
      rw [hres]
      rw [findZ_none hfi] at HFI
      clear hfi hfn
      go_enter Try.func50, Try.ntmps50
      go_wp2_with fail
      refine HFI.out.mono ?_
      rintro e w1 ⟨rfl, rfl⟩
      go_wp2_with fail
      go_ret
      exact RkPost.same HH.out (Ext.refl _) 152
    | some i =>
      obtain ⟨f, hf1, hf2⟩ := (findI_spec name r.fs).1 i hfi
      rw [findZ_some hfi] at HFI
      have hil : i < n := by rw [HN.out, HL.out]; exact (List.getElem?_eq_some_iff.1 hf1).1
      obtain ⟨g, rfl⟩ := f3 (by omega)
      obtain ⟨m, hm⟩ : ∃ m, s.ms[i]? = some m := ⟨_, List.getElem?_eq_getElem (by rw [← HN.out]; exact hil)⟩
      have hfe : f = m.fil := by have := HH.out.fil hm; rw [hf1] at this; injection this
      subst hfe
      obtain ⟨A1, c1, hmv, j1, j2, -, -⟩ := (HH.out.bytes m (List.mem_of_getElem? hm)).bs.open_
      have hlen : m.b.length ≤ 1048576 := HOK.out.len m.fil (List.mem_of_getElem? hf1)
      have hsure : m.sure ≤ m.b.length := HOK.out.sure m.fil (List.mem_of_getElem? hf1)
      have HFIE := Lib.hid hfi
      have HMM := Lib.hid hm
      have HMV := Lib.hid hmv
      have HF1 := Lib.hid hf1
      have HF2 := Lib.hid hf2
      have HFB := Lib.hid (show m.fil.b = m.b from rfl)
      clear hfi hm hmv hf1 hf2 f3
      have hres : dSync r name = r.count fun d => d.upd name fun f => { f with sure := f.b.length } := by unfold dSync; rw [if_neg (by simp [HON.out]), HF2.out]
      rw [hres]
      cases hd : r.dead with
      | some k =>
        have HD := Lib.hid hd
        have HC1 := Lib.hid (HC.out.mono (fun e w' hx => hx.1 k hd))
        have HLO := Lib.hid (rlose_any HH.out HOK.out HSM.out hz k)
        clear hd
        go_enter Try.func50, Try.ntmps50
        go_wp2_with fail
        refine HFI.out.mono ?_
        rintro e w1 ⟨rfl, rfl⟩
        go_wp2_with fail
        refine HC1.out.mono ?_
        rintro e w1 ⟨rfl, rfl, hk⟩
        rw [hk] at k7
        clear hk
        go_wp2_with fail
        refine HLO.out.mono ?_
        rintro e w2 ⟨rfl, s', hs⟩
        have HS := Lib.hid hs
        clear hs
        go_wp2_with fail
        go_ret
        exact RkPost.lost HD.out HS.out
      | none =>
        have HD := Lib.hid hd
        have HC1 := Lib.hid (HC.out.mono (fun e w' hx => hx.2 hd))
        clear hd
        go_enter Try.func50, Try.ntmps50
        go_wp2_with fail
        refine HFI.out.mono ?_
        rintro e w1 ⟨rfl, rfl⟩
        go_wp2_with fail
        refine HC1.out.mono ?_
        rintro e w1 ⟨rfl, n', hs⟩
        have HS := Lib.hid hs
        have kk1 : w1.cell? ⟨br, 1, none⟩ = some s.v := hs.rk.str.blk.cell (i := 1) rfl
        rw [HV.out] at kk1
        clear hs
        go_wp2_with fail
        refine wp_region_turns 1 [(0, 0, false), (0, 0, false), (0, 0, false), (0, 0, false), (0, 0, false), (0, 0, false), (0, 0, false), (0, 0, false), (0, 0, false), (0, 0, false), (0, 0, false), (0, 0, false), (0, 0, false), (0, 0, false), (0, 1, false), (0, 0, false), (0, 0, true)] (fun w0 c => match c with | 0 => w0 | _ => w0.setCell ⟨g, i * 3 + 2, none⟩ (.int .i64 (m.b.length : Int))) (by kernel_rfl) (by kernel_rfl) (by kernel_rfl) (fun _ => rfl) ?_
        intro w0 ws hext hsz hws
        have q0 : ws 0 = w0 := hws 0
        have q1 : ws 1 = w0.setCell ⟨g, i * 3 + 2, none⟩ (.int .i64 (m.b.length : Int)) := hws 1
        clear hws
        have hM0 := HS.out.rk.ext hext
        have brw0 := hM0.str.blk
        simp only [rstr, HV.out] at brw0
        obtain ⟨d0, d1, d2⟩ := hM0.cells (s := { s with n := n' }) HV.out HMM.out
        rw [HMV.out] at d1
        have z2 := hM0.frozen (s := { s with n := n' }) HV.out (i * 3 + 2)
        refine detT_pure rfl (.pointer (some ⟨br, 0, none⟩)) (fun _ _ => rfl) ?_ ?_
        · rintro ρ ⟨h0, -⟩ w'
          have e0 : ρ 0 = .pointer (some ⟨br, 0, none⟩) := h0
          simp [execOp, evR, e0, go_sem]
        refine detT_pure rfl (.pointer (some ⟨br, 0, none⟩)) (fun _ _ => rfl) ?_ ?_
        · rintro ρ ⟨h24, -⟩ w'
          have e24 : ρ 24 = .pointer (some ⟨br, 0, none⟩) := h24
          simp [execOp, evR, e24, go_sem]
        refine detT_pure rfl (.pointer (some ⟨br, 1, none⟩)) (fun _ _ => rfl) ?_ ?_
        · rintro ρ ⟨h25, -⟩ w'
          have e25 : ρ 25 = .pointer (some ⟨br, 0, none⟩) := h25
          simp [execOp, evR, e25, go_sem]
        refine detT_read rfl (.slice (some ⟨g, 0, none⟩) n cF) (fun _ _ => rfl) ?_ ?_
        · rintro ρ ⟨h26, -⟩ c hc1 hc2
          have e26 : ρ 26 = .pointer (some ⟨br, 1, none⟩) := h26
          have hc : c = 0 := by have h1 : 0 ≤ c := hc1; have h2 : c ≤ 0 := hc2; omega
          rcases hc with rfl
          · rw [q0]
            have c := brw0.cell (i := 1) rfl
            simp [execOp, evR, e26, c, go_sem]
        refine detT_pure rfl (.int .i64 (i : Int)) (fun _ _ => rfl) ?_ ?_
        · rintro ρ ⟨h5, -⟩ w'
          have e5 : ρ 5 = .int .i64 (i : Int) := h5
          simp [execOp, evR, e5, go_sem]
        refine detT_pure rfl (.pointer (some ⟨br, 0, none⟩)) (fun _ _ => rfl) ?_ ?_
        · rintro ρ ⟨h0, -⟩ w'
          have e0 : ρ 0 = .pointer (some ⟨br, 0, none⟩) := h0
          simp [execOp, evR, e0, go_sem]
        refine detT_pure rfl (.pointer (some ⟨br, 0, none⟩)) (fun _ _ => rfl) ?_ ?_
        · rintro ρ ⟨h29, -⟩ w'
          have e29 : ρ 29 = .pointer (some ⟨br, 0, none⟩) := h29
          simp [execOp, evR, e29, go_sem]
        refine detT_pure rfl (.pointer (some ⟨br, 1, none⟩)) (fun _ _ => rfl) ?_ ?_
        · rintro ρ ⟨h30, -⟩ w'
          have e30 : ρ 30 = .pointer (some ⟨br, 0, none⟩) := h30
          simp [execOp, evR, e30, go_sem]
        refine detT_read rfl (.slice (some ⟨g, 0, none⟩) n cF) (fun _ _ => rfl) ?_ ?_
        · rintro ρ ⟨h31, -⟩ c hc1 hc2
          have e31 : ρ 31 = .pointer (some ⟨br, 1, none⟩) := h31
          have hc : c = 0 := by have h1 : 0 ≤ c := hc1; have h2 : c ≤ 0 := hc2; omega
          rcases hc with rfl
          · rw [q0]
            have c := brw0.cell (i := 1) rfl
            simp [execOp, evR, e31, c, go_sem]
        refine detT_pure rfl (.int .i64 (i : Int)) (fun _ _ => rfl) ?_ ?_
        · rintro ρ ⟨h5, -⟩ w'
          have e5 : ρ 5 = .int .i64 (i : Int) := h5
          simp [execOp, evR, e5, go_sem]
        refine detT_pure rfl (.pointer (some ⟨g, i * 3, none⟩)) (fun _ _ => rfl) ?_ ?_
        · rintro ρ ⟨h32, h33, -⟩ w'
          have e32 : ρ 32 = .slice (some ⟨g, 0, none⟩) n cF := h32
          have e33 : ρ 33 = .int .i64 (i : Int) := h33
          exact index_at3 rfl e32 e33 (by omega)
        refine detT_pure rfl (.pointer (some ⟨g, i * 3 + 1, none⟩)) (fun _ _ => rfl) ?_ ?_
        · rintro ρ ⟨h34, -⟩ w'
          have e34 : ρ 34 = .pointer (some ⟨g, i * 3, none⟩) := h34
          simp [execOp, evR, e34, go_sem]
        refine detT_read rfl (.slice A1 m.b.length c1) (fun _ _ => rfl) ?_ ?_
        · rintro ρ ⟨h35, -⟩ c hc1 hc2
          have e35 : ρ 35 = .pointer (some ⟨g, i * 3 + 1, none⟩) := h35
          have hc : c = 0 := by have h1 : 0 ≤ c := hc1; have h2 : c ≤ 0 := hc2; omega
          rcases hc with rfl
          · rw [q0]
            simp [execOp, evR, e35, d1, go_sem]
        refine detT_pure rfl (.int .i64 (m.b.length : Int)) (fun _ _ => rfl) ?_ ?_
        · rintro ρ ⟨h36, -⟩ w'
          have e36 : ρ 36 = .slice A1 m.b.length c1 := h36
          simp [execOp, evR, e36, go_sem]
        refine detT_pure rfl (.pointer (some ⟨g, i * 3, none⟩)) (fun _ _ => rfl) ?_ ?_
        · rintro ρ ⟨h27, h28, -⟩ w'
          have e27 : ρ 27 = .slice (some ⟨g, 0, none⟩) n cF := h27
          have e28 : ρ 28 = .int .i64 (i : Int) := h28
          exact index_at3 rfl e27 e28 (by omega)
        refine detT_pure rfl (.pointer (some ⟨g, i * 3 + 2, none⟩)) (fun _ _ => rfl) ?_ ?_
        · rintro ρ ⟨h38, -⟩ w'
          have e38 : ρ 38 = .pointer (some ⟨g, i * 3, none⟩) := h38
          simp [execOp, evR, e38, go_sem]
        refine detT_store rfl (fun _ _ => rfl) ?_ ?_
        · rintro ρ ⟨h39, h37, -⟩
          have e39 : ρ 39 = .pointer (some ⟨g, i * 3 + 2, none⟩) := h39
          have e37 : ρ 37 = .int .i64 (m.b.length : Int) := h37
          show (execOp (evR ρ) _).run Try.prog (ws 0) = .ok .skip (ws 1)
          rw [q0, q1]
          simp [execOp, evR, e39, e37, d2, z2, go_sem]
        simp only [DetT, applyV, Act.put, List.setIfInBounds_toArray, List.set_cons_zero, List.set_cons_succ]
        rw [q1]
        have hfs := set_fil (m' := { m with sure := m.b.length }) (g := fun f => { f with sure := f.b.length }) HS.out.rk.fs HMM.out (show findI name r.tick.fs = some i by rw [tick_fs]; exact HFIE.out) (by rw [tick_fs]; exact HOK.out.apart) rfl
        have a0 := RkS.fput (m' := { m with sure := m.b.length }) (r' := r.tick.upd name fun f => { f with sure := f.b.length }) hM0 HV.out HMM.out 2 (.int .i64 (m.b.length : Int)) (rcells_set2 (m := m) m.b.length HMM.out) (hM0.bytes m (List.mem_of_getElem? HMM.out)) (fun k hk => .inl (.inr (.inr ⟨m, List.mem_of_getElem? HMM.out, hk⟩))) rfl rfl hfs
        have HX := Lib.hid ((HS.out.trans (RkS.ext HS.out.rk hext)).trans a0)
        clear a0 hfs brw0 d0 d1 d2 z2 hM0
        go_wp2_with fail
        go_ret
        exact RkPost.acted HD.out HX.out
end Go.Proofs.Ytkejoiknnigllaa
