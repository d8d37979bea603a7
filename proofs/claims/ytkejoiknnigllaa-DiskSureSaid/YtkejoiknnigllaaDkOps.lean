/-
  Layer 15: Make, Append, Sync, Cut, Drop, Fail of the program's disk.
-/
import Derived.Test.YtkejoiknnigllaaDkDo2
import Derived.Test.YtkejoiknnigllaaDkGood
namespace Go.Proofs.Ytkejoiknnigllaa
open Go Go.RowKit Mono
open Go.Maps (Keyed has size)
set_option linter.unusedVariables false
set_option linter.unusedSimpArgs false
set_option maxRecDepth 100000

/-- What a call leaves: the disk as the plain law has it, its error. -/
def DkPost (z : Nat) (W : World) (bd bm pl : Nat) (d : Dk) (ms : List FilM) (x : Dk × Nat) (e : Ending) (w' : World) : Prop := ∃ pl' ms', e = .returned (.int .i64 (x.2 : Int)) ∧ DkS z W w' bd bm pl d ms pl' x.1 ms'
theorem DkPost.same {z bd bm pl : Nat} {W W' : World} {d : Dk} {ms : List FilM} (h : DkM z W bd bm pl d ms) (he : Ext W W') (n : Nat) : DkPost z W bd bm pl d ms (d, n) (.returned (.int .i64 (n : Int))) W' := ⟨pl, ms, rfl, DkS.ext h he⟩
/-- Behind 'count'. -/
theorem DkPost.of_count {z bd bm pl : Nat} {W W1 W' : World} {d d1 : Dk} {ms ms1 : List FilM} {e : Ending} (h1 : DkS z W W1 bd bm pl d ms pl d1 ms1) (act : Dk → Dk) 
    (h : (∀ k, d1.dead = some k → e = .returned (.int .i64 150) ∧ DkS z W1 W' bd bm pl d1 ms1 pl (d1.lose k) (ms1.map (FilM.lose k))) ∧ (d1.dead = none → e = .returned (.int .i64 0) ∧ ∃ ms', DkS z W1 W' bd bm pl d1 ms1 pl (act d1.tick) ms')) :
    DkPost z W bd bm pl d ms (d1.count act) e W' := by
  rw [Dk.count_eq]
  cases hd : d1.dead with
  | some k =>
    obtain ⟨rfl, hs⟩ := h.1 k hd
    exact ⟨pl, _, rfl, h1.trans hs⟩
  | none =>
    obtain ⟨rfl, ms', hs⟩ := h.2 hd
    exact ⟨pl, ms', rfl, h1.trans hs⟩
theorem Dk.Small.tick {d : Dk} (h : d.Small) : d.tick.fs = d.fs := by
  unfold Dk.tick
  rcases d.plan with _ | ⟨_ | n, k⟩ <;> rfl
theorem DkU.lt {u : Int} {z bd bm pl : Nat} {W : World} {d : Dk} {ms : List FilM} (h : DkU u z W bd bm pl d ms) : ∀ k, dall bd bm pl d ms k → k < W.heap.size := by
  rintro k ((rfl | rfl | ⟨hp, rfl⟩ | ⟨m, hm, rfl⟩) | ⟨m, hm, hj⟩)
  · exact h.str.lt
  · obtain ⟨n, D, ho, _⟩ := h.map
    exact ho.lt
  · obtain ⟨⟨n, k⟩, hp⟩ := Option.isSome_iff_exists.1 hp
    exact (h.plan n k hp).1.lt
  · exact (h.files m hm).1.lt
  · obtain ⟨_, C, fz, h2⟩ := (h.bytes m hm).typed k hj
    exact (Array.getElem?_eq_some_iff.1 h2).1
theorem tick_fs (d : Dk) : d.tick.fs = d.fs := by
  unfold Dk.tick
  rcases d.plan with _ | ⟨_ | n, k⟩ <;> rfl

theorem fail_any {z bd bm pl : Nat} {W : World} {d : Dk} {ms : List FilM} (h : DkM z W bd bm pl d ms) (hok : d.Ok) (hsm : d.Small) (keep : Int) :
    Calls Try.prog 11 #[.pointer (some ⟨bd, 0, none⟩), .int .i64 keep] W (DkPost z W bd bm pl d ms (dFail d keep)) := by
  have HF := Lib.hid (fault_any h)
  have HH := Lib.hid h
  have HL := Lib.hid (lose_any h hok hsm.cnt keep)
  unfold faultN at HF
  unfold dFail
  cases hon : d.on
  · rw [hon] at HF
    go_enter Try.func11, Try.ntmps11
    go_wp2_with fail
    refine HF.out.mono ?_
    rintro e w1 ⟨rfl, rfl⟩
    go_wp2_with fail
    go_ret
    exact DkPost.same HH.out (Ext.refl _) 150
  · rw [hon] at HF
    go_enter Try.func11, Try.ntmps11
    go_wp2_with fail
    refine HF.out.mono ?_
    rintro e w1 ⟨rfl, rfl⟩
    go_wp2_with fail
    refine HL.out.mono ?_
    rintro e w2 ⟨rfl, h2, hk⟩
    go_wp2_with fail
    go_ret
    exact ⟨pl, _, rfl, DkS.of_lose h2 hk HH.out⟩

theorem make_any {z bd bm pl : Nat} {W : World} {d : Dk} {ms : List FilM} (h : DkM z W bd bm pl d ms) (hok : d.Ok) (hsm : d.Small) (hz : z ≤ W.heap.size) (name : List UInt8) (hl : name.length ≤ maxLen) :
    Calls Try.prog 16 #[.pointer (some ⟨bd, 0, none⟩), strV name] W (DkPost z W bd bm pl d ms (dMake d name)) := by
  obtain ⟨W2, hW2⟩ : ∃ W2, W2 = (W.alloc (.cells #[.pointer (some ⟨bd, 0, none⟩)] 26)).alloc (.cells #[strV name] 9) := ⟨_, rfl⟩
  have hx : Ext W W2 := by rw [hW2]; exact (ext_alloc _ _).trans (ext_alloc _ _)
  have b0 : BlkT W2 W.heap.size 26 [.pointer (some ⟨bd, 0, none⟩)] := by rw [hW2]; exact (BlkT.new W #[.pointer (some ⟨bd, 0, none⟩)] 26).ext (ext_alloc _ _)
  have b1 : BlkT W2 (W.heap.size + 1) 9 [strV name] := by
    have := BlkT.new (W.alloc (.cells #[.pointer (some ⟨bd, 0, none⟩)] 26)) #[strV name] 9
    rw [World.size_alloc] at this
    rw [hW2]
    exact this
  have H2 := Lib.hid (h.ext hx)
  have HX := Lib.hid hx
  have HH := Lib.hid h
  have B0 := Lib.hid b0
  have B1 := Lib.hid b1
  have HZ := Lib.hid (Nat.le_trans hz hx.size)
  have q0 := b0.blk.cell (i := 0) rfl
  have q1 := b1.blk.cell (i := 0) rfl
  have k1 := (h.ext hx).str.blk.cell (i := 1) rfl
  have HF := Lib.hid (fault_any (h.ext hx))
  have HG := Lib.hid (dkGood_any name W2 hl)
  have HML := Lib.hid (DkM.mlen (h.ext hx))
  have HFF := Lib.hid (findF_fs h name)
  have HFEW := Lib.hid (show ms.length = d.fs.length by rw [← h.fs]; simp)
  have HOK := Lib.hid hok
  have HSM := Lib.hid hsm
  have HW := Lib.hid hW2
  clear hW2 hx b0 b1 h hok hsm
  obtain ⟨p0, hp0⟩ : ∃ p, p = W.heap.size := ⟨_, rfl⟩
  obtain ⟨p1, hp1⟩ : ∃ p, p = W.heap.size + 1 := ⟨_, rfl⟩
  have HP0 := Lib.hid hp0
  have HP1 := Lib.hid hp1
  rw [← hp0] at q0
  rw [← hp1] at q1
  replace B0 := Lib.hid (show BlkT W2 p0 _ _ by rw [hp0]; exact B0.out)
  replace B1 := Lib.hid (show BlkT W2 p1 _ _ by rw [hp1]; exact B1.out)
  clear hp0 hp1
  unfold faultN at HF
  cases hon : d.on
  · rw [hon] at HF
    have hres : dMake d name = (d, 150) := by unfold dMake; simp [hon]
    rw [hres]
    go_enter Try.func16, Try.ntmps16
    go_wp2_with fail
    rw [← HP1.out, ← HP0.out, ← HW.out]
    refine HF.out.mono ?_
    rintro e w1 ⟨rfl, rfl⟩
    go_wp2_with fail
    go_ret
    exact DkPost.same HH.out HX.out 150
  · rw [hon] at HF
    cases hdn : dname name
    · rw [hdn] at HG
      have hres : dMake d name = (d, 2) := by unfold dMake; simp [hon, hdn]
      rw [hres]
      go_enter Try.func16, Try.ntmps16
      go_wp2_with fail
      rw [← HP1.out, ← HP0.out, ← HW.out]
      refine HF.out.mono ?_
      rintro e w1 ⟨rfl, rfl⟩
      go_wp2_with fail
      refine HG.out.mono ?_
      rintro e w1 ⟨rfl, rfl⟩
      go_wp2_with fail
      go_ret
      exact DkPost.same HH.out HX.out 2
    · rw [hdn] at HG
      cases hfd : findM name ms with
      | some m =>
        have hlv : lookV name ms = .pointer (some ⟨m.blk, 0, none⟩) := by unfold lookV; rw [hfd]
        have hres : dMake d name = (d, 153) := by unfold dMake; simp [hon, hdn, HFF.out, hfd]
        rw [hres]
        go_enter Try.func16, Try.ntmps16
        go_wp2_with fail
        rw [← HP1.out, ← HP0.out, ← HW.out]
        refine HF.out.mono ?_
        rintro e w1 ⟨rfl, rfl⟩
        go_wp2_with fail
        refine HG.out.mono ?_
        rintro e w1 ⟨rfl, rfl⟩
        go_wp2_with fail
        refine wp_region_turns 0 [(0, 0, false), (0, 0, false), (0, 0, false), (0, 0, false), (0, 0, false), (0, 0, false), (0, 0, false), (0, 0, false)] (fun w0 c => w0) (by kernel_rfl) (by kernel_rfl) (by kernel_rfl) (fun _ => rfl) ?_
        intro w0 ws hext hsz hws
        have q0 : ws 0 = w0 := hws 0
        clear hws
        have bzw0 := (H2.out.ext hext).str.blk
        have b2w0 := B0.out.blk.ext hext
        have b3w0 := B1.out.blk.ext hext
        have hk := DkM.look (H2.out.ext hext) name hl
        rw [hlv] at hk
        have hl0 := DkM.mlen (H2.out.ext hext)
        refine detT_read rfl (.pointer (some ⟨bd, 0, none⟩)) (fun _ _ => rfl) ?_ ?_
        · rintro ρ ⟨h2, -⟩ c hc1 hc2
          have e2 : ρ 2 = .pointer (some ⟨p0, 0, none⟩) := h2
          have hc : c = 0 := by have h1 : 0 ≤ c := hc1; have h2 : c ≤ 0 := hc2; omega
          rcases hc with rfl
          · rw [q0]
            have c := b2w0.cell (i := 0) rfl
            simp [execOp, evR, e2, c, go_sem]
        refine detT_pure rfl (.pointer (some ⟨bd, 0, none⟩)) (fun _ _ => rfl) ?_ ?_
        · rintro ρ ⟨h16, -⟩ w'
          have e16 : ρ 16 = .pointer (some ⟨bd, 0, none⟩) := h16
          simp [execOp, evR, e16, go_sem]
        refine detT_pure rfl (.pointer (some ⟨bd, 1, none⟩)) (fun _ _ => rfl) ?_ ?_
        · rintro ρ ⟨h17, -⟩ w'
          have e17 : ρ 17 = .pointer (some ⟨bd, 0, none⟩) := h17
          simp [execOp, evR, e17, go_sem]
        refine detT_read rfl (.map (some bm)) (fun _ _ => rfl) ?_ ?_
        · rintro ρ ⟨h18, -⟩ c hc1 hc2
          have e18 : ρ 18 = .pointer (some ⟨bd, 1, none⟩) := h18
          have hc : c = 0 := by have h1 : 0 ≤ c := hc1; have h2 : c ≤ 0 := hc2; omega
          rcases hc with rfl
          · rw [q0]
            have c := bzw0.cell (i := 1) rfl
            simp [execOp, evR, e18, c, go_sem]
        refine detT_read rfl (strV name) (fun _ _ => rfl) ?_ ?_
        · rintro ρ ⟨h3, -⟩ c hc1 hc2
          have e3 : ρ 3 = .pointer (some ⟨p1, 0, none⟩) := h3
          have hc : c = 0 := by have h1 : 0 ≤ c := hc1; have h2 : c ≤ 0 := hc2; omega
          rcases hc with rfl
          · rw [q0]
            have c := b3w0.cell (i := 0) rfl
            simp [execOp, evR, e3, c, go_sem]
        refine detT_read rfl (.pointer (some ⟨m.blk, 0, none⟩)) (fun _ _ => rfl) ?_ ?_
        · rintro ρ ⟨h19, h20, -⟩ c hc1 hc2
          have e19 : ρ 19 = .map (some bm) := h19
          have e20 : ρ 20 = strV name := h20
          have hc : c = 0 := by have h1 : 0 ≤ c := hc1; have h2 : c ≤ 0 := hc2; omega
          rcases hc with rfl
          · rw [q0]
            simp [execOp, evR, e19, e20, hk, go_sem]
        refine detT_pure rfl (.bool true) (fun _ _ => rfl) ?_ ?_
        · rintro ρ ⟨h21, -⟩ w'
          have e21 : ρ 21 = .pointer (some ⟨m.blk, 0, none⟩) := h21
          simp [execOp, evR, e21, go_sem]
        refine detT_pure rfl (.bool true) (fun _ _ => rfl) ?_ ?_
        · rintro ρ ⟨h22, -⟩ w'
          have e22 : ρ 22 = .bool true := h22
          simp [execOp, evR, e22, go_sem]
        simp only [DetT, applyV, Act.put, List.setIfInBounds_toArray, List.set_cons_zero, List.set_cons_succ]
        rw [q0]
        clear hk q0
        go_wp2_with fail
        go_ret
        exact DkPost.same HH.out (HX.out.trans hext) 153
      | none =>
        have hlv : lookV name ms = .pointer none := by unfold lookV; rw [hfd]
        by_cases h64 : 64 ≤ ms.length
        · have hres : dMake d name = (d, 151) := by unfold dMake; simp [hon, hdn, HFF.out, hfd, ← HFEW.out, h64]
          rw [hres]
          go_enter Try.func16, Try.ntmps16
          go_wp2_with fail
          rw [← HP1.out, ← HP0.out, ← HW.out]
          refine HF.out.mono ?_
          rintro e w1 ⟨rfl, rfl⟩
          go_wp2_with fail
          refine HG.out.mono ?_
          rintro e w1 ⟨rfl, rfl⟩
          go_wp2_with fail
          refine wp_region_turns 0 [(0, 0, false), (0, 0, false), (0, 0, false), (0, 0, false), (0, 0, false), (0, 0, false), (0, 0, false), (0, 0, false)] (fun w0 c => w0) (by kernel_rfl) (by kernel_rfl) (by kernel_rfl) (fun _ => rfl) ?_
          intro w0 ws hext hsz hws
          have q0 : ws 0 = w0 := hws 0
          clear hws
          have bzw0 := (H2.out.ext hext).str.blk
          have b2w0 := B0.out.blk.ext hext
          have b3w0 := B1.out.blk.ext hext
          have hk := DkM.look (H2.out.ext hext) name hl
          rw [hlv] at hk
          have hl0 := DkM.mlen (H2.out.ext hext)
          refine detT_read rfl (.pointer (some ⟨bd, 0, none⟩)) (fun _ _ => rfl) ?_ ?_
          · rintro ρ ⟨h2, -⟩ c hc1 hc2
            have e2 : ρ 2 = .pointer (some ⟨p0, 0, none⟩) := h2
            have hc : c = 0 := by have h1 : 0 ≤ c := hc1; have h2 : c ≤ 0 := hc2; omega
            rcases hc with rfl
            · rw [q0]
              have c := b2w0.cell (i := 0) rfl
              simp [execOp, evR, e2, c, go_sem]
          refine detT_pure rfl (.pointer (some ⟨bd, 0, none⟩)) (fun _ _ => rfl) ?_ ?_
          · rintro ρ ⟨h16, -⟩ w'
            have e16 : ρ 16 = .pointer (some ⟨bd, 0, none⟩) := h16
            simp [execOp, evR, e16, go_sem]
          refine detT_pure rfl (.pointer (some ⟨bd, 1, none⟩)) (fun _ _ => rfl) ?_ ?_
          · rintro ρ ⟨h17, -⟩ w'
            have e17 : ρ 17 = .pointer (some ⟨bd, 0, none⟩) := h17
            simp [execOp, evR, e17, go_sem]
          refine detT_read rfl (.map (some bm)) (fun _ _ => rfl) ?_ ?_
          · rintro ρ ⟨h18, -⟩ c hc1 hc2
            have e18 : ρ 18 = .pointer (some ⟨bd, 1, none⟩) := h18
            have hc : c = 0 := by have h1 : 0 ≤ c := hc1; have h2 : c ≤ 0 := hc2; omega
            rcases hc with rfl
            · rw [q0]
              have c := bzw0.cell (i := 1) rfl
              simp [execOp, evR, e18, c, go_sem]
          refine detT_read rfl (strV name) (fun _ _ => rfl) ?_ ?_
          · rintro ρ ⟨h3, -⟩ c hc1 hc2
            have e3 : ρ 3 = .pointer (some ⟨p1, 0, none⟩) := h3
            have hc : c = 0 := by have h1 : 0 ≤ c := hc1; have h2 : c ≤ 0 := hc2; omega
            rcases hc with rfl
            · rw [q0]
              have c := b3w0.cell (i := 0) rfl
              simp [execOp, evR, e3, c, go_sem]
          refine detT_read rfl (.pointer none) (fun _ _ => rfl) ?_ ?_
          · rintro ρ ⟨h19, h20, -⟩ c hc1 hc2
            have e19 : ρ 19 = .map (some bm) := h19
            have e20 : ρ 20 = strV name := h20
            have hc : c = 0 := by have h1 : 0 ≤ c := hc1; have h2 : c ≤ 0 := hc2; omega
            rcases hc with rfl
            · rw [q0]
              simp [execOp, evR, e19, e20, hk, go_sem]
          refine detT_pure rfl (.bool false) (fun _ _ => rfl) ?_ ?_
          · rintro ρ ⟨h21, -⟩ w'
            have e21 : ρ 21 = .pointer none := h21
            simp [execOp, evR, e21, go_sem]
          refine detT_pure rfl (.bool false) (fun _ _ => rfl) ?_ ?_
          · rintro ρ ⟨h22, -⟩ w'
            have e22 : ρ 22 = .bool false := h22
            simp [execOp, evR, e22, go_sem]
          simp only [DetT, applyV, Act.put, List.setIfInBounds_toArray, List.set_cons_zero, List.set_cons_succ]
          rw [q0]
          have c0 := b2w0.cell (i := 0) rfl
          have c1 := b3w0.cell (i := 0) rfl
          have cz := bzw0.cell (i := 1) rfl
          clear hk q0
          go_wp2_with fail
          go_ret
          exact DkPost.same HH.out (HX.out.trans hext) 151
        · have hres : dMake d name = d.count fun d => { d with fs := insF name d.fs } := by unfold dMake; simp [hon, hdn, HFF.out, hfd, ← HFEW.out, h64]
          rw [hres]
          go_enter Try.func16, Try.ntmps16
          go_wp2_with fail
          rw [← HP1.out, ← HP0.out, ← HW.out]
          refine HF.out.mono ?_
          rintro e w1 ⟨rfl, rfl⟩
          go_wp2_with fail
          refine HG.out.mono ?_
          rintro e w1 ⟨rfl, rfl⟩
          go_wp2_with fail
          refine wp_region_turns 0 [(0, 0, false), (0, 0, false), (0, 0, false), (0, 0, false), (0, 0, false), (0, 0, false), (0, 0, false), (0, 0, false)] (fun w0 c => w0) (by kernel_rfl) (by kernel_rfl) (by kernel_rfl) (fun _ => rfl) ?_
          intro w0 ws hext hsz hws
          have q0 : ws 0 = w0 := hws 0
          clear hws
          have bzw0 := (H2.out.ext hext).str.blk
          have b2w0 := B0.out.blk.ext hext
          have b3w0 := B1.out.blk.ext hext
          have hk := DkM.look (H2.out.ext hext) name hl
          rw [hlv] at hk
          have hl0 := DkM.mlen (H2.out.ext hext)
          refine detT_read rfl (.pointer (some ⟨bd, 0, none⟩)) (fun _ _ => rfl) ?_ ?_
          · rintro ρ ⟨h2, -⟩ c hc1 hc2
            have e2 : ρ 2 = .pointer (some ⟨p0, 0, none⟩) := h2
            have hc : c = 0 := by have h1 : 0 ≤ c := hc1; have h2 : c ≤ 0 := hc2; omega
            rcases hc with rfl
            · rw [q0]
              have c := b2w0.cell (i := 0) rfl
              simp [execOp, evR, e2, c, go_sem]
          refine detT_pure rfl (.pointer (some ⟨bd, 0, none⟩)) (fun _ _ => rfl) ?_ ?_
          · rintro ρ ⟨h16, -⟩ w'
            have e16 : ρ 16 = .pointer (some ⟨bd, 0, none⟩) := h16
            simp [execOp, evR, e16, go_sem]
          refine detT_pure rfl (.pointer (some ⟨bd, 1, none⟩)) (fun _ _ => rfl) ?_ ?_
          · rintro ρ ⟨h17, -⟩ w'
            have e17 : ρ 17 = .pointer (some ⟨bd, 0, none⟩) := h17
            simp [execOp, evR, e17, go_sem]
          refine detT_read rfl (.map (some bm)) (fun _ _ => rfl) ?_ ?_
          · rintro ρ ⟨h18, -⟩ c hc1 hc2
            have e18 : ρ 18 = .pointer (some ⟨bd, 1, none⟩) := h18
            have hc : c = 0 := by have h1 : 0 ≤ c := hc1; have h2 : c ≤ 0 := hc2; omega
            rcases hc with rfl
            · rw [q0]
              have c := bzw0.cell (i := 1) rfl
              simp [execOp, evR, e18, c, go_sem]
          refine detT_read rfl (strV name) (fun _ _ => rfl) ?_ ?_
          · rintro ρ ⟨h3, -⟩ c hc1 hc2
            have e3 : ρ 3 = .pointer (some ⟨p1, 0, none⟩) := h3
            have hc : c = 0 := by have h1 : 0 ≤ c := hc1; have h2 : c ≤ 0 := hc2; omega
            rcases hc with rfl
            · rw [q0]
              have c := b3w0.cell (i := 0) rfl
              simp [execOp, evR, e3, c, go_sem]
          refine detT_read rfl (.pointer none) (fun _ _ => rfl) ?_ ?_
          · rintro ρ ⟨h19, h20, -⟩ c hc1 hc2
            have e19 : ρ 19 = .map (some bm) := h19
            have e20 : ρ 20 = strV name := h20
            have hc : c = 0 := by have h1 : 0 ≤ c := hc1; have h2 : c ≤ 0 := hc2; omega
            rcases hc with rfl
            · rw [q0]
              simp [execOp, evR, e19, e20, hk, go_sem]
          refine detT_pure rfl (.bool false) (fun _ _ => rfl) ?_ ?_
          · rintro ρ ⟨h21, -⟩ w'
            have e21 : ρ 21 = .pointer none := h21
            simp [execOp, evR, e21, go_sem]
          refine detT_pure rfl (.bool false) (fun _ _ => rfl) ?_ ?_
          · rintro ρ ⟨h22, -⟩ w'
            have e22 : ρ 22 = .bool false := h22
            simp [execOp, evR, e22, go_sem]
          simp only [DetT, applyV, Act.put, List.setIfInBounds_toArray, List.set_cons_zero, List.set_cons_succ]
          rw [q0]
          have c0 := b2w0.cell (i := 0) rfl
          have c1 := b3w0.cell (i := 0) rfl
          have cz := bzw0.cell (i := 1) rfl
          clear hk q0
          have HD := Lib.hid (H2.out.ext hext)
          have HC := Lib.hid (count_Make HD.out HOK.out HSM.out #[.pointer (some ⟨p0, 0, none⟩), .pointer (some ⟨p1, 0, none⟩)] (fun w' => ∃ ms', DkS z w0 w' bd bm pl d ms pl ((fun d : Dk => { d with fs := insF name d.fs }) d.tick) ms') (fun w hs => by
            have keep : ∀ {p : Nat} {T : TypeId} {L : List Value}, W.heap.size ≤ p → BlkT w0 p T L → BlkT w p T L := fun hp hb => hb.kb hs.kb (fun hd => by have := HH.out.lt _ hd; omega)
            refine (make1_any hs.dk (Nat.le_trans HZ.out (Nat.le_trans hext.size hs.kb.size)) hl hfd (by unfold maxLen; omega) (keep (by rw [HP0.out]; exact Nat.le_refl _) (B0.out.ext hext)) (keep (by rw [HP1.out]; exact Nat.le_succ _) (B1.out.ext hext))).mono ?_
            rintro e w' ⟨he, ms', hs'⟩
            exact ⟨he, ms', hs.trans hs'⟩))
          go_wp2_with fail
          refine HC.out.mono ?_
          intro e w' hcnt
          have hp := DkPost.of_count (DkS.ext HH.out (HX.out.trans hext)) (fun d : Dk => { d with fs := insF name d.fs }) hcnt
          obtain ⟨pl', ms', rfl, hfin⟩ := hp
          have HFIN := Lib.hid hfin
          clear hfin hcnt
          go_wp2_with fail
          go_ret
          exact ⟨pl', ms', rfl, HFIN.out⟩
end Go.Proofs.Ytkejoiknnigllaa
