/-
 Layer 15: Make, Append, Sync, Cut, Drop, Fail of the program's disk.
-/
import Derived.Test.YtagghghoimpofaaGreatDoorDkDo
import Derived.Test.YtagghghoimpofaaGreatDoorDkGood
import Derived.ArgAppend
namespace Go.Proofs.YtagghghoimpofaaGreatDoor
open Go Go.RowKit Mono
open Go.Maps (Keyed has size)
set_option linter.unusedVariables false
set_option linter.unusedSimpArgs false
set_option maxRecDepth 100000

/-- What a call leaves: the disk as the plain law has it, its error. -/
def DkPost (z : Nat) (W : World) (bd bm pl : Nat) (d : Dk) (ms : List FilM) (x : Dk × Nat) (e : Ending) (w' : World) : Prop := ∃ pl' ms', e = .returned (.int .i64 (x.2 : Int)) ∧ DkS z W w' bd bm pl d ms pl' x.1 ms'
theorem DkPost.same {z bd bm pl : Nat} {W W' : World} {d : Dk} {ms : List FilM} (h : DkM z W bd bm pl d ms) (he : Ext W W') (n : Nat) : DkPost z W bd bm pl d ms (d, n) (.returned (.int .i64 (n : Int))) W' := ⟨pl, ms, rfl, DkS.ext h he⟩
/-- Behind 'count'. -/
theorem DkPost.of_count {z bd bm pl : Nat} {W W1 W' : World} {d d1 : Dk} {ms ms1 : List FilM} {e : Ending} (h1 : DkS z W W1 bd bm pl d ms pl d1 ms1) (act : Dk → Dk) 
  (h : (∀ k, d1.dead = some k → e = .returned (.int .i64 150) ∧ DkS z W1 W' bd bm pl d1 ms1 pl (d1.lose k) (ms1.map (FilM.lose k))) ∧ (d1.dead = none → e = .returned (.int .i64 0) ∧ ∃ ms', DkS z W1 W' bd bm pl d1 ms1 pl (act d1.tick) ms')) :
  DkPost z W bd bm pl d ms (d1.count act) e W' := by
 rw [Dk.count_eq]
 cases hd : d1.dead with
 | some k =>
  obtain ⟨rfl, hs⟩ := h.1 k hd
  exact ⟨pl, _, rfl, h1.trans hs⟩
 | none =>
  obtain ⟨rfl, ms', hs⟩ := h.2 hd
  exact ⟨pl, ms', rfl, h1.trans hs⟩
theorem Dk.Small.tick {d : Dk} (h : d.Small) : d.tick.fs = d.fs := by
 unfold Dk.tick
 rcases d.plan with _ | ⟨_ | n, k⟩ <;> rfl
theorem DkU.lt {u : Int} {z bd bm pl : Nat} {W : World} {d : Dk} {ms : List FilM} (h : DkU u z W bd bm pl d ms) : ∀ k, dall bd bm pl d ms k → k < W.heap.size := by
 rintro k ((rfl | rfl | ⟨hp, rfl⟩ | ⟨m, hm, rfl⟩) | ⟨m, hm, hj⟩)
 ·exact h.str.lt
 ·obtain ⟨n, D, ho, _⟩ := h.map
  exact ho.lt
 ·obtain ⟨⟨n, k⟩, hp⟩ := Option.isSome_iff_exists.1 hp
  exact (h.plan n k hp).1.lt
 ·exact (h.files m hm).1.lt
 ·obtain ⟨_, C, fz, h2⟩ := (h.bytes m hm).typed k hj
  exact (Array.getElem?_eq_some_iff.1 h2).1
theorem tick_fs (d : Dk) : d.tick.fs = d.fs := by
 unfold Dk.tick
 rcases d.plan with _ | ⟨_ | n, k⟩ <;> rfl

theorem fail_any {z bd bm pl : Nat} {W : World} {d : Dk} {ms : List FilM} (h : DkM z W bd bm pl d ms) (hok : d.Ok) (hsm : d.Small) (keep : Int) :
  Calls Tryz.prog 64 #[.pointer (some ⟨bd, 0, none⟩), .int .i64 keep] W (DkPost z W bd bm pl d ms (dFail d keep)) := by
 have HF := Lib.hid (fault_any h)
 have HH := Lib.hid h
 have HL := Lib.hid (lose_any h hok hsm.cnt keep)
 unfold faultN at HF
 unfold dFail
 cases hon : d.on
 ·rw [hon] at HF
  go_enter Tryz.func64, Tryz.ntmps64
  go_wp2_with fail
  refine HF.out.mono ?_
  rintro e w1 ⟨rfl, rfl⟩
  go_wp2_with fail
  go_ret
  exact DkPost.same HH.out (Ext.refl _) 150
 ·rw [hon] at HF
  go_enter Tryz.func64, Tryz.ntmps64
  go_wp2_with fail
  refine HF.out.mono ?_
  rintro e w1 ⟨rfl, rfl⟩
  go_wp2_with fail
  refine HL.out.mono ?_
  rintro e w2 ⟨rfl, h2, hk⟩
  go_wp2_with fail
  go_ret
  exact ⟨pl, _, rfl, DkS.of_lose h2 hk HH.out⟩

theorem make_any {z bd bm pl : Nat} {W : World} {d : Dk} {ms : List FilM} (h : DkM z W bd bm pl d ms) (hok : d.Ok) (hsm : d.Small) (hz : z ≤ W.heap.size) (name : List UInt8) (hl : name.length ≤ maxLen) :
  Calls Tryz.prog 37 #[.pointer (some ⟨bd, 0, none⟩), strV name] W (DkPost z W bd bm pl d ms (dMake d name)) := by
 obtain ⟨W2, hW2⟩ : ∃ W2, W2 = (W.alloc (.cells #[.pointer (some ⟨bd, 0, none⟩)] 24)).alloc (.cells #[strV name] 9) := ⟨_, rfl⟩
 have hx : Ext W W2 := by rw [hW2]; exact (ext_alloc _ _).trans (ext_alloc _ _)
 have b0 : BlkT W2 W.heap.size 24 [.pointer (some ⟨bd, 0, none⟩)] := by rw [hW2]; exact (BlkT.new W #[.pointer (some ⟨bd, 0, none⟩)] 24).ext (ext_alloc _ _)
 have b1 : BlkT W2 (W.heap.size + 1) 9 [strV name] := by
  have := BlkT.new (W.alloc (.cells #[.pointer (some ⟨bd, 0, none⟩)] 24)) #[strV name] 9
  rw [World.size_alloc] at this
  rw [hW2]
  exact this
 have H2 := Lib.hid (h.ext hx)
 have HX := Lib.hid hx
 have HH := Lib.hid h
 have B0 := Lib.hid b0
 have B1 := Lib.hid b1
 have HZ := Lib.hid (Nat.le_trans hz hx.size)
 have q0 := b0.blk.cell (i := 0) rfl
 have q1 := b1.blk.cell (i := 0) rfl
 have k1 := (h.ext hx).str.blk.cell (i := 1) rfl
 have HF := Lib.hid (fault_any (h.ext hx))
 have HG := Lib.hid (dkGood_any name W2 hl)
 have HML := Lib.hid (DkM.mlen (h.ext hx))
 have HFF := Lib.hid (findF_fs h name)
 have HFEW := Lib.hid (show ms.length = d.fs.length by rw [← h.fs]; simp)
 have HOK := Lib.hid hok
 have HSM := Lib.hid hsm
 have HW := Lib.hid hW2
 clear hW2 hx b0 b1 h hok hsm
 obtain ⟨p0, hp0⟩ : ∃ p, p = W.heap.size := ⟨_, rfl⟩
 obtain ⟨p1, hp1⟩ : ∃ p, p = W.heap.size + 1 := ⟨_, rfl⟩
 have HP0 := Lib.hid hp0
 have HP1 := Lib.hid hp1
 rw [← hp0] at q0
 rw [← hp1] at q1
 replace B0 := Lib.hid (show BlkT W2 p0 _ _ by rw [hp0]; exact B0.out)
 replace B1 := Lib.hid (show BlkT W2 p1 _ _ by rw [hp1]; exact B1.out)
 clear hp0 hp1
 unfold faultN at HF
 cases hon : d.on
 ·rw [hon] at HF
  have hres : dMake d name = (d, 150) := by unfold dMake; simp [hon]
  rw [hres]
  go_enter Tryz.func37, Tryz.ntmps37
  go_wp2_with fail
  rw [← HP1.out, ← HP0.out, ← HW.out]
  refine HF.out.mono ?_
  rintro e w1 ⟨rfl, rfl⟩
  go_wp2_with fail
  go_ret
  exact DkPost.same HH.out HX.out 150
 ·rw [hon] at HF
  cases hdn : dname name
  ·rw [hdn] at HG
   have hres : dMake d name = (d, 2) := by unfold dMake; simp [hon, hdn]
   rw [hres]
   go_enter Tryz.func37, Tryz.ntmps37
   go_wp2_with fail
   rw [← HP1.out, ← HP0.out, ← HW.out]
   refine HF.out.mono ?_
   rintro e w1 ⟨rfl, rfl⟩
   go_wp2_with fail
   refine HG.out.mono ?_
   rintro e w1 ⟨rfl, rfl⟩
   go_wp2_with fail
   go_ret
   exact DkPost.same HH.out HX.out 2
  ·rw [hdn] at HG
   cases hfd : findM name ms with
   | some m =>
    have hlv : lookV name ms = .pointer (some ⟨m.blk, 0, none⟩) := by unfold lookV; rw [hfd]
    have hres : dMake d name = (d, 153) := by unfold dMake; simp [hon, hdn, HFF.out, hfd]
    rw [hres]
    go_enter Tryz.func37, Tryz.ntmps37
    go_wp2_with fail
    rw [← HP1.out, ← HP0.out, ← HW.out]
    refine HF.out.mono ?_
    rintro e w1 ⟨rfl, rfl⟩
    go_wp2_with fail
    refine HG.out.mono ?_
    rintro e w1 ⟨rfl, rfl⟩
    go_wp2_with fail
    refine wp_region_turns 0 [(0, 0, false), (0, 0, false), (0, 0, false), (0, 0, false), (0, 0, false), (0, 0, false), (0, 0, false), (0, 0, false)] (fun w0 c => w0) (by kernel_rfl) (by kernel_rfl) (by kernel_rfl) (fun _ => rfl) ?_
    intro w0 ws hext hsz hws
    have q0 : ws 0 = w0 := hws 0
    clear hws
    have bzw0 := (H2.out.ext hext).str.blk
    have b2w0 := B0.out.blk.ext hext
    have b3w0 := B1.out.blk.ext hext
    have hk := DkM.look (H2.out.ext hext) name hl
    rw [hlv] at hk
    have hl0 := DkM.mlen (H2.out.ext hext)
    refine detT_read rfl (.pointer (some ⟨bd, 0, none⟩)) (fun _ _ => rfl) ?_ ?_
    ·rintro ρ ⟨h2, -⟩ c hc1 hc2
     have e2 : ρ 2 = .pointer (some ⟨p0, 0, none⟩) := h2
     have hc : c = 0 := by have h1 : 0 ≤ c := hc1; have h2 : c ≤ 0 := hc2; omega
     rcases hc with rfl
     ·rw [q0]
      have c := b2w0.cell (i := 0) rfl
      simp [execOp, evR, e2, c, go_sem]
    refine detT_pure rfl (.pointer (some ⟨bd, 0, none⟩)) (fun _ _ => rfl) ?_ ?_
    ·rintro ρ ⟨h16, -⟩ w'
     have e16 : ρ 16 = .pointer (some ⟨bd, 0, none⟩) := h16
     simp [execOp, evR, e16, go_sem]
    refine detT_pure rfl (.pointer (some ⟨bd, 1, none⟩)) (fun _ _ => rfl) ?_ ?_
    ·rintro ρ ⟨h17, -⟩ w'
     have e17 : ρ 17 = .pointer (some ⟨bd, 0, none⟩) := h17
     simp [execOp, evR, e17, go_sem]
    refine detT_read rfl (.map (some bm)) (fun _ _ => rfl) ?_ ?_
    ·rintro ρ ⟨h18, -⟩ c hc1 hc2
     have e18 : ρ 18 = .pointer (some ⟨bd, 1, none⟩) := h18
     have hc : c = 0 := by have h1 : 0 ≤ c := hc1; have h2 : c ≤ 0 := hc2; omega
     rcases hc with rfl
     ·rw [q0]
      have c := bzw0.cell (i := 1) rfl
      simp [execOp, evR, e18, c, go_sem]
    refine detT_read rfl (strV name) (fun _ _ => rfl) ?_ ?_
    ·rintro ρ ⟨h3, -⟩ c hc1 hc2
     have e3 : ρ 3 = .pointer (some ⟨p1, 0, none⟩) := h3
     have hc : c = 0 := by have h1 : 0 ≤ c := hc1; have h2 : c ≤ 0 := hc2; omega
     rcases hc with rfl
     ·rw [q0]
      have c := b3w0.cell (i := 0) rfl
      simp [execOp, evR, e3, c, go_sem]
    refine detT_read rfl (.pointer (some ⟨m.blk, 0, none⟩)) (fun _ _ => rfl) ?_ ?_
    ·rintro ρ ⟨h19, h20, -⟩ c hc1 hc2
     have e19 : ρ 19 = .map (some bm) := h19
     have e20 : ρ 20 = strV name := h20
     have hc : c = 0 := by have h1 : 0 ≤ c := hc1; have h2 : c ≤ 0 := hc2; omega
     rcases hc with rfl
     ·rw [q0]
      simp [execOp, evR, e19, e20, hk, go_sem]
    refine detT_pure rfl (.bool true) (fun _ _ => rfl) ?_ ?_
    ·rintro ρ ⟨h21, -⟩ w'
     have e21 : ρ 21 = .pointer (some ⟨m.blk, 0, none⟩) := h21
     simp [execOp, evR, e21, go_sem]
    refine detT_pure rfl (.bool true) (fun _ _ => rfl) ?_ ?_
    ·rintro ρ ⟨h22, -⟩ w'
     have e22 : ρ 22 = .bool true := h22
     simp [execOp, evR, e22, go_sem]
    simp only [DetT, applyV, Act.put, List.setIfInBounds_toArray, List.set_cons_zero, List.set_cons_succ]
    rw [q0]
    clear hk q0
    go_wp2_with fail
    go_ret
    exact DkPost.same HH.out (HX.out.trans hext) 153
   | none =>
    have hlv : lookV name ms = .pointer none := by unfold lookV; rw [hfd]
    by_cases h64 : 64 ≤ ms.length
    ·have hres : dMake d name = (d, 151) := by unfold dMake; simp [hon, hdn, HFF.out, hfd, ← HFEW.out, h64]
     rw [hres]
     go_enter Tryz.func37, Tryz.ntmps37
     go_wp2_with fail
     rw [← HP1.out, ← HP0.out, ← HW.out]
     refine HF.out.mono ?_
     rintro e w1 ⟨rfl, rfl⟩
     go_wp2_with fail
     refine HG.out.mono ?_
     rintro e w1 ⟨rfl, rfl⟩
     go_wp2_with fail
     refine wp_region_turns 0 [(0, 0, false), (0, 0, false), (0, 0, false), (0, 0, false), (0, 0, false), (0, 0, false), (0, 0, false), (0, 0, false)] (fun w0 c => w0) (by kernel_rfl) (by kernel_rfl) (by kernel_rfl) (fun _ => rfl) ?_
     intro w0 ws hext hsz hws
     have q0 : ws 0 = w0 := hws 0
     clear hws
     have bzw0 := (H2.out.ext hext).str.blk
     have b2w0 := B0.out.blk.ext hext
     have b3w0 := B1.out.blk.ext hext
     have hk := DkM.look (H2.out.ext hext) name hl
     rw [hlv] at hk
     have hl0 := DkM.mlen (H2.out.ext hext)
     refine detT_read rfl (.pointer (some ⟨bd, 0, none⟩)) (fun _ _ => rfl) ?_ ?_
     ·rintro ρ ⟨h2, -⟩ c hc1 hc2
      have e2 : ρ 2 = .pointer (some ⟨p0, 0, none⟩) := h2
      have hc : c = 0 := by have h1 : 0 ≤ c := hc1; have h2 : c ≤ 0 := hc2; omega
      rcases hc with rfl
      ·rw [q0]
       have c := b2w0.cell (i := 0) rfl
       simp [execOp, evR, e2, c, go_sem]
     refine detT_pure rfl (.pointer (some ⟨bd, 0, none⟩)) (fun _ _ => rfl) ?_ ?_
     ·rintro ρ ⟨h16, -⟩ w'
      have e16 : ρ 16 = .pointer (some ⟨bd, 0, none⟩) := h16
      simp [execOp, evR, e16, go_sem]
     refine detT_pure rfl (.pointer (some ⟨bd, 1, none⟩)) (fun _ _ => rfl) ?_ ?_
     ·rintro ρ ⟨h17, -⟩ w'
      have e17 : ρ 17 = .pointer (some ⟨bd, 0, none⟩) := h17
      simp [execOp, evR, e17, go_sem]
     refine detT_read rfl (.map (some bm)) (fun _ _ => rfl) ?_ ?_
     ·rintro ρ ⟨h18, -⟩ c hc1 hc2
      have e18 : ρ 18 = .pointer (some ⟨bd, 1, none⟩) := h18
      have hc : c = 0 := by have h1 : 0 ≤ c := hc1; have h2 : c ≤ 0 := hc2; omega
      rcases hc with rfl
      ·rw [q0]
       have c := bzw0.cell (i := 1) rfl
       simp [execOp, evR, e18, c, go_sem]
     refine detT_read rfl (strV name) (fun _ _ => rfl) ?_ ?_
     ·rintro ρ ⟨h3, -⟩ c hc1 hc2
      have e3 : ρ 3 = .pointer (some ⟨p1, 0, none⟩) := h3
      have hc : c = 0 := by have h1 : 0 ≤ c := hc1; have h2 : c ≤ 0 := hc2; omega
      rcases hc with rfl
      ·rw [q0]
       have c := b3w0.cell (i := 0) rfl
       simp [execOp, evR, e3, c, go_sem]
     refine detT_read rfl (.pointer none) (fun _ _ => rfl) ?_ ?_
     ·rintro ρ ⟨h19, h20, -⟩ c hc1 hc2
      have e19 : ρ 19 = .map (some bm) := h19
      have e20 : ρ 20 = strV name := h20
      have hc : c = 0 := by have h1 : 0 ≤ c := hc1; have h2 : c ≤ 0 := hc2; omega
      rcases hc with rfl
      ·rw [q0]
       simp [execOp, evR, e19, e20, hk, go_sem]
     refine detT_pure rfl (.bool false) (fun _ _ => rfl) ?_ ?_
     ·rintro ρ ⟨h21, -⟩ w'
      have e21 : ρ 21 = .pointer none := h21
      simp [execOp, evR, e21, go_sem]
     refine detT_pure rfl (.bool false) (fun _ _ => rfl) ?_ ?_
     ·rintro ρ ⟨h22, -⟩ w'
      have e22 : ρ 22 = .bool false := h22
      simp [execOp, evR, e22, go_sem]
     simp only [DetT, applyV, Act.put, List.setIfInBounds_toArray, List.set_cons_zero, List.set_cons_succ]
     rw [q0]
     have c0 := b2w0.cell (i := 0) rfl
     have c1 := b3w0.cell (i := 0) rfl
     have cz := bzw0.cell (i := 1) rfl
     clear hk q0
     go_wp2_with fail
     go_ret
     exact DkPost.same HH.out (HX.out.trans hext) 151
    ·have hres : dMake d name = d.count fun d => { d with fs := insF name d.fs } := by unfold dMake; simp [hon, hdn, HFF.out, hfd, ← HFEW.out, h64]
     rw [hres]
     go_enter Tryz.func37, Tryz.ntmps37
     go_wp2_with fail
     rw [← HP1.out, ← HP0.out, ← HW.out]
     refine HF.out.mono ?_
     rintro e w1 ⟨rfl, rfl⟩
     go_wp2_with fail
     refine HG.out.mono ?_
     rintro e w1 ⟨rfl, rfl⟩
     go_wp2_with fail
     refine wp_region_turns 0 [(0, 0, false), (0, 0, false), (0, 0, false), (0, 0, false), (0, 0, false), (0, 0, false), (0, 0, false), (0, 0, false)] (fun w0 c => w0) (by kernel_rfl) (by kernel_rfl) (by kernel_rfl) (fun _ => rfl) ?_
     intro w0 ws hext hsz hws
     have q0 : ws 0 = w0 := hws 0
     clear hws
     have bzw0 := (H2.out.ext hext).str.blk
     have b2w0 := B0.out.blk.ext hext
     have b3w0 := B1.out.blk.ext hext
     have hk := DkM.look (H2.out.ext hext) name hl
     rw [hlv] at hk
     have hl0 := DkM.mlen (H2.out.ext hext)
     refine detT_read rfl (.pointer (some ⟨bd, 0, none⟩)) (fun _ _ => rfl) ?_ ?_
     ·rintro ρ ⟨h2, -⟩ c hc1 hc2
      have e2 : ρ 2 = .pointer (some ⟨p0, 0, none⟩) := h2
      have hc : c = 0 := by have h1 : 0 ≤ c := hc1; have h2 : c ≤ 0 := hc2; omega
      rcases hc with rfl
      ·rw [q0]
       have c := b2w0.cell (i := 0) rfl
       simp [execOp, evR, e2, c, go_sem]
     refine detT_pure rfl (.pointer (some ⟨bd, 0, none⟩)) (fun _ _ => rfl) ?_ ?_
     ·rintro ρ ⟨h16, -⟩ w'
      have e16 : ρ 16 = .pointer (some ⟨bd, 0, none⟩) := h16
      simp [execOp, evR, e16, go_sem]
     refine detT_pure rfl (.pointer (some ⟨bd, 1, none⟩)) (fun _ _ => rfl) ?_ ?_
     ·rintro ρ ⟨h17, -⟩ w'
      have e17 : ρ 17 = .pointer (some ⟨bd, 0, none⟩) := h17
      simp [execOp, evR, e17, go_sem]
     refine detT_read rfl (.map (some bm)) (fun _ _ => rfl) ?_ ?_
     ·rintro ρ ⟨h18, -⟩ c hc1 hc2
      have e18 : ρ 18 = .pointer (some ⟨bd, 1, none⟩) := h18
      have hc : c = 0 := by have h1 : 0 ≤ c := hc1; have h2 : c ≤ 0 := hc2; omega
      rcases hc with rfl
      ·rw [q0]
       have c := bzw0.cell (i := 1) rfl
       simp [execOp, evR, e18, c, go_sem]
     refine detT_read rfl (strV name) (fun _ _ => rfl) ?_ ?_
     ·rintro ρ ⟨h3, -⟩ c hc1 hc2
      have e3 : ρ 3 = .pointer (some ⟨p1, 0, none⟩) := h3
      have hc : c = 0 := by have h1 : 0 ≤ c := hc1; have h2 : c ≤ 0 := hc2; omega
      rcases hc with rfl
      ·rw [q0]
       have c := b3w0.cell (i := 0) rfl
       simp [execOp, evR, e3, c, go_sem]
     refine detT_read rfl (.pointer none) (fun _ _ => rfl) ?_ ?_
     ·rintro ρ ⟨h19, h20, -⟩ c hc1 hc2
      have e19 : ρ 19 = .map (some bm) := h19
      have e20 : ρ 20 = strV name := h20
      have hc : c = 0 := by have h1 : 0 ≤ c := hc1; have h2 : c ≤ 0 := hc2; omega
      rcases hc with rfl
      ·rw [q0]
       simp [execOp, evR, e19, e20, hk, go_sem]
     refine detT_pure rfl (.bool false) (fun _ _ => rfl) ?_ ?_
     ·rintro ρ ⟨h21, -⟩ w'
      have e21 : ρ 21 = .pointer none := h21
      simp [execOp, evR, e21, go_sem]
     refine detT_pure rfl (.bool false) (fun _ _ => rfl) ?_ ?_
     ·rintro ρ ⟨h22, -⟩ w'
      have e22 : ρ 22 = .bool false := h22
      simp [execOp, evR, e22, go_sem]
     simp only [DetT, applyV, Act.put, List.setIfInBounds_toArray, List.set_cons_zero, List.set_cons_succ]
     rw [q0]
     have c0 := b2w0.cell (i := 0) rfl
     have c1 := b3w0.cell (i := 0) rfl
     have cz := bzw0.cell (i := 1) rfl
     clear hk q0
     have HD := Lib.hid (H2.out.ext hext)
     have HC := Lib.hid (count_Make HD.out HOK.out HSM.out #[.pointer (some ⟨p0, 0, none⟩), .pointer (some ⟨p1, 0, none⟩)] (fun w' => ∃ ms', DkS z w0 w' bd bm pl d ms pl ((fun d : Dk => { d with fs := insF name d.fs }) d.tick) ms') (fun w hs => by
      have keep : ∀ {p : Nat} {T : TypeId} {L : List Value}, W.heap.size ≤ p → BlkT w0 p T L → BlkT w p T L := fun hp hb => hb.kb hs.kb (fun hd => by have := HH.out.lt _ hd; omega)
      refine (make1_any hs.dk (Nat.le_trans HZ.out (Nat.le_trans hext.size hs.kb.size)) hl hfd (by unfold maxLen; omega) (keep (by rw [HP0.out]; exact Nat.le_refl _) (B0.out.ext hext)) (keep (by rw [HP1.out]; exact Nat.le_succ _) (B1.out.ext hext))).mono ?_
      rintro e w' ⟨he, ms', hs'⟩
      exact ⟨he, ms', hs.trans hs'⟩))
     go_wp2_with fail
     refine HC.out.mono ?_
     intro e w' hcnt
     have hp := DkPost.of_count (DkS.ext HH.out (HX.out.trans hext)) (fun d : Dk => { d with fs := insF name d.fs }) hcnt
     obtain ⟨pl', ms', rfl, hfin⟩ := hp
     have HFIN := Lib.hid hfin
     clear hfin hcnt
     go_wp2_with fail
     go_ret
     exact ⟨pl', ms', rfl, HFIN.out⟩
end Go.Proofs.YtagghghoimpofaaGreatDoor

/-
 Layer 15: bytes are put at the end of a slice without room.
-/
namespace Go.Proofs.YtagghghoimpofaaGreatDoor
open Go Go.RowKit Mono
open Go.Maps (Keyed has size)
set_option linter.unusedVariables false
set_option linter.unusedSimpArgs false
set_option maxRecDepth 100000

def resV (r : Result Value) : Value := match r with
 | .ok v _ => v
 | _ => undef
theorem grown_ext {W W' : World} (h : W.grownBy W' none) : Ext W W' := ⟨h.os, h.tape, h.output, h.size, fun k hk => h.block k hk (by simp)⟩
theorem append_full {z : Nat} {W : World} {A : Option Addr} {old : List UInt8} (hb : BsT z W (.slice A old.length old.length) old) {v : Value} {new : List UInt8} (hv : Bs W v new) (hsz : old.length + new.length ≤ 1073741824) (hz : z ≤ W.heap.size) (ty : TypeId) :
  ∃ v' W', (Builtin.append_ #[34, 34] ty #[.slice A old.length old.length, v]).run Tryz.prog W = .ok v' W' ∧ BsT z W' v' (old ++ new) ∧ Ext W W' ∧ (∀ j, v'.ownBlock = some j → (Value.slice A old.length old.length).ownBlock = some j ∨ W.heap.size ≤ j) := by
 obtain ⟨i, hi, hi2⟩ : ∃ i, Tryz.prog.info? 5 = some i ∧ (i.zero, i.size, i.bytes) = (some (.int .u8 0), 1, 1) := by
  have := infoU8
  cases h : Tryz.prog.info? 5 with
  | none => rw [h] at this; cases this
  | some i => rw [h] at this; exact ⟨i, rfl, by simpa using this⟩
 obtain ⟨hz0, hz1, hz2⟩ : i.zero = some (.int .u8 0) ∧ i.size = 1 ∧ i.bytes = 1 := by simpa using hi2
 obtain ⟨A', c', rfl, g1, g2, g3, g4⟩ := hv.open_
 rcases Nat.eq_zero_or_pos new.length with h0 | h0
 ·have hn : new = [] := List.eq_nil_of_length_eq_zero h0
  subst hn
  refine ⟨.slice A old.length old.length, W, ?_, by rw [List.append_nil]; exact hb, Ext.refl _, fun j hj => .inl hj⟩
  have hlc : ∀ (a : Addr) (w : World), (loadCells a 0).run Tryz.prog w = .ok #[] w := fun a w => by kernel_rfl
  cases A' <;> cases A <;> simp [hlc, Builtin.append_, run_underlying Tryz.underlying34, sizeOf, typeInfo, hi, Builtin.lenOf, Builtin.firstCells, storeCells]
 ·obtain ⟨g, off, rfl, hg, hc⟩ := g4 h0
  have hnews : ∀ j u, (new.map bv)[j]? = some u → W.cell? ((⟨g, off, none⟩ : Addr).add j) = some u := by
   intro j u hu
   rw [add_at]
   rw [List.getElem?_map] at hu
   cases hx : new[j]? with
   | none => rw [hx] at hu; cases hu
   | some x =>
    rw [hx] at hu
    injection hu with hu
    rw [← hu]
    exact hc j x hx
  have fin : ∀ {v' : Value} {W' : World}, W'.ownsRow W.heap.size 5 1 v' (old.length + new.length) (old.map bv ++ new.map bv) → W.grownBy W' none → BsT z W' v' (old ++ new) ∧ Ext W W' ∧ (∀ j, v'.ownBlock = some j → (Value.slice A old.length old.length).ownBlock = some j ∨ W.heap.size ≤ j) := by
   intro v' W' h1 h2
   have ho : OwB W' W.heap.size v' (old ++ new) := by
    show World.ownsRow _ _ _ _ _ _ _
    have e : ((old ++ new).map bv) = old.map bv ++ new.map bv := List.map_append
    rw [e]
    have e2 : (old.map bv ++ new.map bv).length = old.length + new.length := by simp
    rw [e2]
    exact h1
   have hbt := BsT.of_owb ho
   refine ⟨⟨hbt.bs, fun j hj => ⟨Nat.le_trans hz (hbt.typed j hj).1, (hbt.typed j hj).2⟩⟩, grown_ext h2, fun j hj => .inr (hbt.typed j hj).1⟩
  cases A with
  | none =>
   obtain ⟨A2, c2, e2, k1, k2, k3, k4⟩ := hb.bs.open_
   injection e2 with e2 e3 e4
   have hl0 : old.length = 0 := by have := k3 e2.symm; omega
   have hn : old = [] := List.eq_nil_of_length_eq_zero hl0
   subst hn
   obtain ⟨v', W', hrun, r1, r2, _⟩ := run_append_own (P := Tryz.prog) W W.heap.size 34 ty 5 i (.int .u8 0) 1 1 Tryz.underlying34 hi hz0 hz1 hz2 rfl (by decide) (.slice none 0 0) 0 [] (World.ownsRow_nil W _ _ 1) ⟨g, off, none⟩ new.length c' (new.map bv) (by simp) hnews bv_one (by unfold maxLen; simp at hsz; omega) (by simp at hsz; omega) (Nat.le_refl _)
   exact ⟨v', W', hrun, fin (by simpa using r1) r2⟩
  | some b =>
   have holds : ∀ j u, (old.map bv)[j]? = some u → W.cell? (b.add j) = some u := by
    intro j u hu
    obtain ⟨A2, c2, e2, k1, k2, k3, k4⟩ := hb.bs.open_
    rw [List.getElem?_map] at hu
    cases hx : old[j]? with
    | none => rw [hx] at hu; cases hu
    | some x =>
     rw [hx] at hu
     injection hu with hu
     obtain ⟨g', off', hA, _, hcc⟩ := k4 (by have := (List.getElem?_eq_some_iff.1 hx).1; omega)
     injection e2 with e2 _ _
     rw [← e2] at hA
     injection hA with hA
     rw [hA, add_at, ← hu]
     exact hcc j x hx
   obtain ⟨v', W', hrun, r1, r2⟩ := run_append_arg_grows (P := Tryz.prog) W 34 ty 5 i (.int .u8 0) 1 1 Tryz.underlying34 hi hz0 hz1 hz2 rfl (by decide) b old.length old.length (old.map bv) (by simp) holds ⟨g, off, none⟩ new.length c' (new.map bv) (by simp) hnews (by omega) (by unfold maxLen; omega) (by omega)
   exact ⟨v', W', hrun, fin r1 r2⟩
end Go.Proofs.YtagghghoimpofaaGreatDoor

/-
 Layer 15: Sync, Cut, Drop, Append of the program's disk.
-/
namespace Go.Proofs.YtagghghoimpofaaGreatDoor
open Go Go.RowKit Mono
open Go.Maps (Keyed has size)
set_option linter.unusedVariables false
set_option linter.unusedSimpArgs false
set_option maxRecDepth 100000
set_option maxHeartbeats 1000000
theorem BlkT.new2 (W : World) (o : Obj) (C : Array Value) (T : TypeId) : BlkT ((W.alloc o).alloc (.cells C T)) (W.heap.size + 1) T C.toList := by
 have := BlkT.new (W.alloc o) C T
 rw [World.size_alloc] at this
 exact this
theorem sync_any {z bd bm pl : Nat} {W : World} {d : Dk} {ms : List FilM} (h : DkM z W bd bm pl d ms) (hok : d.Ok) (hsm : d.Small) (hz : z ≤ W.heap.size) (name : List UInt8) (hl : name.length ≤ maxLen) :
  Calls Tryz.prog 41 #[.pointer (some ⟨bd, 0, none⟩), strV name] W (DkPost z W bd bm pl d ms (dSync d name)) := by
 have HH := Lib.hid h
 have HFF := Lib.hid (findF_fs h name)
 have HOK := Lib.hid hok
 have HSM := Lib.hid hsm
 have hxb : Ext W (W) := Ext.refl _
 have HX := Lib.hid hxb
 have HFI := Lib.hid (find_any (h.ext hxb) name hl)
 unfold findN findV lookV at HFI
 clear h hok hsm hxb
 cases hon : d.on
 ·rw [hon] at HFI
  have hres : dSync d name = (d, 150) := by unfold dSync; simp [hon]
  rw [hres]
  go_enter Tryz.func41, Tryz.ntmps41
  go_wp2_with fail
  refine HFI.out.mono ?_
  rintro e w1 ⟨rfl, rfl⟩
  go_wp2_with fail
  go_ret
  exact DkPost.same HH.out (ext_alloc _ _) 150
 ·rw [hon] at HFI
  cases hf : findM name ms with
  | none =>
   rw [hf] at HFI
   have hres : dSync d name = (d, 152) := by unfold dSync; simp [hon, HFF.out, hf]
   rw [hres]
   go_enter Tryz.func41, Tryz.ntmps41
   go_wp2_with fail
   refine HFI.out.mono ?_
   rintro e w1 ⟨rfl, rfl⟩
   go_wp2_with fail
   go_ret
   exact DkPost.same HH.out (ext_alloc _ _) 152
  | some m =>
   rw [hf] at HFI
   have hres : dSync d name = d.count (fun d : Dk => d.upd name fun f => { f with sure := f.b.length }) := by unfold dSync; simp [hon, HFF.out, hf]
   rw [hres]
   have hx1 := ext_alloc W (.cells #[.pointer (some ⟨m.blk, 0, none⟩)] 102)
   have hb1 : BlkT (W.alloc (.cells #[.pointer (some ⟨m.blk, 0, none⟩)] 102)) W.heap.size 102 [.pointer (some ⟨m.blk, 0, none⟩)] := BlkT.new W #[.pointer (some ⟨m.blk, 0, none⟩)] 102
   have hd1 := HH.out.ext hx1
   have HD1 := Lib.hid (DkS.ext HH.out hx1)
   have HC := Lib.hid (count_Sync hd1 HOK.out HSM.out #[.pointer (some ⟨W.heap.size, 0, none⟩)] (fun w' => ∃ ms', DkS z (W.alloc (.cells #[.pointer (some ⟨m.blk, 0, none⟩)] 102)) w' bd bm pl d ms pl ((fun d : Dk => d.upd name fun f => { f with sure := f.b.length }) d.tick) ms') (fun w hs => by
    refine (sync1_any hs.dk HOK.out.tick hf (hb1.kb hs.kb (fun hd => by have := HH.out.lt _ hd; omega))).mono ?_
    rintro e w' ⟨he, ms', hs'⟩
    exact ⟨he, ms', hs.trans hs'⟩))
   clear hx1 hb1 hd1
   go_enter Tryz.func41, Tryz.ntmps41
   go_wp2_with fail
   refine HFI.out.mono ?_
   rintro e w1 ⟨rfl, rfl⟩
   go_wp2_with fail
   refine HC.out.mono ?_
   intro e w' hcnt
   have hp := DkPost.of_count HD1.out (fun d : Dk => d.upd name fun f => { f with sure := f.b.length }) hcnt
   obtain ⟨pl', ms', rfl, hfin⟩ := hp
   have HFIN := Lib.hid hfin
   clear hfin hcnt
   go_wp2_with fail
   go_ret
   exact ⟨pl', ms', rfl, HFIN.out⟩

theorem drop_any {z bd bm pl : Nat} {W : World} {d : Dk} {ms : List FilM} (h : DkM z W bd bm pl d ms) (hok : d.Ok) (hsm : d.Small) (hz : z ≤ W.heap.size) (name : List UInt8) (hl : name.length ≤ maxLen) :
  Calls Tryz.prog 67 #[.pointer (some ⟨bd, 0, none⟩), strV name] W (DkPost z W bd bm pl d ms (dDrop d name)) := by
 obtain ⟨W2, hW2⟩ : ∃ W2, W2 = (W.alloc (.cells #[.pointer (some ⟨bd, 0, none⟩)] 24)).alloc (.cells #[strV name] 9) := ⟨_, rfl⟩
 have hx : Ext W W2 := by rw [hW2]; exact (ext_alloc _ _).trans (ext_alloc _ _)
 have b0 : BlkT W2 W.heap.size 24 [.pointer (some ⟨bd, 0, none⟩)] := by rw [hW2]; exact (BlkT.new W #[.pointer (some ⟨bd, 0, none⟩)] 24).ext (ext_alloc _ _)
 have b1 : BlkT W2 (W.heap.size + 1) 9 [strV name] := by rw [hW2]; exact BlkT.new2 W _ #[strV name] 9
 have r1 : ((W.alloc (.cells #[.pointer (some ⟨bd, 0, none⟩)] 24)).alloc (.cells #[strV name] 9)).cell? ⟨W.heap.size + 1, 0, none⟩ = some (strV name) := by rw [← hW2]; exact b1.blk.cell (i := 0) rfl
 obtain ⟨p0, hp0⟩ : ∃ p, p = W.heap.size := ⟨_, rfl⟩
 obtain ⟨p1, hp1⟩ : ∃ p, p = W.heap.size + 1 := ⟨_, rfl⟩
 rw [← hp0] at b0
 rw [← hp1] at b1
 have q0 := b0.blk.cell (i := 0) rfl
 have q1 := b1.blk.cell (i := 0) rfl
 have HH := Lib.hid h
 have HFF := Lib.hid (findF_fs h name)
 have HOK := Lib.hid hok
 have HSM := Lib.hid hsm
 have HX := Lib.hid hx
 have HFI := Lib.hid (find_any (h.ext hx) name hl)
 have HW := Lib.hid hW2
 have HP0 := Lib.hid hp0
 have HP1 := Lib.hid hp1
 have B0 := Lib.hid b0
 have B1 := Lib.hid b1
 unfold findN findV lookV at HFI
 try unfold strV at r1
 try unfold strV at q1
 unfold strV at HFI ⊢
 try unfold strV at HW
 clear h hok hsm hx hW2 b0 b1 hp0 hp1
 cases hon : d.on
 ·rw [hon] at HFI
  have hres : dDrop d name = (d, 150) := by unfold dDrop; simp [hon]
  rw [hres]
  go_enter Tryz.func67, Tryz.ntmps67
  go_wp2_with fail
  rw [← HP1.out, ← HP0.out, ← HW.out]
  clear HW r1
  refine HFI.out.mono ?_
  rintro e w1 ⟨rfl, rfl⟩
  go_wp2_with fail
  go_ret
  exact DkPost.same HH.out (HX.out.trans (ext_alloc _ _)) 150
 ·rw [hon] at HFI
  cases hf : findM name ms with
  | none =>
   rw [hf] at HFI
   have hres : dDrop d name = (d, 152) := by unfold dDrop; simp [hon, HFF.out, hf]
   rw [hres]
   go_enter Tryz.func67, Tryz.ntmps67
   go_wp2_with fail
   rw [← HP1.out, ← HP0.out, ← HW.out]
   clear HW r1
   refine HFI.out.mono ?_
   rintro e w1 ⟨rfl, rfl⟩
   go_wp2_with fail
   go_ret
   exact DkPost.same HH.out (HX.out.trans (ext_alloc _ _)) 152
  | some m =>
   rw [hf] at HFI
   have hres : dDrop d name = d.count (fun d : Dk => { d with fs := d.fs.filter fun f => !(f.name == name) }) := by unfold dDrop; simp [hon, HFF.out, hf]
   rw [hres]
   obtain ⟨W3, hW3⟩ : ∃ W3, W3 = W2.alloc (.cells #[.pointer (some ⟨m.blk, 0, none⟩)] 102) := ⟨_, rfl⟩
   obtain ⟨p2, hp2⟩ : ∃ p, p = W2.heap.size := ⟨_, rfl⟩
   have hx0 : Ext W2 W3 := by rw [hW3]; exact ext_alloc _ _
   have hx1 : Ext W W3 := HX.out.trans hx0
   have hb2 : BlkT W3 p2 102 [.pointer (some ⟨m.blk, 0, none⟩)] := by rw [hW3, hp2]; exact BlkT.new W2 #[.pointer (some ⟨m.blk, 0, none⟩)] 102
   have hd1 := HH.out.ext hx1
   have HD1 := Lib.hid (DkS.ext HH.out hx1)
   have HC := Lib.hid (count_Drop hd1 HOK.out HSM.out #[.pointer (some ⟨p0, 0, none⟩), .pointer (some ⟨p2, 0, none⟩), .pointer (some ⟨p1, 0, none⟩)] (fun w' => ∃ ms', DkS z W3 w' bd bm pl d ms pl ((fun d : Dk => { d with fs := d.fs.filter fun f => !(f.name == name) }) d.tick) ms') (fun w hs => by
    have keep : ∀ {p : Nat} {T : TypeId} {L : List Value}, W.heap.size ≤ p → BlkT W3 p T L → BlkT w p T L := fun hp hb => hb.kb hs.kb (fun hd => by have := HH.out.lt _ hd; omega)
    refine (drop1_any hs.dk HOK.out.tick hl hf (keep (by rw [HP0.out]; exact Nat.le_refl _) (B0.out.ext hx0)) (keep (by rw [hp2]; exact HX.out.size) hb2) (keep (by rw [HP1.out]; exact Nat.le_succ _) (B1.out.ext hx0))).mono ?_
    rintro e w' ⟨he, ms', hs'⟩
    exact ⟨he, ms', hs.trans hs'⟩))
   have r0 : (W2.alloc (.cells #[.pointer (some ⟨m.blk, 0, none⟩)] 102)).cell? ⟨p0, 0, none⟩ = some (.pointer (some ⟨bd, 0, none⟩)) := by rw [← hW3]; exact (B0.out.ext hx0).blk.cell (i := 0) rfl
   have HW3 := Lib.hid hW3
   have HP2 := Lib.hid hp2
   clear hx0 hx1 hb2 hd1 hW3 hp2
   go_enter Tryz.func67, Tryz.ntmps67
   go_wp2_with fail
   rw [← HP1.out, ← HP0.out, ← HW.out]
   clear HW r1
   refine HFI.out.mono ?_
   rintro e w1 ⟨rfl, rfl⟩
   go_wp2_with fail
   rw [← HP2.out, ← HW3.out]
   go_wp2_with fail
   refine HC.out.mono ?_
   intro e w' hcnt
   have hp := DkPost.of_count HD1.out (fun d : Dk => { d with fs := d.fs.filter fun f => !(f.name == name) }) hcnt
   obtain ⟨pl', ms', rfl, hfin⟩ := hp
   have HFIN := Lib.hid hfin
   clear hfin hcnt
   go_wp2_with fail
   go_ret
   exact ⟨pl', ms', rfl, HFIN.out⟩

theorem cut_any {z bd bm pl : Nat} {W : World} {d : Dk} {ms : List FilM} (h : DkM z W bd bm pl d ms) (hok : d.Ok) (hsm : d.Small) (hz : z ≤ W.heap.size) (name : List UInt8) (hl : name.length ≤ maxLen) (n : Int) :
  Calls Tryz.prog 40 #[.pointer (some ⟨bd, 0, none⟩), strV name, .int .i64 n] W (DkPost z W bd bm pl d ms (dCut d name n)) := by
 obtain ⟨W2, hW2⟩ : ∃ W2, W2 = (W.alloc (.cells #[.pointer (some ⟨bd, 0, none⟩)] 24)).alloc (.cells #[.int .i64 n] 3) := ⟨_, rfl⟩
 have hx : Ext W W2 := by rw [hW2]; exact (ext_alloc _ _).trans (ext_alloc _ _)
 have b0 : BlkT W2 W.heap.size 24 [.pointer (some ⟨bd, 0, none⟩)] := by rw [hW2]; exact (BlkT.new W #[.pointer (some ⟨bd, 0, none⟩)] 24).ext (ext_alloc _ _)
 have b1 : BlkT W2 (W.heap.size + 1) 3 [.int .i64 n] := by rw [hW2]; exact BlkT.new2 W _ #[.int .i64 n] 3
 have r1 : ((W.alloc (.cells #[.pointer (some ⟨bd, 0, none⟩)] 24)).alloc (.cells #[.int .i64 n] 3)).cell? ⟨W.heap.size + 1, 0, none⟩ = some (.int .i64 n) := by rw [← hW2]; exact b1.blk.cell (i := 0) rfl
 obtain ⟨p0, hp0⟩ : ∃ p, p = W.heap.size := ⟨_, rfl⟩
 obtain ⟨p1, hp1⟩ : ∃ p, p = W.heap.size + 1 := ⟨_, rfl⟩
 rw [← hp0] at b0
 rw [← hp1] at b1
 have q0 := b0.blk.cell (i := 0) rfl
 have q1 := b1.blk.cell (i := 0) rfl
 have HH := Lib.hid h
 have HFF := Lib.hid (findF_fs h name)
 have HOK := Lib.hid hok
 have HSM := Lib.hid hsm
 have HX := Lib.hid hx
 have HFI := Lib.hid (find_any (h.ext hx) name hl)
 have HW := Lib.hid hW2
 have HP0 := Lib.hid hp0
 have HP1 := Lib.hid hp1
 have B0 := Lib.hid b0
 have B1 := Lib.hid b1
 unfold findN findV lookV at HFI
 try unfold strV at r1
 try unfold strV at q1
 unfold strV at HFI ⊢
 try unfold strV at HW
 clear h hok hsm hx hW2 b0 b1 hp0 hp1
 cases hon : d.on
 ·rw [hon] at HFI
  have hres : dCut d name n = (d, 150) := by unfold dCut; simp [hon]
  rw [hres]
  go_enter Tryz.func40, Tryz.ntmps40
  go_wp2_with fail
  rw [← HP1.out, ← HP0.out, ← HW.out]
  clear HW r1
  refine HFI.out.mono ?_
  rintro e w1 ⟨rfl, rfl⟩
  go_wp2_with fail
  go_ret
  exact DkPost.same HH.out (HX.out.trans (ext_alloc _ _)) 150
 ·rw [hon] at HFI
  cases hf : findM name ms with
  | none =>
   rw [hf] at HFI
   have hres : dCut d name n = (d, 152) := by unfold dCut; simp [hon, HFF.out, hf]
   rw [hres]
   go_enter Tryz.func40, Tryz.ntmps40
   go_wp2_with fail
   rw [← HP1.out, ← HP0.out, ← HW.out]
   clear HW r1
   refine HFI.out.mono ?_
   rintro e w1 ⟨rfl, rfl⟩
   go_wp2_with fail
   go_ret
   exact DkPost.same HH.out (HX.out.trans (ext_alloc _ _)) 152
  | some m =>
   rw [hf] at HFI
   obtain ⟨W3, hW3⟩ : ∃ W3, W3 = W2.alloc (.cells #[.pointer (some ⟨m.blk, 0, none⟩)] 102) := ⟨_, rfl⟩
   obtain ⟨p2, hp2⟩ : ∃ p, p = W2.heap.size := ⟨_, rfl⟩
   have hx0 : Ext W2 W3 := by rw [hW3]; exact ext_alloc _ _
   have hx1 : Ext W W3 := HX.out.trans hx0
   have hb2 : BlkT W3 p2 102 [.pointer (some ⟨m.blk, 0, none⟩)] := by rw [hW3, hp2]; exact BlkT.new W2 #[.pointer (some ⟨m.blk, 0, none⟩)] 102
   have hd1 := HH.out.ext hx1
   obtain ⟨hm, hn⟩ := findM_mem hf
   have bf := (hd1.files m hm).1.blk
   obtain ⟨A, c, hmv, g1, g2, g3, g4⟩ := (hd1.bytes m hm).bs.open_
   rw [hmv] at bf
   have hlen : m.b.length ≤ 1048576 := HOK.out.len m.fil (by rw [← HH.out.fs]; exact List.mem_map.2 ⟨m, hm, rfl⟩)
   have HD := Lib.hid hd1
   have HX0 := Lib.hid hx0
   have HX1 := Lib.hid hx1
   have B2 := Lib.hid hb2
   have BF := Lib.hid bf
   have HW3 := Lib.hid hW3
   have HP2 := Lib.hid hp2
   clear hx0 hx1 hb2 hd1 hW3 hp2 bf g3 g4 hmv hm
   by_cases hn0 : n < 0
   ·have hres : dCut d name n = (d, 2) := by
     unfold dCut
     have hc : n < 0 ∨ (m.fil.b.length : Int) < n := .inl hn0
     simp only [hon, HFF.out, hf, Option.map_some, Bool.true_eq_false, if_false, hc, if_true]
    rw [hres]
    go_enter Tryz.func40, Tryz.ntmps40
    go_wp2_with fail
    rw [← HP1.out, ← HP0.out, ← HW.out]
    clear HW r1
    refine HFI.out.mono ?_
    rintro e w1 ⟨rfl, rfl⟩
    go_wp2_with fail
    rw [← HP2.out, ← HW3.out]
    refine wp_region_turns 0 [(0, 0, false), (0, 0, false), (0, 0, false), (0, 0, false), (0, 0, false), (0, 0, false), (0, 0, false), (0, 0, false), (0, 0, false), (0, 0, false), (0, 0, false), (0, 0, false)] (fun w0 c => w0) (by kernel_rfl) (by kernel_rfl) (by kernel_rfl) (fun _ => rfl) ?_
    intro w0 ws hext hsz hws
    have q0 : ws 0 = w0 := hws 0
    clear hws
    have b1w0 := (B1.out.ext HX0.out).blk.ext hext
    have b2w0 := B2.out.blk.ext hext
    have bfw0 := BF.out.ext hext
    refine detT_read rfl (.int .i64 n) (fun _ _ => rfl) ?_ ?_
    ·rintro ρ ⟨h5, -⟩ c hc1 hc2
     have e5 : ρ 5 = .pointer (some ⟨p1, 0, none⟩) := h5
     have hc : c = 0 := by have h1 : 0 ≤ c := hc1; have h2 : c ≤ 0 := hc2; omega
     rcases hc with rfl
     ·rw [q0]
      have c := b1w0.cell (i := 0) rfl
      simp [execOp, evR, e5, c, go_sem]
    refine detT_pure rfl (.bool true) (fun _ _ => rfl) ?_ ?_
    ·rintro ρ ⟨h20, -⟩ w'
     have e20 : ρ 20 = .int .i64 n := h20
     simp [execOp, evR, e20, go_sem]
     omega
    refine detT_pure rfl (.bool true) (fun _ _ => rfl) ?_ ?_
    ·rintro ρ ⟨h21, -⟩ w'
     have e21 : ρ 21 = .bool true := h21
     simp [execOp, evR, e21, go_sem]
    refine detT_pass rfl (fun ρ hk => by obtain ⟨_, hg, -⟩ := hk; have eg : ρ 22 = .bool true := hg; simp [wantedR, Region.wanted, asBoolR, eg]) ?_
    refine detT_pass rfl (fun ρ hk => by obtain ⟨_, hg, -⟩ := hk; have eg : ρ 22 = .bool true := hg; simp [wantedR, Region.wanted, asBoolR, eg]) ?_
    refine detT_pass rfl (fun ρ hk => by obtain ⟨_, hg, -⟩ := hk; have eg : ρ 22 = .bool true := hg; simp [wantedR, Region.wanted, asBoolR, eg]) ?_
    refine detT_pass rfl (fun ρ hk => by obtain ⟨_, hg, -⟩ := hk; have eg : ρ 22 = .bool true := hg; simp [wantedR, Region.wanted, asBoolR, eg]) ?_
    refine detT_pass rfl (fun ρ hk => by obtain ⟨_, hg, -⟩ := hk; have eg : ρ 22 = .bool true := hg; simp [wantedR, Region.wanted, asBoolR, eg]) ?_
    refine detT_pass rfl (fun ρ hk => by obtain ⟨_, hg, -⟩ := hk; have eg : ρ 22 = .bool true := hg; simp [wantedR, Region.wanted, asBoolR, eg]) ?_
    refine detT_pass rfl (fun ρ hk => by obtain ⟨_, _, hg, -⟩ := hk; have eg : ρ 22 = .bool true := hg; simp [wantedR, Region.wanted, asBoolR, eg]) ?_
    refine detT_pure rfl (.bool true) (fun _ _ => rfl) ?_ ?_
    ·rintro ρ ⟨h22, h29, -⟩ w'
     have e22 : ρ 22 = .bool true := h22
     have e29 : ρ 29 = undef := h29
     simp [execOp, evR, e22, e29, go_sem]
    refine detT_pure rfl (.bool true) (fun _ _ => rfl) ?_ ?_
    ·rintro ρ ⟨h30, -⟩ w'
     have e30 : ρ 30 = .bool true := h30
     simp [execOp, evR, e30, go_sem]
    simp only [DetT, applyV, Act.put, List.setIfInBounds_toArray, List.set_cons_zero, List.set_cons_succ]
    rw [q0]
    go_wp2_with fail
    go_ret
    exact DkPost.same HH.out (HX1.out.trans hext) 2
   by_cases hn1 : (m.b.length : Int) < n
   ·have hres : dCut d name n = (d, 2) := by
     unfold dCut
     have hc : n < 0 ∨ (m.fil.b.length : Int) < n := .inr hn1
     simp only [hon, HFF.out, hf, Option.map_some, Bool.true_eq_false, if_false, hc, if_true]
    rw [hres]
    go_enter Tryz.func40, Tryz.ntmps40
    go_wp2_with fail
    rw [← HP1.out, ← HP0.out, ← HW.out]
    clear HW r1
    refine HFI.out.mono ?_
    rintro e w1 ⟨rfl, rfl⟩
    go_wp2_with fail
    rw [← HP2.out, ← HW3.out]
    refine wp_region_turns 0 [(0, 0, false), (0, 0, false), (0, 0, false), (0, 0, false), (0, 0, false), (0, 0, false), (0, 0, false), (0, 0, false), (0, 0, false), (0, 0, false), (0, 0, false), (0, 0, false)] (fun w0 c => w0) (by kernel_rfl) (by kernel_rfl) (by kernel_rfl) (fun _ => rfl) ?_
    intro w0 ws hext hsz hws
    have q0 : ws 0 = w0 := hws 0
    clear hws
    have b1w0 := (B1.out.ext HX0.out).blk.ext hext
    have b2w0 := B2.out.blk.ext hext
    have bfw0 := BF.out.ext hext
    refine detT_read rfl (.int .i64 n) (fun _ _ => rfl) ?_ ?_
    ·rintro ρ ⟨h5, -⟩ c hc1 hc2
     have e5 : ρ 5 = .pointer (some ⟨p1, 0, none⟩) := h5
     have hc : c = 0 := by have h1 : 0 ≤ c := hc1; have h2 : c ≤ 0 := hc2; omega
     rcases hc with rfl
     ·rw [q0]
      have c := b1w0.cell (i := 0) rfl
      simp [execOp, evR, e5, c, go_sem]
    refine detT_pure rfl (.bool false) (fun _ _ => rfl) ?_ ?_
    ·rintro ρ ⟨h20, -⟩ w'
     have e20 : ρ 20 = .int .i64 n := h20
     simp [execOp, evR, e20, go_sem]
     omega
    refine detT_pure rfl (.bool false) (fun _ _ => rfl) ?_ ?_
    ·rintro ρ ⟨h21, -⟩ w'
     have e21 : ρ 21 = .bool false := h21
     simp [execOp, evR, e21, go_sem]
    refine detT_read rfl (.int .i64 n) (fun ρ hk => by obtain ⟨_, hg, -⟩ := hk; have eg : ρ 22 = .bool false := hg; simp [wantedR, Region.wanted, asBoolR, eg]) ?_ ?_
    ·rintro ρ ⟨h5, -⟩ c hc1 hc2
     have e5 : ρ 5 = .pointer (some ⟨p1, 0, none⟩) := h5
     have hc : c = 0 := by have h1 : 0 ≤ c := hc1; have h2 : c ≤ 0 := hc2; omega
     rcases hc with rfl
     ·rw [q0]
      have c := b1w0.cell (i := 0) rfl
      simp [execOp, evR, e5, c, go_sem]
    refine detT_read rfl (.pointer (some ⟨m.blk, 0, none⟩)) (fun ρ hk => by obtain ⟨_, hg, -⟩ := hk; have eg : ρ 22 = .bool false := hg; simp [wantedR, Region.wanted, asBoolR, eg]) ?_ ?_
    ·rintro ρ ⟨h7, -⟩ c hc1 hc2
     have e7 : ρ 7 = .pointer (some ⟨p2, 0, none⟩) := h7
     have hc : c = 0 := by have h1 : 0 ≤ c := hc1; have h2 : c ≤ 0 := hc2; omega
     rcases hc with rfl
     ·rw [q0]
      have c := b2w0.cell (i := 0) rfl
      simp [execOp, evR, e7, c, go_sem]
    refine detT_pure rfl (.pointer (some ⟨m.blk, 0, none⟩)) (fun ρ hk => by obtain ⟨_, hg, -⟩ := hk; have eg : ρ 22 = .bool false := hg; simp [wantedR, Region.wanted, asBoolR, eg]) ?_ ?_
    ·rintro ρ ⟨h24, -⟩ w'
     have e24 : ρ 24 = .pointer (some ⟨m.blk, 0, none⟩) := h24
     simp [execOp, evR, e24, go_sem]
    refine detT_pure rfl (.pointer (some ⟨m.blk, 0, none⟩)) (fun ρ hk => by obtain ⟨_, hg, -⟩ := hk; have eg : ρ 22 = .bool false := hg; simp [wantedR, Region.wanted, asBoolR, eg]) ?_ ?_
    ·rintro ρ ⟨h25, -⟩ w'
     have e25 : ρ 25 = .pointer (some ⟨m.blk, 0, none⟩) := h25
     simp [execOp, evR, e25, go_sem]
    refine detT_read rfl (.slice A m.b.length c) (fun ρ hk => by obtain ⟨_, hg, -⟩ := hk; have eg : ρ 22 = .bool false := hg; simp [wantedR, Region.wanted, asBoolR, eg]) ?_ ?_
    ·rintro ρ ⟨h26, -⟩ c hc1 hc2
     have e26 : ρ 26 = .pointer (some ⟨m.blk, 0, none⟩) := h26
     have hc : c = 0 := by have h1 : 0 ≤ c := hc1; have h2 : c ≤ 0 := hc2; omega
     rcases hc with rfl
     ·rw [q0]
      have c := bfw0.cell (i := 0) rfl
      simp [execOp, evR, e26, c, go_sem]
    refine detT_pure rfl (.int .i64 (m.b.length : Int)) (fun ρ hk => by obtain ⟨_, hg, -⟩ := hk; have eg : ρ 22 = .bool false := hg; simp [wantedR, Region.wanted, asBoolR, eg]) ?_ ?_
    ·rintro ρ ⟨h27, -⟩ w'
     have e27 : ρ 27 = .slice A m.b.length c := h27
     simp [execOp, evR, e27, go_sem]
    refine detT_pure rfl (.bool true) (fun ρ hk => by obtain ⟨_, _, hg, -⟩ := hk; have eg : ρ 22 = .bool false := hg; simp [wantedR, Region.wanted, asBoolR, eg]) ?_ ?_
    ·rintro ρ ⟨h23, h28, -⟩ w'
     have e23 : ρ 23 = .int .i64 n := h23
     have e28 : ρ 28 = .int .i64 (m.b.length : Int) := h28
     simp [execOp, evR, e23, e28, go_sem]
     omega
    refine detT_pure rfl (.bool true) (fun _ _ => rfl) ?_ ?_
    ·rintro ρ ⟨h22, h29, -⟩ w'
     have e22 : ρ 22 = .bool false := h22
     have e29 : ρ 29 = .bool true := h29
     simp [execOp, evR, e22, e29, go_sem]
    refine detT_pure rfl (.bool true) (fun _ _ => rfl) ?_ ?_
    ·rintro ρ ⟨h30, -⟩ w'
     have e30 : ρ 30 = .bool true := h30
     simp [execOp, evR, e30, go_sem]
    simp only [DetT, applyV, Act.put, List.setIfInBounds_toArray, List.set_cons_zero, List.set_cons_succ]
    rw [q0]
    go_wp2_with fail
    go_ret
    exact DkPost.same HH.out (HX1.out.trans hext) 2
   have hres : dCut d name n = d.count (fun d : Dk => d.upd name fun f => ⟨f.name, f.b.take n.toNat, min f.sure n.toNat⟩) := by
    unfold dCut
    have hc : ¬ (n < 0 ∨ (m.fil.b.length : Int) < n) := fun h => h.elim hn0 hn1
    simp only [hon, HFF.out, hf, Option.map_some, Bool.true_eq_false, if_false, hc]
   rw [hres]
   go_enter Tryz.func40, Tryz.ntmps40
   go_wp2_with fail
   rw [← HP1.out, ← HP0.out, ← HW.out]
   clear HW r1
   refine HFI.out.mono ?_
   rintro e w1 ⟨rfl, rfl⟩
   go_wp2_with fail
   rw [← HP2.out, ← HW3.out]
   refine wp_region_turns 0 [(0, 0, false), (0, 0, false), (0, 0, false), (0, 0, false), (0, 0, false), (0, 0, false), (0, 0, false), (0, 0, false), (0, 0, false), (0, 0, false), (0, 0, false), (0, 0, false)] (fun w0 c => w0) (by kernel_rfl) (by kernel_rfl) (by kernel_rfl) (fun _ => rfl) ?_
   intro w0 ws hext hsz hws
   have q0 : ws 0 = w0 := hws 0
   clear hws
   have b1w0 := (B1.out.ext HX0.out).blk.ext hext
   have b2w0 := B2.out.blk.ext hext
   have bfw0 := BF.out.ext hext
   refine detT_read rfl (.int .i64 n) (fun _ _ => rfl) ?_ ?_
   ·rintro ρ ⟨h5, -⟩ c hc1 hc2
    have e5 : ρ 5 = .pointer (some ⟨p1, 0, none⟩) := h5
    have hc : c = 0 := by have h1 : 0 ≤ c := hc1; have h2 : c ≤ 0 := hc2; omega
    rcases hc with rfl
    ·rw [q0]
     have c := b1w0.cell (i := 0) rfl
     simp [execOp, evR, e5, c, go_sem]
   refine detT_pure rfl (.bool false) (fun _ _ => rfl) ?_ ?_
   ·rintro ρ ⟨h20, -⟩ w'
    have e20 : ρ 20 = .int .i64 n := h20
    simp [execOp, evR, e20, go_sem]
    omega
   refine detT_pure rfl (.bool false) (fun _ _ => rfl) ?_ ?_
   ·rintro ρ ⟨h21, -⟩ w'
    have e21 : ρ 21 = .bool false := h21
    simp [execOp, evR, e21, go_sem]
   refine detT_read rfl (.int .i64 n) (fun ρ hk => by obtain ⟨_, hg, -⟩ := hk; have eg : ρ 22 = .bool false := hg; simp [wantedR, Region.wanted, asBoolR, eg]) ?_ ?_
   ·rintro ρ ⟨h5, -⟩ c hc1 hc2
    have e5 : ρ 5 = .pointer (some ⟨p1, 0, none⟩) := h5
    have hc : c = 0 := by have h1 : 0 ≤ c := hc1; have h2 : c ≤ 0 := hc2; omega
    rcases hc with rfl
    ·rw [q0]
     have c := b1w0.cell (i := 0) rfl
     simp [execOp, evR, e5, c, go_sem]
   refine detT_read rfl (.pointer (some ⟨m.blk, 0, none⟩)) (fun ρ hk => by obtain ⟨_, hg, -⟩ := hk; have eg : ρ 22 = .bool false := hg; simp [wantedR, Region.wanted, asBoolR, eg]) ?_ ?_
   ·rintro ρ ⟨h7, -⟩ c hc1 hc2
    have e7 : ρ 7 = .pointer (some ⟨p2, 0, none⟩) := h7
    have hc : c = 0 := by have h1 : 0 ≤ c := hc1; have h2 : c ≤ 0 := hc2; omega
    rcases hc with rfl
    ·rw [q0]
     have c := b2w0.cell (i := 0) rfl
     simp [execOp, evR, e7, c, go_sem]
   refine detT_pure rfl (.pointer (some ⟨m.blk, 0, none⟩)) (fun ρ hk => by obtain ⟨_, hg, -⟩ := hk; have eg : ρ 22 = .bool false := hg; simp [wantedR, Region.wanted, asBoolR, eg]) ?_ ?_
   ·rintro ρ ⟨h24, -⟩ w'
    have e24 : ρ 24 = .pointer (some ⟨m.blk, 0, none⟩) := h24
    simp [execOp, evR, e24, go_sem]
   refine detT_pure rfl (.pointer (some ⟨m.blk, 0, none⟩)) (fun ρ hk => by obtain ⟨_, hg, -⟩ := hk; have eg : ρ 22 = .bool false := hg; simp [wantedR, Region.wanted, asBoolR, eg]) ?_ ?_
   ·rintro ρ ⟨h25, -⟩ w'
    have e25 : ρ 25 = .pointer (some ⟨m.blk, 0, none⟩) := h25
    simp [execOp, evR, e25, go_sem]
   refine detT_read rfl (.slice A m.b.length c) (fun ρ hk => by obtain ⟨_, hg, -⟩ := hk; have eg : ρ 22 = .bool false := hg; simp [wantedR, Region.wanted, asBoolR, eg]) ?_ ?_
   ·rintro ρ ⟨h26, -⟩ c hc1 hc2
    have e26 : ρ 26 = .pointer (some ⟨m.blk, 0, none⟩) := h26
    have hc : c = 0 := by have h1 : 0 ≤ c := hc1; have h2 : c ≤ 0 := hc2; omega
    rcases hc with rfl
    ·rw [q0]
     have c := bfw0.cell (i := 0) rfl
     simp [execOp, evR, e26, c, go_sem]
   refine detT_pure rfl (.int .i64 (m.b.length : Int)) (fun ρ hk => by obtain ⟨_, hg, -⟩ := hk; have eg : ρ 22 = .bool false := hg; simp [wantedR, Region.wanted, asBoolR, eg]) ?_ ?_
   ·rintro ρ ⟨h27, -⟩ w'
    have e27 : ρ 27 = .slice A m.b.length c := h27
    simp [execOp, evR, e27, go_sem]
   refine detT_pure rfl (.bool false) (fun ρ hk => by obtain ⟨_, _, hg, -⟩ := hk; have eg : ρ 22 = .bool false := hg; simp [wantedR, Region.wanted, asBoolR, eg]) ?_ ?_
   ·rintro ρ ⟨h23, h28, -⟩ w'
    have e23 : ρ 23 = .int .i64 n := h23
    have e28 : ρ 28 = .int .i64 (m.b.length : Int) := h28
    simp [execOp, evR, e23, e28, go_sem]
    omega
   refine detT_pure rfl (.bool false) (fun _ _ => rfl) ?_ ?_
   ·rintro ρ ⟨h22, h29, -⟩ w'
    have e22 : ρ 22 = .bool false := h22
    have e29 : ρ 29 = .bool false := h29
    simp [execOp, evR, e22, e29, go_sem]
   refine detT_pure rfl (.bool false) (fun _ _ => rfl) ?_ ?_
   ·rintro ρ ⟨h30, -⟩ w'
    have e30 : ρ 30 = .bool false := h30
    simp [execOp, evR, e30, go_sem]
   simp only [DetT, applyV, Act.put, List.setIfInBounds_toArray, List.set_cons_zero, List.set_cons_succ]
   rw [q0]
   have HD1 := Lib.hid (DkS.ext HH.out (HX1.out.trans hext))
   have HC := Lib.hid (count_Cut (HD.out.ext hext) HOK.out HSM.out #[.pointer (some ⟨p0, 0, none⟩), .pointer (some ⟨p2, 0, none⟩), .pointer (some ⟨p1, 0, none⟩)] (fun w' => ∃ ms', DkS z w0 w' bd bm pl d ms pl ((fun d : Dk => d.upd name fun f => ⟨f.name, f.b.take n.toNat, min f.sure n.toNat⟩) d.tick) ms') (fun w hs => by
    have keep : ∀ {p : Nat} {T : TypeId} {L : List Value}, W.heap.size ≤ p → BlkT w0 p T L → BlkT w p T L := fun hp hb => hb.kb hs.kb (fun hd => by have := HH.out.lt _ hd; omega)
    have eN : (n.toNat : Int) = n := Int.toNat_of_nonneg (by omega)
    refine (cut1_any hs.dk HOK.out.tick hf (N := n.toNat) (by omega) (keep (by rw [HP0.out]; exact Nat.le_refl _) ((B0.out.ext HX0.out).ext hext)) (keep (by rw [HP2.out]; exact HX.out.size) (B2.out.ext hext)) (keep (by rw [HP1.out]; exact Nat.le_succ _) (by rw [eN]; exact (B1.out.ext HX0.out).ext hext))).mono ?_
    rintro e w' ⟨he, ms', hs'⟩
    exact ⟨he, ms', hs.trans hs'⟩))
   have r0 := ((B0.out.ext HX0.out).ext hext).blk.cell (i := 0) rfl
   clear b1w0 b2w0 bfw0
   go_wp2_with fail
   refine HC.out.mono ?_
   intro e w' hcnt
   have hp := DkPost.of_count HD1.out (fun d : Dk => d.upd name fun f => ⟨f.name, f.b.take n.toNat, min f.sure n.toNat⟩) hcnt
   obtain ⟨pl', ms', rfl, hfin⟩ := hp
   have HFIN := Lib.hid hfin
   clear hfin hcnt
   go_wp2_with fail
   go_ret
   exact ⟨pl', ms', rfl, HFIN.out⟩
end Go.Proofs.YtagghghoimpofaaGreatDoor
