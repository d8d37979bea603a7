/-
  Layer 15: Sync, Cut, Drop, Append of the program's disk.
-/
import Derived.Test.YtkejoiknnigllaaDkApp
namespace Go.Proofs.Ytkejoiknnigllaa
open Go Go.RowKit Mono
open Go.Maps (Keyed has size)
set_option linter.unusedVariables false
set_option linter.unusedSimpArgs false
set_option maxRecDepth 100000
set_option maxHeartbeats 1000000
theorem BlkT.new2 (W : World) (o : Obj) (C : Array Value) (T : TypeId) : BlkT ((W.alloc o).alloc (.cells C T)) (W.heap.size + 1) T C.toList := by
  have := BlkT.new (W.alloc o) C T
  rw [World.size_alloc] at this
  exact this
theorem BlkT.new3 (W : World) (o o' : Obj) (C : Array Value) (T : TypeId) : BlkT (((W.alloc o).alloc o').alloc (.cells C T)) (W.heap.size + 1 + 1) T C.toList := by
  have := BlkT.new2 (W.alloc o) o' C T
  rw [World.size_alloc] at this
  exact this

theorem sync_any {z bd bm pl : Nat} {W : World} {d : Dk} {ms : List FilM} (h : DkM z W bd bm pl d ms) (hok : d.Ok) (hsm : d.Small) (hz : z ≤ W.heap.size) (name : List UInt8) (hl : name.length ≤ maxLen) :
    Calls Try.prog 18 #[.pointer (some ⟨bd, 0, none⟩), strV name] W (DkPost z W bd bm pl d ms (dSync d name)) := by
  have HH := Lib.hid h
  have HFF := Lib.hid (findF_fs h name)
  have HOK := Lib.hid hok
  have HSM := Lib.hid hsm
  have hxb : Ext W (W) := Ext.refl _
  have HX := Lib.hid hxb
  have HFI := Lib.hid (find_any (h.ext hxb) name hl)
  unfold findN findV lookV at HFI
  clear h hok hsm hxb
  cases hon : d.on
  · rw [hon] at HFI
    have hres : dSync d name = (d, 150) := by unfold dSync; simp [hon]
    rw [hres]
    go_enter Try.func18, Try.ntmps18
    go_wp2_with fail
    refine HFI.out.mono ?_
    rintro e w1 ⟨rfl, rfl⟩
    go_wp2_with fail
    go_ret
    exact DkPost.same HH.out (ext_alloc _ _) 150
  · rw [hon] at HFI
    cases hf : findM name ms with
    | none =>
      rw [hf] at HFI
      have hres : dSync d name = (d, 152) := by unfold dSync; simp [hon, HFF.out, hf]
      rw [hres]
      go_enter Try.func18, Try.ntmps18
      go_wp2_with fail
      refine HFI.out.mono ?_
      rintro e w1 ⟨rfl, rfl⟩
      go_wp2_with fail
      go_ret
      exact DkPost.same HH.out (ext_alloc _ _) 152
    | some m =>
      rw [hf] at HFI
      have hres : dSync d name = d.count (fun d : Dk => d.upd name fun f => { f with sure := f.b.length }) := by unfold dSync; simp [hon, HFF.out, hf]
      rw [hres]
      have hx1 := ext_alloc W (.cells #[.pointer (some ⟨m.blk, 0, none⟩)] 67)
      have hb1 : BlkT (W.alloc (.cells #[.pointer (some ⟨m.blk, 0, none⟩)] 67)) W.heap.size 67 [.pointer (some ⟨m.blk, 0, none⟩)] := BlkT.new W #[.pointer (some ⟨m.blk, 0, none⟩)] 67
      have hd1 := HH.out.ext hx1
      have HD1 := Lib.hid (DkS.ext HH.out hx1)
      have HC := Lib.hid (count_Sync hd1 HOK.out HSM.out #[.pointer (some ⟨W.heap.size, 0, none⟩)] (fun w' => ∃ ms', DkS z (W.alloc (.cells #[.pointer (some ⟨m.blk, 0, none⟩)] 67)) w' bd bm pl d ms pl ((fun d : Dk => d.upd name fun f => { f with sure := f.b.length }) d.tick) ms') (fun w hs => by
        refine (sync1_any hs.dk HOK.out.tick hf (hb1.kb hs.kb (fun hd => by have := HH.out.lt _ hd; omega))).mono ?_
        rintro e w' ⟨he, ms', hs'⟩
        exact ⟨he, ms', hs.trans hs'⟩))
      clear hx1 hb1 hd1
      go_enter Try.func18, Try.ntmps18
      go_wp2_with fail
      refine HFI.out.mono ?_
      rintro e w1 ⟨rfl, rfl⟩
      go_wp2_with fail
      refine HC.out.mono ?_
      intro e w' hcnt
      have hp := DkPost.of_count HD1.out (fun d : Dk => d.upd name fun f => { f with sure := f.b.length }) hcnt
      obtain ⟨pl', ms', rfl, hfin⟩ := hp
      have HFIN := Lib.hid hfin
      clear hfin hcnt
      go_wp2_with fail
      go_ret
      exact ⟨pl', ms', rfl, HFIN.out⟩

theorem drop_any {z bd bm pl : Nat} {W : World} {d : Dk} {ms : List FilM} (h : DkM z W bd bm pl d ms) (hok : d.Ok) (hsm : d.Small) (hz : z ≤ W.heap.size) (name : List UInt8) (hl : name.length ≤ maxLen) :
    Calls Try.prog 15 #[.pointer (some ⟨bd, 0, none⟩), strV name] W (DkPost z W bd bm pl d ms (dDrop d name)) := by
  obtain ⟨W2, hW2⟩ : ∃ W2, W2 = (W.alloc (.cells #[.pointer (some ⟨bd, 0, none⟩)] 26)).alloc (.cells #[strV name] 9) := ⟨_, rfl⟩
  have hx : Ext W W2 := by rw [hW2]; exact (ext_alloc _ _).trans (ext_alloc _ _)
  have b0 : BlkT W2 W.heap.size 26 [.pointer (some ⟨bd, 0, none⟩)] := by rw [hW2]; exact (BlkT.new W #[.pointer (some ⟨bd, 0, none⟩)] 26).ext (ext_alloc _ _)
  have b1 : BlkT W2 (W.heap.size + 1) 9 [strV name] := by rw [hW2]; exact BlkT.new2 W _ #[strV name] 9
  have r1 : ((W.alloc (.cells #[.pointer (some ⟨bd, 0, none⟩)] 26)).alloc (.cells #[strV name] 9)).cell? ⟨W.heap.size + 1, 0, none⟩ = some (strV name) := by rw [← hW2]; exact b1.blk.cell (i := 0) rfl
  obtain ⟨p0, hp0⟩ : ∃ p, p = W.heap.size := ⟨_, rfl⟩
  obtain ⟨p1, hp1⟩ : ∃ p, p = W.heap.size + 1 := ⟨_, rfl⟩
  rw [← hp0] at b0
  rw [← hp1] at b1
  have q0 := b0.blk.cell (i := 0) rfl
  have q1 := b1.blk.cell (i := 0) rfl
  have HH := Lib.hid h
  have HFF := Lib.hid (findF_fs h name)
  have HOK := Lib.hid hok
  have HSM := Lib.hid hsm
  have HX := Lib.hid hx
  have HFI := Lib.hid (find_any (h.ext hx) name hl)
  have HW := Lib.hid hW2
  have HP0 := Lib.hid hp0
  have HP1 := Lib.hid hp1
  have B0 := Lib.hid b0
  have B1 := Lib.hid b1
  unfold findN findV lookV at HFI
  try unfold strV at r1
  try unfold strV at q1
  unfold strV at HFI ⊢
  try unfold strV at HW
  clear h hok hsm hx hW2 b0 b1 hp0 hp1
  cases hon : d.on
  · rw [hon] at HFI
    have hres : dDrop d name = (d, 150) := by unfold dDrop; simp [hon]
    rw [hres]
    go_enter Try.func15, Try.ntmps15
    go_wp2_with fail
    rw [← HP1.out, ← HP0.out, ← HW.out]
    clear HW r1
    refine HFI.out.mono ?_
    rintro e w1 ⟨rfl, rfl⟩
    go_wp2_with fail
    go_ret
    exact DkPost.same HH.out (HX.out.trans (ext_alloc _ _)) 150
  · rw [hon] at HFI
    cases hf : findM name ms with
    | none =>
      rw [hf] at HFI
      have hres : dDrop d name = (d, 152) := by unfold dDrop; simp [hon, HFF.out, hf]
      rw [hres]
      go_enter Try.func15, Try.ntmps15
      go_wp2_with fail
      rw [← HP1.out, ← HP0.out, ← HW.out]
      clear HW r1
      refine HFI.out.mono ?_
      rintro e w1 ⟨rfl, rfl⟩
      go_wp2_with fail
      go_ret
      exact DkPost.same HH.out (HX.out.trans (ext_alloc _ _)) 152
    | some m =>
      rw [hf] at HFI
      have hres : dDrop d name = d.count (fun d : Dk => { d with fs := d.fs.filter fun f => !(f.name == name) }) := by unfold dDrop; simp [hon, HFF.out, hf]
      rw [hres]
      obtain ⟨W3, hW3⟩ : ∃ W3, W3 = W2.alloc (.cells #[.pointer (some ⟨m.blk, 0, none⟩)] 67) := ⟨_, rfl⟩
      obtain ⟨p2, hp2⟩ : ∃ p, p = W2.heap.size := ⟨_, rfl⟩
      have hx0 : Ext W2 W3 := by rw [hW3]; exact ext_alloc _ _
      have hx1 : Ext W W3 := HX.out.trans hx0
      have hb2 : BlkT W3 p2 67 [.pointer (some ⟨m.blk, 0, none⟩)] := by rw [hW3, hp2]; exact BlkT.new W2 #[.pointer (some ⟨m.blk, 0, none⟩)] 67
      have hd1 := HH.out.ext hx1
      have HD1 := Lib.hid (DkS.ext HH.out hx1)
      have HC := Lib.hid (count_Drop hd1 HOK.out HSM.out #[.pointer (some ⟨p0, 0, none⟩), .pointer (some ⟨p2, 0, none⟩), .pointer (some ⟨p1, 0, none⟩)] (fun w' => ∃ ms', DkS z W3 w' bd bm pl d ms pl ((fun d : Dk => { d with fs := d.fs.filter fun f => !(f.name == name) }) d.tick) ms') (fun w hs => by
        have keep : ∀ {p : Nat} {T : TypeId} {L : List Value}, W.heap.size ≤ p → BlkT W3 p T L → BlkT w p T L := fun hp hb => hb.kb hs.kb (fun hd => by have := HH.out.lt _ hd; omega)
        refine (drop1_any hs.dk HOK.out.tick hl hf (keep (by rw [HP0.out]; exact Nat.le_refl _) (B0.out.ext hx0)) (keep (by rw [hp2]; exact HX.out.size) hb2) (keep (by rw [HP1.out]; exact Nat.le_succ _) (B1.out.ext hx0))).mono ?_
        rintro e w' ⟨he, ms', hs'⟩
        exact ⟨he, ms', hs.trans hs'⟩))
      have r0 : (W2.alloc (.cells #[.pointer (some ⟨m.blk, 0, none⟩)] 67)).cell? ⟨p0, 0, none⟩ = some (.pointer (some ⟨bd, 0, none⟩)) := by rw [← hW3]; exact (B0.out.ext hx0).blk.cell (i := 0) rfl
      have HW3 := Lib.hid hW3
      have HP2 := Lib.hid hp2
      clear hx0 hx1 hb2 hd1 hW3 hp2
      go_enter Try.func15, Try.ntmps15
      go_wp2_with fail
      rw [← HP1.out, ← HP0.out, ← HW.out]
      clear HW r1
      refine HFI.out.mono ?_
      rintro e w1 ⟨rfl, rfl⟩
      go_wp2_with fail
      rw [← HP2.out, ← HW3.out]
      go_wp2_with fail
      refine HC.out.mono ?_
      intro e w' hcnt
      have hp := DkPost.of_count HD1.out (fun d : Dk => { d with fs := d.fs.filter fun f => !(f.name == name) }) hcnt
      obtain ⟨pl', ms', rfl, hfin⟩ := hp
      have HFIN := Lib.hid hfin
      clear hfin hcnt
      go_wp2_with fail
      go_ret
      exact ⟨pl', ms', rfl, HFIN.out⟩

theorem cut_any {z bd bm pl : Nat} {W : World} {d : Dk} {ms : List FilM} (h : DkM z W bd bm pl d ms) (hok : d.Ok) (hsm : d.Small) (hz : z ≤ W.heap.size) (name : List UInt8) (hl : name.length ≤ maxLen) (n : Int) :
    Calls Try.prog 25 #[.pointer (some ⟨bd, 0, none⟩), strV name, .int .i64 n] W (DkPost z W bd bm pl d ms (dCut d name n)) := by
  obtain ⟨W2, hW2⟩ : ∃ W2, W2 = (W.alloc (.cells #[.pointer (some ⟨bd, 0, none⟩)] 26)).alloc (.cells #[.int .i64 n] 3) := ⟨_, rfl⟩
  have hx : Ext W W2 := by rw [hW2]; exact (ext_alloc _ _).trans (ext_alloc _ _)
  have b0 : BlkT W2 W.heap.size 26 [.pointer (some ⟨bd, 0, none⟩)] := by rw [hW2]; exact (BlkT.new W #[.pointer (some ⟨bd, 0, none⟩)] 26).ext (ext_alloc _ _)
  have b1 : BlkT W2 (W.heap.size + 1) 3 [.int .i64 n] := by rw [hW2]; exact BlkT.new2 W _ #[.int .i64 n] 3
  have r1 : ((W.alloc (.cells #[.pointer (some ⟨bd, 0, none⟩)] 26)).alloc (.cells #[.int .i64 n] 3)).cell? ⟨W.heap.size + 1, 0, none⟩ = some (.int .i64 n) := by rw [← hW2]; exact b1.blk.cell (i := 0) rfl
  obtain ⟨p0, hp0⟩ : ∃ p, p = W.heap.size := ⟨_, rfl⟩
  obtain ⟨p1, hp1⟩ : ∃ p, p = W.heap.size + 1 := ⟨_, rfl⟩
  rw [← hp0] at b0
  rw [← hp1] at b1
  have q0 := b0.blk.cell (i := 0) rfl
  have q1 := b1.blk.cell (i := 0) rfl
  have HH := Lib.hid h
  have HFF := Lib.hid (findF_fs h name)
  have HOK := Lib.hid hok
  have HSM := Lib.hid hsm
  have HX := Lib.hid hx
  have HFI := Lib.hid (find_any (h.ext hx) name hl)
  have HW := Lib.hid hW2
  have HP0 := Lib.hid hp0
  have HP1 := Lib.hid hp1
  have B0 := Lib.hid b0
  have B1 := Lib.hid b1
  unfold findN findV lookV at HFI
  try unfold strV at r1
  try unfold strV at q1
  unfold strV at HFI ⊢
  try unfold strV at HW
  clear h hok hsm hx hW2 b0 b1 hp0 hp1
  cases hon : d.on
  · rw [hon] at HFI
    have hres : dCut d name n = (d, 150) := by unfold dCut; simp [hon]
    rw [hres]
    go_enter Try.func25, Try.ntmps25
    go_wp2_with fail
    rw [← HP1.out, ← HP0.out, ← HW.out]
    clear HW r1
    refine HFI.out.mono ?_
    rintro e w1 ⟨rfl, rfl⟩
    go_wp2_with fail
    go_ret
    exact DkPost.same HH.out (HX.out.trans (ext_alloc _ _)) 150
  · rw [hon] at HFI
    cases hf : findM name ms with
    | none =>
      rw [hf] at HFI
      have hres : dCut d name n = (d, 152) := by unfold dCut; simp [hon, HFF.out, hf]
      rw [hres]
      go_enter Try.func25, Try.ntmps25
      go_wp2_with fail
      rw [← HP1.out, ← HP0.out, ← HW.out]
      clear HW r1
      refine HFI.out.mono ?_
      rintro e w1 ⟨rfl, rfl⟩
      go_wp2_with fail
      go_ret
      exact DkPost.same HH.out (HX.out.trans (ext_alloc _ _)) 152
    | some m =>
      rw [hf] at HFI
      obtain ⟨W3, hW3⟩ : ∃ W3, W3 = W2.alloc (.cells #[.pointer (some ⟨m.blk, 0, none⟩)] 67) := ⟨_, rfl⟩
      obtain ⟨p2, hp2⟩ : ∃ p, p = W2.heap.size := ⟨_, rfl⟩
      have hx0 : Ext W2 W3 := by rw [hW3]; exact ext_alloc _ _
      have hx1 : Ext W W3 := HX.out.trans hx0
      have hb2 : BlkT W3 p2 67 [.pointer (some ⟨m.blk, 0, none⟩)] := by rw [hW3, hp2]; exact BlkT.new W2 #[.pointer (some ⟨m.blk, 0, none⟩)] 67
      have hd1 := HH.out.ext hx1
      obtain ⟨hm, hn⟩ := findM_mem hf
      have bf := (hd1.files m hm).1.blk
      obtain ⟨A, c, hmv, g1, g2, g3, g4⟩ := (hd1.bytes m hm).bs.open_
      rw [hmv] at bf
      have hlen : m.b.length ≤ 1048576 := HOK.out.len m.fil (by rw [← HH.out.fs]; exact List.mem_map.2 ⟨m, hm, rfl⟩)
      have HD := Lib.hid hd1
      have HX0 := Lib.hid hx0
      have HX1 := Lib.hid hx1
      have B2 := Lib.hid hb2
      have BF := Lib.hid bf
      have HW3 := Lib.hid hW3
      have HP2 := Lib.hid hp2
      clear hx0 hx1 hb2 hd1 hW3 hp2 bf g3 g4 hmv hm
      by_cases hn0 : n < 0
      · have hres : dCut d name n = (d, 2) := by
          unfold dCut
          have hc : n < 0 ∨ (m.fil.b.length : Int) < n := .inl hn0
          simp only [hon, HFF.out, hf, Option.map_some, Bool.true_eq_false, if_false, hc, if_true]
        rw [hres]
        go_enter Try.func25, Try.ntmps25
        go_wp2_with fail
        rw [← HP1.out, ← HP0.out, ← HW.out]
        clear HW r1
        refine HFI.out.mono ?_
        rintro e w1 ⟨rfl, rfl⟩
        go_wp2_with fail
        rw [← HP2.out, ← HW3.out]
        refine wp_region_turns 0 [(0, 0, false), (0, 0, false), (0, 0, false), (0, 0, false), (0, 0, false), (0, 0, false), (0, 0, false), (0, 0, false), (0, 0, false), (0, 0, false), (0, 0, false), (0, 0, false)] (fun w0 c => w0) (by kernel_rfl) (by kernel_rfl) (by kernel_rfl) (fun _ => rfl) ?_
        intro w0 ws hext hsz hws
        have q0 : ws 0 = w0 := hws 0
        clear hws
        have b1w0 := (B1.out.ext HX0.out).blk.ext hext
        have b2w0 := B2.out.blk.ext hext
        have bfw0 := BF.out.ext hext
        refine detT_read rfl (.int .i64 n) (fun _ _ => rfl) ?_ ?_
        · rintro ρ ⟨h5, -⟩ c hc1 hc2
          have e5 : ρ 5 = .pointer (some ⟨p1, 0, none⟩) := h5
          have hc : c = 0 := by have h1 : 0 ≤ c := hc1; have h2 : c ≤ 0 := hc2; omega
          rcases hc with rfl
          · rw [q0]
            have c := b1w0.cell (i := 0) rfl
            simp [execOp, evR, e5, c, go_sem]
        refine detT_pure rfl (.bool true) (fun _ _ => rfl) ?_ ?_
        · rintro ρ ⟨h20, -⟩ w'
          have e20 : ρ 20 = .int .i64 n := h20
          simp [execOp, evR, e20, go_sem]
          omega
        refine detT_pure rfl (.bool true) (fun _ _ => rfl) ?_ ?_
        · rintro ρ ⟨h21, -⟩ w'
          have e21 : ρ 21 = .bool true := h21
          simp [execOp, evR, e21, go_sem]
        refine detT_pass rfl (fun ρ hk => by obtain ⟨_, hg, -⟩ := hk; have eg : ρ 22 = .bool true := hg; simp [wantedR, Region.wanted, asBoolR, eg]) ?_
        refine detT_pass rfl (fun ρ hk => by obtain ⟨_, hg, -⟩ := hk; have eg : ρ 22 = .bool true := hg; simp [wantedR, Region.wanted, asBoolR, eg]) ?_
        refine detT_pass rfl (fun ρ hk => by obtain ⟨_, hg, -⟩ := hk; have eg : ρ 22 = .bool true := hg; simp [wantedR, Region.wanted, asBoolR, eg]) ?_
        refine detT_pass rfl (fun ρ hk => by obtain ⟨_, hg, -⟩ := hk; have eg : ρ 22 = .bool true := hg; simp [wantedR, Region.wanted, asBoolR, eg]) ?_
        refine detT_pass rfl (fun ρ hk => by obtain ⟨_, hg, -⟩ := hk; have eg : ρ 22 = .bool true := hg; simp [wantedR, Region.wanted, asBoolR, eg]) ?_
        refine detT_pass rfl (fun ρ hk => by obtain ⟨_, hg, -⟩ := hk; have eg : ρ 22 = .bool true := hg; simp [wantedR, Region.wanted, asBoolR, eg]) ?_
        refine detT_pass rfl (fun ρ hk => by obtain ⟨_, _, hg, -⟩ := hk; have eg : ρ 22 = .bool true := hg; simp [wantedR, Region.wanted, asBoolR, eg]) ?_
        refine detT_pure rfl (.bool true) (fun _ _ => rfl) ?_ ?_
        · rintro ρ ⟨h22, h29, -⟩ w'
          have e22 : ρ 22 = .bool true := h22
          have e29 : ρ 29 = undef := h29
          simp [execOp, evR, e22, e29, go_sem]
        refine detT_pure rfl (.bool true) (fun _ _ => rfl) ?_ ?_
        · rintro ρ ⟨h30, -⟩ w'
          have e30 : ρ 30 = .bool true := h30
          simp [execOp, evR, e30, go_sem]
        simp only [DetT, applyV, Act.put, List.setIfInBounds_toArray, List.set_cons_zero, List.set_cons_succ]
        rw [q0]
        go_wp2_with fail
        go_ret
        exact DkPost.same HH.out (HX1.out.trans hext) 2
      by_cases hn1 : (m.b.length : Int) < n
      · have hres : dCut d name n = (d, 2) := by
          unfold dCut
          have hc : n < 0 ∨ (m.fil.b.length : Int) < n := .inr hn1
          simp only [hon, HFF.out, hf, Option.map_some, Bool.true_eq_false, if_false, hc, if_true]
        rw [hres]
        go_enter Try.func25, Try.ntmps25
        go_wp2_with fail
        rw [← HP1.out, ← HP0.out, ← HW.out]
        clear HW r1
        refine HFI.out.mono ?_
        rintro e w1 ⟨rfl, rfl⟩
        go_wp2_with fail
        rw [← HP2.out, ← HW3.out]
        refine wp_region_turns 0 [(0, 0, false), (0, 0, false), (0, 0, false), (0, 0, false), (0, 0, false), (0, 0, false), (0, 0, false), (0, 0, false), (0, 0, false), (0, 0, false), (0, 0, false), (0, 0, false)] (fun w0 c => w0) (by kernel_rfl) (by kernel_rfl) (by kernel_rfl) (fun _ => rfl) ?_
        intro w0 ws hext hsz hws
        have q0 : ws 0 = w0 := hws 0
        clear hws
        have b1w0 := (B1.out.ext HX0.out).blk.ext hext
        have b2w0 := B2.out.blk.ext hext
        have bfw0 := BF.out.ext hext
        refine detT_read rfl (.int .i64 n) (fun _ _ => rfl) ?_ ?_
        · rintro ρ ⟨h5, -⟩ c hc1 hc2
          have e5 : ρ 5 = .pointer (some ⟨p1, 0, none⟩) := h5
          have hc : c = 0 := by have h1 : 0 ≤ c := hc1; have h2 : c ≤ 0 := hc2; omega
          rcases hc with rfl
          · rw [q0]
            have c := b1w0.cell (i := 0) rfl
            simp [execOp, evR, e5, c, go_sem]
        refine detT_pure rfl (.bool false) (fun _ _ => rfl) ?_ ?_
        · rintro ρ ⟨h20, -⟩ w'
          have e20 : ρ 20 = .int .i64 n := h20
          simp [execOp, evR, e20, go_sem]
          omega
        refine detT_pure rfl (.bool false) (fun _ _ => rfl) ?_ ?_
        · rintro ρ ⟨h21, -⟩ w'
          have e21 : ρ 21 = .bool false := h21
          simp [execOp, evR, e21, go_sem]
        refine detT_read rfl (.int .i64 n) (fun ρ hk => by obtain ⟨_, hg, -⟩ := hk; have eg : ρ 22 = .bool false := hg; simp [wantedR, Region.wanted, asBoolR, eg]) ?_ ?_
        · rintro ρ ⟨h5, -⟩ c hc1 hc2
          have e5 : ρ 5 = .pointer (some ⟨p1, 0, none⟩) := h5
          have hc : c = 0 := by have h1 : 0 ≤ c := hc1; have h2 : c ≤ 0 := hc2; omega
          rcases hc with rfl
          · rw [q0]
            have c := b1w0.cell (i := 0) rfl
            simp [execOp, evR, e5, c, go_sem]
        refine detT_read rfl (.pointer (some ⟨m.blk, 0, none⟩)) (fun ρ hk => by obtain ⟨_, hg, -⟩ := hk; have eg : ρ 22 = .bool false := hg; simp [wantedR, Region.wanted, asBoolR, eg]) ?_ ?_
        · rintro ρ ⟨h7, -⟩ c hc1 hc2
          have e7 : ρ 7 = .pointer (some ⟨p2, 0, none⟩) := h7
          have hc : c = 0 := by have h1 : 0 ≤ c := hc1; have h2 : c ≤ 0 := hc2; omega
          rcases hc with rfl
          · rw [q0]
            have c := b2w0.cell (i := 0) rfl
            simp [execOp, evR, e7, c, go_sem]
        refine detT_pure rfl (.pointer (some ⟨m.blk, 0, none⟩)) (fun ρ hk => by obtain ⟨_, hg, -⟩ := hk; have eg : ρ 22 = .bool false := hg; simp [wantedR, Region.wanted, asBoolR, eg]) ?_ ?_
        · rintro ρ ⟨h24, -⟩ w'
          have e24 : ρ 24 = .pointer (some ⟨m.blk, 0, none⟩) := h24
          simp [execOp, evR, e24, go_sem]
        refine detT_pure rfl (.pointer (some ⟨m.blk, 0, none⟩)) (fun ρ hk => by obtain ⟨_, hg, -⟩ := hk; have eg : ρ 22 = .bool false := hg; simp [wantedR, Region.wanted, asBoolR, eg]) ?_ ?_
        · rintro ρ ⟨h25, -⟩ w'
          have e25 : ρ 25 = .pointer (some ⟨m.blk, 0, none⟩) := h25
          simp [execOp, evR, e25, go_sem]
        refine detT_read rfl (.slice A m.b.length c) (fun ρ hk => by obtain ⟨_, hg, -⟩ := hk; have eg : ρ 22 = .bool false := hg; simp [wantedR, Region.wanted, asBoolR, eg]) ?_ ?_
        · rintro ρ ⟨h26, -⟩ c hc1 hc2
          have e26 : ρ 26 = .pointer (some ⟨m.blk, 0, none⟩) := h26
          have hc : c = 0 := by have h1 : 0 ≤ c := hc1; have h2 : c ≤ 0 := hc2; omega
          rcases hc with rfl
          · rw [q0]
            have c := bfw0.cell (i := 0) rfl
            simp [execOp, evR, e26, c, go_sem]
        refine detT_pure rfl (.int .i64 (m.b.length : Int)) (fun ρ hk => by obtain ⟨_, hg, -⟩ := hk; have eg : ρ 22 = .bool false := hg; simp [wantedR, Region.wanted, asBoolR, eg]) ?_ ?_
        · rintro ρ ⟨h27, -⟩ w'
          have e27 : ρ 27 = .slice A m.b.length c := h27
          simp [execOp, evR, e27, go_sem]
        refine detT_pure rfl (.bool true) (fun ρ hk => by obtain ⟨_, _, hg, -⟩ := hk; have eg : ρ 22 = .bool false := hg; simp [wantedR, Region.wanted, asBoolR, eg]) ?_ ?_
        · rintro ρ ⟨h23, h28, -⟩ w'
          have e23 : ρ 23 = .int .i64 n := h23
          have e28 : ρ 28 = .int .i64 (m.b.length : Int) := h28
          simp [execOp, evR, e23, e28, go_sem]
          omega
        refine detT_pure rfl (.bool true) (fun _ _ => rfl) ?_ ?_
        · rintro ρ ⟨h22, h29, -⟩ w'
          have e22 : ρ 22 = .bool false := h22
          have e29 : ρ 29 = .bool true := h29
          simp [execOp, evR, e22, e29, go_sem]
        refine detT_pure rfl (.bool true) (fun _ _ => rfl) ?_ ?_
        · rintro ρ ⟨h30, -⟩ w'
          have e30 : ρ 30 = .bool true := h30
          simp [execOp, evR, e30, go_sem]
        simp only [DetT, applyV, Act.put, List.setIfInBounds_toArray, List.set_cons_zero, List.set_cons_succ]
        rw [q0]
        go_wp2_with fail
        go_ret
        exact DkPost.same HH.out (HX1.out.trans hext) 2
      have hres : dCut d name n = d.count (fun d : Dk => d.upd name fun f => ⟨f.name, f.b.take n.toNat, min f.sure n.toNat⟩) := by
        unfold dCut
        have hc : ¬ (n < 0 ∨ (m.fil.b.length : Int) < n) := fun h => h.elim hn0 hn1
        simp only [hon, HFF.out, hf, Option.map_some, Bool.true_eq_false, if_false, hc]
      rw [hres]
      go_enter Try.func25, Try.ntmps25
      go_wp2_with fail
      rw [← HP1.out, ← HP0.out, ← HW.out]
      clear HW r1
      refine HFI.out.mono ?_
      rintro e w1 ⟨rfl, rfl⟩
      go_wp2_with fail
      rw [← HP2.out, ← HW3.out]
      refine wp_region_turns 0 [(0, 0, false), (0, 0, false), (0, 0, false), (0, 0, false), (0, 0, false), (0, 0, false), (0, 0, false), (0, 0, false), (0, 0, false), (0, 0, false), (0, 0, false), (0, 0, false)] (fun w0 c => w0) (by kernel_rfl) (by kernel_rfl) (by kernel_rfl) (fun _ => rfl) ?_
      intro w0 ws hext hsz hws
      have q0 : ws 0 = w0 := hws 0
      clear hws
      have b1w0 := (B1.out.ext HX0.out).blk.ext hext
      have b2w0 := B2.out.blk.ext hext
      have bfw0 := BF.out.ext hext
      refine detT_read rfl (.int .i64 n) (fun _ _ => rfl) ?_ ?_
      · rintro ρ ⟨h5, -⟩ c hc1 hc2
        have e5 : ρ 5 = .pointer (some ⟨p1, 0, none⟩) := h5
        have hc : c = 0 := by have h1 : 0 ≤ c := hc1; have h2 : c ≤ 0 := hc2; omega
        rcases hc with rfl
        · rw [q0]
          have c := b1w0.cell (i := 0) rfl
          simp [execOp, evR, e5, c, go_sem]
      refine detT_pure rfl (.bool false) (fun _ _ => rfl) ?_ ?_
      · rintro ρ ⟨h20, -⟩ w'
        have e20 : ρ 20 = .int .i64 n := h20
        simp [execOp, evR, e20, go_sem]
        omega
      refine detT_pure rfl (.bool false) (fun _ _ => rfl) ?_ ?_
      · rintro ρ ⟨h21, -⟩ w'
        have e21 : ρ 21 = .bool false := h21
        simp [execOp, evR, e21, go_sem]
      refine detT_read rfl (.int .i64 n) (fun ρ hk => by obtain ⟨_, hg, -⟩ := hk; have eg : ρ 22 = .bool false := hg; simp [wantedR, Region.wanted, asBoolR, eg]) ?_ ?_
      · rintro ρ ⟨h5, -⟩ c hc1 hc2
        have e5 : ρ 5 = .pointer (some ⟨p1, 0, none⟩) := h5
        have hc : c = 0 := by have h1 : 0 ≤ c := hc1; have h2 : c ≤ 0 := hc2; omega
        rcases hc with rfl
        · rw [q0]
          have c := b1w0.cell (i := 0) rfl
          simp [execOp, evR, e5, c, go_sem]
      refine detT_read rfl (.pointer (some ⟨m.blk, 0, none⟩)) (fun ρ hk => by obtain ⟨_, hg, -⟩ := hk; have eg : ρ 22 = .bool false := hg; simp [wantedR, Region.wanted, asBoolR, eg]) ?_ ?_
      · rintro ρ ⟨h7, -⟩ c hc1 hc2
        have e7 : ρ 7 = .pointer (some ⟨p2, 0, none⟩) := h7
        have hc : c = 0 := by have h1 : 0 ≤ c := hc1; have h2 : c ≤ 0 := hc2; omega
        rcases hc with rfl
        · rw [q0]
          have c := b2w0.cell (i := 0) rfl
          simp [execOp, evR, e7, c, go_sem]
      refine detT_pure rfl (.pointer (some ⟨m.blk, 0, none⟩)) (fun ρ hk => by obtain ⟨_, hg, -⟩ := hk; have eg : ρ 22 = .bool false := hg; simp [wantedR, Region.wanted, asBoolR, eg]) ?_ ?_
      · rintro ρ ⟨h24, -⟩ w'
        have e24 : ρ 24 = .pointer (some ⟨m.blk, 0, none⟩) := h24
        simp [execOp, evR, e24, go_sem]
      refine detT_pure rfl (.pointer (some ⟨m.blk, 0, none⟩)) (fun ρ hk => by obtain ⟨_, hg, -⟩ := hk; have eg : ρ 22 = .bool false := hg; simp [wantedR, Region.wanted, asBoolR, eg]) ?_ ?_
      · rintro ρ ⟨h25, -⟩ w'
        have e25 : ρ 25 = .pointer (some ⟨m.blk, 0, none⟩) := h25
        simp [execOp, evR, e25, go_sem]
      refine detT_read rfl (.slice A m.b.length c) (fun ρ hk => by obtain ⟨_, hg, -⟩ := hk; have eg : ρ 22 = .bool false := hg; simp [wantedR, Region.wanted, asBoolR, eg]) ?_ ?_
      · rintro ρ ⟨h26, -⟩ c hc1 hc2
        have e26 : ρ 26 = .pointer (some ⟨m.blk, 0, none⟩) := h26
        have hc : c = 0 := by have h1 : 0 ≤ c := hc1; have h2 : c ≤ 0 := hc2; omega
        rcases hc with rfl
        · rw [q0]
          have c := bfw0.cell (i := 0) rfl
          simp [execOp, evR, e26, c, go_sem]
      refine detT_pure rfl (.int .i64 (m.b.length : Int)) (fun ρ hk => by obtain ⟨_, hg, -⟩ := hk; have eg : ρ 22 = .bool false := hg; simp [wantedR, Region.wanted, asBoolR, eg]) ?_ ?_
      · rintro ρ ⟨h27, -⟩ w'
        have e27 : ρ 27 = .slice A m.b.length c := h27
        simp [execOp, evR, e27, go_sem]
      refine detT_pure rfl (.bool false) (fun ρ hk => by obtain ⟨_, _, hg, -⟩ := hk; have eg : ρ 22 = .bool false := hg; simp [wantedR, Region.wanted, asBoolR, eg]) ?_ ?_
      · rintro ρ ⟨h23, h28, -⟩ w'
        have e23 : ρ 23 = .int .i64 n := h23
        have e28 : ρ 28 = .int .i64 (m.b.length : Int) := h28
        simp [execOp, evR, e23, e28, go_sem]
        omega
      refine detT_pure rfl (.bool false) (fun _ _ => rfl) ?_ ?_
      · rintro ρ ⟨h22, h29, -⟩ w'
        have e22 : ρ 22 = .bool false := h22
        have e29 : ρ 29 = .bool false := h29
        simp [execOp, evR, e22, e29, go_sem]
      refine detT_pure rfl (.bool false) (fun _ _ => rfl) ?_ ?_
      · rintro ρ ⟨h30, -⟩ w'
        have e30 : ρ 30 = .bool false := h30
        simp [execOp, evR, e30, go_sem]
      simp only [DetT, applyV, Act.put, List.setIfInBounds_toArray, List.set_cons_zero, List.set_cons_succ]
      rw [q0]
      have HD1 := Lib.hid (DkS.ext HH.out (HX1.out.trans hext))
      have HC := Lib.hid (count_Cut (HD.out.ext hext) HOK.out HSM.out #[.pointer (some ⟨p0, 0, none⟩), .pointer (some ⟨p2, 0, none⟩), .pointer (some ⟨p1, 0, none⟩)] (fun w' => ∃ ms', DkS z w0 w' bd bm pl d ms pl ((fun d : Dk => d.upd name fun f => ⟨f.name, f.b.take n.toNat, min f.sure n.toNat⟩) d.tick) ms') (fun w hs => by
        have keep : ∀ {p : Nat} {T : TypeId} {L : List Value}, W.heap.size ≤ p → BlkT w0 p T L → BlkT w p T L := fun hp hb => hb.kb hs.kb (fun hd => by have := HH.out.lt _ hd; omega)
        have eN : (n.toNat : Int) = n := Int.toNat_of_nonneg (by omega)
        refine (cut1_any hs.dk HOK.out.tick hf (N := n.toNat) (by omega) (keep (by rw [HP0.out]; exact Nat.le_refl _) ((B0.out.ext HX0.out).ext hext)) (keep (by rw [HP2.out]; exact HX.out.size) (B2.out.ext hext)) (keep (by rw [HP1.out]; exact Nat.le_succ _) (by rw [eN]; exact (B1.out.ext HX0.out).ext hext))).mono ?_
        rintro e w' ⟨he, ms', hs'⟩
        exact ⟨he, ms', hs.trans hs'⟩))
      have r0 := ((B0.out.ext HX0.out).ext hext).blk.cell (i := 0) rfl
      clear b1w0 b2w0 bfw0
      go_wp2_with fail
      refine HC.out.mono ?_
      intro e w' hcnt
      have hp := DkPost.of_count HD1.out (fun d : Dk => d.upd name fun f => ⟨f.name, f.b.take n.toNat, min f.sure n.toNat⟩) hcnt
      obtain ⟨pl', ms', rfl, hfin⟩ := hp
      have HFIN := Lib.hid hfin
      clear hfin hcnt
      go_wp2_with fail
      go_ret
      exact ⟨pl', ms', rfl, HFIN.out⟩
end Go.Proofs.Ytkejoiknnigllaa
