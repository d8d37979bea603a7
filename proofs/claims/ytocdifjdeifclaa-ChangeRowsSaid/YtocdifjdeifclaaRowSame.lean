/-
  Layer 10: what is the very same: cells, rows, lists of rows.
-/
import Derived.Test.YtocdifjdeifclaaRowsJ
namespace Go.Proofs.Ytocdifjdeifclaa
open Go Go.RowKit Mono Num
set_option linter.unusedVariables false
set_option linter.unusedSimpArgs false
set_option maxRecDepth 100000

set_option maxHeartbeats 4000000 in
theorem cellSame_any (sn ss va vb : Int) (gone : Bool) (value : List UInt8) (da db : Int) (w : World) :
    Calls Try.prog 70 #[.agg #[.int .i64 sn, .int .i64 ss, .int .i64 va, .int .i64 vb, .bool gone, strV value, .int .i64 da, .int .i64 db], .agg #[.int .i64 sn, .int .i64 ss, .int .i64 va, .int .i64 vb, .bool gone, strV value, .int .i64 da, .int .i64 db]] w fun e w' => e = .returned (.bool true) ∧ Ext w w' := by
  unfold strV
  go_enter Try.func70, Try.ntmps70
  go_upto_region 1 with (fail)
  have ba := Blk.new w #[.int .i64 sn, .int .i64 ss, .int .i64 va, .int .i64 vb, .bool gone, .string ⟨value.toArray⟩, .int .i64 da, .int .i64 db] 54
  have bb := Blk.new (w.alloc (.cells #[.int .i64 sn, .int .i64 ss, .int .i64 va, .int .i64 vb, .bool gone, .string ⟨value.toArray⟩, .int .i64 da, .int .i64 db] 54)) #[.int .i64 sn, .int .i64 ss, .int .i64 va, .int .i64 vb, .bool gone, .string ⟨value.toArray⟩, .int .i64 da, .int .i64 db] 54
  replace ba := ba.ext (ext_alloc _ (.cells #[.int .i64 sn, .int .i64 ss, .int .i64 va, .int .i64 vb, .bool gone, .string ⟨value.toArray⟩, .int .i64 da, .int .i64 db] 54))
  have hx := Ext.trans (ext_alloc w (.cells #[.int .i64 sn, .int .i64 ss, .int .i64 va, .int .i64 vb, .bool gone, .string ⟨value.toArray⟩, .int .i64 da, .int .i64 db] 54)) (ext_alloc _ (.cells #[.int .i64 sn, .int .i64 ss, .int .i64 va, .int .i64 vb, .bool gone, .string ⟨value.toArray⟩, .int .i64 da, .int .i64 db] 54))
  simp only [World.size_alloc] at bb
  obtain ⟨na, hna⟩ : ∃ n, n = w.heap.size := ⟨_, rfl⟩
  obtain ⟨nb, hnb⟩ : ∃ n, n = w.heap.size + 1 := ⟨_, rfl⟩
  rw [← hna] at ba
  rw [← hnb] at bb
  rw [← hnb, ← hna]
  clear hna hnb
  generalize (w.alloc (.cells #[.int .i64 sn, .int .i64 ss, .int .i64 va, .int .i64 vb, .bool gone, .string ⟨value.toArray⟩, .int .i64 da, .int .i64 db] 54)).alloc (.cells #[.int .i64 sn, .int .i64 ss, .int .i64 va, .int .i64 vb, .bool gone, .string ⟨value.toArray⟩, .int .i64 da, .int .i64 db] 54) = W at *
  replace ba : Blk W na [.int .i64 sn, .int .i64 ss, .int .i64 va, .int .i64 vb, .bool gone, strV value, .int .i64 da, .int .i64 db] := ba
  replace bb : Blk W nb [.int .i64 sn, .int .i64 ss, .int .i64 va, .int .i64 vb, .bool gone, strV value, .int .i64 da, .int .i64 db] := bb
  refine wp_region_seq (by kernel_rfl) ?_
  refine tele_val rfl (.pointer (some ⟨na, 0, none⟩)) (fun _ _ _ => rfl) ?_ ?_
  · rintro ρ w' he ⟨h2, -⟩
    have e2 : ρ 2 = .pointer (some ⟨na, 0, none⟩) := h2
    simp [execOp, evR, e2, go_sem]
  refine tele_val rfl (.agg #[.int .i64 sn, .int .i64 ss]) (fun _ _ _ => rfl) ?_ ?_
  · rintro ρ w' he ⟨h5, -⟩
    have e5 : ρ 5 = .pointer (some ⟨na, 0, none⟩) := h5
    have c0 := (ba.ext he).cell (i := 0) rfl
    have c1 := (ba.ext he).cell (i := 1) rfl
    simp [execOp, evR, e5, c0, c1, go_sem]
  refine tele_val rfl (.pointer (some ⟨nb, 0, none⟩)) (fun _ _ _ => rfl) ?_ ?_
  · rintro ρ w' he ⟨h3, -⟩
    have e3 : ρ 3 = .pointer (some ⟨nb, 0, none⟩) := h3
    simp [execOp, evR, e3, go_sem]
  refine tele_val rfl (.agg #[.int .i64 sn, .int .i64 ss]) (fun _ _ _ => rfl) ?_ ?_
  · rintro ρ w' he ⟨h7, -⟩
    have e7 : ρ 7 = .pointer (some ⟨nb, 0, none⟩) := h7
    have c0 := (bb.ext he).cell (i := 0) rfl
    have c1 := (bb.ext he).cell (i := 1) rfl
    simp [execOp, evR, e7, c0, c1, go_sem]
  refine tele_val rfl (.bool true) (fun _ _ _ => rfl) ?_ ?_
  · rintro ρ w' he ⟨h6, h8, -⟩
    have e6 : ρ 6 = .agg #[.int .i64 sn, .int .i64 ss] := h6
    have e8 : ρ 8 = .agg #[.int .i64 sn, .int .i64 ss] := h8
    simp [execOp, evR, e6, e8, go_sem]
  refine tele_move rfl (.inl rfl) rfl (isV (.bool true)) (fun ρ w' h => h) ?_
  refine tele_val rfl (.pointer (some ⟨na, 2, none⟩)) (fun ρ w' hk => by obtain ⟨_, hg, -⟩ := hk; have eg : ρ 10 = .bool true := hg; simp [wantedR, Region.wanted, asBoolR, eg]) ?_ ?_
  · rintro ρ w' he ⟨h2, hgd, -⟩
    have e2 : ρ 2 = .pointer (some ⟨na, 0, none⟩) := h2
    simp [execOp, evR, e2, go_sem]
  refine tele_val rfl (.agg #[.int .i64 va, .int .i64 vb]) (fun ρ w' hk => by obtain ⟨_, hg, -⟩ := hk; have eg : ρ 10 = .bool true := hg; simp [wantedR, Region.wanted, asBoolR, eg]) ?_ ?_
  · rintro ρ w' he ⟨h11, hgd, -⟩
    have e11 : ρ 11 = .pointer (some ⟨na, 2, none⟩) := h11
    have c0 := (ba.ext he).cell (i := 2) rfl
    have c1 := (ba.ext he).cell (i := 3) rfl
    simp [execOp, evR, e11, c0, c1, go_sem]
  refine tele_val rfl (.pointer (some ⟨nb, 2, none⟩)) (fun ρ w' hk => by obtain ⟨_, hg, -⟩ := hk; have eg : ρ 10 = .bool true := hg; simp [wantedR, Region.wanted, asBoolR, eg]) ?_ ?_
  · rintro ρ w' he ⟨h3, hgd, -⟩
    have e3 : ρ 3 = .pointer (some ⟨nb, 0, none⟩) := h3
    simp [execOp, evR, e3, go_sem]
  refine tele_val rfl (.agg #[.int .i64 va, .int .i64 vb]) (fun ρ w' hk => by obtain ⟨_, hg, -⟩ := hk; have eg : ρ 10 = .bool true := hg; simp [wantedR, Region.wanted, asBoolR, eg]) ?_ ?_
  · rintro ρ w' he ⟨h13, hgd, -⟩
    have e13 : ρ 13 = .pointer (some ⟨nb, 2, none⟩) := h13
    have c0 := (bb.ext he).cell (i := 2) rfl
    have c1 := (bb.ext he).cell (i := 3) rfl
    simp [execOp, evR, e13, c0, c1, go_sem]
  refine tele_val rfl (.bool true) (fun ρ w' hk => by obtain ⟨_, _, hg, -⟩ := hk; have eg : ρ 10 = .bool true := hg; simp [wantedR, Region.wanted, asBoolR, eg]) ?_ ?_
  · rintro ρ w' he ⟨h12, h14, hgd, -⟩
    have e12 : ρ 12 = .agg #[.int .i64 va, .int .i64 vb] := h12
    have e14 : ρ 14 = .agg #[.int .i64 va, .int .i64 vb] := h14
    simp [execOp, evR, e12, e14, go_sem]
  refine tele_val rfl (.bool true) (fun _ _ _ => rfl) ?_ ?_
  · rintro ρ w' he ⟨h10, h15, -⟩
    have e10 : ρ 10 = .bool true := h10
    have e15 : ρ 15 = .bool true := h15
    simp [execOp, evR, e10, e15, go_sem]
  refine tele_move rfl (.inl rfl) rfl (isV (.bool true)) (fun ρ w' h => h) ?_
  refine tele_val rfl (.pointer (some ⟨na, 4, none⟩)) (fun ρ w' hk => by obtain ⟨_, hg, -⟩ := hk; have eg : ρ 17 = .bool true := hg; simp [wantedR, Region.wanted, asBoolR, eg]) ?_ ?_
  · rintro ρ w' he ⟨h2, hgd, -⟩
    have e2 : ρ 2 = .pointer (some ⟨na, 0, none⟩) := h2
    simp [execOp, evR, e2, go_sem]
  refine tele_val rfl (.bool gone) (fun ρ w' hk => by obtain ⟨_, hg, -⟩ := hk; have eg : ρ 17 = .bool true := hg; simp [wantedR, Region.wanted, asBoolR, eg]) ?_ ?_
  · rintro ρ w' he ⟨h18, hgd, -⟩
    have e18 : ρ 18 = .pointer (some ⟨na, 4, none⟩) := h18
    have c0 := (ba.ext he).cell (i := 4) rfl
    simp [execOp, evR, e18, c0, go_sem]
  refine tele_val rfl (.pointer (some ⟨nb, 4, none⟩)) (fun ρ w' hk => by obtain ⟨_, hg, -⟩ := hk; have eg : ρ 17 = .bool true := hg; simp [wantedR, Region.wanted, asBoolR, eg]) ?_ ?_
  · rintro ρ w' he ⟨h3, hgd, -⟩
    have e3 : ρ 3 = .pointer (some ⟨nb, 0, none⟩) := h3
    simp [execOp, evR, e3, go_sem]
  refine tele_val rfl (.bool gone) (fun ρ w' hk => by obtain ⟨_, hg, -⟩ := hk; have eg : ρ 17 = .bool true := hg; simp [wantedR, Region.wanted, asBoolR, eg]) ?_ ?_
  · rintro ρ w' he ⟨h20, hgd, -⟩
    have e20 : ρ 20 = .pointer (some ⟨nb, 4, none⟩) := h20
    have c0 := (bb.ext he).cell (i := 4) rfl
    simp [execOp, evR, e20, c0, go_sem]
  refine tele_val rfl (.bool true) (fun ρ w' hk => by obtain ⟨_, _, hg, -⟩ := hk; have eg : ρ 17 = .bool true := hg; simp [wantedR, Region.wanted, asBoolR, eg]) ?_ ?_
  · rintro ρ w' he ⟨h19, h21, hgd, -⟩
    have e19 : ρ 19 = .bool gone := h19
    have e21 : ρ 21 = .bool gone := h21
    simp [execOp, evR, e19, e21, go_sem]
  refine tele_val rfl (.bool true) (fun _ _ _ => rfl) ?_ ?_
  · rintro ρ w' he ⟨h17, h22, -⟩
    have e17 : ρ 17 = .bool true := h17
    have e22 : ρ 22 = .bool true := h22
    simp [execOp, evR, e17, e22, go_sem]
  refine tele_move rfl (.inl rfl) rfl (isV (.bool true)) (fun ρ w' h => h) ?_
  refine tele_val rfl (.pointer (some ⟨na, 5, none⟩)) (fun ρ w' hk => by obtain ⟨_, hg, -⟩ := hk; have eg : ρ 24 = .bool true := hg; simp [wantedR, Region.wanted, asBoolR, eg]) ?_ ?_
  · rintro ρ w' he ⟨h2, hgd, -⟩
    have e2 : ρ 2 = .pointer (some ⟨na, 0, none⟩) := h2
    simp [execOp, evR, e2, go_sem]
  refine tele_val rfl (strV value) (fun ρ w' hk => by obtain ⟨_, hg, -⟩ := hk; have eg : ρ 24 = .bool true := hg; simp [wantedR, Region.wanted, asBoolR, eg]) ?_ ?_
  · rintro ρ w' he ⟨h25, hgd, -⟩
    have e25 : ρ 25 = .pointer (some ⟨na, 5, none⟩) := h25
    have c0 := (ba.ext he).cell (i := 5) rfl
    simp [execOp, evR, e25, c0, go_sem]
  refine tele_val rfl (.pointer (some ⟨nb, 5, none⟩)) (fun ρ w' hk => by obtain ⟨_, hg, -⟩ := hk; have eg : ρ 24 = .bool true := hg; simp [wantedR, Region.wanted, asBoolR, eg]) ?_ ?_
  · rintro ρ w' he ⟨h3, hgd, -⟩
    have e3 : ρ 3 = .pointer (some ⟨nb, 0, none⟩) := h3
    simp [execOp, evR, e3, go_sem]
  refine tele_val rfl (strV value) (fun ρ w' hk => by obtain ⟨_, hg, -⟩ := hk; have eg : ρ 24 = .bool true := hg; simp [wantedR, Region.wanted, asBoolR, eg]) ?_ ?_
  · rintro ρ w' he ⟨h27, hgd, -⟩
    have e27 : ρ 27 = .pointer (some ⟨nb, 5, none⟩) := h27
    have c0 := (bb.ext he).cell (i := 5) rfl
    simp [execOp, evR, e27, c0, go_sem]
  refine tele_val rfl (.bool true) (fun ρ w' hk => by obtain ⟨_, _, hg, -⟩ := hk; have eg : ρ 24 = .bool true := hg; simp [wantedR, Region.wanted, asBoolR, eg]) ?_ ?_
  · rintro ρ w' he ⟨h26, h28, hgd, -⟩
    have e26 : ρ 26 = strV value := h26
    have e28 : ρ 28 = strV value := h28
    unfold strV at *
    simp [execOp, evR, e26, e28, go_sem]
  refine tele_val rfl (.bool true) (fun _ _ _ => rfl) ?_ ?_
  · rintro ρ w' he ⟨h24, h29, -⟩
    have e24 : ρ 24 = .bool true := h24
    have e29 : ρ 29 = .bool true := h29
    simp [execOp, evR, e24, e29, go_sem]
  refine tele_move rfl (.inl rfl) rfl (isV (.bool true)) (fun ρ w' h => h) ?_
  refine tele_val rfl (.pointer (some ⟨na, 6, none⟩)) (fun ρ w' hk => by obtain ⟨_, hg, -⟩ := hk; have eg : ρ 31 = .bool true := hg; simp [wantedR, Region.wanted, asBoolR, eg]) ?_ ?_
  · rintro ρ w' he ⟨h2, hgd, -⟩
    have e2 : ρ 2 = .pointer (some ⟨na, 0, none⟩) := h2
    simp [execOp, evR, e2, go_sem]
  refine tele_val rfl (.agg #[.int .i64 da, .int .i64 db]) (fun ρ w' hk => by obtain ⟨_, hg, -⟩ := hk; have eg : ρ 31 = .bool true := hg; simp [wantedR, Region.wanted, asBoolR, eg]) ?_ ?_
  · rintro ρ w' he ⟨h32, hgd, -⟩
    have e32 : ρ 32 = .pointer (some ⟨na, 6, none⟩) := h32
    have c0 := (ba.ext he).cell (i := 6) rfl
    have c1 := (ba.ext he).cell (i := 7) rfl
    simp [execOp, evR, e32, c0, c1, go_sem]
  refine tele_val rfl (.pointer (some ⟨nb, 6, none⟩)) (fun ρ w' hk => by obtain ⟨_, hg, -⟩ := hk; have eg : ρ 31 = .bool true := hg; simp [wantedR, Region.wanted, asBoolR, eg]) ?_ ?_
  · rintro ρ w' he ⟨h3, hgd, -⟩
    have e3 : ρ 3 = .pointer (some ⟨nb, 0, none⟩) := h3
    simp [execOp, evR, e3, go_sem]
  refine tele_val rfl (.agg #[.int .i64 da, .int .i64 db]) (fun ρ w' hk => by obtain ⟨_, hg, -⟩ := hk; have eg : ρ 31 = .bool true := hg; simp [wantedR, Region.wanted, asBoolR, eg]) ?_ ?_
  · rintro ρ w' he ⟨h34, hgd, -⟩
    have e34 : ρ 34 = .pointer (some ⟨nb, 6, none⟩) := h34
    have c0 := (bb.ext he).cell (i := 6) rfl
    have c1 := (bb.ext he).cell (i := 7) rfl
    simp [execOp, evR, e34, c0, c1, go_sem]
  refine tele_val rfl (.bool true) (fun ρ w' hk => by obtain ⟨_, _, hg, -⟩ := hk; have eg : ρ 31 = .bool true := hg; simp [wantedR, Region.wanted, asBoolR, eg]) ?_ ?_
  · rintro ρ w' he ⟨h33, h35, hgd, -⟩
    have e33 : ρ 33 = .agg #[.int .i64 da, .int .i64 db] := h33
    have e35 : ρ 35 = .agg #[.int .i64 da, .int .i64 db] := h35
    simp [execOp, evR, e33, e35, go_sem]
  refine tele_val rfl (.bool true) (fun _ _ _ => rfl) ?_ ?_
  · rintro ρ w' he ⟨h31, h36, -⟩
    have e31 : ρ 31 = .bool true := h31
    have e36 : ρ 36 = .bool true := h36
    simp [execOp, evR, e31, e36, go_sem]
  refine tele_move rfl (.inr rfl) rfl (isV (.bool true)) (fun ρ w' h => h) ?_
  refine tele_nil ?_
  rintro ρ w' hext ⟨f4, f37, f36, f35, f34, f33, f32, f31, f30, f29, f28, f27, f26, f25, f24, f23, f22, f21, f20, f19, f18, f17, f16, f15, f14, f13, f12, f11, f10, f9, f8, f7, f6, f5, -⟩
  clear f5
  clear f6
  clear f7
  clear f8
  clear f9
  clear f10
  clear f11
  clear f12
  clear f13
  clear f14
  clear f15
  clear f16
  clear f17
  clear f18
  clear f19
  clear f20
  clear f21
  clear f22
  clear f23
  clear f24
  clear f25
  clear f26
  clear f27
  clear f28
  clear f29
  clear f30
  clear f31
  clear f32
  clear f33
  clear f34
  clear f35
  clear f36
  clear f37
  replace f4 : ρ 4 = .bool true := f4
  simp only [puts, Act.put, List.setIfInBounds_toArray, List.set_cons_zero, List.set_cons_succ]
  rw [f4]
  clear f4
  go_wp2_with fail
  go_ret
  exact ⟨rfl, hx.trans hext⟩

/-- Rows in memory, to be read. -/
structure RsR (w : World) (v : Value) (outs : List RwM) : Prop where
  rows : Fl w v outs.length (rwC outs)
  own : ∀ x ∈ outs, Fl w x.2.2 x.2.1.length (clsC x.2.1)
theorem RsR.ext {w w' : World} {v : Value} {outs : List RwM} (h : RsR w v outs) (he : Ext w w') : RsR w' v outs := ⟨h.rows.ext he, fun x hx => (h.own x hx).ext he⟩
theorem RsJ.read {w W : World} {vo : Value} {outs : List RwM} (h : RsJ w vo outs W) : RsR W vo outs := ⟨fl_of_row h.row, fun x hx => (h.own x hx).1.fl⟩

set_option maxHeartbeats 4000000 in
theorem rowSame_any (key : List UInt8) (v1 v2 : Value) (cs : List Cl) (w : World) (h1 : Fl w v1 cs.length (clsC cs)) (h2 : Fl w v2 cs.length (clsC cs)) :
    Calls Try.prog 43 #[.agg #[strV key, v1], .agg #[strV key, v2]] w fun e w' => e = .returned (.bool true) ∧ Ext w w' := by
  obtain ⟨A, c, rfl, g1, g2, g3, g4⟩ := h1
  obtain ⟨B, d, rfl, k1, k2, k3, k4⟩ := h2
  have HL2 : Hid ((((cs.length : Nat) : Int) != ((cs.length : Nat) : Int)) = false) := Lib.hid (by simp)
  unfold maxLen at g2
  unfold strV
  go_enter Try.func43, Try.ntmps43
  go_upto_region 1 with (fail)
  have ba := Blk.new w #[.string ⟨key.toArray⟩, .slice A cs.length c] 47
  have bb := Blk.new (w.alloc (.cells #[.string ⟨key.toArray⟩, .slice A cs.length c] 47)) #[.string ⟨key.toArray⟩, .slice B cs.length d] 47
  replace ba := ba.ext (ext_alloc _ (.cells #[.string ⟨key.toArray⟩, .slice B cs.length d] 47))
  have hx := Ext.trans (ext_alloc w (.cells #[.string ⟨key.toArray⟩, .slice A cs.length c] 47)) (ext_alloc _ (.cells #[.string ⟨key.toArray⟩, .slice B cs.length d] 47))
  simp only [World.size_alloc] at bb
  obtain ⟨na, hna⟩ : ∃ n, n = w.heap.size := ⟨_, rfl⟩
  obtain ⟨nb, hnb⟩ : ∃ n, n = w.heap.size + 1 := ⟨_, rfl⟩
  rw [← hna] at ba
  rw [← hnb] at bb
  rw [← hnb, ← hna]
  clear hna hnb
  generalize (w.alloc (.cells #[.string ⟨key.toArray⟩, .slice A cs.length c] 47)).alloc (.cells #[.string ⟨key.toArray⟩, .slice B cs.length d] 47) = W at *
  replace ba : Blk W na [strV key, .slice A cs.length c] := ba
  replace bb : Blk W nb [strV key, .slice B cs.length d] := bb
  refine wp_region_seq (by kernel_rfl) ?_
  refine tele_val rfl (.pointer (some ⟨na, 0, none⟩)) (fun _ _ _ => rfl) ?_ ?_
  · rintro ρ w' he ⟨h2, -⟩
    have e2 : ρ 2 = .pointer (some ⟨na, 0, none⟩) := h2
    simp [execOp, evR, e2, go_sem]
  refine tele_val rfl (strV key) (fun _ _ _ => rfl) ?_ ?_
  · rintro ρ w' he ⟨h6, -⟩
    have e6 : ρ 6 = .pointer (some ⟨na, 0, none⟩) := h6
    have c0 := (ba.ext he).cell (i := 0) rfl
    simp [execOp, evR, e6, c0, go_sem]
  refine tele_val rfl (.pointer (some ⟨nb, 0, none⟩)) (fun _ _ _ => rfl) ?_ ?_
  · rintro ρ w' he ⟨h3, -⟩
    have e3 : ρ 3 = .pointer (some ⟨nb, 0, none⟩) := h3
    simp [execOp, evR, e3, go_sem]
  refine tele_val rfl (strV key) (fun _ _ _ => rfl) ?_ ?_
  · rintro ρ w' he ⟨h8, -⟩
    have e8 : ρ 8 = .pointer (some ⟨nb, 0, none⟩) := h8
    have c0 := (bb.ext he).cell (i := 0) rfl
    simp [execOp, evR, e8, c0, go_sem]
  refine tele_val rfl (.bool false) (fun _ _ _ => rfl) ?_ ?_
  · rintro ρ w' he ⟨h7, h9, -⟩
    have e7 : ρ 7 = strV key := h7
    have e9 : ρ 9 = strV key := h9
    unfold strV at *
    simp [execOp, evR, e7, e9, go_sem]
  refine tele_move rfl (.inl rfl) rfl (isV (.bool false)) (fun ρ w' h => h) ?_
  refine tele_val rfl (.pointer (some ⟨na, 1, none⟩)) (fun ρ w' hk => by obtain ⟨_, hg, -⟩ := hk; have eg : ρ 11 = .bool false := hg; simp [wantedR, Region.wanted, asBoolR, eg]) ?_ ?_
  · rintro ρ w' he ⟨h2, hgd, -⟩
    have e2 : ρ 2 = .pointer (some ⟨na, 0, none⟩) := h2
    simp [execOp, evR, e2, go_sem]
  refine tele_val rfl (.slice A cs.length c) (fun ρ w' hk => by obtain ⟨_, hg, -⟩ := hk; have eg : ρ 11 = .bool false := hg; simp [wantedR, Region.wanted, asBoolR, eg]) ?_ ?_
  · rintro ρ w' he ⟨h12, hgd, -⟩
    have e12 : ρ 12 = .pointer (some ⟨na, 1, none⟩) := h12
    have c0 := (ba.ext he).cell (i := 1) rfl
    simp [execOp, evR, e12, c0, go_sem]
  refine tele_val rfl (.int .i64 ((cs.length : Nat) : Int)) (fun ρ w' hk => by obtain ⟨_, hg, -⟩ := hk; have eg : ρ 11 = .bool false := hg; simp [wantedR, Region.wanted, asBoolR, eg]) ?_ ?_
  · rintro ρ w' he ⟨h13, hgd, -⟩
    have e13 : ρ 13 = .slice A cs.length c := h13
    simp [execOp, evR, e13, go_sem]
  refine tele_val rfl (.pointer (some ⟨nb, 1, none⟩)) (fun ρ w' hk => by obtain ⟨_, hg, -⟩ := hk; have eg : ρ 11 = .bool false := hg; simp [wantedR, Region.wanted, asBoolR, eg]) ?_ ?_
  · rintro ρ w' he ⟨h3, hgd, -⟩
    have e3 : ρ 3 = .pointer (some ⟨nb, 0, none⟩) := h3
    simp [execOp, evR, e3, go_sem]
  refine tele_val rfl (.slice B cs.length d) (fun ρ w' hk => by obtain ⟨_, hg, -⟩ := hk; have eg : ρ 11 = .bool false := hg; simp [wantedR, Region.wanted, asBoolR, eg]) ?_ ?_
  · rintro ρ w' he ⟨h15, hgd, -⟩
    have e15 : ρ 15 = .pointer (some ⟨nb, 1, none⟩) := h15
    have c0 := (bb.ext he).cell (i := 1) rfl
    simp [execOp, evR, e15, c0, go_sem]
  refine tele_val rfl (.int .i64 ((cs.length : Nat) : Int)) (fun ρ w' hk => by obtain ⟨_, hg, -⟩ := hk; have eg : ρ 11 = .bool false := hg; simp [wantedR, Region.wanted, asBoolR, eg]) ?_ ?_
  · rintro ρ w' he ⟨h16, hgd, -⟩
    have e16 : ρ 16 = .slice B cs.length d := h16
    simp [execOp, evR, e16, go_sem]
  refine tele_val rfl (.bool false) (fun ρ w' hk => by obtain ⟨_, _, hg, -⟩ := hk; have eg : ρ 11 = .bool false := hg; simp [wantedR, Region.wanted, asBoolR, eg]) ?_ ?_
  · rintro ρ w' he ⟨h14, h17, hgd, -⟩
    have e14 : ρ 14 = .int .i64 ((cs.length : Nat) : Int) := h14
    have e17 : ρ 17 = .int .i64 ((cs.length : Nat) : Int) := h17
    simp [execOp, evR, e14, e17, go_sem]
  refine tele_val rfl (.bool false) (fun _ _ _ => rfl) ?_ ?_
  · rintro ρ w' he ⟨h11, h18, -⟩
    have e11 : ρ 11 = .bool false := h11
    have e18 : ρ 18 = .bool false := h18
    simp [execOp, evR, e11, e18, go_sem]
  refine tele_nil ?_
  rintro ρ w' hext ⟨f19, f18, f17, f16, f15, f14, f13, f12, f11, f10, f9, f8, f7, f6, -⟩
  clear f6
  clear f7
  clear f8
  clear f9
  clear f10
  clear f11
  clear f12
  clear f13
  clear f14
  clear f15
  clear f16
  clear f17
  clear f18
  replace f19 : ρ 19 = .bool false := f19
  simp only [puts, Act.put, List.setIfInBounds_toArray, List.set_cons_zero, List.set_cons_succ]
  rw [f19]
  clear f19
  replace ba := ba.ext hext
  replace bb := bb.ext hext
  replace hx := hx.trans hext
  clear hext
  go_wp2_with fail
  go_loopw [5] (fun i wr => ∃ k : Nat, k ≤ cs.length ∧ i = .int .i64 k ∧ Ext w' wr) (fun i _ => cs.length - (intOf i).toNat)
  case atStart => exact ⟨0, Nat.zero_le _, rfl, Ext.refl _⟩
  case round =>
    obtain ⟨k, hk, rfl, h0⟩ := hrel
    have z0 := (ba.ext h0).cell (i := 1) rfl
    by_cases hlt : k < cs.length
    · obtain ⟨b1, o1, rfl, hb1, hc1⟩ := g4 (by omega)
      obtain ⟨b2, o2, rfl, hb2, hc2⟩ := k4 (by omega)
      have ha1 := hb1
      have ha2 := hb2
      replace hb1 := Nat.lt_of_lt_of_le hb1 hx.size
      replace hb2 := Nat.lt_of_lt_of_le hb2 hx.size
      obtain ⟨⟨sn, ss, va, vb, gone, value, da, db⟩, hget⟩ : ∃ x, cs[k]? = some x := ⟨_, List.getElem?_eq_getElem hlt⟩
      have hq := clsC_get cs k _ hget
      have p0 : w'.cell? ⟨b1, o1 + k * 8, none⟩ = _ := (hx.cell (p := ⟨b1, o1 + k * 8, none⟩) (by assumption)).trans (hc1 (k * 8 + 0) _ (hq 0 (by omega)))
      have q0 : w'.cell? ⟨b2, o2 + k * 8, none⟩ = _ := (hx.cell (p := ⟨b2, o2 + k * 8, none⟩) (by assumption)).trans (hc2 (k * 8 + 0) _ (hq 0 (by omega)))
      have p1 : w'.cell? ⟨b1, o1 + k * 8 + 1, none⟩ = _ := (hx.cell (p := ⟨b1, o1 + k * 8 + 1, none⟩) (by assumption)).trans (hc1 (k * 8 + 1) _ (hq 1 (by omega)))
      have q1 : w'.cell? ⟨b2, o2 + k * 8 + 1, none⟩ = _ := (hx.cell (p := ⟨b2, o2 + k * 8 + 1, none⟩) (by assumption)).trans (hc2 (k * 8 + 1) _ (hq 1 (by omega)))
      have p2 : w'.cell? ⟨b1, o1 + k * 8 + 2, none⟩ = _ := (hx.cell (p := ⟨b1, o1 + k * 8 + 2, none⟩) (by assumption)).trans (hc1 (k * 8 + 2) _ (hq 2 (by omega)))
      have q2 : w'.cell? ⟨b2, o2 + k * 8 + 2, none⟩ = _ := (hx.cell (p := ⟨b2, o2 + k * 8 + 2, none⟩) (by assumption)).trans (hc2 (k * 8 + 2) _ (hq 2 (by omega)))
      have p3 : w'.cell? ⟨b1, o1 + k * 8 + 3, none⟩ = _ := (hx.cell (p := ⟨b1, o1 + k * 8 + 3, none⟩) (by assumption)).trans (hc1 (k * 8 + 3) _ (hq 3 (by omega)))
      have q3 : w'.cell? ⟨b2, o2 + k * 8 + 3, none⟩ = _ := (hx.cell (p := ⟨b2, o2 + k * 8 + 3, none⟩) (by assumption)).trans (hc2 (k * 8 + 3) _ (hq 3 (by omega)))
      have p4 : w'.cell? ⟨b1, o1 + k * 8 + 4, none⟩ = _ := (hx.cell (p := ⟨b1, o1 + k * 8 + 4, none⟩) (by assumption)).trans (hc1 (k * 8 + 4) _ (hq 4 (by omega)))
      have q4 : w'.cell? ⟨b2, o2 + k * 8 + 4, none⟩ = _ := (hx.cell (p := ⟨b2, o2 + k * 8 + 4, none⟩) (by assumption)).trans (hc2 (k * 8 + 4) _ (hq 4 (by omega)))
      have p5 : w'.cell? ⟨b1, o1 + k * 8 + 5, none⟩ = _ := (hx.cell (p := ⟨b1, o1 + k * 8 + 5, none⟩) (by assumption)).trans (hc1 (k * 8 + 5) _ (hq 5 (by omega)))
      have q5 : w'.cell? ⟨b2, o2 + k * 8 + 5, none⟩ = _ := (hx.cell (p := ⟨b2, o2 + k * 8 + 5, none⟩) (by assumption)).trans (hc2 (k * 8 + 5) _ (hq 5 (by omega)))
      have p6 : w'.cell? ⟨b1, o1 + k * 8 + 6, none⟩ = _ := (hx.cell (p := ⟨b1, o1 + k * 8 + 6, none⟩) (by assumption)).trans (hc1 (k * 8 + 6) _ (hq 6 (by omega)))
      have q6 : w'.cell? ⟨b2, o2 + k * 8 + 6, none⟩ = _ := (hx.cell (p := ⟨b2, o2 + k * 8 + 6, none⟩) (by assumption)).trans (hc2 (k * 8 + 6) _ (hq 6 (by omega)))
      have p7 : w'.cell? ⟨b1, o1 + k * 8 + 7, none⟩ = _ := (hx.cell (p := ⟨b1, o1 + k * 8 + 7, none⟩) (by assumption)).trans (hc1 (k * 8 + 7) _ (hq 7 (by omega)))
      have q7 : w'.cell? ⟨b2, o2 + k * 8 + 7, none⟩ = _ := (hx.cell (p := ⟨b2, o2 + k * 8 + 7, none⟩) (by assumption)).trans (hc2 (k * 8 + 7) _ (hq 7 (by omega)))
      clear g4 k4 hc1 hc2 hq hget ha1 ha2
      go_wp2_with fail
      clear z0
      refine wp_region_mono (by kernel_rfl) (by kernel_rfl) ?_
      refine tele_val rfl (.pointer (some ⟨na, 1, none⟩)) (fun _ _ _ => rfl) ?_ ?_
      · rintro ρ w' he ⟨h2, -⟩
        have e2 : ρ 2 = .pointer (some ⟨na, 0, none⟩) := h2
        simp [execOp, evR, e2, go_sem]
      refine tele_val rfl (.slice (some ⟨b1, o1, none⟩) cs.length c) (fun _ _ _ => rfl) ?_ ?_
      · rintro ρ w' he ⟨h27, -⟩
        have e27 : ρ 27 = .pointer (some ⟨na, 1, none⟩) := h27
        have c0 := (ba.ext (h0.trans he)).cell (i := 1) rfl
        simp [execOp, evR, e27, c0, go_sem]
      refine tele_move rfl (.inl rfl) rfl (isV (.int .i64 (k : Int))) (fun ρ w' h => h) ?_
      refine tele_val rfl (.pointer (some ⟨b1, o1 + k * 8, none⟩)) (fun _ _ _ => rfl) ?_ ?_
      · rintro ρ w' he ⟨h28, h29, -⟩
        have e28 : ρ 28 = .slice (some ⟨b1, o1, none⟩) cs.length c := h28
        have e29 : ρ 29 = .int .i64 (k : Int) := h29
        exact index_at 8 rfl Try.underlying45 e28 e29 (by omega) (by kernel_rfl)
      refine tele_val rfl (.agg #[.int .i64 sn, .int .i64 ss, .int .i64 va, .int .i64 vb, .bool gone, strV value, .int .i64 da, .int .i64 db]) (fun _ _ _ => rfl) ?_ ?_
      · rintro ρ w' he ⟨h30, -⟩
        have e30 : ρ 30 = .pointer (some ⟨b1, o1 + k * 8, none⟩) := h30
        have c0 := ((h0.trans he).cell (p := ⟨b1, o1 + k * 8, none⟩) hb1).trans p0
        have c1 := ((h0.trans he).cell (p := ⟨b1, o1 + k * 8 + 1, none⟩) hb1).trans p1
        have c2 := ((h0.trans he).cell (p := ⟨b1, o1 + k * 8 + 2, none⟩) hb1).trans p2
        have c3 := ((h0.trans he).cell (p := ⟨b1, o1 + k * 8 + 3, none⟩) hb1).trans p3
        have c4 := ((h0.trans he).cell (p := ⟨b1, o1 + k * 8 + 4, none⟩) hb1).trans p4
        have c5 := ((h0.trans he).cell (p := ⟨b1, o1 + k * 8 + 5, none⟩) hb1).trans p5
        have c6 := ((h0.trans he).cell (p := ⟨b1, o1 + k * 8 + 6, none⟩) hb1).trans p6
        have c7 := ((h0.trans he).cell (p := ⟨b1, o1 + k * 8 + 7, none⟩) hb1).trans p7
        simp [execOp, evR, e30, c0, c1, c2, c3, c4, c5, c6, c7, go_sem]
      refine tele_val rfl (.pointer (some ⟨nb, 1, none⟩)) (fun _ _ _ => rfl) ?_ ?_
      · rintro ρ w' he ⟨h3, -⟩
        have e3 : ρ 3 = .pointer (some ⟨nb, 0, none⟩) := h3
        simp [execOp, evR, e3, go_sem]
      refine tele_val rfl (.slice (some ⟨b2, o2, none⟩) cs.length d) (fun _ _ _ => rfl) ?_ ?_
      · rintro ρ w' he ⟨h32, -⟩
        have e32 : ρ 32 = .pointer (some ⟨nb, 1, none⟩) := h32
        have c0 := (bb.ext (h0.trans he)).cell (i := 1) rfl
        simp [execOp, evR, e32, c0, go_sem]
      refine tele_move rfl (.inl rfl) rfl (isV (.int .i64 (k : Int))) (fun ρ w' h => h) ?_
      refine tele_val rfl (.pointer (some ⟨b2, o2 + k * 8, none⟩)) (fun _ _ _ => rfl) ?_ ?_
      · rintro ρ w' he ⟨h33, h34, -⟩
        have e33 : ρ 33 = .slice (some ⟨b2, o2, none⟩) cs.length d := h33
        have e34 : ρ 34 = .int .i64 (k : Int) := h34
        exact index_at 8 rfl Try.underlying45 e33 e34 (by omega) (by kernel_rfl)
      refine tele_val rfl (.agg #[.int .i64 sn, .int .i64 ss, .int .i64 va, .int .i64 vb, .bool gone, strV value, .int .i64 da, .int .i64 db]) (fun _ _ _ => rfl) ?_ ?_
      · rintro ρ w' he ⟨h35, -⟩
        have e35 : ρ 35 = .pointer (some ⟨b2, o2 + k * 8, none⟩) := h35
        have c0 := ((h0.trans he).cell (p := ⟨b2, o2 + k * 8, none⟩) hb2).trans q0
        have c1 := ((h0.trans he).cell (p := ⟨b2, o2 + k * 8 + 1, none⟩) hb2).trans q1
        have c2 := ((h0.trans he).cell (p := ⟨b2, o2 + k * 8 + 2, none⟩) hb2).trans q2
        have c3 := ((h0.trans he).cell (p := ⟨b2, o2 + k * 8 + 3, none⟩) hb2).trans q3
        have c4 := ((h0.trans he).cell (p := ⟨b2, o2 + k * 8 + 4, none⟩) hb2).trans q4
        have c5 := ((h0.trans he).cell (p := ⟨b2, o2 + k * 8 + 5, none⟩) hb2).trans q5
        have c6 := ((h0.trans he).cell (p := ⟨b2, o2 + k * 8 + 6, none⟩) hb2).trans q6
        have c7 := ((h0.trans he).cell (p := ⟨b2, o2 + k * 8 + 7, none⟩) hb2).trans q7
        simp [execOp, evR, e35, c0, c1, c2, c3, c4, c5, c6, c7, go_sem]
      refine tele_call rfl rfl Try.func70 (by kernel_rfl) (isV (.bool true)) (fun _ _ _ => rfl) ?_ ?_
      · rintro ρ w' he ⟨h31, h36, -⟩
        have e31 : ρ 31 = .agg #[.int .i64 sn, .int .i64 ss, .int .i64 va, .int .i64 vb, .bool gone, strV value, .int .i64 da, .int .i64 db] := h31
        have e36 : ρ 36 = .agg #[.int .i64 sn, .int .i64 ss, .int .i64 va, .int .i64 vb, .bool gone, strV value, .int .i64 da, .int .i64 db] := h36
        simp only [evR, List.map_toArray, List.map_cons, List.map_nil, e31, e36]
        refine (cellSame_any sn ss va vb gone value da db _).mono ?_
        rintro e w'' ⟨rfl, hx⟩
        exact ⟨_, rfl, hx, rfl⟩
      refine tele_val rfl (.bool false) (fun _ _ _ => rfl) ?_ ?_
      · rintro ρ w' he ⟨h37, -⟩
        have e37 : ρ 37 = .bool true := h37
        simp [execOp, evR, e37, go_sem]
      refine tele_nil ?_
      rintro ρ w' hext ⟨f38, f37, f36, f35, f34, f33, f32, f31, f30, f29, f28, f27, -⟩
      clear f27
      clear f28
      clear f29
      clear f30
      clear f31
      clear f32
      clear f33
      clear f34
      clear f35
      clear f36
      clear f37
      replace f38 : ρ 38 = .bool false := f38
      simp only [puts, Act.put, List.setIfInBounds_toArray, List.set_cons_zero, List.set_cons_succ]
      rw [f38]
      clear f38
      clear p0 p1 p2 p3 p4 p5 p6 p7 q0 q1 q2 q3 q4 q5 q6 q7
      go_wp2_with fail
      go_roundw
      case rel => exact ⟨k + 1, by omega, by go_num, Ext.trans h0 hext⟩
      case measure => simp [intOf]; omega
    · clear g4 k4
      go_wp2_with fail
      go_ret
      exact ⟨rfl, hx.trans h0⟩

set_option maxHeartbeats 4000000 in
theorem rowsAll_any (v1 v2 : Value) (l1 l2 : List RwM) (w : World) (h1 : RsR w v1 l1) (h2 : RsR w v2 l2) (hm : l1.map erR = l2.map erR) :
    Calls Try.prog 15 #[v1, v2] w fun e w' => e = .returned (.bool true) ∧ Ext w w' := by
  have hlen : l1.length = l2.length := by simpa using congrArg List.length hm
  obtain ⟨A, c, rfl, g1, g2, g3, g4⟩ := h1.rows
  obtain ⟨B, d, rfl, k1, k2, k3, k4⟩ := h2.rows
  have HF1 := Lib.hid h1.own
  have HF2 := Lib.hid h2.own
  have HG := Lib.hid g4
  have HK := Lib.hid k4
  have HM := Lib.hid hm
  clear h1 h2 g4 k4 hm
  rw [← hlen] at HK k1 ⊢
  obtain ⟨n, hn⟩ : ∃ n, n = l1.length := ⟨_, rfl⟩
  rw [← hn] at HG HK k1 g1 ⊢
  have hl2 : (((n : Nat) : Int) != ((n : Nat) : Int)) = false := by simp
  unfold maxLen at g2
  go_enter Try.func15, Try.ntmps15
  go_wp2_with fail
  go_loopw [5] (fun i wr => ∃ k : Nat, k ≤ n ∧ i = .int .i64 k ∧ Ext w wr) (fun i _ => n - (intOf i).toNat)
  case atStart => exact ⟨0, Nat.zero_le _, rfl, Ext.refl _⟩
  case round =>
    obtain ⟨k, hk, rfl, hx⟩ := hrel
    by_cases hlt : k < n
    · obtain ⟨b1, o1, rfl, hb1, hc1⟩ := HG.out (by omega)
      obtain ⟨b2, o2, rfl, hb2, hc2⟩ := HK.out (by omega)
      obtain ⟨⟨ky, cs, vx⟩, hg1⟩ : ∃ x, l1[k]? = some x := ⟨_, List.getElem?_eq_getElem (by omega)⟩
      obtain ⟨⟨ky2, cs2, vy⟩, hg2⟩ : ∃ x, l2[k]? = some x := ⟨_, List.getElem?_eq_getElem (by omega)⟩
      have he := congrArg (fun l => l[k]?) HM.out
      simp only [List.getElem?_map, hg1, hg2, Option.map_some, erR] at he
      injection he with he
      injection he with e1 e2
      subst e1 e2
      obtain ⟨u0, u1⟩ := rwC_get l1 k _ hg1
      obtain ⟨v0, v1⟩ := rwC_get l2 k _ hg2
      have p0 := hc1 _ _ u0
      have p1 := hc1 _ _ u1
      have q0 := hc2 _ _ v0
      have q1 := hc2 _ _ v1
      have hf1 := HF1.out _ (List.mem_of_getElem? hg1)
      have hf2 := HF2.out _ (List.mem_of_getElem? hg2)
      dsimp only at hf1 hf2 p0 p1 q0 q1
      obtain ⟨A1, c1, rfl⟩ : ∃ A c, vx = .slice A cs.length c := by obtain ⟨A, c, h, _⟩ := hf1; exact ⟨A, c, h⟩
      obtain ⟨A2, c2, rfl⟩ : ∃ A c, vy = .slice A cs.length c := by obtain ⟨A, c, h, _⟩ := hf2; exact ⟨A, c, h⟩
      clear hg1 hg2 u0 u1 v0 v1 hc1 hc2
      go_wp2_with fail
      refine wp_region_mono (by kernel_rfl) (by kernel_rfl) ?_
      refine tele_move rfl (.inl rfl) rfl (isV (.slice (some ⟨b1, o1, none⟩) n c)) (fun ρ w' h => h) ?_
      refine tele_move rfl (.inl rfl) rfl (isV (.int .i64 (k : Int))) (fun ρ w' h => h) ?_
      refine tele_val rfl (.pointer (some ⟨b1, o1 + k * 2, none⟩)) (fun _ _ _ => rfl) ?_ ?_
      · rintro ρ w' he ⟨h17, h18, -⟩
        have e17 : ρ 17 = .slice (some ⟨b1, o1, none⟩) n c := h17
        have e18 : ρ 18 = .int .i64 (k : Int) := h18
        exact index_at 2 rfl Try.underlying34 e17 e18 (by omega) (by kernel_rfl)
      refine tele_val rfl (.agg #[strV ky, .slice A1 cs.length c1]) (fun _ _ _ => rfl) ?_ ?_
      · rintro ρ w' he ⟨h19, -⟩
        have e19 : ρ 19 = .pointer (some ⟨b1, o1 + k * 2, none⟩) := h19
        have c0 := ((hx.trans he).cell (p := ⟨b1, o1 + k * 2, none⟩) hb1).trans p0
        have c1 := ((hx.trans he).cell (p := ⟨b1, o1 + k * 2 + 1, none⟩) hb1).trans p1
        simp [execOp, evR, e19, c0, c1, go_sem]
      refine tele_move rfl (.inl rfl) rfl (isV (.slice (some ⟨b2, o2, none⟩) n d)) (fun ρ w' h => h) ?_
      refine tele_move rfl (.inl rfl) rfl (isV (.int .i64 (k : Int))) (fun ρ w' h => h) ?_
      refine tele_val rfl (.pointer (some ⟨b2, o2 + k * 2, none⟩)) (fun _ _ _ => rfl) ?_ ?_
      · rintro ρ w' he ⟨h21, h22, -⟩
        have e21 : ρ 21 = .slice (some ⟨b2, o2, none⟩) n d := h21
        have e22 : ρ 22 = .int .i64 (k : Int) := h22
        exact index_at 2 rfl Try.underlying34 e21 e22 (by omega) (by kernel_rfl)
      refine tele_val rfl (.agg #[strV ky, .slice A2 cs.length c2]) (fun _ _ _ => rfl) ?_ ?_
      · rintro ρ w' he ⟨h23, -⟩
        have e23 : ρ 23 = .pointer (some ⟨b2, o2 + k * 2, none⟩) := h23
        have c0 := ((hx.trans he).cell (p := ⟨b2, o2 + k * 2, none⟩) hb2).trans q0
        have c1 := ((hx.trans he).cell (p := ⟨b2, o2 + k * 2 + 1, none⟩) hb2).trans q1
        simp [execOp, evR, e23, c0, c1, go_sem]
      refine tele_call rfl rfl Try.func43 (by kernel_rfl) (isV (.bool true)) (fun _ _ _ => rfl) ?_ ?_
      · rintro ρ w' he ⟨h20, h24, -⟩
        have e20 : ρ 20 = .agg #[strV ky, .slice A1 cs.length c1] := h20
        have e24 : ρ 24 = .agg #[strV ky, .slice A2 cs.length c2] := h24
        simp only [evR, List.map_toArray, List.map_cons, List.map_nil, e20, e24]
        refine (rowSame_any ky _ _ cs _ (hf1.ext (hx.trans he)) (hf2.ext (hx.trans he))).mono ?_
        rintro e w'' ⟨rfl, hx⟩
        exact ⟨_, rfl, hx, rfl⟩
      refine tele_val rfl (.bool false) (fun _ _ _ => rfl) ?_ ?_
      · rintro ρ w' he ⟨h25, -⟩
        have e25 : ρ 25 = .bool true := h25
        simp [execOp, evR, e25, go_sem]
      refine tele_nil ?_
      rintro ρ w' hext ⟨f26, f25, f24, f23, f22, f21, f20, f19, f18, f17, -⟩
      clear f17
      clear f18
      clear f19
      clear f20
      clear f21
      clear f22
      clear f23
      clear f24
      clear f25
      replace f26 : ρ 26 = .bool false := f26
      simp only [puts, Act.put, List.setIfInBounds_toArray, List.set_cons_zero, List.set_cons_succ]
      rw [f26]
      clear f26
      clear p0 p1 q0 q1
      go_wp2_with fail
      go_roundw
      case rel => exact ⟨k + 1, by omega, by go_num, Ext.trans hx hext⟩
      case measure => simp [intOf]; omega
    · go_wp2_with fail
      go_ret
      exact ⟨rfl, hx⟩
end Go.Proofs.Ytocdifjdeifclaa
