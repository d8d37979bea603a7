/-
 Layer 16: steps of the log and its disk.
-/
import Derived.Test.YtagghghoimpofaaGreatDoorWalLog
import Derived.Test.YtagghghoimpofaaGreatDoorMonoDet
namespace Go.Proofs.YtagghghoimpofaaGreatDoor
open Go Go.RowKit Mono
set_option linter.unusedVariables false
set_option linter.unusedSimpArgs false
set_option maxRecDepth 100000

theorem preKb' (F : Nat → Prop) : Pre (Kb F) := ⟨Kb.refl F, fun a b c h k => h.trans k (fun _ h => .inl h)⟩
/-- What a call of the disk may turn. -/
def FFd (W : World) (bd bm pl : Nat) (d : Dk) (ms : List FilM) (k : Nat) : Prop := dall bd bm pl d ms k ∨ W.heap.size ≤ k
theorem DkU.lows {u : Int} {z bd bm pl : Nat} {W : World} {d : Dk} {ms : List FilM} (h : DkU u z W bd bm pl d ms) : ∀ j, dall bd bm pl d ms j → z ≤ j := by
 rintro j (h1 | ⟨m, hm, hj⟩)
 ·exact h.low j h1
 ·exact ((h.bytes m hm).typed j hj).1
/-- The log, its disk, the table; W0: the world in which the law began. -/
structure Cx (W0 W : World) (bd bl bm pl : Nat) (d : Dk) (ms : List FilM) (v : Value) (l : Lg) : Prop where
 hd : DkM W0.heap.size W bd bm pl d ms
 hl : LgM W0.heap.size W bl bd v l
 hx : Ext W0 W
 hT : TbW W0
theorem Cx.log {W0 W w : World} {bd bl bm pl : Nat} {d : Dk} {ms : List FilM} {v : Value} {l : Lg} (h : Cx W0 W bd bl bm pl d ms v l) (k : Kb (FFd W bd bm pl d ms) W w) : LgM W0.heap.size w bl bd v l :=
 h.hl.kb k fun j hj hf => hf.elim (h.hl.disk h.hd j hj) (fun hs => Nat.not_lt.2 hs (h.hl.lt j hj))
theorem Cx.ext_ {W0 W w : World} {bd bl bm pl : Nat} {d : Dk} {ms : List FilM} {v : Value} {l : Lg} (h : Cx W0 W bd bl bm pl d ms v l) (k : Kb (FFd W bd bm pl d ms) W w) : Ext W0 w :=
 k.ext h.hx fun b hb => hb.elim (h.hd.lows b) (fun hs => Nat.le_trans h.hx.size hs)
theorem Cx.tb {W0 W w : World} {bd bl bm pl : Nat} {d : Dk} {ms : List FilM} {v : Value} {l : Lg} (h : Cx W0 W bd bl bm pl d ms v l) (k : Kb (FFd W bd bm pl d ms) W w) : TbW w := h.hT.ext (h.ext_ k)
theorem Cx.ext {W0 W w : World} {bd bl bm pl : Nat} {d : Dk} {ms : List FilM} {v : Value} {l : Lg} (h : Cx W0 W bd bl bm pl d ms v l) (k : Ext W w) : Cx W0 w bd bl bm pl d ms v l := ⟨h.hd.ext k, h.hl.ext k, h.hx.trans k, h.hT⟩
/-- A call of the disk, within a region. -/
theorem tok_disk {z bd bm pl : Nat} {W w w' : World} {d : Dk} {ms : List FilM} {x : Dk × Nat} {e : Ending} (he : Kb (FFd W bd bm pl d ms) W w) (h : DkPost z w bd bm pl d ms x e w') :
  ∃ u, e = .returned u ∧ Kb (FFd W bd bm pl d ms) w w' ∧ u = .int .i64 (x.2 : Int) ∧ ∃ pl' ms', DkM z w' bd bm pl' x.1 ms' ∧ ∀ k, dall bd bm pl' x.1 ms' k → FFd W bd bm pl d ms k := by
 obtain ⟨pl', ms', rfl, hs⟩ := h
 refine ⟨_, rfl, hs.kb.mono fun b hb => .inl hb, rfl, pl', ms', hs.dk, fun k hk => ?_⟩
 rcases hs.fp k hk with h1 | h1
 ·exact .inl h1
 ·exact .inr (Nat.le_trans he.size h1)
/-- The blocks of the log and its disk. -/
def cfp (bd bl bm pl : Nat) (d : Dk) (ms : List FilM) (v : Value) (k : Nat) : Prop := dall bd bm pl d ms k ∨ lall bl v k
/-- What was done since W turned nothing but fp; fp1 is what there is to turn now. -/
structure Cont (fp : Nat → Prop) (W : World) (fp1 : Nat → Prop) (w : World) : Prop where
 kb : Kb fp W w
 sub : ∀ k, fp1 k → fp k ∨ W.heap.size ≤ k
theorem Cont.refl {fp fp1 : Nat → Prop} {W : World} (h : ∀ k, fp1 k → fp k) : Cont fp W fp1 W := ⟨Kb.refl _ _, fun k hk => .inl (h k hk)⟩
theorem Cont.ext {fp fp1 : Nat → Prop} {W w w' : World} (h : Cont fp W fp1 w) (k : Ext w w') : Cont fp W fp1 w' := ⟨h.kb.trans (Kb.of_ext (fp := fp) k) (fun _ h => .inl h), h.sub⟩
theorem Cont.trans {fp fp1 fp2 : Nat → Prop} {W w w' : World} (h : Cont fp W fp1 w) (k : Cont fp1 w fp2 w') : Cont fp W fp2 w' :=
 ⟨h.kb.trans k.kb h.sub, fun b hb => (k.sub b hb).elim (h.sub b) (fun hs => .inr (Nat.le_trans h.kb.size hs))⟩
theorem Cont.done {z bd bl : Nat} {fp fp1 : Nat → Prop} {W w : World} {d : Dk} {l : Lg} (h : Cont fp W fp1 w) (k : DL z bd bl fp1 d l w) : DLS z bd bl fp d l W w := ⟨fp1, k, h.kb, h.sub⟩
theorem Cont.of_dls {z bd bl : Nat} {fp : Nat → Prop} {W w : World} {d : Dk} {l : Lg} (h : DLS z bd bl fp d l W w) : ∃ fp1, DL z bd bl fp1 d l w ∧ Cont fp W fp1 w := by
 obtain ⟨fp1, h1, h2, h3⟩ := h
 exact ⟨fp1, h1, h2, h3⟩
theorem Cont.low {fp fp1 : Nat → Prop} {W0 W w : World} (h : Cont fp W fp1 w) (hx : Ext W0 W) (hl : ∀ k, fp k → W0.heap.size ≤ k) : Ext W0 w := h.kb.ext hx hl
/-- Behind it. -/
theorem Cx.disk {W0 W w : World} {bd bl bm pl pl' : Nat} {d d' : Dk} {ms ms' : List FilM} {v : Value} {l : Lg} (h : Cx W0 W bd bl bm pl d ms v l) (k : Kb (FFd W bd bm pl d ms) W w)
  (hd : DkM W0.heap.size w bd bm pl' d' ms') (hf : ∀ k, dall bd bm pl' d' ms' k → FFd W bd bm pl d ms k) : Cx W0 w bd bl bm pl' d' ms' v l ∧ Cont (cfp bd bl bm pl d ms v) W (cfp bd bl bm pl' d' ms' v) w := by
 refine ⟨⟨hd, h.log k, h.ext_ k, h.hT⟩, ⟨k.os, k.tape, k.output, k.size, fun b hb hn => k.block b hb fun hq => hq.elim (fun h => hn (.inl h)) (fun hs => Nat.not_lt.2 hs hb)⟩, fun b hb => ?_⟩
 rcases hb with hb | hb
 ·exact (hf b hb).imp .inl id
 ·exact .inl (.inr hb)
theorem Cx.dl {W0 W : World} {bd bl bm pl : Nat} {d : Dk} {ms : List FilM} {v : Value} {l : Lg} (h : Cx W0 W bd bl bm pl d ms v l) : DL W0.heap.size bd bl (cfp bd bl bm pl d ms v) d l W := ⟨bm, pl, ms, v, h.hd, h.hl, fun _ => Iff.rfl⟩
theorem DL.cx {W0 W : World} {bd bl : Nat} {fp : Nat → Prop} {d : Dk} {l : Lg} (h : DL W0.heap.size bd bl fp d l W) (hx : Ext W0 W) (hT : TbW W0) : ∃ bm pl ms v, Cx W0 W bd bl bm pl d ms v l ∧ Cont fp W (cfp bd bl bm pl d ms v) W := by
 obtain ⟨bm, pl, ms, v, h1, h2, h3⟩ := h
 exact ⟨bm, pl, ms, v, ⟨h1, h2, hx, hT⟩, Cont.refl fun k hk => (h3 k).2 hk⟩
/-- The log's own blocks are written. -/
theorem Cx.put {W0 W w : World} {bd bl bm pl : Nat} {d : Dk} {ms : List FilM} {v v' : Value} {l l' : Lg} (h : Cx W0 W bd bl bm pl d ms v l) (hl : LgM W0.heap.size w bl bd v' l') (k : Kb (lall bl v) W w) (hf : ∀ j, lall bl v' j → lall bl v j ∨ W.heap.size ≤ j) :
  Cx W0 w bd bl bm pl d ms v' l' ∧ Cont (cfp bd bl bm pl d ms v) W (cfp bd bl bm pl d ms v') w := by
 have hd : DkM W0.heap.size w bd bm pl d ms := h.hd.kb k (fun j hj hq => h.hl.disk h.hd j hq (.inl hj)) (fun m hm j hj hq => h.hl.disk h.hd j hq (.inr ⟨m, hm, hj⟩))
 refine ⟨⟨hd, hl, k.ext h.hx (fun b hb => h.hl.low b hb), h.hT⟩, k.mono fun b hb => .inr hb, ?_⟩
 rintro j (hj | hj)
 ·exact .inl (.inl hj)
 ·exact (hf j hj).imp .inr id
theorem DL.low {z bd bl : Nat} {fp : Nat → Prop} {d : Dk} {l : Lg} {W : World} (h : DL z bd bl fp d l W) : ∀ k, fp k → z ≤ k := by
 obtain ⟨bm, pl, ms, v, h1, h2, h3⟩ := h
 intro k hk
 rcases (h3 k).1 hk with h4 | h4
 ·exact h1.lows k h4
 ·exact h2.low k h4
end Go.Proofs.YtagghghoimpofaaGreatDoor

/-
 Layer 16: the program's log: Sync, roll.
-/
namespace Go.Proofs.YtagghghoimpofaaGreatDoor
open Go Go.RowKit Mono
set_option linter.unusedVariables false
set_option linter.unusedSimpArgs false
set_option maxRecDepth 100000
set_option maxHeartbeats 4000000

theorem wSync_any {W0 W : World} {bd bl : Nat} {fp : Nat → Prop} {d : Dk} {l : Lg} (h : DL W0.heap.size bd bl fp d l W) (hx : Ext W0 W) (hT : TbW W0) (hok : d.Ok) (hsm : d.Small) (hne : l.segs ≠ []) (hps : 1 ≤ l.next) (hnx : l.next ≤ 9000000000000000000) :
  Calls Tryz.prog 30 #[.pointer (some ⟨bl, 0, none⟩)] W fun e w' => e = .returned (.int .i64 ((wSync d l).2 : Int)) ∧ DLS W0.heap.size bd bl fp (wSync d l).1.1 (wSync d l).1.2 W w' := by
 obtain ⟨bm, pl, ms, v, hc, hfp⟩ := h.cx hx hT
 obtain ⟨g, c, rfl, -⟩ := hc.hl.slice hne
 have HFA := Lib.hid (wfault_any hc.hd hc.hl)
 have HK := Lib.hid hfp
 have HPS := Lib.hid hps
 have HC := Lib.hid hc
 have HNE := Lib.hid hne
 have HNX := Lib.hid hnx
 have HOK := Lib.hid hok
 have HSM := Lib.hid hsm
 have HDL := Lib.hid h
 have HX := Lib.hid hx
 have HT := Lib.hid hT
 obtain ⟨i, hi⟩ : ∃ i, i = l.segs.length - 1 := ⟨_, rfl⟩
 have hi2 := Lg.last_at hne
 rw [← hi] at hi2
 have HI := Lib.hid hi
 have HI2 := Lib.hid hi2
 clear hi hi2 hps hc hne hnx hok hsm h hx hT hfp
 obtain ⟨n, hn⟩ : ∃ n, n = wFault d l := ⟨_, rfl⟩
 rw [← hn] at HFA
 by_cases hn0 : n = 0
 rotate_left
 ·have hn1 : ¬ (n : Int) = 0 := by omega
  have HW := Lib.hid (show wSync d l = ((d, l), n) by unfold wSync; rw [if_pos (by omega), hn])
  clear hn hn0
  go_enter Tryz.func30, Tryz.ntmps30
  go_wp2_with fail
  refine HFA.out.mono ?_
  rintro e w1 ⟨rfl, hx1⟩
  go_wp2_with fail
  go_ret
  rw [HW.out]
  exact ⟨rfl, DLS.ext HDL.out hx1⟩
 subst hn0
 have HW := Lib.hid (show wSync d l = wSync1 d l by unfold wSync; rw [if_neg (by omega)])
 clear hn
 go_enter Tryz.func30, Tryz.ntmps30
 go_wp2_with fail
 refine HFA.out.mono ?_
 rintro e w1 ⟨rfl, hx1⟩
 have HXX := Lib.hid hx1
 replace HC := Lib.hid (HC.out.ext hx1)
 replace HK := Lib.hid (HK.out.ext hx1)
 clear hx1 HFA
 go_wp2_with fail
 refine wp_region_tok [false, false, false, false, false, false, false, true, false, false, false, true, true, true, false] (Kb (FFd w1 bd bm pl d ms)) (fun c w => if c < 3 then DkM W0.heap.size w bd bm pl d ms else ∃ pl2 ms2, DkM W0.heap.size w bd bm pl2 (dSync d (wname (l.last.frm : Int))).1 ms2 ∧ ∀ k, dall bd bm pl2 (dSync d (wname (l.last.frm : Int))).1 ms2 k → FFd w1 bd bm pl d ms k) 4 (by kernel_rfl) (by kernel_rfl) (by kernel_rfl) (by kernel_rfl) (preKb' _) (Kb.of_ext (ext_drew w1)) (HC.out.hd.ext (ext_drew w1)) ?_
 refine tok_val rfl (.pointer (some ⟨bl, 0, none⟩)) (fun _ _ _ => rfl) ?_ ?_
 ·rintro ρ w' he ⟨h0, -⟩
  have e0 : ρ 0 = .pointer (some ⟨bl, 0, none⟩) := h0
  simp [execOp, evR, e0, go_sem]
 refine tok_val rfl (.pointer (some ⟨bl, 0, none⟩)) (fun _ _ _ => rfl) ?_ ?_
 ·rintro ρ w' he ⟨h10, -⟩
  have e10 : ρ 10 = .pointer (some ⟨bl, 0, none⟩) := h10
  simp [execOp, evR, e10, go_sem]
 refine tok_val rfl (.pointer (some ⟨bl, 1, none⟩)) (fun _ _ _ => rfl) ?_ ?_
 ·rintro ρ w' he ⟨h11, -⟩
  have e11 : ρ 11 = .pointer (some ⟨bl, 0, none⟩) := h11
  simp [execOp, evR, e11, go_sem]
 refine tok_val rfl (.pointer (some ⟨bd, 0, none⟩)) (fun _ _ _ => rfl) ?_ ?_
 ·rintro ρ w' he ⟨h12, -⟩
  have e12 : ρ 12 = .pointer (some ⟨bl, 1, none⟩) := h12
  have c := (HC.out.log he).str.blk.cell (i := 1) rfl
  simp [execOp, evR, e12, c, go_sem]
 refine tok_val rfl (.pointer (some ⟨bl, 0, none⟩)) (fun _ _ _ => rfl) ?_ ?_
 ·rintro ρ w' he ⟨h0, -⟩
  have e0 : ρ 0 = .pointer (some ⟨bl, 0, none⟩) := h0
  simp [execOp, evR, e0, go_sem]
 refine tok_val rfl (.pointer (some ⟨bl, 0, none⟩)) (fun _ _ _ => rfl) ?_ ?_
 ·rintro ρ w' he ⟨h14, -⟩
  have e14 : ρ 14 = .pointer (some ⟨bl, 0, none⟩) := h14
  simp [execOp, evR, e14, go_sem]
 refine tok_val rfl (.pointer (some ⟨bl, 0, none⟩)) (fun _ _ _ => rfl) ?_ ?_
 ·rintro ρ w' he ⟨h15, -⟩
  have e15 : ρ 15 = .pointer (some ⟨bl, 0, none⟩) := h15
  simp [execOp, evR, e15, go_sem]
 refine tok_call rfl rfl Tryz.func39 (by kernel_rfl) (fun v _ => v = .pointer (some ⟨g, i * 3, none⟩)) (fun _ _ _ h _ => h) (fun _ _ _ => rfl) ?_ ?_
 ·rintro ρ w' he ht ⟨h16, -⟩
  have e16 : ρ 16 = .pointer (some ⟨bl, 0, none⟩) := h16
  simp only [evR, List.map_toArray, List.map_cons, List.map_nil, e16]
  have hp : DkM W0.heap.size w' bd bm pl d ms := ht
  refine (wlast_any (HC.out.log he) HNE.out).mono ?_
  rintro e w2 ⟨rfl, hx2⟩
  rw [← HI.out]
  exact ⟨_, rfl, Kb.of_ext hx2, rfl, hp.ext hx2⟩
 refine tok_val rfl (.pointer (some ⟨g, i * 3, none⟩)) (fun _ _ _ => rfl) ?_ ?_
 ·rintro ρ w' he ⟨h17, -⟩
  have e17 : ρ 17 = .pointer (some ⟨g, i * 3, none⟩) := h17
  simp [execOp, evR, e17, go_sem]
 refine tok_val rfl (.pointer (some ⟨g, i * 3, none⟩)) (fun _ _ _ => rfl) ?_ ?_
 ·rintro ρ w' he ⟨h18, -⟩
  have e18 : ρ 18 = .pointer (some ⟨g, i * 3, none⟩) := h18
  simp [execOp, evR, e18, go_sem]
 refine tok_val rfl (.int .i64 (l.last.frm : Int)) (fun _ _ _ => rfl) ?_ ?_
 ·rintro ρ w' he ⟨h19, -⟩
  have e19 : ρ 19 = .pointer (some ⟨g, i * 3, none⟩) := h19
  have c := (LgM.cells (HC.out.log he) HI2.out).1
  simp [execOp, evR, e19, c, go_sem]
 refine tok_call rfl rfl Tryz.func38 (by kernel_rfl) (fun v _ => v = .string ⟨(wname (l.last.frm : Int)).toArray⟩) (fun _ _ _ h _ => h) (fun _ _ _ => rfl) ?_ ?_
 ·rintro ρ w' he ht ⟨h20, -⟩
  have e20 : ρ 20 = .int .i64 (l.last.frm : Int) := h20
  simp only [evR, List.map_toArray, List.map_cons, List.map_nil, e20]
  have hp : DkM W0.heap.size w' bd bm pl d ms := ht
  refine (wName_any ((l.last.frm : Int) : Int) w' (HC.out.tb he)).mono ?_
  rintro e w2 ⟨rfl, hx2⟩
  exact ⟨_, rfl, Kb.of_ext hx2, rfl, hp.ext hx2⟩
 refine tok_call rfl rfl Tryz.func41 (by kernel_rfl) (fun v _ => v = .int .i64 ((dSync d (wname (l.last.frm : Int))).2 : Int)) (fun _ _ _ h _ => h) (fun _ _ _ => rfl) ?_ ?_
 ·rintro ρ w' he ht ⟨h13, h21, -⟩
  have e13 : ρ 13 = .pointer (some ⟨bd, 0, none⟩) := h13
  have e21 : ρ 21 = .string ⟨(wname (l.last.frm : Int)).toArray⟩ := h21
  simp only [evR, List.map_toArray, List.map_cons, List.map_nil, e13, e21]
  have hp : DkM W0.heap.size w' bd bm pl d ms := ht
  refine (sync_any hp HOK.out HSM.out (HC.out.ext_ he).size (wname (l.last.frm : Int)) (Nat.le_trans (wname_len _) (by decide))).mono ?_
  rintro e w2 hq
  exact tok_disk he hq
 refine tok_call rfl rfl Tryz.func46 (by kernel_rfl) (fun v _ => v = .int .i64 (didE (dSync d (wname (l.last.frm : Int))).2 : Int)) (fun _ _ _ h _ => h) (fun _ _ _ => rfl) ?_ ?_
 ·rintro ρ w' he ht ⟨h22, -⟩
  have e22 : ρ 22 = .int .i64 ((dSync d (wname (l.last.frm : Int))).2 : Int) := h22
  simp only [evR, List.map_toArray, List.map_cons, List.map_nil, e22]
  have hp : ∃ pl2 ms2, DkM W0.heap.size w' bd bm pl2 (dSync d (wname (l.last.frm : Int))).1 ms2 ∧ ∀ k, dall bd bm pl2 (dSync d (wname (l.last.frm : Int))).1 ms2 k → FFd w1 bd bm pl d ms k := ht
  refine (did_any (dSync d (wname (l.last.frm : Int))).2 w').mono ?_
  rintro e w2 ⟨rfl, rfl⟩
  exact ⟨_, rfl, Kb.refl _ _, rfl, hp⟩
 refine tok_val rfl (.int .i64 (didE (dSync d (wname (l.last.frm : Int))).2 : Int)) (fun _ _ _ => rfl) ?_ ?_
 ·rintro ρ w' he ⟨h23, -⟩
  have e23 : ρ 23 = .int .i64 (didE (dSync d (wname (l.last.frm : Int))).2 : Int) := h23
  simp [execOp, evR, e23, go_sem]
 refine tok_nil ?_
 rintro ρ w' hle htk ⟨f4, f23, f22, f21, f20, f19, f18, f17, f16, f15, f14, f13, f12, f11, f10, -⟩ -
 replace f4 : ρ 4 = .int .i64 (didE (dSync d (wname (l.last.frm : Int))).2 : Int) := f4
 simp only [puts, Act.put, List.setIfInBounds_toArray, List.set_cons_zero, List.set_cons_succ]
 rw [f4]
 clear f4 f10 f11 f12 f13 f14 f15 f16 f17 f18 f19 f20 f21 f22 f23
 obtain ⟨pl2, ms2, hd2, hf2⟩ := (show ∃ pl2 ms2, DkM W0.heap.size w' bd bm pl2 (dSync d (wname (l.last.frm : Int))).1 ms2 ∧ ∀ k, dall bd bm pl2 (dSync d (wname (l.last.frm : Int))).1 ms2 k → FFd w1 bd bm pl d ms k from htk)
 obtain ⟨hc2, hs2⟩ := HC.out.disk hle hd2 hf2
 have HS2 := Lib.hid (HK.out.trans hs2)
 have HC2 := Lib.hid hc2
 have hkn := wnext_any hc2.hl HNE.out HNX.out
 have HKN := Lib.hid hkn
 have HU := Lib.hid (show wSync1 d l = if didE (dSync d (wname (l.last.frm : Int))).2 ≠ 0 then (((dSync d (wname (l.last.frm : Int))).1, l), didE (dSync d (wname (l.last.frm : Int))).2) else (((dSync d (wname (l.last.frm : Int))).1, { l with sure := l.next - 1 }), 0) from rfl)
 clear hd2 hf2 hs2 hc2 hkn hle htk
 generalize dSync d (wname (l.last.frm : Int)) = x at *
 generalize didE x.2 = m at *
 by_cases hm : m = 0
 rotate_left
 ·have hm1 : ¬ (m : Int) = 0 := by omega
  rw [if_pos hm] at HU
  clear hm
  go_wp2_with fail
  go_ret
  rw [HW.out, HU.out]
  exact ⟨rfl, HS2.out.done HC2.out.dl⟩
 ·subst hm
  rw [if_neg (by omega)] at HU
  go_wp2_with fail
  refine HKN.out.mono ?_
  rintro e w2 ⟨rfl, hx2⟩
  have hc3 := HC2.out.ext hx2
  have hpos := HPS.out
  have hw : IntKind.i64.wrap ((l.next : Int) - 1) = ((l.next - 1 : Nat) : Int) := by rw [IntWalk.i64_in _ (by have := HNX.out; omega)]; omega
  have hlp := hc3.hl.put (l' := { l with sure := l.next - 1 }) 3 (.int .i64 ((l.next - 1 : Nat) : Int)) rfl rfl
  have k3 := hc3.hl.str.blk.cell (i := 3) rfl
  have t3 := hc3.hl.str.blk.thaw 3
  obtain ⟨hc4, hs4⟩ := hc3.put hlp (Kb.set _ w2 bl 3 _ (.inl rfl)) (fun _ h => .inl h)
  have HS4 := Lib.hid ((HS2.out.ext hx2).trans hs4)
  have HC4 := Lib.hid hc4
  generalize l.next - 1 = q at *
  clear hpos hc3 hlp hc4 hs4 hx2
  go_wp2_with fail
  go_ret
  rw [HW.out, HU.out]
  exact ⟨rfl, HS4.out.done HC4.out.dl⟩
end Go.Proofs.YtagghghoimpofaaGreatDoor
