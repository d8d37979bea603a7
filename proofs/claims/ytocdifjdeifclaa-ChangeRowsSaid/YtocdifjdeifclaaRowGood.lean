/-
  Layer 10: which row may be; the walk of row.Good.
-/
import Derived.Test.YtocdifjdeifclaaRowParts
namespace Go.Proofs.Ytocdifjdeifclaa
open Go Go.RowKit Go.Shelf Mono Num
attribute [local go_sem] Oper.semAt_some
set_option linter.unusedVariables false
set_option linter.unusedSimpArgs false
set_option maxRecDepth 100000

/-- May a row be? -/
def rgood (gs : List Grp) (key : List UInt8) (cs : List Cl) : Nat :=
  if pgood gs ≠ 0 then pgood gs else if key = [] then 2 else if 32 < key.length then 3 else if cs.length ≠ gs.length then 100 else if (gs.zip cs).all (fun p => cellgood p.1.2 p.2) = true then 0 else 80
/-- What stands at the head of a round. -/
structure RgJ (w W0 : World) (B1 B2 Be : Nat) (W : World) : Prop where
  ext : Ext w W
  size : W0.heap.size ≤ W.heap.size
  b1 : W.heap[B1]? = W0.heap[B1]?
  b2 : W.heap[B2]? = W0.heap[B2]?
  be : W.heap[Be]? = W0.heap[Be]?
structure RgAt (w W0 : World) (B1 B2 Be : Nat) : Prop where
  hz : w.heap.size ≤ W0.heap.size
  l1 : B1 < W0.heap.size
  l2 : B2 < W0.heap.size
  le : Be < W0.heap.size
theorem RgJ.kept {w W0 X Y : World} {B1 B2 Be : Nat} (h : RgJ w W0 B1 B2 Be X) (ha : RgAt w W0 B1 B2 Be) {row : Option Nat} (hg : X.grownBy Y row) (hr : ∀ r, row = some r → W0.heap.size ≤ r) : RgJ w W0 B1 B2 Be Y := by
  have hb : ∀ {b : Nat}, b < W0.heap.size → Y.heap[b]? = X.heap[b]? := fun hb => hg.block _ (Nat.lt_of_lt_of_le hb h.size) (fun e => by have := hr _ e.symm; omega)
  exact ⟨Below.grown h.ext hg h.ext.size (fun k e => Nat.le_trans ha.hz (hr k e)), Nat.le_trans h.size hg.size, (hb ha.l1).trans h.b1, (hb ha.l2).trans h.b2, (hb ha.le).trans h.be⟩
def RgI (w W0 : World) (B1 B2 Be : Nat) (pre : List (Grp × Cl)) (W : World) : Prop := RgJ w W0 B1 B2 Be W ∧ pre.all (fun p => cellgood p.1.2 p.2) = true
theorem rgI_own {w W0 : World} {B1 B2 Be : Nat} (ha : RgAt w W0 B1 B2 Be) : OwnFrom W0.heap.size (RgI w W0 B1 B2 Be) := by
  rintro pre X Y row ⟨h, hp⟩ hg hr
  exact ⟨h.kept ha hg (fun r e => (hr r e).1), hp⟩
def RgX (w W0 : World) (Be : Nat) (all : List (Grp × Cl)) (c : Code) (pre : List (Grp × Cl)) (W : World) : Prop := c = .ret ∧ Ext w W ∧ Boxed W Be 35 (.int .i64 80) ∧ all.all (fun p => cellgood p.1.2 p.2) = false
set_option maxRecDepth 100000 in
set_option maxHeartbeats 4000000 in
theorem rowGood_any (v : Value) (gs : List Grp) (key : List UInt8) (vc : Value) (cs : List Cl) (w : World) (hg : Gs w v gs) (hc : Fl w vc cs.length (clsC cs)) :
    Calls Try.prog 17 #[v, .agg #[strV key, vc]] w fun e w' => e = .returned (.int .i64 ((rgood gs key cs : Nat) : Int)) ∧ Ext w w' := by
  obtain ⟨A, c, rfl, g1, g2, g3, g4⟩ := hg.at_
  have hc' := hc
  obtain ⟨Av, cv, rfl, k1, k2, k3, k4⟩ := hc
  have HG := Lib.hid hg
  have HC := Lib.hid hc'
  have hsz := strV_size key
  unfold maxLen at k2
  clear g3 g4 k3 k4 hg hc'
  unfold strV
  refine (callsIn_wide (n := 5)).1 ?_
  refine callsIn_of_wp_marks Try.func17 rfl trivial ?_ rfl
  simp only [Try.ntmps17, List.size_toArray, List.length_cons, List.length_nil, Nat.reduceAdd, Nat.reduceSub, Array.replicate_succ, Array.replicate_zero, List.push_toArray, List.append_toArray, List.nil_append, List.cons_append]
  gi_wp2
  refine ⟨trivial, (callsIn_wide.2 (polGood_any _ gs _ (HG.out.ext ((ext_alloc w (.cells #[.string ⟨key.toArray⟩, .slice Av cs.length cv] 47)).trans (ext_alloc _ _))))).mono ?_⟩
  rintro e w1 ⟨rfl, x1⟩
  have ba := ((Blk.new w #[.string ⟨key.toArray⟩, .slice Av cs.length cv] 47).ext (ext_alloc _ (.cells #[.int .i64 0] 35))).ext x1
  have hbe : Boxed w1 (w.heap.size + 1) 35 (.int .i64 0) := by
    have h := Boxed.new (w.alloc (.cells #[.string ⟨key.toArray⟩, .slice Av cs.length cv] 47)) 35 (.int .i64 0)
    rw [World.size_alloc] at h
    exact (x1.block _ (by simp)).trans h
  have hx1 := ((ext_alloc w (.cells #[.string ⟨key.toArray⟩, .slice Av cs.length cv] 47)).trans (ext_alloc _ (.cells #[.int .i64 0] 35))).trans x1
  obtain ⟨br, hbr⟩ : ∃ n, n = w.heap.size := ⟨_, rfl⟩
  obtain ⟨be, hbee⟩ : ∃ n, n = w.heap.size + 1 := ⟨_, rfl⟩
  rw [← hbr] at ba
  rw [← hbee] at hbe
  rw [← hbee, ← hbr]
  have HBE := Lib.hid (show w.heap.size ≤ be by omega)
  have HBR := Lib.hid (show w.heap.size ≤ br by omega)
  clear hbr hbee x1
  have e0 := hbe.cell
  have f0 := hbe.frozen
  have a0 := ba.cell (i := 0) rfl
  have a1 := ba.cell (i := 1) rfl
  by_cases hp : pgood gs = 0
  rotate_left
  · have HR := Lib.hid (show rgood gs key cs = pgood gs by unfold rgood; rw [if_pos hp])
    have hp0 : (((pgood gs : Nat) : Int) != 0) = true := by rw [bne_iff_ne]; omega
    clear hp
    have HX := Lib.hid (hx1.setCell (p := ⟨be, 0, none⟩) HBE.out (.int .i64 ((pgood gs : Nat) : Int)))
    have hr := (hbe.set (.int .i64 ((pgood gs : Nat) : Int))).cell
    have HRC := Lib.hid hr
    clear hr hx1 hbe ba
    gi_wp2
    exact ⟨_, (by simp [results, Try.results17, HRC.out, go_sem] <;> rfl), by rw [HR.out] <;> rfl, HX.out⟩
  have HP := Lib.hid hp
  rw [hp]
  clear hp
  by_cases hk : key = []
  · subst hk
    have HR := Lib.hid (show rgood gs [] cs = 2 by unfold rgood; rw [if_neg (by rw [HP.out]; decide), if_pos rfl])
    have HX := Lib.hid (hx1.setCell (p := ⟨be, 0, none⟩) HBE.out (.int .i64 2))
    have hr := (hbe.set (.int .i64 2)).cell
    have HRC := Lib.hid hr
    clear hr hx1 hbe ba
    gi_wp2
    exact ⟨_, (by simp [results, Try.results17, HRC.out, go_sem] <;> rfl), by rw [HR.out] <;> rfl, HX.out⟩
  have hke : key.isEmpty = false := by simpa using hk
  by_cases hk32 : 32 < key.length
  · have HR := Lib.hid (show rgood gs key cs = 3 by unfold rgood; rw [if_neg (by rw [HP.out]; decide), if_neg hk, if_pos hk32])
    have HX := Lib.hid (hx1.setCell (p := ⟨be, 0, none⟩) HBE.out (.int .i64 3))
    have hr := (hbe.set (.int .i64 3)).cell
    have HRC := Lib.hid hr
    clear hr hx1 hbe ba
    gi_wp2
    exact ⟨_, (by simp [results, Try.results17, HRC.out, go_sem] <;> rfl), by rw [HR.out] <;> rfl, HX.out⟩
  by_cases hcl : cs.length = gs.length
  rotate_left
  · have HR := Lib.hid (show rgood gs key cs = 100 by unfold rgood; rw [if_neg (by rw [HP.out]; decide), if_neg hk, if_neg hk32, if_pos hcl])
    have hcl0 : ((cs.length : Int) != (gs.length : Int)) = true := by rw [bne_iff_ne]; omega
    clear hcl
    have HX := Lib.hid (hx1.setCell (p := ⟨be, 0, none⟩) HBE.out (.int .i64 100))
    have hr := (hbe.set (.int .i64 100)).cell
    have HRC := Lib.hid hr
    clear hr hx1 hbe ba
    gi_wp2
    exact ⟨_, (by simp [results, Try.results17, HRC.out, go_sem] <;> rfl), by rw [HR.out] <;> rfl, HX.out⟩
  have HR := Lib.hid (show rgood gs key cs = if (gs.zip cs).all (fun p => cellgood p.1.2 p.2) = true then 0 else 80 by unfold rgood; rw [if_neg (by rw [HP.out]; decide), if_neg hk, if_neg hk32, if_neg (by omega)])
  have hcl0 : ((cs.length : Int) != (gs.length : Int)) = false := by rw [bne_eq_false_iff_eq]; omega
  have HCL := Lib.hid hcl
  have hkd : decide ((32 : Int) < (key.length : Int)) = false := by simp; omega
  clear hcl
  gi_wp2
  refine ⟨trivial, (callsIn_wide.2 (parts_mk A gs.length c key Av cs.length cv w1)).mono ?_⟩
  rintro e w2 ⟨rfl, rfl⟩
  gi_wp2
  obtain ⟨W0, hW0⟩ : ∃ W0, (w1.alloc (.cells #[.slice A gs.length c] 22)).alloc (.cells #[.string ⟨key.toArray⟩, .slice Av cs.length cv] 47) = W0 := ⟨_, rfl⟩
  have hx0 : Ext w1 W0 := by rw [← hW0]; exact Ext.trans (ext_alloc _ _) (ext_alloc _ _)
  have hx := hx1.trans hx0
  have b1 : Boxed W0 w1.heap.size 22 (.slice A gs.length c) := by rw [← hW0]; exact (Boxed.new w1 _ _).alloc _
  have b2 : Blk W0 (w1.heap.size + 1) [.string ⟨key.toArray⟩, .slice Av cs.length cv] := by
    have h := Blk.new (w1.alloc (.cells #[.slice A gs.length c] 22)) #[.string ⟨key.toArray⟩, .slice Av cs.length cv] 47
    rw [World.size_alloc, hW0] at h
    exact h
  have hbe2 : Boxed W0 be 35 (.int .i64 0) := (hx0.block _ hbe.lt).trans hbe
  try unfold strV
  rw [hW0]
  obtain ⟨B1, hB1⟩ : ∃ n, n = w1.heap.size := ⟨_, rfl⟩
  obtain ⟨B2, hB2⟩ : ∃ n, n = w1.heap.size + 1 := ⟨_, rfl⟩
  rw [← hB1] at b1
  rw [← hB2] at b2
  rw [← hB2, ← hB1]
  have hat : RgAt w W0 B1 B2 be := ⟨hx.size, b1.lt, b2.lt, hbe2.lt⟩
  have hwB1 : w.heap.size ≤ B1 := by have := hx1.size; omega
  have hwB2 : w.heap.size ≤ B2 := by have := hx1.size; omega
  have hbeB : be < B1 ∧ be < B2 := by have := hbe.lt; omega
  clear hW0 e0 f0 a0 a1 hB1 hB2 hbe hx0 ba
  have HAT := Lib.hid hat
  have hin : RgJ w W0 B1 B2 be W0 := ⟨hx, Nat.le_refl _, rfl, rfl, rfl⟩
  refine wpIn_rangeW rfl (by omega) (gf := 71) (lb := #[.pointer (some ⟨B1, 0, none⟩), .pointer (some ⟨B2, 0, none⟩)]) rfl trivial (enters_of Try.func71 (by kernel_rfl) rfl)
    (someParts_any 4 (by omega) w A c gs HG.out Av cv cs HC.out HCL.out B1 B2 W0 hx b1.cell (b2.cell (i := 1) rfl) b1.lt b2.lt) (fun h k => h.trans k) ?kb (Below.refl _ _) (fun _ => rfl) (fun _ _ _ _ h _ _ => h) (fun _ _ _ _ _ _ _ => trivial)
    (RgI w W0 B1 B2 be) (RgX w W0 be (gs.zip cs)) (rgI_own hat) ?ownx ⟨hin, rfl⟩
    (fun pre x a' W => ∃ Bg Bc, W0.heap.size ≤ Bg ∧ W0.heap.size ≤ Bc ∧ (∃ rest, gs.zip cs = pre ++ x :: rest) ∧ Blk W Bg [strV x.1.1, .int .i64 x.1.2] ∧ Blk W Bc (clC x.2) ∧ a' = { tmps := #[.slice A gs.length c, .agg #[.string ⟨key.toArray⟩, .slice Av cs.length cv], undef, .pointer (some ⟨br, 0, none⟩), .pointer (some ⟨be, 0, none⟩), .int .i64 0, .pointer (some ⟨Bg, 0, none⟩), .pointer (some ⟨Bc, 0, none⟩), .slice A gs.length c, .int .i64 0, .int .i64 0, .bool false, undef, .bool false, .pointer (some ⟨br, 0, none⟩), .string ⟨key.toArray⟩, .bool false, .bool false, .pointer (some ⟨br, 0, none⟩), .string ⟨key.toArray⟩, .int .i64 (key.length : Int), .bool false, .bool false, .pointer (some ⟨br, 1, none⟩), .slice Av cs.length cv, .int .i64 (cs.length : Int), .slice A gs.length c, .int .i64 (gs.length : Int), .bool false, .slice A gs.length c, .agg #[.string ⟨key.toArray⟩, .slice Av cs.length cv], .func (.func 71) #[] #[.pointer (some ⟨B1, 0, none⟩), .pointer (some ⟨B2, 0, none⟩)], grV x.1, clV x.2, undef, undef, undef, undef, undef], defers := [] })
    ?owna ?assign ?body ?done ?stop
  case kb =>
    intro W k o o' hk ho hc _
    have hlt := (Array.getElem?_eq_some_iff.1 ho).1
    have l1 := hat.l1
    have l2 := hat.l2
    refine ⟨(Below.refl _ W).grown (grownBy_putObj' W k o') (by have := hx.size; omega) (fun j e => by cases e; have := hx.size; omega), World.putObj_heap_other (by omega), World.putObj_heap_other (by omega)⟩
  case ownx =>
    rintro c pre X Y row ⟨rfl, h1, h2, h3⟩ hg hr
    refine ⟨rfl, Below.grown h1 hg h1.size (fun k e => Nat.le_trans hat.hz (hr k e).1), ?_, h3⟩
    refine (hg.block be h2.lt (fun e => ?_)).trans h2
    have h5 := (hr _ e.symm).1
    have h6 := hat.le
    omega
  case owna =>
    rintro pre x a' _ X Y row ⟨Bg, Bc, h1, h2, h3, ⟨T1, h4⟩, ⟨T2, h5⟩, h6⟩ hg hr
    have hk : ∀ {b : Nat} {L : List Value} {T : TypeId}, X.heap[b]? = some (.cells L.toArray T) → Y.heap[b]? = some (.cells L.toArray T) := fun {b L T} h => (hg.block b (Array.getElem?_eq_some_iff.1 h).1 (fun e' => by
      obtain ⟨_, o, ho, hc⟩ := hr _ e'.symm
      rw [h] at ho
      cases ho
      cases hc)).trans h
    exact ⟨Bg, Bc, h1, h2, h3, ⟨T1, hk h4⟩, ⟨T2, hk h5⟩, h6⟩
  case assign =>
    rintro k pre ⟨⟨gn, gp⟩, ⟨sn, ss, va, vb, gone, value, da, db⟩⟩ W K hi ⟨rest, hR⟩ hK
    unfold grV clV at hK ⊢
    unfold strV at ⊢
    dsimp only at hK ⊢
    gi_wp2
    have hz1 := hi.1.size
    have hat' := HAT.out
    have l1 := hat'.l1
    have l2 := hat'.l2
    have hxx := (ext_alloc W (.cells #[.string ⟨gn.toArray⟩, .int .i64 gp] 52)).trans (ext_alloc _ (.cells #[.int .i64 sn, .int .i64 ss, .int .i64 va, .int .i64 vb, .bool gone, .string ⟨value.toArray⟩, .int .i64 da, .int .i64 db] 54))
    refine hK _ _ ?_ ?_ ?_ ⟨W.heap.size, W.heap.size + 1, hz1, by omega, ⟨rest, hR⟩, ?_, ?_, rfl⟩
    · exact ((KeepsOthers.alloc _ _).trans (KeepsOthers.alloc _ _)).from _
    · exact ⟨hxx.mono (by have := hx.size; omega), hxx.block _ (by omega), hxx.block _ (by omega)⟩
    · exact ⟨hi.1.kept hat' (Ext.grownD hxx) (fun r e => by cases e), hi.2⟩
    · exact (Blk.new W #[.string ⟨gn.toArray⟩, .int .i64 gp] 52).ext (ext_alloc _ _)
    · have h := Blk.new (W.alloc (.cells #[.string ⟨gn.toArray⟩, .int .i64 gp] 52)) #[.int .i64 sn, .int .i64 ss, .int .i64 va, .int .i64 vb, .bool gone, .string ⟨value.toArray⟩, .int .i64 da, .int .i64 db] 54
      rw [World.size_alloc] at h
      exact h
  case body =>
    rintro k pre ⟨⟨gn, gp⟩, ⟨sn, ss, va, vb, gone, value, da, db⟩⟩ a' W hk ⟨hj, hp⟩ ⟨Bg, Bc, hzg, hzc, ⟨rest, hR⟩, bg, bc, rfl⟩
    have hat' := HAT.out
    have l1 := hat'.l1
    have l2 := hat'.l2
    have le := hat'.le
    have hz1 := hj.size
    have hBe : Boxed W be 35 (.int .i64 0) := hj.be.trans hbe2
    have HBe := Lib.hid hBe
    unfold clC strV at bc
    dsimp only at bc bg
    have k1' := bg.cell (i := 1) rfl
    have c0 := bc.cell (i := 0) rfl
    have c1 := bc.cell (i := 1) rfl
    have c2 := bc.cell (i := 2) rfl
    have c3 := bc.cell (i := 3) rfl
    have c4 := bc.cell (i := 4) rfl
    have c5 := bc.cell (i := 5) rfl
    have c6 := bc.cell (i := 6) rfl
    have c7 := bc.cell (i := 7) rfl
    have hcg := cellGood_any gp sn ss va vb gone value da db W
    unfold clV strV at hcg
    dsimp only at hcg
    have HCG := Lib.hid hcg
    have HJ := Lib.hid hj
    clear hcg bg bc hBe hj
    unfold grV clV strV
    dsimp only
    gi_wp2
    refine ⟨trivial, (callsIn_wide.2 HCG.out).mono ?_⟩
    rintro e W2 ⟨rfl, he⟩
    clear k1' c0 c1 c2 c3 c4 c5 c6 c7 HCG
    have hbe3 : Boxed W2 be 35 (.int .i64 0) := (he.block _ HBe.out.lt).trans HBe.out
    have hkf : KeepsFrom W0.heap.size W W2 := (KeepsOthers.of_grownBy (Ext.grownD he) (fun j o e => by cases e)).from _
    have hkp : KpD w.heap.size B1 B2 W W2 := ⟨he.mono (by have := hx.size; omega), he.block _ (by omega), he.block _ (by omega)⟩
    have hj2 := HJ.out.kept hat' (Ext.grownD he) (fun r e => by cases e)
    generalize hq : cellgood gp ⟨sn, ss, va, vb, gone, value, da, db⟩ = q at *
    have HQ := Lib.hid hq
    clear hq
    cases q
    · have e0 := hbe3.cell
      have f0 := hbe3.frozen
      gi_wp2
      have hws := hj2.ext.size
      have hw0 := hx.size
      refine ⟨hkf.trans ((KeepsOthers.setCell _ _ _).from _), ?_, rfl, hj2.ext.setCell (p := ⟨be, 0, none⟩) HBE.out _, hbe3.set _, ?_⟩
      · refine hkp.trans ⟨(Below.refl _ _).setCell (p := ⟨be, 0, none⟩) HBE.out _, Below.heap_setCell _ _ _ _ ?_, Below.heap_setCell _ _ _ _ ?_⟩
        · show B1 ≠ be; omega
        · show B2 ≠ be; omega
      · rw [hR, List.all_append, List.all_cons]
        dsimp only
        rw [HQ.out]
        simp
    · gi_wp2
      exact ⟨hkf, hkp, hj2, by rw [List.all_append, hp]; simp [HQ.out]⟩
  case done =>
    rintro D xs W hD rfl ⟨hj, hp⟩ hdef
    have hvo : Boxed W be 35 (.int .i64 0) := hj.be.trans hbe2
    have co := hvo.cell
    have fo := hvo.frozen
    have HJ := Lib.hid hj
    have hR0 : rgood gs key cs = 0 := by rw [HR.out, if_pos hp]
    have HR0 := Lib.hid hR0
    clear hj hR0
    gi_wp2
    simp only [setCell_sameD hvo]
    refine ⟨by simp, .inl ⟨_, _, rfl, run_takeDeferred (w := W) hdef, ?_⟩⟩
    have hg := grownBy_putObj' W D (.deferred none)
    have hle := HAT.out.le
    have hj3 := HJ.out.kept HAT.out hg (fun r e => by cases e; exact hD)
    have hv3 : Boxed _ be 35 (.int .i64 0) := hj3.be.trans hbe2
    have c3 := hv3.cell
    exact ⟨_, by simp [results, Try.results17, go_sem, c3] <;> rfl, by rw [HR0.out] <;> rfl, hj3.ext⟩
  case stop =>
    rintro D cc ys W hD _ ⟨rfl, hx4, hv4, hp⟩ hdef
    have hR0 : rgood gs key cs = 80 := by rw [HR.out, if_neg (by rw [hp]; simp)]
    have HR0 := Lib.hid hR0
    clear hR0
    gi_wp2
    refine ⟨by simp, .inl ⟨_, _, rfl, run_takeDeferred (w := W) hdef, ?_⟩⟩
    have hg := grownBy_putObj' W D (.deferred none)
    have hle := HAT.out.le
    have hv3 : Boxed (W.putObj D (.deferred none)) be 35 (.int .i64 80) := (hg.block be hv4.lt (fun e => by injection e with e; omega)).trans hv4
    have c3 := hv3.cell
    exact ⟨_, by simp [results, Try.results17, go_sem, c3] <;> rfl, by rw [HR0.out] <;> rfl, Below.grown hx4 hg hx4.size (fun j e => by injection e with e; have := hx.size; omega)⟩
end Go.Proofs.Ytocdifjdeifclaa
