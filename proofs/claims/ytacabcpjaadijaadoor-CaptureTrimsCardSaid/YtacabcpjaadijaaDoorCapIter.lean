/-
  Layer 19: the iterator over changes, and what it yields.
-/
import Derived.Test.YtacabcpjaadijaaDoorCapOwn0
import Derived.Test.YtacabcpjaadijaaDoorRangeW
import Derived.Test.YtacabcpjaadijaaDoorMonoLast
import Derived.Shelf.Abstract
import Derived.Shelf.RegionOpen
import Derived.WalkKit
import Derived.OwnWalkIn
import Derived.TacticsInMore
import Derived.LoopNIn
import Derived.LoopIn
namespace Go.Proofs.YtacabcpjaadijaaDoor
open Go Go.RowKit Go.Shelf Mono Num
attribute [local go_sem] Oper.semAt_some
set_option linter.unusedVariables false
set_option linter.unusedSimpArgs false
set_option maxRecDepth 100000

/-- What a round keeps. -/
structure KpC (n0 B1 B2 B3 : Nat) (W W' : World) : Prop where
  below : Below n0 W W'
  b1 : W'.heap[B1]? = W.heap[B1]?
  b2 : W'.heap[B2]? = W.heap[B2]?
  b3 : W'.heap[B3]? = W.heap[B3]?
theorem KpC.trans {n0 B1 B2 B3 : Nat} {X Y Z : World} (h : KpC n0 B1 B2 B3 X Y) (k : KpC n0 B1 B2 B3 Y Z) : KpC n0 B1 B2 B3 X Z := ⟨h.below.trans k.below, k.b1.trans h.b1, k.b2.trans h.b2, k.b3.trans h.b3⟩
theorem Ext.grown' {W W' : World} (he : Ext W W') : W.grownBy W' none := ⟨he.os, he.tape, he.output, he.size, fun k hk _ => he.block k hk⟩

set_option maxRecDepth 100000 in
set_option maxHeartbeats 4000000 in
theorem someOwn_any (n : Nat) (hn : 1 ≤ n) (w0 : World) (A : Option Addr) (c : Nat) (l : List (Ch × Value)) (u : Int) (hs : Cs w0 (.slice A l.length c) l) (B1 B2 B3 : Nat) (w1 : World) (hx : Ext w0 w1)
    (h1 : w1.cell? ⟨B1, 0, none⟩ = some (.slice A l.length c)) (h2 : w1.cell? ⟨B2, 0, none⟩ = some (.func (.func 27) #[] #[.pointer (some ⟨B3, 0, none⟩)])) (h3 : w1.cell? ⟨B3, 0, none⟩ = some (.int .i64 u))
    (hb1 : B1 < w1.heap.size) (hb2 : B2 < w1.heap.size) (hb3 : B3 < w1.heap.size) :
    SeqW Fence.wide n Tryd.prog 46 #[.pointer (some ⟨B1, 0, none⟩), .pointer (some ⟨B2, 0, none⟩)] (fun x : Ch × Value => #[chV x.1 x.2]) (KpC w0.heap.size B1 B2 B3) (fun pre x _ => ∃ rest, l.filter (fun x => decide (x.1.site = u)) = pre ++ x :: rest) (fun xs _ => xs = l.filter (fun x => decide (x.1.site = u))) (fun _ _ => True) w1 := by
  intro fl J Jx W hW hJ hJx hY h0
  have c1 : W.cell? ⟨B1, 0, none⟩ = _ := (hW.cell (p := ⟨B1, 0, none⟩) hb1).trans h1
  have c2 : W.cell? ⟨B2, 0, none⟩ = _ := (hW.cell (p := ⟨B2, 0, none⟩) hb2).trans h2
  have c3 : W.cell? ⟨B3, 0, none⟩ = _ := (hW.cell (p := ⟨B3, 0, none⟩) hb3).trans h3
  have hxW : Ext w0 W := hx.trans hW
  obtain ⟨A', c', hv', g1, g2, g3, g4⟩ := hs.at_
  injection hv' with e1 e2 e3
  subst e1 e3
  have H4 := Lib.hid g4
  have HS := Lib.hid hs
  have HY := Lib.hid hY
  have HJ := Lib.hid hJ
  have hbw1 : B1 < W.heap.size := Nat.lt_of_lt_of_le hb1 hW.size
  have hbw2 : B2 < W.heap.size := Nat.lt_of_lt_of_le hb2 hW.size
  have hbw3 : B3 < W.heap.size := Nat.lt_of_lt_of_le hb3 hW.size
  clear g4 hs hY hJ h1 h2 h3 hb1 hb2 hb3
  refine callsIn_of_wp Tryd.func46 rfl trivial ?_ rfl
  simp only [Tryd.ntmps46, List.size_toArray, List.length_cons, List.length_nil, Nat.reduceAdd, Nat.reduceSub, Array.replicate_succ, Array.replicate_zero, List.push_toArray, List.append_toArray, List.nil_append, List.cons_append]
  gi_wp2
  gi_loopw [8] (fun at_ wr => ∃ (k : Nat) (pre : List (Ch × Value)), at_ = .int .i64 k ∧ k ≤ l.length ∧ l.filter (fun x => decide (x.1.site = u)) = pre ++ (l.drop k).filter (fun x => decide (x.1.site = u)) ∧ J pre wr ∧ Ext w0 wr ∧ W.heap.size ≤ wr.heap.size ∧
    wr.cell? ⟨B1, 0, none⟩ = some (.slice A l.length c) ∧ wr.cell? ⟨B2, 0, none⟩ = some (.func (.func 27) #[] #[.pointer (some ⟨B3, 0, none⟩)]) ∧ wr.cell? ⟨B3, 0, none⟩ = some (.int .i64 u)) (fun a _ => l.length - (intOf a).toNat)
  case atStart => exact ⟨0, [], rfl, Nat.zero_le _, by simp, h0, hxW, Nat.le_refl _, c1, c2, c3⟩
  case round =>
    obtain ⟨k, pre, rfl, hk, hf, hj, hxr, hsz, d1, d2, d3⟩ := hrel
    have HF := Lib.hid hf
    clear hf c1 c2 c3 h0
    by_cases hlt : k < l.length
    · obtain ⟨b, off, rfl, hb, hcell⟩ := H4.out (by omega)
      obtain ⟨site, seq, sn, ss, va, vb, ws, vw, hget, hws, hin, p0, p1, p2, p3, p4, p5, p6⟩ := hcell k hlt
      replace hws := hws.ext hxr
      obtain ⟨Av, cv, rfl, _⟩ := hws.at_
      replace p0 := (hxr.cell (p := ⟨b, off + k * 7, none⟩) hb).trans p0
      replace p1 := (hxr.cell (p := ⟨b, off + k * 7 + 1, none⟩) hb).trans p1
      replace p2 := (hxr.cell (p := ⟨b, off + k * 7 + 2, none⟩) hb).trans p2
      replace p3 := (hxr.cell (p := ⟨b, off + k * 7 + 3, none⟩) hb).trans p3
      replace p4 := (hxr.cell (p := ⟨b, off + k * 7 + 4, none⟩) hb).trans p4
      replace p5 := (hxr.cell (p := ⟨b, off + k * 7 + 5, none⟩) hb).trans p5
      replace p6 := (hxr.cell (p := ⟨b, off + k * 7 + 6, none⟩) hb).trans p6
      have hdrop : l.drop k = (⟨site, seq, sn, ss, va, vb, ws⟩, .slice Av ws.length cv) :: l.drop (k + 1) := by
        rw [List.drop_eq_getElem_cons hlt]
        congr 1
        exact (List.getElem?_eq_some_iff.1 hget).2
      have HD := Lib.hid hdrop
      clear hdrop hcell
      have xa := ext_alloc wr (.cells #[.int .i64 site, .int .i64 seq, .int .i64 sn, .int .i64 ss, .int .i64 va, .int .i64 vb, .slice Av ws.length cv] 32)
      have ba := Blk.new wr #[.int .i64 site, .int .i64 seq, .int .i64 sn, .int .i64 ss, .int .i64 va, .int .i64 vb, .slice Av ws.length cv] 32
      have e1 := (xa.cell (p := ⟨B1, 0, none⟩) (Nat.lt_of_lt_of_le hbw1 hsz)).trans d1
      have e2 := (xa.cell (p := ⟨B2, 0, none⟩) (Nat.lt_of_lt_of_le hbw2 hsz)).trans d2
      have e3 := (xa.cell (p := ⟨B3, 0, none⟩) (Nat.lt_of_lt_of_le hbw3 hsz)).trans d3
      have hxa := Ext.trans hxr xa
      have hja := HJ.out pre wr _ none hj (Ext.grown' xa) (by simp)
      have hsza : W.heap.size ≤ (wr.alloc (.cells #[.int .i64 site, .int .i64 seq, .int .i64 sn, .int .i64 ss, .int .i64 va, .int .i64 vb, .slice Av ws.length cv] 32)).heap.size := by simp; omega
      have hwa := hws.ext xa
      have HC := Lib.hid (own1_any site seq sn ss va vb u ws (.slice Av ws.length cv) B3 _ hwa e3 (Nat.lt_of_lt_of_le hbw3 hsza))
      have HX := Lib.hid hxa
      have HJA := Lib.hid hja
      have l0 := ba.cell (i := 0) rfl
      have l1 := ba.cell (i := 1) rfl
      have l2 := ba.cell (i := 2) rfl
      have l3 := ba.cell (i := 3) rfl
      have l4 := ba.cell (i := 4) rfl
      have l5 := ba.cell (i := 5) rfl
      have l6 := ba.cell (i := 6) rfl
      have bl := ba.lt
      unfold chV at HC
      clear xa hj hxr hws hxa hja d1 d3 ba
      gi_wp2
      refine ⟨trivial, (callsIn_wide.2 HC.out).mono ?_⟩
      rintro e w2 ⟨rfl, he⟩
      replace l0 := (he.cell (p := ⟨wr.heap.size, 0, none⟩) bl).trans l0
      replace l1 := (he.cell (p := ⟨wr.heap.size, 1, none⟩) bl).trans l1
      replace l2 := (he.cell (p := ⟨wr.heap.size, 2, none⟩) bl).trans l2
      replace l3 := (he.cell (p := ⟨wr.heap.size, 3, none⟩) bl).trans l3
      replace l4 := (he.cell (p := ⟨wr.heap.size, 4, none⟩) bl).trans l4
      replace l5 := (he.cell (p := ⟨wr.heap.size, 5, none⟩) bl).trans l5
      replace l6 := (he.cell (p := ⟨wr.heap.size, 6, none⟩) bl).trans l6
      have g1' := (he.cell (p := ⟨B1, 0, none⟩) (Nat.lt_of_lt_of_le hbw1 hsza)).trans e1
      have g2' := (he.cell (p := ⟨B2, 0, none⟩) (Nat.lt_of_lt_of_le hbw2 hsza)).trans e2
      have g3' := (he.cell (p := ⟨B3, 0, none⟩) (Nat.lt_of_lt_of_le hbw3 hsza)).trans e3
      have hx2 := Ext.trans HX.out he
      have hj2 := HJ.out pre _ w2 none HJA.out (Ext.grown' he) (by simp)
      have hsz2 : W.heap.size ≤ w2.heap.size := Nat.le_trans hsza he.size
      clear bl e1 e2 e3 hsza he hwa d2 HX HJA HC
      generalize wr.heap.size = nb at *
      have hfq : ∀ q : Bool, decide (site = u) = q → (l.drop k).filter (fun x => decide (x.1.site = u)) = (if q = true then [((⟨site, seq, sn, ss, va, vb, ws⟩, .slice Av ws.length cv) : Ch × Value)] else []) ++ (l.drop (k + 1)).filter (fun x => decide (x.1.site = u)) := by
        rintro q hq
        rw [HD.out, List.filter_cons]
        dsimp only
        rw [hq]
        cases q <;> rfl
      generalize decide (site = u) = q at *
      have HQ := Lib.hid (hfq q rfl)
      clear hfq
      cases q
      · gi_wp2
        refine ⟨(fun f h => by cases h), ?_⟩
        gi_wp2
        go_roundw
        case rel => exact ⟨k + 1, pre, by simp, by omega, by rw [HF.out, HQ.out]; rfl, hj2, hx2, hsz2, g1', g2', g3'⟩
        case measure => simp [intOf]; omega
      · obtain ⟨fn, tmps, assign, body, hy, hR⟩ := HY.out pre (⟨site, seq, sn, ss, va, vb, ws⟩, .slice Av ws.length cv) w2 hj2 ⟨_, by rw [HF.out, HQ.out]; rfl⟩
        unfold chV at hy
        dsimp only at hy
        gi_wp2
        refine hR.mono ?_
        rintro e W3 (⟨rfl, hJ3, hk3⟩ | ⟨rfl, hJx3, hk3⟩)
        · have i1 : W3.cell? ⟨B1, 0, none⟩ = _ := (World.cell?_of_block (a := ⟨B1, 0, none⟩) hk3.b1).trans g1'
          have i2 : W3.cell? ⟨B2, 0, none⟩ = _ := (World.cell?_of_block (a := ⟨B2, 0, none⟩) hk3.b2).trans g2'
          have i3 : W3.cell? ⟨B3, 0, none⟩ = _ := (World.cell?_of_block (a := ⟨B3, 0, none⟩) hk3.b3).trans g3'
          have hx3 : Ext w0 W3 := Below.trans hx2 hk3.below
          have hsz3 : W.heap.size ≤ W3.heap.size := Nat.le_trans hsz2 hk3.below.size
          gi_wp2
          go_roundw
          case rel => exact ⟨k + 1, pre ++ [(⟨site, seq, sn, ss, va, vb, ws⟩, .slice Av ws.length cv)], by simp, by omega, by rw [HF.out, HQ.out, List.append_assoc]; rfl, hJ3, hx3, hsz3, i1, i2, i3⟩
          case measure => simp [intOf]; omega
        · gi_wp2
          refine bodyPost_ret (results_none rfl _ _ _) rfl ?_
          exact ⟨⟨_, rfl⟩, .inr ⟨_, trivial, hJx3⟩⟩
    · gi_wp2
      go_end0
      exact ⟨⟨_, rfl⟩, .inl ⟨pre, by rw [HF.out, List.drop_eq_nil_of_le (by omega)]; simp, hj⟩⟩

set_option maxRecDepth 100000 in
set_option maxHeartbeats 4000000 in
theorem someFrom_any (n : Nat) (hn : 1 ≤ n) (w0 : World) (A : Option Addr) (c : Nat) (l : List (Ch × Value)) (u : Int) (hs : Cs w0 (.slice A l.length c) l) (B1 B2 B3 : Nat) (w1 : World) (hx : Ext w0 w1)
    (h1 : w1.cell? ⟨B1, 0, none⟩ = some (.slice A l.length c)) (h2 : w1.cell? ⟨B2, 0, none⟩ = some (.func (.func 45) #[] #[.pointer (some ⟨B3, 0, none⟩)])) (h3 : w1.cell? ⟨B3, 0, none⟩ = some (.int .i64 u))
    (hb1 : B1 < w1.heap.size) (hb2 : B2 < w1.heap.size) (hb3 : B3 < w1.heap.size) :
    SeqW Fence.wide n Tryd.prog 46 #[.pointer (some ⟨B1, 0, none⟩), .pointer (some ⟨B2, 0, none⟩)] (fun x : Ch × Value => #[chV x.1 x.2]) (KpC w0.heap.size B1 B2 B3) (fun pre x _ => ∃ rest, l.filter (fun x => decide (u < x.1.seq)) = pre ++ x :: rest) (fun xs _ => xs = l.filter (fun x => decide (u < x.1.seq))) (fun _ _ => True) w1 := by
  intro fl J Jx W hW hJ hJx hY h0
  have c1 : W.cell? ⟨B1, 0, none⟩ = _ := (hW.cell (p := ⟨B1, 0, none⟩) hb1).trans h1
  have c2 : W.cell? ⟨B2, 0, none⟩ = _ := (hW.cell (p := ⟨B2, 0, none⟩) hb2).trans h2
  have c3 : W.cell? ⟨B3, 0, none⟩ = _ := (hW.cell (p := ⟨B3, 0, none⟩) hb3).trans h3
  have hxW : Ext w0 W := hx.trans hW
  obtain ⟨A', c', hv', g1, g2, g3, g4⟩ := hs.at_
  injection hv' with e1 e2 e3
  subst e1 e3
  have H4 := Lib.hid g4
  have HS := Lib.hid hs
  have HY := Lib.hid hY
  have HJ := Lib.hid hJ
  have hbw1 : B1 < W.heap.size := Nat.lt_of_lt_of_le hb1 hW.size
  have hbw2 : B2 < W.heap.size := Nat.lt_of_lt_of_le hb2 hW.size
  have hbw3 : B3 < W.heap.size := Nat.lt_of_lt_of_le hb3 hW.size
  clear g4 hs hY hJ h1 h2 h3 hb1 hb2 hb3
  refine callsIn_of_wp Tryd.func46 rfl trivial ?_ rfl
  simp only [Tryd.ntmps46, List.size_toArray, List.length_cons, List.length_nil, Nat.reduceAdd, Nat.reduceSub, Array.replicate_succ, Array.replicate_zero, List.push_toArray, List.append_toArray, List.nil_append, List.cons_append]
  gi_wp2
  gi_loopw [8] (fun at_ wr => ∃ (k : Nat) (pre : List (Ch × Value)), at_ = .int .i64 k ∧ k ≤ l.length ∧ l.filter (fun x => decide (u < x.1.seq)) = pre ++ (l.drop k).filter (fun x => decide (u < x.1.seq)) ∧ J pre wr ∧ Ext w0 wr ∧ W.heap.size ≤ wr.heap.size ∧
    wr.cell? ⟨B1, 0, none⟩ = some (.slice A l.length c) ∧ wr.cell? ⟨B2, 0, none⟩ = some (.func (.func 45) #[] #[.pointer (some ⟨B3, 0, none⟩)]) ∧ wr.cell? ⟨B3, 0, none⟩ = some (.int .i64 u)) (fun a _ => l.length - (intOf a).toNat)
  case atStart => exact ⟨0, [], rfl, Nat.zero_le _, by simp, h0, hxW, Nat.le_refl _, c1, c2, c3⟩
  case round =>
    obtain ⟨k, pre, rfl, hk, hf, hj, hxr, hsz, d1, d2, d3⟩ := hrel
    have HF := Lib.hid hf
    clear hf c1 c2 c3 h0
    by_cases hlt : k < l.length
    · obtain ⟨b, off, rfl, hb, hcell⟩ := H4.out (by omega)
      obtain ⟨site, seq, sn, ss, va, vb, ws, vw, hget, hws, hin, p0, p1, p2, p3, p4, p5, p6⟩ := hcell k hlt
      replace hws := hws.ext hxr
      obtain ⟨Av, cv, rfl, _⟩ := hws.at_
      replace p0 := (hxr.cell (p := ⟨b, off + k * 7, none⟩) hb).trans p0
      replace p1 := (hxr.cell (p := ⟨b, off + k * 7 + 1, none⟩) hb).trans p1
      replace p2 := (hxr.cell (p := ⟨b, off + k * 7 + 2, none⟩) hb).trans p2
      replace p3 := (hxr.cell (p := ⟨b, off + k * 7 + 3, none⟩) hb).trans p3
      replace p4 := (hxr.cell (p := ⟨b, off + k * 7 + 4, none⟩) hb).trans p4
      replace p5 := (hxr.cell (p := ⟨b, off + k * 7 + 5, none⟩) hb).trans p5
      replace p6 := (hxr.cell (p := ⟨b, off + k * 7 + 6, none⟩) hb).trans p6
      have hdrop : l.drop k = (⟨site, seq, sn, ss, va, vb, ws⟩, .slice Av ws.length cv) :: l.drop (k + 1) := by
        rw [List.drop_eq_getElem_cons hlt]
        congr 1
        exact (List.getElem?_eq_some_iff.1 hget).2
      have HD := Lib.hid hdrop
      clear hdrop hcell
      have xa := ext_alloc wr (.cells #[.int .i64 site, .int .i64 seq, .int .i64 sn, .int .i64 ss, .int .i64 va, .int .i64 vb, .slice Av ws.length cv] 32)
      have ba := Blk.new wr #[.int .i64 site, .int .i64 seq, .int .i64 sn, .int .i64 ss, .int .i64 va, .int .i64 vb, .slice Av ws.length cv] 32
      have e1 := (xa.cell (p := ⟨B1, 0, none⟩) (Nat.lt_of_lt_of_le hbw1 hsz)).trans d1
      have e2 := (xa.cell (p := ⟨B2, 0, none⟩) (Nat.lt_of_lt_of_le hbw2 hsz)).trans d2
      have e3 := (xa.cell (p := ⟨B3, 0, none⟩) (Nat.lt_of_lt_of_le hbw3 hsz)).trans d3
      have hxa := Ext.trans hxr xa
      have hja := HJ.out pre wr _ none hj (Ext.grown' xa) (by simp)
      have hsza : W.heap.size ≤ (wr.alloc (.cells #[.int .i64 site, .int .i64 seq, .int .i64 sn, .int .i64 ss, .int .i64 va, .int .i64 vb, .slice Av ws.length cv] 32)).heap.size := by simp; omega
      have hwa := hws.ext xa
      have HC := Lib.hid (from1_any site seq sn ss va vb u ws (.slice Av ws.length cv) B3 _ hwa e3 (Nat.lt_of_lt_of_le hbw3 hsza))
      have HX := Lib.hid hxa
      have HJA := Lib.hid hja
      have l0 := ba.cell (i := 0) rfl
      have l1 := ba.cell (i := 1) rfl
      have l2 := ba.cell (i := 2) rfl
      have l3 := ba.cell (i := 3) rfl
      have l4 := ba.cell (i := 4) rfl
      have l5 := ba.cell (i := 5) rfl
      have l6 := ba.cell (i := 6) rfl
      have bl := ba.lt
      unfold chV at HC
      clear xa hj hxr hws hxa hja d1 d3 ba
      gi_wp2
      refine ⟨trivial, (callsIn_wide.2 HC.out).mono ?_⟩
      rintro e w2 ⟨rfl, he⟩
      replace l0 := (he.cell (p := ⟨wr.heap.size, 0, none⟩) bl).trans l0
      replace l1 := (he.cell (p := ⟨wr.heap.size, 1, none⟩) bl).trans l1
      replace l2 := (he.cell (p := ⟨wr.heap.size, 2, none⟩) bl).trans l2
      replace l3 := (he.cell (p := ⟨wr.heap.size, 3, none⟩) bl).trans l3
      replace l4 := (he.cell (p := ⟨wr.heap.size, 4, none⟩) bl).trans l4
      replace l5 := (he.cell (p := ⟨wr.heap.size, 5, none⟩) bl).trans l5
      replace l6 := (he.cell (p := ⟨wr.heap.size, 6, none⟩) bl).trans l6
      have g1' := (he.cell (p := ⟨B1, 0, none⟩) (Nat.lt_of_lt_of_le hbw1 hsza)).trans e1
      have g2' := (he.cell (p := ⟨B2, 0, none⟩) (Nat.lt_of_lt_of_le hbw2 hsza)).trans e2
      have g3' := (he.cell (p := ⟨B3, 0, none⟩) (Nat.lt_of_lt_of_le hbw3 hsza)).trans e3
      have hx2 := Ext.trans HX.out he
      have hj2 := HJ.out pre _ w2 none HJA.out (Ext.grown' he) (by simp)
      have hsz2 : W.heap.size ≤ w2.heap.size := Nat.le_trans hsza he.size
      clear bl e1 e2 e3 hsza he hwa d2 HX HJA HC
      generalize wr.heap.size = nb at *
      have hfq : ∀ q : Bool, decide (u < seq) = q → (l.drop k).filter (fun x => decide (u < x.1.seq)) = (if q = true then [((⟨site, seq, sn, ss, va, vb, ws⟩, .slice Av ws.length cv) : Ch × Value)] else []) ++ (l.drop (k + 1)).filter (fun x => decide (u < x.1.seq)) := by
        rintro q hq
        rw [HD.out, List.filter_cons]
        dsimp only
        rw [hq]
        cases q <;> rfl
      generalize decide (u < seq) = q at *
      have HQ := Lib.hid (hfq q rfl)
      clear hfq
      cases q
      · gi_wp2
        refine ⟨(fun f h => by cases h), ?_⟩
        gi_wp2
        go_roundw
        case rel => exact ⟨k + 1, pre, by simp, by omega, by rw [HF.out, HQ.out]; rfl, hj2, hx2, hsz2, g1', g2', g3'⟩
        case measure => simp [intOf]; omega
      · obtain ⟨fn, tmps, assign, body, hy, hR⟩ := HY.out pre (⟨site, seq, sn, ss, va, vb, ws⟩, .slice Av ws.length cv) w2 hj2 ⟨_, by rw [HF.out, HQ.out]; rfl⟩
        unfold chV at hy
        dsimp only at hy
        gi_wp2
        refine hR.mono ?_
        rintro e W3 (⟨rfl, hJ3, hk3⟩ | ⟨rfl, hJx3, hk3⟩)
        · have i1 : W3.cell? ⟨B1, 0, none⟩ = _ := (World.cell?_of_block (a := ⟨B1, 0, none⟩) hk3.b1).trans g1'
          have i2 : W3.cell? ⟨B2, 0, none⟩ = _ := (World.cell?_of_block (a := ⟨B2, 0, none⟩) hk3.b2).trans g2'
          have i3 : W3.cell? ⟨B3, 0, none⟩ = _ := (World.cell?_of_block (a := ⟨B3, 0, none⟩) hk3.b3).trans g3'
          have hx3 : Ext w0 W3 := Below.trans hx2 hk3.below
          have hsz3 : W.heap.size ≤ W3.heap.size := Nat.le_trans hsz2 hk3.below.size
          gi_wp2
          go_roundw
          case rel => exact ⟨k + 1, pre ++ [(⟨site, seq, sn, ss, va, vb, ws⟩, .slice Av ws.length cv)], by simp, by omega, by rw [HF.out, HQ.out, List.append_assoc]; rfl, hJ3, hx3, hsz3, i1, i2, i3⟩
          case measure => simp [intOf]; omega
        · gi_wp2
          refine bodyPost_ret (results_none rfl _ _ _) rfl ?_
          exact ⟨⟨_, rfl⟩, .inr ⟨_, trivial, hJx3⟩⟩
    · gi_wp2
      go_end0
      exact ⟨⟨_, rfl⟩, .inl ⟨pre, by rw [HF.out, List.drop_eq_nil_of_le (by omega)]; simp, hj⟩⟩
end Go.Proofs.YtacabcpjaadijaaDoor
