/-
  Layer 10: the iterator over a row's groups and cells.
-/
import Derived.Test.YtocdifjdeifclaaCellOf
import Derived.Test.YtocdifjdeifclaaRangeW
import Derived.Test.YtocdifjdeifclaaChainIn
import Derived.Shelf.Abstract
import Derived.Shelf.RegionOpen
import Derived.Stop.RegionWithIn
import Derived.WalkKit
import Derived.OwnWalkIn
import Derived.TacticsInMore
import Derived.LoopNIn
import Derived.LoopIn
namespace Go.Proofs.Ytocdifjdeifclaa
open Go Go.RowKit Go.Shelf Mono Num
attribute [local go_sem] Oper.semAt_some
set_option linter.unusedVariables false
set_option linter.unusedSimpArgs false
set_option maxRecDepth 100000

def grV (g : Grp) : Value := .agg #[strV g.1, .int .i64 g.2]
def clsC (l : List Cl) : List Value := l.flatMap clC
theorem clsC_len (l : List Cl) : (clsC l).length = l.length * 8 := by
  induction l with
  | nil => rfl
  | cons a l ih => unfold clsC at ih ⊢; rw [List.flatMap_cons, List.length_append, ih]; simp [clC]; omega
theorem clsC_get : ∀ (l : List Cl) (i : Nat) (x : Cl), l[i]? = some x → ∀ j, j < 8 → (clsC l)[i * 8 + j]? = (clC x)[j]?
  | y :: l, 0, x, h, j, hj => by
    obtain rfl : y = x := by simpa using h
    unfold clsC
    rw [List.flatMap_cons, Nat.zero_mul, Nat.zero_add, List.getElem?_append_left (by simpa [clC] using hj)]
  | y :: l, i + 1, x, h, j, hj => by
    have h1 := clsC_get l i x (by simpa using h) j hj
    have h2 : clsC (y :: l) = clC y ++ clsC l := by unfold clsC; simp
    rw [h2, List.getElem?_append_right (by simp [clC]; omega), ← h1]
    congr 1
    simp [clC]
    omega
/-- What a round keeps. -/
structure KpD (n0 B1 B2 : Nat) (W W' : World) : Prop where
  below : Below n0 W W'
  b1 : W'.heap[B1]? = W.heap[B1]?
  b2 : W'.heap[B2]? = W.heap[B2]?
theorem KpD.trans {n0 B1 B2 : Nat} {X Y Z : World} (h : KpD n0 B1 B2 X Y) (k : KpD n0 B1 B2 Y Z) : KpD n0 B1 B2 X Z := ⟨h.below.trans k.below, k.b1.trans h.b1, k.b2.trans h.b2⟩
theorem Ext.grownD {W W' : World} (he : Ext W W') : W.grownBy W' none := ⟨he.os, he.tape, he.output, he.size, fun k hk _ => he.block k hk⟩
theorem setCell_sameD {W : World} {b : Nat} {T : TypeId} {v : Value} (h : Boxed W b T v) : W.setCell ⟨b, 0, none⟩ v = W := by
  have h' : W.heap[b]? = some (.cells #[v] T (0, 0)) := h
  unfold World.setCell
  have he : (W.heap.modify b fun
      | .cells c elem frozen => .cells (if (none : Option Nat).isSome then c else c.setIfInBounds 0 v) elem frozen
      | o => o) = W.heap := by
    apply Array.ext_getElem?
    intro i
    rw [Array.getElem?_modify]
    split
    · rename_i hi
      subst hi
      rw [h']
      simp
    · rfl
  cases W
  simp only at he ⊢
  exact congrArg (fun x => World.mk x _ _ _ _) he
theorem two_ways {e : Ending} {A B : Prop} (h : (e = .returned (.bool true) ∧ A) ∨ (e = .returned (.bool false) ∧ B)) : ∃ b : Bool, e = .returned (.bool b) ∧ ((b = true ∧ A) ∨ (b = false ∧ B)) := by
  rcases h with ⟨h, a⟩ | ⟨h, a⟩
  · exact ⟨true, h, .inl ⟨rfl, a⟩⟩
  · exact ⟨false, h, .inr ⟨rfl, a⟩⟩
theorem parts_mk (Ag : Option Addr) (ng cg : Nat) (key : List UInt8) (Av : Option Addr) (nv cv : Nat) (w : World) :
    Calls Try.prog 44 #[.slice Ag ng cg, .agg #[strV key, .slice Av nv cv]] w fun e w' => e = .returned (.func (.func 71) #[] #[.pointer (some ⟨w.heap.size, 0, none⟩), .pointer (some ⟨w.heap.size + 1, 0, none⟩)]) ∧
      w' = (w.alloc (.cells #[.slice Ag ng cg] 22)).alloc (.cells #[strV key, .slice Av nv cv] 47) := by
  have hmf : ∀ (fn : Fn) (first cap : Array Value) (w : World), (Instr.makeFunc fn first cap).run Try.prog w = .ok (.func fn first cap) w := fun _ _ _ _ => rfl
  go_enter Try.func44, Try.ntmps44
  go_wp2_with fail
  go_ret
  exact ⟨rfl, rfl⟩

set_option maxRecDepth 100000 in
set_option maxHeartbeats 4000000 in
theorem someParts_any (n : Nat) (hn : 1 ≤ n) (w0 : World) (A : Option Addr) (c : Nat) (gs : List Grp) (hs : Gs w0 (.slice A gs.length c) gs) (Av : Option Addr) (cv : Nat) (cs : List Cl) (hc : Fl w0 (.slice Av cs.length cv) cs.length (clsC cs)) (hlen : cs.length = gs.length) (B1 B2 : Nat) (w1 : World) (hx : Ext w0 w1)
    (h1 : w1.cell? ⟨B1, 0, none⟩ = some (.slice A gs.length c)) (h2 : w1.cell? ⟨B2, 1, none⟩ = some (.slice Av cs.length cv)) (hb1 : B1 < w1.heap.size) (hb2 : B2 < w1.heap.size) :
    SeqW Fence.wide n Try.prog 71 #[.pointer (some ⟨B1, 0, none⟩), .pointer (some ⟨B2, 0, none⟩)] (fun x : Grp × Cl => #[grV x.1, clV x.2]) (KpD w0.heap.size B1 B2) (fun pre x _ => ∃ rest, gs.zip cs = pre ++ x :: rest) (fun xs _ => xs = gs.zip cs) (fun _ _ => True) w1 := by
  intro fl J Jx W hW hJ hJx hY h0
  have c1 : W.cell? ⟨B1, 0, none⟩ = _ := (hW.cell (p := ⟨B1, 0, none⟩) hb1).trans h1
  have c2 : W.cell? ⟨B2, 1, none⟩ = _ := (hW.cell (p := ⟨B2, 1, none⟩) hb2).trans h2
  have hxW : Ext w0 W := hx.trans hW
  obtain ⟨A', c', hv', g1, g2, g3, g4⟩ := hs.at_
  injection hv' with e1 e2 e3
  subst e1 e3
  obtain ⟨A', c', hv', k1, k2, k3, k4⟩ := hc
  injection hv' with e1 e2 e3
  subst e1 e3
  have H4 := Lib.hid g4
  have K4 := Lib.hid k4
  have HY := Lib.hid hY
  have HJ := Lib.hid hJ
  have hbw1 : B1 < W.heap.size := Nat.lt_of_lt_of_le hb1 hW.size
  have hbw2 : B2 < W.heap.size := Nat.lt_of_lt_of_le hb2 hW.size
  have hgc : cs.length ≤ gs.length ∧ gs.length ≤ cs.length := by omega
  have HLEN := Lib.hid hlen
  unfold maxLen at k2
  clear g4 k4 hs hY hJ h1 h2 hb1 hb2 hlen
  refine callsIn_of_wp Try.func71 rfl trivial ?_ rfl
  simp only [Try.ntmps71, List.size_toArray, List.length_cons, List.length_nil, Nat.reduceAdd, Nat.reduceSub, Array.replicate_succ, Array.replicate_zero, List.push_toArray, List.append_toArray, List.nil_append, List.cons_append]
  gi_wp2
  gi_loopw [8] (fun at_ wr => ∃ (k : Nat), at_ = .int .i64 k ∧ k ≤ gs.length ∧ J ((gs.zip cs).take k) wr ∧ Ext w0 wr ∧ W.heap.size ≤ wr.heap.size ∧
    wr.cell? ⟨B1, 0, none⟩ = some (.slice A gs.length c) ∧ wr.cell? ⟨B2, 1, none⟩ = some (.slice Av cs.length cv)) (fun a _ => gs.length - (intOf a).toNat)
  case atStart => exact ⟨0, rfl, Nat.zero_le _, by simpa using h0, hxW, Nat.le_refl _, c1, c2⟩
  case round =>
    obtain ⟨k, rfl, hk, hj, hxr, hsz, d1, d2⟩ := hrel
    clear c1 c2 h0
    by_cases hlt : k < gs.length
    · obtain ⟨b, off, rfl, hb, hcell⟩ := H4.out (by omega)
      obtain ⟨gn, gp, hget, p0, p1, -, -⟩ := hcell k hlt
      obtain ⟨b', off', rfl, hb', hcell'⟩ := K4.out (by omega)
      have hkc : k < cs.length := by omega
      obtain ⟨⟨sn, ss, va, vb, gone, value, da, db⟩, hgetc⟩ : ∃ x, cs[k]? = some x := ⟨_, List.getElem?_eq_getElem hkc⟩
      have hq := clsC_get cs k _ hgetc
      have q0 := hcell' (k * 8 + 0) _ (hq 0 (by omega))
      have q1 := hcell' (k * 8 + 1) _ (hq 1 (by omega))
      have q2 := hcell' (k * 8 + 2) _ (hq 2 (by omega))
      have q3 := hcell' (k * 8 + 3) _ (hq 3 (by omega))
      have q4 := hcell' (k * 8 + 4) _ (hq 4 (by omega))
      have q5 := hcell' (k * 8 + 5) _ (hq 5 (by omega))
      have q6 := hcell' (k * 8 + 6) _ (hq 6 (by omega))
      have q7 := hcell' (k * 8 + 7) _ (hq 7 (by omega))
      simp only [← Nat.add_assoc, Nat.add_zero] at q0 q1 q2 q3 q4 q5 q6 q7
      have xa := (ext_alloc wr (.cells #[.string ⟨gn.toArray⟩, .int .i64 gp] 52)).trans (ext_drew _)
      have ba := (Blk.new wr #[.string ⟨gn.toArray⟩, .int .i64 gp] 52).drew
      have hxa := Ext.trans hxr xa
      replace p0 := (hxr.cell (p := ⟨b, off + k * 2, none⟩) hb).trans p0
      replace p1 := (hxr.cell (p := ⟨b, off + k * 2 + 1, none⟩) hb).trans p1
      unfold strV at p0 p1
      replace q0 := (hxa.cell (p := ⟨b', off' + k * 8, none⟩) hb').trans q0
      replace q1 := (hxa.cell (p := ⟨b', off' + k * 8 + 1, none⟩) hb').trans q1
      replace q2 := (hxa.cell (p := ⟨b', off' + k * 8 + 2, none⟩) hb').trans q2
      replace q3 := (hxa.cell (p := ⟨b', off' + k * 8 + 3, none⟩) hb').trans q3
      replace q4 := (hxa.cell (p := ⟨b', off' + k * 8 + 4, none⟩) hb').trans q4
      replace q5 := (hxa.cell (p := ⟨b', off' + k * 8 + 5, none⟩) hb').trans q5
      replace q6 := (hxa.cell (p := ⟨b', off' + k * 8 + 6, none⟩) hb').trans q6
      replace q7 := (hxa.cell (p := ⟨b', off' + k * 8 + 7, none⟩) hb').trans q7
      have e1 := (xa.cell (p := ⟨B1, 0, none⟩) (Nat.lt_of_lt_of_le hbw1 hsz)).trans d1
      have e2 := (xa.cell (p := ⟨B2, 1, none⟩) (Nat.lt_of_lt_of_le hbw2 hsz)).trans d2
      have hja := HJ.out _ wr _ none hj (Ext.grownD xa) (by simp)
      have hsza : W.heap.size ≤ (wr.alloc (.cells #[.string ⟨gn.toArray⟩, .int .i64 gp] 52)).drew.heap.size := by simp; omega
      have hz : (gs.zip cs)[k]? = some ((gn, gp), ⟨sn, ss, va, vb, gone, value, da, db⟩) := by rw [List.getElem?_zip_eq_some]; exact ⟨hget, hgetc⟩
      have htk : (gs.zip cs).take (k + 1) = (gs.zip cs).take k ++ [((gn, gp), ⟨sn, ss, va, vb, gone, value, da, db⟩)] := by rw [List.take_add_one, hz]; rfl
      have hrst : ∃ rest, gs.zip cs = (gs.zip cs).take k ++ ((gn, gp), ⟨sn, ss, va, vb, gone, value, da, db⟩) :: rest := ⟨(gs.zip cs).drop (k + 1), by
        have h := List.take_append_drop (k + 1) (gs.zip cs)
        rw [htk, List.append_assoc] at h
        exact h.symm⟩
      obtain ⟨fn, tmps, assign, body, hy, hR⟩ := HY.out _ _ _ hja hrst
      have HTK := Lib.hid htk
      have HX := Lib.hid hxa
      have l0 := ba.cell (i := 0) rfl
      have l1 := ba.cell (i := 1) rfl
      have g1' := e1
      have g2' := e2
      have HR := Lib.hid hR
      unfold grV clV strV at hy
      unfold strV at q5
      dsimp only at hy
      clear xa hj hxr hxa hja d1 d2 ba hR hz htk hrst hget hgetc hq hcell hcell'
      gi_wp2
      gi_region_with (refine HR.out.mono ?_; rintro e W3 h3; obtain ⟨bb, rfl, h4⟩ := two_ways h3; clear h3)
      all_goals
        rcases h4 with ⟨rfl, hJ3, hk3⟩ | ⟨rfl, hJx3, hk3⟩
        · have i1 := (World.cell?_of_block (a := ⟨B1, 0, none⟩) hk3.b1).trans g1'
          have i2 := (World.cell?_of_block (a := ⟨B2, 1, none⟩) hk3.b2).trans g2'
          have hx3 := Below.trans HX.out hk3.below
          have hsz3 := Nat.le_trans hsza hk3.below.size
          gi_wp2
          go_roundw
          case rel => exact ⟨k + 1, by simp, by omega, by rw [HTK.out]; exact hJ3, hx3, hsz3, i1, i2⟩
          case measure => simp [intOf]; omega
        · gi_wp2
          refine bodyPost_ret (results_none rfl _ _ _) rfl ?_
          exact ⟨⟨_, rfl⟩, .inr ⟨_, trivial, hJx3⟩⟩
    · gi_wp2
      go_end0
      exact ⟨⟨_, rfl⟩, .inl ⟨_, rfl, by rw [List.take_of_length_le (by rw [List.length_zip]; omega)] at hj; exact hj⟩⟩
end Go.Proofs.Ytocdifjdeifclaa
