/-
 The iterator of layer 3: what frames$1 yields.
-/
import Derived.Test.YtagghghoimpofaaGreatDoorFrameOpen
import Derived.Test.YtagghghoimpofaaGreatDoorFrameRows
import Derived.Test.YtagghghoimpofaaGreatDoorRangeW
import Derived.Test.YtagghghoimpofaaGreatDoorMonoLast
import Derived.Shelf.Abstract
import Derived.Shelf.RegionOpen
import Derived.WalkKit
import Derived.OwnWalkIn
import Derived.TacticsInMore
import Derived.LoopNIn
import Derived.LoopIn
namespace Go.Proofs.YtagghghoimpofaaGreatDoor
open Go Go.RowKit Go.Shelf Mono Num Crc
attribute [local go_sem] Oper.semAt_some
set_option linter.unusedVariables false
set_option linter.unusedSimpArgs false

theorem fopen_le (b : List UInt8) : (fopen b).2.1 ≤ b.length := by
 unfold fopen
 split
 ·simp
 ·split
  ·simp
  ·unfold fopen2
   split
   ·simp
   ·split
    ·simp
    ·split
     ·simp
     ·split
      ·simp
      ·dsimp only
       omega
/-- What is yielded: a body's slice, its bytes, where its frame ends, the error. -/
structure El where
 v : Value
 l : List UInt8
 at_ : Nat
 e : Nat
def elV (x : El) : Value := .agg #[x.v, .int .i64 (x.at_ : Int), .int .i64 (x.e : Int)]
def elK (x : El) : List UInt8 × Nat × Nat := (x.l, x.at_, x.e)
def elR (z : Nat) (x : El) (W : World) : Prop := OwB W z x.v x.l
/-- What a round may know. -/
def elP (z : Nat) (bs : List UInt8) (pre : List El) (x : El) (W : World) : Prop := elR z x W ∧ ∃ rest, felts 0 bs = (pre ++ [x]).map elK ++ rest
theorem feltsF_len : ∀ (f at_ : Nat) (l : List UInt8), (feltsF f at_ l).length ≤ l.length
 | 0, _, _ => by simp [feltsF]
 | f + 1, at_, l => by
  unfold feltsF
  by_cases h0 : l.length = 0
  ·rw [if_pos h0]; simp
  ·rw [if_neg h0]
   by_cases he : (fopen l).2.2 = 0
   ·have hr := fopen_room he
    have := feltsF_len f (at_ + (fopen l).2.1) (l.drop (fopen l).2.1)
    rw [List.length_drop] at this
    rw [if_pos he, List.length_cons]
    omega
   ·rw [if_neg he]
    simp
    omega
theorem elP.len {z : Nat} {bs : List UInt8} {pre : List El} {x : El} {W : World} (h : elP z bs pre x W) : pre.length + 1 ≤ bs.length := by
 obtain ⟨_, rest, h⟩ := h
 have h1 := feltsF_len (bs.length + 1) 0 bs
 have h2 : (felts 0 bs).length = pre.length + 1 + rest.length := by rw [h]; simp; omega
 unfold felts at h2
 omega
/-- What a round keeps: whatever lay below n0, the box B, every block of bytes. -/
structure KpF (n0 B : Nat) (W W' : World) : Prop where
 below : Below n0 W W'
 box : W'.heap[B]? = W.heap[B]?
 bytes : ∀ (k : Nat) (C : Array Value) (fz : Nat × Nat), W.heap[k]? = some (Obj.cells C 5 fz) → W'.heap[k]? = some (Obj.cells C 5 fz)
theorem KpF.trans {n0 B : Nat} {X Y Z : World} (h : KpF n0 B X Y) (k : KpF n0 B Y Z) : KpF n0 B X Z := ⟨h.below.trans k.below, k.box.trans h.box, fun i C fz hi => k.bytes i C fz (h.bytes i C fz hi)⟩
theorem KpF.refl (n0 B : Nat) (W : World) : KpF n0 B W W := ⟨Below.refl _ _, rfl, fun _ _ _ h => h⟩
theorem KpF.setBox {n0 B b : Nat} {T : TypeId} {W : World} {v : Value} (h : Boxed W b T v) (hT : T ≠ 5) (hn : n0 ≤ b) (hb : B ≠ b) (u : Value) : KpF n0 B W (W.setCell ⟨b, 0, none⟩ u) := by
 refine ⟨(Below.refl _ _).setCell hn u, Below.heap_setCell W _ u B hb, fun k C fz hk => ?_⟩
 by_cases hkb : k = b
 ·subst hkb
  have := (show W.heap[k]? = _ from h).symm.trans hk
  simp at this
  exact absurd this.2.1 hT
 ·exact (Below.heap_setCell W _ u k hkb).trans hk
theorem KpF.alloc {n0 B : Nat} {W : World} (hn : n0 ≤ W.heap.size) (hB : B < W.heap.size) (o : Obj) : KpF n0 B W (W.alloc o) :=
 ⟨(Below.refl _ _).alloc hn o, Below.heap_alloc W o B hB, fun k C fz hk => (Below.heap_alloc W o k (Array.getElem?_eq_some_iff.1 hk).1).trans hk⟩
theorem KpF.drew (n0 B : Nat) (W : World) : KpF n0 B W W.drew := ⟨(Below.refl _ _).drew, rfl, fun _ _ _ h => h⟩
theorem KpF.grow {n0 B base k size : Nat} {e : TypeId} {W w1 : World} {v : Value} {xs : List Value} (hr : W.ownsRow base e size v k xs) (he : e ≠ 5) (hg : W.grownBy w1 v.ownBlock) (hn : n0 ≤ W.heap.size) (hbase : n0 ≤ base) (hB : B < W.heap.size) (hBb : B < base) : KpF n0 B W w1 := by
 rcases hr.2 with ⟨rfl, _⟩ | ⟨g, cap, cur, rfl, hb, hgb, _⟩
 ·refine ⟨(Below.refl _ _).grown hg hn (by simp [Value.ownBlock]), hg.block B hB (by simp [Value.ownBlock]), fun k C fz hk => (hg.block k (Array.getElem?_eq_some_iff.1 hk).1 (by simp [Value.ownBlock])).trans hk⟩
 ·refine ⟨(Below.refl _ _).grown hg hn (fun j ej => by simp [Value.ownBlock] at ej; omega), hg.block B hB (by simp [Value.ownBlock]; omega), fun k C fz hk => (hg.block k (Array.getElem?_eq_some_iff.1 hk).1 (fun ek => ?_)).trans hk⟩
  obtain rfl : k = g := by simpa [Value.ownBlock] using ek
  have := hgb.symm.trans hk
  simp at this
  exact absurd this.2.1 he
theorem elR.kept {z n0 B : Nat} {W W' : World} {x : El} (h : elR z x W) (hk : KpF n0 B W W') : elR z x W' := by
 obtain ⟨h1, h2 | ⟨g, cap, cur, hv, hb, hg, r⟩⟩ := h
 ·exact ⟨h1, .inl h2⟩
 ·exact ⟨h1, .inr ⟨g, cap, cur, hv, hb, hk.bytes g cur _ hg, r⟩⟩
theorem elR.ext {z : Nat} {W W' : World} {x : El} (h : elR z x W) (he : Ext W W') : elR z x W' := OwB.ext h he
theorem Ext.grown {W W' : World} (he : Ext W W') : W.grownBy W' none := ⟨he.os, he.tape, he.output, he.size, fun k hk _ => he.block k hk⟩

set_option maxRecDepth 100000 in
set_option maxHeartbeats 2000000 in
theorem frames1_any (n : Nat) (hn : 1 ≤ n) (w0 : World) (B : Nat) (A : Option Addr) (c : Nat) (bs : List UInt8) (hs : Bs w0 (.slice A bs.length c) bs) (hlen : bs.length ≤ 140737488355000) (w1 : World) (hx : Ext w0 w1) (hB : w1.cell? ⟨B, 0, none⟩ = some (.slice A bs.length c)) (hb : B < w1.heap.size) :
  SeqW Fence.wide n Tryz.prog 106 #[.pointer (some ⟨B, 0, none⟩)] (fun x : El => #[elV x]) (KpF w0.heap.size B) (elP w0.heap.size bs) (fun xs W => xs.map elK = felts 0 bs ∧ ∀ x ∈ xs, elR w0.heap.size x W) (fun _ _ => True) w1 := by
 intro l J Jx W hW hJ hJx hY h0
 have hBW : W.cell? ⟨B, 0, none⟩ = some (.slice A bs.length c) := hW.cell (p := ⟨B, 0, none⟩) hb ▸ hB
 have hxW : Ext w0 W := hx.trans hW
 obtain ⟨A', c', hv', h1, h2, h3, _⟩ := hs.open_
 injection hv' with e1 e2 e3
 subst e1 e3
 unfold maxLen at h2
 refine callsIn_of_wp Tryz.func106 rfl trivial ?_ rfl
 simp only [Tryz.ntmps106, List.size_toArray, List.length_cons, List.length_nil, Nat.reduceAdd, Nat.reduceSub, Array.replicate_succ, Array.replicate_zero, List.push_toArray, List.append_toArray, List.nil_append, List.cons_append]
 gi_wp2
 gi_loopw [3] (fun at_ wr => ∃ (p : Nat) (pre : List El), at_ = .int .i64 p ∧ p ≤ bs.length ∧ felts 0 bs = pre.map elK ++ felts p (bs.drop p) ∧ J pre wr ∧ (∀ x ∈ pre, elR w0.heap.size x wr) ∧ Ext w0 wr ∧ W.heap.size ≤ wr.heap.size ∧ wr.cell? ⟨B, 0, none⟩ = some (.slice A bs.length c)) (fun a _ => bs.length - (intOf a).toNat)
 case atStart => exact ⟨0, [], rfl, Nat.zero_le _, by simp, h0, by simp, hxW, Nat.le_refl _, hBW⟩
 case round =>
  obtain ⟨p, pre, rfl, hp, hf, hj, hall, hxr, hsz, hBr⟩ := hrel
  have HF := Lib.hid hf
  clear hf
  by_cases hlt : p < bs.length
  ·have hd := (hs.ext hxr).from_ (k := p) hp
   rw [if_neg (show ¬ c = p by omega)] at hd
   have HO := Lib.hid (fOpen_any _ (bs.drop p) wr hd (by rw [List.length_drop]; omega))
   clear hd
   have hne : (bs.drop p).length ≠ 0 := by rw [List.length_drop]; omega
   have HC := Lib.hid (felts_cons p (bs.drop p) hne)
   have hle := fopen_le (bs.drop p)
   rw [List.length_drop] at hle
   have hroom := fopen_room (b := bs.drop p)
   generalize hog : fopen (bs.drop p) = o at *
   obtain ⟨body0, m, er⟩ := o
   dsimp only at *
   clear hog hne
   gi_wp2
   refine ⟨trivial, (callsIn_wide.2 HO.out).mono ?_⟩
   rintro e w2 ⟨r, rfl, hr, he⟩
   obtain ⟨A2, c2, rfl, _, _, _, _⟩ := hr.bs.open_
   have hB2 := Ext.at he (Nat.lt_of_lt_of_le hb (Nat.le_trans hW.size hsz)) hBr
   have hj2 := hJ pre wr w2 none hj (Ext.grown he) (by simp)
   have hrx : elR w0.heap.size ⟨.slice A2 body0.length c2, body0, p + m, er⟩ w2 := OwB.mono hr hxr.size
   have hall2 : ∀ x ∈ pre, elR w0.heap.size x w2 := fun x hx => (hall x hx).ext he
   have hxr2 := Ext.trans hxr he
   obtain ⟨fn, tmps, assign, body, hy, hR⟩ := hY pre _ w2 hj2 ⟨hrx, _, by rw [HF.out, HC.out, List.map_append, List.append_assoc]; rfl⟩
   unfold elV at hy
   dsimp only at hy
   rw [Int.natCast_add] at hy
   unfold openV
   clear HO hj hall hY
   gi_wp2
   refine hR.mono ?_
   rintro e W3 (⟨rfl, hJ3, hk3⟩ | ⟨rfl, hJx3, hk3⟩)
   ·have hall3 : ∀ x ∈ pre ++ [(⟨.slice A2 body0.length c2, body0, p + m, er⟩ : El)], elR w0.heap.size x W3 := by
     intro x hx
     rcases List.mem_append.1 hx with h | h
     ·exact (hall2 x h).kept hk3
     ·rw [List.mem_singleton.1 h]; exact hrx.kept hk3
    have hB3 : W3.cell? ⟨B, 0, none⟩ = some (.slice A bs.length c) := (World.cell?_of_block (a := ⟨B, 0, none⟩) hk3.box).trans hB2
    have hx3 : Ext w0 W3 := Below.trans hxr2 hk3.below
    by_cases her : er = 0
    ·subst her
     have HM := Lib.hid (hroom rfl)
     clear hroom
     gi_wp2
     go_roundw
     case rel =>
      refine ⟨p + m, _, by simp, by omega, ?_, hJ3, hall3, hx3, Nat.le_trans hsz (Nat.le_trans he.size hk3.below.size), hB3⟩
      rw [HF.out, HC.out, if_pos trivial, List.drop_drop]
      simp [elK]
     case measure => have := HM.out; simp [intOf]; omega
    ·gi_wp2
     refine bodyPost_ret (results_none rfl _ _ _) rfl ?_
     exact ⟨⟨_, rfl⟩, .inl ⟨_, ⟨by rw [HF.out, HC.out, if_neg her]; simp [elK], hall3⟩, hJ3⟩⟩
   ·gi_wp2
    refine bodyPost_ret (results_none rfl _ _ _) rfl ?_
    exact ⟨⟨_, rfl⟩, .inr ⟨_, trivial, hJx3⟩⟩
  ·gi_wp2
   go_end0
   exact ⟨⟨_, rfl⟩, .inl ⟨pre, ⟨by rw [HF.out, felts_nil _ _ (by rw [List.length_drop]; omega)]; simp, hall⟩, hj⟩⟩
end Go.Proofs.YtagghghoimpofaaGreatDoor
