/-
  Layer 19: what stands while changes are gathered in a range over an iterator.
-/
import Derived.Test.YtjajlbfokbmadaaDoorCapIter
import Derived.Test.YtjajlbfokbmadaaDoorChainIn
import Derived.Stop.RegionWithIn
namespace Go.Proofs.YtjajlbfokbmadaaDoor
open Go Go.RowKit Go.Shelf Mono Num
set_option linter.unusedVariables false
set_option maxRecDepth 100000

/-- Where the boxes lie: the result's, and the others, which nothing writes. -/
structure OwnAt (w : World) (z bo : Nat) (B : List (Nat × TypeId × Value)) : Prop where
  hz : w.heap.size ≤ z
  lo : w.heap.size ≤ bo
  bz : bo < z
  oth : ∀ p ∈ B, w.heap.size ≤ p.1 ∧ p.1 < z ∧ p.1 ≠ bo
structure OwnJ (w : World) (z bo : Nat) (B : List (Nat × TypeId × Value)) (vo : Value) (outs : List (Ch × Value)) (W : World) : Prop where
  ext : Ext w W
  size : z ≤ W.heap.size
  keep : ∀ p ∈ B, Boxed W p.1 p.2.1 p.2.2
  out : Boxed W bo 22 vo
  row : W.ownsRow z 32 7 vo outs.length (chsC outs)
  own : ∀ x ∈ outs, WsO W x.2 x.1.writes
/-- What stands at the head of a round. -/
def OwnI (w : World) (z bo : Nat) (B : List (Nat × TypeId × Value)) (pre : List (Ch × Value)) (W : World) : Prop := ∃ vo outs, OwnJ w z bo B vo outs W ∧ outs.map (·.1) = pre.map (·.1)
theorem row_cells {W : World} {z k sz : Nat} {e : TypeId} {v : Value} {xs : List Value} (h : W.ownsRow z e sz v k xs) : ∀ j, v.ownBlock = some j → z ≤ j ∧ ∃ C fz, W.heap[j]? = some (Obj.cells C e fz) := fun j ej => by
  rcases h.2 with ⟨rfl, _⟩ | ⟨g, cap, cur, rfl, hb, hgb, _⟩
  · simp [Value.ownBlock] at ej
  · obtain rfl : g = j := by simpa [Value.ownBlock] using ej
    exact ⟨hb, _, _, hgb⟩
/-- Whatever grows that holds no cells from z on changes nothing of it. -/
theorem OwnJ.kept {w X Y : World} {z bo : Nat} {B : List (Nat × TypeId × Value)} {vo : Value} {outs : List (Ch × Value)} (h : OwnJ w z bo B vo outs X) (ha : OwnAt w z bo B) {row : Option Nat} (hg : X.grownBy Y row) (hr : ∀ r, row = some r → z ≤ r ∧ ∃ o : Obj, X.heap[r]? = some o ∧ o.isCells = false) : OwnJ w z bo B vo outs Y := by
  have hc : ∀ {b : Nat} {T : TypeId} {u : Value}, Boxed X b T u → Boxed Y b T u := fun hb => hb.kept hg (fun e' => by
    obtain ⟨_, o, ho, hc⟩ := hr _ e'.symm
    rw [show X.heap[_]? = _ from hb] at ho; cases ho; cases hc)
  have hrw : ∀ {e : TypeId} {sz k zz : Nat} {v : Value} {xs : List Value}, X.ownsRow zz e sz v k xs → Y.ownsRow zz e sz v k xs := fun hrow => row_apart hrow hg (fun j C fz ej hj => by
    obtain ⟨_, o, ho, hc⟩ := hr j ej
    rw [hj] at ho; cases ho; cases hc)
  exact ⟨Below.grown h.ext hg h.ext.size (fun k e => Nat.le_trans ha.hz (hr k e).1), Nat.le_trans h.size hg.size, fun p hp => hc (h.keep p hp), hc h.out, hrw h.row, fun x hx => ⟨hrw (h.own x hx).1, (h.own x hx).2⟩⟩
theorem ownI_own {w : World} {z bo : Nat} {B : List (Nat × TypeId × Value)} (ha : OwnAt w z bo B) : OwnFrom z (OwnI w z bo B) := by
  rintro pre X Y row ⟨vo, outs, h, hm⟩ hg hr
  exact ⟨vo, outs, h.kept ha hg hr, hm⟩
/-- What stands within a round, its change boxed at Bx. -/
structure OSt (w W : World) (z bo : Nat) (B : List (Nat × TypeId × Value)) (vo : Value) (outs : List (Ch × Value)) (Bx : Nat) (O : Obj) (W' : World) : Prop where
  j : OwnJ w z bo B vo outs W'
  keeps : KeepsFrom z W W'
  below : Below w.heap.size W W'
  bx : W'.heap[Bx]? = some O
theorem OSt.ext {w W X Y : World} {z bo Bx : Nat} {B : List (Nat × TypeId × Value)} {vo : Value} {outs : List (Ch × Value)} {O : Obj} (h : OSt w W z bo B vo outs Bx O X) (ha : OwnAt w z bo B) (he : Ext X Y) : OSt w W z bo B vo outs Bx O Y := by
  have hg : X.grownBy Y none := ⟨he.os, he.tape, he.output, he.size, fun k hk _ => he.block k hk⟩
  refine ⟨h.j.kept ha hg (fun r e => by cases e), h.keeps.trans ((KeepsOthers.of_grownBy hg (fun j o e => by cases e)).from _), h.below.trans (Below.grown (Below.refl _ _) hg (by exact h.j.ext.size) (fun k e => by cases e)), ?_⟩
  exact (he.block Bx (Array.getElem?_eq_some_iff.1 h.bx).1).trans h.bx
theorem OSt.drew {w W X : World} {z bo Bx : Nat} {B : List (Nat × TypeId × Value)} {vo : Value} {outs : List (Ch × Value)} {O : Obj} (h : OSt w W z bo B vo outs Bx O X) (ha : OwnAt w z bo B) : OSt w W z bo B vo outs Bx O X.drew := h.ext ha (ext_drew _)
/-- The change is appended and the result's box written. -/
theorem OSt.app {w W W9 w3 : World} {z bo Bx : Nat} {B : List (Nat × TypeId × Value)} {vo v1 v' : Value} {outs : List (Ch × Value)} {O tmp : Obj} {xc : Ch} (h : OSt w W z bo B vo outs Bx O W9) (ha : OwnAt w z bo B) (hT : ∀ p ∈ B, p.2.1 ≠ 32)
    (hv : WsO W9 v1 xc.writes) (hown : w3.ownsRow z 32 7 v' (outs.length + 1) (chsC outs ++ chC xc v1)) (hg : (W9.alloc tmp).grownBy w3 vo.ownBlock) :
    Boxed w3 bo 22 vo ∧ OwnJ w z bo B v' (outs ++ [(xc, v1)]) (w3.setCell ⟨bo, 0, none⟩ v') ∧ KeepsFrom z W (w3.setCell ⟨bo, 0, none⟩ v') ∧ Below w.heap.size W (w3.setCell ⟨bo, 0, none⟩ v') := by
  have hge := row_cells h.j.row
  have hs9 := h.j.ext.size
  have hz9 := h.j.size
  have hrz := ha.hz
  have h9 := h.ext (Y := W9.alloc tmp) ha (ext_alloc _ _)
  have keepB : ∀ {b : Nat} {T : TypeId} {u : Value}, b < z → Boxed W9 b T u → Boxed w3 b T u := fun hb hbx => (hbx.alloc tmp).kept hg (fun e => by have := (hge _ e.symm).1; omega)
  have hbo := keepB ha.bz h.j.out
  have tOf : ∀ j, vo.ownBlock = some j → ∃ C fz, (W9.alloc tmp).heap[j]? = some (Obj.cells C 32 fz) := fun j ej => by
    obtain ⟨_, C, fz, hj⟩ := hge j ej
    exact ⟨C, fz, (Below.heap_alloc W9 tmp j (Array.getElem?_eq_some_iff.1 hj).1).trans hj⟩
  have hgs : w3.grownBy (w3.setCell ⟨bo, 0, none⟩ v') (some bo) := gb_setC _ _ _ _
  have wsk : ∀ {x : Value} {l : List Wr}, WsO W9 x l → WsO (w3.setCell ⟨bo, 0, none⟩ v') x l := fun hx =>
    (((hx.ext (ext_alloc _ tmp)).grown hg (fun j ej => by obtain ⟨C, fz, hj⟩ := tOf j ej; exact ⟨_, by decide, C, fz, hj⟩)).grown hgs (fun j ej => by
      injection ej with ej
      subst ej
      exact ⟨22, by decide, _, _, hbo⟩))
  have hsz := hg.size
  rw [World.size_alloc] at hsz
  have hbz := ha.bz
  have hlo := ha.lo
  refine ⟨hbo, ⟨?_, ?_, fun p hp => ?_, hbo.set v', ?_, fun x hx => ?_⟩, ?_, ?_⟩
  · exact Below.setCell (Below.grown h9.j.ext hg (by simp; omega) (fun j ej => by have := (hge j ej).1; omega)) (by simpa using hlo) _
  · simp; omega
  · exact (keepB (ha.oth p hp).2.1 (h.j.keep p hp)).other (ha.oth p hp).2.2 _
  · rw [List.length_append, chsC_snoc]
    exact row_apart hown hgs (fun j C fz ej hj => by
      injection ej with ej
      subst ej
      rw [show w3.heap[_]? = _ from hbo] at hj
      injection hj with hj
      injection hj with _ hj
      exact absurd hj (by decide))
  · rcases List.mem_append.1 hx with hx | hx
    · exact wsk (h.j.own x hx)
    · rw [List.mem_singleton.1 hx]
      exact wsk hv
  · refine h9.keeps.trans ((KeepsOthers.of_grownBy hg fun j o ej hj => ?_).trans (KeepsOthers.setCell _ _ _) |>.from _)
    obtain ⟨C, fz, hC⟩ := tOf j ej
    rw [hC] at hj
    cases hj
    rfl
  · exact h9.below.trans (Below.setCell (Below.grown (Below.refl _ _) hg (by simp; omega) (fun j ej => by have := (hge j ej).1; omega)) (by simpa using hlo) _)
end Go.Proofs.YtjajlbfokbmadaaDoor
