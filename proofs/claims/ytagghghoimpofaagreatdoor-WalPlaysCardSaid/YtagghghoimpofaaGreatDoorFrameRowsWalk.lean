/-
 The walk of frame.Rows.
-/
import Derived.Test.YtagghghoimpofaaGreatDoorFrameIter
import Derived.Test.YtagghghoimpofaaGreatDoorBlk
namespace Go.Proofs.YtagghghoimpofaaGreatDoor
open Go Go.RowKit Go.Shelf Mono Num Crc
attribute [local go_sem] Oper.semAt_some
set_option linter.unusedVariables false
set_option linter.unusedSimpArgs false

theorem frames_any (v : Value) (w : World) (A : Option Addr) (n c : Nat) (hv : v = .slice A n c) :
  Calls Tryz.prog 95 #[v] w fun e w' => e = .returned (.func (.func 106) #[] #[.pointer (some ⟨w.heap.size, 0, none⟩)]) ∧ w' = w.alloc (.cells #[v] 34) := by
 subst hv
 have hmf : ∀ (fn : Fn) (first cap : Array Value) (w : World), (Instr.makeFunc fn first cap).run Tryz.prog w = .ok (.func fn first cap) w := fun _ _ _ _ => rfl
 go_enter Tryz.func95, Tryz.ntmps95
 go_wp2_with fail
 go_ret
 exact ⟨rfl, rfl⟩

theorem infoBs : (Tryz.prog.info? 34).map (fun i => (i.zero, i.size, i.bytes)) = some (some (.slice none 0 0), 1, 24) := by kernel_rfl
theorem setCell_same {W : World} {b : Nat} {T : TypeId} {v : Value} (h : Boxed W b T v) : W.setCell ⟨b, 0, none⟩ v = W := by
 have h' : W.heap[b]? = some (.cells #[v] T (0, 0)) := h
 unfold World.setCell
 have he : (W.heap.modify b fun
   | .cells c elem frozen => .cells (if (none : Option Nat).isSome then c else c.setIfInBounds 0 v) elem frozen
   | o => o) = W.heap := by
  apply Array.ext_getElem?
  intro i
  rw [Array.getElem?_modify]
  split
  ·rename_i hi
   subst hi
   rw [h']
   simp
  ·rfl
 cases W
 simp only at he ⊢
 exact congrArg (fun x => World.mk x _ _ _ _) he
theorem isSl_row {W : World} {z k : Nat} {e : TypeId} {v : Value} {xs : List Value} (h : W.ownsRow z e 1 v k xs) : ∃ A n c, v = .slice A n c := by
 rcases h.2 with ⟨rfl, _⟩ | ⟨g, cap, cur, rfl, _⟩
 ·exact ⟨_, _, _, rfl⟩
 ·exact ⟨_, _, _, rfl⟩
/-- The bodies of those that are whole, as values. -/
def oks (xs : List El) : List Value := (xs.filter (fun x => x.e == 0)).map (·.v)
def lastEnd (xs : List El) : Nat := match xs.getLast? with | some x => x.at_ | none => 0
def lastErr (xs : List El) : Nat := match xs.getLast? with | some x => x.e | none => 0
def IsSl (v : Value) : Prop := ∃ A n c, v = .slice A n c
theorem rows_fin (xs : List El) (l : List UInt8) (h : xs.map elK = felts 0 l) : lastEnd xs = (frows l).2.1 ∧ lastErr xs = (frows l).2.2 ∧ (frows l).1 = (xs.filter (fun x => x.e == 0)).map (·.l) := by
 unfold frows lastEnd lastErr
 rw [← h]
 simp only [List.getLast?_map, List.filter_map, List.map_map]
 refine ⟨?_, ?_, rfl⟩ <;> cases xs.getLast? <;> rfl
structure RowsJ (w : World) (z : Nat) (src : Value) (pre : List El) (nv ev : Nat) (W : World) : Prop where
 ext : Ext w W
 size : z ≤ W.heap.size
 box : Boxed W (w.heap.size + 1 + 1 + 1) 34 src
 out : ∃ v, Boxed W w.heap.size 47 v ∧ W.ownsRow z 34 1 v (oks pre).length (oks pre)
 n : Boxed W (w.heap.size + 1) 3 (.int .i64 (nv : Int))
 e : Boxed W (w.heap.size + 1 + 1) 48 (.int .i64 (ev : Int))
def RowsI (w : World) (z : Nat) (src : Value) (pre : List El) (W : World) : Prop := RowsJ w z src pre (lastEnd pre) (lastErr pre) W
theorem oks_snoc (pre : List El) (x : El) : oks (pre ++ [x]) = oks pre ++ (if x.e = 0 then [x.v] else []) := by
 unfold oks
 by_cases h : x.e = 0 <;> simp [List.filter_append, h]
theorem lastEnd_snoc (pre : List El) (x : El) : lastEnd (pre ++ [x]) = x.at_ := by simp [lastEnd]
theorem lastErr_snoc (pre : List El) (x : El) : lastErr (pre ++ [x]) = x.e := by simp [lastErr]
/-- A step of the round's: what stays. -/
structure RowsS (w : World) (z : Nat) (src : Value) (pre : List El) (nv ev Bx : Nat) (O : Obj) (W W2 : World) : Prop where
 j : RowsJ w z src pre nv ev W2
 keeps : KeepsFrom z W W2
 kp : KpF w.heap.size (w.heap.size + 1 + 1 + 1) W W2
 bx : W2.heap[Bx]? = some O
theorem RowsS.drew {w : World} {z : Nat} {src : Value} {pre : List El} {nv ev Bx : Nat} {O : Obj} {W W2 : World} (h : RowsS w z src pre nv ev Bx O W W2) : RowsS w z src pre nv ev Bx O W W2.drew :=
 ⟨⟨Ext.trans h.j.ext (ext_drew _), h.j.size, h.j.box, h.j.out, h.j.n, h.j.e⟩, h.keeps.trans ((KeepsOthers.drew _).from _), h.kp.trans (KpF.drew _ _ _), h.bx⟩
theorem RowsS.setN {w : World} {z : Nat} {src : Value} {pre : List El} {nv ev Bx : Nat} {O : Obj} {W W2 : World} (h : RowsS w z src pre nv ev Bx O W W2) (hz : w.heap.size + 1 + 1 + 1 + 1 = z) (hB : z ≤ Bx) (m : Nat) :
  RowsS w z src pre m ev Bx O W (W2.setCell ⟨w.heap.size + 1, 0, none⟩ (.int .i64 (m : Int))) := by
 obtain ⟨v, hv, hr⟩ := h.j.out
 refine ⟨⟨Below.setCell h.j.ext (by simp) _, by simpa using h.j.size, h.j.box.other (by omega) _, ⟨v, hv.other (by omega) _, hr.kept (grownBy_setCell' _ _ _) ?_⟩, h.j.n.set _, h.j.e.other (by omega) _⟩, h.keeps.trans ((KeepsOthers.setCell _ _ _).from _), h.kp.trans (KpF.setBox h.j.n (by decide) (by omega) (by omega) _), (Below.heap_setCell _ _ _ _ (by simp; omega)).trans h.bx⟩
 rcases hr.2 with ⟨rfl, _⟩ | ⟨g, cap, cur, rfl, hg, _⟩
 ·exact .inl rfl
 ·exact .inr (by simp [Value.ownBlock]; omega)
theorem RowsS.setE {w : World} {z : Nat} {src : Value} {pre : List El} {nv ev Bx : Nat} {O : Obj} {W W2 : World} (h : RowsS w z src pre nv ev Bx O W W2) (hz : w.heap.size + 1 + 1 + 1 + 1 = z) (hB : z ≤ Bx) (m : Nat) :
  RowsS w z src pre nv m Bx O W (W2.setCell ⟨w.heap.size + 1 + 1, 0, none⟩ (.int .i64 (m : Int))) := by
 obtain ⟨v, hv, hr⟩ := h.j.out
 refine ⟨⟨Below.setCell h.j.ext (by simp; omega) _, by simpa using h.j.size, h.j.box.other (by omega) _, ⟨v, hv.other (by omega) _, hr.kept (grownBy_setCell' _ _ _) ?_⟩, h.j.n.other (by omega) _, h.j.e.set _⟩, h.keeps.trans ((KeepsOthers.setCell _ _ _).from _), h.kp.trans (KpF.setBox h.j.e (by decide) (by omega) (by omega) _), (Below.heap_setCell _ _ _ _ (by simp; omega)).trans h.bx⟩
 rcases hr.2 with ⟨rfl, _⟩ | ⟨g, cap, cur, rfl, hg, _⟩
 ·exact .inl rfl
 ·exact .inr (by simp [Value.ownBlock]; omega)
theorem RowsS.app {w : World} {z : Nat} {src : Value} {pre pre' : List El} {nv ev Bx m : Nat} {O tmp : Obj} {W W2 w1 : World} {vo v' : Value} {ys : List Value} (h : RowsS w z src pre nv ev Bx O W W2) (hz : w.heap.size + 1 + 1 + 1 + 1 = z)
  (hvo : Boxed W2 w.heap.size 47 vo) (hrow : W2.ownsRow z 34 1 vo (oks pre).length (oks pre)) (hown : w1.ownsRow z 34 1 v' m ys) (hgrow : (W2.alloc tmp).grownBy w1 vo.ownBlock) (hp : oks pre' = ys) (hm : m = ys.length) :
  Boxed w1 w.heap.size 47 vo ∧ RowsJ w z src pre' nv ev (w1.setCell ⟨w.heap.size, 0, none⟩ v') ∧ KeepsFrom z W (w1.setCell ⟨w.heap.size, 0, none⟩ v') ∧ KpF w.heap.size (w.heap.size + 1 + 1 + 1) W (w1.setCell ⟨w.heap.size, 0, none⟩ v') := by
 subst hp hm
 have hg1 : ∀ j, vo.ownBlock = some j → z ≤ j ∧ ∃ C fz, W2.heap[j]? = some (Obj.cells C 34 fz) := fun j ej => by
  rcases hrow.2 with ⟨rfl, _⟩ | ⟨g, cap, cur, rfl, hb, hgb, _⟩
  ·simp [Value.ownBlock] at ej
  ·obtain rfl : g = j := by simpa [Value.ownBlock] using ej
   exact ⟨hb, _, _, hgb⟩
 have box : ∀ {b : Nat} {T : TypeId} {u : Value}, b < z → Boxed W2 b T u → Boxed w1 b T u := fun hb hbx => (hbx.alloc tmp).kept hgrow (fun e => by have := (hg1 _ e.symm).1; omega)
 have hs2 := h.j.size
 have hv1 := box (by omega) hvo
 have hvs : v'.ownBlock ≠ some w.heap.size := by
  intro e
  rcases hown.2 with ⟨rfl, _⟩ | ⟨g, cap, cur, rfl, hb, hgb, _⟩
  ·simp [Value.ownBlock] at e
  ·have : g = w.heap.size := by simpa [Value.ownBlock] using e
   omega
 have ke : W2.grownBy (W2.alloc tmp) none := World.grownBy_alloc _ _ _
 have kp1 : KpF w.heap.size (w.heap.size + 1 + 1 + 1) (W2.alloc tmp) w1 := KpF.grow (hrow.alloc tmp) (by decide) hgrow (by simp; omega) (by omega) (by simp; omega) (by omega)
 refine ⟨hv1, ⟨Below.setCell (Below.grown (Below.alloc h.j.ext h.j.ext.size tmp) hgrow (by simp; have := h.j.ext.size; omega) (fun j ej => by have := (hg1 j ej).1; omega)) (by simp) _, ?_, (box (by omega) h.j.box).other (by omega) _, ⟨v', hv1.set v', hown.kept (grownBy_setCell' _ _ _) (.inr hvs)⟩, (box (by omega) h.j.n).other (by omega) _, (box (by omega) h.j.e).other (by omega) _⟩, ?_, ?_⟩
 ·have := hgrow.size
  simp at this ⊢
  omega
 ·refine h.keeps.trans (((KeepsOthers.alloc W2 tmp).trans (KeepsOthers.of_grownBy hgrow fun j o ej hj => ?_)).trans (KeepsOthers.setCell _ _ _) |>.from _)
  obtain ⟨hzj, C, fz, hC⟩ := hg1 j ej
  rw [Below.heap_alloc W2 tmp j (Array.getElem?_eq_some_iff.1 hC).1, hC] at hj
  cases hj
  rfl
 ·exact h.kp.trans ((KpF.alloc (by have := h.j.ext.size; omega) (by omega) tmp).trans (kp1.trans (KpF.setBox hv1 (by decide) (Nat.le_refl _) (by omega) _)))
def RowsA (bs : List UInt8) (z : Nat) (tm : Nat → Value → Array Value) (pre : List El) (x : El) (a' : Act) (W : World) : Prop :=
 pre.length + 1 ≤ bs.length ∧ ∃ Bx, z ≤ Bx ∧ W.heap[Bx]? = some (Obj.cells #[x.v, .int .i64 (x.at_ : Int), .int .i64 (x.e : Int)] 125) ∧ IsSl x.v ∧ a' = { tmps := tm Bx (elV x), defers := [] }

theorem rows_own (w : World) (z : Nat) (src : Value) (hz : w.heap.size ≤ z) : OwnFrom z (RowsI w z src) := by
 intro pre X Y row h hg hr
 have hc : ∀ {b : Nat} {T : TypeId} {u : Value}, Boxed X b T u → Boxed Y b T u := fun hb => hb.kept hg (fun e' => by
  obtain ⟨_, o, ho, hc⟩ := hr _ e'.symm
  rw [show X.heap[_]? = _ from hb] at ho; cases ho; cases hc)
 obtain ⟨v, hv, hrow⟩ := h.out
 refine ⟨Below.grown h.ext hg h.ext.size (fun k e => Nat.le_trans hz (hr k e).1), Nat.le_trans h.size hg.size, hc h.box, ⟨v, hc hv, hrow.kept hg ?_⟩, hc h.n, hc h.e⟩
 rcases hrow.2 with ⟨rfl, _⟩ | ⟨g, cap, cur, rfl, _, hgb, _⟩
 ·exact .inl rfl
 ·refine .inr fun e' => ?_
  obtain ⟨_, o, ho, hc⟩ := hr g (by simpa [Value.ownBlock] using e'.symm)
  rw [hgb] at ho; cases ho; cases hc

theorem s_own (z n0 : Nat) (bs : List UInt8) : OwnFrom z (fun (xs : List El) W => xs.map elK = felts 0 bs ∧ ∀ x ∈ xs, elR n0 x W) := by
 rintro xs X Y row ⟨h1, h2⟩ hg hr
 refine ⟨h1, fun x hx => ?_⟩
 have h := h2 x hx
 unfold elR OwB Ow at *
 refine h.kept hg ?_
 rcases h.2 with ⟨hv, _⟩ | ⟨g, cap, cur, hv, _, hgb, _⟩
 ·rw [hv]; exact .inl rfl
 ·rw [hv]
  refine .inr fun e' => ?_
  obtain ⟨_, o, ho, hc⟩ := hr g (by simpa [Value.ownBlock] using e'.symm)
  rw [hgb] at ho; cases ho; cases hc

theorem a_own (bs : List UInt8) (z : Nat) (tm : Nat → Value → Array Value) (pre : List El) (x : El) (a' : Act) : OwnFrom z (fun (_ : Unit) W => RowsA bs z tm pre x a' W) := by
 rintro _ X Y row ⟨hl, Bx, h1, h2, h3, h4⟩ hg hr
 refine ⟨hl, Bx, h1, ?_, h3, h4⟩
 refine (hg.block Bx (Array.getElem?_eq_some_iff.1 h2).1 (fun e' => ?_)).trans h2
 obtain ⟨_, o, ho, hc⟩ := hr _ e'.symm
 rw [h2] at ho; cases ho; cases hc

/-- Rows of bytes, all of them made at or behind z. -/
def BssO (w : World) (z : Nat) (v : Value) (ls : List (List UInt8)) : Prop := ∃ vs, w.ownsRow z 34 1 v vs.length vs ∧ All2 (OwB w z) vs ls
theorem BssO.bss {w : World} {z : Nat} {v : Value} {ls : List (List UInt8)} (h : BssO w z v ls) : Bss w v ls := by
 obtain ⟨vs, h1, h2⟩ := h
 exact ⟨vs, Ow.sl h1, h2.mono fun _ _ h => h.bs⟩
set_option maxRecDepth 100000 in
set_option maxHeartbeats 2000000 in
theorem fRowsO_any (v : Value) (l : List UInt8) (w : World) (hv : Bs w v l) (hlen : l.length ≤ 5000000) :
  Calls Tryz.prog 73 #[v] w fun e w' => ∃ r, e = .returned (.tuple #[r, .int .i64 ((frows l).2.1 : Int), .int .i64 ((frows l).2.2 : Int)]) ∧ BssO w' w.heap.size r (frows l).1 ∧ Ext w w' := by
 obtain ⟨A, c, rfl, h1, h2, h3, _⟩ := hv.open_
 obtain ⟨i0, hi0, hz0, hz1, hz2⟩ := info_parts infoBs
 refine (callsIn_wide (n := 5)).1 ?_
 refine callsIn_of_wp_marks Tryz.func73 rfl trivial ?_ rfl
 simp only [Tryz.ntmps73, List.size_toArray, List.length_cons, List.length_nil, Nat.reduceAdd, Nat.reduceSub, Array.replicate_succ, Array.replicate_zero, List.push_toArray, List.append_toArray, List.nil_append, List.cons_append]
 gi_wp2
 refine ⟨trivial, (callsIn_wide.2 (frames_any _ _ A l.length c rfl)).mono ?_⟩
 rintro e w1 ⟨rfl, rfl⟩
 gi_wp2
 obtain ⟨W0, hW0⟩ : ∃ W0, (((w.alloc (.cells #[.slice none 0 0] 47)).alloc (.cells #[.int .i64 0] 3)).alloc (.cells #[.int .i64 0] 48)).alloc (.cells #[.slice A l.length c] 34) = W0 := ⟨_, rfl⟩
 have hx : Ext w W0 := by rw [← hW0]; exact Ext.trans (Ext.trans (Ext.trans (ext_alloc _ _) (ext_alloc _ _)) (ext_alloc _ _)) (ext_alloc _ _)
 have hsz : W0.heap.size = w.heap.size + 1 + 1 + 1 + 1 := by rw [← hW0]; simp
 have b1 : Boxed W0 w.heap.size 47 (.slice none 0 0) := by rw [← hW0]; exact (((Boxed.new w _ _).alloc _).alloc _).alloc _
 have b2 : Boxed W0 (w.heap.size + 1) 3 (.int .i64 0) := by rw [← hW0]; have := ((Boxed.new (w.alloc (.cells #[.slice none 0 0] 47)) 3 (.int .i64 0)).alloc (.cells #[.int .i64 0] 48)).alloc (.cells #[.slice A l.length c] 34); simpa using this
 have b3 : Boxed W0 (w.heap.size + 1 + 1) 48 (.int .i64 0) := by rw [← hW0]; have := (Boxed.new ((w.alloc (.cells #[.slice none 0 0] 47)).alloc (.cells #[.int .i64 0] 3)) 48 (.int .i64 0)).alloc (.cells #[.slice A l.length c] 34); simpa using this
 have b4 : Boxed W0 (w.heap.size + 1 + 1 + 1) 34 (.slice A l.length c) := by rw [← hW0]; have := Boxed.new (((w.alloc (.cells #[.slice none 0 0] 47)).alloc (.cells #[.int .i64 0] 3)).alloc (.cells #[.int .i64 0] 48)) 34 (.slice A l.length c); simpa using this
 rw [hW0]
 clear hW0
 refine wpIn_rangeW rfl (by omega) (gf := 106) (lb := #[.pointer (some ⟨w.heap.size + 1 + 1 + 1, 0, none⟩)]) rfl trivial (enters_of Tryz.func106 (by kernel_rfl) rfl)
  (frames1_any 4 (by omega) w (w.heap.size + 1 + 1 + 1) A c l hv (by omega) W0 hx b4.cell b4.lt) (fun h k => h.trans k) ?kb (Below.refl _ _) (fun _ => rfl) (s_own _ _ _) (fun _ _ _ _ _ _ _ => trivial)
  (RowsI w W0.heap.size (.slice A l.length c)) (fun _ _ _ => False) (rows_own w _ _ hx.size) (fun _ _ _ _ _ hs _ _ => hs) ?start
  (RowsA l W0.heap.size (fun Bx xv => #[.slice A l.length c, undef, .pointer (some ⟨w.heap.size, 0, none⟩), .pointer (some ⟨w.heap.size + 1, 0, none⟩), .pointer (some ⟨w.heap.size + 1 + 1, 0, none⟩), .pointer (some ⟨Bx, 0, none⟩), .slice A l.length c, .func (.func 106) #[] #[.pointer (some ⟨w.heap.size + 1 + 1 + 1, 0, none⟩)], xv, undef, undef, undef, undef, undef, undef, undef, undef, undef, undef, undef, undef, undef, undef]))
  (a_own _ _ _) ?assign ?body ?done ?stop
 case kb =>
  intro W k o o' hk ho hc _
  refine ⟨(Below.refl _ W).grown (grownBy_putObj' W k o') (by have := (Array.getElem?_eq_some_iff.1 ho).1; omega) (fun j e => by cases e; omega), World.putObj_heap_other (by omega), fun j C fz hj => ?_⟩
  refine (World.putObj_heap_other (fun e => ?_)).trans hj
  subst e
  rw [ho] at hj
  cases hj
  cases hc
 case start => exact ⟨hx, Nat.le_refl _, b4, ⟨_, b1, World.ownsRow_nil _ _ _ _⟩, b2, b3⟩
 case assign =>
  rintro k pre ⟨v, lx, at_, er⟩ W K hi hR hK
  have hR' : OwB W w.heap.size v lx := hR.1
  have hlp := hR.len
  obtain ⟨A2, c2, rfl, _, _, _, _⟩ := OwB.bs hR' |>.open_
  unfold elV at hK ⊢
  dsimp only at hK ⊢
  have hn0 : w.heap.size ≤ W.heap.size := hi.ext.size
  have hzW := hi.size
  gi_wp2
  refine hK _ _ ?_ ?_ ?_ ⟨hlp, W.heap.size, hzW, ?_, ⟨_, _, _, rfl⟩, rfl⟩
  ·exact (KeepsOthers.alloc _ _).from _
  ·exact KpF.alloc hn0 (by omega) _
  ·exact (rows_own w _ _ hx.size).alloc _ hi
  ·exact World.alloc_heap_new _ _
 case body =>
  rintro k pre ⟨v, lx, at_, er⟩ a' W hk hi ⟨hlp, Bx, hzb, hbx, ⟨A2, n2, c2, hv2⟩, rfl⟩
  dsimp only at hbx hv2
  subst hv2
  obtain ⟨vo, hvo, hrow⟩ := hi.out
  have hbn := hi.n
  have hbe := hi.e
  have hn0 : w.heap.size ≤ W.heap.size := hi.ext.size
  have hzW := hi.size
  have cx0 : W.cell? ⟨Bx, 0, none⟩ = some (.slice A2 n2 c2) := by simp [World.cell?, hbx]
  have cx1 : W.cell? ⟨Bx, 1, none⟩ = some (.int .i64 (at_ : Int)) := by simp [World.cell?, hbx]
  have cx2 : W.cell? ⟨Bx, 2, none⟩ = some (.int .i64 (er : Int)) := by simp [World.cell?, hbx]
  have cn := hbn.cell
  have fn := hbn.frozen
  have ce := hbe.cell
  have fe := hbe.frozen
  have HR := Lib.hid (show RowsS w W0.heap.size (.slice A l.length c) pre (lastEnd pre) (lastErr pre) Bx _ W W from ⟨hi, KeepsFrom.refl _ _, KpF.refl _ _ _, hbx⟩)
  clear hi hbx
  gi_wp2
  gi_region
  all_goals
   generalize hW2 : World.drew _ = W2
   have M : RowsS w W0.heap.size (.slice A l.length c) pre at_ er Bx (Obj.cells #[.slice A2 n2 c2, .int .i64 (at_ : Int), .int .i64 (er : Int)] 125) W W2 := by
    rw [← hW2]
    first
    | exact ((HR.out.setN hsz.symm hzb at_).setE hsz.symm hzb er).drew
    | exact ((HR.out.setE hsz.symm hzb er).setN hsz.symm hzb at_).drew
   clear hW2 HR cx0 cx1 cx2 cn fn ce fe hbn hbe hvo hrow vo
   obtain ⟨vo, hvo, hrow⟩ := M.j.out
   have cx0 : W2.cell? ⟨Bx, 0, none⟩ = some (.slice A2 n2 c2) := by simp [World.cell?, M.bx]
   have ce := M.j.e.cell
   have co := hvo.cell
   have fo := hvo.frozen
   have hsz2 := M.j.size
   have hok : (oks pre).length ≤ pre.length := by unfold oks; rw [List.length_map]; exact List.length_filter_le _ _
   have HM := Lib.hid M
   clear M
   by_cases her : er = 0
   ·subst her
    gi_wp2_with (gi_at_builtin; refine wpListIn_append_own _ rfl (.tmp 15) (.tmp 18) 47 rfl W0.heap.size 34 i0 (.slice none 0 0) 1 24 Tryz.underlying47 hi0 hz0 hz1 hz2 rfl (by decide) _ _ _ rfl (hrow.alloc _) ⟨W2.heap.size, 0, none⟩ 1 1 [.slice A2 n2 c2] rfl rfl (cell_one_new _ _ _) (by simp [Value.oneCell']) (by unfold maxLen; omega) (by omega) (by simp; omega) ?_; intro v' w1 hown' hgrow _; obtain ⟨g', cap', rfl⟩ := ownsRow_succ hown'; obtain ⟨hv1, hj, hkp, hkf⟩ := HM.out.app hsz.symm hvo hrow hown' hgrow (pre' := pre ++ [⟨.slice A2 n2 c2, lx, at_, 0⟩]) (by rw [oks_snoc, if_pos rfl]) (by simp); have c1 := hv1.cell; have f1 := hv1.frozen)
    refine ⟨hkp, hkf, ?_⟩
    unfold RowsI
    rw [lastEnd_snoc, lastErr_snoc]
    exact hj
   ·gi_wp2
    refine ⟨HM.out.keeps, HM.out.kp, ?_⟩
    have j := HM.out.j
    unfold RowsI
    rw [lastEnd_snoc, lastErr_snoc]
    refine ⟨j.ext, j.size, j.box, ?_, j.n, j.e⟩
    rw [oks_snoc, if_neg her, List.append_nil]
    exact j.out
 case done =>
  rintro D xs W hD ⟨hS1, hS2⟩ hi hdef
  obtain ⟨vo, hvo, hrow⟩ := hi.out
  have hbn := hi.n
  have hbe := hi.e
  have cn := hbn.cell
  have fn := hbn.frozen
  have ce := hbe.cell
  have fe := hbe.frozen
  have co := hvo.cell
  have fo := hvo.frozen
  have HI := Lib.hid hi
  clear hi
  obtain ⟨Ao, no, co', rfl⟩ := isSl_row hrow
  gi_wp2
  gi_region
  all_goals
   simp only [setCell_same hvo, setCell_same hbn, setCell_same hbe]
   gi_wp2
   obtain ⟨e1, e2, e3⟩ := rows_fin xs l hS1
   refine ⟨by simp, .inl ⟨_, _, rfl, run_takeDeferred (w := W.drew) hdef, ?_⟩⟩
   have hdef' : W.drew.heap[D]? = some (.deferred (some [])) := hdef
   have hrow' : W.drew.ownsRow W0.heap.size 34 1 (.slice Ao no co') (oks xs).length (oks xs) := hrow
   have hs3 := (s_own W0.heap.size w.heap.size l).putObj (.deferred none) (s := xs) (W := W.drew) ⟨hS1, fun x hx => (hS2 x hx).ext (ext_drew _)⟩ hD hdef' rfl
   have hrow3 := ownsRow_putObj hrow' (.deferred none) hdef' rfl
   refine ⟨.tuple #[.slice Ao no co', .int .i64 (lastEnd xs : Int), .int .i64 (lastErr xs : Int)], ?_, .slice Ao no co', by rw [e1, e2], ⟨oks xs, ⟨hrow3.1, hrow3.2.imp id fun ⟨g, cap, cur, a, b, rest⟩ => ⟨g, cap, cur, a, Nat.le_trans hx.size b, rest⟩⟩, ?_⟩, ?_⟩
   ·have bo : ∀ {b : Nat} {T : TypeId} {u : Value}, b < W0.heap.size → Boxed W b T u → (W.drew.putObj D (.deferred none)).cell? ⟨b, 0, none⟩ = some u := fun hb hbx => (Boxed.kept (W := W.drew) hbx (grownBy_putObj' W.drew D _) (fun e => by cases e; omega)).cell
    have k1 := bo (by omega) hvo
    have k2 := bo (by omega) hbn
    have k3 := bo (by omega) hbe
    simp [results, Tryz.results73, go_sem, k1, k2, k3]
   ·rw [e3]
    exact All2.of_map _ _ _ fun y hy => hs3.2 y (List.mem_filter.1 hy).1
   ·exact Below.grown (Ext.trans HI.out.ext (ext_drew _)) (grownBy_putObj' _ _ _) (by simp; have := hx.size; have := HI.out.size; omega) (fun k e => by cases e; have := hx.size; omega)
 case stop => rintro D cc pre W _ _ h; exact h.elim
end Go.Proofs.YtagghghoimpofaaGreatDoor
