/-
  Layer 19: what stands while changes are gathered in a range over an iterator.
-/
import Derived.Test.YtacabcpjaadijaaDoorCapIter
import Derived.Test.YtacabcpjaadijaaDoorChainIn
import Derived.Stop.RegionWithIn
namespace Go.Proofs.YtacabcpjaadijaaDoor
open Go Go.RowKit Go.Shelf Mono Num
set_option linter.unusedVariables false
set_option maxRecDepth 100000

/-- Where the boxes lie: the result's, and the others, which nothing writes. -/
structure OwnAt (w : World) (z bo : Nat) (B : List (Nat × TypeId × Value)) : Prop where
  hz : w.heap.size ≤ z
  lo : w.heap.size ≤ bo
  bz : bo < z
  oth : ∀ p ∈ B, w.heap.size ≤ p.1 ∧ p.1 < z ∧ p.1 ≠ bo
structure OwnJ (w : World) (z bo : Nat) (B : List (Nat × TypeId × Value)) (vo : Value) (outs : List (Ch × Value)) (W : World) : Prop where
  ext : Ext w W
  size : z ≤ W.heap.size
  keep : ∀ p ∈ B, Boxed W p.1 p.2.1 p.2.2
  out : Boxed W bo 22 vo
  row : W.ownsRow z 32 7 vo outs.length (chsC outs)
  own : ∀ x ∈ outs, WsO W x.2 x.1.writes
/-- What stands at the head of a round. -/
def OwnI (w : World) (z bo : Nat) (B : List (Nat × TypeId × Value)) (pre : List (Ch × Value)) (W : World) : Prop := ∃ vo outs, OwnJ w z bo B vo outs W ∧ outs.map (·.1) = pre.map (·.1)
theorem row_cells {W : World} {z k sz : Nat} {e : TypeId} {v : Value} {xs : List Value} (h : W.ownsRow z e sz v k xs) : ∀ j, v.ownBlock = some j → z ≤ j ∧ ∃ C fz, W.heap[j]? = some (Obj.cells C e fz) := fun j ej => by
  rcases h.2 with ⟨rfl, _⟩ | ⟨g, cap, cur, rfl, hb, hgb, _⟩
  · simp [Value.ownBlock] at ej
  · obtain rfl : g = j := by simpa [Value.ownBlock] using ej
    exact ⟨hb, _, _, hgb⟩
/-- Whatever grows that holds no cells from z on changes nothing of it. -/
theorem OwnJ.kept {w X Y : World} {z bo : Nat} {B : List (Nat × TypeId × Value)} {vo : Value} {outs : List (Ch × Value)} (h : OwnJ w z bo B vo outs X) (ha : OwnAt w z bo B) {row : Option Nat} (hg : X.grownBy Y row) (hr : ∀ r, row = some r → z ≤ r ∧ ∃ o : Obj, X.heap[r]? = some o ∧ o.isCells = false) : OwnJ w z bo B vo outs Y := by
  have hc : ∀ {b : Nat} {T : TypeId} {u : Value}, Boxed X b T u → Boxed Y b T u := fun hb => hb.kept hg (fun e' => by
    obtain ⟨_, o, ho, hc⟩ := hr _ e'.symm
    rw [show X.heap[_]? = _ from hb] at ho; cases ho; cases hc)
  have hrw : ∀ {e : TypeId} {sz k zz : Nat} {v : Value} {xs : List Value}, X.ownsRow zz e sz v k xs → Y.ownsRow zz e sz v k xs := fun hrow => row_apart hrow hg (fun j C fz ej hj => by
    obtain ⟨_, o, ho, hc⟩ := hr j ej
    rw [hj] at ho; cases ho; cases hc)
  exact ⟨Below.grown h.ext hg h.ext.size (fun k e => Nat.le_trans ha.hz (hr k e).1), Nat.le_trans h.size hg.size, fun p hp => hc (h.keep p hp), hc h.out, hrw h.row, fun x hx => ⟨hrw (h.own x hx).1, (h.own x hx).2⟩⟩
theorem ownI_own {w : World} {z bo : Nat} {B : List (Nat × TypeId × Value)} (ha : OwnAt w z bo B) : OwnFrom z (OwnI w z bo B) := by
  rintro pre X Y row ⟨vo, outs, h, hm⟩ hg hr
  exact ⟨vo, outs, h.kept ha hg hr, hm⟩
/-- What stands within a round, its change boxed at Bx. -/
structure OSt (w W : World) (z bo : Nat) (B : List (Nat × TypeId × Value)) (vo : Value) (outs : List (Ch × Value)) (Bx : Nat) (O : Obj) (W' : World) : Prop where
  j : OwnJ w z bo B vo outs W'
  keeps : KeepsFrom z W W'
  below : Below w.heap.size W W'
  bx : W'.heap[Bx]? = some O
theorem OSt.ext {w W X Y : World} {z bo Bx : Nat} {B : List (Nat × TypeId × Value)} {vo : Value} {outs : List (Ch × Value)} {O : Obj} (h : OSt w W z bo B vo outs Bx O X) (ha : OwnAt w z bo B) (he : Ext X Y) : OSt w W z bo B vo outs Bx O Y := by
  have hg : X.grownBy Y none := ⟨he.os, he.tape, he.output, he.size, fun k hk _ => he.block k hk⟩
  refine ⟨h.j.kept ha hg (fun r e => by cases e), h.keeps.trans ((KeepsOthers.of_grownBy hg (fun j o e => by cases e)).from _), h.below.trans (Below.grown (Below.refl _ _) hg (by exact h.j.ext.size) (fun k e => by cases e)), ?_⟩
  exact (he.block Bx (Array.getElem?_eq_some_iff.1 h.bx).1).trans h.bx
theorem OSt.drew {w W X : World} {z bo Bx : Nat} {B : List (Nat × TypeId × Value)} {vo : Value} {outs : List (Ch × Value)} {O : Obj} (h : OSt w W z bo B vo outs Bx O X) (ha : OwnAt w z bo B) : OSt w W z bo B vo outs Bx O X.drew := h.ext ha (ext_drew _)
/-- The change is appended and the result's box written. -/
theorem OSt.app {w W W9 w3 : World} {z bo Bx : Nat} {B : List (Nat × TypeId × Value)} {vo v1 v' : Value} {outs : List (Ch × Value)} {O tmp : Obj} {xc : Ch} (h : OSt w W z bo B vo outs Bx O W9) (ha : OwnAt w z bo B) (hT : ∀ p ∈ B, p.2.1 ≠ 32)
    (hv : WsO W9 v1 xc.writes) (hown : w3.ownsRow z 32 7 v' (outs.length + 1) (chsC outs ++ chC xc v1)) (hg : (W9.alloc tmp).grownBy w3 vo.ownBlock) :
    Boxed w3 bo 22 vo ∧ OwnJ w z bo B v' (outs ++ [(xc, v1)]) (w3.setCell ⟨bo, 0, none⟩ v') ∧ KeepsFrom z W (w3.setCell ⟨bo, 0, none⟩ v') ∧ Below w.heap.size W (w3.setCell ⟨bo, 0, none⟩ v') := by
  have hge := row_cells h.j.row
  have hs9 := h.j.ext.size
  have hz9 := h.j.size
  have hrz := ha.hz
  have h9 := h.ext (Y := W9.alloc tmp) ha (ext_alloc _ _)
  have keepB : ∀ {b : Nat} {T : TypeId} {u : Value}, b < z → Boxed W9 b T u → Boxed w3 b T u := fun hb hbx => (hbx.alloc tmp).kept hg (fun e => by have := (hge _ e.symm).1; omega)
  have hbo := keepB ha.bz h.j.out
  have tOf : ∀ j, vo.ownBlock = some j → ∃ C fz, (W9.alloc tmp).heap[j]? = some (Obj.cells C 32 fz) := fun j ej => by
    obtain ⟨_, C, fz, hj⟩ := hge j ej
    exact ⟨C, fz, (Below.heap_alloc W9 tmp j (Array.getElem?_eq_some_iff.1 hj).1).trans hj⟩
  have hgs : w3.grownBy (w3.setCell ⟨bo, 0, none⟩ v') (some bo) := gb_setC _ _ _ _
  have wsk : ∀ {x : Value} {l : List Wr}, WsO W9 x l → WsO (w3.setCell ⟨bo, 0, none⟩ v') x l := fun hx =>
    (((hx.ext (ext_alloc _ tmp)).grown hg (fun j ej => by obtain ⟨C, fz, hj⟩ := tOf j ej; exact ⟨_, by decide, C, fz, hj⟩)).grown hgs (fun j ej => by
      injection ej with ej
      subst ej
      exact ⟨22, by decide, _, _, hbo⟩))
  have hsz := hg.size
  rw [World.size_alloc] at hsz
  have hbz := ha.bz
  have hlo := ha.lo
  refine ⟨hbo, ⟨?_, ?_, fun p hp => ?_, hbo.set v', ?_, fun x hx => ?_⟩, ?_, ?_⟩
  · exact Below.setCell (Below.grown h9.j.ext hg (by simp; omega) (fun j ej => by have := (hge j ej).1; omega)) (by simpa using hlo) _
  · simp; omega
  · exact (keepB (ha.oth p hp).2.1 (h.j.keep p hp)).other (ha.oth p hp).2.2 _
  · rw [List.length_append, chsC_snoc]
    exact row_apart hown hgs (fun j C fz ej hj => by
      injection ej with ej
      subst ej
      rw [show w3.heap[_]? = _ from hbo] at hj
      injection hj with hj
      injection hj with _ hj
      exact absurd hj (by decide))
  · rcases List.mem_append.1 hx with hx | hx
    · exact wsk (h.j.own x hx)
    · rw [List.mem_singleton.1 hx]
      exact wsk hv
  · refine h9.keeps.trans ((KeepsOthers.of_grownBy hg fun j o ej hj => ?_).trans (KeepsOthers.setCell _ _ _) |>.from _)
    obtain ⟨C, fz, hC⟩ := tOf j ej
    rw [hC] at hj
    cases hj
    rfl
  · exact h9.below.trans (Below.setCell (Below.grown (Below.refl _ _) hg (by simp; omega) (fun j ej => by have := (hge j ej).1; omega)) (by simpa using hlo) _)
end Go.Proofs.YtacabcpjaadijaaDoor

/-
  Layer 19: capture.Own.
-/
namespace Go.Proofs.YtacabcpjaadijaaDoor
open Go Go.RowKit Go.Shelf Mono Num
attribute [local go_sem] Oper.semAt_some
set_option linter.unusedVariables false
set_option linter.unusedSimpArgs false
set_option maxRecDepth 100000

theorem infoCh : (Tryd.prog.info? 32).map (fun i => (i.zero, i.size, i.bytes)) = some (some (.agg #[.int .i64 0, .int .i64 0, .int .i64 0, .int .i64 0, .int .i64 0, .int .i64 0, .slice none 0 0]), 7, 72) := by kernel_rfl
theorem ch_one (site seq sn ss va vb : Int) (ws : List Wr) (A : Option Addr) (n c : Nat) : ∀ u ∈ chC ⟨site, seq, sn, ss, va, vb, ws⟩ (.slice A n c), u.oneCell' = true := by
  intro u h
  simp only [chC, List.mem_cons, List.not_mem_nil, or_false] at h
  rcases h with rfl | rfl | rfl | rfl | rfl | rfl | rfl <;> rfl
/-- How far 'out = append(out, own(c))' is. -/
def OPh (w W : World) (z bo : Nat) (B : List (Nat × TypeId × Value)) (vo : Value) (outs : List (Ch × Value)) (Bx : Nat) (O : Obj) (xc : Ch) : List Value → World → Prop
  | [], W' => OSt w W z bo B vo outs Bx O W'
  | [v1], W' => ∃ A n c, v1 = chV xc (.slice A n c) ∧ WsO W' (.slice A n c) xc.writes ∧ OSt w W z bo B vo outs Bx O W'
  | [v1, v2], W' => ∃ A n c W9, v2 = .slice (some ⟨World.heap W9 |>.size, 0, none⟩) 1 1 ∧ WsO W9 (.slice A n c) xc.writes ∧ OSt w W z bo B vo outs Bx O W9 ∧ W' = W9.alloc (.cells (chC xc (.slice A n c)).toArray 32)
  | [_, _, v3], W' => ∃ v, Boxed W' bo 22 vo ∧ OwnJ w z bo B v3 (outs ++ [(xc, v)]) (W'.setCell ⟨bo, 0, none⟩ v3) ∧ KeepsFrom z W (W'.setCell ⟨bo, 0, none⟩ v3) ∧ Below w.heap.size W (W'.setCell ⟨bo, 0, none⟩ v3)
  | _, W' => ∃ v v3, OwnJ w z bo B v3 (outs ++ [(xc, v)]) W' ∧ KeepsFrom z W W' ∧ Below w.heap.size W W'
theorem OPh.st {w W W' : World} {z bo Bx : Nat} {B : List (Nat × TypeId × Value)} {vo : Value} {outs : List (Ch × Value)} {O : Obj} {xc : Ch} (ha : OwnAt w z bo B) : ∀ {l : List Value}, l.length ≤ 2 → OPh w W z bo B vo outs Bx O xc l W' → OSt w W z bo B vo outs Bx O W'
  | [], _, h => h
  | [_], _, ⟨_, _, _, _, _, h⟩ => h
  | [_, _], _, ⟨_, _, _, _, _, _, h, e⟩ => by rw [e]; exact h.ext ha (ext_alloc _ _)
/-- What a round's head hands to its body. -/
def OwnA (l : List (Ch × Value)) (z : Nat) (tm : Nat → Value → Array Value) (pre : List (Ch × Value)) (x : Ch × Value) (a' : Act) (W : World) : Prop :=
  (x ∈ l ∧ pre.length + 1 ≤ l.length) ∧ ∃ Bx, z ≤ Bx ∧ W.heap[Bx]? = some (Obj.cells (chC x.1 x.2).toArray 32) ∧ a' = { tmps := tm Bx (chV x.1 x.2), defers := [] }
theorem ownA_own (l : List (Ch × Value)) (z : Nat) (tm : Nat → Value → Array Value) (pre : List (Ch × Value)) (x : Ch × Value) (a' : Act) : OwnFrom z (fun (_ : Unit) W => OwnA l z tm pre x a' W) := by
  rintro _ X Y row ⟨hl, Bx, h1, h2, h3⟩ hg hr
  refine ⟨hl, Bx, h1, ?_, h3⟩
  refine (hg.block Bx (Array.getElem?_eq_some_iff.1 h2).1 (fun e' => ?_)).trans h2
  obtain ⟨_, o, ho, hc⟩ := hr _ e'.symm
  rw [h2] at ho; cases ho; cases hc
theorem filter_pre {l pre rest : List (Ch × Value)} {x : Ch × Value} {q : Ch × Value → Bool} (h : l.filter q = pre ++ x :: rest) : x ∈ l ∧ pre.length + 1 ≤ l.length := by
  have h1 := List.length_filter_le q l
  rw [h] at h1
  simp at h1
  exact ⟨(List.mem_filter.1 (by rw [h]; simp : x ∈ l.filter q)).1, by omega⟩

theorem chainUpon_of {P : Program} {R : Value → World → Prop} {X r : Result Next} (h : X = r) (k : chainUpon P R r) : chainUpon P R X := h ▸ k
theorem setCell_sameC {W : World} {b : Nat} {T : TypeId} {v : Value} (h : Boxed W b T v) : W.setCell ⟨b, 0, none⟩ v = W := by
  have h' : W.heap[b]? = some (.cells #[v] T (0, 0)) := h
  unfold World.setCell
  have he : (W.heap.modify b fun
      | .cells c elem frozen => .cells (if (none : Option Nat).isSome then c else c.setIfInBounds 0 v) elem frozen
      | o => o) = W.heap := by
    apply Array.ext_getElem?
    intro i
    rw [Array.getElem?_modify]
    split
    · rename_i hi
      subst hi
      rw [h']
      simp
    · rfl
  cases W
  simp only at he ⊢
  exact congrArg (fun x => World.mk x _ _ _ _) he
theorem exec_appendC {w : World} {o : Oper} {f : Operand → Value} {t : TypeId} {x y : Operand} {v u : Value} (hop : o.op = .call { callee := .builtin .append, args := #[x, y], argTypes := #[t, t] }) (hx : f x = v) (hy : f y = u) :
    (execOp f o).run Tryd.prog w = ((Builtin.append_ #[t, t] o.type #[v, u]).run Tryd.prog w).andThen fun r w => .ok (.value r) w := by
  unfold execOp
  simp only [hop, resolve, invoke, builtin, Sem.run_bind, Sem.run_pure, Result.andThen_ok, List.map_toArray, List.map_cons, List.map_nil, hx, hy]

set_option maxRecDepth 100000 in
set_option maxHeartbeats 4000000 in
theorem capOwn_any (u : Int) (v : Value) (l : List (Ch × Value)) (w : World) (hs : Cs w v l) (hl : l.length ≤ 100000) (hw : ∀ x ∈ l, x.1.writes.length ≤ 100000) :
    Calls Tryd.prog 10 #[.int .i64 u, v] w fun e w' => ∃ r outs, e = .returned r ∧ Cs w' r outs ∧ outs.map (·.1) = (l.filter (fun x => decide (x.1.site = u))).map (·.1) ∧ Ext w w' := by
  obtain ⟨A, c, rfl, _⟩ := hs.at_
  obtain ⟨i0, hi0, hz0, hz1, hz2⟩ := info_parts infoCh
  refine (callsIn_wide (n := 5)).1 ?_
  refine callsIn_of_wp_marks Tryd.func10 rfl trivial ?_ rfl
  simp only [Tryd.ntmps10, List.size_toArray, List.length_cons, List.length_nil, Nat.reduceAdd, Nat.reduceSub, Array.replicate_succ, Array.replicate_zero, List.push_toArray, List.append_toArray, List.nil_append, List.cons_append]
  have hmf : ∀ (fn : Fn) (first cap : Array Value) (w : World), (Instr.makeFunc fn first cap).run Tryd.prog w = .ok (.func fn first cap) w := fun _ _ _ _ => rfl
  gi_wp2
  refine ⟨trivial, (callsIn_wide.2 (some_any A l.length c 27 w.heap.size _)).mono ?_⟩
  rintro e w1 ⟨rfl, rfl⟩
  gi_wp2
  try simp only [World.size_alloc]
  obtain ⟨W0, hW0⟩ : ∃ W0, (((w.alloc (.cells #[.int .i64 u] 3)).alloc (.cells #[.slice none 0 0] 22)).alloc (.cells #[.slice A l.length c] 22)).alloc (.cells #[.func (.func 27) #[] #[.pointer (some ⟨w.heap.size, 0, none⟩)]] 72) = W0 := ⟨_, rfl⟩
  have hx : Ext w W0 := by rw [← hW0]; exact Ext.trans (Ext.trans (Ext.trans (ext_alloc _ _) (ext_alloc _ _)) (ext_alloc _ _)) (ext_alloc _ _)
  have hsz : W0.heap.size = w.heap.size + 1 + 1 + 1 + 1 := by rw [← hW0]; simp
  have b1 : Boxed W0 w.heap.size 3 (.int .i64 u) := by rw [← hW0]; exact (((Boxed.new w _ _).alloc _).alloc _).alloc _
  have b2 : Boxed W0 (w.heap.size + 1) 22 (.slice none 0 0) := by rw [← hW0]; have := ((Boxed.new (w.alloc (.cells #[.int .i64 u] 3)) 22 (.slice none 0 0)).alloc (.cells #[.slice A l.length c] 22)).alloc (.cells #[.func (.func 27) #[] #[.pointer (some ⟨w.heap.size, 0, none⟩)]] 72); simpa using this
  have b3 : Boxed W0 (w.heap.size + 1 + 1) 22 (.slice A l.length c) := by rw [← hW0]; have := (Boxed.new ((w.alloc (.cells #[.int .i64 u] 3)).alloc (.cells #[.slice none 0 0] 22)) 22 (.slice A l.length c)).alloc (.cells #[.func (.func 27) #[] #[.pointer (some ⟨w.heap.size, 0, none⟩)]] 72); simpa using this
  have b4 : Boxed W0 (w.heap.size + 1 + 1 + 1) 72 (.func (.func 27) #[] #[.pointer (some ⟨w.heap.size, 0, none⟩)]) := by rw [← hW0]; have := Boxed.new (((w.alloc (.cells #[.int .i64 u] 3)).alloc (.cells #[.slice none 0 0] 22)).alloc (.cells #[.slice A l.length c] 22)) 72 (.func (.func 27) #[] #[.pointer (some ⟨w.heap.size, 0, none⟩)]); simpa using this
  rw [hW0]
  clear hW0
  obtain ⟨BB, hBB⟩ : ∃ BB : List (Nat × TypeId × Value), BB = [(w.heap.size, 3, .int .i64 u), (w.heap.size + 1 + 1, 22, .slice A l.length c), (w.heap.size + 1 + 1 + 1, 72, .func (.func 27) #[] #[.pointer (some ⟨w.heap.size, 0, none⟩)])] := ⟨_, rfl⟩
  have hat : OwnAt w W0.heap.size (w.heap.size + 1) BB := ⟨hx.size, by omega, by omega, by
    rw [hBB]
    intro p hp
    simp only [List.mem_cons, List.not_mem_nil, or_false] at hp
    rcases hp with rfl | rfl | rfl <;> dsimp only <;> omega⟩
  have hBT : ∀ p ∈ BB, p.2.1 ≠ 32 := by
    rw [hBB]
    intro p hp
    simp only [List.mem_cons, List.not_mem_nil, or_false] at hp
    rcases hp with rfl | rfl | rfl
    · show (3 : Nat) ≠ 32; decide
    · show (22 : Nat) ≠ 32; decide
    · show (72 : Nat) ≠ 32; decide
  have hB0 : ∀ vo outs W, OwnJ w W0.heap.size (w.heap.size + 1) BB vo outs W → Boxed W w.heap.size 3 (.int .i64 u) := fun vo outs W h => h.keep (_, _, _) (by rw [hBB]; simp)
  have hB1 : ∀ vo outs W, OwnJ w W0.heap.size (w.heap.size + 1) BB vo outs W → Boxed W (w.heap.size + 1 + 1) 22 (.slice A l.length c) := fun vo outs W h => h.keep (_, _, _) (by rw [hBB]; simp)
  have hB2 : ∀ vo outs W, OwnJ w W0.heap.size (w.heap.size + 1) BB vo outs W → Boxed W (w.heap.size + 1 + 1 + 1) 72 (.func (.func 27) #[] #[.pointer (some ⟨w.heap.size, 0, none⟩)]) := fun vo outs W h => h.keep (_, _, _) (by rw [hBB]; simp)
  have hKp : ∀ vo outs vo' outs' W W', OwnJ w W0.heap.size (w.heap.size + 1) BB vo outs W → OwnJ w W0.heap.size (w.heap.size + 1) BB vo' outs' W' → Below w.heap.size W W' → KpC w.heap.size (w.heap.size + 1 + 1) (w.heap.size + 1 + 1 + 1) w.heap.size W W' := fun vo outs vo' outs' W W' h k hb =>
    ⟨hb, (show _ = _ from hB1 _ _ _ k).trans (show _ = _ from hB1 _ _ _ h).symm, (show _ = _ from hB2 _ _ _ k).trans (show _ = _ from hB2 _ _ _ h).symm, (show _ = _ from hB0 _ _ _ k).trans (show _ = _ from hB0 _ _ _ h).symm⟩
  have hin : OwnJ w W0.heap.size (w.heap.size + 1) BB (.slice none 0 0) [] W0 := ⟨hx, Nat.le_refl _, by
    rw [hBB]
    intro p hp
    simp only [List.mem_cons, List.not_mem_nil, or_false] at hp
    rcases hp with rfl | rfl | rfl <;> assumption, b2, World.ownsRow_nil _ _ _ _, fun x h => absurd h (by simp)⟩
  clear hBB
  have HL := Lib.hid hl
  have HW := Lib.hid hw
  have HB0 := Lib.hid hB0
  have HB1 := Lib.hid hB1
  have HB2 := Lib.hid hB2
  have HKP := Lib.hid hKp
  have HAT := Lib.hid hat
  have HBT := Lib.hid hBT
  clear hw hB0 hB1 hB2 hKp hat hBT
  refine wpIn_rangeW rfl (by omega) (gf := 46) (lb := #[.pointer (some ⟨w.heap.size + 1 + 1, 0, none⟩), .pointer (some ⟨w.heap.size + 1 + 1 + 1, 0, none⟩)]) rfl trivial (enters_of Tryd.func46 (by kernel_rfl) rfl)
    (someOwn_any 4 (by omega) w A c l u hs (w.heap.size + 1 + 1) (w.heap.size + 1 + 1 + 1) w.heap.size W0 hx b3.cell b4.cell b1.cell b3.lt b4.lt b1.lt) (fun h k => h.trans k) ?kb (Below.refl _ _) (fun _ => rfl) (fun _ _ _ _ h _ _ => h) (fun _ _ _ _ _ _ _ => trivial)
    (OwnI w W0.heap.size (w.heap.size + 1) BB) (fun _ _ _ => False) (ownI_own HAT.out) (fun _ _ _ _ _ hs _ _ => hs) ⟨_, _, hin, rfl⟩
    (OwnA l W0.heap.size (fun Bx xv => #[.int .i64 u, .slice A l.length c, .pointer (some ⟨w.heap.size, 0, none⟩), undef, .pointer (some ⟨w.heap.size + 1, 0, none⟩), .pointer (some ⟨Bx, 0, none⟩), .slice A l.length c, .func (.func 27) #[] #[.pointer (some ⟨w.heap.size, 0, none⟩)], .func (.func 46) #[] #[.pointer (some ⟨w.heap.size + 1 + 1, 0, none⟩), .pointer (some ⟨w.heap.size + 1 + 1 + 1, 0, none⟩)], xv, undef, undef, undef, undef, undef, undef]))
    (ownA_own _ _ _) ?assign ?body ?done ?stop
  case kb =>
    intro W k o o' hk ho hc _
    have hlt := (Array.getElem?_eq_some_iff.1 ho).1
    refine ⟨(Below.refl _ W).grown (grownBy_putObj' W k o') (by omega) (fun j e => by cases e; omega), World.putObj_heap_other (by omega), World.putObj_heap_other (by omega), World.putObj_heap_other (by omega)⟩
  case assign =>
    rintro k pre ⟨⟨site, seq, sn, ss, va, vb, ws⟩, vw⟩ W K ⟨vo, outs, hj, hm⟩ ⟨rest, hR⟩ hK
    have hlp := filter_pre hR
    have hwv : Ws w vw ws := (hs.2 _ hlp.1).1
    obtain ⟨Aw, cw, rfl, _⟩ := hwv.at_
    unfold chV at hK ⊢
    dsimp only at hK ⊢
    gi_wp2
    have hj2 := hj.kept HAT.out (World.grownBy_alloc W (.cells #[.int .i64 site, .int .i64 seq, .int .i64 sn, .int .i64 ss, .int .i64 va, .int .i64 vb, .slice Aw ws.length cw] 32) none) (fun r e => by cases e)
    refine hK _ _ ?_ ?_ ?_ ⟨hlp, W.heap.size, hj.size, ?_, rfl⟩
    · exact (KeepsOthers.alloc _ _).from _
    · exact HKP.out _ _ _ _ _ _ hj hj2 (Below.alloc (Below.refl _ _) hj.ext.size _)
    · exact ⟨vo, outs, hj2, hm⟩
    · exact World.alloc_heap_new _ _
  case body =>
    rintro k pre ⟨⟨site, seq, sn, ss, va, vb, ws⟩, vw⟩ a' W hk ⟨vo, outs, hj, hm⟩ ⟨⟨hmem, hlp⟩, Bx, hzb, hbx, rfl⟩
    have hwl := HW.out _ hmem
    have hwv : Ws w vw ws := (hs.2 _ hmem).1
    obtain ⟨Aw, cw, rfl, _⟩ := hwv.at_
    have hol : outs.length ≤ 100000 := by
      have := congrArg List.length hm
      simp only [List.length_map] at this
      omega
    obtain ⟨Ao, no, co, rfl⟩ := row_slice hj.row
    have HJ := Lib.hid (show OSt w W W0.heap.size (w.heap.size + 1) BB (.slice Ao no co) outs Bx _ W from ⟨hj, KeepsFrom.refl _ _, Below.refl _ _, hbx⟩)
    have HM := Lib.hid hm
    have HJ0 := Lib.hid hj
    clear hj hm hbx
    unfold chV
    dsimp only at HJ hwl ⊢
    gi_wp2
    refine wpIn_region_chain [2, 3, 4, 5] (fun k => if k = 0 then 2 else 0) (fun k => if k = 0 then .slice Ao no co else chV ⟨site, seq, sn, ss, va, vb, ws⟩ (.slice Aw ws.length cw))
      (OPh w W W0.heap.size (w.heap.size + 1) BB (.slice Ao no co) outs Bx (Obj.cells (chC ⟨site, seq, sn, ss, va, vb, ws⟩ (.slice Aw ws.length cw)).toArray 32) ⟨site, seq, sn, ss, va, vb, ws⟩) (by kernel_rfl) (by kernel_rfl) (HJ.out.drew HAT.out) ?_ ?_ ?_
    · intro o ho c hc
      simp only [List.mem_cons, List.not_mem_nil, or_false] at ho
      rcases ho with rfl | rfl | rfl | rfl | rfl | rfl <;> cases hc
    · rintro ⟨a, w', h⟩
      exact h
    refine telec_side (by decide) ?_ ?_
    · rintro ρ vs w' hv hg ⟨h4, -⟩
      have e4 : ρ 4 = .pointer (some ⟨w.heap.size + 1, 0, none⟩) := h4
      have cc := (OPh.st HAT.out hv hg).j.out.cell
      simp [execOp, evR, e4, cc, go_sem]
    refine telec_side (by decide) ?_ ?_
    · rintro ρ vs w' hv hg ⟨h5, -⟩
      have e5 : ρ 5 = .pointer (some ⟨Bx, 0, none⟩) := h5
      have hb := (OPh.st HAT.out (Nat.le_trans hv (by decide)) hg).bx
      have bl : Blk w' Bx (chC ⟨site, seq, sn, ss, va, vb, ws⟩ (.slice Aw ws.length cw)) := ⟨_, hb⟩
      have c0 := bl.cell (i := 0) rfl
      have c1 := bl.cell (i := 1) rfl
      have c2 := bl.cell (i := 2) rfl
      have c3 := bl.cell (i := 3) rfl
      have c4 := bl.cell (i := 4) rfl
      have c5 := bl.cell (i := 5) rfl
      have c6 := bl.cell (i := 6) rfl
      simp [execOp, evR, e5, c0, c1, c2, c3, c4, c5, c6, chV, go_sem]
    refine telec_chain (by decide) ?_ ?_
    · rintro ρ vs w' hv hg ⟨h11, -⟩
      have e11 : ρ 11 = chV ⟨site, seq, sn, ss, va, vb, ws⟩ (.slice Aw ws.length cw) := h11
      obtain rfl := List.eq_nil_of_length_eq_zero hv
      have hg : OSt _ _ _ _ _ _ _ _ _ w' := hg
      rw [run_call_func rfl Tryd.func28 (by kernel_rfl)]
      simp only [evR, List.map_toArray, List.map_cons, List.map_nil, e11]
      refine (own_any site seq sn ss va vb ws _ w' ((hs.2 _ hmem).1.ext hg.j.ext) hwl).mono ?_
      rintro en w9 ⟨v', rfl, hwo, he⟩
      obtain ⟨A', n', c', rfl⟩ := row_slice hwo.1
      exact ⟨_, rfl, A', n', c', rfl, hwo, hg.ext HAT.out he⟩
    refine telec_chain (by decide) ?_ ?_
    · rintro ρ vs w' hv hg ⟨h12, -⟩
      have e12 : ρ 12 = vs.getD 0 undef := h12
      obtain ⟨v1, rfl⟩ : ∃ v1, vs = [v1] := by match vs, hv with | [v1], _ => exact ⟨v1, rfl⟩
      obtain ⟨A', n', c', rfl, hwo, hg⟩ := hg
      replace e12 : ρ 12 = chV ⟨site, seq, sn, ss, va, vb, ws⟩ (.slice A' n' c') := e12
      unfold chV at e12
      refine chainUpon_of (r := .ok (.value (.slice (some ⟨w'.heap.size, 0, none⟩) 1 1)) (w'.alloc (.cells (chC ⟨site, seq, sn, ss, va, vb, ws⟩ (.slice A' n' c')).toArray 32))) (by simp [execOp, evR, e12, chC, go_sem]) ?_
      exact ⟨A', n', c', w', rfl, hwo, hg, rfl⟩
    refine telec_chain (by decide) ?_ ?_
    · rintro ρ vs w' hv hg ⟨h10, h13, -⟩
      have e10 : ρ 10 = .slice Ao no co := h10
      have e13 : ρ 13 = vs.getD 1 undef := h13
      obtain ⟨v1, v2, rfl⟩ : ∃ v1 v2, vs = [v1, v2] := by match vs, hv with | [v1, v2], _ => exact ⟨v1, v2, rfl⟩
      obtain ⟨A', n', c', W9, rfl, hwo, hg, rfl⟩ := hg
      replace e13 : ρ 13 = .slice (some ⟨W9.heap.size, 0, none⟩) 1 1 := e13
      have hgz := hg.j.size
      obtain ⟨v', w10, hrun, hown, hgrow, _, _⟩ := run_append_own_at (P := Tryd.prog) (W9.alloc (.cells (chC ⟨site, seq, sn, ss, va, vb, ws⟩ (.slice A' n' c')).toArray 32)) W0.heap.size 22 22 32 i0 _ 7 72 Tryd.underlying22 hi0 hz0 hz1 hz2 rfl (by decide) _ outs.length (chsC outs) (hg.j.row.alloc _) ⟨W9.heap.size, 0, none⟩ 1 1 (chC ⟨site, seq, sn, ss, va, vb, ws⟩ (.slice A' n' c')) rfl (by
        intro j u hu
        rw [add_at, Nat.zero_add]
        exact (Blk.new W9 (chC ⟨site, seq, sn, ss, va, vb, ws⟩ (.slice A' n' c')).toArray 32).cell (i := j) hu) (ch_one _ _ _ _ _ _ _ _ _ _) (by unfold maxLen; omega) (by omega) (by simp; omega)
      obtain ⟨h1, h2, h3, h4⟩ := hg.app HAT.out HBT.out hwo hown hgrow
      rw [exec_appendC rfl e10 e13, hrun]
      exact ⟨_, h1, h2, h3, h4⟩
    refine telec_chain (by decide) ?_ ?_
    · rintro ρ vs w' hv hg ⟨h4, h14, -⟩
      have e4 : ρ 4 = .pointer (some ⟨w.heap.size + 1, 0, none⟩) := h4
      have e14 : ρ 14 = vs.getD 2 undef := h14
      obtain ⟨v1, v2, v3, rfl⟩ : ∃ v1 v2 v3, vs = [v1, v2, v3] := by match vs, hv with | [v1, v2, v3], _ => exact ⟨v1, v2, v3, rfl⟩
      obtain ⟨vv, hbk, hj2, hk2, hl2⟩ := hg
      replace e14 : ρ 14 = v3 := e14
      obtain ⟨A3, n3, c3, rfl⟩ := row_slice hj2.row
      have d6 := hbk.cell
      have dz6 := hbk.frozen
      refine chainUpon_of (r := .ok .skip (w'.setCell ⟨w.heap.size + 1, 0, none⟩ (.slice A3 n3 c3))) (by simp [execOp, evR, e4, e14, d6, dz6, go_sem]) ?_
      exact ⟨_, _, hj2, hk2, hl2⟩
    refine telec_nil ?_
    rintro ρ vs w' hv hg -
    obtain ⟨v1, v2, v3, v4, rfl⟩ : ∃ v1 v2 v3 v4, vs = [v1, v2, v3, v4] := by match vs, hv with | [v1, v2, v3, v4], _ => exact ⟨v1, v2, v3, v4, rfl⟩
    obtain ⟨vv, v3', hj3, hk3, hl3⟩ := hg
    simp only [puts, Act.put, List.setIfInBounds_toArray, List.set_cons_zero, List.set_cons_succ]
    gi_wp2
    exact ⟨hk3, HKP.out _ _ _ _ _ _ HJ0.out hj3 hl3, _, _, hj3, by simp [HM.out]⟩
  case done =>
    rintro D xs W hD rfl ⟨vo, outs, hj, hm⟩ hdef
    have hvo := hj.out
    have co := hvo.cell
    have fo := hvo.frozen
    have HJ := Lib.hid hj
    have HM := Lib.hid hm
    obtain ⟨Ao, no, co', rfl⟩ := row_slice hj.row
    clear hj hm
    gi_wp2
    simp only [setCell_sameC hvo]
    refine ⟨by simp, .inl ⟨_, _, rfl, run_takeDeferred (w := W) hdef, ?_⟩⟩
    have hj3 := HJ.out.kept HAT.out (grownBy_putObj' W D (.deferred none)) (fun r e => by cases e; exact ⟨hD, _, hdef, rfl⟩)
    refine ⟨.slice Ao no co', ?_, .slice Ao no co', rfl, outs, ⟨fl_of_row hj3.row, fun x hx => ⟨(hj3.own x hx).ws, ?_⟩⟩, HM.out, hj3.ext⟩
    · have k1 := hj3.out.cell
      simp [results, Tryd.results10, go_sem, k1]
    · have h1 : x.1 ∈ outs.map (·.1) := List.mem_map.2 ⟨x, hx, rfl⟩
      rw [HM.out] at h1
      obtain ⟨y, hy, he⟩ := List.mem_map.1 h1
      rw [← he]
      exact (hs.2 y (List.mem_filter.1 hy).1).2
  case stop => rintro D c pre W _ _ h; exact h.elim
end Go.Proofs.YtacabcpjaadijaaDoor
