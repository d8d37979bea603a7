/-
 Layer 16: the document's log in memory.
-/
import Derived.Test.YtagghghoimpofaaGreatDoorWalStep
import Derived.Test.YtagghghoimpofaaGreatDoorRkMem
import Derived.Test.YtagghghoimpofaaGreatDoorWalLog
import Derived.RegionTactic
import Derived.ChangeAlike
import Derived.Test.YtagghghoimpofaaGreatDoorRkWalk2
import Derived.Test.YtagghghoimpofaaGreatDoorMonoDet
import Derived.Test.YtagghghoimpofaaGreatDoorWalAppend
namespace Go.Proofs.YtagghghoimpofaaGreatDoor
open Go Go.RowKit Mono
set_option linter.unusedVariables false
set_option linter.unusedSimpArgs false
set_option maxRecDepth 100000

def rlstr (v : Value) (bd : Nat) (l : Lg) : List Value := [.pointer (some ⟨bd, 0, none⟩), .int .i64 (l.size : Int), v, .int .i64 (l.sure : Int), .int .i64 (l.fails : Int)]
/-- The document's log l of the disk bd in memory, at or behind z: its block, its segments' row. -/
structure RlM (z : Nat) (W : World) (bl bd : Nat) (v : Value) (l : Lg) : Prop where
 str : BlkT W bl 63 (rlstr v bd l)
 row : W.ownsRow z 96 3 v l.segs.length (scells l.segs)
 zl : z ≤ bl
theorem RlM.kb {z bl bd : Nat} {W W' : World} {v : Value} {l : Lg} {fp : Nat → Prop} (h : RlM z W bl bd v l) (k : Kb fp W W') (hn : ∀ j, lall bl v j → ¬ fp j) : RlM z W' bl bd v l :=
 ⟨h.str.kb k (hn bl (.inl rfl)), row_kept h.row k (fun j hj => hn j (.inr hj)), h.zl⟩
theorem RlM.ext {z bl bd : Nat} {W W' : World} {v : Value} {l : Lg} (h : RlM z W bl bd v l) (he : Ext W W') : RlM z W' bl bd v l := h.kb (Kb.of_ext (fp := fun _ => False) he) (fun _ _ h => h)
theorem RlM.lt {z bl bd : Nat} {W : World} {v : Value} {l : Lg} (h : RlM z W bl bd v l) : ∀ k, lall bl v k → k < W.heap.size := by
 rintro k (rfl | hj)
 ·exact h.str.lt
 ·exact (World.ownsRow.lt h.row k hj).2
theorem RlM.low {z bl bd : Nat} {W : World} {v : Value} {l : Lg} (h : RlM z W bl bd v l) : ∀ k, lall bl v k → z ≤ k := by
 rintro k (rfl | hj)
 ·exact h.zl
 ·exact (World.ownsRow.lt h.row k hj).1
theorem RlM.form {z bl bd : Nat} {W : World} {v : Value} {l : Lg} (h : RlM z W bl bd v l) (hne : l.segs ≠ []) : ∃ g c, v = .slice (some ⟨g, 0, none⟩) l.segs.length c ∧ l.segs.length ≤ c ∧ c ≤ maxLen := by
 rcases h.row.2 with ⟨h1, h2⟩ | ⟨g, cap, cur, h1, _, _, h3, h4, _⟩
 ·exact absurd (List.length_eq_zero_iff.1 h2) hne
 ·exact ⟨g, cap, h1, h3, h4⟩
theorem RlM.cells {z bl bd g n c : Nat} {W : World} {l : Lg} (h : RlM z W bl bd (.slice (some ⟨g, 0, none⟩) n c) l) {i : Nat} {m : WSeg} (hm : l.segs[i]? = some m) :
  W.cell? ⟨g, i * 3, none⟩ = some (.int .i64 (m.frm : Int)) ∧ W.cell? ⟨g, i * 3 + 1, none⟩ = some (.int .i64 (m.count : Int)) ∧ W.cell? ⟨g, i * 3 + 2, none⟩ = some (.int .i64 (m.bytes : Int)) := by
 rcases h.row.2 with ⟨h1, h2⟩ | ⟨g', cap, cur, h1, _, hg, h3, h4, h5, h6⟩
 ·cases h1
 ·injection h1 with e1 e2 e3
  injection e1 with e1
  injection e1 with e1 _ _
  subst e1
  have hil : i < l.segs.length := (List.getElem?_eq_some_iff.1 hm).1
  obtain ⟨c1, c2, c3⟩ := scells_get hm
  have at_ : ∀ j u, (scells l.segs)[j]? = some u → W.cell? ⟨g, j, none⟩ = some u := by
   intro j u hu
   rw [← h6] at hu
   have hj : j < l.segs.length * 3 := by
    have := (List.getElem?_eq_some_iff.1 hu).1
    simp at this
    omega
   rw [List.getElem?_take_of_lt hj] at hu
   simp only [World.cell?, hg, Option.isSome_none, Bool.false_eq_true, if_false]
   rw [← Array.getElem?_toList, hu]
  exact ⟨at_ _ _ c1, at_ _ _ c2, at_ _ _ c3⟩
theorem RlM.ne {z bl bd g n c : Nat} {W : World} {l : Lg} (h : RlM z W bl bd (.slice (some ⟨g, 0, none⟩) n c) l) : g ≠ bl := by
 obtain ⟨cur, hb⟩ := row_type h.row (j := g) rfl
 rintro rfl
 have := h.str
 unfold BlkT at this
 rw [this] at hb
 injection hb with hb
 injection hb with _ hb
 revert hb
 decide
/-- The disk's blocks are no log's. -/
theorem RlM.disk {z z' bl bd br : Nat} {W : World} {v : Value} {l : Lg} {d : Dk} {s : RSt} (h : RlM z W bl bd v l) (hd : RkM z' W br s d) : ∀ k, lall bl v k → ¬ rall br s k := by
 have key : ∀ k T, (∃ cur fz, W.heap[k]? = some (.cells cur T fz)) → (T = 63 ∨ T = 96) → ¬ rall br s k := by
  rintro k T ⟨cur, fz, hk⟩ hT
  rintro (rfl | hj | ⟨m, hm, hj⟩)
  ·have hb := hd.str
   unfold BlkT at hb
   rw [hb] at hk
   injection hk with hk
   injection hk with _ hk
   rw [← hk] at hT
   revert hT
   decide
  ·obtain ⟨cur2, h2⟩ := row_type hd.row hj
   rw [h2] at hk
   injection hk with hk
   injection hk with _ hk
   rw [← hk] at hT
   revert hT
   decide
  ·obtain ⟨_, C, fz', h2⟩ := (hd.bytes m hm).typed k hj
   rw [h2] at hk
   injection hk with hk
   injection hk with _ hk
   rw [← hk] at hT
   revert hT
   decide
 rintro k (rfl | hj)
 ·exact key _ _ ⟨_, _, h.str⟩ (.inl rfl)
 ·obtain ⟨cur, hb⟩ := row_type h.row hj
  exact key _ _ ⟨_, _, hb⟩ (.inr rfl)
/-- A field of the log is written. -/
theorem RlM.put {z bl bd : Nat} {W : World} {v : Value} {l l' : Lg} (h : RlM z W bl bd v l) (i : Nat) (u : Value) (hc : (rlstr v bd l).set i u = rlstr v bd l') (hs : l'.segs = l.segs) : RlM z (W.setCell ⟨bl, i, none⟩ u) bl bd v l' := by
 have hset := h.str.set i u
 rw [hc] at hset
 refine ⟨hset, ?_, h.zl⟩
 rw [hs]
 refine row_kept h.row (Kb.set (fun k => k = bl) W bl i u rfl) fun j hj e => ?_
 obtain ⟨cur, hb⟩ := row_type h.row hj
 subst e
 have := h.str
 unfold BlkT at this
 rw [this] at hb
 injection hb with hb
 injection hb with _ hb
 revert hb
 decide
/-- Another row of segments. -/
theorem RlM.swap {z bl bd : Nat} {W : World} {v v' : Value} {l l' : Lg} (h : BlkT W bl 63 (rlstr v bd l)) (hz : z ≤ bl) (hr : W.ownsRow z 96 3 v' l'.segs.length (scells l'.segs)) (hc : l'.size = l.size ∧ l'.sure = l.sure ∧ l'.fails = l.fails) : RlM z (W.setCell ⟨bl, 2, none⟩ v') bl bd v' l' := by
 have hset := h.set 2 v'
 have e : (rlstr v bd l).set 2 v' = rlstr v' bd l' := by unfold rlstr; rw [hc.1, hc.2.1, hc.2.2]; rfl
 rw [e] at hset
 refine ⟨hset, ?_, hz⟩
 refine row_kept hr (Kb.set (fun k => k = bl) W bl 2 v' rfl) fun j hj e => ?_
 obtain ⟨cur, hb⟩ := row_type hr hj
 subst e
 unfold BlkT at h
 rw [h] at hb
 injection hb with hb
 injection hb with _ hb
 revert hb
 decide
/-- A cell of a segment is written. -/
theorem RlM.sput {z bl bd g n c : Nat} {W : World} {l l' : Lg} (h : RlM z W bl bd (.slice (some ⟨g, 0, none⟩) n c) l) (j : Nat) (u : Value) (hc : (scells l.segs).set j u = scells l'.segs) (hl : l'.segs.length = l.segs.length) (hf : l'.size = l.size ∧ l'.sure = l.sure ∧ l'.fails = l.fails) :
  RlM z (W.setCell ⟨g, j, none⟩ u) bl bd (.slice (some ⟨g, 0, none⟩) n c) l' := by
 have hn : n = l.segs.length := by
  rcases h.row.2 with ⟨h1, _⟩ | ⟨_, _, _, h1, _⟩
  ·cases h1
  ·injection h1
 subst hn
 have hst := (h.row.stored j u).1
 rw [hc] at hst
 refine ⟨?_, by rw [hl]; exact hst, h.zl⟩
 have : rlstr (.slice (some ⟨g, 0, none⟩) l.segs.length c) bd l' = rlstr (.slice (some ⟨g, 0, none⟩) l.segs.length c) bd l := by unfold rlstr; rw [hf.1, hf.2.1, hf.2.2]
 rw [this]
 exact h.str.kb (Kb.set (fun k => k = g) W g j u rfl) (fun e => h.ne e.symm)


/-! ### The document's disk and its log -/
structure Rx (W0 W : World) (br bl : Nat) (s : RSt) (d : Dk) (v : Value) (l : Lg) : Prop where
 hd : RkM W0.heap.size W br s d
 hl : RlM W0.heap.size W bl br v l
 hx : Ext W0 W
def rfp (br bl : Nat) (s : RSt) (v : Value) (k : Nat) : Prop := rall br s k ∨ lall bl v k
theorem Rx.ext {W0 W w : World} {br bl : Nat} {s : RSt} {d : Dk} {v : Value} {l : Lg} (h : Rx W0 W br bl s d v l) (k : Ext W w) : Rx W0 w br bl s d v l := ⟨h.hd.ext k, h.hl.ext k, h.hx.trans k⟩
theorem Rx.low {W0 W : World} {br bl : Nat} {s : RSt} {d : Dk} {v : Value} {l : Lg} (h : Rx W0 W br bl s d v l) : ∀ k, rfp br bl s v k → W0.heap.size ≤ k := fun k hk => hk.elim (h.hd.low k) (h.hl.low k)
theorem Rx.lt {W0 W : World} {br bl : Nat} {s : RSt} {d : Dk} {v : Value} {l : Lg} (h : Rx W0 W br bl s d v l) : ∀ k, rfp br bl s v k → k < W.heap.size := fun k hk => hk.elim (h.hd.lt k) (h.hl.lt k)
/-- What others write. -/
theorem Rx.other {W0 W w : World} {br bl : Nat} {s : RSt} {d : Dk} {v : Value} {l : Lg} {fp : Nat → Prop} (h : Rx W0 W br bl s d v l) (k : Kb fp W w) (hn : ∀ j, rfp br bl s v j → ¬ fp j) (hx : Ext W0 w) : Rx W0 w br bl s d v l :=
 ⟨h.hd.kb k (fun j hj => hn j (.inl hj)), h.hl.kb k (fun j hj => hn j (.inr hj)), hx⟩
/-- A step of the disk alone. -/
theorem Rx.disk {W0 W w : World} {br bl : Nat} {s s' : RSt} {d d' : Dk} {v : Value} {l : Lg} (h : Rx W0 W br bl s d v l) (hs : RkS W0.heap.size W w br s d s' d') :
  Rx W0 w br bl s' d' v l ∧ Cont (rfp br bl s v) W (rfp br bl s' v) w :=
 ⟨⟨hs.rk, h.hl.kb hs.kb (h.hl.disk h.hd), hs.kb.ext h.hx (fun b hb => h.hd.low b hb)⟩, hs.kb.mono (fun b hb => .inl hb), fun k hk => hk.elim (fun hk => (hs.fp k hk).imp .inl id) (fun hk => .inl (.inr hk))⟩
/-- The log's own blocks are written. -/
theorem Rx.put {W0 W w : World} {br bl : Nat} {s : RSt} {d : Dk} {v v' : Value} {l l' : Lg} (h : Rx W0 W br bl s d v l) (hl : RlM W0.heap.size w bl br v' l') (k : Kb (lall bl v) W w) (hf : ∀ j, lall bl v' j → lall bl v j ∨ W.heap.size ≤ j) :
  Rx W0 w br bl s d v' l' ∧ Cont (rfp br bl s v) W (rfp br bl s v') w := by
 refine ⟨⟨h.hd.kb k (fun j hj hq => h.hl.disk h.hd j hq hj), hl, k.ext h.hx (fun b hb => h.hl.low b hb)⟩, k.mono fun b hb => .inr hb, ?_⟩
 rintro j (hj | hj)
 ·exact .inl (.inl hj)
 ·exact (hf j hj).imp .inr id
def FFr (W : World) (br : Nat) (s : RSt) (k : Nat) : Prop := rall br s k ∨ W.heap.size ≤ k
theorem Rx.log {W0 W w : World} {br bl : Nat} {s : RSt} {d : Dk} {v : Value} {l : Lg} (h : Rx W0 W br bl s d v l) (k : Kb (FFr W br s) W w) : RlM W0.heap.size w bl br v l :=
 h.hl.kb k (fun j hj hq => hq.elim (h.hl.disk h.hd j hj) (fun hs => Nat.not_lt.2 hs (h.hl.lt j hj)))
theorem Rx.ext_ {W0 W w : World} {br bl : Nat} {s : RSt} {d : Dk} {v : Value} {l : Lg} (h : Rx W0 W br bl s d v l) (k : Kb (FFr W br s) W w) : Ext W0 w :=
 k.ext h.hx (fun b hb => hb.elim (h.hd.low b) (fun hs => Nat.le_trans h.hx.size hs))
theorem Rx.diskF {W0 W w : World} {br bl : Nat} {s s' : RSt} {d d' : Dk} {v : Value} {l : Lg} (h : Rx W0 W br bl s d v l) (k : Kb (FFr W br s) W w)
  (hd : RkM W0.heap.size w br s' d') (hf : ∀ k, rall br s' k → FFr W br s k) : Rx W0 w br bl s' d' v l ∧ Cont (rfp br bl s v) W (rfp br bl s' v) w := by
 refine ⟨⟨hd, h.log k, h.ext_ k⟩, ⟨k.os, k.tape, k.output, k.size, fun b hb hn => k.block b hb fun hq => hq.elim (fun h => hn (.inl h)) (fun hs => Nat.not_lt.2 hs hb)⟩, fun b hb => ?_⟩
 rcases hb with hb | hb
 ·exact (hf b hb).imp .inl id
 ·exact .inl (.inr hb)
end Go.Proofs.YtagghghoimpofaaGreatDoor

/-
 Layer 16: the document's log: what is read of it.
-/
namespace Go.Proofs.YtagghghoimpofaaGreatDoor
open Go Go.RowKit Mono
set_option linter.unusedVariables false
set_option linter.unusedSimpArgs false
set_option maxRecDepth 100000
set_option maxHeartbeats 4000000

theorem RlM.slice {z bl bd : Nat} {W : World} {v : Value} {l : Lg} (h : RlM z W bl bd v l) (hne : l.segs ≠ []) : ∃ g c, v = .slice (some ⟨g, 0, none⟩) l.segs.length c ∧ l.segs.length ≤ 9223372036854775807 := by
 obtain ⟨g, c, hv, h1, h2⟩ := h.form hne
 unfold maxLen at h2
 exact ⟨g, c, hv, by omega⟩
theorem index_rseg {w : World} {o : Oper} {f : Operand → Value} {x y : Operand} {b c n i : Nat} (hop : o.op = .indexAddr 61 x y)
  (hx : f x = .slice (some ⟨b, 0, none⟩) n c) (hy : f y = .int .i64 (i : Int)) (hi : i < n) :
  (execOp f o).run Tryz.prog w = .ok (.value (.pointer (some ⟨b, i * 3, none⟩))) w := by
 have hi' : (i : Int) < (n : Int) := by omega
 have h0 : (0 : Int) ≤ (i : Int) := by omega
 have hk : (sizeOf 96).run Tryz.prog w = .ok 3 w := by kernel_rfl
 simp [execOp, hop, hx, hy, Instr.indexAt, run_underlying Tryz.underlying61, hi', h0, hk, add_at, go_sem]
 intro h
 omega
theorem rldid_any (p : Value) (n : Nat) (W : World) : Calls Tryz.prog 71 #[p, .int .i64 (n : Int)] W fun e w' => e = .returned (.int .i64 (didE n : Int)) ∧ W = w' := by
 go_enter Tryz.func71, Tryz.ntmps71
 by_cases h : n = 3
 ·subst h
  go_wp2_with fail
  go_ret
  exact ⟨by simp [didE], rfl⟩
 ·have h1 : ¬ (n : Int) = 3 := by omega
  go_wp2_with fail
  go_ret
  exact ⟨by simp [didE, h], rfl⟩
theorem rlOn_any {z bl br : Nat} {v : Value} {W : World} {s : RSt} {d : Dk} {l : Lg} (hd : RkM z W br s d) (h : RlM z W bl br v l) :
  Calls Tryz.prog 25 #[.pointer (some ⟨bl, 0, none⟩)] W fun e w' => e = .returned (.bool (decide (wFault d l = 0))) ∧ Ext W w' := by
 have hb := Lib.hid h.str.blk
 have hr := Lib.hid hd.str.blk
 have hv : decide (wFault d l = 0) = (d.on && decide (d.fails = l.fails)) := by
  unfold wFault
  cases d.on <;> by_cases hf : d.fails = l.fails <;> simp [hf]
 rw [hv]
 clear h hd hv
 go_enter Tryz.func25, Tryz.ntmps25
 cases hon : d.on
 ·go_wp2_with fail
  refine wp_region_mono (by kernel_rfl) (by kernel_rfl) ?_
  refine tele_move rfl (.inl rfl) rfl (isV (.pointer (some ⟨bl, 0, none⟩))) (fun ρ w' h => h) ?_
  refine tele_val rfl (.pointer (some ⟨bl, 0, none⟩)) (fun _ _ _ => rfl) ?_ ?_
  ·rintro ρ w' he ⟨h3, -⟩
   have e3 : ρ 3 = (.pointer (some ⟨bl, 0, none⟩)) := h3
   simp [execOp, evR, e3, go_sem]
  refine tele_val rfl (.pointer (some ⟨bl, 0, none⟩)) (fun _ _ _ => rfl) ?_ ?_
  ·rintro ρ w' he ⟨h4, -⟩
   have e4 : ρ 4 = (.pointer (some ⟨bl, 0, none⟩)) := h4
   simp [execOp, evR, e4, go_sem]
  refine tele_val rfl (.pointer (some ⟨br, 0, none⟩)) (fun _ _ _ => rfl) ?_ ?_
  ·rintro ρ w' he ⟨h5, -⟩
   have e5 : ρ 5 = (.pointer (some ⟨bl, 0, none⟩)) := h5
   have c := hb.out.ext he
   have c := c.cell (i := 0) rfl
   simp [execOp, evR, e5, c, go_sem]
  refine tele_val rfl (.pointer (some ⟨br, 0, none⟩)) (fun _ _ _ => rfl) ?_ ?_
  ·rintro ρ w' he ⟨h6, -⟩
   have e6 : ρ 6 = (.pointer (some ⟨br, 0, none⟩)) := h6
   simp [execOp, evR, e6, go_sem]
  refine tele_val rfl (.pointer (some ⟨br, 2, none⟩)) (fun _ _ _ => rfl) ?_ ?_
  ·rintro ρ w' he ⟨h7, -⟩
   have e7 : ρ 7 = (.pointer (some ⟨br, 0, none⟩)) := h7
   simp [execOp, evR, e7, go_sem]
  refine tele_val rfl (.bool true) (fun _ _ _ => rfl) ?_ ?_
  ·rintro ρ w' he ⟨h8, -⟩
   have e8 : ρ 8 = (.pointer (some ⟨br, 2, none⟩)) := h8
   have c := hr.out.ext he
   have c := c.cell (i := 2) rfl
   simp [execOp, evR, e8, c, hon, go_sem]
  refine tele_val rfl (.bool false) (fun _ _ _ => rfl) ?_ ?_
  ·rintro ρ w' he ⟨h9, -⟩
   have e9 : ρ 9 = (.bool true) := h9
   simp [execOp, evR, e9, go_sem]
  refine tele_move rfl (.inl rfl) rfl (isV (.bool false)) (fun ρ w' h => h) ?_
  refine tele_pass rfl (fun ρ w' hk => by obtain ⟨_, hg, -⟩ := hk; have eg : ρ 11 = (.bool false) := hg; simp [wantedR, Region.wanted, asBoolR, eg]) ?_
  refine tele_pass rfl (fun ρ w' hk => by obtain ⟨_, hg, -⟩ := hk; have eg : ρ 11 = (.bool false) := hg; simp [wantedR, Region.wanted, asBoolR, eg]) ?_
  refine tele_pass rfl (fun ρ w' hk => by obtain ⟨_, hg, -⟩ := hk; have eg : ρ 11 = (.bool false) := hg; simp [wantedR, Region.wanted, asBoolR, eg]) ?_
  refine tele_pass rfl (fun ρ w' hk => by obtain ⟨_, hg, -⟩ := hk; have eg : ρ 11 = (.bool false) := hg; simp [wantedR, Region.wanted, asBoolR, eg]) ?_
  refine tele_pass rfl (fun ρ w' hk => by obtain ⟨_, hg, -⟩ := hk; have eg : ρ 11 = (.bool false) := hg; simp [wantedR, Region.wanted, asBoolR, eg]) ?_
  refine tele_pass rfl (fun ρ w' hk => by obtain ⟨_, hg, -⟩ := hk; have eg : ρ 11 = (.bool false) := hg; simp [wantedR, Region.wanted, asBoolR, eg]) ?_
  refine tele_pass rfl (fun ρ w' hk => by obtain ⟨_, hg, -⟩ := hk; have eg : ρ 11 = (.bool false) := hg; simp [wantedR, Region.wanted, asBoolR, eg]) ?_
  refine tele_pass rfl (fun ρ w' hk => by obtain ⟨_, hg, -⟩ := hk; have eg : ρ 11 = (.bool false) := hg; simp [wantedR, Region.wanted, asBoolR, eg]) ?_
  refine tele_pass rfl (fun ρ w' hk => by obtain ⟨_, hg, -⟩ := hk; have eg : ρ 11 = (.bool false) := hg; simp [wantedR, Region.wanted, asBoolR, eg]) ?_
  refine tele_pass rfl (fun ρ w' hk => by obtain ⟨_, hg, -⟩ := hk; have eg : ρ 11 = (.bool false) := hg; simp [wantedR, Region.wanted, asBoolR, eg]) ?_
  refine tele_pass rfl (fun ρ w' hk => by obtain ⟨_, hg, -⟩ := hk; have eg : ρ 11 = (.bool false) := hg; simp [wantedR, Region.wanted, asBoolR, eg]) ?_
  refine tele_pass rfl (fun ρ w' hk => by obtain ⟨_, _, hg, -⟩ := hk; have eg : ρ 11 = (.bool false) := hg; simp [wantedR, Region.wanted, asBoolR, eg]) ?_
  refine tele_val rfl (.bool false) (fun _ _ _ => rfl) ?_ ?_
  ·rintro ρ w' he ⟨h11, h23, -⟩
   have e11 : ρ 11 = (.bool false) := h11
   have e23 : ρ 23 = undef := h23
   simp [execOp, evR, e11, e23, go_sem]
  refine tele_move rfl (.inr rfl) rfl (isV (.bool false)) (fun ρ w' h => h) ?_
  refine tele_nil ?_
  rintro ρ w' hext ⟨f2, f24, f23, f22, f21, f20, f19, f18, f17, f16, f15, f14, f13, f12, f11, f10, f9, f8, f7, f6, f5, f4, f3, -⟩
  replace f3 : ρ 3 = (.pointer (some ⟨bl, 0, none⟩)) := f3
  replace f4 : ρ 4 = (.pointer (some ⟨bl, 0, none⟩)) := f4
  replace f5 : ρ 5 = (.pointer (some ⟨bl, 0, none⟩)) := f5
  replace f6 : ρ 6 = (.pointer (some ⟨br, 0, none⟩)) := f6
  replace f7 : ρ 7 = (.pointer (some ⟨br, 0, none⟩)) := f7
  replace f8 : ρ 8 = (.pointer (some ⟨br, 2, none⟩)) := f8
  replace f9 : ρ 9 = (.bool true) := f9
  replace f10 : ρ 10 = (.bool false) := f10
  replace f11 : ρ 11 = (.bool false) := f11
  replace f12 : ρ 12 = undef := f12
  replace f13 : ρ 13 = undef := f13
  replace f14 : ρ 14 = undef := f14
  replace f15 : ρ 15 = undef := f15
  replace f16 : ρ 16 = undef := f16
  replace f17 : ρ 17 = undef := f17
  replace f18 : ρ 18 = undef := f18
  replace f19 : ρ 19 = undef := f19
  replace f20 : ρ 20 = undef := f20
  replace f21 : ρ 21 = undef := f21
  replace f22 : ρ 22 = undef := f22
  replace f23 : ρ 23 = undef := f23
  replace f24 : ρ 24 = (.bool false) := f24
  replace f2 : ρ 2 = (.bool false) := f2
  simp only [puts, Act.put, List.setIfInBounds_toArray, List.set_cons_zero, List.set_cons_succ]
  rw [f2]
  go_wp2_with fail
  go_ret
  exact ⟨by simp, by assumption⟩
 ·go_wp2_with fail
  refine wp_region_mono (by kernel_rfl) (by kernel_rfl) ?_
  refine tele_move rfl (.inl rfl) rfl (isV (.pointer (some ⟨bl, 0, none⟩))) (fun ρ w' h => h) ?_
  refine tele_val rfl (.pointer (some ⟨bl, 0, none⟩)) (fun _ _ _ => rfl) ?_ ?_
  ·rintro ρ w' he ⟨h3, -⟩
   have e3 : ρ 3 = (.pointer (some ⟨bl, 0, none⟩)) := h3
   simp [execOp, evR, e3, go_sem]
  refine tele_val rfl (.pointer (some ⟨bl, 0, none⟩)) (fun _ _ _ => rfl) ?_ ?_
  ·rintro ρ w' he ⟨h4, -⟩
   have e4 : ρ 4 = (.pointer (some ⟨bl, 0, none⟩)) := h4
   simp [execOp, evR, e4, go_sem]
  refine tele_val rfl (.pointer (some ⟨br, 0, none⟩)) (fun _ _ _ => rfl) ?_ ?_
  ·rintro ρ w' he ⟨h5, -⟩
   have e5 : ρ 5 = (.pointer (some ⟨bl, 0, none⟩)) := h5
   have c := hb.out.ext he
   have c := c.cell (i := 0) rfl
   simp [execOp, evR, e5, c, go_sem]
  refine tele_val rfl (.pointer (some ⟨br, 0, none⟩)) (fun _ _ _ => rfl) ?_ ?_
  ·rintro ρ w' he ⟨h6, -⟩
   have e6 : ρ 6 = (.pointer (some ⟨br, 0, none⟩)) := h6
   simp [execOp, evR, e6, go_sem]
  refine tele_val rfl (.pointer (some ⟨br, 2, none⟩)) (fun _ _ _ => rfl) ?_ ?_
  ·rintro ρ w' he ⟨h7, -⟩
   have e7 : ρ 7 = (.pointer (some ⟨br, 0, none⟩)) := h7
   simp [execOp, evR, e7, go_sem]
  refine tele_val rfl (.bool false) (fun _ _ _ => rfl) ?_ ?_
  ·rintro ρ w' he ⟨h8, -⟩
   have e8 : ρ 8 = (.pointer (some ⟨br, 2, none⟩)) := h8
   have c := hr.out.ext he
   have c := c.cell (i := 2) rfl
   simp [execOp, evR, e8, c, hon, go_sem]
  refine tele_val rfl (.bool true) (fun _ _ _ => rfl) ?_ ?_
  ·rintro ρ w' he ⟨h9, -⟩
   have e9 : ρ 9 = (.bool false) := h9
   simp [execOp, evR, e9, go_sem]
  refine tele_move rfl (.inl rfl) rfl (isV (.bool true)) (fun ρ w' h => h) ?_
  refine tele_val rfl ((.pointer (some ⟨bl, 0, none⟩))) (fun ρ w' hk => by obtain ⟨_, hg, -⟩ := hk; have eg : ρ 11 = (.bool true) := hg; simp [wantedR, Region.wanted, asBoolR, eg]) ?_ ?_
  ·rintro ρ w' he ⟨h0, -⟩
   have e0 : ρ 0 = (.pointer (some ⟨bl, 0, none⟩)) := h0
   simp [execOp, evR, e0]
  refine tele_val rfl (.pointer (some ⟨bl, 0, none⟩)) (fun ρ w' hk => by obtain ⟨_, hg, -⟩ := hk; have eg : ρ 11 = (.bool true) := hg; simp [wantedR, Region.wanted, asBoolR, eg]) ?_ ?_
  ·rintro ρ w' he ⟨h12, -⟩
   have e12 : ρ 12 = (.pointer (some ⟨bl, 0, none⟩)) := h12
   simp [execOp, evR, e12, go_sem]
  refine tele_val rfl (.pointer (some ⟨bl, 0, none⟩)) (fun ρ w' hk => by obtain ⟨_, hg, -⟩ := hk; have eg : ρ 11 = (.bool true) := hg; simp [wantedR, Region.wanted, asBoolR, eg]) ?_ ?_
  ·rintro ρ w' he ⟨h13, -⟩
   have e13 : ρ 13 = (.pointer (some ⟨bl, 0, none⟩)) := h13
   simp [execOp, evR, e13, go_sem]
  refine tele_val rfl (.pointer (some ⟨br, 0, none⟩)) (fun ρ w' hk => by obtain ⟨_, hg, -⟩ := hk; have eg : ρ 11 = (.bool true) := hg; simp [wantedR, Region.wanted, asBoolR, eg]) ?_ ?_
  ·rintro ρ w' he ⟨h14, -⟩
   have e14 : ρ 14 = (.pointer (some ⟨bl, 0, none⟩)) := h14
   have c := hb.out.ext he
   have c := c.cell (i := 0) rfl
   simp [execOp, evR, e14, c, go_sem]
  refine tele_val rfl (.pointer (some ⟨br, 0, none⟩)) (fun ρ w' hk => by obtain ⟨_, hg, -⟩ := hk; have eg : ρ 11 = (.bool true) := hg; simp [wantedR, Region.wanted, asBoolR, eg]) ?_ ?_
  ·rintro ρ w' he ⟨h15, -⟩
   have e15 : ρ 15 = (.pointer (some ⟨br, 0, none⟩)) := h15
   simp [execOp, evR, e15, go_sem]
  refine tele_val rfl (.pointer (some ⟨br, 3, none⟩)) (fun ρ w' hk => by obtain ⟨_, hg, -⟩ := hk; have eg : ρ 11 = (.bool true) := hg; simp [wantedR, Region.wanted, asBoolR, eg]) ?_ ?_
  ·rintro ρ w' he ⟨h16, -⟩
   have e16 : ρ 16 = (.pointer (some ⟨br, 0, none⟩)) := h16
   simp [execOp, evR, e16, go_sem]
  refine tele_val rfl (.int .i64 (d.fails : Int)) (fun ρ w' hk => by obtain ⟨_, hg, -⟩ := hk; have eg : ρ 11 = (.bool true) := hg; simp [wantedR, Region.wanted, asBoolR, eg]) ?_ ?_
  ·rintro ρ w' he ⟨h17, -⟩
   have e17 : ρ 17 = (.pointer (some ⟨br, 3, none⟩)) := h17
   have c := hr.out.ext he
   have c := c.cell (i := 3) rfl
   simp [execOp, evR, e17, c, go_sem]
  refine tele_val rfl ((.pointer (some ⟨bl, 0, none⟩))) (fun ρ w' hk => by obtain ⟨_, hg, -⟩ := hk; have eg : ρ 11 = (.bool true) := hg; simp [wantedR, Region.wanted, asBoolR, eg]) ?_ ?_
  ·rintro ρ w' he ⟨h0, -⟩
   have e0 : ρ 0 = (.pointer (some ⟨bl, 0, none⟩)) := h0
   simp [execOp, evR, e0]
  refine tele_val rfl (.pointer (some ⟨bl, 0, none⟩)) (fun ρ w' hk => by obtain ⟨_, hg, -⟩ := hk; have eg : ρ 11 = (.bool true) := hg; simp [wantedR, Region.wanted, asBoolR, eg]) ?_ ?_
  ·rintro ρ w' he ⟨h19, -⟩
   have e19 : ρ 19 = (.pointer (some ⟨bl, 0, none⟩)) := h19
   simp [execOp, evR, e19, go_sem]
  refine tele_val rfl (.pointer (some ⟨bl, 4, none⟩)) (fun ρ w' hk => by obtain ⟨_, hg, -⟩ := hk; have eg : ρ 11 = (.bool true) := hg; simp [wantedR, Region.wanted, asBoolR, eg]) ?_ ?_
  ·rintro ρ w' he ⟨h20, -⟩
   have e20 : ρ 20 = (.pointer (some ⟨bl, 0, none⟩)) := h20
   simp [execOp, evR, e20, go_sem]
  refine tele_val rfl (.int .i64 (l.fails : Int)) (fun ρ w' hk => by obtain ⟨_, hg, -⟩ := hk; have eg : ρ 11 = (.bool true) := hg; simp [wantedR, Region.wanted, asBoolR, eg]) ?_ ?_
  ·rintro ρ w' he ⟨h21, -⟩
   have e21 : ρ 21 = (.pointer (some ⟨bl, 4, none⟩)) := h21
   have c := hb.out.ext he
   have c := c.cell (i := 4) rfl
   simp [execOp, evR, e21, c, go_sem]
  refine tele_val rfl (.bool (decide (d.fails = l.fails))) (fun ρ w' hk => by obtain ⟨_, _, hg, -⟩ := hk; have eg : ρ 11 = (.bool true) := hg; simp [wantedR, Region.wanted, asBoolR, eg]) ?_ ?_
  ·rintro ρ w' he ⟨h18, h22, -⟩
   have e18 : ρ 18 = (.int .i64 (d.fails : Int)) := h18
   have e22 : ρ 22 = (.int .i64 (l.fails : Int)) := h22
   simp [execOp, evR, e18, e22, go_sem]
   rw [Bool.eq_iff_iff]
   simp
   omega
  refine tele_val rfl (.bool (decide (d.fails = l.fails))) (fun _ _ _ => rfl) ?_ ?_
  ·rintro ρ w' he ⟨h11, h23, -⟩
   have e11 : ρ 11 = (.bool true) := h11
   have e23 : ρ 23 = (.bool (decide (d.fails = l.fails))) := h23
   simp [execOp, evR, e11, e23, go_sem]
  refine tele_move rfl (.inr rfl) rfl (isV (.bool (decide (d.fails = l.fails)))) (fun ρ w' h => h) ?_
  refine tele_nil ?_
  rintro ρ w' hext ⟨f2, f24, f23, f22, f21, f20, f19, f18, f17, f16, f15, f14, f13, f12, f11, f10, f9, f8, f7, f6, f5, f4, f3, -⟩
  replace f3 : ρ 3 = (.pointer (some ⟨bl, 0, none⟩)) := f3
  replace f4 : ρ 4 = (.pointer (some ⟨bl, 0, none⟩)) := f4
  replace f5 : ρ 5 = (.pointer (some ⟨bl, 0, none⟩)) := f5
  replace f6 : ρ 6 = (.pointer (some ⟨br, 0, none⟩)) := f6
  replace f7 : ρ 7 = (.pointer (some ⟨br, 0, none⟩)) := f7
  replace f8 : ρ 8 = (.pointer (some ⟨br, 2, none⟩)) := f8
  replace f9 : ρ 9 = (.bool false) := f9
  replace f10 : ρ 10 = (.bool true) := f10
  replace f11 : ρ 11 = (.bool true) := f11
  replace f12 : ρ 12 = (.pointer (some ⟨bl, 0, none⟩)) := f12
  replace f13 : ρ 13 = (.pointer (some ⟨bl, 0, none⟩)) := f13
  replace f14 : ρ 14 = (.pointer (some ⟨bl, 0, none⟩)) := f14
  replace f15 : ρ 15 = (.pointer (some ⟨br, 0, none⟩)) := f15
  replace f16 : ρ 16 = (.pointer (some ⟨br, 0, none⟩)) := f16
  replace f17 : ρ 17 = (.pointer (some ⟨br, 3, none⟩)) := f17
  replace f18 : ρ 18 = (.int .i64 (d.fails : Int)) := f18
  replace f19 : ρ 19 = (.pointer (some ⟨bl, 0, none⟩)) := f19
  replace f20 : ρ 20 = (.pointer (some ⟨bl, 0, none⟩)) := f20
  replace f21 : ρ 21 = (.pointer (some ⟨bl, 4, none⟩)) := f21
  replace f22 : ρ 22 = (.int .i64 (l.fails : Int)) := f22
  replace f23 : ρ 23 = (.bool (decide (d.fails = l.fails))) := f23
  replace f24 : ρ 24 = (.bool (decide (d.fails = l.fails))) := f24
  replace f2 : ρ 2 = (.bool (decide (d.fails = l.fails))) := f2
  simp only [puts, Act.put, List.setIfInBounds_toArray, List.set_cons_zero, List.set_cons_succ]
  rw [f2]
  go_wp2_with fail
  go_ret
  exact ⟨by simp, by assumption⟩
theorem rlFirst_any {z bl br : Nat} {v : Value} {W : World} {l : Lg} (h : RlM z W bl br v l) (hne : l.segs ≠ []) :
  Calls Tryz.prog 21 #[.pointer (some ⟨bl, 0, none⟩)] W fun e w' => e = .returned (.int .i64 (l.first : Int)) ∧ W = w' := by
 obtain ⟨g, c, rfl, h9⟩ := h.slice hne
 have hp := segs_pos hne
 obtain ⟨m, hm⟩ : ∃ m, l.segs[0]? = some m := ⟨_, List.getElem?_eq_getElem hp⟩
 have e0 := h.str.blk.cell (i := 2) rfl
 have c0 := (h.cells hm).1
 have hf : l.first = m.frm := by
  unfold Lg.first
  cases hs : l.segs with
  | nil => exact absurd hs hne
  | cons a r => rw [hs] at hm; simp at hm; rw [← hm]; rfl
 rw [hf]
 have hp1 : (0 : Int) < (l.segs.length : Int) := by omega
 simp only [Nat.zero_mul] at c0
 clear h hm hf
 go_enter Tryz.func21, Tryz.ntmps21
 go_wp2_with fail
 go_ret
 exact ⟨rfl, rfl⟩
theorem rlNext_any {z bl br : Nat} {v : Value} {W : World} {l : Lg} (h : RlM z W bl br v l) (hne : l.segs ≠ []) (hb : l.next ≤ 9000000000000000000) :
  Calls Tryz.prog 22 #[.pointer (some ⟨bl, 0, none⟩)] W fun e w' => e = .returned (.int .i64 (l.next : Int)) ∧ Ext W w' := by
 obtain ⟨g, c, rfl, h9⟩ := h.slice hne
 have hp := segs_pos hne
 have hat := Lg.last_at hne
 obtain ⟨i, hi⟩ : ∃ i, i + 1 = l.segs.length := ⟨l.segs.length - 1, by omega⟩
 rw [show l.segs.length - 1 = i by omega] at hat
 have e0 := h.str.blk.cell (i := 2) rfl
 obtain ⟨c0, c1, c2⟩ := h.cells hat
 have hw : IntKind.i64.wrap ((l.segs.length : Int) - 1) = (i : Int) := by rw [IntWalk.i64_in _ (by omega)]; omega
 have hlt : (i : Int) < (l.segs.length : Int) := by omega
 have hs : IntKind.i64.wrap ((l.last.frm : Int) + (l.last.count : Int)) = (l.next : Int) := by
  unfold Lg.next at hb ⊢
  rw [IntWalk.i64_in _ (by omega)]
  omega
 have hg := h.lt g (.inr rfl)
 have hbl := h.lt bl (.inl rfl)
 generalize l.next = nx at *
 generalize l.last = la at *
 have x0 := ext_alloc W (.cells #[.int .i64 0, .int .i64 0, .int .i64 0] 96)
 have a0 := (x0.cell (p := ⟨bl, 2, none⟩) hbl).trans e0
 have a1 := (x0.cell (p := ⟨g, i * 3, none⟩) hg).trans c0
 have a2 := (x0.cell (p := ⟨g, i * 3 + 1, none⟩) hg).trans c1
 have a3 := (x0.cell (p := ⟨g, i * 3 + 2, none⟩) hg).trans c2
 clear h hat x0
 go_enter Tryz.func22, Tryz.ntmps22
 go_wp2_with fail
 go_region
 all_goals
  go_wp2_with fail
  go_ret
  exact ⟨rfl, (ext_alloc _ _).trans (ext_drew _)⟩
end Go.Proofs.YtagghghoimpofaaGreatDoor

/-
 Layer 16: the document's log: Sync.
-/
namespace Go.Proofs.YtagghghoimpofaaGreatDoor
open Go Go.RowKit Mono
set_option linter.unusedVariables false
set_option linter.unusedSimpArgs false
set_option maxRecDepth 100000
set_option maxHeartbeats 4000000

theorem tok_rk {z br : Nat} {W w w' : World} {d : Dk} {s : RSt} {x : Dk × Nat} {e : Ending} (he : Kb (FFr W br s) W w) (h : RkPost z w br s d x e w') :
  ∃ u, e = .returned u ∧ Kb (FFr W br s) w w' ∧ u = .int .i64 (x.2 : Int) ∧ ∃ s', RkM z w' br s' x.1 ∧ ∀ k, rall br s' k → FFr W br s k := by
 obtain ⟨s', rfl, hs⟩ := h
 refine ⟨_, rfl, hs.kb.mono fun b hb => .inl hb, rfl, s', hs.rk, fun k hk => ?_⟩
 rcases hs.fp k hk with h1 | h1
 ·exact .inl h1
 ·exact .inr (Nat.le_trans he.size h1)
theorem rlSync_any {W0 W : World} {br bl : Nat} {s : RSt} {d : Dk} {v : Value} {l : Lg} (h : Rx W0 W br bl s d v l) (hok : d.Ok) (hsm : d.Small) (hne : l.segs ≠ []) (hps : 1 ≤ l.next) (hnx : l.next ≤ 9000000000000000000) :
  Calls Tryz.prog 31 #[.pointer (some ⟨bl, 0, none⟩)] W fun e w' => e = .returned (.int .i64 ((wSync d l).2 : Int)) ∧ ∃ s' v', Rx W0 w' br bl s' (wSync d l).1.1 v' (wSync d l).1.2 ∧ Cont (rfp br bl s v) W (rfp br bl s' v') w' := by
 obtain ⟨g, c, rfl, h9⟩ := h.hl.slice hne
 have HON := Lib.hid (rlOn_any h.hd h.hl)
 have hp := segs_pos hne
 have hi2 := Lg.last_at hne
 obtain ⟨i, hi⟩ : ∃ i, i + 1 = l.segs.length := ⟨l.segs.length - 1, by omega⟩
 rw [show l.segs.length - 1 = i by omega] at hi2
 have hw : IntKind.i64.wrap ((l.segs.length : Int) - 1) = (i : Int) := by rw [IntWalk.i64_in _ (by omega)]; omega
 have hil : i < l.segs.length := by omega
 have HI2 := Lib.hid hi2
 have HC0 := Lib.hid h
 have HNE := Lib.hid hne
 have HPS := Lib.hid hps
 have HNX := Lib.hid hnx
 have HOK := Lib.hid hok
 have HSM := Lib.hid hsm
 clear hi2 hp h hne hps hnx hok hsm hi
 by_cases hn0 : wFault d l = 0
 rotate_left
 ·rw [show decide (wFault d l = 0) = false from decide_eq_false hn0] at HON
  have HW := Lib.hid (show wSync d l = ((d, l), 150) by
   have hE : wFault d l = 0 ∨ wFault d l = 150 := by unfold wFault; split; exact .inr rfl; split; exact .inr rfl; exact .inl rfl
   have hE2 : wFault d l = 150 := hE.resolve_left hn0
   unfold wSync
   rw [if_pos hn0, hE2])
  clear hn0
  go_enter Tryz.func31, Tryz.ntmps31
  go_wp2_with fail
  refine HON.out.mono ?_
  rintro e w1 ⟨rfl, hx1⟩
  go_wp2_with fail
  go_ret
  rw [HW.out]
  exact ⟨rfl, s, _, HC0.out.ext hx1, (Cont.refl fun _ h => h).ext hx1⟩
 rw [show decide (wFault d l = 0) = true from decide_eq_true hn0] at HON
 have HW := Lib.hid (show wSync d l = wSync1 d l by unfold wSync; rw [if_neg (by omega)])
 clear hn0
 go_enter Tryz.func31, Tryz.ntmps31
 go_wp2_with fail
 refine HON.out.mono ?_
 rintro e w1 ⟨rfl, hx1⟩
 have HC := Lib.hid (HC0.out.ext hx1)
 have HK := Lib.hid ((Cont.refl (fp := rfp br bl s (.slice (some ⟨g, 0, none⟩) l.segs.length c)) fun _ h => h).ext hx1)
 clear hx1 HON
 go_wp2_with fail
 refine wp_region_tok [false, false, false, false, false, false, false, false, false, false, false, false, false, false, false, false, false, false, true, true, true, false] (Kb (FFr w1 br s)) (fun c w => if c < 2 then RkM W0.heap.size w br s d else ∃ s2, RkM W0.heap.size w br s2 (dSync d (wname (l.last.frm : Int))).1 ∧ ∀ k, rall br s2 k → FFr w1 br s k) 3 (by kernel_rfl) (by kernel_rfl) (by kernel_rfl) (by kernel_rfl) (preKb' _) (Kb.of_ext (ext_drew w1)) (HC.out.hd.ext (ext_drew w1)) ?_
 refine tok_val rfl (.pointer (some ⟨bl, 0, none⟩)) (fun _ _ _ => rfl) ?_ ?_
 ·rintro ρ w' he ⟨h0, -⟩
  have e0 : ρ 0 = .pointer (some ⟨bl, 0, none⟩) := h0
  simp [execOp, evR, e0, go_sem]
 refine tok_val rfl (.pointer (some ⟨bl, 0, none⟩)) (fun _ _ _ => rfl) ?_ ?_
 ·rintro ρ w' he ⟨h0, -⟩
  have e0 : ρ 0 = .pointer (some ⟨bl, 0, none⟩) := h0
  simp [execOp, evR, e0, go_sem]
 refine tok_val rfl (.pointer (some ⟨bl, 0, none⟩)) (fun _ _ _ => rfl) ?_ ?_
 ·rintro ρ w' he ⟨h8, -⟩
  have e8 : ρ 8 = .pointer (some ⟨bl, 0, none⟩) := h8
  simp [execOp, evR, e8, go_sem]
 refine tok_val rfl (.pointer (some ⟨bl, 0, none⟩)) (fun _ _ _ => rfl) ?_ ?_
 ·rintro ρ w' he ⟨h9, -⟩
  have e9 : ρ 9 = .pointer (some ⟨bl, 0, none⟩) := h9
  simp [execOp, evR, e9, go_sem]
 refine tok_val rfl (.pointer (some ⟨br, 0, none⟩)) (fun _ _ _ => rfl) ?_ ?_
 ·rintro ρ w' he ⟨h10, -⟩
  have e10 : ρ 10 = .pointer (some ⟨bl, 0, none⟩) := h10
  have c := (HC.out.log he).str.blk.cell (i := 0) rfl
  simp [execOp, evR, e10, c, go_sem]
 refine tok_val rfl (.pointer (some ⟨bl, 0, none⟩)) (fun _ _ _ => rfl) ?_ ?_
 ·rintro ρ w' he ⟨h0, -⟩
  have e0 : ρ 0 = .pointer (some ⟨bl, 0, none⟩) := h0
  simp [execOp, evR, e0, go_sem]
 refine tok_val rfl (.pointer (some ⟨bl, 0, none⟩)) (fun _ _ _ => rfl) ?_ ?_
 ·rintro ρ w' he ⟨h12, -⟩
  have e12 : ρ 12 = .pointer (some ⟨bl, 0, none⟩) := h12
  simp [execOp, evR, e12, go_sem]
 refine tok_val rfl (.pointer (some ⟨bl, 2, none⟩)) (fun _ _ _ => rfl) ?_ ?_
 ·rintro ρ w' he ⟨h13, -⟩
  have e13 : ρ 13 = .pointer (some ⟨bl, 0, none⟩) := h13
  simp [execOp, evR, e13, go_sem]
 refine tok_val rfl (.slice (some ⟨g, 0, none⟩) l.segs.length c) (fun _ _ _ => rfl) ?_ ?_
 ·rintro ρ w' he ⟨h14, -⟩
  have e14 : ρ 14 = .pointer (some ⟨bl, 2, none⟩) := h14
  have c := (HC.out.log he).str.blk.cell (i := 2) rfl
  simp [execOp, evR, e14, c, go_sem]
 refine tok_val rfl (.pointer (some ⟨bl, 0, none⟩)) (fun _ _ _ => rfl) ?_ ?_
 ·rintro ρ w' he ⟨h0, -⟩
  have e0 : ρ 0 = .pointer (some ⟨bl, 0, none⟩) := h0
  simp [execOp, evR, e0, go_sem]
 refine tok_val rfl (.pointer (some ⟨bl, 0, none⟩)) (fun _ _ _ => rfl) ?_ ?_
 ·rintro ρ w' he ⟨h16, -⟩
  have e16 : ρ 16 = .pointer (some ⟨bl, 0, none⟩) := h16
  simp [execOp, evR, e16, go_sem]
 refine tok_val rfl (.pointer (some ⟨bl, 2, none⟩)) (fun _ _ _ => rfl) ?_ ?_
 ·rintro ρ w' he ⟨h17, -⟩
  have e17 : ρ 17 = .pointer (some ⟨bl, 0, none⟩) := h17
  simp [execOp, evR, e17, go_sem]
 refine tok_val rfl (.slice (some ⟨g, 0, none⟩) l.segs.length c) (fun _ _ _ => rfl) ?_ ?_
 ·rintro ρ w' he ⟨h18, -⟩
  have e18 : ρ 18 = .pointer (some ⟨bl, 2, none⟩) := h18
  have c := (HC.out.log he).str.blk.cell (i := 2) rfl
  simp [execOp, evR, e18, c, go_sem]
 refine tok_val rfl (.int .i64 (l.segs.length : Int)) (fun _ _ _ => rfl) ?_ ?_
 ·rintro ρ w' he ⟨h19, -⟩
  have e19 : ρ 19 = .slice (some ⟨g, 0, none⟩) l.segs.length c := h19
  simp [execOp, evR, e19, go_sem]
 refine tok_val rfl (.int .i64 (i : Int)) (fun _ _ _ => rfl) ?_ ?_
 ·rintro ρ w' he ⟨h20, -⟩
  have e20 : ρ 20 = .int .i64 (l.segs.length : Int) := h20
  simp [execOp, evR, e20, hw, go_sem]
 refine tok_val rfl (.pointer (some ⟨g, i * 3, none⟩)) (fun _ _ _ => rfl) ?_ ?_
 ·rintro ρ w' he ⟨h15, h21, -⟩
  have e15 : ρ 15 = .slice (some ⟨g, 0, none⟩) l.segs.length c := h15
  have e21 : ρ 21 = .int .i64 (i : Int) := h21
  exact index_rseg rfl e15 e21 hil
 refine tok_val rfl (.pointer (some ⟨g, i * 3, none⟩)) (fun _ _ _ => rfl) ?_ ?_
 ·rintro ρ w' he ⟨h22, -⟩
  have e22 : ρ 22 = .pointer (some ⟨g, i * 3, none⟩) := h22
  simp [execOp, evR, e22, go_sem]
 refine tok_val rfl (.int .i64 (l.last.frm : Int)) (fun _ _ _ => rfl) ?_ ?_
 ·rintro ρ w' he ⟨h23, -⟩
  have e23 : ρ 23 = .pointer (some ⟨g, i * 3, none⟩) := h23
  have c := (RlM.cells (HC.out.log he) HI2.out).1
  simp [execOp, evR, e23, c, go_sem]
 refine tok_call rfl rfl Tryz.func51 (by kernel_rfl) (fun v _ => v = .string ⟨(wname (l.last.frm : Int)).toArray⟩) (fun _ _ _ h _ => h) (fun _ _ _ => rfl) ?_ ?_
 ·rintro ρ w' he ht ⟨h24, -⟩
  have e24 : ρ 24 = .int .i64 (l.last.frm : Int) := h24
  simp only [evR, List.map_toArray, List.map_cons, List.map_nil, e24]
  have hp : RkM W0.heap.size w' br s d := ht
  refine (refWName_any ((l.last.frm : Int) : Int) w').mono ?_
  rintro e w2 ⟨rfl, hx2⟩
  exact ⟨_, rfl, Kb.of_ext hx2, rfl, hp.ext hx2⟩
 refine tok_call rfl rfl Tryz.func54 (by kernel_rfl) (fun v _ => v = .int .i64 ((dSync d (wname (l.last.frm : Int))).2 : Int)) (fun _ _ _ h _ => h) (fun _ _ _ => rfl) ?_ ?_
 ·rintro ρ w' he ht ⟨h11, h25, -⟩
  have e11 : ρ 11 = .pointer (some ⟨br, 0, none⟩) := h11
  have e25 : ρ 25 = .string ⟨(wname (l.last.frm : Int)).toArray⟩ := h25
  simp only [evR, List.map_toArray, List.map_cons, List.map_nil, e11, e25]
  have hp : RkM W0.heap.size w' br s d := ht
  refine (rsync_any hp HOK.out HSM.out (HC.out.ext_ he).size (wname (l.last.frm : Int))).mono ?_
  rintro e w2 hq
  exact tok_rk he hq
 refine tok_call rfl rfl Tryz.func71 (by kernel_rfl) (fun v _ => v = .int .i64 (didE (dSync d (wname (l.last.frm : Int))).2 : Int)) (fun _ _ _ h _ => h) (fun _ _ _ => rfl) ?_ ?_
 ·rintro ρ w' he ht ⟨h7, h26, -⟩
  have e7 : ρ 7 = .pointer (some ⟨bl, 0, none⟩) := h7
  have e26 : ρ 26 = .int .i64 ((dSync d (wname (l.last.frm : Int))).2 : Int) := h26
  simp only [evR, List.map_toArray, List.map_cons, List.map_nil, e7, e26]
  have hp : ∃ s2, RkM W0.heap.size w' br s2 (dSync d (wname (l.last.frm : Int))).1 ∧ ∀ k, rall br s2 k → FFr w1 br s k := ht
  refine (rldid_any _ (dSync d (wname (l.last.frm : Int))).2 w').mono ?_
  rintro e w2 ⟨rfl, rfl⟩
  exact ⟨_, rfl, Kb.refl _ _, rfl, hp⟩
 refine tok_val rfl (.int .i64 (didE (dSync d (wname (l.last.frm : Int))).2 : Int)) (fun _ _ _ => rfl) ?_ ?_
 ·rintro ρ w' he ⟨h27, -⟩
  have e27 : ρ 27 = .int .i64 (didE (dSync d (wname (l.last.frm : Int))).2 : Int) := h27
  simp [execOp, evR, e27, go_sem]
 refine tok_nil ?_
 rintro ρ w' hle htk ⟨f3, f27, f26, f25, f24, f23, f22, f21, f20, f19, f18, f17, f16, f15, f14, f13, f12, f11, f10, f9, f8, f7, -⟩ -
 replace f3 : ρ 3 = .int .i64 (didE (dSync d (wname (l.last.frm : Int))).2 : Int) := f3
 simp only [puts, Act.put, List.setIfInBounds_toArray, List.set_cons_zero, List.set_cons_succ]
 rw [f3]
 clear f3 f7 f8 f9 f10 f11 f12 f13 f14 f15 f16 f17 f18 f19 f20 f21 f22 f23 f24 f25 f26 f27
 obtain ⟨s2, hd2, hf2⟩ := (show ∃ s2, RkM W0.heap.size w' br s2 (dSync d (wname (l.last.frm : Int))).1 ∧ ∀ k, rall br s2 k → FFr w1 br s k from htk)
 obtain ⟨hc2, hs2⟩ := HC.out.diskF hle hd2 hf2
 have HS2 := Lib.hid (HK.out.trans hs2)
 have HC2 := Lib.hid hc2
 have HKN := Lib.hid (rlNext_any hc2.hl HNE.out HNX.out)
 have HU := Lib.hid (show wSync1 d l = if didE (dSync d (wname (l.last.frm : Int))).2 ≠ 0 then (((dSync d (wname (l.last.frm : Int))).1, l), didE (dSync d (wname (l.last.frm : Int))).2) else (((dSync d (wname (l.last.frm : Int))).1, { l with sure := l.next - 1 }), 0) from rfl)
 clear hd2 hf2 hs2 hc2 hle htk
 generalize dSync d (wname (l.last.frm : Int)) = x at *
 generalize didE x.2 = m at *
 by_cases hm : m = 0
 rotate_left
 ·have hm1 : ¬ (m : Int) = 0 := by omega
  rw [if_pos hm] at HU
  clear hm
  go_wp2_with fail
  go_ret
  rw [HW.out, HU.out]
  exact ⟨rfl, s2, _, HC2.out, HS2.out⟩
 ·subst hm
  rw [if_neg (by omega)] at HU
  go_wp2_with fail
  refine HKN.out.mono ?_
  rintro e w2 ⟨rfl, hx2⟩
  have hc3 := HC2.out.ext hx2
  have hpos := HPS.out
  have hw3 : IntKind.i64.wrap ((l.next : Int) - 1) = ((l.next - 1 : Nat) : Int) := by rw [IntWalk.i64_in _ (by have := HNX.out; omega)]; omega
  have hlp := hc3.hl.put (l' := { l with sure := l.next - 1 }) 3 (.int .i64 ((l.next - 1 : Nat) : Int)) rfl rfl
  have k3 := hc3.hl.str.blk.cell (i := 3) rfl
  have t3 := hc3.hl.str.blk.thaw 3
  obtain ⟨hc4, hs4⟩ := hc3.put hlp (Kb.set _ w2 bl 3 _ (.inl rfl)) (fun _ h => .inl h)
  have HS4 := Lib.hid ((HS2.out.ext hx2).trans hs4)
  have HC4 := Lib.hid hc4
  clear hc3 hlp hc4 hs4 hx2
  go_wp2_with fail
  go_ret
  rw [HW.out, HU.out]
  exact ⟨rfl, s2, _, HC4.out, HS4.out⟩
end Go.Proofs.YtagghghoimpofaaGreatDoor

/-
 Layer 16: the document's log: Append.
-/
namespace Go.Proofs.YtagghghoimpofaaGreatDoor
open Go Go.RowKit Mono
set_option linter.unusedVariables false
set_option linter.unusedSimpArgs false
set_option maxRecDepth 100000
set_option maxHeartbeats 4000000

theorem infoRSeg : (Tryz.prog.info? 96).map (fun i => (i.zero, i.size, i.bytes)) = some (some (.agg #[.int .i64 0, .int .i64 0, .int .i64 0]), 3, 24) := by kernel_rfl
/-- A segment is appended. -/
theorem rseg_append {z bl bd g c : Nat} {W : World} {l : Lg} (h : RlM z W bl bd (.slice (some ⟨g, 0, none⟩) l.segs.length c) l) (hz : z ≤ W.heap.size) (hlen : l.segs.length ≤ 1000000000) (s : WSeg) (ty : TypeId) :
  ∃ g' cv' w', (Builtin.append_ #[61, 61] ty #[.slice (some ⟨g, 0, none⟩) l.segs.length c, .slice (some ⟨W.heap.size, 0, none⟩) 1 1]).run Tryz.prog (W.alloc (.cells #[.int .i64 (s.frm : Int), .int .i64 (s.count : Int), .int .i64 (s.bytes : Int)] 96)) = .ok (.slice (some ⟨g', 0, none⟩) (l.segs.length + 1) cv') w' ∧
   w'.ownsRow z 96 3 (.slice (some ⟨g', 0, none⟩) (l.segs.length + 1) cv') (l.segs ++ [s]).length (scells (l.segs ++ [s])) ∧ Kb (lall bl (.slice (some ⟨g, 0, none⟩) l.segs.length c)) W w' ∧ BlkT w' bl 63 (rlstr (.slice (some ⟨g, 0, none⟩) l.segs.length c) bd l) ∧ ∀ j, lall bl (.slice (some ⟨g', 0, none⟩) (l.segs.length + 1) cv') j → lall bl (.slice (some ⟨g, 0, none⟩) l.segs.length c) j ∨ W.heap.size ≤ j := by
 obtain ⟨i0, hi, hz0, hz1, hz2⟩ := info_parts infoRSeg
 have hb := Blk.new W #[.int .i64 (s.frm : Int), .int .i64 (s.count : Int), .int .i64 (s.bytes : Int)] 96
 obtain ⟨v', w', h1, h2, h3, -, h4⟩ := run_append_own_at (P := Tryz.prog) (W.alloc (.cells #[.int .i64 (s.frm : Int), .int .i64 (s.count : Int), .int .i64 (s.bytes : Int)] 96)) z 61 ty 96 i0 _ 3 24 Tryz.underlying61 hi hz0 hz1 hz2 rfl (by decide)
  _ l.segs.length (scells l.segs) (h.row.alloc _) ⟨W.heap.size, 0, none⟩ 1 1 s.cells rfl (fun j u hu => by rw [add_at, Nat.zero_add]; exact hb.cell hu) (by rw [segC]; simp [Value.oneCell']) (by unfold maxLen; omega) (by omega) (by rw [World.size_alloc]; omega)
 have hgr : Kb (fun k => k = g) (W.alloc (.cells #[.int .i64 (s.frm : Int), .int .i64 (s.count : Int), .int .i64 (s.bytes : Int)] 96)) w' := Kb.grown h3 rfl
 have hkb : Kb (fun k => k = g) W w' := (Kb.of_ext (fp := fun k => k = g) (ext_alloc W _)).trans hgr (fun _ h => .inl h)
 obtain ⟨g', cv', rfl⟩ : ∃ g' cv', v' = .slice (some ⟨g', 0, none⟩) (l.segs.length + 1) cv' := by
  rcases h2.2 with ⟨_, hn⟩ | ⟨g', cap, cur, hv, _⟩
  ·omega
  ·exact ⟨g', cap, hv⟩
 refine ⟨g', cv', w', h1, ?_, hkb.mono (fun b hb => .inr (by rw [hb]; rfl)), h.str.kb hkb (fun e => h.ne e.symm), fun j hj => ?_⟩
 ·rw [List.length_append, List.length_singleton, scells_append, scells_one]
  exact h2
 ·rcases hj with hj | hj
  ·exact .inl (.inl hj)
  ·rcases h4 with h4 | h4
   ·rw [h4] at hj
    exact .inl (.inr hj)
   ·rw [h4] at hj
    injection hj with hj
    rw [World.size_alloc] at hj
    exact .inr (by omega)
def Lg.upc (l : Lg) : Lg := { l with segs := l.segs.set (l.segs.length - 1) { l.last with count := l.last.count + 1 } }
theorem Lg.upc_ne {l : Lg} (h : l.segs ≠ []) : l.upc.segs ≠ [] ∧ l.upc.segs.length = l.segs.length ∧ l.upc.segs[l.segs.length - 1]? = some { l.last with count := l.last.count + 1 } := by
 have hp := segs_pos h
 have hl : l.upc.segs.length = l.segs.length := by unfold Lg.upc; simp
 refine ⟨fun e => ?_, hl, ?_⟩
 ·rw [e] at hl
  simp at hl
  omega
 ·unfold Lg.upc
  dsimp only
  rw [List.getElem?_set_self (by omega)]
theorem RlM.up1 {z bl br g c n : Nat} {W : World} {l : Lg} (h : RlM z W bl br (.slice (some ⟨g, 0, none⟩) n c) l) (hne : l.segs ≠ []) {i : Nat} (hi : i + 1 = l.segs.length) :
  RlM z (W.setCell ⟨g, i * 3 + 1, none⟩ (.int .i64 ((l.last.count + 1 : Nat) : Int))) bl br (.slice (some ⟨g, 0, none⟩) n c) l.upc := by
 obtain rfl : i = l.segs.length - 1 := by omega
 exact h.sput (l' := l.upc) ((l.segs.length - 1) * 3 + 1) (.int .i64 ((l.last.count + 1 : Nat) : Int)) (scells_count (Lg.last_at hne) _) (by unfold Lg.upc; simp) ⟨rfl, rfl, rfl⟩
theorem RlM.up2 {z bl br g c n : Nat} {W : World} {l : Lg} (h : RlM z W bl br (.slice (some ⟨g, 0, none⟩) n c) l.upc) (hne : l.segs ≠ []) (k : Nat) {i : Nat} (hi : i + 1 = l.segs.length) :
  RlM z (W.setCell ⟨g, i * 3 + 2, none⟩ (.int .i64 ((l.last.bytes + k : Nat) : Int))) bl br (.slice (some ⟨g, 0, none⟩) n c) (l.up k) := by
 obtain rfl : i = l.segs.length - 1 := by omega
 obtain ⟨h1, h2, h3⟩ := Lg.upc_ne hne
 refine h.sput (l' := l.up k) ((l.segs.length - 1) * 3 + 2) (.int .i64 ((l.last.bytes + k : Nat) : Int)) ?_ ?_ ⟨rfl, rfl, rfl⟩
 ·rw [scells_bytes h3 (l.last.bytes + k)]
  congr 1
  show (l.segs.set _ _).set _ _ = _
  rw [List.set_set, set_last _ _ hne]
  rfl
 ·rw [(Lg.up_segs l k hne).2.1, h2]
theorem rlAppend_any {W0 W : World} {br bl : Nat} {s : RSt} {d : Dk} {v : Value} {l : Lg} (h : Rx W0 W br bl s d v l) (hok : d.Ok) (hne : l.segs ≠ []) (hps : 1 ≤ l.next) (hnx : l.next ≤ 8000000000000000000) {c0 : Nat} (hsc : d.SmallC c0) (hc0 : c0 + 10 ≤ 1000000000) (hln : l.segs.length ≤ 100000000) (hby : l.last.bytes ≤ 1000000000000) {vr : Value} {rec : List UInt8} (hr : Bs W vr rec) :
  Calls Tryz.prog 29 #[.pointer (some ⟨bl, 0, none⟩), vr] W fun e w' => e = .returned (.tuple #[.int .i64 ((wAppend d l rec).2.1 : Int), .int .i64 ((wAppend d l rec).2.2 : Int)]) ∧ ∃ s' v', Rx W0 w' br bl s' (wAppend d l rec).1.1 v' (wAppend d l rec).1.2 ∧ Cont (rfp br bl s v) W (rfp br bl s' v') w' := by
 obtain ⟨g, cv, rfl, -⟩ := h.hl.slice hne
 obtain ⟨Ar, cr, rfl, r1, r2, -, -⟩ := hr.open_
 unfold maxLen at r2
 have r3 : rec.length ≤ 9223372036854775807 := by omega
 clear r1 r2
 have HON := Lib.hid (rlOn_any h.hd h.hl)
 have hp := segs_pos hne
 obtain ⟨i, hi⟩ : ∃ i, i + 1 = l.segs.length := ⟨l.segs.length - 1, by omega⟩
 have HI := Lib.hid hi
 have HPS := Lib.hid hps
 have HC := Lib.hid h
 have HK := Lib.hid (show Cont (rfp br bl s (.slice (some ⟨g, 0, none⟩) l.segs.length cv)) W (rfp br bl s (.slice (some ⟨g, 0, none⟩) l.segs.length cv)) W from Cont.refl fun _ h => h)
 have HNE := Lib.hid hne
 have HNX := Lib.hid hnx
 have HOK := Lib.hid hok
 have HSM := Lib.hid (hsc.small (by omega))
 have HSC := Lib.hid hsc
 have HC0 := Lib.hid hc0
 have HLN := Lib.hid hln
 have HBY := Lib.hid hby
 have HR := Lib.hid hr
 clear h hne hps hnx hok hr hsc hc0 hln hby hi hp
 have HAU := Lib.hid (show wAppend d l rec = if wFault d l ≠ 0 then ((d, l), 0, wFault d l) else if 262144 < rec.length then ((d, l), 0, 3) else if 999999999999 ≤ l.next then ((d, l), 0, 151) else if 0 < l.last.count ∧ l.size < l.last.bytes + (wrap rec).length then (if (wRoll d l).2 ≠ 0 then ((wRoll d l).1, 0, (wRoll d l).2) else wPut (wRoll d l).1.1 (wRoll d l).1.2 (wrap rec)) else wPut d l (wrap rec) from rfl)
 by_cases hn0 : wFault d l = 0
 rotate_left
 ·rw [show decide (wFault d l = 0) = false from decide_eq_false hn0] at HON
  rw [if_pos hn0] at HAU
  have hE2 : wFault d l = 150 := by
   have hE : wFault d l = 0 ∨ wFault d l = 150 := by unfold wFault; split; exact .inr rfl; split; exact .inr rfl; exact .inl rfl
   exact hE.resolve_left hn0
  rw [hE2] at HAU
  clear hn0 hE2
  go_enter Tryz.func29, Tryz.ntmps29
  go_wp2_with fail
  refine HON.out.mono ?_
  rintro e w1 ⟨rfl, hx1⟩
  go_wp2_with fail
  go_ret2
  rw [HAU.out]
  exact ⟨rfl, s, _, HC.out.ext hx1, HK.out.ext hx1⟩
 rw [show decide (wFault d l = 0) = true from decide_eq_true hn0] at HON
 rw [if_neg (by omega)] at HAU
 clear hn0
 by_cases hbig : 262144 < rec.length
 ·rw [if_pos hbig] at HAU
  go_enter Tryz.func29, Tryz.ntmps29
  go_wp2_with fail
  refine HON.out.mono ?_
  rintro e w1 ⟨rfl, hx1⟩
  go_wp2_with fail
  go_ret2
  rw [HAU.out]
  exact ⟨rfl, s, _, HC.out.ext hx1, HK.out.ext hx1⟩
 rw [if_neg hbig] at HAU
 go_enter Tryz.func29, Tryz.ntmps29
 go_wp2_with fail
 refine HON.out.mono ?_
 rintro e w1 ⟨rfl, hx1⟩
 replace HC := Lib.hid (HC.out.ext hx1)
 replace HK := Lib.hid (HK.out.ext hx1)
 replace HR := Lib.hid (HR.out.ext hx1)
 have HKN := Lib.hid (rlNext_any HC.out.hl HNE.out (Nat.le_trans HNX.out (by decide)))
 clear hx1 HON
 go_wp2_with fail
 refine HKN.out.mono ?_
 rintro e w2 ⟨rfl, hx2⟩
 replace HC := Lib.hid (HC.out.ext hx2)
 replace HK := Lib.hid (HK.out.ext hx2)
 replace HR := Lib.hid (HR.out.ext hx2)
 clear HKN hx2
 by_cases hmost : 999999999999 ≤ l.next
 ·rw [if_pos hmost] at HAU
  have hm2 : (999999999998 : Int) < (l.next : Int) := by omega
  clear hmost
  generalize (l.next : Int) = q6 at *
  go_wp2_with fail
  go_ret2
  rw [HAU.out]
  exact ⟨rfl, s, _, HC.out, HK.out⟩
 rw [if_neg hmost] at HAU
 have hm2 : ¬ (999999999998 : Int) < (l.next : Int) := by omega
 clear hmost
 generalize (l.next : Int) = q6 at hm2 ⊢
 have HFW := Lib.hid (rWrap_any _ _ _ HR.out)
 go_wp2_with fail
 refine HFW.out.mono ?_
 rintro e w3 ⟨vf, rfl, hof, hx3⟩
 have hwl := wrap_len rec
 obtain ⟨n2, hn2⟩ : ∃ n2, n2 = (wrap rec).length := ⟨_, rfl⟩
 obtain ⟨A2, c2, hvf, -, -, -, -⟩ := hof.bs.open_
 rw [← hn2] at hvf hwl HAU
 subst hvf
 have HB := Lib.hid hof.bs
 have HN2 := Lib.hid hn2.symm
 have HN2L := Lib.hid (show n2 ≤ 1000000 by omega)
 have HFB := Lib.hid (show ∀ j, (Value.slice A2 n2 c2).ownBlock = some j → j < w3.heap.size ∧ ¬ rfp br bl s (.slice (some ⟨g, 0, none⟩) l.segs.length cv) j from fun j hj => ⟨(World.ownsRow.lt hof j hj).2, fun hq => by
  have h1 := (World.ownsRow.lt hof j hj).1
  have := HC.out.lt j hq
  omega⟩)
 replace HC := Lib.hid (HC.out.ext hx3)
 replace HK := Lib.hid (HK.out.ext hx3)
 clear hof hx3 hn2 HFW HR hwl hm2
 have k2 := HC.out.hl.str.blk.cell (i := 2) rfl
 have hw : IntKind.i64.wrap ((l.segs.length : Int) - 1) = (i : Int) := by rw [IntWalk.i64_in _ (by have := HLN.out; omega)]; have := HI.out; omega
 go_wp2_with fail
 clear k2 hw
 have HI2 := Lib.hid (show l.segs[i]? = some l.last by have h := Lg.last_at HNE.out; rw [show l.segs.length - 1 = i by have := HI.out; omega] at h; exact h)
 have HW45 := Lib.hid (show IntKind.i64.wrap ((l.last.bytes : Int) + (n2 : Int)) = (l.last.bytes : Int) + (n2 : Int) by rw [IntWalk.i64_in _ (by have := HBY.out; have := HN2L.out; omega)])
 have HIL := Lib.hid (show i < l.segs.length by have := HI.out; omega)
 by_cases hcnt : 0 < l.last.count
 rotate_left
 ·have HWP := Lib.hid (HAU.out.trans (if_neg (fun h => hcnt h.1)))
  refine wp_region_mono (by kernel_rfl) (by kernel_rfl) ?_
  refine tele_move rfl (.inl rfl) rfl (isV (.pointer (some ⟨bl, 0, none⟩))) (fun ρ w' h => h) ?_
  refine tele_val rfl (.pointer (some ⟨bl, 0, none⟩)) (fun _ _ _ => rfl) ?_ ?_
  ·rintro ρ w' he ⟨h28, -⟩
   have e28 : ρ 28 = (.pointer (some ⟨bl, 0, none⟩)) := h28
   simp [execOp, evR, e28, go_sem]
  refine tele_val rfl (.pointer (some ⟨bl, 2, none⟩)) (fun _ _ _ => rfl) ?_ ?_
  ·rintro ρ w' he ⟨h29, -⟩
   have e29 : ρ 29 = (.pointer (some ⟨bl, 0, none⟩)) := h29
   simp [execOp, evR, e29, go_sem]
  refine tele_val rfl (.slice (some ⟨g, 0, none⟩) l.segs.length cv) (fun _ _ _ => rfl) ?_ ?_
  ·rintro ρ w' he ⟨h30, -⟩
   have e30 : ρ 30 = (.pointer (some ⟨bl, 2, none⟩)) := h30
   have c := (HC.out.hl.ext he).str.blk.cell (i := 2) rfl
   simp [execOp, evR, e30, c, go_sem]
  refine tele_move rfl (.inl rfl) rfl (isV (.int .i64 (i : Int))) (fun ρ w' h => h) ?_
  refine tele_val rfl (.pointer (some ⟨g, i * 3, none⟩)) (fun _ _ _ => rfl) ?_ ?_
  ·rintro ρ w' he ⟨h31, h32, -⟩
   have e31 : ρ 31 = (.slice (some ⟨g, 0, none⟩) l.segs.length cv) := h31
   have e32 : ρ 32 = (.int .i64 (i : Int)) := h32
   exact index_rseg rfl e31 e32 HIL.out
  refine tele_val rfl (.pointer (some ⟨g, i * 3 + 1, none⟩)) (fun _ _ _ => rfl) ?_ ?_
  ·rintro ρ w' he ⟨h33, -⟩
   have e33 : ρ 33 = (.pointer (some ⟨g, i * 3, none⟩)) := h33
   simp [execOp, evR, e33, go_sem]
  refine tele_val rfl (.int .i64 (l.last.count : Int)) (fun _ _ _ => rfl) ?_ ?_
  ·rintro ρ w' he ⟨h34, -⟩
   have e34 : ρ 34 = (.pointer (some ⟨g, i * 3 + 1, none⟩)) := h34
   have c := (RlM.cells (HC.out.hl.ext he) HI2.out).2.1
   simp [execOp, evR, e34, c, go_sem]
  refine tele_val rfl (.bool false) (fun _ _ _ => rfl) ?_ ?_
  ·rintro ρ w' he ⟨h35, -⟩
   have e35 : ρ 35 = (.int .i64 (l.last.count : Int)) := h35
   simp [execOp, evR, e35, go_sem]
   omega
  refine tele_move rfl (.inl rfl) rfl (isV (.bool false)) (fun ρ w' h => h) ?_
  refine tele_pass rfl (fun ρ w' hk => by obtain ⟨_, hg, -⟩ := hk; have eg : ρ 37 = (.bool false) := hg; simp [wantedR, Region.wanted, asBoolR, eg]) ?_
  refine tele_pass rfl (fun ρ w' hk => by obtain ⟨_, hg, -⟩ := hk; have eg : ρ 37 = (.bool false) := hg; simp [wantedR, Region.wanted, asBoolR, eg]) ?_
  refine tele_pass rfl (fun ρ w' hk => by obtain ⟨_, hg, -⟩ := hk; have eg : ρ 37 = (.bool false) := hg; simp [wantedR, Region.wanted, asBoolR, eg]) ?_
  refine tele_pass rfl (fun ρ w' hk => by obtain ⟨_, hg, -⟩ := hk; have eg : ρ 37 = (.bool false) := hg; simp [wantedR, Region.wanted, asBoolR, eg]) ?_
  refine tele_pass rfl (fun ρ w' hk => by obtain ⟨_, hg, -⟩ := hk; have eg : ρ 37 = (.bool false) := hg; simp [wantedR, Region.wanted, asBoolR, eg]) ?_
  refine tele_pass rfl (fun ρ w' hk => by obtain ⟨_, _, hg, -⟩ := hk; have eg : ρ 37 = (.bool false) := hg; simp [wantedR, Region.wanted, asBoolR, eg]) ?_
  refine tele_pass rfl (fun ρ w' hk => by obtain ⟨_, hg, -⟩ := hk; have eg : ρ 37 = (.bool false) := hg; simp [wantedR, Region.wanted, asBoolR, eg]) ?_
  refine tele_pass rfl (fun ρ w' hk => by obtain ⟨_, hg, -⟩ := hk; have eg : ρ 37 = (.bool false) := hg; simp [wantedR, Region.wanted, asBoolR, eg]) ?_
  refine tele_pass rfl (fun ρ w' hk => by obtain ⟨_, hg, -⟩ := hk; have eg : ρ 37 = (.bool false) := hg; simp [wantedR, Region.wanted, asBoolR, eg]) ?_
  refine tele_pass rfl (fun ρ w' hk => by obtain ⟨_, hg, -⟩ := hk; have eg : ρ 37 = (.bool false) := hg; simp [wantedR, Region.wanted, asBoolR, eg]) ?_
  refine tele_pass rfl (fun ρ w' hk => by obtain ⟨_, _, hg, -⟩ := hk; have eg : ρ 37 = (.bool false) := hg; simp [wantedR, Region.wanted, asBoolR, eg]) ?_
  refine tele_pass rfl (fun ρ w' hk => by obtain ⟨_, hg, -⟩ := hk; have eg : ρ 37 = (.bool false) := hg; simp [wantedR, Region.wanted, asBoolR, eg]) ?_
  refine tele_pass rfl (fun ρ w' hk => by obtain ⟨_, hg, -⟩ := hk; have eg : ρ 37 = (.bool false) := hg; simp [wantedR, Region.wanted, asBoolR, eg]) ?_
  refine tele_pass rfl (fun ρ w' hk => by obtain ⟨_, hg, -⟩ := hk; have eg : ρ 37 = (.bool false) := hg; simp [wantedR, Region.wanted, asBoolR, eg]) ?_
  refine tele_pass rfl (fun ρ w' hk => by obtain ⟨_, hg, -⟩ := hk; have eg : ρ 37 = (.bool false) := hg; simp [wantedR, Region.wanted, asBoolR, eg]) ?_
  refine tele_pass rfl (fun ρ w' hk => by obtain ⟨_, _, hg, -⟩ := hk; have eg : ρ 37 = (.bool false) := hg; simp [wantedR, Region.wanted, asBoolR, eg]) ?_
  refine tele_val rfl (.bool false) (fun _ _ _ => rfl) ?_ ?_
  ·rintro ρ w' he ⟨h37, h53, -⟩
   have e37 : ρ 37 = (.bool false) := h37
   have e53 : ρ 53 = undef := h53
   simp [execOp, evR, e37, e53, go_sem]
  refine tele_nil ?_
  rintro ρ wb hext ⟨f54, f53, f52, f51, f50, f49, f48, f47, f46, f45, f44, f43, f42, f41, f40, f39, f38, f37, f36, f35, f34, f33, f32, f31, f30, f29, f28, -⟩
  replace f54 : ρ 54 = (.bool false) := f54
  simp only [puts, Act.put, List.setIfInBounds_toArray, List.set_cons_zero, List.set_cons_succ]
  rw [f54]
  clear f28 f29 f30 f31 f32 f33 f34 f35 f36 f37 f38 f39 f40 f41 f42 f43 f44 f45 f46 f47 f48 f49 f50 f51 f52 f53 f54
  replace HC := Lib.hid (HC.out.ext hext)
  replace HK := Lib.hid (HK.out.ext hext)
  replace HB := Lib.hid (HB.out.ext hext)
  replace HFB := Lib.hid (show ∀ j, (Value.slice A2 n2 c2).ownBlock = some j → j < wb.heap.size ∧ ¬ rfp br bl s (.slice (some ⟨g, 0, none⟩) l.segs.length cv) j from fun j hj => ⟨Nat.lt_of_lt_of_le (HFB.out j hj).1 hext.size, (HFB.out j hj).2⟩)
  clear hext HI2 HW45 HIL
  have HI2 := Lib.hid (show l.segs[i]? = some l.last by have h := Lg.last_at HNE.out; rw [show l.segs.length - 1 = i by have := HI.out; omega] at h; exact h)
  go_wp2_with fail
  refine wp_region_tok [false, false, false, false, false, false, false, false, false, false, false, false, false, true, false, true, true, false] (Kb (FFr wb br s)) (fun c w => if c < 2 then RkM W0.heap.size w br s d else ∃ s2, RkM W0.heap.size w br s2 (dAppend d (wname (l.last.frm : Int)) (wrap rec)).1 ∧ ∀ k, rall br s2 k → FFr wb br s k) 3 (by kernel_rfl) (by kernel_rfl) (by kernel_rfl) (by kernel_rfl) (preKb' _) (Kb.of_ext (ext_drew wb)) (HC.out.hd.ext (ext_drew wb)) ?_
  refine tok_val rfl (.pointer (some ⟨bl, 0, none⟩)) (fun _ _ _ => rfl) ?_ ?_
  ·rintro ρ w' he ⟨h0, -⟩
   have e0 : ρ 0 = .pointer (some ⟨bl, 0, none⟩) := h0
   simp [execOp, evR, e0, go_sem]
  refine tok_val rfl (.pointer (some ⟨bl, 0, none⟩)) (fun _ _ _ => rfl) ?_ ?_
  ·rintro ρ w' he ⟨h0, -⟩
   have e0 : ρ 0 = .pointer (some ⟨bl, 0, none⟩) := h0
   simp [execOp, evR, e0, go_sem]
  refine tok_val rfl (.pointer (some ⟨bl, 0, none⟩)) (fun _ _ _ => rfl) ?_ ?_
  ·rintro ρ w' he ⟨h88, -⟩
   have e88 : ρ 88 = .pointer (some ⟨bl, 0, none⟩) := h88
   simp [execOp, evR, e88, go_sem]
  refine tok_val rfl (.pointer (some ⟨bl, 0, none⟩)) (fun _ _ _ => rfl) ?_ ?_
  ·rintro ρ w' he ⟨h89, -⟩
   have e89 : ρ 89 = .pointer (some ⟨bl, 0, none⟩) := h89
   simp [execOp, evR, e89, go_sem]
  refine tok_val rfl (.pointer (some ⟨br, 0, none⟩)) (fun _ _ _ => rfl) ?_ ?_
  ·rintro ρ w' he ⟨h90, -⟩
   have e90 : ρ 90 = .pointer (some ⟨bl, 0, none⟩) := h90
   have c := (HC.out.log he).str.blk.cell (i := 0) rfl
   simp [execOp, evR, e90, c, go_sem]
  refine tok_val rfl (.pointer (some ⟨bl, 0, none⟩)) (fun _ _ _ => rfl) ?_ ?_
  ·rintro ρ w' he ⟨h0, -⟩
   have e0 : ρ 0 = .pointer (some ⟨bl, 0, none⟩) := h0
   simp [execOp, evR, e0, go_sem]
  refine tok_val rfl (.pointer (some ⟨bl, 0, none⟩)) (fun _ _ _ => rfl) ?_ ?_
  ·rintro ρ w' he ⟨h92, -⟩
   have e92 : ρ 92 = .pointer (some ⟨bl, 0, none⟩) := h92
   simp [execOp, evR, e92, go_sem]
  refine tok_val rfl (.pointer (some ⟨bl, 2, none⟩)) (fun _ _ _ => rfl) ?_ ?_
  ·rintro ρ w' he ⟨h93, -⟩
   have e93 : ρ 93 = .pointer (some ⟨bl, 0, none⟩) := h93
   simp [execOp, evR, e93, go_sem]
  refine tok_val rfl (.slice (some ⟨g, 0, none⟩) l.segs.length cv) (fun _ _ _ => rfl) ?_ ?_
  ·rintro ρ w' he ⟨h94, -⟩
   have e94 : ρ 94 = .pointer (some ⟨bl, 2, none⟩) := h94
   have c := (HC.out.log he).str.blk.cell (i := 2) rfl
   simp [execOp, evR, e94, c, go_sem]
  refine tok_val rfl (.int .i64 (i : Int)) (fun _ _ _ => rfl) ?_ ?_
  ·rintro ρ w' he ⟨h7, -⟩
   have e7 : ρ 7 = .int .i64 (i : Int) := h7
   simp [execOp, evR, e7, go_sem]
  refine tok_val rfl (.pointer (some ⟨g, i * 3, none⟩)) (fun _ _ _ => rfl) ?_ ?_
  ·rintro ρ w' he ⟨h95, h96, -⟩
   have e95 : ρ 95 = .slice (some ⟨g, 0, none⟩) l.segs.length cv := h95
   have e96 : ρ 96 = .int .i64 (i : Int) := h96
   exact index_rseg rfl e95 e96 (by have := HI.out; omega)
  refine tok_val rfl (.pointer (some ⟨g, i * 3, none⟩)) (fun _ _ _ => rfl) ?_ ?_
  ·rintro ρ w' he ⟨h97, -⟩
   have e97 : ρ 97 = .pointer (some ⟨g, i * 3, none⟩) := h97
   simp [execOp, evR, e97, go_sem]
  refine tok_val rfl (.int .i64 (l.last.frm : Int)) (fun _ _ _ => rfl) ?_ ?_
  ·rintro ρ w' he ⟨h98, -⟩
   have e98 : ρ 98 = .pointer (some ⟨g, i * 3, none⟩) := h98
   have c := (RlM.cells (HC.out.log he) HI2.out).1
   simp [execOp, evR, e98, c, go_sem]
  refine tok_call rfl rfl Tryz.func51 (by kernel_rfl) (fun v _ => v = .string ⟨(wname (l.last.frm : Int)).toArray⟩) (fun _ _ _ h _ => h) (fun _ _ _ => rfl) ?_ ?_
  ·rintro ρ w' he ht ⟨h99, -⟩
   have e99 : ρ 99 = .int .i64 (l.last.frm : Int) := h99
   simp only [evR, List.map_toArray, List.map_cons, List.map_nil, e99]
   have hp : RkM W0.heap.size w' br s d := ht
   refine (refWName_any ((l.last.frm : Int) : Int) w').mono ?_
   rintro e w2 ⟨rfl, hx2⟩
   exact ⟨_, rfl, Kb.of_ext hx2, rfl, hp.ext hx2⟩
  refine tok_val rfl (.slice A2 n2 c2) (fun _ _ _ => rfl) ?_ ?_
  ·rintro ρ w' he ⟨h6, -⟩
   have e6 : ρ 6 = .slice A2 n2 c2 := h6
   simp [execOp, evR, e6, go_sem]
  refine tok_call rfl rfl Tryz.func66 (by kernel_rfl) (fun v _ => v = .int .i64 ((dAppend d (wname (l.last.frm : Int)) (wrap rec)).2 : Int)) (fun _ _ _ h _ => h) (fun _ _ _ => rfl) ?_ ?_
  ·rintro ρ w' he ht ⟨h91, h100, h101, -⟩
   have e91 : ρ 91 = .pointer (some ⟨br, 0, none⟩) := h91
   have e100 : ρ 100 = .string ⟨(wname (l.last.frm : Int)).toArray⟩ := h100
   have e101 : ρ 101 = .slice A2 n2 c2 := h101
   simp only [evR, List.map_toArray, List.map_cons, List.map_nil, e91, e100, e101]
   have hp : RkM W0.heap.size w' br s d := ht
   refine (rappend_any hp HOK.out HSM.out (HC.out.ext_ he).size (wname (l.last.frm : Int)) (HB.out.kb he (fun j hj hq => hq.elim (fun h => (HFB.out j hj).2 (.inl h)) (fun hs => Nat.not_lt.2 hs (HFB.out j hj).1))) (fun j hj _ hq => (HFB.out j hj).2 (.inl hq)) (by rw [HN2.out]; exact Nat.le_trans HN2L.out (by decide))).mono ?_
   rintro e w2 hq
   exact tok_rk he hq
  refine tok_call rfl rfl Tryz.func71 (by kernel_rfl) (fun v _ => v = .int .i64 (didE (dAppend d (wname (l.last.frm : Int)) (wrap rec)).2 : Int)) (fun _ _ _ h _ => h) (fun _ _ _ => rfl) ?_ ?_
  ·rintro ρ w' he ht ⟨h87, h102, -⟩
   have e87 : ρ 87 = .pointer (some ⟨bl, 0, none⟩) := h87
   have e102 : ρ 102 = .int .i64 ((dAppend d (wname (l.last.frm : Int)) (wrap rec)).2 : Int) := h102
   simp only [evR, List.map_toArray, List.map_cons, List.map_nil, e87, e102]
   have hp : ∃ s2, RkM W0.heap.size w' br s2 (dAppend d (wname (l.last.frm : Int)) (wrap rec)).1 ∧ ∀ k, rall br s2 k → FFr wb br s k := ht
   refine (rldid_any _ (dAppend d (wname (l.last.frm : Int)) (wrap rec)).2 w').mono ?_
   rintro e w2 ⟨rfl, rfl⟩
   exact ⟨_, rfl, Kb.refl _ _, rfl, hp⟩
  refine tok_val rfl (.int .i64 (didE (dAppend d (wname (l.last.frm : Int)) (wrap rec)).2 : Int)) (fun _ _ _ => rfl) ?_ ?_
  ·rintro ρ w' he ⟨h103, -⟩
   have e103 : ρ 103 = .int .i64 (didE (dAppend d (wname (l.last.frm : Int)) (wrap rec)).2 : Int) := h103
   simp [execOp, evR, e103, go_sem]
  refine tok_nil ?_
  rintro ρ w' hle htk ⟨f10, f103, f102, f101, f100, f99, f98, f97, f96, f95, f94, f93, f92, f91, f90, f89, f88, f87, -⟩ -
  replace f10 : ρ 10 = .int .i64 (didE (dAppend d (wname (l.last.frm : Int)) (wrap rec)).2 : Int) := f10
  simp only [puts, Act.put, List.setIfInBounds_toArray, List.set_cons_zero, List.set_cons_succ]
  rw [f10]
  clear f10 f87 f88 f89 f90 f91 f92 f93 f94 f95 f96 f97 f98 f99 f100 f101 f102 f103
  obtain ⟨s2, hd2, hf2⟩ := (show ∃ s2, RkM W0.heap.size w' br s2 (dAppend d (wname (l.last.frm : Int)) (wrap rec)).1 ∧ ∀ k, rall br s2 k → FFr wb br s k from htk)
  obtain ⟨hc2, hs2⟩ := HC.out.diskF hle hd2 hf2
  have HS2 := Lib.hid (HK.out.trans hs2)
  have HC2 := Lib.hid hc2
  replace HWP := Lib.hid (HWP.out.trans (show wPut d l (wrap rec) = if didE (dAppend d (wname (l.last.frm : Int)) (wrap rec)).2 ≠ 0 then (((dAppend d (wname (l.last.frm : Int)) (wrap rec)).1, l), 0, didE (dAppend d (wname (l.last.frm : Int)) (wrap rec)).2) else (((dAppend d (wname (l.last.frm : Int)) (wrap rec)).1, l.up (wrap rec).length), (l.up (wrap rec).length).next - 1, 0) from rfl))
  clear hd2 hf2 hs2 hc2 hle htk HC HK
  generalize dAppend d (wname (l.last.frm : Int)) (wrap rec) = x at *
  generalize didE x.2 = m at *
  by_cases hm : m = 0
  rotate_left
  ·have hm1 : ¬ (m : Int) = 0 := by omega
   rw [if_pos hm] at HWP
   clear hm
   go_wp2_with fail
   go_ret2
   rw [HWP.out]
   exact ⟨rfl, s2, _, HC2.out, HS2.out⟩
  ·subst hm
   rw [if_neg (by omega), HN2.out] at HWP
   have hil : i < l.segs.length := by have := HI.out; omega
   have HIL := Lib.hid hil
   have HW1 := Lib.hid (show IntKind.i64.wrap ((l.last.count : Int) + 1) = ((l.last.count + 1 : Nat) : Int) by rw [IntWalk.i64_in _ (by have := HNX.out; unfold Lg.next at this; omega)]; omega)
   have HW2 := Lib.hid (show IntKind.i64.wrap ((l.last.bytes : Int) + (n2 : Int)) = ((l.last.bytes + n2 : Nat) : Int) by rw [IntWalk.i64_in _ (by have := HBY.out; have := HN2L.out; omega)]; omega)
   clear hil
   go_wp2_with fail
   refine wp_region_last_lit (by kernel_rfl) rfl (by kernel_rfl) (by kernel_rfl) ?_
   refine tele_move rfl (.inl rfl) rfl (isV (.pointer (some ⟨bl, 0, none⟩))) (fun ρ w' h => h) ?_
   refine tele_val rfl (.pointer (some ⟨bl, 0, none⟩)) (fun _ _ _ => rfl) ?_ ?_
   ·rintro ρ w' he ⟨h107, -⟩
    have e107 : ρ 107 = (.pointer (some ⟨bl, 0, none⟩)) := h107
    simp [execOp, evR, e107, go_sem]
   refine tele_val rfl (.pointer (some ⟨bl, 2, none⟩)) (fun _ _ _ => rfl) ?_ ?_
   ·rintro ρ w' he ⟨h108, -⟩
    have e108 : ρ 108 = (.pointer (some ⟨bl, 0, none⟩)) := h108
    simp [execOp, evR, e108, go_sem]
   refine tele_val rfl (.slice (some ⟨g, 0, none⟩) l.segs.length cv) (fun _ _ _ => rfl) ?_ ?_
   ·rintro ρ w' he ⟨h109, -⟩
    have e109 : ρ 109 = (.pointer (some ⟨bl, 2, none⟩)) := h109
    have c := (HC2.out.hl.ext he).str.blk.cell (i := 2) rfl
    simp [execOp, evR, e109, c, go_sem]
   refine tele_move rfl (.inl rfl) rfl (isV (.int .i64 (i : Int))) (fun ρ w' h => h) ?_
   refine tele_move rfl (.inl rfl) rfl (isV (.pointer (some ⟨bl, 0, none⟩))) (fun ρ w' h => h) ?_
   refine tele_val rfl (.pointer (some ⟨bl, 0, none⟩)) (fun _ _ _ => rfl) ?_ ?_
   ·rintro ρ w' he ⟨h112, -⟩
    have e112 : ρ 112 = (.pointer (some ⟨bl, 0, none⟩)) := h112
    simp [execOp, evR, e112, go_sem]
   refine tele_val rfl (.pointer (some ⟨bl, 2, none⟩)) (fun _ _ _ => rfl) ?_ ?_
   ·rintro ρ w' he ⟨h113, -⟩
    have e113 : ρ 113 = (.pointer (some ⟨bl, 0, none⟩)) := h113
    simp [execOp, evR, e113, go_sem]
   refine tele_val rfl (.slice (some ⟨g, 0, none⟩) l.segs.length cv) (fun _ _ _ => rfl) ?_ ?_
   ·rintro ρ w' he ⟨h114, -⟩
    have e114 : ρ 114 = (.pointer (some ⟨bl, 2, none⟩)) := h114
    have c := (HC2.out.hl.ext he).str.blk.cell (i := 2) rfl
    simp [execOp, evR, e114, c, go_sem]
   refine tele_move rfl (.inl rfl) rfl (isV (.int .i64 (i : Int))) (fun ρ w' h => h) ?_
   refine tele_val rfl (.pointer (some ⟨g, i * 3, none⟩)) (fun _ _ _ => rfl) ?_ ?_
   ·rintro ρ w' he ⟨h115, h116, -⟩
    have e115 : ρ 115 = (.slice (some ⟨g, 0, none⟩) l.segs.length cv) := h115
    have e116 : ρ 116 = (.int .i64 (i : Int)) := h116
    exact index_rseg rfl e115 e116 HIL.out
   refine tele_val rfl (.pointer (some ⟨g, i * 3 + 1, none⟩)) (fun _ _ _ => rfl) ?_ ?_
   ·rintro ρ w' he ⟨h117, -⟩
    have e117 : ρ 117 = (.pointer (some ⟨g, i * 3, none⟩)) := h117
    simp [execOp, evR, e117, go_sem]
   refine tele_val rfl (.int .i64 (l.last.count : Int)) (fun _ _ _ => rfl) ?_ ?_
   ·rintro ρ w' he ⟨h118, -⟩
    have e118 : ρ 118 = (.pointer (some ⟨g, i * 3 + 1, none⟩)) := h118
    have c := (RlM.cells (HC2.out.hl.ext he) HI2.out).2.1
    simp [execOp, evR, e118, c, go_sem]
   refine tele_val rfl (.int .i64 ((l.last.count + 1 : Nat) : Int)) (fun _ _ _ => rfl) ?_ ?_
   ·rintro ρ w' he ⟨h119, -⟩
    have e119 : ρ 119 = (.int .i64 (l.last.count : Int)) := h119
    have hw := HW1.out
    simp [execOp, evR, e119, hw, go_sem]
   refine tele_val rfl (.pointer (some ⟨g, i * 3, none⟩)) (fun _ _ _ => rfl) ?_ ?_
   ·rintro ρ w' he ⟨h110, h111, -⟩
    have e110 : ρ 110 = (.slice (some ⟨g, 0, none⟩) l.segs.length cv) := h110
    have e111 : ρ 111 = (.int .i64 (i : Int)) := h111
    exact index_rseg rfl e110 e111 HIL.out
   refine tele_val rfl (.pointer (some ⟨g, i * 3 + 1, none⟩)) (fun _ _ _ => rfl) ?_ ?_
   ·rintro ρ w' he ⟨h121, -⟩
    have e121 : ρ 121 = (.pointer (some ⟨g, i * 3, none⟩)) := h121
    simp [execOp, evR, e121, go_sem]
   refine tele_nil ?_
   rintro ρ w' hext ⟨f122, f121, f120, f119, f118, f117, f116, f115, f114, f113, f112, f111, f110, f109, f108, f107, -⟩
   replace f120 : ρ 120 = (.int .i64 ((l.last.count + 1 : Nat) : Int)) := f120
   replace f122 : ρ 122 = (.pointer (some ⟨g, i * 3 + 1, none⟩)) := f122
   simp only [puts, Act.put, List.setIfInBounds_toArray, List.set_cons_zero, List.set_cons_succ]
   have hc3 := HC2.out.ext hext
   have HS3 := Lib.hid (HS2.out.ext hext)
   have c1 := (RlM.cells hc3.hl HI2.out).2.1
   have t1 := hc3.hl.row.frozenAt (i * 3 + 1)
   have hup := hc3.hl.up1 HNE.out HI.out
   obtain ⟨hc4, hs4⟩ := hc3.put hup (Kb.set _ w' g (i * 3 + 1) _ (.inr rfl)) (fun _ h => .inl h)
   have HS4 := Lib.hid (HS3.out.trans hs4)
   have HC4 := Lib.hid hc4
   rw [f120, f122]
   generalize hq1 : l.last.count + 1 = q1 at HC4 HS4 ⊢
   clear hq1
   clear f107 f108 f109 f110 f111 f112 f113 f114 f115 f116 f117 f118 f119 f120 f121 f122 hext hc3 hup hc4 hs4 HC2 HS2 HS3
   go_wp2_with fail
   obtain ⟨w4, hw4⟩ : ∃ w4, w4 = w'.setCell ⟨g, i * 3 + 1, none⟩ (.int .i64 (q1 : Int)) := ⟨_, rfl⟩
   rw [← hw4] at HC4 HS4
   rw [← hw4]
   clear hw4 c1 t1
   obtain ⟨u1, u2, u3⟩ := Lg.upc_ne HNE.out
   have HI3 := Lib.hid (show l.upc.segs[i]? = some { l.last with count := l.last.count + 1 } by rw [show i = l.segs.length - 1 by have := HI.out; omega]; exact u3)
   have HU2 := Lib.hid u2
   clear u1 u2 u3
   refine wp_region_last_lit (by kernel_rfl) rfl (by kernel_rfl) (by kernel_rfl) ?_
   refine tele_move rfl (.inl rfl) rfl (isV (.pointer (some ⟨bl, 0, none⟩))) (fun ρ w' h => h) ?_
   refine tele_val rfl (.pointer (some ⟨bl, 0, none⟩)) (fun _ _ _ => rfl) ?_ ?_
   ·rintro ρ w' he ⟨h123, -⟩
    have e123 : ρ 123 = (.pointer (some ⟨bl, 0, none⟩)) := h123
    simp [execOp, evR, e123, go_sem]
   refine tele_val rfl (.pointer (some ⟨bl, 2, none⟩)) (fun _ _ _ => rfl) ?_ ?_
   ·rintro ρ w' he ⟨h124, -⟩
    have e124 : ρ 124 = (.pointer (some ⟨bl, 0, none⟩)) := h124
    simp [execOp, evR, e124, go_sem]
   refine tele_val rfl (.slice (some ⟨g, 0, none⟩) l.segs.length cv) (fun _ _ _ => rfl) ?_ ?_
   ·rintro ρ w' he ⟨h125, -⟩
    have e125 : ρ 125 = (.pointer (some ⟨bl, 2, none⟩)) := h125
    have c := (HC4.out.hl.ext he).str.blk.cell (i := 2) rfl
    simp [execOp, evR, e125, c, go_sem]
   refine tele_move rfl (.inl rfl) rfl (isV (.int .i64 (i : Int))) (fun ρ w' h => h) ?_
   refine tele_move rfl (.inl rfl) rfl (isV (.pointer (some ⟨bl, 0, none⟩))) (fun ρ w' h => h) ?_
   refine tele_val rfl (.pointer (some ⟨bl, 0, none⟩)) (fun _ _ _ => rfl) ?_ ?_
   ·rintro ρ w' he ⟨h128, -⟩
    have e128 : ρ 128 = (.pointer (some ⟨bl, 0, none⟩)) := h128
    simp [execOp, evR, e128, go_sem]
   refine tele_val rfl (.pointer (some ⟨bl, 2, none⟩)) (fun _ _ _ => rfl) ?_ ?_
   ·rintro ρ w' he ⟨h129, -⟩
    have e129 : ρ 129 = (.pointer (some ⟨bl, 0, none⟩)) := h129
    simp [execOp, evR, e129, go_sem]
   refine tele_val rfl (.slice (some ⟨g, 0, none⟩) l.segs.length cv) (fun _ _ _ => rfl) ?_ ?_
   ·rintro ρ w' he ⟨h130, -⟩
    have e130 : ρ 130 = (.pointer (some ⟨bl, 2, none⟩)) := h130
    have c := (HC4.out.hl.ext he).str.blk.cell (i := 2) rfl
    simp [execOp, evR, e130, c, go_sem]
   refine tele_move rfl (.inl rfl) rfl (isV (.int .i64 (i : Int))) (fun ρ w' h => h) ?_
   refine tele_val rfl (.pointer (some ⟨g, i * 3, none⟩)) (fun _ _ _ => rfl) ?_ ?_
   ·rintro ρ w' he ⟨h131, h132, -⟩
    have e131 : ρ 131 = (.slice (some ⟨g, 0, none⟩) l.segs.length cv) := h131
    have e132 : ρ 132 = (.int .i64 (i : Int)) := h132
    exact index_rseg rfl e131 e132 HIL.out
   refine tele_val rfl (.pointer (some ⟨g, i * 3 + 2, none⟩)) (fun _ _ _ => rfl) ?_ ?_
   ·rintro ρ w' he ⟨h133, -⟩
    have e133 : ρ 133 = (.pointer (some ⟨g, i * 3, none⟩)) := h133
    simp [execOp, evR, e133, go_sem]
   refine tele_val rfl (.int .i64 (l.last.bytes : Int)) (fun _ _ _ => rfl) ?_ ?_
   ·rintro ρ w' he ⟨h134, -⟩
    have e134 : ρ 134 = (.pointer (some ⟨g, i * 3 + 2, none⟩)) := h134
    have c := (RlM.cells (HC4.out.hl.ext he) HI3.out).2.2
    simp [execOp, evR, e134, c, go_sem]
   refine tele_move rfl (.inl rfl) rfl (isV (.slice A2 n2 c2)) (fun ρ w' h => h) ?_
   refine tele_val rfl (.int .i64 (n2 : Int)) (fun _ _ _ => rfl) ?_ ?_
   ·rintro ρ w' he ⟨h136, -⟩
    have e136 : ρ 136 = (.slice A2 n2 c2) := h136
    simp [execOp, evR, e136, go_sem]
   refine tele_val rfl (.int .i64 ((l.last.bytes + n2 : Nat) : Int)) (fun _ _ _ => rfl) ?_ ?_
   ·rintro ρ w' he ⟨h135, h137, -⟩
    have e135 : ρ 135 = (.int .i64 (l.last.bytes : Int)) := h135
    have e137 : ρ 137 = (.int .i64 (n2 : Int)) := h137
    have hw := HW2.out
    simp [execOp, evR, e135, e137, hw, go_sem]
   refine tele_val rfl (.pointer (some ⟨g, i * 3, none⟩)) (fun _ _ _ => rfl) ?_ ?_
   ·rintro ρ w' he ⟨h126, h127, -⟩
    have e126 : ρ 126 = (.slice (some ⟨g, 0, none⟩) l.segs.length cv) := h126
    have e127 : ρ 127 = (.int .i64 (i : Int)) := h127
    exact index_rseg rfl e126 e127 HIL.out
   refine tele_val rfl (.pointer (some ⟨g, i * 3 + 2, none⟩)) (fun _ _ _ => rfl) ?_ ?_
   ·rintro ρ w' he ⟨h139, -⟩
    have e139 : ρ 139 = (.pointer (some ⟨g, i * 3, none⟩)) := h139
    simp [execOp, evR, e139, go_sem]
   refine tele_nil ?_
   rintro ρ w' hext ⟨f140, f139, f138, f137, f136, f135, f134, f133, f132, f131, f130, f129, f128, f127, f126, f125, f124, f123, -⟩
   replace f138 : ρ 138 = (.int .i64 ((l.last.bytes + n2 : Nat) : Int)) := f138
   replace f140 : ρ 140 = (.pointer (some ⟨g, i * 3 + 2, none⟩)) := f140
   simp only [puts, Act.put, List.setIfInBounds_toArray, List.set_cons_zero, List.set_cons_succ]
   have hc5 := HC4.out.ext hext
   have HS5 := Lib.hid (HS4.out.ext hext)
   have c1 := (RlM.cells hc5.hl HI3.out).2.2
   have hrow5 := hc5.hl.row
   rw [HU2.out] at hrow5
   have t1 := hrow5.frozenAt (i * 3 + 2)
   clear hrow5
   have hup := hc5.hl.up2 HNE.out n2 HI.out
   obtain ⟨hc6, hs6⟩ := hc5.put hup (Kb.set _ w' g (i * 3 + 2) _ (.inr rfl)) (fun _ h => .inl h)
   have HS6 := Lib.hid (HS5.out.trans hs6)
   have HC6 := Lib.hid hc6
   obtain ⟨hue, hul, hula⟩ := Lg.up_segs l n2 HNE.out
   have hunx := Lg.up_next l n2 HNE.out
   have hw3 : IntKind.i64.wrap (((l.up n2).next : Int) - 1) = (((l.up n2).next - 1 : Nat) : Int) := by rw [IntWalk.i64_in _ (by have := HNX.out; omega)]; omega
   have HKN := Lib.hid (rlNext_any hc6.hl hue (by have := HNX.out; omega))
   rw [f138, f140]
   clear f123 f124 f125 f126 f127 f128 f129 f130 f131 f132 f133 f134 f135 f136 f137 f138 f139 f140 hext hc5 hup hc6 hs6 HC4 HS4 HS5 hue hul hula hunx HW1 HW2 HI3 HI2
   obtain ⟨L2, hL2⟩ : ∃ L2, L2 = l.up n2 := ⟨_, rfl⟩
   rw [← hL2] at HKN HC6 HWP hw3
   generalize hq2 : l.last.bytes + n2 = q2 at HC6 HS6 HKN ⊢
   clear hq2
   generalize L2.next - 1 = q5 at *
   generalize L2.next = q6 at *
   clear hL2
   go_wp2_with fail
   refine HKN.out.mono ?_
   rintro e w5 ⟨rfl, hx5⟩
   go_wp2_with fail
   go_ret2
   rw [HWP.out]
   exact ⟨rfl, s2, _, HC6.out.ext hx5, HS6.out.ext hx5⟩
 by_cases hfull : l.size < l.last.bytes + n2
 rotate_left
 ·have HWP := Lib.hid (HAU.out.trans (if_neg (fun h => hfull h.2)))
  refine wp_region_mono (by kernel_rfl) (by kernel_rfl) ?_
  refine tele_move rfl (.inl rfl) rfl (isV (.pointer (some ⟨bl, 0, none⟩))) (fun ρ w' h => h) ?_
  refine tele_val rfl (.pointer (some ⟨bl, 0, none⟩)) (fun _ _ _ => rfl) ?_ ?_
  ·rintro ρ w' he ⟨h28, -⟩
   have e28 : ρ 28 = (.pointer (some ⟨bl, 0, none⟩)) := h28
   simp [execOp, evR, e28, go_sem]
  refine tele_val rfl (.pointer (some ⟨bl, 2, none⟩)) (fun _ _ _ => rfl) ?_ ?_
  ·rintro ρ w' he ⟨h29, -⟩
   have e29 : ρ 29 = (.pointer (some ⟨bl, 0, none⟩)) := h29
   simp [execOp, evR, e29, go_sem]
  refine tele_val rfl (.slice (some ⟨g, 0, none⟩) l.segs.length cv) (fun _ _ _ => rfl) ?_ ?_
  ·rintro ρ w' he ⟨h30, -⟩
   have e30 : ρ 30 = (.pointer (some ⟨bl, 2, none⟩)) := h30
   have c := (HC.out.hl.ext he).str.blk.cell (i := 2) rfl
   simp [execOp, evR, e30, c, go_sem]
  refine tele_move rfl (.inl rfl) rfl (isV (.int .i64 (i : Int))) (fun ρ w' h => h) ?_
  refine tele_val rfl (.pointer (some ⟨g, i * 3, none⟩)) (fun _ _ _ => rfl) ?_ ?_
  ·rintro ρ w' he ⟨h31, h32, -⟩
   have e31 : ρ 31 = (.slice (some ⟨g, 0, none⟩) l.segs.length cv) := h31
   have e32 : ρ 32 = (.int .i64 (i : Int)) := h32
   exact index_rseg rfl e31 e32 HIL.out
  refine tele_val rfl (.pointer (some ⟨g, i * 3 + 1, none⟩)) (fun _ _ _ => rfl) ?_ ?_
  ·rintro ρ w' he ⟨h33, -⟩
   have e33 : ρ 33 = (.pointer (some ⟨g, i * 3, none⟩)) := h33
   simp [execOp, evR, e33, go_sem]
  refine tele_val rfl (.int .i64 (l.last.count : Int)) (fun _ _ _ => rfl) ?_ ?_
  ·rintro ρ w' he ⟨h34, -⟩
   have e34 : ρ 34 = (.pointer (some ⟨g, i * 3 + 1, none⟩)) := h34
   have c := (RlM.cells (HC.out.hl.ext he) HI2.out).2.1
   simp [execOp, evR, e34, c, go_sem]
  refine tele_val rfl (.bool true) (fun _ _ _ => rfl) ?_ ?_
  ·rintro ρ w' he ⟨h35, -⟩
   have e35 : ρ 35 = (.int .i64 (l.last.count : Int)) := h35
   simp [execOp, evR, e35, go_sem]
   omega
  refine tele_move rfl (.inl rfl) rfl (isV (.bool true)) (fun ρ w' h => h) ?_
  refine tele_val rfl ((.pointer (some ⟨bl, 0, none⟩))) (fun ρ w' hk => by obtain ⟨_, hg, -⟩ := hk; have eg : ρ 37 = (.bool true) := hg; simp [wantedR, Region.wanted, asBoolR, eg]) ?_ ?_
  ·rintro ρ w' he ⟨h0, -⟩
   have e0 : ρ 0 = (.pointer (some ⟨bl, 0, none⟩)) := h0
   simp [execOp, evR, e0]
  refine tele_val rfl (.pointer (some ⟨bl, 0, none⟩)) (fun ρ w' hk => by obtain ⟨_, hg, -⟩ := hk; have eg : ρ 37 = (.bool true) := hg; simp [wantedR, Region.wanted, asBoolR, eg]) ?_ ?_
  ·rintro ρ w' he ⟨h38, -⟩
   have e38 : ρ 38 = (.pointer (some ⟨bl, 0, none⟩)) := h38
   simp [execOp, evR, e38, go_sem]
  refine tele_val rfl (.pointer (some ⟨bl, 2, none⟩)) (fun ρ w' hk => by obtain ⟨_, hg, -⟩ := hk; have eg : ρ 37 = (.bool true) := hg; simp [wantedR, Region.wanted, asBoolR, eg]) ?_ ?_
  ·rintro ρ w' he ⟨h39, -⟩
   have e39 : ρ 39 = (.pointer (some ⟨bl, 0, none⟩)) := h39
   simp [execOp, evR, e39, go_sem]
  refine tele_val rfl (.slice (some ⟨g, 0, none⟩) l.segs.length cv) (fun ρ w' hk => by obtain ⟨_, hg, -⟩ := hk; have eg : ρ 37 = (.bool true) := hg; simp [wantedR, Region.wanted, asBoolR, eg]) ?_ ?_
  ·rintro ρ w' he ⟨h40, -⟩
   have e40 : ρ 40 = (.pointer (some ⟨bl, 2, none⟩)) := h40
   have c := (HC.out.hl.ext he).str.blk.cell (i := 2) rfl
   simp [execOp, evR, e40, c, go_sem]
  refine tele_val rfl ((.int .i64 (i : Int))) (fun ρ w' hk => by obtain ⟨_, hg, -⟩ := hk; have eg : ρ 37 = (.bool true) := hg; simp [wantedR, Region.wanted, asBoolR, eg]) ?_ ?_
  ·rintro ρ w' he ⟨h7, -⟩
   have e7 : ρ 7 = (.int .i64 (i : Int)) := h7
   simp [execOp, evR, e7]
  refine tele_val rfl (.pointer (some ⟨g, i * 3, none⟩)) (fun ρ w' hk => by obtain ⟨_, _, hg, -⟩ := hk; have eg : ρ 37 = (.bool true) := hg; simp [wantedR, Region.wanted, asBoolR, eg]) ?_ ?_
  ·rintro ρ w' he ⟨h41, h42, -⟩
   have e41 : ρ 41 = (.slice (some ⟨g, 0, none⟩) l.segs.length cv) := h41
   have e42 : ρ 42 = (.int .i64 (i : Int)) := h42
   exact index_rseg rfl e41 e42 HIL.out
  refine tele_val rfl (.pointer (some ⟨g, i * 3 + 2, none⟩)) (fun ρ w' hk => by obtain ⟨_, hg, -⟩ := hk; have eg : ρ 37 = (.bool true) := hg; simp [wantedR, Region.wanted, asBoolR, eg]) ?_ ?_
  ·rintro ρ w' he ⟨h43, -⟩
   have e43 : ρ 43 = (.pointer (some ⟨g, i * 3, none⟩)) := h43
   simp [execOp, evR, e43, go_sem]
  refine tele_val rfl (.int .i64 (l.last.bytes : Int)) (fun ρ w' hk => by obtain ⟨_, hg, -⟩ := hk; have eg : ρ 37 = (.bool true) := hg; simp [wantedR, Region.wanted, asBoolR, eg]) ?_ ?_
  ·rintro ρ w' he ⟨h44, -⟩
   have e44 : ρ 44 = (.pointer (some ⟨g, i * 3 + 2, none⟩)) := h44
   have c := (RlM.cells (HC.out.hl.ext he) HI2.out).2.2
   simp [execOp, evR, e44, c, go_sem]
  refine tele_val rfl ((.slice A2 n2 c2)) (fun ρ w' hk => by obtain ⟨_, hg, -⟩ := hk; have eg : ρ 37 = (.bool true) := hg; simp [wantedR, Region.wanted, asBoolR, eg]) ?_ ?_
  ·rintro ρ w' he ⟨h6, -⟩
   have e6 : ρ 6 = (.slice A2 n2 c2) := h6
   simp [execOp, evR, e6]
  refine tele_val rfl (.int .i64 (n2 : Int)) (fun ρ w' hk => by obtain ⟨_, hg, -⟩ := hk; have eg : ρ 37 = (.bool true) := hg; simp [wantedR, Region.wanted, asBoolR, eg]) ?_ ?_
  ·rintro ρ w' he ⟨h46, -⟩
   have e46 : ρ 46 = (.slice A2 n2 c2) := h46
   simp [execOp, evR, e46, go_sem]
  refine tele_val rfl (.int .i64 ((l.last.bytes : Int) + (n2 : Int))) (fun ρ w' hk => by obtain ⟨_, _, hg, -⟩ := hk; have eg : ρ 37 = (.bool true) := hg; simp [wantedR, Region.wanted, asBoolR, eg]) ?_ ?_
  ·rintro ρ w' he ⟨h45, h47, -⟩
   have e45 : ρ 45 = (.int .i64 (l.last.bytes : Int)) := h45
   have e47 : ρ 47 = (.int .i64 (n2 : Int)) := h47
   have hw := HW45.out
   simp [execOp, evR, e45, e47, hw, go_sem]
  refine tele_val rfl ((.pointer (some ⟨bl, 0, none⟩))) (fun ρ w' hk => by obtain ⟨_, hg, -⟩ := hk; have eg : ρ 37 = (.bool true) := hg; simp [wantedR, Region.wanted, asBoolR, eg]) ?_ ?_
  ·rintro ρ w' he ⟨h0, -⟩
   have e0 : ρ 0 = (.pointer (some ⟨bl, 0, none⟩)) := h0
   simp [execOp, evR, e0]
  refine tele_val rfl (.pointer (some ⟨bl, 0, none⟩)) (fun ρ w' hk => by obtain ⟨_, hg, -⟩ := hk; have eg : ρ 37 = (.bool true) := hg; simp [wantedR, Region.wanted, asBoolR, eg]) ?_ ?_
  ·rintro ρ w' he ⟨h49, -⟩
   have e49 : ρ 49 = (.pointer (some ⟨bl, 0, none⟩)) := h49
   simp [execOp, evR, e49, go_sem]
  refine tele_val rfl (.pointer (some ⟨bl, 1, none⟩)) (fun ρ w' hk => by obtain ⟨_, hg, -⟩ := hk; have eg : ρ 37 = (.bool true) := hg; simp [wantedR, Region.wanted, asBoolR, eg]) ?_ ?_
  ·rintro ρ w' he ⟨h50, -⟩
   have e50 : ρ 50 = (.pointer (some ⟨bl, 0, none⟩)) := h50
   simp [execOp, evR, e50, go_sem]
  refine tele_val rfl (.int .i64 (l.size : Int)) (fun ρ w' hk => by obtain ⟨_, hg, -⟩ := hk; have eg : ρ 37 = (.bool true) := hg; simp [wantedR, Region.wanted, asBoolR, eg]) ?_ ?_
  ·rintro ρ w' he ⟨h51, -⟩
   have e51 : ρ 51 = (.pointer (some ⟨bl, 1, none⟩)) := h51
   have c := (HC.out.hl.ext he).str.blk.cell (i := 1) rfl
   simp [execOp, evR, e51, c, go_sem]
  refine tele_val rfl (.bool false) (fun ρ w' hk => by obtain ⟨_, _, hg, -⟩ := hk; have eg : ρ 37 = (.bool true) := hg; simp [wantedR, Region.wanted, asBoolR, eg]) ?_ ?_
  ·rintro ρ w' he ⟨h48, h52, -⟩
   have e48 : ρ 48 = (.int .i64 ((l.last.bytes : Int) + (n2 : Int))) := h48
   have e52 : ρ 52 = (.int .i64 (l.size : Int)) := h52
   simp [execOp, evR, e48, e52, go_sem]
   omega
  refine tele_val rfl (.bool false) (fun _ _ _ => rfl) ?_ ?_
  ·rintro ρ w' he ⟨h37, h53, -⟩
   have e37 : ρ 37 = (.bool true) := h37
   have e53 : ρ 53 = (.bool false) := h53
   simp [execOp, evR, e37, e53, go_sem]
  refine tele_nil ?_
  rintro ρ wb hext ⟨f54, f53, f52, f51, f50, f49, f48, f47, f46, f45, f44, f43, f42, f41, f40, f39, f38, f37, f36, f35, f34, f33, f32, f31, f30, f29, f28, -⟩
  replace f54 : ρ 54 = (.bool false) := f54
  simp only [puts, Act.put, List.setIfInBounds_toArray, List.set_cons_zero, List.set_cons_succ]
  rw [f54]
  clear f28 f29 f30 f31 f32 f33 f34 f35 f36 f37 f38 f39 f40 f41 f42 f43 f44 f45 f46 f47 f48 f49 f50 f51 f52 f53 f54
  replace HC := Lib.hid (HC.out.ext hext)
  replace HK := Lib.hid (HK.out.ext hext)
  replace HB := Lib.hid (HB.out.ext hext)
  replace HFB := Lib.hid (show ∀ j, (Value.slice A2 n2 c2).ownBlock = some j → j < wb.heap.size ∧ ¬ rfp br bl s (.slice (some ⟨g, 0, none⟩) l.segs.length cv) j from fun j hj => ⟨Nat.lt_of_lt_of_le (HFB.out j hj).1 hext.size, (HFB.out j hj).2⟩)
  clear hext HI2 HW45 HIL
  have HI2 := Lib.hid (show l.segs[i]? = some l.last by have h := Lg.last_at HNE.out; rw [show l.segs.length - 1 = i by have := HI.out; omega] at h; exact h)
  go_wp2_with fail
  refine wp_region_tok [false, false, false, false, false, false, false, false, false, false, false, false, false, true, false, true, true, false] (Kb (FFr wb br s)) (fun c w => if c < 2 then RkM W0.heap.size w br s d else ∃ s2, RkM W0.heap.size w br s2 (dAppend d (wname (l.last.frm : Int)) (wrap rec)).1 ∧ ∀ k, rall br s2 k → FFr wb br s k) 3 (by kernel_rfl) (by kernel_rfl) (by kernel_rfl) (by kernel_rfl) (preKb' _) (Kb.of_ext (ext_drew wb)) (HC.out.hd.ext (ext_drew wb)) ?_
  refine tok_val rfl (.pointer (some ⟨bl, 0, none⟩)) (fun _ _ _ => rfl) ?_ ?_
  ·rintro ρ w' he ⟨h0, -⟩
   have e0 : ρ 0 = .pointer (some ⟨bl, 0, none⟩) := h0
   simp [execOp, evR, e0, go_sem]
  refine tok_val rfl (.pointer (some ⟨bl, 0, none⟩)) (fun _ _ _ => rfl) ?_ ?_
  ·rintro ρ w' he ⟨h0, -⟩
   have e0 : ρ 0 = .pointer (some ⟨bl, 0, none⟩) := h0
   simp [execOp, evR, e0, go_sem]
  refine tok_val rfl (.pointer (some ⟨bl, 0, none⟩)) (fun _ _ _ => rfl) ?_ ?_
  ·rintro ρ w' he ⟨h88, -⟩
   have e88 : ρ 88 = .pointer (some ⟨bl, 0, none⟩) := h88
   simp [execOp, evR, e88, go_sem]
  refine tok_val rfl (.pointer (some ⟨bl, 0, none⟩)) (fun _ _ _ => rfl) ?_ ?_
  ·rintro ρ w' he ⟨h89, -⟩
   have e89 : ρ 89 = .pointer (some ⟨bl, 0, none⟩) := h89
   simp [execOp, evR, e89, go_sem]
  refine tok_val rfl (.pointer (some ⟨br, 0, none⟩)) (fun _ _ _ => rfl) ?_ ?_
  ·rintro ρ w' he ⟨h90, -⟩
   have e90 : ρ 90 = .pointer (some ⟨bl, 0, none⟩) := h90
   have c := (HC.out.log he).str.blk.cell (i := 0) rfl
   simp [execOp, evR, e90, c, go_sem]
  refine tok_val rfl (.pointer (some ⟨bl, 0, none⟩)) (fun _ _ _ => rfl) ?_ ?_
  ·rintro ρ w' he ⟨h0, -⟩
   have e0 : ρ 0 = .pointer (some ⟨bl, 0, none⟩) := h0
   simp [execOp, evR, e0, go_sem]
  refine tok_val rfl (.pointer (some ⟨bl, 0, none⟩)) (fun _ _ _ => rfl) ?_ ?_
  ·rintro ρ w' he ⟨h92, -⟩
   have e92 : ρ 92 = .pointer (some ⟨bl, 0, none⟩) := h92
   simp [execOp, evR, e92, go_sem]
  refine tok_val rfl (.pointer (some ⟨bl, 2, none⟩)) (fun _ _ _ => rfl) ?_ ?_
  ·rintro ρ w' he ⟨h93, -⟩
   have e93 : ρ 93 = .pointer (some ⟨bl, 0, none⟩) := h93
   simp [execOp, evR, e93, go_sem]
  refine tok_val rfl (.slice (some ⟨g, 0, none⟩) l.segs.length cv) (fun _ _ _ => rfl) ?_ ?_
  ·rintro ρ w' he ⟨h94, -⟩
   have e94 : ρ 94 = .pointer (some ⟨bl, 2, none⟩) := h94
   have c := (HC.out.log he).str.blk.cell (i := 2) rfl
   simp [execOp, evR, e94, c, go_sem]
  refine tok_val rfl (.int .i64 (i : Int)) (fun _ _ _ => rfl) ?_ ?_
  ·rintro ρ w' he ⟨h7, -⟩
   have e7 : ρ 7 = .int .i64 (i : Int) := h7
   simp [execOp, evR, e7, go_sem]
  refine tok_val rfl (.pointer (some ⟨g, i * 3, none⟩)) (fun _ _ _ => rfl) ?_ ?_
  ·rintro ρ w' he ⟨h95, h96, -⟩
   have e95 : ρ 95 = .slice (some ⟨g, 0, none⟩) l.segs.length cv := h95
   have e96 : ρ 96 = .int .i64 (i : Int) := h96
   exact index_rseg rfl e95 e96 (by have := HI.out; omega)
  refine tok_val rfl (.pointer (some ⟨g, i * 3, none⟩)) (fun _ _ _ => rfl) ?_ ?_
  ·rintro ρ w' he ⟨h97, -⟩
   have e97 : ρ 97 = .pointer (some ⟨g, i * 3, none⟩) := h97
   simp [execOp, evR, e97, go_sem]
  refine tok_val rfl (.int .i64 (l.last.frm : Int)) (fun _ _ _ => rfl) ?_ ?_
  ·rintro ρ w' he ⟨h98, -⟩
   have e98 : ρ 98 = .pointer (some ⟨g, i * 3, none⟩) := h98
   have c := (RlM.cells (HC.out.log he) HI2.out).1
   simp [execOp, evR, e98, c, go_sem]
  refine tok_call rfl rfl Tryz.func51 (by kernel_rfl) (fun v _ => v = .string ⟨(wname (l.last.frm : Int)).toArray⟩) (fun _ _ _ h _ => h) (fun _ _ _ => rfl) ?_ ?_
  ·rintro ρ w' he ht ⟨h99, -⟩
   have e99 : ρ 99 = .int .i64 (l.last.frm : Int) := h99
   simp only [evR, List.map_toArray, List.map_cons, List.map_nil, e99]
   have hp : RkM W0.heap.size w' br s d := ht
   refine (refWName_any ((l.last.frm : Int) : Int) w').mono ?_
   rintro e w2 ⟨rfl, hx2⟩
   exact ⟨_, rfl, Kb.of_ext hx2, rfl, hp.ext hx2⟩
  refine tok_val rfl (.slice A2 n2 c2) (fun _ _ _ => rfl) ?_ ?_
  ·rintro ρ w' he ⟨h6, -⟩
   have e6 : ρ 6 = .slice A2 n2 c2 := h6
   simp [execOp, evR, e6, go_sem]
  refine tok_call rfl rfl Tryz.func66 (by kernel_rfl) (fun v _ => v = .int .i64 ((dAppend d (wname (l.last.frm : Int)) (wrap rec)).2 : Int)) (fun _ _ _ h _ => h) (fun _ _ _ => rfl) ?_ ?_
  ·rintro ρ w' he ht ⟨h91, h100, h101, -⟩
   have e91 : ρ 91 = .pointer (some ⟨br, 0, none⟩) := h91
   have e100 : ρ 100 = .string ⟨(wname (l.last.frm : Int)).toArray⟩ := h100
   have e101 : ρ 101 = .slice A2 n2 c2 := h101
   simp only [evR, List.map_toArray, List.map_cons, List.map_nil, e91, e100, e101]
   have hp : RkM W0.heap.size w' br s d := ht
   refine (rappend_any hp HOK.out HSM.out (HC.out.ext_ he).size (wname (l.last.frm : Int)) (HB.out.kb he (fun j hj hq => hq.elim (fun h => (HFB.out j hj).2 (.inl h)) (fun hs => Nat.not_lt.2 hs (HFB.out j hj).1))) (fun j hj _ hq => (HFB.out j hj).2 (.inl hq)) (by rw [HN2.out]; exact Nat.le_trans HN2L.out (by decide))).mono ?_
   rintro e w2 hq
   exact tok_rk he hq
  refine tok_call rfl rfl Tryz.func71 (by kernel_rfl) (fun v _ => v = .int .i64 (didE (dAppend d (wname (l.last.frm : Int)) (wrap rec)).2 : Int)) (fun _ _ _ h _ => h) (fun _ _ _ => rfl) ?_ ?_
  ·rintro ρ w' he ht ⟨h87, h102, -⟩
   have e87 : ρ 87 = .pointer (some ⟨bl, 0, none⟩) := h87
   have e102 : ρ 102 = .int .i64 ((dAppend d (wname (l.last.frm : Int)) (wrap rec)).2 : Int) := h102
   simp only [evR, List.map_toArray, List.map_cons, List.map_nil, e87, e102]
   have hp : ∃ s2, RkM W0.heap.size w' br s2 (dAppend d (wname (l.last.frm : Int)) (wrap rec)).1 ∧ ∀ k, rall br s2 k → FFr wb br s k := ht
   refine (rldid_any _ (dAppend d (wname (l.last.frm : Int)) (wrap rec)).2 w').mono ?_
   rintro e w2 ⟨rfl, rfl⟩
   exact ⟨_, rfl, Kb.refl _ _, rfl, hp⟩
  refine tok_val rfl (.int .i64 (didE (dAppend d (wname (l.last.frm : Int)) (wrap rec)).2 : Int)) (fun _ _ _ => rfl) ?_ ?_
  ·rintro ρ w' he ⟨h103, -⟩
   have e103 : ρ 103 = .int .i64 (didE (dAppend d (wname (l.last.frm : Int)) (wrap rec)).2 : Int) := h103
   simp [execOp, evR, e103, go_sem]
  refine tok_nil ?_
  rintro ρ w' hle htk ⟨f10, f103, f102, f101, f100, f99, f98, f97, f96, f95, f94, f93, f92, f91, f90, f89, f88, f87, -⟩ -
  replace f10 : ρ 10 = .int .i64 (didE (dAppend d (wname (l.last.frm : Int)) (wrap rec)).2 : Int) := f10
  simp only [puts, Act.put, List.setIfInBounds_toArray, List.set_cons_zero, List.set_cons_succ]
  rw [f10]
  clear f10 f87 f88 f89 f90 f91 f92 f93 f94 f95 f96 f97 f98 f99 f100 f101 f102 f103
  obtain ⟨s2, hd2, hf2⟩ := (show ∃ s2, RkM W0.heap.size w' br s2 (dAppend d (wname (l.last.frm : Int)) (wrap rec)).1 ∧ ∀ k, rall br s2 k → FFr wb br s k from htk)
  obtain ⟨hc2, hs2⟩ := HC.out.diskF hle hd2 hf2
  have HS2 := Lib.hid (HK.out.trans hs2)
  have HC2 := Lib.hid hc2
  replace HWP := Lib.hid (HWP.out.trans (show wPut d l (wrap rec) = if didE (dAppend d (wname (l.last.frm : Int)) (wrap rec)).2 ≠ 0 then (((dAppend d (wname (l.last.frm : Int)) (wrap rec)).1, l), 0, didE (dAppend d (wname (l.last.frm : Int)) (wrap rec)).2) else (((dAppend d (wname (l.last.frm : Int)) (wrap rec)).1, l.up (wrap rec).length), (l.up (wrap rec).length).next - 1, 0) from rfl))
  clear hd2 hf2 hs2 hc2 hle htk HC HK
  generalize dAppend d (wname (l.last.frm : Int)) (wrap rec) = x at *
  generalize didE x.2 = m at *
  by_cases hm : m = 0
  rotate_left
  ·have hm1 : ¬ (m : Int) = 0 := by omega
   rw [if_pos hm] at HWP
   clear hm
   go_wp2_with fail
   go_ret2
   rw [HWP.out]
   exact ⟨rfl, s2, _, HC2.out, HS2.out⟩
  ·subst hm
   rw [if_neg (by omega), HN2.out] at HWP
   have hil : i < l.segs.length := by have := HI.out; omega
   have HIL := Lib.hid hil
   have HW1 := Lib.hid (show IntKind.i64.wrap ((l.last.count : Int) + 1) = ((l.last.count + 1 : Nat) : Int) by rw [IntWalk.i64_in _ (by have := HNX.out; unfold Lg.next at this; omega)]; omega)
   have HW2 := Lib.hid (show IntKind.i64.wrap ((l.last.bytes : Int) + (n2 : Int)) = ((l.last.bytes + n2 : Nat) : Int) by rw [IntWalk.i64_in _ (by have := HBY.out; have := HN2L.out; omega)]; omega)
   clear hil
   go_wp2_with fail
   refine wp_region_last_lit (by kernel_rfl) rfl (by kernel_rfl) (by kernel_rfl) ?_
   refine tele_move rfl (.inl rfl) rfl (isV (.pointer (some ⟨bl, 0, none⟩))) (fun ρ w' h => h) ?_
   refine tele_val rfl (.pointer (some ⟨bl, 0, none⟩)) (fun _ _ _ => rfl) ?_ ?_
   ·rintro ρ w' he ⟨h107, -⟩
    have e107 : ρ 107 = (.pointer (some ⟨bl, 0, none⟩)) := h107
    simp [execOp, evR, e107, go_sem]
   refine tele_val rfl (.pointer (some ⟨bl, 2, none⟩)) (fun _ _ _ => rfl) ?_ ?_
   ·rintro ρ w' he ⟨h108, -⟩
    have e108 : ρ 108 = (.pointer (some ⟨bl, 0, none⟩)) := h108
    simp [execOp, evR, e108, go_sem]
   refine tele_val rfl (.slice (some ⟨g, 0, none⟩) l.segs.length cv) (fun _ _ _ => rfl) ?_ ?_
   ·rintro ρ w' he ⟨h109, -⟩
    have e109 : ρ 109 = (.pointer (some ⟨bl, 2, none⟩)) := h109
    have c := (HC2.out.hl.ext he).str.blk.cell (i := 2) rfl
    simp [execOp, evR, e109, c, go_sem]
   refine tele_move rfl (.inl rfl) rfl (isV (.int .i64 (i : Int))) (fun ρ w' h => h) ?_
   refine tele_move rfl (.inl rfl) rfl (isV (.pointer (some ⟨bl, 0, none⟩))) (fun ρ w' h => h) ?_
   refine tele_val rfl (.pointer (some ⟨bl, 0, none⟩)) (fun _ _ _ => rfl) ?_ ?_
   ·rintro ρ w' he ⟨h112, -⟩
    have e112 : ρ 112 = (.pointer (some ⟨bl, 0, none⟩)) := h112
    simp [execOp, evR, e112, go_sem]
   refine tele_val rfl (.pointer (some ⟨bl, 2, none⟩)) (fun _ _ _ => rfl) ?_ ?_
   ·rintro ρ w' he ⟨h113, -⟩
    have e113 : ρ 113 = (.pointer (some ⟨bl, 0, none⟩)) := h113
    simp [execOp, evR, e113, go_sem]
   refine tele_val rfl (.slice (some ⟨g, 0, none⟩) l.segs.length cv) (fun _ _ _ => rfl) ?_ ?_
   ·rintro ρ w' he ⟨h114, -⟩
    have e114 : ρ 114 = (.pointer (some ⟨bl, 2, none⟩)) := h114
    have c := (HC2.out.hl.ext he).str.blk.cell (i := 2) rfl
    simp [execOp, evR, e114, c, go_sem]
   refine tele_move rfl (.inl rfl) rfl (isV (.int .i64 (i : Int))) (fun ρ w' h => h) ?_
   refine tele_val rfl (.pointer (some ⟨g, i * 3, none⟩)) (fun _ _ _ => rfl) ?_ ?_
   ·rintro ρ w' he ⟨h115, h116, -⟩
    have e115 : ρ 115 = (.slice (some ⟨g, 0, none⟩) l.segs.length cv) := h115
    have e116 : ρ 116 = (.int .i64 (i : Int)) := h116
    exact index_rseg rfl e115 e116 HIL.out
   refine tele_val rfl (.pointer (some ⟨g, i * 3 + 1, none⟩)) (fun _ _ _ => rfl) ?_ ?_
   ·rintro ρ w' he ⟨h117, -⟩
    have e117 : ρ 117 = (.pointer (some ⟨g, i * 3, none⟩)) := h117
    simp [execOp, evR, e117, go_sem]
   refine tele_val rfl (.int .i64 (l.last.count : Int)) (fun _ _ _ => rfl) ?_ ?_
   ·rintro ρ w' he ⟨h118, -⟩
    have e118 : ρ 118 = (.pointer (some ⟨g, i * 3 + 1, none⟩)) := h118
    have c := (RlM.cells (HC2.out.hl.ext he) HI2.out).2.1
    simp [execOp, evR, e118, c, go_sem]
   refine tele_val rfl (.int .i64 ((l.last.count + 1 : Nat) : Int)) (fun _ _ _ => rfl) ?_ ?_
   ·rintro ρ w' he ⟨h119, -⟩
    have e119 : ρ 119 = (.int .i64 (l.last.count : Int)) := h119
    have hw := HW1.out
    simp [execOp, evR, e119, hw, go_sem]
   refine tele_val rfl (.pointer (some ⟨g, i * 3, none⟩)) (fun _ _ _ => rfl) ?_ ?_
   ·rintro ρ w' he ⟨h110, h111, -⟩
    have e110 : ρ 110 = (.slice (some ⟨g, 0, none⟩) l.segs.length cv) := h110
    have e111 : ρ 111 = (.int .i64 (i : Int)) := h111
    exact index_rseg rfl e110 e111 HIL.out
   refine tele_val rfl (.pointer (some ⟨g, i * 3 + 1, none⟩)) (fun _ _ _ => rfl) ?_ ?_
   ·rintro ρ w' he ⟨h121, -⟩
    have e121 : ρ 121 = (.pointer (some ⟨g, i * 3, none⟩)) := h121
    simp [execOp, evR, e121, go_sem]
   refine tele_nil ?_
   rintro ρ w' hext ⟨f122, f121, f120, f119, f118, f117, f116, f115, f114, f113, f112, f111, f110, f109, f108, f107, -⟩
   replace f120 : ρ 120 = (.int .i64 ((l.last.count + 1 : Nat) : Int)) := f120
   replace f122 : ρ 122 = (.pointer (some ⟨g, i * 3 + 1, none⟩)) := f122
   simp only [puts, Act.put, List.setIfInBounds_toArray, List.set_cons_zero, List.set_cons_succ]
   have hc3 := HC2.out.ext hext
   have HS3 := Lib.hid (HS2.out.ext hext)
   have c1 := (RlM.cells hc3.hl HI2.out).2.1
   have t1 := hc3.hl.row.frozenAt (i * 3 + 1)
   have hup := hc3.hl.up1 HNE.out HI.out
   obtain ⟨hc4, hs4⟩ := hc3.put hup (Kb.set _ w' g (i * 3 + 1) _ (.inr rfl)) (fun _ h => .inl h)
   have HS4 := Lib.hid (HS3.out.trans hs4)
   have HC4 := Lib.hid hc4
   rw [f120, f122]
   generalize hq1 : l.last.count + 1 = q1 at HC4 HS4 ⊢
   clear hq1
   clear f107 f108 f109 f110 f111 f112 f113 f114 f115 f116 f117 f118 f119 f120 f121 f122 hext hc3 hup hc4 hs4 HC2 HS2 HS3
   go_wp2_with fail
   obtain ⟨w4, hw4⟩ : ∃ w4, w4 = w'.setCell ⟨g, i * 3 + 1, none⟩ (.int .i64 (q1 : Int)) := ⟨_, rfl⟩
   rw [← hw4] at HC4 HS4
   rw [← hw4]
   clear hw4 c1 t1
   obtain ⟨u1, u2, u3⟩ := Lg.upc_ne HNE.out
   have HI3 := Lib.hid (show l.upc.segs[i]? = some { l.last with count := l.last.count + 1 } by rw [show i = l.segs.length - 1 by have := HI.out; omega]; exact u3)
   have HU2 := Lib.hid u2
   clear u1 u2 u3
   refine wp_region_last_lit (by kernel_rfl) rfl (by kernel_rfl) (by kernel_rfl) ?_
   refine tele_move rfl (.inl rfl) rfl (isV (.pointer (some ⟨bl, 0, none⟩))) (fun ρ w' h => h) ?_
   refine tele_val rfl (.pointer (some ⟨bl, 0, none⟩)) (fun _ _ _ => rfl) ?_ ?_
   ·rintro ρ w' he ⟨h123, -⟩
    have e123 : ρ 123 = (.pointer (some ⟨bl, 0, none⟩)) := h123
    simp [execOp, evR, e123, go_sem]
   refine tele_val rfl (.pointer (some ⟨bl, 2, none⟩)) (fun _ _ _ => rfl) ?_ ?_
   ·rintro ρ w' he ⟨h124, -⟩
    have e124 : ρ 124 = (.pointer (some ⟨bl, 0, none⟩)) := h124
    simp [execOp, evR, e124, go_sem]
   refine tele_val rfl (.slice (some ⟨g, 0, none⟩) l.segs.length cv) (fun _ _ _ => rfl) ?_ ?_
   ·rintro ρ w' he ⟨h125, -⟩
    have e125 : ρ 125 = (.pointer (some ⟨bl, 2, none⟩)) := h125
    have c := (HC4.out.hl.ext he).str.blk.cell (i := 2) rfl
    simp [execOp, evR, e125, c, go_sem]
   refine tele_move rfl (.inl rfl) rfl (isV (.int .i64 (i : Int))) (fun ρ w' h => h) ?_
   refine tele_move rfl (.inl rfl) rfl (isV (.pointer (some ⟨bl, 0, none⟩))) (fun ρ w' h => h) ?_
   refine tele_val rfl (.pointer (some ⟨bl, 0, none⟩)) (fun _ _ _ => rfl) ?_ ?_
   ·rintro ρ w' he ⟨h128, -⟩
    have e128 : ρ 128 = (.pointer (some ⟨bl, 0, none⟩)) := h128
    simp [execOp, evR, e128, go_sem]
   refine tele_val rfl (.pointer (some ⟨bl, 2, none⟩)) (fun _ _ _ => rfl) ?_ ?_
   ·rintro ρ w' he ⟨h129, -⟩
    have e129 : ρ 129 = (.pointer (some ⟨bl, 0, none⟩)) := h129
    simp [execOp, evR, e129, go_sem]
   refine tele_val rfl (.slice (some ⟨g, 0, none⟩) l.segs.length cv) (fun _ _ _ => rfl) ?_ ?_
   ·rintro ρ w' he ⟨h130, -⟩
    have e130 : ρ 130 = (.pointer (some ⟨bl, 2, none⟩)) := h130
    have c := (HC4.out.hl.ext he).str.blk.cell (i := 2) rfl
    simp [execOp, evR, e130, c, go_sem]
   refine tele_move rfl (.inl rfl) rfl (isV (.int .i64 (i : Int))) (fun ρ w' h => h) ?_
   refine tele_val rfl (.pointer (some ⟨g, i * 3, none⟩)) (fun _ _ _ => rfl) ?_ ?_
   ·rintro ρ w' he ⟨h131, h132, -⟩
    have e131 : ρ 131 = (.slice (some ⟨g, 0, none⟩) l.segs.length cv) := h131
    have e132 : ρ 132 = (.int .i64 (i : Int)) := h132
    exact index_rseg rfl e131 e132 HIL.out
   refine tele_val rfl (.pointer (some ⟨g, i * 3 + 2, none⟩)) (fun _ _ _ => rfl) ?_ ?_
   ·rintro ρ w' he ⟨h133, -⟩
    have e133 : ρ 133 = (.pointer (some ⟨g, i * 3, none⟩)) := h133
    simp [execOp, evR, e133, go_sem]
   refine tele_val rfl (.int .i64 (l.last.bytes : Int)) (fun _ _ _ => rfl) ?_ ?_
   ·rintro ρ w' he ⟨h134, -⟩
    have e134 : ρ 134 = (.pointer (some ⟨g, i * 3 + 2, none⟩)) := h134
    have c := (RlM.cells (HC4.out.hl.ext he) HI3.out).2.2
    simp [execOp, evR, e134, c, go_sem]
   refine tele_move rfl (.inl rfl) rfl (isV (.slice A2 n2 c2)) (fun ρ w' h => h) ?_
   refine tele_val rfl (.int .i64 (n2 : Int)) (fun _ _ _ => rfl) ?_ ?_
   ·rintro ρ w' he ⟨h136, -⟩
    have e136 : ρ 136 = (.slice A2 n2 c2) := h136
    simp [execOp, evR, e136, go_sem]
   refine tele_val rfl (.int .i64 ((l.last.bytes + n2 : Nat) : Int)) (fun _ _ _ => rfl) ?_ ?_
   ·rintro ρ w' he ⟨h135, h137, -⟩
    have e135 : ρ 135 = (.int .i64 (l.last.bytes : Int)) := h135
    have e137 : ρ 137 = (.int .i64 (n2 : Int)) := h137
    have hw := HW2.out
    simp [execOp, evR, e135, e137, hw, go_sem]
   refine tele_val rfl (.pointer (some ⟨g, i * 3, none⟩)) (fun _ _ _ => rfl) ?_ ?_
   ·rintro ρ w' he ⟨h126, h127, -⟩
    have e126 : ρ 126 = (.slice (some ⟨g, 0, none⟩) l.segs.length cv) := h126
    have e127 : ρ 127 = (.int .i64 (i : Int)) := h127
    exact index_rseg rfl e126 e127 HIL.out
   refine tele_val rfl (.pointer (some ⟨g, i * 3 + 2, none⟩)) (fun _ _ _ => rfl) ?_ ?_
   ·rintro ρ w' he ⟨h139, -⟩
    have e139 : ρ 139 = (.pointer (some ⟨g, i * 3, none⟩)) := h139
    simp [execOp, evR, e139, go_sem]
   refine tele_nil ?_
   rintro ρ w' hext ⟨f140, f139, f138, f137, f136, f135, f134, f133, f132, f131, f130, f129, f128, f127, f126, f125, f124, f123, -⟩
   replace f138 : ρ 138 = (.int .i64 ((l.last.bytes + n2 : Nat) : Int)) := f138
   replace f140 : ρ 140 = (.pointer (some ⟨g, i * 3 + 2, none⟩)) := f140
   simp only [puts, Act.put, List.setIfInBounds_toArray, List.set_cons_zero, List.set_cons_succ]
   have hc5 := HC4.out.ext hext
   have HS5 := Lib.hid (HS4.out.ext hext)
   have c1 := (RlM.cells hc5.hl HI3.out).2.2
   have hrow5 := hc5.hl.row
   rw [HU2.out] at hrow5
   have t1 := hrow5.frozenAt (i * 3 + 2)
   clear hrow5
   have hup := hc5.hl.up2 HNE.out n2 HI.out
   obtain ⟨hc6, hs6⟩ := hc5.put hup (Kb.set _ w' g (i * 3 + 2) _ (.inr rfl)) (fun _ h => .inl h)
   have HS6 := Lib.hid (HS5.out.trans hs6)
   have HC6 := Lib.hid hc6
   obtain ⟨hue, hul, hula⟩ := Lg.up_segs l n2 HNE.out
   have hunx := Lg.up_next l n2 HNE.out
   have hw3 : IntKind.i64.wrap (((l.up n2).next : Int) - 1) = (((l.up n2).next - 1 : Nat) : Int) := by rw [IntWalk.i64_in _ (by have := HNX.out; omega)]; omega
   have HKN := Lib.hid (rlNext_any hc6.hl hue (by have := HNX.out; omega))
   rw [f138, f140]
   clear f123 f124 f125 f126 f127 f128 f129 f130 f131 f132 f133 f134 f135 f136 f137 f138 f139 f140 hext hc5 hup hc6 hs6 HC4 HS4 HS5 hue hul hula hunx HW1 HW2 HI3 HI2
   obtain ⟨L2, hL2⟩ : ∃ L2, L2 = l.up n2 := ⟨_, rfl⟩
   rw [← hL2] at HKN HC6 HWP hw3
   generalize hq2 : l.last.bytes + n2 = q2 at HC6 HS6 HKN ⊢
   clear hq2
   generalize L2.next - 1 = q5 at *
   generalize L2.next = q6 at *
   clear hL2
   go_wp2_with fail
   refine HKN.out.mono ?_
   rintro e w5 ⟨rfl, hx5⟩
   go_wp2_with fail
   go_ret2
   rw [HWP.out]
   exact ⟨rfl, s2, _, HC6.out.ext hx5, HS6.out.ext hx5⟩
 replace HAU := Lib.hid (HAU.out.trans (if_pos ⟨hcnt, hfull⟩))
 refine wp_region_mono (by kernel_rfl) (by kernel_rfl) ?_
 refine tele_move rfl (.inl rfl) rfl (isV (.pointer (some ⟨bl, 0, none⟩))) (fun ρ w' h => h) ?_
 refine tele_val rfl (.pointer (some ⟨bl, 0, none⟩)) (fun _ _ _ => rfl) ?_ ?_
 ·rintro ρ w' he ⟨h28, -⟩
  have e28 : ρ 28 = (.pointer (some ⟨bl, 0, none⟩)) := h28
  simp [execOp, evR, e28, go_sem]
 refine tele_val rfl (.pointer (some ⟨bl, 2, none⟩)) (fun _ _ _ => rfl) ?_ ?_
 ·rintro ρ w' he ⟨h29, -⟩
  have e29 : ρ 29 = (.pointer (some ⟨bl, 0, none⟩)) := h29
  simp [execOp, evR, e29, go_sem]
 refine tele_val rfl (.slice (some ⟨g, 0, none⟩) l.segs.length cv) (fun _ _ _ => rfl) ?_ ?_
 ·rintro ρ w' he ⟨h30, -⟩
  have e30 : ρ 30 = (.pointer (some ⟨bl, 2, none⟩)) := h30
  have c := (HC.out.hl.ext he).str.blk.cell (i := 2) rfl
  simp [execOp, evR, e30, c, go_sem]
 refine tele_move rfl (.inl rfl) rfl (isV (.int .i64 (i : Int))) (fun ρ w' h => h) ?_
 refine tele_val rfl (.pointer (some ⟨g, i * 3, none⟩)) (fun _ _ _ => rfl) ?_ ?_
 ·rintro ρ w' he ⟨h31, h32, -⟩
  have e31 : ρ 31 = (.slice (some ⟨g, 0, none⟩) l.segs.length cv) := h31
  have e32 : ρ 32 = (.int .i64 (i : Int)) := h32
  exact index_rseg rfl e31 e32 HIL.out
 refine tele_val rfl (.pointer (some ⟨g, i * 3 + 1, none⟩)) (fun _ _ _ => rfl) ?_ ?_
 ·rintro ρ w' he ⟨h33, -⟩
  have e33 : ρ 33 = (.pointer (some ⟨g, i * 3, none⟩)) := h33
  simp [execOp, evR, e33, go_sem]
 refine tele_val rfl (.int .i64 (l.last.count : Int)) (fun _ _ _ => rfl) ?_ ?_
 ·rintro ρ w' he ⟨h34, -⟩
  have e34 : ρ 34 = (.pointer (some ⟨g, i * 3 + 1, none⟩)) := h34
  have c := (RlM.cells (HC.out.hl.ext he) HI2.out).2.1
  simp [execOp, evR, e34, c, go_sem]
 refine tele_val rfl (.bool true) (fun _ _ _ => rfl) ?_ ?_
 ·rintro ρ w' he ⟨h35, -⟩
  have e35 : ρ 35 = (.int .i64 (l.last.count : Int)) := h35
  simp [execOp, evR, e35, go_sem]
  omega
 refine tele_move rfl (.inl rfl) rfl (isV (.bool true)) (fun ρ w' h => h) ?_
 refine tele_val rfl ((.pointer (some ⟨bl, 0, none⟩))) (fun ρ w' hk => by obtain ⟨_, hg, -⟩ := hk; have eg : ρ 37 = (.bool true) := hg; simp [wantedR, Region.wanted, asBoolR, eg]) ?_ ?_
 ·rintro ρ w' he ⟨h0, -⟩
  have e0 : ρ 0 = (.pointer (some ⟨bl, 0, none⟩)) := h0
  simp [execOp, evR, e0]
 refine tele_val rfl (.pointer (some ⟨bl, 0, none⟩)) (fun ρ w' hk => by obtain ⟨_, hg, -⟩ := hk; have eg : ρ 37 = (.bool true) := hg; simp [wantedR, Region.wanted, asBoolR, eg]) ?_ ?_
 ·rintro ρ w' he ⟨h38, -⟩
  have e38 : ρ 38 = (.pointer (some ⟨bl, 0, none⟩)) := h38
  simp [execOp, evR, e38, go_sem]
 refine tele_val rfl (.pointer (some ⟨bl, 2, none⟩)) (fun ρ w' hk => by obtain ⟨_, hg, -⟩ := hk; have eg : ρ 37 = (.bool true) := hg; simp [wantedR, Region.wanted, asBoolR, eg]) ?_ ?_
 ·rintro ρ w' he ⟨h39, -⟩
  have e39 : ρ 39 = (.pointer (some ⟨bl, 0, none⟩)) := h39
  simp [execOp, evR, e39, go_sem]
 refine tele_val rfl (.slice (some ⟨g, 0, none⟩) l.segs.length cv) (fun ρ w' hk => by obtain ⟨_, hg, -⟩ := hk; have eg : ρ 37 = (.bool true) := hg; simp [wantedR, Region.wanted, asBoolR, eg]) ?_ ?_
 ·rintro ρ w' he ⟨h40, -⟩
  have e40 : ρ 40 = (.pointer (some ⟨bl, 2, none⟩)) := h40
  have c := (HC.out.hl.ext he).str.blk.cell (i := 2) rfl
  simp [execOp, evR, e40, c, go_sem]
 refine tele_val rfl ((.int .i64 (i : Int))) (fun ρ w' hk => by obtain ⟨_, hg, -⟩ := hk; have eg : ρ 37 = (.bool true) := hg; simp [wantedR, Region.wanted, asBoolR, eg]) ?_ ?_
 ·rintro ρ w' he ⟨h7, -⟩
  have e7 : ρ 7 = (.int .i64 (i : Int)) := h7
  simp [execOp, evR, e7]
 refine tele_val rfl (.pointer (some ⟨g, i * 3, none⟩)) (fun ρ w' hk => by obtain ⟨_, _, hg, -⟩ := hk; have eg : ρ 37 = (.bool true) := hg; simp [wantedR, Region.wanted, asBoolR, eg]) ?_ ?_
 ·rintro ρ w' he ⟨h41, h42, -⟩
  have e41 : ρ 41 = (.slice (some ⟨g, 0, none⟩) l.segs.length cv) := h41
  have e42 : ρ 42 = (.int .i64 (i : Int)) := h42
  exact index_rseg rfl e41 e42 HIL.out
 refine tele_val rfl (.pointer (some ⟨g, i * 3 + 2, none⟩)) (fun ρ w' hk => by obtain ⟨_, hg, -⟩ := hk; have eg : ρ 37 = (.bool true) := hg; simp [wantedR, Region.wanted, asBoolR, eg]) ?_ ?_
 ·rintro ρ w' he ⟨h43, -⟩
  have e43 : ρ 43 = (.pointer (some ⟨g, i * 3, none⟩)) := h43
  simp [execOp, evR, e43, go_sem]
 refine tele_val rfl (.int .i64 (l.last.bytes : Int)) (fun ρ w' hk => by obtain ⟨_, hg, -⟩ := hk; have eg : ρ 37 = (.bool true) := hg; simp [wantedR, Region.wanted, asBoolR, eg]) ?_ ?_
 ·rintro ρ w' he ⟨h44, -⟩
  have e44 : ρ 44 = (.pointer (some ⟨g, i * 3 + 2, none⟩)) := h44
  have c := (RlM.cells (HC.out.hl.ext he) HI2.out).2.2
  simp [execOp, evR, e44, c, go_sem]
 refine tele_val rfl ((.slice A2 n2 c2)) (fun ρ w' hk => by obtain ⟨_, hg, -⟩ := hk; have eg : ρ 37 = (.bool true) := hg; simp [wantedR, Region.wanted, asBoolR, eg]) ?_ ?_
 ·rintro ρ w' he ⟨h6, -⟩
  have e6 : ρ 6 = (.slice A2 n2 c2) := h6
  simp [execOp, evR, e6]
 refine tele_val rfl (.int .i64 (n2 : Int)) (fun ρ w' hk => by obtain ⟨_, hg, -⟩ := hk; have eg : ρ 37 = (.bool true) := hg; simp [wantedR, Region.wanted, asBoolR, eg]) ?_ ?_
 ·rintro ρ w' he ⟨h46, -⟩
  have e46 : ρ 46 = (.slice A2 n2 c2) := h46
  simp [execOp, evR, e46, go_sem]
 refine tele_val rfl (.int .i64 ((l.last.bytes : Int) + (n2 : Int))) (fun ρ w' hk => by obtain ⟨_, _, hg, -⟩ := hk; have eg : ρ 37 = (.bool true) := hg; simp [wantedR, Region.wanted, asBoolR, eg]) ?_ ?_
 ·rintro ρ w' he ⟨h45, h47, -⟩
  have e45 : ρ 45 = (.int .i64 (l.last.bytes : Int)) := h45
  have e47 : ρ 47 = (.int .i64 (n2 : Int)) := h47
  have hw := HW45.out
  simp [execOp, evR, e45, e47, hw, go_sem]
 refine tele_val rfl ((.pointer (some ⟨bl, 0, none⟩))) (fun ρ w' hk => by obtain ⟨_, hg, -⟩ := hk; have eg : ρ 37 = (.bool true) := hg; simp [wantedR, Region.wanted, asBoolR, eg]) ?_ ?_
 ·rintro ρ w' he ⟨h0, -⟩
  have e0 : ρ 0 = (.pointer (some ⟨bl, 0, none⟩)) := h0
  simp [execOp, evR, e0]
 refine tele_val rfl (.pointer (some ⟨bl, 0, none⟩)) (fun ρ w' hk => by obtain ⟨_, hg, -⟩ := hk; have eg : ρ 37 = (.bool true) := hg; simp [wantedR, Region.wanted, asBoolR, eg]) ?_ ?_
 ·rintro ρ w' he ⟨h49, -⟩
  have e49 : ρ 49 = (.pointer (some ⟨bl, 0, none⟩)) := h49
  simp [execOp, evR, e49, go_sem]
 refine tele_val rfl (.pointer (some ⟨bl, 1, none⟩)) (fun ρ w' hk => by obtain ⟨_, hg, -⟩ := hk; have eg : ρ 37 = (.bool true) := hg; simp [wantedR, Region.wanted, asBoolR, eg]) ?_ ?_
 ·rintro ρ w' he ⟨h50, -⟩
  have e50 : ρ 50 = (.pointer (some ⟨bl, 0, none⟩)) := h50
  simp [execOp, evR, e50, go_sem]
 refine tele_val rfl (.int .i64 (l.size : Int)) (fun ρ w' hk => by obtain ⟨_, hg, -⟩ := hk; have eg : ρ 37 = (.bool true) := hg; simp [wantedR, Region.wanted, asBoolR, eg]) ?_ ?_
 ·rintro ρ w' he ⟨h51, -⟩
  have e51 : ρ 51 = (.pointer (some ⟨bl, 1, none⟩)) := h51
  have c := (HC.out.hl.ext he).str.blk.cell (i := 1) rfl
  simp [execOp, evR, e51, c, go_sem]
 refine tele_val rfl (.bool true) (fun ρ w' hk => by obtain ⟨_, _, hg, -⟩ := hk; have eg : ρ 37 = (.bool true) := hg; simp [wantedR, Region.wanted, asBoolR, eg]) ?_ ?_
 ·rintro ρ w' he ⟨h48, h52, -⟩
  have e48 : ρ 48 = (.int .i64 ((l.last.bytes : Int) + (n2 : Int))) := h48
  have e52 : ρ 52 = (.int .i64 (l.size : Int)) := h52
  simp [execOp, evR, e48, e52, go_sem]
  omega
 refine tele_val rfl (.bool true) (fun _ _ _ => rfl) ?_ ?_
 ·rintro ρ w' he ⟨h37, h53, -⟩
  have e37 : ρ 37 = (.bool true) := h37
  have e53 : ρ 53 = (.bool true) := h53
  simp [execOp, evR, e37, e53, go_sem]
 refine tele_nil ?_
 rintro ρ wb hext ⟨f54, f53, f52, f51, f50, f49, f48, f47, f46, f45, f44, f43, f42, f41, f40, f39, f38, f37, f36, f35, f34, f33, f32, f31, f30, f29, f28, -⟩
 replace f54 : ρ 54 = (.bool true) := f54
 simp only [puts, Act.put, List.setIfInBounds_toArray, List.set_cons_zero, List.set_cons_succ]
 rw [f54]
 clear f28 f29 f30 f31 f32 f33 f34 f35 f36 f37 f38 f39 f40 f41 f42 f43 f44 f45 f46 f47 f48 f49 f50 f51 f52 f53 f54
 replace HC := Lib.hid (HC.out.ext hext)
 replace HK := Lib.hid (HK.out.ext hext)
 replace HB := Lib.hid (HB.out.ext hext)
 replace HFB := Lib.hid (show ∀ j, (Value.slice A2 n2 c2).ownBlock = some j → j < wb.heap.size ∧ ¬ rfp br bl s (.slice (some ⟨g, 0, none⟩) l.segs.length cv) j from fun j hj => ⟨Nat.lt_of_lt_of_le (HFB.out j hj).1 hext.size, (HFB.out j hj).2⟩)
 clear hext HI2 HW45 HIL
 clear hcnt hfull
 have HSY := Lib.hid (rlSync_any HC.out HOK.out HSM.out HNE.out HPS.out (Nat.le_trans HNX.out (by decide)))
 have HSOK := Lib.hid (wSync_ok HOK.out l)
 have HSSC := Lib.hid (wSync_small HSC.out l)
 have HRU := Lib.hid (show wRoll d l = if (wSync d l).2 ≠ 0 then wSync d l else wRoll1 (wSync d l).1.1 (wSync d l).1.2 from rfl)
 obtain ⟨hsg, hsz, hfl⟩ := wSync_segs d l
 obtain ⟨hla, hnxe⟩ := wSync_last d l
 have HSG := Lib.hid hsg
 have HLA := Lib.hid hla
 have HNXE := Lib.hid hnxe
 clear hsg hsz hfl hla hnxe
 generalize wRoll d l = y at *
 generalize wSync d l = z at *
 obtain ⟨⟨d1, l1⟩, n⟩ := z
 dsimp only at *
 go_wp2_with fail
 refine HSY.out.mono ?_
 rintro e w6 ⟨rfl, s1, v1, hc1, hs1⟩
 by_cases hn0 : n = 0
 rotate_left
 ·have hn1 : ¬ (n : Int) = 0 := by omega
  rw [if_pos hn0] at HRU
  obtain rfl := HRU.out
  dsimp only at HAU
  rw [if_pos hn0] at HAU
  clear hn0
  go_wp2_with fail
  go_ret2
  rw [HAU.out]
  exact ⟨rfl, s1, v1, hc1, HK.out.trans hs1⟩
 subst hn0
 rw [if_neg (by simp)] at HRU
 have HNE1 := Lib.hid (show l1.segs ≠ [] by rw [HSG.out]; exact HNE.out)
 have HNX1 := Lib.hid (show l1.next ≤ 8000000000000000000 by rw [HNXE.out]; exact HNX.out)
 have HFB1 := Lib.hid (hs1.not HFB.out)
 have HB1 := Lib.hid (HB.out.kb hs1.kb (fun j hj => (HFB.out j hj).2))
 replace HK := Lib.hid (HK.out.trans hs1)
 replace HC := Lib.hid hc1
 clear HSY hs1 hc1 HFB HB
 have HKN := Lib.hid (rlNext_any HC.out.hl HNE1.out (Nat.le_trans HNX1.out (by decide)))
 go_wp2_with fail
 refine HKN.out.mono ?_
 rintro e w7 ⟨rfl, hx7⟩
 replace HC := Lib.hid (HC.out.ext hx7)
 replace HK := Lib.hid (HK.out.ext hx7)
 replace HB1 := Lib.hid (HB1.out.ext hx7)
 replace HFB1 := Lib.hid (show ∀ j, (Value.slice A2 n2 c2).ownBlock = some j → j < w7.heap.size ∧ ¬ rfp br bl s1 v1 j from fun j hj => ⟨Nat.lt_of_lt_of_le (HFB1.out j hj).1 hx7.size, (HFB1.out j hj).2⟩)
 have HSM1 := Lib.hid (HSSC.out.small (by have := HC0.out; omega))
 clear HKN hx7
 go_wp2_with fail
 refine wp_region_tok [false, false, false, false, false, false, true, true, true, false] (Kb (FFr w7 br s1)) (fun c w => if c < 2 then RkM W0.heap.size w br s1 d1 else ∃ s2, RkM W0.heap.size w br s2 (dMake d1 (wname (l1.next : Int))).1 ∧ ∀ k, rall br s2 k → FFr w7 br s1 k) 3 (by kernel_rfl) (by kernel_rfl) (by kernel_rfl) (by kernel_rfl) (preKb' _) (Kb.of_ext (ext_drew w7)) (HC.out.hd.ext (ext_drew w7)) ?_
 refine tok_val rfl (.pointer (some ⟨bl, 0, none⟩)) (fun _ _ _ => rfl) ?_ ?_
 ·rintro ρ w' he ⟨h0, -⟩
  have e0 : ρ 0 = .pointer (some ⟨bl, 0, none⟩) := h0
  simp [execOp, evR, e0, go_sem]
 refine tok_val rfl (.pointer (some ⟨bl, 0, none⟩)) (fun _ _ _ => rfl) ?_ ?_
 ·rintro ρ w' he ⟨h0, -⟩
  have e0 : ρ 0 = .pointer (some ⟨bl, 0, none⟩) := h0
  simp [execOp, evR, e0, go_sem]
 refine tok_val rfl (.pointer (some ⟨bl, 0, none⟩)) (fun _ _ _ => rfl) ?_ ?_
 ·rintro ρ w' he ⟨h63, -⟩
  have e63 : ρ 63 = .pointer (some ⟨bl, 0, none⟩) := h63
  simp [execOp, evR, e63, go_sem]
 refine tok_val rfl (.pointer (some ⟨bl, 0, none⟩)) (fun _ _ _ => rfl) ?_ ?_
 ·rintro ρ w' he ⟨h64, -⟩
  have e64 : ρ 64 = .pointer (some ⟨bl, 0, none⟩) := h64
  simp [execOp, evR, e64, go_sem]
 refine tok_val rfl (.pointer (some ⟨br, 0, none⟩)) (fun _ _ _ => rfl) ?_ ?_
 ·rintro ρ w' he ⟨h65, -⟩
  have e65 : ρ 65 = .pointer (some ⟨bl, 0, none⟩) := h65
  have c := (HC.out.log he).str.blk.cell (i := 0) rfl
  simp [execOp, evR, e65, c, go_sem]
 refine tok_val rfl (.int .i64 (l1.next : Int)) (fun _ _ _ => rfl) ?_ ?_
 ·rintro ρ w' he ⟨h9, -⟩
  have e9 : ρ 9 = .int .i64 (l1.next : Int) := h9
  simp [execOp, evR, e9, go_sem]
 refine tok_call rfl rfl Tryz.func51 (by kernel_rfl) (fun v _ => v = .string ⟨(wname (l1.next : Int)).toArray⟩) (fun _ _ _ h _ => h) (fun _ _ _ => rfl) ?_ ?_
 ·rintro ρ w' he ht ⟨h67, -⟩
  have e67 : ρ 67 = .int .i64 (l1.next : Int) := h67
  simp only [evR, List.map_toArray, List.map_cons, List.map_nil, e67]
  have hp : RkM W0.heap.size w' br s1 d1 := ht
  refine (refWName_any ((l1.next : Int) : Int) w').mono ?_
  rintro e w2 ⟨rfl, hx2⟩
  exact ⟨_, rfl, Kb.of_ext hx2, rfl, hp.ext hx2⟩
 refine tok_call rfl rfl Tryz.func55 (by kernel_rfl) (fun v _ => v = .int .i64 ((dMake d1 (wname (l1.next : Int))).2 : Int)) (fun _ _ _ h _ => h) (fun _ _ _ => rfl) ?_ ?_
 ·rintro ρ w' he ht ⟨h66, h68, -⟩
  have e66 : ρ 66 = .pointer (some ⟨br, 0, none⟩) := h66
  have e68 : ρ 68 = .string ⟨(wname (l1.next : Int)).toArray⟩ := h68
  simp only [evR, List.map_toArray, List.map_cons, List.map_nil, e66, e68]
  have hp : RkM W0.heap.size w' br s1 d1 := ht
  refine (rmake_any hp HSOK.out HSM1.out (HC.out.ext_ he).size (wname (l1.next : Int)) (Nat.le_trans (wname_len _) (by decide))).mono ?_
  rintro e w2 hq
  exact tok_rk he hq
 refine tok_call rfl rfl Tryz.func71 (by kernel_rfl) (fun v _ => v = .int .i64 (didE (dMake d1 (wname (l1.next : Int))).2 : Int)) (fun _ _ _ h _ => h) (fun _ _ _ => rfl) ?_ ?_
 ·rintro ρ w' he ht ⟨h62, h69, -⟩
  have e62 : ρ 62 = .pointer (some ⟨bl, 0, none⟩) := h62
  have e69 : ρ 69 = .int .i64 ((dMake d1 (wname (l1.next : Int))).2 : Int) := h69
  simp only [evR, List.map_toArray, List.map_cons, List.map_nil, e62, e69]
  have hp : ∃ s2, RkM W0.heap.size w' br s2 (dMake d1 (wname (l1.next : Int))).1 ∧ ∀ k, rall br s2 k → FFr w7 br s1 k := ht
  refine (rldid_any _ (dMake d1 (wname (l1.next : Int))).2 w').mono ?_
  rintro e w2 ⟨rfl, rfl⟩
  exact ⟨_, rfl, Kb.refl _ _, rfl, hp⟩
 refine tok_val rfl (.int .i64 (didE (dMake d1 (wname (l1.next : Int))).2 : Int)) (fun _ _ _ => rfl) ?_ ?_
 ·rintro ρ w' he ⟨h70, -⟩
  have e70 : ρ 70 = .int .i64 (didE (dMake d1 (wname (l1.next : Int))).2 : Int) := h70
  simp [execOp, evR, e70, go_sem]
 refine tok_nil ?_
 rintro ρ w' hle htk ⟨f8, f70, f69, f68, f67, f66, f65, f64, f63, f62, -⟩ -
 replace f8 : ρ 8 = .int .i64 (didE (dMake d1 (wname (l1.next : Int))).2 : Int) := f8
 simp only [puts, Act.put, List.setIfInBounds_toArray, List.set_cons_zero, List.set_cons_succ]
 rw [f8]
 clear f8 f62 f63 f64 f65 f66 f67 f68 f69 f70
 obtain ⟨s2, hd2, hf2⟩ := (show ∃ s2, RkM W0.heap.size w' br s2 (dMake d1 (wname (l1.next : Int))).1 ∧ ∀ k, rall br s2 k → FFr w7 br s1 k from htk)
 obtain ⟨hc2, hs2⟩ := HC.out.diskF hle hd2 hf2
 replace HK := Lib.hid (HK.out.trans hs2)
 have HFB2 := Lib.hid (hs2.not HFB1.out)
 have HB2 := Lib.hid (HB1.out.kb hs2.kb (fun j hj => (HFB1.out j hj).2))
 have HC2 := Lib.hid hc2
 obtain ⟨g1, cv1, rfl, -⟩ := hc2.hl.slice HNE1.out
 replace HRU := Lib.hid (HRU.out.trans (show wRoll1 d1 l1 = if didE (dMake d1 (wname (l1.next : Int))).2 ≠ 0 then (((dMake d1 (wname (l1.next : Int))).1, l1), didE (dMake d1 (wname (l1.next : Int))).2) else (((dMake d1 (wname (l1.next : Int))).1, { l1 with segs := l1.segs ++ [⟨l1.next, 0, 0⟩] }), 0) from rfl))
 have HOK2 := Lib.hid (dMake_ok HSOK.out (wname (l1.next : Int)))
 have HSC2 := Lib.hid (HSSC.out.grow (dMake_grow d1 (wname (l1.next : Int))))
 clear hd2 hf2 hs2 hc2 hle htk HC HB1 HFB1
 obtain ⟨q, hq⟩ : ∃ q, q = l1.next := ⟨_, rfl⟩
 rw [← hq] at HRU HC2 HOK2 HSC2
 rw [← hq]
 have HQ := Lib.hid (show q = l.next from hq.trans HNXE.out)
 clear hq
 generalize dMake d1 (wname (q : Int)) = x at *
 generalize didE x.2 = m at *
 obtain ⟨d2, n0⟩ := x
 dsimp only at *
 by_cases hm : m = 0
 rotate_left
 ·have hm1 : ¬ (m : Int) = 0 := by omega
  rw [if_pos hm] at HRU
  obtain rfl := HRU.out
  dsimp only at HAU
  rw [if_pos hm] at HAU
  clear hm
  go_wp2_with fail
  go_ret2
  rw [HAU.out]
  exact ⟨rfl, s2, _, HC2.out, HK.out⟩
 subst hm
 rw [if_neg (by omega)] at HRU
 obtain rfl := HRU.out
 dsimp only at HAU
 have HWP := Lib.hid (HAU.out.trans (if_neg (by simp)))
 obtain ⟨l2, hl2⟩ : ∃ l2 : Lg, l2 = { l1 with segs := l1.segs ++ [⟨q, 0, 0⟩] } := ⟨_, rfl⟩
 rw [← hl2] at HWP
 have k2 := HC2.out.hl.str.blk.cell (i := 2) rfl
 have HLN1 := Lib.hid (show l1.segs.length ≤ 1000000000 by rw [HSG.out]; exact Nat.le_trans HLN.out (by decide))
 obtain ⟨g2, cv2, w8, hrun, hrow, hkb, hstr, hall⟩ := rseg_append HC2.out.hl HC2.out.hx.size HLN1.out ⟨q, 0, 0⟩ 61
 have hsl : l1.segs.length + 1 = l2.segs.length := by rw [hl2]; simp
 rw [hsl] at hrun hrow hall
 have hrow2 : w8.ownsRow W0.heap.size 96 3 (.slice (some ⟨g2, 0, none⟩) l2.segs.length cv2) l2.segs.length (scells l2.segs) := by rw [hl2] at hrow ⊢; exact hrow
 have hsw := RlM.swap (l' := l2) hstr HC2.out.hl.zl hrow2 (by rw [hl2]; exact ⟨rfl, rfl, rfl⟩)
 have k4 := hstr.blk.cell (i := 2) rfl
 have t4 := hstr.blk.thaw 2
 obtain ⟨hc4, hs4⟩ := HC2.out.put hsw (hkb.trans (Kb.set _ w8 bl 2 (.slice (some ⟨g2, 0, none⟩) l2.segs.length cv2) (.inl rfl)) (fun _ h => .inl h)) hall
 have HFB := Lib.hid (hs4.not HFB2.out)
 have HB := Lib.hid (HB2.out.kb hs4.kb (fun j hj => (HFB2.out j hj).2))
 replace HK := Lib.hid (HK.out.trans hs4)
 have HC := Lib.hid hc4
 have HRUN := Lib.hid hrun
 obtain ⟨i1, hi1⟩ : ∃ i1, i1 = i + 1 := ⟨_, rfl⟩
 have hwk : IntKind.i64.wrap ((i : Int) + 1) = (i1 : Int) := by rw [IntWalk.i64_in _ (by have := HI.out; have := HLN.out; omega)]; omega
 have hla2 : l2.last = ⟨q, 0, 0⟩ := Lg.last_snoc _ _ (by rw [hl2])
 replace HI := Lib.hid (show i1 + 1 = l2.segs.length by rw [← hsl, HSG.out, hi1, HI.out])
 replace HNE := Lib.hid (show l2.segs ≠ [] by rw [hl2]; simp)
 replace HNX := Lib.hid (show l2.next ≤ 8000000000000000000 by unfold Lg.next; rw [hla2]; show q + 0 ≤ _; have := HNX.out; rw [HQ.out]; omega)
 replace HBY := Lib.hid (show l2.last.bytes ≤ 1000000000000 by rw [hla2]; exact Nat.zero_le _)
 replace HOK := HOK2
 replace HSM := Lib.hid (HSC2.out.small (by have := HC0.out; omega))
 clear hrow hrow2 hkb hstr hall hsw hc4 hs4 hrun hsl hi1 hla2 hl2 HC2 HB2 HFB2 HNE1 HNX1 HLN1 HSG HLA HNXE HQ HSOK HSSC HOK2 HSC2 HSM1 HSC HC0 HLN HPS HAU HRU
 go_wp2_with (at_builtin; refine wpList_append_run rfl (.tmp 78) (.tmp 81) 61 rfl rfl rfl HRUN.out ?_)
 obtain ⟨w9, hw9⟩ : ∃ w9, w9 = w8.setCell ⟨bl, 2, none⟩ (.slice (some ⟨g2, 0, none⟩) l2.segs.length cv2) := ⟨_, rfl⟩
 rw [← hw9] at HC HK HB HFB
 rw [← hw9]
 clear hw9 k2 k4 t4 hwk HRUN
 have HI2 := Lib.hid (show l2.segs[i1]? = some l2.last by have h := Lg.last_at HNE.out; rw [show l2.segs.length - 1 = i1 by have := HI.out; omega] at h; exact h)
 go_wp2_with fail
 refine wp_region_tok [false, false, false, false, false, false, false, false, false, false, false, false, false, true, false, true, true, false] (Kb (FFr w9 br s2)) (fun c w => if c < 2 then RkM W0.heap.size w br s2 d2 else ∃ s3, RkM W0.heap.size w br s3 (dAppend d2 (wname (l2.last.frm : Int)) (wrap rec)).1 ∧ ∀ k, rall br s3 k → FFr w9 br s2 k) 3 (by kernel_rfl) (by kernel_rfl) (by kernel_rfl) (by kernel_rfl) (preKb' _) (Kb.of_ext (ext_drew w9)) (HC.out.hd.ext (ext_drew w9)) ?_
 refine tok_val rfl (.pointer (some ⟨bl, 0, none⟩)) (fun _ _ _ => rfl) ?_ ?_
 ·rintro ρ w' he ⟨h0, -⟩
  have e0 : ρ 0 = .pointer (some ⟨bl, 0, none⟩) := h0
  simp [execOp, evR, e0, go_sem]
 refine tok_val rfl (.pointer (some ⟨bl, 0, none⟩)) (fun _ _ _ => rfl) ?_ ?_
 ·rintro ρ w' he ⟨h0, -⟩
  have e0 : ρ 0 = .pointer (some ⟨bl, 0, none⟩) := h0
  simp [execOp, evR, e0, go_sem]
 refine tok_val rfl (.pointer (some ⟨bl, 0, none⟩)) (fun _ _ _ => rfl) ?_ ?_
 ·rintro ρ w' he ⟨h88, -⟩
  have e88 : ρ 88 = .pointer (some ⟨bl, 0, none⟩) := h88
  simp [execOp, evR, e88, go_sem]
 refine tok_val rfl (.pointer (some ⟨bl, 0, none⟩)) (fun _ _ _ => rfl) ?_ ?_
 ·rintro ρ w' he ⟨h89, -⟩
  have e89 : ρ 89 = .pointer (some ⟨bl, 0, none⟩) := h89
  simp [execOp, evR, e89, go_sem]
 refine tok_val rfl (.pointer (some ⟨br, 0, none⟩)) (fun _ _ _ => rfl) ?_ ?_
 ·rintro ρ w' he ⟨h90, -⟩
  have e90 : ρ 90 = .pointer (some ⟨bl, 0, none⟩) := h90
  have c := (HC.out.log he).str.blk.cell (i := 0) rfl
  simp [execOp, evR, e90, c, go_sem]
 refine tok_val rfl (.pointer (some ⟨bl, 0, none⟩)) (fun _ _ _ => rfl) ?_ ?_
 ·rintro ρ w' he ⟨h0, -⟩
  have e0 : ρ 0 = .pointer (some ⟨bl, 0, none⟩) := h0
  simp [execOp, evR, e0, go_sem]
 refine tok_val rfl (.pointer (some ⟨bl, 0, none⟩)) (fun _ _ _ => rfl) ?_ ?_
 ·rintro ρ w' he ⟨h92, -⟩
  have e92 : ρ 92 = .pointer (some ⟨bl, 0, none⟩) := h92
  simp [execOp, evR, e92, go_sem]
 refine tok_val rfl (.pointer (some ⟨bl, 2, none⟩)) (fun _ _ _ => rfl) ?_ ?_
 ·rintro ρ w' he ⟨h93, -⟩
  have e93 : ρ 93 = .pointer (some ⟨bl, 0, none⟩) := h93
  simp [execOp, evR, e93, go_sem]
 refine tok_val rfl (.slice (some ⟨g2, 0, none⟩) l2.segs.length cv2) (fun _ _ _ => rfl) ?_ ?_
 ·rintro ρ w' he ⟨h94, -⟩
  have e94 : ρ 94 = .pointer (some ⟨bl, 2, none⟩) := h94
  have c := (HC.out.log he).str.blk.cell (i := 2) rfl
  simp [execOp, evR, e94, c, go_sem]
 refine tok_val rfl (.int .i64 (i1 : Int)) (fun _ _ _ => rfl) ?_ ?_
 ·rintro ρ w' he ⟨h7, -⟩
  have e7 : ρ 7 = .int .i64 (i1 : Int) := h7
  simp [execOp, evR, e7, go_sem]
 refine tok_val rfl (.pointer (some ⟨g2, i1 * 3, none⟩)) (fun _ _ _ => rfl) ?_ ?_
 ·rintro ρ w' he ⟨h95, h96, -⟩
  have e95 : ρ 95 = .slice (some ⟨g2, 0, none⟩) l2.segs.length cv2 := h95
  have e96 : ρ 96 = .int .i64 (i1 : Int) := h96
  exact index_rseg rfl e95 e96 (by have := HI.out; omega)
 refine tok_val rfl (.pointer (some ⟨g2, i1 * 3, none⟩)) (fun _ _ _ => rfl) ?_ ?_
 ·rintro ρ w' he ⟨h97, -⟩
  have e97 : ρ 97 = .pointer (some ⟨g2, i1 * 3, none⟩) := h97
  simp [execOp, evR, e97, go_sem]
 refine tok_val rfl (.int .i64 (l2.last.frm : Int)) (fun _ _ _ => rfl) ?_ ?_
 ·rintro ρ w' he ⟨h98, -⟩
  have e98 : ρ 98 = .pointer (some ⟨g2, i1 * 3, none⟩) := h98
  have c := (RlM.cells (HC.out.log he) HI2.out).1
  simp [execOp, evR, e98, c, go_sem]
 refine tok_call rfl rfl Tryz.func51 (by kernel_rfl) (fun v _ => v = .string ⟨(wname (l2.last.frm : Int)).toArray⟩) (fun _ _ _ h _ => h) (fun _ _ _ => rfl) ?_ ?_
 ·rintro ρ w' he ht ⟨h99, -⟩
  have e99 : ρ 99 = .int .i64 (l2.last.frm : Int) := h99
  simp only [evR, List.map_toArray, List.map_cons, List.map_nil, e99]
  have hp : RkM W0.heap.size w' br s2 d2 := ht
  refine (refWName_any ((l2.last.frm : Int) : Int) w').mono ?_
  rintro e w2 ⟨rfl, hx2⟩
  exact ⟨_, rfl, Kb.of_ext hx2, rfl, hp.ext hx2⟩
 refine tok_val rfl (.slice A2 n2 c2) (fun _ _ _ => rfl) ?_ ?_
 ·rintro ρ w' he ⟨h6, -⟩
  have e6 : ρ 6 = .slice A2 n2 c2 := h6
  simp [execOp, evR, e6, go_sem]
 refine tok_call rfl rfl Tryz.func66 (by kernel_rfl) (fun v _ => v = .int .i64 ((dAppend d2 (wname (l2.last.frm : Int)) (wrap rec)).2 : Int)) (fun _ _ _ h _ => h) (fun _ _ _ => rfl) ?_ ?_
 ·rintro ρ w' he ht ⟨h91, h100, h101, -⟩
  have e91 : ρ 91 = .pointer (some ⟨br, 0, none⟩) := h91
  have e100 : ρ 100 = .string ⟨(wname (l2.last.frm : Int)).toArray⟩ := h100
  have e101 : ρ 101 = .slice A2 n2 c2 := h101
  simp only [evR, List.map_toArray, List.map_cons, List.map_nil, e91, e100, e101]
  have hp : RkM W0.heap.size w' br s2 d2 := ht
  refine (rappend_any hp HOK.out HSM.out (HC.out.ext_ he).size (wname (l2.last.frm : Int)) (HB.out.kb he (fun j hj hq => hq.elim (fun h => (HFB.out j hj).2 (.inl h)) (fun hs => Nat.not_lt.2 hs (HFB.out j hj).1))) (fun j hj _ hq => (HFB.out j hj).2 (.inl hq)) (by rw [HN2.out]; exact Nat.le_trans HN2L.out (by decide))).mono ?_
  rintro e w2 hq
  exact tok_rk he hq
 refine tok_call rfl rfl Tryz.func71 (by kernel_rfl) (fun v _ => v = .int .i64 (didE (dAppend d2 (wname (l2.last.frm : Int)) (wrap rec)).2 : Int)) (fun _ _ _ h _ => h) (fun _ _ _ => rfl) ?_ ?_
 ·rintro ρ w' he ht ⟨h87, h102, -⟩
  have e87 : ρ 87 = .pointer (some ⟨bl, 0, none⟩) := h87
  have e102 : ρ 102 = .int .i64 ((dAppend d2 (wname (l2.last.frm : Int)) (wrap rec)).2 : Int) := h102
  simp only [evR, List.map_toArray, List.map_cons, List.map_nil, e87, e102]
  have hp : ∃ s3, RkM W0.heap.size w' br s3 (dAppend d2 (wname (l2.last.frm : Int)) (wrap rec)).1 ∧ ∀ k, rall br s3 k → FFr w9 br s2 k := ht
  refine (rldid_any _ (dAppend d2 (wname (l2.last.frm : Int)) (wrap rec)).2 w').mono ?_
  rintro e w2 ⟨rfl, rfl⟩
  exact ⟨_, rfl, Kb.refl _ _, rfl, hp⟩
 refine tok_val rfl (.int .i64 (didE (dAppend d2 (wname (l2.last.frm : Int)) (wrap rec)).2 : Int)) (fun _ _ _ => rfl) ?_ ?_
 ·rintro ρ w' he ⟨h103, -⟩
  have e103 : ρ 103 = .int .i64 (didE (dAppend d2 (wname (l2.last.frm : Int)) (wrap rec)).2 : Int) := h103
  simp [execOp, evR, e103, go_sem]
 refine tok_nil ?_
 rintro ρ w' hle htk ⟨f10, f103, f102, f101, f100, f99, f98, f97, f96, f95, f94, f93, f92, f91, f90, f89, f88, f87, -⟩ -
 replace f10 : ρ 10 = .int .i64 (didE (dAppend d2 (wname (l2.last.frm : Int)) (wrap rec)).2 : Int) := f10
 simp only [puts, Act.put, List.setIfInBounds_toArray, List.set_cons_zero, List.set_cons_succ]
 rw [f10]
 clear f10 f87 f88 f89 f90 f91 f92 f93 f94 f95 f96 f97 f98 f99 f100 f101 f102 f103
 obtain ⟨s3, hd2, hf2⟩ := (show ∃ s3, RkM W0.heap.size w' br s3 (dAppend d2 (wname (l2.last.frm : Int)) (wrap rec)).1 ∧ ∀ k, rall br s3 k → FFr w9 br s2 k from htk)
 obtain ⟨hc2, hs2⟩ := HC.out.diskF hle hd2 hf2
 have HS2 := Lib.hid (HK.out.trans hs2)
 have HC2 := Lib.hid hc2
 replace HWP := Lib.hid (HWP.out.trans (show wPut d2 l2 (wrap rec) = if didE (dAppend d2 (wname (l2.last.frm : Int)) (wrap rec)).2 ≠ 0 then (((dAppend d2 (wname (l2.last.frm : Int)) (wrap rec)).1, l2), 0, didE (dAppend d2 (wname (l2.last.frm : Int)) (wrap rec)).2) else (((dAppend d2 (wname (l2.last.frm : Int)) (wrap rec)).1, l2.up (wrap rec).length), (l2.up (wrap rec).length).next - 1, 0) from rfl))
 clear hd2 hf2 hs2 hc2 hle htk HC HK
 generalize dAppend d2 (wname (l2.last.frm : Int)) (wrap rec) = x at *
 generalize didE x.2 = m at *
 by_cases hm : m = 0
 rotate_left
 ·have hm1 : ¬ (m : Int) = 0 := by omega
  rw [if_pos hm] at HWP
  clear hm
  go_wp2_with fail
  go_ret2
  rw [HWP.out]
  exact ⟨rfl, s3, _, HC2.out, HS2.out⟩
 ·subst hm
  rw [if_neg (by omega), HN2.out] at HWP
  have hil : i1 < l2.segs.length := by have := HI.out; omega
  have HIL := Lib.hid hil
  have HW1 := Lib.hid (show IntKind.i64.wrap ((l2.last.count : Int) + 1) = ((l2.last.count + 1 : Nat) : Int) by rw [IntWalk.i64_in _ (by have := HNX.out; unfold Lg.next at this; omega)]; omega)
  have HW2 := Lib.hid (show IntKind.i64.wrap ((l2.last.bytes : Int) + (n2 : Int)) = ((l2.last.bytes + n2 : Nat) : Int) by rw [IntWalk.i64_in _ (by have := HBY.out; have := HN2L.out; omega)]; omega)
  clear hil
  go_wp2_with fail
  refine wp_region_last_lit (by kernel_rfl) rfl (by kernel_rfl) (by kernel_rfl) ?_
  refine tele_move rfl (.inl rfl) rfl (isV (.pointer (some ⟨bl, 0, none⟩))) (fun ρ w' h => h) ?_
  refine tele_val rfl (.pointer (some ⟨bl, 0, none⟩)) (fun _ _ _ => rfl) ?_ ?_
  ·rintro ρ w' he ⟨h107, -⟩
   have e107 : ρ 107 = (.pointer (some ⟨bl, 0, none⟩)) := h107
   simp [execOp, evR, e107, go_sem]
  refine tele_val rfl (.pointer (some ⟨bl, 2, none⟩)) (fun _ _ _ => rfl) ?_ ?_
  ·rintro ρ w' he ⟨h108, -⟩
   have e108 : ρ 108 = (.pointer (some ⟨bl, 0, none⟩)) := h108
   simp [execOp, evR, e108, go_sem]
  refine tele_val rfl (.slice (some ⟨g2, 0, none⟩) l2.segs.length cv2) (fun _ _ _ => rfl) ?_ ?_
  ·rintro ρ w' he ⟨h109, -⟩
   have e109 : ρ 109 = (.pointer (some ⟨bl, 2, none⟩)) := h109
   have c := (HC2.out.hl.ext he).str.blk.cell (i := 2) rfl
   simp [execOp, evR, e109, c, go_sem]
  refine tele_move rfl (.inl rfl) rfl (isV (.int .i64 (i1 : Int))) (fun ρ w' h => h) ?_
  refine tele_move rfl (.inl rfl) rfl (isV (.pointer (some ⟨bl, 0, none⟩))) (fun ρ w' h => h) ?_
  refine tele_val rfl (.pointer (some ⟨bl, 0, none⟩)) (fun _ _ _ => rfl) ?_ ?_
  ·rintro ρ w' he ⟨h112, -⟩
   have e112 : ρ 112 = (.pointer (some ⟨bl, 0, none⟩)) := h112
   simp [execOp, evR, e112, go_sem]
  refine tele_val rfl (.pointer (some ⟨bl, 2, none⟩)) (fun _ _ _ => rfl) ?_ ?_
  ·rintro ρ w' he ⟨h113, -⟩
   have e113 : ρ 113 = (.pointer (some ⟨bl, 0, none⟩)) := h113
   simp [execOp, evR, e113, go_sem]
  refine tele_val rfl (.slice (some ⟨g2, 0, none⟩) l2.segs.length cv2) (fun _ _ _ => rfl) ?_ ?_
  ·rintro ρ w' he ⟨h114, -⟩
   have e114 : ρ 114 = (.pointer (some ⟨bl, 2, none⟩)) := h114
   have c := (HC2.out.hl.ext he).str.blk.cell (i := 2) rfl
   simp [execOp, evR, e114, c, go_sem]
  refine tele_move rfl (.inl rfl) rfl (isV (.int .i64 (i1 : Int))) (fun ρ w' h => h) ?_
  refine tele_val rfl (.pointer (some ⟨g2, i1 * 3, none⟩)) (fun _ _ _ => rfl) ?_ ?_
  ·rintro ρ w' he ⟨h115, h116, -⟩
   have e115 : ρ 115 = (.slice (some ⟨g2, 0, none⟩) l2.segs.length cv2) := h115
   have e116 : ρ 116 = (.int .i64 (i1 : Int)) := h116
   exact index_rseg rfl e115 e116 HIL.out
  refine tele_val rfl (.pointer (some ⟨g2, i1 * 3 + 1, none⟩)) (fun _ _ _ => rfl) ?_ ?_
  ·rintro ρ w' he ⟨h117, -⟩
   have e117 : ρ 117 = (.pointer (some ⟨g2, i1 * 3, none⟩)) := h117
   simp [execOp, evR, e117, go_sem]
  refine tele_val rfl (.int .i64 (l2.last.count : Int)) (fun _ _ _ => rfl) ?_ ?_
  ·rintro ρ w' he ⟨h118, -⟩
   have e118 : ρ 118 = (.pointer (some ⟨g2, i1 * 3 + 1, none⟩)) := h118
   have c := (RlM.cells (HC2.out.hl.ext he) HI2.out).2.1
   simp [execOp, evR, e118, c, go_sem]
  refine tele_val rfl (.int .i64 ((l2.last.count + 1 : Nat) : Int)) (fun _ _ _ => rfl) ?_ ?_
  ·rintro ρ w' he ⟨h119, -⟩
   have e119 : ρ 119 = (.int .i64 (l2.last.count : Int)) := h119
   have hw := HW1.out
   simp [execOp, evR, e119, hw, go_sem]
  refine tele_val rfl (.pointer (some ⟨g2, i1 * 3, none⟩)) (fun _ _ _ => rfl) ?_ ?_
  ·rintro ρ w' he ⟨h110, h111, -⟩
   have e110 : ρ 110 = (.slice (some ⟨g2, 0, none⟩) l2.segs.length cv2) := h110
   have e111 : ρ 111 = (.int .i64 (i1 : Int)) := h111
   exact index_rseg rfl e110 e111 HIL.out
  refine tele_val rfl (.pointer (some ⟨g2, i1 * 3 + 1, none⟩)) (fun _ _ _ => rfl) ?_ ?_
  ·rintro ρ w' he ⟨h121, -⟩
   have e121 : ρ 121 = (.pointer (some ⟨g2, i1 * 3, none⟩)) := h121
   simp [execOp, evR, e121, go_sem]
  refine tele_nil ?_
  rintro ρ w' hext ⟨f122, f121, f120, f119, f118, f117, f116, f115, f114, f113, f112, f111, f110, f109, f108, f107, -⟩
  replace f120 : ρ 120 = (.int .i64 ((l2.last.count + 1 : Nat) : Int)) := f120
  replace f122 : ρ 122 = (.pointer (some ⟨g2, i1 * 3 + 1, none⟩)) := f122
  simp only [puts, Act.put, List.setIfInBounds_toArray, List.set_cons_zero, List.set_cons_succ]
  have hc3 := HC2.out.ext hext
  have HS3 := Lib.hid (HS2.out.ext hext)
  have c1 := (RlM.cells hc3.hl HI2.out).2.1
  have t1 := hc3.hl.row.frozenAt (i1 * 3 + 1)
  have hup := hc3.hl.up1 HNE.out HI.out
  obtain ⟨hc4, hs4⟩ := hc3.put hup (Kb.set _ w' g2 (i1 * 3 + 1) _ (.inr rfl)) (fun _ h => .inl h)
  have HS4 := Lib.hid (HS3.out.trans hs4)
  have HC4 := Lib.hid hc4
  rw [f120, f122]
  generalize hq1 : l2.last.count + 1 = q1 at HC4 HS4 ⊢
  clear hq1
  clear f107 f108 f109 f110 f111 f112 f113 f114 f115 f116 f117 f118 f119 f120 f121 f122 hext hc3 hup hc4 hs4 HC2 HS2 HS3
  go_wp2_with fail
  obtain ⟨w4, hw4⟩ : ∃ w4, w4 = w'.setCell ⟨g2, i1 * 3 + 1, none⟩ (.int .i64 (q1 : Int)) := ⟨_, rfl⟩
  rw [← hw4] at HC4 HS4
  rw [← hw4]
  clear hw4 c1 t1
  obtain ⟨u1, u2, u3⟩ := Lg.upc_ne HNE.out
  have HI3 := Lib.hid (show l2.upc.segs[i1]? = some { l2.last with count := l2.last.count + 1 } by rw [show i1 = l2.segs.length - 1 by have := HI.out; omega]; exact u3)
  have HU2 := Lib.hid u2
  clear u1 u2 u3
  refine wp_region_last_lit (by kernel_rfl) rfl (by kernel_rfl) (by kernel_rfl) ?_
  refine tele_move rfl (.inl rfl) rfl (isV (.pointer (some ⟨bl, 0, none⟩))) (fun ρ w' h => h) ?_
  refine tele_val rfl (.pointer (some ⟨bl, 0, none⟩)) (fun _ _ _ => rfl) ?_ ?_
  ·rintro ρ w' he ⟨h123, -⟩
   have e123 : ρ 123 = (.pointer (some ⟨bl, 0, none⟩)) := h123
   simp [execOp, evR, e123, go_sem]
  refine tele_val rfl (.pointer (some ⟨bl, 2, none⟩)) (fun _ _ _ => rfl) ?_ ?_
  ·rintro ρ w' he ⟨h124, -⟩
   have e124 : ρ 124 = (.pointer (some ⟨bl, 0, none⟩)) := h124
   simp [execOp, evR, e124, go_sem]
  refine tele_val rfl (.slice (some ⟨g2, 0, none⟩) l2.segs.length cv2) (fun _ _ _ => rfl) ?_ ?_
  ·rintro ρ w' he ⟨h125, -⟩
   have e125 : ρ 125 = (.pointer (some ⟨bl, 2, none⟩)) := h125
   have c := (HC4.out.hl.ext he).str.blk.cell (i := 2) rfl
   simp [execOp, evR, e125, c, go_sem]
  refine tele_move rfl (.inl rfl) rfl (isV (.int .i64 (i1 : Int))) (fun ρ w' h => h) ?_
  refine tele_move rfl (.inl rfl) rfl (isV (.pointer (some ⟨bl, 0, none⟩))) (fun ρ w' h => h) ?_
  refine tele_val rfl (.pointer (some ⟨bl, 0, none⟩)) (fun _ _ _ => rfl) ?_ ?_
  ·rintro ρ w' he ⟨h128, -⟩
   have e128 : ρ 128 = (.pointer (some ⟨bl, 0, none⟩)) := h128
   simp [execOp, evR, e128, go_sem]
  refine tele_val rfl (.pointer (some ⟨bl, 2, none⟩)) (fun _ _ _ => rfl) ?_ ?_
  ·rintro ρ w' he ⟨h129, -⟩
   have e129 : ρ 129 = (.pointer (some ⟨bl, 0, none⟩)) := h129
   simp [execOp, evR, e129, go_sem]
  refine tele_val rfl (.slice (some ⟨g2, 0, none⟩) l2.segs.length cv2) (fun _ _ _ => rfl) ?_ ?_
  ·rintro ρ w' he ⟨h130, -⟩
   have e130 : ρ 130 = (.pointer (some ⟨bl, 2, none⟩)) := h130
   have c := (HC4.out.hl.ext he).str.blk.cell (i := 2) rfl
   simp [execOp, evR, e130, c, go_sem]
  refine tele_move rfl (.inl rfl) rfl (isV (.int .i64 (i1 : Int))) (fun ρ w' h => h) ?_
  refine tele_val rfl (.pointer (some ⟨g2, i1 * 3, none⟩)) (fun _ _ _ => rfl) ?_ ?_
  ·rintro ρ w' he ⟨h131, h132, -⟩
   have e131 : ρ 131 = (.slice (some ⟨g2, 0, none⟩) l2.segs.length cv2) := h131
   have e132 : ρ 132 = (.int .i64 (i1 : Int)) := h132
   exact index_rseg rfl e131 e132 HIL.out
  refine tele_val rfl (.pointer (some ⟨g2, i1 * 3 + 2, none⟩)) (fun _ _ _ => rfl) ?_ ?_
  ·rintro ρ w' he ⟨h133, -⟩
   have e133 : ρ 133 = (.pointer (some ⟨g2, i1 * 3, none⟩)) := h133
   simp [execOp, evR, e133, go_sem]
  refine tele_val rfl (.int .i64 (l2.last.bytes : Int)) (fun _ _ _ => rfl) ?_ ?_
  ·rintro ρ w' he ⟨h134, -⟩
   have e134 : ρ 134 = (.pointer (some ⟨g2, i1 * 3 + 2, none⟩)) := h134
   have c := (RlM.cells (HC4.out.hl.ext he) HI3.out).2.2
   simp [execOp, evR, e134, c, go_sem]
  refine tele_move rfl (.inl rfl) rfl (isV (.slice A2 n2 c2)) (fun ρ w' h => h) ?_
  refine tele_val rfl (.int .i64 (n2 : Int)) (fun _ _ _ => rfl) ?_ ?_
  ·rintro ρ w' he ⟨h136, -⟩
   have e136 : ρ 136 = (.slice A2 n2 c2) := h136
   simp [execOp, evR, e136, go_sem]
  refine tele_val rfl (.int .i64 ((l2.last.bytes + n2 : Nat) : Int)) (fun _ _ _ => rfl) ?_ ?_
  ·rintro ρ w' he ⟨h135, h137, -⟩
   have e135 : ρ 135 = (.int .i64 (l2.last.bytes : Int)) := h135
   have e137 : ρ 137 = (.int .i64 (n2 : Int)) := h137
   have hw := HW2.out
   simp [execOp, evR, e135, e137, hw, go_sem]
  refine tele_val rfl (.pointer (some ⟨g2, i1 * 3, none⟩)) (fun _ _ _ => rfl) ?_ ?_
  ·rintro ρ w' he ⟨h126, h127, -⟩
   have e126 : ρ 126 = (.slice (some ⟨g2, 0, none⟩) l2.segs.length cv2) := h126
   have e127 : ρ 127 = (.int .i64 (i1 : Int)) := h127
   exact index_rseg rfl e126 e127 HIL.out
  refine tele_val rfl (.pointer (some ⟨g2, i1 * 3 + 2, none⟩)) (fun _ _ _ => rfl) ?_ ?_
  ·rintro ρ w' he ⟨h139, -⟩
   have e139 : ρ 139 = (.pointer (some ⟨g2, i1 * 3, none⟩)) := h139
   simp [execOp, evR, e139, go_sem]
  refine tele_nil ?_
  rintro ρ w' hext ⟨f140, f139, f138, f137, f136, f135, f134, f133, f132, f131, f130, f129, f128, f127, f126, f125, f124, f123, -⟩
  replace f138 : ρ 138 = (.int .i64 ((l2.last.bytes + n2 : Nat) : Int)) := f138
  replace f140 : ρ 140 = (.pointer (some ⟨g2, i1 * 3 + 2, none⟩)) := f140
  simp only [puts, Act.put, List.setIfInBounds_toArray, List.set_cons_zero, List.set_cons_succ]
  have hc5 := HC4.out.ext hext
  have HS5 := Lib.hid (HS4.out.ext hext)
  have c1 := (RlM.cells hc5.hl HI3.out).2.2
  have hrow5 := hc5.hl.row
  rw [HU2.out] at hrow5
  have t1 := hrow5.frozenAt (i1 * 3 + 2)
  clear hrow5
  have hup := hc5.hl.up2 HNE.out n2 HI.out
  obtain ⟨hc6, hs6⟩ := hc5.put hup (Kb.set _ w' g2 (i1 * 3 + 2) _ (.inr rfl)) (fun _ h => .inl h)
  have HS6 := Lib.hid (HS5.out.trans hs6)
  have HC6 := Lib.hid hc6
  obtain ⟨hue, hul, hula⟩ := Lg.up_segs l2 n2 HNE.out
  have hunx := Lg.up_next l2 n2 HNE.out
  have hw3 : IntKind.i64.wrap (((l2.up n2).next : Int) - 1) = (((l2.up n2).next - 1 : Nat) : Int) := by rw [IntWalk.i64_in _ (by have := HNX.out; omega)]; omega
  have HKN := Lib.hid (rlNext_any hc6.hl hue (by have := HNX.out; omega))
  rw [f138, f140]
  clear f123 f124 f125 f126 f127 f128 f129 f130 f131 f132 f133 f134 f135 f136 f137 f138 f139 f140 hext hc5 hup hc6 hs6 HC4 HS4 HS5 hue hul hula hunx HW1 HW2 HI3 HI2
  obtain ⟨L2, hL2⟩ : ∃ L2, L2 = l2.up n2 := ⟨_, rfl⟩
  rw [← hL2] at HKN HC6 HWP hw3
  generalize hq2 : l2.last.bytes + n2 = q2 at HC6 HS6 HKN ⊢
  clear hq2
  generalize L2.next - 1 = q5 at *
  generalize L2.next = q6 at *
  clear hL2
  go_wp2_with fail
  refine HKN.out.mono ?_
  rintro e w5 ⟨rfl, hx5⟩
  go_wp2_with fail
  go_ret2
  rw [HWP.out]
  exact ⟨rfl, s3, _, HC6.out.ext hx5, HS6.out.ext hx5⟩
end Go.Proofs.YtagghghoimpofaaGreatDoor
