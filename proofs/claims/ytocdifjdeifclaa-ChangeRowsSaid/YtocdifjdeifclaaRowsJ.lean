/-
  Layer 12: the rows that a change makes, in plain Lean; what stands while they are made.
-/
import Derived.Test.YtocdifjdeifclaaRowMake
namespace Go.Proofs.Ytocdifjdeifclaa
open Go Go.RowKit Mono Num
set_option linter.unusedVariables false
set_option linter.unusedSimpArgs false
set_option maxRecDepth 100000

abbrev RwP := List UInt8 × List Cl
def polAt (gs : List Grp) (g : Int) : Int := (gs.getD g.toNat ([], 0)).2
/-- The cell of a write. -/
def wcell (gs : List Grp) (c : Ch) (x : Wr) : Cl := clOf (polAt gs x.group) c.sn c.ss c.va c.vb x.gone x.value
def bareR (gs : List Grp) (key : List UInt8) : RwP := (key, List.replicate gs.length Cl.nought)
/-- The row that a write goes to stands last. -/
def rowsAdd (gs : List Grp) (acc : List RwP) (key : List UInt8) : List RwP := if acc.getLast?.map (·.1) = some key then acc else acc ++ [bareR gs key]
def rowsPut (acc : List RwP) (g : Nat) (cl : Cl) : List RwP := acc.dropLast ++ (acc.getLast?.map (fun r => (r.1, r.2.set g cl))).toList
def rowsStep (gs : List Grp) (c : Ch) (acc : List RwP) (x : Wr) : List RwP := rowsPut (rowsAdd gs acc x.key) x.group.toNat (wcell gs c x)
def rowsF (gs : List Grp) (c : Ch) (ws : List Wr) : List RwP := ws.foldl (rowsStep gs c) []
/-- What Rows answers. -/
def crows (gs : List Grp) (c : Ch) : List RwP × Nat := if cgood gs c ≠ 0 then ([], cgood gs c) else (rowsF gs c c.writes, 0)
theorem rowsF_step {gs : List Grp} {c : Ch} {ws : List Wr} {k : Nat} {x : Wr} (h : ws[k]? = some x) : rowsF gs c (ws.take (k + 1)) = rowsStep gs c (rowsF gs c (ws.take k)) x := by
  unfold rowsF
  rw [List.take_add_one, h, List.foldl_append]
  rfl
theorem rowsPut_snoc (pre : List RwP) (k : List UInt8) (cs : List Cl) (g : Nat) (cl : Cl) : rowsPut (pre ++ [(k, cs)]) g cl = pre ++ [(k, cs.set g cl)] := by
  unfold rowsPut
  simp
/-! ### A change that may be -/
theorem goodF_each : ∀ (ws : List Wr) (n : Nat) (p : Option Wr), cgoodF n p ws = true → ∀ x ∈ ws, wok n x = true
  | [], _, _, _, x, hx => by cases hx
  | y :: r, n, p, h, x, hx => by
    unfold cgoodF at h
    simp only [Bool.and_eq_true] at h
    rcases List.mem_cons.1 hx with rfl | hx
    · exact h.1.1
    · exact goodF_each r n (some y) h.2 x hx
theorem good_parts {gs : List Grp} {c : Ch} (h : cgood gs c = 0) : pgood gs = 0 ∧ chead c = true ∧ 1 ≤ c.writes.length ∧ c.writes.length ≤ 8 ∧ cgoodF gs.length none c.writes = true := by
  unfold cgood at h
  by_cases hp : pgood gs = 0
  · rw [if_neg (by omega)] at h
    cases hc : chead c
    · rw [if_pos hc] at h; cases h
    · rw [if_neg (by simp [hc])] at h
      by_cases hn : c.writes.length < 1 ∨ 8 < c.writes.length
      · rw [if_pos hn] at h; cases h
      · rw [if_neg hn] at h
        cases hf : cgoodF gs.length none c.writes
        · rw [if_neg (by simp [hf])] at h; cases h
        · exact ⟨hp, rfl, by omega, by omega, rfl⟩
  · rw [if_pos hp] at h
    exact absurd h hp
theorem head_parts {c : Ch} (h : chead c = true) : sgood c.sn c.ss = true ∧ 1 ≤ c.sn ∧ vgood c.va c.vb = true := by
  unfold chead at h
  simp only [Bool.and_eq_true, Bool.or_eq_true, beq_iff_eq, decide_eq_true_eq] at h
  have h4 := sgood_iff.1 h.1.1.2
  refine ⟨h.1.1.2, ?_, h.1.2⟩
  omega
theorem wok_parts {n : Nat} {x : Wr} (h : wok n x = true) : x.key ≠ [] ∧ x.key.length ≤ 32 ∧ 0 ≤ x.group ∧ x.group < (n : Int) ∧ x.value.length ≤ 64 ∧ (x.gone = true → x.value = []) := by
  unfold wok at h
  simp only [Bool.and_eq_true, Bool.not_eq_true', beq_eq_false_iff_ne, decide_eq_true_eq, ne_eq] at h
  obtain ⟨⟨⟨⟨⟨h1, h2⟩, h3⟩, h4⟩, h5⟩, h6⟩ := h
  refine ⟨h1, h2, h3, h4, h5, fun hg => ?_⟩
  rw [hg] at h6
  simpa using h6
theorem goodF_pol : ∀ (l : List Grp) (met : List (List UInt8)), pgoodF met l = 0 → ∀ g ∈ l, g.2 = 1 ∨ g.2 = 2
  | [], _, _, g, hg => by cases hg
  | y :: r, met, h, g, hg => by
    unfold pgoodF at h
    cases hy : grpOk y
    · rw [if_pos hy] at h; cases h
    · rw [if_neg (by simp [hy])] at h
      by_cases hm : y.1 ∈ met
      · rw [if_pos hm] at h; cases h
      · rw [if_neg hm] at h
        rcases List.mem_cons.1 hg with rfl | hg
        · unfold grpOk polOk at hy
          simp only [Bool.and_eq_true, Bool.or_eq_true, beq_iff_eq] at hy
          exact hy.2
        · exact goodF_pol r _ h g hg
theorem pgood_pol {gs : List Grp} (h : pgood gs = 0) : ∀ g ∈ gs, g.2 = 1 ∨ g.2 = 2 := by
  unfold pgood at h
  by_cases h0 : gs.length = 0
  · rw [if_pos h0] at h; cases h
  · rw [if_neg h0] at h
    by_cases h4 : 4 < gs.length
    · rw [if_pos h4] at h; cases h
    · rw [if_neg h4] at h
      exact goodF_pol gs [] h

/-! ### Memory -/
/-- A row in memory: its key, its cells, the value of these. -/
abbrev RwM := List UInt8 × List Cl × Value
def erR (x : RwM) : RwP := (x.1, x.2.1)
def rwC (l : List RwM) : List Value := l.flatMap fun x => [strV x.1, x.2.2]
theorem rwC_len (l : List RwM) : (rwC l).length = l.length * 2 := by
  induction l with
  | nil => rfl
  | cons a l ih => unfold rwC at ih ⊢; rw [List.flatMap_cons, List.length_append, ih]; simp; omega
theorem rwC_snoc (l : List RwM) (x : RwM) : rwC (l ++ [x]) = rwC l ++ [strV x.1, x.2.2] := by unfold rwC; simp
theorem rwC_get : ∀ (l : List RwM) (i : Nat) (x : RwM), l[i]? = some x → (rwC l)[i * 2]? = some (strV x.1) ∧ (rwC l)[i * 2 + 1]? = some x.2.2
  | y :: l, 0, x, h => by
    obtain rfl : y = x := by simpa using h
    simp [rwC]
  | y :: l, i + 1, x, h => by
    have h1 := rwC_get l i x (by simpa using h)
    have h2 : rwC (y :: l) = [strV y.1, y.2.2] ++ rwC l := by unfold rwC; simp
    have e : ∀ j, (rwC (y :: l))[(i + 1) * 2 + j]? = (rwC l)[i * 2 + j]? := fun j => by
      rw [h2, List.getElem?_append_right (by simp; omega)]
      congr 1
      simp
      omega
    exact ⟨(e 0).trans h1.1, (e 1).trans h1.2⟩
theorem clsC_cons (a : Cl) (l : List Cl) : clsC (a :: l) = clC a ++ clsC l := by unfold clsC; simp
theorem set_far (L xs : List Value) (i : Nat) (u : Value) (h : L.length = 8) : (L ++ xs).set (i + 8) u = L ++ xs.set i u := by
  rw [List.set_append_right _ _ (by omega), h, Nat.add_sub_cancel]
theorem clsC_set (x : Cl) : ∀ (l : List Cl) (g : Nat), g < l.length → ((((((((clsC l).set (g * 8) (.int .i64 x.sn)).set (g * 8 + 1) (.int .i64 x.ss)).set (g * 8 + 2) (.int .i64 x.va)).set (g * 8 + 3) (.int .i64 x.vb)).set (g * 8 + 4) (.bool x.gone)).set (g * 8 + 5) (strV x.value)).set (g * 8 + 6) (.int .i64 x.da)).set (g * 8 + 7) (.int .i64 x.db) = clsC (l.set g x)
  | a :: l, 0, _ => by
    rw [List.set_cons_zero, clsC_cons, clsC_cons]
    rfl
  | a :: l, g + 1, h => by
    have ih := clsC_set x l g (by simpa using h)
    have hl : (clC a).length = 8 := rfl
    rw [List.set_cons_succ, clsC_cons, clsC_cons, ← ih]
    have e : ∀ j, (g + 1) * 8 + j = (g * 8 + j) + 8 := fun j => by omega
    have e0 : (g + 1) * 8 = g * 8 + 8 := by omega
    rw [e 1, e 2, e 3, e 4, e 5, e 6, e 7, e0, set_far _ _ _ _ hl, set_far _ _ _ _ hl, set_far _ _ _ _ hl, set_far _ _ _ _ hl, set_far _ _ _ _ hl, set_far _ _ _ _ hl, set_far _ _ _ _ hl, set_far _ _ _ _ hl]

/-- What stands while rows are made. -/
structure RsJ (w : World) (vo : Value) (outs : List RwM) (W : World) : Prop where
  ext : Ext w W
  row : W.ownsRow w.heap.size 47 2 vo outs.length (rwC outs)
  own : ∀ x ∈ outs, ClsO w W x.2.2 x.2.1 ∧ 0 < x.2.1.length
  apart : outs.Pairwise fun x y => x.2.2.ownBlock ≠ y.2.2.ownBlock
theorem RsJ.start {w W : World} (h : Ext w W) : RsJ w (.slice none 0 0) [] W := ⟨h, ⟨rfl, .inl ⟨rfl, rfl⟩⟩, by simp, List.Pairwise.nil⟩
theorem RsJ.more {w W W' : World} {vo : Value} {outs : List RwM} (h : RsJ w vo outs W) (he : Ext W W') : RsJ w vo outs W' :=
  ⟨h.ext.trans he, row_apart (row := none) h.row ⟨he.os, he.tape, he.output, he.size, fun k hk _ => he.block k hk⟩ (fun j C fz e => by cases e), fun x hx => ⟨(h.own x hx).1.ext he, (h.own x hx).2⟩, h.apart⟩
theorem row_typed {W : World} {z k sz : Nat} {e : TypeId} {v : Value} {xs : List Value} (h : W.ownsRow z e sz v k xs) : ∀ j, v.ownBlock = some j → z ≤ j ∧ ∃ C fz, W.heap[j]? = some (Obj.cells C e fz) := fun j ej => by
  rcases h.2 with ⟨rfl, _⟩ | ⟨g, cap, cur, rfl, hb, hgb, _⟩
  · simp [Value.ownBlock] at ej
  · obtain rfl : g = j := by simpa [Value.ownBlock] using ej
    exact ⟨hb, _, _, hgb⟩
theorem own_some {w W : World} {v : Value} {cs : List Cl} (h : ClsO w W v cs) (h0 : 0 < cs.length) : ∃ B cap, v = .slice (some ⟨B, 0, none⟩) cs.length cap ∧ w.heap.size ≤ B ∧ B < W.heap.size := by
  rcases h.2 with ⟨_, hn⟩ | ⟨g, cap, cur, hv, hb, hgb, _⟩
  · omega
  · exact ⟨g, cap, hv, hb, (Array.getElem?_eq_some_iff.1 hgb).1⟩
/-- A bare row more: its cells are new ones, the row of rows grows. -/
theorem RsJ.add {w wc W9 w3 : World} {vo v' vc : Value} {outs : List RwM} {tmp : Obj} {key : List UInt8} {cs : List Cl} (h0 : RsJ w vo outs wc) (h : RsJ w vo outs W9) (hc : ClsO wc W9 vc cs) (hp : 0 < cs.length)
    (hown : w3.ownsRow w.heap.size 47 2 v' (outs.length + 1) (rwC outs ++ [strV key, vc])) (hg : (W9.alloc tmp).grownBy w3 vo.ownBlock) : RsJ w v' (outs ++ [(key, cs, vc)]) w3 := by
  have hge := row_typed h.row
  have tOf : ∀ j, vo.ownBlock = some j → ∃ C fz, (W9.alloc tmp).heap[j]? = some (Obj.cells C 47 fz) := fun j ej => by
    obtain ⟨_, C, fz, hj⟩ := hge j ej
    exact ⟨C, fz, (Below.heap_alloc W9 tmp j (Array.getElem?_eq_some_iff.1 hj).1).trans hj⟩
  have keep : ∀ {x : Value} {l : List Cl}, ClsO w W9 x l → ClsO w w3 x l := fun hx => row_apart (hx.ext (ext_alloc _ tmp)) hg (fun j C fz e hj => by
    obtain ⟨C', fz', hT⟩ := tOf j e
    rw [hj] at hT
    injection hT with hT
    injection hT with _ hT
    exact absurd hT (by decide))
  have hcw : ClsO w W9 vc cs := row_le hc h0.ext.size
  refine ⟨Below.grown (h.ext.trans (ext_alloc _ tmp)) hg (h.ext.trans (ext_alloc _ tmp)).size (fun j ej => (hge j ej).1), ?_, fun x hx => ?_, ?_⟩
  · rw [List.length_append, rwC_snoc]
    exact hown
  · rcases List.mem_append.1 hx with hx | hx
    · exact ⟨keep (h.own x hx).1, (h.own x hx).2⟩
    · rw [List.mem_singleton.1 hx]
      exact ⟨keep hcw, hp⟩
  · refine List.pairwise_append.2 ⟨h.apart, List.pairwise_singleton _ _, fun x hx y hy => ?_⟩
    rw [List.mem_singleton.1 hy]
    obtain ⟨B, cap, hv, _, hB⟩ := own_some (h0.own x hx).1 (h0.own x hx).2
    obtain ⟨B', cap', hv', hB', _⟩ := own_some hc hp
    dsimp only
    rw [hv, hv']
    simp only [Value.ownBlock]
    intro e
    injection e with e
    omega
def set8o (w : World) (b o : Nat) (x : Cl) : World := (((((((w.setCell ⟨b, o, none⟩ (.int .i64 x.sn)).setCell ⟨b, o + 1, none⟩ (.int .i64 x.ss)).setCell ⟨b, o + 2, none⟩ (.int .i64 x.va)).setCell ⟨b, o + 3, none⟩ (.int .i64 x.vb)).setCell ⟨b, o + 4, none⟩ (.bool x.gone)).setCell ⟨b, o + 5, none⟩ (strV x.value)).setCell ⟨b, o + 6, none⟩ (.int .i64 x.da)).setCell ⟨b, o + 7, none⟩ (.int .i64 x.db)
theorem gb_two {w w1 w2 : World} {row : Option Nat} (h : w.grownBy w1 row) (k : w1.grownBy w2 row) : w.grownBy w2 row :=
  ⟨k.os.trans h.os, k.tape.trans h.tape, k.output.trans h.output, Nat.le_trans h.size k.size, fun i hi hn => (k.block i (Nat.lt_of_lt_of_le hi h.size) hn).trans (h.block i hi hn)⟩
theorem set8o_gb (w : World) (b o : Nat) (x : Cl) : w.grownBy (set8o w b o x) (some b) :=
  gb_two (gb_two (gb_two (gb_two (gb_two (gb_two (gb_two (gb_setC _ _ _ _) (gb_setC _ _ _ _)) (gb_setC _ _ _ _)) (gb_setC _ _ _ _)) (gb_setC _ _ _ _)) (gb_setC _ _ _ _)) (gb_setC _ _ _ _)) (gb_setC _ _ _ _)
theorem set8o_row {w W : World} {B cap : Nat} {cs : List Cl} {g : Nat} {x : Cl} (h : ClsO w W (.slice (some ⟨B, 0, none⟩) cs.length cap) cs) (hg : g < cs.length) : ClsO w (set8o W B (g * 8) x) (.slice (some ⟨B, 0, none⟩) cs.length cap) (cs.set g x) := by
  unfold ClsO at h ⊢
  have h' := ((((((((h.stored (g * 8) (.int .i64 x.sn)).1.stored (g * 8 + 1) (.int .i64 x.ss)).1.stored (g * 8 + 2) (.int .i64 x.va)).1.stored (g * 8 + 3) (.int .i64 x.vb)).1.stored (g * 8 + 4) (.bool x.gone)).1.stored (g * 8 + 5) (strV x.value)).1.stored (g * 8 + 6) (.int .i64 x.da)).1.stored (g * 8 + 7) (.int .i64 x.db)).1
  rw [clsC_set x cs g hg] at h'
  rw [List.length_set]
  exact h'
/-- The last row's cell is written. -/
theorem RsJ.put {w W : World} {vo : Value} {pre : List RwM} {key : List UInt8} {cs : List Cl} {B cap g : Nat} {x : Cl} (h : RsJ w vo (pre ++ [(key, cs, .slice (some ⟨B, 0, none⟩) cs.length cap)]) W) (hg : g < cs.length) :
    RsJ w vo (pre ++ [(key, cs.set g x, .slice (some ⟨B, 0, none⟩) cs.length cap)]) (set8o W B (g * 8) x) := by
  have hgb := set8o_gb W B (g * 8) x
  have hlast := (h.own (key, cs, .slice (some ⟨B, 0, none⟩) cs.length cap) (by simp)).1
  obtain ⟨hB, C, fz, hBt⟩ := row_typed hlast B rfl
  have hpw := List.pairwise_append.1 h.apart
  refine ⟨Below.grown h.ext hgb h.ext.size (fun j e => by injection e with e; omega), ?_, fun y hy => ?_, ?_⟩
  · have h1 := row_apart h.row hgb (fun j C' fz' e hj => by
      injection e with e
      subst e
      rw [hBt] at hj
      injection hj with hj
      injection hj with _ hj
      exact absurd hj (by decide))
    simp only [List.length_append, List.length_singleton, rwC_snoc] at h1 ⊢
    exact h1
  · rcases List.mem_append.1 hy with hy | hy
    · have hne := hpw.2.2 y hy _ List.mem_cons_self
      refine ⟨World.ownsRow.kept (h.own y (List.mem_append_left _ hy)).1 hgb ?_, (h.own y (List.mem_append_left _ hy)).2⟩
      exact .inr hne
    · rw [List.mem_singleton.1 hy]
      refine ⟨?_, by rw [List.length_set]; omega⟩
      exact set8o_row hlast hg
  · refine List.pairwise_append.2 ⟨hpw.1, List.pairwise_singleton _ _, fun y hy z hz => ?_⟩
    rw [List.mem_singleton.1 hz]
    exact hpw.2.2 y hy (key, cs, .slice (some ⟨B, 0, none⟩) cs.length cap) List.mem_cons_self
end Go.Proofs.Ytocdifjdeifclaa
