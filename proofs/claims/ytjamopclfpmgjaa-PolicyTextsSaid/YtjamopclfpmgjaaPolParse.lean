/-
  What policy.Parse keeps in memory: the groups, the name's and the word's runes.
-/
import Derived.Test.YtjamopclfpmgjaaPolEnc
import Derived.Laws.Cover4
import Derived.Maps.AppendAt
import Derived.RangeFuncBox
import Derived.RangeFuncNested
import Derived.OneCell
namespace Go.Proofs.Ytjamopclfpmgjaa
open Go Go.RowKit Mono Num
set_option linter.unusedVariables false
set_option linter.unusedSimpArgs false

def rv (r : Int) : Value := .int .i32 r
/-- A text's bytes of runes. -/
def rb (ns : List Int) : List UInt8 := (runesBytes ns).data.toList
theorem strV_rb (ns : List Int) : strV (rb ns) = .string (runesBytes ns) := by unfold strV rb; simp
def lastW : List UInt8 := [108, 97, 115, 116]
def delW : List UInt8 := [100, 101, 108, 101, 116, 101]
def polW (q : List UInt8) : Int := if q = lastW then 1 else if q = delW then 2 else 0
def gcells (l : List Grp) : List Value := l.flatMap fun g => [strV g.1, .int .i64 g.2]
theorem gcells_len (l : List Grp) : (gcells l).length = l.length * 2 := by
  induction l with
  | nil => rfl
  | cons g r ih => simp only [gcells, List.flatMap_cons, List.length_append, List.length_cons, List.length_nil] at ih ⊢; omega
theorem gcells_snoc (l : List Grp) (g : Grp) : gcells (l ++ [g]) = gcells l ++ [strV g.1, .int .i64 g.2] := by simp [gcells]
theorem gcells_get : ∀ (l : List Grp) (i : Nat) (g : Grp), l[i]? = some g → (gcells l)[i * 2]? = some (strV g.1) ∧ (gcells l)[i * 2 + 1]? = some (.int .i64 g.2)
  | [], i, g, h => by simp at h
  | x :: r, 0, g, h => by
    obtain rfl : x = g := by simpa using h
    exact ⟨rfl, rfl⟩
  | x :: r, i + 1, g, h => by
    have := gcells_get r i g (by simpa using h)
    have e : gcells (x :: r) = strV x.1 :: .int .i64 x.2 :: gcells r := rfl
    rw [e, show (i + 1) * 2 = i * 2 + 1 + 1 by omega]
    simpa using this
/-- What Parse is at. -/
structure PAt where
  l : List Grp
  nm : List Int
  rs : List Int
  bh : Bool
def padd (s : PAt) : PAt := ⟨s.l ++ [(rb s.nm, polW (rb s.rs))], [], [], false⟩
def pstep (s : PAt) (c : Int) : PAt := if c = 44 then padd s else if s.bh = true then { s with rs := s.rs ++ [c] } else if c = 61 then { s with bh := true } else { s with nm := s.nm ++ [c] }
def ptoksF : Nat → ByteArray → Nat → PAt → PAt
  | 0, _, _, st => st
  | f + 1, s, pos, st => if pos < s.size then ptoksF f s (pos + (Utf8.decode s pos).2) (pstep st (Utf8.decode s pos).1) else st
/-- The groups of a text. -/
def ptoks (s : List UInt8) : List Grp := (padd (ptoksF s.length ⟨s.toArray⟩ 0 ⟨[], [], [], false⟩)).l
def pparse (s : List UInt8) : List Grp × Nat := if 80 < s.length then ([], 11) else if pgood (ptoks s) ≠ 0 then ([], 11) else (ptoks s, 0)

/-- Parse's memory: n: where its boxes begin. -/
structure PMem (n : Nat) (s : PAt) (vl vn vr : Value) (w : World) : Prop where
  bl : Boxed w n 22 vl
  rl : w.ownsRow (n + 5) 45 2 vl s.l.length (gcells s.l)
  bn : Boxed w (n + 1) 58 vn
  rn : w.ownsRow (n + 5) 21 1 vn s.nm.length (s.nm.map rv)
  br : Boxed w (n + 2) 58 vr
  rr : w.ownsRow (n + 5) 21 1 vr s.rs.length (s.rs.map rv)
  bb : Boxed w (n + 3) 4 (.bool s.bh)
  dis : vn.ownBlock = none ∨ vn.ownBlock ≠ vr.ownBlock
  lim : n + 5 ≤ w.heap.size
/-- A step that grows one of the rows or writes one of the boxes. -/
theorem row_ge {w : World} {base size k : Nat} {e : TypeId} {v : Value} {xs : List Value} (h : w.ownsRow base e size v k xs) : ∀ j, v.ownBlock = some j → base ≤ j ∧ j < w.heap.size := World.ownsRow.lt h
theorem row_types {W : World} {base z k k' size size' : Nat} {e e' : TypeId} {v vo : Value} {l xs : List Value} (h : W.ownsRow base e' size' v k' l) (hr : W.ownsRow z e size vo k xs) (he : e ≠ e') : v.ownBlock = none ∨ v.ownBlock ≠ vo.ownBlock := by
  rcases h.2 with ⟨rfl, _⟩ | ⟨g, cap, cur, rfl, _, hgb, _⟩
  · exact .inl rfl
  · refine .inr fun e1 => ?_
    rcases hr.2 with ⟨rfl, _⟩ | ⟨g', cap', cur', rfl, _, hgb', _⟩
    · simp [Value.ownBlock] at e1
    · obtain rfl : g = g' := by simpa [Value.ownBlock] using e1
      rw [hgb] at hgb'
      simp at hgb'
      exact he hgb'.2.symm
theorem row_box {w : World} {base size k b : Nat} {e : TypeId} {v u : Value} {xs : List Value} (h : w.ownsRow base e size v k xs) (hb : b < base) : (w.setCell ⟨b, 0, none⟩ u).ownsRow base e size v k xs := by
  refine h.kept (grownBy_setCell' w b u) ?_
  rcases hv : v.ownBlock with _ | j
  · exact .inl rfl
  · refine .inr fun e' => ?_
    injection e' with e'
    have := (row_ge h j hv).1
    omega
theorem PMem.kept {n : Nat} {s : PAt} {vl vn vr : Value} {w w' : World} (h : PMem n s vl vn vr w) (he : Below w.heap.size w w') : PMem n s vl vn vr w' := by
  have hg : w.grownBy w' none := ⟨he.os, he.tape, he.output, he.size, fun k hk _ => he.block k hk⟩
  have none_ne : ∀ v : Value, v.ownBlock = none ∨ v.ownBlock ≠ none := fun v => by cases v.ownBlock <;> simp
  exact ⟨h.bl.kept hg (by simp), h.rl.kept hg (none_ne _), h.bn.kept hg (by simp), h.rn.kept hg (none_ne _), h.br.kept hg (by simp), h.rr.kept hg (none_ne _), h.bb.kept hg (by simp), h.dis, Nat.le_trans h.lim he.size⟩
/-- The name grows. -/
theorem PMem.name {n k : Nat} {s : PAt} {vl vn vr v' : Value} {c : Int} {ys : List Value} {w w1 : World} {tmp : Obj} (h : PMem n s vl vn vr w) (hown : w1.ownsRow (n + 5) 21 1 v' k ys) (hk : k = s.nm.length + 1) (hys : ys = s.nm.map rv ++ [rv c])
    (hg : (w.alloc tmp).grownBy w1 vn.ownBlock) (hat : v'.ownBlock = vn.ownBlock ∨ v'.ownBlock = some (w.alloc tmp).heap.size) :
    Boxed w1 (n + 1) 58 vn ∧ PMem n { s with nm := s.nm ++ [c] } vl v' vr (w1.setCell ⟨n + 1, 0, none⟩ v') ∧ Below n w (w1.setCell ⟨n + 1, 0, none⟩ v') ∧ (w1.setCell ⟨n + 1, 0, none⟩ v').heap[n + 4]? = w.heap[n + 4]? := by
  subst hk hys
  have hl := h.lim
  have rnA := h.rn.alloc tmp
  have hge := row_ge h.rn
  have box : ∀ {b : Nat} {T : TypeId} {u : Value}, b < n + 5 → Boxed w b T u → Boxed w1 b T u := fun hb hbx => (hbx.alloc tmp).kept hg (fun e => by have := (hge _ e.symm).1; omega)
  have rl1 := (h.rl.alloc tmp).kept hg (row_types (h.rl.alloc tmp) rnA (by decide))
  have rr1 : w1.ownsRow (n + 5) 21 1 vr s.rs.length (s.rs.map rv) := (h.rr.alloc tmp).kept hg (by
    rcases h.dis with hd | hd
    · rw [hd]; cases vr.ownBlock <;> simp
    · exact .inr (fun e => hd e.symm))
  have bn1 := box (by omega) h.bn
  have hs1 := hg.size
  rw [World.size_alloc] at hs1
  refine ⟨bn1, ⟨(box (by omega) h.bl).other (by omega) _, row_box rl1 (by omega), bn1.set v', ?_, (box (by omega) h.br).other (by omega) _, row_box rr1 (by omega), (box (by omega) h.bb).other (by omega) _, ?_, by simp; omega⟩, ?_, ?_⟩
  · rw [List.length_append, List.map_append]
    exact row_box hown (by omega)
  · rcases hat with e | e
    · rw [e]; exact h.dis
    · refine .inr fun e' => ?_
      rw [e] at e'
      have := (row_ge h.rr _ e'.symm).2
      simp at this
      omega
  · exact Below.setCell (Below.grown (Below.alloc (Below.refl _ _) (by omega) tmp) hg (by simp; omega) (fun j hj => by have := (hge j hj).1; omega)) (by simp) _
  · rw [Below.heap_setCell _ _ _ _ (by simp), hg.block (n + 4) (by simp; omega) (fun e => by have := (hge _ e.symm).1; omega), Below.heap_alloc _ _ _ (by omega)]
/-- The word grows. -/
theorem PMem.word {n k : Nat} {s : PAt} {vl vn vr v' : Value} {c : Int} {ys : List Value} {w w1 : World} {tmp : Obj} (h : PMem n s vl vn vr w) (hown : w1.ownsRow (n + 5) 21 1 v' k ys) (hk : k = s.rs.length + 1) (hys : ys = s.rs.map rv ++ [rv c])
    (hg : (w.alloc tmp).grownBy w1 vr.ownBlock) (hat : v'.ownBlock = vr.ownBlock ∨ v'.ownBlock = some (w.alloc tmp).heap.size) :
    Boxed w1 (n + 2) 58 vr ∧ PMem n { s with rs := s.rs ++ [c] } vl vn v' (w1.setCell ⟨n + 2, 0, none⟩ v') ∧ Below n w (w1.setCell ⟨n + 2, 0, none⟩ v') ∧ (w1.setCell ⟨n + 2, 0, none⟩ v').heap[n + 4]? = w.heap[n + 4]? := by
  subst hk hys
  have hl := h.lim
  have rrA := h.rr.alloc tmp
  have hge := row_ge h.rr
  have box : ∀ {b : Nat} {T : TypeId} {u : Value}, b < n + 5 → Boxed w b T u → Boxed w1 b T u := fun hb hbx => (hbx.alloc tmp).kept hg (fun e => by have := (hge _ e.symm).1; omega)
  have rl1 := (h.rl.alloc tmp).kept hg (row_types (h.rl.alloc tmp) rrA (by decide))
  have rn1 : w1.ownsRow (n + 5) 21 1 vn s.nm.length (s.nm.map rv) := (h.rn.alloc tmp).kept hg h.dis
  have br1 := box (by omega) h.br
  have hs1 := hg.size
  rw [World.size_alloc] at hs1
  refine ⟨br1, ⟨(box (by omega) h.bl).other (by omega) _, row_box rl1 (by omega), (box (by omega) h.bn).other (by omega) _, row_box rn1 (by omega), br1.set v', ?_, (box (by omega) h.bb).other (by omega) _, ?_, by simp; omega⟩, ?_, ?_⟩
  · rw [List.length_append, List.map_append]
    exact row_box hown (by omega)
  · rcases hat with e | e
    · rw [e]; exact h.dis
    · rcases hvn : vn.ownBlock with _ | j
      · exact .inl rfl
      · refine .inr fun e' => ?_
        rw [e] at e'
        injection e' with e'
        have := (row_ge h.rn _ hvn).2
        simp at e'
        omega
  · exact Below.setCell (Below.grown (Below.alloc (Below.refl _ _) (by omega) tmp) hg (by simp; omega) (fun j hj => by have := (hge j hj).1; omega)) (by simp) _
  · rw [Below.heap_setCell _ _ _ _ (by simp), hg.block (n + 4) (by simp; omega) (fun e => by have := (hge _ e.symm).1; omega), Below.heap_alloc _ _ _ (by omega)]
/-- The sign has come. -/
theorem PMem.sign {n : Nat} {s : PAt} {vl vn vr : Value} {w : World} (h : PMem n s vl vn vr w) (b : Bool) :
    PMem n { s with bh := b } vl vn vr (w.setCell ⟨n + 3, 0, none⟩ (.bool b)) ∧ Below n w (w.setCell ⟨n + 3, 0, none⟩ (.bool b)) ∧ (w.setCell ⟨n + 3, 0, none⟩ (.bool b)).heap[n + 4]? = w.heap[n + 4]? := by
  have hl := h.lim
  exact ⟨⟨h.bl.other (by omega) _, row_box h.rl (by omega), h.bn.other (by omega) _, row_box h.rn (by omega), h.br.other (by omega) _, row_box h.rr (by omega), h.bb.set _, h.dis, by simpa using hl⟩,
    Below.setCell (Below.refl _ _) (by simp) _, Below.heap_setCell _ _ _ _ (by simp)⟩
/-- A group more; the name and the word are empty again. -/
theorem PMem.more {n k : Nat} {s : PAt} {vl vn vr v' : Value} {g : Grp} {ys : List Value} {w w1 : World} {tmp : Obj} (h : PMem n s vl vn vr w) (hown : w1.ownsRow (n + 5) 45 2 v' k ys) (hk : k = s.l.length + 1) (hys : ys = gcells s.l ++ [strV g.1, .int .i64 g.2])
    (hg : (w.alloc tmp).grownBy w1 vl.ownBlock) :
    Boxed w1 n 22 vl ∧ PMem n { s with l := s.l ++ [g] } v' vn vr (w1.setCell ⟨n, 0, none⟩ v') ∧ Below n w (w1.setCell ⟨n, 0, none⟩ v') ∧ (w1.setCell ⟨n, 0, none⟩ v').heap[n + 4]? = w.heap[n + 4]? := by
  subst hk hys
  have hl := h.lim
  have rlA := h.rl.alloc tmp
  have hge := row_ge h.rl
  have box : ∀ {b : Nat} {T : TypeId} {u : Value}, b < n + 5 → Boxed w b T u → Boxed w1 b T u := fun hb hbx => (hbx.alloc tmp).kept hg (fun e => by have := (hge _ e.symm).1; omega)
  have rn1 := (h.rn.alloc tmp).kept hg (row_types (h.rn.alloc tmp) rlA (by decide))
  have rr1 := (h.rr.alloc tmp).kept hg (row_types (h.rr.alloc tmp) rlA (by decide))
  have bl1 := box (by omega) h.bl
  have hs1 := hg.size
  rw [World.size_alloc] at hs1
  refine ⟨bl1, ⟨bl1.set v', ?_, (box (by omega) h.bn).other (by omega) _, row_box rn1 (by omega), (box (by omega) h.br).other (by omega) _, row_box rr1 (by omega), (box (by omega) h.bb).other (by omega) _, h.dis, by simp; omega⟩, ?_, ?_⟩
  · rw [List.length_append, gcells_snoc]
    exact row_box hown (by omega)
  · exact Below.setCell (Below.grown (Below.alloc (Below.refl _ _) (by omega) tmp) hg (by simp; omega) (fun j hj => by have := (hge j hj).1; omega)) (by simp) _
  · rw [Below.heap_setCell _ _ _ _ (by simp), hg.block (n + 4) (by simp; omega) (fun e => by have := (hge _ e.symm).1; omega), Below.heap_alloc _ _ _ (by omega)]
theorem PMem.clear {n : Nat} {s : PAt} {vl vn vr : Value} {w : World} (h : PMem n s vl vn vr w) :
    PMem n ⟨s.l, [], [], false⟩ vl (.slice none 0 0) (.slice none 0 0) (((w.setCell ⟨n + 1, 0, none⟩ (.slice none 0 0)).setCell ⟨n + 2, 0, none⟩ (.slice none 0 0)).setCell ⟨n + 3, 0, none⟩ (.bool false)) ∧
      Below n w (((w.setCell ⟨n + 1, 0, none⟩ (.slice none 0 0)).setCell ⟨n + 2, 0, none⟩ (.slice none 0 0)).setCell ⟨n + 3, 0, none⟩ (.bool false)) ∧
      (((w.setCell ⟨n + 1, 0, none⟩ (.slice none 0 0)).setCell ⟨n + 2, 0, none⟩ (.slice none 0 0)).setCell ⟨n + 3, 0, none⟩ (.bool false)).heap[n + 4]? = w.heap[n + 4]? := by
  have hl := h.lim
  refine ⟨⟨((h.bl.other (by omega) _).other (by omega) _).other (by omega) _, row_box (row_box (row_box h.rl (by omega)) (by omega)) (by omega), ((h.bn.set _).other (by omega) _).other (by omega) _, World.ownsRow_nil _ _ _ _, ((h.br.other (by omega) _).set _).other (by omega) _, World.ownsRow_nil _ _ _ _, ((h.bb.other (by omega) _).other (by omega) _).set _, .inl rfl, by simpa using hl⟩, ?_, ?_⟩
  · exact Below.setCell (Below.setCell (Below.setCell (Below.refl _ _) (by simp) _) (by simp) _) (by simp) _
  · rw [Below.heap_setCell _ _ _ _ (by simp), Below.heap_setCell _ _ _ _ (by simp), Below.heap_setCell _ _ _ _ (by simp)]
/-- The groups that Parse has made read as groups. -/
theorem gs_of_row {w : World} {base : Nat} {v : Value} {l : List Grp} (h : w.ownsRow base 45 2 v l.length (gcells l)) (hin : ∀ g ∈ l, g.1.length ≤ maxLen ∧ In64 g.2) : Gs w v l := by
  refine ⟨?_, hin⟩
  rcases h.2 with ⟨rfl, hn⟩ | ⟨g, cap, cur, rfl, hb, hg, hnc, hcm, _⟩
  · obtain rfl := List.eq_nil_of_length_eq_zero hn
    exact (Gs.nil_ w).1
  · refine ⟨some ⟨g, 0, none⟩, cap, rfl, hnc, hcm, by simp, fun _ => ⟨g, 0, rfl, (Array.getElem?_eq_some_iff.1 hg).1, fun i x hx => ?_⟩⟩
    have hi := (List.getElem?_eq_some_iff.1 hx).1
    obtain ⟨c1, c2⟩ := gcells_get l i x hx
    rw [Nat.zero_add, World.ownsRow.cellAt h (i * 2) (by omega), World.ownsRow.cellAt h (i * 2 + 1) (by omega)]
    exact ⟨c1, c2⟩
end Go.Proofs.Ytjamopclfpmgjaa
