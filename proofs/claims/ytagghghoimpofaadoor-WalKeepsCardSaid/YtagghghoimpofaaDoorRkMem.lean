/-
  Layer 15: the document's disk in memory.
-/
import Derived.Test.YtagghghoimpofaaDoorDkAppend
namespace Go.Proofs.YtagghghoimpofaaDoor
open Go Go.RowKit Mono
set_option linter.unusedVariables false
set_option linter.unusedSimpArgs false
set_option maxRecDepth 100000

/-- A file of the document's disk, in memory. -/
structure RFil where
  name : List UInt8
  v : Value
  b : List UInt8
  sure : Nat
def RFil.fil (m : RFil) : Fil := ⟨m.name, m.b, m.sure⟩
def RFil.cells (m : RFil) : List Value := [strV m.name, m.v, .int .i64 (m.sure : Int)]
def rcells (ms : List RFil) : List Value := ms.flatMap RFil.cells
theorem rcells_len (ms : List RFil) : (rcells ms).length = ms.length * 3 := by
  unfold rcells
  induction ms with
  | nil => rfl
  | cons a r ih => simp [RFil.cells, ih]; omega
theorem rcells_append (a b : List RFil) : rcells (a ++ b) = rcells a ++ rcells b := by unfold rcells; simp
theorem rcells_get : ∀ {ms : List RFil} {i : Nat} {m : RFil}, ms[i]? = some m → (rcells ms)[i * 3]? = some (strV m.name) ∧ (rcells ms)[i * 3 + 1]? = some m.v ∧ (rcells ms)[i * 3 + 2]? = some (.int .i64 (m.sure : Int))
  | [], i, m, h => by simp at h
  | a :: r, 0, m, h => by
    obtain rfl : a = m := by simpa using h
    unfold rcells
    simp [RFil.cells]
  | a :: r, i + 1, m, h => by
    have ih := rcells_get (ms := r) (i := i) (m := m) (by simpa using h)
    have e : rcells (a :: r) = a.cells ++ rcells r := by unfold rcells; simp
    have hl : a.cells.length = 3 := rfl
    rw [e]
    refine ⟨?_, ?_, ?_⟩
    · rw [List.getElem?_append_right (by rw [hl]; omega), hl, show (i + 1) * 3 - 3 = i * 3 by omega]
      exact ih.1
    · rw [List.getElem?_append_right (by rw [hl]; omega), hl, show (i + 1) * 3 + 1 - 3 = i * 3 + 1 by omega]
      exact ih.2.1
    · rw [List.getElem?_append_right (by rw [hl]; omega), hl, show (i + 1) * 3 + 2 - 3 = i * 3 + 2 by omega]
      exact ih.2.2
theorem rcells_set {ms : List RFil} {i : Nat} {m m' : RFil} (h : ms[i]? = some m) : (((rcells ms).set (i * 3) (strV m'.name)).set (i * 3 + 1) m'.v).set (i * 3 + 2) (.int .i64 (m'.sure : Int)) = rcells (ms.set i m') := by
  induction ms generalizing i with
  | nil => simp at h
  | cons a r ih =>
    have e : ∀ (a : RFil) (r : List RFil), rcells (a :: r) = strV a.name :: a.v :: .int .i64 (a.sure : Int) :: rcells r := fun a r => by unfold rcells; simp [RFil.cells]
    cases i with
    | zero => simp [e]
    | succ i =>
      have ih := ih (i := i) (by simpa using h)
      rw [e, List.set_cons_succ, e, ← ih]
      rw [show (i + 1) * 3 = i * 3 + 1 + 1 + 1 by omega]
      simp only [List.set_cons_succ]
/-- What the document's disk holds beside its files: the slice, its files, the plan's cells. -/
structure RSt where
  v : Value
  ms : List RFil
  n : Int
  k : Int
def rstr (r : Dk) (s : RSt) : List Value := [.int .i64 (r.room : Int), s.v, .bool (!r.on), .int .i64 (r.fails : Int), .int .i64 (r.ops : Int), .bool r.plan.isSome, .int .i64 s.n, .int .i64 s.k]
def rall (br : Nat) (s : RSt) (k : Nat) : Prop := k = br ∨ s.v.ownBlock = some k ∨ ∃ m ∈ s.ms, m.v.ownBlock = some k
theorem row_kb {W W' : World} {z n size : Nat} {e : TypeId} {v : Value} {xs : List Value} {fp : Nat → Prop} (h : W.ownsRow z e size v n xs) (k : Kb fp W W') (hn : ∀ j, v.ownBlock = some j → ¬ fp j) : W'.ownsRow z e size v n xs := by
  refine ⟨h.1, ?_⟩
  rcases h.2 with h1 | ⟨g, cap, cur, rfl, hb, hg, rest⟩
  · exact .inl h1
  · exact .inr ⟨g, cap, cur, rfl, hb, (k.block g (Array.getElem?_eq_some_iff.1 hg).1 (hn g rfl)).trans hg, rest⟩
/-- A file's place. -/
def findI (name : List UInt8) (fs : List Fil) : Option Nat := fs.findIdx? fun f => f.name == name
def findZ (name : List UInt8) (fs : List Fil) : Int := match findI name fs with
  | some i => (i : Int)
  | none => -1
theorem findI_spec (name : List UInt8) : ∀ fs : List Fil, (∀ i, findI name fs = some i → ∃ f, fs[i]? = some f ∧ findF name fs = some f) ∧ (findI name fs = none → findF name fs = none)
  | [] => ⟨fun i h => by simp [findI] at h, fun _ => rfl⟩
  | f :: r => by
    have ih := findI_spec name r
    unfold findI findF at *
    rw [List.findIdx?_cons, List.find?_cons]
    by_cases hf : (f.name == name) = true
    · rw [if_pos hf, hf]
      exact ⟨fun i h => by injection h with h; subst h; exact ⟨f, rfl, rfl⟩, fun h => by cases h⟩
    · have hf' : (f.name == name) = false := by simpa using hf
      rw [if_neg hf, hf']
      refine ⟨fun i h => ?_, fun h => ?_⟩
      · cases hx : r.findIdx? (fun f => f.name == name) with
        | none => rw [hx] at h; cases h
        | some j =>
          rw [hx] at h
          injection h with h
          subst h
          obtain ⟨f', h1, h2⟩ := ih.1 j hx
          exact ⟨f', by simpa using h1, h2⟩
      · cases hx : r.findIdx? (fun f => f.name == name) with
        | none => exact ih.2 hx
        | some j => rw [hx] at h; cases h
end Go.Proofs.YtagghghoimpofaaDoor
