/-
  Layer 15: the document's disk in memory.
-/
import Derived.Test.YtkejoiknnigllaaDkOk
namespace Go.Proofs.Ytkejoiknnigllaa
open Go Go.RowKit Mono
set_option linter.unusedVariables false
set_option linter.unusedSimpArgs false
set_option maxRecDepth 100000

/-- A file of the document's disk, in memory. -/
structure RFil where
  name : List UInt8
  v : Value
  b : List UInt8
  sure : Nat
def RFil.fil (m : RFil) : Fil := ⟨m.name, m.b, m.sure⟩
def RFil.cells (m : RFil) : List Value := [strV m.name, m.v, .int .i64 (m.sure : Int)]
def rcells (ms : List RFil) : List Value := ms.flatMap RFil.cells
theorem rcells_len (ms : List RFil) : (rcells ms).length = ms.length * 3 := by
  unfold rcells
  induction ms with
  | nil => rfl
  | cons a r ih => simp [RFil.cells, ih]; omega
theorem rcells_append (a b : List RFil) : rcells (a ++ b) = rcells a ++ rcells b := by unfold rcells; simp
theorem rcells_get : ∀ {ms : List RFil} {i : Nat} {m : RFil}, ms[i]? = some m → (rcells ms)[i * 3]? = some (strV m.name) ∧ (rcells ms)[i * 3 + 1]? = some m.v ∧ (rcells ms)[i * 3 + 2]? = some (.int .i64 (m.sure : Int))
  | [], i, m, h => by simp at h
  | a :: r, 0, m, h => by
    obtain rfl : a = m := by simpa using h
    unfold rcells
    simp [RFil.cells]
  | a :: r, i + 1, m, h => by
    have ih := rcells_get (ms := r) (i := i) (m := m) (by simpa using h)
    have e : rcells (a :: r) = a.cells ++ rcells r := by unfold rcells; simp
    have hl : a.cells.length = 3 := rfl
    rw [e]
    refine ⟨?_, ?_, ?_⟩
    · rw [List.getElem?_append_right (by rw [hl]; omega), hl, show (i + 1) * 3 - 3 = i * 3 by omega]
      exact ih.1
    · rw [List.getElem?_append_right (by rw [hl]; omega), hl, show (i + 1) * 3 + 1 - 3 = i * 3 + 1 by omega]
      exact ih.2.1
    · rw [List.getElem?_append_right (by rw [hl]; omega), hl, show (i + 1) * 3 + 2 - 3 = i * 3 + 2 by omega]
      exact ih.2.2
theorem rcells_set {ms : List RFil} {i : Nat} {m m' : RFil} (h : ms[i]? = some m) : (((rcells ms).set (i * 3) (strV m'.name)).set (i * 3 + 1) m'.v).set (i * 3 + 2) (.int .i64 (m'.sure : Int)) = rcells (ms.set i m') := by
  induction ms generalizing i with
  | nil => simp at h
  | cons a r ih =>
    have e : ∀ (a : RFil) (r : List RFil), rcells (a :: r) = strV a.name :: a.v :: .int .i64 (a.sure : Int) :: rcells r := fun a r => by unfold rcells; simp [RFil.cells]
    cases i with
    | zero => simp [e]
    | succ i =>
      have ih := ih (i := i) (by simpa using h)
      rw [e, List.set_cons_succ, e, ← ih]
      rw [show (i + 1) * 3 = i * 3 + 1 + 1 + 1 by omega]
      simp only [List.set_cons_succ]
/-- What the document's disk holds beside its files: the slice, its files, the plan's cells. -/
structure RSt where
  v : Value
  ms : List RFil
  n : Int
  k : Int
def rstr (r : Dk) (s : RSt) : List Value := [.int .i64 (r.room : Int), s.v, .bool (!r.on), .int .i64 (r.fails : Int), .int .i64 (r.ops : Int), .bool r.plan.isSome, .int .i64 s.n, .int .i64 s.k]
/-- The disk r in memory, at or behind z. -/
structure RkM (z : Nat) (W : World) (br : Nat) (s : RSt) (r : Dk) : Prop where
  fs : s.ms.map RFil.fil = r.fs
  str : BlkT W br 36 (rstr r s)
  plan : ∀ n k, r.plan = some (n, k) → s.n = (n : Int) ∧ s.k = k
  row : W.ownsRow z 79 3 s.v s.ms.length (rcells s.ms)
  bytes : ∀ m ∈ s.ms, BsT z W m.v m.b
  zd : z ≤ br
def rall (br : Nat) (s : RSt) (k : Nat) : Prop := k = br ∨ s.v.ownBlock = some k ∨ ∃ m ∈ s.ms, m.v.ownBlock = some k
theorem row_kb {W W' : World} {z n size : Nat} {e : TypeId} {v : Value} {xs : List Value} {fp : Nat → Prop} (h : W.ownsRow z e size v n xs) (k : Kb fp W W') (hn : ∀ j, v.ownBlock = some j → ¬ fp j) : W'.ownsRow z e size v n xs := by
  refine ⟨h.1, ?_⟩
  rcases h.2 with h1 | ⟨g, cap, cur, rfl, hb, hg, rest⟩
  · exact .inl h1
  · exact .inr ⟨g, cap, cur, rfl, hb, (k.block g (Array.getElem?_eq_some_iff.1 hg).1 (hn g rfl)).trans hg, rest⟩
theorem RkM.kb {z br : Nat} {W W' : World} {s : RSt} {r : Dk} {fp : Nat → Prop} (h : RkM z W br s r) (k : Kb fp W W') (hn : ∀ j, rall br s j → ¬ fp j) : RkM z W' br s r :=
  ⟨h.fs, h.str.kb k (hn br (.inl rfl)), h.plan, row_kb h.row k (fun j hj => hn j (.inr (.inl hj))), fun m hm => (h.bytes m hm).kb k (fun j hj => hn j (.inr (.inr ⟨m, hm, hj⟩))), h.zd⟩
theorem RkM.ext {z br : Nat} {W W' : World} {s : RSt} {r : Dk} (h : RkM z W br s r) (he : Ext W W') : RkM z W' br s r := h.kb (Kb.of_ext (fp := fun _ => False) he) (fun _ _ h => h)
theorem RkM.lt {z br : Nat} {W : World} {s : RSt} {r : Dk} (h : RkM z W br s r) : ∀ k, rall br s k → k < W.heap.size := by
  rintro k (rfl | hj | ⟨m, hm, hj⟩)
  · exact h.str.lt
  · exact (World.ownsRow.lt h.row k hj).2
  · obtain ⟨_, C, fz, h2⟩ := (h.bytes m hm).typed k hj
    exact (Array.getElem?_eq_some_iff.1 h2).1
theorem RkM.low {z br : Nat} {W : World} {s : RSt} {r : Dk} (h : RkM z W br s r) : ∀ k, rall br s k → z ≤ k := by
  rintro k (rfl | hj | ⟨m, hm, hj⟩)
  · exact h.zd
  · exact (World.ownsRow.lt h.row k hj).1
  · exact ((h.bytes m hm).typed k hj).1
/-- The slice's shape. -/
theorem RkM.form {z br : Nat} {W : World} {s : RSt} {r : Dk} (h : RkM z W br s r) : ∃ A c, s.v = .slice A s.ms.length c ∧ s.ms.length ≤ c ∧ c ≤ maxLen ∧ (0 < s.ms.length → ∃ g, A = some ⟨g, 0, none⟩) := by
  rcases h.row.2 with ⟨h1, h2⟩ | ⟨g, cap, cur, h1, _, _, h3, h4, _⟩
  · exact ⟨none, 0, by rw [h1, h2], by omega, Nat.zero_le _, fun h => by omega⟩
  · exact ⟨_, cap, h1, h3, h4, fun _ => ⟨g, rfl⟩⟩
theorem RkM.cells {z br : Nat} {W : World} {s : RSt} {r : Dk} (h : RkM z W br s r) {g n c : Nat} (hv : s.v = .slice (some ⟨g, 0, none⟩) n c) {i : Nat} {m : RFil} (hm : s.ms[i]? = some m) :
    W.cell? ⟨g, i * 3, none⟩ = some (strV m.name) ∧ W.cell? ⟨g, i * 3 + 1, none⟩ = some m.v ∧ W.cell? ⟨g, i * 3 + 2, none⟩ = some (.int .i64 (m.sure : Int)) := by
  rcases h.row.2 with ⟨h1, h2⟩ | ⟨g', cap, cur, h1, _, hg, h3, h4, h5, h6⟩
  · rw [hv] at h1
    cases h1
  · rw [hv] at h1
    injection h1 with e1 e2 e3
    injection e1 with e1
    injection e1 with e1 _ _
    subst e1
    have hil : i < s.ms.length := (List.getElem?_eq_some_iff.1 hm).1
    obtain ⟨c1, c2, c3⟩ := rcells_get hm
    have at_ : ∀ j u, (rcells s.ms)[j]? = some u → W.cell? ⟨g, j, none⟩ = some u := by
      intro j u hu
      rw [← h6] at hu
      have hj : j < s.ms.length * 3 := by
        have := (List.getElem?_eq_some_iff.1 hu).1
        simp at this
        omega
      rw [List.getElem?_take_of_lt hj] at hu
      simp only [World.cell?, hg, Option.isSome_none, Bool.false_eq_true, if_false]
      rw [← Array.getElem?_toList, hu]
    exact ⟨at_ _ _ c1, at_ _ _ c2, at_ _ _ c3⟩
theorem RkM.ne {z br : Nat} {W : World} {s : RSt} {r : Dk} (h : RkM z W br s r) {g : Nat} (hg : s.v.ownBlock = some g) : g ≠ br := by
  rcases h.row.2 with ⟨h1, h2⟩ | ⟨g', cap, cur, h1, _, hb, _⟩
  · rw [h1] at hg
    cases hg
  · rw [h1] at hg
    obtain rfl : g' = g := by simpa [Value.ownBlock] using hg
    rintro rfl
    have := h.str
    unfold BlkT at this
    rw [this] at hb
    injection hb with hb
    injection hb with _ hb
    revert hb
    decide
theorem RkM.bne {z br : Nat} {W : World} {s : RSt} {r : Dk} (h : RkM z W br s r) {g : Nat} (hg : s.v.ownBlock = some g) {v : Value} {b : List UInt8} (hv : BsT z W v b) : ∀ j, v.ownBlock = some j → j ≠ g := by
  rintro j hj rfl
  obtain ⟨_, C, fz, h2⟩ := hv.typed j hj
  rcases h.row.2 with ⟨h1, _⟩ | ⟨g', cap, cur, h1, _, hb, _⟩
  · rw [h1] at hg
    cases hg
  · rw [h1] at hg
    obtain rfl : g' = j := by simpa [Value.ownBlock] using hg
    rw [hb] at h2
    injection h2 with h2
    injection h2 with _ h2
    revert h2
    decide
/-- A field of the disk is written. -/
theorem RkM.put {z br : Nat} {W : World} {s s' : RSt} {r r' : Dk} (h : RkM z W br s r) (i : Nat) (v : Value) (hc : (rstr r s).set i v = rstr r' s') (hms : s'.ms = s.ms) (hv : s'.v = s.v) (hfs : r'.fs = r.fs) (hp : ∀ n k, r'.plan = some (n, k) → s'.n = (n : Int) ∧ s'.k = k) :
    RkM z (W.setCell ⟨br, i, none⟩ v) br s' r' := by
  have hset := h.str.set i v
  rw [hc] at hset
  have hkb := Kb.set (fun k => k = br) W br i v rfl
  refine ⟨by rw [hms, hfs]; exact h.fs, hset, hp, ?_, ?_, h.zd⟩
  · rw [hms, hv]
    exact row_kb h.row hkb (fun j hj e => h.ne hj e)
  · rw [hms]
    exact fun m hm => (h.bytes m hm).kb hkb (fun j hj e => (h.bytes m hm).ne h.str (by decide) j hj e)
/-- A cell of a file is written. -/
theorem RkM.fput {z br : Nat} {W : World} {s : RSt} {r r' : Dk} (h : RkM z W br s r) {g n c : Nat} (hv : s.v = .slice (some ⟨g, 0, none⟩) n c) {i : Nat} {m m' : RFil} (hm : s.ms[i]? = some m) (j : Nat) (u : Value)
    (hc : (rcells s.ms).set (i * 3 + j) u = rcells (s.ms.set i m')) (hbs : BsT z W m'.v m'.b) (hr : rstr r' s = rstr r s) (hp : r'.plan = r.plan) (hfs : (s.ms.set i m').map RFil.fil = r'.fs) :
    RkM z (W.setCell ⟨g, i * 3 + j, none⟩ u) br { s with ms := s.ms.set i m' } r' := by
  have hg : s.v.ownBlock = some g := by rw [hv]; rfl
  have hkb := Kb.set (fun k => k = g) W g (i * 3 + j) u rfl
  obtain ⟨A, c', hf, _⟩ := h.form
  have hn : n = s.ms.length := by rw [hf] at hv; injection hv with _ hv _; exact hv.symm
  subst hn
  have hrow := h.row
  rw [hv] at hrow
  have hst := (hrow.stored (i * 3 + j) u).1
  rw [hc] at hst
  have hl : (s.ms.set i m').length = s.ms.length := by simp
  refine ⟨hfs, ?_, by rw [hp]; exact h.plan, ?_, fun x hx => ?_, h.zd⟩
  · have : rstr r' { s with ms := s.ms.set i m' } = rstr r s := hr
    rw [this]
    exact h.str.kb hkb (fun e => h.ne hg e.symm)
  · show World.ownsRow _ _ _ _ s.v (s.ms.set i m').length (rcells (s.ms.set i m'))
    rw [hv, hl]
    exact hst
  · rcases List.mem_or_eq_of_mem_set hx with hx | rfl
    · exact (h.bytes x hx).kb hkb (fun j hj e => h.bne hg (h.bytes x hx) j hj e)
    · exact hbs.kb hkb (fun j hj e => h.bne hg hbs j hj e)
/-- A call has turned the disk r into r', and nothing else. -/
structure RkS (z : Nat) (W W' : World) (br : Nat) (s : RSt) (r : Dk) (s' : RSt) (r' : Dk) : Prop where
  rk : RkM z W' br s' r'
  kb : Kb (rall br s) W W'
  fp : ∀ k, rall br s' k → rall br s k ∨ W.heap.size ≤ k
theorem RkS.ext {z br : Nat} {W W' : World} {s : RSt} {r : Dk} (h : RkM z W br s r) (he : Ext W W') : RkS z W W' br s r s r := ⟨h.ext he, Kb.of_ext he, fun _ h => .inl h⟩
theorem RkS.refl {z br : Nat} {W : World} {s : RSt} {r : Dk} (h : RkM z W br s r) : RkS z W W br s r s r := RkS.ext h (Ext.refl _)
theorem RkS.trans {z br : Nat} {W W1 W2 : World} {s s1 s2 : RSt} {r r1 r2 : Dk} (h : RkS z W W1 br s r s1 r1) (k : RkS z W1 W2 br s1 r1 s2 r2) : RkS z W W2 br s r s2 r2 := by
  refine ⟨k.rk, h.kb.trans k.kb h.fp, fun b hb => ?_⟩
  rcases k.fp b hb with h1 | h1
  · exact h.fp b h1
  · exact .inr (Nat.le_trans h.kb.size h1)
def RkPost (z : Nat) (W : World) (br : Nat) (s : RSt) (r : Dk) (x : Dk × Nat) (e : Ending) (w' : World) : Prop := ∃ s', e = .returned (.int .i64 (x.2 : Int)) ∧ RkS z W w' br s r s' x.1
theorem RkPost.same {z br : Nat} {W W' : World} {s : RSt} {r : Dk} (h : RkM z W br s r) (he : Ext W W') (n : Nat) : RkPost z W br s r (r, n) (.returned (.int .i64 (n : Int))) W' := ⟨s, rfl, RkS.ext h he⟩
/-- A file's place. -/
def findI (name : List UInt8) (fs : List Fil) : Option Nat := fs.findIdx? fun f => f.name == name
def findZ (name : List UInt8) (fs : List Fil) : Int := match findI name fs with
  | some i => (i : Int)
  | none => -1
theorem findI_spec (name : List UInt8) : ∀ fs : List Fil, (∀ i, findI name fs = some i → ∃ f, fs[i]? = some f ∧ findF name fs = some f) ∧ (findI name fs = none → findF name fs = none)
  | [] => ⟨fun i h => by simp [findI] at h, fun _ => rfl⟩
  | f :: r => by
    have ih := findI_spec name r
    unfold findI findF at *
    rw [List.findIdx?_cons, List.find?_cons]
    by_cases hf : (f.name == name) = true
    · rw [if_pos hf, hf]
      exact ⟨fun i h => by injection h with h; subst h; exact ⟨f, rfl, rfl⟩, fun h => by cases h⟩
    · have hf' : (f.name == name) = false := by simpa using hf
      rw [if_neg hf, hf']
      refine ⟨fun i h => ?_, fun h => ?_⟩
      · cases hx : r.findIdx? (fun f => f.name == name) with
        | none => rw [hx] at h; cases h
        | some j =>
          rw [hx] at h
          injection h with h
          subst h
          obtain ⟨f', h1, h2⟩ := ih.1 j hx
          exact ⟨f', by simpa using h1, h2⟩
      · cases hx : r.findIdx? (fun f => f.name == name) with
        | none => exact ih.2 hx
        | some j => rw [hx] at h; cases h
end Go.Proofs.Ytkejoiknnigllaa
