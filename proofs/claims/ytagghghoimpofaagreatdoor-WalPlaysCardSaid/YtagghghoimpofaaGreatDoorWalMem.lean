/-
 Layer 16: the program's log in memory.
-/
import Derived.Test.YtagghghoimpofaaGreatDoorWalPlain
import Derived.Test.YtagghghoimpofaaGreatDoorDkAppend
import Derived.Test.YtagghghoimpofaaGreatDoorFrameRowsWalk
namespace Go.Proofs.YtagghghoimpofaaGreatDoor
open Go Go.RowKit Mono
set_option linter.unusedVariables false
set_option linter.unusedSimpArgs false
set_option maxRecDepth 100000

def WSeg.cells (s : WSeg) : List Value := [.int .i64 (s.frm : Int), .int .i64 (s.count : Int), .int .i64 (s.bytes : Int)]
def scells (ms : List WSeg) : List Value := ms.flatMap WSeg.cells
theorem scells_cons (a : WSeg) (r : List WSeg) : scells (a :: r) = .int .i64 (a.frm : Int) :: .int .i64 (a.count : Int) :: .int .i64 (a.bytes : Int) :: scells r := by unfold scells; simp [WSeg.cells]
theorem scells_len (ms : List WSeg) : (scells ms).length = ms.length * 3 := by
 induction ms with
 | nil => rfl
 | cons a r ih => rw [scells_cons]; simp [ih]; omega
theorem scells_append (a b : List WSeg) : scells (a ++ b) = scells a ++ scells b := by unfold scells; simp
theorem scells_one (s : WSeg) : scells [s] = s.cells := by unfold scells; simp
theorem scells_get : ∀ {ms : List WSeg} {i : Nat} {m : WSeg}, ms[i]? = some m → (scells ms)[i * 3]? = some (.int .i64 (m.frm : Int)) ∧ (scells ms)[i * 3 + 1]? = some (.int .i64 (m.count : Int)) ∧ (scells ms)[i * 3 + 2]? = some (.int .i64 (m.bytes : Int))
 | [], i, m, h => by simp at h
 | a :: r, 0, m, h => by
  obtain rfl : a = m := by simpa using h
  rw [scells_cons]
  simp
 | a :: r, i + 1, m, h => by
  have ih := scells_get (ms := r) (i := i) (m := m) (by simpa using h)
  rw [scells_cons, show (i + 1) * 3 = i * 3 + 1 + 1 + 1 by omega]
  exact ⟨by simpa using ih.1, by simpa using ih.2.1, by simpa using ih.2.2⟩
theorem scells_count {ms : List WSeg} {i : Nat} {m : WSeg} (h : ms[i]? = some m) (n : Nat) : (scells ms).set (i * 3 + 1) (.int .i64 (n : Int)) = scells (ms.set i { m with count := n }) := by
 induction ms generalizing i with
 | nil => simp at h
 | cons a r ih =>
  cases i with
  | zero =>
   obtain rfl : a = m := by simpa using h
   simp [scells_cons]
  | succ i =>
   have ih := ih (i := i) (by simpa using h)
   rw [List.set_cons_succ, scells_cons, scells_cons, ← ih, show (i + 1) * 3 + 1 = i * 3 + 1 + 1 + 1 + 1 by omega]
   simp only [List.set_cons_succ]
theorem scells_bytes {ms : List WSeg} {i : Nat} {m : WSeg} (h : ms[i]? = some m) (n : Nat) : (scells ms).set (i * 3 + 2) (.int .i64 (n : Int)) = scells (ms.set i { m with bytes := n }) := by
 induction ms generalizing i with
 | nil => simp at h
 | cons a r ih =>
  cases i with
  | zero =>
   obtain rfl : a = m := by simpa using h
   simp [scells_cons]
  | succ i =>
   have ih := ih (i := i) (by simpa using h)
   rw [List.set_cons_succ, scells_cons, scells_cons, ← ih, show (i + 1) * 3 + 2 = i * 3 + 2 + 1 + 1 + 1 by omega]
   simp only [List.set_cons_succ]
def lstr (v : Value) (bd : Nat) (l : Lg) : List Value := [v, .pointer (some ⟨bd, 0, none⟩), .int .i64 (l.size : Int), .int .i64 (l.sure : Int), .int .i64 (l.fails : Int)]
/-- The log l of the disk bd in memory, at or behind z: its block, its segments' row. -/
structure LgM (z : Nat) (W : World) (bl bd : Nat) (v : Value) (l : Lg) : Prop where
 str : BlkT W bl 75 (lstr v bd l)
 row : W.ownsRow z 79 3 v l.segs.length (scells l.segs)
 zl : z ≤ bl
def lall (bl : Nat) (v : Value) (k : Nat) : Prop := k = bl ∨ v.ownBlock = some k
theorem row_kept {W W' : World} {z n size : Nat} {e : TypeId} {v : Value} {xs : List Value} {fp : Nat → Prop} (h : W.ownsRow z e size v n xs) (k : Kb fp W W') (hn : ∀ j, v.ownBlock = some j → ¬ fp j) : W'.ownsRow z e size v n xs := by
 refine ⟨h.1, ?_⟩
 rcases h.2 with h1 | ⟨g, cap, cur, rfl, hb, hg, rest⟩
 ·exact .inl h1
 ·exact .inr ⟨g, cap, cur, rfl, hb, (k.block g (Array.getElem?_eq_some_iff.1 hg).1 (hn g rfl)).trans hg, rest⟩
theorem row_down {W : World} {z z' n size : Nat} {e : TypeId} {v : Value} {xs : List Value} (h : W.ownsRow z e size v n xs) (hz : z' ≤ z) : W.ownsRow z' e size v n xs := by
 refine ⟨h.1, ?_⟩
 rcases h.2 with h1 | ⟨g, cap, cur, rfl, hb, rest⟩
 ·exact .inl h1
 ·exact .inr ⟨g, cap, cur, rfl, Nat.le_trans hz hb, rest⟩
/-- The type of a row's block. -/
theorem row_type {W : World} {z n size : Nat} {e : TypeId} {v : Value} {xs : List Value} (h : W.ownsRow z e size v n xs) {j : Nat} (hj : v.ownBlock = some j) : ∃ cur, W.heap[j]? = some (.cells cur e (0, 0)) := by
 rcases h.2 with ⟨h1, _⟩ | ⟨g, cap, cur, h1, _, hb, _⟩
 ·rw [h1] at hj
  cases hj
 ·rw [h1] at hj
  obtain rfl : g = j := by simpa [Value.ownBlock] using hj
  exact ⟨cur, hb⟩
theorem LgM.kb {z bl bd : Nat} {W W' : World} {v : Value} {l : Lg} {fp : Nat → Prop} (h : LgM z W bl bd v l) (k : Kb fp W W') (hn : ∀ j, lall bl v j → ¬ fp j) : LgM z W' bl bd v l :=
 ⟨h.str.kb k (hn bl (.inl rfl)), row_kept h.row k (fun j hj => hn j (.inr hj)), h.zl⟩
theorem LgM.ext {z bl bd : Nat} {W W' : World} {v : Value} {l : Lg} (h : LgM z W bl bd v l) (he : Ext W W') : LgM z W' bl bd v l := h.kb (Kb.of_ext (fp := fun _ => False) he) (fun _ _ h => h)
theorem LgM.lt {z bl bd : Nat} {W : World} {v : Value} {l : Lg} (h : LgM z W bl bd v l) : ∀ k, lall bl v k → k < W.heap.size := by
 rintro k (rfl | hj)
 ·exact h.str.lt
 ·exact (World.ownsRow.lt h.row k hj).2
theorem LgM.low {z bl bd : Nat} {W : World} {v : Value} {l : Lg} (h : LgM z W bl bd v l) : ∀ k, lall bl v k → z ≤ k := by
 rintro k (rfl | hj)
 ·exact h.zl
 ·exact (World.ownsRow.lt h.row k hj).1
theorem LgM.form {z bl bd : Nat} {W : World} {v : Value} {l : Lg} (h : LgM z W bl bd v l) (hne : l.segs ≠ []) : ∃ g c, v = .slice (some ⟨g, 0, none⟩) l.segs.length c ∧ l.segs.length ≤ c ∧ c ≤ maxLen := by
 rcases h.row.2 with ⟨h1, h2⟩ | ⟨g, cap, cur, h1, _, _, h3, h4, _⟩
 ·exact absurd (List.length_eq_zero_iff.1 h2) hne
 ·exact ⟨g, cap, h1, h3, h4⟩
theorem LgM.cells {z bl bd g n c : Nat} {W : World} {l : Lg} (h : LgM z W bl bd (.slice (some ⟨g, 0, none⟩) n c) l) {i : Nat} {m : WSeg} (hm : l.segs[i]? = some m) :
  W.cell? ⟨g, i * 3, none⟩ = some (.int .i64 (m.frm : Int)) ∧ W.cell? ⟨g, i * 3 + 1, none⟩ = some (.int .i64 (m.count : Int)) ∧ W.cell? ⟨g, i * 3 + 2, none⟩ = some (.int .i64 (m.bytes : Int)) := by
 rcases h.row.2 with ⟨h1, h2⟩ | ⟨g', cap, cur, h1, _, hg, h3, h4, h5, h6⟩
 ·cases h1
 ·injection h1 with e1 e2 e3
  injection e1 with e1
  injection e1 with e1 _ _
  subst e1
  have hil : i < l.segs.length := (List.getElem?_eq_some_iff.1 hm).1
  obtain ⟨c1, c2, c3⟩ := scells_get hm
  have at_ : ∀ j u, (scells l.segs)[j]? = some u → W.cell? ⟨g, j, none⟩ = some u := by
   intro j u hu
   rw [← h6] at hu
   have hj : j < l.segs.length * 3 := by
    have := (List.getElem?_eq_some_iff.1 hu).1
    simp at this
    omega
   rw [List.getElem?_take_of_lt hj] at hu
   simp only [World.cell?, hg, Option.isSome_none, Bool.false_eq_true, if_false]
   rw [← Array.getElem?_toList, hu]
  exact ⟨at_ _ _ c1, at_ _ _ c2, at_ _ _ c3⟩
theorem LgM.ne {z bl bd g n c : Nat} {W : World} {l : Lg} (h : LgM z W bl bd (.slice (some ⟨g, 0, none⟩) n c) l) : g ≠ bl := by
 obtain ⟨cur, hb⟩ := row_type h.row (j := g) rfl
 rintro rfl
 have := h.str
 unfold BlkT at this
 rw [this] at hb
 injection hb with hb
 injection hb with _ hb
 revert hb
 decide
/-- The disk's blocks are no log's. -/
theorem LgM.disk {u : Int} {z z' bl bd bd' bm pl : Nat} {W : World} {v : Value} {l : Lg} {d : Dk} {ms : List FilM} (h : LgM z W bl bd v l) (hd : DkU u z' W bd' bm pl d ms) : ∀ k, lall bl v k → ¬ dall bd' bm pl d ms k := by
 have key : ∀ k T, (∃ cur fz, W.heap[k]? = some (.cells cur T fz)) → (T = 75 ∨ T = 79) → ¬ dall bd' bm pl d ms k := by
  rintro k T ⟨cur, fz, hk⟩ hT
  have no : ∀ T' L, BlkT W k T' L → T ≠ T' → False := fun T' L hb hne => by
   unfold BlkT at hb
   rw [hb] at hk
   injection hk with hk
   injection hk with _ hk
   exact hne hk.symm
  rintro ((rfl | rfl | ⟨hp, rfl⟩ | ⟨m, hm, rfl⟩) | ⟨m, hm, hj⟩)
  ·exact no _ _ hd.str (by rcases hT with rfl | rfl <;> decide)
  ·obtain ⟨n, D, ⟨es, clock, hb', _⟩, _⟩ := hd.map
   rw [hb'] at hk
   cases hk
  ·obtain ⟨⟨n, kk⟩, hp⟩ := Option.isSome_iff_exists.1 hp
   exact no _ _ (hd.plan n kk hp).1 (by rcases hT with rfl | rfl <;> decide)
  ·exact no _ _ (hd.files m hm).1 (by rcases hT with rfl | rfl <;> decide)
  ·obtain ⟨_, C, fz', h2⟩ := (hd.bytes m hm).typed k hj
   rw [h2] at hk
   injection hk with hk
   injection hk with _ hk
   rw [← hk] at hT
   revert hT
   decide
 rintro k (rfl | hj)
 ·exact key _ _ ⟨_, _, h.str⟩ (.inl rfl)
 ·obtain ⟨cur, hb⟩ := row_type h.row hj
  exact key _ _ ⟨_, _, hb⟩ (.inr rfl)
/-- A field of the log is written. -/
theorem LgM.put {z bl bd : Nat} {W : World} {v : Value} {l l' : Lg} (h : LgM z W bl bd v l) (i : Nat) (u : Value) (hc : (lstr v bd l).set i u = lstr v bd l') (hs : l'.segs = l.segs) : LgM z (W.setCell ⟨bl, i, none⟩ u) bl bd v l' := by
 have hset := h.str.set i u
 rw [hc] at hset
 refine ⟨hset, ?_, h.zl⟩
 rw [hs]
 refine row_kept h.row (Kb.set (fun k => k = bl) W bl i u rfl) fun j hj e => ?_
 obtain ⟨cur, hb⟩ := row_type h.row hj
 subst e
 have := h.str
 unfold BlkT at this
 rw [this] at hb
 injection hb with hb
 injection hb with _ hb
 revert hb
 decide
/-- Another row of segments. -/
theorem LgM.swap {z bl bd : Nat} {W : World} {v v' : Value} {l l' : Lg} (h : BlkT W bl 75 (lstr v bd l)) (hz : z ≤ bl) (hr : W.ownsRow z 79 3 v' l'.segs.length (scells l'.segs)) (hc : l'.size = l.size ∧ l'.sure = l.sure ∧ l'.fails = l.fails) : LgM z (W.setCell ⟨bl, 0, none⟩ v') bl bd v' l' := by
 have hset := h.set 0 v'
 have e : (lstr v bd l).set 0 v' = lstr v' bd l' := by unfold lstr; rw [hc.1, hc.2.1, hc.2.2]; rfl
 rw [e] at hset
 refine ⟨hset, ?_, hz⟩
 refine row_kept hr (Kb.set (fun k => k = bl) W bl 0 v' rfl) fun j hj e => ?_
 obtain ⟨cur, hb⟩ := row_type hr hj
 subst e
 unfold BlkT at h
 rw [h] at hb
 injection hb with hb
 injection hb with _ hb
 revert hb
 decide
/-- A cell of a segment is written. -/
theorem LgM.sput {z bl bd g n c : Nat} {W : World} {l l' : Lg} (h : LgM z W bl bd (.slice (some ⟨g, 0, none⟩) n c) l) (j : Nat) (u : Value) (hc : (scells l.segs).set j u = scells l'.segs) (hl : l'.segs.length = l.segs.length) (hf : l'.size = l.size ∧ l'.sure = l.sure ∧ l'.fails = l.fails) :
  LgM z (W.setCell ⟨g, j, none⟩ u) bl bd (.slice (some ⟨g, 0, none⟩) n c) l' := by
 have hn : n = l.segs.length := by
  rcases h.row.2 with ⟨h1, _⟩ | ⟨_, _, _, h1, _⟩
  ·cases h1
  ·injection h1
 subst hn
 have hst := (h.row.stored j u).1
 rw [hc] at hst
 refine ⟨?_, by rw [hl]; exact hst, h.zl⟩
 have : lstr (.slice (some ⟨g, 0, none⟩) l.segs.length c) bd l' = lstr (.slice (some ⟨g, 0, none⟩) l.segs.length c) bd l := by unfold lstr; rw [hf.1, hf.2.1, hf.2.2]
 rw [this]
 exact h.str.kb (Kb.set (fun k => k = g) W g j u rfl) (fun e => h.ne e.symm)

/-! ### The disk and its log -/
/-- Both, and the blocks that they have. -/
def DL (z bd bl : Nat) (fp : Nat → Prop) (d : Dk) (l : Lg) (W : World) : Prop :=
 ∃ bm pl ms v, DkM z W bd bm pl d ms ∧ LgM z W bl bd v l ∧ ∀ k, fp k ↔ (dall bd bm pl d ms k ∨ lall bl v k)
/-- A call turned both, and nothing else. -/
def DLS (z bd bl : Nat) (fp : Nat → Prop) (d' : Dk) (l' : Lg) (W W' : World) : Prop :=
 ∃ fp', DL z bd bl fp' d' l' W' ∧ Kb fp W W' ∧ ∀ k, fp' k → fp k ∨ W.heap.size ≤ k
theorem DL.ext {z bd bl : Nat} {fp : Nat → Prop} {d : Dk} {l : Lg} {W W' : World} (h : DL z bd bl fp d l W) (he : Ext W W') : DL z bd bl fp d l W' := by
 obtain ⟨bm, pl, ms, v, h1, h2, h3⟩ := h
 exact ⟨bm, pl, ms, v, h1.ext he, h2.ext he, h3⟩
theorem DL.lt {z bd bl : Nat} {fp : Nat → Prop} {d : Dk} {l : Lg} {W : World} (h : DL z bd bl fp d l W) : ∀ k, fp k → k < W.heap.size := by
 obtain ⟨bm, pl, ms, v, h1, h2, h3⟩ := h
 intro k hk
 rcases (h3 k).1 hk with h4 | h4
 ·exact h1.lt k h4
 ·exact h2.lt k h4
theorem DLS.ext {z bd bl : Nat} {fp : Nat → Prop} {d : Dk} {l : Lg} {W W' : World} (h : DL z bd bl fp d l W) (he : Ext W W') : DLS z bd bl fp d l W W' := ⟨fp, h.ext he, Kb.of_ext he, fun _ h => .inl h⟩
theorem DLS.trans {z bd bl : Nat} {fp fp1 : Nat → Prop} {d1 d2 : Dk} {l1 l2 : Lg} {W W1 W2 : World} (h : DL z bd bl fp1 d1 l1 W1) (hk : Kb fp W W1) (hf : ∀ k, fp1 k → fp k ∨ W.heap.size ≤ k) (k : DLS z bd bl fp1 d2 l2 W1 W2) : DLS z bd bl fp d2 l2 W W2 := by
 obtain ⟨fp2, h2, k2, f2⟩ := k
 refine ⟨fp2, h2, hk.trans k2 hf, fun b hb => ?_⟩
 rcases f2 b hb with h1 | h1
 ·exact hf b h1
 ·exact .inr (Nat.le_trans hk.size h1)
/-- A step of the disk alone. -/
theorem DLS.disk {z bd bl bm pl pl' : Nat} {d d' : Dk} {l : Lg} {W W' : World} {ms ms' : List FilM} {v : Value} {fp : Nat → Prop} (h1 : DkM z W bd bm pl d ms) (h2 : LgM z W bl bd v l) (h3 : ∀ k, fp k ↔ (dall bd bm pl d ms k ∨ lall bl v k)) (hs : DkS z W W' bd bm pl d ms pl' d' ms') :
  DkM z W' bd bm pl' d' ms' ∧ LgM z W' bl bd v l ∧ DLS z bd bl fp d' l W W' := by
 have hl := h2.kb hs.kb (h2.disk h1)
 refine ⟨hs.dk, hl, fun k => dall bd bm pl' d' ms' k ∨ lall bl v k, ⟨bm, pl', ms', v, hs.dk, hl, fun k => Iff.rfl⟩, hs.kb.mono fun b hb => (h3 b).2 (.inl hb), fun k hk => ?_⟩
 rcases hk with hk | hk
 ·rcases hs.fp k hk with h4 | h4
  ·exact .inl ((h3 k).2 (.inl h4))
  ·exact .inr h4
 ·exact .inl ((h3 k).2 (.inr hk))
end Go.Proofs.YtagghghoimpofaaGreatDoor
