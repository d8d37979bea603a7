/-
  Flat slices: a slice whose elements have several cells each; appending such. Slices of changes.
-/
import Derived.Test.YtocdifjdeifclaaChPlain
import Derived.Test.YtocdifjdeifclaaBytes
import Derived.Test.YtocdifjdeifclaaBlk
namespace Go.Proofs.Ytocdifjdeifclaa
open Go Go.RowKit Mono Num
set_option linter.unusedVariables false
set_option maxRecDepth 100000

/-- A slice of n elements, all its cells in a row. -/
def Fl (w : World) (v : Value) (n : Nat) (xs : List Value) : Prop :=
  ∃ A c, v = .slice A n c ∧ n ≤ c ∧ c ≤ maxLen ∧ (A = none → c = 0) ∧
    (0 < n → ∃ b off, A = some ⟨b, off, none⟩ ∧ b < w.heap.size ∧ ∀ j u, xs[j]? = some u → w.cell? ⟨b, off + j, none⟩ = some u)
theorem Fl.ext {w w' : World} {v : Value} {n : Nat} {xs : List Value} (h : Fl w v n xs) (he : Ext w w') : Fl w' v n xs := by
  obtain ⟨A, c, hv, h1, h2, h3, h4⟩ := h
  refine ⟨A, c, hv, h1, h2, h3, fun h0 => ?_⟩
  obtain ⟨b, off, hA, hb, hc⟩ := h4 h0
  exact ⟨b, off, hA, Nat.lt_of_lt_of_le hb he.size, fun j u hu => (he.cell (p := ⟨b, off + j, none⟩) hb).trans (hc j u hu)⟩
theorem Fl.nil_ (w : World) : Fl w (.slice none 0 0) 0 [] := ⟨none, 0, rfl, Nat.le_refl _, Nat.zero_le _, fun _ => rfl, fun h => absurd h (by simp)⟩
theorem fl_of_row {w : World} {base sz n : Nat} {e : TypeId} {v : Value} {xs : List Value} (h : w.ownsRow base e sz v n xs) : Fl w v n xs := by
  rcases h.2 with ⟨rfl, hn⟩ | ⟨g, cap, cur, rfl, hb, hg, hnc, hcm, _⟩
  · subst hn
    exact ⟨none, 0, rfl, Nat.le_refl _, Nat.zero_le _, fun _ => rfl, fun h => absurd h (by simp)⟩
  · refine ⟨some ⟨g, 0, none⟩, cap, rfl, hnc, hcm, by simp, fun _ => ⟨g, 0, rfl, (Array.getElem?_eq_some_iff.1 hg).1, fun j u hu => ?_⟩⟩
    have hl := h.1
    have hj := (List.getElem?_eq_some_iff.1 hu).1
    rw [Nat.zero_add, World.ownsRow.cellAt h j (by omega)]
    exact hu
/-- A row's block changes under no growth of another one. -/
theorem row_apart {w w' : World} {base sz n : Nat} {e : TypeId} {v : Value} {xs : List Value} {row : Option Nat} (h : w.ownsRow base e sz v n xs) (hg : w.grownBy w' row) (hr : ∀ j C fz, row = some j → w.heap[j]? = some (Obj.cells C e fz) → False) : w'.ownsRow base e sz v n xs := by
  refine h.kept hg ?_
  rcases h.2 with ⟨rfl, _⟩ | ⟨g, cap, cur, rfl, _, hgb, _⟩
  · exact .inl rfl
  · exact .inr fun e' => hr g _ _ (by simpa [Value.ownBlock] using e'.symm) hgb

theorem run_append_fl {w : World} (base : Nat) (t ty e : TypeId) (i : TypeInfo) (z : Value) (size bytes : Nat) (ht : Try.prog.underlying t = some (.slice e)) (hi : Try.prog.info? e = some i) (hz : i.zero = some z)
    (hsize : i.size = size) (hby : i.bytes = bytes) (hzs : z.cells.size = size) (hs0 : 0 < size) {v s : Value} {k m : Nat} {xs news : List Value} (hown : w.ownsRow base e size v k xs) (hs : Fl w s m news) (hm : news.length = m * size) (h1 : ∀ u ∈ news, u.oneCell' = true)
    (h63 : k + m ≤ maxLen) (hbytes : (k + m) * bytes ≤ 140737488355328) (hbase : base ≤ w.heap.size) :
    ∃ v' w', (Builtin.append_ #[t, t] ty #[v, s]).run Try.prog w = .ok v' w' ∧ w'.ownsRow base e size v' (k + m) (xs ++ news) ∧ w.grownBy w' v.ownBlock ∧ (v'.ownBlock = v.ownBlock ∨ v'.ownBlock = some w.heap.size) := by
  obtain ⟨A, c, rfl, hmc, _, hA, hc⟩ := hs
  cases A with
  | none =>
    have hm0 : m = 0 := by
      have := hA rfl
      omega
    subst hm0
    have hn : news = [] := List.eq_nil_of_length_eq_zero (by omega)
    subst hn
    refine ⟨v, w, ?_, by rw [List.append_nil]; exact hown, World.grownBy.refl w _, .inl rfl⟩
    rcases hown.2 with ⟨rfl, _⟩ | ⟨g, cap, cur, rfl, _, _, hnc, _⟩
    · simp [Builtin.append_, run_underlying ht, sizeOf, typeInfo, hi, Builtin.lenOf, Builtin.firstCells]
    · simp [Builtin.append_, run_underlying ht, sizeOf, typeInfo, hi, Builtin.lenOf, Builtin.firstCells, hnc, storeCells]
  | some ad =>
    have hcells : ∀ j u, news[j]? = some u → w.cell? (ad.add j) = some u := by
      intro j u hu
      obtain ⟨b, off, hA, _, hcc⟩ := hc (by
        have := (List.getElem?_eq_some_iff.1 hu).1
        rcases Nat.eq_zero_or_pos m with h | h
        · subst h; omega
        · exact h)
      injection hA with hA
      subst hA
      rw [add_at]
      exact hcc j u hu
    obtain ⟨v', w', hrun, h2, h3, _, h5⟩ := run_append_own_at (P := Try.prog) w base t ty e i z size bytes ht hi hz hsize hby hzs hs0 v k xs hown ad m c news hm hcells h1 h63 hbytes hbase
    exact ⟨v', w', hrun, h2, h3, h5⟩

theorem wpList_append_fl {w : World} {ops : Array Oper} {rest : List Oper} {o : Oper} {a : Act} {Q : Exit → Act → World → Prop} (hgd : o.guard = none) (s x : Operand) (t : TypeId)
    (ho : o.op = .call { callee := .builtin .append, args := #[s, x], argTypes := #[t, t] })
    (base : Nat) (e : TypeId) (i : TypeInfo) (z : Value) (size bytes : Nat) (ht : Try.prog.underlying t = some (.slice e)) (hi : Try.prog.info? e = some i) (hz : i.zero = some z)
    (hsize : i.size = size) (hby : i.bytes = bytes) (hzs : z.cells.size = size) (hs0 : 0 < size) {v sv : Value} {k m : Nat} {xs news : List Value} (hown : w.ownsRow base e size v k xs) (hs : Fl w sv m news) (hm : news.length = m * size) (hv : a.eval s = v) (hx : a.eval x = sv) (h1 : ∀ u ∈ news, u.oneCell' = true)
    (h63 : k + m ≤ maxLen) (hbytes : (k + m) * bytes ≤ 140737488355328) (hbase : base ≤ w.heap.size)
    (h : ∀ v' w', w'.ownsRow base e size v' (k + m) (xs ++ news) → w.grownBy w' v.ownBlock → (v'.ownBlock = v.ownBlock ∨ v'.ownBlock = some w.heap.size) → wpList Try.prog ops Q rest (a.put o.dst v') w') : wpList Try.prog ops Q (o :: rest) a w := by
  refine wpList_plain hgd fun _ hK => ?_
  obtain ⟨v', w', hrun, h2, h3, h4⟩ := run_append_fl base t o.type e i z size bytes ht hi hz hsize hby hzs hs0 hown hs hm h1 h63 hbytes hbase
  unfold Oper.wp execOp
  simp only [ho, resolve, invoke, builtin, Sem.run_bind, Sem.run_pure, Result.andThen_ok, List.map_toArray, List.map_cons, List.map_nil, hv, hx, hrun]
  exact hK _ _ (h v' w' h2 h3 h4)

theorem empty_row {w : World} {base sz : Nat} {e : TypeId} (hb : base ≤ w.heap.size) : (w.alloc (.cells #[] e)).ownsRow base e sz (.slice (some ⟨w.heap.size, 0, none⟩) 0 0) 0 [] := by
  have h := World.ownsRow_lit (size := sz) (e := e) w #[] 0 hb (by decide) (by simp)
  exact h

/-- The cells of writes. -/
def wrsC (l : List Wr) : List Value := l.flatMap fun x => [strV x.key, .int .i64 x.group, .bool x.gone, strV x.value]
theorem wrsC_len (l : List Wr) : (wrsC l).length = l.length * 4 := by
  induction l with
  | nil => rfl
  | cons a l ih => unfold wrsC at ih ⊢; rw [List.flatMap_cons, List.length_append, ih]; simp; omega
theorem wrsC_get : ∀ (l : List Wr) (i : Nat) (x : Wr), l[i]? = some x → (wrsC l)[i * 4]? = some (strV x.key) ∧ (wrsC l)[i * 4 + 1]? = some (.int .i64 x.group) ∧ (wrsC l)[i * 4 + 2]? = some (.bool x.gone) ∧ (wrsC l)[i * 4 + 3]? = some (strV x.value)
  | y :: l, 0, x, h => by
    obtain rfl : y = x := by simpa using h
    simp [wrsC]
  | y :: l, i + 1, x, h => by
    have h1 := wrsC_get l i x (by simpa using h)
    have h2 : wrsC (y :: l) = [strV y.key, .int .i64 y.group, .bool y.gone, strV y.value] ++ wrsC l := by unfold wrsC; simp
    have e : ∀ j, (wrsC (y :: l))[(i + 1) * 4 + j]? = (wrsC l)[i * 4 + j]? := fun j => by
      rw [h2, List.getElem?_append_right (by simp; omega)]
      congr 1
      simp
      omega
    exact ⟨(e 0).trans h1.1, (e 1).trans h1.2.1, (e 2).trans h1.2.2.1, (e 3).trans h1.2.2.2⟩
theorem wrsC_one (l : List Wr) : ∀ u ∈ wrsC l, u.oneCell' = true := by
  intro u h
  unfold wrsC at h
  obtain ⟨x, _, h⟩ := List.mem_flatMap.1 h
  simp only [List.mem_cons, List.not_mem_nil, or_false] at h
  rcases h with rfl | rfl | rfl | rfl <;> rfl
theorem ws_of_rowC {w : World} {base : Nat} {v : Value} {l : List Wr} (h : w.ownsRow base 31 4 v l.length (wrsC l)) (hin : ∀ x ∈ l, x.fits) : Ws w v l := by
  refine ⟨?_, hin⟩
  rcases h.2 with ⟨rfl, hn⟩ | ⟨g, cap, cur, rfl, hb, hg, hnc, hcm, _⟩
  · obtain rfl := List.eq_nil_of_length_eq_zero hn
    exact (Ws.nil_ w).1
  · refine ⟨some ⟨g, 0, none⟩, cap, rfl, hnc, hcm, by simp, fun _ => ⟨g, 0, rfl, (Array.getElem?_eq_some_iff.1 hg).1, fun i x hx => ?_⟩⟩
    have hi := (List.getElem?_eq_some_iff.1 hx).1
    obtain ⟨c1, c2, c3, c4⟩ := wrsC_get l i x hx
    rw [Nat.zero_add, World.ownsRow.cellAt h (i * 4) (by omega), World.ownsRow.cellAt h (i * 4 + 1) (by omega), World.ownsRow.cellAt h (i * 4 + 2) (by omega), World.ownsRow.cellAt h (i * 4 + 3) (by omega)]
    exact ⟨c1, c2, c3, c4⟩
theorem four_at (j : Nat) {Q : Nat → Prop} (h : ∀ i, Q (i * 4) ∧ Q (i * 4 + 1) ∧ Q (i * 4 + 2) ∧ Q (i * 4 + 3)) : Q j := by
  have hd := Nat.div_add_mod j 4
  have hm := Nat.mod_lt j (show 0 < 4 by decide)
  obtain ⟨h0, h1, h2, h3⟩ := h (j / 4)
  generalize j / 4 = i at *
  generalize j % 4 = r at *
  match r, hm with
  | 0, _ => have : j = i * 4 := by omega
            rw [this]; exact h0
  | 1, _ => have : j = i * 4 + 1 := by omega
            rw [this]; exact h1
  | 2, _ => have : j = i * 4 + 2 := by omega
            rw [this]; exact h2
  | 3, _ => have : j = i * 4 + 3 := by omega
            rw [this]; exact h3
theorem fl_of_ws {w : World} {v : Value} {l : List Wr} (h : Ws w v l) : Fl w v l.length (wrsC l) := by
  obtain ⟨⟨A, c, hv, h1, h2, h3, h4⟩, _⟩ := h
  refine ⟨A, c, hv, h1, h2, h3, fun h0 => ?_⟩
  obtain ⟨b, off, hA, hb, hc⟩ := h4 h0
  refine ⟨b, off, hA, hb, fun j => four_at j (Q := fun j => ∀ u, (wrsC l)[j]? = some u → w.cell? ⟨b, off + j, none⟩ = some u) fun i => ?_⟩
  by_cases hi : i < l.length
  · have hx : l[i]? = some l[i] := List.getElem?_eq_getElem hi
    obtain ⟨c0, c1, c2, c3⟩ := hc i _ hx
    obtain ⟨d0, d1, d2, d3⟩ := wrsC_get l i _ hx
    refine ⟨fun u hu => ?_, fun u hu => ?_, fun u hu => ?_, fun u hu => ?_⟩
    · rw [d0] at hu; rw [c0]; exact hu
    · rw [d1] at hu; rw [← Nat.add_assoc, c1]; exact hu
    · rw [d2] at hu; rw [← Nat.add_assoc, c2]; exact hu
    · rw [d3] at hu; rw [← Nat.add_assoc, c3]; exact hu
  · have hn := wrsC_len l
    refine ⟨fun u hu => ?_, fun u hu => ?_, fun u hu => ?_, fun u hu => ?_⟩ <;>
    · have := (List.getElem?_eq_some_iff.1 hu).1
      omega

/-- The cells of changes, each with the value of its writes. -/
def chsC (l : List (Ch × Value)) : List Value := l.flatMap fun x => chC x.1 x.2
theorem chsC_len (l : List (Ch × Value)) : (chsC l).length = l.length * 7 := by
  induction l with
  | nil => rfl
  | cons a l ih => unfold chsC at ih ⊢; rw [List.flatMap_cons, List.length_append, ih]; simp [chC]; omega
theorem chsC_snoc (l : List (Ch × Value)) (x : Ch × Value) : chsC (l ++ [x]) = chsC l ++ chC x.1 x.2 := by unfold chsC; simp
theorem chsC_get : ∀ (l : List (Ch × Value)) (i : Nat) (x : Ch × Value), l[i]? = some x → ∀ j, j < 7 → (chsC l)[i * 7 + j]? = (chC x.1 x.2)[j]?
  | y :: l, 0, x, h, j, hj => by
    obtain rfl : y = x := by simpa using h
    unfold chsC
    rw [List.flatMap_cons, Nat.zero_mul, Nat.zero_add, List.getElem?_append_left (by simpa [chC] using hj)]
  | y :: l, i + 1, x, h, j, hj => by
    have h1 := chsC_get l i x (by simpa using h) j hj
    have h2 : chsC (y :: l) = chC y.1 y.2 ++ chsC l := by unfold chsC; simp
    rw [h2, List.getElem?_append_right (by simp [chC]; omega), ← h1]
    congr 1
    simp [chC]
    omega
def Ch.ints (c : Ch) : Prop := In64 c.site ∧ In64 c.seq ∧ In64 c.sn ∧ In64 c.ss ∧ In64 c.va ∧ In64 c.vb
/-- A slice of changes. -/
def Cs (w : World) (v : Value) (l : List (Ch × Value)) : Prop := Fl w v l.length (chsC l) ∧ ∀ x ∈ l, Ws w x.2 x.1.writes ∧ x.1.ints
theorem Cs.ext {w w' : World} {v : Value} {l : List (Ch × Value)} (h : Cs w v l) (he : Ext w w') : Cs w' v l := ⟨h.1.ext he, fun x hx => ⟨(h.2 x hx).1.ext he, (h.2 x hx).2⟩⟩
theorem Cs.at_ {w : World} {v : Value} {l : List (Ch × Value)} (h : Cs w v l) : ∃ A c, v = .slice A l.length c ∧ l.length ≤ c ∧ c ≤ 9223372036854775807 ∧ (A = none → c = 0) ∧
    (0 < l.length → ∃ b off, A = some ⟨b, off, none⟩ ∧ b < w.heap.size ∧ ∀ (i : Nat), i < l.length → ∃ site seq sn ss va vb ws vw, l[i]? = some (⟨site, seq, sn, ss, va, vb, ws⟩, vw) ∧ Ws w vw ws ∧ (Ch.mk site seq sn ss va vb ws).ints ∧
      w.cell? ⟨b, off + i * 7, none⟩ = some (.int .i64 site) ∧ w.cell? ⟨b, off + i * 7 + 1, none⟩ = some (.int .i64 seq) ∧ w.cell? ⟨b, off + i * 7 + 2, none⟩ = some (.int .i64 sn) ∧ w.cell? ⟨b, off + i * 7 + 3, none⟩ = some (.int .i64 ss) ∧
      w.cell? ⟨b, off + i * 7 + 4, none⟩ = some (.int .i64 va) ∧ w.cell? ⟨b, off + i * 7 + 5, none⟩ = some (.int .i64 vb) ∧ w.cell? ⟨b, off + i * 7 + 6, none⟩ = some vw) := by
  obtain ⟨⟨A, c, hv, h1, h2, h3, h4⟩, hin⟩ := h
  refine ⟨A, c, hv, h1, by unfold maxLen at h2; omega, h3, fun h0 => ?_⟩
  obtain ⟨b, off, hA, hb, hc⟩ := h4 h0
  refine ⟨b, off, hA, hb, fun i hi => ?_⟩
  obtain ⟨⟨⟨site, seq, sn, ss, va, vb, ws⟩, vw⟩, hx⟩ : ∃ x, l[i]? = some x := ⟨_, List.getElem?_eq_getElem hi⟩
  have hm := hin _ (List.mem_of_getElem? hx)
  have hg := chsC_get l i _ hx
  have at_ : ∀ j, j < 7 → ∀ u, (chC ⟨site, seq, sn, ss, va, vb, ws⟩ vw)[j]? = some u → w.cell? ⟨b, off + i * 7 + j, none⟩ = some u := fun j hj u hu => by
    have := hc (i * 7 + j) u ((hg j hj).trans hu)
    rwa [← Nat.add_assoc] at this
  exact ⟨site, seq, sn, ss, va, vb, ws, vw, hx, hm.1, hm.2, at_ 0 (by omega) _ rfl, at_ 1 (by omega) _ rfl, at_ 2 (by omega) _ rfl, at_ 3 (by omega) _ rfl, at_ 4 (by omega) _ rfl, at_ 5 (by omega) _ rfl, at_ 6 (by omega) _ rfl⟩
end Go.Proofs.Ytocdifjdeifclaa
