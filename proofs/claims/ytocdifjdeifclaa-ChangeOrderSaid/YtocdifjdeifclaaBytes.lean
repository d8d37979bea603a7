/-
  Slices that the call itself made: owned rows of one-cell values, bytes above all; what append does to them, whatever its source.
-/
import Derived.Test.YtocdifjdeifclaaMem
import Derived.Test.YtocdifjdeifclaaRows
import Derived.Maps.AppendAt
import Derived.Deep.AppendLies
namespace Go.Proofs.Ytocdifjdeifclaa
open Go.RowKit Mono

/-- The call's own row of one-cell values, in a block from base on. -/
def Ow (e : TypeId) (w : World) (base : Nat) (v : Value) (xs : List Value) : Prop := w.ownsRow base e 1 v xs.length xs
/-- The call's own bytes. -/
def OwB (w : World) (base : Nat) (v : Value) (l : List UInt8) : Prop := Ow 5 w base v (l.map bv)

theorem Ow.form {e : TypeId} {w : World} {base : Nat} {v : Value} {xs : List Value} (h : Ow e w base v xs) :
    (v = .slice none 0 0 ∧ xs = []) ∨ ∃ g cap, v = .slice (some ⟨g, 0, none⟩) xs.length cap ∧ base ≤ g ∧ g < w.heap.size ∧ xs.length ≤ cap ∧ cap ≤ maxLen ∧
      (∀ i x, xs[i]? = some x → w.cell? ⟨g, i, none⟩ = some x) ∧ ∀ i, w.frozen? ⟨g, i, none⟩ = false := by
  have h' := h
  rcases h'.2 with ⟨hv, hn⟩ | ⟨g, cap, cur, rfl, hb, hg, hnc, hcm, hcs, htake⟩
  · exact .inl ⟨hv, List.eq_nil_of_length_eq_zero hn⟩
  · refine .inr ⟨g, cap, rfl, hb, (Array.getElem?_eq_some_iff.1 hg).1, hnc, hcm, fun i x hx => ?_, fun i => World.ownsRow.frozenAt h i⟩
    rw [World.ownsRow.cellAt h i (by have := (List.getElem?_eq_some_iff.1 hx).1; omega)]
    exact hx
theorem Ow.sl {e : TypeId} {w : World} {base : Nat} {v : Value} {xs : List Value} (h : Ow e w base v xs) : Sl w v xs := by
  rcases h.form with ⟨rfl, rfl⟩ | ⟨g, cap, rfl, hb, hg, h1, h2, hc, _⟩
  · exact Sl.nil_ w
  · exact ⟨_, cap, rfl, h1, h2, by simp, fun _ => ⟨g, 0, rfl, hg, fun i x hx => by rw [Nat.zero_add]; exact hc i x hx⟩⟩
theorem Ow.ext {e : TypeId} {w w' : World} {base : Nat} {v : Value} {xs : List Value} (h : Ow e w base v xs) (he : Ext w w') : Ow e w' base v xs :=
  World.ownsRow.kept (row := none) h ⟨he.os, he.tape, he.output, he.size, fun k hk _ => he.block k hk⟩ (by cases v.ownBlock <;> simp)
theorem Ow.mono {e : TypeId} {w : World} {base base' : Nat} {v : Value} {xs : List Value} (h : Ow e w base v xs) (hb : base' ≤ base) : Ow e w base' v xs := by
  refine ⟨h.1, ?_⟩
  rcases h.2 with h | ⟨g, cap, cur, hv, hg, r⟩
  · exact .inl h
  · exact .inr ⟨g, cap, cur, hv, Nat.le_trans hb hg, r⟩
theorem Ow.lt {e : TypeId} {w : World} {base : Nat} {v : Value} {xs : List Value} (h : Ow e w base v xs) : ∀ k, v.ownBlock = some k → base ≤ k ∧ k < w.heap.size := World.ownsRow.lt h
theorem Ow.nil_ (e : TypeId) (w : World) (base : Nat) : Ow e w base (.slice none 0 0) [] := World.ownsRow_nil w base e 1
theorem Ow.lit (e : TypeId) (w : World) {base : Nat} {C : Array Value} {n : Nat} (hb : base ≤ w.heap.size) (hn : C.size = n) (hm : n ≤ maxLen) :
    Ow e (w.alloc (.cells C e)) base (.slice (some ⟨w.heap.size, 0, none⟩) n n) C.toList := by
  have h := World.ownsRow_lit (size := 1) (e := e) w C n hb hm (by omega)
  unfold Ow
  rw [Array.length_toList, hn]
  exact h

theorem OwB.bs {w : World} {base : Nat} {v : Value} {l : List UInt8} (h : OwB w base v l) : Bs w v l := Ow.sl h
theorem OwB.ext {w w' : World} {base : Nat} {v : Value} {l : List UInt8} (h : OwB w base v l) (he : Ext w w') : OwB w' base v l := Ow.ext h he
theorem OwB.nil_ (w : World) (base : Nat) : OwB w base (.slice none 0 0) [] := Ow.nil_ _ w base
theorem OwB.empty_ (w : World) {base : Nat} (hb : base ≤ w.heap.size) : OwB (w.alloc (.cells #[] 5)) base (.slice (some ⟨w.heap.size, 0, none⟩) 0 0) [] :=
  Ow.lit _ w hb rfl (by decide)

section
variable {P : Program} (w : World)

theorem add_at (b off j : Nat) : (⟨b, off, none⟩ : Addr).add j = ⟨b, off + j, none⟩ := by by_cases h : j = 0 <;> simp [Addr.add, h]

theorem run_append_sl (base : Nat) (t ty e : TypeId) (i : TypeInfo) (z : Value) (bytes : Nat) (ht : P.underlying t = some (.slice e)) (hi : P.info? e = some i) (hz : i.zero = some z)
    (hsize : i.size = 1) (hby : i.bytes = bytes) (hzs : z.cells.size = 1) {v s : Value} {xs news : List Value} (hown : Ow e w base v xs) (hs : Sl w s news) (h1 : ∀ u ∈ news, u.oneCell' = true)
    (h63 : xs.length + news.length ≤ maxLen) (hbytes : (xs.length + news.length) * bytes ≤ 140737488355328) (hbase : base ≤ w.heap.size) :
    ∃ v' w', (Builtin.append_ #[t, t] ty #[v, s]).run P w = .ok v' w' ∧ Ow e w' base v' (xs ++ news) ∧ w.grownBy w' v.ownBlock ∧ (v'.ownBlock = v.ownBlock ∨ v'.ownBlock = some w.heap.size) := by
  obtain ⟨A, c, rfl, _, _, hA, hc⟩ := hs
  have hlen : (xs ++ news).length = xs.length + news.length := List.length_append
  unfold Ow
  rw [hlen]
  cases A with
  | none =>
    have hm : news = [] := by
      have := hA rfl
      exact List.eq_nil_of_length_eq_zero (by omega)
    subst hm
    refine ⟨v, w, ?_, by rw [List.append_nil]; exact hown, World.grownBy.refl w _, .inl rfl⟩
    rcases hown.2 with ⟨rfl, _⟩ | ⟨g, cap, cur, rfl, _, _, hnc, _⟩
    · simp [Builtin.append_, run_underlying ht, sizeOf, typeInfo, hi, Builtin.lenOf, Builtin.firstCells]
    · simp [Builtin.append_, run_underlying ht, sizeOf, typeInfo, hi, Builtin.lenOf, Builtin.firstCells, hnc, storeCells]
  | some ad =>
    have hcells : ∀ j u, news[j]? = some u → w.cell? (ad.add j) = some u := by
      intro j u hu
      obtain ⟨b, off, hA, _, hcc⟩ := hc (by have := (List.getElem?_eq_some_iff.1 hu).1; omega)
      injection hA with hA
      subst hA
      rw [add_at]
      exact hcc j u hu
    obtain ⟨v', w', hrun, h2, h3, _, h5⟩ := run_append_own_at (P := P) w base t ty e i z 1 bytes ht hi hz hsize hby hzs (by omega) v _ xs hown ad news.length c news (by omega) hcells h1 h63 hbytes hbase
    exact ⟨v', w', hrun, h2, h3, h5⟩

theorem wpList_append_sl {ops : Array Oper} {rest : List Oper} {o : Oper} {a : Act} {Q : Exit → Act → World → Prop} (hgd : o.guard = none) (s x : Operand) (t : TypeId)
    (ho : o.op = .call { callee := .builtin .append, args := #[s, x], argTypes := #[t, t] })
    (base : Nat) (e : TypeId) (i : TypeInfo) (z : Value) (bytes : Nat) (ht : P.underlying t = some (.slice e)) (hi : P.info? e = some i) (hz : i.zero = some z)
    (hsize : i.size = 1) (hby : i.bytes = bytes) (hzs : z.cells.size = 1) {v sv : Value} {xs news : List Value} (hown : Ow e w base v xs) (hs : Sl w sv news) (hv : a.eval s = v) (hx : a.eval x = sv) (h1 : ∀ u ∈ news, u.oneCell' = true)
    (h63 : xs.length + news.length ≤ maxLen) (hbytes : (xs.length + news.length) * bytes ≤ 140737488355328) (hbase : base ≤ w.heap.size)
    (h : ∀ v' w', Ow e w' base v' (xs ++ news) → w.grownBy w' v.ownBlock → (v'.ownBlock = v.ownBlock ∨ v'.ownBlock = some w.heap.size) → wpList P ops Q rest (a.put o.dst v') w') : wpList P ops Q (o :: rest) a w := by
  refine wpList_plain hgd fun _ hK => ?_
  obtain ⟨v', w', hrun, h2, h3, h4⟩ := run_append_sl (P := P) w base t o.type e i z bytes ht hi hz hsize hby hzs hown hs h1 h63 hbytes hbase
  unfold Oper.wp execOp
  simp only [ho, resolve, invoke, builtin, Sem.run_bind, Sem.run_pure, Result.andThen_ok, List.map_toArray, List.map_cons, List.map_nil, hv, hx, hrun]
  exact hK _ _ (h v' w' h2 h3 h4)
end

theorem infoU8 : (Try.prog.info? 5).map (fun i => (i.zero, i.size, i.bytes)) = some (some (.int .u8 0), 1, 1) := by kernel_rfl

theorem bv_one {l : List UInt8} : ∀ u ∈ l.map bv, u.oneCell' = true := by
  intro u hu
  obtain ⟨x, _, rfl⟩ := List.mem_map.1 hu
  rfl

/-- append on the call's own bytes, whatever bytes are the source. -/
theorem wpList_append_bs (w : World) {ops : Array Oper} {rest : List Oper} {o : Oper} {a : Act} {Q : Exit → Act → World → Prop} (hgd : o.guard = none) (s x : Operand)
    (ho : o.op = .call { callee := .builtin .append, args := #[s, x], argTypes := #[56, 56] })
    {base : Nat} {v sv : Value} {l m : List UInt8} (hown : OwB w base v l) (hs : Bs w sv m) (hv : a.eval s = v) (hx : a.eval x = sv)
    (hbytes : l.length + m.length ≤ 140737488355328) (hbase : base ≤ w.heap.size)
    (h : ∀ v' w', OwB w' base v' (l ++ m) → w.grownBy w' v.ownBlock → (v'.ownBlock = v.ownBlock ∨ v'.ownBlock = some w.heap.size) → wpList Try.prog ops Q rest (a.put o.dst v') w') : wpList Try.prog ops Q (o :: rest) a w := by
  obtain ⟨i0, hi, hz0, hz1, hz2⟩ := info_parts infoU8
  refine wpList_append_sl w hgd s x _ ho base _ i0 _ 1 Try.underlying56 hi hz0 hz1 hz2 rfl hown hs hv hx bv_one (by simp [maxLen]; omega) (by simp; omega) hbase fun v' w' h1 h2 h3 => h v' w' ?_ h2 h3
  unfold OwB
  rw [List.map_append]
  exact h1
/-- What stands below B is untouched by an append on the call's own row. -/
theorem Below.growOw {B base : Nat} {a w w' : World} {e : TypeId} {v : Value} {xs : List Value} (h : Below B a w) (ho : Ow e w base v xs) (hg : w.grownBy w' v.ownBlock) (hB : B ≤ base) (hs : B ≤ w.heap.size) : Below B a w' :=
  h.grown hg hs fun k hk => Nat.le_trans hB (ho.lt k hk).1
theorem Below.growB {B base : Nat} {a w w' : World} {v : Value} {l : List UInt8} (h : Below B a w) (ho : OwB w base v l) (hg : w.grownBy w' v.ownBlock) (hB : B ≤ base) (hs : B ≤ w.heap.size) : Below B a w' :=
  Below.growOw h ho hg hB hs
/-- A store into the call's own bytes. -/
theorem OwB.set_ {w : World} {base g n cap : Nat} {l : List UInt8} (h : OwB w base (.slice (some ⟨g, 0, none⟩) n cap) l) (i : Nat) (b : UInt8) :
    OwB (w.setCell ⟨g, i, none⟩ (.int .u8 (b.toNat : Int))) base (.slice (some ⟨g, 0, none⟩) n cap) (l.set i b) := by
  have hn : n = l.length := by
    have h2 := h.2
    rcases h2 with ⟨h3, _⟩ | ⟨g', cap', cur, h3, _⟩
    · cases h3
    · injection h3 with _ h3 _
      simpa using h3
  subst hn
  have h1 : w.ownsRow base 5 1 (.slice (some ⟨g, 0, none⟩) l.length cap) l.length (l.map bv) := by
    have := h
    unfold OwB Ow at this
    rwa [List.length_map] at this
  have h2 := (World.ownsRow.stored h1 i (.int .u8 (b.toNat : Int))).1
  unfold OwB Ow
  rw [List.map_set, List.length_set, List.length_map]
  exact h2
theorem OwB.cell {w : World} {base g n cap : Nat} {l : List UInt8} (h : OwB w base (.slice (some ⟨g, 0, none⟩) n cap) l) (i : Nat) (hi : i < l.length) :
    w.cell? ⟨g, i, none⟩ = some (.int .u8 ((l.getD i 0).toNat : Int)) ∧ w.frozen? ⟨g, i, none⟩ = false := by
  rcases Ow.form h with ⟨h1, _⟩ | ⟨g', cap', h1, _, _, _, _, h2, h3⟩
  · cases h1
  · injection h1 with h1 _ _
    injection h1 with h1
    injection h1 with h1 _ _
    subst h1
    exact ⟨h2 i _ (by rw [List.getElem?_map, List.getElem?_eq_getElem hi, List.getD_eq_getElem?_getD, List.getElem?_eq_getElem hi]; rfl), h3 i⟩
theorem OwB.len {w : World} {base g n cap : Nat} {l : List UInt8} (h : OwB w base (.slice (some ⟨g, 0, none⟩) n cap) l) : n = l.length := by
  rcases Ow.form h with ⟨h1, _⟩ | ⟨g', cap', h1, _⟩
  · cases h1
  · injection h1 with _ h1 _
    simpa using h1
/-- The call's own bytes, at least one: where they lie. -/
theorem OwB.form_ {w : World} {base n : Nat} {v : Value} {l : List UInt8} (h : OwB w base v l) (hn : l.length = n) (h0 : 0 < n) :
    ∃ g cap, v = .slice (some ⟨g, 0, none⟩) n cap ∧ base ≤ g ∧ g < w.heap.size ∧ n ≤ cap ∧ cap ≤ 9223372036854775807 := by
  rcases Ow.form h with ⟨_, h1⟩ | ⟨g, cap, h1, h2, h3, h4, h5, _⟩
  · exfalso
    have := congrArg List.length h1
    rw [List.length_map, List.length_nil] at this
    omega
  · rw [List.length_map] at h1 h4
    subst hn
    unfold maxLen at h5
    exact ⟨g, cap, h1, h2, h3, h4, by omega⟩
end Go.Proofs.Ytocdifjdeifclaa
