/-
  Layer 15: acts that came in: the arguments opened.
-/
import Derived.Test.YtkejoiknnigllaaDkDoLaw
import Derived.Test.YtkejoiknnigllaaOpen
import Derived.OpenShut
import Derived.Deep.Slices
import Derived.ChangeSame
namespace Go.Proofs.Ytkejoiknnigllaa
open Go.ChangeShapes Go.WideShapes Go.ChangeAt Go.RowKit Mono
set_option linter.unusedVariables false
set_option maxRecDepth 100000

def I64 (n : Int) : Prop := -9223372036854775808 ≤ n ∧ n ≤ 9223372036854775807
theorem by_trod {H : Type} {enc : TypeId × Value → H} {w : World} {base : Nat} {held : Bool} {fuel : Nat} {cs : List Value} {x : DataW H × List MemPlace}
    (h : DataW.trod enc Try.prog w base (fun _ => true) held fuel 23 cs = some x) : ∃ A n c l, cs = [.slice A n c] ∧ Bs w (.slice A n c) l := by
  rcases open_ints Try.underlying23 Try.underlying5 (by kernel_rfl) h with ⟨hcs, _⟩ | ⟨x, l, c, zs, hcs, _, hl, hm, hz, _, hcell, hwz⟩
  · exact ⟨none, 0, 0, [], hcs, Bs.nil_ w⟩
  · obtain ⟨l', hb⟩ := bs_of_cells hl hm (by simpa using hz) hcell hwz
    exact ⟨_, _, _, l', hcs, hb⟩
/-- What an act that came in is held to. -/
def ActIn (w : World) (a : Act) (v : Value) : Prop := Bs w v a.data ∧ a.name.length ≤ maxLen ∧ I64 a.kind ∧ I64 a.n ∧ I64 a.keep
theorem act_trod {H : Type} {enc : TypeId × Value → H} {w : World} {base : Nat} {held : Bool} {fuel : Nat} {cs : List Value} {x : DataW H × List MemPlace}
    (h : DataW.trod enc Try.prog w base (fun _ => true) held fuel 44 cs = some x) : ∃ (a : Act) (v : Value), cs = actC a v ∧ ActIn w a v := by
  obtain ⟨xs, m, _, _, hl, hlen, hi⟩ := DataW.trod_struct Try.underlying44 h
  have hc : Try.prog.cellsOf 44 = 5 := by kernel_rfl
  have h1c : Try.prog.cellsOf 9 = 1 := by kernel_rfl
  have h2c : Try.prog.cellsOf 3 = 1 := by kernel_rfl
  have h3c : Try.prog.cellsOf 23 = 1 := by kernel_rfl
  rw [hc] at hl
  match cs, hl with
  | [u0, u1, u2, u3, u4], _ =>
    have k0 : DataW.trod enc Try.prog w base (fun _ => true) held m 3 (([u0, u1, u2, u3, u4].drop 0).take (Try.prog.cellsOf 3)) = xs[0]? := hi 0 _ rfl
    have k1 : DataW.trod enc Try.prog w base (fun _ => true) held m 9 (([u0, u1, u2, u3, u4].drop 1).take (Try.prog.cellsOf 9)) = xs[1]? := hi 1 _ rfl
    have k2 : DataW.trod enc Try.prog w base (fun _ => true) held m 23 (([u0, u1, u2, u3, u4].drop 2).take (Try.prog.cellsOf 23)) = xs[2]? := hi 2 _ rfl
    have k3 : DataW.trod enc Try.prog w base (fun _ => true) held m 3 (([u0, u1, u2, u3, u4].drop 3).take (Try.prog.cellsOf 3)) = xs[3]? := hi 3 _ rfl
    have k4 : DataW.trod enc Try.prog w base (fun _ => true) held m 3 (([u0, u1, u2, u3, u4].drop 4).take (Try.prog.cellsOf 3)) = xs[4]? := hi 4 _ rfl
    simp only [h1c, h2c, h3c, List.drop_zero, List.take_succ_cons, List.take_zero, List.drop_succ_cons] at k0 k1 k2 k3 k4
    have hxs : xs.length = 5 := hlen
    rw [List.getElem?_eq_getElem (by omega)] at k0 k1 k2 k3 k4
    obtain ⟨a, ha, _, hwa⟩ := DataW.trod_int Try.underlying3 k0
    obtain ⟨b, hb, _, hwb⟩ := DataW.trod_string Try.underlying9 k1
    obtain ⟨A, n, c, l, hd, hbs⟩ := by_trod k2
    obtain ⟨y, hy, _, hwy⟩ := DataW.trod_int Try.underlying3 k3
    obtain ⟨z, hz, _, hwz⟩ := DataW.trod_int Try.underlying3 k4
    injection ha with ha _
    injection hb with hb _
    injection hd with hd _
    injection hy with hy _
    injection hz with hz _
    subst ha hb hd hy hz
    refine ⟨⟨a, b.data.toList, l, y, z⟩, _, by unfold actC strV; simp, hbs, ?_, int_of_wf hwa, int_of_wf hwy, int_of_wf hwz⟩
    dsimp only
    rw [Array.length_toList]
    exact hwb
theorem act_open {H : Type} {enc : TypeId × Value → H} {w : World} {base b0 : Nat} {held : Bool} {r : Reach} {v : Value} {d : DataW H} {ps : List MemPlace}
    (hv : Value.okWide Try.prog w r b0 44 v) (h : DataW.Trod enc Try.prog w base (fun _ => true) held 44 v d ps) : ∃ (a : Act) (x : Value), v = .agg (actC a x).toArray ∧ ActIn w a x := by
  simp only [Value.okWide, Try.underlying44] at hv
  obtain ⟨cs, rfl, _, _⟩ := hv
  obtain ⟨fuel, hf⟩ := h
  obtain ⟨a, x, hc, hrest⟩ := act_trod hf
  refine ⟨a, x, ?_, hrest⟩
  congr 1
  apply Array.ext'
  simpa [Value.cells] using hc
/-- A slice of acts that came in. -/
structure As (w : World) (v : Value) (l : List (Act × Value)) : Prop where
  at_ : ∃ A c, v = .slice A l.length c ∧ l.length ≤ c ∧ c ≤ maxLen ∧ (0 < l.length → ∃ b off, A = some ⟨b, off, none⟩ ∧ b < w.heap.size ∧ ∀ (i : Nat) (p : Act × Value), l[i]? = some p → ∀ (j : Nat) u, (actC p.1 p.2)[j]? = some u → w.cell? ⟨b, off + (i * 5 + j), none⟩ = some u)
  in_ : ∀ p ∈ l, ActIn w p.1 p.2
theorem ActIn.ext {w w' : World} {a : Act} {v : Value} (h : ActIn w a v) (he : Ext w w') : ActIn w' a v := ⟨h.1.ext he, h.2⟩
theorem As.ext {w w' : World} {v : Value} {l : List (Act × Value)} (h : As w v l) (he : Ext w w') : As w' v l := by
  obtain ⟨A, c, h1, h2, h3, h4⟩ := h.at_
  refine ⟨⟨A, c, h1, h2, h3, fun h0 => ?_⟩, fun p hp => (h.in_ p hp).ext he⟩
  obtain ⟨b, off, e1, e2, e3⟩ := h4 h0
  exact ⟨b, off, e1, Nat.lt_of_lt_of_le e2 he.size, fun i p hp j u hu => (he.cell (p := ⟨b, off + (i * 5 + j), none⟩) e2).trans (e3 i p hp j u hu)⟩
theorem as_trod {H : Type} {enc : TypeId × Value → H} {w : World} {base : Nat} {held : Bool} {fuel : Nat} {cs : List Value} {y : DataW H × List MemPlace}
    (h : DataW.trod enc Try.prog w base (fun _ => true) held fuel 22 cs = some y) : ∃ v l, cs = [v] ∧ As w v l := by
  rcases Deep.open_slice Try.underlying22 h with ⟨hcs, _⟩ | ⟨x, len, cap, m, n, D, Pl, hcs, _, hl, hm, hmm, _, hi⟩
  · exact ⟨_, [], hcs, ⟨none, 0, rfl, Nat.le_refl _, Nat.zero_le _, fun h => absurd h (by simp)⟩, by simp⟩
  · refine ⟨.slice (some x) len cap, ?_⟩
    have he : Try.prog.cellsOf 44 = 5 := by kernel_rfl
    rw [he] at hi
    have hlm : len ≤ m := by rw [hmm]; split <;> omega
    have each : ∀ i, i < len → ∃ p : Act × Value, (∀ (j : Nat) u, (actC p.1 p.2)[j]? = some u → w.cell? (x.add (i * 5 + j)) = some u) ∧ ActIn w p.1 p.2 := by
      intro i hil
      obtain ⟨cs, hc, ht⟩ := hi i (by omega)
      obtain ⟨a, v, rfl, hin⟩ := act_trod ht
      obtain ⟨_, _, hat⟩ := World.cells?_some hc
      refine ⟨(a, v), fun j u hu => ?_, hin⟩
      have hj : j < 5 := (List.getElem?_eq_some_iff.1 hu).1
      rw [← Go.Deep.add_add]
      have := hat j hj
      rw [this]
      exact hu
    let f : Nat → Act × Value := fun i => if h : i < len then Classical.choose (each i h) else (⟨0, [], [], 0, 0⟩, undef)
    have hff : ∀ i (h : i < len), f i = Classical.choose (each i h) := fun i h => by simp only [f]; rw [dif_pos h]
    refine ⟨(List.range len).map f, hcs, ⟨some x, cap, by simp, by simpa using hl, hm, fun h0 => ?_⟩, fun g hg => ?_⟩
    · have hlen : 0 < len := by simpa using h0
      obtain ⟨b, off, spot⟩ := x
      obtain ⟨p0, hp0, _⟩ := each 0 hlen
      have hp0 := hp0 0 _ rfl
      have hspot : spot = none := by simpa [Addr.add] using World.cell?_spot hp0
      subst hspot
      have hb : b < w.heap.size := by
        rcases Nat.lt_or_ge b w.heap.size with h | h
        · exact h
        · exfalso
          simp [World.cell?, Addr.add, Array.getElem?_eq_none h] at hp0
      refine ⟨b, off, rfl, hb, fun i p hp j u hu => ?_⟩
      obtain ⟨hil, hpi⟩ := List.getElem?_eq_some_iff.1 hp
      have hil' : i < len := by simpa using hil
      have hfp : f i = p := by simpa using hpi
      have hspec := Classical.choose_spec (each i hil')
      rw [← hff _ hil', hfp] at hspec
      have := hspec.1 j u hu
      rw [add_at] at this
      exact this
    · obtain ⟨i, hi, rfl⟩ := List.mem_map.1 hg
      have hil' : i < len := by simpa using hi
      have hspec := Classical.choose_spec (each i hil')
      rw [← hff i hil'] at hspec
      exact hspec.2
theorem as_open {H : Type} {enc : TypeId × Value → H} {w : World} {base b0 : Nat} {held : Bool} {r : Reach} {v : Value} {d : DataW H} {ps : List MemPlace}
    (hv : Value.okWide Try.prog w r b0 22 v) (h : DataW.Trod enc Try.prog w base (fun _ => true) held 22 v d ps) : ∃ l, As w v l := by
  obtain ⟨A, len, cap, rfl⟩ := okWide_slice Try.underlying22 hv
  obtain ⟨fuel, hf⟩ := h
  obtain ⟨v, l, hc, hw⟩ := as_trod hf
  simp [Value.cells] at hc
  subst hc
  exact ⟨l, hw⟩
end Go.Proofs.Ytkejoiknnigllaa
