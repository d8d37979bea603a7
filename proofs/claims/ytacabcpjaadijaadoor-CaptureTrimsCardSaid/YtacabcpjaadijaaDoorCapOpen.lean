/-
  A slice of changes that came in.
-/
import Derived.Test.YtacabcpjaadijaaDoorChOpen
import Derived.Test.YtacabcpjaadijaaDoorCapPlain
namespace Go.Proofs.YtacabcpjaadijaaDoor
open Go.ChangeShapes Go.WideShapes Go.ChangeAt Go.RowKit Mono
set_option linter.unusedVariables false
set_option maxRecDepth 100000

theorem cs_trod {H : Type} {enc : TypeId × Value → H} {w : World} {base : Nat} {spare : Nat → Bool} {held : Bool} {fuel : Nat} {cs : List Value} {y : DataW H × List MemPlace}
    (h : DataW.trod enc Tryd.prog w base spare held fuel 22 cs = some y) : ∃ v l, cs = [v] ∧ Cs w v l := by
  rcases Deep.open_slice Tryd.underlying22 h with ⟨hcs, _⟩ | ⟨x, len, cap, m, n, D, Pl, hcs, _, hl, hm, hmm, _, hi⟩
  · exact ⟨_, [], hcs, Fl.nil_ w, by simp⟩
  · refine ⟨.slice (some x) len cap, ?_⟩
    have he : Tryd.prog.cellsOf 32 = 7 := by kernel_rfl
    rw [he] at hi
    have hlm : len ≤ m := by rw [hmm]; split <;> omega
    have each : ∀ i, i < len → ∃ p : Ch × Value, (∀ j u, (chC p.1 p.2)[j]? = some u → w.cell? (x.add (i * 7 + j)) = some u) ∧ Ws w p.2 p.1.writes ∧ p.1.ints := by
      intro i hil
      obtain ⟨cs, hc, ht⟩ := hi i (by omega)
      obtain ⟨site, seq, sn, ss, va, vb, vw, ws, rfl, hws, i1, i2, i3, i4, i5, i6⟩ := ch_trod ht
      obtain ⟨_, _, hat⟩ := World.cells?_some hc
      refine ⟨(⟨site, seq, sn, ss, va, vb, ws⟩, vw), fun j u hu => ?_, hws, i1, i2, i3, i4, i5, i6⟩
      have hj : j < 7 := (List.getElem?_eq_some_iff.1 hu).1
      rw [← Go.Deep.add_add]
      have := hat j hj
      rw [this]
      exact hu
    let f : Nat → Ch × Value := fun i => if h : i < len then Classical.choose (each i h) else (Ch.nought, undef)
    have hff : ∀ i (h : i < len), f i = Classical.choose (each i h) := fun i h => by simp only [f]; rw [dif_pos h]
    refine ⟨(List.range len).map f, hcs, ⟨some x, cap, by simp, by simpa using hl, hm, by simp, fun h0 => ?_⟩, fun g hg => ?_⟩
    · have hlen : 0 < len := by simpa using h0
      obtain ⟨b, off, spot⟩ := x
      obtain ⟨p0, hp0, _⟩ := each 0 hlen
      have hp0 := hp0 0 _ rfl
      have hspot : spot = none := by simpa [Addr.add] using World.cell?_spot hp0
      subst hspot
      have hb : b < w.heap.size := by
        rcases Nat.lt_or_ge b w.heap.size with h | h
        · exact h
        · exfalso
          simp [World.cell?, Addr.add, Array.getElem?_eq_none h] at hp0
      refine ⟨b, off, rfl, hb, fun j u hu => ?_⟩
      have hjl := (List.getElem?_eq_some_iff.1 hu).1
      rw [chsC_len] at hjl
      simp only [List.length_map, List.length_range] at hjl
      have hil : j / 7 < len := by omega
      have hget : ((List.range len).map f)[j / 7]? = some (f (j / 7)) := by simp [hil]
      have h7 := chsC_get _ _ _ hget (j % 7) (Nat.mod_lt _ (by decide))
      have hdj : j / 7 * 7 + j % 7 = j := by omega
      rw [hdj] at h7
      have hspec := Classical.choose_spec (each (j / 7) hil)
      rw [← hff _ hil] at hspec
      have := hspec.1 (j % 7) u (h7.symm.trans hu)
      rw [add_at, hdj] at this
      exact this
    · obtain ⟨i, hi, rfl⟩ := List.mem_map.1 hg
      have hil' : i < len := by simpa using hi
      have hspec := Classical.choose_spec (each i hil')
      rw [← hff i hil'] at hspec
      exact hspec.2
theorem cs_open {H : Type} {enc : TypeId × Value → H} {w : World} {base b0 : Nat} {spare : Nat → Bool} {held : Bool} {r : Reach} {v : Value} {d : DataW H} {ps : List MemPlace}
    (hv : Value.okWide Tryd.prog w r b0 22 v) (h : DataW.Trod enc Tryd.prog w base spare held 22 v d ps) : ∃ l, Cs w v l := by
  obtain ⟨A, len, cap, rfl⟩ := okWide_slice Tryd.underlying22 hv
  obtain ⟨fuel, hf⟩ := h
  obtain ⟨v, l, hc, hw⟩ := cs_trod hf
  simp [Value.cells] at hc
  subst hc
  exact ⟨l, hw⟩
end Go.Proofs.YtacabcpjaadijaaDoor
