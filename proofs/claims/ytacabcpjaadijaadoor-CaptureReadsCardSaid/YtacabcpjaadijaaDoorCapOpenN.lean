/-
  A slice of notes that came in.
-/
import Derived.Test.YtacabcpjaadijaaDoorCapNts
import Derived.Test.YtacabcpjaadijaaDoorOpen
import Derived.OpenShut
import Derived.Deep.Slices
import Derived.ChangeSame
namespace Go.Proofs.YtacabcpjaadijaaDoor
open Go.ChangeShapes Go.WideShapes Go.ChangeAt Go.RowKit Mono
set_option linter.unusedVariables false
set_option maxRecDepth 100000

theorem nt_trod {H : Type} {enc : TypeId × Value → H} {w : World} {base : Nat} {spare : Nat → Bool} {held : Bool} {fuel : Nat} {cs : List Value} {x : DataW H × List MemPlace}
    (h : DataW.trod enc Tryd.prog w base spare held fuel 38 cs = some x) : ∃ y : List UInt8 × List UInt8, cs = [strV y.1, strV y.2] ∧ y.1.length ≤ maxLen ∧ y.2.length ≤ maxLen := by
  obtain ⟨y0, y1, m, _, hl, h0, h1⟩ := trod_struct2 Tryd.underlying38 h
  have hc : Tryd.prog.cellsOf 38 = 2 := by kernel_rfl
  have h2c : Tryd.prog.cellsOf 9 = 1 := by kernel_rfl
  rw [hc] at hl
  match cs, hl with
  | [u, v], _ =>
    simp only [h2c, List.drop_zero, List.take_succ_cons, List.take_zero, List.drop_succ_cons] at h0 h1
    obtain ⟨a, ha, _, hwa⟩ := DataW.trod_string Tryd.underlying9 h0
    obtain ⟨b, hb, _, hwb⟩ := DataW.trod_string Tryd.underlying9 h1
    injection ha with ha _
    injection hb with hb _
    subst ha hb
    refine ⟨(a.data.toList, b.data.toList), by unfold strV; simp, ?_⟩
    dsimp only
    rw [Array.length_toList, Array.length_toList]
    exact ⟨hwa, hwb⟩
theorem ns_open {H : Type} {enc : TypeId × Value → H} {w : World} {base b0 : Nat} {spare : Nat → Bool} {held : Bool} {r : Reach} {v : Value} {d : DataW H} {ps : List MemPlace}
    (hv : Value.okWide Tryd.prog w r b0 47 v) (hT : DataW.Trod enc Tryd.prog w base spare held 47 v d ps) : ∃ l, Ns w v l := by
  obtain ⟨A, len, cap, rfl⟩ := okWide_slice Tryd.underlying47 hv
  obtain ⟨fuel, h⟩ := hT
  rcases Deep.open_slice Tryd.underlying47 h with ⟨hcs, _⟩ | ⟨x, len', cap', m, n, D, Pl, hcs, _, hl, hm, hmm, _, hi⟩
  · simp [Value.cells] at hcs
    obtain ⟨rfl, rfl, rfl⟩ := hcs
    exact ⟨[], Fl.nil_ w, by simp⟩
  · simp [Value.cells] at hcs
    obtain ⟨rfl, rfl, rfl⟩ := hcs
    have he : Tryd.prog.cellsOf 38 = 2 := by kernel_rfl
    rw [he] at hi
    have hlm : len ≤ m := by rw [hmm]; split <;> omega
    have each : ∀ i, i < len → ∃ p : List UInt8 × List UInt8, w.cell? (x.add (i * 2)) = some (strV p.1) ∧ w.cell? (x.add (i * 2 + 1)) = some (strV p.2) ∧ p.1.length ≤ maxLen ∧ p.2.length ≤ maxLen := by
      intro i hil
      obtain ⟨cs, hc, ht⟩ := hi i (by omega)
      obtain ⟨p, rfl, hp⟩ := nt_trod ht
      obtain ⟨_, _, hat⟩ := World.cells?_some hc
      have a1 := hat 1 (by omega)
      refine ⟨p, by simpa [Addr.add] using hat 0 (by omega), ?_, hp⟩
      rw [← Go.Deep.add_add]
      simpa using a1
    let f : Nat → List UInt8 × List UInt8 := fun i => if h : i < len then Classical.choose (each i h) else ([], [])
    have hff : ∀ i (h : i < len), f i = Classical.choose (each i h) := fun i h => by simp only [f]; rw [dif_pos h]
    refine ⟨(List.range len).map f, ⟨some x, cap, by simp, by simpa using hl, hm, by simp, fun h0 => ?_⟩, fun g hg => ?_⟩
    · have hlen : 0 < len := by simpa using h0
      obtain ⟨b, off, spot⟩ := x
      obtain ⟨p0, hp0, _⟩ := each 0 hlen
      have hspot : spot = none := by simpa [Addr.add] using World.cell?_spot hp0
      subst hspot
      have hb : b < w.heap.size := by
        rcases Nat.lt_or_ge b w.heap.size with h | h
        · exact h
        · exfalso
          simp [World.cell?, Addr.add, Array.getElem?_eq_none h] at hp0
      refine ⟨b, off, rfl, hb, fun j u hu => ?_⟩
      have hjl := (List.getElem?_eq_some_iff.1 hu).1
      rw [nsC_len] at hjl
      simp only [List.length_map, List.length_range] at hjl
      have hil : j / 2 < len := by omega
      have hget : ((List.range len).map f)[j / 2]? = some (f (j / 2)) := by simp [hil]
      obtain ⟨g0, g1⟩ := nsC_get _ _ _ hget
      have hspec := Classical.choose_spec (each (j / 2) hil)
      rw [← hff _ hil, add_at, add_at] at hspec
      rcases (show j = j / 2 * 2 ∨ j = j / 2 * 2 + 1 by omega) with hj | hj
      · have e := g0.symm.trans (hj ▸ hu)
        rw [hj, hspec.1]
        exact e
      · have e := g1.symm.trans (hj ▸ hu)
        rw [hj, hspec.2.1]
        exact e
    · obtain ⟨i, hi, rfl⟩ := List.mem_map.1 hg
      have hil' : i < len := by simpa using hi
      have hspec := Classical.choose_spec (each i hil')
      rw [← hff i hil'] at hspec
      exact hspec.2.2
end Go.Proofs.YtacabcpjaadijaaDoor
