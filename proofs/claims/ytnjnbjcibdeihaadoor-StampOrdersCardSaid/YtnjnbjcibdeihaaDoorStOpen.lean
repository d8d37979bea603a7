/-
  Slices of stamps that came in.
-/
import Derived.Test.YtnjnbjcibdeihaaDoorStLater
import Derived.Test.YtnjnbjcibdeihaaDoorLaid
import Derived.OpenShut
import Derived.Deep.Slices
namespace Go.Proofs.YtnjnbjcibdeihaaDoor
open Go.ChangeShapes Go.WideShapes Go.ChangeAt Go.RowKit Mono
set_option linter.unusedVariables false

theorem sts_open {H : Type} {enc : TypeId × Value → H} {w : World} {base b0 : Nat} {spare : Nat → Bool} {held : Bool} {r : Reach} {v : Value} {d : DataW H} {ps : List MemPlace}
    (hv : Value.okWide Tryd.prog w r b0 34 v) (h : DataW.Trod enc Tryd.prog w base spare held 34 v d ps) : ∃ l, Vs w v l := by
  obtain ⟨A, len, cap, rfl⟩ := okWide_slice Tryd.underlying34 hv
  obtain ⟨fuel, hf⟩ := h
  rcases Deep.open_slice Tryd.underlying34 hf with ⟨hcs, _⟩ | ⟨x, l, c, m, n, D, Pl, hcs, _, hl, hm, hmm, _, hi⟩
  · simp [Value.cells] at hcs
    obtain ⟨rfl, rfl, rfl⟩ := hcs
    exact ⟨[], none, 0, rfl, Nat.le_refl _, Nat.zero_le _, fun _ => rfl, fun h => absurd h (by simp)⟩
  · simp [Value.cells] at hcs
    obtain ⟨rfl, rfl, rfl⟩ := hcs
    have he : Tryd.prog.cellsOf 23 = 2 := by kernel_rfl
    rw [he] at hi
    have hlm : len ≤ m := by rw [hmm]; split <;> omega
    have each : ∀ i, i < len → ∃ p : Int × Int, w.cell? (x.add (i * 2)) = some (.int .i64 p.1) ∧ w.cell? (x.add (i * 2 + 1)) = some (.int .i64 p.2) := by
      intro i hil
      obtain ⟨cs, hc, ht⟩ := hi i (by omega)
      obtain ⟨a, b, rfl, _, _⟩ := st_trod ht
      obtain ⟨_, _, hat⟩ := World.cells?_some hc
      refine ⟨(a, b), by simpa [Addr.add] using hat 0 (by omega), ?_⟩
      have := hat 1 (by omega)
      rw [← Go.Deep.add_add]
      simpa using this
    let f : Nat → Int × Int := fun i => if h : i < len then Classical.choose (each i h) else (0, 0)
    refine ⟨(List.range len).map f, some x, cap, by simp, by simpa using hl, hm, by simp, fun h0 => ?_⟩
    have hlen : 0 < len := by simpa using h0
    obtain ⟨b, off, spot⟩ := x
    obtain ⟨p0, hp0, _⟩ := each 0 hlen
    have hspot : spot = none := by simpa [Addr.add] using World.cell?_spot hp0
    subst hspot
    have hb : b < w.heap.size := by
      rcases Nat.lt_or_ge b w.heap.size with h | h
      · exact h
      · exfalso
        simp [World.cell?, Addr.add, Array.getElem?_eq_none h] at hp0
    refine ⟨b, off, rfl, hb, fun i y hy => ?_⟩
    obtain ⟨hil, hyi⟩ := List.getElem?_eq_some_iff.1 hy
    have hil' : i < len := by simpa using hil
    have hfy : f i = y := by simpa using hyi
    have hspec := Classical.choose_spec (each i hil')
    have hff : f i = Classical.choose (each i hil') := by simp only [f]; rw [dif_pos hil']
    rw [← hff, hfy] at hspec
    rw [add_at, add_at] at hspec
    exact hspec
end Go.Proofs.YtnjnbjcibdeihaaDoor
