/-
  Groups that came in: the argument opened.
-/
import Derived.Test.YtocdifjdeifclaaPolPlain
import Derived.Test.YtocdifjdeifclaaOpen
import Derived.Test.YtocdifjdeifclaaBytes
import Derived.OpenShut
import Derived.Deep.Slices
import Derived.ChangeSame
namespace Go.Proofs.Ytocdifjdeifclaa
open Go.ChangeShapes Go.WideShapes Go.ChangeAt Go.RowKit Mono
set_option linter.unusedVariables false
set_option maxRecDepth 100000

theorem grp_trod {H : Type} {enc : TypeId × Value → H} {w : World} {base : Nat} {spare : Nat → Bool} {held : Bool} {fuel : Nat} {cs : List Value} {x : DataW H × List MemPlace}
    (h : DataW.trod enc Try.prog w base spare held fuel 52 cs = some x) : ∃ (n : List UInt8) (p : Int), cs = [strV n, .int .i64 p] ∧ n.length ≤ maxLen ∧ In64 p := by
  obtain ⟨y0, y1, m, _, hl, h0, h1⟩ := trod_struct2 Try.underlying52 h
  have hc : Try.prog.cellsOf 52 = 2 := by kernel_rfl
  have h1c : Try.prog.cellsOf 9 = 1 := by kernel_rfl
  have h2c : Try.prog.cellsOf 3 = 1 := by kernel_rfl
  rw [hc] at hl
  match cs, hl with
  | [u, v], _ =>
    simp only [h1c, h2c, List.drop_zero, List.take_succ_cons, List.take_zero, List.drop_succ_cons] at h0 h1
    obtain ⟨a, ha, _, hwa⟩ := DataW.trod_string Try.underlying9 h0
    obtain ⟨b, hb, _, hwb⟩ := DataW.trod_int Try.underlying3 h1
    injection ha with ha _
    injection hb with hb _
    subst ha hb
    exact ⟨a.data.toList, b, by unfold strV; simp, by rw [Array.length_toList]; exact hwa, int_of_wf hwb⟩

theorem groups_open {H : Type} {enc : TypeId × Value → H} {w : World} {base b0 : Nat} {spare : Nat → Bool} {held : Bool} {r : Reach} {v : Value} {d : DataW H} {ps : List MemPlace}
    (hv : Value.okWide Try.prog w r b0 22 v) (h : DataW.Trod enc Try.prog w base spare held 22 v d ps) : ∃ l, Gs w v l := by
  obtain ⟨A, len, cap, rfl⟩ := okWide_slice Try.underlying22 hv
  obtain ⟨fuel, hf⟩ := h
  rcases Deep.open_slice Try.underlying22 hf with ⟨hcs, _⟩ | ⟨x, l, c, m, n, D, Pl, hcs, _, hl, hm, hmm, _, hi⟩
  · simp [Value.cells] at hcs
    obtain ⟨rfl, rfl, rfl⟩ := hcs
    exact ⟨[], Gs.nil_ w⟩
  · simp [Value.cells] at hcs
    obtain ⟨rfl, rfl, rfl⟩ := hcs
    have he : Try.prog.cellsOf 52 = 2 := by kernel_rfl
    rw [he] at hi
    have hlm : len ≤ m := by rw [hmm]; split <;> omega
    have each : ∀ i, i < len → ∃ p : Grp, w.cell? (x.add (i * 2)) = some (strV p.1) ∧ w.cell? (x.add (i * 2 + 1)) = some (.int .i64 p.2) ∧ p.1.length ≤ maxLen ∧ In64 p.2 := by
      intro i hil
      obtain ⟨cs, hc, ht⟩ := hi i (by omega)
      obtain ⟨a, b, rfl, ha, hb⟩ := grp_trod ht
      obtain ⟨_, _, hat⟩ := World.cells?_some hc
      refine ⟨(a, b), by simpa [Addr.add] using hat 0 (by omega), ?_, ha, hb⟩
      have := hat 1 (by omega)
      rw [← Go.Deep.add_add]
      simpa using this
    let f : Nat → Grp := fun i => if h : i < len then Classical.choose (each i h) else ([], 0)
    have hff : ∀ i (h : i < len), f i = Classical.choose (each i h) := fun i h => by simp only [f]; rw [dif_pos h]
    refine ⟨(List.range len).map f, ⟨some x, cap, by simp, by simpa using hl, hm, by simp, fun h0 => ?_⟩, fun g hg => ?_⟩
    · have hlen : 0 < len := by simpa using h0
      obtain ⟨b, off, spot⟩ := x
      obtain ⟨p0, hp0, _⟩ := each 0 hlen
      have hspot : spot = none := by simpa [Addr.add] using World.cell?_spot hp0
      subst hspot
      have hb : b < w.heap.size := by
        rcases Nat.lt_or_ge b w.heap.size with h | h
        · exact h
        · exfalso
          simp [World.cell?, Addr.add, Array.getElem?_eq_none h] at hp0
      refine ⟨b, off, rfl, hb, fun i y hy => ?_⟩
      obtain ⟨hil, hyi⟩ := List.getElem?_eq_some_iff.1 hy
      have hil' : i < len := by simpa using hil
      have hfy : f i = y := by simpa using hyi
      have hspec := Classical.choose_spec (each i hil')
      rw [← hff i hil', hfy] at hspec
      rw [add_at, add_at] at hspec
      exact ⟨hspec.1, hspec.2.1⟩
    · obtain ⟨i, hi, rfl⟩ := List.mem_map.1 hg
      have hil' : i < len := by simpa using hi
      have hspec := Classical.choose_spec (each i hil')
      rw [← hff i hil'] at hspec
      exact hspec.2.2
end Go.Proofs.Ytocdifjdeifclaa
