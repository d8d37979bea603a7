/-
  Writes and changes that came in: the arguments opened.
-/
import Derived.Test.YtocdifjdeifclaaChPlain
import Derived.Test.YtocdifjdeifclaaOpen
import Derived.Test.YtocdifjdeifclaaBytes
import Derived.OpenShut
import Derived.Deep.Slices
import Derived.ChangeSame
namespace Go.Proofs.Ytocdifjdeifclaa
open Go.ChangeShapes Go.WideShapes Go.ChangeAt Go.RowKit Mono
set_option linter.unusedVariables false
set_option maxRecDepth 100000

theorem wr_trod {H : Type} {enc : TypeId × Value → H} {w : World} {base : Nat} {spare : Nat → Bool} {held : Bool} {fuel : Nat} {cs : List Value} {x : DataW H × List MemPlace}
    (h : DataW.trod enc Try.prog w base spare held fuel 31 cs = some x) : ∃ y : Wr, cs = [strV y.key, .int .i64 y.group, .bool y.gone, strV y.value] ∧ y.fits := by
  obtain ⟨xs, m, _, _, hl, hlen, hi⟩ := DataW.trod_struct Try.underlying31 h
  have hc : Try.prog.cellsOf 31 = 4 := by kernel_rfl
  have h1c : Try.prog.cellsOf 9 = 1 := by kernel_rfl
  have h2c : Try.prog.cellsOf 3 = 1 := by kernel_rfl
  have h3c : Try.prog.cellsOf 4 = 1 := by kernel_rfl
  rw [hc] at hl
  match cs, hl with
  | [u0, u1, u2, u3], _ =>
    have k0 : DataW.trod enc Try.prog w base spare held m 9 (([u0, u1, u2, u3].drop 0).take (Try.prog.cellsOf 9)) = xs[0]? := hi 0 _ rfl
    have k1 : DataW.trod enc Try.prog w base spare held m 3 (([u0, u1, u2, u3].drop 1).take (Try.prog.cellsOf 3)) = xs[1]? := hi 1 _ rfl
    have k2 : DataW.trod enc Try.prog w base spare held m 4 (([u0, u1, u2, u3].drop 2).take (Try.prog.cellsOf 4)) = xs[2]? := hi 2 _ rfl
    have k3 : DataW.trod enc Try.prog w base spare held m 9 (([u0, u1, u2, u3].drop 3).take (Try.prog.cellsOf 9)) = xs[3]? := hi 3 _ rfl
    simp only [h1c, h2c, h3c, List.drop_zero, List.take_succ_cons, List.take_zero, List.drop_succ_cons] at k0 k1 k2 k3
    have hxs : xs.length = 4 := hlen
    rw [List.getElem?_eq_getElem (by omega)] at k0 k1 k2 k3
    obtain ⟨a, ha, _, hwa⟩ := DataW.trod_string Try.underlying9 k0
    obtain ⟨b, hb, _, hwb⟩ := DataW.trod_int Try.underlying3 k1
    obtain ⟨d, hd, _⟩ := DataW.trod_bool Try.underlying4 k2
    obtain ⟨z, hz, _, hwz⟩ := DataW.trod_string Try.underlying9 k3
    injection ha with ha _
    injection hb with hb _
    injection hd with hd _
    injection hz with hz _
    subst ha hb hd hz
    refine ⟨⟨a.data.toList, b, d, z.data.toList⟩, by unfold strV; simp, ?_⟩
    unfold Wr.fits
    dsimp only
    rw [Array.length_toList, Array.length_toList]
    exact ⟨hwa, int_of_wf hwb, hwz⟩

theorem ws_trod {H : Type} {enc : TypeId × Value → H} {w : World} {base : Nat} {spare : Nat → Bool} {held : Bool} {fuel : Nat} {cs : List Value} {y : DataW H × List MemPlace}
    (h : DataW.trod enc Try.prog w base spare held fuel 27 cs = some y) : ∃ v l, cs = [v] ∧ Ws w v l := by
  rcases Deep.open_slice Try.underlying27 h with ⟨hcs, _⟩ | ⟨x, len, cap, m, n, D, Pl, hcs, _, hl, hm, hmm, _, hi⟩
  · exact ⟨_, [], hcs, Ws.nil_ w⟩
  · refine ⟨.slice (some x) len cap, ?_⟩
    have he : Try.prog.cellsOf 31 = 4 := by kernel_rfl
    rw [he] at hi
    have hlm : len ≤ m := by rw [hmm]; split <;> omega
    have each : ∀ i, i < len → ∃ p : Wr, w.cell? (x.add (i * 4)) = some (strV p.key) ∧ w.cell? (x.add (i * 4 + 1)) = some (.int .i64 p.group) ∧ w.cell? (x.add (i * 4 + 2)) = some (.bool p.gone) ∧ w.cell? (x.add (i * 4 + 3)) = some (strV p.value) ∧ p.fits := by
      intro i hil
      obtain ⟨cs, hc, ht⟩ := hi i (by omega)
      obtain ⟨p, rfl, hp⟩ := wr_trod ht
      obtain ⟨_, _, hat⟩ := World.cells?_some hc
      have a1 := hat 1 (by omega)
      have a2 := hat 2 (by omega)
      have a3 := hat 3 (by omega)
      refine ⟨p, by simpa [Addr.add] using hat 0 (by omega), ?_, ?_, ?_, hp⟩ <;> rw [← Go.Deep.add_add]
      · simpa using a1
      · simpa using a2
      · simpa using a3
    let f : Nat → Wr := fun i => if h : i < len then Classical.choose (each i h) else ⟨[], 0, false, []⟩
    have hff : ∀ i (h : i < len), f i = Classical.choose (each i h) := fun i h => by simp only [f]; rw [dif_pos h]
    refine ⟨(List.range len).map f, hcs, ⟨some x, cap, by simp, by simpa using hl, hm, by simp, fun h0 => ?_⟩, fun g hg => ?_⟩
    · have hlen : 0 < len := by simpa using h0
      obtain ⟨b, off, spot⟩ := x
      obtain ⟨p0, hp0, _⟩ := each 0 hlen
      have hspot : spot = none := by simpa [Addr.add] using World.cell?_spot hp0
      subst hspot
      have hb : b < w.heap.size := by
        rcases Nat.lt_or_ge b w.heap.size with h | h
        · exact h
        · exfalso
          simp [World.cell?, Addr.add, Array.getElem?_eq_none h] at hp0
      refine ⟨b, off, rfl, hb, fun i y hy => ?_⟩
      obtain ⟨hil, hyi⟩ := List.getElem?_eq_some_iff.1 hy
      have hil' : i < len := by simpa using hil
      have hfy : f i = y := by simpa using hyi
      have hspec := Classical.choose_spec (each i hil')
      rw [← hff i hil', hfy] at hspec
      rw [add_at, add_at, add_at, add_at] at hspec
      exact ⟨hspec.1, hspec.2.1, hspec.2.2.1, hspec.2.2.2.1⟩
    · obtain ⟨i, hi, rfl⟩ := List.mem_map.1 hg
      have hil' : i < len := by simpa using hi
      have hspec := Classical.choose_spec (each i hil')
      rw [← hff i hil'] at hspec
      exact hspec.2.2.2.2

theorem pair_trod {H : Type} {enc : TypeId × Value → H} {w : World} {base : Nat} {spare : Nat → Bool} {held : Bool} {fuel : Nat} {cs : List Value} {x : DataW H × List MemPlace}
    (h : DataW.trod enc Try.prog w base spare held fuel 24 cs = some x) : ∃ a b : Int, cs = [.int .i64 a, .int .i64 b] ∧ In64 a ∧ In64 b := by
  obtain ⟨y0, y1, m, _, hl, h0, h1⟩ := trod_struct2 Try.underlying24 h
  have hc : Try.prog.cellsOf 24 = 2 := by kernel_rfl
  have h2c : Try.prog.cellsOf 3 = 1 := by kernel_rfl
  rw [hc] at hl
  match cs, hl with
  | [u, v], _ =>
    simp only [h2c, List.drop_zero, List.take_succ_cons, List.take_zero, List.drop_succ_cons] at h0 h1
    obtain ⟨a, ha, _, hwa⟩ := DataW.trod_int Try.underlying3 h0
    obtain ⟨b, hb, _, hwb⟩ := DataW.trod_int Try.underlying3 h1
    injection ha with ha _
    injection hb with hb _
    subst ha hb
    exact ⟨a, b, rfl, int_of_wf hwa, int_of_wf hwb⟩
theorem vec2_trod {H : Type} {enc : TypeId × Value → H} {w : World} {base : Nat} {spare : Nat → Bool} {held : Bool} {fuel : Nat} {cs : List Value} {x : DataW H × List MemPlace}
    (h : DataW.trod enc Try.prog w base spare held fuel 26 cs = some x) : ∃ a b : Int, cs = [.int .i64 a, .int .i64 b] ∧ In64 a ∧ In64 b := by
  obtain ⟨xs, m, _, _, hlen, hx, hi⟩ := DataW.trod_array Try.underlying26 h
  have hc : Try.prog.cellsOf 26 = 2 := by kernel_rfl
  have he : Try.prog.cellsOf 3 = 1 := by kernel_rfl
  rw [hc] at hlen
  match cs, hlen with
  | [u, v], _ =>
    have h0 := hi 0 (by omega)
    have h1 := hi 1 (by omega)
    rw [he] at h0 h1
    simp only [Nat.zero_mul, Nat.one_mul, List.drop_zero, List.take_succ_cons, List.take_zero, List.drop_succ_cons] at h0 h1
    rw [List.getElem?_eq_getElem (by omega)] at h0 h1
    obtain ⟨a, ha, _, hwa⟩ := DataW.trod_int Try.underlying3 h0
    obtain ⟨b, hb, _, hwb⟩ := DataW.trod_int Try.underlying3 h1
    exact ⟨a, b, by simp_all, int_of_wf hwa, int_of_wf hwb⟩
/-- The cells of a change that came in. -/
theorem ch_trod {H : Type} {enc : TypeId × Value → H} {w : World} {base : Nat} {spare : Nat → Bool} {held : Bool} {fuel : Nat} {cs : List Value} {x : DataW H × List MemPlace}
    (h : DataW.trod enc Try.prog w base spare held fuel 29 cs = some x) : ∃ site seq sn ss va vb vw ws, cs = chC ⟨site, seq, sn, ss, va, vb, ws⟩ vw ∧ Ws w vw ws ∧ In64 site ∧ In64 seq ∧ In64 sn ∧ In64 ss ∧ In64 va ∧ In64 vb := by
  obtain ⟨xs, m, _, _, hl, hlen, hi⟩ := DataW.trod_struct Try.underlying29 h
  have hc : Try.prog.cellsOf 29 = 7 := by kernel_rfl
  have h1c : Try.prog.cellsOf 3 = 1 := by kernel_rfl
  have h2c : Try.prog.cellsOf 24 = 2 := by kernel_rfl
  have h3c : Try.prog.cellsOf 26 = 2 := by kernel_rfl
  have h4c : Try.prog.cellsOf 27 = 1 := by kernel_rfl
  rw [hc] at hl
  match cs, hl with
  | [u0, u1, u2, u3, u4, u5, u6], _ =>
    have k0 : DataW.trod enc Try.prog w base spare held m 3 (([u0, u1, u2, u3, u4, u5, u6].drop 0).take (Try.prog.cellsOf 3)) = xs[0]? := hi 0 _ rfl
    have k1 : DataW.trod enc Try.prog w base spare held m 3 (([u0, u1, u2, u3, u4, u5, u6].drop 1).take (Try.prog.cellsOf 3)) = xs[1]? := hi 1 _ rfl
    have k2 : DataW.trod enc Try.prog w base spare held m 24 (([u0, u1, u2, u3, u4, u5, u6].drop 2).take (Try.prog.cellsOf 24)) = xs[2]? := hi 2 _ rfl
    have k3 : DataW.trod enc Try.prog w base spare held m 26 (([u0, u1, u2, u3, u4, u5, u6].drop 4).take (Try.prog.cellsOf 26)) = xs[3]? := hi 3 _ rfl
    have k4 : DataW.trod enc Try.prog w base spare held m 27 (([u0, u1, u2, u3, u4, u5, u6].drop 6).take (Try.prog.cellsOf 27)) = xs[4]? := hi 4 _ rfl
    simp only [h1c, h2c, h3c, h4c, List.drop_zero, List.take_succ_cons, List.take_zero, List.drop_succ_cons] at k0 k1 k2 k3 k4
    have hxs : xs.length = 5 := hlen
    rw [List.getElem?_eq_getElem (by omega)] at k0 k1 k2 k3 k4
    obtain ⟨a, ha, _, hwa⟩ := DataW.trod_int Try.underlying3 k0
    obtain ⟨b, hb, _, hwb⟩ := DataW.trod_int Try.underlying3 k1
    obtain ⟨s1, s2, hs, i1, i2⟩ := pair_trod k2
    obtain ⟨v1, v2, hv, i3, i4⟩ := vec2_trod k3
    obtain ⟨vw, ws, hw, hws⟩ := ws_trod k4
    injection ha with ha _
    injection hb with hb _
    injection hs with hs1 hs
    injection hs with hs2 _
    injection hv with hv1 hv
    injection hv with hv2 _
    injection hw with hw _
    subst ha hb hs1 hs2 hv1 hv2 hw
    exact ⟨a, b, s1, s2, v1, v2, _, ws, rfl, hws, int_of_wf hwa, int_of_wf hwb, i1, i2, i3, i4⟩
theorem ch_open {H : Type} {enc : TypeId × Value → H} {w : World} {base b0 : Nat} {spare : Nat → Bool} {held : Bool} {r : Reach} {v : Value} {d : DataW H} {ps : List MemPlace}
    (hv : Value.okWide Try.prog w r b0 29 v) (h : DataW.Trod enc Try.prog w base spare held 29 v d ps) : ∃ site seq sn ss va vb vw ws, v = chV ⟨site, seq, sn, ss, va, vb, ws⟩ vw ∧ Ws w vw ws ∧ In64 site ∧ In64 seq ∧ In64 sn ∧ In64 ss ∧ In64 va ∧ In64 vb := by
  simp only [Value.okWide, Try.underlying29] at hv
  obtain ⟨cs, rfl, _, _⟩ := hv
  obtain ⟨fuel, hf⟩ := h
  obtain ⟨site, seq, sn, ss, va, vb, vw, ws, hc, hrest⟩ := ch_trod hf
  refine ⟨site, seq, sn, ss, va, vb, vw, ws, ?_, hrest⟩
  unfold chV
  congr 1
  apply Array.ext'
  simpa [Value.cells, chC] using hc
theorem ws_open {H : Type} {enc : TypeId × Value → H} {w : World} {base b0 : Nat} {spare : Nat → Bool} {held : Bool} {r : Reach} {v : Value} {d : DataW H} {ps : List MemPlace}
    (hv : Value.okWide Try.prog w r b0 27 v) (h : DataW.Trod enc Try.prog w base spare held 27 v d ps) : ∃ l, Ws w v l := by
  obtain ⟨A, len, cap, rfl⟩ := okWide_slice Try.underlying27 hv
  obtain ⟨fuel, hf⟩ := h
  obtain ⟨v, l, hc, hw⟩ := ws_trod hf
  simp [Value.cells] at hc
  subst hc
  exact ⟨l, hw⟩
end Go.Proofs.Ytocdifjdeifclaa
