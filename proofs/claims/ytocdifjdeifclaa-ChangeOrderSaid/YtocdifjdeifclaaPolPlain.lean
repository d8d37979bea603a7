/-
  Layer 7 in plain Lean: groups; what a slice of groups is.
-/
import Derived.Test.YtocdifjdeifclaaNumText
import Derived.Test.YtocdifjdeifclaaBlk
import Derived.Laws.RangeAny
import Derived.Outline
namespace Go.Proofs.Ytocdifjdeifclaa
open Go Go.RowKit Mono Num
set_option linter.unusedVariables false

/-- A group: its name, its policy. -/
abbrev Grp := List UInt8 × Int
def okc (c : UInt8) : Bool := decide (97 ≤ c.toNat) && decide (c.toNat ≤ 122)
def nameOk (s : List UInt8) : Bool := s.all okc && (decide (1 ≤ s.length) && decide (s.length ≤ 12))
def polOk (p : Int) : Bool := p == 1 || p == 2
def grpOk (g : Grp) : Bool := nameOk g.1 && polOk g.2
def pgoodF (met : List (List UInt8)) : List Grp → Nat
  | [] => 0
  | g :: r => if grpOk g = false then 2 else if g.1 ∈ met then 70 else pgoodF (met ++ [g.1]) r
def pgood (l : List Grp) : Nat := if l.length = 0 then 2 else if 4 < l.length then 3 else pgoodF [] l
def grpV (g : Grp) : Value := .agg #[strV g.1, .int .i64 g.2]

/-- A slice of groups. -/
def Gs (w : World) (v : Value) (l : List Grp) : Prop :=
  (∃ A c, v = .slice A l.length c ∧ l.length ≤ c ∧ c ≤ maxLen ∧ (A = none → c = 0) ∧
    (0 < l.length → ∃ b off, A = some ⟨b, off, none⟩ ∧ b < w.heap.size ∧ ∀ i x, l[i]? = some x → w.cell? ⟨b, off + i * 2, none⟩ = some (strV x.1) ∧ w.cell? ⟨b, off + i * 2 + 1, none⟩ = some (.int .i64 x.2))) ∧
  ∀ g ∈ l, g.1.length ≤ maxLen ∧ In64 g.2
theorem Gs.ext {w w' : World} {v : Value} {xs : List Grp} (h : Gs w v xs) (he : Ext w w') : Gs w' v xs := by
  obtain ⟨⟨A, c, hv, h1, h2, h3, h4⟩, hin⟩ := h
  refine ⟨⟨A, c, hv, h1, h2, h3, fun h0 => ?_⟩, hin⟩
  obtain ⟨b, off, hA, hb, hc⟩ := h4 h0
  exact ⟨b, off, hA, Nat.lt_of_lt_of_le hb he.size, fun i x hx => ⟨(he.cell (p := ⟨b, off + i * 2, none⟩) hb).trans (hc i x hx).1, (he.cell (p := ⟨b, off + i * 2 + 1, none⟩) hb).trans (hc i x hx).2⟩⟩
theorem Gs.nil_ (w : World) : Gs w (.slice none 0 0) [] := ⟨⟨none, 0, rfl, Nat.le_refl _, Nat.zero_le _, fun _ => rfl, fun h => absurd h (by simp)⟩, by simp⟩
theorem Gs.at_ {w : World} {v : Value} {l : List Grp} (h : Gs w v l) : ∃ A c, v = .slice A l.length c ∧ l.length ≤ c ∧ c ≤ 9223372036854775807 ∧ (A = none → c = 0) ∧
    (0 < l.length → ∃ b off, A = some ⟨b, off, none⟩ ∧ b < w.heap.size ∧ ∀ (i : Nat), i < l.length → ∃ n p, l[i]? = some (n, p) ∧ w.cell? ⟨b, off + i * 2, none⟩ = some (strV n) ∧ w.cell? ⟨b, off + i * 2 + 1, none⟩ = some (.int .i64 p) ∧ n.length ≤ maxLen ∧ In64 p) := by
  obtain ⟨⟨A, c, hv, h1, h2, h3, h4⟩, hin⟩ := h
  refine ⟨A, c, hv, h1, by unfold maxLen at h2; omega, h3, fun h0 => ?_⟩
  obtain ⟨b, off, hA, hb, hc⟩ := h4 h0
  refine ⟨b, off, hA, hb, fun i hi => ?_⟩
  have hx : l[i]? = some l[i] := List.getElem?_eq_getElem hi
  have := hin _ (List.getElem_mem hi)
  exact ⟨l[i].1, l[i].2, hx, (hc i _ hx).1, (hc i _ hx).2, this.1, this.2⟩

theorem nameOk_false_of {s : List UInt8} {i : Nat} {c : UInt8} (hi : s[i]? = some c) (hc : okc c = false) : nameOk s = false := by
  unfold nameOk
  have : s.all okc = false := by
    rw [List.all_eq_false]
    exact ⟨c, List.mem_of_getElem? hi, by simp [hc]⟩
  rw [this, Bool.false_and]
theorem all_take_succ {s : List UInt8} {i : Nat} {c : UInt8} (hi : s[i]? = some c) (h : (s.take i).all okc = true) (hc : okc c = true) : (s.take (i + 1)).all okc = true := by
  rw [List.take_add_one, hi, Option.toList_some, List.all_append, h]
  simp [hc]
theorem okc_true {c : UInt8} (h : okc c = true) : 97 ≤ c.toNat ∧ c.toNat ≤ 122 := by simpa [okc] using h
theorem okc_false {c : UInt8} (h : okc c = false) : c.toNat < 97 ∨ 122 < c.toNat := by
  simp only [okc, Bool.and_eq_false_iff, decide_eq_false_iff_not] at h
  omega
end Go.Proofs.Ytocdifjdeifclaa
