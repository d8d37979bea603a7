/-
  A slice of byte slices that came in, and what its bulk bounds.
-/
import Derived.Test.YtagghghoimpofaaDoorOpen
import Derived.Test.YtagghghoimpofaaDoorFrameBack
import Derived.Deep.Matrix
namespace Go.Proofs.YtagghghoimpofaaDoor
open Go.ChangeShapes Go.WideShapes Go.ChangeAt Go.RowKit
set_option linter.unusedVariables false

theorem bulk_append {H : Type} (l r : List (DataW H)) : Rows.uptoBulkAll (l ++ r) = Rows.uptoBulkAll l + Rows.uptoBulkAll r := by
  induction l with
  | nil => simp [Rows.uptoBulkAll]
  | cons x l ih => simp only [List.cons_append, Rows.uptoBulkAll, ih]; omega
theorem bulk_one {H : Type} (d : DataW H) : 1 ≤ Rows.uptoBulk d := by
  cases d with
  | lit l => cases l <;> simp [Rows.uptoBulk]
  | nil => simp [Rows.uptoBulk]
  | ptr d => simp [Rows.uptoBulk]
  | slice elems spare => simp [Rows.uptoBulk]
  | agg parts => simp [Rows.uptoBulk]
  | iface t d => simp [Rows.uptoBulk]
  | map entries => simp [Rows.uptoBulk]
  | held h => simp [Rows.uptoBulk]
theorem bulk_length {H : Type} (l : List (DataW H)) : l.length ≤ Rows.uptoBulkAll l := by
  induction l with
  | nil => simp [Rows.uptoBulkAll]
  | cons x r ih => have := bulk_one x; simp only [Rows.uptoBulkAll, List.length_cons]; omega
theorem bulk_row {H : Type} (k : IntKind) (A : Option Addr) (L C : Nat) (Z : List Int) (hZ : Z.length = C) (hL : L ≤ C) (h0 : A = none → C = 0) : L + 1 ≤ Rows.uptoBulk (Go.Deep.intRow (H := H) k A L Z) := by
  unfold Go.Deep.intRow
  cases A with
  | none => have := h0 rfl; simp [Rows.uptoBulk]; omega
  | some a =>
    have h1 := bulk_length (lits (H := H) k (Z.take L))
    simp only [lits, List.length_map, List.length_take] at h1
    simp only [Rows.uptoBulk, lits]
    omega
theorem szsum_rows {H : Type} (D : Nat → DataW H) : ∀ (n : Nat) (ls : List (List UInt8)), ls.length = n → (∀ r, r < n → (ls.getD r []).length + 1 ≤ Rows.uptoBulk (D r)) → szsum ls ≤ 10 * Rows.uptoBulkAll ((List.range n).map D)
  | 0, ls, hl, _ => by
    obtain rfl := List.eq_nil_of_length_eq_zero hl
    simp [szsum]
  | n + 1, ls, hl, h => by
    have h1 := szsum_rows D n (ls.take n) (by rw [List.length_take]; omega) (fun r hr => by
      have := h r (by omega)
      rw [List.getD_eq_getElem?_getD, List.getElem?_take, if_pos hr, ← List.getD_eq_getElem?_getD]
      exact this)
    have hn : ls[n]? = some (ls.getD n []) := by rw [List.getD_eq_getElem?_getD, List.getElem?_eq_getElem (by omega)]; rfl
    have h2 := h n (by omega)
    have h3 : ls = ls.take n ++ [ls.getD n []] := by
      have h4 : ls.take (n + 1) = ls.take n ++ [ls.getD n []] := by rw [List.take_add_one, hn]; rfl
      rw [List.take_of_length_le (by omega)] at h4
      exact h4
    rw [h3, szsum_append, List.range_succ, List.map_append, bulk_append]
    simp only [szsum, List.map_cons, List.map_nil, Rows.uptoBulkAll]
    omega
theorem bss_rows {w : World} {A : Nat → Option Addr} {L C : Nat → Nat} {Z : Nat → List Int} : ∀ (n : Nat),
    (∀ r, r < n → L r ≤ C r ∧ C r ≤ maxLen ∧ (Z r).length = C r ∧ (∀ z ∈ Z r, (Lit.int .u8 z).wf = true) ∧ (A r = none → C r = 0) ∧ ∀ a', A r = some a' → ∀ c, c < C r → w.cell? (a'.add c) = some (.int .u8 ((Z r).getD c 0))) →
    ∃ ls, ls.length = n ∧ All2 (Bs w) ((List.range n).map fun r => Value.slice (A r) (L r) (C r)) ls ∧ ∀ r, r < n → (ls.getD r []).length = L r
  | 0, _ => ⟨[], rfl, trivial, fun _ h => absurd h (by omega)⟩
  | n + 1, h => by
    obtain ⟨ls, h1, h2, h3⟩ := bss_rows n (fun r hr => h r (by omega))
    obtain ⟨k1, k2, k3, k4, k5, k6⟩ := h n (by omega)
    obtain ⟨l, hb⟩ : ∃ l, Bs w (.slice (A n) (L n) (C n)) l := by
      cases hA : A n with
      | none =>
        have h0 := k5 hA
        have : L n = 0 := by omega
        rw [h0, this]
        exact ⟨[], Bs.nil_ w⟩
      | some x => exact bs_of_cells k1 k2 k3 (fun i hi => k6 x hA i (by omega)) k4
    refine ⟨ls ++ [l], by simp [h1], ?_, fun r hr => ?_⟩
    · rw [List.range_succ, List.map_append]
      exact h2.append ⟨hb, trivial⟩
    · by_cases hrn : r = n
      · subst hrn
        rw [List.getD_eq_getElem?_getD, List.getElem?_append_right (by omega), h1, Nat.sub_self]
        exact hb.len.symm
      · have := h3 r (by omega)
        rw [List.getD_eq_getElem?_getD] at this ⊢
        rw [List.getElem?_append_left (by omega)]
        exact this
theorem bss_open {w : World} {a : Addr} {len cap : Nat} {A : Nat → Option Addr} {L C : Nat → Nat} {Z : Nat → List Int} (hl : len ≤ cap) (hm : cap ≤ maxLen)
    (h : ∀ r, r < cap → w.cell? (a.add r) = some (.slice (A r) (L r) (C r)) ∧ L r ≤ C r ∧ C r ≤ maxLen ∧ (Z r).length = C r ∧ (∀ n ∈ Z r, (Lit.int .u8 n).wf = true) ∧ (A r = none → C r = 0) ∧
      ∀ a', A r = some a' → 0 ≤ a'.block ∧ ∀ c, c < C r → w.cell? (a'.add c) = some (.int .u8 ((Z r).getD c 0))) :
    ∃ ls, Bss w (.slice (some a) len cap) ls ∧ ls.length = len ∧ ∀ r, r < len → (ls.getD r []).length = L r := by
  obtain ⟨ls, h1, h2, h3⟩ := bss_rows (w := w) (A := A) (L := L) (C := C) (Z := Z) len (fun r hr => by
    obtain ⟨_, k1, k2, k3, k4, k5, k6⟩ := h r (by omega)
    exact ⟨k1, k2, k3, k4, k5, fun a' ha c hc => (k6 a' ha).2 c hc⟩)
  refine ⟨ls, ⟨_, ⟨some a, cap, by simp, by simpa using hl, hm, by simp, fun h0 => ?_⟩, h2⟩, h1, h3⟩
  have hlen : 0 < len := by simpa using h0
  obtain ⟨b, off, spot⟩ := a
  have hc := (h 0 (by omega)).1
  have hspot : spot = none := by simpa [Addr.add] using World.cell?_spot hc
  subst hspot
  have hb : b < w.heap.size := by
    rcases Nat.lt_or_ge b w.heap.size with h | h
    · exact h
    · simp [World.cell?, Addr.add, Array.getElem?_eq_none h] at hc
  refine ⟨b, off, rfl, hb, fun i x hx => ?_⟩
  rw [List.getElem?_map] at hx
  cases hr : (List.range len)[i]? with
  | none => rw [hr] at hx; cases hx
  | some j =>
    rw [hr] at hx
    injection hx with hx
    have hj := List.getElem?_range (n := len) (i := i) (by have := (List.getElem?_eq_some_iff.1 hr).1; simpa using this)
    rw [hr] at hj
    injection hj with hj
    subst hj
    have hil : j < len := by have := (List.getElem?_eq_some_iff.1 hr).1; simpa using this
    have h1 := (h j (by omega)).1
    have hadd : (⟨b, off, none⟩ : Addr).add j = ⟨b, off + j, none⟩ := by
      unfold Addr.add; by_cases h : j = 0 <;> simp [h]
    rw [hadd] at h1
    rw [h1, ← hx]
end Go.Proofs.YtagghghoimpofaaDoor
