/-
  Words for memory: a slice that reads as a list of one-cell values; bytes.
-/
import Derived.WalkKit
import Derived.WalkSpells
import Derived.WalkLawsBesides
import Derived.Lib.Hide
import Derived.Lib.SlBytesConst
import Derived.Test.YtakgmoejgcaopaaMono
namespace Go.Proofs.Ytakgmoejgcaopaa
open Go.RowKit Mono

/-- The slice value v reads as xs, each element one cell. -/
def Sl (w : World) (v : Value) (xs : List Value) : Prop :=
  ∃ A c, v = .slice A xs.length c ∧ xs.length ≤ c ∧ c ≤ maxLen ∧ (A = none → c = 0) ∧
    (0 < xs.length → ∃ b off, A = some ⟨b, off, none⟩ ∧ b < w.heap.size ∧ ∀ i x, xs[i]? = some x → w.cell? ⟨b, off + i, none⟩ = some x)

theorem Sl.ext {w w' : World} {v : Value} {xs : List Value} (h : Sl w v xs) (he : Ext w w') : Sl w' v xs := by
  obtain ⟨A, c, hv, h1, h2, h3, h4⟩ := h
  refine ⟨A, c, hv, h1, h2, h3, fun h0 => ?_⟩
  obtain ⟨b, off, hA, hb, hc⟩ := h4 h0
  exact ⟨b, off, hA, Nat.lt_of_lt_of_le hb he.size, fun i x hx => (he.cell (p := ⟨b, off + i, none⟩) hb).trans (hc i x hx)⟩

theorem Sl.nil_ (w : World) : Sl w (.slice none 0 0) [] := ⟨none, 0, rfl, Nat.le_refl _, Nat.zero_le _, fun _ => rfl, fun h => absurd h (by simp)⟩

/-- A byte as a value. -/
def bv (x : UInt8) : Value := .int .u8 (x.toNat : Int)
def Bs (w : World) (v : Value) (l : List UInt8) : Prop := Sl w v (l.map bv)
theorem Bs.ext {w w' : World} {v : Value} {l : List UInt8} (h : Bs w v l) (he : Ext w w') : Bs w' v l := Sl.ext h he
theorem Bs.nil_ (w : World) : Bs w (.slice none 0 0) [] := Sl.nil_ w

theorem Bs.open_ {w : World} {v : Value} {l : List UInt8} (h : Bs w v l) : ∃ A c, v = .slice A l.length c ∧ l.length ≤ c ∧ c ≤ maxLen ∧ (A = none → c = 0) ∧
    (0 < l.length → ∃ b off, A = some ⟨b, off, none⟩ ∧ b < w.heap.size ∧ ∀ i x, l[i]? = some x → w.cell? ⟨b, off + i, none⟩ = some (.int .u8 (x.toNat : Int))) := by
  obtain ⟨A, c, hv, h1, h2, h3, h4⟩ := h
  simp only [List.length_map] at hv h1 h4
  refine ⟨A, c, hv, h1, h2, h3, fun h0 => ?_⟩
  obtain ⟨b, off, hA, hb, hc⟩ := h4 h0
  exact ⟨b, off, hA, hb, fun i x hx => hc i _ (by rw [List.getElem?_map, hx]; rfl)⟩

theorem Bs.mk {w : World} {A : Option Addr} {n c : Nat} {l : List UInt8} (hn : l.length = n) (h1 : n ≤ c) (h2 : c ≤ maxLen) (h3 : A = none → c = 0)
    (h4 : 0 < l.length → ∃ b off, A = some ⟨b, off, none⟩ ∧ b < w.heap.size ∧ ∀ i x, l[i]? = some x → w.cell? ⟨b, off + i, none⟩ = some (.int .u8 (x.toNat : Int))) : Bs w (.slice A n c) l := by
  subst hn
  refine ⟨A, c, by simp, by simpa using h1, h2, h3, fun h0 => ?_⟩
  obtain ⟨b, off, hA, hb, hc⟩ := h4 (by simpa using h0)
  refine ⟨b, off, hA, hb, fun i x hx => ?_⟩
  rw [List.getElem?_map] at hx
  cases hl : l[i]? with
  | none => rw [hl] at hx; cases hx
  | some y => rw [hl] at hx; injection hx with hx; rw [← hx]; exact hc i y hl
theorem Sl.alloc_ (w : World) {xs : List Value} {C : Array Value} (T : TypeId) (fr : Nat × Nat) {n c : Nat} (hC : C.toList = xs) (hn : xs.length = n) (h1 : n ≤ c) (h2 : c ≤ maxLen) :
    Sl (w.alloc (.cells C T fr)) (.slice (some ⟨w.heap.size, 0, none⟩) n c) xs := by
  subst hn
  refine ⟨_, c, rfl, h1, h2, by simp, fun _ => ⟨w.heap.size, 0, rfl, by simp, fun i x hx => ?_⟩⟩
  rw [World.cell?_alloc_mark, Nat.zero_add, ← hx, ← hC]
  simp
theorem Bs.alloc_ (w : World) {l : List UInt8} {C : Array Value} (T : TypeId) (fr : Nat × Nat) {n c : Nat} (hC : C.toList = l.map bv) (hn : l.length = n) (h1 : n ≤ c) (h2 : c ≤ maxLen) :
    Bs (w.alloc (.cells C T fr)) (.slice (some ⟨w.heap.size, 0, none⟩) n c) l := Sl.alloc_ w T fr hC (by simpa using hn) h1 h2

theorem ext_alloc (w : World) (o : Obj) : Ext w (w.alloc o) := (Below.refl _ _).alloc (Nat.le_refl _) o
theorem ext_drew (w : World) : Ext w w.drew := (Below.refl _ _).drew
end Go.Proofs.Ytakgmoejgcaopaa
