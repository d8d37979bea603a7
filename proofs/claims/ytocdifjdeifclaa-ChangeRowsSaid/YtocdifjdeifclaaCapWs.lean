/-
  Layer 19: writes in memory of their own; a block of changes.
-/
import Derived.Test.YtocdifjdeifclaaCapPlain
import Derived.RangeFuncRecord
namespace Go.Proofs.Ytocdifjdeifclaa
open Go Go.RowKit Mono Num
set_option linter.unusedVariables false
set_option linter.unusedSimpArgs false
set_option maxRecDepth 100000

/-- Writes in memory of their own. -/
def WsO (w : World) (v : Value) (l : List Wr) : Prop := w.ownsRow 0 31 4 v l.length (wrsC l) ∧ ∀ x ∈ l, x.fits
theorem WsO.ws {w : World} {v : Value} {l : List Wr} (h : WsO w v l) : Ws w v l := ws_of_rowC h.1 h.2
theorem WsO.grown {w w' : World} {v : Value} {l : List Wr} {row : Option Nat} (h : WsO w v l) (hg : w.grownBy w' row) (hr : ∀ j, row = some j → ∃ T, T ≠ 31 ∧ ∃ C fz, w.heap[j]? = some (Obj.cells C T fz)) : WsO w' v l :=
  ⟨row_apart h.1 hg (fun j C fz e hj => by
    obtain ⟨T, hT, C', fz', h'⟩ := hr j e
    rw [hj] at h'
    injection h' with h'
    injection h' with _ h'
    exact hT h'.symm), h.2⟩
theorem WsO.ext {w w' : World} {v : Value} {l : List Wr} (h : WsO w v l) (he : Ext w w') : WsO w' v l :=
  h.grown (row := none) ⟨he.os, he.tape, he.output, he.size, fun k hk _ => he.block k hk⟩ (fun j e => by cases e)

theorem gb_setC (w : World) (b i : Nat) (v : Value) : w.grownBy (w.setCell ⟨b, i, none⟩ v) (some b) :=
  ⟨rfl, rfl, rfl, by simp, fun k _ hn => Below.heap_setCell w ⟨b, i, none⟩ v k (fun e => hn (by rw [e]))⟩
/-- A block of changes. -/
def BlkC (w : World) (b : Nat) : Prop := ∃ C fz, w.heap[b]? = some (Obj.cells C 29 fz)
theorem BlkC.ext {w w' : World} {b : Nat} (h : BlkC w b) (he : Ext w w') : BlkC w' b := by
  obtain ⟨C, fz, h⟩ := h
  exact ⟨C, fz, (he.block b (Array.getElem?_eq_some_iff.1 h).1).trans h⟩
theorem BlkC.new (w : World) (C : Array Value) : BlkC (w.alloc (.cells C 29)) w.heap.size := ⟨C, _, World.alloc_heap_new _ _⟩
theorem BlkC.set {w : World} {b : Nat} (h : BlkC w b) (a : Addr) (v : Value) (ha : a.block ≠ b) : BlkC (w.setCell a v) b := by
  obtain ⟨C, fz, h⟩ := h
  exact ⟨C, fz, (Below.heap_setCell w a v b (fun e => ha e.symm)).trans h⟩
/-- A row from further down is one from the first block on. -/
theorem row_zero {w : World} {base sz n : Nat} {e : TypeId} {v : Value} {xs : List Value} (h : w.ownsRow base e sz v n xs) : w.ownsRow 0 e sz v n xs :=
  ⟨h.1, h.2.imp id (fun ⟨g, cap, cur, h1, _, h3⟩ => ⟨g, cap, cur, h1, Nat.zero_le _, h3⟩)⟩
theorem WsO.nil_ (w : World) : WsO w (.slice none 0 0) [] := ⟨⟨rfl, .inl ⟨rfl, rfl⟩⟩, by simp⟩
end Go.Proofs.Ytocdifjdeifclaa
