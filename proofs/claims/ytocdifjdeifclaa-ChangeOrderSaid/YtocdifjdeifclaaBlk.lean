/-
  Words for memory: a block that holds the cells of a list (a variable of a struct's or an array's type).
-/
import Derived.Test.YtocdifjdeifclaaMem
namespace Go.Proofs.Ytocdifjdeifclaa
open Go.RowKit Mono

/-- Block b holds the cells L. -/
def Blk (w : World) (b : Nat) (L : List Value) : Prop := ∃ T, w.heap[b]? = some (.cells L.toArray T)

theorem Blk.lt {w : World} {b : Nat} {L : List Value} (h : Blk w b L) : b < w.heap.size := by
  obtain ⟨T, h⟩ := h
  exact (Array.getElem?_eq_some_iff.1 h).1
theorem Blk.cell {w : World} {b : Nat} {L : List Value} (h : Blk w b L) {i : Nat} {v : Value} (hi : L[i]? = some v) : w.cell? ⟨b, i, none⟩ = some v := by
  obtain ⟨T, h⟩ := h
  simp [World.cell?, h, hi]
theorem Blk.thaw {w : World} {b : Nat} {L : List Value} (h : Blk w b L) (i : Nat) : w.frozen? ⟨b, i, none⟩ = false := by
  obtain ⟨T, h⟩ := h
  simp [World.frozen?, h]
theorem Blk.below {B : Nat} {w w' : World} {b : Nat} {L : List Value} (h : Blk w b L) (he : Below B w w') (hb : b < B) : Blk w' b L := by
  obtain ⟨T, h⟩ := h
  exact ⟨T, (he.block b hb).trans h⟩
theorem Blk.ext {w w' : World} {b : Nat} {L : List Value} (h : Blk w b L) (he : Ext w w') : Blk w' b L := h.below he h.lt
theorem Blk.new (w : World) (C : Array Value) (T : TypeId) : Blk (w.alloc (.cells C T)) w.heap.size C.toList := ⟨T, by show (w.heap.push _)[w.heap.size]? = _; simp⟩
theorem Blk.set {w : World} {b : Nat} {L : List Value} (h : Blk w b L) (i : Nat) (v : Value) : Blk (w.setCell ⟨b, i, none⟩ v) b (L.set i v) := by
  obtain ⟨T, h⟩ := h
  refine ⟨T, ?_⟩
  simp [World.setCell, Array.getElem?_modify, h]
theorem Blk.apart {w : World} {b : Nat} {L : List Value} (h : Blk w b L) {a : Addr} (v : Value) (hb : b ≠ a.block) : Blk (w.setCell a v) b L := by
  obtain ⟨T, h⟩ := h
  exact ⟨T, (Below.heap_setCell w a v b hb).trans h⟩
theorem Blk.drew {w : World} {b : Nat} {L : List Value} (h : Blk w b L) : Blk w.drew b L := h
theorem Blk.drewN {w : World} {b n : Nat} {L : List Value} (h : Blk w b L) : Blk (w.drewN n) b L := h
end Go.Proofs.Ytocdifjdeifclaa
