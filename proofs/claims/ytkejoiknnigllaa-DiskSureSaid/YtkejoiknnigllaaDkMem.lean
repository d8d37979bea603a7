/-
  Layer 15: the program's disk in memory; what a call keeps.
-/
import Derived.Test.YtkejoiknnigllaaDkPlain
import Derived.Test.YtkejoiknnigllaaBytes
import Derived.Test.YtkejoiknnigllaaBlk
import Derived.Maps.RangeWalk
import Derived.Maps.StringElems
namespace Go.Proofs.Ytkejoiknnigllaa
open Go Go.RowKit Mono
set_option linter.unusedVariables false

/-- What is not in fp is kept. -/
structure Kb (fp : Nat → Prop) (W W' : World) : Prop where
  os : W'.os = W.os
  tape : W'.tape = W.tape
  output : W'.output = W.output
  size : W.heap.size ≤ W'.heap.size
  block : ∀ k, k < W.heap.size → ¬ fp k → W'.heap[k]? = W.heap[k]?
theorem Kb.refl (fp : Nat → Prop) (W : World) : Kb fp W W := ⟨rfl, rfl, rfl, Nat.le_refl _, fun _ _ _ => rfl⟩
theorem Kb.of_ext {fp : Nat → Prop} {W W' : World} (h : Ext W W') : Kb fp W W' := ⟨h.os, h.tape, h.output, h.size, fun k hk _ => h.block k hk⟩
theorem Kb.ext {fp : Nat → Prop} {W0 W W' : World} (h : Ext W0 W) (k : Kb fp W W') (hf : ∀ b, fp b → W0.heap.size ≤ b) : Ext W0 W' :=
  ⟨k.os.trans h.os, k.tape.trans h.tape, k.output.trans h.output, Nat.le_trans h.size k.size, fun b hb => (k.block b (Nat.lt_of_lt_of_le hb h.size) (fun hp => by have := hf b hp; omega)).trans (h.block b hb)⟩
theorem Kb.trans {fp fp' : Nat → Prop} {W W1 W2 : World} (h : Kb fp W W1) (k : Kb fp' W1 W2) (hf : ∀ b, fp' b → fp b ∨ W.heap.size ≤ b) : Kb fp W W2 :=
  ⟨k.os.trans h.os, k.tape.trans h.tape, k.output.trans h.output, Nat.le_trans h.size k.size, fun b hb hn => (k.block b (Nat.lt_of_lt_of_le hb h.size) (fun hp => by
    rcases hf b hp with h1 | h1
    · exact hn h1
    · omega)).trans (h.block b hb hn)⟩
theorem Kb.grown {W W' : World} {r : Nat} (h : W.grownBy W' (some r)) {fp : Nat → Prop} (hr : fp r) : Kb fp W W' :=
  ⟨h.os, h.tape, h.output, h.size, fun k hk hn => h.block k hk (fun e => by injection e with e; subst e; exact hn hr)⟩
theorem Kb.mono {fp fp' : Nat → Prop} {W W' : World} (h : Kb fp W W') (hf : ∀ b, fp b → fp' b) : Kb fp' W W' := ⟨h.os, h.tape, h.output, h.size, fun k hk hn => h.block k hk fun hp => hn (hf k hp)⟩
/-- Block b is of type T and holds just the cells L. -/
def BlkT (W : World) (b : Nat) (T : TypeId) (L : List Value) : Prop := W.heap[b]? = some (.cells L.toArray T)
theorem BlkT.lt {W : World} {b : Nat} {T : TypeId} {L : List Value} (h : BlkT W b T L) : b < W.heap.size := (Array.getElem?_eq_some_iff.1 h).1
theorem BlkT.blk {W : World} {b : Nat} {T : TypeId} {L : List Value} (h : BlkT W b T L) : Blk W b L := ⟨T, h⟩
theorem BlkT.kb {fp : Nat → Prop} {W W' : World} {b : Nat} {T : TypeId} {L : List Value} (h : BlkT W b T L) (k : Kb fp W W') (hn : ¬ fp b) : BlkT W' b T L := (k.block b h.lt hn).trans h
theorem BlkT.new (W : World) (C : Array Value) (T : TypeId) : BlkT (W.alloc (.cells C T)) W.heap.size T C.toList := by show (W.heap.push _)[W.heap.size]? = _; simp
theorem BlkT.ext {W W' : World} {b : Nat} {T : TypeId} {L : List Value} (h : BlkT W b T L) (he : Ext W W') : BlkT W' b T L := (he.block b h.lt).trans h
theorem BlkT.set {W : World} {b : Nat} {T : TypeId} {L : List Value} (h : BlkT W b T L) (i : Nat) (v : Value) : BlkT (W.setCell ⟨b, i, none⟩ v) b T (L.set i v) := by
  unfold BlkT at *
  simp [World.setCell, Array.getElem?_modify, h]
theorem BlkT.other {W : World} {b : Nat} {T : TypeId} {L : List Value} (h : BlkT W b T L) {a : Addr} (v : Value) (hb : b ≠ a.block) : BlkT (W.setCell a v) b T L := (Below.heap_setCell W a v b hb).trans h
theorem BlkT.ne {W : World} {b b' : Nat} {T T' : TypeId} {L L' : List Value} (h : BlkT W b T L) (h' : BlkT W b' T' L') (hT : T ≠ T') : b ≠ b' := by
  rintro rfl
  unfold BlkT at h h'
  rw [h] at h'
  injection h' with h'
  injection h' with _ h'
  exact hT h'
theorem Kb.set (fp : Nat → Prop) (W : World) (b i : Nat) (v : Value) (hb : fp b) : Kb fp W (W.setCell ⟨b, i, none⟩ v) :=
  ⟨rfl, rfl, rfl, by simp [World.setCell], fun k hk hn => Below.heap_setCell W ⟨b, i, none⟩ v k (fun e => hn (by rw [e]; exact hb))⟩
/-- Bytes to be read, in a row of bytes that lies at or behind z. -/
structure BsT (z : Nat) (W : World) (v : Value) (b : List UInt8) : Prop where
  bs : Bs W v b
  typed : ∀ j, v.ownBlock = some j → z ≤ j ∧ ∃ C fz, W.heap[j]? = some (.cells C 5 fz)
theorem BsT.nil_ (z : Nat) (W : World) : BsT z W (.slice none 0 0) [] := ⟨Bs.nil_ W, fun j h => by cases h⟩
theorem Bs.kb {fp : Nat → Prop} {W W' : World} {v : Value} {b : List UInt8} (h : Bs W v b) (k : Kb fp W W') (hn : ∀ j, v.ownBlock = some j → ¬ fp j) : Bs W' v b := by
  obtain ⟨A, c, rfl, h1, h2, h3, h4⟩ := h.open_
  refine Bs.mk rfl h1 h2 h3 fun h0 => ?_
  obtain ⟨g, off, rfl, hg, hc⟩ := h4 h0
  refine ⟨g, off, rfl, Nat.lt_of_lt_of_le hg k.size, fun i x hx => ?_⟩
  rw [← hc i x hx]
  exact World.cell?_of_block (k.block g hg (hn g rfl))
theorem BsT.kb {fp : Nat → Prop} {z : Nat} {W W' : World} {v : Value} {b : List UInt8} (h : BsT z W v b) (k : Kb fp W W') (hn : ∀ j, v.ownBlock = some j → ¬ fp j) : BsT z W' v b :=
  ⟨h.bs.kb k hn, fun j hj => by
    obtain ⟨h1, C, fz, h2⟩ := h.typed j hj
    exact ⟨h1, C, fz, (k.block j (Array.getElem?_eq_some_iff.1 h2).1 (hn j hj)).trans h2⟩⟩
theorem BsT.ne {z : Nat} {W : World} {v : Value} {b : List UInt8} (h : BsT z W v b) {g : Nat} {T : TypeId} {L : List Value} (hg : BlkT W g T L) (hT : T ≠ 5) : ∀ j, v.ownBlock = some j → j ≠ g := by
  rintro j hj rfl
  obtain ⟨_, C, fz, h2⟩ := h.typed j hj
  unfold BlkT at hg
  rw [hg] at h2
  injection h2 with h2
  injection h2 with _ h2
  exact hT h2
theorem BsT.of_owb {z : Nat} {W : World} {v : Value} {b : List UInt8} (h : OwB W z v b) : BsT z W v b := ⟨h.bs, fun j hj => by
  rcases h.2 with ⟨rfl, _⟩ | ⟨g, cap, cur, rfl, hb, hgb, _⟩
  · cases hj
  · obtain rfl : g = j := by simpa [Value.ownBlock] using hj
    exact ⟨hb, _, _, hgb⟩⟩
end Go.Proofs.Ytkejoiknnigllaa
