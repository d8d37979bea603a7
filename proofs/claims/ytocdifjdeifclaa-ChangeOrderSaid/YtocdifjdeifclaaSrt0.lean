/-
  Layer 12: a row of writes that is sorted by a 'less' that lays blocks: what its calls keep.
-/
import Derived.Test.YtocdifjdeifclaaChGood
import Derived.Shelf.SlSortFuncK.SWK
import Derived.Shelf.GgSortFunc.SmallK
namespace Go.Proofs.Ytocdifjdeifclaa
open Go Go.RowKit Mono Go.Sort
set_option linter.unusedVariables false
set_option linter.unusedSimpArgs false
set_option maxRecDepth 100000

/-- A write's cells. -/
def wrE (x : Wr) : List Value := [strV x.key, .int .i64 x.group, .bool x.gone, strV x.value]
instance wrInh : Inhabited Wr := ⟨⟨[], 0, false, []⟩⟩
theorem wrE_len (x : Wr) : (wrE x).length = 4 := rfl
theorem wrE_one (x : Wr) : ∀ v ∈ wrE x, v.oneCell' = true := by
  intro v hv
  unfold wrE strV at hv
  simp only [List.mem_cons, List.not_mem_nil, or_false] at hv
  rcases hv with rfl | rfl | rfl | rfl <;> rfl
/-- Nothing but one block is turned. -/
structure Rb (b : Nat) (W W' : World) : Prop where
  os : W'.os = W.os
  tape : W'.tape = W.tape
  output : W'.output = W.output
  size : W.heap.size ≤ W'.heap.size
  block : ∀ k, k < W.heap.size → k ≠ b → W'.heap[k]? = W.heap[k]?
theorem Rb.refl (b : Nat) (W : World) : Rb b W W := ⟨rfl, rfl, rfl, Nat.le_refl _, fun _ _ _ => rfl⟩
theorem Rb.trans {b : Nat} {W W1 W2 : World} (h : Rb b W W1) (k : Rb b W1 W2) : Rb b W W2 :=
  ⟨k.os.trans h.os, k.tape.trans h.tape, k.output.trans h.output, Nat.le_trans h.size k.size, fun j hj hn => (k.block j (Nat.lt_of_lt_of_le hj h.size) hn).trans (h.block j hj hn)⟩
theorem Rb.of_ext {b : Nat} {W W' : World} (h : Ext W W') : Rb b W W' := ⟨h.os, h.tape, h.output, h.size, fun k hk _ => h.block k hk⟩
theorem Rb.ext {b : Nat} {W0 W W' : World} (h : Rb b W W') (hx : Ext W0 W) (hb : W0.heap.size ≤ b) : Ext W0 W' :=
  ⟨h.os.trans hx.os, h.tape.trans hx.tape, h.output.trans hx.output, Nat.le_trans hx.size h.size, fun k hk => (h.block k (Nat.lt_of_lt_of_le hk hx.size) (by omega)).trans (hx.block k hk)⟩
theorem Rb.set (b i : Nat) (W : World) (v : Value) : Rb b W (W.setCell ⟨b, i, none⟩ v) :=
  ⟨rfl, rfl, rfl, by simp, fun k _ hn => Below.heap_setCell W ⟨b, i, none⟩ v k hn⟩
theorem Rb.sets (b : Nat) : ∀ (vs : List Value) (i : Nat) (W : World), Rb b W (W.setCells b i vs)
  | [], _, W => Rb.refl b W
  | v :: r, i, W => (Rb.set b i W v).trans (Rb.sets b r (i + 1) _)
theorem Rb.cell {b : Nat} {W W' : World} (h : Rb b W W') {a : Addr} (hl : a.block < W.heap.size) (hn : a.block ≠ b) : W'.cell? a = W.cell? a := World.cell?_of_block (h.block a.block hl hn)
theorem Rb.blk {b c : Nat} {W W' : World} {L : List Value} (h : Rb b W W') (hb : Blk W c L) (hn : c ≠ b) : Blk W' c L := by
  obtain ⟨T, hT⟩ := hb
  exact ⟨T, (h.block c (Array.getElem?_eq_some_iff.1 hT).1 hn).trans hT⟩
abbrev HR (blk off : Nat) (W : World) (d : Array Wr) : Prop := HoldsK wrE 4 W blk off d
theorem HR.ext {blk off : Nat} {W W' : World} {d : Array Wr} (h : HR blk off W d) (he : Ext W W') (hb : blk < W.heap.size) : HR blk off W' d := fun j hj =>
  ⟨(World.cell?_of_block (he.block blk hb)).trans (h j hj).1, (World.frozen?_of_block (he.block blk hb)).trans (h j hj).2⟩
/-- What the sort is told, once: its row, its less, its swap. -/
structure Srt (w0 : World) (ob : Nat) (sf : Nat) (sb : Array Value) (blk off n : Nat) : Prop where
  hblk : blk < w0.heap.size
  hn : n < 4611686018427387904
  less : ∀ (W : World) (dk : Array Wr), Rb blk w0 W → HR blk off W dk → dk.size = n → ∀ i j : Nat, i < n → j < n →
    Calls Try.prog 63 #[.int .i64 (i : Int), .int .i64 (j : Int), .pointer (some ⟨ob, 0, none⟩)] W fun e w' => e = .returned (.bool (wahead dk[i]! dk[j]!)) ∧ Ext W w'
  swap : SwapSwapsK Try.prog sf sb wrE 4 blk off n
/-- What stands in every world of it. -/
structure St (w0 : World) (blk off n : Nat) (d : Array Wr) (W : World) : Prop where
  rb : Rb blk w0 W
  row : HR blk off W d
  len : d.size = n
section
variable {w0 W W' : World} {ob sf : Nat} {sb : Array Value} {blk off n : Nat} {d d' : Array Wr}
theorem St.ext (S : Srt w0 ob sf sb blk off n) (h : St w0 blk off n d W) (he : Ext W W') : St w0 blk off n d W' :=
  ⟨h.rb.trans (Rb.of_ext he), h.row.ext he (Nat.lt_of_lt_of_le S.hblk h.rb.size), h.len⟩
theorem St.lt (S : Srt w0 ob sf sb blk off n) (h : St w0 blk off n d W) : blk < W.heap.size := Nat.lt_of_lt_of_le S.hblk h.rb.size
/-- An exchange. -/
theorem Srt.swp (S : Srt w0 ob sf sb blk off n) (h : St w0 blk off n d W) {i j : Nat} (hi : i < n) (hj : j < n) :
    ∃ W2, (callFunc sf (#[.int .i64 (i : Int), .int .i64 (j : Int)] ++ sb)).run Try.prog W = .ok (.value (.tuple #[])) W2 ∧ Rb blk W W2 ∧ St w0 blk off n (Go.Sort.swp d i j) W2 := by
  have hk : Rb blk W ((W.setCells blk (off + i * 4) (wrE d[j]!)).setCells blk (off + j * 4) (wrE d[i]!)) := (Rb.sets blk _ _ W).trans (Rb.sets blk _ _ _)
  refine ⟨_, S.swap W d h.row h.len i j hi hj, hk, h.rb.trans hk, ?_, by rw [size_swp]; exact h.len⟩
  have hs : SWK wrE 4 W blk off (Go.Sort.swp d i j) ((W.setCells blk (off + i * 4) (wrE d[j]!)).setCells blk (off + j * 4) (wrE d[i]!)) :=
    (SWK.start h.row).swap wrE_len (h.lt S) i j (by rw [h.len]; exact hi) (by rw [h.len]; exact hj)
  exact hs.holds (h.lt S) h.row (by rw [size_swp])
theorem Srt.le (S : Srt w0 ob sf sb blk off n) (h : St w0 blk off n d W) {i j : Nat} (hi : i < n) (hj : j < n) :
    Calls Try.prog 63 #[.int .i64 (i : Int), .int .i64 (j : Int), .pointer (some ⟨ob, 0, none⟩)] W fun e w' => e = .returned (.bool (wahead d[i]! d[j]!)) ∧ Ext W w' := S.less W d h.rb h.row h.len i j hi hj
end
end Go.Proofs.Ytocdifjdeifclaa
