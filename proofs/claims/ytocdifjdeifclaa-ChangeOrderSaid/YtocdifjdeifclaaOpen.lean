/-
  What comes in, opened: bytes, integers.
-/
import Derived.Test.YtocdifjdeifclaaMem
import Derived.Test.YtocdifjdeifclaaRows
import Derived.ProofKit
import Derived.OpenShut
import Derived.ShutString
import Derived.ChangeOld
namespace Go.Proofs.Ytocdifjdeifclaa
open Go.ChangeShapes Go.WideShapes Go.ChangeAt Go.RowKit

theorem own : ownKnob Try.prog.godebug = none := by kernel_rfl
theorem laidOut : laidOutB Try.prog = true := by kernel_rfl

theorem u8_of_wf {n : Int} (h : (Lit.int .u8 n).wf = true) : 0 ≤ n ∧ n < 256 := by
  have := bounds_u8 h; omega

/-- Bytes that came in read as a list. -/
theorem bs_of_cells {w : World} {x : Addr} {len cap : Nat} {zs : List Int} (hl : len ≤ cap) (hm : cap ≤ maxLen) (hz : zs.length = cap)
    (hcell : ∀ i, i < zs.length → w.cell? (x.add i) = some (.int .u8 (zs.getD i 0))) (hwz : ∀ n ∈ zs, (Lit.int .u8 n).wf = true) : ∃ l, Bs w (.slice (some x) len cap) l := by
  refine ⟨(zs.take len).map fun n => UInt8.ofNat n.toNat, Bs.mk (by simp; omega) hl hm (by simp) fun h0 => ?_⟩
  have hlen : 0 < len := by
    rcases Nat.eq_zero_or_pos len with h | h
    · subst h; simp at h0
    · exact h
  obtain ⟨b, off, spot⟩ := x
  have hc := hcell 0 (by omega)
  have hspot : spot = none := by simpa [Addr.add] using World.cell?_spot hc
  subst hspot
  have hb : b < w.heap.size := by
    rcases Nat.lt_or_ge b w.heap.size with h | h
    · exact h
    · simp [World.cell?, Addr.add, Array.getElem?_eq_none h] at hc
  refine ⟨b, off, rfl, hb, fun i y hy => ?_⟩
  rw [List.getElem?_map] at hy
  cases hi : (zs.take len)[i]? with
  | none => rw [hi] at hy; cases hy
  | some n =>
    rw [hi] at hy
    injection hy with hy
    rw [List.getElem?_take] at hi
    split at hi
    · rename_i hil
      have hiz : i < zs.length := by omega
      have h1 := hcell i hiz
      have hn : zs.getD i 0 = n := by simp [hi]
      rw [hn] at h1
      have hmem : n ∈ zs := List.mem_of_getElem? hi
      have hb2 := u8_of_wf (hwz n hmem)
      have hadd : (⟨b, off, none⟩ : Addr).add i = ⟨b, off + i, none⟩ := by
        unfold Addr.add; by_cases h : i = 0 <;> simp [h]
      rw [hadd] at h1
      rw [h1, ← hy]
      congr 2
      rw [UInt8.toNat_ofNat']
      omega
    · cases hi
theorem int_of_wf {n : Int} (h : (Lit.int .i64 n).wf = true) : -9223372036854775808 ≤ n ∧ n ≤ 9223372036854775807 := by
  have := bounds_i64 h; omega
theorem u32_of_wf {n : Int} (h : (Lit.int .u32 n).wf = true) : ∃ x : BitVec 32, n = ((x.toNat : Nat) : Int) := by
  have hb := bounds_u32 h
  refine ⟨BitVec.ofNat 32 n.toNat, ?_⟩
  rw [BitVec.toNat_ofNat]
  omega
/-- Integers that came in read as a list. -/
theorem is_of_cells {w : World} {x : Addr} {len cap : Nat} {zs : List Int} (hl : len ≤ cap) (hm : cap ≤ maxLen) (hz : zs.length = cap)
    (hcell : ∀ i, i < zs.length → w.cell? (x.add i) = some (.int .i64 (zs.getD i 0))) (hwz : ∀ n ∈ zs, (Lit.int .i64 n).wf = true) : ∃ l, Is w (.slice (some x) len cap) l := by
  refine ⟨zs.take len, ⟨some x, cap, by simp; omega, by simp; omega, hm, by simp, fun h0 => ?_⟩, fun n hn => int_of_wf (hwz n (List.mem_of_mem_take hn))⟩
  have hlen : 0 < len := by
    rcases Nat.eq_zero_or_pos len with h | h
    · subst h; simp at h0
    · exact h
  obtain ⟨b, off, spot⟩ := x
  have hc := hcell 0 (by omega)
  have hspot : spot = none := by simpa [Addr.add] using World.cell?_spot hc
  subst hspot
  have hb : b < w.heap.size := by
    rcases Nat.lt_or_ge b w.heap.size with h | h
    · exact h
    · simp [World.cell?, Addr.add, Array.getElem?_eq_none h] at hc
  refine ⟨b, off, rfl, hb, fun i y hy => ?_⟩
  rw [List.getElem?_map] at hy
  cases hi : (zs.take len)[i]? with
  | none => rw [hi] at hy; cases hy
  | some n =>
    rw [hi] at hy
    injection hy with hy
    rw [List.getElem?_take] at hi
    split at hi
    · rename_i hil
      have h1 := hcell i (by omega)
      have hn : zs.getD i 0 = n := by simp [hi]
      have hadd : (⟨b, off, none⟩ : Addr).add i = ⟨b, off + i, none⟩ := by
        unfold Addr.add; by_cases h : i = 0 <;> simp [h]
      rw [hn, hadd] at h1
      rw [h1, ← hy]
      rfl
    · cases hi
end Go.Proofs.Ytocdifjdeifclaa
