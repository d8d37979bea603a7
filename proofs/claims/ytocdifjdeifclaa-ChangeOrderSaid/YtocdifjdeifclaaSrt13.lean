/-
  Layer 12: sort.Slice at a row of writes, as Canon calls it.
-/
import Derived.Test.YtocdifjdeifclaaSrt10
import Derived.Test.YtocdifjdeifclaaSrt12
import Derived.Test.YtocdifjdeifclaaSrtShelf
import Derived.Shelf.GgSortFunc.Tiny
namespace Go.Proofs.Ytocdifjdeifclaa
open Go Go.RowKit Mono Go.Sort Go.Lib
set_option linter.unusedVariables false
set_option linter.unusedSimpArgs false
set_option maxRecDepth 100000
set_option maxHeartbeats 400000

noncomputable def wrsT : TypeInfo := (Try.prog.info? 27).get (by kernel_rfl)
theorem gl6_14 : Try.gl6_ren.f 14 = 86 := by kernel_rfl
theorem gl6_6 : Try.gl6_ren.f 6 = 62 := by kernel_rfl
noncomputable def wrsE : TypeInfo := (Try.prog.info? 31).get (by kernel_rfl)
theorem wrsK (n : Nat) (h2 : 2 ≤ n) : swapperK n wrsE 25 = 9 := by
  have a : wrsE.hasPointers = true := by kernel_rfl
  have b : (wrsE.bytes == 8) = false := by kernel_rfl
  have c : (n == 0) = false := by simp; omega
  have d : (n == 1) = false := by simp; omega
  simp [swapperK, a, b, c, d]
theorem bitLen_lt (n : Nat) (h : n < 4611686018427387904) : Go.Lib.bitLen n < 4611686018427387904 := by
  have := Go.Lib.bitLen_le n 64 (Nat.le_refl _) (by omega)
  omega
theorem srtW {blk off n c ob : Nat} {W W2 : World} (hx : Ext W W2) (hn : n < 4611686018427387904) (hb : blk < W.heap.size) (ho : Blk W ob [.slice (some ⟨blk, off, none⟩) n c]) (hob : ob ≠ blk) :
    Srt W2 ob 98 #[.slice (some ⟨blk, off, none⟩) n c, typeHandle Try.prog 31] blk off n := by
  refine ⟨Nat.lt_of_lt_of_le hb hx.size, hn, fun Wk dk hk hrk hsk i j hi hj => canonLess_any dk Wk (Nat.lt_of_lt_of_le hb (Nat.le_trans hx.size hk.size)) hrk hsk (hk.blk (ho.ext hx) hob) i j hi hj, ?_⟩
  exact swapSwapsK_of_literal false _ (fun args W => run_callFunc_extern Try.func98 (by kernel_rfl) (by kernel_rfl) (by kernel_rfl) (e := Extern.ReflectliteSwapper.swap false) (by kernel_rfl) args W) 31 wrsE (by kernel_rfl) wrE 4 wrE_len (by kernel_rfl) (fun _ => by kernel_rfl) wrE_one blk off n c
theorem sortPdq {blk off n c ob : Nat} {d : Array Wr} {W W2 : World} (hx : Ext W W2) (hn : n < 4611686018427387904) (hb : blk < W.heap.size) (hr : HR blk off W d) (hs : d.size = n) (ho : Blk W ob [.slice (some ⟨blk, off, none⟩) n c]) (hob : ob ≠ blk) :
    Calls Try.prog 86 #[.agg #[.func (.func 63) #[] #[.pointer (some ⟨ob, 0, none⟩)], .func (.func 98) #[] #[.slice (some ⟨blk, off, none⟩) n c, typeHandle Try.prog 31]], .int .i64 0, .int .i64 (n : Int), .int .i64 (Go.Lib.bitLen n : Int)] W2
      fun e w' => e = .returned (.tuple #[]) ∧ ∃ d', PermIn 0 n d d' ∧ SortedIn wahead 0 n d' ∧ Rb blk W w' ∧ HR blk off w' d' := by
  have S := srtW hx hn hb ho hob
  have h0 : St W2 blk off n d W2 := ⟨Rb.refl _ _, hr.ext hx hb, hs⟩
  have hbe : Below wahead 0 n d := Or.inl rfl
  refine (sPdq_any S wah_swo (n + 1) 0 n (Go.Lib.bitLen n) d W2 (by omega) h0 (Nat.zero_le _) (Nat.le_refl _) (bitLen_lt n hn) hbe).mono ?_
  rintro e w' ⟨rfl, hk, hst⟩
  obtain ⟨p1, p2⟩ := pdq_sorts wahead wah_swo d 0 n (Go.Lib.bitLen n) true true (Nat.zero_le _) (by rw [hs]; exact Nat.le_refl _) hbe
  exact ⟨rfl, _, p1, p2, (Rb.of_ext hx).trans hk, hst.row⟩
theorem sortOf {p : Option Addr} {n c : Nat} (h2 : 2 ≤ n) (hn : n < 4611686018427387904) (lf : Fn) (lb : Array Value) (W : World) (R : World → Prop)
    (hp : Calls Try.prog 86 #[.agg #[.func lf #[] lb, .func (.func 98) #[] #[.slice p n c, typeHandle Try.prog 31]], .int .i64 0, .int .i64 (n : Int), .int .i64 (Go.Lib.bitLen n : Int)] (sliceWorld Try.prog Try.gl6_ren 27 p n c W) fun e w' => e = .returned (.tuple #[]) ∧ R w') :
    Calls Try.prog 62 #[.iface 27 (.slice p n c), .func lf #[] lb] W fun e w' => e = .returned (.tuple #[]) ∧ R w' := by
  have K := Any.sort_Slice_of_pdq Try.gl6 27 31 wrsT wrsE (by kernel_rfl) (by kernel_rfl) (by kernel_rfl) (by kernel_rfl) 25 (fun _ => by kernel_rfl) p n c hn 98 (by rw [wrsK n h2]; kernel_rfl) lf #[] lb W R
  have hB : sliceBound Try.prog 31 wrsE 25 p n c = #[.slice p n c, typeHandle Try.prog 31] := by
    unfold sliceBound; rw [wrsK n h2, if_neg (by decide)]
  rw [hB, gl6_14, gl6_6] at K
  exact K hp
theorem sortWrites_any {blk off n c ob : Nat} (d : Array Wr) (W : World) (h2 : 2 ≤ n) (hn : n < 4611686018427387904) (hb : blk < W.heap.size) (hr : HR blk off W d) (hs : d.size = n) (ho : Blk W ob [.slice (some ⟨blk, off, none⟩) n c]) (hob : ob ≠ blk) :
    Calls Try.prog 62 #[.iface 27 (.slice (some ⟨blk, off, none⟩) n c), .func (.func 63) #[] #[.pointer (some ⟨ob, 0, none⟩)]] W
      fun e w' => e = .returned (.tuple #[]) ∧ ∃ d', PermIn 0 n d d' ∧ SortedIn wahead 0 n d' ∧ Rb blk W w' ∧ HR blk off w' d' :=
  sortOf h2 hn _ _ W _ (sortPdq (by unfold sliceWorld; exact (ext_alloc _ _).trans (ext_alloc _ _)) hn hb hr hs ho hob)
/-- .. at no write or one. -/
theorem sortTiny_any {p : Option Addr} {n c ob : Nat} (W : World) (h1 : n ≤ 1) (la : Fn) :
    Calls Try.prog 62 #[.iface 27 (.slice p n c), .func la #[] #[.pointer (some ⟨ob, 0, none⟩)]] W
      fun e w' => e = .returned (.tuple #[]) ∧ Ext W w' := by
  obtain ⟨f, hf⟩ : ∃ f, Try.prog.funcs.findIdx? (·.name == "internal/reflectlite" ++ ".Swapper$" ++ toString (swapperK n wrsE 25)) = some f := by
    rcases (show n = 0 ∨ n = 1 by omega) with rfl | rfl
    · exact ⟨90, by kernel_rfl⟩
    · exact ⟨91, by kernel_rfl⟩
  refine (Any.sort_Slice_tiny Try.gl6 27 31 wrsT wrsE (by kernel_rfl) (by kernel_rfl) (by kernel_rfl) (by kernel_rfl) 25 (fun _ => by kernel_rfl) p n c h1 f hf la #[] #[.pointer (some ⟨ob, 0, none⟩)] W).mono ?_
  rintro e w' ⟨rfl, os, rfl⟩
  exact ⟨rfl, rfl, rfl, rfl, by unfold Go.Sort.grow; simp, fun k hk => by unfold Go.Sort.grow; simp [Array.getElem?_append_left hk]⟩
end Go.Proofs.Ytocdifjdeifclaa
