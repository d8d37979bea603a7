/-
  Layer 12: the sort's two functions that compare nothing: the kit's contracts.
-/
import Derived.Test.YtocdifjdeifclaaSrt2
import Derived.Test.YtocdifjdeifclaaSrtShelf
import Derived.Shelf.SlSortFuncK.BreakPatternsK
import Derived.Sort.LotB
import Derived.Sort.LotD2
namespace Go.Proofs.Ytocdifjdeifclaa
open Go Go.RowKit Mono Go.Sort
set_option linter.unusedVariables false
set_option linter.unusedSimpArgs false
variable {w0 W W' : World} {ob sf : Nat} {sb : Array Value} {blk off n : Nat} {d d' : Array Wr}

/-- A world of the sort's: nothing but the row is turned. -/
theorem Rb.of_sw {dk : Array Wr} {m : Nat} {os : Array Obj} (hb : blk < W.heap.size) (he : W' = sortWorldK wrE 4 W blk off m dk os) : Rb blk W W' := by
  subst he
  refine ⟨rfl, rfl, rfl, ?_, fun k hk hn => ?_⟩
  · exact SWK.le (dk := dk) (blk := blk) (off := off) (enc := wrE) (k := 4) ⟨m, os, rfl⟩
  · show (grow _ os).heap[k]? = _
    unfold grow
    show ((putRowK wrE 4 (Go.Sort.ahead W m) blk off dk).heap ++ os)[k]? = _
    rw [Array.getElem?_append_left (by rw [size_putRowK]; exact hk)]
    unfold putRowK putRow mapBlock
    simp [Array.getElem?_modify, Ne.symm hn]
theorem St.of_sw (S : Srt w0 ob sf sb blk off n) (h : St w0 blk off n d W) (hs : d'.size = d.size) {m : Nat} {os : Array Obj} (he : W' = sortWorldK wrE 4 W blk off m d' os) : Rb blk W W' ∧ St w0 blk off n d' W' := by
  have hk := Rb.of_sw (dk := d') (h.lt S) he
  exact ⟨hk, h.rb.trans hk, SWK.holds ⟨m, os, he⟩ (h.lt S) h.row hs, hs.trans h.len⟩
theorem sRev_any (S : Srt w0 ob sf sb blk off n) (h : St w0 blk off n d W) {a b : Nat} (hab : a ≤ b) (hb : b ≤ n) :
    Calls Try.prog 105 #[.agg #[.func (.func 63) #[] #[.pointer (some ⟨ob, 0, none⟩)], .func (.func sf) #[] sb], .int .i64 (a : Int), .int .i64 (b : Int)] W
      fun e w' => e = .returned (.tuple #[]) ∧ Rb blk W w' ∧ St w0 blk off n (reverseRange d a b) w' := by
  refine (Any.reverseRange_func_cells_w (P := Try.prog) (ρ := Try.gl6_ren) { Try.gl6 with } wrE 4 wrE_len (.func 63) #[] #[.pointer (some ⟨ob, 0, none⟩)] sf sb blk off a b d W (by rw [h.len]; exact S.swap) h.row (h.lt S) hab (by rw [h.len]; exact hb) (by rw [h.len]; exact S.hn)).mono ?_
  rintro e w' ⟨rfl, m, os, he⟩
  exact ⟨rfl, h.of_sw S (reverseRange_holds d a b hab (by rw [h.len]; exact hb)).1 he⟩
theorem sBrk_any (S : Srt w0 ob sf sb blk off n) (h : St w0 blk off n d W) {a b : Nat} (hab : a ≤ b) (hb : b ≤ n) :
    Calls Try.prog 103 #[.agg #[.func (.func 63) #[] #[.pointer (some ⟨ob, 0, none⟩)], .func (.func sf) #[] sb], .int .i64 (a : Int), .int .i64 (b : Int)] W
      fun e w' => e = .returned (.tuple #[]) ∧ Rb blk W w' ∧ St w0 blk off n (breakPatterns d a b) w' := by
  refine (Any.breakPatterns_func_cells_w (P := Try.prog) (ρ := Try.gl6_ren) { Try.gl6 with } wrE 4 wrE_len (.func 63) #[] #[.pointer (some ⟨ob, 0, none⟩)] sf sb blk off a b d W (by rw [h.len]; exact S.swap) h.row (h.lt S) hab (by rw [h.len]; exact hb) (by rw [h.len]; exact S.hn)).mono ?_
  rintro e w' ⟨rfl, m, os, he⟩
  exact ⟨rfl, h.of_sw S (breakPatterns_holds d a b hab (by rw [h.len]; exact hb)).1 he⟩
end Go.Proofs.Ytocdifjdeifclaa
