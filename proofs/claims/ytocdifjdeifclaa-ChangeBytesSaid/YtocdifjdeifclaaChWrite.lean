/-
  The reader of changes: a write.
-/
import Derived.Test.YtocdifjdeifclaaChRead
namespace Go.Proofs.Ytocdifjdeifclaa
open Go Go.RowKit Mono Num
set_option linter.unusedVariables false
set_option linter.unusedSimpArgs false
set_option maxRecDepth 10000

/-- What stands in a block of the call's own while the reader reads on. -/
structure Own (w0 w : World) (rb wb : Nat) (L : List Value) : Prop where
  blk : Blk w wb L
  ne : rb ≠ wb
  own : w0.heap.size ≤ wb
theorem Own.gb {w0 w w' : World} {rb wb : Nat} {L : List Value} (h : Own w0 w rb wb L) (hg : w.grownBy w' (some rb)) : Own w0 w' rb wb L := ⟨h.blk.gb hg (fun e => h.ne e.symm), h.ne, h.own⟩
theorem Own.set {w0 w : World} {rb wb : Nat} {L : List Value} (h : Own w0 w rb wb L) (i : Nat) (x : Value) : Own w0 (w.setCell ⟨wb, i, none⟩ x) rb wb (L.set i x) := ⟨h.blk.set i x, h.ne, h.own⟩
theorem Rdr.at_ {w0 w : World} {rb : Nat} {v : Value} {a : Nat} {bad : Bool} (h : Rdr w0 w rb v a bad) {wb : Nat} {L : List Value} (k : Own w0 w rb wb L) (i : Nat) (x : Value) : Rdr w0 (w.setCell ⟨wb, i, none⟩ x) rb v a bad := h.apart i x k.ne k.own
/-- New memory, writes to the reader's block, and to a block that was not there. -/
theorem gb_new {w w1 w' : World} {rb wb : Nat} (h : w.grownBy w1 (some rb)) (i : Nat) (x : Value) (hn : w.heap.size ≤ wb) (h' : w' = w1.setCell ⟨wb, i, none⟩ x) : w.grownBy w' (some rb) := by
  subst h'
  exact ⟨h.os, h.tape, h.output, by simpa using h.size, fun j hj hne => (Below.heap_setCell w1 ⟨wb, i, none⟩ x j (by show j ≠ wb; omega)).trans (h.block j hj hne)⟩
theorem close4 {w0 w w1 : World} {rb wb : Nat} {v : Value} {a : Nat} {bad : Bool} {y0 y1 y2 y3 : Value} (H : Rdr w0 w1 rb v a bad) (HO : Own w0 w1 rb wb [y0, y1, y2, y3]) (HG : w.grownBy w1 (some rb)) (HW : w.heap.size ≤ wb) (x0 x1 x2 x3 : Value) :
    Rdr w0 ((((w1.setCell ⟨wb, 0, none⟩ x0).setCell ⟨wb, 1, none⟩ x1).setCell ⟨wb, 2, none⟩ x2).setCell ⟨wb, 3, none⟩ x3) rb v a bad ∧ w.grownBy ((((w1.setCell ⟨wb, 0, none⟩ x0).setCell ⟨wb, 1, none⟩ x1).setCell ⟨wb, 2, none⟩ x2).setCell ⟨wb, 3, none⟩ x3) (some rb) ∧
      Blk ((((w1.setCell ⟨wb, 0, none⟩ x0).setCell ⟨wb, 1, none⟩ x1).setCell ⟨wb, 2, none⟩ x2).setCell ⟨wb, 3, none⟩ x3) wb [x0, x1, x2, x3] :=
  ⟨(((H.at_ HO 0 x0).at_ (HO.set 0 x0) 1 x1).at_ ((HO.set 0 x0).set 1 x1) 2 x2).at_ (((HO.set 0 x0).set 1 x1).set 2 x2) 3 x3,
   gb_new (gb_new (gb_new (gb_new HG 0 x0 HW rfl) 1 x1 HW rfl) 2 x2 HW rfl) 3 x3 HW rfl, ((((HO.set 0 x0).set 1 x1).set 2 x2).set 3 x3).blk⟩

set_option maxHeartbeats 4000000 in
theorem rdwrite_any (w0 w : World) (rb : Nat) (A : Option Addr) (c : Nat) (b : List UInt8) (at_ : Nat) (bad : Bool) (h : Rdr w0 w rb (.slice A b.length c) at_ bad) (hb : Bs w0 (.slice A b.length c) b) (hat : at_ ≤ b.length) (hbl : b.length ≤ 100000) :
    Calls Try.prog 52 #[.pointer (some ⟨rb, 0, none⟩)] w fun en w' => en = .returned (.agg #[strV (rdWrite b (at_, bad)).1.key, .int .i64 (rdWrite b (at_, bad)).1.group, .bool (rdWrite b (at_, bad)).1.gone, strV (rdWrite b (at_, bad)).1.value]) ∧
      Rdr w0 w' rb (.slice A b.length c) (rdWrite b (at_, bad)).2.1 (rdWrite b (at_, bad)).2.2 ∧ w.grownBy w' (some rb) := by
  have HB := Lib.hid hb
  clear hb
  have i1 := (rdText_in b 32 (at_, bad) hat).1
  have T1 := Lib.hid (fun w h => rtext_any w0 w rb A c b 32 at_ bad h HB.out hat hbl (by omega))
  have hw1 : rdWrite b (at_, bad) = rdWrite b (at_, bad) := rfl
  unfold rdWrite
  dsimp only
  clear hw1
  generalize rdText b 32 (at_, bad) = t1 at *
  obtain ⟨k, a1, b1⟩ := t1
  dsimp only at *
  have i2 := rdNum_in b (a1, b1) i1
  have T2 := Lib.hid (fun w h => rnum_any w0 w rb A c b a1 b1 h HB.out i1 hbl)
  generalize rdNum b (a1, b1) = t2 at *
  obtain ⟨g, a2, b2⟩ := t2
  dsimp only at *
  have i3 := rdNum_in b (a2, b2) i2.1
  have T3 := Lib.hid (fun w h => rnum_any w0 w rb A c b a2 b2 h HB.out i2.1 hbl)
  generalize rdNum b (a2, b2) = t3 at *
  obtain ⟨t, a3, b3⟩ := t3
  dsimp only at *
  have i4 := (rdText_in b 64 (a3, b3) i3.1).1
  have T4 := Lib.hid (fun w h => rtext_any w0 w rb A c b 64 a3 b3 h HB.out i3.1 hbl (by omega))
  generalize rdText b 64 (a3, b3) = t4 at *
  obtain ⟨z, a4, b4⟩ := t4
  dsimp only at *
  unfold strV at T1 T4
  have hrb := h.blk.lt
  have hsz := h.ext.size
  have H := Lib.hid (h.more (ext_alloc w (.cells #[.string ⟨#[]⟩, .int .i64 0, .bool false, .string ⟨#[]⟩] 31)))
  have HO := Lib.hid (⟨Blk.new w #[.string ⟨#[]⟩, .int .i64 0, .bool false, .string ⟨#[]⟩] 31, Nat.ne_of_lt hrb, hsz⟩ : Own w0 (w.alloc (.cells #[.string ⟨#[]⟩, .int .i64 0, .bool false, .string ⟨#[]⟩] 31)) rb w.heap.size [.string ⟨#[]⟩, .int .i64 0, .bool false, .string ⟨#[]⟩])
  have HG := Lib.hid (gb_ext (ext_alloc w (.cells #[.string ⟨#[]⟩, .int .i64 0, .bool false, .string ⟨#[]⟩] 31)) (some rb))
  clear h hrb hsz
  go_enter Try.func52, Try.ntmps52
  go_wp2_with fail
  generalize w.alloc (.cells #[.string ⟨#[]⟩, .int .i64 0, .bool false, .string ⟨#[]⟩] 31) = W at *
  obtain ⟨wb, hwb⟩ : ∃ n, n = w.heap.size := ⟨_, rfl⟩
  rw [← hwb] at HO ⊢
  have HW := Lib.hid (show w.heap.size ≤ wb by omega)
  clear hwb
  refine (T1.out _ H.out).mono ?_
  rintro en w1 ⟨rfl, h1, hg1⟩
  have HO1 := Lib.hid (HO.out.gb hg1)
  have HG1 := Lib.hid (gb_trans HG.out hg1)
  have H1 := Lib.hid h1
  clear h1 hg1 H HO HG
  go_wp2_with fail
  refine (T2.out _ H1.out).mono ?_
  rintro en w2 ⟨rfl, h2, hg2⟩
  have HO2 := Lib.hid (HO1.out.gb hg2)
  have HG2 := Lib.hid (gb_trans HG1.out hg2)
  have H2 := Lib.hid h2
  clear h2 hg2 H1 HO1 HG1
  have bw := HO2.out.blk
  have c0 := bw.cell (i := 0) rfl
  have c1 := bw.cell (i := 1) rfl
  have c2 := bw.cell (i := 2) rfl
  have c3 := bw.cell (i := 3) rfl
  have z0 := bw.thaw 0
  have z1 := bw.thaw 1
  have z2 := bw.thaw 2
  have z3 := bw.thaw 3
  clear bw
  go_wp2_with fail
  clear c0 c1 c2 c3 z0 z1 z2 z3
  have HO3 := Lib.hid ((HO2.out.set 0 (.string ⟨k.toArray⟩)).set 1 (.int .i64 (g : Int)))
  have H3 := Lib.hid ((H2.out.at_ HO2.out 0 (.string ⟨k.toArray⟩)).at_ (HO2.out.set 0 (.string ⟨k.toArray⟩)) 1 (.int .i64 (g : Int)))
  have HG3 := Lib.hid (gb_new (gb_new HG2.out 0 (.string ⟨k.toArray⟩) HW.out rfl) 1 (.int .i64 (g : Int)) HW.out rfl)
  clear H2 HO2 HG2
  generalize (w2.setCell ⟨wb, 0, none⟩ (.string ⟨k.toArray⟩)).setCell ⟨wb, 1, none⟩ (.int .i64 (g : Int)) = W3 at *
  refine (T3.out _ H3.out).mono ?_
  rintro en w3 ⟨rfl, h4, hg4⟩
  have HO4 := Lib.hid (HO3.out.gb hg4)
  have HG4 := Lib.hid (gb_trans HG3.out hg4)
  have H4 := Lib.hid h4
  clear h4 hg4 H3 HO3 HG3
  by_cases ht0 : t = 0
  · subst ht0
    go_wp2_with fail
    refine (T4.out _ H4.out).mono ?_
    rintro en w4 ⟨rfl, h5, hg5⟩
    have HO5 := Lib.hid (HO4.out.gb hg5)
    have HG5 := Lib.hid (gb_trans HG4.out hg5)
    have H5 := Lib.hid h5
    clear h5 hg5 H4 HO4 HG4
    have bw := HO5.out.blk
    have c0 := bw.cell (i := 0) rfl
    have c1 := bw.cell (i := 1) rfl
    have c2 := bw.cell (i := 2) rfl
    have c3 := bw.cell (i := 3) rfl
    have z0 := bw.thaw 0
    have z1 := bw.thaw 1
    have z2 := bw.thaw 2
    have z3 := bw.thaw 3
    go_wp2_with fail
    obtain ⟨hr, hgf, bf⟩ := close4 (H5.out.at_ HO5.out 3 (.string ⟨z.toArray⟩)) (HO5.out.set 3 (.string ⟨z.toArray⟩)) (gb_new HG5.out 3 (.string ⟨z.toArray⟩) HW.out rfl) HW.out (.string ⟨k.toArray⟩) (.int .i64 (g : Int)) (.bool false) (.string ⟨z.toArray⟩)
    have d0 := bf.cell (i := 0) rfl
    have d1 := bf.cell (i := 1) rfl
    have d2 := bf.cell (i := 2) rfl
    have d3 := bf.cell (i := 3) rfl
    exact bodyPost_ret (v := .agg #[.string ⟨k.toArray⟩, .int .i64 (g : Int), .bool false, .string ⟨z.toArray⟩]) (by simp [results, Try.results52, d0, d1, d2, d3, go_sem]) rfl ⟨rfl, hr, hgf⟩
  · by_cases ht1 : t = 1
    · subst ht1
      clear ht0
      have bw := HO4.out.blk
      have c0 := bw.cell (i := 0) rfl
      have c1 := bw.cell (i := 1) rfl
      have c2 := bw.cell (i := 2) rfl
      have c3 := bw.cell (i := 3) rfl
      have z0 := bw.thaw 0
      have z1 := bw.thaw 1
      have z2 := bw.thaw 2
      have z3 := bw.thaw 3
      go_wp2_with fail
      obtain ⟨hr, hgf, bf⟩ := close4 (H4.out.at_ HO4.out 2 (.bool true)) (HO4.out.set 2 (.bool true)) (gb_new HG4.out 2 (.bool true) HW.out rfl) HW.out (.string ⟨k.toArray⟩) (.int .i64 (g : Int)) (.bool true) (.string ⟨([] : List UInt8).toArray⟩)
      have d0 := bf.cell (i := 0) rfl
      have d1 := bf.cell (i := 1) rfl
      have d2 := bf.cell (i := 2) rfl
      have d3 := bf.cell (i := 3) rfl
      exact bodyPost_ret (v := .agg #[.string ⟨k.toArray⟩, .int .i64 (g : Int), .bool true, .string ⟨([] : List UInt8).toArray⟩]) (by simp [results, Try.results52, d0, d1, d2, d3, go_sem]) rfl ⟨rfl, hr, hgf⟩
    · have N0 := Lib.hid ht0
      have N1 := Lib.hid ht1
      have e0 : ((t : Int) == 0) = false := by rw [beq_eq_false_iff_ne]; omega
      have e1 : ((t : Int) == 1) = false := by rw [beq_eq_false_iff_ne]; omega
      clear ht0 ht1
      have HR : Hid (Rdr w0 (w3.setCell ⟨rb, 2, none⟩ (.bool true)) rb (.slice A b.length c) a3 true) := Lib.hid ⟨H4.out.blk.set 2 (.bool true), H4.out.ext.setCell (p := ⟨rb, 2, none⟩) H4.out.own _, H4.out.own⟩
      have HO5 : Hid (Own w0 (w3.setCell ⟨rb, 2, none⟩ (.bool true)) rb wb _) := Lib.hid ⟨HO4.out.blk.apart (a := ⟨rb, 2, none⟩) (.bool true) (fun e => HO4.out.ne e.symm), HO4.out.ne, HO4.out.own⟩
      have HG5 := Lib.hid (gb_trans HG4.out (gb_set w3 rb 2 (.bool true)))
      have r2 := H4.out.blk.cell (i := 2) rfl
      have rz := H4.out.blk.thaw 2
      have bw := HO5.out.blk
      have c0 := bw.cell (i := 0) rfl
      have c1 := bw.cell (i := 1) rfl
      have c2 := bw.cell (i := 2) rfl
      have c3 := bw.cell (i := 3) rfl
      have z0 := bw.thaw 0
      have z1 := bw.thaw 1
      have z2 := bw.thaw 2
      have z3 := bw.thaw 3
      go_wp2_with fail
      obtain ⟨hr, hgf, bf⟩ := close4 HR.out HO5.out HG5.out HW.out (.string ⟨k.toArray⟩) (.int .i64 (g : Int)) (.bool false) (.string ⟨([] : List UInt8).toArray⟩)
      have d0 := bf.cell (i := 0) rfl
      have d1 := bf.cell (i := 1) rfl
      have d2 := bf.cell (i := 2) rfl
      have d3 := bf.cell (i := 3) rfl
      refine bodyPost_ret (v := .agg #[.string ⟨k.toArray⟩, .int .i64 (g : Int), .bool false, .string ⟨([] : List UInt8).toArray⟩]) (by simp [results, Try.results52, d0, d1, d2, d3, go_sem]) rfl ?_
      exact ⟨rfl, hr, hgf⟩
end Go.Proofs.Ytocdifjdeifclaa
