/-
  Layer 12: the sort's functions, over a 'less' that lays blocks: the pivot.
-/
import Derived.Test.YtocdifjdeifclaaSrt2
import Derived.Sort.LotD4
import Derived.Deep.DeepCutAuto
namespace Go.Proofs.Ytocdifjdeifclaa
open Go Go.RowKit Mono Go.Sort
set_option linter.unusedVariables false
set_option linter.unusedSimpArgs false
set_option maxRecDepth 100000
set_option maxHeartbeats 4000000
variable {w0 W W' : World} {ob sf : Nat} {sb : Array Value} {blk off n : Nat} {d d' : Array Wr}

/-- The counter beside the row. -/
structure Cn (w0 : World) (blk off n : Nat) (d : Array Wr) (cb s : Nat) (W : World) : Prop where
  st : St w0 blk off n d W
  cnt : Blk W cb [.int .i64 (s : Int)]
  hc : w0.heap.size ≤ cb
variable {cb s : Nat}
theorem Cn.ext (S : Srt w0 ob sf sb blk off n) (h : Cn w0 blk off n d cb s W) (he : Ext W W') : Cn w0 blk off n d cb s W' := ⟨h.st.ext S he, h.cnt.ext he, h.hc⟩
theorem St.cnt (S : Srt w0 ob sf sb blk off n) (h : St w0 blk off n d W) (hk : Rb cb W W') (hc : w0.heap.size ≤ cb) : St w0 blk off n d W' := by
  have hlt := h.lt S
  have hb := S.hblk
  refine ⟨⟨hk.os.trans h.rb.os, hk.tape.trans h.rb.tape, hk.output.trans h.rb.output, Nat.le_trans h.rb.size hk.size, fun k hkk hn => (hk.block k (Nat.lt_of_lt_of_le hkk h.rb.size) (by omega)).trans (h.rb.block k hkk hn)⟩, ?_, h.len⟩
  intro j hj
  exact ⟨(World.cell?_of_block (hk.block blk hlt (by omega))).trans (h.row j hj).1, (World.frozen?_of_block (hk.block blk hlt (by omega))).trans (h.row j hj).2⟩
theorem Cn.put (S : Srt w0 ob sf sb blk off n) (h : Cn w0 blk off n d cb s W) (t : Nat) : Rb cb W (W.setCell ⟨cb, 0, none⟩ (.int .i64 (t : Int))) ∧ Cn w0 blk off n d cb t (W.setCell ⟨cb, 0, none⟩ (.int .i64 (t : Int))) :=
  ⟨Rb.set cb 0 W _, h.st.cnt S (Rb.set cb 0 W _) h.hc, h.cnt.set 0 _, h.hc⟩
theorem sOrd_any (S : Srt w0 ob sf sb blk off n) (h : Cn w0 blk off n d cb s W) {a b : Nat} (ha : a < n) (hb : b < n) (hs : s < 1000) :
    Calls Try.prog 114 #[.agg #[.func (.func 63) #[] #[.pointer (some ⟨ob, 0, none⟩)], .func (.func sf) #[] sb], .int .i64 (a : Int), .int .i64 (b : Int), .pointer (some ⟨cb, 0, none⟩)] W
      fun e w' => e = .returned (.tuple #[.int .i64 ((order2 wahead d a b s).1 : Int), .int .i64 ((order2 wahead d a b s).2.1 : Int)]) ∧ Rb cb W w' ∧ Cn w0 blk off n d cb (order2 wahead d a b s).2.2 w' := by
  have hn := S.hn
  have HS := Lib.hid S
  have hx := ext_alloc W (.cells #[.func (.func 63) #[] #[.pointer (some ⟨ob, 0, none⟩)], .func (.func sf) #[] sb] 147)
  have HBX := Lib.hid (Blk.new W #[.func (.func 63) #[] #[.pointer (some ⟨ob, 0, none⟩)], .func (.func sf) #[] sb] 147)
  have HC := Lib.hid (h.ext S hx)
  have HX := Lib.hid hx
  have HNB := Lib.hid (show W.heap.size ≠ cb by have := h.cnt.lt; omega)
  have k0 := HBX.out.cell (i := 0) rfl
  have k1 := HBX.out.cell (i := 1) rfl
  clear hx h S
  go_enter Try.func114, Try.ntmps114
  go_wp2_with fail
  obtain ⟨nb, hnb⟩ : ∃ nb, nb = W.heap.size := ⟨_, rfl⟩
  obtain ⟨wb, hwb⟩ : ∃ wb, wb = W.alloc (.cells #[.func (.func 63) #[] #[.pointer (some ⟨ob, 0, none⟩)], .func (.func sf) #[] sb] 147) := ⟨_, rfl⟩
  rw [← hwb] at HBX HC HX k0 k1 ⊢
  rw [← hnb] at HBX HNB k0 k1 ⊢
  clear hwb hnb
  have HLE := Lib.hid (HS.out.le HC.out.st (i := b) (j := a) hb ha)
  obtain ⟨s1, hs1⟩ : ∃ x, x = s + 1 := ⟨_, rfl⟩
  have hws : IntKind.i64.wrap ((s : Int) + 1) = (s1 : Int) := by rw [IntWalk.i64_in _ (by omega)]; omega
  have HS1 := Lib.hid hs1
  clear k0 k1 hs1
  refine HLE.out.mono ?_
  rintro e w3 ⟨rfl, hx3⟩
  have HC3 := Lib.hid (HC.out.ext HS.out hx3)
  have HX3 := Lib.hid (HX.out.trans hx3)
  clear hx3 HLE
  cases hlv : wahead d[b]! d[a]! with
  | true =>
    have c0 := HC3.out.cnt.cell (i := 0) rfl
    have f0 := HC3.out.cnt.thaw 0
    have hO := Lib.hid (show order2 wahead d a b s = (b, a, s1) by unfold order2; rw [if_pos hlv, HS1.out])
    go_wp2_with fail
    go_ret2
    rw [hO.out]
    exact ⟨rfl, (Rb.of_ext HX3.out).trans (HC3.out.put HS.out s1).1, (HC3.out.put HS.out s1).2⟩
  | false =>
    have hO := Lib.hid (show order2 wahead d a b s = (a, b, s) by unfold order2; rw [if_neg (by simp [hlv])])
    go_wp2_with fail
    go_ret2
    rw [hO.out]
    exact ⟨rfl, Rb.of_ext HX3.out, HC3.out⟩
theorem sMed_any (S : Srt w0 ob sf sb blk off n) (h : Cn w0 blk off n d cb s W) {a b c : Nat} (ha : a < n) (hb : b < n) (hc : c < n) (hs : s < 900) :
    Calls Try.prog 113 #[.agg #[.func (.func 63) #[] #[.pointer (some ⟨ob, 0, none⟩)], .func (.func sf) #[] sb], .int .i64 (a : Int), .int .i64 (b : Int), .int .i64 (c : Int), .pointer (some ⟨cb, 0, none⟩)] W
      fun e w' => e = .returned (.int .i64 ((median wahead d a b c s).1 : Int)) ∧ Rb cb W w' ∧ Cn w0 blk off n d cb (median wahead d a b c s).2 w' := by
  obtain ⟨R, hR⟩ : ∃ R, R = median wahead d a b c s := ⟨_, rfl⟩
  have hm1 := order2_mem wahead d a b s
  have hq1 := order2_count wahead d a b s
  obtain ⟨r1, hr1⟩ : ∃ r, r = order2 wahead d a b s := ⟨_, rfl⟩
  rw [← hr1] at hm1 hq1
  obtain ⟨x1, y1, s1⟩ := r1
  simp only at hm1 hq1
  have hm2 := order2_mem wahead d y1 c s1
  have hq2 := order2_count wahead d y1 c s1
  obtain ⟨r2, hr2⟩ : ∃ r, r = order2 wahead d y1 c s1 := ⟨_, rfl⟩
  rw [← hr2] at hm2 hq2
  obtain ⟨x2, y2, s2⟩ := r2
  simp only at hm2 hq2
  obtain ⟨r3, hr3⟩ : ∃ r, r = order2 wahead d x1 x2 s2 := ⟨_, rfl⟩
  obtain ⟨x3, y3, s3⟩ := r3
  have HR := Lib.hid (show R = (y3, s3) by rw [hR]; unfold median; simp only [← hr1, ← hr2, ← hr3])
  have HBD := Lib.hid (show x1 < n ∧ y1 < n ∧ x2 < n ∧ s1 < 1000 ∧ s2 < 1000 by omega)
  have HE := Lib.hid (And.intro hr1 (And.intro hr2 hr3))
  rw [← hR]
  clear hR hm1 hq1 hm2 hq2 hr1 hr2 hr3
  have hn := S.hn
  have HS := Lib.hid S
  have hx := ext_alloc W (.cells #[.func (.func 63) #[] #[.pointer (some ⟨ob, 0, none⟩)], .func (.func sf) #[] sb] 147)
  have HBX := Lib.hid (Blk.new W #[.func (.func 63) #[] #[.pointer (some ⟨ob, 0, none⟩)], .func (.func sf) #[] sb] 147)
  have HC := Lib.hid (h.ext S hx)
  have HX := Lib.hid hx
  have HNB := Lib.hid (show W.heap.size ≠ cb by have := h.cnt.lt; omega)
  have k0 := HBX.out.cell (i := 0) rfl
  have k1 := HBX.out.cell (i := 1) rfl
  clear hx h S
  go_enter Try.func113, Try.ntmps113
  go_wp2_with fail
  obtain ⟨nb, hnb⟩ : ∃ nb, nb = W.heap.size := ⟨_, rfl⟩
  obtain ⟨wb, hwb⟩ : ∃ wb, wb = W.alloc (.cells #[.func (.func 63) #[] #[.pointer (some ⟨ob, 0, none⟩)], .func (.func sf) #[] sb] 147) := ⟨_, rfl⟩
  rw [← hwb] at HBX HC HX k0 k1 ⊢
  rw [← hnb] at HBX HNB k0 k1 ⊢
  clear hwb hnb
  refine (sOrd_any HS.out HC.out ha hb (by omega)).mono ?_
  rw [← HE.out.1]
  rintro e w3 ⟨rfl, hk3, hc3⟩
  have HC3 := Lib.hid hc3
  have HK3 := Lib.hid hk3
  clear hk3 hc3 k0 k1
  have bx := HK3.out.blk HBX.out HNB.out
  have k0 := bx.cell (i := 0) rfl
  have k1 := bx.cell (i := 1) rfl
  clear bx
  simp only at HC3 ⊢
  go_wp2_with fail
  clear k0 k1
  refine (sOrd_any HS.out HC3.out HBD.out.2.1 hc HBD.out.2.2.2.1).mono ?_
  rw [← HE.out.2.1]
  rintro e w4 ⟨rfl, hk4, hc4⟩
  have HC4 := Lib.hid hc4
  have HK4 := Lib.hid (HK3.out.trans hk4)
  clear hk4 hc4
  have bx := HK4.out.blk HBX.out HNB.out
  have k0 := bx.cell (i := 0) rfl
  have k1 := bx.cell (i := 1) rfl
  clear bx
  simp only at HC4 ⊢
  go_wp2_with fail
  clear k0 k1
  refine (sOrd_any HS.out HC4.out HBD.out.1 HBD.out.2.2.1 HBD.out.2.2.2.2).mono ?_
  rw [← HE.out.2.2]
  rintro e w5 ⟨rfl, hk5, hc5⟩
  have HC5 := Lib.hid hc5
  have HK5 := Lib.hid (HK4.out.trans hk5)
  clear hk5 hc5
  simp only at HC5 ⊢
  go_wp2_with fail
  go_ret
  rw [HR.out]
  exact ⟨rfl, (Rb.of_ext HX.out).trans HK5.out, HC5.out⟩
theorem sMedAdj_any (S : Srt w0 ob sf sb blk off n) (h : Cn w0 blk off n d cb s W) {a : Nat} (ha0 : 1 ≤ a) (ha : a + 1 < n) (hs : s < 900) :
    Calls Try.prog 112 #[.agg #[.func (.func 63) #[] #[.pointer (some ⟨ob, 0, none⟩)], .func (.func sf) #[] sb], .int .i64 (a : Int), .pointer (some ⟨cb, 0, none⟩)] W
      fun e w' => e = .returned (.int .i64 ((medianAdjacent wahead d a s).1 : Int)) ∧ Rb cb W w' ∧ Cn w0 blk off n d cb (medianAdjacent wahead d a s).2 w' := by
  obtain ⟨a1, ha1⟩ : ∃ x, x = a - 1 := ⟨_, rfl⟩
  obtain ⟨a2, ha2⟩ : ∃ x, x = a + 1 := ⟨_, rfl⟩
  have HR := Lib.hid (show medianAdjacent wahead d a s = median wahead d a1 a a2 s by rw [ha1, ha2]; rfl)
  have hw1 : IntKind.i64.wrap ((a : Int) - 1) = (a1 : Int) := by have := S.hn; rw [IntWalk.i64_in _ (by omega)]; omega
  have hw2 : IntKind.i64.wrap ((a : Int) + 1) = (a2 : Int) := by have := S.hn; rw [IntWalk.i64_in _ (by omega)]; omega
  have HBD := Lib.hid (show a1 < n ∧ a < n ∧ a2 < n by omega)
  clear ha1 ha2
  have hn := S.hn
  have HS := Lib.hid S
  have hx := ext_alloc W (.cells #[.func (.func 63) #[] #[.pointer (some ⟨ob, 0, none⟩)], .func (.func sf) #[] sb] 147)
  have HBX := Lib.hid (Blk.new W #[.func (.func 63) #[] #[.pointer (some ⟨ob, 0, none⟩)], .func (.func sf) #[] sb] 147)
  have HC := Lib.hid (h.ext S hx)
  have HX := Lib.hid hx
  have HNB := Lib.hid (show W.heap.size ≠ cb by have := h.cnt.lt; omega)
  have k0 := HBX.out.cell (i := 0) rfl
  have k1 := HBX.out.cell (i := 1) rfl
  clear hx h S
  go_enter Try.func112, Try.ntmps112
  go_wp2_with fail
  obtain ⟨nb, hnb⟩ : ∃ nb, nb = W.heap.size := ⟨_, rfl⟩
  obtain ⟨wb, hwb⟩ : ∃ wb, wb = W.alloc (.cells #[.func (.func 63) #[] #[.pointer (some ⟨ob, 0, none⟩)], .func (.func sf) #[] sb] 147) := ⟨_, rfl⟩
  rw [← hwb] at HBX HC HX k0 k1 ⊢
  rw [← hnb] at HBX HNB k0 k1 ⊢
  clear hwb hnb
  refine (sMed_any HS.out HC.out HBD.out.1 HBD.out.2.1 HBD.out.2.2 hs).mono ?_
  rw [← HR.out]
  rintro e w3 ⟨rfl, hk3, hc3⟩
  have HC3 := Lib.hid hc3
  have HK3 := Lib.hid hk3
  clear hk3 hc3 k0 k1
  go_wp2_with fail
  go_ret
  exact ⟨rfl, (Rb.of_ext HX.out).trans HK3.out, HC3.out⟩
end Go.Proofs.Ytocdifjdeifclaa
