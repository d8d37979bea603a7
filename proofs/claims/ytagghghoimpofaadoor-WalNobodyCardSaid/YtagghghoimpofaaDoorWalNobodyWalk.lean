/-
  Layer 16: a log that no call made, or on no disk, takes nothing: the statement's walk.
-/
import Derived.Test.YtagghghoimpofaaDoorWalLives
import Derived.Test.YtagghghoimpofaaDoorDkNo
namespace Go.Proofs.YtagghghoimpofaaDoor
open Go Go.RowKit Mono
set_option linter.unusedVariables false
set_option linter.unusedSimpArgs false
set_option maxRecDepth 100000
set_option maxHeartbeats 2000000

/-- No log, or one that no call made. -/
def NoL (W : World) (v : Option Addr) : Prop := v = none ∨ ∃ b, v = some ⟨b, 0, none⟩ ∧ Blk W b lzero
theorem NoL.ext {W W' : World} {v : Option Addr} (h : NoL W v) (he : Ext W W') : NoL W' v := by
  rcases h with h | ⟨b, h, hb⟩
  · exact .inl h
  · exact .inr ⟨b, h, hb.ext he⟩
theorem wfault_no {W : World} {v : Option Addr} (h : NoL W v) : Calls Tryd.prog 52 #[.pointer v] W fun e w' => e = .returned (.int .i64 1) ∧ w' = W := by
  rcases h with rfl | ⟨b, rfl, hb⟩
  · exact wfault_nil W
  · exact wfault_zero W b hb
theorem wAppend_no {W : World} {v : Option Addr} (h : NoL W v) (A : Option Addr) (bn bc : Nat) : Calls Tryd.prog 24 #[.pointer v, .slice A bn bc] W fun e w' => e = .returned (.tuple #[.int .i64 0, .int .i64 1]) ∧ w' = W := by
  have HF := Lib.hid (wfault_no h)
  clear h
  go_enter Tryd.func24, Tryd.ntmps24
  go_wp2_with fail
  refine HF.out.mono ?_
  rintro e w1 ⟨rfl, rfl⟩
  go_wp2_with fail
  go_ret2
  exact ⟨rfl, rfl⟩
theorem wSync_no {W : World} {v : Option Addr} (h : NoL W v) : Calls Tryd.prog 25 #[.pointer v] W fun e w' => e = .returned (.int .i64 1) ∧ w' = W := by
  have HF := Lib.hid (wfault_no h)
  clear h
  go_enter Tryd.func25, Tryd.ntmps25
  go_wp2_with fail
  refine HF.out.mono ?_
  rintro e w1 ⟨rfl, rfl⟩
  go_wp2_with fail
  go_ret
  exact ⟨rfl, rfl⟩
theorem wRetire_no {W : World} {v : Option Addr} (h : NoL W v) (n : Int) : Calls Tryd.prog 27 #[.pointer v, .int .i64 n] W fun e w' => e = .returned (.int .i64 1) ∧ w' = W := by
  have HF := Lib.hid (wfault_no h)
  clear h
  go_enter Tryd.func27, Tryd.ntmps27
  go_wp2_with fail
  refine HF.out.mono ?_
  rintro e w1 ⟨rfl, rfl⟩
  go_wp2_with fail
  go_ret
  exact ⟨rfl, rfl⟩
theorem wFirst_no {W : World} {v : Option Addr} (h : NoL W v) : Calls Tryd.prog 22 #[.pointer v] W fun e w' => e = .returned (.int .i64 0) ∧ w' = W := by
  have HF := Lib.hid (wfault_no h)
  clear h
  go_enter Tryd.func22, Tryd.ntmps22
  go_wp2_with fail
  refine HF.out.mono ?_
  rintro e w1 ⟨rfl, rfl⟩
  go_wp2_with fail
  go_ret
  exact ⟨rfl, rfl⟩
theorem wNext_no {W : World} {v : Option Addr} (h : NoL W v) : Calls Tryd.prog 23 #[.pointer v] W fun e w' => e = .returned (.int .i64 0) ∧ w' = W := by
  have HF := Lib.hid (wfault_no h)
  clear h
  go_enter Tryd.func23, Tryd.ntmps23
  go_wp2_with fail
  refine HF.out.mono ?_
  rintro e w1 ⟨rfl, rfl⟩
  go_wp2_with fail
  go_ret
  exact ⟨rfl, rfl⟩
theorem wSure_no {W : World} {v : Option Addr} (h : NoL W v) : Calls Tryd.prog 31 #[.pointer v] W fun e w' => e = .returned (.int .i64 0) ∧ w' = W := by
  have HF := Lib.hid (wfault_no h)
  clear h
  go_enter Tryd.func31, Tryd.ntmps31
  go_wp2_with fail
  refine HF.out.mono ?_
  rintro e w1 ⟨rfl, rfl⟩
  go_wp2_with fail
  go_ret
  exact ⟨rfl, rfl⟩
theorem wOn_no {W : World} {v : Option Addr} (h : NoL W v) : Calls Tryd.prog 30 #[.pointer v] W fun e w' => e = .returned (.bool false) ∧ w' = W := by
  have HF := Lib.hid (wfault_no h)
  clear h
  go_enter Tryd.func30, Tryd.ntmps30
  go_wp2_with fail
  refine HF.out.mono ?_
  rintro e w1 ⟨rfl, rfl⟩
  go_wp2_with fail
  go_ret
  exact ⟨rfl, rfl⟩
theorem wOpen_no {W : World} {v : Option Addr} (h : NoB W v) (n : Int) : Calls Tryd.prog 19 #[.pointer v, .int .i64 n] W fun e w' => e = .returned (.tuple #[.pointer none, .slice none 0 0, .int .i64 1]) ∧ w' = W := by
  have HF := Lib.hid (read_no h ⟨#[]⟩)
  clear h
  go_enter Tryd.func19, Tryd.ntmps19
  go_wp2_with fail
  refine HF.out.mono ?_
  rintro e w1 ⟨rfl, rfl⟩
  go_wp2_with fail
  go_ret3
  exact ⟨rfl, rfl⟩
theorem walNobody0 (A : Option Addr) (bn bc : Nat) (n : Int) (W : World) (hT : TbW W) :
    Calls Tryd.prog 7 #[.slice A bn bc, .int .i64 n] W fun e w' => e = .returned (.bool true) ∧ Ext W w' := by
  have HLV := Lib.hid (fun w (h : Ext W w) => wlives_any w (hT.ext h))
  clear hT
  obtain ⟨W3, hW3⟩ : ∃ w, w = ((W.alloc (.cells lzero.toArray 63)).alloc (.cells #[.pointer none, .pointer (some ⟨W.heap.size, 0, none⟩)] 39)) := ⟨_, rfl⟩
  have e1 : (W.alloc (.cells lzero.toArray 63)).heap.size = W.heap.size + 1 := World.size_alloc _ _
  have x1 : Ext W (W.alloc (.cells lzero.toArray 63)) := ext_alloc _ _
  have x2 : Ext (W.alloc (.cells lzero.toArray 63)) W3 := by rw [hW3]; exact ext_alloc _ _
  have hz1 : BlkT (W.alloc (.cells lzero.toArray 63)) W.heap.size 63 lzero := BlkT.new W _ _
  have hrow : BlkT W3 (W.heap.size + 1) 39 [.pointer none, .pointer (some ⟨W.heap.size, 0, none⟩)] := by rw [hW3, ← e1]; exact BlkT.new _ _ _
  have hz := hz1.ext x2
  have hrk := hrow.blk
  have HXA3 := Lib.hid (x1.trans x2)
  have HP3 := Lib.hid (show ∀ k, k < 2 → ∃ p, W3.cell? ⟨W.heap.size + 1, k, none⟩ = some (.pointer p) ∧ NoL W3 p from fun k hk => by
    rcases (show k = 0 ∨ k = 1 by omega) with rfl | rfl
    · exact ⟨none, hrk.cell (i := 0) rfl, .inl rfl⟩
    · exact ⟨_, hrk.cell (i := 1) rfl, .inr ⟨W.heap.size, rfl, hz.blk⟩⟩)
  have HL3 := Lib.hid (show W.heap.size + 1 < W3.heap.size from hrow.lt)
  have HG3 := Lib.hid hW3
  clear hW3 e1 x1 x2 hz1 hrow hz hrk
  go_enter Tryd.func7, Tryd.ntmps7
  go_wp2_with fail
  go_loopw [18] (fun i wr => ∃ k : Nat, k ≤ 2 ∧ i = .int .i64 k ∧ Ext W3 wr) (fun i _ => 2 - (intOf i).toNat)
  case atStart => exact ⟨0, by omega, rfl, (show W3 = _ from HG3.out) ▸ Ext.refl _⟩
  case round =>
    obtain ⟨k, hk, rfl, hx⟩ := hrel
    have HX := Lib.hid hx
    by_cases hk2 : k < 2
    · obtain ⟨p, hcp, hno⟩ := HP3.out k hk2
      have hcw := (hx.cell (p := ⟨W.heap.size + 1, k, none⟩) HL3.out).trans hcp
      have hn := hno.ext hx
      have H0 := Lib.hid (wAppend_no hn A bn bc)
      have H1 := Lib.hid (wSync_no hn)
      have H2 := Lib.hid (wRetire_no hn n)
      have H3 := Lib.hid (wFirst_no hn)
      have H4 := Lib.hid (wNext_no hn)
      have H5 := Lib.hid (wSure_no hn)
      have H6 := Lib.hid (wOn_no hn)
      clear hx hno hn hcp
      go_wp2_with fail
      refine H0.out.mono ?_
      rintro e w1 ⟨rfl, rfl⟩
      go_wp2_with fail
      refine H1.out.mono ?_
      rintro e w1 ⟨rfl, rfl⟩
      go_wp2_with fail
      refine H2.out.mono ?_
      rintro e w1 ⟨rfl, rfl⟩
      go_wp2_with fail
      refine H3.out.mono ?_
      rintro e w1 ⟨rfl, rfl⟩
      go_wp2_with fail
      refine H4.out.mono ?_
      rintro e w1 ⟨rfl, rfl⟩
      go_wp2_with fail
      refine H5.out.mono ?_
      rintro e w1 ⟨rfl, rfl⟩
      go_wp2_with fail
      refine H6.out.mono ?_
      rintro e w1 ⟨rfl, rfl⟩
      go_wp2_with fail
      go_roundw
      case rel => exact ⟨k + 1, by omega, by simp, HX.out⟩
      case measure => simp [intOf]; omega
    · have hk3 : ¬ (k : Int) < 2 := by omega
      have HXW := Lib.hid (HXA3.out.trans HX.out)
      clear hx hk hk2
      obtain ⟨W5, hW5⟩ : ∃ w, w = ((wr.alloc (.cells zeroC.toArray 68)).alloc (.cells #[.pointer none, .pointer (some ⟨wr.heap.size, 0, none⟩)] 34)) := ⟨_, rfl⟩
      have e1 : (wr.alloc (.cells zeroC.toArray 68)).heap.size = wr.heap.size + 1 := World.size_alloc _ _
      have x1 : Ext wr (wr.alloc (.cells zeroC.toArray 68)) := ext_alloc _ _
      have x2 : Ext (wr.alloc (.cells zeroC.toArray 68)) W5 := by rw [hW5]; exact ext_alloc _ _
      have hz1 : BlkT (wr.alloc (.cells zeroC.toArray 68)) wr.heap.size 68 zeroC := BlkT.new wr _ _
      have hrow : BlkT W5 (wr.heap.size + 1) 34 [.pointer none, .pointer (some ⟨wr.heap.size, 0, none⟩)] := by rw [hW5, ← e1]; exact BlkT.new _ _ _
      have hz := hz1.ext x2
      have hrk := hrow.blk
      have HXA5 := Lib.hid (x1.trans x2)
      have HP5 := Lib.hid (show ∀ k, k < 2 → ∃ p, W5.cell? ⟨wr.heap.size + 1, k, none⟩ = some (.pointer p) ∧ NoB W5 p from fun k hk => by
        rcases (show k = 0 ∨ k = 1 by omega) with rfl | rfl
        · exact ⟨none, hrk.cell (i := 0) rfl, .inl rfl⟩
        · exact ⟨_, hrk.cell (i := 1) rfl, .inr ⟨wr.heap.size, rfl, hz⟩⟩)
      have HL5 := Lib.hid (show wr.heap.size + 1 < W5.heap.size from hrow.lt)
      have HG5 := Lib.hid hW5
      clear hW5 e1 x1 x2 hz1 hrow hz hrk
      go_wp2_with fail
      go_loopw [65] (fun i wq => ∃ k : Nat, k ≤ 2 ∧ i = .int .i64 k ∧ Ext W5 wq) (fun i _ => 2 - (intOf i).toNat)
      case atStart => exact ⟨0, by omega, rfl, (show W5 = _ from HG5.out) ▸ Ext.refl _⟩
      case round =>
        obtain ⟨k, hk, rfl, hx⟩ := hrel
        have HY := Lib.hid hx
        by_cases hk2 : k < 2
        · obtain ⟨p, hcp, hno⟩ := HP5.out k hk2
          have hcw := (hx.cell (by exact HL5.out)).trans hcp
          have H0 := Lib.hid (wOpen_no (hno.ext hx) n)
          clear hx hno hcp
          go_wp2_with fail
          refine H0.out.mono ?_
          rintro e w1 ⟨rfl, rfl⟩
          go_wp2_with fail
          go_roundw
          case rel => exact ⟨k + 1, by omega, by simp, HY.out⟩
          case measure => simp [intOf]; omega
        · obtain rfl : k = 2 := by omega
          have HLW := Lib.hid (HLV.out _ (HXW.out.trans (HXA5.out.trans HY.out)))
          clear hx
          go_wp2_with fail
          refine HLW.out.mono ?_
          rintro e w1 ⟨rfl, hx1⟩
          go_wp2_with fail
          go_ret
          exact ⟨rfl, (HXW.out.trans (HXA5.out.trans HY.out)).trans hx1⟩
theorem walNobody_walk (v : Value) (l : List UInt8) (n : Int) (W : World) (hT : TbW W) (hb : Bs W v l) :
    Calls Tryd.prog 7 #[v, .int .i64 n] W fun e w' => e = .returned (.bool true) ∧ Ext W w' := by
  obtain ⟨A, c, rfl, -⟩ := hb.open_
  exact walNobody0 A _ c n W hT
end Go.Proofs.YtagghghoimpofaaDoor
