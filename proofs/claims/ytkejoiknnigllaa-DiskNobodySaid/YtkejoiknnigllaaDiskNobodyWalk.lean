/-
  Layer 15: a disk that no call made takes nothing: the statement's walk.
-/
import Derived.Test.YtkejoiknnigllaaDkNobody2
import Derived.Test.YtkejoiknnigllaaDkOpen
namespace Go.Proofs.Ytkejoiknnigllaa
open Go Go.RowKit Mono
set_option linter.unusedVariables false
set_option linter.unusedSimpArgs false
set_option maxRecDepth 100000
set_option maxHeartbeats 2000000

theorem diskNobody_walk (kind : Int) (s : ByteArray) (A : Option Addr) (bn bc : Nat) (n keep : Int) (W : World) :
    Calls Try.prog 7 #[.agg #[.int .i64 kind, .string s, .slice A bn bc, .int .i64 n, .int .i64 keep]] W fun e w' => e = .returned (.bool true) ∧ Ext W w' := by
  obtain ⟨W3, hW3⟩ : ∃ w, w = (((W.alloc (.cells #[.int .i64 kind, .string s, .slice A bn bc, .int .i64 n, .int .i64 keep] 44)).alloc (.cells zeroC.toArray 61)).alloc (.cells #[.pointer none, .pointer (some ⟨W.heap.size + 1, 0, none⟩)] 26)) := ⟨_, rfl⟩
  have e1 : (W.alloc (.cells #[.int .i64 kind, .string s, .slice A bn bc, .int .i64 n, .int .i64 keep] 44)).heap.size = W.heap.size + 1 := World.size_alloc _ _
  have e2 : ((W.alloc (.cells #[.int .i64 kind, .string s, .slice A bn bc, .int .i64 n, .int .i64 keep] 44)).alloc (.cells zeroC.toArray 61)).heap.size = W.heap.size + 1 + 1 := by rw [World.size_alloc, e1]
  have x1 : Ext W (W.alloc (.cells #[.int .i64 kind, .string s, .slice A bn bc, .int .i64 n, .int .i64 keep] 44)) := ext_alloc _ _
  have x2 : Ext (W.alloc (.cells #[.int .i64 kind, .string s, .slice A bn bc, .int .i64 n, .int .i64 keep] 44)) ((W.alloc (.cells #[.int .i64 kind, .string s, .slice A bn bc, .int .i64 n, .int .i64 keep] 44)).alloc (.cells zeroC.toArray 61)) := ext_alloc _ _
  have x3 : Ext ((W.alloc (.cells #[.int .i64 kind, .string s, .slice A bn bc, .int .i64 n, .int .i64 keep] 44)).alloc (.cells zeroC.toArray 61)) W3 := by rw [hW3]; exact ext_alloc _ _
  have hact1 : BlkT (W.alloc (.cells #[.int .i64 kind, .string s, .slice A bn bc, .int .i64 n, .int .i64 keep] 44)) W.heap.size 44 [.int .i64 kind, .string s, .slice A bn bc, .int .i64 n, .int .i64 keep] := BlkT.new W _ _
  have hz1 : BlkT ((W.alloc (.cells #[.int .i64 kind, .string s, .slice A bn bc, .int .i64 n, .int .i64 keep] 44)).alloc (.cells zeroC.toArray 61)) (W.heap.size + 1) 61 zeroC := by rw [← e1]; exact BlkT.new _ _ _
  have hrow : BlkT W3 (W.heap.size + 1 + 1) 26 [.pointer none, .pointer (some ⟨W.heap.size + 1, 0, none⟩)] := by rw [hW3, ← e2]; exact BlkT.new _ _ _
  have hact := (hact1.ext (x2.trans x3)).blk
  have hz := hz1.ext x3
  have hrk := hrow.blk
  have HXA := Lib.hid (x1.trans (x2.trans x3))
  have HP := Lib.hid (show ∀ k, k < 2 → ∃ p, W3.cell? ⟨W.heap.size + 1 + 1, k, none⟩ = some (.pointer p) ∧ NoB W3 p from fun k hk => by
    rcases (show k = 0 ∨ k = 1 by omega) with rfl | rfl
    · exact ⟨none, hrk.cell (i := 0) rfl, .inl rfl⟩
    · exact ⟨_, hrk.cell (i := 1) rfl, .inr ⟨W.heap.size + 1, rfl, hz⟩⟩)
  have hg2l : W.heap.size + 1 + 1 < W3.heap.size := hrow.lt
  have HL := Lib.hid hg2l
  have HLA := Lib.hid (show W.heap.size < W3.heap.size by omega)
  have HACT := Lib.hid hact
  have HG := Lib.hid hW3
  clear hW3 e1 e2 x1 x2 x3 hact1 hz1 hrow hact hz hrk hg2l
  go_enter Try.func7, Try.ntmps7
  go_wp2_with fail
  go_loopw [11] (fun i wr => ∃ k : Nat, k ≤ 2 ∧ i = .int .i64 k ∧ Ext W3 wr) (fun i _ => 2 - (intOf i).toNat)
  case atStart => exact ⟨0, by omega, rfl, (show W3 = _ from HG.out) ▸ Ext.refl _⟩
  case round =>
    obtain ⟨k, hk, rfl, hx⟩ := hrel
    have HX := Lib.hid hx
    by_cases hk2 : k < 2
    · obtain ⟨p, hcp, hno⟩ := HP.out k hk2
      have hcw := (hx.cell (p := ⟨W.heap.size + 1 + 1, k, none⟩) HL.out).trans hcp
      have HNO3 := Lib.hid hno
      have HNO := Lib.hid (hno.ext hx)
      have hact := HACT.out
      have c1 := (hact.ext hx).cell (i := 1) rfl
      have HRD := Lib.hid (read_no HNO.out s)
      clear hx hno hcp
      go_wp2_with fail
      refine HRD.out.mono ?_
      rintro e w1 ⟨rfl, rfl⟩
      have HX0 := Lib.hid HX.out
      clear c1 hcw HRD
      have c1 := (HACT.out.ext HX0.out).cell (i := 1) rfl
      have c2 := (HACT.out.ext HX0.out).cell (i := 2) rfl
      have c3 := (HACT.out.ext HX0.out).cell (i := 3) rfl
      have c4 := (HACT.out.ext HX0.out).cell (i := 4) rfl
      have HC0 := Lib.hid (make_no (HNO3.out.ext HX0.out) s)
      go_wp2_with fail
      refine HC0.out.mono ?_
      rintro e wq0 ⟨rfl, hx⟩
      have HX1 := Lib.hid (HX0.out.trans hx)
      clear hx
      clear HC0 c1 c2 c3 c4
      have c1 := (HACT.out.ext HX1.out).cell (i := 1) rfl
      have c2 := (HACT.out.ext HX1.out).cell (i := 2) rfl
      have c3 := (HACT.out.ext HX1.out).cell (i := 3) rfl
      have c4 := (HACT.out.ext HX1.out).cell (i := 4) rfl
      have HC1 := Lib.hid (append_no (HNO3.out.ext HX1.out) s A bn bc)
      go_wp2_with fail
      refine HC1.out.mono ?_
      rintro e wq1 ⟨rfl, hx⟩
      have HX2 := Lib.hid (HX1.out.trans hx)
      clear hx
      clear HC1 c1 c2 c3 c4
      have c1 := (HACT.out.ext HX2.out).cell (i := 1) rfl
      have c2 := (HACT.out.ext HX2.out).cell (i := 2) rfl
      have c3 := (HACT.out.ext HX2.out).cell (i := 3) rfl
      have c4 := (HACT.out.ext HX2.out).cell (i := 4) rfl
      have HC2 := Lib.hid (sync_no (HNO3.out.ext HX2.out) s)
      go_wp2_with fail
      refine HC2.out.mono ?_
      rintro e wq2 ⟨rfl, hx⟩
      have HX3 := Lib.hid (HX2.out.trans hx)
      clear hx
      clear HC2 c1 c2 c3 c4
      have c1 := (HACT.out.ext HX3.out).cell (i := 1) rfl
      have c2 := (HACT.out.ext HX3.out).cell (i := 2) rfl
      have c3 := (HACT.out.ext HX3.out).cell (i := 3) rfl
      have c4 := (HACT.out.ext HX3.out).cell (i := 4) rfl
      have HC3 := Lib.hid (cut_no (HNO3.out.ext HX3.out) s n)
      go_wp2_with fail
      refine HC3.out.mono ?_
      rintro e wq3 ⟨rfl, hx⟩
      have HX4 := Lib.hid (HX3.out.trans hx)
      clear hx
      clear HC3 c1 c2 c3 c4
      have c1 := (HACT.out.ext HX4.out).cell (i := 1) rfl
      have c2 := (HACT.out.ext HX4.out).cell (i := 2) rfl
      have c3 := (HACT.out.ext HX4.out).cell (i := 3) rfl
      have c4 := (HACT.out.ext HX4.out).cell (i := 4) rfl
      have HC4 := Lib.hid (drop_no (HNO3.out.ext HX4.out) s)
      go_wp2_with fail
      refine HC4.out.mono ?_
      rintro e wq4 ⟨rfl, hx⟩
      have HX5 := Lib.hid (HX4.out.trans hx)
      clear hx
      clear HC4 c1 c2 c3 c4
      have c1 := (HACT.out.ext HX5.out).cell (i := 1) rfl
      have c2 := (HACT.out.ext HX5.out).cell (i := 2) rfl
      have c3 := (HACT.out.ext HX5.out).cell (i := 3) rfl
      have c4 := (HACT.out.ext HX5.out).cell (i := 4) rfl
      have HC5 := Lib.hid (arm_no (HNO3.out.ext HX5.out) n keep)
      go_wp2_with fail
      refine HC5.out.mono ?_
      rintro e wq5 ⟨rfl, hx⟩
      have HX6 := Lib.hid (HX5.out.trans hx)
      clear hx
      clear HC5 c1 c2 c3 c4
      have c1 := (HACT.out.ext HX6.out).cell (i := 1) rfl
      have c2 := (HACT.out.ext HX6.out).cell (i := 2) rfl
      have c3 := (HACT.out.ext HX6.out).cell (i := 3) rfl
      have c4 := (HACT.out.ext HX6.out).cell (i := 4) rfl
      have HC6 := Lib.hid (fail_no (HNO3.out.ext HX6.out) keep)
      go_wp2_with fail
      refine HC6.out.mono ?_
      rintro e wq6 ⟨rfl, hx⟩
      have HX7 := Lib.hid (HX6.out.trans hx)
      clear hx
      clear HC6 c1 c2 c3 c4
      have c1 := (HACT.out.ext HX7.out).cell (i := 1) rfl
      have c2 := (HACT.out.ext HX7.out).cell (i := 2) rfl
      have c3 := (HACT.out.ext HX7.out).cell (i := 3) rfl
      have c4 := (HACT.out.ext HX7.out).cell (i := 4) rfl
      have HC7 := Lib.hid (power_no (HNO3.out.ext HX7.out))
      go_wp2_with fail
      refine HC7.out.mono ?_
      rintro e wq7 ⟨rfl, hx⟩
      have HX8 := Lib.hid (HX7.out.trans hx)
      clear hx
      clear HC7 c1 c2 c3 c4
      have c1 := (HACT.out.ext HX8.out).cell (i := 1) rfl
      have c2 := (HACT.out.ext HX8.out).cell (i := 2) rfl
      have c3 := (HACT.out.ext HX8.out).cell (i := 3) rfl
      have c4 := (HACT.out.ext HX8.out).cell (i := 4) rfl
      have HC8 := Lib.hid (names_no (HNO3.out.ext HX8.out))
      go_wp2_with fail
      refine HC8.out.mono ?_
      rintro e wq8 ⟨rfl, hx⟩
      have HX9 := Lib.hid (HX8.out.trans hx)
      clear hx
      clear HC8 c1 c2 c3 c4
      have c1 := (HACT.out.ext HX9.out).cell (i := 1) rfl
      have c2 := (HACT.out.ext HX9.out).cell (i := 2) rfl
      have c3 := (HACT.out.ext HX9.out).cell (i := 3) rfl
      have c4 := (HACT.out.ext HX9.out).cell (i := 4) rfl
      have HC9 := Lib.hid (used_no (HNO3.out.ext HX9.out))
      go_wp2_with fail
      refine HC9.out.mono ?_
      rintro e wq9 ⟨rfl, rfl⟩
      have HX10 := Lib.hid HX9.out
      clear HC9 c1 c2 c3 c4
      have c1 := (HACT.out.ext HX10.out).cell (i := 1) rfl
      have c2 := (HACT.out.ext HX10.out).cell (i := 2) rfl
      have c3 := (HACT.out.ext HX10.out).cell (i := 3) rfl
      have c4 := (HACT.out.ext HX10.out).cell (i := 4) rfl
      have HC10 := Lib.hid (ops_no (HNO3.out.ext HX10.out))
      go_wp2_with fail
      refine HC10.out.mono ?_
      rintro e wq10 ⟨rfl, rfl⟩
      have HX11 := Lib.hid HX10.out
      clear HC10 c1 c2 c3 c4
      have c1 := (HACT.out.ext HX11.out).cell (i := 1) rfl
      have c2 := (HACT.out.ext HX11.out).cell (i := 2) rfl
      have c3 := (HACT.out.ext HX11.out).cell (i := 3) rfl
      have c4 := (HACT.out.ext HX11.out).cell (i := 4) rfl
      have HC11 := Lib.hid (fails_no (HNO3.out.ext HX11.out))
      go_wp2_with fail
      refine HC11.out.mono ?_
      rintro e wq11 ⟨rfl, rfl⟩
      have HX12 := Lib.hid HX11.out
      clear HC11 c1 c2 c3 c4
      have c1 := (HACT.out.ext HX12.out).cell (i := 1) rfl
      have c2 := (HACT.out.ext HX12.out).cell (i := 2) rfl
      have c3 := (HACT.out.ext HX12.out).cell (i := 3) rfl
      have c4 := (HACT.out.ext HX12.out).cell (i := 4) rfl
      have HC12 := Lib.hid (on_no (HNO3.out.ext HX12.out))
      go_wp2_with fail
      refine HC12.out.mono ?_
      rintro e wq12 ⟨rfl, rfl⟩
      have HX13 := Lib.hid HX12.out
      clear HC12 c1 c2 c3 c4
      go_wp2_with fail
      go_roundw
      case rel => exact ⟨k + 1, by omega, by simp, HX13.out⟩
      case measure => simp [intOf]; omega
    · have HLV := Lib.hid (lives_any wr)
      obtain rfl : k = 2 := by omega
      go_wp2_with fail
      refine HLV.out.mono ?_
      rintro e w' ⟨rfl, he⟩
      go_wp2_with fail
      go_ret
      exact ⟨rfl, (HXA.out.trans HX.out).trans he⟩
theorem diskNobody_act (a : Act) (x : Value) (W : World) (h : ActIn W a x) :
    Calls Try.prog 7 #[.agg (actC a x).toArray] W fun e w' => e = .returned (.bool true) ∧ Ext W w' := by
  obtain ⟨A, c, hv, _⟩ := h.1.open_
  subst hv
  exact diskNobody_walk a.kind _ A _ c a.n a.keep W
end Go.Proofs.Ytkejoiknnigllaa
