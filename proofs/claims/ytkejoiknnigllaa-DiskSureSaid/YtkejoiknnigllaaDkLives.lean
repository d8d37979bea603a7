/-
  Layer 15: the chapter's example; which acts are light.
-/
import Derived.Test.YtkejoiknnigllaaDkSame2
namespace Go.Proofs.Ytkejoiknnigllaa
open Go Go.RowKit Mono
set_option linter.unusedVariables false
set_option linter.unusedSimpArgs false
set_option maxRecDepth 100000
set_option maxHeartbeats 4000000

theorem livesOk (fs : List Fil) (on : Bool) (ops fails : Nat) (h : fs.Pairwise fun a b => Op.bytesLess a.name b.name = true) (h1 : ∀ f ∈ fs, f.sure ≤ f.b.length) (h2 : ∀ f ∈ fs, f.b.length ≤ 1048576) (h3 : fs.length ≤ 64) (h4 : usedF fs ≤ 100) (h5 : ∀ f ∈ fs, dname f.name = true) : (⟨100, fs, on, ops, fails, none⟩ : Dk).Ok :=
  ⟨by show 100 ≤ 1073741824; decide, h, h1, h2, h3, h4, h5⟩
theorem livesSmall (fs : List Fil) (on : Bool) (ops fails : Nat) (h : ops + fails ≤ 1000000000) : (⟨100, fs, on, ops, fails, none⟩ : Dk).Small := ⟨h, fun _ _ h => by cases h⟩
theorem two_bytes (W : World) (a b : UInt8) : Bs (W.alloc (.cells #[.int .u8 (a.toNat : Int), .int .u8 (b.toNat : Int)] 5 (2, 3))) (.slice (some ⟨W.heap.size, 0, none⟩) 2 2) [a, b] :=
  Sl.alloc_ W 5 (2, 3) (by simp [bv]) (by simp) (Nat.le_refl _) (by decide)

theorem lives_any (W : World) : Calls Try.prog 9 #[] W fun e w' => e = .returned (.bool true) ∧ Ext W w' := by
  have HN : Calls Try.prog 20 #[.int .i64 100] W _ := dkNew_any 100 W (by decide)
  have HNH := Lib.hid HN
  clear HN
  have kc := fun (w : World) (C : Array Value) (n c : Nat) => Lib.run_convert_bytes_const (P := Try.prog) w 23 5 C n c Try.underlying23 Try.underlying5
  go_enter Try.func9, Try.ntmps9
  go_wp2_with fail
  refine HNH.out.mono ?_
  rintro e w1 ⟨rfl, hx1, hd1⟩
  obtain ⟨z, hz⟩ : ∃ z, z = W.heap.size := ⟨_, rfl⟩
  obtain ⟨bd, hbd⟩ : ∃ b, b = W.heap.size + 1 := ⟨_, rfl⟩
  rw [← hbd, ← hz] at hd1
  rw [← hbd]
  have HZ := Lib.hid hz
  have HX1 := Lib.hid hx1
  have HD1 := Lib.hid hd1
  clear hbd hz hx1 hd1 HNH
  have h1 := make_any HD1.out (fresh_ok (by decide)) ((fresh_small 100).small (by decide)) (by rw [HZ.out]; exact HX1.out.size) [97] (by decide)
  have e1 : dMake (Dk.fresh 100) [97] = ((⟨100, [⟨[97], [], 0⟩], true, 1, 0, none⟩ : Dk), 0) := by kernel_rfl
  rw [e1] at h1
  have HC1 := Lib.hid h1
  clear h1 e1
  go_wp2_with fail
  refine HC1.out.mono ?_
  rintro e w2 ⟨pl1, ms1, rfl, hs1⟩
  have HD2 := Lib.hid hs1.dk
  have HX2 := Lib.hid (hs1.kb.ext HX1.out (fun b hb => by rw [← HZ.out]; exact HD1.out.lowall b hb))
  clear hs1
  have hb2 := two_bytes w2 97 98
  have HB2 := Lib.hid (HX2.out.trans (ext_alloc w2 (.cells #[.int .u8 97, .int .u8 98] 5 (2, 3))))
  have HDB2 := Lib.hid (HD2.out.ext (ext_alloc w2 (.cells #[.int .u8 97, .int .u8 98] 5 (2, 3))))
  have h2 := append_any HDB2.out (livesOk _ true _ _ (by simp) (by simp) (by simp) (by simp) (by simp [usedF]) (by simp; decide)) (livesSmall _ _ _ _ (by decide)) (by rw [HZ.out]; exact HB2.out.size) [97] (by decide) hb2
  have e2 : dAppend (⟨100, [⟨[97], [], 0⟩], true, 1, 0, none⟩ : Dk) [97] [97, 98] = ((⟨100, [⟨[97], [97, 98], 0⟩], true, 2, 0, none⟩ : Dk), 0) := by kernel_rfl
  rw [e2] at h2
  have HC2 := Lib.hid h2
  clear h2 e2 hb2
  go_wp2_with fail
  refine HC2.out.mono ?_
  rintro e w3 ⟨pl2, ms2, rfl, hs2⟩
  have HD3 := Lib.hid hs2.dk
  have HX3 := Lib.hid (hs2.kb.ext HB2.out (fun b hb => by rw [← HZ.out]; exact HDB2.out.lowall b hb))
  clear hs2
  have h3 := sync_any HD3.out (livesOk _ true _ _ (by simp) (by simp) (by simp) (by simp) (by simp [usedF]) (by simp; decide)) (livesSmall _ _ _ _ (by decide)) (by rw [HZ.out]; exact HX3.out.size) [97] (by decide)
  have e3 : dSync (⟨100, [⟨[97], [97, 98], 0⟩], true, 2, 0, none⟩ : Dk) [97] = ((⟨100, [⟨[97], [97, 98], 2⟩], true, 3, 0, none⟩ : Dk), 0) := by kernel_rfl
  rw [e3] at h3
  have HC3 := Lib.hid h3
  clear h3 e3
  go_wp2_with fail
  refine HC3.out.mono ?_
  rintro e w4 ⟨pl3, ms3, rfl, hs3⟩
  have HD4 := Lib.hid hs3.dk
  have HX4 := Lib.hid (hs3.kb.ext HX3.out (fun b hb => by rw [← HZ.out]; exact HD3.out.lowall b hb))
  clear hs3
  have hb4 := two_bytes w4 99 100
  have HB4 := Lib.hid (HX4.out.trans (ext_alloc w4 (.cells #[.int .u8 99, .int .u8 100] 5 (2, 3))))
  have HDB4 := Lib.hid (HD4.out.ext (ext_alloc w4 (.cells #[.int .u8 99, .int .u8 100] 5 (2, 3))))
  have h4 := append_any HDB4.out (livesOk _ true _ _ (by simp) (by simp) (by simp) (by simp) (by simp [usedF]) (by simp; decide)) (livesSmall _ _ _ _ (by decide)) (by rw [HZ.out]; exact HB4.out.size) [97] (by decide) hb4
  have e4 : dAppend (⟨100, [⟨[97], [97, 98], 2⟩], true, 3, 0, none⟩ : Dk) [97] [99, 100] = ((⟨100, [⟨[97], [97, 98, 99, 100], 2⟩], true, 4, 0, none⟩ : Dk), 0) := by kernel_rfl
  rw [e4] at h4
  have HC4 := Lib.hid h4
  clear h4 e4 hb4
  go_wp2_with fail
  refine HC4.out.mono ?_
  rintro e w5 ⟨pl4, ms4, rfl, hs4⟩
  have HD5 := Lib.hid hs4.dk
  have HX5 := Lib.hid (hs4.kb.ext HB4.out (fun b hb => by rw [← HZ.out]; exact HDB4.out.lowall b hb))
  clear hs4
  have h5 := fail_any HD5.out (livesOk _ true _ _ (by simp) (by simp) (by simp) (by simp) (by simp [usedF]) (by simp; decide)) (livesSmall _ _ _ _ (by decide)) 1
  have e5 : dFail (⟨100, [⟨[97], [97, 98, 99, 100], 2⟩], true, 4, 0, none⟩ : Dk) 1 = ((⟨100, [⟨[97], [97, 98, 99], 3⟩], false, 4, 1, none⟩ : Dk), 0) := by kernel_rfl
  rw [e5] at h5
  have HC5 := Lib.hid h5
  clear h5 e5
  go_wp2_with fail
  refine HC5.out.mono ?_
  rintro e w6 ⟨pl5, ms5, rfl, hs5⟩
  have HD6 := Lib.hid hs5.dk
  have HX6 := Lib.hid (hs5.kb.ext HX5.out (fun b hb => by rw [← HZ.out]; exact HD5.out.lowall b hb))
  clear hs5
  have HC6 := Lib.hid (on_any HD6.out)
  go_wp2_with fail
  refine HC6.out.mono ?_
  rintro e w7 ⟨rfl, rfl⟩
  have HC7 := Lib.hid (power_any HD6.out)
  go_wp2_with fail
  refine HC7.out.mono ?_
  rintro e w8 ⟨rfl, hd8, hk8⟩
  have HX8 := Lib.hid (hk8.ext HX6.out (fun b hb => by rw [← HZ.out, hb]; exact HD6.out.zd))
  have e8 : dPower (⟨100, [⟨[97], [97, 98, 99], 3⟩], false, 4, 1, none⟩ : Dk) = (⟨100, [⟨[97], [97, 98, 99], 3⟩], true, 4, 1, none⟩ : Dk) := by kernel_rfl
  rw [e8] at hd8
  have h9 := read_any hd8 (livesOk _ true _ _ (by simp) (by simp) (by simp) (by simp) (by simp [usedF]) (by simp; decide)) [97] (by decide)
  have e9 : dRead (⟨100, [⟨[97], [97, 98, 99], 3⟩], true, 4, 1, none⟩ : Dk) [97] = ([97, 98, 99], 0) := by kernel_rfl
  rw [e9] at h9
  have HC9 := Lib.hid h9
  clear hd8 hk8 e8 e9 h9
  go_wp2_with fail
  refine HC9.out.mono ?_
  rintro e w9 ⟨vb, rfl, hob, hx9⟩
  have HX9 := Lib.hid (HX8.out.trans hx9)
  have cv := hob.bs.str (P := Try.prog) 23 9 5 Try.underlying23 Try.underlying5 Try.underlying9
  clear hob hx9
  go_wp2_with fail
  go_ret
  exact ⟨rfl, HX9.out⟩
end Go.Proofs.Ytkejoiknnigllaa
