/-
  Layer 15: a disk that no call made takes nothing.
-/
import Derived.Test.YtkejoiknnigllaaDkLives
namespace Go.Proofs.Ytkejoiknnigllaa
open Go Go.RowKit Mono
set_option linter.unusedVariables false
set_option linter.unusedSimpArgs false
set_option maxRecDepth 100000
set_option maxHeartbeats 400000

/-- No disk, or one that no call made. -/
def NoB (W : World) (v : Option Addr) : Prop := v = none ∨ ∃ b, v = some ⟨b, 0, none⟩ ∧ BlkT W b 61 zeroC
theorem NoB.ext {W W' : World} {v : Option Addr} (h : NoB W v) (he : Ext W W') : NoB W' v := by
  rcases h with h | ⟨b, h, hb⟩
  · exact .inl h
  · exact .inr ⟨b, h, hb.ext he⟩
theorem fault_no {W : World} {v : Option Addr} (h : NoB W v) : Calls Try.prog 37 #[.pointer v] W fun e w' => e = .returned (.int .i64 1) ∧ w' = W := by
  rcases h with rfl | ⟨b, rfl, hb⟩
  · exact fault_nil W
  · exact fault_zero W b hb
theorem find_no {W : World} {v : Option Addr} (h : NoB W v) (name : ByteArray) : Calls Try.prog 40 #[.pointer v, .string name] W fun e w' => e = .returned (.tuple #[.pointer none, .int .i64 1]) ∧ w' = W := by
  have HF := Lib.hid (fault_no h)
  go_enter Try.func40, Try.ntmps40
  go_wp2_with fail
  refine HF.out.mono ?_
  rintro e w1 ⟨rfl, rfl⟩
  go_wp2_with fail
  go_ret2
  exact ⟨rfl, rfl⟩
theorem make_no {W : World} {v : Option Addr} (h : NoB W v) (s : ByteArray) : Calls Try.prog 16 #[.pointer v, .string s] W fun e w' => e = .returned (.int .i64 1) ∧ Ext W w' := by
  have HF := Lib.hid (fun w (he : Ext W w) => fault_no (h.ext he))
  clear h
  go_enter Try.func16, Try.ntmps16
  go_wp2_with fail
  refine (HF.out _ (by repeat (first | exact Ext.refl _ | refine Ext.trans ?_ (ext_alloc _ _)))).mono ?_
  rintro e w1 ⟨rfl, rfl⟩
  go_wp2_with fail
  go_ret
  exact ⟨rfl, by repeat (first | exact Ext.refl _ | refine Ext.trans ?_ (ext_alloc _ _))⟩
theorem append_no {W : World} {v : Option Addr} (h : NoB W v) (s : ByteArray) (A : Option Addr) (bn bc : Nat) : Calls Try.prog 17 #[.pointer v, .string s, .slice A bn bc] W fun e w' => e = .returned (.int .i64 1) ∧ Ext W w' := by
  have HF := Lib.hid (fun w (he : Ext W w) => find_no (h.ext he) s)
  clear h
  go_enter Try.func17, Try.ntmps17
  go_wp2_with fail
  refine (HF.out _ (by repeat (first | exact Ext.refl _ | refine Ext.trans ?_ (ext_alloc _ _)))).mono ?_
  rintro e w1 ⟨rfl, rfl⟩
  go_wp2_with fail
  go_ret
  exact ⟨rfl, by repeat (first | exact Ext.refl _ | refine Ext.trans ?_ (ext_alloc _ _))⟩
theorem sync_no {W : World} {v : Option Addr} (h : NoB W v) (s : ByteArray) : Calls Try.prog 18 #[.pointer v, .string s] W fun e w' => e = .returned (.int .i64 1) ∧ Ext W w' := by
  have HF := Lib.hid (fun w (he : Ext W w) => find_no (h.ext he) s)
  clear h
  go_enter Try.func18, Try.ntmps18
  go_wp2_with fail
  refine (HF.out _ (by repeat (first | exact Ext.refl _ | refine Ext.trans ?_ (ext_alloc _ _)))).mono ?_
  rintro e w1 ⟨rfl, rfl⟩
  go_wp2_with fail
  go_ret
  exact ⟨rfl, by repeat (first | exact Ext.refl _ | refine Ext.trans ?_ (ext_alloc _ _))⟩
theorem cut_no {W : World} {v : Option Addr} (h : NoB W v) (s : ByteArray) (n : Int) : Calls Try.prog 25 #[.pointer v, .string s, .int .i64 n] W fun e w' => e = .returned (.int .i64 1) ∧ Ext W w' := by
  have HF := Lib.hid (fun w (he : Ext W w) => find_no (h.ext he) s)
  clear h
  go_enter Try.func25, Try.ntmps25
  go_wp2_with fail
  refine (HF.out _ (by repeat (first | exact Ext.refl _ | refine Ext.trans ?_ (ext_alloc _ _)))).mono ?_
  rintro e w1 ⟨rfl, rfl⟩
  go_wp2_with fail
  go_ret
  exact ⟨rfl, by repeat (first | exact Ext.refl _ | refine Ext.trans ?_ (ext_alloc _ _))⟩
theorem drop_no {W : World} {v : Option Addr} (h : NoB W v) (s : ByteArray) : Calls Try.prog 15 #[.pointer v, .string s] W fun e w' => e = .returned (.int .i64 1) ∧ Ext W w' := by
  have HF := Lib.hid (fun w (he : Ext W w) => find_no (h.ext he) s)
  clear h
  go_enter Try.func15, Try.ntmps15
  go_wp2_with fail
  refine (HF.out _ (by repeat (first | exact Ext.refl _ | refine Ext.trans ?_ (ext_alloc _ _)))).mono ?_
  rintro e w1 ⟨rfl, rfl⟩
  go_wp2_with fail
  go_ret
  exact ⟨rfl, by repeat (first | exact Ext.refl _ | refine Ext.trans ?_ (ext_alloc _ _))⟩
theorem arm_no {W : World} {v : Option Addr} (h : NoB W v) (n k : Int) : Calls Try.prog 35 #[.pointer v, .int .i64 n, .int .i64 k] W fun e w' => e = .returned (.int .i64 1) ∧ Ext W w' := by
  have HF := Lib.hid (fun w (he : Ext W w) => fault_no (h.ext he))
  clear h
  go_enter Try.func35, Try.ntmps35
  go_wp2_with fail
  refine (HF.out _ (by repeat (first | exact Ext.refl _ | refine Ext.trans ?_ (ext_alloc _ _)))).mono ?_
  rintro e w1 ⟨rfl, rfl⟩
  go_wp2_with fail
  go_ret
  exact ⟨rfl, by repeat (first | exact Ext.refl _ | refine Ext.trans ?_ (ext_alloc _ _))⟩
theorem fail_no {W : World} {v : Option Addr} (h : NoB W v) (k : Int) : Calls Try.prog 11 #[.pointer v, .int .i64 k] W fun e w' => e = .returned (.int .i64 1) ∧ Ext W w' := by
  have HF := Lib.hid (fun w (he : Ext W w) => fault_no (h.ext he))
  clear h
  go_enter Try.func11, Try.ntmps11
  go_wp2_with fail
  refine (HF.out _ (by repeat (first | exact Ext.refl _ | refine Ext.trans ?_ (ext_alloc _ _)))).mono ?_
  rintro e w1 ⟨rfl, rfl⟩
  go_wp2_with fail
  go_ret
  exact ⟨rfl, by repeat (first | exact Ext.refl _ | refine Ext.trans ?_ (ext_alloc _ _))⟩
theorem power_no {W : World} {v : Option Addr} (h : NoB W v) : Calls Try.prog 13 #[.pointer v] W fun e w' => e = .returned (.int .i64 1) ∧ Ext W w' := by
  have HF := Lib.hid (fun w (he : Ext W w) => fault_no (h.ext he))
  clear h
  go_enter Try.func13, Try.ntmps13
  go_wp2_with fail
  refine (HF.out _ (by repeat (first | exact Ext.refl _ | refine Ext.trans ?_ (ext_alloc _ _)))).mono ?_
  rintro e w1 ⟨rfl, rfl⟩
  go_wp2_with fail
  go_ret
  exact ⟨rfl, by repeat (first | exact Ext.refl _ | refine Ext.trans ?_ (ext_alloc _ _))⟩
theorem read_no {W : World} {v : Option Addr} (h : NoB W v) (s : ByteArray) : Calls Try.prog 19 #[.pointer v, .string s] W fun e w' => e = .returned (.tuple #[.slice none 0 0, .int .i64 1]) ∧ w' = W := by
  have HF := Lib.hid (find_no h s)
  go_enter Try.func19, Try.ntmps19
  go_wp2_with fail
  refine HF.out.mono ?_
  rintro e w1 ⟨rfl, rfl⟩
  go_wp2_with fail
  go_ret2
  exact ⟨rfl, rfl⟩
theorem on_no {W : World} {v : Option Addr} (h : NoB W v) : Calls Try.prog 24 #[.pointer v] W fun e w' => e = .returned (.bool false) ∧ w' = W := by
  have HF := Lib.hid (fault_no h)
  go_enter Try.func24, Try.ntmps24
  go_wp2_with fail
  refine HF.out.mono ?_
  rintro e w1 ⟨rfl, rfl⟩
  go_wp2_with fail
  go_ret
  exact ⟨rfl, rfl⟩
theorem used_no {W : World} {v : Option Addr} (h : NoB W v) : Calls Try.prog 22 #[.pointer v] W fun e w' => e = .returned (.int .i64 0) ∧ w' = W := by
  rcases h with rfl | ⟨b, rfl, hb⟩
  · go_enter Try.func22, Try.ntmps22
    go_wp2_with fail
    go_ret
    exact ⟨rfl, rfl⟩
  · have k := hb.blk.cell (i := 3) rfl
    go_enter Try.func22, Try.ntmps22
    go_wp2_with fail
    go_ret
    exact ⟨rfl, rfl⟩
theorem ops_no {W : World} {v : Option Addr} (h : NoB W v) : Calls Try.prog 23 #[.pointer v] W fun e w' => e = .returned (.int .i64 0) ∧ w' = W := by
  rcases h with rfl | ⟨b, rfl, hb⟩
  · go_enter Try.func23, Try.ntmps23
    go_wp2_with fail
    go_ret
    exact ⟨rfl, rfl⟩
  · have k := hb.blk.cell (i := 4) rfl
    go_enter Try.func23, Try.ntmps23
    go_wp2_with fail
    go_ret
    exact ⟨rfl, rfl⟩
theorem fails_no {W : World} {v : Option Addr} (h : NoB W v) : Calls Try.prog 34 #[.pointer v] W fun e w' => e = .returned (.int .i64 0) ∧ w' = W := by
  rcases h with rfl | ⟨b, rfl, hb⟩
  · go_enter Try.func34, Try.ntmps34
    go_wp2_with fail
    go_ret
    exact ⟨rfl, rfl⟩
  · have k := hb.blk.cell (i := 5) rfl
    go_enter Try.func34, Try.ntmps34
    go_wp2_with fail
    go_ret
    exact ⟨rfl, rfl⟩
end Go.Proofs.Ytkejoiknnigllaa
