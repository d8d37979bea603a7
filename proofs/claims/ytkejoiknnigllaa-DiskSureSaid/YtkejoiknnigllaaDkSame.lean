/-
  Layer 15: any act on both disks; both disks tell the same.
-/
import Derived.Test.YtkejoiknnigllaaDkDoLaw2
import Derived.Test.YtkejoiknnigllaaDkDoLaw3
import Derived.Test.YtkejoiknnigllaaOpen
namespace Go.Proofs.Ytkejoiknnigllaa
open Go Go.RowKit Mono
set_option linter.unusedVariables false
set_option linter.unusedSimpArgs false
set_option maxRecDepth 100000
set_option maxHeartbeats 4000000

theorem do_any {z bd br c : Nat} {F : Nat → Prop} {W : World} {d : Dk} (h : Pair z bd br F d d W) (hok : d.Ok) (hsm : d.SmallC c) (hc : c ≤ 1000000000) (hz : z ≤ W.heap.size) (a : Act) (hl : a.name.length ≤ maxLen) (hdl : a.data.length ≤ 20000) {v : Value} (hv : Bs W v a.data) (hvF : ∀ j, v.ownBlock = some j → 0 < a.data.length → j < W.heap.size ∧ ¬ F j) :
    Calls Try.prog 30 #[.pointer (some ⟨bd, 0, none⟩), .pointer (some ⟨br, 0, none⟩), .agg #[.int .i64 a.kind, strV a.name, v, .int .i64 a.n, .int .i64 a.keep]] W fun e w' => e = .returned (.bool true) ∧ Kb F W w' ∧ ∃ F', Pair z bd br F' (actD d a) (actD d a) w' ∧ ∀ k, F' k → F k ∨ W.heap.size ≤ k := by
  obtain ⟨kd, nm, la, an, ak⟩ := a
  dsimp only at hl hdl hv hvF
  by_cases h0 : kd = 0
  · have e : actD d ⟨kd, nm, la, an, ak⟩ = (dMake d nm).1 := by unfold actD; simp only [h0, if_true, if_false]
    rw [e]
    subst h0
    exact do_0 h hok hsm hc hz 0 nm la an ak rfl hl hdl hv hvF
  by_cases h1 : kd = 1
  · have e : actD d ⟨kd, nm, la, an, ak⟩ = (dAppend d nm la).1 := by unfold actD; simp only [h0, h1, if_true, if_false, show ¬ ((1 : Int) = 0) from by decide]
    rw [e]
    subst h1
    exact do_1 h hok hsm hc hz 1 nm la an ak rfl hl hdl hv hvF
  by_cases h2 : kd = 2
  · have e : actD d ⟨kd, nm, la, an, ak⟩ = (dSync d nm).1 := by unfold actD; simp only [h0, h1, h2, if_true, if_false, show ¬ ((2 : Int) = 0) from by decide, show ¬ ((2 : Int) = 1) from by decide]
    rw [e]
    subst h2
    exact do_2 h hok hsm hc hz 2 nm la an ak rfl hl hdl hv hvF
  by_cases h3 : kd = 3
  · have e : actD d ⟨kd, nm, la, an, ak⟩ = (dCut d nm an).1 := by unfold actD; simp only [h0, h1, h2, h3, if_true, if_false, show ¬ ((3 : Int) = 0) from by decide, show ¬ ((3 : Int) = 1) from by decide, show ¬ ((3 : Int) = 2) from by decide]
    rw [e]
    subst h3
    exact do_3 h hok hsm hc hz 3 nm la an ak rfl hl hdl hv hvF
  by_cases h4 : kd = 4
  · have e : actD d ⟨kd, nm, la, an, ak⟩ = (dDrop d nm).1 := by unfold actD; simp only [h0, h1, h2, h3, h4, if_true, if_false, show ¬ ((4 : Int) = 0) from by decide, show ¬ ((4 : Int) = 1) from by decide, show ¬ ((4 : Int) = 2) from by decide, show ¬ ((4 : Int) = 3) from by decide]
    rw [e]
    subst h4
    exact do_4 h hok hsm hc hz 4 nm la an ak rfl hl hdl hv hvF
  by_cases h5 : kd = 5
  · have e : actD d ⟨kd, nm, la, an, ak⟩ = (dArm d an ak).1 := by unfold actD; simp only [h0, h1, h2, h3, h4, h5, if_true, if_false, show ¬ ((5 : Int) = 0) from by decide, show ¬ ((5 : Int) = 1) from by decide, show ¬ ((5 : Int) = 2) from by decide, show ¬ ((5 : Int) = 3) from by decide, show ¬ ((5 : Int) = 4) from by decide]
    rw [e]
    subst h5
    exact do_5 h hok hsm hc hz 5 nm la an ak rfl hl hdl hv hvF
  by_cases h6 : kd = 6
  · have e : actD d ⟨kd, nm, la, an, ak⟩ = (dFail d ak).1 := by unfold actD; simp only [h0, h1, h2, h3, h4, h5, h6, if_true, if_false, show ¬ ((6 : Int) = 0) from by decide, show ¬ ((6 : Int) = 1) from by decide, show ¬ ((6 : Int) = 2) from by decide, show ¬ ((6 : Int) = 3) from by decide, show ¬ ((6 : Int) = 4) from by decide, show ¬ ((6 : Int) = 5) from by decide]
    rw [e]
    subst h6
    exact do_6 h hok hsm hc hz 6 nm la an ak rfl hl hdl hv hvF
  by_cases h7 : kd = 7
  · have e : actD d ⟨kd, nm, la, an, ak⟩ = dPower d := by unfold actD; simp only [h0, h1, h2, h3, h4, h5, h6, h7, if_true, if_false, show ¬ ((7 : Int) = 0) from by decide, show ¬ ((7 : Int) = 1) from by decide, show ¬ ((7 : Int) = 2) from by decide, show ¬ ((7 : Int) = 3) from by decide, show ¬ ((7 : Int) = 4) from by decide, show ¬ ((7 : Int) = 5) from by decide, show ¬ ((7 : Int) = 6) from by decide]
    rw [e]
    subst h7
    exact do_7 h hok hsm hc hz 7 nm la an ak rfl hl hdl hv hvF
  have e : actD d ⟨kd, nm, la, an, ak⟩ = d := by unfold actD; simp only [h0, h1, h2, h3, h4, h5, h6, h7, if_false]
  rw [e]
  exact do_8 h hok hsm hc hz kd nm la an ak ⟨h0, h1, h2, h3, h4, h5, h6, h7⟩ hl hdl hv hvF

theorem index_str {w : World} {o : Oper} {f : Operand → Value} {x y : Operand} {b off c n i : Nat} (hop : o.op = .indexAddr 45 x y)
    (hx : f x = .slice (some ⟨b, off, none⟩) n c) (hy : f y = .int .i64 (i : Int)) (hi : i < n) :
    (execOp f o).run Try.prog w = .ok (.value (.pointer (some ⟨b, off + i, none⟩))) w := by
  have hi' : (i : Int) < (n : Int) := by omega
  have h0 : (0 : Int) ≤ (i : Int) := by omega
  have hk : (sizeOf 9).run Try.prog w = .ok 1 w := by kernel_rfl
  simp [execOp, hop, hx, hy, Instr.indexAt, run_underlying Try.underlying45, hi', h0, hk, add_at, go_sem]
  intro h
  omega
/-- Two lists of texts, the very same. -/
theorem texts_any {W : World} {va vb : Value} {l : List (List UInt8)} (ha : Ss W va l) (hb : Ss W vb l) :
    Calls Try.prog 26 #[va, vb] W fun e w' => e = .returned (.bool true) ∧ Ext W w' := by
  obtain ⟨A, c, rfl, a1, a2, a3⟩ := ha.at_
  obtain ⟨B, e, rfl, b1, b2, b3⟩ := hb.at_
  unfold maxLen at a2 b2
  have hne : (((l.length : Nat) : Int) != ((l.length : Nat) : Int)) = false := by simp
  go_enter Try.func26, Try.ntmps26
  go_wp2_with fail
  go_loopw [5] (fun iv wr => ∃ k : Nat, k ≤ l.length ∧ iv = .int .i64 k ∧ Ext W wr) (fun iv _ => l.length - (intOf iv).toNat)
  case atStart => exact ⟨0, Nat.zero_le _, rfl, Ext.refl _⟩
  case round =>
    obtain ⟨k, hk, rfl, hwx⟩ := hrel
    have HWX := Lib.hid hwx
    by_cases hlt : k < l.length
    · obtain ⟨ba, oa, rfl, hba, hca⟩ := a3 (by omega)
      obtain ⟨bb, ob, rfl, hbb, hcb⟩ := b3 (by omega)
      obtain ⟨s, hs⟩ : ∃ s, l[k]? = some s := ⟨_, List.getElem?_eq_getElem hlt⟩
      have x1 := (hwx.cell (p := ⟨ba, oa + k, none⟩) hba).trans (hca k s hs)
      have x2 := (hwx.cell (p := ⟨bb, ob + k, none⟩) hbb).trans (hcb k s hs)
      have hb1 := Nat.lt_of_lt_of_le hba hwx.size
      have hb2 := Nat.lt_of_lt_of_le hbb hwx.size
      unfold strV at x1 x2
      have hq : (s != s) = false := by simp
      clear a3 b3 hca hcb hs hwx
      go_wp2_with fail
      refine wp_region_turns 0 [(0, 0, false), (0, 0, false), (0, 0, false), (0, 0, false), (0, 0, false), (0, 0, false), (0, 0, false), (0, 0, false), (0, 0, false)] (fun w0 c => w0) (by kernel_rfl) (by kernel_rfl) (by kernel_rfl) (fun _ => rfl) ?_
      intro w0 ws hext hsz hws
      have q0 : ws 0 = w0 := hws 0
      clear hws
      have y1 : w0.cell? ⟨ba, oa + k, none⟩ = _ := (hext.cell (p := ⟨ba, oa + k, none⟩) hb1).trans x1
      have y2 : w0.cell? ⟨bb, ob + k, none⟩ = _ := (hext.cell (p := ⟨bb, ob + k, none⟩) hb2).trans x2
      refine detT_pure rfl (.slice (some ⟨ba, oa, none⟩) l.length c) (fun _ _ => rfl) ?_ ?_
      · rintro ρ ⟨h0, -⟩ w'
        have e0 : ρ 0 = .slice (some ⟨ba, oa, none⟩) l.length c := h0
        simp [execOp, evR, e0, go_sem]
      refine detT_pure rfl (.int .i64 (k : Int)) (fun _ _ => rfl) ?_ ?_
      · rintro ρ ⟨h5, -⟩ w'
        have e5 : ρ 5 = .int .i64 (k : Int) := h5
        simp [execOp, evR, e5, go_sem]
      refine detT_pure rfl (.pointer (some ⟨ba, oa + k, none⟩)) (fun _ _ => rfl) ?_ ?_
      · rintro ρ ⟨h17, h18, -⟩ w'
        have e17 : ρ 17 = .slice (some ⟨ba, oa, none⟩) l.length c := h17
        have e18 : ρ 18 = .int .i64 (k : Int) := h18
        exact index_str rfl e17 e18 (by omega)
      refine detT_read rfl (.string ⟨s.toArray⟩) (fun _ _ => rfl) ?_ ?_
      · rintro ρ ⟨h19, -⟩ c hc1 hc2
        have e19 : ρ 19 = .pointer (some ⟨ba, oa + k, none⟩) := h19
        have hc : c = 0 := by have h1 : 0 ≤ c := hc1; have h2 : c ≤ 0 := hc2; omega
        rcases hc with rfl
        · rw [q0]
          simp [execOp, evR, e19, y1, go_sem]
      refine detT_pure rfl (.slice (some ⟨bb, ob, none⟩) l.length e) (fun _ _ => rfl) ?_ ?_
      · rintro ρ ⟨h1, -⟩ w'
        have e1 : ρ 1 = .slice (some ⟨bb, ob, none⟩) l.length e := h1
        simp [execOp, evR, e1, go_sem]
      refine detT_pure rfl (.int .i64 (k : Int)) (fun _ _ => rfl) ?_ ?_
      · rintro ρ ⟨h5, -⟩ w'
        have e5 : ρ 5 = .int .i64 (k : Int) := h5
        simp [execOp, evR, e5, go_sem]
      refine detT_pure rfl (.pointer (some ⟨bb, ob + k, none⟩)) (fun _ _ => rfl) ?_ ?_
      · rintro ρ ⟨h21, h22, -⟩ w'
        have e21 : ρ 21 = .slice (some ⟨bb, ob, none⟩) l.length e := h21
        have e22 : ρ 22 = .int .i64 (k : Int) := h22
        exact index_str rfl e21 e22 (by omega)
      refine detT_read rfl (.string ⟨s.toArray⟩) (fun _ _ => rfl) ?_ ?_
      · rintro ρ ⟨h23, -⟩ c hc1 hc2
        have e23 : ρ 23 = .pointer (some ⟨bb, ob + k, none⟩) := h23
        have hc : c = 0 := by have h1 : 0 ≤ c := hc1; have h2 : c ≤ 0 := hc2; omega
        rcases hc with rfl
        · rw [q0]
          simp [execOp, evR, e23, y2, go_sem]
      refine detT_pure rfl (.bool false) (fun _ _ => rfl) ?_ ?_
      · rintro ρ ⟨h20, h24, -⟩ w'
        have e20 : ρ 20 = .string ⟨s.toArray⟩ := h20
        have e24 : ρ 24 = .string ⟨s.toArray⟩ := h24
        simp [execOp, evR, e20, e24, go_sem]
      simp only [DetT, applyV, Act.put, List.setIfInBounds_toArray, List.set_cons_zero, List.set_cons_succ]
      rw [q0]
      have hx0 := hext
      go_wp2_with fail
      go_roundw
      case rel => exact ⟨k + 1, by omega, by simp, HWX.out.trans hx0⟩
      case measure => simp [intOf]; omega
    · go_wp2_with fail
      go_ret
      exact ⟨rfl, hwx⟩
end Go.Proofs.Ytkejoiknnigllaa
