/-
  The walk of the document's Same of groups, at groups that are the same.
-/
import Derived.Test.YtjamopclfpmgjaaPolLives
namespace Go.Proofs.Ytjamopclfpmgjaa
open Go Go.RowKit Mono Num
set_option linter.unusedVariables false
set_option linter.unusedSimpArgs false

set_option maxHeartbeats 2000000 in
theorem gSame_any (va vb : Value) (l : List Grp) (w : World) (ha : Gs w va l) (hb : Gs w vb l) :
    Calls Try.prog 13 #[va, vb] w fun e w' => e = .returned (.bool true) ∧ Ext w w' := by
  obtain ⟨A, c, rfl, h1, h2, h3, h4⟩ := ha.at_
  obtain ⟨B, d, rfl, k1, k2, k3, k4⟩ := hb.at_
  have hl2 : (((l.length : Nat) : Int) != ((l.length : Nat) : Int)) = false := by simp
  go_enter Try.func13, Try.ntmps13
  go_wp2_with fail
  go_loopw [5] (fun i wr => ∃ k : Nat, k ≤ l.length ∧ i = .int .i64 k ∧ Ext w wr) (fun i _ => l.length - (intOf i).toNat)
  case atStart => exact ⟨0, Nat.zero_le _, rfl, Ext.refl _⟩
  case round =>
    obtain ⟨i, hi, rfl, hx⟩ := hrel
    by_cases hlt : i < l.length
    · obtain ⟨ba, oa, rfl, hba, hca⟩ := h4 (by omega)
      obtain ⟨bb, ob, rfl, hbb, hcb⟩ := k4 (by omega)
      obtain ⟨n, p, hg, xa1, xa2, _, _⟩ := hca i hlt
      obtain ⟨n', p', hg', xb1, xb2, _, _⟩ := hcb i hlt
      rw [hg] at hg'
      injection hg' with hg'
      injection hg' with e1 e2
      subst e1 e2
      have hia : (i : Int) < l.length := by omega
      have hz0 : ∀ x : Nat, (0 : Int) ≤ (x : Int) := fun x => by omega
      replace xa1 := (hx.cell (p := ⟨ba, oa + i * 2, none⟩) hba).trans xa1
      replace xa2 := (hx.cell (p := ⟨ba, oa + i * 2 + 1, none⟩) hba).trans xa2
      replace xb1 := (hx.cell (p := ⟨bb, ob + i * 2, none⟩) hbb).trans xb1
      replace xb2 := (hx.cell (p := ⟨bb, ob + i * 2 + 1, none⟩) hbb).trans xb2
      have hba' := Nat.lt_of_lt_of_le hba hx.size
      have hbb' := Nat.lt_of_lt_of_le hbb hx.size
      clear hca hcb h4 k4 hg
      go_wp2_with fail
      refine wp_region_mono (by kernel_rfl) (by kernel_rfl) ?_
      refine tele_move rfl (.inl rfl) rfl (isV (.slice (some ⟨ba, oa, none⟩) l.length c)) (fun ρ w' h => h) ?_
      refine tele_move rfl (.inl rfl) rfl (isV (.int .i64 (i : Int))) (fun ρ w' h => h) ?_
      refine tele_val rfl (.pointer (some ⟨ba, oa + i * 2, none⟩)) (fun _ _ _ => rfl) ?_ ?_
      · rintro ρ w' he ⟨h17, h18, -⟩
        have e17 : ρ 17 = (.slice (some ⟨ba, oa, none⟩) l.length c) := h17
        have e18 : ρ 18 = (.int .i64 (i : Int)) := h18
        simp [execOp, evR, e17, e18, hia, hz0, add_at, go_sem]
      refine tele_val rfl (.agg #[strV n, .int .i64 p]) (fun _ _ _ => rfl) ?_ ?_
      · rintro ρ w' he ⟨h19, -⟩
        have e19 : ρ 19 = (.pointer (some ⟨ba, oa + i * 2, none⟩)) := h19
        have c1 := (he.cell (p := ⟨ba, oa + i * 2, none⟩) hba').trans xa1
        have c2 := (he.cell (p := ⟨ba, oa + i * 2 + 1, none⟩) hba').trans xa2
        simp [execOp, evR, e19, c1, c2, go_sem]
      refine tele_move rfl (.inl rfl) rfl (isV (.slice (some ⟨bb, ob, none⟩) l.length d)) (fun ρ w' h => h) ?_
      refine tele_move rfl (.inl rfl) rfl (isV (.int .i64 (i : Int))) (fun ρ w' h => h) ?_
      refine tele_val rfl (.pointer (some ⟨bb, ob + i * 2, none⟩)) (fun _ _ _ => rfl) ?_ ?_
      · rintro ρ w' he ⟨h21, h22, -⟩
        have e21 : ρ 21 = (.slice (some ⟨bb, ob, none⟩) l.length d) := h21
        have e22 : ρ 22 = (.int .i64 (i : Int)) := h22
        simp [execOp, evR, e21, e22, hia, hz0, add_at, go_sem]
      refine tele_val rfl (.agg #[strV n, .int .i64 p]) (fun _ _ _ => rfl) ?_ ?_
      · rintro ρ w' he ⟨h23, -⟩
        have e23 : ρ 23 = (.pointer (some ⟨bb, ob + i * 2, none⟩)) := h23
        have c1 := (he.cell (p := ⟨bb, ob + i * 2, none⟩) hbb').trans xb1
        have c2 := (he.cell (p := ⟨bb, ob + i * 2 + 1, none⟩) hbb').trans xb2
        simp [execOp, evR, e23, c1, c2, go_sem]
      refine tele_val rfl (.bool false) (fun _ _ _ => rfl) ?_ ?_
      · rintro ρ w' he ⟨h20, h24, -⟩
        have e20 : ρ 20 = (.agg #[strV n, .int .i64 p]) := h20
        have e24 : ρ 24 = (.agg #[strV n, .int .i64 p]) := h24
        simp [execOp, evR, e20, e24, strV, go_sem]
      refine tele_nil ?_
      rintro ρ w' hext ⟨f25, f24, f23, f22, f21, f20, f19, f18, f17, -⟩
      replace f17 : ρ 17 = (.slice (some ⟨ba, oa, none⟩) l.length c) := f17
      replace f18 : ρ 18 = (.int .i64 (i : Int)) := f18
      replace f19 : ρ 19 = (.pointer (some ⟨ba, oa + i * 2, none⟩)) := f19
      replace f20 : ρ 20 = (.agg #[strV n, .int .i64 p]) := f20
      replace f21 : ρ 21 = (.slice (some ⟨bb, ob, none⟩) l.length d) := f21
      replace f22 : ρ 22 = (.int .i64 (i : Int)) := f22
      replace f23 : ρ 23 = (.pointer (some ⟨bb, ob + i * 2, none⟩)) := f23
      replace f24 : ρ 24 = (.agg #[strV n, .int .i64 p]) := f24
      replace f25 : ρ 25 = (.bool false) := f25
      simp only [puts, Act.put, List.setIfInBounds_toArray, List.set_cons_zero, List.set_cons_succ]
      rw [f25]
      go_wp2_with fail
      go_roundw
      case rel => exact ⟨i + 1, by omega, by go_num, Ext.trans hx hext⟩
      case measure => simp [intOf]; omega
    · go_wp2_with fail
      go_ret
      exact ⟨rfl, hx⟩
end Go.Proofs.Ytjamopclfpmgjaa
