/-
  The walk of the document's Good of groups.
-/
import Derived.Test.YtjajlbfokbmadaaDoorPolGood
namespace Go.Proofs.YtjajlbfokbmadaaDoor
open Go Go.RowKit Mono Num Go.Maps Go.WideMaps
set_option linter.unusedVariables false
set_option linter.unusedSimpArgs false
set_option maxRecDepth 10000

theorem grpOk_false_of {n : List UInt8} {p : Int} (h : nameOk n = false ∨ polOk p = false) : grpOk (n, p) = false := by
  unfold grpOk
  rcases h with h | h <;> simp [h]
theorem names_get {l : List Grp} {k i : Nat} {m : List UInt8} {q : Int} (h : l[k]? = some (m, q)) (hk : k < i) : m ∈ (l.take i).map (·.1) := by
  refine List.mem_map.2 ⟨(m, q), ?_, rfl⟩
  refine List.mem_of_getElem? (i := k) ?_
  rw [List.getElem?_take, if_pos hk]
  exact h
theorem names_none {l : List Grp} {i : Nat} {n : List UInt8} (hi : i ≤ l.length) (h : ∀ j m q, j < i → l[j]? = some (m, q) → m ≠ n) : n ∉ (l.take i).map (·.1) := by
  intro hm
  obtain ⟨⟨m, q⟩, hg, hmn⟩ := List.mem_map.1 hm
  obtain ⟨j, hj⟩ := List.getElem?_of_mem hg
  rw [List.getElem?_take] at hj
  split at hj
  · rename_i hji
    exact h j m q hji hj hmn
  · cases hj

set_option maxHeartbeats 4000000 in
theorem refGood_any (v : Value) (l : List Grp) (w : World) (hv : Gs w v l) :
    Calls Tryd.prog 37 #[v] w fun e w' => e = .returned (.int .i64 ((pgood l : Nat) : Int)) ∧ Ext w w' := by
  obtain ⟨A, c, rfl, h1, h2, h3, h4⟩ := hv.at_
  by_cases h0 : l.length = 0
  · have HP := Lib.hid (show pgood l = 2 by unfold pgood; rw [if_pos h0])
    obtain rfl := List.eq_nil_of_length_eq_zero h0
    go_enter Tryd.func37, Tryd.ntmps37
    go_wp2_with fail
    go_ret
    exact ⟨by rw [HP.out]; rfl, Ext.refl _⟩
  · by_cases h4l : 4 < l.length
    · have HP := Lib.hid (show pgood l = 3 by unfold pgood; rw [if_neg h0, if_pos h4l])
      have e0 : ((l.length : Int) == 0) = false := by rw [beq_eq_false_iff_ne]; omega
      go_enter Tryd.func37, Tryd.ntmps37
      go_wp2_with fail
      go_ret
      exact ⟨by rw [HP.out]; rfl, Ext.refl _⟩
    · have HP := Lib.hid (pgood_start l h0 h4l)
      obtain ⟨b, off, rfl, hb, hcell⟩ := h4 (by omega)
      have e0 : ((l.length : Int) == 0) = false := by rw [beq_eq_false_iff_ne]; omega
      clear h4
      have HC := Lib.hid hcell
      clear hcell
      go_enter Tryd.func37, Tryd.ntmps37
      go_wp2_with fail
      go_loopw [3, 4] (fun i _ wr => ∃ k : Nat, k ≤ l.length ∧ i = .int .i64 k ∧ pgood l = pgoodF ((l.take k).map (·.1)) (l.drop k) ∧ Ext w wr) (fun i _ _ => l.length - (intOf i).toNat)
      case atStart => exact ⟨0, Nat.zero_le _, rfl, HP.out, Ext.refl _⟩
      case round =>
        obtain ⟨i, hi, rfl, hpg, hx⟩ := hrel
        by_cases hlt : i < l.length
        · obtain ⟨n, p, hget, hc1, hc2, hn, hp⟩ := HC.out i hlt
          have hst := pgoodF_step ((l.take i).map (·.1)) l i n p hget
          rw [← hpg] at hst
          have hts : (l.take (i + 1)).map (·.1) = (l.take i).map (·.1) ++ [n] := by rw [List.take_add_one, hget, List.map_append]; rfl
          replace hc1 := (hx.cell (p := ⟨b, off + i * 2, none⟩) hb).trans hc1
          replace hc2 := (hx.cell (p := ⟨b, off + i * 2 + 1, none⟩) hb).trans hc2
          have hb0 := Nat.lt_of_lt_of_le hb hx.size
          have HS := Lib.hid hst
          have HT := Lib.hid hts
          have NC := Lib.hid hc1
          clear hst hts hpg hget
          unfold strV at hc1
          have HN := Lib.hid (fun w => refName_any n w hn)
          unfold strV at HN
          go_wp2_with fail
          refine (HN.out _).mono ?_
          rintro e w1 ⟨rfl, rfl⟩
          clear HN
          cases hno : nameOk n
          · have HR := Lib.hid (show pgood l = 2 by rw [HS.out, if_pos (grpOk_false_of (.inl hno))])
            clear hno
            go_wp2_with fail
            go_ret
            exact ⟨by rw [HR.out]; rfl, hx⟩
          · by_cases hpp : p = 1 ∨ p = 2
            · have hpo : grpOk (n, p) = true := by unfold grpOk polOk; rw [hno]; rcases hpp with rfl | rfl <;> rfl
              have HO := Lib.hid hpo
              clear hno hpo
              rcases hpp with rfl | rfl
              all_goals
                go_wp2_with fail
                obtain ⟨wo, rfl⟩ : ∃ wo : World, wo = wr := ⟨_, rfl⟩
                go_loopw [4] (fun j wr => ∃ k : Nat, k ≤ i ∧ j = .int .i64 k ∧ (∀ j m q, j < k → l[j]? = some (m, q) → m ≠ n) ∧ Ext wo wr) (fun j _ => i - (intOf j).toNat)
                case atStart => exact ⟨0, Nat.zero_le _, rfl, fun j m q h => absurd h (by omega), Ext.refl _⟩
                case round =>
                  obtain ⟨k, hk, rfl, hall, hxk⟩ := hrel
                  have HL := Lib.hid hall
                  clear hall
                  by_cases hki : k < i
                  · obtain ⟨m, q, kget, mc, _, _, _⟩ := HC.out k (by omega)
                    have hkl2 : (k : Int) < l.length := by omega
                    have hil2 : (i : Int) < l.length := by omega
                    have hz0 : ∀ x : Nat, (0 : Int) ≤ (x : Int) := fun x => by omega
                    replace mc := ((Ext.trans hx hxk).cell (p := ⟨b, off + k * 2, none⟩) hb).trans mc
                    have nc := (hxk.cell (p := ⟨b, off + i * 2, none⟩) hb0).trans NC.out
                    have hbw := Nat.lt_of_lt_of_le hb0 hxk.size
                    have HG := Lib.hid kget
                    clear kget
                    go_wp2_with fail
                    refine wp_region_mono (by kernel_rfl) (by kernel_rfl) ?_
                    refine tele_move rfl (.inl rfl) rfl (isV (.slice (some ⟨b, off, none⟩) l.length c)) (fun ρ w' h => h) ?_
                    refine tele_move rfl (.inl rfl) rfl (isV (.int .i64 (k : Int))) (fun ρ w' h => h) ?_
                    refine tele_val rfl (.pointer (some ⟨b, off + k * 2, none⟩)) (fun _ _ _ => rfl) ?_ ?_
                    · rintro ρ w' he ⟨h45, h46, -⟩
                      have e45 : ρ 45 = (.slice (some ⟨b, off, none⟩) l.length c) := h45
                      have e46 : ρ 46 = (.int .i64 (k : Int)) := h46
                      simp [execOp, evR, e45, e46, hkl2, hz0, add_at, go_sem]
                    refine tele_val rfl (.pointer (some ⟨b, off + k * 2, none⟩)) (fun _ _ _ => rfl) ?_ ?_
                    · rintro ρ w' he ⟨h47, -⟩
                      have e47 : ρ 47 = (.pointer (some ⟨b, off + k * 2, none⟩)) := h47
                      simp [execOp, evR, e47, go_sem]
                    refine tele_val rfl (strV m) (fun _ _ _ => rfl) ?_ ?_
                    · rintro ρ w' he ⟨h48, -⟩
                      have e48 : ρ 48 = (.pointer (some ⟨b, off + k * 2, none⟩)) := h48
                      have c := (he.cell (p := ⟨b, off + k * 2, none⟩) hbw).trans mc
                      simp [execOp, evR, e48, c, go_sem]
                    refine tele_move rfl (.inl rfl) rfl (isV (.slice (some ⟨b, off, none⟩) l.length c)) (fun ρ w' h => h) ?_
                    refine tele_move rfl (.inl rfl) rfl (isV (.int .i64 (i : Int))) (fun ρ w' h => h) ?_
                    refine tele_val rfl (.pointer (some ⟨b, off + i * 2, none⟩)) (fun _ _ _ => rfl) ?_ ?_
                    · rintro ρ w' he ⟨h50, h51, -⟩
                      have e50 : ρ 50 = (.slice (some ⟨b, off, none⟩) l.length c) := h50
                      have e51 : ρ 51 = (.int .i64 (i : Int)) := h51
                      simp [execOp, evR, e50, e51, hil2, hz0, add_at, go_sem]
                    refine tele_val rfl (.pointer (some ⟨b, off + i * 2, none⟩)) (fun _ _ _ => rfl) ?_ ?_
                    · rintro ρ w' he ⟨h52, -⟩
                      have e52 : ρ 52 = (.pointer (some ⟨b, off + i * 2, none⟩)) := h52
                      simp [execOp, evR, e52, go_sem]
                    refine tele_val rfl (strV n) (fun _ _ _ => rfl) ?_ ?_
                    · rintro ρ w' he ⟨h53, -⟩
                      have e53 : ρ 53 = (.pointer (some ⟨b, off + i * 2, none⟩)) := h53
                      have c := (he.cell (p := ⟨b, off + i * 2, none⟩) hbw).trans nc
                      simp [execOp, evR, e53, c, go_sem]
                    refine tele_val rfl (.bool (m == n)) (fun _ _ _ => rfl) ?_ ?_
                    · rintro ρ w' he ⟨h49, h54, -⟩
                      have e49 : ρ 49 = (strV m) := h49
                      have e54 : ρ 54 = (strV n) := h54
                      exact exec_eql_str rfl e49 e54
                    refine tele_nil ?_
                    rintro ρ w' hext ⟨f55, f54, f53, f52, f51, f50, f49, f48, f47, f46, f45, -⟩
                    replace f45 : ρ 45 = (.slice (some ⟨b, off, none⟩) l.length c) := f45
                    replace f46 : ρ 46 = (.int .i64 (k : Int)) := f46
                    replace f47 : ρ 47 = (.pointer (some ⟨b, off + k * 2, none⟩)) := f47
                    replace f48 : ρ 48 = (.pointer (some ⟨b, off + k * 2, none⟩)) := f48
                    replace f49 : ρ 49 = (strV m) := f49
                    replace f50 : ρ 50 = (.slice (some ⟨b, off, none⟩) l.length c) := f50
                    replace f51 : ρ 51 = (.int .i64 (i : Int)) := f51
                    replace f52 : ρ 52 = (.pointer (some ⟨b, off + i * 2, none⟩)) := f52
                    replace f53 : ρ 53 = (.pointer (some ⟨b, off + i * 2, none⟩)) := f53
                    replace f54 : ρ 54 = (strV n) := f54
                    replace f55 : ρ 55 = (.bool (m == n)) := f55
                    simp only [puts, Act.put, List.setIfInBounds_toArray, List.set_cons_zero, List.set_cons_succ]
                    cases hmn : (m == n)
                    · rw [hmn] at f55
                      rw [f55]
                      have HN := Lib.hid (show ∀ j m q, j < k + 1 → l[j]? = some (m, q) → m ≠ n by
                        intro j m' q' hj hg
                        by_cases hjk : j = k
                        · subst hjk
                          rw [HG.out] at hg
                          injection hg with hg
                          injection hg with hg _
                          subst hg
                          exact by simpa using hmn
                        · exact HL.out j m' q' (by omega) hg)
                      clear hmn
                      go_wp2_with fail
                      go_roundw
                      case rel => exact ⟨k + 1, by omega, by go_num, HN.out, Ext.trans hxk hext⟩
                      case measure => simp [intOf]; omega
                    · rw [hmn] at f55
                      rw [f55]
                      have hmm : m = n := by simpa using hmn
                      have HR := Lib.hid (show pgood l = 70 by rw [HS.out, if_neg (by simp [HO.out]), if_pos (by rw [← hmm]; exact names_get HG.out hki)])
                      clear hmn hmm
                      go_wp2_with fail
                      go_ret
                      exact ⟨by rw [HR.out]; rfl, Ext.trans hx (Ext.trans hxk hext)⟩
                  · have hki2 : k = i := by omega
                    subst hki2
                    have HR := Lib.hid (show pgood l = pgoodF ((l.take (k + 1)).map (·.1)) (l.drop (k + 1)) by rw [HS.out, if_neg (by simp [HO.out]), if_neg (names_none hi HL.out), HT.out])
                    go_wp2_with fail
                    go_roundw
                    case rel => exact ⟨k + 1, by omega, by go_num, HR.out, Ext.trans hx hxk⟩
                    case measure => simp [intOf]; omega
            · obtain ⟨q1, q2⟩ : ¬ p = 1 ∧ ¬ p = 2 := ⟨fun e => hpp (.inl e), fun e => hpp (.inr e)⟩
              have b1 : (p != 1) = true := by simpa using q1
              have b2 : (p != 2) = true := by simpa using q2
              have HR := Lib.hid (show pgood l = 2 by rw [HS.out, if_pos (grpOk_false_of (.inr (by unfold polOk; simp [q1, q2])))])
              clear hpp hno q1 q2
              go_wp2_with fail
              go_ret
              exact ⟨by rw [HR.out]; rfl, hx⟩
        · have hil : i = l.length := by omega
          have HR := Lib.hid (show pgood l = 0 by rw [hpg, hil, List.drop_length]; rfl)
          clear hpg hil
          go_wp2_with fail
          go_ret
          exact ⟨by rw [HR.out]; rfl, hx⟩
end Go.Proofs.YtjajlbfokbmadaaDoor
