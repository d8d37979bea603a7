/-
  The walk of policy.Good: which groups are a schema.
-/
import Derived.Test.YtocdifjdeifclaaPolNamed
import Derived.Maps.Own
import Derived.Maps.OwnOps
import Derived.Maps.Views
namespace Go.Proofs.Ytocdifjdeifclaa
open Go Go.RowKit Mono Num Go.Maps Go.WideMaps
set_option linter.unusedVariables false
set_option linter.unusedSimpArgs false
set_option maxRecDepth 10000

theorem klaw : Keyed Try.prog 9 := string_keyed Try.underlying9
theorem zeroInt (w : World) : (zeroValue 3).run Try.prog w = .ok (.int .i64 0) w := by kernel_rfl
/-- Each name that was met is there once. -/
def Met (D : DataW Unit) (names : List (List UInt8)) : Prop := IsMap D ∧ ∀ s : List UInt8, D.atKey (.string s) (.lit (.int .i64 0)) = .lit (.int .i64 (if s ∈ names then 1 else 0))
theorem Met.nil_ : Met (.map []) [] := ⟨isMap_empty, fun s => rfl⟩
theorem Met.snoc {D : DataW Unit} {names : List (List UInt8)} (h : Met D names) (n : List UInt8) (hk : WideAt.IsKeyLit (.string n)) : Met (D.put (.string n) (.lit (.int .i64 1))) (names ++ [n]) := by
  refine ⟨IsMap.put h.1 _ _, fun s => ?_⟩
  by_cases hs : s = n
  · subst hs
    rw [atKey_put_same h.1 hk]
    simp
  · rw [atKey_put_other (fun e => hs (by injection e)), h.2 s]
    simp [hs]
theorem ownsMap_ext {w w' : World} {k : TypeId} {R : Value → Option (DataW Unit × List MemPlace)} {b n : Nat} {D : DataW Unit} (h : w.ownsMap Try.prog k R b n D) (he : Ext w w') : w'.ownsMap Try.prog k R b n D := by
  have hbl := h.lt
  obtain ⟨es, clock, hb, F, hs, hD⟩ := h
  exact ⟨es, clock, (he.block b hbl).trans hb, F, hs, hD⟩
theorem pgood_start (l : List Grp) (h0 : l.length ≠ 0) (h4 : ¬ 4 < l.length) : pgood l = pgoodF [] l := by unfold pgood; rw [if_neg h0, if_neg h4]
theorem pgoodF_step (met : List (List UInt8)) (l : List Grp) (i : Nat) (n : List UInt8) (p : Int) (h : l[i]? = some (n, p)) :
    pgoodF met (l.drop i) = if grpOk (n, p) = false then 2 else if n ∈ met then 70 else pgoodF (met ++ [n]) (l.drop (i + 1)) := by
  have hi : i < l.length := (List.getElem?_eq_some_iff.1 h).1
  have : l.drop i = (n, p) :: l.drop (i + 1) := by
    rw [List.drop_eq_getElem_cons hi]
    congr 1
    exact (List.getElem?_eq_some_iff.1 h).2
  rw [this, pgoodF]

set_option maxHeartbeats 2000000 in
theorem polGood_any (v : Value) (l : List Grp) (w : World) (hv : Gs w v l) :
    Calls Try.prog 33 #[v] w fun e w' => e = .returned (.int .i64 ((pgood l : Nat) : Int)) ∧ Ext w w' := by
  obtain ⟨A, c, rfl, h1, h2, h3, h4⟩ := hv.at_
  have hmm := @run_makeMap Try.prog
  by_cases h0 : l.length = 0
  · have HP := Lib.hid (show pgood l = 2 by unfold pgood; rw [if_pos h0])
    obtain rfl := List.eq_nil_of_length_eq_zero h0
    go_enter Try.func33, Try.ntmps33
    go_wp2_with fail
    go_ret
    exact ⟨by rw [HP.out]; rfl, Ext.refl _⟩
  · by_cases h4l : 4 < l.length
    · have HP := Lib.hid (show pgood l = 3 by unfold pgood; rw [if_neg h0, if_pos h4l])
      have e0 : ((l.length : Int) == 0) = false := by rw [beq_eq_false_iff_ne]; omega
      go_enter Try.func33, Try.ntmps33
      go_wp2_with fail
      go_ret
      exact ⟨by rw [HP.out]; rfl, Ext.refl _⟩
    · have HP := Lib.hid (pgood_start l h0 h4l)
      obtain ⟨b, off, rfl, hb, hcell⟩ := h4 (by omega)
      have e0 : ((l.length : Int) == 0) = false := by rw [beq_eq_false_iff_ne]; omega
      clear h4
      have HC := Lib.hid hcell
      clear hcell
      go_enter Try.func33, Try.ntmps33
      go_wp2_with fail
      go_loopw [17] (fun i wr => ∃ (k : Nat) (D : DataW Unit), k ≤ l.length ∧ i = .int .i64 k ∧ wr.ownsMap Try.prog 9 (plainElem Try.prog 3) w.heap.size k D ∧ Met D ((l.take k).map (·.1)) ∧ pgood l = pgoodF ((l.take k).map (·.1)) (l.drop k) ∧ Ext w wr) (fun i _ => l.length - (intOf i).toNat)
      case atStart => exact ⟨0, .map [], Nat.zero_le _, rfl, World.ownsMap_made _ _ _ _, Met.nil_, HP.out, ext_alloc _ _⟩
      case round =>
        obtain ⟨i, D, hi, rfl, hown, hmet, hpg, hx⟩ := hrel
        by_cases hlt : i < l.length
        · obtain ⟨n, p, hget, hc1, hc2, hn, hp⟩ := HC.out i hlt
          have hst := pgoodF_step ((l.take i).map (·.1)) l i n p hget
          rw [← hpg] at hst
          have hts : (l.take (i + 1)).map (·.1) = (l.take i).map (·.1) ++ [n] := by rw [List.take_add_one, hget, List.map_append]; rfl
          replace hc1 := (hx.cell (p := ⟨b, off + i * 2, none⟩) hb).trans hc1
          replace hc2 := (hx.cell (p := ⟨b, off + i * 2 + 1, none⟩) hb).trans hc2
          have HS := Lib.hid hst
          have HT := Lib.hid hts
          have HM := Lib.hid hmet
          clear hst hts hpg hget hmet
          unfold strV at hc1
          have HN := Lib.hid (fun w => named_any n p w hn)
          unfold grpV strV at HN
          dsimp only at HN
          go_wp2_with fail
          refine (HN.out _).mono ?_
          rintro e w1 ⟨rfl, he⟩
          have hb1 := Blk.new wr #[.string ⟨n.toArray⟩, .int .i64 p] 52 |>.ext he
          have hd1 := hb1.cell (i := 0) rfl
          have hown1 := ownsMap_ext hown (Ext.trans (ext_alloc _ _) he)
          have hx1 : Ext w w1 := Ext.trans hx (Ext.trans (ext_alloc _ _) he)
          have hs1 := hx.size
          have hs2 := hx1.size
          have hb1l := hb1.lt
          clear HN he hb1
          cases hg : grpOk (n, p)
          · have HR := Lib.hid (show pgood l = 2 by rw [HS.out, if_pos hg])
            clear hg
            go_wp2_with fail
            go_ret
            exact ⟨by rw [HR.out]; rfl, hx1⟩
          · have hkey : keyOf Try.prog 9 (.string ⟨n.toArray⟩) = some (.string n) := keyOf_string_mk Try.underlying9 (by rw [strV_size]; exact hn)
            have hkl : WideAt.IsKeyLit (.string n) := klaw.key hkey
            have hBr := hown.lt
            have hlt1 : wr.heap.size < w1.heap.size := by have := hb1l; exact this
            by_cases hmem : n ∈ (l.take i).map (·.1)
            · have HR := Lib.hid (show pgood l = 70 by rw [HS.out, if_neg (by simp [hg]), if_pos hmem])
              have HA := Lib.hid (show D.atKey (.string n) (.lit (.int .i64 0)) = .lit (.int .i64 1) by rw [HM.out.2 n, if_pos hmem])
              have HK := Lib.hid hkey
              clear hg hmem hkey
              go_wp2_with (first | (at_lookup; refine wpList_lookup_own_int _ rfl (.tmp 24) (.tmp 26) 114 rfl 9 3 .i64 klaw Try.underlying114 Try.underlying3 (zeroInt _) w.heap.size i _ rfl hown1 _ _ rfl HK.out ?_; intro c1 hat1 hwc1; obtain rfl : c1 = 1 := (by have := hat1.symm.trans HA.out; injection this with this; injection this); clear hat1) | (at_mapUpdate; refine wpList_mapUpdate_own _ rfl _ _ _ 114 rfl 9 3 klaw Try.underlying114 _ w.heap.size i _ rfl hown1 (by unfold maxLen; omega) _ _ _ rfl rfl HK.out _ [] (plainElem_int Try.underlying3 (by decide)) ?_; intro w2 hown2 hgrow2; have hd2 := (World.cell?_of_block (a := ⟨wr.heap.size, 0, none⟩) (hgrow2.block _ hlt1 (by simp; omega))).trans hd1) | (at_lookup; refine wpList_lookup_own_int _ rfl (.tmp 29) (.tmp 31) 114 rfl 9 3 .i64 klaw Try.underlying114 Try.underlying3 (zeroInt _) w.heap.size (i + 1) _ rfl hown2 _ _ rfl HK.out ?_; intro c2 hat2 hwc2; obtain rfl : c2 = 2 := (by have := hat2.symm.trans (atKey_put_same HM.out.1 hkl _ _); injection this with this; injection this); clear hat2))
              go_ret
              exact ⟨by rw [HR.out]; rfl, Below.grown hx1 hgrow2 hs2 (fun j hj => by cases hj; exact Nat.le_refl _)⟩
            · have HR := Lib.hid (show pgood l = pgoodF ((l.take (i + 1)).map (·.1)) (l.drop (i + 1)) by rw [HS.out, if_neg (by simp [hg]), if_neg hmem, HT.out])
              have HA := Lib.hid (show D.atKey (.string n) (.lit (.int .i64 0)) = .lit (.int .i64 0) by rw [HM.out.2 n, if_neg hmem])
              have HK := Lib.hid hkey
              clear hg hmem hkey
              go_wp2_with (first | (at_lookup; refine wpList_lookup_own_int _ rfl (.tmp 24) (.tmp 26) 114 rfl 9 3 .i64 klaw Try.underlying114 Try.underlying3 (zeroInt _) w.heap.size i _ rfl hown1 _ _ rfl HK.out ?_; intro c1 hat1 hwc1; obtain rfl : c1 = 0 := (by have := hat1.symm.trans HA.out; injection this with this; injection this); clear hat1) | (at_mapUpdate; refine wpList_mapUpdate_own _ rfl _ _ _ 114 rfl 9 3 klaw Try.underlying114 _ w.heap.size i _ rfl hown1 (by unfold maxLen; omega) _ _ _ rfl rfl HK.out _ [] (plainElem_int Try.underlying3 (by decide)) ?_; intro w2 hown2 hgrow2; have hd2 := (World.cell?_of_block (a := ⟨wr.heap.size, 0, none⟩) (hgrow2.block _ hlt1 (by simp; omega))).trans hd1) | (at_lookup; refine wpList_lookup_own_int _ rfl (.tmp 29) (.tmp 31) 114 rfl 9 3 .i64 klaw Try.underlying114 Try.underlying3 (zeroInt _) w.heap.size (i + 1) _ rfl hown2 _ _ rfl HK.out ?_; intro c2 hat2 hwc2; obtain rfl : c2 = 1 := (by have := hat2.symm.trans (atKey_put_same HM.out.1 hkl _ _); injection this with this; injection this); clear hat2))
              go_roundw
              case rel => exact ⟨i + 1, _, by omega, by go_num, hown2, by rw [HT.out]; exact HM.out.snoc n hkl, HR.out, Below.grown hx1 hgrow2 hs2 (fun j hj => by cases hj; exact Nat.le_refl _)⟩
              case measure => simp [intOf]; omega
        · have hil : i = l.length := by omega
          have HR := Lib.hid (show pgood l = 0 by rw [hpg, hil, List.drop_length]; rfl)
          clear hpg hmet hil
          go_wp2_with fail
          go_ret
          exact ⟨by rw [HR.out]; rfl, hx⟩
end Go.Proofs.Ytocdifjdeifclaa

/-
  The walk of the document's Good of groups.
-/
namespace Go.Proofs.Ytocdifjdeifclaa
open Go Go.RowKit Mono Num Go.Maps Go.WideMaps
set_option linter.unusedVariables false
set_option linter.unusedSimpArgs false
set_option maxRecDepth 10000

theorem grpOk_false_of {n : List UInt8} {p : Int} (h : nameOk n = false ∨ polOk p = false) : grpOk (n, p) = false := by
  unfold grpOk
  rcases h with h | h <;> simp [h]
theorem names_get {l : List Grp} {k i : Nat} {m : List UInt8} {q : Int} (h : l[k]? = some (m, q)) (hk : k < i) : m ∈ (l.take i).map (·.1) := by
  refine List.mem_map.2 ⟨(m, q), ?_, rfl⟩
  refine List.mem_of_getElem? (i := k) ?_
  rw [List.getElem?_take, if_pos hk]
  exact h
theorem names_none {l : List Grp} {i : Nat} {n : List UInt8} (hi : i ≤ l.length) (h : ∀ j m q, j < i → l[j]? = some (m, q) → m ≠ n) : n ∉ (l.take i).map (·.1) := by
  intro hm
  obtain ⟨⟨m, q⟩, hg, hmn⟩ := List.mem_map.1 hm
  obtain ⟨j, hj⟩ := List.getElem?_of_mem hg
  rw [List.getElem?_take] at hj
  split at hj
  · rename_i hji
    exact h j m q hji hj hmn
  · cases hj

set_option maxHeartbeats 4000000 in
theorem refGood_any (v : Value) (l : List Grp) (w : World) (hv : Gs w v l) :
    Calls Try.prog 38 #[v] w fun e w' => e = .returned (.int .i64 ((pgood l : Nat) : Int)) ∧ Ext w w' := by
  obtain ⟨A, c, rfl, h1, h2, h3, h4⟩ := hv.at_
  by_cases h0 : l.length = 0
  · have HP := Lib.hid (show pgood l = 2 by unfold pgood; rw [if_pos h0])
    obtain rfl := List.eq_nil_of_length_eq_zero h0
    go_enter Try.func38, Try.ntmps38
    go_wp2_with fail
    go_ret
    exact ⟨by rw [HP.out]; rfl, Ext.refl _⟩
  · by_cases h4l : 4 < l.length
    · have HP := Lib.hid (show pgood l = 3 by unfold pgood; rw [if_neg h0, if_pos h4l])
      have e0 : ((l.length : Int) == 0) = false := by rw [beq_eq_false_iff_ne]; omega
      go_enter Try.func38, Try.ntmps38
      go_wp2_with fail
      go_ret
      exact ⟨by rw [HP.out]; rfl, Ext.refl _⟩
    · have HP := Lib.hid (pgood_start l h0 h4l)
      obtain ⟨b, off, rfl, hb, hcell⟩ := h4 (by omega)
      have e0 : ((l.length : Int) == 0) = false := by rw [beq_eq_false_iff_ne]; omega
      clear h4
      have HC := Lib.hid hcell
      clear hcell
      go_enter Try.func38, Try.ntmps38
      go_wp2_with fail
      go_loopw [3, 4] (fun i _ wr => ∃ k : Nat, k ≤ l.length ∧ i = .int .i64 k ∧ pgood l = pgoodF ((l.take k).map (·.1)) (l.drop k) ∧ Ext w wr) (fun i _ _ => l.length - (intOf i).toNat)
      case atStart => exact ⟨0, Nat.zero_le _, rfl, HP.out, Ext.refl _⟩
      case round =>
        obtain ⟨i, hi, rfl, hpg, hx⟩ := hrel
        by_cases hlt : i < l.length
        · obtain ⟨n, p, hget, hc1, hc2, hn, hp⟩ := HC.out i hlt
          have hst := pgoodF_step ((l.take i).map (·.1)) l i n p hget
          rw [← hpg] at hst
          have hts : (l.take (i + 1)).map (·.1) = (l.take i).map (·.1) ++ [n] := by rw [List.take_add_one, hget, List.map_append]; rfl
          replace hc1 := (hx.cell (p := ⟨b, off + i * 2, none⟩) hb).trans hc1
          replace hc2 := (hx.cell (p := ⟨b, off + i * 2 + 1, none⟩) hb).trans hc2
          have hb0 := Nat.lt_of_lt_of_le hb hx.size
          have HS := Lib.hid hst
          have HT := Lib.hid hts
          have NC := Lib.hid hc1
          clear hst hts hpg hget
          unfold strV at hc1
          have HN := Lib.hid (fun w => refName_any n w hn)
          unfold strV at HN
          go_wp2_with fail
          refine (HN.out _).mono ?_
          rintro e w1 ⟨rfl, rfl⟩
          clear HN
          cases hno : nameOk n
          · have HR := Lib.hid (show pgood l = 2 by rw [HS.out, if_pos (grpOk_false_of (.inl hno))])
            clear hno
            go_wp2_with fail
            go_ret
            exact ⟨by rw [HR.out]; rfl, hx⟩
          · by_cases hpp : p = 1 ∨ p = 2
            · have hpo : grpOk (n, p) = true := by unfold grpOk polOk; rw [hno]; rcases hpp with rfl | rfl <;> rfl
              have HO := Lib.hid hpo
              clear hno hpo
              rcases hpp with rfl | rfl
              all_goals
                go_wp2_with fail
                obtain ⟨wo, rfl⟩ : ∃ wo : World, wo = wr := ⟨_, rfl⟩
                go_loopw [4] (fun j wr => ∃ k : Nat, k ≤ i ∧ j = .int .i64 k ∧ (∀ j m q, j < k → l[j]? = some (m, q) → m ≠ n) ∧ Ext wo wr) (fun j _ => i - (intOf j).toNat)
                case atStart => exact ⟨0, Nat.zero_le _, rfl, fun j m q h => absurd h (by omega), Ext.refl _⟩
                case round =>
                  obtain ⟨k, hk, rfl, hall, hxk⟩ := hrel
                  have HL := Lib.hid hall
                  clear hall
                  by_cases hki : k < i
                  · obtain ⟨m, q, kget, mc, _, _, _⟩ := HC.out k (by omega)
                    have hkl2 : (k : Int) < l.length := by omega
                    have hil2 : (i : Int) < l.length := by omega
                    have hz0 : ∀ x : Nat, (0 : Int) ≤ (x : Int) := fun x => by omega
                    replace mc := ((Ext.trans hx hxk).cell (p := ⟨b, off + k * 2, none⟩) hb).trans mc
                    have nc := (hxk.cell (p := ⟨b, off + i * 2, none⟩) hb0).trans NC.out
                    have hbw := Nat.lt_of_lt_of_le hb0 hxk.size
                    have HG := Lib.hid kget
                    clear kget
                    go_wp2_with fail
                    refine wp_region_mono (by kernel_rfl) (by kernel_rfl) ?_
                    refine tele_move rfl (.inl rfl) rfl (isV (.slice (some ⟨b, off, none⟩) l.length c)) (fun ρ w' h => h) ?_
                    refine tele_move rfl (.inl rfl) rfl (isV (.int .i64 (k : Int))) (fun ρ w' h => h) ?_
                    refine tele_val rfl (.pointer (some ⟨b, off + k * 2, none⟩)) (fun _ _ _ => rfl) ?_ ?_
                    · rintro ρ w' he ⟨h45, h46, -⟩
                      have e45 : ρ 45 = (.slice (some ⟨b, off, none⟩) l.length c) := h45
                      have e46 : ρ 46 = (.int .i64 (k : Int)) := h46
                      simp [execOp, evR, e45, e46, hkl2, hz0, add_at, go_sem]
                    refine tele_val rfl (.pointer (some ⟨b, off + k * 2, none⟩)) (fun _ _ _ => rfl) ?_ ?_
                    · rintro ρ w' he ⟨h47, -⟩
                      have e47 : ρ 47 = (.pointer (some ⟨b, off + k * 2, none⟩)) := h47
                      simp [execOp, evR, e47, go_sem]
                    refine tele_val rfl (strV m) (fun _ _ _ => rfl) ?_ ?_
                    · rintro ρ w' he ⟨h48, -⟩
                      have e48 : ρ 48 = (.pointer (some ⟨b, off + k * 2, none⟩)) := h48
                      have c := (he.cell (p := ⟨b, off + k * 2, none⟩) hbw).trans mc
                      simp [execOp, evR, e48, c, go_sem]
                    refine tele_move rfl (.inl rfl) rfl (isV (.slice (some ⟨b, off, none⟩) l.length c)) (fun ρ w' h => h) ?_
                    refine tele_move rfl (.inl rfl) rfl (isV (.int .i64 (i : Int))) (fun ρ w' h => h) ?_
                    refine tele_val rfl (.pointer (some ⟨b, off + i * 2, none⟩)) (fun _ _ _ => rfl) ?_ ?_
                    · rintro ρ w' he ⟨h50, h51, -⟩
                      have e50 : ρ 50 = (.slice (some ⟨b, off, none⟩) l.length c) := h50
                      have e51 : ρ 51 = (.int .i64 (i : Int)) := h51
                      simp [execOp, evR, e50, e51, hil2, hz0, add_at, go_sem]
                    refine tele_val rfl (.pointer (some ⟨b, off + i * 2, none⟩)) (fun _ _ _ => rfl) ?_ ?_
                    · rintro ρ w' he ⟨h52, -⟩
                      have e52 : ρ 52 = (.pointer (some ⟨b, off + i * 2, none⟩)) := h52
                      simp [execOp, evR, e52, go_sem]
                    refine tele_val rfl (strV n) (fun _ _ _ => rfl) ?_ ?_
                    · rintro ρ w' he ⟨h53, -⟩
                      have e53 : ρ 53 = (.pointer (some ⟨b, off + i * 2, none⟩)) := h53
                      have c := (he.cell (p := ⟨b, off + i * 2, none⟩) hbw).trans nc
                      simp [execOp, evR, e53, c, go_sem]
                    refine tele_val rfl (.bool (m == n)) (fun _ _ _ => rfl) ?_ ?_
                    · rintro ρ w' he ⟨h49, h54, -⟩
                      have e49 : ρ 49 = (strV m) := h49
                      have e54 : ρ 54 = (strV n) := h54
                      exact exec_eql_str rfl e49 e54
                    refine tele_nil ?_
                    rintro ρ w' hext ⟨f55, f54, f53, f52, f51, f50, f49, f48, f47, f46, f45, -⟩
                    replace f45 : ρ 45 = (.slice (some ⟨b, off, none⟩) l.length c) := f45
                    replace f46 : ρ 46 = (.int .i64 (k : Int)) := f46
                    replace f47 : ρ 47 = (.pointer (some ⟨b, off + k * 2, none⟩)) := f47
                    replace f48 : ρ 48 = (.pointer (some ⟨b, off + k * 2, none⟩)) := f48
                    replace f49 : ρ 49 = (strV m) := f49
                    replace f50 : ρ 50 = (.slice (some ⟨b, off, none⟩) l.length c) := f50
                    replace f51 : ρ 51 = (.int .i64 (i : Int)) := f51
                    replace f52 : ρ 52 = (.pointer (some ⟨b, off + i * 2, none⟩)) := f52
                    replace f53 : ρ 53 = (.pointer (some ⟨b, off + i * 2, none⟩)) := f53
                    replace f54 : ρ 54 = (strV n) := f54
                    replace f55 : ρ 55 = (.bool (m == n)) := f55
                    simp only [puts, Act.put, List.setIfInBounds_toArray, List.set_cons_zero, List.set_cons_succ]
                    cases hmn : (m == n)
                    · rw [hmn] at f55
                      rw [f55]
                      have HN := Lib.hid (show ∀ j m q, j < k + 1 → l[j]? = some (m, q) → m ≠ n by
                        intro j m' q' hj hg
                        by_cases hjk : j = k
                        · subst hjk
                          rw [HG.out] at hg
                          injection hg with hg
                          injection hg with hg _
                          subst hg
                          exact by simpa using hmn
                        · exact HL.out j m' q' (by omega) hg)
                      clear hmn
                      go_wp2_with fail
                      go_roundw
                      case rel => exact ⟨k + 1, by omega, by go_num, HN.out, Ext.trans hxk hext⟩
                      case measure => simp [intOf]; omega
                    · rw [hmn] at f55
                      rw [f55]
                      have hmm : m = n := by simpa using hmn
                      have HR := Lib.hid (show pgood l = 70 by rw [HS.out, if_neg (by simp [HO.out]), if_pos (by rw [← hmm]; exact names_get HG.out hki)])
                      clear hmn hmm
                      go_wp2_with fail
                      go_ret
                      exact ⟨by rw [HR.out]; rfl, Ext.trans hx (Ext.trans hxk hext)⟩
                  · have hki2 : k = i := by omega
                    subst hki2
                    have HR := Lib.hid (show pgood l = pgoodF ((l.take (k + 1)).map (·.1)) (l.drop (k + 1)) by rw [HS.out, if_neg (by simp [HO.out]), if_neg (names_none hi HL.out), HT.out])
                    go_wp2_with fail
                    go_roundw
                    case rel => exact ⟨k + 1, by omega, by go_num, HR.out, Ext.trans hx hxk⟩
                    case measure => simp [intOf]; omega
            · obtain ⟨q1, q2⟩ : ¬ p = 1 ∧ ¬ p = 2 := ⟨fun e => hpp (.inl e), fun e => hpp (.inr e)⟩
              have b1 : (p != 1) = true := by simpa using q1
              have b2 : (p != 2) = true := by simpa using q2
              have HR := Lib.hid (show pgood l = 2 by rw [HS.out, if_pos (grpOk_false_of (.inr (by unfold polOk; simp [q1, q2])))])
              clear hpp hno q1 q2
              go_wp2_with fail
              go_ret
              exact ⟨by rw [HR.out]; rfl, hx⟩
        · have hil : i = l.length := by omega
          have HR := Lib.hid (show pgood l = 0 by rw [hpg, hil, List.drop_length]; rfl)
          clear hpg hil
          go_wp2_with fail
          go_ret
          exact ⟨by rw [HR.out]; rfl, hx⟩
end Go.Proofs.Ytocdifjdeifclaa
