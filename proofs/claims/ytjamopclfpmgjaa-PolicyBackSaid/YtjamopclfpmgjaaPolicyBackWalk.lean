/-
  The walk of PolicyBack.
-/
import Derived.Test.YtjamopclfpmgjaaPolLives
import Derived.Test.YtjamopclfpmgjaaPolOpen
import Derived.Test.YtjamopclfpmgjaaPolDec
import Derived.Test.YtjamopclfpmgjaaPolSame
import Derived.Test.YtjamopclfpmgjaaPolTok
namespace Go.Proofs.Ytjamopclfpmgjaa
open Go Go.RowKit Mono Num
set_option linter.unusedSimpArgs false
set_option linter.unusedVariables false

theorem ntext_nputText (n t : List UInt8) (h : n.length ≤ 12) : ntext (nputText n ++ t) 12 = (n, (nputText n).length, 0) := by
  have e : nget (nputText n ++ t) = (n.length, nsize (n.length : Int), 0) := by
    unfold nputText
    rw [List.append_assoc]
    exact nget_nput n.length _ (by omega)
  have hl : (nputText n).length = nsize (n.length : Int) + n.length := by unfold nputText; rw [List.length_append, nput_length]
  unfold ntext
  rw [e]
  dsimp only
  rw [if_pos rfl, if_neg (by omega), if_neg (by rw [List.length_append, hl]; omega), hl]
  congr 1
  unfold nputText
  rw [List.append_assoc, List.drop_append_of_le_length (by rw [nput_length]; exact Nat.le_refl _), List.drop_eq_nil_of_le (by rw [nput_length]; exact Nat.le_refl _), List.nil_append, List.take_left']
  rfl
theorem pdecF_pcat (b : List UInt8) : ∀ (new acc : List Grp) (at_ : Nat), (∀ g ∈ new, g.1.length ≤ 12 ∧ (g.2 = 1 ∨ g.2 = 2)) → at_ ≤ b.length → b.drop at_ = pcat new → pdecF b new.length at_ acc = some (acc ++ new, b.length)
  | [], acc, at_, _, hat, hd => by
    have : at_ = b.length := by
      have := congrArg List.length hd
      rw [List.length_drop] at this
      simp [pcat] at this
      omega
    rw [List.length_nil, pdecF, this]
    simp
  | g :: new, acc, at_, hall, hat, hd => by
    obtain ⟨n, p⟩ := g
    have hg := hall (n, p) (by simp)
    dsimp only at hg
    obtain ⟨q, rfl⟩ : ∃ q : Nat, p = q := ⟨p.toNat, by omega⟩
    have e1 : pcat ((n, (q : Int)) :: new) = nputText n ++ (nput (q : Int) ++ pcat new) := by simp [pcat, gbytes]
    rw [e1] at hd
    have hlen := congrArg List.length hd
    rw [List.length_drop, List.length_append, List.length_append] at hlen
    have h1 : ntext (b.drop at_) 12 = (n, (nputText n).length, 0) := by rw [hd]; exact ntext_nputText n _ hg.1
    have h2 : b.drop (at_ + (nputText n).length) = nput (q : Int) ++ pcat new := by
      rw [← List.drop_drop, hd, List.drop_append_of_le_length (Nat.le_refl _), List.drop_length, List.nil_append]
    have h3 : nget (b.drop (at_ + (nputText n).length)) = (q, nsize (q : Int), 0) := by rw [h2]; exact nget_nput q _ (by omega)
    have h4 : b.drop (at_ + (nputText n).length + nsize (q : Int)) = pcat new := by
      rw [← List.drop_drop, h2, ← nput_length, List.drop_append_of_le_length (Nat.le_refl _), List.drop_length, List.nil_append]
    rw [nput_length] at hlen
    rw [List.length_cons, pdecF, h1]
    dsimp only
    rw [if_neg (by simp), h3]
    dsimp only
    rw [if_neg (by simp), pdecF_pcat b new _ _ (fun g hg => hall g (by simp [hg])) (by omega) h4]
    simp
theorem pdec_pbytes {l : List Grp} (h : pgood l = 0) : pdec (pbytes l) = (l, 0) := by
  obtain ⟨h0, h4, hall⟩ := pgood_ok h
  have e : nget (pbytes l) = (l.length, nsize (l.length : Int), 0) := nget_nput l.length _ (by omega)
  have hl : (pbytes l).length = nsize (l.length : Int) + (pcat l).length := by unfold pbytes; rw [List.length_append, nput_length]
  have hF := pdecF_pcat (pbytes l) l [] (nsize (l.length : Int)) hall (by omega) (by
    unfold pbytes
    rw [← nput_length, List.drop_append_of_le_length (Nat.le_refl _), List.drop_length, List.nil_append])
  unfold pdec
  rw [e]
  dsimp only
  rw [if_neg (by simp; omega), hF]
  unfold pdecE
  rw [List.nil_append]
  dsimp only
  rw [if_neg (by simp [h])]
theorem pdec_ok {b : List UInt8} {m : List Grp} (h : pdec b = (m, 0)) : penc m = (b, 0) := by
  unfold pdec at h
  split at h
  · simp at h
  · rename_i hc
    have h0 : (nget b).2.2 = 0 := by omega
    cases hF : pdecF b (nget b).1 (nget b).2.1 [] with
    | none => rw [hF] at h; simp [pdecE] at h
    | some x =>
      obtain ⟨l, at_⟩ := x
      rw [hF] at h
      unfold pdecE at h
      dsimp only at h
      split at h
      · simp at h
      · rename_i hn
        injection h with h _
        subst h
        have h1 : at_ = b.length := by
          rcases Nat.lt_trichotomy at_ b.length with h | h | h
          · exact absurd (.inl (by omega)) hn
          · exact h
          · exact absurd (.inl (by omega)) hn
        have h2 : pgood l = 0 := by
          rcases Nat.eq_zero_or_pos (pgood l) with h | h
          · exact h
          · exact absurd (.inr (by omega)) hn
        unfold penc
        rw [if_neg (by simp [h2]), (pdec_same h0 hF).1.2 h1]
theorem pparse_ok {s : List UInt8} {m : List Grp} (h : pparse s = (m, 0)) : pprint m = (s, 0) := by
  unfold pparse at h
  split at h
  · simp at h
  · split at h
    · simp at h
    · rename_i hg
      injection h with h _
      subst h
      have h0 : pgood (ptoks s) = 0 := by omega
      unfold pprint
      rw [if_neg (by simp [h0]), ptext_ptoks h0]
theorem pparse_ptext {l : List Grp} (h : pgood l = 0) : pparse (ptext l) = (l, 0) := by
  unfold pparse
  rw [if_neg (by have := ptext_len h; omega), (ptoks_ptext h).1, if_neg (by simp [h])]

set_option maxHeartbeats 8000000 in
theorem policyBack_walk (v : Value) (l : List Grp) (u : Value) (b : List UInt8) (s : List UInt8) (w : World) (hv : Gs w v l) (hu : Bs w u b) (hs : s.length ≤ maxLen) :
    Calls Try.prog 7 #[v, u, strV s] w fun e w' => e = .returned (.bool true) ∧ Ext w w' := by
  have hV := hv
  have hU := hu
  obtain ⟨A, c, rfl, h1, h2, h3, h4⟩ := hv.at_
  obtain ⟨B, d, rfl, k1, k2, k3, _⟩ := hu.open_
  have hsz := strV_size s
  unfold maxLen at hs k2
  unfold strV
  clear h4
  by_cases hl : 1000 < l.length
  · go_enter Try.func7, Try.ntmps7
    go_wp2_with fail
    refine (lives_any _).mono ?_
    rintro e w' ⟨rfl, he⟩
    go_wp2_with fail
    go_ret
    exact ⟨rfl, he⟩
  · by_cases hb : 1000 < b.length
    · go_enter Try.func7, Try.ntmps7
      go_wp2_with fail
      refine (lives_any _).mono ?_
      rintro e w' ⟨rfl, he⟩
      go_wp2_with fail
      go_ret
      exact ⟨rfl, he⟩
    · by_cases hs1 : 1000 < s.length
      · go_enter Try.func7, Try.ntmps7
        go_wp2_with fail
        refine (lives_any _).mono ?_
        rintro e w' ⟨rfl, he⟩
        go_wp2_with fail
        go_ret
        exact ⟨rfl, he⟩
      · go_enter Try.func7, Try.ntmps7
        have HG := Lib.hid (polGood_any (.slice A l.length c) l w hV)
        obtain ⟨e, hpe⟩ : ∃ e, pgood l = e := ⟨_, rfl⟩
        rw [hpe] at HG
        by_cases he0 : e = 0
        · subst he0
          have HA := Lib.hid (fun w hw => polEncode_any (.slice A l.length c) l w hw)
          rw [show penc l = (pbytes l, 0) by unfold penc; rw [if_neg (by simp [hpe])]] at HA
          have HT := Lib.hid (fun w hw => polPrint_any (.slice A l.length c) l w hw)
          rw [show pprint l = (ptext l, 0) by unfold pprint; rw [if_neg (by simp [hpe])]] at HT
          have hbl : (pbytes l).length ≤ 1000000 := by
            obtain ⟨_, h4, hall⟩ := pgood_ok hpe
            have := pcat_len l hall
            have := nsize_le (l.length : Int)
            unfold pbytes
            rw [List.length_append, nput_length]
            omega
          have HD := Lib.hid (fun (v : Value) (w : World) hw => polDecode_any v (pbytes l) w hw hbl)
          rw [pdec_pbytes hpe] at HD
          have HPP := Lib.hid (fun (w : World) => polParse_any (ptext l) w (by have := ptext_len hpe; unfold maxLen; omega))
          rw [pparse_ptext hpe] at HPP
          generalize pbytes l = x at *
          generalize ptext l = t at *
          dsimp only at HA HT HD HPP
          unfold strV at HT HPP
          clear hpe hbl
          go_wp2_with fail
          refine HG.out.mono ?_
          rintro e w1 ⟨rfl, x1⟩
          clear HG
          go_wp2_with fail
          refine (HA.out _ (hV.ext x1)).mono ?_
          rintro e w2 ⟨r1, rfl, q1, x2⟩
          replace x1 := Ext.trans x1 x2
          replace q1 := q1.bs
          clear x2 HA
          go_wp2_with fail
          refine (HT.out _ (hV.ext x1)).mono ?_
          rintro e w3 ⟨rfl, x2⟩
          replace x1 := Ext.trans x1 x2
          replace q1 := q1.ext x2
          clear x2 HT
          go_wp2_with fail
          refine (HD.out _ _ q1).mono ?_
          rintro e w4 ⟨r2, rfl, q2, x2⟩
          replace x1 := Ext.trans x1 x2
          clear x2 HD q1
          go_wp2_with fail
          refine (HPP.out _).mono ?_
          rintro e w5 ⟨r3, rfl, q3, x2⟩
          replace x1 := Ext.trans x1 x2
          replace q2 := q2.ext x2
          clear x2 HPP
          go_wp2_with fail
          refine (gSame_any _ _ l _ q2 (hV.ext x1)).mono ?_
          rintro e w6 ⟨rfl, x2⟩
          replace x1 := Ext.trans x1 x2
          replace q3 := q3.ext x2
          clear x2 q2
          go_wp2_with fail
          refine (gSame_any _ _ l _ q3 (hV.ext x1)).mono ?_
          rintro e w7 ⟨rfl, x2⟩
          replace x1 := Ext.trans x1 x2
          clear x2 q3
          go_wp2_with fail
          have HB := Lib.hid (fun w hw => polDecode_any (.slice B b.length d) b w hw (by omega))
          obtain ⟨f1, f2, hf⟩ : ∃ f1 f2, pdec b = (f1, f2) := ⟨_, _, rfl⟩
          rw [hf] at HB
          dsimp only at HB
          by_cases hf0 : f2 = 0
          · subst hf0
            have HE := Lib.hid (fun (v : Value) (w : World) hw => polEncode_any v f1 w hw)
            rw [pdec_ok hf] at HE
            dsimp only at HE
            clear hf
            go_wp2_with fail
            refine (HB.out _ (hU.ext x1)).mono ?_
            rintro e w10 ⟨r2, rfl, q2, x2⟩
            replace x1 := Ext.trans x1 x2
            clear x2 HB
            go_wp2_with fail
            refine (HE.out _ _ q2).mono ?_
            rintro e w11 ⟨r3, rfl, q3, x2⟩
            replace x1 := Ext.trans x1 x2
            have c1 := q3.bs.str_ (P := Try.prog) 47 9 5 Try.underlying47 Try.underlying5 Try.underlying9
            have c2 := (hU.ext x1).str_ (P := Try.prog) 47 9 5 Try.underlying47 Try.underlying5 Try.underlying9
            unfold strV at c1 c2
            clear x2 HE q2 q3
            go_wp2_with fail
            clear c1 c2
            have HC := Lib.hid (fun w => polParse_any s w (by unfold maxLen; omega))
            obtain ⟨g1, g2, hg⟩ : ∃ g1 g2, pparse s = (g1, g2) := ⟨_, _, rfl⟩
            rw [hg] at HC
            dsimp only at HC
            unfold strV at HC
            by_cases hg0 : g2 = 0
            · subst hg0
              have HP := Lib.hid (fun (v : Value) (w : World) hw => polPrint_any v g1 w hw)
              rw [pparse_ok hg] at HP
              dsimp only at HP
              unfold strV at HP
              clear hg
              go_wp2_with fail
              refine (HC.out _).mono ?_
              rintro e w20 ⟨r3, rfl, q3, x2⟩
              replace x1 := Ext.trans x1 x2
              clear x2 HC
              go_wp2_with fail
              refine (HP.out _ _ q3).mono ?_
              rintro e w21 ⟨rfl, x2⟩
              replace x1 := Ext.trans x1 x2
              clear x2 HP q3
              go_wp2_with fail
              refine (lives_any _).mono ?_
              rintro e w22 ⟨rfl, x2⟩
              go_wp2_with fail
              go_ret
              exact ⟨rfl, Ext.trans x1 x2⟩
            · have hg1 : ((g2 : Int) == 0) = false := by rw [beq_eq_false_iff_ne]; omega
              clear hg hg0
              go_wp2_with fail
              refine (HC.out _).mono ?_
              rintro e w20 ⟨r3, rfl, q3, x2⟩
              replace x1 := Ext.trans x1 x2
              clear x2 HC q3
              go_wp2_with fail
              refine (lives_any _).mono ?_
              rintro e w22 ⟨rfl, x2⟩
              go_wp2_with fail
              go_ret
              exact ⟨rfl, Ext.trans x1 x2⟩
          · have hf1 : ((f2 : Int) == 0) = false := by rw [beq_eq_false_iff_ne]; omega
            clear hf hf0
            go_wp2_with fail
            refine (HB.out _ (hU.ext x1)).mono ?_
            rintro e w10 ⟨r2, rfl, q2, x2⟩
            replace x1 := Ext.trans x1 x2
            clear x2 HB q2
            go_wp2_with fail
            have HC := Lib.hid (fun w => polParse_any s w (by unfold maxLen; omega))
            obtain ⟨g1, g2, hg⟩ : ∃ g1 g2, pparse s = (g1, g2) := ⟨_, _, rfl⟩
            rw [hg] at HC
            dsimp only at HC
            unfold strV at HC
            by_cases hg0 : g2 = 0
            · subst hg0
              have HP := Lib.hid (fun (v : Value) (w : World) hw => polPrint_any v g1 w hw)
              rw [pparse_ok hg] at HP
              dsimp only at HP
              unfold strV at HP
              clear hg
              go_wp2_with fail
              refine (HC.out _).mono ?_
              rintro e w20 ⟨r3, rfl, q3, x2⟩
              replace x1 := Ext.trans x1 x2
              clear x2 HC
              go_wp2_with fail
              refine (HP.out _ _ q3).mono ?_
              rintro e w21 ⟨rfl, x2⟩
              replace x1 := Ext.trans x1 x2
              clear x2 HP q3
              go_wp2_with fail
              refine (lives_any _).mono ?_
              rintro e w22 ⟨rfl, x2⟩
              go_wp2_with fail
              go_ret
              exact ⟨rfl, Ext.trans x1 x2⟩
            · have hg1 : ((g2 : Int) == 0) = false := by rw [beq_eq_false_iff_ne]; omega
              clear hg hg0
              go_wp2_with fail
              refine (HC.out _).mono ?_
              rintro e w20 ⟨r3, rfl, q3, x2⟩
              replace x1 := Ext.trans x1 x2
              clear x2 HC q3
              go_wp2_with fail
              refine (lives_any _).mono ?_
              rintro e w22 ⟨rfl, x2⟩
              go_wp2_with fail
              go_ret
              exact ⟨rfl, Ext.trans x1 x2⟩
        · have he1 : ((e : Int) == 0) = false := by rw [beq_eq_false_iff_ne]; omega
          clear hpe he0
          go_wp2_with fail
          refine HG.out.mono ?_
          rintro e w1 ⟨rfl, x1⟩
          clear HG
          go_wp2_with fail
          have HB := Lib.hid (fun w hw => polDecode_any (.slice B b.length d) b w hw (by omega))
          obtain ⟨f1, f2, hf⟩ : ∃ f1 f2, pdec b = (f1, f2) := ⟨_, _, rfl⟩
          rw [hf] at HB
          dsimp only at HB
          by_cases hf0 : f2 = 0
          · subst hf0
            have HE := Lib.hid (fun (v : Value) (w : World) hw => polEncode_any v f1 w hw)
            rw [pdec_ok hf] at HE
            dsimp only at HE
            clear hf
            go_wp2_with fail
            refine (HB.out _ (hU.ext x1)).mono ?_
            rintro e w10 ⟨r2, rfl, q2, x2⟩
            replace x1 := Ext.trans x1 x2
            clear x2 HB
            go_wp2_with fail
            refine (HE.out _ _ q2).mono ?_
            rintro e w11 ⟨r3, rfl, q3, x2⟩
            replace x1 := Ext.trans x1 x2
            have c1 := q3.bs.str_ (P := Try.prog) 47 9 5 Try.underlying47 Try.underlying5 Try.underlying9
            have c2 := (hU.ext x1).str_ (P := Try.prog) 47 9 5 Try.underlying47 Try.underlying5 Try.underlying9
            unfold strV at c1 c2
            clear x2 HE q2 q3
            go_wp2_with fail
            clear c1 c2
            have HC := Lib.hid (fun w => polParse_any s w (by unfold maxLen; omega))
            obtain ⟨g1, g2, hg⟩ : ∃ g1 g2, pparse s = (g1, g2) := ⟨_, _, rfl⟩
            rw [hg] at HC
            dsimp only at HC
            unfold strV at HC
            by_cases hg0 : g2 = 0
            · subst hg0
              have HP := Lib.hid (fun (v : Value) (w : World) hw => polPrint_any v g1 w hw)
              rw [pparse_ok hg] at HP
              dsimp only at HP
              unfold strV at HP
              clear hg
              go_wp2_with fail
              refine (HC.out _).mono ?_
              rintro e w20 ⟨r3, rfl, q3, x2⟩
              replace x1 := Ext.trans x1 x2
              clear x2 HC
              go_wp2_with fail
              refine (HP.out _ _ q3).mono ?_
              rintro e w21 ⟨rfl, x2⟩
              replace x1 := Ext.trans x1 x2
              clear x2 HP q3
              go_wp2_with fail
              refine (lives_any _).mono ?_
              rintro e w22 ⟨rfl, x2⟩
              go_wp2_with fail
              go_ret
              exact ⟨rfl, Ext.trans x1 x2⟩
            · have hg1 : ((g2 : Int) == 0) = false := by rw [beq_eq_false_iff_ne]; omega
              clear hg hg0
              go_wp2_with fail
              refine (HC.out _).mono ?_
              rintro e w20 ⟨r3, rfl, q3, x2⟩
              replace x1 := Ext.trans x1 x2
              clear x2 HC q3
              go_wp2_with fail
              refine (lives_any _).mono ?_
              rintro e w22 ⟨rfl, x2⟩
              go_wp2_with fail
              go_ret
              exact ⟨rfl, Ext.trans x1 x2⟩
          · have hf1 : ((f2 : Int) == 0) = false := by rw [beq_eq_false_iff_ne]; omega
            clear hf hf0
            go_wp2_with fail
            refine (HB.out _ (hU.ext x1)).mono ?_
            rintro e w10 ⟨r2, rfl, q2, x2⟩
            replace x1 := Ext.trans x1 x2
            clear x2 HB q2
            go_wp2_with fail
            have HC := Lib.hid (fun w => polParse_any s w (by unfold maxLen; omega))
            obtain ⟨g1, g2, hg⟩ : ∃ g1 g2, pparse s = (g1, g2) := ⟨_, _, rfl⟩
            rw [hg] at HC
            dsimp only at HC
            unfold strV at HC
            by_cases hg0 : g2 = 0
            · subst hg0
              have HP := Lib.hid (fun (v : Value) (w : World) hw => polPrint_any v g1 w hw)
              rw [pparse_ok hg] at HP
              dsimp only at HP
              unfold strV at HP
              clear hg
              go_wp2_with fail
              refine (HC.out _).mono ?_
              rintro e w20 ⟨r3, rfl, q3, x2⟩
              replace x1 := Ext.trans x1 x2
              clear x2 HC
              go_wp2_with fail
              refine (HP.out _ _ q3).mono ?_
              rintro e w21 ⟨rfl, x2⟩
              replace x1 := Ext.trans x1 x2
              clear x2 HP q3
              go_wp2_with fail
              refine (lives_any _).mono ?_
              rintro e w22 ⟨rfl, x2⟩
              go_wp2_with fail
              go_ret
              exact ⟨rfl, Ext.trans x1 x2⟩
            · have hg1 : ((g2 : Int) == 0) = false := by rw [beq_eq_false_iff_ne]; omega
              clear hg hg0
              go_wp2_with fail
              refine (HC.out _).mono ?_
              rintro e w20 ⟨r3, rfl, q3, x2⟩
              replace x1 := Ext.trans x1 x2
              clear x2 HC q3
              go_wp2_with fail
              refine (lives_any _).mono ?_
              rintro e w22 ⟨rfl, x2⟩
              go_wp2_with fail
              go_ret
              exact ⟨rfl, Ext.trans x1 x2⟩
end Go.Proofs.Ytjamopclfpmgjaa
