/-
  The walk of FrameTorn.
-/
import Derived.Test.YtlhnlnmhgkkbaaaFrameLives
import Derived.Test.YtlhnlnmhgkkbaaaFrameTorn
import Derived.Test.YtlhnlnmhgkkbaaaInts
namespace Go.Proofs.Ytlhnlnmhgkkbaaa
open Go Go.RowKit Mono Num Crc
set_option linter.unusedSimpArgs false
set_option linter.unusedVariables false

theorem Ow.grownOther {W w1 : World} {base z k : Nat} {e e' : TypeId} {v vo : Value} {l xs : List Value} (h : Ow e' W base v l) (hr : W.ownsRow z e 1 vo k xs) (he : e ≠ e') (hg : W.grownBy w1 vo.ownBlock) : Ow e' w1 base v l := by
  refine World.ownsRow.kept h hg ?_
  rcases h.2 with ⟨rfl, _⟩ | ⟨g, cap, cur, rfl, _, hgb, _⟩
  · exact .inl rfl
  · refine .inr fun e1 => ?_
    rcases hr.2 with ⟨rfl, _⟩ | ⟨g', cap', cur', rfl, _, hgb', _⟩
    · simp [Value.ownBlock] at e1
    · obtain rfl : g = g' := by simpa [Value.ownBlock] using e1
      rw [hgb] at hgb'
      simp at hgb'
      exact he hgb'.2.symm
/-- The ends, as integers. -/
def endsL (ls : List (List UInt8)) (k : Nat) : List Int := (List.range (k + 1)).map (fun j => (endsN ls j : Int))
theorem endsL_succ (ls : List (List UInt8)) (k : Nat) : endsL ls (k + 1) = endsL ls k ++ [(endsN ls (k + 1) : Int)] := by
  unfold endsL
  rw [List.range_succ, List.map_append]
  rfl
theorem endsL_len (ls : List (List UInt8)) (k : Nat) : (endsL ls k).length = k + 1 := by simp [endsL]
theorem endsL_get (ls : List (List UInt8)) (k j : Nat) (h : j ≤ k) : (endsL ls k)[j]? = some (endsN ls j : Int) := by
  unfold endsL
  rw [List.getElem?_map, List.getElem?_range (by omega)]
  rfl
def liveSlice (v : Value) : Prop := ∃ A n c, v = .slice A n c
theorem Bss.upto {w : World} {A : Option Addr} {n c k : Nat} {ls : List (List UInt8)} (h : Bss w (.slice A n c) ls) (hk : k ≤ n) : Bss w (.slice A k c) (ls.take k) := by
  obtain ⟨vs, h1, h2⟩ := h
  refine ⟨vs.take k, Sl.upto h1 hk, ?_⟩
  have : ∀ (k : Nat) (a : List Value) (b : List (List UInt8)), All2 (Bs w) a b → All2 (Bs w) (a.take k) (b.take k) := by
    intro k
    induction k with
    | zero => intro a b _; simp [All2]
    | succ k ih =>
      intro a b h
      cases a <;> cases b <;> first | exact trivial | exact h.elim | exact ⟨h.1, ih _ _ h.2⟩
  exact this k _ _ h2

set_option maxHeartbeats 4000000 in
theorem frameTorn_walk (v : Value) (ls : List (List UInt8)) (y : Int) (w : World) (hv : Bss w v ls) (hz : szsum ls ≤ 100000000) :
    Calls Try.prog 6 #[v, .int .i64 y] w fun e w' => e = .returned (.bool true) ∧ Ext w w' := by
  obtain ⟨A, c, rfl, h1, h2, h3, h4⟩ := hv.open_
  unfold maxLen at h2
  have hzl := szsum_len ls
  go_enter Try.func6, Try.ntmps6
  go_wp2_with fail
  go_loop [5, 7, 18] (fun n _ i => ∃ k : Nat, k ≤ ls.length ∧ i = .int .i64 k ∧ n = .int .i64 ((szsum (ls.take k) : Nat) : Int)) (fun _ _ i => ls.length - (intOf i).toNat)
  case atStart => exact ⟨0, Nat.zero_le _, rfl, rfl⟩
  case round =>
    obtain ⟨i, hi, rfl, rfl⟩ := hrel
    by_cases hlt : i < ls.length
    · obtain ⟨ba, oa, rfl, hba, hca⟩ := h4 (by omega)
      have hget : ls[i]? = some ls[i] := List.getElem?_eq_getElem hlt
      obtain ⟨xa, xca, hxa⟩ := hca i ls[i] hget
      have HS := Lib.hid (show szsum (ls.take (i + 1)) = szsum (ls.take i) + (10 + ls[i].length) by
        rw [List.take_add_one, hget, szsum_append]; rfl)
      have hmem := szsum_mem (List.getElem_mem hlt)
      have htk := szsum_take ls i
      clear hget
      generalize ls[i] = x at *
      obtain ⟨A2, c2, rfl, _, _, _, _⟩ := hxa.open_
      generalize szsum (ls.take i) = s at *
      go_wp2_with fail
      go_round
      case rel => exact ⟨i + 1, by omega, by go_num, by rw [HS.out]; go_num⟩
      case measure => simp [intOf]; omega
    · have hil : i = ls.length := by omega
      subst hil
      rw [List.take_length]
      by_cases hsz : 20000 < szsum ls
      · go_wp2_with fail
        refine (lives_any _).mono ?_
        rintro e w' ⟨rfl, he⟩
        go_wp2_with fail
        go_ret
        exact ⟨rfl, he⟩
      · go_wp2_with fail
        have hall20 : ∀ x ∈ ls, x.length ≤ 1048576 := fun x hx => by have := szsum_mem hx; omega
        have hal := allOf_len ls (by omega)
        have HA := Lib.hid hall20
        clear hall20
        go_loopw [8, 9, 11, 34] (fun all ends _ i wr => ∃ k : Nat, k ≤ ls.length ∧ i = .int .i64 k ∧ OwB wr w.heap.size all (allOf (ls.take k)) ∧ OwI wr w.heap.size ends (endsL ls k) ∧ Ext w wr) (fun _ _ _ i _ => ls.length - (intOf i).toNat)
        case atStart => exact ⟨0, Nat.zero_le _, rfl, OwB.nil_ _ _, by unfold OwI; have := Ow.lit 3 w (base := w.heap.size) (C := #[.int .i64 0]) (Nat.le_refl _) rfl (by decide : (1 : Nat) ≤ maxLen); simpa [endsL, endsN, allOf, iv] using this, ext_alloc _ _⟩
        case round =>
          obtain ⟨i, hi, rfl, hwa, hwe, hx⟩ := hrel
          by_cases hlt : i < ls.length
          · obtain ⟨ba, oa, rfl, hba, hca⟩ := h4 (by omega)
            have hget : ls[i]? = some ls[i] := List.getElem?_eq_getElem hlt
            obtain ⟨xa, xca, hxa⟩ := hca i ls[i] hget
            have HS := Lib.hid (show allOf (ls.take (i + 1)) = allOf (ls.take i) ++ wrap ls[i] by
              rw [List.take_add_one, hget, Option.toList_some, allOf_snoc])
            have HE := Lib.hid (show ((allOf (ls.take (i + 1))).length : Int) = (endsN ls (i + 1) : Int) from rfl)
            have hle1 := endsN_mono ls i
            have hle2 := endsN_mono ls (i + 1)
            rw [endsN_succ ls i _ hget] at hle2
            have hE1 : (allOf (ls.take i)).length = endsN ls i := rfl
            have HE1 := Lib.hid hE1
            have hal1 : (allOf (ls.take i)).length + (wrap ls[i]).length ≤ 100000 := by omega
            clear hget hE1 hle1 hle2 h4 hca
            generalize ls[i] = x at *
            replace xca := (hx.cell (p := ⟨ba, oa + i, none⟩) hba).trans xca
            replace hxa := hxa.ext hx
            obtain ⟨A2, c2, rfl, _, _, _, _⟩ := hxa.open_
            have hzr := hx.size
            go_wp2_with fail
            refine (fWrap_any _ x _ hxa).mono ?_
            rintro e w1 ⟨r1, rfl, k1, x1⟩
            replace hwa := hwa.ext x1
            replace hwe := hwe.ext x1
            have hx1 := Ext.trans hx x1
            go_wp2_with (first | (at_builtin; refine wpList_append_bs _ rfl (.tmp 38) (.tmp 40) rfl hwa k1.bs rfl rfl (by omega) hx1.size ?_; intro v2 w2 hown2 hg2 hat2; have hb2 : Ext w w2 := Below.growB hx1 hwa hg2 (Nat.le_refl _) hx1.size; have hwe2 : OwI w2 w.heap.size _ (endsL ls i) := Ow.grownOther hwe hwa (by decide) hg2; rw [← HS.out] at hown2; obtain ⟨A3, c3, rfl, _, _, _, _⟩ := hown2.bs.open_) | (at_builtin; refine wpList_append_is _ rfl (.tmp 42) (.tmp 45) rfl (OwI.ext hwe2 (ext_alloc _ _)) (Is.alloc_ (l := [((allOf (ls.take (i + 1))).length : Int)]) _ 3 _ rfl rfl (Nat.le_refl _) (show (1 : Nat) ≤ maxLen by decide)) rfl rfl (by rw [endsL_len]; simp; omega) (by have := hb2.size; simp; omega) ?_; intro v3 w3 hown3 hg3 hat3; have hb3 : Ext w w3 := Below.growI (hb2.alloc hb2.size _) (OwI.ext hwe2 (ext_alloc _ _)) hg3 (Nat.le_refl _) (by have := hb2.size; simp; omega); have hown4 : OwB w3 w.heap.size _ _ := Ow.grownOther (OwB.ext hown2 (ext_alloc _ _)) (OwI.ext hwe2 (ext_alloc _ _)) (by decide) hg3))
            rw [HE.out, ← endsL_succ] at hown3
            go_roundw
            case rel => exact ⟨i + 1, by omega, by go_num, hown4, hown3, hb3⟩
            case measure => simp [intOf]; omega
          · have hil : i = ls.length := by omega
            subst hil
            rw [List.take_length] at hwa
            have hwl : (allOf ls).length ≤ 40000 := by omega
            obtain ⟨A3, c3, rfl, k1, k2, _, _⟩ := hwa.bs.open_
            obtain ⟨g, cap, rfl, hg1, hg2, hg3, hg4⟩ : ∃ g cap, u9 = .slice (some ⟨g, 0, none⟩) (ls.length + 1) cap ∧ w.heap.size ≤ g ∧ g < wr.heap.size ∧ ls.length + 1 ≤ cap ∧ ∀ j, j ≤ ls.length → wr.cell? ⟨g, j, none⟩ = some (.int .i64 (endsN ls j : Int)) := by
              rcases Ow.form hwe with ⟨_, he⟩ | ⟨g, cap, e1, e2, e3, e4, e5, e6, _⟩
              · have := congrArg List.length he; rw [List.length_map, endsL_len] at this; simp at this
              · rw [List.length_map, endsL_len] at e1 e4
                exact ⟨g, cap, e1, e2, e3, e4, fun j hj => e6 j _ (by rw [List.getElem?_map, endsL_get ls _ j hj]; rfl)⟩
            obtain ⟨q, hq, hqe⟩ := place_int y (allOf ls).length (by omega)
            unfold maxLen at k2
            clear hwe
            go_wp2_with fail
            rw [hqe]
            clear hqe
            obtain ⟨j, hj, hf, hjk, hnext⟩ := torn ls 0 q HA.out hq
            rw [← frows_P, Nat.zero_add] at hf
            have hO := fRows_any _ ((allOf ls).take q) wr (hwa.bs.upto hq) (by rw [List.length_take]; omega)
            rw [hf] at hO
            dsimp only at hO
            have HO := Lib.hid hO
            have HN := Lib.hid hnext
            have hvj := Bss.upto hv hj
            have hjl : (ls.take j).length = j := by rw [List.length_take, Nat.min_eq_left hj]
            have HS := Lib.hid (show sameB (ls.take j) (ls.take j) = true from by unfold sameB; exact beq_self_eq_true _)
            have HJ := Lib.hid hjl
            have c0 := hg4 j hj
            have HC1 := Lib.hid (fun h : j < ls.length => hg4 (j + 1) h)
            have hji : (j : Int) < (ls.length : Int) + 1 := by omega
            have hj0 : (0 : Int) ≤ (j : Int) := by omega
            clear hO hnext hf hg4 h4 hjl hwa
            refine HO.out.mono ?_
            rintro e w1 ⟨r, rfl, hr, x1⟩
            obtain ⟨A5, c5, rfl, m1, m2, _, _⟩ := hr.open_
            rw [HJ.out] at m1 hr ⊢
            unfold maxLen at m2
            have d0 := (x1.cell (p := ⟨g, j, none⟩) hg2).trans c0
            have hx1 := Ext.trans hx x1
            have HV := Lib.hid (rSame_any _ _ _ _ w1 hr (hvj.ext hx1))
            rw [HS.out] at HV
            clear c0 hr hvj HO
            by_cases hjn : j < ls.length
            · have d1 := (x1.cell (p := ⟨g, j + 1, none⟩) hg2).trans (HC1.out hjn)
              have hn1 : q < endsN ls (j + 1) := HN.out hjn
              have hji1 : (j : Int) + 1 < (ls.length : Int) + 1 := by omega
              by_cases he : endsN ls j = q
              · subst he
                rw [if_pos rfl]
                go_wp2_with fail
                refine HV.out.mono ?_
                rintro e w2 ⟨rfl, x2⟩
                have d2 := (x2.cell (p := ⟨g, j, none⟩) (Nat.lt_of_lt_of_le hg2 x1.size)).trans d0
                have d3 := (x2.cell (p := ⟨g, j + 1, none⟩) (Nat.lt_of_lt_of_le hg2 x1.size)).trans d1
                clear d1
                clear d0 HV
                go_wp2_with fail
                refine (lives_any _).mono ?_
                rintro e w3 ⟨rfl, x3⟩
                go_wp2_with fail
                go_ret
                exact ⟨rfl, Ext.trans (Ext.trans hx1 x2) x3⟩
              · rw [if_neg he]
                have hb1 : ((endsN ls j : Int) == (q : Int)) = false := by rw [beq_eq_false_iff_ne]; omega
                have HE := Lib.hid he
                clear he
                go_wp2_with fail
                refine HV.out.mono ?_
                rintro e w2 ⟨rfl, x2⟩
                have d2 := (x2.cell (p := ⟨g, j, none⟩) (Nat.lt_of_lt_of_le hg2 x1.size)).trans d0
                have d3 := (x2.cell (p := ⟨g, j + 1, none⟩) (Nat.lt_of_lt_of_le hg2 x1.size)).trans d1
                clear d1
                clear d0 HV
                go_wp2_with fail
                refine (lives_any _).mono ?_
                rintro e w3 ⟨rfl, x3⟩
                go_wp2_with fail
                go_ret
                exact ⟨rfl, Ext.trans (Ext.trans hx1 x2) x3⟩
            · by_cases he : endsN ls j = q
              · subst he
                rw [if_pos rfl]
                go_wp2_with fail
                refine HV.out.mono ?_
                rintro e w2 ⟨rfl, x2⟩
                have d2 := (x2.cell (p := ⟨g, j, none⟩) (Nat.lt_of_lt_of_le hg2 x1.size)).trans d0
                clear d0 HV
                go_wp2_with fail
                refine (lives_any _).mono ?_
                rintro e w3 ⟨rfl, x3⟩
                go_wp2_with fail
                go_ret
                exact ⟨rfl, Ext.trans (Ext.trans hx1 x2) x3⟩
              · rw [if_neg he]
                have hb1 : ((endsN ls j : Int) == (q : Int)) = false := by rw [beq_eq_false_iff_ne]; omega
                have HE := Lib.hid he
                clear he
                go_wp2_with fail
                refine HV.out.mono ?_
                rintro e w2 ⟨rfl, x2⟩
                have d2 := (x2.cell (p := ⟨g, j, none⟩) (Nat.lt_of_lt_of_le hg2 x1.size)).trans d0
                clear d0 HV
                go_wp2_with fail
                refine (lives_any _).mono ?_
                rintro e w3 ⟨rfl, x3⟩
                go_wp2_with fail
                go_ret
                exact ⟨rfl, Ext.trans (Ext.trans hx1 x2) x3⟩
end Go.Proofs.Ytlhnlnmhgkkbaaa
