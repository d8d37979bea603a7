/-
  The walks of layer 1: what num's functions and the document's own compute.
-/
import Derived.Test.YtocdifjdeifclaaBytes
import Derived.Test.YtocdifjdeifclaaNumPlain
import Derived.Outline
namespace Go.Proofs.Ytocdifjdeifclaa
open Go.RowKit Mono Num
set_option linter.unusedSimpArgs false
set_option linter.unusedVariables false
set_option maxHeartbeats 400000 in
theorem numSize_any (n : Int) (w : World) (hn : -9223372036854775808 ≤ n ∧ n ≤ 9223372036854775807) :
    Calls Try.prog 79 #[.int .i64 n] w fun e w' => e = .returned (.int .i64 ((nsize n : Nat) : Int)) ∧ w = w' := by
  obtain ⟨hn1, hn2⟩ := hn
  rcases nsize_cases n with ⟨h | h, hs⟩ | ⟨h, h', hs⟩ | ⟨h, h', hs⟩ | ⟨h, h', hs⟩ | ⟨h, h', hs⟩
  all_goals
    have HS := Lib.hid hs
    clear hs
    go_enter Try.func79, Try.ntmps79
    go_wp2_with fail
    go_ret
    exact ⟨by rw [HS.out]; rfl, rfl⟩
theorem pb_cell (n k i : Nat) : (#[Value.int .u8 ((n : Int) / 2 ^ (8 * (k - 1 - i)) % 256)] : Array Value).toList = [pb n k i].map bv := by
  rw [pb_int]; rfl
set_option maxHeartbeats 1000000 in
theorem numPut_any (v : Value) (l : List UInt8) (n : Int) (w : World) (hv : Bs w v l) (hl : l.length ≤ 140737488355000) (hn : -9223372036854775808 ≤ n ∧ n ≤ 9223372036854775807) :
    Calls Try.prog 54 #[v, .int .i64 n] w fun e w' => ∃ r, e = .returned r ∧ OwB w' w.heap.size r (l ++ nput n) ∧ Ext w w' := by
  obtain ⟨hn1, hn2⟩ := hn
  go_enter Try.func54, Try.ntmps54
  go_wp2_with (at_builtin; refine wpList_append_bs _ rfl (.tmp 9) (.tmp 10) rfl (OwB.empty_ w (Nat.le_refl _)) (hv.ext (ext_alloc _ _)) rfl rfl (by simp; omega) (by simp) ?_; intro v1 w1 hown1 hg1 hat1; have hb1 : Ext w w1 := Below.growB (ext_alloc w _) (OwB.empty_ w (Nat.le_refl _)) hg1 (Nat.le_refl _) (by simp))
  rw [List.nil_append] at hown1
  obtain ⟨A1, c1, rfl, g1, g2, _, _⟩ := hown1.bs.open_
  unfold maxLen at g2
  clear hg1 hat1
  refine (numSize_any _ w1 (by omega)).mono ?_
  rintro e w2 ⟨rfl, rfl⟩
  by_cases hneg : n < 0
  · have HN := Lib.hid (nput_out (.inl hneg))
    have hs0 := nsize_out (.inl hneg : n < 0 ∨ 4611686018427387903 < n)
    rw [hs0]
    clear hs0
    go_wp2_with fail
    refine wp_loop_rounds 1 ?_
    rw [rounds_succ]
    go_wp2_with fail
    go_ret
    exact ⟨_, rfl, by rw [HN.out, List.append_nil]; exact hown1, hb1⟩
  obtain ⟨m, rfl⟩ := Int.eq_ofNat_of_zero_le (show 0 ≤ n by omega)
  obtain ⟨k, hk⟩ : ∃ k, nsize (m : Int) = k := ⟨_, rfl⟩
  have HE : Hid (nput (m : Int) = enc m k) := Lib.hid (by unfold nput; rw [hk]; rfl)
  rw [hk]
  have HK := Lib.hid hk
  have hk8 : k ≤ 8 := by rw [← hk]; exact nsize_le _
  clear hk
  go_wp2_with fail
  go_loopw [5, 8, 17] (fun v _ i wr => ∃ j : Nat, j ≤ k ∧ i = .int .i64 j ∧ OwB wr w.heap.size v (l ++ (plain m k).take j) ∧ Ext w wr) (fun _ _ i _ => k - (intOf i).toNat)
  case atStart => exact ⟨0, by omega, rfl, by simpa using hown1, hb1⟩
  case round =>
    obtain ⟨j, hj, rfl, how, hbr⟩ := hrel
    by_cases hlt : j < k
    · have h0 : 0 ≤ (k : Int) - 1 - (j : Int) := by omega
      have hln : (l ++ (plain m k).take j).length ≤ l.length + 8 := by simp; omega
      have hzr := hbr.size
      have HP := Lib.hid (plain_snoc m k j hlt)
      have HC := Lib.hid (pb_cell m k j)
      go_wp2_with (at_builtin; refine wpList_append_bs _ rfl (.tmp 20) (.tmp 30) rfl (how.ext (ext_alloc _ _)) (Bs.alloc_ (l := [pb m k j]) _ 5 _ HC.out rfl (Nat.le_refl _) (show (1 : Nat) ≤ maxLen by decide)) rfl rfl (by simp at hln ⊢; omega) (by simp; omega) ?_; intro v2 w2 hown2 hg2 hat2; have hb2 : Below w.heap.size w w2 := Below.growB (hbr.alloc hzr _) (how.ext (ext_alloc _ _)) hg2 (Nat.le_refl _) (by simp; omega))
      go_roundw
      case rel => exact ⟨j + 1, by omega, by go_num, by rw [HP.out, ← List.append_assoc]; exact hown2, hb2⟩
      case measure => simp [intOf]; omega
    · have hjk : j = k := by omega
      subst hjk
      have htk : (plain m j).take j = plain m j := List.take_of_length_le (by rw [plain_length]; exact Nat.le_refl _)
      rw [htk] at how
      clear htk hlt
      by_cases hkc : j = 2 ∨ j = 4 ∨ j = 8
      · have hj0 : 0 < j := by omega
        obtain ⟨g, cap, rfl, hg1, hg2, hc1, hc2⟩ := how.form_ (n := l.length + j) (by simp [plain_length]) (by omega)
        obtain ⟨hc, hf⟩ := how.cell l.length (by simp [plain_length]; omega)
        rw [get_first l m j hj0] at hc
        have hset := how.set_ l.length (eb m j 0)
        rw [set_first l m j hj0] at hset
        rcases (show j = 2 ∨ j = 4 ∨ j = 8 from hkc) with h | h | h
        · have e2 : ((j : Int) == 2) = true := by rw [beq_iff_eq]; omega
          have HO := Lib.hid (show bits .or .u8 (((pb m j 0).toNat : Nat) : Int) 64 = (((eb m j 0).toNat : Nat) : Int) from by
            have := or_tag m j HK.out hkc
            rw [show tag j = 64 by subst h; rfl] at this
            exact this)
          clear h hkc
          go_wp2_with fail
          rw [HO.out]
          go_ret
          exact ⟨_, rfl, by rw [HE.out]; exact hset, Below.setCell hbr hg1 _⟩
        · have e4 : ((j : Int) == 4) = true := by rw [beq_iff_eq]; omega
          have e2 : ((j : Int) == 2) = false := by rw [beq_eq_false_iff_ne]; omega
          have HO := Lib.hid (show bits .or .u8 (((pb m j 0).toNat : Nat) : Int) 128 = (((eb m j 0).toNat : Nat) : Int) from by
            have := or_tag m j HK.out hkc
            rw [show tag j = 128 by subst h; rfl] at this
            exact this)
          clear h hkc
          go_wp2_with fail
          rw [HO.out]
          go_ret
          exact ⟨_, rfl, by rw [HE.out]; exact hset, Below.setCell hbr hg1 _⟩
        · have e8 : ((j : Int) == 8) = true := by rw [beq_iff_eq]; omega
          have e2 : ((j : Int) == 2) = false := by rw [beq_eq_false_iff_ne]; omega
          have e4 : ((j : Int) == 4) = false := by rw [beq_eq_false_iff_ne]; omega
          have HO := Lib.hid (show bits .or .u8 (((pb m j 0).toNat : Nat) : Int) 192 = (((eb m j 0).toNat : Nat) : Int) from by
            have := or_tag m j HK.out hkc
            rw [show tag j = 192 by subst h; rfl] at this
            exact this)
          clear h hkc
          go_wp2_with fail
          rw [HO.out]
          go_ret
          exact ⟨_, rfl, by rw [HE.out]; exact hset, Below.setCell hbr hg1 _⟩
      · have e2 : ((j : Int) == 2) = false := by rw [beq_eq_false_iff_ne]; omega
        have e4 : ((j : Int) == 4) = false := by rw [beq_eq_false_iff_ne]; omega
        have e8 : ((j : Int) == 8) = false := by rw [beq_eq_false_iff_ne]; omega
        have HQ := Lib.hid (enc_same m j (by
          have := HK.out
          rcases nsize_cases (m : Int) with h | h | h | h | h <;> omega))
        clear hkc
        go_wp2_with fail
        go_ret
        exact ⟨_, rfl, by rw [HE.out, HQ.out]; exact how, hbr⟩
set_option maxHeartbeats 1000000 in
theorem numGet_any (v : Value) (l : List UInt8) (w : World) (hv : Bs w v l) :
    Calls Try.prog 73 #[v] w fun e w' => e = .returned (.tuple #[.int .i64 (((nget l).1 : Nat) : Int), .int .i64 (((nget l).2.1 : Nat) : Int), .int .i64 (((nget l).2.2 : Nat) : Int)]) ∧ w = w' := by
  obtain ⟨A, c, rfl, h1, h2, _, h4⟩ := hv.open_
  unfold maxLen at h2
  cases l with
  | nil =>
    rw [nget_nil]
    go_enter Try.func73, Try.ntmps73
    go_wp2_with fail
    go_ret3
    exact ⟨rfl, rfl⟩
  | cons x r =>
    obtain ⟨b, off, rfl, hb, hc⟩ := h4 (by simp)
    have hc0 := hc 0 x rfl
    rw [Nat.add_zero] at hc0
    rw [List.length_cons] at h1 ⊢
    have hx := x.toNat_lt
    have h63 := and63_int x
    have hne : (((r.length : Int) + 1) == 0) = false := by rw [beq_eq_false_iff_ne]; omega
    have hne' : (((r.length + 1 : Nat) : Int) == 0) = false := by rw [beq_eq_false_iff_ne]; omega
    clear h4
    rcases nlen_cases x with ⟨hq, hk⟩ | ⟨hq, hk⟩ | ⟨hq, hk⟩ | ⟨hq, hk⟩
    · have hq' : (x.toNat : Int) / 64 = 0 := by omega
      clear hq
      by_cases hcut : r.length + 1 < 1
      · have HG := Lib.hid (nget_cut x r (by omega))
        have hcut' : (r.length : Int) + 1 < 1 := by omega
        clear hk
        go_enter Try.func73, Try.ntmps73
        go_wp2_with fail
        go_ret3
        exact ⟨by rw [HG.out]; rfl, rfl⟩
      · have hcut' : ¬ (r.length : Int) + 1 < 1 := by omega
        have HK := Lib.hid hk
        clear hk
        have hrl : 0 ≤ r.length := by omega
        have hs1 : nsize ((x.toNat : Int) % 64) = 1 := nsize_1 (by omega) (by omega)
        have hv0 : nval (x.toNat % 64) (r.take 0) = x.toNat % 64 := by simp [nval]
        have HG := Lib.hid (nget_ok x r (by rw [HK.out]; omega) (by rw [HK.out, hv0, show ((x.toNat % 64 : Nat) : Int) = (x.toNat : Int) % 64 by simp, hs1]; omega))
        rw [HK.out, hv0] at HG
        have HS := Lib.hid hs1
        clear hs1 hv0
        by_cases hc1 : c = 1
        all_goals
          go_enter Try.func73, Try.ntmps73
          go_wp2_with fail
          refine wp_loop_rounds 1 ?_
          rw [rounds_succ]
          go_wp2_with fail
          refine (numSize_any _ w (by omega)).mono ?_
          rintro e w' ⟨rfl, rfl⟩
          rw [HS.out]
          go_wp2_with fail
          go_ret3
          exact ⟨by rw [HG.out]; simp, rfl⟩
    · have hq' : (x.toNat : Int) / 64 = 1 := by omega
      clear hq
      by_cases hcut : r.length + 1 < 2
      · have HG := Lib.hid (nget_cut x r (by omega))
        have hcut' : (r.length : Int) + 1 < 2 := by omega
        clear hk
        go_enter Try.func73, Try.ntmps73
        go_wp2_with fail
        go_ret3
        exact ⟨by rw [HG.out]; rfl, rfl⟩
      · have hcut' : ¬ (r.length : Int) + 1 < 2 := by omega
        have HK := Lib.hid hk
        clear hk
        have hrl : 1 ≤ r.length := by omega
        have hc1 : ¬ c = 1 := by omega
        go_enter Try.func73, Try.ntmps73
        go_wp2_with fail
        go_loop [6, 8, 30] (fun n _ i => ∃ j : Nat, j ≤ 1 ∧ i = .int .i64 j ∧ n = .int .i64 ((nval (x.toNat % 64) (r.take j) : Nat) : Int)) (fun _ _ i => 1 - (intOf i).toNat)
        case atStart => exact ⟨0, by omega, rfl, by simp [nval]⟩
        case round =>
          obtain ⟨j, hj, rfl, rfl⟩ := hrel
          by_cases hlt : j < 1
          · have hcj := hc (j + 1) (r.getD j 0) (by rw [List.getElem?_cons_succ, List.getD_eq_getElem?_getD, List.getElem?_eq_getElem (by omega)]; rfl)
            rw [show off + (j + 1) = off + 1 + j by omega] at hcj
            have HS := Lib.hid (nval_snoc (x.toNat % 64) r j (by omega))
            have hle := nval_le x r j (by omega) (by omega)
            have hy := (r.getD j 0).toNat_lt
            have hor := or_int (nval (x.toNat % 64) (r.take j)) (r.getD j 0) hle
            clear hc
            generalize r.getD j 0 = y at *
            generalize nval (x.toNat % 64) (r.take j) = n at *
            go_wp2_with fail
            go_round
            case rel => exact ⟨j + 1, by omega, by go_num, by rw [HS.out]; simp⟩
            case measure => simp [intOf]; omega
          · have hjm : j = 1 := by omega
            subst hjm
            go_wp2_with fail
            refine (numSize_any _ w (by have := nval_top x r 1 hrl (by omega); omega)).mono ?_
            rintro e w' ⟨rfl, rfl⟩
            by_cases hlast : nsize ((nval (x.toNat % 64) (r.take 1) : Nat) : Int) < 2
            · have HG := Lib.hid (nget_form x r (by rw [HK.out]; omega) (by rw [HK.out]; exact hlast))
              have hlast' : ((nsize ((nval (x.toNat % 64) (r.take 1) : Nat) : Int) : Nat) : Int) < 2 := by omega
              generalize nsize ((nval (x.toNat % 64) (r.take 1) : Nat) : Int) = s at *
              go_wp2_with fail
              go_ret3
              exact ⟨by rw [HG.out]; rfl, rfl⟩
            · have HG := Lib.hid (nget_ok x r (by rw [HK.out]; omega) (by rw [HK.out]; exact hlast))
              rw [HK.out] at HG
              have hlast' : ¬ ((nsize ((nval (x.toNat % 64) (r.take 1) : Nat) : Int) : Nat) : Int) < 2 := by omega
              generalize nsize ((nval (x.toNat % 64) (r.take 1) : Nat) : Int) = s at *
              go_wp2_with fail
              go_ret3
              exact ⟨by rw [HG.out]; rfl, rfl⟩
    · have hq' : (x.toNat : Int) / 64 = 2 := by omega
      clear hq
      by_cases hcut : r.length + 1 < 4
      · have HG := Lib.hid (nget_cut x r (by omega))
        have hcut' : (r.length : Int) + 1 < 4 := by omega
        clear hk
        go_enter Try.func73, Try.ntmps73
        go_wp2_with fail
        go_ret3
        exact ⟨by rw [HG.out]; rfl, rfl⟩
      · have hcut' : ¬ (r.length : Int) + 1 < 4 := by omega
        have HK := Lib.hid hk
        clear hk
        have hrl : 3 ≤ r.length := by omega
        have hc1 : ¬ c = 1 := by omega
        go_enter Try.func73, Try.ntmps73
        go_wp2_with fail
        go_loop [6, 8, 30] (fun n _ i => ∃ j : Nat, j ≤ 3 ∧ i = .int .i64 j ∧ n = .int .i64 ((nval (x.toNat % 64) (r.take j) : Nat) : Int)) (fun _ _ i => 3 - (intOf i).toNat)
        case atStart => exact ⟨0, by omega, rfl, by simp [nval]⟩
        case round =>
          obtain ⟨j, hj, rfl, rfl⟩ := hrel
          by_cases hlt : j < 3
          · have hcj := hc (j + 1) (r.getD j 0) (by rw [List.getElem?_cons_succ, List.getD_eq_getElem?_getD, List.getElem?_eq_getElem (by omega)]; rfl)
            rw [show off + (j + 1) = off + 1 + j by omega] at hcj
            have HS := Lib.hid (nval_snoc (x.toNat % 64) r j (by omega))
            have hle := nval_le x r j (by omega) (by omega)
            have hy := (r.getD j 0).toNat_lt
            have hor := or_int (nval (x.toNat % 64) (r.take j)) (r.getD j 0) hle
            clear hc
            generalize r.getD j 0 = y at *
            generalize nval (x.toNat % 64) (r.take j) = n at *
            go_wp2_with fail
            go_round
            case rel => exact ⟨j + 1, by omega, by go_num, by rw [HS.out]; simp⟩
            case measure => simp [intOf]; omega
          · have hjm : j = 3 := by omega
            subst hjm
            go_wp2_with fail
            refine (numSize_any _ w (by have := nval_top x r 3 hrl (by omega); omega)).mono ?_
            rintro e w' ⟨rfl, rfl⟩
            by_cases hlast : nsize ((nval (x.toNat % 64) (r.take 3) : Nat) : Int) < 4
            · have HG := Lib.hid (nget_form x r (by rw [HK.out]; omega) (by rw [HK.out]; exact hlast))
              have hlast' : ((nsize ((nval (x.toNat % 64) (r.take 3) : Nat) : Int) : Nat) : Int) < 4 := by omega
              generalize nsize ((nval (x.toNat % 64) (r.take 3) : Nat) : Int) = s at *
              go_wp2_with fail
              go_ret3
              exact ⟨by rw [HG.out]; rfl, rfl⟩
            · have HG := Lib.hid (nget_ok x r (by rw [HK.out]; omega) (by rw [HK.out]; exact hlast))
              rw [HK.out] at HG
              have hlast' : ¬ ((nsize ((nval (x.toNat % 64) (r.take 3) : Nat) : Int) : Nat) : Int) < 4 := by omega
              generalize nsize ((nval (x.toNat % 64) (r.take 3) : Nat) : Int) = s at *
              go_wp2_with fail
              go_ret3
              exact ⟨by rw [HG.out]; rfl, rfl⟩
    · have hq' : (x.toNat : Int) / 64 = 3 := by omega
      clear hq
      by_cases hcut : r.length + 1 < 8
      · have HG := Lib.hid (nget_cut x r (by omega))
        have hcut' : (r.length : Int) + 1 < 8 := by omega
        clear hk
        go_enter Try.func73, Try.ntmps73
        go_wp2_with fail
        go_ret3
        exact ⟨by rw [HG.out]; rfl, rfl⟩
      · have hcut' : ¬ (r.length : Int) + 1 < 8 := by omega
        have HK := Lib.hid hk
        clear hk
        have hrl : 7 ≤ r.length := by omega
        have hc1 : ¬ c = 1 := by omega
        go_enter Try.func73, Try.ntmps73
        go_wp2_with fail
        go_loop [6, 8, 30] (fun n _ i => ∃ j : Nat, j ≤ 7 ∧ i = .int .i64 j ∧ n = .int .i64 ((nval (x.toNat % 64) (r.take j) : Nat) : Int)) (fun _ _ i => 7 - (intOf i).toNat)
        case atStart => exact ⟨0, by omega, rfl, by simp [nval]⟩
        case round =>
          obtain ⟨j, hj, rfl, rfl⟩ := hrel
          by_cases hlt : j < 7
          · have hcj := hc (j + 1) (r.getD j 0) (by rw [List.getElem?_cons_succ, List.getD_eq_getElem?_getD, List.getElem?_eq_getElem (by omega)]; rfl)
            rw [show off + (j + 1) = off + 1 + j by omega] at hcj
            have HS := Lib.hid (nval_snoc (x.toNat % 64) r j (by omega))
            have hle := nval_le x r j (by omega) (by omega)
            have hy := (r.getD j 0).toNat_lt
            have hor := or_int (nval (x.toNat % 64) (r.take j)) (r.getD j 0) hle
            clear hc
            generalize r.getD j 0 = y at *
            generalize nval (x.toNat % 64) (r.take j) = n at *
            go_wp2_with fail
            go_round
            case rel => exact ⟨j + 1, by omega, by go_num, by rw [HS.out]; simp⟩
            case measure => simp [intOf]; omega
          · have hjm : j = 7 := by omega
            subst hjm
            go_wp2_with fail
            refine (numSize_any _ w (by have := nval_top x r 7 hrl (by omega); omega)).mono ?_
            rintro e w' ⟨rfl, rfl⟩
            by_cases hlast : nsize ((nval (x.toNat % 64) (r.take 7) : Nat) : Int) < 8
            · have HG := Lib.hid (nget_form x r (by rw [HK.out]; omega) (by rw [HK.out]; exact hlast))
              have hlast' : ((nsize ((nval (x.toNat % 64) (r.take 7) : Nat) : Int) : Nat) : Int) < 8 := by omega
              generalize nsize ((nval (x.toNat % 64) (r.take 7) : Nat) : Int) = s at *
              go_wp2_with fail
              go_ret3
              exact ⟨by rw [HG.out]; rfl, rfl⟩
            · have HG := Lib.hid (nget_ok x r (by rw [HK.out]; omega) (by rw [HK.out]; exact hlast))
              rw [HK.out] at HG
              have hlast' : ¬ ((nsize ((nval (x.toNat % 64) (r.take 7) : Nat) : Int) : Nat) : Int) < 8 := by omega
              generalize nsize ((nval (x.toNat % 64) (r.take 7) : Nat) : Int) = s at *
              go_wp2_with fail
              go_ret3
              exact ⟨by rw [HG.out]; rfl, rfl⟩
end Go.Proofs.Ytocdifjdeifclaa

/-
  The walks of the document's own answer for layer 1.
-/
namespace Go.Proofs.Ytocdifjdeifclaa
open Go.RowKit Mono Num
set_option linter.unusedSimpArgs false
set_option linter.unusedVariables false
set_option maxHeartbeats 400000 in
theorem refSize_any (n : Int) (w : World) (hn : -9223372036854775808 ≤ n ∧ n ≤ 9223372036854775807) :
    Calls Try.prog 80 #[.int .i64 n] w fun e w' => e = .returned (.int .i64 ((nsize n : Nat) : Int)) ∧ w = w' := by
  obtain ⟨hn1, hn2⟩ := hn
  rcases nsize_cases n with ⟨h | h, hs⟩ | ⟨h, h', hs⟩ | ⟨h, h', hs⟩ | ⟨h, h', hs⟩ | ⟨h, h', hs⟩
  all_goals
    have HS := Lib.hid hs
    clear hs
    go_enter Try.func80, Try.ntmps80
    go_wp2_with fail
    go_ret
    exact ⟨by rw [HS.out]; rfl, rfl⟩
set_option maxHeartbeats 1000000 in
theorem refPut_any (v : Value) (l : List UInt8) (n : Int) (w : World) (hv : Bs w v l) (hl : l.length ≤ 140737488355000) (hn : -9223372036854775808 ≤ n ∧ n ≤ 9223372036854775807) :
    Calls Try.prog 58 #[v, .int .i64 n] w fun e w' => ∃ r, e = .returned r ∧ OwB w' w.heap.size r (l ++ nput n) ∧ Ext w w' := by
  obtain ⟨hn1, hn2⟩ := hn
  go_enter Try.func58, Try.ntmps58
  go_wp2_with (at_builtin; refine wpList_append_bs _ rfl (.tmp 9) (.tmp 10) rfl (OwB.empty_ w (Nat.le_refl _)) (hv.ext (ext_alloc _ _)) rfl rfl (by simp; omega) (by simp) ?_; intro v1 w1 hown1 hg1 hat1; have hb1 : Ext w w1 := Below.growB (ext_alloc w _) (OwB.empty_ w (Nat.le_refl _)) hg1 (Nat.le_refl _) (by simp))
  rw [List.nil_append] at hown1
  clear hg1 hat1
  refine (refSize_any _ w1 (by omega)).mono ?_
  rintro e w2 ⟨rfl, rfl⟩
  by_cases hneg : n < 0
  · have HN := Lib.hid (nput_out (.inl hneg))
    have hs0 := nsize_out (.inl hneg : n < 0 ∨ 4611686018427387903 < n)
    rw [hs0]
    clear hs0
    go_wp2_with fail
    refine wp_loop_rounds 1 ?_
    rw [rounds_succ]
    go_wp2_with fail
    go_ret
    exact ⟨_, rfl, by rw [HN.out, List.append_nil]; exact hown1, hb1⟩
  obtain ⟨m, rfl⟩ := Int.eq_ofNat_of_zero_le (show 0 ≤ n by omega)
  obtain ⟨k, hk⟩ : ∃ k, nsize (m : Int) = k := ⟨_, rfl⟩
  have HE : Hid (nput (m : Int) = enc m k) := Lib.hid (by unfold nput; rw [hk]; rfl)
  rw [hk]
  have HK := Lib.hid hk
  have hk8 : k ≤ 8 := by rw [← hk]; exact nsize_le _
  clear hk
  go_wp2_with fail
  go_loopw [5, 7, 8] (fun v i _ wr => ∃ j : Nat, j ≤ k ∧ i = .int .i64 ((k : Int) - 1 - (j : Int)) ∧ OwB wr w.heap.size v (l ++ (enc m k).take j) ∧ Ext w wr) (fun _ i _ _ => (intOf i + 1).toNat)
  case atStart => exact ⟨0, by omega, by simp, by simpa using hown1, hb1⟩
  case round =>
    obtain ⟨j, hj, rfl, how, hbr⟩ := hrel
    by_cases hlt : j < k
    · have h0 : 0 ≤ (k : Int) - 1 - (j : Int) := by omega
      have hln : (l ++ (enc m k).take j).length ≤ l.length + 8 := by simp; omega
      have hzr := hbr.size
      have HP := Lib.hid (enc_snoc m k j hlt)
      have hmax : m ≤ 4611686018427387903 := by
        have := HK.out
        rcases nsize_cases (m : Int) with h | h | h | h | h <;> omega
      have hand := and_int m k j hmax
      clear hmax
      have hp8 := (pb m k j).toNat_lt
      by_cases hj0 : j = 0
      · have ej : ((k : Int) - 1 - (j : Int) == (k : Int) - 1) = true := by rw [beq_iff_eq]; omega
        have hpf : (pb m k j).toNat < 64 ∧ (eb m k j).toNat = (pb m k j).toNat + tag k := by rw [hj0]; exact pb_first m k HK.out (by omega)
        have hp64 := hpf.1
        have hcs : k = 1 ∨ k = 2 ∨ k = 4 ∨ k = 8 := by
          have := HK.out
          rcases nsize_cases (m : Int) with h | h | h | h | h <;> omega
        clear hj0
        rcases hcs with h | h | h | h
        · have ht : tag k = 0 := by subst h; rfl
          have e2 : ((k : Int) == 2) = false := by rw [beq_eq_false_iff_ne]; omega
          have e4 : ((k : Int) == 4) = false := by rw [beq_eq_false_iff_ne]; omega
          have e8 : ((k : Int) == 8) = false := by rw [beq_eq_false_iff_ne]; omega
          have HC : Hid ((#[Value.int .u8 (((pb m k j).toNat : Int))] : Array Value).toList = [eb m k j].map bv) := Lib.hid (by
            have := hpf.2
            rw [ht] at this
            simp [bv, this])
          clear h ht hpf
          go_wp2_with (at_builtin; refine wpList_append_bs _ rfl (.tmp 43) (.tmp 45) rfl (how.ext (ext_alloc _ _)) (Bs.alloc_ (l := [eb m k j]) _ 5 _ HC.out rfl (Nat.le_refl _) (show (1 : Nat) ≤ maxLen by decide)) rfl rfl (by simp at hln ⊢; omega) (by simp; omega) ?_; intro v2 w2 hown2 hg2 hat2; have hb2 : Below w.heap.size w w2 := Below.growB (hbr.alloc hzr _) (how.ext (ext_alloc _ _)) hg2 (Nat.le_refl _) (by simp; omega))
          go_roundw
          case rel => exact ⟨j + 1, by omega, by go_num, by rw [HP.out, ← List.append_assoc]; exact hown2, hb2⟩
          case measure => simp [intOf]; omega
        · have ht : tag k = 64 := by subst h; rfl
          have e2 : ((k : Int) == 2) = true := by rw [beq_iff_eq]; omega
          have e4 : ((k : Int) == 4) = false := by rw [beq_eq_false_iff_ne]; omega
          have e8 : ((k : Int) == 8) = false := by rw [beq_eq_false_iff_ne]; omega
          have HC : Hid ((#[Value.int .u8 (((pb m k j).toNat : Int) + 64)] : Array Value).toList = [eb m k j].map bv) := Lib.hid (by
            have := hpf.2
            rw [ht] at this
            simp [bv, this])
          clear h ht hpf
          go_wp2_with (at_builtin; refine wpList_append_bs _ rfl (.tmp 43) (.tmp 45) rfl (how.ext (ext_alloc _ _)) (Bs.alloc_ (l := [eb m k j]) _ 5 _ HC.out rfl (Nat.le_refl _) (show (1 : Nat) ≤ maxLen by decide)) rfl rfl (by simp at hln ⊢; omega) (by simp; omega) ?_; intro v2 w2 hown2 hg2 hat2; have hb2 : Below w.heap.size w w2 := Below.growB (hbr.alloc hzr _) (how.ext (ext_alloc _ _)) hg2 (Nat.le_refl _) (by simp; omega))
          go_roundw
          case rel => exact ⟨j + 1, by omega, by go_num, by rw [HP.out, ← List.append_assoc]; exact hown2, hb2⟩
          case measure => simp [intOf]; omega
        · have ht : tag k = 128 := by subst h; rfl
          have e2 : ((k : Int) == 2) = false := by rw [beq_eq_false_iff_ne]; omega
          have e4 : ((k : Int) == 4) = true := by rw [beq_iff_eq]; omega
          have e8 : ((k : Int) == 8) = false := by rw [beq_eq_false_iff_ne]; omega
          have HC : Hid ((#[Value.int .u8 (((pb m k j).toNat : Int) + 128)] : Array Value).toList = [eb m k j].map bv) := Lib.hid (by
            have := hpf.2
            rw [ht] at this
            simp [bv, this])
          clear h ht hpf
          go_wp2_with (at_builtin; refine wpList_append_bs _ rfl (.tmp 43) (.tmp 45) rfl (how.ext (ext_alloc _ _)) (Bs.alloc_ (l := [eb m k j]) _ 5 _ HC.out rfl (Nat.le_refl _) (show (1 : Nat) ≤ maxLen by decide)) rfl rfl (by simp at hln ⊢; omega) (by simp; omega) ?_; intro v2 w2 hown2 hg2 hat2; have hb2 : Below w.heap.size w w2 := Below.growB (hbr.alloc hzr _) (how.ext (ext_alloc _ _)) hg2 (Nat.le_refl _) (by simp; omega))
          go_roundw
          case rel => exact ⟨j + 1, by omega, by go_num, by rw [HP.out, ← List.append_assoc]; exact hown2, hb2⟩
          case measure => simp [intOf]; omega
        · have ht : tag k = 192 := by subst h; rfl
          have e2 : ((k : Int) == 2) = false := by rw [beq_eq_false_iff_ne]; omega
          have e4 : ((k : Int) == 4) = false := by rw [beq_eq_false_iff_ne]; omega
          have e8 : ((k : Int) == 8) = true := by rw [beq_iff_eq]; omega
          have HC : Hid ((#[Value.int .u8 (((pb m k j).toNat : Int) + 192)] : Array Value).toList = [eb m k j].map bv) := Lib.hid (by
            have := hpf.2
            rw [ht] at this
            simp [bv, this])
          clear h ht hpf
          go_wp2_with (at_builtin; refine wpList_append_bs _ rfl (.tmp 43) (.tmp 45) rfl (how.ext (ext_alloc _ _)) (Bs.alloc_ (l := [eb m k j]) _ 5 _ HC.out rfl (Nat.le_refl _) (show (1 : Nat) ≤ maxLen by decide)) rfl rfl (by simp at hln ⊢; omega) (by simp; omega) ?_; intro v2 w2 hown2 hg2 hat2; have hb2 : Below w.heap.size w w2 := Below.growB (hbr.alloc hzr _) (how.ext (ext_alloc _ _)) hg2 (Nat.le_refl _) (by simp; omega))
          go_roundw
          case rel => exact ⟨j + 1, by omega, by go_num, by rw [HP.out, ← List.append_assoc]; exact hown2, hb2⟩
          case measure => simp [intOf]; omega
      · have ej : ((k : Int) - 1 - (j : Int) == (k : Int) - 1) = false := by rw [beq_eq_false_iff_ne]; omega
        have HC : Hid ((#[Value.int .u8 ((pb m k j).toNat : Int)] : Array Value).toList = [eb m k j].map bv) := Lib.hid (by rw [eb_later m k j hj0]; rfl)
        go_wp2_with (at_builtin; refine wpList_append_bs _ rfl (.tmp 43) (.tmp 45) rfl (how.ext (ext_alloc _ _)) (Bs.alloc_ (l := [eb m k j]) _ 5 _ HC.out rfl (Nat.le_refl _) (show (1 : Nat) ≤ maxLen by decide)) rfl rfl (by simp at hln ⊢; omega) (by simp; omega) ?_; intro v2 w2 hown2 hg2 hat2; have hb2 : Below w.heap.size w w2 := Below.growB (hbr.alloc hzr _) (how.ext (ext_alloc _ _)) hg2 (Nat.le_refl _) (by simp; omega))
        go_roundw
        case rel => exact ⟨j + 1, by omega, by go_num, by rw [HP.out, ← List.append_assoc]; exact hown2, hb2⟩
        case measure => simp [intOf]; omega
    · have hjk : j = k := by omega
      subst hjk
      have htk : (enc m j).take j = enc m j := List.take_of_length_le (by rw [enc_length]; exact Nat.le_refl _)
      rw [htk] at how
      go_wp2_with fail
      go_ret
      exact ⟨_, rfl, by rw [HE.out]; exact how, hbr⟩
set_option maxHeartbeats 1000000 in
theorem refGet_any (v : Value) (l : List UInt8) (w : World) (hv : Bs w v l) :
    Calls Try.prog 75 #[v] w fun e w' => e = .returned (.tuple #[.int .i64 (((nget l).1 : Nat) : Int), .int .i64 (((nget l).2.1 : Nat) : Int), .int .i64 (((nget l).2.2 : Nat) : Int)]) ∧ w = w' := by
  obtain ⟨A, c, rfl, h1, h2, _, h4⟩ := hv.open_
  unfold maxLen at h2
  cases l with
  | nil =>
    rw [nget_nil]
    go_enter Try.func75, Try.ntmps75
    go_wp2_with fail
    go_ret3
    exact ⟨rfl, rfl⟩
  | cons x r =>
    obtain ⟨b, off, rfl, hb, hc⟩ := h4 (by simp)
    have hc0 := hc 0 x rfl
    rw [Nat.add_zero] at hc0
    rw [List.length_cons] at h1 ⊢
    have hx := x.toNat_lt
    have hne : (((r.length : Int) + 1) == 0) = false := by rw [beq_eq_false_iff_ne]; omega
    have hne' : (((r.length + 1 : Nat) : Int) == 0) = false := by rw [beq_eq_false_iff_ne]; omega
    clear h4
    rcases nlen_cases x with ⟨hq, hk⟩ | ⟨hq, hk⟩ | ⟨hq, hk⟩ | ⟨hq, hk⟩
    · have hq' : (x.toNat : Int) / 64 = 0 := by omega
      clear hq
      by_cases hcut : r.length + 1 < 1
      · have HG := Lib.hid (nget_cut x r (by omega))
        have hcut' : (r.length : Int) + 1 < 1 := by omega
        clear hk
        go_enter Try.func75, Try.ntmps75
        go_wp2_with fail
        refine wp_loop_rounds 1 ?_
        rw [rounds_succ]
        go_wp2_with fail
        go_ret3
        exact ⟨by rw [HG.out]; rfl, rfl⟩
      · have hcut' : ¬ (r.length : Int) + 1 < 1 := by omega
        have HK := Lib.hid hk
        clear hk
        have hrl : 0 ≤ r.length := by omega
        have hs1 : nsize ((x.toNat : Int) % 64) = 1 := nsize_1 (by omega) (by omega)
        have hv0 : nval (x.toNat % 64) (r.take 0) = x.toNat % 64 := by simp [nval]
        have HG := Lib.hid (nget_ok x r (by rw [HK.out]; omega) (by rw [HK.out, hv0, show ((x.toNat % 64 : Nat) : Int) = (x.toNat : Int) % 64 by simp, hs1]; omega))
        rw [HK.out, hv0] at HG
        have HS := Lib.hid hs1
        clear hs1 hv0
        go_enter Try.func75, Try.ntmps75
        go_wp2_with fail
        refine wp_loop_rounds 1 ?_
        rw [rounds_succ]
        go_wp2_with fail
        refine wp_loop_rounds 1 ?_
        rw [rounds_succ]
        go_wp2_with fail
        refine (refSize_any _ w (by omega)).mono ?_
        rintro e w' ⟨rfl, rfl⟩
        rw [HS.out]
        go_wp2_with fail
        go_ret3
        exact ⟨by rw [HG.out]; simp, rfl⟩
    · have hq' : (x.toNat : Int) / 64 = 1 := by omega
      clear hq
      by_cases hcut : r.length + 1 < 2
      · have HG := Lib.hid (nget_cut x r (by omega))
        have hcut' : (r.length : Int) + 1 < 2 := by omega
        clear hk
        go_enter Try.func75, Try.ntmps75
        go_wp2_with fail
        refine wp_loop_rounds 2 ?_
        rw [rounds_succ]
        go_wp2_with fail
        rw [rounds_succ]
        go_wp2_with fail
        go_ret3
        exact ⟨by rw [HG.out]; rfl, rfl⟩
      · have hcut' : ¬ (r.length : Int) + 1 < 2 := by omega
        have HK := Lib.hid hk
        clear hk
        have hrl : 1 ≤ r.length := by omega
        go_enter Try.func75, Try.ntmps75
        go_wp2_with fail
        refine wp_loop_rounds 2 ?_
        rw [rounds_succ]
        go_wp2_with fail
        rw [rounds_succ]
        go_wp2_with fail
        go_loop [7, 8] (fun n i => ∃ j : Nat, j ≤ 1 ∧ i = .int .i64 ((j : Int) + 1) ∧ n = .int .i64 ((nval (x.toNat % 64) (r.take j) : Nat) : Int)) (fun _ i => 2 - (intOf i).toNat)
        case atStart => exact ⟨0, by omega, rfl, by simp [nval]⟩
        case round =>
          obtain ⟨j, hj, rfl, rfl⟩ := hrel
          by_cases hlt : j < 1
          · have hcj := hc (j + 1) (r.getD j 0) (by rw [List.getElem?_cons_succ, List.getD_eq_getElem?_getD, List.getElem?_eq_getElem (by omega)]; rfl)
            have HS := Lib.hid (nval_snoc (x.toNat % 64) r j (by omega))
            have hle := nval_le x r j (by omega) (by omega)
            have hy := (r.getD j 0).toNat_lt
            clear hc
            generalize r.getD j 0 = y at *
            generalize nval (x.toNat % 64) (r.take j) = n at *
            go_wp2_with fail
            go_round
            case rel => exact ⟨j + 1, by omega, by go_num, by rw [HS.out]; simp⟩
            case measure => simp [intOf]; omega
          · have hjm : j = 1 := by omega
            subst hjm
            go_wp2_with fail
            refine (refSize_any _ w (by have := nval_top x r 1 hrl (by omega); omega)).mono ?_
            rintro e w' ⟨rfl, rfl⟩
            by_cases hlast : nsize ((nval (x.toNat % 64) (r.take 1) : Nat) : Int) < 2
            · have HG := Lib.hid (nget_form x r (by rw [HK.out]; omega) (by rw [HK.out]; exact hlast))
              have hlast' : (((nsize ((nval (x.toNat % 64) (r.take 1) : Nat) : Int) : Nat) : Int) != 2) = true := by rw [bne_iff_ne]; omega
              generalize nsize ((nval (x.toNat % 64) (r.take 1) : Nat) : Int) = s at *
              go_wp2_with fail
              go_ret3
              exact ⟨by rw [HG.out]; rfl, rfl⟩
            · have HG := Lib.hid (nget_ok x r (by rw [HK.out]; omega) (by rw [HK.out]; exact hlast))
              have hle := nsize_le_nlen x (r.take (nlen x - 1)) (by rw [HK.out]; simp; omega)
              rw [HK.out] at HG hle
              have hs : nsize ((nval (x.toNat % 64) (r.take 1) : Nat) : Int) = 2 := by
                have : nsize ((nval (x.toNat % 64) (r.take (2 - 1)) : Nat) : Int) ≤ 2 := hle
                simp only [Nat.reduceSub] at this
                omega
              rw [hs]
              clear hs hle hlast
              go_wp2_with fail
              go_ret3
              exact ⟨by rw [HG.out]; rfl, rfl⟩
    · have hq' : (x.toNat : Int) / 64 = 2 := by omega
      clear hq
      by_cases hcut : r.length + 1 < 4
      · have HG := Lib.hid (nget_cut x r (by omega))
        have hcut' : (r.length : Int) + 1 < 4 := by omega
        clear hk
        go_enter Try.func75, Try.ntmps75
        go_wp2_with fail
        refine wp_loop_rounds 3 ?_
        rw [rounds_succ]
        go_wp2_with fail
        rw [rounds_succ]
        go_wp2_with fail
        rw [rounds_succ]
        go_wp2_with fail
        go_ret3
        exact ⟨by rw [HG.out]; rfl, rfl⟩
      · have hcut' : ¬ (r.length : Int) + 1 < 4 := by omega
        have HK := Lib.hid hk
        clear hk
        have hrl : 3 ≤ r.length := by omega
        go_enter Try.func75, Try.ntmps75
        go_wp2_with fail
        refine wp_loop_rounds 3 ?_
        rw [rounds_succ]
        go_wp2_with fail
        rw [rounds_succ]
        go_wp2_with fail
        rw [rounds_succ]
        go_wp2_with fail
        go_loop [7, 8] (fun n i => ∃ j : Nat, j ≤ 3 ∧ i = .int .i64 ((j : Int) + 1) ∧ n = .int .i64 ((nval (x.toNat % 64) (r.take j) : Nat) : Int)) (fun _ i => 4 - (intOf i).toNat)
        case atStart => exact ⟨0, by omega, rfl, by simp [nval]⟩
        case round =>
          obtain ⟨j, hj, rfl, rfl⟩ := hrel
          by_cases hlt : j < 3
          · have hcj := hc (j + 1) (r.getD j 0) (by rw [List.getElem?_cons_succ, List.getD_eq_getElem?_getD, List.getElem?_eq_getElem (by omega)]; rfl)
            have HS := Lib.hid (nval_snoc (x.toNat % 64) r j (by omega))
            have hle := nval_le x r j (by omega) (by omega)
            have hy := (r.getD j 0).toNat_lt
            clear hc
            generalize r.getD j 0 = y at *
            generalize nval (x.toNat % 64) (r.take j) = n at *
            go_wp2_with fail
            go_round
            case rel => exact ⟨j + 1, by omega, by go_num, by rw [HS.out]; simp⟩
            case measure => simp [intOf]; omega
          · have hjm : j = 3 := by omega
            subst hjm
            go_wp2_with fail
            refine (refSize_any _ w (by have := nval_top x r 3 hrl (by omega); omega)).mono ?_
            rintro e w' ⟨rfl, rfl⟩
            by_cases hlast : nsize ((nval (x.toNat % 64) (r.take 3) : Nat) : Int) < 4
            · have HG := Lib.hid (nget_form x r (by rw [HK.out]; omega) (by rw [HK.out]; exact hlast))
              have hlast' : (((nsize ((nval (x.toNat % 64) (r.take 3) : Nat) : Int) : Nat) : Int) != 4) = true := by rw [bne_iff_ne]; omega
              generalize nsize ((nval (x.toNat % 64) (r.take 3) : Nat) : Int) = s at *
              go_wp2_with fail
              go_ret3
              exact ⟨by rw [HG.out]; rfl, rfl⟩
            · have HG := Lib.hid (nget_ok x r (by rw [HK.out]; omega) (by rw [HK.out]; exact hlast))
              have hle := nsize_le_nlen x (r.take (nlen x - 1)) (by rw [HK.out]; simp; omega)
              rw [HK.out] at HG hle
              have hs : nsize ((nval (x.toNat % 64) (r.take 3) : Nat) : Int) = 4 := by
                have : nsize ((nval (x.toNat % 64) (r.take (4 - 1)) : Nat) : Int) ≤ 4 := hle
                simp only [Nat.reduceSub] at this
                omega
              rw [hs]
              clear hs hle hlast
              go_wp2_with fail
              go_ret3
              exact ⟨by rw [HG.out]; rfl, rfl⟩
    · have hq' : (x.toNat : Int) / 64 = 3 := by omega
      clear hq
      by_cases hcut : r.length + 1 < 8
      · have HG := Lib.hid (nget_cut x r (by omega))
        have hcut' : (r.length : Int) + 1 < 8 := by omega
        clear hk
        go_enter Try.func75, Try.ntmps75
        go_wp2_with fail
        refine wp_loop_rounds 4 ?_
        rw [rounds_succ]
        go_wp2_with fail
        rw [rounds_succ]
        go_wp2_with fail
        rw [rounds_succ]
        go_wp2_with fail
        rw [rounds_succ]
        go_wp2_with fail
        go_ret3
        exact ⟨by rw [HG.out]; rfl, rfl⟩
      · have hcut' : ¬ (r.length : Int) + 1 < 8 := by omega
        have HK := Lib.hid hk
        clear hk
        have hrl : 7 ≤ r.length := by omega
        go_enter Try.func75, Try.ntmps75
        go_wp2_with fail
        refine wp_loop_rounds 4 ?_
        rw [rounds_succ]
        go_wp2_with fail
        rw [rounds_succ]
        go_wp2_with fail
        rw [rounds_succ]
        go_wp2_with fail
        rw [rounds_succ]
        go_wp2_with fail
        go_loop [7, 8] (fun n i => ∃ j : Nat, j ≤ 7 ∧ i = .int .i64 ((j : Int) + 1) ∧ n = .int .i64 ((nval (x.toNat % 64) (r.take j) : Nat) : Int)) (fun _ i => 8 - (intOf i).toNat)
        case atStart => exact ⟨0, by omega, rfl, by simp [nval]⟩
        case round =>
          obtain ⟨j, hj, rfl, rfl⟩ := hrel
          by_cases hlt : j < 7
          · have hcj := hc (j + 1) (r.getD j 0) (by rw [List.getElem?_cons_succ, List.getD_eq_getElem?_getD, List.getElem?_eq_getElem (by omega)]; rfl)
            have HS := Lib.hid (nval_snoc (x.toNat % 64) r j (by omega))
            have hle := nval_le x r j (by omega) (by omega)
            have hy := (r.getD j 0).toNat_lt
            clear hc
            generalize r.getD j 0 = y at *
            generalize nval (x.toNat % 64) (r.take j) = n at *
            go_wp2_with fail
            go_round
            case rel => exact ⟨j + 1, by omega, by go_num, by rw [HS.out]; simp⟩
            case measure => simp [intOf]; omega
          · have hjm : j = 7 := by omega
            subst hjm
            go_wp2_with fail
            refine (refSize_any _ w (by have := nval_top x r 7 hrl (by omega); omega)).mono ?_
            rintro e w' ⟨rfl, rfl⟩
            by_cases hlast : nsize ((nval (x.toNat % 64) (r.take 7) : Nat) : Int) < 8
            · have HG := Lib.hid (nget_form x r (by rw [HK.out]; omega) (by rw [HK.out]; exact hlast))
              have hlast' : (((nsize ((nval (x.toNat % 64) (r.take 7) : Nat) : Int) : Nat) : Int) != 8) = true := by rw [bne_iff_ne]; omega
              generalize nsize ((nval (x.toNat % 64) (r.take 7) : Nat) : Int) = s at *
              go_wp2_with fail
              go_ret3
              exact ⟨by rw [HG.out]; rfl, rfl⟩
            · have HG := Lib.hid (nget_ok x r (by rw [HK.out]; omega) (by rw [HK.out]; exact hlast))
              have hle := nsize_le_nlen x (r.take (nlen x - 1)) (by rw [HK.out]; simp; omega)
              rw [HK.out] at HG hle
              have hs : nsize ((nval (x.toNat % 64) (r.take 7) : Nat) : Int) = 8 := by
                have : nsize ((nval (x.toNat % 64) (r.take (8 - 1)) : Nat) : Int) ≤ 8 := hle
                simp only [Nat.reduceSub] at this
                omega
              rw [hs]
              clear hs hle hlast
              go_wp2_with fail
              go_ret3
              exact ⟨by rw [HG.out]; rfl, rfl⟩
end Go.Proofs.Ytocdifjdeifclaa
