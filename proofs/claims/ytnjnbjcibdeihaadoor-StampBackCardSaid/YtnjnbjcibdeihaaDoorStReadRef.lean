/-
  The walk of the document's Read of stamps.
-/
import Derived.Test.YtnjnbjcibdeihaaDoorStRead
namespace Go.Proofs.YtnjnbjcibdeihaaDoor
open Go Go.RowKit Mono
open Go.Lib (decDigits decFrom digitVal)
set_option linter.unusedVariables false
set_option linter.unusedSimpArgs false

theorem mid_at (d : List UInt8) (c x : UInt8) (k : Nat) (hx : d[k]? = some x) (h : k < ({ data := (d ++ [c]).toArray } : ByteArray).size) : ({ data := (d ++ [c]).toArray } : ByteArray)[k]'h = x := by
  show (d ++ [c]).toArray[k] = x
  obtain ⟨hk, e⟩ := List.getElem?_eq_some_iff.1 hx
  simp [List.getElem_append_left hk, e]
theorem ten_le (m k : Nat) (h : m < 10 ^ k) (hk : k ≤ 15) : m < 1000000000000000 :=
  Nat.lt_of_lt_of_le h (Nat.le_trans (Nat.pow_le_pow_right (by decide) hk) (by decide))

set_option maxHeartbeats 4000000 in
theorem refSRead_any (s : List UInt8) (w : World) (hl : s.length ≤ 1000) :
    Calls Tryd.prog 23 #[strV s] w fun e w' => ∃ r : (Int × Int) × Int, e = .returned (.tuple #[stV r.1.1 r.1.2, .int .i64 r.2]) ∧ SRead s r ∧ Ext w w' := by
  unfold strV stV
  by_cases h0 : s = [45]
  · subst h0
    go_enter Tryd.func23, Tryd.ntmps23
    set_option maxRecDepth 10000 in
    go_wp2_with fail
    have hx := ext_alloc w (.cells #[.int .i64 0, .int .i64 0] 23)
    have bo := Blk.new w #[.int .i64 0, .int .i64 0] 23
    have d0 := bo.cell (i := 0) rfl
    have d1 := bo.cell (i := 1) rfl
    exact bodyPost_ret (v := .tuple #[.agg #[.int .i64 0, .int .i64 0], .int .i64 0]) (by simp [results, Tryd.results23, d0, d1, go_sem]) rfl (by first | exact ⟨((0, 0), 0), rfl, .inl ⟨rfl, rfl⟩, hx⟩ | exact ⟨0, 0, 0, rfl, .inl ⟨rfl, rfl⟩, hx⟩)
  · have hq : (s == [45]) = false := by simpa using h0
    by_cases h2 : s.length < 2
    · have HR := Lib.hid (show SRead s ((0, 0), 11) from .inr (.inr ⟨h0, fun a b h e => by have := (stext_len h).1; rw [← e] at this; omega, rfl⟩))
      clear h0
      go_enter Tryd.func23, Tryd.ntmps23
      set_option maxRecDepth 10000 in
      go_wp2_with fail
      have hx := ext_alloc w (.cells #[.int .i64 0, .int .i64 0] 23)
      have bo := Blk.new w #[.int .i64 0, .int .i64 0] 23
      have d0 := bo.cell (i := 0) rfl
      have d1 := bo.cell (i := 1) rfl
      exact bodyPost_ret (v := .tuple #[.agg #[.int .i64 0, .int .i64 0], .int .i64 11]) (by simp [results, Tryd.results23, d0, d1, go_sem]) rfl (by first | exact ⟨((0, 0), 11), rfl, HR.out, hx⟩ | exact ⟨0, 0, 11, rfl, HR.out, hx⟩)
    · by_cases h16 : 16 < s.length
      · have HR := Lib.hid (show SRead s ((0, 0), 11) from .inr (.inr ⟨h0, fun a b h e => by have := (stext_len h).2; rw [← e] at this; omega, rfl⟩))
        clear h0
        go_enter Tryd.func23, Tryd.ntmps23
        set_option maxRecDepth 10000 in
        go_wp2_with fail
        have hx := ext_alloc w (.cells #[.int .i64 0, .int .i64 0] 23)
        have bo := Blk.new w #[.int .i64 0, .int .i64 0] 23
        have d0 := bo.cell (i := 0) rfl
        have d1 := bo.cell (i := 1) rfl
        exact bodyPost_ret (v := .tuple #[.agg #[.int .i64 0, .int .i64 0], .int .i64 11]) (by simp [results, Tryd.results23, d0, d1, go_sem]) rfl (by first | exact ⟨((0, 0), 11), rfl, HR.out, hx⟩ | exact ⟨0, 0, 11, rfl, HR.out, hx⟩)
      · obtain ⟨d, c, rfl⟩ : ∃ d c, s = d ++ [c] := by
          have hne : s ≠ [] := by rintro rfl; simp at h2
          exact ⟨s.dropLast, s.getLast hne, (List.dropLast_concat_getLast hne).symm⟩
        have H0 := Lib.hid h0
        clear h0
        have hdl : 1 ≤ d.length := by simp at h2; omega
        have hdl2 : d.length ≤ 15 := by simp at h16; omega
        clear h2 hl h16
        go_enter Tryd.func23, Tryd.ntmps23
        set_option maxRecDepth 10000 in
        go_wp2_with fail
        have hx := ext_alloc w (.cells #[.int .i64 0, .int .i64 0] 23)
        have bo := Blk.new w #[.int .i64 0, .int .i64 0] 23
        have G1 : w.heap.size ≤ w.heap.size := Nat.le_refl _
        generalize w.alloc (.cells #[.int .i64 0, .int .i64 0] 23) = W0 at *
        go_loop [4, 5] (fun n i => ∃ k m : Nat, k ≤ d.length ∧ i = .int .i64 k ∧ n = .int .i64 m ∧ decFrom 0 (d.take k) = some m ∧ m < 10 ^ k) (fun _ i => d.length - (intOf i).toNat)
        case atStart => exact ⟨0, 0, Nat.zero_le _, rfl, rfl, by simp [decFrom], by decide⟩
        case round =>
          obtain ⟨k, m, hk, rfl, rfl, hdec, hpow⟩ := hrel
          have hm15 := ten_le m k hpow (by omega)
          have HD := Lib.hid hdec
          have HP := Lib.hid hpow
          clear hdec hpow
          by_cases hlt : k < d.length
          · obtain ⟨x, hx0⟩ : ∃ x, d[k]? = some x := ⟨d[k], List.getElem?_eq_getElem hlt⟩
            have hat := fun h => mid_at d c x k hx0 h
            have hx255 := x.toNat_lt
            have HX := Lib.hid hx0
            clear hx0
            by_cases hdig : 48 ≤ x.toNat ∧ x.toNat ≤ 57
            · obtain ⟨g1, g2⟩ := hdig
              have HN := Lib.hid (show decFrom 0 (d.take (k + 1)) = some (m * 10 + (x.toNat - 48)) from Go.Lib.decFrom_take d k 0 m x _ HD.out HX.out (by unfold digitVal; rw [if_pos ⟨g1, g2⟩]))
              have HQ := Lib.hid (show m * 10 + (x.toNat - 48) < 10 ^ (k + 1) by have := HP.out; rw [Nat.pow_succ]; omega)
              set_option maxRecDepth 10000 in
              go_wp2_with fail
              go_round
              case rel => exact ⟨k + 1, m * 10 + (x.toNat - 48), by omega, by go_num, by congr 1; omega, HN.out, HQ.out⟩
              case measure => simp [intOf]; omega
            · have HR := Lib.hid (sread_form (c := c) H0.out fun a b hg e1 e2 => by
                have h := dec_digit (n := a.toNat) (i := k) (c := x) (by rw [← e1]; exact HX.out)
                exact hdig h)
              by_cases g1 : x.toNat < 48
              · clear hdig
                have boc0 := bo.cell (i := 0) rfl
                have boc1 := bo.cell (i := 1) rfl
                have boz0 := bo.thaw 0
                have boz1 := bo.thaw 1
                set_option maxRecDepth 10000 in
                go_wp2_with fail
                have bo2 := (bo.set 0 (.int .i64 (0))).set 1 (.int .i64 (0))
                have d0 := bo2.cell (i := 0) rfl
                have d1 := bo2.cell (i := 1) rfl
                exact bodyPost_ret (v := .tuple #[.agg #[.int .i64 (0), .int .i64 (0)], .int .i64 11]) (by simp [results, Tryd.results23, d0, d1, go_sem]) rfl (by first | exact ⟨((0, 0), 11), rfl, HR.out, Below.setCell (Below.setCell hx G1 _) G1 _⟩ | exact ⟨0, 0, 11, rfl, HR.out, Below.setCell (Below.setCell hx G1 _) G1 _⟩)
              · have g2 : 57 < x.toNat := by omega
                clear hdig
                have boc0 := bo.cell (i := 0) rfl
                have boc1 := bo.cell (i := 1) rfl
                have boz0 := bo.thaw 0
                have boz1 := bo.thaw 1
                set_option maxRecDepth 10000 in
                go_wp2_with fail
                have bo2 := (bo.set 0 (.int .i64 (0))).set 1 (.int .i64 (0))
                have d0 := bo2.cell (i := 0) rfl
                have d1 := bo2.cell (i := 1) rfl
                exact bodyPost_ret (v := .tuple #[.agg #[.int .i64 (0), .int .i64 (0)], .int .i64 11]) (by simp [results, Tryd.results23, d0, d1, go_sem]) rfl (by first | exact ⟨((0, 0), 11), rfl, HR.out, Below.setCell (Below.setCell hx G1 _) G1 _⟩ | exact ⟨0, 0, 11, rfl, HR.out, Below.setCell (Below.setCell hx G1 _) G1 _⟩)
          · obtain rfl : k = d.length := by omega
            have HF := Lib.hid (show decFrom 0 d = some m by have := HD.out; rwa [List.take_length] at this)
            clear HD HP
            set_option maxRecDepth 10000 in
            go_wp2_with fail
            go_loopw [6] (fun i wr => ∃ k : Nat, 1 ≤ k ∧ k ≤ 3 ∧ i = .int .i64 k ∧ (∀ j : Nat, 1 ≤ j → j < k → 0 < m → stext (m : Int) (j : Int) ≠ d ++ [c]) ∧ Ext W0 wr) (fun i _ => 3 - (intOf i).toNat)
            case atStart => exact ⟨1, Nat.le_refl _, by decide, rfl, fun j h1 h2 => by omega, Ext.refl _⟩
            case round =>
              obtain ⟨k, hk1, hk3, rfl, hno, hxr⟩ := hrel
              replace bo := bo.ext hxr
              have HB := Lib.hid hx
              have HO := Lib.hid hno
              clear hno
              by_cases hlt2 : k ≤ 2
              · have bs := Blk.new wr #[.int .i64 (m : Int), .int .i64 (k : Int)] 23
                have xs := ext_alloc wr (.cells #[.int .i64 (m : Int), .int .i64 (k : Int)] 23)
                replace bo := bo.ext xs
                replace hxr := Ext.trans hxr xs
                clear xs
                have bsc0 := bs.cell (i := 0) rfl
                have bsc1 := bs.cell (i := 1) rfl
                by_cases hm0 : 0 < m
                · have HT := Lib.hid (fun w => refSText_any (m : Int) (k : Int) w)
                  unfold stV strV at HT
                  set_option maxRecDepth 10000 in
                  go_wp2_with fail
                  refine (HT.out _).mono ?_
                  rintro e w2 ⟨rfl, x2⟩
                  replace bo := bo.ext x2
                  replace bs := bs.ext x2
                  replace hxr := Ext.trans hxr x2
                  clear x2 bsc0 bsc1
                  have bsc0 := bs.cell (i := 0) rfl
                  have bsc1 := bs.cell (i := 1) rfl
                  by_cases hst : stext (m : Int) (k : Int) = d ++ [c]
                  · have HR := Lib.hid (sread_ok H0.out hst)
                    have hn : (stext (m : Int) (k : Int) == d ++ [c]) = true := by simpa using hst
                    clear hst
                    replace hx := Ext.trans hx hxr
                    have boc0 := bo.cell (i := 0) rfl
                    have boc1 := bo.cell (i := 1) rfl
                    have boz0 := bo.thaw 0
                    have boz1 := bo.thaw 1
                    set_option maxRecDepth 10000 in
                    go_wp2_with fail
                    have bo2 := (bo.set 0 (.int .i64 ((m : Int)))).set 1 (.int .i64 ((k : Int)))
                    have d0 := bo2.cell (i := 0) rfl
                    have d1 := bo2.cell (i := 1) rfl
                    exact bodyPost_ret (v := .tuple #[.agg #[.int .i64 ((m : Int)), .int .i64 ((k : Int))], .int .i64 0]) (by simp [results, Tryd.results23, d0, d1, go_sem]) rfl (by first | exact ⟨(((m : Int), (k : Int)), 0), rfl, HR.out, Below.setCell (Below.setCell hx G1 _) G1 _⟩ | exact ⟨(m : Int), (k : Int), 0, rfl, HR.out, Below.setCell (Below.setCell hx G1 _) G1 _⟩)
                  · have hn : (stext (m : Int) (k : Int) == d ++ [c]) = false := by simpa using hst
                    have HS := Lib.hid hst
                    clear hst
                    set_option maxRecDepth 10000 in
                    go_wp2_with fail
                    go_roundw
                    case rel => exact ⟨k + 1, by omega, by omega, by go_num, fun j h1 h2 h3 => by
                      by_cases hjk : j = k
                      · subst hjk; exact HS.out
                      · exact HO.out j h1 (by omega) h3, hxr⟩
                    case measure => simp [intOf]; omega
                · have HM := Lib.hid (show m = 0 by omega)
                  have hm2 : ¬ 0 < (m : Int) := by omega
                  set_option maxRecDepth 10000 in
                  go_wp2_with fail
                  go_roundw
                  case rel => exact ⟨k + 1, by omega, by omega, by go_num, fun j h1 h2 h3 => by omega, by have hm1 := HM.out; subst hm1; exact hxr⟩
                  case measure => simp [intOf]; omega
              · have HR := Lib.hid (sread_form (c := c) H0.out fun a b hg e1 e2 => by
                  have h := HF.out
                  rw [e1, decFrom_dec] at h
                  injection h with h
                  obtain ⟨b', rfl⟩ := Int.eq_ofNat_of_zero_le (show 0 ≤ b by omega)
                  refine HO.out b' (by omega) (by omega) (by omega) ?_
                  rw [show ((m : Nat) : Int) = a by omega, stext_good hg, ← e1, ← e2])
                replace hx := Ext.trans hx hxr
                have boc0 := bo.cell (i := 0) rfl
                have boc1 := bo.cell (i := 1) rfl
                have boz0 := bo.thaw 0
                have boz1 := bo.thaw 1
                set_option maxRecDepth 10000 in
                go_wp2_with fail
                have bo2 := (bo.set 0 (.int .i64 (0))).set 1 (.int .i64 (0))
                have d0 := bo2.cell (i := 0) rfl
                have d1 := bo2.cell (i := 1) rfl
                exact bodyPost_ret (v := .tuple #[.agg #[.int .i64 (0), .int .i64 (0)], .int .i64 11]) (by simp [results, Tryd.results23, d0, d1, go_sem]) rfl (by first | exact ⟨((0, 0), 11), rfl, HR.out, Below.setCell (Below.setCell hx G1 _) G1 _⟩ | exact ⟨0, 0, 11, rfl, HR.out, Below.setCell (Below.setCell hx G1 _) G1 _⟩)

end Go.Proofs.YtnjnbjcibdeihaaDoor
