/-
  The walk of Read of stamps.
-/
import Derived.Test.YtnjnbjcibdeihaaDoorStTextW
namespace Go.Proofs.YtnjnbjcibdeihaaDoor
open Go Go.RowKit Mono
open Go.Lib (decDigits atoiAll)
set_option linter.unusedVariables false
set_option linter.unusedSimpArgs false

/-- The two errors' variables hold errors. -/
def Es (w : World) : Prop := (∃ tp p, w.var? Tryd.prog "strconv.ErrSyntax" = some #[.iface tp p]) ∧ (∃ tp p, w.var? Tryd.prog "strconv.ErrRange" = some #[.iface tp p])
theorem Es.ext {w w' : World} (h : Es w) (x : Ext w w') : Es w' := by
  obtain ⟨⟨a, b, h1⟩, c, d, h2⟩ := h
  exact ⟨⟨a, b, var_ext h1 x⟩, c, d, var_ext h2 x⟩
theorem atoi_any (s : List UInt8) (w : World) (hl : s.length ≤ 1000) (hE : Es w) :
    Calls Tryd.prog 32 #[strV s] w fun e w' => ∃ v er, e = .returned (.tuple #[.int .i64 v, er]) ∧ ((er = .nilIface ∧ atoiAll s = .ok v) ∨ (∃ tt pp, er = .iface tt pp ∧ ∀ v', atoiAll s ≠ .ok v')) ∧ Ext w w' := by
  unfold strV
  have e0 : ({ data := s.toArray } : ByteArray).data.toList = s := by simp
  have e1 : ({ data := s.toArray } : ByteArray).size = s.length := by simp [ByteArray.size]
  obtain ⟨⟨ta, pa, h1⟩, tb, pb, h2⟩ := hE
  rcases h : atoiAll s with v | _ | _
  · refine (Tryd.strconv_Atoi_ok ⟨s.toArray⟩ (by rw [e1]; omega) v (by rw [e0]; exact h) w).mono ?_
    rintro e w' ⟨rfl, hw⟩
    refine ⟨v, _, rfl, .inl ⟨rfl, rfl⟩, ?_⟩
    rcases hw with rfl | ⟨t, rfl⟩
    · exact Ext.refl _
    · exact Go.Joins.below_bytesWorld _ w _ t (Nat.le_refl _)
  · refine (Tryd.strconv_Atoi_syntax_var ⟨s.toArray⟩ (by rw [e1]; omega) (by rw [e0]; exact h) ta pa w h1).mono ?_
    rintro e w' ⟨N, rfl, _, _, hx⟩
    exact ⟨_, _, rfl, .inr ⟨_, _, rfl, by simp⟩, hx⟩
  · refine (Tryd.strconv_Atoi_range_var ⟨s.toArray⟩ (by rw [e1]; omega) (by rw [e0]; exact h) tb pb w h2).mono ?_
    rintro e w' ⟨N, rfl, _, _, hx⟩
    exact ⟨_, _, rfl, .inr ⟨_, _, rfl, by simp⟩, hx⟩

theorem ext_take (d : List UInt8) (c : UInt8) : ({ data := (d ++ [c]).toArray } : ByteArray).extract 0 d.length = ⟨d.toArray⟩ := by
  apply ByteArray.ext
  simp [ByteArray.data_extract]
theorem sread_ok {d : List UInt8} {c : UInt8} {v y : Int} (H0 : ¬ d ++ [c] = [45]) (h : stext v y = d ++ [c]) : SRead (d ++ [c]) ((v, y), 0) := by
  refine .inr (.inl ⟨H0, v, y, ?_, h.symm, rfl⟩)
  cases hg : sgood v y with
  | false => rw [stext_bad hg] at h; simp at h
  | true =>
    rcases sgood_iff.1 hg with ⟨rfl, rfl⟩ | hg
    · rw [stext_zero] at h; exact absurd h.symm H0
    · exact hg
theorem sread_form {d : List UInt8} {c : UInt8} (H0 : ¬ d ++ [c] = [45]) (h : ∀ a b : Int, (1 ≤ a ∧ a ≤ 281474976710656 ∧ (b = 1 ∨ b = 2)) → d = decDigits a.toNat → c = letter b → False) : SRead (d ++ [c]) ((0, 0), 11) := by
  refine .inr (.inr ⟨H0, fun a b hg e => ?_, rfl⟩)
  rw [stext_good hg] at e
  obtain ⟨e1, e2⟩ := List.append_inj' e rfl
  injection e2 with e2 _
  exact h a b hg e1 e2
theorem letter_site {b : Int} (h : b = 1 ∨ b = 2) : ((letter b).toNat : Int) = 96 + b := by rcases h with rfl | rfl <;> rfl
theorem last_at (d : List UInt8) (c : UInt8) (h : d.length < ({ data := (d ++ [c]).toArray } : ByteArray).size) : ({ data := (d ++ [c]).toArray } : ByteArray)[d.length]'h = c := by
  show (d ++ [c]).toArray[d.length] = c
  simp
set_option maxHeartbeats 2000000 in
theorem stRead_any (s : List UInt8) (w : World) (hl : s.length ≤ 1000) (hT : Tb w) (hE : Es w) :
    Calls Tryd.prog 22 #[strV s] w fun e w' => ∃ r : (Int × Int) × Int, e = .returned (.tuple #[stV r.1.1 r.1.2, .int .i64 r.2]) ∧ SRead s r ∧ Ext w w' := by
  unfold strV stV
  by_cases h0 : s = [45]
  · subst h0
    go_enter Tryd.func22, Tryd.ntmps22
    go_wp2_with fail
    have hx := ext_alloc w (.cells #[.int .i64 0, .int .i64 0] 23)
    have bo := Blk.new w #[.int .i64 0, .int .i64 0] 23
    have d0 := bo.cell (i := 0) rfl
    have d1 := bo.cell (i := 1) rfl
    exact bodyPost_ret (v := .tuple #[.agg #[.int .i64 0, .int .i64 0], .int .i64 0]) (by simp [results, Tryd.results22, d0, d1, go_sem]) rfl ⟨((0, 0), 0), rfl, .inl ⟨rfl, rfl⟩, hx⟩
  · have hq : (s == [45]) = false := by simpa using h0
    by_cases h2 : s.length < 2
    · have HR := Lib.hid (show SRead s ((0, 0), 11) from .inr (.inr ⟨h0, fun a b h e => by have := (stext_len h).1; rw [← e] at this; omega, rfl⟩))
      clear h0
      go_enter Tryd.func22, Tryd.ntmps22
      go_wp2_with fail
      have hx := ext_alloc w (.cells #[.int .i64 0, .int .i64 0] 23)
      have bo := Blk.new w #[.int .i64 0, .int .i64 0] 23
      have d0 := bo.cell (i := 0) rfl
      have d1 := bo.cell (i := 1) rfl
      exact bodyPost_ret (v := .tuple #[.agg #[.int .i64 0, .int .i64 0], .int .i64 11]) (by simp [results, Tryd.results22, d0, d1, go_sem]) rfl ⟨((0, 0), 11), rfl, HR.out, hx⟩
    · obtain ⟨d, c, rfl⟩ : ∃ d c, s = d ++ [c] := by
        have hne : s ≠ [] := by rintro rfl; simp at h2
        exact ⟨s.dropLast, s.getLast hne, (List.dropLast_concat_getLast hne).symm⟩
      have H0 := Lib.hid h0
      clear h0
      have hdl : 1 ≤ d.length := by simp at h2; omega
      have hdl2 : d.length ≤ 999 := by simp at hl; omega
      clear h2 hl
      go_enter Tryd.func22, Tryd.ntmps22
      set_option maxRecDepth 10000 in
      go_wp2_with fail
      rw [ext_take]
      have hx := ext_alloc w (.cells #[.int .i64 0, .int .i64 0] 23)
      have bo := Blk.new w #[.int .i64 0, .int .i64 0] 23
      have HA := Lib.hid (atoi_any d _ (by omega) (hE.ext hx))
      unfold strV at HA
      refine HA.out.mono ?_
      clear HA
      rintro e w1 ⟨v, er, rfl, hv, x1⟩
      replace bo := bo.ext x1
      replace hx := Ext.trans hx x1
      clear x1
      have G1 : w.heap.size ≤ w.heap.size := Nat.le_refl _
      have hat := fun h => last_at d c h
      rcases hv with ⟨rfl, hv⟩ | ⟨tt, pp, rfl, hv⟩
      · have HV := Lib.hid hv
        clear hv
        have HD := Lib.hid (fun w hw => stText_any v (((c.toNat : Int) - 97) % 256 + 1) w hw)
        unfold stV strV at HD
        have bs := Blk.new w1 #[.int .i64 v, .int .i64 (((c.toNat : Int) - 97) % 256 + 1)] 23
        have xs := ext_alloc w1 (.cells #[.int .i64 v, .int .i64 (((c.toNat : Int) - 97) % 256 + 1)] 23)
        replace bo := bo.ext xs
        replace hx := Ext.trans hx xs
        clear xs
        set_option maxRecDepth 10000 in
        go_wp2_with fail
        refine (HD.out _ (hT.ext hx)).mono ?_
        rintro e w2 ⟨rfl, x2⟩
        replace bo := bo.ext x2
        replace bs := bs.ext x2
        replace hx := Ext.trans hx x2
        clear x2 hat
        have boc0 := bo.cell (i := 0) rfl
        have boc1 := bo.cell (i := 1) rfl
        have boz0 := bo.thaw 0
        have boz1 := bo.thaw 1
        have bsc0 := bs.cell (i := 0) rfl
        have bsc1 := bs.cell (i := 1) rfl
        by_cases hst : stext v (((c.toNat : Int) - 97) % 256 + 1) = d ++ [c]
        · have HR := Lib.hid (sread_ok H0.out hst)
          have hn : (stext v (((c.toNat : Int) - 97) % 256 + 1) == d ++ [c]) = true := by simpa using hst
          clear hst
          set_option maxRecDepth 10000 in
          go_wp2_with fail
          have bo2 := (bo.set 0 (.int .i64 (v))).set 1 (.int .i64 (((c.toNat : Int) - 97) % 256 + 1))
          have d0 := bo2.cell (i := 0) rfl
          have d1 := bo2.cell (i := 1) rfl
          exact bodyPost_ret (v := .tuple #[.agg #[.int .i64 (v), .int .i64 (((c.toNat : Int) - 97) % 256 + 1)], .int .i64 0]) (by simp [results, Tryd.results22, d0, d1, go_sem]) rfl ⟨((v, ((c.toNat : Int) - 97) % 256 + 1), 0), rfl, HR.out, Below.setCell (Below.setCell hx G1 _) G1 _⟩
        · have HR := Lib.hid (sread_form (c := c) H0.out fun a b hg e1 e2 => by
            have h := HV.out
            rw [e1, atoi_dec _ (by omega)] at h
            injection h with h
            have hl := letter_site hg.2.2
            rw [← e2] at hl
            apply hst
            rw [show v = a by omega, show ((c.toNat : Int) - 97) % 256 + 1 = b by omega, stext_good hg, ← e1, ← e2])
          have hn : (stext v (((c.toNat : Int) - 97) % 256 + 1) == d ++ [c]) = false := by simpa using hst
          clear hst
          set_option maxRecDepth 10000 in
          go_wp2_with fail
          have bo2 := (bo.set 0 (.int .i64 (0))).set 1 (.int .i64 (0))
          have d0 := bo2.cell (i := 0) rfl
          have d1 := bo2.cell (i := 1) rfl
          exact bodyPost_ret (v := .tuple #[.agg #[.int .i64 (0), .int .i64 (0)], .int .i64 11]) (by simp [results, Tryd.results22, d0, d1, go_sem]) rfl ⟨((0, 0), 11), rfl, HR.out, Below.setCell (Below.setCell hx G1 _) G1 _⟩
      · have HR := Lib.hid (sread_form (c := c) H0.out fun a b hg e1 e2 => hv (a.toNat : Int) (by rw [e1]; exact atoi_dec _ (by omega)))
        clear hv
        have bs := Blk.new w1 #[.int .i64 v, .int .i64 (((c.toNat : Int) - 97) % 256 + 1)] 23
        have xs := ext_alloc w1 (.cells #[.int .i64 v, .int .i64 (((c.toNat : Int) - 97) % 256 + 1)] 23)
        replace bo := bo.ext xs
        replace hx := Ext.trans hx xs
        clear xs
        have boc0 := bo.cell (i := 0) rfl
        have boc1 := bo.cell (i := 1) rfl
        have boz0 := bo.thaw 0
        have boz1 := bo.thaw 1
        set_option maxRecDepth 10000 in
        go_wp2_with fail
        have bo2 := (bo.set 0 (.int .i64 (0))).set 1 (.int .i64 (0))
        have d0 := bo2.cell (i := 0) rfl
        have d1 := bo2.cell (i := 1) rfl
        exact bodyPost_ret (v := .tuple #[.agg #[.int .i64 (0), .int .i64 (0)], .int .i64 11]) (by simp [results, Tryd.results22, d0, d1, go_sem]) rfl ⟨((0, 0), 11), rfl, HR.out, Below.setCell (Below.setCell hx G1 _) G1 _⟩
end Go.Proofs.YtnjnbjcibdeihaaDoor
