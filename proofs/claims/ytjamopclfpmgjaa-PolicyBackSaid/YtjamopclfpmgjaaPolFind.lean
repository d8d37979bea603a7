/-
  The walks of Find and Of, and of the document's own.
-/
import Derived.Test.YtjamopclfpmgjaaPolGoodRef
namespace Go.Proofs.Ytjamopclfpmgjaa
open Go Go.RowKit Mono Num Go.Maps Go.WideMaps
set_option linter.unusedVariables false
set_option linter.unusedSimpArgs false

def pfindF (nm : List UInt8) : Nat → List Grp → Option Nat
  | _, [] => none
  | i, g :: r => if g.1 = nm then some i else pfindF nm (i + 1) r
def pfind (l : List Grp) (nm : List UInt8) : Int × Nat :=
  if pgood l ≠ 0 then (0, pgood l) else match pfindF nm 0 l with | some i => ((i : Int), 0) | none => (0, 70)
def pof (l : List Grp) (k : Int) : Int × Nat :=
  if pgood l ≠ 0 then (0, pgood l) else if k < 0 ∨ (l.length : Int) ≤ k then (0, 70) else ((l.getD k.toNat ([], 0)).2, 0)
theorem pfindF_step (nm : List UInt8) (l : List Grp) (i : Nat) (n : List UInt8) (p : Int) (h : l[i]? = some (n, p)) :
    pfindF nm i (l.drop i) = if n = nm then some i else pfindF nm (i + 1) (l.drop (i + 1)) := by
  have hi : i < l.length := (List.getElem?_eq_some_iff.1 h).1
  have : l.drop i = (n, p) :: l.drop (i + 1) := by
    rw [List.drop_eq_getElem_cons hi]
    congr 1
    exact (List.getElem?_eq_some_iff.1 h).2
  rw [this, pfindF]
theorem pfind_bad {l : List Grp} {nm : List UInt8} {e : Nat} (h : pgood l = e) (he : e ≠ 0) : pfind l nm = (0, e) := by subst h; unfold pfind; rw [if_pos he]
theorem pfind_good {l : List Grp} {nm : List UInt8} (h : pgood l = 0) : pfind l nm = match pfindF nm 0 l with | some i => ((i : Int), 0) | none => (0, 70) := by unfold pfind; rw [if_neg (by simp [h])]
theorem pof_bad {l : List Grp} {k : Int} {e : Nat} (h : pgood l = e) (he : e ≠ 0) : pof l k = (0, e) := by subst h; unfold pof; rw [if_pos he]
theorem pof_out {l : List Grp} {k : Int} (h : pgood l = 0) (hk : k < 0 ∨ (l.length : Int) ≤ k) : pof l k = (0, 70) := by unfold pof; rw [if_neg (by simp [h]), if_pos hk]
theorem pof_in {l : List Grp} {i : Nat} {n : List UInt8} {p : Int} (h : pgood l = 0) (hi : l[i]? = some (n, p)) : pof l (i : Int) = (p, 0) := by
  have hl := (List.getElem?_eq_some_iff.1 hi).1
  unfold pof
  rw [if_neg (by simp [h]), if_neg (by omega), Int.toNat_natCast, List.getD_eq_getElem?_getD, hi]
  rfl

set_option maxHeartbeats 2000000 in
theorem polFind_any (v : Value) (l : List Grp) (nm : List UInt8) (w : World) (hv : Gs w v l) :
    Calls Try.prog 14 #[v, strV nm] w fun e w' => e = .returned (.tuple #[.int .i64 (pfind l nm).1, .int .i64 ((pfind l nm).2 : Int)]) ∧ Ext w w' := by
  have hV := hv
  obtain ⟨A, c, rfl, h1, h2, h3, h4⟩ := hv.at_
  have HG := Lib.hid (fun w hw => polGood_any (.slice A l.length c) l w hw)
  unfold strV
  obtain ⟨e, hpe⟩ : ∃ e, pgood l = e := ⟨_, rfl⟩
  rw [hpe] at HG
  by_cases he0 : e = 0
  · subst he0
    have HF := Lib.hid (pfind_good (nm := nm) hpe)
    clear hpe
    go_enter Try.func14, Try.ntmps14
    go_wp2_with fail
    refine (HG.out _ hV).mono ?_
    rintro e w1 ⟨rfl, x1⟩
    clear HG
    go_wp2_with fail
    go_loopw [16] (fun i wr => ∃ k : Nat, k ≤ l.length ∧ i = .int .i64 k ∧ pfindF nm 0 l = pfindF nm k (l.drop k) ∧ Ext w wr) (fun i _ => l.length - (intOf i).toNat)
    case atStart => exact ⟨0, Nat.zero_le _, rfl, rfl, x1⟩
    case round =>
      obtain ⟨i, hi, rfl, hf, hx⟩ := hrel
      by_cases hlt : i < l.length
      · obtain ⟨b, off, rfl, hb, hcell⟩ := h4 (by omega)
        obtain ⟨n, p, hget, hc1, hc2, hn, hp⟩ := hcell i hlt
        rw [pfindF_step nm l i n p hget] at hf
        replace hc1 := (hx.cell (p := ⟨b, off + i * 2, none⟩) hb).trans hc1
        replace hc2 := (hx.cell (p := ⟨b, off + i * 2 + 1, none⟩) hb).trans hc2
        unfold strV at hc1
        clear hget hcell h4
        by_cases hnn : n = nm
        · subst hnn
          have HR := Lib.hid (show pfind l n = ((i : Int), 0) by rw [HF.out, hf, if_pos rfl])
          clear hf
          go_wp2_with fail
          go_ret2
          exact ⟨by rw [HR.out]; rfl, Ext.trans hx (ext_alloc _ _)⟩
        · have hnb : (n == nm) = false := by simpa using hnn
          have HR := Lib.hid (show pfindF nm 0 l = pfindF nm (i + 1) (l.drop (i + 1)) by rw [hf, if_neg hnn])
          clear hf hnn
          go_wp2_with fail
          go_roundw
          case rel => exact ⟨i + 1, by omega, by go_num, HR.out, Ext.trans hx (ext_alloc _ _)⟩
          case measure => simp [intOf]; omega
      · have hil : i = l.length := by omega
        have HR := Lib.hid (show pfind l nm = (0, 70) by rw [HF.out, hf, hil, List.drop_length]; rfl)
        clear hf hil
        go_wp2_with fail
        go_ret2
        exact ⟨by rw [HR.out]; rfl, hx⟩
  · have HF := Lib.hid (pfind_bad (nm := nm) hpe he0)
    have he1 : ((e : Int) != 0) = true := by rw [bne_iff_ne]; omega
    clear hpe he0
    go_enter Try.func14, Try.ntmps14
    go_wp2_with fail
    refine (HG.out _ hV).mono ?_
    rintro e w1 ⟨rfl, x1⟩
    clear HG
    go_wp2_with fail
    go_ret2
    exact ⟨by rw [HF.out]; rfl, x1⟩

set_option maxHeartbeats 2000000 in
theorem refFind_any (v : Value) (l : List Grp) (nm : List UInt8) (w : World) (hv : Gs w v l) :
    Calls Try.prog 15 #[v, strV nm] w fun e w' => e = .returned (.tuple #[.int .i64 (pfind l nm).1, .int .i64 ((pfind l nm).2 : Int)]) ∧ Ext w w' := by
  have hV := hv
  obtain ⟨A, c, rfl, h1, h2, h3, h4⟩ := hv.at_
  have HG := Lib.hid (fun w hw => refGood_any (.slice A l.length c) l w hw)
  unfold strV
  obtain ⟨e, hpe⟩ : ∃ e, pgood l = e := ⟨_, rfl⟩
  rw [hpe] at HG
  by_cases he0 : e = 0
  · subst he0
    have HF := Lib.hid (pfind_good (nm := nm) hpe)
    clear hpe
    go_enter Try.func15, Try.ntmps15
    go_wp2_with fail
    refine (HG.out _ hV).mono ?_
    rintro e w1 ⟨rfl, x1⟩
    clear HG
    go_wp2_with fail
    go_loopw [7] (fun i wr => ∃ k : Nat, k ≤ l.length ∧ i = .int .i64 k ∧ pfindF nm 0 l = pfindF nm k (l.drop k) ∧ Ext w wr) (fun i _ => l.length - (intOf i).toNat)
    case atStart => exact ⟨0, Nat.zero_le _, rfl, rfl, x1⟩
    case round =>
      obtain ⟨i, hi, rfl, hf, hx⟩ := hrel
      by_cases hlt : i < l.length
      · obtain ⟨b, off, rfl, hb, hcell⟩ := h4 (by omega)
        obtain ⟨n, p, hget, hc1, hc2, hn, hp⟩ := hcell i hlt
        rw [pfindF_step nm l i n p hget] at hf
        replace hc1 := (hx.cell (p := ⟨b, off + i * 2, none⟩) hb).trans hc1
        replace hc2 := (hx.cell (p := ⟨b, off + i * 2 + 1, none⟩) hb).trans hc2
        unfold strV at hc1
        clear hget hcell h4
        by_cases hnn : n = nm
        · subst hnn
          have HR := Lib.hid (show pfind l n = ((i : Int), 0) by rw [HF.out, hf, if_pos rfl])
          clear hf
          go_wp2_with fail
          go_ret2
          exact ⟨by rw [HR.out]; rfl, hx⟩
        · have hnb : (n == nm) = false := by simpa using hnn
          have HR := Lib.hid (show pfindF nm 0 l = pfindF nm (i + 1) (l.drop (i + 1)) by rw [hf, if_neg hnn])
          clear hf hnn
          go_wp2_with fail
          go_roundw
          case rel => exact ⟨i + 1, by omega, by go_num, HR.out, hx⟩
          case measure => simp [intOf]; omega
      · have hil : i = l.length := by omega
        have HR := Lib.hid (show pfind l nm = (0, 70) by rw [HF.out, hf, hil, List.drop_length]; rfl)
        clear hf hil
        go_wp2_with fail
        go_ret2
        exact ⟨by rw [HR.out]; rfl, hx⟩
  · have HF := Lib.hid (pfind_bad (nm := nm) hpe he0)
    have he1 : ((e : Int) != 0) = true := by rw [bne_iff_ne]; omega
    clear hpe he0
    go_enter Try.func15, Try.ntmps15
    go_wp2_with fail
    refine (HG.out _ hV).mono ?_
    rintro e w1 ⟨rfl, x1⟩
    clear HG
    go_wp2_with fail
    go_ret2
    exact ⟨by rw [HF.out]; rfl, x1⟩

set_option maxHeartbeats 2000000 in
theorem polOf_any (v : Value) (l : List Grp) (k : Int) (w : World) (hv : Gs w v l) (hk : -9223372036854775808 ≤ k ∧ k ≤ 9223372036854775807) :
    Calls Try.prog 16 #[v, .int .i64 k] w fun e w' => e = .returned (.tuple #[.int .i64 (pof l k).1, .int .i64 ((pof l k).2 : Int)]) ∧ Ext w w' := by
  have hV := hv
  obtain ⟨A, c, rfl, h1, h2, h3, h4⟩ := hv.at_
  have HG := Lib.hid (fun w hw => polGood_any (.slice A l.length c) l w hw)
  obtain ⟨e, hpe⟩ : ∃ e, pgood l = e := ⟨_, rfl⟩
  rw [hpe] at HG
  by_cases he0 : e = 0
  · subst he0
    by_cases hneg : k < 0
    · have HF := Lib.hid (pof_out (k := k) hpe (.inl hneg))
      clear hpe
      go_enter Try.func16, Try.ntmps16
      go_wp2_with fail
      refine (HG.out _ hV).mono ?_
      rintro e w1 ⟨rfl, x1⟩
      clear HG
      go_wp2_with fail
      go_ret2
      exact ⟨by rw [HF.out]; rfl, x1⟩
    · obtain ⟨i, rfl⟩ : ∃ i : Nat, k = i := ⟨k.toNat, by omega⟩
      by_cases hil : i < l.length
      · obtain ⟨b, off, rfl, hb, hcell⟩ := h4 (by omega)
        obtain ⟨n, p, hget, hc1, hc2, hn, hp⟩ := hcell i hil
        have HF := Lib.hid (pof_in hpe hget)
        clear hpe hget hcell h4
        go_enter Try.func16, Try.ntmps16
        go_wp2_with fail
        refine (HG.out _ hV).mono ?_
        rintro e w1 ⟨rfl, x1⟩
        replace hc2 := (x1.cell (p := ⟨b, off + i * 2 + 1, none⟩) hb).trans hc2
        clear HG hc1
        go_wp2_with fail
        go_ret2
        exact ⟨by rw [HF.out]; rfl, x1⟩
      · have HF := Lib.hid (pof_out (k := (i : Int)) hpe (.inr (by omega)))
        clear hpe
        go_enter Try.func16, Try.ntmps16
        go_wp2_with fail
        refine (HG.out _ hV).mono ?_
        rintro e w1 ⟨rfl, x1⟩
        clear HG
        go_wp2_with fail
        go_ret2
        exact ⟨by rw [HF.out]; rfl, x1⟩
  · have HF := Lib.hid (pof_bad (k := k) hpe he0)
    have he1 : ((e : Int) != 0) = true := by rw [bne_iff_ne]; omega
    clear hpe he0
    go_enter Try.func16, Try.ntmps16
    go_wp2_with fail
    refine (HG.out _ hV).mono ?_
    rintro e w1 ⟨rfl, x1⟩
    clear HG
    go_wp2_with fail
    go_ret2
    exact ⟨by rw [HF.out]; rfl, x1⟩

set_option maxHeartbeats 2000000 in
theorem refOf_any (v : Value) (l : List Grp) (k : Int) (w : World) (hv : Gs w v l) (hk : -9223372036854775808 ≤ k ∧ k ≤ 9223372036854775807) :
    Calls Try.prog 17 #[v, .int .i64 k] w fun e w' => e = .returned (.tuple #[.int .i64 (pof l k).1, .int .i64 ((pof l k).2 : Int)]) ∧ Ext w w' := by
  have hV := hv
  obtain ⟨A, c, rfl, h1, h2, h3, h4⟩ := hv.at_
  have HG := Lib.hid (fun w hw => refGood_any (.slice A l.length c) l w hw)
  obtain ⟨e, hpe⟩ : ∃ e, pgood l = e := ⟨_, rfl⟩
  rw [hpe] at HG
  by_cases he0 : e = 0
  · subst he0
    by_cases hneg : k < 0
    · have HF := Lib.hid (pof_out (k := k) hpe (.inl hneg))
      clear hpe
      go_enter Try.func17, Try.ntmps17
      go_wp2_with fail
      refine (HG.out _ hV).mono ?_
      rintro e w1 ⟨rfl, x1⟩
      clear HG
      go_wp2_with fail
      go_ret2
      exact ⟨by rw [HF.out]; rfl, x1⟩
    · obtain ⟨i, rfl⟩ : ∃ i : Nat, k = i := ⟨k.toNat, by omega⟩
      by_cases hil : i < l.length
      · obtain ⟨b, off, rfl, hb, hcell⟩ := h4 (by omega)
        obtain ⟨n, p, hget, hc1, hc2, hn, hp⟩ := hcell i hil
        have HF := Lib.hid (pof_in hpe hget)
        clear hpe hget hcell h4
        go_enter Try.func17, Try.ntmps17
        go_wp2_with fail
        refine (HG.out _ hV).mono ?_
        rintro e w1 ⟨rfl, x1⟩
        replace hc2 := (x1.cell (p := ⟨b, off + i * 2 + 1, none⟩) hb).trans hc2
        clear HG hc1
        go_wp2_with fail
        go_ret2
        exact ⟨by rw [HF.out]; rfl, x1⟩
      · have HF := Lib.hid (pof_out (k := (i : Int)) hpe (.inr (by omega)))
        clear hpe
        go_enter Try.func17, Try.ntmps17
        go_wp2_with fail
        refine (HG.out _ hV).mono ?_
        rintro e w1 ⟨rfl, x1⟩
        clear HG
        go_wp2_with fail
        go_ret2
        exact ⟨by rw [HF.out]; rfl, x1⟩
  · have HF := Lib.hid (pof_bad (k := k) hpe he0)
    have he1 : ((e : Int) != 0) = true := by rw [bne_iff_ne]; omega
    clear hpe he0
    go_enter Try.func17, Try.ntmps17
    go_wp2_with fail
    refine (HG.out _ hV).mono ?_
    rintro e w1 ⟨rfl, x1⟩
    clear HG
    go_wp2_with fail
    go_ret2
    exact ⟨by rw [HF.out]; rfl, x1⟩
end Go.Proofs.Ytjamopclfpmgjaa
