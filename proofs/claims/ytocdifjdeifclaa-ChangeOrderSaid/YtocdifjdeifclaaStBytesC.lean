/-
  The bytes of stamps: both sides.
-/
import Derived.Test.YtocdifjdeifclaaStPlain
import Derived.Test.YtocdifjdeifclaaVecBytesC
import Derived.Test.YtocdifjdeifclaaNumBack
import Derived.Test.YtocdifjdeifclaaNumWalks
namespace Go.Proofs.Ytocdifjdeifclaa
open Go Go.RowKit Mono Num
set_option linter.unusedVariables false
set_option linter.unusedSimpArgs false

def scode (a b : Int) : Int := if sgood a b = true then (if a = 0 then 0 else 2 * a + b - 1) else -1
theorem scode_bad {a b : Int} (h : sgood a b = false) : scode a b = -1 := by unfold scode; rw [if_neg (by simp [h])]
theorem scode_zero : scode 0 0 = 0 := by unfold scode; rw [if_pos (sgood_true (by omega)), if_pos rfl]
theorem scode_good {a b : Int} (h : 1 ≤ a ∧ a ≤ 281474976710656 ∧ (b = 1 ∨ b = 2)) : scode a b = 2 * a + b - 1 := by unfold scode; rw [if_pos (sgood_true (.inr h)), if_neg (by omega)]
def sput (l : List UInt8) (a b : Int) : List UInt8 := l ++ nput (scode a b)
def sget (l : List UInt8) : (Int × Int) × Nat × Nat :=
  if (nget l).2.2 ≠ 0 then ((0, 0), 0, (nget l).2.2) else if (nget l).1 = 0 then ((0, 0), (nget l).2.1, 0)
  else if sgood (((nget l).1 : Int) / 2) (((nget l).1 : Int) % 2 + 1) = true then ((((nget l).1 : Int) / 2, ((nget l).1 : Int) % 2 + 1), (nget l).2.1, 0) else ((0, 0), 0, 11)
theorem and_one (n : Nat) (h : n ≤ 4611686018427387903) : bits .and .i64 (n : Int) 1 = (n : Int) % 2 := by
  show IntKind.i64.wrap ((BitVec.ofInt 64 (n : Int) &&& BitVec.ofInt 64 ((1 : Nat) : Int)).toNat : Int) = _
  rw [BitVec.toNat_and, BitVec.ofInt_natCast, BitVec.ofInt_natCast, BitVec.toNat_ofNat, BitVec.toNat_ofNat, Nat.mod_eq_of_lt (show n < 2 ^ 64 by omega), show 1 % 2 ^ 64 = 1 from rfl, Nat.and_one_is_mod, IntKind.wrap_i64]
  omega

theorem nget_le (l : List UInt8) : (nget l).1 ≤ 4611686018427387903 := by
  unfold nget
  split
  · decide
  · rename_i x r
    split
    · decide
    · split
      · have h := nval_bound x (r.take (nlen x - 1)) (nlen x - 1) (by simp; omega)
        rcases nlen_cases x with ⟨_, hk⟩ | ⟨_, hk⟩ | ⟨_, hk⟩ | ⟨_, hk⟩ <;> rw [hk] at h ⊢ <;> simp at h ⊢ <;> omega
      · decide

set_option maxHeartbeats 2000000 in
theorem stPut_any (v : Value) (l : List UInt8) (a b : Int) (w : World) (hv : Bs w v l) (hl : l.length ≤ 140737488355000) :
    Calls Try.prog 56 #[v, stV a b] w fun e w' => ∃ r, e = .returned r ∧ OwB w' w.heap.size r (sput l a b) ∧ Ext w w' := by
  unfold stV
  rcases sgood_cases a b with ⟨rfl, rfl⟩ | ⟨rfl, h⟩ | h | h | ⟨h1, h2, rfl⟩ | ⟨h1, h2, rfl⟩ | ⟨h1, h2, h3, h4⟩
  · have HC := Lib.hid (show sput l 0 0 = l ++ nput (0) by unfold sput; rw [scode_zero])
    have HM := Lib.hid (nput_out (n := -1) (.inl (by decide)))
    have HS := Lib.hid (show sgood 0 0 = true from sgood_true (by omega))
    go_enter Try.func56, Try.ntmps56
    go_wp2_with fail
    have hx : Ext w (w.alloc (.cells #[.int .i64 0, .int .i64 0] 24)) := ext_alloc _ _
    have ba := Blk.new w #[.int .i64 0, .int .i64 0] 24
    replace hv := hv.ext hx
    refine (numPut_any _ l (0) _ hv (by omega) (by omega)).mono ?_
    rintro e w2 ⟨r, rfl, hr, x2⟩
    go_wp2_with fail
    go_ret
    exact ⟨r, rfl, by rw [HC.out]; exact hr.mono hx.size, Ext.trans hx x2⟩
  · have b0 : (b == 0) = false := by rw [beq_eq_false_iff_ne]; exact h
    have HH := Lib.hid h
    have HC := Lib.hid (show sput l 0 b = l ++ nput (-1) by unfold sput; rw [scode_bad (sgood_false (by omega))])
    have HM := Lib.hid (nput_out (n := -1) (.inl (by decide)))
    have HS := Lib.hid (show sgood 0 b = false from sgood_false (by omega))
    clear h
    go_enter Try.func56, Try.ntmps56
    go_wp2_with fail
    have hx : Ext w (w.alloc (.cells #[.int .i64 0, .int .i64 b] 24)) := ext_alloc _ _
    have ba := Blk.new w #[.int .i64 0, .int .i64 b] 24
    replace hv := hv.ext hx
    refine (stGood_any 0 b _).mono ?_
    rintro e w1 ⟨rfl, x1⟩
    rw [HS.out]
    replace hv := hv.ext x1
    replace ba := ba.ext x1
    replace hx := Ext.trans hx x1
    clear x1
    have bac0 := ba.cell (i := 0) rfl
    have bac1 := ba.cell (i := 1) rfl
    go_wp2_with fail
    refine (numPut_any _ l (-1) _ hv (by omega) (by omega)).mono ?_
    rintro e w2 ⟨r, rfl, hr, x2⟩
    go_wp2_with fail
    go_ret
    exact ⟨r, rfl, by rw [HC.out]; exact hr.mono hx.size, Ext.trans hx x2⟩
  · have b0 : (a == 0) = false := by rw [beq_eq_false_iff_ne]; omega
    have HC := Lib.hid (show sput l a b = l ++ nput (-1) by unfold sput; rw [scode_bad (sgood_false (by omega))])
    have HM := Lib.hid (nput_out (n := -1) (.inl (by decide)))
    have HS := Lib.hid (show sgood a b = false from sgood_false (by omega))
    go_enter Try.func56, Try.ntmps56
    go_wp2_with fail
    have hx : Ext w (w.alloc (.cells #[.int .i64 a, .int .i64 b] 24)) := ext_alloc _ _
    have ba := Blk.new w #[.int .i64 a, .int .i64 b] 24
    replace hv := hv.ext hx
    refine (stGood_any a b _).mono ?_
    rintro e w1 ⟨rfl, x1⟩
    rw [HS.out]
    replace hv := hv.ext x1
    replace ba := ba.ext x1
    replace hx := Ext.trans hx x1
    clear x1
    have bac0 := ba.cell (i := 0) rfl
    have bac1 := ba.cell (i := 1) rfl
    go_wp2_with fail
    refine (numPut_any _ l (-1) _ hv (by omega) (by omega)).mono ?_
    rintro e w2 ⟨r, rfl, hr, x2⟩
    go_wp2_with fail
    go_ret
    exact ⟨r, rfl, by rw [HC.out]; exact hr.mono hx.size, Ext.trans hx x2⟩
  · have b0 : (a == 0) = false := by rw [beq_eq_false_iff_ne]; omega
    have HC := Lib.hid (show sput l a b = l ++ nput (-1) by unfold sput; rw [scode_bad (sgood_false (by omega))])
    have HM := Lib.hid (nput_out (n := -1) (.inl (by decide)))
    have HS := Lib.hid (show sgood a b = false from sgood_false (by omega))
    go_enter Try.func56, Try.ntmps56
    go_wp2_with fail
    have hx : Ext w (w.alloc (.cells #[.int .i64 a, .int .i64 b] 24)) := ext_alloc _ _
    have ba := Blk.new w #[.int .i64 a, .int .i64 b] 24
    replace hv := hv.ext hx
    refine (stGood_any a b _).mono ?_
    rintro e w1 ⟨rfl, x1⟩
    rw [HS.out]
    replace hv := hv.ext x1
    replace ba := ba.ext x1
    replace hx := Ext.trans hx x1
    clear x1
    have bac0 := ba.cell (i := 0) rfl
    have bac1 := ba.cell (i := 1) rfl
    go_wp2_with fail
    refine (numPut_any _ l (-1) _ hv (by omega) (by omega)).mono ?_
    rintro e w2 ⟨r, rfl, hr, x2⟩
    go_wp2_with fail
    go_ret
    exact ⟨r, rfl, by rw [HC.out]; exact hr.mono hx.size, Ext.trans hx x2⟩
  · have b0 : (a == 0) = false := by rw [beq_eq_false_iff_ne]; omega
    have HC := Lib.hid (show sput l a 1 = l ++ nput (a * 2) by unfold sput; rw [scode_good ⟨h1, h2, by omega⟩]; rw [show 2 * a + 1 - 1 = a * 2 by omega])
    have HM := Lib.hid (nput_out (n := -1) (.inl (by decide)))
    have HS := Lib.hid (show sgood a 1 = true from sgood_true (by omega))
    go_enter Try.func56, Try.ntmps56
    go_wp2_with fail
    have hx : Ext w (w.alloc (.cells #[.int .i64 a, .int .i64 1] 24)) := ext_alloc _ _
    have ba := Blk.new w #[.int .i64 a, .int .i64 1] 24
    replace hv := hv.ext hx
    refine (stGood_any a 1 _).mono ?_
    rintro e w1 ⟨rfl, x1⟩
    rw [HS.out]
    replace hv := hv.ext x1
    replace ba := ba.ext x1
    replace hx := Ext.trans hx x1
    clear x1
    have bac0 := ba.cell (i := 0) rfl
    have bac1 := ba.cell (i := 1) rfl
    go_wp2_with fail
    refine (numPut_any _ l (a * 2) _ hv (by omega) (by omega)).mono ?_
    rintro e w2 ⟨r, rfl, hr, x2⟩
    go_wp2_with fail
    go_ret
    exact ⟨r, rfl, by rw [HC.out]; exact hr.mono hx.size, Ext.trans hx x2⟩
  · have b0 : (a == 0) = false := by rw [beq_eq_false_iff_ne]; omega
    have HC := Lib.hid (show sput l a 2 = l ++ nput (a * 2 + 2 - 1) by unfold sput; rw [scode_good ⟨h1, h2, by omega⟩]; rw [show 2 * a + 2 - 1 = a * 2 + 2 - 1 by omega])
    have HM := Lib.hid (nput_out (n := -1) (.inl (by decide)))
    have HS := Lib.hid (show sgood a 2 = true from sgood_true (by omega))
    go_enter Try.func56, Try.ntmps56
    go_wp2_with fail
    have hx : Ext w (w.alloc (.cells #[.int .i64 a, .int .i64 2] 24)) := ext_alloc _ _
    have ba := Blk.new w #[.int .i64 a, .int .i64 2] 24
    replace hv := hv.ext hx
    refine (stGood_any a 2 _).mono ?_
    rintro e w1 ⟨rfl, x1⟩
    rw [HS.out]
    replace hv := hv.ext x1
    replace ba := ba.ext x1
    replace hx := Ext.trans hx x1
    clear x1
    have bac0 := ba.cell (i := 0) rfl
    have bac1 := ba.cell (i := 1) rfl
    go_wp2_with fail
    refine (numPut_any _ l (a * 2 + 2 - 1) _ hv (by omega) (by omega)).mono ?_
    rintro e w2 ⟨r, rfl, hr, x2⟩
    go_wp2_with fail
    go_ret
    exact ⟨r, rfl, by rw [HC.out]; exact hr.mono hx.size, Ext.trans hx x2⟩
  · have b0 : (a == 0) = false := by rw [beq_eq_false_iff_ne]; omega
    have HC := Lib.hid (show sput l a b = l ++ nput (-1) by unfold sput; rw [scode_bad (sgood_false (by omega))])
    have HM := Lib.hid (nput_out (n := -1) (.inl (by decide)))
    have HS := Lib.hid (show sgood a b = false from sgood_false (by omega))
    go_enter Try.func56, Try.ntmps56
    go_wp2_with fail
    have hx : Ext w (w.alloc (.cells #[.int .i64 a, .int .i64 b] 24)) := ext_alloc _ _
    have ba := Blk.new w #[.int .i64 a, .int .i64 b] 24
    replace hv := hv.ext hx
    refine (stGood_any a b _).mono ?_
    rintro e w1 ⟨rfl, x1⟩
    rw [HS.out]
    replace hv := hv.ext x1
    replace ba := ba.ext x1
    replace hx := Ext.trans hx x1
    clear x1
    have bac0 := ba.cell (i := 0) rfl
    have bac1 := ba.cell (i := 1) rfl
    go_wp2_with fail
    refine (numPut_any _ l (-1) _ hv (by omega) (by omega)).mono ?_
    rintro e w2 ⟨r, rfl, hr, x2⟩
    go_wp2_with fail
    go_ret
    exact ⟨r, rfl, by rw [HC.out]; exact hr.mono hx.size, Ext.trans hx x2⟩

theorem refCode_any (a b : Int) (w : World) (h : sgood a b = true) : Calls Try.prog 81 #[.agg #[.int .i64 a, .int .i64 b]] w fun e w' => e = .returned (.int .i64 (scode a b)) ∧ Ext w w' := by
  rcases sgood_iff.1 h with ⟨rfl, rfl⟩ | ⟨h1, h2, h3⟩
  · have HC := Lib.hid scode_zero
    clear h
    go_enter Try.func81, Try.ntmps81
    go_wp2_with fail
    go_ret
    exact ⟨by rw [HC.out]; rfl, ext_alloc _ _⟩
  · have HC := Lib.hid (scode_good ⟨h1, h2, h3⟩)
    have b0 : (a == 0) = false := by rw [beq_eq_false_iff_ne]; omega
    clear h
    go_enter Try.func81, Try.ntmps81
    go_wp2_with fail
    go_ret
    exact ⟨by rw [HC.out]; rfl, ext_alloc _ _⟩

set_option maxHeartbeats 2000000 in
theorem refSPut_any (v : Value) (l : List UInt8) (a b : Int) (w : World) (hv : Bs w v l) (hl : l.length ≤ 140737488355000) :
    Calls Try.prog 60 #[v, stV a b] w fun e w' => ∃ r, e = .returned r ∧ OwB w' w.heap.size r (sput l a b) ∧ Ext w w' := by
  unfold stV
  rcases sgood_cases a b with ⟨rfl, rfl⟩ | ⟨rfl, h⟩ | h | h | ⟨h1, h2, rfl⟩ | ⟨h1, h2, rfl⟩ | ⟨h1, h2, h3, h4⟩
  · have HC := Lib.hid (show sput l 0 0 = l ++ nput (0) by unfold sput; rw [scode_zero])
    have HM := Lib.hid (nput_out (n := -1) (.inl (by decide)))
    have HB := Lib.hid (show -9223372036854775808 ≤ scode 0 0 ∧ scode 0 0 ≤ 9223372036854775807 by rw [scode_zero]; omega)
    have HS := Lib.hid (show sgood 0 0 = true from sgood_true (by omega))
    go_enter Try.func60, Try.ntmps60
    go_wp2_with fail
    have hx : Ext w (w.alloc (.cells #[.int .i64 0, .int .i64 0] 24)) := ext_alloc _ _
    have ba := Blk.new w #[.int .i64 0, .int .i64 0] 24
    replace hv := hv.ext hx
    refine (refSGood_any 0 0 _).mono ?_
    rintro e w1 ⟨rfl, x1⟩
    rw [HS.out]
    replace hv := hv.ext x1
    replace ba := ba.ext x1
    replace hx := Ext.trans hx x1
    clear x1
    have bac0 := ba.cell (i := 0) rfl
    have bac1 := ba.cell (i := 1) rfl
    go_wp2_with fail
    refine (refCode_any 0 0 _ HS.out).mono ?_
    rintro e w1 ⟨rfl, x1⟩
    replace hv := hv.ext x1
    replace hx := Ext.trans hx x1
    clear x1
    go_wp2_with fail
    refine (refPut_any _ l (scode 0 0) _ hv (by omega) HB.out).mono ?_
    rintro e w2 ⟨r, rfl, hr, x2⟩
    go_wp2_with fail
    go_ret
    exact ⟨r, rfl, hr.mono hx.size, Ext.trans hx x2⟩
  · have b0 : (b == 0) = false := by rw [beq_eq_false_iff_ne]; exact h
    have HH := Lib.hid h
    have HC := Lib.hid (show sput l 0 b = l ++ nput (-1) by unfold sput; rw [scode_bad (sgood_false (by omega))])
    have HM := Lib.hid (nput_out (n := -1) (.inl (by decide)))
    have HB := Lib.hid (show -9223372036854775808 ≤ scode 0 b ∧ scode 0 b ≤ 9223372036854775807 by rw [scode_bad (sgood_false (by omega))]; omega)
    have HS := Lib.hid (show sgood 0 b = false from sgood_false (by omega))
    clear h
    go_enter Try.func60, Try.ntmps60
    go_wp2_with fail
    have hx : Ext w (w.alloc (.cells #[.int .i64 0, .int .i64 b] 24)) := ext_alloc _ _
    have ba := Blk.new w #[.int .i64 0, .int .i64 b] 24
    replace hv := hv.ext hx
    refine (refSGood_any 0 b _).mono ?_
    rintro e w1 ⟨rfl, x1⟩
    rw [HS.out]
    replace hv := hv.ext x1
    replace ba := ba.ext x1
    replace hx := Ext.trans hx x1
    clear x1
    have bac0 := ba.cell (i := 0) rfl
    have bac1 := ba.cell (i := 1) rfl
    go_wp2_with (at_builtin; refine wpList_append_bs _ rfl (.tmp 8) (.tmp 9) rfl (OwB.empty_ w1 (Nat.le_refl _)) (hv.ext (ext_alloc _ _)) rfl rfl (by simp; omega) (by simp) ?_; intro v1 w2 hown1 hg1 hat1; have hb1 : Ext w1 w2 := Below.growB (ext_alloc w1 _) (OwB.empty_ w1 (Nat.le_refl _)) hg1 (Nat.le_refl _) (by simp))
    rw [List.nil_append] at hown1
    go_ret
    exact ⟨_, rfl, by rw [HC.out, HM.out, List.append_nil]; exact hown1.mono hx.size, Ext.trans hx hb1⟩
  · have b0 : (a == 0) = false := by rw [beq_eq_false_iff_ne]; omega
    have HC := Lib.hid (show sput l a b = l ++ nput (-1) by unfold sput; rw [scode_bad (sgood_false (by omega))])
    have HM := Lib.hid (nput_out (n := -1) (.inl (by decide)))
    have HB := Lib.hid (show -9223372036854775808 ≤ scode a b ∧ scode a b ≤ 9223372036854775807 by rw [scode_bad (sgood_false (by omega))]; omega)
    have HS := Lib.hid (show sgood a b = false from sgood_false (by omega))
    go_enter Try.func60, Try.ntmps60
    go_wp2_with fail
    have hx : Ext w (w.alloc (.cells #[.int .i64 a, .int .i64 b] 24)) := ext_alloc _ _
    have ba := Blk.new w #[.int .i64 a, .int .i64 b] 24
    replace hv := hv.ext hx
    refine (refSGood_any a b _).mono ?_
    rintro e w1 ⟨rfl, x1⟩
    rw [HS.out]
    replace hv := hv.ext x1
    replace ba := ba.ext x1
    replace hx := Ext.trans hx x1
    clear x1
    have bac0 := ba.cell (i := 0) rfl
    have bac1 := ba.cell (i := 1) rfl
    go_wp2_with (at_builtin; refine wpList_append_bs _ rfl (.tmp 8) (.tmp 9) rfl (OwB.empty_ w1 (Nat.le_refl _)) (hv.ext (ext_alloc _ _)) rfl rfl (by simp; omega) (by simp) ?_; intro v1 w2 hown1 hg1 hat1; have hb1 : Ext w1 w2 := Below.growB (ext_alloc w1 _) (OwB.empty_ w1 (Nat.le_refl _)) hg1 (Nat.le_refl _) (by simp))
    rw [List.nil_append] at hown1
    go_ret
    exact ⟨_, rfl, by rw [HC.out, HM.out, List.append_nil]; exact hown1.mono hx.size, Ext.trans hx hb1⟩
  · have b0 : (a == 0) = false := by rw [beq_eq_false_iff_ne]; omega
    have HC := Lib.hid (show sput l a b = l ++ nput (-1) by unfold sput; rw [scode_bad (sgood_false (by omega))])
    have HM := Lib.hid (nput_out (n := -1) (.inl (by decide)))
    have HB := Lib.hid (show -9223372036854775808 ≤ scode a b ∧ scode a b ≤ 9223372036854775807 by rw [scode_bad (sgood_false (by omega))]; omega)
    have HS := Lib.hid (show sgood a b = false from sgood_false (by omega))
    go_enter Try.func60, Try.ntmps60
    go_wp2_with fail
    have hx : Ext w (w.alloc (.cells #[.int .i64 a, .int .i64 b] 24)) := ext_alloc _ _
    have ba := Blk.new w #[.int .i64 a, .int .i64 b] 24
    replace hv := hv.ext hx
    refine (refSGood_any a b _).mono ?_
    rintro e w1 ⟨rfl, x1⟩
    rw [HS.out]
    replace hv := hv.ext x1
    replace ba := ba.ext x1
    replace hx := Ext.trans hx x1
    clear x1
    have bac0 := ba.cell (i := 0) rfl
    have bac1 := ba.cell (i := 1) rfl
    go_wp2_with (at_builtin; refine wpList_append_bs _ rfl (.tmp 8) (.tmp 9) rfl (OwB.empty_ w1 (Nat.le_refl _)) (hv.ext (ext_alloc _ _)) rfl rfl (by simp; omega) (by simp) ?_; intro v1 w2 hown1 hg1 hat1; have hb1 : Ext w1 w2 := Below.growB (ext_alloc w1 _) (OwB.empty_ w1 (Nat.le_refl _)) hg1 (Nat.le_refl _) (by simp))
    rw [List.nil_append] at hown1
    go_ret
    exact ⟨_, rfl, by rw [HC.out, HM.out, List.append_nil]; exact hown1.mono hx.size, Ext.trans hx hb1⟩
  · have b0 : (a == 0) = false := by rw [beq_eq_false_iff_ne]; omega
    have HC := Lib.hid (show sput l a 1 = l ++ nput (a * 2) by unfold sput; rw [scode_good ⟨h1, h2, by omega⟩]; rw [show 2 * a + 1 - 1 = a * 2 by omega])
    have HM := Lib.hid (nput_out (n := -1) (.inl (by decide)))
    have HB := Lib.hid (show -9223372036854775808 ≤ scode a 1 ∧ scode a 1 ≤ 9223372036854775807 by rw [scode_good ⟨h1, h2, by omega⟩]; omega)
    have HS := Lib.hid (show sgood a 1 = true from sgood_true (by omega))
    go_enter Try.func60, Try.ntmps60
    go_wp2_with fail
    have hx : Ext w (w.alloc (.cells #[.int .i64 a, .int .i64 1] 24)) := ext_alloc _ _
    have ba := Blk.new w #[.int .i64 a, .int .i64 1] 24
    replace hv := hv.ext hx
    refine (refSGood_any a 1 _).mono ?_
    rintro e w1 ⟨rfl, x1⟩
    rw [HS.out]
    replace hv := hv.ext x1
    replace ba := ba.ext x1
    replace hx := Ext.trans hx x1
    clear x1
    have bac0 := ba.cell (i := 0) rfl
    have bac1 := ba.cell (i := 1) rfl
    go_wp2_with fail
    refine (refCode_any a 1 _ HS.out).mono ?_
    rintro e w1 ⟨rfl, x1⟩
    replace hv := hv.ext x1
    replace hx := Ext.trans hx x1
    clear x1
    go_wp2_with fail
    refine (refPut_any _ l (scode a 1) _ hv (by omega) HB.out).mono ?_
    rintro e w2 ⟨r, rfl, hr, x2⟩
    go_wp2_with fail
    go_ret
    exact ⟨r, rfl, hr.mono hx.size, Ext.trans hx x2⟩
  · have b0 : (a == 0) = false := by rw [beq_eq_false_iff_ne]; omega
    have HC := Lib.hid (show sput l a 2 = l ++ nput (a * 2 + 2 - 1) by unfold sput; rw [scode_good ⟨h1, h2, by omega⟩]; rw [show 2 * a + 2 - 1 = a * 2 + 2 - 1 by omega])
    have HM := Lib.hid (nput_out (n := -1) (.inl (by decide)))
    have HB := Lib.hid (show -9223372036854775808 ≤ scode a 2 ∧ scode a 2 ≤ 9223372036854775807 by rw [scode_good ⟨h1, h2, by omega⟩]; omega)
    have HS := Lib.hid (show sgood a 2 = true from sgood_true (by omega))
    go_enter Try.func60, Try.ntmps60
    go_wp2_with fail
    have hx : Ext w (w.alloc (.cells #[.int .i64 a, .int .i64 2] 24)) := ext_alloc _ _
    have ba := Blk.new w #[.int .i64 a, .int .i64 2] 24
    replace hv := hv.ext hx
    refine (refSGood_any a 2 _).mono ?_
    rintro e w1 ⟨rfl, x1⟩
    rw [HS.out]
    replace hv := hv.ext x1
    replace ba := ba.ext x1
    replace hx := Ext.trans hx x1
    clear x1
    have bac0 := ba.cell (i := 0) rfl
    have bac1 := ba.cell (i := 1) rfl
    go_wp2_with fail
    refine (refCode_any a 2 _ HS.out).mono ?_
    rintro e w1 ⟨rfl, x1⟩
    replace hv := hv.ext x1
    replace hx := Ext.trans hx x1
    clear x1
    go_wp2_with fail
    refine (refPut_any _ l (scode a 2) _ hv (by omega) HB.out).mono ?_
    rintro e w2 ⟨r, rfl, hr, x2⟩
    go_wp2_with fail
    go_ret
    exact ⟨r, rfl, hr.mono hx.size, Ext.trans hx x2⟩
  · have b0 : (a == 0) = false := by rw [beq_eq_false_iff_ne]; omega
    have HC := Lib.hid (show sput l a b = l ++ nput (-1) by unfold sput; rw [scode_bad (sgood_false (by omega))])
    have HM := Lib.hid (nput_out (n := -1) (.inl (by decide)))
    have HB := Lib.hid (show -9223372036854775808 ≤ scode a b ∧ scode a b ≤ 9223372036854775807 by rw [scode_bad (sgood_false (by omega))]; omega)
    have HS := Lib.hid (show sgood a b = false from sgood_false (by omega))
    go_enter Try.func60, Try.ntmps60
    go_wp2_with fail
    have hx : Ext w (w.alloc (.cells #[.int .i64 a, .int .i64 b] 24)) := ext_alloc _ _
    have ba := Blk.new w #[.int .i64 a, .int .i64 b] 24
    replace hv := hv.ext hx
    refine (refSGood_any a b _).mono ?_
    rintro e w1 ⟨rfl, x1⟩
    rw [HS.out]
    replace hv := hv.ext x1
    replace ba := ba.ext x1
    replace hx := Ext.trans hx x1
    clear x1
    have bac0 := ba.cell (i := 0) rfl
    have bac1 := ba.cell (i := 1) rfl
    go_wp2_with (at_builtin; refine wpList_append_bs _ rfl (.tmp 8) (.tmp 9) rfl (OwB.empty_ w1 (Nat.le_refl _)) (hv.ext (ext_alloc _ _)) rfl rfl (by simp; omega) (by simp) ?_; intro v1 w2 hown1 hg1 hat1; have hb1 : Ext w1 w2 := Below.growB (ext_alloc w1 _) (OwB.empty_ w1 (Nat.le_refl _)) hg1 (Nat.le_refl _) (by simp))
    rw [List.nil_append] at hown1
    go_ret
    exact ⟨_, rfl, by rw [HC.out, HM.out, List.append_nil]; exact hown1.mono hx.size, Ext.trans hx hb1⟩

set_option maxHeartbeats 2000000 in
theorem stGet_any (v : Value) (l : List UInt8) (w : World) (hv : Bs w v l) :
    Calls Try.prog 49 #[v] w fun e w' => e = .returned (.tuple #[stV (sget l).1.1 (sget l).1.2, .int .i64 (((sget l).2.1 : Nat) : Int), .int .i64 (((sget l).2.2 : Nat) : Int)]) ∧ Ext w w' := by
  have HN := Lib.hid (fun w hw => numGet_any v l w hw)
  have HS := Lib.hid (show sget l = _ by unfold sget; rfl)
  have HB := Lib.hid (nget_le l)
  generalize nget l = g at *
  obtain ⟨n, k, e0⟩ := g
  dsimp only at HN HS HB
  unfold stV
  by_cases he0 : e0 = 0
  · subst he0
    by_cases hn : n = 0
    · subst hn
      have HR := Lib.hid (show sget l = ((0, 0), k, 0) by rw [HS.out, if_neg (by simp), if_pos rfl])
      go_enter Try.func49, Try.ntmps49
      go_wp2_with fail
      have hx := ext_alloc w (.cells #[.int .i64 0, .int .i64 0] 24)
      have bo := Blk.new w #[.int .i64 0, .int .i64 0] 24
      have G1 : w.heap.size ≤ w.heap.size := Nat.le_refl _
      refine (HN.out _ (hv.ext hx)).mono ?_
      rintro e w1 ⟨rfl, rfl⟩
      generalize w.alloc (.cells #[.int .i64 0, .int .i64 0] 24) = w1 at *
      have boc0 := bo.cell (i := 0) rfl
      have boc1 := bo.cell (i := 1) rfl
      have boz0 := bo.thaw 0
      have boz1 := bo.thaw 1
      go_wp2_with fail
      have bo2 := (bo.set 0 (.int .i64 (0))).set 1 (.int .i64 (0))
      have d0 := bo2.cell (i := 0) rfl
      have d1 := bo2.cell (i := 1) rfl
      exact bodyPost_ret (v := .tuple #[.agg #[.int .i64 (0), .int .i64 (0)], .int .i64 (k : Int), .int .i64 0]) (by simp [results, Try.results49, d0, d1, go_sem]) rfl ⟨by rw [HR.out]; try rfl, Below.setCell (Below.setCell hx G1 _) G1 _⟩
    · have HR := Lib.hid (show sget l = if sgood ((n : Int) / 2) ((n : Int) % 2 + 1) = true then (((n : Int) / 2, (n : Int) % 2 + 1), k, 0) else ((0, 0), 0, 11) by rw [HS.out, if_neg (by simp), if_neg hn])
      have hb : n ≤ 4611686018427387903 := HB.out
      have b0 : ((n : Int) == 0) = false := by rw [beq_eq_false_iff_ne]; omega
      have h1 := and_one n hb
      have hn0 : 0 < (n : Int) := by omega
      go_enter Try.func49, Try.ntmps49
      go_wp2_with fail
      have hx := ext_alloc w (.cells #[.int .i64 0, .int .i64 0] 24)
      have bo := Blk.new w #[.int .i64 0, .int .i64 0] 24
      have G1 : w.heap.size ≤ w.heap.size := Nat.le_refl _
      refine (HN.out _ (hv.ext hx)).mono ?_
      rintro e w1 ⟨rfl, rfl⟩
      generalize w.alloc (.cells #[.int .i64 0, .int .i64 0] 24) = w1 at *
      have boc0 := bo.cell (i := 0) rfl
      have boc1 := bo.cell (i := 1) rfl
      have boz0 := bo.thaw 0
      have boz1 := bo.thaw 1
      go_wp2_with fail
      clear h1 b0 hn0 hb hn HS HB HN
      generalize (n : Int) / 2 = X at *
      generalize (n : Int) % 2 + 1 = Y at *
      have bs := Blk.new w1 #[.int .i64 X, .int .i64 Y] 24
      have xs := ext_alloc w1 (.cells #[.int .i64 X, .int .i64 Y] 24)
      refine (stGood_any X Y _).mono ?_
      rintro e w2 ⟨rfl, x2⟩
      cases hg : sgood X Y
      · replace HR := Lib.hid (show sget l = ((0, 0), 0, 11) by rw [HR.out, if_neg (by simp [hg])])
        clear hg
        replace bo := (bo.ext xs).ext x2
        replace bs := bs.ext x2
        replace hx := Ext.trans (Ext.trans hx xs) x2
        clear boc0 boc1 boz0 boz1 xs x2
        have boc0 := bo.cell (i := 0) rfl
        have boc1 := bo.cell (i := 1) rfl
        have boz0 := bo.thaw 0
        have boz1 := bo.thaw 1
        have bsc0 := bs.cell (i := 0) rfl
        have bsc1 := bs.cell (i := 1) rfl
        go_wp2_with fail
        have bo2 := (bo.set 0 (.int .i64 (0))).set 1 (.int .i64 (0))
        have d0 := bo2.cell (i := 0) rfl
        have d1 := bo2.cell (i := 1) rfl
        exact bodyPost_ret (v := .tuple #[.agg #[.int .i64 (0), .int .i64 (0)], .int .i64 0, .int .i64 11]) (by simp [results, Try.results49, d0, d1, go_sem]) rfl ⟨by rw [HR.out]; try rfl, Below.setCell (Below.setCell hx G1 _) G1 _⟩
      · replace HR := Lib.hid (show sget l = ((X, Y), k, 0) by rw [HR.out, if_pos hg])
        clear hg
        replace bo := (bo.ext xs).ext x2
        replace bs := bs.ext x2
        replace hx := Ext.trans (Ext.trans hx xs) x2
        clear boc0 boc1 boz0 boz1 xs x2
        have boc0 := bo.cell (i := 0) rfl
        have boc1 := bo.cell (i := 1) rfl
        have boz0 := bo.thaw 0
        have boz1 := bo.thaw 1
        have bsc0 := bs.cell (i := 0) rfl
        have bsc1 := bs.cell (i := 1) rfl
        go_wp2_with fail
        have bo2 := (bo.set 0 (.int .i64 (X))).set 1 (.int .i64 (Y))
        have d0 := bo2.cell (i := 0) rfl
        have d1 := bo2.cell (i := 1) rfl
        exact bodyPost_ret (v := .tuple #[.agg #[.int .i64 (X), .int .i64 (Y)], .int .i64 (k : Int), .int .i64 0]) (by simp [results, Try.results49, d0, d1, go_sem]) rfl ⟨by rw [HR.out]; try rfl, Below.setCell (Below.setCell hx G1 _) G1 _⟩
  · have HR := Lib.hid (show sget l = ((0, 0), 0, e0) by rw [HS.out, if_pos he0])
    have b0 : ((e0 : Int) == 0) = false := by rw [beq_eq_false_iff_ne]; omega
    have b1 : ((e0 : Int) != 0) = true := by simpa using he0
    clear he0
    go_enter Try.func49, Try.ntmps49
    go_wp2_with fail
    have hx := ext_alloc w (.cells #[.int .i64 0, .int .i64 0] 24)
    have bo := Blk.new w #[.int .i64 0, .int .i64 0] 24
    have G1 : w.heap.size ≤ w.heap.size := Nat.le_refl _
    refine (HN.out _ (hv.ext hx)).mono ?_
    rintro e w1 ⟨rfl, rfl⟩
    generalize w.alloc (.cells #[.int .i64 0, .int .i64 0] 24) = w1 at *
    have boc0 := bo.cell (i := 0) rfl
    have boc1 := bo.cell (i := 1) rfl
    have boz0 := bo.thaw 0
    have boz1 := bo.thaw 1
    go_wp2_with fail
    have bo2 := (bo.set 0 (.int .i64 (0))).set 1 (.int .i64 (0))
    have d0 := bo2.cell (i := 0) rfl
    have d1 := bo2.cell (i := 1) rfl
    exact bodyPost_ret (v := .tuple #[.agg #[.int .i64 (0), .int .i64 (0)], .int .i64 0, .int .i64 (e0 : Int)]) (by simp [results, Try.results49, d0, d1, go_sem]) rfl ⟨by rw [HR.out]; try rfl, Below.setCell (Below.setCell hx G1 _) G1 _⟩

set_option maxHeartbeats 2000000 in
theorem refSGet_any (v : Value) (l : List UInt8) (w : World) (hv : Bs w v l) :
    Calls Try.prog 76 #[v] w fun e w' => e = .returned (.tuple #[stV (sget l).1.1 (sget l).1.2, .int .i64 (((sget l).2.1 : Nat) : Int), .int .i64 (((sget l).2.2 : Nat) : Int)]) ∧ Ext w w' := by
  have HN := Lib.hid (fun w hw => refGet_any v l w hw)
  have HS := Lib.hid (show sget l = _ by unfold sget; rfl)
  have HB := Lib.hid (nget_le l)
  generalize nget l = g at *
  obtain ⟨n, k, e0⟩ := g
  dsimp only at HN HS HB
  unfold stV
  by_cases he0 : e0 = 0
  · subst he0
    by_cases hn : n = 0
    · subst hn
      have HR := Lib.hid (show sget l = ((0, 0), k, 0) by rw [HS.out, if_neg (by simp), if_pos rfl])
      have HZ := Lib.hid (show sgood 0 0 = true from sgood_true (by omega))
      go_enter Try.func76, Try.ntmps76
      go_wp2_with fail
      have hx := ext_alloc w (.cells #[.int .i64 0, .int .i64 0] 24)
      have bo := Blk.new w #[.int .i64 0, .int .i64 0] 24
      have G1 : w.heap.size ≤ w.heap.size := Nat.le_refl _
      refine (HN.out _ (hv.ext hx)).mono ?_
      rintro e w1 ⟨rfl, rfl⟩
      generalize w.alloc (.cells #[.int .i64 0, .int .i64 0] 24) = w1 at *
      have boc0 := bo.cell (i := 0) rfl
      have boc1 := bo.cell (i := 1) rfl
      have boz0 := bo.thaw 0
      have boz1 := bo.thaw 1
      go_wp2_with fail
      have bs := Blk.new w1 #[.int .i64 0, .int .i64 0] 24
      have xs := ext_alloc w1 (.cells #[.int .i64 0, .int .i64 0] 24)
      refine (refSGood_any 0 0 _).mono ?_
      rintro e w2 ⟨rfl, x2⟩
      rw [HZ.out]
      replace bo := (bo.ext xs).ext x2
      replace bs := bs.ext x2
      replace hx := Ext.trans (Ext.trans hx xs) x2
      clear boc0 boc1 boz0 boz1 xs x2
      have boc0 := bo.cell (i := 0) rfl
      have boc1 := bo.cell (i := 1) rfl
      have boz0 := bo.thaw 0
      have boz1 := bo.thaw 1
      have bsc0 := bs.cell (i := 0) rfl
      have bsc1 := bs.cell (i := 1) rfl
      go_wp2_with fail
      have bo2 := (bo.set 0 (.int .i64 (0))).set 1 (.int .i64 (0))
      have d0 := bo2.cell (i := 0) rfl
      have d1 := bo2.cell (i := 1) rfl
      exact bodyPost_ret (v := .tuple #[.agg #[.int .i64 (0), .int .i64 (0)], .int .i64 (k : Int), .int .i64 0]) (by simp [results, Try.results76, d0, d1, go_sem]) rfl ⟨by rw [HR.out]; try rfl, Below.setCell (Below.setCell hx G1 _) G1 _⟩
    · have HR := Lib.hid (show sget l = if sgood ((n : Int) / 2) ((n : Int) % 2 + 1) = true then (((n : Int) / 2, (n : Int) % 2 + 1), k, 0) else ((0, 0), 0, 11) by rw [HS.out, if_neg (by simp), if_neg hn])
      have hb : n ≤ 4611686018427387903 := HB.out
      have b0 : ((n : Int) == 0) = false := by rw [beq_eq_false_iff_ne]; omega
      have h1 := and_one n hb
      have hn0 : 0 < (n : Int) := by omega
      go_enter Try.func76, Try.ntmps76
      go_wp2_with fail
      have hx := ext_alloc w (.cells #[.int .i64 0, .int .i64 0] 24)
      have bo := Blk.new w #[.int .i64 0, .int .i64 0] 24
      have G1 : w.heap.size ≤ w.heap.size := Nat.le_refl _
      refine (HN.out _ (hv.ext hx)).mono ?_
      rintro e w1 ⟨rfl, rfl⟩
      generalize w.alloc (.cells #[.int .i64 0, .int .i64 0] 24) = w1 at *
      have boc0 := bo.cell (i := 0) rfl
      have boc1 := bo.cell (i := 1) rfl
      have boz0 := bo.thaw 0
      have boz1 := bo.thaw 1
      go_wp2_with fail
      rw [Int.add_comm 1 ((n : Int) % 2)]
      clear h1 b0 hn0 hb hn HS HB HN
      generalize (n : Int) / 2 = X at *
      generalize (n : Int) % 2 + 1 = Y at *
      have bs := Blk.new w1 #[.int .i64 X, .int .i64 Y] 24
      have xs := ext_alloc w1 (.cells #[.int .i64 X, .int .i64 Y] 24)
      refine (refSGood_any X Y _).mono ?_
      rintro e w2 ⟨rfl, x2⟩
      cases hg : sgood X Y
      · replace HR := Lib.hid (show sget l = ((0, 0), 0, 11) by rw [HR.out, if_neg (by simp [hg])])
        clear hg
        replace bo := (bo.ext xs).ext x2
        replace bs := bs.ext x2
        replace hx := Ext.trans (Ext.trans hx xs) x2
        clear boc0 boc1 boz0 boz1 xs x2
        have boc0 := bo.cell (i := 0) rfl
        have boc1 := bo.cell (i := 1) rfl
        have boz0 := bo.thaw 0
        have boz1 := bo.thaw 1
        have bsc0 := bs.cell (i := 0) rfl
        have bsc1 := bs.cell (i := 1) rfl
        go_wp2_with fail
        have bo2 := (bo.set 0 (.int .i64 (0))).set 1 (.int .i64 (0))
        have d0 := bo2.cell (i := 0) rfl
        have d1 := bo2.cell (i := 1) rfl
        exact bodyPost_ret (v := .tuple #[.agg #[.int .i64 (0), .int .i64 (0)], .int .i64 0, .int .i64 11]) (by simp [results, Try.results76, d0, d1, go_sem]) rfl ⟨by rw [HR.out]; try rfl, Below.setCell (Below.setCell hx G1 _) G1 _⟩
      · replace HR := Lib.hid (show sget l = ((X, Y), k, 0) by rw [HR.out, if_pos hg])
        clear hg
        replace bo := (bo.ext xs).ext x2
        replace bs := bs.ext x2
        replace hx := Ext.trans (Ext.trans hx xs) x2
        clear boc0 boc1 boz0 boz1 xs x2
        have boc0 := bo.cell (i := 0) rfl
        have boc1 := bo.cell (i := 1) rfl
        have boz0 := bo.thaw 0
        have boz1 := bo.thaw 1
        have bsc0 := bs.cell (i := 0) rfl
        have bsc1 := bs.cell (i := 1) rfl
        go_wp2_with fail
        have bo2 := (bo.set 0 (.int .i64 (X))).set 1 (.int .i64 (Y))
        have d0 := bo2.cell (i := 0) rfl
        have d1 := bo2.cell (i := 1) rfl
        exact bodyPost_ret (v := .tuple #[.agg #[.int .i64 (X), .int .i64 (Y)], .int .i64 (k : Int), .int .i64 0]) (by simp [results, Try.results76, d0, d1, go_sem]) rfl ⟨by rw [HR.out]; try rfl, Below.setCell (Below.setCell hx G1 _) G1 _⟩
  · have HR := Lib.hid (show sget l = ((0, 0), 0, e0) by rw [HS.out, if_pos he0])
    have b0 : ((e0 : Int) == 0) = false := by rw [beq_eq_false_iff_ne]; omega
    have b1 : ((e0 : Int) != 0) = true := by simpa using he0
    clear he0
    go_enter Try.func76, Try.ntmps76
    go_wp2_with fail
    have hx := ext_alloc w (.cells #[.int .i64 0, .int .i64 0] 24)
    have bo := Blk.new w #[.int .i64 0, .int .i64 0] 24
    have G1 : w.heap.size ≤ w.heap.size := Nat.le_refl _
    refine (HN.out _ (hv.ext hx)).mono ?_
    rintro e w1 ⟨rfl, rfl⟩
    generalize w.alloc (.cells #[.int .i64 0, .int .i64 0] 24) = w1 at *
    have boc0 := bo.cell (i := 0) rfl
    have boc1 := bo.cell (i := 1) rfl
    have boz0 := bo.thaw 0
    have boz1 := bo.thaw 1
    go_wp2_with fail
    have bo2 := (bo.set 0 (.int .i64 (0))).set 1 (.int .i64 (0))
    have d0 := bo2.cell (i := 0) rfl
    have d1 := bo2.cell (i := 1) rfl
    exact bodyPost_ret (v := .tuple #[.agg #[.int .i64 (0), .int .i64 (0)], .int .i64 0, .int .i64 (e0 : Int)]) (by simp [results, Try.results76, d0, d1, go_sem]) rfl ⟨by rw [HR.out]; try rfl, Below.setCell (Below.setCell hx G1 _) G1 _⟩
end Go.Proofs.Ytocdifjdeifclaa
