/-
  The walks of both Next.
-/
import Derived.Test.YtlhnlnmhgkkbaaaFrameRowsRef
import Derived.Outline
namespace Go.Proofs.Ytlhnlnmhgkkbaaa
open Go Go.RowKit Mono Num Crc
set_option linter.unusedVariables false
set_option linter.unusedSimpArgs false

def fnextF : Nat → Nat → List UInt8 → Int
  | 0, _, _ => -1
  | f + 1, p, l => if (fopen (l.drop p)).2.2 = 0 then (p : Int) else fnextF f (p + 1) l
def fnext (l : List UInt8) (p : Nat) : Int := fnextF (l.length - p) p l
theorem fnext_end (l : List UInt8) (p : Nat) (h : l.length ≤ p) : fnext l p = -1 := by unfold fnext; rw [Nat.sub_eq_zero_of_le h]; rfl
theorem fnext_hit (l : List UInt8) (p : Nat) (h : p < l.length) (h0 : (fopen (l.drop p)).2.2 = 0) : fnext l p = p := by
  unfold fnext
  obtain ⟨k, hk⟩ : ∃ k, l.length - p = k + 1 := ⟨l.length - p - 1, by omega⟩
  rw [hk, fnextF, if_pos h0]
theorem fnext_on (l : List UInt8) (p : Nat) (h : p < l.length) (h0 : (fopen (l.drop p)).2.2 ≠ 0) : fnext l p = fnext l (p + 1) := by
  unfold fnext
  obtain ⟨k, hk⟩ : ∃ k, l.length - p = k + 1 := ⟨l.length - p - 1, by omega⟩
  rw [hk, fnextF, if_neg h0, show l.length - (p + 1) = k by omega]

set_option maxHeartbeats 1600000 in
theorem rNext_any (v : Value) (l : List UInt8) (x : Int) (w : World) (hv : Bs w v l) (hlen : l.length ≤ 5000000) (hx1 : x ≤ 9223372036854775807) :
    Calls Try.prog 18 #[v, .int .i64 x] w fun e w' => e = .returned (.int .i64 (fnext l x.toNat)) ∧ Ext w w' := by
  obtain ⟨A, c, rfl, h1, h2, h3, _⟩ := hv.open_
  unfold maxLen at h2
  by_cases hx0 : x < 0
  · rw [show x.toNat = 0 by omega]
    go_enter Try.func18, Try.ntmps18
    go_wp2_with fail
    go_loopw [5] (fun at_ wr => ∃ p : Nat, (p : Int) ≤ 9223372036854775807 ∧ at_ = .int .i64 p ∧ fnext l 0 = fnext l p ∧ Ext w wr) (fun a _ => l.length - (intOf a).toNat)
    case atStart => exact ⟨0, by omega, rfl, rfl, Ext.refl _⟩
    case round =>
      obtain ⟨p, hp, rfl, hf, hx⟩ := hrel
      have HF := Lib.hid hf
      clear hf
      by_cases hlt : p < l.length
      · have hd := (hv.ext hx).from_ (k := p) (by omega)
        rw [if_neg (show ¬ c = p by omega)] at hd
        have HO := Lib.hid (rOpen_any _ (l.drop p) wr hd (by rw [List.length_drop]; omega))
        have hle := fopen_le (l.drop p)
        rw [List.length_drop] at hle
        have hhit := fnext_hit l p hlt
        have hon := fnext_on l p hlt
        obtain ⟨b, n, er, ho⟩ : ∃ b n er, fopen (l.drop p) = (b, n, er) := ⟨_, _, _, rfl⟩
        rw [ho] at hle HO hhit hon
        dsimp only at hle HO hhit hon
        clear hd ho
        by_cases her : er = 0
        · subst her
          have HH := Lib.hid (hhit rfl)
          clear hhit hon
          go_wp2_with fail
          refine HO.out.mono ?_
          rintro e w1 ⟨r, rfl, hr, he⟩
          unfold openV
          go_wp2_with fail
          go_ret
          exact ⟨by rw [HF.out, HH.out]; rfl, Ext.trans hx he⟩
        · have HH := Lib.hid (hon her)
          have her' : ((er : Int) == 0) = false := by rw [beq_eq_false_iff_ne]; omega
          clear hhit hon her
          go_wp2_with fail
          refine HO.out.mono ?_
          rintro e w1 ⟨r, rfl, hr, he⟩
          unfold openV
          go_wp2_with fail
          go_roundw
          case rel => exact ⟨p + 1, by omega, by go_num, by rw [HF.out, HH.out], Ext.trans hx he⟩
          case measure => simp [intOf]; omega
      · have HE := Lib.hid (fnext_end l p (by omega))
        go_wp2_with fail
        go_ret
        exact ⟨by rw [HF.out, HE.out]; rfl, hx⟩
  · obtain ⟨m, rfl⟩ : ∃ m : Nat, x = m := ⟨x.toNat, by omega⟩
    rw [Int.toNat_natCast]
    go_enter Try.func18, Try.ntmps18
    go_wp2_with fail
    go_loopw [5] (fun at_ wr => ∃ p : Nat, (p : Int) ≤ 9223372036854775807 ∧ at_ = .int .i64 p ∧ fnext l m = fnext l p ∧ Ext w wr) (fun a _ => l.length - (intOf a).toNat)
    case atStart => exact ⟨m, by omega, rfl, rfl, Ext.refl _⟩
    case round =>
      obtain ⟨p, hp, rfl, hf, hx⟩ := hrel
      have HF := Lib.hid hf
      clear hf
      by_cases hlt : p < l.length
      · have hd := (hv.ext hx).from_ (k := p) (by omega)
        rw [if_neg (show ¬ c = p by omega)] at hd
        have HO := Lib.hid (rOpen_any _ (l.drop p) wr hd (by rw [List.length_drop]; omega))
        have hle := fopen_le (l.drop p)
        rw [List.length_drop] at hle
        have hhit := fnext_hit l p hlt
        have hon := fnext_on l p hlt
        obtain ⟨b, n, er, ho⟩ : ∃ b n er, fopen (l.drop p) = (b, n, er) := ⟨_, _, _, rfl⟩
        rw [ho] at hle HO hhit hon
        dsimp only at hle HO hhit hon
        clear hd ho
        by_cases her : er = 0
        · subst her
          have HH := Lib.hid (hhit rfl)
          clear hhit hon
          go_wp2_with fail
          refine HO.out.mono ?_
          rintro e w1 ⟨r, rfl, hr, he⟩
          unfold openV
          go_wp2_with fail
          go_ret
          exact ⟨by rw [HF.out, HH.out]; rfl, Ext.trans hx he⟩
        · have HH := Lib.hid (hon her)
          have her' : ((er : Int) == 0) = false := by rw [beq_eq_false_iff_ne]; omega
          clear hhit hon her
          go_wp2_with fail
          refine HO.out.mono ?_
          rintro e w1 ⟨r, rfl, hr, he⟩
          unfold openV
          go_wp2_with fail
          go_roundw
          case rel => exact ⟨p + 1, by omega, by go_num, by rw [HF.out, HH.out], Ext.trans hx he⟩
          case measure => simp [intOf]; omega
      · have HE := Lib.hid (fnext_end l p (by omega))
        go_wp2_with fail
        go_ret
        exact ⟨by rw [HF.out, HE.out]; rfl, hx⟩

set_option maxHeartbeats 1600000 in
theorem fNext_any (v : Value) (l : List UInt8) (x : Int) (w : World) (hv : Bs w v l) (hlen : l.length ≤ 5000000) (hx1 : x ≤ 9223372036854775807) :
    Calls Try.prog 17 #[v, .int .i64 x] w fun e w' => e = .returned (.int .i64 (fnext l x.toNat)) ∧ Ext w w' := by
  obtain ⟨A, c, rfl, h1, h2, h3, _⟩ := hv.open_
  unfold maxLen at h2
  by_cases hx0 : x < 0
  · rw [show x.toNat = 0 by omega]
    go_enter Try.func17, Try.ntmps17
    go_wp2_with fail
    go_step3
    go_wp2_with fail
    go_step3
    go_wp2_with fail
    go_loopw [5] (fun at_ wr => ∃ p : Nat, (p : Int) ≤ 9223372036854775807 ∧ at_ = .int .i64 p ∧ fnext l 0 = fnext l p ∧ Ext w wr) (fun a _ => l.length - (intOf a).toNat)
    case atStart => exact ⟨0, by omega, rfl, rfl, Ext.refl _⟩
    case round =>
      obtain ⟨p, hp, rfl, hf, hx⟩ := hrel
      have HF := Lib.hid hf
      clear hf
      by_cases hlt : p < l.length
      · have hd := (hv.ext hx).from_ (k := p) (by omega)
        rw [if_neg (show ¬ c = p by omega)] at hd
        have HO := Lib.hid (fOpen_any _ (l.drop p) wr hd (by rw [List.length_drop]; omega))
        have hle := fopen_le (l.drop p)
        rw [List.length_drop] at hle
        have hhit := fnext_hit l p hlt
        have hon := fnext_on l p hlt
        obtain ⟨b, n, er, ho⟩ : ∃ b n er, fopen (l.drop p) = (b, n, er) := ⟨_, _, _, rfl⟩
        rw [ho] at hle HO hhit hon
        dsimp only at hle HO hhit hon
        clear hd ho
        by_cases her : er = 0
        · subst her
          have HH := Lib.hid (hhit rfl)
          clear hhit hon
          go_wp2_with fail
          refine HO.out.mono ?_
          rintro e w1 ⟨r, rfl, hr, he⟩
          unfold openV
          go_wp2_with fail
          rw [Exit.noGoto_ret]
          go_ret
          exact ⟨by rw [HF.out, HH.out]; rfl, Ext.trans hx he⟩
        · have HH := Lib.hid (hon her)
          have her' : ((er : Int) == 0) = false := by rw [beq_eq_false_iff_ne]; omega
          clear hhit hon her
          go_wp2_with fail
          refine HO.out.mono ?_
          rintro e w1 ⟨r, rfl, hr, he⟩
          unfold openV
          go_wp2_with fail
          go_roundw
          case rel => exact ⟨p + 1, by omega, by go_num, by rw [HF.out, HH.out], Ext.trans hx he⟩
          case measure => simp [intOf]; omega
      · have HE := Lib.hid (fnext_end l p (by omega))
        go_wp2_with fail
        rw [Exit.noGoto_ret]
        go_ret
        exact ⟨by rw [HF.out, HE.out]; rfl, hx⟩
  · obtain ⟨m, rfl⟩ : ∃ m : Nat, x = m := ⟨x.toNat, by omega⟩
    rw [Int.toNat_natCast]
    go_enter Try.func17, Try.ntmps17
    go_wp2_with fail
    go_step3
    go_wp2_with fail
    go_step3
    go_wp2_with fail
    go_loopw [5] (fun at_ wr => ∃ p : Nat, (p : Int) ≤ 9223372036854775807 ∧ at_ = .int .i64 p ∧ fnext l m = fnext l p ∧ Ext w wr) (fun a _ => l.length - (intOf a).toNat)
    case atStart => exact ⟨m, by omega, rfl, rfl, Ext.refl _⟩
    case round =>
      obtain ⟨p, hp, rfl, hf, hx⟩ := hrel
      have HF := Lib.hid hf
      clear hf
      by_cases hlt : p < l.length
      · have hd := (hv.ext hx).from_ (k := p) (by omega)
        rw [if_neg (show ¬ c = p by omega)] at hd
        have HO := Lib.hid (fOpen_any _ (l.drop p) wr hd (by rw [List.length_drop]; omega))
        have hle := fopen_le (l.drop p)
        rw [List.length_drop] at hle
        have hhit := fnext_hit l p hlt
        have hon := fnext_on l p hlt
        obtain ⟨b, n, er, ho⟩ : ∃ b n er, fopen (l.drop p) = (b, n, er) := ⟨_, _, _, rfl⟩
        rw [ho] at hle HO hhit hon
        dsimp only at hle HO hhit hon
        clear hd ho
        by_cases her : er = 0
        · subst her
          have HH := Lib.hid (hhit rfl)
          clear hhit hon
          go_wp2_with fail
          refine HO.out.mono ?_
          rintro e w1 ⟨r, rfl, hr, he⟩
          unfold openV
          go_wp2_with fail
          rw [Exit.noGoto_ret]
          go_ret
          exact ⟨by rw [HF.out, HH.out]; rfl, Ext.trans hx he⟩
        · have HH := Lib.hid (hon her)
          have her' : ((er : Int) == 0) = false := by rw [beq_eq_false_iff_ne]; omega
          clear hhit hon her
          go_wp2_with fail
          refine HO.out.mono ?_
          rintro e w1 ⟨r, rfl, hr, he⟩
          unfold openV
          go_wp2_with fail
          go_roundw
          case rel => exact ⟨p + 1, by omega, by go_num, by rw [HF.out, HH.out], Ext.trans hx he⟩
          case measure => simp [intOf]; omega
      · have HE := Lib.hid (fnext_end l p (by omega))
        go_wp2_with fail
        rw [Exit.noGoto_ret]
        go_ret
        exact ⟨by rw [HF.out, HE.out]; rfl, hx⟩
end Go.Proofs.Ytlhnlnmhgkkbaaa
