/-
  Plain facts of layer 2: what is turned within four bytes side by side is seen.
-/
import Derived.Test.YtagghghoimpofaaDoorCrcPlain
namespace Go.Proofs.YtagghghoimpofaaDoor
namespace Crc
set_option linter.unusedSimpArgs false

theorem st_zero_iff (x : BitVec 32) (h : st x = 0#32) : x = 0#32 := by
  unfold st at h
  cases hm : x.msb with
  | true =>
    rw [hm] at h
    have h0 : (x <<< 1 ^^^ poly).getLsbD 0 = false := by
      have := congrArg (fun y => BitVec.getLsbD y 0) h
      simpa using this
    rw [BitVec.getLsbD_xor, BitVec.getLsbD_shiftLeft] at h0
    have hp : poly[0] = true := by decide
    simp [hp] at h0
  | false =>
    rw [hm] at h
    simp only [Bool.false_eq_true, if_false, BitVec.xor_zero] at h
    rw [BitVec.msb_eq_decide] at hm
    have hx : x.toNat < 2147483648 := by
      have := of_decide_eq_false hm
      omega
    have h2 := congrArg BitVec.toNat h
    rw [BitVec.toNat_shiftLeft, Nat.shiftLeft_eq] at h2
    apply BitVec.eq_of_toNat_eq
    simp at h2 ⊢
    omega
theorem stN_zero (n : Nat) : stN n 0#32 = 0#32 := by
  induction n with
  | zero => rfl
  | succ n ih => simp only [stN, ih]; decide
theorem stN_zero_iff (n : Nat) (x : BitVec 32) (h : stN n x = 0#32) : x = 0#32 := by
  induction n with
  | zero => exact h
  | succ n ih => exact ih (st_zero_iff _ h)
theorem stN_inj (n : Nat) (x y : BitVec 32) (h : stN n x = stN n y) : x = y := by
  have h1 : stN n (x ^^^ y) = 0#32 := by rw [stN_xor, h, BitVec.xor_self]
  have h2 := stN_zero_iff n _ h1
  have h3 : x ^^^ y ^^^ y = 0#32 ^^^ y := by rw [h2]
  rwa [BitVec.xor_assoc, BitVec.xor_self, BitVec.xor_zero, BitVec.zero_xor] at h3

/-- bytes behind a remainder: what the remainder was goes its own way. -/
theorem crcB_xor (s e : BitVec 32) : ∀ (l : List UInt8), crcB (s ^^^ e) l = crcB s l ^^^ stN (8 * l.length) e
  | [] => rfl
  | x :: l => by
    have h1 : by8 (s ^^^ e) x = by8 s x ^^^ stN 8 e := by
      unfold by8
      rw [BitVec.xor_assoc, BitVec.xor_comm e, ← BitVec.xor_assoc, stN_xor]
    have h2 : crcB (s ^^^ e) (x :: l) = crcB (by8 (s ^^^ e) x) l := rfl
    have h3 : crcB s (x :: l) = crcB (by8 s x) l := rfl
    rw [h2, h3, h1, crcB_xor (by8 s x) (stN 8 e) l, ← stN_add, List.length_cons, show 8 * l.length + 8 = 8 * (l.length + 1) by omega]

theorem st_low (n : Nat) (h : n < 2147483648) : st (BitVec.ofNat 32 n) = BitVec.ofNat 32 (2 * n) := by
  unfold st
  have hm : (BitVec.ofNat 32 n).msb = false := by
    rw [BitVec.msb_eq_decide]
    simp
    omega
  rw [hm]
  simp only [Bool.false_eq_true, if_false, BitVec.xor_zero]
  apply BitVec.eq_of_toNat_eq
  simp only [BitVec.toNat_shiftLeft, BitVec.toNat_ofNat, Nat.shiftLeft_eq]
  omega
theorem st8_low (n : Nat) (h : n < 16777216) : stN 8 (BitVec.ofNat 32 n) = BitVec.ofNat 32 (256 * n) := by
  simp only [stN]
  rw [st_low _ (by omega), st_low _ (by omega), st_low _ (by omega), st_low _ (by omega), st_low _ (by omega), st_low _ (by omega), st_low _ (by omega), st_low _ (by omega)]
  congr 1
  omega

def w4 (a b c d : UInt8) : BitVec 32 := BitVec.ofNat 32 (a.toNat * 16777216) ^^^ BitVec.ofNat 32 (b.toNat * 65536) ^^^ BitVec.ofNat 32 (c.toNat * 256) ^^^ BitVec.ofNat 32 d.toNat

theorem crcB_four (s : BitVec 32) (a b c d : UInt8) : crcB s [a, b, c, d] = stN 32 (s ^^^ w4 a b c d) := by
  have ha := a.toNat_lt
  have hb := b.toNat_lt
  have hc := c.toNat_lt
  have hd := d.toNat_lt
  have eb : up b = stN 8 (BitVec.ofNat 32 (b.toNat * 65536)) := by rw [st8_low _ (by omega)]; unfold up; congr 1; omega
  have ec : up c = stN 16 (BitVec.ofNat 32 (c.toNat * 256)) := by rw [stN_add 8 8, st8_low _ (by omega), st8_low _ (by omega)]; unfold up; congr 1; omega
  have ed : up d = stN 24 (BitVec.ofNat 32 d.toNat) := by rw [stN_add 8 16, stN_add 8 8, st8_low _ (by omega), st8_low _ (by omega), st8_low _ (by omega)]; unfold up; congr 1; omega
  have h : crcB s [a, b, c, d] = stN 8 (stN 8 (stN 8 (stN 8 (s ^^^ up a) ^^^ up b) ^^^ up c) ^^^ up d) := rfl
  rw [h, eb, ec, ed]
  rw [← stN_xor, ← stN_add, show 8 + 8 = 16 from rfl, ← stN_xor, ← stN_add, show 8 + 16 = 24 from rfl, ← stN_xor, ← stN_add]
  unfold w4 up
  simp only [BitVec.xor_assoc]

theorem w4_bytes (s : BitVec 32) : w4 (UInt8.ofNat (s.toNat / 16777216)) (UInt8.ofNat (s.toNat / 65536 % 256)) (UInt8.ofNat (s.toNat / 256 % 256)) (UInt8.ofNat (s.toNat % 256)) = s := by
  have hs := s.isLt
  apply BitVec.eq_of_getLsbD_eq
  intro i hi
  unfold w4
  simp only [UInt8.toNat_ofNat', BitVec.getLsbD_xor, BitVec.getLsbD_ofNat, hi, decide_true, Bool.true_and]
  have e1 : s.toNat / 16777216 % 2 ^ 8 * 16777216 = (s.toNat / 2 ^ 24 % 2 ^ 8) * 2 ^ 24 := by simp
  have e2 : s.toNat / 65536 % 256 % 2 ^ 8 * 65536 = (s.toNat / 2 ^ 16 % 2 ^ 8) * 2 ^ 16 := by simp
  have e3 : s.toNat / 256 % 256 % 2 ^ 8 * 256 = (s.toNat / 2 ^ 8 % 2 ^ 8) * 2 ^ 8 := by simp
  have e4 : s.toNat % 256 % 2 ^ 8 = s.toNat % 2 ^ 8 := by simp
  rw [e1, e2, e3, e4]
  rw [Nat.testBit_mul_two_pow, Nat.testBit_mul_two_pow, Nat.testBit_mul_two_pow]
  simp only [Nat.testBit_mod_two_pow, Nat.testBit_div_two_pow]
  have hg : s.getLsbD i = s.toNat.testBit i := rfl
  rw [hg]
  rcases Nat.lt_or_ge i 8 with h | h
  · have a1 : ¬ 24 ≤ i := by omega
    have a2 : ¬ 16 ≤ i := by omega
    have a3 : ¬ 8 ≤ i := by omega
    simp [a1, a2, a3, h]
  rcases Nat.lt_or_ge i 16 with h2 | h2
  · have a1 : ¬ 24 ≤ i := by omega
    have a2 : ¬ 16 ≤ i := by omega
    have a4 : ¬ i < 8 := by omega
    have a5 : i - 8 < 8 := by omega
    simp [a1, a2, h, a4, a5, show 8 + (i - 8) = i by omega, show i - 8 + 8 = i by omega]
  rcases Nat.lt_or_ge i 24 with h3 | h3
  · have a1 : ¬ 24 ≤ i := by omega
    have a4 : ¬ i < 8 := by omega
    have a5 : ¬ i - 8 < 8 := by omega
    have a6 : i - 16 < 8 := by omega
    simp [a1, h2, h, a4, a5, a6, show 16 + (i - 16) = i by omega, show i - 16 + 16 = i by omega]
  · have a4 : ¬ i < 8 := by omega
    have a5 : ¬ i - 8 < 8 := by omega
    have a6 : ¬ i - 16 < 8 := by omega
    have a7 : i - 24 < 8 := by omega
    simp [h3, h2, h, a4, a5, a6, a7, show 24 + (i - 24) = i by omega, show i - 24 + 24 = i by omega]

theorem right_residue (m : List UInt8) (a b c d : UInt8) (h : right (m ++ [a, b, c, d]) = true) : crcB (BitVec.allOnes 32) (m ++ [a, b, c, d]) = stN 32 (BitVec.allOnes 32) := by
  rw [right_app, beq_iff_eq] at h
  unfold sumB at h
  injection h with h1 h
  injection h with h2 h
  injection h with h3 h
  injection h with h4 _
  rw [crcB_append, crcB_four, h1, h2, h3, h4, w4_bytes]
  unfold sum
  congr 1
  rw [← BitVec.allOnes_xor (x := crcB (BitVec.allOnes 32) m), BitVec.xor_comm (BitVec.allOnes 32), ← BitVec.xor_assoc, BitVec.xor_self, BitVec.zero_xor]

theorem xor_byte (a t : UInt8) : BitVec.ofNat 32 ((a ^^^ t).toNat) = BitVec.ofNat 32 a.toNat ^^^ BitVec.ofNat 32 t.toNat := by
  rw [UInt8.toNat_xor]
  apply BitVec.eq_of_getLsbD_eq
  intro i hi
  simp [hi, BitVec.getLsbD_ofNat]
theorem xor_shift (a t : UInt8) (k : Nat) : BitVec.ofNat 32 ((a ^^^ t).toNat * 2 ^ k) = BitVec.ofNat 32 (a.toNat * 2 ^ k) ^^^ BitVec.ofNat 32 (t.toNat * 2 ^ k) := by
  rw [UInt8.toNat_xor]
  apply BitVec.eq_of_getLsbD_eq
  intro i hi
  simp only [BitVec.getLsbD_xor, BitVec.getLsbD_ofNat, hi, decide_true, Bool.true_and, Nat.testBit_mul_two_pow, Nat.testBit_xor]
  cases decide (k ≤ i) <;> simp
theorem w4_xor (a b c d a' b' c' d' : UInt8) : w4 (a ^^^ a') (b ^^^ b') (c ^^^ c') (d ^^^ d') = w4 a b c d ^^^ w4 a' b' c' d' := by
  have h1 := xor_shift a a' 24
  have h2 := xor_shift b b' 16
  have h3 := xor_shift c c' 8
  have h4 := xor_byte d d'
  unfold w4
  simp only [show (2 : Nat) ^ 24 = 16777216 from rfl, show (2 : Nat) ^ 16 = 65536 from rfl, show (2 : Nat) ^ 8 = 256 from rfl] at h1 h2 h3
  rw [h1, h2, h3, h4]
  ac_rfl

/-- the four bytes of a turn. -/
def tb (t : BitVec 32) : Nat → UInt8
  | 0 => UInt8.ofNat (t.toNat / 16777216)
  | 1 => UInt8.ofNat (t.toNat / 65536 % 256)
  | 2 => UInt8.ofNat (t.toNat / 256 % 256)
  | _ => UInt8.ofNat (t.toNat % 256)

/-- The first j of four bytes from place k on are turned. -/
def tw (l : List UInt8) (k : Nat) (t : BitVec 32) : Nat → List UInt8
  | 0 => l
  | j + 1 => (tw l k t j).set (k + j) ((tw l k t j).getD (k + j) 0 ^^^ tb t j)
theorem tw_length (l : List UInt8) (k : Nat) (t : BitVec 32) : ∀ j, (tw l k t j).length = l.length
  | 0 => rfl
  | j + 1 => by simp [tw, tw_length l k t j]

theorem tw_four (A B : List UInt8) (a b c d : UInt8) (t : BitVec 32) : tw (A ++ [a, b, c, d] ++ B) A.length t 4 = A ++ [a ^^^ tb t 0, b ^^^ tb t 1, c ^^^ tb t 2, d ^^^ tb t 3] ++ B := by
  simp [tw]

theorem cut_four (l : List UInt8) (k : Nat) (h : k + 4 ≤ l.length) : ∃ A a b c d B, l = A ++ [a, b, c, d] ++ B ∧ A.length = k := by
  refine ⟨l.take k, l[k], l[k + 1], l[k + 2], l[k + 3], l.drop (k + 4), ?_, by simp; omega⟩
  have h1 : l.drop k = [l[k], l[k + 1], l[k + 2], l[k + 3]] ++ l.drop (k + 4) := by
    rw [List.drop_eq_getElem_cons (by omega), List.drop_eq_getElem_cons (by omega), List.drop_eq_getElem_cons (by omega), List.drop_eq_getElem_cons (by omega)]
    simp
  rw [List.append_assoc, ← h1, List.take_append_drop]

theorem burst (l : List UInt8) (k : Nat) (t : BitVec 32) (hk : k ≤ l.length) (ht : t ≠ 0#32) : right (tw (fix l) k t 4) = false := by
  have hlen : (fix l).length = l.length + 4 := by simp [fix, sumB]
  cases hr : right (tw (fix l) k t 4) with
  | false => rfl
  | true =>
    exfalso
    have hl4 : 4 ≤ (tw (fix l) k t 4).length := by rw [tw_length, hlen]; omega
    obtain ⟨m, a, b, c, d, hm⟩ := four_of _ hl4
    have r1 := right_residue m a b c d (hm ▸ hr)
    rw [← hm] at r1
    obtain ⟨m', a', b', c', d', hm'⟩ := four_of (fix l) (by omega)
    have r2 := right_residue m' a' b' c' d' (hm' ▸ right_fix l)
    rw [← hm'] at r2
    obtain ⟨A, x0, x1, x2, x3, B, hcut, hA⟩ := cut_four (fix l) k (by omega)
    rw [hcut] at r1 r2
    rw [← hA, tw_four] at r1
    rw [crcB_append, crcB_append, crcB_four, w4_xor, ← BitVec.xor_assoc, stN_xor, crcB_xor, ← crcB_four, ← crcB_append, ← crcB_append, ← List.append_assoc, r2] at r1
    have e : stN (8 * B.length) (stN 32 (w4 (tb t 0) (tb t 1) (tb t 2) (tb t 3))) = 0#32 := by
      have h3 : stN 32 (BitVec.allOnes 32) ^^^ (stN 32 (BitVec.allOnes 32) ^^^ stN (8 * B.length) (stN 32 (w4 (tb t 0) (tb t 1) (tb t 2) (tb t 3)))) = stN 32 (BitVec.allOnes 32) ^^^ stN 32 (BitVec.allOnes 32) := by rw [r1]
      rwa [← BitVec.xor_assoc, BitVec.xor_self, BitVec.zero_xor] at h3
    have e2 := stN_zero_iff _ _ (stN_zero_iff _ _ e)
    have e3 : w4 (tb t 0) (tb t 1) (tb t 2) (tb t 3) = t := w4_bytes t
    exact ht (e3 ▸ e2)
theorem tb_int (z : UInt8) (t : BitVec 32) (j : Nat) (hj : j < 4) : bits .xor .u8 (z.toNat : Int) ((t.toNat : Int) / 2 ^ (24 - 8 * j) % 256) = (((z ^^^ tb t j).toNat : Nat) : Int) := by
  have ht := t.isLt
  have hz := z.toNat_lt
  have e : ((t.toNat : Int) / 2 ^ (24 - 8 * j) % 256) = (((tb t j).toNat : Nat) : Int) := by
    have hcases : j = 0 ∨ j = 1 ∨ j = 2 ∨ j = 3 := by omega
    rcases hcases with rfl | rfl | rfl | rfl <;> simp only [tb, UInt8.toNat_ofNat', Nat.mul_zero, Nat.sub_zero, show 24 - 8 * 1 = 16 from rfl, show 24 - 8 * 2 = 8 from rfl, show 24 - 8 * 3 = 0 from rfl] <;> omega
  have h2 := (tb t j).toNat_lt
  rw [e, u8_xor_nat _ _ (by omega) (by omega), UInt8.toNat_xor]
def join (a b : BitVec 32) (n : Nat) : BitVec 32 := ~~~ (stN (8 * n) (~~~ a) ^^^ stN (8 * n) (BitVec.allOnes 32) ^^^ ~~~ b)
theorem join_sum (a b : List UInt8) : join (sum a) (sum b) b.length = sum (a ++ b) := by
  have h1 : crcB (crcB (BitVec.allOnes 32) a) b = crcB (BitVec.allOnes 32) b ^^^ stN (8 * b.length) (BitVec.allOnes 32 ^^^ crcB (BitVec.allOnes 32) a) := by
    rw [← crcB_xor, ← BitVec.xor_assoc, BitVec.xor_self, BitVec.zero_xor]
  have h2 : sum (a ++ b) = ~~~ (crcB (crcB (BitVec.allOnes 32) a) b) := by unfold sum; rw [crcB_append]
  rw [h2, h1, stN_xor]
  unfold join sum
  rw [BitVec.not_not, BitVec.not_not]
  congr 1
  ac_rfl
end Crc
end Go.Proofs.YtagghghoimpofaaDoor
