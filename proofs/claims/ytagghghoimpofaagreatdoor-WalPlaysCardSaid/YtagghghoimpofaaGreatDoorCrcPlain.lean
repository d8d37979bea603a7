/-
 Plain facts on the remainder of layer 2: the code's way by whole bytes and the document's way by bits come to the same; the way is linear; what is turned within four bytes is seen.
-/
import Derived.Laws.BitsAllLaws
namespace Go.Proofs.YtagghghoimpofaaGreatDoor
namespace Crc

def poly : BitVec 32 := 79764919#32
/-- one step, no bit coming. -/
def st (r : BitVec 32) : BitVec 32 := (r <<< 1) ^^^ (if r.msb then poly else 0#32)
def stN : Nat → BitVec 32 → BitVec 32
 | 0, r => r
 | n + 1, r => st (stN n r)
def up (x : UInt8) : BitVec 32 := BitVec.ofNat 32 (x.toNat * 16777216)
def by8 (r : BitVec 32) (x : UInt8) : BitVec 32 := stN 8 (r ^^^ up x)
def crcB (r : BitVec 32) (l : List UInt8) : BitVec 32 := l.foldl by8 r
/-- a bit comes. -/
def bitr (r : BitVec 32) (b : Bool) : BitVec 32 := (r <<< 1) ^^^ (if r.msb != b then poly else 0#32)
def bitsB (r : BitVec 32) (x : UInt8) : Nat → BitVec 32
 | 0 => r
 | k + 1 => bitr (bitsB r x k) (x.toNat.testBit (7 - k))
def refB (r : BitVec 32) (l : List UInt8) : BitVec 32 := l.foldl (fun r x => bitsB r x 8) r

theorem st_bit (a z : BitVec 32) : st (a ^^^ z) = bitr a z.msb ^^^ (z <<< 1) := by
 unfold st bitr
 rw [BitVec.msb_xor, BitVec.shiftLeft_xor_distrib, show (a.msb != z.msb) = (a.msb ^^ z.msb) from rfl]
 rw [BitVec.xor_assoc, BitVec.xor_assoc, BitVec.xor_comm (z <<< 1)]

theorem up_msb (x : UInt8) (k : Nat) (hk : k < 8) : ((up x) <<< k).msb = x.toNat.testBit (7 - k) := by
 have hx := x.toNat_lt
 rw [BitVec.msb_eq_getLsbD_last, BitVec.getLsbD_shiftLeft]
 have h31 : ¬ (32 - 1 < k) := by omega
 simp only [h31, decide_false, Bool.not_false, Bool.and_true, show (32 - 1 : Nat) < 32 by omega, decide_true, Bool.true_and]
 unfold up
 rw [BitVec.getLsbD_ofNat, show x.toNat * 16777216 = x.toNat <<< 24 by rw [Nat.shiftLeft_eq], Nat.testBit_shiftLeft]
 have h1 : 32 - 1 - k < 32 := by omega
 have h2 : 32 - 1 - k ≥ 24 := by omega
 simp only [h1, h2, decide_true, Bool.true_and]
 congr 1
 omega

theorem stN_bits (r : BitVec 32) (x : UInt8) : ∀ k, k ≤ 8 → stN k (r ^^^ up x) = bitsB r x k ^^^ ((up x) <<< k)
 | 0, _ => by simp [stN, bitsB]
 | k + 1, hk => by
  simp only [stN, bitsB]
  rw [stN_bits r x k (by omega), st_bit, up_msb x k (by omega), BitVec.shiftLeft_add]

theorem up_out (x : UInt8) : (up x) <<< 8 = 0#32 := by
 have hx := x.toNat_lt
 apply BitVec.eq_of_toNat_eq
 simp only [up, BitVec.toNat_shiftLeft, BitVec.toNat_ofNat, Nat.shiftLeft_eq]
 omega

theorem by8_eq (r : BitVec 32) (x : UInt8) : by8 r x = bitsB r x 8 := by
 unfold by8
 rw [stN_bits r x 8 (Nat.le_refl _), up_out, BitVec.xor_zero]

theorem crcB_eq (r : BitVec 32) (l : List UInt8) : crcB r l = refB r l := by
 unfold crcB refB
 congr 1
 funext r x
 exact by8_eq r x

theorem crcB_append (r : BitVec 32) (a b : List UInt8) : crcB r (a ++ b) = crcB (crcB r a) b := by simp [crcB]
theorem crcB_nil (r : BitVec 32) : crcB r [] = r := rfl

/-! ### In the walk's forms -/
theorem bits_xor (a b : BitVec 32) : bits .xor .u32 ((a.toNat : Nat) : Int) ((b.toNat : Nat) : Int) = (((a ^^^ b).toNat : Nat) : Int) := by
 rw [u32_xor_nat _ _ a.isLt b.isLt, BitVec.toNat_xor]

theorem st_int (z : BitVec 32) : bits .xor .u32 ((z.toNat : Int) * 2 % 4294967296) ((z.toNat : Int) / 2147483648 * 79764919) = (((st z).toNat : Nat) : Int) := by
 have hz := z.isLt
 have e1 : (z.toNat : Int) * (2 : Int) % (4294967296 : Int) = (((z <<< 1).toNat : Nat) : Int) := by
  rw [BitVec.toNat_shiftLeft, Nat.shiftLeft_eq]; omega
 have e2 : (z.toNat : Int) / 2147483648 * 79764919 = (((if z.msb then poly else 0#32 : BitVec 32).toNat : Nat) : Int) := by
  rw [BitVec.msb_eq_decide]
  by_cases h : 2147483648 ≤ z.toNat
  ·have : (2 ^ (32 - 1) ≤ z.toNat) := h
   simp only [this, decide_true, if_true, poly, BitVec.toNat_ofNat]
   omega
  ·have : ¬ (2 ^ (32 - 1) ≤ z.toNat) := h
   simp only [this, decide_false, Bool.false_eq_true, if_false, BitVec.toNat_ofNat]
   omega
 rw [e1, e2, bits_xor]
 rfl

theorem up_int (r : BitVec 32) (x : UInt8) : bits .xor .u32 (r.toNat : Int) ((x.toNat : Int) * 16777216) = (((r ^^^ up x).toNat : Nat) : Int) := by
 have hx := x.toNat_lt
 have e : (x.toNat : Int) * 16777216 = (((up x).toNat : Nat) : Int) := by
  unfold up; rw [BitVec.toNat_ofNat]; omega
 rw [e, bits_xor]

theorem crcB_snoc (r : BitVec 32) (l : List UInt8) (k : Nat) (h : k < l.length) : crcB r (l.take (k + 1)) = stN 8 (crcB r (l.take k) ^^^ up l[k]) := by
 rw [List.take_succ_eq_append_getElem h, crcB_append]; rfl

theorem not_int (x : BitVec 32) : bits .xor .u32 IntKind.u32.max (x.toNat : Int) = (((~~~x).toNat : Nat) : Int) := by
 have e : IntKind.u32.max = (((BitVec.allOnes 32).toNat : Nat) : Int) := by rfl
 rw [e, bits_xor, BitVec.allOnes_xor]

theorem shl_int (x : BitVec 32) : (x.toNat : Int) * (2 : Int) % (4294967296 : Int) = (((x <<< 1).toNat : Nat) : Int) := by
 have hz := x.isLt
 rw [BitVec.toNat_shiftLeft, Nat.shiftLeft_eq]; omega

theorem top_int (x : BitVec 32) : (x.toNat : Int) / 2147483648 = if x.msb then 1 else 0 := by
 have hz := x.isLt
 rw [BitVec.msb_eq_decide]
 by_cases h : 2147483648 ≤ x.toNat
 ·have : (2 ^ (32 - 1) ≤ x.toNat) := h
  simp only [this, decide_true, if_true]
  omega
 ·have : ¬ (2 ^ (32 - 1) ≤ x.toNat) := h
  simp only [this, decide_false, Bool.false_eq_true, if_false]
  omega

theorem bitr_same (x : BitVec 32) (b : Int) (p : Bool) (hb : b = if p then 1 else 0) (h : (x.toNat : Int) / 2147483648 = b) : (x.toNat : Int) * (2 : Int) % (4294967296 : Int) = (((bitr x p).toNat : Nat) : Int) := by
 rw [top_int, hb] at h
 have : (x.msb != p) = false := by
  cases hm : x.msb <;> cases p <;> simp [hm] at h ⊢
 rw [shl_int]
 unfold bitr
 rw [this]
 simp

theorem bitr_other (x : BitVec 32) (b : Int) (p : Bool) (hb : b = if p then 1 else 0) (h : ¬ (x.toNat : Int) / 2147483648 = b) : bits .xor .u32 ((x.toNat : Int) * (2 : Int) % (4294967296 : Int)) 79764919 = (((bitr x p).toNat : Nat) : Int) := by
 rw [top_int, hb] at h
 have : (x.msb != p) = true := by
  cases hm : x.msb <;> cases p <;> simp [hm] at h ⊢
 rw [shl_int, show (79764919 : Int) = ((poly.toNat : Nat) : Int) from rfl, bits_xor]
 unfold bitr
 rw [this]
 rfl

/-- the bit that comes. -/
def bitAt (x : UInt8) (j : Nat) : Int := if x.toNat.testBit j then 1 else 0
theorem bitAt_int (x : UInt8) (j : Nat) : bits .and .u32 ((x.toNat : Int) / 2 ^ j) 1 = bitAt x j := by
 have hx := x.toNat_lt
 have hd : x.toNat / 2 ^ j ≤ x.toNat := Nat.div_le_self _ _
 have e : ((x.toNat : Int) / 2 ^ j) = ((x.toNat / 2 ^ j : Nat) : Int) := by simp
 rw [e, show (1 : Int) = ((1 : Nat) : Int) from rfl, u32_and_nat _ _ (by omega) (by omega), nat_mask1]
 unfold bitAt
 rw [Nat.testBit_eq_decide_div_mod_eq]
 by_cases h : x.toNat / 2 ^ j % 2 = 1
 ·simp [h]
 ·have : x.toNat / 2 ^ j % 2 = 0 := by omega
  simp [this]

theorem refB_snoc (r : BitVec 32) (l : List UInt8) (k : Nat) (h : k < l.length) : refB r (l.take (k + 1)) = bitsB (refB r (l.take k)) l[k] 8 := by
 unfold refB; rw [List.take_succ_eq_append_getElem h, List.foldl_append]; rfl

def sum (l : List UInt8) : BitVec 32 := ~~~ (crcB (BitVec.allOnes 32) l)
def more (s : BitVec 32) (l : List UInt8) : BitVec 32 := ~~~ (crcB (~~~ s) l)
theorem sum_more (l : List UInt8) : more 0#32 l = sum l := by
 unfold more sum
 rfl
/-- a sum's four bytes. -/
def sumB (s : BitVec 32) : List UInt8 := [UInt8.ofNat (s.toNat / 16777216), UInt8.ofNat (s.toNat / 65536 % 256), UInt8.ofNat (s.toNat / 256 % 256), UInt8.ofNat (s.toNat % 256)]
def fix (l : List UInt8) : List UInt8 := l ++ sumB (sum l)
theorem sumB_int (s : BitVec 32) : (sumB s).map (fun x => (x.toNat : Int)) = [(s.toNat : Int) / 16777216, (s.toNat : Int) / 65536 % 256, (s.toNat : Int) / 256 % 256, (s.toNat : Int) % 256] := by
 have hs := s.isLt
 simp only [sumB, List.map_cons, List.map_nil, UInt8.toNat_ofNat']
 congr 1
 ·omega
 congr 1
 ·omega
 congr 1
 ·omega
 congr 1
 omega
def right (l : List UInt8) : Bool := decide (4 ≤ l.length) && (l.drop (l.length - 4) == sumB (sum (l.take (l.length - 4))))
theorem right_short (l : List UInt8) (h : l.length < 4) : right l = false := by
 have : ¬ 4 ≤ l.length := by omega
 simp [right, this]
theorem right_app (m : List UInt8) (a b c d : UInt8) : right (m ++ [a, b, c, d]) = ([a, b, c, d] == sumB (sum m)) := by
 have h1 : (m ++ [a, b, c, d]).length - 4 = m.length := by simp
 have h2 : 4 ≤ (m ++ [a, b, c, d]).length := by simp
 unfold right
 rw [h1]
 simp only [h2, decide_true, Bool.true_and, List.drop_left, List.take_left]
theorem four_of (l : List UInt8) (h : 4 ≤ l.length) : ∃ m a b c d, l = m ++ [a, b, c, d] := by
 refine ⟨l.take (l.length - 4), l[l.length - 4], l[l.length - 3], l[l.length - 2], l[l.length - 1], ?_⟩
 have hd : l.drop (l.length - 4) = [l[l.length - 4], l[l.length - 3], l[l.length - 2], l[l.length - 1]] := by
  apply List.ext_getElem
  ·simp; omega
  ·intro i h1 h2
   simp only [List.getElem_drop]
   have : i < 4 := by simpa using h2
   match i, this with
   | 0, _ => simp
   | 1, _ => simp; congr 1; omega
   | 2, _ => simp; congr 1; omega
   | 3, _ => simp; congr 1; omega
 rw [← hd, List.take_append_drop]
theorem beq_byte (a : UInt8) (n : Nat) (hn : n < 256) : ((a.toNat : Int) == (n : Int)) = (a == UInt8.ofNat n) := by
 rw [Bool.eq_iff_iff, beq_iff_eq, beq_iff_eq]
 constructor
 ·intro h
  apply UInt8.toNat_inj.1
  rw [UInt8.toNat_ofNat']
  omega
 ·intro h
  rw [h, UInt8.toNat_ofNat']
  omega
theorem right_bytes (m : List UInt8) (a b c d : UInt8) (b0 b1 b2 b3 : Bool) (h0 : ((a.toNat : Int) == ((sum m).toNat : Int) / 16777216) = b0) (h1 : ((b.toNat : Int) == ((sum m).toNat : Int) / 65536 % 256) = b1)
  (h2 : ((c.toNat : Int) == ((sum m).toNat : Int) / 256 % 256) = b2) (h3 : ((d.toNat : Int) == ((sum m).toNat : Int) % 256) = b3) : right (m ++ [a, b, c, d]) = (b0 && b1 && b2 && b3) := by
 have hs := (sum m).isLt
 rw [right_app]
 rw [show ((sum m).toNat : Int) / 16777216 = (((sum m).toNat / 16777216 : Nat) : Int) by simp, beq_byte _ _ (by omega)] at h0
 rw [show ((sum m).toNat : Int) / 65536 % 256 = (((sum m).toNat / 65536 % 256 : Nat) : Int) by simp, beq_byte _ _ (by omega)] at h1
 rw [show ((sum m).toNat : Int) / 256 % 256 = (((sum m).toNat / 256 % 256 : Nat) : Int) by simp, beq_byte _ _ (by omega)] at h2
 rw [show ((sum m).toNat : Int) % 256 = (((sum m).toNat % 256 : Nat) : Int) by simp, beq_byte _ _ (by omega)] at h3
 subst h0 h1 h2 h3
 simp only [sumB, List.cons_beq_cons, show (([] : List UInt8) == []) = true from rfl, Bool.and_true, Bool.and_assoc]
theorem fix_right (l : List UInt8) (h : 4 ≤ l.length) : (fix (l.take (l.length - 4)) == l) = right l := by
 unfold fix right
 simp only [h, decide_true, Bool.true_and]
 rw [Bool.eq_iff_iff, beq_iff_eq, beq_iff_eq]
 constructor
 ·intro he
  have h2 : (l.take (l.length - 4) ++ sumB (sum (l.take (l.length - 4)))).drop (l.length - 4) = sumB (sum (l.take (l.length - 4))) := by
   rw [List.drop_append_of_le_length (by simp), List.drop_of_length_le (by simp)]
   rfl
  rw [he] at h2
  exact h2
 ·intro he
  rw [← he, List.take_append_drop]
end Crc
end Go.Proofs.YtagghghoimpofaaGreatDoor
