/-
  Plain facts of layer 1: how many bytes a number has, which, and what bytes begin with.
-/
import Derived.Laws.BitsAllLaws
import Derived.WalkKit
namespace Go.Proofs.Ytocdifjdeifclaa
namespace Num
set_option linter.unusedSimpArgs false
set_option linter.unusedVariables false

def nsize (n : Int) : Nat := if n < 0 ∨ 4611686018427387903 < n then 0 else if n < 64 then 1 else if n < 16384 then 2 else if n < 1073741824 then 4 else 8
theorem nsize_out {n : Int} (h : n < 0 ∨ 4611686018427387903 < n) : nsize n = 0 := by unfold nsize; rw [if_pos h]
theorem nsize_1 {n : Int} (h0 : 0 ≤ n) (h1 : n < 64) : nsize n = 1 := by unfold nsize; rw [if_neg (by omega), if_pos h1]
theorem nsize_2 {n : Int} (h0 : 64 ≤ n) (h1 : n < 16384) : nsize n = 2 := by unfold nsize; rw [if_neg (by omega), if_neg (by omega), if_pos h1]
theorem nsize_4 {n : Int} (h0 : 16384 ≤ n) (h1 : n < 1073741824) : nsize n = 4 := by unfold nsize; rw [if_neg (by omega), if_neg (by omega), if_neg (by omega), if_pos h1]
theorem nsize_8 {n : Int} (h0 : 1073741824 ≤ n) (h1 : n ≤ 4611686018427387903) : nsize n = 8 := by unfold nsize; rw [if_neg (by omega), if_neg (by omega), if_neg (by omega), if_neg (by omega)]
theorem nsize_cases (n : Int) : ((n < 0 ∨ 4611686018427387903 < n) ∧ nsize n = 0) ∨ (0 ≤ n ∧ n < 64 ∧ nsize n = 1) ∨ (64 ≤ n ∧ n < 16384 ∧ nsize n = 2) ∨ (16384 ≤ n ∧ n < 1073741824 ∧ nsize n = 4) ∨ (1073741824 ≤ n ∧ n ≤ 4611686018427387903 ∧ nsize n = 8) := by
  by_cases h : n < 0 ∨ 4611686018427387903 < n
  · exact .inl ⟨h, nsize_out h⟩
  by_cases h1 : n < 64
  · exact .inr (.inl ⟨by omega, h1, nsize_1 (by omega) h1⟩)
  by_cases h2 : n < 16384
  · exact .inr (.inr (.inl ⟨by omega, h2, nsize_2 (by omega) h2⟩))
  by_cases h4 : n < 1073741824
  · exact .inr (.inr (.inr (.inl ⟨by omega, h4, nsize_4 (by omega) h4⟩)))
  · exact .inr (.inr (.inr (.inr ⟨by omega, by omega, nsize_8 (by omega) (by omega)⟩)))
theorem nsize_le (n : Int) : nsize n ≤ 8 := by rcases nsize_cases n with h | h | h | h | h <;> omega

/-- what the first byte says. -/
def tag (k : Nat) : Nat := if k = 2 then 64 else if k = 4 then 128 else if k = 8 then 192 else 0
/-- byte number i of a number in k bytes, without and with what the first one says. -/
def pb (n k i : Nat) : UInt8 := UInt8.ofNat (n / 2 ^ (8 * (k - 1 - i)))
def eb (n k i : Nat) : UInt8 := if i = 0 then UInt8.ofNat (n / 2 ^ (8 * (k - 1)) + tag k) else pb n k i
def plain (n k : Nat) : List UInt8 := (List.range k).map (pb n k)
def enc (n k : Nat) : List UInt8 := (List.range k).map (eb n k)
/-- A number's bytes. -/
def nput (n : Int) : List UInt8 := enc n.toNat (nsize n)
theorem enc_length (n k : Nat) : (enc n k).length = k := by simp [enc]
theorem plain_length (n k : Nat) : (plain n k).length = k := by simp [plain]
theorem nput_length (n : Int) : (nput n).length = nsize n := enc_length _ _
theorem nput_out {n : Int} (h : n < 0 ∨ 4611686018427387903 < n) : nput n = [] := by unfold nput; rw [nsize_out h]; rfl
theorem plain_snoc (n k j : Nat) (h : j < k) : (plain n k).take (j + 1) = (plain n k).take j ++ [pb n k j] := by
  rw [List.take_succ_eq_append_getElem (by rw [plain_length]; exact h)]
  simp [plain]
theorem enc_snoc (n k j : Nat) (h : j < k) : (enc n k).take (j + 1) = (enc n k).take j ++ [eb n k j] := by
  rw [List.take_succ_eq_append_getElem (by rw [enc_length]; exact h)]
  simp [enc]
theorem enc_of_plain (n k : Nat) (hk : 0 < k) : enc n k = (plain n k).set 0 (UInt8.ofNat (n / 2 ^ (8 * (k - 1)) + tag k)) := by
  apply List.ext_getElem
  · rw [enc_length, List.length_set, plain_length]
  · intro i h1 h2
    rw [List.getElem_set]
    by_cases h0 : 0 = i
    · subst h0
      rw [if_pos rfl]
      simp [enc, eb]
    · rw [if_neg h0]
      simp [enc, plain, eb, show ¬ i = 0 by omega]

/-! ### Getting -/
def nval (m : Nat) (l : List UInt8) : Nat := l.foldl (fun n x => 256 * n + x.toNat) m
def nlen (x : UInt8) : Nat := 2 ^ (x.toNat / 64)
/-- What bytes begin with: the number, how many bytes it has, which error. -/
def nget (l : List UInt8) : Nat × Nat × Nat :=
  match l with
  | [] => (0, 0, 10)
  | x :: r => if r.length + 1 < nlen x then (0, 0, 10)
    else if nsize (nval (x.toNat % 64) (r.take (nlen x - 1)) : Nat) = nlen x then (nval (x.toNat % 64) (r.take (nlen x - 1)), nlen x, 0) else (0, 0, 11)

theorem nval_append (m : Nat) (a b : List UInt8) : nval m (a ++ b) = nval (nval m a) b := by simp [nval]
theorem nval_snoc (m : Nat) (l : List UInt8) (k : Nat) (h : k < l.length) : nval m (l.take (k + 1)) = 256 * nval m (l.take k) + (l.getD k 0).toNat := by
  rw [List.take_succ_eq_append_getElem h, nval_append, List.getD_eq_getElem?_getD, List.getElem?_eq_getElem h]; rfl
theorem nval_lt (m : Nat) : ∀ (l : List UInt8) (c : Nat), m < c → nval m l < c * 256 ^ l.length
  | [], c, h => by simpa [nval] using h
  | x :: l, c, h => by
    have hx := x.toNat_lt
    have h1 := nval_lt (256 * m + x.toNat) l (c * 256) (by omega)
    have h2 : nval m (x :: l) = nval (256 * m + x.toNat) l := rfl
    rw [h2, List.length_cons, Nat.pow_succ]
    rw [show c * (256 ^ l.length * 256) = c * 256 * 256 ^ l.length by rw [Nat.mul_comm (256 ^ l.length) 256, Nat.mul_assoc]]
    exact h1
theorem nlen_cases (x : UInt8) : (x.toNat / 64 = 0 ∧ nlen x = 1) ∨ (x.toNat / 64 = 1 ∧ nlen x = 2) ∨ (x.toNat / 64 = 2 ∧ nlen x = 4) ∨ (x.toNat / 64 = 3 ∧ nlen x = 8) := by
  have hx := x.toNat_lt
  have h : x.toNat / 64 = 0 ∨ x.toNat / 64 = 1 ∨ x.toNat / 64 = 2 ∨ x.toNat / 64 = 3 := by omega
  unfold nlen
  rcases h with h | h | h | h <;> rw [h] <;> simp
theorem nval_bound (x : UInt8) (l : List UInt8) (k : Nat) (hl : l.length = k) : nval (x.toNat % 64) l < 64 * 256 ^ k := by
  have := nval_lt (x.toNat % 64) l 64 (by omega)
  rwa [hl] at this
theorem nsize_le_nlen (x : UInt8) (l : List UInt8) (hl : l.length = nlen x - 1) : nsize (nval (x.toNat % 64) l : Nat) ≤ nlen x := by
  have hb := nval_bound x l _ hl
  generalize nval (x.toNat % 64) l = n at *
  rcases nlen_cases x with ⟨_, h⟩ | ⟨_, h⟩ | ⟨_, h⟩ | ⟨_, h⟩ <;> rw [h] at hb ⊢ <;> simp at hb
  · rcases nsize_cases (n : Nat) with h | h | h | h | h <;> omega
  · rcases nsize_cases (n : Nat) with h | h | h | h | h <;> omega
  · rcases nsize_cases (n : Nat) with h | h | h | h | h <;> omega
  · exact nsize_le _
theorem pb_int (n k i : Nat) : (n : Int) / 2 ^ (8 * (k - 1 - i)) % 256 = (((pb n k i).toNat : Nat) : Int) := by
  unfold pb
  rw [UInt8.toNat_ofNat']
  have : ((n : Int) / 2 ^ (8 * (k - 1 - i))) = ((n / 2 ^ (8 * (k - 1 - i)) : Nat) : Int) := by simp
  rw [this]
  omega
/-- in the size that a number has its first byte has room for what it says. -/
theorem first_lt (n k : Nat) (hk : nsize n = k) (h0 : 0 < k) : n / 2 ^ (8 * (k - 1)) < 64 := by
  rcases nsize_cases (n : Int) with ⟨_, h⟩ | ⟨_, h1, h⟩ | ⟨_, h1, h⟩ | ⟨_, h1, h⟩ | ⟨_, h1, h⟩ <;> rw [h] at hk <;> subst hk
  · omega
  all_goals simp only [show 8 * (1 - 1) = 0 from rfl, show 8 * (2 - 1) = 8 from rfl, show 8 * (4 - 1) = 24 from rfl, show 8 * (8 - 1) = 56 from rfl]; omega
theorem or_tag (n k : Nat) (hk : nsize n = k) (h : k = 2 ∨ k = 4 ∨ k = 8) : bits .or .u8 (((pb n k 0).toNat : Nat) : Int) ((tag k : Nat) : Int) = (((eb n k 0).toNat : Nat) : Int) := by
  have hf := first_lt n k hk (by omega)
  have hp : (pb n k 0).toNat = n / 2 ^ (8 * (k - 1)) := by
    unfold pb
    rw [UInt8.toNat_ofNat', Nat.sub_zero]
    exact Nat.mod_eq_of_lt (Nat.lt_of_lt_of_le hf (by decide))
  have ht : tag k < 256 := by unfold tag; rcases h with rfl | rfl | rfl <;> simp
  have htd : tag k % 64 = 0 := by unfold tag; rcases h with rfl | rfl | rfl <;> simp
  rw [u8_or_nat _ _ (by omega) ht, hp]
  have he : (eb n k 0).toNat = n / 2 ^ (8 * (k - 1)) + tag k := by
    unfold eb
    rw [if_pos rfl, UInt8.toNat_ofNat']
    have : tag k ≤ 192 := by unfold tag; rcases h with rfl | rfl | rfl <;> simp
    exact Nat.mod_eq_of_lt (show _ < 256 by omega)
  rw [he]
  congr 1
  rw [Nat.or_comm, nat_join 6 (tag k) (n / 2 ^ (8 * (k - 1))) (by simpa using htd) (by omega), Nat.add_comm]
theorem set_first (l : List UInt8) (n k : Nat) (hk : 0 < k) : (l ++ plain n k).set l.length (eb n k 0) = l ++ enc n k := by
  rw [List.set_append_right _ _ (Nat.le_refl _), Nat.sub_self, enc_of_plain n k hk]
  rfl
theorem get_first (l : List UInt8) (n k : Nat) (hk : 0 < k) : (l ++ plain n k).getD l.length 0 = pb n k 0 := by
  rw [List.getD_eq_getElem?_getD, List.getElem?_append_right (Nat.le_refl _), Nat.sub_self]
  unfold plain
  rw [List.getElem?_map, List.getElem?_range hk]
  rfl
theorem enc_same (n k : Nat) (hk : k = 0 ∨ k = 1) : enc n k = plain n k := by
  rcases hk with rfl | rfl
  · rfl
  · simp [enc, plain, eb, pb, tag]
theorem and_int (n k i : Nat) (hn : n ≤ 4611686018427387903) : bits .and .i64 ((n : Int) / 2 ^ (8 * (k - 1 - i))) 255 = (((pb n k i).toNat : Nat) : Int) := by
  have hd : n / 2 ^ (8 * (k - 1 - i)) ≤ n := Nat.div_le_self _ _
  have e : ((n : Int) / 2 ^ (8 * (k - 1 - i))) = ((n / 2 ^ (8 * (k - 1 - i)) : Nat) : Int) := by simp
  have h255 : ((255 : Nat) : Int) = 255 := rfl
  unfold pb
  rw [e, UInt8.toNat_ofNat']
  generalize n / 2 ^ (8 * (k - 1 - i)) = q at *
  show IntKind.i64.wrap ((BitVec.ofInt 64 (q : Int) &&& BitVec.ofInt 64 ((255 : Nat) : Int)).toNat : Int) = _
  rw [BitVec.toNat_and, BitVec.ofInt_natCast, BitVec.ofInt_natCast, BitVec.toNat_ofNat, BitVec.toNat_ofNat, Nat.mod_eq_of_lt (show q < 2 ^ 64 by omega), show 255 % 2 ^ 64 = 255 from rfl, nat_mask8, IntKind.wrap_i64]
  omega
theorem pb_first (n k : Nat) (hk : nsize n = k) (h0 : 0 < k) : (pb n k 0).toNat < 64 ∧ (eb n k 0).toNat = (pb n k 0).toNat + tag k := by
  have hf := first_lt n k hk h0
  have hp : (pb n k 0).toNat = n / 2 ^ (8 * (k - 1)) := by
    unfold pb
    rw [UInt8.toNat_ofNat', Nat.sub_zero]
    exact Nat.mod_eq_of_lt (Nat.lt_of_lt_of_le hf (by decide))
  rw [hp]
  refine ⟨hf, ?_⟩
  unfold eb
  rw [if_pos rfl, UInt8.toNat_ofNat']
  have : tag k ≤ 192 := by unfold tag; split <;> (try split) <;> (try split) <;> omega
  exact Nat.mod_eq_of_lt (show _ < 256 by omega)
theorem eb_later (n k j : Nat) (h : ¬ j = 0) : eb n k j = pb n k j := by unfold eb; rw [if_neg h]
theorem or_int (n : Nat) (y : UInt8) (hn : n ≤ 18014398509481983) : bits .or .i64 ((n : Int) * 256) (y.toNat : Int) = ((256 * n + y.toNat : Nat) : Int) := by
  have hy := y.toNat_lt
  have e : (n : Int) * 256 = ((256 * n : Nat) : Int) := by omega
  rw [e]
  show IntKind.i64.wrap ((BitVec.ofInt 64 ((256 * n : Nat) : Int) ||| BitVec.ofInt 64 ((y.toNat : Nat) : Int)).toNat : Int) = _
  rw [BitVec.toNat_or, BitVec.ofInt_natCast, BitVec.ofInt_natCast, BitVec.toNat_ofNat, BitVec.toNat_ofNat, Nat.mod_eq_of_lt (show 256 * n < 2 ^ 64 by omega), Nat.mod_eq_of_lt (show y.toNat < 2 ^ 64 by omega),
    nat_join 8 (256 * n) y.toNat (by omega) (by omega), IntKind.wrap_i64]
  omega
theorem nval_le (x : UInt8) (r : List UInt8) (j : Nat) (hj : j ≤ r.length) (h6 : j ≤ 6) : nval (x.toNat % 64) (r.take j) ≤ 18014398509481983 := by
  have h := nval_bound x (r.take j) j (by simp; omega)
  have h2 : 256 ^ j ≤ 256 ^ 6 := Nat.pow_le_pow_right (by decide) h6
  have h3 : 256 ^ 6 = 281474976710656 := by decide
  omega
theorem nval_top (x : UInt8) (r : List UInt8) (j : Nat) (hj : j ≤ r.length) (h7 : j ≤ 7) : nval (x.toNat % 64) (r.take j) ≤ 4611686018427387903 := by
  have h := nval_bound x (r.take j) j (by simp; omega)
  have h2 : 256 ^ j ≤ 256 ^ 7 := Nat.pow_le_pow_right (by decide) h7
  have h3 : 256 ^ 7 = 72057594037927936 := by decide
  omega
theorem nget_nil : nget [] = (0, 0, 10) := rfl
theorem nget_cut (x : UInt8) (r : List UInt8) (h : r.length + 1 < nlen x) : nget (x :: r) = (0, 0, 10) := by simp [nget, h]
theorem nget_form (x : UInt8) (r : List UInt8) (h : ¬ r.length + 1 < nlen x) (hs : nsize (nval (x.toNat % 64) (r.take (nlen x - 1)) : Nat) < nlen x) : nget (x :: r) = (0, 0, 11) := by
  have : ¬ nsize (nval (x.toNat % 64) (r.take (nlen x - 1)) : Nat) = nlen x := by omega
  simp only [nget]
  rw [if_neg h, if_neg this]
theorem nget_ok (x : UInt8) (r : List UInt8) (h : ¬ r.length + 1 < nlen x) (hs : ¬ nsize (nval (x.toNat % 64) (r.take (nlen x - 1)) : Nat) < nlen x) : nget (x :: r) = (nval (x.toNat % 64) (r.take (nlen x - 1)), nlen x, 0) := by
  have : nsize (nval (x.toNat % 64) (r.take (nlen x - 1)) : Nat) = nlen x := by
    have := nsize_le_nlen x (r.take (nlen x - 1)) (by simp; omega)
    omega
  simp only [nget]
  rw [if_neg h, if_pos this]
theorem and63_int (x : UInt8) : bits .and .u8 (x.toNat : Int) 63 = ((x.toNat % 64 : Nat) : Int) := by
  have hx := x.toNat_lt
  rw [show (63 : Int) = ((63 : Nat) : Int) from rfl, u8_and_nat _ _ (by omega) (by omega), nat_mask6]
end Num
end Go.Proofs.Ytocdifjdeifclaa
