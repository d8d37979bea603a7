/-
  The texts of stamps, in plain words: decimal digits, then a letter.
-/
import Derived.Test.YtnjnbjcibdeihaaDoorStLives
import Derived.Test.YtnjnbjcibdeihaaDoorShelf
import Derived.Lib.AtoiTie
import Derived.Lib.ItoaNum
namespace Go.Proofs.YtnjnbjcibdeihaaDoor
open Go Go.RowKit Mono
open Go.Lib (decDigits decFrom decNat atoi atoiAll nDigits digitVal)
set_option linter.unusedVariables false
set_option linter.unusedSimpArgs false

theorem dig_nat (k : Nat) (h : k < 10) : (UInt8.ofNat (48 + k)).toNat = 48 + k := by rw [UInt8.toNat_ofNat']; omega
theorem decFrom_append (l m : List UInt8) : ∀ acc, decFrom acc (l ++ m) = (decFrom acc l).bind fun a => decFrom a m := by
  induction l with
  | nil => intro acc; rfl
  | cons c r ih =>
    intro acc
    simp only [List.cons_append, decFrom]
    cases digitVal c with
    | none => rfl
    | some d => exact ih _
theorem digitVal_dig (k : Nat) (h : k < 10) : digitVal (UInt8.ofNat (48 + k)) = some k := by
  unfold digitVal
  rw [dig_nat k h, if_pos (by omega)]
  congr 1
  omega
theorem decFrom_dec (n : Nat) : decFrom 0 (decDigits n) = some n := by
  induction n using Nat.strongRecOn with
  | _ n ih =>
    by_cases h : n < 10
    · rw [decDigits, dif_pos h]
      simp only [decFrom, digitVal_dig n h]
      congr 1
      omega
    · rw [decDigits, dif_neg h, decFrom_append, ih (n / 10) (by omega)]
      simp only [Option.bind_some, decFrom, digitVal_dig (n % 10) (by omega)]
      congr 1
      omega
theorem dec_ne (n : Nat) : decDigits n ≠ [] := by
  intro h
  by_cases hn : n < 10
  · rw [decDigits, dif_pos hn] at h; cases h
  · rw [decDigits, dif_neg hn] at h; simp at h
theorem dec_digit {n i : Nat} {c : UInt8} (h : (decDigits n)[i]? = some c) : 48 ≤ c.toNat ∧ c.toNat ≤ 57 := by
  obtain ⟨d, hd⟩ := Go.Lib.digit_of_decFrom _ 0 n (decFrom_dec n) i c h
  unfold digitVal at hd
  split at hd
  · assumption
  · cases hd
theorem nDigits_le : ∀ (k n : Nat), n < 10 ^ (k + 1) → nDigits n ≤ k + 1
  | 0, n, h => by rw [Go.Lib.nDigits_small (by simpa using h)]; omega
  | k + 1, n, h => by
    by_cases hn : n < 10
    · rw [Go.Lib.nDigits_small hn]; omega
    · rw [Go.Lib.nDigits_big hn]
      have := nDigits_le k (n / 10) (by rw [Nat.pow_succ] at h; omega)
      omega
theorem dec_len (n : Nat) (h : n ≤ 281474976710656) : (decDigits n).length ≤ 15 := by
  rw [Go.Lib.decDigits_length]
  exact nDigits_le 14 n (by omega)
theorem dec_pos (n : Nat) : 1 ≤ (decDigits n).length := by
  have := dec_ne n
  cases h : decDigits n with
  | nil => exact absurd h this
  | cons a b => simp
theorem atoi_dec (n : Nat) (h : n ≤ 281474976710656) : atoiAll (decDigits n) = .ok (n : Int) := by
  rw [Go.Lib.atoiAll_short _ (by have := dec_len n h; omega)]
  have hf := decFrom_dec n
  have hd : ∀ c r, decDigits n = c :: r → c ≠ 45 ∧ c ≠ 43 := by
    intro c r e
    have := dec_digit (n := n) (i := 0) (c := c) (by rw [e]; rfl)
    constructor <;> (rintro rfl; revert this; decide)
  cases e : decDigits n with
  | nil => exact absurd e (dec_ne n)
  | cons c r =>
    obtain ⟨h1, h2⟩ := hd c r e
    rw [e] at hf
    unfold atoi
    simp only [beq_iff_eq]
    rw [if_neg h1, if_neg h2]
    unfold decNat
    rw [if_neg (by simp), hf]
    rfl

/-- The letter of a site. -/
def letter (b : Int) : UInt8 := if b = 1 then 97 else 98
def stext (a b : Int) : List UInt8 := if sgood a b = true then (if a = 0 then [45] else decDigits a.toNat ++ [letter b]) else []
theorem stext_bad {a b : Int} (h : sgood a b = false) : stext a b = [] := by unfold stext; rw [if_neg (by simp [h])]
theorem stext_zero : stext 0 0 = [45] := by unfold stext; rw [if_pos (sgood_true (by omega)), if_pos rfl]
theorem stext_good {a b : Int} (h : 1 ≤ a ∧ a ≤ 281474976710656 ∧ (b = 1 ∨ b = 2)) : stext a b = decDigits a.toNat ++ [letter b] := by unfold stext; rw [if_pos (sgood_true (.inr h)), if_neg (by omega)]
theorem stext_len {a b : Int} (h : 1 ≤ a ∧ a ≤ 281474976710656 ∧ (b = 1 ∨ b = 2)) : 2 ≤ (stext a b).length ∧ (stext a b).length ≤ 16 := by
  rw [stext_good h, List.length_append]
  have h1 := dec_pos a.toNat
  have h2 := dec_len a.toNat (by omega)
  simp
  omega
theorem letter_inj {b b' : Int} (h : b = 1 ∨ b = 2) (h' : b' = 1 ∨ b' = 2) (e : letter b = letter b') : b = b' := by
  rcases h with rfl | rfl <;> rcases h' with rfl | rfl <;> first | rfl | (revert e; decide)
theorem stext_inj {a b a' b' : Int} (h : 1 ≤ a ∧ a ≤ 281474976710656 ∧ (b = 1 ∨ b = 2)) (h' : 1 ≤ a' ∧ a' ≤ 281474976710656 ∧ (b' = 1 ∨ b' = 2)) (e : stext a b = stext a' b') : a = a' ∧ b = b' := by
  rw [stext_good h, stext_good h'] at e
  obtain ⟨e1, e2⟩ := List.append_inj' e rfl
  have k1 := decFrom_dec a.toNat
  rw [e1, decFrom_dec] at k1
  injection k1 with k1
  injection e2 with e2 _
  exact ⟨by omega, letter_inj h.2.2 h'.2.2 e2⟩

/-- What reading a text tells. -/
def SRead (s : List UInt8) (r : (Int × Int) × Int) : Prop :=
  (s = [45] ∧ r = ((0, 0), 0)) ∨
  (s ≠ [45] ∧ ∃ a b, (1 ≤ a ∧ a ≤ 281474976710656 ∧ (b = 1 ∨ b = 2)) ∧ s = stext a b ∧ r = ((a, b), 0)) ∨
  (s ≠ [45] ∧ (∀ a b, (1 ≤ a ∧ a ≤ 281474976710656 ∧ (b = 1 ∨ b = 2)) → s ≠ stext a b) ∧ r = ((0, 0), 11))
theorem SRead.uniq {s : List UInt8} {r r' : (Int × Int) × Int} (h : SRead s r) (h' : SRead s r') : r = r' := by
  rcases h with ⟨h1, h2⟩ | ⟨h1, a, b, h2, h3, h4⟩ | ⟨h1, h2, h3⟩ <;> rcases h' with ⟨k1, k2⟩ | ⟨k1, a', b', k2, k3, k4⟩ | ⟨k1, k2, k3⟩
  · rw [h2, k2]
  · exact absurd h1 k1
  · exact absurd h1 k1
  · exact absurd k1 h1
  · obtain ⟨rfl, rfl⟩ := stext_inj h2 k2 (h3.symm.trans k3)
    rw [h4, k4]
  · exact absurd h3 (k2 _ _ h2)
  · exact absurd k1 h1
  · exact absurd k3 (h2 _ _ k2)
  · rw [h3, k3]
end Go.Proofs.YtnjnbjcibdeihaaDoor
