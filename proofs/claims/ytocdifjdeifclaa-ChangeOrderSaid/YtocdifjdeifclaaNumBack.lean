/-
  Plain facts of layer 1: what is put is got, what is got is put; the order of numbers is that of their bytes.
-/
import Derived.Test.YtocdifjdeifclaaNumPlain
namespace Go.Proofs.Ytocdifjdeifclaa
namespace Num
set_option linter.unusedSimpArgs false
set_option linter.unusedVariables false

theorem toNat_ofNat_lt (n : Nat) (h : n < 256) : (UInt8.ofNat n).toNat = n := by rw [UInt8.toNat_ofNat']; exact Nat.mod_eq_of_lt h
theorem enc_cons (n k : Nat) (hk : 0 < k) : enc n k = eb n k 0 :: (List.range (k - 1)).map (fun i => pb n k (i + 1)) := by
  obtain ⟨j, rfl⟩ : ∃ j, k = j + 1 := ⟨k - 1, by omega⟩
  unfold enc
  rw [List.range_succ_eq_map, List.map_cons, List.map_map]
  rfl
theorem eb_first (n k : Nat) (hk : nsize n = k) (h0 : 0 < k) : (eb n k 0).toNat / 64 = tag k / 64 ∧ (eb n k 0).toNat % 64 = n / 2 ^ (8 * (k - 1)) := by
  have hf := first_lt n k hk h0
  have h := pb_first n k hk h0
  have hp : (pb n k 0).toNat = n / 2 ^ (8 * (k - 1)) := by
    unfold pb
    rw [UInt8.toNat_ofNat', Nat.sub_zero]
    exact Nat.mod_eq_of_lt (Nat.lt_of_lt_of_le hf (by decide))
  rw [h.2, hp]
  have ht : tag k % 64 = 0 := by unfold tag; split <;> (try split) <;> (try split) <;> omega
  generalize n / 2 ^ (8 * (k - 1)) = q at *
  omega
theorem pb_toNat (n k i : Nat) : (pb n k i).toNat = n / 2 ^ (8 * (k - 1 - i)) % 256 := by unfold pb; rw [UInt8.toNat_ofNat']
theorem nval_rest (n k : Nat) (hk : nsize n = k) (h0 : 0 < k) : nval (n / 2 ^ (8 * (k - 1))) ((List.range (k - 1)).map (fun i => pb n k (i + 1))) = n := by
  have hc : k = 1 ∨ k = 2 ∨ k = 4 ∨ k = 8 := by rcases nsize_cases (n : Int) with h | h | h | h | h <;> omega
  rcases hc with rfl | rfl | rfl | rfl
  · simp [nval]
  · simp only [show List.range (2 - 1) = [0] from rfl, List.map_cons, List.map_nil, nval, List.foldl_cons, List.foldl_nil, pb_toNat, Nat.reduceMul, Nat.reduceSub, Nat.reduceAdd, Nat.reducePow]; omega
  · simp only [show List.range (4 - 1) = [0, 1, 2] from rfl, List.map_cons, List.map_nil, nval, List.foldl_cons, List.foldl_nil, pb_toNat, Nat.reduceMul, Nat.reduceSub, Nat.reduceAdd, Nat.reducePow]; omega
  · simp only [show List.range (8 - 1) = [0, 1, 2, 3, 4, 5, 6] from rfl, List.map_cons, List.map_nil, nval, List.foldl_cons, List.foldl_nil, pb_toNat, Nat.reduceMul, Nat.reduceSub, Nat.reduceAdd, Nat.reducePow]; omega

theorem nlen_first (n k : Nat) (hk : nsize n = k) (h0 : 0 < k) : nlen (eb n k 0) = k := by
  have h := (eb_first n k hk h0).1
  have hc : k = 1 ∨ k = 2 ∨ k = 4 ∨ k = 8 := by rcases nsize_cases (n : Int) with h | h | h | h | h <;> omega
  unfold nlen
  rw [h]
  rcases hc with rfl | rfl | rfl | rfl <;> rfl

theorem nget_nput (n : Nat) (tail : List UInt8) (hn : n ≤ 4611686018427387903) : nget (nput n ++ tail) = (n, nsize n, 0) := by
  obtain ⟨k, hk⟩ : ∃ k, nsize (n : Int) = k := ⟨_, rfl⟩
  have h0 : 0 < k := by rcases nsize_cases (n : Int) with h | h | h | h | h <;> omega
  have hnp : nput (n : Int) = enc n k := by unfold nput; rw [hk]; rfl
  rw [hnp, hk, enc_cons n k h0, List.cons_append]
  have hlen : ((List.range (k - 1)).map (fun i => pb n k (i + 1))).length = k - 1 := by simp
  have ht : (((List.range (k - 1)).map (fun i => pb n k (i + 1))) ++ tail).take (nlen (eb n k 0) - 1) = (List.range (k - 1)).map (fun i => pb n k (i + 1)) := by
    rw [nlen_first n k hk h0, List.take_append_of_le_length (by omega), List.take_of_length_le (by omega)]
  have hv := nval_rest n k hk h0
  have hx := (eb_first n k hk h0).2
  have hcut : ¬ (((List.range (k - 1)).map (fun i => pb n k (i + 1))) ++ tail).length + 1 < nlen (eb n k 0) := by
    rw [nlen_first n k hk h0, List.length_append, hlen]; omega
  have hs : ¬ nsize ((nval ((eb n k 0).toNat % 64) ((((List.range (k - 1)).map (fun i => pb n k (i + 1))) ++ tail).take (nlen (eb n k 0) - 1)) : Nat) : Int) < nlen (eb n k 0) := by
    rw [ht, hx, hv, nlen_first n k hk h0, hk]; omega
  rw [nget_ok _ _ hcut hs, ht, hx, hv, nlen_first n k hk h0]

/-! ### The order -/
theorem nval_lt_of (a : List UInt8) : ∀ (b : List UInt8) (m m' : Nat), m < m' → a.length = b.length → nval m a < nval m' b := by
  induction a with
  | nil => intro b m m' h hl; cases b with
    | nil => exact h
    | cons y b => simp at hl
  | cons x a ih =>
    intro b m m' h hl
    cases b with
    | nil => simp at hl
    | cons y b =>
      have hx := x.toNat_lt
      have hy := y.toNat_lt
      exact ih b (256 * m + x.toNat) (256 * m' + y.toNat) (by omega) (by simpa using hl)
theorem nval_inj (a : List UInt8) : ∀ (b : List UInt8) (m : Nat), a.length = b.length → nval m a = nval m b → a = b := by
  induction a with
  | nil => intro b m hl _; cases b with
    | nil => rfl
    | cons y b => simp at hl
  | cons x a ih =>
    intro b m hl h
    cases b with
    | nil => simp at hl
    | cons y b =>
      have hl' : a.length = b.length := by simpa using hl
      have h' : nval (256 * m + x.toNat) a = nval (256 * m + y.toNat) b := h
      rcases Nat.lt_trichotomy x.toNat y.toNat with hxy | hxy | hxy
      · have := nval_lt_of a b (256 * m + x.toNat) (256 * m + y.toNat) (by omega) hl'
        omega
      · have hxy' : x = y := UInt8.toNat_inj.1 hxy
        subst hxy'
        rw [ih b _ hl' h']
      · have := nval_lt_of b a (256 * m + y.toNat) (256 * m + x.toNat) (by omega) hl'.symm
        omega
theorem bytesLess_nval (a : List UInt8) : ∀ (b : List UInt8) (m : Nat), a.length = b.length → Op.bytesLess a b = decide (nval m a < nval m b) := by
  induction a with
  | nil => intro b m hl; cases b with
    | nil => simp [Op.bytesLess, nval]
    | cons y b => simp at hl
  | cons x a ih =>
    intro b m hl
    cases b with
    | nil => simp at hl
    | cons y b =>
      have hl' : a.length = b.length := by simpa using hl
      have e1 : nval m (x :: a) = nval (256 * m + x.toNat) a := rfl
      have e2 : nval m (y :: b) = nval (256 * m + y.toNat) b := rfl
      rw [e1, e2]
      rcases Nat.lt_trichotomy x.toNat y.toNat with hxy | hxy | hxy
      · have := nval_lt_of a b (256 * m + x.toNat) (256 * m + y.toNat) (by omega) hl'
        have hxy2 : x < y := UInt8.lt_iff_toNat_lt.2 hxy
        simp [Op.bytesLess, hxy2, this]
      · have hxy' : x = y := UInt8.toNat_inj.1 hxy
        subst hxy'
        have := ih b (256 * m + x.toNat) hl'
        simp [Op.bytesLess, this]
      · have := nval_lt_of b a (256 * m + y.toNat) (256 * m + x.toNat) (by omega) hl'.symm
        have hxy2 : ¬ x < y := by rw [UInt8.lt_iff_toNat_lt]; omega
        have hxy3 : ¬ x = y := fun e => by subst e; omega
        have h3 : ¬ nval (256 * m + x.toNat) a < nval (256 * m + y.toNat) b := by omega
        simp [Op.bytesLess, hxy2, hxy3, h3]
theorem nval_both (a b : List UInt8) (m m' : Nat) (hl : a.length = b.length) (h : nval m a = nval m' b) : m = m' ∧ a = b := by
  rcases Nat.lt_trichotomy m m' with hm | hm | hm
  · have := nval_lt_of a b m m' hm hl; omega
  · subst hm; exact ⟨rfl, nval_inj a b m hl h⟩
  · have := nval_lt_of b a m' m hm hl.symm; omega

theorem nget_form_back (l : List UInt8) (n k : Nat) (h : nget l = (n, k, 0)) : 0 < k ∧ k ≤ l.length ∧ n ≤ 4611686018427387903 ∧ nput n = l.take k := by
  cases l with
  | nil => simp [nget] at h
  | cons x r =>
    by_cases hcut : r.length + 1 < nlen x
    · rw [nget_cut x r hcut] at h; simp at h
    by_cases hs : nsize (nval (x.toNat % 64) (r.take (nlen x - 1)) : Nat) < nlen x
    · rw [nget_form x r hcut hs] at h; simp at h
    rw [nget_ok x r hcut hs] at h
    simp only [Prod.mk.injEq, and_true] at h
    obtain ⟨hn, hk⟩ := h
    have hk0 : 0 < k := by rw [← hk]; rcases nlen_cases x with h | h | h | h <;> omega
    have hk8 : k ≤ 8 := by rw [← hk]; rcases nlen_cases x with h | h | h | h <;> omega
    have hsz : nsize (n : Int) = k := by
      have := nsize_le_nlen x (r.take (nlen x - 1)) (by simp; omega)
      rw [hn, hk] at this hs
      omega
    have hmax : n ≤ 4611686018427387903 := by rcases nsize_cases (n : Int) with h | h | h | h | h <;> omega
    refine ⟨hk0, by rw [List.length_cons]; omega, hmax, ?_⟩
    have hnp : nput (n : Int) = enc n k := by unfold nput; rw [hsz]; rfl
    rw [hnp, enc_cons n k hk0]
    have hv := nval_rest n k hsz hk0
    rw [hk] at hn
    have hb := nval_both ((List.range (k - 1)).map (fun i => pb n k (i + 1))) (r.take (k - 1)) _ _ (by simp; omega) (hv.trans hn.symm)
    have hx := eb_first n k hsz hk0
    have hlen := nlen_first n k hsz hk0
    have hxe : eb n k 0 = x := by
      apply UInt8.toNat_inj.1
      have h1 : (eb n k 0).toNat / 64 = x.toNat / 64 := by
        rcases nlen_cases x with ⟨h1, h2⟩ | ⟨h1, h2⟩ | ⟨h1, h2⟩ | ⟨h1, h2⟩ <;> rcases nlen_cases (eb n k 0) with ⟨h3, h4⟩ | ⟨h3, h4⟩ | ⟨h3, h4⟩ | ⟨h3, h4⟩ <;> omega
      have h2 : (eb n k 0).toNat % 64 = x.toNat % 64 := by rw [hx.2]; exact hb.1
      omega
    obtain ⟨j, rfl⟩ : ∃ j, k = j + 1 := ⟨k - 1, by omega⟩
    rw [hxe, List.take_succ_cons, hb.2]
    rfl

theorem nval_add (a b : Nat) : ∀ l : List UInt8, nval (a + b) l = nval a l + b * 256 ^ l.length
  | [] => by simp [nval]
  | x :: l => by
    have e1 : nval (a + b) (x :: l) = nval (256 * (a + b) + x.toNat) l := rfl
    have e2 : nval a (x :: l) = nval (256 * a + x.toNat) l := rfl
    rw [e1, e2, show 256 * (a + b) + x.toNat = (256 * a + x.toNat) + 256 * b by omega, nval_add (256 * a + x.toNat) (256 * b) l, List.length_cons, Nat.pow_succ, show b * (256 ^ l.length * 256) = 256 * b * 256 ^ l.length by rw [Nat.mul_comm (256 ^ l.length) 256, ← Nat.mul_assoc, Nat.mul_comm b 256]]
theorem nval_enc (n k : Nat) (hk : nsize n = k) (h0 : 0 < k) : nval 0 (enc n k) = n + tag k * 256 ^ (k - 1) := by
  have hx := (pb_first n k hk h0).2
  have hp : (pb n k 0).toNat = n / 2 ^ (8 * (k - 1)) := by
    have := first_lt n k hk h0
    unfold pb
    rw [UInt8.toNat_ofNat', Nat.sub_zero]
    exact Nat.mod_eq_of_lt (Nat.lt_of_lt_of_le this (by decide))
  rw [enc_cons n k h0]
  have e : nval 0 (eb n k 0 :: (List.range (k - 1)).map (fun i => pb n k (i + 1))) = nval ((eb n k 0).toNat) ((List.range (k - 1)).map (fun i => pb n k (i + 1))) := by
    show nval (256 * 0 + (eb n k 0).toNat) _ = _
    rw [Nat.mul_zero, Nat.zero_add]
  rw [e, hx, hp, nval_add, nval_rest n k hk h0]
  simp

theorem nput_enc (n : Nat) : nput (n : Int) = enc n (nsize n) := by unfold nput; rfl
theorem nsize_pos (n : Nat) (h : n ≤ 4611686018427387903) : 0 < nsize n := by rcases nsize_cases (n : Int) with h | h | h | h | h <;> omega
theorem nput_less (m n : Nat) (hm : m ≤ 4611686018427387903) (hn : n ≤ 4611686018427387903) (h : nsize m = nsize n) : Op.bytesLess (nput m) (nput n) = decide (m < n) := by
  rw [bytesLess_nval (nput m) (nput n) 0 (by rw [nput_length, nput_length, h]), nput_enc, nput_enc, nval_enc m _ rfl (nsize_pos m hm), nval_enc n _ rfl (nsize_pos n hn), h]
  congr 1
  rw [eq_iff_iff]
  omega
theorem nput_same (m n : Nat) (hm : m ≤ 4611686018427387903) (hn : n ≤ 4611686018427387903) (h : nsize m = nsize n) : (nput m == nput n) = decide (m = n) := by
  rw [Bool.eq_iff_iff, beq_iff_eq, decide_eq_true_eq]
  constructor
  · intro he
    have h1 := nval_enc m _ rfl (nsize_pos m hm)
    have h2 := nval_enc n _ rfl (nsize_pos n hn)
    rw [← nput_enc] at h1 h2
    rw [he, h2, h] at h1
    omega
  · intro he; rw [he]
theorem nput_apart (m n : Nat) (hm : m ≤ 4611686018427387903) (hn : n ≤ 4611686018427387903) (h : nsize m ≠ nsize n) (k : Nat) (hk : 0 < k) : (nput m).take k ≠ (nput n).take k := by
  intro he
  have h1 := nsize_pos m hm
  have h2 := nsize_pos n hn
  rw [nput_enc, nput_enc, enc_cons m _ h1, enc_cons n _ h2] at he
  obtain ⟨j, rfl⟩ : ∃ j, k = j + 1 := ⟨k - 1, by omega⟩
  rw [List.take_succ_cons, List.take_succ_cons] at he
  injection he with he _
  have e1 := nlen_first m _ rfl h1
  have e2 := nlen_first n _ rfl h2
  rw [he] at e1
  omega
end Num
end Go.Proofs.Ytocdifjdeifclaa
