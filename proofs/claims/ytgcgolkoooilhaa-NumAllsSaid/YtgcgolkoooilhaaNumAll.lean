/-
  Plain facts of layer 1: bytes as numbers, one behind the other.
-/
import Derived.Test.YtgcgolkoooilhaaNumBack
namespace Go.Proofs.Ytgcgolkoooilhaa
namespace Num
set_option linter.unusedSimpArgs false
set_option linter.unusedVariables false

/-- The numbers of which bytes are made, or the error of the first that is none. -/
def nallF : Nat → List UInt8 → List Int × Nat
  | 0, _ => ([], 0)
  | f + 1, l => match l with
    | [] => ([], 0)
    | x :: r => if (nget (x :: r)).2.2 = 0 then
        (if (nallF f ((x :: r).drop (nget (x :: r)).2.1)).2 = 0 then (((nget (x :: r)).1 : Int) :: (nallF f ((x :: r).drop (nget (x :: r)).2.1)).1, 0) else ([], (nallF f ((x :: r).drop (nget (x :: r)).2.1)).2))
        else ([], (nget (x :: r)).2.2)
def nall (l : List UInt8) : List Int × Nat := nallF l.length l
/-- what came ahead, and what follows. -/
def thenAll (acc : List Int) (p : List Int × Nat) : List Int × Nat := if p.2 = 0 then (acc ++ p.1, 0) else ([], p.2)

theorem nget_room (l : List UInt8) (h : (nget l).2.2 = 0) : 0 < (nget l).2.1 ∧ (nget l).2.1 ≤ l.length ∧ (nget l).1 ≤ 4611686018427387903 := by
  have := nget_form_back l (nget l).1 (nget l).2.1 (by rw [← h])
  exact ⟨this.1, this.2.1, this.2.2.1⟩
theorem nallF_nil (f : Nat) : nallF f [] = ([], 0) := by cases f <;> rfl
/-- enough fuel is enough. -/
theorem nallF_more : ∀ (f g : Nat) (l : List UInt8), l.length ≤ f → l.length ≤ g → nallF f l = nallF g l
  | 0, g, l, h, _ => by
    have : l = [] := List.eq_nil_of_length_eq_zero (by omega)
    subst this
    rw [nallF_nil, nallF_nil]
  | f + 1, 0, l, _, h => by
    have : l = [] := List.eq_nil_of_length_eq_zero (by omega)
    subst this
    rw [nallF_nil, nallF_nil]
  | f + 1, g + 1, [], _, _ => rfl
  | f + 1, g + 1, x :: r, h1, h2 => by
    simp only [nallF]
    by_cases he : (nget (x :: r)).2.2 = 0
    · rw [if_pos he, if_pos he]
      have hk := nget_room (x :: r) he
      have hd : ((x :: r).drop (nget (x :: r)).2.1).length ≤ r.length := by rw [List.length_drop, List.length_cons]; omega
      rw [nallF_more f g _ (by rw [List.length_cons] at h1; omega) (by rw [List.length_cons] at h2; omega)]
    · rw [if_neg he, if_neg he]
theorem nall_nil : nall [] = ([], 0) := rfl
theorem nall_bad (l : List UInt8) (h0 : 0 < l.length) (h : ¬ (nget l).2.2 = 0) : nall l = ([], (nget l).2.2) := by
  cases l with
  | nil => simp at h0
  | cons x r => unfold nall; simp only [List.length_cons, nallF]; rw [if_neg h]
theorem nall_step (l : List UInt8) (h0 : 0 < l.length) (h : (nget l).2.2 = 0) : nall l = thenAll [((nget l).1 : Int)] (nall (l.drop (nget l).2.1)) := by
  cases l with
  | nil => simp at h0
  | cons x r =>
    have hk := nget_room (x :: r) h
    have hd : ((x :: r).drop (nget (x :: r)).2.1).length ≤ r.length := by rw [List.length_drop, List.length_cons]; omega
    have hm := nallF_more r.length ((x :: r).drop (nget (x :: r)).2.1).length _ hd (Nat.le_refl _)
    unfold nall thenAll
    rw [← hm]
    simp only [List.length_cons, nallF]
    rw [if_pos h]
    rfl
theorem thenAll_nil (p : List Int × Nat) (hp : ¬ p.2 = 0 → p.1 = []) : thenAll [] p = p := by
  obtain ⟨a, b⟩ := p
  unfold thenAll
  by_cases hb : b = 0
  · subst hb; simp
  · obtain rfl : a = [] := hp hb
    rw [if_neg hb]
theorem thenAll_thenAll (a b : List Int) (p : List Int × Nat) : thenAll a (thenAll b p) = thenAll (a ++ b) p := by
  unfold thenAll
  by_cases h : p.2 = 0
  · rw [if_pos h, if_pos h]; simp
  · rw [if_neg h, if_neg h]; simp [h]
theorem nallF_clear : ∀ (f : Nat) (l : List UInt8), ¬ (nallF f l).2 = 0 → (nallF f l).1 = []
  | 0, _, h => rfl
  | f + 1, [], h => rfl
  | f + 1, x :: r, h => by
    simp only [nallF] at h ⊢
    by_cases he : (nget (x :: r)).2.2 = 0
    · rw [if_pos he] at h ⊢
      split
      · rename_i h2; rw [if_pos h2] at h; exact absurd rfl h
      · rfl
    · rw [if_neg he]
theorem nall_start (l : List UInt8) : thenAll [] (nall l) = nall l := thenAll_nil _ (nallF_clear _ _)
theorem nallF_in : ∀ (f : Nat) (l : List UInt8), ∀ n ∈ (nallF f l).1, 0 ≤ n ∧ n ≤ 4611686018427387903
  | 0, _ => by simp [nallF]
  | f + 1, [] => by simp [nallF]
  | f + 1, x :: r => by
    intro n hn
    simp only [nallF] at hn
    by_cases he : (nget (x :: r)).2.2 = 0
    · rw [if_pos he] at hn
      have hk := nget_room (x :: r) he
      split at hn
      · rcases List.mem_cons.1 hn with h | h
        · omega
        · exact nallF_in f _ n h
      · simp at hn
    · rw [if_neg he] at hn; simp at hn
end Num
end Go.Proofs.Ytgcgolkoooilhaa
