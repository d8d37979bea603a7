/-
  Layer 12: a sorted row of the last writes, as a list.
-/
import Derived.Test.YtocdifjdeifclaaCanPlain
import Derived.Test.YtocdifjdeifclaaSrt13
namespace Go.Proofs.Ytocdifjdeifclaa
open Go Go.Sort
set_option linter.unusedVariables false
set_option linter.unusedSimpArgs false

theorem canonRow {n : Nat} {d d' : Array Wr} {ws : List Wr} (hs : d.size = n) (hd : d.toList = keepLast ws) (hp : PermIn 0 n d d') (ho : SortedIn wahead 0 n d') : d'.toList = rcanonF ws := by
  obtain ⟨h1, _, h3⟩ := hp
  have h3' : d'.toList.Perm d.toList := by
    have e1 : d'.extract 0 n = d' := by rw [show n = d'.size by omega]; simp
    have e2 : d.extract 0 n = d := by rw [← hs]; simp
    rw [e1, e2] at h3
    exact h3
  refine canon_is (by rw [← hd]; exact h3') ?_
  rw [List.pairwise_iff_getElem]
  intro i j hi hj hij
  have hi' : i < d'.size := by simpa using hi
  have hj' : j < d'.size := by simpa using hj
  have := ho i j (Nat.zero_le _) hij (by omega)
  simpa [getElem!_pos d' i hi', getElem!_pos d' j hj'] using this
/-- One write or none is in order. -/
theorem canonTiny {ws : List Wr} (h : (keepLast ws).length ≤ 1) : keepLast ws = rcanonF ws := by
  refine canon_is (List.Perm.refl _) ?_
  match hk : keepLast ws with
  | [] => exact List.Pairwise.nil
  | [x] => exact List.pairwise_singleton _ _
  | _ :: _ :: _ => rw [hk] at h; simp at h
theorem strict_eq {l m : List Wr} (hl : l.Pairwise fun a b => wahead a b = true) (hm : m.Pairwise fun a b => wahead a b = true) (h : ∀ z, z ∈ l ↔ z ∈ m) : l = m := by
  have hperm : l.Perm m := (List.perm_ext_iff_of_nodup (strict_nodup hl) (strict_nodup hm)).2 h
  refine hperm.eq_of_pairwise (le := fun a b => wahead a b = true) (fun a b _ _ h1 h2 => ?_) hl hm
  have := wah_trans h1 h2
  rw [wah_irrefl] at this
  exact absurd this (by simp)
theorem samePl_comm (a b : Wr) : samePl a b = samePl b a := by
  cases h : samePl b a with
  | true => exact samePl_symm h
  | false =>
    cases h2 : samePl a b with
    | false => rfl
    | true => rw [samePl_symm h2] at h; exact h
/-- The order of two writes of unlike places plays no part. -/
theorem rcanon_swap (pre suf : List Wr) (a b : Wr) (hab : samePl a b = false) : rcanonF (pre ++ a :: b :: suf) = rcanonF (pre ++ b :: a :: suf) := by
  have hba : samePl b a = false := by rw [samePl_comm]; exact hab
  have key : rinsG b false (rinsG a false (rcanonF pre)) = rinsG a false (rinsG b false (rcanonF pre)) := by
    refine strict_eq (rinsG_sorted b _ (rinsG_sorted a _ (rcanonF_sorted pre))) (rinsG_sorted a _ (rinsG_sorted b _ (rcanonF_sorted pre))) fun z => ?_
    simp only [rinsG_mem, true_and]
    constructor
    · rintro (rfl | ⟨rfl | ⟨h1, h2⟩, h3⟩)
      · exact .inr ⟨.inl rfl, hba⟩
      · exact .inl rfl
      · exact .inr ⟨.inr ⟨h1, h3⟩, h2⟩
    · rintro (rfl | ⟨rfl | ⟨h1, h2⟩, h3⟩)
      · exact .inr ⟨.inl rfl, hab⟩
      · exact .inl rfl
      · exact .inr ⟨.inr ⟨h1, h3⟩, h2⟩
  unfold rcanonF at key ⊢
  simp only [List.foldl_append, List.foldl_cons]
  rw [key]
end Go.Proofs.Ytocdifjdeifclaa
