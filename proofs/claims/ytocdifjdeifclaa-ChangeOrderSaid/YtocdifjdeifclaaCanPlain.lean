/-
  Layer 12: writes in order, in plain Lean: the last write of each place, sorted, is what the document's own way gives.
-/
import Derived.Test.YtocdifjdeifclaaSrt11
namespace Go.Proofs.Ytocdifjdeifclaa
open Go
set_option linter.unusedVariables false
set_option linter.unusedSimpArgs false

/-- Of one place. -/
def samePl (a b : Wr) : Bool := a.key == b.key && decide (a.group = b.group)
theorem samePl_iff {a b : Wr} : samePl a b = true ↔ a.key = b.key ∧ a.group = b.group := by simp [samePl]
theorem samePl_symm {a b : Wr} (h : samePl a b = true) : samePl b a = true := by rw [samePl_iff] at *; exact ⟨h.1.symm, h.2.symm⟩
theorem apart_iff {a b : Wr} : (wahead a b || wahead b a) = !samePl a b := by
  cases h : samePl a b with
  | true =>
    obtain ⟨h1, h2⟩ := samePl_iff.1 h
    have e1 : wahead a b = false := by unfold wahead; rw [h1, h2]; simp [bytesLess_irrefl]
    have e2 : wahead b a = false := by unfold wahead; rw [h1, h2]; simp [bytesLess_irrefl]
    simp [e1, e2]
  | false =>
    cases h1 : wahead a b with
    | true => simp
    | false =>
      rcases wah_total h1 with h2 | h2
      · simp [h2]
      · rw [samePl_iff.2 h2] at h; exact absurd h (by simp)
/-- The last write of each place. -/
def keepLast : List Wr → List Wr
  | [] => []
  | x :: r => if r.any (samePl x) then keepLast r else x :: keepLast r
theorem keepLast_snoc (x : Wr) : ∀ ws : List Wr, keepLast (ws ++ [x]) = (keepLast ws).filter (fun y => !samePl y x) ++ [x]
  | [] => by simp [keepLast]
  | a :: r => by
    have ih := keepLast_snoc x r
    simp only [List.cons_append, keepLast, List.any_append, List.any_cons, List.any_nil, Bool.or_false]
    cases h1 : r.any (samePl a) with
    | true => simp [ih]
    | false => cases h2 : samePl a x <;> simp [ih, h2]
theorem keepLast_sub : ∀ ws : List Wr, ∀ z ∈ keepLast ws, z ∈ ws
  | [], z, h => h
  | a :: r, z, h => by
    unfold keepLast at h
    split at h
    · exact List.mem_cons_of_mem _ (keepLast_sub r z h)
    · rcases List.mem_cons.1 h with rfl | h
      · exact List.mem_cons_self
      · exact List.mem_cons_of_mem _ (keepLast_sub r z h)
theorem keepLast_apart : ∀ ws : List Wr, (keepLast ws).Pairwise fun a b => samePl a b = false
  | [] => List.Pairwise.nil
  | a :: r => by
    unfold keepLast
    split
    · exact keepLast_apart r
    · rename_i h
      refine List.Pairwise.cons (fun b hb => ?_) (keepLast_apart r)
      have := keepLast_sub r b hb
      simp only [List.any_eq_true, not_exists, not_and] at h
      simpa using h b this
/-- The document's way: one write into an ordered list. -/
def rinsG (x : Wr) : Bool → List Wr → List Wr
  | dn, [] => if dn then [] else [x]
  | dn, y :: r => (if !dn && !wahead y x then [x] else []) ++ ((if wahead y x || wahead x y then [y] else []) ++ rinsG x (dn || !wahead y x) r)
def rcanonF (ws : List Wr) : List Wr := ws.foldl (fun out x => rinsG x false out) []
theorem rinsG_mem (x z : Wr) : ∀ (out : List Wr) (dn : Bool), z ∈ rinsG x dn out ↔ (dn = false ∧ z = x) ∨ (z ∈ out ∧ samePl z x = false)
  | [], dn => by cases dn <;> simp [rinsG]
  | y :: r, dn => by
    have ih := rinsG_mem x z r (dn || !wahead y x)
    have hA : z ∈ (if (!dn && !wahead y x) = true then [x] else []) ↔ (dn = false ∧ wahead y x = false ∧ z = x) := by cases dn <;> cases wahead y x <;> simp
    have hB : z ∈ (if (!samePl y x) = true then [y] else []) ↔ (z = y ∧ samePl y x = false) := by cases samePl y x <;> simp
    have hC : (dn || !wahead y x) = false ↔ (dn = false ∧ wahead y x = true) := by cases dn <;> cases wahead y x <;> simp
    rw [rinsG, apart_iff, List.mem_append, List.mem_append, hA, hB, ih, hC, List.mem_cons]
    constructor
    · rintro (⟨a, b, c⟩ | ⟨a, b⟩ | ⟨⟨a, b⟩, c⟩ | ⟨a, b⟩)
      · exact .inl ⟨a, c⟩
      · exact .inr ⟨.inl a, a ▸ b⟩
      · exact .inl ⟨a, c⟩
      · exact .inr ⟨.inr a, b⟩
    · rintro (⟨a, b⟩ | ⟨a | a, b⟩)
      · cases h : wahead y x with
        | true => exact .inr (.inr (.inl ⟨⟨a, rfl⟩, b⟩))
        | false => exact .inl ⟨a, rfl, b⟩
      · exact .inr (.inl ⟨a, a ▸ b⟩)
      · exact .inr (.inr (.inr ⟨a, b⟩))
theorem rinsG_true (x : Wr) : ∀ out : List Wr, (rinsG x true out).Sublist out
  | [] => by simp [rinsG]
  | y :: r => by
    have ih := rinsG_true x r
    have e : rinsG x true (y :: r) = (if (wahead y x || wahead x y) = true then [y] else []) ++ rinsG x true r := by rw [rinsG]; simp
    rw [e]
    split
    · exact ih.cons_cons y
    · exact ih.cons y
theorem rinsG_sorted (x : Wr) : ∀ out : List Wr, out.Pairwise (fun a b => wahead a b = true) → (rinsG x false out).Pairwise fun a b => wahead a b = true
  | [], _ => by simp [rinsG]
  | y :: r, h => by
    obtain ⟨h1, h2⟩ := List.pairwise_cons.1 h
    have ih := rinsG_sorted x r h2
    cases hy : wahead y x with
    | true =>
      have e : rinsG x false (y :: r) = y :: rinsG x false r := by simp [rinsG, hy]
      rw [e]
      refine List.Pairwise.cons (fun z hz => ?_) ih
      rcases (rinsG_mem x z r false).1 hz with ⟨_, rfl⟩ | ⟨hz, _⟩
      · exact hy
      · exact h1 z hz
    | false =>
      have e : rinsG x false (y :: r) = x :: rinsG x true (y :: r) := by simp [rinsG, hy]
      rw [e]
      refine List.Pairwise.cons (fun z hz => ?_) (List.Pairwise.sublist (rinsG_true x (y :: r)) h)
      rcases (rinsG_mem x z (y :: r) true).1 hz with ⟨h0, _⟩ | ⟨hz, hs⟩
      · exact absurd h0 (by simp)
      · have ha := apart_iff (a := z) (b := x)
        rw [hs] at ha
        cases h3 : wahead z x with
        | false => simpa [h3] using ha
        | true =>
          rcases List.mem_cons.1 hz with rfl | hz
          · rw [hy] at h3; exact absurd h3 (by simp)
          · have := wah_trans (h1 z hz) h3
            rw [hy] at this; exact absurd this (by simp)
theorem snocInd {P : List Wr → Prop} (h0 : P []) (h1 : ∀ r x, P r → P (r ++ [x])) (l : List Wr) : P l := by
  have h : ∀ l : List Wr, P l.reverse := fun l => by
    induction l with
    | nil => exact h0
    | cons a r ih => rw [List.reverse_cons]; exact h1 _ _ ih
  have := h l.reverse
  rwa [List.reverse_reverse] at this
theorem rcanonF_snoc (ws : List Wr) (x : Wr) : rcanonF (ws ++ [x]) = rinsG x false (rcanonF ws) := by unfold rcanonF; rw [List.foldl_append]; rfl
theorem rcanonF_sorted (ws : List Wr) : (rcanonF ws).Pairwise fun a b => wahead a b = true := by
  induction ws using snocInd with
  | h0 => exact List.Pairwise.nil
  | h1 r x ih => rw [rcanonF_snoc]; exact rinsG_sorted x _ ih
theorem rcanonF_mem (ws : List Wr) (z : Wr) : z ∈ rcanonF ws ↔ z ∈ keepLast ws := by
  induction ws using snocInd with
  | h0 => simp [rcanonF, keepLast]
  | h1 r x ih =>
    rw [rcanonF_snoc, rinsG_mem, keepLast_snoc, ih]
    simp [or_comm, and_comm]
theorem strict_nodup {l : List Wr} (h : l.Pairwise fun a b => wahead a b = true) : l.Nodup :=
  List.Pairwise.imp (fun {a b} hab e => by subst e; rw [wah_irrefl] at hab; exact absurd hab (by simp)) h
/-- A sorted row of the last writes is what the document gives. -/
theorem canon_is {l ws : List Wr} (hp : l.Perm (keepLast ws)) (hs : l.Pairwise fun a b => wahead b a = false) : l = rcanonF ws := by
  have ha : l.Pairwise fun a b => samePl a b = false :=
    (hp.pairwise_iff (fun {a b} h => by cases h2 : samePl b a with | false => rfl | true => rw [samePl_symm h2] at h; exact h)).2 (keepLast_apart ws)
  have hst : l.Pairwise fun a b => wahead a b = true := (List.Pairwise.and hs ha).imp fun {a b} h => by
    have := apart_iff (a := a) (b := b)
    rw [h.1, h.2] at this
    simpa using this
  have hperm : l.Perm (rcanonF ws) := (List.perm_ext_iff_of_nodup (strict_nodup hst) (strict_nodup (rcanonF_sorted ws))).2 fun z => by rw [rcanonF_mem]; exact hp.mem_iff
  refine hperm.eq_of_pairwise (le := fun a b => wahead a b = true) (fun a b _ _ h1 h2 => ?_) hst (rcanonF_sorted ws)
  have := wah_trans h1 h2
  rw [wah_irrefl] at this
  exact absurd this (by simp)
/-- Put in order again they stay. -/
theorem keepLast_sorted {l : List Wr} (h : l.Pairwise fun a b => wahead a b = true) : keepLast l = l := by
  induction l with
  | nil => rfl
  | cons a r ih =>
    obtain ⟨h1, h2⟩ := List.pairwise_cons.1 h
    unfold keepLast
    rw [if_neg, ih h2]
    simp only [List.any_eq_true, not_exists, not_and]
    intro b hb hs
    have := apart_iff (a := a) (b := b)
    rw [h1 b hb, hs] at this
    simp at this
theorem rcanon_again (ws : List Wr) : rcanonF (rcanonF ws) = rcanonF ws := by
  refine (canon_is ?_ ?_).symm
  · rw [keepLast_sorted (rcanonF_sorted ws)]
  · exact (rcanonF_sorted ws).imp fun {a b} h => by
      cases h2 : wahead b a with
      | false => rfl
      | true => have := wah_trans h h2; rw [wah_irrefl] at this; exact this.symm
end Go.Proofs.Ytocdifjdeifclaa
