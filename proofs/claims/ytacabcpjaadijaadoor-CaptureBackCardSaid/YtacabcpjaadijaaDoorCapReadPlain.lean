/-
  Layer 19 in plain Lean: what notes are read as.
-/
import Derived.Test.YtacabcpjaadijaaDoorCapName
import Derived.Test.YtacabcpjaadijaaDoorChGet
namespace Go.Proofs.YtacabcpjaadijaaDoor
open Go Go.RowKit Mono Num
set_option linter.unusedVariables false
set_option linter.unusedSimpArgs false

/-- Is a note read as a change of the site? -/
def noteOk (gs : List Grp) (site : Int) (x : List UInt8 × List UInt8) : Bool :=
  (cgetP gs x.2).2.2 == 0 && (cgetP gs x.2).2.1 == x.2.length && (cgetP gs x.2).1.site == site && pname (cgetP gs x.2).1.seq == x.1
/-- The changes of notes, one behind the other; none: they are not read. -/
def creadF (gs : List Grp) (site : Int) : Option Int → List (List UInt8 × List UInt8) → Option (List Ch)
  | _, [] => some []
  | p, x :: r => if noteOk gs site x = true ∧ (∀ q, p = some q → q + 1 = (cgetP gs x.2).1.seq) then (creadF gs site (some (cgetP gs x.2).1.seq) r).map ((cgetP gs x.2).1 :: ·) else none
/-- What Read answers: the changes and the error. -/
def cread (gs : List Grp) (site : Int) (l : List (List UInt8 × List UInt8)) : List Ch × Nat :=
  if pgood gs ≠ 0 then ([], pgood gs) else match creadF gs site none l with
    | none => ([], 120)
    | some cs => (cs, 0)
def prevSeq (os : List Ch) : Option Int := os.getLast?.map (·.seq)
theorem prevSeq_snoc (os : List Ch) (c : Ch) : prevSeq (os ++ [c]) = some c.seq := by unfold prevSeq; simp
/-- How far the reading is: so many notes, read as these. -/
structure CR (gs : List Grp) (site : Int) (l : List (List UInt8 × List UInt8)) (k : Nat) (os : List Ch) : Prop where
  le : k ≤ l.length
  len : os.length = k
  all : creadF gs site none l = (creadF gs site (prevSeq os) (l.drop k)).map (os ++ ·)
theorem CR.start (gs : List Grp) (site : Int) (l : List (List UInt8 × List UInt8)) : CR gs site l 0 [] :=
  ⟨Nat.zero_le _, rfl, by rw [List.drop_zero]; show _ = (creadF gs site none l).map _; cases creadF gs site none l <;> simp⟩
theorem CR.cons {gs : List Grp} {site : Int} {l : List (List UInt8 × List UInt8)} {k : Nat} {os : List Ch} {x : List UInt8 × List UInt8} (h : CR gs site l k os) (hx : l[k]? = some x) :
    creadF gs site none l = (if noteOk gs site x = true ∧ (∀ q, prevSeq os = some q → q + 1 = (cgetP gs x.2).1.seq) then (creadF gs site (some (cgetP gs x.2).1.seq) (l.drop (k + 1))).map ((cgetP gs x.2).1 :: ·) else none).map (os ++ ·) := by
  rw [h.all]
  have hk := (List.getElem?_eq_some_iff.1 hx).1
  have h1 : l.drop k = x :: l.drop (k + 1) := by
    rw [List.drop_eq_getElem_cons hk]
    congr 1
    exact (List.getElem?_eq_some_iff.1 hx).2
  rw [h1]
  rfl
theorem CR.next {gs : List Grp} {site : Int} {l : List (List UInt8 × List UInt8)} {k : Nat} {os : List Ch} {x : List UInt8 × List UInt8} (h : CR gs site l k os) (hx : l[k]? = some x) (hok : noteOk gs site x = true)
    (hq : ∀ q, prevSeq os = some q → q + 1 = (cgetP gs x.2).1.seq) : CR gs site l (k + 1) (os ++ [(cgetP gs x.2).1]) := by
  have hk := (List.getElem?_eq_some_iff.1 hx).1
  refine ⟨hk, by rw [List.length_append, h.len]; rfl, ?_⟩
  rw [h.cons hx, if_pos ⟨hok, hq⟩, prevSeq_snoc]
  cases creadF gs site (some (cgetP gs x.2).1.seq) (l.drop (k + 1)) <;> simp
theorem CR.bad1 {gs : List Grp} {site : Int} {l : List (List UInt8 × List UInt8)} {k : Nat} {os : List Ch} {x : List UInt8 × List UInt8} (h : CR gs site l k os) (hx : l[k]? = some x) (hok : noteOk gs site x = false) (hp : pgood gs = 0) : cread gs site l = ([], 120) := by
  have : creadF gs site none l = none := by rw [h.cons hx, if_neg (by rw [hok]; simp)]; rfl
  unfold cread
  rw [if_neg (by omega), this]
theorem CR.bad2 {gs : List Grp} {site : Int} {l : List (List UInt8 × List UInt8)} {k : Nat} {os : List Ch} {x : List UInt8 × List UInt8} (h : CR gs site l k os) (hx : l[k]? = some x) {q : Int} (hq : prevSeq os = some q) (hne : q + 1 ≠ (cgetP gs x.2).1.seq) (hp : pgood gs = 0) : cread gs site l = ([], 120) := by
  have : creadF gs site none l = none := by rw [h.cons hx, if_neg (by intro h; exact hne (h.2 q hq))]; rfl
  unfold cread
  rw [if_neg (by omega), this]
theorem CR.fin {gs : List Grp} {site : Int} {l : List (List UInt8 × List UInt8)} {k : Nat} {os : List Ch} (h : CR gs site l k os) (hk : ¬ k < l.length) (hp : pgood gs = 0) : cread gs site l = (os, 0) := by
  have h1 : l.drop k = [] := List.drop_eq_nil_of_le (by omega)
  have : creadF gs site none l = some os := by
    rw [h.all, h1]
    show (some []).map (os ++ ·) = some os
    simp
  unfold cread
  rw [if_neg (by omega), this]
theorem cread_no {gs : List Grp} {site : Int} {l : List (List UInt8 × List UInt8)} (h : pgood gs ≠ 0) : cread gs site l = ([], pgood gs) := by unfold cread; rw [if_pos h]
theorem prev_last {α : Type} {outs : List (Ch × α)} {k : Nat} {x : Ch × α} (hk : outs.length = k + 1) (h : outs[k]? = some x) : prevSeq (outs.map (·.1)) = some x.1.seq := by
  unfold prevSeq
  rw [List.getLast?_eq_getElem?]
  simp [hk]
  rw [List.getElem?_eq_some_iff.1 h |>.2]
theorem cget_good {gs : List Grp} {b : List UInt8} (h : (cgetP gs b).2.2 = 0) : cgood gs (cgetP gs b).1 = 0 := by
  unfold cgetP at h ⊢
  split at h
  · exact absurd h (by assumption)
  · rename_i h1
    rw [if_neg h1]
    split at h
    · simp at h
    · rename_i h2
      rw [if_neg h2]
      simp only [Bool.or_eq_true, Bool.not_eq_true', beq_eq_false_iff_ne, ne_eq, not_or, Decidable.not_not] at h2
      exact h2.2
/-- A change's number may be, and its numbers fit. -/
def Ch.okS (c : Ch) : Prop := (1 ≤ c.seq ∧ c.seq ≤ 1099511627776) ∧ c.ints
theorem good_bounds {gs : List Grp} {c : Ch} (h : cgood gs c = 0) : c.okS := by
  obtain ⟨_, hh, _⟩ := cgood_parts h
  obtain ⟨h1, h2, h3, h4, h5⟩ := chead_spec hh
  have h4' := sgood_iff.1 h4
  unfold vgood at h5
  simp only [Bool.and_eq_true, decide_eq_true_eq] at h5
  unfold Ch.okS Ch.ints In64
  omega
theorem cget_seq (gs : List Grp) (b : List UInt8) : 0 ≤ (cgetP gs b).1.seq ∧ (cgetP gs b).1.seq ≤ 1099511627776 := by
  by_cases h : (cgetP gs b).2.2 = 0
  · have := (good_bounds (cget_good h)).1
    omega
  · unfold cgetP at h ⊢
    split
    · simp [Ch.nought]
    · split
      · simp [Ch.nought]
      · rename_i h1 h2
        rw [if_neg h1, if_neg h2] at h
        exact absurd rfl h
theorem noteOk_eq {gs : List Grp} {site : Int} {nm tx : List UInt8} {d : Ch} {n e : Nat} (h : cgetP gs tx = (d, n, e)) :
    noteOk gs site (nm, tx) = ((e == 0) && (n == tx.length) && (d.site == site) && (pname d.seq == nm)) := by unfold noteOk; dsimp only; rw [h]
theorem noteOk_get {gs : List Grp} {site : Int} {nm tx : List UInt8} (h : noteOk gs site (nm, tx) = true) : (cgetP gs tx).2.2 = 0 := by
  unfold noteOk at h
  simp only [Bool.and_eq_true, beq_iff_eq] at h
  exact h.1.1.1
end Go.Proofs.YtacabcpjaadijaaDoor
