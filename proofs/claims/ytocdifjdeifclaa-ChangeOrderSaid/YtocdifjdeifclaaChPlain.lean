/-
  Layer 12 in plain Lean: writes, changes; which may be; a slice of writes.
-/
import Derived.Test.YtocdifjdeifclaaNumText
import Derived.Test.YtocdifjdeifclaaBlk
import Derived.Test.YtocdifjdeifclaaPolPlain
import Derived.Test.YtocdifjdeifclaaStPlain
import Derived.Test.YtocdifjdeifclaaVecEach
import Derived.Outline
namespace Go.Proofs.Ytocdifjdeifclaa
open Go Go.RowKit Mono Num
set_option linter.unusedVariables false

/-- A write. -/
structure Wr where
  key : List UInt8
  group : Int
  gone : Bool
  value : List UInt8
/-- What of a write is asked ahead of all: its words have lengths, its number fits. -/
def Wr.fits (x : Wr) : Prop := x.key.length ≤ maxLen ∧ In64 x.group ∧ x.value.length ≤ maxLen
def wrV (x : Wr) : Value := .agg #[strV x.key, .int .i64 x.group, .bool x.gone, strV x.value]
/-- Does a write stand ahead of another one? -/
def wahead (a b : Wr) : Bool := Op.bytesLess a.key b.key || (a.key == b.key && decide (a.group < b.group))
/-- May a write be, in a schema of so many groups? -/
def wok (n : Nat) (x : Wr) : Bool := !(x.key == []) && decide (x.key.length ≤ 32) && decide (0 ≤ x.group) && decide (x.group < (n : Int)) && decide (x.value.length ≤ 64) && !(x.gone && !(x.value == []))
def cgoodF (n : Nat) : Option Wr → List Wr → Bool
  | _, [] => true
  | p, x :: r => wok n x && (match p with | none => true | some y => wahead y x) && cgoodF n (some x) r
/-- A change. -/
structure Ch where
  site : Int
  seq : Int
  sn : Int
  ss : Int
  va : Int
  vb : Int
  writes : List Wr
def Ch.nought : Ch := ⟨0, 0, 0, 0, 0, 0, []⟩
def chead (c : Ch) : Bool := (c.site == 1 || c.site == 2) && decide (1 ≤ c.seq) && decide (c.seq ≤ 1099511627776) && (c.ss == c.site) && sgood c.sn c.ss && vgood c.va c.vb && ((if c.site = 1 then c.va else c.vb) == c.seq)
def cgood (l : List Grp) (c : Ch) : Nat :=
  if pgood l ≠ 0 then pgood l else if chead c = false then 120 else if c.writes.length < 1 ∨ 8 < c.writes.length then 120 else if cgoodF l.length none c.writes = true then 0 else 120
def chV (c : Ch) (v : Value) : Value := .agg #[.int .i64 c.site, .int .i64 c.seq, .int .i64 c.sn, .int .i64 c.ss, .int .i64 c.va, .int .i64 c.vb, v]
/-- The cells of a change. -/
def chC (c : Ch) (v : Value) : List Value := [.int .i64 c.site, .int .i64 c.seq, .int .i64 c.sn, .int .i64 c.ss, .int .i64 c.va, .int .i64 c.vb, v]
def Ch.fits (c : Ch) : Prop := In64 c.site ∧ In64 c.seq

/-- A slice of writes. -/
def Ws (w : World) (v : Value) (l : List Wr) : Prop :=
  (∃ A c, v = .slice A l.length c ∧ l.length ≤ c ∧ c ≤ maxLen ∧ (A = none → c = 0) ∧
    (0 < l.length → ∃ b off, A = some ⟨b, off, none⟩ ∧ b < w.heap.size ∧ ∀ i x, l[i]? = some x → w.cell? ⟨b, off + i * 4, none⟩ = some (strV x.key) ∧ w.cell? ⟨b, off + i * 4 + 1, none⟩ = some (.int .i64 x.group) ∧
      w.cell? ⟨b, off + i * 4 + 2, none⟩ = some (.bool x.gone) ∧ w.cell? ⟨b, off + i * 4 + 3, none⟩ = some (strV x.value))) ∧
  ∀ x ∈ l, x.fits
theorem Ws.ext {w w' : World} {v : Value} {xs : List Wr} (h : Ws w v xs) (he : Ext w w') : Ws w' v xs := by
  obtain ⟨⟨A, c, hv, h1, h2, h3, h4⟩, hin⟩ := h
  refine ⟨⟨A, c, hv, h1, h2, h3, fun h0 => ?_⟩, hin⟩
  obtain ⟨b, off, hA, hb, hc⟩ := h4 h0
  exact ⟨b, off, hA, Nat.lt_of_lt_of_le hb he.size, fun i x hx => ⟨(he.cell (p := ⟨b, off + i * 4, none⟩) hb).trans (hc i x hx).1, (he.cell (p := ⟨b, off + i * 4 + 1, none⟩) hb).trans (hc i x hx).2.1,
    (he.cell (p := ⟨b, off + i * 4 + 2, none⟩) hb).trans (hc i x hx).2.2.1, (he.cell (p := ⟨b, off + i * 4 + 3, none⟩) hb).trans (hc i x hx).2.2.2⟩⟩
theorem Ws.nil_ (w : World) : Ws w (.slice none 0 0) [] := ⟨⟨none, 0, rfl, Nat.le_refl _, Nat.zero_le _, fun _ => rfl, fun h => absurd h (by simp)⟩, by simp⟩
theorem Ws.at_ {w : World} {v : Value} {l : List Wr} (h : Ws w v l) : ∃ A c, v = .slice A l.length c ∧ l.length ≤ c ∧ c ≤ 9223372036854775807 ∧ (A = none → c = 0) ∧
    (0 < l.length → ∃ b off, A = some ⟨b, off, none⟩ ∧ b < w.heap.size ∧ ∀ (i : Nat), i < l.length → ∃ k g d z, l[i]? = some ⟨k, g, d, z⟩ ∧ w.cell? ⟨b, off + i * 4, none⟩ = some (strV k) ∧ w.cell? ⟨b, off + i * 4 + 1, none⟩ = some (.int .i64 g) ∧
      w.cell? ⟨b, off + i * 4 + 2, none⟩ = some (.bool d) ∧ w.cell? ⟨b, off + i * 4 + 3, none⟩ = some (strV z) ∧ k.length ≤ maxLen ∧ In64 g ∧ z.length ≤ maxLen) := by
  obtain ⟨⟨A, c, hv, h1, h2, h3, h4⟩, hin⟩ := h
  refine ⟨A, c, hv, h1, by unfold maxLen at h2; omega, h3, fun h0 => ?_⟩
  obtain ⟨b, off, hA, hb, hc⟩ := h4 h0
  refine ⟨b, off, hA, hb, fun i hi => ?_⟩
  have hx : l[i]? = some l[i] := List.getElem?_eq_getElem hi
  have := hin _ (List.getElem_mem hi)
  exact ⟨l[i].key, l[i].group, l[i].gone, l[i].value, hx, (hc i _ hx).1, (hc i _ hx).2.1, (hc i _ hx).2.2.1, (hc i _ hx).2.2.2, this.1, this.2.1, this.2.2⟩
/-- The write ahead of number k. -/
def prevOf (ws : List Wr) (k : Nat) : Option Wr := if k = 0 then none else ws[k - 1]?
theorem cgoodF_step (n : Nat) (ws : List Wr) (i : Nat) (x : Wr) (h : ws[i]? = some x) :
    cgoodF n (prevOf ws i) (ws.drop i) = (wok n x && (match prevOf ws i with | none => true | some y => wahead y x) && cgoodF n (prevOf ws (i + 1)) (ws.drop (i + 1))) := by
  have hi : i < ws.length := (List.getElem?_eq_some_iff.1 h).1
  have h1 : ws.drop i = x :: ws.drop (i + 1) := by
    rw [List.drop_eq_getElem_cons hi]
    congr 1
    exact (List.getElem?_eq_some_iff.1 h).2
  have h2 : prevOf ws (i + 1) = some x := by unfold prevOf; rw [if_neg (by omega), Nat.add_sub_cancel, h]
  rw [h1, h2]
  cases prevOf ws i <;> rfl
theorem prevOf_zero (ws : List Wr) : prevOf ws 0 = none := rfl
theorem prevOf_pos (ws : List Wr) (k : Nat) (y : Wr) (hk : 0 < k) (h : ws[k - 1]? = some y) : prevOf ws k = some y := by unfold prevOf; rw [if_neg (by omega), h]
theorem bytesLess_irrefl : ∀ s : List UInt8, Op.bytesLess s s = false
  | [] => rfl
  | a :: x => by
    unfold Op.bytesLess
    rw [bytesLess_irrefl x]
    simp
theorem cgoodF_end (n : Nat) (p : Option Wr) : cgoodF n p [] = true := by cases p <;> rfl
end Go.Proofs.Ytocdifjdeifclaa
