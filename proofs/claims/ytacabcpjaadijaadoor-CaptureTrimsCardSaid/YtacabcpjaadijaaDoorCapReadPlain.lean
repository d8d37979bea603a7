/-
  Layer 19 in plain Lean: what notes are read as.
-/
import Derived.Test.YtacabcpjaadijaaDoorCapName
import Derived.Test.YtacabcpjaadijaaDoorChGet
import Derived.Test.YtacabcpjaadijaaDoorCapOwnJ
import Derived.Test.YtacabcpjaadijaaDoorCapNts
import Derived.Test.YtacabcpjaadijaaDoorChRefGet
import Derived.Laws.AppendOwn
import Derived.Lib.ConvBytes
namespace Go.Proofs.YtacabcpjaadijaaDoor
open Go Go.RowKit Mono Num
set_option linter.unusedVariables false
set_option linter.unusedSimpArgs false

/-- Is a note read as a change of the site? -/
def noteOk (gs : List Grp) (site : Int) (x : List UInt8 × List UInt8) : Bool :=
  (cgetP gs x.2).2.2 == 0 && (cgetP gs x.2).2.1 == x.2.length && (cgetP gs x.2).1.site == site && pname (cgetP gs x.2).1.seq == x.1
/-- The changes of notes, one behind the other; none: they are not read. -/
def creadF (gs : List Grp) (site : Int) : Option Int → List (List UInt8 × List UInt8) → Option (List Ch)
  | _, [] => some []
  | p, x :: r => if noteOk gs site x = true ∧ (∀ q, p = some q → q + 1 = (cgetP gs x.2).1.seq) then (creadF gs site (some (cgetP gs x.2).1.seq) r).map ((cgetP gs x.2).1 :: ·) else none
/-- What Read answers: the changes and the error. -/
def cread (gs : List Grp) (site : Int) (l : List (List UInt8 × List UInt8)) : List Ch × Nat :=
  if pgood gs ≠ 0 then ([], pgood gs) else match creadF gs site none l with
    | none => ([], 120)
    | some cs => (cs, 0)
def prevSeq (os : List Ch) : Option Int := os.getLast?.map (·.seq)
theorem prevSeq_snoc (os : List Ch) (c : Ch) : prevSeq (os ++ [c]) = some c.seq := by unfold prevSeq; simp
/-- How far the reading is: so many notes, read as these. -/
structure CR (gs : List Grp) (site : Int) (l : List (List UInt8 × List UInt8)) (k : Nat) (os : List Ch) : Prop where
  le : k ≤ l.length
  len : os.length = k
  all : creadF gs site none l = (creadF gs site (prevSeq os) (l.drop k)).map (os ++ ·)
theorem CR.start (gs : List Grp) (site : Int) (l : List (List UInt8 × List UInt8)) : CR gs site l 0 [] :=
  ⟨Nat.zero_le _, rfl, by rw [List.drop_zero]; show _ = (creadF gs site none l).map _; cases creadF gs site none l <;> simp⟩
theorem CR.cons {gs : List Grp} {site : Int} {l : List (List UInt8 × List UInt8)} {k : Nat} {os : List Ch} {x : List UInt8 × List UInt8} (h : CR gs site l k os) (hx : l[k]? = some x) :
    creadF gs site none l = (if noteOk gs site x = true ∧ (∀ q, prevSeq os = some q → q + 1 = (cgetP gs x.2).1.seq) then (creadF gs site (some (cgetP gs x.2).1.seq) (l.drop (k + 1))).map ((cgetP gs x.2).1 :: ·) else none).map (os ++ ·) := by
  rw [h.all]
  have hk := (List.getElem?_eq_some_iff.1 hx).1
  have h1 : l.drop k = x :: l.drop (k + 1) := by
    rw [List.drop_eq_getElem_cons hk]
    congr 1
    exact (List.getElem?_eq_some_iff.1 hx).2
  rw [h1]
  rfl
theorem CR.next {gs : List Grp} {site : Int} {l : List (List UInt8 × List UInt8)} {k : Nat} {os : List Ch} {x : List UInt8 × List UInt8} (h : CR gs site l k os) (hx : l[k]? = some x) (hok : noteOk gs site x = true)
    (hq : ∀ q, prevSeq os = some q → q + 1 = (cgetP gs x.2).1.seq) : CR gs site l (k + 1) (os ++ [(cgetP gs x.2).1]) := by
  have hk := (List.getElem?_eq_some_iff.1 hx).1
  refine ⟨hk, by rw [List.length_append, h.len]; rfl, ?_⟩
  rw [h.cons hx, if_pos ⟨hok, hq⟩, prevSeq_snoc]
  cases creadF gs site (some (cgetP gs x.2).1.seq) (l.drop (k + 1)) <;> simp
theorem CR.bad1 {gs : List Grp} {site : Int} {l : List (List UInt8 × List UInt8)} {k : Nat} {os : List Ch} {x : List UInt8 × List UInt8} (h : CR gs site l k os) (hx : l[k]? = some x) (hok : noteOk gs site x = false) (hp : pgood gs = 0) : cread gs site l = ([], 120) := by
  have : creadF gs site none l = none := by rw [h.cons hx, if_neg (by rw [hok]; simp)]; rfl
  unfold cread
  rw [if_neg (by omega), this]
theorem CR.bad2 {gs : List Grp} {site : Int} {l : List (List UInt8 × List UInt8)} {k : Nat} {os : List Ch} {x : List UInt8 × List UInt8} (h : CR gs site l k os) (hx : l[k]? = some x) {q : Int} (hq : prevSeq os = some q) (hne : q + 1 ≠ (cgetP gs x.2).1.seq) (hp : pgood gs = 0) : cread gs site l = ([], 120) := by
  have : creadF gs site none l = none := by rw [h.cons hx, if_neg (by intro h; exact hne (h.2 q hq))]; rfl
  unfold cread
  rw [if_neg (by omega), this]
theorem CR.fin {gs : List Grp} {site : Int} {l : List (List UInt8 × List UInt8)} {k : Nat} {os : List Ch} (h : CR gs site l k os) (hk : ¬ k < l.length) (hp : pgood gs = 0) : cread gs site l = (os, 0) := by
  have h1 : l.drop k = [] := List.drop_eq_nil_of_le (by omega)
  have : creadF gs site none l = some os := by
    rw [h.all, h1]
    show (some []).map (os ++ ·) = some os
    simp
  unfold cread
  rw [if_neg (by omega), this]
theorem cread_no {gs : List Grp} {site : Int} {l : List (List UInt8 × List UInt8)} (h : pgood gs ≠ 0) : cread gs site l = ([], pgood gs) := by unfold cread; rw [if_pos h]
theorem prev_last {α : Type} {outs : List (Ch × α)} {k : Nat} {x : Ch × α} (hk : outs.length = k + 1) (h : outs[k]? = some x) : prevSeq (outs.map (·.1)) = some x.1.seq := by
  unfold prevSeq
  rw [List.getLast?_eq_getElem?]
  simp [hk]
  rw [List.getElem?_eq_some_iff.1 h |>.2]
theorem cget_good {gs : List Grp} {b : List UInt8} (h : (cgetP gs b).2.2 = 0) : cgood gs (cgetP gs b).1 = 0 := by
  unfold cgetP at h ⊢
  split at h
  · exact absurd h (by assumption)
  · rename_i h1
    rw [if_neg h1]
    split at h
    · simp at h
    · rename_i h2
      rw [if_neg h2]
      simp only [Bool.or_eq_true, Bool.not_eq_true', beq_eq_false_iff_ne, ne_eq, not_or, Decidable.not_not] at h2
      exact h2.2
/-- A change's number may be, and its numbers fit. -/
def Ch.okS (c : Ch) : Prop := (1 ≤ c.seq ∧ c.seq ≤ 1099511627776) ∧ c.ints
theorem good_bounds {gs : List Grp} {c : Ch} (h : cgood gs c = 0) : c.okS := by
  obtain ⟨_, hh, _⟩ := cgood_parts h
  obtain ⟨h1, h2, h3, h4, h5⟩ := chead_spec hh
  have h4' := sgood_iff.1 h4
  unfold vgood at h5
  simp only [Bool.and_eq_true, decide_eq_true_eq] at h5
  unfold Ch.okS Ch.ints In64
  omega
theorem cget_seq (gs : List Grp) (b : List UInt8) : 0 ≤ (cgetP gs b).1.seq ∧ (cgetP gs b).1.seq ≤ 1099511627776 := by
  by_cases h : (cgetP gs b).2.2 = 0
  · have := (good_bounds (cget_good h)).1
    omega
  · unfold cgetP at h ⊢
    split
    · simp [Ch.nought]
    · split
      · simp [Ch.nought]
      · rename_i h1 h2
        rw [if_neg h1, if_neg h2] at h
        exact absurd rfl h
theorem noteOk_eq {gs : List Grp} {site : Int} {nm tx : List UInt8} {d : Ch} {n e : Nat} (h : cgetP gs tx = (d, n, e)) :
    noteOk gs site (nm, tx) = ((e == 0) && (n == tx.length) && (d.site == site) && (pname d.seq == nm)) := by unfold noteOk; dsimp only; rw [h]
theorem noteOk_get {gs : List Grp} {site : Int} {nm tx : List UInt8} (h : noteOk gs site (nm, tx) = true) : (cgetP gs tx).2.2 = 0 := by
  unfold noteOk at h
  simp only [Bool.and_eq_true, beq_iff_eq] at h
  exact h.1.1.1
end Go.Proofs.YtacabcpjaadijaaDoor

/-
  Layer 19: what stands while notes are read; a text's bytes.
-/
namespace Go.Proofs.YtacabcpjaadijaaDoor
open Go Go.RowKit Mono Num
set_option linter.unusedVariables false
set_option linter.unusedSimpArgs false
set_option maxRecDepth 100000

/-- '[]byte(s)': new memory that reads as the text. -/
theorem bytes_of_str (tx : List UInt8) (W : World) (h : tx.length ≤ maxLen) : ∃ A c W2, (convert 9 75 (.string ⟨tx.toArray⟩)).run Tryd.prog W = .ok (.slice A tx.length c) W2 ∧ Bs W2 (.slice A tx.length c) tx ∧ Ext W W2 := by
  have hsz := strV_size tx
  refine ⟨_, _, _, Lib.run_convert_string_bytes W 9 75 5 ⟨tx.toArray⟩ Tryd.underlying9 Tryd.underlying75 Tryd.underlying5 |>.trans (by rw [hsz]), ?_, ?_⟩
  · have hge := grownCap_ge W tx.length 0 5
    have hle := grownCap_le_maxLen W tx.length 0 5 h
    refine Bs.mk rfl hge hle (by simp) fun h0 => ⟨W.heap.size, 0, rfl, ?_, fun i x hx => ?_⟩
    · rw [Lib.bytesWorld_size]; omega
    · have hi := (List.getElem?_eq_some_iff.1 hx).1
      rw [Nat.zero_add, Lib.bytesWorld_cell W 5 ⟨tx.toArray⟩ i (by rw [hsz]; exact hi)]
      simp [hx]
  · refine ⟨rfl, rfl, rfl, by rw [Lib.bytesWorld_size]; omega, fun k hk => Lib.bytesWorld_at_old W _ _ k hk⟩

structure RdJ (w : World) (vo : Value) (outs : List (Ch × Value)) (W : World) : Prop where
  ext : Ext w W
  row : W.ownsRow w.heap.size 32 7 vo outs.length (chsC outs)
  own : ∀ x ∈ outs, WsO W x.2 x.1.writes ∧ x.1.okS
theorem RdJ.start {w W : World} (h : Ext w W) : RdJ w (.slice none 0 0) [] W := ⟨h, ⟨rfl, .inl ⟨rfl, rfl⟩⟩, by simp⟩
theorem RdJ.cs {w W : World} {vo : Value} {outs : List (Ch × Value)} (h : RdJ w vo outs W) : Cs W vo outs := ⟨fl_of_row h.row, fun x hx => ⟨(h.own x hx).1.ws, (h.own x hx).2.2⟩⟩
theorem RdJ.more {w W W' : World} {vo : Value} {outs : List (Ch × Value)} (h : RdJ w vo outs W) (he : Ext W W') : RdJ w vo outs W' :=
  ⟨h.ext.trans he, row_apart (row := none) h.row ⟨he.os, he.tape, he.output, he.size, fun k hk _ => he.block k hk⟩ (fun j C fz e => by cases e), fun x hx => ⟨(h.own x hx).1.ext he, (h.own x hx).2⟩⟩
theorem RdJ.app {w W9 w3 : World} {vo v1 v' : Value} {outs : List (Ch × Value)} {tmp : Obj} {xc : Ch} (h : RdJ w vo outs W9) (hv : WsO W9 v1 xc.writes) (hi : xc.okS)
    (hown : w3.ownsRow w.heap.size 32 7 v' (outs.length + 1) (chsC outs ++ chC xc v1)) (hg : (W9.alloc tmp).grownBy w3 vo.ownBlock) : RdJ w v' (outs ++ [(xc, v1)]) w3 := by
  have hge := row_cells h.row
  have tOf : ∀ j, vo.ownBlock = some j → ∃ C fz, (W9.alloc tmp).heap[j]? = some (Obj.cells C 32 fz) := fun j ej => by
    obtain ⟨_, C, fz, hj⟩ := hge j ej
    exact ⟨C, fz, (Below.heap_alloc W9 tmp j (Array.getElem?_eq_some_iff.1 hj).1).trans hj⟩
  have wsk : ∀ {x : Value} {l : List Wr}, WsO W9 x l → WsO w3 x l := fun hx =>
    (hx.ext (ext_alloc _ tmp)).grown hg (fun j ej => by obtain ⟨C, fz, hj⟩ := tOf j ej; exact ⟨_, by decide, C, fz, hj⟩)
  refine ⟨Below.grown (h.ext.trans (ext_alloc _ tmp)) hg (h.ext.trans (ext_alloc _ tmp)).size (fun j ej => (hge j ej).1), ?_, fun x hx => ?_⟩
  · rw [List.length_append, chsC_snoc]
    exact hown
  · rcases List.mem_append.1 hx with hx | hx
    · exact ⟨wsk (h.own x hx).1, (h.own x hx).2⟩
    · rw [List.mem_singleton.1 hx]
      exact ⟨wsk hv, hi⟩
theorem RdJ.last {w W : World} {A : Option Addr} {n c k : Nat} {outs : List (Ch × Value)} (h : RdJ w (.slice A n c) outs W) (hk : outs.length = k) (h0 : 0 < k) : ∃ bo oo pseq, A = some ⟨bo, oo, none⟩ ∧ bo < W.heap.size ∧
    W.cell? ⟨bo, oo + (k - 1) * 7 + 1, none⟩ = some (.int .i64 pseq) ∧ prevSeq (outs.map (·.1)) = some pseq ∧ 1 ≤ pseq ∧ pseq ≤ 1099511627776 := by
  obtain ⟨A', c', hv, h1, h2, h3, h4⟩ := h.cs.at_
  injection hv with e1 e2 e3
  subst e1
  obtain ⟨b, off, rfl, hb, hc⟩ := h4 (by omega)
  obtain ⟨site, seq, sn, ss, va, vb, ws, vw, hx, _, _, _, p1, _⟩ := hc (k - 1) (by omega)
  have ho := (h.own _ (List.mem_of_getElem? hx)).2.1
  exact ⟨b, off, seq, rfl, hb, p1, prev_last (by omega) hx, ho⟩
/-- What Read leaves. -/
def ReadQ (gs : List Grp) (site : Int) (l : List (List UInt8 × List UInt8)) (w : World) (e : Ending) (w' : World) : Prop :=
  ∃ r outs, e = .returned (.tuple #[r, .int .i64 ((cread gs site l).2 : Int)]) ∧ Cs w' r outs ∧ outs.map (·.1) = (cread gs site l).1 ∧ Ext w w'
theorem ReadQ.mk {gs : List Grp} {site : Int} {l : List (List UInt8 × List UInt8)} {w w' : World} {e : Ending} {cs : List Ch} {n : Nat} (r : Value) (outs : List (Ch × Value)) (hc : cread gs site l = (cs, n)) (he : e = .returned (.tuple #[r, .int .i64 (n : Int)])) (h : Cs w' r outs) (hm : outs.map (·.1) = cs) (hx : Ext w w') : ReadQ gs site l w e w' :=
  ⟨r, outs, by rw [hc]; exact he, h, by rw [hc]; exact hm, hx⟩
theorem ReadQ.no {gs : List Grp} {site : Int} {l : List (List UInt8 × List UInt8)} {w w' : World} {e : Ending} {n : Nat} (hc : cread gs site l = ([], n)) (he : e = .returned (.tuple #[.slice none 0 0, .int .i64 (n : Int)])) (hx : Ext w w') : ReadQ gs site l w e w' :=
  ReadQ.mk _ [] hc he ⟨Fl.nil_ _, by simp⟩ rfl hx
end Go.Proofs.YtacabcpjaadijaaDoor
