/-
  Layer 19: changes that follow one another, their notes, how these are read; what stands while notes are gathered.
-/
import Derived.Test.YtacabcpjaadijaaDoorCapReadPlain
import Derived.Test.YtacabcpjaadijaaDoorCapNote
namespace Go.Proofs.YtacabcpjaadijaaDoor
open Go Go.RowKit Mono Num
set_option linter.unusedVariables false
set_option linter.unusedSimpArgs false
set_option maxRecDepth 100000

/-- A change's note. -/
def noteOf (gs : List Grp) (c : Ch) : List UInt8 × List UInt8 := (pname c.seq, cput gs c)
def chainC : Option Int → List Ch → Prop
  | _, [] => True
  | p, c :: r => (∀ q, p = some q → q + 1 = c.seq) ∧ chainC (some c.seq) r
theorem chainC_snoc : ∀ (os : List Ch) (p : Option Int) (c : Ch), chainC p os → (∀ q, (if os = [] then p else prevSeq os) = some q → q + 1 = c.seq) → chainC p (os ++ [c])
  | [], p, c, _, hq => ⟨hq, trivial⟩
  | d :: r, p, c, h, hq => by
    refine ⟨h.1, chainC_snoc r (some d.seq) c h.2 fun q h' => hq q ?_⟩
    rw [if_neg (by simp)]
    by_cases hr : r = []
    · subst hr
      rw [if_pos rfl] at h'
      exact h'
    · rw [if_neg hr] at h'
      unfold prevSeq at h' ⊢
      rw [List.getLast?_cons]
      cases hl : r.getLast? with
      | none => rw [hl] at h'; cases h'
      | some z => rw [hl] at h'; exact h'
/-- Changes of one site that may be and follow one another. -/
structure RunC (gs : List Grp) (site : Int) (os : List Ch) : Prop where
  ok : ∀ x ∈ os, cgood gs x = 0 ∧ x.site = site
  ch : chainC none os
theorem RunC.nil_ (gs : List Grp) (site : Int) : RunC gs site [] := ⟨by simp, trivial⟩
theorem RunC.snoc {gs : List Grp} {site : Int} {os : List Ch} {c : Ch} (h : RunC gs site os) (hg : cgood gs c = 0) (hs : c.site = site) (hq : ∀ q, prevSeq os = some q → q + 1 = c.seq) : RunC gs site (os ++ [c]) :=
  ⟨fun x hx => by
    rcases List.mem_append.1 hx with hx | hx
    · exact h.ok x hx
    · rw [List.mem_singleton.1 hx]; exact ⟨hg, hs⟩, chainC_snoc os none c h.ch fun q h' => by
    by_cases ho : os = []
    · rw [if_pos ho] at h'; cases h'
    · rw [if_neg ho] at h'; exact hq q h'⟩
theorem chainC_any : ∀ (os : List Ch) (p : Option Int), chainC p os → chainC none os
  | [], _, _ => trivial
  | _ :: _, _, h => ⟨(fun _ h => by cases h), h.2⟩
theorem RunC.tail {gs : List Grp} {site : Int} {c : Ch} {os : List Ch} (h : RunC gs site (c :: os)) : RunC gs site os := ⟨fun x hx => h.ok x (List.mem_cons_of_mem _ hx), chainC_any _ _ h.ch.2⟩
theorem RunC.drop {gs : List Grp} {site : Int} : ∀ (n : Nat) {os : List Ch}, RunC gs site os → RunC gs site (os.drop n)
  | 0, os, h => by rw [List.drop_zero]; exact h
  | n + 1, [], h => h
  | n + 1, c :: os, h => by rw [List.drop_succ_cons]; exact RunC.drop n h.tail
theorem noteOk_of {gs : List Grp} {site : Int} {c : Ch} (hg : cgood gs c = 0) (hs : c.site = site) : noteOk gs site (noteOf gs c) = true ∧ (cgetP gs (noteOf gs c).2).1 = c := by
  have h := cget_cput gs c [] hg
  rw [List.append_nil] at h
  unfold noteOk noteOf
  dsimp only
  rw [h]
  simp [hs]
theorem creadF_run {gs : List Grp} {site : Int} : ∀ (os : List Ch) (p : Option Int), (∀ x ∈ os, cgood gs x = 0 ∧ x.site = site) → chainC p os → creadF gs site p (os.map (noteOf gs)) = some os
  | [], _, _, _ => rfl
  | c :: r, p, ho, hc => by
    have h0 := ho c List.mem_cons_self
    obtain ⟨h1, h2⟩ := noteOk_of h0.1 h0.2
    rw [List.map_cons, creadF, h2, if_pos ⟨h1, hc.1⟩, creadF_run r (some c.seq) (fun x hx => ho x (List.mem_cons_of_mem _ hx)) hc.2]
    rfl
/-- Their notes are read as these. -/
theorem cread_run {gs : List Grp} {site : Int} {os : List Ch} (h : RunC gs site os) (hp : pgood gs = 0) : cread gs site (os.map (noteOf gs)) = (os, 0) := by
  unfold cread
  rw [if_neg (by omega), creadF_run os none h.ok h.ch]
theorem good_pgood {gs : List Grp} {c : Ch} (h : cgood gs c = 0) : pgood gs = 0 := (cgood_parts h).1
theorem note_good {gs : List Grp} {c : Ch} (h : cgood gs c = 0) : noteN gs c = pname c.seq ∧ noteT gs c = cput gs c := by unfold noteN noteT; rw [if_pos h, if_pos h]; exact ⟨rfl, rfl⟩

theorem nsC_snoc (l : List (List UInt8 × List UInt8)) (x : List UInt8 × List UInt8) : nsC (l ++ [x]) = nsC l ++ [strV x.1, strV x.2] := by unfold nsC; simp
/-- What stands while notes are gathered. -/
structure NtJ (w : World) (vo : Value) (ns : List (List UInt8 × List UInt8)) (W : World) : Prop where
  ext : Ext w W
  row : W.ownsRow w.heap.size 38 2 vo ns.length (nsC ns)
  lim : ∀ x ∈ ns, x.1.length ≤ 12000 ∧ x.2.length ≤ 12000
theorem NtJ.start {w W : World} (h : Ext w W) : NtJ w (.slice none 0 0) [] W := ⟨h, ⟨rfl, .inl ⟨rfl, rfl⟩⟩, by simp⟩
theorem NtJ.ns {w W : World} {vo : Value} {ns : List (List UInt8 × List UInt8)} (h : NtJ w vo ns W) : Ns W vo ns := ⟨fl_of_row h.row, fun x hx => by have := h.lim x hx; unfold maxLen; omega⟩
theorem NtJ.more {w W W' : World} {vo : Value} {ns : List (List UInt8 × List UInt8)} (h : NtJ w vo ns W) (he : Ext W W') : NtJ w vo ns W' :=
  ⟨h.ext.trans he, row_apart (row := none) h.row ⟨he.os, he.tape, he.output, he.size, fun k hk _ => he.block k hk⟩ (fun j C fz e => by cases e), h.lim⟩
theorem NtJ.app {w W9 w3 : World} {vo v' : Value} {ns : List (List UInt8 × List UInt8)} {tmp : Obj} {x : List UInt8 × List UInt8} (h : NtJ w vo ns W9) (hl : x.1.length ≤ 12000 ∧ x.2.length ≤ 12000)
    (hown : w3.ownsRow w.heap.size 38 2 v' (ns.length + 1) (nsC ns ++ [strV x.1, strV x.2])) (hg : (W9.alloc tmp).grownBy w3 vo.ownBlock) : NtJ w v' (ns ++ [x]) w3 := by
  have hge := row_cells h.row
  refine ⟨Below.grown (h.ext.trans (ext_alloc _ tmp)) hg (h.ext.trans (ext_alloc _ tmp)).size (fun j ej => (hge j ej).1), ?_, fun y hy => ?_⟩
  · rw [List.length_append, nsC_snoc]
    exact hown
  · rcases List.mem_append.1 hy with hy | hy
    · exact h.lim y hy
    · rw [List.mem_singleton.1 hy]
      exact hl
theorem infoNt : (Tryd.prog.info? 38).map (fun i => (i.zero, i.size, i.bytes)) = some (some (.agg #[.string ⟨#[]⟩, .string ⟨#[]⟩]), 2, 32) := by kernel_rfl
theorem pname_len (n : Int) : (pname n).length ≤ 12000 := by
  unfold pname
  split
  · simp
  · rw [List.length_cons, pad_len]
    decide
theorem noteOf_lim (gs : List Grp) (c : Ch) : (noteOf gs c).1.length ≤ 12000 ∧ (noteOf gs c).2.length ≤ 12000 := ⟨pname_len _, Nat.le_trans (cput_len gs c) (by decide)⟩
end Go.Proofs.YtacabcpjaadijaaDoor
