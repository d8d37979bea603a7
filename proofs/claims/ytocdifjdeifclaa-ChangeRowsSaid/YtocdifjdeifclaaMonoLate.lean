/-
  As MonoLast, for a region whose store is neither tied to the last operation nor to some pure ones. Over any program.
-/
import Derived.Test.YtocdifjdeifclaaMonoLast
import Derived.Tactics
namespace Go.Proofs.Ytocdifjdeifclaa
namespace Mono
open Go.RowKit
set_option linter.unusedVariables false

def onlyN (Q : Exit → Act → World → Prop) : Exit → Act → World → Prop := fun ex a w => match ex with | .normal => Q .normal a w | _ => False

theorem onlyN_lets {Q : Exit → Act → World → Prop} : ¬ LetsOut (onlyN Q) := fun ⟨a, w, h⟩ => h

def pureOp (o : Oper) : Bool := match o.op with | .move _ | .assign _ | .extract _ _ => true | _ => false
def storeOp (o : Oper) : Bool := o.dst.isNone && match o.op with | .store _ _ _ => true | _ => false

section
variable {P : Program} {Q : Exit → Act → World → Prop}

theorem pure_run {o : Oper} (h : pureOp o = true) (ev : Operand → Value) : (∃ v, ∀ w, (execOp ev o).run P w = .ok (.value v) w) ∨ ∀ w a K Q, ¬ o.upon P a K (onlyN Q) ((execOp ev o).run P w) := by
  unfold pureOp at h
  split at h
  · rename_i x hop; exact .inl ⟨ev x, fun w => by simp [execOp, hop]⟩
  · rename_i x hop; exact .inl ⟨ev x, fun w => by simp [execOp, hop]⟩
  · rename_i x ix hop
    simp only [execOp, hop, Instr.extract]
    cases hv : ev x with
    | tuple vs =>
      simp only []
      cases hi : vs[ix]? with
      | some v => exact .inl ⟨v, fun w => by simp⟩
      | none => exact .inr fun w a K Q => by simp [stuck, Oper.upon]
    | _ => exact .inr fun w a K Q => by simp [stuck, Oper.upon]
  · cases h

theorem pure_wp {o : Oper} (h : pureOp o = true) {a : Act} {w : World} {K : Act → World → Prop} (hw : o.wp P a w K (onlyN Q)) : ∃ v, (∀ w', (execOp a.eval o).run P w' = .ok (.value v) w') ∧ K (a.put o.dst v) w := by
  rcases pure_run (P := P) h a.eval with ⟨v, hv⟩ | hn
  · unfold Oper.wp at hw
    rw [hv, Oper.upon_value] at hw
    exact ⟨v, hv, hw⟩
  · exact absurd hw (hn w a K Q)

theorem store_wp {o : Oper} (h : storeOp o = true) {a : Act} {w : World} {K : Act → World → Prop} (hw : o.wp P a w K (onlyN Q)) : ∃ w', (execOp a.eval o).run P w = .ok .skip w' ∧ K a w' := by
  simp only [storeOp, Bool.and_eq_true, Option.isNone_iff_eq_none] at h
  obtain ⟨hd, h⟩ := h
  split at h
  · rename_i T p x hop
    unfold Oper.wp at hw
    have hrun : (execOp a.eval o).run P w = ((Instr.storeAt T (a.eval p) (a.eval x)).run P w).andThen (fun _ w' => .ok .skip w') := by
      simp only [execOp, hop, Sem.run_bind, Sem.run_pure]
    rw [hrun] at hw ⊢
    cases hs : (Instr.storeAt T (a.eval p) (a.eval x)).run P w with
    | ok u w' =>
      rw [hs, Result.andThen_ok, Oper.upon_skip, hd] at hw
      exact ⟨w', by rw [Result.andThen_ok], hw⟩
    | halt x w' =>
      rw [hs] at hw
      simp only [Result.andThen] at hw
      cases x <;> simp [Oper.upon, onlyN] at hw
  · cases h

/-- What is checked: st is the store behind l, y a pure operation behind it. -/
def lateOk (l : List Oper) (st y : Oper) : Bool :=
  storeOp st && st.guard.isNone && pureOp y && y.guard.isNone && (l.all fun o => o.guard.isNone) && Region.noSelect (l ++ [st, y]).toArray &&
  (st.after.all fun e => decide (e.on < l.length)) && (y.after.all fun e => decide (e.on < l.length)) &&
  ((List.range l.length).all fun i => match l[i]? with | none => true | some o => o.after.all fun e => !Region.binds .any e || decide (e.on < i)) &&
  (match y.dst with | none => false | some d => !(st.looksAt #[]).contains d) &&
  (List.range l.length).all fun i =>
    (match l[i]? with | none => false | some o => pureOp o && match o.dst with | none => false | some d => !(st.looksAt #[]).contains d) ||
    (st.after.any fun e => Region.binds .any e && e.on == i) ||
    (List.range l.length).any fun k => decide (i < k) && match l[k]? with
      | none => false
      | some o => (!(pureOp o && match o.dst with | none => false | some d => !(st.looksAt #[]).contains d)) && o.after.any fun e => Region.binds .any e && e.on == i

def toLast (m : Nat) (st : Oper) : Oper := { st with after := ((List.range (m + 1)).map fun i => ⟨i, .data⟩).toArray }

/-- May go before the store or behind it. -/
def freeOf (st o : Oper) : Bool := pureOp o && match o.dst with | none => false | some d => !(st.looksAt #[]).contains d

theorem freeOf_spec {st o : Oper} (h : freeOf st o = true) : pureOp o = true ∧ ∃ d, o.dst = some d ∧ d ∉ st.looksAt #[] := by
  simp only [freeOf, Bool.and_eq_true] at h
  refine ⟨h.1, ?_⟩
  cases hd : o.dst with
  | none => rw [hd] at h; simp at h
  | some d => rw [hd] at h; exact ⟨d, rfl, by simpa using h.2⟩

structure LateS (l : List Oper) (st y : Oper) : Prop where
  store : storeOp st = true
  stg : st.guard = none
  guards : ∀ o ∈ l, o.guard = none
  yg : y.guard = none
  ste : ∀ e ∈ st.after, e.on < l.length
  ye : ∀ e ∈ y.after, e.on < l.length
  le : ∀ (i : Nat) (o : Oper), l[i]? = some o → ∀ e ∈ o.after, Region.binds .any e = true → e.on < i
  yf : freeOf st y = true
  cover : ∀ (i : Nat) (o : Oper), l[i]? = some o → freeOf st o = true ∨ (∃ e ∈ st.after, Region.binds .any e = true ∧ e.on = i) ∨ ∃ k ok, i < k ∧ k < l.length ∧ l[k]? = some ok ∧ freeOf st ok = false ∧ ∃ e ∈ ok.after, Region.binds .any e = true ∧ e.on = i

theorem lateOk_spec {l : List Oper} {st y : Oper} (h : lateOk l st y = true) : LateS l st y := by
  simp only [lateOk, Bool.and_eq_true, List.all_eq_true, List.mem_range, Array.all_eq_true_iff_forall_mem, decide_eq_true_eq, Option.isNone_iff_eq_none] at h
  obtain ⟨⟨⟨⟨⟨⟨⟨⟨⟨⟨h1, h2⟩, h3⟩, h4⟩, h5⟩, -⟩, h6⟩, h7⟩, h8⟩, h9⟩, h10⟩ := h
  refine ⟨h1, h2, h5, h4, h6, h7, fun i o hi e he hb => ?_, by simp only [freeOf, Bool.and_eq_true]; exact ⟨h3, h9⟩, fun i o hi => ?_⟩
  · have := h8 i (List.getElem?_eq_some_iff.1 hi).1
    rw [hi] at this
    simp only [Array.all_eq_true_iff_forall_mem, Bool.or_eq_true, Bool.not_eq_true', decide_eq_true_eq] at this
    exact (this e he).resolve_left (by simp [hb])
  · have := h10 i (List.getElem?_eq_some_iff.1 hi).1
    rw [hi] at this
    simp only [Bool.or_eq_true] at this
    rcases this with (this | this) | this
    · exact .inl (by unfold freeOf; exact this)
    · obtain ⟨e, he, hb⟩ := Array.any_eq_true'.1 this
      simp only [Bool.and_eq_true, beq_iff_eq] at hb
      exact .inr (.inl ⟨e, he, hb.1, hb.2⟩)
    · obtain ⟨k, hk, hk2⟩ := List.any_eq_true.1 this
      simp only [Bool.and_eq_true, decide_eq_true_eq, List.mem_range] at hk2 hk
      cases hlk : l[k]? with
      | none => rw [hlk] at hk2; simp at hk2
      | some ok =>
        rw [hlk] at hk2
        simp only [Bool.and_eq_true, Bool.not_eq_true'] at hk2
        obtain ⟨e, he, hb⟩ := Array.any_eq_true'.1 hk2.2.2
        simp only [Bool.and_eq_true, beq_iff_eq] at hb
        exact .inr (.inr ⟨k, ok, hk2.1, hk, hlk, by unfold freeOf; exact hk2.2.1, e, he, hb.1, hb.2⟩)

def pi (m i : Nat) : Nat := if i = m then m + 1 else if i = m + 1 then m else i

structure LRel (m : Nat) (listed listed' : Array Bool) : Prop where
  size : listed.size = m + 2
  size' : listed'.size = m + 2
  eq : ∀ i, i < m + 2 → listed'.getD (pi m i) false = listed.getD i false

theorem pi_lt {m i : Nat} (h : i < m + 2) : pi m i < m + 2 := by
  unfold pi
  split
  · omega
  · split <;> omega
theorem pi_inj {m i j : Nat} (h : pi m i = pi m j) : i = j := by unfold pi at h; split at h <;> split at h <;> (try split at h) <;> (try split at h) <;> omega
theorem pi_low {m i : Nat} (h : i < m) : pi m i = i := by unfold pi; rw [if_neg (by omega), if_neg (by omega)]

theorem LRel.low {m : Nat} {listed listed' : Array Bool} (R : LRel m listed listed') {i : Nat} (h : i < m) : listed'.getD i false = listed.getD i false := by
  have := R.eq i (by omega)
  rwa [pi_low h] at this

theorem getD_set_self {listed : Array Bool} {i : Nat} (d : Bool) (h : i < listed.size) : (listed.setIfInBounds i true).getD i d = true := by simp [h]

theorem LRel.set {m i : Nat} {listed listed' : Array Bool} (R : LRel m listed listed') (h : i < m + 2) : LRel m (listed.setIfInBounds i true) (listed'.setIfInBounds (pi m i) true) := by
  refine ⟨by simp [R.size], by simp [R.size'], fun j hj => ?_⟩
  by_cases hij : i = j
  · subst hij
    rw [getD_set_self _ (by rw [R.size']; exact pi_lt h), getD_set_self _ (by rw [R.size]; omega)]
  · rw [getD_set_ne _ hij, getD_set_ne _ (fun e => hij (pi_inj e)), R.eq j hj]

section
variable {l : List Oper} {st y : Oper}

theorem lt_get {i : Nat} (h : i < l.length) (r : List Oper) : (l ++ r).toArray[i]? = l[i]? := by simp [List.getElem?_append_left h]
theorem at_m (r : List Oper) : (l ++ r).toArray[l.length]? = r[0]? := by simp [List.getElem?_append_right]
theorem at_m1 (r : List Oper) : (l ++ r).toArray[l.length + 1]? = r[1]? := by simp [List.getElem?_append_right]

theorem LateS.get (h : LateS l st y) {i : Nat} {o : Oper} (hi : i ≠ l.length) (ho : (l ++ [st, y]).toArray[i]? = some o) :
    (l ++ [y, toLast l.length st]).toArray[pi l.length i]? = some o ∧ o.guard = none ∧ (∀ e ∈ o.after, Region.binds .any e = true → e.on < l.length ∧ e.on < i) ∧ i < l.length + 2 := by
  have hlt : i < l.length + 2 := by have := (Array.getElem?_eq_some_iff.1 ho).1; simpa using this
  by_cases hil : i < l.length
  · rw [lt_get hil] at ho
    rw [pi_low hil, lt_get hil]
    exact ⟨ho, h.guards o (List.mem_of_getElem? ho), fun e he hb => ⟨by have := h.le i o ho e he hb; omega, h.le i o ho e he hb⟩, hlt⟩
  · obtain rfl : i = l.length + 1 := by omega
    rw [at_m1] at ho
    obtain rfl : y = o := Option.some.inj ho
    refine ⟨by unfold pi; rw [if_neg (by omega), if_pos rfl, at_m]; rfl, h.yg, fun e he _ => ⟨h.ye e he, by have := h.ye e he; omega⟩, hlt⟩

theorem LateS.back (h : LateS l st y) : ∀ j oj, (l ++ [st, y]).toArray[j]? = some oj → ∀ e ∈ oj.after, Region.binds .any e = true → e.on < j := by
  intro j oj hj e he hb
  by_cases hjm : j = l.length
  · subst hjm
    rw [at_m] at hj
    obtain rfl : st = oj := Option.some.inj hj
    exact h.ste e he
  · exact ((h.get hjm hj).2.2.1 e he hb).2

theorem LateS.back' (h : LateS l st y) : ∀ j oj, (l ++ [y, toLast l.length st]).toArray[j]? = some oj → ∀ e ∈ oj.after, Region.binds .any e = true → e.on < j := by
  intro j oj hj e he hb
  have hlt : j < l.length + 2 := by have := (Array.getElem?_eq_some_iff.1 hj).1; simpa using this
  by_cases hjl : j < l.length
  · rw [lt_get hjl] at hj
    exact h.le j oj hj e he hb
  · by_cases hjm : j = l.length
    · subst hjm
      rw [at_m] at hj
      obtain rfl : y = oj := Option.some.inj hj
      exact h.ye e he
    · obtain rfl : j = l.length + 1 := by omega
      rw [at_m1] at hj
      obtain rfl : toLast l.length st = oj := Option.some.inj hj
      simp only [toLast, List.mem_toArray, List.mem_map, List.mem_range] at he
      obtain ⟨i, hi, rfl⟩ := he
      exact hi

theorem LateS.ready (h : LateS l st y) {listed listed' : Array Bool} (R : LRel l.length listed listed') {i : Nat} (hi : i ≠ l.length) (hr : i ∈ Region.ready .any (l ++ [st, y]).toArray listed) :
    pi l.length i ∈ Region.ready .any (l ++ [y, toLast l.length st]).toArray listed' := by
  obtain ⟨h0, o, ho, hall⟩ := mem_ready.1 hr
  obtain ⟨g1, g2, g3, g4⟩ := h.get hi ho
  refine mem_ready.2 ⟨getD_in (by rw [R.size']; exact pi_lt g4) (by rw [R.eq i g4]; exact getD_both h0), o, g1, fun e he hb => ?_⟩
  rw [R.low (g3 e he hb).1]
  exact hall e he hb

theorem nil_of_all {ops : Array Oper} {md : Region.Mode} {listed : Array Bool} (h : ∀ i, i < ops.size → listed.getD i false = true) : Region.ready md ops listed = [] := by
  refine List.eq_nil_iff_forall_not_mem.2 fun i hi => ?_
  obtain ⟨h0, o, ho, _⟩ := mem_ready.1 hi
  have := h i (Array.getElem?_eq_some_iff.1 ho).1
  rw [getD_both h0] at this
  cases this

theorem LateS.some_ready (h : LateS l st y) {listed : Array Bool} (hs : listed.size = l.length + 2) (hn : ¬ ∀ i, i < l.length + 2 → i ≠ l.length → listed.getD i false = true) : ∃ j, j ≠ l.length ∧ j ∈ Region.ready .any (l ++ [st, y]).toArray listed := by
  refine Classical.byContradiction fun hno => hn fun i => ?_
  induction i using Nat.strongRecOn with
  | _ i ih =>
    intro hi him
    cases hl : listed.getD i false with
    | true => rfl
    | false =>
      exfalso
      refine hno ⟨i, him, mem_ready.2 ⟨getD_in (by omega) hl, (l ++ [st, y]).toArray[i]'(by simpa using hi), Array.getElem?_eq_getElem _, fun e he hb => ?_⟩⟩
      have := (h.get him (Array.getElem?_eq_getElem (by simpa using hi))).2.2.1 e he hb
      exact ih e.on this.2 (by omega) (by omega)

theorem wanted_none {o : Oper} (h : o.guard = none) (f : Nat → Option Bool) : Region.wanted o f = true := by simp [Region.wanted, h]

theorem wpOp_onlyN {ops : Array Oper} {i : Nat} {o : Oper} (ho : ops[i]? = some o) (hg : o.guard = none) {K : Act → World → Prop} {a : Act} {w : World} (h : wpOp P ops (onlyN Q) i K a w) : o.wp P a w K (onlyN Q) := by
  unfold wpOp at h
  simp only [ho] at h
  rw [if_pos (wanted_none hg _)] at h
  exact h.resolve_right fun h => onlyN_lets h.2

theorem wpOp_of {ops : Array Oper} {i : Nat} {o : Oper} (ho : ops[i]? = some o) (hg : o.guard = none) {K : Act → World → Prop} {a : Act} {w : World} (h : o.wp P a w K Q) : wpOp P ops Q i K a w := by
  unfold wpOp
  simp only [ho]
  rw [if_pos (wanted_none hg _)]
  exact .inl h

theorem store_eval {st o : Oper} (h : storeOp st = true) (hf : freeOf st o = true) (a : Act) (v : Value) : execOp (a.put o.dst v).eval st = execOp a.eval st := by
  obtain ⟨_, d, hd, hn⟩ := freeOf_spec hf
  refine execOp_congr st (fun cs b hop => ?_) fun x hx => Act.eval_put fun d' hd' he => ?_
  · simp [storeOp, hop] at h
  · rw [hd] at hd'
    obtain rfl := Option.some.inj hd'
    subst he
    refine hn ?_
    unfold Oper.looksAt
    exact List.mem_append_left _ (List.mem_filterMap.2 ⟨.tmp d, by simpa using hx, rfl⟩)

theorem late_push_all {l : List Oper} {st y : Oper} (h : LateS l st y) {f : Nat} {listed listed' : Array Bool} {a : Act} {w : World} (R : LRel l.length listed listed') (hm : listed.getD l.length false = false)
    (hall : ∀ i, i < l.length + 2 → i ≠ l.length → listed.getD i false = true)
    (hw : wpAny P .any (l ++ [y, toLast l.length st]).toArray (onlyN Q) (f + 1) listed' a w) : st.wp P a w (wpAny P .any (l ++ [st, y]).toArray (onlyN Q) f (listed.setIfInBounds l.length true)) (onlyN Q) := by
  have hpm : pi l.length l.length = l.length + 1 := by unfold pi; rw [if_pos rfl]
  have hpy : pi l.length (l.length + 1) = l.length := by unfold pi; rw [if_neg (by omega), if_pos rfl]
  have hall' : ∀ i, i < l.length + 1 → listed'.getD i false = true := by
    intro i hi
    by_cases hil : i < l.length
    · rw [R.low hil]; exact hall i (by omega) (by omega)
    · obtain rfl : i = l.length := by omega
      have := R.eq (l.length + 1) (by omega)
      rw [hpy] at this
      rw [this]
      exact hall _ (by omega) (by omega)
  have ho : (l ++ [y, toLast l.length st]).toArray[l.length + 1]? = some (toLast l.length st) := by rw [at_m1]; rfl
  have hr : l.length + 1 ∈ Region.ready .any (l ++ [y, toLast l.length st]).toArray listed' := mem_ready.2 ⟨getD_in (by rw [R.size']; omega) (by have := R.eq l.length (by omega); rw [hpm, hm] at this; exact this), _, ho, fun e he _ => by
    simp only [toLast, List.mem_toArray, List.mem_map, List.mem_range] at he
    obtain ⟨i, hi, rfl⟩ := he
    exact hall' i hi⟩
  have hst : (toLast l.length st).wp P a w (wpAny P .any (l ++ [y, toLast l.length st]).toArray (onlyN Q) f (listed'.setIfInBounds (l.length + 1) true)) (onlyN Q) := wpOp_onlyN ho h.stg (hw.2 _ hr)
  have hn1 : Region.ready .any (l ++ [y, toLast l.length st]).toArray (listed'.setIfInBounds (l.length + 1) true) = [] := nil_of_all fun i hi => by
    by_cases hil : i < l.length + 1
    · exact getD_set_true (hall' i hil)
    · obtain rfl : i = l.length + 1 := by simp at hi; omega
      exact getD_set_self _ (by rw [R.size']; omega)
  have hn2 : Region.ready .any (l ++ [st, y]).toArray (listed.setIfInBounds l.length true) = [] := nil_of_all fun i hi => by
    by_cases hil : i = l.length
    · subst hil; exact getD_set_self _ (by rw [R.size]; omega)
    · exact getD_set_true (hall i (by simpa using hi) hil)
  have hK : ∀ a' w', wpAny P .any (l ++ [y, toLast l.length st]).toArray (onlyN Q) f (listed'.setIfInBounds (l.length + 1) true) a' w' → wpAny P .any (l ++ [st, y]).toArray (onlyN Q) f (listed.setIfInBounds l.length true) a' w' := by
    intro a' w' hk
    cases f with
    | zero => exact ⟨hn2, hk.2⟩
    | succ f => exact ⟨fun _ => hk.1 hn1, fun i hi => by rw [hn2] at hi; cases hi⟩
  obtain ⟨w2, hrun, hk⟩ := store_wp (o := toLast l.length st) h.store hst
  have hdn : st.dst = none := by have := h.store; simp only [storeOp, Bool.and_eq_true, Option.isNone_iff_eq_none] at this; exact this.1
  have hrun' : (execOp a.eval st).run P w = .ok .skip w2 := hrun
  unfold Oper.wp
  rw [hrun', Oper.upon_skip, hdn]
  exact hK a w2 hk

theorem late_push (h : LateS l st y) : ∀ (f : Nat) (listed listed' : Array Bool) (a : Act) (w : World), LRel l.length listed listed' → listed.getD l.length false = false →
    (∀ i o, i ≠ l.length → (l ++ [st, y]).toArray[i]? = some o → listed.getD i false = false → freeOf st o = true) →
    wpAny P .any (l ++ [y, toLast l.length st]).toArray (onlyN Q) (f + 1) listed' a w → st.wp P a w (wpAny P .any (l ++ [st, y]).toArray (onlyN Q) f (listed.setIfInBounds l.length true)) (onlyN Q) := by
  intro f
  induction f with
  | zero =>
    intro listed listed' a w R hm hf hw
    by_cases hall : ∀ i, i < l.length + 2 → i ≠ l.length → listed.getD i false = true
    · exact late_push_all h R hm hall hw
    · exfalso
      obtain ⟨j, hj, hjr⟩ := h.some_ready R.size hall
      obtain ⟨h0, o, ho, _⟩ := mem_ready.1 hjr
      obtain ⟨g1, g2, g3, g4⟩ := h.get hj ho
      obtain ⟨v, _, hk⟩ := pure_wp (freeOf_spec (hf j o hj ho (getD_both h0))).1 (wpOp_onlyN g1 g2 (hw.2 _ (h.ready R hj hjr)))
      have h1 := all_of_ready_nil h.back' (by simp [R.size']) hk.1 (l.length + 1) (by simp)
      have h2 := (R.set g4).eq l.length (by omega)
      rw [getD_set_ne _ hj, hm] at h2
      unfold pi at h2
      rw [if_pos rfl] at h2
      unfold pi at h1
      rw [h1] at h2
      cases h2
  | succ g ih =>
    intro listed listed' a w R hm hf hw
    by_cases hall : ∀ i, i < l.length + 2 → i ≠ l.length → listed.getD i false = true
    · exact late_push_all h R hm hall hw
    · have key : ∀ i, i ≠ l.length → i ∈ Region.ready .any (l ++ [st, y]).toArray listed → ∃ o v w2, (l ++ [st, y]).toArray[i]? = some o ∧ (∀ w', (execOp a.eval o).run P w' = .ok (.value v) w') ∧
          (execOp a.eval st).run P w = .ok .skip w2 ∧ wpAny P .any (l ++ [st, y]).toArray (onlyN Q) g ((listed.setIfInBounds i true).setIfInBounds l.length true) (a.put o.dst v) w2 := by
        intro i hi hir
        obtain ⟨h0, o, ho, _⟩ := mem_ready.1 hir
        obtain ⟨g1, g2, g3, g4⟩ := h.get hi ho
        have hfr := hf i o hi ho (getD_both h0)
        obtain ⟨v, hv, hk⟩ := pure_wp (freeOf_spec hfr).1 (wpOp_onlyN g1 g2 (hw.2 _ (h.ready R hi hir)))
        have := ih _ _ _ _ (R.set g4) (by rw [getD_set_ne _ hi]; exact hm) (fun k ok hk hok hl => hf k ok hk hok (by
          by_cases hik : i = k
          · subst hik; rw [getD_set_self _ (by rw [R.size]; exact g4)] at hl; cases hl
          · rwa [getD_set_ne _ hik] at hl)) hk
        obtain ⟨w2, hr, hk2⟩ := store_wp h.store this
        rw [store_eval h.store hfr] at hr
        exact ⟨o, v, w2, ho, hv, hr, hk2⟩
      obtain ⟨j, hj, hjr⟩ := h.some_ready R.size hall
      obtain ⟨_, _, w2, _, _, hrun, _⟩ := key j hj hjr
      have hdn : st.dst = none := by have := h.store; simp only [storeOp, Bool.and_eq_true, Option.isNone_iff_eq_none] at this; exact this.1
      unfold Oper.wp
      rw [hrun, Oper.upon_skip, hdn]
      show wpAny P .any (l ++ [st, y]).toArray (onlyN Q) (g + 1) (listed.setIfInBounds l.length true) a w2
      refine ⟨fun hnil => ?_, fun i hi => ?_⟩
      · exfalso
        obtain ⟨h0, o, ho, hall'⟩ := mem_ready.1 hjr
        have : j ∈ Region.ready .any (l ++ [st, y]).toArray (listed.setIfInBounds l.length true) := mem_ready.2 ⟨by rw [getD_set_ne _ (fun e => hj e.symm)]; exact h0, o, ho, fun e he hb => getD_set_true (hall' e he hb)⟩
        rw [hnil] at this
        cases this
      · obtain ⟨h0, o, ho, hall'⟩ := mem_ready.1 hi
        have him : i ≠ l.length := by
          rintro rfl
          rw [getD_set_self _ (by rw [R.size]; omega)] at h0
          cases h0
        obtain ⟨g1, g2, g3, g4⟩ := h.get him ho
        have hir : i ∈ Region.ready .any (l ++ [st, y]).toArray listed := mem_ready.2 ⟨by rwa [getD_set_ne _ (fun e => him e.symm)] at h0, o, ho, fun e he hb => by
          have h1 := hall' e he hb
          rwa [getD_set_ne _ (by have := (g3 e he hb).1; omega)] at h1⟩
        obtain ⟨o', v, w2', ho', hv, hrun', hk⟩ := key i him hir
        obtain rfl : o = o' := Option.some.inj (ho.symm.trans ho')
        obtain rfl : w2 = w2' := by rw [hrun] at hrun'; injection hrun'
        refine wpOp_of ho g2 ?_
        unfold Oper.wp
        rw [hv w2, Oper.upon_value]
        rwa [Array.setIfInBounds_comm _ _ (fun e => him e.symm)]

theorem late_swap (h : LateS l st y) : ∀ (f : Nat) (listed listed' : Array Bool) (a : Act) (w : World), LRel l.length listed listed' → listed.getD l.length false = false →
    (∀ j oj, (l ++ [st, y]).toArray[j]? = some oj → listed.getD j false = true → ∀ e ∈ oj.after, Region.binds .any e = true → listed.getD e.on false = true) →
    wpAny P .any (l ++ [y, toLast l.length st]).toArray (onlyN Q) f listed' a w → wpAny P .any (l ++ [st, y]).toArray (onlyN Q) f listed a w := by
  intro f
  induction f with
  | zero =>
    intro listed listed' a w R hm hc hw
    exfalso
    have h1 := all_of_ready_nil h.back' (by simp [R.size']) hw.1 (l.length + 1) (by simp)
    have h2 := R.eq l.length (by omega)
    unfold pi at h2
    rw [if_pos rfl, h1, hm] at h2
    cases h2
  | succ f ih =>
    intro listed listed' a w R hm hc hw
    refine ⟨fun hnil => ?_, fun i hi => ?_⟩
    · have h1 := all_of_ready_nil h.back (by simp [R.size]) hnil l.length (by simp)
      rw [hm] at h1
      cases h1
    · obtain ⟨h0, o, ho, hall⟩ := mem_ready.1 hi
      by_cases him : i = l.length
      · subst him
        have ho2 := ho
        rw [at_m] at ho2
        obtain rfl : st = o := Option.some.inj ho2
        refine wpOp_of ho h.stg (late_push h f listed listed' a w R hm (fun k ok hk hok hl => ?_) hw)
        have hlow : ∀ d i o, i + d = l.length → l[i]? = some o → freeOf st o = false → listed.getD i false = true := by
          intro d
          induction d using Nat.strongRecOn with
          | _ d ihd =>
            intro i o hd hio hfr
            rcases h.cover i o hio with h1 | ⟨e, he, hb, hon⟩ | ⟨k, ok, hik, hkl, hok, hfk, e, he, hb, hon⟩
            · rw [hfr] at h1; cases h1
            · exact hon ▸ hall e he hb
            · have := ihd (l.length - k) (by omega) k ok (by omega) hok hfk
              exact hon ▸ hc k ok (by rw [lt_get hkl]; exact hok) this e he hb
        by_cases hkl : k < l.length
        · rw [lt_get hkl] at hok
          cases hfr : freeOf st ok with
          | true => rfl
          | false =>
            have := hlow (l.length - k) k ok (by omega) hok hfr
            rw [hl] at this
            cases this
        · obtain ⟨_, _, _, g4⟩ := h.get hk hok
          obtain rfl : k = l.length + 1 := by omega
          rw [at_m1] at hok
          obtain rfl : y = ok := Option.some.inj hok
          exact h.yf
      · obtain ⟨g1, g2, g3, g4⟩ := h.get him ho
        refine wpOp_of ho g2 (Oper.wp_mono (fun a' w' hk => ih _ _ a' w' (R.set g4) (by rw [getD_set_ne _ him]; exact hm) (fun j oj hoj hl e he hb => ?_) hk) (wpOp_onlyN g1 g2 (hw.2 _ (h.ready R him hi))))
        by_cases hij : i = j
        · subst hij
          obtain rfl : o = oj := Option.some.inj (ho.symm.trans hoj)
          exact getD_set_true (hall e he hb)
        · rw [getD_set_ne _ hij] at hl
          exact getD_set_true (hc j oj hoj hl e he hb)
end

theorem wpAny_onlyN {md : Region.Mode} {ops : Array Oper} : ∀ (f : Nat) (listed : Array Bool) (a : Act) (w : World), wpAny P md ops (onlyN Q) f listed a w → wpAny P md ops Q f listed a w := by
  intro f
  induction f with
  | zero => exact fun _ _ _ h => h
  | succ f ih =>
    intro listed a w h
    refine ⟨h.1, fun i hi => ?_⟩
    have hh := h.2 i hi
    unfold wpOp at hh ⊢
    split
    · rename_i hn
      simp only [hn] at hh
      exact ih _ _ _ hh
    · rename_i o ho
      simp only [ho] at hh
      split
      · rename_i hw
        rw [if_pos hw] at hh
        refine .inl ?_
        replace hh := hh.resolve_right fun h => onlyN_lets h.2
        unfold Oper.wp at *
        generalize (execOp a.eval o).run P w = r at *
        cases r with
        | ok n w' =>
          cases n <;> simp only [Oper.upon] at hh ⊢ <;>
            first
              | exact ih _ _ _ hh
              | exact Calls.mono hh (fun e w'' he => by cases e <;> first | exact ih _ _ _ he | exact absurd he onlyN_lets | exact False.elim he)
              | exact Rows.mono hh (fun _ _ he => ih _ _ _ he)
        | halt x w' => cases x <;> simp only [Oper.upon] at hh ⊢ <;> exact False.elim hh
      · rename_i hw
        rw [if_neg hw] at hh
        exact ih _ _ _ hh
end

theorem getD_replicate' (m j : Nat) : (Array.replicate m false).getD j false = false := by
  rcases Nat.lt_or_ge j m with h | h
  · simp [h]
  · simp [h]

theorem wpList_last {P : Program} {Q : Exit → Act → World → Prop} {m : Nat} {st : Oper} {a : Act} {w : World} (hg : st.guard = none) (h : wpList P #[] Q [st] a w) : wpList P #[] Q [toLast m st] a w := by
  unfold wpList at *
  rw [if_pos (wanted_none hg _)] at h
  rw [if_pos (wanted_none (show (toLast m st).guard = none from hg) _)]
  exact h

theorem Tele.fin {P : Program} {ops : Array Oper} {a0 : Act} {w0 : World} {F G : (Nat → Value) → World → Prop} : ∀ {l : List Oper} {env : Env}, Tele P ops a0 w0 F l env → (∀ ρ w, F ρ w → G ρ w) → Tele P ops a0 w0 G l env
  | [], _, h, hfg => fun ρ w h1 h2 => hfg ρ w (h ρ w h1 h2)
  | _ :: _, _, ⟨R, h1, h2, h3⟩, hfg => ⟨R, h1, h2, Tele.fin h3 hfg⟩

theorem wpAny_last {P : Program} {Q : Exit → Act → World → Prop} {a : Act} {w : World} {l : List Oper} {om : Oper} (hB : monoL .any (l ++ [om]).toArray a.tmps.size l.length = true) (hL : lastL .any (l ++ [om]).toArray l.length = true)
    (h : Tele P (l ++ [om]).toArray a w (fun ρ w' => wpList P #[] Q [om] (puts ρ a l) w') l []) : wpAny P .any (l ++ [om]).toArray Q (l ++ [om]).toArray.size (Array.replicate (l ++ [om]).toArray.size false) a { w with drawn := w.drawn + 1 } := by
  obtain ⟨hsel, hB2⟩ := monoL_spec (by simp) hB
  have hget : ∀ i, i < l.length → (l ++ [om]).toArray[i]? = l[i]? := fun i hi => by simp [List.getElem?_append_left hi]
  have hdst : ∀ (i : Nat) (oi : Oper), l[i]? = some oi → ∃ s, oi.dst = some s := fun i oi hoi => by
    have hil : i < l.length := (List.getElem?_eq_some_iff.1 hoi).1
    obtain ⟨_, ⟨t, ht, _⟩, _⟩ := hB2 i oi hil (by rw [hget i hil]; exact hoi)
    exact ⟨t, ht⟩
  obtain ⟨R, _, h2, h3, h4⟩ := tele_gives hdst l 0 (fun _ _ _ => True) (by simp) (fun j => by simp) h
  let R' : Nat → Rel := fun i => if i < l.length then R i else fun _ _ => False
  have hRR : ∀ i, i < l.length → R' i = R i := fun i hi => by simp only [R']; rw [if_pos hi]
  refine wpAny_monoL (R := R') (w0 := w) (m := l.length) (om := om) rfl hB hL ⟨fun i v w1 w2 hr he => ?_, fun j oj hjl hoj ρ w1 he hl => ?_⟩ (by simp) ?_ _ _ _ _ ?_ ?_
  · by_cases hi : i < l.length
    · rw [hRR i hi] at hr ⊢; exact h2 i (Nat.zero_le _) hi v w1 w2 hr he
    · simp only [R'] at hr; rw [if_neg hi] at hr; exact hr.elim
  · have hoj' : l[j]? = some oj := by rw [← hget j hjl]; exact hoj
    rw [hRR j hjl]
    refine h3 j oj (Nat.zero_le _) hoj' ρ w1 he (known_of fun t ht => ?_)
    obtain ⟨g1, g2⟩ := hl t ht
    refine fact_of hdst j (by omega) (fun i oi hi hoi hdi => ?_) fun hno => g2 fun i oi hi hoi => hno i oi hi (by rw [← hget i (by omega)]; exact hoi)
    have := g1 i oi hi (by rw [hget i (by omega)]; exact hoi) hdi
    rwa [hRR i (by omega)] at this
  · intro listed a1 w1 hi hall
    have hslot : a1 = puts (fun t => a1.tmps.getD t undef) a l := by
      obtain ⟨p1, p2, p3⟩ := puts_slots (fun t => a1.tmps.getD t undef) l a
      refine act_ext (hi.defers.trans p1.symm) (hi.size.trans p2.symm) fun t ht => ?_
      rw [p3 t (by rw [← hi.size]; exact ht)]
      by_cases hex : ∃ o ∈ l, o.dst = some t
      · rw [if_pos hex]
      · rw [if_neg hex]
        exact hi.rest t fun i oi him hoi _ hdi => hex ⟨oi, List.mem_of_getElem? (by rw [← hget i him]; exact hoi), hdi⟩
    rw [hslot]
    refine h4 _ w1 hi.ext (envFacts_of hdst (fun i oi t hoi hdi => ?_) l.length (Nat.le_refl _))
    have hil : i < l.length := (List.getElem?_eq_some_iff.1 hoi).1
    have := hi.done i oi t hil (by rw [hget i hil]; exact hoi) (hall i hil) hdi
    rwa [hRR i hil] at this
  · simp
  · refine ⟨⟨rfl, rfl, rfl, Nat.le_refl _, fun _ _ => rfl⟩, rfl, rfl, by simp, fun j oj _ hl => ?_, fun i oi t _ _ hl => ?_, fun t _ => rfl, by simp⟩
    · exfalso
      simp only [Array.getD_eq_getD_getElem?, Array.getElem?_replicate] at hl
      split at hl <;> simp at hl
    · exfalso
      simp only [Array.getD_eq_getD_getElem?, Array.getElem?_replicate] at hl
      split at hl <;> simp at hl


/-- More edges, fewer orders. -/
theorem wpAny_edges {P : Program} {Q : Exit → Act → World → Prop} {md : Region.Mode} {ops ops2 : Array Oper} (hsz : ops2.size = ops.size) (hb : ∀ j oj, ops2[j]? = some oj → ∀ e ∈ oj.after, Region.binds md e = true → e.on < j)
    (he : ∀ (i : Nat) (o2 : Oper), ops2[i]? = some o2 → ∃ o : Oper, ops[i]? = some o ∧ o.guard = none ∧ o2 = { o with after := o2.after } ∧ ∀ e ∈ o.after, e ∈ o2.after) :
    ∀ (f : Nat) (listed : Array Bool) (a : Act) (w : World), listed.size = ops.size → wpAny P md ops Q f listed a w → wpAny P md ops2 Q f listed a w := by
  have hr : ∀ listed i, i ∈ Region.ready md ops2 listed → i ∈ Region.ready md ops listed := by
    intro listed i hi
    obtain ⟨h0, o2, ho2, hall⟩ := mem_ready.1 hi
    obtain ⟨o, ho, _, _, hee⟩ := he i o2 ho2
    exact mem_ready.2 ⟨h0, o, ho, fun e hem => hall e (hee e hem)⟩
  have hnil : ∀ listed, listed.size = ops.size → Region.ready md ops2 listed = [] → Region.ready md ops listed = [] := fun listed hs hn => nil_of_all fun i hi => all_of_ready_nil hb (by omega) hn i (by omega)
  intro f
  induction f with
  | zero =>
    intro listed a w hs h
    refine ⟨List.eq_nil_iff_forall_not_mem.2 fun i hi => ?_, h.2⟩
    have := hr _ _ hi
    rw [h.1] at this
    cases this
  | succ f ih =>
    intro listed a w hs h
    refine ⟨fun hn => h.1 (hnil _ hs hn), fun i hi => ?_⟩
    have hh := h.2 i (hr _ _ hi)
    obtain ⟨h0, o2, ho2, hall⟩ := mem_ready.1 hi
    obtain ⟨o, ho, hg, h2, _⟩ := he i o2 ho2
    have hg2 : o2.guard = none := by rw [h2]; exact hg
    unfold wpOp at hh ⊢
    simp only [ho] at hh
    simp only [ho2]
    rw [if_pos (wanted_none hg _)] at hh
    rw [if_pos (wanted_none hg2 _)]
    rw [h2]
    exact hh.imp (Oper.wp_mono (o := o) fun a w h => ih _ _ _ (by simpa using hs) h) id

def cutY (k : Nat) (y : Oper) : Oper := { y with after := y.after.filter fun e => decide (e.on < k) }

def lateL : Nat → Nat → List Oper → Option (List Oper × List Oper × Oper × Oper)
  | n, 0, [st, y] => some ([], [y], st, y)
  | n, k + 1, o :: r => match lateL n k r with
    | some (l, l', st, y) => some (o :: l, o :: l', st, y)
    | none => none
  | _, _, _ => none

theorem lateL_spec {n : Nat} : ∀ {k : Nat} {L l l' : List Oper} {st y : Oper}, lateL n k L = some (l, l', st, y) → l' = l ++ [y] ∧ L = l ++ [st, y] ∧ l.length = k
  | 0, [st, y], _, _, _, _, h => by
    unfold lateL at h
    injection h with h
    injection h with h1 h
    injection h with h2 h
    injection h with h3 h4
    subst h1 h2 h3 h4
    exact ⟨rfl, rfl, rfl⟩
  | k + 1, o :: r, _, _, _, _, h => by
    unfold lateL at h
    split at h
    · rename_i l l' st y hs
      injection h with h
      injection h with h1 h
      injection h with h2 h
      injection h with h3 h4
      subst h1 h2 h3 h4
      obtain ⟨g1, g2, g3⟩ := lateL_spec hs
      exact ⟨by rw [g1]; rfl, by rw [g2]; rfl, by simp [g3]⟩
    · cases h
  | 0, [], _, _, _, _, h => by simp [lateL] at h
  | 0, [_], _, _, _, _, h => by simp [lateL] at h
  | 0, _ :: _ :: _ :: _, _, _, _, _, h => by simp [lateL] at h
  | _ + 1, [], _, _, _, _, h => by simp [lateL] at h

theorem Tele.cutY {P : Program} {ops : Array Oper} {a0 : Act} {w0 : World} {F : (Nat → Value) → World → Prop} {n : Nat} {y : Oper} : ∀ {l : List Oper} {env : Env}, Tele P ops a0 w0 F (l ++ [y]) env → Tele P ops a0 w0 F (l ++ [cutY n y]) env
  | [], _, h => h
  | _ :: _, _, ⟨R, h1, h2, h3⟩ => ⟨R, h1, h2, Tele.cutY h3⟩

theorem puts_cutY {ρ : Nat → Value} {n : Nat} {y : Oper} : ∀ {l : List Oper} {a : Act}, puts ρ a (l ++ [cutY n y]) = puts ρ a (l ++ [y])
  | [], a => rfl
  | o :: l, a => puts_cutY (l := l)

theorem wp_region_late_lit {P : Program} {id : Nat} {Q : Exit → Act → World → Prop} {a : Act} {w : World} {L l l' : List Oper} {st y : Oper} (k : Nat) (hm : P.follows .mixedOrders = true) (hs : lateL k k L = some (l, l', st, y)) (hO : lateOk l st (cutY k y) = true)
    (hy : (y.after.all fun e => decide (e.on < k + 1)) = true)
    (hB : monoL .any ((l ++ [cutY k y]) ++ [toLast k st]).toArray a.tmps.size (l ++ [cutY k y]).length = true) (hL : lastL .any ((l ++ [cutY k y]) ++ [toLast k st]).toArray (l ++ [cutY k y]).length = true)
    (h : Tele P ((l ++ [cutY k y]) ++ [toLast k st]).toArray a w (fun ρ w' => ∀ Q' : Exit → Act → World → Prop, (∀ a w, Q .normal a w → Q' .normal a w) → wpList P #[] Q' [st] (puts ρ a l') w') l' []) : (Code.region id L.toArray true).wp P Q a w := by
  obtain ⟨hl, rfl, rfl⟩ := lateL_spec hs
  subst hl
  have hS := lateOk_spec hO
  refine wp_region_any hm (wpAny_edges (ops := (l ++ [st, cutY l.length y]).toArray) (by simp) (fun j oj hj e he hb => ?_) (fun i o2 hi => ?_) _ _ _ _ (by simp) (wpAny_onlyN _ _ _ _ ?_))
  · have hlt : j < l.length + 2 := by have := (Array.getElem?_eq_some_iff.1 hj).1; simpa using this
    by_cases hjl : j < l.length
    · rw [lt_get hjl] at hj; exact hS.le j oj hj e he hb
    · by_cases hjm : j = l.length
      · subst hjm
        rw [at_m] at hj
        obtain rfl : st = oj := Option.some.inj hj
        exact hS.ste e he
      · obtain rfl : j = l.length + 1 := by omega
        rw [at_m1] at hj
        obtain rfl : y = oj := Option.some.inj hj
        simp only [Array.all_eq_true_iff_forall_mem, decide_eq_true_eq] at hy
        exact hy e he
  · have hlt : i < l.length + 2 := by have := (Array.getElem?_eq_some_iff.1 hi).1; simpa using this
    by_cases hil : i < l.length
    · rw [lt_get hil] at hi
      exact ⟨o2, by rw [lt_get hil]; exact hi, hS.guards o2 (List.mem_of_getElem? hi), rfl, fun e he => he⟩
    · by_cases him : i = l.length
      · subst him
        rw [at_m] at hi
        obtain rfl : st = o2 := Option.some.inj hi
        exact ⟨st, by rw [at_m]; rfl, hS.stg, rfl, fun e he => he⟩
      · obtain rfl : i = l.length + 1 := by omega
        rw [at_m1] at hi
        obtain rfl : y = o2 := Option.some.inj hi
        exact ⟨cutY l.length y, by rw [at_m1]; rfl, hS.yg, rfl, fun e he => (Array.mem_filter.1 he).1⟩
  · have hsz : (l ++ [st, y]).toArray.size = ((l ++ [cutY l.length y]) ++ [toLast l.length st]).toArray.size := by simp
    have hlist : ((l ++ [cutY l.length y]) ++ [toLast l.length st]) = l ++ [cutY l.length y, toLast l.length st] := by simp
    rw [hsz]
    refine late_swap hS _ _ (Array.replicate ((l ++ [cutY l.length y]) ++ [toLast l.length st]).toArray.size false) a _ ⟨by simp, by simp, fun i hi => ?_⟩ ?_ (fun j oj _ hl => ?_) ?_
    · rw [getD_replicate', getD_replicate']
    · rw [getD_replicate']
    · rw [getD_replicate'] at hl; cases hl
    · have := wpAny_last (Q := onlyN Q) hB hL (Tele.fin (Tele.cutY h) fun ρ w' hf => wpList_last hS.stg (by rw [puts_cutY]; exact hf (onlyN Q) fun a w h => h))
      rw [← hlist]
      exact this
end Mono
end Go.Proofs.Ytocdifjdeifclaa
