/-
  A law for regions that draw their order and hold calls, conversions and loads that only make new memory: each operation is looked at once, in the order of the text; what each leaves in its slot is told by a predicate on value and world that new memory does not disturb. Over any program.
-/
import Derived.Orders
import Derived.Below
namespace Go.Proofs.Ytocdifjdeifclaa
namespace Mono
open Go.RowKit

/-- New memory alone: whatever was there is as it was. -/
def Ext (w w' : World) : Prop := Below w.heap.size w w'
theorem Ext.refl (w : World) : Ext w w := Below.refl _ _
theorem Ext.trans {a b c : World} (h : Ext a b) (k : Ext b c) : Ext a c := Below.trans h (Below.mono k h.size)

def monoUpon (P : Program) (w : World) (R : Value → World → Prop) : Result Next → Prop
  | .ok (.value v) w' => Ext w w' ∧ R v w'
  | .ok .skip w' => Ext w w' ∧ R undef w'
  | .ok (.enter f args) w' => Calls P f args w' (fun e w'' => ∃ v, e = .returned v ∧ Ext w w'' ∧ R v w'')
  | _ => False

theorem wp_of_monoUpon {P : Program} {o : Oper} {a : Act} {w : World} {R : Value → World → Prop} {K : Act → World → Prop} {Q : Exit → Act → World → Prop}
    (h : monoUpon P w R ((execOp a.eval o).run P w)) (hK : ∀ v w', Ext w w' → R v w' → K (a.put o.dst v) w') : o.wp P a w K Q := by
  unfold Oper.wp
  generalize (execOp a.eval o).run P w = r at *
  cases r with
  | ok n w' =>
    cases n <;> simp only [monoUpon] at h <;> simp only [Oper.upon]
    case value u => exact hK _ _ h.1 h.2
    case skip => exact hK _ _ h.1 h.2
    case enter f args => exact h.mono fun e w'' ⟨v, he, h1, h2⟩ => by subst he; exact hK _ _ h1 h2
  | halt x w' => simp only [monoUpon] at h

/-- Edges lead back; what is not tied by an edge is apart; each operation has a slot of its own. -/
def monoB (md : Region.Mode) (ops : Array Oper) (n : Nat) : Bool :=
  Region.noSelect ops && (List.range ops.size).all fun j => match ops[j]? with
    | none => true
    | some oj => (oj.after.all fun e => !Region.binds md e || decide (e.on < j)) && (match oj.dst with | some t => decide (t < n) | none => false) &&
      (List.range j).all fun i => match ops[i]? with
        | none => true
        | some oi => (oj.after.any fun e => Region.binds md e && e.on == i) && oi.dst != oj.dst || oi.apart ops oj

abbrev Rel := Value → World → Prop
abbrev Env := List (Tmp × Rel)

def Fact (a0 : Act) (ρ : Nat → Value) (w : World) (t : Tmp) : Env → Prop
  | [] => ρ t = a0.tmps.getD t undef
  | (s, R) :: env => if s = t then R (ρ t) w else Fact a0 ρ w t env

def Known (env : Env) (a0 : Act) (ρ : Nat → Value) (w : World) : List Tmp → Prop
  | [] => True
  | t :: ts => Fact a0 ρ w t env ∧ Known env a0 ρ w ts

def evR (ρ : Nat → Value) : Operand → Value
  | .tmp t => ρ t
  | .const v => v
  | .global g => .pointer (some ⟨g, 0, none⟩)
  | .func f => .func (.func f) #[] #[]

def asBoolR : Value → Option Bool
  | .bool b => some b
  | _ => none

/-- Is it wanted? by the guard's value. -/
def wantedR (ops : Array Oper) (o : Oper) (ρ : Nat → Value) : Bool :=
  Region.wanted o (fun j => match (ops[j]?).bind (·.dst) with | some t => asBoolR (ρ t) | none => none)

def Obl (P : Program) (ops : Array Oper) (a0 : Act) (w0 : World) (env : Env) (o : Oper) (R : Rel) : Prop :=
  ∀ (ρ : Nat → Value) (w : World), Ext w0 w → Known env a0 ρ w (o.looksAt ops) →
    if wantedR ops o ρ then monoUpon P w R ((execOp (evR ρ) o).run P w) else R undef w

def EnvFacts (ρ : Nat → Value) (w : World) : Env → Prop
  | [] => True
  | (t, R) :: env => R (ρ t) w ∧ EnvFacts ρ w env

def puts (ρ : Nat → Value) (a0 : Act) : List Oper → Act
  | [] => a0
  | o :: l => puts ρ (a0.put o.dst (match o.dst with | some t => ρ t | none => undef)) l

def Tele (P : Program) (ops : Array Oper) (a0 : Act) (w0 : World) (Fin : (Nat → Value) → World → Prop) : List Oper → Env → Prop
  | [], env => ∀ ρ w, Ext w0 w → EnvFacts ρ w env → Fin ρ w
  | o :: rest, env => ∃ R : Rel, (∀ v w w', R v w → Ext w w' → R v w') ∧ Obl P ops a0 w0 env o R ∧
      Tele P ops a0 w0 Fin rest ((match o.dst with | some t => (t, R) | none => (0, R)) :: env)

section
variable {P : Program} {ops : Array Oper} {md : Region.Mode} {a0 : Act} {w0 : World}

theorem monoB_spec {n : Nat} (h : monoB md ops n = true) : Region.noSelect ops = true ∧ ∀ j oj, ops[j]? = some oj →
    (∀ e ∈ oj.after, Region.binds md e = true → e.on < j) ∧ (∃ t, oj.dst = some t ∧ t < n) ∧
    ∀ i oi, i < j → ops[i]? = some oi → oi.dst ≠ oj.dst ∧ ((∃ e ∈ oj.after, Region.binds md e = true ∧ e.on = i) ∨ oi.apart ops oj = true) := by
  simp only [monoB, Bool.and_eq_true, List.all_eq_true, List.mem_range] at h
  refine ⟨h.1, fun j oj hj => ?_⟩
  have hjs : j < ops.size := (Array.getElem?_eq_some_iff.1 hj).1
  have h1 := h.2 j hjs
  simp only [hj, Bool.and_eq_true, Array.all_eq_true_iff_forall_mem, Bool.or_eq_true, Bool.not_eq_true', decide_eq_true_eq, List.all_eq_true, List.mem_range] at h1
  obtain ⟨⟨ha, hd⟩, hp⟩ := h1
  have hdst : ∃ t, oj.dst = some t ∧ t < n := by
    cases hdd : oj.dst with
    | none => simp [hdd] at hd
    | some t => exact ⟨t, rfl, by simpa [hdd] using hd⟩
  refine ⟨fun e he hb => (ha e he).resolve_left (by simp [hb]), hdst, fun i oi hi hoi => ?_⟩
  have h2 := hp i hi
  simp only [hoi, Bool.or_eq_true, Bool.and_eq_true, bne_iff_ne, ne_eq] at h2
  rcases h2 with ⟨h2, h3⟩ | h2
  · refine ⟨h3, .inl ?_⟩
    obtain ⟨e, he, hb⟩ := Array.any_eq_true'.1 h2
    simp only [Bool.and_eq_true, beq_iff_eq] at hb
    exact ⟨e, he, hb.1, hb.2⟩
  · refine ⟨fun heq => ?_, .inr h2⟩
    obtain ⟨t, ht, _⟩ := hdst
    exact (Oper.apart_spec h2).2.1 t (heq.trans ht) ht

/-- The state of affairs once the operations that are listed have been carried out. -/
structure Inv (P : Program) (md : Region.Mode) (ops : Array Oper) (a0 : Act) (w0 : World) (R : Nat → Rel) (listed : Array Bool) (a : Act) (w : World) : Prop where
  ext : Ext w0 w
  defers : a.defers = a0.defers
  size : a.tmps.size = a0.tmps.size
  lsize : listed.size = ops.size
  closed : ∀ j oj, ops[j]? = some oj → listed.getD j false = true → ∀ e ∈ oj.after, Region.binds md e = true → listed.getD e.on false = true
  done : ∀ i oi t, ops[i]? = some oi → listed.getD i false = true → oi.dst = some t → R i (a.tmps.getD t undef) w
  rest : ∀ t, (∀ i oi, ops[i]? = some oi → listed.getD i false = true → oi.dst ≠ some t) → a.tmps.getD t undef = a0.tmps.getD t undef

theorem getD_both {listed : Array Bool} {i : Nat} (h : listed.getD i true = false) : listed.getD i false = false := by
  rcases Nat.lt_or_ge i listed.size with h' | h'
  · simp [h'] at h ⊢; exact h
  · simp [Array.getElem?_eq_none h'] at h
theorem getD_in {listed : Array Bool} {i : Nat} (hi : i < listed.size) (h : listed.getD i false = false) : listed.getD i true = false := by
  simp [hi] at h ⊢; exact h

theorem eval_evR (a : Act) (x : Operand) : a.eval x = evR (fun t => a.tmps.getD t undef) x := by cases x <;> rfl

theorem yielded_evR (a : Act) (j : Nat) (hsz : ∀ t, ((ops[j]?).bind (·.dst)) = some t → t < a.tmps.size) : yielded ops a.tmps j = (match (ops[j]?).bind (·.dst) with | some t => asBoolR (a.tmps.getD t undef) | none => none) := by
  unfold yielded
  cases h : (ops[j]?).bind (·.dst) with
  | none => rfl
  | some t =>
    have := hsz t h
    simp only [Option.bind_some, Array.getD_eq_getD_getElem?, Array.getElem?_eq_getElem this, Option.getD_some]
    cases a.tmps[t] <;> rfl

theorem wanted_evR (a : Act) (o : Oper) (hsz : ∀ (j : Nat) t, ((ops[j]?).bind (·.dst)) = some t → t < a.tmps.size) : Region.wanted o (yielded ops a.tmps) = wantedR ops o (fun t => a.tmps.getD t undef) := by
  unfold wantedR
  congr 1
  funext j
  exact yielded_evR a j (hsz j)

def Rspec (P : Program) (ops : Array Oper) (a0 : Act) (w0 : World) (R : Nat → Rel) : Prop :=
  (∀ i v w w', R i v w → Ext w w' → R i v w') ∧
  ∀ j oj, ops[j]? = some oj → ∀ (ρ : Nat → Value) (w : World), Ext w0 w →
    (∀ t ∈ oj.looksAt ops, (∀ i oi, i < j → ops[i]? = some oi → oi.dst = some t → R i (ρ t) w) ∧ ((∀ i oi, i < j → ops[i]? = some oi → oi.dst ≠ some t) → ρ t = a0.tmps.getD t undef)) →
    if wantedR ops oj ρ then monoUpon P w (R j) ((execOp (evR ρ) oj).run P w) else R j undef w

theorem count_set {listed : Array Bool} {j : Nat} (hj : j < listed.size) (h : listed.getD j true = false) : ((listed.setIfInBounds j true).toList.count false) + 1 = listed.toList.count false := by
  have h1 : listed.toList[j]'(by simpa using hj) = false := by
    simpa [Array.getElem?_eq_getElem hj] using h
  have : (listed.setIfInBounds j true).toList = listed.toList.set j true := by simp
  rw [this, List.count_set (by simpa using hj)]
  have hmem : 0 < listed.toList.count false := List.count_pos_iff.2 (h1 ▸ List.getElem_mem _)
  simp only [h1, beq_self_eq_true, if_true, show (true == false) = false from rfl, Bool.false_eq_true, if_false, Nat.add_zero]
  omega

theorem all_of_ready_nil (hB : ∀ j oj, ops[j]? = some oj → ∀ e ∈ oj.after, Region.binds md e = true → e.on < j) {listed : Array Bool} (hs : listed.size = ops.size) (h : Region.ready md ops listed = []) :
    ∀ j, j < ops.size → listed.getD j false = true := by
  intro j
  induction j using Nat.strongRecOn with
  | _ j ih =>
    intro hj
    cases hl : listed.getD j false with
    | true => rfl
    | false =>
      exfalso
      have hr : j ∈ Region.ready md ops listed := mem_ready.2 ⟨getD_in (by omega) hl, ops[j], Array.getElem?_eq_getElem hj, fun e he hb => ih e.on (hB j _ (Array.getElem?_eq_getElem hj) e he hb) (by have := hB j _ (Array.getElem?_eq_getElem hj) e he hb; omega)⟩
      rw [h] at hr
      cases hr

theorem ready_nil_of_count {listed : Array Bool} (hs : listed.size = ops.size) (h : listed.toList.count false = 0) : Region.ready md ops listed = [] := by
  cases hr : Region.ready md ops listed with
  | nil => rfl
  | cons j js =>
    exfalso
    have hj : j ∈ Region.ready md ops listed := by rw [hr]; simp
    obtain ⟨h0, o, ho, _⟩ := mem_ready.1 hj
    have hjs : j < listed.size := by rw [hs]; exact (Array.getElem?_eq_some_iff.1 ho).1
    have h1 : listed.toList[j]'(by simpa using hjs) = false := by simpa [Array.getElem?_eq_getElem hjs] using h0
    have := List.count_pos_iff.2 (h1 ▸ List.getElem_mem (l := listed.toList) (by simpa using hjs))
    omega

theorem wpAny_mono {n : Nat} {R : Nat → Rel} {Q : Exit → Act → World → Prop} (hn : a0.tmps.size = n) (hB : monoB md ops n = true) (hR : Rspec P ops a0 w0 R)
    (hfin : ∀ listed a w, Inv P md ops a0 w0 R listed a w → (∀ j, j < ops.size → listed.getD j false = true) → Q .normal a w) :
    ∀ (fuel : Nat) (listed : Array Bool) (a : Act) (w : World), listed.toList.count false = fuel → Inv P md ops a0 w0 R listed a w → wpAny P md ops Q fuel listed a w
  | 0, listed, a, w, hc, hi => by
    obtain ⟨_, hB2⟩ := monoB_spec hB
    have hnil := ready_nil_of_count (md := md) hi.lsize hc
    exact ⟨hnil, hfin _ _ _ hi (all_of_ready_nil (fun j oj hj => (hB2 j oj hj).1) hi.lsize hnil)⟩
  | fuel + 1, listed, a, w, hc, hi => by
    obtain ⟨hsel, hB2⟩ := monoB_spec hB
    refine ⟨fun hnil => hfin _ _ _ hi (all_of_ready_nil (fun j oj hj => (hB2 j oj hj).1) hi.lsize hnil), fun j hj => ?_⟩
    obtain ⟨hjun, oj, hoj, hall⟩ := mem_ready.1 hj
    have hjs : j < ops.size := (Array.getElem?_eq_some_iff.1 hoj).1
    have hjl : j < listed.size := by rw [hi.lsize]; exact hjs
    obtain ⟨hback, ⟨d, hd, hdn⟩, hpair⟩ := hB2 j oj hoj
    have hszall : ∀ (i : Nat) t, ((ops[i]?).bind (·.dst)) = some t → t < a.tmps.size := by
      intro i t ht
      cases hoi : ops[i]? with
      | none => simp [hoi] at ht
      | some oi =>
        obtain ⟨_, ⟨d', hd', hdn'⟩, _⟩ := hB2 i oi hoi
        simp only [hoi, Option.bind_some, hd'] at ht
        injection ht with ht
        rw [hi.size, hn, ← ht]; exact hdn'
    -- of what this one looks at
    have hlook : ∀ t ∈ oj.looksAt ops, (∀ i oi, i < j → ops[i]? = some oi → oi.dst = some t → R i (a.tmps.getD t undef) w) ∧ ((∀ i oi, i < j → ops[i]? = some oi → oi.dst ≠ some t) → a.tmps.getD t undef = a0.tmps.getD t undef) := by
      intro t ht
      constructor
      · intro i oi hij hoi hdi
        obtain ⟨_, hp⟩ := hpair i oi hij hoi
        rcases hp with ⟨e, he, hb, hon⟩ | hap
        · have := hall e he hb
          rw [hon] at this
          exact hi.done i oi t hoi this hdi
        · exact absurd ht ((Oper.apart_spec hap).1 t hdi)
      · intro hno
        refine hi.rest t fun i oi hoi hli hdi => ?_
        rcases Nat.lt_trichotomy i j with hij | hij | hij
        · exact hno i oi hij hoi hdi
        · subst hij; rw [getD_both hjun] at hli; cases hli
        · obtain ⟨_, hp⟩ := (hB2 i oi hoi).2.2 j oj hij hoj
          rcases hp with ⟨e, he, hb, hon⟩ | hap
          · have := hi.closed i oi hoi hli e he hb
            rw [hon, getD_both hjun] at this
            cases this
          · exact (Oper.apart_spec hap).2.2 t hdi ht
    have hobl := hR.2 j oj hoj (fun t => a.tmps.getD t undef) w hi.ext hlook
    have hexec : execOp (evR fun t => a.tmps.getD t undef) oj = execOp a.eval oj :=
      execOp_congr oj (fun cs b => Region.noSelect_spec hsel j oj cs b hoj) fun x _ => (eval_evR a x).symm
    rw [hexec] at hobl
    -- behind it
    have hnext : ∀ v w', Ext w w' → R j v w' → Inv P md ops a0 w0 R (listed.setIfInBounds j true) (a.put oj.dst v) w' := by
      intro v w' he hv
      have hdsz : d < a.tmps.size := by rw [hi.size, hn]; exact hdn
      rw [hd]
      refine ⟨hi.ext.trans he, hi.defers, by simp [Act.put, hi.size], by simp [hi.lsize], ?_, ?_, ?_⟩
      · intro i oi hoi hli e hee hb
        by_cases hij : j = i
        · subst hij
          have : oi = oj := Option.some.inj (hoi.symm.trans hoj)
          subst this
          exact getD_set_true (hall e hee hb)
        · rw [getD_set_ne false hij] at hli
          exact getD_set_true (hi.closed i oi hoi hli e hee hb)
      · intro i oi t hoi hli hdi
        by_cases hij : j = i
        · subst hij
          have : oi = oj := Option.some.inj (hoi.symm.trans hoj)
          subst this
          rw [hd] at hdi
          injection hdi with hdi
          subst hdi
          have : (a.put (some d) v).tmps.getD d undef = v := by simp [Act.put, hdsz]
          rw [this]
          exact hv
        · rw [getD_set_ne false hij] at hli
          have hne : d ≠ t := by
            intro heq
            subst heq
            rcases Nat.lt_or_ge i j with h | h
            · exact (hpair i oi h hoi).1 (hdi.trans hd.symm)
            · exact ((hB2 i oi hoi).2.2 j oj (by omega) hoj).1 (hd.trans hdi.symm)
          have : (a.put (some d) v).tmps.getD t undef = a.tmps.getD t undef := by simp [Act.put, Array.getElem?_setIfInBounds_ne hne]
          rw [this]
          exact hR.1 i _ w w' (hi.done i oi t hoi hli hdi) he
      · intro t hno
        have hne : d ≠ t := fun heq => hno j oj hoj (by simp [hjl]) (heq ▸ hd)
        have : (a.put (some d) v).tmps.getD t undef = a.tmps.getD t undef := by simp [Act.put, Array.getElem?_setIfInBounds_ne hne]
        rw [this]
        refine hi.rest t fun i oi hoi hli hdi => ?_
        by_cases hij : j = i
        · subst hij; rw [getD_both hjun] at hli; cases hli
        · exact hno i oi hoi (by rw [getD_set_ne false hij]; exact hli) hdi
    have hcnt : (listed.setIfInBounds j true).toList.count false = fuel := by
      have := count_set hjl hjun
      omega
    unfold wpOp
    simp only [hoj]
    rw [wanted_evR a oj hszall]
    split
    · rename_i hw
      rw [if_pos hw] at hobl
      exact .inl (wp_of_monoUpon hobl fun v w' he hv => wpAny_mono hn hB hR hfin fuel _ _ _ hcnt (hnext v w' he hv))
    · rename_i hw
      rw [if_neg hw] at hobl
      exact wpAny_mono hn hB hR hfin fuel _ _ _ hcnt (hnext undef w (Ext.refl _) hobl)

/-! ### Out of the telescope -/

/-- The slots and the predicates of the first operations, the last one ahead. -/
def envOf (ops : List Oper) (R : Nat → Rel) : Nat → Env
  | 0 => []
  | k + 1 => ((match (ops[k]?).bind (·.dst) with | some t => t | none => 0), R k) :: envOf ops R k

theorem fact_of {l : List Oper} {R : Nat → Rel} {ρ : Nat → Value} {w : World} {t : Tmp} (hdst : ∀ (i : Nat) (oi : Oper), l[i]? = some oi → ∃ s, oi.dst = some s)
    : ∀ k, k ≤ l.length → (∀ (i : Nat) (oi : Oper), i < k → l[i]? = some oi → oi.dst = some t → R i (ρ t) w) → ((∀ (i : Nat) (oi : Oper), i < k → l[i]? = some oi → oi.dst ≠ some t) → ρ t = a0.tmps.getD t undef) → Fact a0 ρ w t (envOf l R k)
  | 0, _, _, h2 => h2 (fun i _ hi => absurd hi (by omega))
  | k + 1, hk, h1, h2 => by
    obtain ⟨s, hs⟩ := hdst k (l[k]) (List.getElem?_eq_getElem (by omega))
    simp only [envOf, List.getElem?_eq_getElem (show k < l.length by omega), Option.bind_some, hs, Fact]
    by_cases hst : s = t
    · rw [if_pos hst]
      exact h1 k l[k] (by omega) (List.getElem?_eq_getElem (by omega)) (hst ▸ hs)
    · rw [if_neg hst]
      refine fact_of hdst k (by omega) (fun i oi hi => h1 i oi (by omega)) fun hno => h2 fun i oi hi hoi hdi => ?_
      by_cases hik : i = k
      · subst hik
        rw [List.getElem?_eq_getElem (by omega)] at hoi
        injection hoi with hoi
        subst hoi
        rw [hs] at hdi
        injection hdi with hdi
        exact hst hdi
      · exact hno i oi (by omega) hoi hdi

theorem known_of {env : Env} {ρ : Nat → Value} {w : World} : ∀ {ts : List Tmp}, (∀ t ∈ ts, Fact a0 ρ w t env) → Known env a0 ρ w ts
  | [], _ => trivial
  | t :: ts, h => ⟨h t (by simp), known_of fun s hs => h s (by simp [hs])⟩

theorem envFacts_of {l : List Oper} {R : Nat → Rel} {ρ : Nat → Value} {w : World} (hdst : ∀ (i : Nat) (oi : Oper), l[i]? = some oi → ∃ s, oi.dst = some s) (h : ∀ (i : Nat) (oi : Oper) (t : Tmp), l[i]? = some oi → oi.dst = some t → R i (ρ t) w) :
    ∀ k, k ≤ l.length → EnvFacts ρ w (envOf l R k)
  | 0, _ => trivial
  | k + 1, hk => by
    obtain ⟨s, hs⟩ := hdst k (l[k]) (List.getElem?_eq_getElem (by omega))
    simp only [envOf, List.getElem?_eq_getElem (show k < l.length by omega), Option.bind_some, hs, EnvFacts]
    exact ⟨h k _ s (List.getElem?_eq_getElem (by omega)) hs, envFacts_of hdst h k (by omega)⟩

theorem envOf_congr {l : List Oper} {R R' : Nat → Rel} : ∀ k, (∀ i, i < k → R i = R' i) → envOf l R k = envOf l R' k
  | 0, _ => rfl
  | k + 1, h => by simp only [envOf]; rw [h k (by omega), envOf_congr k fun i hi => h i (by omega)]

/-- What the telescope gives from operation number k on. -/
theorem tele_gives {l : List Oper} {Fin : (Nat → Value) → World → Prop} (hdst : ∀ (i : Nat) (oi : Oper), l[i]? = some oi → ∃ s, oi.dst = some s) : ∀ (r : List Oper) (k : Nat) (R0 : Nat → Rel), k + r.length = l.length → (∀ j, r[j]? = l[k + j]?) →
    Tele P ops a0 w0 Fin r (envOf l R0 k) → ∃ R : Nat → Rel, (∀ i, i < k → R i = R0 i) ∧ (∀ i, k ≤ i → i < l.length → (∀ v w w', R i v w → Ext w w' → R i v w')) ∧
      (∀ (i : Nat) (o : Oper), k ≤ i → l[i]? = some o → Obl P ops a0 w0 (envOf l R i) o (R i)) ∧ ∀ ρ w, Ext w0 w → EnvFacts ρ w (envOf l R l.length) → Fin ρ w
  | [], k, R0, hk, _, h => by
    have hk' : k = l.length := by simpa using hk
    subst hk'
    exact ⟨R0, fun _ _ => rfl, fun i h1 h2 => absurd h2 (by omega), fun i o h1 h2 => (by rw [List.getElem?_eq_none h1] at h2; cases h2), h⟩
  | o :: r, k, R0, hk, hr, h => by
    obtain ⟨Rk, hm, hob, ht⟩ := h
    have hok : l[k]? = some o := by simpa using (hr 0).symm
    obtain ⟨s, hs⟩ := hdst k o hok
    let R1 : Nat → Rel := fun i => if i = k then Rk else R0 i
    have he : envOf l R1 k = envOf l R0 k := envOf_congr k fun i hi => by simp only [R1]; rw [if_neg (by omega)]
    have he1 : envOf l R1 (k + 1) = (match o.dst with | some t => (t, Rk) | none => (0, Rk)) :: envOf l R0 k := by
      simp only [envOf, hok, Option.bind_some, hs, he]
      simp [R1]
    obtain ⟨R, h1, h2, h3, h4⟩ := tele_gives hdst r (k + 1) R1 (by simp at hk; omega) (fun j => by have := hr (j + 1); simpa [Nat.add_assoc, Nat.add_comm 1 j] using this) (by rw [he1]; exact ht)
    have hRk : R k = Rk := (h1 k (by omega)).trans (by simp [R1])
    refine ⟨R, fun i hi => (h1 i (by omega)).trans (by simp only [R1]; rw [if_neg (by omega)]), fun i hi hil => ?_, fun i o' hi ho' => ?_, h4⟩
    · by_cases hik : i = k
      · subst hik; rw [hRk]; exact hm
      · exact h2 i (by omega) hil
    · by_cases hik : i = k
      · subst hik
        have : o' = o := Option.some.inj (ho'.symm.trans hok)
        subst this
        have hee : envOf l R i = envOf l R0 i := envOf_congr i fun m hmi => (h1 m (by omega)).trans (by simp only [R1]; rw [if_neg (by omega)])
        rw [hRk, hee]
        exact hob
      · exact h3 i o' (by omega) ho'

theorem puts_slots (ρ : Nat → Value) : ∀ (l : List Oper) (a : Act), (puts ρ a l).defers = a.defers ∧ (puts ρ a l).tmps.size = a.tmps.size ∧
    ∀ t, t < a.tmps.size → (puts ρ a l).tmps.getD t undef = if (∃ o ∈ l, o.dst = some t) then ρ t else a.tmps.getD t undef
  | [], a => ⟨rfl, rfl, fun t _ => by simp [puts]⟩
  | o :: l, a => by
    obtain ⟨h1, h2, h3⟩ := puts_slots ρ l (a.put o.dst (match o.dst with | some t => ρ t | none => undef))
    simp only [puts]
    cases hd : o.dst with
    | none =>
      rw [hd] at h1 h2 h3
      refine ⟨h1, h2, fun t ht => ?_⟩
      rw [h3 t ht]
      simp [hd, Act.put]
    | some d =>
      rw [hd] at h1 h2 h3
      refine ⟨h1, by rw [h2]; simp [Act.put], fun t ht => ?_⟩
      rw [h3 t (by simpa [Act.put] using ht)]
      by_cases hex : ∃ o' ∈ l, o'.dst = some t
      · rw [if_pos hex, if_pos]
        obtain ⟨o', ho', hd'⟩ := hex
        exact ⟨o', by simp [ho'], hd'⟩
      · rw [if_neg hex]
        by_cases hdt : d = t
        · subst hdt
          rw [if_pos ⟨o, by simp, hd⟩]
          simp [Act.put, ht]
        · rw [if_neg]
          · simp [Act.put, Array.getElem?_setIfInBounds_ne hdt]
          · rintro ⟨o', ho', hd'⟩
            rcases List.mem_cons.1 ho' with rfl | ho'
            · rw [hd] at hd'; injection hd' with hd'; exact hdt hd'
            · exact hex ⟨o', ho', hd'⟩

theorem act_ext {a b : Act} (hd : a.defers = b.defers) (hs : a.tmps.size = b.tmps.size) (h : ∀ t, t < a.tmps.size → a.tmps.getD t undef = b.tmps.getD t undef) : a = b := by
  obtain ⟨ta, da⟩ := a
  obtain ⟨tb, db⟩ := b
  simp only at hd hs h
  subst hd
  have : ta = tb := Array.ext hs fun i h1 h2 => by
    have := h i h1
    simpa [h1, h2] using this
  rw [this]

/-- **A region that draws its order, each operation looked at once.** -/
theorem wp_region_mono {id : Nat} {Q : Exit → Act → World → Prop} {a : Act} {w : World} {l : List Oper} (hm : P.follows .mixedOrders = true) (hB : monoB .any l.toArray a.tmps.size = true)
    (h : Tele P l.toArray a w (fun ρ w' => Q .normal (puts ρ a l) w') l []) : (Code.region id l.toArray true).wp P Q a w := by
  obtain ⟨hsel, hB2⟩ := monoB_spec hB
  have hdst : ∀ (i : Nat) (oi : Oper), l[i]? = some oi → ∃ s, oi.dst = some s := fun i oi hoi => by
    obtain ⟨_, ⟨t, ht, _⟩, _⟩ := hB2 i oi (by simpa using hoi)
    exact ⟨t, ht⟩
  obtain ⟨R, _, h2, h3, h4⟩ := tele_gives hdst l 0 (fun _ _ _ => True) (by simp) (fun j => by simp) h
  let R' : Nat → Rel := fun i => if i < l.length then R i else fun _ _ => False
  have hRR : ∀ i, i < l.length → R' i = R i := fun i hi => by simp only [R']; rw [if_pos hi]
  refine wp_region_any hm ?_
  refine wpAny_mono (R := R') (w0 := w) rfl hB ⟨fun i v w1 w2 hr he => ?_, fun j oj hoj ρ w1 he hl => ?_⟩ ?_ _ _ _ _ ?_ ?_
  · by_cases hi : i < l.length
    · rw [hRR i hi] at hr ⊢; exact h2 i (Nat.zero_le _) hi v w1 w2 hr he
    · simp only [R'] at hr; rw [if_neg hi] at hr; exact hr.elim
  · have hoj' : l[j]? = some oj := by simpa using hoj
    have hjl : j < l.length := (List.getElem?_eq_some_iff.1 hoj').1
    rw [hRR j hjl]
    refine h3 j oj (Nat.zero_le _) hoj' ρ w1 he (known_of fun t ht => ?_)
    obtain ⟨g1, g2⟩ := hl t ht
    refine fact_of hdst j (by omega) (fun i oi hi hoi hdi => ?_) fun hno => g2 fun i oi hi hoi => hno i oi hi (by simpa using hoi)
    have := g1 i oi hi (by simpa using hoi) hdi
    rwa [hRR i (by omega)] at this
  · intro listed a1 w1 hi hall
    have hslot : a1 = puts (fun t => a1.tmps.getD t undef) a l := by
      obtain ⟨p1, p2, p3⟩ := puts_slots (fun t => a1.tmps.getD t undef) l a
      refine act_ext (hi.defers.trans p1.symm) (hi.size.trans p2.symm) fun t ht => ?_
      rw [p3 t (by rw [← hi.size]; exact ht)]
      by_cases hex : ∃ o ∈ l, o.dst = some t
      · rw [if_pos hex]
      · rw [if_neg hex]
        exact hi.rest t fun i oi hoi _ hdi => hex ⟨oi, List.mem_of_getElem? (by simpa using hoi), hdi⟩
    rw [hslot]
    refine h4 _ w1 hi.ext (envFacts_of hdst (fun i oi t hoi hdi => ?_) l.length (Nat.le_refl _))
    have hil : i < l.length := (List.getElem?_eq_some_iff.1 hoi).1
    have := hi.done i oi t (by simpa using hoi) (hall i (by simpa using hil)) hdi
    rwa [hRR i hil] at this
  · simp
  · refine ⟨⟨rfl, rfl, rfl, Nat.le_refl _, fun _ _ => rfl⟩, rfl, rfl, by simp, fun j oj _ hl => ?_, fun i oi t _ hl => ?_, fun t _ => rfl⟩
    · exfalso
      rcases Nat.lt_or_ge j l.length with h | h
      · simp [h] at hl
      · simp [Array.getElem?_replicate] at hl; split at hl <;> simp at hl
    · exfalso
      rcases Nat.lt_or_ge i l.length with h | h
      · simp [h] at hl
      · simp [Array.getElem?_replicate] at hl; split at hl <;> simp at hl
end
/-! ### For use: one operation at a time -/
/-- A predicate that new memory does not disturb. -/
structure MRel where
  rel : Rel
  mono : ∀ v w w', rel v w → Ext w w' → rel v w'
def isV (x : Value) : MRel := ⟨fun v _ => v = x, fun _ _ _ h _ => h⟩

section
variable {P : Program} {ops : Array Oper} {a0 : Act} {w0 : World} {Fin : (Nat → Value) → World → Prop} {o : Oper} {rest : List Oper} {env : Env} {t : Tmp}

theorem tele_any (hd : o.dst = some t) (R : MRel) (ho : Obl P ops a0 w0 env o R.rel) (hr : Tele P ops a0 w0 Fin rest ((t, R.rel) :: env)) : Tele P ops a0 w0 Fin (o :: rest) env :=
  ⟨R.rel, R.mono, ho, by rw [hd]; exact hr⟩

theorem fact_one {ρ : Nat → Value} {w : World} {s : Tmp} (h : Known env a0 ρ w [s]) : Fact a0 ρ w s env := h.1

/-- move, assign of a slot: what is known of the source is known of the slot. -/
theorem tele_move {s : Tmp} (hd : o.dst = some t) (hop : o.op = .move (.tmp s) ∨ o.op = .assign (.tmp s)) (hg : o.guard = none) (R : MRel) (hR : ∀ ρ w, Fact a0 ρ w s env → R.rel (ρ s) w)
    (hr : Tele P ops a0 w0 Fin rest ((t, R.rel) :: env)) : Tele P ops a0 w0 Fin (o :: rest) env := by
  refine tele_any hd R (fun ρ w he hk => ?_) hr
  have hw : wantedR ops o ρ = true := by unfold wantedR Region.wanted; rw [hg]
  rw [if_pos hw]
  have hl : o.looksAt ops = [s] := by rcases hop with hop | hop <;> simp [Oper.looksAt, hop, hg, Op.operands]
  rw [hl] at hk
  have hx : (execOp (evR ρ) o).run P w = .ok (.value (ρ s)) w := by rcases hop with hop | hop <;> simp [execOp, hop, evR]
  rw [hx]
  exact ⟨Ext.refl _, hR ρ w hk.1⟩

/-- An operation that leaves the world alone and whose value is known. -/
theorem tele_val (hd : o.dst = some t) (x : Value) (hw : ∀ ρ w, Known env a0 ρ w (o.looksAt ops) → wantedR ops o ρ = true)
    (ho : ∀ ρ w, Ext w0 w → Known env a0 ρ w (o.looksAt ops) → (execOp (evR ρ) o).run P w = .ok (.value x) w)
    (hr : Tele P ops a0 w0 Fin rest ((t, (isV x).rel) :: env)) : Tele P ops a0 w0 Fin (o :: rest) env := by
  refine tele_any hd (isV x) (fun ρ w he hk => ?_) hr
  rw [if_pos (hw ρ w hk), ho ρ w he hk]
  exact ⟨Ext.refl _, rfl⟩

/-- A call of a function of the program. -/
theorem run_call_func {f : FuncId} {fn : Func} {args : Array Operand} {ts : Array TypeId} (hop : o.op = .call { callee := .value (.func f), args := args, argTypes := ts })
    (hf : P.funcs[f]? = some fn) (hn : ((fn.name == "runtime.NumGoroutine") || fn.body.isNone) = false) (ρ : Nat → Value) (w : World) : (execOp (evR ρ) o).run P w = .ok (.enter f (args.map (evR ρ))) w := by
  have h1 : (fn.name == "runtime.NumGoroutine") = false := by
    cases h : (fn.name == "runtime.NumGoroutine") with
    | false => rfl
    | true => rw [h] at hn; cases hn
  have h2 : fn.body.isNone = false := by
    cases h : fn.body.isNone with
    | false => rfl
    | true => rw [h] at hn; simp at hn
  have h1' : ¬ fn.name = "runtime.NumGoroutine" := by simpa using h1
  have h2' : ¬ fn.body = none := by intro h; simp [h] at h2
  simp only [execOp, hop, resolve, evR, Deferred.ofValue, invoke, callFunc]
  simp [hf, h1', h2']

theorem tele_call (hd : o.dst = some t) {f : FuncId} {fn : Func} {args : Array Operand} {ts : Array TypeId} (hop : o.op = .call { callee := .value (.func f), args := args, argTypes := ts })
    (hf : P.funcs[f]? = some fn) (hn : ((fn.name == "runtime.NumGoroutine") || fn.body.isNone) = false) (R : MRel)
    (hw : ∀ ρ w, Known env a0 ρ w (o.looksAt ops) → wantedR ops o ρ = true)
    (ho : ∀ ρ w, Ext w0 w → Known env a0 ρ w (o.looksAt ops) → Calls P f (args.map (evR ρ)) w fun e w' => ∃ v, e = .returned v ∧ Ext w w' ∧ R.rel v w')
    (hr : Tele P ops a0 w0 Fin rest ((t, R.rel) :: env)) : Tele P ops a0 w0 Fin (o :: rest) env := by
  refine tele_any hd R (fun ρ w he hk => ?_) hr
  rw [if_pos (hw ρ w hk), run_call_func hop hf hn ρ w]
  exact ho ρ w he hk

/-- An operation that is passed over. -/
theorem tele_pass (hd : o.dst = some t) (hw : ∀ ρ w, Known env a0 ρ w (o.looksAt ops) → wantedR ops o ρ = false)
    (hr : Tele P ops a0 w0 Fin rest ((t, (isV undef).rel) :: env)) : Tele P ops a0 w0 Fin (o :: rest) env := by
  refine tele_any hd (isV undef) (fun ρ w _ hk => ?_) hr
  rw [hw ρ w hk, if_neg (by simp)]
  rfl

theorem tele_nil (h : ∀ ρ w, Ext w0 w → EnvFacts ρ w env → Fin ρ w) : Tele P ops a0 w0 Fin [] env := h
end
end Mono
end Go.Proofs.Ytocdifjdeifclaa

/-
  The law for regions that draw their order, for operations whose guard is not decided: the slot holds the value if the guard holds, and nothing otherwise.
-/
namespace Go.Proofs.Ytocdifjdeifclaa
namespace Mono
open Go.RowKit
/-- The value, if the guard holds. -/
def ifV (g : Bool) (x : Value) : Value := if g = true then x else undef
theorem ifV_true {g : Bool} {x : Value} (h : g = true) : ifV g x = x := by unfold ifV; rw [if_pos h]
theorem ifV_false {g : Bool} {x : Value} (h : g = false) : ifV g x = undef := by unfold ifV; rw [if_neg (by simp [h])]
theorem asBoolR_bool (b : Bool) : asBoolR (.bool b) = some b := rfl
theorem asBoolR_undef : asBoolR undef = none := rfl
/-- What holds under a guard. -/
def ifR (g : Bool) (R : MRel) : MRel := ⟨fun v w => g = true → R.rel v w, fun v w w' h he hg => R.mono v w w' (h hg) he⟩
section
variable {P : Program} {ops : Array Oper} {a0 : Act} {w0 : World} {Fin : (Nat → Value) → World → Prop} {o : Oper} {rest : List Oper} {env : Env} {t : Tmp}
theorem tele_gval (hd : o.dst = some t) (g : Bool) (x : Value) (hw : ∀ ρ w, Known env a0 ρ w (o.looksAt ops) → wantedR ops o ρ = g)
    (ho : ∀ ρ w, Ext w0 w → Known env a0 ρ w (o.looksAt ops) → g = true → (execOp (evR ρ) o).run P w = .ok (.value x) w)
    (hr : Tele P ops a0 w0 Fin rest ((t, (isV (ifV g x)).rel) :: env)) : Tele P ops a0 w0 Fin (o :: rest) env := by
  refine tele_any hd (isV (ifV g x)) (fun ρ w he hk => ?_) hr
  rw [hw ρ w hk]
  cases hg : g
  · rw [if_neg (by simp)]
    exact (ifV_false rfl).symm
  · rw [if_pos rfl, ho ρ w he hk hg, ifV_true rfl]
    exact ⟨Ext.refl _, rfl⟩
theorem tele_gcall (hd : o.dst = some t) {f : FuncId} {fn : Func} {args : Array Operand} {ts : Array TypeId} (hop : o.op = .call { callee := .value (.func f), args := args, argTypes := ts })
    (hf : P.funcs[f]? = some fn) (hn : ((fn.name == "runtime.NumGoroutine") || fn.body.isNone) = false) (g : Bool) (x : Value)
    (hw : ∀ ρ w, Known env a0 ρ w (o.looksAt ops) → wantedR ops o ρ = g)
    (ho : ∀ ρ w, Ext w0 w → Known env a0 ρ w (o.looksAt ops) → g = true → Calls P f (args.map (evR ρ)) w fun e w' => e = .returned x ∧ Ext w w')
    (hr : Tele P ops a0 w0 Fin rest ((t, (isV (ifV g x)).rel) :: env)) : Tele P ops a0 w0 Fin (o :: rest) env := by
  refine tele_any hd (isV (ifV g x)) (fun ρ w he hk => ?_) hr
  rw [hw ρ w hk]
  cases hg : g
  · rw [if_neg (by simp)]
    exact (ifV_false rfl).symm
  · rw [if_pos rfl, run_call_func hop hf hn ρ w, ifV_true rfl]
    refine (ho ρ w he hk hg).mono ?_
    rintro e w' ⟨rfl, hx⟩
    exact ⟨_, rfl, hx, rfl⟩
/-- A call under a guard, of whose value something is told. -/
theorem tele_gcallR (hd : o.dst = some t) {f : FuncId} {fn : Func} {args : Array Operand} {ts : Array TypeId} (hop : o.op = .call { callee := .value (.func f), args := args, argTypes := ts })
    (hf : P.funcs[f]? = some fn) (hn : ((fn.name == "runtime.NumGoroutine") || fn.body.isNone) = false) (g : Bool) (R : MRel)
    (hw : ∀ ρ w, Known env a0 ρ w (o.looksAt ops) → wantedR ops o ρ = g)
    (ho : ∀ ρ w, Ext w0 w → Known env a0 ρ w (o.looksAt ops) → g = true → Calls P f (args.map (evR ρ)) w fun e w' => ∃ v, e = .returned v ∧ Ext w w' ∧ R.rel v w')
    (hr : Tele P ops a0 w0 Fin rest ((t, (ifR g R).rel) :: env)) : Tele P ops a0 w0 Fin (o :: rest) env := by
  refine tele_any hd (ifR g R) (fun ρ w he hk => ?_) hr
  rw [hw ρ w hk]
  cases hg : g
  · rw [if_neg (by simp)]
    intro h
    simp at h
  · rw [if_pos rfl, run_call_func hop hf hn ρ w]
    refine (ho ρ w he hk hg).mono ?_
    rintro e w' ⟨v, rfl, hx, hr⟩
    exact ⟨v, rfl, hx, fun _ => hr⟩
theorem tele_gany (hd : o.dst = some t) (g : Bool) (R : MRel) (hw : ∀ ρ w, Known env a0 ρ w (o.looksAt ops) → wantedR ops o ρ = g)
    (ho : ∀ ρ w, Ext w0 w → Known env a0 ρ w (o.looksAt ops) → g = true → ∃ v w', (execOp (evR ρ) o).run P w = .ok (.value v) w' ∧ Ext w w' ∧ R.rel v w')
    (hr : Tele P ops a0 w0 Fin rest ((t, (ifR g R).rel) :: env)) : Tele P ops a0 w0 Fin (o :: rest) env := by
  refine tele_any hd (ifR g R) (fun ρ w he hk => ?_) hr
  rw [hw ρ w hk]
  cases hg : g
  · rw [if_neg (by simp)]
    intro h
    simp at h
  · obtain ⟨v, w', hrun, hx, hR⟩ := ho ρ w he hk hg
    rw [if_pos rfl, hrun]
    exact ⟨hx, fun _ => hR⟩
end
end Mono
end Go.Proofs.Ytocdifjdeifclaa

/-
  The law of Mono for a region that keeps the text's order: each operation looked at once, whatever the guards say.
-/
namespace Go.Proofs.Ytocdifjdeifclaa
namespace Mono
open Go.RowKit
/-- Each operation has a slot of its own. -/
def seqB (ops : Array Oper) (n : Nat) : Bool :=
  Region.noSelect ops && (List.range ops.size).all fun j => match ops[j]? with
    | none => true
    | some oj => (match oj.dst with | some t => decide (t < n) | none => false) &&
      (List.range j).all fun i => match ops[i]? with
        | none => true
        | some oi => oi.dst != oj.dst
section
variable {P : Program} {ops : Array Oper} {a0 : Act} {w0 : World}
theorem seqB_spec {n : Nat} (h : seqB ops n = true) : Region.noSelect ops = true ∧ ∀ (j : Nat) (oj : Oper), ops[j]? = some oj → (∃ t, oj.dst = some t ∧ t < n) ∧ ∀ (i : Nat) (oi : Oper), i < j → ops[i]? = some oi → oi.dst ≠ oj.dst := by
  simp only [seqB, Bool.and_eq_true, List.all_eq_true, List.mem_range] at h
  refine ⟨h.1, fun j oj hj => ?_⟩
  have hjs : j < ops.size := (Array.getElem?_eq_some_iff.1 hj).1
  have h1 := h.2 j hjs
  simp only [hj, Bool.and_eq_true, List.all_eq_true, List.mem_range] at h1
  obtain ⟨hd, hp⟩ := h1
  refine ⟨?_, fun i oi hi hoi => ?_⟩
  · cases hdd : oj.dst with
    | none => simp [hdd] at hd
    | some t => exact ⟨t, rfl, by simpa [hdd] using hd⟩
  · have h2 := hp i hi
    simpa only [hoi, bne_iff_ne, ne_eq] using h2
structure SInv (ops : Array Oper) (a0 : Act) (w0 : World) (R : Nat → Rel) (k : Nat) (a : Act) (w : World) : Prop where
  ext : Ext w0 w
  defers : a.defers = a0.defers
  size : a.tmps.size = a0.tmps.size
  done : ∀ (i : Nat) (oi : Oper) (t : Tmp), i < k → ops[i]? = some oi → oi.dst = some t → R i (a.tmps.getD t undef) w
  rest : ∀ (t : Tmp), (∀ (i : Nat) (oi : Oper), i < k → ops[i]? = some oi → oi.dst ≠ some t) → a.tmps.getD t undef = a0.tmps.getD t undef
theorem wpList_seq {n : Nat} {R : Nat → Rel} {Q : Exit → Act → World → Prop} (hn : a0.tmps.size = n) (hB : seqB ops n = true) (hR : Rspec P ops a0 w0 R)
    (hfin : ∀ a w, SInv ops a0 w0 R ops.size a w → Q .normal a w) :
    ∀ (l : List Oper) (k : Nat) (a : Act) (w : World), k + l.length = ops.size → (∀ j, l[j]? = ops[k + j]?) → SInv ops a0 w0 R k a w → wpList P ops Q l a w
  | [], k, a, w, hk, _, hi => by
    have : k = ops.size := by simpa using hk
    subst this
    exact hfin _ _ hi
  | oj :: l, k, a, w, hk, hl, hi => by
    obtain ⟨hsel, hB2⟩ := seqB_spec hB
    have hoj : ops[k]? = some oj := by simpa using (hl 0).symm
    obtain ⟨⟨d, hd, hdn⟩, hpair⟩ := hB2 k oj hoj
    have hszall : ∀ (i : Nat) t, ((ops[i]?).bind (·.dst)) = some t → t < a.tmps.size := by
      intro i t ht
      cases hoi : ops[i]? with
      | none => simp [hoi] at ht
      | some oi =>
        obtain ⟨⟨d', hd', hdn'⟩, _⟩ := hB2 i oi hoi
        simp only [hoi, Option.bind_some, hd'] at ht
        injection ht with ht
        rw [hi.size, hn, ← ht]; exact hdn'
    have hobl := hR.2 k oj hoj (fun t => a.tmps.getD t undef) w hi.ext fun t _ => ⟨fun i oi hik hoi hdi => hi.done i oi t hik hoi hdi, fun hno => hi.rest t hno⟩
    have hexec : execOp (evR fun t => a.tmps.getD t undef) oj = execOp a.eval oj :=
      execOp_congr oj (fun cs b => Region.noSelect_spec hsel k oj cs b hoj) fun x _ => (eval_evR a x).symm
    rw [hexec] at hobl
    have hnext : ∀ v w', Ext w w' → R k v w' → SInv ops a0 w0 R (k + 1) (a.put oj.dst v) w' := by
      intro v w' he hv
      have hdsz : d < a.tmps.size := by rw [hi.size, hn]; exact hdn
      rw [hd]
      refine ⟨hi.ext.trans he, hi.defers, by simp [Act.put, hi.size], ?_, ?_⟩
      · intro i oi t hik hoi hdi
        by_cases hij : i = k
        · subst hij
          have : oi = oj := Option.some.inj (hoi.symm.trans hoj)
          subst this
          rw [hd] at hdi
          injection hdi with hdi
          subst hdi
          have : (a.put (some d) v).tmps.getD d undef = v := by simp [Act.put, hdsz]
          rw [this]
          exact hv
        · have hne : d ≠ t := by
            intro heq
            subst heq
            exact hpair i oi (by omega) hoi (hdi.trans hd.symm)
          have : (a.put (some d) v).tmps.getD t undef = a.tmps.getD t undef := by simp [Act.put, Array.getElem?_setIfInBounds_ne hne]
          rw [this]
          exact hR.1 i _ w w' (hi.done i oi t (by omega) hoi hdi) he
      · intro t hno
        have hne : d ≠ t := fun heq => hno k oj (by omega) hoj (heq ▸ hd)
        have : (a.put (some d) v).tmps.getD t undef = a.tmps.getD t undef := by simp [Act.put, Array.getElem?_setIfInBounds_ne hne]
        rw [this]
        exact hi.rest t fun i oi hik hoi => hno i oi (by omega) hoi
    have hrec := fun v w' (he : Ext w w') (hv : R k v w') => wpList_seq hn hB hR hfin l (k + 1) _ w' (by simp at hk; omega) (fun j => by have := hl (j + 1); simpa [Nat.add_assoc, Nat.add_comm 1 j] using this) (hnext v w' he hv)
    unfold wpList
    rw [wanted_evR a oj hszall]
    split
    · rename_i hw
      rw [if_pos hw] at hobl
      exact .inl (wp_of_monoUpon hobl fun v w' he hv => hrec v w' he hv)
    · rename_i hw
      rw [if_neg hw] at hobl
      exact hrec undef w (Ext.refl _) hobl
/-- **A region in the text's order, each operation looked at once.** -/
theorem wp_region_seq {id : Nat} {Q : Exit → Act → World → Prop} {a : Act} {w : World} {l : List Oper} (hB : seqB l.toArray a.tmps.size = true)
    (h : Tele P l.toArray a w (fun ρ w' => Q .normal (puts ρ a l) w') l []) : (Code.region id l.toArray false).wp P Q a w := by
  obtain ⟨hsel, hB2⟩ := seqB_spec hB
  have hdst : ∀ (i : Nat) (oi : Oper), l[i]? = some oi → ∃ s, oi.dst = some s := fun i oi hoi => by
    obtain ⟨⟨t, ht, _⟩, _⟩ := hB2 i oi (by simpa using hoi)
    exact ⟨t, ht⟩
  obtain ⟨R, _, h2, h3, h4⟩ := tele_gives hdst l 0 (fun _ _ _ => True) (by simp) (fun j => by simp) h
  let R' : Nat → Rel := fun i => if i < l.length then R i else fun _ _ => False
  have hRR : ∀ i, i < l.length → R' i = R i := fun i hi => by simp only [R']; rw [if_pos hi]
  refine wp_region_lit ?_
  refine wpList_seq (R := R') (w0 := w) rfl hB ⟨fun i v w1 w2 hr he => ?_, fun j oj hoj ρ w1 he hl => ?_⟩ ?_ l 0 a w (by simp) (fun j => by simp) ⟨Ext.refl _, rfl, rfl, fun i oi t hi => absurd hi (by omega), fun t _ => rfl⟩
  · by_cases hi : i < l.length
    · rw [hRR i hi] at hr ⊢; exact h2 i (Nat.zero_le _) hi v w1 w2 hr he
    · simp only [R'] at hr; rw [if_neg hi] at hr; exact hr.elim
  · have hoj' : l[j]? = some oj := by simpa using hoj
    have hjl : j < l.length := (List.getElem?_eq_some_iff.1 hoj').1
    rw [hRR j hjl]
    refine h3 j oj (Nat.zero_le _) hoj' ρ w1 he (known_of fun t ht => ?_)
    obtain ⟨g1, g2⟩ := hl t ht
    refine fact_of hdst j (by omega) (fun i oi hi hoi hdi => ?_) fun hno => g2 fun i oi hi hoi => hno i oi hi (by simpa using hoi)
    have := g1 i oi hi (by simpa using hoi) hdi
    rwa [hRR i (by omega)] at this
  · intro a1 w1 hi
    have hslot : a1 = puts (fun t => a1.tmps.getD t undef) a l := by
      obtain ⟨p1, p2, p3⟩ := puts_slots (fun t => a1.tmps.getD t undef) l a
      refine act_ext (hi.defers.trans p1.symm) (hi.size.trans p2.symm) fun t ht => ?_
      rw [p3 t (by rw [← hi.size]; exact ht)]
      by_cases hex : ∃ o ∈ l, o.dst = some t
      · rw [if_pos hex]
      · rw [if_neg hex]
        exact hi.rest t fun i oi _ hoi hdi => hex ⟨oi, List.mem_of_getElem? (by simpa using hoi), hdi⟩
    rw [hslot]
    refine h4 _ w1 hi.ext (envFacts_of hdst (fun i oi t hoi hdi => ?_) l.length (Nat.le_refl _))
    have hil : i < l.length := (List.getElem?_eq_some_iff.1 hoi).1
    have := hi.done i oi t (by simpa using hil) (by simpa using hoi) hdi
    rwa [hRR i hil] at this
end
end Mono
end Go.Proofs.Ytocdifjdeifclaa

/-
  A law for regions that draw their order in which some operations follow one another by their edges (a chain: calls, appends, stores, whatever they do to memory), and the others only read what the chain has not yet touched.
-/
namespace Go.Proofs.Ytocdifjdeifclaa
namespace Mono
open Go.RowKit

def chainUpon (P : Program) (R : Value → World → Prop) : Result Next → Prop
  | .ok (.value v) w' => R v w'
  | .ok .skip w' => R undef w'
  | .ok (.enter f args) w' => Calls P f args w' (fun e w'' => ∃ v, e = .returned v ∧ R v w'')
  | _ => False
theorem wp_of_chainUpon {P : Program} {o : Oper} {a : Act} {w : World} {R : Value → World → Prop} {K : Act → World → Prop} {Q : Exit → Act → World → Prop}
    (h : chainUpon P R ((execOp a.eval o).run P w)) (hK : ∀ v w', R v w' → K (a.put o.dst v) w') : o.wp P a w K Q := by
  unfold Oper.wp
  generalize (execOp a.eval o).run P w = r at *
  cases r with
  | ok n w' =>
    cases n <;> simp only [chainUpon] at h <;> simp only [Oper.upon]
    case value u => exact hK _ _ h
    case skip => exact hK _ _ h
    case enter f args => exact h.mono fun e w'' ⟨v, he, h1⟩ => by subst he; exact hK _ _ h1
  | halt x w' => simp only [chainUpon] at h

/-- Has an operation an edge that binds, to number i? -/
def ties (md : Region.Mode) (o : Oper) (i : Nat) : Bool := o.after.any fun e => Region.binds md e && e.on == i
def chainOpB (md : Region.Mode) (ops : Array Oper) (n : Nat) (C : List Nat) (hi : Nat → Nat) (j : Nat) (oj : Oper) : Bool :=
  oj.guard.isNone && (oj.after.all fun e => !Region.binds md e || decide (e.on < j)) && (match oj.dst with | some t => decide (t < n) | none => C.contains j) &&
  ((List.range j).all fun i => match ops[i]? with
    | none => true
    | some oi => (ties md oj i && (oi.dst.isNone || oi.dst != oj.dst)) || oi.apart ops oj) &&
  (C.contains j || ((decide (C.length ≤ hi j) || (match ops[C.getD (hi j) 0]? with | some oc => ties md oc j | none => false)) &&
    (C.all fun c => match ops[c]? with | some oc => (match oc.dst with | some t => !(oj.looksAt ops).contains t | none => true) | none => true)))
def chainB (md : Region.Mode) (ops : Array Oper) (n : Nat) (C : List Nat) (hi : Nat → Nat) : Bool :=
  Region.noSelect ops && ((List.range ops.size).all fun j => match ops[j]? with | none => true | some oj => chainOpB md ops n C hi j oj) &&
  (C.all fun c => decide (c < ops.size)) &&
  ((List.range (C.length - 1)).all fun q => decide (C.getD q 0 < C.getD (q + 1) 0) && match ops[C.getD (q + 1) 0]? with | some o => ties md o (C.getD q 0) | none => false)

section
variable {P : Program} {ops : Array Oper} {md : Region.Mode} {a0 : Act}
theorem ties_spec {o : Oper} {i : Nat} (h : ties md o i = true) : ∃ e ∈ o.after, Region.binds md e = true ∧ e.on = i := by
  obtain ⟨e, he, hb⟩ := Array.any_eq_true'.1 h
  simp only [Bool.and_eq_true, beq_iff_eq] at hb
  exact ⟨e, he, hb.1, hb.2⟩
structure ChainOk (md : Region.Mode) (ops : Array Oper) (n : Nat) (C : List Nat) (hi : Nat → Nat) : Prop where
  sel : Region.noSelect ops = true
  gd : ∀ (j : Nat) (oj : Oper), ops[j]? = some oj → oj.guard = none
  back : ∀ (j : Nat) (oj : Oper), ops[j]? = some oj → ∀ e ∈ oj.after, Region.binds md e = true → e.on < j
  dst : ∀ (j : Nat) (oj : Oper), ops[j]? = some oj → (∀ t, oj.dst = some t → t < n) ∧ (oj.dst = none → j ∈ C)
  pair : ∀ (j : Nat) (oj : Oper), ops[j]? = some oj → ∀ (i : Nat) (oi : Oper), i < j → ops[i]? = some oi → (∀ t, oi.dst = some t → oj.dst ≠ some t) ∧ ((∃ e ∈ oj.after, Region.binds md e = true ∧ e.on = i) ∨ oi.apart ops oj = true)
  side : ∀ (j : Nat) (oj : Oper), ops[j]? = some oj → j ∉ C → (C.length ≤ hi j ∨ ∃ oc, ops[C.getD (hi j) 0]? = some oc ∧ ∃ e ∈ oc.after, Region.binds md e = true ∧ e.on = j) ∧ ∀ c ∈ C, ∀ oc t, ops[c]? = some oc → oc.dst = some t → t ∉ oj.looksAt ops
  inr : ∀ c ∈ C, c < ops.size
  inc : ∀ q, q + 1 < C.length → C.getD q 0 < C.getD (q + 1) 0
  step : ∀ q, q + 1 < C.length → ∃ o, ops[C.getD (q + 1) 0]? = some o ∧ ∃ e ∈ o.after, Region.binds md e = true ∧ e.on = C.getD q 0
theorem chainB_spec {n : Nat} {C : List Nat} {hi : Nat → Nat} (h : chainB md ops n C hi = true) : ChainOk md ops n C hi := by
  simp only [chainB, Bool.and_eq_true, List.all_eq_true, List.mem_range, decide_eq_true_eq] at h
  obtain ⟨⟨⟨h1, h2⟩, h3⟩, h4⟩ := h
  have hop : ∀ (j : Nat) (oj : Oper), ops[j]? = some oj → chainOpB md ops n C hi j oj = true := fun j oj hj => by
    have := h2 j (Array.getElem?_eq_some_iff.1 hj).1
    simpa only [hj] using this
  have hst : ∀ q, q + 1 < C.length → C.getD q 0 < C.getD (q + 1) 0 ∧ ∃ o, ops[C.getD (q + 1) 0]? = some o ∧ ties md o (C.getD q 0) = true := fun q hq => by
    have := h4 q (by omega)
    refine ⟨this.1, ?_⟩
    cases ho : ops[C.getD (q + 1) 0]? with
    | none => rw [ho] at this; exact absurd this.2 (by simp)
    | some o => rw [ho] at this; exact ⟨o, rfl, this.2⟩
  refine ⟨h1, fun j oj hj => ?_, fun j oj hj => ?_, fun j oj hj => ?_, fun j oj hj => ?_, fun j oj hj hjC => ?_, h3, fun q hq => (hst q hq).1, fun q hq => ?_⟩
  all_goals (try have h5 := hop j oj hj)
  all_goals (try simp only [chainOpB, Bool.and_eq_true, Array.all_eq_true_iff_forall_mem, List.all_eq_true, List.mem_range, Bool.or_eq_true, Bool.not_eq_true', decide_eq_true_eq] at h5)
  · simpa using h5.1.1.1.1
  · exact fun e he hb => (h5.1.1.1.2 e he).resolve_left (by simp [hb])
  · refine ⟨fun t ht => ?_, fun ht => ?_⟩
    · have := h5.1.1.2; simpa [ht] using this
    · have := h5.1.1.2; simpa [ht] using this
  · intro i oi hi' hoi
    have h6 := h5.1.2 i hi'
    simp only [hoi, Bool.or_eq_true, Bool.and_eq_true, bne_iff_ne, ne_eq] at h6
    rcases h6 with ⟨h6, h7⟩ | h6
    · refine ⟨fun t ht hjt => ?_, .inl (ties_spec h6)⟩
      rcases h7 with h7 | h7
      · simp [ht] at h7
      · exact h7 (ht.trans hjt.symm)
    · exact ⟨fun t ht hjt => (Oper.apart_spec h6).2.1 t ht hjt, .inr h6⟩
  · have h6 := h5.2
    rcases h6 with h6 | ⟨h6, h7⟩
    · exact absurd (by simpa using h6) hjC
    · refine ⟨?_, fun c hc oc t hoc ht => ?_⟩
      · rcases h6 with h6 | h6
        · exact .inl h6
        · cases ho : ops[C.getD (hi j) 0]? with
          | none => rw [ho] at h6; exact absurd h6 (by simp)
          | some oc => rw [ho] at h6; exact .inr ⟨oc, rfl, ties_spec h6⟩
      · have := h7 c hc
        simpa [hoc, ht] using this
  · obtain ⟨o, ho, ht⟩ := (hst q hq).2
    exact ⟨o, ho, ties_spec ht⟩

/-- The state of affairs: so many of the chain are done. -/
structure CInv (md : Region.Mode) (ops : Array Oper) (a0 : Act) (C : List Nat) (x : Nat → Value) (G : List Value → World → Prop) (listed : Array Bool) (vs : List Value) (a : Act) (w : World) : Prop where
  defers : a.defers = a0.defers
  size : a.tmps.size = a0.tmps.size
  lsize : listed.size = ops.size
  closed : ∀ (j : Nat) (oj : Oper), ops[j]? = some oj → listed.getD j false = true → ∀ e ∈ oj.after, Region.binds md e = true → listed.getD e.on false = true
  le : vs.length ≤ C.length
  pre : ∀ q, q < C.length → (listed.getD (C.getD q 0) false = true ↔ q < vs.length)
  g : G vs w
  sid : ∀ (i : Nat) (oi : Oper) (t : Tmp), ops[i]? = some oi → i ∉ C → listed.getD i false = true → oi.dst = some t → a.tmps.getD t undef = x i
  chn : ∀ (q : Nat) (oi : Oper) (t : Tmp), q < vs.length → ops[C.getD q 0]? = some oi → oi.dst = some t → a.tmps.getD t undef = vs.getD q undef
  rest : ∀ (t : Tmp), (∀ (i : Nat) (oi : Oper), ops[i]? = some oi → listed.getD i false = true → oi.dst ≠ some t) → a.tmps.getD t undef = a0.tmps.getD t undef

/-- What is known of a slot ahead of operation j. -/
structure CLook (ops : Array Oper) (a0 : Act) (C : List Nat) (x : Nat → Value) (vs : List Value) (ρ : Nat → Value) (j : Nat) (t : Tmp) : Prop where
  sid : ∀ (i : Nat) (oi : Oper), i < j → i ∉ C → ops[i]? = some oi → oi.dst = some t → ρ t = x i
  chn : ∀ (q : Nat) (oi : Oper), C.getD q 0 < j → q < C.length → ops[C.getD q 0]? = some oi → oi.dst = some t → ρ t = vs.getD q undef
  non : (∀ (i : Nat) (oi : Oper), i < j → ops[i]? = some oi → oi.dst ≠ some t) → ρ t = a0.tmps.getD t undef
def CSpec (P : Program) (ops : Array Oper) (a0 : Act) (C : List Nat) (hi : Nat → Nat) (x : Nat → Value) (G : List Value → World → Prop) : Prop :=
  (∀ (j : Nat) (oj : Oper), ops[j]? = some oj → j ∉ C → ∀ (ρ : Nat → Value) vs w, vs.length ≤ hi j → G vs w → (∀ t ∈ oj.looksAt ops, CLook ops a0 C x vs ρ j t) → (execOp (evR ρ) oj).run P w = .ok (.value (x j)) w) ∧
  ∀ (q : Nat) (oj : Oper), q < C.length → ops[C.getD q 0]? = some oj → ∀ (ρ : Nat → Value) vs w, vs.length = q → G vs w → (∀ t ∈ oj.looksAt ops, CLook ops a0 C x vs ρ (C.getD q 0) t) → chainUpon P (fun v w' => G (vs ++ [v]) w') ((execOp (evR ρ) oj).run P w)

theorem wpAny_chain {n : Nat} {C : List Nat} {hi : Nat → Nat} {x : Nat → Value} {G : List Value → World → Prop} {Q : Exit → Act → World → Prop} (hn : a0.tmps.size = n) (hB : ChainOk md ops n C hi) (hR : CSpec P ops a0 C hi x G)
    (hfin : ∀ listed vs a w, CInv md ops a0 C x G listed vs a w → (∀ j, j < ops.size → listed.getD j false = true) → Q .normal a w) :
    ∀ (fuel : Nat) (listed : Array Bool) (vs : List Value) (a : Act) (w : World), listed.toList.count false = fuel → CInv md ops a0 C x G listed vs a w → wpAny P md ops Q fuel listed a w
  | 0, listed, vs, a, w, hc, hv => by
    have hnil := ready_nil_of_count (md := md) hv.lsize hc
    exact ⟨hnil, hfin _ _ _ _ hv (all_of_ready_nil hB.back hv.lsize hnil)⟩
  | fuel + 1, listed, vs, a, w, hc, hv => by
    refine ⟨fun hnil => hfin _ _ _ _ hv (all_of_ready_nil hB.back hv.lsize hnil), fun j hj => ?_⟩
    obtain ⟨hjun, oj, hoj, hall⟩ := mem_ready.1 hj
    have hjs : j < ops.size := (Array.getElem?_eq_some_iff.1 hoj).1
    have hjl : j < listed.size := by rw [hv.lsize]; exact hjs
    have hjf := getD_both hjun
    have hszall : ∀ (i : Nat) t, ((ops[i]?).bind (·.dst)) = some t → t < a.tmps.size := by
      intro i t ht
      cases hoi : ops[i]? with
      | none => simp [hoi] at ht
      | some oi =>
        simp only [hoi, Option.bind_some] at ht
        rw [hv.size, hn]
        exact (hB.dst i oi hoi).1 t ht
    have hlook : ∀ t ∈ oj.looksAt ops, CLook ops a0 C x vs (fun t => a.tmps.getD t undef) j t := by
      intro t ht
      have hlisted : ∀ (i : Nat) (oi : Oper), i < j → ops[i]? = some oi → oi.dst = some t → listed.getD i false = true := by
        intro i oi hij hoi hdi
        rcases (hB.pair j oj hoj i oi hij hoi).2 with ⟨e, he, hb, hon⟩ | hap
        · have := hall e he hb
          rwa [hon] at this
        · exact absurd ht ((Oper.apart_spec hap).1 t hdi)
      refine ⟨fun i oi hij hiC hoi hdi => hv.sid i oi t hoi hiC (hlisted i oi hij hoi hdi) hdi, fun q oi hq hqC hoi hdi => hv.chn q oi t ((hv.pre q hqC).1 (hlisted _ oi hq hoi hdi)) hoi hdi, fun hno => hv.rest t fun i oi hoi hli hdi => ?_⟩
      rcases Nat.lt_trichotomy i j with hij | hij | hij
      · exact hno i oi hij hoi hdi
      · subst hij; rw [hjf] at hli; cases hli
      · rcases (hB.pair i oi hoi j oj hij hoj).2 with ⟨e, he, hb, hon⟩ | hap
        · have := hv.closed i oi hoi hli e he hb
          rw [hon, hjf] at this
          cases this
        · exact (Oper.apart_spec hap).2.2 t hdi ht
    have hexec : execOp (evR fun t => a.tmps.getD t undef) oj = execOp a.eval oj :=
      execOp_congr oj (fun cs b => Region.noSelect_spec hB.sel j oj cs b hoj) fun y _ => (eval_evR a y).symm
    have hwant : Region.wanted oj (yielded ops a.tmps) = true := by unfold Region.wanted; rw [hB.gd j oj hoj]
    -- common to both kinds
    have hcl : ∀ i oi, ops[i]? = some oi → (listed.setIfInBounds j true).getD i false = true → ∀ e ∈ oi.after, Region.binds md e = true → (listed.setIfInBounds j true).getD e.on false = true := by
      intro i oi hoi hli e he hb
      have hmono : listed.getD e.on false = true → (listed.setIfInBounds j true).getD e.on false = true := fun h => by
        by_cases hej : j = e.on
        · rw [← hej]; simp [hjl]
        · rw [getD_set_ne false hej]; exact h
      by_cases hij : j = i
      · subst hij
        have : oi = oj := Option.some.inj (hoi.symm.trans hoj)
        subst this
        exact hmono (hall e he hb)
      · rw [getD_set_ne false hij] at hli
        exact hmono (hv.closed i oi hoi hli e he hb)
    have hput : ∀ v t, oj.dst = some t → (a.put oj.dst v).tmps.getD t undef = v := fun v t ht => by
      have := hszall j t (by rw [hoj]; exact ht)
      rw [ht]; simp [Act.put, this]
    have hput' : ∀ v t, oj.dst ≠ some t → (a.put oj.dst v).tmps.getD t undef = a.tmps.getD t undef := fun v t ht => by
      cases hd : oj.dst with
      | none => simp [Act.put]
      | some d =>
        have hne : d ≠ t := fun e => ht (by rw [hd, e])
        simp [Act.put, Array.getElem?_setIfInBounds_ne hne]
    have hdis : ∀ (i : Nat) (oi : Oper) (t : Tmp), i ≠ j → ops[i]? = some oi → oi.dst = some t → oj.dst ≠ some t := fun i oi t hij hoi ht hjt => by
      rcases Nat.lt_or_gt_of_ne hij with h | h
      · exact (hB.pair j oj hoj i oi h hoi).1 t ht hjt
      · exact (hB.pair i oi hoi j oj h hoj).1 t hjt ht
    have hrest : ∀ v t, (∀ i oi, ops[i]? = some oi → (listed.setIfInBounds j true).getD i false = true → oi.dst ≠ some t) → (a.put oj.dst v).tmps.getD t undef = a0.tmps.getD t undef := fun v t hno => by
      rw [hput' v t (hno j oj hoj (by simp [hjl]))]
      refine hv.rest t fun i oi hoi hli hdi => ?_
      by_cases hij : j = i
      · subst hij; rw [hjf] at hli; cases hli
      · exact hno i oi hoi (by rw [getD_set_ne false hij]; exact hli) hdi
    have hcnt : (listed.setIfInBounds j true).toList.count false = fuel := by
      have := count_set hjl hjun
      omega
    have hsz : ∀ v, (a.put oj.dst v).tmps.size = a0.tmps.size := fun v => by
      cases hd : oj.dst <;> simp [Act.put, hv.size]
    have hdf : ∀ v, (a.put oj.dst v).defers = a0.defers := fun v => by
      cases hd : oj.dst <;> simp [Act.put, hv.defers]
    unfold wpOp
    simp only [hoj]
    rw [if_pos hwant]
    refine .inl ?_
    by_cases hjC : j ∈ C
    · obtain ⟨q, hq, hqj⟩ := List.getElem_of_mem hjC
      have hqj' : C.getD q 0 = j := by rw [List.getD_eq_getElem?_getD, List.getElem?_eq_getElem hq]; exact hqj
      have hincl : ∀ q1 q2, q1 < q2 → q2 < C.length → C.getD q1 0 < C.getD q2 0 := by
        intro q1 q2 h1 h2
        induction q2 with
        | zero => omega
        | succ m ih =>
          have := hB.inc m h2
          rcases Nat.lt_or_ge q1 m with h | h
          · exact Nat.lt_trans (ih h (by omega)) this
          · obtain rfl : q1 = m := by omega
            exact this
      have hvq : vs.length = q := by
        have h1 : ¬ q < vs.length := fun h => by
          have := (hv.pre q hq).2 h
          rw [hqj', hjf] at this
          cases this
        rcases Nat.lt_or_ge vs.length q with h2 | h2
        · exfalso
          obtain ⟨o, ho, e, he, hb, hon⟩ := hB.step (q - 1) (by omega)
          rw [show q - 1 + 1 = q by omega, hqj', hoj] at ho
          injection ho with ho
          subst ho
          have := hall e he hb
          rw [hon] at this
          have := (hv.pre (q - 1) (by omega)).1 this
          omega
        · omega
      have hobl := hR.2 q oj hq (by rw [hqj']; exact hoj) (fun t => a.tmps.getD t undef) vs w hvq hv.g (by rw [hqj']; exact hlook)
      rw [hexec] at hobl
      refine wp_of_chainUpon hobl fun v w' hg => wpAny_chain hn hB hR hfin fuel _ (vs ++ [v]) _ _ hcnt ⟨hdf v, hsz v, by simp [hv.lsize], hcl, by simp; omega, fun q' hq' => ?_, hg, fun i oi t hoi hiC hli hdi => ?_, fun q' oi t hq' hoi hdi => ?_, hrest v⟩
      · by_cases hqq : q' = q
        · subst hqq
          rw [hqj']
          simp [hjl, hvq]
        · have hne : j ≠ C.getD q' 0 := fun e => by
            rcases Nat.lt_or_gt_of_ne hqq with h | h
            · have := hincl q' q h hq; omega
            · have := hincl q q' h hq'; omega
          rw [getD_set_ne false hne, hv.pre q' hq']
          simp
          omega
      · have hij : j ≠ i := fun e => hiC (e ▸ hjC)
        rw [getD_set_ne false hij] at hli
        rw [hput' v t (hdis i oi t (fun e => hij e.symm) hoi hdi)]
        exact hv.sid i oi t hoi hiC hli hdi
      · by_cases hqq : q' = q
        · subst hqq
          rw [hqj', hoj] at hoi
          injection hoi with hoi
          subst hoi
          rw [hput v t hdi]
          simp [List.getD_eq_getElem?_getD, hvq]
        · have hq2 : q' < q := by simp at hq'; omega
          have hne : C.getD q' 0 ≠ j := fun e => by have := hincl q' q hq2 hq; omega
          rw [hput' v t (hdis _ oi t hne hoi hdi), hv.chn q' oi t (by omega) hoi hdi]
          simp [List.getD_eq_getElem?_getD, List.getElem?_append_left (show q' < vs.length by omega)]
    · have hlehi : vs.length ≤ hi j := by
        rcases (hB.side j oj hoj hjC).1 with h | ⟨oc, hoc, e, he, hb, hon⟩
        · exact Nat.le_trans hv.le h
        · rcases Nat.lt_or_ge (hi j) vs.length with h | h
          · exfalso
            have := (hv.pre (hi j) (Nat.lt_of_lt_of_le h hv.le)).2 h
            have := hv.closed _ oc hoc this e he hb
            rw [hon, hjf] at this
            cases this
          · exact h
      have hobl := hR.1 j oj hoj hjC (fun t => a.tmps.getD t undef) vs w hlehi hv.g hlook
      rw [hexec] at hobl
      have hup : chainUpon P (fun v w' => v = x j ∧ w' = w) ((execOp a.eval oj).run P w) := by rw [hobl]; exact ⟨rfl, rfl⟩
      refine wp_of_chainUpon hup ?_
      rintro v w' ⟨hvx, hww⟩
      rw [hww]
      refine wpAny_chain hn hB hR hfin fuel _ vs _ _ hcnt ⟨hdf v, hsz v, by simp [hv.lsize], hcl, hv.le, fun q' hq' => ?_, hv.g, fun i oi t hoi hiC hli hdi => ?_, fun q' oi t hq' hoi hdi => ?_, hrest v⟩
      · have hne : j ≠ C.getD q' 0 := fun e => hjC (by rw [e, List.getD_eq_getElem?_getD, List.getElem?_eq_getElem hq']; exact List.getElem_mem hq')
        rw [getD_set_ne false hne]
        exact hv.pre q' hq'
      · by_cases hij : j = i
        · subst hij
          have : oi = oj := Option.some.inj (hoi.symm.trans hoj)
          subst this
          rw [hput v t hdi, hvx]
        · rw [getD_set_ne false hij] at hli
          rw [hput' v t (hdis i oi t (fun e => hij e.symm) hoi hdi)]
          exact hv.sid i oi t hoi hiC hli hdi
      · have hq2 : q' < C.length := Nat.lt_of_lt_of_le hq' hv.le
        have hne : C.getD q' 0 ≠ j := fun e => hjC (by rw [← e, List.getD_eq_getElem?_getD, List.getElem?_eq_getElem hq2]; exact List.getElem_mem hq2)
        rw [hput' v t (hdis _ oi t hne hoi hdi)]
        exact hv.chn q' oi t hq' hoi hdi

abbrev EnvC := List (Tmp × (Nat ⊕ Value))
def FactC (a0 : Act) (ρ : Nat → Value) (vs : List Value) (t : Tmp) : EnvC → Prop
  | [] => ρ t = a0.tmps.getD t undef
  | (s, .inr v) :: env => if s = t then ρ t = v else FactC a0 ρ vs t env
  | (s, .inl q) :: env => if s = t then ρ t = vs.getD q undef else FactC a0 ρ vs t env
def KnownC (env : EnvC) (a0 : Act) (ρ : Nat → Value) (vs : List Value) : List Tmp → Prop
  | [] => True
  | t :: ts => FactC a0 ρ vs t env ∧ KnownC env a0 ρ vs ts
def EnvFactsC (ρ : Nat → Value) (vs : List Value) : EnvC → Prop
  | [] => True
  | (t, .inr v) :: env => ρ t = v ∧ EnvFactsC ρ vs env
  | (t, .inl q) :: env => ρ t = vs.getD q undef ∧ EnvFactsC ρ vs env
def addC (o : Oper) (r : Nat ⊕ Value) (env : EnvC) : EnvC := match o.dst with | some t => (t, r) :: env | none => env
def TeleC (P : Program) (ops : Array Oper) (a0 : Act) (C : List Nat) (hi : Nat → Nat) (x : Nat → Value) (G : List Value → World → Prop) (Fin : (Nat → Value) → World → Prop) : Nat → Nat → List Oper → EnvC → Prop
  | _, q, [], env => ∀ ρ vs w, vs.length = q → G vs w → EnvFactsC ρ vs env → Fin ρ w
  | k, q, o :: rest, env =>
    (if C.getD q (k + 1) = k then (∀ ρ vs w, vs.length = q → G vs w → KnownC env a0 ρ vs (o.looksAt ops) → chainUpon P (fun v w' => G (vs ++ [v]) w') ((execOp (evR ρ) o).run P w)) ∧ TeleC P ops a0 C hi x G Fin (k + 1) (q + 1) rest (addC o (.inl q) env)
    else (∀ ρ vs w, vs.length ≤ hi k → G vs w → KnownC env a0 ρ vs (o.looksAt ops) → (execOp (evR ρ) o).run P w = .ok (.value (x k)) w) ∧ TeleC P ops a0 C hi x G Fin (k + 1) q rest (addC o (.inr (x k)) env))
theorem knownC_of {env : EnvC} {ρ : Nat → Value} {vs : List Value} : ∀ {ts : List Tmp}, (∀ t ∈ ts, FactC a0 ρ vs t env) → KnownC env a0 ρ vs ts
  | [], _ => trivial
  | t :: ts, h => ⟨h t (by simp), knownC_of fun s hs => h s (by simp [hs])⟩
/-- What an entry of the environment speaks of. -/
def EnvMemC (ops : Array Oper) (C : List Nat) (x : Nat → Value) (env : EnvC) : Prop :=
  ∀ t r, (t, r) ∈ env → (∃ (i : Nat) (oi : Oper), ops[i]? = some oi ∧ i ∉ C ∧ oi.dst = some t ∧ r = .inr (x i)) ∨ ∃ (q : Nat) (oi : Oper), q < C.length ∧ ops[C.getD q 0]? = some oi ∧ oi.dst = some t ∧ r = .inl q
theorem envFactsC_of {C : List Nat} {x : Nat → Value} {ρ : Nat → Value} {vs : List Value} (h1 : ∀ (i : Nat) (oi : Oper) (t : Tmp), ops[i]? = some oi → i ∉ C → oi.dst = some t → ρ t = x i)
    (h2 : ∀ (q : Nat) (oi : Oper) (t : Tmp), q < C.length → ops[C.getD q 0]? = some oi → oi.dst = some t → ρ t = vs.getD q undef) : ∀ env : EnvC, EnvMemC ops C x env → EnvFactsC ρ vs env
  | [], _ => trivial
  | (t, .inr v) :: env, h => by
    refine ⟨?_, envFactsC_of h1 h2 env fun t r hr => h t r (by simp [hr])⟩
    rcases h t (.inr v) (by simp) with ⟨i, oi, ho, hi, hd, hr⟩ | ⟨q, oi, _, _, _, hr⟩
    · injection hr with hr
      rw [hr]; exact h1 i oi t ho hi hd
    · cases hr
  | (t, .inl q) :: env, h => by
    refine ⟨?_, envFactsC_of h1 h2 env fun t r hr => h t r (by simp [hr])⟩
    rcases h t (.inl q) (by simp) with ⟨i, oi, _, _, _, hr⟩ | ⟨q', oi, hq, ho, hd, hr⟩
    · cases hr
    · injection hr with hr
      rw [hr]; exact h2 q' oi t hq ho hd
theorem getD_other {C : List Nat} {q a b : Nat} (h : q < C.length) : C.getD q a = C.getD q b := by
  rw [List.getD_eq_getElem?_getD, List.getD_eq_getElem?_getD, List.getElem?_eq_getElem h]; rfl
theorem telec_gives {n : Nat} {C : List Nat} {hi : Nat → Nat} {x : Nat → Value} {G : List Value → World → Prop} {Fin : (Nat → Value) → World → Prop} (hB : ChainOk md ops n C hi) {l : List Oper} (hl : ops = l.toArray) :
    ∀ (r : List Oper) (k q : Nat) (env : EnvC), k + r.length = l.length → (∀ j, r[j]? = l[k + j]?) → q ≤ C.length → (∀ i, i < q → C.getD i 0 < k) → (∀ i, q ≤ i → i < C.length → k ≤ C.getD i 0) →
      (∀ ρ vs t, CLook ops a0 C x vs ρ k t → FactC a0 ρ vs t env) → EnvMemC ops C x env → TeleC P ops a0 C hi x G Fin k q r env →
      (∀ (j : Nat) (oj : Oper), k ≤ j → ops[j]? = some oj → j ∉ C → ∀ (ρ : Nat → Value) vs w, vs.length ≤ hi j → G vs w → (∀ t ∈ oj.looksAt ops, CLook ops a0 C x vs ρ j t) → (execOp (evR ρ) oj).run P w = .ok (.value (x j)) w) ∧
      (∀ (q' : Nat) (oj : Oper), q ≤ q' → q' < C.length → ops[C.getD q' 0]? = some oj → ∀ (ρ : Nat → Value) vs w, vs.length = q' → G vs w → (∀ t ∈ oj.looksAt ops, CLook ops a0 C x vs ρ (C.getD q' 0) t) → chainUpon P (fun v w' => G (vs ++ [v]) w') ((execOp (evR ρ) oj).run P w)) ∧
      (∀ ρ vs w, vs.length = C.length → G vs w → (∀ (i : Nat) (oi : Oper) (t : Tmp), ops[i]? = some oi → i ∉ C → oi.dst = some t → ρ t = x i) →
        (∀ (q : Nat) (oi : Oper) (t : Tmp), q < C.length → ops[C.getD q 0]? = some oi → oi.dst = some t → ρ t = vs.getD q undef) → Fin ρ w)
  | [], k, q, env, hk, hr, hq, hlo, hup, hE, hM, hT => by
    have hkl : k = l.length := by simpa using hk
    have hopn : ∀ j, k ≤ j → ops[j]? = none := fun j hj => by rw [hl]; simp; omega
    have hqC : q = C.length := by
      rcases Nat.lt_or_ge q C.length with h | h
      · exfalso
        have h1 := hup q (Nat.le_refl _) h
        have h2 := hB.inr (C.getD q 0) (by rw [List.getD_eq_getElem?_getD, List.getElem?_eq_getElem h]; exact List.getElem_mem h)
        have h3 := hopn _ h1
        rw [Array.getElem?_eq_getElem h2] at h3
        cases h3
      · omega
    subst hqC
    rw [TeleC] at hT
    exact ⟨fun j oj hj hoj => (by rw [hopn j hj] at hoj; cases hoj), fun q' oj h1 h2 => absurd h2 (by omega), fun ρ vs w hv hg h1 h2 => hT ρ vs w hv hg (envFactsC_of h1 h2 env hM)⟩
  | o :: r, k, q, env, hk, hr, hq, hlo, hup, hE, hM, hT => by
    have hok : ops[k]? = some o := by
      have := hr 0
      rw [hl]
      simpa using this.symm
    have hstep : ∀ (i : Nat), (∀ j, r[j]? = l[k + 1 + j]?) := fun _ j => by
      have := hr (j + 1)
      simpa [Nat.add_assoc, Nat.add_comm 1 j] using this
    have look : ∀ {ρ vs t}, o.dst ≠ some t → CLook ops a0 C x vs ρ (k + 1) t → CLook ops a0 C x vs ρ k t := fun {ρ vs t} hd h =>
      ⟨fun i oi hi => h.sid i oi (by omega), fun q' oi hi => h.chn q' oi (by omega), fun hno => h.non fun i oi hi hoi hdi => by
        by_cases hik : i = k
        · subst hik
          rw [hok] at hoi
          injection hoi with hoi
          subst hoi
          exact hd hdi
        · exact hno i oi (by omega) hoi hdi⟩
    rw [TeleC] at hT
    by_cases hc : C.getD q (k + 1) = k
    · rw [if_pos hc] at hT
      obtain ⟨h1, h2⟩ := hT
      have hqC : q < C.length := by
        rcases Nat.lt_or_ge q C.length with h | h
        · exact h
        · exfalso
          rw [List.getD_eq_getElem?_getD, List.getElem?_eq_none h] at hc
          simp at hc
      have hc0 : C.getD q 0 = k := by rw [getD_other hqC (b := k + 1)]; exact hc
      have hinc : ∀ i, q + 1 ≤ i → i < C.length → k + 1 ≤ C.getD i 0 := by
        intro i
        induction i with
        | zero => omega
        | succ m ih =>
          intro h3 h4
          have := hB.inc m h4
          rcases Nat.lt_or_ge q m with h | h
          · have := ih (by omega) (by omega); omega
          · obtain rfl : q = m := by omega
            omega
      have hkC : k ∈ C := by rw [← hc0, List.getD_eq_getElem?_getD, List.getElem?_eq_getElem hqC]; exact List.getElem_mem hqC
      obtain ⟨g1, g2, g3⟩ := telec_gives hB hl r (k + 1) (q + 1) _ (by simp at hk; omega) (hstep 0) (by omega) (fun i hi => by
          by_cases h : i = q
          · rw [h, hc0]; omega
          · have := hlo i (by omega); omega) hinc (fun ρ vs t hlk => by
          unfold addC
          cases hd : o.dst with
          | none => exact hE ρ vs t (look (by rw [hd]; simp) hlk)
          | some d =>
            simp only [FactC]
            by_cases hdt : d = t
            · rw [if_pos hdt]
              exact hlk.chn q o (by omega) hqC (by rw [hc0]; exact hok) (by rw [hd, hdt])
            · rw [if_neg hdt]
              exact hE ρ vs t (look (by rw [hd]; simpa using hdt) hlk)) (fun t r' hr' => by
          unfold addC at hr'
          cases hd : o.dst with
          | none => rw [hd] at hr'; exact hM t r' hr'
          | some d =>
            rw [hd] at hr'
            rcases List.mem_cons.1 hr' with h | h
            · injection h with h3 h4
              exact .inr ⟨q, o, hqC, by rw [hc0]; exact hok, by rw [hd, h3], h4⟩
            · exact hM t r' h) h2
      refine ⟨fun j oj hj hoj hjC => ?_, fun q' oj h3 h4 hoj => ?_, g3⟩
      · by_cases hjk : j = k
        · subst hjk; exact absurd hkC hjC
        · exact g1 j oj (by omega) hoj hjC
      · by_cases hqq : q' = q
        · subst hqq
          rw [hc0, hok] at hoj
          injection hoj with hoj
          subst hoj
          intro ρ vs w hv hg hlk
          rw [hc0] at hlk
          exact h1 ρ vs w hv hg (knownC_of fun t ht => hE ρ vs t (hlk t ht))
        · exact g2 q' oj (by omega) h4 hoj
    · rw [if_neg hc] at hT
      obtain ⟨h1, h2⟩ := hT
      have hup' : ∀ i, q ≤ i → i < C.length → k + 1 ≤ C.getD i 0 := by
        intro i
        induction i with
        | zero =>
          intro h3 h4
          have h5 := hup 0 h3 h4
          have : C.getD 0 0 ≠ k := fun e => hc (by rw [show q = 0 by omega, getD_other h4 (b := 0)]; exact e)
          omega
        | succ m ih =>
          intro h3 h4
          rcases Nat.lt_or_ge m q with h | h
          · obtain rfl : q = m + 1 := by omega
            have h5 := hup (m + 1) (Nat.le_refl _) h4
            have : C.getD (m + 1) 0 ≠ k := fun e => hc (by rw [getD_other h4 (b := 0)]; exact e)
            omega
          · have := ih h (by omega)
            have := hB.inc m h4
            omega
      have hkC : k ∉ C := fun hm => by
        obtain ⟨i, hi', hik⟩ := List.getElem_of_mem hm
        have hik' : C.getD i 0 = k := by rw [List.getD_eq_getElem?_getD, List.getElem?_eq_getElem hi']; exact hik
        rcases Nat.lt_or_ge i q with h | h
        · have := hlo i h; omega
        · have := hup' i h hi'; omega
      obtain ⟨g1, g2, g3⟩ := telec_gives hB hl r (k + 1) q _ (by simp at hk; omega) (hstep 0) hq (fun i hi' => by have := hlo i hi'; omega) hup' (fun ρ vs t hlk => by
          unfold addC
          cases hd : o.dst with
          | none => exact hE ρ vs t (look (by rw [hd]; simp) hlk)
          | some d =>
            simp only [FactC]
            by_cases hdt : d = t
            · rw [if_pos hdt]
              exact hlk.sid k o (by omega) hkC hok (by rw [hd, hdt])
            · rw [if_neg hdt]
              exact hE ρ vs t (look (by rw [hd]; simpa using hdt) hlk)) (fun t r' hr' => by
          unfold addC at hr'
          cases hd : o.dst with
          | none => rw [hd] at hr'; exact hM t r' hr'
          | some d =>
            rw [hd] at hr'
            rcases List.mem_cons.1 hr' with h | h
            · injection h with h3 h4
              exact .inl ⟨k, o, hok, hkC, by rw [hd, h3], h4⟩
            · exact hM t r' h) h2
      refine ⟨fun j oj hj hoj hjC => ?_, g2, g3⟩
      by_cases hjk : j = k
      · subst hjk
        rw [hok] at hoj
        injection hoj with hoj
        subst hoj
        intro ρ vs w hv hg hlk
        exact h1 ρ vs w hv hg (knownC_of fun t ht => hE ρ vs t (hlk t ht))
      · exact g1 j oj (by omega) hoj hjC
theorem wpAny_region_chain {Q : Exit → Act → World → Prop} {a : Act} {w : World} {l : List Oper} (C : List Nat) (hi : Nat → Nat) (x : Nat → Value) (G : List Value → World → Prop) (hB : chainB .any l.toArray a.tmps.size C hi = true) (hg : G [] w.drew)
    (h : TeleC P l.toArray a C hi x G (fun ρ w' => Q .normal (puts ρ a l) w') 0 0 l []) : wpAny P .any l.toArray Q l.toArray.size (Array.replicate l.toArray.size false) a { w with drawn := w.drawn + 1 } := by
  have hB' := chainB_spec hB
  obtain ⟨h1, h2, h3⟩ := telec_gives hB' rfl l 0 0 [] (by simp) (fun j => by simp) (Nat.zero_le _) (fun i hi => absurd hi (by omega)) (fun i _ _ => Nat.zero_le _) (fun ρ vs t hlk => hlk.non fun i oi hi => absurd hi (by omega)) (fun t r hr => by cases hr) h
  refine wpAny_chain (x := x) (G := G) rfl hB' ⟨fun j oj hoj => h1 j oj (Nat.zero_le _) hoj, fun q oj hq hoj => h2 q oj (Nat.zero_le _) hq hoj⟩ ?_ _ _ [] _ _ ?_ ?_
  · intro listed vs a1 w1 hv hall
    have hvl : vs.length = C.length := by
      rcases Nat.lt_or_ge vs.length C.length with hlt | hge
      · exfalso
        have := (hv.pre vs.length hlt).1 (hall _ (hB'.inr _ (by rw [List.getD_eq_getElem?_getD, List.getElem?_eq_getElem hlt]; exact List.getElem_mem hlt)))
        omega
      · exact Nat.le_antisymm hv.le hge
    have hslot : a1 = puts (fun t => a1.tmps.getD t undef) a l := by
      obtain ⟨p1, p2, p3⟩ := puts_slots (fun t => a1.tmps.getD t undef) l a
      refine act_ext (hv.defers.trans p1.symm) (hv.size.trans p2.symm) fun t ht => ?_
      rw [p3 t (by rw [← hv.size]; exact ht)]
      by_cases hex : ∃ o ∈ l, o.dst = some t
      · rw [if_pos hex]
      · rw [if_neg hex]
        exact hv.rest t fun i oi hoi _ hdi => hex ⟨oi, List.mem_of_getElem? (by simpa using hoi), hdi⟩
    rw [hslot]
    refine h3 _ vs w1 hvl hv.g (fun i oi t hoi hiC hdi => hv.sid i oi t hoi hiC (hall i (Array.getElem?_eq_some_iff.1 hoi).1) hdi) fun q oi t hq hoi hdi => hv.chn q oi t (by omega) hoi hdi
  · simp
  · refine ⟨rfl, rfl, by simp, fun j oj _ hl => ?_, Nat.zero_le _, fun q hq => ?_, hg, fun i oi t _ _ hl => ?_, fun q oi t hq => absurd hq (by simp), fun t _ => rfl⟩
    · exfalso
      rcases Nat.lt_or_ge j l.length with h | h
      · simp [h] at hl
      · simp [Array.getElem?_replicate] at hl; split at hl <;> simp at hl
    · have hin := hB'.inr (C.getD q 0) (by rw [List.getD_eq_getElem?_getD, List.getElem?_eq_getElem hq]; exact List.getElem_mem hq)
      simp only [List.size_toArray] at hin
      have : (Array.replicate l.toArray.size false).getD (C.getD q 0) false = false := by
        rw [Array.getD_eq_getD_getElem?, Array.getElem?_replicate]
        split <;> rfl
      simp only [this, List.length_nil, Nat.not_lt_zero, Bool.false_eq_true]
    · exfalso
      rcases Nat.lt_or_ge i l.length with h | h
      · simp [h] at hl
      · simp [Array.getElem?_replicate] at hl; split at hl <;> simp at hl
/-- **A region that draws its order, with a chain in it.** -/
theorem wp_region_chain {id : Nat} {Q : Exit → Act → World → Prop} {a : Act} {w : World} {l : List Oper} (C : List Nat) (hi : Nat → Nat) (x : Nat → Value) (G : List Value → World → Prop) (hm : P.follows .mixedOrders = true) (hB : chainB .any l.toArray a.tmps.size C hi = true) (hg : G [] w.drew)
    (h : TeleC P l.toArray a C hi x G (fun ρ w' => Q .normal (puts ρ a l) w') 0 0 l []) : (Code.region id l.toArray true).wp P Q a w := wp_region_any hm (wpAny_region_chain C hi x G hB hg h)
section
variable {C : List Nat} {hi : Nat → Nat} {x : Nat → Value} {G : List Value → World → Prop} {Fin : (Nat → Value) → World → Prop} {o : Oper} {rest : List Oper} {env : EnvC} {k q : Nat}
/-- An operation beside the chain. -/
theorem telec_side (hc : C.getD q (k + 1) ≠ k) (ho : ∀ ρ vs w, vs.length ≤ hi k → G vs w → KnownC env a0 ρ vs (o.looksAt ops) → (execOp (evR ρ) o).run P w = .ok (.value (x k)) w)
    (hr : TeleC P ops a0 C hi x G Fin (k + 1) q rest (addC o (.inr (x k)) env)) : TeleC P ops a0 C hi x G Fin k q (o :: rest) env := by
  rw [TeleC, if_neg hc]; exact ⟨ho, hr⟩
/-- The next one of the chain. -/
theorem telec_chain (hc : C.getD q (k + 1) = k) (ho : ∀ ρ vs w, vs.length = q → G vs w → KnownC env a0 ρ vs (o.looksAt ops) → chainUpon P (fun v w' => G (vs ++ [v]) w') ((execOp (evR ρ) o).run P w))
    (hr : TeleC P ops a0 C hi x G Fin (k + 1) (q + 1) rest (addC o (.inl q) env)) : TeleC P ops a0 C hi x G Fin k q (o :: rest) env := by
  rw [TeleC, if_pos hc]; exact ⟨ho, hr⟩
theorem telec_nil (h : ∀ ρ vs w, vs.length = q → G vs w → EnvFactsC ρ vs env → Fin ρ w) : TeleC P ops a0 C hi x G Fin k q [] env := by
  rw [TeleC]; exact h
end
end
end Mono
end Go.Proofs.Ytocdifjdeifclaa
