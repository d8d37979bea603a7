/-
 A law for regions that draw their order and hold calls, conversions and loads that only make new memory: each operation is looked at once, in the order of the text; what each leaves in its slot is told by a predicate on value and world that new memory does not disturb. Over any program.
-/
import Derived.Orders
import Derived.Below
namespace Go.Proofs.YtagghghoimpofaaGreatDoor
namespace Mono
open Go.RowKit

/-- New memory alone: whatever was there is as it was. -/
def Ext (w w' : World) : Prop := Below w.heap.size w w'
theorem Ext.refl (w : World) : Ext w w := Below.refl _ _
theorem Ext.trans {a b c : World} (h : Ext a b) (k : Ext b c) : Ext a c := Below.trans h (Below.mono k h.size)

def monoUpon (P : Program) (w : World) (R : Value → World → Prop) : Result Next → Prop
 | .ok (.value v) w' => Ext w w' ∧ R v w'
 | .ok .skip w' => Ext w w' ∧ R undef w'
 | .ok (.enter f args) w' => Calls P f args w' (fun e w'' => ∃ v, e = .returned v ∧ Ext w w'' ∧ R v w'')
 | _ => False

theorem wp_of_monoUpon {P : Program} {o : Oper} {a : Act} {w : World} {R : Value → World → Prop} {K : Act → World → Prop} {Q : Exit → Act → World → Prop}
  (h : monoUpon P w R ((execOp a.eval o).run P w)) (hK : ∀ v w', Ext w w' → R v w' → K (a.put o.dst v) w') : o.wp P a w K Q := by
 unfold Oper.wp
 generalize (execOp a.eval o).run P w = r at *
 cases r with
 | ok n w' =>
  cases n <;> simp only [monoUpon] at h <;> simp only [Oper.upon]
  case value u => exact hK _ _ h.1 h.2
  case skip => exact hK _ _ h.1 h.2
  case enter f args => exact h.mono fun e w'' ⟨v, he, h1, h2⟩ => by subst he; exact hK _ _ h1 h2
 | halt x w' => simp only [monoUpon] at h

/-- Edges lead back; what is not tied by an edge is apart; each operation has a slot of its own. -/
def monoB (md : Region.Mode) (ops : Array Oper) (n : Nat) : Bool :=
 Region.noSelect ops && (List.range ops.size).all fun j => match ops[j]? with
  | none => true
  | some oj => (oj.after.all fun e => !Region.binds md e || decide (e.on < j)) && (match oj.dst with | some t => decide (t < n) | none => false) &&
   (List.range j).all fun i => match ops[i]? with
    | none => true
    | some oi => (oj.after.any fun e => Region.binds md e && e.on == i) && oi.dst != oj.dst || oi.apart ops oj

abbrev Rel := Value → World → Prop
abbrev Env := List (Tmp × Rel)

def Fact (a0 : Act) (ρ : Nat → Value) (w : World) (t : Tmp) : Env → Prop
 | [] => ρ t = a0.tmps.getD t undef
 | (s, R) :: env => if s = t then R (ρ t) w else Fact a0 ρ w t env

def Known (env : Env) (a0 : Act) (ρ : Nat → Value) (w : World) : List Tmp → Prop
 | [] => True
 | t :: ts => Fact a0 ρ w t env ∧ Known env a0 ρ w ts

def evR (ρ : Nat → Value) : Operand → Value
 | .tmp t => ρ t
 | .const v => v
 | .global g => .pointer (some ⟨g, 0, none⟩)
 | .func f => .func (.func f) #[] #[]

def asBoolR : Value → Option Bool
 | .bool b => some b
 | _ => none

/-- Is it wanted? by the guard's value. -/
def wantedR (ops : Array Oper) (o : Oper) (ρ : Nat → Value) : Bool :=
 Region.wanted o (fun j => match (ops[j]?).bind (·.dst) with | some t => asBoolR (ρ t) | none => none)

def Obl (P : Program) (ops : Array Oper) (a0 : Act) (w0 : World) (env : Env) (o : Oper) (R : Rel) : Prop :=
 ∀ (ρ : Nat → Value) (w : World), Ext w0 w → Known env a0 ρ w (o.looksAt ops) →
  if wantedR ops o ρ then monoUpon P w R ((execOp (evR ρ) o).run P w) else R undef w

def EnvFacts (ρ : Nat → Value) (w : World) : Env → Prop
 | [] => True
 | (t, R) :: env => R (ρ t) w ∧ EnvFacts ρ w env

def puts (ρ : Nat → Value) (a0 : Act) : List Oper → Act
 | [] => a0
 | o :: l => puts ρ (a0.put o.dst (match o.dst with | some t => ρ t | none => undef)) l

def Tele (P : Program) (ops : Array Oper) (a0 : Act) (w0 : World) (Fin : (Nat → Value) → World → Prop) : List Oper → Env → Prop
 | [], env => ∀ ρ w, Ext w0 w → EnvFacts ρ w env → Fin ρ w
 | o :: rest, env => ∃ R : Rel, (∀ v w w', R v w → Ext w w' → R v w') ∧ Obl P ops a0 w0 env o R ∧
   Tele P ops a0 w0 Fin rest ((match o.dst with | some t => (t, R) | none => (0, R)) :: env)

section
variable {P : Program} {ops : Array Oper} {md : Region.Mode} {a0 : Act} {w0 : World}

theorem monoB_spec {n : Nat} (h : monoB md ops n = true) : Region.noSelect ops = true ∧ ∀ j oj, ops[j]? = some oj →
  (∀ e ∈ oj.after, Region.binds md e = true → e.on < j) ∧ (∃ t, oj.dst = some t ∧ t < n) ∧
  ∀ i oi, i < j → ops[i]? = some oi → oi.dst ≠ oj.dst ∧ ((∃ e ∈ oj.after, Region.binds md e = true ∧ e.on = i) ∨ oi.apart ops oj = true) := by
 simp only [monoB, Bool.and_eq_true, List.all_eq_true, List.mem_range] at h
 refine ⟨h.1, fun j oj hj => ?_⟩
 have hjs : j < ops.size := (Array.getElem?_eq_some_iff.1 hj).1
 have h1 := h.2 j hjs
 simp only [hj, Bool.and_eq_true, Array.all_eq_true_iff_forall_mem, Bool.or_eq_true, Bool.not_eq_true', decide_eq_true_eq, List.all_eq_true, List.mem_range] at h1
 obtain ⟨⟨ha, hd⟩, hp⟩ := h1
 have hdst : ∃ t, oj.dst = some t ∧ t < n := by
  cases hdd : oj.dst with
  | none => simp [hdd] at hd
  | some t => exact ⟨t, rfl, by simpa [hdd] using hd⟩
 refine ⟨fun e he hb => (ha e he).resolve_left (by simp [hb]), hdst, fun i oi hi hoi => ?_⟩
 have h2 := hp i hi
 simp only [hoi, Bool.or_eq_true, Bool.and_eq_true, bne_iff_ne, ne_eq] at h2
 rcases h2 with ⟨h2, h3⟩ | h2
 ·refine ⟨h3, .inl ?_⟩
  obtain ⟨e, he, hb⟩ := Array.any_eq_true'.1 h2
  simp only [Bool.and_eq_true, beq_iff_eq] at hb
  exact ⟨e, he, hb.1, hb.2⟩
 ·refine ⟨fun heq => ?_, .inr h2⟩
  obtain ⟨t, ht, _⟩ := hdst
  exact (Oper.apart_spec h2).2.1 t (heq.trans ht) ht

/-- The state of affairs once the operations that are listed have been carried out. -/
structure Inv (P : Program) (md : Region.Mode) (ops : Array Oper) (a0 : Act) (w0 : World) (R : Nat → Rel) (listed : Array Bool) (a : Act) (w : World) : Prop where
 ext : Ext w0 w
 defers : a.defers = a0.defers
 size : a.tmps.size = a0.tmps.size
 lsize : listed.size = ops.size
 closed : ∀ j oj, ops[j]? = some oj → listed.getD j false = true → ∀ e ∈ oj.after, Region.binds md e = true → listed.getD e.on false = true
 done : ∀ i oi t, ops[i]? = some oi → listed.getD i false = true → oi.dst = some t → R i (a.tmps.getD t undef) w
 rest : ∀ t, (∀ i oi, ops[i]? = some oi → listed.getD i false = true → oi.dst ≠ some t) → a.tmps.getD t undef = a0.tmps.getD t undef

theorem getD_both {listed : Array Bool} {i : Nat} (h : listed.getD i true = false) : listed.getD i false = false := by
 rcases Nat.lt_or_ge i listed.size with h' | h'
 ·simp [h'] at h ⊢; exact h
 ·simp [Array.getElem?_eq_none h'] at h
theorem getD_in {listed : Array Bool} {i : Nat} (hi : i < listed.size) (h : listed.getD i false = false) : listed.getD i true = false := by
 simp [hi] at h ⊢; exact h

theorem eval_evR (a : Act) (x : Operand) : a.eval x = evR (fun t => a.tmps.getD t undef) x := by cases x <;> rfl

theorem yielded_evR (a : Act) (j : Nat) (hsz : ∀ t, ((ops[j]?).bind (·.dst)) = some t → t < a.tmps.size) : yielded ops a.tmps j = (match (ops[j]?).bind (·.dst) with | some t => asBoolR (a.tmps.getD t undef) | none => none) := by
 unfold yielded
 cases h : (ops[j]?).bind (·.dst) with
 | none => rfl
 | some t =>
  have := hsz t h
  simp only [Option.bind_some, Array.getD_eq_getD_getElem?, Array.getElem?_eq_getElem this, Option.getD_some]
  cases a.tmps[t] <;> rfl

theorem wanted_evR (a : Act) (o : Oper) (hsz : ∀ (j : Nat) t, ((ops[j]?).bind (·.dst)) = some t → t < a.tmps.size) : Region.wanted o (yielded ops a.tmps) = wantedR ops o (fun t => a.tmps.getD t undef) := by
 unfold wantedR
 congr 1
 funext j
 exact yielded_evR a j (hsz j)

def Rspec (P : Program) (ops : Array Oper) (a0 : Act) (w0 : World) (R : Nat → Rel) : Prop :=
 (∀ i v w w', R i v w → Ext w w' → R i v w') ∧
 ∀ j oj, ops[j]? = some oj → ∀ (ρ : Nat → Value) (w : World), Ext w0 w →
  (∀ t ∈ oj.looksAt ops, (∀ i oi, i < j → ops[i]? = some oi → oi.dst = some t → R i (ρ t) w) ∧ ((∀ i oi, i < j → ops[i]? = some oi → oi.dst ≠ some t) → ρ t = a0.tmps.getD t undef)) →
  if wantedR ops oj ρ then monoUpon P w (R j) ((execOp (evR ρ) oj).run P w) else R j undef w

theorem count_set {listed : Array Bool} {j : Nat} (hj : j < listed.size) (h : listed.getD j true = false) : ((listed.setIfInBounds j true).toList.count false) + 1 = listed.toList.count false := by
 have h1 : listed.toList[j]'(by simpa using hj) = false := by
  simpa [Array.getElem?_eq_getElem hj] using h
 have : (listed.setIfInBounds j true).toList = listed.toList.set j true := by simp
 rw [this, List.count_set (by simpa using hj)]
 have hmem : 0 < listed.toList.count false := List.count_pos_iff.2 (h1 ▸ List.getElem_mem _)
 simp only [h1, beq_self_eq_true, if_true, show (true == false) = false from rfl, Bool.false_eq_true, if_false, Nat.add_zero]
 omega

theorem all_of_ready_nil (hB : ∀ j oj, ops[j]? = some oj → ∀ e ∈ oj.after, Region.binds md e = true → e.on < j) {listed : Array Bool} (hs : listed.size = ops.size) (h : Region.ready md ops listed = []) :
  ∀ j, j < ops.size → listed.getD j false = true := by
 intro j
 induction j using Nat.strongRecOn with
 | _ j ih =>
  intro hj
  cases hl : listed.getD j false with
  | true => rfl
  | false =>
   exfalso
   have hr : j ∈ Region.ready md ops listed := mem_ready.2 ⟨getD_in (by omega) hl, ops[j], Array.getElem?_eq_getElem hj, fun e he hb => ih e.on (hB j _ (Array.getElem?_eq_getElem hj) e he hb) (by have := hB j _ (Array.getElem?_eq_getElem hj) e he hb; omega)⟩
   rw [h] at hr
   cases hr

theorem ready_nil_of_count {listed : Array Bool} (hs : listed.size = ops.size) (h : listed.toList.count false = 0) : Region.ready md ops listed = [] := by
 cases hr : Region.ready md ops listed with
 | nil => rfl
 | cons j js =>
  exfalso
  have hj : j ∈ Region.ready md ops listed := by rw [hr]; simp
  obtain ⟨h0, o, ho, _⟩ := mem_ready.1 hj
  have hjs : j < listed.size := by rw [hs]; exact (Array.getElem?_eq_some_iff.1 ho).1
  have h1 : listed.toList[j]'(by simpa using hjs) = false := by simpa [Array.getElem?_eq_getElem hjs] using h0
  have := List.count_pos_iff.2 (h1 ▸ List.getElem_mem (l := listed.toList) (by simpa using hjs))
  omega

theorem wpAny_mono {n : Nat} {R : Nat → Rel} {Q : Exit → Act → World → Prop} (hn : a0.tmps.size = n) (hB : monoB md ops n = true) (hR : Rspec P ops a0 w0 R)
  (hfin : ∀ listed a w, Inv P md ops a0 w0 R listed a w → (∀ j, j < ops.size → listed.getD j false = true) → Q .normal a w) :
  ∀ (fuel : Nat) (listed : Array Bool) (a : Act) (w : World), listed.toList.count false = fuel → Inv P md ops a0 w0 R listed a w → wpAny P md ops Q fuel listed a w
 | 0, listed, a, w, hc, hi => by
  obtain ⟨_, hB2⟩ := monoB_spec hB
  have hnil := ready_nil_of_count (md := md) hi.lsize hc
  exact ⟨hnil, hfin _ _ _ hi (all_of_ready_nil (fun j oj hj => (hB2 j oj hj).1) hi.lsize hnil)⟩
 | fuel + 1, listed, a, w, hc, hi => by
  obtain ⟨hsel, hB2⟩ := monoB_spec hB
  refine ⟨fun hnil => hfin _ _ _ hi (all_of_ready_nil (fun j oj hj => (hB2 j oj hj).1) hi.lsize hnil), fun j hj => ?_⟩
  obtain ⟨hjun, oj, hoj, hall⟩ := mem_ready.1 hj
  have hjs : j < ops.size := (Array.getElem?_eq_some_iff.1 hoj).1
  have hjl : j < listed.size := by rw [hi.lsize]; exact hjs
  obtain ⟨hback, ⟨d, hd, hdn⟩, hpair⟩ := hB2 j oj hoj
  have hszall : ∀ (i : Nat) t, ((ops[i]?).bind (·.dst)) = some t → t < a.tmps.size := by
   intro i t ht
   cases hoi : ops[i]? with
   | none => simp [hoi] at ht
   | some oi =>
    obtain ⟨_, ⟨d', hd', hdn'⟩, _⟩ := hB2 i oi hoi
    simp only [hoi, Option.bind_some, hd'] at ht
    injection ht with ht
    rw [hi.size, hn, ← ht]; exact hdn'
  -- of what this one looks at
  have hlook : ∀ t ∈ oj.looksAt ops, (∀ i oi, i < j → ops[i]? = some oi → oi.dst = some t → R i (a.tmps.getD t undef) w) ∧ ((∀ i oi, i < j → ops[i]? = some oi → oi.dst ≠ some t) → a.tmps.getD t undef = a0.tmps.getD t undef) := by
   intro t ht
   constructor
   ·intro i oi hij hoi hdi
    obtain ⟨_, hp⟩ := hpair i oi hij hoi
    rcases hp with ⟨e, he, hb, hon⟩ | hap
    ·have := hall e he hb
     rw [hon] at this
     exact hi.done i oi t hoi this hdi
    ·exact absurd ht ((Oper.apart_spec hap).1 t hdi)
   ·intro hno
    refine hi.rest t fun i oi hoi hli hdi => ?_
    rcases Nat.lt_trichotomy i j with hij | hij | hij
    ·exact hno i oi hij hoi hdi
    ·subst hij; rw [getD_both hjun] at hli; cases hli
    ·obtain ⟨_, hp⟩ := (hB2 i oi hoi).2.2 j oj hij hoj
     rcases hp with ⟨e, he, hb, hon⟩ | hap
     ·have := hi.closed i oi hoi hli e he hb
      rw [hon, getD_both hjun] at this
      cases this
     ·exact (Oper.apart_spec hap).2.2 t hdi ht
  have hobl := hR.2 j oj hoj (fun t => a.tmps.getD t undef) w hi.ext hlook
  have hexec : execOp (evR fun t => a.tmps.getD t undef) oj = execOp a.eval oj :=
   execOp_congr oj (fun cs b => Region.noSelect_spec hsel j oj cs b hoj) fun x _ => (eval_evR a x).symm
  rw [hexec] at hobl
  -- behind it
  have hnext : ∀ v w', Ext w w' → R j v w' → Inv P md ops a0 w0 R (listed.setIfInBounds j true) (a.put oj.dst v) w' := by
   intro v w' he hv
   have hdsz : d < a.tmps.size := by rw [hi.size, hn]; exact hdn
   rw [hd]
   refine ⟨hi.ext.trans he, hi.defers, by simp [Act.put, hi.size], by simp [hi.lsize], ?_, ?_, ?_⟩
   ·intro i oi hoi hli e hee hb
    by_cases hij : j = i
    ·subst hij
     have : oi = oj := Option.some.inj (hoi.symm.trans hoj)
     subst this
     exact getD_set_true (hall e hee hb)
    ·rw [getD_set_ne false hij] at hli
     exact getD_set_true (hi.closed i oi hoi hli e hee hb)
   ·intro i oi t hoi hli hdi
    by_cases hij : j = i
    ·subst hij
     have : oi = oj := Option.some.inj (hoi.symm.trans hoj)
     subst this
     rw [hd] at hdi
     injection hdi with hdi
     subst hdi
     have : (a.put (some d) v).tmps.getD d undef = v := by simp [Act.put, hdsz]
     rw [this]
     exact hv
    ·rw [getD_set_ne false hij] at hli
     have hne : d ≠ t := by
      intro heq
      subst heq
      rcases Nat.lt_or_ge i j with h | h
      ·exact (hpair i oi h hoi).1 (hdi.trans hd.symm)
      ·exact ((hB2 i oi hoi).2.2 j oj (by omega) hoj).1 (hd.trans hdi.symm)
     have : (a.put (some d) v).tmps.getD t undef = a.tmps.getD t undef := by simp [Act.put, Array.getElem?_setIfInBounds_ne hne]
     rw [this]
     exact hR.1 i _ w w' (hi.done i oi t hoi hli hdi) he
   ·intro t hno
    have hne : d ≠ t := fun heq => hno j oj hoj (by simp [hjl]) (heq ▸ hd)
    have : (a.put (some d) v).tmps.getD t undef = a.tmps.getD t undef := by simp [Act.put, Array.getElem?_setIfInBounds_ne hne]
    rw [this]
    refine hi.rest t fun i oi hoi hli hdi => ?_
    by_cases hij : j = i
    ·subst hij; rw [getD_both hjun] at hli; cases hli
    ·exact hno i oi hoi (by rw [getD_set_ne false hij]; exact hli) hdi
  have hcnt : (listed.setIfInBounds j true).toList.count false = fuel := by
   have := count_set hjl hjun
   omega
  unfold wpOp
  simp only [hoj]
  rw [wanted_evR a oj hszall]
  split
  ·rename_i hw
   rw [if_pos hw] at hobl
   exact .inl (wp_of_monoUpon hobl fun v w' he hv => wpAny_mono hn hB hR hfin fuel _ _ _ hcnt (hnext v w' he hv))
  ·rename_i hw
   rw [if_neg hw] at hobl
   exact wpAny_mono hn hB hR hfin fuel _ _ _ hcnt (hnext undef w (Ext.refl _) hobl)

/-! ### Out of the telescope -/

/-- The slots and the predicates of the first operations, the last one ahead. -/
def envOf (ops : List Oper) (R : Nat → Rel) : Nat → Env
 | 0 => []
 | k + 1 => ((match (ops[k]?).bind (·.dst) with | some t => t | none => 0), R k) :: envOf ops R k

theorem fact_of {l : List Oper} {R : Nat → Rel} {ρ : Nat → Value} {w : World} {t : Tmp} (hdst : ∀ (i : Nat) (oi : Oper), l[i]? = some oi → ∃ s, oi.dst = some s)
  : ∀ k, k ≤ l.length → (∀ (i : Nat) (oi : Oper), i < k → l[i]? = some oi → oi.dst = some t → R i (ρ t) w) → ((∀ (i : Nat) (oi : Oper), i < k → l[i]? = some oi → oi.dst ≠ some t) → ρ t = a0.tmps.getD t undef) → Fact a0 ρ w t (envOf l R k)
 | 0, _, _, h2 => h2 (fun i _ hi => absurd hi (by omega))
 | k + 1, hk, h1, h2 => by
  obtain ⟨s, hs⟩ := hdst k (l[k]) (List.getElem?_eq_getElem (by omega))
  simp only [envOf, List.getElem?_eq_getElem (show k < l.length by omega), Option.bind_some, hs, Fact]
  by_cases hst : s = t
  ·rw [if_pos hst]
   exact h1 k l[k] (by omega) (List.getElem?_eq_getElem (by omega)) (hst ▸ hs)
  ·rw [if_neg hst]
   refine fact_of hdst k (by omega) (fun i oi hi => h1 i oi (by omega)) fun hno => h2 fun i oi hi hoi hdi => ?_
   by_cases hik : i = k
   ·subst hik
    rw [List.getElem?_eq_getElem (by omega)] at hoi
    injection hoi with hoi
    subst hoi
    rw [hs] at hdi
    injection hdi with hdi
    exact hst hdi
   ·exact hno i oi (by omega) hoi hdi

theorem known_of {env : Env} {ρ : Nat → Value} {w : World} : ∀ {ts : List Tmp}, (∀ t ∈ ts, Fact a0 ρ w t env) → Known env a0 ρ w ts
 | [], _ => trivial
 | t :: ts, h => ⟨h t (by simp), known_of fun s hs => h s (by simp [hs])⟩

theorem envFacts_of {l : List Oper} {R : Nat → Rel} {ρ : Nat → Value} {w : World} (hdst : ∀ (i : Nat) (oi : Oper), l[i]? = some oi → ∃ s, oi.dst = some s) (h : ∀ (i : Nat) (oi : Oper) (t : Tmp), l[i]? = some oi → oi.dst = some t → R i (ρ t) w) :
  ∀ k, k ≤ l.length → EnvFacts ρ w (envOf l R k)
 | 0, _ => trivial
 | k + 1, hk => by
  obtain ⟨s, hs⟩ := hdst k (l[k]) (List.getElem?_eq_getElem (by omega))
  simp only [envOf, List.getElem?_eq_getElem (show k < l.length by omega), Option.bind_some, hs, EnvFacts]
  exact ⟨h k _ s (List.getElem?_eq_getElem (by omega)) hs, envFacts_of hdst h k (by omega)⟩

theorem envOf_congr {l : List Oper} {R R' : Nat → Rel} : ∀ k, (∀ i, i < k → R i = R' i) → envOf l R k = envOf l R' k
 | 0, _ => rfl
 | k + 1, h => by simp only [envOf]; rw [h k (by omega), envOf_congr k fun i hi => h i (by omega)]

/-- What the telescope gives from operation number k on. -/
theorem tele_gives {l : List Oper} {Fin : (Nat → Value) → World → Prop} (hdst : ∀ (i : Nat) (oi : Oper), l[i]? = some oi → ∃ s, oi.dst = some s) : ∀ (r : List Oper) (k : Nat) (R0 : Nat → Rel), k + r.length = l.length → (∀ j, r[j]? = l[k + j]?) →
  Tele P ops a0 w0 Fin r (envOf l R0 k) → ∃ R : Nat → Rel, (∀ i, i < k → R i = R0 i) ∧ (∀ i, k ≤ i → i < l.length → (∀ v w w', R i v w → Ext w w' → R i v w')) ∧
   (∀ (i : Nat) (o : Oper), k ≤ i → l[i]? = some o → Obl P ops a0 w0 (envOf l R i) o (R i)) ∧ ∀ ρ w, Ext w0 w → EnvFacts ρ w (envOf l R l.length) → Fin ρ w
 | [], k, R0, hk, _, h => by
  have hk' : k = l.length := by simpa using hk
  subst hk'
  exact ⟨R0, fun _ _ => rfl, fun i h1 h2 => absurd h2 (by omega), fun i o h1 h2 => (by rw [List.getElem?_eq_none h1] at h2; cases h2), h⟩
 | o :: r, k, R0, hk, hr, h => by
  obtain ⟨Rk, hm, hob, ht⟩ := h
  have hok : l[k]? = some o := by simpa using (hr 0).symm
  obtain ⟨s, hs⟩ := hdst k o hok
  let R1 : Nat → Rel := fun i => if i = k then Rk else R0 i
  have he : envOf l R1 k = envOf l R0 k := envOf_congr k fun i hi => by simp only [R1]; rw [if_neg (by omega)]
  have he1 : envOf l R1 (k + 1) = (match o.dst with | some t => (t, Rk) | none => (0, Rk)) :: envOf l R0 k := by
   simp only [envOf, hok, Option.bind_some, hs, he]
   simp [R1]
  obtain ⟨R, h1, h2, h3, h4⟩ := tele_gives hdst r (k + 1) R1 (by simp at hk; omega) (fun j => by have := hr (j + 1); simpa [Nat.add_assoc, Nat.add_comm 1 j] using this) (by rw [he1]; exact ht)
  have hRk : R k = Rk := (h1 k (by omega)).trans (by simp [R1])
  refine ⟨R, fun i hi => (h1 i (by omega)).trans (by simp only [R1]; rw [if_neg (by omega)]), fun i hi hil => ?_, fun i o' hi ho' => ?_, h4⟩
  ·by_cases hik : i = k
   ·subst hik; rw [hRk]; exact hm
   ·exact h2 i (by omega) hil
  ·by_cases hik : i = k
   ·subst hik
    have : o' = o := Option.some.inj (ho'.symm.trans hok)
    subst this
    have hee : envOf l R i = envOf l R0 i := envOf_congr i fun m hmi => (h1 m (by omega)).trans (by simp only [R1]; rw [if_neg (by omega)])
    rw [hRk, hee]
    exact hob
   ·exact h3 i o' (by omega) ho'

theorem puts_slots (ρ : Nat → Value) : ∀ (l : List Oper) (a : Act), (puts ρ a l).defers = a.defers ∧ (puts ρ a l).tmps.size = a.tmps.size ∧
  ∀ t, t < a.tmps.size → (puts ρ a l).tmps.getD t undef = if (∃ o ∈ l, o.dst = some t) then ρ t else a.tmps.getD t undef
 | [], a => ⟨rfl, rfl, fun t _ => by simp [puts]⟩
 | o :: l, a => by
  obtain ⟨h1, h2, h3⟩ := puts_slots ρ l (a.put o.dst (match o.dst with | some t => ρ t | none => undef))
  simp only [puts]
  cases hd : o.dst with
  | none =>
   rw [hd] at h1 h2 h3
   refine ⟨h1, h2, fun t ht => ?_⟩
   rw [h3 t ht]
   simp [hd, Act.put]
  | some d =>
   rw [hd] at h1 h2 h3
   refine ⟨h1, by rw [h2]; simp [Act.put], fun t ht => ?_⟩
   rw [h3 t (by simpa [Act.put] using ht)]
   by_cases hex : ∃ o' ∈ l, o'.dst = some t
   ·rw [if_pos hex, if_pos]
    obtain ⟨o', ho', hd'⟩ := hex
    exact ⟨o', by simp [ho'], hd'⟩
   ·rw [if_neg hex]
    by_cases hdt : d = t
    ·subst hdt
     rw [if_pos ⟨o, by simp, hd⟩]
     simp [Act.put, ht]
    ·rw [if_neg]
     ·simp [Act.put, Array.getElem?_setIfInBounds_ne hdt]
     ·rintro ⟨o', ho', hd'⟩
      rcases List.mem_cons.1 ho' with rfl | ho'
      ·rw [hd] at hd'; injection hd' with hd'; exact hdt hd'
      ·exact hex ⟨o', ho', hd'⟩

theorem act_ext {a b : Act} (hd : a.defers = b.defers) (hs : a.tmps.size = b.tmps.size) (h : ∀ t, t < a.tmps.size → a.tmps.getD t undef = b.tmps.getD t undef) : a = b := by
 obtain ⟨ta, da⟩ := a
 obtain ⟨tb, db⟩ := b
 simp only at hd hs h
 subst hd
 have : ta = tb := Array.ext hs fun i h1 h2 => by
  have := h i h1
  simpa [h1, h2] using this
 rw [this]

/-- **A region that draws its order, each operation looked at once.** -/
theorem wp_region_mono {id : Nat} {Q : Exit → Act → World → Prop} {a : Act} {w : World} {l : List Oper} (hm : P.follows .mixedOrders = true) (hB : monoB .any l.toArray a.tmps.size = true)
  (h : Tele P l.toArray a w (fun ρ w' => Q .normal (puts ρ a l) w') l []) : (Code.region id l.toArray true).wp P Q a w := by
 obtain ⟨hsel, hB2⟩ := monoB_spec hB
 have hdst : ∀ (i : Nat) (oi : Oper), l[i]? = some oi → ∃ s, oi.dst = some s := fun i oi hoi => by
  obtain ⟨_, ⟨t, ht, _⟩, _⟩ := hB2 i oi (by simpa using hoi)
  exact ⟨t, ht⟩
 obtain ⟨R, _, h2, h3, h4⟩ := tele_gives hdst l 0 (fun _ _ _ => True) (by simp) (fun j => by simp) h
 let R' : Nat → Rel := fun i => if i < l.length then R i else fun _ _ => False
 have hRR : ∀ i, i < l.length → R' i = R i := fun i hi => by simp only [R']; rw [if_pos hi]
 refine wp_region_any hm ?_
 refine wpAny_mono (R := R') (w0 := w) rfl hB ⟨fun i v w1 w2 hr he => ?_, fun j oj hoj ρ w1 he hl => ?_⟩ ?_ _ _ _ _ ?_ ?_
 ·by_cases hi : i < l.length
  ·rw [hRR i hi] at hr ⊢; exact h2 i (Nat.zero_le _) hi v w1 w2 hr he
  ·simp only [R'] at hr; rw [if_neg hi] at hr; exact hr.elim
 ·have hoj' : l[j]? = some oj := by simpa using hoj
  have hjl : j < l.length := (List.getElem?_eq_some_iff.1 hoj').1
  rw [hRR j hjl]
  refine h3 j oj (Nat.zero_le _) hoj' ρ w1 he (known_of fun t ht => ?_)
  obtain ⟨g1, g2⟩ := hl t ht
  refine fact_of hdst j (by omega) (fun i oi hi hoi hdi => ?_) fun hno => g2 fun i oi hi hoi => hno i oi hi (by simpa using hoi)
  have := g1 i oi hi (by simpa using hoi) hdi
  rwa [hRR i (by omega)] at this
 ·intro listed a1 w1 hi hall
  have hslot : a1 = puts (fun t => a1.tmps.getD t undef) a l := by
   obtain ⟨p1, p2, p3⟩ := puts_slots (fun t => a1.tmps.getD t undef) l a
   refine act_ext (hi.defers.trans p1.symm) (hi.size.trans p2.symm) fun t ht => ?_
   rw [p3 t (by rw [← hi.size]; exact ht)]
   by_cases hex : ∃ o ∈ l, o.dst = some t
   ·rw [if_pos hex]
   ·rw [if_neg hex]
    exact hi.rest t fun i oi hoi _ hdi => hex ⟨oi, List.mem_of_getElem? (by simpa using hoi), hdi⟩
  rw [hslot]
  refine h4 _ w1 hi.ext (envFacts_of hdst (fun i oi t hoi hdi => ?_) l.length (Nat.le_refl _))
  have hil : i < l.length := (List.getElem?_eq_some_iff.1 hoi).1
  have := hi.done i oi t (by simpa using hoi) (hall i (by simpa using hil)) hdi
  rwa [hRR i hil] at this
 ·simp
 ·refine ⟨⟨rfl, rfl, rfl, Nat.le_refl _, fun _ _ => rfl⟩, rfl, rfl, by simp, fun j oj _ hl => ?_, fun i oi t _ hl => ?_, fun t _ => rfl⟩
  ·exfalso
   rcases Nat.lt_or_ge j l.length with h | h
   ·simp [h] at hl
   ·simp [Array.getElem?_replicate] at hl; split at hl <;> simp at hl
  ·exfalso
   rcases Nat.lt_or_ge i l.length with h | h
   ·simp [h] at hl
   ·simp [Array.getElem?_replicate] at hl; split at hl <;> simp at hl
end
/-! ### For use: one operation at a time -/
/-- A predicate that new memory does not disturb. -/
structure MRel where
 rel : Rel
 mono : ∀ v w w', rel v w → Ext w w' → rel v w'
def isV (x : Value) : MRel := ⟨fun v _ => v = x, fun _ _ _ h _ => h⟩

section
variable {P : Program} {ops : Array Oper} {a0 : Act} {w0 : World} {Fin : (Nat → Value) → World → Prop} {o : Oper} {rest : List Oper} {env : Env} {t : Tmp}

theorem tele_any (hd : o.dst = some t) (R : MRel) (ho : Obl P ops a0 w0 env o R.rel) (hr : Tele P ops a0 w0 Fin rest ((t, R.rel) :: env)) : Tele P ops a0 w0 Fin (o :: rest) env :=
 ⟨R.rel, R.mono, ho, by rw [hd]; exact hr⟩

/-- move, assign of a slot: what is known of the source is known of the slot. -/
theorem tele_move {s : Tmp} (hd : o.dst = some t) (hop : o.op = .move (.tmp s) ∨ o.op = .assign (.tmp s)) (hg : o.guard = none) (R : MRel) (hR : ∀ ρ w, Fact a0 ρ w s env → R.rel (ρ s) w)
  (hr : Tele P ops a0 w0 Fin rest ((t, R.rel) :: env)) : Tele P ops a0 w0 Fin (o :: rest) env := by
 refine tele_any hd R (fun ρ w he hk => ?_) hr
 have hw : wantedR ops o ρ = true := by unfold wantedR Region.wanted; rw [hg]
 rw [if_pos hw]
 have hl : o.looksAt ops = [s] := by rcases hop with hop | hop <;> simp [Oper.looksAt, hop, hg, Op.operands]
 rw [hl] at hk
 have hx : (execOp (evR ρ) o).run P w = .ok (.value (ρ s)) w := by rcases hop with hop | hop <;> simp [execOp, hop, evR]
 rw [hx]
 exact ⟨Ext.refl _, hR ρ w hk.1⟩

/-- An operation that leaves the world alone and whose value is known. -/
theorem tele_val (hd : o.dst = some t) (x : Value) (hw : ∀ ρ w, Known env a0 ρ w (o.looksAt ops) → wantedR ops o ρ = true)
  (ho : ∀ ρ w, Ext w0 w → Known env a0 ρ w (o.looksAt ops) → (execOp (evR ρ) o).run P w = .ok (.value x) w)
  (hr : Tele P ops a0 w0 Fin rest ((t, (isV x).rel) :: env)) : Tele P ops a0 w0 Fin (o :: rest) env := by
 refine tele_any hd (isV x) (fun ρ w he hk => ?_) hr
 rw [if_pos (hw ρ w hk), ho ρ w he hk]
 exact ⟨Ext.refl _, rfl⟩

/-- A call of a function of the program. -/
theorem run_call_func {f : FuncId} {fn : Func} {args : Array Operand} {ts : Array TypeId} (hop : o.op = .call { callee := .value (.func f), args := args, argTypes := ts })
  (hf : P.funcs[f]? = some fn) (hn : ((fn.name == "runtime.NumGoroutine") || fn.body.isNone) = false) (ρ : Nat → Value) (w : World) : (execOp (evR ρ) o).run P w = .ok (.enter f (args.map (evR ρ))) w := by
 have h1 : (fn.name == "runtime.NumGoroutine") = false := by
  cases h : (fn.name == "runtime.NumGoroutine") with
  | false => rfl
  | true => rw [h] at hn; cases hn
 have h2 : fn.body.isNone = false := by
  cases h : fn.body.isNone with
  | false => rfl
  | true => rw [h] at hn; simp at hn
 have h1' : ¬ fn.name = "runtime.NumGoroutine" := by simpa using h1
 have h2' : ¬ fn.body = none := by intro h; simp [h] at h2
 simp only [execOp, hop, resolve, evR, Deferred.ofValue, invoke, callFunc]
 simp [hf, h1', h2']

theorem tele_call (hd : o.dst = some t) {f : FuncId} {fn : Func} {args : Array Operand} {ts : Array TypeId} (hop : o.op = .call { callee := .value (.func f), args := args, argTypes := ts })
  (hf : P.funcs[f]? = some fn) (hn : ((fn.name == "runtime.NumGoroutine") || fn.body.isNone) = false) (R : MRel)
  (hw : ∀ ρ w, Known env a0 ρ w (o.looksAt ops) → wantedR ops o ρ = true)
  (ho : ∀ ρ w, Ext w0 w → Known env a0 ρ w (o.looksAt ops) → Calls P f (args.map (evR ρ)) w fun e w' => ∃ v, e = .returned v ∧ Ext w w' ∧ R.rel v w')
  (hr : Tele P ops a0 w0 Fin rest ((t, R.rel) :: env)) : Tele P ops a0 w0 Fin (o :: rest) env := by
 refine tele_any hd R (fun ρ w he hk => ?_) hr
 rw [if_pos (hw ρ w hk), run_call_func hop hf hn ρ w]
 exact ho ρ w he hk

/-- An operation that is passed over. -/
theorem tele_pass (hd : o.dst = some t) (hw : ∀ ρ w, Known env a0 ρ w (o.looksAt ops) → wantedR ops o ρ = false)
  (hr : Tele P ops a0 w0 Fin rest ((t, (isV undef).rel) :: env)) : Tele P ops a0 w0 Fin (o :: rest) env := by
 refine tele_any hd (isV undef) (fun ρ w _ hk => ?_) hr
 rw [hw ρ w hk, if_neg (by simp)]
 rfl

theorem tele_nil (h : ∀ ρ w, Ext w0 w → EnvFacts ρ w env → Fin ρ w) : Tele P ops a0 w0 Fin [] env := h
end
end Mono
end Go.Proofs.YtagghghoimpofaaGreatDoor

/-
 The law for regions that draw their order, for operations whose guard is not decided: the slot holds the value if the guard holds, and nothing otherwise.
-/
namespace Go.Proofs.YtagghghoimpofaaGreatDoor
namespace Mono
open Go.RowKit
section
variable {P : Program} {ops : Array Oper} {a0 : Act} {w0 : World} {Fin : (Nat → Value) → World → Prop} {o : Oper} {rest : List Oper} {env : Env} {t : Tmp}
end
end Mono
end Go.Proofs.YtagghghoimpofaaGreatDoor

/-
 The law of Mono for a region that keeps the text's order: each operation looked at once, whatever the guards say.
-/
namespace Go.Proofs.YtagghghoimpofaaGreatDoor
namespace Mono
open Go.RowKit
section
variable {P : Program} {ops : Array Oper} {a0 : Act} {w0 : World}
end
end Mono
end Go.Proofs.YtagghghoimpofaaGreatDoor

/-
 A law for regions that draw their order in which some operations follow one another by their edges (a chain: calls, appends, stores, whatever they do to memory), and the others only read what the chain has not yet touched.
-/
namespace Go.Proofs.YtagghghoimpofaaGreatDoor
namespace Mono
open Go.RowKit

section
variable {P : Program} {ops : Array Oper} {md : Region.Mode} {a0 : Act}
abbrev EnvC := List (Tmp × (Nat ⊕ Value))
section
variable {C : List Nat} {hi : Nat → Nat} {x : Nat → Value} {G : List Value → World → Prop} {Fin : (Nat → Value) → World → Prop} {o : Oper} {rest : List Oper} {env : EnvC} {k q : Nat}
end
end
end Mono
end Go.Proofs.YtagghghoimpofaaGreatDoor
