/-
  A law for regions that draw their order in which some operations follow one another by their edges (a chain: calls, appends, stores, whatever they do to memory), and the others only read what the chain has not yet touched.
-/
import Derived.Test.YtjajlbfokbmadaaDoorMono
namespace Go.Proofs.YtjajlbfokbmadaaDoor
namespace Mono
open Go.RowKit

def chainUpon (P : Program) (R : Value → World → Prop) : Result Next → Prop
  | .ok (.value v) w' => R v w'
  | .ok .skip w' => R undef w'
  | .ok (.enter f args) w' => Calls P f args w' (fun e w'' => ∃ v, e = .returned v ∧ R v w'')
  | _ => False
theorem wp_of_chainUpon {P : Program} {o : Oper} {a : Act} {w : World} {R : Value → World → Prop} {K : Act → World → Prop} {Q : Exit → Act → World → Prop}
    (h : chainUpon P R ((execOp a.eval o).run P w)) (hK : ∀ v w', R v w' → K (a.put o.dst v) w') : o.wp P a w K Q := by
  unfold Oper.wp
  generalize (execOp a.eval o).run P w = r at *
  cases r with
  | ok n w' =>
    cases n <;> simp only [chainUpon] at h <;> simp only [Oper.upon]
    case value u => exact hK _ _ h
    case skip => exact hK _ _ h
    case enter f args => exact h.mono fun e w'' ⟨v, he, h1⟩ => by subst he; exact hK _ _ h1
  | halt x w' => simp only [chainUpon] at h

/-- Has an operation an edge that binds, to number i? -/
def ties (md : Region.Mode) (o : Oper) (i : Nat) : Bool := o.after.any fun e => Region.binds md e && e.on == i
def chainOpB (md : Region.Mode) (ops : Array Oper) (n : Nat) (C : List Nat) (hi : Nat → Nat) (j : Nat) (oj : Oper) : Bool :=
  oj.guard.isNone && (oj.after.all fun e => !Region.binds md e || decide (e.on < j)) && (match oj.dst with | some t => decide (t < n) | none => C.contains j) &&
  ((List.range j).all fun i => match ops[i]? with
    | none => true
    | some oi => (ties md oj i && (oi.dst.isNone || oi.dst != oj.dst)) || oi.apart ops oj) &&
  (C.contains j || ((decide (C.length ≤ hi j) || (match ops[C.getD (hi j) 0]? with | some oc => ties md oc j | none => false)) &&
    (C.all fun c => match ops[c]? with | some oc => (match oc.dst with | some t => !(oj.looksAt ops).contains t | none => true) | none => true)))
def chainB (md : Region.Mode) (ops : Array Oper) (n : Nat) (C : List Nat) (hi : Nat → Nat) : Bool :=
  Region.noSelect ops && ((List.range ops.size).all fun j => match ops[j]? with | none => true | some oj => chainOpB md ops n C hi j oj) &&
  (C.all fun c => decide (c < ops.size)) &&
  ((List.range (C.length - 1)).all fun q => decide (C.getD q 0 < C.getD (q + 1) 0) && match ops[C.getD (q + 1) 0]? with | some o => ties md o (C.getD q 0) | none => false)

section
variable {P : Program} {ops : Array Oper} {md : Region.Mode} {a0 : Act}
theorem ties_spec {o : Oper} {i : Nat} (h : ties md o i = true) : ∃ e ∈ o.after, Region.binds md e = true ∧ e.on = i := by
  obtain ⟨e, he, hb⟩ := Array.any_eq_true'.1 h
  simp only [Bool.and_eq_true, beq_iff_eq] at hb
  exact ⟨e, he, hb.1, hb.2⟩
structure ChainOk (md : Region.Mode) (ops : Array Oper) (n : Nat) (C : List Nat) (hi : Nat → Nat) : Prop where
  sel : Region.noSelect ops = true
  gd : ∀ (j : Nat) (oj : Oper), ops[j]? = some oj → oj.guard = none
  back : ∀ (j : Nat) (oj : Oper), ops[j]? = some oj → ∀ e ∈ oj.after, Region.binds md e = true → e.on < j
  dst : ∀ (j : Nat) (oj : Oper), ops[j]? = some oj → (∀ t, oj.dst = some t → t < n) ∧ (oj.dst = none → j ∈ C)
  pair : ∀ (j : Nat) (oj : Oper), ops[j]? = some oj → ∀ (i : Nat) (oi : Oper), i < j → ops[i]? = some oi → (∀ t, oi.dst = some t → oj.dst ≠ some t) ∧ ((∃ e ∈ oj.after, Region.binds md e = true ∧ e.on = i) ∨ oi.apart ops oj = true)
  side : ∀ (j : Nat) (oj : Oper), ops[j]? = some oj → j ∉ C → (C.length ≤ hi j ∨ ∃ oc, ops[C.getD (hi j) 0]? = some oc ∧ ∃ e ∈ oc.after, Region.binds md e = true ∧ e.on = j) ∧ ∀ c ∈ C, ∀ oc t, ops[c]? = some oc → oc.dst = some t → t ∉ oj.looksAt ops
  inr : ∀ c ∈ C, c < ops.size
  inc : ∀ q, q + 1 < C.length → C.getD q 0 < C.getD (q + 1) 0
  step : ∀ q, q + 1 < C.length → ∃ o, ops[C.getD (q + 1) 0]? = some o ∧ ∃ e ∈ o.after, Region.binds md e = true ∧ e.on = C.getD q 0
theorem chainB_spec {n : Nat} {C : List Nat} {hi : Nat → Nat} (h : chainB md ops n C hi = true) : ChainOk md ops n C hi := by
  simp only [chainB, Bool.and_eq_true, List.all_eq_true, List.mem_range, decide_eq_true_eq] at h
  obtain ⟨⟨⟨h1, h2⟩, h3⟩, h4⟩ := h
  have hop : ∀ (j : Nat) (oj : Oper), ops[j]? = some oj → chainOpB md ops n C hi j oj = true := fun j oj hj => by
    have := h2 j (Array.getElem?_eq_some_iff.1 hj).1
    simpa only [hj] using this
  have hst : ∀ q, q + 1 < C.length → C.getD q 0 < C.getD (q + 1) 0 ∧ ∃ o, ops[C.getD (q + 1) 0]? = some o ∧ ties md o (C.getD q 0) = true := fun q hq => by
    have := h4 q (by omega)
    refine ⟨this.1, ?_⟩
    cases ho : ops[C.getD (q + 1) 0]? with
    | none => rw [ho] at this; exact absurd this.2 (by simp)
    | some o => rw [ho] at this; exact ⟨o, rfl, this.2⟩
  refine ⟨h1, fun j oj hj => ?_, fun j oj hj => ?_, fun j oj hj => ?_, fun j oj hj => ?_, fun j oj hj hjC => ?_, h3, fun q hq => (hst q hq).1, fun q hq => ?_⟩
  all_goals (try have h5 := hop j oj hj)
  all_goals (try simp only [chainOpB, Bool.and_eq_true, Array.all_eq_true_iff_forall_mem, List.all_eq_true, List.mem_range, Bool.or_eq_true, Bool.not_eq_true', decide_eq_true_eq] at h5)
  · simpa using h5.1.1.1.1
  · exact fun e he hb => (h5.1.1.1.2 e he).resolve_left (by simp [hb])
  · refine ⟨fun t ht => ?_, fun ht => ?_⟩
    · have := h5.1.1.2; simpa [ht] using this
    · have := h5.1.1.2; simpa [ht] using this
  · intro i oi hi' hoi
    have h6 := h5.1.2 i hi'
    simp only [hoi, Bool.or_eq_true, Bool.and_eq_true, bne_iff_ne, ne_eq] at h6
    rcases h6 with ⟨h6, h7⟩ | h6
    · refine ⟨fun t ht hjt => ?_, .inl (ties_spec h6)⟩
      rcases h7 with h7 | h7
      · simp [ht] at h7
      · exact h7 (ht.trans hjt.symm)
    · exact ⟨fun t ht hjt => (Oper.apart_spec h6).2.1 t ht hjt, .inr h6⟩
  · have h6 := h5.2
    rcases h6 with h6 | ⟨h6, h7⟩
    · exact absurd (by simpa using h6) hjC
    · refine ⟨?_, fun c hc oc t hoc ht => ?_⟩
      · rcases h6 with h6 | h6
        · exact .inl h6
        · cases ho : ops[C.getD (hi j) 0]? with
          | none => rw [ho] at h6; exact absurd h6 (by simp)
          | some oc => rw [ho] at h6; exact .inr ⟨oc, rfl, ties_spec h6⟩
      · have := h7 c hc
        simpa [hoc, ht] using this
  · obtain ⟨o, ho, ht⟩ := (hst q hq).2
    exact ⟨o, ho, ties_spec ht⟩

/-- The state of affairs: so many of the chain are done. -/
structure CInv (md : Region.Mode) (ops : Array Oper) (a0 : Act) (C : List Nat) (x : Nat → Value) (G : List Value → World → Prop) (listed : Array Bool) (vs : List Value) (a : Act) (w : World) : Prop where
  defers : a.defers = a0.defers
  size : a.tmps.size = a0.tmps.size
  lsize : listed.size = ops.size
  closed : ∀ (j : Nat) (oj : Oper), ops[j]? = some oj → listed.getD j false = true → ∀ e ∈ oj.after, Region.binds md e = true → listed.getD e.on false = true
  le : vs.length ≤ C.length
  pre : ∀ q, q < C.length → (listed.getD (C.getD q 0) false = true ↔ q < vs.length)
  g : G vs w
  sid : ∀ (i : Nat) (oi : Oper) (t : Tmp), ops[i]? = some oi → i ∉ C → listed.getD i false = true → oi.dst = some t → a.tmps.getD t undef = x i
  chn : ∀ (q : Nat) (oi : Oper) (t : Tmp), q < vs.length → ops[C.getD q 0]? = some oi → oi.dst = some t → a.tmps.getD t undef = vs.getD q undef
  rest : ∀ (t : Tmp), (∀ (i : Nat) (oi : Oper), ops[i]? = some oi → listed.getD i false = true → oi.dst ≠ some t) → a.tmps.getD t undef = a0.tmps.getD t undef

/-- What is known of a slot ahead of operation j. -/
structure CLook (ops : Array Oper) (a0 : Act) (C : List Nat) (x : Nat → Value) (vs : List Value) (ρ : Nat → Value) (j : Nat) (t : Tmp) : Prop where
  sid : ∀ (i : Nat) (oi : Oper), i < j → i ∉ C → ops[i]? = some oi → oi.dst = some t → ρ t = x i
  chn : ∀ (q : Nat) (oi : Oper), C.getD q 0 < j → q < C.length → ops[C.getD q 0]? = some oi → oi.dst = some t → ρ t = vs.getD q undef
  non : (∀ (i : Nat) (oi : Oper), i < j → ops[i]? = some oi → oi.dst ≠ some t) → ρ t = a0.tmps.getD t undef
def CSpec (P : Program) (ops : Array Oper) (a0 : Act) (C : List Nat) (hi : Nat → Nat) (x : Nat → Value) (G : List Value → World → Prop) : Prop :=
  (∀ (j : Nat) (oj : Oper), ops[j]? = some oj → j ∉ C → ∀ (ρ : Nat → Value) vs w, vs.length ≤ hi j → G vs w → (∀ t ∈ oj.looksAt ops, CLook ops a0 C x vs ρ j t) → (execOp (evR ρ) oj).run P w = .ok (.value (x j)) w) ∧
  ∀ (q : Nat) (oj : Oper), q < C.length → ops[C.getD q 0]? = some oj → ∀ (ρ : Nat → Value) vs w, vs.length = q → G vs w → (∀ t ∈ oj.looksAt ops, CLook ops a0 C x vs ρ (C.getD q 0) t) → chainUpon P (fun v w' => G (vs ++ [v]) w') ((execOp (evR ρ) oj).run P w)

theorem wpAny_chain {n : Nat} {C : List Nat} {hi : Nat → Nat} {x : Nat → Value} {G : List Value → World → Prop} {Q : Exit → Act → World → Prop} (hn : a0.tmps.size = n) (hB : ChainOk md ops n C hi) (hR : CSpec P ops a0 C hi x G)
    (hfin : ∀ listed vs a w, CInv md ops a0 C x G listed vs a w → (∀ j, j < ops.size → listed.getD j false = true) → Q .normal a w) :
    ∀ (fuel : Nat) (listed : Array Bool) (vs : List Value) (a : Act) (w : World), listed.toList.count false = fuel → CInv md ops a0 C x G listed vs a w → wpAny P md ops Q fuel listed a w
  | 0, listed, vs, a, w, hc, hv => by
    have hnil := ready_nil_of_count (md := md) hv.lsize hc
    exact ⟨hnil, hfin _ _ _ _ hv (all_of_ready_nil hB.back hv.lsize hnil)⟩
  | fuel + 1, listed, vs, a, w, hc, hv => by
    refine ⟨fun hnil => hfin _ _ _ _ hv (all_of_ready_nil hB.back hv.lsize hnil), fun j hj => ?_⟩
    obtain ⟨hjun, oj, hoj, hall⟩ := mem_ready.1 hj
    have hjs : j < ops.size := (Array.getElem?_eq_some_iff.1 hoj).1
    have hjl : j < listed.size := by rw [hv.lsize]; exact hjs
    have hjf := getD_both hjun
    have hszall : ∀ (i : Nat) t, ((ops[i]?).bind (·.dst)) = some t → t < a.tmps.size := by
      intro i t ht
      cases hoi : ops[i]? with
      | none => simp [hoi] at ht
      | some oi =>
        simp only [hoi, Option.bind_some] at ht
        rw [hv.size, hn]
        exact (hB.dst i oi hoi).1 t ht
    have hlook : ∀ t ∈ oj.looksAt ops, CLook ops a0 C x vs (fun t => a.tmps.getD t undef) j t := by
      intro t ht
      have hlisted : ∀ (i : Nat) (oi : Oper), i < j → ops[i]? = some oi → oi.dst = some t → listed.getD i false = true := by
        intro i oi hij hoi hdi
        rcases (hB.pair j oj hoj i oi hij hoi).2 with ⟨e, he, hb, hon⟩ | hap
        · have := hall e he hb
          rwa [hon] at this
        · exact absurd ht ((Oper.apart_spec hap).1 t hdi)
      refine ⟨fun i oi hij hiC hoi hdi => hv.sid i oi t hoi hiC (hlisted i oi hij hoi hdi) hdi, fun q oi hq hqC hoi hdi => hv.chn q oi t ((hv.pre q hqC).1 (hlisted _ oi hq hoi hdi)) hoi hdi, fun hno => hv.rest t fun i oi hoi hli hdi => ?_⟩
      rcases Nat.lt_trichotomy i j with hij | hij | hij
      · exact hno i oi hij hoi hdi
      · subst hij; rw [hjf] at hli; cases hli
      · rcases (hB.pair i oi hoi j oj hij hoj).2 with ⟨e, he, hb, hon⟩ | hap
        · have := hv.closed i oi hoi hli e he hb
          rw [hon, hjf] at this
          cases this
        · exact (Oper.apart_spec hap).2.2 t hdi ht
    have hexec : execOp (evR fun t => a.tmps.getD t undef) oj = execOp a.eval oj :=
      execOp_congr oj (fun cs b => Region.noSelect_spec hB.sel j oj cs b hoj) fun y _ => (eval_evR a y).symm
    have hwant : Region.wanted oj (yielded ops a.tmps) = true := by unfold Region.wanted; rw [hB.gd j oj hoj]
    -- common to both kinds
    have hcl : ∀ i oi, ops[i]? = some oi → (listed.setIfInBounds j true).getD i false = true → ∀ e ∈ oi.after, Region.binds md e = true → (listed.setIfInBounds j true).getD e.on false = true := by
      intro i oi hoi hli e he hb
      have hmono : listed.getD e.on false = true → (listed.setIfInBounds j true).getD e.on false = true := fun h => by
        by_cases hej : j = e.on
        · rw [← hej]; simp [hjl]
        · rw [getD_set_ne false hej]; exact h
      by_cases hij : j = i
      · subst hij
        have : oi = oj := Option.some.inj (hoi.symm.trans hoj)
        subst this
        exact hmono (hall e he hb)
      · rw [getD_set_ne false hij] at hli
        exact hmono (hv.closed i oi hoi hli e he hb)
    have hput : ∀ v t, oj.dst = some t → (a.put oj.dst v).tmps.getD t undef = v := fun v t ht => by
      have := hszall j t (by rw [hoj]; exact ht)
      rw [ht]; simp [Act.put, this]
    have hput' : ∀ v t, oj.dst ≠ some t → (a.put oj.dst v).tmps.getD t undef = a.tmps.getD t undef := fun v t ht => by
      cases hd : oj.dst with
      | none => simp [Act.put]
      | some d =>
        have hne : d ≠ t := fun e => ht (by rw [hd, e])
        simp [Act.put, Array.getElem?_setIfInBounds_ne hne]
    have hdis : ∀ (i : Nat) (oi : Oper) (t : Tmp), i ≠ j → ops[i]? = some oi → oi.dst = some t → oj.dst ≠ some t := fun i oi t hij hoi ht hjt => by
      rcases Nat.lt_or_gt_of_ne hij with h | h
      · exact (hB.pair j oj hoj i oi h hoi).1 t ht hjt
      · exact (hB.pair i oi hoi j oj h hoj).1 t hjt ht
    have hrest : ∀ v t, (∀ i oi, ops[i]? = some oi → (listed.setIfInBounds j true).getD i false = true → oi.dst ≠ some t) → (a.put oj.dst v).tmps.getD t undef = a0.tmps.getD t undef := fun v t hno => by
      rw [hput' v t (hno j oj hoj (by simp [hjl]))]
      refine hv.rest t fun i oi hoi hli hdi => ?_
      by_cases hij : j = i
      · subst hij; rw [hjf] at hli; cases hli
      · exact hno i oi hoi (by rw [getD_set_ne false hij]; exact hli) hdi
    have hcnt : (listed.setIfInBounds j true).toList.count false = fuel := by
      have := count_set hjl hjun
      omega
    have hsz : ∀ v, (a.put oj.dst v).tmps.size = a0.tmps.size := fun v => by
      cases hd : oj.dst <;> simp [Act.put, hv.size]
    have hdf : ∀ v, (a.put oj.dst v).defers = a0.defers := fun v => by
      cases hd : oj.dst <;> simp [Act.put, hv.defers]
    unfold wpOp
    simp only [hoj]
    rw [if_pos hwant]
    refine .inl ?_
    by_cases hjC : j ∈ C
    · obtain ⟨q, hq, hqj⟩ := List.getElem_of_mem hjC
      have hqj' : C.getD q 0 = j := by rw [List.getD_eq_getElem?_getD, List.getElem?_eq_getElem hq]; exact hqj
      have hincl : ∀ q1 q2, q1 < q2 → q2 < C.length → C.getD q1 0 < C.getD q2 0 := by
        intro q1 q2 h1 h2
        induction q2 with
        | zero => omega
        | succ m ih =>
          have := hB.inc m h2
          rcases Nat.lt_or_ge q1 m with h | h
          · exact Nat.lt_trans (ih h (by omega)) this
          · obtain rfl : q1 = m := by omega
            exact this
      have hvq : vs.length = q := by
        have h1 : ¬ q < vs.length := fun h => by
          have := (hv.pre q hq).2 h
          rw [hqj', hjf] at this
          cases this
        rcases Nat.lt_or_ge vs.length q with h2 | h2
        · exfalso
          obtain ⟨o, ho, e, he, hb, hon⟩ := hB.step (q - 1) (by omega)
          rw [show q - 1 + 1 = q by omega, hqj', hoj] at ho
          injection ho with ho
          subst ho
          have := hall e he hb
          rw [hon] at this
          have := (hv.pre (q - 1) (by omega)).1 this
          omega
        · omega
      have hobl := hR.2 q oj hq (by rw [hqj']; exact hoj) (fun t => a.tmps.getD t undef) vs w hvq hv.g (by rw [hqj']; exact hlook)
      rw [hexec] at hobl
      refine wp_of_chainUpon hobl fun v w' hg => wpAny_chain hn hB hR hfin fuel _ (vs ++ [v]) _ _ hcnt ⟨hdf v, hsz v, by simp [hv.lsize], hcl, by simp; omega, fun q' hq' => ?_, hg, fun i oi t hoi hiC hli hdi => ?_, fun q' oi t hq' hoi hdi => ?_, hrest v⟩
      · by_cases hqq : q' = q
        · subst hqq
          rw [hqj']
          simp [hjl, hvq]
        · have hne : j ≠ C.getD q' 0 := fun e => by
            rcases Nat.lt_or_gt_of_ne hqq with h | h
            · have := hincl q' q h hq; omega
            · have := hincl q q' h hq'; omega
          rw [getD_set_ne false hne, hv.pre q' hq']
          simp
          omega
      · have hij : j ≠ i := fun e => hiC (e ▸ hjC)
        rw [getD_set_ne false hij] at hli
        rw [hput' v t (hdis i oi t (fun e => hij e.symm) hoi hdi)]
        exact hv.sid i oi t hoi hiC hli hdi
      · by_cases hqq : q' = q
        · subst hqq
          rw [hqj', hoj] at hoi
          injection hoi with hoi
          subst hoi
          rw [hput v t hdi]
          simp [List.getD_eq_getElem?_getD, hvq]
        · have hq2 : q' < q := by simp at hq'; omega
          have hne : C.getD q' 0 ≠ j := fun e => by have := hincl q' q hq2 hq; omega
          rw [hput' v t (hdis _ oi t hne hoi hdi), hv.chn q' oi t (by omega) hoi hdi]
          simp [List.getD_eq_getElem?_getD, List.getElem?_append_left (show q' < vs.length by omega)]
    · have hlehi : vs.length ≤ hi j := by
        rcases (hB.side j oj hoj hjC).1 with h | ⟨oc, hoc, e, he, hb, hon⟩
        · exact Nat.le_trans hv.le h
        · rcases Nat.lt_or_ge (hi j) vs.length with h | h
          · exfalso
            have := (hv.pre (hi j) (Nat.lt_of_lt_of_le h hv.le)).2 h
            have := hv.closed _ oc hoc this e he hb
            rw [hon, hjf] at this
            cases this
          · exact h
      have hobl := hR.1 j oj hoj hjC (fun t => a.tmps.getD t undef) vs w hlehi hv.g hlook
      rw [hexec] at hobl
      have hup : chainUpon P (fun v w' => v = x j ∧ w' = w) ((execOp a.eval oj).run P w) := by rw [hobl]; exact ⟨rfl, rfl⟩
      refine wp_of_chainUpon hup ?_
      rintro v w' ⟨hvx, hww⟩
      rw [hww]
      refine wpAny_chain hn hB hR hfin fuel _ vs _ _ hcnt ⟨hdf v, hsz v, by simp [hv.lsize], hcl, hv.le, fun q' hq' => ?_, hv.g, fun i oi t hoi hiC hli hdi => ?_, fun q' oi t hq' hoi hdi => ?_, hrest v⟩
      · have hne : j ≠ C.getD q' 0 := fun e => hjC (by rw [e, List.getD_eq_getElem?_getD, List.getElem?_eq_getElem hq']; exact List.getElem_mem hq')
        rw [getD_set_ne false hne]
        exact hv.pre q' hq'
      · by_cases hij : j = i
        · subst hij
          have : oi = oj := Option.some.inj (hoi.symm.trans hoj)
          subst this
          rw [hput v t hdi, hvx]
        · rw [getD_set_ne false hij] at hli
          rw [hput' v t (hdis i oi t (fun e => hij e.symm) hoi hdi)]
          exact hv.sid i oi t hoi hiC hli hdi
      · have hq2 : q' < C.length := Nat.lt_of_lt_of_le hq' hv.le
        have hne : C.getD q' 0 ≠ j := fun e => hjC (by rw [← e, List.getD_eq_getElem?_getD, List.getElem?_eq_getElem hq2]; exact List.getElem_mem hq2)
        rw [hput' v t (hdis _ oi t hne hoi hdi)]
        exact hv.chn q' oi t hq' hoi hdi

abbrev EnvC := List (Tmp × (Nat ⊕ Value))
def FactC (a0 : Act) (ρ : Nat → Value) (vs : List Value) (t : Tmp) : EnvC → Prop
  | [] => ρ t = a0.tmps.getD t undef
  | (s, .inr v) :: env => if s = t then ρ t = v else FactC a0 ρ vs t env
  | (s, .inl q) :: env => if s = t then ρ t = vs.getD q undef else FactC a0 ρ vs t env
def KnownC (env : EnvC) (a0 : Act) (ρ : Nat → Value) (vs : List Value) : List Tmp → Prop
  | [] => True
  | t :: ts => FactC a0 ρ vs t env ∧ KnownC env a0 ρ vs ts
def EnvFactsC (ρ : Nat → Value) (vs : List Value) : EnvC → Prop
  | [] => True
  | (t, .inr v) :: env => ρ t = v ∧ EnvFactsC ρ vs env
  | (t, .inl q) :: env => ρ t = vs.getD q undef ∧ EnvFactsC ρ vs env
def addC (o : Oper) (r : Nat ⊕ Value) (env : EnvC) : EnvC := match o.dst with | some t => (t, r) :: env | none => env
def TeleC (P : Program) (ops : Array Oper) (a0 : Act) (C : List Nat) (hi : Nat → Nat) (x : Nat → Value) (G : List Value → World → Prop) (Fin : (Nat → Value) → World → Prop) : Nat → Nat → List Oper → EnvC → Prop
  | _, q, [], env => ∀ ρ vs w, vs.length = q → G vs w → EnvFactsC ρ vs env → Fin ρ w
  | k, q, o :: rest, env =>
    (if C.getD q (k + 1) = k then (∀ ρ vs w, vs.length = q → G vs w → KnownC env a0 ρ vs (o.looksAt ops) → chainUpon P (fun v w' => G (vs ++ [v]) w') ((execOp (evR ρ) o).run P w)) ∧ TeleC P ops a0 C hi x G Fin (k + 1) (q + 1) rest (addC o (.inl q) env)
    else (∀ ρ vs w, vs.length ≤ hi k → G vs w → KnownC env a0 ρ vs (o.looksAt ops) → (execOp (evR ρ) o).run P w = .ok (.value (x k)) w) ∧ TeleC P ops a0 C hi x G Fin (k + 1) q rest (addC o (.inr (x k)) env))
theorem knownC_of {env : EnvC} {ρ : Nat → Value} {vs : List Value} : ∀ {ts : List Tmp}, (∀ t ∈ ts, FactC a0 ρ vs t env) → KnownC env a0 ρ vs ts
  | [], _ => trivial
  | t :: ts, h => ⟨h t (by simp), knownC_of fun s hs => h s (by simp [hs])⟩
/-- What an entry of the environment speaks of. -/
def EnvMemC (ops : Array Oper) (C : List Nat) (x : Nat → Value) (env : EnvC) : Prop :=
  ∀ t r, (t, r) ∈ env → (∃ (i : Nat) (oi : Oper), ops[i]? = some oi ∧ i ∉ C ∧ oi.dst = some t ∧ r = .inr (x i)) ∨ ∃ (q : Nat) (oi : Oper), q < C.length ∧ ops[C.getD q 0]? = some oi ∧ oi.dst = some t ∧ r = .inl q
theorem envFactsC_of {C : List Nat} {x : Nat → Value} {ρ : Nat → Value} {vs : List Value} (h1 : ∀ (i : Nat) (oi : Oper) (t : Tmp), ops[i]? = some oi → i ∉ C → oi.dst = some t → ρ t = x i)
    (h2 : ∀ (q : Nat) (oi : Oper) (t : Tmp), q < C.length → ops[C.getD q 0]? = some oi → oi.dst = some t → ρ t = vs.getD q undef) : ∀ env : EnvC, EnvMemC ops C x env → EnvFactsC ρ vs env
  | [], _ => trivial
  | (t, .inr v) :: env, h => by
    refine ⟨?_, envFactsC_of h1 h2 env fun t r hr => h t r (by simp [hr])⟩
    rcases h t (.inr v) (by simp) with ⟨i, oi, ho, hi, hd, hr⟩ | ⟨q, oi, _, _, _, hr⟩
    · injection hr with hr
      rw [hr]; exact h1 i oi t ho hi hd
    · cases hr
  | (t, .inl q) :: env, h => by
    refine ⟨?_, envFactsC_of h1 h2 env fun t r hr => h t r (by simp [hr])⟩
    rcases h t (.inl q) (by simp) with ⟨i, oi, _, _, _, hr⟩ | ⟨q', oi, hq, ho, hd, hr⟩
    · cases hr
    · injection hr with hr
      rw [hr]; exact h2 q' oi t hq ho hd
theorem getD_other {C : List Nat} {q a b : Nat} (h : q < C.length) : C.getD q a = C.getD q b := by
  rw [List.getD_eq_getElem?_getD, List.getD_eq_getElem?_getD, List.getElem?_eq_getElem h]; rfl
theorem telec_gives {n : Nat} {C : List Nat} {hi : Nat → Nat} {x : Nat → Value} {G : List Value → World → Prop} {Fin : (Nat → Value) → World → Prop} (hB : ChainOk md ops n C hi) {l : List Oper} (hl : ops = l.toArray) :
    ∀ (r : List Oper) (k q : Nat) (env : EnvC), k + r.length = l.length → (∀ j, r[j]? = l[k + j]?) → q ≤ C.length → (∀ i, i < q → C.getD i 0 < k) → (∀ i, q ≤ i → i < C.length → k ≤ C.getD i 0) →
      (∀ ρ vs t, CLook ops a0 C x vs ρ k t → FactC a0 ρ vs t env) → EnvMemC ops C x env → TeleC P ops a0 C hi x G Fin k q r env →
      (∀ (j : Nat) (oj : Oper), k ≤ j → ops[j]? = some oj → j ∉ C → ∀ (ρ : Nat → Value) vs w, vs.length ≤ hi j → G vs w → (∀ t ∈ oj.looksAt ops, CLook ops a0 C x vs ρ j t) → (execOp (evR ρ) oj).run P w = .ok (.value (x j)) w) ∧
      (∀ (q' : Nat) (oj : Oper), q ≤ q' → q' < C.length → ops[C.getD q' 0]? = some oj → ∀ (ρ : Nat → Value) vs w, vs.length = q' → G vs w → (∀ t ∈ oj.looksAt ops, CLook ops a0 C x vs ρ (C.getD q' 0) t) → chainUpon P (fun v w' => G (vs ++ [v]) w') ((execOp (evR ρ) oj).run P w)) ∧
      (∀ ρ vs w, vs.length = C.length → G vs w → (∀ (i : Nat) (oi : Oper) (t : Tmp), ops[i]? = some oi → i ∉ C → oi.dst = some t → ρ t = x i) →
        (∀ (q : Nat) (oi : Oper) (t : Tmp), q < C.length → ops[C.getD q 0]? = some oi → oi.dst = some t → ρ t = vs.getD q undef) → Fin ρ w)
  | [], k, q, env, hk, hr, hq, hlo, hup, hE, hM, hT => by
    have hkl : k = l.length := by simpa using hk
    have hopn : ∀ j, k ≤ j → ops[j]? = none := fun j hj => by rw [hl]; simp; omega
    have hqC : q = C.length := by
      rcases Nat.lt_or_ge q C.length with h | h
      · exfalso
        have h1 := hup q (Nat.le_refl _) h
        have h2 := hB.inr (C.getD q 0) (by rw [List.getD_eq_getElem?_getD, List.getElem?_eq_getElem h]; exact List.getElem_mem h)
        have h3 := hopn _ h1
        rw [Array.getElem?_eq_getElem h2] at h3
        cases h3
      · omega
    subst hqC
    rw [TeleC] at hT
    exact ⟨fun j oj hj hoj => (by rw [hopn j hj] at hoj; cases hoj), fun q' oj h1 h2 => absurd h2 (by omega), fun ρ vs w hv hg h1 h2 => hT ρ vs w hv hg (envFactsC_of h1 h2 env hM)⟩
  | o :: r, k, q, env, hk, hr, hq, hlo, hup, hE, hM, hT => by
    have hok : ops[k]? = some o := by
      have := hr 0
      rw [hl]
      simpa using this.symm
    have hstep : ∀ (i : Nat), (∀ j, r[j]? = l[k + 1 + j]?) := fun _ j => by
      have := hr (j + 1)
      simpa [Nat.add_assoc, Nat.add_comm 1 j] using this
    have look : ∀ {ρ vs t}, o.dst ≠ some t → CLook ops a0 C x vs ρ (k + 1) t → CLook ops a0 C x vs ρ k t := fun {ρ vs t} hd h =>
      ⟨fun i oi hi => h.sid i oi (by omega), fun q' oi hi => h.chn q' oi (by omega), fun hno => h.non fun i oi hi hoi hdi => by
        by_cases hik : i = k
        · subst hik
          rw [hok] at hoi
          injection hoi with hoi
          subst hoi
          exact hd hdi
        · exact hno i oi (by omega) hoi hdi⟩
    rw [TeleC] at hT
    by_cases hc : C.getD q (k + 1) = k
    · rw [if_pos hc] at hT
      obtain ⟨h1, h2⟩ := hT
      have hqC : q < C.length := by
        rcases Nat.lt_or_ge q C.length with h | h
        · exact h
        · exfalso
          rw [List.getD_eq_getElem?_getD, List.getElem?_eq_none h] at hc
          simp at hc
      have hc0 : C.getD q 0 = k := by rw [getD_other hqC (b := k + 1)]; exact hc
      have hinc : ∀ i, q + 1 ≤ i → i < C.length → k + 1 ≤ C.getD i 0 := by
        intro i
        induction i with
        | zero => omega
        | succ m ih =>
          intro h3 h4
          have := hB.inc m h4
          rcases Nat.lt_or_ge q m with h | h
          · have := ih (by omega) (by omega); omega
          · obtain rfl : q = m := by omega
            omega
      have hkC : k ∈ C := by rw [← hc0, List.getD_eq_getElem?_getD, List.getElem?_eq_getElem hqC]; exact List.getElem_mem hqC
      obtain ⟨g1, g2, g3⟩ := telec_gives hB hl r (k + 1) (q + 1) _ (by simp at hk; omega) (hstep 0) (by omega) (fun i hi => by
          by_cases h : i = q
          · rw [h, hc0]; omega
          · have := hlo i (by omega); omega) hinc (fun ρ vs t hlk => by
          unfold addC
          cases hd : o.dst with
          | none => exact hE ρ vs t (look (by rw [hd]; simp) hlk)
          | some d =>
            simp only [FactC]
            by_cases hdt : d = t
            · rw [if_pos hdt]
              exact hlk.chn q o (by omega) hqC (by rw [hc0]; exact hok) (by rw [hd, hdt])
            · rw [if_neg hdt]
              exact hE ρ vs t (look (by rw [hd]; simpa using hdt) hlk)) (fun t r' hr' => by
          unfold addC at hr'
          cases hd : o.dst with
          | none => rw [hd] at hr'; exact hM t r' hr'
          | some d =>
            rw [hd] at hr'
            rcases List.mem_cons.1 hr' with h | h
            · injection h with h3 h4
              exact .inr ⟨q, o, hqC, by rw [hc0]; exact hok, by rw [hd, h3], h4⟩
            · exact hM t r' h) h2
      refine ⟨fun j oj hj hoj hjC => ?_, fun q' oj h3 h4 hoj => ?_, g3⟩
      · by_cases hjk : j = k
        · subst hjk; exact absurd hkC hjC
        · exact g1 j oj (by omega) hoj hjC
      · by_cases hqq : q' = q
        · subst hqq
          rw [hc0, hok] at hoj
          injection hoj with hoj
          subst hoj
          intro ρ vs w hv hg hlk
          rw [hc0] at hlk
          exact h1 ρ vs w hv hg (knownC_of fun t ht => hE ρ vs t (hlk t ht))
        · exact g2 q' oj (by omega) h4 hoj
    · rw [if_neg hc] at hT
      obtain ⟨h1, h2⟩ := hT
      have hup' : ∀ i, q ≤ i → i < C.length → k + 1 ≤ C.getD i 0 := by
        intro i
        induction i with
        | zero =>
          intro h3 h4
          have h5 := hup 0 h3 h4
          have : C.getD 0 0 ≠ k := fun e => hc (by rw [show q = 0 by omega, getD_other h4 (b := 0)]; exact e)
          omega
        | succ m ih =>
          intro h3 h4
          rcases Nat.lt_or_ge m q with h | h
          · obtain rfl : q = m + 1 := by omega
            have h5 := hup (m + 1) (Nat.le_refl _) h4
            have : C.getD (m + 1) 0 ≠ k := fun e => hc (by rw [getD_other h4 (b := 0)]; exact e)
            omega
          · have := ih h (by omega)
            have := hB.inc m h4
            omega
      have hkC : k ∉ C := fun hm => by
        obtain ⟨i, hi', hik⟩ := List.getElem_of_mem hm
        have hik' : C.getD i 0 = k := by rw [List.getD_eq_getElem?_getD, List.getElem?_eq_getElem hi']; exact hik
        rcases Nat.lt_or_ge i q with h | h
        · have := hlo i h; omega
        · have := hup' i h hi'; omega
      obtain ⟨g1, g2, g3⟩ := telec_gives hB hl r (k + 1) q _ (by simp at hk; omega) (hstep 0) hq (fun i hi' => by have := hlo i hi'; omega) hup' (fun ρ vs t hlk => by
          unfold addC
          cases hd : o.dst with
          | none => exact hE ρ vs t (look (by rw [hd]; simp) hlk)
          | some d =>
            simp only [FactC]
            by_cases hdt : d = t
            · rw [if_pos hdt]
              exact hlk.sid k o (by omega) hkC hok (by rw [hd, hdt])
            · rw [if_neg hdt]
              exact hE ρ vs t (look (by rw [hd]; simpa using hdt) hlk)) (fun t r' hr' => by
          unfold addC at hr'
          cases hd : o.dst with
          | none => rw [hd] at hr'; exact hM t r' hr'
          | some d =>
            rw [hd] at hr'
            rcases List.mem_cons.1 hr' with h | h
            · injection h with h3 h4
              exact .inl ⟨k, o, hok, hkC, by rw [hd, h3], h4⟩
            · exact hM t r' h) h2
      refine ⟨fun j oj hj hoj hjC => ?_, g2, g3⟩
      by_cases hjk : j = k
      · subst hjk
        rw [hok] at hoj
        injection hoj with hoj
        subst hoj
        intro ρ vs w hv hg hlk
        exact h1 ρ vs w hv hg (knownC_of fun t ht => hE ρ vs t (hlk t ht))
      · exact g1 j oj (by omega) hoj hjC
theorem wpAny_region_chain {Q : Exit → Act → World → Prop} {a : Act} {w : World} {l : List Oper} (C : List Nat) (hi : Nat → Nat) (x : Nat → Value) (G : List Value → World → Prop) (hB : chainB .any l.toArray a.tmps.size C hi = true) (hg : G [] w.drew)
    (h : TeleC P l.toArray a C hi x G (fun ρ w' => Q .normal (puts ρ a l) w') 0 0 l []) : wpAny P .any l.toArray Q l.toArray.size (Array.replicate l.toArray.size false) a { w with drawn := w.drawn + 1 } := by
  have hB' := chainB_spec hB
  obtain ⟨h1, h2, h3⟩ := telec_gives hB' rfl l 0 0 [] (by simp) (fun j => by simp) (Nat.zero_le _) (fun i hi => absurd hi (by omega)) (fun i _ _ => Nat.zero_le _) (fun ρ vs t hlk => hlk.non fun i oi hi => absurd hi (by omega)) (fun t r hr => by cases hr) h
  refine wpAny_chain (x := x) (G := G) rfl hB' ⟨fun j oj hoj => h1 j oj (Nat.zero_le _) hoj, fun q oj hq hoj => h2 q oj (Nat.zero_le _) hq hoj⟩ ?_ _ _ [] _ _ ?_ ?_
  · intro listed vs a1 w1 hv hall
    have hvl : vs.length = C.length := by
      rcases Nat.lt_or_ge vs.length C.length with hlt | hge
      · exfalso
        have := (hv.pre vs.length hlt).1 (hall _ (hB'.inr _ (by rw [List.getD_eq_getElem?_getD, List.getElem?_eq_getElem hlt]; exact List.getElem_mem hlt)))
        omega
      · exact Nat.le_antisymm hv.le hge
    have hslot : a1 = puts (fun t => a1.tmps.getD t undef) a l := by
      obtain ⟨p1, p2, p3⟩ := puts_slots (fun t => a1.tmps.getD t undef) l a
      refine act_ext (hv.defers.trans p1.symm) (hv.size.trans p2.symm) fun t ht => ?_
      rw [p3 t (by rw [← hv.size]; exact ht)]
      by_cases hex : ∃ o ∈ l, o.dst = some t
      · rw [if_pos hex]
      · rw [if_neg hex]
        exact hv.rest t fun i oi hoi _ hdi => hex ⟨oi, List.mem_of_getElem? (by simpa using hoi), hdi⟩
    rw [hslot]
    refine h3 _ vs w1 hvl hv.g (fun i oi t hoi hiC hdi => hv.sid i oi t hoi hiC (hall i (Array.getElem?_eq_some_iff.1 hoi).1) hdi) fun q oi t hq hoi hdi => hv.chn q oi t (by omega) hoi hdi
  · simp
  · refine ⟨rfl, rfl, by simp, fun j oj _ hl => ?_, Nat.zero_le _, fun q hq => ?_, hg, fun i oi t _ _ hl => ?_, fun q oi t hq => absurd hq (by simp), fun t _ => rfl⟩
    · exfalso
      rcases Nat.lt_or_ge j l.length with h | h
      · simp [h] at hl
      · simp [Array.getElem?_replicate] at hl; split at hl <;> simp at hl
    · have hin := hB'.inr (C.getD q 0) (by rw [List.getD_eq_getElem?_getD, List.getElem?_eq_getElem hq]; exact List.getElem_mem hq)
      simp only [List.size_toArray] at hin
      have : (Array.replicate l.toArray.size false).getD (C.getD q 0) false = false := by
        rw [Array.getD_eq_getD_getElem?, Array.getElem?_replicate]
        split <;> rfl
      simp only [this, List.length_nil, Nat.not_lt_zero, Bool.false_eq_true]
    · exfalso
      rcases Nat.lt_or_ge i l.length with h | h
      · simp [h] at hl
      · simp [Array.getElem?_replicate] at hl; split at hl <;> simp at hl
/-- **A region that draws its order, with a chain in it.** -/
theorem wp_region_chain {id : Nat} {Q : Exit → Act → World → Prop} {a : Act} {w : World} {l : List Oper} (C : List Nat) (hi : Nat → Nat) (x : Nat → Value) (G : List Value → World → Prop) (hm : P.follows .mixedOrders = true) (hB : chainB .any l.toArray a.tmps.size C hi = true) (hg : G [] w.drew)
    (h : TeleC P l.toArray a C hi x G (fun ρ w' => Q .normal (puts ρ a l) w') 0 0 l []) : (Code.region id l.toArray true).wp P Q a w := wp_region_any hm (wpAny_region_chain C hi x G hB hg h)
section
variable {C : List Nat} {hi : Nat → Nat} {x : Nat → Value} {G : List Value → World → Prop} {Fin : (Nat → Value) → World → Prop} {o : Oper} {rest : List Oper} {env : EnvC} {k q : Nat}
/-- An operation beside the chain. -/
theorem telec_side (hc : C.getD q (k + 1) ≠ k) (ho : ∀ ρ vs w, vs.length ≤ hi k → G vs w → KnownC env a0 ρ vs (o.looksAt ops) → (execOp (evR ρ) o).run P w = .ok (.value (x k)) w)
    (hr : TeleC P ops a0 C hi x G Fin (k + 1) q rest (addC o (.inr (x k)) env)) : TeleC P ops a0 C hi x G Fin k q (o :: rest) env := by
  rw [TeleC, if_neg hc]; exact ⟨ho, hr⟩
/-- The next one of the chain. -/
theorem telec_chain (hc : C.getD q (k + 1) = k) (ho : ∀ ρ vs w, vs.length = q → G vs w → KnownC env a0 ρ vs (o.looksAt ops) → chainUpon P (fun v w' => G (vs ++ [v]) w') ((execOp (evR ρ) o).run P w))
    (hr : TeleC P ops a0 C hi x G Fin (k + 1) (q + 1) rest (addC o (.inl q) env)) : TeleC P ops a0 C hi x G Fin k q (o :: rest) env := by
  rw [TeleC, if_pos hc]; exact ⟨ho, hr⟩
theorem telec_nil (h : ∀ ρ vs w, vs.length = q → G vs w → EnvFactsC ρ vs env → Fin ρ w) : TeleC P ops a0 C hi x G Fin k q [] env := by
  rw [TeleC]; exact h
end
end
end Mono
end Go.Proofs.YtjajlbfokbmadaaDoor
