/-
  As Mono, for a region whose last operation (a store) goes behind all others. Over any program.
-/
import Derived.Test.YtocdifjdeifclaaMono
import Derived.Tactics
namespace Go.Proofs.Ytocdifjdeifclaa
namespace Mono
open Go.RowKit
set_option linter.unusedVariables false

/-- Edges lead back; what is not tied by an edge is apart; each operation has a slot of its own. -/
def monoL (md : Region.Mode) (ops : Array Oper) (n m : Nat) : Bool :=
  Region.noSelect ops && (List.range m).all fun j => match ops[j]? with
    | none => true
    | some oj => (oj.after.all fun e => !Region.binds md e || decide (e.on < j)) && (match oj.dst with | some t => decide (t < n) | none => false) &&
      (List.range j).all fun i => match ops[i]? with
        | none => true
        | some oi => (oj.after.any fun e => Region.binds md e && e.on == i) && oi.dst != oj.dst || oi.apart ops oj

/-- The operation m is the last one, writes no slot, has no guard; each other one goes before a later one. -/
def lastL (md : Region.Mode) (ops : Array Oper) (m : Nat) : Bool :=
  (match ops[m]? with | none => false | some o => o.dst.isNone && o.guard.isNone && o.after.all fun e => decide (e.on < m)) && decide (ops.size = m + 1) &&
  (List.range m).all fun i => (List.range (m + 1)).any fun k => decide (i < k) && match ops[k]? with
    | none => false
    | some o => o.after.any fun e => Region.binds md e && e.on == i

section
variable {P : Program} {ops : Array Oper} {md : Region.Mode} {a0 : Act} {w0 : World}

theorem lastL_spec {m : Nat} (h : lastL md ops m = true) : ops.size = m + 1 ∧ (∃ o, ops[m]? = some o ∧ o.dst = none ∧ o.guard = none ∧ ∀ e ∈ o.after, e.on < m) ∧
    ∀ i, i < m → ∃ k o, i < k ∧ k < m + 1 ∧ ops[k]? = some o ∧ ∃ e ∈ o.after, Region.binds md e = true ∧ e.on = i := by
  simp only [lastL, Bool.and_eq_true, List.all_eq_true, List.mem_range, decide_eq_true_eq] at h
  obtain ⟨⟨h1, h2⟩, h3⟩ := h
  refine ⟨h2, ?_, fun i hi => ?_⟩
  · cases ho : ops[m]? with
    | none => rw [ho] at h1; cases h1
    | some o =>
      rw [ho] at h1
      simp only [Bool.and_eq_true, Option.isNone_iff_eq_none, Array.all_eq_true_iff_forall_mem, decide_eq_true_eq] at h1
      exact ⟨o, rfl, h1.1.1, h1.1.2, fun e he => h1.2 e he⟩
  · have := h3 i hi
    simp only [List.any_eq_true, List.mem_range, Bool.and_eq_true, decide_eq_true_eq] at this
    obtain ⟨k, hk, hik, hm⟩ := this
    cases ho : ops[k]? with
    | none => rw [ho] at hm; cases hm
    | some o =>
      rw [ho] at hm
      obtain ⟨e, he, hb⟩ := Array.any_eq_true'.1 hm
      simp only [Bool.and_eq_true, beq_iff_eq] at hb
      exact ⟨k, o, hik, hk, ho, e, he, hb.1, hb.2⟩

theorem monoL_spec {n m : Nat} (hms : m ≤ ops.size) (h : monoL md ops n m = true) : Region.noSelect ops = true ∧ ∀ j oj, j < m → ops[j]? = some oj →
    (∀ e ∈ oj.after, Region.binds md e = true → e.on < j) ∧ (∃ t, oj.dst = some t ∧ t < n) ∧
    ∀ i oi, i < j → ops[i]? = some oi → oi.dst ≠ oj.dst ∧ ((∃ e ∈ oj.after, Region.binds md e = true ∧ e.on = i) ∨ oi.apart ops oj = true) := by
  simp only [monoL, Bool.and_eq_true, List.all_eq_true, List.mem_range] at h
  refine ⟨h.1, fun j oj hjs hj => ?_⟩
  have h1 := h.2 j hjs
  simp only [hj, Bool.and_eq_true, Array.all_eq_true_iff_forall_mem, Bool.or_eq_true, Bool.not_eq_true', decide_eq_true_eq, List.all_eq_true, List.mem_range] at h1
  obtain ⟨⟨ha, hd⟩, hp⟩ := h1
  have hdst : ∃ t, oj.dst = some t ∧ t < n := by
    cases hdd : oj.dst with
    | none => simp [hdd] at hd
    | some t => exact ⟨t, rfl, by simpa [hdd] using hd⟩
  refine ⟨fun e he hb => (ha e he).resolve_left (by simp [hb]), hdst, fun i oi hi hoi => ?_⟩
  have h2 := hp i hi
  simp only [hoi, Bool.or_eq_true, Bool.and_eq_true, bne_iff_ne, ne_eq] at h2
  rcases h2 with ⟨h2, h3⟩ | h2
  · refine ⟨h3, .inl ?_⟩
    obtain ⟨e, he, hb⟩ := Array.any_eq_true'.1 h2
    simp only [Bool.and_eq_true, beq_iff_eq] at hb
    exact ⟨e, he, hb.1, hb.2⟩
  · refine ⟨fun heq => ?_, .inr h2⟩
    obtain ⟨t, ht, _⟩ := hdst
    exact (Oper.apart_spec h2).2.1 t (heq.trans ht) ht

/-- The state of affairs once the operations that are listed have been carried out. -/
structure InvL (m : Nat) (P : Program) (md : Region.Mode) (ops : Array Oper) (a0 : Act) (w0 : World) (R : Nat → Rel) (listed : Array Bool) (a : Act) (w : World) : Prop where
  ext : Ext w0 w
  defers : a.defers = a0.defers
  size : a.tmps.size = a0.tmps.size
  lsize : listed.size = ops.size
  closed : ∀ j oj, ops[j]? = some oj → listed.getD j false = true → ∀ e ∈ oj.after, Region.binds md e = true → listed.getD e.on false = true
  done : ∀ i oi t, i < m → ops[i]? = some oi → listed.getD i false = true → oi.dst = some t → R i (a.tmps.getD t undef) w
  rest : ∀ t, (∀ i oi, i < m → ops[i]? = some oi → listed.getD i false = true → oi.dst ≠ some t) → a.tmps.getD t undef = a0.tmps.getD t undef
  open_ : listed.getD m false = false

def RspecL (m : Nat) (P : Program) (ops : Array Oper) (a0 : Act) (w0 : World) (R : Nat → Rel) : Prop :=
  (∀ i v w w', R i v w → Ext w w' → R i v w') ∧
  ∀ j oj, j < m → ops[j]? = some oj → ∀ (ρ : Nat → Value) (w : World), Ext w0 w →
    (∀ t ∈ oj.looksAt ops, (∀ i oi, i < j → ops[i]? = some oi → oi.dst = some t → R i (ρ t) w) ∧ ((∀ i oi, i < j → ops[i]? = some oi → oi.dst ≠ some t) → ρ t = a0.tmps.getD t undef)) →
    if wantedR ops oj ρ then monoUpon P w (R j) ((execOp (evR ρ) oj).run P w) else R j undef w

theorem all_before {m : Nat} (hl : ∀ i, i < m → ∃ k o, i < k ∧ k < m + 1 ∧ ops[k]? = some o ∧ ∃ e ∈ o.after, Region.binds md e = true ∧ e.on = i) {listed : Array Bool} {om : Oper} (hom : ops[m]? = some om)
    (hclosed : ∀ j oj, ops[j]? = some oj → listed.getD j false = true → ∀ e ∈ oj.after, Region.binds md e = true → listed.getD e.on false = true)
    (hm : ∀ e ∈ om.after, Region.binds md e = true → listed.getD e.on false = true) : ∀ d i, i + d = m → 0 < d → listed.getD i false = true
  | d, i, hd, h0 => by
    obtain ⟨k, o, hik, hkm, ho, e, he, hb, hon⟩ := hl i (by omega)
    by_cases hkm' : k = m
    · subst hkm'
      have : o = om := Option.some.inj (ho.symm.trans hom)
      subst this
      exact hon ▸ hm e he hb
    · have := all_before hl hom hclosed hm (m - k) k (by omega) (by omega)
      exact hon ▸ hclosed k o ho this e he hb
  termination_by d i => d
  decreasing_by omega

theorem wpAny_monoL {n m : Nat} {R : Nat → Rel} {Q : Exit → Act → World → Prop} (hn : a0.tmps.size = n) (hB : monoL md ops n m = true) (hL : lastL md ops m = true) (hR : RspecL m P ops a0 w0 R)
    {om : Oper} (hom : ops[m]? = some om) (hfin : ∀ listed a w, InvL m P md ops a0 w0 R listed a w → (∀ j, j < m → listed.getD j false = true) → wpList P #[] Q [om] a w) :
    ∀ (fuel : Nat) (listed : Array Bool) (a : Act) (w : World), listed.toList.count false = fuel → InvL m P md ops a0 w0 R listed a w → wpAny P md ops Q fuel listed a w
  | 0, listed, a, w, hc, hi => by
    obtain ⟨hsz, _, _⟩ := lastL_spec hL
    exfalso
    have hml : m < listed.size := by rw [hi.lsize]; omega
    have h1 : listed.toList[m]'(by simpa using hml) = false := by have := hi.open_; simpa [Array.getElem?_eq_getElem hml] using this
    have := List.count_pos_iff.2 (h1 ▸ List.getElem_mem (l := listed.toList) (by simpa using hml))
    omega
  | fuel + 1, listed, a, w, hc, hi => by
    obtain ⟨hsz, ⟨om', hom', hdm, hgm, ham⟩, hLL⟩ := lastL_spec hL
    obtain rfl : om' = om := Option.some.inj (hom'.symm.trans hom)
    obtain ⟨hsel, hB2⟩ := monoL_spec (m := m) (by omega) hB
    have hbackall : ∀ j oj, ops[j]? = some oj → ∀ e ∈ oj.after, Region.binds md e = true → e.on < j := by
      intro j oj hj
      have hjs : j < ops.size := (Array.getElem?_eq_some_iff.1 hj).1
      by_cases hjm : j = m
      · subst hjm
        obtain rfl : oj = om' := Option.some.inj (hj.symm.trans hom')
        exact fun e he _ => ham e he
      · exact (hB2 j oj (by omega) hj).1
    refine ⟨fun hnil => ?_, fun j hj => ?_⟩
    · have := all_of_ready_nil hbackall hi.lsize hnil m (by omega)
      rw [hi.open_] at this
      cases this
    obtain ⟨hjun, oj, hoj, hall⟩ := mem_ready.1 hj
    have hjs : j < ops.size := (Array.getElem?_eq_some_iff.1 hoj).1
    have hjl : j < listed.size := by rw [hi.lsize]; exact hjs
    by_cases hjm' : j = m
    · subst hjm'
      obtain rfl : oj = om' := Option.some.inj (hoj.symm.trans hom')
      have hbef : ∀ i, i < j → listed.getD i false = true := fun i hij => all_before hLL hoj hi.closed hall (j - i) i (by omega) (by omega)
      have hf := hfin _ _ _ hi hbef
      have hnil : Region.ready md ops (listed.setIfInBounds j true) = [] := by
        cases hr : Region.ready md ops (listed.setIfInBounds j true) with
        | nil => rfl
        | cons i is =>
          exfalso
          have hi' : i ∈ Region.ready md ops (listed.setIfInBounds j true) := by rw [hr]; simp
          obtain ⟨h0, o', ho', _⟩ := mem_ready.1 hi'
          have his : i < ops.size := (Array.getElem?_eq_some_iff.1 ho').1
          by_cases hij : i = j
          · subst hij; simp [hjl] at h0
          · have := hbef i (by omega)
            have := getD_both h0
            rw [getD_set_ne false (fun h => hij h.symm)] at this
            simp_all
      unfold wpOp
      simp only [hoj]
      unfold wpList at hf
      have hw1 : Region.wanted oj (yielded ops a.tmps) = true := by simp [Region.wanted, hgm]
      have hw2 : Region.wanted oj (yielded #[] a.tmps) = true := by simp [Region.wanted, hgm]
      rw [if_pos hw2] at hf
      rw [if_pos hw1]
      exact hf.imp (Oper.wp_mono fun a w h => wpAny_done hnil h fuel) id
    have hjm : j < m := by omega
    obtain ⟨hback, ⟨d, hd, hdn⟩, hpair⟩ := hB2 j oj hjm hoj
    have hszall : ∀ (i : Nat) t, ((ops[i]?).bind (·.dst)) = some t → t < a.tmps.size := by
      intro i t ht
      cases hoi : ops[i]? with
      | none => simp [hoi] at ht
      | some oi =>
        by_cases him : i = m
        · subst him
          obtain rfl : oi = om' := Option.some.inj (hoi.symm.trans hom')
          simp [hoi, hdm] at ht
        have him' : i < m := by have := (Array.getElem?_eq_some_iff.1 hoi).1; omega
        obtain ⟨_, ⟨d', hd', hdn'⟩, _⟩ := hB2 i oi him' hoi
        simp only [hoi, Option.bind_some, hd'] at ht
        injection ht with ht
        rw [hi.size, hn, ← ht]; exact hdn'
    -- of what this one looks at
    have hlook : ∀ t ∈ oj.looksAt ops, (∀ i oi, i < j → ops[i]? = some oi → oi.dst = some t → R i (a.tmps.getD t undef) w) ∧ ((∀ i oi, i < j → ops[i]? = some oi → oi.dst ≠ some t) → a.tmps.getD t undef = a0.tmps.getD t undef) := by
      intro t ht
      constructor
      · intro i oi hij hoi hdi
        obtain ⟨_, hp⟩ := hpair i oi hij hoi
        rcases hp with ⟨e, he, hb, hon⟩ | hap
        · have := hall e he hb
          rw [hon] at this
          exact hi.done i oi t (by omega) hoi this hdi
        · exact absurd ht ((Oper.apart_spec hap).1 t hdi)
      · intro hno
        refine hi.rest t fun i oi him hoi hli hdi => ?_
        rcases Nat.lt_trichotomy i j with hij | hij | hij
        · exact hno i oi hij hoi hdi
        · subst hij; rw [getD_both hjun] at hli; cases hli
        · obtain ⟨_, hp⟩ := (hB2 i oi him hoi).2.2 j oj hij hoj
          rcases hp with ⟨e, he, hb, hon⟩ | hap
          · have := hi.closed i oi hoi hli e he hb
            rw [hon, getD_both hjun] at this
            cases this
          · exact (Oper.apart_spec hap).2.2 t hdi ht
    have hobl := hR.2 j oj hjm hoj (fun t => a.tmps.getD t undef) w hi.ext hlook
    have hexec : execOp (evR fun t => a.tmps.getD t undef) oj = execOp a.eval oj :=
      execOp_congr oj (fun cs b => Region.noSelect_spec hsel j oj cs b hoj) fun x _ => (eval_evR a x).symm
    rw [hexec] at hobl
    -- behind it
    have hnext : ∀ v w', Ext w w' → R j v w' → InvL m P md ops a0 w0 R (listed.setIfInBounds j true) (a.put oj.dst v) w' := by
      intro v w' he hv
      have hdsz : d < a.tmps.size := by rw [hi.size, hn]; exact hdn
      rw [hd]
      refine ⟨hi.ext.trans he, hi.defers, by simp [Act.put, hi.size], by simp [hi.lsize], ?_, ?_, ?_, ?_⟩
      · intro i oi hoi hli e hee hb
        by_cases hij : j = i
        · subst hij
          have : oi = oj := Option.some.inj (hoi.symm.trans hoj)
          subst this
          exact getD_set_true (hall e hee hb)
        · rw [getD_set_ne false hij] at hli
          exact getD_set_true (hi.closed i oi hoi hli e hee hb)
      · intro i oi t him hoi hli hdi
        by_cases hij : j = i
        · subst hij
          have : oi = oj := Option.some.inj (hoi.symm.trans hoj)
          subst this
          rw [hd] at hdi
          injection hdi with hdi
          subst hdi
          have : (a.put (some d) v).tmps.getD d undef = v := by simp [Act.put, hdsz]
          rw [this]
          exact hv
        · rw [getD_set_ne false hij] at hli
          have hne : d ≠ t := by
            intro heq
            subst heq
            rcases Nat.lt_or_ge i j with h | h
            · exact (hpair i oi h hoi).1 (hdi.trans hd.symm)
            · exact ((hB2 i oi him hoi).2.2 j oj (by omega) hoj).1 (hd.trans hdi.symm)
          have : (a.put (some d) v).tmps.getD t undef = a.tmps.getD t undef := by simp [Act.put, Array.getElem?_setIfInBounds_ne hne]
          rw [this]
          exact hR.1 i _ w w' (hi.done i oi t him hoi hli hdi) he
      · intro t hno
        have hne : d ≠ t := fun heq => hno j oj hjm hoj (by simp [hjl]) (heq ▸ hd)
        have : (a.put (some d) v).tmps.getD t undef = a.tmps.getD t undef := by simp [Act.put, Array.getElem?_setIfInBounds_ne hne]
        rw [this]
        refine hi.rest t fun i oi him hoi hli hdi => ?_
        by_cases hij : j = i
        · subst hij; rw [getD_both hjun] at hli; cases hli
        · exact hno i oi him hoi (by rw [getD_set_ne false hij]; exact hli) hdi
      · rw [getD_set_ne false hjm']; exact hi.open_
    have hcnt : (listed.setIfInBounds j true).toList.count false = fuel := by
      have := count_set hjl hjun
      omega
    unfold wpOp
    simp only [hoj]
    rw [wanted_evR a oj hszall]
    split
    · rename_i hw
      rw [if_pos hw] at hobl
      exact .inl (wp_of_monoUpon hobl fun v w' he hv => wpAny_monoL hn hB hL hR hom hfin fuel _ _ _ hcnt (hnext v w' he hv))
    · rename_i hw
      rw [if_neg hw] at hobl
      exact wpAny_monoL hn hB hL hR hom hfin fuel _ _ _ hcnt (hnext undef w (Ext.refl _) hobl)

/-- **A region that draws its order, each operation looked at once.** -/
theorem wp_region_last {id : Nat} {Q : Exit → Act → World → Prop} {a : Act} {w : World} {l : List Oper} (hm : P.follows .mixedOrders = true) {om : Oper} (hB : monoL .any (l ++ [om]).toArray a.tmps.size l.length = true) (hL : lastL .any (l ++ [om]).toArray l.length = true)
    (h : Tele P (l ++ [om]).toArray a w (fun ρ w' => wpList P #[] Q [om] (puts ρ a l) w') l []) : (Code.region id (l ++ [om]).toArray true).wp P Q a w := by
  obtain ⟨hsel, hB2⟩ := monoL_spec (by simp) hB
  have hget : ∀ i, i < l.length → (l ++ [om]).toArray[i]? = l[i]? := fun i hi => by simp [List.getElem?_append_left hi]
  have hdst : ∀ (i : Nat) (oi : Oper), l[i]? = some oi → ∃ s, oi.dst = some s := fun i oi hoi => by
    have hil : i < l.length := (List.getElem?_eq_some_iff.1 hoi).1
    obtain ⟨_, ⟨t, ht, _⟩, _⟩ := hB2 i oi hil (by rw [hget i hil]; exact hoi)
    exact ⟨t, ht⟩
  obtain ⟨R, _, h2, h3, h4⟩ := tele_gives hdst l 0 (fun _ _ _ => True) (by simp) (fun j => by simp) h
  let R' : Nat → Rel := fun i => if i < l.length then R i else fun _ _ => False
  have hRR : ∀ i, i < l.length → R' i = R i := fun i hi => by simp only [R']; rw [if_pos hi]
  refine wp_region_any hm ?_
  refine wpAny_monoL (R := R') (w0 := w) (m := l.length) (om := om) rfl hB hL ⟨fun i v w1 w2 hr he => ?_, fun j oj hjl hoj ρ w1 he hl => ?_⟩ (by simp) ?_ _ _ _ _ ?_ ?_
  · by_cases hi : i < l.length
    · rw [hRR i hi] at hr ⊢; exact h2 i (Nat.zero_le _) hi v w1 w2 hr he
    · simp only [R'] at hr; rw [if_neg hi] at hr; exact hr.elim
  · have hoj' : l[j]? = some oj := by rw [← hget j hjl]; exact hoj
    rw [hRR j hjl]
    refine h3 j oj (Nat.zero_le _) hoj' ρ w1 he (known_of fun t ht => ?_)
    obtain ⟨g1, g2⟩ := hl t ht
    refine fact_of hdst j (by omega) (fun i oi hi hoi hdi => ?_) fun hno => g2 fun i oi hi hoi => hno i oi hi (by rw [← hget i (by omega)]; exact hoi)
    have := g1 i oi hi (by rw [hget i (by omega)]; exact hoi) hdi
    rwa [hRR i (by omega)] at this
  · intro listed a1 w1 hi hall
    have hslot : a1 = puts (fun t => a1.tmps.getD t undef) a l := by
      obtain ⟨p1, p2, p3⟩ := puts_slots (fun t => a1.tmps.getD t undef) l a
      refine act_ext (hi.defers.trans p1.symm) (hi.size.trans p2.symm) fun t ht => ?_
      rw [p3 t (by rw [← hi.size]; exact ht)]
      by_cases hex : ∃ o ∈ l, o.dst = some t
      · rw [if_pos hex]
      · rw [if_neg hex]
        exact hi.rest t fun i oi him hoi _ hdi => hex ⟨oi, List.mem_of_getElem? (by rw [← hget i him]; exact hoi), hdi⟩
    rw [hslot]
    refine h4 _ w1 hi.ext (envFacts_of hdst (fun i oi t hoi hdi => ?_) l.length (Nat.le_refl _))
    have hil : i < l.length := (List.getElem?_eq_some_iff.1 hoi).1
    have := hi.done i oi t hil (by rw [hget i hil]; exact hoi) (hall i hil) hdi
    rwa [hRR i hil] at this
  · simp
  · refine ⟨⟨rfl, rfl, rfl, Nat.le_refl _, fun _ _ => rfl⟩, rfl, rfl, by simp, fun j oj _ hl => ?_, fun i oi t _ _ hl => ?_, fun t _ => rfl, by simp⟩
    · exfalso
      simp only [Array.getD_eq_getD_getElem?, Array.getElem?_replicate] at hl
      split at hl <;> simp at hl
    · exfalso
      simp only [Array.getD_eq_getD_getElem?, Array.getElem?_replicate] at hl
      split at hl <;> simp at hl

def splitL : List Oper → Option (List Oper × Oper)
  | [] => none
  | o :: r => match splitL r with
    | none => some ([], o)
    | some (l, om) => some (o :: l, om)

theorem splitL_spec : ∀ {ops l : List Oper} {om : Oper}, splitL ops = some (l, om) → ops = l ++ [om]
  | [], _, _, h => by cases h
  | o :: r, l, om, h => by
    unfold splitL at h
    split at h
    · rename_i hn
      injection h with h
      injection h with h1 h2
      subst h1; subst h2
      cases r with
      | nil => rfl
      | cons x y => unfold splitL at hn; split at hn <;> cases hn
    · rename_i l' om' hs
      injection h with h
      injection h with h1 h2
      subst h1; subst h2
      rw [splitL_spec hs]; rfl

/-- As above, the list as it is written. -/
theorem wp_region_last_lit {id : Nat} {Q : Exit → Act → World → Prop} {a : Act} {w : World} {L l : List Oper} {om : Oper} (hm : P.follows .mixedOrders = true) (hs : splitL L = some (l, om))
    (hB : monoL .any L.toArray a.tmps.size l.length = true) (hL : lastL .any L.toArray l.length = true)
    (h : Tele P L.toArray a w (fun ρ w' => wpList P #[] Q [om] (puts ρ a l) w') l []) : (Code.region id L.toArray true).wp P Q a w := by
  obtain rfl := splitL_spec hs
  exact wp_region_last hm hB hL h
end

/-- A call of a function value that holds a function of the program. -/
theorem run_call_val {P : Program} {o : Oper} {s : Operand} {f : FuncId} {fn : Func} {args : Array Operand} {ts : Array TypeId} (hop : o.op = .call { callee := .value s, args := args, argTypes := ts })
    (hf : P.funcs[f]? = some fn) (hn : ((fn.name == "runtime.NumGoroutine") || fn.body.isNone) = false) (ev : Operand → Value) (hs : ev s = .func (.func f) #[] #[]) (w : World) : (execOp ev o).run P w = .ok (.enter f (args.map ev)) w := by
  have h1 : (fn.name == "runtime.NumGoroutine") = false := by
    cases h : (fn.name == "runtime.NumGoroutine") with
    | false => rfl
    | true => rw [h] at hn; cases hn
  have h2 : fn.body.isNone = false := by
    cases h : fn.body.isNone with
    | false => rfl
    | true => rw [h] at hn; simp at hn
  have h1' : ¬ fn.name = "runtime.NumGoroutine" := by simpa using h1
  have h2' : ¬ fn.body = none := by intro h; simp [h] at h2
  simp only [execOp, hop, resolve, hs, Deferred.ofValue, invoke, callFunc]
  simp [hf, h1', h2']

theorem tele_callv {P : Program} {ops : Array Oper} {a0 : Act} {w0 : World} {Fin : (Nat → Value) → World → Prop} {o : Oper} {rest : List Oper} {env : Env} {t : Tmp} (hd : o.dst = some t) {s : Operand} {f : FuncId} {fn : Func} {args : Array Operand} {ts : Array TypeId} (hop : o.op = .call { callee := .value s, args := args, argTypes := ts })
    (hf : P.funcs[f]? = some fn) (hn : ((fn.name == "runtime.NumGoroutine") || fn.body.isNone) = false) (R : MRel)
    (hw : ∀ ρ w, Known env a0 ρ w (o.looksAt ops) → wantedR ops o ρ = true)
    (hs : ∀ ρ w, Known env a0 ρ w (o.looksAt ops) → evR ρ s = .func (.func f) #[] #[])
    (ho : ∀ ρ w, Ext w0 w → Known env a0 ρ w (o.looksAt ops) → Calls P f (args.map (evR ρ)) w fun e w' => ∃ v, e = .returned v ∧ Ext w w' ∧ R.rel v w')
    (hr : Tele P ops a0 w0 Fin rest ((t, R.rel) :: env)) : Tele P ops a0 w0 Fin (o :: rest) env := by
  refine tele_any hd R (fun ρ w he hk => ?_) hr
  rw [if_pos (hw ρ w hk), run_call_val hop hf hn (evR ρ) (hs ρ w hk) w]
  exact ho ρ w he hk

/-- A cell that was there is there still. -/
theorem Ext.at {w w' : World} {b o : Nat} {v : Value} (he : Ext w w') (hb : b < w.heap.size) (h : w.cell? ⟨b, o, none⟩ = some v) : w'.cell? ⟨b, o, none⟩ = some v := (he.cell (p := ⟨b, o, none⟩) hb).trans h
end Mono
end Go.Proofs.Ytocdifjdeifclaa

/-
  As Mono, for a region whose last operations (stores) go behind all others, one behind the other. Over any program.
-/
namespace Go.Proofs.Ytocdifjdeifclaa
namespace Mono
open Go.RowKit
set_option linter.unusedVariables false

/-- What an allocation leaves. -/
theorem run_alloc_inv {P : Program} {o : Oper} {T : TypeId} {ev : Operand → Value} {w : World} {R : Value → World → Prop} (hop : o.op = .alloc T) (h : monoUpon P w R ((execOp ev o).run P w)) :
    ∃ obj, (execOp ev o).run P w = .ok (.value (.pointer (some ⟨w.heap.size, 0, none⟩))) (w.alloc obj) := by
  simp only [execOp, hop, Instr.alloc, zeroValue, newVar, newRow] at h ⊢
  simp [typeInfo] at h ⊢
  cases hi : P.info? T with
  | none => rw [hi] at h; simp [stuck, monoUpon] at h
  | some i =>
    rw [hi] at h
    cases hz : i.zero with
    | none => simp [hz, monoUpon] at h
    | some v => exact ⟨.cells v.cells T, by simp [hz]⟩

/-- Edges lead back; what is not tied by an edge is apart; each operation has a slot of its own. -/
def monoT (md : Region.Mode) (ops : Array Oper) (n m : Nat) : Bool :=
  Region.noSelect ops && (List.range m).all fun j => match ops[j]? with
    | none => true
    | some oj => (oj.after.all fun e => !Region.binds md e || decide (e.on < j)) && (match oj.dst with | some t => decide (t < n) | none => false) && (oj.guard.isNone || match oj.op with | .alloc _ => false | _ => true) &&
      (List.range j).all fun i => match ops[i]? with
        | none => true
        | some oi => (oj.after.any fun e => Region.binds md e && e.on == i) && oi.dst != oj.dst || oi.apart ops oj

/-- The operations from m on are the last ones, one behind the other, without a guard; each other one goes before a later one. -/
def tailT (md : Region.Mode) (ops : Array Oper) (n m : Nat) : Bool :=
  ((List.range ops.size).all fun j => decide (j < m) || match ops[j]? with
    | none => false
    | some o => o.guard.isNone && (o.after.all fun e => decide (e.on < j)) && (match o.dst with | some t => decide (t < n) | none => true) && (decide (j = m) || o.after.any fun e => Region.binds md e && e.on + 1 == j)) && decide (m < ops.size) &&
  (List.range m).all fun i => (List.range (m + 1)).any fun k => decide (i < k) && match ops[k]? with
    | none => false
    | some o => o.after.any fun e => Region.binds md e && e.on == i

section
variable {P : Program} {ops : Array Oper} {md : Region.Mode} {a0 : Act} {w0 : World}

theorem tailT_spec {n m : Nat} (h : tailT md ops n m = true) : m < ops.size ∧ (∀ j o, m ≤ j → ops[j]? = some o → o.guard = none ∧ (∀ e ∈ o.after, e.on < j) ∧ (∀ t, o.dst = some t → t < n) ∧ (m < j → ∃ e ∈ o.after, Region.binds md e = true ∧ e.on + 1 = j)) ∧
    ∀ i, i < m → ∃ k o, i < k ∧ k < m + 1 ∧ ops[k]? = some o ∧ ∃ e ∈ o.after, Region.binds md e = true ∧ e.on = i := by
  simp only [tailT, Bool.and_eq_true, List.all_eq_true, List.mem_range, decide_eq_true_eq] at h
  obtain ⟨⟨h1, h2⟩, h3⟩ := h
  refine ⟨h2, fun j o hmj ho => ?_, fun i hi => ?_⟩
  · have hj := (Array.getElem?_eq_some_iff.1 ho).1
    have := h1 j hj
    rw [ho] at this
    simp only [Bool.or_eq_true, decide_eq_true_eq, Bool.and_eq_true, Option.isNone_iff_eq_none, Array.all_eq_true_iff_forall_mem] at this
    rcases this with h | ⟨⟨⟨g1, g2⟩, g3⟩, g4⟩
    · omega
    · refine ⟨g1, g2, fun t ht => by rw [ht] at g3; simpa using g3, fun hlt => ?_⟩
      rcases g4 with g4 | g4
      · omega
      · obtain ⟨e, he, hb⟩ := Array.any_eq_true'.1 g4
        simp only [Bool.and_eq_true, beq_iff_eq] at hb
        exact ⟨e, he, hb.1, hb.2⟩
  · have := h3 i hi
    simp only [List.any_eq_true, List.mem_range, Bool.and_eq_true, decide_eq_true_eq] at this
    obtain ⟨k, hk, hik, hm⟩ := this
    cases ho : ops[k]? with
    | none => rw [ho] at hm; cases hm
    | some o =>
      rw [ho] at hm
      obtain ⟨e, he, hb⟩ := Array.any_eq_true'.1 hm
      simp only [Bool.and_eq_true, beq_iff_eq] at hb
      exact ⟨k, o, hik, hk, ho, e, he, hb.1, hb.2⟩

/-- Once all before k are listed, the rest goes one behind the other. -/
theorem wpAny_rest {n m : Nat} {Q : Exit → Act → World → Prop} (hL : tailT md ops n m = true) : ∀ (fuel k : Nat) (listed : Array Bool) (a : Act) (w : World), m ≤ k → k + fuel = ops.size → listed.size = ops.size →
    (∀ j, j < k → listed.getD j false = true) → (∀ j, k ≤ j → listed.getD j false = false) → wpList P #[] Q (ops.toList.drop k) a w → wpAny P md ops Q fuel listed a w
  | 0, k, listed, a, w, hmk, hk, hs, hin, hout, h => by
    have hnil : Region.ready md ops listed = [] := by
      cases hr : Region.ready md ops listed with
      | nil => rfl
      | cons i is =>
        exfalso
        have hi : i ∈ Region.ready md ops listed := by rw [hr]; simp
        obtain ⟨h0, o, ho, _⟩ := mem_ready.1 hi
        have his : i < ops.size := (Array.getElem?_eq_some_iff.1 ho).1
        have := hin i (by omega)
        have := getD_both h0
        simp_all
    rw [List.drop_eq_nil_of_le (by simp; omega)] at h
    exact ⟨hnil, h⟩
  | fuel + 1, k, listed, a, w, hmk, hk, hs, hin, hout, h => by
    obtain ⟨_, hT, _⟩ := tailT_spec hL
    have hks : k < ops.size := by omega
    obtain ⟨hg, hback, _, _⟩ := hT k ops[k] hmk (Array.getElem?_eq_getElem hks)
    have hready : ∀ j, j ∈ Region.ready md ops listed → j = k := by
      intro j hj
      obtain ⟨h0, o, ho, hall⟩ := mem_ready.1 hj
      have hjs : j < ops.size := (Array.getElem?_eq_some_iff.1 ho).1
      rcases Nat.lt_trichotomy j k with hjk | hjk | hjk
      · have := hin j hjk
        have := getD_both h0
        simp_all
      · exact hjk
      · obtain ⟨_, _, _, hc⟩ := hT j o (by omega) ho
        obtain ⟨e, he, hb, hon⟩ := hc (by omega)
        have h1 := hall e he hb
        have h2 := hout e.on (by omega)
        rw [h1] at h2; cases h2
    have hkr : k ∈ Region.ready md ops listed := mem_ready.2 ⟨getD_in (by omega) (hout k (Nat.le_refl _)), ops[k], Array.getElem?_eq_getElem hks, fun e he _ => hin e.on (hback e he)⟩
    refine ⟨fun hnil => (by rw [hnil] at hkr; cases hkr), fun j hj => ?_⟩
    obtain rfl := hready j hj
    rw [List.drop_eq_getElem_cons (by simpa using hks)] at h
    unfold wpList at h
    unfold wpOp
    have hgo : ops.toList[j]'(by simpa using hks) = ops[j] := by simp
    rw [hgo] at h
    have hw1 : Region.wanted ops[j] (yielded ops a.tmps) = true := by simp [Region.wanted, hg]
    have hw2 : Region.wanted ops[j] (yielded #[] a.tmps) = true := by simp [Region.wanted, hg]
    rw [if_pos hw2] at h
    simp only [Array.getElem?_eq_getElem hks]
    rw [if_pos hw1]
    refine h.imp (Oper.wp_mono fun a' w' h' => ?_) id
    refine wpAny_rest hL fuel (j + 1) _ a' w' (by omega) (by omega) (by simp [hs]) (fun i hi => ?_) (fun i hi => ?_) h'
    · by_cases hij : i = j
      · subst hij; simp [hs, hks]
      · rw [getD_set_ne false (fun h => hij h.symm)]; exact hin i (by omega)
    · rw [getD_set_ne false (show j ≠ i by omega)]; exact hout i (by omega)

theorem monoT_spec {n m : Nat} (hms : m ≤ ops.size) (h : monoT md ops n m = true) : Region.noSelect ops = true ∧ ∀ j oj, j < m → ops[j]? = some oj →
    (∀ e ∈ oj.after, Region.binds md e = true → e.on < j) ∧ (∃ t, oj.dst = some t ∧ t < n) ∧ ((∃ T, oj.op = .alloc T) → oj.guard = none) ∧
    ∀ i oi, i < j → ops[i]? = some oi → oi.dst ≠ oj.dst ∧ ((∃ e ∈ oj.after, Region.binds md e = true ∧ e.on = i) ∨ oi.apart ops oj = true) := by
  simp only [monoT, Bool.and_eq_true, List.all_eq_true, List.mem_range] at h
  refine ⟨h.1, fun j oj hjs hj => ?_⟩
  have h1 := h.2 j hjs
  simp only [hj, Bool.and_eq_true, Array.all_eq_true_iff_forall_mem, Bool.or_eq_true, Bool.not_eq_true', decide_eq_true_eq, List.all_eq_true, List.mem_range] at h1
  obtain ⟨⟨⟨ha, hd⟩, hgd⟩, hp⟩ := h1
  have hdst : ∃ t, oj.dst = some t ∧ t < n := by
    cases hdd : oj.dst with
    | none => simp [hdd] at hd
    | some t => exact ⟨t, rfl, by simpa [hdd] using hd⟩
  refine ⟨fun e he hb => (ha e he).resolve_left (by simp [hb]), hdst, fun ⟨T, hT⟩ => by rw [hT] at hgd; simpa using hgd, fun i oi hi hoi => ?_⟩
  have h2 := hp i hi
  simp only [hoi, Bool.or_eq_true, Bool.and_eq_true, bne_iff_ne, ne_eq] at h2
  rcases h2 with ⟨h2, h3⟩ | h2
  · refine ⟨h3, .inl ?_⟩
    obtain ⟨e, he, hb⟩ := Array.any_eq_true'.1 h2
    simp only [Bool.and_eq_true, beq_iff_eq] at hb
    exact ⟨e, he, hb.1, hb.2⟩
  · refine ⟨fun heq => ?_, .inr h2⟩
    obtain ⟨t, ht, _⟩ := hdst
    exact (Oper.apart_spec h2).2.1 t (heq.trans ht) ht

/-- The state of affairs once the operations that are listed have been carried out. -/
structure InvT (m : Nat) (P : Program) (md : Region.Mode) (ops : Array Oper) (a0 : Act) (w0 : World) (R : Nat → Rel) (listed : Array Bool) (a : Act) (w : World) : Prop where
  ext : Ext w0 w
  defers : a.defers = a0.defers
  size : a.tmps.size = a0.tmps.size
  lsize : listed.size = ops.size
  closed : ∀ j oj, ops[j]? = some oj → listed.getD j false = true → ∀ e ∈ oj.after, Region.binds md e = true → listed.getD e.on false = true
  done : ∀ i oi t, i < m → ops[i]? = some oi → listed.getD i false = true → oi.dst = some t → R i (a.tmps.getD t undef) w
  rest : ∀ t, (∀ i oi, i < m → ops[i]? = some oi → listed.getD i false = true → oi.dst ≠ some t) → a.tmps.getD t undef = a0.tmps.getD t undef
  open_ : ∀ j, m ≤ j → listed.getD j false = false
  fresh : ∀ i oi t, i < m → ops[i]? = some oi → listed.getD i false = true → oi.dst = some t → (∃ T, oi.op = .alloc T) → ∃ b, a.tmps.getD t undef = .pointer (some ⟨b, 0, none⟩) ∧ b < w.heap.size
  twain : ∀ i j oi oj s t, i ≠ j → i < m → j < m → ops[i]? = some oi → ops[j]? = some oj → listed.getD i false = true → listed.getD j false = true → oi.dst = some s → oj.dst = some t → (∃ T, oi.op = .alloc T) → (∃ T, oj.op = .alloc T) → a.tmps.getD s undef ≠ a.tmps.getD t undef

def RspecT (m : Nat) (P : Program) (ops : Array Oper) (a0 : Act) (w0 : World) (R : Nat → Rel) : Prop :=
  (∀ i v w w', R i v w → Ext w w' → R i v w') ∧
  ∀ j oj, j < m → ops[j]? = some oj → ∀ (ρ : Nat → Value) (w : World), Ext w0 w →
    (∀ t ∈ oj.looksAt ops, (∀ i oi, i < j → ops[i]? = some oi → oi.dst = some t → R i (ρ t) w) ∧ ((∀ i oi, i < j → ops[i]? = some oi → oi.dst ≠ some t) → ρ t = a0.tmps.getD t undef)) →
    if wantedR ops oj ρ then monoUpon P w (R j) ((execOp (evR ρ) oj).run P w) else R j undef w

theorem all_beforeT {m : Nat} (hl : ∀ i, i < m → ∃ k o, i < k ∧ k < m + 1 ∧ ops[k]? = some o ∧ ∃ e ∈ o.after, Region.binds md e = true ∧ e.on = i) {listed : Array Bool} {om : Oper} (hom : ops[m]? = some om)
    (hclosed : ∀ j oj, ops[j]? = some oj → listed.getD j false = true → ∀ e ∈ oj.after, Region.binds md e = true → listed.getD e.on false = true)
    (hm : ∀ e ∈ om.after, Region.binds md e = true → listed.getD e.on false = true) : ∀ d i, i + d = m → 0 < d → listed.getD i false = true
  | d, i, hd, h0 => by
    obtain ⟨k, o, hik, hkm, ho, e, he, hb, hon⟩ := hl i (by omega)
    by_cases hkm' : k = m
    · subst hkm'
      have : o = om := Option.some.inj (ho.symm.trans hom)
      subst this
      exact hon ▸ hm e he hb
    · have := all_beforeT hl hom hclosed hm (m - k) k (by omega) (by omega)
      exact hon ▸ hclosed k o ho this e he hb
  termination_by d i => d
  decreasing_by omega

theorem wpAny_monoT {n m : Nat} {R : Nat → Rel} {Q : Exit → Act → World → Prop} (hn : a0.tmps.size = n) (hB : monoT md ops n m = true) (hL : tailT md ops n m = true) (hR : RspecT m P ops a0 w0 R)
    (hfin : ∀ listed a w, InvT m P md ops a0 w0 R listed a w → (∀ j, j < m → listed.getD j false = true) → wpList P #[] Q (ops.toList.drop m) a w) :
    ∀ (fuel : Nat) (listed : Array Bool) (a : Act) (w : World), listed.toList.count false = fuel → InvT m P md ops a0 w0 R listed a w → wpAny P md ops Q fuel listed a w
  | 0, listed, a, w, hc, hi => by
    obtain ⟨hsz, _, _⟩ := tailT_spec hL
    exfalso
    have hml : m < listed.size := by rw [hi.lsize]; omega
    have h1 : listed.toList[m]'(by simpa using hml) = false := by have := hi.open_ m (Nat.le_refl _); simpa [Array.getElem?_eq_getElem hml] using this
    have := List.count_pos_iff.2 (h1 ▸ List.getElem_mem (l := listed.toList) (by simpa using hml))
    omega
  | fuel + 1, listed, a, w, hc, hi => by
    obtain ⟨hsz, hT, hLL⟩ := tailT_spec hL
    obtain ⟨hsel, hB2⟩ := monoT_spec (m := m) (by omega) hB
    have hbackall : ∀ j oj, ops[j]? = some oj → ∀ e ∈ oj.after, Region.binds md e = true → e.on < j := by
      intro j oj hj
      by_cases hjm : j < m
      · exact (hB2 j oj hjm hj).1
      · exact fun e he _ => (hT j oj (by omega) hj).2.1 e he
    refine ⟨fun hnil => ?_, fun j hj => ?_⟩
    · have := all_of_ready_nil hbackall hi.lsize hnil m (by omega)
      rw [hi.open_ m (Nat.le_refl _)] at this
      cases this
    have hj' := hj
    obtain ⟨hjun, oj, hoj, hall⟩ := mem_ready.1 hj
    have hjs : j < ops.size := (Array.getElem?_eq_some_iff.1 hoj).1
    have hjl : j < listed.size := by rw [hi.lsize]; exact hjs
    by_cases hjm' : m ≤ j
    · have hjm : j = m := by
        rcases Nat.lt_or_ge m j with h | h
        · exfalso
          obtain ⟨e, he, hb, hon⟩ := (hT j oj hjm' hoj).2.2.2 h
          have h1 := hall e he hb
          rw [hi.open_ e.on (by omega)] at h1
          cases h1
        · omega
      subst hjm
      have hbef : ∀ i, i < j → listed.getD i false = true := fun i hij => all_beforeT hLL hoj hi.closed hall (j - i) i (by omega) (by omega)
      have hf := hfin _ _ _ hi hbef
      have hcnt : j + (fuel + 1) = ops.size := by
        have h1 : listed.toList = List.replicate j true ++ List.replicate (ops.size - j) false := by
          apply List.ext_getElem
          · simp [hi.lsize]; omega
          · intro i h1 h2
            have hil : i < listed.size := by simpa using h1
            have hgd : listed.getD i false = listed.toList[i] := by simp [Array.getElem?_eq_getElem hil]
            rw [← hgd]
            by_cases hij : i < j
            · rw [hbef i hij, List.getElem_append_left (by simpa using hij)]; simp
            · rw [hi.open_ i (by omega), List.getElem_append_right (by simp; omega)]; simp
        rw [h1] at hc
        simp [List.count_replicate] at hc
        omega
      exact (wpAny_rest hL (fuel + 1) j listed a w (Nat.le_refl _) hcnt hi.lsize hbef hi.open_ hf).2 j hj'
    have hjm : j < m := by omega
    obtain ⟨hback, ⟨d, hd, hdn⟩, hnog, hpair⟩ := hB2 j oj hjm hoj
    have hszall : ∀ (i : Nat) t, ((ops[i]?).bind (·.dst)) = some t → t < a.tmps.size := by
      intro i t ht
      cases hoi : ops[i]? with
      | none => simp [hoi] at ht
      | some oi =>
        by_cases him : m ≤ i
        · simp only [hoi, Option.bind_some] at ht
          have := (hT i oi him hoi).2.2.1 t ht
          rw [hi.size, hn]; exact this
        have him' : i < m := by omega
        obtain ⟨_, ⟨d', hd', hdn'⟩, _⟩ := hB2 i oi him' hoi
        simp only [hoi, Option.bind_some, hd'] at ht
        injection ht with ht
        rw [hi.size, hn, ← ht]; exact hdn'
    -- of what this one looks at
    have hlook : ∀ t ∈ oj.looksAt ops, (∀ i oi, i < j → ops[i]? = some oi → oi.dst = some t → R i (a.tmps.getD t undef) w) ∧ ((∀ i oi, i < j → ops[i]? = some oi → oi.dst ≠ some t) → a.tmps.getD t undef = a0.tmps.getD t undef) := by
      intro t ht
      constructor
      · intro i oi hij hoi hdi
        obtain ⟨_, hp⟩ := hpair i oi hij hoi
        rcases hp with ⟨e, he, hb, hon⟩ | hap
        · have := hall e he hb
          rw [hon] at this
          exact hi.done i oi t (by omega) hoi this hdi
        · exact absurd ht ((Oper.apart_spec hap).1 t hdi)
      · intro hno
        refine hi.rest t fun i oi him hoi hli hdi => ?_
        rcases Nat.lt_trichotomy i j with hij | hij | hij
        · exact hno i oi hij hoi hdi
        · subst hij; rw [getD_both hjun] at hli; cases hli
        · obtain ⟨_, hp⟩ := (hB2 i oi him hoi).2.2.2 j oj hij hoj
          rcases hp with ⟨e, he, hb, hon⟩ | hap
          · have := hi.closed i oi hoi hli e he hb
            rw [hon, getD_both hjun] at this
            cases this
          · exact (Oper.apart_spec hap).2.2 t hdi ht
    have hobl := hR.2 j oj hjm hoj (fun t => a.tmps.getD t undef) w hi.ext hlook
    have hexec : execOp (evR fun t => a.tmps.getD t undef) oj = execOp a.eval oj :=
      execOp_congr oj (fun cs b => Region.noSelect_spec hsel j oj cs b hoj) fun x _ => (eval_evR a x).symm
    rw [hexec] at hobl
    -- behind it
    have hnext : ∀ v w', Ext w w' → R j v w' → ((∃ T, oj.op = .alloc T) → v = .pointer (some ⟨w.heap.size, 0, none⟩) ∧ w.heap.size < w'.heap.size) → InvT m P md ops a0 w0 R (listed.setIfInBounds j true) (a.put oj.dst v) w' := by
      intro v w' he hv hal
      have hdsz : d < a.tmps.size := by rw [hi.size, hn]; exact hdn
      have hput : (a.put (some d) v).tmps.getD d undef = v := by simp [Act.put, hdsz]
      have hkeep : ∀ i oi t, i < m → ops[i]? = some oi → oi.dst = some t → i ≠ j → (a.put (some d) v).tmps.getD t undef = a.tmps.getD t undef := by
        intro i oi t him hoi hdi hij
        have hne : d ≠ t := by
          intro heq
          subst heq
          rcases Nat.lt_or_ge i j with h | h
          · exact (hpair i oi h hoi).1 (hdi.trans hd.symm)
          · exact ((hB2 i oi him hoi).2.2.2 j oj (by omega) hoj).1 (hd.trans hdi.symm)
        simp [Act.put, Array.getElem?_setIfInBounds_ne hne]
      rw [hd]
      refine ⟨hi.ext.trans he, hi.defers, by simp [Act.put, hi.size], by simp [hi.lsize], ?_, ?_, ?_, ?_, ?_, ?_⟩
      · intro i oi hoi hli e hee hb
        by_cases hij : j = i
        · subst hij
          have : oi = oj := Option.some.inj (hoi.symm.trans hoj)
          subst this
          exact getD_set_true (hall e hee hb)
        · rw [getD_set_ne false hij] at hli
          exact getD_set_true (hi.closed i oi hoi hli e hee hb)
      · intro i oi t him hoi hli hdi
        by_cases hij : j = i
        · subst hij
          have : oi = oj := Option.some.inj (hoi.symm.trans hoj)
          subst this
          rw [hd] at hdi
          injection hdi with hdi
          subst hdi
          have : (a.put (some d) v).tmps.getD d undef = v := by simp [Act.put, hdsz]
          rw [this]
          exact hv
        · rw [getD_set_ne false hij] at hli
          have hne : d ≠ t := by
            intro heq
            subst heq
            rcases Nat.lt_or_ge i j with h | h
            · exact (hpair i oi h hoi).1 (hdi.trans hd.symm)
            · exact ((hB2 i oi him hoi).2.2.2 j oj (by omega) hoj).1 (hd.trans hdi.symm)
          have : (a.put (some d) v).tmps.getD t undef = a.tmps.getD t undef := by simp [Act.put, Array.getElem?_setIfInBounds_ne hne]
          rw [this]
          exact hR.1 i _ w w' (hi.done i oi t him hoi hli hdi) he
      · intro t hno
        have hne : d ≠ t := fun heq => hno j oj hjm hoj (by simp [hjl]) (heq ▸ hd)
        have : (a.put (some d) v).tmps.getD t undef = a.tmps.getD t undef := by simp [Act.put, Array.getElem?_setIfInBounds_ne hne]
        rw [this]
        refine hi.rest t fun i oi him hoi hli hdi => ?_
        by_cases hij : j = i
        · subst hij; rw [getD_both hjun] at hli; cases hli
        · exact hno i oi him hoi (by rw [getD_set_ne false hij]; exact hli) hdi
      · intro i hmi; rw [getD_set_ne false (show j ≠ i by omega)]; exact hi.open_ i hmi
      · intro i oi t him hoi hli hdi hali
        by_cases hij : j = i
        · subst hij
          obtain rfl : oi = oj := Option.some.inj (hoi.symm.trans hoj)
          obtain ⟨hv1, hv2⟩ := hal hali
          obtain rfl : d = t := Option.some.inj (hd.symm.trans hdi)
          exact ⟨w.heap.size, by rw [hput, hv1], hv2⟩
        · rw [getD_set_ne false hij] at hli
          rw [hkeep i oi t him hoi hdi (fun h => hij h.symm)]
          obtain ⟨b, hb1, hb2⟩ := hi.fresh i oi t him hoi hli hdi hali
          exact ⟨b, hb1, Nat.lt_of_lt_of_le hb2 he.size⟩
      · intro i k oi ok s t hik him hkm hoi hok hli hlk hdi hdk hali halk
        by_cases hij : i = j
        · subst hij
          obtain rfl : oi = oj := Option.some.inj (hoi.symm.trans hoj)
          obtain ⟨hv1, hv2⟩ := hal hali
          obtain rfl : d = s := Option.some.inj (hd.symm.trans hdi)
          rw [getD_set_ne false hik] at hlk
          obtain ⟨b, hb1, hb2⟩ := hi.fresh k ok t hkm hok hlk hdk halk
          rw [hput, hkeep k ok t hkm hok hdk (fun h => hik h.symm), hv1, hb1]
          intro h
          injection h with h
          injection h with h
          injection h with h
          omega
        · by_cases hkj : k = j
          · subst hkj
            obtain rfl : ok = oj := Option.some.inj (hok.symm.trans hoj)
            obtain ⟨hv1, hv2⟩ := hal halk
            obtain rfl : d = t := Option.some.inj (hd.symm.trans hdk)
            rw [getD_set_ne false (fun h => hij h.symm)] at hli
            obtain ⟨b, hb1, hb2⟩ := hi.fresh i oi s him hoi hli hdi hali
            rw [hput, hkeep i oi s him hoi hdi hij, hv1, hb1]
            intro h
            injection h with h
            injection h with h
            injection h with h
            omega
          · rw [getD_set_ne false (fun h => hij h.symm)] at hli
            rw [getD_set_ne false (fun h => hkj h.symm)] at hlk
            rw [hkeep i oi s him hoi hdi hij, hkeep k ok t hkm hok hdk hkj]
            exact hi.twain i k oi ok s t hik him hkm hoi hok hli hlk hdi hdk hali halk
    have hcnt : (listed.setIfInBounds j true).toList.count false = fuel := by
      have := count_set hjl hjun
      omega
    unfold wpOp
    simp only [hoj]
    by_cases hall' : ∃ T, oj.op = .alloc T
    · obtain ⟨T, hop⟩ := hall'
      have hg := hnog ⟨T, hop⟩
      have hw1 : wantedR ops oj (fun t => a.tmps.getD t undef) = true := by simp [wantedR, Region.wanted, hg]
      have hw2 : Region.wanted oj (yielded ops a.tmps) = true := by simp [Region.wanted, hg]
      rw [if_pos hw1] at hobl
      rw [if_pos hw2]
      obtain ⟨obj, hrun⟩ := run_alloc_inv hop hobl
      rw [hrun] at hobl
      obtain ⟨he, hv⟩ := hobl
      refine .inl ?_
      unfold Oper.wp
      rw [hrun, Oper.upon_value]
      exact wpAny_monoT hn hB hL hR hfin fuel _ _ _ hcnt (hnext _ _ he hv fun _ => ⟨rfl, by simp⟩)
    · rw [wanted_evR a oj hszall]
      split
      · rename_i hw
        rw [if_pos hw] at hobl
        exact .inl (wp_of_monoUpon hobl fun v w' he hv => wpAny_monoT hn hB hL hR hfin fuel _ _ _ hcnt (hnext v w' he hv fun h => absurd h hall'))
      · rename_i hw
        rw [if_neg hw] at hobl
        exact wpAny_monoT hn hB hL hR hfin fuel _ _ _ hcnt (hnext undef w (Ext.refl _) hobl fun h => absurd h hall')

/-- **A region that draws its order, each operation looked at once.** -/
theorem wp_region_tail {id : Nat} {Q : Exit → Act → World → Prop} {a : Act} {w : World} {l : List Oper} (hm : P.follows .mixedOrders = true) {lt : List Oper} (hB : monoT .any (l ++ lt).toArray a.tmps.size l.length = true) (hL : tailT .any (l ++ lt).toArray a.tmps.size l.length = true)
    (h : Tele P (l ++ lt).toArray a w (fun ρ w' => (∀ (i j : Nat) (oi oj : Oper) (s t : Tmp), i ≠ j → l[i]? = some oi → l[j]? = some oj → oi.dst = some s → oj.dst = some t → (∃ T, oi.op = .alloc T) → (∃ T, oj.op = .alloc T) → ρ s ≠ ρ t) → wpList P #[] Q lt (puts ρ a l) w') l []) : (Code.region id (l ++ lt).toArray true).wp P Q a w := by
  obtain ⟨hsel, hB2⟩ := monoT_spec (by simp) hB
  have hget : ∀ i, i < l.length → (l ++ lt).toArray[i]? = l[i]? := fun i hi => by simp [List.getElem?_append_left hi]
  have hdst : ∀ (i : Nat) (oi : Oper), l[i]? = some oi → ∃ s, oi.dst = some s := fun i oi hoi => by
    have hil : i < l.length := (List.getElem?_eq_some_iff.1 hoi).1
    obtain ⟨_, ⟨t, ht, _⟩, _⟩ := hB2 i oi hil (by rw [hget i hil]; exact hoi)
    exact ⟨t, ht⟩
  obtain ⟨R, _, h2, h3, h4⟩ := tele_gives hdst l 0 (fun _ _ _ => True) (by simp) (fun j => by simp) h
  let R' : Nat → Rel := fun i => if i < l.length then R i else fun _ _ => False
  have hRR : ∀ i, i < l.length → R' i = R i := fun i hi => by simp only [R']; rw [if_pos hi]
  refine wp_region_any hm ?_
  refine wpAny_monoT (R := R') (w0 := w) (m := l.length) rfl hB hL ⟨fun i v w1 w2 hr he => ?_, fun j oj hjl hoj ρ w1 he hl => ?_⟩ ?_ _ _ _ _ ?_ ?_
  · by_cases hi : i < l.length
    · rw [hRR i hi] at hr ⊢; exact h2 i (Nat.zero_le _) hi v w1 w2 hr he
    · simp only [R'] at hr; rw [if_neg hi] at hr; exact hr.elim
  · have hoj' : l[j]? = some oj := by rw [← hget j hjl]; exact hoj
    rw [hRR j hjl]
    refine h3 j oj (Nat.zero_le _) hoj' ρ w1 he (known_of fun t ht => ?_)
    obtain ⟨g1, g2⟩ := hl t ht
    refine fact_of hdst j (by omega) (fun i oi hi hoi hdi => ?_) fun hno => g2 fun i oi hi hoi => hno i oi hi (by rw [← hget i (by omega)]; exact hoi)
    have := g1 i oi hi (by rw [hget i (by omega)]; exact hoi) hdi
    rwa [hRR i (by omega)] at this
  · intro listed a1 w1 hi hall
    have hslot : a1 = puts (fun t => a1.tmps.getD t undef) a l := by
      obtain ⟨p1, p2, p3⟩ := puts_slots (fun t => a1.tmps.getD t undef) l a
      refine act_ext (hi.defers.trans p1.symm) (hi.size.trans p2.symm) fun t ht => ?_
      rw [p3 t (by rw [← hi.size]; exact ht)]
      by_cases hex : ∃ o ∈ l, o.dst = some t
      · rw [if_pos hex]
      · rw [if_neg hex]
        exact hi.rest t fun i oi him hoi _ hdi => hex ⟨oi, List.mem_of_getElem? (by rw [← hget i him]; exact hoi), hdi⟩
    rw [hslot]
    rw [show (l ++ lt).toArray.toList.drop l.length = lt by simp]
    refine h4 _ w1 hi.ext (envFacts_of hdst (fun i oi t hoi hdi => ?_) l.length (Nat.le_refl _)) (fun i j oi oj s t hij hoi hoj hdi hdj hali halj => ?_)
    rotate_left
    · have hil : i < l.length := (List.getElem?_eq_some_iff.1 hoi).1
      have hjl : j < l.length := (List.getElem?_eq_some_iff.1 hoj).1
      exact hi.twain i j oi oj s t hij hil hjl (by rw [hget i hil]; exact hoi) (by rw [hget j hjl]; exact hoj) (hall i hil) (hall j hjl) hdi hdj hali halj
    have hil : i < l.length := (List.getElem?_eq_some_iff.1 hoi).1
    have := hi.done i oi t hil (by rw [hget i hil]; exact hoi) (hall i hil) hdi
    rwa [hRR i hil] at this
  · simp
  · refine ⟨⟨rfl, rfl, rfl, Nat.le_refl _, fun _ _ => rfl⟩, rfl, rfl, by simp, fun j oj _ hl => ?_, fun i oi t _ _ hl => ?_, fun t _ => rfl, fun j _ => by simp [Array.getElem?_replicate]; split <;> simp, fun i oi t _ _ hl => ?_, fun i j oi oj s t _ _ _ _ _ hl => ?_⟩
    · exfalso
      simp only [Array.getD_eq_getD_getElem?, Array.getElem?_replicate] at hl
      split at hl <;> simp at hl
    · exfalso
      simp only [Array.getD_eq_getD_getElem?, Array.getElem?_replicate] at hl
      split at hl <;> simp at hl
    · exfalso
      simp only [Array.getD_eq_getD_getElem?, Array.getElem?_replicate] at hl
      split at hl <;> simp at hl
    · exfalso
      simp only [Array.getD_eq_getD_getElem?, Array.getElem?_replicate] at hl
      split at hl <;> simp at hl


def cutAtT : Nat → List Oper → Option (List Oper × List Oper)
  | 0, l => some ([], l)
  | _ + 1, [] => none
  | k + 1, o :: r => match cutAtT k r with
    | none => none
    | some (l, t) => some (o :: l, t)

theorem cutAtT_spec : ∀ {k : Nat} {ops l t : List Oper}, cutAtT k ops = some (l, t) → ops = l ++ t
  | 0, _, _, _, h => by
    unfold cutAtT at h
    injection h with h
    injection h with h1 h2
    subst h1; subst h2
    rfl
  | k + 1, [], _, _, h => by cases h
  | k + 1, o :: r, l, t, h => by
    unfold cutAtT at h
    split at h
    · cases h
    · rename_i l' t' hs
      injection h with h
      injection h with h1 h2
      subst h1; subst h2
      rw [cutAtT_spec hs]; rfl

theorem wp_region_tail_lit {id : Nat} {Q : Exit → Act → World → Prop} {a : Act} {w : World} {L l : List Oper} (k : Nat) {lt : List Oper} (hm : P.follows .mixedOrders = true) (hs : cutAtT k L = some (l, lt))
    (hB : monoT .any L.toArray a.tmps.size l.length = true) (hL : tailT .any L.toArray a.tmps.size l.length = true)
    (h : Tele P L.toArray a w (fun ρ w' => (∀ (i j : Nat) (oi oj : Oper) (s t : Tmp), i ≠ j → l[i]? = some oi → l[j]? = some oj → oi.dst = some s → oj.dst = some t → (∃ T, oi.op = .alloc T) → (∃ T, oj.op = .alloc T) → ρ s ≠ ρ t) → wpList P #[] Q lt (puts ρ a l) w') l []) : (Code.region id L.toArray true).wp P Q a w := by
  obtain rfl := cutAtT_spec hs
  exact wp_region_tail hm hB hL h
end
end Mono
end Go.Proofs.Ytocdifjdeifclaa
