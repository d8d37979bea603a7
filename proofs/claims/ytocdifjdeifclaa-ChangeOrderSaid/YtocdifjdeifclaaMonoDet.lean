/-
  A law for regions that draw their order, make no call, and turn the world by some operations that stand one behind the other (stores, a new block, an entry of a map): each operation is looked at once, in the text's order; an operation that only reads is looked at in each of the worlds in which it may come up. Over any program.
-/
import Derived.Test.YtocdifjdeifclaaMono
import Derived.Tactics
namespace Go.Proofs.Ytocdifjdeifclaa
namespace Mono
open Go.RowKit
set_option linter.unusedVariables false

def edgeB (md : Region.Mode) (o : Oper) (i : Nat) : Bool := o.after.any fun e => Region.binds md e && e.on == i
def rankB (B : Nat → Nat × Nat × Bool) (j : Nat) : Nat := ((List.range j).filter fun i => (B i).2.2).length

/-- B tells of each operation the least and the greatest number of turns that may be behind it, and whether it is a turn itself. -/
def detB (md : Region.Mode) (ops : Array Oper) (n : Nat) (B : Nat → Nat × Nat × Bool) : Bool :=
  Region.noSelect ops && (List.range ops.size).all fun j => match ops[j]? with
    | none => true
    | some oj => (oj.after.all fun e => !Region.binds md e || decide (e.on < j)) && (match oj.dst with | some t => decide (t < n) && !(oj.looksAt ops).contains t | none => true) &&
      (if (B j).2.2 = true then decide ((B j).1 = rankB B j) && (decide (rankB B j = 0) || (List.range j).any fun i => (B i).2.2 && decide (rankB B i + 1 = rankB B j) && edgeB md oj i)
       else (decide ((B j).1 = 0) || (List.range j).any fun i => (B i).2.2 && decide (rankB B i + 1 = (B j).1) && edgeB md oj i) &&
         (decide (rankB B ops.size ≤ (B j).2.1) || (List.range ops.size).any fun i => (B i).2.2 && decide (rankB B i = (B j).2.1) && match ops[i]? with | some oi => edgeB md oi j | none => false)) &&
      (List.range ops.size).all fun i => i == j || match ops[i]? with
        | none => true
        | some oi => (match oi.dst with
          | none => true
          | some t => oj.dst != some t && (!(oj.looksAt ops).contains t || (if i < j then edgeB md oj i else edgeB md oi j)))

structure DetS (md : Region.Mode) (ops : Array Oper) (n : Nat) (B : Nat → Nat × Nat × Bool) (j : Nat) (oj : Oper) : Prop where
  back : ∀ e ∈ oj.after, Region.binds md e = true → e.on < j
  dst : ∀ t, oj.dst = some t → t < n ∧ t ∉ oj.looksAt ops
  turn : (B j).2.2 = true → (B j).1 = rankB B j ∧ (rankB B j = 0 ∨ ∃ i, i < j ∧ (B i).2.2 = true ∧ rankB B i + 1 = rankB B j ∧ ∃ e ∈ oj.after, Region.binds md e = true ∧ e.on = i)
  lo : (B j).2.2 = false → (B j).1 = 0 ∨ ∃ i, i < j ∧ (B i).2.2 = true ∧ rankB B i + 1 = (B j).1 ∧ ∃ e ∈ oj.after, Region.binds md e = true ∧ e.on = i
  hi : (B j).2.2 = false → rankB B ops.size ≤ (B j).2.1 ∨ ∃ i oi, ops[i]? = some oi ∧ (B i).2.2 = true ∧ rankB B i = (B j).2.1 ∧ ∃ e ∈ oi.after, Region.binds md e = true ∧ e.on = j
  other : ∀ i oi t, i ≠ j → ops[i]? = some oi → oi.dst = some t → oj.dst ≠ some t ∧ (t ∈ oj.looksAt ops → (i < j ∧ ∃ e ∈ oj.after, Region.binds md e = true ∧ e.on = i) ∨ (j < i ∧ ∃ e ∈ oi.after, Region.binds md e = true ∧ e.on = j))

theorem edgeB_spec {md : Region.Mode} {o : Oper} {i : Nat} (h : edgeB md o i = true) : ∃ e ∈ o.after, Region.binds md e = true ∧ e.on = i := by
  obtain ⟨e, he, hb⟩ := Array.any_eq_true'.1 h
  simp only [Bool.and_eq_true, beq_iff_eq] at hb
  exact ⟨e, he, hb.1, hb.2⟩

section
variable {P : Program} {ops : Array Oper} {md : Region.Mode} {a0 : Act} {B : Nat → Nat × Nat × Bool}

theorem detB_spec {n : Nat} (h : detB md ops n B = true) : Region.noSelect ops = true ∧ ∀ j oj, ops[j]? = some oj → DetS md ops n B j oj := by
  simp only [detB, Bool.and_eq_true, List.all_eq_true, List.mem_range] at h
  refine ⟨h.1, fun j oj hj => ?_⟩
  have hjs : j < ops.size := (Array.getElem?_eq_some_iff.1 hj).1
  have h1 := h.2 j hjs
  rw [hj] at h1
  simp only [Bool.and_eq_true] at h1
  obtain ⟨⟨⟨h2, h3⟩, h4⟩, h5⟩ := h1
  refine ⟨?_, ?_, ?_, ?_, ?_, ?_⟩
  · intro e he hb
    rw [Array.all_eq_true_iff_forall_mem] at h2
    have := h2 e he
    simpa [hb] using this
  · intro t ht
    rw [ht] at h3
    simpa using h3
  · intro ht
    rw [if_pos ht] at h4
    simp only [Bool.and_eq_true, decide_eq_true_eq, List.any_eq_true, List.mem_range, Bool.or_eq_true] at h4
    refine ⟨h4.1, ?_⟩
    rcases h4.2 with h6 | ⟨i, hi, ⟨h6, h7⟩, h8⟩
    · exact .inl h6
    · exact .inr ⟨i, hi, h6, h7, edgeB_spec h8⟩
  · intro ht
    rw [if_neg (by simp [ht])] at h4
    simp only [Bool.and_eq_true, decide_eq_true_eq, List.any_eq_true, List.mem_range, Bool.or_eq_true] at h4
    rcases h4.1 with h6 | ⟨i, hi, ⟨h6, h7⟩, h8⟩
    · exact .inl h6
    · exact .inr ⟨i, hi, h6, h7, edgeB_spec h8⟩
  · intro ht
    rw [if_neg (by simp [ht])] at h4
    simp only [Bool.and_eq_true, decide_eq_true_eq, List.any_eq_true, List.mem_range, Bool.or_eq_true] at h4
    rcases h4.2 with h6 | ⟨i, hi, ⟨h6, h7⟩, h8⟩
    · exact .inl h6
    · cases ho : ops[i]? with
      | none => rw [ho] at h8; cases h8
      | some oi =>
        rw [ho] at h8
        exact .inr ⟨i, oi, ho, h6, h7, edgeB_spec h8⟩
  · intro i oi t hij hoi hdi
    have his : i < ops.size := (Array.getElem?_eq_some_iff.1 hoi).1
    rw [List.all_eq_true] at h5
    have h6 := h5 i (List.mem_range.2 his)
    rw [hoi] at h6
    simp only [hdi, Bool.or_eq_true, beq_iff_eq, Bool.and_eq_true, bne_iff_ne, ne_eq, Bool.not_eq_true'] at h6
    rcases h6 with h6 | ⟨h6, h7⟩
    · exact absurd h6 hij
    refine ⟨h6, fun ht => ?_⟩
    rcases h7 with h7 | h7
    · have : (oj.looksAt ops).contains t = true := by simpa using ht
      rw [this] at h7
      cases h7
    · by_cases hlt : i < j
      · rw [if_pos hlt] at h7
        exact .inl ⟨hlt, edgeB_spec h7⟩
      · rw [if_neg hlt] at h7
        exact .inr ⟨by omega, edgeB_spec h7⟩

/-- What the operation number j leaves: vs; the act behind the first j operations, in the text's order. -/
def seqA (ops : Array Oper) (vs : Nat → Value) (a0 : Act) : Nat → Act
  | 0 => a0
  | j + 1 => (seqA ops vs a0 j).put ((ops[j]?).bind (·.dst)) (vs j)
theorem seqA_defers (vs : Nat → Value) : ∀ j, (seqA ops vs a0 j).defers = a0.defers
  | 0 => rfl
  | j + 1 => by
    rw [seqA, ← seqA_defers vs j]
    cases (ops[j]?).bind (·.dst) <;> rfl
theorem seqA_size (vs : Nat → Value) : ∀ j, (seqA ops vs a0 j).tmps.size = a0.tmps.size
  | 0 => rfl
  | j + 1 => by
    rw [seqA, ← seqA_size vs j]
    cases (ops[j]?).bind (·.dst) <;> simp [Act.put]
/-- A slot that an earlier one writes. -/
theorem seqA_done (vs : Nat → Value) {i t : Nat} {oi : Oper} (ho : ops[i]? = some oi) (hd : oi.dst = some t) (ht : t < a0.tmps.size) : ∀ j, i < j → (∀ k ok, i < k → k < j → ops[k]? = some ok → ok.dst ≠ some t) → (seqA ops vs a0 j).tmps.getD t undef = vs i
  | 0, h, _ => absurd h (by omega)
  | j + 1, h, hn => by
    rw [seqA]
    by_cases hij : i = j
    · subst hij
      rw [ho, Option.bind_some, hd]
      have : t < (seqA ops vs a0 i).tmps.size := by rw [seqA_size]; exact ht
      simp [Act.put, this]
    · have ih := seqA_done vs ho hd ht j (by omega) (fun k ok h1 h2 h3 => hn k ok h1 (by omega) h3)
      rw [← ih]
      cases hoj : ops[j]? with
      | none => rfl
      | some oj =>
        rw [Option.bind_some]
        cases hdj : oj.dst with
        | none => rfl
        | some t' =>
          have : t' ≠ t := fun e => hn j oj (by omega) (by omega) hoj (by rw [hdj, e])
          simp [Act.put, Array.getElem?_setIfInBounds_ne this]
theorem seqA_rest (vs : Nat → Value) {t : Nat} : ∀ j, (∀ k ok, k < j → ops[k]? = some ok → ok.dst ≠ some t) → (seqA ops vs a0 j).tmps.getD t undef = a0.tmps.getD t undef
  | 0, _ => rfl
  | j + 1, hn => by
    have ih := seqA_rest vs j (fun k ok h1 h2 => hn k ok (by omega) h2)
    rw [seqA, ← ih]
    cases hoj : ops[j]? with
    | none => rfl
    | some oj =>
      rw [Option.bind_some]
      cases hdj : oj.dst with
      | none => rfl
      | some t' =>
        have : t' ≠ t := fun e => hn j oj (by omega) hoj (by rw [hdj, e])
        simp [Act.put, Array.getElem?_setIfInBounds_ne this]

/-- What must be shown of each operation: o in the act a. -/
def DetO (P : Program) (ops : Array Oper) (ws : Nat → World) (b : Nat × Nat × Bool) (a : Act) (o : Oper) (v : Value) : Prop :=
  if Region.wanted o (yielded ops a.tmps) = true then
    (if b.2.2 = true then ((execOp a.eval o).run P (ws b.1) = .ok (.value v) (ws (b.1 + 1)) ∨ (execOp a.eval o).run P (ws b.1) = .ok .skip (ws (b.1 + 1)) ∧ v = undef)
     else ∀ c, b.1 ≤ c → c ≤ b.2.1 → (execOp a.eval o).run P (ws c) = .ok (.value v) (ws c))
  else v = undef ∧ b.2.2 = false

/-- The state of affairs once the operations that are listed have been carried out. -/
structure DetI (md : Region.Mode) (ops : Array Oper) (a0 : Act) (B : Nat → Nat × Nat × Bool) (vs : Nat → Value) (ws : Nat → World) (listed : Array Bool) (a : Act) (w : World) (c : Nat) : Prop where
  world : w = ws c
  defers : a.defers = a0.defers
  size : a.tmps.size = a0.tmps.size
  lsize : listed.size = ops.size
  closed : ∀ j oj, ops[j]? = some oj → listed.getD j false = true → ∀ e ∈ oj.after, Region.binds md e = true → listed.getD e.on false = true
  turns : ∀ i oi, ops[i]? = some oi → (B i).2.2 = true → (listed.getD i false = true ↔ rankB B i < c)
  top : c ≤ rankB B ops.size
  done : ∀ i oi t, ops[i]? = some oi → listed.getD i false = true → oi.dst = some t → a.tmps.getD t undef = vs i
  rest : ∀ t, (∀ i oi, ops[i]? = some oi → listed.getD i false = true → oi.dst ≠ some t) → a.tmps.getD t undef = a0.tmps.getD t undef

theorem rankB_mono {i j : Nat} (h : i ≤ j) : rankB B i ≤ rankB B j := by
  obtain ⟨k, rfl⟩ := Nat.exists_eq_add_of_le h
  unfold rankB
  rw [List.range_add, List.filter_append, List.length_append]
  omega
theorem rankB_succ {i : Nat} (h : (B i).2.2 = true) : rankB B (i + 1) = rankB B i + 1 := by
  unfold rankB
  rw [List.range_succ, List.filter_append]
  simp [h]
theorem rankB_lt {i j : Nat} (h : i < j) (hi : (B i).2.2 = true) : rankB B i < rankB B j := by
  have h1 := rankB_mono (B := B) (show i + 1 ≤ j from h)
  rw [rankB_succ hi] at h1
  omega

theorem wpAny_det {n : Nat} {vs : Nat → Value} {ws : Nat → World} {Q : Exit → Act → World → Prop} (hn : a0.tmps.size = n) (hB : detB md ops n B = true)
    (hO : ∀ j oj, ops[j]? = some oj → DetO P ops ws (B j) (seqA ops vs a0 j) oj (vs j))
    (hfin : Q .normal (seqA ops vs a0 ops.size) (ws (rankB B ops.size))) :
    ∀ (fuel : Nat) (listed : Array Bool) (a : Act) (w : World) (c : Nat), listed.toList.count false = fuel → DetI md ops a0 B vs ws listed a w c → wpAny P md ops Q fuel listed a w := by
  obtain ⟨hsel, hS⟩ := detB_spec hB
  have hend : ∀ {listed : Array Bool} {a : Act} {w : World} {c : Nat}, DetI md ops a0 B vs ws listed a w c → Region.ready md ops listed = [] → Q .normal a w := by
    intro listed a w c hi hnil
    have hall := all_of_ready_nil (fun j oj hj => (hS j oj hj).back) hi.lsize hnil
    have hc : c = rankB B ops.size := by
      rcases Nat.lt_or_ge c (rankB B ops.size) with hlt | hge
      · exfalso
        -- some turn of rank c or more is there
        have hex : ∃ i, i < ops.size ∧ (B i).2.2 = true ∧ rankB B i = c := by
          have : ∀ m, c < rankB B m → ∃ i, i < m ∧ (B i).2.2 = true ∧ rankB B i = c := by
            intro m
            induction m with
            | zero => intro h; simp [rankB] at h
            | succ m ih =>
              intro h
              by_cases hm : (B m).2.2 = true
              · rw [rankB_succ hm] at h
                by_cases he : rankB B m = c
                · exact ⟨m, by omega, hm, he⟩
                · obtain ⟨i, h1, h2, h3⟩ := ih (by omega)
                  exact ⟨i, by omega, h2, h3⟩
              · have : rankB B (m + 1) = rankB B m := by
                  unfold rankB
                  rw [List.range_succ, List.filter_append]
                  simp [hm]
                rw [this] at h
                obtain ⟨i, h1, h2, h3⟩ := ih h
                exact ⟨i, by omega, h2, h3⟩
          exact this ops.size hlt
        obtain ⟨i, h1, h2, h3⟩ := hex
        have := (hi.turns i _ (Array.getElem?_eq_getElem h1) h2).1 (hall i h1)
        omega
      · have := hi.top
        omega
    have hact : a = seqA ops vs a0 ops.size := by
      refine act_ext (by rw [hi.defers, seqA_defers]) (by rw [hi.size, seqA_size]) fun t ht => ?_
      by_cases hex : ∃ (i : Nat) (oi : Oper), ops[i]? = some oi ∧ oi.dst = some t
      · obtain ⟨i, oi, ho, hd⟩ := hex
        have his := (Array.getElem?_eq_some_iff.1 ho).1
        rw [hi.done i oi t ho (hall i his) hd, seqA_done vs ho hd (by rw [← hi.size]; exact ht) ops.size his (fun k ok h1 h2 h3 h4 => ((hS k ok h3).other i oi t (by omega) ho hd).1 h4)]
      · have hno : ∀ (i : Nat) (oi : Oper), ops[i]? = some oi → oi.dst ≠ some t := fun i oi h1 h2 => hex ⟨i, oi, h1, h2⟩
        rw [hi.rest t (fun i oi h1 _ => hno i oi h1), seqA_rest vs ops.size (fun k ok _ h2 => hno k ok h2)]
    rw [hact, hi.world, hc]
    exact hfin
  intro fuel
  induction fuel with
  | zero =>
    intro listed a w c hc hi
    have hnil := ready_nil_of_count (md := md) hi.lsize hc
    exact ⟨hnil, hend hi hnil⟩
  | succ fuel ih =>
    intro listed a w c hc hi
    refine ⟨fun hnil => hend hi hnil, fun j hj => ?_⟩
    obtain ⟨hjun, oj, hoj, hall⟩ := mem_ready.1 hj
    have hjs : j < ops.size := (Array.getElem?_eq_some_iff.1 hoj).1
    have hjl : j < listed.size := by rw [hi.lsize]; exact hjs
    have hS' := hS j oj hoj
    -- what it looks at is as in the text's order
    have hlook : ∀ t ∈ oj.looksAt ops, a.tmps.getD t undef = (seqA ops vs a0 j).tmps.getD t undef := by
      intro t ht
      by_cases hex : ∃ (i : Nat) (oi : Oper), ops[i]? = some oi ∧ oi.dst = some t ∧ i ≠ j
      · obtain ⟨i, oi, ho, hd, hij⟩ := hex
        have huniq : ∀ (k : Nat) (ok : Oper), k ≠ i → ops[k]? = some ok → ok.dst ≠ some t := fun k ok h1 h2 h3 => ((hS k ok h2).other i oi t (fun e => h1 e.symm) ho hd).1 h3
        rcases (hS'.other i oi t hij ho hd).2 ht with ⟨hlt, e, he, hb, hon⟩ | ⟨hlt, e, he, hb, hon⟩
        · have hl : listed.getD i false = true := hon ▸ hall e he hb
          have htn : t < a0.tmps.size := by rw [hn]; exact ((hS i oi ho).dst t hd).1
          rw [hi.done i oi t ho hl hd, seqA_done vs ho hd htn j hlt (fun k ok h1 h2 h3 => huniq k ok (by omega) h3)]
        · rw [hi.rest t (fun k ok h1 h2 h3 => ?_), seqA_rest vs j (fun k ok h1 h2 => huniq k ok (by omega) h2)]
          by_cases hki : k = i
          · subst hki
            have : ok = oi := Option.some.inj (h1.symm.trans ho)
            subst this
            have hlj := hi.closed k ok h1 h2 e he hb
            rw [hon, getD_both hjun] at hlj
            cases hlj
          · exact huniq k ok hki h1 h3
      · have hno : ∀ (k : Nat) (ok : Oper), ops[k]? = some ok → ok.dst ≠ some t := by
          intro k ok h1 h2
          by_cases hkj : k = j
          · subst hkj
            have : ok = oj := Option.some.inj (h1.symm.trans hoj)
            subst this
            exact (hS'.dst t h2).2 ht
          · exact hex ⟨k, ok, h1, h2, hkj⟩
        rw [hi.rest t (fun i oi h1 _ => hno i oi h1), seqA_rest vs j (fun k ok _ h2 => hno k ok h2)]
    have hexec : execOp a.eval oj = execOp (seqA ops vs a0 j).eval oj := by
      refine execOp_congr oj (fun cs b => Region.noSelect_spec hsel j oj cs b hoj) fun x hx => ?_
      rw [eval_evR, eval_evR]
      cases x with
      | tmp t =>
        refine hlook t (List.mem_append_left _ (List.mem_filterMap.2 ⟨.tmp t, by simpa using hx, rfl⟩))
      | const v => rfl
      | global g => rfl
      | func f => rfl
    have hszall : ∀ {a' : Act}, a'.tmps.size = a0.tmps.size → ∀ (i : Nat) t, ((ops[i]?).bind (·.dst)) = some t → t < a'.tmps.size := by
      intro a' hsz i t ht
      cases hoi : ops[i]? with
      | none => simp [hoi] at ht
      | some oi =>
        rw [hoi, Option.bind_some] at ht
        rw [hsz, hn]
        exact ((hS i oi hoi).dst t ht).1
    have hwant : Region.wanted oj (yielded ops a.tmps) = Region.wanted oj (yielded ops (seqA ops vs a0 j).tmps) := by
      unfold Region.wanted
      cases hg : oj.guard with
      | none => rfl
      | some gb =>
        obtain ⟨g, b⟩ := gb
        have : yielded ops a.tmps g = yielded ops (seqA ops vs a0 j).tmps g := by
          rw [yielded_evR a g (hszall hi.size g), yielded_evR (seqA ops vs a0 j) g (hszall (seqA_size vs j) g)]
          cases hd : (ops[g]?).bind (·.dst) with
          | none => rfl
          | some t =>
            simp only []
            rw [hlook t (List.mem_append_right _ (by rw [hg]; simp [hd]))]
        simp only [this]
    have hcnt : (listed.setIfInBounds j true).toList.count false = fuel := by
      have := count_set hjl hjun
      omega
    have hob := hO j oj hoj
    unfold DetO at hob
    rw [← hwant, ← hexec] at hob
    -- behind it
    have hnext : ∀ (c' : Nat) (hc' : c' ≤ rankB B ops.size) (ht : ∀ i oi, ops[i]? = some oi → (B i).2.2 = true → ((listed.setIfInBounds j true).getD i false = true ↔ rankB B i < c')),
        DetI md ops a0 B vs ws (listed.setIfInBounds j true) (a.put oj.dst (vs j)) (ws c') c' := by
      intro c' hc' ht
      refine ⟨rfl, ?_, ?_, by simp [hi.lsize], ?_, ht, hc', ?_, ?_⟩
      · rw [← hi.defers]; cases oj.dst <;> rfl
      · rw [← hi.size]; cases oj.dst <;> simp [Act.put]
      · intro i oi hoi hli e hee hb
        by_cases hij : j = i
        · subst hij
          have : oi = oj := Option.some.inj (hoi.symm.trans hoj)
          subst this
          exact getD_set_true (hall e hee hb)
        · rw [getD_set_ne false hij] at hli
          exact getD_set_true (hi.closed i oi hoi hli e hee hb)
      · intro i oi t hoi hli hdi
        by_cases hij : j = i
        · subst hij
          have : oi = oj := Option.some.inj (hoi.symm.trans hoj)
          subst this
          rw [hdi]
          have : t < a.tmps.size := by rw [hi.size, hn]; exact (hS'.dst t hdi).1
          simp [Act.put, this]
        · rw [getD_set_ne false hij] at hli
          rw [← hi.done i oi t hoi hli hdi]
          cases hdj : oj.dst with
          | none => rfl
          | some d =>
            have hne : d ≠ t := fun e => (hS'.other i oi t (fun h => hij h.symm) hoi hdi).1 (by rw [hdj, e])
            simp [Act.put, Array.getElem?_setIfInBounds_ne hne]
      · intro t hno
        have h1 : (a.put oj.dst (vs j)).tmps.getD t undef = a.tmps.getD t undef := by
          cases hdj : oj.dst with
          | none => rfl
          | some d =>
            have hne : d ≠ t := fun e => hno j oj hoj (by simp [hjl]) (by rw [hdj, e])
            simp [Act.put, Array.getElem?_setIfInBounds_ne hne]
        rw [h1]
        refine hi.rest t fun i oi hoi hli hdi => ?_
        by_cases hij : j = i
        · subst hij; rw [getD_both hjun] at hli; cases hli
        · exact hno i oi hoi (by rw [getD_set_ne false hij]; exact hli) hdi
    -- an operation that is no turn leaves the turns as they were
    have hsame : (B j).2.2 = false → ∀ i oi, ops[i]? = some oi → (B i).2.2 = true → ((listed.setIfInBounds j true).getD i false = true ↔ rankB B i < c) := by
      intro hf i oi hoi hti
      have hij : j ≠ i := fun e => by rw [e, hti] at hf; cases hf
      rw [getD_set_ne false hij]
      exact hi.turns i oi hoi hti
    unfold wpOp
    simp only [hoj]
    split
    · rename_i hw
      rw [if_pos hw] at hob
      refine .inl ?_
      cases htb : (B j).2.2 with
      | true =>
        rw [if_pos htb] at hob
        obtain ⟨h1, h2⟩ := hS'.turn htb
        have hnot : ¬ rankB B j < c := fun hlt => by
          have := (hi.turns j oj hoj htb).2 hlt
          rw [getD_both hjun] at this
          cases this
        have hcj : c = rankB B j := by
          rcases Nat.lt_or_ge (rankB B j) c with h | h
          · exact absurd h hnot
          · rcases Nat.lt_or_ge c (rankB B j) with h' | h'
            · exfalso
              rcases h2 with h3 | ⟨m, h3, h4, h5, e, he, hb, hon⟩
              · omega
              · have hl := hall e he hb
                rw [hon] at hl
                have := (hi.turns m _ (Array.getElem?_eq_getElem (show m < ops.size by omega)) h4).1 hl
                omega
            · omega
        have hnx := hnext (c + 1) (by have := rankB_lt hjs htb; omega) (fun i oi hoi hti => by
          by_cases hij : j = i
          · subst hij
            constructor
            · intro _; omega
            · intro _; simp [hjl]
          · rw [getD_set_ne false hij, hi.turns i oi hoi hti]
            constructor
            · intro h; omega
            · intro h
              rcases Nat.lt_trichotomy i j with h3 | h3 | h3
              · have := rankB_lt h3 hti; omega
              · exact absurd h3.symm hij
              · have := rankB_lt h3 htb; omega)
        rw [h1, ← hcj] at hob
        unfold Oper.wp
        rw [hi.world]
        rcases hob with hr | ⟨hr, hv⟩
        · rw [hr, Oper.upon_value]
          exact ih _ _ _ _ hcnt hnx
        · rw [hr, Oper.upon_skip, ← hv]
          exact ih _ _ _ _ hcnt hnx
      | false =>
        rw [if_neg (by simp [htb])] at hob
        have hlo : (B j).1 ≤ c := by
          rcases hS'.lo htb with h | ⟨i, h1, h2, h3, e, he, hb, hon⟩
          · omega
          · have hl := hall e he hb
            rw [hon] at hl
            have := (hi.turns i _ (Array.getElem?_eq_getElem (show i < ops.size by omega)) h2).1 hl
            omega
        have hhi : c ≤ (B j).2.1 := by
          rcases hS'.hi htb with h | ⟨i, oi, h1, h2, h3, e, he, hb, hon⟩
          · exact Nat.le_trans hi.top h
          · rcases Nat.lt_or_ge (rankB B i) c with h | h
            · exfalso
              have hl := (hi.turns i oi h1 h2).2 h
              have := hi.closed i oi h1 hl e he hb
              rw [hon, getD_both hjun] at this
              cases this
            · omega
        unfold Oper.wp
        rw [hi.world, hob c hlo hhi, Oper.upon_value]
        exact ih _ _ _ _ hcnt (hnext c hi.top (hsame htb))
    · rename_i hw
      rw [if_neg hw] at hob
      have hnx := hnext c hi.top (hsame hob.2)
      rw [hob.1] at hnx
      rw [hi.world]
      exact ih _ _ _ _ hcnt hnx

/-! ### In the text's order -/
def DetL (P : Program) (ops : Array Oper) (ws : Nat → World) (F : Act → Prop) : List Oper → List (Nat × Nat × Bool) → Act → Prop
  | o :: r, b :: bs, a => ∃ v, DetO P ops ws b a o v ∧ DetL P ops ws F r bs (a.put o.dst v)
  | [], _, a => F a
  | _ :: _, [], _ => False
theorem detL_gives {ws : Nat → World} {F : Act → Prop} {l : List Oper} {bs : List (Nat × Nat × Bool)} : ∀ (r : List Oper) (rb : List (Nat × Nat × Bool)) (k : Nat) (vs0 : Nat → Value), (∀ j, r[j]? = l[k + j]?) → (∀ j, rb[j]? = bs[k + j]?) → k + r.length = l.length →
    DetL P ops ws F r rb (seqA l.toArray vs0 a0 k) → ∃ vs : Nat → Value, (∀ i, i < k → vs i = vs0 i) ∧ (∀ j o, k ≤ j → l[j]? = some o → DetO P ops ws (bs.getD j (0, 0, false)) (seqA l.toArray vs a0 j) o (vs j)) ∧ F (seqA l.toArray vs a0 l.length)
  | [], rb, k, vs0, hr, hrb, hk, h => by
    have hk' : k = l.length := by simpa using hk
    subst hk'
    exact ⟨vs0, fun _ _ => rfl, fun j o h1 h2 => (by rw [List.getElem?_eq_none h1] at h2; cases h2), h⟩
  | o :: r, [], k, vs0, hr, hrb, hk, h => by cases h
  | o :: r, b :: rb, k, vs0, hr, hrb, hk, h => by
    obtain ⟨v, hv, ht⟩ := h
    have hok : l[k]? = some o := by simpa using (hr 0).symm
    have hbk : bs[k]? = some b := by simpa using (hrb 0).symm
    let vs1 : Nat → Value := fun i => if i = k then v else vs0 i
    have hseq : ∀ (vsA vsB : Nat → Value) m, (∀ i, i < m → vsA i = vsB i) → seqA l.toArray vsA a0 m = seqA l.toArray vsB a0 m := by
      intro vsA vsB m
      induction m with
      | zero => intro _; rfl
      | succ m ih => intro h; rw [seqA, seqA, ih (fun i hi => h i (by omega)), h m (by omega)]
    have e1 : seqA l.toArray vs1 a0 (k + 1) = (seqA l.toArray vs0 a0 k).put o.dst v := by
      rw [seqA, hseq vs1 vs0 k (fun i hi => by simp only [vs1]; rw [if_neg (by omega)])]
      have : l.toArray[k]? = some o := by simpa using hok
      rw [this]
      simp [vs1]
    obtain ⟨vs, h1, h2, h3⟩ := detL_gives r rb (k + 1) vs1 (fun j => by have := hr (j + 1); simpa [Nat.add_assoc, Nat.add_comm 1 j] using this) (fun j => by have := hrb (j + 1); simpa [Nat.add_assoc, Nat.add_comm 1 j] using this) (by simp at hk; omega) (by rw [e1]; exact ht)
    have hvk : vs k = v := (h1 k (by omega)).trans (by simp [vs1])
    have hlow : ∀ i, i < k → vs i = vs0 i := fun i hi => (h1 i (by omega)).trans (by simp only [vs1]; rw [if_neg (by omega)])
    refine ⟨vs, hlow, fun j o' hj ho' => ?_, h3⟩
    by_cases hjk : j = k
    · subst hjk
      have : o' = o := Option.some.inj (ho'.symm.trans hok)
      subst this
      rw [hvk, hseq vs vs0 j hlow, List.getD_eq_getElem?_getD, hbk]
      exact hv
    · exact h2 j o' (by omega) ho'
end

theorem getD_rep (m j : Nat) : (Array.replicate m false).getD j false = false := by
  rcases Nat.lt_or_ge j m with h | h <;> simp [h]
theorem wp_region_det {P : Program} {id : Nat} {Q : Exit → Act → World → Prop} {a : Act} {w : World} {l : List Oper} (bs : List (Nat × Nat × Bool)) (ws : World → Nat → World) (hm : P.follows .mixedOrders = true)
    (hB : detB .any l.toArray a.tmps.size (fun j => bs.getD j (0, 0, false)) = true) (h0 : ∀ w0, ws w0 0 = w0)
    (h : ∀ w0, Ext w w0 → w0.heap.size = w.heap.size → DetL P l.toArray (ws w0) (fun a' => Q .normal a' (ws w0 (rankB (fun j => bs.getD j (0, 0, false)) l.length))) l bs a) : (Code.region id l.toArray true).wp P Q a w := by
  refine wp_region_any hm ?_
  have hx : Ext w { w with drawn := w.drawn + 1 } := (Below.refl _ _).drew
  obtain ⟨vs, _, h2, h3⟩ := detL_gives (l := l) (bs := bs) (a0 := a) l bs 0 (fun _ => undef) (fun j => by simp) (fun j => by simp) (by simp) (h _ hx rfl)
  have hsz : l.toArray.size = l.length := by simp
  refine wpAny_det (a0 := a) (vs := vs) (ws := ws { w with drawn := w.drawn + 1 }) rfl hB (fun j oj hj => h2 j oj (Nat.zero_le _) (by simpa using hj)) (by rw [hsz]; exact h3) _ _ _ _ 0 (by simp) ⟨(h0 _).symm, rfl, rfl, by simp, fun j oj hj hl => ?_, fun i oi hoi hti => ?_, Nat.zero_le _, fun i oi t hoi hl => ?_, fun t _ => rfl⟩
  · have h0 : (Array.replicate l.toArray.size false).getD j false = false := getD_rep _ _
    rw [h0] at hl; cases hl
  · rw [getD_rep]; simp
  · rw [getD_rep] at hl; cases hl

/-! ### With the slots' values told one by one -/
abbrev EnvV := List (Tmp × Value)
def FactV (a0 : Act) (ρ : Nat → Value) (t : Tmp) : EnvV → Prop
  | [] => ρ t = a0.tmps.getD t undef
  | (s, v) :: env => if s = t then ρ t = v else FactV a0 ρ t env
def KnownV (env : EnvV) (a0 : Act) (ρ : Nat → Value) : List Tmp → Prop
  | [] => True
  | t :: ts => FactV a0 ρ t env ∧ KnownV env a0 ρ ts
def applyV (a0 : Act) : EnvV → Act
  | [] => a0
  | (t, v) :: env => (applyV a0 env).put (some t) v
def DetR (P : Program) (ops : Array Oper) (ws : Nat → World) (b : Nat × Nat × Bool) (ρ : Nat → Value) (o : Oper) (v : Value) : Prop :=
  if wantedR ops o ρ = true then
    (if b.2.2 = true then ((execOp (evR ρ) o).run P (ws b.1) = .ok (.value v) (ws (b.1 + 1)) ∨ (execOp (evR ρ) o).run P (ws b.1) = .ok .skip (ws (b.1 + 1)) ∧ v = undef)
     else ∀ c, b.1 ≤ c → c ≤ b.2.1 → (execOp (evR ρ) o).run P (ws c) = .ok (.value v) (ws c))
  else v = undef ∧ b.2.2 = false
def DetT (P : Program) (ops : Array Oper) (ws : Nat → World) (a0 : Act) (F : Act → Prop) : List Oper → List (Nat × Nat × Bool) → EnvV → Prop
  | o :: r, b :: bs, env => ∃ v, (∀ ρ, KnownV env a0 ρ (o.looksAt ops) → DetR P ops ws b ρ o v) ∧ DetT P ops ws a0 F r bs (match o.dst with | some t => (t, v) :: env | none => env)
  | [], _, env => F (applyV a0 env)
  | _ :: _, [], _ => False
section
variable {P : Program} {ops : Array Oper} {ws : Nat → World} {a0 : Act} {F : Act → Prop}
theorem applyV_size : ∀ env : EnvV, (applyV a0 env).tmps.size = a0.tmps.size
  | [] => rfl
  | (t, v) :: env => by simp [applyV, Act.put, applyV_size env]
theorem factV_congr {ρ ρ' : Nat → Value} {t : Tmp} (hρ : ρ t = ρ' t) : ∀ env : EnvV, FactV a0 ρ t env → FactV a0 ρ' t env
  | [], h => by
    unfold FactV at *
    rw [← hρ]
    exact h
  | (s, v) :: env, h => by
    unfold FactV at *
    split
    · rename_i h1
      rw [if_pos h1] at h
      rw [← hρ]
      exact h
    · rename_i h1
      rw [if_neg h1] at h
      exact factV_congr hρ env h
theorem factV_apply : ∀ (env : EnvV), (∀ x ∈ env, x.1 < a0.tmps.size) → ∀ t, FactV a0 (fun t => (applyV a0 env).tmps.getD t undef) t env
  | [], _, t => rfl
  | (s, v) :: env, h, t => by
    unfold FactV
    have hs : s < (applyV a0 env).tmps.size := by rw [applyV_size]; exact h (s, v) List.mem_cons_self
    by_cases hst : s = t
    · rw [if_pos hst]
      subst hst
      simp [applyV, Act.put, hs]
    · rw [if_neg hst]
      have ih := factV_apply env (fun x hx => h x (List.mem_cons_of_mem _ hx)) t
      exact factV_congr (by simp [applyV, Act.put, Array.getElem?_setIfInBounds_ne hst]) _ ih
theorem knownV_of {env : EnvV} {ρ : Nat → Value} : ∀ {ts : List Tmp}, (∀ t, FactV a0 ρ t env) → KnownV env a0 ρ ts
  | [], _ => trivial
  | t :: ts, h => ⟨h t, knownV_of h⟩
theorem detT_L (hsel : Region.noSelect ops = true) (hdst : ∀ (j : Nat) (o : Oper) t, ops[j]? = some o → o.dst = some t → t < a0.tmps.size) : ∀ (r : List Oper) (rb : List (Nat × Nat × Bool)) (env : EnvV), (∀ o ∈ r, o ∈ ops) → (∀ x ∈ env, x.1 < a0.tmps.size) →
    DetT P ops ws a0 F r rb env → DetL P ops ws F r rb (applyV a0 env)
  | [], rb, env, _, _, h => h
  | _ :: _, [], _, _, _, h => by cases h
  | o :: r, b :: rb, env, hr, he, h => by
    obtain ⟨v, hv, ht⟩ := h
    have hk : KnownV env a0 (fun t => (applyV a0 env).tmps.getD t undef) (o.looksAt ops) := knownV_of (factV_apply env he)
    have hd := hv _ hk
    obtain ⟨j, hj⟩ := Array.mem_iff_getElem?.1 (hr o List.mem_cons_self)
    have hexec : execOp (evR fun t => (applyV a0 env).tmps.getD t undef) o = execOp (applyV a0 env).eval o :=
      execOp_congr o (fun cs b => Region.noSelect_spec hsel j o cs b hj) fun x _ => (eval_evR _ x).symm
    have hw : Region.wanted o (yielded ops (applyV a0 env).tmps) = wantedR ops o (fun t => (applyV a0 env).tmps.getD t undef) := wanted_evR _ o (fun i t hit => by
      rw [applyV_size]
      cases hoi : ops[i]? with
      | none => simp [hoi] at hit
      | some oi => exact hdst i oi t hoi (by simpa [hoi] using hit))
    refine ⟨v, ?_, ?_⟩
    · unfold DetR at hd
      unfold DetO
      rw [hw, ← hexec]
      exact hd
    · have hr' : ∀ x ∈ r, x ∈ ops := fun x hx => hr x (List.mem_cons_of_mem _ hx)
      cases hdo : o.dst with
      | none =>
        rw [hdo] at ht
        exact detT_L hsel hdst r rb env hr' he ht
      | some t =>
        rw [hdo] at ht
        refine detT_L hsel hdst r rb ((t, v) :: env) hr' (fun x hx => ?_) ht
        rcases List.mem_cons.1 hx with rfl | hx
        · exact hdst j o t hj hdo
        · exact he x hx
/-- An operation that leaves any world as it is. -/
theorem detT_pure {o : Oper} {r : List Oper} {b : Nat × Nat × Bool} {bs : List (Nat × Nat × Bool)} {env : EnvV} (hb : b.2.2 = false) (v : Value) (hw : ∀ ρ, KnownV env a0 ρ (o.looksAt ops) → wantedR ops o ρ = true)
    (h : ∀ ρ, KnownV env a0 ρ (o.looksAt ops) → ∀ w, (execOp (evR ρ) o).run P w = .ok (.value v) w) (hr : DetT P ops ws a0 F r bs (match o.dst with | some t => (t, v) :: env | none => env)) : DetT P ops ws a0 F (o :: r) (b :: bs) env :=
  ⟨v, fun ρ hk => by unfold DetR; rw [if_pos (hw ρ hk), if_neg (by simp [hb])]; exact fun c _ _ => h ρ hk _, hr⟩
theorem detT_read {o : Oper} {r : List Oper} {b : Nat × Nat × Bool} {bs : List (Nat × Nat × Bool)} {env : EnvV} (hb : b.2.2 = false) (v : Value) (hw : ∀ ρ, KnownV env a0 ρ (o.looksAt ops) → wantedR ops o ρ = true)
    (h : ∀ ρ, KnownV env a0 ρ (o.looksAt ops) → ∀ c, b.1 ≤ c → c ≤ b.2.1 → (execOp (evR ρ) o).run P (ws c) = .ok (.value v) (ws c)) (hr : DetT P ops ws a0 F r bs (match o.dst with | some t => (t, v) :: env | none => env)) : DetT P ops ws a0 F (o :: r) (b :: bs) env :=
  ⟨v, fun ρ hk => by unfold DetR; rw [if_pos (hw ρ hk), if_neg (by simp [hb])]; exact h ρ hk, hr⟩
theorem detT_store {o : Oper} {r : List Oper} {b : Nat × Nat × Bool} {bs : List (Nat × Nat × Bool)} {env : EnvV} (hb : b.2.2 = true) (hw : ∀ ρ, KnownV env a0 ρ (o.looksAt ops) → wantedR ops o ρ = true)
    (h : ∀ ρ, KnownV env a0 ρ (o.looksAt ops) → (execOp (evR ρ) o).run P (ws b.1) = .ok .skip (ws (b.1 + 1))) (hr : DetT P ops ws a0 F r bs (match o.dst with | some t => (t, undef) :: env | none => env)) : DetT P ops ws a0 F (o :: r) (b :: bs) env :=
  ⟨undef, fun ρ hk => by unfold DetR; rw [if_pos (hw ρ hk), if_pos hb]; exact .inr ⟨h ρ hk, rfl⟩, hr⟩
theorem detT_turn {o : Oper} {r : List Oper} {b : Nat × Nat × Bool} {bs : List (Nat × Nat × Bool)} {env : EnvV} (hb : b.2.2 = true) (v : Value) (hw : ∀ ρ, KnownV env a0 ρ (o.looksAt ops) → wantedR ops o ρ = true)
    (h : ∀ ρ, KnownV env a0 ρ (o.looksAt ops) → (execOp (evR ρ) o).run P (ws b.1) = .ok (.value v) (ws (b.1 + 1))) (hr : DetT P ops ws a0 F r bs (match o.dst with | some t => (t, v) :: env | none => env)) : DetT P ops ws a0 F (o :: r) (b :: bs) env :=
  ⟨v, fun ρ hk => by unfold DetR; rw [if_pos (hw ρ hk), if_pos hb]; exact .inl (h ρ hk), hr⟩
theorem detT_pass {o : Oper} {r : List Oper} {b : Nat × Nat × Bool} {bs : List (Nat × Nat × Bool)} {env : EnvV} (hb : b.2.2 = false) (hw : ∀ ρ, KnownV env a0 ρ (o.looksAt ops) → wantedR ops o ρ = false)
    (hr : DetT P ops ws a0 F r bs (match o.dst with | some t => (t, undef) :: env | none => env)) : DetT P ops ws a0 F (o :: r) (b :: bs) env :=
  ⟨undef, fun ρ hk => by unfold DetR; rw [if_neg (by simp [hw ρ hk])]; exact ⟨rfl, hb⟩, hr⟩
end
/-- **A region that draws its order, makes no call, and turns the world k times.** -/
theorem wp_region_turns {P : Program} {id : Nat} {Q : Exit → Act → World → Prop} {a : Act} {w : World} {l : List Oper} (k : Nat) (bs : List (Nat × Nat × Bool)) (W : World → Nat → World) (hm : P.follows .mixedOrders = true)
    (hB : detB .any l.toArray a.tmps.size (fun j => bs.getD j (0, 0, false)) = true) (hk : rankB (fun j => bs.getD j (0, 0, false)) l.length = k) (h0 : ∀ w0, W w0 0 = w0)
    (h : ∀ (w0 : World) (ws : Nat → World), Ext w w0 → w0.heap.size = w.heap.size → (∀ c, ws c = W w0 c) → DetT P l.toArray ws a (fun a' => Q .normal a' (ws k)) l bs []) : (Code.region id l.toArray true).wp P Q a w := by
  obtain ⟨hsel, hS⟩ := detB_spec hB
  refine wp_region_det bs W hm hB h0 fun w0 hx hz => ?_
  rw [hk]
  exact detT_L hsel (fun j o t ho hd => ((hS j o ho).dst t hd).1) l bs [] (fun o ho => by simpa using ho) (fun x hx => by cases hx) (h w0 (W w0) hx hz (fun _ => rfl))
end Mono
end Go.Proofs.Ytocdifjdeifclaa

/-
  A law for regions that draw their order and hold calls that turn the world, one behind the other; each other operation only reads what no call turns. Over any program.
-/
namespace Go.Proofs.Ytocdifjdeifclaa
namespace Mono
open Go.RowKit
set_option linter.unusedVariables false

/-- What an operation does: v in world w'. -/
def tokUpon (P : Program) (G : Value → World → Prop) : Result Next → Prop
  | .ok (.value v) w' => G v w'
  | .ok .skip w' => G undef w'
  | .ok (.enter f args) w' => Calls P f args w' (fun e w'' => ∃ v, e = .returned v ∧ G v w'')
  | _ => False

theorem wp_of_tokUpon {P : Program} {o : Oper} {a : Act} {w : World} {G : Value → World → Prop} {K : Act → World → Prop} {Q : Exit → Act → World → Prop}
    (h : tokUpon P G ((execOp a.eval o).run P w)) (hK : ∀ v w', G v w' → K (a.put o.dst v) w') : o.wp P a w K Q := by
  unfold Oper.wp
  generalize (execOp a.eval o).run P w = r at *
  cases r with
  | ok n w' =>
    cases n <;> simp only [tokUpon] at h <;> simp only [Oper.upon]
    case value u => exact hK _ _ h
    case skip => exact hK _ _ h
    case enter f args => exact h.mono fun e w'' ⟨v, he, h1⟩ => by subst he; exact hK _ _ h1
  | halt x w' => simp only [tokUpon] at h

structure Pre (Le : World → World → Prop) : Prop where
  refl : ∀ w, Le w w
  trans : ∀ a b c, Le a b → Le b c → Le a c

section
variable {P : Program} {ops : Array Oper} {md : Region.Mode} {a0 : Act} {w0 : World} {B : Nat → Nat × Nat × Bool} {Le : World → World → Prop} {T : Nat → World → Prop}

/-- The state of affairs once the operations that are listed have been carried out. -/
structure TokI (md : Region.Mode) (ops : Array Oper) (a0 : Act) (w0 : World) (B : Nat → Nat × Nat × Bool) (Le : World → World → Prop) (T : Nat → World → Prop) (R : Nat → Rel) (listed : Array Bool) (a : Act) (w : World) (c : Nat) : Prop where
  le : Le w0 w
  tok : T c w
  defers : a.defers = a0.defers
  size : a.tmps.size = a0.tmps.size
  lsize : listed.size = ops.size
  closed : ∀ j oj, ops[j]? = some oj → listed.getD j false = true → ∀ e ∈ oj.after, Region.binds md e = true → listed.getD e.on false = true
  turns : ∀ i oi, ops[i]? = some oi → (B i).2.2 = true → (listed.getD i false = true ↔ rankB B i < c)
  top : c ≤ rankB B ops.size
  done : ∀ i oi t, ops[i]? = some oi → listed.getD i false = true → oi.dst = some t → R i (a.tmps.getD t undef) w
  rest : ∀ t, (∀ i oi, ops[i]? = some oi → listed.getD i false = true → oi.dst ≠ some t) → a.tmps.getD t undef = a0.tmps.getD t undef

/-- What must be shown of the operation number j. -/
def TokO (P : Program) (ops : Array Oper) (a0 : Act) (w0 : World) (B : Nat → Nat × Nat × Bool) (Le : World → World → Prop) (T : Nat → World → Prop) (R : Nat → Rel) (j : Nat) (oj : Oper) : Prop :=
  ∀ (ρ : Nat → Value) (w : World), Le w0 w →
    (∀ t ∈ oj.looksAt ops, (∀ i oi, i < j → ops[i]? = some oi → oi.dst = some t → R i (ρ t) w) ∧ ((∀ i oi, i < j → ops[i]? = some oi → oi.dst ≠ some t) → ρ t = a0.tmps.getD t undef)) →
    if wantedR ops oj ρ = true then
      (if (B j).2.2 = true then T (rankB B j) w → tokUpon P (fun v w' => Le w w' ∧ R j v w' ∧ T (rankB B j + 1) w') ((execOp (evR ρ) oj).run P w)
       else tokUpon P (fun v w' => w' = w ∧ R j v w) ((execOp (evR ρ) oj).run P w))
    else R j undef w ∧ (B j).2.2 = false

theorem wpAny_tok {n : Nat} {R : Nat → Rel} {Q : Exit → Act → World → Prop} (hLe : Pre Le) (hn : a0.tmps.size = n) (hB : detB md ops n B = true) (hR : ∀ i v w w', R i v w → Le w w' → R i v w')
    (hO : ∀ j oj, ops[j]? = some oj → TokO P ops a0 w0 B Le T R j oj)
    (hfin : ∀ listed a w, TokI md ops a0 w0 B Le T R listed a w (rankB B ops.size) → (∀ j, j < ops.size → listed.getD j false = true) → Q .normal a w) :
    ∀ (fuel : Nat) (listed : Array Bool) (a : Act) (w : World) (c : Nat), listed.toList.count false = fuel → TokI md ops a0 w0 B Le T R listed a w c → wpAny P md ops Q fuel listed a w := by
  obtain ⟨hsel, hS⟩ := detB_spec hB
  have hend : ∀ {listed : Array Bool} {a : Act} {w : World} {c : Nat}, TokI md ops a0 w0 B Le T R listed a w c → Region.ready md ops listed = [] → Q .normal a w := by
    intro listed a w c hi hnil
    have hall := all_of_ready_nil (fun j oj hj => (hS j oj hj).back) hi.lsize hnil
    have hc : c = rankB B ops.size := by
      rcases Nat.lt_or_ge c (rankB B ops.size) with hlt | hge
      · exfalso
        have hex : ∀ m, c < rankB B m → ∃ i, i < m ∧ (B i).2.2 = true ∧ rankB B i = c := by
          intro m
          induction m with
          | zero => intro h; simp [rankB] at h
          | succ m ih =>
            intro h
            by_cases hm : (B m).2.2 = true
            · rw [rankB_succ hm] at h
              by_cases he : rankB B m = c
              · exact ⟨m, by omega, hm, he⟩
              · obtain ⟨i, h1, h2, h3⟩ := ih (by omega)
                exact ⟨i, by omega, h2, h3⟩
            · have : rankB B (m + 1) = rankB B m := by
                unfold rankB
                rw [List.range_succ, List.filter_append]
                simp [hm]
              rw [this] at h
              obtain ⟨i, h1, h2, h3⟩ := ih h
              exact ⟨i, by omega, h2, h3⟩
        obtain ⟨i, h1, h2, h3⟩ := hex ops.size hlt
        have := (hi.turns i _ (Array.getElem?_eq_getElem h1) h2).1 (hall i h1)
        omega
      · have := hi.top
        omega
    subst hc
    exact hfin _ _ _ hi hall
  intro fuel
  induction fuel with
  | zero =>
    intro listed a w c hc hi
    have hnil := ready_nil_of_count (md := md) hi.lsize hc
    exact ⟨hnil, hend hi hnil⟩
  | succ fuel ih =>
    intro listed a w c hc hi
    refine ⟨fun hnil => hend hi hnil, fun j hj => ?_⟩
    obtain ⟨hjun, oj, hoj, hall⟩ := mem_ready.1 hj
    have hjs : j < ops.size := (Array.getElem?_eq_some_iff.1 hoj).1
    have hjl : j < listed.size := by rw [hi.lsize]; exact hjs
    have hS' := hS j oj hoj
    have hlook : ∀ t ∈ oj.looksAt ops, (∀ i oi, i < j → ops[i]? = some oi → oi.dst = some t → R i (a.tmps.getD t undef) w) ∧ ((∀ i oi, i < j → ops[i]? = some oi → oi.dst ≠ some t) → a.tmps.getD t undef = a0.tmps.getD t undef) := by
      intro t ht
      constructor
      · intro i oi hij ho hd
        rcases (hS'.other i oi t (by omega) ho hd).2 ht with ⟨_, e, he, hb, hon⟩ | ⟨hlt, _⟩
        · exact hi.done i oi t ho (hon ▸ hall e he hb) hd
        · omega
      · intro hno
        refine hi.rest t fun i oi ho hl hd => ?_
        by_cases hij : i = j
        · subst hij
          rw [getD_both hjun] at hl
          cases hl
        · rcases (hS'.other i oi t hij ho hd).2 ht with ⟨hlt, _⟩ | ⟨hlt, e, he, hb, hon⟩
          · exact hno i oi hlt ho hd
          · have := hi.closed i oi ho hl e he hb
            rw [hon, getD_both hjun] at this
            cases this
    have hszall : ∀ (i : Nat) t, ((ops[i]?).bind (·.dst)) = some t → t < a.tmps.size := by
      intro i t ht
      cases hoi : ops[i]? with
      | none => simp [hoi] at ht
      | some oi =>
        rw [hoi, Option.bind_some] at ht
        rw [hi.size, hn]
        exact ((hS i oi hoi).dst t ht).1
    have hob := hO j oj hoj (fun t => a.tmps.getD t undef) w hi.le hlook
    have hexec : execOp (evR fun t => a.tmps.getD t undef) oj = execOp a.eval oj :=
      execOp_congr oj (fun cs b => Region.noSelect_spec hsel j oj cs b hoj) fun x _ => (eval_evR a x).symm
    rw [hexec] at hob
    have hcnt : (listed.setIfInBounds j true).toList.count false = fuel := by
      have := count_set hjl hjun
      omega
    have hnext : ∀ (c' : Nat) (v : Value) (w' : World), Le w w' → R j v w' → T c' w' → c' ≤ rankB B ops.size → (∀ i oi, ops[i]? = some oi → (B i).2.2 = true → ((listed.setIfInBounds j true).getD i false = true ↔ rankB B i < c')) →
        TokI md ops a0 w0 B Le T R (listed.setIfInBounds j true) (a.put oj.dst v) w' c' := by
      intro c' v w' hle hv ht hc' htu
      refine ⟨hLe.trans _ _ _ hi.le hle, ht, ?_, ?_, by simp [hi.lsize], ?_, htu, hc', ?_, ?_⟩
      · rw [← hi.defers]; cases oj.dst <;> rfl
      · rw [← hi.size]; cases oj.dst <;> simp [Act.put]
      · intro i oi hoi hli e hee hb
        by_cases hij : j = i
        · subst hij
          have : oi = oj := Option.some.inj (hoi.symm.trans hoj)
          subst this
          exact getD_set_true (hall e hee hb)
        · rw [getD_set_ne false hij] at hli
          exact getD_set_true (hi.closed i oi hoi hli e hee hb)
      · intro i oi t hoi hli hdi
        by_cases hij : j = i
        · subst hij
          have : oi = oj := Option.some.inj (hoi.symm.trans hoj)
          subst this
          rw [hdi]
          have hts : t < a.tmps.size := by rw [hi.size, hn]; exact (hS'.dst t hdi).1
          have : (a.put (some t) v).tmps.getD t undef = v := by simp [Act.put, hts]
          rw [this]
          exact hv
        · rw [getD_set_ne false hij] at hli
          have h1 : (a.put oj.dst v).tmps.getD t undef = a.tmps.getD t undef := by
            cases hdj : oj.dst with
            | none => rfl
            | some d =>
              have hne : d ≠ t := fun e => (hS'.other i oi t (fun h => hij h.symm) hoi hdi).1 (by rw [hdj, e])
              simp [Act.put, Array.getElem?_setIfInBounds_ne hne]
          rw [h1]
          exact hR i _ w w' (hi.done i oi t hoi hli hdi) hle
      · intro t hno
        have h1 : (a.put oj.dst v).tmps.getD t undef = a.tmps.getD t undef := by
          cases hdj : oj.dst with
          | none => rfl
          | some d =>
            have hne : d ≠ t := fun e => hno j oj hoj (by simp [hjl]) (by rw [hdj, e])
            simp [Act.put, Array.getElem?_setIfInBounds_ne hne]
        rw [h1]
        refine hi.rest t fun i oi hoi hli hdi => ?_
        by_cases hij : j = i
        · subst hij; rw [getD_both hjun] at hli; cases hli
        · exact hno i oi hoi (by rw [getD_set_ne false hij]; exact hli) hdi
    have hsame : (B j).2.2 = false → ∀ i oi, ops[i]? = some oi → (B i).2.2 = true → ((listed.setIfInBounds j true).getD i false = true ↔ rankB B i < c) := by
      intro hf i oi hoi hti
      have hij : j ≠ i := fun e => by rw [e, hti] at hf; cases hf
      rw [getD_set_ne false hij]
      exact hi.turns i oi hoi hti
    unfold wpOp
    simp only [hoj]
    rw [wanted_evR a oj hszall]
    split
    · rename_i hw
      rw [if_pos hw] at hob
      refine .inl ?_
      cases htb : (B j).2.2 with
      | true =>
        rw [if_pos htb] at hob
        obtain ⟨h1, h2⟩ := hS'.turn htb
        have hnot : ¬ rankB B j < c := fun hlt => by
          have := (hi.turns j oj hoj htb).2 hlt
          rw [getD_both hjun] at this
          cases this
        have hcj : c = rankB B j := by
          rcases h2 with h3 | ⟨m, h3, h4, h5, e, he, hb, hon⟩
          · omega
          · have hl := hall e he hb
            rw [hon] at hl
            have := (hi.turns m _ (Array.getElem?_eq_getElem (show m < ops.size by omega)) h4).1 hl
            omega
        have hob' := hob (hcj ▸ hi.tok)
        refine wp_of_tokUpon hob' fun v w' ⟨hle, hv, ht⟩ => ?_
        rw [← hcj] at ht
        refine ih _ _ _ (c + 1) hcnt (hnext (c + 1) v w' hle hv ht (by have := rankB_lt hjs htb; omega) (fun i oi hoi hti => ?_))
        by_cases hij : j = i
        · subst hij
          constructor
          · intro _; omega
          · intro _; simp [hjl]
        · rw [getD_set_ne false hij, hi.turns i oi hoi hti]
          constructor
          · intro h; omega
          · intro h
            rcases Nat.lt_trichotomy i j with h3 | h3 | h3
            · have := rankB_lt h3 hti; omega
            · exact absurd h3.symm hij
            · have := rankB_lt h3 htb; omega
      | false =>
        rw [if_neg (by simp [htb])] at hob
        refine wp_of_tokUpon hob fun v w' ⟨hw', hv⟩ => ?_
        subst hw'
        exact ih _ _ _ c hcnt (hnext c v w' (hLe.refl _) hv hi.tok hi.top (hsame htb))
    · rename_i hw
      rw [if_neg hw] at hob
      exact ih _ _ _ c hcnt (hnext c undef w (hLe.refl _) hob.1 hi.tok hi.top (hsame hob.2))

/-! ### As a telescope -/
def OblT (P : Program) (ops : Array Oper) (a0 : Act) (w0 : World) (Le : World → World → Prop) (T : Nat → World → Prop) (c : Nat) (turn : Bool) (env : Env) (o : Oper) (R : Rel) : Prop :=
  ∀ (ρ : Nat → Value) (w : World), Le w0 w → Known env a0 ρ w (o.looksAt ops) →
    if wantedR ops o ρ = true then
      (if turn = true then T c w → tokUpon P (fun v w' => Le w w' ∧ R v w' ∧ T (c + 1) w') ((execOp (evR ρ) o).run P w)
       else tokUpon P (fun v w' => w' = w ∧ R v w) ((execOp (evR ρ) o).run P w))
    else R undef w ∧ turn = false
def TeleT (P : Program) (ops : Array Oper) (a0 : Act) (w0 : World) (Le : World → World → Prop) (T : Nat → World → Prop) (Fin : (Nat → Value) → World → Prop) : List Oper → List Bool → Nat → Env → Prop
  | o :: rest, b :: bs, c, env => ∃ R : Rel, (∀ v w w', R v w → Le w w' → R v w') ∧ OblT P ops a0 w0 Le T c b env o R ∧
      TeleT P ops a0 w0 Le T Fin rest bs (if b = true then c + 1 else c) ((match o.dst with | some t => (t, R) | none => (0, R)) :: env)
  | [], _, c, env => ∀ ρ w, Le w0 w → T c w → EnvFacts ρ w env → Fin ρ w
  | _ :: _, [], _, _ => False
def bsB (bs : List Bool) (j : Nat) : Nat × Nat × Bool := if bs.getD j false = true then (((List.range j).filter fun i => bs.getD i false).length, ((List.range j).filter fun i => bs.getD i false).length, true) else (0, bs.length, false)
theorem bsB_turn (bs : List Bool) (j : Nat) : (bsB bs j).2.2 = bs.getD j false := by
  unfold bsB
  split
  · rename_i h; rw [h]
  · rename_i h; simpa using h
theorem teleT_gives {l : List Oper} {bs : List Bool} {Fin : (Nat → Value) → World → Prop} (hdst : ∀ (i : Nat) (oi : Oper), l[i]? = some oi → ∃ s, oi.dst = some s) : ∀ (r : List Oper) (rb : List Bool) (k : Nat) (R0 : Nat → Rel), k + r.length = l.length → (∀ j, r[j]? = l[k + j]?) → (∀ j, rb[j]? = bs[k + j]?) →
    TeleT P ops a0 w0 Le T Fin r rb (rankB (bsB bs) k) (envOf l R0 k) → ∃ R : Nat → Rel, (∀ i, i < k → R i = R0 i) ∧ (∀ i, k ≤ i → i < l.length → (∀ v w w', R i v w → Le w w' → R i v w')) ∧
      (∀ (i : Nat) (o : Oper), k ≤ i → l[i]? = some o → OblT P ops a0 w0 Le T (rankB (bsB bs) i) (bs.getD i false) (envOf l R i) o (R i)) ∧ ∀ ρ w, Le w0 w → T (rankB (bsB bs) l.length) w → EnvFacts ρ w (envOf l R l.length) → Fin ρ w
  | [], rb, k, R0, hk, _, _, h => by
    have hk' : k = l.length := by simpa using hk
    subst hk'
    exact ⟨R0, fun _ _ => rfl, fun i h1 h2 => absurd h2 (by omega), fun i o h1 h2 => (by rw [List.getElem?_eq_none h1] at h2; cases h2), h⟩
  | o :: r, [], k, R0, hk, hr, hrb, h => by cases h
  | o :: r, b :: rb, k, R0, hk, hr, hrb, h => by
    obtain ⟨Rk, hm, hob, ht⟩ := h
    have hok : l[k]? = some o := by simpa using (hr 0).symm
    have hbk : bs[k]? = some b := by simpa using (hrb 0).symm
    have hbk' : bs.getD k false = b := by rw [List.getD_eq_getElem?_getD, hbk]; rfl
    obtain ⟨s, hs⟩ := hdst k o hok
    let R1 : Nat → Rel := fun i => if i = k then Rk else R0 i
    have he : envOf l R1 k = envOf l R0 k := envOf_congr k fun i hi => by simp only [R1]; rw [if_neg (by omega)]
    have he1 : envOf l R1 (k + 1) = (match o.dst with | some t => (t, Rk) | none => (0, Rk)) :: envOf l R0 k := by
      simp only [envOf, hok, Option.bind_some, hs, he]
      simp [R1]
    have hrank : rankB (bsB bs) (k + 1) = if b = true then rankB (bsB bs) k + 1 else rankB (bsB bs) k := by
      by_cases hb : b = true
      · rw [if_pos hb]
        exact rankB_succ (by rw [bsB_turn, hbk', hb])
      · rw [if_neg hb]
        unfold rankB
        rw [List.range_succ, List.filter_append]
        have : (bsB bs k).2.2 = false := by rw [bsB_turn, hbk']; simpa using hb
        simp [this]
    obtain ⟨R, h1, h2, h3, h4⟩ := teleT_gives hdst r rb (k + 1) R1 (by simp at hk; omega) (fun j => by have := hr (j + 1); simpa [Nat.add_assoc, Nat.add_comm 1 j] using this) (fun j => by have := hrb (j + 1); simpa [Nat.add_assoc, Nat.add_comm 1 j] using this) (by rw [he1, hrank]; exact ht)
    have hRk : R k = Rk := (h1 k (by omega)).trans (by simp [R1])
    refine ⟨R, fun i hi => (h1 i (by omega)).trans (by simp only [R1]; rw [if_neg (by omega)]), fun i hi hil => ?_, fun i o' hi ho' => ?_, h4⟩
    · by_cases hik : i = k
      · subst hik; rw [hRk]; exact hm
      · exact h2 i (by omega) hil
    · by_cases hik : i = k
      · subst hik
        have : o' = o := Option.some.inj (ho'.symm.trans hok)
        subst this
        have hee : envOf l R i = envOf l R0 i := envOf_congr i fun m hmi => (h1 m (by omega)).trans (by simp only [R1]; rw [if_neg (by omega)])
        rw [hRk, hee, hbk']
        exact hob
      · exact h3 i o' (by omega) ho'
end

/-- **A region that draws its order, with calls that turn the world.** -/
theorem wp_region_tok {P : Program} {id : Nat} {Q : Exit → Act → World → Prop} {a : Act} {w : World} {l : List Oper} (bs : List Bool) (Le : World → World → Prop) (T : Nat → World → Prop) (k : Nat) (hm : P.follows .mixedOrders = true)
    (hdst : l.all (fun o => o.dst.isSome) = true) (hB : detB .any l.toArray a.tmps.size (bsB bs) = true) (hk : rankB (bsB bs) l.length = k) (hLe : Pre Le) (h0 : Le w w.drew) (hT : T 0 w.drew)
    (h : TeleT P l.toArray a w Le T (fun ρ w' => T k w' → Q .normal (puts ρ a l) w') l bs 0 []) : (Code.region id l.toArray true).wp P Q a w := by
  obtain ⟨hsel, hS⟩ := detB_spec hB
  have hdst' : ∀ (i : Nat) (oi : Oper), l[i]? = some oi → ∃ s, oi.dst = some s := fun i oi hoi => by
    have := List.all_eq_true.1 hdst oi (List.mem_of_getElem? hoi)
    exact Option.isSome_iff_exists.1 this
  obtain ⟨R, _, h2, h3, h4⟩ := teleT_gives (bs := bs) hdst' l bs 0 (fun _ _ _ => True) (by simp) (fun j => by simp) (fun j => by simp) h
  let R' : Nat → Rel := fun i => if i < l.length then R i else fun _ _ => False
  have hRR : ∀ i, i < l.length → R' i = R i := fun i hi => by simp only [R']; rw [if_pos hi]
  have hR' : ∀ i v w w', R' i v w → Le w w' → R' i v w' := by
    intro i v w w' hv hle
    by_cases hi : i < l.length
    · rw [hRR i hi] at hv ⊢
      exact h2 i (Nat.zero_le _) hi v w w' hv hle
    · simp only [R'] at hv
      rw [if_neg hi] at hv
      exact hv.elim
  refine wp_region_any hm ?_
  refine wpAny_tok (a0 := a) (w0 := w) (B := bsB bs) (T := T) (R := R') hLe rfl hB hR' (fun j oj hoj => ?_) (fun listed a' w' hi hall => ?_) _ _ _ _ 0 (by simp) ⟨h0, hT, rfl, rfl, by simp, fun j oj hj hl => ?_, fun i oi hoi hti => ?_, Nat.zero_le _, fun i oi t hoi hl => ?_, fun t _ => rfl⟩
  · intro ρ w' hle hlook
    have hoj' : l[j]? = some oj := by simpa using hoj
    have hjl := (List.getElem?_eq_some_iff.1 hoj').1
    have hk := h3 j oj (Nat.zero_le _) hoj' ρ w' hle (known_of fun t ht => fact_of hdst' j (Nat.le_of_lt hjl) (fun i oi hij hoi hdi => by
      have := (hlook t ht).1 i oi hij (by simpa using hoi) hdi
      rw [hRR i (by omega)] at this
      exact this) (fun hno => (hlook t ht).2 fun i oi hij hoi => hno i oi hij (by simpa using hoi)))
    rw [hRR j hjl, bsB_turn]
    exact hk
  · have hsz : l.toArray.size = l.length := by simp
    rw [hsz] at hi
    have hq := h4 (fun t => a'.tmps.getD t undef) w' hi.le hi.tok (envFacts_of hdst' (fun i oi t hoi hdi => by
      have := hi.done i oi t (by simpa using hoi) (hall i (by simpa using (List.getElem?_eq_some_iff.1 hoi).1)) hdi
      rw [hRR i (List.getElem?_eq_some_iff.1 hoi).1] at this
      exact this) l.length (Nat.le_refl _))
    have hq' := hq (hk ▸ hi.tok)
    have hact : a' = puts (fun t => a'.tmps.getD t undef) a l := by
      obtain ⟨p1, p2, p3⟩ := puts_slots (fun t => a'.tmps.getD t undef) l a
      refine act_ext (by rw [hi.defers, p1]) (by rw [hi.size, p2]) fun t ht => ?_
      rw [p3 t (by rw [← hi.size]; exact ht)]
      by_cases hex : ∃ o ∈ l, o.dst = some t
      · rw [if_pos hex]
      · rw [if_neg hex]
        refine hi.rest t fun i oi hoi _ hdi => hex ⟨oi, ?_, hdi⟩
        exact List.mem_of_getElem? (by simpa using hoi)
    rw [hact]
    exact hq'
  · rw [getD_rep] at hl; cases hl
  · rw [getD_rep]; simp
  · rw [getD_rep] at hl; cases hl

section
variable {P : Program} {ops : Array Oper} {a0 : Act} {w0 : World} {Le : World → World → Prop} {T : Nat → World → Prop} {Fin : (Nat → Value) → World → Prop} {o : Oper} {rest : List Oper} {bs : List Bool} {c : Nat} {env : Env} {t : Tmp}
theorem tok_any (hd : o.dst = some t) (b : Bool) (R : Rel) (hm : ∀ v w w', R v w → Le w w' → R v w') (ho : OblT P ops a0 w0 Le T c b env o R) (hr : TeleT P ops a0 w0 Le T Fin rest bs (if b = true then c + 1 else c) ((t, R) :: env)) : TeleT P ops a0 w0 Le T Fin (o :: rest) (b :: bs) c env :=
  ⟨R, hm, ho, by rw [hd]; exact hr⟩
/-- The value is known, whatever the world. -/
theorem tok_val (hd : o.dst = some t) (x : Value) (hw : ∀ ρ w, Known env a0 ρ w (o.looksAt ops) → wantedR ops o ρ = true)
    (ho : ∀ ρ w, Le w0 w → Known env a0 ρ w (o.looksAt ops) → (execOp (evR ρ) o).run P w = .ok (.value x) w)
    (hr : TeleT P ops a0 w0 Le T Fin rest bs c ((t, fun v _ => v = x) :: env)) : TeleT P ops a0 w0 Le T Fin (o :: rest) (false :: bs) c env := by
  refine tok_any hd false _ (fun _ _ _ h _ => h) (fun ρ w he hk => ?_) hr
  rw [if_pos (hw ρ w hk), if_neg (by simp), ho ρ w he hk]
  exact ⟨rfl, rfl⟩
/-- A call of a function of the program, that may turn the world. -/
theorem tok_call (hd : o.dst = some t) {f : FuncId} {fn : Func} {args : Array Operand} {ts : Array TypeId} (hop : o.op = .call { callee := .value (.func f), args := args, argTypes := ts })
    (hf : P.funcs[f]? = some fn) (hn : ((fn.name == "runtime.NumGoroutine") || fn.body.isNone) = false) (R : Rel) (hm : ∀ v w w', R v w → Le w w' → R v w')
    (hw : ∀ ρ w, Known env a0 ρ w (o.looksAt ops) → wantedR ops o ρ = true)
    (ho : ∀ ρ w, Le w0 w → T c w → Known env a0 ρ w (o.looksAt ops) → Calls P f (args.map (evR ρ)) w fun e w' => ∃ v, e = .returned v ∧ Le w w' ∧ R v w' ∧ T (c + 1) w')
    (hr : TeleT P ops a0 w0 Le T Fin rest bs (c + 1) ((t, R) :: env)) : TeleT P ops a0 w0 Le T Fin (o :: rest) (true :: bs) c env := by
  refine tok_any hd true R hm (fun ρ w he hk => ?_) hr
  rw [if_pos (hw ρ w hk), if_pos rfl, run_call_func hop hf hn ρ w]
  exact fun ht => ho ρ w he ht hk
theorem tok_pass (hd : o.dst = some t) (hw : ∀ ρ w, Known env a0 ρ w (o.looksAt ops) → wantedR ops o ρ = false)
    (hr : TeleT P ops a0 w0 Le T Fin rest bs c ((t, fun v _ => v = undef) :: env)) : TeleT P ops a0 w0 Le T Fin (o :: rest) (false :: bs) c env := by
  refine tok_any hd false _ (fun _ _ _ h _ => h) (fun ρ w _ hk => ?_) hr
  rw [if_neg (by simp [hw ρ w hk])]
  exact ⟨rfl, rfl⟩
theorem tok_nil (h : ∀ ρ w, Le w0 w → T c w → EnvFacts ρ w env → Fin ρ w) : TeleT P ops a0 w0 Le T Fin [] bs c env := h
end
end Mono
end Go.Proofs.Ytocdifjdeifclaa
