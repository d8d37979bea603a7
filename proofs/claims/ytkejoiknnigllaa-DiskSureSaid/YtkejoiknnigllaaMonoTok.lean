/-
  A law for regions that draw their order and hold calls that turn the world, one behind the other; each other operation only reads what no call turns. Over any program.
-/
import Derived.Test.YtkejoiknnigllaaMonoDet
namespace Go.Proofs.Ytkejoiknnigllaa
namespace Mono
open Go.RowKit
set_option linter.unusedVariables false

/-- What an operation does: v in world w'. -/
def tokUpon (P : Program) (G : Value → World → Prop) : Result Next → Prop
  | .ok (.value v) w' => G v w'
  | .ok .skip w' => G undef w'
  | .ok (.enter f args) w' => Calls P f args w' (fun e w'' => ∃ v, e = .returned v ∧ G v w'')
  | _ => False

theorem wp_of_tokUpon {P : Program} {o : Oper} {a : Act} {w : World} {G : Value → World → Prop} {K : Act → World → Prop} {Q : Exit → Act → World → Prop}
    (h : tokUpon P G ((execOp a.eval o).run P w)) (hK : ∀ v w', G v w' → K (a.put o.dst v) w') : o.wp P a w K Q := by
  unfold Oper.wp
  generalize (execOp a.eval o).run P w = r at *
  cases r with
  | ok n w' =>
    cases n <;> simp only [tokUpon] at h <;> simp only [Oper.upon]
    case value u => exact hK _ _ h
    case skip => exact hK _ _ h
    case enter f args => exact h.mono fun e w'' ⟨v, he, h1⟩ => by subst he; exact hK _ _ h1
  | halt x w' => simp only [tokUpon] at h

structure Pre (Le : World → World → Prop) : Prop where
  refl : ∀ w, Le w w
  trans : ∀ a b c, Le a b → Le b c → Le a c

section
variable {P : Program} {ops : Array Oper} {md : Region.Mode} {a0 : Act} {w0 : World} {B : Nat → Nat × Nat × Bool} {Le : World → World → Prop} {T : Nat → World → Prop}

/-- The state of affairs once the operations that are listed have been carried out. -/
structure TokI (md : Region.Mode) (ops : Array Oper) (a0 : Act) (w0 : World) (B : Nat → Nat × Nat × Bool) (Le : World → World → Prop) (T : Nat → World → Prop) (R : Nat → Rel) (listed : Array Bool) (a : Act) (w : World) (c : Nat) : Prop where
  le : Le w0 w
  tok : T c w
  defers : a.defers = a0.defers
  size : a.tmps.size = a0.tmps.size
  lsize : listed.size = ops.size
  closed : ∀ j oj, ops[j]? = some oj → listed.getD j false = true → ∀ e ∈ oj.after, Region.binds md e = true → listed.getD e.on false = true
  turns : ∀ i oi, ops[i]? = some oi → (B i).2.2 = true → (listed.getD i false = true ↔ rankB B i < c)
  top : c ≤ rankB B ops.size
  done : ∀ i oi t, ops[i]? = some oi → listed.getD i false = true → oi.dst = some t → R i (a.tmps.getD t undef) w
  rest : ∀ t, (∀ i oi, ops[i]? = some oi → listed.getD i false = true → oi.dst ≠ some t) → a.tmps.getD t undef = a0.tmps.getD t undef

/-- What must be shown of the operation number j. -/
def TokO (P : Program) (ops : Array Oper) (a0 : Act) (w0 : World) (B : Nat → Nat × Nat × Bool) (Le : World → World → Prop) (T : Nat → World → Prop) (R : Nat → Rel) (j : Nat) (oj : Oper) : Prop :=
  ∀ (ρ : Nat → Value) (w : World), Le w0 w →
    (∀ t ∈ oj.looksAt ops, (∀ i oi, i < j → ops[i]? = some oi → oi.dst = some t → R i (ρ t) w) ∧ ((∀ i oi, i < j → ops[i]? = some oi → oi.dst ≠ some t) → ρ t = a0.tmps.getD t undef)) →
    if wantedR ops oj ρ = true then
      (if (B j).2.2 = true then T (rankB B j) w → tokUpon P (fun v w' => Le w w' ∧ R j v w' ∧ T (rankB B j + 1) w') ((execOp (evR ρ) oj).run P w)
       else tokUpon P (fun v w' => w' = w ∧ R j v w) ((execOp (evR ρ) oj).run P w))
    else R j undef w ∧ (B j).2.2 = false

theorem wpAny_tok {n : Nat} {R : Nat → Rel} {Q : Exit → Act → World → Prop} (hLe : Pre Le) (hn : a0.tmps.size = n) (hB : detB md ops n B = true) (hR : ∀ i v w w', R i v w → Le w w' → R i v w')
    (hO : ∀ j oj, ops[j]? = some oj → TokO P ops a0 w0 B Le T R j oj)
    (hfin : ∀ listed a w, TokI md ops a0 w0 B Le T R listed a w (rankB B ops.size) → (∀ j, j < ops.size → listed.getD j false = true) → Q .normal a w) :
    ∀ (fuel : Nat) (listed : Array Bool) (a : Act) (w : World) (c : Nat), listed.toList.count false = fuel → TokI md ops a0 w0 B Le T R listed a w c → wpAny P md ops Q fuel listed a w := by
  obtain ⟨hsel, hS⟩ := detB_spec hB
  have hend : ∀ {listed : Array Bool} {a : Act} {w : World} {c : Nat}, TokI md ops a0 w0 B Le T R listed a w c → Region.ready md ops listed = [] → Q .normal a w := by
    intro listed a w c hi hnil
    have hall := all_of_ready_nil (fun j oj hj => (hS j oj hj).back) hi.lsize hnil
    have hc : c = rankB B ops.size := by
      rcases Nat.lt_or_ge c (rankB B ops.size) with hlt | hge
      · exfalso
        have hex : ∀ m, c < rankB B m → ∃ i, i < m ∧ (B i).2.2 = true ∧ rankB B i = c := by
          intro m
          induction m with
          | zero => intro h; simp [rankB] at h
          | succ m ih =>
            intro h
            by_cases hm : (B m).2.2 = true
            · rw [rankB_succ hm] at h
              by_cases he : rankB B m = c
              · exact ⟨m, by omega, hm, he⟩
              · obtain ⟨i, h1, h2, h3⟩ := ih (by omega)
                exact ⟨i, by omega, h2, h3⟩
            · have : rankB B (m + 1) = rankB B m := by
                unfold rankB
                rw [List.range_succ, List.filter_append]
                simp [hm]
              rw [this] at h
              obtain ⟨i, h1, h2, h3⟩ := ih h
              exact ⟨i, by omega, h2, h3⟩
        obtain ⟨i, h1, h2, h3⟩ := hex ops.size hlt
        have := (hi.turns i _ (Array.getElem?_eq_getElem h1) h2).1 (hall i h1)
        omega
      · have := hi.top
        omega
    subst hc
    exact hfin _ _ _ hi hall
  intro fuel
  induction fuel with
  | zero =>
    intro listed a w c hc hi
    have hnil := ready_nil_of_count (md := md) hi.lsize hc
    exact ⟨hnil, hend hi hnil⟩
  | succ fuel ih =>
    intro listed a w c hc hi
    refine ⟨fun hnil => hend hi hnil, fun j hj => ?_⟩
    obtain ⟨hjun, oj, hoj, hall⟩ := mem_ready.1 hj
    have hjs : j < ops.size := (Array.getElem?_eq_some_iff.1 hoj).1
    have hjl : j < listed.size := by rw [hi.lsize]; exact hjs
    have hS' := hS j oj hoj
    have hlook : ∀ t ∈ oj.looksAt ops, (∀ i oi, i < j → ops[i]? = some oi → oi.dst = some t → R i (a.tmps.getD t undef) w) ∧ ((∀ i oi, i < j → ops[i]? = some oi → oi.dst ≠ some t) → a.tmps.getD t undef = a0.tmps.getD t undef) := by
      intro t ht
      constructor
      · intro i oi hij ho hd
        rcases (hS'.other i oi t (by omega) ho hd).2 ht with ⟨_, e, he, hb, hon⟩ | ⟨hlt, _⟩
        · exact hi.done i oi t ho (hon ▸ hall e he hb) hd
        · omega
      · intro hno
        refine hi.rest t fun i oi ho hl hd => ?_
        by_cases hij : i = j
        · subst hij
          rw [getD_both hjun] at hl
          cases hl
        · rcases (hS'.other i oi t hij ho hd).2 ht with ⟨hlt, _⟩ | ⟨hlt, e, he, hb, hon⟩
          · exact hno i oi hlt ho hd
          · have := hi.closed i oi ho hl e he hb
            rw [hon, getD_both hjun] at this
            cases this
    have hszall : ∀ (i : Nat) t, ((ops[i]?).bind (·.dst)) = some t → t < a.tmps.size := by
      intro i t ht
      cases hoi : ops[i]? with
      | none => simp [hoi] at ht
      | some oi =>
        rw [hoi, Option.bind_some] at ht
        rw [hi.size, hn]
        exact ((hS i oi hoi).dst t ht).1
    have hob := hO j oj hoj (fun t => a.tmps.getD t undef) w hi.le hlook
    have hexec : execOp (evR fun t => a.tmps.getD t undef) oj = execOp a.eval oj :=
      execOp_congr oj (fun cs b => Region.noSelect_spec hsel j oj cs b hoj) fun x _ => (eval_evR a x).symm
    rw [hexec] at hob
    have hcnt : (listed.setIfInBounds j true).toList.count false = fuel := by
      have := count_set hjl hjun
      omega
    have hnext : ∀ (c' : Nat) (v : Value) (w' : World), Le w w' → R j v w' → T c' w' → c' ≤ rankB B ops.size → (∀ i oi, ops[i]? = some oi → (B i).2.2 = true → ((listed.setIfInBounds j true).getD i false = true ↔ rankB B i < c')) →
        TokI md ops a0 w0 B Le T R (listed.setIfInBounds j true) (a.put oj.dst v) w' c' := by
      intro c' v w' hle hv ht hc' htu
      refine ⟨hLe.trans _ _ _ hi.le hle, ht, ?_, ?_, by simp [hi.lsize], ?_, htu, hc', ?_, ?_⟩
      · rw [← hi.defers]; cases oj.dst <;> rfl
      · rw [← hi.size]; cases oj.dst <;> simp [Act.put]
      · intro i oi hoi hli e hee hb
        by_cases hij : j = i
        · subst hij
          have : oi = oj := Option.some.inj (hoi.symm.trans hoj)
          subst this
          exact getD_set_true (hall e hee hb)
        · rw [getD_set_ne false hij] at hli
          exact getD_set_true (hi.closed i oi hoi hli e hee hb)
      · intro i oi t hoi hli hdi
        by_cases hij : j = i
        · subst hij
          have : oi = oj := Option.some.inj (hoi.symm.trans hoj)
          subst this
          rw [hdi]
          have hts : t < a.tmps.size := by rw [hi.size, hn]; exact (hS'.dst t hdi).1
          have : (a.put (some t) v).tmps.getD t undef = v := by simp [Act.put, hts]
          rw [this]
          exact hv
        · rw [getD_set_ne false hij] at hli
          have h1 : (a.put oj.dst v).tmps.getD t undef = a.tmps.getD t undef := by
            cases hdj : oj.dst with
            | none => rfl
            | some d =>
              have hne : d ≠ t := fun e => (hS'.other i oi t (fun h => hij h.symm) hoi hdi).1 (by rw [hdj, e])
              simp [Act.put, Array.getElem?_setIfInBounds_ne hne]
          rw [h1]
          exact hR i _ w w' (hi.done i oi t hoi hli hdi) hle
      · intro t hno
        have h1 : (a.put oj.dst v).tmps.getD t undef = a.tmps.getD t undef := by
          cases hdj : oj.dst with
          | none => rfl
          | some d =>
            have hne : d ≠ t := fun e => hno j oj hoj (by simp [hjl]) (by rw [hdj, e])
            simp [Act.put, Array.getElem?_setIfInBounds_ne hne]
        rw [h1]
        refine hi.rest t fun i oi hoi hli hdi => ?_
        by_cases hij : j = i
        · subst hij; rw [getD_both hjun] at hli; cases hli
        · exact hno i oi hoi (by rw [getD_set_ne false hij]; exact hli) hdi
    have hsame : (B j).2.2 = false → ∀ i oi, ops[i]? = some oi → (B i).2.2 = true → ((listed.setIfInBounds j true).getD i false = true ↔ rankB B i < c) := by
      intro hf i oi hoi hti
      have hij : j ≠ i := fun e => by rw [e, hti] at hf; cases hf
      rw [getD_set_ne false hij]
      exact hi.turns i oi hoi hti
    unfold wpOp
    simp only [hoj]
    rw [wanted_evR a oj hszall]
    split
    · rename_i hw
      rw [if_pos hw] at hob
      refine .inl ?_
      cases htb : (B j).2.2 with
      | true =>
        rw [if_pos htb] at hob
        obtain ⟨h1, h2⟩ := hS'.turn htb
        have hnot : ¬ rankB B j < c := fun hlt => by
          have := (hi.turns j oj hoj htb).2 hlt
          rw [getD_both hjun] at this
          cases this
        have hcj : c = rankB B j := by
          rcases h2 with h3 | ⟨m, h3, h4, h5, e, he, hb, hon⟩
          · omega
          · have hl := hall e he hb
            rw [hon] at hl
            have := (hi.turns m _ (Array.getElem?_eq_getElem (show m < ops.size by omega)) h4).1 hl
            omega
        have hob' := hob (hcj ▸ hi.tok)
        refine wp_of_tokUpon hob' fun v w' ⟨hle, hv, ht⟩ => ?_
        rw [← hcj] at ht
        refine ih _ _ _ (c + 1) hcnt (hnext (c + 1) v w' hle hv ht (by have := rankB_lt hjs htb; omega) (fun i oi hoi hti => ?_))
        by_cases hij : j = i
        · subst hij
          constructor
          · intro _; omega
          · intro _; simp [hjl]
        · rw [getD_set_ne false hij, hi.turns i oi hoi hti]
          constructor
          · intro h; omega
          · intro h
            rcases Nat.lt_trichotomy i j with h3 | h3 | h3
            · have := rankB_lt h3 hti; omega
            · exact absurd h3.symm hij
            · have := rankB_lt h3 htb; omega
      | false =>
        rw [if_neg (by simp [htb])] at hob
        refine wp_of_tokUpon hob fun v w' ⟨hw', hv⟩ => ?_
        subst hw'
        exact ih _ _ _ c hcnt (hnext c v w' (hLe.refl _) hv hi.tok hi.top (hsame htb))
    · rename_i hw
      rw [if_neg hw] at hob
      exact ih _ _ _ c hcnt (hnext c undef w (hLe.refl _) hob.1 hi.tok hi.top (hsame hob.2))

/-! ### As a telescope -/
def OblT (P : Program) (ops : Array Oper) (a0 : Act) (w0 : World) (Le : World → World → Prop) (T : Nat → World → Prop) (c : Nat) (turn : Bool) (env : Env) (o : Oper) (R : Rel) : Prop :=
  ∀ (ρ : Nat → Value) (w : World), Le w0 w → Known env a0 ρ w (o.looksAt ops) →
    if wantedR ops o ρ = true then
      (if turn = true then T c w → tokUpon P (fun v w' => Le w w' ∧ R v w' ∧ T (c + 1) w') ((execOp (evR ρ) o).run P w)
       else tokUpon P (fun v w' => w' = w ∧ R v w) ((execOp (evR ρ) o).run P w))
    else R undef w ∧ turn = false
def TeleT (P : Program) (ops : Array Oper) (a0 : Act) (w0 : World) (Le : World → World → Prop) (T : Nat → World → Prop) (Fin : (Nat → Value) → World → Prop) : List Oper → List Bool → Nat → Env → Prop
  | o :: rest, b :: bs, c, env => ∃ R : Rel, (∀ v w w', R v w → Le w w' → R v w') ∧ OblT P ops a0 w0 Le T c b env o R ∧
      TeleT P ops a0 w0 Le T Fin rest bs (if b = true then c + 1 else c) ((match o.dst with | some t => (t, R) | none => (0, R)) :: env)
  | [], _, c, env => ∀ ρ w, Le w0 w → T c w → EnvFacts ρ w env → Fin ρ w
  | _ :: _, [], _, _ => False
def bsB (bs : List Bool) (j : Nat) : Nat × Nat × Bool := if bs.getD j false = true then (((List.range j).filter fun i => bs.getD i false).length, ((List.range j).filter fun i => bs.getD i false).length, true) else (0, bs.length, false)
theorem bsB_turn (bs : List Bool) (j : Nat) : (bsB bs j).2.2 = bs.getD j false := by
  unfold bsB
  split
  · rename_i h; rw [h]
  · rename_i h; simpa using h
theorem teleT_gives {l : List Oper} {bs : List Bool} {Fin : (Nat → Value) → World → Prop} (hdst : ∀ (i : Nat) (oi : Oper), l[i]? = some oi → ∃ s, oi.dst = some s) : ∀ (r : List Oper) (rb : List Bool) (k : Nat) (R0 : Nat → Rel), k + r.length = l.length → (∀ j, r[j]? = l[k + j]?) → (∀ j, rb[j]? = bs[k + j]?) →
    TeleT P ops a0 w0 Le T Fin r rb (rankB (bsB bs) k) (envOf l R0 k) → ∃ R : Nat → Rel, (∀ i, i < k → R i = R0 i) ∧ (∀ i, k ≤ i → i < l.length → (∀ v w w', R i v w → Le w w' → R i v w')) ∧
      (∀ (i : Nat) (o : Oper), k ≤ i → l[i]? = some o → OblT P ops a0 w0 Le T (rankB (bsB bs) i) (bs.getD i false) (envOf l R i) o (R i)) ∧ ∀ ρ w, Le w0 w → T (rankB (bsB bs) l.length) w → EnvFacts ρ w (envOf l R l.length) → Fin ρ w
  | [], rb, k, R0, hk, _, _, h => by
    have hk' : k = l.length := by simpa using hk
    subst hk'
    exact ⟨R0, fun _ _ => rfl, fun i h1 h2 => absurd h2 (by omega), fun i o h1 h2 => (by rw [List.getElem?_eq_none h1] at h2; cases h2), h⟩
  | o :: r, [], k, R0, hk, hr, hrb, h => by cases h
  | o :: r, b :: rb, k, R0, hk, hr, hrb, h => by
    obtain ⟨Rk, hm, hob, ht⟩ := h
    have hok : l[k]? = some o := by simpa using (hr 0).symm
    have hbk : bs[k]? = some b := by simpa using (hrb 0).symm
    have hbk' : bs.getD k false = b := by rw [List.getD_eq_getElem?_getD, hbk]; rfl
    obtain ⟨s, hs⟩ := hdst k o hok
    let R1 : Nat → Rel := fun i => if i = k then Rk else R0 i
    have he : envOf l R1 k = envOf l R0 k := envOf_congr k fun i hi => by simp only [R1]; rw [if_neg (by omega)]
    have he1 : envOf l R1 (k + 1) = (match o.dst with | some t => (t, Rk) | none => (0, Rk)) :: envOf l R0 k := by
      simp only [envOf, hok, Option.bind_some, hs, he]
      simp [R1]
    have hrank : rankB (bsB bs) (k + 1) = if b = true then rankB (bsB bs) k + 1 else rankB (bsB bs) k := by
      by_cases hb : b = true
      · rw [if_pos hb]
        exact rankB_succ (by rw [bsB_turn, hbk', hb])
      · rw [if_neg hb]
        unfold rankB
        rw [List.range_succ, List.filter_append]
        have : (bsB bs k).2.2 = false := by rw [bsB_turn, hbk']; simpa using hb
        simp [this]
    obtain ⟨R, h1, h2, h3, h4⟩ := teleT_gives hdst r rb (k + 1) R1 (by simp at hk; omega) (fun j => by have := hr (j + 1); simpa [Nat.add_assoc, Nat.add_comm 1 j] using this) (fun j => by have := hrb (j + 1); simpa [Nat.add_assoc, Nat.add_comm 1 j] using this) (by rw [he1, hrank]; exact ht)
    have hRk : R k = Rk := (h1 k (by omega)).trans (by simp [R1])
    refine ⟨R, fun i hi => (h1 i (by omega)).trans (by simp only [R1]; rw [if_neg (by omega)]), fun i hi hil => ?_, fun i o' hi ho' => ?_, h4⟩
    · by_cases hik : i = k
      · subst hik; rw [hRk]; exact hm
      · exact h2 i (by omega) hil
    · by_cases hik : i = k
      · subst hik
        have : o' = o := Option.some.inj (ho'.symm.trans hok)
        subst this
        have hee : envOf l R i = envOf l R0 i := envOf_congr i fun m hmi => (h1 m (by omega)).trans (by simp only [R1]; rw [if_neg (by omega)])
        rw [hRk, hee, hbk']
        exact hob
      · exact h3 i o' (by omega) ho'
end

/-- **A region that draws its order, with calls that turn the world.** -/
theorem wp_region_tok {P : Program} {id : Nat} {Q : Exit → Act → World → Prop} {a : Act} {w : World} {l : List Oper} (bs : List Bool) (Le : World → World → Prop) (T : Nat → World → Prop) (k : Nat) (hm : P.follows .mixedOrders = true)
    (hdst : l.all (fun o => o.dst.isSome) = true) (hB : detB .any l.toArray a.tmps.size (bsB bs) = true) (hk : rankB (bsB bs) l.length = k) (hLe : Pre Le) (h0 : Le w w.drew) (hT : T 0 w.drew)
    (h : TeleT P l.toArray a w Le T (fun ρ w' => T k w' → Q .normal (puts ρ a l) w') l bs 0 []) : (Code.region id l.toArray true).wp P Q a w := by
  obtain ⟨hsel, hS⟩ := detB_spec hB
  have hdst' : ∀ (i : Nat) (oi : Oper), l[i]? = some oi → ∃ s, oi.dst = some s := fun i oi hoi => by
    have := List.all_eq_true.1 hdst oi (List.mem_of_getElem? hoi)
    exact Option.isSome_iff_exists.1 this
  obtain ⟨R, _, h2, h3, h4⟩ := teleT_gives (bs := bs) hdst' l bs 0 (fun _ _ _ => True) (by simp) (fun j => by simp) (fun j => by simp) h
  let R' : Nat → Rel := fun i => if i < l.length then R i else fun _ _ => False
  have hRR : ∀ i, i < l.length → R' i = R i := fun i hi => by simp only [R']; rw [if_pos hi]
  have hR' : ∀ i v w w', R' i v w → Le w w' → R' i v w' := by
    intro i v w w' hv hle
    by_cases hi : i < l.length
    · rw [hRR i hi] at hv ⊢
      exact h2 i (Nat.zero_le _) hi v w w' hv hle
    · simp only [R'] at hv
      rw [if_neg hi] at hv
      exact hv.elim
  refine wp_region_any hm ?_
  refine wpAny_tok (a0 := a) (w0 := w) (B := bsB bs) (T := T) (R := R') hLe rfl hB hR' (fun j oj hoj => ?_) (fun listed a' w' hi hall => ?_) _ _ _ _ 0 (by simp) ⟨h0, hT, rfl, rfl, by simp, fun j oj hj hl => ?_, fun i oi hoi hti => ?_, Nat.zero_le _, fun i oi t hoi hl => ?_, fun t _ => rfl⟩
  · intro ρ w' hle hlook
    have hoj' : l[j]? = some oj := by simpa using hoj
    have hjl := (List.getElem?_eq_some_iff.1 hoj').1
    have hk := h3 j oj (Nat.zero_le _) hoj' ρ w' hle (known_of fun t ht => fact_of hdst' j (Nat.le_of_lt hjl) (fun i oi hij hoi hdi => by
      have := (hlook t ht).1 i oi hij (by simpa using hoi) hdi
      rw [hRR i (by omega)] at this
      exact this) (fun hno => (hlook t ht).2 fun i oi hij hoi => hno i oi hij (by simpa using hoi)))
    rw [hRR j hjl, bsB_turn]
    exact hk
  · have hsz : l.toArray.size = l.length := by simp
    rw [hsz] at hi
    have hq := h4 (fun t => a'.tmps.getD t undef) w' hi.le hi.tok (envFacts_of hdst' (fun i oi t hoi hdi => by
      have := hi.done i oi t (by simpa using hoi) (hall i (by simpa using (List.getElem?_eq_some_iff.1 hoi).1)) hdi
      rw [hRR i (List.getElem?_eq_some_iff.1 hoi).1] at this
      exact this) l.length (Nat.le_refl _))
    have hq' := hq (hk ▸ hi.tok)
    have hact : a' = puts (fun t => a'.tmps.getD t undef) a l := by
      obtain ⟨p1, p2, p3⟩ := puts_slots (fun t => a'.tmps.getD t undef) l a
      refine act_ext (by rw [hi.defers, p1]) (by rw [hi.size, p2]) fun t ht => ?_
      rw [p3 t (by rw [← hi.size]; exact ht)]
      by_cases hex : ∃ o ∈ l, o.dst = some t
      · rw [if_pos hex]
      · rw [if_neg hex]
        refine hi.rest t fun i oi hoi _ hdi => hex ⟨oi, ?_, hdi⟩
        exact List.mem_of_getElem? (by simpa using hoi)
    rw [hact]
    exact hq'
  · rw [getD_rep] at hl; cases hl
  · rw [getD_rep]; simp
  · rw [getD_rep] at hl; cases hl

section
variable {P : Program} {ops : Array Oper} {a0 : Act} {w0 : World} {Le : World → World → Prop} {T : Nat → World → Prop} {Fin : (Nat → Value) → World → Prop} {o : Oper} {rest : List Oper} {bs : List Bool} {c : Nat} {env : Env} {t : Tmp}
theorem tok_any (hd : o.dst = some t) (b : Bool) (R : Rel) (hm : ∀ v w w', R v w → Le w w' → R v w') (ho : OblT P ops a0 w0 Le T c b env o R) (hr : TeleT P ops a0 w0 Le T Fin rest bs (if b = true then c + 1 else c) ((t, R) :: env)) : TeleT P ops a0 w0 Le T Fin (o :: rest) (b :: bs) c env :=
  ⟨R, hm, ho, by rw [hd]; exact hr⟩
/-- The value is known, whatever the world. -/
theorem tok_val (hd : o.dst = some t) (x : Value) (hw : ∀ ρ w, Known env a0 ρ w (o.looksAt ops) → wantedR ops o ρ = true)
    (ho : ∀ ρ w, Le w0 w → Known env a0 ρ w (o.looksAt ops) → (execOp (evR ρ) o).run P w = .ok (.value x) w)
    (hr : TeleT P ops a0 w0 Le T Fin rest bs c ((t, fun v _ => v = x) :: env)) : TeleT P ops a0 w0 Le T Fin (o :: rest) (false :: bs) c env := by
  refine tok_any hd false _ (fun _ _ _ h _ => h) (fun ρ w he hk => ?_) hr
  rw [if_pos (hw ρ w hk), if_neg (by simp), ho ρ w he hk]
  exact ⟨rfl, rfl⟩
/-- A call of a function of the program, that may turn the world. -/
theorem tok_call (hd : o.dst = some t) {f : FuncId} {fn : Func} {args : Array Operand} {ts : Array TypeId} (hop : o.op = .call { callee := .value (.func f), args := args, argTypes := ts })
    (hf : P.funcs[f]? = some fn) (hn : ((fn.name == "runtime.NumGoroutine") || fn.body.isNone) = false) (R : Rel) (hm : ∀ v w w', R v w → Le w w' → R v w')
    (hw : ∀ ρ w, Known env a0 ρ w (o.looksAt ops) → wantedR ops o ρ = true)
    (ho : ∀ ρ w, Le w0 w → T c w → Known env a0 ρ w (o.looksAt ops) → Calls P f (args.map (evR ρ)) w fun e w' => ∃ v, e = .returned v ∧ Le w w' ∧ R v w' ∧ T (c + 1) w')
    (hr : TeleT P ops a0 w0 Le T Fin rest bs (c + 1) ((t, R) :: env)) : TeleT P ops a0 w0 Le T Fin (o :: rest) (true :: bs) c env := by
  refine tok_any hd true R hm (fun ρ w he hk => ?_) hr
  rw [if_pos (hw ρ w hk), if_pos rfl, run_call_func hop hf hn ρ w]
  exact fun ht => ho ρ w he ht hk
theorem tok_pass (hd : o.dst = some t) (hw : ∀ ρ w, Known env a0 ρ w (o.looksAt ops) → wantedR ops o ρ = false)
    (hr : TeleT P ops a0 w0 Le T Fin rest bs c ((t, fun v _ => v = undef) :: env)) : TeleT P ops a0 w0 Le T Fin (o :: rest) (false :: bs) c env := by
  refine tok_any hd false _ (fun _ _ _ h _ => h) (fun ρ w _ hk => ?_) hr
  rw [if_neg (by simp [hw ρ w hk])]
  exact ⟨rfl, rfl⟩
theorem tok_nil (h : ∀ ρ w, Le w0 w → T c w → EnvFacts ρ w env → Fin ρ w) : TeleT P ops a0 w0 Le T Fin [] bs c env := h
end
end Mono
end Go.Proofs.Ytkejoiknnigllaa
