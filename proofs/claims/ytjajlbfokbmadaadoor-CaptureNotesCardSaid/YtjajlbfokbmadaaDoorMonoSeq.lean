/-
  The law of Mono for a region that keeps the text's order: each operation looked at once, whatever the guards say.
-/
import Derived.Test.YtjajlbfokbmadaaDoorMonoIf
namespace Go.Proofs.YtjajlbfokbmadaaDoor
namespace Mono
open Go.RowKit
/-- Each operation has a slot of its own. -/
def seqB (ops : Array Oper) (n : Nat) : Bool :=
  Region.noSelect ops && (List.range ops.size).all fun j => match ops[j]? with
    | none => true
    | some oj => (match oj.dst with | some t => decide (t < n) | none => false) &&
      (List.range j).all fun i => match ops[i]? with
        | none => true
        | some oi => oi.dst != oj.dst
section
variable {P : Program} {ops : Array Oper} {a0 : Act} {w0 : World}
theorem seqB_spec {n : Nat} (h : seqB ops n = true) : Region.noSelect ops = true ∧ ∀ (j : Nat) (oj : Oper), ops[j]? = some oj → (∃ t, oj.dst = some t ∧ t < n) ∧ ∀ (i : Nat) (oi : Oper), i < j → ops[i]? = some oi → oi.dst ≠ oj.dst := by
  simp only [seqB, Bool.and_eq_true, List.all_eq_true, List.mem_range] at h
  refine ⟨h.1, fun j oj hj => ?_⟩
  have hjs : j < ops.size := (Array.getElem?_eq_some_iff.1 hj).1
  have h1 := h.2 j hjs
  simp only [hj, Bool.and_eq_true, List.all_eq_true, List.mem_range] at h1
  obtain ⟨hd, hp⟩ := h1
  refine ⟨?_, fun i oi hi hoi => ?_⟩
  · cases hdd : oj.dst with
    | none => simp [hdd] at hd
    | some t => exact ⟨t, rfl, by simpa [hdd] using hd⟩
  · have h2 := hp i hi
    simpa only [hoi, bne_iff_ne, ne_eq] using h2
structure SInv (ops : Array Oper) (a0 : Act) (w0 : World) (R : Nat → Rel) (k : Nat) (a : Act) (w : World) : Prop where
  ext : Ext w0 w
  defers : a.defers = a0.defers
  size : a.tmps.size = a0.tmps.size
  done : ∀ (i : Nat) (oi : Oper) (t : Tmp), i < k → ops[i]? = some oi → oi.dst = some t → R i (a.tmps.getD t undef) w
  rest : ∀ (t : Tmp), (∀ (i : Nat) (oi : Oper), i < k → ops[i]? = some oi → oi.dst ≠ some t) → a.tmps.getD t undef = a0.tmps.getD t undef
theorem wpList_seq {n : Nat} {R : Nat → Rel} {Q : Exit → Act → World → Prop} (hn : a0.tmps.size = n) (hB : seqB ops n = true) (hR : Rspec P ops a0 w0 R)
    (hfin : ∀ a w, SInv ops a0 w0 R ops.size a w → Q .normal a w) :
    ∀ (l : List Oper) (k : Nat) (a : Act) (w : World), k + l.length = ops.size → (∀ j, l[j]? = ops[k + j]?) → SInv ops a0 w0 R k a w → wpList P ops Q l a w
  | [], k, a, w, hk, _, hi => by
    have : k = ops.size := by simpa using hk
    subst this
    exact hfin _ _ hi
  | oj :: l, k, a, w, hk, hl, hi => by
    obtain ⟨hsel, hB2⟩ := seqB_spec hB
    have hoj : ops[k]? = some oj := by simpa using (hl 0).symm
    obtain ⟨⟨d, hd, hdn⟩, hpair⟩ := hB2 k oj hoj
    have hszall : ∀ (i : Nat) t, ((ops[i]?).bind (·.dst)) = some t → t < a.tmps.size := by
      intro i t ht
      cases hoi : ops[i]? with
      | none => simp [hoi] at ht
      | some oi =>
        obtain ⟨⟨d', hd', hdn'⟩, _⟩ := hB2 i oi hoi
        simp only [hoi, Option.bind_some, hd'] at ht
        injection ht with ht
        rw [hi.size, hn, ← ht]; exact hdn'
    have hobl := hR.2 k oj hoj (fun t => a.tmps.getD t undef) w hi.ext fun t _ => ⟨fun i oi hik hoi hdi => hi.done i oi t hik hoi hdi, fun hno => hi.rest t hno⟩
    have hexec : execOp (evR fun t => a.tmps.getD t undef) oj = execOp a.eval oj :=
      execOp_congr oj (fun cs b => Region.noSelect_spec hsel k oj cs b hoj) fun x _ => (eval_evR a x).symm
    rw [hexec] at hobl
    have hnext : ∀ v w', Ext w w' → R k v w' → SInv ops a0 w0 R (k + 1) (a.put oj.dst v) w' := by
      intro v w' he hv
      have hdsz : d < a.tmps.size := by rw [hi.size, hn]; exact hdn
      rw [hd]
      refine ⟨hi.ext.trans he, hi.defers, by simp [Act.put, hi.size], ?_, ?_⟩
      · intro i oi t hik hoi hdi
        by_cases hij : i = k
        · subst hij
          have : oi = oj := Option.some.inj (hoi.symm.trans hoj)
          subst this
          rw [hd] at hdi
          injection hdi with hdi
          subst hdi
          have : (a.put (some d) v).tmps.getD d undef = v := by simp [Act.put, hdsz]
          rw [this]
          exact hv
        · have hne : d ≠ t := by
            intro heq
            subst heq
            exact hpair i oi (by omega) hoi (hdi.trans hd.symm)
          have : (a.put (some d) v).tmps.getD t undef = a.tmps.getD t undef := by simp [Act.put, Array.getElem?_setIfInBounds_ne hne]
          rw [this]
          exact hR.1 i _ w w' (hi.done i oi t (by omega) hoi hdi) he
      · intro t hno
        have hne : d ≠ t := fun heq => hno k oj (by omega) hoj (heq ▸ hd)
        have : (a.put (some d) v).tmps.getD t undef = a.tmps.getD t undef := by simp [Act.put, Array.getElem?_setIfInBounds_ne hne]
        rw [this]
        exact hi.rest t fun i oi hik hoi => hno i oi (by omega) hoi
    have hrec := fun v w' (he : Ext w w') (hv : R k v w') => wpList_seq hn hB hR hfin l (k + 1) _ w' (by simp at hk; omega) (fun j => by have := hl (j + 1); simpa [Nat.add_assoc, Nat.add_comm 1 j] using this) (hnext v w' he hv)
    unfold wpList
    rw [wanted_evR a oj hszall]
    split
    · rename_i hw
      rw [if_pos hw] at hobl
      exact .inl (wp_of_monoUpon hobl fun v w' he hv => hrec v w' he hv)
    · rename_i hw
      rw [if_neg hw] at hobl
      exact hrec undef w (Ext.refl _) hobl
/-- **A region in the text's order, each operation looked at once.** -/
theorem wp_region_seq {id : Nat} {Q : Exit → Act → World → Prop} {a : Act} {w : World} {l : List Oper} (hB : seqB l.toArray a.tmps.size = true)
    (h : Tele P l.toArray a w (fun ρ w' => Q .normal (puts ρ a l) w') l []) : (Code.region id l.toArray false).wp P Q a w := by
  obtain ⟨hsel, hB2⟩ := seqB_spec hB
  have hdst : ∀ (i : Nat) (oi : Oper), l[i]? = some oi → ∃ s, oi.dst = some s := fun i oi hoi => by
    obtain ⟨⟨t, ht, _⟩, _⟩ := hB2 i oi (by simpa using hoi)
    exact ⟨t, ht⟩
  obtain ⟨R, _, h2, h3, h4⟩ := tele_gives hdst l 0 (fun _ _ _ => True) (by simp) (fun j => by simp) h
  let R' : Nat → Rel := fun i => if i < l.length then R i else fun _ _ => False
  have hRR : ∀ i, i < l.length → R' i = R i := fun i hi => by simp only [R']; rw [if_pos hi]
  refine wp_region_lit ?_
  refine wpList_seq (R := R') (w0 := w) rfl hB ⟨fun i v w1 w2 hr he => ?_, fun j oj hoj ρ w1 he hl => ?_⟩ ?_ l 0 a w (by simp) (fun j => by simp) ⟨Ext.refl _, rfl, rfl, fun i oi t hi => absurd hi (by omega), fun t _ => rfl⟩
  · by_cases hi : i < l.length
    · rw [hRR i hi] at hr ⊢; exact h2 i (Nat.zero_le _) hi v w1 w2 hr he
    · simp only [R'] at hr; rw [if_neg hi] at hr; exact hr.elim
  · have hoj' : l[j]? = some oj := by simpa using hoj
    have hjl : j < l.length := (List.getElem?_eq_some_iff.1 hoj').1
    rw [hRR j hjl]
    refine h3 j oj (Nat.zero_le _) hoj' ρ w1 he (known_of fun t ht => ?_)
    obtain ⟨g1, g2⟩ := hl t ht
    refine fact_of hdst j (by omega) (fun i oi hi hoi hdi => ?_) fun hno => g2 fun i oi hi hoi => hno i oi hi (by simpa using hoi)
    have := g1 i oi hi (by simpa using hoi) hdi
    rwa [hRR i (by omega)] at this
  · intro a1 w1 hi
    have hslot : a1 = puts (fun t => a1.tmps.getD t undef) a l := by
      obtain ⟨p1, p2, p3⟩ := puts_slots (fun t => a1.tmps.getD t undef) l a
      refine act_ext (hi.defers.trans p1.symm) (hi.size.trans p2.symm) fun t ht => ?_
      rw [p3 t (by rw [← hi.size]; exact ht)]
      by_cases hex : ∃ o ∈ l, o.dst = some t
      · rw [if_pos hex]
      · rw [if_neg hex]
        exact hi.rest t fun i oi _ hoi hdi => hex ⟨oi, List.mem_of_getElem? (by simpa using hoi), hdi⟩
    rw [hslot]
    refine h4 _ w1 hi.ext (envFacts_of hdst (fun i oi t hoi hdi => ?_) l.length (Nat.le_refl _))
    have hil : i < l.length := (List.getElem?_eq_some_iff.1 hoi).1
    have := hi.done i oi t (by simpa using hil) (by simpa using hoi) hdi
    rwa [hRR i hil] at this
end
end Mono
end Go.Proofs.YtjajlbfokbmadaaDoor
