/-
  Layer 15: what a call leaves may be: the bounds of a disk, from call to call.
-/
import Derived.Test.YtkejoiknnigllaaDkAppend
import Derived.Sort.Walk0
namespace Go.Proofs.Ytkejoiknnigllaa
open Go Go.RowKit Mono
set_option linter.unusedVariables false
set_option linter.unusedSimpArgs false

theorem Dk.Ok.count {d : Dk} (h : d.Ok) {act : Dk → Dk} (ha : (act d.tick).Ok) : (d.count act).1.Ok := by
  rw [Dk.count_eq]
  cases d.dead with
  | some k => exact h.lose k
  | none => exact ha
theorem findF_mem {name : List UInt8} {fs : List Fil} {f : Fil} (h : findF name fs = some f) : f ∈ fs ∧ f.name = name := by
  refine ⟨List.mem_of_find?_eq_some h, ?_⟩
  have := List.find?_some h
  simpa using this
theorem usedF_upd_le {name : List UInt8} {g : Fil → Fil} {fs : List Fil} (h : ∀ f ∈ fs, (g f).b.length ≤ f.b.length) : usedF (updF name g fs) ≤ usedF fs := by
  unfold updF
  refine used_map_le fun f hf => ?_
  split
  · exact h f hf
  · exact Nat.le_refl _
theorem bl_trans {a b c : List UInt8} (h1 : Op.bytesLess a b = true) (h2 : Op.bytesLess b c = true) : Op.bytesLess a c = true := by
  rw [Go.Proofs.bytesLess_eq] at h1 h2 ⊢
  simp only [decide_eq_true_eq] at h1 h2 ⊢
  exact List.lt_trans h1 h2
theorem bl_total {a b : List UInt8} (h1 : Op.bytesLess a b = false) (hne : a ≠ b) : Op.bytesLess b a = true := by
  rw [Go.Proofs.bytesLess_eq] at h1 ⊢
  simp only [decide_eq_true_eq, decide_eq_false_iff_not] at h1 ⊢
  rcases List.le_iff_lt_or_eq.1 (List.not_lt.1 h1) with h | h
  · exact h
  · exact absurd h.symm hne
theorem insF_mem {name : List UInt8} {x : Fil} : ∀ {fs : List Fil}, x ∈ insF name fs ↔ x = ⟨name, [], 0⟩ ∨ x ∈ fs
  | [] => by simp [insF]
  | f :: r => by
    unfold insF
    split
    · simp
    · have ih := insF_mem (name := name) (x := x) (fs := r)
      simp only [List.mem_cons, ih]
      constructor
      · rintro (h | h | h)
        · exact .inr (.inl h)
        · exact .inl h
        · exact .inr (.inr h)
      · rintro (h | h | h)
        · exact .inr (.inl h)
        · exact .inl h
        · exact .inr (.inr h)
theorem insF_len (name : List UInt8) : ∀ fs : List Fil, (insF name fs).length = fs.length + 1
  | [] => rfl
  | f :: r => by
    unfold insF
    split
    · rfl
    · simp [insF_len name r]
theorem insF_used (name : List UInt8) : ∀ fs : List Fil, usedF (insF name fs) = usedF fs
  | [] => by simp [insF, usedF]
  | f :: r => by
    have ih := insF_used name r
    unfold insF
    split
    · simp [usedF]
    · unfold usedF at *
      simp [ih]
theorem insF_sorted {name : List UInt8} : ∀ {fs : List Fil}, (∀ f ∈ fs, f.name ≠ name) → fs.Pairwise (fun a b => Op.bytesLess a.name b.name = true) → (insF name fs).Pairwise fun a b => Op.bytesLess a.name b.name = true
  | [], _, _ => by simp [insF]
  | f :: r, hn, hp => by
    obtain ⟨h1, h2⟩ := List.pairwise_cons.1 hp
    unfold insF
    by_cases hl : Op.bytesLess name f.name = true
    · rw [if_pos hl]
      refine List.pairwise_cons.2 ⟨fun x hx => ?_, hp⟩
      rcases List.mem_cons.1 hx with rfl | hx
      · exact hl
      · exact bl_trans hl (h1 x hx)
    · rw [if_neg hl]
      refine List.pairwise_cons.2 ⟨fun x hx => ?_, insF_sorted (fun x hx => hn x (List.mem_cons_of_mem _ hx)) h2⟩
      rcases insF_mem.1 hx with rfl | hx
      · exact bl_total (by simpa using hl) (fun e => hn f List.mem_cons_self e.symm)
      · exact h1 x hx
theorem findF_none {name : List UInt8} {fs : List Fil} (h : findF name fs = none) : ∀ f ∈ fs, f.name ≠ name := by
  intro f hf e
  have := List.find?_eq_none.1 h f hf
  simp [e] at this
theorem dMake_ok {d : Dk} (h : d.Ok) (name : List UInt8) : (dMake d name).1.Ok := by
  unfold dMake
  split
  · exact h
  split
  · exact h
  rename_i hg
  split
  · exact h
  rename_i hf
  split
  · exact h
  rename_i h64
  have hnone : findF name d.fs = none := by
    cases hx : findF name d.fs with
    | none => rfl
    | some f => rw [hx] at hf; simp at hf
  refine h.count ?_
  have ht := h.tick
  have e := tick_fs d
  refine ⟨ht.room, ?_, fun f hf => ?_, fun f hf => ?_, ?_, ?_, fun f hf => ?_⟩
  · show (insF name d.tick.fs).Pairwise _
    rw [e]
    exact insF_sorted (findF_none hnone) h.sorted
  · rcases insF_mem.1 hf with rfl | hf
    · exact Nat.le_refl _
    · exact ht.sure f hf
  · rcases insF_mem.1 hf with rfl | hf
    · exact Nat.zero_le _
    · exact ht.len f hf
  · show (insF name d.tick.fs).length ≤ 64
    rw [insF_len, e]
    omega
  · show usedF (insF name d.tick.fs) ≤ _
    rw [insF_used]
    exact ht.used
  · rcases insF_mem.1 hf with rfl | hf
    · simpa using hg
    · exact ht.names f hf
theorem dAppend_ok {d : Dk} (h : d.Ok) (name b : List UInt8) : (dAppend d name b).1.Ok := by
  unfold dAppend
  split
  · exact h
  cases hf : findF name d.fs with
  | none => exact h
  | some f =>
    dsimp only
    split
    · exact h
    rename_i h1
    split
    · exact h
    rename_i h2
    obtain ⟨hm, hn⟩ := findF_mem hf
    have hok1 : (d.upd name fun f => { f with b := f.b ++ b }).Ok := by
      refine h.upd (fun _ => rfl) (fun x hx hxn => ?_) (fun x hx hxn => ?_) ?_
      · have := h.sure x hx
        show x.sure ≤ (x.b ++ b).length
        simp
        omega
      · have e := mem_uniq h hx hm (hxn.trans hn.symm)
        subst e
        show (x.b ++ b).length ≤ _
        simp
        omega
      · have key : ∀ fs : List Fil, fs.Pairwise (fun a b => a.name ≠ b.name) → usedF (updF name (fun f => { f with b := f.b ++ b }) fs) ≤ usedF fs + b.length := by
          intro fs
          induction fs with
          | nil => intro _; simp [updF, usedF]
          | cons x r ih =>
            intro hp
            obtain ⟨h3, h4⟩ := List.pairwise_cons.1 hp
            unfold usedF updF at *
            simp only [List.map_cons, List.sum_cons]
            by_cases hx : (x.name == name) = true
            · rw [if_pos hx]
              have hx' : x.name = name := by simpa using hx
              have off : r.map (fun f => if (f.name == name) = true then ({ f with b := f.b ++ b } : Fil) else f) = r := by
                conv => rhs; rw [← List.map_id r]
                refine List.map_congr_left fun y hy => ?_
                rw [if_neg]
                · rfl
                · intro hy2
                  exact h3 y hy (by rw [hx']; simpa using Eq.symm (by simpa using hy2 : y.name = name))
              rw [off]
              simp
              omega
            · rw [if_neg hx]
              have := ih h4
              dsimp only at this
              omega
        have := key d.fs (h.sorted.imp fun {a b} hab e => by rw [e, bl_irrefl] at hab; cases hab)
        show usedF _ ≤ d.room
        have hd : d.used = usedF d.fs := rfl
        unfold Dk.upd
        dsimp only
        omega
    exact hok1.count hok1.tick
theorem dSync_ok {d : Dk} (h : d.Ok) (name : List UInt8) : (dSync d name).1.Ok := by
  unfold dSync
  split
  · exact h
  cases hf : findF name d.fs with
  | none => exact h
  | some f =>
    refine h.count ?_
    have ht := h.tick
    refine ht.upd (fun _ => rfl) (fun x hx hxn => Nat.le_refl _) (fun x hx hxn => ht.len x hx) ?_
    exact Nat.le_trans (usedF_upd_le (g := fun f : Fil => { f with sure := f.b.length }) fun x hx => Nat.le_refl _) ht.used
theorem dCut_ok {d : Dk} (h : d.Ok) (name : List UInt8) (n : Int) : (dCut d name n).1.Ok := by
  unfold dCut
  split
  · exact h
  cases hf : findF name d.fs with
  | none => exact h
  | some f =>
    dsimp only
    split
    · exact h
    refine h.count ?_
    have ht := h.tick
    refine ht.upd (fun _ => rfl) (fun x hx hxn => ?_) (fun x hx hxn => ?_) ?_
    · have := ht.sure x hx
      show min x.sure n.toNat ≤ (x.b.take n.toNat).length
      simp
      omega
    · have := ht.len x hx
      show (x.b.take n.toNat).length ≤ _
      simp
      omega
    · exact Nat.le_trans (usedF_upd_le (g := fun f : Fil => ⟨f.name, f.b.take n.toNat, min f.sure n.toNat⟩) fun x hx => by simp; omega) ht.used
theorem dDrop_ok {d : Dk} (h : d.Ok) (name : List UInt8) : (dDrop d name).1.Ok := by
  unfold dDrop
  split
  · exact h
  cases hf : findF name d.fs with
  | none => exact h
  | some f =>
    refine h.count ?_
    have ht := h.tick
    have hsub : (d.tick.fs.filter fun f => !(f.name == name)).Sublist d.tick.fs := List.filter_sublist
    refine ⟨ht.room, ht.sorted.sublist hsub, fun f hf => ht.sure f (hsub.subset hf), fun f hf => ht.len f (hsub.subset hf), Nat.le_trans hsub.length_le ht.few, ?_, fun f hf => ht.names f (hsub.subset hf)⟩
    refine Nat.le_trans ?_ ht.used
    have key : ∀ fs : List Fil, usedF (fs.filter fun f => !(f.name == name)) ≤ usedF fs := by
      intro fs
      induction fs with
      | nil => exact Nat.le_refl _
      | cons x r ih =>
        rw [List.filter_cons]
        split
        · unfold usedF at *
          simp
          exact ih
        · unfold usedF at *
          simp
          omega
    exact key _
theorem dArm_ok {d : Dk} (h : d.Ok) (n keep : Int) : (dArm d n keep).1.Ok := by
  unfold dArm
  split
  · exact h
  split
  · exact h
  exact ⟨h.room, h.sorted, h.sure, h.len, h.few, h.used, h.names⟩
theorem dFail_ok {d : Dk} (h : d.Ok) (keep : Int) : (dFail d keep).1.Ok := by
  unfold dFail
  split
  · exact h
  exact h.lose keep
theorem dPower_ok {d : Dk} (h : d.Ok) : (dPower d).Ok := ⟨h.room, h.sorted, h.sure, h.len, h.few, h.used, h.names⟩
theorem fresh_ok {room : Nat} (h : room ≤ 1073741824) : (Dk.fresh room).Ok := ⟨h, List.Pairwise.nil, fun f hf => (by cases hf), fun f hf => (by cases hf), Nat.zero_le _, Nat.zero_le _, fun f hf => (by cases hf)⟩

/-! ### How many operations there were -/
/-- What a step adds to the counts: at most one. -/
structure Dk.Grow (d d' : Dk) : Prop where
  cnt : d'.ops + d'.fails ≤ d.ops + d.fails + 1
  plan : ∀ n k, d'.plan = some (n, k) → ∃ n0, d.plan = some (n0, k) ∧ n ≤ n0
theorem Dk.Grow.refl (d : Dk) : Dk.Grow d d := ⟨Nat.le_succ _, fun n k h => ⟨n, h, Nat.le_refl _⟩⟩
theorem Dk.Grow.lose (d : Dk) (k : Int) : Dk.Grow d (d.lose k) := ⟨by show d.ops + (d.fails + 1) ≤ _; omega, fun _ _ h => by cases h⟩
theorem Dk.Grow.tick (d : Dk) : Dk.Grow d d.tick := by
  unfold Dk.tick
  rcases hp : d.plan with _ | ⟨_ | n, k⟩
  · exact ⟨by dsimp only; omega, fun n k h => by simp at h⟩
  · exact ⟨by dsimp only; omega, fun a b h => ⟨a, by rw [hp]; exact h, Nat.le_refl _⟩⟩
  · exact ⟨by dsimp only; omega, fun a b h => by dsimp only at h; injection h with h; injection h with e1 e2; subst e1 e2; exact ⟨n + 1, hp, Nat.le_succ _⟩⟩
theorem Dk.Grow.count {d d0 : Dk} {act : Dk → Dk} (h0 : d0.ops = d.ops ∧ d0.fails = d.fails ∧ d0.plan = d.plan) (ha : ∀ x : Dk, (act x).ops = x.ops ∧ (act x).fails = x.fails ∧ (act x).plan = x.plan) : Dk.Grow d (d0.count act).1 := by
  rw [Dk.count_eq]
  cases d0.dead with
  | some k =>
    have := Dk.Grow.lose d0 k
    exact ⟨by have h := this.cnt; dsimp only; rw [h0.1, h0.2.1] at h; exact h, fun _ _ h => by cases h⟩
  | none =>
    have := Dk.Grow.tick d0
    refine ⟨?_, fun n k h => ?_⟩
    · have h := this.cnt
      rw [h0.1, h0.2.1] at h
      dsimp only
      rw [(ha _).1, (ha _).2.1]
      exact h
    · dsimp only at h
      rw [(ha _).2.2] at h
      obtain ⟨n0, h1, h2⟩ := this.plan n k h
      exact ⟨n0, by rw [← h0.2.2]; exact h1, h2⟩
theorem dMake_grow (d : Dk) (name : List UInt8) : Dk.Grow d (dMake d name).1 := by
  unfold dMake
  repeat' split
  all_goals first | exact Dk.Grow.refl d | exact Dk.Grow.count ⟨rfl, rfl, rfl⟩ (fun _ => ⟨rfl, rfl, rfl⟩)
theorem dAppend_grow (d : Dk) (name b : List UInt8) : Dk.Grow d (dAppend d name b).1 := by
  unfold dAppend
  repeat' split
  all_goals first | exact Dk.Grow.refl d | exact Dk.Grow.count ⟨rfl, rfl, rfl⟩ (fun _ => ⟨rfl, rfl, rfl⟩)
theorem dSync_grow (d : Dk) (name : List UInt8) : Dk.Grow d (dSync d name).1 := by
  unfold dSync
  repeat' split
  all_goals first | exact Dk.Grow.refl d | exact Dk.Grow.count ⟨rfl, rfl, rfl⟩ (fun _ => ⟨rfl, rfl, rfl⟩)
theorem dCut_grow (d : Dk) (name : List UInt8) (n : Int) : Dk.Grow d (dCut d name n).1 := by
  unfold dCut
  repeat' split
  all_goals first | exact Dk.Grow.refl d | exact Dk.Grow.count ⟨rfl, rfl, rfl⟩ (fun _ => ⟨rfl, rfl, rfl⟩)
theorem dDrop_grow (d : Dk) (name : List UInt8) : Dk.Grow d (dDrop d name).1 := by
  unfold dDrop
  repeat' split
  all_goals first | exact Dk.Grow.refl d | exact Dk.Grow.count ⟨rfl, rfl, rfl⟩ (fun _ => ⟨rfl, rfl, rfl⟩)
theorem dFail_grow (d : Dk) (keep : Int) : Dk.Grow d (dFail d keep).1 := by
  unfold dFail
  repeat' split
  all_goals first | exact Dk.Grow.refl d | exact Dk.Grow.lose d keep
/-- The bound c on the counts. -/
structure Dk.SmallC (c : Nat) (d : Dk) : Prop where
  cnt : d.ops + d.fails ≤ c
  plan : ∀ n k, d.plan = some (n, k) → n < 9223372036854775808
theorem Dk.SmallC.small {c : Nat} {d : Dk} (h : d.SmallC c) (hc : c ≤ 1000000000) : d.Small := ⟨Nat.le_trans h.cnt hc, h.plan⟩
theorem Dk.SmallC.grow {c : Nat} {d d' : Dk} (h : d.SmallC c) (g : Dk.Grow d d') : d'.SmallC (c + 1) := ⟨by have := g.cnt; have := h.cnt; omega, fun n k hp => by
  obtain ⟨n0, h1, h2⟩ := g.plan n k hp
  exact Nat.lt_of_le_of_lt h2 (h.plan n0 k h1)⟩
theorem dArm_small {c : Nat} {d : Dk} (h : d.SmallC c) (n keep : Int) (hn : n < 9223372036854775808) : (dArm d n keep).1.SmallC (c + 1) := by
  unfold dArm
  split
  · exact ⟨Nat.le_succ_of_le h.cnt, h.plan⟩
  split
  · exact ⟨Nat.le_succ_of_le h.cnt, h.plan⟩
  refine ⟨Nat.le_succ_of_le h.cnt, fun a k hp => ?_⟩
  injection hp with hp
  injection hp with e1 e2
  omega
theorem dPower_small {c : Nat} {d : Dk} (h : d.SmallC c) : (dPower d).SmallC (c + 1) := ⟨Nat.le_succ_of_le h.cnt, h.plan⟩
theorem fresh_small (room : Nat) : (Dk.fresh room).SmallC 0 := ⟨Nat.le_refl _, fun n k h => by cases h⟩
end Go.Proofs.Ytkejoiknnigllaa
