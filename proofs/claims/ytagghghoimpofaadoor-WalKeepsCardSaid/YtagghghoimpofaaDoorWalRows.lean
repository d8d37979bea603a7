/-
  Layer 16 in plain Lean: what bytes are read as, as frames one behind the other.
-/
import Derived.Test.YtagghghoimpofaaDoorWalRead
import Derived.Test.YtagghghoimpofaaDoorFrameBack
namespace Go.Proofs.YtagghghoimpofaaDoor
open Go Go.RowKit Mono Num Crc
set_option linter.unusedVariables false
set_option linter.unusedSimpArgs false
set_option maxRecDepth 100000

theorem right_form {m : List UInt8} (h : right m = true) : 4 ≤ m.length ∧ m = fix (m.take (m.length - 4)) := by
  unfold right at h
  simp only [Bool.and_eq_true, decide_eq_true_eq, beq_iff_eq] at h
  refine ⟨h.1, ?_⟩
  unfold fix
  rw [← h.2, List.take_append_drop]
/-- A frame that is opened is the frame of its body. -/
theorem fopen_form {b : List UInt8} (h : (fopen b).2.2 = 0) : b.take (fopen b).2.1 = wrap (fopen b).1 ∧ (fopen b).1.length ≤ 1048576 := by
  unfold fopen at *
  split at h
  · simp at h
  · rename_i h0
    rw [if_neg h0]
    split at h
    · simp at h
    · rename_i hm
      rw [if_neg hm]
      have hform := nget_form_back (b.drop 1)
      generalize hg : nget (b.drop 1) = g at *
      obtain ⟨n, k, f⟩ := g
      unfold fopen2 at *
      dsimp only at *
      by_cases hf : f = 0
      · subst hf
        obtain ⟨hk, hkl, _, hnp⟩ := hform n k rfl
        rw [if_neg (by simp)] at h ⊢
        split at h
        · simp at h
        · rename_i hn
          rw [if_neg hn]
          split at h
          · simp at h
          · rename_i ha
            rw [if_neg ha]
            split at h
            · simp at h
            · rename_i hr
              rw [if_neg hr]
              dsimp only
              rw [List.length_drop] at hkl
              have hbl : ((b.drop (1 + k)).take n).length = n := by rw [List.length_take, List.length_drop]; omega
              refine ⟨?_, by rw [hbl]; omega⟩
              have hr' : right (b.take (1 + k + n + 4)) = true := by simpa using hr
              obtain ⟨_, hfix⟩ := right_form hr'
              unfold wrap
              rw [hbl, if_neg (by omega), hfix]
              congr 1
              rw [List.length_take, Nat.min_eq_left (by omega), List.take_take, Nat.min_eq_left (by omega), hnp, show 1 + k + n + 4 - 4 = 1 + (k + n) by omega]
              cases b with
              | nil => simp at h0
              | cons x r =>
                have hx : x = 181 := by simpa using hm
                subst hx
                rw [show 1 + (k + n) = (k + n) + 1 by omega, List.take_succ_cons, List.drop_succ_cons, List.drop_zero, show 1 + k = k + 1 by omega, List.drop_succ_cons, List.take_add]
      · rw [if_pos hf] at h
        exact absurd h hf
theorem fopen_err {b : List UInt8} (h : (fopen b).2.2 ≠ 0) : (fopen b).2.1 = 0 := by
  unfold fopen at *
  split at h
  · rename_i h0; rw [if_pos h0]
  · rename_i h0
    rw [if_neg h0]
    split at h
    · rename_i hm; rw [if_pos hm]
    · rename_i hm
      rw [if_neg hm]
      generalize nget (b.drop 1) = g at *
      unfold fopen2 at *
      repeat' split
      all_goals first | rfl | skip
      rename_i h1 h2 h3 h4
      rw [if_neg h1, if_neg h2, if_neg h3, if_neg h4] at h
      exact absurd rfl h
theorem frowsP_form : ∀ (m : Nat) (l : List UInt8) (p : Nat), l.length ≤ m → p ≤ (frowsP p l).2.1 ∧ l.take ((frowsP p l).2.1 - p) = allOf (frowsP p l).1 ∧ ∀ x ∈ (frowsP p l).1, x.length ≤ 1048576
  | m, [], p, _ => by
    rw [frowsP_nil]
    exact ⟨Nat.le_refl _, by simp [allOf], fun x hx => (by cases hx)⟩
  | 0, a :: r, p, h => by simp at h
  | m + 1, a :: r, p, h => by
    have hne : (a :: r).length ≠ 0 := by simp
    by_cases he : (fopen (a :: r)).2.2 = 0
    · obtain ⟨h6, hle⟩ := fopen_room he
      obtain ⟨hw, hb⟩ := fopen_form he
      have hfe : felts p (a :: r) = ((fopen (a :: r)).1, p + (fopen (a :: r)).2.1, 0) :: felts (p + (fopen (a :: r)).2.1) ((a :: r).drop (fopen (a :: r)).2.1) := by
        rw [felts_cons _ _ hne, if_pos he, he]
      rw [frowsP_cons _ _ _ _ _ hfe]
      obtain ⟨i1, i2, i3⟩ := frowsP_form m ((a :: r).drop (fopen (a :: r)).2.1) (p + (fopen (a :: r)).2.1) (by rw [List.length_drop]; omega)
      generalize fopen (a :: r) = g at *
      generalize frowsP (p + g.2.1) ((a :: r).drop g.2.1) = q at *
      refine ⟨by dsimp only; omega, ?_, ?_⟩
      · dsimp only
        rw [allOf_cons, ← hw, ← i2, show q.2.1 - p = g.2.1 + (q.2.1 - (p + g.2.1)) by omega, List.take_add]
      · intro x hx
        rcases List.mem_cons.1 hx with rfl | hx
        · exact hb
        · exact i3 x hx
    · have h0 := fopen_err he
      have hfe : felts p (a :: r) = [((fopen (a :: r)).1, p + (fopen (a :: r)).2.1, (fopen (a :: r)).2.2)] := by rw [felts_cons _ _ hne, if_neg he]
      unfold frowsP
      rw [hfe, h0]
      have hb : ((fopen (a :: r)).2.2 == 0) = false := by simpa using he
      simp [hb, allOf]
theorem frows_form (l : List UInt8) : l.take (frows l).2.1 = allOf (frows l).1 ∧ ∀ x ∈ (frows l).1, x.length ≤ 1048576 := by
  have h := frowsP_form l.length l 0 (Nat.le_refl _)
  rw [frows_P]
  simpa using h.2
theorem frows_allOf (ls : List (List UInt8)) (h : ∀ x ∈ ls, x.length ≤ 1048576) : frows (allOf ls) = (ls, (allOf ls).length, 0) := by
  obtain ⟨j, h1, h2, h3, h4⟩ := torn ls 0 (allOf ls).length h (Nat.le_refl _)
  rw [List.take_length] at h2
  have hm := endsN_mono ls
  have hj : j = ls.length := by
    rcases Nat.lt_or_ge j ls.length with hlt | hge
    · have := h4 hlt
      have := hm (j + 1)
      omega
    · omega
  rw [frows_P, h2, hj, List.take_length]
  have he : endsN ls ls.length = (allOf ls).length := by unfold endsN; rw [List.take_length]
  rw [he, Nat.zero_add, if_pos rfl]
/-- What is left behind the cut is read whole. -/
theorem frows_cut (l : List UInt8) : frows (l.take (frows l).2.1) = ((frows l).1, (frows l).2.1, 0) := by
  obtain ⟨h1, h2⟩ := frows_form l
  have hl : (l.take (frows l).2.1).length = (frows l).2.1 := by rw [List.length_take, Nat.min_eq_left (frows_len l).2]
  have h3 := frows_allOf (frows l).1 h2
  rw [← h1] at h3
  rw [h3, hl]
theorem frows_snoc (l : List UInt8) (x : List UInt8) (hx : x.length ≤ 1048576) : frows (l.take (frows l).2.1 ++ wrap x) = ((frows l).1 ++ [x], (frows l).2.1 + (wrap x).length, 0) := by
  obtain ⟨h1, h2⟩ := frows_form l
  have hl : (l.take (frows l).2.1).length = (frows l).2.1 := by rw [List.length_take, Nat.min_eq_left (frows_len l).2]
  have h3 := frows_allOf ((frows l).1 ++ [x]) (fun y hy => by
    rcases List.mem_append.1 hy with hy | hy
    · exact h2 y hy
    · rw [List.mem_singleton.1 hy]; exact hx)
  rw [allOf_snoc, ← h1] at h3
  rw [h3, List.length_append, hl]
end Go.Proofs.YtagghghoimpofaaDoor

/-
  Layer 16 in plain Lean: files that follow one another, and what a log reads of them.
-/
namespace Go.Proofs.YtagghghoimpofaaDoor
open Go Go.RowKit Mono Num Crc
set_option linter.unusedVariables false
set_option linter.unusedSimpArgs false
set_option maxRecDepth 100000

/-! ### Names in order -/
theorem lex_append {a b : List UInt8} (h : List.Lex (· < ·) a b) (hl : a.length = b.length) (x y : List UInt8) : List.Lex (· < ·) (a ++ x) (b ++ y) := by
  induction h with
  | nil => simp at hl
  | rel h => exact .rel h
  | cons h ih => exact .cons (ih (by simpa using hl))
theorem lex_last (a : List UInt8) {x y : UInt8} (h : x < y) : List.Lex (· < ·) (a ++ [x]) (a ++ [y]) := by
  induction a with
  | nil => exact .rel h
  | cons c r ih => exact .cons ih
theorem wpad_lex : ∀ (k a b : Nat), a < b → b < 10 ^ k → List.Lex (· < ·) (wpad k a) (wpad k b)
  | 0, a, b, h, hb => by
    have : b = 0 := by simpa using hb
    omega
  | k + 1, a, b, h, hb => by
    have hb' : b / 10 < 10 ^ k := by rw [Nat.pow_succ] at hb; omega
    rw [wpad, wpad]
    rcases Nat.lt_or_ge (a / 10) (b / 10) with hlt | hge
    · exact lex_append (wpad_lex k _ _ hlt hb') (by rw [wpad_len, wpad_len]) _ _
    · have he : a / 10 = b / 10 := by omega
      rw [he]
      refine lex_last _ ?_
      rw [UInt8.lt_iff_toNat_lt, dig_toNat _ (Nat.mod_lt _ (by decide)), dig_toNat _ (Nat.mod_lt _ (by decide))]
      omega
theorem wname_less {a b : Nat} (h1 : 1 ≤ a) (h : a < b) (h2 : b ≤ 999999999999) : Op.bytesLess (wname (a : Int)) (wname (b : Int)) = true := by
  rw [wname_ok h1 (by omega), wname_ok (by omega) h2, Go.Proofs.bytesLess_eq, decide_eq_true_eq]
  exact .cons (wpad_lex 12 a b h (by omega))
theorem bl_asymm {a b : List UInt8} (h : Op.bytesLess a b = true) : Op.bytesLess b a = false := by
  rw [Go.Proofs.bytesLess_eq] at *
  rw [decide_eq_true_eq] at h
  rw [decide_eq_false_iff_not]
  exact fun h2 => List.lt_irrefl _ (List.lt_trans h h2)
theorem bl_ne {a b : List UInt8} (h : Op.bytesLess a b = true) : a ≠ b := by
  rintro rfl
  rw [bl_asymm h] at h
  cases h
theorem insF_end {name : List UInt8} : ∀ {fs : List Fil}, (∀ f ∈ fs, Op.bytesLess f.name name = true) → insF name fs = fs ++ [⟨name, [], 0⟩]
  | [], _ => rfl
  | f :: r, h => by
    unfold insF
    rw [bl_asymm (h f List.mem_cons_self), if_neg (by decide), insF_end (fun g hg => h g (List.mem_cons_of_mem _ hg))]
    rfl
/-! ### Files that follow one another -/
/-- Files that hold these records, each the next number. -/
def FsOf : Nat → List (List (List UInt8)) → List Fil → Prop
  | _, [], fs => fs = []
  | n, c :: r, fs => ∃ f fs', fs = f :: fs' ∧ f.name = wname (n : Int) ∧ f.b = allOf c ∧ f.sure = f.b.length ∧ FsOf (n + c.length) r fs'
def endN (n : Nat) (cs : List (List (List UInt8))) : Nat := n + cs.flatten.length
theorem endN_nil (n : Nat) : endN n [] = n := rfl
theorem endN_cons (n : Nat) (c : List (List UInt8)) (cs : List (List (List UInt8))) : endN n (c :: cs) = endN (n + c.length) cs := by unfold endN; simp; omega
theorem endN_snoc (n : Nat) (c : List (List UInt8)) (cs : List (List (List UInt8))) : endN n (cs ++ [c]) = endN n cs + c.length := by unfold endN; simp; omega
theorem endN_le (n : Nat) (cs : List (List (List UInt8))) : n ≤ endN n cs := Nat.le_add_right _ _
def numsOf : Nat → List (List (List UInt8)) → List Nat
  | _, [] => []
  | n, c :: r => n :: numsOf (n + c.length) r
def segsOf : Nat → List (List (List UInt8)) → List WSeg
  | _, [] => []
  | n, c :: r => ⟨n, c.length, (allOf c).length⟩ :: segsOf (n + c.length) r
theorem FsOf.snoc : ∀ {n : Nat} {cs : List (List (List UInt8))} {P : List Fil} {c : List (List UInt8)} {f : Fil}, FsOf n cs P → f.name = wname (endN n cs : Nat) → f.b = allOf c → f.sure = f.b.length → FsOf n (cs ++ [c]) (P ++ [f])
  | n, [], P, c, f, h, h1, h2, h3 => by
    have h : P = [] := h
    subst h
    exact ⟨f, [], rfl, h1, h2, h3, rfl⟩
  | n, c0 :: r, P, c, f, h, h1, h2, h3 => by
    obtain ⟨g, fs', rfl, g1, g2, g3, g4⟩ := h
    rw [endN_cons] at h1
    exact ⟨g, fs' ++ [f], rfl, g1, g2, g3, g4.snoc h1 h2 h3⟩
theorem segsOf_snoc : ∀ (n : Nat) (cs : List (List (List UInt8))) (c : List (List UInt8)), segsOf n (cs ++ [c]) = segsOf n cs ++ [⟨endN n cs, c.length, (allOf c).length⟩]
  | n, [], c => rfl
  | n, c0 :: r, c => by
    show _ :: segsOf _ (r ++ [c]) = _ :: (segsOf _ r ++ _)
    rw [segsOf_snoc, endN_cons]
theorem FsOf.len : ∀ {n : Nat} {cs : List (List (List UInt8))} {P : List Fil}, FsOf n cs P → P.length = cs.length
  | n, [], P, h => by
    have h : P = [] := h
    subst h
    rfl
  | n, c0 :: r, P, h => by
    obtain ⟨g, fs', rfl, g1, g2, g3, g4⟩ := h
    simp [g4.len]
theorem FsOf.names : ∀ {n : Nat} {cs : List (List (List UInt8))} {P : List Fil}, FsOf n cs P → ∀ f ∈ P, ∃ m, n ≤ m ∧ m ≤ endN n cs ∧ f.name = wname (m : Int) ∧ f.sure = f.b.length
  | n, [], P, h, f, hf => by
    have h : P = [] := h
    subst h
    cases hf
  | n, c0 :: r, P, h, f, hf => by
    obtain ⟨g, fs', rfl, g1, g2, g3, g4⟩ := h
    rw [endN_cons]
    rcases List.mem_cons.1 hf with rfl | hf
    · exact ⟨n, Nat.le_refl _, Nat.le_trans (Nat.le_add_right _ _) (endN_le _ _), g1, g3⟩
    · obtain ⟨m, h1, h2, h3, h4⟩ := g4.names f hf
      exact ⟨m, by omega, h2, h3, h4⟩
theorem find_ok {d : Dk} (hok : d.Ok) {f : Fil} (hf : f ∈ d.fs) : findF f.name d.fs = some f := by
  cases h : findF f.name d.fs with
  | none => exact absurd rfl (findF_none h f hf)
  | some g =>
    obtain ⟨h1, h2⟩ := findF_mem h
    exact congrArg some (mem_uniq hok h1 hf h2)
theorem upd_last {P : List Fil} {f : Fil} {name : List UInt8} (hp : (P ++ [f]).Pairwise fun a b => Op.bytesLess a.name b.name = true) (hn : f.name = name) (g : Fil → Fil) : updF name g (P ++ [f]) = P ++ [g f] := by
  unfold updF
  rw [List.map_append, List.map_singleton, hn, if_pos (by simp)]
  congr 1
  refine (List.map_congr_left fun a ha => ?_).trans (List.map_id _)
  have hlt := (List.pairwise_append.1 hp).2.2 a ha f (by simp)
  rw [hn] at hlt
  rw [if_neg (by simpa using bl_ne hlt)]
  rfl
theorem wReadA_chain {d : Dk} (hok : d.Ok) (hon : d.on = true) {f : Fil} : ∀ (cs : List (List (List UInt8))) (n : Nat) (P : List Fil) (ss : List WSeg) (a : List (List UInt8)), 1 ≤ n → FsOf n cs P → (∀ g ∈ P ++ [f], g ∈ d.fs) → f.name = wname (endN n cs : Nat) → (∀ c ∈ cs, ∀ x ∈ c, x.length ≤ 1048576) →
    wReadA d ss a (numsOf n cs ++ [endN n cs]) = some (ss ++ segsOf n cs ++ [⟨endN n cs, (frows f.b).1.length, (frows f.b).2.1⟩], a ++ cs.flatten ++ (frows f.b).1, decide ((frows f.b).2.1 < f.b.length))
  | [], n, P, ss, a, hn, hP, hm, hf, hc => by
    have hP : P = [] := hP
    subst hP
    have hfd : findF (wname (n : Int)) d.fs = some f := by
      have := find_ok hok (hm f (by simp))
      rw [hf, endN_nil] at this
      exact this
    have hrd : (dRead d (wname (n : Int))).1 = f.b := by unfold dRead; rw [hon, hfd]; rfl
    have hw : wrows d n = frows f.b := by unfold wrows; rw [hrd]
    show wReadA d ss a [n] = _
    unfold wReadA wseg
    rw [hw, hrd]
    simp [segsOf, endN_nil]
  | c :: r, n, P, ss, a, hn, hP, hm, hf, hc => by
    obtain ⟨g, fs', rfl, g1, g2, g3, g4⟩ := hP
    have hfd : findF (wname (n : Int)) d.fs = some g := by
      have := find_ok hok (hm g (by simp))
      rw [g1] at this
      exact this
    have hrd : (dRead d (wname (n : Int))).1 = g.b := by unfold dRead; rw [hon, hfd]; rfl
    have hw : wrows d n = (c, (allOf c).length, 0) := by unfold wrows; rw [hrd, g2, frows_allOf c (hc c List.mem_cons_self)]
    have ih := wReadA_chain hok hon r (n + c.length) fs' (ss ++ [⟨n, c.length, (allOf c).length⟩]) (a ++ c) (by omega) g4 (fun q hq => hm q (List.mem_cons_of_mem _ hq)) (by rw [← endN_cons]; exact hf) (fun q hq => hc q (List.mem_cons_of_mem _ hq))
    obtain ⟨t, hl⟩ : ∃ t, numsOf (n + c.length) r ++ [endN (n + c.length) r] = (n + c.length) :: t := by
      cases r with
      | nil => exact ⟨[], rfl⟩
      | cons c2 r2 => exact ⟨_, rfl⟩
    rw [endN_cons]
    show wReadA d ss a (n :: (numsOf (n + c.length) r ++ [endN (n + c.length) r])) = _
    rw [hl] at ih ⊢
    rw [wReadA, hw, if_neg (by simp)]
    show wReadA d (ss ++ [wseg d n]) (a ++ c) _ = _
    unfold wseg
    rw [hw, ih]
    simp [segsOf, endN_cons]
theorem wnums_chain : ∀ (cs : List (List (List UInt8))) (n : Nat) (P : List Fil) (f : Fil), 1 ≤ n → FsOf n cs P → f.name = wname (endN n cs : Nat) → endN n cs ≤ 999999999999 →
    ((P ++ [f]).map fun f => wnum f.name).filter (fun n => decide (0 < n)) = numsOf n cs ++ [endN n cs]
  | [], n, P, f, hn, hP, hf, he => by
    have hP : P = [] := hP
    subst hP
    rw [endN_nil] at hf he ⊢
    show List.filter _ [wnum f.name] = [n]
    rw [hf, wnum_wname hn he, List.filter_cons_of_pos (by simp; omega)]
    rfl
  | c :: r, n, P, f, hn, hP, hf, he => by
    obtain ⟨g, fs', rfl, g1, g2, g3, g4⟩ := hP
    rw [endN_cons] at hf he ⊢
    have h1 := endN_le (n + c.length) r
    have ih := wnums_chain r (n + c.length) fs' f (by omega) g4 hf he
    show List.filter _ (wnum g.name :: (fs' ++ [f]).map _) = n :: (numsOf _ r ++ _)
    rw [g1, wnum_wname hn (by omega), List.filter_cons_of_pos (by simp; omega), ih]
end Go.Proofs.YtagghghoimpofaaDoor

/-
  Layer 16 in plain Lean: a log whose files follow one another: Open, Sync, Append.
-/
namespace Go.Proofs.YtagghghoimpofaaDoor
open Go Go.RowKit Mono Num Crc
set_option linter.unusedVariables false
set_option linter.unusedSimpArgs false
set_option maxRecDepth 100000

theorem dead_none {d : Dk} (h : d.plan = none) : d.dead = none := by unfold Dk.dead; rw [h]
theorem tick_plan (d : Dk) (h : d.dead = none) : (d.plan = none → d.tick.plan = none) ∧ ∀ p k, d.plan = some (p, k) → ∃ p', d.tick.plan = some (p', k) ∧ p' + 1 = p := by
  unfold Dk.tick Dk.dead at *
  cases hp : d.plan with
  | none => exact ⟨fun _ => rfl, fun p k h => (by cases h)⟩
  | some x =>
    obtain ⟨p, k⟩ := x
    rw [hp] at h
    cases p with
    | zero => cases h
    | succ p =>
      refine ⟨fun h => (by cases h), fun p' k' h => ?_⟩
      injection h with h
      injection h with h1 h2
      subst h1 h2
      exact ⟨p, rfl, rfl⟩
theorem tick_same (d : Dk) : d.tick.fs = d.fs ∧ d.tick.on = d.on ∧ d.tick.fails = d.fails ∧ d.tick.room = d.room := by
  unfold Dk.tick
  cases d.plan with
  | none => exact ⟨rfl, rfl, rfl, rfl⟩
  | some x => obtain ⟨p, k⟩ := x; cases p <;> exact ⟨rfl, rfl, rfl, rfl⟩
theorem dead_plan {d : Dk} {k : Int} (h : d.dead = some k) : ∃ p k, d.plan = some (p, k) := by
  unfold Dk.dead at h
  cases hp : d.plan with
  | none => rw [hp] at h; cases h
  | some x => exact ⟨x.1, x.2, rfl⟩
theorem count_live {d : Dk} (act : Dk → Dk) (h : d.dead = none) : d.count act = (act d.tick, 0) := by rw [Dk.count_eq, h]
theorem count_dead {d : Dk} (act : Dk → Dk) {k : Int} (h : d.dead = some k) : d.count act = (d.lose k, 150) := by rw [Dk.count_eq, h]
theorem find_last {d : Dk} (hok : d.Ok) {P : List Fil} {f : Fil} (hfs : d.fs = P ++ [f]) : findF f.name d.fs = some f := find_ok hok (by rw [hfs]; simp)
theorem dSync_live {d : Dk} (hok : d.Ok) (hon : d.on = true) (hd : d.dead = none) {P : List Fil} {f : Fil} (hfs : d.fs = P ++ [f]) : dSync d f.name = ({ d.tick with fs := P ++ [{ f with sure := f.b.length }] }, 0) := by
  unfold dSync
  rw [if_neg (by simp [hon]), find_last hok hfs]
  dsimp only
  rw [count_live _ hd]
  unfold Dk.upd
  rw [(tick_same d).1, hfs, upd_last (by rw [← hfs]; exact hok.sorted) rfl]
theorem dSync_dead {d : Dk} (hok : d.Ok) (hon : d.on = true) {k : Int} (hd : d.dead = some k) {P : List Fil} {f : Fil} (hfs : d.fs = P ++ [f]) : dSync d f.name = (d.lose k, 150) := by
  unfold dSync
  rw [if_neg (by simp [hon]), find_last hok hfs]
  dsimp only
  rw [count_dead _ hd]
theorem dCut_live {d : Dk} (hok : d.Ok) (hon : d.on = true) (hd : d.dead = none) {P : List Fil} {f : Fil} (hfs : d.fs = P ++ [f]) {n : Nat} (hn : n ≤ f.b.length) : dCut d f.name (n : Int) = ({ d.tick with fs := P ++ [⟨f.name, f.b.take n, min f.sure n⟩] }, 0) := by
  unfold dCut
  rw [if_neg (by simp [hon]), find_last hok hfs]
  dsimp only
  rw [if_neg (by omega), count_live _ hd]
  unfold Dk.upd
  rw [(tick_same d).1, hfs, upd_last (by rw [← hfs]; exact hok.sorted) rfl, Int.toNat_natCast]
/-- The log of such files is opened. -/
theorem wOpen_chain {d : Dk} (hok : d.Ok) (hon : d.on = true) (hpl : d.plan = none) {n : Nat} {cs : List (List (List UInt8))} {P : List Fil} {f : Fil} (hn : 1 ≤ n) (hfs : d.fs = P ++ [f]) (hP : FsOf n cs P) (hf : f.name = wname (endN n cs : Nat)) (he : endN n cs ≤ 999999999999)
    (hc : ∀ c ∈ cs, ∀ x ∈ c, x.length ≤ 1048576) (size : Nat) (h1 : 1 ≤ size) (h2 : size ≤ 1048576) :
    ∃ k, wOpen d (size : Int) = ⟨{ d with fs := P ++ [⟨f.name, f.b.take (frows f.b).2.1, (frows f.b).2.1⟩], ops := k }, some ⟨segsOf n cs ++ [⟨endN n cs, (frows f.b).1.length, (frows f.b).2.1⟩], size, endN n cs + (frows f.b).1.length - 1, d.fails⟩, cs.flatten ++ (frows f.b).1, 0⟩ := by
  have hwn : wnums d = numsOf n cs ++ [endN n cs] := by unfold wnums; rw [hfs]; exact wnums_chain cs n P f hn hP hf he
  have hrd := wReadA_chain hok hon cs n P [] [] hn hP (fun g hg => by rw [hfs]; exact hg) hf hc
  have hle := (frows_len f.b).2
  unfold wOpen
  rw [if_neg (by simp [hon]), if_neg (by omega), hwn, hrd, List.nil_append, List.nil_append]
  dsimp only
  rw [if_neg (by simp), List.getLastD_concat]
  have hlast : ∀ (x : Dk), (⟨segsOf n cs ++ [⟨endN n cs, (frows f.b).1.length, (frows f.b).2.1⟩], size, 0, d.fails⟩ : Lg).next = endN n cs + (frows f.b).1.length := fun _ => by
    unfold Lg.next
    rw [Lg.last_snoc _ _ rfl]
  have key : ∃ k, wMend d ⟨endN n cs, (frows f.b).1.length, (frows f.b).2.1⟩ (decide ((frows f.b).2.1 < f.b.length)) = ({ d with fs := P ++ [⟨f.name, f.b.take (frows f.b).2.1, (frows f.b).2.1⟩], ops := k }, 0) := by
    unfold wMend
    dsimp only
    rw [← hf]
    by_cases ht : (frows f.b).2.1 < f.b.length
    · rw [if_pos (by simpa using ht), dCut_live hok hon (dead_none hpl) hfs hle, if_neg (by simp)]
      have hok2 := dCut_ok hok f.name ((frows f.b).2.1 : Int)
      rw [dCut_live hok hon (dead_none hpl) hfs hle] at hok2
      have ht1 := tick_same d
      have htp := (tick_plan d (dead_none hpl)).1 hpl
      dsimp only at hok2 ⊢
      generalize hd2 : ({ d.tick with fs := P ++ [⟨f.name, f.b.take (frows f.b).2.1, min f.sure (frows f.b).2.1⟩] } : Dk) = d2 at *
      have hfs2 : d2.fs = P ++ [⟨f.name, f.b.take (frows f.b).2.1, min f.sure (frows f.b).2.1⟩] := by rw [← hd2]
      have hon2 : d2.on = true := by rw [← hd2]; exact ht1.2.1.trans hon
      have hpl2 : d2.plan = none := by rw [← hd2]; exact htp
      have hs := dSync_live hok2 hon2 (dead_none hpl2) hfs2
      dsimp only at hs
      rw [hs]
      have ht2 := tick_same d2
      refine ⟨d2.tick.ops, ?_⟩
      rw [List.length_take, Nat.min_eq_left hle]
      congr 1
      have e1 : d2.tick.room = d.room := by rw [ht2.2.2.2, ← hd2]; exact ht1.2.2.2
      have e2 : d2.tick.on = d.on := by rw [ht2.2.1, hon2, hon]
      have e3 : d2.tick.fails = d.fails := by rw [ht2.2.2.1, ← hd2]; exact ht1.2.2.1
      have e4 : d2.tick.plan = d.plan := by rw [(tick_plan d2 (dead_none hpl2)).1 hpl2, hpl]
      rw [← e1, ← e2, ← e3, ← e4]
    · rw [if_neg (by simpa using ht), dSync_live hok hon (dead_none hpl) hfs]
      have ht1 := tick_same d
      have htp := (tick_plan d (dead_none hpl)).1 hpl
      have hnl : (frows f.b).2.1 = f.b.length := by omega
      refine ⟨d.tick.ops, ?_⟩
      rw [hnl, List.take_length]
      congr 1
      have e4 : d.tick.plan = d.plan := by rw [htp, hpl]
      rw [← ht1.2.2.2, ← ht1.2.1, ← ht1.2.2.1, ← e4]
  obtain ⟨k, hk⟩ := key
  refine ⟨k, ?_⟩
  rw [hk, if_neg (by simp)]
  unfold wOpened
  rw [Int.toNat_natCast, hlast d]
end Go.Proofs.YtagghghoimpofaaDoor

/-
  Layer 16 in plain Lean: records are appended; the power may fail.
-/
namespace Go.Proofs.YtagghghoimpofaaDoor
open Go Go.RowKit Mono Num Crc
set_option linter.unusedVariables false
set_option linter.unusedSimpArgs false
set_option maxRecDepth 100000

/-- A log and its files: full segments cs, the last one c; n the first number. -/
structure Chn (n : Nat) (cs : List (List (List UInt8))) (c : List (List UInt8)) (d : Dk) (l : Lg) : Prop where
  ok : d.Ok
  on : d.on = true
  fails : d.fails = l.fails
  pos : 1 ≤ n
  segs : l.segs = segsOf n cs ++ [⟨endN n cs, c.length, (allOf c).length⟩]
  recs : ∀ x ∈ cs, ∀ y ∈ x, y.length ≤ 1048576
  last : ∀ y ∈ c, y.length ≤ 1048576
  files : ∃ P f, d.fs = P ++ [f] ∧ FsOf n cs P ∧ f.name = wname (endN n cs : Nat) ∧ f.b = allOf c ∧ ∃ j, j ≤ c.length ∧ endsN c j ≤ f.sure ∧ l.sure + 1 ≤ endN n cs + j
/-- What a failure leaves of the records all, n the first number, at least q of them sure. -/
structure Dead (n : Nat) (all : List (List UInt8)) (d : Dk) (l : Lg) : Prop where
  ok : d.Ok
  on : d.on = false
  plan : d.plan = none
  segs : l.segs ≠ []
  files : ∃ cs c rest P f m j, d.fs = P ++ [f] ∧ FsOf n cs P ∧ f.name = wname (endN n cs : Nat) ∧ endN n cs ≤ 999999999999 ∧ f.b = (allOf c).take m ∧ m ≤ (allOf c).length ∧ f.sure = m ∧ cs.flatten ++ c ++ rest = all ∧ j ≤ c.length ∧ endsN c j ≤ m ∧ l.sure + 1 ≤ endN n cs + j ∧
    (∀ x ∈ cs, ∀ y ∈ x, y.length ≤ 1048576) ∧ ∀ y ∈ c, y.length ≤ 1048576
theorem Chn.lastS {n : Nat} {cs : List (List (List UInt8))} {c : List (List UInt8)} {d : Dk} {l : Lg} (h : Chn n cs c d l) : l.last = ⟨endN n cs, c.length, (allOf c).length⟩ := Lg.last_snoc _ _ h.segs
theorem Chn.next {n : Nat} {cs : List (List (List UInt8))} {c : List (List UInt8)} {d : Dk} {l : Lg} (h : Chn n cs c d l) : l.next = endN n cs + c.length := by unfold Lg.next; rw [h.lastS]
theorem Chn.fault {n : Nat} {cs : List (List (List UInt8))} {c : List (List UInt8)} {d : Dk} {l : Lg} (h : Chn n cs c d l) : wFault d l = 0 := by unfold wFault; rw [if_neg (by simp [h.on]), if_neg (by simp [h.fails])]
theorem lose_same {keep : Int} {g : Fil} (h : g.sure = g.b.length) : Fil.lose keep g = g := by
  have hk : keepN keep g = g.b.length := by unfold keepN; omega
  unfold Fil.lose
  rw [hk, List.take_length, ← h]
theorem FsOf.lose {keep : Int} : ∀ {n : Nat} {cs : List (List (List UInt8))} {P : List Fil}, FsOf n cs P → P.map (Fil.lose keep) = P
  | n, [], P, h => by
    have h : P = [] := h
    subst h
    rfl
  | n, c0 :: r, P, h => by
    obtain ⟨g, fs', rfl, g1, g2, g3, g4⟩ := h
    rw [List.map_cons, lose_same g3, g4.lose]
/-- The power fails. -/
theorem dead_of {n : Nat} {cs : List (List (List UInt8))} {c rest : List (List UInt8)} {d : Dk} {l : Lg} {P : List Fil} {f : Fil} (hok : d.Ok) (hfs : d.fs = P ++ [f]) (hP : FsOf n cs P) (hn : f.name = wname (endN n cs : Nat)) (he : endN n cs ≤ 999999999999) (hb : f.b = allOf c) (hsegs : l.segs ≠ [])
    {j : Nat} (hj : j ≤ c.length) (hs : endsN c j ≤ f.sure) (hq : l.sure + 1 ≤ endN n cs + j) (h1 : ∀ x ∈ cs, ∀ y ∈ x, y.length ≤ 1048576) (h2 : ∀ y ∈ c, y.length ≤ 1048576) (keep : Int) : Dead n (cs.flatten ++ c ++ rest) (d.lose keep) l := by
  have hsure := hok.sure f (by rw [hfs]; simp)
  have hkl := keepN_le keep f hsure
  refine ⟨hok.lose keep, rfl, rfl, hsegs, cs, c, rest, P, Fil.lose keep f, keepN keep f, j, ?_, hP, hn, he, ?_, by rw [← hb]; exact hkl, rfl, rfl, hj, ?_, hq, h1, h2⟩
  · show d.fs.map (Fil.lose keep) = _
    rw [hfs, List.map_append, hP.lose]
    rfl
  · show f.b.take _ = _
    rw [hb]
  · refine Nat.le_trans hs ?_
    unfold keepN
    omega
theorem Chn.dead {n : Nat} {cs : List (List (List UInt8))} {c : List (List UInt8)} {d : Dk} {l : Lg} (h : Chn n cs c d l) (he : endN n cs ≤ 999999999999) (rest : List (List UInt8)) (keep : Int) : Dead n (cs.flatten ++ c ++ rest) (d.lose keep) l := by
  obtain ⟨P, f, hfs, hP, hn, hb, j, hj, hs, hq⟩ := h.files
  exact dead_of h.ok hfs hP hn he hb (by rw [h.segs]; simp) hj hs hq h.recs h.last keep
/-- How many operations are left: with a plan so many, and what is done is counted. -/
def PlanUse (d d' : Dk) (k : Nat) : Prop := (d.plan = none → d'.plan = none) ∧ ∀ p q, d.plan = some (p, q) → ∃ p', d'.plan = some (p', q) ∧ p' + k ≤ p
theorem PlanUse.tick {d : Dk} (h : d.dead = none) : PlanUse d d.tick 1 := ⟨(tick_plan d h).1, fun p q hp => by obtain ⟨p', h1, h2⟩ := (tick_plan d h).2 p q hp; exact ⟨p', h1, by omega⟩⟩
theorem PlanUse.trans {d d1 d2 : Dk} {k m : Nat} (h : PlanUse d d1 k) (h2 : PlanUse d1 d2 m) : PlanUse d d2 (k + m) := ⟨fun hp => h2.1 (h.1 hp), fun p q hp => by
  obtain ⟨p1, a1, a2⟩ := h.2 p q hp
  obtain ⟨p2, b1, b2⟩ := h2.2 p1 q a1
  exact ⟨p2, b1, by omega⟩⟩
theorem PlanUse.of_plan {d d1 d2 : Dk} {k : Nat} (h : PlanUse d d1 k) (e : d2.plan = d1.plan) : PlanUse d d2 k := by unfold PlanUse; rw [e]; exact h
theorem PlanUse.dead {d d1 : Dk} {k m : Nat} {keep : Int} (h : PlanUse d d1 m) (hd : d1.dead = some keep) : d.plan ≠ none := fun hp => by
  obtain ⟨p, q, h1⟩ := dead_plan hd
  rw [h.1 hp] at h1
  cases h1
theorem didE_zero {e : Nat} (h : e ≠ 3) : didE e = e := by unfold didE; rw [if_neg h]
theorem endsN_len (c : List (List UInt8)) : endsN c c.length = (allOf c).length := by unfold endsN; rw [List.take_length]
theorem endsN_app (c : List (List UInt8)) (x : List UInt8) {j : Nat} (hj : j ≤ c.length) : endsN (c ++ [x]) j = endsN c j := by unfold endsN; rw [List.take_append_of_le_length hj]
/-- Sync of such a log. -/
theorem wSync_chain {n : Nat} {cs : List (List (List UInt8))} {c : List (List UInt8)} {d : Dk} {l : Lg} (h : Chn n cs c d l) :
    (∃ P f, d.dead = none ∧ d.fs = P ++ [f] ∧ FsOf n cs P ∧ f.name = wname (endN n cs : Nat) ∧ f.b = allOf c ∧ wSync d l = (({ d.tick with fs := P ++ [{ f with sure := f.b.length }] }, { l with sure := l.next - 1 }), 0)) ∨ ∃ keep, d.dead = some keep ∧ wSync d l = ((d.lose keep, l), 150) := by
  obtain ⟨P, f, hfs, hP, hn, hb, j, hj, hs, hq⟩ := h.files
  unfold wSync
  rw [h.fault, if_neg (by simp)]
  unfold wSync1
  rw [h.lastS]
  dsimp only
  rw [← hn]
  cases hd : d.dead with
  | none =>
    rw [dSync_live h.ok h.on hd hfs]
    exact .inl ⟨P, f, rfl, hfs, hP, by first | exact hn | rfl, hb, rfl⟩
  | some keep =>
    rw [dSync_dead h.ok h.on hd hfs]
    exact .inr ⟨keep, rfl, rfl⟩
/-- Behind a Sync that was done. -/
theorem Chn.synced {n : Nat} {cs : List (List (List UInt8))} {c : List (List UInt8)} {d : Dk} {l : Lg} (h : Chn n cs c d l) (h0 : (wSync d l).2 = 0) : Chn n cs c (wSync d l).1.1 (wSync d l).1.2 ∧ PlanUse d (wSync d l).1.1 1 ∧ (wSync d l).1.2.sure + 1 = endN n cs + c.length ∧ (wSync d l).1.1.used = d.used ∧ (wSync d l).1.1.room = d.room ∧ (wSync d l).1.1.fs.length = d.fs.length := by
  have hok' := wSync_ok h.ok l
  rcases wSync_chain h with ⟨P, f, hd, hfs, hP, hn, hb, he⟩ | ⟨keep, hd, he⟩
  · rw [he] at hok' ⊢
    have hts := tick_same d
    have hpos : 1 ≤ l.next := by rw [h.next]; have := h.pos; have := endN_le n cs; omega
    refine ⟨⟨hok', hts.2.1.trans h.on, hts.2.2.1.trans h.fails, h.pos, h.segs, h.recs, h.last, P, _, rfl, hP, hn, hb, c.length, Nat.le_refl _, ?_, ?_⟩, (PlanUse.tick hd).of_plan rfl, ?_, ?_, hts.2.2.2, ?_⟩
    · show endsN c c.length ≤ f.b.length
      rw [endsN_len, hb]
      exact Nat.le_refl _
    · show l.next - 1 + 1 ≤ _
      rw [h.next] at hpos ⊢
      omega
    · show l.next - 1 + 1 = _
      rw [h.next] at hpos ⊢
      omega
    · show usedF (P ++ [_]) = usedF d.fs
      rw [hfs]
      unfold usedF
      simp
    · show (P ++ [_]).length = d.fs.length
      rw [hfs]
      simp
  · rw [he] at h0
    cases h0
end Go.Proofs.YtagghghoimpofaaDoor

/-
  Layer 16 in plain Lean: a record is appended.
-/
namespace Go.Proofs.YtagghghoimpofaaDoor
open Go Go.RowKit Mono Num Crc
set_option linter.unusedVariables false
set_option linter.unusedSimpArgs false
set_option maxRecDepth 100000

theorem dAppend_some {d : Dk} (hok : d.Ok) (hon : d.on = true) {P : List Fil} {f : Fil} (hfs : d.fs = P ++ [f]) (b : List UInt8) (h1 : f.b.length + b.length ≤ 1048576) (h2 : d.used + b.length ≤ d.room) :
    dAppend d f.name b = ({ d with fs := P ++ [{ f with b := f.b ++ b }] } : Dk).count id := by
  unfold dAppend
  rw [if_neg (by simp [hon]), find_last hok hfs]
  dsimp only
  rw [if_neg (by omega), if_neg (by omega)]
  unfold Dk.upd
  rw [hfs, upd_last (by rw [← hfs]; exact hok.sorted) rfl]
theorem dMake_end {d : Dk} (hok : d.Ok) (hon : d.on = true) (name : List UInt8) (hg : dname name = true) (hlt : ∀ f ∈ d.fs, Op.bytesLess f.name name = true) (hfew : d.fs.length < 64) : dMake d name = d.count fun d => { d with fs := insF name d.fs } := by
  unfold dMake
  rw [if_neg (by simp [hon]), if_neg (by simp [hg])]
  have hn : findF name d.fs = none := by
    unfold findF
    rw [List.find?_eq_none]
    intro f hf
    have := bl_ne (hlt f hf)
    simpa using this
  rw [hn, if_neg (by simp), if_neg (by omega)]
/-- What an append leaves. -/
def AppQ (n : Nat) (cs : List (List (List UInt8))) (c : List (List UInt8)) (d : Dk) (l : Lg) (rec : List UInt8) (r : Wn) : Prop :=
  (∃ cs' c', Chn n cs' c' r.1.1 r.1.2 ∧ cs'.flatten ++ c' = cs.flatten ++ c ++ [rec] ∧ c' ≠ [] ∧ r.2 = (endN n cs + c.length, 0) ∧ PlanUse d r.1.1 (1 + 2 * (cs'.length - cs.length)) ∧ r.1.1.used = d.used + (wrap rec).length ∧ r.1.1.room = d.room ∧ r.1.2.size = l.size ∧ r.1.2.sure ≤ endN n cs + c.length ∧
    ((cs' = cs ∧ c' = c ++ [rec] ∧ (c = [] ∨ (allOf c).length + (wrap rec).length ≤ l.size)) ∨ (cs' = cs ++ [c] ∧ c' = [rec] ∧ c ≠ [] ∧ l.size < (allOf c).length + (wrap rec).length))) ∨
  (d.plan ≠ none ∧ r.2 = (0, 150) ∧ Dead n (cs.flatten ++ c ++ [rec]) r.1.1 r.1.2)
theorem wPut_chain {n : Nat} {cs : List (List (List UInt8))} {c : List (List UInt8)} {d : Dk} {l : Lg} (h : Chn n cs c d l) (rec : List UInt8) (hrec : rec.length ≤ 1048576) (hmost : endN n cs ≤ 999999999999) (hlen : (allOf c).length + (wrap rec).length ≤ 1048576) (hroom : d.used + (wrap rec).length ≤ d.room) :
    (Chn n cs (c ++ [rec]) (wPut d l (wrap rec)).1.1 (wPut d l (wrap rec)).1.2 ∧ (wPut d l (wrap rec)).2 = (endN n cs + c.length, 0) ∧ PlanUse d (wPut d l (wrap rec)).1.1 1 ∧ (wPut d l (wrap rec)).1.1.used = d.used + (wrap rec).length ∧ (wPut d l (wrap rec)).1.1.room = d.room ∧ (wPut d l (wrap rec)).1.2.size = l.size ∧ (wPut d l (wrap rec)).1.2.sure = l.sure) ∨
    (d.plan ≠ none ∧ (wPut d l (wrap rec)).2 = (0, 150) ∧ Dead n (cs.flatten ++ (c ++ [rec])) (wPut d l (wrap rec)).1.1 (wPut d l (wrap rec)).1.2) := by
  obtain ⟨P, f, hfs, hP, hn, hb, j, hj, hs, hq⟩ := h.files
  have hokr := wPut_ok h.ok l (wrap rec)
  have hsegs := h.segs
  have hpos := h.pos
  have hel := endN_le n cs
  have hlast : l.last.frm = endN n cs := by rw [h.lastS]
  have hub : ({ d with fs := P ++ [{ f with b := f.b ++ wrap rec }] } : Dk).used = d.used + (wrap rec).length := by
    show usedF (P ++ [_]) = usedF d.fs + _
    rw [hfs]
    unfold usedF
    simp
    omega
  obtain ⟨d1, hd1⟩ : ∃ d1, d1 = ({ d with fs := P ++ [{ f with b := f.b ++ wrap rec }] } : Dk) := ⟨_, rfl⟩
  have hap : dAppend d (wname (l.last.frm : Int)) (wrap rec) = d1.count id := by
    rw [hlast, ← hn, hd1]
    exact dAppend_some h.ok h.on hfs (wrap rec) (by rw [hb]; exact hlen) hroom
  have hW : wPut d l (wrap rec) = if didE (d1.count id).2 ≠ 0 then (((d1.count id).1, l), 0, didE (d1.count id).2) else (((d1.count id).1, l.up (wrap rec).length), (l.up (wrap rec).length).next - 1, 0) := by unfold wPut; rw [hap]
  rw [hW] at hokr ⊢
  rw [← hd1] at hub
  have hplan : d1.plan = d.plan := by rw [hd1]
  have hfs1 : d1.fs = P ++ [{ f with b := f.b ++ wrap rec }] := by rw [hd1]
  cases hd : d1.dead with
  | none =>
    rw [count_live _ hd] at hokr ⊢
    have ht := tick_same d1
    rw [if_neg (by simp [didE])] at hokr ⊢
    refine .inl ⟨⟨hokr, by show d1.tick.on = true; rw [ht.2.1, hd1]; exact h.on, by show d1.tick.fails = l.fails; rw [ht.2.2.1, hd1]; exact h.fails, h.pos, ?_, h.recs, fun y hy => ?_, P, _, ht.1.trans hfs1, hP, hn, ?_, j, ?_, ?_, hq⟩, ?_, ?_, ?_, ?_, rfl, rfl⟩
    · show l.segs.dropLast ++ _ = _
      rw [hsegs, List.dropLast_concat, h.lastS, allOf_snoc, List.length_append, List.length_append]
      rfl
    · rcases List.mem_append.1 hy with hy | hy
      · exact h.last y hy
      · rw [List.mem_singleton.1 hy]; exact hrec
    · show f.b ++ wrap rec = _
      rw [hb, allOf_snoc]
    · rw [List.length_append]; omega
    · rw [endsN_app c rec hj]; exact hs
    · rw [Lg.up_next l _ (by rw [hsegs]; simp), h.next]
      rfl
    · have := PlanUse.tick hd
      unfold PlanUse at this ⊢
      rw [hplan] at this
      exact this
    · show usedF d1.tick.fs = _
      rw [ht.1]
      exact hub
    · show d1.tick.room = _
      rw [ht.2.2.2, hd1]
  | some keep =>
    rw [count_dead _ hd] at hokr ⊢
    rw [if_pos (by simp [didE])]
    refine .inr ⟨fun hp => ?_, rfl, ?_⟩
    · obtain ⟨p, q, h1⟩ := dead_plan hd
      rw [hplan, hp] at h1
      cases h1
    · have hokd1 : d1.Ok := by
        have hokp : ({ d with plan := none } : Dk).Ok := ⟨h.ok.room, h.ok.sorted, h.ok.sure, h.ok.len, h.ok.few, h.ok.used, h.ok.names⟩
        have h0 := dAppend_ok hokp f.name (wrap rec)
        rw [dAppend_some hokp h.on hfs (wrap rec) (by rw [hb]; exact hlen) hroom] at h0
        have h1 : ({ room := d.room, fs := P ++ [{ f with b := f.b ++ wrap rec }], on := d.on, ops := d.ops + 1, fails := d.fails, plan := none } : Dk).Ok := h0
        rw [hd1]
        exact ⟨h1.room, h1.sorted, h1.sure, h1.len, h1.few, h1.used, h1.names⟩
      have := dead_of (l := l) (rest := []) (c := c ++ [rec]) (cs := cs) hokd1 hfs1 hP hn hmost (by show f.b ++ wrap rec = _; rw [hb, allOf_snoc]) (by rw [hsegs]; simp) (j := j) (by rw [List.length_append]; omega) (by rw [endsN_app c rec hj]; exact hs) hq h.recs (fun y hy => by
        rcases List.mem_append.1 hy with hy | hy
        · exact h.last y hy
        · rw [List.mem_singleton.1 hy]; exact hrec) keep
      rw [List.append_nil] at this
      exact this
theorem wRoll_chain {n : Nat} {cs : List (List (List UInt8))} {c : List (List UInt8)} {d : Dk} {l : Lg} (h : Chn n cs c d l) (hc : c ≠ []) (hmost : endN n cs + c.length ≤ 999999999999) (hfew : d.fs.length < 64) (rest : List (List UInt8)) :
    ((wRoll d l).2 = 0 ∧ Chn n (cs ++ [c]) [] (wRoll d l).1.1 (wRoll d l).1.2 ∧ PlanUse d (wRoll d l).1.1 2 ∧ (wRoll d l).1.1.used = d.used ∧ (wRoll d l).1.1.room = d.room ∧ (wRoll d l).1.2.size = l.size ∧ (wRoll d l).1.2.sure ≤ endN n cs + c.length) ∨
    (d.plan ≠ none ∧ (wRoll d l).2 = 150 ∧ Dead n (cs.flatten ++ c ++ rest) (wRoll d l).1.1 (wRoll d l).1.2) := by
  have hcl : 0 < c.length := List.length_pos_iff.2 hc
  have hsz := (wSync_segs d l).2.1
  rcases wSync_chain h with ⟨P0, f0, hd0, _, _, _, _, he0⟩ | ⟨keep, hd, he⟩
  rotate_left
  · unfold wRoll
    rw [he, if_pos (by simp)]
    refine .inr ⟨fun hp => ?_, rfl, h.dead (by omega) rest keep⟩
    rw [dead_none hp] at hd
    cases hd
  have hz : (wSync d l).2 = 0 := by rw [he0]
  obtain ⟨hC, hPU, hsu, hus, hro, hfl⟩ := h.synced hz
  have hok2 := wRoll_ok h.ok l
  obtain ⟨d1, l1, hy⟩ : ∃ d1 l1, wSync d l = ((d1, l1), 0) := ⟨(wSync d l).1.1, (wSync d l).1.2, Prod.ext (Prod.ext rfl rfl) hz⟩
  rw [hy] at hC hPU hsu hus hro hsz
  dsimp only at hC hPU hsu hus hro hsz
  have hfl1 : d1.fs.length = d.fs.length := by rw [hy] at hfl; exact hfl
  have hnxt : l1.next = endN n cs + c.length := hC.next
  obtain ⟨P, f, hfs, hP, hn, hb, j, hj, hs, hq⟩ := hC.files
  have hpos := h.pos
  have hel := endN_le n cs
  have hlt : ∀ g ∈ d1.fs, Op.bytesLess g.name (wname ((endN n cs + c.length : Nat) : Int)) = true := by
    intro g hg
    rw [hfs] at hg
    rcases List.mem_append.1 hg with hg | hg
    · obtain ⟨m, m1, m2, m3, _⟩ := hP.names g hg
      rw [m3]
      exact wname_less (by omega) (by omega) hmost
    · rw [List.mem_singleton.1 hg, hn]
      exact wname_less (by omega) (by omega) hmost
  have hmk := dMake_end hC.ok hC.on (wname ((endN n cs + c.length : Nat) : Int)) (wname_good (by omega) hmost) hlt (by omega)
  obtain ⟨X, hX⟩ : ∃ X, X = d1.count fun d => { d with fs := insF (wname ((endN n cs + c.length : Nat) : Int)) d.fs } := ⟨_, rfl⟩
  rw [← hX] at hmk
  have hW : wRoll d l = if didE X.2 ≠ 0 then ((X.1, l1), didE X.2) else ((X.1, { l1 with segs := l1.segs ++ [⟨endN n cs + c.length, 0, 0⟩] }), 0) := by
    unfold wRoll
    rw [hy, if_neg (by simp)]
    unfold wRoll1
    rw [hnxt, hmk]
  rw [hW] at hok2 ⊢
  cases hd : d1.dead with
  | none =>
    rw [count_live _ hd] at hX
    subst hX
    have ht := tick_same d1
    rw [if_neg (by simp [didE])] at hok2 ⊢
    have hins : insF (wname ((endN n cs + c.length : Nat) : Int)) d1.tick.fs = d1.fs ++ [⟨wname ((endN n cs + c.length : Nat) : Int), [], 0⟩] := by rw [ht.1]; exact insF_end hlt
    have hP2 : FsOf n (cs ++ [c]) (P ++ [f]) := by
      refine hP.snoc hn hb ?_
      have hjc : j = c.length := by omega
      rw [hjc, endsN_len] at hs
      have := hC.ok.sure f (by rw [hfs]; simp)
      rw [hb] at this ⊢
      omega
    refine .inl ⟨rfl, ⟨hok2, ht.2.1.trans hC.on, ht.2.2.1.trans hC.fails, h.pos, ?_, ?_, fun y hy => (by cases hy), P ++ [f], _, by show insF _ _ = _; rw [hins, hfs], hP2, by rw [endN_snoc], rfl, 0, Nat.le_refl _, Nat.le_refl _, ?_⟩, (hPU.trans (PlanUse.tick hd)).of_plan rfl, ?_, ht.2.2.2.trans hro, hsz, ?_⟩
    · show l1.segs ++ _ = _
      rw [hC.segs, segsOf_snoc, endN_snoc]
      rfl
    · intro x hx
      rcases List.mem_append.1 hx with hx | hx
      · exact h.recs x hx
      · rw [List.mem_singleton.1 hx]; exact h.last
    · rw [endN_snoc]
      show l1.sure + 1 ≤ _
      omega
    · show usedF (insF _ _) = _
      rw [insF_used, ht.1]
      exact hus
    · show l1.sure ≤ _
      omega
  | some keep =>
    rw [count_dead _ hd] at hX
    subst hX
    rw [if_pos (by simp [didE])]
    refine .inr ⟨PlanUse.dead (k := 0) hPU hd, rfl, ?_⟩
    exact dead_of hC.ok hfs hP hn (by omega) hb (by rw [hC.segs]; simp) hj hs hq h.recs h.last keep
/-- A record is appended, or the power fails in it. -/
theorem wAppend_chain {n : Nat} {cs : List (List (List UInt8))} {c : List (List UInt8)} {d : Dk} {l : Lg} (h : Chn n cs c d l) (rec : List UInt8) (hrec : rec.length ≤ 262144) (hmost : endN n cs + c.length < 999999999999) (hroom : d.used + (wrap rec).length ≤ d.room) (hlen : (allOf c).length + (wrap rec).length ≤ 1048576)
    (hfew : c ≠ [] → l.size < (allOf c).length + (wrap rec).length → d.fs.length < 64) : AppQ n cs c d l rec (wAppend d l rec) := by
  have hU : wAppend d l rec = if wFault d l ≠ 0 then ((d, l), 0, wFault d l) else if 262144 < rec.length then ((d, l), 0, 3) else if 999999999999 ≤ l.next then ((d, l), 0, 151) else if 0 < l.last.count ∧ l.size < l.last.bytes + (wrap rec).length then (if (wRoll d l).2 ≠ 0 then ((wRoll d l).1, 0, (wRoll d l).2) else wPut (wRoll d l).1.1 (wRoll d l).1.2 (wrap rec)) else wPut d l (wrap rec) := rfl
  rw [h.fault, if_neg (by simp), if_neg (by omega), if_neg (by rw [h.next]; omega), h.lastS] at hU
  dsimp only at hU
  have hpos := h.pos
  have hsure : l.sure ≤ endN n cs + c.length := by
    obtain ⟨P, f, _, _, _, _, j, hj, _, hq⟩ := h.files
    omega
  by_cases hroll : 0 < c.length ∧ l.size < (allOf c).length + (wrap rec).length
  · have hc : c ≠ [] := List.length_pos_iff.1 hroll.1
    rw [if_pos hroll] at hU
    rcases wRoll_chain h hc (by omega) (hfew hc hroll.2) [rec] with ⟨hz, hC, hPU, hus, hro, hsz, hsu⟩ | ⟨hp, he, hD⟩
    · rw [if_neg (by omega)] at hU
      have he2 : endN n (cs ++ [c]) = endN n cs + c.length := endN_snoc n c cs
      rcases wPut_chain hC rec (by omega) (by rw [he2]; omega) (by show 0 + _ ≤ _; omega) (by rw [hus, hro]; exact hroom) with ⟨hC2, hr2, hP2, hu2, hro2, hs2, hsu2⟩ | ⟨hp2, he3, hD2⟩
      · rw [← hU] at hC2 hr2 hP2 hu2 hro2 hs2 hsu2
        refine .inl ⟨cs ++ [c], [rec], hC2, by simp, by simp, ?_, ?_, by rw [hu2, hus], by rw [hro2, hro], by rw [hs2, hsz], by rw [hsu2]; exact hsu, .inr ⟨rfl, rfl, hc, hroll.2⟩⟩
        · rw [hr2, he2]
          rfl
        · have := hPU.trans hP2
          rw [show 1 + 2 * ((cs ++ [c]).length - cs.length) = 2 + 1 by simp]
          exact this
      · rw [← hU] at he3 hD2
        refine .inr ⟨fun hp => hp2 (hPU.1 hp), he3, ?_⟩
        have e : (cs ++ [c]).flatten ++ ([] ++ [rec]) = cs.flatten ++ c ++ [rec] := by simp
        rw [e] at hD2
        exact hD2
    · rw [if_pos (by omega)] at hU
      rw [hU]
      exact .inr ⟨hp, by rw [he], hD⟩
  · rw [if_neg hroll] at hU
    rcases wPut_chain h rec (by omega) (by omega) hlen hroom with ⟨hC2, hr2, hP2, hu2, hro2, hs2, hsu2⟩ | ⟨hp2, he3, hD2⟩
    · rw [← hU] at hC2 hr2 hP2 hu2 hro2 hs2 hsu2
      refine .inl ⟨cs, c ++ [rec], hC2, by simp, by simp, hr2, by simpa using hP2, hu2, hro2, hs2, by rw [hsu2]; exact hsure, .inl ⟨rfl, rfl, ?_⟩⟩
      by_cases hc : c = []
      · exact .inl hc
      · have := List.length_pos_iff.2 hc
        exact .inr (by omega)
    · rw [← hU] at he3 hD2
      rw [← List.append_assoc] at hD2
      exact .inr ⟨hp2, he3, hD2⟩
end Go.Proofs.YtagghghoimpofaaDoor

/-
  Layer 16 in plain Lean: a log whose last segment was torn is opened, and goes on.
-/
namespace Go.Proofs.YtagghghoimpofaaDoor
open Go Go.RowKit Mono Num Crc
set_option linter.unusedVariables false
set_option linter.unusedSimpArgs false
set_option maxRecDepth 100000

theorem Chn.sync0 {n : Nat} {cs : List (List (List UInt8))} {c : List (List UInt8)} {d : Dk} {l : Lg} (h : Chn n cs c d l) (hp : d.plan = none) : (wSync d l).2 = 0 := by
  rcases wSync_chain h with ⟨P0, f0, hd0, _, _, _, _, he0⟩ | ⟨keep, hd, he⟩
  · rw [he0]
  · rw [dead_none hp] at hd
    cases hd
/-- Such a log is opened again: all its records are told. -/
theorem Chn.open_ {n : Nat} {cs : List (List (List UInt8))} {c : List (List UInt8)} {d : Dk} {l : Lg} (h : Chn n cs c d l) (hp : d.plan = none) (he : endN n cs ≤ 999999999999) (size : Nat) (h1 : 1 ≤ size) (h2 : size ≤ 1048576) :
    ∃ d' l', wOpen d (size : Int) = ⟨d', some l', cs.flatten ++ c, 0⟩ ∧ Chn n cs c d' l' ∧ d'.plan = none ∧ l'.sure + 1 = endN n cs + c.length ∧ d'.used = d.used ∧ d'.room = d.room ∧ l'.size = size ∧ d'.fs.length = d.fs.length ∧ ∃ P f, d'.fs = P ++ [f] ∧ FsOf n cs P ∧ f.name = wname (endN n cs : Nat) ∧ f.b = allOf c ∧ f.sure = f.b.length := by
  obtain ⟨P, f, hfs, hP, hn, hb, j, hj, hs, hq⟩ := h.files
  obtain ⟨k, hk⟩ := wOpen_chain h.ok h.on hp h.pos hfs hP hn he h.recs size h1 h2
  have hfr : frows f.b = (c, (allOf c).length, 0) := by rw [hb]; exact frows_allOf c h.last
  have hok := wOpen_ok h.ok (size : Int)
  rw [hfr] at hk
  rw [hk] at hok
  dsimp only at hk hok
  have htk : f.b.take (allOf c).length = f.b := by rw [hb, List.take_length]
  rw [htk] at hk hok
  have hpos := h.pos
  have hel := endN_le n cs
  refine ⟨_, _, hk, ⟨hok, h.on, rfl, h.pos, rfl, h.recs, h.last, P, _, rfl, hP, hn, hb, c.length, Nat.le_refl _, ?_, ?_⟩, hp, ?_, ?_, rfl, rfl, ?_, P, _, rfl, hP, hn, hb, ?_⟩
  · show endsN c c.length ≤ (allOf c).length
    rw [endsN_len]
    exact Nat.le_refl _
  · show endN n cs + c.length - 1 + 1 ≤ _
    omega
  · show endN n cs + c.length - 1 + 1 = _
    omega
  · show usedF (P ++ [_]) = usedF d.fs
    rw [hfs]
    unfold usedF
    simp
  · show (P ++ [_]).length = d.fs.length
    rw [hfs]
    simp
  · show (allOf c).length = f.b.length
    rw [hb]
theorem allOf_flatten_len : ∀ (cs : List (List (List UInt8))), (allOf cs.flatten).length = (cs.map fun c => (allOf c).length).sum
  | [] => rfl
  | c :: r => by
    have h : allOf (c ++ r.flatten) = allOf c ++ allOf r.flatten := by unfold allOf; rw [List.map_append, List.flatten_append]
    rw [List.flatten_cons, h, List.length_append, allOf_flatten_len r]
    rfl
def nm7 : List UInt8 := wname 7
def onB : List UInt8 := [111, 110]
theorem torn_plain (b : List UInt8) (hb : b.length ≤ 30000) :
    ∃ d1 d2 d3 l1 d4 l2 d5 l3 d6 l4, dMake (Dk.fresh 1048576) nm7 = (d1, 0) ∧ dAppend d1 nm7 b = (d2, 0) ∧ wOpen d2 1000 = ⟨d3, some l1, (frows b).1, 0⟩ ∧ dRead d3 nm7 = (b.take (frows b).2.1, 0) ∧ l1.first = 7 ∧ l1.next = 7 + (frows b).1.length ∧
      wAppend d3 l1 onB = ((d4, l2), 7 + (frows b).1.length, 0) ∧ wSync d4 l2 = ((d5, l3), 0) ∧ wOpen d5 1000 = ⟨d6, some l4, (frows b).1 ++ [onB], 0⟩ := by
  have hm : dMake (Dk.fresh 1048576) nm7 = ((⟨1048576, [⟨nm7, [], 0⟩], true, 1, 0, none⟩ : Dk), 0) := by kernel_rfl
  have hok1 : (⟨1048576, [⟨nm7, [], 0⟩], true, 1, 0, none⟩ : Dk).Ok := by
    have := dMake_ok (fresh_ok (room := 1048576) (by decide)) nm7
    rw [hm] at this
    exact this
  have ha : dAppend (⟨1048576, [⟨nm7, [], 0⟩], true, 1, 0, none⟩ : Dk) nm7 b = ((⟨1048576, [⟨nm7, b, 0⟩], true, 2, 0, none⟩ : Dk), 0) := by
    have := dAppend_some hok1 rfl (P := []) (f := ⟨nm7, [], 0⟩) rfl b (by show 0 + _ ≤ _; omega) (by show 0 + _ ≤ 1048576; omega)
    rw [this]
    rfl
  have hok2 : (⟨1048576, [⟨nm7, b, 0⟩], true, 2, 0, none⟩ : Dk).Ok := by
    have := dAppend_ok hok1 nm7 b
    rw [ha] at this
    exact this
  obtain ⟨hf1, hf2⟩ := frows_form b
  obtain ⟨hf3, hf4⟩ := frows_len b
  obtain ⟨k, hk⟩ := wOpen_chain hok2 rfl rfl (n := 7) (cs := []) (P := []) (f := ⟨nm7, b, 0⟩) (by decide) rfl rfl rfl (by show 7 + 0 ≤ _; decide) (fun c hc => by cases hc) 1000 (by decide) (by decide)
  have hok3 := wOpen_ok hok2 1000
  have hk' : wOpen (⟨1048576, [⟨nm7, b, 0⟩], true, 2, 0, none⟩ : Dk) 1000 = _ := hk
  rw [hk'] at hok3
  obtain ⟨d3, hd3⟩ : ∃ d3, d3 = (⟨1048576, [⟨nm7, b.take (frows b).2.1, (frows b).2.1⟩], true, k, 0, none⟩ : Dk) := ⟨_, rfl⟩
  obtain ⟨l1, hl1⟩ : ∃ l1, l1 = (⟨[⟨7, (frows b).1.length, (frows b).2.1⟩], 1000, 7 + (frows b).1.length - 1, 0⟩ : Lg) := ⟨_, rfl⟩
  have hO : wOpen (⟨1048576, [⟨nm7, b, 0⟩], true, 2, 0, none⟩ : Dk) 1000 = ⟨d3, some l1, (frows b).1, 0⟩ := by rw [hk', hd3, hl1]; rfl
  have hok3' : d3.Ok := by rw [hd3]; exact hok3
  have hnl : (allOf (frows b).1).length = (frows b).2.1 := by rw [← hf1, List.length_take, Nat.min_eq_left hf4]
  have hC : Chn 7 [] (frows b).1 d3 l1 := by
    refine ⟨hok3', by rw [hd3], by rw [hd3, hl1], by decide, by rw [hl1, hnl]; rfl, fun x hx => (by cases hx), hf2, [], ⟨nm7, b.take (frows b).2.1, (frows b).2.1⟩, by rw [hd3]; rfl, rfl, rfl, hf1, (frows b).1.length, Nat.le_refl _, ?_, ?_⟩
    · show endsN _ _ ≤ (frows b).2.1
      rw [endsN_len, hnl]
      exact Nat.le_refl _
    · rw [hl1]
      show 7 + _ - 1 + 1 ≤ 7 + 0 + _
      omega
  have hwo : (wrap onB).length = 8 := by kernel_rfl
  have hus : d3.used = (frows b).2.1 := by
    rw [hd3]
    show usedF [_] = _
    unfold usedF
    simp [List.length_take, Nat.min_eq_left hf4]
  have hpl : d3.plan = none := by rw [hd3]
  have hAQ := wAppend_chain hC onB (by decide) (by show 7 + 0 + _ < _; omega) (by rw [hus, hwo, hd3]; show _ + 8 ≤ 1048576; omega) (by rw [hnl, hwo]; omega) (fun _ _ => by rw [hd3]; show 1 < 64; decide)
  rcases hAQ with ⟨cs', c', hC4, hfl, hne, hr, hPU, hus4, hro4, hsz4, hsu4, _⟩ | ⟨hp, _⟩
  rotate_left
  · exact absurd hpl hp
  have hpl4 := hPU.1 hpl
  generalize hA : wAppend d3 l1 onB = A at *
  obtain ⟨⟨d4, l2⟩, r4⟩ := A
  dsimp only at hC4 hr hPU hus4 hro4 hsz4 hsu4 hpl4
  have hz := hC4.sync0 hpl4
  obtain ⟨hC5, hPU5, -⟩ := hC4.synced hz
  have hpl5 := hPU5.1 hpl4
  generalize hS : wSync d4 l2 = S at *
  obtain ⟨⟨d5, l3⟩, r5⟩ := S
  dsimp only at hz hC5 hPU5 hpl5
  subst hz
  have hend : endN 7 cs' ≤ 999999999999 := by
    have h1 : (cs'.flatten ++ c').length = (([] : List (List (List UInt8))).flatten ++ (frows b).1 ++ [onB]).length := by rw [hfl]
    simp only [List.length_append, List.flatten_nil, List.length_nil, List.length_singleton] at h1
    unfold endN
    omega
  obtain ⟨d6, l4, hO6, -⟩ := hC5.open_ hpl5 hend 1000 (by decide) (by decide)
  refine ⟨_, _, d3, l1, d4, l2, d5, l3, d6, l4, hm, ha, hO, ?_, ?_, ?_, ?_, hS, ?_⟩
  · have hfd := find_ok hok3' (f := ⟨nm7, b.take (frows b).2.1, (frows b).2.1⟩) (by rw [hd3]; simp)
    unfold dRead
    rw [hC.on, if_neg (by decide)]
    have : findF nm7 d3.fs = some ⟨nm7, b.take (frows b).2.1, (frows b).2.1⟩ := hfd
    rw [this]
  · rw [hl1]; rfl
  · have := hC.next
    exact this
  · rw [hA, hr]
    rfl
  · have e : (cs'.flatten ++ c') = (frows b).1 ++ [onB] := by rw [hfl]; rfl
    rw [← e]
    exact hO6
end Go.Proofs.YtagghghoimpofaaDoor
