/-
  Layer 16: what holds of every log, and of its disk.
-/
import Derived.Test.YtagghghoimpofaaDoorWalOpen
namespace Go.Proofs.YtagghghoimpofaaDoor
open Go Go.RowKit Mono
set_option linter.unusedVariables false
set_option linter.unusedSimpArgs false
set_option maxRecDepth 100000

/-- What holds of a log's segments behind c operations. -/
structure LOk (c : Nat) (l : Lg) : Prop where
  ne : l.segs ≠ []
  frm : ∀ s ∈ l.segs, 1 ≤ s.frm ∧ s.frm ≤ 999999999999
  nx : l.next ≤ 1000010000000
  bytes : l.last.bytes ≤ 2000000 + c * 300000
  len : l.segs.length ≤ 64 + c
theorem LOk.last_ {c : Nat} {l : Lg} (h : LOk c l) : 1 ≤ l.last.frm ∧ l.last.frm ≤ 999999999999 := h.frm _ (Lg.last_mem h.ne)
theorem LOk.pos {c : Nat} {l : Lg} (h : LOk c l) : 1 ≤ l.next := Nat.le_trans h.last_.1 (Nat.le_add_right _ _)
theorem LOk.of_segs {c : Nat} {l l' : Lg} (h : LOk c l) (e : l'.segs = l.segs) : LOk c l' := by
  have e1 : l'.last = l.last := by unfold Lg.last; rw [e]
  exact ⟨by rw [e]; exact h.ne, by rw [e]; exact h.frm, by unfold Lg.next; rw [e1]; exact h.nx, by rw [e1]; exact h.bytes, by rw [e]; exact h.len⟩
theorem LOk.more {c c' : Nat} {l : Lg} (h : LOk c l) (hc : c ≤ c') : LOk c' l := ⟨h.ne, h.frm, h.nx, Nat.le_trans h.bytes (by omega), Nat.le_trans h.len (by omega)⟩
theorem LOk.nx9 {c : Nat} {l : Lg} (h : LOk c l) : l.next ≤ 8000000000000000000 := Nat.le_trans h.nx (by decide)
theorem wSync_lok {c : Nat} {d : Dk} {l : Lg} (h : LOk c l) : LOk c (wSync d l).1.2 := h.of_segs (wSync_segs d l).1
theorem wRoll_lok {c : Nat} {d : Dk} {l : Lg} (h : LOk c l) (hm : l.next ≤ 999999999999) : LOk (c + 1) (wRoll d l).1.2 := by
  by_cases hz : (wRoll d l).2 = 0
  · obtain ⟨h1, -, -⟩ := wRoll_done d l hz
    have hl : (wRoll d l).1.2.last = ⟨l.next, 0, 0⟩ := Lg.last_snoc _ _ h1
    refine ⟨by rw [h1]; simp, ?_, by unfold Lg.next; rw [hl]; show l.next + 0 ≤ _; have := h.nx; omega, by rw [hl]; exact Nat.zero_le _, by rw [h1, List.length_append, List.length_singleton]; have := h.len; omega⟩
    rw [h1]
    intro s hs
    rcases List.mem_append.1 hs with hs | hs
    · exact h.frm s hs
    · rw [List.mem_singleton.1 hs]
      exact ⟨h.pos, hm⟩
  · have hs : (wRoll d l).1.2.segs = l.segs := by
      unfold wRoll at hz ⊢
      split
      · exact (wSync_segs d l).1
      · rename_i hq
        rw [if_neg hq] at hz
        unfold wRoll1 at hz ⊢
        split
        · exact (wSync_segs d l).1
        · rename_i hq2
          rw [if_neg hq2] at hz
          exact absurd rfl hz
    exact (h.of_segs hs).more (Nat.le_succ _)
theorem up_lok {c n : Nat} {l : Lg} (h : LOk c l) (hm : l.next < 999999999999) (hn : n ≤ 300000) : LOk (c + 1) (l.up n) := by
  obtain ⟨h1, h2, h3⟩ := Lg.up_segs l n h.ne
  refine ⟨h1, ?_, by rw [Lg.up_next l n h.ne]; omega, by rw [h3]; show _ + n ≤ _; have := h.bytes; omega, by rw [h2]; have := h.len; omega⟩
  intro s hs
  unfold Lg.up at hs
  rcases List.mem_append.1 hs with hs | hs
  · exact h.frm s (List.dropLast_subset _ hs)
  · rw [List.mem_singleton.1 hs]
    exact h.last_
theorem wPut_lok {c : Nat} {d : Dk} {l : Lg} {f : List UInt8} (h : LOk c l) (hm : l.next < 999999999999) (hn : f.length ≤ 300000) : LOk (c + 1) (wPut d l f).1.2 := by
  unfold wPut
  split
  · exact h.more (Nat.le_succ _)
  · exact up_lok h hm hn
theorem wAppend_lok {c : Nat} {d : Dk} {l : Lg} {rec : List UInt8} (h : LOk c l) : LOk (c + 2) (wAppend d l rec).1.2 := by
  unfold wAppend
  split
  · exact h.more (by omega)
  · split
    · exact h.more (by omega)
    · split
      · exact h.more (by omega)
      · have hw := wrap_len rec
        have hr := wRoll_lok (d := d) h (by omega)
        split
        · split
          · exact hr.more (by omega)
          · rename_i hz
            obtain ⟨h1, -, -⟩ := wRoll_done d l (by omega)
            have hl : (wRoll d l).1.2.last = ⟨l.next, 0, 0⟩ := Lg.last_snoc _ _ h1
            exact wPut_lok hr (by unfold Lg.next; rw [hl]; show l.next + 0 < _; omega) (by omega)
        · exact (wPut_lok h (by omega) (by omega)).more (by omega)
theorem wPut_ok {d : Dk} (h : d.Ok) (l : Lg) (f : List UInt8) : (wPut d l f).1.1.Ok := by
  unfold wPut
  split
  · exact dAppend_ok h _ _
  · exact dAppend_ok h _ _
theorem wPut_small {c : Nat} {d : Dk} (h : d.SmallC c) (l : Lg) (f : List UInt8) : (wPut d l f).1.1.SmallC (c + 1) := by
  unfold wPut
  split
  · exact h.grow (dAppend_grow _ _ _)
  · exact h.grow (dAppend_grow _ _ _)
theorem wAppend_ok {d : Dk} (h : d.Ok) (l : Lg) (rec : List UInt8) : (wAppend d l rec).1.1.Ok := by
  unfold wAppend
  repeat' split
  · exact h
  · exact h
  · exact h
  · exact wRoll_ok h l
  · exact wPut_ok (wRoll_ok h l) _ _
  · exact wPut_ok h _ _
theorem wAppend_small {c : Nat} {d : Dk} (h : d.SmallC c) (l : Lg) (rec : List UInt8) : (wAppend d l rec).1.1.SmallC (c + 3) := by
  unfold wAppend
  repeat' split
  · exact h.more (by omega)
  · exact h.more (by omega)
  · exact h.more (by omega)
  · exact (wRoll_small h l).more (by omega)
  · exact wPut_small (wRoll_small h l) _ _
  · exact (wPut_small h _ _).more (by omega)
theorem wReadA_segs {d : Dk} : ∀ (nums : List Nat) (ss : List WSeg) (a : List (List UInt8)) (ss' : List WSeg) (a' : List (List UInt8)) (t : Bool), wReadA d ss a nums = some (ss', a', t) → ss'.length = ss.length + nums.length ∧ ∀ s ∈ ss', s ∈ ss ∨ ∃ m ∈ nums, s = wseg d m
  | [], ss, a, ss', a', t, h => by
    unfold wReadA at h
    injection h with h
    injection h with h1 h
    subst h1
    exact ⟨rfl, fun s hs => .inl hs⟩
  | [n], ss, a, ss', a', t, h => by
    unfold wReadA at h
    injection h with h
    injection h with h1 h
    subst h1
    refine ⟨by simp, fun s hs => ?_⟩
    rcases List.mem_append.1 hs with hs | hs
    · exact .inl hs
    · exact .inr ⟨n, List.mem_singleton_self n, List.mem_singleton.1 hs⟩
  | n :: m :: r, ss, a, ss', a', t, h => by
    rw [wReadA] at h
    split at h
    · cases h
    · obtain ⟨h1, h2⟩ := wReadA_segs (m :: r) _ _ ss' a' t h
      refine ⟨by rw [h1]; simp; omega, fun s hs => ?_⟩
      rcases h2 s hs with hs | ⟨q, hq, rfl⟩
      · rcases List.mem_append.1 hs with hs | hs
        · exact .inl hs
        · exact .inr ⟨n, List.mem_cons_self, List.mem_singleton.1 hs⟩
      · exact .inr ⟨q, List.mem_cons_of_mem _ hq, rfl⟩
theorem wMend_ok {d : Dk} (h : d.Ok) (s : WSeg) (t : Bool) : (wMend d s t).1.Ok := by
  unfold wMend
  repeat' split
  · exact dCut_ok h _ _
  · exact dSync_ok (dCut_ok h _ _) _
  · exact dSync_ok h _
theorem wMend_small {c : Nat} {d : Dk} (h : d.SmallC c) (s : WSeg) (t : Bool) : (wMend d s t).1.SmallC (c + 2) := by
  unfold wMend
  repeat' split
  · exact (h.grow (dCut_grow _ _ _)).more (by omega)
  · exact (h.grow (dCut_grow _ _ _)).grow (dSync_grow _ _)
  · exact (h.grow (dSync_grow _ _)).more (by omega)
theorem wnums_mem {d : Dk} {n : Nat} (h : n ∈ wnums d) : 1 ≤ n ∧ n ≤ 999999999999 := by
  unfold wnums at h
  obtain ⟨h1, h2⟩ := List.mem_filter.1 h
  obtain ⟨f, -, rfl⟩ := List.mem_map.1 h1
  exact ⟨(by simpa using h2 : 0 < wnum f.name), wnum_lt _⟩
theorem wnums_len {d : Dk} (h : d.Ok) : (wnums d).length ≤ 64 := by
  unfold wnums
  refine Nat.le_trans (List.length_filter_le _ _) ?_
  rw [List.length_map]
  exact h.few
/-- A log that was opened. -/
theorem wOpen_lok {d : Dk} (hok : d.Ok) (size : Int) {l : Lg} (h : (wOpen d size).l = some l) : LOk 0 l := by
  unfold wOpen at h
  split at h
  · cases h
  · split at h
    · cases h
    · cases hw : wReadA d [] [] (wnums d) with
      | none => rw [hw] at h; cases h
      | some p =>
        obtain ⟨ss, a, t⟩ := p
        rw [hw] at h
        dsimp only at h
        split at h
        · split at h
          · cases h
          · unfold wOpened at h
            injection h with h
            subst h
            exact ⟨by simp, by simp, by show 1 + 0 ≤ _; decide, by show 0 ≤ _; decide, by show 1 ≤ _; decide⟩
        · rename_i hse
          split at h
          · cases h
          · unfold wOpened at h
            injection h with h
            subst h
            obtain ⟨h1, h2⟩ := wReadA_segs _ _ _ _ _ _ hw
            obtain ⟨h3, h4, h5, h6⟩ := wread_last hok hw hse
            have hl := wnums_len hok
            refine ⟨hse, fun s hs => ?_, ?_, ?_, ?_⟩
            · rcases h2 s hs with hs | ⟨m, hm, rfl⟩
              · cases hs
              · exact wnums_mem hm
            · show (ss.getLastD ⟨1, 0, 0⟩).frm + (ss.getLastD ⟨1, 0, 0⟩).count ≤ _
              omega
            · show (ss.getLastD ⟨1, 0, 0⟩).bytes ≤ _
              omega
            · show ss.length ≤ _
              rw [h1]
              simpa using hl
theorem wOpen_ok {d : Dk} (hok : d.Ok) (size : Int) : (wOpen d size).d.Ok := by
  unfold wOpen
  split
  · exact hok
  · split
    · exact hok
    · cases wReadA d [] [] (wnums d) with
      | none => exact hok
      | some p =>
        obtain ⟨ss, a, t⟩ := p
        dsimp only
        split
        · split
          · exact dMake_ok hok _
          · exact dMake_ok hok _
        · split
          · exact wMend_ok hok _ _
          · exact wMend_ok hok _ _
theorem wOpen_small {c : Nat} {d : Dk} (h : d.SmallC c) (size : Int) : (wOpen d size).d.SmallC (c + 2) := by
  unfold wOpen
  split
  · exact h.more (by omega)
  · split
    · exact h.more (by omega)
    · cases wReadA d [] [] (wnums d) with
      | none => exact h.more (by omega)
      | some p =>
        obtain ⟨ss, a, t⟩ := p
        dsimp only
        split
        · split
          · exact (h.grow (dMake_grow _ _)).more (by omega)
          · exact (h.grow (dMake_grow _ _)).more (by omega)
        · split
          · exact wMend_small h _ _
          · exact wMend_small h _ _
end Go.Proofs.YtagghghoimpofaaDoor
