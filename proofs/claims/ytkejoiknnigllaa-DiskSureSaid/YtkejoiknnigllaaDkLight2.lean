/-
  Layer 15: Light of acts: whatever it answers, a true answer bounds what there is.
-/
import Derived.Test.YtkejoiknnigllaaDkLight
import Derived.Test.YtkejoiknnigllaaDkMade
namespace Go.Proofs.Ytkejoiknnigllaa
open Go Go.RowKit Mono
set_option linter.unusedVariables false
set_option linter.unusedSimpArgs false
set_option maxRecDepth 100000
set_option maxHeartbeats 2000000

/-- How many bytes all data have. -/
def sumD (l : List (Act × Value)) : Nat := (l.map fun p => p.1.data.length).sum
theorem sumD_step {l : List (Act × Value)} {k : Nat} {p : Act × Value} (h : l[k]? = some p) : sumD (l.take (k + 1)) = sumD (l.take k) + p.1.data.length := by
  unfold sumD
  rw [List.take_add_one, h]
  simp
theorem light_sum (v : Value) (l : List (Act × Value)) (W : World) (hl : As W v l) :
    Calls Try.prog 8 #[v] W fun e w' => (∃ q : Bool, e = .returned (.bool q) ∧ (q = true → LightA l ∧ sumD l ≤ 20000)) ∧ Ext W w' := by
  obtain ⟨A, c, rfl, g1, g2, g4⟩ := hl.at_
  have H4 := Lib.hid g4
  have HIN := Lib.hid hl.in_
  unfold maxLen at g2
  clear g4 hl
  go_enter Try.func8, Try.ntmps8
  go_wp2_with fail
  go_loopw [3, 4] (fun n i wr => ∃ (k : Nat) (z : Int), k ≤ l.length ∧ i = .int .i64 k ∧ n = .int .i64 z ∧ 0 ≤ z ∧ z ≤ 20001 ∧ (z ≤ 20000 → ((20 * (k : Int) ≤ z) ∧ (sumD (l.take k) : Int) ≤ z) ∧ ∀ (j : Nat) (x : Act × Value), j < k → l[j]? = some x → ((x.1.name.length : Nat) : Int) ≤ z ∧ ((x.1.data.length : Nat) : Int) ≤ z) ∧ Ext W wr) (fun _ i _ => l.length - (intOf i).toNat)
  case atStart => exact ⟨0, 0, Nat.zero_le _, rfl, rfl, by omega, by omega, (fun _ => ⟨⟨by omega, by simp [sumD]⟩, fun j x hj => absurd hj (by omega)⟩), Ext.refl _⟩
  case round =>
    obtain ⟨i, z, hi, rfl, rfl, hz0, hz1, hnl, hx⟩ := hrel
    have HNL := Lib.hid hnl
    clear hnl
    by_cases hlt : i < l.length
    · by_cases hn : z ≤ 20000
      · obtain ⟨b, off, rfl, hb, hc⟩ := H4.out (by omega)
        obtain ⟨⟨p, x⟩, hget⟩ : ∃ p, l[i]? = some p := ⟨_, List.getElem?_eq_getElem hlt⟩
        have hin := HIN.out (p, x) (List.mem_of_getElem? hget)
        dsimp only at hin
        have hnm := hin.2.1
        obtain ⟨Ad, cd, hv, d1, d2, _, _⟩ := hin.1.open_
        subst hv
        unfold maxLen at hnm d2
        have c1 : W.cell? ⟨b, off + i * 5 + 1, none⟩ = some (strV p.name) := by have := hc i _ hget 1 _ rfl; rwa [← Nat.add_assoc] at this
        have c2 : W.cell? ⟨b, off + i * 5 + 2, none⟩ = some (.slice Ad p.data.length cd) := by have := hc i _ hget 2 _ rfl; rwa [← Nat.add_assoc] at this
        have C1 := Lib.hid c1
        have C2 := Lib.hid c2
        have HG := Lib.hid hget
        have HIX := Lib.hid hi
        clear hc hget hin c1 c2
        go_wp2_with fail
        have c1 := C1.out
        have c2 := C2.out
        refine wp_region_mono (by kernel_rfl) (by kernel_rfl) ?_
        refine tele_move rfl (.inl rfl) rfl (isV (.int .i64 z)) (fun ρ w' h => h) ?_
        refine tele_call rfl rfl Try.func36 (by kernel_rfl) (isUp (z + 20)) (fun _ _ _ => rfl) ?_ ?_
        · rintro ρ w' he ⟨h15, -⟩
          have e15 : ρ 15 = (.int .i64 z) := h15
          simp only [evR, List.map_toArray, List.map_cons, List.map_nil, e15]
          refine (add_up z 20 (z) _ hz0 hz1 (by omega) (by omega) (fun _ => by omega)).mono ?_
          rintro e w'' ⟨⟨y', rfl, y1, y2, y3⟩, rfl⟩
          exact ⟨_, rfl, Ext.refl _, y', rfl, y1, y2, fun h => by have := y3 h; omega⟩
        refine tele_move rfl (.inl rfl) rfl (isV (.slice (some ⟨b, off, none⟩) l.length c)) (fun ρ w' h => h) ?_
        refine tele_move rfl (.inl rfl) rfl (isV (.int .i64 (i : Int))) (fun ρ w' h => h) ?_
        refine tele_val rfl (.pointer (some ⟨b, off + i * 5, none⟩)) (fun _ _ _ => rfl) ?_ ?_
        · rintro ρ w' he ⟨h17, h18, -⟩
          have e17 : ρ 17 = (.slice (some ⟨b, off, none⟩) l.length c) := h17
          have e18 : ρ 18 = (.int .i64 (i : Int)) := h18
          exact index_at 5 rfl Try.underlying22 e17 e18 (by omega) (by kernel_rfl)
        refine tele_val rfl (.pointer (some ⟨b, off + i * 5 + 1, none⟩)) (fun _ _ _ => rfl) ?_ ?_
        · rintro ρ w' he ⟨h19, -⟩
          have e19 : ρ 19 = (.pointer (some ⟨b, off + i * 5, none⟩)) := h19
          simp [execOp, evR, e19, go_sem]
        refine tele_val rfl (strV p.name) (fun _ _ _ => rfl) ?_ ?_
        · rintro ρ w' he ⟨h20, -⟩
          have e20 : ρ 20 = (.pointer (some ⟨b, off + i * 5 + 1, none⟩)) := h20
          have c := (hx.trans he).cell (p := ⟨b, off + i * 5 + 1, none⟩) hb |>.trans c1
          simp [execOp, evR, e20, c, go_sem]
        refine tele_val rfl (.int .i64 ((p.name.length : Nat) : Int)) (fun _ _ _ => rfl) ?_ ?_
        · rintro ρ w' he ⟨h21, -⟩
          have e21 : ρ 21 = (strV p.name) := h21
          have hsz := strV_size p.name
          unfold strV at e21
          simp [execOp, evR, e21, go_sem]
        refine tele_call rfl rfl Try.func36 (by kernel_rfl) (isUp (z + 20 + ((p.name.length : Nat) : Int))) (fun _ _ _ => rfl) ?_ ?_
        · rintro ρ w' he ⟨h16, h22, -⟩
          have e16 : (isUp (z + 20)).rel (ρ 16) w' := h16
          have e22 : ρ 22 = (.int .i64 ((p.name.length : Nat) : Int)) := h22
          simp only [evR, List.map_toArray, List.map_cons, List.map_nil, e22]
          obtain ⟨y, q, z0, z1, zl⟩ := e16
          simp only [q]
          refine (add_up y ((p.name.length : Nat) : Int) (z + 20) _ z0 z1 (by omega) (by omega) zl).mono ?_
          rintro e w'' ⟨⟨y', rfl, y1, y2, y3⟩, rfl⟩
          exact ⟨_, rfl, Ext.refl _, y', rfl, y1, y2, fun h => by have := y3 h; omega⟩
        refine tele_move rfl (.inl rfl) rfl (isV (.slice (some ⟨b, off, none⟩) l.length c)) (fun ρ w' h => h) ?_
        refine tele_move rfl (.inl rfl) rfl (isV (.int .i64 (i : Int))) (fun ρ w' h => h) ?_
        refine tele_val rfl (.pointer (some ⟨b, off + i * 5, none⟩)) (fun _ _ _ => rfl) ?_ ?_
        · rintro ρ w' he ⟨h24, h25, -⟩
          have e24 : ρ 24 = (.slice (some ⟨b, off, none⟩) l.length c) := h24
          have e25 : ρ 25 = (.int .i64 (i : Int)) := h25
          exact index_at 5 rfl Try.underlying22 e24 e25 (by omega) (by kernel_rfl)
        refine tele_val rfl (.pointer (some ⟨b, off + i * 5 + 2, none⟩)) (fun _ _ _ => rfl) ?_ ?_
        · rintro ρ w' he ⟨h26, -⟩
          have e26 : ρ 26 = (.pointer (some ⟨b, off + i * 5, none⟩)) := h26
          simp [execOp, evR, e26, go_sem]
        refine tele_val rfl (.slice Ad p.data.length cd) (fun _ _ _ => rfl) ?_ ?_
        · rintro ρ w' he ⟨h27, -⟩
          have e27 : ρ 27 = (.pointer (some ⟨b, off + i * 5 + 2, none⟩)) := h27
          have c := (hx.trans he).cell (p := ⟨b, off + i * 5 + 2, none⟩) hb |>.trans c2
          simp [execOp, evR, e27, c, go_sem]
        refine tele_val rfl (.int .i64 ((p.data.length : Nat) : Int)) (fun _ _ _ => rfl) ?_ ?_
        · rintro ρ w' he ⟨h28, -⟩
          have e28 : ρ 28 = (.slice Ad p.data.length cd) := h28
          simp [execOp, evR, e28, go_sem]
        refine tele_call rfl rfl Try.func36 (by kernel_rfl) (isUp (z + 20 + ((p.name.length : Nat) : Int) + ((p.data.length : Nat) : Int))) (fun _ _ _ => rfl) ?_ ?_
        · rintro ρ w' he ⟨h23, h29, -⟩
          have e23 : (isUp (z + 20 + ((p.name.length : Nat) : Int))).rel (ρ 23) w' := h23
          have e29 : ρ 29 = (.int .i64 ((p.data.length : Nat) : Int)) := h29
          simp only [evR, List.map_toArray, List.map_cons, List.map_nil, e29]
          obtain ⟨y, q, z0, z1, zl⟩ := e23
          simp only [q]
          refine (add_up y ((p.data.length : Nat) : Int) (z + 20 + ((p.name.length : Nat) : Int)) _ z0 z1 (by omega) (by omega) zl).mono ?_
          rintro e w'' ⟨⟨y', rfl, y1, y2, y3⟩, rfl⟩
          exact ⟨_, rfl, Ext.refl _, y', rfl, y1, y2, fun h => by have := y3 h; omega⟩
        refine tele_move rfl (.inr rfl) rfl (isUp (z + 20 + ((p.name.length : Nat) : Int) + ((p.data.length : Nat) : Int))) (fun ρ w' h => h) ?_
        refine tele_nil ?_
        rintro ρ w' hext ⟨f3, f30, f29, f28, f27, f26, f25, f24, f23, f22, f21, f20, f19, f18, f17, f16, f15, -⟩
        replace f15 : ρ 15 = (.int .i64 z) := f15
        replace f16 : (isUp (z + 20)).rel (ρ 16) w' := f16
        replace f17 : ρ 17 = (.slice (some ⟨b, off, none⟩) l.length c) := f17
        replace f18 : ρ 18 = (.int .i64 (i : Int)) := f18
        replace f19 : ρ 19 = (.pointer (some ⟨b, off + i * 5, none⟩)) := f19
        replace f20 : ρ 20 = (.pointer (some ⟨b, off + i * 5 + 1, none⟩)) := f20
        replace f21 : ρ 21 = (strV p.name) := f21
        replace f22 : ρ 22 = (.int .i64 ((p.name.length : Nat) : Int)) := f22
        replace f23 : (isUp (z + 20 + ((p.name.length : Nat) : Int))).rel (ρ 23) w' := f23
        replace f24 : ρ 24 = (.slice (some ⟨b, off, none⟩) l.length c) := f24
        replace f25 : ρ 25 = (.int .i64 (i : Int)) := f25
        replace f26 : ρ 26 = (.pointer (some ⟨b, off + i * 5, none⟩)) := f26
        replace f27 : ρ 27 = (.pointer (some ⟨b, off + i * 5 + 2, none⟩)) := f27
        replace f28 : ρ 28 = (.slice Ad p.data.length cd) := f28
        replace f29 : ρ 29 = (.int .i64 ((p.data.length : Nat) : Int)) := f29
        replace f30 : (isUp (z + 20 + ((p.name.length : Nat) : Int) + ((p.data.length : Nat) : Int))).rel (ρ 30) w' := f30
        replace f3 : (isUp (z + 20 + ((p.name.length : Nat) : Int) + ((p.data.length : Nat) : Int))).rel (ρ 3) w' := f3
        simp only [puts, Act.put, List.setIfInBounds_toArray, List.set_cons_zero, List.set_cons_succ]
        obtain ⟨y, f3, q0, q1, q2⟩ := (show (isUp (z + 20 + ((p.name.length : Nat) : Int) + ((p.data.length : Nat) : Int))).rel (ρ 3) w' from f3)
        rw [f3]
        clear f3 f15 f16 f17 f18 f19 f20 f21 f22 f23 f24 f25 f26 f27 f28 f29 f30 c1 c2
        have HQ := Lib.hid q2
        have HXE := Lib.hid (hx.trans hext)
        clear q2 hext
        go_wp2_with fail
        go_roundw
        case rel => exact ⟨i + 1, y, by omega, by simp, rfl, q0, q1, (fun h => by
          obtain ⟨⟨a1, a0⟩, a2⟩ := HNL.out hn
          have b1 := HQ.out h
          have b0 := sumD_step HG.out
          dsimp only at b0
          refine ⟨⟨by omega, by omega⟩, fun j x hj hx' => ?_⟩
          rcases Nat.lt_or_ge j i with h' | h'
          · have := a2 j x h' hx'
            omega
          · obtain rfl : j = i := by omega
            rw [HG.out] at hx'
            injection hx' with hx'
            subst hx'
            dsimp only
            omega), HXE.out⟩
        case measure => simp [intOf]; omega
      · go_wp2_with fail
        go_ret
        exact ⟨.inl rfl, hx⟩
    · obtain rfl : i = l.length := by omega
      by_cases hn : z ≤ 20000
      · go_wp2_with fail
        go_ret
        refine ⟨⟨_, rfl, fun _ => ?_⟩, hx⟩
        obtain ⟨⟨a1, a0⟩, a2⟩ := HNL.out hn
        rw [List.take_length] at a0
        refine ⟨⟨by omega, fun p hp => ?_⟩, by omega⟩
        obtain ⟨j, hj⟩ := List.getElem?_of_mem hp
        have := a2 j p (List.getElem?_eq_some_iff.1 hj).1 hj
        omega
      · go_wp2_with fail
        go_ret
        exact ⟨.inl rfl, hx⟩
end Go.Proofs.Ytkejoiknnigllaa

/-
  Layer 15: how many bytes acts can lay down.
-/
namespace Go.Proofs.Ytkejoiknnigllaa
open Go Go.RowKit Mono
set_option linter.unusedVariables false
set_option linter.unusedSimpArgs false
set_option maxRecDepth 100000

theorem lose_used (d : Dk) (k : Int) : (d.lose k).used ≤ d.used := used_map_le fun f _ => by simp only [Fil.lose, List.length_take]; omega
theorem count_used {d : Dk} {act : Dk → Dk} {n : Nat} (h : ∀ p o, (act { d with plan := p, ops := o }).used ≤ n) (hd : d.used ≤ n) : (d.count act).1.used ≤ n := by
  unfold Dk.count
  split
  · exact Nat.le_trans (lose_used d _) hd
  · exact h _ _
  · exact h d.plan _
theorem filter_used (fs : List Fil) (q : Fil → Bool) : usedF (fs.filter q) ≤ usedF fs := by
  induction fs with
  | nil => exact Nat.le_refl _
  | cons a r ih =>
    unfold usedF at *
    rw [List.filter_cons]
    split
    · simp only [List.map_cons, List.sum_cons]; omega
    · simp only [List.map_cons, List.sum_cons]; omega
theorem ins_used (name : List UInt8) (fs : List Fil) : usedF (insF name fs) = usedF fs := by
  induction fs with
  | nil => rfl
  | cons a r ih =>
    unfold insF
    split
    · simp [usedF]
    · unfold usedF at *
      simp only [List.map_cons, List.sum_cons]
      omega
theorem dMake_used (d : Dk) (s : List UInt8) : (dMake d s).1.used ≤ d.used := by
  unfold dMake
  repeat' split
  all_goals first | exact Nat.le_refl _ | exact count_used (fun p o => Nat.le_of_eq (ins_used s d.fs)) (Nat.le_refl _)
theorem dSync_used (d : Dk) (s : List UInt8) : (dSync d s).1.used ≤ d.used := by
  unfold dSync
  repeat' split
  all_goals first | exact Nat.le_refl _ | exact count_used (fun p o => used_map_le fun f _ => by dsimp only; split <;> exact Nat.le_refl _) (Nat.le_refl _)
theorem dCut_used (d : Dk) (s : List UInt8) (n : Int) : (dCut d s n).1.used ≤ d.used := by
  unfold dCut
  repeat' split
  all_goals first | exact Nat.le_refl _ | exact count_used (fun p o => used_map_le fun f _ => by dsimp only; split <;> simp [List.length_take] <;> omega) (Nat.le_refl _)
theorem dDrop_used (d : Dk) (s : List UInt8) : (dDrop d s).1.used ≤ d.used := by
  unfold dDrop
  repeat' split
  all_goals first | exact Nat.le_refl _ | exact count_used (fun p o => filter_used d.fs _) (Nat.le_refl _)
theorem updF_used (name b : List UInt8) : ∀ fs : List Fil, fs.Pairwise (fun a b => a.name ≠ b.name) → usedF (updF name (fun f => { f with b := f.b ++ b }) fs) ≤ usedF fs + b.length := by
  intro fs
  induction fs with
  | nil => intro _; simp [updF, usedF]
  | cons x r ih =>
    intro hp
    obtain ⟨h3, h4⟩ := List.pairwise_cons.1 hp
    unfold usedF updF at *
    simp only [List.map_cons, List.sum_cons]
    by_cases hx : (x.name == name) = true
    · rw [if_pos hx]
      have hx' : x.name = name := by simpa using hx
      have off : r.map (fun f => if (f.name == name) = true then ({ f with b := f.b ++ b } : Fil) else f) = r := by
        conv => rhs; rw [← List.map_id r]
        refine List.map_congr_left fun y hy => ?_
        rw [if_neg]
        · rfl
        · intro hy2
          exact h3 y hy (by rw [hx']; simpa using Eq.symm (by simpa using hy2 : y.name = name))
      rw [off]
      simp
      omega
    · rw [if_neg hx]
      have := ih h4
      dsimp only at this
      omega
theorem dAppend_used {d : Dk} (h : d.Ok) (s b : List UInt8) : (dAppend d s b).1.used ≤ d.used + b.length := by
  have key := updF_used s b d.fs (h.sorted.imp fun {a b} hab e => by rw [e, bl_irrefl] at hab; cases hab)
  unfold dAppend
  repeat' split
  all_goals first | exact Nat.le_add_right _ _ | exact count_used (act := id) (fun p o => key) key
theorem actD_used {d : Dk} (h : d.Ok) (a : Act) : (actD d a).used ≤ d.used + a.data.length := by
  unfold actD
  repeat' split
  · exact Nat.le_trans (dMake_used d _) (Nat.le_add_right _ _)
  · exact dAppend_used h _ _
  · exact Nat.le_trans (dSync_used d _) (Nat.le_add_right _ _)
  · exact Nat.le_trans (dCut_used d _ _) (Nat.le_add_right _ _)
  · exact Nat.le_trans (dDrop_used d _) (Nat.le_add_right _ _)
  · unfold dArm; repeat' split
    all_goals exact Nat.le_add_right _ _
  · unfold dFail; split
    · exact Nat.le_add_right _ _
    · exact Nat.le_trans (lose_used d _) (Nat.le_add_right _ _)
  · exact Nat.le_add_right _ _
  · exact Nat.le_add_right _ _
theorem actsP_used {l : List (Act × Value)} : ∀ {d : Dk}, d.Ok → (actsP l d).used ≤ d.used + sumD l := by
  induction l with
  | nil => intro d _; exact Nat.le_add_right _ _
  | cons p r ih =>
    intro d h
    have h1 := ih (actD_ok h p.1)
    have h2 := actD_used h p.1
    have h3 : sumD (p :: r) = p.1.data.length + sumD r := by simp [sumD]
    have h4 : actsP (p :: r) d = actsP r (actD d p.1) := rfl
    rw [h4, h3]
    omega
end Go.Proofs.Ytkejoiknnigllaa

/-
  Layer 15: what was synced is there, and behind it a beginning of what was appended since: the plain law.
-/
namespace Go.Proofs.Ytkejoiknnigllaa
open Go Go.RowKit Mono
set_option linter.unusedVariables false
set_option linter.unusedSimpArgs false
set_option maxRecDepth 100000

theorem count_free {d : Dk} (h : d.plan = none) (act : Dk → Dk) : d.count act = (act { d with ops := d.ops + 1 }, 0) := by
  unfold Dk.count
  rw [h]
theorem findF_ins (s : List UInt8) (fs : List Fil) (h : findF s fs = none) : findF s (insF s fs) = some ⟨s, [], 0⟩ := by
  induction fs with
  | nil => simp [insF, findF]
  | cons a r ih =>
    have ha : (a.name == s) = false := by
      unfold findF at h
      rw [List.find?_cons] at h
      cases hq : (a.name == s)
      · rfl
      · rw [hq] at h; cases h
    have hr : findF s r = none := by
      unfold findF at h ⊢
      rw [List.find?_cons, ha] at h
      exact h
    unfold insF
    split
    · simp [findF]
    · unfold findF at ih ⊢
      rw [List.find?_cons, ha]
      exact ih hr
theorem findF_upd (s : List UInt8) (g : Fil → Fil) (hg : ∀ f, (g f).name = f.name) (fs : List Fil) : findF s (updF s g fs) = (findF s fs).map g := by
  induction fs with
  | nil => rfl
  | cons a r ih =>
    unfold findF updF at *
    rw [List.map_cons, List.find?_cons, List.find?_cons]
    cases hq : (a.name == s)
    · simp only [Bool.false_eq_true, if_false]
      rw [hq]
      exact ih
    · simp only [if_true]
      rw [hg, hq]
      rfl
theorem findF_drop (s : List UInt8) (fs : List Fil) : findF s (fs.filter fun f => !(f.name == s)) = none := by
  unfold findF
  rw [List.find?_eq_none]
  intro f hf
  have := (List.mem_filter.1 hf).2
  simpa using this
def sureS : List UInt8 := [115, 117, 114, 101]
/-- A disk with power and without a plan, on which a file is found. -/
structure Has (d : Dk) (s : List UInt8) (f : Fil) : Prop where
  on : d.on = true
  plan : d.plan = none
  find : findF s d.fs = some f
theorem make_has {d : Dk} {s : List UInt8} (hs : dname s = true) (h1 : d.on = true) (h2 : d.plan = none) (h3 : findF s d.fs = none) (h4 : d.fs.length < 64) : (dMake d s).2 = 0 ∧ Has (dMake d s).1 s ⟨s, [], 0⟩ := by
  unfold dMake
  rw [h1, hs, h3, if_neg (by decide), if_neg (by decide), if_neg (by decide), if_neg (by omega), count_free h2]
  exact ⟨rfl, h1, h2, findF_ins s d.fs h3⟩
theorem append_has {d : Dk} {s b : List UInt8} {f : Fil} (h : Has d s f) (h1 : f.b.length + b.length ≤ 1048576) (h2 : d.used + b.length ≤ d.room) : (dAppend d s b).2 = 0 ∧ Has (dAppend d s b).1 s { f with b := f.b ++ b } := by
  unfold dAppend
  rw [h.on, if_neg (by decide), h.find]
  dsimp only
  rw [if_neg (by omega), if_neg (by omega), count_free (d := d.upd s fun f => { f with b := f.b ++ b }) h.plan]
  exact ⟨rfl, h.on, h.plan, (findF_upd s (fun f => { f with b := f.b ++ b }) (fun f => rfl) d.fs).trans (by rw [h.find]; rfl)⟩
theorem sync_has {d : Dk} {s : List UInt8} {f : Fil} (h : Has d s f) : (dSync d s).2 = 0 ∧ Has (dSync d s).1 s { f with sure := f.b.length } := by
  unfold dSync
  rw [h.on, if_neg (by decide), h.find]
  dsimp only
  rw [count_free h.plan]
  exact ⟨rfl, h.on, h.plan, (findF_upd s (fun f => { f with sure := f.b.length }) (fun f => rfl) d.fs).trans (by rw [h.find]; rfl)⟩
theorem drop_free {d : Dk} {s : List UInt8} (h1 : d.on = true) (h2 : d.plan = none) : (dDrop d s).1.on = true ∧ (dDrop d s).1.plan = none ∧ findF s (dDrop d s).1.fs = none ∧ (dDrop d s).1.fs.length ≤ d.fs.length ∧ (dDrop d s).1.room = d.room := by
  unfold dDrop
  rw [h1, if_neg (by decide)]
  cases hq : findF s d.fs with
  | none => exact ⟨h1, h2, hq, Nat.le_refl _, rfl⟩
  | some f =>
    dsimp only
    rw [count_free h2]
    exact ⟨h1, h2, findF_drop s d.fs, List.length_filter_le _ _, rfl⟩
theorem findF_map (s : List UInt8) (g : Fil → Fil) (hg : ∀ f, (g f).name = f.name) (fs : List Fil) : findF s (fs.map g) = (findF s fs).map g := by
  induction fs with
  | nil => rfl
  | cons a r ih =>
    unfold findF at *
    rw [List.map_cons, List.find?_cons, List.find?_cons, hg]
    cases hq : (a.name == s)
    · exact ih
    · rfl
/-- What is read behind a failure. -/
theorem fail_read {d : Dk} {s : List UInt8} {f : Fil} (h : Has d s f) (keep : Int) : dFail d keep = (d.lose keep, 0) ∧ dRead (dPower (d.lose keep)) s = (f.b.take (keepN keep f), 0) := by
  refine ⟨by unfold dFail; rw [h.on]; rfl, ?_⟩
  have hf : findF s (dPower (d.lose keep)).fs = some (f.lose keep) := (findF_map s (Fil.lose keep) (fun f => rfl) d.fs).trans (by rw [h.find]; rfl)
  unfold dRead
  rw [show (dPower (d.lose keep)).on = true from rfl, hf]
  rfl
end Go.Proofs.Ytkejoiknnigllaa

/-
  Layer 15: acts keep a disk's room.
-/
namespace Go.Proofs.Ytkejoiknnigllaa
open Go Go.RowKit Mono
set_option linter.unusedVariables false
set_option linter.unusedSimpArgs false

theorem count_room {d : Dk} {act : Dk → Dk} {n : Nat} (h : ∀ p o, (act { d with plan := p, ops := o }).room = n) (hd : d.room = n) : (d.count act).1.room = n := by
  unfold Dk.count
  split
  · exact hd
  · exact h _ _
  · exact h d.plan _
theorem actD_room (d : Dk) (a : Act) : (actD d a).room = d.room := by
  unfold actD dMake dAppend dSync dCut dDrop dArm dFail
  repeat' split
  all_goals first | rfl | exact count_room (fun _ _ => rfl) rfl
theorem actsP_room (l : List (Act × Value)) : ∀ d : Dk, (actsP l d).room = d.room := by
  induction l with
  | nil => intro d; rfl
  | cons p r ih => intro d; exact (ih _).trans (actD_room d p.1)
end Go.Proofs.Ytkejoiknnigllaa

/-
  Layer 15: what was synced is there: the plain law, joined.
-/
namespace Go.Proofs.Ytkejoiknnigllaa
open Go Go.RowKit Mono
set_option linter.unusedVariables false
set_option linter.unusedSimpArgs false

theorem dMake_room (d : Dk) (s : List UInt8) : (dMake d s).1.room = d.room := by
  unfold dMake
  repeat' split
  all_goals first | rfl | exact count_room (fun _ _ => rfl) rfl
theorem dAppend_room (d : Dk) (s b : List UInt8) : (dAppend d s b).1.room = d.room := by
  unfold dAppend
  repeat' split
  all_goals first | rfl | exact count_room (fun _ _ => rfl) rfl
theorem dSync_room (d : Dk) (s : List UInt8) : (dSync d s).1.room = d.room := by
  unfold dSync
  repeat' split
  all_goals first | rfl | exact count_room (fun _ _ => rfl) rfl
def sd1 (D : Dk) : Dk := (dDrop D sureS).1
def sd2 (D : Dk) : Dk := (dMake (sd1 D) sureS).1
def sd3 (D : Dk) (first : List UInt8) : Dk := (dAppend (sd2 D) sureS first).1
def sd4 (D : Dk) (first : List UInt8) : Dk := (dSync (sd3 D first) sureS).1
def sd5 (D : Dk) (first more : List UInt8) : Dk := (dAppend (sd4 D first) sureS more).1
theorem sure_all {D : Dk} {first more : List UInt8} (hok : D.Ok) (h1 : D.on = true) (h2 : D.plan = none) (h3 : D.fs.length < 64) (h4 : D.used ≤ 20000) (h5 : D.room = 1048576) (l1 : first.length ≤ 2500) (l2 : more.length ≤ 2500) (keep : Int) :
    dMake (sd1 D) sureS = (sd2 D, 0) ∧ dAppend (sd2 D) sureS first = (sd3 D first, 0) ∧ dSync (sd3 D first) sureS = (sd4 D first, 0) ∧ dAppend (sd4 D first) sureS more = (sd5 D first more, 0) ∧
    dFail (sd5 D first more) keep = ((sd5 D first more).lose keep, 0) ∧ dRead (dPower ((sd5 D first more).lose keep)) sureS = (first ++ more.take (max 0 (min keep (more.length : Int))).toNat, 0) := by
  obtain ⟨a1, a2, a3, a4, a5⟩ := drop_free (s := sureS) h1 h2
  obtain ⟨b1, b2⟩ := make_has (s := sureS) (d := sd1 D) (by decide) a1 a2 a3 (Nat.lt_of_le_of_lt a4 h3)
  have u1 : (sd1 D).used ≤ 20000 := Nat.le_trans (dDrop_used D sureS) h4
  have u2 : (sd2 D).used ≤ 20000 := Nat.le_trans (dMake_used _ sureS) u1
  have r1 : (sd1 D).room = 1048576 := by rw [← h5]; exact a5
  have r2 : (sd2 D).room = 1048576 := by rw [← r1]; exact dMake_room _ _
  have k1 : (sd1 D).Ok := dDrop_ok hok sureS
  have k2 : (sd2 D).Ok := dMake_ok k1 sureS
  obtain ⟨c1, c2⟩ := append_has (b := first) b2 (by simp only [List.length_nil]; omega) (by show (sd2 D).used + _ ≤ (sd2 D).room; omega)
  have u3 : (sd3 D first).used ≤ 20000 + first.length := Nat.le_trans (dAppend_used k2 sureS first) (by omega)
  have r3 : (sd3 D first).room = 1048576 := by rw [← r2]; exact dAppend_room _ _ _
  obtain ⟨d1, d2⟩ := sync_has c2
  have u4 : (sd4 D first).used ≤ 20000 + first.length := Nat.le_trans (dSync_used _ sureS) u3
  have r4 : (sd4 D first).room = 1048576 := by rw [← r3]; exact dSync_room _ _
  obtain ⟨e1, e2⟩ := append_has (b := more) d2 (by simp only [List.nil_append]; omega) (by show (sd4 D first).used + _ ≤ (sd4 D first).room; omega)
  obtain ⟨f1, f2⟩ := fail_read e2 keep
  refine ⟨Prod.ext rfl b1, Prod.ext rfl c1, Prod.ext rfl d1, Prod.ext rfl e1, f1, ?_⟩
  refine f2.trans ?_
  congr 1
  show (([] ++ first) ++ more).take (([] ++ first).length + (max 0 (min keep (((([] ++ first) ++ more).length : Int) - (([] ++ first).length : Int)))).toNat) = _
  simp only [List.nil_append]
  rw [show (((first ++ more).length : Int) - (first.length : Int)) = (more.length : Int) by rw [List.length_append]; omega]
  rw [List.take_append, List.take_of_length_le (by omega)]
  congr 2
  omega
end Go.Proofs.Ytkejoiknnigllaa
