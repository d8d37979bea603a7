/-
  Layer 12 in plain Lean: what is put is read, and what is read is put as it was.
-/
import Derived.Test.YtocdifjdeifclaaChGet
namespace Go.Proofs.Ytocdifjdeifclaa
open Go Go.RowKit Mono Num
set_option linter.unusedVariables false
set_option linter.unusedSimpArgs false

/-! ### What is put is read -/
theorem ntextM_put (most : Int) (n t : List UInt8) (h : (n.length : Int) ≤ most) (h2 : n.length ≤ 4611686018427387903) : ntext (nputText n ++ t) most = (n, (nputText n).length, 0) := by
  have e : nget (nputText n ++ t) = (n.length, nsize (n.length : Int), 0) := by
    unfold nputText
    rw [List.append_assoc]
    exact nget_nput n.length _ (by omega)
  have hl : (nputText n).length = nsize (n.length : Int) + n.length := by unfold nputText; rw [List.length_append, nput_length]
  unfold ntext
  rw [e]
  dsimp only
  rw [if_pos rfl, if_neg (by omega), if_neg (by rw [List.length_append, hl]; omega), hl]
  congr 1
  unfold nputText
  rw [List.append_assoc, List.drop_append_of_le_length (by rw [nput_length]; exact Nat.le_refl _), List.drop_eq_nil_of_le (by rw [nput_length]; exact Nat.le_refl _), List.nil_append, List.take_left']
  rfl
theorem code_nat {a b : Int} (h : sgood a b = true) : ∃ m : Nat, scode a b = (m : Int) ∧ m ≤ 4611686018427387903 ∧ ∀ tail, sget (nput (m : Int) ++ tail) = ((a, b), (nput (m : Int)).length, 0) := by
  rcases sgood_iff.1 h with ⟨rfl, rfl⟩ | ⟨h1, h2, h3⟩
  · refine ⟨0, scode_zero, by decide, fun tail => ?_⟩
    unfold sget
    rw [nget_nput 0 tail (by decide), nput_length]
    rfl
  · refine ⟨(2 * a + b - 1).toNat, by rw [scode_good ⟨h1, h2, h3⟩]; omega, by omega, fun tail => ?_⟩
    unfold sget
    rw [nget_nput _ tail (by omega), nput_length]
    have e1 : (((2 * a + b - 1).toNat : Nat) : Int) / 2 = a := by omega
    have e2 : (((2 * a + b - 1).toNat : Nat) : Int) % 2 + 1 = b := by omega
    simp only [ne_eq, not_true_eq_false, if_false]
    rw [if_neg (by omega), e1, e2, if_pos h]
theorem drop_step {b p r : List UInt8} {a : Nat} (h : b.drop a = p ++ r) : b.drop (a + p.length) = r := by
  rw [← List.drop_drop, h, List.drop_left']
  rfl
theorem rdNum_put {b r : List UInt8} {a n : Nat} (h : b.drop a = nput (n : Int) ++ r) (hn : n ≤ 4611686018427387903) : rdNum b (a, false) = (n, a + (nput (n : Int)).length, false) := by
  unfold rdNum
  dsimp only
  rw [h, nget_nput n r hn, nput_length]
  rfl
theorem rdText_put {b r s : List UInt8} {a : Nat} {most : Int} (h : b.drop a = nputText s ++ r) (hm : (s.length : Int) ≤ most) (hs : s.length ≤ 4611686018427387903) : rdText b most (a, false) = (s, a + (nputText s).length, false) := by
  unfold rdText
  dsimp only
  rw [h, ntextM_put most s r hm hs]
  rfl
theorem rdWrite_put {b r : List UInt8} {a : Nat} {x : Wr} {n : Nat} (h : b.drop a = wput x ++ r) (hx : wok n x = true) (hn : n ≤ 100000) : rdWrite b (a, false) = (x, a + (wput x).length, false) := by
  obtain ⟨k, g, d, z⟩ := x
  have hw := wok_spec hx
  dsimp only at hw
  obtain ⟨g', rfl⟩ : ∃ m : Nat, g = m := ⟨g.toNat, by omega⟩
  have hgone : d = true → z = [] := by
    unfold wok at hx
    intro hd
    simp only [Bool.and_eq_true, Bool.not_eq_true', Bool.and_eq_false_iff] at hx
    rcases hx.2 with h1 | h1
    · rw [hd] at h1; cases h1
    · simpa using h1
  unfold wput at h ⊢
  dsimp only at h ⊢
  rw [List.append_assoc, List.append_assoc] at h
  have h1 := rdText_put h (most := 32) (by omega) (by omega)
  have d1 := drop_step h
  have h2 := rdNum_put d1 (by omega)
  have d2 := drop_step d1
  unfold rdWrite
  simp only [h1, h2]
  cases d
  · rw [if_neg (by simp), List.append_assoc] at d2
    have h3 := rdNum_put (n := 0) d2 (by omega)
    have d3 := drop_step d2
    have h4 := rdText_put d3 (most := 64) (by omega) (by omega)
    rw [show ((0 : Nat) : Int) = 0 from rfl] at h3
    simp only [h3, h4, if_true]
    simp only [List.length_append, Bool.false_eq_true, if_false, Nat.add_assoc]
  · obtain rfl := hgone rfl
    rw [if_pos rfl] at d2
    have h3 := rdNum_put (n := 1) d2 (by omega)
    rw [show ((1 : Nat) : Int) = 1 from rfl] at h3
    simp only [h3]
    rw [if_neg (by decide)]
    simp only [List.length_append, if_true, Nat.add_assoc]
theorem rdAll_put (n : Nat) (hn : n ≤ 100000) : ∀ (ws : List Wr) (b r : List UInt8) (a : Nat), b.drop a = wputs ws ++ r → (∀ x ∈ ws, wok n x = true) → rdAll b ws.length (a, false) = (ws, a + (wputs ws).length, false)
  | [], b, r, a, _, _ => by simp [rdAll, wputs]
  | x :: ws, b, r, a, h, hw => by
    have e : wputs (x :: ws) = wput x ++ wputs ws := by unfold wputs; simp
    rw [e, List.append_assoc] at h
    have h1 := rdWrite_put h (hw x (by simp)) hn
    have h2 := rdAll_put n hn ws b r _ (drop_step h) fun y hy => hw y (by simp [hy])
    rw [List.length_cons, rdAll_step _ _ _ rfl, h1]
    dsimp only
    rw [h2, e, List.length_append, Nat.add_assoc]
theorem chead_spec {c : Ch} (h : chead c = true) : (c.site = 1 ∨ c.site = 2) ∧ 1 ≤ c.seq ∧ c.seq ≤ 1099511627776 ∧ sgood c.sn c.ss = true ∧ vgood c.va c.vb = true := by
  unfold chead at h
  simp only [Bool.and_eq_true, Bool.or_eq_true, beq_iff_eq, decide_eq_true_eq] at h
  exact ⟨h.1.1.1.1.1.1, h.1.1.1.1.1.2, h.1.1.1.1.2, h.1.1.2, h.1.2⟩
theorem cgood_parts {gs : List Grp} {c : Ch} (h : cgood gs c = 0) : pgood gs = 0 ∧ chead c = true ∧ 1 ≤ c.writes.length ∧ c.writes.length ≤ 8 ∧ ∀ x ∈ c.writes, wok gs.length x = true := by
  unfold cgood at h
  by_cases hp : pgood gs = 0
  · rw [if_neg (by omega)] at h
    cases hc : chead c
    · rw [if_pos hc] at h; cases h
    · rw [if_neg (by simp [hc])] at h
      by_cases hn : c.writes.length < 1 ∨ 8 < c.writes.length
      · rw [if_pos hn] at h; cases h
      · rw [if_neg hn] at h
        cases hf : cgoodF gs.length none c.writes
        · rw [if_neg (by simp [hf])] at h; cases h
        · exact ⟨hp, rfl, by omega, by omega, cgoodF_all _ _ _ hf⟩
  · rw [if_pos hp] at h
    exact absurd h hp
theorem pgood_len {gs : List Grp} (h : pgood gs = 0) : gs.length ≤ 4 := by
  unfold pgood at h
  by_cases h0 : gs.length = 0
  · omega
  · rw [if_neg h0] at h
    by_cases h4 : 4 < gs.length
    · rw [if_pos h4] at h; cases h
    · omega
theorem cput_len (gs : List Grp) (c : Ch) : (cput gs c).length ≤ 2000 := by
  unfold cput
  split
  · rename_i h
    obtain ⟨_, _, _, hn8, hw⟩ := cgood_parts h
    have h1 := nsize_le c.site
    have h2 := nsize_le c.seq
    have h3 := nsize_le (scode c.sn c.ss)
    have h4 := vput_len c.va c.vb
    have h5 := nsize_le (c.writes.length : Int)
    have h6 := wputs_len c.writes fun x hx => ⟨(wok_spec (hw x hx)).1, (wok_spec (hw x hx)).2.2.2⟩
    simp only [List.length_append, nput_length]
    omega
  · simp
/-- **What is put is read.** -/
theorem cget_cput (gs : List Grp) (c : Ch) (t : List UInt8) (h : cgood gs c = 0) : cgetP gs (cput gs c ++ t) = (c, (cput gs c).length, 0) := by
  obtain ⟨hp, hh, hn1, hn8, hw⟩ := cgood_parts h
  obtain ⟨hs, hq1, hq2, hsg, hvg⟩ := chead_spec hh
  obtain ⟨m, hm, hm1, hback⟩ := code_nat hsg
  have hput : cput gs c = nput c.site ++ nput c.seq ++ nput (scode c.sn c.ss) ++ vput c.va c.vb ++ nput (c.writes.length : Int) ++ wputs c.writes := by unfold cput; rw [if_pos h]
  have hgl := pgood_len hp
  obtain ⟨site, seq, sn, ss, va, vb, ws⟩ := c
  dsimp only at *
  obtain ⟨s', rfl⟩ : ∃ k : Nat, site = k := ⟨site.toNat, by omega⟩
  obtain ⟨q', rfl⟩ : ∃ k : Nat, seq = k := ⟨seq.toNat, by omega⟩
  rw [hm] at hput
  generalize hB : cput gs ⟨(s' : Int), (q' : Int), sn, ss, va, vb, ws⟩ ++ t = B
  have d0 : B.drop 0 = nput (s' : Int) ++ (nput (q' : Int) ++ (nput (m : Int) ++ (vput va vb ++ (nput (ws.length : Int) ++ (wputs ws ++ t))))) := by
    rw [List.drop_zero, ← hB, hput]; simp only [List.append_assoc]
  have h1 := rdNum_put d0 (by omega)
  have d1 := drop_step d0
  have h2 := rdNum_put d1 (by omega)
  have d2 := drop_step d1
  have h3 : rdStamp B (0 + (nput (s' : Int)).length + (nput (q' : Int)).length, false) = ((sn, ss), 0 + (nput (s' : Int)).length + (nput (q' : Int)).length + (nput (m : Int)).length, false) := by
    unfold rdStamp
    dsimp only
    rw [d2, hback]
    rfl
  have d3 := drop_step d2
  have h4 : rdVec B (0 + (nput (s' : Int)).length + (nput (q' : Int)).length + (nput (m : Int)).length, false) = ((va, vb), 0 + (nput (s' : Int)).length + (nput (q' : Int)).length + (nput (m : Int)).length + (vput va vb).length, false) := by
    unfold rdVec
    dsimp only
    rw [d3, vget_vput va vb _ hvg]
    rfl
  have d4 := drop_step d3
  have h5 := rdNum_put d4 (by omega)
  have d5 := drop_step d4
  have h6 := rdAll_put gs.length (by omega) ws B t _ d5 hw
  have hr : rdChange B = (⟨(s' : Int), (q' : Int), sn, ss, va, vb, ws⟩, (cput gs ⟨(s' : Int), (q' : Int), sn, ss, va, vb, ws⟩).length, false) := by
    unfold rdChange rdHead
    simp only [h1, h2, h3, h4, h5]
    rw [show min ws.length 9 = ws.length by omega, h6]
    dsimp only
    rw [hput]
    simp only [List.length_append, Nat.zero_add]
  unfold cgetP
  rw [if_neg (by omega), hr, if_neg (by rw [h]; simp)]

/-! ### What is read is put as it was -/
theorem ntextM_form {l : List UInt8} {most : Int} (h : (ntext l most).2.2 = 0) : (ntext l most).2.1 ≤ l.length ∧ nputText (ntext l most).1 = l.take (ntext l most).2.1 := by
  unfold ntext at h ⊢
  split at h
  · rename_i h0
    rw [if_pos h0]
    split at h
    · simp at h
    · rename_i h1
      rw [if_neg h1]
      split at h
      · simp at h
      · rename_i h2
        rw [if_neg h2]
        have hb := nget_form_back l (nget l).1 (nget l).2.1 (by rw [← h0])
        obtain ⟨b1, b2, b3, b4⟩ := hb
        generalize (nget l).1 = n at *
        generalize (nget l).2.1 = k at *
        dsimp only
        have hl : ((l.drop k).take n).length = n := by rw [List.length_take, List.length_drop]; omega
        refine ⟨by omega, ?_⟩
        unfold nputText
        rw [hl, b4, List.take_add]
  · rename_i h0
    exact absurd h h0
theorem sget_form {l : List UInt8} (h : (sget l).2.2 = 0) : (sget l).2.1 ≤ l.length ∧ nput (scode (sget l).1.1 (sget l).1.2) = l.take (sget l).2.1 := by
  unfold sget at h ⊢
  by_cases h0 : (nget l).2.2 = 0
  · have hb := nget_form_back l (nget l).1 (nget l).2.1 (by rw [← h0])
    obtain ⟨b1, b2, b3, b4⟩ := hb
    simp only [h0, ne_eq, not_true_eq_false, if_false] at h ⊢
    by_cases hz : (nget l).1 = 0
    · rw [if_pos hz]
      rw [hz] at b4
      exact ⟨b2, by dsimp only; rw [scode_zero]; exact b4⟩
    · rw [if_neg hz] at h ⊢
      by_cases hs : sgood (((nget l).1 : Int) / 2) (((nget l).1 : Int) % 2 + 1) = true
      · rw [if_pos hs]
        refine ⟨b2, ?_⟩
        dsimp only
        have hc : scode (((nget l).1 : Int) / 2) (((nget l).1 : Int) % 2 + 1) = ((nget l).1 : Int) := by
          rcases sgood_iff.1 hs with ⟨_, h2⟩ | h2
          · omega
          · rw [scode_good h2]; omega
        rw [hc]
        exact b4
      · rw [if_neg hs] at h
        simp at h
  · simp only [h0, ne_eq, not_false_eq_true, if_true] at h
theorem vget_form {l : List UInt8} (h : (vget l).2.2 = 0) : (vget l).2.1 ≤ l.length ∧ vput (vget l).1.1 (vget l).1.2 = l.take (vget l).2.1 := by
  unfold vget at h ⊢
  by_cases h0 : (nget l).2.2 = 0
  · rw [if_pos h0] at h ⊢
    obtain ⟨b1, b2, b3, b4⟩ := nget_form_back l (nget l).1 (nget l).2.1 (by rw [← h0])
    unfold vget2 at h ⊢
    by_cases h1 : (nget (l.drop (nget l).2.1)).2.2 = 0
    · rw [if_pos h1] at h ⊢
      obtain ⟨c1, c2, c3, c4⟩ := nget_form_back _ (nget (l.drop (nget l).2.1)).1 (nget (l.drop (nget l).2.1)).2.1 (by rw [← h1])
      rw [List.length_drop] at c2
      by_cases hv : vgood ((nget l).1 : Int) ((nget (l.drop (nget l).2.1)).1 : Int) = true
      · rw [if_pos hv]
        refine ⟨by dsimp only; omega, ?_⟩
        dsimp only
        unfold vput
        rw [if_pos hv, b4, c4, List.take_add]
      · rw [if_neg hv] at h
        simp at h
    · rw [if_neg h1] at h
      exact absurd h h1
  · rw [if_neg h0] at h
    exact absurd h h0
theorem bad_or {p q : Bool} (h : (p || q) = false) : p = false ∧ q = false := by cases p <;> cases q <;> simp_all
theorem beq_zero {n : Nat} (h : (!(n == 0)) = false) : n = 0 := by simpa using h
theorem take_more (b : List UInt8) (a k : Nat) : b.take (a + k) = b.take a ++ (b.drop a).take k := List.take_add
theorem rdNum_form {b : List UInt8} {s : Nat × Bool} (hs : s.1 ≤ b.length) (h : (rdNum b s).2.2 = false) : s.2 = false ∧ (rdNum b s).2.1 ≤ b.length ∧ b.take (rdNum b s).2.1 = b.take s.1 ++ nput ((rdNum b s).1 : Int) := by
  unfold rdNum at h ⊢
  dsimp only at h ⊢
  obtain ⟨h1, h2⟩ := bad_or h
  have h3 := beq_zero h2
  obtain ⟨_, c2, _, c4⟩ := nget_form_back _ (nget (b.drop s.1)).1 (nget (b.drop s.1)).2.1 (by rw [← h3])
  rw [List.length_drop] at c2
  exact ⟨h1, by omega, by rw [take_more, c4]⟩
theorem rdText_form {b : List UInt8} {most : Int} {s : Nat × Bool} (hs : s.1 ≤ b.length) (h : (rdText b most s).2.2 = false) : s.2 = false ∧ (rdText b most s).2.1 ≤ b.length ∧ b.take (rdText b most s).2.1 = b.take s.1 ++ nputText (rdText b most s).1 := by
  unfold rdText at h ⊢
  dsimp only at h ⊢
  obtain ⟨h1, h2⟩ := bad_or h
  obtain ⟨c2, c4⟩ := ntextM_form (beq_zero h2)
  rw [List.length_drop] at c2
  exact ⟨h1, by omega, by rw [take_more, c4]⟩
theorem rdStamp_form {b : List UInt8} {s : Nat × Bool} (hs : s.1 ≤ b.length) (h : (rdStamp b s).2.2 = false) : s.2 = false ∧ (rdStamp b s).2.1 ≤ b.length ∧ b.take (rdStamp b s).2.1 = b.take s.1 ++ nput (scode (rdStamp b s).1.1 (rdStamp b s).1.2) := by
  unfold rdStamp at h ⊢
  dsimp only at h ⊢
  obtain ⟨h1, h2⟩ := bad_or h
  obtain ⟨c2, c4⟩ := sget_form (beq_zero h2)
  rw [List.length_drop] at c2
  exact ⟨h1, by omega, by rw [take_more, c4]⟩
theorem rdVec_form {b : List UInt8} {s : Nat × Bool} (hs : s.1 ≤ b.length) (h : (rdVec b s).2.2 = false) : s.2 = false ∧ (rdVec b s).2.1 ≤ b.length ∧ b.take (rdVec b s).2.1 = b.take s.1 ++ vput (rdVec b s).1.1 (rdVec b s).1.2 := by
  unfold rdVec at h ⊢
  dsimp only at h ⊢
  obtain ⟨h1, h2⟩ := bad_or h
  obtain ⟨c2, c4⟩ := vget_form (beq_zero h2)
  rw [List.length_drop] at c2
  exact ⟨h1, by omega, by rw [take_more, c4]⟩
theorem rdWrite_form {b : List UInt8} {s : Nat × Bool} (hs : s.1 ≤ b.length) (h : (rdWrite b s).2.2 = false) : s.2 = false ∧ (rdWrite b s).2.1 ≤ b.length ∧ b.take (rdWrite b s).2.1 = b.take s.1 ++ wput (rdWrite b s).1 := by
  have i1 := (rdText_in b 32 s hs).1
  have i2 := (rdNum_in b _ i1).1
  have i3 := (rdNum_in b _ i2).1
  have f1 := rdText_form (most := 32) hs
  have f2 := rdNum_form i1
  have f3 := rdNum_form i2
  have f4 := rdText_form (most := 64) i3
  unfold rdWrite at h ⊢
  dsimp only at h ⊢
  generalize rdText b 32 s = t1 at *
  generalize rdNum b t1.2 = t2 at *
  generalize rdNum b t2.2 = t3 at *
  generalize rdText b 64 t3.2 = t4 at *
  by_cases h0 : t3.1 = 0
  · rw [if_pos h0] at h ⊢
    dsimp only at h ⊢
    obtain ⟨g4, g5, g6⟩ := f4 h
    obtain ⟨g3, _, k3⟩ := f3 g4
    obtain ⟨g2, _, k2⟩ := f2 g3
    obtain ⟨g1, _, k1⟩ := f1 g2
    refine ⟨g1, g5, ?_⟩
    rw [g6, k3, k2, k1, h0]
    simp only [wput, Bool.false_eq_true, if_false, List.append_assoc]
    rfl
  · rw [if_neg h0] at h ⊢
    by_cases h1 : t3.1 = 1
    · rw [if_pos h1] at h ⊢
      dsimp only at h ⊢
      obtain ⟨g3, g5, k3⟩ := f3 h
      obtain ⟨g2, _, k2⟩ := f2 g3
      obtain ⟨g1, _, k1⟩ := f1 g2
      refine ⟨g1, g5, ?_⟩
      rw [k3, k2, k1, h1]
      simp only [wput, if_true, List.append_assoc]
      rfl
    · rw [if_neg h1] at h
      simp at h
theorem rdAll_form (b : List UInt8) : ∀ (n : Nat) (s : Nat × Bool), s.1 ≤ b.length → b.length ≤ 100000 → (rdAll b n s).2.2 = false → (rdAll b n s).1.length = n ∧ s.2 = false ∧ (rdAll b n s).2.1 ≤ b.length ∧ b.take (rdAll b n s).2.1 = b.take s.1 ++ wputs (rdAll b n s).1
  | 0, s, hs, _, h => ⟨rfl, h, hs, by simp [rdAll, wputs]⟩
  | n + 1, s, hs, hb, h => by
    cases hq : s.2
    · rw [rdAll_step b n s hq] at h ⊢
      dsimp only at h ⊢
      obtain ⟨g1, g2, g3, g4⟩ := rdAll_form b n _ (rdWrite_in b s hs hb).1 hb h
      obtain ⟨k1, k2, k3⟩ := rdWrite_form hs g2
      refine ⟨by rw [List.length_cons, g1], rfl, g3, ?_⟩
      rw [g4, k3, List.append_assoc]
      rfl
    · rw [rdAll_bad b _ s hq] at h
      dsimp only at h
      rw [hq] at h
      cases h
/-- **What is read is put as it was.** -/
theorem cput_cget (gs : List Grp) (b : List UInt8) (hb : b.length ≤ 100000) (h : (cgetP gs b).2.2 = 0) : (cgetP gs b).2.1 ≤ b.length ∧ cput gs (cgetP gs b).1 = b.take (cgetP gs b).2.1 := by
  unfold cgetP at h ⊢
  by_cases hp : pgood gs = 0
  · rw [if_neg (by omega)] at h ⊢
    by_cases hc : ((rdChange b).2.2 || !(cgood gs (rdChange b).1 == 0)) = true
    · rw [if_pos hc] at h
      cases h
    · rw [if_neg hc]
      obtain ⟨hc1, hc2⟩ := bad_or (Bool.eq_false_iff.2 hc)
      have hg := beq_zero hc2
      obtain ⟨_, _, hn1, hn8, _⟩ := cgood_parts hg
      dsimp only
      obtain ⟨x1, s1, e1⟩ : ∃ x t, rdNum b (0, false) = (x, t) := ⟨_, _, rfl⟩
      have i1 := (rdNum_in b (0, false) (Nat.zero_le _)).1
      have f1 := rdNum_form (b := b) (s := (0, false)) (Nat.zero_le _)
      rw [e1] at i1 f1
      obtain ⟨x2, s2, e2⟩ : ∃ x t, rdNum b s1 = (x, t) := ⟨_, _, rfl⟩
      have i2 := (rdNum_in b _ i1).1
      have f2 := rdNum_form i1
      dsimp only at i2 f2
      rw [e2] at i2 f2
      obtain ⟨x3, s3, e3⟩ : ∃ x t, rdStamp b s2 = (x, t) := ⟨_, _, rfl⟩
      have i3 := rdStamp_in b _ i2
      have f3 := rdStamp_form i2
      dsimp only at i3 f3
      rw [e3] at i3 f3
      obtain ⟨x4, s4, e4⟩ : ∃ x t, rdVec b s3 = (x, t) := ⟨_, _, rfl⟩
      have i4 := rdVec_in b _ i3
      have f4 := rdVec_form i3
      dsimp only at i4 f4
      rw [e4] at i4 f4
      obtain ⟨x5, s5, e5⟩ : ∃ x t, rdNum b s4 = (x, t) := ⟨_, _, rfl⟩
      have i5 := (rdNum_in b _ i4).1
      have f5 := rdNum_form i4
      dsimp only at i5 f5
      rw [e5] at i5 f5
      obtain ⟨x6, s6, e6⟩ : ∃ x t, rdAll b (min x5 9) s5 = (x, t) := ⟨_, _, rfl⟩
      have f6 := rdAll_form b (min x5 9) s5 i5 hb
      rw [e6] at f6
      have hr : rdChange b = (⟨x1, x2, x3.1, x3.2, x4.1, x4.2, x6⟩, s6) := by unfold rdChange rdHead; simp only [e1, e2, e3, e4, e5, e6]
      rw [hr] at hc1 hg hn1 hn8 ⊢
      dsimp only at *
      clear e1 e2 e3 e4 e5 e6 hr
      obtain ⟨g6, q6, le6, k6⟩ := f6 hc1
      obtain ⟨q5, _, k5⟩ := f5 q6
      obtain ⟨q4, _, k4⟩ := f4 q5
      obtain ⟨q3, _, k3⟩ := f3 q4
      obtain ⟨q2, _, k2⟩ := f2 q3
      obtain ⟨q1, _, k1⟩ := f1 q2
      refine ⟨le6, ?_⟩
      unfold cput
      rw [if_pos hg]
      dsimp only
      have h5 : x6.length = x5 := by omega
      rw [k6, k5, k4, k3, k2, k1, h5]
      simp only [List.take_zero, List.nil_append, List.append_assoc]
  · rw [if_pos hp] at h
    exact absurd h hp
end Go.Proofs.Ytocdifjdeifclaa
