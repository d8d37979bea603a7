/-
  Layer 7 in plain Lean: the text of a schema is read as that schema, by the program and by the document alike; a text that is read is that schema's.
-/
import Derived.Test.YtjamopclfpmgjaaPolParseRef
namespace Go.Proofs.Ytjamopclfpmgjaa
open Go Go.RowKit Mono Num
set_option linter.unusedVariables false
set_option linter.unusedSimpArgs false

def oneT (g : Grp) : List UInt8 := g.1 ++ 61 :: wordOf g.2
def rend (l : List Grp) : List UInt8 := (l.map fun g => oneT g ++ [44]).flatten
theorem rend_cons (x : Grp) (l : List Grp) : rend (x :: l) = oneT x ++ 44 :: rend l := by simp [rend]
theorem rend_snoc (l : List Grp) (x : Grp) : rend (l ++ [x]) = rend l ++ (oneT x ++ [44]) := by simp [rend]
theorem ptextF_rend (g : Grp) : ∀ (r : List Grp) (i : Nat), i ≠ 0 → ptextF i (r ++ [g]) = 44 :: (rend r ++ oneT g)
  | [], i, h => by simp [ptextF, tone, h, rend, oneT]
  | y :: r, i, h => by
    rw [List.cons_append, ptextF, ptextF_rend g r (i + 1) (by omega), rend_cons]
    simp [tone, h, oneT]
theorem ptext_rend (l : List Grp) (g : Grp) : ptext (l ++ [g]) = rend l ++ oneT g := by
  unfold ptext
  cases l with
  | nil => simp [ptextF, tone, rend, oneT]
  | cons x r =>
    rw [List.cons_append, ptextF, ptextF_rend g r (0 + 1) (by omega), rend_cons]
    simp [tone, oneT]
/-! ### Runes and bytes -/
def enc1 (n : Int) : List UInt8 := (Utf8.encode n).data.toList
theorem runes_fold (ns : List Int) : ∀ s : ByteArray, (ns.foldl (fun r n => r ++ Utf8.encode n) s).data.toList = s.data.toList ++ (ns.map enc1).flatten := by
  induction ns with
  | nil => intro s; simp
  | cons n ns ih =>
    intro s
    rw [List.foldl_cons, ih]
    simp [enc1, ByteArray.data_append]
theorem rb_eq (ns : List Int) : rb ns = (ns.map enc1).flatten := by
  unfold rb runesBytes
  rw [runes_fold]
  simp
theorem enc1_ascii (n : Int) (h0 : 0 ≤ n) (h1 : n < 128) : enc1 n = [UInt8.ofNat n.toNat] := by
  have hv : Utf8.valid n = true := by simp [Utf8.valid]; omega
  unfold enc1 Utf8.encode
  simp only [hv, if_true]
  rw [if_pos (by omega)]
theorem enc1_high (n : Int) (h : ¬ (0 ≤ n ∧ n < 128)) : ∃ b ∈ enc1 n, 128 ≤ b.toNat := by
  unfold enc1 Utf8.encode
  by_cases hv : Utf8.valid n = true
  · simp only [hv, if_true]
    have h2 : (0 ≤ n ∧ n < 55296) ∨ (57344 ≤ n ∧ n ≤ 1114111) := by simpa [Utf8.valid] using hv
    rw [if_neg (by omega)]
    split
    · refine ⟨UInt8.ofNat (128 + n.toNat % 64), by simp, ?_⟩
      rw [UInt8.toNat_ofNat']; omega
    · split
      · refine ⟨UInt8.ofNat (128 + n.toNat % 64), by simp, ?_⟩
        rw [UInt8.toNat_ofNat']; omega
      · refine ⟨UInt8.ofNat (128 + n.toNat % 64), by simp, ?_⟩
        rw [UInt8.toNat_ofNat']; omega
  · simp only [hv, Utf8.runeError]
    refine ⟨UInt8.ofNat (128 + 65533 % 64), by simp, by decide⟩
def byR (ns : List Int) : List UInt8 := ns.map fun r => UInt8.ofNat r.toNat
def asc (ns : List Int) : Prop := ∀ r ∈ ns, 0 ≤ r ∧ r < 128
theorem rb_asc : ∀ {ns : List Int}, asc ns → rb ns = byR ns
  | [], _ => by simp [rb_eq, byR]
  | n :: ns, h => by
    have h1 := h n (by simp)
    have h2 := rb_asc (ns := ns) (fun r hr => h r (by simp [hr]))
    rw [rb_eq] at h2 ⊢
    rw [List.map_cons, List.flatten_cons, h2, enc1_ascii n h1.1 h1.2]
    rfl
theorem asc_of_rb {ns : List Int} (h : ∀ b ∈ rb ns, b.toNat < 128) : asc ns := by
  intro r hr
  by_cases hc : 0 ≤ r ∧ r < 128
  · exact hc
  · obtain ⟨b, hb, h128⟩ := enc1_high r hc
    have := h b (by rw [rb_eq]; exact List.mem_flatten.2 ⟨enc1 r, List.mem_map.2 ⟨r, hr, rfl⟩, hb⟩)
    omega
def toR (m : List UInt8) : List Int := m.map fun b => (b.toNat : Int)
theorem rb_toR (m : List UInt8) (h : ∀ b ∈ m, b.toNat < 128) : rb (toR m) = m := by
  rw [rb_asc (by
    intro r hr
    obtain ⟨b, hb, rfl⟩ := List.mem_map.1 hr
    have := h b hb
    omega)]
  unfold byR toR
  rw [List.map_map]
  conv => rhs; rw [← List.map_id m]
  refine List.map_congr_left fun b _ => ?_
  simp
/-! ### Groups that may be -/
theorem grp_ok {g : Grp} (h : grpOk g = true) : (∀ b ∈ g.1, 97 ≤ b.toNat ∧ b.toNat ≤ 122) ∧ (g.2 = 1 ∨ g.2 = 2) := by
  unfold grpOk nameOk polOk at h
  simp only [Bool.and_eq_true, List.all_eq_true, Bool.or_eq_true, beq_iff_eq] at h
  exact ⟨fun b hb => okc_true (h.1.1 b hb), h.2⟩
theorem word_ok (p : Int) : ∀ b ∈ wordOf p, 97 ≤ b.toNat ∧ b.toNat ≤ 122 := by
  unfold wordOf
  split
  · decide
  · decide
theorem polW_word {p : Int} (h : p = 1 ∨ p = 2) : polW (wordOf p) = p := by
  rcases h with rfl | rfl <;> decide
theorem word_polW {q : List UInt8} (h : polOk (polW q) = true) : wordOf (polW q) = q ∧ ∀ b ∈ q, b.toNat < 128 := by
  unfold polW at h ⊢
  split at h
  · rename_i hq
    subst hq
    rw [if_pos rfl]
    exact ⟨by decide, by decide⟩
  · rename_i h1
    rw [if_neg h1]
    split at h
    · rename_i hq
      subst hq
      rw [if_pos rfl]
      exact ⟨by decide, by decide⟩
    · simp [polOk] at h
theorem one_ok {g : Grp} (h : grpOk g = true) : ∀ b ∈ oneT g, b ≠ 44 ∧ b.toNat < 128 := by
  obtain ⟨h1, h2⟩ := grp_ok h
  intro b hb
  unfold oneT at hb
  rcases List.mem_append.1 hb with hb | hb
  · have := h1 b hb
    exact ⟨fun e => by subst e; simp at this, by omega⟩
  · rcases List.mem_cons.1 hb with rfl | hb
    · decide
    · have := word_ok g.2 b hb
      exact ⟨fun e => by subst e; simp at this, by omega⟩
/-! ### The document's reading of a schema's text -/
theorem cutB_hit (c : UInt8) : ∀ (a r : List UInt8), (∀ b ∈ a, b ≠ c) → cutB c (a ++ c :: r) = (a, r, true)
  | [], r, _ => by simp [cutB]
  | x :: a, r, h => by
    have := cutB_hit c a r (fun b hb => h b (by simp [hb]))
    rw [List.cons_append]
    unfold cutB
    rw [if_neg (h x (by simp)), this]
theorem rgrp_one {g : Grp} (h : grpOk g = true) {s : List UInt8} (hs : (cutB 44 s).1 = oneT g) : rgrp s = g := by
  obtain ⟨h1, h2⟩ := grp_ok h
  unfold rgrp
  rw [hs]
  have := cutB_hit 61 g.1 (wordOf g.2) (fun b hb e => by have := h1 b hb; subst e; simp at this)
  unfold oneT
  rw [this]
  dsimp only
  rw [polW_word h2]
theorem rtoks_rend : ∀ (l : List Grp) (g : Grp), (∀ x ∈ l, grpOk x = true) → grpOk g = true → rtoks (rend l ++ oneT g) = l ++ [g]
  | [], g, _, hg => by
    have hc := cutB_none 44 (oneT g) (fun b hb => (one_ok hg b hb).1)
    have e : rend [] ++ oneT g = oneT g := by simp [rend]
    rw [e, rtoks_eq, rgrp_one hg (by rw [hc]), hc]
    simp
  | x :: l, g, hl, hg => by
    have hx := hl x (by simp)
    have hc := cutB_hit 44 (oneT x) (rend l ++ oneT g) (fun b hb => (one_ok hx b hb).1)
    have e : rend (x :: l) ++ oneT g = oneT x ++ 44 :: (rend l ++ oneT g) := by rw [rend_cons]; simp
    rw [e, rtoks_eq, rgrp_one hx (by rw [hc]), hc]
    dsimp only
    rw [if_pos rfl, rtoks_rend l g (fun y hy => hl y (by simp [hy])) hg]
    rfl
/-! ### The program's reading of a schema's text -/
def pstepB (st : PAt) (b : UInt8) : PAt := pstep st (b.toNat : Int)
theorem ptoksF_ascii (s : List UInt8) (hs : ∀ b ∈ s, b.toNat < 128) : ∀ (f pos : Nat) (st : PAt), s.length ≤ pos + f → ptoksF f ⟨s.toArray⟩ pos st = (s.drop pos).foldl pstepB st
  | 0, pos, st, h => by
    rw [List.drop_eq_nil_of_le (by omega)]
    rfl
  | f + 1, pos, st, h => by
    rw [ptoksF]
    by_cases hp : pos < s.length
    · have hp' : pos < (⟨s.toArray⟩ : ByteArray).size := by rw [strV_size]; exact hp
      rw [if_pos hp']
      have hg := strV_get s pos hp'
      have hd := decode_ascii ⟨s.toArray⟩ pos hp' (by rw [hg]; exact hs _ (List.getElem_mem hp))
      rw [hg] at hd
      rw [hd, List.drop_eq_getElem_cons hp]
      exact ptoksF_ascii s hs f (pos + 1) _ (by omega)
    · rw [if_neg (by rw [strV_size]; exact hp), List.drop_eq_nil_of_le (by omega)]
      rfl
theorem fold_name : ∀ (m : List UInt8) (st : PAt), st.bh = false → (∀ b ∈ m, 97 ≤ b.toNat ∧ b.toNat ≤ 122) → m.foldl pstepB st = { st with nm := st.nm ++ toR m }
  | [], st, _, _ => by simp [toR]
  | x :: m, st, hb, h => by
    have hx := h x (by simp)
    have e : pstepB st x = { st with nm := st.nm ++ [(x.toNat : Int)] } := by
      unfold pstepB pstep
      rw [if_neg (by omega), if_neg (by simp [hb]), if_neg (by omega)]
    rw [List.foldl_cons, e, fold_name m { st with nm := st.nm ++ [(x.toNat : Int)] } hb (fun b hb => h b (by simp [hb]))]
    simp [toR]
theorem fold_word : ∀ (m : List UInt8) (st : PAt), st.bh = true → (∀ b ∈ m, 97 ≤ b.toNat ∧ b.toNat ≤ 122) → m.foldl pstepB st = { st with rs := st.rs ++ toR m }
  | [], st, _, _ => by simp [toR]
  | x :: m, st, hb, h => by
    have hx := h x (by simp)
    have e : pstepB st x = { st with rs := st.rs ++ [(x.toNat : Int)] } := by
      unfold pstepB pstep
      rw [if_neg (by omega), if_pos hb]
    rw [List.foldl_cons, e, fold_word m { st with rs := st.rs ++ [(x.toNat : Int)] } hb (fun b hb => h b (by simp [hb]))]
    simp [toR]
theorem fold_one {g : Grp} (h : grpOk g = true) (l : List Grp) : (oneT g).foldl pstepB ⟨l, [], [], false⟩ = ⟨l, toR g.1, toR (wordOf g.2), true⟩ := by
  obtain ⟨h1, h2⟩ := grp_ok h
  unfold oneT
  rw [List.foldl_append, fold_name g.1 _ rfl h1, List.foldl_cons]
  have e : pstepB { l := l, nm := [] ++ toR g.1, rs := [], bh := false } 61 = ⟨l, toR g.1, [], true⟩ := by
    unfold pstepB pstep
    rw [if_neg (by decide), if_neg (by simp), if_pos (by decide)]
    simp
  rw [e, fold_word (wordOf g.2) _ rfl (word_ok g.2)]
  simp
theorem padd_one {g : Grp} (h : grpOk g = true) (l : List Grp) : padd ⟨l, toR g.1, toR (wordOf g.2), true⟩ = ⟨l ++ [g], [], [], false⟩ := by
  obtain ⟨h1, h2⟩ := grp_ok h
  unfold padd
  dsimp only
  rw [rb_toR g.1 (fun b hb => by have := h1 b hb; omega), rb_toR (wordOf g.2) (fun b hb => by have := word_ok g.2 b hb; omega), polW_word h2]
theorem fold_rend : ∀ (r : List Grp) (l : List Grp), (∀ x ∈ r, grpOk x = true) → (rend r).foldl pstepB ⟨l, [], [], false⟩ = ⟨l ++ r, [], [], false⟩
  | [], l, _ => by simp [rend]
  | x :: r, l, h => by
    have hx := h x (by simp)
    rw [rend_cons, List.foldl_append, fold_one hx, List.foldl_cons]
    have e : pstepB ⟨l, toR x.1, toR (wordOf x.2), true⟩ 44 = padd ⟨l, toR x.1, toR (wordOf x.2), true⟩ := by
      unfold pstepB pstep
      rw [if_pos (by decide)]
    rw [e, padd_one hx, fold_rend r _ (fun y hy => h y (by simp [hy]))]
    simp
theorem rend_ascii : ∀ (r : List Grp), (∀ x ∈ r, grpOk x = true) → ∀ b ∈ rend r, b.toNat < 128
  | [], _, b, hb => by simp [rend] at hb
  | x :: r, h, b, hb => by
    rw [rend_cons] at hb
    rcases List.mem_append.1 hb with hb | hb
    · exact (one_ok (h x (by simp)) b hb).2
    · rcases List.mem_cons.1 hb with rfl | hb
      · decide
      · exact rend_ascii r (fun y hy => h y (by simp [hy])) b hb
theorem good_split {l : List Grp} (h : pgood l = 0) : ∃ r g, l = r ++ [g] ∧ (∀ x ∈ r, grpOk x = true) ∧ grpOk g = true := by
  have h0 := (pgood_ok h).1
  have hall := pgoodF_ok l [] (by
    have h := h
    unfold pgood at h
    split at h
    · cases h
    · split at h
      · cases h
      · exact h)
  obtain ⟨r, g, rfl⟩ : ∃ r g, l = r ++ [g] := ⟨l.dropLast, l.getLast (by intro e; subst e; simp at h0), (List.dropLast_concat_getLast _).symm⟩
  exact ⟨r, g, rfl, fun x hx => hall x (by simp [hx]), hall g (by simp)⟩
/-- A schema's text is read as it, by both. -/
theorem ptoks_ptext {l : List Grp} (h : pgood l = 0) : ptoks (ptext l) = l ∧ rtoks (ptext l) = l := by
  obtain ⟨r, g, rfl, hr, hg⟩ := good_split h
  rw [ptext_rend]
  refine ⟨?_, rtoks_rend r g hr hg⟩
  unfold ptoks
  rw [ptoksF_ascii _ (fun b hb => by
    rcases List.mem_append.1 hb with hb | hb
    · exact rend_ascii r hr b hb
    · exact (one_ok hg b hb).2) _ 0 _ (by omega), List.drop_zero, List.foldl_append, fold_rend r [] hr, List.nil_append, fold_one hg, padd_one hg]
theorem ptext_len {l : List Grp} (h : pgood l = 0) : (ptext l).length ≤ 80 := by
  obtain ⟨_, h4, hall⟩ := pgood_ok h
  have := ptextF_len l 0 (fun g hg => (hall g hg).1)
  unfold ptext
  omega
/-! ### A text that is read is the schema's -/
def POkS (st : PAt) : Prop := (∀ g ∈ st.l, grpOk g = true) ∧ asc st.nm ∧ asc st.rs
def Jst (st : PAt) : Prop := st.bh = false → st.rs = []
def rst (st : PAt) : List UInt8 := rend st.l ++ byR st.nm ++ (if st.bh = true then 61 :: byR st.rs else [])
theorem padd_back {st : PAt} (hj : Jst st) (h : ∀ g ∈ (padd st).l, grpOk g = true) : POkS st ∧ rend st.l ++ oneT (rb st.nm, polW (rb st.rs)) = rst st := by
  have hg : grpOk (rb st.nm, polW (rb st.rs)) = true := h _ (by simp [padd])
  obtain ⟨h1, h2⟩ := grp_ok hg
  have hp : polOk (polW (rb st.rs)) = true := by unfold grpOk at hg; simp only [Bool.and_eq_true] at hg; exact hg.2
  obtain ⟨w1, w2⟩ := word_polW hp
  have an : asc st.nm := asc_of_rb (fun b hb => by have := h1 b hb; omega)
  have ar : asc st.rs := asc_of_rb w2
  have hbh : st.bh = true := by
    cases hb : st.bh with
    | true => rfl
    | false =>
      exfalso
      rw [hj hb] at hp
      revert hp
      rw [show rb [] = [] by simp [rb_eq]]
      decide
  refine ⟨⟨fun g hg => h g (by simp [padd, hg]), an, ar⟩, ?_⟩
  unfold rst oneT
  dsimp only
  rw [w1, rb_asc an, rb_asc ar, if_pos hbh, List.append_assoc]
theorem step_back {st : PAt} {c : Int} (hc : 0 ≤ c) (hj : Jst st) (h : POkS (pstep st c)) : POkS st ∧ c < 128 ∧ rst (pstep st c) = rst st ++ [UInt8.ofNat c.toNat] ∧ Jst (pstep st c) := by
  unfold pstep at h ⊢
  split
  · rename_i h44
    rw [if_pos h44] at h
    obtain ⟨k1, k2⟩ := padd_back hj h.1
    refine ⟨k1, by omega, ?_, fun _ => rfl⟩
    rw [← k2]
    subst h44
    show rend (st.l ++ [(rb st.nm, polW (rb st.rs))]) ++ byR [] ++ (if false = true then _ else []) = _
    rw [rend_snoc]
    simp [byR]
  · rename_i h44
    rw [if_neg h44] at h
    split
    · rename_i hb
      rw [if_pos hb] at h
      have hcc := h.2.2 c (by simp)
      refine ⟨⟨h.1, h.2.1, fun r hr => h.2.2 r (by simp [hr])⟩, hcc.2, ?_, fun hf => by simp [hb] at hf⟩
      unfold rst
      simp [hb, byR]
    · rename_i hb
      rw [if_neg hb] at h
      have hbf : st.bh = false := by simpa using hb
      split
      · rename_i h61
        rw [if_pos h61] at h
        refine ⟨⟨h.1, h.2.1, h.2.2⟩, by omega, ?_, fun hf => by simp at hf⟩
        subst h61
        unfold rst
        simp [hbf, hj hbf, byR]
      · rename_i h61
        rw [if_neg h61] at h
        have hcc := h.2.1 c (by simp)
        refine ⟨⟨h.1, fun r hr => h.2.1 r (by simp [hr]), h.2.2⟩, hcc.2, ?_, hj⟩
        unfold rst
        simp [hbf, byR]
theorem step_J {st : PAt} (c : Int) (hj : Jst st) : Jst (pstep st c) := by
  unfold pstep
  split
  · exact fun _ => rfl
  · split
    · rename_i hb
      exact fun hf => by simp [hb] at hf
    · split
      · exact fun hf => by simp at hf
      · exact hj
theorem toks_J (s : List UInt8) : ∀ (f pos : Nat) (st : PAt), Jst st → Jst (ptoksF f ⟨s.toArray⟩ pos st)
  | 0, pos, st, hj => hj
  | f + 1, pos, st, hj => by
    rw [ptoksF]
    split
    · exact toks_J s f _ _ (step_J _ hj)
    · exact hj
theorem toks_back (s : List UInt8) : ∀ (f pos : Nat) (st : PAt), s.length ≤ pos + f → Jst st → POkS (ptoksF f ⟨s.toArray⟩ pos st) →
    POkS st ∧ rst (ptoksF f ⟨s.toArray⟩ pos st) = rst st ++ s.drop pos ∧ Jst (ptoksF f ⟨s.toArray⟩ pos st)
  | 0, pos, st, h, hj, hk => by
    rw [List.drop_eq_nil_of_le (by omega), List.append_nil]
    exact ⟨hk, rfl, hj⟩
  | f + 1, pos, st, h, hj, hk => by
    rw [ptoksF] at hk ⊢
    by_cases hp : pos < s.length
    · have hp' : pos < (⟨s.toArray⟩ : ByteArray).size := by rw [strV_size]; exact hp
      have hw := width_pos ⟨s.toArray⟩ pos hp'
      rw [if_pos hp'] at hk ⊢
      have hjs : Jst (pstep st (Utf8.decode ⟨s.toArray⟩ pos).1) := step_J _ hj
      obtain ⟨k1, k2, k3⟩ := toks_back s f _ _ (by omega) hjs hk
      obtain ⟨q1, q2, q3, q4⟩ := step_back (by omega) hj k1
      have hg := strV_get s pos hp'
      have hlow : s[pos].toNat < 128 := by
        rcases Nat.lt_or_ge s[pos].toNat 128 with h | h
        · exact h
        · have := (decode_high ⟨s.toArray⟩ pos hp' (by rw [hg]; exact h)).1
          omega
      have hd := decode_ascii ⟨s.toArray⟩ pos hp' (by rw [hg]; exact hlow)
      rw [hg] at hd
      rw [hd] at k2 k3 q3 ⊢
      refine ⟨q1, ?_, k3⟩
      rw [k2, q3, List.drop_eq_getElem_cons hp]
      simp
    · rw [if_neg (by rw [strV_size]; exact hp)] at hk ⊢
      rw [List.drop_eq_nil_of_le (by omega), List.append_nil]
      exact ⟨hk, rfl, hj⟩
theorem ptext_ptoks {s : List UInt8} (h : pgood (ptoks s) = 0) : ptext (ptoks s) = s := by
  have hall := pgoodF_ok (ptoks s) [] (by
    unfold pgood at h
    split at h
    · cases h
    · split at h
      · cases h
      · exact h)
  have h2 : ∀ g ∈ (padd (ptoksF s.length ⟨s.toArray⟩ 0 ⟨[], [], [], false⟩)).l, grpOk g = true := hall
  have hj0 : Jst ⟨[], [], [], false⟩ := fun _ => rfl
  have e1 : ptext (ptoks s) = rend (ptoksF s.length ⟨s.toArray⟩ 0 ⟨[], [], [], false⟩).l ++ oneT (rb (ptoksF s.length ⟨s.toArray⟩ 0 ⟨[], [], [], false⟩).nm, polW (rb (ptoksF s.length ⟨s.toArray⟩ 0 ⟨[], [], [], false⟩).rs)) := by
    unfold ptoks padd
    dsimp only
    rw [ptext_rend]
  have hj : Jst (ptoksF s.length ⟨s.toArray⟩ 0 ⟨[], [], [], false⟩) := toks_J s s.length 0 _ hj0
  obtain ⟨k1, k2⟩ := padd_back hj h2
  obtain ⟨_, q2, _⟩ := toks_back s s.length 0 ⟨[], [], [], false⟩ (by omega) hj0 k1
  rw [e1, k2, q2]
  simp [rst, rend, byR]
/-- Both read alike. -/
theorem parse_same (s : List UInt8) : rparse s = pparse s := by
  by_cases hp : pgood (ptoks s) = 0
  · have h1 := ptext_ptoks hp
    have h2 := (ptoks_ptext hp).2
    have h3 := ptext_len hp
    rw [h1] at h2 h3
    have e1 : rparse s = (rtoks s, 0) := by
      unfold rparse
      rw [if_neg (by omega), if_neg (by rw [h2]; simp [hp, h1])]
    have e2 : pparse s = (ptoks s, 0) := by
      unfold pparse
      rw [if_neg (by omega), if_neg (by simp [hp])]
    rw [e1, e2, h2]
  · have e1 : pparse s = ([], 11) := by
      unfold pparse
      by_cases h80 : 80 < s.length
      · rw [if_pos h80]
      · rw [if_neg h80, if_pos hp]
    rw [e1]
    unfold rparse
    split
    · rfl
    · by_cases hr : pgood (rtoks s) = 0 ∧ ptext (rtoks s) = s
      · exfalso
        have := (ptoks_ptext hr.1).1
        rw [hr.2] at this
        rw [this] at hp
        exact hp hr.1
      · rw [if_pos]
        by_cases h0 : pgood (rtoks s) = 0
        · exact .inr (fun e => hr ⟨h0, e⟩)
        · exact .inl h0
end Go.Proofs.Ytjamopclfpmgjaa
