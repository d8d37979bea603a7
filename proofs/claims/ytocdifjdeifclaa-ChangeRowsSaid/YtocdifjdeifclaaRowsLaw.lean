/-
  Layer 12: the rows that a change makes: their keys, their cells, how many writes they hold. Plain Lean.
-/
import Derived.Test.YtocdifjdeifclaaRowsJ
import Derived.Test.YtocdifjdeifclaaChHas
import Derived.Test.YtocdifjdeifclaaRowGood
import Derived.Test.YtocdifjdeifclaaVecCov
namespace Go.Proofs.Ytocdifjdeifclaa
open Go Go.RowKit Mono Num
set_option linter.unusedVariables false
set_option linter.unusedSimpArgs false

theorem bytesLess_asymm : ∀ a b : List UInt8, Op.bytesLess a b = true → Op.bytesLess b a = false
  | [], _, h => by
    rename_i b
    cases b with
    | nil => rfl
    | cons y b => rfl
  | x :: a, [], h => by simp [Op.bytesLess] at h
  | x :: a, y :: b, h => by
    simp only [Op.bytesLess] at h ⊢
    by_cases hxy : x < y
    · have h1 : ¬ y < x := by rw [UInt8.lt_iff_toNat_lt] at *; omega
      have h2 : ¬ y = x := by rintro rfl; rw [UInt8.lt_iff_toNat_lt] at hxy; omega
      simp [h1, h2]
    · simp [hxy] at h
      obtain ⟨rfl, h⟩ := h
      have := bytesLess_asymm a b h
      simp [this, hxy]
theorem bytesLess_trans : ∀ a b c : List UInt8, Op.bytesLess a b = true → Op.bytesLess b c = true → Op.bytesLess a c = true
  | [], b, [], h1, h2 => by cases b <;> simp [Op.bytesLess] at h2
  | [], b, z :: c, h1, h2 => by simp [Op.bytesLess]
  | x :: a, [], c, h1, h2 => by simp [Op.bytesLess] at h1
  | x :: a, y :: b, [], h1, h2 => by simp [Op.bytesLess] at h2
  | x :: a, y :: b, z :: c, h1, h2 => by
    simp only [Op.bytesLess] at h1 h2 ⊢
    by_cases hxy : x < y
    · by_cases hyz : y < z
      · have : x < z := by rw [UInt8.lt_iff_toNat_lt] at *; omega
        simp [this]
      · simp [hyz] at h2
        obtain ⟨rfl, h2⟩ := h2
        simp [hxy]
    · simp [hxy] at h1
      obtain ⟨rfl, h1⟩ := h1
      by_cases hyz : x < z
      · simp [hyz]
      · simp [hyz] at h2
        obtain ⟨rfl, h2⟩ := h2
        simp [bytesLess_trans a b c h1 h2]

/-! ### Writes in order -/
theorem wahead_trans {a b c : Wr} (h1 : wahead a b = true) (h2 : wahead b c = true) : wahead a c = true := by
  unfold wahead at *
  simp only [Bool.or_eq_true, Bool.and_eq_true, beq_iff_eq, decide_eq_true_eq] at *
  rcases h1 with h1 | ⟨h1, g1⟩
  · rcases h2 with h2 | ⟨h2, g2⟩
    · exact .inl (bytesLess_trans _ _ _ h1 h2)
    · exact .inl (h2 ▸ h1)
  · rcases h2 with h2 | ⟨h2, g2⟩
    · exact .inl (h1 ▸ h2)
    · exact .inr ⟨h1.trans h2, by omega⟩
theorem goodF_sorted : ∀ (ws : List Wr) (n : Nat) (p : Option Wr), cgoodF n p ws = true → (∀ y, p = some y → ∀ x ∈ ws, wahead y x = true) ∧ ws.Pairwise fun y x => wahead y x = true
  | [], n, p, h => ⟨fun _ _ x hx => absurd hx (by simp), List.Pairwise.nil⟩
  | x :: r, n, p, h => by
    unfold cgoodF at h
    simp only [Bool.and_eq_true] at h
    obtain ⟨⟨_, h1⟩, h2⟩ := h
    obtain ⟨g1, g2⟩ := goodF_sorted r n (some x) h2
    refine ⟨fun y hy z hz => ?_, List.pairwise_cons.2 ⟨g1 x rfl, g2⟩⟩
    subst hy
    rcases List.mem_cons.1 hz with rfl | hz
    · exact h1
    · exact wahead_trans h1 (g1 x rfl z hz)

/-- The cell of a place. -/
def cellAt (gs : List Grp) (c : Ch) (ws : List Wr) (key : List UInt8) (g : Nat) : Cl := match ws.find? (fun x => x.key == key && x.group == (g : Int)) with
  | some x => wcell gs c x
  | none => Cl.nought
structure RInv (gs : List Grp) (c : Ch) (pre : List Wr) (R : List RwP) : Prop where
  keys : R.Pairwise fun a b => Op.bytesLess a.1 b.1 = true
  mem : ∀ x ∈ pre, ∃ r ∈ R, r.1 = x.key
  from_ : ∀ r ∈ R, ∃ x ∈ pre, x.key = r.1
  len : ∀ r ∈ R, r.2.length = gs.length
  cell : ∀ r ∈ R, ∀ g, g < gs.length → r.2[g]? = some (cellAt gs c pre r.1 g)
theorem cellAt_other {gs : List Grp} {c : Ch} {pre : List Wr} {x : Wr} {key : List UInt8} {g : Nat} (h : (x.key == key && x.group == (g : Int)) = false) : cellAt gs c (pre ++ [x]) key g = cellAt gs c pre key g := by
  unfold cellAt
  rw [List.find?_append, List.find?_cons_of_neg (by simpa using h)]
  simp
theorem cellAt_this {gs : List Grp} {c : Ch} {pre : List Wr} {x : Wr} {key : List UInt8} {g : Nat} (h : (x.key == key && x.group == (g : Int)) = true) (hn : ∀ y ∈ pre, (y.key == key && y.group == (g : Int)) = false) : cellAt gs c (pre ++ [x]) key g = wcell gs c x := by
  unfold cellAt
  rw [List.find?_append, List.find?_eq_none.2 (by intro y hy; simp [hn y hy]), List.find?_cons_of_pos (by simpa using h)]
  rfl
theorem less_ne {a b : List UInt8} (h : Op.bytesLess a b = true) : a ≠ b := by
  rintro rfl
  rw [bytesLess_irrefl] at h
  cases h
/-- One write more. -/
theorem RInv.step {gs : List Grp} {c : Ch} {pre : List Wr} {R : List RwP} {x : Wr} (h : RInv gs c pre R) (ha : ∀ y ∈ pre, wahead y x = true) (hx : wok gs.length x = true) : RInv gs c (pre ++ [x]) (rowsStep gs c R x) := by
  obtain ⟨-, -, hg0, hg1, -, -⟩ := wok_parts hx
  obtain ⟨gn, hgn⟩ : ∃ n : Nat, x.group = (n : Int) := ⟨x.group.toNat, by omega⟩
  have hnone : ∀ y ∈ pre, (y.key == x.key && y.group == (gn : Int)) = false := by
    intro y hy
    have := ha y hy
    unfold wahead at this
    simp only [Bool.or_eq_true, Bool.and_eq_true, beq_iff_eq, decide_eq_true_eq] at this
    rcases this with h1 | ⟨h1, h2⟩
    · simp [less_ne h1]
    · have : ¬ y.group = (gn : Int) := by omega
      simp [this]
  have hle : ∀ r ∈ R, Op.bytesLess r.1 x.key = true ∨ r.1 = x.key := by
    intro r hr
    obtain ⟨y, hy, hk⟩ := h.from_ r hr
    have := ha y hy
    unfold wahead at this
    simp only [Bool.or_eq_true, Bool.and_eq_true, beq_iff_eq] at this
    rw [← hk]
    rcases this with h1 | ⟨h1, _⟩
    · exact .inl h1
    · exact .inr h1
  -- the row of the write stands last
  obtain ⟨R0, cs, hR, h1, h2, h3, h4, h5, h6⟩ : ∃ R0 cs, rowsAdd gs R x.key = R0 ++ [(x.key, cs)] ∧ (∀ r ∈ R0, Op.bytesLess r.1 x.key = true) ∧ R0.Pairwise (fun a b => Op.bytesLess a.1 b.1 = true) ∧ cs.length = gs.length ∧
      (∀ g, g < gs.length → cs[g]? = some (cellAt gs c pre x.key g)) ∧ (∀ r ∈ R0, r ∈ R) ∧ (∀ y ∈ pre, y.key ≠ x.key → ∃ r ∈ R0, r.1 = y.key) := by
    rcases List.eq_nil_or_concat R with rfl | ⟨R0, ⟨lk, cs⟩, rfl⟩
    · refine ⟨[], List.replicate gs.length Cl.nought, by unfold rowsAdd bareR; simp, by simp, List.Pairwise.nil, by simp, fun g hg => ?_, by simp, fun y hy _ => ?_⟩
      · have : pre = [] := by
          cases pre with
          | nil => rfl
          | cons y r => obtain ⟨r', hr, _⟩ := h.mem y List.mem_cons_self; cases hr
        subst this
        simp [cellAt, hg]
      · obtain ⟨r', hr, _⟩ := h.mem y hy; cases hr
    · rw [List.concat_eq_append] at h hle ⊢
      have hk := List.pairwise_append.1 h.keys
      by_cases hlk : lk = x.key
      · subst hlk
        refine ⟨R0, cs, by unfold rowsAdd; simp, fun r hr => hk.2.2 r hr _ List.mem_cons_self, hk.1, h.len (x.key, cs) (by simp), fun g hg => h.cell (x.key, cs) (by simp) g hg, fun r hr => by simp [hr], fun y hy hne => ?_⟩
        obtain ⟨r, hr, hrk⟩ := h.mem y hy
        rcases List.mem_append.1 hr with hr | hr
        · exact ⟨r, hr, hrk⟩
        · rw [List.mem_singleton.1 hr] at hrk
          exact absurd hrk.symm hne
      · have hlast : Op.bytesLess lk x.key = true := (hle (lk, cs) (by simp)).resolve_right hlk
        have hall : ∀ r ∈ R0 ++ [(lk, cs)], Op.bytesLess r.1 x.key = true := by
          intro r hr
          rcases List.mem_append.1 hr with hr | hr
          · exact bytesLess_trans _ _ _ (hk.2.2 r hr _ List.mem_cons_self) hlast
          · rw [List.mem_singleton.1 hr]; exact hlast
        refine ⟨R0 ++ [(lk, cs)], List.replicate gs.length Cl.nought, by unfold rowsAdd bareR; simp [hlk], hall, h.keys, by simp, fun g hg => ?_, fun r hr => hr, fun y hy _ => h.mem y hy⟩
        have : cellAt gs c pre x.key g = Cl.nought := by
          unfold cellAt
          rw [List.find?_eq_none.2]
          intro y hy
          obtain ⟨r, hr, hrk⟩ := h.mem y hy
          have := less_ne (hall r hr)
          rw [hrk] at this
          simp [this]
        rw [this]
        simp [hg]
  have hgl : gn < gs.length := by omega
  have hto : x.group.toNat = gn := by omega
  unfold rowsStep
  rw [hR, rowsPut_snoc, hto]
  refine ⟨?_, fun y hy => ?_, fun r hr => ?_, fun r hr => ?_, fun r hr g hg => ?_⟩
  · refine List.pairwise_append.2 ⟨h2, List.pairwise_singleton _ _, fun r hr z hz => ?_⟩
    rw [List.mem_singleton.1 hz]
    exact h1 r hr
  · rcases List.mem_append.1 hy with hy | hy
    · by_cases hyk : y.key = x.key
      · exact ⟨(x.key, cs.set gn (wcell gs c x)), by simp, hyk.symm⟩
      · obtain ⟨r, hr, hk⟩ := h6 y hy hyk
        exact ⟨r, List.mem_append_left _ hr, hk⟩
    · rw [List.mem_singleton.1 hy]
      exact ⟨(x.key, cs.set gn (wcell gs c x)), by simp, rfl⟩
  · rcases List.mem_append.1 hr with hr | hr
    · obtain ⟨y, hy, hk⟩ := h.from_ r (h5 r hr)
      exact ⟨y, List.mem_append_left _ hy, hk⟩
    · rw [List.mem_singleton.1 hr]
      exact ⟨x, by simp, rfl⟩
  · rcases List.mem_append.1 hr with hr | hr
    · exact h.len r (h5 r hr)
    · rw [List.mem_singleton.1 hr]
      simpa using h3
  · rcases List.mem_append.1 hr with hr | hr
    · have hne : ¬ x.key = r.1 := fun e => less_ne (h1 r hr) e.symm
      rw [cellAt_other (by simp [hne])]
      exact h.cell r (h5 r hr) g hg
    · rw [List.mem_singleton.1 hr]
      dsimp only
      by_cases hgg : g = gn
      · subst hgg
        rw [cellAt_this (by simp [hgn]) hnone, List.getElem?_set_self (by omega)]
      · rw [cellAt_other (by have : ¬ x.group = (g : Int) := by omega
                             simp [this]), List.getElem?_set_ne (by omega)]
        exact h4 g hg
theorem rinv_all {gs : List Grp} {c : Ch} : ∀ (suf pre : List Wr) (R : List RwP), RInv gs c pre R → (pre ++ suf).Pairwise (fun y x => wahead y x = true) → (∀ x ∈ suf, wok gs.length x = true) → RInv gs c (pre ++ suf) (suf.foldl (rowsStep gs c) R)
  | [], pre, R, h, _, _ => by simpa using h
  | x :: suf, pre, R, h, hp, hw => by
    have h1 := h.step (x := x) (fun y hy => (List.pairwise_append.1 hp).2.2 y hy x List.mem_cons_self) (hw x List.mem_cons_self)
    have := rinv_all suf (pre ++ [x]) _ h1 (by simpa using hp) (fun y hy => hw y (List.mem_cons_of_mem _ hy))
    simpa using this
theorem rinv_of {gs : List Grp} {c : Ch} (h : cgood gs c = 0) : RInv gs c c.writes (crows gs c).1 := by
  obtain ⟨-, -, -, -, hf⟩ := good_parts h
  unfold crows
  rw [if_neg (by omega)]
  exact rinv_all c.writes [] [] ⟨List.Pairwise.nil, by simp, by simp, by simp, by simp⟩ (by simpa using (goodF_sorted _ _ _ hf).2) (goodF_each _ _ _ hf)
/-! ### How many writes the rows hold -/
def places (G : Nat) (R : List RwP) : List (List UInt8 × Nat) := R.flatMap fun r => (List.range G).map fun g => (r.1, g)
def cntP (ws : List Wr) (l : List (List UInt8 × Nat)) : Nat := l.countP fun p => chas p.1 (p.2 : Int) ws
theorem chas_iff {key : List UInt8} {g : Int} {ws : List Wr} : chas key g ws = true ↔ ∃ x ∈ ws, x.key = key ∧ x.group = g := by
  unfold chas
  simp [List.any_eq_true]
theorem mem_places {G : Nat} {R : List RwP} {p : List UInt8 × Nat} : p ∈ places G R ↔ (∃ r ∈ R, r.1 = p.1) ∧ p.2 < G := by
  unfold places
  simp only [List.mem_flatMap, List.mem_map, List.mem_range]
  constructor
  · rintro ⟨r, hr, g, hg, rfl⟩
    exact ⟨⟨r, hr, rfl⟩, hg⟩
  · rintro ⟨⟨r, hr, h1⟩, hg⟩
    exact ⟨r, hr, p.2, hg, by rw [h1]⟩
theorem nodup_places {G : Nat} : ∀ {R : List RwP}, R.Pairwise (fun a b => Op.bytesLess a.1 b.1 = true) → (places G R).Nodup
  | [], _ => List.nodup_nil
  | r :: R, h => by
    obtain ⟨h1, h2⟩ := List.pairwise_cons.1 h
    show ((List.range G).map (fun g => (r.1, g)) ++ places G R).Nodup
    refine List.nodup_append.2 ⟨?_, nodup_places h2, ?_⟩
    · refine List.Pairwise.map _ (R := fun a b => a ≠ b) (fun a b hab e => hab (by injection e)) (List.nodup_range)
    · rintro p hp q hq rfl
      obtain ⟨g, _, rfl⟩ := List.mem_map.1 hp
      obtain ⟨⟨r', hr', he⟩, _⟩ := mem_places.1 hq
      exact less_ne (h1 r' hr') he.symm
theorem cnt_all {gs : List Grp} {c : Ch} (h : cgood gs c = 0) : cntP c.writes (places gs.length (crows gs c).1) = c.writes.length := by
  have hI := rinv_of h
  obtain ⟨-, -, -, -, hf⟩ := good_parts h
  have hs := (goodF_sorted _ _ _ hf).2
  have hw := goodF_each _ _ _ hf
  unfold cntP
  rw [List.countP_eq_length_filter]
  have hn1 : ((places gs.length (crows gs c).1).filter fun p => chas p.1 (p.2 : Int) c.writes).Nodup := (nodup_places hI.keys).filter _
  have hn2 : (c.writes.map fun x => (x.key, x.group.toNat)).Nodup := by
    refine List.pairwise_map.2 (List.Pairwise.imp_of_mem (fun {a b} ha hb hab e => ?_) hs)
    obtain ⟨-, -, a0, -⟩ := wok_parts (hw a ha)
    obtain ⟨-, -, b0, -⟩ := wok_parts (hw b hb)
    injection e with e1 e2
    unfold wahead at hab
    rw [e1, bytesLess_irrefl] at hab
    simp at hab
    omega
  have hp : ((places gs.length (crows gs c).1).filter fun p => chas p.1 (p.2 : Int) c.writes).Perm (c.writes.map fun x => (x.key, x.group.toNat)) := by
    refine (List.perm_ext_iff_of_nodup hn1 hn2).2 fun p => ?_
    rw [List.mem_filter, mem_places, chas_iff, List.mem_map]
    constructor
    · rintro ⟨_, x, hx, h1, h2⟩
      exact ⟨x, hx, by rw [h2]; obtain ⟨a, b⟩ := p; simp at h1 ⊢; exact h1⟩
    · rintro ⟨x, hx, rfl⟩
      obtain ⟨-, -, x0, x1, -⟩ := wok_parts (hw x hx)
      refine ⟨⟨hI.mem x hx, by dsimp only; omega⟩, x, hx, rfl, by dsimp only; omega⟩
  rw [hp.length_eq, List.length_map]
theorem cntP_snoc (ws : List Wr) (l : List (List UInt8 × Nat)) (p : List UInt8 × Nat) : cntP ws (l ++ [p]) = cntP ws l + (if chas p.1 (p.2 : Int) ws = true then 1 else 0) := by
  unfold cntP
  rw [List.countP_append, List.countP_singleton]
/-- The places up to a row and a group of it. -/
def placesTo (G : Nat) (R : List RwP) (i g : Nat) : List (List UInt8 × Nat) := places G (R.take i) ++ (match R[i]? with | some r => (List.range g).map fun j => (r.1, j) | none => [])
theorem placesTo_step {G i g : Nat} {R : List RwP} {r : RwP} (h : R[i]? = some r) : placesTo G R i (g + 1) = placesTo G R i g ++ [(r.1, g)] := by
  unfold placesTo
  rw [h]
  simp [List.range_succ]
theorem placesTo_zero {G i : Nat} {R : List RwP} : placesTo G R i 0 = places G (R.take i) := by
  unfold placesTo
  cases R[i]? <;> simp
theorem placesTo_row {G i : Nat} {R : List RwP} {r : RwP} (h : R[i]? = some r) : placesTo G R i G = places G (R.take (i + 1)) := by
  unfold placesTo places
  rw [h, List.take_add_one, h, List.flatMap_append]
  simp

theorem cntP_le {G : Nat} {ws : List Wr} {R : List RwP} {i g : Nat} (hi : i < R.length) (hg : g ≤ G) : cntP ws (placesTo G R i g) ≤ cntP ws (places G R) := by
  have hR : R = R.take i ++ R[i] :: R.drop (i + 1) := by rw [← List.drop_eq_getElem_cons hi, List.take_append_drop]
  have h2 : places G R = places G (R.take i) ++ ((List.range G).map (fun j => (R[i].1, j)) ++ places G (R.drop (i + 1))) := by
    conv => lhs; rw [hR]
    unfold places
    rw [List.flatMap_append, List.flatMap_cons]
  have h3 : (placesTo G R i g).Sublist (places G R) := by
    rw [h2]
    unfold placesTo
    rw [List.getElem?_eq_getElem hi]
    refine List.Sublist.append (List.Sublist.refl _) ?_
    exact ((List.range_sublist.2 hg).map _).trans (List.sublist_append_left _ _)
  exact h3.countP_le

/-! ### The cells -/
/-- What is to be seen of a cell. -/
def cseen (p : Int) (x : Cl) : List UInt8 × Bool := if (cellgood p x && cwritten x && !x.gone && vcovers x.va x.vb x.da x.db) = true then (x.value, true) else ([], false)
theorem wcell_good {gs : List Grp} {c : Ch} {x : Wr} {p : Int} (hp : p = 1 ∨ p = 2) (hh : sgood c.sn c.ss = true ∧ 1 ≤ c.sn ∧ vgood c.va c.vb = true) (hv : x.value.length ≤ 64) (hg : x.gone = true → x.value = []) : cellgood p (clOf p c.sn c.ss c.va c.vb x.gone x.value) = true ∧
    (cseen p (clOf p c.sn c.ss c.va c.vb x.gone x.value) = (x.value, !x.gone)) := by
  obtain ⟨h1, h2, h3⟩ := hh
  have hb := vgood_bounds h3
  have hn : ¬ c.sn = 0 := by omega
  have hcov : vcovers c.va c.vb 0 0 = true := by unfold vcovers; simp; omega
  have z0 : vgood 0 0 = true := by decide
  rcases hp with rfl | rfl
  · cases hx : x.gone
    · refine ⟨?_, ?_⟩ <;> simp [cseen, clOf, cellgood, cellrest, cwritten, hn, h1, h3, hv, hcov] <;> omega
    · have hv0 := hg hx
      refine ⟨?_, ?_⟩ <;> simp [cseen, clOf, cellgood, cellrest, cwritten, hn, h1, h3, hv0] <;> omega
  · cases hx : x.gone
    · refine ⟨?_, ?_⟩ <;> simp [cseen, clOf, cellgood, cellrest, cwritten, hn, h1, h3, hv, hcov, z0] <;> omega
    · have hv0 := hg hx
      refine ⟨?_, ?_⟩ <;> simp [cseen, clOf, cellgood, cellrest, cwritten, h3, hv0]

theorem polAt_get {gs : List Grp} {g : Nat} {y : Grp} (h : gs[g]? = some y) : polAt gs (g : Int) = y.2 := by
  unfold polAt
  rw [Int.toNat_natCast, List.getD_eq_getElem?_getD, h]
  rfl
/-- The cell of a place: of its write, or none. -/
theorem cellAt_cases {gs : List Grp} {c : Ch} (h : cgood gs c = 0) (key : List UInt8) (g : Nat) {y : Grp} (hy : gs[g]? = some y) :
    cellgood y.2 (cellAt gs c c.writes key g) = true ∧ (chas key (g : Int) c.writes = false → cellAt gs c c.writes key g = Cl.nought) ∧ ∀ x ∈ c.writes, x.key = key → x.group = (g : Int) → cseen y.2 (cellAt gs c c.writes key g) = (x.value, !x.gone) := by
  obtain ⟨hp, hh, -, -, hf⟩ := good_parts h
  have hs := (goodF_sorted _ _ _ hf).2
  have hw := goodF_each _ _ _ hf
  have hpol := pgood_pol hp y (List.mem_of_getElem? hy)
  unfold cellAt
  cases hfi : c.writes.find? (fun x => x.key == key && x.group == (g : Int)) with
  | none =>
    refine ⟨nought_good _ hpol, fun _ => rfl, fun x hx h1 h2 => ?_⟩
    have := List.find?_eq_none.1 hfi x hx
    simp [h1, h2] at this
  | some z =>
    have hz := List.mem_of_find?_eq_some hfi
    have hzp := List.find?_some hfi
    simp only [Bool.and_eq_true, beq_iff_eq] at hzp
    obtain ⟨-, -, -, -, v1, v2⟩ := wok_parts (hw z hz)
    have hwc := wcell_good (gs := gs) (c := c) (x := z) hpol (head_parts hh) v1 v2
    have hpz : polAt gs z.group = y.2 := by rw [hzp.2]; exact polAt_get hy
    dsimp only
    unfold wcell
    rw [hpz]
    refine ⟨hwc.1, fun hn => ?_, fun x hx h1 h2 => ?_⟩
    · have : chas key (g : Int) c.writes = true := chas_iff.2 ⟨z, hz, hzp.1, hzp.2⟩
      rw [this] at hn
      cases hn
    · have hxz : x = z := by
        rcases List.mem_iff_getElem.1 hx with ⟨i, hi, rfl⟩
        rcases List.mem_iff_getElem.1 hz with ⟨j, hj, rfl⟩
        have irr : ∀ a b : Wr, a.key = key → a.group = (g : Int) → b.key = key → b.group = (g : Int) → wahead a b = true → False := by
          intro a b ha hag hb hbg hab
          unfold wahead at hab
          rw [ha, hb, bytesLess_irrefl, hag, hbg] at hab
          simp at hab
        rcases Nat.lt_trichotomy i j with hij | hij | hij
        · exact (irr _ _ h1 h2 hzp.1 hzp.2 (List.pairwise_iff_getElem.1 hs i j hi hj hij)).elim
        · subst hij; rfl
        · exact (irr _ _ hzp.1 hzp.2 h1 h2 (List.pairwise_iff_getElem.1 hs j i hj hi hij)).elim
      rw [hxz]
      exact hwc.2
/-- What is to be shown of a row. -/
theorem row_facts {gs : List Grp} {c : Ch} (h : cgood gs c = 0) {i : Nat} {ky : List UInt8} {cs : List Cl} (hr : (crows gs c).1[i]? = some (ky, cs)) :
    rgood gs ky cs = 0 ∧ cs.length = gs.length ∧ (∀ k0 c0, 0 < i → (crows gs c).1[i - 1]? = some (k0, c0) → Op.bytesLess k0 ky = true) ∧
    ∀ (g : Nat) (y : Grp) (x : Cl), gs[g]? = some y → cs[g]? = some x → (chas ky (g : Int) c.writes = false → x = Cl.nought) ∧ ∀ z ∈ c.writes, z.key = ky → z.group = (g : Int) → cseen y.2 x = (z.value, !z.gone) := by
  have hI := rinv_of h
  obtain ⟨hp, hh, -, -, hf⟩ := good_parts h
  have hw := goodF_each _ _ _ hf
  have hmem := List.mem_of_getElem? hr
  have hlen := hI.len _ hmem
  dsimp only at hlen
  have hcell := hI.cell _ hmem
  dsimp only at hcell
  refine ⟨?_, hlen, fun k0 c0 hi h0 => ?_, fun g y x hy hx => ?_⟩
  · obtain ⟨x, hx, hk⟩ := hI.from_ _ hmem
    obtain ⟨k1, k2, -⟩ := wok_parts (hw x hx)
    dsimp only at hk
    rw [hk] at k1 k2
    unfold rgood
    rw [if_neg (by simpa using hp), if_neg k1, if_neg (by omega), if_neg (by simpa using hlen), if_pos]
    rw [List.all_eq_true]
    rintro ⟨y, x⟩ hz
    obtain ⟨g, hg, hgz⟩ := List.mem_iff_getElem.1 hz
    rw [List.getElem_zip] at hgz
    injection hgz with e1 e2
    have hgl : g < gs.length := by simp at hg; omega
    have hcl : g < cs.length := by omega
    have h1 : gs[g]? = some y := by rw [List.getElem?_eq_getElem hgl, e1]
    have h2 := hcell g hgl
    rw [List.getElem?_eq_getElem hcl, e2] at h2
    injection h2 with h2
    dsimp only
    rw [h2]
    exact (cellAt_cases h ky g h1).1
  · have hil := (List.getElem?_eq_some_iff.1 hr).1
    have := List.pairwise_iff_getElem.1 hI.keys (i - 1) i (by omega) hil (by omega)
    rw [(List.getElem?_eq_some_iff.1 h0).2, (List.getElem?_eq_some_iff.1 hr).2] at this
    exact this
  · have hgl := (List.getElem?_eq_some_iff.1 hy).1
    have h2 := hcell g hgl
    rw [hx] at h2
    injection h2 with h2
    rw [h2]
    exact (cellAt_cases h ky g hy).2
end Go.Proofs.Ytocdifjdeifclaa
