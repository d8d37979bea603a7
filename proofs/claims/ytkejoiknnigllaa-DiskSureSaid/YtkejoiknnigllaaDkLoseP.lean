/-
  Layer 15: what stands while the power fails.
-/
import Derived.Test.YtkejoiknnigllaaDkRead
namespace Go.Proofs.Ytkejoiknnigllaa
open Go Go.RowKit Mono
open Go.Maps (Keyed has size)
set_option linter.unusedVariables false
set_option linter.unusedSimpArgs false
set_option maxRecDepth 100000

/-- A slice cut behind its first n elements, with no room. -/
def cutV (v : Value) (n : Nat) : Value := match v with
  | .slice A _ _ => .slice A n n
  | v => v
def FilM.cut (m : FilM) (n : Nat) (sure : Nat) : FilM := ⟨m.name, m.blk, cutV m.v n, m.b.take n, sure⟩
def FilM.lose (keep : Int) (m : FilM) : FilM := m.cut (keepN keep m.fil) (keepN keep m.fil)
theorem FilM.lose_fil (keep : Int) (m : FilM) : (m.lose keep).fil = m.fil.lose keep := rfl
theorem cutV_own (A : Option Addr) (a c n : Nat) : (cutV (.slice A a c) n).ownBlock = (Value.slice A a c).ownBlock := by cases A <;> rfl
theorem BsT.cut {z : Nat} {W : World} {v : Value} {b : List UInt8} (h : BsT z W v b) {n : Nat} (hn : n ≤ b.length) : BsT z W (cutV v n) (b.take n) := by
  obtain ⟨A, c, rfl, h1, h2, h3, h4⟩ := h.bs.open_
  refine ⟨Bs.mk (by simp; omega) (Nat.le_refl _) (by omega) (fun hA => ?_) (fun h0 => ?_), fun j hj => h.typed j ((cutV_own A b.length c n).symm.trans hj)⟩
  · have := h3 hA
    omega
  · have hl : 0 < b.length := by simp at h0; omega
    obtain ⟨g, off, hA, hg, hc⟩ := h4 hl
    refine ⟨g, off, hA, hg, fun i x hx => hc i x ?_⟩
    rw [List.getElem?_take] at hx
    split at hx
    · exact hx
    · cases hx
end Go.Proofs.Ytkejoiknnigllaa

/-
  Layer 15: what stands while the power fails: some files have been cut, others are still to come.
-/
namespace Go.Proofs.Ytkejoiknnigllaa
open Go Go.RowKit Mono
open Go.Maps (Keyed has size)
set_option linter.unusedVariables false
set_option linter.unusedSimpArgs false
set_option maxRecDepth 100000

theorem bl_irrefl : ∀ s : List UInt8, Op.bytesLess s s = false
  | [] => rfl
  | a :: x => by
    unfold Op.bytesLess
    rw [bl_irrefl x]
    simp
/-- Those files are cut that are no longer to come. -/
def lsSt (keep : Int) (left : Lit → Bool) (ms : List FilM) : List FilM := ms.map fun m => if left (.string m.name) = true then m else m.lose keep
theorem lsSt_start {D : DataW Unit} {ms : List FilM} (h : MapIs D ms) (keep : Int) : lsSt keep (has D) ms = ms := by
  unfold lsSt
  conv => rhs; rw [← List.map_id ms]
  refine List.map_congr_left fun m hm => ?_
  rw [if_pos]
  · rfl
  · rw [h.has_]
    exact List.any_eq_true.2 ⟨m, hm, by simp⟩
theorem lsSt_end {left : Lit → Bool} (h : ∀ kl, left kl = false) (keep : Int) (ms : List FilM) : lsSt keep left ms = ms.map (FilM.lose keep) := by
  unfold lsSt
  refine List.map_congr_left fun m hm => ?_
  rw [h]
  rfl
theorem str_same (a b : List UInt8) : (Lit.string a).sameKey (.string b) = (a == b) := rfl
theorem lsSt_off {left : Lit → Bool} {keep : Int} {name : List UInt8} : ∀ (l : List FilM), (∀ x ∈ l, x.name ≠ name) → lsSt keep (fun z => left z && !z.sameKey (.string name)) l = lsSt keep left l := by
  intro l h
  unfold lsSt
  refine List.map_congr_left fun x hx => ?_
  have : (Lit.string x.name).sameKey (.string name) = false := by rw [str_same]; simpa using h x hx
  simp [this]
/-- One file is cut. -/
theorem lsSt_step {left : Lit → Bool} {keep : Int} {ms : List FilM} {m : FilM} (hm : m ∈ ms) (hp : ms.Pairwise fun a b => a.name ≠ b.name) (hl : left (.string m.name) = true) :
    ∃ l r, lsSt keep left ms = l ++ m :: r ∧ lsSt keep (fun z => left z && !z.sameKey (.string m.name)) ms = l ++ m.lose keep :: r := by
  obtain ⟨l, r, rfl⟩ := List.append_of_mem hm
  obtain ⟨h1, h2, h3⟩ := List.pairwise_append.1 hp
  obtain ⟨h4, h5⟩ := List.pairwise_cons.1 h2
  refine ⟨lsSt keep left l, lsSt keep left r, ?_, ?_⟩
  · unfold lsSt
    simp [hl]
  · have e1 := lsSt_off (left := left) (keep := keep) (name := m.name) l (fun x hx => h3 x hx m List.mem_cons_self)
    have e2 := lsSt_off (left := left) (keep := keep) (name := m.name) r (fun x hx e => h4 x hx e.symm)
    rw [← e1, ← e2]
    unfold lsSt
    simp [str_same]
theorem names_apart {u : Int} {z bd bm pl : Nat} {W : World} {d : Dk} {ms : List FilM} (h : DkU u z W bd bm pl d ms) (hok : d.Ok) : ms.Pairwise fun a b => a.name ≠ b.name := by
  have hs := hok.sorted
  rw [← h.fs] at hs
  refine (List.pairwise_map.1 hs).imp ?_
  intro a b hab e
  have : Op.bytesLess a.name b.name = true := hab
  rw [e] at this
  rw [bl_irrefl] at this
  cases this
theorem used_split (l r : List Fil) (m : Fil) : usedF (l ++ m :: r) = usedF l + m.b.length + usedF r := by
  unfold usedF
  simp
  omega
/-- An iterator is no block of the disk. -/
theorem DkU.iter {u : Int} {z bd bm pl r : Nat} {W : World} {d : Dk} {ms : List FilM} (h : DkU u z W bd bm pl d ms) {n cnt : Nat} {D : DataW Unit} {left : Lit → Bool} (hr : W.ranges Try.prog 9 ptrR bm r n D left cnt) :
    (∀ j, dfp bd bm pl d ms j → j ≠ r) ∧ ∀ m ∈ ms, ∀ j, m.v.ownBlock = some j → j ≠ r := by
  have hne := hr.ne
  obtain ⟨es, clock, since, seen, c0, _, _, _, _, hr, _⟩ := hr
  have no : ∀ {b : Nat} {T : TypeId} {L : List Value}, BlkT W b T L → b ≠ r := by
    rintro b T L hb rfl
    unfold BlkT at hb
    rw [hb] at hr
    cases hr
  refine ⟨?_, fun m hm j hj => ?_⟩
  · rintro j (rfl | rfl | ⟨hp, rfl⟩ | ⟨m, hm, rfl⟩)
    · exact no h.str
    · exact fun e => hne e.symm
    · obtain ⟨⟨n, k⟩, hp⟩ := Option.isSome_iff_exists.1 hp
      exact no (h.plan n k hp).1
    · exact no (h.files m hm).1
  · rintro rfl
    obtain ⟨_, C, fz, h2⟩ := (h.bytes m hm).typed j hj
    rw [h2] at hr
    cases hr
theorem grown_kb {W W' : World} {r : Nat} (h : W.grownBy W' (some r)) : Kb (fun k => k = r) W W' := Kb.grown h rfl
end Go.Proofs.Ytkejoiknnigllaa
