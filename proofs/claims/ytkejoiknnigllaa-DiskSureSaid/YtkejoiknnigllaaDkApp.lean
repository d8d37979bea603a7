/-
  Layer 15: bytes are put at the end of a slice without room.
-/
import Derived.Test.YtkejoiknnigllaaDkOps
import Derived.ArgAppend
namespace Go.Proofs.Ytkejoiknnigllaa
open Go Go.RowKit Mono
open Go.Maps (Keyed has size)
set_option linter.unusedVariables false
set_option linter.unusedSimpArgs false
set_option maxRecDepth 100000

def resV (r : Result Value) : Value := match r with
  | .ok v _ => v
  | _ => undef
theorem grown_ext {W W' : World} (h : W.grownBy W' none) : Ext W W' := ⟨h.os, h.tape, h.output, h.size, fun k hk => h.block k hk (by simp)⟩
theorem append_full {z : Nat} {W : World} {A : Option Addr} {old : List UInt8} (hb : BsT z W (.slice A old.length old.length) old) {v : Value} {new : List UInt8} (hv : Bs W v new) (hsz : old.length + new.length ≤ 1073741824) (hz : z ≤ W.heap.size) (ty : TypeId) :
    ∃ v' W', (Builtin.append_ #[23, 23] ty #[.slice A old.length old.length, v]).run Try.prog W = .ok v' W' ∧ BsT z W' v' (old ++ new) ∧ Ext W W' ∧ (∀ j, v'.ownBlock = some j → (Value.slice A old.length old.length).ownBlock = some j ∨ W.heap.size ≤ j) := by
  obtain ⟨i, hi, hi2⟩ : ∃ i, Try.prog.info? 5 = some i ∧ (i.zero, i.size, i.bytes) = (some (.int .u8 0), 1, 1) := by
    have := infoU8
    cases h : Try.prog.info? 5 with
    | none => rw [h] at this; cases this
    | some i => rw [h] at this; exact ⟨i, rfl, by simpa using this⟩
  obtain ⟨hz0, hz1, hz2⟩ : i.zero = some (.int .u8 0) ∧ i.size = 1 ∧ i.bytes = 1 := by simpa using hi2
  obtain ⟨A', c', rfl, g1, g2, g3, g4⟩ := hv.open_
  rcases Nat.eq_zero_or_pos new.length with h0 | h0
  · have hn : new = [] := List.eq_nil_of_length_eq_zero h0
    subst hn
    refine ⟨.slice A old.length old.length, W, ?_, by rw [List.append_nil]; exact hb, Ext.refl _, fun j hj => .inl hj⟩
    have hlc : ∀ (a : Addr) (w : World), (loadCells a 0).run Try.prog w = .ok #[] w := fun a w => by kernel_rfl
    cases A' <;> cases A <;> simp [hlc, Builtin.append_, run_underlying Try.underlying23, sizeOf, typeInfo, hi, Builtin.lenOf, Builtin.firstCells, storeCells]
  · obtain ⟨g, off, rfl, hg, hc⟩ := g4 h0
    have hnews : ∀ j u, (new.map bv)[j]? = some u → W.cell? ((⟨g, off, none⟩ : Addr).add j) = some u := by
      intro j u hu
      rw [add_at]
      rw [List.getElem?_map] at hu
      cases hx : new[j]? with
      | none => rw [hx] at hu; cases hu
      | some x =>
        rw [hx] at hu
        injection hu with hu
        rw [← hu]
        exact hc j x hx
    have fin : ∀ {v' : Value} {W' : World}, W'.ownsRow W.heap.size 5 1 v' (old.length + new.length) (old.map bv ++ new.map bv) → W.grownBy W' none → BsT z W' v' (old ++ new) ∧ Ext W W' ∧ (∀ j, v'.ownBlock = some j → (Value.slice A old.length old.length).ownBlock = some j ∨ W.heap.size ≤ j) := by
      intro v' W' h1 h2
      have ho : OwB W' W.heap.size v' (old ++ new) := by
        show World.ownsRow _ _ _ _ _ _ _
        have e : ((old ++ new).map bv) = old.map bv ++ new.map bv := List.map_append
        rw [e]
        have e2 : (old.map bv ++ new.map bv).length = old.length + new.length := by simp
        rw [e2]
        exact h1
      have hbt := BsT.of_owb ho
      refine ⟨⟨hbt.bs, fun j hj => ⟨Nat.le_trans hz (hbt.typed j hj).1, (hbt.typed j hj).2⟩⟩, grown_ext h2, fun j hj => .inr (hbt.typed j hj).1⟩
    cases A with
    | none =>
      obtain ⟨A2, c2, e2, k1, k2, k3, k4⟩ := hb.bs.open_
      injection e2 with e2 e3 e4
      have hl0 : old.length = 0 := by have := k3 e2.symm; omega
      have hn : old = [] := List.eq_nil_of_length_eq_zero hl0
      subst hn
      obtain ⟨v', W', hrun, r1, r2, _⟩ := run_append_own (P := Try.prog) W W.heap.size 23 ty 5 i (.int .u8 0) 1 1 Try.underlying23 hi hz0 hz1 hz2 rfl (by decide) (.slice none 0 0) 0 [] (World.ownsRow_nil W _ _ 1) ⟨g, off, none⟩ new.length c' (new.map bv) (by simp) hnews bv_one (by unfold maxLen; simp at hsz; omega) (by simp at hsz; omega) (Nat.le_refl _)
      exact ⟨v', W', hrun, fin (by simpa using r1) r2⟩
    | some b =>
      have holds : ∀ j u, (old.map bv)[j]? = some u → W.cell? (b.add j) = some u := by
        intro j u hu
        obtain ⟨A2, c2, e2, k1, k2, k3, k4⟩ := hb.bs.open_
        rw [List.getElem?_map] at hu
        cases hx : old[j]? with
        | none => rw [hx] at hu; cases hu
        | some x =>
          rw [hx] at hu
          injection hu with hu
          obtain ⟨g', off', hA, _, hcc⟩ := k4 (by have := (List.getElem?_eq_some_iff.1 hx).1; omega)
          injection e2 with e2 _ _
          rw [← e2] at hA
          injection hA with hA
          rw [hA, add_at, ← hu]
          exact hcc j x hx
      obtain ⟨v', W', hrun, r1, r2⟩ := run_append_arg_grows (P := Try.prog) W 23 ty 5 i (.int .u8 0) 1 1 Try.underlying23 hi hz0 hz1 hz2 rfl (by decide) b old.length old.length (old.map bv) (by simp) holds ⟨g, off, none⟩ new.length c' (new.map bv) (by simp) hnews (by omega) (by unfold maxLen; omega) (by omega)
      exact ⟨v', W', hrun, fin r1 r2⟩
end Go.Proofs.Ytkejoiknnigllaa
