/-
  Layer 15: what stands while the power fails.
-/
import Derived.Test.YtkejoiknnigllaaDkRead
namespace Go.Proofs.Ytkejoiknnigllaa
open Go Go.RowKit Mono
open Go.Maps (Keyed has size)
set_option linter.unusedVariables false
set_option linter.unusedSimpArgs false
set_option maxRecDepth 100000

/-- A slice cut behind its first n elements, with no room. -/
def cutV (v : Value) (n : Nat) : Value := match v with
  | .slice A _ _ => .slice A n n
  | v => v
def FilM.cut (m : FilM) (n : Nat) (sure : Nat) : FilM := ⟨m.name, m.blk, cutV m.v n, m.b.take n, sure⟩
def FilM.lose (keep : Int) (m : FilM) : FilM := m.cut (keepN keep m.fil) (keepN keep m.fil)
theorem FilM.lose_fil (keep : Int) (m : FilM) : (m.lose keep).fil = m.fil.lose keep := rfl
theorem cutV_own (A : Option Addr) (a c n : Nat) : (cutV (.slice A a c) n).ownBlock = (Value.slice A a c).ownBlock := by cases A <;> rfl
theorem BsT.cut {z : Nat} {W : World} {v : Value} {b : List UInt8} (h : BsT z W v b) {n : Nat} (hn : n ≤ b.length) : BsT z W (cutV v n) (b.take n) := by
  obtain ⟨A, c, rfl, h1, h2, h3, h4⟩ := h.bs.open_
  refine ⟨Bs.mk (by simp; omega) (Nat.le_refl _) (by omega) (fun hA => ?_) (fun h0 => ?_), fun j hj => h.typed j ((cutV_own A b.length c n).symm.trans hj)⟩
  · have := h3 hA
    omega
  · have hl : 0 < b.length := by simp at h0; omega
    obtain ⟨g, off, hA, hg, hc⟩ := h4 hl
    refine ⟨g, off, hA, hg, fun i x hx => hc i x ?_⟩
    rw [List.getElem?_take] at hx
    split at hx
    · exact hx
    · cases hx
end Go.Proofs.Ytkejoiknnigllaa
