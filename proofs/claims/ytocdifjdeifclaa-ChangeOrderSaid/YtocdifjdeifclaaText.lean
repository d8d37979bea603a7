/-
  Texts: append of a text onto the call's own bytes.
-/
import Derived.Test.YtocdifjdeifclaaBytes
import Derived.Lib.AppendStr
namespace Go.Proofs.Ytocdifjdeifclaa
open Go.RowKit Mono
set_option linter.unusedVariables false

theorem strCells_bv (l : List UInt8) : Lib.strCells (⟨l.toArray⟩ : ByteArray) = l.map bv := by
  simp [Lib.strCells, bv]

theorem wpList_append_str (w : World) {ops : Array Oper} {rest : List Oper} {o : Oper} {a : Act} {Q : Exit → Act → World → Prop} (hgd : o.guard = none) (s x : Operand)
    (ho : o.op = .call { callee := .builtin .append, args := #[s, x], argTypes := #[56, 9] })
    {base : Nat} {v sv : Value} {l m : List UInt8} (hown : OwB w base v l) (hs : sv = strV m) (hv : a.eval s = v) (hx : a.eval x = sv)
    (hbytes : l.length + m.length ≤ 140737488355328) (hbase : base ≤ w.heap.size)
    (h : ∀ v' w', OwB w' base v' (l ++ m) → w.grownBy w' v.ownBlock → wpList Try.prog ops Q rest (a.put o.dst v') w') : wpList Try.prog ops Q (o :: rest) a w := by
  obtain ⟨i0, hi, hz0, hz1, hz2⟩ := info_parts infoU8
  refine wpList_plain hgd fun _ hK => ?_
  have hown' : w.ownsRow base 5 1 v l.length (l.map bv) := by
    have := hown
    unfold OwB Ow at this
    rwa [List.length_map] at this
  have hsz : (⟨m.toArray⟩ : ByteArray).size = m.length := by simp [ByteArray.size]
  obtain ⟨v', w', hrun, h2, h3, _⟩ := Lib.run_append_own_string (P := Try.prog) w base 56 9 o.type 5 i0 Try.underlying56 Try.underlying9 hi hz0 hz1 hz2 v l.length (l.map bv) hown' ⟨m.toArray⟩ (by rw [hsz]; simp [maxLen]; omega) (by rw [hsz]; omega) hbase
  rw [hsz, strCells_bv] at h2
  subst hs
  unfold strV at hx
  unfold Oper.wp execOp
  simp only [ho, resolve, invoke, builtin, Sem.run_bind, Sem.run_pure, Result.andThen_ok, List.map_toArray, List.map_cons, List.map_nil, hv, hx, hrun]
  refine hK _ _ (h v' w' ?_ h3)
  unfold OwB Ow
  rw [List.map_append, List.length_append, List.length_map, List.length_map]
  exact h2
end Go.Proofs.Ytocdifjdeifclaa
