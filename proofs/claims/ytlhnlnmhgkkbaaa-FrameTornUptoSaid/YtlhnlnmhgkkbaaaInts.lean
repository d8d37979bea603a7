/-
  The call's own integers; what append does to them.
-/
import Derived.Test.YtlhnlnmhgkkbaaaBytes
namespace Go.Proofs.Ytlhnlnmhgkkbaaa
open Go.RowKit Mono
set_option linter.unusedVariables false

def OwI (w : World) (base : Nat) (v : Value) (l : List Int) : Prop := Ow 3 w base v (l.map iv)
theorem OwI.ext {w w' : World} {base : Nat} {v : Value} {l : List Int} (h : OwI w base v l) (he : Ext w w') : OwI w' base v l := Ow.ext h he
theorem OwI.nil_ (w : World) (base : Nat) : OwI w base (.slice none 0 0) [] := Ow.nil_ _ w base
theorem OwI.mono {w : World} {base base' : Nat} {v : Value} {l : List Int} (h : OwI w base v l) (hb : base' ≤ base) : OwI w base' v l := Ow.mono h hb
theorem OwI.is {w : World} {base : Nat} {v : Value} {l : List Int} (h : OwI w base v l) (hl : ∀ n ∈ l, In64 n) : Is w v l := ⟨Ow.sl h, hl⟩
theorem infoInt : (Try.prog.info? 3).map (fun i => (i.zero, i.size, i.bytes)) = some (some (.int .i64 0), 1, 8) := by kernel_rfl
theorem iv_one {l : List Int} : ∀ u ∈ l.map iv, u.oneCell' = true := by
  intro u hu
  obtain ⟨x, _, rfl⟩ := List.mem_map.1 hu
  rfl
theorem Is.alloc_ (w : World) {l : List Int} {C : Array Value} (T : TypeId) (fr : Nat × Nat) {n c : Nat} (hC : C.toList = l.map iv) (hn : l.length = n) (h1 : n ≤ c) (h2 : c ≤ maxLen) :
    Sl (w.alloc (.cells C T fr)) (.slice (some ⟨w.heap.size, 0, none⟩) n c) (l.map iv) := Sl.alloc_ w T fr hC (by simpa using hn) h1 h2

/-- append on the call's own integers. -/
theorem wpList_append_is (w : World) {ops : Array Oper} {rest : List Oper} {o : Oper} {a : Act} {Q : Exit → Act → World → Prop} (hgd : o.guard = none) (s x : Operand)
    (ho : o.op = .call { callee := .builtin .append, args := #[s, x], argTypes := #[38, 38] })
    {base : Nat} {v sv : Value} {l m : List Int} (hown : OwI w base v l) (hs : Sl w sv (m.map iv)) (hv : a.eval s = v) (hx : a.eval x = sv)
    (hbytes : l.length + m.length ≤ 17592186044416) (hbase : base ≤ w.heap.size)
    (h : ∀ v' w', OwI w' base v' (l ++ m) → w.grownBy w' v.ownBlock → (v'.ownBlock = v.ownBlock ∨ v'.ownBlock = some w.heap.size) → wpList Try.prog ops Q rest (a.put o.dst v') w') : wpList Try.prog ops Q (o :: rest) a w := by
  obtain ⟨i0, hi, hz0, hz1, hz2⟩ := info_parts infoInt
  refine wpList_append_sl w hgd s x _ ho base _ i0 _ 8 Try.underlying38 hi hz0 hz1 hz2 rfl hown hs hv hx iv_one (by simp [maxLen]; omega) (by simp; omega) hbase fun v' w' h1 h2 h3 => h v' w' ?_ h2 h3
  unfold OwI
  rw [List.map_append]
  exact h1
theorem Below.growI {B base : Nat} {a w w' : World} {v : Value} {l : List Int} (h : Below B a w) (ho : OwI w base v l) (hg : w.grownBy w' v.ownBlock) (hB : B ≤ base) (hs : B ≤ w.heap.size) : Below B a w' :=
  Below.growOw h ho hg hB hs
end Go.Proofs.Ytlhnlnmhgkkbaaa
