/-
  The law for regions that draw their order, for operations whose guard is not decided: the slot holds the value if the guard holds, and nothing otherwise.
-/
import Derived.Test.YtjajlbfokbmadaaDoorMono
namespace Go.Proofs.YtjajlbfokbmadaaDoor
namespace Mono
open Go.RowKit
/-- The value, if the guard holds. -/
def ifV (g : Bool) (x : Value) : Value := if g = true then x else undef
theorem ifV_true {g : Bool} {x : Value} (h : g = true) : ifV g x = x := by unfold ifV; rw [if_pos h]
theorem ifV_false {g : Bool} {x : Value} (h : g = false) : ifV g x = undef := by unfold ifV; rw [if_neg (by simp [h])]
theorem asBoolR_bool (b : Bool) : asBoolR (.bool b) = some b := rfl
theorem asBoolR_undef : asBoolR undef = none := rfl
/-- What holds under a guard. -/
def ifR (g : Bool) (R : MRel) : MRel := ⟨fun v w => g = true → R.rel v w, fun v w w' h he hg => R.mono v w w' (h hg) he⟩
section
variable {P : Program} {ops : Array Oper} {a0 : Act} {w0 : World} {Fin : (Nat → Value) → World → Prop} {o : Oper} {rest : List Oper} {env : Env} {t : Tmp}
theorem tele_gval (hd : o.dst = some t) (g : Bool) (x : Value) (hw : ∀ ρ w, Known env a0 ρ w (o.looksAt ops) → wantedR ops o ρ = g)
    (ho : ∀ ρ w, Ext w0 w → Known env a0 ρ w (o.looksAt ops) → g = true → (execOp (evR ρ) o).run P w = .ok (.value x) w)
    (hr : Tele P ops a0 w0 Fin rest ((t, (isV (ifV g x)).rel) :: env)) : Tele P ops a0 w0 Fin (o :: rest) env := by
  refine tele_any hd (isV (ifV g x)) (fun ρ w he hk => ?_) hr
  rw [hw ρ w hk]
  cases hg : g
  · rw [if_neg (by simp)]
    exact (ifV_false rfl).symm
  · rw [if_pos rfl, ho ρ w he hk hg, ifV_true rfl]
    exact ⟨Ext.refl _, rfl⟩
theorem tele_gcall (hd : o.dst = some t) {f : FuncId} {fn : Func} {args : Array Operand} {ts : Array TypeId} (hop : o.op = .call { callee := .value (.func f), args := args, argTypes := ts })
    (hf : P.funcs[f]? = some fn) (hn : ((fn.name == "runtime.NumGoroutine") || fn.body.isNone) = false) (g : Bool) (x : Value)
    (hw : ∀ ρ w, Known env a0 ρ w (o.looksAt ops) → wantedR ops o ρ = g)
    (ho : ∀ ρ w, Ext w0 w → Known env a0 ρ w (o.looksAt ops) → g = true → Calls P f (args.map (evR ρ)) w fun e w' => e = .returned x ∧ Ext w w')
    (hr : Tele P ops a0 w0 Fin rest ((t, (isV (ifV g x)).rel) :: env)) : Tele P ops a0 w0 Fin (o :: rest) env := by
  refine tele_any hd (isV (ifV g x)) (fun ρ w he hk => ?_) hr
  rw [hw ρ w hk]
  cases hg : g
  · rw [if_neg (by simp)]
    exact (ifV_false rfl).symm
  · rw [if_pos rfl, run_call_func hop hf hn ρ w, ifV_true rfl]
    refine (ho ρ w he hk hg).mono ?_
    rintro e w' ⟨rfl, hx⟩
    exact ⟨_, rfl, hx, rfl⟩
/-- A call under a guard, of whose value something is told. -/
theorem tele_gcallR (hd : o.dst = some t) {f : FuncId} {fn : Func} {args : Array Operand} {ts : Array TypeId} (hop : o.op = .call { callee := .value (.func f), args := args, argTypes := ts })
    (hf : P.funcs[f]? = some fn) (hn : ((fn.name == "runtime.NumGoroutine") || fn.body.isNone) = false) (g : Bool) (R : MRel)
    (hw : ∀ ρ w, Known env a0 ρ w (o.looksAt ops) → wantedR ops o ρ = g)
    (ho : ∀ ρ w, Ext w0 w → Known env a0 ρ w (o.looksAt ops) → g = true → Calls P f (args.map (evR ρ)) w fun e w' => ∃ v, e = .returned v ∧ Ext w w' ∧ R.rel v w')
    (hr : Tele P ops a0 w0 Fin rest ((t, (ifR g R).rel) :: env)) : Tele P ops a0 w0 Fin (o :: rest) env := by
  refine tele_any hd (ifR g R) (fun ρ w he hk => ?_) hr
  rw [hw ρ w hk]
  cases hg : g
  · rw [if_neg (by simp)]
    intro h
    simp at h
  · rw [if_pos rfl, run_call_func hop hf hn ρ w]
    refine (ho ρ w he hk hg).mono ?_
    rintro e w' ⟨v, rfl, hx, hr⟩
    exact ⟨v, rfl, hx, fun _ => hr⟩
theorem tele_gany (hd : o.dst = some t) (g : Bool) (R : MRel) (hw : ∀ ρ w, Known env a0 ρ w (o.looksAt ops) → wantedR ops o ρ = g)
    (ho : ∀ ρ w, Ext w0 w → Known env a0 ρ w (o.looksAt ops) → g = true → ∃ v w', (execOp (evR ρ) o).run P w = .ok (.value v) w' ∧ Ext w w' ∧ R.rel v w')
    (hr : Tele P ops a0 w0 Fin rest ((t, (ifR g R).rel) :: env)) : Tele P ops a0 w0 Fin (o :: rest) env := by
  refine tele_any hd (ifR g R) (fun ρ w he hk => ?_) hr
  rw [hw ρ w hk]
  cases hg : g
  · rw [if_neg (by simp)]
    intro h
    simp at h
  · obtain ⟨v, w', hrun, hx, hR⟩ := ho ρ w he hk hg
    rw [if_pos rfl, hrun]
    exact ⟨hx, fun _ => hR⟩
end
end Mono
end Go.Proofs.YtjajlbfokbmadaaDoor
