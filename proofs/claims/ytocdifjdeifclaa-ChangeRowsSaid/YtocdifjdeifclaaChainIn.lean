/-
  The law of the chain inside a round of a range over a function.
-/
import Derived.Test.YtocdifjdeifclaaMono
import Derived.OrdersIn
import Derived.Fence
namespace Go.Proofs.Ytocdifjdeifclaa
namespace Mono
open Go Go.RowKit
set_option linter.unusedVariables false
variable {P : Program} {ops : Array Oper} {n k : Nat} {Q : Exit → Act → World → Prop} {md : Region.Mode}

/-- What holds of an operation outside holds of it in a round of the wide fence, if it defers nothing. -/
theorem opIn_of_op {o : Oper} {a : Act} {w : World} {K K' : Act → World → Prop} (hd : ∀ c, o.op ≠ .defer c) (hK : ∀ a w, K a w → K' a w) (h : o.wp P a w K Q) : o.wpIn (Fence.wide.inRound k) n P a w K' Q := by
  refine ⟨fun _ _ => trivial, ?_⟩
  rw [Oper.semAt_eq _ _ _ hd]
  unfold Oper.wp at h
  generalize (execOp a.eval o).run P w = r at *
  match r, h with
  | .ok (.value v) w', h => exact hK _ _ h
  | .ok .skip w', h => exact hK _ _ h
  | .ok (.defer d) w', h => exact hK _ _ h
  | .ok (.enter f args) w', h =>
    refine ⟨(fun h => by cases h), ?_⟩
    have h' : Calls P f args w' fun e w'' => match e with
      | .returned v => K' (a.put o.dst v) w''
      | .panicked chain => Q (.panic chain) a w''
      | .outgrown => LetsOut Q := Calls.mono h (by
        intro e w'' he
        cases e with
        | returned v => exact hK _ _ he
        | panicked c => exact he
        | outgrown => exact he)
    refine CallsIn.mono (callsIn_wide.2 h') ?_
    intro e w'' he
    cases e <;> exact he
  | .ok (.row row args) w', h =>
    refine ⟨(fun h => by cases h), fun c cs _ => ?_⟩
    obtain ⟨v, w'', hr, hs⟩ := h c cs
    exact ⟨v, w'', hK _ _ hr, stepsIn_wide.2 hs⟩
  | .halt (.panic v) w', h => exact h

theorem wpAnyIn_of_plain (hd : ∀ (i : Nat) (o : Oper), ops[i]? = some o → ∀ c, o.op ≠ .defer c) (hq : ¬ LetsOut Q) :
    ∀ (fuel : Nat) (listed : Array Bool) (a : Act) (w : World), wpAny P md ops Q fuel listed a w → wpAnyIn (Fence.wide.inRound k) n P md ops Q fuel listed a w
  | 0, listed, a, w, h => h
  | fuel + 1, listed, a, w, h => by
    refine ⟨h.1, fun i hi => ?_⟩
    have h2 := h.2 i hi
    unfold wpOp at h2
    unfold wpOpIn
    cases ho : ops[i]? with
    | none => rw [ho] at h2; exact wpAnyIn_of_plain hd hq fuel _ _ _ h2
    | some o =>
      rw [ho] at h2
      dsimp only at h2 ⊢
      split
      · rename_i hw
        rw [if_pos hw] at h2
        rcases h2 with h2 | h2
        · exact opIn_of_op (hd i o ho) (fun a w h => wpAnyIn_of_plain hd hq fuel _ _ _ h) h2
        · exact absurd h2.2 hq
      · rename_i hw
        rw [if_neg hw] at h2
        exact ⟨fun _ _ => trivial, wpAnyIn_of_plain hd hq fuel _ _ _ h2⟩
theorem wpIn_region_chain {id : Nat} {Q : Exit → Act → World → Prop} {a : Act} {w : World} {l : List Oper} (C : List Nat) (hi : Nat → Nat) (x : Nat → Value) (G : List Value → World → Prop) (hm : P.follows .mixedOrders = true) (hB : chainB .any l.toArray a.tmps.size C hi = true) (hg : G [] w.drew)
    (hd : ∀ o ∈ l, ∀ c, o.op ≠ .defer c) (hq : ¬ LetsOut Q) (h : TeleC P l.toArray a C hi x G (fun ρ w' => Q .normal (puts ρ a l) w') 0 0 l []) : (Code.region id l.toArray true).wpIn (Fence.wide.inRound k) n P Q a w :=
  wpIn_region_any hm (wpAnyIn_of_plain (fun i o ho => hd o (by simpa using List.mem_of_getElem? (l := l) (by simpa using ho))) hq _ _ _ _ (wpAny_region_chain C hi x G hB hg h))
end Mono
end Go.Proofs.Ytocdifjdeifclaa
