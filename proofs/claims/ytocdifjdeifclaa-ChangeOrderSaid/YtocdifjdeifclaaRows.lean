/-
  No cell of these rows narrows 'for every input' (looked for: loops, veiled, ifaces, maps, wideKeys, modest, calm, conditions, laid).
  DERIVED. THE GIVEN ROWS OF THIS SEAT. 6 by the template 'for every input the law returns true; each argument reads behind the call as it read before'; 0 by the template 'total and deterministic' (their statements: YtocdifjdeifclaaTotals.lean).
  GIVEN WITH THE SEED: the statements are not yours to turn. If you find one false, say at which input.
  Laid BY PROGRAM, IN A SANDBOX (cutbox-rows.mjs): the forced cells as the released guide's own fill.sh prints them over the translation 92f6b4325d593139… (all of the seat's roots in one cut). By AI agents, Wed Nov 11 2026. No macro, syntax, notation, axiom, sorry.
-/
import Derived.Test.YtocdifjdeifclaaChecked
import GoSem.Claim
import GoSem.ClaimJoined
import GoSem.ClaimMapViews
import Derived.JoinedTies
import Derived.KernelRfl
namespace Go.Proofs.Ytocdifjdeifclaa
/- THE CELL 'sum', in the pinned program and in every row, IS THE sha256 OF THE DUMP (.gsa) THAT YtocdifjdeifclaaProg.lean LOADS. Nothing in Lean hashes anything: it is a label: what it is worth is what the hold of that sum in a sandbox is worth. -/
noncomputable def Try.pinned : Pinned := { name := "ytocdifjdeifclaa", sum := "92f6b4325d59313968017546202bd621c917340ba3ef30ab33c7462c7a57456a", checked := Try.checked }
namespace Rows
def none {H : Type} : Left H := { results := [], args := [] }

/-- 'gemellaw12.ChangeChecks': WHATEVER THE INPUT: true; the input reads as it did. -/
def changeChecksSpec : ChangeSpec := { name := "changeChecks", fn := fun _ => fun
  | [d1, d2, d3] => { results := [.lit (.bool true)], args := [d1, d2, d3] }
  | _ => none }
def changeChecksRow : OpenClaim := { program := "ytocdifjdeifclaa", sum := "92f6b4325d59313968017546202bd621c917340ba3ef30ab33c7462c7a57456a", func := "gemel/gemellaw12.ChangeChecks", spec := "changeChecks", unfollowed := true, recurses := true, plainKeys := false, apart := false }
def ChangeChecksSaid : Prop := changeChecksRow.holds Try.pinned (OpenSpec.ofChange changeChecksSpec)

/-- ITS FALSE NEIGHBOUR: 'it returns false'. Refute it at one input. -/
def changeChecksWrong : ChangeSpec := { name := "changeChecks", fn := fun _ => fun
  | [d1, d2, d3] => { results := [.lit (.bool false)], args := [d1, d2, d3] }
  | _ => none }
def ChangeChecksWrongFalsely : Prop := changeChecksRow.holds Try.pinned (OpenSpec.ofChange changeChecksWrong)

/-- 'gemellaw12.ChangeRows': WHATEVER THE INPUT: true; the input reads as it did. -/
def changeRowsSpec : ChangeSpec := { name := "changeRows", fn := fun _ => fun
  | [d1, d2] => { results := [.lit (.bool true)], args := [d1, d2] }
  | _ => none }
def changeRowsRow : OpenClaim := { program := "ytocdifjdeifclaa", sum := "92f6b4325d59313968017546202bd621c917340ba3ef30ab33c7462c7a57456a", func := "gemel/gemellaw12.ChangeRows", spec := "changeRows", unfollowed := true, recurses := true, plainKeys := false, apart := false }
def ChangeRowsSaid : Prop := changeRowsRow.holds Try.pinned (OpenSpec.ofChange changeRowsSpec)

/-- ITS FALSE NEIGHBOUR: 'it returns false'. Refute it at one input. -/
def changeRowsWrong : ChangeSpec := { name := "changeRows", fn := fun _ => fun
  | [d1, d2] => { results := [.lit (.bool false)], args := [d1, d2] }
  | _ => none }
def ChangeRowsWrongFalsely : Prop := changeRowsRow.holds Try.pinned (OpenSpec.ofChange changeRowsWrong)

/-- 'gemellaw12.ChangeBytes': WHATEVER THE INPUT: true; the input reads as it did. -/
def changeBytesSpec : ChangeSpec := { name := "changeBytes", fn := fun _ => fun
  | [d1, d2, d3] => { results := [.lit (.bool true)], args := [d1, d2, d3] }
  | _ => none }
def changeBytesRow : OpenClaim := { program := "ytocdifjdeifclaa", sum := "92f6b4325d59313968017546202bd621c917340ba3ef30ab33c7462c7a57456a", func := "gemel/gemellaw12.ChangeBytes", spec := "changeBytes", unfollowed := true, recurses := true, plainKeys := false, apart := false }
def ChangeBytesSaid : Prop := changeBytesRow.holds Try.pinned (OpenSpec.ofChange changeBytesSpec)

/-- ITS FALSE NEIGHBOUR: 'it returns false'. Refute it at one input. -/
def changeBytesWrong : ChangeSpec := { name := "changeBytes", fn := fun _ => fun
  | [d1, d2, d3] => { results := [.lit (.bool false)], args := [d1, d2, d3] }
  | _ => none }
def ChangeBytesWrongFalsely : Prop := changeBytesRow.holds Try.pinned (OpenSpec.ofChange changeBytesWrong)

/-- 'gemellaw12.ChangeBack': WHATEVER THE INPUT: true; the input reads as it did. -/
def changeBackSpec : ChangeSpec := { name := "changeBack", fn := fun _ => fun
  | [d1, d2, d3] => { results := [.lit (.bool true)], args := [d1, d2, d3] }
  | _ => none }
def changeBackRow : OpenClaim := { program := "ytocdifjdeifclaa", sum := "92f6b4325d59313968017546202bd621c917340ba3ef30ab33c7462c7a57456a", func := "gemel/gemellaw12.ChangeBack", spec := "changeBack", unfollowed := true, recurses := true, plainKeys := false, apart := false }
def ChangeBackSaid : Prop := changeBackRow.holds Try.pinned (OpenSpec.ofChange changeBackSpec)

/-- ITS FALSE NEIGHBOUR: 'it returns false'. Refute it at one input. -/
def changeBackWrong : ChangeSpec := { name := "changeBack", fn := fun _ => fun
  | [d1, d2, d3] => { results := [.lit (.bool false)], args := [d1, d2, d3] }
  | _ => none }
def ChangeBackWrongFalsely : Prop := changeBackRow.holds Try.pinned (OpenSpec.ofChange changeBackWrong)

/-- 'gemellaw12.ChangeCanon': WHATEVER THE INPUT: true; the input reads as it did. -/
def changeCanonSpec : ChangeSpec := { name := "changeCanon", fn := fun _ => fun
  | [d] => { results := [.lit (.bool true)], args := [d] }
  | _ => none }
def changeCanonRow : OpenClaim := { program := "ytocdifjdeifclaa", sum := "92f6b4325d59313968017546202bd621c917340ba3ef30ab33c7462c7a57456a", func := "gemel/gemellaw12.ChangeCanon", spec := "changeCanon", inPlace := ["internal/reflectlite.ValueOf", "internal/reflectlite.Swapper", "(internal/reflectlite.Value).Len"], unfollowed := true, recurses := true, plainKeys := false, apart := false }
def ChangeCanonSaid : Prop := changeCanonRow.holds Try.pinned (OpenSpec.ofChange changeCanonSpec)

/-- ITS FALSE NEIGHBOUR: 'it returns false'. Refute it at one input. -/
def changeCanonWrong : ChangeSpec := { name := "changeCanon", fn := fun _ => fun
  | [d] => { results := [.lit (.bool false)], args := [d] }
  | _ => none }
def ChangeCanonWrongFalsely : Prop := changeCanonRow.holds Try.pinned (OpenSpec.ofChange changeCanonWrong)

/-- 'gemellaw12.ChangeOrder': WHATEVER THE INPUT: true; the input reads as it did. -/
def changeOrderSpec : ChangeSpec := { name := "changeOrder", fn := fun _ => fun
  | [d1, d2] => { results := [.lit (.bool true)], args := [d1, d2] }
  | _ => none }
def changeOrderRow : OpenClaim := { program := "ytocdifjdeifclaa", sum := "92f6b4325d59313968017546202bd621c917340ba3ef30ab33c7462c7a57456a", func := "gemel/gemellaw12.ChangeOrder", spec := "changeOrder", inPlace := ["internal/reflectlite.ValueOf", "internal/reflectlite.Swapper", "(internal/reflectlite.Value).Len"], unfollowed := true, recurses := true, plainKeys := false, apart := false }
def ChangeOrderSaid : Prop := changeOrderRow.holds Try.pinned (OpenSpec.ofChange changeOrderSpec)

/-- ITS FALSE NEIGHBOUR: 'it returns false'. Refute it at one input. -/
def changeOrderWrong : ChangeSpec := { name := "changeOrder", fn := fun _ => fun
  | [d1, d2] => { results := [.lit (.bool false)], args := [d1, d2] }
  | _ => none }
def ChangeOrderWrongFalsely : Prop := changeOrderRow.holds Try.pinned (OpenSpec.ofChange changeOrderWrong)

/- THE SECOND FORM. 'bulk': how many values and letters a reading holds, each counted each time it is reached (what is shared counts as often as it is met; a slice's spare places count too). A statement '..UptoSaid' is the law's where the arguments, and the package variables that the reading takes, are together of bulk at most 1048576: NARROWER than '..Said'. Prove '..Said' where nothing that the law and all that it calls make is longer than what came in: it says more and counts as full. Else prove '..UptoSaid'. A law counts once. -/
mutual
def uptoBulk {H : Type} : DataW H → Nat
  | .lit (.string bytes) => bytes.length + 1
  | .lit _ => 1
  | .nil => 1
  | .ptr d => uptoBulk d + 1
  | .slice elems spare => uptoBulkAll elems + uptoBulkAll spare + 1
  | .agg parts => uptoBulkAll parts + 1
  | .iface _ d => uptoBulk d + 1
  | .map entries => uptoBulkEntries entries + 1
  | .held _ => 1
def uptoBulkAll {H : Type} : List (DataW H) → Nat
  | [] => 0
  | d :: r => uptoBulk d + uptoBulkAll r
def uptoBulkEntries {H : Type} : List (Lit × DataW H) → Nat
  | [] => 0
  | x :: r => uptoBulkEntry x + uptoBulkEntries r
def uptoBulkEntry {H : Type} : Lit × DataW H → Nat
  | (.string bytes, d) => bytes.length + uptoBulk d + 1
  | (_, d) => uptoBulk d + 1
 end
def uptoSmall : (H : Type) → List (DataW H) → Bool := fun _ ds => decide (uptoBulkAll ds ≤ 1048576)
def OpenSpec.upto (s : _root_.Go.ChangeSpec) : _root_.Go.OpenSpec := { _root_.Go.OpenSpec.ofChange s with cond := some uptoSmall }

/-- 'gemellaw12.ChangeChecks', WHERE WHAT IT READS IS OF BULK AT MOST 1048576: true; the input reads as it did. -/
def changeChecksUptoRow : OpenClaim := { program := "ytocdifjdeifclaa", sum := "92f6b4325d59313968017546202bd621c917340ba3ef30ab33c7462c7a57456a", func := "gemel/gemellaw12.ChangeChecks", spec := "changeChecks", unfollowed := true, recurses := true, plainKeys := false, apart := false, narrowed := true }
def ChangeChecksUptoSaid : Prop := changeChecksUptoRow.holds Try.pinned (OpenSpec.upto changeChecksSpec)

/-- 'gemellaw12.ChangeRows', WHERE WHAT IT READS IS OF BULK AT MOST 1048576: true; the input reads as it did. -/
def changeRowsUptoRow : OpenClaim := { program := "ytocdifjdeifclaa", sum := "92f6b4325d59313968017546202bd621c917340ba3ef30ab33c7462c7a57456a", func := "gemel/gemellaw12.ChangeRows", spec := "changeRows", unfollowed := true, recurses := true, plainKeys := false, apart := false, narrowed := true }
def ChangeRowsUptoSaid : Prop := changeRowsUptoRow.holds Try.pinned (OpenSpec.upto changeRowsSpec)

/-- 'gemellaw12.ChangeBytes', WHERE WHAT IT READS IS OF BULK AT MOST 1048576: true; the input reads as it did. -/
def changeBytesUptoRow : OpenClaim := { program := "ytocdifjdeifclaa", sum := "92f6b4325d59313968017546202bd621c917340ba3ef30ab33c7462c7a57456a", func := "gemel/gemellaw12.ChangeBytes", spec := "changeBytes", unfollowed := true, recurses := true, plainKeys := false, apart := false, narrowed := true }
def ChangeBytesUptoSaid : Prop := changeBytesUptoRow.holds Try.pinned (OpenSpec.upto changeBytesSpec)

/-- 'gemellaw12.ChangeBack', WHERE WHAT IT READS IS OF BULK AT MOST 1048576: true; the input reads as it did. -/
def changeBackUptoRow : OpenClaim := { program := "ytocdifjdeifclaa", sum := "92f6b4325d59313968017546202bd621c917340ba3ef30ab33c7462c7a57456a", func := "gemel/gemellaw12.ChangeBack", spec := "changeBack", unfollowed := true, recurses := true, plainKeys := false, apart := false, narrowed := true }
def ChangeBackUptoSaid : Prop := changeBackUptoRow.holds Try.pinned (OpenSpec.upto changeBackSpec)

/-- 'gemellaw12.ChangeCanon', WHERE WHAT IT READS IS OF BULK AT MOST 1048576: true; the input reads as it did. -/
def changeCanonUptoRow : OpenClaim := { program := "ytocdifjdeifclaa", sum := "92f6b4325d59313968017546202bd621c917340ba3ef30ab33c7462c7a57456a", func := "gemel/gemellaw12.ChangeCanon", spec := "changeCanon", inPlace := ["internal/reflectlite.ValueOf", "internal/reflectlite.Swapper", "(internal/reflectlite.Value).Len"], unfollowed := true, recurses := true, plainKeys := false, apart := false, narrowed := true }
def ChangeCanonUptoSaid : Prop := changeCanonUptoRow.holds Try.pinned (OpenSpec.upto changeCanonSpec)

/-- 'gemellaw12.ChangeOrder', WHERE WHAT IT READS IS OF BULK AT MOST 1048576: true; the input reads as it did. -/
def changeOrderUptoRow : OpenClaim := { program := "ytocdifjdeifclaa", sum := "92f6b4325d59313968017546202bd621c917340ba3ef30ab33c7462c7a57456a", func := "gemel/gemellaw12.ChangeOrder", spec := "changeOrder", inPlace := ["internal/reflectlite.ValueOf", "internal/reflectlite.Swapper", "(internal/reflectlite.Value).Len"], unfollowed := true, recurses := true, plainKeys := false, apart := false, narrowed := true }
def ChangeOrderUptoSaid : Prop := changeOrderUptoRow.holds Try.pinned (OpenSpec.upto changeOrderSpec)

end Rows
end Go.Proofs.Ytocdifjdeifclaa
