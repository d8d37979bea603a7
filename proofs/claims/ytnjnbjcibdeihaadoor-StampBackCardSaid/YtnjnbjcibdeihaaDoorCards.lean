/-
  DERIVED. GIVEN WITH THE SEED: THE CARDS: each row of YtnjnbjcibdeihaaDoorRows.lean that lists a variable, with what it lists TIED to the program's text (the seventh form; the later family's looks); each row that meets fmt, with fmt's text TOLD by the authors' own Lean function (tested against real Go, not proved from fmt's source: count such statements apart). THE CARD IS WHAT COUNTS. Prove the row's statement (the work); the ties are given (YtnjnbjcibdeihaaDoorTie.lean); close each card by the builder's one call (the guide's Derived/Test/ToyasCard.lean, 'card_holds'). Laid BY PROGRAM, IN A SANDBOX (cutbox-door.mjs). By AI agents, Wed Nov 11 2026. No macro, syntax, notation, axiom, sorry.
-/
import Derived.Test.YtnjnbjcibdeihaaDoorRows
import GoSem.ClaimSeven
namespace Go.Proofs.YtnjnbjcibdeihaaDoor
namespace Rows

/-- THE TIED CARD OF 'gemellaw05.StampNexts'. -/
def stampNextsCard : Claim7 := { stood := { row := stampNextsRow, standIns := [], harness := (true, "5ea32f78ddb9eccdc3f00c2f972f62885c6119a92c1f22ebf33d2e864164e276"), looks := true }, kinds := [], alts := [], laidByText := true, laidKinds := [.data, .data, .data], laidTests := true, laidLooks := .later }
def StampNextsCardSaid : Prop := Claim7.holds Tryd.pinned (.plain (OpenSpec.ofChange stampNextsSpec)) stampNextsCard

/-- THE TIED CARD OF 'gemellaw05.StampOn'. -/
def stampOnCard : Claim7 := { stood := { row := stampOnRow, standIns := [], harness := (true, "5ea32f78ddb9eccdc3f00c2f972f62885c6119a92c1f22ebf33d2e864164e276"), looks := true }, kinds := [], alts := [], laidByText := true, laidKinds := [.data, .data, .data], laidTests := true, laidLooks := .later }
def StampOnCardSaid : Prop := Claim7.holds Tryd.pinned (.plain (OpenSpec.ofChange stampOnSpec)) stampOnCard

/-- THE TIED CARD OF 'gemellaw05.StampOrders'. -/
def stampOrdersCard : Claim7 := { stood := { row := stampOrdersRow, standIns := [], harness := (true, "5ea32f78ddb9eccdc3f00c2f972f62885c6119a92c1f22ebf33d2e864164e276"), looks := true }, kinds := [], alts := [], laidByText := true, laidKinds := [.data, .data, .data], laidTests := true, laidLooks := .later }
def StampOrdersCardSaid : Prop := Claim7.holds Tryd.pinned (.plain (OpenSpec.ofChange stampOrdersSpec)) stampOrdersCard

/-- THE TIED CARD OF 'gemellaw05.StampBytes'. -/
def stampBytesCard : Claim7 := { stood := { row := stampBytesRow, standIns := [], harness := (true, "5ea32f78ddb9eccdc3f00c2f972f62885c6119a92c1f22ebf33d2e864164e276"), looks := true }, kinds := [], alts := [], laidByText := true, laidKinds := [.data, .data, .data], laidTests := true, laidLooks := .later }
def StampBytesCardSaid : Prop := Claim7.holds Tryd.pinned (.plain (OpenSpec.ofChange stampBytesSpec)) stampBytesCard

/-- THE TIED CARD OF 'gemellaw05.StampTexts'. -/
def stampTextsCard : Claim7 := { stood := { row := stampTextsRow, standIns := [], harness := (true, "5ea32f78ddb9eccdc3f00c2f972f62885c6119a92c1f22ebf33d2e864164e276"), looks := true }, kinds := [], alts := [], laidByText := true, laidKinds := [.data, .data, .data, .sentinel, .sentinel], laidTests := true, laidLooks := .later }
def StampTextsCardSaid : Prop := Claim7.holds Tryd.pinned (.plain (OpenSpec.ofChange stampTextsSpec)) stampTextsCard

/-- THE TIED CARD OF 'gemellaw05.StampBack'. -/
def stampBackCard : Claim7 := { stood := { row := stampBackRow, standIns := [], harness := (true, "5ea32f78ddb9eccdc3f00c2f972f62885c6119a92c1f22ebf33d2e864164e276"), looks := true }, kinds := [], alts := [], laidByText := true, laidKinds := [.data, .data, .data, .sentinel, .sentinel], laidTests := true, laidLooks := .later }
def StampBackCardSaid : Prop := Claim7.holds Tryd.pinned (.plain (OpenSpec.ofChange stampBackSpec)) stampBackCard

/-- THE SECOND FORM's CARD OF 'gemellaw05.StampNexts'. -/
def stampNextsUptoCard : Claim7 := { stood := { row := stampNextsUptoRow, standIns := [], harness := (true, "5ea32f78ddb9eccdc3f00c2f972f62885c6119a92c1f22ebf33d2e864164e276"), looks := true }, kinds := [], alts := [], laidByText := true, laidKinds := [.data, .data, .data], laidTests := true, laidLooks := .later }
def StampNextsUptoCardSaid : Prop := Claim7.holds Tryd.pinned (.plain (OpenSpec.upto stampNextsSpec)) stampNextsUptoCard

/-- THE SECOND FORM's CARD OF 'gemellaw05.StampOn'. -/
def stampOnUptoCard : Claim7 := { stood := { row := stampOnUptoRow, standIns := [], harness := (true, "5ea32f78ddb9eccdc3f00c2f972f62885c6119a92c1f22ebf33d2e864164e276"), looks := true }, kinds := [], alts := [], laidByText := true, laidKinds := [.data, .data, .data], laidTests := true, laidLooks := .later }
def StampOnUptoCardSaid : Prop := Claim7.holds Tryd.pinned (.plain (OpenSpec.upto stampOnSpec)) stampOnUptoCard

/-- THE SECOND FORM's CARD OF 'gemellaw05.StampOrders'. -/
def stampOrdersUptoCard : Claim7 := { stood := { row := stampOrdersUptoRow, standIns := [], harness := (true, "5ea32f78ddb9eccdc3f00c2f972f62885c6119a92c1f22ebf33d2e864164e276"), looks := true }, kinds := [], alts := [], laidByText := true, laidKinds := [.data, .data, .data], laidTests := true, laidLooks := .later }
def StampOrdersUptoCardSaid : Prop := Claim7.holds Tryd.pinned (.plain (OpenSpec.upto stampOrdersSpec)) stampOrdersUptoCard

/-- THE SECOND FORM's CARD OF 'gemellaw05.StampBytes'. -/
def stampBytesUptoCard : Claim7 := { stood := { row := stampBytesUptoRow, standIns := [], harness := (true, "5ea32f78ddb9eccdc3f00c2f972f62885c6119a92c1f22ebf33d2e864164e276"), looks := true }, kinds := [], alts := [], laidByText := true, laidKinds := [.data, .data, .data], laidTests := true, laidLooks := .later }
def StampBytesUptoCardSaid : Prop := Claim7.holds Tryd.pinned (.plain (OpenSpec.upto stampBytesSpec)) stampBytesUptoCard

/-- THE SECOND FORM's CARD OF 'gemellaw05.StampTexts'. -/
def stampTextsUptoCard : Claim7 := { stood := { row := stampTextsUptoRow, standIns := [], harness := (true, "5ea32f78ddb9eccdc3f00c2f972f62885c6119a92c1f22ebf33d2e864164e276"), looks := true }, kinds := [], alts := [], laidByText := true, laidKinds := [.data, .data, .data, .sentinel, .sentinel], laidTests := true, laidLooks := .later }
def StampTextsUptoCardSaid : Prop := Claim7.holds Tryd.pinned (.plain (OpenSpec.upto stampTextsSpec)) stampTextsUptoCard

/-- THE SECOND FORM's CARD OF 'gemellaw05.StampBack'. -/
def stampBackUptoCard : Claim7 := { stood := { row := stampBackUptoRow, standIns := [], harness := (true, "5ea32f78ddb9eccdc3f00c2f972f62885c6119a92c1f22ebf33d2e864164e276"), looks := true }, kinds := [], alts := [], laidByText := true, laidKinds := [.data, .data, .data, .sentinel, .sentinel], laidTests := true, laidLooks := .later }
def StampBackUptoCardSaid : Prop := Claim7.holds Tryd.pinned (.plain (OpenSpec.upto stampBackSpec)) stampBackUptoCard
end Rows
end Go.Proofs.YtnjnbjcibdeihaaDoor
