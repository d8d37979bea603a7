/-
  DERIVED. GIVEN WITH THE SEED: THE CARDS: each row of YtacabcpjaadijaaDoorRows.lean that lists a variable, with what it lists TIED to the program's text (the seventh form; the later family's looks); each row that meets fmt, with fmt's text TOLD by the authors' own Lean function (tested against real Go, not proved from fmt's source: count such statements apart). THE CARD IS WHAT COUNTS. Prove the row's statement (the work); the ties are given (YtacabcpjaadijaaDoorTie.lean); close each card by the builder's one call (the guide's Derived/Test/ToyasCard.lean, 'card_holds'). Laid BY PROGRAM, IN A SANDBOX (cutbox-door.mjs). By AI agents, Wed Nov 11 2026. No macro, syntax, notation, axiom, sorry.
-/
import Derived.Test.YtacabcpjaadijaaDoorRows
import GoSem.ClaimSeven
namespace Go.Proofs.YtacabcpjaadijaaDoor
namespace Rows

/-- THE TIED CARD OF 'gemellaw19.CaptureOwn'. -/
def captureOwnCard : Claim7 := { stood := { row := captureOwnRow, standIns := [], harness := (true, "9e86c7e83c2f0c3e5419a8b0090c885436515031e5bf4d45bf5dd1d20d1fe245"), looks := false }, kinds := [], alts := [], laidByText := true, laidKinds := [.data, .data, .data], laidTests := true, laidLooks := .later }
def CaptureOwnCardSaid : Prop := Claim7.holds Tryd.pinned (.plain (OpenSpec.ofChange captureOwnSpec)) captureOwnCard

/-- THE TIED CARD OF 'gemellaw19.CaptureNotes'. -/
def captureNotesCard : Claim7 := { stood := { row := captureNotesRow, standIns := [], harness := (true, "9e86c7e83c2f0c3e5419a8b0090c885436515031e5bf4d45bf5dd1d20d1fe245"), looks := false }, kinds := [], alts := [], laidByText := true, laidKinds := [.data, .data, .data], laidTests := true, laidLooks := .later }
def CaptureNotesCardSaid : Prop := Claim7.holds Tryd.pinned (.plain (OpenSpec.ofChange captureNotesSpec)) captureNotesCard

/-- THE TIED CARD OF 'gemellaw19.CaptureReads'. -/
def captureReadsCard : Claim7 := { stood := { row := captureReadsRow, standIns := [], harness := (true, "9e86c7e83c2f0c3e5419a8b0090c885436515031e5bf4d45bf5dd1d20d1fe245"), looks := false }, kinds := [], alts := [], laidByText := true, laidKinds := [.data, .data, .data], laidTests := true, laidLooks := .later }
def CaptureReadsCardSaid : Prop := Claim7.holds Tryd.pinned (.plain (OpenSpec.ofChange captureReadsSpec)) captureReadsCard

/-- THE TIED CARD OF 'gemellaw19.CaptureBack'. -/
def captureBackCard : Claim7 := { stood := { row := captureBackRow, standIns := [], harness := (true, "9e86c7e83c2f0c3e5419a8b0090c885436515031e5bf4d45bf5dd1d20d1fe245"), looks := false }, kinds := [], alts := [], laidByText := true, laidKinds := [.data, .data, .data], laidTests := true, laidLooks := .later }
def CaptureBackCardSaid : Prop := Claim7.holds Tryd.pinned (.plain (OpenSpec.ofChange captureBackSpec)) captureBackCard

/-- THE TIED CARD OF 'gemellaw19.CaptureTrims'. -/
def captureTrimsCard : Claim7 := { stood := { row := captureTrimsRow, standIns := [], harness := (true, "9e86c7e83c2f0c3e5419a8b0090c885436515031e5bf4d45bf5dd1d20d1fe245"), looks := false }, kinds := [], alts := [], laidByText := true, laidKinds := [.data, .data, .data], laidTests := true, laidLooks := .later }
def CaptureTrimsCardSaid : Prop := Claim7.holds Tryd.pinned (.plain (OpenSpec.ofChange captureTrimsSpec)) captureTrimsCard

/-- THE SECOND FORM's CARD OF 'gemellaw19.CaptureOwn'. -/
def captureOwnUptoCard : Claim7 := { stood := { row := captureOwnUptoRow, standIns := [], harness := (true, "9e86c7e83c2f0c3e5419a8b0090c885436515031e5bf4d45bf5dd1d20d1fe245"), looks := false }, kinds := [], alts := [], laidByText := true, laidKinds := [.data, .data, .data], laidTests := true, laidLooks := .later }
def CaptureOwnUptoCardSaid : Prop := Claim7.holds Tryd.pinned (.plain (OpenSpec.upto captureOwnSpec)) captureOwnUptoCard

/-- THE SECOND FORM's CARD OF 'gemellaw19.CaptureNotes'. -/
def captureNotesUptoCard : Claim7 := { stood := { row := captureNotesUptoRow, standIns := [], harness := (true, "9e86c7e83c2f0c3e5419a8b0090c885436515031e5bf4d45bf5dd1d20d1fe245"), looks := false }, kinds := [], alts := [], laidByText := true, laidKinds := [.data, .data, .data], laidTests := true, laidLooks := .later }
def CaptureNotesUptoCardSaid : Prop := Claim7.holds Tryd.pinned (.plain (OpenSpec.upto captureNotesSpec)) captureNotesUptoCard

/-- THE SECOND FORM's CARD OF 'gemellaw19.CaptureReads'. -/
def captureReadsUptoCard : Claim7 := { stood := { row := captureReadsUptoRow, standIns := [], harness := (true, "9e86c7e83c2f0c3e5419a8b0090c885436515031e5bf4d45bf5dd1d20d1fe245"), looks := false }, kinds := [], alts := [], laidByText := true, laidKinds := [.data, .data, .data], laidTests := true, laidLooks := .later }
def CaptureReadsUptoCardSaid : Prop := Claim7.holds Tryd.pinned (.plain (OpenSpec.upto captureReadsSpec)) captureReadsUptoCard

/-- THE SECOND FORM's CARD OF 'gemellaw19.CaptureBack'. -/
def captureBackUptoCard : Claim7 := { stood := { row := captureBackUptoRow, standIns := [], harness := (true, "9e86c7e83c2f0c3e5419a8b0090c885436515031e5bf4d45bf5dd1d20d1fe245"), looks := false }, kinds := [], alts := [], laidByText := true, laidKinds := [.data, .data, .data], laidTests := true, laidLooks := .later }
def CaptureBackUptoCardSaid : Prop := Claim7.holds Tryd.pinned (.plain (OpenSpec.upto captureBackSpec)) captureBackUptoCard

/-- THE SECOND FORM's CARD OF 'gemellaw19.CaptureTrims'. -/
def captureTrimsUptoCard : Claim7 := { stood := { row := captureTrimsUptoRow, standIns := [], harness := (true, "9e86c7e83c2f0c3e5419a8b0090c885436515031e5bf4d45bf5dd1d20d1fe245"), looks := false }, kinds := [], alts := [], laidByText := true, laidKinds := [.data, .data, .data], laidTests := true, laidLooks := .later }
def CaptureTrimsUptoCardSaid : Prop := Claim7.holds Tryd.pinned (.plain (OpenSpec.upto captureTrimsSpec)) captureTrimsUptoCard
end Rows
end Go.Proofs.YtacabcpjaadijaaDoor
