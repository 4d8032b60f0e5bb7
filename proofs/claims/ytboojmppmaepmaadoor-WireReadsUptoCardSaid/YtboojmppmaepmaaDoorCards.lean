/-
  DERIVED. GIVEN WITH THE SEED: THE CARDS: each row of YtboojmppmaepmaaDoorRows.lean that lists a variable, with what it lists TIED to the program's text (the seventh form; the later family's looks); each row that meets fmt, with fmt's text TOLD by the authors' own Lean function (tested against real Go, not proved from fmt's source: count such statements apart). THE CARD IS WHAT COUNTS. Prove the row's statement (the work); the ties are given (YtboojmppmaepmaaDoorTie.lean); close each card by the builder's one call (the guide's Derived/Test/ToyasCard.lean, 'card_holds'). Laid BY PROGRAM, IN A SANDBOX (cutbox-door.mjs). By AI agents, Wed Nov 11 2026. No macro, syntax, notation, axiom, sorry.
-/
import Derived.Test.YtboojmppmaepmaaDoorRows
import GoSem.ClaimSeven
namespace Go.Proofs.YtboojmppmaepmaaDoor
namespace Rows

/-- THE TIED CARD OF 'coffretlaw22.WireMakes'. -/
def wireMakesCard : Claim7 := { stood := { row := wireMakesRow, standIns := [], harness := (true, "68bd4c4c11a969acfb01d6b0bcbac58e67e3c144b3f026b79f893084149066a3"), looks := true }, kinds := [], alts := [], laidByText := true, laidKinds := [.data, .data, .data, .data, .pinned], laidTests := true, laidLooks := .later }
def WireMakesCardSaid : Prop := Claim7.holds Tryd.pinned (.plain (OpenSpec.ofChange wireMakesSpec)) wireMakesCard

/-- THE TIED CARD OF 'coffretlaw22.WireParses'. -/
def wireParsesCard : Claim7 := { stood := { row := wireParsesRow, standIns := [], harness := (true, "68bd4c4c11a969acfb01d6b0bcbac58e67e3c144b3f026b79f893084149066a3"), looks := true }, kinds := [], alts := [], laidByText := true, laidKinds := [.data, .data, .data, .data, .pinned], laidTests := true, laidLooks := .later }
def WireParsesCardSaid : Prop := Claim7.holds Tryd.pinned (.plain (OpenSpec.ofChange wireParsesSpec)) wireParsesCard

/-- THE TIED CARD OF 'coffretlaw22.WireReads'. -/
def wireReadsCard : Claim7 := { stood := { row := wireReadsRow, standIns := [], harness := (true, "68bd4c4c11a969acfb01d6b0bcbac58e67e3c144b3f026b79f893084149066a3"), looks := true }, kinds := [], alts := [], laidByText := true, laidKinds := [.data, .data, .data, .data, .pinned], laidTests := true, laidLooks := .later }
def WireReadsCardSaid : Prop := Claim7.holds Tryd.pinned (.plain (OpenSpec.ofChange wireReadsSpec)) wireReadsCard

/-- THE TIED CARD OF 'coffretlaw22.WireBack'. -/
def wireBackCard : Claim7 := { stood := { row := wireBackRow, standIns := [], harness := (true, "68bd4c4c11a969acfb01d6b0bcbac58e67e3c144b3f026b79f893084149066a3"), looks := true }, kinds := [], alts := [], laidByText := true, laidKinds := [.data, .data, .data, .data, .pinned], laidTests := true, laidLooks := .later }
def WireBackCardSaid : Prop := Claim7.holds Tryd.pinned (.plain (OpenSpec.ofChange wireBackSpec)) wireBackCard

/-- THE TIED CARD OF 'coffretlaw22.WirePieces'. -/
def wirePiecesCard : Claim7 := { stood := { row := wirePiecesRow, standIns := [], harness := (true, "68bd4c4c11a969acfb01d6b0bcbac58e67e3c144b3f026b79f893084149066a3"), looks := true }, kinds := [], alts := [], laidByText := true, laidKinds := [.data, .data, .data, .data, .pinned], laidTests := true, laidLooks := .later }
def WirePiecesCardSaid : Prop := Claim7.holds Tryd.pinned (.plain (OpenSpec.ofChange wirePiecesSpec)) wirePiecesCard

/-- THE TIED CARD OF 'coffretlaw22.WireRow'. -/
def wireRowCard : Claim7 := { stood := { row := wireRowRow, standIns := [], harness := (true, "68bd4c4c11a969acfb01d6b0bcbac58e67e3c144b3f026b79f893084149066a3"), looks := true }, kinds := [], alts := [], laidByText := true, laidKinds := [.data, .data, .data, .data, .pinned], laidTests := true, laidLooks := .later }
def WireRowCardSaid : Prop := Claim7.holds Tryd.pinned (.plain (OpenSpec.ofChange wireRowSpec)) wireRowCard

/-- THE SECOND FORM's CARD OF 'coffretlaw22.WireMakes'. -/
def wireMakesUptoCard : Claim7 := { stood := { row := wireMakesUptoRow, standIns := [], harness := (true, "68bd4c4c11a969acfb01d6b0bcbac58e67e3c144b3f026b79f893084149066a3"), looks := true }, kinds := [], alts := [], laidByText := true, laidKinds := [.data, .data, .data, .data, .pinned], laidTests := true, laidLooks := .later }
def WireMakesUptoCardSaid : Prop := Claim7.holds Tryd.pinned (.plain (OpenSpec.upto wireMakesSpec)) wireMakesUptoCard

/-- THE SECOND FORM's CARD OF 'coffretlaw22.WireParses'. -/
def wireParsesUptoCard : Claim7 := { stood := { row := wireParsesUptoRow, standIns := [], harness := (true, "68bd4c4c11a969acfb01d6b0bcbac58e67e3c144b3f026b79f893084149066a3"), looks := true }, kinds := [], alts := [], laidByText := true, laidKinds := [.data, .data, .data, .data, .pinned], laidTests := true, laidLooks := .later }
def WireParsesUptoCardSaid : Prop := Claim7.holds Tryd.pinned (.plain (OpenSpec.upto wireParsesSpec)) wireParsesUptoCard

/-- THE SECOND FORM's CARD OF 'coffretlaw22.WireReads'. -/
def wireReadsUptoCard : Claim7 := { stood := { row := wireReadsUptoRow, standIns := [], harness := (true, "68bd4c4c11a969acfb01d6b0bcbac58e67e3c144b3f026b79f893084149066a3"), looks := true }, kinds := [], alts := [], laidByText := true, laidKinds := [.data, .data, .data, .data, .pinned], laidTests := true, laidLooks := .later }
def WireReadsUptoCardSaid : Prop := Claim7.holds Tryd.pinned (.plain (OpenSpec.upto wireReadsSpec)) wireReadsUptoCard

/-- THE SECOND FORM's CARD OF 'coffretlaw22.WireBack'. -/
def wireBackUptoCard : Claim7 := { stood := { row := wireBackUptoRow, standIns := [], harness := (true, "68bd4c4c11a969acfb01d6b0bcbac58e67e3c144b3f026b79f893084149066a3"), looks := true }, kinds := [], alts := [], laidByText := true, laidKinds := [.data, .data, .data, .data, .pinned], laidTests := true, laidLooks := .later }
def WireBackUptoCardSaid : Prop := Claim7.holds Tryd.pinned (.plain (OpenSpec.upto wireBackSpec)) wireBackUptoCard

/-- THE SECOND FORM's CARD OF 'coffretlaw22.WirePieces'. -/
def wirePiecesUptoCard : Claim7 := { stood := { row := wirePiecesUptoRow, standIns := [], harness := (true, "68bd4c4c11a969acfb01d6b0bcbac58e67e3c144b3f026b79f893084149066a3"), looks := true }, kinds := [], alts := [], laidByText := true, laidKinds := [.data, .data, .data, .data, .pinned], laidTests := true, laidLooks := .later }
def WirePiecesUptoCardSaid : Prop := Claim7.holds Tryd.pinned (.plain (OpenSpec.upto wirePiecesSpec)) wirePiecesUptoCard

/-- THE SECOND FORM's CARD OF 'coffretlaw22.WireRow'. -/
def wireRowUptoCard : Claim7 := { stood := { row := wireRowUptoRow, standIns := [], harness := (true, "68bd4c4c11a969acfb01d6b0bcbac58e67e3c144b3f026b79f893084149066a3"), looks := true }, kinds := [], alts := [], laidByText := true, laidKinds := [.data, .data, .data, .data, .pinned], laidTests := true, laidLooks := .later }
def WireRowUptoCardSaid : Prop := Claim7.holds Tryd.pinned (.plain (OpenSpec.upto wireRowSpec)) wireRowUptoCard
end Rows
end Go.Proofs.YtboojmppmaepmaaDoor
