/-
  DERIVED. GIVEN WITH THE SEED: THE CARDS: each row of YtlicdhdpngahgaaDoorRows.lean that lists a variable, with what it lists TIED to the program's text (the seventh form; the later family's looks); each row that meets fmt, with fmt's text TOLD by the authors' own Lean function (tested against real Go, not proved from fmt's source: count such statements apart). THE CARD IS WHAT COUNTS. Prove the row's statement (the work); the ties are given (YtlicdhdpngahgaaDoorTie.lean); close each card by the builder's one call (the guide's Derived/Test/ToyasCard.lean, 'card_holds'). Laid BY PROGRAM, IN A SANDBOX (cutbox-door.mjs). By AI agents, Wed Nov 11 2026. No macro, syntax, notation, axiom, sorry.
-/
import Derived.Test.YtlicdhdpngahgaaDoorRows
import GoSem.ClaimSeven
namespace Go.Proofs.YtlicdhdpngahgaaDoor
namespace Rows

/-- THE TIED CARD OF 'honeycomblaw12.RecordBytes'. -/
def recordBytesCard : Claim7 := { stood := { row := recordBytesRow, standIns := [], harness := (true, "5027a3fbab1b9184b404a105d5fc0144bff04c1a05e04d3a93f67cf7387c749e"), looks := false }, kinds := [], alts := [], laidByText := true, laidKinds := [.listed, .data], laidTests := true, laidLooks := .later }
def RecordBytesCardSaid : Prop := Claim7.holds Tryd.pinned (.plain (OpenSpec.ofChange recordBytesSpec)) recordBytesCard

/-- THE TIED CARD OF 'honeycomblaw12.RecordSizes'. -/
def recordSizesCard : Claim7 := { stood := { row := recordSizesRow, standIns := [], harness := (true, "5027a3fbab1b9184b404a105d5fc0144bff04c1a05e04d3a93f67cf7387c749e"), looks := false }, kinds := [], alts := [], laidByText := true, laidKinds := [.listed, .data], laidTests := true, laidLooks := .later }
def RecordSizesCardSaid : Prop := Claim7.holds Tryd.pinned (.plain (OpenSpec.ofChange recordSizesSpec)) recordSizesCard

/-- THE TIED CARD OF 'honeycomblaw12.RecordNames'. -/
def recordNamesCard : Claim7 := { stood := { row := recordNamesRow, standIns := [], harness := (true, "5027a3fbab1b9184b404a105d5fc0144bff04c1a05e04d3a93f67cf7387c749e"), looks := false }, kinds := [], alts := [], laidByText := true, laidKinds := [.listed, .data], laidTests := true, laidLooks := .later }
def RecordNamesCardSaid : Prop := Claim7.holds Tryd.pinned (.plain (OpenSpec.ofChange recordNamesSpec)) recordNamesCard

/-- THE TIED CARD OF 'honeycomblaw12.RecordTurned'. -/
def recordTurnedCard : Claim7 := { stood := { row := recordTurnedRow, standIns := [], harness := (true, "5027a3fbab1b9184b404a105d5fc0144bff04c1a05e04d3a93f67cf7387c749e"), looks := false }, kinds := [], alts := [], laidByText := true, laidKinds := [.listed, .data], laidTests := true, laidLooks := .later }
def RecordTurnedCardSaid : Prop := Claim7.holds Tryd.pinned (.plain (OpenSpec.ofChange recordTurnedSpec)) recordTurnedCard

/-- THE TIED CARD OF 'honeycomblaw12.RecordEdges'. -/
def recordEdgesCard : Claim7 := { stood := { row := recordEdgesRow, standIns := [], harness := (true, "5027a3fbab1b9184b404a105d5fc0144bff04c1a05e04d3a93f67cf7387c749e"), looks := false }, kinds := [], alts := [], laidByText := true, laidKinds := [.listed, .data], laidTests := true, laidLooks := .later }
def RecordEdgesCardSaid : Prop := Claim7.holds Tryd.pinned (.plain (OpenSpec.ofChange recordEdgesSpec)) recordEdgesCard

/-- THE TIED CARD OF 'honeycomblaw12.RecordMany'. -/
def recordManyCard : Claim7 := { stood := { row := recordManyRow, standIns := [], harness := (true, "5027a3fbab1b9184b404a105d5fc0144bff04c1a05e04d3a93f67cf7387c749e"), looks := false }, kinds := [], alts := [], laidByText := true, laidKinds := [.listed, .data], laidTests := true, laidLooks := .later }
def RecordManyCardSaid : Prop := Claim7.holds Tryd.pinned (.plain (OpenSpec.ofChange recordManySpec)) recordManyCard

/-- THE TIED CARD OF 'honeycomblaw14.WalFull'. -/
def walFullCard : Claim7 := { stood := { row := walFullRow, standIns := [], harness := (true, "5027a3fbab1b9184b404a105d5fc0144bff04c1a05e04d3a93f67cf7387c749e"), looks := false }, kinds := [], alts := [], laidByText := true, laidKinds := [.listed, .data], laidTests := true, laidLooks := .later }
def WalFullCardSaid : Prop := Claim7.holds Tryd.pinned (.plain (OpenSpec.ofChange walFullSpec)) walFullCard

/-- THE TIED CARD OF 'honeycomblaw14.WalLeft'. -/
def walLeftCard : Claim7 := { stood := { row := walLeftRow, standIns := [], harness := (true, "5027a3fbab1b9184b404a105d5fc0144bff04c1a05e04d3a93f67cf7387c749e"), looks := false }, kinds := [], alts := [], laidByText := true, laidKinds := [.listed, .data], laidTests := true, laidLooks := .later }
def WalLeftCardSaid : Prop := Claim7.holds Tryd.pinned (.plain (OpenSpec.ofChange walLeftSpec)) walLeftCard

/-- THE TIED CARD OF 'honeycomblaw14.WalErrors'. -/
def walErrorsCard : Claim7 := { stood := { row := walErrorsRow, standIns := [], harness := (true, "5027a3fbab1b9184b404a105d5fc0144bff04c1a05e04d3a93f67cf7387c749e"), looks := false }, kinds := [], alts := [], laidByText := true, laidKinds := [.listed, .data], laidTests := true, laidLooks := .later }
def WalErrorsCardSaid : Prop := Claim7.holds Tryd.pinned (.plain (OpenSpec.ofChange walErrorsSpec)) walErrorsCard

/-- THE TIED CARD OF 'honeycomblaw14.WalEpochs'. -/
def walEpochsCard : Claim7 := { stood := { row := walEpochsRow, standIns := [], harness := (true, "5027a3fbab1b9184b404a105d5fc0144bff04c1a05e04d3a93f67cf7387c749e"), looks := false }, kinds := [], alts := [], laidByText := true, laidKinds := [.listed, .data], laidTests := true, laidLooks := .later }
def WalEpochsCardSaid : Prop := Claim7.holds Tryd.pinned (.plain (OpenSpec.ofChange walEpochsSpec)) walEpochsCard

/-- THE TIED CARD OF 'honeycomblaw14.WalLasts'. -/
def walLastsCard : Claim7 := { stood := { row := walLastsRow, standIns := [], harness := (true, "5027a3fbab1b9184b404a105d5fc0144bff04c1a05e04d3a93f67cf7387c749e"), looks := false }, kinds := [], alts := [], laidByText := true, laidKinds := [.listed, .data], laidTests := true, laidLooks := .later }
def WalLastsCardSaid : Prop := Claim7.holds Tryd.pinned (.plain (OpenSpec.ofChange walLastsSpec)) walLastsCard

/-- THE TIED CARD OF 'honeycomblaw14.WalTo'. -/
def walToCard : Claim7 := { stood := { row := walToRow, standIns := [], harness := (true, "5027a3fbab1b9184b404a105d5fc0144bff04c1a05e04d3a93f67cf7387c749e"), looks := false }, kinds := [], alts := [], laidByText := true, laidKinds := [.listed, .data], laidTests := true, laidLooks := .later }
def WalToCardSaid : Prop := Claim7.holds Tryd.pinned (.plain (OpenSpec.ofChange walToSpec)) walToCard

/-- THE SECOND FORM's CARD OF 'honeycomblaw12.RecordBytes'. -/
def recordBytesUptoCard : Claim7 := { stood := { row := recordBytesUptoRow, standIns := [], harness := (true, "5027a3fbab1b9184b404a105d5fc0144bff04c1a05e04d3a93f67cf7387c749e"), looks := false }, kinds := [], alts := [], laidByText := true, laidKinds := [.listed, .data], laidTests := true, laidLooks := .later }
def RecordBytesUptoCardSaid : Prop := Claim7.holds Tryd.pinned (.plain (OpenSpec.upto recordBytesSpec)) recordBytesUptoCard

/-- THE SECOND FORM's CARD OF 'honeycomblaw12.RecordSizes'. -/
def recordSizesUptoCard : Claim7 := { stood := { row := recordSizesUptoRow, standIns := [], harness := (true, "5027a3fbab1b9184b404a105d5fc0144bff04c1a05e04d3a93f67cf7387c749e"), looks := false }, kinds := [], alts := [], laidByText := true, laidKinds := [.listed, .data], laidTests := true, laidLooks := .later }
def RecordSizesUptoCardSaid : Prop := Claim7.holds Tryd.pinned (.plain (OpenSpec.upto recordSizesSpec)) recordSizesUptoCard

/-- THE SECOND FORM's CARD OF 'honeycomblaw12.RecordNames'. -/
def recordNamesUptoCard : Claim7 := { stood := { row := recordNamesUptoRow, standIns := [], harness := (true, "5027a3fbab1b9184b404a105d5fc0144bff04c1a05e04d3a93f67cf7387c749e"), looks := false }, kinds := [], alts := [], laidByText := true, laidKinds := [.listed, .data], laidTests := true, laidLooks := .later }
def RecordNamesUptoCardSaid : Prop := Claim7.holds Tryd.pinned (.plain (OpenSpec.upto recordNamesSpec)) recordNamesUptoCard

/-- THE SECOND FORM's CARD OF 'honeycomblaw12.RecordTurned'. -/
def recordTurnedUptoCard : Claim7 := { stood := { row := recordTurnedUptoRow, standIns := [], harness := (true, "5027a3fbab1b9184b404a105d5fc0144bff04c1a05e04d3a93f67cf7387c749e"), looks := false }, kinds := [], alts := [], laidByText := true, laidKinds := [.listed, .data], laidTests := true, laidLooks := .later }
def RecordTurnedUptoCardSaid : Prop := Claim7.holds Tryd.pinned (.plain (OpenSpec.upto recordTurnedSpec)) recordTurnedUptoCard

/-- THE SECOND FORM's CARD OF 'honeycomblaw12.RecordEdges'. -/
def recordEdgesUptoCard : Claim7 := { stood := { row := recordEdgesUptoRow, standIns := [], harness := (true, "5027a3fbab1b9184b404a105d5fc0144bff04c1a05e04d3a93f67cf7387c749e"), looks := false }, kinds := [], alts := [], laidByText := true, laidKinds := [.listed, .data], laidTests := true, laidLooks := .later }
def RecordEdgesUptoCardSaid : Prop := Claim7.holds Tryd.pinned (.plain (OpenSpec.upto recordEdgesSpec)) recordEdgesUptoCard

/-- THE SECOND FORM's CARD OF 'honeycomblaw12.RecordMany'. -/
def recordManyUptoCard : Claim7 := { stood := { row := recordManyUptoRow, standIns := [], harness := (true, "5027a3fbab1b9184b404a105d5fc0144bff04c1a05e04d3a93f67cf7387c749e"), looks := false }, kinds := [], alts := [], laidByText := true, laidKinds := [.listed, .data], laidTests := true, laidLooks := .later }
def RecordManyUptoCardSaid : Prop := Claim7.holds Tryd.pinned (.plain (OpenSpec.upto recordManySpec)) recordManyUptoCard

/-- THE SECOND FORM's CARD OF 'honeycomblaw14.WalFull'. -/
def walFullUptoCard : Claim7 := { stood := { row := walFullUptoRow, standIns := [], harness := (true, "5027a3fbab1b9184b404a105d5fc0144bff04c1a05e04d3a93f67cf7387c749e"), looks := false }, kinds := [], alts := [], laidByText := true, laidKinds := [.listed, .data], laidTests := true, laidLooks := .later }
def WalFullUptoCardSaid : Prop := Claim7.holds Tryd.pinned (.plain (OpenSpec.upto walFullSpec)) walFullUptoCard

/-- THE SECOND FORM's CARD OF 'honeycomblaw14.WalLeft'. -/
def walLeftUptoCard : Claim7 := { stood := { row := walLeftUptoRow, standIns := [], harness := (true, "5027a3fbab1b9184b404a105d5fc0144bff04c1a05e04d3a93f67cf7387c749e"), looks := false }, kinds := [], alts := [], laidByText := true, laidKinds := [.listed, .data], laidTests := true, laidLooks := .later }
def WalLeftUptoCardSaid : Prop := Claim7.holds Tryd.pinned (.plain (OpenSpec.upto walLeftSpec)) walLeftUptoCard

/-- THE SECOND FORM's CARD OF 'honeycomblaw14.WalErrors'. -/
def walErrorsUptoCard : Claim7 := { stood := { row := walErrorsUptoRow, standIns := [], harness := (true, "5027a3fbab1b9184b404a105d5fc0144bff04c1a05e04d3a93f67cf7387c749e"), looks := false }, kinds := [], alts := [], laidByText := true, laidKinds := [.listed, .data], laidTests := true, laidLooks := .later }
def WalErrorsUptoCardSaid : Prop := Claim7.holds Tryd.pinned (.plain (OpenSpec.upto walErrorsSpec)) walErrorsUptoCard

/-- THE SECOND FORM's CARD OF 'honeycomblaw14.WalEpochs'. -/
def walEpochsUptoCard : Claim7 := { stood := { row := walEpochsUptoRow, standIns := [], harness := (true, "5027a3fbab1b9184b404a105d5fc0144bff04c1a05e04d3a93f67cf7387c749e"), looks := false }, kinds := [], alts := [], laidByText := true, laidKinds := [.listed, .data], laidTests := true, laidLooks := .later }
def WalEpochsUptoCardSaid : Prop := Claim7.holds Tryd.pinned (.plain (OpenSpec.upto walEpochsSpec)) walEpochsUptoCard

/-- THE SECOND FORM's CARD OF 'honeycomblaw14.WalLasts'. -/
def walLastsUptoCard : Claim7 := { stood := { row := walLastsUptoRow, standIns := [], harness := (true, "5027a3fbab1b9184b404a105d5fc0144bff04c1a05e04d3a93f67cf7387c749e"), looks := false }, kinds := [], alts := [], laidByText := true, laidKinds := [.listed, .data], laidTests := true, laidLooks := .later }
def WalLastsUptoCardSaid : Prop := Claim7.holds Tryd.pinned (.plain (OpenSpec.upto walLastsSpec)) walLastsUptoCard

/-- THE SECOND FORM's CARD OF 'honeycomblaw14.WalTo'. -/
def walToUptoCard : Claim7 := { stood := { row := walToUptoRow, standIns := [], harness := (true, "5027a3fbab1b9184b404a105d5fc0144bff04c1a05e04d3a93f67cf7387c749e"), looks := false }, kinds := [], alts := [], laidByText := true, laidKinds := [.listed, .data], laidTests := true, laidLooks := .later }
def WalToUptoCardSaid : Prop := Claim7.holds Tryd.pinned (.plain (OpenSpec.upto walToSpec)) walToUptoCard
end Rows
end Go.Proofs.YtlicdhdpngahgaaDoor
