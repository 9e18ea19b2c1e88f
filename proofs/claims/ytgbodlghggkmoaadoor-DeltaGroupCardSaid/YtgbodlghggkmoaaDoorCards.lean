/-
  DERIVED. GIVEN WITH THE SEED: THE CARDS: each row of YtgbodlghggkmoaaDoorRows.lean that lists a variable, with what it lists TIED to the program's text (the seventh form; the later family's looks); each row that meets fmt, with fmt's text TOLD by the authors' own Lean function (tested against real Go, not proved from fmt's source: count such statements apart). THE CARD IS WHAT COUNTS. Prove the row's statement (the work); the ties are given (YtgbodlghggkmoaaDoorTie.lean); close each card by the builder's one call (the guide's Derived/Test/ToyasCard.lean, 'card_holds'). Laid BY PROGRAM, IN A SANDBOX (cutbox-door.mjs). By AI agents, Wed Nov 11 2026. No macro, syntax, notation, axiom, sorry.
-/
import Derived.Test.YtgbodlghggkmoaaDoorRows
import GoSem.ClaimSeven
namespace Go.Proofs.YtgbodlghggkmoaaDoor
namespace Rows

/-- THE TIED CARD OF 'erratalaw28.DeltaSplits'. -/
def deltaSplitsCard : Claim7 := { stood := { row := deltaSplitsRow, standIns := [], harness := (true, "ade06d96f1636660a901ba4c8de124e9efb971362a5927f6fee941ca6250851a"), looks := true }, kinds := [], alts := [], laidByText := true, laidKinds := [.data, .data, .data], laidTests := true, laidLooks := .later }
def DeltaSplitsCardSaid : Prop := Claim7.holds Tryd.pinned (.plain (OpenSpec.ofChange deltaSplitsSpec)) deltaSplitsCard

/-- THE TIED CARD OF 'erratalaw28.DeltaCounts'. -/
def deltaCountsCard : Claim7 := { stood := { row := deltaCountsRow, standIns := [], harness := (true, "ade06d96f1636660a901ba4c8de124e9efb971362a5927f6fee941ca6250851a"), looks := true }, kinds := [], alts := [], laidByText := true, laidKinds := [.data, .data, .data], laidTests := true, laidLooks := .later }
def DeltaCountsCardSaid : Prop := Claim7.holds Tryd.pinned (.plain (OpenSpec.ofChange deltaCountsSpec)) deltaCountsCard

/-- THE TIED CARD OF 'erratalaw28.DeltaGroup'. -/
def deltaGroupCard : Claim7 := { stood := { row := deltaGroupRow, standIns := [], harness := (true, "ade06d96f1636660a901ba4c8de124e9efb971362a5927f6fee941ca6250851a"), looks := true }, kinds := [], alts := [], laidByText := true, laidKinds := [.data, .data, .data], laidTests := true, laidLooks := .later }
def DeltaGroupCardSaid : Prop := Claim7.holds Tryd.pinned (.plain (OpenSpec.ofChange deltaGroupSpec)) deltaGroupCard

/-- THE TIED CARD OF 'erratalaw41.LedgerPast'. -/
def ledgerPastCard : Claim7 := { stood := { row := ledgerPastRow, standIns := [], harness := (true, "ade06d96f1636660a901ba4c8de124e9efb971362a5927f6fee941ca6250851a"), looks := true }, kinds := [], alts := [], laidByText := true, laidKinds := [.data, .data, .data], laidTests := true, laidLooks := .later }
def LedgerPastCardSaid : Prop := Claim7.holds Tryd.pinned (.plain (OpenSpec.ofChange ledgerPastSpec)) ledgerPastCard

/-- THE TIED CARD OF 'erratalaw28.DeltaTells'. -/
def deltaTellsCard : Claim7 := { stood := { row := deltaTellsRow, standIns := [], harness := (true, "ade06d96f1636660a901ba4c8de124e9efb971362a5927f6fee941ca6250851a"), looks := true }, kinds := [], alts := [], laidByText := true, laidKinds := [.data, .data, .data], laidTests := true, laidLooks := .later }
def DeltaTellsCardSaid : Prop := Claim7.holds Tryd.pinned (.plain (OpenSpec.ofChange deltaTellsSpec)) deltaTellsCard

/-- THE TIED CARD OF 'erratalaw41.LedgerHistory'. -/
def ledgerHistoryCard : Claim7 := { stood := { row := ledgerHistoryRow, standIns := [], harness := (true, "ade06d96f1636660a901ba4c8de124e9efb971362a5927f6fee941ca6250851a"), looks := true }, kinds := [], alts := [], laidByText := true, laidKinds := [.data, .data, .data], laidTests := true, laidLooks := .later }
def LedgerHistoryCardSaid : Prop := Claim7.holds Tryd.pinned (.plain (OpenSpec.ofChange ledgerHistorySpec)) ledgerHistoryCard

/-- THE TIED CARD OF 'erratalaw41.LedgerSums'. -/
def ledgerSumsCard : Claim7 := { stood := { row := ledgerSumsRow, standIns := [], harness := (true, "ade06d96f1636660a901ba4c8de124e9efb971362a5927f6fee941ca6250851a"), looks := true }, kinds := [], alts := [], laidByText := true, laidKinds := [.data, .data, .data], laidTests := true, laidLooks := .later }
def LedgerSumsCardSaid : Prop := Claim7.holds Tryd.pinned (.plain (OpenSpec.ofChange ledgerSumsSpec)) ledgerSumsCard

/-- THE SECOND FORM's CARD OF 'erratalaw28.DeltaSplits'. -/
def deltaSplitsUptoCard : Claim7 := { stood := { row := deltaSplitsUptoRow, standIns := [], harness := (true, "ade06d96f1636660a901ba4c8de124e9efb971362a5927f6fee941ca6250851a"), looks := true }, kinds := [], alts := [], laidByText := true, laidKinds := [.data, .data, .data], laidTests := true, laidLooks := .later }
def DeltaSplitsUptoCardSaid : Prop := Claim7.holds Tryd.pinned (.plain (OpenSpec.upto deltaSplitsSpec)) deltaSplitsUptoCard

/-- THE SECOND FORM's CARD OF 'erratalaw28.DeltaCounts'. -/
def deltaCountsUptoCard : Claim7 := { stood := { row := deltaCountsUptoRow, standIns := [], harness := (true, "ade06d96f1636660a901ba4c8de124e9efb971362a5927f6fee941ca6250851a"), looks := true }, kinds := [], alts := [], laidByText := true, laidKinds := [.data, .data, .data], laidTests := true, laidLooks := .later }
def DeltaCountsUptoCardSaid : Prop := Claim7.holds Tryd.pinned (.plain (OpenSpec.upto deltaCountsSpec)) deltaCountsUptoCard

/-- THE SECOND FORM's CARD OF 'erratalaw28.DeltaGroup'. -/
def deltaGroupUptoCard : Claim7 := { stood := { row := deltaGroupUptoRow, standIns := [], harness := (true, "ade06d96f1636660a901ba4c8de124e9efb971362a5927f6fee941ca6250851a"), looks := true }, kinds := [], alts := [], laidByText := true, laidKinds := [.data, .data, .data], laidTests := true, laidLooks := .later }
def DeltaGroupUptoCardSaid : Prop := Claim7.holds Tryd.pinned (.plain (OpenSpec.upto deltaGroupSpec)) deltaGroupUptoCard

/-- THE SECOND FORM's CARD OF 'erratalaw41.LedgerPast'. -/
def ledgerPastUptoCard : Claim7 := { stood := { row := ledgerPastUptoRow, standIns := [], harness := (true, "ade06d96f1636660a901ba4c8de124e9efb971362a5927f6fee941ca6250851a"), looks := true }, kinds := [], alts := [], laidByText := true, laidKinds := [.data, .data, .data], laidTests := true, laidLooks := .later }
def LedgerPastUptoCardSaid : Prop := Claim7.holds Tryd.pinned (.plain (OpenSpec.upto ledgerPastSpec)) ledgerPastUptoCard

/-- THE SECOND FORM's CARD OF 'erratalaw28.DeltaTells'. -/
def deltaTellsUptoCard : Claim7 := { stood := { row := deltaTellsUptoRow, standIns := [], harness := (true, "ade06d96f1636660a901ba4c8de124e9efb971362a5927f6fee941ca6250851a"), looks := true }, kinds := [], alts := [], laidByText := true, laidKinds := [.data, .data, .data], laidTests := true, laidLooks := .later }
def DeltaTellsUptoCardSaid : Prop := Claim7.holds Tryd.pinned (.plain (OpenSpec.upto deltaTellsSpec)) deltaTellsUptoCard

/-- THE SECOND FORM's CARD OF 'erratalaw41.LedgerHistory'. -/
def ledgerHistoryUptoCard : Claim7 := { stood := { row := ledgerHistoryUptoRow, standIns := [], harness := (true, "ade06d96f1636660a901ba4c8de124e9efb971362a5927f6fee941ca6250851a"), looks := true }, kinds := [], alts := [], laidByText := true, laidKinds := [.data, .data, .data], laidTests := true, laidLooks := .later }
def LedgerHistoryUptoCardSaid : Prop := Claim7.holds Tryd.pinned (.plain (OpenSpec.upto ledgerHistorySpec)) ledgerHistoryUptoCard

/-- THE SECOND FORM's CARD OF 'erratalaw41.LedgerSums'. -/
def ledgerSumsUptoCard : Claim7 := { stood := { row := ledgerSumsUptoRow, standIns := [], harness := (true, "ade06d96f1636660a901ba4c8de124e9efb971362a5927f6fee941ca6250851a"), looks := true }, kinds := [], alts := [], laidByText := true, laidKinds := [.data, .data, .data], laidTests := true, laidLooks := .later }
def LedgerSumsUptoCardSaid : Prop := Claim7.holds Tryd.pinned (.plain (OpenSpec.upto ledgerSumsSpec)) ledgerSumsUptoCard
end Rows
end Go.Proofs.YtgbodlghggkmoaaDoor
