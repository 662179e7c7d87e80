/-
  DERIVED. GIVEN WITH THE SEED: THE CARDS: each row of YtconkncoohcdfaaDoorRows.lean that lists a variable, with what it lists TIED to the program's text (the seventh form; the later family's looks); each row that meets fmt, with fmt's text TOLD by the authors' own Lean function (tested against real Go, not proved from fmt's source: count such statements apart). THE CARD IS WHAT COUNTS. Prove the row's statement (the work); the ties are given (YtconkncoohcdfaaDoorTie.lean); close each card by the builder's one call (the guide's Derived/Test/ToyasCard.lean, 'card_holds'). Laid BY PROGRAM, IN A SANDBOX (cutbox-door.mjs). By AI agents, Wed Nov 11 2026. No macro, syntax, notation, axiom, sorry.
-/
import Derived.Test.YtconkncoohcdfaaDoorRows
import GoSem.ClaimSeven
namespace Go.Proofs.YtconkncoohcdfaaDoor
namespace Rows

/-- THE TIED CARD OF 'tidemarklaw21.GateReplies'. -/
def gateRepliesCard : Claim7 := { stood := { row := gateRepliesRow, standIns := [], harness := (true, "7e4d31f1781341d0a44c02bb3b20a447a5446a8bd7cd787891dde36ba3d85f61"), looks := true }, kinds := [], alts := [], laidByText := true, laidKinds := [.data, .data, .data, .data], laidTests := true, laidLooks := .later }
def GateRepliesCardSaid : Prop := Claim7.holds Tryd.pinned (.plain (OpenSpec.ofChange gateRepliesSpec)) gateRepliesCard

/-- THE TIED CARD OF 'tidemarklaw16.SessionNews'. -/
def sessionNewsCard : Claim7 := { stood := { row := sessionNewsRow, standIns := [], harness := (true, "7e4d31f1781341d0a44c02bb3b20a447a5446a8bd7cd787891dde36ba3d85f61"), looks := true }, kinds := [], alts := [], laidByText := true, laidKinds := [.data, .data, .data, .data], laidTests := true, laidLooks := .later }
def SessionNewsCardSaid : Prop := Claim7.holds Tryd.pinned (.plain (OpenSpec.ofChange sessionNewsSpec)) sessionNewsCard

/-- THE TIED CARD OF 'tidemarklaw21.GateRequests'. -/
def gateRequestsCard : Claim7 := { stood := { row := gateRequestsRow, standIns := [], harness := (true, "7e4d31f1781341d0a44c02bb3b20a447a5446a8bd7cd787891dde36ba3d85f61"), looks := true }, kinds := [], alts := [], laidByText := true, laidKinds := [.data, .data, .data, .data, .sentinel, .sentinel, .pinned], laidTests := true, laidLooks := .later }
def GateRequestsCardSaid : Prop := Claim7.holds Tryd.pinned (.plain (OpenSpec.ofChange gateRequestsSpec)) gateRequestsCard

/-- THE TIED CARD OF 'tidemarklaw21.GateParses'. -/
def gateParsesCard : Claim7 := { stood := { row := gateParsesRow, standIns := [], harness := (true, "7e4d31f1781341d0a44c02bb3b20a447a5446a8bd7cd787891dde36ba3d85f61"), looks := true }, kinds := [], alts := [], laidByText := true, laidKinds := [.data, .data, .data, .data, .sentinel, .sentinel, .pinned], laidTests := true, laidLooks := .later }
def GateParsesCardSaid : Prop := Claim7.holds Tryd.pinned (.plain (OpenSpec.ofChange gateParsesSpec)) gateParsesCard

/-- THE SECOND FORM's CARD OF 'tidemarklaw21.GateReplies'. -/
def gateRepliesUptoCard : Claim7 := { stood := { row := gateRepliesUptoRow, standIns := [], harness := (true, "7e4d31f1781341d0a44c02bb3b20a447a5446a8bd7cd787891dde36ba3d85f61"), looks := true }, kinds := [], alts := [], laidByText := true, laidKinds := [.data, .data, .data, .data], laidTests := true, laidLooks := .later }
def GateRepliesUptoCardSaid : Prop := Claim7.holds Tryd.pinned (.plain (OpenSpec.upto gateRepliesSpec)) gateRepliesUptoCard

/-- THE SECOND FORM's CARD OF 'tidemarklaw16.SessionNews'. -/
def sessionNewsUptoCard : Claim7 := { stood := { row := sessionNewsUptoRow, standIns := [], harness := (true, "7e4d31f1781341d0a44c02bb3b20a447a5446a8bd7cd787891dde36ba3d85f61"), looks := true }, kinds := [], alts := [], laidByText := true, laidKinds := [.data, .data, .data, .data], laidTests := true, laidLooks := .later }
def SessionNewsUptoCardSaid : Prop := Claim7.holds Tryd.pinned (.plain (OpenSpec.upto sessionNewsSpec)) sessionNewsUptoCard

/-- THE SECOND FORM's CARD OF 'tidemarklaw21.GateRequests'. -/
def gateRequestsUptoCard : Claim7 := { stood := { row := gateRequestsUptoRow, standIns := [], harness := (true, "7e4d31f1781341d0a44c02bb3b20a447a5446a8bd7cd787891dde36ba3d85f61"), looks := true }, kinds := [], alts := [], laidByText := true, laidKinds := [.data, .data, .data, .data, .sentinel, .sentinel, .pinned], laidTests := true, laidLooks := .later }
def GateRequestsUptoCardSaid : Prop := Claim7.holds Tryd.pinned (.plain (OpenSpec.upto gateRequestsSpec)) gateRequestsUptoCard

/-- THE SECOND FORM's CARD OF 'tidemarklaw21.GateParses'. -/
def gateParsesUptoCard : Claim7 := { stood := { row := gateParsesUptoRow, standIns := [], harness := (true, "7e4d31f1781341d0a44c02bb3b20a447a5446a8bd7cd787891dde36ba3d85f61"), looks := true }, kinds := [], alts := [], laidByText := true, laidKinds := [.data, .data, .data, .data, .sentinel, .sentinel, .pinned], laidTests := true, laidLooks := .later }
def GateParsesUptoCardSaid : Prop := Claim7.holds Tryd.pinned (.plain (OpenSpec.upto gateParsesSpec)) gateParsesUptoCard
end Rows
end Go.Proofs.YtconkncoohcdfaaDoor
