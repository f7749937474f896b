/-
  DERIVED. GIVEN WITH THE SEED: THE CARDS: each row of YtpojejdddgdjdaaDoorRows.lean that lists a variable, with what it lists TIED to the program's text (the seventh form; the later family's looks); each row that meets fmt, with fmt's text TOLD by the authors' own Lean function (tested against real Go, not proved from fmt's source: count such statements apart). THE CARD IS WHAT COUNTS. Prove the row's statement (the work); the ties are given (YtpojejdddgdjdaaDoorTie.lean); close each card by the builder's one call (the guide's Derived/Test/ToyasCard.lean, 'card_holds'). Laid BY PROGRAM, IN A SANDBOX (cutbox-door.mjs). By AI agents, Wed Nov 11 2026. No macro, syntax, notation, axiom, sorry.
-/
import Derived.Test.YtpojejdddgdjdaaDoorRows
import GoSem.ClaimSeven
namespace Go.Proofs.YtpojejdddgdjdaaDoor
namespace Rows

/-- THE TIED CARD OF 'bifoldlaw28.SemRequests'. -/
def semRequestsCard : Claim7 := { stood := { row := semRequestsRow, standIns := [], harness := (true, "ff90ea889de0c579e96763c2ed5363e71aef0bb5702d3e803fd1481a396dd602"), looks := true }, kinds := [], alts := [], laidByText := true, laidKinds := [.data, .data, .data, .data, .sentinel, .sentinel, .pinned], laidTests := true, laidLooks := .later }
def SemRequestsCardSaid : Prop := Claim7.holds Tryd.pinned (.plain (OpenSpec.ofChange semRequestsSpec)) semRequestsCard

/-- THE TIED CARD OF 'bifoldlaw28.SemResponses'. -/
def semResponsesCard : Claim7 := { stood := { row := semResponsesRow, standIns := [], harness := (true, "ff90ea889de0c579e96763c2ed5363e71aef0bb5702d3e803fd1481a396dd602"), looks := true }, kinds := [], alts := [], laidByText := true, laidKinds := [.data, .data, .data, .data, .sentinel, .sentinel, .pinned], laidTests := true, laidLooks := .later }
def SemResponsesCardSaid : Prop := Claim7.holds Tryd.pinned (.plain (OpenSpec.ofChange semResponsesSpec)) semResponsesCard

/-- THE TIED CARD OF 'bifoldlaw28.SemLimits'. -/
def semLimitsCard : Claim7 := { stood := { row := semLimitsRow, standIns := [], harness := (true, "ff90ea889de0c579e96763c2ed5363e71aef0bb5702d3e803fd1481a396dd602"), looks := true }, kinds := [], alts := [], laidByText := true, laidKinds := [.data, .data, .data, .data, .sentinel, .sentinel, .pinned], laidTests := true, laidLooks := .later }
def SemLimitsCardSaid : Prop := Claim7.holds Tryd.pinned (.plain (OpenSpec.ofChange semLimitsSpec)) semLimitsCard

/-- THE TIED CARD OF 'bifoldlaw28.SemClasses'. -/
def semClassesCard : Claim7 := { stood := { row := semClassesRow, standIns := [], harness := (true, "ff90ea889de0c579e96763c2ed5363e71aef0bb5702d3e803fd1481a396dd602"), looks := true }, kinds := [], alts := [], laidByText := true, laidKinds := [.data, .data, .data, .data, .sentinel, .sentinel, .pinned], laidTests := true, laidLooks := .later }
def SemClassesCardSaid : Prop := Claim7.holds Tryd.pinned (.plain (OpenSpec.ofChange semClassesSpec)) semClassesCard

/-- THE TIED CARD OF 'bifoldlaw28.SemPseudo'. -/
def semPseudoCard : Claim7 := { stood := { row := semPseudoRow, standIns := [], harness := (true, "ff90ea889de0c579e96763c2ed5363e71aef0bb5702d3e803fd1481a396dd602"), looks := true }, kinds := [], alts := [], laidByText := true, laidKinds := [.data, .data, .data, .data, .sentinel, .sentinel, .pinned], laidTests := true, laidLooks := .later }
def SemPseudoCardSaid : Prop := Claim7.holds Tryd.pinned (.plain (OpenSpec.ofChange semPseudoSpec)) semPseudoCard

/-- THE TIED CARD OF 'bifoldlaw28.SemLengths'. -/
def semLengthsCard : Claim7 := { stood := { row := semLengthsRow, standIns := [], harness := (true, "ff90ea889de0c579e96763c2ed5363e71aef0bb5702d3e803fd1481a396dd602"), looks := true }, kinds := [], alts := [], laidByText := true, laidKinds := [.data, .data, .data, .data, .sentinel, .sentinel, .pinned], laidTests := true, laidLooks := .later }
def SemLengthsCardSaid : Prop := Claim7.holds Tryd.pinned (.plain (OpenSpec.ofChange semLengthsSpec)) semLengthsCard

/-- THE TIED CARD OF 'bifoldlaw28.SemTurned'. -/
def semTurnedCard : Claim7 := { stood := { row := semTurnedRow, standIns := [], harness := (true, "ff90ea889de0c579e96763c2ed5363e71aef0bb5702d3e803fd1481a396dd602"), looks := true }, kinds := [], alts := [], laidByText := true, laidKinds := [.data, .data, .data, .data, .sentinel, .sentinel, .pinned], laidTests := true, laidLooks := .later }
def SemTurnedCardSaid : Prop := Claim7.holds Tryd.pinned (.plain (OpenSpec.ofChange semTurnedSpec)) semTurnedCard

/-- THE TIED CARD OF 'bifoldlaw28.SemBack'. -/
def semBackCard : Claim7 := { stood := { row := semBackRow, standIns := [], harness := (true, "ff90ea889de0c579e96763c2ed5363e71aef0bb5702d3e803fd1481a396dd602"), looks := true }, kinds := [], alts := [], laidByText := true, laidKinds := [.data, .data, .data, .data, .sentinel, .sentinel, .pinned], laidTests := true, laidLooks := .later }
def SemBackCardSaid : Prop := Claim7.holds Tryd.pinned (.plain (OpenSpec.ofChange semBackSpec)) semBackCard

/-- THE SECOND FORM's CARD OF 'bifoldlaw28.SemRequests'. -/
def semRequestsUptoCard : Claim7 := { stood := { row := semRequestsUptoRow, standIns := [], harness := (true, "ff90ea889de0c579e96763c2ed5363e71aef0bb5702d3e803fd1481a396dd602"), looks := true }, kinds := [], alts := [], laidByText := true, laidKinds := [.data, .data, .data, .data, .sentinel, .sentinel, .pinned], laidTests := true, laidLooks := .later }
def SemRequestsUptoCardSaid : Prop := Claim7.holds Tryd.pinned (.plain (OpenSpec.upto semRequestsSpec)) semRequestsUptoCard

/-- THE SECOND FORM's CARD OF 'bifoldlaw28.SemResponses'. -/
def semResponsesUptoCard : Claim7 := { stood := { row := semResponsesUptoRow, standIns := [], harness := (true, "ff90ea889de0c579e96763c2ed5363e71aef0bb5702d3e803fd1481a396dd602"), looks := true }, kinds := [], alts := [], laidByText := true, laidKinds := [.data, .data, .data, .data, .sentinel, .sentinel, .pinned], laidTests := true, laidLooks := .later }
def SemResponsesUptoCardSaid : Prop := Claim7.holds Tryd.pinned (.plain (OpenSpec.upto semResponsesSpec)) semResponsesUptoCard

/-- THE SECOND FORM's CARD OF 'bifoldlaw28.SemLimits'. -/
def semLimitsUptoCard : Claim7 := { stood := { row := semLimitsUptoRow, standIns := [], harness := (true, "ff90ea889de0c579e96763c2ed5363e71aef0bb5702d3e803fd1481a396dd602"), looks := true }, kinds := [], alts := [], laidByText := true, laidKinds := [.data, .data, .data, .data, .sentinel, .sentinel, .pinned], laidTests := true, laidLooks := .later }
def SemLimitsUptoCardSaid : Prop := Claim7.holds Tryd.pinned (.plain (OpenSpec.upto semLimitsSpec)) semLimitsUptoCard

/-- THE SECOND FORM's CARD OF 'bifoldlaw28.SemClasses'. -/
def semClassesUptoCard : Claim7 := { stood := { row := semClassesUptoRow, standIns := [], harness := (true, "ff90ea889de0c579e96763c2ed5363e71aef0bb5702d3e803fd1481a396dd602"), looks := true }, kinds := [], alts := [], laidByText := true, laidKinds := [.data, .data, .data, .data, .sentinel, .sentinel, .pinned], laidTests := true, laidLooks := .later }
def SemClassesUptoCardSaid : Prop := Claim7.holds Tryd.pinned (.plain (OpenSpec.upto semClassesSpec)) semClassesUptoCard

/-- THE SECOND FORM's CARD OF 'bifoldlaw28.SemPseudo'. -/
def semPseudoUptoCard : Claim7 := { stood := { row := semPseudoUptoRow, standIns := [], harness := (true, "ff90ea889de0c579e96763c2ed5363e71aef0bb5702d3e803fd1481a396dd602"), looks := true }, kinds := [], alts := [], laidByText := true, laidKinds := [.data, .data, .data, .data, .sentinel, .sentinel, .pinned], laidTests := true, laidLooks := .later }
def SemPseudoUptoCardSaid : Prop := Claim7.holds Tryd.pinned (.plain (OpenSpec.upto semPseudoSpec)) semPseudoUptoCard

/-- THE SECOND FORM's CARD OF 'bifoldlaw28.SemLengths'. -/
def semLengthsUptoCard : Claim7 := { stood := { row := semLengthsUptoRow, standIns := [], harness := (true, "ff90ea889de0c579e96763c2ed5363e71aef0bb5702d3e803fd1481a396dd602"), looks := true }, kinds := [], alts := [], laidByText := true, laidKinds := [.data, .data, .data, .data, .sentinel, .sentinel, .pinned], laidTests := true, laidLooks := .later }
def SemLengthsUptoCardSaid : Prop := Claim7.holds Tryd.pinned (.plain (OpenSpec.upto semLengthsSpec)) semLengthsUptoCard

/-- THE SECOND FORM's CARD OF 'bifoldlaw28.SemTurned'. -/
def semTurnedUptoCard : Claim7 := { stood := { row := semTurnedUptoRow, standIns := [], harness := (true, "ff90ea889de0c579e96763c2ed5363e71aef0bb5702d3e803fd1481a396dd602"), looks := true }, kinds := [], alts := [], laidByText := true, laidKinds := [.data, .data, .data, .data, .sentinel, .sentinel, .pinned], laidTests := true, laidLooks := .later }
def SemTurnedUptoCardSaid : Prop := Claim7.holds Tryd.pinned (.plain (OpenSpec.upto semTurnedSpec)) semTurnedUptoCard

/-- THE SECOND FORM's CARD OF 'bifoldlaw28.SemBack'. -/
def semBackUptoCard : Claim7 := { stood := { row := semBackUptoRow, standIns := [], harness := (true, "ff90ea889de0c579e96763c2ed5363e71aef0bb5702d3e803fd1481a396dd602"), looks := true }, kinds := [], alts := [], laidByText := true, laidKinds := [.data, .data, .data, .data, .sentinel, .sentinel, .pinned], laidTests := true, laidLooks := .later }
def SemBackUptoCardSaid : Prop := Claim7.holds Tryd.pinned (.plain (OpenSpec.upto semBackSpec)) semBackUptoCard
end Rows
end Go.Proofs.YtpojejdddgdjdaaDoor
