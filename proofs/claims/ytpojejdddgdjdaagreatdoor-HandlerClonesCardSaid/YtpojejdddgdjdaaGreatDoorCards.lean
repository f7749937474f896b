/-
  DERIVED. GIVEN WITH THE SEED: THE CARDS: each row of YtpojejdddgdjdaaGreatDoorRows.lean that lists a variable, with what it lists TIED to the program's text (the seventh form; the later family's looks); each row that meets fmt, with fmt's text TOLD by the authors' own Lean function (tested against real Go, not proved from fmt's source: count such statements apart). THE CARD IS WHAT COUNTS. Prove the row's statement (the work); the ties are given (YtpojejdddgdjdaaGreatDoorTie.lean); close each card by the builder's one call (the guide's Derived/Test/ToyasCard.lean, 'card_holds'). Laid BY PROGRAM, IN A SANDBOX (cutbox-door.mjs). By AI agents, Wed Nov 11 2026. No macro, syntax, notation, axiom, sorry.
-/
import Derived.Test.YtpojejdddgdjdaaGreatDoorRows
import GoSem.ClaimSeven
namespace Go.Proofs.YtpojejdddgdjdaaGreatDoor
namespace Rows

/-- THE TIED CARD OF 'bifoldlaw29.HandlerAnswers'. -/
def handlerAnswersCard : Claim7 := { stood := { row := handlerAnswersRow, standIns := [], harness := (true, "f96fb80f5874d545f9baa0686d644d55d6e16a7f80a28b21e426a2ca7cf8aaa6"), looks := false }, kinds := [], alts := [], laidByText := true, laidKinds := [.data, .data, .data, .data, .pinned], laidTests := true, laidLooks := .later }
def HandlerAnswersCardSaid : Prop := Claim7.holds Tryz.pinned (.plain (OpenSpec.ofChange handlerAnswersSpec)) handlerAnswersCard

/-- THE TIED CARD OF 'bifoldlaw29.HandlerClones'. -/
def handlerClonesCard : Claim7 := { stood := { row := handlerClonesRow, standIns := [], harness := (true, "f96fb80f5874d545f9baa0686d644d55d6e16a7f80a28b21e426a2ca7cf8aaa6"), looks := false }, kinds := [], alts := [], laidByText := true, laidKinds := [.data, .data, .data, .data, .pinned], laidTests := true, laidLooks := .later }
def HandlerClonesCardSaid : Prop := Claim7.holds Tryz.pinned (.plain (OpenSpec.ofChange handlerClonesSpec)) handlerClonesCard

/-- THE SECOND FORM's CARD OF 'bifoldlaw29.HandlerAnswers'. -/
def handlerAnswersUptoCard : Claim7 := { stood := { row := handlerAnswersUptoRow, standIns := [], harness := (true, "f96fb80f5874d545f9baa0686d644d55d6e16a7f80a28b21e426a2ca7cf8aaa6"), looks := false }, kinds := [], alts := [], laidByText := true, laidKinds := [.data, .data, .data, .data, .pinned], laidTests := true, laidLooks := .later }
def HandlerAnswersUptoCardSaid : Prop := Claim7.holds Tryz.pinned (.plain (OpenSpec.upto handlerAnswersSpec)) handlerAnswersUptoCard

/-- THE SECOND FORM's CARD OF 'bifoldlaw29.HandlerClones'. -/
def handlerClonesUptoCard : Claim7 := { stood := { row := handlerClonesUptoRow, standIns := [], harness := (true, "f96fb80f5874d545f9baa0686d644d55d6e16a7f80a28b21e426a2ca7cf8aaa6"), looks := false }, kinds := [], alts := [], laidByText := true, laidKinds := [.data, .data, .data, .data, .pinned], laidTests := true, laidLooks := .later }
def HandlerClonesUptoCardSaid : Prop := Claim7.holds Tryz.pinned (.plain (OpenSpec.upto handlerClonesSpec)) handlerClonesUptoCard
end Rows
end Go.Proofs.YtpojejdddgdjdaaGreatDoor
