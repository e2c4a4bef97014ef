/-
  DERIVED. GIVEN WITH THE SEED: THE CARDS: each row of YtlbfolepljpmbaaDoorRows.lean that lists a variable, with what it lists TIED to the program's text (the seventh form; the later family's looks); each row that meets fmt, with fmt's text TOLD by the authors' own Lean function (tested against real Go, not proved from fmt's source: count such statements apart). THE CARD IS WHAT COUNTS. Prove the row's statement (the work); the ties are given (YtlbfolepljpmbaaDoorTie.lean); close each card by the builder's one call (the guide's Derived/Test/ToyasCard.lean, 'card_holds'). Laid BY PROGRAM, IN A SANDBOX (cutbox-door.mjs). By AI agents, Wed Nov 11 2026. No macro, syntax, notation, axiom, sorry.
-/
import Derived.Test.YtlbfolepljpmbaaDoorRows
import GoSem.ClaimSeven
namespace Go.Proofs.YtlbfolepljpmbaaDoor
namespace Rows

/-- THE TIED CARD OF 'laws.FnExactHasCrowd'. -/
def fnExactHasCrowdCard : Claim7 := { stood := { row := fnExactHasCrowdRow, standIns := [], harness := (true, "0dc2dfd543aafd48138e48e651496ad29289a63e5552b0f9a4c9aea6b7f55d18"), looks := true }, kinds := [], alts := [], laidByText := true, laidKinds := [.data, .data], laidTests := true, laidLooks := .later }
def FnExactHasCrowdCardSaid : Prop := Claim7.holds Tryd.pinned (.plain (OpenSpec.ofChange fnExactHasCrowdSpec)) fnExactHasCrowdCard

/-- THE TIED CARD OF 'laws.FnStable'. -/
def fnStableCard : Claim7 := { stood := { row := fnStableRow, standIns := [], harness := (true, "0dc2dfd543aafd48138e48e651496ad29289a63e5552b0f9a4c9aea6b7f55d18"), looks := true }, kinds := [], alts := [], laidByText := true, laidKinds := [.data, .data], laidTests := true, laidLooks := .later }
def FnStableCardSaid : Prop := Claim7.holds Tryd.pinned (.plain (OpenSpec.ofChange fnStableSpec)) fnStableCard

/-- THE TIED CARD OF 'laws.FnExactNewSession'. -/
def fnExactNewSessionCard : Claim7 := { stood := { row := fnExactNewSessionRow, standIns := [], harness := (true, "0dc2dfd543aafd48138e48e651496ad29289a63e5552b0f9a4c9aea6b7f55d18"), looks := true }, kinds := [], alts := [], laidByText := true, laidKinds := [.data, .data, .data, .data, .sentinel, .sentinel, .pinned], laidTests := true, laidLooks := .later }
def FnExactNewSessionCardSaid : Prop := Claim7.holds Tryd.pinned (.plain (OpenSpec.ofChange fnExactNewSessionSpec)) fnExactNewSessionCard

/-- THE SECOND FORM's CARD OF 'laws.FnExactHasCrowd'. -/
def fnExactHasCrowdUptoCard : Claim7 := { stood := { row := fnExactHasCrowdUptoRow, standIns := [], harness := (true, "0dc2dfd543aafd48138e48e651496ad29289a63e5552b0f9a4c9aea6b7f55d18"), looks := true }, kinds := [], alts := [], laidByText := true, laidKinds := [.data, .data], laidTests := true, laidLooks := .later }
def FnExactHasCrowdUptoCardSaid : Prop := Claim7.holds Tryd.pinned (.plain (OpenSpec.upto fnExactHasCrowdSpec)) fnExactHasCrowdUptoCard

/-- THE SECOND FORM's CARD OF 'laws.FnStable'. -/
def fnStableUptoCard : Claim7 := { stood := { row := fnStableUptoRow, standIns := [], harness := (true, "0dc2dfd543aafd48138e48e651496ad29289a63e5552b0f9a4c9aea6b7f55d18"), looks := true }, kinds := [], alts := [], laidByText := true, laidKinds := [.data, .data], laidTests := true, laidLooks := .later }
def FnStableUptoCardSaid : Prop := Claim7.holds Tryd.pinned (.plain (OpenSpec.upto fnStableSpec)) fnStableUptoCard

/-- THE SECOND FORM's CARD OF 'laws.FnExactNewSession'. -/
def fnExactNewSessionUptoCard : Claim7 := { stood := { row := fnExactNewSessionUptoRow, standIns := [], harness := (true, "0dc2dfd543aafd48138e48e651496ad29289a63e5552b0f9a4c9aea6b7f55d18"), looks := true }, kinds := [], alts := [], laidByText := true, laidKinds := [.data, .data, .data, .data, .sentinel, .sentinel, .pinned], laidTests := true, laidLooks := .later }
def FnExactNewSessionUptoCardSaid : Prop := Claim7.holds Tryd.pinned (.plain (OpenSpec.upto fnExactNewSessionSpec)) fnExactNewSessionUptoCard
end Rows
end Go.Proofs.YtlbfolepljpmbaaDoor
