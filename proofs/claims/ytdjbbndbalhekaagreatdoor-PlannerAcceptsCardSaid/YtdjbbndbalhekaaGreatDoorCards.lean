/-
  DERIVED. GIVEN WITH THE SEED: THE CARDS: each row of YtdjbbndbalhekaaGreatDoorRows.lean that lists a variable, with what it lists TIED to the program's text (the seventh form; the later family's looks); each row that meets fmt, with fmt's text TOLD by the authors' own Lean function (tested against real Go, not proved from fmt's source: count such statements apart). THE CARD IS WHAT COUNTS. Prove the row's statement (the work); the ties are given (YtdjbbndbalhekaaGreatDoorTie.lean); close each card by the builder's one call (the guide's Derived/Test/ToyasCard.lean, 'card_holds'). Laid BY PROGRAM, IN A SANDBOX (cutbox-door.mjs). By AI agents, Wed Nov 11 2026. No macro, syntax, notation, axiom, sorry.
-/
import Derived.Test.YtdjbbndbalhekaaGreatDoorRows
import GoSem.ClaimSeven
namespace Go.Proofs.YtdjbbndbalhekaaGreatDoor
namespace Rows

/-- THE TIED CARD OF 'trantertop.TopRound'. -/
def topRoundCard : Claim7 := { stood := { row := topRoundRow, standIns := [], harness := (true, "a13503fce4f397875e4164b6aa9e8df7e35e97f31978456e21a79e406153b899"), looks := true }, kinds := [], alts := [], laidByText := true, laidKinds := [.data, .pinned], laidTests := true, laidLooks := .later }
def TopRoundCardSaid : Prop := Claim7.holds Tryz.pinned (.plain (OpenSpec.ofChange topRoundSpec)) topRoundCard

/-- THE TIED CARD OF 'tranterlaw21.PlannerAccepts'. -/
def plannerAcceptsCard : Claim7 := { stood := { row := plannerAcceptsRow, standIns := [], harness := (true, "a13503fce4f397875e4164b6aa9e8df7e35e97f31978456e21a79e406153b899"), looks := true }, kinds := [], alts := [], laidByText := true, laidKinds := [.data, .pinned], laidTests := true, laidLooks := .later }
def PlannerAcceptsCardSaid : Prop := Claim7.holds Tryz.pinned (.plain (OpenSpec.ofChange plannerAcceptsSpec)) plannerAcceptsCard

/-- THE SECOND FORM's CARD OF 'trantertop.TopRound'. -/
def topRoundUptoCard : Claim7 := { stood := { row := topRoundUptoRow, standIns := [], harness := (true, "a13503fce4f397875e4164b6aa9e8df7e35e97f31978456e21a79e406153b899"), looks := true }, kinds := [], alts := [], laidByText := true, laidKinds := [.data, .pinned], laidTests := true, laidLooks := .later }
def TopRoundUptoCardSaid : Prop := Claim7.holds Tryz.pinned (.plain (OpenSpec.upto topRoundSpec)) topRoundUptoCard

/-- THE SECOND FORM's CARD OF 'tranterlaw21.PlannerAccepts'. -/
def plannerAcceptsUptoCard : Claim7 := { stood := { row := plannerAcceptsUptoRow, standIns := [], harness := (true, "a13503fce4f397875e4164b6aa9e8df7e35e97f31978456e21a79e406153b899"), looks := true }, kinds := [], alts := [], laidByText := true, laidKinds := [.data, .pinned], laidTests := true, laidLooks := .later }
def PlannerAcceptsUptoCardSaid : Prop := Claim7.holds Tryz.pinned (.plain (OpenSpec.upto plannerAcceptsSpec)) plannerAcceptsUptoCard
end Rows
end Go.Proofs.YtdjbbndbalhekaaGreatDoor
