/-
  DERIVED. GIVEN WITH THE SEED: THE CARDS: each row of YtcocagkbfpgmiaaGreatDoorRows.lean that lists a variable, with what it lists TIED to the program's text (the seventh form; the later family's looks); each row that meets fmt, with fmt's text TOLD by the authors' own Lean function (tested against real Go, not proved from fmt's source: count such statements apart). THE CARD IS WHAT COUNTS. Prove the row's statement (the work); the ties are given (YtcocagkbfpgmiaaGreatDoorTie.lean); close each card by the builder's one call (the guide's Derived/Test/ToyasCard.lean, 'card_holds'). Laid BY PROGRAM, IN A SANDBOX (cutbox-door.mjs). By AI agents, Wed Nov 11 2026. No macro, syntax, notation, axiom, sorry.
-/
import Derived.Test.YtcocagkbfpgmiaaGreatDoorRows
import GoSem.ClaimSeven
namespace Go.Proofs.YtcocagkbfpgmiaaGreatDoor
namespace Rows

/-- THE TIED CARD OF 'trantertop.TopFeasible'. -/
def topFeasibleCard : Claim7 := { stood := { row := topFeasibleRow, standIns := [], harness := (true, "f981dd6e1b3be85a0bca7c6408e79adfd88fb67f623449dd1387c7cfc579719b"), looks := true }, kinds := [], alts := [], laidByText := true, laidKinds := [.data, .pinned], laidTests := true, laidLooks := .later }
def TopFeasibleCardSaid : Prop := Claim7.holds Tryz.pinned (.plain (OpenSpec.ofChange topFeasibleSpec)) topFeasibleCard

/-- THE TIED CARD OF 'trantertop.TopRound'. -/
def topRoundCard : Claim7 := { stood := { row := topRoundRow, standIns := [], harness := (true, "f981dd6e1b3be85a0bca7c6408e79adfd88fb67f623449dd1387c7cfc579719b"), looks := true }, kinds := [], alts := [], laidByText := true, laidKinds := [.data, .pinned], laidTests := true, laidLooks := .later }
def TopRoundCardSaid : Prop := Claim7.holds Tryz.pinned (.plain (OpenSpec.ofChange topRoundSpec)) topRoundCard

/-- THE TIED CARD OF 'tranterlaw21.PlannerClasses'. -/
def plannerClassesCard : Claim7 := { stood := { row := plannerClassesRow, standIns := [], harness := (true, "f981dd6e1b3be85a0bca7c6408e79adfd88fb67f623449dd1387c7cfc579719b"), looks := true }, kinds := [], alts := [], laidByText := true, laidKinds := [.data, .pinned], laidTests := true, laidLooks := .later }
def PlannerClassesCardSaid : Prop := Claim7.holds Tryz.pinned (.plain (OpenSpec.ofChange plannerClassesSpec)) plannerClassesCard

/-- THE TIED CARD OF 'tranterlaw21.PlannerPlans'. -/
def plannerPlansCard : Claim7 := { stood := { row := plannerPlansRow, standIns := [], harness := (true, "f981dd6e1b3be85a0bca7c6408e79adfd88fb67f623449dd1387c7cfc579719b"), looks := true }, kinds := [], alts := [], laidByText := true, laidKinds := [.data, .pinned], laidTests := true, laidLooks := .later }
def PlannerPlansCardSaid : Prop := Claim7.holds Tryz.pinned (.plain (OpenSpec.ofChange plannerPlansSpec)) plannerPlansCard

/-- THE TIED CARD OF 'tranterlaw21.PlannerPrints'. -/
def plannerPrintsCard : Claim7 := { stood := { row := plannerPrintsRow, standIns := [], harness := (true, "f981dd6e1b3be85a0bca7c6408e79adfd88fb67f623449dd1387c7cfc579719b"), looks := true }, kinds := [], alts := [], laidByText := true, laidKinds := [.data, .pinned], laidTests := true, laidLooks := .later }
def PlannerPrintsCardSaid : Prop := Claim7.holds Tryz.pinned (.plain (OpenSpec.ofChange plannerPrintsSpec)) plannerPrintsCard

/-- THE TIED CARD OF 'tranterlaw21.PlannerAgain'. -/
def plannerAgainCard : Claim7 := { stood := { row := plannerAgainRow, standIns := [], harness := (true, "f981dd6e1b3be85a0bca7c6408e79adfd88fb67f623449dd1387c7cfc579719b"), looks := true }, kinds := [], alts := [], laidByText := true, laidKinds := [.data, .pinned], laidTests := true, laidLooks := .later }
def PlannerAgainCardSaid : Prop := Claim7.holds Tryz.pinned (.plain (OpenSpec.ofChange plannerAgainSpec)) plannerAgainCard

/-- THE TIED CARD OF 'tranterlaw21.PlannerBounds'. -/
def plannerBoundsCard : Claim7 := { stood := { row := plannerBoundsRow, standIns := [], harness := (true, "f981dd6e1b3be85a0bca7c6408e79adfd88fb67f623449dd1387c7cfc579719b"), looks := true }, kinds := [], alts := [], laidByText := true, laidKinds := [.data, .pinned], laidTests := true, laidLooks := .later }
def PlannerBoundsCardSaid : Prop := Claim7.holds Tryz.pinned (.plain (OpenSpec.ofChange plannerBoundsSpec)) plannerBoundsCard

/-- THE TIED CARD OF 'tranterlaw21.PlannerAccepts'. -/
def plannerAcceptsCard : Claim7 := { stood := { row := plannerAcceptsRow, standIns := [], harness := (true, "f981dd6e1b3be85a0bca7c6408e79adfd88fb67f623449dd1387c7cfc579719b"), looks := true }, kinds := [], alts := [], laidByText := true, laidKinds := [.data, .pinned], laidTests := true, laidLooks := .later }
def PlannerAcceptsCardSaid : Prop := Claim7.holds Tryz.pinned (.plain (OpenSpec.ofChange plannerAcceptsSpec)) plannerAcceptsCard

/-- THE SECOND FORM's CARD OF 'trantertop.TopFeasible'. -/
def topFeasibleUptoCard : Claim7 := { stood := { row := topFeasibleUptoRow, standIns := [], harness := (true, "f981dd6e1b3be85a0bca7c6408e79adfd88fb67f623449dd1387c7cfc579719b"), looks := true }, kinds := [], alts := [], laidByText := true, laidKinds := [.data, .pinned], laidTests := true, laidLooks := .later }
def TopFeasibleUptoCardSaid : Prop := Claim7.holds Tryz.pinned (.plain (OpenSpec.upto topFeasibleSpec)) topFeasibleUptoCard

/-- THE SECOND FORM's CARD OF 'trantertop.TopRound'. -/
def topRoundUptoCard : Claim7 := { stood := { row := topRoundUptoRow, standIns := [], harness := (true, "f981dd6e1b3be85a0bca7c6408e79adfd88fb67f623449dd1387c7cfc579719b"), looks := true }, kinds := [], alts := [], laidByText := true, laidKinds := [.data, .pinned], laidTests := true, laidLooks := .later }
def TopRoundUptoCardSaid : Prop := Claim7.holds Tryz.pinned (.plain (OpenSpec.upto topRoundSpec)) topRoundUptoCard

/-- THE SECOND FORM's CARD OF 'tranterlaw21.PlannerClasses'. -/
def plannerClassesUptoCard : Claim7 := { stood := { row := plannerClassesUptoRow, standIns := [], harness := (true, "f981dd6e1b3be85a0bca7c6408e79adfd88fb67f623449dd1387c7cfc579719b"), looks := true }, kinds := [], alts := [], laidByText := true, laidKinds := [.data, .pinned], laidTests := true, laidLooks := .later }
def PlannerClassesUptoCardSaid : Prop := Claim7.holds Tryz.pinned (.plain (OpenSpec.upto plannerClassesSpec)) plannerClassesUptoCard

/-- THE SECOND FORM's CARD OF 'tranterlaw21.PlannerPlans'. -/
def plannerPlansUptoCard : Claim7 := { stood := { row := plannerPlansUptoRow, standIns := [], harness := (true, "f981dd6e1b3be85a0bca7c6408e79adfd88fb67f623449dd1387c7cfc579719b"), looks := true }, kinds := [], alts := [], laidByText := true, laidKinds := [.data, .pinned], laidTests := true, laidLooks := .later }
def PlannerPlansUptoCardSaid : Prop := Claim7.holds Tryz.pinned (.plain (OpenSpec.upto plannerPlansSpec)) plannerPlansUptoCard

/-- THE SECOND FORM's CARD OF 'tranterlaw21.PlannerPrints'. -/
def plannerPrintsUptoCard : Claim7 := { stood := { row := plannerPrintsUptoRow, standIns := [], harness := (true, "f981dd6e1b3be85a0bca7c6408e79adfd88fb67f623449dd1387c7cfc579719b"), looks := true }, kinds := [], alts := [], laidByText := true, laidKinds := [.data, .pinned], laidTests := true, laidLooks := .later }
def PlannerPrintsUptoCardSaid : Prop := Claim7.holds Tryz.pinned (.plain (OpenSpec.upto plannerPrintsSpec)) plannerPrintsUptoCard

/-- THE SECOND FORM's CARD OF 'tranterlaw21.PlannerAgain'. -/
def plannerAgainUptoCard : Claim7 := { stood := { row := plannerAgainUptoRow, standIns := [], harness := (true, "f981dd6e1b3be85a0bca7c6408e79adfd88fb67f623449dd1387c7cfc579719b"), looks := true }, kinds := [], alts := [], laidByText := true, laidKinds := [.data, .pinned], laidTests := true, laidLooks := .later }
def PlannerAgainUptoCardSaid : Prop := Claim7.holds Tryz.pinned (.plain (OpenSpec.upto plannerAgainSpec)) plannerAgainUptoCard

/-- THE SECOND FORM's CARD OF 'tranterlaw21.PlannerBounds'. -/
def plannerBoundsUptoCard : Claim7 := { stood := { row := plannerBoundsUptoRow, standIns := [], harness := (true, "f981dd6e1b3be85a0bca7c6408e79adfd88fb67f623449dd1387c7cfc579719b"), looks := true }, kinds := [], alts := [], laidByText := true, laidKinds := [.data, .pinned], laidTests := true, laidLooks := .later }
def PlannerBoundsUptoCardSaid : Prop := Claim7.holds Tryz.pinned (.plain (OpenSpec.upto plannerBoundsSpec)) plannerBoundsUptoCard

/-- THE SECOND FORM's CARD OF 'tranterlaw21.PlannerAccepts'. -/
def plannerAcceptsUptoCard : Claim7 := { stood := { row := plannerAcceptsUptoRow, standIns := [], harness := (true, "f981dd6e1b3be85a0bca7c6408e79adfd88fb67f623449dd1387c7cfc579719b"), looks := true }, kinds := [], alts := [], laidByText := true, laidKinds := [.data, .pinned], laidTests := true, laidLooks := .later }
def PlannerAcceptsUptoCardSaid : Prop := Claim7.holds Tryz.pinned (.plain (OpenSpec.upto plannerAcceptsSpec)) plannerAcceptsUptoCard
end Rows
end Go.Proofs.YtcocagkbfpgmiaaGreatDoor
