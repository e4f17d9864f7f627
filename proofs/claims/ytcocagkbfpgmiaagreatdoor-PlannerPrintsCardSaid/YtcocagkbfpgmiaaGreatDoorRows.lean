/-
  NARROWER THAN 'FOR EVERY INPUT', by the rows' own cells (each row's printed sentence says how): TopFeasible: laid · TopRound: laid · PlannerClasses: laid · PlannerPlans: laid · PlannerPrints: laid · PlannerAgain: laid · PlannerBounds: laid · PlannerAccepts: laid.
  DERIVED. THE GIVEN ROWS OF THIS SEAT. 8 by the template 'for every input the law returns true; each argument reads behind the call as it read before'; 0 by the template 'total and deterministic' (their statements: YtcocagkbfpgmiaaGreatDoorTotals.lean).
  GIVEN WITH THE SEED: the statements are not yours to turn. If you find one false, say at which input.
  Laid BY PROGRAM, IN A SANDBOX (cutbox-rows.mjs): the forced cells as the released guide's own fill.sh prints them over the translation 320d53e6ff5b9b33… (all of the seat's roots in one cut). By AI agents, Wed Nov 11 2026. No macro, syntax, notation, axiom, sorry.
-/
import Derived.Test.YtcocagkbfpgmiaaGreatDoorChecked
import GoSem.PinnedTables
import GoSem.Claim
import GoSem.ClaimJoined
import GoSem.ClaimMapViews
import Derived.JoinedTies
import Derived.KernelRfl
namespace Go.Proofs.YtcocagkbfpgmiaaGreatDoor
/- THE CELL 'sum', in the pinned program and in every row, IS THE sha256 OF THE DUMP (.gsa) THAT YtcocagkbfpgmiaaGreatDoorProg.lean LOADS. Nothing in Lean hashes anything: it is a label: what it is worth is what the hold of that sum in a sandbox is worth. -/
noncomputable def Tryz.pinned : Pinned := { name := "ytcocagkbfpgmiaagreatdoor", sum := "320d53e6ff5b9b3326c6276fd7ff3101d6c84214038b17d8275afe634205e99b", checked := Tryz.checked }
namespace Rows
def none {H : Type} : Left H := { results := [], args := [] }

/- WHAT THE LISTED PACKAGE-LEVEL VARIABLES READ AS WHEN THE CALL BEGINS. Each datum BY PROGRAM (the guide's laid-datum.mjs) off the statement by which the dump's own 'gosem.cut.vars' lays the variable. In a bare row this is a premise. The card (YtcocagkbfpgmiaaGreatDoorCards.lean) ties it to the program's text. -/
def laid_unicode_utf8_acceptRanges {H : Type} : DataW H := .agg [.agg [.lit (.int .u8 128), .lit (.int .u8 191)], .agg [.lit (.int .u8 160), .lit (.int .u8 191)], .agg [.lit (.int .u8 128), .lit (.int .u8 159)], .agg [.lit (.int .u8 144), .lit (.int .u8 191)], .agg [.lit (.int .u8 128), .lit (.int .u8 143)], .agg [.lit (.int .u8 0), .lit (.int .u8 0)], .agg [.lit (.int .u8 0), .lit (.int .u8 0)], .agg [.lit (.int .u8 0), .lit (.int .u8 0)], .agg [.lit (.int .u8 0), .lit (.int .u8 0)], .agg [.lit (.int .u8 0), .lit (.int .u8 0)], .agg [.lit (.int .u8 0), .lit (.int .u8 0)], .agg [.lit (.int .u8 0), .lit (.int .u8 0)], .agg [.lit (.int .u8 0), .lit (.int .u8 0)], .agg [.lit (.int .u8 0), .lit (.int .u8 0)], .agg [.lit (.int .u8 0), .lit (.int .u8 0)], .agg [.lit (.int .u8 0), .lit (.int .u8 0)]]
/-- One of Go's own tables, pinned by name: the form's constant. -/
def laid_unicode_utf8_first : DataW Unit := Go.Pinned.utf8First

/-- 'trantertop.TopFeasible': WHATEVER THE INPUT: true; the input reads as it did. -/
def topFeasibleSpec : ChangeSpec := { name := "topFeasible", fn := fun _ => fun
  | [d1, d2] => { results := [.lit (.bool true)], args := [d1, d2] }
  | _ => none }
def topFeasibleRow : OpenClaim := { program := "ytcocagkbfpgmiaagreatdoor", sum := "320d53e6ff5b9b3326c6276fd7ff3101d6c84214038b17d8275afe634205e99b", func := "tranter/trantertop.TopFeasible", spec := "topFeasible", inPlace := ["internal/bytealg.IndexByteString", "internal/bytealg.IndexString", "internal/bytealg.CountString", "slices.overlaps[tranter/api.Stop]", "internal/abi.NoEscape", "internal/bytealg.MakeNoZero"], unfollowed := true, recurses := true, named := ["internal/bytealg.MaxLen", "unicode/utf8.first", "unicode/utf8.acceptRanges"], apart := false, laid := [("unicode/utf8.acceptRanges", laid_unicode_utf8_acceptRanges), ("unicode/utf8.first", laid_unicode_utf8_first)] }
def TopFeasibleSaid : Prop := topFeasibleRow.holds Tryz.pinned (OpenSpec.ofChange topFeasibleSpec)

/-- ITS FALSE NEIGHBOUR: 'it returns false'. Refute it at one input. -/
def topFeasibleWrong : ChangeSpec := { name := "topFeasible", fn := fun _ => fun
  | [d1, d2] => { results := [.lit (.bool false)], args := [d1, d2] }
  | _ => none }
def TopFeasibleWrongFalsely : Prop := topFeasibleRow.holds Tryz.pinned (OpenSpec.ofChange topFeasibleWrong)

/-- 'trantertop.TopRound': WHATEVER THE INPUT: true; the input reads as it did. -/
def topRoundSpec : ChangeSpec := { name := "topRound", fn := fun _ => fun
  | [d1, d2, d3] => { results := [.lit (.bool true)], args := [d1, d2, d3] }
  | _ => none }
def topRoundRow : OpenClaim := { program := "ytcocagkbfpgmiaagreatdoor", sum := "320d53e6ff5b9b3326c6276fd7ff3101d6c84214038b17d8275afe634205e99b", func := "tranter/trantertop.TopRound", spec := "topRound", inPlace := ["internal/bytealg.IndexByteString", "internal/bytealg.IndexString", "internal/bytealg.CountString", "slices.overlaps[tranter/api.Stop]", "internal/abi.NoEscape", "internal/bytealg.MakeNoZero"], unfollowed := true, recurses := true, named := ["internal/bytealg.MaxLen", "unicode/utf8.first", "unicode/utf8.acceptRanges"], apart := false, laid := [("unicode/utf8.acceptRanges", laid_unicode_utf8_acceptRanges), ("unicode/utf8.first", laid_unicode_utf8_first)] }
def TopRoundSaid : Prop := topRoundRow.holds Tryz.pinned (OpenSpec.ofChange topRoundSpec)

/-- ITS FALSE NEIGHBOUR: 'it returns false'. Refute it at one input. -/
def topRoundWrong : ChangeSpec := { name := "topRound", fn := fun _ => fun
  | [d1, d2, d3] => { results := [.lit (.bool false)], args := [d1, d2, d3] }
  | _ => none }
def TopRoundWrongFalsely : Prop := topRoundRow.holds Tryz.pinned (OpenSpec.ofChange topRoundWrong)

/-- 'tranterlaw21.PlannerClasses': WHATEVER THE INPUT: true; the input reads as it did. -/
def plannerClassesSpec : ChangeSpec := { name := "plannerClasses", fn := fun _ => fun
  | [d1, d2] => { results := [.lit (.bool true)], args := [d1, d2] }
  | _ => none }
def plannerClassesRow : OpenClaim := { program := "ytcocagkbfpgmiaagreatdoor", sum := "320d53e6ff5b9b3326c6276fd7ff3101d6c84214038b17d8275afe634205e99b", func := "tranter/tranterlaw21.PlannerClasses", spec := "plannerClasses", inPlace := ["internal/bytealg.IndexByteString", "internal/bytealg.IndexString", "internal/bytealg.CountString", "slices.overlaps[tranter/api.Stop]", "internal/abi.NoEscape", "internal/bytealg.MakeNoZero"], unfollowed := true, recurses := true, named := ["internal/bytealg.MaxLen", "unicode/utf8.first", "unicode/utf8.acceptRanges"], apart := false, laid := [("unicode/utf8.acceptRanges", laid_unicode_utf8_acceptRanges), ("unicode/utf8.first", laid_unicode_utf8_first)] }
def PlannerClassesSaid : Prop := plannerClassesRow.holds Tryz.pinned (OpenSpec.ofChange plannerClassesSpec)

/-- ITS FALSE NEIGHBOUR: 'it returns false'. Refute it at one input. -/
def plannerClassesWrong : ChangeSpec := { name := "plannerClasses", fn := fun _ => fun
  | [d1, d2] => { results := [.lit (.bool false)], args := [d1, d2] }
  | _ => none }
def PlannerClassesWrongFalsely : Prop := plannerClassesRow.holds Tryz.pinned (OpenSpec.ofChange plannerClassesWrong)

/-- 'tranterlaw21.PlannerPlans': WHATEVER THE INPUT: true; the input reads as it did. -/
def plannerPlansSpec : ChangeSpec := { name := "plannerPlans", fn := fun _ => fun
  | [d1, d2] => { results := [.lit (.bool true)], args := [d1, d2] }
  | _ => none }
def plannerPlansRow : OpenClaim := { program := "ytcocagkbfpgmiaagreatdoor", sum := "320d53e6ff5b9b3326c6276fd7ff3101d6c84214038b17d8275afe634205e99b", func := "tranter/tranterlaw21.PlannerPlans", spec := "plannerPlans", inPlace := ["internal/bytealg.IndexByteString", "internal/bytealg.IndexString", "internal/bytealg.CountString", "slices.overlaps[tranter/api.Stop]", "internal/abi.NoEscape", "internal/bytealg.MakeNoZero"], unfollowed := true, recurses := true, named := ["internal/bytealg.MaxLen", "unicode/utf8.first", "unicode/utf8.acceptRanges"], apart := false, laid := [("unicode/utf8.acceptRanges", laid_unicode_utf8_acceptRanges), ("unicode/utf8.first", laid_unicode_utf8_first)] }
def PlannerPlansSaid : Prop := plannerPlansRow.holds Tryz.pinned (OpenSpec.ofChange plannerPlansSpec)

/-- ITS FALSE NEIGHBOUR: 'it returns false'. Refute it at one input. -/
def plannerPlansWrong : ChangeSpec := { name := "plannerPlans", fn := fun _ => fun
  | [d1, d2] => { results := [.lit (.bool false)], args := [d1, d2] }
  | _ => none }
def PlannerPlansWrongFalsely : Prop := plannerPlansRow.holds Tryz.pinned (OpenSpec.ofChange plannerPlansWrong)

/-- 'tranterlaw21.PlannerPrints': WHATEVER THE INPUT: true; the input reads as it did. -/
def plannerPrintsSpec : ChangeSpec := { name := "plannerPrints", fn := fun _ => fun
  | [d1, d2, d3] => { results := [.lit (.bool true)], args := [d1, d2, d3] }
  | _ => none }
def plannerPrintsRow : OpenClaim := { program := "ytcocagkbfpgmiaagreatdoor", sum := "320d53e6ff5b9b3326c6276fd7ff3101d6c84214038b17d8275afe634205e99b", func := "tranter/tranterlaw21.PlannerPrints", spec := "plannerPrints", inPlace := ["internal/bytealg.IndexByteString", "internal/bytealg.IndexString", "internal/bytealg.CountString", "slices.overlaps[tranter/api.Stop]", "internal/abi.NoEscape", "internal/bytealg.MakeNoZero"], unfollowed := true, recurses := true, named := ["internal/bytealg.MaxLen", "unicode/utf8.first", "unicode/utf8.acceptRanges"], apart := false, laid := [("unicode/utf8.acceptRanges", laid_unicode_utf8_acceptRanges), ("unicode/utf8.first", laid_unicode_utf8_first)] }
def PlannerPrintsSaid : Prop := plannerPrintsRow.holds Tryz.pinned (OpenSpec.ofChange plannerPrintsSpec)

/-- ITS FALSE NEIGHBOUR: 'it returns false'. Refute it at one input. -/
def plannerPrintsWrong : ChangeSpec := { name := "plannerPrints", fn := fun _ => fun
  | [d1, d2, d3] => { results := [.lit (.bool false)], args := [d1, d2, d3] }
  | _ => none }
def PlannerPrintsWrongFalsely : Prop := plannerPrintsRow.holds Tryz.pinned (OpenSpec.ofChange plannerPrintsWrong)

/-- 'tranterlaw21.PlannerAgain': WHATEVER THE INPUT: true; the input reads as it did. -/
def plannerAgainSpec : ChangeSpec := { name := "plannerAgain", fn := fun _ => fun
  | [d1, d2, d3] => { results := [.lit (.bool true)], args := [d1, d2, d3] }
  | _ => none }
def plannerAgainRow : OpenClaim := { program := "ytcocagkbfpgmiaagreatdoor", sum := "320d53e6ff5b9b3326c6276fd7ff3101d6c84214038b17d8275afe634205e99b", func := "tranter/tranterlaw21.PlannerAgain", spec := "plannerAgain", inPlace := ["internal/bytealg.IndexByteString", "internal/bytealg.IndexString", "internal/bytealg.CountString", "slices.overlaps[tranter/api.Stop]", "internal/abi.NoEscape", "internal/bytealg.MakeNoZero"], unfollowed := true, recurses := true, named := ["internal/bytealg.MaxLen", "unicode/utf8.first", "unicode/utf8.acceptRanges"], apart := false, laid := [("unicode/utf8.acceptRanges", laid_unicode_utf8_acceptRanges), ("unicode/utf8.first", laid_unicode_utf8_first)] }
def PlannerAgainSaid : Prop := plannerAgainRow.holds Tryz.pinned (OpenSpec.ofChange plannerAgainSpec)

/-- ITS FALSE NEIGHBOUR: 'it returns false'. Refute it at one input. -/
def plannerAgainWrong : ChangeSpec := { name := "plannerAgain", fn := fun _ => fun
  | [d1, d2, d3] => { results := [.lit (.bool false)], args := [d1, d2, d3] }
  | _ => none }
def PlannerAgainWrongFalsely : Prop := plannerAgainRow.holds Tryz.pinned (OpenSpec.ofChange plannerAgainWrong)

/-- 'tranterlaw21.PlannerBounds': WHATEVER THE INPUT: true; the input reads as it did. -/
def plannerBoundsSpec : ChangeSpec := { name := "plannerBounds", fn := fun _ => fun
  | [d1, d2, d3] => { results := [.lit (.bool true)], args := [d1, d2, d3] }
  | _ => none }
def plannerBoundsRow : OpenClaim := { program := "ytcocagkbfpgmiaagreatdoor", sum := "320d53e6ff5b9b3326c6276fd7ff3101d6c84214038b17d8275afe634205e99b", func := "tranter/tranterlaw21.PlannerBounds", spec := "plannerBounds", inPlace := ["internal/bytealg.IndexByteString", "internal/bytealg.IndexString", "internal/bytealg.CountString", "slices.overlaps[tranter/api.Stop]", "internal/abi.NoEscape", "internal/bytealg.MakeNoZero"], unfollowed := true, recurses := true, named := ["internal/bytealg.MaxLen", "unicode/utf8.first", "unicode/utf8.acceptRanges"], apart := false, laid := [("unicode/utf8.acceptRanges", laid_unicode_utf8_acceptRanges), ("unicode/utf8.first", laid_unicode_utf8_first)] }
def PlannerBoundsSaid : Prop := plannerBoundsRow.holds Tryz.pinned (OpenSpec.ofChange plannerBoundsSpec)

/-- ITS FALSE NEIGHBOUR: 'it returns false'. Refute it at one input. -/
def plannerBoundsWrong : ChangeSpec := { name := "plannerBounds", fn := fun _ => fun
  | [d1, d2, d3] => { results := [.lit (.bool false)], args := [d1, d2, d3] }
  | _ => none }
def PlannerBoundsWrongFalsely : Prop := plannerBoundsRow.holds Tryz.pinned (OpenSpec.ofChange plannerBoundsWrong)

/-- 'tranterlaw21.PlannerAccepts': WHATEVER THE INPUT: true; the input reads as it did. -/
def plannerAcceptsSpec : ChangeSpec := { name := "plannerAccepts", fn := fun _ => fun
  | [d1, d2, d3, d4, d5, d6] => { results := [.lit (.bool true)], args := [d1, d2, d3, d4, d5, d6] }
  | _ => none }
def plannerAcceptsRow : OpenClaim := { program := "ytcocagkbfpgmiaagreatdoor", sum := "320d53e6ff5b9b3326c6276fd7ff3101d6c84214038b17d8275afe634205e99b", func := "tranter/tranterlaw21.PlannerAccepts", spec := "plannerAccepts", inPlace := ["internal/bytealg.IndexByteString", "internal/bytealg.IndexString", "internal/bytealg.CountString", "slices.overlaps[tranter/api.Stop]", "internal/abi.NoEscape", "internal/bytealg.MakeNoZero"], unfollowed := true, recurses := true, named := ["internal/bytealg.MaxLen", "unicode/utf8.first", "unicode/utf8.acceptRanges"], apart := false, laid := [("unicode/utf8.acceptRanges", laid_unicode_utf8_acceptRanges), ("unicode/utf8.first", laid_unicode_utf8_first)] }
def PlannerAcceptsSaid : Prop := plannerAcceptsRow.holds Tryz.pinned (OpenSpec.ofChange plannerAcceptsSpec)

/-- ITS FALSE NEIGHBOUR: 'it returns false'. Refute it at one input. -/
def plannerAcceptsWrong : ChangeSpec := { name := "plannerAccepts", fn := fun _ => fun
  | [d1, d2, d3, d4, d5, d6] => { results := [.lit (.bool false)], args := [d1, d2, d3, d4, d5, d6] }
  | _ => none }
def PlannerAcceptsWrongFalsely : Prop := plannerAcceptsRow.holds Tryz.pinned (OpenSpec.ofChange plannerAcceptsWrong)

/- THE SECOND FORM. 'bulk': how many values and letters a reading holds, each counted each time it is reached (what is shared counts as often as it is met; a slice's spare places count too). A statement '..UptoSaid' is the law's where the arguments, and the package variables that the reading takes, are together of bulk at most 1048576: NARROWER than '..Said'. Prove '..Said' where nothing that the law and all that it calls make is longer than what came in: it says more and counts as full. Else prove '..UptoSaid'. A law counts once. -/
mutual
def uptoBulk {H : Type} : DataW H → Nat
  | .lit (.string bytes) => bytes.length + 1
  | .lit _ => 1
  | .nil => 1
  | .ptr d => uptoBulk d + 1
  | .slice elems spare => uptoBulkAll elems + uptoBulkAll spare + 1
  | .agg parts => uptoBulkAll parts + 1
  | .iface _ d => uptoBulk d + 1
  | .map entries => uptoBulkEntries entries + 1
  | .held _ => 1
def uptoBulkAll {H : Type} : List (DataW H) → Nat
  | [] => 0
  | d :: r => uptoBulk d + uptoBulkAll r
def uptoBulkEntries {H : Type} : List (Lit × DataW H) → Nat
  | [] => 0
  | x :: r => uptoBulkEntry x + uptoBulkEntries r
def uptoBulkEntry {H : Type} : Lit × DataW H → Nat
  | (.string bytes, d) => bytes.length + uptoBulk d + 1
  | (_, d) => uptoBulk d + 1
 end
def uptoSmall : (H : Type) → List (DataW H) → Bool := fun _ ds => decide (uptoBulkAll ds ≤ 1048576)
def OpenSpec.upto (s : _root_.Go.ChangeSpec) : _root_.Go.OpenSpec := { _root_.Go.OpenSpec.ofChange s with cond := some uptoSmall }

/-- 'trantertop.TopFeasible', WHERE WHAT IT READS IS OF BULK AT MOST 1048576: true; the input reads as it did. -/
def topFeasibleUptoRow : OpenClaim := { program := "ytcocagkbfpgmiaagreatdoor", sum := "320d53e6ff5b9b3326c6276fd7ff3101d6c84214038b17d8275afe634205e99b", func := "tranter/trantertop.TopFeasible", spec := "topFeasible", inPlace := ["internal/bytealg.IndexByteString", "internal/bytealg.IndexString", "internal/bytealg.CountString", "slices.overlaps[tranter/api.Stop]", "internal/abi.NoEscape", "internal/bytealg.MakeNoZero"], unfollowed := true, recurses := true, named := ["internal/bytealg.MaxLen", "unicode/utf8.first", "unicode/utf8.acceptRanges"], apart := false, laid := [("unicode/utf8.acceptRanges", laid_unicode_utf8_acceptRanges), ("unicode/utf8.first", laid_unicode_utf8_first)], narrowed := true }
def TopFeasibleUptoSaid : Prop := topFeasibleUptoRow.holds Tryz.pinned (OpenSpec.upto topFeasibleSpec)

/-- 'trantertop.TopRound', WHERE WHAT IT READS IS OF BULK AT MOST 1048576: true; the input reads as it did. -/
def topRoundUptoRow : OpenClaim := { program := "ytcocagkbfpgmiaagreatdoor", sum := "320d53e6ff5b9b3326c6276fd7ff3101d6c84214038b17d8275afe634205e99b", func := "tranter/trantertop.TopRound", spec := "topRound", inPlace := ["internal/bytealg.IndexByteString", "internal/bytealg.IndexString", "internal/bytealg.CountString", "slices.overlaps[tranter/api.Stop]", "internal/abi.NoEscape", "internal/bytealg.MakeNoZero"], unfollowed := true, recurses := true, named := ["internal/bytealg.MaxLen", "unicode/utf8.first", "unicode/utf8.acceptRanges"], apart := false, laid := [("unicode/utf8.acceptRanges", laid_unicode_utf8_acceptRanges), ("unicode/utf8.first", laid_unicode_utf8_first)], narrowed := true }
def TopRoundUptoSaid : Prop := topRoundUptoRow.holds Tryz.pinned (OpenSpec.upto topRoundSpec)

/-- 'tranterlaw21.PlannerClasses', WHERE WHAT IT READS IS OF BULK AT MOST 1048576: true; the input reads as it did. -/
def plannerClassesUptoRow : OpenClaim := { program := "ytcocagkbfpgmiaagreatdoor", sum := "320d53e6ff5b9b3326c6276fd7ff3101d6c84214038b17d8275afe634205e99b", func := "tranter/tranterlaw21.PlannerClasses", spec := "plannerClasses", inPlace := ["internal/bytealg.IndexByteString", "internal/bytealg.IndexString", "internal/bytealg.CountString", "slices.overlaps[tranter/api.Stop]", "internal/abi.NoEscape", "internal/bytealg.MakeNoZero"], unfollowed := true, recurses := true, named := ["internal/bytealg.MaxLen", "unicode/utf8.first", "unicode/utf8.acceptRanges"], apart := false, laid := [("unicode/utf8.acceptRanges", laid_unicode_utf8_acceptRanges), ("unicode/utf8.first", laid_unicode_utf8_first)], narrowed := true }
def PlannerClassesUptoSaid : Prop := plannerClassesUptoRow.holds Tryz.pinned (OpenSpec.upto plannerClassesSpec)

/-- 'tranterlaw21.PlannerPlans', WHERE WHAT IT READS IS OF BULK AT MOST 1048576: true; the input reads as it did. -/
def plannerPlansUptoRow : OpenClaim := { program := "ytcocagkbfpgmiaagreatdoor", sum := "320d53e6ff5b9b3326c6276fd7ff3101d6c84214038b17d8275afe634205e99b", func := "tranter/tranterlaw21.PlannerPlans", spec := "plannerPlans", inPlace := ["internal/bytealg.IndexByteString", "internal/bytealg.IndexString", "internal/bytealg.CountString", "slices.overlaps[tranter/api.Stop]", "internal/abi.NoEscape", "internal/bytealg.MakeNoZero"], unfollowed := true, recurses := true, named := ["internal/bytealg.MaxLen", "unicode/utf8.first", "unicode/utf8.acceptRanges"], apart := false, laid := [("unicode/utf8.acceptRanges", laid_unicode_utf8_acceptRanges), ("unicode/utf8.first", laid_unicode_utf8_first)], narrowed := true }
def PlannerPlansUptoSaid : Prop := plannerPlansUptoRow.holds Tryz.pinned (OpenSpec.upto plannerPlansSpec)

/-- 'tranterlaw21.PlannerPrints', WHERE WHAT IT READS IS OF BULK AT MOST 1048576: true; the input reads as it did. -/
def plannerPrintsUptoRow : OpenClaim := { program := "ytcocagkbfpgmiaagreatdoor", sum := "320d53e6ff5b9b3326c6276fd7ff3101d6c84214038b17d8275afe634205e99b", func := "tranter/tranterlaw21.PlannerPrints", spec := "plannerPrints", inPlace := ["internal/bytealg.IndexByteString", "internal/bytealg.IndexString", "internal/bytealg.CountString", "slices.overlaps[tranter/api.Stop]", "internal/abi.NoEscape", "internal/bytealg.MakeNoZero"], unfollowed := true, recurses := true, named := ["internal/bytealg.MaxLen", "unicode/utf8.first", "unicode/utf8.acceptRanges"], apart := false, laid := [("unicode/utf8.acceptRanges", laid_unicode_utf8_acceptRanges), ("unicode/utf8.first", laid_unicode_utf8_first)], narrowed := true }
def PlannerPrintsUptoSaid : Prop := plannerPrintsUptoRow.holds Tryz.pinned (OpenSpec.upto plannerPrintsSpec)

/-- 'tranterlaw21.PlannerAgain', WHERE WHAT IT READS IS OF BULK AT MOST 1048576: true; the input reads as it did. -/
def plannerAgainUptoRow : OpenClaim := { program := "ytcocagkbfpgmiaagreatdoor", sum := "320d53e6ff5b9b3326c6276fd7ff3101d6c84214038b17d8275afe634205e99b", func := "tranter/tranterlaw21.PlannerAgain", spec := "plannerAgain", inPlace := ["internal/bytealg.IndexByteString", "internal/bytealg.IndexString", "internal/bytealg.CountString", "slices.overlaps[tranter/api.Stop]", "internal/abi.NoEscape", "internal/bytealg.MakeNoZero"], unfollowed := true, recurses := true, named := ["internal/bytealg.MaxLen", "unicode/utf8.first", "unicode/utf8.acceptRanges"], apart := false, laid := [("unicode/utf8.acceptRanges", laid_unicode_utf8_acceptRanges), ("unicode/utf8.first", laid_unicode_utf8_first)], narrowed := true }
def PlannerAgainUptoSaid : Prop := plannerAgainUptoRow.holds Tryz.pinned (OpenSpec.upto plannerAgainSpec)

/-- 'tranterlaw21.PlannerBounds', WHERE WHAT IT READS IS OF BULK AT MOST 1048576: true; the input reads as it did. -/
def plannerBoundsUptoRow : OpenClaim := { program := "ytcocagkbfpgmiaagreatdoor", sum := "320d53e6ff5b9b3326c6276fd7ff3101d6c84214038b17d8275afe634205e99b", func := "tranter/tranterlaw21.PlannerBounds", spec := "plannerBounds", inPlace := ["internal/bytealg.IndexByteString", "internal/bytealg.IndexString", "internal/bytealg.CountString", "slices.overlaps[tranter/api.Stop]", "internal/abi.NoEscape", "internal/bytealg.MakeNoZero"], unfollowed := true, recurses := true, named := ["internal/bytealg.MaxLen", "unicode/utf8.first", "unicode/utf8.acceptRanges"], apart := false, laid := [("unicode/utf8.acceptRanges", laid_unicode_utf8_acceptRanges), ("unicode/utf8.first", laid_unicode_utf8_first)], narrowed := true }
def PlannerBoundsUptoSaid : Prop := plannerBoundsUptoRow.holds Tryz.pinned (OpenSpec.upto plannerBoundsSpec)

/-- 'tranterlaw21.PlannerAccepts', WHERE WHAT IT READS IS OF BULK AT MOST 1048576: true; the input reads as it did. -/
def plannerAcceptsUptoRow : OpenClaim := { program := "ytcocagkbfpgmiaagreatdoor", sum := "320d53e6ff5b9b3326c6276fd7ff3101d6c84214038b17d8275afe634205e99b", func := "tranter/tranterlaw21.PlannerAccepts", spec := "plannerAccepts", inPlace := ["internal/bytealg.IndexByteString", "internal/bytealg.IndexString", "internal/bytealg.CountString", "slices.overlaps[tranter/api.Stop]", "internal/abi.NoEscape", "internal/bytealg.MakeNoZero"], unfollowed := true, recurses := true, named := ["internal/bytealg.MaxLen", "unicode/utf8.first", "unicode/utf8.acceptRanges"], apart := false, laid := [("unicode/utf8.acceptRanges", laid_unicode_utf8_acceptRanges), ("unicode/utf8.first", laid_unicode_utf8_first)], narrowed := true }
def PlannerAcceptsUptoSaid : Prop := plannerAcceptsUptoRow.holds Tryz.pinned (OpenSpec.upto plannerAcceptsSpec)

end Rows
end Go.Proofs.YtcocagkbfpgmiaaGreatDoor
