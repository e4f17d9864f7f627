/-
  No cell of these rows narrows 'for every input' (looked for: loops, veiled, ifaces, maps, wideKeys, modest, calm, conditions, laid).
  DERIVED. THE GIVEN ROWS OF THIS SEAT. 5 by the template 'for every input the law returns true; each argument reads behind the call as it read before'; 0 by the template 'total and deterministic' (their statements: YtlkcdaeknioanaaGreatTotals.lean).
  GIVEN WITH THE SEED: the statements are not yours to turn. If you find one false, say at which input.
  Laid BY PROGRAM, IN A SANDBOX (cutbox-rows.mjs): the forced cells as the released guide's own fill.sh prints them over the translation a050279ca0a337d6… (all of the seat's roots in one cut). By AI agents, Wed Nov 11 2026. No macro, syntax, notation, axiom, sorry.
-/
import Derived.Test.YtlkcdaeknioanaaGreatChecked
import GoSem.Claim
import GoSem.ClaimJoined
import GoSem.ClaimMapViews
import Derived.JoinedTies
import Derived.KernelRfl
namespace Go.Proofs.YtlkcdaeknioanaaGreat
/- THE CELL 'sum', in the pinned program and in every row, IS THE sha256 OF THE DUMP (.gsa) THAT YtlkcdaeknioanaaGreatProg.lean LOADS. Nothing in Lean hashes anything: it is a label: what it is worth is what the hold of that sum in a sandbox is worth. -/
noncomputable def Tryz.pinned : Pinned := { name := "ytlkcdaeknioanaagreat", sum := "a050279ca0a337d69f92616e3ee457b085a94bda0c231d37baaf09da057bc3b1", checked := Tryz.checked }
namespace Rows
def none {H : Type} : Left H := { results := [], args := [] }

/-- 'tranterlaw16.CheckPlans': WHATEVER THE INPUT: true; the input reads as it did. -/
def checkPlansSpec : ChangeSpec := { name := "checkPlans", fn := fun _ => fun
  | [d1, d2, d3, d4, d5, d6] => { results := [.lit (.bool true)], args := [d1, d2, d3, d4, d5, d6] }
  | _ => none }
def checkPlansRow : OpenClaim := { program := "ytlkcdaeknioanaagreat", sum := "a050279ca0a337d69f92616e3ee457b085a94bda0c231d37baaf09da057bc3b1", func := "tranter/tranterlaw16.CheckPlans", spec := "checkPlans", unfollowed := true, recurses := true, apart := false }
def CheckPlansSaid : Prop := checkPlansRow.holds Tryz.pinned (OpenSpec.ofChange checkPlansSpec)

/-- ITS FALSE NEIGHBOUR: 'it returns false'. Refute it at one input. -/
def checkPlansWrong : ChangeSpec := { name := "checkPlans", fn := fun _ => fun
  | [d1, d2, d3, d4, d5, d6] => { results := [.lit (.bool false)], args := [d1, d2, d3, d4, d5, d6] }
  | _ => none }
def CheckPlansWrongFalsely : Prop := checkPlansRow.holds Tryz.pinned (OpenSpec.ofChange checkPlansWrong)

/-- 'tranterlaw16.CheckRange': WHATEVER THE INPUT: true; the input reads as it did. -/
def checkRangeSpec : ChangeSpec := { name := "checkRange", fn := fun _ => fun
  | [d1, d2] => { results := [.lit (.bool true)], args := [d1, d2] }
  | _ => none }
def checkRangeRow : OpenClaim := { program := "ytlkcdaeknioanaagreat", sum := "a050279ca0a337d69f92616e3ee457b085a94bda0c231d37baaf09da057bc3b1", func := "tranter/tranterlaw16.CheckRange", spec := "checkRange", unfollowed := true, recurses := true, apart := false }
def CheckRangeSaid : Prop := checkRangeRow.holds Tryz.pinned (OpenSpec.ofChange checkRangeSpec)

/-- ITS FALSE NEIGHBOUR: 'it returns false'. Refute it at one input. -/
def checkRangeWrong : ChangeSpec := { name := "checkRange", fn := fun _ => fun
  | [d1, d2] => { results := [.lit (.bool false)], args := [d1, d2] }
  | _ => none }
def CheckRangeWrongFalsely : Prop := checkRangeRow.holds Tryz.pinned (OpenSpec.ofChange checkRangeWrong)

/-- 'tranterlaw16.CheckDays': WHATEVER THE INPUT: true; the input reads as it did. -/
def checkDaysSpec : ChangeSpec := { name := "checkDays", fn := fun _ => fun
  | [d1, d2, d3, d4] => { results := [.lit (.bool true)], args := [d1, d2, d3, d4] }
  | _ => none }
def checkDaysRow : OpenClaim := { program := "ytlkcdaeknioanaagreat", sum := "a050279ca0a337d69f92616e3ee457b085a94bda0c231d37baaf09da057bc3b1", func := "tranter/tranterlaw16.CheckDays", spec := "checkDays", unfollowed := true, recurses := true, apart := false }
def CheckDaysSaid : Prop := checkDaysRow.holds Tryz.pinned (OpenSpec.ofChange checkDaysSpec)

/-- ITS FALSE NEIGHBOUR: 'it returns false'. Refute it at one input. -/
def checkDaysWrong : ChangeSpec := { name := "checkDays", fn := fun _ => fun
  | [d1, d2, d3, d4] => { results := [.lit (.bool false)], args := [d1, d2, d3, d4] }
  | _ => none }
def CheckDaysWrongFalsely : Prop := checkDaysRow.holds Tryz.pinned (OpenSpec.ofChange checkDaysWrong)

/-- 'tranterlaw16.CheckWider': WHATEVER THE INPUT: true; the input reads as it did. -/
def checkWiderSpec : ChangeSpec := { name := "checkWider", fn := fun _ => fun
  | [d1, d2, d3, d4] => { results := [.lit (.bool true)], args := [d1, d2, d3, d4] }
  | _ => none }
def checkWiderRow : OpenClaim := { program := "ytlkcdaeknioanaagreat", sum := "a050279ca0a337d69f92616e3ee457b085a94bda0c231d37baaf09da057bc3b1", func := "tranter/tranterlaw16.CheckWider", spec := "checkWider", unfollowed := true, recurses := true, apart := false }
def CheckWiderSaid : Prop := checkWiderRow.holds Tryz.pinned (OpenSpec.ofChange checkWiderSpec)

/-- ITS FALSE NEIGHBOUR: 'it returns false'. Refute it at one input. -/
def checkWiderWrong : ChangeSpec := { name := "checkWider", fn := fun _ => fun
  | [d1, d2, d3, d4] => { results := [.lit (.bool false)], args := [d1, d2, d3, d4] }
  | _ => none }
def CheckWiderWrongFalsely : Prop := checkWiderRow.holds Tryz.pinned (OpenSpec.ofChange checkWiderWrong)

/-- 'tranterlaw16.CheckCosts': WHATEVER THE INPUT: true; the input reads as it did. -/
def checkCostsSpec : ChangeSpec := { name := "checkCosts", fn := fun _ => fun
  | [d1, d2, d3, d4] => { results := [.lit (.bool true)], args := [d1, d2, d3, d4] }
  | _ => none }
def checkCostsRow : OpenClaim := { program := "ytlkcdaeknioanaagreat", sum := "a050279ca0a337d69f92616e3ee457b085a94bda0c231d37baaf09da057bc3b1", func := "tranter/tranterlaw16.CheckCosts", spec := "checkCosts", unfollowed := true, recurses := true, apart := false }
def CheckCostsSaid : Prop := checkCostsRow.holds Tryz.pinned (OpenSpec.ofChange checkCostsSpec)

/-- ITS FALSE NEIGHBOUR: 'it returns false'. Refute it at one input. -/
def checkCostsWrong : ChangeSpec := { name := "checkCosts", fn := fun _ => fun
  | [d1, d2, d3, d4] => { results := [.lit (.bool false)], args := [d1, d2, d3, d4] }
  | _ => none }
def CheckCostsWrongFalsely : Prop := checkCostsRow.holds Tryz.pinned (OpenSpec.ofChange checkCostsWrong)

/- THE SECOND FORM. 'bulk': how many values and letters a reading holds, each counted each time it is reached (what is shared counts as often as it is met; a slice's spare places count too). A statement '..UptoSaid' is the law's where the arguments, and the package variables that the reading takes, are together of bulk at most 1048576: NARROWER than '..Said'. Prove '..Said' where nothing that the law and all that it calls make is longer than what came in: it says more and counts as full. Else prove '..UptoSaid'. A law counts once. -/
mutual
def uptoBulk {H : Type} : DataW H → Nat
  | .lit (.string bytes) => bytes.length + 1
  | .lit _ => 1
  | .nil => 1
  | .ptr d => uptoBulk d + 1
  | .slice elems spare => uptoBulkAll elems + uptoBulkAll spare + 1
  | .agg parts => uptoBulkAll parts + 1
  | .iface _ d => uptoBulk d + 1
  | .map entries => uptoBulkEntries entries + 1
  | .held _ => 1
def uptoBulkAll {H : Type} : List (DataW H) → Nat
  | [] => 0
  | d :: r => uptoBulk d + uptoBulkAll r
def uptoBulkEntries {H : Type} : List (Lit × DataW H) → Nat
  | [] => 0
  | x :: r => uptoBulkEntry x + uptoBulkEntries r
def uptoBulkEntry {H : Type} : Lit × DataW H → Nat
  | (.string bytes, d) => bytes.length + uptoBulk d + 1
  | (_, d) => uptoBulk d + 1
 end
def uptoSmall : (H : Type) → List (DataW H) → Bool := fun _ ds => decide (uptoBulkAll ds ≤ 1048576)
def OpenSpec.upto (s : _root_.Go.ChangeSpec) : _root_.Go.OpenSpec := { _root_.Go.OpenSpec.ofChange s with cond := some uptoSmall }

/-- 'tranterlaw16.CheckPlans', WHERE WHAT IT READS IS OF BULK AT MOST 1048576: true; the input reads as it did. -/
def checkPlansUptoRow : OpenClaim := { program := "ytlkcdaeknioanaagreat", sum := "a050279ca0a337d69f92616e3ee457b085a94bda0c231d37baaf09da057bc3b1", func := "tranter/tranterlaw16.CheckPlans", spec := "checkPlans", unfollowed := true, recurses := true, apart := false, narrowed := true }
def CheckPlansUptoSaid : Prop := checkPlansUptoRow.holds Tryz.pinned (OpenSpec.upto checkPlansSpec)

/-- 'tranterlaw16.CheckRange', WHERE WHAT IT READS IS OF BULK AT MOST 1048576: true; the input reads as it did. -/
def checkRangeUptoRow : OpenClaim := { program := "ytlkcdaeknioanaagreat", sum := "a050279ca0a337d69f92616e3ee457b085a94bda0c231d37baaf09da057bc3b1", func := "tranter/tranterlaw16.CheckRange", spec := "checkRange", unfollowed := true, recurses := true, apart := false, narrowed := true }
def CheckRangeUptoSaid : Prop := checkRangeUptoRow.holds Tryz.pinned (OpenSpec.upto checkRangeSpec)

/-- 'tranterlaw16.CheckDays', WHERE WHAT IT READS IS OF BULK AT MOST 1048576: true; the input reads as it did. -/
def checkDaysUptoRow : OpenClaim := { program := "ytlkcdaeknioanaagreat", sum := "a050279ca0a337d69f92616e3ee457b085a94bda0c231d37baaf09da057bc3b1", func := "tranter/tranterlaw16.CheckDays", spec := "checkDays", unfollowed := true, recurses := true, apart := false, narrowed := true }
def CheckDaysUptoSaid : Prop := checkDaysUptoRow.holds Tryz.pinned (OpenSpec.upto checkDaysSpec)

/-- 'tranterlaw16.CheckWider', WHERE WHAT IT READS IS OF BULK AT MOST 1048576: true; the input reads as it did. -/
def checkWiderUptoRow : OpenClaim := { program := "ytlkcdaeknioanaagreat", sum := "a050279ca0a337d69f92616e3ee457b085a94bda0c231d37baaf09da057bc3b1", func := "tranter/tranterlaw16.CheckWider", spec := "checkWider", unfollowed := true, recurses := true, apart := false, narrowed := true }
def CheckWiderUptoSaid : Prop := checkWiderUptoRow.holds Tryz.pinned (OpenSpec.upto checkWiderSpec)

/-- 'tranterlaw16.CheckCosts', WHERE WHAT IT READS IS OF BULK AT MOST 1048576: true; the input reads as it did. -/
def checkCostsUptoRow : OpenClaim := { program := "ytlkcdaeknioanaagreat", sum := "a050279ca0a337d69f92616e3ee457b085a94bda0c231d37baaf09da057bc3b1", func := "tranter/tranterlaw16.CheckCosts", spec := "checkCosts", unfollowed := true, recurses := true, apart := false, narrowed := true }
def CheckCostsUptoSaid : Prop := checkCostsUptoRow.holds Tryz.pinned (OpenSpec.upto checkCostsSpec)

end Rows
end Go.Proofs.YtlkcdaeknioanaaGreat
