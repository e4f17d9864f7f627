/-
  No cell of these rows narrows 'for every input' (looked for: loops, veiled, ifaces, maps, wideKeys, modest, calm, conditions, laid).
  DERIVED. THE GIVEN ROWS OF THIS SEAT. 6 by the template 'for every input the law returns true; each argument reads behind the call as it read before'; 0 by the template 'total and deterministic' (their statements: YtpifkibgplnnkaaTotals.lean).
  GIVEN WITH THE SEED: the statements are not yours to turn. If you find one false, say at which input.
  Laid BY PROGRAM, IN A SANDBOX (cutbox-rows.mjs): the forced cells as the released guide's own fill.sh prints them over the translation 6fdf85277929ccaa… (all of the seat's roots in one cut). By AI agents, Wed Nov 11 2026. No macro, syntax, notation, axiom, sorry.
-/
import Derived.Test.YtpifkibgplnnkaaChecked
import GoSem.Claim
import GoSem.ClaimJoined
import GoSem.ClaimMapViews
import Derived.JoinedTies
import Derived.KernelRfl
namespace Go.Proofs.Ytpifkibgplnnkaa
/- THE CELL 'sum', in the pinned program and in every row, IS THE sha256 OF THE DUMP (.gsa) THAT YtpifkibgplnnkaaProg.lean LOADS. Nothing in Lean hashes anything: it is a label: what it is worth is what the hold of that sum in a sandbox is worth. -/
noncomputable def Try.pinned : Pinned := { name := "ytpifkibgplnnkaa", sum := "6fdf85277929ccaa71536fcc218f4d3ba40915fa383e9067536b817241d78981", checked := Try.checked }
namespace Rows
def none {H : Type} : Left H := { results := [], args := [] }

/-- 'tranterlaw03.HeapSorts': WHATEVER THE INPUT: true; the input reads as it did. -/
def heapSortsSpec : ChangeSpec := { name := "heapSorts", fn := fun _ => fun
  | [d] => { results := [.lit (.bool true)], args := [d] }
  | _ => none }
def heapSortsRow : OpenClaim := { program := "ytpifkibgplnnkaa", sum := "6fdf85277929ccaa71536fcc218f4d3ba40915fa383e9067536b817241d78981", func := "tranter/tranterlaw03.HeapSorts", spec := "heapSorts", unfollowed := true, recurses := true, apart := false }
def HeapSortsSaid : Prop := heapSortsRow.holds Try.pinned (OpenSpec.ofChange heapSortsSpec)

/-- ITS FALSE NEIGHBOUR: 'it returns false'. Refute it at one input. -/
def heapSortsWrong : ChangeSpec := { name := "heapSorts", fn := fun _ => fun
  | [d] => { results := [.lit (.bool false)], args := [d] }
  | _ => none }
def HeapSortsWrongFalsely : Prop := heapSortsRow.holds Try.pinned (OpenSpec.ofChange heapSortsWrong)

/-- 'tranterlaw03.HeapOnce': WHATEVER THE INPUT: true; the input reads as it did. -/
def heapOnceSpec : ChangeSpec := { name := "heapOnce", fn := fun _ => fun
  | [d] => { results := [.lit (.bool true)], args := [d] }
  | _ => none }
def heapOnceRow : OpenClaim := { program := "ytpifkibgplnnkaa", sum := "6fdf85277929ccaa71536fcc218f4d3ba40915fa383e9067536b817241d78981", func := "tranter/tranterlaw03.HeapOnce", spec := "heapOnce", unfollowed := true, recurses := true, apart := false }
def HeapOnceSaid : Prop := heapOnceRow.holds Try.pinned (OpenSpec.ofChange heapOnceSpec)

/-- ITS FALSE NEIGHBOUR: 'it returns false'. Refute it at one input. -/
def heapOnceWrong : ChangeSpec := { name := "heapOnce", fn := fun _ => fun
  | [d] => { results := [.lit (.bool false)], args := [d] }
  | _ => none }
def HeapOnceWrongFalsely : Prop := heapOnceRow.holds Try.pinned (OpenSpec.ofChange heapOnceWrong)

/-- 'tranterlaw13.SavingsKeeps': WHATEVER THE INPUT: true; the input reads as it did. -/
def savingsKeepsSpec : ChangeSpec := { name := "savingsKeeps", fn := fun _ => fun
  | [d1, d2] => { results := [.lit (.bool true)], args := [d1, d2] }
  | _ => none }
def savingsKeepsRow : OpenClaim := { program := "ytpifkibgplnnkaa", sum := "6fdf85277929ccaa71536fcc218f4d3ba40915fa383e9067536b817241d78981", func := "tranter/tranterlaw13.SavingsKeeps", spec := "savingsKeeps", unfollowed := true, recurses := true, apart := false }
def SavingsKeepsSaid : Prop := savingsKeepsRow.holds Try.pinned (OpenSpec.ofChange savingsKeepsSpec)

/-- ITS FALSE NEIGHBOUR: 'it returns false'. Refute it at one input. -/
def savingsKeepsWrong : ChangeSpec := { name := "savingsKeeps", fn := fun _ => fun
  | [d1, d2] => { results := [.lit (.bool false)], args := [d1, d2] }
  | _ => none }
def SavingsKeepsWrongFalsely : Prop := savingsKeepsRow.holds Try.pinned (OpenSpec.ofChange savingsKeepsWrong)

/-- 'tranterlaw13.SavingsAre': WHATEVER THE INPUT: true; the input reads as it did. -/
def savingsAreSpec : ChangeSpec := { name := "savingsAre", fn := fun _ => fun
  | [d1, d2, d3] => { results := [.lit (.bool true)], args := [d1, d2, d3] }
  | _ => none }
def savingsAreRow : OpenClaim := { program := "ytpifkibgplnnkaa", sum := "6fdf85277929ccaa71536fcc218f4d3ba40915fa383e9067536b817241d78981", func := "tranter/tranterlaw13.SavingsAre", spec := "savingsAre", unfollowed := true, recurses := true, apart := false }
def SavingsAreSaid : Prop := savingsAreRow.holds Try.pinned (OpenSpec.ofChange savingsAreSpec)

/-- ITS FALSE NEIGHBOUR: 'it returns false'. Refute it at one input. -/
def savingsAreWrong : ChangeSpec := { name := "savingsAre", fn := fun _ => fun
  | [d1, d2, d3] => { results := [.lit (.bool false)], args := [d1, d2, d3] }
  | _ => none }
def SavingsAreWrongFalsely : Prop := savingsAreRow.holds Try.pinned (OpenSpec.ofChange savingsAreWrong)

/-- 'tranterlaw13.SavingsPairs': WHATEVER THE INPUT: true; the input reads as it did. -/
def savingsPairsSpec : ChangeSpec := { name := "savingsPairs", fn := fun _ => fun
  | [d1, d2] => { results := [.lit (.bool true)], args := [d1, d2] }
  | _ => none }
def savingsPairsRow : OpenClaim := { program := "ytpifkibgplnnkaa", sum := "6fdf85277929ccaa71536fcc218f4d3ba40915fa383e9067536b817241d78981", func := "tranter/tranterlaw13.SavingsPairs", spec := "savingsPairs", unfollowed := true, recurses := true, apart := false }
def SavingsPairsSaid : Prop := savingsPairsRow.holds Try.pinned (OpenSpec.ofChange savingsPairsSpec)

/-- ITS FALSE NEIGHBOUR: 'it returns false'. Refute it at one input. -/
def savingsPairsWrong : ChangeSpec := { name := "savingsPairs", fn := fun _ => fun
  | [d1, d2] => { results := [.lit (.bool false)], args := [d1, d2] }
  | _ => none }
def SavingsPairsWrongFalsely : Prop := savingsPairsRow.holds Try.pinned (OpenSpec.ofChange savingsPairsWrong)

/-- 'tranterlaw13.SavingsDown': WHATEVER THE INPUT: true; the input reads as it did. -/
def savingsDownSpec : ChangeSpec := { name := "savingsDown", fn := fun _ => fun
  | [d1, d2] => { results := [.lit (.bool true)], args := [d1, d2] }
  | _ => none }
def savingsDownRow : OpenClaim := { program := "ytpifkibgplnnkaa", sum := "6fdf85277929ccaa71536fcc218f4d3ba40915fa383e9067536b817241d78981", func := "tranter/tranterlaw13.SavingsDown", spec := "savingsDown", unfollowed := true, recurses := true, apart := false }
def SavingsDownSaid : Prop := savingsDownRow.holds Try.pinned (OpenSpec.ofChange savingsDownSpec)

/-- ITS FALSE NEIGHBOUR: 'it returns false'. Refute it at one input. -/
def savingsDownWrong : ChangeSpec := { name := "savingsDown", fn := fun _ => fun
  | [d1, d2] => { results := [.lit (.bool false)], args := [d1, d2] }
  | _ => none }
def SavingsDownWrongFalsely : Prop := savingsDownRow.holds Try.pinned (OpenSpec.ofChange savingsDownWrong)

/- THE SECOND FORM. 'bulk': how many values and letters a reading holds, each counted each time it is reached (what is shared counts as often as it is met; a slice's spare places count too). A statement '..UptoSaid' is the law's where the arguments, and the package variables that the reading takes, are together of bulk at most 1048576: NARROWER than '..Said'. Prove '..Said' where nothing that the law and all that it calls make is longer than what came in: it says more and counts as full. Else prove '..UptoSaid'. A law counts once. -/
mutual
def uptoBulk {H : Type} : DataW H → Nat
  | .lit (.string bytes) => bytes.length + 1
  | .lit _ => 1
  | .nil => 1
  | .ptr d => uptoBulk d + 1
  | .slice elems spare => uptoBulkAll elems + uptoBulkAll spare + 1
  | .agg parts => uptoBulkAll parts + 1
  | .iface _ d => uptoBulk d + 1
  | .map entries => uptoBulkEntries entries + 1
  | .held _ => 1
def uptoBulkAll {H : Type} : List (DataW H) → Nat
  | [] => 0
  | d :: r => uptoBulk d + uptoBulkAll r
def uptoBulkEntries {H : Type} : List (Lit × DataW H) → Nat
  | [] => 0
  | x :: r => uptoBulkEntry x + uptoBulkEntries r
def uptoBulkEntry {H : Type} : Lit × DataW H → Nat
  | (.string bytes, d) => bytes.length + uptoBulk d + 1
  | (_, d) => uptoBulk d + 1
 end
def uptoSmall : (H : Type) → List (DataW H) → Bool := fun _ ds => decide (uptoBulkAll ds ≤ 1048576)
def OpenSpec.upto (s : _root_.Go.ChangeSpec) : _root_.Go.OpenSpec := { _root_.Go.OpenSpec.ofChange s with cond := some uptoSmall }

/-- 'tranterlaw03.HeapSorts', WHERE WHAT IT READS IS OF BULK AT MOST 1048576: true; the input reads as it did. -/
def heapSortsUptoRow : OpenClaim := { program := "ytpifkibgplnnkaa", sum := "6fdf85277929ccaa71536fcc218f4d3ba40915fa383e9067536b817241d78981", func := "tranter/tranterlaw03.HeapSorts", spec := "heapSorts", unfollowed := true, recurses := true, apart := false, narrowed := true }
def HeapSortsUptoSaid : Prop := heapSortsUptoRow.holds Try.pinned (OpenSpec.upto heapSortsSpec)

/-- 'tranterlaw03.HeapOnce', WHERE WHAT IT READS IS OF BULK AT MOST 1048576: true; the input reads as it did. -/
def heapOnceUptoRow : OpenClaim := { program := "ytpifkibgplnnkaa", sum := "6fdf85277929ccaa71536fcc218f4d3ba40915fa383e9067536b817241d78981", func := "tranter/tranterlaw03.HeapOnce", spec := "heapOnce", unfollowed := true, recurses := true, apart := false, narrowed := true }
def HeapOnceUptoSaid : Prop := heapOnceUptoRow.holds Try.pinned (OpenSpec.upto heapOnceSpec)

/-- 'tranterlaw13.SavingsKeeps', WHERE WHAT IT READS IS OF BULK AT MOST 1048576: true; the input reads as it did. -/
def savingsKeepsUptoRow : OpenClaim := { program := "ytpifkibgplnnkaa", sum := "6fdf85277929ccaa71536fcc218f4d3ba40915fa383e9067536b817241d78981", func := "tranter/tranterlaw13.SavingsKeeps", spec := "savingsKeeps", unfollowed := true, recurses := true, apart := false, narrowed := true }
def SavingsKeepsUptoSaid : Prop := savingsKeepsUptoRow.holds Try.pinned (OpenSpec.upto savingsKeepsSpec)

/-- 'tranterlaw13.SavingsAre', WHERE WHAT IT READS IS OF BULK AT MOST 1048576: true; the input reads as it did. -/
def savingsAreUptoRow : OpenClaim := { program := "ytpifkibgplnnkaa", sum := "6fdf85277929ccaa71536fcc218f4d3ba40915fa383e9067536b817241d78981", func := "tranter/tranterlaw13.SavingsAre", spec := "savingsAre", unfollowed := true, recurses := true, apart := false, narrowed := true }
def SavingsAreUptoSaid : Prop := savingsAreUptoRow.holds Try.pinned (OpenSpec.upto savingsAreSpec)

/-- 'tranterlaw13.SavingsPairs', WHERE WHAT IT READS IS OF BULK AT MOST 1048576: true; the input reads as it did. -/
def savingsPairsUptoRow : OpenClaim := { program := "ytpifkibgplnnkaa", sum := "6fdf85277929ccaa71536fcc218f4d3ba40915fa383e9067536b817241d78981", func := "tranter/tranterlaw13.SavingsPairs", spec := "savingsPairs", unfollowed := true, recurses := true, apart := false, narrowed := true }
def SavingsPairsUptoSaid : Prop := savingsPairsUptoRow.holds Try.pinned (OpenSpec.upto savingsPairsSpec)

/-- 'tranterlaw13.SavingsDown', WHERE WHAT IT READS IS OF BULK AT MOST 1048576: true; the input reads as it did. -/
def savingsDownUptoRow : OpenClaim := { program := "ytpifkibgplnnkaa", sum := "6fdf85277929ccaa71536fcc218f4d3ba40915fa383e9067536b817241d78981", func := "tranter/tranterlaw13.SavingsDown", spec := "savingsDown", unfollowed := true, recurses := true, apart := false, narrowed := true }
def SavingsDownUptoSaid : Prop := savingsDownUptoRow.holds Try.pinned (OpenSpec.upto savingsDownSpec)

end Rows
end Go.Proofs.Ytpifkibgplnnkaa
