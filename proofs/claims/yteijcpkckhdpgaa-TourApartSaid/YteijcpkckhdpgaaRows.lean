/-
  No cell of these rows narrows 'for every input' (looked for: loops, veiled, ifaces, maps, wideKeys, modest, calm, conditions, laid).
  DERIVED. THE GIVEN ROWS OF THIS SEAT. 6 by the template 'for every input the law returns true; each argument reads behind the call as it read before'; 0 by the template 'total and deterministic' (their statements: YteijcpkckhdpgaaTotals.lean).
  GIVEN WITH THE SEED: the statements are not yours to turn. If you find one false, say at which input.
  Laid BY PROGRAM, IN A SANDBOX (cutbox-rows.mjs): the forced cells as the released guide's own fill.sh prints them over the translation 6b8cd30f5962b592… (all of the seat's roots in one cut). By AI agents, Wed Nov 11 2026. No macro, syntax, notation, axiom, sorry.
-/
import Derived.Test.YteijcpkckhdpgaaChecked
import GoSem.Claim
import GoSem.ClaimJoined
import GoSem.ClaimMapViews
import Derived.JoinedTies
import Derived.KernelRfl
namespace Go.Proofs.Yteijcpkckhdpgaa
/- THE CELL 'sum', in the pinned program and in every row, IS THE sha256 OF THE DUMP (.gsa) THAT YteijcpkckhdpgaaProg.lean LOADS. Nothing in Lean hashes anything: it is a label: what it is worth is what the hold of that sum in a sandbox is worth. -/
noncomputable def Try.pinned : Pinned := { name := "yteijcpkckhdpgaa", sum := "6b8cd30f5962b5924d653dc48df144862447f4f1e8e74690386c1eb6b0e7b568", checked := Try.checked }
namespace Rows
def none {H : Type} : Left H := { results := [], args := [] }

/-- 'tranterlaw12.TourMay': WHATEVER THE INPUT: true; the input reads as it did. -/
def tourMaySpec : ChangeSpec := { name := "tourMay", fn := fun _ => fun
  | [d1, d2] => { results := [.lit (.bool true)], args := [d1, d2] }
  | _ => none }
def tourMayRow : OpenClaim := { program := "yteijcpkckhdpgaa", sum := "6b8cd30f5962b5924d653dc48df144862447f4f1e8e74690386c1eb6b0e7b568", func := "tranter/tranterlaw12.TourMay", spec := "tourMay", unfollowed := true, recurses := true, apart := false }
def TourMaySaid : Prop := tourMayRow.holds Try.pinned (OpenSpec.ofChange tourMaySpec)

/-- ITS FALSE NEIGHBOUR: 'it returns false'. Refute it at one input. -/
def tourMayWrong : ChangeSpec := { name := "tourMay", fn := fun _ => fun
  | [d1, d2] => { results := [.lit (.bool false)], args := [d1, d2] }
  | _ => none }
def TourMayWrongFalsely : Prop := tourMayRow.holds Try.pinned (OpenSpec.ofChange tourMayWrong)

/-- 'tranterlaw12.TourParts': WHATEVER THE INPUT: true; the input reads as it did. -/
def tourPartsSpec : ChangeSpec := { name := "tourParts", fn := fun _ => fun
  | [d1, d2, d3] => { results := [.lit (.bool true)], args := [d1, d2, d3] }
  | _ => none }
def tourPartsRow : OpenClaim := { program := "yteijcpkckhdpgaa", sum := "6b8cd30f5962b5924d653dc48df144862447f4f1e8e74690386c1eb6b0e7b568", func := "tranter/tranterlaw12.TourParts", spec := "tourParts", unfollowed := true, recurses := true, apart := false }
def TourPartsSaid : Prop := tourPartsRow.holds Try.pinned (OpenSpec.ofChange tourPartsSpec)

/-- ITS FALSE NEIGHBOUR: 'it returns false'. Refute it at one input. -/
def tourPartsWrong : ChangeSpec := { name := "tourParts", fn := fun _ => fun
  | [d1, d2, d3] => { results := [.lit (.bool false)], args := [d1, d2, d3] }
  | _ => none }
def TourPartsWrongFalsely : Prop := tourPartsRow.holds Try.pinned (OpenSpec.ofChange tourPartsWrong)

/-- 'tranterlaw12.TourApart': WHATEVER THE INPUT: true; the input reads as it did. -/
def tourApartSpec : ChangeSpec := { name := "tourApart", fn := fun _ => fun
  | [d1, d2] => { results := [.lit (.bool true)], args := [d1, d2] }
  | _ => none }
def tourApartRow : OpenClaim := { program := "yteijcpkckhdpgaa", sum := "6b8cd30f5962b5924d653dc48df144862447f4f1e8e74690386c1eb6b0e7b568", func := "tranter/tranterlaw12.TourApart", spec := "tourApart", unfollowed := true, recurses := true, apart := false }
def TourApartSaid : Prop := tourApartRow.holds Try.pinned (OpenSpec.ofChange tourApartSpec)

/-- ITS FALSE NEIGHBOUR: 'it returns false'. Refute it at one input. -/
def tourApartWrong : ChangeSpec := { name := "tourApart", fn := fun _ => fun
  | [d1, d2] => { results := [.lit (.bool false)], args := [d1, d2] }
  | _ => none }
def TourApartWrongFalsely : Prop := tourApartRow.holds Try.pinned (OpenSpec.ofChange tourApartWrong)

/-- 'tranterlaw12.TourLess': WHATEVER THE INPUT: true; the input reads as it did. -/
def tourLessSpec : ChangeSpec := { name := "tourLess", fn := fun _ => fun
  | [d1, d2, d3, d4] => { results := [.lit (.bool true)], args := [d1, d2, d3, d4] }
  | _ => none }
def tourLessRow : OpenClaim := { program := "yteijcpkckhdpgaa", sum := "6b8cd30f5962b5924d653dc48df144862447f4f1e8e74690386c1eb6b0e7b568", func := "tranter/tranterlaw12.TourLess", spec := "tourLess", unfollowed := true, recurses := true, apart := false }
def TourLessSaid : Prop := tourLessRow.holds Try.pinned (OpenSpec.ofChange tourLessSpec)

/-- ITS FALSE NEIGHBOUR: 'it returns false'. Refute it at one input. -/
def tourLessWrong : ChangeSpec := { name := "tourLess", fn := fun _ => fun
  | [d1, d2, d3, d4] => { results := [.lit (.bool false)], args := [d1, d2, d3, d4] }
  | _ => none }
def TourLessWrongFalsely : Prop := tourLessRow.holds Try.pinned (OpenSpec.ofChange tourLessWrong)

/-- 'tranterlaw12.TourRow': WHATEVER THE INPUT: true; the input reads as it did. -/
def tourRowSpec : ChangeSpec := { name := "tourRow", fn := fun _ => fun
  | [d1, d2, d3] => { results := [.lit (.bool true)], args := [d1, d2, d3] }
  | _ => none }
def tourRowRow : OpenClaim := { program := "yteijcpkckhdpgaa", sum := "6b8cd30f5962b5924d653dc48df144862447f4f1e8e74690386c1eb6b0e7b568", func := "tranter/tranterlaw12.TourRow", spec := "tourRow", unfollowed := true, recurses := true, apart := false }
def TourRowSaid : Prop := tourRowRow.holds Try.pinned (OpenSpec.ofChange tourRowSpec)

/-- ITS FALSE NEIGHBOUR: 'it returns false'. Refute it at one input. -/
def tourRowWrong : ChangeSpec := { name := "tourRow", fn := fun _ => fun
  | [d1, d2, d3] => { results := [.lit (.bool false)], args := [d1, d2, d3] }
  | _ => none }
def TourRowWrongFalsely : Prop := tourRowRow.holds Try.pinned (OpenSpec.ofChange tourRowWrong)

/-- 'tranterlaw12.TourWider': WHATEVER THE INPUT: true; the input reads as it did. -/
def tourWiderSpec : ChangeSpec := { name := "tourWider", fn := fun _ => fun
  | [d1, d2, d3, d4] => { results := [.lit (.bool true)], args := [d1, d2, d3, d4] }
  | _ => none }
def tourWiderRow : OpenClaim := { program := "yteijcpkckhdpgaa", sum := "6b8cd30f5962b5924d653dc48df144862447f4f1e8e74690386c1eb6b0e7b568", func := "tranter/tranterlaw12.TourWider", spec := "tourWider", unfollowed := true, recurses := true, apart := false }
def TourWiderSaid : Prop := tourWiderRow.holds Try.pinned (OpenSpec.ofChange tourWiderSpec)

/-- ITS FALSE NEIGHBOUR: 'it returns false'. Refute it at one input. -/
def tourWiderWrong : ChangeSpec := { name := "tourWider", fn := fun _ => fun
  | [d1, d2, d3, d4] => { results := [.lit (.bool false)], args := [d1, d2, d3, d4] }
  | _ => none }
def TourWiderWrongFalsely : Prop := tourWiderRow.holds Try.pinned (OpenSpec.ofChange tourWiderWrong)

/- THE SECOND FORM. 'bulk': how many values and letters a reading holds, each counted each time it is reached (what is shared counts as often as it is met; a slice's spare places count too). A statement '..UptoSaid' is the law's where the arguments, and the package variables that the reading takes, are together of bulk at most 1048576: NARROWER than '..Said'. Prove '..Said' where nothing that the law and all that it calls make is longer than what came in: it says more and counts as full. Else prove '..UptoSaid'. A law counts once. -/
mutual
def uptoBulk {H : Type} : DataW H → Nat
  | .lit (.string bytes) => bytes.length + 1
  | .lit _ => 1
  | .nil => 1
  | .ptr d => uptoBulk d + 1
  | .slice elems spare => uptoBulkAll elems + uptoBulkAll spare + 1
  | .agg parts => uptoBulkAll parts + 1
  | .iface _ d => uptoBulk d + 1
  | .map entries => uptoBulkEntries entries + 1
  | .held _ => 1
def uptoBulkAll {H : Type} : List (DataW H) → Nat
  | [] => 0
  | d :: r => uptoBulk d + uptoBulkAll r
def uptoBulkEntries {H : Type} : List (Lit × DataW H) → Nat
  | [] => 0
  | x :: r => uptoBulkEntry x + uptoBulkEntries r
def uptoBulkEntry {H : Type} : Lit × DataW H → Nat
  | (.string bytes, d) => bytes.length + uptoBulk d + 1
  | (_, d) => uptoBulk d + 1
 end
def uptoSmall : (H : Type) → List (DataW H) → Bool := fun _ ds => decide (uptoBulkAll ds ≤ 1048576)
def OpenSpec.upto (s : _root_.Go.ChangeSpec) : _root_.Go.OpenSpec := { _root_.Go.OpenSpec.ofChange s with cond := some uptoSmall }

/-- 'tranterlaw12.TourMay', WHERE WHAT IT READS IS OF BULK AT MOST 1048576: true; the input reads as it did. -/
def tourMayUptoRow : OpenClaim := { program := "yteijcpkckhdpgaa", sum := "6b8cd30f5962b5924d653dc48df144862447f4f1e8e74690386c1eb6b0e7b568", func := "tranter/tranterlaw12.TourMay", spec := "tourMay", unfollowed := true, recurses := true, apart := false, narrowed := true }
def TourMayUptoSaid : Prop := tourMayUptoRow.holds Try.pinned (OpenSpec.upto tourMaySpec)

/-- 'tranterlaw12.TourParts', WHERE WHAT IT READS IS OF BULK AT MOST 1048576: true; the input reads as it did. -/
def tourPartsUptoRow : OpenClaim := { program := "yteijcpkckhdpgaa", sum := "6b8cd30f5962b5924d653dc48df144862447f4f1e8e74690386c1eb6b0e7b568", func := "tranter/tranterlaw12.TourParts", spec := "tourParts", unfollowed := true, recurses := true, apart := false, narrowed := true }
def TourPartsUptoSaid : Prop := tourPartsUptoRow.holds Try.pinned (OpenSpec.upto tourPartsSpec)

/-- 'tranterlaw12.TourApart', WHERE WHAT IT READS IS OF BULK AT MOST 1048576: true; the input reads as it did. -/
def tourApartUptoRow : OpenClaim := { program := "yteijcpkckhdpgaa", sum := "6b8cd30f5962b5924d653dc48df144862447f4f1e8e74690386c1eb6b0e7b568", func := "tranter/tranterlaw12.TourApart", spec := "tourApart", unfollowed := true, recurses := true, apart := false, narrowed := true }
def TourApartUptoSaid : Prop := tourApartUptoRow.holds Try.pinned (OpenSpec.upto tourApartSpec)

/-- 'tranterlaw12.TourLess', WHERE WHAT IT READS IS OF BULK AT MOST 1048576: true; the input reads as it did. -/
def tourLessUptoRow : OpenClaim := { program := "yteijcpkckhdpgaa", sum := "6b8cd30f5962b5924d653dc48df144862447f4f1e8e74690386c1eb6b0e7b568", func := "tranter/tranterlaw12.TourLess", spec := "tourLess", unfollowed := true, recurses := true, apart := false, narrowed := true }
def TourLessUptoSaid : Prop := tourLessUptoRow.holds Try.pinned (OpenSpec.upto tourLessSpec)

/-- 'tranterlaw12.TourRow', WHERE WHAT IT READS IS OF BULK AT MOST 1048576: true; the input reads as it did. -/
def tourRowUptoRow : OpenClaim := { program := "yteijcpkckhdpgaa", sum := "6b8cd30f5962b5924d653dc48df144862447f4f1e8e74690386c1eb6b0e7b568", func := "tranter/tranterlaw12.TourRow", spec := "tourRow", unfollowed := true, recurses := true, apart := false, narrowed := true }
def TourRowUptoSaid : Prop := tourRowUptoRow.holds Try.pinned (OpenSpec.upto tourRowSpec)

/-- 'tranterlaw12.TourWider', WHERE WHAT IT READS IS OF BULK AT MOST 1048576: true; the input reads as it did. -/
def tourWiderUptoRow : OpenClaim := { program := "yteijcpkckhdpgaa", sum := "6b8cd30f5962b5924d653dc48df144862447f4f1e8e74690386c1eb6b0e7b568", func := "tranter/tranterlaw12.TourWider", spec := "tourWider", unfollowed := true, recurses := true, apart := false, narrowed := true }
def TourWiderUptoSaid : Prop := tourWiderUptoRow.holds Try.pinned (OpenSpec.upto tourWiderSpec)

end Rows
end Go.Proofs.Yteijcpkckhdpgaa
