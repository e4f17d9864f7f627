/-
  No cell of these rows narrows 'for every input' (looked for: loops, veiled, ifaces, maps, wideKeys, modest, calm, conditions, laid).
  DERIVED. THE GIVEN ROWS OF THIS SEAT. 9 by the template 'for every input the law returns true; each argument reads behind the call as it read before'; 0 by the template 'total and deterministic' (their statements: YtcnbiofjmioaiaaGreatTotals.lean).
  GIVEN WITH THE SEED: the statements are not yours to turn. If you find one false, say at which input.
  Laid BY PROGRAM, IN A SANDBOX (cutbox-rows.mjs): the forced cells as the released guide's own fill.sh prints them over the translation 91d8c24a249569f8… (all of the seat's roots in one cut). By AI agents, Wed Nov 11 2026. No macro, syntax, notation, axiom, sorry.
-/
import Derived.Test.YtcnbiofjmioaiaaGreatChecked
import GoSem.Claim
import GoSem.ClaimJoined
import GoSem.ClaimMapViews
import Derived.JoinedTies
import Derived.KernelRfl
namespace Go.Proofs.YtcnbiofjmioaiaaGreat
/- THE CELL 'sum', in the pinned program and in every row, IS THE sha256 OF THE DUMP (.gsa) THAT YtcnbiofjmioaiaaGreatProg.lean LOADS. Nothing in Lean hashes anything: it is a label: what it is worth is what the hold of that sum in a sandbox is worth. -/
noncomputable def Tryz.pinned : Pinned := { name := "ytcnbiofjmioaiaagreat", sum := "91d8c24a249569f8a7bc023ce4bd49815854e96319f7bb1732626be4158d86fd", checked := Tryz.checked }
namespace Rows
def none {H : Type} : Left H := { results := [], args := [] }

/-- 'tranterlaw19.HorizonBuilds': WHATEVER THE INPUT: true; the input reads as it did. -/
def horizonBuildsSpec : ChangeSpec := { name := "horizonBuilds", fn := fun _ => fun
  | [d1, d2, d3, d4] => { results := [.lit (.bool true)], args := [d1, d2, d3, d4] }
  | _ => none }
def horizonBuildsRow : OpenClaim := { program := "ytcnbiofjmioaiaagreat", sum := "91d8c24a249569f8a7bc023ce4bd49815854e96319f7bb1732626be4158d86fd", func := "tranter/tranterlaw19.HorizonBuilds", spec := "horizonBuilds", inPlace := ["slices.overlaps[tranter/api.Stop]"], unfollowed := true, recurses := true, apart := false }
def HorizonBuildsSaid : Prop := horizonBuildsRow.holds Tryz.pinned (OpenSpec.ofChange horizonBuildsSpec)

/-- ITS FALSE NEIGHBOUR: 'it returns false'. Refute it at one input. -/
def horizonBuildsWrong : ChangeSpec := { name := "horizonBuilds", fn := fun _ => fun
  | [d1, d2, d3, d4] => { results := [.lit (.bool false)], args := [d1, d2, d3, d4] }
  | _ => none }
def HorizonBuildsWrongFalsely : Prop := horizonBuildsRow.holds Tryz.pinned (OpenSpec.ofChange horizonBuildsWrong)

/-- 'tranterlaw19.HorizonOut': WHATEVER THE INPUT: true; the input reads as it did. -/
def horizonOutSpec : ChangeSpec := { name := "horizonOut", fn := fun _ => fun
  | [d1, d2, d3, d4] => { results := [.lit (.bool true)], args := [d1, d2, d3, d4] }
  | _ => none }
def horizonOutRow : OpenClaim := { program := "ytcnbiofjmioaiaagreat", sum := "91d8c24a249569f8a7bc023ce4bd49815854e96319f7bb1732626be4158d86fd", func := "tranter/tranterlaw19.HorizonOut", spec := "horizonOut", inPlace := ["slices.overlaps[tranter/api.Stop]"], unfollowed := true, recurses := true, apart := false }
def HorizonOutSaid : Prop := horizonOutRow.holds Tryz.pinned (OpenSpec.ofChange horizonOutSpec)

/-- ITS FALSE NEIGHBOUR: 'it returns false'. Refute it at one input. -/
def horizonOutWrong : ChangeSpec := { name := "horizonOut", fn := fun _ => fun
  | [d1, d2, d3, d4] => { results := [.lit (.bool false)], args := [d1, d2, d3, d4] }
  | _ => none }
def HorizonOutWrongFalsely : Prop := horizonOutRow.holds Tryz.pinned (OpenSpec.ofChange horizonOutWrong)

/-- 'tranterlaw19.HorizonPolishes': WHATEVER THE INPUT: true; the input reads as it did. -/
def horizonPolishesSpec : ChangeSpec := { name := "horizonPolishes", fn := fun _ => fun
  | [d1, d2, d3, d4, d5] => { results := [.lit (.bool true)], args := [d1, d2, d3, d4, d5] }
  | _ => none }
def horizonPolishesRow : OpenClaim := { program := "ytcnbiofjmioaiaagreat", sum := "91d8c24a249569f8a7bc023ce4bd49815854e96319f7bb1732626be4158d86fd", func := "tranter/tranterlaw19.HorizonPolishes", spec := "horizonPolishes", inPlace := ["slices.overlaps[tranter/api.Stop]"], unfollowed := true, recurses := true, apart := false }
def HorizonPolishesSaid : Prop := horizonPolishesRow.holds Tryz.pinned (OpenSpec.ofChange horizonPolishesSpec)

/-- ITS FALSE NEIGHBOUR: 'it returns false'. Refute it at one input. -/
def horizonPolishesWrong : ChangeSpec := { name := "horizonPolishes", fn := fun _ => fun
  | [d1, d2, d3, d4, d5] => { results := [.lit (.bool false)], args := [d1, d2, d3, d4, d5] }
  | _ => none }
def HorizonPolishesWrongFalsely : Prop := horizonPolishesRow.holds Tryz.pinned (OpenSpec.ofChange horizonPolishesWrong)

/-- 'tranterlaw19.HorizonEach': WHATEVER THE INPUT: true; the input reads as it did. -/
def horizonEachSpec : ChangeSpec := { name := "horizonEach", fn := fun _ => fun
  | [d1, d2] => { results := [.lit (.bool true)], args := [d1, d2] }
  | _ => none }
def horizonEachRow : OpenClaim := { program := "ytcnbiofjmioaiaagreat", sum := "91d8c24a249569f8a7bc023ce4bd49815854e96319f7bb1732626be4158d86fd", func := "tranter/tranterlaw19.HorizonEach", spec := "horizonEach", inPlace := ["slices.overlaps[tranter/api.Stop]"], unfollowed := true, recurses := true, apart := false }
def HorizonEachSaid : Prop := horizonEachRow.holds Tryz.pinned (OpenSpec.ofChange horizonEachSpec)

/-- ITS FALSE NEIGHBOUR: 'it returns false'. Refute it at one input. -/
def horizonEachWrong : ChangeSpec := { name := "horizonEach", fn := fun _ => fun
  | [d1, d2] => { results := [.lit (.bool false)], args := [d1, d2] }
  | _ => none }
def HorizonEachWrongFalsely : Prop := horizonEachRow.holds Tryz.pinned (OpenSpec.ofChange horizonEachWrong)

/-- 'tranterlaw19.HorizonStarts': WHATEVER THE INPUT: true; the input reads as it did. -/
def horizonStartsSpec : ChangeSpec := { name := "horizonStarts", fn := fun _ => fun
  | [d1, d2] => { results := [.lit (.bool true)], args := [d1, d2] }
  | _ => none }
def horizonStartsRow : OpenClaim := { program := "ytcnbiofjmioaiaagreat", sum := "91d8c24a249569f8a7bc023ce4bd49815854e96319f7bb1732626be4158d86fd", func := "tranter/tranterlaw19.HorizonStarts", spec := "horizonStarts", inPlace := ["slices.overlaps[tranter/api.Stop]"], unfollowed := true, recurses := true, apart := false }
def HorizonStartsSaid : Prop := horizonStartsRow.holds Tryz.pinned (OpenSpec.ofChange horizonStartsSpec)

/-- ITS FALSE NEIGHBOUR: 'it returns false'. Refute it at one input. -/
def horizonStartsWrong : ChangeSpec := { name := "horizonStarts", fn := fun _ => fun
  | [d1, d2] => { results := [.lit (.bool false)], args := [d1, d2] }
  | _ => none }
def HorizonStartsWrongFalsely : Prop := horizonStartsRow.holds Tryz.pinned (OpenSpec.ofChange horizonStartsWrong)

/-- 'tranterlaw19.HorizonOwns': WHATEVER THE INPUT: true; the input reads as it did. -/
def horizonOwnsSpec : ChangeSpec := { name := "horizonOwns", fn := fun _ => fun
  | [d1, d2, d3, d4, d5] => { results := [.lit (.bool true)], args := [d1, d2, d3, d4, d5] }
  | _ => none }
def horizonOwnsRow : OpenClaim := { program := "ytcnbiofjmioaiaagreat", sum := "91d8c24a249569f8a7bc023ce4bd49815854e96319f7bb1732626be4158d86fd", func := "tranter/tranterlaw19.HorizonOwns", spec := "horizonOwns", inPlace := ["slices.overlaps[tranter/api.Stop]"], unfollowed := true, recurses := true, apart := false }
def HorizonOwnsSaid : Prop := horizonOwnsRow.holds Tryz.pinned (OpenSpec.ofChange horizonOwnsSpec)

/-- ITS FALSE NEIGHBOUR: 'it returns false'. Refute it at one input. -/
def horizonOwnsWrong : ChangeSpec := { name := "horizonOwns", fn := fun _ => fun
  | [d1, d2, d3, d4, d5] => { results := [.lit (.bool false)], args := [d1, d2, d3, d4, d5] }
  | _ => none }
def HorizonOwnsWrongFalsely : Prop := horizonOwnsRow.holds Tryz.pinned (OpenSpec.ofChange horizonOwnsWrong)

/-- 'tranterlaw20.SearchReads': WHATEVER THE INPUT: true; the input reads as it did. -/
def searchReadsSpec : ChangeSpec := { name := "searchReads", fn := fun _ => fun
  | [d] => { results := [.lit (.bool true)], args := [d] }
  | _ => none }
def searchReadsRow : OpenClaim := { program := "ytcnbiofjmioaiaagreat", sum := "91d8c24a249569f8a7bc023ce4bd49815854e96319f7bb1732626be4158d86fd", func := "tranter/tranterlaw20.SearchReads", spec := "searchReads", inPlace := ["slices.overlaps[tranter/api.Stop]"], unfollowed := true, recurses := true, apart := false }
def SearchReadsSaid : Prop := searchReadsRow.holds Tryz.pinned (OpenSpec.ofChange searchReadsSpec)

/-- ITS FALSE NEIGHBOUR: 'it returns false'. Refute it at one input. -/
def searchReadsWrong : ChangeSpec := { name := "searchReads", fn := fun _ => fun
  | [d] => { results := [.lit (.bool false)], args := [d] }
  | _ => none }
def SearchReadsWrongFalsely : Prop := searchReadsRow.holds Tryz.pinned (OpenSpec.ofChange searchReadsWrong)

/-- 'tranterlaw20.SearchMore': WHATEVER THE INPUT: true; the input reads as it did. -/
def searchMoreSpec : ChangeSpec := { name := "searchMore", fn := fun _ => fun
  | [d1, d2, d3] => { results := [.lit (.bool true)], args := [d1, d2, d3] }
  | _ => none }
def searchMoreRow : OpenClaim := { program := "ytcnbiofjmioaiaagreat", sum := "91d8c24a249569f8a7bc023ce4bd49815854e96319f7bb1732626be4158d86fd", func := "tranter/tranterlaw20.SearchMore", spec := "searchMore", inPlace := ["slices.overlaps[tranter/api.Stop]"], unfollowed := true, recurses := true, apart := false }
def SearchMoreSaid : Prop := searchMoreRow.holds Tryz.pinned (OpenSpec.ofChange searchMoreSpec)

/-- ITS FALSE NEIGHBOUR: 'it returns false'. Refute it at one input. -/
def searchMoreWrong : ChangeSpec := { name := "searchMore", fn := fun _ => fun
  | [d1, d2, d3] => { results := [.lit (.bool false)], args := [d1, d2, d3] }
  | _ => none }
def SearchMoreWrongFalsely : Prop := searchMoreRow.holds Tryz.pinned (OpenSpec.ofChange searchMoreWrong)

/-- 'tranterlaw20.SearchAgain': WHATEVER THE INPUT: true; the input reads as it did. -/
def searchAgainSpec : ChangeSpec := { name := "searchAgain", fn := fun _ => fun
  | [d1, d2] => { results := [.lit (.bool true)], args := [d1, d2] }
  | _ => none }
def searchAgainRow : OpenClaim := { program := "ytcnbiofjmioaiaagreat", sum := "91d8c24a249569f8a7bc023ce4bd49815854e96319f7bb1732626be4158d86fd", func := "tranter/tranterlaw20.SearchAgain", spec := "searchAgain", inPlace := ["slices.overlaps[tranter/api.Stop]"], unfollowed := true, recurses := true, apart := false }
def SearchAgainSaid : Prop := searchAgainRow.holds Tryz.pinned (OpenSpec.ofChange searchAgainSpec)

/-- ITS FALSE NEIGHBOUR: 'it returns false'. Refute it at one input. -/
def searchAgainWrong : ChangeSpec := { name := "searchAgain", fn := fun _ => fun
  | [d1, d2] => { results := [.lit (.bool false)], args := [d1, d2] }
  | _ => none }
def SearchAgainWrongFalsely : Prop := searchAgainRow.holds Tryz.pinned (OpenSpec.ofChange searchAgainWrong)

/- THE SECOND FORM. 'bulk': how many values and letters a reading holds, each counted each time it is reached (what is shared counts as often as it is met; a slice's spare places count too). A statement '..UptoSaid' is the law's where the arguments, and the package variables that the reading takes, are together of bulk at most 1048576: NARROWER than '..Said'. Prove '..Said' where nothing that the law and all that it calls make is longer than what came in: it says more and counts as full. Else prove '..UptoSaid'. A law counts once. -/
mutual
def uptoBulk {H : Type} : DataW H → Nat
  | .lit (.string bytes) => bytes.length + 1
  | .lit _ => 1
  | .nil => 1
  | .ptr d => uptoBulk d + 1
  | .slice elems spare => uptoBulkAll elems + uptoBulkAll spare + 1
  | .agg parts => uptoBulkAll parts + 1
  | .iface _ d => uptoBulk d + 1
  | .map entries => uptoBulkEntries entries + 1
  | .held _ => 1
def uptoBulkAll {H : Type} : List (DataW H) → Nat
  | [] => 0
  | d :: r => uptoBulk d + uptoBulkAll r
def uptoBulkEntries {H : Type} : List (Lit × DataW H) → Nat
  | [] => 0
  | x :: r => uptoBulkEntry x + uptoBulkEntries r
def uptoBulkEntry {H : Type} : Lit × DataW H → Nat
  | (.string bytes, d) => bytes.length + uptoBulk d + 1
  | (_, d) => uptoBulk d + 1
 end
def uptoSmall : (H : Type) → List (DataW H) → Bool := fun _ ds => decide (uptoBulkAll ds ≤ 1048576)
def OpenSpec.upto (s : _root_.Go.ChangeSpec) : _root_.Go.OpenSpec := { _root_.Go.OpenSpec.ofChange s with cond := some uptoSmall }

/-- 'tranterlaw19.HorizonBuilds', WHERE WHAT IT READS IS OF BULK AT MOST 1048576: true; the input reads as it did. -/
def horizonBuildsUptoRow : OpenClaim := { program := "ytcnbiofjmioaiaagreat", sum := "91d8c24a249569f8a7bc023ce4bd49815854e96319f7bb1732626be4158d86fd", func := "tranter/tranterlaw19.HorizonBuilds", spec := "horizonBuilds", inPlace := ["slices.overlaps[tranter/api.Stop]"], unfollowed := true, recurses := true, apart := false, narrowed := true }
def HorizonBuildsUptoSaid : Prop := horizonBuildsUptoRow.holds Tryz.pinned (OpenSpec.upto horizonBuildsSpec)

/-- 'tranterlaw19.HorizonOut', WHERE WHAT IT READS IS OF BULK AT MOST 1048576: true; the input reads as it did. -/
def horizonOutUptoRow : OpenClaim := { program := "ytcnbiofjmioaiaagreat", sum := "91d8c24a249569f8a7bc023ce4bd49815854e96319f7bb1732626be4158d86fd", func := "tranter/tranterlaw19.HorizonOut", spec := "horizonOut", inPlace := ["slices.overlaps[tranter/api.Stop]"], unfollowed := true, recurses := true, apart := false, narrowed := true }
def HorizonOutUptoSaid : Prop := horizonOutUptoRow.holds Tryz.pinned (OpenSpec.upto horizonOutSpec)

/-- 'tranterlaw19.HorizonPolishes', WHERE WHAT IT READS IS OF BULK AT MOST 1048576: true; the input reads as it did. -/
def horizonPolishesUptoRow : OpenClaim := { program := "ytcnbiofjmioaiaagreat", sum := "91d8c24a249569f8a7bc023ce4bd49815854e96319f7bb1732626be4158d86fd", func := "tranter/tranterlaw19.HorizonPolishes", spec := "horizonPolishes", inPlace := ["slices.overlaps[tranter/api.Stop]"], unfollowed := true, recurses := true, apart := false, narrowed := true }
def HorizonPolishesUptoSaid : Prop := horizonPolishesUptoRow.holds Tryz.pinned (OpenSpec.upto horizonPolishesSpec)

/-- 'tranterlaw19.HorizonEach', WHERE WHAT IT READS IS OF BULK AT MOST 1048576: true; the input reads as it did. -/
def horizonEachUptoRow : OpenClaim := { program := "ytcnbiofjmioaiaagreat", sum := "91d8c24a249569f8a7bc023ce4bd49815854e96319f7bb1732626be4158d86fd", func := "tranter/tranterlaw19.HorizonEach", spec := "horizonEach", inPlace := ["slices.overlaps[tranter/api.Stop]"], unfollowed := true, recurses := true, apart := false, narrowed := true }
def HorizonEachUptoSaid : Prop := horizonEachUptoRow.holds Tryz.pinned (OpenSpec.upto horizonEachSpec)

/-- 'tranterlaw19.HorizonStarts', WHERE WHAT IT READS IS OF BULK AT MOST 1048576: true; the input reads as it did. -/
def horizonStartsUptoRow : OpenClaim := { program := "ytcnbiofjmioaiaagreat", sum := "91d8c24a249569f8a7bc023ce4bd49815854e96319f7bb1732626be4158d86fd", func := "tranter/tranterlaw19.HorizonStarts", spec := "horizonStarts", inPlace := ["slices.overlaps[tranter/api.Stop]"], unfollowed := true, recurses := true, apart := false, narrowed := true }
def HorizonStartsUptoSaid : Prop := horizonStartsUptoRow.holds Tryz.pinned (OpenSpec.upto horizonStartsSpec)

/-- 'tranterlaw19.HorizonOwns', WHERE WHAT IT READS IS OF BULK AT MOST 1048576: true; the input reads as it did. -/
def horizonOwnsUptoRow : OpenClaim := { program := "ytcnbiofjmioaiaagreat", sum := "91d8c24a249569f8a7bc023ce4bd49815854e96319f7bb1732626be4158d86fd", func := "tranter/tranterlaw19.HorizonOwns", spec := "horizonOwns", inPlace := ["slices.overlaps[tranter/api.Stop]"], unfollowed := true, recurses := true, apart := false, narrowed := true }
def HorizonOwnsUptoSaid : Prop := horizonOwnsUptoRow.holds Tryz.pinned (OpenSpec.upto horizonOwnsSpec)

/-- 'tranterlaw20.SearchReads', WHERE WHAT IT READS IS OF BULK AT MOST 1048576: true; the input reads as it did. -/
def searchReadsUptoRow : OpenClaim := { program := "ytcnbiofjmioaiaagreat", sum := "91d8c24a249569f8a7bc023ce4bd49815854e96319f7bb1732626be4158d86fd", func := "tranter/tranterlaw20.SearchReads", spec := "searchReads", inPlace := ["slices.overlaps[tranter/api.Stop]"], unfollowed := true, recurses := true, apart := false, narrowed := true }
def SearchReadsUptoSaid : Prop := searchReadsUptoRow.holds Tryz.pinned (OpenSpec.upto searchReadsSpec)

/-- 'tranterlaw20.SearchMore', WHERE WHAT IT READS IS OF BULK AT MOST 1048576: true; the input reads as it did. -/
def searchMoreUptoRow : OpenClaim := { program := "ytcnbiofjmioaiaagreat", sum := "91d8c24a249569f8a7bc023ce4bd49815854e96319f7bb1732626be4158d86fd", func := "tranter/tranterlaw20.SearchMore", spec := "searchMore", inPlace := ["slices.overlaps[tranter/api.Stop]"], unfollowed := true, recurses := true, apart := false, narrowed := true }
def SearchMoreUptoSaid : Prop := searchMoreUptoRow.holds Tryz.pinned (OpenSpec.upto searchMoreSpec)

/-- 'tranterlaw20.SearchAgain', WHERE WHAT IT READS IS OF BULK AT MOST 1048576: true; the input reads as it did. -/
def searchAgainUptoRow : OpenClaim := { program := "ytcnbiofjmioaiaagreat", sum := "91d8c24a249569f8a7bc023ce4bd49815854e96319f7bb1732626be4158d86fd", func := "tranter/tranterlaw20.SearchAgain", spec := "searchAgain", inPlace := ["slices.overlaps[tranter/api.Stop]"], unfollowed := true, recurses := true, apart := false, narrowed := true }
def SearchAgainUptoSaid : Prop := searchAgainUptoRow.holds Tryz.pinned (OpenSpec.upto searchAgainSpec)

end Rows
end Go.Proofs.YtcnbiofjmioaiaaGreat
