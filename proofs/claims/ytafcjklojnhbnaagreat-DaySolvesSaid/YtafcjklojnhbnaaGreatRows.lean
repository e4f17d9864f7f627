/-
  No cell of these rows narrows 'for every input' (looked for: loops, veiled, ifaces, maps, wideKeys, modest, calm, conditions, laid).
  DERIVED. THE GIVEN ROWS OF THIS SEAT. 7 by the template 'for every input the law returns true; each argument reads behind the call as it read before'; 0 by the template 'total and deterministic' (their statements: YtafcjklojnhbnaaGreatTotals.lean).
  GIVEN WITH THE SEED: the statements are not yours to turn. If you find one false, say at which input.
  Laid BY PROGRAM, IN A SANDBOX (cutbox-rows.mjs): the forced cells as the released guide's own fill.sh prints them over the translation f93c2418746c8073… (all of the seat's roots in one cut). By AI agents, Wed Nov 11 2026. No macro, syntax, notation, axiom, sorry.
-/
import Derived.Test.YtafcjklojnhbnaaGreatChecked
import GoSem.Claim
import GoSem.ClaimJoined
import GoSem.ClaimMapViews
import Derived.JoinedTies
import Derived.KernelRfl
namespace Go.Proofs.YtafcjklojnhbnaaGreat
/- THE CELL 'sum', in the pinned program and in every row, IS THE sha256 OF THE DUMP (.gsa) THAT YtafcjklojnhbnaaGreatProg.lean LOADS. Nothing in Lean hashes anything: it is a label: what it is worth is what the hold of that sum in a sandbox is worth. -/
noncomputable def Tryz.pinned : Pinned := { name := "ytafcjklojnhbnaagreat", sum := "f93c2418746c8073829dbd9671c1dff06deb56fb8730dc716007f9adc352f9b1", checked := Tryz.checked }
namespace Rows
def none {H : Type} : Left H := { results := [], args := [] }

/-- 'tranterlaw15.DayFits': WHATEVER THE INPUT: true; the input reads as it did. -/
def dayFitsSpec : ChangeSpec := { name := "dayFits", fn := fun _ => fun
  | [d1, d2] => { results := [.lit (.bool true)], args := [d1, d2] }
  | _ => none }
def dayFitsRow : OpenClaim := { program := "ytafcjklojnhbnaagreat", sum := "f93c2418746c8073829dbd9671c1dff06deb56fb8730dc716007f9adc352f9b1", func := "tranter/tranterlaw15.DayFits", spec := "dayFits", inPlace := ["slices.overlaps[tranter/api.Stop]"], unfollowed := true, recurses := true, apart := false }
def DayFitsSaid : Prop := dayFitsRow.holds Tryz.pinned (OpenSpec.ofChange dayFitsSpec)

/-- ITS FALSE NEIGHBOUR: 'it returns false'. Refute it at one input. -/
def dayFitsWrong : ChangeSpec := { name := "dayFits", fn := fun _ => fun
  | [d1, d2] => { results := [.lit (.bool false)], args := [d1, d2] }
  | _ => none }
def DayFitsWrongFalsely : Prop := dayFitsRow.holds Tryz.pinned (OpenSpec.ofChange dayFitsWrong)

/-- 'tranterlaw15.DaySolves': WHATEVER THE INPUT: true; the input reads as it did. -/
def daySolvesSpec : ChangeSpec := { name := "daySolves", fn := fun _ => fun
  | [d1, d2, d3] => { results := [.lit (.bool true)], args := [d1, d2, d3] }
  | _ => none }
def daySolvesRow : OpenClaim := { program := "ytafcjklojnhbnaagreat", sum := "f93c2418746c8073829dbd9671c1dff06deb56fb8730dc716007f9adc352f9b1", func := "tranter/tranterlaw15.DaySolves", spec := "daySolves", inPlace := ["slices.overlaps[tranter/api.Stop]"], unfollowed := true, recurses := true, apart := false }
def DaySolvesSaid : Prop := daySolvesRow.holds Tryz.pinned (OpenSpec.ofChange daySolvesSpec)

/-- ITS FALSE NEIGHBOUR: 'it returns false'. Refute it at one input. -/
def daySolvesWrong : ChangeSpec := { name := "daySolves", fn := fun _ => fun
  | [d1, d2, d3] => { results := [.lit (.bool false)], args := [d1, d2, d3] }
  | _ => none }
def DaySolvesWrongFalsely : Prop := daySolvesRow.holds Tryz.pinned (OpenSpec.ofChange daySolvesWrong)

/-- 'tranterlaw15.DayFound': WHATEVER THE INPUT: true; the input reads as it did. -/
def dayFoundSpec : ChangeSpec := { name := "dayFound", fn := fun _ => fun
  | [d1, d2, d3] => { results := [.lit (.bool true)], args := [d1, d2, d3] }
  | _ => none }
def dayFoundRow : OpenClaim := { program := "ytafcjklojnhbnaagreat", sum := "f93c2418746c8073829dbd9671c1dff06deb56fb8730dc716007f9adc352f9b1", func := "tranter/tranterlaw15.DayFound", spec := "dayFound", inPlace := ["slices.overlaps[tranter/api.Stop]"], unfollowed := true, recurses := true, apart := false }
def DayFoundSaid : Prop := dayFoundRow.holds Tryz.pinned (OpenSpec.ofChange dayFoundSpec)

/-- ITS FALSE NEIGHBOUR: 'it returns false'. Refute it at one input. -/
def dayFoundWrong : ChangeSpec := { name := "dayFound", fn := fun _ => fun
  | [d1, d2, d3] => { results := [.lit (.bool false)], args := [d1, d2, d3] }
  | _ => none }
def DayFoundWrongFalsely : Prop := dayFoundRow.holds Tryz.pinned (OpenSpec.ofChange dayFoundWrong)

/-- 'tranterlaw15.DayMore': WHATEVER THE INPUT: true; the input reads as it did. -/
def dayMoreSpec : ChangeSpec := { name := "dayMore", fn := fun _ => fun
  | [d1, d2, d3] => { results := [.lit (.bool true)], args := [d1, d2, d3] }
  | _ => none }
def dayMoreRow : OpenClaim := { program := "ytafcjklojnhbnaagreat", sum := "f93c2418746c8073829dbd9671c1dff06deb56fb8730dc716007f9adc352f9b1", func := "tranter/tranterlaw15.DayMore", spec := "dayMore", inPlace := ["slices.overlaps[tranter/api.Stop]"], unfollowed := true, recurses := true, apart := false }
def DayMoreSaid : Prop := dayMoreRow.holds Tryz.pinned (OpenSpec.ofChange dayMoreSpec)

/-- ITS FALSE NEIGHBOUR: 'it returns false'. Refute it at one input. -/
def dayMoreWrong : ChangeSpec := { name := "dayMore", fn := fun _ => fun
  | [d1, d2, d3] => { results := [.lit (.bool false)], args := [d1, d2, d3] }
  | _ => none }
def DayMoreWrongFalsely : Prop := dayMoreRow.holds Tryz.pinned (OpenSpec.ofChange dayMoreWrong)

/-- 'tranterlaw15.DayBetter': WHATEVER THE INPUT: true; the input reads as it did. -/
def dayBetterSpec : ChangeSpec := { name := "dayBetter", fn := fun _ => fun
  | [d1, d2, d3, d4] => { results := [.lit (.bool true)], args := [d1, d2, d3, d4] }
  | _ => none }
def dayBetterRow : OpenClaim := { program := "ytafcjklojnhbnaagreat", sum := "f93c2418746c8073829dbd9671c1dff06deb56fb8730dc716007f9adc352f9b1", func := "tranter/tranterlaw15.DayBetter", spec := "dayBetter", inPlace := ["slices.overlaps[tranter/api.Stop]"], unfollowed := true, recurses := true, apart := false }
def DayBetterSaid : Prop := dayBetterRow.holds Tryz.pinned (OpenSpec.ofChange dayBetterSpec)

/-- ITS FALSE NEIGHBOUR: 'it returns false'. Refute it at one input. -/
def dayBetterWrong : ChangeSpec := { name := "dayBetter", fn := fun _ => fun
  | [d1, d2, d3, d4] => { results := [.lit (.bool false)], args := [d1, d2, d3, d4] }
  | _ => none }
def DayBetterWrongFalsely : Prop := dayBetterRow.holds Tryz.pinned (OpenSpec.ofChange dayBetterWrong)

/-- 'tranterlaw15.DayPrices': WHATEVER THE INPUT: true; the input reads as it did. -/
def dayPricesSpec : ChangeSpec := { name := "dayPrices", fn := fun _ => fun
  | [d1, d2] => { results := [.lit (.bool true)], args := [d1, d2] }
  | _ => none }
def dayPricesRow : OpenClaim := { program := "ytafcjklojnhbnaagreat", sum := "f93c2418746c8073829dbd9671c1dff06deb56fb8730dc716007f9adc352f9b1", func := "tranter/tranterlaw15.DayPrices", spec := "dayPrices", inPlace := ["slices.overlaps[tranter/api.Stop]"], unfollowed := true, recurses := true, apart := false }
def DayPricesSaid : Prop := dayPricesRow.holds Tryz.pinned (OpenSpec.ofChange dayPricesSpec)

/-- ITS FALSE NEIGHBOUR: 'it returns false'. Refute it at one input. -/
def dayPricesWrong : ChangeSpec := { name := "dayPrices", fn := fun _ => fun
  | [d1, d2] => { results := [.lit (.bool false)], args := [d1, d2] }
  | _ => none }
def DayPricesWrongFalsely : Prop := dayPricesRow.holds Tryz.pinned (OpenSpec.ofChange dayPricesWrong)

/-- 'tranterlaw15.DayBack': WHATEVER THE INPUT: true; the input reads as it did. -/
def dayBackSpec : ChangeSpec := { name := "dayBack", fn := fun _ => fun
  | [d1, d2, d3, d4] => { results := [.lit (.bool true)], args := [d1, d2, d3, d4] }
  | _ => none }
def dayBackRow : OpenClaim := { program := "ytafcjklojnhbnaagreat", sum := "f93c2418746c8073829dbd9671c1dff06deb56fb8730dc716007f9adc352f9b1", func := "tranter/tranterlaw15.DayBack", spec := "dayBack", inPlace := ["slices.overlaps[tranter/api.Stop]"], unfollowed := true, recurses := true, apart := false }
def DayBackSaid : Prop := dayBackRow.holds Tryz.pinned (OpenSpec.ofChange dayBackSpec)

/-- ITS FALSE NEIGHBOUR: 'it returns false'. Refute it at one input. -/
def dayBackWrong : ChangeSpec := { name := "dayBack", fn := fun _ => fun
  | [d1, d2, d3, d4] => { results := [.lit (.bool false)], args := [d1, d2, d3, d4] }
  | _ => none }
def DayBackWrongFalsely : Prop := dayBackRow.holds Tryz.pinned (OpenSpec.ofChange dayBackWrong)

/- THE SECOND FORM. 'bulk': how many values and letters a reading holds, each counted each time it is reached (what is shared counts as often as it is met; a slice's spare places count too). A statement '..UptoSaid' is the law's where the arguments, and the package variables that the reading takes, are together of bulk at most 1048576: NARROWER than '..Said'. Prove '..Said' where nothing that the law and all that it calls make is longer than what came in: it says more and counts as full. Else prove '..UptoSaid'. A law counts once. -/
mutual
def uptoBulk {H : Type} : DataW H → Nat
  | .lit (.string bytes) => bytes.length + 1
  | .lit _ => 1
  | .nil => 1
  | .ptr d => uptoBulk d + 1
  | .slice elems spare => uptoBulkAll elems + uptoBulkAll spare + 1
  | .agg parts => uptoBulkAll parts + 1
  | .iface _ d => uptoBulk d + 1
  | .map entries => uptoBulkEntries entries + 1
  | .held _ => 1
def uptoBulkAll {H : Type} : List (DataW H) → Nat
  | [] => 0
  | d :: r => uptoBulk d + uptoBulkAll r
def uptoBulkEntries {H : Type} : List (Lit × DataW H) → Nat
  | [] => 0
  | x :: r => uptoBulkEntry x + uptoBulkEntries r
def uptoBulkEntry {H : Type} : Lit × DataW H → Nat
  | (.string bytes, d) => bytes.length + uptoBulk d + 1
  | (_, d) => uptoBulk d + 1
 end
def uptoSmall : (H : Type) → List (DataW H) → Bool := fun _ ds => decide (uptoBulkAll ds ≤ 1048576)
def OpenSpec.upto (s : _root_.Go.ChangeSpec) : _root_.Go.OpenSpec := { _root_.Go.OpenSpec.ofChange s with cond := some uptoSmall }

/-- 'tranterlaw15.DayFits', WHERE WHAT IT READS IS OF BULK AT MOST 1048576: true; the input reads as it did. -/
def dayFitsUptoRow : OpenClaim := { program := "ytafcjklojnhbnaagreat", sum := "f93c2418746c8073829dbd9671c1dff06deb56fb8730dc716007f9adc352f9b1", func := "tranter/tranterlaw15.DayFits", spec := "dayFits", inPlace := ["slices.overlaps[tranter/api.Stop]"], unfollowed := true, recurses := true, apart := false, narrowed := true }
def DayFitsUptoSaid : Prop := dayFitsUptoRow.holds Tryz.pinned (OpenSpec.upto dayFitsSpec)

/-- 'tranterlaw15.DaySolves', WHERE WHAT IT READS IS OF BULK AT MOST 1048576: true; the input reads as it did. -/
def daySolvesUptoRow : OpenClaim := { program := "ytafcjklojnhbnaagreat", sum := "f93c2418746c8073829dbd9671c1dff06deb56fb8730dc716007f9adc352f9b1", func := "tranter/tranterlaw15.DaySolves", spec := "daySolves", inPlace := ["slices.overlaps[tranter/api.Stop]"], unfollowed := true, recurses := true, apart := false, narrowed := true }
def DaySolvesUptoSaid : Prop := daySolvesUptoRow.holds Tryz.pinned (OpenSpec.upto daySolvesSpec)

/-- 'tranterlaw15.DayFound', WHERE WHAT IT READS IS OF BULK AT MOST 1048576: true; the input reads as it did. -/
def dayFoundUptoRow : OpenClaim := { program := "ytafcjklojnhbnaagreat", sum := "f93c2418746c8073829dbd9671c1dff06deb56fb8730dc716007f9adc352f9b1", func := "tranter/tranterlaw15.DayFound", spec := "dayFound", inPlace := ["slices.overlaps[tranter/api.Stop]"], unfollowed := true, recurses := true, apart := false, narrowed := true }
def DayFoundUptoSaid : Prop := dayFoundUptoRow.holds Tryz.pinned (OpenSpec.upto dayFoundSpec)

/-- 'tranterlaw15.DayMore', WHERE WHAT IT READS IS OF BULK AT MOST 1048576: true; the input reads as it did. -/
def dayMoreUptoRow : OpenClaim := { program := "ytafcjklojnhbnaagreat", sum := "f93c2418746c8073829dbd9671c1dff06deb56fb8730dc716007f9adc352f9b1", func := "tranter/tranterlaw15.DayMore", spec := "dayMore", inPlace := ["slices.overlaps[tranter/api.Stop]"], unfollowed := true, recurses := true, apart := false, narrowed := true }
def DayMoreUptoSaid : Prop := dayMoreUptoRow.holds Tryz.pinned (OpenSpec.upto dayMoreSpec)

/-- 'tranterlaw15.DayBetter', WHERE WHAT IT READS IS OF BULK AT MOST 1048576: true; the input reads as it did. -/
def dayBetterUptoRow : OpenClaim := { program := "ytafcjklojnhbnaagreat", sum := "f93c2418746c8073829dbd9671c1dff06deb56fb8730dc716007f9adc352f9b1", func := "tranter/tranterlaw15.DayBetter", spec := "dayBetter", inPlace := ["slices.overlaps[tranter/api.Stop]"], unfollowed := true, recurses := true, apart := false, narrowed := true }
def DayBetterUptoSaid : Prop := dayBetterUptoRow.holds Tryz.pinned (OpenSpec.upto dayBetterSpec)

/-- 'tranterlaw15.DayPrices', WHERE WHAT IT READS IS OF BULK AT MOST 1048576: true; the input reads as it did. -/
def dayPricesUptoRow : OpenClaim := { program := "ytafcjklojnhbnaagreat", sum := "f93c2418746c8073829dbd9671c1dff06deb56fb8730dc716007f9adc352f9b1", func := "tranter/tranterlaw15.DayPrices", spec := "dayPrices", inPlace := ["slices.overlaps[tranter/api.Stop]"], unfollowed := true, recurses := true, apart := false, narrowed := true }
def DayPricesUptoSaid : Prop := dayPricesUptoRow.holds Tryz.pinned (OpenSpec.upto dayPricesSpec)

/-- 'tranterlaw15.DayBack', WHERE WHAT IT READS IS OF BULK AT MOST 1048576: true; the input reads as it did. -/
def dayBackUptoRow : OpenClaim := { program := "ytafcjklojnhbnaagreat", sum := "f93c2418746c8073829dbd9671c1dff06deb56fb8730dc716007f9adc352f9b1", func := "tranter/tranterlaw15.DayBack", spec := "dayBack", inPlace := ["slices.overlaps[tranter/api.Stop]"], unfollowed := true, recurses := true, apart := false, narrowed := true }
def DayBackUptoSaid : Prop := dayBackUptoRow.holds Tryz.pinned (OpenSpec.upto dayBackSpec)

end Rows
end Go.Proofs.YtafcjklojnhbnaaGreat
