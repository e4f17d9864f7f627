/- A day of good stops, cut in tours. -/
import Derived.Test.YtpifkibgplnnkaaIi
namespace Go.Proofs.Ytpifkibgplnnkaa.Pv
open Go

/-- Tours that are finished, the one that is being filled, what is left. -/
def toursG (cuts : List Bool) : Nat → Day → List Stop → List Stop → Day
  | _, done, cur, [] => done ++ [cur]
  | i, done, cur, s :: rest => bif cuts.getD i false then toursG cuts (i + 1) (done ++ [cur]) [s] rest else toursG cuts (i + 1) done (cur ++ [s]) rest
def toursOf (cuts : List Bool) : List Stop → Day
  | [] => []
  | s :: rest => toursG cuts 1 [] [s] rest

theorem flat_last {α : Type} [Enc α] (hn : Enc.sz α = 1) (l : List α) (x : PV) : (l.flatMap Enc.enc ++ [x]).drop l.length = [x] := by
  have : (l.flatMap Enc.enc).length = l.length := by rw [flat_length, hn, Nat.mul_one]
  rw [← this, List.drop_left]
theorem splice_last {α : Type} [Enc α] (hn : Enc.sz α = 1) (l : List α) (x y : PV) : splice (l.flatMap Enc.enc ++ [x]) l.length [y] = l.flatMap Enc.enc ++ [y] := by
  have : (l.flatMap Enc.enc).length = l.length := by rw [flat_length, hn, Nat.mul_one]
  rw [splice, ← this, List.take_left, List.length_singleton, List.drop_of_length_le (by simp), List.append_nil]

end Go.Proofs.Ytpifkibgplnnkaa.Pv
