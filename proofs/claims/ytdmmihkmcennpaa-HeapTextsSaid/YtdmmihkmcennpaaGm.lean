/- Ghost layer, part 13: what the reckoning rewrites with; small facts for walks. -/
import Derived.Test.YtdmmihkmcennpaaGl
namespace Go.Proofs.Ytdmmihkmcennpaa.Pv
open Go

attribute [simp] runI runD PRl PX Row.pures loadT Agree gd popI popS callP lenP ev ofV updO upd pbin pbinInt unP nilP indexP fieldP loadP partP isAgg' fieldVP elemP convP twoP thenQ inBlockQ PV.cells PV.one PV.fit Value.oneCell' oneOf resL byHand boundP sliceP Value.cells zeroCellsOf buildP litP knownP placesP fillP storeP srcP frame0

@[simp] theorem int_beq (a b : Int) : (a == b) = decide (a = b) := rfl

theorem zerosP_succ' (n : Nat) (z : Value) : zerosP (n + 1) z = zeroCellsOf z ++ zerosP n z := by
  unfold zerosP zeroCellsOf
  generalize z.cells = c
  rw [Nat.succ_mul, Nat.add_comm, List.range_add, List.map_append, List.map_map]
  congr 1
  · apply List.ext_getElem?
    intro i
    by_cases h : i < c.size
    · simp [h, Nat.mod_eq_of_lt h]
    · simp [h]
  · apply List.map_congr_left
    intro i _
    simp
@[simp] theorem zerosP_zero (z : Value) : zerosP 0 z = [] := by simp [zerosP]
@[simp] theorem zerosP_one (z : Value) : zerosP 1 z = zeroCellsOf z := by rw [zerosP_succ' 0 z]; simp
@[simp] theorem zerosP_two (z : Value) : zerosP 2 z = zeroCellsOf z ++ zeroCellsOf z := by rw [zerosP_succ' 1 z]; simp
@[simp] theorem zerosP_three (z : Value) : zerosP 3 z = zeroCellsOf z ++ (zeroCellsOf z ++ zeroCellsOf z) := by rw [zerosP_succ' 2 z]; simp
@[simp] theorem zerosP_four (z : Value) : zerosP 4 z = zeroCellsOf z ++ (zeroCellsOf z ++ (zeroCellsOf z ++ zeroCellsOf z)) := by rw [zerosP_succ' 3 z]; simp

@[simp] theorem splice_nil (cs : List PV) (off : Nat) : splice cs off [] = cs := by simp [splice]
@[simp] theorem splice_cons0 (c d : PV) (cs ds : List PV) : splice (c :: cs) 0 (d :: ds) = d :: splice cs 0 ds := by simp [splice]
@[simp] theorem splice_skip (c d : PV) (cs ds : List PV) (k : Nat) : splice (c :: cs) (k + 1) (d :: ds) = c :: splice cs k (d :: ds) := by simp [splice, Nat.add_right_comm k 1]
@[simp] theorem splice_len (cs ds : List PV) (off : Nat) (h : off + ds.length ≤ cs.length) : (splice cs off ds).length = cs.length := by simp [splice]; omega

@[simp] theorem set_same' (S : Store) (o : Nat) (x : Ob) : S.set o x o = x := Store.set_same S o x
theorem set_ne (S : Store) (o i : Nat) (x : Ob) (h : i ≠ o) : S.set o x i = S i := Store.set_other S o i x h
@[simp] theorem set_set' (S : Store) (o : Nat) (x y : Ob) : (S.set o x).set o y = S.set o y := Store.set_set S o x y

theorem wrap64 (x : Int) (h1 : -9223372036854775808 ≤ x) (h2 : x ≤ 9223372036854775807) : IntKind.i64.wrap x = x := IntWalk.i64_in x ⟨h1, h2⟩

/-- A whole number in its range. -/
def I64 (x : Int) : Prop := -9223372036854775808 ≤ x ∧ x ≤ 9223372036854775807

def pint (x : Int) : PV := .sc (.int .i64 x)
def pbool (b : Bool) : PV := .sc (.bool b)

/-- A list whose elements take k cells each. -/
def plist {α : Type} (enc : α → List PV) (l : List α) : PV := .lst l.length (l.flatMap enc)

theorem flat_drop {α : Type} (enc : α → List PV) (k : Nat) (hk : ∀ x, (enc x).length = k) : ∀ (l : List α) (i : Nat), (l.flatMap enc).drop (i * k) = (l.drop i).flatMap enc
  | l, 0 => by simp
  | [], i + 1 => by simp
  | x :: xs, i + 1 => by
    rw [List.flatMap_cons, List.drop_succ_cons, ← flat_drop enc k hk xs i, List.drop_append, hk, Nat.add_mul, Nat.one_mul]
    rw [List.drop_eq_nil_of_le (by rw [hk]; omega)]
    simp

theorem flat_at {α : Type} (enc : α → List PV) (k : Nat) (hk : ∀ x, (enc x).length = k) (l : List α) (i : Nat) (hi : i < l.length) : (l.flatMap enc).drop (i * k) = enc l[i] ++ (l.drop (i + 1)).flatMap enc := by
  rw [flat_drop enc k hk, List.drop_eq_getElem_cons hi, List.flatMap_cons]

theorem flat_len {α : Type} (enc : α → List PV) (k : Nat) (hk : ∀ x, (enc x).length = k) : ∀ (l : List α), (l.flatMap enc).length = l.length * k
  | [] => by simp
  | x :: xs => by rw [List.flatMap_cons, List.length_append, hk, flat_len enc k hk xs, List.length_cons, Nat.add_mul]; omega

theorem flat_take {α : Type} (enc : α → List PV) (k : Nat) (hk : ∀ x, (enc x).length = k) : ∀ (l : List α) (i : Nat), (l.flatMap enc).take (i * k) = (l.take i).flatMap enc
  | l, 0 => by simp
  | [], i + 1 => by simp
  | x :: xs, i + 1 => by
    rw [List.flatMap_cons, List.take_succ_cons, List.flatMap_cons, ← flat_take enc k hk xs i, List.take_append, hk, Nat.add_mul, Nat.one_mul]
    rw [List.take_of_length_le (by rw [hk]; omega)]
    simp

end Go.Proofs.Ytdmmihkmcennpaa.Pv
