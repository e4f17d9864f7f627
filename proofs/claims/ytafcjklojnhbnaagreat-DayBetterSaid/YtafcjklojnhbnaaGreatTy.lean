/- The program's types as plain Lean types, and how their values lie in cells. -/
import Derived.Test.YtafcjklojnhbnaaGreatGs
import Derived.Lib.Hide
namespace Go.Proofs.YtafcjklojnhbnaaGreat.Pv
open Go

instance {α : Type} [Enc α] : Enc (List α) := ⟨fun l => [L l], 1, fun _ => rfl, fun _ => rfl⟩
@[simp] theorem enc_list {α : Type} [Enc α] (l : List α) : Enc.enc l = [L l] := rfl
@[simp high] theorem flen_list {α : Type} [Enc α] (l : List (List α)) : (l.flatMap Enc.enc).length = l.length := (flat_length l).trans (Nat.mul_one _)
@[simp high] theorem ftake_list {α : Type} [Enc α] (l : List (List α)) : (l.flatMap Enc.enc).take l.length = l.flatMap Enc.enc := List.take_of_length_le (Nat.le_of_eq (flen_list l))

/-- uint64. -/
abbrev U (n : Nat) : PV := .sc (.int .u64 n)
instance : Enc Nat := ⟨fun x => [U x], 1, fun _ => rfl, fun _ => rfl⟩
@[simp] theorem enc_nat (x : Nat) : Enc.enc x = [U x] := rfl
@[simp high] theorem flen_nat (l : List Nat) : (l.flatMap Enc.enc).length = l.length := (flat_length l).trans (Nat.mul_one _)
@[simp high] theorem ftake_nat (l : List Nat) : (l.flatMap Enc.enc).take l.length = l.flatMap Enc.enc := List.take_of_length_le (Nat.le_of_eq (flen_nat l))

instance : Enc Bool := ⟨fun x => [B x], 1, fun _ => rfl, fun _ => rfl⟩
@[simp] theorem enc_bool (x : Bool) : Enc.enc x = [B x] := rfl
@[simp high] theorem flen_bool (l : List Bool) : (l.flatMap Enc.enc).length = l.length := (flat_length l).trans (Nat.mul_one _)
@[simp high] theorem ftake_bool (l : List Bool) : (l.flatMap Enc.enc).take l.length = l.flatMap Enc.enc := List.take_of_length_le (Nat.le_of_eq (flen_bool l))

structure Stop where
  c : Int
  q : Int
  deriving DecidableEq
instance : Inhabited Stop := ⟨⟨0, 0⟩⟩
instance : Enc Stop := ⟨fun s => [I s.c, I s.q], 2, fun _ => rfl, fun _ => rfl⟩
@[simp] theorem enc_stop (s : Stop) : Enc.enc s = [I s.c, I s.q] := rfl
@[simp high] theorem flen_stop (l : List Stop) : (l.flatMap Enc.enc).length = l.length * 2 := flat_length l
@[simp high] theorem ftake_stop (l : List Stop) : (l.flatMap Enc.enc).take (l.length * 2) = l.flatMap Enc.enc := flat_take' l

structure Cust where
  kind : Int
  demand : Int
  pats : List Nat
  rate : Int
  size : Int
  start : Int
  rule : Int
  hold : Int
  deriving DecidableEq
instance : Inhabited Cust := ⟨⟨0, 0, [], 0, 0, 0, 0, 0⟩⟩
abbrev custL (c : Cust) : List PV := [I c.kind, I c.demand, L c.pats, I c.rate, I c.size, I c.start, I c.rule, I c.hold]
instance : Enc Cust := ⟨custL, 8, fun _ => rfl, fun _ => rfl⟩
@[simp] theorem enc_cust (c : Cust) : Enc.enc c = [I c.kind, I c.demand, L c.pats, I c.rate, I c.size, I c.start, I c.rule, I c.hold] := rfl
@[simp high] theorem flen_cust (l : List Cust) : (l.flatMap Enc.enc).length = l.length * 8 := flat_length l
@[simp high] theorem ftake_cust (l : List Cust) : (l.flatMap Enc.enc).take (l.length * 8) = l.flatMap Enc.enc := flat_take' l

structure Inst where
  days : Int
  veh : Int
  cap : Int
  len : Int
  cust : List Cust
  dist : List (List Int)
  deriving DecidableEq
abbrev instL (x : Inst) : List PV := [I x.days, I x.veh, I x.cap, I x.len, L x.cust, L x.dist]
abbrev Tour := List Stop
abbrev Day := List Tour
abbrev Plan := List Day

structure StopOk (s : Stop) : Prop where
  c : I64 s.c
  q : I64 s.q

end Go.Proofs.YtafcjklojnhbnaaGreat.Pv
