/- Whether a day may be, and days that are apart: the program. -/
import Derived.Test.YtpifkibgplnnkaaIg
namespace Go.Proofs.Ytpifkibgplnnkaa.Pv
open Go

def dayT (x : Inst) (d : Day) : Int :=
  match d.find? (fun t => mayT x t != 0) with
  | some t => mayT x t
  | none => if ¬ (d.flatten.map (·.c)).Nodup then 11 else if x.veh < d.length then 14 else 0

theorem find_none_snoc {α : Type} {p : α → Bool} {l : List α} {k : Nat} {a : α} (h : (l.take k).find? p = none) (ht : l.take (k + 1) = l.take k ++ [a]) (ha : p a = false) : (l.take (k + 1)).find? p = none := by
  rw [ht, List.find?_append, h]; simp [ha]
theorem find_some_at {α : Type} {p : α → Bool} {l : List α} {k : Nat} {a : α} (h : (l.take k).find? p = none) (hd : l.drop k = a :: l.drop (k + 1)) (ha : p a = true) : l.find? p = some a := by
  have e : l = l.take k ++ a :: l.drop (k + 1) := by rw [← hd, List.take_append_drop]
  rw [e, List.find?_append, h]; simp [ha]

/-- A day of tours of one stop. -/
def apartD (l : List Stop) : Day := l.map fun s => [s]

end Go.Proofs.Ytpifkibgplnnkaa.Pv
