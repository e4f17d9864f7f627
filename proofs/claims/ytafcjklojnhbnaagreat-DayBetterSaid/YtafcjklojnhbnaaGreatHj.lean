/- The plain reference of the heap: lists that are kept in order. -/
import Derived.Test.YtafcjklojnhbnaaGreatHi
namespace Go.Proofs.YtafcjklojnhbnaaGreat.Pv
open Go Hp

instance : Enc (Int × Int) := ⟨fun x => [I x.1, I x.2], 2, fun _ => rfl, fun _ => rfl⟩
@[simp] theorem enc_item (s : Int × Int) : Enc.enc s = [I s.1, I s.2] := rfl
@[simp high] theorem flen_item (l : Its Int) : (l.flatMap Enc.enc).length = l.length * 2 := flat_length l
@[simp high] theorem ftake_item (l : Its Int) : (l.flatMap Enc.enc).take (l.length * 2) = l.flatMap Enc.enc := flat_take' l

def putL (id w : Int) (r : Its Int) : Its Int := bif hasI id r then r else insI (id, w) r
def chgL (id w : Int) (r : Its Int) : Its Int := bif hasI id r then insI (id, w) (outI id r) else r
theorem putL_t {id w : Int} {r : Its Int} (h : hasI id r = true) : putL id w r = r := by simp [putL, h]
theorem putL_f {id w : Int} {r : Its Int} (h : hasI id r = false) : putL id w r = insI (id, w) r := by simp [putL, h]

theorem hasI_snoc (id : Int) (r : Its Int) (x : Int × Int) : hasI id (r ++ [x]) = (hasI id r || decide (x.1 = id)) := by simp [hasI]
theorem outI_snoc (id : Int) (r : Its Int) (x : Int × Int) : outI id (r ++ [x]) = outI id r ++ (if x.1 = id then [] else [x]) := by
  simp only [outI, List.filter_append]
  by_cases h : x.1 = id <;> simp [h]
theorem hasI_at {id : Int} {r : Its Int} {k : Nat} {x : Int × Int} (h : r[k]? = some x) (e : x.1 = id) : hasI id r = true := by
  simp only [hasI, List.any_eq_true]; exact ⟨x, List.mem_of_getElem? h, by simpa using e⟩
theorem hasI_out (id : Int) (r : Its Int) : hasI id (outI id r) = false := by
  simp only [hasI, outI, List.any_eq_false, List.mem_filter]
  rintro x ⟨_, h⟩ q
  simp at h q
  exact h q

def worthO (id : Int) (r : Its Int) : Int × Bool := match r.find? (fun x => decide (x.1 = id)) with
  | some x => (x.2, true)
  | none => (0, false)

theorem ins_pos {x y : Int × Int} {l : Its Int} (h : ilt x y = true) : insI x (y :: l) = x :: y :: l := by simp [insI, h]
theorem ins_neg {x y : Int × Int} {l : Its Int} (h : ilt x y = false) : insI x (y :: l) = y :: insI x l := by simp [insI, h]

theorem outI_le (id : Int) (r : Its Int) : (outI id r).length ≤ r.length := List.length_filter_le _ _

end Go.Proofs.YtafcjklojnhbnaaGreat.Pv
