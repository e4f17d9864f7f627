/- Texts in their order. -/
import Derived.Test.YtdmmihkmcennpaaTy
import Derived.Test.YtdmmihkmcennpaaHa
import Derived.Sort.Walk0
namespace Go.Proofs.Ytdmmihkmcennpaa.Pv
open Go Hp

abbrev ltB : ByteArray → ByteArray → Bool := fun a b => Op.bytesLess a.toList b.toList

theorem toList_inj {a b : ByteArray} (h : a.toList = b.toList) : a = b := by
  rw [Lib.toList_data, Lib.toList_data] at h
  cases a; cases b; simp at h; congr

theorem bl_irr : ∀ a : List UInt8, Op.bytesLess a a = false
  | [] => rfl
  | a :: l => by simp [Op.bytesLess, bl_irr l]
theorem bl_tr : ∀ a b c : List UInt8, Op.bytesLess a b = true → Op.bytesLess b c = true → Op.bytesLess a c = true
  | _, _, [], _, h => by cases ‹List UInt8› <;> simp [Op.bytesLess] at h
  | _, [], c :: z, h, _ => by cases ‹List UInt8› <;> simp [Op.bytesLess] at h
  | [], b :: y, c :: z, _, _ => rfl
  | a :: x, b :: y, c :: z, h1, h2 => by
    simp only [Op.bytesLess, Bool.or_eq_true, decide_eq_true_eq, Bool.and_eq_true, beq_iff_eq] at h1 h2 ⊢
    rcases h1 with h1 | ⟨rfl, h1⟩
    · rcases h2 with h2 | ⟨rfl, h2⟩
      · exact .inl (UInt8.lt_trans h1 h2)
      · exact .inl h1
    · rcases h2 with h2 | ⟨rfl, h2⟩
      · exact .inl h2
      · exact .inr ⟨rfl, bl_tr x y z h1 h2⟩
theorem bl_tot : ∀ a b : List UInt8, Op.bytesLess a b = false → Op.bytesLess b a = false → a = b
  | [], [], _, _ => rfl
  | [], _ :: _, h, _ => by simp [Op.bytesLess] at h
  | _ :: _, [], _, h => by simp [Op.bytesLess] at h
  | a :: x, b :: y, h1, h2 => by
    simp only [Op.bytesLess, Bool.or_eq_false_iff, decide_eq_false_iff_not, Bool.and_eq_false_imp, beq_iff_eq] at h1 h2
    have e : a = b := UInt8.le_antisymm (UInt8.not_lt.1 h2.1) (UInt8.not_lt.1 h1.1)
    subst e
    rw [bl_tot x y (h1.2 rfl) (h2.2 rfl)]

theorem ltB_str : Str ltB := ⟨fun a => bl_irr _, fun a b c h1 h2 => bl_tr _ _ _ h1 h2, fun a b h1 h2 => toList_inj (bl_tot _ _ h1 h2)⟩

@[simp] theorem toList_beq (a b : ByteArray) : (a.toList == b.toList) = decide (a = b) := by
  by_cases h : a = b
  · subst h; simp
  · simp only [h, decide_false, beq_eq_false_iff_ne, ne_eq]; exact fun q => h (toList_inj q)

/-- Texts. -/
abbrev T (s : ByteArray) : PV := .sc (.string s)
instance : Enc ByteArray := ⟨fun x => [T x], 1, fun _ => rfl, fun _ => rfl⟩
@[simp] theorem enc_text (x : ByteArray) : Enc.enc x = [T x] := rfl
@[simp high] theorem flen_text (l : List ByteArray) : (l.flatMap Enc.enc).length = l.length := (flat_length l).trans (Nat.mul_one _)
@[simp high] theorem ftake_text (l : List ByteArray) : (l.flatMap Enc.enc).take l.length = l.flatMap Enc.enc := List.take_of_length_le (Nat.le_of_eq (flen_text l))

end Go.Proofs.Ytdmmihkmcennpaa.Pv
