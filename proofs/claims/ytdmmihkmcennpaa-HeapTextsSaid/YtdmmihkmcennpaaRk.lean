/- What comes in, opened: texts. -/
import Derived.Test.YtdmmihkmcennpaaRa
import Derived.Test.YtdmmihkmcennpaaKa
namespace Go.Proofs.Ytdmmihkmcennpaa.Pv
open Go

theorem opens_text {w : World} {t : TypeId} (ht : Try.prog.underlying t = some .string) : Opens Try.prog w t ByteArray (fun _ => True) := by
  intro H enc fuel cs x h
  cases fuel with
  | zero => cases h
  | succ n =>
    unfold DataW.trod at h
    rw [ht] at h
    match cs, h with
    | [.string b], h => exact ⟨b, trivial, relL_one (.sc _) rfl⟩

theorem opens_strings (w : World) : Opens Try.prog w 22 (List ByteArray) (fun l => l.length ≤ 9223372036854775807 ∧ ∀ s ∈ l, True) :=
  opens_list Try.underlying22 (by first | kernel_rfl | decide +kernel) (by decide) (opens_text Try.underlying9)

end Go.Proofs.Ytdmmihkmcennpaa.Pv
