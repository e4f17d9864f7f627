/- What comes in, opened: days, plans, rows of integers. -/
import Derived.Test.YtpifkibgplnnkaaRt
namespace Go.Proofs.Ytpifkibgplnnkaa.Pv
open Go
set_option maxRecDepth 100000

theorem opens_ints (w : World) : Opens Try.prog w 22 (List Int) (fun l => l.length ≤ 9223372036854775807 ∧ ∀ z ∈ l, I64 z) := opens_list Try.underlying22 (by simp; rfl) (by decide) (opens_int Try.underlying3)

theorem opens_tours (w : World) : Opens Try.prog w 35 (List Tour) (fun l => l.length ≤ 9223372036854775807 ∧ ∀ t ∈ l, t.length ≤ 9223372036854775807 ∧ ∀ s ∈ t, StopOk s) :=
  opens_list Try.underlying35 (by simp; rfl) (by decide) (opens_tour w)

theorem opens_day (w : World) : Opens Try.prog w 37 Day (fun l => l.length ≤ 9223372036854775807 ∧ ∀ t ∈ l, t.length ≤ 9223372036854775807 ∧ ∀ s ∈ t, StopOk s) := by
  intro H enc fuel cs x h
  obtain ⟨hl, n, hf⟩ := trod_fields Try.underlying37 h
  simp only [c37] at hl
  match cs, hl with
  | [v0], _ =>
    obtain ⟨y0, h0⟩ := hf 0 _ rfl
    simp at h0
    exact opens_tours w H enc n _ _ h0

end Go.Proofs.Ytpifkibgplnnkaa.Pv
