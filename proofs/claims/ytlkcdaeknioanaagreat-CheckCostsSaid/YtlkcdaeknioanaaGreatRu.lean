/- What comes in, opened: days, plans, rows of integers. -/
import Derived.Test.YtlkcdaeknioanaaGreatRt
namespace Go.Proofs.YtlkcdaeknioanaaGreat.Pv
open Go
set_option maxRecDepth 100000

theorem opens_ints (w : World) : Opens Tryz.prog w 26 (List Int) (fun l => l.length ≤ 9223372036854775807 ∧ ∀ z ∈ l, I64 z) := opens_list Tryz.underlying26 (by simp; rfl) (by decide) (opens_int Tryz.underlying3)

theorem opens_tours (w : World) : Opens Tryz.prog w 43 (List Tour) (fun l => l.length ≤ 9223372036854775807 ∧ ∀ t ∈ l, t.length ≤ 9223372036854775807 ∧ ∀ s ∈ t, StopOk s) :=
  opens_list Tryz.underlying43 (by simp; rfl) (by decide) (opens_tour w)

theorem opens_day (w : World) : Opens Tryz.prog w 45 Day (fun l => l.length ≤ 9223372036854775807 ∧ ∀ t ∈ l, t.length ≤ 9223372036854775807 ∧ ∀ s ∈ t, StopOk s) := by
  intro H enc fuel cs x h
  obtain ⟨hl, n, hf⟩ := trod_fields Tryz.underlying45 h
  simp only [c45] at hl
  match cs, hl with
  | [v0], _ =>
    obtain ⟨y0, h0⟩ := hf 0 _ rfl
    simp at h0
    exact opens_tours w H enc n _ _ h0

theorem opens_days (w : World) : Opens Tryz.prog w 28 (List Day) (fun l => l.length ≤ 9223372036854775807 ∧ ∀ d ∈ l, d.length ≤ 9223372036854775807 ∧ ∀ t ∈ d, t.length ≤ 9223372036854775807 ∧ ∀ s ∈ t, StopOk s) :=
  opens_list Tryz.underlying28 (by simp; rfl) (by decide) (opens_day w)

theorem opens_plan (w : World) : Opens Tryz.prog w 30 Plan (fun l => l.length ≤ 9223372036854775807 ∧ ∀ d ∈ l, d.length ≤ 9223372036854775807 ∧ ∀ t ∈ d, t.length ≤ 9223372036854775807 ∧ ∀ s ∈ t, StopOk s) := by
  intro H enc fuel cs x h
  obtain ⟨hl, n, hf⟩ := trod_fields Tryz.underlying30 h
  simp only [c30] at hl
  match cs, hl with
  | [v0], _ =>
    obtain ⟨y0, h0⟩ := hf 0 _ rfl
    simp at h0
    exact opens_days w H enc n _ _ h0

end Go.Proofs.YtlkcdaeknioanaaGreat.Pv
