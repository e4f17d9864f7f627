/- What comes in, opened: deeds. -/
import Derived.Test.YtdmmihkmcennpaaRa
import Derived.Test.YtdmmihkmcennpaaHk
namespace Go.Proofs.Ytdmmihkmcennpaa.Pv
open Go

set_option maxRecDepth 10000 in
theorem opens_deed (w : World) : Opens Try.prog w 38 Deed (fun _ => True) := by
  intro H enc fuel cs x h
  obtain ⟨hl, n, hf⟩ := trod_fields Try.underlying38 h
  simp only [c38] at hl
  match cs, hl with
  | [a, b, c], _ =>
    obtain ⟨y0, h0⟩ := hf 0 _ rfl
    obtain ⟨y1, h1⟩ := hf 1 _ rfl
    obtain ⟨y2, h2⟩ := hf 2 _ rfl
    simp at h0 h1 h2
    obtain ⟨z0, k0, r0⟩ := opens_int Try.underlying3 H enc n _ _ h0
    obtain ⟨z1, k1, r1⟩ := opens_int Try.underlying3 H enc n _ _ h1
    obtain ⟨z2, k2, r2⟩ := opens_int Try.underlying3 H enc n _ _ h2
    exact ⟨⟨z0, z1, z2⟩, trivial, relL_app (vs := [a]) r0 (relL_app (vs := [b]) (us := [c]) r1 r2)⟩

theorem opens_deeds (w : World) : Opens Try.prog w 31 (List Deed) (fun l => l.length ≤ 9223372036854775807 ∧ ∀ s ∈ l, True) :=
  opens_list Try.underlying31 (by simp; rfl) (by decide) (opens_deed w)

end Go.Proofs.Ytdmmihkmcennpaa.Pv
