/- The law TourMay returns true whatever its input is, and the input reads as it did. There are no conditions. -/
import Derived.Test.YteijcpkckhdpgaaRw
import Derived.Test.YteijcpkckhdpgaaIl
namespace Go.Proofs.Yteijcpkckhdpgaa
open Go Go.ChangeShapes Go.WideShapes Go.ChangeAt Go.RowKit Pv

set_option maxRecDepth 100000 in
theorem tourMay_lifted (os : Os) (started : os.Started) (H : Type) (enc : TypeId × Value → H) :
    ReturnsInHanded {} Try.checked os 3 .any (Rows.tourMaySpec.pre6 enc Try.prog Try.f3 Rows.tourMayRow.domain false) (Rows.tourMaySpec.post enc Try.prog Try.f3 false true false false) := by
  refine returnsInHanded_of_change (C := Try.checked) own0 started (by kernel_rfl) Try.func3
    (ChangeSpec.witness6 (enc := enc) (C := Try.checked) false ⟨#[], #[.agg #[.int .i64 0, .int .i64 0, .int .i64 0, .int .i64 0, .slice none 0 0, .slice none 0 0], .agg #[.slice none 0 0]], []⟩ 8 (by kernel_rfl) (by kernel_rfl) (by kernel_rfl) (by kernel_rfl)) ?_
  intro W base args ds gs before hval0 hW hcnd _
  have hval : ∀ (j : Nat) t v, Try.f3.params[j]? = some t → args[j]? = some v → Value.okWide Try.prog W .any base t v := hval0
  have hW' := hW
  obtain ⟨p, q, hA0, hV, rfl, hfz, hnd⟩ := hW
  have hA : DataW.TrodAll enc Try.prog W 0 (fun _ => true) true Try.f3.params.toList args.toList ds p := hA0
  rw [Try.params3] at hA hval
  obtain ⟨v0, v1, d0, d1, p0, p1, rfl, rfl, rfl, h0, h1⟩ := trodAll_two hA
  obtain ⟨rfl, rfl⟩ := trodVars_none hV
  obtain ⟨c0, rfl, _⟩ := okWide_struct Try.underlying25 (hval 0 _ v0 rfl rfl)
  obtain ⟨c1, rfl, _⟩ := okWide_struct Try.underlying28 (hval 1 _ v1 rfl rfl)
  obtain ⟨x, hx, rx⟩ := rel_agg (opens_inst W) h0
  obtain ⟨t, _, rt⟩ := rel_agg (opens_tour W) h1
  refine (pure_true (tourMay_ok x t hx) rfl (fun i c v hc hv => ?_)).mono fun e W' hq => ?_
  · match i with
    | 0 => cases hc; cases hv; exact rx
    | 1 => cases hc; cases hv; exact rt
    | i + 2 => cases hc
  exact ⟨_, hq.1, law_end rfl rfl (of_decide_eq_true (by kernel_rfl)) hW' rfl rfl rfl hq.2⟩

theorem tourMay_holds : Rows.TourMaySaid :=
  OpenClaim.holds_of_wide 3 Try.f3 rfl rfl rfl rfl rfl rfl rfl ⟨rfl, rfl, rfl, rfl, rfl⟩ rfl rfl rfl rfl rfl (by kernel_rfl) Try.func3 (by kernel_rfl)
    (of_decide_eq_true (by kernel_rfl)) (by unfold Func.isWrapper; first | (rw [if_pos (by decide +kernel)]; kernel_rfl) | (rw [if_neg (by decide +kernel)]; exact ⟨rfl, rfl⟩))
    (fun os started H enc _ => tourMay_lifted os started H enc)

end Go.Proofs.Yteijcpkckhdpgaa
