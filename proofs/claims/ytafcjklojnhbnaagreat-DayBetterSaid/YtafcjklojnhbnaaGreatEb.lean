/- The law DayBetter returns true whatever its input is, and the input reads as it did. There are no conditions. -/
import Derived.Test.YtafcjklojnhbnaaGreatRw
import Derived.Test.YtafcjklojnhbnaaGreatRt
import Derived.Test.YtafcjklojnhbnaaGreatDk
import Derived.Carry
namespace Go.Proofs.YtafcjklojnhbnaaGreat
open Go Go.ChangeShapes Go.WideShapes Go.ChangeAt Go.RowKit Pv

set_option maxRecDepth 100000 in
theorem dayBetter_lifted (os : Os) (started : os.Started) (H : Type) (enc : TypeId × Value → H) :
    ReturnsInHanded {} Tryz.checked os 7 .any (Rows.dayBetterSpec.pre6 enc Tryz.prog Tryz.f7 Rows.dayBetterRow.domain false) (Rows.dayBetterSpec.post enc Tryz.prog Tryz.f7 false true false false) := by
  refine returnsInHanded_of_change (C := Tryz.checked) own0 started (by kernel_rfl) Tryz.func7
    (ChangeSpec.witness6 (enc := enc) (C := Tryz.checked) false ⟨#[], #[.agg #[.int .i64 0, .int .i64 0, .int .i64 0, .int .i64 0, .slice none 0 0, .slice none 0 0], .slice none 0 0, .slice none 0 0, .slice none 0 0], []⟩ 8 (by kernel_rfl) (by kernel_rfl) (by kernel_rfl) (by kernel_rfl)) ?_
  intro W base args ds gs before hval0 hW hcnd _
  have hval : ∀ (j : Nat) t v, Tryz.f7.params[j]? = some t → args[j]? = some v → Value.okWide Tryz.prog W .any base t v := hval0
  have hW' := hW
  obtain ⟨p, q, hA0, hV, rfl, hfz, hnd⟩ := hW
  have hA : DataW.TrodAll enc Tryz.prog W 0 (fun _ => true) true Tryz.f7.params.toList args.toList ds p := hA0
  rw [Tryz.params7] at hA hval
  obtain ⟨v0, v1, v2, v3, d0, d1, d2, d3, p0, p1, p2, p3, rfl, rfl, rfl, h0, h1, h2, h3⟩ := trodAll_four hA
  obtain ⟨rfl, rfl⟩ := trodVars_none hV
  obtain ⟨c0, rfl, _⟩ := okWide_struct Tryz.underlying25 (hval 0 _ v0 rfl rfl)
  obtain ⟨a0, k0, r0⟩ := rel_agg (opens_inst W) h0
  obtain ⟨b1, n1, m1, rfl⟩ := okWide_slice Tryz.underlying26 (hval 1 _ v1 rfl rfl)
  obtain ⟨a1, k1, r1⟩ := rel_cell (opens_stops W) rfl h1
  have r1 := r1 _ rfl
  obtain ⟨b2, n2, m2, rfl⟩ := okWide_slice Tryz.underlying46 (hval 2 _ v2 rfl rfl)
  obtain ⟨a2, k2, r2⟩ := rel_cell (opens_bools W) rfl h2
  have r2 := r2 _ rfl
  obtain ⟨b3, n3, m3, rfl⟩ := okWide_slice Tryz.underlying46 (hval 3 _ v3 rfl rfl)
  obtain ⟨a3, k3, r3⟩ := rel_cell (opens_bools W) rfl h3
  have r3 := r3 _ rfl
  refine (pure_true ((dayBetter_ok a0 a1 a2 a3 k0 k1.1 k1.2 k2.1 k3.1)) rfl (fun i c v hc hv => ?_)).mono fun e W' hq => ?_
  · match i with
    | 0 => cases hc; cases hv; exact r0
    | 1 => cases hc; cases hv; exact r1
    | 2 => cases hc; cases hv; exact r2
    | 3 => cases hc; cases hv; exact r3
    | i + 4 => cases hc
  exact ⟨_, hq.1, law_end rfl rfl (of_decide_eq_true (by kernel_rfl)) hW' rfl rfl rfl hq.2⟩

theorem dayBetter_holds : Rows.DayBetterSaid :=
  OpenClaim.holds_of_wide 7 Tryz.f7 rfl rfl rfl rfl rfl rfl rfl ⟨rfl, rfl, rfl, rfl, rfl⟩ rfl rfl rfl rfl rfl (by kernel_rfl) Tryz.func7 (by kernel_rfl)
    (of_decide_eq_true (by kernel_rfl)) (by unfold Func.isWrapper; first | (rw [if_pos (by decide +kernel)]; kernel_rfl) | (rw [if_neg (by decide +kernel)]; exact ⟨rfl, rfl⟩))
    (fun os started H enc _ => dayBetter_lifted os started H enc)

end Go.Proofs.YtafcjklojnhbnaaGreat
