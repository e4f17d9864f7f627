/- The law HeapOnce returns true whatever its input is, and the input reads as it did. There are no conditions. -/
import Derived.Test.YtpifkibgplnnkaaRw
import Derived.Test.YtpifkibgplnnkaaRu
import Derived.Test.YtpifkibgplnnkaaSv
namespace Go.Proofs.Ytpifkibgplnnkaa
open Go Go.ChangeShapes Go.WideShapes Go.ChangeAt Go.RowKit Pv

set_option maxRecDepth 100000 in
theorem heapOnce_lifted (os : Os) (started : os.Started) (H : Type) (enc : TypeId × Value → H) :
    ReturnsInHanded {} Try.checked os 4 .any (Rows.heapOnceSpec.pre6 enc Try.prog Try.f4 Rows.heapOnceRow.domain false) (Rows.heapOnceSpec.post enc Try.prog Try.f4 false true false false) := by
  refine returnsInHanded_of_change (C := Try.checked) own0 started (by kernel_rfl) Try.func4
    (ChangeSpec.witness6 (enc := enc) (C := Try.checked) false ⟨#[], #[.slice none 0 0], []⟩ 8 (by kernel_rfl) (by kernel_rfl) (by kernel_rfl) (by kernel_rfl)) ?_
  intro W base args ds gs before hval0 hW hcnd _
  have hval : ∀ (j : Nat) t v, Try.f4.params[j]? = some t → args[j]? = some v → Value.okWide Try.prog W .any base t v := hval0
  have hW' := hW
  obtain ⟨p, q, hA0, hV, rfl, hfz, hnd⟩ := hW
  have hA : DataW.TrodAll enc Try.prog W 0 (fun _ => true) true Try.f4.params.toList args.toList ds p := hA0
  rw [Try.params4] at hA hval
  obtain ⟨v0, d0, rfl, rfl, h0⟩ := trodAll_one hA
  obtain ⟨rfl, rfl⟩ := trodVars_none hV
  obtain ⟨b0, n0, m0, rfl⟩ := okWide_slice Try.underlying22 (hval 0 _ v0 rfl rfl)
  obtain ⟨a0, k0, r0⟩ := rel_cell (opens_ints W) rfl h0
  have r0 := r0 _ rfl
  refine (pure_true ((heapOnce_ok a0)) rfl (fun i c v hc hv => ?_)).mono fun e W' hq => ?_
  · match i with
    | 0 => cases hc; cases hv; exact r0
    | i + 1 => cases hc
  exact ⟨_, hq.1, law_end rfl rfl (of_decide_eq_true (by kernel_rfl)) hW' rfl rfl rfl hq.2⟩

theorem heapOnce_holds : Rows.HeapOnceSaid :=
  OpenClaim.holds_of_wide 4 Try.f4 rfl rfl rfl rfl rfl rfl rfl ⟨rfl, rfl, rfl, rfl, rfl⟩ rfl rfl rfl rfl rfl (by kernel_rfl) Try.func4 (by kernel_rfl)
    (of_decide_eq_true (by kernel_rfl)) (by unfold Func.isWrapper; first | (rw [if_pos (by decide +kernel)]; kernel_rfl) | (rw [if_neg (by decide +kernel)]; exact ⟨rfl, rfl⟩))
    (fun os started H enc _ => heapOnce_lifted os started H enc)

end Go.Proofs.Ytpifkibgplnnkaa
