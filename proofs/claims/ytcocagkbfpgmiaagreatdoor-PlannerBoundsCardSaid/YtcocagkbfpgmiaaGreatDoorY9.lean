/- Part of a proof, packed. -/
import Derived.Test.YtcocagkbfpgmiaaGreatDoorY8
open Go.Proofs.Tryz (prog)
set_option maxRecDepth 100000
set_option maxHeartbeats 3200000
namespace Go.Proofs.YtcocagkbfpgmiaaGreatDoor
open Go Go.ChangeShapes Go.WideShapes Go.ChangeAt Go.RowKit Pv
theorem ZuI:Rows.plannerBoundsRow.wfByText (OpenSpec.ofChange Rows.plannerBoundsSpec)=true:=by kernel_rfl
theorem ZuJ:Tryz.pinned.checked.prog.mainIs=some (Rows.plannerBoundsCard.stood.harness.1,Rows.plannerBoundsCard.stood.harness.2.toList):=by kernel_rfl
theorem ZuK:true=Tryz.pinned.checked.prog.looks []:=by kernel_rfl
theorem ZuL:false=Rows.plannerBoundsRow.goesBy Tryz.pinned.checked.prog:=by kernel_rfl
theorem ZuM:(Tryz.f9.params.toList.all λu=>!Tryz.pinned.checked.prog.wantsStandIn u)=true:=by kernel_rfl
theorem ZuN:(!Rows.plannerBoundsCard.stood.harness.1 && Rows.plannerBoundsCard.stood.harness.2.isEmpty && !true)=false:=by kernel_rfl
theorem ZuO(f:FuncId)(fn:Func)(hf:Tryz.pinned.checked.prog.funcNamed Rows.plannerBoundsRow.func=some f)(hfn:Tryz.pinned.checked.prog.funcs[f]?=some fn):true=Tryz.pinned.checked.prog.looks []/\∀(j:Nat) t,fn.params[j]?=some t->Tryz.pinned.checked.prog.wantsStandIn t=false:=by
 have e1:f=9:=Option.some.inj (hf.symm.trans Zjd);subst e1;have e2:fn=Tryz.f9:=Option.some.inj (hfn.symm.trans Tryz.func9);subst e2;refine⟨ZuK,λj t ht=>?_⟩;simpa using As.1 ZuM t (Bi.2 (C6 ht))
theorem plannerBoundsCard_holds:Rows.PlannerBoundsCardSaid :=
 Claim7.holds_tied_plain_at .later [] [.data,.pinned] true Rows.plannerBoundsCard.stood.harness true ZuH (λ_ h=>by cases h) ZuI (λ_ h=>by cases h) plannerBounds_row_tie rfl ⟨rfl,rfl⟩ ZuJ ZuN ZuO ZuL
end Go.Proofs.YtcocagkbfpgmiaaGreatDoor
