/- Part of a proof, packed. -/
import Derived.Test.YtcocagkbfpgmiaaGreatDoorP8
open Go.Proofs.Tryz
set_option maxRecDepth 100000
set_option maxHeartbeats 3200000
namespace Go.Proofs.YtcocagkbfpgmiaaGreatDoor
open Go Go.ChangeShapes Go.WideShapes Go.ChangeAt Go.RowKit Pv
theorem Zwl:Rows.plannerPlansRow.wfByText (OpenSpec.ofChange Rows.plannerPlansSpec)=true:=D1
theorem Zwm:Tryz.pinned.checked.prog.mainIs=some (Rows.plannerPlansCard.stood.harness.1,Rows.plannerPlansCard.stood.harness.2.toList):=D1
theorem Zwn:true=Tryz.pinned.checked.prog.looks []:=D1
theorem Zwo:false=Rows.plannerPlansRow.goesBy Tryz.pinned.checked.prog:=D1
theorem Zwp:(f6.params.toList.all λu=>!Tryz.pinned.checked.prog.wantsStandIn u)=true:=D1
theorem Zwq:(!Rows.plannerPlansCard.stood.harness.1 && Rows.plannerPlansCard.stood.harness.2.isEmpty && !true)=false:=D1
theorem Zwr(f:FuncId)(fn:Func)(hf:Tryz.pinned.checked.prog.funcNamed Rows.plannerPlansRow.func=some f)(hfn:Tryz.pinned.checked.prog.funcs[f]?=some fn):true=Tryz.pinned.checked.prog.looks []/\∀(j:Nat) t,fn.params[j]?=some t->Tryz.pinned.checked.prog.wantsStandIn t=false:=by
 have e1:f=6:=Option.some.inj (hf.symm.trans Zkp);subst e1;have e2:fn=f6:=Option.some.inj (hfn.symm.trans func6);subst e2;refine⟨Zwn,λj t ht=>?_⟩;simpa using AA.1 Zwp t (Cb.2 (Array.mem_of_getElem? ht))
theorem plannerPlansCard_holds:Rows.PlannerPlansCardSaid :=
 Claim7.holds_tied_plain_at .later [] [.data,.pinned] true Rows.plannerPlansCard.stood.harness true Zwk (λ_ h=>by cases h) Zwl (λ_ h=>by cases h) plannerPlans_row_tie rfl ⟨rfl,rfl⟩ Zwm Zwq Zwr Zwo
end Go.Proofs.YtcocagkbfpgmiaaGreatDoor
