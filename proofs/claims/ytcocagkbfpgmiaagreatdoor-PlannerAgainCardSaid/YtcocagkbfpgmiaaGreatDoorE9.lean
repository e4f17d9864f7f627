/- Part of a proof, packed. -/
import Derived.Test.YtcocagkbfpgmiaaGreatDoorE8
open Go.Proofs.Tryz
set_option maxRecDepth 100000
set_option maxHeartbeats 3200000
namespace Go.Proofs.YtcocagkbfpgmiaaGreatDoor
open Go Go.ChangeShapes Go.WideShapes Go.ChangeAt Go.RowKit Pv
theorem Zvw:Rows.plannerAgainRow.wfByText (OpenSpec.ofChange Rows.plannerAgainSpec)=true:=DK
theorem Zvx:Tryz.pinned.checked.prog.mainIs=some (Rows.plannerAgainCard.stood.harness.1,Rows.plannerAgainCard.stood.harness.2.toList):=DK
theorem Zvy:true=Tryz.pinned.checked.prog.looks []:=DK
theorem Zvz:false=Rows.plannerAgainRow.goesBy Tryz.pinned.checked.prog:=DK
theorem ZvA:(f8.params.toList.all λu=>!Tryz.pinned.checked.prog.wantsStandIn u)=true:=DK
theorem ZvB:(!Rows.plannerAgainCard.stood.harness.1 && Rows.plannerAgainCard.stood.harness.2.isEmpty && !true)=false:=DK
theorem ZvC(f:FuncId)(fn:Func)(hf:Tryz.pinned.checked.prog.funcNamed Rows.plannerAgainRow.func=some f)(hfn:Tryz.pinned.checked.prog.funcs[f]?=some fn):true=Tryz.pinned.checked.prog.looks []/\∀(j:Nat) t,fn.params[j]?=some t->Tryz.pinned.checked.prog.wantsStandIn t=false:=by
 have e1:f=8:=Option.some.inj (hf.symm.trans ZjN);subst e1;have e2:fn=f8:=Option.some.inj (hfn.symm.trans func8);subst e2;refine⟨Zvy,λj t ht=>?_⟩;simpa using Ay.1 ZvA t (B6.2 (Array.mem_of_getElem? ht))
theorem plannerAgainCard_holds:Rows.PlannerAgainCardSaid :=
 Claim7.holds_tied_plain_at .later [] [.data,.pinned] true Rows.plannerAgainCard.stood.harness true Zvv (λ_ h=>by cases h) Zvw (λ_ h=>by cases h) plannerAgain_row_tie rfl ⟨rfl,rfl⟩ Zvx ZvB ZvC Zvz
end Go.Proofs.YtcocagkbfpgmiaaGreatDoor
