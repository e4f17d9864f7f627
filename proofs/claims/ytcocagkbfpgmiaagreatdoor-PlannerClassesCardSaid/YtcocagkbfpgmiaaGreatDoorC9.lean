/- Part of a proof, packed. -/
import Derived.Test.YtcocagkbfpgmiaaGreatDoorC8
open Go.Proofs.Tryz
set_option maxRecDepth 100000
set_option maxHeartbeats 3200000
namespace Go.Proofs.YtcocagkbfpgmiaaGreatDoor
open Go Go.ChangeShapes Go.WideShapes Go.ChangeAt Go.RowKit Pv
theorem Ztf:Rows.plannerClassesRow.wfByText (OpenSpec.ofChange Rows.plannerClassesSpec)=true:=DE
theorem Ztg:Tryz.pinned.checked.prog.mainIs=some (Rows.plannerClassesCard.stood.harness.1,Rows.plannerClassesCard.stood.harness.2.toList):=DE
theorem Zth:true=Tryz.pinned.checked.prog.looks []:=DE
theorem Zti:false=Rows.plannerClassesRow.goesBy Tryz.pinned.checked.prog:=DE
theorem Ztj:(f5.params.toList.all λu=>!Tryz.pinned.checked.prog.wantsStandIn u)=true:=DE
theorem Ztk:(!Rows.plannerClassesCard.stood.harness.1 && Rows.plannerClassesCard.stood.harness.2.isEmpty && !true)=false:=DE
theorem Ztl(f:FuncId)(fn:Func)(hf:Tryz.pinned.checked.prog.funcNamed Rows.plannerClassesRow.func=some f)(hfn:Tryz.pinned.checked.prog.funcs[f]?=some fn):true=Tryz.pinned.checked.prog.looks []/\∀(j:Nat) t,fn.params[j]?=some t->Tryz.pinned.checked.prog.wantsStandIn t=false:=by
 have e1:f=5:=Option.some.inj (hf.symm.trans Zib);subst e1;have e2:fn=f5:=Option.some.inj (hfn.symm.trans func5);subst e2;refine⟨Zth,λj t ht=>?_⟩;simpa using Az.1 Ztj t (B1.2 (Array.mem_of_getElem? ht))
theorem plannerClassesCard_holds:Rows.PlannerClassesCardSaid :=
 Claim7.holds_tied_plain_at .later [] [.data,.pinned] true Rows.plannerClassesCard.stood.harness true Zte (λ_ h=>by cases h) Ztf (λ_ h=>by cases h) plannerClasses_row_tie rfl ⟨rfl,rfl⟩ Ztg Ztk Ztl Zti
end Go.Proofs.YtcocagkbfpgmiaaGreatDoor
