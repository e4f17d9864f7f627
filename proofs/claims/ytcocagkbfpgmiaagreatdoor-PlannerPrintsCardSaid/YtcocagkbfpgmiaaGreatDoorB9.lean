/- Part of a proof, packed. -/
import Derived.Test.YtcocagkbfpgmiaaGreatDoorB8
open Go.Proofs.Tryz
set_option maxRecDepth 100000
set_option maxHeartbeats 3200000
namespace Go.Proofs.YtcocagkbfpgmiaaGreatDoor
open Go Go.ChangeShapes Go.WideShapes Go.ChangeAt Go.RowKit Pv
theorem ZwH:Rows.plannerPrintsRow.wfByText (OpenSpec.ofChange Rows.plannerPrintsSpec)=true:=DR
theorem ZwI:Tryz.pinned.checked.prog.mainIs=some (Rows.plannerPrintsCard.stood.harness.1,Rows.plannerPrintsCard.stood.harness.2.toList):=DR
theorem ZwJ:true=Tryz.pinned.checked.prog.looks []:=DR
theorem ZwK:false=Rows.plannerPrintsRow.goesBy Tryz.pinned.checked.prog:=DR
theorem ZwL:(f7.params.toList.all λu=>!Tryz.pinned.checked.prog.wantsStandIn u)=true:=DR
theorem ZwM:(!Rows.plannerPrintsCard.stood.harness.1 && Rows.plannerPrintsCard.stood.harness.2.isEmpty && !true)=false:=DR
theorem ZwN(f:FuncId)(fn:Func)(hf:Tryz.pinned.checked.prog.funcNamed Rows.plannerPrintsRow.func=some f)(a:Tryz.pinned.checked.prog.funcs[f]?=some fn):true=Tryz.pinned.checked.prog.looks []/\∀(j:Nat) t,fn.params[j]?=some t->Tryz.pinned.checked.prog.wantsStandIn t=false:=by
 have b:f=7:=Option.some.inj (hf.symm.trans Zkz);subst b;have e2:fn=f7:=Option.some.inj (a.symm.trans func7);subst e2;refine⟨ZwJ,λj t c=>?_⟩;simpa using Aw.1 ZwL t (B9.2 (Array.mem_of_getElem? c))
theorem plannerPrintsCard_holds:Rows.PlannerPrintsCardSaid :=
 Claim7.holds_tied_plain_at .later [] [.data,.pinned] true Rows.plannerPrintsCard.stood.harness true ZwG (λ_ h=>by cases h) ZwH (λ_ h=>by cases h) plannerPrints_row_tie rfl ⟨rfl,rfl⟩ ZwI ZwM ZwN ZwK
end Go.Proofs.YtcocagkbfpgmiaaGreatDoor
