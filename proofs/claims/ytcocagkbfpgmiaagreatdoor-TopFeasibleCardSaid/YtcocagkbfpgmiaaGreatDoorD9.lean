/- Part of a proof, packed. -/
import Derived.Test.YtcocagkbfpgmiaaGreatDoorD8
open Go.Proofs.Tryz
set_option maxRecDepth 100000
set_option maxHeartbeats 3200000
namespace Go.Proofs.YtcocagkbfpgmiaaGreatDoor
open Go Go.ChangeShapes Go.WideShapes Go.ChangeAt Go.RowKit Pv
theorem ZvE:Rows.topFeasibleRow.wfByText (OpenSpec.ofChange Rows.topFeasibleSpec)=true:=DU
theorem ZvF:Tryz.pinned.checked.prog.mainIs=some (Rows.topFeasibleCard.stood.harness.1,Rows.topFeasibleCard.stood.harness.2.toList):=DU
theorem ZvG:true=Tryz.pinned.checked.prog.looks []:=DU
theorem ZvH:false=Rows.topFeasibleRow.goesBy Tryz.pinned.checked.prog:=DU
theorem ZvI:(f3.params.toList.all λu=>!Tryz.pinned.checked.prog.wantsStandIn u)=true:=DU
theorem ZvJ:(!Rows.topFeasibleCard.stood.harness.1 && Rows.topFeasibleCard.stood.harness.2.isEmpty && !true)=false:=DU
theorem ZvK(f:FuncId)(fn:Func)(hf:Tryz.pinned.checked.prog.funcNamed Rows.topFeasibleRow.func=some f)(hfn:Tryz.pinned.checked.prog.funcs[f]?=some fn):true=Tryz.pinned.checked.prog.looks []/\∀(j:Nat) t,fn.params[j]?=some t->Tryz.pinned.checked.prog.wantsStandIn t=false:=by
 have e1:f=3:=Option.some.inj (hf.symm.trans ZjM);subst e1;have e2:fn=f3:=Option.some.inj (hfn.symm.trans func3);subst e2;refine⟨ZvG,λj t ht=>?_⟩;simpa using Ax.1 ZvI t (B6.2 (Array.mem_of_getElem? ht))
theorem topFeasibleCard_holds:Rows.TopFeasibleCardSaid :=
 Claim7.holds_tied_plain_at .later [] [.data,.pinned] true Rows.topFeasibleCard.stood.harness true ZvD (λ_ h=>by cases h) ZvE (λ_ h=>by cases h) topFeasible_row_tie rfl ⟨rfl,rfl⟩ ZvF ZvJ ZvK ZvH
end Go.Proofs.YtcocagkbfpgmiaaGreatDoor
