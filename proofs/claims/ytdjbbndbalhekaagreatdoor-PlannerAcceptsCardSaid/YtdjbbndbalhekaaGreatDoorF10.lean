/- The tied card of the law PlannerAccepts holds. There are no conditions. -/
import Derived.Test.YtdjbbndbalhekaaGreatDoorF9
open Go.Proofs.Tryz
set_option linter.defProp false
set_option maxRecDepth 100000
set_option maxHeartbeats 3200000
namespace Go.Proofs.YtdjbbndbalhekaaGreatDoor
open Go Go.ChangeShapes Go.WideShapes Go.ChangeAt Go.RowKit Pv
theorem ZqA1:Rows.plannerAcceptsRow.wfByText (OpenSpec.ofChange Rows.plannerAcceptsSpec)=true:=by kernel_rfl
theorem ZqA2:Tryz.pinned.checked.prog.mainIs=some (Rows.plannerAcceptsCard.stood.harness.1,Rows.plannerAcceptsCard.stood.harness.2.toList):=by kernel_rfl
theorem ZqA3:true=Tryz.pinned.checked.prog.looks []:=by kernel_rfl
theorem ZqA5:(f4.params.toList.all fun u=>!Tryz.pinned.checked.prog.wantsStandIn u)=true:=by kernel_rfl
theorem ZqA6:(!Rows.plannerAcceptsCard.stood.harness.1 && Rows.plannerAcceptsCard.stood.harness.2.isEmpty && !true)=false:=by kernel_rfl
theorem ZqA7(f:FuncId)(fn:Func)(hf:Tryz.pinned.checked.prog.funcNamed Rows.plannerAcceptsRow.func=some f)(a:Tryz.pinned.checked.prog.funcs[f]?=some fn):true=Tryz.pinned.checked.prog.looks [] ∧ ∀(j:Nat) t,fn.params[j]?=some t->Tryz.pinned.checked.prog.wantsStandIn t=false:=by
 have b:f=4:=Option.some.inj (hf.symm.trans ZmL)
 subst b
 have e2:fn=f4:=Option.some.inj (a.symm.trans func4)
 subst e2
 refine ⟨ZqA3,fun j t c=>?_⟩
 simpa using List.all_eq_true.1 ZqA5 t (Array.mem_toList_iff.2 (Array.mem_of_getElem? c))
theorem plannerAcceptsCard_holds:Rows.PlannerAcceptsCardSaid:=
 Claim7.holds_tied_plain_at .later [] [.data,.pinned] true Rows.plannerAcceptsCard.stood.harness true Zzz (fun _ h=>by cases h) ZqA1 (fun _ h=>by cases h) plannerAccepts_row_tie rfl ⟨rfl,rfl⟩ ZqA2 ZqA6 ZqA7 ZmT
end Go.Proofs.YtdjbbndbalhekaaGreatDoor
