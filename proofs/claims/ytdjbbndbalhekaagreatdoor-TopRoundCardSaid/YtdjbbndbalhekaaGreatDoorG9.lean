/- Part of a proof, packed. -/
import Derived.Test.YtdjbbndbalhekaaGreatDoorG8
open Go.Proofs.Tryz
set_option linter.defProp false
set_option maxRecDepth 100000
set_option maxHeartbeats 3200000
namespace Go.Proofs.YtdjbbndbalhekaaGreatDoor
open Go Go.ChangeShapes Go.WideShapes Go.ChangeAt Go.RowKit Pv
def ZAG:Rows.topRoundRow.wfByText (OpenSpec.ofChange Rows.topRoundSpec)=true:=ED
def ZAH:Tryz.pinned.checked.prog.mainIs=some (Rows.topRoundCard.stood.harness.1,Rows.topRoundCard.stood.harness.2.toList):=ED
def ZAI:true=Tryz.pinned.checked.prog.looks []:=ED
def ZAJ:false=Rows.topRoundRow.goesBy Tryz.pinned.checked.prog:=ED
def ZAK:(f3.params.toList.all λu=>!Tryz.pinned.checked.prog.wantsStandIn u)=true:=ED
def ZAL:(!Rows.topRoundCard.stood.harness.1&&Rows.topRoundCard.stood.harness.2.isEmpty&&!true)=false:=ED
def ZAM(f:FuncId)(fn:Func)(hf:Tryz.pinned.checked.prog.funcNamed Rows.topRoundRow.func=some f)(a:Tryz.pinned.checked.prog.funcs[f]?=some fn):true=Tryz.pinned.checked.prog.looks []/\∀(j:Nat) t,fn.params[j]?=some t->Tryz.pinned.checked.prog.wantsStandIn t=false:=by have b:f=3:=Option.some.inj (hf.symm.trans Ii);subst b;have e2:fn=f3:=Option.some.inj (a.symm.trans func3);subst e2;refine⟨ZAI,λj t c=>?_⟩;simpa using Ay.1 ZAK t (Cn.2 (Array.mem_of_getElem? c))
def topRoundCard_holds:Rows.TopRoundCardSaid :=
 Claim7.holds_tied_plain_at .later [] [.data,.pinned] true Rows.topRoundCard.stood.harness true ZAF (λ_ h=>by cases h) ZAG (λ_ h=>by cases h) topRound_row_tie rfl ⟨rfl,rfl⟩ ZAH ZAL ZAM ZAJ
end Go.Proofs.YtdjbbndbalhekaaGreatDoor
