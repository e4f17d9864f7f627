/- Part of a proof, packed. -/
import Derived.Test.YtdjbbndbalhekaaGreatDoorG7
open Go.Proofs.Tryz
set_option linter.defProp false
set_option maxRecDepth 100000
set_option maxHeartbeats 3200000
namespace Go.Proofs.YtdjbbndbalhekaaGreatDoor
open Go Go.ChangeShapes Go.WideShapes Go.ChangeAt Go.RowKit Pv
def ZAg(os:Os)(b:os.Started)(H:Type)(enc:TypeId × Value->H):
  ReturnsInHanded {} checked os 3 .any (λw args=>(Rows.topRoundSpec.pre enc prog f3 [] false w args/\laidMetH prog Rows.topRoundRow.laid w)/\sizedMet enc prog f3 (OpenSpec.ofChange Rows.topRoundSpec) false w args) (Rows.topRoundSpec.post enc prog f3 false true false false):=by
 refine returnsInHanded_of_change_and (C:=checked) (X:=λw _=>laidMetH prog Rows.topRoundRow.laid w) (λ_ _ _ n h=>h.of_heap n) KO b ED func3
  (ChangeSpec.witness_shaped (enc:=enc) (C:=checked) (os:=os) (X:=λw _=>laidMetH prog Rows.topRoundRow.laid w) false (World.laidAll prog os Rows.topRoundRow.laid) #[.agg #[.int .i64 0,.int .i64 0,.int .i64 0,.int .i64 0,.slice none 0 0,.slice none 0 0],.slice none 0 0,.int .i64 0] 8 (World.laidAll_os _ _ _)
   (World.shaped_of_ZipB ED ED) ED ED ED
   (by rw[MakeChecks.laidMetH_plain _ _ _ ED];exact laidMet_laidAll _ ED ED)) ?_
 intro W base args ds gs before d k _ _ _ _;have a:∀(j:Nat) t v,f3.params[j]?=some t->args[j]?=some v->Value.okWide prog W .any base t v:=d;have f:=k;obtain⟨p,q,g,o,rfl,r,s⟩:=k;have l:DataW.TrodAll enc prog W 0 (λ_=>true) true f3.params.toList args.toList ds p:=g;rw[params3]at l a;obtain⟨v0,v1,u,d0,d1,d2,p0,p1,p2,rfl,rfl,rfl,h0,h1,h2⟩:=trodAll_three l;obtain⟨rfl,rfl⟩:=trodVars_none o;obtain⟨c0,rfl,_⟩:=okWide_struct underlying25 (a 0 _ v0 rfl rfl);obtain⟨a0,k0,r0⟩:=KN (LF W) h0;obtain⟨b1,n1,m1,rfl⟩:=okWide_slice underlying26 (a 1 _ v1 rfl rfl);obtain⟨x,k1,r1⟩:=ni (LG W) rfl h1;have r1:=r1 _ rfl;obtain⟨z2,rfl⟩:=okWide_int underlying3 (a 2 _ u rfl rfl);obtain⟨y,z,r2⟩:=ni ((Zi underlying3:Qb prog W 3 Int zL)) rfl h2;have r2:=r2 _ rfl;refine(KQ ((ZAf a0 x y z k0)) rfl (λi c v hc hv=>?_)).mono λe W' m=>?_
 .match i with
  |0=>cases hc;cases hv;exact r0
  |1=>cases hc;cases hv;exact r1
  |2=>cases hc;cases hv;exact r2
  |i+3=>cases hc
 exact⟨_,m.1,KR rfl rfl (of_decide_eq_true ED) f rfl rfl rfl m.2⟩
def ZAh:Rows.topRoundRow.wf (OpenSpec.ofChange Rows.topRoundSpec)=true:=ED
def ZAi:f3.params.all (Tryz.pinned.checked.prog.readableRec ·)=true:=ED
def ZAj:namedTie Tryz.pinned.checked.prog Rows.topRoundRow.named Rows.topRoundSpec.vars=true:=ED
def ZAk:(Rows.topRoundRow.inPlace==Tryz.pinned.checked.prog.inPlace 3)=true:=ED
def ZAl:(Rows.topRoundRow.unfollowed==Tryz.pinned.checked.prog.unfollowed 3)=true:=ED
def ZAm:(Rows.topRoundRow.recurses==Tryz.pinned.checked.prog.recurses 3)=true:=ED
def ZAn:(Rows.topRoundRow.named==Tryz.pinned.checked.prog.varsNamed 3)=true:=ED
def ZAo:(Rows.topRoundRow.maps==(f3.params.toList++Rows.topRoundSpec.plain.varTypes Tryz.pinned.checked.prog).any (Tryz.pinned.checked.prog.mapsRec ·))=true:=ED
def ZAp:(Rows.topRoundRow.ifaces==(f3.params.toList++Rows.topRoundSpec.plain.varTypes Tryz.pinned.checked.prog).any (Tryz.pinned.checked.prog.ifacesRec ·))=true:=ED
def ZAq:(Rows.topRoundRow.mapsOut==Tryz.pinned.checked.prog.mapsAmong f3.resultTypes.toList)=true:=ED
def ZAr:(Rows.topRoundRow.loops==(f3.params.toList++Rows.topRoundSpec.plain.varTypes Tryz.pinned.checked.prog).any (Tryz.pinned.checked.prog.loopsFrom ·))=true:=ED
def ZAs:(Rows.topRoundRow.wideKeys==(f3.params.toList++Rows.topRoundSpec.plain.varTypes Tryz.pinned.checked.prog++f3.resultTypes.toList).any (Tryz.pinned.checked.prog.wideKeysFrom ·))=true:=ED
def ZAt:Rows.topRoundSpec.vars.all (Tryz.pinned.checked.prog.varReadable ·)=true:=ED
def ZAu:f3.resultTypes.all (λt=>Tryz.pinned.checked.prog.readableRec t&&decide (t<Tryz.pinned.checked.prog.types.size))=true:=ED
def ZAv:(Rows.topRoundRow.ifacesOut==f3.resultTypes.toList.any (Tryz.pinned.checked.prog.ifacesRec ·))=true:=ED
def ZAw:(Rows.topRoundRow.loopsOut==f3.resultTypes.toList.any (Tryz.pinned.checked.prog.loopsFrom ·))=true:=ED
def ZAx:(Rows.topRoundRow.plainKeys==Tryz.pinned.checked.prog.plainKeys)=true:=ED
def ZAy:(Rows.topRoundRow.lifted==Tryz.pinned.checked.prog.liftsFinal)=true:=ED
def ZAz:(Tryz.pinned.checked.prog.make==some Rows.topRoundRow.make)=true:=ED
def ZAA:(Rows.topRoundRow.kinds==(if Rows.topRoundRow.domain.isEmpty then [] else f3.params.toList.map λt=>match Tryz.pinned.checked.prog.underlying t with|some (.int k)=>some k|_=>none))=true:=ED
def ZAB:(Rows.topRoundRow.veiled==(f3.params.toList++Rows.topRoundSpec.plain.varTypes Tryz.pinned.checked.prog++f3.resultTypes.toList).any (Tryz.pinned.checked.prog.veiledRec ·))=true:=ED
def ZAC:Rows.topRoundRow.veiledFits Tryz.pinned.checked.prog f3.params.toList (f3.params.toList++Rows.topRoundSpec.plain.varTypes Tryz.pinned.checked.prog++f3.resultTypes.toList)=true:=ED
def Ii:Tryz.pinned.checked.prog.funcNamed Rows.topRoundRow.func=some 3:=ED
def ZAD:f3.isInstance Tryz.pinned.checked.prog Rows.topRoundRow.origin Rows.topRoundRow.targs:=of_decide_eq_true ED
def ZAE:f3.isWrapper Tryz.pinned.checked.prog Rows.topRoundRow.wrapper Rows.topRoundRow.mainSum:=by unfold Func.isWrapper;first|(rw[if_pos (by decide +kernel)];kernel_rfl)|(rw[if_neg (by decide +kernel)];exact⟨rfl,rfl⟩)
def ZAF:Rows.TopRoundSaid :=
 OpenClaim.holds_of_wide 3 f3 rfl rfl rfl rfl rfl rfl rfl ⟨rfl,rfl,rfl,rfl,rfl⟩ rfl rfl rfl rfl rfl Ii func3 (KS ZAh KU KV ZAi ZAj rfl KW rfl KY ZAk ZAl ZAm ZAn ZAo ZAp ZAq ZAr ZAs ZAt ZAu ZAv ZAw ZAx rfl KZ La ZAy ZAz ZAA rfl ZAB ZAC)
  ZAD ZAE
  (λos a H enc _=>ZAg os a H enc)
end Go.Proofs.YtdjbbndbalhekaaGreatDoor
