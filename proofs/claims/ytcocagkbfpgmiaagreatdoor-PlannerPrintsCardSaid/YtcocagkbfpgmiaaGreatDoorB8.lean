/- Part of a proof, packed. -/
import Derived.Test.YtcocagkbfpgmiaaGreatDoorB7
open Go.Proofs.Tryz
set_option maxRecDepth 100000
set_option maxHeartbeats 3200000
namespace Go.Proofs.YtcocagkbfpgmiaaGreatDoor
open Go Go.ChangeShapes Go.WideShapes Go.ChangeAt Go.RowKit Pv
theorem Zwh(os:Os)(b:os.Started)(H:Type)(enc:TypeId × Value->H):
  ReturnsInHanded {} checked os 7 .any (λw args=>(Rows.plannerPrintsSpec.pre enc prog f7 [] false w args/\laidMetH prog Rows.plannerPrintsRow.laid w)/\sizedMet enc prog f7 (OpenSpec.ofChange Rows.plannerPrintsSpec) false w args) (Rows.plannerPrintsSpec.post enc prog f7 false true false false):=by
 refine returnsInHanded_of_change_and (C:=checked) (X:=λw _=>laidMetH prog Rows.plannerPrintsRow.laid w) (λ_ _ _ n h=>h.of_heap n) ZlU b DR func7
  (ChangeSpec.witness_shaped (enc:=enc) (C:=checked) (os:=os) (X:=λw _=>laidMetH prog Rows.plannerPrintsRow.laid w) false (World.laidAll prog os Rows.plannerPrintsRow.laid) #[.agg #[.int .i64 0,.int .i64 0,.int .i64 0,.int .i64 0,.slice none 0 0,.slice none 0 0],.slice none 0 0,.string ⟨#[]⟩] 8 (World.laidAll_os _ _ _)
   (World.shaped_of_ZipB DR DR) DR DR DR
   (by rw[MakeChecks.laidMetH_plain _ _ _ (by kernel_rfl)];exact laidMet_laidAll _ (by kernel_rfl) (by kernel_rfl))) ?_
 intro W base args ds z before d k _ _ _ _;have a:∀(j:Nat) t v,f7.params[j]?=some t->args[j]?=some v->Value.okWide prog W .any base t v:=d;have f:=k;obtain⟨p,q,g,o,rfl,r,s⟩:=k;have l:DataW.TrodAll enc prog W 0 (λ_=>true) true f7.params.toList args.toList ds p:=g;rw[params7]at l a;obtain⟨v0,v1,u,d0,d1,d2,p0,p1,p2,rfl,rfl,rfl,h0,h1,h2⟩:=trodAll_three l;obtain⟨rfl,rfl⟩:=trodVars_none o;obtain⟨c0,rfl,_⟩:=okWide_struct underlying25 (a 0 _ v0 rfl rfl);obtain⟨a0,k0,r0⟩:=ZlT (Zmy W) h0;obtain⟨b1,n1,m1,rfl⟩:=okWide_slice underlying26 (a 1 _ v1 rfl rfl);obtain⟨x,k1,r1⟩:=Zfz (Zmz W) rfl h1;have r1:=r1 _ rfl;obtain⟨z2,rfl⟩:=okWide_string underlying9 (a 2 _ u rfl rfl);obtain⟨y,k2,r2⟩:=Zfz ((Zry underlying9:ZQ prog W 9 ByteArray (λ_=>True))) rfl h2;have r2:=r2 _ rfl;refine(ZlW ((Zwg a0 x y k0)) rfl (λi c v hc hv=>?_)).mono λe W' m=>?_
 ·match i with
  | 0=>cases hc;cases hv;exact r0
  | 1=>cases hc;cases hv;exact r1
  | 2=>cases hc;cases hv;exact r2
  | i+3=>cases hc
 exact⟨_,m.1,ZlX rfl rfl (of_decide_eq_true DR) f rfl rfl rfl m.2⟩
theorem Zwi:Rows.plannerPrintsRow.wf (OpenSpec.ofChange Rows.plannerPrintsSpec)=true:=DR
theorem Zwj:f7.params.all (Tryz.pinned.checked.prog.readableRec ·)=true:=DR
theorem Zwk:namedTie Tryz.pinned.checked.prog Rows.plannerPrintsRow.named Rows.plannerPrintsSpec.vars=true:=DR
theorem Zwl:(Rows.plannerPrintsRow.inPlace == Tryz.pinned.checked.prog.inPlace 7)=true:=DR
theorem Zwm:(Rows.plannerPrintsRow.unfollowed == Tryz.pinned.checked.prog.unfollowed 7)=true:=DR
theorem Zwn:(Rows.plannerPrintsRow.recurses == Tryz.pinned.checked.prog.recurses 7)=true:=DR
theorem Zwo:(Rows.plannerPrintsRow.named == Tryz.pinned.checked.prog.varsNamed 7)=true:=DR
theorem Zwp:(Rows.plannerPrintsRow.maps == (f7.params.toList++Rows.plannerPrintsSpec.plain.varTypes Tryz.pinned.checked.prog).any (Tryz.pinned.checked.prog.mapsRec ·))=true:=DR
theorem Zwq:(Rows.plannerPrintsRow.ifaces == (f7.params.toList++Rows.plannerPrintsSpec.plain.varTypes Tryz.pinned.checked.prog).any (Tryz.pinned.checked.prog.ifacesRec ·))=true:=DR
theorem Zwr:(Rows.plannerPrintsRow.mapsOut == Tryz.pinned.checked.prog.mapsAmong f7.resultTypes.toList)=true:=DR
theorem Zws:(Rows.plannerPrintsRow.loops == (f7.params.toList++Rows.plannerPrintsSpec.plain.varTypes Tryz.pinned.checked.prog).any (Tryz.pinned.checked.prog.loopsFrom ·))=true:=DR
theorem Zwt:(Rows.plannerPrintsRow.wideKeys == (f7.params.toList++Rows.plannerPrintsSpec.plain.varTypes Tryz.pinned.checked.prog++f7.resultTypes.toList).any (Tryz.pinned.checked.prog.wideKeysFrom ·))=true:=DR
theorem Zwu:Rows.plannerPrintsSpec.vars.all (Tryz.pinned.checked.prog.varReadable ·)=true:=DR
theorem Zwv:f7.resultTypes.all (λt=>Tryz.pinned.checked.prog.readableRec t && decide (t<Tryz.pinned.checked.prog.types.size))=true:=DR
theorem Zww:(Rows.plannerPrintsRow.ifacesOut == f7.resultTypes.toList.any (Tryz.pinned.checked.prog.ifacesRec ·))=true:=DR
theorem Zwx:(Rows.plannerPrintsRow.loopsOut == f7.resultTypes.toList.any (Tryz.pinned.checked.prog.loopsFrom ·))=true:=DR
theorem Zwy:(Rows.plannerPrintsRow.plainKeys == Tryz.pinned.checked.prog.plainKeys)=true:=DR
theorem Zwz:(Rows.plannerPrintsRow.lifted == Tryz.pinned.checked.prog.liftsFinal)=true:=DR
theorem ZwA:(Tryz.pinned.checked.prog.make == some Rows.plannerPrintsRow.make)=true:=DR
theorem ZwB:(Rows.plannerPrintsRow.kinds == (if Rows.plannerPrintsRow.domain.isEmpty then [] else f7.params.toList.map λt=>match Tryz.pinned.checked.prog.underlying t with | some (.int k)=>some k | _=>none))=true:=DR
theorem ZwC:(Rows.plannerPrintsRow.veiled == (f7.params.toList++Rows.plannerPrintsSpec.plain.varTypes Tryz.pinned.checked.prog++f7.resultTypes.toList).any (Tryz.pinned.checked.prog.veiledRec ·))=true:=DR
theorem ZwD:Rows.plannerPrintsRow.veiledFits Tryz.pinned.checked.prog f7.params.toList (f7.params.toList++Rows.plannerPrintsSpec.plain.varTypes Tryz.pinned.checked.prog++f7.resultTypes.toList)=true:=DR
theorem Zkz:Tryz.pinned.checked.prog.funcNamed Rows.plannerPrintsRow.func=some 7:=DR
theorem ZwE:f7.isInstance Tryz.pinned.checked.prog Rows.plannerPrintsRow.origin Rows.plannerPrintsRow.targs:=of_decide_eq_true DR
theorem ZwF:f7.isWrapper Tryz.pinned.checked.prog Rows.plannerPrintsRow.wrapper Rows.plannerPrintsRow.mainSum:=by unfold Func.isWrapper;first | (rw[if_pos (by decide +kernel)];kernel_rfl) | (rw[if_neg (by decide +kernel)];exact⟨rfl,rfl⟩)
theorem ZwG:Rows.PlannerPrintsSaid :=
 OpenClaim.holds_of_wide 7 f7 rfl rfl rfl rfl rfl rfl rfl ⟨rfl,rfl,rfl,rfl,rfl⟩ rfl rfl rfl rfl rfl Zkz func7 (ZlY Zwi ZlZ Zl0 Zwj Zwk rfl Zl1 rfl Zl2 Zwl Zwm Zwn Zwo Zwp Zwq Zwr Zws Zwt Zwu Zwv Zww Zwx Zwy rfl Zl3 Zl4 Zwz ZwA ZwB rfl ZwC ZwD)
  ZwE ZwF
  (λos a H enc _=>Zwh os a H enc)
end Go.Proofs.YtcocagkbfpgmiaaGreatDoor
