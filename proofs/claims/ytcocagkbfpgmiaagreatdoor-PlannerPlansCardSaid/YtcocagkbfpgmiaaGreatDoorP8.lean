/- Part of a proof, packed. -/
import Derived.Test.YtcocagkbfpgmiaaGreatDoorP7
open Go.Proofs.Tryz
set_option maxRecDepth 100000
set_option maxHeartbeats 3200000
namespace Go.Proofs.YtcocagkbfpgmiaaGreatDoor
open Go Go.ChangeShapes Go.WideShapes Go.ChangeAt Go.RowKit Pv
theorem ZvV(os:Os)(started:os.Started)(H:Type)(enc:TypeId × Value->H):
  ReturnsInHanded {} checked os 6 .any (λw args=>(Rows.plannerPlansSpec.pre enc prog f6 [] false w args/\laidMetH prog Rows.plannerPlansRow.laid w)/\sizedMet enc prog f6 (OpenSpec.ofChange Rows.plannerPlansSpec) false w args) (Rows.plannerPlansSpec.post enc prog f6 false true false false):=by
 refine returnsInHanded_of_change_and (C:=checked) (X:=λw _=>laidMetH prog Rows.plannerPlansRow.laid w) (λ_ _ _ hh h=>h.of_heap hh) ZlL started D1 func6
  (ChangeSpec.witness_shaped (enc:=enc) (C:=checked) (os:=os) (X:=λw _=>laidMetH prog Rows.plannerPlansRow.laid w) false (World.laidAll prog os Rows.plannerPlansRow.laid) #[.agg #[.int .i64 0,.int .i64 0,.int .i64 0,.int .i64 0,.slice none 0 0,.slice none 0 0],.slice none 0 0] 8 (World.laidAll_os _ _ _)
   (World.shaped_of_ZipB D1 D1) D1 D1 D1
   (by rw[MakeChecks.laidMetH_plain _ _ _ (by kernel_rfl)];exact laidMet_laidAll _ (by kernel_rfl) (by kernel_rfl))) ?_
 intro W base args ds gs before hval0 hW _ _ _ _;have hval:∀(j:Nat) t v,f6.params[j]?=some t->args[j]?=some v->Value.okWide prog W .any base t v:=hval0;have hW':=hW;obtain⟨p,q,hA0,hV,rfl,hfz,hnd⟩:=hW;have hA:DataW.TrodAll enc prog W 0 (λ_=>true) true f6.params.toList args.toList ds p:=hA0;rw[params6]at hA hval;obtain⟨v0,v1,d0,d1,p0,p1,rfl,rfl,rfl,h0,h1⟩:=trodAll_two hA;obtain⟨rfl,rfl⟩:=trodVars_none hV;obtain⟨c0,rfl,_⟩:=okWide_struct underlying25 (hval 0 _ v0 rfl rfl);obtain⟨a0,k0,r0⟩:=ZlJ (Zmq W) h0;obtain⟨b1,n1,m1,rfl⟩:=okWide_slice underlying26 (hval 1 _ v1 rfl rfl);obtain⟨a1,k1,r1⟩:=ZlK (Zmr W) rfl h1;have r1:=r1 _ rfl;refine(ZlN ((ZvU a0 a1 k0)) rfl (λi c v hc hv=>?_)).mono λe W' hq=>?_
 ·match i with
  | 0=>cases hc;cases hv;exact r0
  | 1=>cases hc;cases hv;exact r1
  | i+2=>cases hc
 exact⟨_,hq.1,ZlO rfl rfl (of_decide_eq_true D1) hW' rfl rfl rfl hq.2⟩
theorem ZvW:Rows.plannerPlansRow.wf (OpenSpec.ofChange Rows.plannerPlansSpec)=true:=D1
theorem ZvX:f6.params.all (Tryz.pinned.checked.prog.readableRec ·)=true:=D1
theorem ZvY:namedTie Tryz.pinned.checked.prog Rows.plannerPlansRow.named Rows.plannerPlansSpec.vars=true:=D1
theorem ZvZ:(Rows.plannerPlansRow.inPlace == Tryz.pinned.checked.prog.inPlace 6)=true:=D1
theorem Zv0:(Rows.plannerPlansRow.unfollowed == Tryz.pinned.checked.prog.unfollowed 6)=true:=D1
theorem Zv1:(Rows.plannerPlansRow.recurses == Tryz.pinned.checked.prog.recurses 6)=true:=D1
theorem Zv2:(Rows.plannerPlansRow.named == Tryz.pinned.checked.prog.varsNamed 6)=true:=D1
theorem Zv3:(Rows.plannerPlansRow.maps == (f6.params.toList++Rows.plannerPlansSpec.plain.varTypes Tryz.pinned.checked.prog).any (Tryz.pinned.checked.prog.mapsRec ·))=true:=D1
theorem Zv4:(Rows.plannerPlansRow.ifaces == (f6.params.toList++Rows.plannerPlansSpec.plain.varTypes Tryz.pinned.checked.prog).any (Tryz.pinned.checked.prog.ifacesRec ·))=true:=D1
theorem Zv5:(Rows.plannerPlansRow.mapsOut == Tryz.pinned.checked.prog.mapsAmong f6.resultTypes.toList)=true:=D1
theorem Zv6:(Rows.plannerPlansRow.loops == (f6.params.toList++Rows.plannerPlansSpec.plain.varTypes Tryz.pinned.checked.prog).any (Tryz.pinned.checked.prog.loopsFrom ·))=true:=D1
theorem Zv7:(Rows.plannerPlansRow.wideKeys == (f6.params.toList++Rows.plannerPlansSpec.plain.varTypes Tryz.pinned.checked.prog++f6.resultTypes.toList).any (Tryz.pinned.checked.prog.wideKeysFrom ·))=true:=D1
theorem Zv8:Rows.plannerPlansSpec.vars.all (Tryz.pinned.checked.prog.varReadable ·)=true:=D1
theorem Zv9:f6.resultTypes.all (λt=>Tryz.pinned.checked.prog.readableRec t && decide (t<Tryz.pinned.checked.prog.types.size))=true:=D1
theorem Zwa:(Rows.plannerPlansRow.ifacesOut == f6.resultTypes.toList.any (Tryz.pinned.checked.prog.ifacesRec ·))=true:=D1
theorem Zwb:(Rows.plannerPlansRow.loopsOut == f6.resultTypes.toList.any (Tryz.pinned.checked.prog.loopsFrom ·))=true:=D1
theorem Zwc:(Rows.plannerPlansRow.plainKeys == Tryz.pinned.checked.prog.plainKeys)=true:=D1
theorem Zwd:(Rows.plannerPlansRow.lifted == Tryz.pinned.checked.prog.liftsFinal)=true:=D1
theorem Zwe:(Tryz.pinned.checked.prog.make == some Rows.plannerPlansRow.make)=true:=D1
theorem Zwf:(Rows.plannerPlansRow.kinds == (if Rows.plannerPlansRow.domain.isEmpty then [] else f6.params.toList.map λt=>match Tryz.pinned.checked.prog.underlying t with | some (.int k)=>some k | _=>none))=true:=D1
theorem Zwg:(Rows.plannerPlansRow.veiled == (f6.params.toList++Rows.plannerPlansSpec.plain.varTypes Tryz.pinned.checked.prog++f6.resultTypes.toList).any (Tryz.pinned.checked.prog.veiledRec ·))=true:=D1
theorem Zwh:Rows.plannerPlansRow.veiledFits Tryz.pinned.checked.prog f6.params.toList (f6.params.toList++Rows.plannerPlansSpec.plain.varTypes Tryz.pinned.checked.prog++f6.resultTypes.toList)=true:=D1
theorem Zkp:Tryz.pinned.checked.prog.funcNamed Rows.plannerPlansRow.func=some 6:=D1
theorem Zwi:f6.isInstance Tryz.pinned.checked.prog Rows.plannerPlansRow.origin Rows.plannerPlansRow.targs:=of_decide_eq_true D1
theorem Zwj:f6.isWrapper Tryz.pinned.checked.prog Rows.plannerPlansRow.wrapper Rows.plannerPlansRow.mainSum:=by unfold Func.isWrapper;first | (rw[if_pos (by decide +kernel)];kernel_rfl) | (rw[if_neg (by decide +kernel)];exact⟨rfl,rfl⟩)
theorem Zwk:Rows.PlannerPlansSaid :=
 OpenClaim.holds_of_wide 6 f6 rfl rfl rfl rfl rfl rfl rfl ⟨rfl,rfl,rfl,rfl,rfl⟩ rfl rfl rfl rfl rfl Zkp func6 (ZlP ZvW ZlQ ZlR ZvX ZvY rfl ZlS rfl ZlT ZvZ Zv0 Zv1 Zv2 Zv3 Zv4 Zv5 Zv6 Zv7 Zv8 Zv9 Zwa Zwb Zwc rfl ZlU ZlV Zwd Zwe Zwf rfl Zwg Zwh)
  Zwi Zwj
  (λos started H enc _=>ZvV os started H enc)
end Go.Proofs.YtcocagkbfpgmiaaGreatDoor
