/- Part of a proof, packed. -/
import Derived.Test.YtcocagkbfpgmiaaGreatDoorE7
open Go.Proofs.Tryz
set_option maxRecDepth 100000
set_option maxHeartbeats 3200000
namespace Go.Proofs.YtcocagkbfpgmiaaGreatDoor
open Go Go.ChangeShapes Go.WideShapes Go.ChangeAt Go.RowKit Pv
theorem Zu6(os:Os)(started:os.Started)(H:Type)(enc:TypeId × Value->H):
  ReturnsInHanded {} checked os 8 .any (λw args=>(Rows.plannerAgainSpec.pre enc prog f8 [] false w args/\laidMetH prog Rows.plannerAgainRow.laid w)/\sizedMet enc prog f8 (OpenSpec.ofChange Rows.plannerAgainSpec) false w args) (Rows.plannerAgainSpec.post enc prog f8 false true false false):=by
 refine returnsInHanded_of_change_and (C:=checked) (X:=λw _=>laidMetH prog Rows.plannerAgainRow.laid w) (λ_ _ _ hh h=>h.of_heap hh) Zk7 started DK func8
  (ChangeSpec.witness_shaped (enc:=enc) (C:=checked) (os:=os) (X:=λw _=>laidMetH prog Rows.plannerAgainRow.laid w) false (World.laidAll prog os Rows.plannerAgainRow.laid) #[.agg #[.int .i64 0,.int .i64 0,.int .i64 0,.int .i64 0,.slice none 0 0,.slice none 0 0],.slice none 0 0,.int .i64 0] 8 (World.laidAll_os _ _ _)
   (World.shaped_of_ZipB DK DK) DK DK DK
   (by rw[MakeChecks.laidMetH_plain _ _ _ (by kernel_rfl)];exact laidMet_laidAll _ (by kernel_rfl) (by kernel_rfl))) ?_
 intro W base args ds gs before hval0 hW _ _ _ _;have hval:∀(j:Nat) t v,f8.params[j]?=some t->args[j]?=some v->Value.okWide prog W .any base t v:=hval0;have hW':=hW;obtain⟨p,q,hA0,hV,rfl,hfz,hnd⟩:=hW;have hA:DataW.TrodAll enc prog W 0 (λ_=>true) true f8.params.toList args.toList ds p:=hA0;rw[params8]at hA hval;obtain⟨v0,v1,v2,d0,d1,d2,p0,p1,p2,rfl,rfl,rfl,h0,h1,h2⟩:=trodAll_three hA;obtain⟨rfl,rfl⟩:=trodVars_none hV;obtain⟨c0,rfl,_⟩:=okWide_struct underlying25 (hval 0 _ v0 rfl rfl);obtain⟨a0,k0,r0⟩:=Zk6 (ZlM W) h0;obtain⟨b1,n1,m1,rfl⟩:=okWide_slice underlying26 (hval 1 _ v1 rfl rfl);obtain⟨a1,k1,r1⟩:=ZeK (ZlN W) rfl h1;have r1:=r1 _ rfl;obtain⟨z2,rfl⟩:=okWide_int underlying3 (hval 2 _ v2 rfl rfl);obtain⟨a2,k2,r2⟩:=ZeK ((vT underlying3:ZV prog W 3 Int zP)) rfl h2;have r2:=r2 _ rfl;refine(Zk9 ((Zu5 a0 a1 a2 k0)) rfl (λi c v hc hv=>?_)).mono λe W' hq=>?_
 ·match i with
  | 0=>cases hc;cases hv;exact r0
  | 1=>cases hc;cases hv;exact r1
  | 2=>cases hc;cases hv;exact r2
  | i+3=>cases hc
 exact⟨_,hq.1,Zla rfl rfl (of_decide_eq_true DK) hW' rfl rfl rfl hq.2⟩
theorem Zu7:Rows.plannerAgainRow.wf (OpenSpec.ofChange Rows.plannerAgainSpec)=true:=DK
theorem Zu8:f8.params.all (Tryz.pinned.checked.prog.readableRec ·)=true:=DK
theorem Zu9:namedTie Tryz.pinned.checked.prog Rows.plannerAgainRow.named Rows.plannerAgainSpec.vars=true:=DK
theorem Zva:(Rows.plannerAgainRow.inPlace == Tryz.pinned.checked.prog.inPlace 8)=true:=DK
theorem Zvb:(Rows.plannerAgainRow.unfollowed == Tryz.pinned.checked.prog.unfollowed 8)=true:=DK
theorem Zvc:(Rows.plannerAgainRow.recurses == Tryz.pinned.checked.prog.recurses 8)=true:=DK
theorem Zvd:(Rows.plannerAgainRow.named == Tryz.pinned.checked.prog.varsNamed 8)=true:=DK
theorem Zve:(Rows.plannerAgainRow.maps == (f8.params.toList++Rows.plannerAgainSpec.plain.varTypes Tryz.pinned.checked.prog).any (Tryz.pinned.checked.prog.mapsRec ·))=true:=DK
theorem Zvf:(Rows.plannerAgainRow.ifaces == (f8.params.toList++Rows.plannerAgainSpec.plain.varTypes Tryz.pinned.checked.prog).any (Tryz.pinned.checked.prog.ifacesRec ·))=true:=DK
theorem Zvg:(Rows.plannerAgainRow.mapsOut == Tryz.pinned.checked.prog.mapsAmong f8.resultTypes.toList)=true:=DK
theorem Zvh:(Rows.plannerAgainRow.loops == (f8.params.toList++Rows.plannerAgainSpec.plain.varTypes Tryz.pinned.checked.prog).any (Tryz.pinned.checked.prog.loopsFrom ·))=true:=DK
theorem Zvi:(Rows.plannerAgainRow.wideKeys == (f8.params.toList++Rows.plannerAgainSpec.plain.varTypes Tryz.pinned.checked.prog++f8.resultTypes.toList).any (Tryz.pinned.checked.prog.wideKeysFrom ·))=true:=DK
theorem Zvj:Rows.plannerAgainSpec.vars.all (Tryz.pinned.checked.prog.varReadable ·)=true:=DK
theorem Zvk:f8.resultTypes.all (λt=>Tryz.pinned.checked.prog.readableRec t && decide (t<Tryz.pinned.checked.prog.types.size))=true:=DK
theorem Zvl:(Rows.plannerAgainRow.ifacesOut == f8.resultTypes.toList.any (Tryz.pinned.checked.prog.ifacesRec ·))=true:=DK
theorem Zvm:(Rows.plannerAgainRow.loopsOut == f8.resultTypes.toList.any (Tryz.pinned.checked.prog.loopsFrom ·))=true:=DK
theorem Zvn:(Rows.plannerAgainRow.plainKeys == Tryz.pinned.checked.prog.plainKeys)=true:=DK
theorem Zvo:(Rows.plannerAgainRow.lifted == Tryz.pinned.checked.prog.liftsFinal)=true:=DK
theorem Zvp:(Tryz.pinned.checked.prog.make == some Rows.plannerAgainRow.make)=true:=DK
theorem Zvq:(Rows.plannerAgainRow.kinds == (if Rows.plannerAgainRow.domain.isEmpty then [] else f8.params.toList.map λt=>match Tryz.pinned.checked.prog.underlying t with | some (.int k)=>some k | _=>none))=true:=DK
theorem Zvr:(Rows.plannerAgainRow.veiled == (f8.params.toList++Rows.plannerAgainSpec.plain.varTypes Tryz.pinned.checked.prog++f8.resultTypes.toList).any (Tryz.pinned.checked.prog.veiledRec ·))=true:=DK
theorem Zvs:Rows.plannerAgainRow.veiledFits Tryz.pinned.checked.prog f8.params.toList (f8.params.toList++Rows.plannerAgainSpec.plain.varTypes Tryz.pinned.checked.prog++f8.resultTypes.toList)=true:=DK
theorem ZjN:Tryz.pinned.checked.prog.funcNamed Rows.plannerAgainRow.func=some 8:=DK
theorem Zvt:f8.isInstance Tryz.pinned.checked.prog Rows.plannerAgainRow.origin Rows.plannerAgainRow.targs:=of_decide_eq_true DK
theorem Zvu:f8.isWrapper Tryz.pinned.checked.prog Rows.plannerAgainRow.wrapper Rows.plannerAgainRow.mainSum:=by unfold Func.isWrapper;first | (rw[if_pos (by decide +kernel)];kernel_rfl) | (rw[if_neg (by decide +kernel)];exact⟨rfl,rfl⟩)
theorem Zvv:Rows.PlannerAgainSaid :=
 OpenClaim.holds_of_wide 8 f8 rfl rfl rfl rfl rfl rfl rfl ⟨rfl,rfl,rfl,rfl,rfl⟩ rfl rfl rfl rfl rfl ZjN func8 (Zlb Zu7 Zlc Zld Zu8 Zu9 rfl Zle rfl Zlf Zva Zvb Zvc Zvd Zve Zvf Zvg Zvh Zvi Zvj Zvk Zvl Zvm Zvn rfl Zlg Zlh Zvo Zvp Zvq rfl Zvr Zvs)
  Zvt Zvu
  (λos started H enc _=>Zu6 os started H enc)
end Go.Proofs.YtcocagkbfpgmiaaGreatDoor
