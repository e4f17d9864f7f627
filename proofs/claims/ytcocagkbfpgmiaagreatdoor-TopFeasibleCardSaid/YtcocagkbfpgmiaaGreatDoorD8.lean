/- Part of a proof, packed. -/
import Derived.Test.YtcocagkbfpgmiaaGreatDoorD7
open Go.Proofs.Tryz
set_option maxRecDepth 100000
set_option maxHeartbeats 3200000
namespace Go.Proofs.YtcocagkbfpgmiaaGreatDoor
open Go Go.ChangeShapes Go.WideShapes Go.ChangeAt Go.RowKit Pv
theorem Zve(os:Os)(started:os.Started)(H:Type)(enc:TypeId × Value->H):
  ReturnsInHanded {} checked os 3 .any (λw args=>(Rows.topFeasibleSpec.pre enc prog f3 [] false w args/\laidMetH prog Rows.topFeasibleRow.laid w)/\sizedMet enc prog f3 (OpenSpec.ofChange Rows.topFeasibleSpec) false w args) (Rows.topFeasibleSpec.post enc prog f3 false true false false):=by
 refine returnsInHanded_of_change_and (C:=checked) (X:=λw _=>laidMetH prog Rows.topFeasibleRow.laid w) (λ_ _ _ hh h=>h.of_heap hh) Zk8 started DU func3
  (ChangeSpec.witness_shaped (enc:=enc) (C:=checked) (os:=os) (X:=λw _=>laidMetH prog Rows.topFeasibleRow.laid w) false (World.laidAll prog os Rows.topFeasibleRow.laid) #[.agg #[.int .i64 0,.int .i64 0,.int .i64 0,.int .i64 0,.slice none 0 0,.slice none 0 0],.slice none 0 0] 8 (World.laidAll_os _ _ _)
   (World.shaped_of_ZipB DU DU) DU DU DU
   (by rw[MakeChecks.laidMetH_plain _ _ _ (by kernel_rfl)];exact laidMet_laidAll _ (by kernel_rfl) (by kernel_rfl))) ?_
 intro W base args ds gs before hval0 hW _ _ _ _;have hval:∀(j:Nat) t v,f3.params[j]?=some t->args[j]?=some v->Value.okWide prog W .any base t v:=hval0;have hW':=hW;obtain⟨p,q,hA0,hV,rfl,hfz,hnd⟩:=hW;have hA:DataW.TrodAll enc prog W 0 (λ_=>true) true f3.params.toList args.toList ds p:=hA0;rw[params3]at hA hval;obtain⟨v0,v1,d0,d1,p0,p1,rfl,rfl,rfl,h0,h1⟩:=trodAll_two hA;obtain⟨rfl,rfl⟩:=trodVars_none hV;obtain⟨c0,rfl,_⟩:=okWide_struct underlying25 (hval 0 _ v0 rfl rfl);obtain⟨a0,k0,r0⟩:=Zk6 (ZlL W) h0;obtain⟨b1,n1,m1,rfl⟩:=okWide_slice underlying26 (hval 1 _ v1 rfl rfl);obtain⟨a1,k1,r1⟩:=Zk7 (ZlM W) rfl h1;have r1:=r1 _ rfl;refine(Zla ((Zvd a0 a1 k0)) rfl (λi c v hc hv=>?_)).mono λe W' hq=>?_
 ·match i with
  | 0=>cases hc;cases hv;exact r0
  | 1=>cases hc;cases hv;exact r1
  | i+2=>cases hc
 exact⟨_,hq.1,Zlb rfl rfl (of_decide_eq_true DU) hW' rfl rfl rfl hq.2⟩
theorem Zvf:Rows.topFeasibleRow.wf (OpenSpec.ofChange Rows.topFeasibleSpec)=true:=DU
theorem Zvg:f3.params.all (Tryz.pinned.checked.prog.readableRec ·)=true:=DU
theorem Zvh:namedTie Tryz.pinned.checked.prog Rows.topFeasibleRow.named Rows.topFeasibleSpec.vars=true:=DU
theorem Zvi:(Rows.topFeasibleRow.inPlace == Tryz.pinned.checked.prog.inPlace 3)=true:=DU
theorem Zvj:(Rows.topFeasibleRow.unfollowed == Tryz.pinned.checked.prog.unfollowed 3)=true:=DU
theorem Zvk:(Rows.topFeasibleRow.recurses == Tryz.pinned.checked.prog.recurses 3)=true:=DU
theorem Zvl:(Rows.topFeasibleRow.named == Tryz.pinned.checked.prog.varsNamed 3)=true:=DU
theorem Zvm:(Rows.topFeasibleRow.maps == (f3.params.toList++Rows.topFeasibleSpec.plain.varTypes Tryz.pinned.checked.prog).any (Tryz.pinned.checked.prog.mapsRec ·))=true:=DU
theorem Zvn:(Rows.topFeasibleRow.ifaces == (f3.params.toList++Rows.topFeasibleSpec.plain.varTypes Tryz.pinned.checked.prog).any (Tryz.pinned.checked.prog.ifacesRec ·))=true:=DU
theorem Zvo:(Rows.topFeasibleRow.mapsOut == Tryz.pinned.checked.prog.mapsAmong f3.resultTypes.toList)=true:=DU
theorem Zvp:(Rows.topFeasibleRow.loops == (f3.params.toList++Rows.topFeasibleSpec.plain.varTypes Tryz.pinned.checked.prog).any (Tryz.pinned.checked.prog.loopsFrom ·))=true:=DU
theorem Zvq:(Rows.topFeasibleRow.wideKeys == (f3.params.toList++Rows.topFeasibleSpec.plain.varTypes Tryz.pinned.checked.prog++f3.resultTypes.toList).any (Tryz.pinned.checked.prog.wideKeysFrom ·))=true:=DU
theorem Zvr:Rows.topFeasibleSpec.vars.all (Tryz.pinned.checked.prog.varReadable ·)=true:=DU
theorem Zvs:f3.resultTypes.all (λt=>Tryz.pinned.checked.prog.readableRec t && decide (t<Tryz.pinned.checked.prog.types.size))=true:=DU
theorem Zvt:(Rows.topFeasibleRow.ifacesOut == f3.resultTypes.toList.any (Tryz.pinned.checked.prog.ifacesRec ·))=true:=DU
theorem Zvu:(Rows.topFeasibleRow.loopsOut == f3.resultTypes.toList.any (Tryz.pinned.checked.prog.loopsFrom ·))=true:=DU
theorem Zvv:(Rows.topFeasibleRow.plainKeys == Tryz.pinned.checked.prog.plainKeys)=true:=DU
theorem Zvw:(Rows.topFeasibleRow.lifted == Tryz.pinned.checked.prog.liftsFinal)=true:=DU
theorem Zvx:(Tryz.pinned.checked.prog.make == some Rows.topFeasibleRow.make)=true:=DU
theorem Zvy:(Rows.topFeasibleRow.kinds == (if Rows.topFeasibleRow.domain.isEmpty then [] else f3.params.toList.map λt=>match Tryz.pinned.checked.prog.underlying t with | some (.int k)=>some k | _=>none))=true:=DU
theorem Zvz:(Rows.topFeasibleRow.veiled == (f3.params.toList++Rows.topFeasibleSpec.plain.varTypes Tryz.pinned.checked.prog++f3.resultTypes.toList).any (Tryz.pinned.checked.prog.veiledRec ·))=true:=DU
theorem ZvA:Rows.topFeasibleRow.veiledFits Tryz.pinned.checked.prog f3.params.toList (f3.params.toList++Rows.topFeasibleSpec.plain.varTypes Tryz.pinned.checked.prog++f3.resultTypes.toList)=true:=DU
theorem ZjM:Tryz.pinned.checked.prog.funcNamed Rows.topFeasibleRow.func=some 3:=DU
theorem ZvB:f3.isInstance Tryz.pinned.checked.prog Rows.topFeasibleRow.origin Rows.topFeasibleRow.targs:=of_decide_eq_true DU
theorem ZvC:f3.isWrapper Tryz.pinned.checked.prog Rows.topFeasibleRow.wrapper Rows.topFeasibleRow.mainSum:=by unfold Func.isWrapper;first | (rw[if_pos (by decide +kernel)];kernel_rfl) | (rw[if_neg (by decide +kernel)];exact⟨rfl,rfl⟩)
theorem ZvD:Rows.TopFeasibleSaid :=
 OpenClaim.holds_of_wide 3 f3 rfl rfl rfl rfl rfl rfl rfl ⟨rfl,rfl,rfl,rfl,rfl⟩ rfl rfl rfl rfl rfl ZjM func3 (Zlc Zvf Zld Zle Zvg Zvh rfl Zlf rfl Zlg Zvi Zvj Zvk Zvl Zvm Zvn Zvo Zvp Zvq Zvr Zvs Zvt Zvu Zvv rfl Zlh Zli Zvw Zvx Zvy rfl Zvz ZvA)
  ZvB ZvC
  (λos started H enc _=>Zve os started H enc)
end Go.Proofs.YtcocagkbfpgmiaaGreatDoor
