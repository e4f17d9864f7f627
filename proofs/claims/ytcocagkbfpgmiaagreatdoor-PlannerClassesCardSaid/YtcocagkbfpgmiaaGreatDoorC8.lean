/- Part of a proof, packed. -/
import Derived.Test.YtcocagkbfpgmiaaGreatDoorC7
open Go.Proofs.Tryz
set_option maxRecDepth 100000
set_option maxHeartbeats 3200000
namespace Go.Proofs.YtcocagkbfpgmiaaGreatDoor
open Go Go.ChangeShapes Go.WideShapes Go.ChangeAt Go.RowKit Pv
theorem ZsP(os:Os)(started:os.Started)(H:Type)(enc:TypeId × Value->H):
  ReturnsInHanded {} checked os 5 .any (λw args=>(Rows.plannerClassesSpec.pre enc prog f5 [] false w args/\laidMetH prog Rows.plannerClassesRow.laid w)/\sizedMet enc prog f5 (OpenSpec.ofChange Rows.plannerClassesSpec) false w args) (Rows.plannerClassesSpec.post enc prog f5 false true false false):=by
 refine returnsInHanded_of_change_and (C:=checked) (X:=λw _=>laidMetH prog Rows.plannerClassesRow.laid w) (λ_ _ _ hh h=>h.of_heap hh) Zjx started DE func5
  (ChangeSpec.witness_shaped (enc:=enc) (C:=checked) (os:=os) (X:=λw _=>laidMetH prog Rows.plannerClassesRow.laid w) false (World.laidAll prog os Rows.plannerClassesRow.laid) #[.string ⟨#[]⟩,.slice none 0 0] 8 (World.laidAll_os _ _ _)
   (World.shaped_of_ZipB DE DE) DE DE DE
   (by rw[MakeChecks.laidMetH_plain _ _ _ (by kernel_rfl)];exact laidMet_laidAll _ (by kernel_rfl) (by kernel_rfl))) ?_
 intro W base args ds gs before hval0 hW _ _ _ _;have hval:∀(j:Nat) t v,f5.params[j]?=some t->args[j]?=some v->Value.okWide prog W .any base t v:=hval0;have hW':=hW;obtain⟨p,q,hA0,hV,rfl,hfz,hnd⟩:=hW;have hA:DataW.TrodAll enc prog W 0 (λ_=>true) true f5.params.toList args.toList ds p:=hA0;rw[params5]at hA hval;obtain⟨v0,v1,d0,d1,p0,p1,rfl,rfl,rfl,h0,h1⟩:=trodAll_two hA;obtain⟨rfl,rfl⟩:=trodVars_none hV;obtain⟨z0,rfl⟩:=okWide_string underlying9 (hval 0 _ v0 rfl rfl);obtain⟨a0,k0,r0⟩:=ZdR ((Zo0 underlying9:QB prog W 9 ByteArray (λ_=>True))) rfl h0;have r0:=r0 _ rfl;obtain⟨b1,n1,m1,rfl⟩:=okWide_slice underlying26 (hval 1 _ v1 rfl rfl);obtain⟨a1,k1,r1⟩:=ZdR (Zj6 W) rfl h1;have r1:=r1 _ rfl;refine(Zjz ((ZsO a0 a1)) rfl (λi c v hc hv=>?_)).mono λe W' hq=>?_
 ·match i with
  | 0=>cases hc;cases hv;exact r0
  | 1=>cases hc;cases hv;exact r1
  | i+2=>cases hc
 exact⟨_,hq.1,ZjA rfl rfl (of_decide_eq_true DE) hW' rfl rfl rfl hq.2⟩
theorem ZsQ:Rows.plannerClassesRow.wf (OpenSpec.ofChange Rows.plannerClassesSpec)=true:=DE
theorem ZsR:f5.params.all (Tryz.pinned.checked.prog.readableRec ·)=true:=DE
theorem ZsS:namedTie Tryz.pinned.checked.prog Rows.plannerClassesRow.named Rows.plannerClassesSpec.vars=true:=DE
theorem ZsT:(Rows.plannerClassesRow.inPlace == Tryz.pinned.checked.prog.inPlace 5)=true:=DE
theorem ZsU:(Rows.plannerClassesRow.unfollowed == Tryz.pinned.checked.prog.unfollowed 5)=true:=DE
theorem ZsV:(Rows.plannerClassesRow.recurses == Tryz.pinned.checked.prog.recurses 5)=true:=DE
theorem ZsW:(Rows.plannerClassesRow.named == Tryz.pinned.checked.prog.varsNamed 5)=true:=DE
theorem ZsX:(Rows.plannerClassesRow.maps == (f5.params.toList++Rows.plannerClassesSpec.plain.varTypes Tryz.pinned.checked.prog).any (Tryz.pinned.checked.prog.mapsRec ·))=true:=DE
theorem ZsY:(Rows.plannerClassesRow.ifaces == (f5.params.toList++Rows.plannerClassesSpec.plain.varTypes Tryz.pinned.checked.prog).any (Tryz.pinned.checked.prog.ifacesRec ·))=true:=DE
theorem ZsZ:(Rows.plannerClassesRow.mapsOut == Tryz.pinned.checked.prog.mapsAmong f5.resultTypes.toList)=true:=DE
theorem Zs0:(Rows.plannerClassesRow.loops == (f5.params.toList++Rows.plannerClassesSpec.plain.varTypes Tryz.pinned.checked.prog).any (Tryz.pinned.checked.prog.loopsFrom ·))=true:=DE
theorem Zs1:(Rows.plannerClassesRow.wideKeys == (f5.params.toList++Rows.plannerClassesSpec.plain.varTypes Tryz.pinned.checked.prog++f5.resultTypes.toList).any (Tryz.pinned.checked.prog.wideKeysFrom ·))=true:=DE
theorem Zs2:Rows.plannerClassesSpec.vars.all (Tryz.pinned.checked.prog.varReadable ·)=true:=DE
theorem Zs3:f5.resultTypes.all (λt=>Tryz.pinned.checked.prog.readableRec t && decide (t<Tryz.pinned.checked.prog.types.size))=true:=DE
theorem Zs4:(Rows.plannerClassesRow.ifacesOut == f5.resultTypes.toList.any (Tryz.pinned.checked.prog.ifacesRec ·))=true:=DE
theorem Zs5:(Rows.plannerClassesRow.loopsOut == f5.resultTypes.toList.any (Tryz.pinned.checked.prog.loopsFrom ·))=true:=DE
theorem Zs6:(Rows.plannerClassesRow.plainKeys == Tryz.pinned.checked.prog.plainKeys)=true:=DE
theorem Zs7:(Rows.plannerClassesRow.lifted == Tryz.pinned.checked.prog.liftsFinal)=true:=DE
theorem Zs8:(Tryz.pinned.checked.prog.make == some Rows.plannerClassesRow.make)=true:=DE
theorem Zs9:(Rows.plannerClassesRow.kinds == (if Rows.plannerClassesRow.domain.isEmpty then [] else f5.params.toList.map λt=>match Tryz.pinned.checked.prog.underlying t with | some (.int k)=>some k | _=>none))=true:=DE
theorem Zta:(Rows.plannerClassesRow.veiled == (f5.params.toList++Rows.plannerClassesSpec.plain.varTypes Tryz.pinned.checked.prog++f5.resultTypes.toList).any (Tryz.pinned.checked.prog.veiledRec ·))=true:=DE
theorem Ztb:Rows.plannerClassesRow.veiledFits Tryz.pinned.checked.prog f5.params.toList (f5.params.toList++Rows.plannerClassesSpec.plain.varTypes Tryz.pinned.checked.prog++f5.resultTypes.toList)=true:=DE
theorem Zib:Tryz.pinned.checked.prog.funcNamed Rows.plannerClassesRow.func=some 5:=DE
theorem Ztc:f5.isInstance Tryz.pinned.checked.prog Rows.plannerClassesRow.origin Rows.plannerClassesRow.targs:=of_decide_eq_true DE
theorem Ztd:f5.isWrapper Tryz.pinned.checked.prog Rows.plannerClassesRow.wrapper Rows.plannerClassesRow.mainSum:=by unfold Func.isWrapper;first | (rw[if_pos (by decide +kernel)];kernel_rfl) | (rw[if_neg (by decide +kernel)];exact⟨rfl,rfl⟩)
theorem Zte:Rows.PlannerClassesSaid :=
 OpenClaim.holds_of_wide 5 f5 rfl rfl rfl rfl rfl rfl rfl ⟨rfl,rfl,rfl,rfl,rfl⟩ rfl rfl rfl rfl rfl Zib func5 (ZjB ZsQ ZjC ZjD ZsR ZsS rfl ZjE rfl ZjF ZsT ZsU ZsV ZsW ZsX ZsY ZsZ Zs0 Zs1 Zs2 Zs3 Zs4 Zs5 Zs6 rfl ZjG ZjH Zs7 Zs8 Zs9 rfl Zta Ztb)
  Ztc Ztd
  (λos started H enc _=>ZsP os started H enc)
end Go.Proofs.YtcocagkbfpgmiaaGreatDoor
