/- Part of a proof, packed. -/
import Derived.Test.YtcocagkbfpgmiaaGreatDoorY7
open Go.Proofs.Tryz (prog)
set_option maxRecDepth 100000
set_option maxHeartbeats 3200000
namespace Go.Proofs.YtcocagkbfpgmiaaGreatDoor
open Go Go.ChangeShapes Go.WideShapes Go.ChangeAt Go.RowKit Pv
theorem Zui(os:Os)(started:os.Started)(H:Type)(enc:TypeId × Value->H):
  ReturnsInHanded {} Tryz.checked os 9 .any (λw args=>(Rows.plannerBoundsSpec.pre enc prog Tryz.f9 [] false w args/\laidMetH prog Rows.plannerBoundsRow.laid w)/\sizedMet enc prog Tryz.f9 (OpenSpec.ofChange Rows.plannerBoundsSpec) false w args) (Rows.plannerBoundsSpec.post enc prog Tryz.f9 false true false false):=by
 refine returnsInHanded_of_change_and (C:=Tryz.checked) (X:=λw _=>laidMetH prog Rows.plannerBoundsRow.laid w) (λ_ _ _ hh h=>h.of_heap hh) Zkv started (by kernel_rfl) Tryz.func9
  (ChangeSpec.witness_shaped (enc:=enc) (C:=Tryz.checked) (os:=os) (X:=λw _=>laidMetH prog Rows.plannerBoundsRow.laid w) false (World.laidAll prog os Rows.plannerBoundsRow.laid) #[.agg #[.int .i64 0,.int .i64 0,.int .i64 0,.int .i64 0,.slice none 0 0,.slice none 0 0],.slice none 0 0,.slice none 0 0] 8 (World.laidAll_os _ _ _)
   (World.shaped_of_ZipB (by kernel_rfl) (by kernel_rfl)) (by kernel_rfl) (by kernel_rfl) (by kernel_rfl)
   (by rw[MakeChecks.laidMetH_plain _ _ _ (by kernel_rfl)];exact laidMet_laidAll _ (by kernel_rfl) (by kernel_rfl))) ?_
 intro W base args ds gs before hval0 hW _ _ _ _;have hval:∀(j:Nat) t v,Tryz.f9.params[j]?=some t->args[j]?=some v->Value.okWide prog W .any base t v:=hval0;have hW':=hW;obtain⟨p,q,hA0,hV,rfl,hfz,hnd⟩:=hW;have hA:DataW.TrodAll enc prog W 0 (λ_=>true) true Tryz.f9.params.toList args.toList ds p:=hA0;rw[Tryz.params9]at hA hval;obtain⟨v0,v1,v2,d0,d1,d2,p0,p1,p2,rfl,rfl,rfl,h0,h1,h2⟩:=trodAll_three hA;obtain⟨rfl,rfl⟩:=trodVars_none hV;obtain⟨c0,rfl,_⟩:=okWide_struct Tryz.underlying25 (hval 0 _ v0 rfl rfl);obtain⟨a0,k0,r0⟩:=Zku (Zla W) h0;obtain⟨b1,n1,m1,rfl⟩:=okWide_slice Tryz.underlying26 (hval 1 _ v1 rfl rfl);obtain⟨a1,k1,r1⟩:=Zep (ZeH W) rfl h1;have r1:=r1 _ rfl;obtain⟨b2,n2,m2,rfl⟩:=okWide_slice Tryz.underlying26 (hval 2 _ v2 rfl rfl);obtain⟨a2,k2,r2⟩:=Zep (ZeH W) rfl h2;have r2:=r2 _ rfl;refine(Zkx ((Zuh a0 a1 a2 k0)) rfl (λi c v hc hv=>?_)).mono λe W' hq=>?_
 ·match i with
  | 0=>cases hc;cases hv;exact r0
  | 1=>cases hc;cases hv;exact r1
  | 2=>cases hc;cases hv;exact r2
  | i+3=>cases hc
 exact⟨_,hq.1,Zky rfl rfl (of_decide_eq_true (by kernel_rfl)) hW' rfl rfl rfl hq.2⟩
theorem Zuj:Rows.plannerBoundsRow.wf (OpenSpec.ofChange Rows.plannerBoundsSpec)=true:=by kernel_rfl
theorem Zuk:Tryz.f9.params.all (Tryz.pinned.checked.prog.readableRec ·)=true:=by kernel_rfl
theorem Zul:namedTie Tryz.pinned.checked.prog Rows.plannerBoundsRow.named Rows.plannerBoundsSpec.vars=true:=by kernel_rfl
theorem Zum:(Rows.plannerBoundsRow.inPlace == Tryz.pinned.checked.prog.inPlace 9)=true:=by kernel_rfl
theorem Zun:(Rows.plannerBoundsRow.unfollowed == Tryz.pinned.checked.prog.unfollowed 9)=true:=by kernel_rfl
theorem Zuo:(Rows.plannerBoundsRow.recurses == Tryz.pinned.checked.prog.recurses 9)=true:=by kernel_rfl
theorem Zup:(Rows.plannerBoundsRow.named == Tryz.pinned.checked.prog.varsNamed 9)=true:=by kernel_rfl
theorem Zuq:(Rows.plannerBoundsRow.maps == (Tryz.f9.params.toList++Rows.plannerBoundsSpec.plain.varTypes Tryz.pinned.checked.prog).any (Tryz.pinned.checked.prog.mapsRec ·))=true:=by kernel_rfl
theorem Zur:(Rows.plannerBoundsRow.ifaces == (Tryz.f9.params.toList++Rows.plannerBoundsSpec.plain.varTypes Tryz.pinned.checked.prog).any (Tryz.pinned.checked.prog.ifacesRec ·))=true:=by kernel_rfl
theorem Zus:(Rows.plannerBoundsRow.mapsOut == Tryz.pinned.checked.prog.mapsAmong Tryz.f9.resultTypes.toList)=true:=by kernel_rfl
theorem Zut:(Rows.plannerBoundsRow.loops == (Tryz.f9.params.toList++Rows.plannerBoundsSpec.plain.varTypes Tryz.pinned.checked.prog).any (Tryz.pinned.checked.prog.loopsFrom ·))=true:=by kernel_rfl
theorem Zuu:(Rows.plannerBoundsRow.wideKeys == (Tryz.f9.params.toList++Rows.plannerBoundsSpec.plain.varTypes Tryz.pinned.checked.prog++Tryz.f9.resultTypes.toList).any (Tryz.pinned.checked.prog.wideKeysFrom ·))=true:=by kernel_rfl
theorem Zuv:Rows.plannerBoundsSpec.vars.all (Tryz.pinned.checked.prog.varReadable ·)=true:=by kernel_rfl
theorem Zuw:Tryz.f9.resultTypes.all (λt=>Tryz.pinned.checked.prog.readableRec t && decide (t<Tryz.pinned.checked.prog.types.size))=true:=by kernel_rfl
theorem Zux:(Rows.plannerBoundsRow.ifacesOut == Tryz.f9.resultTypes.toList.any (Tryz.pinned.checked.prog.ifacesRec ·))=true:=by kernel_rfl
theorem Zuy:(Rows.plannerBoundsRow.loopsOut == Tryz.f9.resultTypes.toList.any (Tryz.pinned.checked.prog.loopsFrom ·))=true:=by kernel_rfl
theorem Zuz:(Rows.plannerBoundsRow.plainKeys == Tryz.pinned.checked.prog.plainKeys)=true:=by kernel_rfl
theorem ZuA:(Rows.plannerBoundsRow.lifted == Tryz.pinned.checked.prog.liftsFinal)=true:=by kernel_rfl
theorem ZuB:(Tryz.pinned.checked.prog.make == some Rows.plannerBoundsRow.make)=true:=by kernel_rfl
theorem ZuC:(Rows.plannerBoundsRow.kinds == (if Rows.plannerBoundsRow.domain.isEmpty then [] else Tryz.f9.params.toList.map λt=>match Tryz.pinned.checked.prog.underlying t with | some (.int k)=>some k | _=>none))=true:=by kernel_rfl
theorem ZuD:(Rows.plannerBoundsRow.veiled == (Tryz.f9.params.toList++Rows.plannerBoundsSpec.plain.varTypes Tryz.pinned.checked.prog++Tryz.f9.resultTypes.toList).any (Tryz.pinned.checked.prog.veiledRec ·))=true:=by kernel_rfl
theorem ZuE:Rows.plannerBoundsRow.veiledFits Tryz.pinned.checked.prog Tryz.f9.params.toList (Tryz.f9.params.toList++Rows.plannerBoundsSpec.plain.varTypes Tryz.pinned.checked.prog++Tryz.f9.resultTypes.toList)=true:=by kernel_rfl
theorem Zjd:Tryz.pinned.checked.prog.funcNamed Rows.plannerBoundsRow.func=some 9:=by kernel_rfl
theorem ZuF:Tryz.f9.isInstance Tryz.pinned.checked.prog Rows.plannerBoundsRow.origin Rows.plannerBoundsRow.targs:=of_decide_eq_true (by kernel_rfl)
theorem ZuG:Tryz.f9.isWrapper Tryz.pinned.checked.prog Rows.plannerBoundsRow.wrapper Rows.plannerBoundsRow.mainSum:=by unfold Func.isWrapper;first | (rw[if_pos (by decide +kernel)];kernel_rfl) | (rw[if_neg (by decide +kernel)];exact⟨rfl,rfl⟩)
theorem ZuH:Rows.PlannerBoundsSaid :=
 OpenClaim.holds_of_wide 9 Tryz.f9 rfl rfl rfl rfl rfl rfl rfl ⟨rfl,rfl,rfl,rfl,rfl⟩ rfl rfl rfl rfl rfl Zjd Tryz.func9 (Zkz Zuj ZkA ZkB Zuk Zul rfl ZkC rfl ZkD Zum Zun Zuo Zup Zuq Zur Zus Zut Zuu Zuv Zuw Zux Zuy Zuz rfl ZkE ZkF ZuA ZuB ZuC rfl ZuD ZuE)
  ZuF ZuG
  (λos started H enc _=>Zui os started H enc)
end Go.Proofs.YtcocagkbfpgmiaaGreatDoor
