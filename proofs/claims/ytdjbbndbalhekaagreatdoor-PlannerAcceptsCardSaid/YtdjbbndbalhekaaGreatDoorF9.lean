/- Part of a proof, packed. -/
import Derived.Test.YtdjbbndbalhekaaGreatDoorF8
open Go.Proofs.Tryz
set_option linter.defProp false
set_option maxRecDepth 100000
set_option maxHeartbeats 3200000
namespace Go.Proofs.YtdjbbndbalhekaaGreatDoor
open Go Go.ChangeShapes Go.WideShapes Go.ChangeAt Go.RowKit Pv
def Zy9{H:Type}{enc:TypeId × Value->H}{P:Program}{w:World}{base:Nat}{a:Nat->Bool}{b:Bool}{t0 q r t3 t4 t5:TypeId}{args:Array Value}{ds:List (DataW H)}{ps:List MemPlace}(h:DataW.TrodAll enc P w base a b [t0,q,r,t3,t4,t5] args.toList ds ps):
  ∃v0 v1 c v3 v4 v5 d e f g i j k l m n o p5,args=#[v0,v1,c,v3,v4,v5]/\ds=[d,e,f,g,i,j]/\ps=k++l++m++n++o++p5/\DataW.Trod enc P w base a b t0 v0 d k/\DataW.Trod enc P w base a b q v1 e l/\DataW.Trod enc P w base a b r c f m/\DataW.Trod enc P w base a b t3 v3 g n/\DataW.Trod enc P w base a b t4 v4 i o/\DataW.Trod enc P w base a b t5 v5 j p5:=by
 obtain⟨v0,s,d,t,k,q0,p,rfl,rfl,h0,r0⟩:=trodAll_cons h;obtain⟨v1,u,e,v,l,q1,rfl,rfl,rfl,h1,r1⟩:=trodAll_cons r0;obtain⟨c,x,f,ds2,m,q2,rfl,rfl,rfl,h2,r2⟩:=trodAll_cons r1;obtain⟨v3,y,g,z,n,q3,rfl,rfl,rfl,h3,r3⟩:=trodAll_cons r2;obtain⟨v4,a0,i,a1,o,q4,rfl,rfl,rfl,h4,r4⟩:=trodAll_cons r3;obtain⟨v5,a2,j,a3,p5,q5,rfl,rfl,rfl,h5,r5⟩:=trodAll_cons r4;obtain⟨rfl,rfl,rfl⟩:=trodAll_nil r5;exact⟨v0,v1,c,v3,v4,v5,d,e,f,g,i,j,k,l,m,n,o,p5,by cases args;simp_all,rfl,by simp,h0,h1,h2,h3,h4,h5⟩
def Zza(os:Os)(b:os.Started)(H:Type)(enc:TypeId × Value->H):
  ReturnsInHanded {} checked os 4 .any (λw args=>(Rows.plannerAcceptsSpec.pre enc prog f4 [] false w args/\laidMetH prog Rows.plannerAcceptsRow.laid w)/\sizedMet enc prog f4 (OpenSpec.ofChange Rows.plannerAcceptsSpec) false w args) (Rows.plannerAcceptsSpec.post enc prog f4 false true false false):=by
 refine returnsInHanded_of_change_and (C:=checked) (X:=λw _=>laidMetH prog Rows.plannerAcceptsRow.laid w) (λ_ _ _ n h=>h.of_heap n) Ic b EC func4
  (ChangeSpec.witness_shaped (enc:=enc) (C:=checked) (os:=os) (X:=λw _=>laidMetH prog Rows.plannerAcceptsRow.laid w) false (World.laidAll prog os Rows.plannerAcceptsRow.laid) #[.agg #[.int .i64 0,.int .i64 0,.int .i64 0,.int .i64 0,.slice none 0 0,.slice none 0 0],.slice none 0 0,.int .i64 0,.int .i64 0,.string ⟨#[]⟩,.string ⟨#[]⟩] 8 (World.laidAll_os _ _ _)
   (World.shaped_of_ZipB EC EC) EC EC EC
   (by rw[MakeChecks.laidMetH_plain _ _ _ EC];exact laidMet_laidAll _ EC EC)) ?_
 intro W base args ds gs before d k _ _ _ _;have a:∀(j:Nat) t v,f4.params[j]?=some t->args[j]?=some v->Value.okWide prog W .any base t v:=d;have f:=k;obtain⟨p,q,g,o,rfl,r,s⟩:=k;have l:DataW.TrodAll enc prog W 0 (λ_=>true) true f4.params.toList args.toList ds p:=g;rw[params4]at l a;obtain⟨v0,v1,u,v3,v4,v5,d0,d1,d2,d3,d4,d5,p0,p1,p2,p3,p4,p5,rfl,rfl,rfl,h0,h1,h2,h3,x,y⟩:=Zy9 l;obtain⟨rfl,rfl⟩:=trodVars_none o;obtain⟨c0,rfl,_⟩:=okWide_struct underlying25 (a 0 _ v0 rfl rfl);obtain⟨a0,k0,r0⟩:=Ib (IP W) h0;obtain⟨b1,n1,m1,rfl⟩:=okWide_slice underlying26 (a 1 _ v1 rfl rfl);obtain⟨z,k1,r1⟩:=VW (IQ W) rfl h1;have r1:=r1 _ rfl;obtain⟨z2,rfl⟩:=okWide_int underlying3 (a 2 _ u rfl rfl);obtain⟨a2,k2,r2⟩:=VW ((uH underlying3:Zi prog W 3 Int zU)) rfl h2;have r2:=r2 _ rfl;obtain⟨z3,rfl⟩:=okWide_int underlying3 (a 3 _ v3 rfl rfl);obtain⟨a3,k3,r3⟩:=VW ((uH underlying3:Zi prog W 3 Int zU)) rfl h3;have r3:=r3 _ rfl;obtain⟨z4,rfl⟩:=okWide_string underlying9 (a 4 _ v4 rfl rfl);obtain⟨a4,k4,r4⟩:=VW ((sB underlying9:Zi prog W 9 ByteArray (λ_=>True))) rfl x;have r4:=r4 _ rfl;obtain⟨z5,rfl⟩:=okWide_string underlying9 (a 5 _ v5 rfl rfl);obtain⟨a5,k5,r5⟩:=VW ((sB underlying9:Zi prog W 9 ByteArray (λ_=>True))) rfl y;have r5:=r5 _ rfl;refine(If ((Zy8 a0 z a2 a3 a4 a5 k0)) rfl (λi c v hc hv=>?_)).mono λe W' m=>?_
 .match i with
  |0=>cases hc;cases hv;exact r0
  |1=>cases hc;cases hv;exact r1
  |2=>cases hc;cases hv;exact r2
  |3=>cases hc;cases hv;exact r3
  |4=>cases hc;cases hv;exact r4
  |5=>cases hc;cases hv;exact r5
  |i+6=>cases hc
 exact⟨_,m.1,Ig rfl rfl (of_decide_eq_true EC) f rfl rfl rfl m.2⟩
def Zzb:Rows.plannerAcceptsRow.wf (OpenSpec.ofChange Rows.plannerAcceptsSpec)=true:=EC
def Zzc:f4.params.all (Tryz.pinned.checked.prog.readableRec ·)=true:=EC
def Zzd:namedTie Tryz.pinned.checked.prog Rows.plannerAcceptsRow.named Rows.plannerAcceptsSpec.vars=true:=EC
def Zze:(Rows.plannerAcceptsRow.inPlace==Tryz.pinned.checked.prog.inPlace 4)=true:=EC
def Zzf:(Rows.plannerAcceptsRow.unfollowed==Tryz.pinned.checked.prog.unfollowed 4)=true:=EC
def Zzg:(Rows.plannerAcceptsRow.recurses==Tryz.pinned.checked.prog.recurses 4)=true:=EC
def Zzh:(Rows.plannerAcceptsRow.named==Tryz.pinned.checked.prog.varsNamed 4)=true:=EC
def Zzi:(Rows.plannerAcceptsRow.maps==(f4.params.toList++Rows.plannerAcceptsSpec.plain.varTypes Tryz.pinned.checked.prog).any (Tryz.pinned.checked.prog.mapsRec ·))=true:=EC
def Zzj:(Rows.plannerAcceptsRow.ifaces==(f4.params.toList++Rows.plannerAcceptsSpec.plain.varTypes Tryz.pinned.checked.prog).any (Tryz.pinned.checked.prog.ifacesRec ·))=true:=EC
def Zzk:(Rows.plannerAcceptsRow.mapsOut==Tryz.pinned.checked.prog.mapsAmong f4.resultTypes.toList)=true:=EC
def Zzl:(Rows.plannerAcceptsRow.loops==(f4.params.toList++Rows.plannerAcceptsSpec.plain.varTypes Tryz.pinned.checked.prog).any (Tryz.pinned.checked.prog.loopsFrom ·))=true:=EC
def Zzm:(Rows.plannerAcceptsRow.wideKeys==(f4.params.toList++Rows.plannerAcceptsSpec.plain.varTypes Tryz.pinned.checked.prog++f4.resultTypes.toList).any (Tryz.pinned.checked.prog.wideKeysFrom ·))=true:=EC
def Zzn:Rows.plannerAcceptsSpec.vars.all (Tryz.pinned.checked.prog.varReadable ·)=true:=EC
def Zzo:f4.resultTypes.all (λt=>Tryz.pinned.checked.prog.readableRec t&&decide (t<Tryz.pinned.checked.prog.types.size))=true:=EC
def Zzp:(Rows.plannerAcceptsRow.ifacesOut==f4.resultTypes.toList.any (Tryz.pinned.checked.prog.ifacesRec ·))=true:=EC
def Zzq:(Rows.plannerAcceptsRow.loopsOut==f4.resultTypes.toList.any (Tryz.pinned.checked.prog.loopsFrom ·))=true:=EC
def Zzr:(Rows.plannerAcceptsRow.plainKeys==Tryz.pinned.checked.prog.plainKeys)=true:=EC
def Zzs:(Rows.plannerAcceptsRow.lifted==Tryz.pinned.checked.prog.liftsFinal)=true:=EC
def Zzt:(Tryz.pinned.checked.prog.make==some Rows.plannerAcceptsRow.make)=true:=EC
def Zzu:(Rows.plannerAcceptsRow.kinds==(if Rows.plannerAcceptsRow.domain.isEmpty then [] else f4.params.toList.map λt=>match Tryz.pinned.checked.prog.underlying t with|some (.int k)=>some k|_=>none))=true:=EC
def Zzv:(Rows.plannerAcceptsRow.veiled==(f4.params.toList++Rows.plannerAcceptsSpec.plain.varTypes Tryz.pinned.checked.prog++f4.resultTypes.toList).any (Tryz.pinned.checked.prog.veiledRec ·))=true:=EC
def Zzw:Rows.plannerAcceptsRow.veiledFits Tryz.pinned.checked.prog f4.params.toList (f4.params.toList++Rows.plannerAcceptsSpec.plain.varTypes Tryz.pinned.checked.prog++f4.resultTypes.toList)=true:=EC
def ZmL:Tryz.pinned.checked.prog.funcNamed Rows.plannerAcceptsRow.func=some 4:=EC
def Zzx:f4.isInstance Tryz.pinned.checked.prog Rows.plannerAcceptsRow.origin Rows.plannerAcceptsRow.targs:=of_decide_eq_true EC
def Zzy:f4.isWrapper Tryz.pinned.checked.prog Rows.plannerAcceptsRow.wrapper Rows.plannerAcceptsRow.mainSum:=by unfold Func.isWrapper;first|(rw[if_pos (by decide +kernel)];kernel_rfl)|(rw[if_neg (by decide +kernel)];exact⟨rfl,rfl⟩)
def Zzz:Rows.PlannerAcceptsSaid :=
 OpenClaim.holds_of_wide 4 f4 rfl rfl rfl rfl rfl rfl rfl ⟨rfl,rfl,rfl,rfl,rfl⟩ rfl rfl rfl rfl rfl ZmL func4 (Ih Zzb Ii Ij Zzc Zzd rfl Ik rfl Il Zze Zzf Zzg Zzh Zzi Zzj Zzk Zzl Zzm Zzn Zzo Zzp Zzq Zzr rfl Im Io Zzs Zzt Zzu rfl Zzv Zzw)
  Zzx Zzy
  (λos a H enc _=>Zza os a H enc)
end Go.Proofs.YtdjbbndbalhekaaGreatDoor
