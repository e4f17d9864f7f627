/- Part of a proof, packed. -/
import Derived.Test.YtdjbbndbalhekaaGreatDoorG3
open Go.Proofs.Tryz
set_option linter.defProp false
set_option maxRecDepth 100000
set_option maxHeartbeats 3200000
namespace Go.Proofs.YtdjbbndbalhekaaGreatDoor.Pv
open Go Go.Proofs Hp
theorem iq(x:Inst):∀(ds:List zo) (st:zo × Int × Bool),(ds.foldl (uR x) st).2.2=true->ds.foldl (uR x) st=st\/(∃d∈ds,yu x d=0/\ds.foldl (uR x) st=(d,W (yf x d),true))
 |[],st,_=>.inl rfl
 |d::ds,st,h=>by rw[A6]at h ⊢;obtain e|⟨a,h1,h2,h3⟩:=iq x ds _ h;rw[e];unfold uR;split;rename_i h0;split;exact .inr ⟨d,by simp,h0,rfl⟩;exact .inl rfl;exact .inl rfl;exact .inr ⟨a,by simp[h1],h2,h3⟩
variable {x:Inst}{e:Int}
def SE{ds:List zo}(h:(uS x e ds).2=0):e=0/\(uS x e ds).1∈ds/\yu x (uS x e ds).1=0:=by
 unfold uS at h ⊢;by_cases a:e=0
 .rw[if_pos a]at h ⊢;cases b:(JG x ds).2.2 with
  |false=>rw[b]at h;cases h
  |true =>
  refine⟨a,?_⟩;obtain q|⟨d,h1,h2,h3⟩:=iq x ds ([],0,false) b;have:(JG x ds).2.2=false:=by unfold JG;rw[q]
  rw[this]at b;cases b;have:JG x ds=(d,W (yf x d),true):=h3;rw[this];exact⟨h1,h2⟩
 rw[if_neg a]at h;exact absurd h a
def rA(x:Inst):qG (yW x):=by refine Pt λrow c d e=>?_;simp only[yW,Aj]at c;obtain⟨a,_,rfl⟩:=c;unfold Zj at e;obtain⟨b,_,rfl⟩:=Aj.1 e;split;have:=wF (arc x a b) 0 60 EA;omega;omega
def SF(x:Inst):0<=(yW x).X:=(wF x.X 0 5 EA).1
structure SG (x:Inst) (l:List Stop) (d:zo):Prop where
 ab:∀t∈d,zX x t=0
 perm:d.flatten.Perm l
def rB(x:Inst)(t:zM):Prop:=(∀s∈t,qn x s=true)/\(t.map (·.c)).Nodup/\t.length<=1000
variable {t:zM}
def dx(h:zX x t=0):(∀s∈t,qn x s=true)/\t≠[]:=by simp_all[QZ,jF]
theorem ir:∀t:zM,(∀s∈t,qn x s=true)->0<=yc t/\yc t<=2147483648*(t.length:Int)
 |[],_=>by simp[yc]
 |s::t,h=>by have h1:=ir t λs hs=>h s (by simp[hs]);have h2:=h s EB;grind[qn,yc]
def aq(hx:qG x)(h:rB x t)(hn:t≠[]):zX x t=0<->yc t<=x.Q/\yJ x (t.map (·.c))<=x.len:=by obtain⟨h1,h2,h3⟩:=h;have b1:=ir t h1;have b2:=WQ hx (t.map (·.c));grind[wr,QZ,jF]
variable {d:zo}
theorem SG.each{l:List Stop}(g:SG x l d):∀s∈l,qn x s=true:=by intro s hs;obtain⟨t,b,a⟩:=Bd.1 (g.perm.symm.subset hs);exact(dx (g.ab t b)).1 s a
section
variable {x:Inst} {l:List Stop} (h:SOk x l)
include h
theorem SG.len(g:SG x l d):d.flatten.length<=1000/\d.length<=1000:=by have h1:=cX d λt a=>(dx (g.ab t a)).2;have h2:=g.perm.length_eq;have h3:=h.len;omega
theorem SG.tour(g:SG x l d){e:zo}(a:e.flatten.Perm l)(b:t∈e):rB x t:=by have hs:=QY b;have hl:=h.len;refine⟨λs q=>g.each s (a.subset (hs.subset q)),?_,?_⟩;exact((a.map _).nodup_iff.2 h.nd).sublist (hs.map _);have:=hs.length_le;have:=a.length_eq;omega
theorem SG.mv(g:SG x l d):MvDay d:=by refine⟨(g.len h).2,λt a=>(g.tour h g.perm a).2.2,λt a s hs=>?_⟩;have:=(g.tour h g.perm a).1 s hs;have hc:=h.y;grind[qn,qA]
theorem SG.ok(g:SG x l d):DayOk d:=by have h1:=g.len h;have h2:=g.mv h;exact⟨by omega,λt a=>AF (h2.t t a) EH,λt a s hs=>(h2.s t a s hs).1⟩
end
def rC{r:Rw5}(a:ZN d r)(h0:arc x 0 0=0):ux x d r<->yc (qI d r)<=x.Q/\yJ x ((qI d r).map (·.c))<=x.len:=by simp_all[ux,ig,Sp]
def SH{m:Mv}(h:vg d m=true)(c:m.a=m.b):qI d (yA d m).2=[]:=by have e:qI d wH=[]:=rfl;grind[vg,uU,yA,wI]
def SI{m:Mv}(h:vg d m=true)(hn:qI d (yA d m).1≠[]):qI d (yA d m).1∈uW d m:=by obtain⟨-,b,-⟩:=XN h;refine Cv.2 ⟨m.a,AN.2 b,?_⟩;grind[vk,xP]
def SJ{m:Mv}(h:vg d m=true)(c:m.a≠m.b)(hn:qI d (yA d m).2≠[]):qI d (yA d m).2∈uW d m:=by obtain⟨-,-,hb,-⟩:=XN h;refine Cv.2 ⟨m.b,AN.2 hb,?_⟩;grind[vk,xP]
def SK{l:List Stop}(h:SOk x l)(h0:arc x 0 0=0)(g:SG x l d){m:Mv}(hm:vg d m=true):(ux x d (yA d m).1/\ux x d (yA d m).2)<->∀t∈uW d m,zX x t=0:=by
 obtain⟨-,n,hb,r1,r2⟩:=XN hm;have j:(uW d m).flatten.Perm l:=(rz hm).trans g.perm;rw[rC r1 h0,rC r2 h0];have q:0<=x.Q/\0<=x.len:=by have e:=g.ab _ (AZ n);have i:=g.tour h g.perm (AZ n);have:=(aq h.aj i (dx e).2).1 e;have b1:=ir _ i.1;have b2:=WQ h.aj (d[m.a].map (·.c));omega
 have r:yc []=0/\yJ x (([]:zM).map (·.c))=0:=⟨rfl,rfl⟩;constructor;rintro⟨o,p⟩ t e;obtain⟨hn,h3⟩:=SB e;have i:=g.tour h j e;obtain rfl|rfl|h3:=h3;exact(aq h.aj i hn).2 o;exact(aq h.aj i hn).2 p;exact g.ab t h3;intro f;constructor;by_cases hn:qI d (yA d m).1=[];simp_all;have e:=SI hm hn;exact(aq h.aj (g.tour h j e) hn).1 (f _ e);by_cases hn:qI d (yA d m).2=[];simp_all;by_cases k:m.a=m.b;simp_all[SH];have e:=SJ hm k hn;exact(aq h.aj (g.tour h j e) hn).1 (f _ e)
theorem rD(x:Inst)(d:zo):∀(ms:List Mv) (st:Mv × Int),(ms.foldl (JQ x d) st=st)\/(∃m∈ms,(ms.foldl (JQ x d) st)=(m,JP x d m)/\ux x d (yA d m).1/\ux x d (yA d m).2)
 |[],st=>.inl rfl
 |m::ms,st=>by rw[A6];obtain e|⟨a,h1,h2,h3⟩:=rD x d ms (JQ x d st m);rw[e];unfold JQ;split;rename_i hc;exact .inr ⟨m,by simp,rfl,hc.2⟩;exact .inl rfl;grind
def Zs(x:Inst)(d:zo):Option zo:=if (uV x d).2<0 then some (uW d (uV x d).1) else none
def rE(hb:(uV x d).2<0):(uV x d).1∈Q7 d/\JP x d (uV x d).1<0/\ux x d (yA d (uV x d).1).1/\ux x d (yA d (uV x d).1).2:=by grind[rD,uV]
def rF{l:List Stop}(h:SOk x l)(h0:arc x 0 0=0){e:zo}(g:SG x l d)(hs:Zs x d=some e):SG x l e/\yf x e<yf x d/\e.length<=d.length:=by unfold Zs at hs;split at hs;rename_i hb;cases hs;obtain⟨h1,h2,h3⟩:=rE hb;have hm:=(ij h1).1;refine⟨⟨(SK h h0 g hm).1 h3,(rz hm).trans g.perm⟩,?_,SC _ _⟩;grind[SD];cases hs
def rG{l:List Stop}(h:SOk x l)(h0:arc x 0 0=0):pN x (Zs x) (SG x l):=by
 intro d g;have hv:=g.mv h;have hl:∀a,jo d a<=1000:=by
  intro a;unfold jo;rw[List.getD_eq_getElem?_getD];cases i:d[a]? with
  |none=>simp
  |some l=>exact hv.t l (Aa i)
 have f:(Zs x d).isSome=decide ((uV x d).2<0):=by unfold Zs;split;simp_all;simp_all
 refine⟨_,_,_,_,_,_,by rw[f];exact Sw x d h.aj hv,λe c=>⟨?_,(rF h h0 g c).1⟩⟩;unfold Zs at c;split at c;rename_i hb;cases c;obtain⟨h1,-,-⟩:=rE hb;obtain⟨h1,h2,h3⟩:=ij h1;have:=hl (uV x d).1.a;have:=hl (uV x d).1.b;exact Sx x d _ hv.n hv.t h1 EA EA;cases c
theorem dA{l:List Stop}(h:SOk x l)(h0:arc x 0 0=0):∀(n:Nat) (d:zo),SG x l d->SG x l (uu (Zs x) n d)/\yf x (uu (Zs x) n d)<=yf x d/\(uu (Zs x) n d).length<=d.length
 |0,d,g=>⟨g,Cc _,Af _⟩
 |n+1,d,g=>by
  unfold uu;cases hs:Zs x d with
  |none=>simp_all
  |some e =>
  obtain⟨a,b,c⟩:=rF h h0 g hs;obtain⟨a',b',f⟩:=dA h h0 n e a;grind
def rH(x:Inst):arc (yW x) 0 0=0:=by simp[yW,Zj,arc]
def rI{l:List Stop}(h:vM x l=0):∀s∈l,zX x [s]=0:=by grind[vM]
def SL{l:List Stop}(h:SOk x l)(hf:vM x l=0):∀t∈uq x l,zX x t=0:=by
 have key:∀(ps:List Pr) (st:zo × Int),(∀t∈st.1,t.length<=1\/zX x t=0)->∀t∈(ps.foldl (jR x) st).1,t.length<=1\/zX x t=0:=by
  intro ps;induction ps with
  |nil=>intro st h;exact h
  |cons p ps g =>
  intro st e;rw[A6];refine g _ λt d=>?_;unfold jR V5 at d;generalize Ya st.1 p.a=i at d;generalize Ya st.1 p.b=k at d;generalize st.1.getD i []=a at d;generalize st.1.getD k []=b at d;cases hc:qZ x st.2 p i k a b with
  |false=>rw[hc]at d;exact e t d
  |true =>
  rw[hc]at d;simp only[cond_true]at d;unfold qZ at hc;simp only[Aw,decide_eq_true_eq]at hc;obtain d|d:=BH d;rcases BH d with d|d
  exact e t d;rw[d];exact .inr hc.2;rw[d];exact .inl EB
 intro t d;obtain⟨-,j,-,f⟩:=h.join;have hs:=QY d;have h1:=key (jK x (l.map λs:Stop=>s.c)) (l.map λs=>[s],(l.length:Int)) (λt d=>by obtain⟨s,_,rfl⟩:=Aj.1 d;simp) t (AX.1 d).1;obtain h1|h1:=h1
 .have:=f t d
  match t,h1,this with
  |[s],_,_=>exact rI hf s (j.subset (hs.subset EB))
 omega
def rJ{l:List Stop}(h:SOk x l)(hf:vM x l=0):∀d∈JM x l,SG x l d:=by
 intro d b;unfold JM at b;simp only[List.cons_append,AI,Al]at b;obtain rfl|rfl|b:=b;exact⟨SL h hf,h.join.2.1⟩;refine⟨λt c=>?_,by rw[h.apart.2.1]⟩;obtain⟨s,hs,rfl⟩:=Aj.1 c;exact rI hf s hs;cases a:(j4 x l).2 with
 |false=>simp_all
 |true =>
 rw[a]at b;simp at b;subst b;obtain⟨r,e⟩:=h.regret;exact⟨((wG x _).1 r.ab).1,e a⟩
def uy(x:Inst)(b:Int)(d:zo):zo:=uu (Zs x) b.toNat d
def ZP(x:Inst)(b:Int)(l:List Stop):zo × Int:=uS x (vM x l) (Qk x (uy x b) l)
variable {b:Int}
def SM{l:List Stop}(h:SOk x l)(h0:arc x 0 0=0)(hf:vM x l=0)(hb:b<=9223372036854775807):ql x b (uy x b) (JM x l):=by intro d c;have g:=rJ h hf d c;obtain⟨a,-,-⟩:=dA h h0 b.toNat d g;have o:=g.ok h;refine⟨⟨_,pO x d b (Zs x) (SG x l) hb o.n o.t (λ_=>g) (rG h h0)⟩,a.ok h,?_⟩;have:=(a.len h).1;show (uu (Zs x) b.toNat d).flatten.length<=1048576;omega
def SN{l:List Stop}(h:SOk x l)(h0:arc x 0 0=0)(hb:b<=9223372036854775807):PP 261 [.agg (zB x),L l,I b] (.tup [.agg [L (ZP x b l).1],I (ZP x b l).2]) :=
 Sf x l b _ h λhf=>SM h h0 hf hb
def SO{l:List Stop}(h:SOk x l)(h0:arc x 0 0=0)(hf:vM x l=0)(b:Int):∀d∈Qk x (uy x b) l,SG x l d:=by
 have hb:=rJ h hf;have hi:=λd g=>(dA h h0 b.toNat d g).1;intro d c;unfold Qk at c;unfold JM at hb;simp only[List.cons_append,AI,Al]at c hb;obtain rfl|rfl|rfl|c:=c;simp_all;exact hi _ (hb _ (.inl rfl));exact hi _ (hb _ (.inr (.inl rfl)));cases a:(j4 x l).2 with
 |false=>simp_all
 |true =>
 rw[a]at c;simp at c;subst c;exact hi _ (hb _ (.inr (.inr (by rw[a];simp))))
theorem rK(x:Inst):∀(ds:List zo) (st:zo × Int × Bool),(st.2.2=true->(ds.foldl (uR x) st).2.2=true/\(ds.foldl (uR x) st).2.1<=st.2.1)/\∀d∈ds,yu x d=0->(ds.foldl (uR x) st).2.2=true/\(ds.foldl (uR x) st).2.1<=W (yf x d)
 |[],st=>⟨λe=>⟨e,Cc _⟩,by simp⟩
 |d::ds,st=>by rw[A6];obtain⟨h1,h2⟩:=rK x ds (uR x st d);grind[uR]
def SQ{ds:List zo}(c:e=0)(a:d∈ds)(b:yu x d=0):(uS x e ds).2=0/\W (yf x (uS x e ds).1)<=W (yf x d):=by obtain⟨h1,h2⟩:=(rK x ds ([],0,false)).2 d a b;grind[JG,uS,iq]
def SR(x:Inst)(a:zo->zo)(l:List Stop):jx l∈Qk x a l:=by simp[Qk]
section
variable {x:Inst} {l:List Stop} (h:SOk x l) (h0:arc x 0 0=0) (b:Int)
include h h0
def SS(a:(ZP x b l).2=0):vM x l=0/\yu x (ZP x b l).1=0/\(ZP x b l).1.flatten.Perm l/\(yu x (jx l)=0->W (yf x (ZP x b l).1)<=W (yf x (jx l))):=by obtain⟨hf,hm,c⟩:=SE a;have g:=SO h h0 hf b _ hm;exact⟨hf,c,g.perm,λq=>(SQ hf (SR x _ l) q).2⟩
omit h0 in
end
structure Visit where
 d:Int
 q:Int
 deriving DecidableEq
instance:Inhabited Visit:=⟨⟨0,0⟩⟩
instance:Enc Visit:=⟨λs=>[I s.d,I s.q],2,λ_=>rfl,λ_=>rfl⟩
@[simp] theorem ZDY(s:Visit):Enc.enc s=[I s.d,I s.q]:=rfl
@[simp high] theorem ZDZ(l:List Visit):(l.flatMap Enc.enc).length=l.length*2:=xz l
@[simp high] theorem ZD0(l:List Visit):(l.flatMap Enc.enc).take (l.length*2)=l.flatMap Enc.enc:=Yw l
def told:Nat->List zo->List (Stop × Nat)
 |_,[]=>[]
 |i,d::ds=>d.flatten.map (·,i)++told (i+1) ds
def XP(x:Stop × Nat):List PV:=[.agg [I x.1.c,I x.1.q,I x.2]]
def rL(p:zy):PP 66 [.agg [L p]] (.fn (.func 107) [] [.ip [L p]]):=by refine zt func66 ntmps66 results66 λS nx a=>?_;refine EK ?_;intro v0;refine EK ?_;refine w9 0 rfl ?_;exact EL a
def rM(p:zy)(hp:p.length<=1048576)(r:∀d∈p,d.length<=1048576)(u:∀d∈p,∀t∈d,t.length<=1048576):JA prog 107 [.ip [L p]] ((told 0 p).map XP):=by
 have i:∀(pre rest:List (Stop × Nat)) (x:Stop × Nat),told 0 p=pre++x::rest->((told 0 p).map XP)[pre.length]?=some (XP x):=by intro pre rest x e;rw[e];simp
 refine VR func107 EG rfl ntmps107 (congrArg Array.toList results107) EB λl V keep nx J n v A0 o=>?_;refine EK ?_;refine zj (xk (σ:=Nat × Store × List (Stop × Nat)) (λs=>s.1<=p.length/\J s.2.2.length s.2.1/\told 0 p=s.2.2++told s.1 (p.drop s.1)) (λs=>[(0,xN l),(10,L p),(11,I p.length),(12,I s.1)]) (λs=>s.2.1) (λs=>[]) (λs=>p.length-s.1) (yb (0,A0,[]) [] (by simp[o]) EB rfl EB) ?_);rintro⟨a,A,pre⟩ ⟨w,h,c⟩;simp only at w h c ⊢;refine EK ?_;refine za (zv rfl (λhc=>?_) (λhc=>?_));simp at hc;obtain⟨d,tl,y,z,a3,e0⟩:=zF rfl p a hc;have k:=Aa y;have a0:=r d k;rw[z]at c;simp only[told]at c;refine zh (aA (aF [] (zn e0 hc) ?_));intro v0;refine EK ?_;refine zj (xk (σ:=Nat × Store × List (Stop × Nat)) (λs=>s.1<=d.length/\J s.2.2.length s.2.1/\told 0 p=s.2.2++((d.drop s.1).flatten.map (·,a)++told (a+1) (p.drop (a+1)))) (λs=>[(0,xN l),(3,I a),(10,L p),(11,I p.length),(12,I a),(18,L d),(19,I d.length),(20,I s.1)]) (λs=>s.2.1) (λs=>[]) (λs=>d.length-s.1) (yb (0,A,pre) [_] (by simp[h,c]) EB rfl rfl) ?_);rintro⟨b,A,pre⟩ ⟨hb,h,c⟩;simp only at hb h c ⊢;refine EK ?_;refine za (zv rfl (λf=>?_) (λf=>?_));simp at f;obtain⟨t,a4,b1,b2,b3,e2⟩:=zF rfl d b f;have a5:=u d k t (Aa b1);rw[b2]at c;simp only[Bh,List.map_append,List.append_assoc]at c;refine zh (aA (aF [] (zn e2 f) ?_));intro v1;refine EK ?_;refine zj (xk (σ:=Nat × Store × List (Stop × Nat)) (λs=>s.1<=t.length/\J s.2.2.length s.2.1/\told 0 p=s.2.2++((t.drop s.1).map (·,a)++((d.drop (b+1)).flatten.map (·,a)++told (a+1) (p.drop (a+1))))) (λs=>[(0,xN l),(3,I a),(10,L p),(11,I p.length),(12,I a),(18,L d),(19,I d.length),(20,I b),(25,L t),(26,I t.length),(27,I s.1)]) (λs=>s.2.1) (λs=>[]) (λs=>t.length-s.1) (yb (0,A,pre) [_] (by simp[h,c]) EB rfl rfl) ?_);rintro⟨j,A,pre⟩ ⟨hj,h,c⟩;simp only at hj h c ⊢;refine EK ?_;refine za (zv rfl (λg=>?_) (λg=>?_));simp at g;obtain⟨s,a6,c1,c2,c3,_,e3⟩:=el 2 rfl t j g;rw[c2]at c;simp only[Ap,List.cons_append]at c;refine zh (aA (aF [] (zn e3 g) ?_));intro v2;refine EK ?_;refine λm=>WF rfl rfl rfl (v _ _ _ _ (i pre _ (s,a) c) h) ?_;rintro _ ⟨A',q,rfl⟩;refine⟨_,_,rfl,zO m ?_⟩;refine zk rfl (zh (zb ?_));exact zr (j+1,A',pre++[(s,a)]) [_] ⟨g,by simpa using q,by simp[c]⟩ EF (by simp[zu j EA]) rfl rfl;simp at g;have:j=t.length:=EA;subst this;simp only[Bz,A8,AI]at c;refine zx (zb ?_);exact zr (b+1,A,pre) [] ⟨f,h,c⟩ EF (by simp[zu b EA]) rfl EB;simp at f;have:b=d.length:=EA;subst this;simp only[Bz,List.flatten_nil,A8,AI]at c;refine zx (zb ?_);exact zr (a+1,A,pre) [] ⟨hc,h,c⟩ EF (by simp[zu a EA]) rfl EB;simp at hc;have:a=p.length:=EA;subst this;simp only[Bz,told,AA]at c;refine zx (Z6 (n _ _ h) rfl ?_);simpa[c] using h
def zW(c:Int)(l:List (Stop × Nat)):List Visit:=(l.filter λx=>decide (x.1.c=c)).map λx=>⟨x.2,x.1.q⟩
def JR(c:Int)(l m:List (Stop × Nat)):zW c (l++m)=zW c l++zW c m:=by simp[zW]
def XT(c:Int)(x:Stop × Nat):zW c [x]=if x.1.c=c then [⟨x.2,x.1.q⟩] else []:=by by_cases h:x.1.c=c<;>simp[zW,h]
def iu(c:Int)(l:List (Stop × Nat)):(zW c l).length<=l.length:=by simp only[zW,List.length_map];exact BR _ _
structure PlanOk (p:zy):Prop where
 n:p.length<=1048576
 d:∀d∈p,d.length<=1048576
 t:∀d∈p,∀t∈d,t.length<=1048576
 told:(told 0 p).length<=1048576
def iv(p:zy)(c:Int)(e:PlanOk p):PP 130 [.agg [L p],I c] (L (zW c (told 0 p))):=by
 have k:=e.told;refine zt func130 ntmps130 results130 λS nx u=>?_;refine EK ?_;intro v0 v1;refine EK ?_;intro m;repeat apply za
 refine zb ?_;refine zq (rL p) ?_;refine qy 2 0 197 2 rfl rfl λv3=>?_;refine zj (Xw (xs:=(told 0 p).map XP) (σ:=List Visit × Nat) (λi s=>s.1=zW c ((told 0 p).take i)/\s.1.length<=i/\i<=(told 0 p).length) [(3,.ptr (nx+1) v1 0),(5,.ptr (nx+2) m 0)] (λ_=>S)
  (λ(out,v3)=>[.cells v0 31 [L p],.cells v1 3 [I c],.cells m 144 [.sl (nx+3) v3 2 0 out.length],.cells v3 197 (out.flatMap Enc.enc)]) ([],v3)
  (rM p e.n e.d e.t) rfl (by intro x hx;obtain⟨y,_,rfl⟩:=Aj.1 hx;rfl) EH EB ⟨by simp[zW],by simp,by simp⟩ rfl EB EB ?_ ?_)
 rintro l i ⟨out,v3⟩ more x ⟨ho,hl,hi⟩ hx;simp only at ho hl hi ⊢;rw[Ai]at hx;obtain⟨y,v,rfl⟩:=An.1 hx;obtain⟨s,d⟩:=y;obtain⟨f,g⟩:=Ad.1 v;have a:(told 0 p).take (i+1)=(told 0 p).take i++[(s,d)]:=by rw[AU f,g]
 refine xZ [] EG EG λK Gc Gh o h j X b r=>?_;simp -implicitDefEqProofs [b,r,XP];try clear b r X
 intro v4;refine o _ _ _ ?_;clear o h j;clear K Gc Gh;refine zj (EK ?_);refine zv rfl (λhc=>?_) (λhc=>?_);simp at hc;refine zb ?_;refine⟨by omega,?_⟩;simp only[xh];exact vK (out++[⟨d,s.q⟩],v3+1) [_] ⟨by rw[a,JR,XT,if_pos hc,ho],by simp;omega,by omega⟩ rfl EC;simp at hc;refine zh ?_;simp only[xh];exact vK (out,v3) [_] ⟨by rw[a,JR,XT,if_neg hc,ho,AA],CA hl,by omega⟩ rfl EC;rintro⟨out,v3⟩ ⟨ho,hl,-⟩;simp only[List.length_map,Ah]at ho hl ⊢;refine EK ?_;refine zY 3 rfl ?_;exact zg (zi u EC (by rw[ho];rfl))
def SU(p:zy)(c:Int)(e:PlanOk p):PP 159 [.agg [L p],I c] (L ((zW c (told 0 p)).map (·.d))):=by
 have b:=AF (iu c (told 0 p)) e.told;have a:=iv p c e;generalize zW c (told 0 p)=vs at b a ⊢;refine zt func159 ntmps159 results159 λS nx f=>?_;refine EK ?_;intro v0;refine EK ?_;refine za (qO 5 3 1 rfl λv1=>?_);refine EK ?_;refine zq a ?_;refine zj (zC (λs:Nat × List Int × Nat=>s.1<=vs.length/\s.2.1=(vs.take s.1).map (·.d)) (λ(k,out,v1)=>[(5,.sl (nx+1) v1 1 0 out.length),(10,L vs),(11,I vs.length),(12,I k)]) (λ(k,out,v1)=>[.cells v0 31 [L p],.cells v1 3 (out.flatMap Enc.enc)]) (λs=>vs.length-s.1) (0,[],v1) [] EB EB EB ?_);rintro⟨k,out,v1⟩ ⟨g,ho⟩;simp only at g ho ⊢;have h:out.length=k:=by rw[ho];simp;omega
 refine EK ?_;refine za (zv rfl (λhc=>?_) (λhc=>?_));simp at hc;obtain⟨s,tl,j,l,a3,_,i⟩:=el 2 rfl vs k hc;refine zh (aA (aF [] (zn i hc) ?_));intro m;refine zb ?_;refine⟨by omega,?_⟩;refine zb ?_;exact zr (k+1,out++[s.d],v1+1) [_] ⟨hc,by rw[a3,ho];simp⟩ EF (by simp[zu k EA]) rfl EC;simp at hc;have:k=vs.length:=EA;subst this;rw[Ah]at ho;refine zx (EK ?_);refine zY 1 rfl ?_;exact zg (zi f EC (by simp[ho,zp]))
def jp(n:Nat)(d:Int):Nat:=if 0<=d/\d<64 then n ||| 2^d.toNat else n
def dB(n:Nat)(d:Int)(hn:n<2^64):jp n d<2^64:=by unfold jp;split;exact Nat.or_lt_two_pow hn (CN EH EA);exact hn
def ZQ(l:List Int):Nat:=l.foldl jp 0
def SV(l:List Int):ZQ l<2^64:=by
 have:∀(l:List Int) (n:Nat),n<2^64->l.foldl jp n<2^64:=by
  intro l;induction l with
  |nil=>intro n h;exact h
  |cons d l a=>intro n h;exact a _ (dB n d h)
 exact this l 0 EH
def iw(d:Int):PP 241 [I d] (B (decide (0<=d/\d<64))):=by refine zt func241 ntmps241 results241 λS nx a=>?_;refine EK ?_;by_cases h1:0<=d;refine aF [(2,5)] h1 ?_;exact zg (zi a EC (by simp[h1,zp]));refine aF [(2,5)] (zn h1 zE) ?_;exact zg (zi a EC (by simp[h1,zp]))
def rN(d:Nat)(h:d<64):IntKind.u64.wrap (2^d)=((2^d:Nat):Int):=by
 have h2:(2:Nat)^d<2^64:=CN EH h;have h3:((2^d:Nat):Int)<2^64:=by exact_mod_cast h2
 have a:(2:Int)^d=((2^d:Nat):Int):=EB;rw[a];generalize (2^d:Nat)=m at h3 ⊢;simp only[IntKind.wrap,IntKind.bits,IntKind.signed];simp;omega
def rO(n:Nat)(d:Int)(hn:n<2^64):PP 198 [U n,I d] (U (jp n d)):=by
 refine zt func198 ntmps198 results198 λS nx e=>?_;refine EK ?_;repeat apply za
 refine zb ?_;refine zq (iw d) ?_;by_cases h:0<=d/\d<64;repeat apply za
 refine zk (by simp[h]) ?_;refine zh ?_;have h1:¬d<0:=EA;have h2:min d.toNat 64=d.toNat:=EA;have h3:=rN d.toNat EA;have i:bits BinOp.or IntKind.u64 (n:Int) (2^d.toNat)=((n ||| 2^d.toNat:Nat):Int):=by have:=bits_or_u64_nat n (2^d.toNat) EA (by have:(2:Nat)^d.toNat<2^64:=CN EH EA;omega);simpa using this
 refine za (xZ [] EG EG λK Gc Gh f b c X a g=>?_);simp -implicitDefEqProofs [a,g,h1,h2,IntKind.bits,h3,i];try clear a g X
 refine f _ _ _ ?_;clear f b c;clear K Gc Gh;exact zg (zi e EC (by simp[jp,h,zp]));repeat apply za
 refine zm EF ?_;refine EK ?_;exact zg (zi e EC (by simp[jp,h,zp]))
def SX(l:List Int)(hl:l.length<=1048576):PP 158 [L l] (U (ZQ l)):=by
 refine zt func158 ntmps158 results158 λS nx a=>?_;refine EK ?_;refine EK ?_;repeat apply za
 refine zb ?_;refine zj (zC (λs:Nat × Nat=>s.1<=l.length/\s.2=ZQ (l.take s.1)) (λ(k,n)=>[(3,U n),(6,L l),(7,I l.length),(8,I k)]) (λ_=>[]) (λs=>l.length-s.1) (0,0) [] (by simp[ZQ]) EB EB ?_);rintro⟨k,n⟩ ⟨b,ho⟩;simp only at b ho ⊢;refine EK ?_;refine za (zv rfl (λhc=>?_) (λhc=>?_));simp at hc;obtain⟨d,tl,e,f,a3,c⟩:=zF rfl l k hc;refine zh (aA (aF [] (zn c hc) ?_));refine zb ?_;refine zq (rO n d (by rw[ho];exact SV _)) ?_;refine zb ?_;exact zr (k+1,jp n d) [] ⟨hc,by rw[a3,ho];simp[ZQ,BJ]⟩ EF (by simp[zu k EA]) rfl EB;simp at hc;have:k=l.length:=EA;subst this;rw[Ah]at ho;refine zx (EK ?_);exact zg (zi a EC (by simp[ho,zp]))
def au(l:List Nat)(v:Nat):Int:=if v∈l then (l.findIdx (·=v):Nat) else -1
def SY(l:List Nat)(v:Nat)(hl:l.length<=1048576):PP 214 [L l,U v] (I (au l v)):=by
 refine zt func214 ntmps214 results214 λS nx b=>?_;refine EK ?_;repeat apply za
 refine zb ?_;refine zj (zC (λs:Nat=>s<=l.length/\v ∉ l.take s) (λk=>[(0,L l),(1,U v),(6,L l),(7,I l.length),(8,I k)]) (λ_=>[]) (λs=>l.length-s) 0 [] EB EB EB ?_);rintro k ⟨i,ho⟩;refine EK ?_;refine za (zv rfl (λhc=>?_) (λhc=>?_));simp at hc;obtain⟨d,tl,c,m,a3,f⟩:=zF rfl l k hc;refine zh (aA (EK ?_));refine aF [] (zn hc f) ?_;refine zv rfl (λh=>?_) (λh=>?_);obtain rfl:v=d:=by simp at h;omega
 have a:au l v=k:=by
  have hm:=Aa c;have:l.findIdx (·=v)=k:=by rw[List.findIdx_eq EA];obtain⟨n,g⟩:=Ad.1 c;refine⟨by simp[g],λj o=>?_⟩;simp only[decide_eq_false_iff_not];intro e;apply ho;rw[List.mem_take_iff_getElem];exact⟨j,by omega,e⟩
  simp[au,hm,this]
 refine EK ?_;exact zg (zi b EC (by simp[a,zp]));simp at h;refine zh (zb ?_);exact zr (k+1) [] ⟨hc,by rw[a3];simp;exact⟨ho,λe=>h EA⟩⟩ EA (by simp[zu k EA]) rfl EB;simp at hc;have:k=l.length:=EA;subst this;rw[Ah]at ho;refine zx (EK ?_);exact zg (zi b EC (by simp[au,ho,zp]))
def SZ(l:List Nat)(v:Nat)(hl:l.length<=1048576):PP 160 [L l,U v] (B (decide (v∈l))):=by refine zt func160 ntmps160 results160 λS nx a=>?_;refine EK ?_;refine EK ?_;refine zq (SY l v hl) ?_;exact zg (zi a EC (by by_cases h:v∈l<;>simp[au,h,zp]))
structure CustFits (c:Cust):Prop where
 D:0<=c.D/\c.D<=2147483648
 size:0<=c.size/\c.size<=2147483648
 H:0<=c.H/\c.H<=2147483648
def wK(q:Int):Bool:=decide (q<0\/2147483648<q)
def yk(size rate:Int):Int->List Int->Option (List Int)
 |_,[]=>some []
 |there,q::l=>if size<there+q\/there+q<rate then none else (yk size rate (there+q-rate) l).map ((there+q-rate)::·)
def yS(c:Cust)(q:List Int):List Int × Int :=
 if q.any wK then ([],1) else match yk c.size c.D c.H q with
 |none=>([],8)
 |some l=>(l,0)
variable {S:Store}{nx:Nat}
def rP(c:Cust)(a:yd nx S):SP 128 [.agg (yh c)] S (λp S'=>∃v,p=.fn (.func 162) [] [.ptr (nx+1) v 0,.ip (yh c)]/\S'=S.set (nx+1) (.cells v 3 [I c.H])):=by refine Z7 a func128 ntmps128 results128 ?_;refine EK ?_;intro v0;refine EK ?_;intro v1;refine EK ?_;refine w9 0 rfl ?_;refine zg ⟨_,_,rfl,⟨v1,by simp[zp],rfl⟩,Xv (j:=1) a EB⟩
def rQ(c:Cust)(q there:Int){id v:Nat}(hid:S id=.cells v 3 [I there])(h1:-4611686018427387904<=there+q/\there+q<=4611686018427387904)(h2:-4611686018427387904<=there+q-c.D/\there+q-c.D<=4611686018427387904):
  SP 162 [I q,.ptr id v 0,.ip (yh c)] S (λp S'=>p=.tup [I (there+q),I (there+q-c.D)]/\S'=S.set id (.cells v 3 [I (there+q-c.D)])):=by
 refine yr func162 ntmps162 results162 λnx f=>?_;have a:id<nx:=by obtain h|h:=Bo id nx;exact h;rw[f id h]at hid;cases hid
 have b:¬nx<=id:=EA;have g:∀obs,ext S nx obs id=.cells v 3 [I there]:=λobs=>(zG a).trans hid;have d:∀obs x,ext (S.set id x) nx obs id=x:=λobs x=>(zG a).trans (q11 _ _ _);have e:∀x,yd nx (S.set id x):=λx i hi=>by rw[q10 _ _ _ _ EA];exact f i hi
 have j:IntKind.i64.wrap (there+q)=there+q:=wr _ EA EA;have w2:IntKind.i64.wrap (there+q-c.D)=there+q-c.D:=wr _ EA EA;refine EK ?_;refine aF [] (zn g j) ?_;refine aF [] (zD g b w2) ?_;refine aG none U2 mixed d ?_;refine zg ⟨_,_,rfl,⟨rfl,rfl⟩,zV (e _)⟩
variable {size:Int}
def rR{q:Int}{l:List Int}{out:List Int}{r:Option (List Int)}(h:r=(yk size e b (q::l)).map (out++·))(hs:¬size<b+q)(a:¬b+q<e):
  r=(yk size e (b+q-e) l).map ((out++[b+q-e])++·):=by
 rw[h];simp only[yk,hs,a,or_self,if_false,CP];congr 1;funext x;simp
def ix(c:Cust)(q:List Int)(hc:CustFits c)(w:q.length<=1048576):PP 80 [.agg (yh c),L q] (.tup [L (yS c q).1,I (yS c q).2]):=by
 obtain⟨x,u,g⟩:=hc;refine zt func80 ntmps80 results80 λS nx e=>?_;refine EK ?_;intro v0;repeat apply za
 refine zb ?_;refine qT (nx:=nx) (σ:=Nat) (λv0=>q.any wK=false) (λv0=>[(1,L q),(2,.ptr nx v0 0)]) (λ_=>S) (λv0=>[.cells v0 59 (yh c)]) ?_ ?_;refine zj (zC (λs:Nat=>s<=q.length/\(q.take s).any wK=false) (λk=>[(1,L q),(2,.ptr nx v0 0),(14,L q),(15,I q.length),(16,I k)]) (λ_=>[.cells v0 59 (yh c)]) (λs=>q.length-s) 0 [] EB EB EB ?_);rintro k ⟨o,ho⟩;refine EK ?_;refine za (zv rfl (λhc=>?_) (λhc=>?_));simp at hc;obtain⟨z,tl,i,r,a3,j⟩:=zF rfl q k hc;have bad:wK z=true->yS c q=([],1):=λh=>by
  have:q.any wK=true:=by rw[BZ];exact⟨z,Aa i,h⟩
  simp[yS,this]
 refine zh (aA (aF [] (zn j hc) ?_));by_cases h1:z<0;refine aF [(2,22)] (zn h1 zE) ?_;refine zm rfl (EK ?_);refine Zh 4 rfl ?_;exact zg (zi e EC (by rw[bad (by simp[wK,h1])];rfl));by_cases h2:(2147483648:Int)<z;refine aF [(2,22)] (zn h1 h2) ?_;refine zm rfl (EK ?_);refine Zh 4 rfl ?_;exact zg (zi e EC (by rw[bad (by simp[wK,h2])];rfl));refine aF [(2,22)] (zn h1 h2) ?_;refine zk rfl (zh (zb ?_));exact zr (k+1) [] ⟨hc,by rw[a3,Ea,ho];simp[wK];omega⟩ EA (by simp[zu k EA]) rfl EB;simp at hc;obtain rfl:k=q.length:=EA;rw[Ah]at ho;exact zx (yb v0 [] ho EB rfl EB);intro v0 hb;have m:∀z∈q,0<=z/\z<=2147483648:=by intro z t;rw[CB]at hb;have:=hb z t;simp[wK]at this;omega
 have b:yS c q=match yk c.size c.D c.H q with|none=>([],8)|some l=>(l,0):=by simp[yS,hb]
 refine EK ?_;refine λa=>((rP c xM).mono ?_).v;rintro p T ⟨v1,rfl,rfl⟩;refine⟨_,_,WE _,zO a ?_⟩;refine EK ?_;refine⟨by omega,λd=>?_⟩;refine KD 3 0 rfl ?_;simp only[Df,AO,AW,List.append_eq,List.cons_append,AI,Ab,Ag];repeat apply za
 refine zb ?_;refine zj (zC (λs:Nat × Int × List Int × Nat=>s.1<=q.length/\s.2.2.1.length=s.1/\(0<=s.2.1/\s.2.1<=2147483648)/\yk c.size c.D c.H q=(yk c.size c.D s.2.1 (q.drop s.1)).map (s.2.2.1++·))
  (λ(k,there,out,d)=>[(2,.ptr nx v0 0),(8,.fn (.func 162) [] [.ptr (nx+2) v1 0,.ip (yh c)]),(9,.sl (nx+3) d 1 0 out.length),(32,L q),(33,I q.length),(34,I k)])
  (λ(k,there,out,d)=>[.cells v0 59 (yh c),.dead,.cells v1 3 [I there],.cells d 3 (out.flatMap Enc.enc)]) (λs=>q.length-s.1) (0,c.H,[],d) [] ?_ EB EB ?_)
 refine⟨by simp,by simp,g,?_⟩;simp;rintro⟨k,there,out,d⟩ ⟨o,f,n,ho⟩;simp only at o f n ho ⊢;refine EK ?_;refine za (zv rfl (λhc=>?_) (λhc=>?_));simp at hc;obtain⟨z,tl,i,r,a3,j⟩:=zF rfl q k hc;have t:=m z (Aa i);rw[r]at ho;refine zh (aA (aF [] (zn j hc) ?_));refine EK ?_;refine λa=>((rQ c z there (id:=nx+2) (v:=v1) EB EA EA).mono ?_).v;rintro p T ⟨rfl,rfl⟩;refine⟨_,_,yi _ EA EB,zO a ?_⟩;have bad:(c.size<there+z\/there+z<c.D)->yS c q=([],8):=λh=>by rw[b,ho];simp only[yk,if_pos h,Eb]
 by_cases h1:c.size<there+z;repeat apply za
 refine ze [(4,48)] (zn h1 zE) ?_;refine zm rfl (EK ?_);refine Zh 4 rfl ?_;exact zg (zi e EC (by rw[bad (.inl h1)];rfl));by_cases h2:there+z<c.D;repeat apply za
 refine ze [(4,48)] (zn h1 h2) ?_;refine zm rfl (EK ?_);refine Zh 4 rfl ?_;exact zg (zi e EC (by rw[bad (.inr h2)];rfl));repeat apply za
 refine ze [(4,48)] (zn h1 h2) ?_;refine zk rfl (zh (zb ?_));refine⟨by omega,?_⟩;refine zb ?_;exact zr (k+1,there+z-c.D,out++[there+z-c.D],d+1) [] ⟨hc,by simp[f],by dsimp only;omega,rR ho h1 h2⟩ EF (by simp[zu k EA]) rfl EB;simp at hc;obtain rfl:k=q.length:=EA;rw[Bz]at ho;simp only[yk,AR,AA]at ho;refine zx (EK ?_);refine zY 3 rfl ?_;exact zg (zi e EC (by rw[b,ho];simp[zp]))
def xC(rate size:Int):List Int->List Int->Bool
 |z::q,n::l=>decide (0<z/\n+rate≠size)||xC rate size q l
 |_,_=>false
def uz(c:Cust)(q:List Int):Int :=
 if (yS c q).2≠0 then (yS c q).2 else if c.Y≠1 then 0 else if xC c.D c.size q (yS c q).1 then 9 else 0
def xQ(c:Cust)(ns:List Int):Int:=W (c.U*W ns.sum)
def W6(l:List Int)(x:Int):(l++[x]).sum=l.sum+x:=EB
def iy(c:Cust)(ns:List Int)(hn:ns.length<=1048576):PP 82 [.agg (yh c),L ns] (I (xQ c ns)):=by
 refine zt func82 ntmps82 results82 λS nx a=>?_;refine EK ?_;intro v0;refine EK ?_;repeat apply za
 refine zb ?_;refine zj (zC (λs:Nat=>s<=ns.length) (λk=>[(2,.ptr nx v0 0),(5,I (W (ns.take k).sum)),(8,L ns),(9,I ns.length),(10,I k)]) (λ_=>[.cells v0 59 (yh c)]) (λs=>ns.length-s) 0 [] EB EB EB ?_);rintro k e;refine EK ?_;refine za (zv rfl (λhc=>?_) (λhc=>?_));simp at hc;obtain⟨z,tl,f,g,a3,b⟩:=zF rfl ns k hc;refine zh (aA (aF [] (zn b hc) ?_));refine zb ?_;refine zb ?_;have d:W (W (ns.take k).sum+z)=W (ns.take (k+1)).sum:=by rw[a3,W6,uN]
 exact zr (k+1) [] hc EA (by simp[zu k EA];exact d) rfl EB;simp at hc;obtain rfl:k=ns.length:=EA;rw[Ah];refine zx (EK ?_);exact EL a
def rS(c:Cust)(q:List Int)(hc:CustFits c)(x:q.length<=1048576):PP 161 [.agg (yh c),L q] (I (uz c q)):=by
 have n:=ix c q hc x;obtain⟨hr,y,o⟩:=hc;refine zt func161 ntmps161 results161 λS nx m=>?_;refine EK ?_;intro v0;repeat apply za
 refine zb ?_;refine zq n ?_;by_cases d:(yS c q).2=0;case neg =>
  refine aF [] d ?_;refine zm (by simp[d]) ?_;refine EK ?_;exact zg (zi m EC (by simp[uz,d,zp]))
 refine aF [] d ?_;refine zk (by simp[d]) ?_;refine zh ?_;by_cases b:c.Y=1;case neg =>
  repeat apply za
  refine ze [] b ?_;refine zm (by simp[b]) ?_;refine EK ?_;exact zg (zi m EC (by simp[uz,d,b,zp]))
 repeat apply za
 refine ze [] b ?_;refine zk (by simp[b]) ?_;refine zh ?_;have e:uz c q=if xC c.D c.size q (yS c q).1 then 9 else 0:=by simp[uz,d,b]
 obtain⟨l,hl,h⟩:∃l,yk c.size c.D c.H q=some l/\(yS c q).1=l/\∀z∈q,0<=z/\z<=2147483648:=by
  unfold yS at d ⊢;split at d;simp at d;rename_i hb;cases a:yk c.size c.D c.H q with
  |none=>simp[a]at d
  |some l =>
  refine⟨l,rfl,by simp[hb],λz w=>?_⟩;simp only[Bool.not_eq_true,CB]at hb;have:=hb z w;simp[wK]at this;omega
 obtain⟨r,h⟩:=h;rw[r]at e;refine EK ?_;refine λf=>((rP c xM).mono ?_).v;rintro p T ⟨v1,rfl,rfl⟩;refine⟨_,_,WE _,zO f ?_⟩;repeat apply za
 refine zb ?_;refine zj (zC (λs:Nat × Int=>s.1<=q.length/\(0<=s.2/\s.2<=2147483648)/\yk c.size c.D s.2 (q.drop s.1)=some (l.drop s.1)/\xC c.D c.size q l=xC c.D c.size (q.drop s.1) (l.drop s.1))
  (λ(k,there)=>[(2,.ptr nx v0 0),(7,.fn (.func 162) [] [.ptr (nx+2) v1 0,.ip (yh c)]),(26,L q),(27,I q.length),(28,I k)])
  (λ(k,there)=>[.cells v0 59 (yh c),.dead,.cells v1 3 [I there]]) (λs=>q.length-s.1) (0,c.H) [] ⟨by simp,o,by simpa using hl,by simp⟩ EB EB ?_)
 rintro⟨k,there⟩ ⟨hk,t,a,ho⟩;simp only at hk t a ho ⊢;refine EK ?_;refine za (zv rfl (λhc=>?_) (λhc=>?_));simp at hc;obtain⟨z,tl,a1,a2,a3,e0⟩:=zF rfl q k hc;have w:=h z (Aa a1);rw[a2]at a ho;simp only[yk]at a;split at a;cases a;rename_i a0;obtain⟨l2,i,j⟩:=An.1 a;rw[<-j]at ho;simp only[xC]at ho;have g:l.drop (k+1)=l2:=by rw[<-List.drop_drop,<-j];rfl
 have u:there+z-c.D+c.D=there+z:=EA;rw[u]at ho;refine zh (aA (aF [] (zn e0 hc) ?_));refine EK ?_;refine λf=>((rQ c z there (id:=nx+2) (v:=v1) EB EA EA).mono ?_).v;rintro p T ⟨rfl,rfl⟩;refine⟨_,_,yi _ EA EB,zO f ?_⟩;by_cases h1:0<z;by_cases h2:there+z=c.size;refine aF [(2,40)] (zn h1 h2) ?_;refine zk (by simp[h2]) ?_;refine zh (zb ?_);exact zr (k+1,there+z-c.D) [] ⟨hc,by dsimp only;omega,by rw[g];exact i,by rw[ho,g,decide_eq_false EA,Ej]⟩ EF (by simp[zu k EA]) rfl (by simp[h2]);refine aF [(2,40)] (zn h1 h2) ?_;refine zm (by simp[h2]) ?_;refine EK ?_;exact zg (zi m EC (by rw[e,ho];simp[h1,h2,zp]));refine aF [(2,40)] (zn h1 zE) ?_;refine zk rfl (zh (zb ?_));exact zr (k+1,there+z-c.D) [] ⟨hc,by dsimp only;omega,by rw[g];exact i,by rw[ho,g,decide_eq_false EA,Ej]⟩ EF (by simp[zu k EA]) rfl EB;simp at hc;obtain rfl:k=q.length:=EA;rw[Bz]at ho;simp only[xC]at ho;refine zx (EK ?_);exact zg (zi m EC (by rw[e,ho];rfl))
def xR(a b:Int):Int:=if a+b < -9223372036854775808 then -9223372036854775808 else if 9223372036854775807<a+b then 9223372036854775807 else a+b
def Ta(a b:Int)(e:zL a)(hb:zL b):PP 176 [I a,I b] (if -9223372036854775808<=a+b/\a+b<=9223372036854775807 then .tup [I (a+b),B true] else .tup [I 0,B false]):=by
 unfold zL at e hb;refine zt func176 ntmps176 results176 λS nx d=>?_;refine EK ?_;by_cases h:-9223372036854775808<=a+b/\a+b<=9223372036854775807;have c:IntKind.i64.wrap (a+b)=a+b:=wr _ h.1 h.2;refine aF [] c ?_;by_cases h1:b<0;have h2:a+b<a:=EA;repeat apply za
 refine ze [] (zn h1 h2) ?_;refine aC (EK ?_);exact zg (zi d EC (by simp[h,zp]));have h2:¬a+b<a:=EA;repeat apply za
 refine ze [] (zn h1 h2) ?_;refine aC (EK ?_);exact zg (zi d EC (by simp[h,zp]));by_cases h0:a+b < -9223372036854775808;have c:IntKind.i64.wrap (a+b)=a+b+18446744073709551616:=by rw[AD];omega
 have h1:b<0:=EA;have h2:¬a+b+18446744073709551616<a:=EA;refine aF [] c ?_;repeat apply za
 refine ze [] (zn h1 h2) ?_;refine aD ?_;refine EK ?_;exact zg (zi d EC (by simp only[h,if_false];rfl));have c:IntKind.i64.wrap (a+b)=a+b-18446744073709551616:=by rw[AD];omega
 have h1:¬b<0:=EA;have h2:a+b-18446744073709551616<a:=EA;refine aF [] c ?_;repeat apply za
 refine ze [] (zn h1 h2) ?_;refine aD ?_;refine EK ?_;exact zg (zi d EC (by simp only[h,if_false];rfl))
def dC(a b:Int)(e:zL a)(hb:zL b):PP 142 [I a,I b] (I (xR a b)):=by have c:=Ta a b e hb;unfold zL at e hb;refine zt func142 ntmps142 results142 λS nx d=>?_;refine EK ?_;by_cases h:-9223372036854775808<=a+b/\a+b<=9223372036854775807;rw[if_pos h]at c;refine EK ?_;refine zq c ?_;refine aA (EK ?_);refine zm rfl (EK ?_);exact zg (zi d EC (by simp only[xR,zp];rw[if_neg EA,if_neg EA]));rw[if_neg h]at c;refine EK ?_;refine zq c ?_;refine aA (EK ?_);refine zk rfl (EK ?_);refine zv rfl (λh1=>?_) (λh1=>?_);simp at h1;refine EK ?_;exact zg (zi d EC (by simp only[xR,zp];rw[if_pos EA]));simp at h1;refine zh (EK ?_);exact zg (zi d EC (by simp only[xR,zp];rw[if_neg EA,if_pos EA]))
def W7(a lo hi:Int):PP 60 [I a,I lo,I hi] (I (min (max a lo) hi)):=by
 have h1:qj (qk a lo) hi=min (max a lo) hi:=by unfold qj qk;split<;>split<;>omega
 refine zt func60 ntmps60 results60 λS nx b=>?_;refine EK ?_;refine aF [] h1 ?_;exact EL b
def z8(v:List Visit)(n:Int):List Int:=(List.range (min (max n 0) 64).toNat).map λ(d:Nat)=>((v.filter λs=>decide (s.d=(d:Int))).map (·.q)).sum
def aw(v:List Visit)(n:Int):(z8 v n).length=(min (max n 0) 64).toNat:=by simp[z8]
def rT(n:Int):z8 [] n=List.replicate (min (max n 0) 64).toNat 0:=by apply Bi;simp[z8];intro i h1 h2;simp[z8]
def Tb(v:List Visit)(n:Int)(s:Visit)(h:¬(0<=s.d/\s.d<((min (max n 0) 64).toNat:Int))):z8 (v++[s]) n=z8 v n:=by unfold z8;apply AQ;intro d a;have b:=AN.1 a;have:¬s.d=(d:Int):=EA;simp[this]
def Tc(v:List Visit)(n:Int)(s:Visit)(d:Nat)(hs:s.d=(d:Int))(b:Int)(hb:(z8 v n)[d]?=some b):z8 (v++[s]) n=(z8 v n).set d (b+s.q):=by
 obtain⟨c,a⟩:=Ad.1 hb;apply Bi;simp[z8];intro i h1 h2;rw[Do];have e:i<(z8 v n).length:=by simpa using h2
 by_cases q:d=i;subst q;rw[if_pos rfl,<-a];simp[z8,hs];rw[if_neg q];have:¬s.d=(i:Int):=EA;simp[z8,this]
structure VisOk (v:List Visit):Prop where
 n:v.length<=1048576
 q:∀s∈v,0<=s.q/\s.q<=2147483648
 d:∀s∈v,zL s.d
def rU(v:List Visit)(p:Visit->Bool)(h:∀s∈v,0<=s.q/\s.q<=2147483648):0<=((v.filter p).map (·.q)).sum/\((v.filter p).map (·.q)).sum<=2147483648*v.length:=by
 induction v with
 |nil=>simp
 |cons s v a =>
 have h1:=a λx hx=>h x (by simp[hx]);have h2:=h s EB;rw[Cm];split;simp only[Ap,AL,Ab];omega;simp only[Ab];omega
def Td{v:List Visit}(hv:∀s∈v,0<=s.q/\s.q<=2147483648)(n:Int):∀b∈z8 v n,0<=b/\b<=2147483648*v.length:=by intro b hb;simp only[z8,Aj]at hb;obtain⟨d,_,rfl⟩:=hb;exact rU v _ hv
def rV(v:List Visit)(n:Int)(hv:VisOk v):PP 129 [L v,I n] (L (z8 v n)):=by
 have t:=hv.n;have hm:min (max n 0) 64=(((min (max n 0) 64).toNat:Nat):Int):=EA;have f:(min (max n 0) 64).toNat<=64:=EA;refine zt func129 ntmps129 results129 λS nx g=>?_;refine EK ?_;refine EK ?_;refine zq (W7 n 0 64) ?_;refine⟨by omega,λv1=>?_⟩;generalize c:(min (max n 0) 64).toNat=m at hm f;have r:=rT n;rw[c]at r;repeat apply za
 refine zb ?_;refine zj (zC (λs:Nat=>s<=v.length) (λk=>[(5,.sl nx v1 1 0 m),(11,L v),(12,I v.length),(13,I k)]) (λk=>[.cells v1 3 ((z8 (v.take k) n).flatMap Enc.enc)]) (λs=>v.length-s) 0 [] EB (by simp[c]) (by simp[r,c,fX]) ?_);rintro k hk;have a:=aw (v.take k) n;rw[c]at a;refine EK ?_;refine za (zv rfl (λhc=>?_) (λhc=>?_));simp at hc;obtain⟨s,tl,u,a2,a3,_,w⟩:=el 2 rfl v k hc;have j:=Aa u;have y:=hv.q s j;have e:=Tb (v.take k) n s;rw[c]at e;refine zh (aA (aF [] (zn w hc) ?_));intro v2;by_cases h1:0<=s.d;by_cases h2:s.d<(m:Int);obtain⟨d,g⟩:=Au h1;have h:d<m:=EA;obtain⟨b,z,b1,b2,b3,e2⟩:=zF rfl (z8 (v.take k) n) d EA;have a0:=Td (λx hx=>hv.q x (Bu hx)) n b (Aa b1);have a4:(v.take k).length<=1048576:=EF;have l:=Tc (v.take k) n s d g b b1;have o:=cF (z8 (v.take k) n) d (b+s.q) EA;have i:xR b s.q=b+s.q:=by unfold xR;rw[if_neg EA,if_neg EA]
 have p:((z8 (v.take k) n).flatMap Enc.enc).length=m:=by rw[jY,a]
 refine aF [(3,20)] (zn h1 h2) ?_;refine zm rfl (zA (some [nx+1]) (Row.pures [0,1,2,3,4,5,6,8,9] (.alt 7 RS .stop)) mixed (zR g h e2 a) ?_);refine zJ (dC b s.q (by unfold zL;omega) (by unfold zL;omega)) (yx i o a h g) ?_;refine⟨by omega,?_⟩;refine zb ?_;exact zr (k+1) [_] hc EA (by simp[zu k EA]) rfl (by rw[a3,l];rfl);refine aF [(3,20)] (zn h1 h2) ?_;refine zk rfl (zh (zb ?_));exact zr (k+1) [_] hc EA (by simp[zu k EA]) rfl (by rw[a3,e EA];rfl);refine aF [(3,20)] (zn h1 zE) ?_;refine zk rfl (zh (zb ?_));exact zr (k+1) [_] hc EA (by simp[zu k EA]) rfl (by rw[a3,e EA];rfl);simp at hc;obtain rfl:k=v.length:=EA;rw[Ah]at a ⊢;refine zx (EK ?_);refine zY 0 rfl ?_;exact zg (zi g EC (by simp[a,zp]))
def yT(n:Nat):List Int:=if h:n=0 then [] else ((n%65536:Nat):Int)::yT (n/65536)
termination_by n
decreasing_by omega
def JS:yT 0=[]:=by rw[yT];simp
variable {n:Nat}
def JT(h:n≠0):yT n=((n%65536:Nat):Int)::yT (n/65536):=by rw[yT];simp[h]
def yv:List Int->Int
 |[]=>0
 |d::l=>d+65536*yv l
def vR(l:List Int):Prop:=∀d∈l,0<=d/\d<65536
def XU:List Int->Prop
 |[]=>True
 |[d]=>d≠0
 |_::e::l=>XU (e::l)
def JU:∀n:Nat,vR (yT n)/\yv (yT n)=n/\XU (yT n)/\(n<65536^4->(yT n).length<=4):=by
 intro n;induction n using Nat.strongRecOn with
 |_ n f =>
 by_cases h:n=0;subst h;rw[JS];exact⟨λd a=>(nomatch a),rfl,trivial,by simp⟩;obtain⟨h1,h2,h3,_⟩:=f (n/65536) EA;rw[JT h];refine⟨?_,?_,?_,?_⟩;intro d a;obtain rfl|a:=Al.1 a;omega;exact h1 d a;simp only[yv,h2];omega
 .cases hl:yT (n/65536) with
  |nil =>
  rw[hl]at h2;simp only[yv]at h2;simp only[XU];omega
  |cons e l=>rw[hl]at h3;exact h3
 intro b;have:∀m:Nat,∀k:Nat,m<65536^k->(yT m).length<=k:=by
  intro m k;induction k generalizing m with
  |zero=>intro hm;simp at hm;subst hm;rw[JS];simp
  |succ k c =>
  intro hm;by_cases h0:m=0;subst h0;rw[JS];simp;rw[JT h0];have:=c (m/65536) (by rw[D5]at hm;exact Nat.div_lt_of_lt_mul (by rw[Em];exact hm));simp;exact this
 have:=this n 4 b;rw[JT h]at this;exact this
def iz{l:List Int}(h:vR l):0<=yv l:=by
 induction l with
 |nil=>simp[yv]
 |cons d l a =>
 have h1:=h d EB;have h2:=a λx hx=>h x (by simp[hx]);simp only[yv];omega
def dD(a b:List Int):yv (a++b)=yv a+65536^a.length*yv b:=by
 induction a with
 |nil=>simp[yv]
 |cons d a c=>simp only[List.cons_append,yv,c,Ab,En];rw[B6,CW (65536^a.length) 65536,Int.mul_assoc];omega
def Te:∀{l:List Int},vR l->XU l->l=yT (yv l).toNat:=by
 intro l;induction l with
 |nil=>intro _ _;simp only[yv];exact JS.symm
 |cons d l f =>
 intro h b;have h1:=h d EB;have hl:vR l:=λx hx=>h x (by simp[hx]);have h2:=iz hl;cases l with
 |nil =>
 simp only[XU]at b;simp only[yv];rw[JT EA];have a:(d+65536*0).toNat/65536=0:=EA;rw[a,JS];congr 1;omega
 |cons e l =>
 have:=f hl b;have c:yv (e::l)≠0:=by intro h0;rw[h0]at this;rw[show (0:Int).toNat=0 from rfl,JS]at this;cases this
 have ev:yv (d::e::l)=d+65536*yv (e::l):=rfl;rw[ev,JT EA];have a:(d+65536*yv (e::l)).toNat/65536=(yv (e::l)).toNat:=EA;rw[a,<-this];congr 1;omega
def dE(n:Int)(hn:zL n):PP 166 [I n] (.agg [L (yT n.natAbs),B (decide (n<0))]):=by
 unfold zL at hn;have c:=(JU n.natAbs).2.2.2 (by rw[show (65536:Nat)^4=18446744073709551616 from by decide];omega);refine zt func166 ntmps166 results166 λS nx i=>?_;refine EK ?_;intro v0;refine EK ?_;intro v1;refine EK ?_;refine za (qy 1 0 3 1 rfl rfl λb=>?_);refine zj (zC (λs:Int × List Int × Nat=>yT n.natAbs=s.2.1++yT s.1.natAbs/\(-9223372036854775808<=s.1/\s.1<=9223372036854775807)) (λ(m,out,b)=>[(0,I m),(2,.ptr nx v0 0),(3,.ptr (nx+1) v1 0)])
  (λ(m,out,b)=>[.cells v0 236 [.sc (.slice none 0 0),B false],.cells v1 236 [.sl (nx+2) b 1 0 out.length,B (decide (n<0))],.cells b 3 (out.flatMap Enc.enc)]) (λs=>s.1.natAbs) (n,[],b) [] (by simp;exact hn) EB EB ?_)
 rintro⟨m,out,b⟩ ⟨ho,hm⟩;simp only at ho hm ⊢;by_cases h0:m=0;subst h0;rw[show (0:Int).natAbs=0 from rfl,JS,AA]at ho;repeat apply za
 refine zb ?_;refine zk rfl (zx (EK ?_));refine zY 2 rfl ?_;exact zg (zi i EC (by rw[ho];simp[zp]));repeat apply za
 refine ze [] h0 ?_;refine zm (by simp[h0]) ?_;refine zh (zj ?_);have f:yT m.natAbs=((m.natAbs%65536:Nat):Int)::yT (m.tdiv 65536).natAbs:=by rw[JT EA];congr 2;rw[Int.natAbs_tdiv];rfl
 rw[f]at ho;have j:out.length<=4:=by rw[ho]at c;simp at c;omega
 have k:(m.tdiv 65536).natAbs=m.natAbs/65536:=by rw[Int.natAbs_tdiv];rfl
 have a:-9223372036854775808<=m.tdiv 65536/\m.tdiv 65536<=9223372036854775807:=EA;have h:IntKind.i64.wrap (m.tdiv 65536)=m.tdiv 65536:=wr _ a.1 a.2;refine EK ?_;repeat apply za
 refine zb ?_;by_cases d:m.tmod 65536<0;have g:-(m.tmod 65536)=((m.natAbs%65536:Nat):Int):=by have:=Int.natAbs_tmod m 65536;have e:(65536:Int).natAbs=65536:=rfl;rw[e]at this;omega
 have w2:IntKind.i64.wrap (-(m.tmod 65536))=((m.natAbs%65536:Nat):Int):=by rw[wr _ EA EA];exact g
 refine zm (by simp[d]) ?_;refine ze [] w2 ?_;refine EK ?_;refine⟨by omega,?_⟩;refine ze [] h ?_;exact zr (m.tdiv 65536,out++[((m.natAbs%65536:Nat):Int)],b+1) [] ⟨by rw[ho];simp,a⟩ (by dsimp only;omega) EB rfl EB;have g:m.tmod 65536=((m.natAbs%65536:Nat):Int):=by have:=Int.natAbs_tmod m 65536;have e:(65536:Int).natAbs=65536:=rfl;rw[e]at this;omega
 refine zk EF ?_;refine zh (aF [] g ?_);refine⟨by omega,?_⟩;refine ze [] h ?_;exact zr (m.tdiv 65536,out++[((m.natAbs%65536:Nat):Int)],b+1) [] ⟨by rw[ho];simp,a⟩ (by dsimp only;omega) EB rfl EB
def jL:List Int->List Int->Int->List Int
 |[],[],c=>if 0<c then [c] else []
 |a::u,[],c=>(a+c)%65536::jL u [] ((a+c)/65536)
 |[],b::bs,c=>(b+c)%65536::jL [] bs ((b+c)/65536)
 |a::u,b::bs,c=>(a+b+c)%65536::jL u bs ((a+b+c)/65536)
def Tf:∀(a b:List Int) (c:Int),vR a->vR b->0<=c->c<=1->vR (jL a b c)/\yv (jL a b c)=yv a+yv b+c/\(jL a b c).length<=max a.length b.length+1:=by
 intro a;induction a with
 |nil =>
  intro b;induction b with
  |nil =>
  intro c _ _ h0 h1;simp only[jL];split;refine⟨?_,by simp[yv],by simp⟩;intro d e;simp at e;omega;refine⟨by intro d e;simp at e,by simp[yv];omega,by simp⟩
  |cons b bs m =>
  intro c g hb h0 h1;have k:=hb b EB;obtain⟨h,f,i⟩:=m ((b+c)/65536) g (λx hx=>hb x (by simp[hx])) EA EA;simp only[jL];refine⟨?_,by simp only[yv]at f ⊢;rw[f];omega,by simp at i ⊢;omega⟩;intro d e;obtain rfl|e:=Al.1 e;omega;exact h d e
 |cons a u j =>
 intro b;cases b with
 |nil =>
 intro c g hb h0 h1;have l:=g a EB;obtain⟨h,f,i⟩:=j [] ((a+c)/65536) (λx hx=>g x (by simp[hx])) hb EA EA;simp only[jL];refine⟨?_,by simp only[yv]at f ⊢;rw[f];omega,by simp at i ⊢;omega⟩;intro d e;obtain rfl|e:=Al.1 e;omega;exact h d e
 |cons b bs =>
 intro c g hb h0 h1;have l:=g a EB;have k:=hb b EB;obtain⟨h,f,i⟩:=j bs ((a+b+c)/65536) (λx hx=>g x (by simp[hx])) (λx hx=>hb x (by simp[hx])) EA EA;simp only[jL];refine⟨?_,by simp only[yv]at f ⊢;rw[f];omega,by simp at i ⊢;omega⟩;intro d e;obtain rfl|e:=Al.1 e;omega;exact h d e
def Tg(a b:List Int)(c:Int)(h:a≠[]\/b≠[]\/0<c):jL a b c=(a.headD 0+b.headD 0+c)%65536::jL a.tail b.tail ((a.headD 0+b.headD 0+c)/65536)\/(a=[]/\b=[]/\jL a b c=[c]):=by
 cases a with
 |nil =>
  cases b with
  |nil=>right;simp at h;simp[jL,h]
  |cons b bs=>left;simp[jL]
 |cons a u =>
 cases b with
 |nil=>left;simp[jL]
 |cons b bs=>left;simp[jL]
def dF(l:List Int)(k:Nat):(l.drop k).headD 0=l.getD k 0:=by simp[List.headD_eq_head?_getD,List.head?_drop,List.getD_eq_getElem?_getD]
def Th(a b:List Int)(ha:vR a)(hb:vR b)(a6:a.length<=1000)(a7:b.length<=1000):PP 218 [L a,L b] (L (jL a b 0)):=by
 refine zt func218 ntmps218 results218 λS nx hd=>?_;refine EK ?_;refine EK ?_;refine za (qO 5 3 1 rfl λv1=>?_);refine zb ?_;repeat apply za
 refine zb ?_;refine zj (zC (λs:Nat × Int × List Int × Nat=>s.1<=max a.length b.length+1/\(0<=s.2.1/\s.2.1<=1)/\s.2.2.1.length=s.1/\jL a b 0=s.2.2.1++jL (a.drop s.1) (b.drop s.1) s.2.1/\(s.1=max a.length b.length+1->s.2.1=0)) (λ(k,c,out,v1)=>[(0,L a),(1,L b),(5,.sl nx v1 1 0 out.length),(6,I c),(7,I k)])
  (λ(k,c,out,v1)=>[.cells v1 3 (out.flatMap Enc.enc)]) (λs=>max a.length b.length+1-s.1) (0,0,[],v1) [] EB EB EB ?_)
 rintro⟨k,c,out,v1⟩ ⟨hk,hc,g,ho,j⟩;simp only at hk hc g ho j ⊢;by_cases l:k<a.length\/k<b.length\/0<c;have a8:k<max a.length b.length+1:=by obtain h|h:=Bo k (max a.length b.length+1);exact h;have:=j EA;omega
 have hx:0<=a.getD k 0/\a.getD k 0<65536:=by
  rw[List.getD_eq_getElem?_getD];cases h:a[k]? with
  |none=>simp
  |some x=>exact ha x (Aa h)
 have hy:0<=b.getD k 0/\b.getD k 0<65536:=by
  rw[List.getD_eq_getElem?_getD];cases h:b[k]? with
  |none=>simp
  |some x=>exact hb x (Aa h)
 generalize i:a.getD k 0=x at hx;generalize f:b.getD k 0=y at hy;have m:∀s,s=c+x+y->jL a b 0=(out++[s%65536])++jL (a.drop (k+1)) (b.drop (k+1)) (s/65536)/\(k+1=max a.length b.length+1->s/65536=0):=by
  rintro s rfl;have u:a.drop k≠[]\/b.drop k≠[]\/0<c:=by obtain h|h|h:=l;left;intro e;have:=CO.1 e;omega;right;left;intro e;have:=CO.1 e;omega;exact .inr (.inr h)
  have r:(a.drop k).headD 0+(b.drop k).headD 0+c=c+x+y:=by rw[dF,dF,i,f];omega
  have h0:k+1=max a.length b.length+1->c+x+y=c:=by
   intro q;have v:x=0:=by rw[<-i,List.getD_eq_getElem?_getD,Ao EA];rfl
   have e2:y=0:=by rw[<-f,List.getD_eq_getElem?_getD,Ao EA];rfl
   omega
  refine⟨?_,λq=>by have:=h0 q;omega⟩;obtain e|⟨v,e2,e3⟩:=Tg (a.drop k) (b.drop k) c u;rw[ho,e,r];simp[List.tail_drop];have a9:x=0:=by rw[<-i,<-dF,v];rfl
  have b7:y=0:=by rw[<-f,<-dF,e2];rfl
  have d1:a.drop (k+1)=[]:=by rw[<-List.drop_drop,v];rfl
  have d2:b.drop (k+1)=[]:=by rw[<-List.drop_drop,e2];rfl
  have z1:(c+x+y)%65536=c:=EA;have z2:(c+x+y)/65536=0:=EA;rw[ho,e3,d1,d2,z1,z2];simp[jL]
 have w:∀s:Int,s=c+x+y->s.tmod 65536=s%65536/\IntKind.i64.wrap (s.tdiv 65536)=s/65536:=by intro s hs;refine⟨AY EA,?_⟩;rw[Bx EA,wr _ EA EA]
 obtain⟨o,p⟩:=w _ rfl;obtain⟨g1,n⟩:=m _ rfl;have wa:IntKind.i64.wrap (c+x)=c+x:=wr _ EA EA;have wb:IntKind.i64.wrap (c+x+y)=c+x+y:=wr _ EA EA;by_cases h1:k<a.length;obtain⟨t,tl,a1,a2,a3,e0⟩:=zF rfl a k h1;obtain rfl:t=x:=by rw[<-i,List.getD_eq_getElem?_getD,a1];rfl
 repeat apply za
 refine ze [(4,12),(10,18)] (zn h1 zE) ?_;refine aD ?_;refine zh (aA ?_);repeat apply za
 refine zb ?_;refine zm (by simp[h1]) ?_;refine ze [] (zD e0 h1 wa) ?_;by_cases h2:k<b.length;obtain⟨d,z,b1,b2,b3,e2⟩:=zF rfl b k h2;obtain rfl:d=y:=by rw[<-f,List.getD_eq_getElem?_getD,b1];rfl
 repeat apply za
 refine zb ?_;refine zm (by simp[h2]) ?_;refine ze [] (zD e2 h2 wb) ?_;refine aF [] o ?_;refine⟨by omega,?_⟩;refine ze [] p ?_;refine zb ?_;exact zr (k+1,(c+t+d)/65536,out++[(c+t+d)%65536],v1+1) [] ⟨by omega,by dsimp only;omega,by simp[g],g1,n⟩ EF (by simp[zu k EA]) rfl EB;obtain rfl:y=0:=by rw[<-f,List.getD_eq_getElem?_getD,Ao EA];rfl
 rw[CY]at o p g1 n;repeat apply za
 refine zb ?_;refine zk EF ?_;refine zh (aF [] o ?_);refine⟨by omega,?_⟩;refine ze [] p ?_;refine zb ?_;exact zr (k+1,(c+t)/65536,out++[(c+t)%65536],v1+1) [] ⟨by omega,by dsimp only;omega,by simp[g],g1,n⟩ EF (by simp[zu k EA]) rfl EB;obtain rfl:x=0:=by rw[<-i,List.getD_eq_getElem?_getD,Ao EA];rfl
 by_cases h2:k<b.length;obtain⟨d,z,b1,b2,b3,e2⟩:=zF rfl b k h2;obtain rfl:d=y:=by rw[<-f,List.getD_eq_getElem?_getD,b1];rfl
 have a0:(c+d).tmod 65536=(c+d)%65536:=by rw[show c+d=c+0+d by omega];exact o
 have a4:IntKind.i64.wrap ((c+d).tdiv 65536)=(c+d)/65536:=by rw[show c+d=c+0+d by omega];exact p
 have a5:IntKind.i64.wrap (c+d)=c+d:=wr _ EA EA;rw[show c+0+d=c+d by omega]at g1 n;repeat apply za
 refine ze [(4,12),(10,18)] (zD h1 h2 zE) ?_;refine aD ?_;refine zh (aA ?_);repeat apply za
 refine zb ?_;refine zk EF ?_;refine zh ?_;repeat apply za
 refine zb ?_;refine zm (by simp[h2]) ?_;refine ze [] (zD e2 h2 a5) ?_;refine aF [] a0 ?_;refine⟨by omega,?_⟩;refine ze [] a4 ?_;refine zb ?_;exact zr (k+1,(c+d)/65536,out++[(c+d)%65536],v1+1) [] ⟨by omega,by dsimp only;omega,by simp[g],g1,n⟩ EF (by simp[zu k EA]) rfl EB;obtain rfl:y=0:=by rw[<-f,List.getD_eq_getElem?_getD,Ao EA];rfl
 have h3:0<c:=EA;obtain rfl:c=1:=EA;rw[show (1:Int)+0+0=1 by rfl]at o p g1 n;repeat apply za
 refine ze [(4,12),(10,18)] (zn h1 h2) ?_;refine aD ?_;refine zh (aA ?_);repeat apply za
 refine zb ?_;refine zk EF ?_;refine zh ?_;repeat apply za
 refine zb ?_;refine zk EF ?_;refine zh (aF [] o ?_);refine⟨by omega,?_⟩;refine ze [] p ?_;refine zb ?_;exact zr (k+1,(1:Int)/65536,out++[(1:Int)%65536],v1+1) [] ⟨by omega,by dsimp only;omega,by simp[g],g1,n⟩ EF (by simp[zu k EA]) rfl EB;have h1:¬k<a.length:=EA;have h2:¬k<b.length:=EA;have h3:¬0<c:=EA;rw[AT EA,AT EA]at ho;simp only[jL,h3,if_false,AA]at ho;repeat apply za
 refine ze [(4,12),(10,18)] (zD h1 h2 h3) ?_;refine aE ?_;refine zx (EK ?_);refine zY 0 rfl ?_;exact zg (zi hd EC (by rw[ho];simp[zp]))
def Ti{l:List Int}(h:l=[]\/∃m x,l=m++[x]/\x≠0):XU l:=by
 obtain rfl|⟨m,x,rfl,hx⟩:=h;trivial;induction m with
 |nil=>exact hx
 |cons a m c =>
 cases m with
 |nil=>exact hx
 |cons b m=>exact c
def Tj(l:List Int)(k:Nat)(h:∀d∈l.drop k,d=0):yv l=yv (l.take k):=by
 have b:∀m:List Int,(∀d∈m,d=0)->yv m=0:=by
  intro m;induction m with
  |nil=>intro _;rfl
  |cons a m c=>intro h;simp only[yv];rw[c λd e=>h d (by simp[e]),h a EB];rfl
 conv=>lhs;rw[<-List.take_append_drop k l]
 rw[dD,b _ h];simp
def Tk(l:List Int)(neg:Bool)(hl:vR l)(hn:l.length<=1000):PP 217 [.agg [L l,B neg]] (.agg [L (yT (yv l).toNat),B (if yT (yv l).toNat=[] then false else neg)]):=by
 refine zt func217 ntmps217 results217 λS nx n=>?_;refine EK ?_;intro v0 v1;have u:∀k,k<=l.length->((l.flatMap Enc.enc).take k)=((l.take k).flatMap Enc.enc):=λk _=>by have:=Jx (α:=Int) Enc.enc 1 (λ_=>rfl) l k;rw[BU]at this;exact this
 refine za (qT (nx:=nx) (σ:=Unit) (λ_=>True) (λ_=>[(1,.ptr nx v0 0),(2,.ptr (nx+1) v1 0)]) (λ_=>S) (λ_=>[.cells v0 236 [L (yT (yv l).toNat),B neg],.cells v1 236 [.sc (.slice none 0 0),B false]]) ?_ ?_)
 .refine zj (zC (λs:Nat=>s<=l.length/\(∀d∈l.drop s,d=0)) (λk=>[(1,.ptr nx v0 0),(2,.ptr (nx+1) v1 0)]) (λk=>[.cells v0 236 [L (l.take k),B neg],.cells v1 236 [.sc (.slice none 0 0),B false]]) (λs=>s) l.length [] EB EB EB ?_);rintro k ⟨o,ho⟩;have c:(l.take k).length=k:=EF;have stop:XU (l.take k)->L (l.take k)=L (yT (yv l).toNat):=by intro h;rw[Tj l k ho,<-Te (λd n=>hl d (Bu n)) h]
  match k,o with
  |0,_ =>
  repeat apply za
  refine ze [(4,7)] zE ?_;refine zk rfl (zx (yb () [] trivial EB rfl ?_));have:=stop trivial;simp only[Df]at this;simp[this]
  |j+1,o =>
  obtain⟨d,tl,x,w,a3,y⟩:=zF rfl l j EA;have p:IntKind.i64.wrap ((j:Int)+1-1)=(j:Int):=by rw[wr _ EA EA];omega
  have f:IntKind.i64.wrap (j:Int)=(j:Int):=wr _ EA EA;have b:((l.take (j+1)).flatMap Enc.enc).drop j=[I d]:=by rw[a3,Ar,BY (by rw[jY];simp;omega),AT (by rw[jY];simp;omega)];rfl
  have g:(j:Int)<(j:Int)+1:=EA;by_cases h0:d=0;repeat apply za
  refine ze [(4,7)] (zU c p f b g h0) ?_;refine aD ?_;refine zh (zj ?_);have i:((l.take (j+1)).flatMap Enc.enc).take j=(l.take j).flatMap Enc.enc:=by rw[<-u (j+1) o,DH,u _ EA];congr 2;omega
  have r:(l.take j).length=j:=EF;refine ze [] (zR c p f i) ?_;exact zr j [] ⟨by omega,λe v=>by rw[w]at v;obtain q|q:=Al.1 v;exact q.trans h0;exact ho e q⟩ EA EB rfl (by simp[r,i]);repeat apply za
  refine ze [(4,7)] (zU c p f b g h0) ?_;refine aE ?_;have:=stop (Ti (.inr ⟨l.take j,d,a3,h0⟩));refine zx (yb () [] trivial EB rfl (by rw[this];rfl))
 intro _ _;have t:=JU (yv l).toNat;generalize yT (yv l).toNat=m at t ⊢;cases m with
 |nil =>
 repeat apply za
 refine zb ?_;refine aD ?_;refine zb ?_;refine EK ?_;exact EL n
 |cons a m =>
 have h1:¬((m.length:Int)+1=0):=EA;repeat apply za
 refine ze [] h1 ?_;refine aC (EK ?_);exact EL n
def Qn:List Int->List Int->Int
 |x::a,y::b=>if x<y then -1 else if y<x then 1 else Qn a b
 |_,_=>0
def JV(a b:List Int):Int:=if a.length<b.length then -1 else if b.length<a.length then 1 else Qn a.reverse b.reverse
def Tl(a b:List Int)(l:a.length<=1000)(hb:b.length<=1000):PP 216 [L a,L b] (I (JV a b)):=by
 refine zt func216 ntmps216 results216 λS nx d=>?_;refine EK ?_;by_cases h1:a.length=b.length;case neg =>
  have c:¬((a.length:Int)=b.length):=EA;repeat apply za
  refine ze [] c ?_;refine zm (by simp[c]) ?_;by_cases h2:a.length<b.length;repeat apply za
  refine zb ?_;refine zm (by simp[h2]) ?_;refine EK ?_;exact zg (zi d EC (by simp[JV,h2,zp]));repeat apply za
  refine zb ?_;refine zk EF ?_;refine zh (EK ?_);exact zg (zi d EC (by simp[JV,h2,show b.length<a.length by omega,zp]))
 have e:JV a b=Qn a.reverse b.reverse:=by simp[JV,h1]
 rw[e];have c:((a.length:Int)=b.length):=EA;repeat apply za
 refine ze [] c ?_;refine zk (by simp[c]) ?_;refine zh ?_;repeat apply za
 refine zb ?_;have w0:IntKind.i64.wrap ((a.length:Int)-1)=(a.length:Int)-1:=wr _ EA EA;refine zj (zC (λm:Nat=>m<=a.length/\Qn a.reverse b.reverse=Qn (a.take m).reverse (b.take m).reverse) (λm=>[(0,L a),(1,L b),(5,I ((m:Int)-1))]) (λ_=>[]) (λm=>m) a.length [] ⟨Af _,by rw[Ah,Ae EA]⟩ (by simp[w0]) EB ?_);rintro m ⟨hm,ho⟩
 match m,hm with
 |0,_ =>
 repeat apply za
 refine zb ?_;refine aE ?_;refine zx (EK ?_);exact zg (zi d EC (by rw[ho];simp[Qn,zp]))
 |j+1,hm =>
 have s1:((j+1:Nat):Int)-1=(j:Int):=EA;obtain⟨x,tl,n,o,a3,g⟩:=zF rfl a j EA;obtain⟨y,i,b1,b2,b3,e2⟩:=zF rfl b j EA;rw[a3,b3]at ho;simp only[Dz,CC,DX,AI,List.cons_append,Qn]at ho;have g1:j<a.length:=EA;have h:j<b.length:=EA;have s2:(j:Int)+1-1=(j:Int):=EA;repeat apply za
 refine ze [] (zn s1 s2) ?_;refine aD ?_;refine zh (aA ?_);repeat apply za
 refine zA none Rg mixed (zU s1 s2 g1 h g e2) ?_;by_cases h3:x<y;repeat apply za
 refine zm (by simp[h3]) ?_;refine EK ?_;exact zg (zi d EC (by rw[ho,if_pos h3];rfl));repeat apply za
 refine zk EF ?_;refine zh (aG none Rg mixed (zU s1 s2 g1 h g e2) ?_);by_cases f:y<x;repeat apply za
 refine zm (by simp[f]) ?_;refine EK ?_;exact zg (zi d EC (by rw[ho,if_neg h3,if_pos f];rfl));repeat apply za
 refine zk EF ?_;refine zh ?_;have k:IntKind.i64.wrap ((j:Int)-1)=(j:Int)-1:=wr _ EA EA;refine ze [] (zD s1 s2 k) ?_;exact zr j [] ⟨by omega,by rw[ho,if_neg h3,if_neg f]⟩ EA EB rfl EB
def iA(l:List Int)(h:vR l)(k:Nat):0<=yv (l.take k)/\yv (l.take k)<65536^k:=by
 have b:vR (l.take k):=λd b=>h d (Bu b);refine⟨iz b,?_⟩;have a:∀(k:Nat) (m:List Int),vR m->m.length<=k->yv m<65536^k:=by
  intro k;induction k with
  |zero=>intro m _ hm;simp at hm;subst hm;simp[yv]
  |succ k c =>
  intro m hm hl;cases m with
  |nil=>simp only[yv];exact Int.pow_pos EH
  |cons d m =>
  have h1:=hm d EB;have h2:=c m (λx hx=>hm x (by simp[hx])) (by simpa using hl);simp only[yv,En];omega
 exact a k _ b EF
def Tm:∀(m:Nat) (a b:List Int),vR a->vR b->a.length=m->b.length=m->yv a<=yv b->Qn a.reverse b.reverse<=0:=by
 intro m;induction m with
 |zero=>intro a b _ _ k hb _;rw[Av k];simp[Qn]
 |succ m q =>
 intro a b k hb i j hv;have c:a≠[]:=by intro e;subst e;cases i
 have f:b≠[]:=by intro e;subst e;cases j
 obtain⟨a',x,rfl⟩:∃a' x,a=a'++[x]:=⟨a.dropLast,a.getLast c,(Dv c).symm⟩;obtain⟨b',y,rfl⟩:∃b' y,b=b'++[y]:=⟨b.dropLast,b.getLast f,(Dv f).symm⟩;have g:a'.length=m:=by simpa using i
 have h:b'.length=m:=by simpa using j
 have l:vR a':=λd n=>k d (by simp[n]);have o:vR b':=λd n=>hb d (by simp[n]);have r:=iA (b'++[y]) hb m;have s:=iA (a'++[x]) k m;rw[BF EA,Ae EA]at r s;rw[dD,dD,g,h]at hv;simp only[yv,Int.mul_zero,CY]at hv;simp only[Dz,CC,DX,AI,List.cons_append,Qn];by_cases h1:x<y;rw[if_pos h1];omega;rw[if_neg h1];by_cases h2:y<x;exfalso;have:(65536:Int)^m*x>=65536^m*(y+1):=B0 EA EA;rw[B6]at this;omega;rw[if_neg h2];have p:x=y:=EA;subst p;exact q a' b' l o g h EA
def Tn{a b:Nat}(h:a<=b):(yT a).length<=(yT b).length:=by
 induction b using Nat.strongRecOn generalizing a with
 |_ b c =>
 by_cases h0:a=0;subst h0;rw[JS];simp;rw[JT h0,JT (show b≠0 by omega)];have:=c (b/65536) EA (a:=a/65536) (Nat.div_le_div_right h);simpa using this
def To{a b:Nat}(h:a<=b):JV (yT a) (yT b)<=0:=by have hl:=Tn h;unfold JV;split;omega;rw[if_neg EA];have h1:=JU a;have h2:=JU b;exact Tm _ _ _ h1.1 h2.1 rfl EA (by rw[h1.2.1,h2.2.1];omega)
def dG(h:n<=18446744073709551615):(yT n).length<=4:=(JU n).2.2.2 (by rw[show (65536:Nat)^4=18446744073709551616 from by decide];omega)
def Tp(a b:Nat)(h:a<=9223372036854775807)(hb:b<=9223372036854775807):PP 165 [.agg [L (yT a),B false],.agg [L (yT b),B false]] (.agg [L (yT (a+b)),B false]):=by
 have h1:=JU a;have h2:=JU b;have i:=dG (n:=a) EA;have l2:=dG (n:=b) EA;obtain⟨e,f,j⟩:=Tf (yT a) (yT b) 0 h1.1 h2.1 EA EA;have hv:(yv (jL (yT a) (yT b) 0)).toNat=a+b:=by rw[f,h1.2.1,h2.2.1];omega
 have d:=Th (yT a) (yT b) h1.1 h2.1 EA EA;have c:=Tk (jL (yT a) (yT b) 0) false e EA;rw[hv,ite_self]at c;generalize yT a=x at *;generalize yT b=y at *;generalize jL x y 0=z at *;refine zt func165 ntmps165 results165 λS nx g=>?_;refine EK ?_;intro v0 v1 k;repeat apply za
 refine zb ?_;refine aD ?_;refine aG (some [nx,nx+1]) (Row.pures [0,1,2,3,4,5,6,7,8] (.alt 9 (.done) .stop)) mixed trivial ?_;refine zJ (d) trivial ?_;refine zJ (c) trivial ?_;exact EL g
def Tq(n:Nat)(hn:n<=9223372036854775807):PP 164 [.agg [L (yT n),B false]] (.tup [I n,B true]):=by
 have h1:=JU n;have z:=dG (n:=n) EA;have k:=To (a:=n) (b:=9223372036854775807) hn;have hs:=Tl (yT n) (yT 9223372036854775807) EA (by have:=dG (n:=9223372036854775807) EA;omega);have g:=dE 9223372036854775807 (by unfold zL;omega);have h:=dE (-9223372036854775808) (by unfold zL;omega);rw[show ((9223372036854775807:Int)).natAbs=9223372036854775807 from rfl,show decide ((9223372036854775807:Int)<0)=false from rfl]at g;rw[show decide ((-9223372036854775808:Int)<0)=true from rfl]at h;generalize yT (-9223372036854775808:Int).natAbs=lo at *;generalize yT 9223372036854775807=hi at *;generalize o:yT n=l at *;have p:¬0<JV l hi:=EA;refine zt func164 ntmps164 results164 λS nx c=>?_;refine EK ?_;intro v0;refine EK ?_;refine zq g ?_;intro v1;refine EK ?_;refine zq h ?_;intro v2;repeat apply za
 refine ze [(3,13)] trivial ?_;refine yP [(3,13)] hs p ?_;refine aC ?_;repeat apply za
 refine ze [(2,23)] zE ?_;refine aC (EK ?_);have w0:IntKind.i64.wrap ((l.length:Int)-1)=(l.length:Int)-1:=wr _ EA EA;repeat apply za
 refine ze [] w0 ?_;refine zj (zC (λm:Nat=>m<=l.length) (λm=>[(1,.ptr nx v0 0),(6,I (yv (l.drop m))),(7,I ((m:Int)-1))]) (λ_=>[.cells v0 236 [L l,B false]]) (λm=>m) l.length [_,_] (Af _) (by simp[yv]) rfl ?_);rintro m hm
 match m,hm with
 |0,_ =>
 repeat apply za
 refine zb ?_;refine aE ?_;refine zx (EK ?_);exact zg (zi c EC (by simp[h1.2.1,zp]))
 |j+1,hm =>
 have s1:((j+1:Nat):Int)-1=(j:Int):=EA;have s2:(j:Int)+1-1=(j:Int):=EA;obtain⟨x,tl,q,r,a3,s⟩:=zF rfl l j EA;have g1:j<l.length:=EA;have hx:=h1.1 x (Aa q);have t:0<=yv (l.drop (j+1)):=iz λd c=>h1.1 d (BS c);have u:yv (l.drop j)=x+65536*yv (l.drop (j+1)):=by rw[r];rfl
 have i:yv (l.drop j)<=n:=by
  have e:=dD (l.take j) (l.drop j);rw[List.take_append_drop,h1.2.1]at e;have t0:=(iA l h1.1 j).1;have v:(1:Int)<=65536^(l.take j).length:=by have:=Int.pow_pos (n:=65536) (m:=(l.take j).length) EH;omega
  have f:0<=yv (l.drop j):=EA;have:=Dj v f;rw[Int.one_mul]at this;omega
 have w:IntKind.i64.wrap (yv (l.drop (j+1))*65536)=yv (l.drop (j+1))*65536:=wr _ EA EA;have w2:IntKind.i64.wrap (yv (l.drop (j+1))*65536+x)=yv (l.drop j):=by rw[wr _ EA EA];omega
 have y:IntKind.i64.wrap ((j:Int)-1)=(j:Int)-1:=wr _ EA EA;repeat apply za
 refine ze [] (zn s1 s2) ?_;refine aD ?_;refine zh (aA (aF [] w ?_));refine EK ?_;refine aE ?_;refine ze [] (yx s1 s2 g1 s w2) ?_;refine ze [] (zD s1 s2 y) ?_;exact zr j [] EA EA EB rfl EB
def Tr(a b:Int)(f:0<=a)(hb:0<=b)(g:a+b<=9223372036854775807):PP 132 [I a,I b] (I (a+b)):=by
 obtain⟨x,rfl⟩:=Au f;obtain⟨y,rfl⟩:=Au hb;have c:=dE (x:Int) (by unfold zL;omega);have d:=dE (y:Int) (by unfold zL;omega);rw[Int.natAbs_natCast,decide_eq_false EA]at c d;have h3:=Tp x y EA EA;have e:=Tq (x+y) EA;rw[show ((x+y:Nat):Int)=(x:Int)+(y:Int) by omega]at e;refine zt func132 ntmps132 results132 λS nx h=>?_;refine EK ?_;refine EK ?_;refine zq c ?_;refine zq d ?_;refine zq h3 ?_;refine zq e ?_;repeat apply za
 refine zb ?_;refine aD ?_;refine EK ?_;exact EL h
def Ts(c:Cust)(ns:List Int)(hn:ns.length<=1048576):PP 87 [.agg (yh c),L ns] (I (xQ c ns)):=by
 refine zt func87 ntmps87 results87 λS nx a=>?_;refine EK ?_;intro v0;refine EK ?_;repeat apply za
 refine zb ?_;refine zj (zC (λs:Nat=>s<=ns.length) (λk=>[(1,L ns),(2,.ptr nx v0 0),(5,I (W (ns.take k).sum)),(6,I k)]) (λ_=>[.cells v0 59 (yh c)]) (λs=>ns.length-s) 0 [] EB EB EB ?_);rintro k e;repeat apply za
 refine zb ?_;refine zv rfl (λhc=>?_) (λhc=>?_);simp at hc;obtain⟨z,tl,f,g,a3,b⟩:=zF rfl ns k hc;refine zh (aA ?_);have d:W (W (ns.take k).sum+z)=W (ns.take (k+1)).sum:=by rw[a3,W6,uN]
 refine ze [] (zn b hc) ?_;refine zb ?_;exact zr (k+1) [] hc EA (by simp[zu k EA];exact d) rfl EB;simp at hc;obtain rfl:k=ns.length:=EA;rw[Ah];refine zx (EK ?_);exact EL a
variable {q:List Int}
def iB(h:∀z∈q,0<=z/\z<=2147483648):∀k:Nat,k<=q.length->0<=(q.take k).sum/\(q.take k).sum<=2147483648*k:=by
 intro k;induction k with
 |zero=>intro _;simp
 |succ k a =>
 intro b;have:=a EA;have c:=h q[k] (AZ EA);rw[AU EA,W6];omega
def Tt(c:Cust)(q:List Int)(hc:CustFits c)(hq:q.length<=1048576):PP 84 [.agg (yh c),L q] (.tup [L (yS c q).1,I (yS c q).2]):=by
 obtain⟨x,a7,p⟩:=hc;refine zt func84 ntmps84 results84 λS nx g=>?_;refine EK ?_;intro v0;repeat apply za
 refine zb ?_;refine qT (nx:=nx) (σ:=Nat) (λv0=>q.any wK=false) (λv0=>[(1,L q),(2,.ptr nx v0 0)]) (λ_=>S) (λv0=>[.cells v0 59 (yh c)]) ?_ ?_;refine zj (zC (λs:Nat=>s<=q.length/\(q.take s).any wK=false) (λk=>[(1,L q),(2,.ptr nx v0 0),(6,I k)]) (λ_=>[.cells v0 59 (yh c)]) (λs=>q.length-s) 0 [] EB EB EB ?_);rintro k ⟨r,ho⟩;repeat apply za
 refine zb ?_;refine zv rfl (λhc=>?_) (λhc=>?_);simp at hc;obtain⟨z,tl,t,a2,a3,o⟩:=zF rfl q k hc;have bad:wK z=true->yS c q=([],1):=λh=>by
  have:q.any wK=true:=by rw[BZ];exact⟨z,Aa t,h⟩
  simp[yS,this]
 refine zh (aA ?_);by_cases h1:z<0;refine aF [(5,23)] (zR o hc h1 zE) ?_;refine zm rfl (EK ?_);refine Zh 4 rfl ?_;exact zg (zi g EC (by rw[bad (by simp[wK,h1])];rfl));by_cases h2:(2147483648:Int)<z;refine aF [(5,23)] (zR o hc h1 h2) ?_;refine zm rfl (EK ?_);refine Zh 4 rfl ?_;exact zg (zi g EC (by rw[bad (by simp[wK,h2])];rfl));refine aF [(5,23)] (zR o hc h1 h2) ?_;refine zk rfl (zh (zb ?_));exact zr (k+1) [] ⟨hc,by rw[a3,Ea,ho];simp[wK];omega⟩ EA (by simp[zu k EA]) rfl EB;simp at hc;obtain rfl:k=q.length:=EA;rw[Ah]at ho;exact zx (yb v0 [] ho EB rfl EB);intro v0 hb;have b:∀z∈q,0<=z/\z<=2147483648:=by intro z hz;rw[CB]at hb;have:=hb z hz;simp[wK]at this;omega
 have d:yS c q=match yk c.size c.D c.H q with|none=>([],8)|some l=>(l,0):=by unfold yS;rw[hb];rfl
 refine EK ?_;refine qO 7 3 1 rfl λv1=>?_;repeat apply za
 refine zb ?_;refine zj (zC (λs:Nat × List Int × Nat=>s.1<=q.length/\s.2.1.length=s.1/\(0<=c.H+(q.take s.1).sum-c.D*s.1/\c.H+(q.take s.1).sum-c.D*s.1<=2147483648)/\yk c.size c.D c.H q=(yk c.size c.D (c.H+(q.take s.1).sum-c.D*s.1) (q.drop s.1)).map (s.2.1++·))
  (λ(k,out,v1)=>[(1,L q),(2,.ptr nx v0 0),(7,.sl (nx+1) v1 1 0 out.length),(8,I k)])
  (λ(k,out,v1)=>[.cells v0 59 (yh c),.cells v1 3 (out.flatMap Enc.enc)]) (λs=>q.length-s.1) (0,[],v1) [] ?_ EB EB ?_)
 refine⟨by simp,by simp,by simpa using p,?_⟩;simp;rintro⟨k,out,v1⟩ ⟨r,i,m,ho⟩;simp only at r i m ho ⊢;repeat apply za
 refine zb ?_;refine zv rfl (λhc=>?_) (λhc=>?_);simp at hc;obtain⟨z,tl,t,a2,a3,o⟩:=zF rfl q k hc;have hz:=b z (Aa t);have a0:=iB b k r;have a4:=iB b (k+1) hc;have a5:(q.take (k+1)).sum=(q.take k).sum+z:=by rw[a3,W6]
 have a8:0<=c.D*k/\c.D*k<=2147483648*1048576:=⟨Bc x.1 EA,Bm x.2 EA EA EA⟩;rw[a2]at ho;refine zh (aA (EK ?_));repeat apply za
 refine zb ?_;refine qT (nx:=nx) (σ:=Nat) (λ_=>True) (λv1=>[(1,L q),(2,.ptr nx v0 0),(7,.sl (nx+1) v1 1 0 out.length),(8,I k),(9,I (c.H+(q.take (k+1)).sum))]) (λ_=>S) (λv1=>[.cells v0 59 (yh c),.cells v1 3 (out.flatMap Enc.enc)]) ?_ ?_;refine zj (zC (λs:Nat=>s<=k+1) (λj=>[(1,L q),(2,.ptr nx v0 0),(7,.sl (nx+1) v1 1 0 out.length),(8,I k),(9,I (c.H+(q.take j).sum)),(10,I j)]) (λ_=>[.cells v0 59 (yh c),.cells v1 3 (out.flatMap Enc.enc)]) (λs=>k+1-s) 0 [] EB EB EB ?_);rintro j hj;repeat apply za
 refine zb ?_;refine zv rfl (λe=>?_) (λe=>?_);simp at e;obtain⟨y,a9,b1,b2,b3,e2⟩:=zF rfl q j EA;have b7:=iB b (j+1) EA;have u:j<q.length:=EA;have f:c.H+(q.take j).sum+y=c.H+(q.take (j+1)).sum:=by rw[b3,W6];omega
 have v:IntKind.i64.wrap (c.H+(q.take (j+1)).sum)=c.H+(q.take (j+1)).sum:=wr _ EA EA;refine zh (aA (ze [] (zR e2 u f v) ?_));refine zb ?_;exact zr (j+1) [] EA EA (by simp[zu j EA]) rfl EB;simp at e;obtain rfl:j=k+1:=EA;exact zx (yb v1 [] trivial EB rfl EB);intro v1 _;have v:IntKind.i64.wrap (c.D*(k:Int))=c.D*(k:Int):=wr _ EA EA;have n:c.H+(q.take (k+1)).sum-c.D*(k:Int)=(c.H+(q.take k).sum-c.D*(k:Int))+z:=EA;generalize a6:c.H+(q.take k).sum-c.D*(k:Int)=there at m ho n;have w2:IntKind.i64.wrap (there+z)=there+z:=wr _ EA EA;have w:IntKind.i64.wrap (there+z-c.D)=there+z-c.D:=wr _ EA EA;have bad:(c.size<there+z\/there+z<c.D)->yS c q=([],8):=λh=>by rw[d,ho];simp only[yk,if_pos h,Eb]
 refine aF [] (zD v n w2) ?_;by_cases h1:c.size<there+z;repeat apply za
 refine ze [(4,59)] (zn h1 zE) ?_;refine zm rfl (EK ?_);refine Zh 4 rfl ?_;exact zg (zi g EC (by rw[bad (.inl h1)];rfl));by_cases h2:there+z-c.D<0;repeat apply za
 refine ze [(4,59)] (zD h1 h2 w) ?_;refine zm rfl (EK ?_);refine Zh 4 rfl ?_;exact zg (zi g EC (by rw[bad (.inr EA)];rfl));repeat apply za
 refine ze [(4,59)] (zD h1 h2 w) ?_;refine zk rfl (zh (ze [] w ?_));refine⟨by omega,?_⟩;refine zb ?_;have a:c.H+(q.take (k+1)).sum-c.D*((k+1:Nat):Int)=there+z-c.D:=by
  have:c.D*((k+1:Nat):Int)=c.D*(k:Int)+c.D:=by rw[show ((k+1:Nat):Int)=(k:Int)+1 by omega,B6,Int.mul_one]
  omega
 exact zr (k+1,out++[there+z-c.D],v1+1) [] ⟨hc,by simp[i],by dsimp only;rw[a];omega,by dsimp only;rw[a];exact rR ho h1 EA⟩ EF (by simp[zu k EA]) rfl EB;simp at hc;obtain rfl:k=q.length:=EA;rw[Bz]at ho;simp only[yk,AR,AA]at ho;refine zx (EK ?_);refine zY 1 rfl ?_;exact zg (zi g EC (by rw[d,ho];simp[zp]))
def Tu:∀{q:List Int} {there:Int} {l:List Int},yk size e there q=some l->l.length=q.length:=by
 intro q;induction q with
 |nil=>intro there l h;simp only[yk,Option.some.injEq]at h;subst h;rfl
 |cons z q a =>
 intro there l h;simp only[yk]at h;split at h;cases h;obtain⟨l2,h2,rfl⟩:=An.1 h;simp[a h2]
def ax(v:List Visit)(k:Nat):List Int:=(List.range k).map λ(d:Nat)=>((v.filter λs=>decide (s.d=(d:Int))).map (·.q)).sum
def Tv(v:List Visit)(n:Int)(hv:VisOk v):PP 85 [L v,I n] (L (z8 v n)):=by
 have p:=hv.n;have e:z8 v n=ax v (min (max n 0) 64).toNat:=rfl;rw[e];refine zt func85 ntmps85 results85 λS nx r=>?_;refine EK ?_;repeat apply za
 refine zb ?_;refine qT (nx:=nx) (σ:=Unit) (λ_=>True) (λ_=>[(0,L v),(1,I (min n 64))]) (λ_=>S) (λ_=>[]) ?_ ?_;by_cases h:(64:Int)<n;refine zm (by simp[h]) ?_;refine zb ?_;exact yb () [] trivial EF rfl EB;refine zk EF ?_;exact zh (yb () [] trivial EF rfl EB);intro _ _;generalize hm:(min (max n 0) 64).toNat=m;have l:m<=64:=EA;have c:∀k:Nat,((k:Int)<min n 64)=(k<m):=λk=>propext ⟨λh=>by omega,λh=>by omega⟩;refine EK ?_;refine qO 5 3 1 rfl λv1=>?_;repeat apply za
 refine zb ?_;refine zj (zC (λs:Nat × List Int × Nat=>s.1<=m/\s.2.1=ax v s.1) (λ(k,out,v1)=>[(0,L v),(1,I (min n 64)),(5,.sl nx v1 1 0 out.length),(6,I k)]) (λ(k,out,v1)=>[.cells v1 3 (out.flatMap Enc.enc)]) (λs=>m-s.1) (0,[],v1) [] (by simp[ax]) EB EB ?_);rintro⟨k,out,v1⟩ ⟨t,ho⟩;simp only at t ho ⊢;have u:out.length=k:=by rw[ho];simp[ax]
 by_cases hc:k<m;repeat apply za
 refine ze [] (zn c hc) ?_;refine aD ?_;refine zh (aA (EK ?_));repeat apply za
 refine zb ?_;refine qT (nx:=nx) (σ:=Nat) (λ_=>True) (λv1=>[(0,L v),(1,I (min n 64)),(5,.sl nx v1 1 0 out.length),(6,I k),(7,I ((v.filter λs=>decide (s.d=(k:Int))).map (·.q)).sum)]) (λ_=>S) (λv1=>[.cells v1 3 (out.flatMap Enc.enc)]) ?_ ?_;refine zj (zC (λs:Nat=>s<=v.length) (λj=>[(0,L v),(1,I (min n 64)),(5,.sl nx v1 1 0 out.length),(6,I k),(7,I (((v.take j).filter λs=>decide (s.d=(k:Int))).map (·.q)).sum),(8,I j)]) (λ_=>[.cells v1 3 (out.flatMap Enc.enc)]) (λs=>v.length-s) 0 [] EB EB EB ?_);rintro j hj;repeat apply za
 refine zb ?_;refine zv rfl (λa=>?_) (λa=>?_);simp at a;obtain⟨s,tl,w,a2,a3,y,o⟩:=el 2 rfl v j a;have f:=hv.q s (Aa w);have z:(v.take j).length<=1048576:=EF;have g:=rU (v.take j) (λs=>decide (s.d=(k:Int))) (λx hx=>hv.q x (Bu hx));have i:=y 1 EA;refine zh (aA ?_);by_cases h:s.d=(k:Int);have b:(((v.take j).filter λs=>decide (s.d=(k:Int))).map (·.q)).sum+s.q=(((v.take (j+1)).filter λs=>decide (s.d=(k:Int))).map (·.q)).sum:=by rw[a3];simp[h]
 refine aF [] (zD o a h) ?_;refine aD ?_;refine ze [] (zn i a) ?_;refine zq (Tr _ _ g.1 f.1 EA) ?_;refine zb ?_;exact zr (j+1) [] a EA (by simp[zu j EA];exact b) rfl EB;have b:(((v.take j).filter λs=>decide (s.d=(k:Int))).map (·.q)).sum=(((v.take (j+1)).filter λs=>decide (s.d=(k:Int))).map (·.q)).sum:=by rw[a3];simp[h]
 refine aF [] (zD o a h) ?_;refine aC (zb ?_);exact zr (j+1) [] a EA (by simp[zu j EA];exact b) rfl EB;simp at a;obtain rfl:j=v.length:=EA;rw[Ah];exact zx (yb v1 [] trivial EB rfl EB);intro v1 _;refine zb ?_;refine⟨by omega,?_⟩;refine zb ?_;exact zr (k+1,out++[((v.filter λs=>decide (s.d=(k:Int))).map (·.q)).sum],v1+1) [] ⟨hc,by rw[ho];simp[ax,AC]⟩ EF (by simp[zu k EA]) rfl EB;obtain rfl:k=m:=EA;repeat apply za
 refine ze [] c ?_;refine aE ?_;refine zx (EK ?_);refine zY 0 rfl ?_;exact zg (zi r EC (by rw[ho];simp[zp]))
def Tw(p:zy)(c:Int)(l:PlanOk p):PP 86 [.agg [L p],I c] (L (zW c (told 0 p))):=by
 have o:=l.told;have u:∀pre rest,told 0 p=pre++rest->(zW c pre).length<=1048576:=λpre rest e=>by have:=iu c pre;have:=congrArg List.length e;simp at this;omega
 refine zt func86 ntmps86 results86 λS nx v=>?_;refine EK ?_;intro v0;refine EK ?_;refine za (qO 5 197 2 rfl λv1=>?_);refine EK ?_;refine zj (zC (λs:Nat × List (Stop × Nat) × Nat=>s.1<=p.length/\told 0 p=s.2.1++told s.1 (p.drop s.1)) (λ(a,pre,v1)=>[(1,I c),(2,.ptr nx v0 0),(5,.sl (nx+1) v1 2 0 (zW c pre).length),(6,I a)]) (λ(a,pre,v1)=>[.cells v0 31 [L p],.cells v1 197 ((zW c pre).flatMap Enc.enc)]) (λs=>p.length-s.1) (0,[],v1) [] EB (by simp[zW]) (by simp[zW]) ?_);rintro⟨a,pre,v1⟩ ⟨w,f⟩;simp only at w f ⊢;have x:=l.n;repeat apply za
 refine zb ?_;refine zv rfl (λhc=>?_) (λhc=>?_);simp at hc;obtain⟨d,tl,y,z,a3,q⟩:=zF rfl p a hc;have k:=Aa y;have a0:=l.d d k;rw[z]at f;simp only[told]at f;refine zh (aA (EK ?_));refine zj (zC (λs:Nat × List (Stop × Nat) × Nat=>s.1<=d.length/\told 0 p=s.2.1++((d.drop s.1).flatten.map (·,a)++told (a+1) (p.drop (a+1)))) (λ(b,pre,v1)=>[(1,I c),(2,.ptr nx v0 0),(5,.sl (nx+1) v1 2 0 (zW c pre).length),(6,I a),(7,I b)]) (λ(b,pre,v1)=>[.cells v0 31 [L p],.cells v1 197 ((zW c pre).flatMap Enc.enc)]) (λs=>d.length-s.1) (0,pre,v1) [] (by simp[f]) EB EB ?_);rintro⟨b,pre,v1⟩ ⟨hb,f⟩;simp only at hb f ⊢;repeat apply za
 refine ze [] (zn q hc) ?_;refine zv rfl (λi=>?_) (λi=>?_);simp at i;obtain⟨t,a4,b1,b2,b3,e2⟩:=zF rfl d b i;have a5:=l.t d k t (Aa b1);rw[b2]at f;simp only[Bh,List.map_append,List.append_assoc]at f;refine zh (aA (aF [] (zR q hc e2 i) ?_));refine EK ?_;refine zj (zC (λs:Nat × List (Stop × Nat) × Nat=>s.1<=t.length/\told 0 p=s.2.1++((t.drop s.1).map (·,a)++((d.drop (b+1)).flatten.map (·,a)++told (a+1) (p.drop (a+1))))) (λ(j,pre,v1)=>[(1,I c),(2,.ptr nx v0 0),(5,.sl (nx+1) v1 2 0 (zW c pre).length),(6,I a),(7,I b),(8,L t),(9,I j)]) (λ(j,pre,v1)=>[.cells v0 31 [L p],.cells v1 197 ((zW c pre).flatMap Enc.enc)]) (λs=>t.length-s.1) (0,pre,v1) [] (by simp[f]) EB EB ?_);rintro⟨j,pre,v1⟩ ⟨hj,f⟩;simp only at hj f ⊢;repeat apply za
 refine zb ?_;refine zv rfl (λg=>?_) (λg=>?_);simp at g;obtain⟨s,a6,c1,c2,c3,e4,r⟩:=el 2 rfl t j g;have m:=e4 1 EA;rw[c2]at f;simp only[Ap,List.cons_append]at f;have hl:=u pre _ f;refine zh (aA ?_);by_cases h:s.c=c;refine aF [] (zD r g h) ?_;refine aD ?_;refine ze [] (zn m g) ?_;refine⟨by omega,?_⟩;refine zb ?_;exact zr (j+1,pre++[(s,a)],v1+1) [] ⟨g,by simp[f]⟩ EF (by simp[zu j EA,JR,XT,h]) rfl (by simp[JR,XT,h]);refine aF [] (zD r g h) ?_;refine aC (zb ?_);exact zr (j+1,pre++[(s,a)],v1) [] ⟨g,by simp[f]⟩ EF (by simp[zu j EA,JR,XT,h]) rfl (by simp[JR,XT,h]);simp at g;obtain rfl:j=t.length:=EA;simp only[Bz,A8,AI]at f;refine zx (zb ?_);exact zr (b+1,pre,v1) [] ⟨i,f⟩ EF (by simp[zu b EA]) rfl EB;simp at i;obtain rfl:b=d.length:=EA;simp only[Bz,List.flatten_nil,A8,AI]at f;refine zx (zb ?_);exact zr (a+1,pre,v1) [] ⟨hc,f⟩ EF (by simp[zu a EA]) rfl EB;simp at hc;obtain rfl:a=p.length:=EA;simp only[Bz,told,AA]at f;refine zx (EK ?_);refine zY 1 rfl ?_;exact zg (zi v EC (by rw[f];simp[zp]))
def Tx(n d:Nat):((n:Int).fdiv (2^d))=((n/2^d:Nat):Int):=by have h:(2:Int)^d=((2^d:Nat):Int):=EB;rw[h,Int.fdiv_eq_ediv_of_nonneg _ (Int.natCast_nonneg _)];rfl
def Ty(n:Nat)(d:Int)(hn:n<2^64):PP 269 [U n,I d] (B (decide (0<=d/\d<64/\yU n d.toNat=1))):=by
 by_cases h:0<=d/\d<64;have h1:¬d<0:=EA;have h2:min d.toNat 64=d.toNat:=EA;have g:n/2^d.toNat<=n:=Nat.div_le_self _ _;have h3:=Tx n d.toNat;have hb:yU n d.toNat=n/2^d.toNat%2:=rfl;generalize n/2^d.toNat=m at g h3 hb;have k:=and_one_u64 (m:Int) EA EA;have l:IntKind.u64.wrap (m:Int)=(m:Int):=by simp only[IntKind.wrap,IntKind.bits,IntKind.signed];simp;omega
 have o:((m:Int)%2=1)=(yU n d.toNat=1):=by rw[hb];exact propext ⟨λq=>by omega,λq=>by omega⟩
 refine zt func269 ntmps269 results269 λS nx i=>?_;refine EK ?_;refine za (xZ [(2,7)] EG EG λK Gc Gh j b c X a e=>?_);simp -implicitDefEqProofs [a,e];try clear a e X
 refine b _ _ _ _ _ _ _ λf=>((iw d _).mono ?_).v;rintro _ _ ⟨rfl,rfl⟩;refine⟨_,_,rfl,?_⟩;clear b c;clear Gc Gh;refine w8 f (D:=[(2,7)]) EG λGc Gh b c X a e=>?_;simp -implicitDefEqProofs [a,e,h,h1,h2,h3,l,k,IntKind.bits];try clear a e X
 refine j _ _ _ ?_;clear j b c;clear K Gc Gh;exact zg (zi i EC (by simp[h,zp,o]));refine zt func269 ntmps269 results269 λS nx i=>?_;refine EK ?_;refine aF [(2,7)] trivial ?_;refine yP [(2,7)] (iw d) (zn h zE) ?_;have p:¬(0<=d/\d<64/\yU n d.toNat=1):=λq=>h ⟨q.1,q.2.1⟩;exact zg (zi i EC (by simp only[p,zp,decide_false]))
def yC(n a k:Nat):List Int:=((List.range k).filter λi=>decide (a<=i)&&decide (yU n i=1)).map λ(i:Nat)=>(i:Int)
def XV(n a k:Nat):(yC n a k).length<=k:=by simp only[yC,List.length_map];exact AF (BR _ _) EB
def Tz(n a k:Nat)(h:a<=k):yC n a (k+1)=yC n a k++(if yU n k=1 then [(k:Int)] else []):=by simp only[yC,AC,BM,List.map_append];by_cases q:yU n k=1<;>simp[q,h]
def iC(n a k:Nat)(h:k<=a):yC n a k=[]:=by simp only[yC,CU,BA,AN];intro i hi;simp;omega
def rW(n:Nat)(d:Int)(hn:n<2^64)(i:d<=1000):PP 268 [.fn (.func 269) [U n] [],I d] (L (yC n d.toNat 64)):=by
 have b:qk d 0=((d.toNat:Nat):Int):=by unfold qk;split<;>omega
 have c:yC n d.toNat (max d.toNat 64)=yC n d.toNat 64:=by by_cases q:d.toNat<=64;rw[Nat.max_eq_right q];rw[Nat.max_eq_left EA,iC _ _ _ (Af _),iC _ _ _ EA]
 have h:d.toNat<=1000:=EA;have e:∀a:Nat,a<=1000->yC n a (max a 64)=yC n d.toNat 64->qk d 0=(a:Int)->PP 268 [.fn (.func 269) [U n] [],I d] (L (yC n d.toNat 64)):=by
  intro a h c b;refine zt func268 ntmps268 results268 λS nx j=>?_;refine EK ?_;refine EK ?_;refine za (qO 5 3 1 rfl λv1=>?_);refine aF [] b ?_;refine zj (zC (λs:Nat × List Int × Nat=>a<=s.1/\s.1<=max a 64/\s.2.1=yC n a s.1) (λ(k,out,v1)=>[(0,.fn (.func 269) [U n] []),(5,.sl nx v1 1 0 out.length),(6,I k)]) (λ(k,out,v1)=>[.cells v1 3 (out.flatMap Enc.enc)]) (λs=>max a 64-s.1) (a,[],v1) [] (by simp[iC];omega) EB EB ?_);rintro⟨k,out,v1⟩ ⟨f,l,ho⟩;simp only at f l ho ⊢;have m:out.length<=k:=by rw[ho];exact XV _ _ _
  repeat apply za
  refine zb ?_;refine zv rfl (λhc=>?_) (λhc=>?_);simp at hc;have o:k<64:=EA;refine zh (aA (EK ?_));refine zq (Ty n k hn) ?_;have hs:=Tz n a k f;refine zv rfl (λhb=>?_) (λhb=>?_);simp at hb;refine zb ?_;refine⟨by omega,?_⟩;refine zb ?_;exact zr (k+1,out++[(k:Int)],v1+1) [] ⟨by omega,by omega,by rw[hs,if_pos hb.2,ho]⟩ EF (by simp[zu k EA]) rfl EB;have g:¬yU n k=1:=by simp at hb;exact hb EA
  refine zh (zb ?_);exact zr (k+1,out,v1) [] ⟨by omega,by omega,by rw[hs,if_neg g,ho];simp⟩ EF (by simp[zu k EA]) rfl EB;simp at hc;obtain rfl:k=max a 64:=EA;refine zx (EK ?_);refine zY 0 rfl ?_;exact zg (zi j EC (by simp[ho,c,zp]))
 exact e d.toNat h c b
def Qo(n:Nat)(d:Int):Int:=(yC n d.toNat 64).headD (-1)
def TA(n:Nat)(d:Int)(hn:n<2^64)(c:d<=1000):PP 242 [U n,I d] (I (Qo n d)):=by
 have b:=XV n d.toNat 64;refine zt func242 ntmps242 results242 λS nx e=>?_;refine EK ?_;refine EK ?_;refine zq (rW n d hn c) ?_;unfold Qo;generalize yC n d.toNat 64=l at b ⊢;cases l with
 |nil =>
 repeat apply za
 refine zb ?_;refine zm rfl (EK ?_);exact EL e
 |cons a l =>
 have h1:¬((l.length:Int)+1=0):=EA;repeat apply za
 refine ze [] h1 ?_;refine zk rfl (zh ?_);have h2:(0:Int)<(l.length:Int)+1:=EA;refine aF [] h2 ?_;exact EL e
def yI(n lo hi:Int):Bool:=decide (lo<=n/\n<=hi)
def ZR(n lo hi:Int):PP 117 [I n,I lo,I hi] (B (yI n lo hi)):=by refine zt func117 ntmps117 results117 λS nx a=>?_;refine EK ?_;by_cases h:lo<=n;refine aF [(3,10)] h ?_;exact zg (zi a EC (by simp[yI,h,zp]));refine aF [(3,10)] (zn h zE) ?_;exact zg (zi a EC (by simp[yI,h,zp]))
abbrev ZS(c:Cust)(days:Int):List PV:=[I c.kind,I c.R,L c.J,I c.D,I c.size,I c.H,I c.Y,I c.U,I days]
def YI(c:Cust)(days:Int):Bool:=(c.J.all λp=>decide (Qo p days<0))&&yI c.J.length 1 64
def Yd(c:Cust):Bool:=decide (c.D=0/\c.size=0/\c.H=0/\c.Y=0/\c.U=0)
def JW(c:Cust):Bool:=decide (c.Y=1\/c.Y=2)
def Q8(c:Cust):Bool:=decide (c.J.length=0/\c.R=0)
def TB(c:Cust)(d:Int):PP 199 [.agg (ZS c d)] (B (yI c.R 1 2147483648)):=by refine zt func199 ntmps199 results199 λS nx a=>?_;refine EK ?_;intro v0;refine EK ?_;refine zq (ZR _ _ _) ?_;exact EL a
def TC(c:Cust)(d:Int):PP 202 [.agg (ZS c d)] (B (yI c.D 0 2147483648)):=by refine zt func202 ntmps202 results202 λS nx a=>?_;refine EK ?_;intro v0;refine EK ?_;refine zq (ZR _ _ _) ?_;exact EL a
def TD(c:Cust)(d:Int):PP 203 [.agg (ZS c d)] (B (yI c.size 1 2147483648)):=by refine zt func203 ntmps203 results203 λS nx a=>?_;refine EK ?_;intro v0;refine EK ?_;refine zq (ZR _ _ _) ?_;exact EL a
def TE(c:Cust)(d:Int):PP 204 [.agg (ZS c d)] (B (yI c.H 0 c.size)):=by refine zt func204 ntmps204 results204 λS nx a=>?_;refine EK ?_;intro v0;refine EK ?_;refine zq (ZR _ _ _) ?_;exact EL a
def TF(c:Cust)(d:Int):PP 206 [.agg (ZS c d)] (B (yI c.U 0 1024)):=by refine zt func206 ntmps206 results206 λS nx a=>?_;refine EK ?_;intro v0;refine EK ?_;refine zq (ZR _ _ _) ?_;exact EL a
def TG(c:Cust)(d:Int):PP 205 [.agg (ZS c d)] (B (JW c)):=by refine zt func205 ntmps205 results205 λS nx a=>?_;refine EK ?_;intro v0;by_cases h:c.Y=1;refine aF [(4,7)] (zn h zE) ?_;exact zg (zi a EC (by simp[JW,h,zp]));refine aF [(4,7)] h ?_;exact zg (zi a EC (by simp[JW,h,zp]))
def TH(c:Cust)(d:Int):PP 207 [.agg (ZS c d)] (B (Q8 c)):=by refine zt func207 ntmps207 results207 λS nx a=>?_;refine EK ?_;intro v0;by_cases h:c.J=[];refine aF [(5,8)] h ?_;exact zg (zi a EC (by simp[Q8,h,zp]));refine aF [(5,8)] (zn h zE) ?_;exact zg (zi a EC (by simp[Q8,h,zp]))
def TI(c:Cust)(d:Int):PP 201 [.agg (ZS c d)] (B (Yd c)):=by refine zt func201 ntmps201 results201 λS nx a=>?_;refine EK ?_;intro v0;by_cases h1:c.D=0;by_cases h2:c.size=0;by_cases h3:c.H=0;by_cases b:c.Y=0;refine aF [(4,7),(10,13),(16,19),(22,25)] (zR h1 h2 h3 b) ?_;exact zg (zi a EC (by simp[Yd,h1,h2,h3,b,zp]));refine aF [(4,7),(10,13),(16,19),(22,25)] (yx h1 h2 h3 b zE) ?_;exact zg (zi a EC (by simp[Yd,b,zp]));refine aF [(4,7),(10,13),(16,19),(22,25)] (zR h1 h2 h3 zE) ?_;exact zg (zi a EC (by simp[Yd,h3,zp]));refine aF [(4,7),(10,13),(16,19),(22,25)] (zD h1 h2 zE) ?_;exact zg (zi a EC (by simp[Yd,h2,zp]));refine aF [(4,7),(10,13),(16,19),(22,25)] (zn h1 zE) ?_;exact zg (zi a EC (by simp[Yd,h1,zp]))
def TJ(c:Cust)(d:Int)(f:∀p∈c.J,p<2^64)(hl:c.J.length<=9223372036854775807)(g:d<=1000):PP 200 [.agg (ZS c d)] (B (YI c d)):=by
 refine zt func200 ntmps200 results200 λS nx i=>?_;refine EK ?_;intro v0;repeat apply za
 refine zb ?_;refine zj (zC (λs:Nat=>s<=c.J.length/\∀p∈c.J.take s,Qo p d<0) (λk=>[(1,.ptr nx v0 0),(7,L c.J),(8,I c.J.length),(9,I k)]) (λk=>[.cells v0 180 (ZS c d)]) (λs=>c.J.length-s) 0 [] EB EB EB ?_);rintro k ⟨j,ho⟩;simp only at j ho ⊢;refine EK ?_;refine za (zv rfl (λhc=>?_) (λhc=>?_));simp at hc;obtain⟨p,tl,l,n,a3,m⟩:=zF rfl c.J k hc;have b:=Aa l;refine zh (aA (aF [] (zn m hc) ?_));refine EK ?_;refine zq (TA p d (f p b) g) ?_;refine zv rfl (λh=>?_) (λh=>?_);simp at h;have a:YI c d=false:=by
  have:(c.J.all λp=>decide (Qo p d<0))=false:=by rw[Cb];exact⟨p,b,by simp;omega⟩
  simp[YI,this]
 refine EK ?_;exact zg (zi i EC (by simp[a,zp]));simp at h;refine zh (zb ?_);exact zr (k+1) [] ⟨hc,by rw[a3];intro q e;obtain e|e:=AB.1 e;exact ho q e;rw[A5.1 e];exact h⟩ EA (by simp[zu k EA]) rfl EB;simp at hc;obtain rfl:k=c.J.length:=EA;rw[Ah]at ho;have a:YI c d=yI c.J.length 1 64:=by
  have:(c.J.all λp=>decide (Qo p d<0))=true:=by rw[Ay];intro p f;simpa using ho p f
  simp[YI,this]
 refine zx (EK ?_);refine zq (ZR _ _ _) ?_;exact zg (zi i EC (by simp[a,zp]))
structure Must where
 f:FuncId
 b:Bool
instance:Enc Must:=⟨λm=>[.fn (.func m.f) [] []],1,λ_=>rfl,λ_=>rfl⟩
@[simp] theorem ZD1(m:Must):Enc.enc m=[.fn (.func m.f) [] []]:=rfl
@[simp high] theorem ZD2(l:List Must):(l.flatMap Enc.enc).length=l.length:=(xz l).trans (BU _)
def Qp(c:Cust)(d:Int)(k:Int):List Must :=
 if k=1 then [⟨199,yI c.R 1 2147483648⟩,⟨200,YI c d⟩,⟨201,Yd c⟩]
 else if k=2 then [⟨202,yI c.D 0 2147483648⟩,⟨203,yI c.size 1 2147483648⟩,⟨204,yI c.H 0 c.size⟩,
  ⟨205,JW c⟩,⟨206,yI c.U 0 1024⟩,⟨207,Q8 c⟩]
 else []
def TK(c:Cust)(d k:Int):PP 154 [I k] (L (Qp c d k)):=by
 refine zt func154 ntmps154 results154 λS nx a=>?_;refine EK ?_;repeat apply za
 refine zb ?_;refine zj (EK ?_);refine zv rfl (λh=>?_) (λh=>?_);simp at h;subst h;refine EK ?_;exact EL a;simp at h;refine EK ?_;refine zv rfl (λh2=>?_) (λh2=>?_);simp at h2;subst h2;refine EK ?_;exact EL a;simp at h2;refine zh (EK ?_);refine Zh 2 rfl ?_;exact zg (zi a EC (by simp[Qp,h,h2,zp]))
def TL(c:Cust)(d:Int)(e:∀p∈c.J,p<2^64)(hl:c.J.length<=9223372036854775807)(a:d<=1000):∀m∈Qp c d c.kind,Pure prog m.f [.agg (ZS c d)] (B m.b):=by intro m hm;unfold Qp at hm;split at hm;simp only[Al,Be,or_false]at hm;obtain rfl|rfl|rfl:=hm;exact TB c d;exact TJ c d e hl a;exact TI c d;split at hm;simp only[Al,Be,or_false]at hm;obtain rfl|rfl|rfl|rfl|rfl|rfl:=hm;exact TC c d;exact TD c d;exact TE c d;exact TG c d;exact TF c d;exact TH c d;cases hm
def wT(c:Cust)(d:Int):Bool :=
 if c.kind=1 then (yI c.R 1 2147483648&&YI c d&&Yd c)
 else if c.kind=2 then (yI c.D 0 2147483648&&yI c.size 1 2147483648&&yI c.H 0 c.size&&JW c&&yI c.U 0 1024&&Q8 c) else false
def TM(c:Cust)(d:Int):wT c d=((Qp c d c.kind).all (·.b)&&decide (0<(Qp c d c.kind).length)):=by unfold wT Qp;split;simp[Bool.and_assoc];split;simp[Bool.and_assoc];simp
def TN(c:Cust)(d:Int)(j:∀p∈c.J,p<2^64)(hl:c.J.length<=9223372036854775807)(g:d<=1000):PP 118 [.agg (ZS c d)] (B (wT c d)):=by
 have a:=TL c d j hl g;have e:=TK c d c.kind;have h:(Qp c d c.kind).length<=6:=by unfold Qp;split;simp;split<;>simp
 rw[TM];generalize Qp c d c.kind=ms at a e h ⊢;refine zt func118 ntmps118 results118 λS nx i=>?_;refine EK ?_;intro v0;refine EK ?_;refine zq e ?_;repeat apply za
 refine zb ?_;refine zj (zC (λs:Nat=>s<=ms.length/\(ms.take s).all (·.b)=true) (λk=>[(1,.ptr nx v0 0),(3,L ms),(10,L ms),(11,I ms.length),(12,I k)]) (λk=>[.cells v0 180 (ZS c d)]) (λs=>ms.length-s) 0 [] EB EB EB ?_);rintro k ⟨l,ho⟩;simp only at l ho ⊢;refine EK ?_;refine za (zv rfl (λhc=>?_) (λhc=>?_))
 .simp at hc;obtain⟨m,tl,n,q,a3,o⟩:=zF rfl ms k hc;have hm:=Aa n;refine zh (aA (aF [] (zn o hc) ?_));refine EK ?_;refine zq (a m hm) ?_;cases hb:m.b with
  |false =>
  have f:ms.all (·.b)=false:=by rw[Cb];exact⟨m,hm,by simp[hb]⟩
  refine zm rfl (EK ?_);exact zg (zi i EC (by simp only[f,zp,Dg]))
  |true =>
  refine zk rfl (zh (zb ?_));exact zr (k+1) [] ⟨hc,by rw[a3,C5,ho];simp[hb]⟩ EA (by simp[zu k EA]) rfl EB
 simp at hc;obtain rfl:k=ms.length:=EA;rw[Ah]at ho;refine zx (EK ?_);exact zg (zi i EC (by simp[ho,zp]))
def YJ(n:Nat):Nat->List (List Int)->Bool
 |_,[]=>true
 |a,row::l=>(decide (row.length=n)&&decide (row.getD a 0=0)&&row.all (yI · 0 2147483648))&&YJ n (a+1) l
def YK(l:List (List Int))(n:Nat):Bool:=decide (l.length=n)&&YJ n 0 l
def jq(x:Inst):Bool :=
 yI x.days 1 64&&decide (x.y.length<=2000)&&yI x.X 0 2147483648&&yI x.Q 0 2147483648&&yI x.len 0 2147483648&&x.y.all (wT · x.days)&&YK x.O (x.y.length+1)
def TO(l:List (List Int))(n:Nat)(hn:n<=1048576)(hl:l.length<=9223372036854775807)(t:∀r∈l,r.length<=9223372036854775807):PP 119 [L l,I n] (B (YK l n)):=by
 refine zt func119 ntmps119 results119 λS nx g=>?_;refine EK ?_;by_cases h:l.length=n;have h1:((l.length:Int)=n):=EA;repeat apply za
 refine ze [] h1 ?_;refine aC ?_;repeat apply za
 refine zb ?_;refine zj (zC (λs:Nat=>s<=l.length/\YJ n 0 l=YJ n s (l.drop s)) (λk=>[(0,L l),(1,I n),(13,L l),(14,I l.length),(15,I k)]) (λk=>[]) (λs=>l.length-s) 0 [] EB (by simp[h1]) EB ?_);rintro k ⟨u,ho⟩;simp only at u ho ⊢;refine EK ?_;refine za (zv rfl (λhc=>?_) (λhc=>?_));simp at hc;obtain⟨row,tl,v,w,a3,x⟩:=zF rfl l k hc;have y:=t row (Aa v);rw[w]at ho;simp only[YJ]at ho;refine zh (aA (aF [] (zn x hc) ?_));have bad:(row.length=n/\row.getD k 0=0->row.all (yI · 0 2147483648)=false)->YK l n=false:=by intro q;simp only[YK,ho];by_cases o:row.length=n;by_cases p:row.getD k 0=0;rw[q ⟨o,p⟩];simp;simp only[p,decide_false,DI,Dg];simp only[o,decide_false,DI,Dg]
 by_cases h2:row.length=n;have c:((row.length:Int)=n):=EA;have h3:k<n:=EA;obtain⟨d,z,b1,b2,b3,e2⟩:=zF rfl row k EA;have i:row.getD k 0=d:=by rw[List.getD_eq_getElem?_getD,b1];rfl
 by_cases m:d=0;repeat apply za
 refine ze [(4,24)] (zR c h3 e2 m) ?_;refine aC (EK ?_);refine zj (zC (λs:Nat=>s<=row.length/\(row.take s).all (yI · 0 2147483648)=true) (λj=>[(0,L l),(1,I n),(13,L l),(14,I l.length),(15,I k),(31,L row),(32,I row.length),(33,I j)]) (λk=>[]) (λs=>row.length-s) 0 [] EB (by simp[h1,c]) EB ?_);rintro j ⟨hj,f⟩;try simp only at hj f ⊢
 refine EK ?_;refine za (zv rfl (λb=>?_) (λb=>?_))
 .simp at b;obtain⟨e,a0,c1,c2,c3,e3⟩:=zF rfl row j b;refine zh (aA (aF [] (zn e3 b) ?_));refine EK ?_;refine zq (ZR _ _ _) ?_;cases hb:yI e 0 2147483648 with
  |false =>
  have a:=bad (λ_=>by rw[Cb];exact⟨e,Aa c1,by simp[hb]⟩);refine zm rfl (EK ?_);exact zg (zi g EC (by simp only[a,zp]))
  |true =>
  refine zk rfl (zh (zb ?_));exact zr (j+1) [] ⟨b,by rw[c3,C5,f];simp[hb]⟩ EA (by simp[zu j EA]) rfl EB
 simp at b;obtain rfl:j=row.length:=EA;rw[Ah]at f;refine zx (zb ?_);exact zr (k+1) [] ⟨hc,by rw[ho,f,i];simp[h2,m]⟩ EA (by simp[zu k EA]) rfl EB;have a:=bad (λq=>absurd (i.symm.trans q.2) m);repeat apply za
 refine ze [(4,24)] (zR c h3 e2 m) ?_;refine zm (by simp[m]) ?_;refine EK ?_;exact zg (zi g EC (by simp only[a,zp]));have a:=bad (λq=>absurd q.1 h2);have c:((row.length:Int) != (n:Int))=true:=EF;repeat apply za
 refine ze [(4,24)] (zn c zE) ?_;refine aD ?_;refine EK ?_;exact zg (zi g EC (by simp only[a,zp]));simp at hc;obtain rfl:k=l.length:=EA;simp only[Bz,YJ]at ho;refine zx (EK ?_);exact zg (zi g EC (by simp[YK,h,ho,zp]));have h1:¬((l.length:Int)=n):=EA;repeat apply za
 refine ze [] h1 ?_;refine zm (by simp[h1]) ?_;refine EK ?_;exact zg (zi g EC (by simp[YK,h,zp]))
def rX(x:Inst)(hx:InstOk x):PP 75 [.agg (zB x)] (I (if jq x=true then 0 else 3)):=by
 have i:=hx.ag;refine zt func75 ntmps75 results75 λS nx b=>?_;refine EK ?_;intro v0;by_cases a:yI x.days 1 64=true
 .have j:1<=x.days/\x.days<=64:=by simpa[yI] using a
  by_cases d:(2000:Int)<x.y.length;repeat apply za
  refine ze [(4,11)] trivial ?_;refine yP [(4,11)] (ZR _ _ _) (zn a d) ?_;refine aD ?_;refine EK ?_;exact zg (zi b EC (by simp[jq,show ¬x.y.length<=2000 by omega,zp]));repeat apply za
  refine ze [(4,11)] trivial ?_;refine yP [(4,11)] (ZR _ _ _) (zn a d) ?_;refine aC ?_;repeat apply za
  refine zb ?_;refine zj (zC (λs:Nat=>s<=3/\(1<=s->yI x.X 0 2147483648=true)/\(2<=s->yI x.Q 0 2147483648=true)/\(3<=s->yI x.len 0 2147483648=true)) (λk=>[(1,.ptr nx v0 0),(23,.lst 3 [I x.X,I x.Q,I x.len]),(24,I 3),(25,I k)]) (λk=>[.cells v0 25 (zB x)]) (λs=>3-s) 0 [] EB EB EB ?_);rintro k ⟨h,i1,i2,i3⟩;simp only at h i1 i2 i3 ⊢
  match k,h with
  |0,_ =>
   refine EK ?_;refine za (zm rfl (zh (aA (EK ?_))));refine EK ?_;refine zq (ZR _ _ _) ?_;cases hb:yI x.X 0 2147483648 with
   |false =>
   refine zm rfl (EK ?_);exact zg (zi b EC (by simp[jq,hb,zp]))
   |true =>
   refine zk rfl (zh (zb ?_));exact zr 1 [] (by simp[hb]) EB EC rfl EB
  |1,_ =>
   refine EK ?_;refine za (zm rfl (zh (aA (EK ?_))));refine EK ?_;refine zq (ZR _ _ _) ?_;cases hb:yI x.Q 0 2147483648 with
   |false =>
   refine zm rfl (EK ?_);exact zg (zi b EC (by simp[jq,hb,zp]))
   |true =>
   refine zk rfl (zh (zb ?_));exact zr 2 [] (by simp[hb,i1 EA]) EB EC rfl EB
  |2,_ =>
   refine EK ?_;refine za (zm rfl (zh (aA (EK ?_))));refine EK ?_;refine zq (ZR _ _ _) ?_;cases hb:yI x.len 0 2147483648 with
   |false =>
   refine zm rfl (EK ?_);exact zg (zi b EC (by simp[jq,hb,zp]))
   |true =>
   refine zk rfl (zh (zb ?_));exact zr 3 [] (by simp[hb,i1 EA,i2 EA]) EB EC rfl EB
  |3,_ =>
  have l:=i1 EA;have m:=i2 EA;have n:=i3 EA;refine EK ?_;refine za (zk rfl (zx ?_));repeat apply za
  refine zb ?_;refine zj (zC (λs:Nat=>s<=x.y.length/\(x.y.take s).all (wT · x.days)=true) (λk=>[(1,.ptr nx v0 0),(34,L x.y),(35,I x.y.length),(36,I k)]) (λk=>[.cells v0 25 (zB x)]) (λs=>x.y.length-s) 0 [] EB EB EB ?_);rintro k ⟨h,ho⟩;try simp only at h ho ⊢
  refine EK ?_;refine za (zv rfl (λhc=>?_) (λhc=>?_))
  .simp at hc;obtain⟨c,tl,o,u,a3,_,p⟩:=el 8 rfl x.y k hc;have e:=Aa o;have f:=hx.y c e;refine zh (aA (aF [] (zn p hc) ?_));intro v1;refine EK ?_;refine zq (TN c x.days f.J f.npats EA) ?_;cases hb:wT c x.days with
   |false =>
   have g:x.y.all (wT · x.days)=false:=by rw[Cb];exact⟨c,e,by simp[hb]⟩
   refine zm rfl (EK ?_);exact zg (zi b EC (by simp[jq,g,zp]))
   |true =>
   refine zk rfl (zh (zb ?_));exact zr (k+1) [_] ⟨hc,by rw[a3,C5,ho];simp[hb]⟩ EA (by simp[zu k EA]) rfl rfl
  simp at hc;obtain rfl:k=x.y.length:=EA;rw[Ah]at ho;have q:=zu x.y.length EA;refine zx ?_;repeat apply za
  refine ze [] q ?_;refine zq (TO x.O (x.y.length+1) EA hx.ndist (λr t=>(hx.O r t).1)) ?_;cases hb:YK x.O (x.y.length+1) with
  |false =>
  refine zm rfl (EK ?_);exact zg (zi b EC (by simp[jq,hb,zp]))
  |true =>
  refine zk rfl (zh (EK ?_));exact zg (zi b EC (by simp[jq,hb,a,l,m,n,ho,show x.y.length<=2000 by omega,zp]))
 repeat apply za
 refine ze [(4,11)] trivial ?_;refine yP [(4,11)] (ZR _ _ _) (zn a zE) ?_;refine aD ?_;refine EK ?_;exact zg (zi b EC (by simp[jq,a,zp]))
theorem rY(n:Nat)(d:Int):yC n d.toNat 64=(yC n 0 64).filter λx=>decide (d<=x):=by simp only[yC,Ec,List.filter_filter,BO,decide_true,CE];congr 1;apply List.filter_congr;intro i _;have:(d.toNat<=i)=(d<=(i:Int)):=propext ⟨λh=>by omega,λh=>by omega⟩;simp only[Function.comp,this]
def rZ(c:Cust)(d:Int)(h:c.kind=1):wT c d=(yI c.R 1 2147483648&&YI c d&&Yd c):=by simp[wT,h]
def sd(c:Cust)(d:Int)(h:c.kind=2):wT c d=(yI c.D 0 2147483648&&yI c.size 1 2147483648&&yI c.H 0 c.size&&JW c&&yI c.U 0 1024&&Q8 c):=by simp[wT,h]
def TP(c:Cust)(d:Int)(h:¬c.kind=1)(h2:¬c.kind=2):wT c d=false:=by simp[wT,h,h2]
abbrev dH(x:Inst)(p:zy)(i:Int):List PV:=[I x.days,I x.X,I x.Q,I x.len,L x.y,L x.O,L p,I i]
def JX(c:Cust)(v:List Visit):Int:=if (v.any λs=>decide (s.q≠c.R))=true then 9 else if ZQ (v.map (·.d))∈c.J then 0 else 10
def YL(x:Inst)(p:zy)(i:Nat):Int :=
 match x.y[i]? with
 |none=>5
 |some c=>if c.kind=2 then uz c (z8 (zW i (told 0 p)) x.days) else JX c (zW i (told 0 p))
structure Serves (x:Inst) (p:zy):Prop where
 sz:PlanOk p
 q:∀s∈told 0 p,0<=s.1.q/\s.1.q<=2147483648
 days:p.length<=64
theorem se:∀(p:zy) (i:Nat) (x:Stop × Nat),x∈told i p->i<=x.2/\x.2<i+p.length
 |[],_,_,h=>by cases h
 |d::p,i,x,h=>by simp only[told,AB,Aj]at h;simp only[Ab];obtain⟨s,_,rfl⟩|h:=h;simp only;omega;have:=se p (i+1) x h;omega
variable {p:zy}
def iD(h:Serves x p)(c:Int):VisOk (zW c (told 0 p))/\∀s∈zW c (told 0 p),0<=s.d/\s.d<=63:=by
 have a:∀s∈zW c (told 0 p),(0<=s.q/\s.q<=2147483648)/\0<=s.d/\s.d<=63:=by intro s hs;simp only[zW,Aj,AX]at hs;obtain⟨y,⟨b,_⟩,rfl⟩:=hs;have h1:=h.q y b;have h2:=se p 0 y b;have h3:=h.days;simp only;omega
 exact⟨⟨AF (iu _ _) h.sz.told,λs hs=>(a s hs).1,λs hs=>by have:=(a s hs).2;unfold zL;omega⟩,λs hs=>(a s hs).2⟩
def sf(x:Inst)(p:zy)(i:Nat)(h:Serves x p):PP 81 [.agg (dH x p i)] (L (z8 (zW i (told 0 p)) x.days)):=by have h1:=iv p i h.sz;have h2:=rV _ x.days (iD h i).1;generalize z8 (zW i (told 0 p)) x.days=q at h2 ⊢;generalize zW i (told 0 p)=v at h1 h2;refine zt func81 ntmps81 results81 λS nx a=>?_;refine EK ?_;intro v0;refine aG (some [nx]) Rf mixed trivial ?_;refine zJ (h1) trivial ?_;refine zJ (h2) trivial ?_;exact EL a
def TQ(x:Inst)(p:zy)(i:Nat)(c:Cust)(h:Serves x p)(hc:x.y[i]?=some c)(hf:CustFits c):PP 127 [.agg (dH x p i)] (I (uz c (z8 (zW i (told 0 p)) x.days))):=by
 have h1:=sf x p i h;have a:i<x.y.length:=(Ad.1 hc).1;obtain⟨b,tl,d,g,a3,_,e⟩:=el 8 rfl x.y i a;obtain rfl:b=c:=by rw[d]at hc;exact Option.some.inj hc
 have h2:=rS b (z8 (zW i (told 0 p)) x.days) hf (by rw[aw];omega);generalize z8 (zW i (told 0 p)) x.days=q at h1 h2 ⊢;refine zt func127 ntmps127 results127 λS nx f=>?_;refine EK ?_;intro v0;refine aG (some [nx]) Rh mixed (zn a e) ?_;refine zJ (h1) trivial ?_;refine zJ (h2) trivial ?_;exact EL f
def TR(x:Inst)(p:zy)(i:Nat)(c:Cust)(h:Serves x p)(hc:x.y[i]?=some c)(l:c.J.length<=1048576):PP 126 [.agg (dH x p i)] (I (JX c (zW i (told 0 p)))):=by
 have h1:=iv p i h.sz;have h2:=SU p i h.sz;have e:=(iD h i).1.n;have f:i<x.y.length:=(Ad.1 hc).1;obtain⟨b,tl,r,w,a3,_,t⟩:=el 8 rfl x.y i f;obtain rfl:b=c:=by rw[r]at hc;exact Option.some.inj hc
 generalize zW i (told 0 p)=v at h1 h2 e ⊢;have h3:=SX (v.map (·.d)) (by simpa using e);have o:=SZ b.J (ZQ (v.map (·.d))) l;unfold JX;generalize ZQ (v.map (·.d))=set at h3 o ⊢;refine zt func126 ntmps126 results126 λS nx m=>?_;refine EK ?_;intro v0;refine aF [] (zn f t) ?_;intro v1;repeat apply za
 refine zb ?_;refine zq h1 ?_;refine zj (zC (λs:Nat=>s<=v.length/\((v.take s).any λs=>decide (s.q≠b.R))=false) (λk=>[(1,.ptr nx v0 0),(3,.ptr (nx+1) v1 0),(18,L v),(19,I v.length),(20,I k)]) (λ_=>[.cells v0 140 (dH x p i),.cells v1 59 (yh b)]) (λs=>v.length-s) 0 [] EB EB EB ?_);rintro k ⟨y,ho⟩;refine EK ?_;refine za (zv rfl (λa=>?_) (λa=>?_));simp at a;obtain⟨s,u,b1,b2,b3,z,e2⟩:=el 2 rfl v k a;refine zh (aA (aF [] (zn a e2) ?_));intro v2;by_cases j:s.q=b.R;refine aF [] j ?_;refine aC (zb ?_);exact zr (k+1) [_] ⟨a,by rw[b3,Ea,ho];simp[j]⟩ EA (by simp[zu k EA]) rfl rfl;have g:(v.any λs=>decide (s.q≠b.R))=true:=by rw[BZ];exact⟨s,Aa b1,by simpa using j⟩
 refine aF [] j ?_;refine aD ?_;refine EK ?_;exact zg (zi m EC (by rw[if_pos g];rfl));simp at a;obtain rfl:k=v.length:=EA;rw[Ah]at ho;refine zx (EK ?_);refine zq h2 ?_;refine zq h3 ?_;repeat apply za
 refine zb ?_;refine zq o ?_;by_cases hm:set∈b.J;repeat apply za
 refine zk (by simp[hm]) ?_;refine zh (EK ?_);exact zg (zi m EC (by rw[ho];simp[hm,zp]));repeat apply za
 refine zm (by simp[hm]) ?_;refine EK ?_;exact zg (zi m EC (by rw[ho];simp[hm,zp]))
structure CustsOk (x:Inst):Prop where
 n:x.y.length<=1048576
 kind:∀c∈x.y,c.kind=1\/c.kind=2
 Z:∀c∈x.y,CustFits c
 J:∀c∈x.y,c.J.length<=1048576
 vN:∀c∈x.y,∀p∈c.J,p<2^64
def TS(x:Inst)(p:zy)(i:Nat)(h:Serves x p)(hx:CustsOk x)(hi:i<x.y.length):PP 79 [.agg (zB x),.agg [L p],I i] (I (YL x p i)):=by
 obtain⟨c,tl,m,r,a3,_,n⟩:=el 8 rfl x.y i hi;have j:=Aa m;have k:YL x p i=if c.kind=2 then uz c (z8 (zW i (told 0 p)) x.days) else JX c (zW i (told 0 p)):=by simp only[YL,m]
 rw[k];have q:¬(i:Int)<0:=EA;have g1:¬(x.y.length:Int)<=(i:Int):=EA;refine zt func79 ntmps79 results79 λS nx o=>?_;refine EK ?_;intro v0 v1;repeat apply za
 refine ze [(2,12)] (zD q g1 hi) ?_;refine aC (za (xZ [] EG EG λK Gc Gh g d b X a f=>?_));simp -implicitDefEqProofs [a,f];try clear a f X
 intro s;refine b _ _ _ _ _ λe=>QU (.inr rfl) underlying190 underlying3 rfl (by simp;exact⟨rfl,rfl⟩) EC EC (by simp[jO];rfl) ?_;refine⟨_,_,yi _ EA EB,?_⟩;clear d b;clear Gc Gh;refine w8 e (D:=[]) EG λGc Gh d b X a f=>?_;simp -implicitDefEqProofs [a,f];clear a f X;refine b _ _ _ _ _ λe=>QU (.inr rfl) underlying190 underlying3 rfl (by simp;exact⟨rfl,rfl⟩) EC EC (by simp[jO,jD];rfl) ?_;refine⟨_,_,yi _ EA EB,?_⟩;clear d b;clear Gc Gh;refine w8 e (D:=[]) EG λGc Gh d b X a f=>?_;simp -implicitDefEqProofs [a,f,jD];clear a f X;refine g _ _ _ ?_;clear g d b;clear K Gc Gh;obtain l|l:=hx.kind c j;refine za (xZ [] EG EG λK Gc Gh g d b X a f=>?_);simp -implicitDefEqProofs [a,f,hi,n,l];try clear a f X
 refine b _ _ _ _ _ λe=>Yv rfl underlying190 underlying3 rfl (by simp;exact⟨rfl,rfl⟩) EC EC (by simp[jO,jD];rfl) EC ?_;refine⟨_,_,rfl,?_⟩;clear d b;clear Gc Gh;refine w8 e (D:=[]) EG λGc Gh d b X a f=>?_;simp -implicitDefEqProofs [a,f,Y7];clear a f X;refine g _ _ _ ?_;clear g d b;clear K Gc Gh;repeat apply za
 refine zb ?_;refine aC (EK ?_);refine zq (TR x p i c h m (hx.J c j)) ?_;exact zg (zi o EC (by simp[l,zp]));refine za (xZ [] EG EG λK Gc Gh g d b X a f=>?_);simp -implicitDefEqProofs [a,f,hi,n,l];try clear a f X
 refine b _ _ _ _ _ λe=>Yv rfl underlying190 underlying3 rfl (by simp;exact⟨rfl,rfl⟩) EC EC (by simp[jO,jD];rfl) EC ?_;refine⟨_,_,rfl,?_⟩;clear d b;clear Gc Gh;refine w8 e (D:=[]) EG λGc Gh d b X a f=>?_;simp -implicitDefEqProofs [a,f,Y7];clear a f X;refine g _ _ _ ?_;clear g d b;clear K Gc Gh;repeat apply za
 refine zb ?_;refine aC (EK ?_);refine zq (TQ x p i c h m (hx.Z c j)) ?_;exact zg (zi o EC (by simp[l,zp]))
theorem sh:∀(l:List Int),(∀b∈l,b=0\/b=1)->∀i:Nat,(wE l).toNat.testBit i=decide (l[i]?=some 1)
 |[],_,i=>by simp[wE]
 |b::l,h,i=>by
  have hl:∀b∈l,b=0\/b=1:=λx hx=>h x (by simp[hx]);have h0:=(fW l hl).1;have hb:=h b EB;have hn:wE (b::l)=2*wE l+b:=rfl;cases i with
  |zero =>
  rw[Nat.testBit_zero,hn];simp only[Bp,Option.some.injEq];apply decide_eq_decide.2;omega
  |succ i =>
  rw[Nat.testBit_succ,hn];have:(2*wE l+b).toNat/2=(wE l).toNat:=EA;rw[this,sh l hl i];simp
def W8(n i:Nat):n.testBit i=decide (yU n i=1):=by rw[C9];rfl
def TT(n d:Nat)(hn:n<2^64)(c:d<64):WI n d=jp n d:=by
 have a:∀b∈(jP n).set d 1,b=0\/b=1:=λb hb=>by obtain h|h:=fY hb;exact fV n b h;exact .inr h
 apply Ds;intro i;unfold WI VV jp;rw[sh _ a,if_pos EA,DJ,AJ,CV,BG];have hl:=WH n;by_cases h:d=i;subst h;simp[hl,c];rw[if_neg h];by_cases hi:i<64;rw[nt n i hi,W8];simp[h];omega;rw[Ao EA];have:n.testBit i=false:=CI (Bw hn (BL EH EA));simp[this,h]
def xq:List Int->Int
 |[]=>0
 |e::l=>if e≠0 then e else xq l
def dI{l:List Int}(h:∀e∈l,e=0):xq l=0:=by
 induction l with
 |nil=>rfl
 |cons e l a=>simp only[xq,h e EB,ne_eq,not_true,if_false];exact a λx hx=>h x (by simp[hx])
def iE{l:List Int}{k:Nat}(h:∀e∈l.take k,e=0)(b:l[k]?=some e)(c:e≠0):xq l=e:=by
 induction l generalizing k with
 |nil=>cases b
 |cons a l d =>
 cases k with
 |zero=>simp at b;subst b;simp[xq,c]
 |succ k =>
 simp only[xq,h a EB,ne_eq,not_true,if_false];exact d (k:=k) (λx hx=>h x (by rw[Dx];simp[hx])) (by simpa using b)
def iF(l:List Int):xq l=0<->∀e∈l,e=0:=by
 refine⟨λh=>?_,dI⟩;induction l with
 |nil=>intro e c;cases c
 |cons a l d =>
 simp only[xq]at h;split at h;rename_i b;exact absurd h b;rename_i b;intro e c;obtain rfl|c:=Al.1 c;simpa using b;exact d h e c
def wu(x:Inst)(p:zy):Int :=
 if jq x=false then 3 else if (p.length:Int)≠x.days then 1 else if xq (p.map (yu x))≠0 then xq (p.map (yu x)) else xq ((List.range x.y.length).map (YL x p))
structure PlanSz (p:zy):Prop where
 ok:PlanOk p
 f:∀d∈p,d.flatten.length<=1048576
theorem dJ:∀(p:zy) (i:Nat) (x:Stop × Nat),x∈told i p->∃d∈p,x.1∈d.flatten
 |[],_,_,h=>by cases h
 |d::p,i,x,h=>by simp only[told,AB,Aj]at h;obtain⟨s,hs,rfl⟩|h:=h;exact⟨d,by simp,hs⟩;obtain⟨a,h1,h2⟩:=dJ p (i+1) x h;exact⟨a,by simp[h1],h2⟩
def JY(h:yu x d=0):∀s∈d.flatten,qn x s=true:=by
 intro s hs;obtain⟨t,b,a⟩:=Bd.1 hs;have hm:zX x t=0:=by unfold yu at h;split at h;rename_i u c;have:=List.find?_some c;simp[h]at this;rename_i hn;rw[List.find?_eq_none]at hn;simpa using hn t b
 have:jF x t=true:=by by_cases q:jF x t=true;exact q;simp[zX,q]at hm
 unfold jF at this;simp only[Aw,Ay]at this;exact this.1 s a
def TU(e:PlanSz p)(hx:InstOk x)(hm:jq x=true)(c:(p.length:Int)=x.days)(h0:∀d∈p,yu x d=0):Serves x p:=by
 have a:1<=x.days/\x.days<=64:=by unfold jq at hm;simp only[Aw]at hm;have:=hm.1.1.1.1.1.1;simpa[yI] using this
 refine⟨e.ok,λs hs=>?_,by omega⟩;obtain⟨d,c,b⟩:=dJ p 0 s hs;have:=JY (h0 d c) s.1 b;simp[qn]at this;omega
def TV(hx:InstOk x)(hm:jq x=true):CustsOk x:=by
 unfold jq at hm;simp only[Aw,decide_eq_true_eq,Ay]at hm;obtain⟨⟨⟨⟨⟨⟨_,h1⟩,_⟩,_⟩,_⟩,h2⟩,_⟩:=hm;have d:∀c∈x.y,c.kind=1\/c.kind=2:=λc hc=>by have:=h2 c hc;by_cases k1:c.kind=1;exact .inl k1;by_cases e:c.kind=2;exact .inr e;rw[TP c _ k1 e]at this;cases this
 refine⟨by omega,d,λc hc=>?_,λc hc=>?_,λc hc=>(hx.y c hc).J⟩;have hb:=h2 c hc;obtain k|k:=d c hc;rw[rZ c _ k]at hb;simp only[Aw,Yd,decide_eq_true_eq]at hb;obtain⟨_,a,b,c,_⟩:=hb;exact⟨by omega,by omega,by omega⟩;rw[sd c _ k]at hb;simp only[Aw,yI,decide_eq_true_eq]at hb;obtain⟨⟨⟨⟨⟨a,b⟩,c⟩,_⟩,_⟩,_⟩:=hb;exact⟨by omega,by omega,by omega⟩;have hb:=h2 c hc;obtain k|k:=d c hc;rw[rZ c _ k]at hb;simp only[Aw,YI,yI,decide_eq_true_eq]at hb;omega;rw[sd c _ k]at hb;simp only[Aw,Q8,decide_eq_true_eq]at hb;omega
def sj(x:Inst)(p:zy)(hx:InstOk x)(l:PlanSz p):PP 45 [.agg (zB x),.agg [L p]] (I (wu x p)):=by
 have z:=l.ok.n;refine zt func45 ntmps45 results45 λS nx m=>?_;refine EK ?_;intro v0 v1;repeat apply za
 refine zb ?_;refine zq (rX x hx) ?_;cases hm:jq x with
 |false =>
 refine aD ?_;refine EK ?_;exact zg (zi m EC (by simp[wu,hm,zp]))
 |true =>
 have o:=TV hx hm;have r:=o.n;refine aC ?_;by_cases a:(p.length:Int)=x.days;case neg =>
  repeat apply za
  refine ze [] a ?_;refine zm (by simp[a]) ?_;refine EK ?_;exact zg (zi m EC (by simp[wu,hm,a,zp]))
 have c:wu x p=if xq (p.map (yu x))≠0 then xq (p.map (yu x)) else xq ((List.range x.y.length).map (YL x p)):=by simp[wu,hm,a]
 repeat apply za
 refine ze [] a ?_;refine zk (by simp[a]) ?_;refine zh ?_;repeat apply za
 refine zb ?_;refine qT (nx:=nx) (σ:=Unit) (λ_=>∀d∈p,yu x d=0) (λ_=>[(2,.ptr nx v0 0),(3,.ptr (nx+1) v1 0)]) (λ_=>S) (λ_=>[.cells v0 25 (zB x),.cells v1 31 [L p]]) ?_ ?_;refine zj (zC (λs:Nat=>s<=p.length/\∀d∈p.take s,yu x d=0) (λk=>[(2,.ptr nx v0 0),(3,.ptr (nx+1) v1 0),(20,L p),(21,I p.length),(22,I k)]) (λ_=>[.cells v0 25 (zB x),.cells v1 31 [L p]]) (λs=>p.length-s) 0 [] EB (by simp[a]) EB ?_);rintro k ⟨hk,ho⟩;refine EK ?_;refine za (zv rfl (λhc=>?_) (λhc=>?_));simp at hc;obtain⟨d,tl,y,a2,a3,e0⟩:=zF rfl p k hc;have j:=Aa y;refine zh (aA (aF [] (zn hc e0) ?_));intro v2;refine EK ?_;refine zq (gg x d r (l.ok.d d j) (l.ok.t d j) (l.f d j)) ?_;by_cases h0:yu x d=0;refine aF [] h0 ?_;refine zk (by simp[h0]) ?_;refine zh (zb ?_);exact zr (k+1) [_] ⟨hc,λe b=>by rw[a3]at b;obtain b|b:=AB.1 b;exact ho e b;rw[A5.1 b];exact h0⟩ EA (by simp[zu k EA]) rfl rfl;have hf:xq (p.map (yu x))=yu x d:=iE (k:=k) (λe b=>by rw[<-List.map_take]at b;obtain⟨u,g,rfl⟩:=Aj.1 b;exact ho u g) (by rw[Ai,y];rfl) h0;refine aF [] h0 ?_;refine zm (by simp[h0]) ?_;refine EK ?_;exact zg (zi m EC (by rw[c,hf];simp[h0,zp]));simp at hc;obtain rfl:k=p.length:=EA;rw[Ah]at ho;exact zx (yb () [] ho EB rfl EB);intro _ h;have v:=TU l hx hm a h;have w:xq (p.map (yu x))=0:=dI λe b=>by obtain⟨u,g,rfl⟩:=Aj.1 b;exact h u g
 rw[w]at c;simp only[ne_eq,not_true,if_false]at c;rw[c];repeat apply za
 refine zb ?_;refine zj (zC (λs:Nat=>s<=x.y.length/\∀i<s,YL x p i=0) (λk=>[(2,.ptr nx v0 0),(3,.ptr (nx+1) v1 0),(35,I x.y.length),(36,I k)]) (λ_=>[.cells v0 25 (zB x),.cells v1 31 [L p]]) (λs=>x.y.length-s) 0 [] EB EB EB ?_);rintro k ⟨hk,ho⟩;refine EK ?_;refine za (zv rfl (λhc=>?_) (λhc=>?_));simp at hc;refine zh (aA (EK ?_));refine EK ?_;refine zq (TS x p k v o hc) ?_;by_cases h0:YL x p k=0;refine aF [] h0 ?_;refine zk (by simp[h0]) ?_;refine zh (zb ?_);exact zr (k+1) [] ⟨hc,λi hi=>by by_cases q:i=k;rw[q];exact h0;exact ho i EA⟩ EA (by simp[zu k EA]) rfl EB;have hf:xq ((List.range x.y.length).map (YL x p))=YL x p k:=iE (k:=k) (λe b=>by rw[<-List.map_take]at b;obtain⟨u,g,rfl⟩:=Aj.1 b;rw[List.take_range]at g;have:=AN.1 g;exact ho u EA) (by rw[Ai,A4 hc];rfl) h0;refine aF [] h0 ?_;refine zm (by simp[h0]) ?_;refine EK ?_;exact zg (zi m EC (by rw[hf];rfl));simp at hc;obtain rfl:k=x.y.length:=EA;refine zx (EK ?_);exact zg (zi m EC (by rw[dI λe b=>by obtain⟨u,g,rfl⟩:=Aj.1 b;exact ho u (AN.1 g)];rfl))
def XW(l:List Visit)(day:Int)(i k:Nat):List Stop:=((l.take k).filter (λw=>w.d=day)).map λw=>⟨i,w.q⟩
def Q9(v:List (List Visit))(day:Int)(i:Nat):List Stop:=((v.getD i []).filter (λw=>w.d=day)).map λw=>⟨i,w.q⟩
def wv(v:List (List Visit))(day:Int)(n:Nat):List Stop:=(List.range n).flatMap (Q9 v day)
def sn(v:List (List Visit))(a:Int)(n:Nat):wv v a (n+1)=wv v a n++Q9 v a n:=by simp[wv,AC]
theorem TW(l:List Visit)(a:Int)(i:Nat):XW l a i 0=[]:=rfl
def TX(v:List (List Visit))(a:Int)(i:Nat)(l:List Visit)(h:v[i]?=some l):XW l a i l.length=Q9 v a i:=by simp_all[XW,Q9]
variable {k:Nat}
def so{l:List Visit}{w:Visit}(h:l[k]?=some w)(a:Int)(i:Nat):XW l a i (k+1)=XW l a i k++(if w.d=a then [⟨i,w.q⟩] else []):=by grind[XW,List.take_add_one]
structure VsOk (m n:Nat) (v:List (List Visit)):Prop where
 len:v.length=m
 ok:∀l∈v,∀w∈l,(0<=w.d/\w.d<n)/\1<=w.q/\w.q<=2147483648
 nd:∀l∈v,(l.map (·.d)).Nodup
 few:∀l∈v,l.length<=1000
theorem VsOk.at{m:Nat}{v:List (List Visit)}(h:VsOk m n v)(i:Nat):(∀w∈v.getD i [],(0<=w.d/\w.d<n)/\1<=w.q/\w.q<=2147483648)/\((v.getD i []).map (·.d)).Nodup:=by
 rw[List.getD_eq_getElem?_getD];cases e:v[i]? with
 |none=>simp
 |some l=>exact⟨h.ok l (Aa e),h.nd l (Aa e)⟩
def sp{l:List Visit}(h:(l.map (·.d)).Nodup)(c:Int):(l.filter (λw=>w.d=c)).length<=1:=by
 have h1:=(List.filter_sublist (p:=λw:Visit=>decide (w.d=c)) (l:=l)).map (·.d);have h2:=h.sublist h1;have h3:∀w∈l.filter (λw=>w.d=c),w.d=c:=λw e=>by simp_all
 generalize l.filter (λw=>decide (w.d=c))=m at h2 h3
 match m,h2,h3 with
 |[],_,_=>simp
 |[_],_,_=>simp
 |a::b::m,h2,h3 =>
 simp_all
def TY{m:Nat}{v:List (List Visit)}(h:VsOk m n v)(a:Int)(i:Nat):(Q9 v a i).length<=1:=by unfold Q9;rw[List.length_map];exact sp (h.at i).2 a
variable {a:Int}{i:Nat}
def TZ{m:Nat}{v:List (List Visit)}(h:VsOk m n v){s:Stop}(hs:s∈Q9 v a i):s.c=i/\1<=s.q/\s.q<=2147483648:=by obtain⟨w,b,rfl⟩:=Aj.1 hs;exact⟨rfl,((h.at i).1 w (AX.1 b).1).2⟩
theorem iG{m:Nat}{v:List (List Visit)}(h:VsOk m n v)(a:Int):∀k:Nat,(wv v a k).length<=k/\(∀s∈wv v a k,(0<=s.c/\s.c<k)/\1<=s.q/\s.q<=2147483648)/\((wv v a k).map (·.c)).Nodup
 |0=>⟨by simp[wv],by simp[wv],by simp[wv]⟩
 |k+1=>by
  obtain⟨h1,h2,h3⟩:=iG h a k;have b:=TY h a k;have d:∀s∈Q9 v a k,s.c=k/\1<=s.q/\s.q<=2147483648:=λs hs=>TZ h hs;rw[sn];refine⟨by grind,λs hs=>?_,?_⟩;grind;rw[List.map_append];generalize Q9 v a k=e at b d
  match e,b,d with
  |[],_,_=>simpa using h3
  |[s],_,d =>
  grind
  |_::_::_,b,_=>simp at b
structure InstH (x:Inst):Prop where
 y:x.y.length<=1000
 diag:arc x 0 0=0
 aj:qG x
 X:0<=x.X
def sq(hx:InstH x){v:List (List Visit)}(h:VsOk x.y.length n v)(a:Int):SOk x (wv v a x.y.length):=by obtain⟨h1,h2,h3⟩:=iG h a x.y.length;have:=hx.y;exact⟨by omega,hx.aj,hx.X,by omega,λs hs=>by grind[qA],h3⟩
def W9(x:Inst)(v:List (List Visit))(b:Int)(n:Nat):List (zo × Int):=(List.range n).map λd:Nat=>ZP x b (wv v d x.y.length)
def vn(x:Inst)(v:List (List Visit))(b:Int)(n:Nat):zy:=(W9 x v b n).map (·.1)
def j7(x:Inst)(v:List (List Visit))(b:Int)(n:Nat):List Int:=(W9 x v b n).map (·.2)
def iH(x:Inst)(v:List (List Visit))(b:Int)(n:Nat):(vn x v b n).length=n:=by simp[vn,W9]
def sv(x:Inst)(v:List (List Visit))(b:Int)(n:Nat):(j7 x v b n).length=n:=by simp[j7,W9]
def Ua(x:Inst)(v:List (List Visit))(b:Int)(n:Nat):vn x v b (n+1)=vn x v b n++[(ZP x b (wv v n x.y.length)).1]:=by simp[vn,W9,AC]
def Ub(x:Inst)(v:List (List Visit))(b:Int)(n:Nat):j7 x v b (n+1)=j7 x v b n++[(ZP x b (wv v n x.y.length)).2]:=by simp[j7,W9,AC]
def Uc(x:Inst)(v:List (List Visit))(a:Int)(n:Nat)(hx:x.y.length<=1000)(hv:VsOk x.y.length n v):PP 262 [.agg (zB x),L v,I a] (L (wv v a x.y.length)):=by
 have f:=hv.len;have g:=λk=>(iG hv a k).1;have h:qj (x.y.length:Int) (x.y.length:Int)=x.y.length:=by unfold qj;simp
 refine zt func262 ntmps262 results262 λS nx c=>?_;refine EK ?_;intro v0;refine EK ?_;refine za (qO 7 101 2 rfl λv1=>?_);refine EK ?_;refine zj (zC (λs:Nat × List Stop × Nat=>s.1<=x.y.length/\s.2.1=wv v a s.1) (λ(i,out,w)=>[(1,L v),(2,I a),(7,.sl (nx+1) w 2 0 out.length),(16,I x.y.length),(17,I i)]) (λ(i,out,w)=>[.cells v0 25 (zB x),.cells w 101 (out.flatMap Enc.enc)]) (λs=>x.y.length-s.1) (0,[],v1) [] (by simp[wv]) (by simp[f,h]) EB ?_);rintro⟨i,out,w⟩ ⟨hi,ho⟩;simp only at hi ho ⊢;refine EK ?_;refine za (zv rfl (λhc=>?_) (λhc=>?_));simp at hc;have e:i<v.length:=EA;obtain⟨l,tl,m,z,a3,o⟩:=zF rfl v i e;have p:=hv.few l (Aa m);have r:=g i;refine zh (aA (EK ?_));refine aF [] (zn o e) ?_;refine zj (zC (λs:Nat × List Stop × Nat=>s.1<=l.length/\s.2.1=wv v a i++XW l a i s.1/\s.2.1.length<=i+s.1) (λ(k,out,w)=>[(1,L v),(2,I a),(7,.sl (nx+1) w 2 0 out.length),(8,I i),(16,I x.y.length),(17,I i),(23,L l),(24,I l.length),(25,I k)]) (λ(k,out,w)=>[.cells v0 25 (zB x),.cells w 101 (out.flatMap Enc.enc)]) (λs=>l.length-s.1) (0,out,w) [] ⟨by simp,by simp[TW,ho],by simp[ho];omega⟩ EB EB ?_);clear ho;rintro⟨k,out,w⟩ ⟨t,ho,j⟩;simp only at t ho j ⊢;refine EK ?_;refine za (zv rfl (λb=>?_) (λb=>?_));simp at b;obtain⟨s,u,b1,b2,b3,y,e2⟩:=el 2 rfl l k b;refine zh (aA (aF [] (zD y e2 b) ?_));intro v2;refine EK ?_;by_cases c:s.d=a;repeat apply za
 refine zm (by simp[c]) ?_;refine zb ?_;refine⟨by omega,?_⟩;refine zb ?_;exact zr (k+1,out++[⟨i,s.q⟩],w+1) [_] ⟨b,by rw[so b1,if_pos c,ho];simp,by simp;omega⟩ EF (by simp[zu k EA]) rfl EC;repeat apply za
 refine zk (by simp[c]) ?_;refine zh (zb ?_);exact zr (k+1,out,w) [_] ⟨b,by rw[so b1,if_neg c,ho];simp,by dsimp only;omega⟩ EF (by simp[zu k EA]) rfl EC;simp at b;obtain rfl:k=l.length:=EA;rw[TX v a i l m,<-sn]at ho;refine zx (zb ?_);exact zr (i+1,out,w) [] ⟨hc,ho⟩ EF (by simp[zu i EA]) rfl EB;simp at hc;obtain rfl:i=x.y.length:=EA;refine zx (zY 1 rfl ?_);refine EK ?_;exact zg (zi c EC (by simp[zp,ho]))
def Ud(a b:zy)(ha:a.length<=1048576)(x:∀t∈a,t.length<=1048576)(a0:∀t∈a,∀u∈t,u.length<=1048576):PP 14 [.agg [L a],.agg [L b]] (B (decide (a=b))):=by
 refine zt func14 ntmps14 results14 λS nx m=>?_;refine EK ?_;intro v0 v1;by_cases n:a.length=b.length;case neg =>
  have:a≠b:=λe=>n (by rw[e]);repeat apply za
  refine zb ?_;refine zm EF ?_;refine EK ?_;exact zg (zi m rfl (by simp[this]))
 repeat apply za
 refine zb ?_;refine zk EF ?_;refine zh ?_;repeat apply za
 refine zb ?_;refine zj (zC (λk:Nat=>k<=a.length/\a.take k=b.take k) (λk=>[(2,.ptr nx v0 0),(3,.ptr (nx+1) v1 0),(5,I k)]) (λ_=>[.cells v0 31 [L a],.cells v1 31 [L b]]) (λk=>a.length-k) 0 [] EB EB EB ?_);rintro k ⟨hk,g⟩;repeat apply za
 refine zb ?_;refine zv rfl (λhc=>?_) (λhc=>?_)
 .simp at hc;obtain⟨s,ts,o,-,a3,e1⟩:=zF rfl a k hc;obtain⟨t,tt,b1,-,b3,e2⟩:=zF rfl b k EA;have r:k<b.length:=EA;have h1:1<=a.length-k:=EA;have h2:1<=b.length-k:=EA;have a7:=x s (Aa o);have a2:=a0 s (Aa o);refine zh (aA ?_);repeat apply za
  refine zA (some [nx,nx+1]) R7 mixed (zU e1 e2 hc r h1 h2) ?_;by_cases v:s.length=t.length;case neg =>
   have:a≠b:=WT o b1 λe=>v (by rw[e]);refine zm EF ?_;refine EK ?_;exact zg (zi m rfl (by simp[this]))
  refine zk EF ?_;refine zh (EK ?_);refine zj (zC (λj:Nat=>j<=s.length/\s.take j=t.take j) (λj=>[(2,.ptr nx v0 0),(3,.ptr (nx+1) v1 0),(5,I k),(6,I j)]) (λ_=>[.cells v0 31 [L a],.cells v1 31 [L b]]) (λj=>s.length-j) 0 [] EB EB EB ?_);rintro j ⟨hj,h⟩;repeat apply za
  refine ze [] (zD e1 hc h1) ?_;refine zv rfl (λd=>?_) (λd=>?_)
  .simp at d;obtain⟨p,tp,p1,-,p3,q1⟩:=zF rfl s j d;obtain⟨q,tq,c1,-,c3,q2⟩:=zF rfl t j EA;have a4:j<t.length:=EA;have g1:1<=s.length-j:=EA;have g2:1<=t.length-j:=EA;have a8:=a2 p (Aa p1);refine zh (aA (aF [] (zU e1 hc h1 q1 d g1) ?_));refine aF [] (zU e2 r h2 q2 a4 g2) ?_;repeat apply za
   refine zb ?_;by_cases w:p.length=q.length;case neg =>
    have:a≠b:=WT o b1 (WT p1 c1 λe=>w (by rw[e]));refine zm EF ?_;refine EK ?_;exact zg (zi m rfl (by simp[this]))
   refine zk EF ?_;refine zh (EK ?_);refine zj (zC (λi:Nat=>i<=p.length/\p.take i=q.take i) (λi=>[(2,.ptr nx v0 0),(3,.ptr (nx+1) v1 0),(5,I k),(6,I j),(7,L p),(8,L q),(9,I i)]) (λ_=>[.cells v0 31 [L a],.cells v1 31 [L b]]) (λi=>p.length-i) 0 [] EB EB EB ?_);rintro i ⟨hi,hit⟩;repeat apply za
   refine zb ?_;refine zv rfl (λf=>?_) (λf=>?_);simp at f;obtain⟨y,ty,y1,-,y3,-,r1⟩:=el 2 rfl p i f;obtain⟨z,tz,z1,-,z3,-,r2⟩:=el 2 rfl q i EA;have a5:i<q.length:=EA;refine zh (aA (aG none Rg mixed (zR r1 r2 f a5) ?_));by_cases l:y=z;subst l;refine aC (zb ?_);exact zr (i+1) [] ⟨by omega,by rw[y3,z3,hit]⟩ EA (by simp[zu i EA]) rfl EB;have a6:¬y.c=z.c\/¬y.q=z.q:=by by_cases h1:y.c=z.c;right;intro h2;apply l;cases y;cases z;cases h1;cases h2;rfl;exact .inl h1
   have:a≠b:=WT o b1 (WT p1 c1 (WT y1 z1 l));refine zm (by simp;exact a6) ?_;refine EK ?_;exact zg (zi m rfl (by simp[this]));simp at f;obtain rfl:i=p.length:=EA;rw[Ah,w,Ah]at hit;refine zx (zb ?_);exact zr (j+1) [] ⟨by omega,by rw[p3,c3,h,hit]⟩ EA (by simp[zu j EA]) rfl EB
  simp at d;obtain rfl:j=s.length:=EA;rw[Ah,v,Ah]at h;refine zx (zb ?_);exact zr (k+1) [] ⟨by omega,by rw[a3,b3,g,h]⟩ EA (by simp[zu k EA]) rfl EB
 simp at hc;obtain rfl:k=a.length:=EA;rw[Ah,n,Ah]at g;refine zx (EK ?_);exact zg (zi m rfl (by simp[g]))
section
variable {P:Program} {r:Rd} {n N:Nat} {Q:Exit->(Nat->PV)->Store->Prop} {F:Nat->PV} {c:Code}
def Ue{T:Store}{G:Nat->PV}{id ver e:Nat}{cs:List PV}(hid:S id=.cells ver e cs)(hT:T id=.dead)(g:∀o,T o=.dead\/T o=S o\/T o=xy id ver cs (S o))
  (hG:∀i,G i=F i\/G i=qz id ver cs (F i)) (h:PW P r n N c Q G T):PW P r n N c Q F S:=by
 refine QS (F':=G) (S':=T) (λC w a st=>?_) h;have j:∀o v,(T o).ver=some v->(S o).ver=some v:=by intro o v hv;obtain q|q|q:=g o;rw[q]at hv;cases hv;simp_all;grind[mU]
 have f:∀o,T o≠.dead->S o≠.dead:=by intro o ho hd;obtain q|q|q:=g o;exact ho q;simp_all;simp_all
 have hM:∀b,C.M T b->C.M S b:=λb ⟨o,k,ho,hl⟩=>⟨o,k,f o ho,hl⟩;have d:Step C S w C T w:=⟨rfl,⟨rfl,Af _⟩,rfl,Af _,Af _,Af _,λb _ hb=>⟨rfl,λh=>hb (hM b h)⟩,λo v1 hv=>.inr ⟨v1,j o v1 hv,Af _,λ_=>rfl⟩⟩;have l:∀{p u},Rel C S w p u->Rel C T w (qz id ver cs p) u:=λh=>cw st.sim hid hT f d h;refine⟨C,⟨⟨λo ho=>st.sim.lt o (f o ho),λo v hv=>st.sim.clk o v (j o v hv),λo o' b k k' ho t=>st.sim.O o o' b k k' (f o ho) (f o' t),?_,?_⟩,st.size,λi=>?_,r.keep d st.v⟩,d⟩
 .intro o v e' ds ho;obtain q|q|q:=g o;simp_all;rw[q]at ho;obtain hn|⟨b,k,c,h1,h2,h3,s,y,z⟩:=st.sim.cells o v e' ds ho;exact .inl hn;exact .inr ⟨b,k,c,h1,h2,h3,s,y,λi p u hp hu=>(z i p u hp hu).mono d⟩;rw[q]at ho;cases hs:S o with
  |dead=>simp_all
  |map v es=>simp_all
  |cells v2 e2 ds2 =>
  rw[hs]at ho;cases ho;obtain⟨h1,h2⟩|⟨b,k,c,h1,h2,h3,s,y,z⟩:=st.sim.cells o _ _ ds2 hs<;>grind
 intro o v es ho;have hs:S o=.map v es:=by
  obtain q|q|q:=g o;simp_all;simp_all;rw[q]at ho;cases hs:S o with
  |dead=>simp_all
  |map v es=>simp_all
  |cells v2 e2 ds2=>simp_all
 obtain⟨b,k,ms,cl,h1,h2,h3,s⟩:=st.sim.maps o v es hs;exact⟨b,k,ms,cl,h1,h2,h3,λi x m hx hm=>⟨(s i x m hx hm).1,(s i x m hx hm).2.mono d⟩⟩;obtain q|q:=hG i;rw[q];exact(st.fr i).mono d;rw[q];exact l (st.fr i)
def uX{α:Type}(base sz:Nat)(ws:Nat->Nat)(rows:List (List α)):List PV:=(List.range rows.length).map λi=>.sl (base+i) (ws i) sz 0 (rows.getD i []).length
variable {α:Type}
theorem iI(base sz:Nat)(ws:Nat->Nat)(rows:List (List α)):(uX base sz ws rows).length=rows.length:=by simp[uX]
theorem sw(base sz:Nat)(ws:Nat->Nat)(rows:List (List α))(i:Nat)(h:i<rows.length):(uX base sz ws rows)[i]?=some (.sl (base+i) (ws i) sz 0 (rows.getD i []).length):=by simp[uX,h]
def iJ(base sz:Nat)(ws:Nat->Nat)(rows:List (List α))(i:Nat)(h:i<rows.length):∃tl,(uX base sz ws rows).drop i=.sl (base+i) (ws i) sz 0 (rows.getD i []).length::tl:=by refine⟨(uX base sz ws rows).drop (i+1),?_⟩;grind[uX,List.drop_eq_getElem_cons]
structure RowsAt {α:Type} [Enc α] (T:Store) (A va tA base e sz:Nat) (ws:Nat->Nat) (rows:List (List α)):Prop where
 arr:T A=.cells va tA (uX base sz ws rows)
 af:∀i,i<rows.length->T (base+i)=.cells (ws i) e ((rows.getD i []).flatMap Enc.enc)
 out:A<base
variable {A:Nat}
theorem RowsAt.other[Enc α]{T T':Store}{e sz:Nat}{ws:Nat->Nat}{rows:List (List α)}(h:RowsAt T A nx n k e sz ws rows)(a:∀o,o=A\/(k<=o/\o<k+rows.length)->T' o=T o):RowsAt T' A nx n k e sz ws rows :=
 ⟨(a A (.inl rfl)).trans h.arr,λi hi=>(a _ (.inr ⟨by omega,by omega⟩)).trans (h.af i hi),h.out⟩
theorem RowsAt.turn[Enc α]{T T':Store}{e sz:Nat}{ws:Nat->Nat}{rows:List (List α)}(h:RowsAt T A nx n N e sz ws rows)(hi:i<rows.length)(w:Nat)(l:List α)
  (d:T' A=.cells nx n ((uX N sz ws rows).set i (.sl (N+i) w sz 0 l.length))) (g:T' (N+i)=.cells w e (l.flatMap Enc.enc)) (f:∀o,o≠A->o≠N+i->T' o=T o):RowsAt T' A nx n N e sz (λk=>if k=i then w else ws k) (rows.set i l):=by
 have b:=h.out;refine⟨?_,λk c=>?_,h.out⟩;rw[d];congr 1;apply Bg;grind[iI,sw];rw[BP]at c;by_cases a:k=i;simp_all;rw[f _ EA EA,h.af k c,if_neg a];grind
def Uf(base sz:Nat)(ws:Nat->Nat)(m:Nat):uX (α:=α) base sz ws (List.replicate m [])=(List.range m).map λi=>.sl (base+i) (ws i) sz 0 0:=by simp_all[uX]
theorem sx[Enc α](A va tA base e sz m:Nat)(d:A<base):∀(j k:Nat) (T:Store) (ws:Nat->Nat),k+j=m->T A=.cells va tA ((List.range k).map (λi=>.sl (base+i) (ws i) sz 0 0)++List.replicate j (.sc (.slice none 0 0))) ->
  (∀i,i<k->T (base+i)=.cells (ws i) e [])->yd (base+k) T ->
  (∀(T':Store) (b:Nat->Nat),RowsAt T' A va tA base e sz b (List.replicate m ([]:List α))->(∀o,o≠A->o<base->T' o=T o)->yd (base+m) T'->PW P r n N c Q F T')->PW P r n N c Q F T
 |0,k,T,ws,s,p,a,l,h=>by obtain rfl:k=m:=EA;refine h T ws ⟨by rw[p,Uf];simp,λi hi=>?_,d⟩ (λ_ _ _=>rfl) l;simp_all
 |j+1,k,T,ws,s,p,a,l,h=>by
  have f:((List.range k).map (λi=>PV.sl (base+i) (ws i) sz 0 0)++List.replicate (j+1) (.sc (.slice none 0 0)))[k]?=some (.sc (.slice none 0 0)):=by rw[Am EB];simp
  refine fF (o:=A) k e sz p f (Y4 (X:=λid v=>PW P r n N c Q F ((T.set id (.cells v e [])).set A (.cells va tA (((List.range k).map (λi=>PV.sl (base+i) (ws i) sz 0 0)++List.replicate (j+1) (PV.sc (.slice none 0 0))).set k (.sl id v sz 0 0))))) (base+k) (l _ (Af _)) λv=>?_);refine sx A va tA base e sz m d j (k+1) _ (λi=>if i=k then v else ws i) EA ?_ ?_ ?_ λT' b t u q=>h T' b t (λo ho w=>?_) q;rw[q11];congr 1;rw[BQ _ _ EB,AC,List.map_append];simp only[List.length_map,DR,Bs,Br,AW,Ap,A8,if_true];rw[List.append_assoc];congr 1;refine AQ λi hi=>?_;have:=AN.1 hi;rw[if_neg EA];intro i hi;rw[q10 _ _ _ _ EA];by_cases g:i=k;subst g;rw[q11,if_pos rfl];rw[q10 _ _ _ _ EA,if_neg g];exact a i EA;intro i hi;rw[q10 _ _ _ _ EA,q10 _ _ _ _ EA];exact l i EA;grind[q10]
def Ug[Enc α](A va tA base e sz m:Nat){T:Store}(a:T A=.cells va tA (List.replicate m (.sc (.slice none 0 0))))(d:yd base T)
  (h:∀(T':Store) (ws:Nat->Nat),RowsAt T' A va tA base e sz ws (List.replicate m ([]:List α))->(∀o,o≠A->o<base->T' o=T o)->yd (base+m) T'->PW P r n N c Q F T'):PW P r n N c Q F T:=by
 have b:A<base:=by obtain q|q:=Bo A base;exact q;rw[d A q]at a;cases a
 exact sx A va tA base e sz m b m 0 T (λ_=>0) EA (by simpa using a) (λi hi=>by omega) EA h
def sy{obs:List Ob}{id ver b:Nat}{cs:List PV}(i e sz:Nat)(d:id<nx)(hs:S id=.cells ver b cs)(hi:cs[i]?=some (.sc (.slice none 0 0)))
  (h:∀v,PW P r n N c Q F (ext (S.set id (.cells ver b (cs.set i (.sl (nx+obs.length) v sz 0 0)))) nx (obs++[.cells v e []]))):PW P r n N c Q F (ext S nx obs) :=
 fF (o:=id) i e sz (by simp_all[zG]) hi (Y4 (X:=λa v=>PW P r n N c Q F (((ext S nx obs).set a (.cells v e [])).set id (.cells ver b (cs.set i (.sl a v sz 0 0))))) _ Z5 λv=>by rw[jE,qE _ d];exact h v)
end
instance:Enc Mv:=⟨λm=>Yc m,5,λ_=>rfl,λ_=>rfl⟩
@[simp] theorem ZD3(m:Mv):Enc.enc m=Yc m:=rfl
@[simp high] theorem ZD4(l:List Mv):(l.flatMap Enc.enc).length=l.length*5:=xz l
@[simp high] theorem ZD5(l:List Mv):(l.flatMap Enc.enc).take (l.length*5)=l.flatMap Enc.enc:=Yw l
def Uh{A B:Prop}(h2:A->B)(h1:A):B:=h2 h1
abbrev wL(x:Inst)(v:PV)(b:Int)(p f pr:PV):List PV:=[I x.days,I x.X,I x.Q,I x.len,L x.y,L x.O,v,I b,p,f,pr]
variable {vF:Nat}
def Ui{id ver idF:Nat}(x:Inst)(v p pr:PV)(b:Int)(fs:List Int)(g:S id=.cells ver 255 (wL x v b p (.sl idF vF 1 0 fs.length) pr))(i:S idF=.cells vF 49 (fs.flatMap Enc.enc))(hl:fs.length<=1000):
  SP 229 [.ptr id ver 0] S (λq S'=>q=I (xq fs)/\S'=S):=by
 refine yr func229 ntmps229 results229 λnx c=>?_;have f:id<nx:=qB c g EB;have a:idF<nx:=qB c i EB;have l:=λobs=>zG (S:=S) (obs:=obs) f;have m:=λobs=>zG (S:=S) (obs:=obs) a;refine EK ?_;repeat apply za
 refine ze [] (zn l g) ?_;refine zj (zC (λk:Nat=>k<=fs.length/\∀e∈fs.take k,e=0) (λk=>[(8,.sl idF vF 1 0 fs.length),(9,I fs.length),(10,I k)]) (λ_=>[]) (λk=>fs.length-k) 0 [] EB EB EB ?_);rintro k ⟨r,h0⟩;refine EK ?_;refine za (zv rfl (λhc=>?_) (λhc=>?_));simp at hc;obtain⟨e,tl,n,s,a3,o⟩:=zF rfl fs k hc;refine zh (aA (aF [] (zR m i o hc) ?_));refine EK ?_;by_cases d:e=0;repeat apply za
 refine zk (by simp[d]) ?_;refine zh (zb ?_);exact zr (k+1) [] ⟨hc,λy j=>by rw[a3]at j;obtain h|h:=AB.1 j;exact h0 y h;rw[A5.1 h];exact d⟩ EA (by simp[zu k EA]) rfl EB;repeat apply za
 refine zm (by simp[d]) ?_;refine EK ?_;exact zg ⟨_,S,rfl,⟨by simp[zp,iE h0 n d],rfl⟩,zV c⟩;simp at hc;obtain rfl:k=fs.length:=EA;rw[Ah]at h0;refine zx (EK ?_);exact zg ⟨_,S,rfl,⟨by simp[zp,dI h0],rfl⟩,zV c⟩
variable {vD:Nat}{pr:PV}{fs:List Int}
def Uj{id ver idD idF:Nat}{v:List (List Visit)}{ds:zy}(k:Nat)(q:S id=.cells ver 255 (wL x (L v) b (.sl idD vD 1 0 ds.length) (.sl idF vF 1 0 fs.length) pr))
  (y:S idD=.cells vD 96 (ds.flatMap Enc.enc)) (s:S idF=.cells vF 49 (fs.flatMap Enc.enc)) (z:id≠idD) (t:id≠idF) (d3:idD≠idF) (hx:InstH x) (hv:VsOk x.y.length n v) (hb:b<=9223372036854775807) (a0:ds.length<=1000) (a1:fs.length<=1000) :
  SP 228 [.ptr id ver 0,I k] S (λ_ S'=>S'=((S.set id (.cells ver 255 (wL x (L v) b (.sl idD (vD+1) 1 0 (ds.length+1)) (.sl idF (vF+1) 1 0 (fs.length+1)) pr))).set idD (.cells (vD+1) 96 ((ds++[(ZP x b (wv v k x.y.length)).1]).flatMap Enc.enc))).set idF
   (.cells (vF+1) 49 ((fs++[(ZP x b (wv v k x.y.length)).2]).flatMap Enc.enc))):=by
 have j:=Uc x v k n hx.y hv;have f:=SN (sq hx hv k) hx.diag hb;generalize wv v k x.y.length=st at j f ⊢;generalize ZP x b st=r at f ⊢;obtain⟨d,e⟩:=r;simp only at f ⊢;refine yr func228 ntmps228 results228 λnx m=>?_;have g:id<nx:=qB m q EB;have l:idD<nx:=qB m y EB;have h:idF<nx:=qB m s EB;have p:=λobs=>(zG (S:=S) (obs:=obs) g).trans q;have xd:=λobs=>(zG (S:=S) (obs:=obs) l).trans y;have xf:=λobs=>(zG (S:=S) (obs:=obs) h).trans s;have g1:¬nx<=id:=EA;have g2:¬nx<=idD:=EA;have g3:¬nx<=idF:=EA;have yw:=λ(o:Ob) obs=>(zG (S:=S.set idD o) (obs:=obs) g).trans ((q10 _ _ _ _ z).trans q);have zw:=λ(o o':Ob) obs=>(zG (S:=(S.set idD o).set id o') (obs:=obs) g).trans (q11 _ _ _);have zf:=λ(o o':Ob) obs=>(zG (S:=(S.set idD o).set id o') (obs:=obs) h).trans ((q10 _ _ _ _ t.symm).trans ((q10 _ _ _ _ d3.symm).trans s));have uw:=λ(o o' u:Ob) obs=>(zG (S:=((S.set idD o).set id o').set idF u) (obs:=obs) g).trans ((q10 _ _ _ _ t).trans (q11 _ _ _));refine aG (some [id]) (Row.pures [0,1,2,3,4,5,6,7,8,9,10,11,12,13,14,15,16,17,18,19,20,21] (.alt 22 (.alt 23 (Row.pures [24] .done) .stop) .stop)) mixed p ?_;refine zJ (j) p ?_;refine zJ (f) p ?_;intro v2;refine aG (some [nx]) R6 mixed (yx p xd yw g1 g2) ?_;refine⟨by omega,?_⟩;refine ze [] (yx zw zf uw g1 g3) ?_;refine⟨by omega,?_⟩;have e1:∀(a b c d:Ob),(((S.set idD a).set id b).set idF c).set id d=((S.set id d).set idD a).set idF c:=by intro a b c d;funext i;simp only[Store.set];by_cases h1:i=id;subst h1;simp[z,t];simp only[h1,if_false]
 have w:∀(a b c:Ob),yd nx (((S.set id a).set idD b).set idF c):=by intro a b c i hi;rw[q10 _ _ _ _ EA,q10 _ _ _ _ EA,q10 _ _ _ _ EA];exact m i hi
 rw[e1];exact⟨_,_,rfl,by simp,zV (w _ _ _)⟩
def Uk{id ver:Nat}(x:Inst)(v p f pr:PV)(b:Int)(fn:FuncId)(fs:List PV)(n:Nat)(hn:x.days=n)(i:n<=1000)(g:S id=.cells ver 255 (wL x v b p f pr))(St:Nat->Store)(h0:St 0=S)
  (a:∀nx,yd nx S->∀k,k<=n->yd nx (St k)) (c:∀k,k<n->Spec prog fn (fs++[I k]) (St k) (λ_ S'=>S'=St (k+1))) :
  SP 182 [.ptr id ver 0,.fn (.func fn) fs []] S (λ_ S'=>S'=St n):=by
 refine yr func182 ntmps182 results182 λnx h=>?_;have e:id<nx:=qB h g EB;have j:=λobs=>(zG (S:=S) (obs:=obs) e).trans g;have a:=a nx h;refine aF [] (zn j hn) ?_;refine zj (xk (σ:=Nat) (λk=>k<=n) (λk=>[(1,.fn (.func fn) fs []),(9,I n),(10,I k)]) (λk=>St k) (λ_=>[]) (λk=>n-k) (yb 0 [] EB EB h0 EB) ?_);rintro k l;refine EK ?_;refine za (zv rfl (λhc=>?_) (λhc=>?_));simp at hc;refine zh (aA (EK ?_));refine zb ?_;refine λd=>(Spec.mono (by rw[jm (a k l)];simpa using c k hc) ?_).v;rintro _ _ rfl;refine⟨St (k+1),[],(jm (a (k+1) hc)).symm,zO d ?_⟩;refine zb ?_;exact zr (k+1) [] hc EA (by simp[zu k EA]) rfl EB;simp at hc;obtain rfl:k=n:=EA;refine zx ?_;exact⟨_,_,rfl,rfl,zV (a k (Af _))⟩
variable {v0 y:PV}
def Ul{id ver:Nat}(s:yd nx S){v:List (List Visit)}{z:PV}(t:S id=.cells ver 255 (wL x v0 b y z pr))(hx:InstH x)(hn:x.days=n)(h:n<=1000)(hv:VsOk x.y.length n v)(hb:b<=9223372036854775807):
  SP 185 [.ptr id ver 0,L v] S (λq S'=>q=I (xq (j7 x v b n))/\∃vD vF,S'=ext (S.set id (.cells ver 255 (wL x (L v) b (.sl nx vD 1 0 (vn x v b n).length) (.sl (nx+1) vF 1 0 (j7 x v b n).length) pr))) nx
   [.cells vD 96 ((vn x v b n).flatMap Enc.enc),.cells vF 49 ((j7 x v b n).flatMap Enc.enc)]):=by
 have l:=iH x v b;have j:=sv x v b;refine Z7 s func185 ntmps185 results185 ?_;have d:id<nx:=qB s t EB;have g1:¬nx<=id:=EA;have xw:=λobs=>(zG (S:=S) (obs:=obs) d).trans t;have yw:=λ(o:Ob) obs=>(zG (S:=S.set id o) (obs:=obs) d).trans (q11 _ _ _);refine EK ?_;refine aF [] (zR xw yw g1 Store.set_set) ?_;refine sy (id:=id) 8 96 1 d (q11 _ _ _) rfl λvD=>?_;rw[Store.set_set];refine sy (id:=id) 9 49 1 d (q11 _ _ _) rfl λvF=>?_;rw[Store.set_set];simp only[AO,AW,Ab,Ag,List.cons_append,AI,BK,A3];generalize p:(λk:Nat=>ext (S.set id (.cells ver 255 (wL x (L v) b (.sl nx (vD+k) 1 0 (vn x v b k).length) (.sl (nx+1) (vF+k) 1 0 (j7 x v b k).length) pr))) nx
   [.cells (vD+k) 96 ((vn x v b k).flatMap Enc.enc),.cells (vF+k) 49 ((j7 x v b k).flatMap Enc.enc)])=St
 have a:∀k,St k=ext (S.set id (.cells ver 255 (wL x (L v) b (.sl nx (vD+k) 1 0 (vn x v b k).length) (.sl (nx+1) (vF+k) 1 0 (j7 x v b k).length) pr))) nx
   [.cells (vD+k) 96 ((vn x v b k).flatMap Enc.enc),.cells (vF+k) 49 ((j7 x v b k).flatMap Enc.enc)]:=λk=>by rw[<-p]
 have h0:St 0=ext (S.set id (.cells ver 255 (wL x (L v) b (.sl nx vD 1 0 0) (.sl (nx+1) vF 1 0 0) pr))) nx [.cells vD 96 [],.cells vF 49 []]:=a 0;have hid:∀k,St k id=.cells ver 255 (wL x (L v) b (.sl nx (vD+k) 1 0 (vn x v b k).length) (.sl (nx+1) (vF+k) 1 0 (j7 x v b k).length) pr):=λk=>by rw[a k,zG d,q11]
 have f:∀k,k<n->SP 228 ([.ptr id ver 0]++[I k]) (St k) (λ_ S'=>S'=St (k+1)):=by intro k u;have h1:=l k;have h2:=j k;refine(Uj (idD:=nx) (idF:=nx+1) (n:=n) k (hid k) (by rw[a k];simp) (by rw[a k];simp) EA EA EA hx hv hb EA EA).mono ?_;rintro _ _ rfl;rw[a k,a (k+1),qE _ d,Store.set_set,yi _ EA EB,yi _ EA EB,Ua,Ub];simp[Nat.add_assoc]
 have g:∀m,yd m (St 0)->∀k,k<=n->yd m (St k):=by
  intro m hm k _ i hi;have a0:nx+1<m:=by obtain q|q:=Bo (nx+1) m;exact q;have:=hm (nx+1) q;rw[a 0]at this;simp at this
  rw[a k];simp only[ext];rw[if_neg EA,List.getD_eq_getElem?_getD,Ao EF];rfl
 rw[<-h0];have r:=hid 0;have w:nx+2=nx+[Ob.cells (vD+0) 96 ((vn x v b 0).flatMap Enc.enc),.cells (vF+0) 49 ((j7 x v b 0).flatMap Enc.enc)].length:=rfl;have c:∀k,St k=ext (St k) (nx+2) []:=λk=>by refine(jm ?_).symm;rw[a k];exact xM (obs:=[_,_])
 rw[c 0];refine EK ?_;refine λe=>((Uk x (L v) _ _ pr b _ _ n hn h (by rw[<-c 0];exact r) St (c 0) (λm hm k u=>g m (by rw[c 0];exact hm) k u) f).mono ?_).v;rintro _ _ rfl;refine⟨_,_,c n,zO e ?_⟩;refine EK ?_;refine λe=>((Ui (idF:=nx+1) x _ _ _ _ (j7 x v b n) (by rw[<-c n];exact hid n) (by rw[<-c n,a n];simp) (by rw[j];exact h)).mono ?_).v;rintro _ _ ⟨rfl,rfl⟩;refine⟨_,_,rfl,zO e ?_⟩;refine zg ⟨_,St n,rfl,⟨by simp[zp],vD+n,vF+n,a n⟩,λo=>.inl ?_⟩;rw[<-c n]
def Um(n:Nat):qw n (.slice none 0 0)=List.replicate n (.sc (.slice none 0 0)):=by
 induction n with
 |zero=>simp
 |succ n a=>rw[Jw,a];rfl
def Qs(q:List Int):Prop:=∀z∈q,0<=z/\z<=2147483648
structure GoodV (n:Nat) (v:List Visit):Prop where
 len:v.length<=64
 ok:∀s∈v,(0<=s.d/\s.d<n)/\1<=s.q/\s.q<=2147483648
 nd:(v.map (·.d)).Nodup
def yQ:Nat->List Int->List Visit
 |_,[]=>[]
 |i,z::l=>if 0<z then ⟨i,z⟩::yQ (i+1) l else yQ (i+1) l
theorem dK:∀(l:List Int) (i:Nat),(yQ i l).length<=l.length
 |[],_=>by simp[yQ]
 |z::l,i=>by have:=dK l (i+1);simp only[yQ];split<;>simp<;>omega
theorem dL:∀(l:List Int) (i:Nat),Qs l->∀s∈yQ i l,((i:Int)<=s.d/\s.d<(i+l.length:Nat))/\1<=s.q/\s.q<=2147483648
 |[],_,_=>by intro s hs;cases hs
 |z::l,i,h=>by
  have a:=dL l (i+1) λx hx=>h x (by simp[hx]);have b:=h z EB;intro s hs;simp only[yQ]at hs;split at hs;rcases Al.1 hs with rfl|hs
  simp only[Ab];omega;have:=a s hs;simp only[Ab];omega;have:=a s hs;simp only[Ab];omega
theorem sA:∀(l:List Int) (i:Nat),∀s∈yQ i l,(i:Int)<=s.d
 |[],_=>by intro s hs;cases hs
 |z::l,i=>by
  have a:=sA l (i+1);intro s hs;simp only[yQ]at hs;split at hs;rcases Al.1 hs with rfl|hs
  exact Cc _;have:=a s hs;omega;have:=a s hs;omega
theorem sB:∀(l:List Int) (i:Nat),((yQ i l).map (·.d)).Nodup
 |[],_=>by simp[yQ]
 |z::l,i=>by have a:=sB l (i+1);simp only[yQ];split;rw[Ap,Cr];refine⟨λh=>?_,a⟩;obtain⟨s,hs,e⟩:=Aj.1 h;have:=sA l (i+1) s hs;simp only at e;omega;exact a
def Un(n a k:Nat):(yC n a k).Nodup:=by unfold yC;refine List.Pairwise.map _ (λx y (h:x≠y)=>?_) (List.Pairwise.filter _ List.nodup_range);intro e;apply h;omega
def sC(a:Qs q)(hl:q.length<=n)(hn:n<=64):GoodV n (yQ 0 q):=by refine⟨AF (dK q 0) EA,λs hs=>?_,sB q 0⟩;have:=dL q 0 a s hs;omega
def Qq(c:Cust)(p:Nat):List Visit:=(yC p 0 64).map λd=>⟨d,c.R⟩
structure CustMade (c:Cust) (n:Nat):Prop where
 Z:CustFits c
 J:∀p∈c.J,p<2^64
 npats:c.J.length<=1048576
 per:c.kind=1->(∀p∈c.J,∀d∈yC p 0 64,d<n)/\1<=c.R/\c.R<=2147483648
def iK{α:Type}[Enc α](h1:Enc.sz α=1)(l:List α)(k:Nat)(v:α)(h:k<l.length):yl (l.flatMap Enc.enc) k (Enc.enc v)=(l.set k v).flatMap Enc.enc:=by
 have a:(l.flatMap Enc.enc).take k=(l.take k).flatMap Enc.enc:=by have:=Jx (α:=α) Enc.enc (Enc.sz α) Enc.len l k;rwa[h1,BU]at this
 have e2:(l.flatMap Enc.enc).drop (k+1)=(l.drop (k+1)).flatMap Enc.enc:=by have:=Wv (α:=α) Enc.enc (Enc.sz α) Enc.len l (k+1);rwa[h1,BU]at this
 rw[yl,Enc.len,h1,a,e2,AK,if_pos h];simp
def RowOf(S:Store)(pl:PV)(l:List Int):Prop:=pl=L l\/∃id ver,pl=.sl id ver 1 0 l.length/\S id=.cells ver 3 (l.flatMap Enc.enc)
theorem RowOf.ext{a:PV}{l:List Int}(h:RowOf S a l)(b:yd nx S)(obs:List Ob):RowOf (ext S nx obs) a l:=by obtain h|⟨id,ver,h1,h2⟩:=h;exact .inl h;exact .inr ⟨id,ver,h1,(zG (qB b h2 EB)).trans h2⟩
def sD{id ver:Nat}(i:yd nx S)(x:Inst)(v p f pr:PV)(b:Int)(fn:FuncId)(fs:List PV)(n:Nat)(hn:x.days=n)(l:n<=1000)(j:S id=.cells ver 255 (wL x v b p f pr))(Pk:Nat->Store->Prop)(h0:Pk 0 S)
  (a:∀k T,Pk k T->yd nx T) (c:∀k,k<n->∀T,Pk k T->Spec prog fn (fs++[I k]) T (λ_ S'=>Pk (k+1) S')) :
  SP 182 [.ptr id ver 0,.fn (.func fn) fs []] S (λ_ S'=>Pk n S'):=by
 refine Z7 i func182 ntmps182 results182 ?_;have h:id<nx:=qB i j EB;have m:=λobs=>(zG (S:=S) (obs:=obs) h).trans j;refine aF [] (zn m hn) ?_;refine zj (xk (σ:=Nat × Store) (λs=>s.1<=n/\Pk s.1 s.2) (λs=>[(1,.fn (.func fn) fs []),(9,I n),(10,I s.1)]) (λs=>s.2) (λ_=>[]) (λs=>n-s.1) (yb (0,S) [] ⟨by simp,h0⟩ EB rfl EB) ?_);rintro⟨k,T⟩ ⟨o,d⟩;simp only at o d ⊢;refine EK ?_;refine za (zv rfl (λhc=>?_) (λhc=>?_));simp at hc;refine zh (aA (EK ?_));refine zb ?_;refine λe=>(Spec.mono (by rw[jm (a k T d)];simpa using c k hc T d) ?_).v;rintro _ T' g;refine⟨T',[],(jm (a _ _ g)).symm,zO e ?_⟩;refine zb ?_;exact zr (k+1,T') [] ⟨hc,g⟩ EA (by simp[zu k EA]) rfl EB;simp at hc;obtain rfl:k=n:=EA;refine zx ?_;exact⟨_,T,rfl,d,zV (a _ _ d)⟩
def Qr(x:Inst)(j:Nat):Int:=W (yJ x [(j:Int)])
def xD(x:Inst)(k i:Nat):List (List Int):=(List.range x.y.length).map λj=>List.replicate (if j<i then k+1 else k) (Qr x j)
def XX(x:Inst)(k i:Nat):(xD x k i).length=x.y.length:=by simp[xD]
def sE(x:Inst)(k i j:Nat)(h:j<x.y.length):(xD x k i).getD j []=List.replicate (if j<i then k+1 else k) (Qr x j):=by simp_all[xD]
def Uo(x:Inst)(k:Nat):xD x k x.y.length=xD x (k+1) 0:=by simp[xD]
def Up(x:Inst)(k i:Nat)(h:i<x.y.length):(xD x k i).set i (List.replicate (k+1) (Qr x i))=xD x k (i+1):=by apply Bg;grind[xD]
variable {A:Nat}{ws:Nat->Nat}
def Uq{id ver:Nat}{v p f:PV}(k:Nat)(hx:x.y.length<=1000)(hk:k<=1000)(hid:id<vD)(e:id≠A)(hS:S id=.cells ver 255 (wL x v b p f (.sl A vF 1 0 x.y.length)))
  (a:RowsAt S A vF 26 vD 3 1 ws (xD x k 0)) :
  SP 183 [.ptr id ver 0,I k] S (λ_ S'=>(∃a0,RowsAt S' A vF 26 vD 3 1 a0 (xD x (k+1) 0))/\∀o,o≠A->(o<vD\/vD+x.y.length<=o)->S' o=S o):=by
 refine yr func183 ntmps183 results183 λnx hd=>?_;have d:id<nx:=qB hd hS EB;have g:A<nx:=qB hd a.arr EB;have h:∀i,i<x.y.length->vD+i<nx:=λi hi=>qB hd (a.af i (by simp_all[XX])) EB;have xw:=λobs=>(zG (S:=S) (obs:=obs) d).trans hS;refine aF [] xw ?_;refine zj (xk (σ:=Nat × Store × (Nat->Nat)) (λs=>s.1<=x.y.length/\RowsAt s.2.1 A vF 26 vD 3 1 s.2.2 (xD x k s.1)/\∀o,o≠A->(o<vD\/vD+x.y.length<=o)->s.2.1 o=S o)
  (λs=>[(0,.ptr id ver 0),(10,I x.y.length),(11,I s.1)]) (λs=>s.2.1) (λ_=>[]) (λs=>x.y.length-s.1) (yb (0,S,ws) [] ⟨by simp,a,λ_ _ _=>rfl⟩ EB rfl EB) ?_)
 clear a;rintro⟨i,T,ws⟩ ⟨hi,a,r⟩;simp only at hi a r ⊢;refine EK ?_;refine za (zv rfl (λhc=>?_) (λhc=>?_));simp at hc;have l:T id=.cells ver 255 (wL x v b p f (.sl A vF 1 0 x.y.length)):=(r id e (.inl hid)).trans hS;have a4:=a.out;have t:=a.af i (by simp_all[XX]);rw[sE x k i i hc,if_neg (C7 i)]at t;have u:=h i hc;have xw:=λobs=>(zG (S:=T) (obs:=obs) d).trans l;have xa:=λobs=>(zG (S:=T) (obs:=obs) g).trans a.arr;have xr:=λobs=>(zG (S:=T) (obs:=obs) u).trans t;have ya:=λ(o:Ob) obs=>(zG (S:=T.set (vD+i) o) (obs:=obs) g).trans ((q10 _ _ _ _ EA).trans a.arr);have yw:=λ(o:Ob) obs=>(zG (S:=T.set (vD+i) o) (obs:=obs) d).trans ((q10 _ _ _ _ EA).trans l);have zw:=λ(o o':Ob) obs=>(zG (S:=(T.set (vD+i) o).set A o') (obs:=obs) d).trans ((q10 _ _ _ _ e).trans ((q10 _ _ _ _ EA).trans l));have g1:¬nx<=vD+i:=EA;have g2:¬nx<=A:=EA;obtain⟨tl,n⟩:=iJ vD 1 ws (xD x k i) i (by simp_all[XX]);rw[sE x k i i hc,if_neg (C7 i),Cf]at n;have w:(uX vD 1 ws (xD x k i)).length=x.y.length:=by rw[iI,XX]
 have y:=gA (uX vD 1 ws (xD x k i)) i (.sl (vD+i) (ws i+1) 1 0 (k+1)) EA;have z:=nB x [(i:Int)] EB (λc hc=>by grind[qA]);have a1:∀m:Nat,((List.replicate m (Qr x i)).flatMap Enc.enc).length=m:=λm=>by simp
 refine zh (aA (EK ?_));refine zA (some [id]) (Row.pures [0,1,2,3,4,5,6,7,8,9,10,12,13,14,15,16,17,18,19] (.alt 11 (.alt 20 (Row.pures [21] (.alt 22 (.done) .stop)) .stop) .stop)) mixed (zU xw xa xr ya yw (zn (zU zw n g1 g2 y w) hc)) ?_;refine zJ (z) (zU xw xa xr ya yw (zn (zU zw n g1 g2 y w) hc)) ?_;refine⟨by omega,by omega,?_⟩;obtain⟨T',q⟩:∃T',T'=(T.set (vD+i) (.cells (ws i+1) 3 ((List.replicate (k+1) (Qr x i)).flatMap Enc.enc))).set A (.cells vF 26 ((uX vD 1 ws (xD x k i)).set i (.sl (vD+i) (ws i+1) 1 0 (List.replicate (k+1) (Qr x i)).length))):=⟨_,rfl⟩;have j:=a.turn (i:=i) (by simp_all[XX]) (T':=T') (ws i+1) (List.replicate (k+1) (Qr x i)) EJ (by rw[q,q10 _ _ _ _ EA,q11]) (λo o1 o2=>by simp_all[q10]);rw[Up x k i hc]at j;refine zb ?_;refine zr (i+1,T',_) [] ⟨hc,j,λo ho a2=>?_⟩ EA (by simp[zu i EA]) ?_ EB;dsimp only;rw[q,q10 _ _ _ _ ho,q10 _ _ _ _ EA];exact r o ho a2;dsimp only;rw[q];have a5:((List.replicate k (Qr x i)).flatMap Enc.enc).take k=(List.replicate k (Qr x i)).flatMap Enc.enc:=Ae (by rw[a1];exact Af _);simp_all[Dt,Qr];simp at hc;obtain rfl:i=x.y.length:=EA;rw[Uo]at a;refine zx ?_;have a3:yd nx T:=λo ho=>by have h1:o≠A:=EA;by_cases h2:o<vD\/vD+x.y.length<=o;rw[r o h1 h2];exact hd o ho;have:=h (o-vD) EA;omega
 exact⟨_,T,rfl,⟨⟨ws,a⟩,r⟩,zV a3⟩
def Qt(k:Nat)(l:List Int):List Int:=l.set k (W (W (2*l.getD k 0)+1))
def Zt(pr:List (List Int))(k i:Nat):List (List Int):=(List.range pr.length).map λj=>if j<i then Qt k (pr.getD j []) else pr.getD j []
def Va(fs:List Int)(pr:List (List Int))(k:Nat):List (List Int):=if fs.getD k 0=14 then pr.map (Qt k) else pr
def Vb(fs:List Int)(pr:List (List Int)):Nat->List (List Int)
 |0=>pr
 |k+1=>Va fs (Vb fs pr k) k
def sF(k:Nat)(l:List Int):(Qt k l).length=l.length:=by simp[Qt]
def ay(pr:List (List Int))(k i:Nat):(Zt pr k i).length=pr.length:=by simp[Zt]
def iL(pr:List (List Int))(k i j:Nat)(h:j<pr.length):(Zt pr k i).getD j []=if j<i then Qt k (pr.getD j []) else pr.getD j []:=by simp_all[Zt]
def Ur(pr:List (List Int))(k:Nat):Zt pr k 0=pr:=by apply Bg;grind[Zt]
def Us(pr:List (List Int))(k:Nat):Zt pr k pr.length=pr.map (Qt k):=by apply Bg;grind[Zt]
def Ut(pr:List (List Int))(k i:Nat)(h:i<pr.length):(Zt pr k i).set i (Qt k (pr.getD i []))=Zt pr k (i+1):=by apply Bg;grind[Zt]
def Ye(m n:Nat)(pr:List (List Int)):Prop:=pr.length=m/\∀l∈pr,l.length=n/\∀z∈l,zL z
def iM(x:Int):zL (W x):=by
 have key:∀m:Int,0<=m->m<2^64->zL (if (true&&decide (m>=2^(64-1)))=true then m-2^64 else m):=by intro m h1 h2;unfold zL;by_cases h:m>=2^(64-1);simp[h];omega;simp[h];omega
 exact key _ (D6 x EH) (DD x EH)
def Uu{m:Nat}{pr:List (List Int)}(fs:List Int)(k:Nat)(h:Ye m n pr):Ye m n (Va fs pr k):=by unfold Va;split;refine⟨by simp[h.1],λl hl=>?_⟩;obtain⟨l',a,rfl⟩:=Aj.1 hl;rw[sF];refine⟨(h.2 l' a).1,λz b=>?_⟩;obtain b|rfl:=BH b;exact(h.2 l' a).2 z b;exact iM _;omega
theorem aH{m:Nat}{pr:List (List Int)}(fs:List Int)(h:Ye m n pr):∀k,Ye m n (Vb fs pr k)
 |0=>h
 |k+1=>Uu fs k (aH fs h k)
def sG(x:Inst)(n:Nat):Ye x.y.length n (xD x n 0):=by refine⟨XX x n 0,λl hl=>?_⟩;obtain⟨j,_,rfl⟩:=Aj.1 hl;refine⟨by simp,λz a=>?_⟩;rw[(List.mem_replicate.1 a).2];exact iM _
def Uv{id ver base idF:Nat}{v p:PV}{m:Nat}{pr:List (List Int)}(k:Nat)(hm:m<=1000)(hn:n<=1000)(a6:k<n)(hid:id<base)(d1:id≠A)(hF:S idF=.cells vF 49 (fs.flatMap Enc.enc))(d3:fs.length=n)
  (hS:S id=.cells ver 255 (wL x v b p (.sl idF vF 1 0 fs.length) (.sl A vD 1 0 m))) (hP:Ye m n pr) (c:RowsAt S A vD 26 base 3 1 ws pr) :
  SP 188 [.ptr id ver 0,I k] S (λ_ S'=>RowsAt S' A vD 26 base 3 1 ws (Va fs pr k)/\∀o,(o<base\/base+m<=o)->S' o=S o):=by
 obtain⟨a0,a7⟩:=hP;refine yr func188 ntmps188 results188 λnx hd=>?_;have q:id<nx:=qB hd hS EB;have a1:idF<nx:=qB hd hF EB;have f:A<nx:=qB hd c.arr EB;have g:∀i,i<m->base+i<nx:=λi hi=>qB hd (c.af i EA) EB;have xw:=λobs=>(zG (S:=S) (obs:=obs) q).trans hS;have xf:=λobs=>(zG (S:=S) (obs:=obs) a1).trans hF;obtain⟨e,d4,e1,-,-,e0⟩:=zF rfl fs k EA;have a8:k<fs.length:=EA;have d5:fs.getD k 0=e:=by rw[List.getD_eq_getElem?_getD,e1];rfl
 repeat apply za
 refine ze [] (zR xw xf e0 a8) ?_;by_cases he:e=14;case neg =>
  refine zm (by simp[he]) ?_;exact zg ⟨_,S,rfl,⟨by simp_all[Va],λ_ _=>rfl⟩,zV hd⟩
 refine zk (by simp[he]) ?_;refine zh (aF [] xw ?_);have r:∀T:Store,(∀o,(o<base\/base+m<=o)->T o=S o)->yd nx T:=λT t o ho=>by by_cases h2:o<base\/base+m<=o;rw[t o h2];exact hd o ho;have:=g (o-base) EA;omega
 refine zj (xk (σ:=Nat × Store) (λs=>s.1<=m/\RowsAt s.2 A vD 26 base 3 1 ws (Zt pr k s.1)/\∀o,(o<base\/base+m<=o)->s.2 o=S o)
  (λs=>[(0,.ptr id ver 0),(1,I k),(17,I m),(18,I s.1)]) (λs=>s.2) (λ_=>[]) (λs=>m-s.1) (yb (0,S) [] ⟨by simp,by simp_all[Ur],λ_ _=>rfl⟩ EB rfl EB) ?_)
 have d2:=c.out;clear c;rintro⟨i,T⟩ ⟨hi,c,t⟩;simp only at hi c t ⊢;refine EK ?_;refine za (zv rfl (λhc=>?_) (λhc=>?_));simp at hc;have a:i<pr.length:=EA;have a2:T id=.cells ver 255 (wL x v b p (.sl idF vF 1 0 fs.length) (.sl A vD 1 0 m)):=(t id (.inl hid)).trans hS;have u:=c.af i (by simp_all[ay]);rw[iL pr k i i a,if_neg (C7 i)]at u;obtain⟨tl,w⟩:=iJ base 1 ws (Zt pr k i) i (by simp_all[ay]);rw[iL pr k i i a,if_neg (C7 i)]at w;have a9:(uX base 1 ws (Zt pr k i)).length=m:=by rw[iI,ay,a0]
 have y:(pr.getD i []).length=n:=by rw[List.getD_eq_getElem?_getD,Ac a];exact(a7 _ (AZ a)).1
 generalize h:pr.getD i []=row at u w y;obtain⟨z,d6,z1,-,-,z0⟩:=zF rfl row k EA;have b7:row.getD k 0=z:=by rw[List.getD_eq_getElem?_getD,z1];rfl
 have a3:k<row.length:=EA;have a4:=g i hc;have xw:=λobs=>(zG (S:=T) (obs:=obs) q).trans a2;have xa:=λobs=>(zG (S:=T) (obs:=obs) f).trans c.arr;have xr:=λobs=>(zG (S:=T) (obs:=obs) a4).trans u;have yw:=λ(o:Ob) obs=>(zG (S:=T.set (base+i) o) (obs:=obs) q).trans ((q10 _ _ _ _ EA).trans a2);have ya:=λ(o:Ob) obs=>(zG (S:=T.set (base+i) o) (obs:=obs) f).trans ((q10 _ _ _ _ EA).trans c.arr);have g1:¬nx<=base+i:=EA;have b8:=iK (α:=Int) rfl row k (W (W (2*z)+1)) a3;have a5:yl (row.flatMap Enc.enc) k [I (W (W (2*z)+1))]=(row.set k (W (W (2*z)+1))).flatMap Enc.enc:=by simpa using b8
 have c6:(row.flatMap Enc.enc).length=n:=by rw[xz,y];simp[Enc.sz]
 refine zh (aA (EK ?_));refine zA (some [id,A]) (Row.pures [0,1,2,3,4,5,6,7,8,9,10,11,12,13,15] (.alt 14 (Row.pures [16] (.alt 17 (Row.pures [18,19,20] (.alt 21 (.done) .stop)) .stop)) .stop)) mixed (zU xw xa xr yw ya (zn (zU w g1 a9 hc z0 a3) (zR a5 c6 y a6))) ?_;refine⟨by omega,?_⟩;obtain⟨T',d⟩:∃T',T'=T.set (base+i) (.cells (ws i) 3 ((Qt k row).flatMap Enc.enc)):=⟨_,rfl⟩;have l:=c.turn (i:=i) (by rw[ay];omega) (T':=T') (ws i) (Qt k row) (by rw[d,q10 _ _ _ _ EA,c.arr];congr 1;refine(Bg λj=>?_).symm;rw[BG];split;rename_i c7;subst c7;rw[if_pos EA,sw _ _ _ _ _ (by rw[ay];omega),iL pr k i i a,if_neg (C7 i),h,sF];rfl) (by rw[d];simp) (λo o1 o2=>by rw[d];exact q10 _ _ _ _ o2);have c8:(λk=>if k=i then ws i else ws k)=ws:=by funext j;split<;>simp_all
 rw[c8,<-h,Ut pr k i a]at l;refine zb ?_;refine zr (i+1,T') [] ⟨hc,l,λo d0=>?_⟩ EA (by simp[zu i EA]) ?_ EB;dsimp only;rw[d,q10 _ _ _ _ EA];exact t o d0;dsimp only;rw[d];simp only[Qt,b7];simp at hc;obtain rfl:i=m:=EA;rw[<-a0,Us]at c;refine zx ?_;exact⟨_,T,rfl,⟨by simp_all[Va],t⟩,zV (r T t)⟩
def Qu(e:Int):Bool:=decide (e≠0)&&decide (e≠14)
def Uw(e:Int):PP 187 [I e] (B (Qu e)):=by unfold Qu;refine zt func187 ntmps187 results187 λS nx a=>?_;refine EK ?_;by_cases h1:e=0;refine aF [(2,5)] (zn h1 zE) ?_;exact zg (zi a rfl (by simp[zp,h1]));by_cases h2:e=14;refine aF [(2,5)] (zD h1 h2 zE) ?_;exact zg (zi a rfl (by simp[zp,h2]));refine aF [(2,5)] (zD h1 h2 zE) ?_;exact zg (zi a rfl EJ)
variable {idF:Nat}
def Ux(fs:List Int)(c:S idF=.cells vF 49 (fs.flatMap Enc.enc))(hl:fs.length<=1000):
  SP 230 [.sl idF vF 1 0 fs.length,.fn (.func 187) [] []] S (λq S'=>(∃z:Int,q=I z/\(fs.any Qu=decide (0<=z)))/\S'=S):=by
 refine yr func230 ntmps230 results230 λnx b=>?_;have a:idF<nx:=qB b c EB;have d:=λobs=>(zG (S:=S) (obs:=obs) a).trans c;refine EK ?_;repeat apply za
 refine zb ?_;refine zj (zC (λk:Nat=>k<=fs.length/\∀e∈fs.take k,Qu e=false) (λk=>[(0,.sl idF vF 1 0 fs.length),(1,.fn (.func 187) [] []),(7,I fs.length),(8,I k)]) (λ_=>[]) (λk=>fs.length-k) 0 [] EB EB EB ?_);rintro k ⟨g,h0⟩;refine EK ?_;refine za (zv rfl (λhc=>?_) (λhc=>?_))
 .simp at hc;obtain⟨e,tl,h,i,a3,f⟩:=zF rfl fs k hc;refine zh (aA (EK ?_));refine aF [] (zD d f hc) ?_;refine zq (Uw e) ?_;cases hb:Qu e with
  |true =>
  refine zm rfl (EK ?_);exact zg ⟨_,S,rfl,⟨⟨k,by simp,by grind⟩,rfl⟩,zV b⟩
  |false =>
  refine zk rfl (zh (zb ?_));exact zr (k+1) [] ⟨hc,λy j=>by grind⟩ EA (by simp[zu k EA]) rfl EB
 simp at hc;obtain rfl:k=fs.length:=EA;rw[Ah]at h0;refine zx (EK ?_);exact zg ⟨_,S,rfl,⟨⟨-1,by simp,by simp_all⟩,rfl⟩,zV b⟩
def Uy(fs:List Int)(c:S idF=.cells vF 49 (fs.flatMap Enc.enc))(hl:fs.length<=1000):
  SP 186 [.sl idF vF 1 0 fs.length,.fn (.func 187) [] []] S (λq S'=>q=B (fs.any Qu)/\S'=S):=by
 refine yr func186 ntmps186 results186 λnx d=>?_;have a:idF<nx:=qB d c EB;refine EK ?_;refine EK ?_;refine λb=>((Ux fs ((zG a).trans c) hl).mono ?_).v;rintro _ _ ⟨⟨z,rfl,e⟩,rfl⟩;refine⟨_,_,rfl,zO b ?_⟩;exact zg ⟨_,S,rfl,⟨by simp[zp,e],rfl⟩,zV d⟩
def Yf(x:Inst)(sol:Cust->List Int->List Visit × Bool)(pr:List (List Int))(k:Nat):List (List Visit × Bool):=(List.range k).map λi=>sol (x.y.getD i default) (pr.getD i [])
def jr(x:Inst)(sol:Cust->List Int->List Visit × Bool)(pr:List (List Int)):List (List Visit) × Int:=if (Yf x sol pr x.y.length).all (·.2)=true then ((Yf x sol pr x.y.length).map (·.1),0) else ([],15)
def Uz(x:Inst)(a:Cust->List Int->List Visit × Bool)(pr:List (List Int))(k:Nat):Yf x a pr (k+1)=Yf x a pr k++[a (x.y.getD k default) (pr.getD k [])]:=by simp[Yf,AC]
def sH(x:Inst)(a:Cust->List Int->List Visit × Bool)(pr:List (List Int)){m:Nat}(h:k<m):a (x.y.getD k default) (pr.getD k [])∈Yf x a pr m:=Aj.2 ⟨k,AN.2 h,rfl⟩
def iN(x:Inst)(n:Nat)(sol:Cust->List Int->List Visit × Bool):Prop :=
 ∀c∈x.y,∀(l:List Int),l.length=n->(∀z∈l,zL z)->∀(S:Store) (pl:PV),RowOf S pl l->SP 224 [.agg (yh c),I x.days,I x.Q,pl] S (λq S'=>q=.tup [L (sol c l).1,B (sol c l).2]/\S'=S)
def UA{pr:List (List Int)}{a:Cust->List Int->List Visit × Bool}(hx:x.y.length<=1000)(hP:Ye x.y.length n pr)(y:RowsAt S A vF 26 vD 3 1 ws pr)(hs:iN x n a):
  SP 184 [.agg (zB x),.sl A vF 1 0 x.y.length] S (λq S'=>q=.tup [L (jr x a pr).1,I (jr x a pr).2]/\S'=S):=by
 obtain⟨a7,a0⟩:=hP;refine yr func184 ntmps184 results184 λnx u=>?_;have j:A<nx:=qB u y.arr EB;have xa:=λobs=>(zG (S:=S) (obs:=obs) j).trans y.arr;refine EK ?_;intro v0;refine EK ?_;refine za (qO 6 144 1 rfl λv1=>?_);refine EK ?_;refine zj (zC (λs:Nat × List (List Visit) × Nat=>s.1<=x.y.length/\s.2.1=(Yf x a pr s.1).map (·.1)/\(Yf x a pr s.1).all (·.2)=true) (λ(i,out,w)=>[(1,.sl A vF 1 0 x.y.length),(2,.ptr nx v0 0),(4,.sc (.slice none 0 0)),(6,.sl (nx+1) w 1 0 out.length),(13,L x.y),(14,I x.y.length),(15,I i)]) (λ(i,out,w)=>[.cells v0 25 (zB x),.cells w 144 (out.flatMap Enc.enc)]) (λs=>x.y.length-s.1) (0,[],v1) [] (by simp[Yf]) EB EB ?_);rintro⟨i,out,w⟩ ⟨hi,ho,f⟩;simp only at hi ho f ⊢;have a8:out.length=i:=by rw[ho];simp[Yf]
 refine EK ?_;refine za (zv rfl (λhc=>?_) (λhc=>?_))
 .simp at hc;obtain⟨c,tl,a1,a2,a3,e1,e0⟩:=el 8 rfl x.y i hc;have a4:=Aa a1;have a5:x.y.getD i default=c:=by rw[List.getD_eq_getElem?_getD,a1];rfl
  have g:i<pr.length:=EA;obtain⟨a9,l⟩:=iJ vD 1 ws pr i g;obtain⟨m,o⟩:(pr.getD i []).length=n/\∀z∈pr.getD i [],zL z:=by rw[List.getD_eq_getElem?_getD,Ac g];exact a0 _ (AZ g)
  have h:RowOf S (.sl (vD+i) (ws i) 1 0 (pr.getD i []).length) (pr.getD i []):=.inr ⟨_,_,rfl,y.af i g⟩;have b:=hs c a4 (pr.getD i []) m o;have e:=Uz x a pr i;have d:=sH x a pr (k:=i) hc;rw[a5]at e d;generalize pr.getD i []=row at l m o h b e d;generalize hr:a c row=r at b e d;obtain⟨vv,ok⟩:=r;simp only at b e;refine zh (aA (aF [] (zn e0 hc) ?_));intro v2;refine EK ?_;repeat apply za
  refine zb ?_;refine zm (by simp[hc]) ?_;refine ze [] (zD xa l hc) ?_;refine EK ?_;refine λp=>((b _ _ (h.ext u _)).mono ?_).v;rintro _ _ ⟨rfl,rfl⟩;refine⟨_,_,rfl,zO p ?_⟩;repeat apply za
  refine zb ?_;cases ok with
  |false =>
  have a6:jr x a pr=([],15):=by unfold jr;rw[if_neg];intro q;have:=Ay.1 q _ d;cases this
  rw[a6];refine zm rfl (EK ?_);refine Zh 4 rfl ?_;exact zg ⟨_,S,rfl,⟨by simp[zp],rfl⟩,zV u⟩
  |true =>
  refine zk rfl (zh (zb ?_));refine⟨by omega,?_⟩;refine zb ?_;exact zr (i+1,out++[vv],w+1) [_] ⟨hc,by rw[e,List.map_append,ho];rfl,by rw[e,C5,f];rfl⟩ EF (by simp[zu i EA]) rfl EC
 simp at hc;obtain rfl:i=x.y.length:=EA;have t:jr x a pr=(out,0):=by unfold jr;rw[if_pos f,<-ho]
 rw[t];refine zx (zY 1 rfl ?_);refine EK ?_;exact zg ⟨_,S,EC,⟨by simp[zp],rfl⟩,zV u⟩
def vS(x:Inst)(p:zy)(i:Nat):Int :=
 match x.y[i]? with
 |none=>0
 |some c=>if c.kind=2 then xQ c (yS c (z8 (zW i (told 0 p)) x.days)).1 else 0
def yG(x:Inst)(p:zy)(k:Nat):Int:=((List.range k).map (vS x p)).sum
def iO(x:Inst)(p:zy)(k:Nat):yG x p (k+1)=yG x p k+vS x p k:=by simp[yG,AC]
def iP(c:Cust)(q:List Int)(a:q.length<=1048576):(yS c q).1.length<=1048576:=by
 unfold yS;split;simp;cases h:yk c.size c.D c.H q with
 |none=>simp
 |some l=>simp[Tu h];exact a
def Vc(v:List Visit)(n:Int):(z8 v n).length<=1048576:=by rw[aw];omega
def iQ(x:Inst)(p:zy)(h:Serves x p)(hx:x.y.length<=1048576)(hf:∀c∈x.y,CustFits c):PP 47 [.agg (zB x),.agg [L p]] (I (W (yG x p x.y.length))):=by
 refine zt func47 ntmps47 results47 λS nx g=>?_;refine EK ?_;intro v0 v1;refine EK ?_;repeat apply za
 refine zb ?_;refine zj (zC (λs:Nat=>s<=x.y.length) (λk=>[(2,.ptr nx v0 0),(3,.ptr (nx+1) v1 0),(5,I (W (yG x p k))),(11,L x.y),(12,I x.y.length),(13,I k)]) (λ_=>[.cells v0 25 (zB x),.cells v1 31 [L p]]) (λs=>x.y.length-s) 0 [] EB (by simp[yG]) EB ?_);rintro k l;refine EK ?_;refine za (zv rfl (λhc=>?_) (λhc=>?_));simp at hc;obtain⟨c,tl,b,m,a3,_,i⟩:=el 8 rfl x.y k hc;have d:=hf c (Aa b);have hs:=iO x p k;refine zh (aA (aF [] (zn hc i) ?_));intro n;refine EK ?_;by_cases a:c.kind=2;have hb:=sf x p k h;have hn:=ix c (z8 (zW k (told 0 p)) x.days) d (Vc _ _);have f:=iy c (yS c (z8 (zW k (told 0 p)) x.days)).1 (iP _ _ (Vc _ _));have e:vS x p k=xQ c (yS c (z8 (zW k (told 0 p)) x.days)).1:=by simp only[vS,b,if_pos a]
 rw[e]at hs;generalize xQ c (yS c (z8 (zW k (told 0 p)) x.days)).1=z at *;generalize yS c (z8 (zW k (told 0 p)) x.days)=ne at *;generalize z8 (zW k (told 0 p)) x.days=q at *;obtain⟨ns,o⟩:=ne;simp only at hn f;refine zm (by simp[a]) ?_;refine aG (some [nx,nx+1,nx+2]) Rk mixed trivial ?_;refine zJ (hb) trivial ?_;refine zJ (hn) trivial ?_;refine zb ?_;refine zq f ?_;have j:W (W (yG x p k)+z)=W (yG x p (k+1)):=by rw[hs,uN]
 refine zb ?_;exact zr (k+1) [_] hc EA (by simp[zu k EA];exact j) rfl rfl;have e:vS x p k=0:=by simp only[vS,b,if_neg a]
 rw[e,CY]at hs;refine zk (by simp[a]) ?_;refine zh (zb ?_);exact zr (k+1) [_] hc EA (by simp[zu k EA,hs]) rfl rfl;simp at hc;obtain rfl:k=x.y.length:=EA;refine zx (EK ?_);exact EL g
def UB(x:Inst)(p:zy)(h:Serves x p)(hx:x.y.length<=1048576)(hf:∀c∈x.y,CustFits c):PP 52 [.agg (zB x),.agg [L p]] (I (W (yG x p x.y.length))):=by
 refine zt func52 ntmps52 results52 λS nx i=>?_;refine EK ?_;intro v0 v1;refine EK ?_;repeat apply za
 refine zb ?_;refine zj (zC (λs:Nat=>s<=x.y.length) (λk=>[(2,.ptr nx v0 0),(3,.ptr (nx+1) v1 0),(5,I (W (yG x p k))),(6,I k)]) (λ_=>[.cells v0 25 (zB x),.cells v1 31 [L p]]) (λs=>x.y.length-s) 0 [] EB (by simp[yG]) EB ?_);rintro k m;repeat apply za
 refine zb ?_;refine zv rfl (λhc=>?_) (λhc=>?_);simp at hc;obtain⟨c,tl,b,n,a3,_,j⟩:=el 8 rfl x.y k hc;have d:=hf c (Aa b);have hs:=iO x p k;refine zh (aA (aF [] (zn hc j) ?_));intro o;refine EK ?_;by_cases a:c.kind=2;have e:=Tw p k h.sz;have hb:=Tv (zW k (told 0 p)) x.days (iD h k).1;have hn:=Tt c (z8 (zW k (told 0 p)) x.days) d (Vc _ _);have g:=Ts c (yS c (z8 (zW k (told 0 p)) x.days)).1 (iP _ _ (Vc _ _));have f:vS x p k=xQ c (yS c (z8 (zW k (told 0 p)) x.days)).1:=by simp only[vS,b,if_pos a]
 rw[f]at hs;generalize xQ c (yS c (z8 (zW k (told 0 p)) x.days)).1=z at *;generalize yS c (z8 (zW k (told 0 p)) x.days)=ne at *;generalize z8 (zW k (told 0 p)) x.days=q at *;generalize zW (k:Int) (told 0 p)=v at *;obtain⟨ns,r⟩:=ne;simp only at hn g;refine zm (by simp[a]) ?_;refine aG (some [nx,nx+1,nx+2]) Rp mixed trivial ?_;refine zJ (e) trivial ?_;refine zJ (hb) trivial ?_;refine zJ (hn) trivial ?_;refine zb ?_;refine zq g ?_;have l:W (W (yG x p k)+z)=W (yG x p (k+1)):=by rw[hs,uN]
 refine zb ?_;exact zr (k+1) [_] hc EA (by simp[zu k EA];exact l) rfl rfl;have f:vS x p k=0:=by simp only[vS,b,if_neg a]
 rw[f,CY]at hs;refine zk (by simp[a]) ?_;refine zh (zb ?_);exact zr (k+1) [_] hc EA (by simp[zu k EA,hs]) rfl rfl;simp at hc;obtain rfl:k=x.y.length:=EA;refine zx (EK ?_);exact EL i
def qa(x:Inst)(p:zy):List Int:=p.map λd=>W (yf x d)
def UC(x:Inst)(p:zy)(i:p.length<=1048576)(b:∀d∈p,DayOk d)(S:Store)(nx:Nat)(e:yd nx S):
  SP 49 [.agg (zB x),.agg [L p]] S (λq S'=>∃v,q=.sl (nx+2) v 1 0 p.length/\S'=S.set (nx+2) (.cells v 3 ((qa x p).flatMap Enc.enc))):=by
 refine Z7 e func49 ntmps49 results49 ?_;refine EK ?_;intro v0 v1;refine EK ?_;refine za (qO 5 3 1 rfl λa=>?_);refine EK ?_;refine zj (zC (λs:Nat × List Int × Nat=>s.1<=p.length/\s.2.1=qa x (p.take s.1)) (λ(k,out,a)=>[(2,.ptr nx v0 0),(3,.ptr (nx+1) v1 0),(5,.sl (nx+2) a 1 0 out.length),(9,L p),(10,I p.length),(11,I k)]) (λ(k,out,a)=>[.cells v0 25 (zB x),.cells v1 31 [L p],.cells a 3 (out.flatMap Enc.enc)]) (λs=>p.length-s.1) (0,[],a) [] (by simp[qa]) EB EB ?_);rintro⟨k,out,a⟩ ⟨f,ho⟩;simp only at f ho ⊢;have c:out.length=k:=by rw[ho];simp[qa];omega
 refine EK ?_;refine za (zv rfl (λhc=>?_) (λhc=>?_));simp at hc;obtain⟨d,tl,g,l,a3,h⟩:=zF rfl p k hc;refine zh (aA (aF [] (zn hc h) ?_));intro v3;refine zb ?_;refine zq (WM x d (b d (Aa g))) ?_;refine⟨by omega,?_⟩;refine zb ?_;exact zr (k+1,out++[W (yf x d)],a+1) [_] ⟨hc,by rw[a3,ho];simp[qa]⟩ EF (by simp[zu k EA]) rfl EC;simp at hc;obtain rfl:k=p.length:=EA;rw[Ah]at ho;refine zx (EK ?_);refine zg ⟨_,_,rfl,⟨a,by simp[zp,c],rfl⟩,Xv (j:=2) e (by simp[ho])⟩
def iR(x:Inst)(p:zy)(b:p.length<=1048576)(a:∀d∈p,DayOk d):PP 49 [.agg (zB x),.agg [L p]] (L (qa x p)):=by
 have hl:(qa x p).length=p.length:=by simp[qa]
 have:=cy 2 (λS nx c=>UC x p b a S nx c) (by rw[jY,hl];omega);rw[<-hl]at this;exact this
def yN(x:Inst)(p:zy):Int:=W (yG x p x.y.length+(p.map (yf x)).sum)
def UD(a:Int)(l:List Int):W (a+(l.map W).sum)=W (a+l.sum):=by
 induction l generalizing a with
 |nil=>rfl
 |cons b l c =>
 simp only[Ap,AL];have d:a+(W b+(l.map W).sum)=(a+W b)+(l.map W).sum:=EA;rw[d,c,show a+W b+l.sum=(a+l.sum)+W b by omega,cx,show a+l.sum+b=a+(b+l.sum) by omega]
def UE(x:Inst)(p:zy):W (W (yG x p x.y.length)+(qa x p).sum)=yN x p:=by
 have:qa x p=(p.map (yf x)).map W:=by simp[qa]
 rw[this,uN,UD,yN]
def sI(x:Inst)(p:zy)(h:Serves x p)(hx:x.y.length<=1048576)(hf:∀c∈x.y,CustFits c)(e:∀d∈p,DayOk d):PP 46 [.agg (zB x),.agg [L p]] (I (yN x p)):=by
 have a:=UE x p;have hl:(qa x p).length=p.length:=by simp[qa]
 have f:=h.sz.n;have b:=iR x p f e;rw[<-a];generalize qa x p=ds at hl b;refine zt func46 ntmps46 results46 λS nx g=>?_;refine EK ?_;intro v0 v1;refine EK ?_;refine zq (iQ x p h hx hf) ?_;repeat apply za
 refine zb ?_;refine zq b ?_;refine zj (zC (λs:Nat=>s<=ds.length) (λk=>[(5,I (W (W (yG x p x.y.length)+(ds.take k).sum))),(13,L ds),(14,I ds.length),(15,I k)]) (λ_=>[]) (λs=>ds.length-s) 0 [_,_] EB (by simp[W_W]) rfl ?_);rintro k l;refine EK ?_;refine za (zv rfl (λhc=>?_) (λhc=>?_));simp at hc;obtain⟨z,tl,m,o,a3,i⟩:=zF rfl ds k hc;have j:W (W (W (yG x p x.y.length)+(ds.take k).sum)+z)=W (W (yG x p x.y.length)+(ds.take (k+1)).sum):=by rw[a3,W6,uN];congr 1;omega
 refine zh (aA (aF [] (zn hc i) ?_));refine zb ?_;refine zb ?_;exact zr (k+1) [] hc EA (by simp[zu k EA];exact j) rfl EB;simp at hc;obtain rfl:k=ds.length:=EA;rw[Ah];refine zx (EK ?_);exact EL g
def UF(x:Inst)(p:zy)(h:Serves x p)(hx:x.y.length<=1048576)(hf:∀c∈x.y,CustFits c)(a:∀d∈p,DayOk d):PP 15 [.agg (zB x),.agg [L p]] (I (yN x p)):=by
 have e:=h.sz.n;refine zt func15 ntmps15 results15 λS nx f=>?_;refine EK ?_;intro v0 v1;refine EK ?_;refine zq (UB x p h hx hf) ?_;repeat apply za
 refine zb ?_;refine zj (zC (λs:Nat=>s<=p.length) (λk=>[(2,.ptr nx v0 0),(3,.ptr (nx+1) v1 0),(5,I (W (yG x p x.y.length+((p.take k).map (yf x)).sum))),(6,I k)]) (λ_=>[.cells v0 25 (zB x),.cells v1 31 [L p]]) (λs=>p.length-s) 0 [] EB EB EB ?_);rintro k l;repeat apply za
 refine zb ?_;refine zv rfl (λhc=>?_) (λhc=>?_);simp at hc;obtain⟨d,tl,g,m,a3,i⟩:=zF rfl p k hc;have j:W (W (yG x p x.y.length+((p.take k).map (yf x)).sum)+W (yf x d))=W (yG x p x.y.length+((p.take (k+1)).map (yf x)).sum):=by rw[a3,List.map_append,Bb,uN,cx];simp;congr 1;omega
 refine zh (aA (zA (some [nx,nx+1]) Rf mixed (zn hc i) ?_));refine zJ (LX x d (a d (Aa g))) trivial ?_;refine zb ?_;exact zr (k+1) [] hc EA (by rw[<-j];simp[zu k EA]) rfl EB;simp at hc;obtain rfl:k=p.length:=EA;have b:(p.map (yf x)).take p.length=p.map (yf x):=Ae EB;refine zx (EK ?_);exact zg (zi f EC (by simp[b,yN,zp]))
def ZT(p:zy):Nat:=(p.map λd=>d.flatten.length).sum
theorem iS:∀(p:zy) (i:Nat),(told i p).length=ZT p
 |[],_=>rfl
 |d::p,i=>by have:=iS p (i+1);simp only[told,Ak,List.length_map,ZT,Ap,AL]at this ⊢;omega
theorem sJ:∀(d:zo),(∀t∈d,t≠[])->d.length<=d.flatten.length
 |[],_=>by simp
 |t::d,h=>by have h1:=sJ d λu a=>h u (by simp[a]);have h2:=BD.2 (h t EB);simp only[Bh,Ab,Ak];omega
theorem dM:∀(d:zo) (t:zM),t∈d->t.length<=d.flatten.length
 |[],_,h=>by cases h
 |u::d,t,h=>by simp only[Bh,Ak];obtain rfl|h:=Al.1 h;omega;have:=dM d t h;omega
def lx:Inst:=⟨1,1,9,9,[],[[0]]⟩
def ly:Inst:=⟨1,1,9,9,[⟨1,1,[1],0,0,0,0,0⟩],[[0,3],[4,0]]⟩
def lp:zy:=[[]]
def UG:∀i:Nat,yU 1 i=1<->i=0:=by
 intro i;cases i with
 |zero=>simp[yU]
 |succ i=>simp[yU,Nat.div_eq_of_lt (show 1<2^(i+1) from Nat.one_lt_two_pow EA)]
theorem sK(p:Nat):∀k:Nat,k<=64->∀i:Nat,yU (x7 p k) i=1->i<k
 |0,_,i,h=>by simp[x7,yU]at h
 |k+1,b,i,h=>by
  have a:=sK p k EA i;unfold x7 at h;split at h;rw[TT _ _ (cG p k) EA]at h;have h2:((x7 p k ||| 2^k).testBit i)=true:=by rw[W8];unfold jp at h;rw[if_pos EA,AJ]at h;simp[h]
  rw[DJ,CV,Dw]at h2;obtain h2|h2:=h2;rw[W8]at h2;have:=a (by simpa using h2);omega;have:k=i:=by simpa using h2
  omega;have:=a h;omega
theorem Qv{p a:Nat}{d:Int}(h:d∈yC p a k):∃i:Nat,d=i/\i<k/\yU p i=1:=by simp only[yC,Aj,AX,AN,Aw,decide_eq_true_eq]at h;obtain⟨i,⟨h1,_,h3⟩,rfl⟩:=h;exact⟨i,rfl,h1,h3⟩
def sL(c:Cust)(days:Int)(h1:1<=days)(g:days<=7):CustMade (xn c days) days.toNat:=by unfold xn;split;have a:=wF c.D 0 9 EA;have b:=wF c.size 1 30 EA;have d:=wF c.H 0 (yM c.size 1 30) EA;exact⟨⟨by dsimp only;omega,by dsimp only;omega,by dsimp only;omega⟩,by simp,by simp,λh=>by simp at h⟩;have a:=wF c.R 1 15 EA;refine⟨⟨by simp,by simp,by simp⟩,?_,?_,λ_=>⟨?_,by dsimp only;omega,by dsimp only;omega⟩⟩;intro p e;simp only[Yy]at e;split at e;simp only[A5]at e;omega;obtain⟨q,_,rfl⟩:=Aj.1 e;exact cG q _;simp only[Yy];split;simp;simp;omega;intro p e d f;obtain⟨i,rfl,_,hb⟩:=Qv f;simp only[Yy]at e;split at e;simp only[A5]at e;subst e;have:=(UG i).1 hb;omega;obtain⟨q,_,rfl⟩:=Aj.1 e;have:=sK q days.toNat EA i hb;omega
def aI(x:Inst):1<=(yW x).days/\(yW x).days<=7:=wF x.days 1 7 EA
def UH(x:Inst):0<=(yW x).Q/\(yW x).Q<=40:=wF x.Q 0 40 EA
def UI(x:Inst):0<=(yW x).X/\(yW x).X<=5:=wF x.X 0 5 EA
def UJ(x:Inst):0<=(yW x).len/\(yW x).len<=300:=wF x.len 0 300 EA
def UK(x:Inst):(yW x).y.length<=6:=by simp[yW];omega
def iT(x:Inst){c:Cust}(h:c∈(yW x).y):∃c0,c=xn c0 (yW x).days:=by simp only[yW,Aj]at h;obtain⟨c0,_,rfl⟩:=h;exact⟨c0,rfl⟩
def UL(x:Inst)(v c l:Int):Inst:=⟨(yW x).days,v,c,l,(yW x).y,(yW x).O⟩
def UM(a:t∈d){s:Stop}(hs:s∈t):s∈d.flatten:=Bd.2 ⟨t,a,hs⟩
def sM{m:Nat}:∀(l:List Int),l.Nodup->(∀c∈l,0<=c/\c<m)->l.length<=m:=by
 intro l hn hl;have h1:(l.map Int.toNat).Nodup:=by refine List.Pairwise.map _ ?_ (List.Pairwise.and_mem.1 hn);rintro a b ⟨f,hb,d⟩ e;have:=hl a f;have:=hl b hb;exact d EA
 have h2:∀c∈l.map Int.toNat,c∈List.range m:=by intro c hc;obtain⟨z,g,rfl⟩:=Aj.1 hc;have:=hl z g;exact AN.2 EA
 have:=h1.length_le_of_subset h2;simpa using this
def iU(p:Nat)(a:p<2^64):PP 297 [U p] (L (yC p 0 64)):=by have h:=rW p 0 a EH;refine zt func297 ntmps297 results297 λS nx b=>?_;refine EK ?_;refine EK ?_;refine zq h ?_;exact zg (zi b rfl rfl)
def UN(c:Cust)(p:Nat)(e:p<2^64):PP 279 [.agg (yh c),U p] (L (Qq c p)):=by
 have a:=iU p e;have b:=XV p 0 64;unfold Qq;generalize yC p 0 64=l at a b;refine zt func279 ntmps279 results279 λS nx f=>?_;refine EK ?_;intro v0;refine EK ?_;refine za (qO 5 197 2 rfl λv1=>?_);refine EK ?_;refine zq a ?_;refine zj (zC (λs:Nat × List Visit × Nat=>s.1<=l.length/\s.2.1=(l.take s.1).map λd=>⟨d,c.R⟩) (λ(k,out,v1)=>[(2,.ptr nx v0 0),(5,.sl (nx+1) v1 2 0 out.length),(9,L l),(10,I l.length),(11,I k)]) (λ(k,out,v1)=>[.cells v0 59 (yh c),.cells v1 197 (out.flatMap Enc.enc)]) (λs=>l.length-s.1) (0,[],v1) [] EB EB EB ?_);rintro⟨k,out,v1⟩ ⟨g,ho⟩;simp only at g ho ⊢;have h:out.length=k:=by rw[ho];simp;omega
 refine EK ?_;refine za (zv rfl (λhc=>?_) (λhc=>?_));simp at hc;obtain⟨d,tl,j,m,a3,i⟩:=zF rfl l k hc;refine zh (aA (aF [] (zn i hc) ?_));refine zb ?_;refine⟨by omega,?_⟩;refine zb ?_;exact zr (k+1,out++[⟨d,c.R⟩],v1+1) [] ⟨hc,by rw[a3,ho];simp⟩ EF (by simp[zu k EA]) rfl EB;simp at hc;obtain rfl:k=l.length:=EA;rw[Ah]at ho;refine zx (zY 1 rfl ?_);refine EK ?_;exact zg (zi f EC (by simp[zp,ho]))
def vT(price:List Int)(ds:List Int):Int:=ds.foldl (λ(s d:Int)=>if d<price.length then xR s (price.getD d.toNat 0) else s) 0
def YM(price:List Int)(p:Nat):Int:=vT price (yC p 0 64)
def jH(price:List Int)(l:List Nat):Nat->Int × Int
 |0=>(-1,0)
 |k+1=>if (jH price l k).1<0\/YM price (l.getD k 0)<(jH price l k).2 then (k,YM price (l.getD k 0)) else jH price l k
theorem aJ(price:List Int)(l:List Nat):∀k:Nat,(jH price l k).1<k/\-1<=(jH price l k).1/\(0<k->0<=(jH price l k).1)
 |0=>by simp[jH]
 |k+1=>by have:=aJ price l k;unfold jH;split;dsimp only;omega;rename_i h;omega
def UO(a b:Int)(c:zL a)(hb:zL b):zL (xR a b):=by unfold zL xR at *;split;omega;split<;>omega
def UP(price ds:List Int)(d:Int):vT price (ds++[d])=if d<price.length then xR (vT price ds) (price.getD d.toNat 0) else vT price ds:=by simp[vT]
def UQ(price:List Int)(a:∀z∈price,zL z)(ds:List Int):zL (vT price ds):=by
 unfold vT;have:∀(ds:List Int) (s:Int),zL s->zL (ds.foldl (λ(s d:Int)=>if d<price.length then xR s (price.getD d.toNat 0) else s) s):=by
  intro ds;induction ds with
  |nil=>intro s h;exact h
  |cons d ds b =>
  intro s h;rw[A6];apply b;split
  .refine UO _ _ h ?_;rw[List.getD_eq_getElem?_getD];cases c:price[d.toNat]? with
   |none=>unfold zL;simp
   |some z=>exact a z (Aa c)
  exact h
 exact this ds 0 (by unfold zL;omega)
variable {g:PV}
def UR(l:List Nat)(hR:RowOf S g fs)(hp:∀z∈fs,zL z)(a0:fs.length<=1000)(hl:l.length<=1000)(o:∀p∈l,p<2^64):
  SP 278 [L l,g] S (λq S'=>q=.tup [I (jH fs l l.length).1,I (jH fs l l.length).2]/\S'=S):=by
 refine yr func278 ntmps278 results278 λnx n=>?_;refine EK ?_;refine EK ?_;repeat apply za
 refine zb ?_;refine zj (zC (λk:Nat=>k<=l.length) (λk=>[(1,g),(6,I (jH fs l k).1),(7,I (jH fs l k).2),(13,L l),(14,I l.length),(15,I k)]) (λ_=>[]) (λk=>l.length-k) 0 [] EB (by simp[jH]) EB ?_);rintro k hk;have hb:jH fs l (k+1)=if (jH fs l k).1<0\/YM fs (l.getD k 0)<(jH fs l k).2 then (↑k,YM fs (l.getD k 0)) else jH fs l k:=rfl;generalize r:jH fs l k=st at hb ⊢;obtain⟨place,a⟩:=st;simp only at hb ⊢;refine EK ?_;refine za (zv rfl (λhc=>?_) (λhc=>?_));simp at hc;obtain⟨p,tl,a1,a2,a3,e0⟩:=zF rfl l k hc;have f:=iU p (o p (Aa a1));have s:l.getD k 0=p:=by rw[List.getD_eq_getElem?_getD,a1];rfl
 rw[s]at hb;have m:∀d∈yC p 0 64,∃i:Nat,d=i:=λd n=>by obtain⟨i,h,_⟩:=Qv n;exact⟨i,h⟩
 have u:=XV p 0 64;rw[show YM fs p=vT fs (yC p 0 64) from rfl]at hb;generalize yC p 0 64=ds at f m u hb;refine zh (aA (aF [] (zn e0 hc) ?_));refine EK ?_;repeat apply za
 refine zb ?_;refine zq f ?_;refine zj (zC (λj:Nat=>j<=ds.length) (λj=>[(1,g),(6,I place),(7,I a),(8,I k),(10,I (vT fs (ds.take j))),(13,L l),(14,I l.length),(15,I k),(21,L ds),(22,I ds.length),(23,I j)]) (λ_=>[]) (λj=>ds.length-j) 0 [] EB (by simp[vT]) EB ?_);rintro j hj;refine EK ?_;refine za (zv rfl (λb=>?_) (λb=>?_));simp at b;obtain⟨d,a4,b1,b2,b3,f0⟩:=zF rfl ds j b;obtain⟨i,rfl⟩:=m d (Aa b1);have c:=UP fs (ds.take j) (i:Int);rw[<-b3,AJ]at c;have v:=UQ fs hp (ds.take j);refine zh (aA (aF [] (zn f0 b) ?_));by_cases hi:i<fs.length;obtain⟨z,a5,c1,-,-,g0⟩:=zF rfl fs i hi;have w:fs.getD i 0=z:=by rw[List.getD_eq_getElem?_getD,c1];rfl
 rw[if_pos EA,w]at c;have e:=dC (vT fs (ds.take j)) z v (hp z (Aa c1));rw[<-c]at e;obtain rfl|⟨id,ver,rfl,x⟩:=hR;refine aF [] hi ?_;refine zm rfl (ze [] (zn g0 hi) ?_);refine zq e ?_;refine zb ?_;exact zr (j+1) [] b EA (by simp[zu j EA]) rfl EB;have y:id<nx:=qB n x EB;have xr:=λobs=>(zG (S:=S) (obs:=obs) y).trans x;refine aF [] hi ?_;refine zm rfl (ze [] (zD xr g0 hi) ?_);refine zq e ?_;refine zb ?_;exact zr (j+1) [] b EA (by simp[zu j EA]) rfl EB;rw[if_neg EA]at c;obtain rfl|⟨id,ver,rfl,x⟩:=hR;refine aF [] hi ?_;refine zk rfl (zh (zb ?_));exact zr (j+1) [] b EA (by simp[zu j EA,c]) rfl EB;refine aF [] hi ?_;refine zk rfl (zh (zb ?_));exact zr (j+1) [] b EA (by simp[zu j EA,c]) rfl EB;simp at b;obtain rfl:j=ds.length:=EA;rw[Ah];refine zx (za (qT (nx:=nx) (σ:=Bool) (λt=>t=decide (place<0\/vT fs ds<a)) (λt=>[(1,g),(6,I place),(7,I a),(8,I k),(10,I (vT fs ds)),(13,L l),(14,I l.length),(15,I k),(44,B t)]) (λ_=>S) (λ_=>[]) ?_ ?_));by_cases h1:place<0;repeat apply za
 refine ze [(2,40)] (zn h1 zE) ?_;exact yb true [] (by simp[h1]) EB rfl EB;repeat apply za
 refine ze [(2,40)] h1 ?_;exact yb (decide (vT fs ds<a)) [] (by simp[h1]) EB rfl EB;rintro t rfl;by_cases h:place<0\/vT fs ds<a;rw[decide_eq_true h];rw[if_pos h]at hb;refine zm rfl (zb ?_);refine zb ?_;exact zr (k+1) [] hc EA (by simp[zu k EA,hb]) rfl EB;rw[decide_eq_false h];rw[if_neg h]at hb;refine zk rfl (zh (zb ?_));exact zr (k+1) [] hc EA (by simp[zu k EA,hb]) rfl EB;simp at hc;obtain rfl:k=l.length:=EA;refine zx (EK ?_);exact zg ⟨_,S,rfl,⟨by simp[zp,r],rfl⟩,zV n⟩
def j8(c:Cust)(cap:Int):List Nat:=c.J.filter λp=>decide (p=0)||decide (c.R<=cap)
def US(c:Cust)(cap:Int)(hl:c.J.length<=1000):PP 277 [.agg (yh c),I cap] (L (j8 c cap)):=by
 unfold j8;refine zt func277 ntmps277 results277 λS nx e=>?_;refine EK ?_;intro v0;refine EK ?_;refine za (qO 5 65 1 rfl λv1=>?_);refine EK ?_;refine zj (zC (λs:Nat × List Nat × Nat=>s.1<=c.J.length/\s.2.1=(c.J.take s.1).filter (λp=>decide (p=0)||decide (c.R<=cap))/\s.2.1.length<=s.1) (λ(k,out,w)=>[(1,I cap),(2,.ptr nx v0 0),(5,.sl (nx+1) w 1 0 out.length),(9,L c.J),(10,I c.J.length),(11,I k)]) (λ(k,out,w)=>[.cells v0 59 (yh c),.cells w 65 (out.flatMap Enc.enc)]) (λs=>c.J.length-s.1) (0,[],v1) [] EB EB EB ?_);rintro⟨k,out,w⟩ ⟨f,ho,d⟩;simp only at f ho d ⊢;refine EK ?_;refine za (zv rfl (λhc=>?_) (λhc=>?_))
 .simp at hc;obtain⟨p,tl,h,i,a3,g⟩:=zF rfl c.J k hc;refine zh (aA (aF [] (zn g hc) ?_));refine za (qT (nx:=nx) (σ:=Bool × Nat) (λs=>s.1=(decide (p=0)||decide (c.R<=cap))) (λ(t,w)=>[(1,I cap),(2,.ptr nx v0 0),(5,.sl (nx+1) w 1 0 out.length),(7,U p),(9,L c.J),(10,I c.J.length),(11,I k),(22,B t)]) (λ_=>S) (λ(t,w)=>[.cells v0 59 (yh c),.cells w 65 (out.flatMap Enc.enc)]) ?_ ?_);by_cases h1:p=0;repeat apply za
  refine ze [(2,17)] (zn h1 zE) ?_;exact yb (true,w) [] (by simp[h1]) (by simp[h1]) rfl EB;repeat apply za
  refine ze [(2,17)] h1 ?_;exact yb (decide (c.R<=cap),w) [] (by simp[h1]) EB rfl EB;rintro⟨t,w⟩ b;simp only at b ⊢;subst b;have a:(c.J.take (k+1)).filter (λp=>decide (p=0)||decide (c.R<=cap))=out++(if (decide (p=0)||decide (c.R<=cap))=true then [p] else []):=by rw[a3,BM,ho];congr 1;simp only[Cm,List.filter_nil]
  cases b:(decide (p=0)||decide (c.R<=cap)) with
  |true =>
  rw[b,if_pos rfl]at a;refine zm rfl (zb ?_);refine⟨by omega,?_⟩;refine zb ?_;exact zr (k+1,out++[p],w+1) [] ⟨hc,a.symm,by simp;omega⟩ EF (by simp[zu k EA]) rfl EB
  |false =>
  rw[b,if_neg EH,AA]at a;refine zk rfl (zh (zb ?_));exact zr (k+1,out,w) [] ⟨hc,a.symm,by dsimp only;omega⟩ EF (by simp[zu k EA]) rfl EB
 simp at hc;obtain rfl:k=c.J.length:=EA;rw[Ah]at ho;refine zx (zY 1 rfl ?_);refine EK ?_;exact zg (zi e EC (by simp[zp,ho]))
def uY(c:Cust)(cap:Int)(price:List Int):List Visit × Bool :=
 if (jH price (j8 c cap) (j8 c cap).length).1<0 then ([],false) else (Qq c ((j8 c cap).getD (jH price (j8 c cap) (j8 c cap).length).1.toNat 0),true)
def UT{e:PV}(c:Cust)(cap:Int)(f:RowOf S e fs)(g:∀z∈fs,zL z)(j:fs.length<=1000)(hl:c.J.length<=1000)(k:∀p∈c.J,p<2^64):
  SP 258 [.agg (yh c),I cap,e] S (λq S'=>q=.tup [L (uY c cap fs).1,B (uY c cap fs).2]/\S'=S):=by
 have m:=US c cap hl;have a:∀p∈j8 c cap,p<2^64:=λp g=>k p (AX.1 g).1;have n:(j8 c cap).length<=1000:=AF (BR _ _) hl;unfold uY;generalize j8 c cap=l at *;have hb:=λS (f:RowOf S e fs)=>UR l f g j n a;obtain⟨b1,b2,b3⟩:=aJ fs l l.length;generalize jH fs l l.length=r at *;obtain⟨place,o⟩:=r;simp only at hb b1 b2 b3 ⊢;refine yr func258 ntmps258 results258 λnx s=>?_;refine EK ?_;intro v0;refine EK ?_;refine zq m ?_;refine EK ?_;refine λd=>((hb _ (f.ext s _)).mono ?_).v;rintro _ _ ⟨rfl,rfl⟩;refine⟨_,_,rfl,zO d ?_⟩;repeat apply za
 refine zb ?_;by_cases h:place<0;rw[if_pos h];refine zm (by simp[h]) ?_;refine EK ?_;refine Zh 6 rfl ?_;exact zg ⟨_,S,rfl,⟨by simp[zp],rfl⟩,zV s⟩;rw[if_neg h];obtain⟨i,rfl⟩:=Au (show 0<=place by omega);have b:i<l.length:=EA;obtain⟨p,tl,w,y,a3,x⟩:=zF rfl l i b;have t:l.getD (i:Int).toNat 0=p:=by rw[AJ,List.getD_eq_getElem?_getD,w];rfl
 rw[t];have u:=UN c p (a p (Aa w));refine aC (aG (some [nx]) RE mixed (zn x b) ?_);refine zJ (u) (zn x b) ?_;exact zg ⟨_,S,EC,⟨by simp[zp],rfl⟩,zV s⟩
def UU{b:PV}(c:Cust)(n cap:Int)(h:c.kind=1)(d:RowOf S b fs)(i:∀z∈fs,zL z)(e:fs.length<=1000)(hl:c.J.length<=1000)(f:∀p∈c.J,p<2^64):
  SP 224 [.agg (yh c),I n,I cap,b] S (λq S'=>q=.tup [L (uY c cap fs).1,B (uY c cap fs).2]/\S'=S):=by
 have hs:=λS (d:RowOf S b fs)=>UT c cap d i e hl f;generalize uY c cap fs=r at *;obtain⟨v,ok⟩:=r;simp only at hs ⊢;refine yr func224 ntmps224 results224 λnx g=>?_;refine EK ?_;intro v0;refine aA (aF [] h ?_);refine zm rfl (EK ?_);refine λa=>((hs _ (d.ext g _)).mono ?_).v;rintro _ _ ⟨rfl,rfl⟩;refine⟨_,_,rfl,zO a ?_⟩;exact zg ⟨_,S,EC,⟨by simp[zp],rfl⟩,zV g⟩
def vU(c:Cust)(there cap:Int):Int:=if c.size-there<1\/cap<0 then 0 else if c.size-there<=cap then c.size-there else if c.Y=1 then 0 else cap
variable {cap:Int}
def sN{c:Cust}(hc:0<=c.size/\c.size<=2147483648)(a:0<=e):0<=vU c e cap/\vU c e cap<=2147483648:=by unfold vU;split;omega;split;omega;split<;>omega
def iV(c:Cust)(there cap:Int)(hc:0<=c.size/\c.size<=2147483648)(e:-4611686018427387904<=there/\there<=4611686018427387904):PP 281 [.agg (yh c),I there,I cap] (I (vU c there cap)):=by have d:IntKind.i64.wrap (c.size-there)=c.size-there:=wr _ EA EA;unfold vU;generalize hf:c.size-there=f at d ⊢;refine zt func281 ntmps281 results281 λS nx a=>?_;refine EK ?_;intro v0;refine aF [] (zn hf d) ?_;refine aA ?_;by_cases h:f<1\/cap<0;rw[if_pos h];by_cases h1:f<1;refine aF [(2,15)] (zn h1 zE) ?_;refine zm rfl (EK ?_);exact zg (zi a rfl rfl);have h2:cap<0:=EA;refine aF [(2,15)] (zn h1 h2) ?_;refine zm rfl (EK ?_);exact zg (zi a rfl rfl);rw[if_neg h];have h1:¬f<1:=EA;have h2:¬cap<0:=EA;refine aF [(2,15)] (zn h1 h2) ?_;refine zk rfl (EK ?_);by_cases h3:f<=cap;rw[if_pos h3];refine zm (by simp[h3]) ?_;refine EK ?_;exact zg (zi a rfl rfl);rw[if_neg h3];refine zk EF ?_;refine EK ?_;by_cases b:c.Y=1;rw[if_pos b];refine zm (by simp[b]) ?_;refine EK ?_;exact zg (zi a rfl rfl);rw[if_neg b];refine zk (by simp[b]) ?_;refine zh (EK ?_);exact zg (zi a rfl rfl)
def ZU(price:List Int)(d:Int):Int:=if d<0\/(price.length:Int)<=d then 0 else price.getD d.toNat 0
variable {j:PV}
def iW(d:Int)(l:RowOf S j fs):
  SP 226 [j,I d] S (λq S'=>q=I (ZU fs d)/\S'=S):=by
 unfold ZU;obtain rfl|⟨id,ver,rfl,k⟩:=l;refine yr func226 ntmps226 results226 λnx a=>?_;refine EK ?_;by_cases h:d<0;rw[if_pos (.inl h)];repeat apply za
 refine ze [(2,7)] (zn h zE) ?_;refine zm rfl (EK ?_);exact zg ⟨_,S,rfl,⟨by simp[zp],rfl⟩,zV a⟩;by_cases h2:(fs.length:Int)<=d;rw[if_pos (.inr h2)];repeat apply za
 refine ze [(2,7)] (zn h h2) ?_;refine zm rfl (EK ?_);exact zg ⟨_,S,rfl,⟨by simp[zp],rfl⟩,zV a⟩;rw[if_neg EA];obtain⟨i,rfl⟩:=Au (show 0<=d by omega);have hi:i<fs.length:=EA;obtain⟨z,tl,c,-,-,e⟩:=zF rfl fs i hi;have f:fs.getD (i:Int).toNat 0=z:=by rw[AJ,List.getD_eq_getElem?_getD,c];rfl
 rw[f];have b:¬fs.length<=i:=EA;repeat apply za
 refine ze [(2,7)] (zD h h2 b) ?_;refine zk rfl (zh (aF [] (zn e hi) ?_));exact zg ⟨_,S,rfl,⟨by simp[zp],rfl⟩,zV a⟩;refine yr func226 ntmps226 results226 λnx a=>?_;have g:id<nx:=qB a k EB;have m:=λobs=>(zG (S:=S) (obs:=obs) g).trans k;refine EK ?_;by_cases h:d<0;rw[if_pos (.inl h)];repeat apply za
 refine ze [(2,7)] (zn h zE) ?_;refine zm rfl (EK ?_);exact zg ⟨_,S,rfl,⟨by simp[zp],rfl⟩,zV a⟩;by_cases h2:(fs.length:Int)<=d;rw[if_pos (.inr h2)];repeat apply za
 refine ze [(2,7)] (zn h h2) ?_;refine zm rfl (EK ?_);exact zg ⟨_,S,rfl,⟨by simp[zp],rfl⟩,zV a⟩;rw[if_neg EA];obtain⟨i,rfl⟩:=Au (show 0<=d by omega);have hi:i<fs.length:=EA;obtain⟨z,tl,c,-,-,e⟩:=zF rfl fs i hi;have f:fs.getD (i:Int).toNat 0=z:=by rw[AJ,List.getD_eq_getElem?_getD,c];rfl
 rw[f];have b:¬fs.length<=i:=EA;repeat apply za
 refine ze [(2,7)] (zD h h2 b) ?_;refine zk rfl (zh (aF [] (zD m e hi) ?_));exact zg ⟨_,S,rfl,⟨by simp[zp],rfl⟩,zV a⟩
theorem dN:∀(l m:List Int) (i:Nat),yQ i (l++m)=yQ i l++yQ (i+l.length) m
 |[],m,i=>by simp[yQ]
 |z::l,m,i=>by have a:=dN l m (i+1);simp only[List.cons_append,yQ,Ab,a,show i+1+l.length=i+(l.length+1) from by omega];split<;>simp
def sO(q:List Int)(f:q.length<=1048576):PP 284 [L q] (L (yQ 0 q)):=by
 refine zt func284 ntmps284 results284 λS nx c=>?_;refine EK ?_;refine EK ?_;refine za (qO 3 197 2 rfl λv1=>?_);refine EK ?_;refine zj (zC (λs:Nat × List Visit × Nat=>s.1<=q.length/\s.2.1=yQ 0 (q.take s.1)) (λ(k,out,w)=>[(3,.sl nx w 2 0 out.length),(6,L q),(7,I q.length),(8,I k)]) (λ(k,out,w)=>[.cells w 197 (out.flatMap Enc.enc)]) (λs=>q.length-s.1) (0,[],v1) [] (by simp[yQ]) EB EB ?_);rintro⟨k,out,w⟩ ⟨b,ho⟩;simp only at b ho ⊢;have d:out.length<=k:=by rw[ho];exact AF (dK _ _) EF
 refine EK ?_;refine za (zv rfl (λhc=>?_) (λhc=>?_));simp at hc;obtain⟨z,tl,g,i,a3,e⟩:=zF rfl q k hc;have a:yQ 0 (q.take (k+1))=out++(if 0<z then [⟨k,z⟩] else []):=by rw[a3,dN,<-ho,Az,Bt b];simp only[yQ,A3]
 refine zh (aA (aF [] (zn e hc) ?_));refine EK ?_;by_cases h:0<z;rw[if_pos h]at a;refine zm (by simp[h]) ?_;refine zb ?_;refine⟨by omega,?_⟩;refine zb ?_;exact zr (k+1,out++[⟨k,z⟩],w+1) [] ⟨hc,a.symm⟩ EF (by simp[zu k EA]) rfl EB;rw[if_neg h,AA]at a;refine zk EF ?_;refine zh (zb ?_);exact zr (k+1,out,w) [] ⟨hc,a.symm⟩ EF (by simp[zu k EA]) rfl EB;simp at hc;obtain rfl:k=q.length:=EA;rw[Ah]at ho;refine zx (zY 0 rfl ?_);refine EK ?_;exact zg (zi c EC (by simp[zp,ho]))
def qU(c:Cust)(f:Int->Int):Nat->List Int × Int
 |0=>([],c.H)
 |k+1=>((qU c f k).1++[f (qU c f k).2],(qU c f k).2+(f (qU c f k).2-c.D))
def JZ(c:Cust)(cap:Int)(t:Int):Int:=vU c (max t 0) cap
def Ja(c:Cust)(cap:Int)(t:Int):Int:=if c.D<=t then 0 else vU c (max t 0) cap
theorem Vd(c:Cust)(f:Int->Int):∀k,(qU c f k).1.length=k
 |0=>rfl
 |k+1=>by simp[qU,Vd c f k]
def iX{c:Cust}(hc:CustFits c)(cap t:Int):0<=JZ c cap t/\JZ c cap t<=2147483648:=sN hc.size EA
def iY{c:Cust}(hc:CustFits c)(cap t:Int):0<=Ja c cap t/\Ja c cap t<=2147483648:=by unfold Ja;split;omega;exact sN hc.size EA
theorem Ve{c:Cust}(hc:CustFits c){f:Int->Int}(hf:∀t,0<=f t/\f t<=2147483648):∀k:Nat,(-4294967296*((k:Int)+1)<=(qU c f k).2/\(qU c f k).2<=4294967296*((k:Int)+1))/\Qs (qU c f k).1
 |0=>by have:=hc.H;refine⟨by simp only[qU];omega,by intro z a;cases a⟩
 |k+1=>by obtain⟨h1,h2⟩:=Ve hc hf k;have h3:=hf (qU c f k).2;have b:=hc.D;refine⟨by simp only[qU];push_cast;omega,λz a=>?_⟩;simp only[qU]at a;obtain a|a:=AB.1 a;exact h2 z a;rw[A5.1 a];exact h3
def UV(c:Cust)(cap t:Int)(hc:CustFits c)(d:-4611686018427387904<=t/\t<=4611686018427387904):PP 299 [I t,.ip (yh c),.ip [I cap]] (I (JZ c cap t)):=by
 have hm:qk t 0=max t 0:=by unfold qk;split<;>omega
 have a:=iV c (max t 0) cap hc.size EA;unfold JZ;generalize max t 0=m at hm a ⊢;generalize vU c m cap=z at a ⊢;refine zt func299 ntmps299 results299 λS nx b=>?_;refine EK ?_;refine aF [] hm ?_;refine yP [] a hm ?_;exact zg (zi b rfl rfl)
def UW(c:Cust)(cap t:Int)(hc:CustFits c)(d:-4611686018427387904<=t/\t<=4611686018427387904):PP 300 [I t,.ip (yh c),.ip [I cap]] (I (Ja c cap t)):=by
 have hm:qk t 0=max t 0:=by unfold qk;split<;>omega
 have a:=iV c (max t 0) cap hc.size EA;unfold Ja;generalize max t 0=m at hm a ⊢;generalize vU c m cap=z at a ⊢;refine zt func300 ntmps300 results300 λS nx b=>?_;refine EK ?_;repeat apply za
 refine zb ?_;by_cases h:c.D<=t;rw[if_pos h];refine zm (by simp[h]) ?_;refine EK ?_;exact zg (zi b rfl rfl);rw[if_neg h];refine zk EF ?_;refine zh (aF [] hm ?_);refine yP [] a hm ?_;exact zg (zi b rfl rfl)
def sP(c:Cust)(n:Nat)(fn:FuncId)(b:List PV)(f:Int->Int)(hc:CustFits c)(hn:n<=1000)(hf:∀t,0<=f t/\f t<=2147483648)(h:∀t,(-4611686018427387904<=t/\t<=4611686018427387904)->Pure prog fn ([I t]++b) (I (f t))):
  PP 298 [.agg (yh c),I n,.fn (.func fn) [] b] (.tup [L (qU c f n).1,B (decide (uz c (qU c f n).1=0))]):=by
 have r:=hc.D;refine zt func298 ntmps298 results298 λS nx j=>?_;refine EK ?_;intro v0;refine EK ?_;refine za (qO 8 3 1 rfl λv1=>?_);refine zb ?_;repeat apply za
 refine zb ?_;refine zj (zC (λs:Nat × Nat=>s.1<=n) (λ(k,w)=>[(2,.fn (.func fn) [] b),(3,.ptr nx v0 0),(8,.sl (nx+1) w 1 0 (qU c f k).1.length),(9,I (qU c f k).2),(13,I n),(14,I k)]) (λ(k,w)=>[.cells v0 59 (yh c),.cells w 3 ((qU c f k).1.flatMap Enc.enc)]) (λs=>n-s.1) (0,v1) [] EB (by simp[qU]) (by simp[qU]) ?_);rintro⟨k,w⟩ l;simp only at l ⊢;obtain⟨g,-⟩:=Ve hc hf k;have hl:=Vd c f k;have a:qU c f (k+1)=((qU c f k).1++[f (qU c f k).2],(qU c f k).2+(f (qU c f k).2-c.D)):=rfl;generalize i:qU c f k=st at g hl a ⊢;obtain⟨q,t⟩:=st;simp only at g hl a ⊢;refine EK ?_;refine za (zv rfl (λd=>?_) (λd=>?_));simp at d;have m:=hf t;have e:=h t EA;have o:IntKind.i64.wrap (f t-c.D)=f t-c.D:=wr _ EA EA;have w2:IntKind.i64.wrap (t+(f t-c.D))=t+(f t-c.D):=wr _ EA EA;generalize f t=z at *;refine zh (aA (EK ?_));refine zq e ?_;refine EK ?_;refine⟨by omega,?_⟩;refine ze [] (zn o w2) ?_;refine zb ?_;exact zr (k+1,w+1) [] EA EF (by simp[zu k EA,a]) rfl (by simp[a]);simp at d;obtain rfl:k=n:=EA;refine zx (zY 1 rfl ?_);have p:=rS c q hc EA;refine EK ?_;refine zq p ?_;exact zg (zi j EC (by simp[zp,i]))
def YN(c:Cust)(n:Nat)(cap:Int):List Int × Bool:=((qU c (JZ c cap) n).1,decide (uz c (qU c (JZ c cap) n).1=0))
def Qw(c:Cust)(n:Nat)(cap:Int):List Int × Bool:=((qU c (Ja c cap) n).1,decide (uz c (qU c (Ja c cap) n).1=0))
def UX(c:Cust)(n:Nat)(cap:Int)(hc:CustFits c)(hn:n<=1000):PP 283 [.agg (yh c),I n,I cap] (.tup [L (YN c n cap).1,B (YN c n cap).2]):=by have h:=sP c n 299 [.ip (yh c),.ip [I cap]] (JZ c cap) hc hn (iX hc cap) (λt a=>UV c cap t hc a);unfold YN;generalize qU c (JZ c cap) n=r at h ⊢;refine zt func283 ntmps283 results283 λS nx b=>?_;refine EK ?_;intro v0 v1;refine w9 0 rfl ?_;refine w9 1 rfl ?_;refine EK ?_;refine zq h ?_;exact EL b
def UY(c:Cust)(n:Nat)(cap:Int)(hc:CustFits c)(hn:n<=1000):PP 285 [.agg (yh c),I n,I cap] (.tup [L (Qw c n cap).1,B (Qw c n cap).2]):=by have h:=sP c n 300 [.ip (yh c),.ip [I cap]] (Ja c cap) hc hn (iY hc cap) (λt a=>UW c cap t hc a);unfold Qw;generalize qU c (Ja c cap) n=r at h ⊢;refine zt func285 ntmps285 results285 λS nx b=>?_;refine EK ?_;intro v0 v1;refine w9 0 rfl ?_;refine w9 1 rfl ?_;refine EK ?_;refine zq h ?_;exact EL b
def YO(price:List Int)(v:List Visit):Int:=v.foldl (λs w=>W (s+ZU price w.d)) 0
def UZ(price:List Int)(v:List Visit)(w:Visit):YO price (v++[w])=W (YO price v+ZU price w.d):=by simp[YO]
def Zu(c:Cust)(n:Int)(price:List Int)(v:List Visit):Int:=if c.kind=1 then YO price v else W (YO price v+xQ c (yS c (z8 v n)).1)
def iZ(c:Cust)(n:Int)(v:List Visit)(l:RowOf S g fs)(hc:CustFits c)(hv:VisOk v):
  SP 225 [.agg (yh c),I n,g,L v] S (λq S'=>q=I (Zu c n fs v)/\S'=S):=by
 have m:=hv.n;have o:=λS (h:RowOf S g fs) d=>iW d h;unfold Zu;refine yr func225 ntmps225 results225 λnx i=>?_;refine EK ?_;intro v0;refine EK ?_;repeat apply za
 refine zb ?_;refine zj (zC (λk:Nat=>k<=v.length) (λk=>[(1,I n),(3,L v),(4,.ptr nx v0 0),(9,I (YO fs (v.take k))),(2,g),(14,L v),(15,I v.length),(16,I k)]) (λ_=>[.cells v0 59 (yh c)]) (λk=>v.length-k) 0 [] EB (by simp[YO]) EB ?_);rintro k r;refine EK ?_;refine za (zv rfl (λa=>?_) (λa=>?_));simp at a;obtain⟨w,tl,s,t,a3,u,p⟩:=el 2 rfl v k a;have e:=UZ fs (v.take k) w;rw[<-a3]at e;refine zh (aA (aF [] (zn p a) ?_));intro x;refine zb ?_;refine λf=>((o _ (l.ext i _) _).mono ?_).v;rintro _ _ ⟨rfl,rfl⟩;refine⟨_,_,rfl,zO f ?_⟩;refine zb ?_;exact zr (k+1) [_] a EA (by simp[zu k EA,e]) rfl EC;simp at a;obtain rfl:k=v.length:=EA;rw[Ah];refine zx ?_;repeat apply za
 refine zb ?_;by_cases b:c.kind=1;rw[if_pos b];refine zm (by simp[b]) ?_;refine EK ?_;exact zg ⟨_,S,rfl,⟨by simp[zp],rfl⟩,zV i⟩;rw[if_neg b];have hb:=rV v n hv;have hn:=ix c (z8 v n) hc (Vc _ _);have j:=iy c _ (iP c (z8 v n) (Vc _ _));generalize yS c (z8 v n)=ns at hn j ⊢;obtain⟨nl,ne⟩:=ns;simp only at hn j ⊢;refine zk (by simp[b]) ?_;refine zh (aG (some [nx]) Rf mixed trivial ?_);refine zJ (hb) trivial ?_;refine zJ (hn) trivial ?_;refine EK ?_;refine zq j ?_;exact zg ⟨_,S,rfl,⟨by simp[zp],rfl⟩,zV i⟩
def XY(c:Cust)(n:Nat)(cap:Int)(price:List Int):List Visit × Bool :=
 if (Qw c n cap).2=true/\((YN c n cap).2=false\/Zu c n price (yQ 0 (Qw c n cap).1)<=Zu c n price (yQ 0 (YN c n cap).1)) then (yQ 0 (Qw c n cap).1,true)
 else if (YN c n cap).2=true then (yQ 0 (YN c n cap).1,true) else ([],false)
def sQ(a:Qs q)(hl:q.length=n)(hn:n<=1000):VisOk (yQ 0 q):=by refine⟨AF (dK _ _) EA,λs hs=>?_,λs hs=>?_⟩;have:=dL q 0 a s hs;omega;have:=dL q 0 a s hs;unfold zL;omega
variable {f:PV}
def Zvw(c:Cust)(n:Nat)(cap:Int)(g:RowOf S f fs)(hc:CustFits c)(hn:n<=1000):
  SP 260 [.agg (yh c),I n,I cap,f] S (λq S'=>q=.tup [L (XY c n cap fs).1,B (XY c n cap fs).2]/\S'=S):=by
 have m:=UX c n cap hc hn;have o:=UY c n cap hc hn;have p:(YN c n cap).1.length=n:=Vd _ _ _;have r:(Qw c n cap).1.length=n:=Vd _ _ _;have vD:VisOk (yQ 0 (YN c n cap).1):=sQ (Ve hc (iX hc cap) n).2 p hn;have s:VisOk (yQ 0 (Qw c n cap).1):=sQ (Ve hc (iY hc cap) n).2 r hn;unfold XY;generalize YN c n cap=rd at *;generalize Qw c n cap=rl at *;obtain⟨i,t⟩:=rd;obtain⟨j,u⟩:=rl;simp only at m o p r vD s ⊢;have k:=sO i EA;have l:=sO j EA;have d:=λS (h:RowOf S f fs)=>iZ (S:=S) c n (yQ 0 i) h hc vD;have e:=λS (h:RowOf S f fs)=>iZ (S:=S) c n (yQ 0 j) h hc s;generalize yQ 0 i=vd at *;generalize yQ 0 j=vl at *;generalize Zu c n fs vd=zd at *;generalize Zu c n fs vl=zl at *;refine yr func260 ntmps260 results260 λnx a=>?_;refine EK ?_;intro v0;refine EK ?_;refine zq m ?_;refine EK ?_;refine zq k ?_;repeat apply za
 refine zb ?_;refine zq o ?_;refine EK ?_;cases u with
 |true =>
  refine zm rfl (EK ?_);refine zq l ?_;cases t with
  |false =>
  rw[if_pos ⟨rfl,.inl rfl⟩];refine aG (some [nx]) R7 mixed zE ?_;refine zm rfl (EK ?_);exact zg ⟨_,S,EC,⟨by simp[zp],rfl⟩,zV a⟩
  |true =>
  by_cases b:zl<=zd;rw[if_pos ⟨rfl,.inr b⟩];refine aG (some [nx]) Rx mixed zE ?_;refine(((e _ (g.ext a _)).mono ?_).v);rintro _ _ ⟨rfl,rfl⟩;refine⟨by simp[yY],xl zE ?_⟩;refine(((d _ (g.ext a _)).mono ?_).v);rintro _ _ ⟨rfl,rfl⟩;refine⟨by simp[yY],xl zE ?_⟩;refine zm (by simp[b]) ?_;refine EK ?_;exact zg ⟨_,S,EC,⟨by simp[zp],rfl⟩,zV a⟩;rw[if_neg (by rintro⟨-,q|q⟩;cases q;exact b q),if_pos rfl];refine aG (some [nx]) Rx mixed zE ?_;refine(((e _ (g.ext a _)).mono ?_).v);rintro _ _ ⟨rfl,rfl⟩;refine⟨by simp[yY],xl zE ?_⟩;refine(((d _ (g.ext a _)).mono ?_).v);rintro _ _ ⟨rfl,rfl⟩;refine⟨by simp[yY],xl zE ?_⟩;refine zk EF ?_;refine zh ?_;repeat apply za
  refine zb ?_;refine zk rfl (zh (EK ?_));exact zg ⟨_,S,EC,⟨by simp[zp],rfl⟩,zV a⟩
 |false =>
 rw[if_neg (by rintro⟨q,-⟩;cases q)];refine zk rfl (zh ?_);repeat apply za
 refine zb ?_;cases t with
 |false =>
 rw[if_neg EH];refine zm rfl (EK ?_);refine Zh 8 rfl ?_;exact zg ⟨_,S,rfl,⟨by simp[zp],rfl⟩,zV a⟩
 |true =>
 rw[if_pos rfl];refine zk rfl (zh (EK ?_));exact zg ⟨_,S,EC,⟨by simp[zp],rfl⟩,zV a⟩
def yO(c:Cust)(last d:Int):Int × Int :=
 ((if last<0 then c.H else c.size)-c.D*((if last<0 then d else d-last).toNat:Int),
  xQ c ((List.range (if last<0 then d else d-last).toNat).map λ(i:Nat)=>(if last<0 then c.H else c.size)-c.D*((i:Int)+1)))
def sR(c:Cust)(a d:Int)(hc:CustFits c)(hl:-1<=a/\a<=64)(o:0<=d/\d<=64):PP 280 [.agg (yh c),I a,I d] (.tup [I (yO c a d).1,I (yO c a d).2]):=by
 have h1:=hc.D;have h2:=hc.size;have h3:=hc.H;have w0:IntKind.i64.wrap (d-a)=d-a:=wr _ EA EA;have key:yO c a d=(let t0:=if a<0 then c.H else c.size;let m:=if a<0 then d else d-a;(t0-c.D*(m.toNat:Int),xQ c ((List.range m.toNat).map λ(i:Nat)=>t0-c.D*((i:Int)+1)))):=rfl;rw[key];obtain⟨t0,b⟩:∃t0,t0=if a<0 then c.H else c.size:=⟨_,rfl⟩;obtain⟨m,hm⟩:∃m,m=if a<0 then d else d-a:=⟨_,rfl⟩;have p:0<=t0/\t0<=2147483648:=by rw[b];split<;>omega
 have q:-64<=m/\m<=65:=by rw[hm];split<;>omega
 rw[<-b,<-hm];clear key;simp only;refine zt func280 ntmps280 results280 λS nx r=>?_;refine EK ?_;intro v0;refine aF [] w0 ?_;refine za (qT (nx:=nx) (σ:=Unit) (λ_=>True) (λ_=>[(3,.ptr nx v0 0),(8,I t0),(9,I m)]) (λ_=>S) (λ_=>[.cells v0 59 (yh c)]) ?_ ?_);refine EK ?_;by_cases h:a<0;rw[if_pos h]at b hm;refine zm (by simp[h]) ?_;refine zb ?_;exact yb () [] trivial (by simp[b,hm]) rfl EB;rw[if_neg h]at b hm;refine zk EF ?_;exact zh (yb () [] trivial (by simp[b,hm]) rfl EB);intro _ _;refine EK ?_;refine za (qO 10 3 1 rfl λv1=>?_);refine EK ?_;have e:∀k:Nat,k<=65->0<=c.D*(k:Int)/\c.D*(k:Int)<=2147483648*65:=λk l=>⟨Bc h1.1 EA,Bm h1.2 EA EA EA⟩;refine zj (zC (λs:Nat × Nat=>s.1<=m.toNat) (λ(k,w)=>[(3,.ptr nx v0 0),(8,I (t0-c.D*(k:Int))),(10,.sl (nx+1) w 1 0 ((List.range k).map λ(i:Nat)=>t0-c.D*((i:Int)+1)).length),(21,I m),(22,I k)]) (λ(k,w)=>[.cells v0 59 (yh c),.cells w 3 (((List.range k).map λ(i:Nat)=>t0-c.D*((i:Int)+1)).flatMap Enc.enc)]) (λs=>m.toNat-s.1) (0,v1) [] EB EB EB ?_);rintro⟨k,w⟩ l;simp only at l ⊢;have x:=e k EA;have t:=e (k+1);have n:c.D*((k:Int)+1)=c.D*(k:Int)+c.D:=by rw[B6,Int.mul_one]
 have f:((List.range (k+1)).map λ(i:Nat)=>t0-c.D*((i:Int)+1))=((List.range k).map λ(i:Nat)=>t0-c.D*((i:Int)+1))++[t0-c.D*((k:Int)+1)]:=by simp[AC]
 have u:((List.range k).map λ(i:Nat)=>t0-c.D*((i:Int)+1)).length=k:=EB;generalize g:((List.range k).map λ(i:Nat)=>t0-c.D*((i:Int)+1))=ls at *
 by_cases j:(k:Int)<m;have v:IntKind.i64.wrap (t0-c.D*(k:Int)-c.D)=t0-c.D*((k:Int)+1):=by rw[wr _ EA EA];omega
 refine EK ?_;refine za (zm (by simp[j]) ?_);refine zh (aA (aF [] v ?_));refine zb ?_;refine⟨by omega,?_⟩;refine zb ?_;exact zr (k+1,w+1) [] EF EF (by simp[zu k EA,f];) rfl (by simp[f]);refine EK ?_;refine za (zk EF ?_);obtain rfl:k=m.toNat:=EA;refine zx (zY 1 rfl ?_);refine EK ?_;refine zq (iy c ls EA) ?_;exact zg (zi r EC (by simp[zp,g]))
def Qx(c:Cust)(st:List Visit × Int)(d:Int):List Visit × Int:=(st.1++[⟨d,W (c.size-(yO c st.2 d).1)⟩],d)
def qc(c:Cust)(ds:List Int):List Visit × Int:=ds.foldl (Qx c) ([],-1)
def aK(c:Cust)(ds:List Int)(d:Int):qc c (ds++[d])=Qx c (qc c ds) d:=by simp[qc]
def kf(c:Cust):∀ds:List Int,(qc c ds).1.length=ds.length:=by
 have:∀(ds:List Int) (st:List Visit × Int),(ds.foldl (Qx c) st).1.length=st.1.length+ds.length:=by
  intro ds;induction ds with
  |nil=>intro st;simp
  |cons d ds a=>intro st;rw[A6,a];simp[Qx];omega
 intro ds;unfold qc;rw[this];simp
def Zvx(c:Cust)(p:Nat)(u:p<2^64)(hc:CustFits c):PP 282 [.agg (yh c),U p] (L (qc c (yC p 0 64)).1):=by
 have e:=iU p u;have m:=XV p 0 64;have g:∀d∈yC p 0 64,0<=d/\d<64:=λd n=>by obtain⟨i,h,h2,_⟩:=Qv n;omega
 generalize yC p 0 64=ds at e m g ⊢;refine zt func282 ntmps282 results282 λS nx n=>?_;refine EK ?_;intro v0;refine EK ?_;refine za (qO 5 197 2 rfl λv1=>?_);refine zb ?_;repeat apply za
 refine zb ?_;refine zq e ?_;have j:∀k,-1<=(qc c (ds.take k)).2/\(qc c (ds.take k)).2<=64:=by
  intro k;induction k with
  |zero=>simp[qc]
  |succ k t =>
  by_cases h:k<ds.length;rw[AU h,aK];have:=g ds[k] (AZ h);simp only[Qx];omega;rw[Ae EA]at t ⊢;exact t
 refine zj (zC (λs:Nat × Nat=>s.1<=ds.length) (λ(k,w)=>[(2,.ptr nx v0 0),(5,.sl (nx+1) w 2 0 (qc c (ds.take k)).1.length),(6,I (qc c (ds.take k)).2),(12,L ds),(13,I ds.length),(14,I k)]) (λ(k,w)=>[.cells v0 59 (yh c),.cells w 197 ((qc c (ds.take k)).1.flatMap Enc.enc)]) (λs=>ds.length-s.1) (0,v1) [] EB (by simp[qc]) (by simp[qc]) ?_);rintro⟨k,w⟩ v;simp only at v ⊢;have l:=j k;have o:(qc c (ds.take k)).1.length=k:=by rw[kf];simp;omega
 refine EK ?_;refine za (zv rfl (λa=>?_) (λa=>?_));simp at a;obtain⟨d,tl,x,a2,a3,y⟩:=zF rfl ds k a;have z:=g d (Aa x);have b:=aK c (ds.take k) d;rw[<-a3]at b;generalize qc c (ds.take k)=st at *;obtain⟨out,f⟩:=st;simp only[Qx]at l o b ⊢;have q:=sR c f d hc l EA;generalize yO c f d=r at q b;obtain⟨th,he⟩:=r;simp only at q b;refine zh (aA (aF [] (zn y a) ?_));refine EK ?_;refine zq q ?_;refine EK ?_;refine⟨by omega,?_⟩;refine zb ?_;refine zb ?_;exact zr (k+1,w+1) [] a EF (by simp[zu k EA,b]) rfl (by simp[b]);simp at a;obtain rfl:k=ds.length:=EA;rw[Ah];refine zx (zY 1 rfl ?_);refine EK ?_;exact EL n
structure Stp where
 r:Bool
 k:Int
 l:Int
 deriving DecidableEq
instance:Inhabited Stp:=⟨⟨false,0,0⟩⟩
instance:Enc Stp:=⟨λs=>[B s.r,I s.k,I s.l],3,λ_=>rfl,λ_=>rfl⟩
@[simp] theorem ZD6(s:Stp):Enc.enc s=[B s.r,I s.k,I s.l]:=rfl
@[simp high] theorem Zvy(l:List Stp):(l.flatMap Enc.enc).length=l.length*3:=xz l
@[simp high] theorem ZD7(l:List Stp):(l.flatMap Enc.enc).take (l.length*3)=l.flatMap Enc.enc:=Yw l
def zs:Stp:=⟨false,0,0⟩
def Yg(c:Cust)(n:Nat)(cap:Int)(price:List Int)(tab:List Stp)(d:Nat)(last:Int):Int :=
 let k1:=if 0<=last then W ((yO c last d).2+(tab.getD last.toNat zs).k) else (yO c last d).2
 if d<n then W (k1+ZU price d) else k1
def YP(c:Cust)(n:Nat)(cap:Int)(tab:List Stp)(d:Nat)(last:Int):Prop :=
 ¬(0<=last/\tab.getD last.toNat zs=zs)/\¬((yO c last d).1<0\/(d<n/\vU c (yO c last d).1 cap=0))
instance (c:Cust) (n:Nat) (cap:Int) (tab:List Stp) (d:Nat) (last:Int):Decidable (YP c n cap tab d last):=by unfold YP;exact inferInstance
def Jb(c:Cust)(n:Nat)(cap:Int)(price:List Int)(tab:List Stp)(d:Nat)(best:Stp)(last:Int):Stp :=
 if YP c n cap tab d last then (if best=zs\/Yg c n cap price tab d last<best.k then ⟨true,Yg c n cap price tab d last,last⟩ else best) else best
def jS(c:Cust)(n:Nat)(cap:Int)(price:List Int)(tab:List Stp)(d:Nat)(j:Nat):Stp:=(List.range j).foldl (λb (i:Nat)=>Jb c n cap price tab d b ((i:Int)-1)) zs
def aL(c:Cust)(n:Nat)(cap:Int)(price:List Int)(a:List Stp)(d:Nat)(j:Nat):jS c n cap price a d (j+1)=Jb c n cap price a d (jS c n cap price a d j) ((j:Int)-1):=by simp[jS,AC]
def y8(c:Cust)(n:Nat)(cap:Int)(price:List Int):Nat->List Stp
 |0=>[]
 |k+1=>y8 c n cap price k++[jS c n cap price (y8 c n cap price k) k (k+1)]
theorem XZ(c:Cust)(n:Nat)(cap:Int)(price:List Int):∀k,(y8 c n cap price k).length=k
 |0=>rfl
 |k+1=>by simp[y8,XZ c n cap price k]
def Zv(tab:List Stp):Nat->Nat->Int->Nat
 |0,s,_=>s
 |f+1,s,d=>if d<0 then s else Zv tab f (jp s d) (tab.getD d.toNat zs).l
def uZ(c:Cust)(n:Nat)(cap:Int)(price:List Int):List Visit × Bool :=
 if (y8 c n cap price (n+1)).getD n zs=zs then ([],false)
 else ((qc c (yC (Zv (y8 c n cap price (n+1)) 65 0 ((y8 c n cap price (n+1)).getD n zs).l) 0 64)).1,true)
def Zvz(tab:List Stp):Prop:=∀(d:Nat) (e:Stp),tab[d]?=some e->e=zs\/(e.r=true/\-1<=e.l/\e.l<d/\(0<=e.l->tab.getD e.l.toNat zs≠zs))
theorem dO(c:Cust)(n:Nat)(cap:Int)(price:List Int)(a:List Stp)(d:Nat):∀j:Nat,jS c n cap price a d j=zs\/((jS c n cap price a d j).r=true/\-1<=(jS c n cap price a d j).l/\(jS c n cap price a d j).l+1<j/\YP c n cap a d (jS c n cap price a d j).l)
 |0=>.inl rfl
 |j+1=>by have b:=dO c n cap price a d j;rw[aL];unfold Jb;split;rename_i e;split;exact .inr ⟨rfl,by dsimp only;omega,by dsimp only;omega,e⟩;obtain b|⟨h1,h2,h3,f⟩:=b;exact .inl b;exact .inr ⟨h1,h2,by omega,f⟩;obtain b|⟨h1,h2,h3,f⟩:=b;exact .inl b;exact .inr ⟨h1,h2,by omega,f⟩
theorem kh(c:Cust)(n:Nat)(cap:Int)(price:List Int):∀k,Zvz (y8 c n cap price k)
 |0=>by intro d e h;cases h
 |k+1=>by
  have l:=kh c n cap price k;have hl:=XZ c n cap price k;have m:=dO c n cap price (y8 c n cap price k) k (k+1);intro d e h;simp only[y8]at h ⊢;have a:∀(i:Nat),i<k->(y8 c n cap price k++[jS c n cap price (y8 c n cap price k) k (k+1)]).getD i zs=(y8 c n cap price k).getD i zs:=by intro i hi;rw[List.getD_eq_getElem?_getD,List.getD_eq_getElem?_getD,As EA]
  by_cases p:d<k;rw[As EA]at h;obtain q|⟨b,f,j,g⟩:=l d e h;exact .inl q;refine .inr ⟨b,f,j,λq=>?_⟩;rw[a _ EA];exact g q;rw[Am EA,hl]at h;obtain rfl:d=k:=by obtain q|q:=Bo (d-k) 1;omega;rw[Ao (by simpa using q)]at h;cases h
  rw[Bs]at h;simp only[Bp,Option.some.injEq]at h;subst h;obtain q|⟨b,f,j,g⟩:=m;exact .inl q;refine .inr ⟨b,f,by omega,λq=>?_⟩;rw[a _ EA];exact λo=>g.1 ⟨q,o⟩
def jd(tab:List Stp)(b:Stp):List Stp:=tab++b::List.replicate (64-tab.length) zs
def sS(a:List Stp)(b:Stp)(h:a.length<=64):(jd a b).length=65:=by simp[jd];omega
def dP(a:List Stp)(b:Stp)(i:Nat)(h:i<a.length):(jd a b)[i]?=some (a.getD i zs):=by unfold jd;rw[As h,List.getD_eq_getElem?_getD,Ac h];rfl
def ZvA(a:List Stp)(b:Stp):(jd a b)[a.length]?=some b:=by unfold jd;rw[Am (Af _)];simp
def ZvB(a:List Stp)(b e:Stp):(jd a b).set a.length e=jd a e:=by unfold jd;rw[BQ _ _ (Af _)];simp
def ZvC(a:List Stp)(b:Stp)(h:a.length<64):jd a b=jd (a++[b]) zs:=by unfold jd;rw[List.append_assoc,Ak,AS,show 64-a.length=(64-(a.length+1))+1 from by omega,Br];rfl
@[simp] theorem ZD8:i9 326 (.agg #[.bool false,.int .i64 0,.int .i64 0,.bool false,.int .i64 0,.int .i64 0,.bool false,.int .i64 0,.int .i64 0,.bool false,.int .i64 0,.int .i64 0,.bool false,.int .i64 0,.int .i64 0,.bool false,.int .i64 0,.int .i64 0,.bool false,.int .i64 0,.int .i64 0,.bool false,.int .i64 0,.int .i64 0,.bool false,.int .i64 0,.int .i64 0,.bool false,.int .i64 0,.int .i64 0,.bool false,.int .i64 0,.int .i64 0,.bool false,.int .i64 0,.int .i64 0,.bool false,.int .i64 0,.int .i64 0,.bool false,.int .i64 0,.int .i64 0,.bool false,.int .i64 0,.int .i64 0,.bool false,.int .i64 0,.int .i64 0,.bool false,.int .i64 0,.int .i64 0,.bool false,.int .i64 0,.int .i64 0,.bool false,.int .i64 0,.int .i64 0,.bool false,.int .i64 0,.int .i64 0,.bool false,.int .i64 0,.int .i64 0,.bool false,.int .i64 0,.int .i64 0,.bool false,.int .i64 0,.int .i64 0,.bool false,.int .i64 0,.int .i64 0,.bool false,.int .i64 0,.int .i64 0,.bool false,.int .i64 0,.int .i64 0,.bool false,.int .i64 0,.int .i64 0,.bool false,.int .i64 0,.int .i64 0,.bool false,.int .i64 0,.int .i64 0,.bool false,.int .i64 0,.int .i64 0,.bool false,.int .i64 0,.int .i64 0,.bool false,.int .i64 0,.int .i64 0,.bool false,.int .i64 0,.int .i64 0,.bool false,.int .i64 0,.int .i64 0,.bool false,.int .i64 0,.int .i64 0,.bool false,.int .i64 0,.int .i64 0,.bool false,.int .i64 0,.int .i64 0,.bool false,.int .i64 0,.int .i64 0,.bool false,.int .i64 0,.int .i64 0,.bool false,.int .i64 0,.int .i64 0,.bool false,.int .i64 0,.int .i64 0,.bool false,.int .i64 0,.int .i64 0,.bool false,.int .i64 0,.int .i64 0,.bool false,.int .i64 0,.int .i64 0,.bool false,.int .i64 0,.int .i64 0,.bool false,.int .i64 0,.int .i64 0,.bool false,.int .i64 0,.int .i64 0,.bool false,.int .i64 0,.int .i64 0,.bool false,.int .i64 0,.int .i64 0,.bool false,.int .i64 0,.int .i64 0,.bool false,.int .i64 0,.int .i64 0,.bool false,.int .i64 0,.int .i64 0,.bool false,.int .i64 0,.int .i64 0,.bool false,.int .i64 0,.int .i64 0,.bool false,.int .i64 0,.int .i64 0,.bool false,.int .i64 0,.int .i64 0,.bool false,.int .i64 0,.int .i64 0,.bool false,.int .i64 0,.int .i64 0,.bool false,.int .i64 0,.int .i64 0,.bool false,.int .i64 0,.int .i64 0,.bool false,.int .i64 0,.int .i64 0,.bool false,.int .i64 0,.int .i64 0,.bool false,.int .i64 0,.int .i64 0,.bool false,.int .i64 0,.int .i64 0,.bool false,.int .i64 0,.int .i64 0]):=E3
theorem sT{α:Type}[Enc α]:∀(l:List α) (k:Nat),(l.flatMap Enc.enc).take (k*Enc.sz α)=(l.take k).flatMap Enc.enc
 |[],k=>by simp
 |a::l,0=>by simp
 |a::l,k+1=>by have b:=sT l k;rw[Ax,Dx,Ax,Nat.add_mul,Ei,List.take_append,Enc.len,<-b,B5,Ae (by rw[Enc.len];omega)]
def ZvD{α:Type}[Enc α](n:Nat)(hn:Enc.sz α=n)(l:List α)(k:Nat)(v:α)(h:k<l.length):yl (l.flatMap Enc.enc) (k*n) (Enc.enc v)=(l.set k v).flatMap Enc.enc:=by
 subst hn;have h1:=fL h;have h2:(l.flatMap Enc.enc).drop (k*Enc.sz α+Enc.sz α)=(l.drop (k+1)).flatMap Enc.enc:=by rw[<-List.drop_drop,h1,CG,AT (by rw[Enc.len];exact Af _),Enc.len,Bs];simp
 rw[yl,Enc.len,sT,h2,AK,if_pos h];simp
theorem sU(a:List Stp):∀(f s:Nat) (d:Int),s<2^64->Zv a f s d<2^64
 |0,_,_,h=>h
 |f+1,s,d,h=>by unfold Zv;split;exact h;exact sU a f _ _ (dB _ _ h)
def ZvE(a:List Stp)(f s:Nat){d:Int}(h:d<0):Zv a f s d=s:=by
 cases f with
 |zero=>rfl
 |succ f=>unfold Zv;rw[if_pos h]
def ZvF(c:Cust)(n:Nat)(cap:Int)(hR:RowOf S pr fs)(hc:CustFits c)(hn:n<=60):
  SP 259 [.agg (yh c),I n,I cap,pr] S (λq S'=>q=.tup [L (uZ c n cap fs).1,B (uZ c n cap fs).2]/\S'=S):=by
 have d7:qj (n:Int) 64=n:=by unfold qj;split<;>omega
 have d8:qk (n:Int) 0=n:=by unfold qk;split<;>omega
 have d9:=λS (h:RowOf S pr fs) d=>iW d h;have c7:=λ(a d:Int) (h1:-1<=a/\a<=64) (h2:0<=d/\d<=64)=>sR c a d hc h1 h2;have c8:=λ(th:Int) (h:-4611686018427387904<=th/\th<=4611686018427387904)=>iV c th cap hc.size h;unfold uZ;refine yr func259 ntmps259 results259 λnx hd=>?_;refine EK ?_;intro v0;refine aF [] (zn d7 d8) ?_;refine EK ?_;intro v1;have hw:IntKind.i64.wrap ((n:Int)+1)=((n+1:Nat):Int):=zu n EA;repeat apply za
 refine ze [] hw ?_;refine zj (zC (λd:Nat=>d<=n+1) (λd=>[(1,I n),(2,I cap),(3,pr),(4,.ptr nx v0 0),(10,.ptr (nx+1) v1 0),(22,I (n+1:Nat)),(23,I d)]) (λd=>[.cells v0 59 (yh c),.cells v1 326 ((jd (y8 c n cap fs d) zs).flatMap Enc.enc)]) (λd=>n+1-d) 0 [] EB EB (by simp[y8];rfl) ?_);rintro d g6;have e2:=XZ c n cap fs d;have a4:=kh c n cap fs d;have d0:y8 c n cap fs (d+1)=y8 c n cap fs d++[jS c n cap fs (y8 c n cap fs d) d (d+1)]:=rfl;by_cases f5:d<n+1;case neg =>
  obtain rfl:d=n+1:=EA;clear d0;generalize y8 c n cap fs (n+1)=tab at *;have m:=sS tab zs EA;obtain⟨s,tl,a1,-,-,e1,e0⟩:=el 3 rfl (jd tab zs) n EA;have hs:tab.getD n zs=s:=by have:=dP tab zs n EA;rw[a1]at this;exact(Option.some.inj this).symm
  have f6:tab[n]?=some s:=by rw[<-hs,List.getD_eq_getElem?_getD,Ac EA];rfl
  have f7:=e1 2 EA;have a5:(n:Int)<65:=EA;have z1:3<=195-n*3:=EA;have z2:1<=195-(n*3+2):=EA;rw[hs];refine EK ?_;refine za (aE ?_);refine zx ?_;obtain q|⟨hr,e3,f8,e4⟩:=a4 n s f6;subst q;rw[if_pos rfl];have f9:((jd tab zs).flatMap Enc.enc).drop (n*3)=[B false,I 0,I 0]++tl:=e0;repeat apply za
  refine ze [] (zR f9 a5 m z1) ?_;refine zm rfl (EK ?_);refine Zh 8 rfl ?_;exact zg ⟨_,S,rfl,⟨by simp[zp],rfl⟩,zV hd⟩;have g0:s≠zs:=λe=>by rw[e]at hr;cases hr
  rw[if_neg g0];obtain⟨sr,sk,sl⟩:=s;simp only at hr e3 f8 e4 ⊢;subst hr;repeat apply za
  refine ze [] (zR e0 a5 m z1) ?_;refine zk rfl (zh (EK ?_));repeat apply za
  refine ze [] (zR f7 a5 m z2) ?_;generalize b7:Zv tab 65 0 sl=res;have e5:res<2^64:=b7 ▸ sU tab 65 0 sl EH;have b8:=Zvx c res e5 hc;generalize (qc c (yC res 0 64)).1=vv at b8 ⊢;refine zj (zC (λst:Nat × Nat × Int=>Zv tab st.1 st.2.1 st.2.2=res/\-1<=st.2.2/\st.2.2<st.1/\st.2.2<n/\st.2.1<2^64/\(0<=st.2.2->tab.getD st.2.2.toNat zs≠zs)) (λ(f,s,l)=>[(4,.ptr nx v0 0),(10,.ptr (nx+1) v1 0),(16,U s),(17,I l)]) (λ_=>[.cells v0 59 (yh c),.cells v1 326 ((jd tab zs).flatMap Enc.enc)]) (λst=>st.1) (65,0,sl) [] ⟨b7,e3,by dsimp only;omega,by dsimp only;omega,by show (0:Nat)<2^64;decide,e4⟩ EB EB ?_);rintro⟨f,s,l⟩ ⟨p1,p2,p3,p4,p5,p6⟩;simp only at p1 p2 p3 p4 p5 p6 ⊢;by_cases hl:l<0;have a6:¬0<=l:=EA;rw[ZvE tab f s hl]at p1;subst p1;repeat apply za
  refine ze [] a6 ?_;refine zk rfl (zx (EK ?_));refine zq b8 ?_;exact zg ⟨_,S,EC,⟨by simp[zp],rfl⟩,zV hd⟩;have a6:0<=l:=EA;obtain⟨i,rfl⟩:=Au a6;obtain⟨f,rfl⟩:∃g,f=g+1:=⟨f-1,by omega⟩;have p6:=p6 a6;rw[AJ]at p6;have hi:i<tab.length:=EA;obtain⟨e,a7,b1,-,-,f1,f0⟩:=el 3 rfl (jd tab zs) i EA;have he:tab.getD i zs=e:=by have:=dP tab zs i hi;rw[b1]at this;exact(Option.some.inj this).symm
  have d1:tab[i]?=some e:=by rw[<-he,List.getD_eq_getElem?_getD,Ac hi];rfl
  have g1:=f1 2 EA;have u:(i:Int)<65:=EA;have y2:1<=195-(i*3+2):=EA;rw[he]at p6;obtain q|⟨er,e6,g5,e7⟩:=a4 i e d1;exact absurd q p6;have g2:Zv tab f (jp s i) e.l=res:=by rw[<-p1];unfold Zv;rw[if_neg EA,AJ,he];cases f<;>rfl
  repeat apply za
  refine ze [] a6 ?_;refine zm rfl (zh (aA (zb ?_)));refine zq (rO s i p5) ?_;refine ze [] (zR g1 u m y2) ?_;exact zr (f,jp s i,e.l) [] ⟨g2,e6,by dsimp only;omega,by dsimp only;omega,dB _ _ p5,e7⟩ EB EB rfl EB
 generalize y8 c n cap fs d=tab at *;refine EK ?_;refine za (zm EF ?_);refine zh (aA (EK ?_));refine EK ?_;refine zj (zC (λj:Nat=>j<=d+1) (λj=>[(1,I n),(2,I cap),(3,pr),(4,.ptr nx v0 0),(10,.ptr (nx+1) v1 0),(11,I d),(12,I ((j:Int)-1)),(22,I (n+1:Nat)),(23,I d)]) (λj=>[.cells v0 59 (yh c),.cells v1 326 ((jd tab (jS c n cap fs tab d j)).flatMap Enc.enc)]) (λj=>d+1-j) 0 [] EB EB (by simp[jS]) ?_);rintro j hj;have p:=aL c n cap fs tab d j;have e8:=dO c n cap fs tab d j;have g3:jS c n cap fs tab d (d+1)=jS c n cap fs tab d (d+1):=rfl;by_cases g7:j<d+1;case neg =>
  obtain rfl:j=d+1:=EA;repeat apply za
  refine zb ?_;refine aE ?_;refine zx (zb ?_);exact zr (d+1) [] f5 EA (by simp[zu d EA]) rfl (by rw[d0,<-ZvC tab _ EA];simp)
 clear g3 d0;generalize jS c n cap fs tab d j=b at *;obtain⟨a,d2⟩:∃a:Int,a=(j:Int)-1:=⟨_,rfl⟩;rw[<-d2]at p ⊢;have a3:IntKind.i64.wrap (a+1)=((j+1:Nat):Int)-1:=by rw[wr _ EA EA];omega
 have m:=sS tab b EA;have y:(d:Int)<65:=EA;have d3:3<=195-d*3:=EA;have e9:1<=195-(d*3+1):=EA;have hr:=c7 a d EA EA;have f2:-4611686018427387904<=(yO c a d).1/\(yO c a d).1<=4611686018427387904:=by
  have h1:=hc.D;have h2:=hc.size;have h3:=hc.H;unfold yO;simp only;have hp:0<=c.D*((if a<0 then (d:Int) else d-a).toNat:Int)/\c.D*((if a<0 then (d:Int) else d-a).toNat:Int)<=2147483648*65 :=
   ⟨Bc h1.1 EA,Bm h1.2 (by split<;>omega) EA EA⟩
  generalize c.D*((if a<0 then (d:Int) else d-a).toNat:Int)=pp at hp ⊢;split<;>omega
 have hm:=c8 _ f2;have r:∀(k1:Int),k1=(if 0<=a then W ((yO c a d).2+(tab.getD a.toNat zs).k) else (yO c a d).2)->Yg c n cap fs tab d a=if d<n then W (k1+ZU fs d) else k1:=λk1 h=>by unfold Yg;rw[h]
 have z:YP c n cap tab d a=(¬(0<=a/\tab.getD a.toNat zs=zs)/\¬((yO c a d).1<0\/(d<n/\vU c (yO c a d).1 cap=0))):=rfl;have o:¬YP c n cap tab d a->jS c n cap fs tab d (j+1)=b:=λh=>by rw[p];unfold Jb;rw[if_neg h]
 have t:YP c n cap tab d a->jS c n cap fs tab d (j+1)=if b=zs\/Yg c n cap fs tab d a<b.k then ⟨true,Yg c n cap fs tab d a,a⟩ else b:=λh=>by rw[p];unfold Jb;rw[if_pos h]
 clear p;generalize yO c a d=rr at hr hm r z;obtain⟨th,he⟩:=rr;simp only at hr hm r z;generalize vU c th cap=mo at hm z;generalize YP c n cap tab d a=OK at z o t;generalize Yg c n cap fs tab d a=kk at r t;generalize w:jS c n cap fs tab d (j+1)=b' at o t;subst z;repeat apply za
 refine zb ?_;refine zm EF ?_;refine zh (aA (za (qT (nx:=nx) (σ:=Unit) (λ_=>¬(0<=a/\tab.getD a.toNat zs=zs)) (λ_=>[(1,I n),(2,I cap),(3,pr),(4,.ptr nx v0 0),(10,.ptr (nx+1) v1 0),(11,I d),(12,I a),(22,I (n+1:Nat)),(23,I d)]) (λ_=>S) (λ_=>[.cells v0 59 (yh c),.cells v1 326 ((jd tab b).flatMap Enc.enc)]) ?_ ?_)));by_cases hl:0<=a;obtain⟨i,hi⟩:=Au hl;have hit:i<tab.length:=EA;obtain⟨e,a7,b1,-,-,-,f0⟩:=el 3 rfl (jd tab b) i EA;have a0:tab.getD i zs=e:=by have:=dP tab b i hit;rw[b1]at this;exact(Option.some.inj this).symm
 have d1:tab[i]?=some e:=by rw[<-a0,List.getD_eq_getElem?_getD,Ac hit];rfl
 have u:(i:Int)<65:=EA;have y3:3<=195-i*3:=EA;have x:a.toNat=i:=EA;obtain q|⟨er,-,-,-⟩:=a4 i e d1;subst q;have d4:((jd tab b).flatMap Enc.enc).drop (i*3)=[B false,I 0,I 0]++a7:=f0;have a8:=o λh=>h.1 ⟨hl,by rw[x];exact a0⟩;subst a8;subst hi;refine aF [(2,33)] (yx hl d4 u m y3) ?_;refine zm rfl (zx (ze [] a3 ?_));exact zr (j+1) [] EA EA EB rfl (by simp[w]);obtain⟨r1,r2,r3⟩:=e;simp only at er;subst er;subst hi;refine aF [(2,33)] (yx hl f0 u m y3) ?_;exact zk rfl (zh (yb () [] (by rw[x,a0];rintro⟨-,q⟩;cases q) EB rfl EB));refine aF [(2,33)] (zn hl zE) ?_;exact zk rfl (zh (yb () [] (λq=>hl q.1) EB rfl EB));intro _ hA;refine EK ?_;refine zq hr ?_;refine za (qT (nx:=nx) (σ:=Unit) (λ_=>¬(th<0\/(d<n/\mo=0))) (λ_=>[(1,I n),(2,I cap),(3,pr),(4,.ptr nx v0 0),(10,.ptr (nx+1) v1 0),(11,I d),(12,I a),(14,I he),(22,I (n+1:Nat)),(23,I d)]) (λ_=>S) (λ_=>[.cells v0 59 (yh c),.cells v1 326 ((jd tab b).flatMap Enc.enc)]) ?_ ?_);by_cases h1:th<0;have a8:=o λh=>h.2 (.inl h1);subst a8;refine aF [(2,49),(6,53)] (zn h1 zE) ?_;refine zm rfl (zx (ze [] a3 ?_));exact zr (j+1) [] EA EA EB rfl (by simp[w]);by_cases h2:d<n;by_cases h3:mo=0;have a8:=o λh=>h.2 (.inr ⟨h2,h3⟩);subst a8;refine aF [(2,49),(6,53)] (zD h1 h2 h3) ?_;refine yP [(2,49),(6,53)] hm (zD h1 h2 h3) ?_;refine zm rfl (zx (ze [] a3 ?_));exact zr (j+1) [] EA EA EB rfl (by simp[w]);refine aF [(2,49),(6,53)] (zD h1 h2 h3) ?_;refine yP [(2,49),(6,53)] hm (zD h1 h2 h3) ?_;exact zk rfl (zh (yb () [] EA EB rfl EB));refine aF [(2,49),(6,53)] (zD h1 h2 zE) ?_;exact zk rfl (zh (yb () [] EA EB rfl EB));intro _ hB;have t:=t ⟨hA,hB⟩;clear o hm hr;refine EK ?_;intro v2;obtain⟨k1,a2⟩:∃k1,k1=(if 0<=a then W (he+(tab.getD a.toNat zs).k) else he):=⟨_,rfl⟩;have r:=r k1 a2;refine za (qT (nx:=nx) (σ:=Unit) (λ_=>True) (λ_=>[(1,I n),(2,I cap),(3,pr),(4,.ptr nx v0 0),(10,.ptr (nx+1) v1 0),(11,I d),(12,I a),(15,.ptr (nx+2) v2 0),(22,I (n+1:Nat)),(23,I d)]) (λ_=>S) (λ_=>[.cells v0 59 (yh c),.cells v1 326 ((jd tab b).flatMap Enc.enc),.cells v2 325 [B true,I k1,I a]]) ?_ ?_);refine EK ?_;by_cases hl:0<=a;rw[if_pos hl]at a2;obtain⟨i,hi⟩:=Au hl;have hit:i<tab.length:=EA;obtain⟨e,a7,b1,-,-,f1,f0⟩:=el 3 rfl (jd tab b) i EA;have a0:tab.getD i zs=e:=by have:=dP tab b i hit;rw[b1]at this;exact(Option.some.inj this).symm
 have a9:=f1 1 EA;have u:(i:Int)<65:=EA;have y1:1<=195-(i*3+1):=EA;have x:a.toNat=i:=EA;rw[x,a0]at a2;subst hi;refine aD ?_;refine zA (some [nx+1]) (Row.pures [0,2,3,4,5] (.alt 1 (Row.pures [6,7] (.alt 8 (.done) .stop)) .stop)) mixed (zR a9 u m y1) ?_;exact yb () [] trivial EB rfl (by simp[a2]);rw[if_neg hl]at a2;refine zk EF ?_;exact zh (yb () [] trivial EB rfl (by simp[a2]));intro _ _;clear a2;refine za (qT (nx:=nx) (σ:=Unit) (λ_=>True) (λ_=>[(1,I n),(2,I cap),(3,pr),(4,.ptr nx v0 0),(10,.ptr (nx+1) v1 0),(11,I d),(12,I a),(15,.ptr (nx+2) v2 0),(22,I (n+1:Nat)),(23,I d)]) (λ_=>S) (λ_=>[.cells v0 59 (yh c),.cells v1 326 ((jd tab b).flatMap Enc.enc),.cells v2 325 [B true,I kk,I a]]) ?_ ?_);refine EK ?_;by_cases h2:d<n;rw[if_pos h2]at r;refine zm (by simp[h2]) ?_;refine zA (some [nx+1]) (Row.pures [0,2,3] (.alt 1 (.alt 4 RX .stop) (.alt 4 (.alt 1 RX .stop) .stop))) mixed trivial ?_;refine⟨?_,?_⟩;refine(((d9 _ (hR.ext hd _) _).mono ?_).v);rintro _ _ ⟨rfl,rfl⟩;refine⟨by simp[yY],xl trivial ?_⟩;exact yb () [] trivial EB rfl (by simp[r]);refine(((d9 _ (hR.ext hd _) _).mono ?_).v);rintro _ _ ⟨rfl,rfl⟩;refine⟨by simp[yY],xl trivial ?_⟩;exact yb () [] trivial EB rfl (by simp[r]);rw[if_neg h2]at r;refine zk EF ?_;exact zh (yb () [] trivial EB rfl (by simp[r]));intro _ _;clear r;obtain⟨e,a7,b1,-,-,f1,f0⟩:=el 3 rfl (jd tab b) d EA;have a0:b=e:=by have:=ZvA tab b;rw[e2,b1]at this;exact(Option.some.inj this).symm
 subst a0;have a9:=f1 1 EA;have d5:=ZvD 3 rfl (jd tab b) d ⟨true,kk,a⟩ EA;have d6:=ZvB tab b ⟨true,kk,a⟩;rw[e2]at d6;rw[d6]at d5;have c6:yl ((jd tab b).flatMap Enc.enc) (d*3) [B true,I kk,I a]=(jd tab ⟨true,kk,a⟩).flatMap Enc.enc:=d5;clear d5 d6;have f3:((jd tab b).flatMap Enc.enc:List PV).length=195:=by rw[Zvy,m]
 obtain q|⟨f4,-,-,-⟩:=e8;subst q;rw[if_pos (.inl rfl)]at t;subst t;have d4:((jd tab zs).flatMap Enc.enc).drop (d*3)=[B false,I 0,I 0]++a7:=f0;refine aG none R8 mixed (yx d4 y m d3 zE) ?_;refine zm rfl (ze [] (zR y f3 c6 m) ?_);refine⟨by omega,?_⟩;refine ze [] a3 ?_;exact zr (j+1) [_] EA EA EB rfl (by simp[w];rfl);obtain⟨r1,r2,r3⟩:=b;simp only at f4;subst f4;have g4:¬((⟨true,r2,r3⟩:Stp)=zs):=λe=>by cases e
 by_cases x:kk<r2;rw[if_pos (.inr x)]at t;subst t;refine aG none R8 mixed (zU f0 a9 y m d3 (zn e9 x)) ?_;refine zm rfl (ze [] (zR y f3 c6 m) ?_);refine⟨by omega,?_⟩;refine ze [] a3 ?_;exact zr (j+1) [_] EA EA EB rfl (by simp[w];rfl);rw[if_neg (by rintro(q|q);exact g4 q;exact x q)]at t;subst t;refine aG none R8 mixed (zU f0 a9 y m d3 (zn e9 x)) ?_;refine zk rfl (zh (ze [] a3 ?_));exact zr (j+1) [_] EA EA EB rfl (by simp[w];rfl)
section
variable {P:Program} {r:Rd} {n N:Nat} {Q:Exit->(Nat->PV)->Store->Prop} {F:Nat->PV} {c:Code}
def ZvG{obs:List Ob}(j:Nat){ver e:Nat}{cs:List PV}(d:obs[j]?=some (.cells ver e cs)){id v:Nat}{ds:List PV}(f:id<nx)(hs:S id=.cells v k ds)
  (h:PW P r n N c Q F (ext (S.set id (.cells v k (ds.map (qz (nx+j) ver cs)))) nx (obs.set j .dead))):PW P r n N c Q F (ext S nx obs):=by
 have a:j<obs.length:=(Ad.1 d).1;refine Ue (id:=nx+j) (ver:=ver) (e:=e) (cs:=cs) (G:=F) (by rw[zS,List.getD_eq_getElem?_getD,d];rfl) (by rw[zS,List.getD_eq_getElem?_getD,A9 a];rfl) (λo=>?_) (λ_=>.inl rfl) h;by_cases ho:o<nx;rw[zG ho,zG ho];by_cases b:o=id;subst b;rw[q11,hs];exact .inr (.inr rfl);rw[q10 _ _ _ _ b];exact .inr (.inl rfl);simp only[ext];rw[if_neg ho,if_neg ho,List.getD_eq_getElem?_getD,List.getD_eq_getElem?_getD,BG];split;simp[a];exact .inr (.inl rfl)
def dQ{T:Store}{a:Nat}{obs:List Ob}(b:yd nx S)(c:nx<=a)(h:∀o,o<nx->T o=S o)(o:Nat):S o=ext T a obs o\/S o=.dead:=by by_cases ho:o<nx;rw[zG EA,h o ho];exact .inl rfl;exact .inr (b o EA)
end
def YR(x:Inst)(sol:Cust->List Int->List Visit × Bool)(b:Int)(n:Nat):Nat->List (List Int)->zy × Int
 |0,_=>([],15)
 |k+1,pr =>
  if (jr x sol pr).2≠0 then ([],15)
  else if xq (j7 x (jr x sol pr).1 b n)=0 then (vn x (jr x sol pr).1 b n,0)
  else if (j7 x (jr x sol pr).1 b n).any Qu=true then ([],15)
  else YR x sol b n k (Vb (j7 x (jr x sol pr).1 b n) pr n)
def aM(x:Inst)(sol:Cust->List Int->List Visit × Bool)(b:Int)(n:Nat):zy × Int:=YR x sol b n 8 (xD x n 0)
def sV(x:Inst)(n:Nat)(sol:Cust->List Int->List Visit × Bool):Prop:=∀pr,Ye x.y.length n pr->(jr x sol pr).2=0->VsOk x.y.length n (jr x sol pr).1
def ZvH{m:Cust->List Int->List Visit × Bool}(hx:InstH x)(hn:x.days=n)(a5:n<=1000)(hs:iN x n m)(hv:sV x n m)(hb:b<=9223372036854775807):
  PP 147 [.agg (zB x),I b] (.tup [.agg [L (aM x m b n).1],I (aM x m b n).2]):=by
 have hm:=hx.y;unfold aM;have b7:=sG x n;refine zt func147 ntmps147 results147 λS nx hd=>?_;refine EK ?_;intro v0 v1;refine aG (some [nx]) (Row.pures [0,1,2,3,4] (.alt 5 (Row.pures [6] (.alt 7 U6 .stop)) .stop)) mixed trivial ?_;refine⟨by omega,?_⟩;intro z v3;rw[Um];refine Ug (α:=Int) (nx+2) z 26 (nx+4) 3 1 x.y.length EB (xM (obs:=[_,_,_,_])) λT ws hR hT g=>?_;have hT0:T nx=.cells v0 25 (zB x):=by rw[hT nx EA EA];simp
 have hT1:T (nx+1)=.cells v1 31 [.sc (.slice none 0 0)]:=by rw[hT (nx+1) EA EA];simp
 have hT3:T (nx+3)=.cells v3 255 (wL x (.sc (.slice none 0 0)) b (.sc (.slice none 0 0)) (.sc (.slice none 0 0)) (.sl (nx+2) z 1 0 x.y.length)):=by rw[hT (nx+3) EA EA];simp
 have q:∀o,o<nx->T o=S o:=λo ho=>by rw[hT o EA EA,zG ho]
 clear hT;obtain⟨d,d0⟩:∃d,d=nx+4+x.y.length:=⟨_,rfl⟩;rw[<-d0]at g;rw[show List.replicate x.y.length ([]:List Int)=xD x 0 0 from (Bg λj=>by by_cases h:j<x.y.length;simp[xD,h];rw[Ao EF,Ao (by rw[XX];omega)])]at hR;rw[<-jm g];refine za (xZ [] EG EG λK Gc Gh u c f X a p=>?_);simp -implicitDefEqProofs [a,p];try clear a p X
 refine c _ _ _ _ _ _ _ λr=>(Spec.mono (sD (nx:=d) (by rw[jm g];exact g) x _ _ _ _ _ _ _ n hn a5 (by rw[jm g];exact hT3)
  (λk T'=>(∃w,RowsAt T' (nx+2) z 26 (nx+4) 3 1 w (xD x k 0))/\(∀o,o≠nx+2->(o<nx+4\/nx+4+x.y.length<=o)->T' o=T o)) ⟨⟨ws,by rw[jm g];exact hR⟩,λo _ _=>by rw[jm g]⟩
  (λk T' h o ho=>by rw[h.2 o EA (.inr EA)];exact g o ho) (λk hk T' h=>?_)) ?_).v
 obtain⟨⟨w,h1⟩,h2⟩:=h;refine(Uq k hm EA EA EA ((h2 (nx+3) EA (.inl EA)).trans hT3) h1).mono ?_;rintro _ T2 ⟨g1,g2⟩;exact⟨g1,λo o1 o2=>(g2 o o1 o2).trans (h2 o o1 o2)⟩;rintro _ T' ⟨⟨w,b8⟩,y⟩;have a0:yd d T':=λo ho=>by rw[y o EA (.inr EA)];exact g o ho
 refine⟨T',[],(jm a0).symm,?_⟩;clear c f;clear Gc Gh;refine w8 r (D:=[]) EG λGc Gh c f X a p=>?_;simp -implicitDefEqProofs [a,p];clear a p X;refine u _ _ _ ?_;clear u c f;clear K Gc Gh;replace hT0:=(y nx EA (.inl EA)).trans hT0;replace hT1:=(y (nx+1) EA (.inl EA)).trans hT1;replace hT3:=(y (nx+3) EA (.inl EA)).trans hT3;replace q:∀o,o<nx->T' o=S o:=λo ho=>(y o EA (.inl EA)).trans (q o ho);clear y hR g;generalize xD x n 0=pr0 at *
 repeat apply za
 refine zb ?_;refine zj (xk (σ:=Nat × Store × List (List Int)) (λs=>s.1<=8/\Ye x.y.length n s.2.2/\YR x m b n 8 pr0=YR x m b n (8-s.1) s.2.2/\(∃w,RowsAt s.2.1 (nx+2) z 26 (nx+4) 3 1 w s.2.2)/\s.2.1 nx=.cells v0 25 (zB x)/\s.2.1 (nx+1)=.cells v1 31 [.sc (.slice none 0 0)] /\
  (∃vP pP fP,s.2.1 (nx+3)=.cells v3 255 (wL x vP b pP fP (.sl (nx+2) z 1 0 x.y.length)))/\(∀o,o<nx->s.2.1 o=S o)/\yd d s.2.1)
  (λs=>[(2,.ptr nx v0 0),(4,.ptr (nx+1) v1 0),(6,.ptr (nx+3) v3 0),(21,I s.1)]) (λs=>s.2.1) (λ_=>[]) (λs=>8-s.1) (yb (0,T',pr0) [] ⟨by simp,b7,rfl,⟨w,b8⟩,hT0,hT1,⟨_,_,_,hT3⟩,q,a0⟩ EB rfl EB) ?_)
 clear b8 hT0 hT1 hT3 q a0 b7 T';rintro⟨k,T,pr⟩ ⟨hk,hP,l,⟨ws,hR⟩,hT0,hT1,⟨vP,pP,fP,hT3⟩,q,g⟩;simp only at hk hP l hR hT0 hT1 hT3 q g ⊢;have x0:=λobs=>(zG (S:=T) (nx:=d) (obs:=obs) (i:=nx) EA).trans hT0;have x3:=λobs=>(zG (S:=T) (nx:=d) (obs:=obs) (i:=nx+3) EA).trans hT3;have g1:¬d<=nx+1:=EA;have x1:=λobs=>(zG (S:=T) (nx:=d) (obs:=obs) (i:=nx+1) EA).trans hT1;refine EK ?_;refine za (zv rfl (λhc=>?_) (λhc=>?_))
 .simp at hc;rw[show 8-k=(7-k)+1 from by omega]at l;have a1:=hv pr hP;have a7:=UA (S:=T) hm hP hR hs;rw[show YR x m b n (7-k+1) pr=(if (jr x m pr).2≠0 then ([],15) else if xq (j7 x (jr x m pr).1 b n)=0 then (vn x (jr x m pr).1 b n,0) else if (j7 x (jr x m pr).1 b n).any Qu=true then ([],15) else YR x m b n (7-k) (Vb (j7 x (jr x m pr).1 b n) pr n)) from rfl]at l;generalize jr x m pr=cz at l a1 a7;obtain⟨v,e⟩:=cz;simp only at l a1 a7;refine zh (aA (za (Kt none (Row.pures [0,1,2,3,4] (.alt 5 (Row.pures [6,7,8,9,10] .done) .stop)) mixed EG EG EG λK Gp Gc Gh u a8 c f X a a2 a3 p=>?_)));simp -implicitDefEqProofs [a,a2,a3,p,x0,x3];try clear a a2 a3 p X
  refine c _ _ _ _ _ _ _ (Spec.mono (by rw[jm g];exact a7) ?_).v;rintro _ S2 ⟨rfl,c6⟩;have d1:S2=ext T d []:=c6.trans (jm g).symm;subst d1;clear c6;refine⟨by simp[yY],?_⟩;clear a8 c f;clear Gp Gc Gh;refine mQ λGp Gc Gh a8 c f X a a2 a3 p=>?_;simp -implicitDefEqProofs [a,a2,a3,p];try clear a a2 a3 p X
  refine u _ _ _ ?_;clear u a8 c f;clear K Gp Gc Gh;repeat apply za
  refine zb ?_;by_cases he:e=0;case neg =>
   rw[if_pos he]at l;rw[l];refine zm (by simp[he]) ?_;refine aF [] (zD x0 x1 g1) ?_;show PW _ _ _ _ _ _ _ (ext _ _ _);refine cS (o:=nx+1) 0 (by rw[zG EA];first|exact q11 _ _ _|exact hT1) rfl ?_;rw[qE _ EA];try rw[Store.set_set]
   refine zg ⟨_,S,(by simp[zG (show nx+1<d from by omega),q11];rfl),⟨by simp[zp],rfl⟩,?_⟩;exact dQ hd EA λo ho=>by rw[q10 _ _ _ _ EA];exact q o ho
  rw[if_neg (by simpa using he)]at l;have a1:=a1 he;refine zk (by simp[he]) ?_;refine zh ?_;repeat apply za
  refine xZ [] EG EG λK Gc Gh u c f X a p=>?_;simp -implicitDefEqProofs [a,p];try clear a p X
  refine c _ _ _ _ _ _ _ λr=>(Spec.mono (Ul (nx:=d) (n:=n) (by rw[jm g];exact g) (by rw[jm g];exact hT3) hx hn a5 a1 hb) ?_).v;rintro _ _ ⟨rfl,vD,vF,rfl⟩;rw[jm g];refine⟨_,_,rfl,?_⟩;clear c f;clear Gc Gh;refine w8 r (D:=[]) EG λGc Gh c f X a p=>?_;simp -implicitDefEqProofs [a,p];clear a p X;refine u _ _ _ ?_;clear u c f;clear K Gc Gh;have d2:=sv x v b n;have d5:=iH x v b n;generalize j7 x v b n=fs at *;generalize vn x v b n=pl at *
  by_cases hf:xq fs=0;rw[if_pos hf]at l;rw[l];refine zm (by simp[hf]) ?_;show PW _ _ _ _ _ _ _ (ext _ _ _);refine ZvG 0 (id:=nx+3) rfl EA (q11 _ _ _) ?_;rw[Store.set_set];have d3:([I x.days,I x.X,I x.Q,I x.len,L x.y,L x.O,L v,I b,.sl d vD 1 0 pl.length,.sl (d+1) vF 1 0 fs.length,.sl (nx+2) z 1 0 x.y.length]:List PV).map (qz (d+0) vD (pl.flatMap Enc.enc))=wL x (L v) b (L pl) (.sl (d+1) vF 1 0 fs.length) (.sl (nx+2) z 1 0 x.y.length):=by simp[qz];omega
  rw[d3];have y3:=λ(o:Ob) obs=>(zG (S:=T.set (nx+3) o) (nx:=d) (obs:=obs) (i:=nx+3) EA).trans (q11 _ _ _);have y1:=λ(o:Ob) obs=>(zG (S:=T.set (nx+3) o) (nx:=d) (obs:=obs) (i:=nx+1) EA).trans ((q10 _ _ _ _ EA).trans hT1);refine aF [] (zD y3 y1 g1) ?_;refine zg ⟨_,S,(by simp[zG (show nx+1<d from by omega),q11];rfl),⟨by simp[zp],rfl⟩,?_⟩;exact dQ hd EA λo ho=>by rw[q10 _ _ _ _ EA,q10 _ _ _ _ EA];exact q o ho
  rw[if_neg hf]at l;refine zk (by simp[hf]) ?_;refine zh ?_;have y3:=λ(o:Ob) obs=>(zG (S:=T.set (nx+3) o) (nx:=d) (obs:=obs) (i:=nx+3) EA).trans (q11 _ _ _);have y1:=λ(o:Ob) obs=>(zG (S:=T.set (nx+3) o) (nx:=d) (obs:=obs) (i:=nx+1) EA).trans ((q10 _ _ _ _ EA).trans hT1);repeat apply za
  refine xZ [] EG EG λK Gc Gh u c f X a p=>?_;simp -implicitDefEqProofs [a,p,y3];try clear a p X
  refine c _ _ _ _ _ _ _ λr=>((Uy (idF:=d+1) (vF:=vF) fs (by rw[zS];rfl) EA).mono ?_).v;rintro _ _ ⟨rfl,rfl⟩;refine⟨_,_,rfl,?_⟩;clear c f;clear Gc Gh;refine w8 r (D:=[]) EG λGc Gh c f X a p=>?_;simp -implicitDefEqProofs [a,p];clear a p X;refine u _ _ _ ?_;clear u c f;clear K Gc Gh;cases a6:fs.any Qu with
  |true =>
  rw[if_pos a6]at l;rw[l];refine zm rfl (aF [] (zn y1 g1) ?_);show PW _ _ _ _ _ _ _ (ext _ _ _);refine cS (o:=nx+1) 0 (by rw[zG EA];first|exact q11 _ _ _|exact(q10 _ _ _ _ EA).trans hT1) rfl ?_;rw[qE _ EA];try rw[Store.set_set]
  refine zg ⟨_,S,(by simp[zG (show nx+1<d from by omega),q11];rfl),⟨by simp[zp],rfl⟩,?_⟩;exact dQ hd EA λo ho=>by rw[q10 _ _ _ _ EA,q10 _ _ _ _ EA];exact q o ho
  |false =>
  rw[if_neg (by rw[a6];decide)]at l;refine zk rfl (zh ?_);generalize a4:ext (T.set (nx+3) (.cells v3 255 (wL x (L v) b (.sl d vD 1 0 pl.length) (.sl (d+1) vF 1 0 fs.length) (.sl (nx+2) z 1 0 x.y.length)))) d [.cells vD 96 (pl.flatMap Enc.enc),.cells vF 49 (fs.flatMap Enc.enc)]=T2;have q3:T2 (nx+3)=.cells v3 255 (wL x (L v) b (.sl d vD 1 0 pl.length) (.sl (d+1) vF 1 0 fs.length) (.sl (nx+2) z 1 0 x.y.length)):=by rw[<-a4,zG EA,q11]
  have qF:T2 (d+1)=.cells vF 49 (fs.flatMap Enc.enc):=by rw[<-a4,zS];rfl
  have qo:∀o,o<d->o≠nx+3->T2 o=T o:=λo h1 h2=>by rw[<-a4,zG h1,q10 _ _ _ _ h2]
  have qd:yd (d+2) T2:=by rw[<-a4];exact xM (obs:=[_,_])
  have qR:RowsAt T2 (nx+2) z 26 (nx+4) 3 1 ws pr:=hR.other λo ho=>by rw[hP.1]at ho;exact qo o EA EA
  clear a4;rw[<-jm qd];refine xZ [] EG EG λK Gc Gh u c f X a p=>?_;simp -implicitDefEqProofs [a,p];try clear a p X
  refine c _ _ _ _ _ _ _ λr=>(Spec.mono (sD (nx:=d+2) (by rw[jm qd];exact qd) x _ _ _ _ _ _ _ n hn a5 (by rw[jm qd];exact q3)
   (λk T'=>RowsAt T' (nx+2) z 26 (nx+4) 3 1 ws (Vb fs pr k)/\(∀o,(o<nx+4\/nx+4+x.y.length<=o)->T' o=T2 o)) ⟨by rw[jm qd];exact qR,λo _=>by rw[jm qd]⟩
   (λk T' h o ho=>by rw[h.2 o (.inr EA)];exact qd o ho) (λj hj T' h=>?_)) ?_).v
  obtain⟨h1,h2⟩:=h;refine(Uv (n:=n) j hm a5 hj EA EA ((h2 (d+1) (.inr EA)).trans qF) d2 ((h2 (nx+3) (.inl EA)).trans q3) (aH fs hP j) h1).mono ?_;rintro _ T3 ⟨r1,r2⟩;exact⟨r1,λo o1=>(r2 o o1).trans (h2 o o1)⟩;rintro _ T3 ⟨d4,t⟩;have c7:yd (d+2) T3:=λo ho=>by rw[t o (.inr EA)];exact qd o ho
  refine⟨T3,[],(jm c7).symm,?_⟩;clear c f;clear Gc Gh;refine w8 r (D:=[]) EG λGc Gh c f X a p=>?_;simp -implicitDefEqProofs [a,p];clear a p X;refine u _ _ _ ?_;clear u c f;clear K Gc Gh;rw[jm c7];refine WD (T':=λo=>if o<d then T3 o else .dead) (λo=>by by_cases ho:o<d<;>simp[ho]) ?_;generalize a9:(λo=>if o<d then T3 o else Ob.dead)=T4;have q4:∀o,o<d->T4 o=T3 o:=λo ho=>by rw[<-a9];simp[ho]
  have c8:yd d T4:=λo ho=>by rw[<-a9];simp;omega
  clear a9;rw[<-jm c8];refine zb ?_;refine zr (k+1,T4,Vb fs pr n) [] ⟨by dsimp only;omega,aH fs hP n,by rw[l,show 8-(k+1)=7-k from by omega],⟨ws,d4.other λo ho=>q4 o (by rw[(aH fs hP n).1]at ho;omega)⟩,?_,?_,⟨L v,.sl d vD 1 0 pl.length,.sl (d+1) vF 1 0 fs.length,?_⟩,λo ho=>?_,c8⟩ EF (by simp[zu k EA]) rfl EB;dsimp only;rw[q4 _ EA,t _ (.inl EA),qo _ EA EA];exact hT0;dsimp only;rw[q4 _ EA,t _ (.inl EA),qo _ EA EA];exact hT1;dsimp only;rw[q4 _ EA,t _ (.inl EA)];exact q3;dsimp only;rw[q4 _ EA,t _ (.inl EA),qo _ EA EA];exact q o ho
 simp at hc;obtain rfl:k=8:=EA;rw[l];refine zx (aF [] (zn x1 g1) ?_);show PW _ _ _ _ _ _ _ (ext _ _ _);refine cS (o:=nx+1) 0 (by rw[zG EA];first|exact q11 _ _ _|exact hT1) rfl ?_;rw[qE _ EA];try rw[Store.set_set]
 refine zg ⟨_,S,(by simp[zG (show nx+1<d from by omega),q11];rfl),⟨by simp[zp,YR],rfl⟩,?_⟩;exact dQ hd EA λo ho=>by rw[q10 _ _ _ _ EA];exact q o ho
def js:List Int->Int
 |[]=>-1
 |d::ds=>(d::ds).getLast EB
theorem YS(ds:List Int)(d:Int):js (ds++[d])=d:=by
 cases ds with
 |nil=>rfl
 |cons a ds=>show (a::(ds++[d])).getLast _=d;grind
def sW(c:Cust)(cap:Int)(last d:Int):Prop:=0<=(yO c last d).1/\vU c (yO c last d).1 cap≠0
inductive FilS (c:Cust) (cap:Int) (n:Nat):List Int->Prop where
 |nil:FilS c cap n []
 |snoc {ds:List Int} {d:Int} (h:FilS c cap n ds) (h1:js ds<d) (h2:d<n) (h3:sW c cap (js ds) d):FilS c cap n (ds++[d])
variable {ds:List Int}
theorem FilS.lo{c:Cust}(h:FilS c cap n ds):-1<=js ds/\(∀d∈ds,0<=d/\d<n/\d<=js ds):=by
 induction h with
 |nil=>exact⟨by decide,by simp⟩
 |snoc h h1 h2 h3 a =>
 grind[YS]
theorem FilS.inc{c:Cust}(h:FilS c cap n ds):ds.Pairwise (· < ·):=by
 induction h with
 |nil=>simp
 |snoc h h1 h2 h3 d =>
 rw[List.pairwise_append];refine⟨d,by simp,λa e b hb=>?_⟩;rw[A5.1 hb];have:=h.lo.2 a e;omega
def sX(c:Cust)(ds:List Int):(qc c ds).2=js ds:=by obtain rfl|⟨l,d,rfl⟩:=Ed ds;rfl;rw[List.concat_eq_append,aK,YS];rfl
def dR(c:Cust):∀ds:List Int,(qc c ds).1.map (·.d)=ds:=by
 have:∀(ds:List Int) (st:List Visit × Int),(ds.foldl (Qx c) st).1.map (·.d)=st.1.map (·.d)++ds:=by
  intro ds;induction ds with
  |nil=>intro st;simp
  |cons d ds a=>intro st;rw[A6,a];simp[Qx]
 simp_all[qc]
def sY{c:Cust}(hc:CustFits c){d:Int}(h:sW c cap a d):W (c.size-(yO c a d).1)=c.size-(yO c a d).1/\1<=c.size-(yO c a d).1/\c.size-(yO c a d).1<=2147483648/\(c.Y=1->c.size-(yO c a d).1<=cap):=by obtain⟨h1,h2⟩:=h;have hs:=hc.size;grind[vU,wr]
def sZ{c:Cust}(hc:CustFits c)(hn:n<=60)(h:FilS c cap n ds):GoodV n (qc c ds).1:=by
 have a:ds.length<=64:=by have h1:=sM (m:=n) ds (h.inc.imp λh=>Dk h) (λd b=>by have:=h.lo.2 d b;omega);omega
 refine⟨by simp_all[kf],?_,by rw[dR];exact h.inc.imp λh=>Dk h⟩;induction h with
 |nil=>intro s hs;cases hs
 |@snoc ds d h h1 h2 h3 e =>
 intro s hs;rw[aK]at hs;simp only[Qx]at hs;obtain hs|hs:=AB.1 hs;grind;rw[A5.1 hs];rw[sX];obtain⟨f,g,i,-⟩:=sY hc h3;have:=h.lo.1;grind
def u5(tab:List Stp):Nat->Int->List Int
 |0,_=>[]
 |f+1,d=>if d<0 then [] else d::u5 tab f (tab.getD d.toNat zs).l
def dS(c:Cust)(n:Nat)(cap:Int)(tab:List Stp):Prop:=∀(d:Nat) (e:Stp),tab[d]?=some e->e≠zs->-1<=e.l/\e.l<d/\(0<=e.l->tab.getD e.l.toNat zs≠zs)/\0<=(yO c e.l d).1/\(d<n->vU c (yO c e.l d).1 cap≠0)
theorem aN(c:Cust)(n:Nat)(cap:Int)(price:List Int):∀k,dS c n cap (y8 c n cap price k)
 |0=>by intro d e h;cases h
 |k+1=>by have f:=aN c n cap price k;have hl:=XZ c n cap price k;have g:=dO c n cap price (y8 c n cap price k) k (k+1);have a:=kh c n cap price (k+1);intro d e h b;have a:=a d e h;simp only[y8]at h a ⊢;obtain q|⟨-,i,j,l⟩:=a;simp_all;refine⟨i,j,l,?_⟩;by_cases o:d<k;rw[As EA]at h;exact(f d e h b).2.2.2;rw[Am EA,hl]at h;obtain rfl:d=k:=EI;rw[Bs]at h;simp only[Bp,Option.some.injEq]at h;subst h;obtain q|⟨-,-,-,m⟩:=g;simp_all;have:=m.2;omega
theorem aO{c:Cust}{a:List Stp}(h:dS c n cap a):∀(f:Nat) (d:Int),-1<=d->d<f->d<n->(0<=d->a.getD d.toNat zs≠zs)->FilS c cap n (u5 a f d).reverse/\js (u5 a f d).reverse=d
 |0,d,h1,h2,_,_=>by obtain rfl:d=-1:=EA;exact⟨.nil,rfl⟩
 |f+1,d,h1,h2,h3,b=>by
  unfold u5;by_cases k:d<0;rw[if_pos k];obtain rfl:d=-1:=EA;exact⟨.nil,rfl⟩;rw[if_neg k,CC];have b:=b EA;obtain⟨i,rfl⟩:=Au (show 0<=d by omega);rw[AJ]at b ⊢;have m:∃e,a[i]?=some e/\a.getD i zs=e:=by
   cases r:a[i]? with
   |none=>simp_all
   |some e=>simp_all
  obtain⟨e,g,j⟩:=m;rw[j]at b ⊢;obtain⟨g1,s,g3,g4,o⟩:=h i e g b;obtain⟨p,q⟩:=aO h f e.l g1 EA EA g3;exact⟨.snoc p EA h3 (by rw[q];exact⟨g4,o EA⟩),YS _ _⟩
def ZvI(s:Nat)(d i:Nat)(a:d<64):yU (jp s d) i=1<->yU s i=1\/i=d:=by
 have h:((jp s d).testBit i)=(s.testBit i||decide (d=i)):=by unfold jp;rw[if_pos EA,AJ,DJ,CV]
 grind[yU]
theorem tc{c:Cust}{a:List Stp}(h:dS c n cap a)(hn:n<=60):∀(f s:Nat) (d:Int),-1<=d->d<n->(0<=d->a.getD d.toNat zs≠zs)->∀i:Nat,yU (Zv a f s d) i=1<->yU s i=1\/(i:Int)∈u5 a f d
 |0,s,d,_,_,_=>λi=>by simp[Zv,u5]
 |f+1,s,d,h1,h3,b=>λi=>by
  unfold Zv u5;by_cases m:d<0;simp_all;rw[if_neg m,if_neg m];have b:=b EA;obtain⟨k,rfl⟩:=Au (show 0<=d by omega);rw[AJ]at b ⊢;have o:∃e,a[k]?=some e/\a.getD k zs=e:=by
   cases p:a[k]? with
   |none=>simp_all
   |some e=>simp_all
  obtain⟨e,g,j⟩:=o;rw[j]at b ⊢;obtain⟨g1,q,g3,-⟩:=h k e g b;rw[tc h hn f _ e.l g1 EA g3 i,ZvI s k i EA,Al,Int.natCast_inj,or_assoc]
def te:∀{a b:List Int},a.Pairwise (· < ·)->b.Pairwise (· < ·)->(∀z,z∈a<->z∈b)->a=b:=by intro a b c hb h;have d:a.Perm b:=(DB (c.imp λh=>Dk h) (hb.imp λh=>Dk h)).2 h;exact pC d (c.imp λh=>Eo h) (hb.imp λh=>Eo h)
def tg(s a k:Nat):(yC s a k).Pairwise (· < ·):=by unfold yC;rw[Dc];have h:(List.range k).Pairwise (· < ·):=List.pairwise_lt_range;exact(h.sublist List.filter_sublist).imp λh=>by omega
theorem ti{c:Cust}{a:List Stp}(h:dS c n cap a)(hn:n<=60){d:Int}(h1:-1<=d)(h3:d<n)(b:0<=d->a.getD d.toNat zs≠zs):yC (Zv a 65 0 d) 0 64=(u5 a 65 d).reverse:=by
 obtain⟨hf,-⟩:=aO h 65 d h1 EA h3 b;refine te (tg _ _ _) hf.inc λz=>?_;have hb:=tc h hn 65 0 d h1 h3 b;have h0:∀i,¬yU 0 i=1:=by intro i;simp[yU]
 rw[List.mem_reverse];constructor;grind[Qv];intro e;have f:=hf.lo.2 z (List.mem_reverse.2 e);grind[Int.eq_ofNat_of_zero_le,yC]
def ZvJ{c:Cust}(hn:n<=60)(h:(uZ c n cap q).2=true):∃ds,FilS c cap n ds/\0<=(yO c (js ds) n).1/\(uZ c n cap q).1=(qc c ds).1:=by have b:=aN c n cap q (n+1);have hl:=XZ c n cap q (n+1);unfold uZ at h ⊢;generalize y8 c n cap q (n+1)=tab at *;split at h;cases h;rename_i a;rw[if_neg a];have g:∃e,tab[n]?=some e/\tab.getD n zs=e:=⟨_,Ac EA,by rw[List.getD_eq_getElem?_getD,Ac EA];rfl⟩;obtain⟨e,d,f⟩:=g;rw[f]at a ⊢;obtain⟨g1,i,g3,g4,-⟩:=b n e d a;grind[aO,ti]
def qJ(n:Nat)(cap:Int)(c:Cust)(price:List Int):List Visit × Bool :=
 if c.kind=1 then uY c cap price else if c.Y=1 then uZ c n cap price else XY c n cap price
def ki(c:Cust)(n:Nat)(cap:Int)(b:RowOf S f fs)(j:∀z∈fs,zL z)(h:fs.length<=1000)(hm:CustMade c n)(i:c.J.length<=1000)(hn:n<=60):
  SP 224 [.agg (yh c),I n,I cap,f] S (λq S'=>q=.tup [L (qJ n cap c fs).1,B (qJ n cap c fs).2]/\S'=S):=by
 unfold qJ;by_cases d:c.kind=1;rw[if_pos d];exact UU c n cap d b j h i hm.J;rw[if_neg d];by_cases g:c.Y=1;rw[if_pos g];have hs:=λS (b:RowOf S f fs)=>ZvF c n cap b hm.Z hn;generalize uZ c n cap fs=r at *;obtain⟨v,ok⟩:=r;simp only at hs ⊢;refine yr func224 ntmps224 results224 λnx e=>?_;refine EK ?_;intro v0;refine aA (aF [] d ?_);refine aE ?_;refine aF [] g ?_;refine aD ?_;refine EK ?_;refine λa=>((hs _ (b.ext e _)).mono ?_).v;rintro _ _ ⟨rfl,rfl⟩;refine⟨_,_,rfl,zO a ?_⟩;exact zg ⟨_,S,EC,⟨by simp,rfl⟩,zV e⟩;rw[if_neg g];have hs:=λS (b:RowOf S f fs)=>Zvw c n cap b hm.Z EA;generalize XY c n cap fs=r at *;obtain⟨v,ok⟩:=r;simp only at hs ⊢;refine yr func224 ntmps224 results224 λnx e=>?_;refine EK ?_;intro v0;refine aA (aF [] d ?_);refine aE ?_;refine aF [] g ?_;refine aC (EK ?_);refine λa=>((hs _ (b.ext e _)).mono ?_).v;rintro _ _ ⟨rfl,rfl⟩;refine⟨_,_,rfl,zO a ?_⟩;exact zg ⟨_,S,EC,⟨by simp,rfl⟩,zV e⟩
theorem tj{c:Cust}(hm:CustMade c n)(a:c.kind=1){p:Nat}(b:p∈c.J):GoodV n (Qq c p):=by obtain⟨h1,h2⟩:=hm.per a;refine⟨by simp only[Qq,List.length_map];exact XV _ _ _,λs hs=>?_,by simp only[Qq,B3];exact(by simpa[Function.comp_def] using Un p 0 64)⟩;grind[Qq,yC]
theorem ZvK{c:Cust}(h:(uY c cap q).2=true):∃p∈c.J,(p=0\/c.R<=cap)/\(uY c cap q).1=Qq c p:=by unfold uY at h ⊢;split at h;cases h;rename_i hn;rw[if_neg hn];have hb:=aJ q (j8 c cap) (j8 c cap).length;grind[j8,List.getElem_mem]
def dT{c:Cust}(hm:CustMade c n)(hn:n<=60)(cap:Int)(price:List Int)(h:(qJ n cap c price).2=true):GoodV n (qJ n cap c price).1:=by unfold qJ at h ⊢;by_cases b:c.kind=1;grind[ZvK,tj];rw[if_neg b]at h ⊢;by_cases a:c.Y=1;rw[if_pos a]at h ⊢;obtain⟨ds,h1,-,e⟩:=ZvJ hn h;rw[e];exact sZ hm.Z hn h1;rw[if_neg a]at h ⊢;have d:GoodV n (yQ 0 (YN c n cap).1):=sC (Ve hm.Z (iX hm.Z cap) n).2 (Cw (Vd _ _ _)) EA;have f:GoodV n (yQ 0 (Qw c n cap).1):=sC (Ve hm.Z (iY hm.Z cap) n).2 (Cw (Vd _ _ _)) EA;grind[XY]
structure InstA (x:Inst) (n:Nat):Prop where
 h:InstH x
 days:x.days=n
 ac:n<=60
 aa:∀c∈x.y,CustMade c n
 J:∀c∈x.y,c.J.length<=1000
def ZvL(h:InstA x n):iN x n (qJ n x.Q):=by intro c hc l hl hi S b a;rw[h.days];have:=h.ac;exact ki c n x.Q a hi EA (h.aa c hc) (h.J c hc) h.ac
def tk{a:Cust->List Int->List Visit × Bool}{pr:List (List Int)}(h:(jr x a pr).2=0):(jr x a pr).1.length=x.y.length/\∀i c,x.y[i]?=some c->(jr x a pr).1[i]?=some (a c (pr.getD i [])).1/\(a c (pr.getD i [])).2=true:=by
 unfold jr at h ⊢;split at h;rename_i b;rw[if_pos b];refine⟨by simp[Yf],λi c hc=>?_⟩;have hi:=(Ad.1 hc).1;have d:x.y.getD i default=c:=by rw[List.getD_eq_getElem?_getD,hc];rfl
 refine⟨by simp only[Yf,B3,Ai,A4 hi,AR,Function.comp_apply,d],?_⟩;have:=Ay.1 b _ (sH x a pr hi);rw[d]at this;exact this;omega
def tm(h:InstA x n):sV x n (qJ n x.Q):=by
 intro pr d h0;obtain⟨h1,h2⟩:=tk h0;have key:∀l∈(jr x (qJ n x.Q) pr).1,GoodV n l:=by intro l hl;obtain⟨i,hi,rfl⟩:=CR hl;have a:i<x.y.length:=EA;obtain⟨b,e2⟩:=h2 i _ (Ac a);rw[Ac hi]at b;rw[Option.some.inj b];exact dT (h.aa _ (AZ a)) h.ac _ _ e2
 exact⟨h1,λl hl w c=>(key l hl).ok w c,λl hl=>(key l hl).nd,λl hl=>by have:=(key l hl).len;omega⟩
def xE(x:Inst)(b:Int):zy × Int:=aM x (qJ x.days.toNat x.Q) b x.days.toNat
def ZvM(h:InstA x n)(hb:b<=9223372036854775807):PP 147 [.agg (zB x),I b] (.tup [.agg [L (xE x b).1],I (xE x b).2]):=by
 have a:x.days.toNat=n:=by rw[h.days];rfl
 unfold xE;rw[a];exact ZvH h.h h.days (by have:=h.ac;omega) (ZvL h) (tm h) hb
def ZvN(x:Inst)(c l:Int):InstA (UL x 6 c l) (yW x).days.toNat:=by have a:=aI x;refine⟨⟨AF (gG x) EH,rH x,rA x,by show (0:Int)<=6;decide⟩,?_,by omega,λc hc=>?_,λc hc=>?_⟩;show (yW x).days=_;omega;obtain⟨c0,rfl⟩:=iT x hc;simp_all[sL];obtain⟨c0,rfl⟩:=iT x hc;grind[xn,Yy]
def ZvO(x:Inst):InstA (yW x) (yW x).days.toNat:=by have a:=aI x;have h:=ZvN x (yW x).Q (yW x).len;exact⟨⟨AF (gG x) EH,rH x,rA x,SF x⟩,by omega,h.ac,h.aa,h.J⟩
def vp(a b:Int):Int:=if a.tmod b≠0/\¬a<0 then W (W (a.tdiv b)+1) else W (a.tdiv b)
def vq(c:Cust)(n:Int):Int:=qk (W (W (c.D*n)-c.H)) 0
def tu(c:Cust)(n:Int):PP 222 [.agg (yh c),I n] (I (vq c n)):=by refine zt func222 ntmps222 results222 λS nx a=>?_;refine EK ?_;intro v0;refine EK ?_;exact zg (zi a EC (by simp[zp,vq]))
def Qy(c:Cust):Nat->Int × Int
 |0=>(0,c.H)
 |k+1=>(W ((Qy c k).1+qk (W ((Qy c k).2-c.D)) 0),W ((Qy c k).2-c.D))
def J1(c:Cust)(n:Nat):Int:=W (c.U*(Qy c n).1)
def ZvP(c:Cust)(n:Nat)(hn:n<=1000):PP 227 [.agg (yh c),I n] (I (J1 c n)):=by
 refine zt func227 ntmps227 results227 λS nx e=>?_;refine EK ?_;intro v0;refine aG (some [nx]) U2 mixed trivial ?_;repeat apply za
 refine zb ?_;refine zj (zC (λs:Nat × Int × Int=>s.1<=n/\s.2=Qy c s.1) (λ(k,a,b)=>[(1,I n),(2,.ptr nx v0 0),(5,I a),(6,I b),(9,I n),(10,I k)]) (λ_=>[.cells v0 59 (yh c)]) (λs=>n-s.1) (0,0,c.H) [] ⟨by simp,rfl⟩ EB EB ?_);rintro⟨k,a,b⟩ ⟨f,hs⟩;simp only at f hs ⊢;have d:a=(Qy c k).1:=congrArg Prod.fst hs;have hb:b=(Qy c k).2:=congrArg Prod.snd hs;refine EK ?_;refine za (zv rfl (λhc=>?_) (λhc=>?_));simp at hc;refine zh (aA (EK ?_));refine zb ?_;refine zb ?_;exact zr (k+1,W (a+qk (W (b-c.D)) 0),W (b-c.D)) [] ⟨hc,by rw[d,hb];rfl⟩ EF (by simp[zu k EA]) rfl EB;simp at hc;obtain rfl:k=n:=EA;refine zx (EK ?_);exact zg (zi e EC (by simp[zp,J1,d]))
def tB(a b:Int)(hb:0<b):PP 174 [I a,I b] (.tup [I (vp a b),B true]):=by
 have h0:¬b=0:=EA;have h1:¬b=-1:=EA;have h2:¬b<0:=EA;have e:vp a b=if a.tmod b≠0/\¬a<0 then W (W (a.tdiv b)+1) else W (a.tdiv b):=rfl;rw[e];refine zt func174 ntmps174 results174 λS nx d=>?_;refine EK ?_;obtain⟨q,hm⟩:∃q:Prop,(a=-9223372036854775808)=q:=⟨_,rfl⟩;by_cases f:q;all_goals
  repeat apply za
  refine ze [(2,9),(5,12)] (yx h0 h1 hm f zE) ?_;refine aC (aF [] h0 ?_);by_cases h3:a.tmod b=0;rw[if_neg (by simp[h3])];repeat apply za
  refine ze [(4,24)] (zD h0 h3 zE) ?_;refine aC (EK ?_);exact EL d;by_cases c:a<0;rw[if_neg (by simp[c])];repeat apply za
  refine ze [(4,24)] (zR h0 h3 c h2) ?_;refine aC (EK ?_);exact EL d;rw[if_pos ⟨h3,c⟩];repeat apply za
  refine ze [(4,24)] (zR h0 h3 c h2) ?_;refine aD ?_;refine zb ?_;refine EK ?_;exact EL d
def ZV(a b:Int):Int × Bool:=if a=0\/b=0 then (0,true) else if ¬W ((W (a*b)).tdiv b)=a\/(a=-9223372036854775808/\b=-1) then (0,false) else (W (a*b),true)
def ZvQ(a b:Int):PP 140 [I a,I b] (.tup [I (ZV a b).1,B (ZV a b).2]):=by
 unfold ZV;by_cases h0:a=0;rw[if_pos (.inl h0)];refine zt func140 ntmps140 results140 λS nx c=>?_;refine EK ?_;repeat apply za
 refine ze [(2,9)] (zn h0 zE) ?_;refine aD ?_;refine EK ?_;exact EL c;by_cases h1:b=0;rw[if_pos (.inr h1)];refine zt func140 ntmps140 results140 λS nx c=>?_;refine EK ?_;repeat apply za
 refine ze [(2,9)] (zn h0 h1) ?_;refine aD ?_;refine EK ?_;exact EL c;rw[if_neg (by simp[h0,h1])];by_cases h2:W ((W (a*b)).tdiv b)=a;by_cases h3:a=-9223372036854775808;by_cases d:b=-1;rw[if_pos (.inr ⟨h3,d⟩)];refine zt func140 ntmps140 results140 λS nx c=>?_;refine EK ?_;repeat apply za
 refine ze [(2,9)] (zn h0 h1) ?_;refine aC (EK ?_);repeat apply za
 refine ze [(5,21),(8,24)] (zR h1 h2 (eq_true h3) (eq_true d)) ?_;refine aD ?_;refine EK ?_;exact EL c;rw[if_neg (by simp[h2,d])];refine zt func140 ntmps140 results140 λS nx c=>?_;refine EK ?_;repeat apply za
 refine ze [(2,9)] (zn h0 h1) ?_;refine aC (EK ?_);repeat apply za
 refine ze [(5,21),(8,24)] (zR h1 h2 (eq_true h3) d) ?_;refine aC (EK ?_);exact EL c;rw[if_neg (by simp[h2,h3])];refine zt func140 ntmps140 results140 λS nx c=>?_;refine EK ?_;repeat apply za
 refine ze [(2,9)] (zn h0 h1) ?_;refine aC (EK ?_);repeat apply za
 refine ze [(5,21),(8,24)] (zR h1 h2 h3 zE) ?_;refine aC (EK ?_);exact EL c;rw[if_pos (.inl h2)];refine zt func140 ntmps140 results140 λS nx c=>?_;refine EK ?_;repeat apply za
 refine ze [(2,9)] (zn h0 h1) ?_;refine aC (EK ?_);repeat apply za
 refine ze [(5,21),(8,24)] (zD h1 h2 zE) ?_;refine aD ?_;refine EK ?_;exact EL c
def Qz(x:Int):Int :=
 let u:=IntKind.u64.wrap;let a:=bits BinOp.and IntKind.u64;let x1:=u (a (x.fdiv (2^1)) 6148914691236517205+a x 6148914691236517205);let x2:=u (a (x1.fdiv (2^2)) 3689348814741910323+a x1 3689348814741910323);let x3:=a (u (x2.fdiv (2^4)+x2)) 1085102592571150095;let x4:=u (x3+x3.fdiv (2^8));let x5:=u (x4+x4.fdiv (2^16));let x6:=u (x5+x5.fdiv (2^32))
 bits BinOp.and IntKind.i64 (W x6) 127
def ZvR(n:Nat):PP 296 [U n] (I (Qz n)):=by refine zt func296 ntmps296 results296 λS nx a=>?_;refine EK ?_;refine EK ?_;refine EK ?_;refine EK ?_;refine EK ?_;refine EK ?_;refine EK ?_;refine EK ?_;exact zg (zi a EC (by simp[zp,Qz,IntKind.bits]))
def ZvS(n:Nat):PP 276 [U n] (I (Qz n)):=by have h:=ZvR n;refine zt func276 ntmps276 results276 λS nx a=>?_;refine EK ?_;refine EK ?_;refine zq h ?_;exact EL a
def Vf(i:Nat)(least:Int)(p:Nat):Int:=if i=0\/Qz p<least then Qz p else least
def vV(ps:List Nat):Nat->Int
 |0=>0
 |k+1=>Vf k (vV ps k) (ps.getD k 0)
def ZvT(ps:List Nat)(hl:ps.length<=1048576):PP 255 [L ps] (I (vV ps ps.length)):=by
 refine zt func255 ntmps255 results255 λS nx c=>?_;refine EK ?_;refine EK ?_;repeat apply za
 refine zb ?_;refine zj (zC (λk:Nat=>k<=ps.length) (λk=>[(3,I (vV ps k)),(7,L ps),(8,I ps.length),(9,I k)]) (λ_=>[]) (λk=>ps.length-k) 0 [] EB (by simp[vV]) EB ?_);rintro k g;refine EK ?_;refine za (zv rfl (λhc=>?_) (λhc=>?_));simp at hc;obtain⟨p,tl,d,h,a3,e⟩:=zF rfl ps k hc;have f:ps.getD k 0=p:=by rw[List.getD_eq_getElem?_getD,d];rfl
 have a:vV ps (k+1)=Vf k (vV ps k) p:=by rw[<-f];rfl
 have b:=ZvS p;refine zh (aA (aF [] (zn e hc) ?_));refine EK ?_;refine zq b ?_;unfold Vf at a;generalize vV ps k=f0 at *;generalize Qz p=o at *
 by_cases h0:k=0;rw[if_pos (.inl h0)]at a;refine aF [(2,18)] (zn (eq_true h0) zE) ?_;refine aD ?_;refine zb ?_;refine zb ?_;exact zr (k+1) [] hc EA (by simp[zu k EA,a]) rfl EB;by_cases h1:o<f0;rw[if_pos (.inr h1)]at a;refine aF [(2,18)] (zn h0 h1) ?_;refine aD ?_;refine zb ?_;refine zb ?_;exact zr (k+1) [] hc EA (by simp[zu k EA,a]) rfl EB;rw[if_neg (by simp only[not_or];exact⟨h0,h1⟩)]at a;refine aF [(2,18)] (zn h0 h1) ?_;refine aC (zb ?_);exact zr (k+1) [] hc EA (by simp[zu k EA,a]) rfl EB;simp at hc;obtain rfl:k=ps.length:=EA;refine zx (EK ?_);exact EL c
def je(c:Cust)(n cap:Int):Int :=
 if c.kind=1 then vV c.J c.J.length else if vq c n=0 then 0 else if qj cap c.size<1 then n else qj (vp (vq c n) (qj cap c.size)) n
def tC(c:Cust)(n cap:Int)(e:c.J.length<=1048576):PP 221 [.agg (yh c),I n,I cap] (I (je c n cap)):=by
 have hf:=ZvT c.J e;have d:=tu c n;unfold je;generalize vV c.J c.J.length=fz at *;generalize vq c n=wz at *
 by_cases a:c.kind=1;rw[if_pos a];refine zt func221 ntmps221 results221 λS nx b=>?_;refine EK ?_;intro v0;repeat apply za
 refine ze [] a ?_;refine zm (by simp[a]) ?_;refine EK ?_;refine zq hf ?_;exact EL b;rw[if_neg a];by_cases h0:wz=0;rw[if_pos h0];refine zt func221 ntmps221 results221 λS nx b=>?_;refine EK ?_;intro v0;repeat apply za
 refine ze [] a ?_;refine zk (by simp[a]) ?_;refine zh (EK ?_);refine zq d ?_;repeat apply za
 refine ze [] h0 ?_;refine zm (by simp[h0]) ?_;refine EK ?_;exact EL b;rw[if_neg h0];by_cases h1:qj cap c.size<1;rw[if_pos h1];refine zt func221 ntmps221 results221 λS nx b=>?_;refine EK ?_;intro v0;repeat apply za
 refine ze [] a ?_;refine zk (by simp[a]) ?_;refine zh (EK ?_);refine zq d ?_;repeat apply za
 refine ze [] h0 ?_;refine zk (by simp[h0]) ?_;refine zh (EK ?_);repeat apply za
 refine ze [] h1 ?_;refine zm (by simp[h1]) ?_;refine EK ?_;exact EL b;rw[if_neg h1];have hc:=tB wz (qj cap c.size) EA;generalize vp wz (qj cap c.size)=q at *;refine zt func221 ntmps221 results221 λS nx b=>?_;refine EK ?_;intro v0;repeat apply za
 refine ze [] a ?_;refine zk (by simp[a]) ?_;refine zh (EK ?_);refine zq d ?_;repeat apply za
 refine ze [] h0 ?_;refine zk (by simp[h0]) ?_;refine zh (EK ?_);repeat apply za
 refine ze [] h1 ?_;refine zk (by simp[h1]) ?_;refine zh (EK ?_);refine zq hc ?_;refine EK ?_;exact EL b
end Go.Proofs.YtdjbbndbalhekaaGreatDoor.Pv
