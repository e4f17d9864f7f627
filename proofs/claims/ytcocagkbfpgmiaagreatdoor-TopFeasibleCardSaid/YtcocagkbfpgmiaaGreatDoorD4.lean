/- Part of a proof, packed. -/
import Derived.Test.YtcocagkbfpgmiaaGreatDoorD3
open Go.Proofs.Tryz
set_option maxRecDepth 100000
set_option maxHeartbeats 3200000
namespace Go.Proofs.YtcocagkbfpgmiaaGreatDoor.Pv
open Go Go.Proofs
theorem Zf2{x:Inst}(h:q9 x):∀(l:List Int) (a:Int),0<=jH x a l/\jH x a l<=2147483648*((l.length:Int)+1)
 | [],a=>by
  have:=h a 0
  simp_all[jH]
 | c :: l,a=>by
  have h1:=h a (c+1);have h2:=Zf2 h l (c+1)
  grind[jH]
theorem Wq{x:Inst}(h:q9 x)(l:List Int):0<=yE x l/\yE x l<=2147483648*((l.length:Int)+1):=by
 unfold yE;split<;>simp_all[Zf2]
def Qj(d:zp):List (Nat × Nat):=(List.range (d.length+1)).flatMap λt=>(List.range ((d.getD t []).length+1)).map λp=>(t,p)
def ZZ(d:zp)(s:Stop)(c:Nat × Nat):zp:=jI d ⟨c.1,c.2,0⟩ s
def Zck(x:Inst)(d:zp)(s:Stop)(c:Nat × Nat):Int:=if c.1=d.length then W (yE x [s.c]) else uH x (d.getD c.1 []) s c.2
def Jc(x:Inst)(d:zp)(s:Stop)(c:Nat × Nat):Option Spot:=if yg x (ZZ d s c)=0 then some ⟨c.1,c.2,Zck x d s c⟩ else none
theorem Zf3(d:zp)(s:Stop)(b:Spot):jI d b s=ZZ d s (b.t,b.p):=rfl
theorem Zf4{d:zp}{c:Nat × Nat}:c∈Qj d<->c.1<=d.length/\c.2<=(d.getD c.1 []).length:=by grind[Qj]
abbrev V9(x:Inst)(d:zp)(s:Stop):Prop:=zQ x [s]=1\/s.c∈d.flatten.map (·.c)\/¬(d.flatten.map (·.c)).Nodup\/x.veh<d.length
theorem Zf5{d:zp}{s:Stop}{t p:Nat}{l:zL}(hl:d[t]?=some l):ZZ d s (t,p)=d.set t (j6 l p s):=by grind[ZZ,jI]
theorem Zf6(d:zp)(s:Stop)(p:Nat):ZZ d s (d.length,p)=d++[[s]]:=by simp[ZZ,jI]
theorem Zn4{d:zp}{s:Stop}{c:Nat × Nat}(hc:c∈Qj d):(ZZ d s c).flatten.Perm (s :: d.flatten):=by
 obtain⟨t,p⟩:=c;obtain⟨h1,h2⟩:=Zf4.1 hc;simp only at h1 h2
 by_cases ht:t=d.length
 ·simp_all[Zf6]
 ·have hl:d[t]?=some (d.getD t []):=by rw[Aa,Af DQ];rfl
  rw[Zf5 hl]
  grind[Zce,Wo]
theorem Zn5{x:Inst}{d:zp}{s:Stop}(hd:yg x d=0){c:Nat × Nat}(hc:c∈Qj d)(h:yg x (ZZ d s c)=0):¬V9 x d s:=by
 have hp:=Zn4 (s:=s) hc;obtain⟨g1,g2,g3⟩:=(wC x _).1 h;obtain⟨e1,e2,e3⟩:=(wC x _).1 hd;rw[(hp.map _).nodup_iff,AA,Cr]at g2;rintro(q | q | q | q)
 ·obtain⟨u,hu,hsu⟩:=BJ.1 (hp.symm.subset (Cf (a:=s)))
  grind[qP,zQ]
 ·exact g2.1 q
 ·exact q e2
 ·omega
theorem Zf7{x:Inst}{d:zp}{s:Stop}(hd:yg x d=0)(ho:¬V9 x d s){t p:Nat}{l:zL}(hl:d[t]?=some l)(hp:p<=l.length):
  yg x (ZZ d s (t,p))=0<->W (jo l+s.q)<=x.cap/\W (jA x l+uH x l s p)<=x.len:=by
 obtain⟨e1,e2,e3⟩:=(wC x _).1 hd;have hlm:=Ab hl;have hlt:=(Ac.1 hl).1;have hm0:=e1 l hlm;have hne:l≠[]:=Wp ((Jb x l).1 hm0).1;have hb:yX x d=0:=Qi.2 e1;have hg:d.getD t []=l:=by rw[Aa,hl];rfl
 constructor
 ·intro h;obtain⟨g1,-,-⟩:=(wC x _).1 h;rw[Zf5 hl]at g1;have:=g1 (j6 l p s) (Ab (i:=t) (by simp[hlt]));obtain⟨-,-,a,b⟩:=(Jb x _).1 this;have ha:=ZfY l s p;have hw:=ZfX x l s p hne hp
  simp_all[jo,jA]
 ·rintro⟨a,b⟩;have hmem:(⟨t,p,uH x l s p⟩:Spot)∈qp x d s:=by
   unfold qp;rw[if_neg ho];refine List.mem_append_left _ (B3.2 ⟨t,AL.2 hlt,?_⟩);rw[hg,hb,hm0];unfold Zb;rw[if_neg DV];refine Cd.2 ⟨p,AL.2 DQ,?_⟩;unfold uI;rw[if_pos b]
  have:=Zci hmem
  simp_all[Zf3]
theorem Zn6{x:Inst}{d:zp}{s:Stop}(hd:yg x d=0)(ho:¬V9 x d s):yg x (ZZ d s (d.length,0))=0<->zQ x [s]=0/\(d.length:Int)<x.veh:=by
 obtain⟨e1,e2,e3⟩:=(wC x _).1 hd;have hb:yX x d=0:=Qi.2 e1;constructor
 ·grind[wC,Zf6]
 ·rintro⟨a,b⟩;have hmem:(⟨d.length,0,W (yE x [s.c])⟩:Spot)∈qp x d s:=by
   unfold qp;rw[if_neg ho,if_pos ⟨hb,a,b⟩];exact List.mem_append_right _ DR
  have:=Zci hmem
  simp_all[Zf3]
theorem Zf8{α β:Type}{f:α->Option β}{l:List α}(h:∀a∈l,f a=none):l.filterMap f=[]:=DZ
theorem Zf9{α β:Type}{f g:α->List β}:∀{l:List α},(∀a∈l,f a=g a)->l.flatMap f=l.flatMap g
 | [],_=>rfl
 | a :: l,h=>by rw[Az,Az,h a DR,Zf9 λb hb=>h b (by simp[hb])]
theorem Zga{α β:Type}{f g:α->Option β}:∀{l:List α},(∀a∈l,f a=g a)->l.filterMap f=l.filterMap g
 | [],_=>rfl
 | a :: l,h=>by
  have ih:=Zga (f:=f) (g:=g) (l:=l) λb hb=>h b (by simp[hb])
  grind
def YB(x:Inst)(d:zp)(s:Stop)(t:Nat):List Spot:=((List.range ((d.getD t []).length+1)).map λp=>(t,p)).filterMap (Jc x d s)
theorem Zgb{x:Inst}{d:zp}{s:Stop}(hd:yg x d=0):qp x d s=(List.range (d.length+1)).flatMap (YB x d s):=by
 by_cases ho:V9 x d s
 ·unfold qp;rw[if_pos ho];symm;rw[List.flatMap_eq_nil_iff];intro t ht;rw[AL]at ht;refine Zf8 λc hc=>?_
  obtain⟨p,hp,rfl⟩:=Al.1 hc;rw[AL]at hp;unfold Jc;rw[if_neg];intro h;exact Zn5 hd (Zf4.2 ⟨by omega,by simp only;omega⟩) h ho
 ·unfold qp;obtain⟨e1,e2,e3⟩:=(wC x _).1 hd;have hb:yX x d=0:=Qi.2 e1;rw[if_neg ho,AK,Ar];congr 1
  ·refine Zf9 λt ht=>?_
   rw[AL]at ht;have hl:d[t]?=some (d.getD t []):=by rw[Aa,Af ht];rfl
   have hm0:=e1 _ (Ab hl);unfold YB Zb;rw[hm0,hb,List.filterMap_map]
   by_cases hcap:x.cap<W (jo (d.getD t [])+s.q)
   ·rw[if_pos (.inr hcap)];symm;refine Zf8 λp hp=>?_
    rw[AL]at hp;simp only[Function.comp_apply];unfold Jc;rw[if_neg];rw[Zf7 hd ho hl DQ];omega
   ·rw[if_neg (show ¬(0<((0:Nat):Int)-(if (0:Int)=13 then 1 else 0)\/x.cap<W (jo (d.getD t [])+s.q)) from by rintro(q | q);exact absurd q DX;exact hcap q)];refine Zga λp hp=>?_
    grind[Zf7,Jc,uI,Zck]
  ·have hi:=Zn6 hd ho;simp only[Az,Co,AD];unfold YB;rw[show d.getD d.length []=([]:zL) from by rw[Aa,Ak (Ag _)];rfl]
   grind[Jc,Zck]
theorem Zgc{α β γ:Type}(f:α->List β)(g:β->Option γ):∀l:List α,(l.flatMap f).filterMap g=l.flatMap λa=>(f a).filterMap g
 | []=>rfl
 | a :: l=>by rw[Az,BV,Zgc f g l,Az]
theorem Zn7{x:Inst}{d:zp}{s:Stop}(hd:yg x d=0):qp x d s=(Qj d).filterMap (Jc x d s):=by
 rw[Zgb hd];unfold Qj;rw[Zgc];rfl
theorem Zgd{x:Inst}{d:zp}(h:yg x d=0):∀t∈d,t≠[]:=λt ht=>Wp ((Jb x t).1 (((wC x d).1 h).1 t ht)).1
def Qk(st:Int × Bool)(m:Int):Int × Bool:=if st.2=false\/m<st.1 then (m,true) else st
def Ql(l:List Int):Int × Bool:=l.foldl Qk (0,false)
def J8(x:Inst)(d:zp)(s:Stop)(n:Nat):List Int:=(List.range n).filterMap λt=>bif (Ql ((YB x d s t).map (·.m))).2 then some (Ql ((YB x d s t).map (·.m))).1 else none
def J9(x:Inst)(d:zp)(s:Stop):List Int:=yT (J8 x d s (d.length+1))
theorem Zcl:∀(l:List Int) (m:Int),(l.foldl Qk (m,true)).2=true
 | [],_=>rfl
 | a :: l,m=>by
  rw[A3];unfold Qk;split
  ·exact Zcl l a
  ·exact Zcl l m
theorem Zn8:Ql []=(0,false):=rfl
theorem Zn9(a:Int)(l:List Int):Ql (a :: l)=l.foldl Qk (a,true):=by simp[Ql,Qk]
def wY(st:List Int × Int)(p:Spot):List Int × Int :=
 if (p.t:Int)≠st.2 then (st.1++[p.m],(p.t:Int)) else (st.1.set (st.1.length-1) (if p.m<st.1.getD (st.1.length-1) 0 then p.m else st.1.getD (st.1.length-1) 0),st.2)
theorem Zge(t:Nat):∀(g:List Spot) (l:List Int) (m:Int),(∀p∈g,p.t=t)->g.foldl wY (l++[m],(t:Int))=(l++[((g.map (·.m)).foldl Qk (m,true)).1],(t:Int))
 | [],l,m,_=>rfl
 | p :: g,l,m,h=>by
  have hp:=h p DR;have hs:wY (l++[m],(t:Int)) p=(l++[if p.m<m then p.m else m],(t:Int)):=by
   unfold wY;rw[hp,if_neg DR];simp
  have hm:Qk (m,true) p.m=(if p.m<m then p.m else m,true):=by
   unfold Qk
   by_cases q:p.m<m<;>simp[q]
  rw[A3,hs,AA,A3,hm];exact Zge t g l _ λq hq=>h q (by simp[hq])
theorem Zoa{t:Nat}{g:List Spot}(hg:∀p∈g,p.t=t)(l:List Int)(last:Int)(hl:last<t):
  g.foldl wY (l,last)=(l++(bif (Ql (g.map (·.m))).2 then [(Ql (g.map (·.m))).1] else []),if g=[] then last else (t:Int)):=by cases g<;>grind[Zn8,wY,Zge,Zn9,Zcl]
theorem Zob{x:Inst}{d:zp}{s:Stop}{t:Nat}:∀p∈YB x d s t,p.t=t:=by grind[YB,Jc]
theorem Zgf(x:Inst)(d:zp)(s:Stop):∀n:Nat,∃last:Int,last<n/\((List.range n).flatMap (YB x d s)).foldl wY ([],-1)=(J8 x d s n,last)
 | 0=>⟨-1,by omega,rfl⟩
 | n+1=>by
  obtain⟨last,h1,h2⟩:=Zgf x d s n;rw[AK,Ar,Br,h2];simp only[Az,Co,AD];rw[Zoa Zob _ _ h1];refine⟨_,?_,by
   congr 1;unfold J8;rw[AK,BV];congr 1;cases hm:(Ql ((YB x d s n).map (·.m))).2<;>simp[hm]⟩
  omega
theorem Zoc{x:Inst}{d:zp}{s:Stop}(hd:yg x d=0):((qp x d s).foldl wY ([],-1)).1=J8 x d s (d.length+1):=by
 rw[Zgb hd];obtain⟨last,-,h⟩:=Zgf x d s (d.length+1);rw[h]
theorem Zgg:∀{a b:List Int},a.Perm b->a.Pairwise (·<=·)->b.Pairwise (·<=·)->a=b
 | [],b,h,_,_=>(List.nil_perm.1 h).symm
 | x :: a,[],h,_,_=>absurd h.symm DR
 | x :: a,y :: b,h,ha,hb=>by
  rw[Bh]at ha hb;have hxy:x=y:=by
   have h1:x∈y :: b:=h.subset DR;have h2:y∈x :: a:=h.symm.subset DR;have q1:y<=x:=by
    rcases As.1 h1 with e | e
    ·omega
    ·exact hb.1 x e
   have q2:x<=y:=by
    rcases As.1 h2 with e | e
    ·omega
    ·exact ha.1 y e
   omega
  subst hxy;rw[Zgg ((List.perm_cons x).1 h) ha.2 hb.2]
open Go Go.Proofs
theorem Zod(x:Inst)(d:zp)(s:Stop)(t:Nat):(J8 x d s t).length<=t:=by
 unfold J8;exact AB (CA _ _) DR
open Go Go.Proofs
theorem Sim.drewN{C:Ctx}{S:Store}{w:World}(h:Sim C S w):∀q:Nat,Sim C S (w.drewN q)/\Step C S w C S (w.drewN q)
 | 0=>by
  have e:w.drewN 0=w:=rfl;rw[e];exact⟨h,.refl _ _ _⟩
 | q+1=>by
  obtain⟨a,b⟩:=Sim.drewN h q;obtain⟨c,d⟩:=a.drew;have e:w.drewN (q+1)=(w.drewN q).drew:=by unfold World.drewN World.drew;simp[Nat.add_assoc]
  rw[e];exact⟨c,b.trans d⟩
theorem Zoe(zs:List Int)(c:Int)(hn:zs.length<=1048576)(hs:zs.Pairwise (·<=·)):Pure prog 353 [L zs,I c] (.tup [I (zs.countP (·<c):Nat),B (zs.contains c)]):=by
 intro S;refine⟨qn func353 DW rfl,?_⟩;intro C w vs hS hl hr;obtain⟨u,v,rfl⟩:∃u v,vs=#[u,v]:=Zfz hl;obtain rfl:=Q0 (hr 1 _ v rfl rfl);have h0:Rel C S w (.lst zs.length (zs.flatMap Enc.enc)) u:=hr 0 _ u rfl rfl;have hret:∀(k:Int) (b:Bool),Rel C S w (.tup [I k,B b]) (.tuple #[.int .i64 k,.bool b]):=by
  intro k b;refine .tup rfl ?_;intro i p v hc hv
  match i with
  | 0=>have hc:some (I k)=some p:=hc;have hv:some (Value.int .i64 k)=some v:=hv;cases hc;cases hv;exact .sc _
  | 1=>have hc:some (B b)=some p:=hc;have hv:some (Value.bool b)=some v:=hv;cases hc;cases hv;exact .sc _
  | i+2=>simp at hc
 rw[VS]at h0;generalize hcs:zs.map I=cs at h0;generalize hzl:zs.length=n at h0 hn;cases h0 with
 | lst0 =>
  obtain rfl:zs=[]:=Aq hzl;refine(slices_BinarySearch_int_empty _ _ c w).mono ?_;rintro e w' ⟨rfl,rfl⟩;exact⟨_,_,_,_,rfl,⟨rfl,rfl⟩,hret 0 false,hS,.refl _ _ _⟩
 | lst1 g1 g2 g3 g4 g5 g6 g7 =>
  rename_i cap b o ca e fz
  by_cases hz:zs=[]
  ·subst hz;simp at hzl;subst hzl;refine(slices_BinarySearch_int_empty _ _ c w).mono ?_;rintro e w' ⟨rfl,rfl⟩;exact⟨_,_,_,_,rfl,⟨rfl,rfl⟩,hret 0 false,hS,.refl _ _ _⟩
  ·subst hcs;have g5':=g5 (by simpa using hz);rw[List.length_map]at g5';have hcell:∀j,j<zs.length->w.cell? ⟨b,o+j,none⟩=some (.int .i64 (zs.getD j 0)):=by
    intro j hj;have e2:ca[o+j]?=some ca[o+j]:=by rw[AW]
    have e3:=Q0 (g7 j (I (zs.getD j 0)) _ (by simp[hj]) e2);rw[e3]at e2;simp[World.cell?,g3,e2]
   refine(slices_BinarySearch_int b o n cap zs c w DQ DQ hcell (hs.sublist (List.take_sublist _ _))).mono ?_;rintro e w' ⟨rfl,q,rfl⟩;obtain⟨s1,s2⟩:=hS.drewN q;rw[Ae DQ];exact⟨_,_,_,_,rfl,⟨rfl,rfl⟩,(hret _ _).mono s2,s1,s2⟩
theorem Zof{n k:Nat}(hk:k<n)(W:Nat->List Spot)(E:List Spot)(i:Nat)(x:List PV)(h:((W k).map Zt)[i]?=some x):(((List.range n).flatMap W++E).map Zt)[((List.range k).flatMap W).length+i]?=some x:=by
 obtain⟨m,rfl⟩:∃m,n=k+(m+1):=⟨n-k-1,by omega⟩;rw[Aj]at h ⊢;rw[Dc,Ar,List.append_assoc,Am (CV _ _),AH,CG];have hi:i<(W k).length:=by
  rcases Bb i (W k).length with e | e
  ·exact e
  ·rw[Ak e]at h;cases h
 rw[Ap DV];simp only[AA,Az,Bz];rw[Ap DQ];exact h
theorem Zog(W:Nat->List Spot)(k:Nat):((List.range (k+1)).flatMap W).length=((List.range k).flatMap W).length+(W k).length:=by
 rw[AK,Ar,List.length_append];simp
theorem Zoh(l:List Int)(c:Int):(yT l).contains c=l.contains c:=by
 rw[DB,Cs,Cs];exact(B9 l _).mem_iff
theorem Zgh{x:Inst}{s:Stop}(hx:x.cust.length<=1048576)(h:zQ x [s]≠1):qb s.c:=by
 have:=Zf0 h;unfold qZ at this;simp only[Av,decide_eq_true_eq]at this;unfold qb;omega
theorem Zgi(x:Inst)(d:zp)(s:Stop)(hx:x.cust.length<=1048576)(hdo:DayOk d)(hf:d.flatten.length<=1048576):Qa prog 352 [.ip [I s.c,I s.q],.ip (Zs x d)] ((qp x d s).map Zt):=by
 have hmay:=Wf x [s] hx DR;have hse:=Zoe (yT (d.flatten.map (·.c))) s.c (by rw[Qc,List.length_map];exact hf) (Wc _);rw[Zoh]at hse;generalize ((yT (d.flatten.map (·.c))).countP (·<s.c):Nat)=cnt at hse;obtain⟨tw,htw⟩:∃tw,tw=decide (¬(yT (d.flatten.map (·.c))).Nodup):=⟨_,rfl⟩;have htw':tw=decide (¬(d.flatten.map (·.c)).Nodup):=by rw[htw];exact decide_eq_decide.2 (not_congr (B9 _ _).nodup_iff)
 obtain⟨th,hth⟩:∃th,th=(d.flatten.map (·.c)).contains s.c:=⟨_,rfl⟩;rw[<-hth]at hse;have hlk:Zs x d=uJ x d (yT (d.flatten.map (·.c))) tw (d.map (zQ x)) (yX x d) (d.map jo) (d.map (jA x)):=by rw[htw]
 rw[hlk];obtain⟨on,hon⟩:∃on,on=yT (d.flatten.map (·.c)):=⟨_,rfl⟩;rw[<-hon]at hse ⊢;obtain⟨fa,hfa⟩:∃fa,fa=zQ x [s]:=⟨_,rfl⟩;rw[<-hfa]at hmay;have hdn:=hdo.n;refine X4 func352 DW rfl ntmps352 (congrArg Array.toList results352) DR λl V keep nx J hJd hY A0 hA0=>?_
 refine za (zz (some []) (Row.pures [0,1,2,3,4,5] (.alt 6 (.alt 7 (Row.pures [8] .done) .stop) .stop)) mixed trivial ?_);refine zH (ZbP s) trivial ?_;intro v0;refine D0 ?_;refine zt hmay ?_;refine D0 ?_;refine zt hse ?_
 by_cases hout:zQ x [s]=1\/s.c∈d.flatten.map (·.c)\/¬(d.flatten.map (·.c)).Nodup\/x.veh<d.length
 ·have hz:qp x d s=[]:=by unfold qp;rw[if_pos hout]
  rw[hz]at hY ⊢
  by_cases h1:fa=1
  ·repeat apply za
   refine ze [(2,30),(5,33),(9,37)] (zo h1 zB) ?_;exact zk rfl (zg (u5 (hJd _ _ hA0) rfl (by simpa using hA0)))
  cases h2:th with
  | true =>
   repeat apply za
   refine ze [(2,30),(5,33),(9,37)] (zo h1 zB) ?_;exact zk rfl (zg (u5 (hJd _ _ hA0) rfl (by simpa using hA0)))
  | false =>
   cases h3:tw with
   | true =>
    repeat apply za
    refine ze [(2,30),(5,33),(9,37)] (zo h1 zB) ?_;exact zk rfl (zg (u5 (hJd _ _ hA0) rfl (by simpa using hA0)))
   | false =>
    have h4:x.veh<d.length:=by
     rcases hout with e | e | e | e
     ·exact absurd (hfa.trans e) h1
     ·have:th=true:=by rw[hth,Cs];exact e
      rw[h2]at this;cases this
     ·have:tw=true:=by rw[htw'];exact decide_eq_true e
      rw[h3]at this;cases this
     ·exact e
    repeat apply za
    refine ze [(2,30),(5,33),(9,37)] (zA h1 h4 zB) ?_;exact zk rfl (zg (u5 (hJd _ _ hA0) rfl (by simpa using hA0)))
 have h1:¬fa=1:=λe=>hout (.inl (hfa ▸ e))
 have h2:th=false:=by
  cases e:th with
  | false=>rfl
  | true=>rw[hth,Cs]at e;exact absurd (.inr (.inl e)) hout
 have h3:tw=false:=by
  cases e:tw with
  | false=>rfl
  | true=>rw[htw']at e;exact absurd (.inr (.inr (.inl (of_decide_eq_true e)))) hout
 have h4:¬x.veh<d.length:=λe=>hout (.inr (.inr (.inr e)))
 have hsm:=Zgh hx (s:=s) (λe=>hout (.inl e));obtain⟨WW,hWW⟩:∃WW:Nat->List Spot,WW=λt=>Zb x t (d.getD t []) (zQ x (d.getD t [])) (yX x d) (jo (d.getD t [])) (jA x (d.getD t [])) s:=⟨_,rfl⟩
 obtain⟨EE,hEE⟩:∃EE:List Spot,EE=if yX x d=0/\zQ x [s]=0/\(d.length:Int)<x.veh then [⟨d.length,0,W (yE x [s.c])⟩] else []:=⟨_,rfl⟩
 have hz:qp x d s=(List.range d.length).flatMap WW++EE:=by unfold qp;rw[if_neg hout,hWW,hEE]
 rw[hz]at hY ⊢;subst h2 h3
 repeat apply za
 refine ze [(2,30),(5,33),(9,37)] (zA h1 h4 zB) ?_;refine zm rfl (zh ?_)
 repeat apply za
 refine zb ?_;refine zj (jx (σ:=Nat × Store) (λs'=>s'.1<=d.length/\J ((List.range s'.1).flatMap WW).length s'.2) (λs'=>[(0,jQ l),(1,.ip [I s.c,I s.q]),(2,.ip (uJ x d on false (d.map (zQ x)) (yX x d) (d.map jo) (d.map (jA x)))),(4,.ptr nx v0 0),(5,I d.length),(6,I fa),(44,I d.length),(45,I s'.1)]) (λs'=>s'.2)
  (λ_=>[.cells v0 42 [L [s]]]) (λs'=>d.length-s'.1) (zS (0,A0) [] (by simpa using hA0) DR rfl DR) ?_)
 rintro⟨k,A⟩ ⟨hk,hJ⟩;simp only at hk hJ ⊢;refine D0 ?_;refine za (zv rfl (λhc=>?_) (λhc=>?_))
 ·simp at hc;have hdk:d[k]?=some d[k]:=Af hc;have hg:d.getD k []=d[k]:=by rw[Aa,hdk];rfl
  have hb:zQ x d[k]=13->0<yX x d:=by
   intro e;rcases BX (yX x d) with q | q
   ·rw[Qi.1 q _ (A9 hc)]at e;cases e
   ·exact q
  have hw:=ZnW x d on false (d.map (zQ x)) (yX x d) (d.map jo) (d.map (jA x)) k d[k] s (zQ x d[k]) (jo d[k]) (jA x d[k]) (AB (ZfN x d) hdn) hdn hdk (by rw[Aj,hdk];rfl) (by rw[Aj,hdk];rfl) (by rw[Aj,hdk];rfl) DR DR DR hb (hdo.t _ (A9 hc)) (hdo.s _ (A9 hc)) hsm;have hWk:WW k=Zb x k d[k] (zQ x d[k]) (yX x d) (jo d[k]) (jA x d[k]) s:=by rw[hWW];simp only[hg]
  rw[<-hWk]at hw;have hlen:=Zog WW k;refine zh (za (zj (D0 ?_)));refine D0 ?_;refine λhsuf=>((ZfQ hw keep hY _ (Zof hc WW EE) hJ _).mono ?_)
  rintro _ _ ⟨A',rfl,hJ',rfl⟩;rw[List.length_map,<-hlen]at hJ';refine⟨_,_,rfl,zN hsuf ?_⟩;refine zm rfl (zh (zb ?_));exact zq (k+1,A') [] ⟨hc,hJ'⟩ DV (by simp[zu k (by omega)]) rfl DR
 ·simp at hc;obtain rfl:k=d.length:=DQ
  refine zx ?_
  by_cases he:yX x d=0/\zQ x [s]=0/\(d.length:Int)<x.veh
  ·have hE:EE=[⟨d.length,0,W (yE x [s.c])⟩]:=by rw[hEE,if_pos he]
   obtain⟨e1,e2,e3⟩:=he;have hlw:=Wb x [s] DR (by simpa using hsm);have h5:fa=0:=hfa.trans e2;have hy:(((List.range d.length).flatMap WW++EE).map Zt)[((List.range d.length).flatMap WW).length]?=some (Zt ⟨d.length,0,W (yE x [s.c])⟩):=by
    rw[Aj,Am (Ag _),BA,hE];rfl
   simp only[AA,Bk]at hlw;refine za (ze [(3,58),(7,62)] (zJ e1 h5 e3 zB) ?_);refine zk rfl (zb ?_);refine zt hlw ?_;refine λhsuf=>JW rfl rfl rfl (hY _ _ _ _ hy hJ) ?_
   rintro _ ⟨A',hJ',rfl⟩;refine⟨_,_,rfl,zN hsuf ?_⟩;exact u5 (hJd _ _ hJ') rfl (by rw[List.length_map,List.length_append,hE];exact hJ')
  ·have hE:EE=[]:=by rw[hEE,if_neg he]
   have hfin:J (((List.range d.length).flatMap WW++EE).map Zt).length A:=by rw[hE,AD,List.length_map];exact hJ
   by_cases e1:yX x d=0
   ·by_cases e2:fa=0
    ·have e3:¬(d.length:Int)<x.veh:=λe=>he ⟨e1,hfa ▸ e2,e⟩
     refine za (ze [(3,58),(7,62)] (zJ e1 e2 e3 zB) ?_);exact zm rfl (zh (u5 (hJd _ _ hJ) rfl hfin))
    ·refine za (ze [(3,58),(7,62)] (zA e1 e2 zB) ?_);exact zm rfl (zh (u5 (hJd _ _ hJ) rfl hfin))
   ·refine za (ze [(3,58),(7,62)] (zo e1 zB) ?_);exact zm rfl (zh (u5 (hJd _ _ hJ) rfl hfin))
open Go Go.Proofs
theorem Zoi(id v:Nat)(cs:List PV)(d:zp):(d.flatMap Enc.enc).map (qz id v cs)=(d.flatMap Enc.enc:List PV):=DR
theorem Zoj(id v:Nat)(cs:List PV)(d:zp)(t:Nat)(p:PV):((d.flatMap Enc.enc).set t p).map (qz id v cs)=(d.flatMap Enc.enc:List PV).set t (qz id v cs p):=DR
theorem Zgj:∀(d:zp) (t:Nat) (l:zL),(d.flatMap Enc.enc:List PV).set t (L l)=(d.set t l).flatMap Enc.enc
 | [],t,l=>rfl
 | m :: d,0,l=>rfl
 | m :: d,t+1,l=>by
  rw[AU,Az,Az,<-Zgj d t l];rfl
theorem Zok{S:Store}{nx m:Nat}{obs:List Ob}(x y:Ob)(hm:m=nx+obs.length):((ext S nx obs).set (m+3) x).set (m+4) y=ext S nx (obs++[.dead,.dead,.dead,x,y]):=by
 subst hm;rw[X6 3];have:=qY (S:=S) (nx:=nx) (obs:=obs++List.replicate 3 .dead++[x]) y
 grind
theorem Zol(d:zp)(hd0:d.length<=1048576)(hd1:∀l∈d,l.length<=1048576)(S:Store)(nx:Nat)(hd:zW nx S):
  Spec prog 337 [.agg [L d]] S (λp S'=>∃v,p=.agg [.sl (nx+3) v 1 0 d.length]/\S'=S.set (nx+3) (.cells v 42 (d.flatMap Enc.enc))):=by
 refine(Zcb d d.length hd0 hd1 DR S nx hd).mono ?_;rintro _ _ ⟨v,ts,ob,⟨h1,h2,-⟩,rfl,rfl⟩;obtain⟨rfl,rfl⟩:=h2 (Ag _);rw[Ai];refine⟨v,rfl,?_⟩;funext o
 by_cases h4:o=nx+4
 ·subst h4;rw[q11,q10 _ _ _ _ DQ,hd _ DQ]
 simp_all[q10]
theorem Zom(cs:List PV)(i:Nat)(p q:PV)(h:i<cs.length):yf (cs.set i p) i [q]=cs.set i q:=by
 unfold yf;rw[AE,if_pos h,AE,if_pos h];have hl:(cs.take i).length=i:=by rw[Aw];omega
 simp_all[Cx]
theorem Zgk(id v sz k:Nat)(cs:List PV)(h:k*sz=cs.length):qz id v cs (.sl id v sz 0 k)=.lst k cs:=by simp[qz,h]
theorem Zcm{α β:Type}{f:β->α->β}{b:β}{l:List α}{i:Nat}{a:α}(h:l[i]?=some a):(l.take (i+1)).foldl f b=f ((l.take i).foldl f b) a:=by grind[List.take_succ_eq_append_getElem]
theorem Zon{x:Inst}{d:zp}{s:Stop}{b:Spot}(h:b∈qp x d s)(hb:b.t≠d.length):∃l,d[b.t]?=some l/\0<l.length/\b.p<=l.length:=by
 obtain⟨-,-,-,-,h⟩:=Wn h;rcases h with ⟨l,hl,hi,ho,-⟩ | ⟨rfl,-⟩
 ·refine⟨l,hl,?_,hi⟩;have hself:zQ x l=0\/zQ x l=13:=by
   by_cases hf:zQ x l=13
   ·exact .inr hf
   ·rw[if_neg hf]at ho;exact .inl (Qi.1 DQ l (Ab hl))
  have hst:qP x l=true:=by
   cases e:qP x l with
   | true=>rfl
   | false=>rw[Zch e]at hself;rcases hself with h | h<;>cases h
  exact BS.2 (Wp hst)
 ·exact absurd rfl hb
theorem Zoo{x:Inst}{d:zp}{s:Stop}{b:Spot}(h:b∈qp x d s):b.t<=d.length:=by
 obtain⟨-,-,-,-,h⟩:=Wn h;rcases h with ⟨l,hl,-⟩ | ⟨rfl,-⟩
 ·exact DP (Ac.1 hl).1
 ·exact Ag _
theorem Zcn(x:Inst)(d:zp)(s:Stop)(hx:x.cust.length<=1048576)(hdo:DayOk d)(hf:d.flatten.length<=1000000):Pure prog 323 [.agg (zy x),.agg [L d],.agg [I s.c,I s.q]] (.tup [.agg [L (yN x d s).1],B (yN x d s).2]):=by
 have hit:=Zgi x d s hx hdo DQ;have hsee:=ZfO x d hx hdo DQ;have hmem:=λh=>V7 (l:=qp x d s) h
 have hle:∀b∈qp x d s,b.t<=d.length:=λb hb=>Zoo hb
 have htour:∀b∈qp x d s,b.t≠d.length->∃l,d[b.t]?=some l/\0<l.length/\b.p<=l.length:=λb hb=>Zon hb
 have hins:yN x d s=bif (Zu (qp x d s)).2 then (jI d (Zu (qp x d s)).1 s,true) else (d,false):=rfl
 have hsF:=ZfL (Zs x d) s rfl;rw[hins];clear hins;generalize qp x d s=xs at *;generalize hlk:Zs x d=lk at *;have hdn:=hdo.n;have hd1:∀l∈d,l.length<=1000000:=λl hl=>AB (Yz hl).length_le hf
 refine zr func323 ntmps323 results323 λS nx hd=>?_
 refine D0 ?_;intro v0 v1 v2 v3;refine D0 ?_;intro v4 v5
 repeat apply za
 refine zz none (Row.pures [0,1,2,3,4] .done) mixed trivial ?_;refine zH (hsee) trivial ?_;refine zH (hsF) trivial ?_;refine zj (JX (xs:=xs.map Zt) (σ:=Spot × Bool) (λi st=>st=(xs.take i).foldl YA (⟨0,0,0⟩,false)) [(3,.ptr nx v0 0),(4,.ptr (nx+1) v1 0),(5,.ptr (nx+2) v2 0),(6,.ptr (nx+3) v3 0),(8,.ptr (nx+4) v4 0),(9,.ptr (nx+5) v5 0)] (λ_=>S)
  (λ(b,found)=>[.cells v0 25 (zy x),.cells v1 39 [L d],.cells v2 100 [I s.c,I s.q],.cells v3 39 [yu],.cells v4 400 [I b.t,I b.p,I b.m],.cells v5 4 [B found]]) (⟨0,0,0⟩,false)
  hit rfl (by intro x hx;obtain⟨y,_,rfl⟩:=Al.1 hx;rfl) DX DR DR rfl DR DR ?_ ?_)
 ·rintro l i ⟨b,found⟩ more y hst hy;simp only at hst ⊢;rw[Aj]at hy;obtain⟨p,hp,rfl⟩:=Ao.1 hy;have hsucc:=Zcm (f:=YA) (b:=(⟨0,0,0⟩,false)) hp;rw[<-hst]at hsucc;unfold YA at hsucc;simp only at hsucc;refine zb ?_;intro v6;refine zj ?_;cases found with
  | false =>
   rw[if_pos (.inl rfl)]at hsucc;refine za (ze [(2,21)] zB ?_);refine zk rfl (zb ?_);simp only[jF];exact wS (p,true) [_] hsucc.symm rfl DT
  | true =>
   by_cases hm:p.m<b.m
   ·rw[if_pos (.inr hm)]at hsucc;refine za (ze [(2,21)] (zo hm zB) ?_);refine zk rfl (zb ?_);simp only[jF];exact wS (p,true) [_] hsucc.symm rfl DT
   ·rw[if_neg (by simp[hm])]at hsucc;refine za (ze [(2,21)] (zo hm zB) ?_);refine zm rfl (zh ?_);simp only[jF];exact wS (b,true) [_] hsucc.symm rfl DT
 ·rintro⟨b,found⟩ hst;simp only[List.length_map,Ai]at hst ⊢;have hbz:Zu xs=(b,found):=hst.symm;rw[hbz]at hmem ⊢;simp only at hmem ⊢;cases found with
  | false =>
   simp only[cond_false];refine D0 ?_;refine zt (ZnS d hdn (λl hl=>AB (hd1 l hl) DX)) ?_;refine za (zj (D0 ?_));refine zk rfl (D0 ?_);exact zg (zi hd DT (by simp[zn]))
  | true =>
   have hb:=hmem rfl;have hbl:=hle b hb;simp only[cond_true]
   by_cases hbt:b.t=d.length
   ·have hpd:jI d b s=d++[[s]]:=by unfold jI;rw[if_pos hbt]
    rw[hpd];have hfl:(d.flatMap Enc.enc:List PV).length=d.length:=jR d;have htk:(d.flatMap Enc.enc:List PV).take d.length=d.flatMap Enc.enc:=Ae DQ;have hsn:((d++[[s]]).flatMap Enc.enc:List PV)=d.flatMap Enc.enc++[L [s]]:=by rw[Ar];rfl
    refine D0 ?_;refine λhsuf=>((Zol d hdn (λl hl=>AB (hd1 l hl) DX) _ _ jP).mono ?_).v
    rintro _ _ ⟨v7,rfl,rfl⟩;refine⟨_,_,X6 3 _,jG [] Nat.add_assoc hsuf ?_⟩;generalize hds:(d.flatMap Enc.enc:List PV)=ds at *;refine za (zj (D0 ?_));refine zm rfl (D0 ?_);refine zk DV ?_;refine zz (some [nx+2]) (Row.pures [0,2,3,4] (.alt 1 (.alt 5 (Row.pures [6] (.alt 7 (.done) .stop)) .stop) .stop)) mixed (zo hfl htk) ?_;refine zH (ZbP s) (zo hfl htk) ?_;refine⟨by omega,?_⟩;refine zZ 9 rfl ?_;refine D0 ?_;exact zg (zi hd DT (by simp[zn,hfl,hds]))
   ·obtain⟨l,hl,hl0,hp⟩:=htour b hb hbt;have hblt:b.t<d.length:=DQ
    have hpd:jI d b s=d.set b.t (j6 l b.p s):=by unfold jI;rw[if_neg hbt,Aa,hl];rfl
    have hl1:=hd1 l (Ab hl);rw[hpd];refine D0 ?_;refine λhsuf=>((ZnT d b.t l hdn (λl hl=>AB (hd1 l hl) DX) hl hl0 _ _ jP).mono ?_).v
    rintro _ _ ⟨v7,w7,rfl,rfl⟩;refine⟨_,_,Zok _ _ rfl,jG [] Nat.add_assoc hsuf ?_⟩;refine za (zj (D0 ?_));refine zm rfl (D0 ?_);refine zm DV ?_;refine za (ze [] hblt ?_);refine zz (some [nx+4,nx+2]) (Row.pures [0,1,2,3,5,6,7,8] (.alt 4 (.alt 9 (Row.pures [10,11] (.alt 12 (.done) .stop)) .stop) .stop)) mixed hblt ?_
    skip
    refine((ZnP l b.p s hp hl1 DR).mono ?_).v;rintro _ _ ⟨rfl,rfl⟩;have hcl:((j6 l b.p s).flatMap Enc.enc:List PV).length=(l.length+1)*2:=by
     have e:=(Wo l s b.p).length_eq;rw[Qb,e];simp
    have hLi:L (j6 l b.p s)=.lst (l.length+1) ((j6 l b.p s).flatMap Enc.enc):=by
     have e:=(Wo l s b.p).length_eq
     show PV.lst _ _=_
     rw[e];rfl
    rw[show l.take b.p++s :: l.drop b.p=j6 l b.p s from rfl];generalize hcs:((j6 l b.p s).flatMap Enc.enc:List PV)=cs at *;rw[yk _ DQ DR,AH];refine⟨by simp[yK],jy hblt ?_⟩;refine⟨by omega,?_⟩;rw[Zom _ _ _ _ (by rw[jR];exact hblt)];have e10:qz (nx+10) (w7+1) cs (.sl (nx+10) (w7+1) 2 0 (l.length+1))=L (j6 l b.p s):=by
     rw[Zgk _ _ _ _ _ hcl.symm,hLi]
    have e9:qz (nx+9) v7 ((d.set b.t (j6 l b.p s)).flatMap Enc.enc) (.sl (nx+9) v7 1 0 d.length)=L (d.set b.t (j6 l b.p s)):=by
     rw[Zgk _ _ _ _ _ (by rw[jR];simp)]
     show _=PV.lst _ _
     rw[BH]
    have n9:qz (nx+10) (w7+1) cs (.sl (nx+9) v7 1 0 d.length)=.sl (nx+9) v7 1 0 d.length:=by
     simp only[qz];rw[if_neg DQ]
    refine zZ 10 rfl ?_;simp only[AA,Bk,AU,A5,xG,Zoj,e10,Zgj,n9];refine zZ 9 rfl ?_;simp only[AA,Bk,AU,A5,xG,e9];refine za (ze [] (zo e9 n9) ?_);exact zg (zi hd DT (by simp[zn]))
open Go Go.Proofs
theorem Zgl{α:Type}(f:Nat->List α)(m:Nat):∀n,(∀t,t<n->(f t).length<=m)->((List.range n).flatMap f).length<=n*m
 | 0,_=>by simp
 | n+1,h=>by
  rw[AK,Ar,List.length_append];have h1:=Zgl f m n λt ht=>h t DQ
  have h2:=h n DQ;simp only[Az,Co,AD];rw[Nat.add_mul,DJ];omega
theorem Zop{d:zp}(h1:d.length<=1000000)(h2:d.flatten.length<=1000000):(Qj d).length<=1000001*1000001:=by
 unfold Qj;refine AB (Zgl _ 1000001 _ λt _=>?_) (Ci _ DQ);rw[List.length_map,List.length_range,Aa];cases hq:d[t]? with
 | none=>simp
 | some l =>
  have:=(Yz (Ab hq)).length_le;simp only[Option.getD_some];omega
theorem Zoq{x:Inst}{d:zp}{s:Stop}(hd:yg x d=0)(h1:d.length<=1000000)(h2:d.flatten.length<=1000000):(qp x d s).length<=1000001*1000001:=by
 rw[Zn7 hd];exact AB (CA _ _) (Zop h1 h2)
theorem Zor(cs:List PV)(v:PV)(h:0<cs.length):yf cs (cs.length-1) [v]=cs.set (cs.length-1) v:=by
 unfold yf;rw[AE,if_pos DQ];simp
theorem Zgm:∀(l:List Int) (k:Nat) (v:Int),(l.flatMap Enc.enc:List PV).set k (I v)=(l.set k v).flatMap Enc.enc
 | [],k,v=>rfl
 | a :: l,0,v=>rfl
 | a :: l,k+1,v=>by
  rw[AU,Az,Az,<-Zgm l k v];rfl
theorem Zos(st:List Int × Int)(p:Spot):(wY st p).1.length<=st.1.length+1:=by
 unfold wY;split<;>simp
def Zco(st:List Int × Int):Prop:=st.2=-1\/0<st.1.length
theorem Zot{st:List Int × Int}(h:Zco st)(p:Spot):Zco (wY st p):=by
 unfold wY;split
 ·exact .inr DR
 ·rename_i e;rcases h with h | h
  ·exfalso;simp only[ne_eq]at e;omega
  ·exact .inr (by simpa using h)
theorem Zou(x:Inst)(d:zp)(s:Stop)(hx:x.cust.length<=1048576)(hdo:DayOk d)(h0:yg x d=0)(h1:d.length<=1000000)(h2:d.flatten.length<=1000000):Pure prog 351 [.agg (Zs x d),.agg [I s.c,I s.q]] (L (J9 x d s)):=by
 have hit:=Zgi x d s hx hdo DQ;have hfold:=Zoc (s:=s) h0;have hlen:=Zoq (s:=s) h0 h1 h2;have hml:=Zod x d s (d.length+1);have hsF:=ZfL (Zs x d) s rfl;unfold J9;rw[<-hfold]at hml ⊢;clear hfold;generalize qp x d s=xs at *;obtain⟨on,tw,fs,bd,ls,ws,hlk⟩:∃on tw fs bd ls ws,Zs x d=uJ x d on tw fs bd ls ws:=⟨_,_,_,_,_,_,rfl⟩;rw[hlk]at hit hsF ⊢;clear hlk;refine zr func351 ntmps351 results351 λS nx hd=>?_
 refine D0 ?_;intro v0 v1;refine D0 ?_;intro v2;refine D0 ?_;intro v3
 repeat apply za
 refine zb ?_;refine zt hsF ?_;refine jg 2 0 3 1 rfl rfl λv4=>?_
 refine zj (JX (xs:=xs.map Zt) (σ:=(List Int × Int) × Nat) (λi st=>st.1=(xs.take i).foldl wY ([],-1)/\Zco st.1/\st.1.1.length<=i/\i<=xs.length) [(2,.ptr nx v0 0),(3,.ptr (nx+1) v1 0),(5,.ptr (nx+2) v2 0),(6,.ptr (nx+3) v3 0)] (λ_=>S)
  (λ((l,last),v4)=>[.cells v0 395 (uJ x d on tw fs bd ls ws),.cells v1 100 [I s.c,I s.q],.cells v2 26 [.sl (nx+4) v4 1 0 l.length],.cells v3 3 [I last],.cells v4 3 (l.flatMap Enc.enc)]) (([],-1),v4)
  hit rfl (by intro x hx;obtain⟨y,_,rfl⟩:=Al.1 hx;rfl) DX DR ⟨rfl,.inl rfl,by simp,by simp⟩ rfl DR DR ?_ ?_)
 ·rintro lp i ⟨⟨l,last⟩,v4⟩ more y ⟨hst,hok,hli,hi⟩ hy;simp only at hst hok hli hi ⊢;rw[Aj]at hy;obtain⟨p,hp,rfl⟩:=Ao.1 hy;have hsucc:=Zcm (f:=wY) (b:=([],-1)) hp;rw[<-hst]at hsucc;have hok2:=Zot hok p;have hln2:=Zos (l,last) p;simp only at hln2;have hil:=(Ac.1 hp).1;have hdef:wY (l,last) p=wY (l,last) p:=rfl
  conv at hdef=>rhs;unfold wY
  simp only at hdef;have hlf:(l.flatMap Enc.enc:List PV).length=l.length:=jm l;have hlt:(l.flatMap Enc.enc:List PV).take l.length=l.flatMap Enc.enc:=Ae DQ;refine zb ?_;intro v5;refine zj ?_
  repeat apply za
  refine zb ?_
  by_cases hpl:(p.t:Int)=last
  ·have hl0:0<l.length:=by
    rcases hok with e | e
    ·simp only at e;omega
    ·exact e
   obtain⟨m,hm⟩:∃m,l.length=m+1:=⟨l.length-1,by omega⟩;obtain⟨z,tz,z1,z2,z3,z0⟩:=zE rfl l m DQ;rw[if_neg (by simp[hpl])]at hdef;have hgz:l.getD (l.length-1) 0=z:=by rw[hm,B0,Aa,z1];rfl
   rw[hgz]at hdef;have wm:IntKind.i64.wrap ((l.length:Int)-1)=(m:Int):=by rw[wr _ DQ DQ];omega
   have hml1:m<l.length:=DQ
   have hml2:1<=l.length-m:=DQ
   have hsp:=Zor (l.flatMap Enc.enc) (I (if p.m<z then p.m else z)) DQ;rw[hlf,Zgm]at hsp;have hmin:xh z p.m=if p.m<z then p.m else z:=rfl
   refine zm (by simp[hpl]) ?_;refine zh ?_;rw[show l.length-1=m by omega]at hsp;refine zz (some [nx+2,nx+(more.length+5)]) (Row.pures [0,1,2,3,4,5,6,7,8,10,11] (.alt 9 (Row.pures [12,13] (.alt 14 (.done) .stop)) .stop)) mixed (zP wm hml1 hml2 z0 hmin hlf) ?_;refine⟨by omega,?_⟩;simp only[jF];rw[hm,B0]at hdef;rw[hdef]at hsucc hok2;refine wS ((l.set m (if p.m<z then p.m else z),last),v4) [_] ⟨hsucc.symm,hok2,by simp;omega,by omega⟩ rfl (by simp[hsp];rfl)
  ·rw[if_pos hpl]at hdef;rw[hdef]at hsucc hok2 hln2;have w0:IntKind.i64.wrap (l.length:Int)=(l.length:Int):=wr _ DQ DQ;have w2:(l.length:Int)<(l.length:Int)+1:=DQ
   have hmin:xh p.m p.m=p.m:=by unfold xh;split<;>rfl
   have hat:(l.flatMap Enc.enc++[I p.m]:List PV)[l.length]?=some (I p.m):=by rw[Am DQ,hlf,BA];rfl
   have hdl:(l.flatMap Enc.enc++[I p.m]:List PV).drop l.length=[I p.m]:=by rw[<-hlf,List.drop_left]
   have hspl:yf (l.flatMap Enc.enc++[I p.m]:List PV) l.length [I p.m]=l.flatMap Enc.enc++[I p.m]:=by
    unfold yf;rw[<-hlf,List.take_left,AS DR];simp
   refine zk (by simp[hpl]) ?_;refine zz (some [nx+(more.length+5)]) (Row.pures [1,2,3,5,6] (.alt 0 (.alt 4 (.alt 7 (.alt 8 (.done) .stop) .stop) .stop) .stop)) mixed (zo hlf hlt) ?_;refine⟨by omega,?_⟩;refine zz (some [nx+2,nx+(more.length+5)]) (Row.pures [0,1,2,3,4,5,6,7,8,10,11] (.alt 9 (Row.pures [12,13] (.alt 14 (.done) .stop)) .stop)) mixed (yv w0 w2 hmin hat hlf) ?_;simp only[jF];refine wS ((l++[p.m],(p.t:Int)),v4+1) [_] ⟨hsucc.symm,hok2,by simp;omega,by omega⟩ rfl (by simp[hspl];rfl)
 ·rintro⟨⟨l,last⟩,v4⟩ ⟨hst,-⟩;simp only[List.length_map,Ai]at hst ⊢;rw[<-hst]at hml ⊢;simp only at hml ⊢;have hz4:=Qc l;refine D0 ?_;refine λhsuf=>((VT l DR DQ).mono ?_).v
  rintro _ _ rfl;refine⟨_,_,yk _ DQ DR,jG [] (show nx+4-nx=4 by omega) hsuf ?_⟩;generalize yT l=c at *;rw[<-hz4];refine zZ 4 rfl ?_;refine D0 ?_;exact D1 hd
open Go Go.Proofs Go.Shelf Go.RowKit Go.Lib
theorem Zov{P:Program}(b o:Nat)(vs:List Value)(w:World)(cur:Array Value)(t:TypeId)(hw:w.heap[b]?=some (.cells cur t (0,0)))(hl:o+vs.length<=cur.size)(h1:∀v∈vs,v.oneCell'=true):
  w.setCells b o vs=w.setRow b (cur.toList.take o++vs++cur.toList.drop (o+vs.length)).toArray:=by
 have a:=run_storeCells_cells (P:=P) b o vs 0 w (λj hj=>by simp[World.cell?,hw];omega) (λj _=>by simp[World.frozen?,hw]) h1;have c:=run_storeCells_at (P:=P) b o t vs 0 cur w hw (by simpa using hl) h1;rw[a]at c;simpa using c
theorem Zow(zc:Array Value):(Builtin.zeroCells zc 1).toList=zc.toList:=by
 apply A7
 ·simp[Builtin.zeroCells]
 ·intro i h1 h2;simp[Builtin.zeroCells,Dp (show i<zc.size by simpa using h2)];exact getElem!_pos zc i (by simpa using h2)
theorem Zox{P:Program}(w:World)(t e ty:TypeId)(zc:Array Value)(ht:P.underlying t=some (.slice e))(hv:∀w,(zeroValue e).run P w=.ok (.agg zc) w)(h1:∀v∈zc.toList,v.oneCell'=true)(b o c:Nat)(cur:Array Value)(t':TypeId)(hw:w.heap[b]?=some (.cells cur t' (0,0)))(hl:o+zc.size<=cur.size):
  (Builtin.clear_ #[t] ty #[.slice (some ⟨b,o,none⟩) 1 c]).run P w=.ok (.tuple #[]) (w.setRow b (cur.toList.take o++zc.toList++cur.toList.drop (o+zc.size)).toArray):=by
 have c:=run_storeCells_at (P:=P) b o t' zc.toList 0 cur w hw (by simpa using hl) h1;simp only[Bz,Array.length_toList]at c;simp[Builtin.clear_,run_underlying ht,hv,Zow,c]
theorem Zoy(b n c i:Nat)(V:List Value)(w:World)(i0:TypeInfo)(hi0:prog.info? 100=some i0)(hzs:i0.size=2)(cur:Array Value)(hcur:w.heap[b]?=some (.cells cur 100 (0,0)))(hcc:cur.size=c*2)
  (hi:i<n) (hnc:n<=c) (hc63:c<=9223372036854775807) (hn:n<=1048576) (hV:V.length=n*2) (hcV:cur.toList.take (n*2)=V) (h1:∀v∈V,v.oneCell'=true) (R1 R2:Array Value)
  (hR1:R1=(cur.toList.take (i*2)++V.drop ((i+1)*2)++cur.toList.drop (i*2+(V.drop ((i+1)*2)).length)).toArray) (hR2:R2=(R1.toList.take ((i+(n-(i+1)))*2)++([.int .i64 0,.int .i64 0]:List Value)++R1.toList.drop ((i+(n-(i+1)))*2+2)).toArray) :
  Calls prog 335 #[.slice (some ⟨b,0,none⟩) n c,.int .i64 i,.int .i64 ((i:Int)+1)] w λe w' =>
   e=.returned (.slice (some ⟨b,0,none⟩) (i+(n-(i+1))) c)/\w'=(w.drew.setRow b R1).setRow b R2:=by
 obtain⟨news,hnews⟩:∃news,news=V.drop ((i+1)*2):=⟨_,rfl⟩;have hlen:news.length=(n-(i+1))*2:=by rw[hnews,Bq,hV];omega
 have hget:∀t u,news[t]?=some u->w.drew.cell? ⟨b,(i+1)*2+t,none⟩=some u:=by
  intro t u hu;rw[hnews,AP,<-hcV,BG]at hu;split at hu
  ·rw[Array.getElem?_toList]at hu
   show w.cell? _=_
   simp[World.cell?,hcur,hu]
  ·cases hu
 obtain⟨A,hA,hsrc⟩:∃A:Addr,(if c=i+1 then some (⟨b,0,none⟩:Addr) else some ⟨b,(i+1)*2,none⟩)=some A/\Hid (∀t u,news[t]?=some u->w.drew.cell? (A.add t)=some u):=by
  by_cases h:c=i+1
  ·refine⟨⟨b,0,none⟩,by simp[h],λt u hu=>?_⟩;have h0:news.length=0:=by rw[hlen];omega
   rw[Cn.1 h0]at hu;simp at hu
  ·refine⟨⟨b,(i+1)*2,none⟩,by simp[h],λt u hu=>?_⟩;rw[Addr.add_lit];exact hget t u hu
 have s1:Hid (news.length=(n-(i+1))*2):=hlen;have s2:Hid (∀u∈news,u.oneCell'=true):=λu hu=>h1 u (by rw[hnews]at hu;exact B5 hu)
 have s3:Hid (∀t,t<news.length->(w.drew.cell? ⟨b,0+i*2+t,none⟩).isSome=true/\w.drew.frozen? ⟨b,0+i*2+t,none⟩=false):=by
  intro t ht;rw[hlen]at ht;refine⟨?_,?_⟩
  ·show (w.cell? _).isSome=true
   simp[World.cell?,hcur];omega
  ·show w.frozen? _=false
   simp[World.frozen?,hcur]
 obtain⟨W1,hW1⟩:∃W1,W1=w.drew.setCells b (0+i*2) news:=⟨_,rfl⟩;have hW1':W1=w.drew.setRow b R1:=by
  rw[hW1,Zov (P:=prog) b (0+i*2) news w.drew cur 100 hcur (by rw[hlen,hcc];omega) s2,hR1,hnews,AR]
 have hW1h:W1.heap[b]?=some (.cells R1 100 (0,0)):=by rw[hW1'];exact setRow_heap _ _ _ _ _ _ hcur
 have hR1s:R1.size=c*2:=by rw[hR1,<-hnews];simp[hlen];omega
 have hcl:∀ty,(Builtin.clear_ #[40] ty #[.slice (some ⟨b,(i+(n-(i+1)))*2,none⟩) (n-(i+(n-(i+1)))) (c-(i+(n-(i+1))))]).run prog W1=.ok (.tuple #[]) (W1.setRow b R2):=λty=>by
  have:=Zox (P:=prog) W1 40 100 ty #[.int .i64 0,.int .i64 0] underlying40 zeroValue100 (by intro v hv;simp at hv;rcases hv with rfl | rfl<;>rfl) b ((i+(n-(i+1)))*2) (c-(i+(n-(i+1)))) R1 100 hW1h DV;rw[show n-(i+(n-(i+1)))=1 by omega,this,hR2];simp
 have hW:Hid (W1=w.drew.setCells b (0+i*2) news):=hW1;have hX:Hid (W1=w.drew.setRow b R1):=hW1';clear hW1 hW1' hW1h hR1 hR2 hR1s hcur hcV hget hnews hlen h1 hV hcc;have hic:i<=c:=DQ
 have hjc:i+1<=c:=DQ
 have hin:i<=n:=DQ
 have hjn:i+1<=n:=DQ
 have hne:¬(i:Int)=(i:Int)+1:=DQ
 have hb1:(0:Int)<=(i:Int)+1:=DQ
 have htn:((i:Int)+1).toNat=i+1:=DQ
 have hb2:(i:Int)+1<=(n:Int):=DQ
 have hb3:(i:Int)<=(i:Int)+1:=DQ
 have hcn:¬c=i+(n-(i+1)):=DQ
 have hnn:i+(n-(i+1))<=n:=DQ
 have mixed:prog.follows .mixedOrders=true:=DU
 go_enter func335,ntmps335
 go_wp2_with fail
 go_region_law_o (refine step_append_room rfl (.tmp 22) (.tmp 25) 40 rfl 100 i0 2 underlying40 hi0 hzs b 0 i c (by simp[Act.eval,Act.put]) A (n-(i+1)) (c-(i+1)) news (by simp[Act.eval,Act.put]) s1.out hsrc.out s2.out DQ s3.out ?_;rw[<-hW.out])
 go_wp2
 go_ret
 exact⟨rfl,by rw[hX.out]⟩
theorem Zoz(l:List Stop)(i:Nat)(h:i<l.length):yq (l.eraseIdx i)=(yq l).take (i*2)++(yq l).drop ((i+1)*2):=by
 rw[CK,ZbI,Ze4 l i DQ,Ze5 l (i+1) DQ]
theorem ZoA{S:Store}{id ver:Nat}(cs:List Stop)(i:Nat)(hi:i<cs.length)(hn:cs.length<=1000000)(hid:S id=.cells ver 100 (cs.flatMap Enc.enc)):
  Spec prog 335 [.sl id ver 2 0 cs.length,I i,I ((i:Int)+1)] S (λp S'=>p=.sl id (ver+1) 2 0 (cs.eraseIdx i).length/\S'=S.set id (.cells (ver+1) 100 ((cs.eraseIdx i).flatMap Enc.enc))):=by
 refine⟨qn func335 DW rfl,?_⟩;intro C w vs hS hl hr;obtain⟨u,v,x,rfl⟩:=Ze6 hl;obtain rfl:=Q0 (hr 1 _ v rfl rfl);obtain rfl:=Q0 (hr 2 _ x rfl rfl);have hu:=hr 0 _ u rfl rfl;have hvl:(yq cs).length=cs.length*2:=J2 cs;have hel:(cs.eraseIdx i).length=i+(cs.length-(i+1)):=by rw[BN hi];omega
 have hnew:=Zoz cs i hi;have hnl:(yq (cs.eraseIdx i)).length=(i+(cs.length-(i+1)))*2:=by rw[J2,hel]
 rw[Ze3]at hid ⊢;rw[hel];generalize cs.eraseIdx i=es at *;obtain⟨i0,hi0⟩:=BZ.1 Zbx;have hc:=Zbw;simp only[Program.cellsOf,hi0,AZ,Option.getD_some]at hc;cases hu with
 | sl h1 h2 h3 =>
  obtain⟨ad,cap,rfl,q1,q2,q3,q4⟩:=h1;have hloc:=(h3 ver (by rw[hid];rfl)).2 rfl;rcases hS.cells id ver _ _ hid with ⟨hno,hnil⟩ | ⟨b,k,c,g1,g2,g3,g4,g5,g6⟩
  ·have:=congrArg List.length hnil;simp[hvl]at this;exfalso;omega
  rcases hloc with ⟨z1,_⟩ | ⟨b',k',ad',cap',z1,z2,z3,z4⟩
  ·rw[g1]at z1;cases z1
  rw[g1]at z1;cases z1;cases z2;obtain⟨rfl,hcap⟩:=z3 rfl;rw[List.length_map,hvl]at g4;have hcells:∀(j:Nat) v,(yq cs)[j]?=some v->c[j]?=some v:=by
   intro j v hj;have hjl:=(Ac.1 hj).1;have e2:c[j]?=some c[j]:=AW DQ;have:=g6 j (.sc v) _ (by rw[Aj,hj];rfl) e2;rw[e2];generalize c[j]=y at this;cases this;rfl
  have hcur:c.toList.take (cs.length*2)=yq cs:=by
   apply A6;intro j
   by_cases hj:j<cs.length*2
   ·rw[AM hj,Array.getElem?_toList];have e:(yq cs)[j]?=some (yq cs)[j]:=Af DQ;rw[e,hcells j _ e]
   ·rw[Ak DV,Ak DQ]
  have hcsz:c.size=cap*2:=g3.trans hcap.symm;have hdl:((yq cs).drop ((i+1)*2)).length=(cs.length-(i+1))*2:=by rw[Bq,hvl];omega
  obtain⟨R1,hR1⟩:∃R1:Array Value,R1=(c.toList.take (i*2)++(yq cs).drop ((i+1)*2)++c.toList.drop (i*2+((yq cs).drop ((i+1)*2)).length)).toArray:=⟨_,rfl⟩;obtain⟨R2,hR2⟩:∃R2:Array Value,R2=(R1.toList.take ((i+(cs.length-(i+1)))*2)++([.int .i64 0,.int .i64 0]:List Value)++R1.toList.drop ((i+(cs.length-(i+1)))*2+2)).toArray:=⟨_,rfl⟩;have htk:c.toList.take (i*2)=(yq cs).take (i*2):=by rw[<-hcur,Dd,Be DQ]
  have hR1l:R1.toList.take ((i+(cs.length-(i+1)))*2)=yq es:=by
   rw[hR1];simp only[];rw[htk,<-hnew,<-hnl,List.take_left]
  have hR1s:R1.size=cap*2:=by rw[hR1];simp[hdl];omega
  have hR2l:R2.toList=yq es++(([.int .i64 0,.int .i64 0]:List Value)++R1.toList.drop ((i+(cs.length-(i+1)))*2+2)):=by
   rw[hR2,hR1l];simp
  have hR2s:R2.size=cap*2:=by
   rw[<-Array.length_toList,hR2l];simp[hnl,hR1s];omega
  refine(Zoy b cs.length cap i (yq cs) w i0 hi0 hc c g2 hcsz hi q1 (by unfold maxLen at q3;omega) DQ hvl hcur (J3 cs) R1 R2 hR1 hR2).mono ?_;rintro e w' ⟨rfl,rfl⟩;obtain⟨r1,r2⟩:=ZbJ (C:=C) (S:=S) (w:=w) hR2l (J3 _);have hb1:=setRow_heap w.drew b c R1 _ _ g2;obtain⟨t1,t2⟩:=hS.turn (l:=some (b,cap*2)) (ver':=ver+1) (cs':=(yq es).map .sc) hid DQ (λh=>absurd h DQ) (w':=(w.drew.setRow b R1).setRow b R2)
   (by
    rw[g1];refine⟨⟨rfl,rfl,rfl,by simp[World.setRow],λj hj hne=>?_⟩,CI _⟩;have hjb:j≠b:=λe=>hne (by rw[e];rfl)
    rw[setRow_other _ _ _ _ hjb,setRow_other _ _ _ _ hjb];rfl)
   (.inr ⟨b,cap*2,R2,rfl,.inr (by rw[g1];rfl),setRow_heap _ _ _ _ _ _ hb1,hR2s,by rw[List.length_map,hnl];omega,r1,r2⟩)
  refine⟨_,_,_,_,rfl,⟨rfl,rfl⟩,?_,t1,t2⟩;refine .sl ⟨_,_,rfl,by omega,by unfold jY;omega,q3,λ_=>⟨_,_,rfl⟩⟩ ⟨h2.1,by simp only[Ctx.at];omega⟩ λv0 hv0=>?_
  rw[q11]at hv0;cases hv0;exact⟨Ag _,λ_=>.inr ⟨b,_,_,_,by simp[Ctx.at],rfl,λ_=>⟨rfl,rfl⟩,λ_=>rfl⟩⟩
open Go Go.Proofs
def Jd(c:Int)(l:List Stop):Int:=((l.filter λs=>decide (s.c=c)).map (·.q)).sum
theorem ZoB(c:Int)(d:zp):Zf1 c d=W (Jd c d.flatten):=rfl
theorem ZoC(c:Int)(l:List Stop)(s:Stop):Jd c (l++[s])=Jd c l+if s.c=c then s.q else 0:=by
 unfold Jd;rw[B1,List.map_append,List.sum_append]
 by_cases h:s.c=c<;>simp[h]
theorem ZoD(c:Int)(l:List Stop)(s:Stop):xP c (l++[s])=xP c l++if s.c=c then [] else [s]:=by
 unfold xP;rw[B1]
 by_cases h:s.c=c<;>simp[h]
theorem ZoE(c:Int)(d:zp)(t:zL):j7 c (d++[t])=j7 c d++if (xP c t).length=0 then [] else [xP c t]:=by
 rw[Zn3];congr 1;unfold j7;rw[AA,Bk];generalize xP c t=u;cases u<;>simp
theorem Zcp(c:Int)(t:zL):(xP c t).length<=t.length:=BE _ _
theorem Zgn(c:Int)(d:zp):(j7 c d).length<=d.length:=by
 unfold j7;exact AB (BE _ _) DR
theorem ZoF(d:zp)(c:Int)(hdn:d.length<=1048576)(hdt:∀t∈d,t.length<=1048576):Pure prog 321 [.agg [L d],I c] (.tup [.agg [L (j7 c d)],I (Zf1 c d)]):=by
 rw[ZoB];refine zr func321 ntmps321 results321 λS nx hd=>?_
 refine D0 ?_;intro v0 v1;refine D0 ?_;intro v2;refine jg 2 0 42 1 rfl rfl λv3=>?_
 refine D0 ?_
 repeat apply za
 refine zb ?_;refine zj (zC (λ(s:Nat × Nat)=>s.1<=d.length) (λ(k,v3)=>[(1,I c),(4,.ptr (nx+1) v1 0),(6,.ptr (nx+2) v2 0),(7,I (W (Jd c (d.take k).flatten))),(14,L d),(15,I d.length),(16,I k)]) (λ(k,v3)=>[.cells v0 39 [L d],.cells v1 39 [yu],.cells v2 39 [.sl (nx+3) v3 1 0 (j7 c (d.take k)).length],.cells v3 42 ((j7 c (d.take k)).flatMap Enc.enc)]) (λs=>d.length-s.1) (0,v3) [] DR (by simp[Jd]) (by simp[j7]) ?_);rintro⟨k,v3⟩ hk;simp only at hk ⊢;refine D0 ?_;refine za (zv rfl (λhc=>?_) (λhc=>?_))
 ·simp at hc;obtain⟨t,tl,a1,a2,a3,e0⟩:=zE rfl d k hc;have hk1:1<=d.length-k:=DQ
  have htm:=Ab a1;have htn:=hdt t htm;have hrd:=ZoE c (d.take k) t;rw[<-a3]at hrd;have hfl:(d.take (k+1)).flatten=(d.take k).flatten++t:=by rw[a3,List.flatten_append];simp
  generalize (d.take k).flatten=pre at *;have hrl:(j7 c (d.take k)).length<=1048576:=AB (Zgn _ _) (by rw[Aw];omega);refine zh (za (zj ?_));generalize hrk:j7 c (d.take k)=rk at *;have hfz:∀id v cs,(rk.flatMap Enc.enc).map (qz id v cs)=(rk.flatMap Enc.enc:List PV):=λid v cs=>Zoi id v cs rk
  have hrf:(rk.flatMap Enc.enc:List PV).length=rk.length:=jR rk;have hrt:(rk.flatMap Enc.enc:List PV).take rk.length=rk.flatMap Enc.enc:=Ae DQ;refine za (ze [] (zA hc e0 hk1) ?_);intro v4;refine D0 ?_;refine qt 10 100 2 rfl λv5=>?_
  repeat apply za
  refine zb ?_;refine zj (zC (λ(s:Nat × Nat)=>s.1<=t.length) (λ(j,v5)=>[(1,I c),(4,.ptr (nx+1) v1 0),(6,.ptr (nx+2) v2 0),(7,I (W (Jd c (pre++t.take j)))),(10,.sl (nx+5) v5 2 0 (xP c (t.take j)).length),(14,L d),(15,I d.length),(16,I k),(21,L t),(22,I t.length),(23,I j)]) (λ(j,v5)=>[.cells v0 39 [L d],.cells v1 39 [yu],.cells v2 39 [.sl (nx+3) v3 1 0 rk.length],.cells v3 42 (rk.flatMap Enc.enc),.cells v4 42 [L t],.cells v5 100 ((xP c (t.take j)).flatMap Enc.enc)]) (λs=>t.length-s.1) (0,v5) [] DR (by simp[xP]) (by simp[xP]) ?_);rintro⟨j,v5⟩ hj;simp only at hj ⊢;refine D0 ?_;refine za (zv rfl (λhcj=>?_) (λhcj=>?_))
  ·simp at hcj;obtain⟨s,ts,b1,b2,b3,b4,b5⟩:=el 2 rfl t j hcj;have hj2:2<=t.length*2-j*2:=DQ
   have hsum:=ZoC c (pre++t.take j) s;rw[List.append_assoc,<-b3]at hsum;have hrs:=ZoD c (t.take j) s;rw[<-b3]at hrs;have hul:(xP c (t.take j)).length<=1048576:=AB (Zcp _ _) (by rw[Aw];omega);generalize xP c (t.take j)=u at *;have huf:(u.flatMap Enc.enc:List PV).length=u.length*2:=Qb u;have hut:(u.flatMap Enc.enc:List PV).take (u.length*2)=u.flatMap Enc.enc:=Ae DQ;refine zh (za (zj (za (ze [] (zA hcj b5 hj2) ?_))));intro v6;refine D0 ?_;refine zv rfl (λhq=>?_) (λhq=>?_)
   ·simp at hq;rw[if_pos hq]at hsum hrs;rw[AD]at hrs;refine zb ?_;refine zb ?_;exact zq (j+1,v5) [_] DV DV (by simp[zu j (by omega),hsum,uZ,hrs]) rfl (by simp[hrs];rfl)
   ·simp at hq;rw[if_neg hq]at hsum hrs;rw[DC]at hsum;have hul':((xP c (t.take (j+1))).flatMap Enc.enc:List PV)=u.flatMap Enc.enc++[I s.c,I s.q]:=by rw[hrs,Ar];rfl
    refine ze [] (zo huf hut) ?_;refine⟨by omega,?_⟩;refine zb ?_;exact zq (j+1,v5+1) [_] DV DV (by simp[zu j (by omega),hsum,hrs]) rfl (by simp[hul'];rfl)
  ·simp at hcj;obtain rfl:j=t.length:=DQ
   refine zx ?_;rw[Ai];have hul:(xP c t).length<=1048576:=AB (Zcp _ _) htn;generalize xP c t=u at *;have huf:(u.flatMap Enc.enc:List PV).length=u.length*2:=Qb u;refine zZ 5 rfl ?_;simp only[AA,Bk,AU,A5,xG,hfz];refine D0 ?_;refine zv rfl (λhq=>?_) (λhq=>?_)
   ·simp at hq;rw[if_neg DQ]at hrd;have hrl':((rk++[u]).flatMap Enc.enc:List PV)=rk.flatMap Enc.enc++[L u]:=by rw[Ar];rfl
    refine ze [] (zo hrf hrt) ?_;refine⟨by omega,?_⟩;refine zb ?_;exact zq (k+1,v3+1) [_,_] DV DV (by simp[zu k (by omega),hfl]) rfl (by simp[hrd,hrl'];exact⟨rfl,rfl⟩)
   ·simp at hq;rw[if_pos (by rw[hq];rfl),AD]at hrd;refine zh (zb ?_);exact zq (k+1,v3) [_,_] DV DV (by simp[zu k (by omega),hfl]) rfl (by simp[hrd];exact⟨rfl,rfl⟩)
 ·simp at hc;obtain rfl:k=d.length:=DQ
  refine zx (zZ 3 rfl ?_);have g1:d.take d.length=d:=Ai;refine D0 ?_;exact zg (zi hd DT (by simp[zn,g1]))
open Go Hp
theorem ZoG{x:Inst}(h:∀row∈x.dist,∀d∈row,0<=d/\d<=2147483648):q9 x:=by
 intro a b;unfold arc;split
 ·omega
 ·rw[Aa,Aa];cases hr:x.dist[a.toNat]? with
  | none=>simp
  | some row =>
   simp only[Option.getD_some];cases hd:row[b.toNat]? with
   | none=>simp
   | some d=>exact h row (Ab hr) d (Ab hd)
open Go Go.Proofs
theorem Zgo{x:Inst}{d:zp}{s:Stop}(hx:x.cust.length<=1048576)(hdo:DayOk d)(hd1:d.length<=1000000)(hf:d.flatten.length<=1000000):DayOk (yN x d s).1:=by
 unfold yN;cases hb:(Zu (qp x d s)).2 with
 | false=>exact hdo
 | true =>
  have hm:=V7 hb;have hp:=Zcf hm;have hs:=Zgh hx (Wn hm).1;simp only[cond_true];have hfl:(jI d (Zu (qp x d s)).1 s).flatten.length<=1000001:=by rw[hp.length_eq,Ad];omega
  refine⟨?_,λt ht=>?_,λt ht a ha=>?_⟩
  ·unfold jI;split
   ·simp;omega
   ·simp;omega
  ·have:=(Yz ht).length_le;omega
  ·have:=hp.subset ((Yz ht).subset ha);rw[As]at this;rcases this with rfl | h
   ·exact hs
   ·obtain⟨u,hu,hau⟩:=BJ.1 h;exact hdo.s u hu a hau
open Go Go.Proofs
def Zv(l:List Int):Int:=if 1<l.length then W (l.getD 1 0-l.getD 0 0) else 1099511627776
def uk(c:Stop->List Int):List Stop->Nat->Int->Int->Int
 | [],_,place,_=>place
 | s :: l,i,place,most=>if (c s).length=0 then (i:Int) else if place<0\/most<Zv (c s) then uk c l (i+1) (i:Int) (Zv (c s)) else uk c l (i+1) place most
def Z0(x:Inst)(d:zp)(l:List Stop):Int:=uk (J9 x d) l 0 (-1) 0
theorem Zcq(c:Stop->List Int):∀(l:List Stop) (i:Nat) (place most:Int),(l≠[]\/0<=place)->place<i->0<=uk c l i place most/\uk c l i place most<(i+l.length:Nat)
 | [],i,place,most,h,hp=>by
  rcases h with h | h
  ·exact absurd rfl h
  ·simp only[uk,Ah];omega
 | s :: l,i,place,most,_,hp=>by
  unfold uk;split
  ·simp only[Ad];omega
  ·split
   ·have:=Zcq c l (i+1) i (Zv (c s)) (.inr DQ) DQ;simp only[Ad];omega
   ·rename_i hc;have:=Zcq c l (i+1) place most (.inr DQ) DQ;simp only[Ad];omega
theorem Zgp{x:Inst}{d:zp}{l:List Stop}(h:l≠[]):∃k:Nat,Z0 x d l=k/\k<l.length:=by
 have:=Zcq (J9 x d) l 0 (-1) 0 (.inl h) DQ;exact⟨(Z0 x d l).toNat,by unfold Z0;omega,by unfold Z0;omega⟩
def ul(x:Inst):Nat->zp->List Stop->zp × Bool
 | 0,d,_=>(d,true)
 | n+1,d,l=>bif (yN x d (l.getD (Z0 x d l).toNat default)).2 then ul x n (yN x d (l.getD (Z0 x d l).toNat default)).1 (l.eraseIdx (Z0 x d l).toNat) else (d,false)
def jp(x:Inst)(l:List Stop):zp × Bool:=ul x l.length [] l
structure RgOk (x:Inst) (d:zp) (l:List Stop):Prop where
 ok:DayOk d
 may:yg x d=0
 len:d.flatten.length+l.length<=1000
theorem RgOk.dl{x:Inst}{d:zp}{l:List Stop}(h:RgOk x d l):d.length<=1000:=by
 have h1:=V6 d (Zgd h.may);have h2:=h.len;omega
theorem RgOk.step{x:Inst}{d:zp}{l:List Stop}(hx:x.cust.length<=1048576)(h:RgOk x d l){i:Nat}(hi:i<l.length){s:Stop}(hs:(yN x d s).2=true):RgOk x (yN x d s).1 (l.eraseIdx i):=by
 have hf:=h.len;have hl:=h.dl;refine⟨Zgo hx h.ok DQ DQ,?_,?_⟩
 ·unfold yN at hs ⊢;cases hb:(Zu (qp x d s)).2 with
  | false=>rw[hb]at hs;cases hs
  | true=>exact Zci (V7 hb)
 ·rw[(Zcg hs).length_eq,Ad,BN hi];omega
theorem Zgq{x:Inst}(hv:0<=x.veh){l:List Stop}(hl:l.length<=1000):RgOk x [] l :=
 ⟨⟨by simp,by simp,by simp⟩,(wC x []).2 ⟨by simp,by simp,by simpa using hv⟩,by simpa using hl⟩
theorem ZoH{c:Stop->List Int}{l:List Stop}{k:Nat}{s:Stop}{place most:Int}(hd:l.drop k=s :: l.drop (k+1)):
  uk c (l.drop k) k place most=if (c s).length=0 then (k:Int) else if place<0\/most<Zv (c s) then uk c (l.drop (k+1)) (k+1) (k:Int) (Zv (c s)) else uk c (l.drop (k+1)) (k+1) place most:=by
 rw[hd];rfl
theorem ZoI(x:Inst)(d:zp)(l:List Stop)(hx:x.cust.length<=1048576)(h:RgOk x d l){S:Store}{id ver:Nat}(hid:S id=.cells ver 100 (l.flatMap Enc.enc)):
  Spec prog 334 [.agg (Zs x d),.sl id ver 2 0 l.length] S (λp S'=>p=I (Z0 x d l)/\S'=S):=by
 have hf:=h.len;have hl:=h.dl;have hco:=λs=>Zou x d s hx h.ok h.may DQ DQ
 have hu:Z0 x d l=uk (J9 x d) (l.drop 0) 0 (-1) 0:=rfl;rw[hu];clear hu;obtain⟨on,tw,fs,bd,ls,ws,hlk⟩:∃on tw fs bd ls ws,Zs x d=uJ x d on tw fs bd ls ws:=⟨_,_,_,_,_,_,rfl⟩;rw[hlk]at hco ⊢;clear hlk;generalize hcz:J9 x d=cz at *;refine yl func334 ntmps334 results334 λnx hd=>?_
 have hlt:id<nx:=yW hd hid DR;have xid:=λobs=>zD (S:=S) (obs:=obs) hlt
 refine D0 ?_;intro v0;refine D0 ?_
 repeat apply za
 refine zb ?_;refine zj (zC (λs':Nat × Int × Int=>s'.1<=l.length/\uk cz (l.drop s'.1) s'.1 s'.2.1 s'.2.2=uk cz (l.drop 0) 0 (-1) 0) (λ(k,place,most)=>[(2,.ptr nx v0 0),(5,I place),(6,I most),(11,.sl id ver 2 0 l.length),(12,I l.length),(13,I k)]) (λ_=>[.cells v0 395 (uJ x d on tw fs bd ls ws)]) (λs'=>l.length-s'.1) (0,-1,0) [] ⟨by simp,rfl⟩ DR DR ?_);rintro⟨k,place,most⟩ ⟨hk,hg⟩;simp only at hk hg ⊢;rw[<-hg];refine D0 ?_;refine za (zv rfl (λhc=>?_) (λhc=>?_))
 ·simp at hc;obtain⟨s,tl,a1,a2,a3,e1,e0⟩:=el 2 rfl l k hc;have hk2:2<=l.length*2-k*2:=DQ
  have hun:=ZoH (c:=cz) (place:=place) (most:=most) a2;have hcs:=hco s;generalize hc0:cz s=c at *;have wk:=zu k DQ;refine zh (za (zj (za (ze [] (yv xid hid e0 hc hk2) ?_))));intro v1;refine D0 ?_;refine zt hcs ?_
  by_cases h0:c.length=0
  ·rw[if_pos h0]at hun
   repeat apply za
   refine ze [] h0 ?_;refine zk rfl (D0 ?_);exact zg ⟨_,S,DT,⟨by simp[zn,hun],rfl⟩,zR hd⟩
  rw[if_neg h0]at hun
  repeat apply za
  refine zb ?_;refine zm (by simp;exact λe=>h0 (by rw[e];rfl)) ?_;refine zh ?_
  repeat apply za
  refine zb ?_;refine qa (nx:=nx) (λ_:Unit=>True) (λ_=>[(2,.ptr nx v0 0),(5,I place),(6,I most),(7,I k),(10,I (Zv c)),(11,.sl id ver 2 0 l.length),(12,I l.length),(13,I k)]) (λ_=>S) (λ_=>[.cells v0 395 (uJ x d on tw fs bd ls ws)]) ?_ ?_
  ·by_cases h1:1<c.length
   ·obtain⟨a,ta,q1,-,-,q0⟩:=zE rfl c 1 h1;obtain⟨b,tb,r1,-,-,r0⟩:=zE rfl c 0 DQ;have hab:Zv c=W (a-b):=by unfold Zv;rw[if_pos h1,Aa,Aa,q1,r1];rfl
    have g1:1<=c.length-1:=DQ
    have g2:0<c.length:=DQ
    have g3:1<=c.length:=DQ
    have r0':(c.flatMap Enc.enc:List PV)=Enc.enc b++tb:=by simpa using r0
    have h1':(1:Int)<c.length:=DQ
    refine zk DV ?_;rw[r0']at q0;have htb:tb=I a :: ta:=by simpa using q0
    rw[htb]at r0';refine zz none (Row.pures [0,1,2,3,4,5,6,7] .done) mixed (zP r0' h1 h1' g1 g2 g3) ?_;exact zS () [_] trivial (by simp[hab]) rfl DT
   ·have hab:Zv c=1099511627776:=by unfold Zv;rw[if_neg h1]
    refine zm DV ?_;exact zh (zS () [_] trivial (by simp[hab]) rfl DT)
  ·rintro⟨⟩ -;generalize Zv c=ab at *
   by_cases hq:place<0
   ·rw[if_pos (.inl hq)]at hun;refine za (ze [(2,37)] (zo hq zB) ?_);refine zk rfl (zb ?_);refine zb ?_;exact zq (k+1,(k:Int),ab) [] ⟨hc,by rw[<-hun,hg]⟩ DV (by simp[wk]) rfl DR
   ·by_cases hq2:most<ab
    ·rw[if_pos (.inr hq2)]at hun;refine za (ze [(2,37)] (zo hq hq2) ?_);refine zk rfl (zb ?_);refine zb ?_;exact zq (k+1,(k:Int),ab) [] ⟨hc,by rw[<-hun,hg]⟩ DV (by simp[wk]) rfl DR
    ·rw[if_neg (by rintro(q | q);exact hq q;exact hq2 q)]at hun;refine za (ze [(2,37)] (zo hq hq2) ?_);refine zm rfl (zh (zb ?_));exact zq (k+1,place,most) [] ⟨hc,by rw[<-hun,hg]⟩ DV (by simp[wk]) rfl DR
 ·simp at hc;obtain rfl:k=l.length:=DQ
  refine zx ?_;have hgl:uk cz (l.drop l.length) l.length place most=place:=by rw[Bn];rfl
  refine D0 ?_;exact zg ⟨_,S,DT,⟨by simp[zn];rfl,rfl⟩,zR hd⟩
open Go Go.Proofs
theorem ZoJ{x:Inst}{d:zp}{l:List Stop}{k:Nat}{s:Stop}(hu:Z0 x d l=k)(hk:l[k]?=some s):
  ul x l.length d l=bif (yN x d s).2 then ul x (l.eraseIdx k).length (yN x d s).1 (l.eraseIdx k) else (d,false):=by
 have hlt:=(Ac.1 hk).1;obtain⟨n,hn⟩:∃n,l.length=n+1:=⟨l.length-1,by omega⟩;have he:(l.eraseIdx k).length=n:=by rw[BN hlt];omega
 have hg:l.getD k default=s:=by rw[Aa,hk];rfl
 rw[hn,he,ul,hu,AJ,hg]
theorem ZoK{x:Inst}{d:zp}{l:List Stop}(h:RgOk x d l):d.length<=1000/\d.flatten.length<=1000/\l.length<=1000:=by
 have h1:=h.dl;have h2:=h.len;omega
theorem ZoL(x:Inst)(l:List Stop)(hx:x.cust.length<=1048576)(hv:0<=x.veh)(hl:l.length<=1000):Pure prog 319 [.agg (zy x),L l] (.tup [.agg [L (jp x l).1],B (jp x l).2]):=by
 have hb:=Zgq hv hl;unfold jp
 by_cases h0:0<l.length
 case neg =>
  obtain rfl:l=[]:=Aq DQ;have hcl:=V3 [] DR;refine zr func319 ntmps319 results319 λS nx hd=>?_
  refine D0 ?_;intro v0 v1;refine D0 ?_;intro v2;refine qu 2 0 rfl rfl ?_;refine D0 ?_;refine zt hcl ?_;refine za (zj (zC (λ_:Nat=>True) (λ_=>[(2,.ptr nx v0 0),(4,.ptr (nx+1) v1 0),(6,.ptr (nx+2) v2 0),(7,L ([]:List Stop))]) (λ_=>[.cells v0 25 (zy x),.cells v1 39 [yu],.cells v2 39 [L ([]:zp)]]) (λk=>k) 0 [] trivial DR DR ?_));rintro k -
  repeat apply za
  refine zb ?_;refine zm rfl (zx (D0 ?_));exact zg (zi hd DT (by simp[zn,ul]))
 refine zr func319 ntmps319 results319 λS nx hd=>?_
 refine D0 ?_;intro v0 v1;refine D0 ?_;intro v2;refine qu 2 0 rfl rfl ?_;refine D0 ?_;refine λhsuf=>((Zca l h0 DQ _ _ uY).mono ?_).v
 rintro _ _ ⟨v3,rfl,rfl⟩;refine⟨_,_,qY _,zN hsuf ?_⟩;refine za (zj (zC (λs':zp × List Stop × Nat=>ul x s'.2.1.length s'.1 s'.2.1=ul x l.length [] l/\RgOk x s'.1 s'.2.1) (λ(d,m,v3)=>[(2,.ptr nx v0 0),(4,.ptr (nx+1) v1 0),(6,.ptr (nx+2) v2 0),(7,.sl (nx+3) v3 2 0 m.length)]) (λ(d,m,v3)=>[.cells v0 25 (zy x),.cells v1 39 [yu],.cells v2 39 [L d],.cells v3 100 (m.flatMap Enc.enc)]) (λs'=>s'.2.1.length) ([],l,v3) [] ⟨rfl,hb⟩ DR DR ?_));rintro⟨d,m,v3⟩ ⟨hr,hok⟩;simp only at hr hok ⊢;rw[<-hr]
 by_cases hm:m=[]
 ·subst hm
  repeat apply za
  refine zb ?_;refine zm rfl (zx (D0 ?_));exact zg (zi hd DT (by simp[zn,ul]))
 ·have hm0:0<m.length:=BS.2 hm;obtain⟨k,hu,hk⟩:=Zgp (x:=x) (d:=d) hm;obtain⟨s,tl,a1,a2,a3,e1,e0⟩:=el 2 rfl m k hk;have hk2:2<=m.length*2-k*2:=DQ
  have hst:=ZoJ hu a1;obtain⟨b1,b2,b3⟩:=ZoK hok;have hsee:=ZfO x d hx hok.ok DQ;have hins:=Zcn x d s hx hok.ok DQ;have hnx:=λh=>hok.step hx hk (s:=s) h
  have hurg:=λ(S:Store) (id ver:Nat) h=>ZoI x d m hx hok (S:=S) (id:=id) (ver:=ver) h
  rw[hu]at hurg;obtain⟨on,tw,fs,bd,ls,ws,hlk⟩:∃on tw fs bd ls ws,Zs x d=uJ x d on tw fs bd ls ws:=⟨_,_,_,_,_,_,rfl⟩;rw[hlk]at hsee hurg;clear hlk;have hno:=ZfZ (x:=x) (d:=d) (s:=s);generalize hi:yN x d s=r at *;obtain⟨d2,ok⟩:=r;simp only at hst hnx hno;have wk:=zu k DQ;have hm0':(0:Int)<m.length:=DQ
  repeat apply za
  refine ze [] hm0' ?_;refine zk (by simp;exact hm0) ?_;refine zh (zj (D0 ?_));refine λhsuf=>((hsee _).mono ?_).v
  rintro _ _ ⟨rfl,rfl⟩;refine⟨_,_,rfl,zN hsuf ?_⟩;refine λhsuf=>((hurg _ _ _ (by rw[yb];rfl)).mono ?_).v
  rintro _ _ ⟨rfl,rfl⟩;refine⟨_,_,rfl,zN hsuf ?_⟩;refine za (zz (some [nx,nx+2,nx+3]) (Row.pures [0,1,2,3,4,5,6,7,8,9] (.alt 10 (.alt 11 (Row.pures [12] .done) .stop) .stop)) mixed (zA e0 hk hk2) ?_);refine zH (hins) trivial ?_;intro v4
  repeat apply za
  refine zb ?_;cases ok with
  | false =>
   simp only[cond_false]at hst;refine zk rfl (D0 ?_);exact zg (zi hd DT (by simp[zn,hst]))
  | true =>
   simp only[cond_true]at hst;refine zm rfl (zh ?_);have hkl:=BN hk;refine zz (some [nx+4]) (Row.pures [0,1,2,3,4] (.alt 5 (.alt 6 (Row.pures [7] .done) .stop) .stop)) mixed wk ?_
   skip
   refine((ZoA m k hk DQ (by rw[yb];rfl)).mono ?_).v;rintro _ _ ⟨rfl,rfl⟩;rw[yk _ DQ DR,AH];refine⟨by simp[yK],jy trivial ?_⟩;exact zq (d2,m.eraseIdx k,v3+1) [_] ⟨hst.symm,hnx rfl⟩ (by simp only;omega) DR rfl DT
open Go Go.Proofs
def wZ(step:zp->Option zp):Nat->zp->zp
 | 0,d=>d
 | n+1,d=>match step d with
  | none=>d
  | some e=>wZ step n e
def Zw(step:zp->Option zp):Nat->zp->Nat
 | 0,_=>0
 | n+1,d=>match step d with
  | none=>0
  | some e=>Zw step n e+1
def Zgr(x:Inst)(step:zp->Option zp)(G:zp->Prop):Prop:=∀d,G d->∃mk ma mb mi mj least,Pure prog 291 [.agg (zy x),.agg [L d]] (.tup [.agg [I mk,I ma,I mb,I mi,I mj],I least,B (step d).isSome]) /\
 ∀e,step d=some e->Pure prog 292 [.agg (zy x),.agg [L d],.agg [I mk,I ma,I mb,I mi,I mj]] (.tup [.agg [L e],I 0])/\G e
theorem Zgs(x:Inst)(d:zp)(b:Int)(step:zp->Option zp)(G:zp->Prop)(hb:b<=9223372036854775807)(hdn:d.length<=1048576)(hdt:∀t∈d,t.length<=1048576)(hd':0<b->G d)(hs:Zgr x step G):Pure prog 252 [.agg (zy x),.agg [L d],I b] (.tup [.agg [L (wZ step b.toNat d)],I (if Zw step b.toNat d<b.toNat then (Zw step b.toNat d:Int) else jk b 0)]):=by
 refine zr func252 ntmps252 results252 λS nx hd=>?_
 refine D0 ?_;intro v0 v1 v2;refine D0 ?_;intro v3;refine jg 3 0 42 1 rfl rfl λv4=>?_
 repeat apply za
 refine zb ?_;refine zj (zC (λs':Nat × Nat=>s'.1<=d.length) (λ(k,v4)=>[(2,I b),(3,.ptr nx v0 0),(6,.ptr (nx+2) v2 0),(7,I 0),(8,.ptr (nx+3) v3 0),(16,L d),(17,I d.length),(18,I k)]) (λ(k,v4)=>[.cells v0 25 (zy x),.cells v1 39 [L d],.cells v2 39 [yu],.cells v3 39 [.sl (nx+4) v4 1 0 k],.cells v4 42 ((d.take k).flatMap Enc.enc)]) (λs'=>d.length-s'.1) (0,v4) [] DR DR DR ?_);rintro⟨k,v4⟩ hk;simp only at hk ⊢;refine D0 ?_;refine za (zv rfl (λhc=>?_) (λhc=>?_))
 ·simp at hc;obtain⟨t,tl,a1,a2,a3,e0⟩:=zE rfl d k hc;have hk1:1<=d.length-k:=DQ
  have hcl:=V3 t (hdt t (Ab a1));have hcl':((d.take k).flatMap Enc.enc:List PV).length=k:=by rw[jR,Aw];omega
  have hct:((d.take k).flatMap Enc.enc:List PV).take k=(d.take k).flatMap Enc.enc:=Ae DQ;have hcn:((d.take (k+1)).flatMap Enc.enc:List PV)=(d.take k).flatMap Enc.enc++[L t]:=by rw[a3,Ar];rfl
  generalize ((d.take k).flatMap Enc.enc:List PV)=cs at *;refine zh (za (zj (za (ze [] (zA e0 hc hk1) ?_))));intro v5;refine zz (some [nx+5]) (Row.pures [0,2,3,4,5,6] (.alt 1 (.alt 7 (Row.pures [8] (.alt 9 (.done) .stop)) .stop) .stop)) mixed (zo hcl' hct) ?_;refine zH (hcl) (zo hcl' hct) ?_;refine⟨by omega,?_⟩;refine zb ?_;exact zq (k+1,v4+1) [_] hc DV (by simp[zu k (by omega)]) rfl (by simp[hcn];rfl)
 ·simp at hc;obtain rfl:k=d.length:=DQ
  have g1:d.take d.length=d:=Ai;refine zx ?_;rw[g1];refine zZ 4 rfl ?_
  repeat apply za
  refine zb ?_;clear hk hc g1;refine zj (zC (λs':Nat × zp=>s'.1<=b.toNat/\(0<b->G s'.2)/\wZ step (b.toNat-s'.1) s'.2=wZ step b.toNat d/\s'.1+Zw step (b.toNat-s'.1) s'.2=Zw step b.toNat d) (λ(k,e)=>[(2,I b),(3,.ptr nx v0 0),(6,.ptr (nx+2) v2 0),(8,.ptr (nx+3) v3 0),(11,I k)]) (λ(k,e)=>[.cells v0 25 (zy x),.cells v1 39 [L d],.cells v2 39 [yu],.cells v3 39 [L e]]) (λs'=>b.toNat-s'.1) (0,d) [.dead] ⟨by simp,hd',by simp,by simp⟩ DR DR ?_);rintro⟨k,e⟩ ⟨hk,hG,hi,hco⟩;simp only at hk hG hi hco ⊢;rw[<-hi]
  repeat apply za
  refine zb ?_;refine zv rfl (λhc=>?_) (λhc=>?_)
  ·simp at hc;obtain⟨mk,ma,mb,mi,mj,least,hB,hM⟩:=hs e (hG DQ);obtain⟨n,hn⟩:∃n,b.toNat-k=n+1:=⟨b.toNat-k-1,by omega⟩;refine zh (za (zj (D0 ?_)));refine zt hB ?_;intro v5
   repeat apply za
   refine zb ?_;cases hst:step e with
   | none =>
    have hr:wZ step (b.toNat-k) e=e:=by rw[hn];unfold wZ;rw[hst]
    have hr2:Zw step (b.toNat-k) e=0:=by rw[hn];unfold Zw;rw[hst]
    rw[hr2]at hco;rw[hr,<-hco,if_pos DQ];refine zk rfl (D0 ?_);exact zg (zi hd DT (by simp[zn]))
   | some e2 =>
    have hr:wZ step (b.toNat-k) e=wZ step (b.toNat-(k+1)) e2:=by rw[hn,show b.toNat-(k+1)=n by omega];conv=>lhs;unfold wZ;rw[hst]
    have hr2:Zw step (b.toNat-k) e=Zw step (b.toNat-(k+1)) e2+1:=by rw[hn,show b.toNat-(k+1)=n by omega];conv=>lhs;unfold Zw;rw[hst]
    obtain⟨hM1,hG2⟩:=hM e2 hst;refine zm rfl (zh (zb ?_));refine zt hM1 ?_;refine zb ?_;exact zq (k+1,e2) [_] ⟨by simp;omega,λ_=>hG2,hr.symm,by simp only;omega⟩ DV (by simp[zu k (by omega)]) rfl DT
  ·simp at hc;have hz:b.toNat-k=0:=DQ
   rw[hz]at hco ⊢;have hco':Zw step b.toNat d=k:=by rw[<-hco];rfl
   rw[hco',if_neg DQ];refine zx (D0 ?_);exact zg (zi hd DT (by simp[zn,wZ]))
open Go Go.Proofs
structure Pc where
 t:Nat
 f:Nat
 o:Nat
 b:Bool
 deriving DecidableEq
def yL:Pc:=⟨0,0,0,false⟩
abbrev pcL(p:Pc):List PV:=[I p.t,I p.f,I p.o,B p.b]
structure Rw5 where
 a:Pc
 b:Pc
 c:Pc
 d:Pc
 e:Pc
abbrev yx(r:Rw5):List PV:=[I r.a.t,I r.a.f,I r.a.o,B r.a.b,I r.b.t,I r.b.f,I r.b.o,B r.b.b,I r.c.t,I r.c.f,I r.c.o,B r.c.b,I r.d.t,I r.d.f,I r.d.o,B r.d.b,I r.e.t,I r.e.f,I r.e.o,B r.e.b]
def Rw5.l(r:Rw5):List Pc:=[r.a,r.b,r.c,r.d,r.e]
def xq:Rw5:=⟨yL,yL,yL,yL,yL⟩
structure Mv where
 k:Nat
 a:Nat
 b:Nat
 i:Nat
 j:Nat
 deriving DecidableEq
abbrev Zc(m:Mv):List PV:=[I m.k,I m.a,I m.b,I m.i,I m.j]
abbrev Zx(m:Mv)(la lb:Nat):List PV:=[I m.k,I m.a,I m.b,I m.i,I m.j,I la,I lb]
def vJ(m:Mv)(la lb:Nat):Bool :=
 if m.k=0 then decide (m.b=m.a/\m.i<m.j/\m.j<la)
 else if m.k=1 then decide (m.i<la/\(if m.a=m.b then m.j<lb else m.j<=lb))
 else if m.k=2 then decide (¬(m.b<m.a\/m.a=m.b/\m.j<=m.i)/\m.i<la/\m.j<lb)
 else decide (m.a<m.b/\m.i<=la/\m.j<=lb)
def xu(m:Mv)(la lb:Nat):Rw5 × Rw5 :=
 if m.k=0 then (⟨⟨m.a,0,m.i,false⟩,⟨m.a,m.i,m.j+1,true⟩,⟨m.a,m.j+1,la,false⟩,yL,yL⟩,xq)
 else if m.k=1 then
  (if m.a≠m.b then (⟨⟨m.a,0,m.i,false⟩,⟨m.a,m.i+1,la,false⟩,yL,yL,yL⟩,⟨⟨m.b,0,m.j,false⟩,⟨m.a,m.i,m.i+1,false⟩,⟨m.b,m.j,lb,false⟩,yL,yL⟩)
  else if m.i<m.j then (⟨⟨m.a,0,m.i,false⟩,⟨m.a,m.i+1,m.j+1,false⟩,⟨m.a,m.i,m.i+1,false⟩,⟨m.a,m.j+1,la,false⟩,yL⟩,xq)
  else (⟨⟨m.a,0,m.j,false⟩,⟨m.a,m.i,m.i+1,false⟩,⟨m.a,m.j,m.i,false⟩,⟨m.a,m.i+1,la,false⟩,yL⟩,xq))
 else if m.k=2 then
  (if m.a=m.b then (⟨⟨m.a,0,m.i,false⟩,⟨m.b,m.j,m.j+1,false⟩,⟨m.a,m.i+1,m.j,false⟩,⟨m.a,m.i,m.i+1,false⟩,⟨m.a,m.j+1,la,false⟩⟩,xq)
  else (⟨⟨m.a,0,m.i,false⟩,⟨m.b,m.j,m.j+1,false⟩,⟨m.a,m.i+1,la,false⟩,yL,yL⟩,⟨⟨m.b,0,m.j,false⟩,⟨m.a,m.i,m.i+1,false⟩,⟨m.b,m.j+1,lb,false⟩,yL,yL⟩))
 else (⟨⟨m.a,0,m.i,false⟩,⟨m.b,m.j,lb,false⟩,yL,yL,yL⟩,⟨⟨m.b,0,m.j,false⟩,⟨m.a,m.i,la,false⟩,yL,yL,yL⟩)
theorem ZoN(m:Mv)(la lb:Nat)(hk:m.k=0):Pure prog 357 [.agg (Zx m la lb)] (B (vJ m la lb)):=by
 unfold vJ;rw[if_pos hk];refine zr func357 ntmps357 results357 λS nx hd=>?_
 refine D0 ?_;intro v0
 by_cases h1:m.b=m.a
 case neg =>
  have h1':¬(m.b:Int)=m.a:=DQ
  refine za (ze [(7,10),(13,16),(22,25)] (zo h1' zB) ?_);exact zg (zi hd rfl (by simp[h1,zn]))
 have h1':(m.b:Int)=m.a:=DQ
 by_cases h2:m.i<m.j
 case neg =>
  have h2':¬(m.i:Int)<m.j:=DQ
  refine za (ze [(7,10),(13,16),(22,25)] (zA h1' h2 zB) ?_);exact zg (zi hd rfl (by simp[h2,zn]))
 by_cases h3:m.j<la
 case neg =>
  refine za (ze [(7,10),(13,16),(22,25)] (zJ h1' h2 h3 zB) ?_);exact zg (zi hd rfl (by simp[h3,zn]))
 refine za (ze [(7,10),(13,16),(22,25)] (zA h1' h2 h3) ?_);exact zg (zi hd rfl (by simp[h1,h2,h3,zn]))
theorem ZoO(m:Mv)(la lb:Nat)(hk:m.k=1)(hlb:lb<=1048576):Pure prog 359 [.agg (Zx m la lb)] (B (vJ m la lb)):=by
 unfold vJ;rw[if_neg DQ,if_pos hk];refine zr func359 ntmps359 results359 λS nx hd=>?_
 refine D0 ?_;intro v0;refine D0 ?_;refine za (qa (nx:=nx) (λz:Int=>(m.j:Int)<=z<->(if m.a=m.b then m.j<lb else m.j<=lb)) (λz=>[(1,.ptr nx v0 0),(3,I z)]) (λ_=>S) (λ_=>[.cells v0 420 (Zx m la lb)]) ?_ ?_)
 ·by_cases h1:m.a=m.b
  ·have h1':(m.a:Int)=m.b:=DQ
   have w1:IntKind.i64.wrap ((lb:Int)-1)=(lb:Int)-1:=wr _ DQ DQ;refine za (ze [] h1' ?_);refine zk rfl (ze [] w1 ?_);exact zS ((lb:Int)-1) [] (by rw[if_pos h1];omega) DR rfl DR
  ·have h1':¬(m.a:Int)=m.b:=DQ
   refine za (ze [] h1' ?_);exact zm rfl (zh (zS (lb:Int) [] (by rw[if_neg h1];omega) DR rfl DR))
 ·intro z hz
  by_cases h2:m.i<la
  case neg =>
   refine za (ze [(4,19),(12,27),(18,33)] (zo h2 zB) ?_);exact zg (zi hd rfl (by simp[h2,zn]))
  by_cases h3:(m.j:Int)<=z
  case neg =>
   have h4:=(not_congr hz).1 h3;refine za (ze [(4,19),(12,27),(18,33)] (zo h2 h3) ?_);exact zg (zi hd rfl (by simp[h2,h4,zn]))
  have h4:=hz.1 h3;refine za (ze [(4,19),(12,27),(18,33)] (zo h2 h3) ?_);exact zg (zi hd rfl (by simp[h2,h4,zn]))
theorem ZoP(m:Mv)(la lb:Nat)(hk:m.k=2):Pure prog 361 [.agg (Zx m la lb)] (B (vJ m la lb)):=by
 unfold vJ;rw[if_neg DQ,if_neg DQ,if_pos hk];refine zr func361 ntmps361 results361 λS nx hd=>?_
 refine D0 ?_;intro v0;have rest:∀(P:Prop),(m.i<la->m.j<lb->P)->(¬(m.i<la/\m.j<lb)->P)->P:=λP a b=>by
  by_cases q:m.i<la/\m.j<lb
  ·exact a q.1 q.2
  ·exact b q
 by_cases h1:m.b<m.a
 ·repeat apply za
  refine ze [(7,10),(15,18)] (zo h1 zB) ?_;refine zk rfl (D0 ?_);exact zg (zi hd rfl (by simp[h1,zn]))
 by_cases h2:m.a=m.b
 ·have h2':(m.a:Int)=m.b:=DQ
  by_cases h3:m.j<=m.i
  ·have h1':¬m.b<m.b:=DQ
   repeat apply za
   refine ze [(7,10),(15,18)] (zA h2' h1' h3) ?_;refine zk rfl (D0 ?_);exact zg (zi hd rfl (by simp[h2,h3,zn]))
  ·have h1':¬m.b<m.b:=DQ
   have h0:¬(m.b<m.a\/m.a=m.b/\m.j<=m.i):=DQ
   repeat apply za
   refine ze [(7,10),(15,18)] (zA h2' h1' h3) ?_;refine zm rfl (zh ?_)
   by_cases h4:m.i<la
   case neg =>
    refine za (ze [(4,32),(12,40),(18,46)] (zo h4 zB) ?_);exact zg (zi hd rfl (by simp[h4,zn]))
   by_cases h5:m.j<lb
   case neg =>
    refine za (ze [(4,32),(12,40),(18,46)] (zo h4 h5) ?_);exact zg (zi hd rfl (by simp[h5,zn]))
   refine za (ze [(4,32),(12,40),(18,46)] (zo h4 h5) ?_);exact zg (zi hd rfl (by simp[h0,h4,h5,zn]))
 ·have h2':¬(m.a:Int)=m.b:=DQ
  have h0:¬(m.b<m.a\/m.a=m.b/\m.j<=m.i):=DQ
  repeat apply za
  refine ze [(7,10),(15,18)] (zA h1 h2' zB) ?_;refine zm rfl (zh ?_)
  by_cases h4:m.i<la
  case neg =>
   refine za (ze [(4,32),(12,40),(18,46)] (zo h4 zB) ?_);exact zg (zi hd rfl (by simp[h4,zn]))
  by_cases h5:m.j<lb
  case neg =>
   refine za (ze [(4,32),(12,40),(18,46)] (zo h4 h5) ?_);exact zg (zi hd rfl (by simp[h5,zn]))
  refine za (ze [(4,32),(12,40),(18,46)] (zo h4 h5) ?_);exact zg (zi hd rfl (by simp[h0,h4,h5,zn]))
theorem ZoQ(m:Mv)(la lb:Nat)(hk:3<=m.k):Pure prog 363 [.agg (Zx m la lb)] (B (vJ m la lb)):=by
 unfold vJ;rw[if_neg DQ,if_neg DQ,if_neg DQ];refine zr func363 ntmps363 results363 λS nx hd=>?_
 refine D0 ?_;intro v0
 by_cases h1:m.a<m.b
 case neg =>
  refine za (ze [(7,10),(13,16),(21,24),(27,30)] (zo h1 zB) ?_);exact zg (zi hd rfl (by simp[h1,zn]))
 by_cases h2:m.i<=la
 case neg =>
  refine za (ze [(7,10),(13,16),(21,24),(27,30)] (zA h1 h2 zB) ?_);exact zg (zi hd rfl (by simp[h2,zn]))
 by_cases h3:m.j<=lb
 case neg =>
  refine za (ze [(7,10),(13,16),(21,24),(27,30)] (zA h1 h2 h3) ?_);exact zg (zi hd rfl (by simp[h3,zn]))
 refine za (ze [(7,10),(13,16),(21,24),(27,30)] (zA h1 h2 h3) ?_);exact zg (zi hd rfl (by simp[h1,h2,h3,zn]))
theorem ZoR(m:Mv)(la lb:Nat)(hk:m.k=0)(hi:m.i<=1048576)(hj:m.j<=1048576):Pure prog 358 [.agg (Zx m la lb)] (.tup [.agg (yx (xu m la lb).1),.agg (yx (xu m la lb).2)]):=by
 have wi:=zu m.i DQ;have wj:=zu m.j DQ;unfold xu;rw[if_pos hk];refine zr func358 ntmps358 results358 λS nx hd=>?_
 refine D0 ?_;intro v0 v1 v2;refine za (zz (some [nx]) (Row.pures [0,1,2,3,4,5,6,7,8,9,10,11] .done) mixed trivial ?_);refine za (ze [] wj ?_);exact zg (zi hd DT (by simp[zn,xq,yL]))
theorem ZoS(m:Mv)(la lb:Nat)(hk:3<=m.k):Pure prog 364 [.agg (Zx m la lb)] (.tup [.agg (yx (xu m la lb).1),.agg (yx (xu m la lb).2)]):=by
 unfold xu;rw[if_neg DQ,if_neg DQ,if_neg DQ];refine zr func364 ntmps364 results364 λS nx hd=>?_
 refine D0 ?_;intro v0 v1 v2;refine za (zz (some [nx]) (Row.pures [0,1,2,3,4,5,6,7,8,9,10,11,12,13,14,15] .done) mixed trivial ?_);refine za (zz (some [nx]) (Row.pures [0,1,2,3,4,5,6,7,8,9,10,11,12,13,14,15,16,17] (.alt 18 (.alt 19 (.done) .stop) .stop)) mixed trivial ?_);exact zg (zi hd DT (by simp[zn,xq,yL]))
theorem ZoT(m:Mv)(la lb:Nat)(hk:m.k=1)(hi:m.i<=1048576)(hj:m.j<=1048576):Pure prog 360 [.agg (Zx m la lb)] (.tup [.agg (yx (xu m la lb).1),.agg (yx (xu m la lb).2)]):=by
 have wi:=zu m.i DQ;have wj:=zu m.j DQ;unfold xu;rw[if_neg DQ,if_pos hk];refine zr func360 ntmps360 results360 λS nx hd=>?_
 refine D0 ?_;intro v0 v1 v2;refine za (zz (some [nx]) (Row.pures [0,1,2,3,4,5,6,7,8,9,10,11,12,13,14,15] .done) mixed trivial ?_);refine za (ze [] wi ?_);intro v3;refine za (zj ?_)
 by_cases h1:m.a=m.b
 case neg =>
  have h1':¬(m.a:Int)=m.b:=DQ
  rw[if_pos h1];refine za (ze [] h1' ?_);refine zk rfl (za (zz (some [nx,nx+3]) (Row.pures [0,1,2,3,4,5,6,7,8,9,10,11,12,13,14,15,16,17,18,19] (.alt 20 (.alt 21 (.done) .stop) .stop)) mixed wi ?_));exact zg (zi hd DT (by simp[zn,xq,yL]))
 have h1':(m.a:Int)=m.b:=DQ
 rw[if_neg (by simpa using h1)];refine za (ze [] h1' ?_);refine zm rfl ?_
 by_cases h2:m.i<m.j
 ·rw[if_pos h2];refine za (ze [] h2 ?_);refine zk rfl (za (ze [] (zo wi wj) ?_));exact zg (zi hd DT (by simp[zn,xq,yL,h1]))
 ·rw[if_neg h2];refine za (ze [] h2 ?_);refine zm rfl (zh (za (ze [] (zo wi wj) ?_)));exact zg (zi hd DT (by simp[zn,xq,yL,h1]))
theorem ZoU(m:Mv)(la lb:Nat)(hk:m.k=2)(hi:m.i<=1048576)(hj:m.j<=1048576):Pure prog 362 [.agg (Zx m la lb)] (.tup [.agg (yx (xu m la lb).1),.agg (yx (xu m la lb).2)]):=by
 have wi:=zu m.i DQ;have wj:=zu m.j DQ;unfold xu;rw[if_neg DQ,if_neg DQ,if_pos hk];refine zr func362 ntmps362 results362 λS nx hd=>?_
 refine D0 ?_;intro v0 v1 v2;refine za (zz (some [nx]) (Row.pures [0,1,2,3,4,5,6,7,8,9,10,11,12,13,14,15] .done) mixed trivial ?_);refine za (ze [] (zo wi wj) ?_);intro v3 v4
 by_cases h1:m.a=m.b
 ·have h1':(m.a:Int)=m.b:=DQ
  rw[if_pos h1]
  repeat apply za
  refine ze [] h1' ?_;refine zk rfl (za (ze [] (zo wi wj) ?_));exact zg (zi hd DT (by simp[zn,xq,yL,h1]))
 ·have h1':¬(m.a:Int)=m.b:=DQ
  rw[if_neg h1]
  repeat apply za
  refine ze [] h1' ?_;refine zm rfl (zh (za (zz (some [nx,nx+3,nx+4]) (Row.pures [0,1,2,3,4,5,6,7,8,9,10,11,12,13,14,15,16,17,18,19,20,21] (.alt 22 (.alt 23 (.done) .stop) .stop)) mixed (zo wi wj) ?_)));exact zg (zi hd DT (by simp[zn,xq,yL]))
open Go Go.Proofs
abbrev Zaa:List PV:=[.fn (.func 357) [] [],.fn (.func 358) [] [],.fn (.func 359) [] [],.fn (.func 360) [] [],.fn (.func 361) [] [],.fn (.func 362) [] [],.fn (.func 363) [] [],.fn (.func 364) [] []]
theorem Zgt:Pure prog 340 [] (.agg Zaa):=by
 refine zr func340 ntmps340 results340 λS nx hd=>?_
 refine D0 ?_;intro v0;refine D0 ?_;exact D1 hd
def qK(d:zp)(t:Nat):Nat:=(d.getD t []).length
def xQ(d:zp)(m:Mv):Bool:=decide (m.k<=3/\m.a<d.length/\m.b<d.length) && vJ m (qK d m.a) (qK d m.b)
def yr(d:zp)(m:Mv):Rw5 × Rw5:=xu m (qK d m.a) (qK d m.b)
def Z1(d:zp)(m:Mv):Rw5 × Rw5 × Bool:=if xQ d m=true then ((yr d m).1,(yr d m).2,true) else (xq,xq,false)
theorem Zcr(d:zp)(m:Mv)(hdn:d.length<=1048576)(hdt:∀t∈d,t.length<=1048576)(hk:m.k<=3)(ha:m.a<d.length)(hb:m.b<d.length)(hi:m.i<=1048576)(hj:m.j<=1048576):Pure prog 326 [.agg [L d],.agg (Zc m)]
  (.tup [.agg (yx (Z1 d m).1),.agg (yx (Z1 d m).2.1),B (Z1 d m).2.2]):=by
 obtain⟨ta,xa,a1,-,-,a0⟩:=zE rfl d m.a ha;obtain⟨tb,xb,b1,-,-,b0⟩:=zE rfl d m.b hb;have ha1:1<=d.length-m.a:=DQ
 have hb1:1<=d.length-m.b:=DQ
 have la:qK d m.a=ta.length:=by unfold qK;rw[Aa,a1];rfl
 have lb:qK d m.b=tb.length:=by unfold qK;rw[Aa,b1];rfl
 have hbl:=hdt tb (Ab b1);have hmay:xQ d m=vJ m ta.length tb.length:=by unfold xQ;rw[la,lb,decide_eq_true ⟨hk,ha,hb⟩];rfl
 have hcut:yr d m=xu m ta.length tb.length:=by unfold yr;rw[la,lb]
 unfold Z1;rw[hmay,hcut];clear hmay hcut la lb;have call:∀f g:Nat,m.k=m.k->True:=λ_ _ _=>trivial
 clear call;have g1:¬(m.k:Int)<0:=DQ
 have g2:¬(3:Int)<m.k:=DQ
 have g3:¬(m.a:Int)<0:=DQ
 have g4:¬d.length<=m.a:=DQ
 have g5:¬(m.b:Int)<0:=DQ
 have g6:¬d.length<=m.b:=DQ
 refine zr func326 ntmps326 results326 λS nx hd=>?_
 refine D0 ?_;intro v0 v1 v2 v3;refine D0 ?_
 repeat apply za
 refine ze [(3,18),(8,23),(13,28),(19,34),(24,39)] (zP g1 g2 g3 g4 g5 g6) ?_;refine zm rfl (zh (za (zz (some [nx,nx+1]) (Row.pures [0,1,2,3,4,5,6,7,8,9,10,11,12,13,14,15,16,17] (.alt 18 (.alt 19 (.done) .stop) .stop)) mixed (zP a0 b0 ha hb ha1 hb1) ?_)));intro v4;obtain⟨mf,cf,hmf,hcf,hidx⟩:∃mf cf:Nat,Pure prog mf [.agg (Zx m ta.length tb.length)] (B (vJ m ta.length tb.length))/\Pure prog cf [.agg (Zx m ta.length tb.length)] (.tup [.agg (yx (xu m ta.length tb.length).1),.agg (yx (xu m ta.length tb.length).2)]) /\
   ∃k:Nat,(k:Int)=m.k/\k<4/\(Zaa.drop (k*2)).take 2=[.fn (.func mf) [] [],.fn (.func cf) [] []]:=by
  have h4:m.k=0\/m.k=1\/m.k=2\/m.k=3:=DQ
  rcases h4 with h | h | h | h
  ·exact⟨_,_,ZoN m _ _ h,ZoR m _ _ h hi hj,0,by omega,by omega,rfl⟩
  ·exact⟨_,_,ZoO m _ _ h hbl,ZoT m _ _ h hi hj,1,by omega,by omega,rfl⟩
  ·exact⟨_,_,ZoP m _ _ h,ZoU m _ _ h hi hj,2,by omega,by omega,rfl⟩
  ·exact⟨_,_,ZoQ m _ _ DQ,ZoS m _ _ DQ,3,by omega,by omega,rfl⟩
 obtain⟨k,hkk,hk4,hkt⟩:=hidx;obtain rfl:k=m.k:=DQ
 have hk4':(m.k:Int)<4:=DQ
 have hk5:2<=8-m.k*2:=DQ
 generalize hmz:vJ m ta.length tb.length=mz at *;generalize hcz:xu m ta.length tb.length=cz at *;obtain⟨r1,r2⟩:=cz;generalize hkl:Zaa=kl at hkt;have hkinds:=Zgt;rw[hkl]at hkinds;have hkll:kl.length=8:=by rw[<-hkl];rfl
 clear hkl;refine za (zz (some [nx+1]) (Row.pures [0,1,2,3] (.alt 4 (.alt 5 (.done) .stop) .stop)) mixed (yv hkt hk4 hk4' hkll hk5) ?_);refine zH (hkinds) (yv hkt hk4 hk4' hkll hk5) ?_;intro v5
 repeat apply za
 refine zb ?_;refine zt hmf ?_;cases mz with
 | false =>
  refine zk rfl (D0 ?_);exact zg (zi hd DT (by simp[zn,xq,yL]))
 | true =>
  refine zm rfl (zh (D0 ?_));refine zt hcf ?_;intro v6 v7;refine za (zz (some [nx+6,nx+7]) (Row.pures [0,1] (.alt 2 (.alt 3 (Row.pures [4] .done) .stop) .stop)) mixed trivial ?_);exact zg (zi hd DT (by simp[zn]))
open Go Go.Proofs
theorem Zgu(l:List Stop)(k:Nat)(s:Stop)(h:k<l.length):yf (l.flatMap Enc.enc) (k*2) [I s.c,I s.q]=(l.set k s).flatMap Enc.enc:=by
 unfold yf;rw[AE,if_pos h,Ar,Az,<-Y7 Enc.enc 2 (λ_=>rfl) l k,<-JN Enc.enc 2 (λ_=>rfl) l (k+1)];simp[show k*2+2=(k+1)*2 by omega]
def jq(l:List Stop)(k:Nat):List Stop:=(List.range l.length).map λq=>if q<k\/l.length-1-q<k then l.getD (l.length-1-q) default else l.getD q default
theorem uK(l:List Stop)(k:Nat):(jq l k).length=l.length:=by simp[jq]
theorem Xa{l:List Stop}{k q:Nat}(hq:q<l.length):(jq l k)[q]?=some (if q<k\/l.length-1-q<k then l.getD (l.length-1-q) default else l.getD q default):=by
 unfold jq;rw[Aj,Bc hq];rfl
theorem ZoV(l:List Stop):jq l 0=l:=by
 apply A6;intro q
 by_cases h:q<l.length
 ·rw[Xa h,if_neg DQ,Aa,Af h];rfl
 ·rw[Ak (by rw[uK];omega),Ak DQ]
theorem ZoW{l:List Stop}{k:Nat}(hk:l.length-1<=k+k):jq l k=l.reverse:=by
 apply A6;intro q
 by_cases h:q<l.length
 ·rw[Xa h,List.getElem?_reverse h]
  by_cases h1:q<k\/l.length-1-q<k
  ·rw[if_pos h1,Aa,Af DQ];rfl
  ·rw[if_neg h1,Aa];have:q=l.length-1-q:=DQ
   rw[<-this,Af h];rfl
 ·rw[Ak (by rw[uK];omega),Ak DV]
theorem ZoX{l:List Stop}{k:Nat}(h:k<l.length-1-k){a b:Stop}(ha:(jq l k)[k]?=some a)(hb:(jq l k)[l.length-1-k]?=some b):((jq l k).set k b).set (l.length-1-k) a=jq l (k+1):=by
 rw[Xa DQ,if_neg DQ]at ha;rw[Xa DQ,if_neg DQ]at hb;cases ha;cases hb;apply A6;intro q
 by_cases hq:q<l.length
 ·rw[Xa hq,Bv,Bv]
  by_cases e1:l.length-1-k=q
  ·rw[if_pos e1,if_pos (by rw[BH,uK];omega),if_pos DQ];congr 2;omega
  ·rw[if_neg e1]
   by_cases e2:k=q
   ·subst e2;rw[if_pos rfl,if_pos (by rw[uK];exact hq),if_pos DQ]
   ·rw[if_neg e2,Xa hq]
    by_cases h1:q<k\/l.length-1-q<k
    ·rw[if_pos h1,if_pos DQ]
    ·rw[if_neg h1,if_neg DQ]
 ·rw[Ak (by rw[BH,BH,uK];omega),Ak (by rw[uK];omega)]
theorem Zab(S:Store)(i:Nat)(a b:Ob):(S.set i a).set i b=S.set i b:=by
 funext o
 by_cases h:o=i
 ·subst h;rw[q11,q11]
 ·rw[q10 _ _ _ _ h,q10 _ _ _ _ h,q10 _ _ _ _ h]
theorem ZoY{S:Store}{id ver:Nat}(pre l:List Stop)(hn:(pre++l).length<=1048576)(hid:S id=.cells ver 100 ((pre++l).flatMap Enc.enc)):
  Spec prog 344 [.sl id ver 2 (pre.length*2) l.length] S (λ_ S'=>S'=S.set id (.cells ver 100 ((pre++l.reverse).flatMap Enc.enc))):=by
 refine yl func344 ntmps344 results344 λnx hd=>?_
 have hlt:id<nx:=yW hd hid DR;simp only[List.length_append]at hn;have w0:IntKind.i64.wrap ((l.length:Int)-1)=(l.length:Int)-1:=wr _ DQ DQ;refine za (ze [] w0 ?_);refine zj (jx (σ:=Nat) (λk=>k<=l.length) (λk=>[(0,.sl id ver 2 (pre.length*2) l.length),(2,I k),(3,I ((l.length:Int)-1-k))]) (λk=>S.set id (.cells ver 100 ((pre++jq l k).flatMap Enc.enc))) (λ_=>[]) (λk=>l.length-k) (zS 0 [] DR DR (by rw[ZoV];exact J1 S id _ hid) DR) ?_);rintro k hk
 show PW _ _ _ _ _ _ _ (ext (S.set id (.cells ver 100 ((pre++jq l k).flatMap Enc.enc))) nx [])
 obtain⟨T,hT⟩:∃T,T=S.set id (.cells ver 100 ((pre++jq l k).flatMap Enc.enc)):=⟨_,rfl⟩;rw[<-hT]
 repeat apply za
 refine zb ?_;refine zv rfl (λhc=>?_) (λhc=>?_)
 ·simp at hc;have h1:k<l.length-1-k:=DQ
  have x1:=uK l k;obtain⟨a,ta,a1,-,-,-,a0⟩:=el 2 rfl (pre++jq l k) (pre.length+k) (by simp[uK];omega);obtain⟨b,tb,b1,-,-,-,b0⟩:=el 2 rfl (pre++jq l k) (pre.length+(l.length-1-k)) (by simp[uK];omega);have hst:=ZoX h1 (a:=a) (b:=b) (by rw[<-a1,Am (by omega),AH]) (by rw[<-b1,Am (by omega),AH]);have sp1:=Zgu (pre++jq l k) (pre.length+k) b (by simp[uK];omega);have sp2:=Zgu ((pre++jq l k).set (pre.length+k) b) (pre.length+(l.length-1-k)) a (by simp[uK];omega);have hs2:((pre++jq l k).set (pre.length+k) b).set (pre.length+(l.length-1-k)) a=pre++jq l (k+1):=by
   rw[BD _ _ DQ,BD _ _ DQ,AH,AH,hst]
  rw[hs2]at sp2;have hjj:(l.length:Int)-1-k=((l.length-1-k:Nat):Int):=DQ
  generalize l.length-1-k=j at *;generalize hw0:((pre++jq l k).flatMap Enc.enc:List PV)=c0 at *;generalize hw1:(((pre++jq l k).set (pre.length+k) b).flatMap Enc.enc:List PV)=c1 at *;have l0:c0.length=(pre.length+l.length)*2:=by rw[<-hw0,Qb];simp[uK]
  have l1:c1.length=(pre.length+l.length)*2:=by rw[<-hw1,Qb];simp[uK]
  have hTid:T id=.cells ver 100 c0:=by rw[hT];exact q11 _ _ _
  have xid:=λobs=>zD (S:=T) (obs:=obs) hlt
  have xid1:=λobs=>zD (S:=T.set id (.cells ver 100 c1)) (obs:=obs) hlt
  have hs1:(T.set id (.cells ver 100 c1)) id=.cells ver 100 c1:=q11 _ _ _;have hq1:k+1<=l.length:=DQ
  have q1:pre.length*2+k*2=(pre.length+k)*2:=DQ
  have q2:pre.length*2+j*2=(pre.length+j)*2:=DQ
  have q3:j<l.length:=DQ
  have q4:k<l.length:=DQ
  have q5:¬nx<=id:=DQ
  refine zh (za (zj ?_));rw[hjj];refine zz (some []) (Row.pures [0,1,2,3,4,5,6,8,9,10] (.alt 7 (.alt 11 (Row.pures [12] (.alt 13 (Row.pures [14] (.alt 15 (.done) .stop)) .stop)) .stop) (.alt 11 (.alt 7 (Row.pures [12] (.alt 13 (Row.pures [14] (.alt 15 (.done) .stop)) .stop)) .stop) .stop))) mixed (zP xid hTid q1 q2 a0 (zo (zP b0 q3 q4 q5 l0 sp1) (zJ hs1 xid1 sp2 l1))) ?_;have wj:IntKind.i64.wrap ((j:Int)-1)=(l.length:Int)-1-((k+1:Nat):Int):=by rw[wr _ DQ DQ];omega
  have wk:=zu k DQ;have hfin:S.set id (.cells ver 100 ((pre++jq l (k+1)).flatMap Enc.enc))=(T.set id (.cells ver 100 c1)).set id (.cells ver 100 ((pre++jq l (k+1)).flatMap Enc.enc)):=by rw[hT,Zab,Zab]
  have happ:((pre++jq l (k+1)).flatMap Enc.enc:List PV)=pre.flatMap Enc.enc++(jq l (k+1)).flatMap Enc.enc:=by rw[Ar]
  rw[happ]at hfin;refine⟨?_,?_⟩
  ·refine⟨by omega,by omega,?_⟩;refine ze [] (zo wk wj) ?_;exact zq (k+1) [] hq1 DQ DR (by rw[happ,hT];simp only[Zab]) DR
  ·refine⟨by omega,by omega,?_⟩;refine ze [] (zo wk wj) ?_;exact zq (k+1) [] hq1 DQ DR (by rw[happ,hT];simp only[Zab]) DR
 ·simp at hc;refine zx ?_;refine⟨[],T,rfl,?_,zR ?_⟩
  ·rw[hT,ZoW DQ]
  ·rw[hT];intro i hi;rw[q10 _ _ _ _ DQ];exact hd i hi
open Go Go.Proofs
def qC(d:zp)(p:Pc):List Stop:=if p.f<p.o then (bif p.b then (((d.getD p.t []).drop p.f).take (p.o-p.f)).reverse else ((d.getD p.t []).drop p.f).take (p.o-p.f)) else []
def qe(d:zp)(r:Rw5):List Stop:=r.l.flatMap (qC d)
def Xb(d:zp)(p:Pc):Prop:=p.f<p.o->p.t<d.length/\p.o<=qK d p.t
def uL(d:zp)(r:Rw5):Prop:=∀p∈r.l,Xb d p
theorem ZoZ(d:zp):uL d xq:=by
 intro p hp h;simp[Rw5.l,xq]at hp;subst hp;exact absurd h DX
theorem Zac(r:Rw5){k:Nat}(h:k<5):∃p,r.l[k]?=some p/\((yx r).drop (k*4)).take 4=pcL p/\r.l.take (k+1)=r.l.take k++[p]:=by
 have h5:k=0\/k=1\/k=2\/k=3\/k=4:=DQ
 rcases h5 with rfl | rfl | rfl | rfl | rfl<;>exact⟨_,rfl,rfl,rfl⟩
theorem Zgv{d:zp}{p:Pc}{m:Nat}(h:∀t∈d,t.length<=m):(qC d p).length<=m:=by
 have hg:(d.getD p.t []).length<=m:=by
  rw[Aa];cases hq:d[p.t]? with
  | none=>simp
  | some l=>exact h l (Ab hq)
 unfold qC;generalize d.getD p.t []=l at *;split
 ·cases p.b<;>simp<;>omega
 ·simp
theorem Zgw(d:zp)(r:Rw5)(hdn:d.length<=1048576)(hdt:∀t∈d,t.length<=1000)(hr:uL d r):Pure prog 329 [.agg [L d],.agg (yx r)] (L (qe d r)):=by
 have hat:=λk (h:k<5)=>Zac r h
 have hz:qe d r=(r.l.take 5).flatMap (qC d):=by unfold qe;rw[Ae (by simp[Rw5.l])]
 rw[hz];clear hz;have hcl:(yx r).length=20:=rfl;have hct:(yx r).take 20=yx r:=rfl;have hpl:=λp=>Zgv (d:=d) (p:=p) hdt
 have hgl:∀k,((r.l.take k).flatMap (qC d)).length<=1000*k:=by
  intro k
  induction k with
  | zero=>simp
  | succ k ih =>
   by_cases hk:k<5
   ·obtain⟨p,-,-,e⟩:=hat k hk;rw[e,Ar,List.length_append];have:=hpl p;simp only[Az,Co,AD];omega
   ·rw[Ae (by simp[Rw5.l];omega)]at ih ⊢;omega
 have hrl:r.l.length=5:=rfl;generalize hrc:yx r=rc at *;refine zr func329 ntmps329 results329 λS nx hd=>?_
 refine D0 ?_;intro v0 v1;refine D0 ?_;refine za (qt 5 100 2 rfl λv2=>?_);refine za (ze [] (zo hcl hct) ?_);refine zj (zC (λs':Nat × Nat=>s'.1<=5) (λ(k,v2)=>[(2,.ptr nx v0 0),(3,.ptr (nx+1) v1 0),(5,.sl (nx+2) v2 2 0 ((r.l.take k).flatMap (qC d)).length),(9,.agg rc),(10,I k)]) (λ(k,v2)=>[.cells v0 39 [L d],.cells v1 371 rc,.cells v2 100 (((r.l.take k).flatMap (qC d)).flatMap Enc.enc)]) (λs'=>5-s'.1) (0,v2) [] DR DR DR ?_);rintro⟨k,v2⟩ hk;simp only at hk ⊢
 by_cases hk5:k<5
 ·obtain⟨p,hp1,hp2,hp3⟩:=hat k hk5;have hk5':(k:Int)<5:=DQ
  have hk6:4<=20-k*4:=DQ
  have hok:=hr p (Ab hp1);have hol:=hgl k;have hnx:(r.l.take (k+1)).flatMap (qC d)=(r.l.take k).flatMap (qC d)++qC d p:=by rw[hp3,Ar];simp
  have hol2:=hpl p;generalize (r.l.take k).flatMap (qC d)=out at *;have wk:=zu k DQ;refine za (ze [] hk5' ?_);refine za (zk rfl (zh (za (zj (za (ze [] (yv hp2 hk5 hk5' hcl hk6) ?_))))));intro v3
  by_cases hfo:p.f<p.o
  case neg =>
   have hpz:qC d p=[]:=by unfold qC;rw[if_neg hfo]
   have hfo':p.o<=p.f:=DQ
   repeat apply za
   refine ze [] hfo' ?_;refine zk (by simp[hfo']) ?_;refine zx (zb ?_);exact zq (k+1,v2) [_] DV DV (by simp[wk,hnx,hpz]) rfl (by simp[hnx,hpz];rfl)
  obtain⟨ht,ho⟩:=hok hfo;obtain⟨t,tt,t1,-,-,t0⟩:=zE rfl d p.t ht;have ht1:1<=d.length-p.t:=DQ
  have htg:d.getD p.t []=t:=by rw[Aa,t1];rfl
  unfold qK at ho;rw[htg]at ho;have hpz:qC d p=bif p.b then ((t.drop p.f).take (p.o-p.f)).reverse else (t.drop p.f).take (p.o-p.f):=by unfold qC;rw[if_pos hfo,htg]
  have hfo':¬p.o<=p.f:=DQ
  have hsl:((t.flatMap Enc.enc:List PV).drop (p.f*2)).take ((p.o-p.f)*2)=((t.drop p.f).take (p.o-p.f)).flatMap Enc.enc:=by rw[JN Enc.enc 2 (λ_=>rfl) t p.f,Y7 Enc.enc 2 (λ_=>rfl) (t.drop p.f) (p.o-p.f)]
  have hsl2:((t.drop p.f).take (p.o-p.f)).length=p.o-p.f:=DV
  have hsl3:(((t.drop p.f).take (p.o-p.f)).flatMap Enc.enc:List PV).length=(p.o-p.f)*2:=by rw[Qb,hsl2]
  generalize (t.drop p.f).take (p.o-p.f)=sg at *;have hof:(out.flatMap Enc.enc:List PV).length=out.length*2:=Qb out;have hot:(out.flatMap Enc.enc:List PV).take (out.length*2)=out.flatMap Enc.enc:=Ae DQ;have q1:p.f<=p.o:=DQ
  have htl:=hdt t (Ab t1)
  repeat apply za
  refine ze [] hfo' ?_;refine zm (by simp[hfo']) ?_;refine zh (D0 ?_);refine za (zz (some [nx,nx+3]) (Row.pures [0,1,2,3,4,5,6,7,8,9,10,11,12] (.alt 13 (Row.pures [14] .done) .stop)) mixed (zP t0 ht ht1 hof hot (zJ hsl hsl2 q1 ho)) ?_);refine⟨by omega,?_⟩;have hsgl:sg.length<=1000:=by
   have h1:=hdt t (Ab t1);omega
  cases hpb:p.b with
  | false =>
   rw[hpb]at hpz;simp only[cond_false]at hpz;refine za (ze [] hpb ?_);refine zm rfl (zh (zb ?_));exact zq (k+1,v2+1) [_] DV DV (by simp[wk,hnx,hpz,hsl2]) rfl (by simp[hnx,hpz];rfl)
  | true =>
   rw[hpb]at hpz;simp only[cond_true]at hpz;have hrev:=λ(S:Store) (id ver:Nat) h=>ZoY (S:=S) (id:=id) (ver:=ver) out sg DV h
   rw[hsl2]at hrev;refine za (ze [] hpb ?_);refine zk rfl (zb ?_);refine λhsuf=>((hrev _ _ _ (by rw[yb,Ar];rfl)).mono ?_).v
   rintro _ _ rfl;refine⟨_,_,yk _ DQ DR,jG [] (show nx+2-nx=2 by omega) hsuf ?_⟩;refine zb ?_;exact zq (k+1,v2+1) [_] DV DV (by simp[wk,hnx,hpz,hsl2]) rfl (by simp[hnx,hpz];rfl)
 ·obtain rfl:k=5:=DQ
  generalize (r.l.take 5).flatMap (qC d)=out at *;refine D0 ?_;refine za (zm rfl (zx (zZ 2 rfl ?_)));refine D0 ?_;exact zg (zi hd DT (by simp[zn]))
open Go Hp
theorem Zgx{α:Type}{d:List α}(hn:d.Nodup){i j:Nat}{t:α}(hi:d[i]?=some t)(hj:d[j]?=some t):i=j:=by grind[List.pairwise_iff_getElem]
def j8(f:zL->Bool):zp->Int
 | []=>-1
 | t :: d=>if 0<=j8 f d then j8 f d+1 else if f t then 0 else -1
theorem Zgy(f:zL->Bool):∀d:zp,(j8 f d=-1/\∀t∈d,f t=false)\/∃(k:Nat) (t:zL),d[k]?=some t/\f t=true/\j8 f d=k
 | []=>.inl ⟨rfl,λt h=>by cases h⟩
 | u :: d=>by
  unfold j8;rcases Zgy f d with ⟨h1,h2⟩ | ⟨k,t,h1,h2,h3⟩
  ·rw[h1,if_neg DQ];cases hu:f u with
   | true=>exact .inr ⟨0,u,rfl,hu,by simp⟩
   | false =>
    simp_all
  ·rw[h3,if_pos DQ];exact .inr ⟨k+1,t,by simpa using h1,h2,by simp⟩
def Zcs(d:zp)(a b:Nat)(t:zL)(k:Nat):zp:=(List.range k).flatMap λj=>if j=a then [t] else if j=b then [] else [d.getD j []]
def YC(c:Int)(t:zL):Bool:=decide (Qe t=some c)
def YD(c:Int)(t:zL):Bool:=decide (Q6 t=some c)
def YE(x:Inst)(d:zp)(p:Pr):zp :=
 if j8 (YC p.a) d<0\/j8 (YD p.b) d<0\/j8 (YC p.a) d=j8 (YD p.b) d\/(p.s<=0/\(d.length:Int)<=x.veh) then d
 else if zQ x (d.getD (j8 (YC p.a) d).toNat []++d.getD (j8 (YD p.b) d).toNat [])=0 then
  Zcs d (j8 (YC p.a) d).toNat (j8 (YD p.b) d).toNat (d.getD (j8 (YC p.a) d).toNat []++d.getD (j8 (YD p.b) d).toNat []) d.length
 else d
theorem Zct{α β γ:Type}{f:α->List γ}{g:β->List γ}:∀(A:List α) (B:List β),A.length=B.length->(∀(j:Nat) a b,A[j]?=some a->B[j]?=some b->f a=g b)->A.flatMap f=B.flatMap g
 | [],[],_,_=>rfl
 | a :: A,b :: B,hl,h=>by
  rw[Az,Az,h 0 a b rfl rfl,Zct A B (by simpa using hl) λj a b ha hb=>h (j+1) a b (by simpa using ha) (by simpa using hb)]
 | [],_ :: _,hl,_=>by simp at hl
 | _ :: _,[],hl,_=>by simp at hl
theorem Zcu{α:Type}(p:α->Bool):∀l:List α,l.filter p=l.flatMap λa=>if p a then [a] else []
 | []=>rfl
 | a :: l=>by
  rw[Az,<-Zcu p l,Cc];cases p a<;>simp
structure Apt (T:zp):Prop where
 u:∀(i j:Nat) t s s',T[i]?=some t->s∈t->∀t',T[j]?=some t'->s'∈t'->s.c=s'.c->i=j
theorem JI.apt{ss:List Stop}{T:zp}{g:Int->Option Int}(h:JI ss T g):Apt T:=⟨λi j t s s' hi hs t' hj hs' e=>by
 have e1:=h.g i t s hi hs;have e2:=h.g j t' s' hj hs'
 grind⟩
abbrev ne(t:zL):Bool:=!t.isEmpty
theorem Wr{t:zL}(h:ne t=true):∃s,s∈t:=by cases t<;>simp_all
theorem Zgz{t:zL}{s:Stop}(h:s∈t):ne t=true:=DY
def Xc(ta tb u:zL):zp:=if u=ta then [ta++tb] else if u=tb then [] else [u]
theorem Zo0{T:zp}(hA:Apt T){i k:Nat}{ta tb:zL}(hi:T[i]?=some ta)(hk:T[k]?=some tb)(hik:i≠k)(ha:ne ta=true)(hb:ne tb=true):
  ((T.set i (ta++tb)).set k []).filter ne=(T.filter ne).flatMap (Xc ta tb):=by
 rw[Zcu ne T,List.flatMap_assoc,Zcu];refine Zct _ _ DR λj u v hu hv=>?_
 obtain⟨sa,hsa⟩:=Wr ha;obtain⟨sb,hsb⟩:=Wr hb;have hjl:=(Ac.1 hv).1
 by_cases h1:k=j
 ·subst h1;rw[AV (by simpa using hjl)]at hu;cases hu;obtain rfl:tb=v:=by rw[hk]at hv;exact Option.some.inj hv
  have hne:tb≠ta:=by
   rintro rfl;exact hik (hA.u i k tb sb sb hi hsb tb hk hsb rfl)
  simp_all[Xc]
 ·rw[AX h1]at hu
  by_cases h2:i=j
  ·subst h2;rw[AV hjl]at hu;cases hu;obtain rfl:ta=v:=by rw[hi]at hv;exact Option.some.inj hv
   simp_all[Xc]
  ·rw[AX h2]at hu;obtain rfl:u=v:=DZ
   cases hn:ne u with
   | false=>simp
   | true =>
    obtain⟨su,hsu⟩:=Wr hn;have n1:u≠ta:=by rintro rfl;exact h2 (hA.u i j u su su hi hsu u hv hsu rfl)
    have n2:u≠tb:=by rintro rfl;exact h1 (hA.u k j u su su hk hsu u hv hsu rfl)
    simp_all[Xc]
theorem Zo1{T:zp}(hA:Apt T):(T.filter ne).Nodup:=by
 rw[List.nodup_iff_pairwise_ne,List.pairwise_filter,By];intro i j hi hj hij h1 h2 e;obtain⟨s,hs⟩:=Wr h1;have:=hA.u i j T[i] s s (Af hi) hs T[j] (Af hj) (e ▸ hs) rfl;omega
theorem Zo2{d:zp}(hn:d.Nodup){a b:Nat}{ta tb:zL}(ha:d[a]?=some ta)(hb:d[b]?=some tb):Zcs d a b (ta++tb) d.length=d.flatMap (Xc ta tb):=by
 unfold Zcs;refine Zct _ _ DR λj n u hj hu=>?_
 grind[Zgx,Xc]
theorem ZgA{T:zp}(hA:Apt T){i:Nat}{t:zL}{s:Stop}(hi:T[i]?=some t)(hs:s∈t)(f:zL->Bool)(hf:∀u,f u=true->∃s'∈u,s'.c=s.c):
  (f t=false/\j8 f (T.filter ne)=-1)\/(f t=true/\∃k:Nat,(T.filter ne)[k]?=some t/\j8 f (T.filter ne)=k):=by
 have uniq:∀u∈T.filter ne,f u=true->u=t:=by
  intro u hu hfu;obtain⟨s',hs',e⟩:=hf u hfu;obtain⟨j,hj⟩:=Bg.1 (Bj.1 hu).1;have:=hA.u i j t s s' hi hs u hj hs' e.symm;subst this;rw[hi]at hj;exact(Option.some.inj hj).symm
 grind[Zgy]
theorem Zo3{c:Int}{t:zL}(h:YC c t=true):∃s∈t,s.c=c:=by
 have h:Qe t=some c:=of_decide_eq_true h
 grind[Qe]
theorem Zo4{c:Int}{t:zL}(h:YD c t=true):∃s∈t,s.c=c:=by
 have h:Q6 t=some c:=of_decide_eq_true h
 grind[Q6]
theorem Zcv(p:zL->Bool):∀T:zp,((T.filter p).length:Int)=(T.map λt=>if p t then (1:Int) else 0).sum
 | []=>rfl
 | t :: T=>by
  rw[Cc,AA,Cg,<-Zcv p T]
  grind
theorem Zo5{T:zp}{i k:Nat}{ta tb:zL}(hi:T[i]?=some ta)(hk:T[k]?=some tb)(hik:i≠k)(ha:ne ta=true)(hb:ne tb=true):
  ((((T.set i (ta++tb)).set k []).filter ne).length:Int)=((T.filter ne).length:Int)-1:=by
 obtain⟨sa,hsa⟩:=Wr ha;rw[Zcv,Zcv,Zcj _ _ k tb [] (by rw[AX hik];exact hk),Zcj _ _ i ta (ta++tb) hi]
 simp_all
theorem Zo6{x:Inst}{ss:List Stop}{st:zp × Int}{g:Int->Option Int}(h:JI ss st.1 g)(hnum:st.2=((st.1.filter ne).length:Int)){p:Pr}(hpa:p.a∈ss.map (·.c))(hpb:p.b∈ss.map (·.c)):
  YE x (st.1.filter ne) p=(jh x st p).1.filter ne/\(jh x st p).2=(((jh x st p).1.filter ne).length:Int)/\∃g',JI ss (jh x st p).1 g':=by
 obtain⟨i,a,sa,hia,hsa,hsac,hga,hpi⟩:=h.there hpa;obtain⟨k,b,sb,hkb,hsb,hsbc,hgb,hpk⟩:=h.there hpb;have hgi:st.1.getD i []=a:=by rw[Aa,hia];rfl
 have hgk:st.1.getD k []=b:=by rw[Aa,hkb];rfl
 have hdef:jh x st p=bif qB x st.2 p i k a b then ((st.1.set i (a++b)).set k [],st.2-1) else st:=by
  unfold jh Wj;simp only[hpi,hpk,hgi,hgk]
 have hA:=h.apt;have hna:=Zgz hsa;have hnb:=Zgz hsb;have hnd:=Zo1 hA;rw[hdef];have stay:qB x st.2 p i k a b=false->YE x (st.1.filter ne) p=st.1.filter ne->YE x (st.1.filter ne) p=(bif qB x st.2 p i k a b then ((st.1.set i (a++b)).set k [],st.2-1) else st).1.filter ne/\(bif qB x st.2 p i k a b then ((st.1.set i (a++b)).set k [],st.2-1) else st).2=(((bif qB x st.2 p i k a b then ((st.1.set i (a++b)).set k [],st.2-1) else st).1.filter ne).length:Int)/\∃g',JI ss (bif qB x st.2 p i k a b then ((st.1.set i (a++b)).set k [],st.2-1) else st).1 g':=by
  intro e1 e2;rw[e1];exact⟨e2,hnum,g,h⟩
 rcases ZgA hA hia hsa (YC p.a) (λu hu=>by rw[hsac];exact Zo3 hu) with ⟨fa,la⟩ | ⟨fa,ka,ha1,la⟩
 ·have e1:Qe a≠some p.a:=of_decide_eq_false fa;refine stay (by simp[qB,e1]) ?_;unfold YE;rw[if_pos (.inl DQ)]
 rcases ZgA hA hkb hsb (YD p.b) (λu hu=>by rw[hsbc];exact Zo4 hu) with ⟨fb,lb⟩ | ⟨fb,kb,hb1,lb⟩
 ·have e1:Q6 b≠some p.b:=of_decide_eq_false fb;refine stay (by simp[qB,e1]) ?_;unfold YE;rw[if_pos (.inr (.inl DQ))]
 have e1:Qe a=some p.a:=of_decide_eq_true fa;have e2:Q6 b=some p.b:=of_decide_eq_true fb;have hab:ka=kb<->i=k:=by
  constructor
  ·rintro rfl;obtain rfl:a=b:=by rw[ha1]at hb1;exact Option.some.inj hb1
   exact hA.u i k a sa sa hia hsa a hkb hsa rfl
  ·rintro rfl;obtain rfl:a=b:=by rw[hia]at hkb;exact Option.some.inj hkb
   exact Zgx hnd ha1 hb1
 have ga:(st.1.filter ne).getD (ka:Int).toNat []=a:=by rw[AJ,Aa,ha1];rfl
 have gb:(st.1.filter ne).getD (kb:Int).toNat []=b:=by rw[AJ,Aa,hb1];rfl
 by_cases hik:i=k
 ·refine stay (by simp[qB,hik]) ?_;unfold YE;rw[if_pos (.inr (.inr (.inl (by rw[la,lb,hab.2 hik]))))]
 by_cases hfew:p.s<=0/\st.2<=x.veh
 ·refine stay (by simp[qB,hfew.1,hfew.2]) ?_;unfold YE;rw[if_pos (.inr (.inr (.inr ⟨hfew.1,by omega⟩)))]
 have hcond:¬(j8 (YC p.a) (st.1.filter ne)<0\/j8 (YD p.b) (st.1.filter ne)<0\/j8 (YC p.a) (st.1.filter ne)=j8 (YD p.b) (st.1.filter ne)\/(p.s<=0/\((st.1.filter ne).length:Int)<=x.veh)):=by
  rw[la,lb];rintro(q | q | q | q)
  ·omega
  ·omega
  ·exact hik (hab.1 DQ)
  ·exact hfew ⟨q.1,by omega⟩
 by_cases hmay:zQ x (a++b)=0
 ·have hc:qB x st.2 p i k a b=true:=by
   unfold qB;simp only[hik,e1,e2,hmay,Av,decide_eq_true_eq,ne_eq,not_false_eq_true,Ck,Bool.and_eq_false_iff,decide_eq_false_iff_not,and_true,true_and]
   by_cases q:p.s<=0
   ·exact .inr λe=>hfew ⟨q,e⟩
   ·exact .inl q
  rw[hc];simp only[cond_true];refine⟨?_,?_,_,h.join hia hkb hik⟩
  ·unfold YE;rw[if_neg hcond,la,lb,ga,gb,if_pos hmay,Zo0 hA hia hkb hik hna hnb,<-Zo2 hnd ha1 hb1];rfl
  ·rw[Zo5 hia hkb hik hna hnb,hnum]
 simp_all[qB,YE]
theorem Zo7(ss:List Stop):(ss.map λs=>[s]).filter ne=qQ ss:=by simp[qQ]
open Go Hp
theorem ZgB(l:List Stop):(qQ l).length=l.length:=by simp[qQ]
theorem Zo8{x:Inst}{ss:List Stop}{T:zp}{g:Int->Option Int}(h:JI ss T g)(hss:ss.length<=1000):(T.filter ne).length<=1000/\(T.filter ne).flatten.length<=1000/\∀t∈T.filter ne,t≠[]:=by
 have hf:(T.filter ne).flatten=T.flatten:=by
  induction T with
  | nil=>rfl
  | cons t T ih =>
   clear h;have key:∀T:zp,(T.filter ne).flatten=T.flatten:=by
    intro T
    induction T with
    | nil=>rfl
    | cons t T ih =>
     rw[Cc];cases t with
     | nil=>simpa using ih
     | cons s t=>simp[ih]
   exact key _
 have hne:∀t∈T.filter ne,t≠[]:=λt ht e=>by
  have:=(Bj.1 ht).2;rw[e]at this;cases this
 have hl:=h.perm.length_eq;have h1:=V6 (T.filter ne) hne;rw[hf]at h1;exact⟨by omega,by rw[hf];omega,hne⟩
open Go Go.Proofs Hp
structure SOk (x:Inst) (l:List Stop):Prop where
 cust:x.cust.length<=1048576
 arc:q9 x
 veh:0<=x.veh
 len:l.length<=1000
 sm:∀s∈l,qb s.c
 nd:(l.map (·.c)).Nodup
def Qm(x:Inst)(l:List Stop):List zp:=[wW x l,qQ l]++(bif (jp x l).2 then [(jp x l).1] else [])
def Z2(x:Inst)(imp:zp->zp)(l:List Stop):List zp:=[qQ l,imp (wW x l),imp (qQ l)]++(bif (jp x l).2 then [imp (jp x l).1] else [])
theorem ZgC{x:Inst}(hx:x.cust.length<=1048576):∀(n:Nat) (d:zp) (l:List Stop),l.length=n->RgOk x d l->RgOk x (ul x n d l).1 []/\((ul x n d l).2=true->(ul x n d l).1.flatten.Perm (d.flatten++l))
 | 0,d,l,hl,h=>by simp_all[ul]
 | n+1,d,l,hl,h=>by
  have hne:l≠[]:=λe=>by simp_all
  obtain⟨k,hu,hk⟩:=Zgp (x:=x) (d:=d) hne;have hg:l.getD k default=l[k]:=by rw[Aa,Af hk];rfl
  unfold ul;rw[hu,AJ,hg];cases hi:(yN x d l[k]).2 with
  | false =>
   refine⟨⟨h.ok,h.may,?_⟩,λe=>by cases e⟩;have:=h.len
   grind
  | true =>
   simp only[cond_true];obtain⟨h1,h2⟩:=ZgC hx n (yN x d l[k]).1 (l.eraseIdx k) (by rw[BN hk];omega) (h.step hx hk hi);refine⟨h1,λe=>(h2 e).trans ?_⟩;have hp:=Zcg hi;refine(hp.append_right _).trans ?_
   grind[List.eraseIdx_eq_take_drop_succ,List.drop_eq_getElem_cons,List.take_append_drop]
section
variable {x:Inst} {l:List Stop} (h:SOk x l)
include h
theorem SOk.apart:DayOk (qQ l)/\(qQ l).flatten=l/\(qQ l).length<=1000:=by
 have hf:(qQ l).flatten=l:=by
  unfold qQ;clear h
  induction l with
  | nil=>rfl
  | cons s l ih=>simpa using ih
 refine⟨⟨?_,λt ht=>?_,λt ht a ha=>?_⟩,hf,?_⟩
 ·rw[ZgB];have:=h.len;omega
 ·obtain⟨s,_,rfl⟩:=Al.1 ht;simp
 ·obtain⟨s,hs,rfl⟩:=Al.1 ht;simp at ha;subst ha;exact h.sm _ hs
 ·rw[ZgB];exact h.len
theorem SOk.join:DayOk (wW x l)/\(wW x l).flatten.Perm l/\(wW x l).length<=1000/\∀t∈wW x l,t≠[]:=by
 obtain⟨g,hg⟩:=JI.begin l [] [] _ JI.nil (by simpa using h.nd);have key:∀(ps:List Pr) (st:zp × Int),(∃g,JI l st.1 g)->st.2=((st.1.filter ne).length:Int)->(∀p∈ps,p.a∈l.map (·.c)/\p.b∈l.map (·.c))->∃g,JI l (ps.foldl (jh x) st).1 g:=by
  intro ps
  induction ps with
  | nil=>simp_all
  | cons p ps ih =>
   rintro st ⟨g,hg⟩ hn hp;obtain⟨h1,h2⟩:=hp p DR;obtain⟨e1,e2,e3⟩:=Zo6 (x:=x) hg hn h1 h2;rw[A3];exact ih _ e3 e2 λq hq=>hp q (by simp[hq])
 obtain⟨g',hg'⟩:=key (q8 x (l.map (·.c))) (l.map λs=>[s],(l.length:Int)) ⟨g,by simpa using hg⟩ (by simp[Zo7,qQ]) λp hp=>by grind[VX,Q5]
 have hjp:wW x l=((q8 x (l.map (·.c))).foldl (jh x) (l.map λs=>[s],(l.length:Int))).1.filter ne:=rfl;obtain⟨w1,w2,w3⟩:=Zo8 (x:=x) hg' h.len;have hfl:∀T:zp,(T.filter ne).flatten=T.flatten:=by
  intro T
  induction T with
  | nil=>rfl
  | cons t T ih =>
   grind
 have hp:(wW x l).flatten.Perm l:=by rw[hjp,hfl];exact hg'.perm
 rw[<-hjp]at w1 w2 w3;refine⟨⟨by omega,λt ht=>?_,λt ht a ha=>?_⟩,hp,w1,w3⟩
 ·have:=(Yz ht).length_le;omega
 ·exact h.sm a (hp.subset ((Yz ht).subset ha))
theorem SOk.regret:RgOk x (jp x l).1 []/\((jp x l).2=true->(jp x l).1.flatten.Perm l):=by
 have:=ZgC h.cust l.length [] l rfl (Zgq h.veh h.len)
 simp_all[jp]
end
def ZgD(x:Inst)(b:Int)(imp:zp->zp)(ds:List zp):Prop:=∀d∈ds,(∃n,Pure prog 252 [.agg (zy x),.agg [L d],I b] (.tup [.agg [L (imp d)],I n]))/\DayOk (imp d)/\(imp d).flatten.length<=1048576
theorem Zo9(x:Inst)(l:List Stop)(b:Int)(imp:zp->zp)(h:SOk x l)(hI:wy x l=0->ZgD x b imp (Qm x l)):
  Pure prog 249 [.agg (zy x),L l,I b] (.tup [.agg [L (vH x (wy x l) (Z2 x imp l)).1],I (vH x (wy x l) (Z2 x imp l)).2]):=by
 have hF:=ZlZ x l h.cust (by have:=h.len;omega)
 by_cases he:wy x l=0
 case neg=>exact ZfK x (L l) b _ _ (Q8 l) h.cust hF (λe=>absurd e he) λe=>absurd e he
 have hI:=hI he;have hA:=ZlY l (by have:=h.len;omega);have hJ:=ZnF x l h.arc h.cust h.len h.sm h.nd;have hR:=ZoL x l h.cust h.veh h.len;obtain⟨⟨n1,i1⟩,o1,f1⟩:=hI (wW x l) (by simp[Qm]);obtain⟨⟨n2,i2⟩,o2,f2⟩:=hI (qQ l) (by simp[Qm]);obtain⟨a1,a2,a3⟩:=h.apart;have h3:(jp x l).2=true->(∃n,Pure prog 252 [.agg (zy x),.agg [L (jp x l).1],I b] (.tup [.agg [L (imp (jp x l).1)],I n]))/\DayOk (imp (jp x l).1)/\(imp (jp x l).1).flatten.length<=1048576:=λe=>hI _ (by simp[Qm,e])
 have hlen:=h.len;have hit:=ZnK (fsL x (L l) b) [some (qQ l),some (imp (wW x l)),some (imp (qQ l)),bif (jp x l).2 then some (imp (jp x l).1) else none] rfl DR (by
  intro k f hf
  match k with
  | 0=>cases hf;exact⟨_,_,L (qQ l),rfl,ZnH (L l) (qQ l) (Q8 l) hA,λd hd=>by cases hd;rfl⟩
  | 1=>cases hf;exact⟨_,_,L (imp (wW x l)),rfl,ZnI x (L l) b _ _ _ (Q8 l) hJ i1,λd hd=>by cases hd;rfl⟩
  | 2=>cases hf;exact⟨_,_,L (imp (qQ l)),rfl,ZnJ x (L l) b _ _ _ (Q8 l) hA i2,λd hd=>by cases hd;rfl⟩
  | 3 =>
   cases hf;cases hall:(jp x l).2 with
   | true =>
    obtain⟨⟨n3,i3⟩,-⟩:=h3 hall;rw[hall]at hR;exact⟨_,_,L (imp (jp x l).1),rfl,ZfJ x (L l) b _ _ true n3 (Q8 l) hR (λ_=>i3),λd hd=>by cases hd;rfl⟩
   | false =>
    rw[hall]at hR;exact⟨_,_,yu,rfl,ZfJ x (L l) b _ [] false 0 (Q8 l) hR (λe=>by cases e),λd hd=>by cases hd⟩
  | k+4=>cases hf)
 have hds:([some (qQ l),some (imp (wW x l)),some (imp (qQ l)),bif (jp x l).2 then some (imp (jp x l).1) else none]:List (Option zp)).filterMap id=Z2 x imp l:=by
  unfold Z2;cases (jp x l).2<;>rfl
 rw[hds]at hit;refine ZfK x (L l) b (wy x l) (Z2 x imp l) (Q8 l) h.cust hF (λ_=>hit) λ_ d hd=>?_
 grind
open Go Go.Proofs Hp
theorem Zpa{P:Program}{r:Rd}{n:Nat}{F:Nat->PV}{S:Store}{o:Oper}{t e:TypeId}{len:Nat}{parts:Array (Nat × Operand)}{cs:List PV}{K:PV->Store->Prop}(ho:o.op=.buildSlice t len parts)(ht:P.underlying t=some (.slice e))(h0:P.cellsOf e≠0)(hlen:len<=1048576)
  (hl:Yo P e len (parts.toList.map λx=>(x.1,ev F x.2))=some cs)
  (hK:∀C:Ctx,S C.next=.dead->∃id v,Fresh C S id v/\K (.sl id v (P.cellsOf e) 0 len) (S.set id (.cells v e cs))):PO P r n o F S K:=by
 intro G hG C w a N st next Q' hnext;have hmap:parts.toList.map (λx=>(x.1,ev G x.2))=parts.toList.map (λx=>(x.1,ev F x.2)):=AQ λx hx=>by
  rw[hG x.2 (by simp only[ho,Op.operands,List.mem_toArray,Al];first | exact⟨x,hx,rfl⟩ | (simp;exact⟨x.1,by simpa using hx⟩))]
 rw[<-hmap]at hl;obtain⟨vs,hrun,hr,hsz⟩:=Zd9 (w:=w) ht (ev G) a.eval st.ev hl;obtain⟨id,ver,hfr,hK⟩:=hK C st.sim.free;obtain⟨k1,k2⟩:=st.sim.object' hfr e vs cs (Cq hr.1) (λi v _ hv=>hr.2.1 i v hv) hr.2.2;refine qh (x:=.value (.slice (some ⟨w.heap.size,0,none⟩) len len)) (w':=w.alloc (.cells vs e)) (by intro c hc;rw[ho]at hc;cases hc) ?_
  (hnext _ _ _ _ _ hK (XZ C S w _ _ _ _ _ _ _ _ rfl (Ag _) (by unfold jY;omega) (by unfold maxLen;omega) hsz.symm) k1 k2)
 unfold execOp;simp only[ho];have e1:(parts.map λx=>(x.1,a.eval x.2))=(parts.toList.map λx=>(x.1,a.eval x.2)).toArray:=by
  apply BI.1;simp
 simp only[e1,hrun,Sem.run_bind,Sem.run_pure,An]
theorem Zpb{P:Program}{r:Rd}{n nx:Nat}{F:Nat->PV}{S:Store}{obs:List Ob}{o:Oper}{t e:TypeId}{len:Nat}{parts:Array (Nat × Operand)}{cs:List PV}{K:PV->Store->Prop}(ho:o.op=.buildSlice t len parts)(ht:P.underlying t=some (.slice e))(h0:P.cellsOf e≠0)(hlen:len<=1048576)
  (hl:Yo P e len (parts.toList.map λx=>(x.1,ev F x.2))=some cs) (hK:∀v,K (.sl (nx+obs.length) v (P.cellsOf e) 0 len) (ext S nx (obs++[.cells v e cs]))):PO P r n o F (ext S nx obs) K :=
 Zpa ho ht h0 hlen hl (ZO (X:=λid v=>K (.sl id v (P.cellsOf e) 0 len) ((ext S nx obs).set id (.cells v e cs))) _ uY λv=>by rw[qY];exact hK v)
open Go Go.Proofs
theorem Zpc{P:Program}{r:Rd}{n nx N:Nat}{Q:Exit->(Nat->PV)->Store->Prop}{F:Nat->PV}{S:Store}{obs:List Ob}{A:Prop}{R:Nat->KT->CT->HT->Prop}{id:Nat}{ops:Array Oper}{o:Oper}{os:List Oper}{t e:TypeId}{len:Nat}{parts:Array (Nat × Operand)}
  (D:List (Nat × Nat)) (cs:List PV) (ht:P.underlying t=some (.slice e)) (a:A) (h:∀v,R v (λF' S' obs'=>Q .normal F' (ext S' nx obs')) (CQ P r n nx ops λF' S' obs'=>Q .normal F' (ext S' nx obs')) (HQ P r n nx ops λF' S' obs'=>Q .normal F' (ext S' nx obs')))
  (hops:ops.toList=o :: os:=by rfl) (hg:o.guard=none:=by rfl) (ho:o.op=.buildSlice t len parts:=by rfl) (h0:P.cellsOf e≠0:=by simp) (hlen:len<=1048576:=by decide)
  (hl:Yo P e len (parts.toList.map λx=>(x.1,ev F x.2))=some cs:=by simp[Yo,Yn]) (hN:wQ N ops=true:=by rfl) (hD:uB ops D=true:=by rfl)
  (hR:A->∀v,XQ P nx D os (z8 F o.dst (.sl (nx+obs.length) v (P.cellsOf e) 0 len)) S (obs++[.cells v e cs]) (R v):=by intro a v K Gc Gh X hX0 hX h;simp -implicitDefEqProofs [hX0,hX,a];exact h):PW P r n N (.region id ops false) Q F (ext S nx obs):=by
 refine Zbt hN ?_;rw[hops];unfold XS;have:gd ops F o=some true:=by unfold gd;rw[hg]
 rw[this];exact Zpb ho ht h0 hlen hl λv=>⟨_,_,rfl,QY (by rw[hops];exact List.suffix_cons _ _) hD (hR a v) (h v)⟩
def yB(x:Inst)(t:zL):Nat->Int
 | 0=>0
 | i+1=>yB x t i+arc x ((t.getD i default).c+1) ((t.getD (i+1) default).c+1)
def yC(x:Inst)(t:zL):Nat->Int
 | 0=>0
 | i+1=>yC x t i+arc x ((t.getD (i+1) default).c+1) ((t.getD i default).c+1)
theorem Xd{x:Inst}(h:q9 x)(t:zL):∀i:Nat,0<=yB x t i/\yB x t i<=2147483648*(i:Int)
 | 0=>by simp[yB]
 | i+1=>by
  have h1:=Xd h t i;have h2:=h ((t.getD i default).c+1) ((t.getD (i+1) default).c+1);unfold yB;omega
theorem Xe{x:Inst}(h:q9 x)(t:zL):∀i:Nat,0<=yC x t i/\yC x t i<=2147483648*(i:Int)
 | 0=>by simp[yC]
 | i+1=>by
  have h1:=Xe h t i;have h2:=h ((t.getD (i+1) default).c+1) ((t.getD i default).c+1);unfold yC;omega
structure Sm where
 f:List Int
 b:List Int
 l:List Int
 n:Int
instance:Enc Sm:=⟨λs=>[L s.f,L s.b,L s.l,I s.n],4,λ_=>rfl,λ_=>rfl⟩
@[simp] theorem ZyP(s:Sm):Enc.enc s=[L s.f,L s.b,L s.l,I s.n]:=rfl
@[simp high] theorem ZgE(l:List Sm):(l.flatMap Enc.enc).length=l.length*4:=xl l
@[simp high] theorem ZyQ(l:List Sm):(l.flatMap Enc.enc).take (l.length*4)=l.flatMap Enc.enc:=Yw l
def j9(x:Inst)(t:zL):Sm:=⟨(List.range t.length).map (yB x t),(List.range t.length).map (yC x t),(List.range (t.length+1)).map λi=>zU (t.take i),yE x (t.map (·.c))⟩
abbrev uM(x:Inst)(d:zp):List PV:=[I x.days,I x.veh,I x.cap,I x.len,L x.cust,L x.dist,L d,L (d.map (j9 x))]
structure MvDay (d:zp):Prop where
 n:d.length<=1000
 t:∀t∈d,t.length<=1000
 s:∀t∈d,∀s∈t,qb s.c/\0<=s.q/\s.q<=2147483648
theorem Zpd{t:zL}{i:Nat}{s:Stop}(h:t.take (i+1)=t.take i++[s]):zU (t.take (i+1))=zU (t.take i)+s.q:=by rw[h,X9]
theorem Zcw{α:Type}(f:Nat->α)(k:Nat):(List.range (k+1)).map f=(List.range k).map f++[f k]:=by rw[AK,List.map_append];rfl
theorem Zpe(id v:Nat)(cs:List PV)(l:List Sm):(l.flatMap Enc.enc).map (qz id v cs)=(l.flatMap Enc.enc:List PV):=by
 induction l with
 | nil=>rfl
 | cons s l ih=>rw[Az,List.map_append,ih];rfl
theorem Zpf(x:Inst)(d:zp)(hx:q9 x)(hd':MvDay d):Pure prog 324 [.agg (zy x),.agg [L d]] (.ip (uM x d)):=by
 have hdn:=hd'.n;refine zr func324 ntmps324 results324 λS nx hd=>?_
 refine D0 ?_;intro v0 v1;refine D0 ?_;intro v2;refine jg 2 7 410 4 rfl rfl λv3=>?_
 repeat apply za
 refine zb ?_;refine zj (zC (λs':Nat × Nat=>s'.1<=d.length) (λ(k,v3)=>[(2,.ptr nx v0 0),(5,.ptr (nx+2) v2 0),(20,L d),(21,I d.length),(22,I k)]) (λ(k,v3)=>[.cells v0 25 (zy x),.cells v1 39 [L d],.cells v2 408 [I x.days,I x.veh,I x.cap,I x.len,L x.cust,L x.dist,L d,.sl (nx+3) v3 4 0 k],.cells v3 410 (((d.map (j9 x)).take k).flatMap Enc.enc)]) (λs'=>d.length-s'.1) (0,v3) [] DR DR DR ?_);rintro⟨k,v3⟩ hk;simp only at hk ⊢;refine D0 ?_;refine za (zv rfl (λhc=>?_) (λhc=>?_))
 ·simp at hc;obtain⟨t,tl,a1,a2,a3,e0⟩:=zE rfl d k hc;have hk1:1<=d.length-k:=DQ
  have htm:=Ab a1;have htl:=hd'.t t htm;have hts:=hd'.s t htm;have hlw:=Wb x t DQ (λs hs=>(hts s hs).1);have hwz:=Wq hx (t.map (·.c));rw[List.length_map]at hwz;rw[show W (yE x (t.map (·.c)))=yE x (t.map (·.c)) from wr _ DQ DQ]at hlw;refine zh (za (zj (za (ze [] (zA e0 hc hk1) ?_))));intro v4;refine za (Zpc [] [I 0] underlying26 trivial ?_);intro v5;refine zt hlw ?_;intro v6;refine D0 ?_;refine jg 6 0 3 1 rfl rfl λv7=>?_
  refine jg 6 1 3 1 rfl rfl λv8=>?_
  repeat apply za
  refine zb ?_;generalize hpc:(((d.map (j9 x)).take k).flatMap Enc.enc:List PV)=pc at *;generalize hwl:yE x (t.map (·.c))=wl at *;refine zj (zC (λs':Nat × Nat × Nat × Nat=>s'.1<=t.length) (λ(i,v5,v7,v8)=>[(2,.ptr nx v0 0),(5,.ptr (nx+2) v2 0),(7,.ptr (nx+4) v4 0),(8,.ptr (nx+6) v6 0),(9,I (yB x t (i-1))),(10,I (yC x t (i-1))),(20,L d),(21,I d.length),(22,I k),(32,L t),(33,I t.length),(34,I i)])
   (λ(i,v5,v7,v8)=>[.cells v0 25 (zy x),.cells v1 39 [L d],.cells v2 408 [I x.days,I x.veh,I x.cap,I x.len,L x.cust,L x.dist,L d,.sl (nx+3) v3 4 0 k],.cells v3 410 pc,.cells v4 42 [L t],.cells v5 3 (((List.range (i+1)).map λi=>zU (t.take i)).flatMap Enc.enc),
    .cells v6 410 [.sl (nx+7) v7 1 0 i,.sl (nx+8) v8 1 0 i,.sl (nx+5) v5 1 0 (i+1),I wl],.cells v7 3 (((List.range i).map (yB x t)).flatMap Enc.enc),.cells v8 3 (((List.range i).map (yC x t)).flatMap Enc.enc)]) (λs'=>t.length-s'.1) (0,v5,v7,v8) [] DR (by simp[yB,yC]) (by simp[zU]) ?_)
  rintro⟨i,v5,v7,v8⟩ hi;simp only at hi ⊢;refine D0 ?_;refine za (zv rfl (λhci=>?_) (λhci=>?_))
  ·simp at hci;obtain⟨s,ts,s1,s2,s3,-,s0⟩:=el 2 rfl t i hci;have hi2:2<=t.length*2-i*2:=DQ
   obtain⟨hsm,hq0,hq1⟩:=hts s (Ab s1);have hgs:t.getD i default=s:=by rw[Aa,s1];rfl
   have wi:=zu i DQ;have f1:=Zcw (yB x t) i;have f2:=Zcw (yC x t) i;have f3:=Zcw (λi=>zU (t.take i)) (i+1);have hlz:=Zpd s3;have hlb:=Zcd (t:=t.take i) (λa ha=>(hts a (Bl ha)).2);have hlt:(t.take i).length<=1000:=by rw[Aw];omega
   have wl1:IntKind.i64.wrap (zU (t.take i)+s.q)=zU (t.take (i+1)):=by rw[hlz];exact wr _ DQ DQ
   have g1:(((List.range i).map (yB x t)).flatMap Enc.enc:List PV).length=i:=by rw[jm];simp
   have g2:(((List.range i).map (yC x t)).flatMap Enc.enc:List PV).length=i:=by rw[jm];simp
   have g3:(((List.range (i+1)).map λi=>zU (t.take i)).flatMap Enc.enc:List PV).length=i+1:=by rw[jm];simp
   obtain⟨lz,tlz,z1,-,-,z0⟩:=zE rfl ((List.range (i+1)).map λi=>zU (t.take i)) i DR;have hlzz:lz=zU (t.take i):=by simpa using z1.symm
   have c1:(((List.range (i+1)).map (yB x t)).flatMap Enc.enc:List PV)=((List.range i).map (yB x t)).flatMap Enc.enc++[I (yB x t i)]:=by rw[f1,Ar];rfl
   have c2:(((List.range (i+1)).map (yC x t)).flatMap Enc.enc:List PV)=((List.range i).map (yC x t)).flatMap Enc.enc++[I (yC x t i)]:=by rw[f2,Ar];rfl
   have c3:(((List.range (i+1+1)).map λi=>zU (t.take i)).flatMap Enc.enc:List PV)=((List.range (i+1)).map λi=>zU (t.take i)).flatMap Enc.enc++[I (zU (t.take (i+1)))]:=by rw[f3,Ar];rfl
   rw[hlzz]at z0;clear f1 f2 f3 z1 hlzz hlz;generalize (((List.range i).map (yB x t)).flatMap Enc.enc:List PV)=fc at *;generalize (((List.range i).map (yC x t)).flatMap Enc.enc:List PV)=bc at *;generalize (((List.range (i+1)).map λi=>zU (t.take i)).flatMap Enc.enc:List PV)=lc at *;have t1:fc.take i=fc:=Ae DQ;have t2:bc.take i=bc:=Ae DQ;have t3:lc.take (i+1)=lc:=Ae DQ;refine zh (za (zj (za (ze [] (zA s0 hci hi2) ?_))));intro v9;apply za;refine qa (nx:=nx) (λ_:Unit=>True) (λ_=>[(2,.ptr nx v0 0),(5,.ptr (nx+2) v2 0),(7,.ptr (nx+4) v4 0),(8,.ptr (nx+6) v6 0),(9,I (yB x t i)),(10,I (yC x t i)),(11,I i),(12,.ptr (nx+9) v9 0),(20,L d),(21,I d.length),(22,I k),(32,L t),(33,I t.length),(34,I i)]) (λ_=>S)
    (λ_=>[.cells v0 25 (zy x),.cells v1 39 [L d],.cells v2 408 [I x.days,I x.veh,I x.cap,I x.len,L x.cust,L x.dist,L d,.sl (nx+3) v3 4 0 k],.cells v3 410 pc,.cells v4 42 [L t],.cells v5 3 lc,
    .cells v6 410 [.sl (nx+7) v7 1 0 i,.sl (nx+8) v8 1 0 i,.sl (nx+5) v5 1 0 (i+1),I wl],.cells v7 3 fc,.cells v8 3 bc,.cells v9 100 [I s.c,I s.q]]) ?_ ?_
   ·by_cases h0:0<i
    ·obtain⟨j,rfl⟩:∃j,i=j+1:=⟨i-1,by omega⟩;obtain⟨p,tp,p1,-,-,-,p0⟩:=el 2 rfl t j DQ;obtain⟨hpm,-,-⟩:=hts p (Ab p1);have hgp:t.getD j default=p:=by rw[Aa,p1];rfl
     have hj2:2<=t.length*2-j*2:=DQ
     have hjl:j<t.length:=DQ
     have wj:IntKind.i64.wrap (j:Int)=(j:Int):=wr _ DQ DQ;have wp:=Zq hpm;have ws:=Zq hsm;have ar1:=wT x (p.c+1) (s.c+1);have ar2:=wT x (s.c+1) (p.c+1);have hfz:yB x t (j+1)=yB x t j+arc x (p.c+1) (s.c+1):=by conv=>lhs;unfold yB;rw[hgs,hgp]
     have hbz:yC x t (j+1)=yC x t j+arc x (s.c+1) (p.c+1):=by conv=>lhs;unfold yC;rw[hgs,hgp]
     have b1:=Xd hx t (j+1);have b2:=Xe hx t (j+1);have wf:IntKind.i64.wrap (yB x t j+arc x (p.c+1) (s.c+1))=yB x t (j+1):=by rw[hfz]at b1 ⊢;exact wr _ DQ DQ
     have wb:IntKind.i64.wrap (yC x t j+arc x (s.c+1) (p.c+1))=yC x t (j+1):=by rw[hbz]at b2 ⊢;exact wr _ DQ DQ
     simp only[B0];have h0':(0:Int)<((j+1:Nat):Int):=DQ
     refine za (ze [] (zo h0 h0') ?_);refine zk DR ?_;refine za (zz (some [nx+4,nx+9]) (Row.pures [0,1,2,3,4,5,6,7,8,9,10,11,12] .done) mixed (zP wj p0 hjl hj2 wp ws) ?_);refine D0 ?_;refine qi [] ar1 wf ?_;refine zb ?_;refine qi [] ar2 wb ?_;exact zS () [] trivial DR rfl DR
    ·obtain rfl:i=0:=DQ
     refine D0 ?_;exact zm rfl (zh (zS () [] trivial DR rfl DR))
   ·rintro⟨⟩ -;apply za;refine qa (nx:=nx) (λ_:Unit=>True) (λ_=>[(2,.ptr nx v0 0),(5,.ptr (nx+2) v2 0),(7,.ptr (nx+4) v4 0),(8,.ptr (nx+6) v6 0),(9,I (yB x t i)),(10,I (yC x t i)),(11,I i),(12,.ptr (nx+9) v9 0),(20,L d),(21,I d.length),(22,I k),(32,L t),(33,I t.length),(34,I i)]) (λ_=>S)
     (λ_=>[.cells v0 25 (zy x),.cells v1 39 [L d],.cells v2 408 [I x.days,I x.veh,I x.cap,I x.len,L x.cust,L x.dist,L d,.sl (nx+3) v3 4 0 k],.cells v3 410 pc,.cells v4 42 [L t],.cells v5 3 lc,
     .cells v6 410 [.sl (nx+7) (v7+1) 1 0 (i+1),.sl (nx+8) (v8+1) 1 0 (i+1),.sl (nx+5) v5 1 0 (i+1),I wl],.cells (v7+1) 3 (fc++[I (yB x t i)]),.cells (v8+1) 3 (bc++[I (yC x t i)]),.cells v9 100 [I s.c,I s.q]]) ?_ ?_
    ·repeat apply za
     refine zz (some []) (Row.pures [0,2,3,5,7,8] (.alt 1 (.alt 4 (.alt 6 (Row.pures [10] (.alt 9 (.alt 11 (Row.pures [12] (.alt 13 (.done) .stop)) .stop) .stop)) .stop) (.alt 6 (.alt 4 (Row.pures [10] (.alt 9 (.alt 11 (Row.pures [12] (.alt 13 (.done) .stop)) .stop) .stop)) .stop) .stop)) (.alt 6 (.alt 1 (.alt 4 (Row.pures [10] (.alt 9 (.alt 11 (Row.pures [12] (.alt 13 (.done) .stop)) .stop) .stop)) .stop) .stop) .stop))) mixed (zJ g1 g2 t1 t2) ?_
     repeat' (first | refine And.intro DQ ?_ | apply And.intro)
     all_goals exact zS () [] trivial DR rfl DR
    ·rintro⟨⟩ -;have z1:(i:Int)<(i:Int)+1:=DQ
     have z2:i<i+1:=DQ
     have z3:1<=i+1-i:=DQ
     refine zz (some [nx+9]) (Row.pures [0,2,4,7,8] (.alt 1 (.alt 3 (Row.pures [5] (.alt 6 (Row.pures [9,10] (.alt 11 (Row.pures [12] (.alt 13 (.done) .stop)) .stop)) .stop)) .stop) (.alt 3 (Row.pures [5] (.alt 1 (.alt 6 (Row.pures [9,10] (.alt 11 (Row.pures [12] (.alt 13 (.done) .stop)) .stop)) .stop) (.alt 6 (Row.pures [9,10] (.alt 1 (.alt 11 (Row.pures [12] (.alt 13 (.done) .stop)) .stop) .stop)) .stop))) .stop))) mixed (zP z0 z1 z2 z3 wl1 (zo g3 t3)) ?_
     repeat' (first | refine And.intro DQ ?_ | apply And.intro)
     all_goals
      refine ze [] wi ?_;exact zq (i+1,v5+1,v7+1,v8+1) [_] hci DV (by simp[wi]) rfl (by simp[c1,c2,c3];rfl)
  ·simp at hci;obtain rfl:i=t.length:=DQ
   refine zx ?_;clear hi hci;have hsm:j9 x t=⟨(List.range t.length).map (yB x t),(List.range t.length).map (yC x t),(List.range (t.length+1)).map λi=>zU (t.take i),wl⟩:=by unfold j9;rw[hwl]
   have g1:(((List.range t.length).map (yB x t)).flatMap Enc.enc:List PV).length=t.length:=by rw[jm];simp
   have g2:(((List.range t.length).map (yC x t)).flatMap Enc.enc:List PV).length=t.length:=by rw[jm];simp
   have g3:(((List.range (t.length+1)).map λi=>zU (t.take i)).flatMap Enc.enc:List PV).length=t.length+1:=by rw[jm];simp
   have hfz:∀id v cs,pc.map (qz id v cs)=pc:=λid v cs=>by rw[<-hpc];exact Zpe id v cs _
   have hpl:pc.length=k*4:=by rw[<-hpc,ZgE];simp;omega
   have hpt:pc.take (k*4)=pc:=Ae DQ;have hnew:(((d.map (j9 x)).take (k+1)).flatMap Enc.enc:List PV)=pc++[L ((List.range t.length).map (yB x t)),L ((List.range t.length).map (yC x t)),L ((List.range (t.length+1)).map λi=>zU (t.take i)),I wl]:=by
    rw[<-hpc,<-List.map_take,a3,List.map_append,Ar,<-List.map_take,AA,hsm];rfl
   have l1:((List.range t.length).map (yB x t)).length=t.length:=DR
   have l2:((List.range t.length).map (yC x t)).length=t.length:=DR
   have l3:((List.range (t.length+1)).map λi=>zU (t.take i)).length=t.length+1:=DR
   generalize (List.range t.length).map (yB x t)=fl at *;generalize (List.range t.length).map (yC x t)=bl at *;generalize ((List.range (t.length+1)).map λi=>zU (t.take i))=ll at *;clear g1 g2 g3;refine zZ 8 rfl ?_;simp only[AA,Bk,AU,A5,xG,hfz];refine zZ 7 rfl ?_;simp only[AA,Bk,AU,A5,xG,hfz];refine zZ 5 rfl ?_;simp only[AA,Bk,AU,A5,xG,hfz];refine zz (some [nx+6]) (Row.pures [0,1,2,3,5,6] (.alt 4 (.alt 7 (Row.pures [8,9] (.alt 10 (.done) .stop)) .stop) .stop)) mixed (yv l1 l2 l3 hpl hpt) ?_;refine⟨by omega,?_⟩;refine zb ?_;exact zq (k+1,v3+1) [_,_,_,_,_] hc DV (by simp[zu k (by omega)]) rfl (by simp[hnew,l1,l2,l3];exact⟨rfl,rfl,rfl,rfl,rfl⟩)
 ·simp at hc;obtain rfl:k=d.length:=DQ
  rw[Ae DR];refine zx ?_;have hml:((d.map (j9 x)).flatMap Enc.enc:List PV).length=d.length*4:=by rw[ZgE];simp
  refine zZ 3 rfl ?_;refine za (ze [] hml ?_);refine xO 2 rfl ?_;exact zg (zi hd DT (by simp[zn,hml]))
open Go Go.Proofs
def xv(x:Inst):Int->List Int->Int
 | _,[]=>0
 | a,c :: l=>arc x a (c+1)+xv x (c+1) l
theorem Zcx(x:Inst):∀(l:List Int) (a:Int) (m:List Int),xv x a (l++m)=xv x a l+xv x (qc a l) m
 | [],a,m=>by simp[xv,qc]
 | c :: l,a,m=>by
  simp only[List.cons_append,xv,qc];rw[Zcx x l (c+1) m];omega
theorem Zcy:∀(l:List Int) (a:Int) (m:List Int),qc a (l++m)=qc (qc a l) m
 | [],a,m=>rfl
 | c :: l,a,m=>by simp only[List.cons_append,qc];exact Zcy l (c+1) m
theorem ZgF(x:Inst):∀(l:List Int) (a:Int),jH x a l=xv x a l+arc x (qc a l) 0
 | [],a=>by simp[jH,xv,qc]
 | c :: l,a=>by
  simp only[jH,xv,qc];rw[ZgF x l (c+1)];omega
def um(t:zL)(f n:Nat):zL:=(t.drop f).take n
theorem Ws{t:zL}{f n:Nat}{s:Stop}(h:t[f+n]?=some s):um t f (n+1)=um t f n++[s]:=by grind[um,List.take_succ_eq_append_getElem]
theorem getD_some{t:zL}{i:Nat}{s:Stop}(h:t[i]?=some s):t.getD i default=s:=DZ
theorem ZgG(x:Inst)(t:zL)(f:Nat)(a:Int):∀n,f+n<t.length->xv x a ((um t f (n+1)).map (·.c))=arc x a ((t.getD f default).c+1)+(yB x t (f+n)-yB x t f)/\qc a ((um t f (n+1)).map (·.c))=(t.getD (f+n) default).c+1
 | 0,h=>by
  have h0:t[f+0]?=some t[f]:=Af DQ;rw[Ws h0]
  grind[um,xv,qc]
 | n+1,h=>by
  obtain⟨i1,i2⟩:=ZgG x t f a n DQ;have h0:t[f+(n+1)]?=some t[f+(n+1)]:=Af DQ;rw[Ws h0,List.map_append,Zcx,Zcy,i1,i2,getD_some h0]
  grind[xv,qc,yB]
theorem ZgH(x:Inst)(t:zL)(f:Nat):∀(n:Nat) (a:Int),f+n<t.length->xv x a ((um t f (n+1)).reverse.map (·.c))=arc x a ((t.getD (f+n) default).c+1)+(yC x t (f+n)-yC x t f)/\qc a ((um t f (n+1)).reverse.map (·.c))=(t.getD f default).c+1
 | 0,a,h=>by
  have h0:t[f+0]?=some t[f]:=Af DQ;rw[Ws h0]
  grind[um,xv,qc]
 | n+1,a,h=>by
  have h0:t[f+(n+1)]?=some t[f+(n+1)]:=Af DQ;obtain⟨i1,i2⟩:=ZgH x t f n ((t.getD (f+(n+1)) default).c+1) DQ;rw[Ws h0,C6];simp only[Cu,Ds,AN,List.cons_append,AA,xv,qc]
  grind[yC]
theorem ZgI(t:zL)(f:Nat):∀n,f+n<=t.length->zU (um t f n)=zU (t.take (f+n))-zU (t.take f)
 | 0,_=>by simp[um,zU]
 | n+1,h=>by
  have h0:t[f+n]?=some t[f+n]:=Af DQ;have e:t.take (f+n+1)=t.take (f+n)++[t[f+n]]:=AO DQ;rw[Ws h0,X9,ZgI t f n DQ,<-Nat.add_assoc,e,X9];omega
def jr(x:Inst)(d:zp)(st:Int × Int)(p:Pc):Int × Int :=
 if p.f<p.o then
  (bif p.b then (((d.getD p.t []).getD p.f default).c+1,st.2+(arc x st.1 (((d.getD p.t []).getD (p.o-1) default).c+1)+yC x (d.getD p.t []) (p.o-1)-yC x (d.getD p.t []) p.f))
  else (((d.getD p.t []).getD (p.o-1) default).c+1,st.2+(arc x st.1 (((d.getD p.t []).getD p.f default).c+1)+yB x (d.getD p.t []) (p.o-1)-yB x (d.getD p.t []) p.f)))
 else st
def wD(x:Inst)(d:zp)(r:Rw5):Int:=(r.l.foldl (jr x d) (0,0)).2+arc x (r.l.foldl (jr x d) (0,0)).1 0
def w8(d:zp)(st:Int)(p:Pc):Int:=if p.f<p.o then st+(zU ((d.getD p.t []).take p.o)-zU ((d.getD p.t []).take p.f)) else st
def Qn(d:zp)(r:Rw5):Int:=r.l.foldl (w8 d) 0
theorem Zpg{x:Inst}{d:zp}{p:Pc}(h:Xb d p)(g:List Stop):jr x d (qc 0 (g.map (·.c)),xv x 0 (g.map (·.c))) p=(qc 0 ((g++qC d p).map (·.c)),xv x 0 ((g++qC d p).map (·.c))):=by
 unfold jr qC
 by_cases hfo:p.f<p.o
 ·obtain⟨ht,ho⟩:=h hfo;unfold qK at ho;rw[if_pos hfo,if_pos hfo];generalize d.getD p.t []=t at *;obtain⟨n,hn⟩:∃n,p.o=p.f+n+1:=⟨p.o-p.f-1,by omega⟩;have e1:p.o-1=p.f+n:=DQ
  have e2:p.o-p.f=n+1:=DQ
  rw[e1,e2,List.map_append,Zcx,Zcy];cases p.b with
  | true =>
   simp only[cond_true];obtain⟨i1,i2⟩:=ZgH x t p.f n (qc 0 (g.map (·.c))) DQ;unfold um at i1 i2;rw[i1,i2];congr 1;omega
  | false =>
   simp only[cond_false];obtain⟨i1,i2⟩:=ZgG x t p.f (qc 0 (g.map (·.c))) n DQ;unfold um at i1 i2;rw[i1,i2];congr 1;omega
 grind
theorem ZgJ{x:Inst}{d:zp}:∀(l:List Pc) (g:List Stop),(∀p∈l,Xb d p)->l.foldl (jr x d) (qc 0 (g.map (·.c)),xv x 0 (g.map (·.c)))=(qc 0 ((g++l.flatMap (qC d)).map (·.c)),xv x 0 ((g++l.flatMap (qC d)).map (·.c)))
 | [],g,_=>by simp
 | p :: l,g,h=>by
  rw[A3,Zpg (h p DR),ZgJ l _ λq hq=>h q (by simp[hq]),Az,List.append_assoc]
theorem Zcz{x:Inst}{d:zp}{r:Rw5}(h:uL d r)(h0:arc x 0 0=0):wD x d r=yE x ((qe d r).map (·.c)):=by
 have:=ZgJ (x:=x) r.l [] h
 grind[qc,xv,wD,qe,yE,ZgF]
theorem Zph{d:zp}{p:Pc}(h:Xb d p)(g:List Stop):w8 d (zU g) p=zU (g++qC d p):=by
 unfold w8 qC
 by_cases hfo:p.f<p.o
 ·obtain⟨ht,ho⟩:=h hfo;unfold qK at ho;rw[if_pos hfo,if_pos hfo,ZnY];generalize d.getD p.t []=t at *;have:=ZgI t p.f (p.o-p.f) DQ;rw[show p.f+(p.o-p.f)=p.o by omega]at this;have hr:∀l:zL,zU l.reverse=zU l:=λl=>by unfold zU;exact ZnX ((List.reverse_perm l).map _)
  unfold um at this;cases p.b with
  | true=>simp only[cond_true];rw[hr,this]
  | false=>simp only[cond_false];rw[this]
 grind
theorem Zpi{d:zp}{r:Rw5}(h:uL d r):Qn d r=zU (qe d r):=by
 have key:∀(l:List Pc) (g:List Stop),(∀p∈l,Xb d p)->l.foldl (w8 d) (zU g)=zU (g++l.flatMap (qC d)):=by
  intro l
  induction l with
  | nil=>intro g _;simp
  | cons p l ih =>
   intro g h;rw[A3,Zph (h p DR),ih _ λq hq=>h q (by simp[hq]),Az,List.append_assoc]
 have:=key r.l [] h
 simp_all[Qn,qe,zU]
open Go Go.Proofs
abbrev Xf(x:Inst)(d:zp)(sms:List Sm):List PV:=[I x.days,I x.veh,I x.cap,I x.len,L x.cust,L x.dist,L d,L sms]
theorem Xg{x:Inst}(h:q9 x)(a b:Int):0<=arc x a b/\arc x a b<=2147483648:=h a b
theorem Zad{x:Inst}{d:zp}{sms:List Sm}(hs:sms=d.map (j9 x)){k:Nat}(h:k<d.length):∃(t:zL) (td tf:List PV),d[k]?=some t/\d.getD k []=t/\(d.flatMap Enc.enc:List PV).drop k=L t :: td /\
  (sms.flatMap Enc.enc:List PV).drop (k*4)=[L (j9 x t).f,L (j9 x t).b,L (j9 x t).l,I (j9 x t).n]++tf:=by
 obtain⟨t,td,a1,-,-,e0⟩:=zE rfl d k h;rw[hs];obtain⟨s,ts,b1,-,-,-,f0⟩:=el 4 rfl (d.map (j9 x)) k (by simpa using h);have:s=j9 x t:=by rw[Aj,a1]at b1;exact(Option.some.inj b1).symm
 subst this;exact⟨t,td,ts,a1,by rw[Aa,a1];rfl,e0,f0⟩
theorem Xh{α:Type}[Enc α](n:Nat)(hn:Enc.sz α=1)(f:Nat->α){i:Nat}(h:i<n):∃tl,(((List.range n).map f).flatMap Enc.enc:List PV).drop i=Enc.enc (f i)++tl:=by
 obtain⟨s,ts,b1,-,-,f0⟩:=zE hn ((List.range n).map f) i (by simpa using h);have:s=f i:=by rw[Aj,Bc h]at b1;exact(Option.some.inj b1).symm
 subst this;exact⟨ts,f0⟩
theorem ZcA(x:Inst)(d:zp)(r:Rw5)(hx:q9 x)(hd':MvDay d)(hr:uL d r):Pure prog 342 [.ip (uM x d),.agg (yx r)] (I (wD x d r)):=by
 obtain⟨sms,hsms⟩:∃sms,sms=d.map (j9 x):=⟨_,rfl⟩;have hml:sms.length=d.length:=by rw[hsms];simp
 rw[show uM x d=Xf x d sms from by rw[hsms]];have hdn:=hd'.n;have hat:=λk (h:k<5)=>Zac r h
 have hz:wD x d r=((r.l.take 5).foldl (jr x d) (0,0)).2+arc x ((r.l.take 5).foldl (jr x d) (0,0)).1 0:=by unfold wD;rw[Ae (by simp[Rw5.l])]
 rw[hz];clear hz;have hcl:(yx r).length=20:=rfl;have hct:(yx r).take 20=yx r:=rfl;generalize hrc:yx r=rc at *;refine zr func342 ntmps342 results342 λS nx hd=>?_
 refine D0 ?_;intro v0;refine D0 ?_
 repeat apply za
 refine ze [] (zo hcl hct) ?_;refine zj (zC (λk:Nat=>k<=5/\-(8796093022208*(k:Int))<=((r.l.take k).foldl (jr x d) (0,0)).2/\((r.l.take k).foldl (jr x d) (0,0)).2<=8796093022208*k) (λk=>[(0,.ip (Xf x d sms)),(3,.ptr nx v0 0),(5,I ((r.l.take k).foldl (jr x d) (0,0)).1),(6,I ((r.l.take k).foldl (jr x d) (0,0)).2),(13,.agg rc),(14,I k)]) (λ_=>[.cells v0 371 rc]) (λk=>5-k) 0 [] DR DR DR ?_);rintro k ⟨hk,hb1,hb2⟩
 by_cases hk5:k<5
 ·obtain⟨p,hp1,hp2,hp3⟩:=hat k hk5;have hk5':(k:Int)<5:=DQ
  have hk6:4<=20-k*4:=DQ
  have hok:=hr p (Ab hp1);have hnx:(r.l.take (k+1)).foldl (jr x d) (0,0)=jr x d ((r.l.take k).foldl (jr x d) (0,0)) p:=by rw[hp3,Br];rfl
  generalize (r.l.take k).foldl (jr x d) (0,0)=st at *;obtain⟨at_,all⟩:=st;simp only at hb1 hb2 ⊢;have wk:=zu k DQ;refine za (ze [] hk5' ?_);refine za (zk rfl (zh (za (zj (za (ze [] (yv hp2 hk5 hk5' hcl hk6) ?_))))));intro v3
  by_cases hfo:p.f<p.o
  case neg =>
   have hpz:jr x d (at_,all) p=(at_,all):=by unfold jr;rw[if_neg hfo]
   rw[hpz]at hnx;have hfo':p.o<=p.f:=DQ
   repeat apply za
   refine ze [] hfo' ?_;refine zk (by simp[hfo']) ?_;refine zx (zb ?_);exact zq (k+1) [_] ⟨by omega,by rw[hnx];simp only;omega,by rw[hnx];simp only;omega⟩ DQ (by simp[wk,hnx]) rfl DT
  obtain⟨ht,ho⟩:=hok hfo;obtain⟨t,td,tf,a1,hgt,e0,f0⟩:=Zad hsms ht;unfold qK at ho;rw[hgt]at ho;have htm:=Ab a1;have htl:=hd'.t t htm;have hts:=hd'.s t htm;have ht1:1<=d.length-p.t:=DQ
  have ht4:4<=d.length*4-p.t*4:=DQ
  obtain⟨n,hn⟩:∃n,p.o=n+1:=⟨p.o-1,by omega⟩;have hfo':¬p.o<=p.f:=DQ
  have hst:jr x d (at_,all) p=bif p.b then ((t.getD p.f default).c+1,all+(arc x at_ ((t.getD n default).c+1)+yC x t n-yC x t p.f)) else ((t.getD n default).c+1,all+(arc x at_ ((t.getD p.f default).c+1)+yB x t n-yB x t p.f)):=by
   unfold jr;rw[if_pos hfo,hgt,show p.o-1=n by omega]
  rw[hst]at hnx;clear hst;obtain⟨sf,tsf,s1,-,-,-,s0⟩:=el 2 rfl t p.f DQ;obtain⟨sl,tsl,l1,-,-,-,l0⟩:=el 2 rfl t n DQ;have hgf:t.getD p.f default=sf:=getD_some s1;have hgl:t.getD n default=sl:=getD_some l1;rw[hgf,hgl]at hnx;have q1:p.f<t.length:=DQ
  have q2:n<t.length:=DQ
  have q3:2<=t.length*2-p.f*2:=DQ
  have q4:2<=t.length*2-n*2:=DQ
  have wo:IntKind.i64.wrap ((p.o:Int)-1)=(n:Int):=by rw[wr _ DQ DQ];omega
  have wsf:=Zq (hts sf (Ab s1)).1;have wsl:=Zq (hts sl (Ab l1)).1;have bf1:=Xd hx t p.f;have bf2:=Xd hx t n;have bb1:=Xe hx t p.f;have bb2:=Xe hx t n;have hlen:((List.range t.length).map (yB x t)).length=t.length/\((List.range t.length).map (yC x t)).length=t.length:=DR
  obtain⟨z1,hz1⟩:=Xh t.length rfl (yB x t) q1;obtain⟨z2,hz2⟩:=Xh t.length rfl (yB x t) q2;obtain⟨z3,hz3⟩:=Xh t.length rfl (yC x t) q1;obtain⟨z4,hz4⟩:=Xh t.length rfl (yC x t) q2;have q5:1<=t.length-p.f:=DQ
  have q6:1<=t.length-n:=DQ
  simp only[j9]at f0;generalize hfl:(List.range t.length).map (yB x t)=fl at *;generalize hbl:(List.range t.length).map (yC x t)=bl at *;generalize ((List.range (t.length+1)).map λi=>zU (t.take i))=ll at *;generalize yE x (t.map (·.c))=wl at *;obtain⟨hl1,hl2⟩:=hlen;have hfll:(fl.flatMap Enc.enc:List PV).length=t.length:=by rw[jm,hl1]
  have hbll:(bl.flatMap Enc.enc:List PV).length=t.length:=by rw[jm,hl2]
  repeat apply za
  refine ze [] hfo' ?_;refine zm (by simp[hfo']) ?_;refine zh (za (zz (some [nx+1]) (Row.pures [0,1,2,3,4,5,6,7,8,9,10,11,12,13,14,15,16,17,18,19,20] .done) mixed (zP e0 f0 ht ht1 ht4 hml) ?_));refine za (zz (some [nx+1]) (Row.pures [0,1,2,3,4,5,6] .done) mixed wo ?_);apply za;cases hpb:p.b with
  | false =>
   rw[hpb]at hnx;simp only[cond_false]at hnx;have har:=Xg hx at_ (sf.c+1);have ar:=wT x at_ (sf.c+1);have w1:IntKind.i64.wrap (arc x at_ (sf.c+1)+yB x t n)=arc x at_ (sf.c+1)+yB x t n:=wr _ DQ DQ;have w2:IntKind.i64.wrap (arc x at_ (sf.c+1)+yB x t n-yB x t p.f)=arc x at_ (sf.c+1)+yB x t n-yB x t p.f:=wr _ DQ DQ;have w3:IntKind.i64.wrap (all+(arc x at_ (sf.c+1)+yB x t n-yB x t p.f))=all+(arc x at_ (sf.c+1)+yB x t n-yB x t p.f):=wr _ DQ DQ;refine za (ze [] hpb ?_);refine zm rfl (zh (za (zz (some [nx+1]) (Row.pures [0,1,2,3,4,5,6,7,8,9,10,11,12,13,14,15,16,17,18,19,20,21,22,23,24,25,26,27] .done) mixed (zP s0 q1 q3 wsf wo (zo (zP hz1 hz2 hfll hl1 q2 q5) (zJ q6 w1 w2 w3))) ?_)));refine zH (ar) (zP s0 q1 q3 wsf wo (zo (zP hz1 hz2 hfll hl1 q2 q5) (zJ q6 w1 w2 w3))) ?_;refine ze [] (zJ l0 q2 q4 wsl) ?_;refine zb ?_;exact zq (k+1) [_] ⟨by omega,by rw[hnx];simp only;omega,by rw[hnx];simp only;omega⟩ DQ (by simp[wk,hnx]) rfl DT
  | true =>
   rw[hpb]at hnx;simp only[cond_true]at hnx;have har:=Xg hx at_ (sl.c+1);have ar:=wT x at_ (sl.c+1);have w1:IntKind.i64.wrap (arc x at_ (sl.c+1)+yC x t n)=arc x at_ (sl.c+1)+yC x t n:=wr _ DQ DQ;have w2:IntKind.i64.wrap (arc x at_ (sl.c+1)+yC x t n-yC x t p.f)=arc x at_ (sl.c+1)+yC x t n-yC x t p.f:=wr _ DQ DQ;have w3:IntKind.i64.wrap (all+(arc x at_ (sl.c+1)+yC x t n-yC x t p.f))=all+(arc x at_ (sl.c+1)+yC x t n-yC x t p.f):=wr _ DQ DQ;refine za (ze [] hpb ?_);refine zk rfl (zz (some [nx+1]) (Row.pures [0,1,2,3,4,5,6,7,8,9,10,11,12,13] .done) mixed (zJ f0 ht ht4 hml) ?_);refine za (zz (some [nx+1]) (Row.pures [0,1,2,3,4,5,6,7,8,9,10,11,12,13,14,15,16,17,18,19,20,21,22,23,24,25,26,27] .done) mixed (zP l0 q2 q4 wsl wo (zo (zP hz3 hz4 hbll hl2 q1 q5) (zJ q6 w1 w2 w3))) ?_);refine zH (ar) (zP l0 q2 q4 wsl wo (zo (zP hz3 hz4 hbll hl2 q1 q5) (zJ q6 w1 w2 w3))) ?_;refine ze [] (zJ s0 q1 q3 wsf) ?_;refine zb ?_;exact zq (k+1) [_] ⟨by omega,by rw[hnx];simp only;omega,by rw[hnx];simp only;omega⟩ DQ (by simp[wk,hnx]) rfl DT
 ·obtain rfl:k=5:=DQ
  generalize (r.l.take 5).foldl (jr x d) (0,0)=st at *;obtain⟨at_,all⟩:=st;simp only at hb1 hb2 ⊢;have har:=Xg hx at_ 0;have ar:=wT x at_ 0;have w1:IntKind.i64.wrap (all+arc x at_ 0)=all+arc x at_ 0:=wr _ DQ DQ;refine D0 ?_;refine za (zm rfl (zx (D0 ?_)));refine qi [] ar w1 ?_;exact zg (zi hd rfl rfl)
open Go Go.Proofs
theorem Zpj(x:Inst)(d:zp)(r:Rw5)(hd':MvDay d)(hr:uL d r):Pure prog 343 [.ip (uM x d),.agg (yx r)] (I (Qn d r)):=by
 obtain⟨sms,hsms⟩:∃sms,sms=d.map (j9 x):=⟨_,rfl⟩;have hml:sms.length=d.length:=by rw[hsms];simp
 rw[show uM x d=Xf x d sms from by rw[hsms]];have hdn:=hd'.n;have hat:=λk (h:k<5)=>Zac r h
 have hz:Qn d r=(r.l.take 5).foldl (w8 d) 0:=by unfold Qn;rw[Ae (by simp[Rw5.l])]
 rw[hz];clear hz;have hcl:(yx r).length=20:=rfl;have hct:(yx r).take 20=yx r:=rfl;generalize hrc:yx r=rc at *;refine zr func343 ntmps343 results343 λS nx hd=>?_
 refine D0 ?_;intro v0;refine D0 ?_
 repeat apply za
 refine ze [] (zo hcl hct) ?_;refine zj (zC (λk:Nat=>k<=5/\-(8796093022208*(k:Int))<=(r.l.take k).foldl (w8 d) 0/\(r.l.take k).foldl (w8 d) 0<=8796093022208*k) (λk=>[(0,.ip (Xf x d sms)),(3,.ptr nx v0 0),(5,I ((r.l.take k).foldl (w8 d) 0)),(8,.agg rc),(9,I k)]) (λ_=>[.cells v0 371 rc]) (λk=>5-k) 0 [] DR DR DR ?_);rintro k ⟨hk,hb1,hb2⟩
 by_cases hk5:k<5
 ·obtain⟨p,hp1,hp2,hp3⟩:=hat k hk5;have hk5':(k:Int)<5:=DQ
  have hk6:4<=20-k*4:=DQ
  have hok:=hr p (Ab hp1);have hnx:(r.l.take (k+1)).foldl (w8 d) 0=w8 d ((r.l.take k).foldl (w8 d) 0) p:=by rw[hp3,Br];rfl
  generalize (r.l.take k).foldl (w8 d) 0=all at *;have wk:=zu k DQ;refine za (ze [] hk5' ?_);refine za (zk rfl (zh (za (zj (za (ze [] (yv hp2 hk5 hk5' hcl hk6) ?_))))));intro v3
  by_cases hfo:p.f<p.o
  case neg =>
   have hpz:w8 d all p=all:=by unfold w8;rw[if_neg hfo]
   rw[hpz]at hnx;refine za (ze [] hfo ?_);refine zm (by simp[hfo]) ?_;refine zh (zb ?_);exact zq (k+1) [_] ⟨by omega,by rw[hnx];omega,by rw[hnx];omega⟩ DQ (by simp[wk,hnx]) rfl DT
  obtain⟨ht,ho⟩:=hok hfo;obtain⟨t,td,tf,a1,hgt,e0,f0⟩:=Zad hsms ht;unfold qK at ho;rw[hgt]at ho;have htm:=Ab a1;have htl:=hd'.t t htm;have hts:=hd'.s t htm;have ht4:4<=d.length*4-p.t*4:=DQ
  have hst:w8 d all p=all+(zU (t.take p.o)-zU (t.take p.f)):=by unfold w8;rw[if_pos hfo,hgt]
  rw[hst]at hnx;have b1:=Zcd (t:=t.take p.o) (λa ha=>(hts a (Bl ha)).2);have b2:=Zcd (t:=t.take p.f) (λa ha=>(hts a (Bl ha)).2);have b3:(t.take p.o).length<=1000:=by rw[Aw];omega
  have b4:(t.take p.f).length<=1000:=by rw[Aw];omega
  have w1:IntKind.i64.wrap (zU (t.take p.o)-zU (t.take p.f))=zU (t.take p.o)-zU (t.take p.f):=wr _ DQ DQ;have w2:IntKind.i64.wrap (all+(zU (t.take p.o)-zU (t.take p.f)))=all+(zU (t.take p.o)-zU (t.take p.f)):=wr _ DQ DQ;obtain⟨z1,hz1⟩:=Xh (t.length+1) rfl (λi=>zU (t.take i)) (show p.o<t.length+1 by omega);obtain⟨z2,hz2⟩:=Xh (t.length+1) rfl (λi=>zU (t.take i)) (show p.f<t.length+1 by omega);have hll:((List.range (t.length+1)).map λi=>zU (t.take i)).length=t.length+1:=DR
  simp only[j9]at f0;generalize (List.range t.length).map (yB x t)=fl at *;generalize (List.range t.length).map (yC x t)=bl at *;generalize ((List.range (t.length+1)).map λi=>zU (t.take i))=ll at *;generalize yE x (t.map (·.c))=wl at *;generalize zU (t.take p.o)=lo at *;generalize zU (t.take p.f)=lf at *;have hlf:(ll.flatMap Enc.enc:List PV).length=t.length+1:=by rw[jm,hll]
  have q1:p.o<t.length+1:=DQ
  have q2:p.f<t.length+1:=DQ
  have q3:1<=t.length+1-p.o:=DQ
  have q4:1<=t.length+1-p.f:=DQ
  have q5:(p.o:Int)<(t.length:Int)+1:=DQ
  have q6:(p.f:Int)<(t.length:Int)+1:=DQ
  refine za (ze [] hfo ?_);refine zk (by simp[hfo]) ?_;refine zz (some [nx+1]) (Row.pures [0,1,2,3,4,5,6,7,8,9,10,11,12,13,14,15,16,17,18,19,20,21,22,23,24,25,26,27,28,29] .done) mixed (zP f0 ht ht4 hml hz1 (zo (zP hz2 hll hlf q1 q2 q3) (yv q4 q5 q6 w1 w2))) ?_;refine zb ?_;exact zq (k+1) [_] ⟨by omega,by rw[hnx];omega,by rw[hnx];omega⟩ DQ (by simp[wk,hnx]) rfl DT
 ·obtain rfl:k=5:=DQ
  refine D0 ?_;refine za (zm rfl (zx (D0 ?_)));exact zg (zi hd rfl rfl)
def Wt(x:Inst)(d:zp)(m:Mv)(r1 r2:Rw5):Int:=wD x d r1-yE x ((d.getD m.a []).map (·.c))+(if m.a=m.b then 0 else wD x d r2-yE x ((d.getD m.b []).map (·.c)))
theorem ZgK{x:Inst}(hx:q9 x){d:zp}(hd':MvDay d){r:Rw5}(hr:uL d r):-52776558133248<=wD x d r/\wD x d r<=52776558133248:=by
 have key:∀k:Nat,k<=5->-(8796093022208*(k:Int))<=((r.l.take k).foldl (jr x d) (0,0)).2/\((r.l.take k).foldl (jr x d) (0,0)).2<=8796093022208*k:=by
  intro k
  induction k with
  | zero=>intro _;simp
  | succ k ih =>
   intro hk;obtain⟨h1,h2⟩:=ih DQ;obtain⟨p,hp1,-,hp3⟩:=Zac r (show k<5 by omega);have hok:=hr p (Ab hp1);rw[hp3,Br,A3,List.foldl_nil];generalize (r.l.take k).foldl (jr x d) (0,0)=st at *;unfold jr
   by_cases hfo:p.f<p.o
   ·obtain⟨ht,ho⟩:=hok hfo;have htm:d.getD p.t []∈d:=Ab (i:=p.t) (by rw[Aa,Af ht];rfl);have htl:=hd'.t _ htm;unfold qK at ho;generalize d.getD p.t []=t at *;have b1:=Xd hx t p.f;have b2:=Xd hx t (p.o-1);have b3:=Xe hx t p.f;have b4:=Xe hx t (p.o-1);rw[if_pos hfo];cases p.b with
    | true =>
     have:=Xg hx st.1 ((t.getD (p.o-1) default).c+1);simp only[cond_true];omega
    | false =>
     have:=Xg hx st.1 ((t.getD p.f default).c+1);simp only[cond_false];omega
   ·rw[if_neg hfo];omega
 have h5:=key 5 DQ;rw[Ae (by simp[Rw5.l])]at h5;have:=Xg hx (r.l.foldl (jr x d) (0,0)).1 0;unfold wD;omega
theorem Zpk(x:Inst)(d:zp)(m:Mv)(r1 r2:Rw5)(hx:q9 x)(hd':MvDay d)(hr1:uL d r1)(hr2:uL d r2)(ha:m.a<d.length)(hb:m.b<d.length):Pure prog 327 [.ip (uM x d),.agg (Zc m),.agg (yx r1),.agg (yx r2)] (I (Wt x d m r1 r2)):=by
 have l1:=ZcA x d r1 hx hd' hr1;have l2:=ZcA x d r2 hx hd' hr2;have b1:=ZgK hx hd' hr1;have b2:=ZgK hx hd' hr2;obtain⟨sms,hsms⟩:∃sms,sms=d.map (j9 x):=⟨_,rfl⟩;have hml:sms.length=d.length:=by rw[hsms];simp
 rw[show uM x d=Xf x d sms from by rw[hsms]]at l1 l2 ⊢;have hdn:=hd'.n;obtain⟨ta,tda,tfa,a1,hga,-,fa⟩:=Zad hsms ha;obtain⟨tb,tdb,tfb,c1,hgb,-,fb⟩:=Zad hsms hb;have wa:=Wq hx (ta.map (·.c));have wb:=Wq hx (tb.map (·.c));rw[List.length_map]at wa wb;have hta:=hd'.t ta (Ab a1);have htb:=hd'.t tb (Ab c1);have hdef:Wt x d m r1 r2=wD x d r1-yE x (ta.map (·.c))+(if m.a=m.b then 0 else wD x d r2-yE x (tb.map (·.c))):=by unfold Wt;rw[hga,hgb]
 rw[hdef];clear hdef;simp only[j9]at fa fb;generalize wD x d r1=k1 at *;generalize wD x d r2=k2 at *;generalize yE x (ta.map (·.c))=wl at *;generalize yE x (tb.map (·.c))=wm at *;have ha4:4<=d.length*4-m.a*4:=DQ
 have hb4:4<=d.length*4-m.b*4:=DQ
 have w1:IntKind.i64.wrap (k1-wl)=k1-wl:=wr _ DQ DQ;have w2:IntKind.i64.wrap (k2-wm)=k2-wm:=wr _ DQ DQ;have w3:IntKind.i64.wrap (k1-wl+(k2-wm))=k1-wl+(k2-wm):=wr _ DQ DQ;have hc1:(yx r1).length=20:=rfl;have ht1:(yx r1).take 20=yx r1:=rfl;have hc2:(yx r2).length=20:=rfl;have ht2:(yx r2).take 20=yx r2:=rfl;generalize hrc1:yx r1=rc1 at *;generalize hrc2:yx r2=rc2 at *;refine zr func327 ntmps327 results327 λS nx hd=>?_
 refine D0 ?_;intro v0 v1 v2;refine za (zz (some [nx,nx+1]) (Row.pures [0,1,2,3,4,5,6,7,8,9,10,11,12,13] .done) mixed (zP hc1 ht1 fa ha ha4 (zo hml w1)) ?_);refine zH (l1) (zP hc1 ht1 fa ha ha4 (zo hml w1)) ?_
 by_cases hab:m.a=m.b
 ·have hab':(m.a:Int)=m.b:=DQ
  rw[if_pos hab]
  repeat apply za
  refine ze [] hab' ?_;refine zm (by simp[hab']) ?_;refine zh (D0 ?_);exact zg (zi hd rfl (by simp[zn]))
 ·have hab':¬(m.a:Int)=m.b:=DQ
  rw[if_neg hab]
  repeat apply za
  refine ze [] hab' ?_;refine zk (by simp[hab']) ?_;refine zz (some [nx,nx+2]) (Row.pures [0,1,2,3,4,5,6,7,8,9,10,11,12,13,14,15] .done) mixed (zP hc2 ht2 fb hb hb4 (zA hml w2 w3)) ?_;refine zH (l2) (zP hc2 ht2 fb hb hb4 (zA hml w2 w3)) ?_;refine D0 ?_;exact zg (zi hd rfl (by simp[zn]))
theorem ZgL(x:Inst)(d:zp)(r:Rw5)(hx:q9 x)(hd':MvDay d)(hr:uL d r):Pure prog 328 [.ip (uM x d),.agg (yx r)] (B (decide (Qn d r<=x.cap/\wD x d r<=x.len))):=by
 have l1:=ZcA x d r hx hd' hr;have l2:=Zpj x d r hd' hr;obtain⟨sms,hsms⟩:∃sms,sms=d.map (j9 x):=⟨_,rfl⟩;rw[show uM x d=Xf x d sms from by rw[hsms]]at l1 l2 ⊢;generalize wD x d r=k1 at *;generalize Qn d r=k2 at *;have hc1:(yx r).length=20:=rfl;have ht1:(yx r).take 20=yx r:=rfl;generalize hrc1:yx r=rc at *;refine zr func328 ntmps328 results328 λS nx hd=>?_
 refine D0 ?_;intro v0
 by_cases h1:k2<=x.cap
 ·refine za (zz (some [nx]) (Row.pures [0,1,2,3,4,5,6,7,8,9,10,11,12,13,14,15,16,17,18,19,20] .done) mixed (zA hc1 ht1 h1) ?_);refine zH (l2) (zA hc1 ht1 h1) ?_;refine zH (l1) (zA hc1 ht1 h1) ?_;exact zg (zi hd rfl (by simp[zn,h1]))
 ·refine za (zz (some [nx]) (Row.pures [0,1,2,3,4,5,6,7,8,9,10,11,12,13,14,15,16,17,18,19,20] .done) mixed (zJ hc1 ht1 h1 zB) ?_);refine zH (l2) (zJ hc1 ht1 h1 zB) ?_;exact zg (zi hd rfl (by simp[zn,h1]))
open Go Go.Proofs
theorem Zae{α:Type}{W:Nat->List α}{n k i:Nat}{x:α}(hk:k<n)(h:(W k)[i]?=some x):((List.range n).flatMap W)[((List.range k).flatMap W).length+i]?=some x:=by
 obtain⟨m,rfl⟩:∃m,n=k+(m+1):=⟨n-k-1,by omega⟩;have hi:=(Ac.1 h).1;rw[Dc,Ar,Am (CV _ _),AH,CG];simp only[AA,Az,Bz];rw[Ap hi];exact h
theorem Zaf{α:Type}(W:Nat->List α)(k:Nat):((List.range (k+1)).flatMap W).length=((List.range k).flatMap W).length+(W k).length:=by
 rw[AK,Ar,List.length_append];simp
def YF(d:zp)(k a b i j:Nat):Option Mv:=if xQ d ⟨k,a,b,i,j⟩=true then some ⟨k,a,b,i,j⟩ else none
def Zy(d:zp)(k a b i:Nat):List Mv:=(List.range (qK d b+1)).filterMap (YF d k a b i)
def Z3(d:zp)(k a b:Nat):List Mv:=(List.range (qK d a+1)).flatMap (Zy d k a b)
def Qo(d:zp)(k a:Nat):List Mv:=(List.range d.length).flatMap (Z3 d k a)
def Z4(d:zp)(k:Nat):List Mv:=(List.range d.length).flatMap (Qo d k)
def YG(d:zp):List Mv:=(List.range 4).flatMap (Z4 d)
abbrev Je(m:Mv):List PV:=[.agg (Zc m)]
theorem Zpl(d:zp)(k a b:Nat)(hdn:d.length<=1048576)(hdt:∀t∈d,t.length<=1000)(hk:k<=3)(ha:a<d.length)(hb:b<d.length):
  V4 prog 341 (λy=>[.agg [L d],.agg [I k,I a,I b,I 0,I 0],jQ y]) ((Z3 d k a b).map Je) (B true):=by
 refine ZfP func341 DW rfl ntmps341 (congrArg Array.toList results341) DR λy V keep nx J hJd hY A0 hA0=>?_
 obtain⟨ta,xa,a1,-,-,a0⟩:=zE rfl d a ha;obtain⟨tb,xb,b1,-,-,b0⟩:=zE rfl d b hb;have ha1:1<=d.length-a:=DQ
 have hb1:1<=d.length-b:=DQ
 have la:qK d a=ta.length:=by unfold qK;rw[Aa,a1];rfl
 have lb:qK d b=tb.length:=by unfold qK;rw[Aa,b1];rfl
 have hal:=hdt ta (Ab a1);have hbl:=hdt tb (Ab b1);have hall:∀t∈d,t.length<=1048576:=λt ht=>AB (hdt t ht) DX
 have hlook:=λi j (hi:i<=1048576) (hj:j<=1048576)=>Zcr d ⟨k,a,b,i,j⟩ hdn hall hk ha hb hi hj
 have hpl:Z3 d k a b=(List.range (ta.length+1)).flatMap (Zy d k a b):=by unfold Z3;rw[la]
 have hrow:∀i,Zy d k a b i=(List.range (tb.length+1)).filterMap (YF d k a b i):=λi=>by unfold Zy;rw[lb]
 rw[hpl]at hY ⊢;clear hpl la lb;refine D0 ?_;intro v0 v1
 repeat apply za
 refine zb ?_;refine zj (jx (σ:=Nat × Int × Store) (λs'=>s'.1<=ta.length+1/\J ((List.range s'.1).flatMap (Zy d k a b)).length s'.2.2) (λs'=>[(2,jQ y),(3,.ptr nx v0 0),(4,.ptr (nx+1) v1 0)]) (λs'=>s'.2.2)
  (λ(i,jv,_)=>[.cells v0 39 [L d],.cells v1 339 [I k,I a,I b,I i,I jv]]) (λs'=>ta.length+1-s'.1) (zS (0,0,A0) [] (by simpa using hA0) DR rfl DR) ?_)
 rintro⟨i,jv,A⟩ ⟨hi,hJ⟩;simp only at hi hJ ⊢
 repeat apply za
 refine zz (some [nx,nx+1]) (Row.pures [0,1,2,3,4,5,6,7,8,9,10] .done) mixed (zA a0 ha ha1) ?_;refine zv rfl (λhc=>?_) (λhc=>?_)
 ·simp at hc;have hrl:=Zaf (Zy d k a b) i;refine zh (za (zj (D0 ?_)));refine zj (jx (σ:=Nat × Store) (λs'=>s'.1<=tb.length+1/\J (((List.range i).flatMap (Zy d k a b)).length+((List.range s'.1).filterMap (YF d k a b i)).length) s'.2) (λs'=>[(2,jQ y),(3,.ptr nx v0 0),(4,.ptr (nx+1) v1 0)]) (λs'=>s'.2)
   (λ(j,_)=>[.cells v0 39 [L d],.cells v1 339 [I k,I a,I b,I i,I j]]) (λs'=>tb.length+1-s'.1) (zS (0,A) [] (by simpa using hJ) DR rfl DR) ?_)
  clear hJ A jv;rintro⟨j,A⟩ ⟨hj,hJ⟩;simp only at hj hJ ⊢
  repeat apply za
  refine zz (some [nx,nx+1]) (Row.pures [0,1,2,3,4,5,6,7,8,9,10] .done) mixed (zA b0 hb hb1) ?_;refine zv rfl (λhcj=>?_) (λhcj=>?_)
  ·simp at hcj;have hlk:=hlook i j DQ DQ;have wj:=zu j DQ;refine zh (za (zj ?_));cases hm:xQ d ⟨k,a,b,i,j⟩ with
   | true =>
    have hce:YF d k a b i j=some ⟨k,a,b,i,j⟩:=by unfold YF;rw[if_pos hm]
    have hlo:Z1 d ⟨k,a,b,i,j⟩=((yr d ⟨k,a,b,i,j⟩).1,(yr d ⟨k,a,b,i,j⟩).2,true):=by unfold Z1;rw[if_pos hm]
    rw[hlo]at hlk;have hat:=ZfR (n:=tb.length+1) DQ hce;rw[<-hrow]at hat;have hat2:=Zae (W:=Zy d k a b) (n:=ta.length+1) DQ hat;have hy:(((List.range (ta.length+1)).flatMap (Zy d k a b)).map Je)[((List.range i).flatMap (Zy d k a b)).length+((List.range j).filterMap (YF d k a b i)).length]?=some (Je ⟨k,a,b,i,j⟩):=by
     rw[Aj,hat2];rfl
    have hnx:=ZfT hce;generalize (yr d ⟨k,a,b,i,j⟩).1=r1 at *;generalize (yr d ⟨k,a,b,i,j⟩).2=r2 at *;refine D0 ?_;refine zt hlk ?_;intro v2 v3;refine za (ze [(1,50)] trivial ?_);refine λhsuf=>JW rfl rfl rfl (hY _ _ _ _ hy hJ) ?_
    rintro _ ⟨A',hJ',rfl⟩;refine⟨_,_,rfl,jG [(1,50)] trivial hsuf ?_⟩;refine zm rfl (zh (zb ?_));exact zq (j+1,A') [_,_] ⟨by simp;omega,by rw[hnx];exact hJ'⟩ DV DR rfl (by simp[wj];exact⟨rfl,rfl⟩)
   | false =>
    have hce:YF d k a b i j=none:=by unfold YF;rw[if_neg (by simp[hm])]
    have hlo:Z1 d ⟨k,a,b,i,j⟩=(xq,xq,false):=by unfold Z1;rw[if_neg (by simp[hm])]
    rw[hlo]at hlk;have hnx:=ZfS hce;generalize xq=r0 at *;refine D0 ?_;refine zt hlk ?_;intro v2 v3;refine za (ze [(1,50)] zB ?_);refine zm rfl (zh (zb ?_));exact zq (j+1,A) [_,_] ⟨by simp;omega,by rw[hnx];exact hJ⟩ DV DR rfl (by simp[wj];exact⟨rfl,rfl⟩)
  ·simp at hcj;obtain rfl:j=tb.length+1:=DQ
   rw[<-hrow,<-hrl]at hJ;refine zx ?_;have wi:=zu i DQ;refine zb ?_;exact zq (i+1,((tb.length+1:Nat):Int),A) [] ⟨by simp;omega,hJ⟩ DV DR rfl (by simp[wi])
 ·simp at hc;obtain rfl:i=ta.length+1:=DQ
  refine zx (D0 ?_);exact zg (V5 (hJd _ _ hJ) DT (by simp[zn]) (by simpa using hJ))
theorem Zpm(d:zp):Pure prog 325 [.agg [L d]] (.fn (.func 339) [] [.ip [L d]]):=by
 refine zr func325 ntmps325 results325 λS nx hd=>?_
 refine D0 ?_;intro v0;refine D0 ?_;refine xO 0 rfl ?_;exact D1 hd
theorem Zpn(d:zp)(hdn:d.length<=1000)(hdt:∀t∈d,t.length<=1000):Qa prog 339 [.ip [L d]] ((YG d).map Je):=by
 have hpl:=λk a b (hk:k<=3) (ha:a<d.length) (hb:b<d.length)=>Zpl d k a b DQ hdt hk ha hb
 have hkinds:=Zgt;generalize Zaa=kl at hkinds;refine X4 func339 DW rfl ntmps339 (congrArg Array.toList results339) DR λl V keep nx J hJd hY A0 hA0=>?_
 refine D0 ?_;refine zt hkinds ?_;refine zj (jx (σ:=Nat × Store) (λs'=>s'.1<=4/\J ((List.range s'.1).flatMap (Z4 d)).length s'.2) (λs'=>[(0,jQ l),(1,.ip [L d]),(7,I s'.1)]) (λs'=>s'.2) (λ_=>[]) (λs'=>4-s'.1) (zS (0,A0) [] (by simpa using hA0) DR rfl DR) ?_);rintro⟨k,A⟩ ⟨hk,hJ⟩;simp only at hk hJ ⊢
 by_cases hk4:k<4
 ·have hk4':(k:Int)<4:=DQ
  have hlA:=Zaf (Z4 d) k;refine za (ze [] hk4' ?_);refine za (zk rfl (zh (za (zj (D0 ?_)))));refine D0 ?_;refine zj (jx (σ:=Nat × Store) (λs'=>s'.1<=d.length/\J (((List.range k).flatMap (Z4 d)).length+((List.range s'.1).flatMap (Qo d k)).length) s'.2) (λs'=>[(0,jQ l),(1,.ip [L d]),(3,I k),(7,I k),(12,I d.length),(13,I s'.1)]) (λs'=>s'.2) (λ_=>[]) (λs'=>d.length-s'.1) (zS (0,A) [] (by simpa using hJ) DR rfl DR) ?_);clear hJ A;rintro⟨a,A⟩ ⟨ha,hJ⟩;simp only at ha hJ ⊢;refine D0 ?_;refine za (zv rfl (λhca=>?_) (λhca=>?_))
  ·simp at hca;have hlK:=Zaf (Qo d k) a;refine zh (za (zj (D0 ?_)));refine D0 ?_;refine zj (jx (σ:=Nat × Store) (λs'=>s'.1<=d.length/\J (((List.range k).flatMap (Z4 d)).length+((List.range a).flatMap (Qo d k)).length+((List.range s'.1).flatMap (Z3 d k a)).length) s'.2) (λs'=>[(0,jQ l),(1,.ip [L d]),(3,I k),(4,I a),(7,I k),(12,I d.length),(13,I a),(18,I d.length),(19,I s'.1)]) (λs'=>s'.2) (λ_=>[]) (λs'=>d.length-s'.1) (zS (0,A) [] (by simpa using hJ) DR rfl DR) ?_);clear hJ A;rintro⟨b,A⟩ ⟨hb,hJ⟩;simp only at hb hJ ⊢;refine D0 ?_;refine za (zv rfl (λhcb=>?_) (λhcb=>?_))
   ·simp at hcb;have hw:=hpl k a b DQ hca hcb;have hlP:=Zaf (Z3 d k a) b;have hin:∀(i:Nat) (x:List PV),((Z3 d k a b).map Je)[i]?=some x->((YG d).map Je)[((List.range k).flatMap (Z4 d)).length+((List.range a).flatMap (Qo d k)).length+((List.range b).flatMap (Z3 d k a)).length+i]?=some x:=by
     intro i x hx;rw[Aj]at hx ⊢;obtain⟨m,hm,rfl⟩:=Ao.1 hx;have e1:=Zae (W:=Z3 d k a) (n:=d.length) hcb hm;have e2:=Zae (W:=Qo d k) (n:=d.length) hca e1;have e3:=Zae (W:=Z4 d) (n:=4) hk4 e2;rw[Nat.add_assoc,Nat.add_assoc];unfold YG;rw[e3];rfl
    refine zh (za (zj (D0 ?_)));refine D0 ?_;refine λhsuf=>((ZfQ hw keep hY _ hin hJ _).mono ?_)
    rintro _ _ ⟨A',rfl,hJ',rfl⟩;rw[List.length_map,Nat.add_assoc,<-hlP]at hJ';refine⟨_,_,rfl,zN hsuf ?_⟩;refine zm rfl (zh (zb ?_));exact zq (b+1,A') [] ⟨hcb,hJ'⟩ DV (by simp[zu b (by omega)]) rfl DR
   ·simp at hcb;obtain rfl:b=d.length:=DQ
    refine zx ?_;have hJ2:J (((List.range k).flatMap (Z4 d)).length+((List.range (a+1)).flatMap (Qo d k)).length) A:=by rw[hlK,<-Nat.add_assoc];exact hJ
    refine zb ?_;exact zq (a+1,A) [] ⟨hca,hJ2⟩ DV (by simp[zu a (by omega)]) rfl DR
  ·simp at hca;obtain rfl:a=d.length:=DQ
   refine zx ?_;have hJ2:J ((List.range (k+1)).flatMap (Z4 d)).length A:=by rw[hlA];exact hJ
   refine zb ?_;exact zq (k+1,A) [] ⟨hk4,hJ2⟩ DV (by simp[zu k (by omega)]) rfl DR
 ·obtain rfl:k=4:=DQ
  refine D0 ?_;refine za (zm rfl (zx (u5 (hJd _ _ hJ) rfl ?_)));rw[List.length_map];exact hJ
open Go Go.Proofs
theorem Jf{d:zp}{m:Mv}(h:xQ d m=true):m.k<=3/\m.a<d.length/\m.b<d.length/\uL d (yr d m).1/\uL d (yr d m).2:=by
 unfold xQ at h;rw[Av]at h;obtain⟨h1,h2⟩:=h;have h1:=of_decide_eq_true h1;refine⟨h1.1,h1.2.1,h1.2.2,?_⟩;unfold vJ at h2;unfold yr xu;have e0:=ZoZ d;have key:∀p:Pc,Xb d p<->(p.f<p.o->p.t<d.length/\p.o<=qK d p.t):=λ_=>Iff.rfl
 by_cases k0:m.k=0
 ·rw[if_pos k0]at h2 ⊢;have h2:=of_decide_eq_true h2;refine⟨?_,e0⟩;intro p hp;simp only[Rw5.l,As,Bi,or_false]at hp;rcases hp with rfl | rfl | rfl | rfl | rfl<;>refine(key _).2 ?_<;>simp only[yL]<;>omega
 rw[if_neg k0]at h2 ⊢
 by_cases k1:m.k=1
 ·rw[if_pos k1]at h2 ⊢;have h2:=of_decide_eq_true h2
  by_cases hab:m.a=m.b
  ·rw[if_pos hab,hab]at h2;rw[if_neg (by simp[hab])]
   by_cases hij:m.i<m.j
   ·rw[if_pos hij];refine⟨?_,e0⟩;intro p hp;simp only[Rw5.l,As,Bi,or_false]at hp;rcases hp with rfl | rfl | rfl | rfl | rfl<;>refine(key _).2 ?_<;>simp only[yL]<;>(try rw[hab])<;>omega
   ·rw[if_neg hij];refine⟨?_,e0⟩;intro p hp;simp only[Rw5.l,As,Bi,or_false]at hp;rcases hp with rfl | rfl | rfl | rfl | rfl<;>refine(key _).2 ?_<;>simp only[yL]<;>(try rw[hab])<;>omega
  ·rw[if_neg hab]at h2;rw[if_pos hab];constructor<;>intro p hp<;>simp only[Rw5.l,As,Bi,or_false]at hp<;>rcases hp with rfl | rfl | rfl | rfl | rfl<;>refine(key _).2 ?_<;>simp only[yL]<;>omega
 rw[if_neg k1]at h2 ⊢
 by_cases k2:m.k=2
 ·rw[if_pos k2]at h2 ⊢;have h2:=of_decide_eq_true h2
  by_cases hab:m.a=m.b
  ·rw[if_pos hab];rw[hab]at h2;refine⟨?_,e0⟩;intro p hp;simp only[Rw5.l,As,Bi,or_false]at hp;rcases hp with rfl | rfl | rfl | rfl | rfl<;>refine(key _).2 ?_<;>simp only[yL,hab]<;>omega
  ·rw[if_neg hab];constructor<;>intro p hp<;>simp only[Rw5.l,As,Bi,or_false]at hp<;>rcases hp with rfl | rfl | rfl | rfl | rfl<;>refine(key _).2 ?_<;>simp only[yL]<;>omega
 rw[if_neg k2]at h2 ⊢;have h2:=of_decide_eq_true h2;constructor<;>intro p hp<;>simp only[Rw5.l,As,Bi,or_false]at hp<;>rcases hp with rfl | rfl | rfl | rfl | rfl<;>refine(key _).2 ?_<;>simp only[yL]<;>omega
theorem ZcB{d:zp}{m:Mv}:m∈YG d->xQ d m=true/\m.i<=qK d m.a/\m.j<=qK d m.b:=by
 unfold YG Z4 Qo Z3 Zy YF;intro h;simp only[B3,AL,Cd]at h;obtain⟨k,hk,a,ha,b,hb,i,hi,j,hj,h⟩:=h;split at h
 ·rename_i hm;cases h;exact⟨hm,by simp only;omega,by simp only;omega⟩
 ·cases h
def Xi:Mv:=⟨0,0,0,0,0⟩
def w9(x:Inst)(d:zp)(r:Rw5):Prop:=Qn d r<=x.cap/\wD x d r<=x.len
instance (x:Inst) (d:zp) (r:Rw5):Decidable (w9 x d r):=by unfold w9;infer_instance
def Qp(x:Inst)(d:zp)(m:Mv):Int:=Wt x d m (yr d m).1 (yr d m).2
def Qq(x:Inst)(d:zp)(st:Mv × Int)(m:Mv):Mv × Int:=if Qp x d m<st.2/\w9 x d (yr d m).1/\w9 x d (yr d m).2 then (m,Qp x d m) else st
def vK(x:Inst)(d:zp):Mv × Int:=(YG d).foldl (Qq x d) (Xi,0)
theorem Zpo(x:Inst)(d:zp)(hx:q9 x)(hd':MvDay d):Pure prog 291 [.agg (zy x),.agg [L d]] (.tup [.agg (Zc (vK x d).1),I (vK x d).2,B (decide ((vK x d).2<0))]):=by
 have hdn:=hd'.n;have hit:=Zpn d hdn hd'.t;have hread:=Zpf x d hx hd';have hfacts:∀m∈YG d,Pure prog 326 [.agg [L d],.agg (Zc m)] (.tup [.agg (yx (yr d m).1),.agg (yx (yr d m).2),B true])/\Pure prog 327 [.ip (uM x d),.agg (Zc m),.agg (yx (yr d m).1),.agg (yx (yr d m).2)] (I (Qp x d m)) /\
   Pure prog 328 [.ip (uM x d),.agg (yx (yr d m).1)] (B (decide (w9 x d (yr d m).1)))/\Pure prog 328 [.ip (uM x d),.agg (yx (yr d m).2)] (B (decide (w9 x d (yr d m).2))):=by
  intro m hm;obtain⟨h1,h2,h3⟩:=ZcB hm;obtain⟨hk,ha,hb,r1,r2⟩:=Jf h1;have hl:∀a,qK d a<=1000:=by
   intro a;unfold qK;rw[Aa];cases hq:d[a]? with
   | none=>simp
   | some l=>exact hd'.t l (Ab hq)
  have hla:=hl m.a;have hlb:=hl m.b;have hlk:=Zcr d m DQ (λt ht=>AB (hd'.t t ht) DX) hk ha hb DQ DQ;unfold Z1 at hlk;rw[if_pos h1]at hlk;exact⟨hlk,Zpk x d m _ _ hx hd' r1 r2 ha hb,ZgL x d _ hx hd' r1,ZgL x d _ hx hd' r2⟩
 unfold vK;generalize YG d=xs at *;generalize uM x d=rd at *;have hea:=Zpm d;refine zr func291 ntmps291 results291 λS nx hd=>?_
 refine D0 ?_;intro v0 v1 v2;refine D0 ?_;refine zt hread ?_;intro v3;refine D0 ?_;intro v4 v5
 repeat apply za
 refine zb ?_;refine zt hea ?_;refine zj (JX (xs:=xs.map Je) (σ:=Mv × Int) (λi st=>st=(xs.take i).foldl (Qq x d) (Xi,0)) [(2,.ptr nx v0 0),(3,.ptr (nx+1) v1 0),(4,.ptr (nx+2) v2 0),(7,.ptr (nx+3) v3 0),(8,.ptr (nx+4) v4 0),(9,.ptr (nx+5) v5 0)] (λ_=>S)
  (λ(b,least)=>[.cells v0 25 (zy x),.cells v1 39 [L d],.cells v2 339 [I 0,I 0,I 0,I 0,I 0],.cells v3 363 [.ip rd],.cells v4 339 (Zc b),.cells v5 3 [I least]]) (Xi,0)
  hit rfl (by intro x hx;obtain⟨y,_,rfl⟩:=Al.1 hx;rfl) DX DR DR rfl (by simp[Xi]) (by simp[Xi]) ?_ ?_)
 ·rintro l i ⟨b,least⟩ more y hst hy;simp only at hst ⊢;rw[Aj]at hy;obtain⟨m,hm,rfl⟩:=Ao.1 hy;have hsucc:=Zcm (f:=Qq x d) (b:=(Xi,0)) hm;rw[<-hst]at hsucc;obtain⟨f1,f2,f3,f4⟩:=hfacts m (Ab hm);unfold Qq at hsucc;simp only at hsucc;generalize (yr d m).1=r1 at *;generalize (yr d m).2=r2 at *;generalize Qp x d m=by_ at *;refine zb ?_;intro v6;refine zj (D0 ?_);refine zt f1 ?_;intro v7 v8;refine D0 ?_;refine zt f2 ?_
  by_cases hlt:by_<least
  ·refine za (ze [(3,37),(8,42)] hlt ?_);refine qi [(3,37),(8,42)] f3 hlt ?_
   by_cases hf1:w9 x d r1
   ·rw[decide_eq_true hf1];refine qi [(3,37),(8,42)] f4 hlt ?_
    by_cases hf2:w9 x d r2
    ·rw[if_pos ⟨hlt,hf1,hf2⟩]at hsucc;refine zk (by simp[hf2]) ?_;refine zb ?_;simp only[jF];exact wS (m,by_) [_,_,_] hsucc.symm rfl (by simp;exact⟨rfl,rfl,rfl⟩)
    ·rw[if_neg λe=>hf2 e.2.2]at hsucc;refine zm (by simp[hf2]) ?_;refine zh ?_;simp only[jF];exact wS (b,least) [_,_,_] hsucc.symm rfl (by simp;exact⟨rfl,rfl,rfl⟩)
   ·rw[decide_eq_false hf1];rw[if_neg λe=>hf1 e.2.1]at hsucc;refine zm rfl (zh ?_);simp only[jF];exact wS (b,least) [_,_,_] hsucc.symm rfl (by simp;exact⟨rfl,rfl,rfl⟩)
  ·rw[if_neg λe=>hlt e.1]at hsucc;refine za (ze [(3,37),(8,42)] (zo hlt zB) ?_);refine zm rfl (zh ?_);simp only[jF];exact wS (b,least) [_,_,_] hsucc.symm rfl (by simp;exact⟨rfl,rfl,rfl⟩)
 ·rintro⟨b,least⟩ hst;rw[Ae DR]at hst;simp only at hst ⊢;rw[<-hst];refine za (zz (some [nx+4,nx+5]) (Row.pures [0,1,2,3] (.alt 4 (Row.pures [5,6] .done) .stop)) mixed trivial ?_);exact zg (zi hd DT (by simp[zn]))
open Go Go.Proofs
def xR(d:zp)(m:Mv)(i:Nat):zL:=if i=m.a then qe d (yr d m).1 else if i=m.b then qe d (yr d m).2 else d.getD i []
def jT(d:zp)(m:Mv)(i:Nat):Option zL:=if (xR d m i).length=0 then none else some (xR d m i)
def vM(d:zp)(m:Mv):zp:=(List.range d.length).filterMap (jT d m)
theorem ZgM{d:zp}{r:Rw5}{k:Nat}(h:∀t∈d,t.length<=k):(qe d r).length<=5*k:=by
 have h1:=λp=>Zgv (d:=d) (p:=p) h
 have a1:=h1 r.a;have a2:=h1 r.b;have a3:=h1 r.c;have a4:=h1 r.d;have a5:=h1 r.e;unfold qe Rw5.l;simp only[Az,Co,List.length_append,AD];omega
theorem Zpp(x:Inst)(d:zp)(m:Mv)(hdn:d.length<=1000)(hdt:∀t∈d,t.length<=1000)(hm:xQ d m=true)(hi:m.i<=1048576)(hj:m.j<=1048576):Pure prog 292 [.agg (zy x),.agg [L d],.agg (Zc m)] (.tup [.agg [L (vM d m)],I 0]):=by
 obtain⟨hk,ha,hb,r1,r2⟩:=Jf hm;have hlk:=Zcr d m DQ (λt ht=>AB (hdt t ht) DX) hk ha hb hi hj;unfold Z1 at hlk;rw[if_pos hm]at hlk;have g1:=Zgw d _ DQ hdt r1;have g2:=Zgw d _ DQ hdt r2;have n1:=ZgM (r:=(yr d m).1) hdt;have n2:=ZgM (r:=(yr d m).2) hdt;have hmk:∀i,xR d m i=if i=m.a then qe d (yr d m).1 else if i=m.b then qe d (yr d m).2 else d.getD i []:=λ_=>rfl
 generalize qe d (yr d m).1=t1 at *;generalize qe d (yr d m).2=t2 at *;generalize (yr d m).1=c1 at *;generalize (yr d m).2=c2 at *;have hme:vM d m=(List.range d.length).filterMap (jT d m):=rfl;rw[hme];clear hme;refine zr func292 ntmps292 results292 λS nx hd=>?_
 refine D0 ?_;intro v0 v1 v2 v3;refine D0 ?_;refine zt hlk ?_;intro v4 v5
 repeat apply za
 refine zb ?_;refine zm rfl (zh (D0 ?_));intro v6;refine jg 6 0 42 1 rfl rfl λv7=>?_
 repeat apply za
 refine zb ?_;refine zj (zC (λs':Nat × Nat=>s'.1<=d.length) (λ(k,v7)=>[(4,.ptr (nx+1) v1 0),(5,.ptr (nx+2) v2 0),(6,.ptr (nx+3) v3 0),(8,.ptr (nx+4) v4 0),(9,.ptr (nx+5) v5 0),(11,.ptr (nx+6) v6 0),(26,L d),(27,I d.length),(28,I k)])
  (λ(k,v7)=>[.cells v0 25 (zy x),.cells v1 39 [L d],.cells v2 339 (Zc m),.cells v3 39 [yu],.cells v4 371 (yx c1),.cells v5 371 (yx c2),.cells v6 39 [.sl (nx+7) v7 1 0 ((List.range k).filterMap (jT d m)).length],.cells v7 42 (((List.range k).filterMap (jT d m)).flatMap Enc.enc)]) (λs'=>d.length-s'.1) (0,v7) [] DR DR DR ?_)
 rintro⟨k,v7⟩ hk0;simp only at hk0 ⊢;refine D0 ?_;refine za (zv rfl (λhc=>?_) (λhc=>?_))
 ·simp at hc;obtain⟨t,tl,a1,a2,a3,e0⟩:=zE rfl d k hc;have hk1:1<=d.length-k:=DQ
  have htl:=hdt t (Ab a1);have hcl:=V3 t DQ;have hgk:d.getD k []=t:=by rw[Aa,a1];rfl
  have hmkk:=hmk k;have hlen:((List.range k).filterMap (jT d m)).length<=k:=by have:=CA (jT d m) (List.range k);simpa using this
  have hnext:(List.range (k+1)).filterMap (jT d m)=(List.range k).filterMap (jT d m)++(jT d m k).toList:=by
   rw[AK,BV];simp only[List.filterMap_cons,List.filterMap_nil];cases jT d m k<;>rfl
  have hT1:jT d m k=if (xR d m k).length=0 then none else some (xR d m k):=rfl
  rw[hgk]at hmkk;have hTl:(xR d m k).length<=5000:=by rw[hmkk];(repeat' split)<;>omega
  have hof:(((List.range k).filterMap (jT d m)).flatMap Enc.enc:List PV).length=((List.range k).filterMap (jT d m)).length:=jR _;generalize (List.range k).filterMap (jT d m)=out at *;have hot:(out.flatMap Enc.enc:List PV).take out.length=out.flatMap Enc.enc:=Ae DQ;have wk:=zu k DQ;refine zh (za (zj (za (ze [] (zA e0 hc hk1) ?_))));intro v8;refine D0 ?_;refine zt hcl ?_
  repeat apply za
  refine zb ?_;refine qa (nx:=nx) (λ_:Unit=>True) (λ_=>[(4,.ptr (nx+1) v1 0),(5,.ptr (nx+2) v2 0),(6,.ptr (nx+3) v3 0),(8,.ptr (nx+4) v4 0),(9,.ptr (nx+5) v5 0),(11,.ptr (nx+6) v6 0),(14,L (xR d m k)),(26,L d),(27,I d.length),(28,I k)]) (λ_=>S)
   (λ_=>[.cells v0 25 (zy x),.cells v1 39 [L d],.cells v2 339 (Zc m),.cells v3 39 [yu],.cells v4 371 (yx c1),.cells v5 371 (yx c2),.cells v6 39 [.sl (nx+7) v7 1 0 out.length],.cells v7 42 (out.flatMap Enc.enc),.cells v8 42 [L t]]) ?_ ?_
  ·refine zj ?_
   by_cases h1:k=m.a
   ·rw[if_pos h1]at hmkk;have h1':(k:Int)=m.a:=DQ
    rw[hmkk];refine D0 ?_;refine zk DV ?_;refine zb ?_;refine zt g1 ?_;simp only[jF];exact zS () [] trivial DR rfl DR
   ·rw[if_neg h1]at hmkk;have h1':¬(k:Int)=m.a:=DQ
    refine D0 ?_;refine zm DV ?_
    by_cases h2:k=m.b
    ·rw[if_pos h2]at hmkk;have h2':(k:Int)=m.b:=DQ
     rw[hmkk];refine D0 ?_;refine zk DV ?_;refine zb ?_;refine zt g2 ?_;simp only[jF];exact zS () [] trivial DR rfl DR
    ·rw[if_neg h2]at hmkk;have h2':¬(k:Int)=m.b:=DQ
     rw[hmkk];refine D0 ?_;refine zm DV ?_;refine zh ?_;simp only[jF];exact zS () [] trivial DR rfl DR
  ·rintro⟨⟩ -;generalize xR d m k=tt at *;clear hmkk hcl e0
   by_cases h0:tt.length=0
   ·have e:(jT d m k).toList=[]:=by rw[hT1,if_pos h0];rfl
    have h0':¬0<tt.length:=DQ
    refine za (ze [] h0' ?_);refine zm (by simp[h0']) ?_;refine zh (zb ?_);exact zq (k+1,v7) [_] DV DV (by simp[wk,hnext,e]) rfl (by simp[hnext,e];rfl)
   ·have e:(jT d m k).toList=[tt]:=by rw[hT1,if_neg h0];rfl
    have h0':0<tt.length:=DQ
    refine za (ze [] h0' ?_);refine zk (by simp[h0']) ?_;refine ze [] (zo hof hot) ?_;refine⟨by omega,?_⟩;refine zb ?_;exact zq (k+1,v7+1) [_] DV DV (by simp[wk,hnext,e]) rfl (by simp[hnext,e];rfl)
 ·simp at hc;obtain rfl:k=d.length:=DQ
  refine zx (zZ 7 rfl ?_);refine D0 ?_;exact zg (zi hd DT (by simp[zn]))
open Go Go.Proofs
def Jg(d:zp)(s:Stop)(t k:Nat):Nat:=((d.getD t []).take k).count s
theorem ZcC(d:zp)(s:Stop)(t:Nat):Jg d s t 0=0:=by simp[Jg]
theorem ZgN(d:zp)(s:Stop)(t:Nat):Jg d s t (qK d t)=(d.getD t []).count s:=by simp[Jg,qK]
theorem Zpq(d:zp)(s:Stop)(p:Pc):p.f<=p.o->(qC d p).count s+Jg d s p.t p.f=Jg d s p.t p.o:=by
 intro h;unfold qC Jg;generalize d.getD p.t []=u
 by_cases hf:p.f<p.o
 ·rw[if_pos hf,show p.o=p.f+(p.o-p.f) by omega,List.take_add,List.count_append,show p.f+(p.o-p.f)-p.f=p.o-p.f by omega];cases p.b
  ·rw[cond_false];omega
  ·rw[cond_true,List.count_reverse];omega
 grind
theorem ZgO(d:zp)(s:Stop)(r:Rw5):(qe d r).count s=(qC d r.a).count s+(qC d r.b).count s+(qC d r.c).count s+(qC d r.d).count s+(qC d r.e).count s:=by grind[qe,Rw5.l]
theorem Zpr{d:zp}{m:Mv}(h:xQ d m=true)(s:Stop):(qe d (yr d m).1).count s+(if m.a=m.b then 0 else (qe d (yr d m).2).count s)=(d.getD m.a []).count s+(if m.a=m.b then 0 else (d.getD m.b []).count s):=by
 unfold xQ at h;rw[Av]at h;obtain⟨-,h2⟩:=h;unfold vJ at h2;unfold yr xu;have e0:=ZcC d s;have ea:=ZcC d s m.a;have eb:=ZcC d s m.b;have la:=ZgN d s m.a;have lb:=ZgN d s m.b;have key:=Zpq d s;rw[ZgO,ZgO]
 grind[yL]
theorem Zps{d:zp}{i:Nat}{u:zL}(t:zL)(h:d[i]?=some u)(s:Stop):(d.set i t).flatten.count s+u.count s=t.count s+d.flatten.count s:=by grind[List.drop_eq_getElem_cons,List.take_append_drop,List.set_eq_take_append_cons_drop]
theorem ZcD{d:zp}{i:Nat}{u:zL}(t:zL)(h:d[i]?=some u)(x:Inst):yA x (d.set i t)+yE x (u.map (·.c))=yE x (t.map (·.c))+yA x d:=by grind[List.drop_eq_getElem_cons,List.take_append_drop,yA,List.set_eq_take_append_cons_drop]
theorem ZgP(d:zp)(m:Mv):(List.range d.length).map (xR d m)=(d.set m.b (qe d (yr d m).2)).set m.a (qe d (yr d m).1):=by
 refine A6 λi=>?_
 grind[xR]
theorem ZcE(d:zp)(m:Mv):∀l:List Nat,(l.filterMap (jT d m)).flatten=(l.map (xR d m)).flatten/\∀x,yA x (l.filterMap (jT d m))=yA x (l.map (xR d m))
 | []=>⟨rfl,λ_=>rfl⟩
 | i :: l=>by
  obtain⟨h1,h2⟩:=ZcE d m l;have e:jT d m i=if (xR d m i).length=0 then none else some (xR d m i):=rfl
  rw[List.filterMap_cons,e,AA]
  by_cases h:(xR d m i).length=0
  ·rw[if_pos h,Cn.1 h];refine⟨by simpa using h1,λx=>?_⟩;have:=h2 x;unfold yA at this ⊢;simpa[yE] using this
  simp_all[yA]
theorem Zpt{d:zp}{m:Mv}{t:zL}(h:t∈vM d m):t≠[]/\(t=qe d (yr d m).1\/t=qe d (yr d m).2\/t∈d):=by grind[vM,jT,xR]
theorem Zpu(d:zp)(m:Mv):(vM d m).length<=d.length:=by grind[vM]
theorem ZgQ{d:zp}{m:Mv}(h:xQ d m=true):(vM d m).flatten.Perm d.flatten:=by
 obtain⟨-,ha,hb,-,-⟩:=Jf h;refine List.perm_iff_count.2 λs=>?_
 have hc:=Zpr h s;unfold vM
 grind[ZcE,ZgP,Zps]
theorem Zpv{x:Inst}{d:zp}{m:Mv}(h:xQ d m=true)(h0:arc x 0 0=0):yA x (vM d m)=yA x d+Qp x d m:=by
 obtain⟨-,ha,hb,r1,r2⟩:=Jf h;unfold vM Qp Wt;rw[(ZcE d m _).2,ZgP,Zcz r1 h0,Zcz r2 h0];obtain⟨ua,hua⟩:∃u,d[m.a]?=some u:=⟨_,Af ha⟩;obtain⟨ub,hub⟩:∃u,d[m.b]?=some u:=⟨_,Af hb⟩;have ga:d.getD m.a []=ua:=by rw[Aa,hua];rfl
 have gb:d.getD m.b []=ub:=by rw[Aa,hub];rfl
 rw[ga,gb];generalize qe d (yr d m).1=t1 at *;generalize qe d (yr d m).2=t2 at *
 by_cases hab:m.a=m.b
 ·rw[if_pos hab,<-hab,List.set_set];have:=ZcD t1 hua x;omega
 ·rw[if_neg hab];have h1:=ZcD t2 hub x;have h2:=ZcD (d:=d.set m.b t2) (i:=m.a) (u:=ua) t1 (by rw[AX (λe=>hab e.symm)];exact hua) x;omega
open Go Go.Proofs Hp
theorem ZcF(x:Inst):∀(ds:List zp) (st:zp × Int × Bool),(ds.foldl (vG x) st).2.2=true->ds.foldl (vG x) st=st\/(∃d∈ds,yg x d=0/\ds.foldl (vG x) st=(d,W (yA x d),true))
 | [],st,_=>.inl rfl
 | d :: ds,st,h=>by
  rw[A3]at h ⊢;rcases ZcF x ds _ h with e | ⟨d2,h1,h2,h3⟩
  ·rw[e];unfold vG;split
   ·rename_i h0;split
    ·exact .inr ⟨d,by simp,h0,rfl⟩
    ·exact .inl rfl
   ·exact .inl rfl
  ·exact .inr ⟨d2,by simp[h1],h2,h3⟩
theorem Zpw{x:Inst}{e:Int}{ds:List zp}(h:(vH x e ds).2=0):e=0/\(vH x e ds).1∈ds/\yg x (vH x e ds).1=0:=by
 unfold vH at h ⊢
 by_cases he:e=0
 ·rw[if_pos he]at h ⊢;cases hz:(Qh x ds).2.2 with
  | false=>rw[hz]at h;cases h
  | true =>
   refine⟨he,?_⟩;rcases ZcF x ds ([],0,false) hz with q | ⟨d,h1,h2,h3⟩
   ·have:(Qh x ds).2.2=false:=by unfold Qh;rw[q]
    rw[this]at hz;cases hz
   ·have:Qh x ds=(d,W (yA x d),true):=h3;rw[this];exact⟨h1,h2⟩
 ·rw[if_neg he]at h;exact absurd h he
theorem ZgR(x:Inst):q9 (yI x):=by
 refine ZoG λrow hr d hd=>?_
 simp only[yI,Al]at hr;obtain⟨a,_,rfl⟩:=hr;unfold ud at hd;obtain⟨b,_,rfl⟩:=Al.1 hd;split
 ·have:=xp (arc x a b) 0 60 DQ;omega
 ·omega
theorem Zpx(x:Inst):0<=(yI x).veh:=(xp x.veh 0 5 DQ).1
open Go Go.Proofs
structure SG (x:Inst) (l:List Stop) (d:zp):Prop where
 may:∀t∈d,zQ x t=0
 perm:d.flatten.Perm l
def ZgS(x:Inst)(t:zL):Prop:=(∀s∈t,qZ x s=true)/\(t.map (·.c)).Nodup/\t.length<=1000
theorem ZcG{x:Inst}{t:zL}(h:zQ x t=0):(∀s∈t,qZ x s=true)/\t≠[]:=by simp_all[Jb,qP]
theorem ZcH{x:Inst}:∀t:zL,(∀s∈t,qZ x s=true)->0<=zU t/\zU t<=2147483648*(t.length:Int)
 | [],_=>by simp[zU]
 | s :: t,h=>by
  have h1:=ZcH t λs hs=>h s (by simp[hs])
  have h2:=h s DR
  grind[qZ,zU]
theorem Wu{x:Inst}(hx:q9 x){t:zL}(h:ZgS x t)(hn:t≠[]):zQ x t=0<->zU t<=x.cap/\yE x (t.map (·.c))<=x.len:=by
 obtain⟨h1,h2,h3⟩:=h;have b1:=ZcH t h1;have b2:=Wq hx (t.map (·.c))
 grind[wr,Jb,qP]
theorem SG.each{x:Inst}{l:List Stop}{d:zp}(g:SG x l d):∀s∈l,qZ x s=true:=by
 intro s hs;obtain⟨t,ht,hst⟩:=BJ.1 (g.perm.symm.subset hs);exact(ZcG (g.may t ht)).1 s hst
section
variable {x:Inst} {l:List Stop} (h:SOk x l)
include h
theorem SG.len{d:zp}(g:SG x l d):d.flatten.length<=1000/\d.length<=1000:=by
 have h1:=V6 d λt ht=>(ZcG (g.may t ht)).2
 have h2:=g.perm.length_eq;have h3:=h.len;omega
theorem SG.tour{d:zp}(g:SG x l d){e:zp}(he:e.flatten.Perm l){t:zL}(ht:t∈e):ZgS x t:=by
 have hs:=Yz ht;have hl:=h.len;refine⟨λs q=>g.each s (he.subset (hs.subset q)),?_,?_⟩
 ·exact((he.map _).nodup_iff.2 h.nd).sublist (hs.map _)
 ·have:=hs.length_le;have:=he.length_eq;omega
theorem SG.mv{d:zp}(g:SG x l d):MvDay d:=by
 refine⟨(g.len h).2,λt ht=>(g.tour h g.perm ht).2.2,λt ht s hs=>?_⟩;have:=(g.tour h g.perm ht).1 s hs;have hc:=h.cust
 grind[qZ,qb]
theorem SG.ok{d:zp}(g:SG x l d):DayOk d:=by
 have h1:=g.len h;have h2:=g.mv h;exact⟨by omega,λt ht=>AB (h2.t t ht) DX,λt ht s hs=>(h2.s t ht s hs).1⟩
end
theorem ZgT{x:Inst}{d:zp}{r:Rw5}(hr:uL d r)(h0:arc x 0 0=0):w9 x d r<->zU (qe d r)<=x.cap/\yE x ((qe d r).map (·.c))<=x.len:=by simp_all[w9,Zcz,Zpi]
theorem Zpy{d:zp}{m:Mv}(h:xQ d m=true)(hab:m.a=m.b):qe d (yr d m).2=[]:=by
 have e0:qe d xq=[]:=rfl
 grind[xQ,vJ,yr,xu]
theorem Zpz{d:zp}{m:Mv}(h:xQ d m=true)(hn:qe d (yr d m).1≠[]):qe d (yr d m).1∈vM d m:=by
 obtain⟨-,ha,-⟩:=Jf h;refine Cd.2 ⟨m.a,AL.2 ha,?_⟩
 grind[xR,jT]
theorem ZpA{d:zp}{m:Mv}(h:xQ d m=true)(hab:m.a≠m.b)(hn:qe d (yr d m).2≠[]):qe d (yr d m).2∈vM d m:=by
 obtain⟨-,-,hb,-⟩:=Jf h;refine Cd.2 ⟨m.b,AL.2 hb,?_⟩
 grind[xR,jT]
theorem ZpB{x:Inst}{l:List Stop}(h:SOk x l)(h0:arc x 0 0=0){d:zp}(g:SG x l d){m:Mv}(hm:xQ d m=true):(w9 x d (yr d m).1/\w9 x d (yr d m).2)<->∀t∈vM d m,zQ x t=0:=by
 obtain⟨-,ha,hb,r1,r2⟩:=Jf hm;have hp:(vM d m).flatten.Perm l:=(ZgQ hm).trans g.perm;rw[ZgT r1 h0,ZgT r2 h0];have hz:0<=x.cap/\0<=x.len:=by
  have ht:=g.may _ (A9 ha);have hg:=g.tour h g.perm (A9 ha);have:=(Wu h.arc hg (ZcG ht).2).1 ht;have b1:=ZcH _ hg.1;have b2:=Wq h.arc (d[m.a].map (·.c));omega
 have e0:zU []=0/\yE x (([]:zL).map (·.c))=0:=⟨rfl,rfl⟩;constructor
 ·rintro⟨q1,q2⟩ t ht;obtain⟨hn,h3⟩:=Zpt ht;have hg:=g.tour h hp ht;rcases h3 with rfl | rfl | h3
  ·exact(Wu h.arc hg hn).2 q1
  ·exact(Wu h.arc hg hn).2 q2
  ·exact g.may t h3
 ·intro hall;constructor
  ·by_cases hn:qe d (yr d m).1=[]
   ·simp_all
   ·have ht:=Zpz hm hn;exact(Wu h.arc (g.tour h hp ht) hn).1 (hall _ ht)
  ·by_cases hn:qe d (yr d m).2=[]
   ·simp_all
   ·by_cases hab:m.a=m.b
    ·simp_all[Zpy]
    ·have ht:=ZpA hm hab hn;exact(Wu h.arc (g.tour h hp ht) hn).1 (hall _ ht)
theorem ZgU(x:Inst)(d:zp):∀(ms:List Mv) (st:Mv × Int),(ms.foldl (Qq x d) st=st)\/(∃m∈ms,(ms.foldl (Qq x d) st)=(m,Qp x d m)/\w9 x d (yr d m).1/\w9 x d (yr d m).2)
 | [],st=>.inl rfl
 | m :: ms,st=>by
  rw[A3];rcases ZgU x d ms (Qq x d st m) with e | ⟨m2,h1,h2,h3⟩
  ·rw[e];unfold Qq;split
   ·rename_i hc;exact .inr ⟨m,by simp,rfl,hc.2⟩
   ·exact .inl rfl
  grind
def un(x:Inst)(d:zp):Option zp:=if (vK x d).2<0 then some (vM d (vK x d).1) else none
theorem ZgV{x:Inst}{d:zp}(hb:(vK x d).2<0):(vK x d).1∈YG d/\Qp x d (vK x d).1<0/\w9 x d (yr d (vK x d).1).1/\w9 x d (yr d (vK x d).1).2:=by grind[ZgU,vK]
theorem ZgW{x:Inst}{l:List Stop}(h:SOk x l)(h0:arc x 0 0=0){d e:zp}(g:SG x l d)(hs:un x d=some e):SG x l e/\yA x e<yA x d/\e.length<=d.length:=by
 unfold un at hs;split at hs
 ·rename_i hb;cases hs;obtain⟨h1,h2,h3⟩:=ZgV hb;have hm:=(ZcB h1).1;refine⟨⟨(ZpB h h0 g hm).1 h3,(ZgQ hm).trans g.perm⟩,?_,Zpu _ _⟩
  grind[Zpv]
 ·cases hs
theorem ZgX{x:Inst}{l:List Stop}(h:SOk x l)(h0:arc x 0 0=0):Zgr x (un x) (SG x l):=by
 intro d g;have hv:=g.mv h;have hl:∀a,qK d a<=1000:=by
  intro a;unfold qK;rw[Aa];cases hq:d[a]? with
  | none=>simp
  | some l=>exact hv.t l (Ab hq)
 have hd1:(un x d).isSome=decide ((vK x d).2<0):=by
  unfold un;split
  ·simp_all
  ·simp_all
 refine⟨_,_,_,_,_,_,by rw[hd1];exact Zpo x d h.arc hv,λe he=>⟨?_,(ZgW h h0 g he).1⟩⟩;unfold un at he;split at he
 ·rename_i hb;cases he;obtain⟨h1,-,-⟩:=ZgV hb;obtain⟨h1,h2,h3⟩:=ZcB h1;have:=hl (vK x d).1.a;have:=hl (vK x d).1.b;exact Zpp x d _ hv.n hv.t h1 DQ DQ
 ·cases he
theorem Zag{x:Inst}{l:List Stop}(h:SOk x l)(h0:arc x 0 0=0):∀(n:Nat) (d:zp),SG x l d->SG x l (wZ (un x) n d)/\yA x (wZ (un x) n d)<=yA x d/\(wZ (un x) n d).length<=d.length
 | 0,d,g=>⟨g,CL _,Ag _⟩
 | n+1,d,g=>by
  unfold wZ;cases hs:un x d with
  | none=>simp_all
  | some e =>
   obtain⟨a,b,c⟩:=ZgW h h0 g hs;obtain⟨a',b',c'⟩:=Zag h h0 n e a
   grind
open Go Go.Proofs Hp
theorem ZgY(x:Inst):arc (yI x) 0 0=0:=by simp[yI,ud,arc]
theorem ZgZ{x:Inst}{l:List Stop}(h:wy x l=0):∀s∈l,zQ x [s]=0:=by grind[wy]
theorem ZpC{x:Inst}{l:List Stop}(h:SOk x l)(hf:wy x l=0):∀t∈wW x l,zQ x t=0:=by
 have key:∀(ps:List Pr) (st:zp × Int),(∀t∈st.1,t.length<=1\/zQ x t=0)->∀t∈(ps.foldl (jh x) st).1,t.length<=1\/zQ x t=0:=by
  intro ps
  induction ps with
  | nil=>intro st h;exact h
  | cons p ps ih =>
   intro st hst;rw[A3];refine ih _ λt ht=>?_
   unfold jh Wj at ht;generalize Za st.1 p.a=i at ht;generalize Za st.1 p.b=k at ht;generalize st.1.getD i []=a at ht;generalize st.1.getD k []=b at ht;cases hc:qB x st.2 p i k a b with
   | false=>rw[hc]at ht;exact hst t ht
   | true =>
    rw[hc]at ht;simp only[cond_true]at ht;unfold qB at hc;simp only[Av,decide_eq_true_eq]at hc;rcases Bw ht with ht | ht
    ·rcases Bw ht with ht | ht
     ·exact hst t ht
     ·rw[ht];exact .inr hc.2
    ·rw[ht];exact .inl DR
 intro t ht;obtain⟨-,hp,-,hne⟩:=h.join;have hs:=Yz ht;have h1:=key (q8 x (l.map λs:Stop=>s.c)) (l.map λs=>[s],(l.length:Int)) (λt ht=>by obtain⟨s,_,rfl⟩:=Al.1 ht;simp) t (Bj.1 ht).1;rcases h1 with h1 | h1
 ·have:=hne t ht
  match t,h1,this with
  | [s],_,_=>exact ZgZ hf s (hp.subset (hs.subset DR))
 omega
theorem Zg0{x:Inst}{l:List Stop}(h:SOk x l)(hf:wy x l=0):∀d∈Qm x l,SG x l d:=by
 intro d hd;unfold Qm at hd;simp only[List.cons_append,AN,As]at hd;rcases hd with rfl | rfl | hd
 ·exact⟨ZpC h hf,h.join.2.1⟩
 ·refine⟨λt ht=>?_,by rw[h.apart.2.1]⟩;obtain⟨s,hs,rfl⟩:=Al.1 ht;exact ZgZ hf s hs
 ·cases hall:(jp x l).2 with
  | false=>simp_all
  | true =>
   rw[hall]at hd;simp at hd;subst hd;obtain⟨r,hp⟩:=h.regret;exact⟨((wC x _).1 r.may).1,hp hall⟩
def vf(x:Inst)(b:Int)(d:zp):zp:=wZ (un x) b.toNat d
def uN(x:Inst)(b:Int)(l:List Stop):zp × Int:=vH x (wy x l) (Z2 x (vf x b) l)
theorem ZpD{x:Inst}{l:List Stop}(h:SOk x l)(h0:arc x 0 0=0)(hf:wy x l=0){b:Int}(hb:b<=9223372036854775807):ZgD x b (vf x b) (Qm x l):=by
 intro d hd;have g:=Zg0 h hf d hd;obtain⟨g2,-,-⟩:=Zag h h0 b.toNat d g;have o:=g.ok h;refine⟨⟨_,Zgs x d b (un x) (SG x l) hb o.n o.t (λ_=>g) (ZgX h h0)⟩,g2.ok h,?_⟩;have:=(g2.len h).1
 show (wZ (un x) b.toNat d).flatten.length<=1048576
 omega
theorem ZpE{x:Inst}{l:List Stop}(h:SOk x l)(h0:arc x 0 0=0){b:Int}(hb:b<=9223372036854775807):Pure prog 249 [.agg (zy x),L l,I b] (.tup [.agg [L (uN x b l).1],I (uN x b l).2]) :=
 Zo9 x l b _ h λhf=>ZpD h h0 hf hb
theorem ZpF{x:Inst}{l:List Stop}(h:SOk x l)(h0:arc x 0 0=0)(hf:wy x l=0)(b:Int):∀d∈Z2 x (vf x b) l,SG x l d:=by
 have hb:=Zg0 h hf;have hi:=λd g=>(Zag h h0 b.toNat d g).1
 intro d hd;unfold Z2 at hd;unfold Qm at hb;simp only[List.cons_append,AN,As]at hd hb;rcases hd with rfl | rfl | rfl | hd
 ·simp_all
 ·exact hi _ (hb _ (.inl rfl))
 ·exact hi _ (hb _ (.inr (.inl rfl)))
 ·cases hall:(jp x l).2 with
  | false=>simp_all
  | true =>
   rw[hall]at hd;simp at hd;subst hd;exact hi _ (hb _ (.inr (.inr (by rw[hall];simp))))
theorem Zg1(x:Inst):∀(ds:List zp) (st:zp × Int × Bool),(st.2.2=true->(ds.foldl (vG x) st).2.2=true/\(ds.foldl (vG x) st).2.1<=st.2.1)/\∀d∈ds,yg x d=0->(ds.foldl (vG x) st).2.2=true/\(ds.foldl (vG x) st).2.1<=W (yA x d)
 | [],st=>⟨λe=>⟨e,CL _⟩,by simp⟩
 | d :: ds,st=>by
  rw[A3];obtain⟨h1,h2⟩:=Zg1 x ds (vG x st d)
  grind[vG]
theorem ZpG{x:Inst}{e:Int}{ds:List zp}(he:e=0){d:zp}(hd:d∈ds)(hz:yg x d=0):(vH x e ds).2=0/\W (yA x (vH x e ds).1)<=W (yA x d):=by
 obtain⟨h1,h2⟩:=(Zg1 x ds ([],0,false)).2 d hd hz
 grind[Qh,vH,ZcF]
theorem ZpH(x:Inst)(imp:zp->zp)(l:List Stop):qQ l∈Z2 x imp l:=by simp[Z2]
section
variable {x:Inst} {l:List Stop} (h:SOk x l) (h0:arc x 0 0=0) (b:Int)
include h h0
theorem ZpI(he:(uN x b l).2=0):wy x l=0/\yg x (uN x b l).1=0/\(uN x b l).1.flatten.Perm l/\(yg x (qQ l)=0->W (yA x (uN x b l).1)<=W (yA x (qQ l))):=by
 obtain⟨hf,hm,hz⟩:=Zpw he;have g:=ZpF h h0 hf b _ hm;exact⟨hf,hz,g.perm,λq=>(ZpG hf (ZpH x _ l) q).2⟩
omit h0 in
end
open Go
structure Visit where
 d:Int
 q:Int
 deriving DecidableEq
instance:Inhabited Visit:=⟨⟨0,0⟩⟩
instance:Enc Visit:=⟨λs=>[I s.d,I s.q],2,λ_=>rfl,λ_=>rfl⟩
@[simp] theorem ZyR(s:Visit):Enc.enc s=[I s.d,I s.q]:=rfl
@[simp high] theorem ZyS(l:List Visit):(l.flatMap Enc.enc).length=l.length*2:=xl l
@[simp high] theorem ZyT(l:List Visit):(l.flatMap Enc.enc).take (l.length*2)=l.flatMap Enc.enc:=Yw l
def told:Nat->List zp->List (Stop × Nat)
 | _,[]=>[]
 | i,d :: ds=>d.flatten.map (·,i)++told (i+1) ds
def Wv(x:Stop × Nat):List PV:=[.agg [I x.1.c,I x.1.q,I x.2]]
theorem ZpJ(p:zF):Pure prog 99 [.agg [L p]] (.fn (.func 135) [] [.ip [L p]]):=by
 refine zr func99 ntmps99 results99 λS nx hd=>?_
 refine D0 ?_;intro v0;refine D0 ?_;refine xO 0 rfl ?_;exact D1 hd
theorem ZpK(p:zF)(hp:p.length<=1048576)(hd:∀d∈p,d.length<=1048576)(ht:∀d∈p,∀t∈d,t.length<=1048576):Qa prog 135 [.ip [L p]] ((told 0 p).map Wv):=by
 have yieldX:∀(pre rest:List (Stop × Nat)) (x:Stop × Nat),told 0 p=pre++x :: rest->((told 0 p).map Wv)[pre.length]?=some (Wv x):=by
  intro pre rest x e;rw[e];simp
 refine X4 func135 DW rfl ntmps135 (congrArg Array.toList results135) DR λl V keep nx J hJd hY A0 hA0=>?_
 refine D0 ?_;refine zj (jx (σ:=Nat × Store × List (Stop × Nat)) (λs=>s.1<=p.length/\J s.2.2.length s.2.1/\told 0 p=s.2.2++told s.1 (p.drop s.1)) (λs=>[(0,jQ l),(10,L p),(11,I p.length),(12,I s.1)]) (λs=>s.2.1) (λs=>[]) (λs=>p.length-s.1) (zS (0,A0,[]) [] (by simp[hA0]) DR rfl DR) ?_);rintro⟨a,A,pre⟩ ⟨ha,hJ,hr⟩;simp only at ha hJ hr ⊢;refine D0 ?_;refine za (zv rfl (λhc=>?_) (λhc=>?_))
 ·simp at hc;obtain⟨d,tl,a1,a2,a3,e0⟩:=zE rfl p a hc;have hdm:=Ab a1;have hdl:=hd d hdm;rw[a2]at hr;simp only[told]at hr;refine zh (za (zj (za (ze [] (zo e0 hc) ?_))));intro v0;refine D0 ?_;refine zj (jx (σ:=Nat × Store × List (Stop × Nat)) (λs=>s.1<=d.length/\J s.2.2.length s.2.1/\told 0 p=s.2.2++((d.drop s.1).flatten.map (·,a)++told (a+1) (p.drop (a+1)))) (λs=>[(0,jQ l),(3,I a),(10,L p),(11,I p.length),(12,I a),(18,L d),(19,I d.length),(20,I s.1)]) (λs=>s.2.1) (λs=>[]) (λs=>d.length-s.1) (zS (0,A,pre) [_] (by simp[hJ,hr]) DR rfl rfl) ?_);rintro⟨b,A,pre⟩ ⟨hb,hJ,hr⟩;simp only at hb hJ hr ⊢;refine D0 ?_;refine za (zv rfl (λhc2=>?_) (λhc2=>?_))
  ·simp at hc2;obtain⟨t,tl2,b1,b2,b3,e2⟩:=zE rfl d b hc2;have htl:=ht d hdm t (Ab b1);rw[b2]at hr;simp only[Bx,List.map_append,List.append_assoc]at hr;refine zh (za (zj (za (ze [] (zo e2 hc2) ?_))));intro v1;refine D0 ?_;refine zj (jx (σ:=Nat × Store × List (Stop × Nat)) (λs=>s.1<=t.length/\J s.2.2.length s.2.1/\told 0 p=s.2.2++((t.drop s.1).map (·,a)++((d.drop (b+1)).flatten.map (·,a)++told (a+1) (p.drop (a+1))))) (λs=>[(0,jQ l),(3,I a),(10,L p),(11,I p.length),(12,I a),(18,L d),(19,I d.length),(20,I b),(25,L t),(26,I t.length),(27,I s.1)]) (λs=>s.2.1) (λs=>[]) (λs=>t.length-s.1) (zS (0,A,pre) [_] (by simp[hJ,hr]) DR rfl rfl) ?_);rintro⟨j,A,pre⟩ ⟨hj,hJ,hr⟩;simp only at hj hJ hr ⊢;refine D0 ?_;refine za (zv rfl (λhc3=>?_) (λhc3=>?_))
   ·simp at hc3;obtain⟨s,tl3,c1,c2,c3,_,e3⟩:=el 2 rfl t j hc3;rw[c2]at hr;simp only[AA,List.cons_append]at hr;refine zh (za (zj (za (ze [] (zo e3 hc3) ?_))));intro v2;refine D0 ?_;refine λhsuf=>JW rfl rfl rfl (hY _ _ _ _ (yieldX pre _ (s,a) hr) hJ) ?_
    rintro _ ⟨A',hJ',rfl⟩;refine⟨_,_,rfl,zN hsuf ?_⟩;refine zm rfl (zh (zb ?_));exact zq (j+1,A',pre++[(s,a)]) [_] ⟨hc3,by simpa using hJ',by simp[hr]⟩ DV (by simp[zu j (by omega)]) rfl rfl
   ·simp at hc3;have:j=t.length:=DQ
    subst this;simp only[Bn,Bk,AN]at hr;refine zx (zb ?_);exact zq (b+1,A,pre) [] ⟨hc2,hJ,hr⟩ DV (by simp[zu b (by omega)]) rfl DR
  ·simp at hc2;have:b=d.length:=DQ
   subst this;simp only[Bn,Dr,Bk,AN]at hr;refine zx (zb ?_);exact zq (a+1,A,pre) [] ⟨hc,hJ,hr⟩ DV (by simp[zu a (by omega)]) rfl DR
 ·simp at hc;have:a=p.length:=DQ
  subst this;simp only[Bn,told,AD]at hr;refine zx (u5 (hJd _ _ hJ) rfl ?_);simpa[hr] using hJ
open Go
def yd(c:Int)(l:List (Stop × Nat)):List Visit:=(l.filter λx=>decide (x.1.c=c)).map λx=>⟨x.2,x.1.q⟩
theorem Qr(c:Int)(l m:List (Stop × Nat)):yd c (l++m)=yd c l++yd c m:=by simp[yd]
theorem Jh(c:Int)(x:Stop × Nat):yd c [x]=if x.1.c=c then [⟨x.2,x.1.q⟩] else []:=by
 by_cases h:x.1.c=c<;>simp[yd,h]
theorem ZcI(c:Int)(l:List (Stop × Nat)):(yd c l).length<=l.length:=by
 simp only[yd,List.length_map];exact BE _ _
structure PlanOk (p:zF):Prop where
 n:p.length<=1048576
 d:∀d∈p,d.length<=1048576
 t:∀d∈p,∀t∈d,t.length<=1048576
 told:(told 0 p).length<=1048576
theorem ZcJ(p:zF)(c:Int)(hp:PlanOk p):Pure prog 158 [.agg [L p],I c] (L (yd c (told 0 p))):=by
 have hlen:=hp.told;refine zr func158 ntmps158 results158 λS nx hd=>?_
 refine D0 ?_;intro v0 v1;refine D0 ?_;intro v2
 repeat apply za
 refine zb ?_;refine zt (ZpJ p) ?_;refine jg 2 0 104 2 rfl rfl λv3=>?_
 refine zj (JX (xs:=(told 0 p).map Wv) (σ:=List Visit × Nat) (λi s=>s.1=yd c ((told 0 p).take i)/\s.1.length<=i/\i<=(told 0 p).length) [(3,.ptr (nx+1) v1 0),(5,.ptr (nx+2) v2 0)] (λ_=>S)
  (λ(out,v3)=>[.cells v0 30 [L p],.cells v1 3 [I c],.cells v2 101 [.sl (nx+3) v3 2 0 out.length],.cells v3 104 (out.flatMap Enc.enc)]) ([],v3)
  (ZpK p hp.n hp.d hp.t) rfl (by intro x hx;obtain⟨y,_,rfl⟩:=Al.1 hx;rfl) DX DR ⟨by simp[yd],by simp,by simp⟩ rfl DR DR ?_ ?_)
 ·rintro l i ⟨out,v3⟩ more x ⟨ho,hl,hi⟩ hx;simp only at ho hl hi ⊢;rw[Aj]at hx;obtain⟨y,hy,rfl⟩:=Ao.1 hx;obtain⟨s,d⟩:=y;obtain⟨hil,hyi⟩:=Ac.1 hy;have htk:(told 0 p).take (i+1)=(told 0 p).take i++[(s,d)]:=by rw[AO hil,hyi]
  refine xk [] DW DW λK Gc Gh hK hGc hGh X hX0 hX=>?_
  simp -implicitDefEqProofs [hX0,hX,Wv]
  try clear hX0 hX X
  intro v4;refine hK _ _ _ ?_;clear hK hGc hGh;clear K Gc Gh;refine zj (D0 ?_);refine zv rfl (λhc=>?_) (λhc=>?_)
  ·simp at hc;refine zb ?_;refine⟨by omega,?_⟩;simp only[jF];exact wS (out++[⟨d,s.q⟩],v3+1) [_] ⟨by rw[htk,Qr,Jh,if_pos hc,ho],by simp;omega,by omega⟩ rfl DT
  ·simp at hc;refine zh ?_;simp only[jF];exact wS (out,v3) [_] ⟨by rw[htk,Qr,Jh,if_neg hc,ho,AD],Nat.le_succ_of_le hl,by omega⟩ rfl DT
 ·rintro⟨out,v3⟩ ⟨ho,hl,-⟩;simp only[List.length_map,Ai]at ho hl ⊢;refine D0 ?_;refine zZ 3 rfl ?_;exact zg (zi hd DT (by rw[ho];rfl))
open Go
theorem ZpL(p:zF)(c:Int)(hp:PlanOk p):Pure prog 198 [.agg [L p],I c] (L ((yd c (told 0 p)).map (·.d))):=by
 have hlen:=AB (ZcI c (told 0 p)) hp.told;have hvis:=ZcJ p c hp;generalize yd c (told 0 p)=vs at hlen hvis ⊢;refine zr func198 ntmps198 results198 λS nx hd=>?_
 refine D0 ?_;intro v0;refine D0 ?_;refine za (qt 5 3 1 rfl λv1=>?_);refine D0 ?_;refine zt hvis ?_;refine zj (zC (λs:Nat × List Int × Nat=>s.1<=vs.length/\s.2.1=(vs.take s.1).map (·.d)) (λ(k,out,v1)=>[(5,.sl (nx+1) v1 1 0 out.length),(10,L vs),(11,I vs.length),(12,I k)]) (λ(k,out,v1)=>[.cells v0 30 [L p],.cells v1 3 (out.flatMap Enc.enc)]) (λs=>vs.length-s.1) (0,[],v1) [] DR DR DR ?_);rintro⟨k,out,v1⟩ ⟨hk,ho⟩;simp only at hk ho ⊢;have hol:out.length=k:=by rw[ho];simp;omega
 refine D0 ?_;refine za (zv rfl (λhc=>?_) (λhc=>?_))
 ·simp at hc;obtain⟨s,tl,a1,a2,a3,_,e0⟩:=el 2 rfl vs k hc;refine zh (za (zj (za (ze [] (zo e0 hc) ?_))));intro v2;refine zb ?_;refine⟨by omega,?_⟩;refine zb ?_;exact zq (k+1,out++[s.d],v1+1) [_] ⟨hc,by rw[a3,ho];simp⟩ DV (by simp[zu k (by omega)]) rfl DT
 ·simp at hc;have:k=vs.length:=DQ
  subst this;rw[Ai]at ho;refine zx (D0 ?_);refine zZ 1 rfl ?_;exact zg (zi hd DT (by simp[ho,zn]))
def qk(n:Nat)(d:Int):Nat:=if 0<=d/\d<64 then n ||| 2 ^ d.toNat else n
theorem Zah(n:Nat)(d:Int)(hn:n<2 ^ 64):qk n d<2 ^ 64:=by
 unfold qk;split
 ·exact Nat.or_lt_two_pow hn (B8 DX DQ)
 ·exact hn
def qf(l:List Int):Nat:=l.foldl qk 0
theorem Zg2(l:List Int):qf l<2 ^ 64:=by
 have:∀(l:List Int) (n:Nat),n<2 ^ 64->l.foldl qk n<2 ^ 64:=by
  intro l;induction l with
  | nil=>intro n h;exact h
  | cons d l ih=>intro n h;exact ih _ (Zah n d h)
 exact this l 0 DX
theorem ZcK(d:Int):Pure prog 260 [I d] (B (decide (0<=d/\d<64))):=by
 refine zr func260 ntmps260 results260 λS nx hd=>?_
 refine D0 ?_
 by_cases h1:0<=d
 ·refine za (ze [(2,5)] h1 ?_);exact zg (zi hd DT (by simp[h1,zn]))
 ·refine za (ze [(2,5)] (zo h1 zB) ?_);exact zg (zi hd DT (by simp[h1,zn]))
theorem Zg3(d:Nat)(h:d<64):IntKind.u64.wrap (2 ^ d)=((2 ^ d:Nat):Int):=by
 have h2:(2:Nat) ^ d<2 ^ 64:=B8 DX h;have h3:((2 ^ d:Nat):Int)<2 ^ 64:=by exact_mod_cast h2
 have h4:(2:Int) ^ d=((2 ^ d:Nat):Int):=DR
 rw[h4];generalize (2 ^ d:Nat)=m at h3 ⊢;simp only[IntKind.wrap,IntKind.bits,IntKind.signed];simp;omega
theorem Zg4(n:Nat)(d:Int)(hn:n<2 ^ 64):Pure prog 226 [U n,I d] (U (qk n d)):=by
 refine zr func226 ntmps226 results226 λS nx hd=>?_
 refine D0 ?_
 repeat apply za
 refine zb ?_;refine zt (ZcK d) ?_
 by_cases h:0<=d/\d<64
 ·repeat apply za
  refine zm (by simp[h]) ?_;refine zh ?_;have h1:¬d<0:=DQ
  have h2:min d.toNat 64=d.toNat:=DQ
  have h3:=Zg3 d.toNat DQ;have h4:bits BinOp.or IntKind.u64 (n:Int) (2 ^ d.toNat)=((n ||| 2 ^ d.toNat:Nat):Int):=by
   have:=bits_or_u64_nat n (2 ^ d.toNat) DQ (by have:(2:Nat) ^ d.toNat<2 ^ 64:=B8 (by decide) (by omega);omega);simpa using this
  refine za (xk [] DW DW λK Gc Gh hK hGc hGh X hX0 hX=>?_);simp -implicitDefEqProofs [hX0,hX,h1,h2,IntKind.bits,h3,h4]
  try clear hX0 hX X
  refine hK _ _ _ ?_;clear hK hGc hGh;clear K Gc Gh;exact zg (zi hd DT (by simp[qk,h,zn]))
 ·repeat apply za
  refine zk DV ?_;refine D0 ?_;exact zg (zi hd DT (by simp[qk,h,zn]))
theorem ZpM(l:List Int)(hl:l.length<=1048576):Pure prog 197 [L l] (U (qf l)):=by
 refine zr func197 ntmps197 results197 λS nx hd=>?_
 refine D0 ?_;refine D0 ?_
 repeat apply za
 refine zb ?_;refine zj (zC (λs:Nat × Nat=>s.1<=l.length/\s.2=qf (l.take s.1)) (λ(k,n)=>[(3,U n),(6,L l),(7,I l.length),(8,I k)]) (λ_=>[]) (λs=>l.length-s.1) (0,0) [] (by simp[qf]) DR DR ?_);rintro⟨k,n⟩ ⟨hk,ho⟩;simp only at hk ho ⊢;refine D0 ?_;refine za (zv rfl (λhc=>?_) (λhc=>?_))
 ·simp at hc;obtain⟨d,tl,a1,a2,a3,e0⟩:=zE rfl l k hc;refine zh (za (zj (za (ze [] (zo e0 hc) ?_))));refine zb ?_;refine zt (Zg4 n d (by rw[ho];exact Zg2 _)) ?_;refine zb ?_;exact zq (k+1,qk n d) [] ⟨hc,by rw[a3,ho];simp[qf,Br]⟩ DV (by simp[zu k (by omega)]) rfl DR
 ·simp at hc;have:k=l.length:=DQ
  subst this;rw[Ai]at ho;refine zx (D0 ?_);exact zg (zi hd DT (by simp[ho,zn]))
def Ww(l:List Nat)(v:Nat):Int:=if v∈l then (l.findIdx (·=v):Nat) else -1
theorem ZpN(l:List Nat)(v:Nat)(hl:l.length<=1048576):Pure prog 242 [L l,U v] (I (Ww l v)):=by
 refine zr func242 ntmps242 results242 λS nx hd=>?_
 refine D0 ?_
 repeat apply za
 refine zb ?_;refine zj (zC (λs:Nat=>s<=l.length/\v ∉ l.take s) (λk=>[(0,L l),(1,U v),(6,L l),(7,I l.length),(8,I k)]) (λ_=>[]) (λs=>l.length-s) 0 [] DR DR DR ?_);rintro k ⟨hk,ho⟩;refine D0 ?_;refine za (zv rfl (λhc=>?_) (λhc=>?_))
 ·simp at hc;obtain⟨d,tl,a1,a2,a3,e0⟩:=zE rfl l k hc;refine zh (za (zj (D0 ?_)));refine za (ze [] (zo hc e0) ?_);refine zv rfl (λh=>?_) (λh=>?_)
  ·obtain rfl:v=d:=by simp at h;omega
   have hres:Ww l v=k:=by
    have hm:=Ab a1;have:l.findIdx (·=v)=k:=by
     rw[List.findIdx_eq DQ];obtain⟨q1,q2⟩:=Ac.1 a1;refine⟨by simp[q2],λj hj=>?_⟩;simp only[decide_eq_false_iff_not];intro e;apply ho;rw[List.mem_take_iff_getElem];exact⟨j,by omega,e⟩
    simp[Ww,hm,this]
   refine D0 ?_;exact zg (zi hd DT (by simp[hres,zn]))
  ·simp at h;refine zh (zb ?_);exact zq (k+1) [] ⟨hc,by rw[a3];simp;exact⟨ho,λe=>h DQ⟩⟩ DQ (by simp[zu k (by omega)]) rfl DR
 ·simp at hc;have:k=l.length:=DQ
  subst this;rw[Ai]at ho;refine zx (D0 ?_);exact zg (zi hd DT (by simp[Ww,ho,zn]))
theorem ZpO(l:List Nat)(v:Nat)(hl:l.length<=1048576):Pure prog 199 [L l,U v] (B (decide (v∈l))):=by
 refine zr func199 ntmps199 results199 λS nx hd=>?_
 refine D0 ?_;refine D0 ?_;refine zt (ZpN l v hl) ?_;exact zg (zi hd DT (by by_cases h:v∈l<;>simp[Ww,h,zn]))
open Go
structure CustFits (c:Cust):Prop where
 rate:0<=c.rate/\c.rate<=2147483648
 size:0<=c.size/\c.size<=2147483648
 start:0<=c.start/\c.start<=2147483648
def xS(q:Int):Bool:=decide (q<0\/2147483648<q)
def qm(size rate:Int):Int->List Int->Option (List Int)
 | _,[]=>some []
 | there,q :: l=>if size<there+q\/there+q<rate then none else (qm size rate (there+q-rate) l).map ((there+q-rate) :: ·)
def yR(c:Cust)(q:List Int):List Int × Int :=
 if q.any xS then ([],1) else match qm c.size c.rate c.start q with
 | none=>([],8)
 | some l=>(l,0)
theorem Zg5(c:Cust){S:Store}{nx:Nat}(hd:zW nx S):Spec prog 156 [.agg (zV c)] S (λp S'=>∃v,p=.fn (.func 201) [] [.ptr (nx+1) v 0,.ip (zV c)]/\S'=S.set (nx+1) (.cells v 3 [I c.start])):=by
 refine u6 hd func156 ntmps156 results156 ?_;refine D0 ?_;intro v0;refine D0 ?_;intro v1;refine D0 ?_;refine xO 0 rfl ?_;refine zg ⟨_,_,rfl,⟨v1,by simp[zn],rfl⟩,QW (j:=1) hd DR⟩
theorem Zg6(c:Cust)(q there:Int){S:Store}{id v:Nat}(hid:S id=.cells v 3 [I there])(h1:-4611686018427387904<=there+q/\there+q<=4611686018427387904)(h2:-4611686018427387904<=there+q-c.rate/\there+q-c.rate<=4611686018427387904):
  Spec prog 201 [I q,.ptr id v 0,.ip (zV c)] S (λp S'=>p=.tup [I (there+q),I (there+q-c.rate)]/\S'=S.set id (.cells v 3 [I (there+q-c.rate)])):=by
 refine yl func201 ntmps201 results201 λnx hd=>?_
 have hlt:id<nx:=by
  rcases Bb id nx with h | h
  ·exact h
  ·rw[hd id h]at hid;cases hid
 have hge:¬nx<=id:=DQ
 have hE:∀obs,ext S nx obs id=.cells v 3 [I there]:=λobs=>(zD hlt).trans hid
 have hE2:∀obs x,ext (S.set id x) nx obs id=x:=λobs x=>(zD hlt).trans (q11 _ _ _)
 have hd2:∀x,zW nx (S.set id x):=λx i hi=>by rw[q10 _ _ _ _ DQ];exact hd i hi
 have w1:IntKind.i64.wrap (there+q)=there+q:=wr _ DQ DQ;have w2:IntKind.i64.wrap (there+q-c.rate)=there+q-c.rate:=wr _ DQ DQ;refine D0 ?_;refine za (ze [] (zo hE w1) ?_);refine za (ze [] (zA hE hge w2) ?_);refine za (zz none (Row.pures [0,1,2,3] .done) mixed hE2 ?_);refine zg ⟨_,_,rfl,⟨rfl,rfl⟩,zR (hd2 _)⟩
theorem Zg7{size rate there q:Int}{l:List Int}{out:List Int}{r:Option (List Int)}(h:r=(qm size rate there (q :: l)).map (out++·))(hs:¬size<there+q)(hr:¬there+q<rate):
  r=(qm size rate (there+q-rate) l).map ((out++[there+q-rate])++·):=by
 rw[h];simp only[qm,hs,hr,or_self,if_false,Option.map_map];congr 1;funext x;simp
theorem ZcL(c:Cust)(q:List Int)(hc:CustFits c)(hq:q.length<=1048576):Pure prog 113 [.agg (zV c),L q] (.tup [L (yR c q).1,I (yR c q).2]):=by
 obtain⟨hr,hsz,hst⟩:=hc;refine zr func113 ntmps113 results113 λS nx hd=>?_
 refine D0 ?_;intro v0
 repeat apply za
 refine zb ?_;refine qa (nx:=nx) (σ:=Nat) (λv0=>q.any xS=false) (λv0=>[(1,L q),(2,.ptr nx v0 0)]) (λ_=>S) (λv0=>[.cells v0 87 (zV c)]) ?_ ?_
 ·refine zj (zC (λs:Nat=>s<=q.length/\(q.take s).any xS=false) (λk=>[(1,L q),(2,.ptr nx v0 0),(14,L q),(15,I q.length),(16,I k)]) (λ_=>[.cells v0 87 (zV c)]) (λs=>q.length-s) 0 [] DR DR DR ?_);rintro k ⟨hk,ho⟩;refine D0 ?_;refine za (zv rfl (λhc=>?_) (λhc=>?_))
  ·simp at hc;obtain⟨z,tl,a1,a2,a3,e0⟩:=zE rfl q k hc;have bad:xS z=true->yR c q=([],1):=λh=>by
    have:q.any xS=true:=by rw[BF];exact⟨z,Ab a1,h⟩
    simp[yR,this]
   refine zh (za (zj (za (ze [] (zo e0 hc) ?_))))
   by_cases h1:z<0
   ·refine za (ze [(2,22)] (zo h1 zB) ?_);refine zk rfl (D0 ?_);refine uc 4 rfl ?_;exact zg (zi hd DT (by rw[bad (by simp[xS,h1])];rfl))
   by_cases h2:(2147483648:Int)<z
   ·refine za (ze [(2,22)] (zo h1 h2) ?_);refine zk rfl (D0 ?_);refine uc 4 rfl ?_;exact zg (zi hd DT (by rw[bad (by simp[xS,h2])];rfl))
   refine za (ze [(2,22)] (zo h1 h2) ?_);refine zm rfl (zh (zb ?_));exact zq (k+1) [] ⟨hc,by rw[a3,C7,ho];simp[xS];omega⟩ DQ (by simp[zu k (by omega)]) rfl DR
  ·simp at hc;obtain rfl:k=q.length:=DQ
   rw[Ai]at ho;exact zx (zS v0 [] ho DR rfl DR)
 ·intro v0 hb;have hq0:∀z∈q,0<=z/\z<=2147483648:=by
   intro z hz;rw[Ct]at hb;have:=hb z hz;simp[xS]at this;omega
  have hres:yR c q=match qm c.size c.rate c.start q with | none=>([],8) | some l=>(l,0):=by simp[yR,hb]
  refine D0 ?_;refine λhsuf=>((Zg5 c jP).mono ?_).v
  rintro p T ⟨v1,rfl,rfl⟩;refine⟨_,_,JV _,zN hsuf ?_⟩;refine D0 ?_;refine⟨by omega,λv2=>?_⟩;refine ZkW 3 0 rfl ?_;simp only[CN,AU,A5,List.append_eq,List.cons_append,AN,Ad,Ah]
  repeat apply za
  refine zb ?_;refine zj (zC (λs:Nat × Int × List Int × Nat=>s.1<=q.length/\s.2.2.1.length=s.1/\(0<=s.2.1/\s.2.1<=2147483648)/\qm c.size c.rate c.start q=(qm c.size c.rate s.2.1 (q.drop s.1)).map (s.2.2.1++·))
   (λ(k,there,out,v2)=>[(2,.ptr nx v0 0),(8,.fn (.func 201) [] [.ptr (nx+2) v1 0,.ip (zV c)]),(9,.sl (nx+3) v2 1 0 out.length),(32,L q),(33,I q.length),(34,I k)])
   (λ(k,there,out,v2)=>[.cells v0 87 (zV c),.dead,.cells v1 3 [I there],.cells v2 3 (out.flatMap Enc.enc)]) (λs=>q.length-s.1) (0,c.start,[],v2) [] ?_ DR DR ?_)
  ·refine⟨by simp,by simp,hst,?_⟩;simp
  rintro⟨k,there,out,v2⟩ ⟨hk,hol,hth,ho⟩;simp only at hk hol hth ho ⊢;refine D0 ?_;refine za (zv rfl (λhc=>?_) (λhc=>?_))
  ·simp at hc;obtain⟨z,tl,a1,a2,a3,e0⟩:=zE rfl q k hc;have hz:=hq0 z (Ab a1);rw[a2]at ho;refine zh (za (zj (za (ze [] (zo e0 hc) ?_))));refine D0 ?_;refine λhsuf=>((Zg6 c z there (id:=nx+2) (v:=v1) DR DQ DQ).mono ?_).v
   rintro p T ⟨rfl,rfl⟩;refine⟨_,_,yk _ DQ DR,zN hsuf ?_⟩;have bad:(c.size<there+z\/there+z<c.rate)->yR c q=([],8):=λh=>by
    rw[hres,ho];simp only[qm,if_pos h,Option.map_none]
   by_cases h1:c.size<there+z
   ·repeat apply za
    refine ze [(4,48)] (zo h1 zB) ?_;refine zk rfl (D0 ?_);refine uc 4 rfl ?_;exact zg (zi hd DT (by rw[bad (.inl h1)];rfl))
   by_cases h2:there+z<c.rate
   ·repeat apply za
    refine ze [(4,48)] (zo h1 h2) ?_;refine zk rfl (D0 ?_);refine uc 4 rfl ?_;exact zg (zi hd DT (by rw[bad (.inr h2)];rfl))
   repeat apply za
   refine ze [(4,48)] (zo h1 h2) ?_;refine zm rfl (zh (zb ?_));refine⟨by omega,?_⟩;refine zb ?_;exact zq (k+1,there+z-c.rate,out++[there+z-c.rate],v2+1) [] ⟨hc,by simp[hol],by dsimp only;omega,Zg7 ho h1 h2⟩ DV (by simp[zu k (by omega)]) rfl DR
  ·simp at hc;obtain rfl:k=q.length:=DQ
   rw[Bn]at ho;simp only[qm,AZ,AD]at ho;refine zx (D0 ?_);refine zZ 3 rfl ?_;exact zg (zi hd DT (by rw[hres,ho];simp[zn]))
open Go
def wE(rate size:Int):List Int->List Int->Bool
 | z :: q,n :: l=>decide (0<z/\n+rate≠size) || wE rate size q l
 | _,_=>false
def wF(c:Cust)(q:List Int):Int :=
 if (yR c q).2≠0 then (yR c q).2 else if c.rule≠1 then 0 else if wE c.rate c.size q (yR c q).1 then 9 else 0
def Ji(c:Cust)(ns:List Int):Int:=W (c.hold*W ns.sum)
theorem Wx(l:List Int)(x:Int):(l++[x]).sum=l.sum+x:=DR
theorem ZcM(c:Cust)(ns:List Int)(hn:ns.length<=1048576):Pure prog 115 [.agg (zV c),L ns] (I (Ji c ns)):=by
 refine zr func115 ntmps115 results115 λS nx hd=>?_
 refine D0 ?_;intro v0;refine D0 ?_
 repeat apply za
 refine zb ?_;refine zj (zC (λs:Nat=>s<=ns.length) (λk=>[(2,.ptr nx v0 0),(5,I (W (ns.take k).sum)),(8,L ns),(9,I ns.length),(10,I k)]) (λ_=>[.cells v0 87 (zV c)]) (λs=>ns.length-s) 0 [] DR DR DR ?_);rintro k hk;refine D0 ?_;refine za (zv rfl (λhc=>?_) (λhc=>?_))
 ·simp at hc;obtain⟨z,tl,a1,a2,a3,e0⟩:=zE rfl ns k hc;refine zh (za (zj (za (ze [] (zo e0 hc) ?_))));refine zb ?_;refine zb ?_;have hw:W (W (ns.take k).sum+z)=W (ns.take (k+1)).sum:=by rw[a3,Wx,uZ]
  exact zq (k+1) [] hc DQ (by simp[zu k (by omega)];exact hw) rfl DR
 ·simp at hc;obtain rfl:k=ns.length:=DQ
  rw[Ai];refine zx (D0 ?_);exact D1 hd
theorem Zg8(c:Cust)(q:List Int)(hc:CustFits c)(hq:q.length<=1048576):Pure prog 200 [.agg (zV c),L q] (I (wF c q)):=by
 have hni:=ZcL c q hc hq;obtain⟨hr,hsz,hst⟩:=hc;refine zr func200 ntmps200 results200 λS nx hd=>?_
 refine D0 ?_;intro v0
 repeat apply za
 refine zb ?_;refine zt hni ?_
 by_cases he:(yR c q).2=0
 case neg =>
  refine za (ze [] he ?_);refine zk (by simp[he]) ?_;refine D0 ?_;exact zg (zi hd DT (by simp[wF,he,zn]))
 refine za (ze [] he ?_);refine zm (by simp[he]) ?_;refine zh ?_
 by_cases hru:c.rule=1
 case neg =>
  repeat apply za
  refine ze [] hru ?_;refine zk (by simp[hru]) ?_;refine D0 ?_;exact zg (zi hd DT (by simp[wF,he,hru,zn]))
 repeat apply za
 refine ze [] hru ?_;refine zm (by simp[hru]) ?_;refine zh ?_;have hres:wF c q=if wE c.rate c.size q (yR c q).1 then 9 else 0:=by simp[wF,he,hru]
 obtain⟨l,hl,hq0⟩:∃l,qm c.size c.rate c.start q=some l/\(yR c q).1=l/\∀z∈q,0<=z/\z<=2147483648:=by
  unfold yR at he ⊢;split at he
  ·simp at he
  ·rename_i hb;cases hrn:qm c.size c.rate c.start q with
   | none=>simp[hrn]at he
   | some l =>
    refine⟨l,rfl,by simp[hb],λz hz=>?_⟩;simp only[Bool.not_eq_true,Ct]at hb;have:=hb z hz;simp[xS]at this;omega
 obtain⟨hl1,hq0⟩:=hq0;rw[hl1]at hres;refine D0 ?_;refine λhsuf=>((Zg5 c jP).mono ?_).v
 rintro p T ⟨v1,rfl,rfl⟩;refine⟨_,_,JV _,zN hsuf ?_⟩
 repeat apply za
 refine zb ?_;refine zj (zC (λs:Nat × Int=>s.1<=q.length/\(0<=s.2/\s.2<=2147483648)/\qm c.size c.rate s.2 (q.drop s.1)=some (l.drop s.1)/\wE c.rate c.size q l=wE c.rate c.size (q.drop s.1) (l.drop s.1))
  (λ(k,there)=>[(2,.ptr nx v0 0),(7,.fn (.func 201) [] [.ptr (nx+2) v1 0,.ip (zV c)]),(26,L q),(27,I q.length),(28,I k)])
  (λ(k,there)=>[.cells v0 87 (zV c),.dead,.cells v1 3 [I there]]) (λs=>q.length-s.1) (0,c.start) [] ⟨by simp,hst,by simpa using hl,by simp⟩ DR DR ?_)
 rintro⟨k,there⟩ ⟨hk,hth,hrn,ho⟩;simp only at hk hth hrn ho ⊢;refine D0 ?_;refine za (zv rfl (λhc=>?_) (λhc=>?_))
 ·simp at hc;obtain⟨z,tl,a1,a2,a3,e0⟩:=zE rfl q k hc;have hz:=hq0 z (Ab a1);rw[a2]at hrn ho;simp only[qm]at hrn;split at hrn
  ·cases hrn
  rename_i hno;obtain⟨l2,hl2,hl3⟩:=Ao.1 hrn;rw[<-hl3]at ho;simp only[wE]at ho;have hl4:l.drop (k+1)=l2:=by rw[<-List.drop_drop,<-hl3];rfl
  have hs1:there+z-c.rate+c.rate=there+z:=DQ
  rw[hs1]at ho;refine zh (za (zj (za (ze [] (zo e0 hc) ?_))));refine D0 ?_;refine λhsuf=>((Zg6 c z there (id:=nx+2) (v:=v1) DR DQ DQ).mono ?_).v
  rintro p T ⟨rfl,rfl⟩;refine⟨_,_,yk _ DQ DR,zN hsuf ?_⟩
  by_cases h1:0<z
  ·by_cases h2:there+z=c.size
   ·refine za (ze [(2,40)] (zo h1 h2) ?_);refine zm (by simp[h2]) ?_;refine zh (zb ?_);exact zq (k+1,there+z-c.rate) [] ⟨hc,by dsimp only;omega,by rw[hl4];exact hl2,by rw[ho,hl4,decide_eq_false DQ,Dm]⟩ DV (by simp[zu k (by omega)]) rfl (by simp[h2])
   ·refine za (ze [(2,40)] (zo h1 h2) ?_);refine zk (by simp[h2]) ?_;refine D0 ?_;exact zg (zi hd DT (by rw[hres,ho];simp[h1,h2,zn]))
  ·refine za (ze [(2,40)] (zo h1 zB) ?_);refine zm rfl (zh (zb ?_));exact zq (k+1,there+z-c.rate) [] ⟨hc,by dsimp only;omega,by rw[hl4];exact hl2,by rw[ho,hl4,decide_eq_false DQ,Dm]⟩ DV (by simp[zu k (by omega)]) rfl DR
 ·simp at hc;obtain rfl:k=q.length:=DQ
  rw[Bn]at ho;simp only[wE]at ho;refine zx (D0 ?_);exact zg (zi hd DT (by rw[hres,ho];rfl))
def vg(a b:Int):Int:=if a+b < -9223372036854775808 then -9223372036854775808 else if 9223372036854775807<a+b then 9223372036854775807 else a+b
theorem ZpP(a b:Int)(ha:zO a)(hb:zO b):Pure prog 167 [I a,I b] (if -9223372036854775808<=a+b/\a+b<=9223372036854775807 then .tup [I (a+b),B true] else .tup [I 0,B false]):=by
 unfold zO at ha hb;refine zr func167 ntmps167 results167 λS nx hd=>?_
 refine D0 ?_
 by_cases h:-9223372036854775808<=a+b/\a+b<=9223372036854775807
 ·have w1:IntKind.i64.wrap (a+b)=a+b:=wr _ h.1 h.2;refine za (ze [] w1 ?_)
  by_cases h1:b<0
  ·have h2:a+b<a:=DQ
   repeat apply za
   refine ze [] (zo h1 h2) ?_;refine zm DR ?_;refine zh (D0 ?_);exact zg (zi hd DT (by simp[h,zn]))
  ·have h2:¬a+b<a:=DQ
   repeat apply za
   refine ze [] (zo h1 h2) ?_;refine zm DR ?_;refine zh (D0 ?_);exact zg (zi hd DT (by simp[h,zn]))
 ·by_cases h0:a+b < -9223372036854775808
  ·have w1:IntKind.i64.wrap (a+b)=a+b+18446744073709551616:=by rw[AF];omega
   have h1:b<0:=DQ
   have h2:¬a+b+18446744073709551616<a:=DQ
   refine za (ze [] w1 ?_)
   repeat apply za
   refine ze [] (zo h1 h2) ?_;refine zk DR ?_;refine D0 ?_;exact zg (zi hd DT (by simp only[h,if_false];rfl))
  ·have w1:IntKind.i64.wrap (a+b)=a+b-18446744073709551616:=by rw[AF];omega
   have h1:¬b<0:=DQ
   have h2:a+b-18446744073709551616<a:=DQ
   refine za (ze [] w1 ?_)
   repeat apply za
   refine ze [] (zo h1 h2) ?_;refine zk DR ?_;refine D0 ?_;exact zg (zi hd DT (by simp only[h,if_false];rfl))
theorem Zai(a b:Int)(ha:zO a)(hb:zO b):Pure prog 123 [I a,I b] (I (vg a b)):=by
 have hadd:=ZpP a b ha hb;unfold zO at ha hb;refine zr func123 ntmps123 results123 λS nx hd=>?_
 refine D0 ?_
 by_cases h:-9223372036854775808<=a+b/\a+b<=9223372036854775807
 ·rw[if_pos h]at hadd;refine D0 ?_;refine zt hadd ?_;refine za (zj (D0 ?_));refine zk rfl (D0 ?_);exact zg (zi hd DT (by simp only[vg,zn];rw[if_neg (by omega),if_neg (by omega)]))
 ·rw[if_neg h]at hadd;refine D0 ?_;refine zt hadd ?_;refine za (zj (D0 ?_));refine zm rfl (D0 ?_);refine zv rfl (λh1=>?_) (λh1=>?_)
  ·simp at h1;refine D0 ?_;exact zg (zi hd DT (by simp only[vg,zn];rw[if_pos (by omega)]))
  ·simp at h1;refine zh (D0 ?_);exact zg (zi hd DT (by simp only[vg,zn];rw[if_neg (by omega),if_pos (by omega)]))
theorem Xj(a lo hi:Int):Pure prog 80 [I a,I lo,I hi] (I (min (max a lo) hi)):=by
 have h1:xh (jk a lo) hi=min (max a lo) hi:=by unfold xh jk;split<;>split<;>omega
 refine zr func80 ntmps80 results80 λS nx hd=>?_
 refine D0 ?_;refine za (ze [] h1 ?_);exact D1 hd
def yt(v:List Visit)(n:Int):List Int:=(List.range (min (max n 0) 64).toNat).map λ(d:Nat)=>((v.filter λs=>decide (s.d=(d:Int))).map (·.q)).sum
theorem Zaj(v:List Visit)(n:Int):(yt v n).length=(min (max n 0) 64).toNat:=by simp[yt]
theorem ZpQ(n:Int):yt [] n=List.replicate (min (max n 0) 64).toNat 0:=by
 apply A7
 ·simp[yt]
 ·intro i h1 h2;simp[yt]
theorem ZpR(v:List Visit)(n:Int)(s:Visit)(h:¬(0<=s.d/\s.d<((min (max n 0) 64).toNat:Int))):yt (v++[s]) n=yt v n:=by
 unfold yt;apply AQ;intro d hd;have hdl:=AL.1 hd;have:¬s.d=(d:Int):=DQ
 simp[this]
theorem ZpS(v:List Visit)(n:Int)(s:Visit)(d:Nat)(hs:s.d=(d:Int))(b:Int)(hb:(yt v n)[d]?=some b):yt (v++[s]) n=(yt v n).set d (b+s.q):=by
 obtain⟨hdl,hbe⟩:=Ac.1 hb;apply A7
 ·simp[yt]
 ·intro i h1 h2;rw[CU];have hil:i<(yt v n).length:=by simpa using h2
  by_cases q:d=i
  ·subst q;rw[if_pos rfl,<-hbe];simp[yt,hs]
  ·rw[if_neg q];have:¬s.d=(i:Int):=DQ
   simp[yt,this]
structure VisOk (v:List Visit):Prop where
 n:v.length<=1048576
 q:∀s∈v,0<=s.q/\s.q<=2147483648
 d:∀s∈v,zO s.d
theorem Zg9(v:List Visit)(p:Visit->Bool)(h:∀s∈v,0<=s.q/\s.q<=2147483648):0<=((v.filter p).map (·.q)).sum/\((v.filter p).map (·.q)).sum<=2147483648*v.length:=by
 induction v with
 | nil=>simp
 | cons s v ih =>
  have h1:=ih λx hx=>h x (by simp[hx])
  have h2:=h s DR;rw[Cc];split
  ·simp only[AA,Cg,Ad];omega
  ·simp only[Ad];omega
theorem ZpT{v:List Visit}(hv:∀s∈v,0<=s.q/\s.q<=2147483648)(n:Int):∀b∈yt v n,0<=b/\b<=2147483648*v.length:=by
 intro b hb;simp only[yt,Al]at hb;obtain⟨d,_,rfl⟩:=hb;exact Zg9 v _ hv
theorem Zha(v:List Visit)(n:Int)(hv:VisOk v):Pure prog 157 [L v,I n] (L (yt v n)):=by
 have hvn:=hv.n;have hm:min (max n 0) 64=(((min (max n 0) 64).toNat:Nat):Int):=DQ
 have hm64:(min (max n 0) 64).toNat<=64:=DQ
 refine zr func157 ntmps157 results157 λS nx hd=>?_
 refine D0 ?_;refine D0 ?_;refine zt (Xj n 0 64) ?_;refine⟨by omega,λv1=>?_⟩;generalize hmm:(min (max n 0) 64).toNat=m at hm hm64;have hz:=ZpQ n;rw[hmm]at hz
 repeat apply za
 refine zb ?_;refine zj (zC (λs:Nat=>s<=v.length) (λk=>[(5,.sl nx v1 1 0 m),(11,L v),(12,I v.length),(13,I k)]) (λk=>[.cells v1 3 ((yt (v.take k) n).flatMap Enc.enc)]) (λs=>v.length-s) 0 [] DR (by simp[hmm]) (by simp[hz,hmm,ZbC]) ?_);rintro k hk;have hbl:=Zaj (v.take k) n;rw[hmm]at hbl;refine D0 ?_;refine za (zv rfl (λhc=>?_) (λhc=>?_))
 ·simp at hc;obtain⟨s,tl,a1,a2,a3,_,e0⟩:=el 2 rfl v k hc;have hsm:=Ab a1;have hsq:=hv.q s hsm;have hout:=ZpR (v.take k) n s;rw[hmm]at hout;refine zh (za (zj (za (ze [] (zo e0 hc) ?_))));intro v2
  by_cases h1:0<=s.d
  ·by_cases h2:s.d<(m:Int)
   ·obtain⟨d,hd⟩:=Au h1;have hdm:d<m:=DQ
    obtain⟨b,tl2,b1,b2,b3,e2⟩:=zE rfl (yt (v.take k) n) d DQ;have hbm:=ZpT (λx hx=>hv.q x (Bl hx)) n b (Ab b1);have htl:(v.take k).length<=1048576:=DV
    have hin:=ZpS (v.take k) n s d hd b b1;have hsp:=VN (yt (v.take k) n) d (b+s.q) DQ;have hsat:vg b s.q=b+s.q:=by unfold vg;rw[if_neg DQ,if_neg DQ]
    have hflen:((yt (v.take k) n).flatMap Enc.enc).length=m:=by rw[jm,hbl]
    refine za (ze [(3,20)] (zo h1 h2) ?_);refine zk rfl (zz (some [nx+1]) (Row.pures [0,1,2,3,4,5,6,8,9] (.alt 7 (Row.pures [10,11] (.alt 12 (.done) .stop)) .stop)) mixed (zJ hd hdm e2 hbl) ?_);refine zH (Zai b s.q (by unfold zO;omega) (by unfold zO;omega)) (yv hsat hsp hbl hdm hd) ?_;refine⟨by omega,?_⟩;refine zb ?_;exact zq (k+1) [_] hc DQ (by simp[zu k (by omega)]) rfl (by rw[a3,hin];rfl)
   ·refine za (ze [(3,20)] (zo h1 h2) ?_);refine zm rfl (zh (zb ?_));exact zq (k+1) [_] hc DQ (by simp[zu k (by omega)]) rfl (by rw[a3,hout (by omega)];rfl)
  ·refine za (ze [(3,20)] (zo h1 zB) ?_);refine zm rfl (zh (zb ?_));exact zq (k+1) [_] hc DQ (by simp[zu k (by omega)]) rfl (by rw[a3,hout (by omega)];rfl)
 ·simp at hc;obtain rfl:k=v.length:=DQ
  rw[Ai]at hbl ⊢;refine zx (D0 ?_);refine zZ 0 rfl ?_;exact zg (zi hd DT (by simp[hbl,zn]))
open Go
def yG(n:Nat):List Int:=if h:n=0 then [] else ((n % 65536:Nat):Int) :: yG (n / 65536)
termination_by n
decreasing_by omega
theorem Qt:yG 0=[]:=by rw[yG];simp
theorem Qu{n:Nat}(h:n≠0):yG n=((n % 65536:Nat):Int) :: yG (n / 65536):=by rw[yG];simp[h]
def yp:List Int->Int
 | []=>0
 | d :: l=>d+65536*yp l
def wG(l:List Int):Prop:=∀d∈l,0<=d/\d<65536
def Jj:List Int->Prop
 | []=>True
 | [d]=>d≠0
 | _ :: e :: l=>Jj (e :: l)
theorem Qv:∀n:Nat,wG (yG n)/\yp (yG n)=n/\Jj (yG n)/\(n<65536 ^ 4->(yG n).length<=4):=by
 intro n
 induction n using Nat.strongRecOn with
 | _ n ih =>
  by_cases h:n=0
  ·subst h;rw[Qt];exact⟨λd hd=>(nomatch hd),rfl,trivial,by simp⟩
  ·obtain⟨h1,h2,h3,_⟩:=ih (n / 65536) DQ;rw[Qu h];refine⟨?_,?_,?_,?_⟩
   ·intro d hd;rcases As.1 hd with rfl | hd
    ·omega
    ·exact h1 d hd
   ·simp only[yp,h2];omega
   ·cases hl:yG (n / 65536) with
    | nil =>
     rw[hl]at h2;simp only[yp]at h2;simp only[Jj];omega
    | cons e l=>rw[hl]at h3;exact h3
   ·intro hlt;have:∀m:Nat,∀k:Nat,m<65536 ^ k->(yG m).length<=k:=by
     intro m k
     induction k generalizing m with
     | zero=>intro hm;simp at hm;subst hm;rw[Qt];simp
     | succ k ihk =>
      intro hm
      by_cases h0:m=0
      ·subst h0;rw[Qt];simp
      ·rw[Qu h0];have:=ihk (m / 65536) (by rw[DO]at hm;exact Nat.div_lt_of_lt_mul (by rw[Dz];exact hm));simp;exact this
    have:=this n 4 hlt;rw[Qu h]at this;exact this
theorem ZcN{l:List Int}(h:wG l):0<=yp l:=by
 induction l with
 | nil=>simp[yp]
 | cons d l ih =>
  have h1:=h d DR;have h2:=ih λx hx=>h x (by simp[hx])
  simp only[yp];omega
theorem Zak(a b:List Int):yp (a++b)=yp a+65536 ^ a.length*yp b:=by
 induction a with
 | nil=>simp[yp]
 | cons d a ih=>simp only[List.cons_append,yp,ih,Ad,DN];rw[DK,Int.mul_comm (65536 ^ a.length) 65536,Int.mul_assoc];omega
theorem ZpU:∀{l:List Int},wG l->Jj l->l=yG (yp l).toNat:=by
 intro l
 induction l with
 | nil=>intro _ _;simp only[yp];exact Qt.symm
 | cons d l ih =>
  intro h ht;have h1:=h d DR;have hl:wG l:=λx hx=>h x (by simp[hx])
  have h2:=ZcN hl;cases l with
  | nil =>
   simp only[Jj]at ht;simp only[yp];rw[Qu DQ];have e1:(d+65536*0).toNat / 65536=0:=DQ
   rw[e1,Qt];congr 1;omega
  | cons e l =>
   have:=ih hl ht;have hpos:yp (e :: l)≠0:=by
    intro h0;rw[h0]at this;rw[show (0:Int).toNat=0 from rfl,Qt]at this;cases this
   have ev:yp (d :: e :: l)=d+65536*yp (e :: l):=rfl;rw[ev,Qu DQ];have e1:(d+65536*yp (e :: l)).toNat / 65536=(yp (e :: l)).toNat:=DQ
   rw[e1,<-this];congr 1;omega
theorem Zal(n:Int)(hn:zO n):Pure prog 186 [I n] (.agg [L (yG n.natAbs),B (decide (n<0))]):=by
 unfold zO at hn;have hd4:=(Qv n.natAbs).2.2.2 (by rw[show (65536:Nat) ^ 4=18446744073709551616 from by decide];omega);refine zr func186 ntmps186 results186 λS nx hd=>?_
 refine D0 ?_;intro v0;refine D0 ?_;intro v1;refine D0 ?_;refine za (jg 1 0 3 1 rfl rfl λv2=>?_);refine zj (zC (λs:Int × List Int × Nat=>yG n.natAbs=s.2.1++yG s.1.natAbs/\(-9223372036854775808<=s.1/\s.1<=9223372036854775807)) (λ(m,out,v2)=>[(0,I m),(2,.ptr nx v0 0),(3,.ptr (nx+1) v1 0)])
  (λ(m,out,v2)=>[.cells v0 249 [.sc (.slice none 0 0),B false],.cells v1 249 [.sl (nx+2) v2 1 0 out.length,B (decide (n<0))],.cells v2 3 (out.flatMap Enc.enc)]) (λs=>s.1.natAbs) (n,[],v2) [] (by simp;exact hn) DR DR ?_)
 rintro⟨m,out,v2⟩ ⟨ho,hm⟩;simp only at ho hm ⊢
 by_cases h0:m=0
 ·subst h0;rw[show (0:Int).natAbs=0 from rfl,Qt,AD]at ho
  repeat apply za
  refine zb ?_;refine zm rfl (zx (D0 ?_));refine zZ 2 rfl ?_;exact zg (zi hd DT (by rw[ho];simp[zn]))
 ·repeat apply za
  refine ze [] h0 ?_;refine zk (by simp[h0]) ?_;refine zh (zj ?_);have hdm:yG m.natAbs=((m.natAbs % 65536:Nat):Int) :: yG (m.tdiv 65536).natAbs:=by
   rw[Qu DQ];congr 2;rw[Int.natAbs_tdiv];rfl
  rw[hdm]at ho;have hol:out.length<=4:=by rw[ho]at hd4;simp at hd4;omega
  have hq:(m.tdiv 65536).natAbs=m.natAbs / 65536:=by rw[Int.natAbs_tdiv];rfl
  have hq2:-9223372036854775808<=m.tdiv 65536/\m.tdiv 65536<=9223372036854775807:=DQ
  have w1:IntKind.i64.wrap (m.tdiv 65536)=m.tdiv 65536:=wr _ hq2.1 hq2.2;refine D0 ?_
  repeat apply za
  refine zb ?_
  by_cases hneg:m.tmod 65536<0
  ·have e1:-(m.tmod 65536)=((m.natAbs % 65536:Nat):Int):=by
    have:=Int.natAbs_tmod m 65536;have e:(65536:Int).natAbs=65536:=rfl;rw[e]at this;omega
   have w2:IntKind.i64.wrap (-(m.tmod 65536))=((m.natAbs % 65536:Nat):Int):=by rw[wr _ DQ DQ];exact e1
   refine zk (by simp[hneg]) ?_;refine ze [] w2 ?_;refine D0 ?_;refine⟨by omega,?_⟩;refine ze [] w1 ?_;exact zq (m.tdiv 65536,out++[((m.natAbs % 65536:Nat):Int)],v2+1) [] ⟨by rw[ho];simp,hq2⟩ (by dsimp only;omega) DR rfl DR
  ·have e1:m.tmod 65536=((m.natAbs % 65536:Nat):Int):=by
    have:=Int.natAbs_tmod m 65536;have e:(65536:Int).natAbs=65536:=rfl;rw[e]at this;omega
   refine zm DV ?_;refine zh (za (ze [] e1 ?_));refine⟨by omega,?_⟩;refine ze [] w1 ?_;exact zq (m.tdiv 65536,out++[((m.natAbs % 65536:Nat):Int)],v2+1) [] ⟨by rw[ho];simp,hq2⟩ (by dsimp only;omega) DR rfl DR
def jd:List Int->List Int->Int->List Int
 | [],[],c=>if 0<c then [c] else []
 | a :: u,[],c=>(a+c) % 65536 :: jd u [] ((a+c) / 65536)
 | [],b :: bs,c=>(b+c) % 65536 :: jd [] bs ((b+c) / 65536)
 | a :: u,b :: bs,c=>(a+b+c) % 65536 :: jd u bs ((a+b+c) / 65536)
theorem ZpV:∀(a b:List Int) (c:Int),wG a->wG b->0<=c->c<=1->wG (jd a b c)/\yp (jd a b c)=yp a+yp b+c/\(jd a b c).length<=max a.length b.length+1:=by
 intro a
 induction a with
 | nil =>
  intro b
  induction b with
  | nil =>
   intro c _ _ h0 h1;simp only[jd];split
   ·refine⟨?_,by simp[yp],by simp⟩;intro d hd;simp at hd;omega
   ·refine⟨by intro d hd;simp at hd,by simp[yp];omega,by simp⟩
  | cons b bs ih =>
   intro c ha hb h0 h1;have hb1:=hb b DR;obtain⟨q1,q2,q3⟩:=ih ((b+c) / 65536) ha (λx hx=>hb x (by simp[hx])) DQ DQ;simp only[jd];refine⟨?_,by simp only[yp]at q2 ⊢;rw[q2];omega,by simp at q3 ⊢;omega⟩;intro d hd;rcases As.1 hd with rfl | hd
   ·omega
   ·exact q1 d hd
 | cons a u iha =>
  intro b;cases b with
  | nil =>
   intro c ha hb h0 h1;have ha1:=ha a DR;obtain⟨q1,q2,q3⟩:=iha [] ((a+c) / 65536) (λx hx=>ha x (by simp[hx])) hb DQ DQ;simp only[jd];refine⟨?_,by simp only[yp]at q2 ⊢;rw[q2];omega,by simp at q3 ⊢;omega⟩;intro d hd;rcases As.1 hd with rfl | hd
   ·omega
   ·exact q1 d hd
  | cons b bs =>
   intro c ha hb h0 h1;have ha1:=ha a DR;have hb1:=hb b DR;obtain⟨q1,q2,q3⟩:=iha bs ((a+b+c) / 65536) (λx hx=>ha x (by simp[hx])) (λx hx=>hb x (by simp[hx])) DQ DQ;simp only[jd];refine⟨?_,by simp only[yp]at q2 ⊢;rw[q2];omega,by simp at q3 ⊢;omega⟩;intro d hd;rcases As.1 hd with rfl | hd
   ·omega
   ·exact q1 d hd
theorem ZpW(a b:List Int)(c:Int)(h:a≠[]\/b≠[]\/0<c):jd a b c=(a.headD 0+b.headD 0+c) % 65536 :: jd a.tail b.tail ((a.headD 0+b.headD 0+c) / 65536)\/(a=[]/\b=[]/\jd a b c=[c]):=by
 cases a with
 | nil =>
  cases b with
  | nil=>right;simp at h;simp[jd,h]
  | cons b bs=>left;simp[jd]
 | cons a u =>
  cases b with
  | nil=>left;simp[jd]
  | cons b bs=>left;simp[jd]
theorem Zam(l:List Int)(k:Nat):(l.drop k).headD 0=l.getD k 0:=by simp[List.headD_eq_head?_getD,List.head?_drop,Aa]
theorem ZpX(a b:List Int)(ha:wG a)(hb:wG b)(hal:a.length<=1000)(hbl:b.length<=1000):Pure prog 219 [L a,L b] (L (jd a b 0)):=by
 refine zr func219 ntmps219 results219 λS nx hd=>?_
 refine D0 ?_;refine D0 ?_;refine za (qt 5 3 1 rfl λv1=>?_);refine zb ?_
 repeat apply za
 refine zb ?_;refine zj (zC (λs:Nat × Int × List Int × Nat=>s.1<=max a.length b.length+1/\(0<=s.2.1/\s.2.1<=1)/\s.2.2.1.length=s.1/\jd a b 0=s.2.2.1++jd (a.drop s.1) (b.drop s.1) s.2.1/\(s.1=max a.length b.length+1->s.2.1=0)) (λ(k,c,out,v1)=>[(0,L a),(1,L b),(5,.sl nx v1 1 0 out.length),(6,I c),(7,I k)])
  (λ(k,c,out,v1)=>[.cells v1 3 (out.flatMap Enc.enc)]) (λs=>max a.length b.length+1-s.1) (0,0,[],v1) [] DR DR DR ?_)
 rintro⟨k,c,out,v1⟩ ⟨hk,hc,hol,ho,hend⟩;simp only at hk hc hol ho hend ⊢
 by_cases hlive:k<a.length\/k<b.length\/0<c
 ·have hkl:k<max a.length b.length+1:=by
   rcases Bb k (max a.length b.length+1) with h | h
   ·exact h
   ·have:=hend DQ;omega
  -- the sum at this place
  have hx:0<=a.getD k 0/\a.getD k 0<65536:=by
   rw[Aa];cases h:a[k]? with
   | none=>simp
   | some x=>exact ha x (Ab h)
  have hy:0<=b.getD k 0/\b.getD k 0<65536:=by
   rw[Aa];cases h:b[k]? with
   | none=>simp
   | some x=>exact hb x (Ab h)
  generalize hxx:a.getD k 0=x at hx;generalize hyy:b.getD k 0=y at hy;have hnext:∀s,s=c+x+y->jd a b 0=(out++[s % 65536])++jd (a.drop (k+1)) (b.drop (k+1)) (s / 65536)/\(k+1=max a.length b.length+1->s / 65536=0):=by
   rintro s rfl;have hne:a.drop k≠[]\/b.drop k≠[]\/0<c:=by
    rcases hlive with h | h | h
    ·left;intro e;have:=List.drop_eq_nil_iff.1 e;omega
    ·right;left;intro e;have:=List.drop_eq_nil_iff.1 e;omega
    ·exact .inr (.inr h)
   have hsum:(a.drop k).headD 0+(b.drop k).headD 0+c=c+x+y:=by rw[Zam,Zam,hxx,hyy];omega
   have h0:k+1=max a.length b.length+1->c+x+y=c:=by
    intro q;have e1:x=0:=by rw[<-hxx,Aa,Ak DQ];rfl
    have e2:y=0:=by rw[<-hyy,Aa,Ak DQ];rfl
    omega
   refine⟨?_,λq=>by have:=h0 q;omega⟩;rcases ZpW (a.drop k) (b.drop k) c hne with e | ⟨e1,e2,e3⟩
   ·rw[ho,e,hsum];simp[List.tail_drop]
   ·have hx0:x=0:=by rw[<-hxx,<-Zam,e1];rfl
    have hy0:y=0:=by rw[<-hyy,<-Zam,e2];rfl
    have d1:a.drop (k+1)=[]:=by rw[<-List.drop_drop,e1];rfl
    have d2:b.drop (k+1)=[]:=by rw[<-List.drop_drop,e2];rfl
    have z1:(c+x+y) % 65536=c:=DQ
    have z2:(c+x+y) / 65536=0:=DQ
    rw[ho,e3,d1,d2,z1,z2];simp[jd]
  have fin:∀s:Int,s=c+x+y->s.tmod 65536=s % 65536/\IntKind.i64.wrap (s.tdiv 65536)=s / 65536:=by
   intro s hs;refine⟨Bd DQ,?_⟩;rw[Cb DQ,wr _ DQ DQ]
  obtain⟨f1,f2⟩:=fin _ rfl;obtain⟨g1,g2⟩:=hnext _ rfl;have wa:IntKind.i64.wrap (c+x)=c+x:=wr _ DQ DQ;have wb:IntKind.i64.wrap (c+x+y)=c+x+y:=wr _ DQ DQ
  by_cases h1:k<a.length
  ·obtain⟨x',tl,a1,a2,a3,e0⟩:=zE rfl a k h1;obtain rfl:x'=x:=by rw[<-hxx,Aa,a1];rfl
   repeat apply za
   refine ze [(4,12),(10,18)] (zo h1 zB) ?_;refine zk DR ?_;refine zh (za (zj ?_))
   repeat apply za
   refine zb ?_;refine zk (by simp[h1]) ?_;refine ze [] (zA e0 h1 wa) ?_
   by_cases h2:k<b.length
   ·obtain⟨y',tl2,b1,b2,b3,e2⟩:=zE rfl b k h2;obtain rfl:y'=y:=by rw[<-hyy,Aa,b1];rfl
    repeat apply za
    refine zb ?_;refine zk (by simp[h2]) ?_;refine ze [] (zA e2 h2 wb) ?_;refine za (ze [] f1 ?_);refine⟨by omega,?_⟩;refine ze [] f2 ?_;refine zb ?_;exact zq (k+1,(c+x'+y') / 65536,out++[(c+x'+y') % 65536],v1+1) [] ⟨by omega,by dsimp only;omega,by simp[hol],g1,g2⟩ DV (by simp[zu k (by omega)]) rfl DR
   ·obtain rfl:y=0:=by rw[<-hyy,Aa,Ak DQ];rfl
    rw[DC]at f1 f2 g1 g2
    repeat apply za
    refine zb ?_;refine zm DV ?_;refine zh (za (ze [] f1 ?_));refine⟨by omega,?_⟩;refine ze [] f2 ?_;refine zb ?_;exact zq (k+1,(c+x') / 65536,out++[(c+x') % 65536],v1+1) [] ⟨by omega,by dsimp only;omega,by simp[hol],g1,g2⟩ DV (by simp[zu k (by omega)]) rfl DR
  ·obtain rfl:x=0:=by rw[<-hxx,Aa,Ak DQ];rfl
   by_cases h2:k<b.length
   ·obtain⟨y',tl2,b1,b2,b3,e2⟩:=zE rfl b k h2;obtain rfl:y'=y:=by rw[<-hyy,Aa,b1];rfl
    have f1':(c+y').tmod 65536=(c+y') % 65536:=by rw[show c+y'=c+0+y' by omega];exact f1
    have f2':IntKind.i64.wrap ((c+y').tdiv 65536)=(c+y') / 65536:=by rw[show c+y'=c+0+y' by omega];exact f2
    have wb':IntKind.i64.wrap (c+y')=c+y':=wr _ DQ DQ;rw[show c+0+y'=c+y' by omega]at g1 g2
    repeat apply za
    refine ze [(4,12),(10,18)] (zA h1 h2 zB) ?_;refine zk DR ?_;refine zh (za (zj ?_))
    repeat apply za
    refine zb ?_;refine zm DV ?_;refine zh ?_
    repeat apply za
    refine zb ?_;refine zk (by simp[h2]) ?_;refine ze [] (zA e2 h2 wb') ?_;refine za (ze [] f1' ?_);refine⟨by omega,?_⟩;refine ze [] f2' ?_;refine zb ?_;exact zq (k+1,(c+y') / 65536,out++[(c+y') % 65536],v1+1) [] ⟨by omega,by dsimp only;omega,by simp[hol],g1,g2⟩ DV (by simp[zu k (by omega)]) rfl DR
   ·obtain rfl:y=0:=by rw[<-hyy,Aa,Ak DQ];rfl
    have h3:0<c:=DQ
    obtain rfl:c=1:=DQ
    rw[show (1:Int)+0+0=1 by rfl]at f1 f2 g1 g2
    repeat apply za
    refine ze [(4,12),(10,18)] (zo h1 h2) ?_;refine zk DR ?_;refine zh (za (zj ?_))
    repeat apply za
    refine zb ?_;refine zm DV ?_;refine zh ?_
    repeat apply za
    refine zb ?_;refine zm DV ?_;refine zh (za (ze [] f1 ?_));refine⟨by omega,?_⟩;refine ze [] f2 ?_;refine zb ?_;exact zq (k+1,(1:Int) / 65536,out++[(1:Int) % 65536],v1+1) [] ⟨by omega,by dsimp only;omega,by simp[hol],g1,g2⟩ DV (by simp[zu k (by omega)]) rfl DR
 ·have h1:¬k<a.length:=DQ
  have h2:¬k<b.length:=DQ
  have h3:¬0<c:=DQ
  rw[AS DQ,AS DQ]at ho;simp only[jd,h3,if_false,AD]at ho
  repeat apply za
  refine ze [(4,12),(10,18)] (zA h1 h2 h3) ?_;refine zm DR ?_;refine zx (D0 ?_);refine zZ 0 rfl ?_;exact zg (zi hd DT (by rw[ho];simp[zn]))
open Go
theorem ZpY{l:List Int}(h:l=[]\/∃m x,l=m++[x]/\x≠0):Jj l:=by
 rcases h with rfl | ⟨m,x,rfl,hx⟩
 ·trivial
 ·induction m with
  | nil=>exact hx
  | cons a m ih =>
   cases m with
   | nil=>exact hx
   | cons b m=>exact ih
theorem ZpZ(l:List Int)(k:Nat)(h:∀d∈l.drop k,d=0):yp l=yp (l.take k):=by
 have hz:∀m:List Int,(∀d∈m,d=0)->yp m=0:=by
  intro m;induction m with
  | nil=>intro _;rfl
  | cons a m ih=>intro h;simp only[yp];rw[ih λd hd=>h d (by simp[hd]),h a DR];rfl
 conv=>lhs;rw[<-List.take_append_drop k l]
 rw[Zak,hz _ h];simp
theorem Zp0(l:List Int)(neg:Bool)(hl:wG l)(hn:l.length<=1000):Pure prog 218 [.agg [L l,B neg]] (.agg [L (yG (yp l).toNat),B (if yG (yp l).toNat=[] then false else neg)]):=by
 refine zr func218 ntmps218 results218 λS nx hd=>?_
 refine D0 ?_;intro v0 v1;have fl:∀k,k<=l.length->((l.flatMap Enc.enc).take k)=((l.take k).flatMap Enc.enc):=λk _=>by
  have:=Y7 (α:=Int) Enc.enc 1 (λ_=>rfl) l k;rw[BR]at this;exact this
 refine za (qa (nx:=nx) (σ:=Unit) (λ_=>True) (λ_=>[(1,.ptr nx v0 0),(2,.ptr (nx+1) v1 0)]) (λ_=>S) (λ_=>[.cells v0 249 [L (yG (yp l).toNat),B neg],.cells v1 249 [.sc (.slice none 0 0),B false]]) ?_ ?_)
 ·refine zj (zC (λs:Nat=>s<=l.length/\(∀d∈l.drop s,d=0)) (λk=>[(1,.ptr nx v0 0),(2,.ptr (nx+1) v1 0)]) (λk=>[.cells v0 249 [L (l.take k),B neg],.cells v1 249 [.sc (.slice none 0 0),B false]]) (λs=>s) l.length [] DR DR DR ?_);rintro k ⟨hk,ho⟩;have htk:(l.take k).length=k:=DV
  have stop:Jj (l.take k)->L (l.take k)=L (yG (yp l).toNat):=by
   intro h;rw[ZpZ l k ho,<-ZpU (λd hd=>hl d (Bl hd)) h]
  match k,hk with
  | 0,_ =>
   repeat apply za
   refine ze [(4,7)] zB ?_;refine zm rfl (zx (zS () [] trivial DR rfl ?_));have:=stop trivial;simp only[CN]at this;simp[this]
  | j+1,hk =>
   obtain⟨d,tl,a1,a2,a3,e0⟩:=zE rfl l j DQ;have hw:IntKind.i64.wrap ((j:Int)+1-1)=(j:Int):=by rw[wr _ DQ DQ];omega
   have hw':IntKind.i64.wrap (j:Int)=(j:Int):=wr _ DQ DQ;have hlast:((l.take (j+1)).flatMap Enc.enc).drop j=[I d]:=by
    rw[a3,Ar,B4 (by rw[jm];simp;omega),AS (by rw[jm];simp;omega)];rfl
   have hjj:(j:Int)<(j:Int)+1:=DQ
   by_cases h0:d=0
   ·repeat apply za
    refine ze [(4,7)] (zP htk hw hw' hlast hjj h0) ?_;refine zk DR ?_;refine zh (zj ?_);have hft:((l.take (j+1)).flatMap Enc.enc).take j=(l.take j).flatMap Enc.enc:=by rw[<-fl (j+1) hk,Dd,fl _ DQ];congr 2;omega
    have hjl:(l.take j).length=j:=DV
    refine ze [] (zJ htk hw hw' hft) ?_;exact zq j [] ⟨by omega,λe he=>by rw[a2]at he;rcases As.1 he with q | q;exact q.trans h0;exact ho e q⟩ DQ DR rfl (by simp[hjl,hft])
   ·repeat apply za
    refine ze [(4,7)] (zP htk hw hw' hlast hjj h0) ?_;refine zm DR ?_;have:=stop (ZpY (.inr ⟨l.take j,d,a3,h0⟩));refine zx (zS () [] trivial DR rfl (by rw[this];rfl))
 ·intro _ _;have hdl:=Qv (yp l).toNat;generalize yG (yp l).toNat=m at hdl ⊢;cases m with
  | nil =>
   repeat apply za
   refine zb ?_;refine zk DR ?_;refine zb ?_;refine D0 ?_;exact D1 hd
  | cons a m =>
   have h1:¬((m.length:Int)+1=0):=DQ
   repeat apply za
   refine ze [] h1 ?_;refine zm DR ?_;refine zh (D0 ?_);exact D1 hd
def Z5:List Int->List Int->Int
 | x :: a,y :: b=>if x<y then -1 else if y<x then 1 else Z5 a b
 | _,_=>0
def Qw(a b:List Int):Int:=if a.length<b.length then -1 else if b.length<a.length then 1 else Z5 a.reverse b.reverse
theorem Zp1(a b:List Int)(ha:a.length<=1000)(hb:b.length<=1000):Pure prog 217 [L a,L b] (I (Qw a b)):=by
 refine zr func217 ntmps217 results217 λS nx hd=>?_
 refine D0 ?_
 by_cases h1:a.length=b.length
 case neg =>
  have h1':¬((a.length:Int)=b.length):=DQ
  repeat apply za
  refine ze [] h1' ?_;refine zk (by simp[h1']) ?_
  by_cases h2:a.length<b.length
  ·repeat apply za
   refine zb ?_;refine zk (by simp[h2]) ?_;refine D0 ?_;exact zg (zi hd DT (by simp[Qw,h2,zn]))
  ·repeat apply za
   refine zb ?_;refine zm DV ?_;refine zh (D0 ?_);exact zg (zi hd DT (by simp[Qw,h2,show b.length<a.length by omega,zn]))
 have hres:Qw a b=Z5 a.reverse b.reverse:=by simp[Qw,h1]
 rw[hres];have h1':((a.length:Int)=b.length):=DQ
 repeat apply za
 refine ze [] h1' ?_;refine zm (by simp[h1']) ?_;refine zh ?_
 repeat apply za
 refine zb ?_;have w0:IntKind.i64.wrap ((a.length:Int)-1)=(a.length:Int)-1:=wr _ DQ DQ;refine zj (zC (λm:Nat=>m<=a.length/\Z5 a.reverse b.reverse=Z5 (a.take m).reverse (b.take m).reverse) (λm=>[(0,L a),(1,L b),(5,I ((m:Int)-1))]) (λ_=>[]) (λm=>m) a.length [] ⟨Ag _,by rw[Ai,Ae DQ]⟩ (by simp[w0]) DR ?_);rintro m ⟨hm,ho⟩
 match m,hm with
 | 0,_ =>
  repeat apply za
  refine zb ?_;refine zm DR ?_;refine zx (D0 ?_);exact zg (zi hd DT (by rw[ho];simp[Z5,zn]))
 | j+1,hm =>
  have s1:((j+1:Nat):Int)-1=(j:Int):=DQ
  obtain⟨x,tl,a1,a2,a3,e0⟩:=zE rfl a j DQ;obtain⟨y,tl2,b1,b2,b3,e2⟩:=zE rfl b j DQ;rw[a3,b3]at ho;simp only[C6,Cu,Ds,AN,List.cons_append,Z5]at ho;have g1:j<a.length:=DQ
  have g2:j<b.length:=DQ
  have s2:(j:Int)+1-1=(j:Int):=DQ
  repeat apply za
  refine ze [] (zo s1 s2) ?_;refine zk DR ?_;refine zh (za (zj ?_))
  repeat apply za
  refine zz none (Row.pures [0,1,2,3,4,5,6,7,8] .done) mixed (zP s1 s2 g1 g2 e0 e2) ?_
  by_cases h3:x<y
  ·repeat apply za
   refine zk (by simp[h3]) ?_;refine D0 ?_;exact zg (zi hd DT (by rw[ho,if_pos h3];rfl))
  ·repeat apply za
   refine zm DV ?_;refine zh (za (zz none (Row.pures [0,1,2,3,4,5,6,7,8] .done) mixed (zP s1 s2 g1 g2 e0 e2) ?_))
   by_cases h4:y<x
   ·repeat apply za
    refine zk (by simp[h4]) ?_;refine D0 ?_;exact zg (zi hd DT (by rw[ho,if_neg h3,if_pos h4];rfl))
   ·repeat apply za
    refine zm DV ?_;refine zh ?_;have w1:IntKind.i64.wrap ((j:Int)-1)=(j:Int)-1:=wr _ DQ DQ;refine ze [] (zA s1 s2 w1) ?_;exact zq j [] ⟨by omega,by rw[ho,if_neg h3,if_neg h4]⟩ DQ DR rfl DR
theorem ZcO(l:List Int)(h:wG l)(k:Nat):0<=yp (l.take k)/\yp (l.take k)<65536 ^ k:=by
 have hd:wG (l.take k):=λd hd=>h d (Bl hd)
 refine⟨ZcN hd,?_⟩;have main:∀(k:Nat) (m:List Int),wG m->m.length<=k->yp m<65536 ^ k:=by
  intro k
  induction k with
  | zero=>intro m _ hm;simp at hm;subst hm;simp[yp]
  | succ k ih =>
   intro m hm hl;cases m with
   | nil=>simp only[yp];exact Int.pow_pos DX
   | cons d m =>
    have h1:=hm d DR;have h2:=ih m (λx hx=>hm x (by simp[hx])) (by simpa using hl);simp only[yp,DN];omega
 exact main k _ hd DV
theorem Zp2:∀(m:Nat) (a b:List Int),wG a->wG b->a.length=m->b.length=m->yp a<=yp b->Z5 a.reverse b.reverse<=0:=by
 intro m
 induction m with
 | zero=>intro a b _ _ ha hb _;rw[Aq ha];simp[Z5]
 | succ m ih =>
  intro a b ha hb hal hbl hv;have hane:a≠[]:=by intro e;subst e;cases hal
  have hbne:b≠[]:=by intro e;subst e;cases hbl
  obtain⟨a',x,rfl⟩:∃a' x,a=a'++[x]:=⟨a.dropLast,a.getLast hane,(CX hane).symm⟩;obtain⟨b',y,rfl⟩:∃b' y,b=b'++[y]:=⟨b.dropLast,b.getLast hbne,(CX hbne).symm⟩;have hal':a'.length=m:=by simpa using hal
  have hbl':b'.length=m:=by simpa using hbl
  have ha':wG a':=λd hd=>ha d (by simp[hd])
  have hb':wG b':=λd hd=>hb d (by simp[hd])
  have p1:=ZcO (b'++[y]) hb m;have p2:=ZcO (a'++[x]) ha m;rw[Bu DQ,Ae DQ]at p1 p2;rw[Zak,Zak,hal',hbl']at hv;simp only[yp,Int.mul_zero,DC]at hv;simp only[C6,Cu,Ds,AN,List.cons_append,Z5]
  by_cases h1:x<y
  ·rw[if_pos h1];omega
  ·rw[if_neg h1]
   by_cases h2:y<x
   ·exfalso;have:(65536:Int) ^ m*x>=65536 ^ m*(y+1):=Int.mul_le_mul_of_nonneg_left DQ DQ;rw[DK]at this;omega
   ·rw[if_neg h2];have hxy:x=y:=DQ
    subst hxy;exact ih a' b' ha' hb' hal' hbl' DQ
theorem Zp3{a b:Nat}(h:a<=b):(yG a).length<=(yG b).length:=by
 induction b using Nat.strongRecOn generalizing a with
 | _ b ih =>
  by_cases h0:a=0
  ·subst h0;rw[Qt];simp
  ·rw[Qu h0,Qu (show b≠0 by omega)];have:=ih (b / 65536) DQ (a:=a / 65536) (Nat.div_le_div_right h);simpa using this
theorem Zp4{a b:Nat}(h:a<=b):Qw (yG a) (yG b)<=0:=by
 have hl:=Zp3 h;unfold Qw;split
 ·omega
 ·rw[if_neg DQ];have h1:=Qv a;have h2:=Qv b;exact Zp2 _ _ _ h1.1 h2.1 rfl DQ (by rw[h1.2.1,h2.2.1];omega)
theorem Zan{n:Nat}(h:n<=18446744073709551615):(yG n).length<=4:=(Qv n).2.2.2 (by rw[show (65536:Nat) ^ 4=18446744073709551616 from by decide];omega)
theorem Zp5(a b:Nat)(ha:a<=9223372036854775807)(hb:b<=9223372036854775807):Pure prog 185 [.agg [L (yG a),B false],.agg [L (yG b),B false]] (.agg [L (yG (a+b)),B false]):=by
 have h1:=Qv a;have h2:=Qv b;have l1:=Zan (n:=a) DQ;have l2:=Zan (n:=b) DQ;obtain⟨p1,p2,p3⟩:=ZpV (yG a) (yG b) 0 h1.1 h2.1 DQ DQ;have hv:(yp (jd (yG a) (yG b) 0)).toNat=a+b:=by rw[p2,h1.2.1,h2.2.1];omega
 have hpl:=ZpX (yG a) (yG b) h1.1 h2.1 DQ DQ;have htr:=Zp0 (jd (yG a) (yG b) 0) false p1 DQ;rw[hv,ite_self]at htr;generalize yG a=x at *;generalize yG b=y at *;generalize jd x y 0=z at *;refine zr func185 ntmps185 results185 λS nx hd=>?_
 refine D0 ?_;intro v0 v1 v2
 repeat apply za
 refine zb ?_;refine zk DR ?_;refine za (zz (some [nx,nx+1]) (Row.pures [0,1,2,3,4,5,6,7,8] (.alt 9 (.done) .stop)) mixed trivial ?_);refine zH (hpl) trivial ?_;refine zH (htr) trivial ?_;exact D1 hd
theorem Zp6(n:Nat)(hn:n<=9223372036854775807):Pure prog 184 [.agg [L (yG n),B false]] (.tup [I n,B true]):=by
 have h1:=Qv n;have l1:=Zan (n:=n) DQ;have hsz:=Zp4 (a:=n) (b:=9223372036854775807) hn;have hs:=Zp1 (yG n) (yG 9223372036854775807) DQ (by have:=Zan (n:=9223372036854775807) (by omega);omega);have o1:=Zal 9223372036854775807 (by unfold zO;omega);have o2:=Zal (-9223372036854775808) (by unfold zO;omega);rw[show ((9223372036854775807:Int)).natAbs=9223372036854775807 from rfl,show decide ((9223372036854775807:Int)<0)=false from rfl]at o1;rw[show decide ((-9223372036854775808:Int)<0)=true from rfl]at o2;generalize yG (-9223372036854775808:Int).natAbs=lo at *;generalize yG 9223372036854775807=hi at *;generalize hdn:yG n=l at *;have hg:¬0<Qw l hi:=DQ
 refine zr func184 ntmps184 results184 λS nx hd=>?_
 refine D0 ?_;intro v0;refine D0 ?_;refine zt o1 ?_;intro v1;refine D0 ?_;refine zt o2 ?_;intro v2
 repeat apply za
 refine ze [(3,13)] trivial ?_;refine qi [(3,13)] hs hg ?_;refine zm DR ?_;refine zh ?_
 repeat apply za
 refine ze [(2,23)] zB ?_;refine zm DR ?_;refine zh (D0 ?_);have w0:IntKind.i64.wrap ((l.length:Int)-1)=(l.length:Int)-1:=wr _ DQ DQ
 repeat apply za
 refine ze [] w0 ?_;refine zj (zC (λm:Nat=>m<=l.length) (λm=>[(1,.ptr nx v0 0),(6,I (yp (l.drop m))),(7,I ((m:Int)-1))]) (λ_=>[.cells v0 249 [L l,B false]]) (λm=>m) l.length [_,_] (Ag _) (by simp[yp]) rfl ?_);rintro m hm
 match m,hm with
 | 0,_ =>
  repeat apply za
  refine zb ?_;refine zm DR ?_;refine zx (D0 ?_);exact zg (zi hd DT (by simp[h1.2.1,zn]))
 | j+1,hm =>
  have s1:((j+1:Nat):Int)-1=(j:Int):=DQ
  have s2:(j:Int)+1-1=(j:Int):=DQ
  obtain⟨x,tl,a1,a2,a3,e0⟩:=zE rfl l j DQ;have g1:j<l.length:=DQ
  have hx:=h1.1 x (Ab a1);have hv0:0<=yp (l.drop (j+1)):=ZcN λd hd=>h1.1 d (B5 hd)
  have hvj:yp (l.drop j)=x+65536*yp (l.drop (j+1)):=by rw[a2];rfl
  have hvle:yp (l.drop j)<=n:=by
   have e:=Zak (l.take j) (l.drop j);rw[List.take_append_drop,h1.2.1]at e;have t0:=(ZcO l h1.1 j).1;have hp:(1:Int)<=65536 ^ (l.take j).length:=by have:=Int.pow_pos (n:=65536) (m:=(l.take j).length) DX;omega
   have hd0:0<=yp (l.drop j):=DQ
   have:=Int.mul_le_mul_of_nonneg_right hp hd0;rw[Int.one_mul]at this;omega
  have w1:IntKind.i64.wrap (yp (l.drop (j+1))*65536)=yp (l.drop (j+1))*65536:=wr _ DQ DQ;have w2:IntKind.i64.wrap (yp (l.drop (j+1))*65536+x)=yp (l.drop j):=by rw[wr _ DQ DQ];omega
  have w3:IntKind.i64.wrap ((j:Int)-1)=(j:Int)-1:=wr _ DQ DQ
  repeat apply za
  refine ze [] (zo s1 s2) ?_;refine zk DR ?_;refine zh (za (zj (za (ze [] w1 ?_))));refine D0 ?_;refine zm DR ?_;refine ze [] (yv s1 s2 g1 e0 w2) ?_;refine ze [] (zA s1 s2 w3) ?_;exact zq j [] DQ DQ DR rfl DR
theorem Zp7(a b:Int)(ha:0<=a)(hb:0<=b)(hab:a+b<=9223372036854775807):Pure prog 130 [I a,I b] (I (a+b)):=by
 obtain⟨x,rfl⟩:=Au ha;obtain⟨y,rfl⟩:=Au hb;have o1:=Zal (x:Int) (by unfold zO;omega);have o2:=Zal (y:Int) (by unfold zO;omega);rw[Int.natAbs_natCast,decide_eq_false DQ]at o1 o2;have h3:=Zp5 x y DQ DQ;have h4:=Zp6 (x+y) DQ;rw[show ((x+y:Nat):Int)=(x:Int)+(y:Int) by omega]at h4;refine zr func130 ntmps130 results130 λS nx hd=>?_
 refine D0 ?_;refine D0 ?_;refine zt o1 ?_;refine zt o2 ?_;refine zt h3 ?_;refine zt h4 ?_
 repeat apply za
 refine zb ?_;refine zk DR ?_;refine D0 ?_;exact D1 hd
end Go.Proofs.YtcocagkbfpgmiaaGreatDoor.Pv
