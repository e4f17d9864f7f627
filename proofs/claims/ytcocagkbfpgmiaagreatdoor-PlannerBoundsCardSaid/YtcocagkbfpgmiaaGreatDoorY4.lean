/- Part of a proof, packed. -/
import Derived.Test.YtcocagkbfpgmiaaGreatDoorY3
open Go.Proofs.Tryz (prog)
set_option maxRecDepth 100000
set_option maxHeartbeats 3200000
namespace Go.Proofs.YtcocagkbfpgmiaaGreatDoor.Pv
open Go Go.Proofs
theorem ZfE{x:Inst}(h:qU x):∀(l:List Int) (a:Int),0<=xN x a l/\xN x a l<=2147483648*((l.length:Int)+1)
 | [],a=>by
  have:=h a 0;simp only[xN,Ah];omega
 | c :: l,a=>by
  have h1:=h a (c+1);have h2:=ZfE h l (c+1);simp only[xN,Ae];omega
theorem Wl{x:Inst}(h:qU x)(l:List Int):0<=yC x l/\yC x l<=2147483648*((l.length:Int)+1):=by
 unfold yC;split
 ·omega
 ·exact ZfE h l 0
def Qg(d:zk):List (Nat × Nat):=(List.range (d.length+1)).flatMap λt=>(List.range ((d.getD t []).length+1)).map λp=>(t,p)
def Z2(d:zk)(s:Stop)(c:Nat × Nat):zk:=jx d ⟨c.1,c.2,0⟩ s
def ZbX(x:Inst)(d:zk)(s:Stop)(c:Nat × Nat):Int:=if c.1=d.length then W (yC x [s.c]) else vZ x (d.getD c.1 []) s c.2
def Q8(x:Inst)(d:zk)(s:Stop)(c:Nat × Nat):Option Spot:=if yr x (Z2 d s c)=0 then some ⟨c.1,c.2,ZbX x d s c⟩ else none
theorem ZfF(d:zk)(s:Stop)(b:Spot):jx d b s=Z2 d s (b.t,b.p):=rfl
theorem ZfG{d:zk}{c:Nat × Nat}:c∈Qg d<->c.1<=d.length/\c.2<=(d.getD c.1 []).length:=by
 unfold Qg;rw[BV];constructor
 ·rintro⟨t,ht,hc⟩;obtain⟨p,hp,rfl⟩:=An.1 hc;rw[AJ]at ht hp;simp only;omega
 ·rintro⟨h1,h2⟩;exact⟨c.1,AJ.2 (by omega),An.2 ⟨c.2,AJ.2 (by omega),rfl⟩⟩
abbrev VX(x:Inst)(d:zk)(s:Stop):Prop:=zP x [s]=1\/s.c∈d.flatten.map (·.c)\/¬(d.flatten.map (·.c)).Nodup\/x.veh<d.length
theorem ZfH{d:zk}{s:Stop}{t p:Nat}{l:zK}(hl:d[t]?=some l):Z2 d s (t,p)=d.set t (jU l p s):=by
 have hlt:=(Ac.1 hl).1;unfold Z2 jx;rw[if_neg (by simp only;omega),Aa,hl];rfl
theorem ZfI(d:zk)(s:Stop)(p:Nat):Z2 d s (d.length,p)=d++[[s]]:=by
 unfold Z2 jx;rw[if_pos rfl]
theorem Zns{d:zk}{s:Stop}{c:Nat × Nat}(hc:c∈Qg d):(Z2 d s c).flatten.Perm (s :: d.flatten):=by
 obtain⟨t,p⟩:=c;obtain⟨h1,h2⟩:=ZfG.1 hc;simp only at h1 h2
 by_cases ht:t=d.length
 ·subst ht;rw[ZfI];simp only[List.flatten_append,Bp,DB,AF];exact BQ
 ·have hl:d[t]?=some (d.getD t []):=by rw[Aa,Ad (by omega)];rfl
  rw[ZfH hl];exact ZbR d t _ _ s hl (Wj _ s p)
theorem Znt{x:Inst}{d:zk}{s:Stop}(hd:yr x d=0){c:Nat × Nat}(hc:c∈Qg d)(h:yr x (Z2 d s c)=0):¬VX x d s:=by
 have hp:=Zns (s:=s) hc;obtain⟨g1,g2,g3⟩:=(vB x _).1 h;obtain⟨e1,e2,e3⟩:=(vB x _).1 hd;rw[(hp.map _).nodup_iff,Ax,CA]at g2;rintro(q | q | q | q)
 ·obtain⟨u,hu,hsu⟩:=BO.1 (hp.symm.subset (Cb (a:=s)));have hm:=((Q7 x u).1 (g1 u hu)).1;unfold qH at hm;simp only[Au,As]at hm;have hgs:=hm.1 s hsu;have:zP x [s]≠1:=by
   unfold zP qH;rw[if_neg (by simp[hgs])];split
   ·decide
   ·split
    ·decide
    ·split<;>decide
  exact this q
 ·exact g2.1 q
 ·exact q e2
 ·omega
theorem ZfJ{x:Inst}{d:zk}{s:Stop}(hd:yr x d=0)(ho:¬VX x d s){t p:Nat}{l:zK}(hl:d[t]?=some l)(hp:p<=l.length):
  yr x (Z2 d s (t,p))=0<->W (ji l+s.q)<=x.cap/\W (jh x l+vZ x l s p)<=x.len:=by
 obtain⟨e1,e2,e3⟩:=(vB x _).1 hd;have hlm:=Ab hl;have hlt:=(Ac.1 hl).1;have hm0:=e1 l hlm;have hne:l≠[]:=VW ((Q7 x l).1 hm0).1;have hb:y8 x d=0:=Qf.2 e1;have hg:d.getD t []=l:=by rw[Aa,hl];rfl
 constructor
 ·intro h;obtain⟨g1,-,-⟩:=(vB x _).1 h;rw[ZfH hl]at g1;have:=g1 (jU l p s) (Ab (i:=t) (by simp[hlt]));obtain⟨-,-,a,b⟩:=(Q7 x _).1 this;have ha:=ZfA l s p;have hw:=Zfz x l s p hne hp;unfold ji at ha;unfold jh at hw;rw[ha]at a;rw[hw]at b;exact⟨a,b⟩
 ·rintro⟨a,b⟩;have hmem:(⟨t,p,vZ x l s p⟩:Spot)∈yT x d s:=by
   unfold yT;rw[if_neg ho];refine List.mem_append_left _ (BV.2 ⟨t,AJ.2 hlt,?_⟩);rw[hg,hb,hm0];unfold uT;rw[if_neg (by simp;omega)];refine BS.2 ⟨p,AJ.2 (by omega),?_⟩;unfold uz;rw[if_pos b]
  have:=ZbV hmem
  rwa[ZfF]at this
theorem Znu{x:Inst}{d:zk}{s:Stop}(hd:yr x d=0)(ho:¬VX x d s):yr x (Z2 d s (d.length,0))=0<->zP x [s]=0/\(d.length:Int)<x.veh:=by
 obtain⟨e1,e2,e3⟩:=(vB x _).1 hd;have hb:y8 x d=0:=Qf.2 e1;constructor
 ·intro h;obtain⟨g1,-,g3⟩:=(vB x _).1 h;rw[ZfI]at g1 g3;rw[Ar]at g3;simp at g3;exact⟨g1 [s] (by simp),by omega⟩
 ·rintro⟨a,b⟩;have hmem:(⟨d.length,0,W (yC x [s.c])⟩:Spot)∈yT x d s:=by
   unfold yT;rw[if_neg ho,if_pos ⟨hb,a,b⟩];exact List.mem_append_right _ (by simp)
  have:=ZbV hmem
  rwa[ZfF]at this
theorem ZfK{α β:Type}{f:α->Option β}{l:List α}(h:∀a∈l,f a=none):l.filterMap f=[]:=by
 rw[List.filterMap_eq_nil_iff];exact h
theorem ZfL{α β:Type}{f g:α->List β}:∀{l:List α},(∀a∈l,f a=g a)->l.flatMap f=l.flatMap g
 | [],_=>rfl
 | a :: l,h=>by rw[AA,AA,h a (by simp),ZfL λb hb=>h b (by simp[hb])]
theorem ZfM{α β:Type}{f g:α->Option β}:∀{l:List α},(∀a∈l,f a=g a)->l.filterMap f=l.filterMap g
 | [],_=>rfl
 | a :: l,h=>by
  have ih:=ZfM (f:=f) (g:=g) (l:=l) λb hb=>h b (by simp[hb])
  rw[Ct,Ct,h a (by simp),ih]
def YE(x:Inst)(d:zk)(s:Stop)(t:Nat):List Spot:=((List.range ((d.getD t []).length+1)).map λp=>(t,p)).filterMap (Q8 x d s)
theorem ZfN{x:Inst}{d:zk}{s:Stop}(hd:yr x d=0):yT x d s=(List.range (d.length+1)).flatMap (YE x d s):=by
 by_cases ho:VX x d s
 ·unfold yT;rw[if_pos ho];symm;rw[List.flatMap_eq_nil_iff];intro t ht;rw[AJ]at ht;refine ZfK λc hc=>?_
  obtain⟨p,hp,rfl⟩:=An.1 hc;rw[AJ]at hp;unfold Q8;rw[if_neg];intro h;exact Znt hd (ZfG.2 ⟨by simp only;omega,by simp only;omega⟩) h ho
 ·unfold yT;obtain⟨e1,e2,e3⟩:=(vB x _).1 hd;have hb:y8 x d=0:=Qf.2 e1;rw[if_neg ho,AO,Av];congr 1
  ·refine ZfL λt ht=>?_
   rw[AJ]at ht;have hl:d[t]?=some (d.getD t []):=by rw[Aa,Ad ht];rfl
   have hm0:=e1 _ (Ab hl);unfold YE uT;rw[hm0,hb,List.filterMap_map]
   by_cases hcap:x.cap<W (ji (d.getD t [])+s.q)
   ·rw[if_pos (.inr hcap)];symm;refine ZfK λp hp=>?_
    rw[AJ]at hp;simp only[Function.comp_apply];unfold Q8;rw[if_neg];rw[ZfJ hd ho hl (by omega)];omega
   ·rw[if_neg (show ¬(0<((0:Nat):Int)-(if (0:Int)=13 then 1 else 0)\/x.cap<W (ji (d.getD t [])+s.q)) from by rintro(q | q);exact absurd q (by decide);exact hcap q)];refine ZfM λp hp=>?_
    rw[AJ]at hp;simp only[Function.comp_apply];have hi:=ZfJ (p:=p) hd ho hl (by omega);unfold Q8 uz ZbX;simp only;rw[if_neg (show ¬t=d.length by omega)]
    by_cases hw:W (jh x (d.getD t [])+vZ x (d.getD t []) s p)<=x.len
    ·rw[if_pos hw,if_pos (hi.2 ⟨by omega,hw⟩)]
    ·rw[if_neg hw,if_neg λe=>hw (hi.1 e).2]
  ·have hi:=Znu hd ho;simp only[AA,Ck,AF];unfold YE;rw[show d.getD d.length []=([]:zK) from by rw[Aa,Ai (Ag _)];rfl];simp only[Ah,AR,List.range_one,Ax,Be,Ct,List.filterMap_nil];unfold Q8 ZbX;simp only[if_true]
   by_cases hc:zP x [s]=0/\(d.length:Int)<x.veh
   ·rw[if_pos ⟨hb,hc⟩,if_pos (hi.2 hc)]
   ·rw[if_neg λe=>hc e.2,if_neg λe=>hc (hi.1 e)]
theorem ZfO{α β γ:Type}(f:α->List β)(g:β->Option γ):∀l:List α,(l.flatMap f).filterMap g=l.flatMap λa=>(f a).filterMap g
 | []=>rfl
 | a :: l=>by rw[AA,B8,ZfO f g l,AA]
theorem Znv{x:Inst}{d:zk}{s:Stop}(hd:yr x d=0):yT x d s=(Qg d).filterMap (Q8 x d s):=by
 rw[ZfN hd];unfold Qg;rw[ZfO];rfl
theorem ZfP{x:Inst}{d:zk}(h:yr x d=0):∀t∈d,t≠[]:=λt ht=>VW ((Q7 x t).1 (((vB x d).1 h).1 t ht)).1
def Qh(st:Int × Bool)(m:Int):Int × Bool:=if st.2=false\/m<st.1 then (m,true) else st
def Qi(l:List Int):Int × Bool:=l.foldl Qh (0,false)
def J4(x:Inst)(d:zk)(s:Stop)(n:Nat):List Int:=(List.range n).filterMap λt=>bif (Qi ((YE x d s t).map (·.m))).2 then some (Qi ((YE x d s t).map (·.m))).1 else none
def J5(x:Inst)(d:zk)(s:Stop):List Int:=yR (J4 x d s (d.length+1))
theorem ZbY:∀(l:List Int) (m:Int),(l.foldl Qh (m,true)).2=true
 | [],_=>rfl
 | a :: l,m=>by
  rw[A8];unfold Qh;split
  ·exact ZbY l a
  ·exact ZbY l m
theorem Znw:Qi []=(0,false):=rfl
theorem Znx(a:Int)(l:List Int):Qi (a :: l)=l.foldl Qh (a,true):=by
 unfold Qi;rw[A8];unfold Qh;simp
def wC(st:List Int × Int)(p:Spot):List Int × Int :=
 if (p.t:Int)≠st.2 then (st.1++[p.m],(p.t:Int)) else (st.1.set (st.1.length-1) (if p.m<st.1.getD (st.1.length-1) 0 then p.m else st.1.getD (st.1.length-1) 0),st.2)
theorem ZfQ(t:Nat):∀(g:List Spot) (l:List Int) (m:Int),(∀p∈g,p.t=t)->g.foldl wC (l++[m],(t:Int))=(l++[((g.map (·.m)).foldl Qh (m,true)).1],(t:Int))
 | [],l,m,_=>rfl
 | p :: g,l,m,h=>by
  have hp:=h p (by simp);have hs:wC (l++[m],(t:Int)) p=(l++[if p.m<m then p.m else m],(t:Int)):=by
   unfold wC;rw[hp,if_neg (by simp)];simp
  have hm:Qh (m,true) p.m=(if p.m<m then p.m else m,true):=by
   unfold Qh
   by_cases q:p.m<m<;>simp[q]
  rw[A8,hs,Ax,A8,hm];exact ZfQ t g l _ λq hq=>h q (by simp[hq])
theorem Zny{t:Nat}{g:List Spot}(hg:∀p∈g,p.t=t)(l:List Int)(last:Int)(hl:last<t):
  g.foldl wC (l,last)=(l++(bif (Qi (g.map (·.m))).2 then [(Qi (g.map (·.m))).1] else []),if g=[] then last else (t:Int)):=by
 cases g with
 | nil=>simp[Znw]
 | cons p g =>
  have hp:=hg p (by simp);have hs:wC (l,last) p=(l++[p.m],(t:Int)):=by
   unfold wC;rw[hp,if_pos (by simp only[ne_eq];omega)]
  rw[A8,hs,ZfQ t g l p.m λq hq=>hg q (by simp[hq]),Ax,Znx,ZbY];simp
theorem Znz{x:Inst}{d:zk}{s:Stop}{t:Nat}:∀p∈YE x d s t,p.t=t:=by
 intro b hb;unfold YE at hb;obtain⟨c,hc,he⟩:=BS.1 hb;obtain⟨p,-,rfl⟩:=An.1 hc;unfold Q8 at he;split at he
 ·cases he;rfl
 ·cases he
theorem ZfR(x:Inst)(d:zk)(s:Stop):∀n:Nat,∃last:Int,last<n/\((List.range n).flatMap (YE x d s)).foldl wC ([],-1)=(J4 x d s n,last)
 | 0=>⟨-1,by omega,rfl⟩
 | n+1=>by
  obtain⟨last,h1,h2⟩:=ZfR x d s n;rw[AO,Av,Bk,h2];simp only[AA,Ck,AF];rw[Zny Znz _ _ h1];refine⟨_,?_,by
   congr 1;unfold J4;rw[AO,B8];congr 1;cases hm:(Qi ((YE x d s n).map (·.m))).2<;>simp[hm]⟩
  split<;>omega
theorem ZnA{x:Inst}{d:zk}{s:Stop}(hd:yr x d=0):((yT x d s).foldl wC ([],-1)).1=J4 x d s (d.length+1):=by
 rw[ZfN hd];obtain⟨last,-,h⟩:=ZfR x d s (d.length+1);rw[h]
theorem ZfS:∀{a b:List Int},a.Perm b->a.Pairwise (·<=·)->b.Pairwise (·<=·)->a=b
 | [],b,h,_,_=>(Dw.1 h).symm
 | x :: a,[],h,_,_=>absurd h.symm (by simp)
 | x :: a,y :: b,h,ha,hb=>by
  rw[Bl]at ha hb;have hxy:x=y:=by
   have h1:x∈y :: b:=h.subset (by simp);have h2:y∈x :: a:=h.symm.subset (by simp);have q1:y<=x:=by
    rcases Aq.1 h1 with e | e
    ·omega
    ·exact hb.1 x e
   have q2:x<=y:=by
    rcases Aq.1 h2 with e | e
    ·omega
    ·exact ha.1 y e
   omega
  subst hxy;rw[ZfS ((List.perm_cons x).1 h) ha.2 hb.2]
open Go Go.Proofs
theorem ZnB(x:Inst)(d:zk)(s:Stop)(t:Nat):(J4 x d s t).length<=t:=by
 unfold J4;exact AB (Cq _ _) (by simp)
open Go Go.Proofs
theorem Sim.drewN{C:Ctx}{S:Store}{w:World}(h:Sim C S w):∀q:Nat,Sim C S (w.drewN q)/\Step C S w C S (w.drewN q)
 | 0=>by
  have e:w.drewN 0=w:=rfl;rw[e];exact⟨h,.refl _ _ _⟩
 | q+1=>by
  obtain⟨a,b⟩:=Sim.drewN h q;obtain⟨c,d⟩:=a.drew;have e:w.drewN (q+1)=(w.drewN q).drew:=by unfold World.drewN World.drew;simp[Nat.add_assoc]
  rw[e];exact⟨c,b.trans d⟩
theorem ZnC(zs:List Int)(c:Int)(hn:zs.length<=1048576)(hs:zs.Pairwise (·<=·)):Pure prog 353 [L zs,I c] (.tup [I (zs.countP (·<c):Nat),B (zs.contains c)]):=by
 intro S;refine⟨qh Tryz.func353 (by rfl) rfl,?_⟩;intro C w vs hS hl hr;obtain⟨u,v,rfl⟩:∃u v,vs=#[u,v]:=Zfb hl;obtain rfl:=QW (hr 1 _ v rfl rfl);have h0:Rel C S w (.lst zs.length (zs.flatMap Enc.enc)) u:=hr 0 _ u rfl rfl;have hret:∀(k:Int) (b:Bool),Rel C S w (.tup [I k,B b]) (.tuple #[.int .i64 k,.bool b]):=by
  intro k b;refine .tup rfl ?_;intro i p v hc hv
  match i with
  | 0=>have hc:some (I k)=some p:=hc;have hv:some (Value.int .i64 k)=some v:=hv;cases hc;cases hv;exact .sc _
  | 1=>have hc:some (B b)=some p:=hc;have hv:some (Value.bool b)=some v:=hv;cases hc;cases hv;exact .sc _
  | i+2=>simp at hc
 rw[VH]at h0;generalize hcs:zs.map I=cs at h0;generalize hzl:zs.length=n at h0 hn;cases h0 with
 | lst0 =>
  obtain rfl:zs=[]:=Aw hzl;refine(Tryz.slices_BinarySearch_int_empty _ _ c w).mono ?_;rintro e w' ⟨rfl,rfl⟩;exact⟨_,_,_,_,rfl,⟨rfl,rfl⟩,hret 0 false,hS,.refl _ _ _⟩
 | lst1 g1 g2 g3 g4 g5 g6 g7 =>
  rename_i cap b o ca e fz
  by_cases hz:zs=[]
  ·subst hz;simp at hzl;subst hzl;refine(Tryz.slices_BinarySearch_int_empty _ _ c w).mono ?_;rintro e w' ⟨rfl,rfl⟩;exact⟨_,_,_,_,rfl,⟨rfl,rfl⟩,hret 0 false,hS,.refl _ _ _⟩
  ·subst hcs;have g5':=g5 (by simpa using hz);rw[List.length_map]at g5';have hcell:∀j,j<zs.length->w.cell? ⟨b,o+j,none⟩=some (.int .i64 (zs.getD j 0)):=by
    intro j hj;have e2:ca[o+j]?=some ca[o+j]:=by rw[AL]
    have e3:=QW (g7 j (I (zs.getD j 0)) _ (by simp[hj]) e2);rw[e3]at e2;simp[World.cell?,g3,e2]
   refine(Tryz.slices_BinarySearch_int b o n cap zs c w (by omega) (by omega) hcell (hs.sublist (List.take_sublist _ _))).mono ?_;rintro e w' ⟨rfl,q,rfl⟩;obtain⟨s1,s2⟩:=hS.drewN q;rw[Af (by omega)];exact⟨_,_,_,_,rfl,⟨rfl,rfl⟩,(hret _ _).mono s2,s1,s2⟩
theorem ZnD{n k:Nat}(hk:k<n)(W:Nat->List Spot)(E:List Spot)(i:Nat)(x:List PV)(h:((W k).map Zn)[i]?=some x):(((List.range n).flatMap W++E).map Zn)[((List.range k).flatMap W).length+i]?=some x:=by
 obtain⟨m,rfl⟩:∃m,n=k+(m+1):=⟨n-k-1,by omega⟩;rw[Aj]at h ⊢;rw[Dl,Av,List.append_assoc,Ak (Db _ _),AG,CU];have hi:i<(W k).length:=by
  rcases Bf i (W k).length with e | e
  ·exact e
  ·rw[Ai e]at h;cases h
 rw[Al (by simp;omega)];simp only[Ax,AA,Bm];rw[Al (by omega)];exact h
theorem ZnE(W:Nat->List Spot)(k:Nat):((List.range (k+1)).flatMap W).length=((List.range k).flatMap W).length+(W k).length:=by
 rw[AO,Av,Ar];simp
theorem ZnF(l:List Int)(c:Int):(yR l).contains c=l.contains c:=by
 rw[DK,CB,CB];exact(Cj l _).mem_iff
theorem ZfT{x:Inst}{s:Stop}(hx:x.cust.length<=1048576)(h:zP x [s]≠1):qe s.c:=by
 have:=ZfC h;unfold ju at this;simp only[Au,decide_eq_true_eq]at this;unfold qe;omega
theorem ZfU(x:Inst)(d:zk)(s:Stop)(hx:x.cust.length<=1048576)(hdo:DayOk d)(hf:d.flatten.length<=1048576):Y8 prog 352 [.ip [I s.c,I s.q],.ip (Zm x d)] ((yT x d s).map Zn):=by
 have hmay:=X8 x [s] hx (by simp);have hse:=ZnC (yR (d.flatten.map (·.c))) s.c (by rw[Qa,List.length_map];exact hf) (X6 _);rw[ZnF]at hse;generalize ((yR (d.flatten.map (·.c))).countP (·<s.c):Nat)=cnt at hse;obtain⟨tw,htw⟩:∃tw,tw=decide (¬(yR (d.flatten.map (·.c))).Nodup):=⟨_,rfl⟩;have htw':tw=decide (¬(d.flatten.map (·.c)).Nodup):=by rw[htw];exact decide_eq_decide.2 (not_congr (Cj _ _).nodup_iff)
 obtain⟨th,hth⟩:∃th,th=(d.flatten.map (·.c)).contains s.c:=⟨_,rfl⟩;rw[<-hth]at hse;have hlk:Zm x d=uA x d (yR (d.flatten.map (·.c))) tw (d.map (zP x)) (y8 x d) (d.map ji) (d.map (jh x)):=by rw[htw]
 rw[hlk];obtain⟨on,hon⟩:∃on,on=yR (d.flatten.map (·.c)):=⟨_,rfl⟩;rw[<-hon]at hse ⊢;obtain⟨fa,hfa⟩:∃fa,fa=zP x [s]:=⟨_,rfl⟩;rw[<-hfa]at hmay;have hdn:=hdo.n;refine X0 Tryz.func352 (by rfl) rfl Tryz.ntmps352 (congrArg Array.toList Tryz.results352) (by simp) λl V keep nx J hJd hY A0 hA0=>?_
 refine za (zz (some []) (Row.pures [0,1,2,3,4,5] (.alt 6 (.alt 7 (Row.pures [8] .done) .stop) .stop)) mixed trivial ?_);refine zJ (Zbr s) trivial ?_;intro v0;refine za (zb ?_);refine zr hmay ?_;refine za (zb ?_);refine zr hse ?_
 by_cases hout:zP x [s]=1\/s.c∈d.flatten.map (·.c)\/¬(d.flatten.map (·.c)).Nodup\/x.veh<d.length
 ·have hz:yT x d s=[]:=by unfold yT;rw[if_pos hout]
  rw[hz]at hY ⊢
  by_cases h1:fa=1
  ·repeat apply za
   refine ze [(2,30),(5,33),(9,37)] (zo h1 zH) ?_;exact zn rfl (zg (uO (hJd _ _ hA0) rfl (by simpa using hA0)))
  cases h2:th with
  | true =>
   repeat apply za
   refine ze [(2,30),(5,33),(9,37)] (zo h1 zH) ?_;exact zn rfl (zg (uO (hJd _ _ hA0) rfl (by simpa using hA0)))
  | false =>
   cases h3:tw with
   | true =>
    repeat apply za
    refine ze [(2,30),(5,33),(9,37)] (zo h1 zH) ?_;exact zn rfl (zg (uO (hJd _ _ hA0) rfl (by simpa using hA0)))
   | false =>
    have h4:x.veh<d.length:=by
     rcases hout with e | e | e | e
     ·exact absurd (hfa.trans e) h1
     ·have:th=true:=by rw[hth,CB];exact e
      rw[h2]at this;cases this
     ·have:tw=true:=by rw[htw'];exact decide_eq_true e
      rw[h3]at this;cases this
     ·exact e
    repeat apply za
    refine ze [(2,30),(5,33),(9,37)] (zE h1 h4 zH) ?_;exact zn rfl (zg (uO (hJd _ _ hA0) rfl (by simpa using hA0)))
 have h1:¬fa=1:=λe=>hout (.inl (hfa ▸ e))
 have h2:th=false:=by
  cases e:th with
  | false=>rfl
  | true=>rw[hth,CB]at e;exact absurd (.inr (.inl e)) hout
 have h3:tw=false:=by
  cases e:tw with
  | false=>rfl
  | true=>rw[htw']at e;exact absurd (.inr (.inr (.inl (of_decide_eq_true e)))) hout
 have h4:¬x.veh<d.length:=λe=>hout (.inr (.inr (.inr e)))
 have hsm:=ZfT hx (s:=s) (λe=>hout (.inl e));obtain⟨WW,hWW⟩:∃WW:Nat->List Spot,WW=λt=>uT x t (d.getD t []) (zP x (d.getD t [])) (y8 x d) (ji (d.getD t [])) (jh x (d.getD t [])) s:=⟨_,rfl⟩
 obtain⟨EE,hEE⟩:∃EE:List Spot,EE=if y8 x d=0/\zP x [s]=0/\(d.length:Int)<x.veh then [⟨d.length,0,W (yC x [s.c])⟩] else []:=⟨_,rfl⟩
 have hz:yT x d s=(List.range d.length).flatMap WW++EE:=by unfold yT;rw[if_neg hout,hWW,hEE]
 rw[hz]at hY ⊢;subst h2 h3
 repeat apply za
 refine ze [(2,30),(5,33),(9,37)] (zE h1 h4 zH) ?_;refine zm rfl (zh ?_)
 repeat apply za
 refine zb ?_;refine zj (jr (σ:=Nat × Store) (λs'=>s'.1<=d.length/\J ((List.range s'.1).flatMap WW).length s'.2) (λs'=>[(0,jS l),(1,.ip [I s.c,I s.q]),(2,.ip (uA x d on false (d.map (zP x)) (y8 x d) (d.map ji) (d.map (jh x)))),(4,.ptr nx v0 0),(5,I d.length),(6,I fa),(44,I d.length),(45,I s'.1)]) (λs'=>s'.2)
  (λ_=>[.cells v0 42 [L [s]]]) (λs'=>d.length-s'.1) (zY (0,A0) [] (by simpa using hA0) (by simp) rfl (by simp)) ?_)
 rintro⟨k,A⟩ ⟨hk,hJ⟩;simp only at hk hJ ⊢;refine za (zb ?_);refine za (zv rfl (λhc=>?_) (λhc=>?_))
 ·simp at hc;have hdk:d[k]?=some d[k]:=Ad hc;have hg:d.getD k []=d[k]:=by rw[Aa,hdk];rfl
  have hb:zP x d[k]=13->0<y8 x d:=by
   intro e;rcases BR (y8 x d) with q | q
   ·rw[Qf.1 q _ (Bh hc)]at e;cases e
   ·exact q
  have hw:=Znk x d on false (d.map (zP x)) (y8 x d) (d.map ji) (d.map (jh x)) k d[k] s (zP x d[k]) (ji d[k]) (jh x d[k]) (AB (Zfp x d) hdn) hdn hdk (by rw[Aj,hdk];rfl) (by rw[Aj,hdk];rfl) (by rw[Aj,hdk];rfl) (by simp) (by simp) (by simp) hb (hdo.t _ (Bh hc)) (hdo.s _ (Bh hc)) hsm;have hWk:WW k=uT x k d[k] (zP x d[k]) (y8 x d) (ji d[k]) (jh x d[k]) s:=by rw[hWW];simp only[hg]
  rw[<-hWk]at hw;have hlen:=ZnE WW k;refine zh (za (zj (za (zb ?_))));refine za (zb ?_);refine λhsuf=>((Zfs hw keep hY _ (ZnD hc WW EE) hJ _).mono ?_)
  rintro _ _ ⟨A',rfl,hJ',rfl⟩;rw[List.length_map,<-hlen]at hJ';refine⟨_,_,rfl,zL hsuf ?_⟩;refine zm rfl (zh (zb ?_));exact zq (k+1,A') [] ⟨hc,hJ'⟩ (by simp;omega) (by simp[zu k (by omega)]) rfl (by simp)
 ·simp at hc;obtain rfl:k=d.length:=by omega
  refine zy ?_
  by_cases he:y8 x d=0/\zP x [s]=0/\(d.length:Int)<x.veh
  ·have hE:EE=[⟨d.length,0,W (yC x [s.c])⟩]:=by rw[hEE,if_pos he]
   obtain⟨e1,e2,e3⟩:=he;have hlw:=X5 x [s] (by simp) (by simpa using hsm);have h5:fa=0:=hfa.trans e2;have hy:(((List.range d.length).flatMap WW++EE).map Zn)[((List.range d.length).flatMap WW).length]?=some (Zn ⟨d.length,0,W (yC x [s.c])⟩):=by
    rw[Aj,Ak (Ag _),Bw,hE];rfl
   simp only[Ax,Be]at hlw;refine za (ze [(3,58),(7,62)] (zS e1 h5 e3 zH) ?_);refine zn rfl (zb ?_);refine zr hlw ?_;refine λhsuf=>JQ rfl rfl rfl (hY _ _ _ _ hy hJ) ?_
   rintro _ ⟨A',hJ',rfl⟩;refine⟨_,_,rfl,zL hsuf ?_⟩;exact uO (hJd _ _ hJ') rfl (by rw[List.length_map,Ar,hE];exact hJ')
  ·have hE:EE=[]:=by rw[hEE,if_neg he]
   have hfin:J (((List.range d.length).flatMap WW++EE).map Zn).length A:=by rw[hE,AF,List.length_map];exact hJ
   by_cases e1:y8 x d=0
   ·by_cases e2:fa=0
    ·have e3:¬(d.length:Int)<x.veh:=λe=>he ⟨e1,hfa ▸ e2,e⟩
     refine za (ze [(3,58),(7,62)] (zS e1 e2 e3 zH) ?_);exact zm rfl (zh (uO (hJd _ _ hJ) rfl hfin))
    ·refine za (ze [(3,58),(7,62)] (zE e1 e2 zH) ?_);exact zm rfl (zh (uO (hJd _ _ hJ) rfl hfin))
   ·refine za (ze [(3,58),(7,62)] (zo e1 zH) ?_);exact zm rfl (zh (uO (hJd _ _ hJ) rfl hfin))
open Go Go.Proofs
theorem ZfV(id v:Nat)(cs:List PV)(d:zk):(d.flatMap Enc.enc).map (qi id v cs)=(d.flatMap Enc.enc:List PV):=by
 induction d with
 | nil=>rfl
 | cons l d ih=>rw[AA,List.map_append,ih];rfl
theorem ZnG(id v:Nat)(cs:List PV)(d:zk)(t:Nat)(p:PV):((d.flatMap Enc.enc).set t p).map (qi id v cs)=(d.flatMap Enc.enc:List PV).set t (qi id v cs p):=by
 rw[List.map_set,ZfV]
theorem ZfW:∀(d:zk) (t:Nat) (l:zK),(d.flatMap Enc.enc:List PV).set t (L l)=(d.set t l).flatMap Enc.enc
 | [],t,l=>rfl
 | m :: d,0,l=>rfl
 | m :: d,t+1,l=>by
  rw[AW,AA,AA,<-ZfW d t l];rfl
theorem ZnH{S:Store}{nx m:Nat}{obs:List Ob}(x y:Ob)(hm:m=nx+obs.length):((ext S nx obs).set (m+3) x).set (m+4) y=ext S nx (obs++[.dead,.dead,.dead,x,y]):=by
 subst hm;rw[JT 3];have:=qN (S:=S) (nx:=nx) (obs:=obs++List.replicate 3 .dead++[x]) y;simpa[Nat.add_assoc] using this
theorem ZnI(d:zk)(hd0:d.length<=1048576)(hd1:∀l∈d,l.length<=1048576)(S:Store)(nx:Nat)(hd:zT nx S):
  Spec prog 337 [.agg [L d]] S (λp S'=>∃v,p=.agg [.sl (nx+3) v 1 0 d.length]/\S'=S.set (nx+3) (.cells v 42 (d.flatMap Enc.enc))):=by
 refine(ZbO d d.length hd0 hd1 (by simp) S nx hd).mono ?_;rintro _ _ ⟨v,ts,ob,⟨h1,h2,-⟩,rfl,rfl⟩;obtain⟨rfl,rfl⟩:=h2 (Ag _);rw[Ao];refine⟨v,rfl,?_⟩;funext o
 by_cases h4:o=nx+4
 ·subst h4;rw[q11,q10 _ _ _ _ (by omega),hd _ (by omega)]
 ·rw[q10 _ _ _ _ h4]
theorem ZnJ(cs:List PV)(i:Nat)(p q:PV)(h:i<cs.length):yc (cs.set i p) i [q]=cs.set i q:=by
 unfold yc;rw[AH,if_pos h,AH,if_pos h];have hl:(cs.take i).length=i:=by rw[Ay];omega
 rw[BA (by omega),Af (by omega),CG,hl,Bg (by rw[hl];simp)];simp
theorem ZfX(id v sz k:Nat)(cs:List PV)(h:k*sz=cs.length):qi id v cs (.sl id v sz 0 k)=.lst k cs:=by simp[qi,h]
theorem ZbZ{α β:Type}{f:β->α->β}{b:β}{l:List α}{i:Nat}{a:α}(h:l[i]?=some a):(l.take (i+1)).foldl f b=f ((l.take i).foldl f b) a:=by
 obtain⟨hi,rfl⟩:=Ac.1 h;rw[AU hi,Bk];rfl
theorem ZnK{x:Inst}{d:zk}{s:Stop}{b:Spot}(h:b∈yT x d s)(hb:b.t≠d.length):∃l,d[b.t]?=some l/\0<l.length/\b.p<=l.length:=by
 obtain⟨-,-,-,-,h⟩:=Wh h;rcases h with ⟨l,hl,hi,ho,-⟩ | ⟨rfl,-⟩
 ·refine⟨l,hl,?_,hi⟩;have hself:zP x l=0\/zP x l=13:=by
   by_cases hf:zP x l=13
   ·exact .inr hf
   ·rw[if_neg hf]at ho;exact .inl (Qf.1 (by omega) l (Ab hl))
  have hst:qH x l=true:=by
   cases e:qH x l with
   | true=>rfl
   | false=>rw[ZbU e]at hself;rcases hself with h | h<;>cases h
  exact B5.2 (VW hst)
 ·exact absurd rfl hb
theorem ZnL{x:Inst}{d:zk}{s:Stop}{b:Spot}(h:b∈yT x d s):b.t<=d.length:=by
 obtain⟨-,-,-,-,h⟩:=Wh h;rcases h with ⟨l,hl,-⟩ | ⟨rfl,-⟩
 ·exact D0 (Ac.1 hl).1
 ·exact Ag _
theorem Zb0(x:Inst)(d:zk)(s:Stop)(hx:x.cust.length<=1048576)(hdo:DayOk d)(hf:d.flatten.length<=1000000):Pure prog 323 [.agg (zx x),.agg [L d],.agg [I s.c,I s.q]] (.tup [.agg [L (yL x d s).1],B (yL x d s).2]):=by
 have hit:=ZfU x d s hx hdo (by omega);have hsee:=Zfq x d hx hdo (by omega);have hmem:=λh=>VV (l:=yT x d s) h
 have hle:∀b∈yT x d s,b.t<=d.length:=λb hb=>ZnL hb
 have htour:∀b∈yT x d s,b.t≠d.length->∃l,d[b.t]?=some l/\0<l.length/\b.p<=l.length:=λb hb=>ZnK hb
 have hins:yL x d s=bif (vE (yT x d s)).2 then (jx d (vE (yT x d s)).1 s,true) else (d,false):=rfl
 have hsF:=Zfn (Zm x d) s rfl;rw[hins];clear hins;generalize yT x d s=xs at *;generalize hlk:Zm x d=lk at *;have hdn:=hdo.n;have hd1:∀l∈d,l.length<=1000000:=λl hl=>AB (YD hl).length_le hf
 refine zt Tryz.func323 Tryz.ntmps323 Tryz.results323 λS nx hd=>?_
 refine za (zb ?_);intro v0 v1 v2 v3;refine za (zb ?_);intro v4 v5
 repeat apply za
 refine zz none (Row.pures [0,1,2,3,4] .done) mixed trivial ?_;refine zJ (hsee) trivial ?_;refine zJ (hsF) trivial ?_;refine zj (JR (xs:=xs.map Zn) (σ:=Spot × Bool) (λi st=>st=(xs.take i).foldl Z1 (⟨0,0,0⟩,false)) [(3,.ptr nx v0 0),(4,.ptr (nx+1) v1 0),(5,.ptr (nx+2) v2 0),(6,.ptr (nx+3) v3 0),(8,.ptr (nx+4) v4 0),(9,.ptr (nx+5) v5 0)] (λ_=>S)
  (λ(b,found)=>[.cells v0 25 (zx x),.cells v1 39 [L d],.cells v2 100 [I s.c,I s.q],.cells v3 39 [yp],.cells v4 400 [I b.t,I b.p,I b.m],.cells v5 4 [B found]]) (⟨0,0,0⟩,false)
  hit rfl (by intro x hx;obtain⟨y,_,rfl⟩:=An.1 hx;rfl) (by decide) (by simp) (by simp) rfl (by simp) (by simp) ?_ ?_)
 ·rintro l i ⟨b,found⟩ more y hst hy;simp only at hst ⊢;rw[Aj]at hy;obtain⟨p,hp,rfl⟩:=Ap.1 hy;have hsucc:=ZbZ (f:=Z1) (b:=(⟨0,0,0⟩,false)) hp;rw[<-hst]at hsucc;unfold Z1 at hsucc;simp only at hsucc;refine zb ?_;intro v6;refine zj ?_;cases found with
  | false =>
   rw[if_pos (.inl rfl)]at hsucc;refine za (ze [(2,21)] zH ?_);refine zn rfl (zb ?_);simp only[jE];exact wN (p,true) [_] hsucc.symm rfl (by simp;rfl)
  | true =>
   by_cases hm:p.m<b.m
   ·rw[if_pos (.inr hm)]at hsucc;refine za (ze [(2,21)] (zo hm zH) ?_);refine zn rfl (zb ?_);simp only[jE];exact wN (p,true) [_] hsucc.symm rfl (by simp;rfl)
   ·rw[if_neg (by simp[hm])]at hsucc;refine za (ze [(2,21)] (zo hm zH) ?_);refine zm rfl (zh ?_);simp only[jE];exact wN (b,true) [_] hsucc.symm rfl (by simp;rfl)
 ·rintro⟨b,found⟩ hst;simp only[List.length_map,Ao]at hst ⊢;have hbz:vE xs=(b,found):=hst.symm;rw[hbz]at hmem ⊢;simp only at hmem ⊢;cases found with
  | false =>
   simp only[cond_false];refine za (zb ?_);refine zr (Zng d hdn (λl hl=>AB (hd1 l hl) (by decide))) ?_;refine za (zj (za (zb ?_)));refine zn rfl (za (zb ?_));exact zg (zi hd (by simp;rfl) (by simp[zp]))
  | true =>
   have hb:=hmem rfl;have hbl:=hle b hb;simp only[cond_true]
   by_cases hbt:b.t=d.length
   ·have hpd:jx d b s=d++[[s]]:=by unfold jx;rw[if_pos hbt]
    rw[hpd];have hfl:(d.flatMap Enc.enc:List PV).length=d.length:=jT d;have htk:(d.flatMap Enc.enc:List PV).take d.length=d.flatMap Enc.enc:=Af (by omega);have hsn:((d++[[s]]).flatMap Enc.enc:List PV)=d.flatMap Enc.enc++[L [s]]:=by rw[Av];rfl
    refine za (zb ?_);refine λhsuf=>((ZnI d hdn (λl hl=>AB (hd1 l hl) (by decide)) _ _ jF).mono ?_).v
    rintro _ _ ⟨v7,rfl,rfl⟩;refine⟨_,_,JT 3 _,jH [] Nat.add_assoc hsuf ?_⟩;generalize hds:(d.flatMap Enc.enc:List PV)=ds at *;refine za (zj (za (zb ?_)));refine zm rfl (za (zb ?_));refine zn (by simp;omega) ?_;refine zz (some [nx+2]) (Row.pures [0,2,3,4] (.alt 1 (.alt 5 (Row.pures [6] (.alt 7 (.done) .stop)) .stop) .stop)) mixed (zo hfl htk) ?_;refine zJ (Zbr s) (zo hfl htk) ?_;refine⟨by omega,?_⟩;refine yb 9 rfl ?_;refine za (zb ?_);exact zg (zi hd (by simp;rfl) (by simp[zp,hfl,hds]))
   ·obtain⟨l,hl,hl0,hp⟩:=htour b hb hbt;have hblt:b.t<d.length:=by omega
    have hpd:jx d b s=d.set b.t (jU l b.p s):=by unfold jx;rw[if_neg hbt,Aa,hl];rfl
    have hl1:=hd1 l (Ab hl);rw[hpd];refine za (zb ?_);refine λhsuf=>((Znh d b.t l hdn (λl hl=>AB (hd1 l hl) (by decide)) hl hl0 _ _ jF).mono ?_).v
    rintro _ _ ⟨v7,w7,rfl,rfl⟩;refine⟨_,_,ZnH _ _ rfl,jH [] Nat.add_assoc hsuf ?_⟩;refine za (zj (za (zb ?_)));refine zm rfl (za (zb ?_));refine zm (by simp;omega) ?_;refine za (ze [] hblt ?_);refine zz (some [nx+4,nx+2]) (Row.pures [0,1,2,3,5,6,7,8] (.alt 4 (.alt 9 (Row.pures [10,11] (.alt 12 (.done) .stop)) .stop) .stop)) mixed hblt ?_
    skip
    refine((Znd l b.p s hp hl1 (by simp)).mono ?_).v;rintro _ _ ⟨rfl,rfl⟩;have hcl:((jU l b.p s).flatMap Enc.enc:List PV).length=(l.length+1)*2:=by
     have e:=(Wj l s b.p).length_eq;rw[Y9,e];simp
    have hLi:L (jU l b.p s)=.lst (l.length+1) ((jU l b.p s).flatMap Enc.enc):=by
     have e:=(Wj l s b.p).length_eq
     show PV.lst _ _=_
     rw[e];rfl
    rw[show l.take b.p++s :: l.drop b.p=jU l b.p s from rfl];generalize hcs:((jU l b.p s).flatMap Enc.enc:List PV)=cs at *;rw[yg _ (by omega) (by simp),AG];refine⟨by simp[yE],js hblt ?_⟩;refine⟨by omega,?_⟩;rw[ZnJ _ _ _ _ (by rw[jT];exact hblt)];have e10:qi (nx+10) (w7+1) cs (.sl (nx+10) (w7+1) 2 0 (l.length+1))=L (jU l b.p s):=by
     rw[ZfX _ _ _ _ _ hcl.symm,hLi]
    have e9:qi (nx+9) v7 ((d.set b.t (jU l b.p s)).flatMap Enc.enc) (.sl (nx+9) v7 1 0 d.length)=L (d.set b.t (jU l b.p s)):=by
     rw[ZfX _ _ _ _ _ (by rw[jT];simp)]
     show _=PV.lst _ _
     rw[Bz]
    have n9:qi (nx+10) (w7+1) cs (.sl (nx+9) v7 1 0 d.length)=.sl (nx+9) v7 1 0 d.length:=by
     simp only[qi];rw[if_neg (by omega)]
    refine yb 10 rfl ?_;simp only[Ax,Be,AW,Ba,xD,ZnG,e10,ZfW,n9];refine yb 9 rfl ?_;simp only[Ax,Be,AW,Ba,xD,e9];refine za (ze [] (zo e9 n9) ?_);exact zg (zi hd (by simp;rfl) (by simp[zp]))
open Go Go.Proofs
theorem ZfY{α:Type}(f:Nat->List α)(m:Nat):∀n,(∀t,t<n->(f t).length<=m)->((List.range n).flatMap f).length<=n*m
 | 0,_=>by simp
 | n+1,h=>by
  rw[AO,Av,Ar];have h1:=ZfY f m n λt ht=>h t (by omega)
  have h2:=h n (by omega);simp only[AA,Ck,AF];rw[Nat.add_mul,DW];omega
theorem ZnM{d:zk}(h1:d.length<=1000000)(h2:d.flatten.length<=1000000):(Qg d).length<=1000001*1000001:=by
 unfold Qg;refine AB (ZfY _ 1000001 _ λt _=>?_) (Ch _ (by omega));rw[List.length_map,List.length_range,Aa];cases hq:d[t]? with
 | none=>simp
 | some l =>
  have:=(YD (Ab hq)).length_le;simp only[Option.getD_some];omega
theorem ZnN{x:Inst}{d:zk}{s:Stop}(hd:yr x d=0)(h1:d.length<=1000000)(h2:d.flatten.length<=1000000):(yT x d s).length<=1000001*1000001:=by
 rw[Znv hd];exact AB (Cq _ _) (ZnM h1 h2)
theorem ZnO(cs:List PV)(v:PV)(h:0<cs.length):yc cs (cs.length-1) [v]=cs.set (cs.length-1) v:=by
 unfold yc;rw[AH,if_pos (by omega)];simp
theorem ZfZ:∀(l:List Int) (k:Nat) (v:Int),(l.flatMap Enc.enc:List PV).set k (I v)=(l.set k v).flatMap Enc.enc
 | [],k,v=>rfl
 | a :: l,0,v=>rfl
 | a :: l,k+1,v=>by
  rw[AW,AA,AA,<-ZfZ l k v];rfl
theorem ZnP(st:List Int × Int)(p:Spot):(wC st p).1.length<=st.1.length+1:=by
 unfold wC;split<;>simp
def Zb1(st:List Int × Int):Prop:=st.2=-1\/0<st.1.length
theorem ZnQ{st:List Int × Int}(h:Zb1 st)(p:Spot):Zb1 (wC st p):=by
 unfold wC;split
 ·exact .inr (by simp)
 ·rename_i e;rcases h with h | h
  ·exfalso;simp only[ne_eq]at e;omega
  ·exact .inr (by simpa using h)
theorem ZnR(x:Inst)(d:zk)(s:Stop)(hx:x.cust.length<=1048576)(hdo:DayOk d)(h0:yr x d=0)(h1:d.length<=1000000)(h2:d.flatten.length<=1000000):Pure prog 351 [.agg (Zm x d),.agg [I s.c,I s.q]] (L (J5 x d s)):=by
 have hit:=ZfU x d s hx hdo (by omega);have hfold:=ZnA (s:=s) h0;have hlen:=ZnN (s:=s) h0 h1 h2;have hml:=ZnB x d s (d.length+1);have hsF:=Zfn (Zm x d) s rfl;unfold J5;rw[<-hfold]at hml ⊢;clear hfold;generalize yT x d s=xs at *;obtain⟨on,tw,fs,bd,ls,ws,hlk⟩:∃on tw fs bd ls ws,Zm x d=uA x d on tw fs bd ls ws:=⟨_,_,_,_,_,_,rfl⟩;rw[hlk]at hit hsF ⊢;clear hlk;refine zt Tryz.func351 Tryz.ntmps351 Tryz.results351 λS nx hd=>?_
 refine za (zb ?_);intro v0 v1;refine za (zb ?_);intro v2;refine za (zb ?_);intro v3
 repeat apply za
 refine zb ?_;refine zr hsF ?_;refine jg 2 0 3 1 rfl rfl λv4=>?_
 refine zj (JR (xs:=xs.map Zn) (σ:=(List Int × Int) × Nat) (λi st=>st.1=(xs.take i).foldl wC ([],-1)/\Zb1 st.1/\st.1.1.length<=i/\i<=xs.length) [(2,.ptr nx v0 0),(3,.ptr (nx+1) v1 0),(5,.ptr (nx+2) v2 0),(6,.ptr (nx+3) v3 0)] (λ_=>S)
  (λ((l,last),v4)=>[.cells v0 395 (uA x d on tw fs bd ls ws),.cells v1 100 [I s.c,I s.q],.cells v2 26 [.sl (nx+4) v4 1 0 l.length],.cells v3 3 [I last],.cells v4 3 (l.flatMap Enc.enc)]) (([],-1),v4)
  hit rfl (by intro x hx;obtain⟨y,_,rfl⟩:=An.1 hx;rfl) (by decide) (by simp) ⟨rfl,.inl rfl,by simp,by simp⟩ rfl (by simp) (by simp) ?_ ?_)
 ·rintro lp i ⟨⟨l,last⟩,v4⟩ more y ⟨hst,hok,hli,hi⟩ hy;simp only at hst hok hli hi ⊢;rw[Aj]at hy;obtain⟨p,hp,rfl⟩:=Ap.1 hy;have hsucc:=ZbZ (f:=wC) (b:=([],-1)) hp;rw[<-hst]at hsucc;have hok2:=ZnQ hok p;have hln2:=ZnP (l,last) p;simp only at hln2;have hil:=(Ac.1 hp).1;have hdef:wC (l,last) p=wC (l,last) p:=rfl
  conv at hdef=>rhs;unfold wC
  simp only at hdef;have hlf:(l.flatMap Enc.enc:List PV).length=l.length:=jG l;have hlt:(l.flatMap Enc.enc:List PV).take l.length=l.flatMap Enc.enc:=Af (by omega);refine zb ?_;intro v5;refine zj ?_
  repeat apply za
  refine zb ?_
  by_cases hpl:(p.t:Int)=last
  ·have hl0:0<l.length:=by
    rcases hok with e | e
    ·simp only at e;omega
    ·exact e
   obtain⟨m,hm⟩:∃m,l.length=m+1:=⟨l.length-1,by omega⟩;obtain⟨z,tz,z1,z2,z3,z0⟩:=zF rfl l m (by omega);rw[if_neg (by simp[hpl])]at hdef;have hgz:l.getD (l.length-1) 0=z:=by rw[hm,Cc,Aa,z1];rfl
   rw[hgz]at hdef;have wm:IntKind.i64.wrap ((l.length:Int)-1)=(m:Int):=by rw[wr _ (by omega) (by omega)];omega
   have hml1:m<l.length:=by omega
   have hml2:1<=l.length-m:=by omega
   have hsp:=ZnO (l.flatMap Enc.enc) (I (if p.m<z then p.m else z)) (by omega);rw[hlf,ZfZ]at hsp;have hmin:jR z p.m=if p.m<z then p.m else z:=rfl
   refine zm (by simp[hpl]) ?_;refine zh ?_;rw[show l.length-1=m by omega]at hsp;refine zz (some [nx+2,nx+(more.length+5)]) (Row.pures [0,1,2,3,4,5,6,7,8,10,11] (.alt 9 (Row.pures [12,13] (.alt 14 (.done) .stop)) .stop)) mixed (yl wm hml1 hml2 z0 hmin hlf) ?_;refine⟨by omega,?_⟩;simp only[jE];rw[hm,Cc]at hdef;rw[hdef]at hsucc hok2;refine wN ((l.set m (if p.m<z then p.m else z),last),v4) [_] ⟨hsucc.symm,hok2,by simp;omega,by omega⟩ rfl (by simp[hsp];rfl)
  ·rw[if_pos hpl]at hdef;rw[hdef]at hsucc hok2 hln2;have w0:IntKind.i64.wrap (l.length:Int)=(l.length:Int):=wr _ (by omega) (by omega);have w2:(l.length:Int)<(l.length:Int)+1:=by omega
   have hmin:jR p.m p.m=p.m:=by unfold jR;split<;>rfl
   have hat:(l.flatMap Enc.enc++[I p.m]:List PV)[l.length]?=some (I p.m):=by rw[Ak (by omega),hlf,Bw];rfl
   have hdl:(l.flatMap Enc.enc++[I p.m]:List PV).drop l.length=[I p.m]:=by rw[<-hlf,DR]
   have hspl:yc (l.flatMap Enc.enc++[I p.m]:List PV) l.length [I p.m]=l.flatMap Enc.enc++[I p.m]:=by
    unfold yc;rw[<-hlf,Dm,Bg (by simp)];simp
   refine zn (by simp[hpl]) ?_;refine zz (some [nx+(more.length+5)]) (Row.pures [1,2,3,5,6] (.alt 0 (.alt 4 (.alt 7 (.alt 8 (.done) .stop) .stop) .stop) .stop)) mixed (zo hlf hlt) ?_;refine⟨by omega,?_⟩;refine zz (some [nx+2,nx+(more.length+5)]) (Row.pures [0,1,2,3,4,5,6,7,8,10,11] (.alt 9 (Row.pures [12,13] (.alt 14 (.done) .stop)) .stop)) mixed (yG w0 w2 hmin hat hlf) ?_;simp only[jE];refine wN ((l++[p.m],(p.t:Int)),v4+1) [_] ⟨hsucc.symm,hok2,by simp;omega,by omega⟩ rfl (by simp[hspl];rfl)
 ·rintro⟨⟨l,last⟩,v4⟩ ⟨hst,-⟩;simp only[List.length_map,Ao]at hst ⊢;rw[<-hst]at hml ⊢;simp only at hml ⊢;have hz4:=Qa l;refine za (zb ?_);refine λhsuf=>((VI l (by simp) (by omega)).mono ?_).v
  rintro _ _ rfl;refine⟨_,_,yg _ (by omega) (by simp),jH [] (show nx+4-nx=4 by omega) hsuf ?_⟩;generalize yR l=c at *;rw[<-hz4];refine yb 4 rfl ?_;refine za (zb ?_);exact zg (zi hd (by simp;rfl) rfl)
open Go Go.Proofs Go.Shelf Go.RowKit Go.Lib
theorem ZnS{P:Program}(b o:Nat)(vs:List Value)(w:World)(cur:Array Value)(t:TypeId)(hw:w.heap[b]?=some (.cells cur t (0,0)))(hl:o+vs.length<=cur.size)(h1:∀v∈vs,v.oneCell'=true):
  w.setCells b o vs=w.setRow b (cur.toList.take o++vs++cur.toList.drop (o+vs.length)).toArray:=by
 have a:=run_storeCells_cells (P:=P) b o vs 0 w (λj hj=>by simp[World.cell?,hw];omega) (λj _=>by simp[World.frozen?,hw]) h1;have c:=run_storeCells_at (P:=P) b o t vs 0 cur w hw (by simpa using hl) h1;rw[a]at c;simpa using c
theorem ZnT(zc:Array Value):(Builtin.zeroCells zc 1).toList=zc.toList:=by
 apply Bb
 ·simp[Builtin.zeroCells]
 ·intro i h1 h2;simp[Builtin.zeroCells,Dz (show i<zc.size by simpa using h2)];exact getElem!_pos zc i (by simpa using h2)
theorem ZnU{P:Program}(w:World)(t e ty:TypeId)(zc:Array Value)(ht:P.underlying t=some (.slice e))(hv:∀w,(zeroValue e).run P w=.ok (.agg zc) w)(h1:∀v∈zc.toList,v.oneCell'=true)(b o c:Nat)(cur:Array Value)(t':TypeId)(hw:w.heap[b]?=some (.cells cur t' (0,0)))(hl:o+zc.size<=cur.size):
  (Builtin.clear_ #[t] ty #[.slice (some ⟨b,o,none⟩) 1 c]).run P w=.ok (.tuple #[]) (w.setRow b (cur.toList.take o++zc.toList++cur.toList.drop (o+zc.size)).toArray):=by
 have c:=run_storeCells_at (P:=P) b o t' zc.toList 0 cur w hw (by simpa using hl) h1;simp only[Bm,Array.length_toList]at c;simp[Builtin.clear_,run_underlying ht,hv,ZnT,c]
theorem ZnV(b n c i:Nat)(V:List Value)(w:World)(i0:TypeInfo)(hi0:prog.info? 100=some i0)(hzs:i0.size=2)(cur:Array Value)(hcur:w.heap[b]?=some (.cells cur 100 (0,0)))(hcc:cur.size=c*2)
  (hi:i<n) (hnc:n<=c) (hc63:c<=9223372036854775807) (hn:n<=1048576) (hV:V.length=n*2) (hcV:cur.toList.take (n*2)=V) (h1:∀v∈V,v.oneCell'=true) (R1 R2:Array Value)
  (hR1:R1=(cur.toList.take (i*2)++V.drop ((i+1)*2)++cur.toList.drop (i*2+(V.drop ((i+1)*2)).length)).toArray) (hR2:R2=(R1.toList.take ((i+(n-(i+1)))*2)++([.int .i64 0,.int .i64 0]:List Value)++R1.toList.drop ((i+(n-(i+1)))*2+2)).toArray) :
  Calls prog 335 #[.slice (some ⟨b,0,none⟩) n c,.int .i64 i,.int .i64 ((i:Int)+1)] w λe w' =>
   e=.returned (.slice (some ⟨b,0,none⟩) (i+(n-(i+1))) c)/\w'=(w.drew.setRow b R1).setRow b R2:=by
 obtain⟨news,hnews⟩:∃news,news=V.drop ((i+1)*2):=⟨_,rfl⟩;have hlen:news.length=(n-(i+1))*2:=by rw[hnews,Bt,hV];omega
 have hget:∀t u,news[t]?=some u->w.drew.cell? ⟨b,(i+1)*2+t,none⟩=some u:=by
  intro t u hu;rw[hnews,AM,<-hcV,BL]at hu;split at hu
  ·rw[Array.getElem?_toList]at hu
   show w.cell? _=_
   simp[World.cell?,hcur,hu]
  ·cases hu
 obtain⟨A,hA,hsrc⟩:∃A:Addr,(if c=i+1 then some (⟨b,0,none⟩:Addr) else some ⟨b,(i+1)*2,none⟩)=some A/\Hid (∀t u,news[t]?=some u->w.drew.cell? (A.add t)=some u):=by
  by_cases h:c=i+1
  ·refine⟨⟨b,0,none⟩,by simp[h],λt u hu=>?_⟩;have h0:news.length=0:=by rw[hlen];omega
   rw[BJ.1 h0]at hu;simp at hu
  ·refine⟨⟨b,(i+1)*2,none⟩,by simp[h],λt u hu=>?_⟩;rw[Addr.add_lit];exact hget t u hu
 have s1:Hid (news.length=(n-(i+1))*2):=hlen;have s2:Hid (∀u∈news,u.oneCell'=true):=λu hu=>h1 u (by rw[hnews]at hu;exact Cm hu)
 have s3:Hid (∀t,t<news.length->(w.drew.cell? ⟨b,0+i*2+t,none⟩).isSome=true/\w.drew.frozen? ⟨b,0+i*2+t,none⟩=false):=by
  intro t ht;rw[hlen]at ht;refine⟨?_,?_⟩
  ·show (w.cell? _).isSome=true
   simp[World.cell?,hcur];omega
  ·show w.frozen? _=false
   simp[World.frozen?,hcur]
 obtain⟨W1,hW1⟩:∃W1,W1=w.drew.setCells b (0+i*2) news:=⟨_,rfl⟩;have hW1':W1=w.drew.setRow b R1:=by
  rw[hW1,ZnS (P:=prog) b (0+i*2) news w.drew cur 100 hcur (by rw[hlen,hcc];omega) s2,hR1,hnews,AR]
 have hW1h:W1.heap[b]?=some (.cells R1 100 (0,0)):=by rw[hW1'];exact setRow_heap _ _ _ _ _ _ hcur
 have hR1s:R1.size=c*2:=by rw[hR1,<-hnews];simp[hlen];omega
 have hcl:∀ty,(Builtin.clear_ #[40] ty #[.slice (some ⟨b,(i+(n-(i+1)))*2,none⟩) (n-(i+(n-(i+1)))) (c-(i+(n-(i+1))))]).run prog W1=.ok (.tuple #[]) (W1.setRow b R2):=λty=>by
  have:=ZnU (P:=prog) W1 40 100 ty #[.int .i64 0,.int .i64 0] Tryz.underlying40 Tryz.zeroValue100 (by intro v hv;simp at hv;rcases hv with rfl | rfl<;>rfl) b ((i+(n-(i+1)))*2) (c-(i+(n-(i+1)))) R1 100 hW1h (by simp;omega);rw[show n-(i+(n-(i+1)))=1 by omega,this,hR2];simp
 have hW:Hid (W1=w.drew.setCells b (0+i*2) news):=hW1;have hX:Hid (W1=w.drew.setRow b R1):=hW1';clear hW1 hW1' hW1h hR1 hR2 hR1s hcur hcV hget hnews hlen h1 hV hcc;have hic:i<=c:=by omega
 have hjc:i+1<=c:=by omega
 have hin:i<=n:=by omega
 have hjn:i+1<=n:=by omega
 have hne:¬(i:Int)=(i:Int)+1:=by omega
 have hb1:(0:Int)<=(i:Int)+1:=by omega
 have htn:((i:Int)+1).toNat=i+1:=by omega
 have hb2:(i:Int)+1<=(n:Int):=by omega
 have hb3:(i:Int)<=(i:Int)+1:=by omega
 have hcn:¬c=i+(n-(i+1)):=by omega
 have hnn:i+(n-(i+1))<=n:=by omega
 have mixed:prog.follows .mixedOrders=true:=by kernel_rfl
 go_enter Tryz.func335,Tryz.ntmps335
 go_wp2_with fail
 go_region_law_o (refine step_append_room rfl (.tmp 22) (.tmp 25) 40 rfl 100 i0 2 Tryz.underlying40 hi0 hzs b 0 i c (by simp[Act.eval,Act.put]) A (n-(i+1)) (c-(i+1)) news (by simp[Act.eval,Act.put]) s1.out hsrc.out s2.out (by omega) s3.out ?_;rw[<-hW.out])
 go_wp2
 go_ret
 exact⟨rfl,by rw[hX.out]⟩
theorem ZnW(l:List Stop)(i:Nat)(h:i<l.length):yn (l.eraseIdx i)=(yn l).take (i*2)++(yn l).drop ((i+1)*2):=by
 rw[CY,VJ,ZeJ l i (by omega),ZeK l (i+1) (by omega)]
theorem ZnX{S:Store}{id ver:Nat}(cs:List Stop)(i:Nat)(hi:i<cs.length)(hn:cs.length<=1000000)(hid:S id=.cells ver 100 (cs.flatMap Enc.enc)):
  Spec prog 335 [.sl id ver 2 0 cs.length,I i,I ((i:Int)+1)] S (λp S'=>p=.sl id (ver+1) 2 0 (cs.eraseIdx i).length/\S'=S.set id (.cells (ver+1) 100 ((cs.eraseIdx i).flatMap Enc.enc))):=by
 refine⟨qh Tryz.func335 (by rfl) rfl,?_⟩;intro C w vs hS hl hr;obtain⟨u,v,x,rfl⟩:=ZeL hl;obtain rfl:=QW (hr 1 _ v rfl rfl);obtain rfl:=QW (hr 2 _ x rfl rfl);have hu:=hr 0 _ u rfl rfl;have hvl:(yn cs).length=cs.length*2:=JX cs;have hel:(cs.eraseIdx i).length=i+(cs.length-(i+1)):=by rw[BZ hi];omega
 have hnew:=ZnW cs i hi;have hnl:(yn (cs.eraseIdx i)).length=(i+(cs.length-(i+1)))*2:=by rw[JX,hel]
 rw[ZeI]at hid ⊢;rw[hel];generalize cs.eraseIdx i=es at *;obtain⟨i0,hi0⟩:=Ca.1 Zbg;have hc:=Zbf;simp only[Program.cellsOf,hi0,A3,Option.getD_some]at hc;cases hu with
 | sl h1 h2 h3 =>
  obtain⟨ad,cap,rfl,q1,q2,q3,q4⟩:=h1;have hloc:=(h3 ver (by rw[hid];rfl)).2 rfl;rcases hS.cells id ver _ _ hid with ⟨hno,hnil⟩ | ⟨b,k,c,g1,g2,g3,g4,g5,g6⟩
  ·have:=congrArg List.length hnil;simp[hvl]at this;exfalso;omega
  rcases hloc with ⟨z1,_⟩ | ⟨b',k',ad',cap',z1,z2,z3,z4⟩
  ·rw[g1]at z1;cases z1
  rw[g1]at z1;cases z1;cases z2;obtain⟨rfl,hcap⟩:=z3 rfl;rw[List.length_map,hvl]at g4;have hcells:∀(j:Nat) v,(yn cs)[j]?=some v->c[j]?=some v:=by
   intro j v hj;have hjl:=(Ac.1 hj).1;have e2:c[j]?=some c[j]:=AL (by omega);have:=g6 j (.sc v) _ (by rw[Aj,hj];rfl) e2;rw[e2];generalize c[j]=y at this;cases this;rfl
  have hcur:c.toList.take (cs.length*2)=yn cs:=by
   apply A7;intro j
   by_cases hj:j<cs.length*2
   ·rw[AE hj,Array.getElem?_toList];have e:(yn cs)[j]?=some (yn cs)[j]:=Ad (by omega);rw[e,hcells j _ e]
   ·rw[Ai (by simp;omega),Ai (by omega)]
  have hcsz:c.size=cap*2:=g3.trans hcap.symm;have hdl:((yn cs).drop ((i+1)*2)).length=(cs.length-(i+1))*2:=by rw[Bt,hvl];omega
  obtain⟨R1,hR1⟩:∃R1:Array Value,R1=(c.toList.take (i*2)++(yn cs).drop ((i+1)*2)++c.toList.drop (i*2+((yn cs).drop ((i+1)*2)).length)).toArray:=⟨_,rfl⟩;obtain⟨R2,hR2⟩:∃R2:Array Value,R2=(R1.toList.take ((i+(cs.length-(i+1)))*2)++([.int .i64 0,.int .i64 0]:List Value)++R1.toList.drop ((i+(cs.length-(i+1)))*2+2)).toArray:=⟨_,rfl⟩;have htk:c.toList.take (i*2)=(yn cs).take (i*2):=by rw[<-hcur,DT,Bc (by omega)]
  have hR1l:R1.toList.take ((i+(cs.length-(i+1)))*2)=yn es:=by
   rw[hR1];simp only[];rw[htk,<-hnew,<-hnl,Dm]
  have hR1s:R1.size=cap*2:=by rw[hR1];simp[hdl];omega
  have hR2l:R2.toList=yn es++(([.int .i64 0,.int .i64 0]:List Value)++R1.toList.drop ((i+(cs.length-(i+1)))*2+2)):=by
   rw[hR2,hR1l];simp
  have hR2s:R2.size=cap*2:=by
   rw[<-Array.length_toList,hR2l];simp[hnl,hR1s];omega
  refine(ZnV b cs.length cap i (yn cs) w i0 hi0 hc c g2 hcsz hi q1 (by unfold maxLen at q3;omega) (by omega) hvl hcur (JY cs) R1 R2 hR1 hR2).mono ?_;rintro e w' ⟨rfl,rfl⟩;obtain⟨r1,r2⟩:=Zbo (C:=C) (S:=S) (w:=w) hR2l (JY _);have hb1:=setRow_heap w.drew b c R1 _ _ g2;obtain⟨t1,t2⟩:=hS.turn (l:=some (b,cap*2)) (ver':=ver+1) (cs':=(yn es).map .sc) hid (by omega) (λh=>absurd h (by omega)) (w':=(w.drew.setRow b R1).setRow b R2)
   (by
    rw[g1];refine⟨⟨rfl,rfl,rfl,by simp[World.setRow],λj hj hne=>?_⟩,CW _⟩;have hjb:j≠b:=λe=>hne (by rw[e];rfl)
    rw[setRow_other _ _ _ _ hjb,setRow_other _ _ _ _ hjb];rfl)
   (.inr ⟨b,cap*2,R2,rfl,.inr (by rw[g1];rfl),setRow_heap _ _ _ _ _ _ hb1,hR2s,by rw[List.length_map,hnl];omega,r1,r2⟩)
  refine⟨_,_,_,_,rfl,⟨rfl,rfl⟩,?_,t1,t2⟩;refine .sl ⟨_,_,rfl,by omega,by unfold jq;omega,q3,λ_=>⟨_,_,rfl⟩⟩ ⟨h2.1,by simp only[Ctx.at];omega⟩ λv0 hv0=>?_
  rw[q11]at hv0;cases hv0;exact⟨Ag _,λ_=>.inr ⟨b,_,_,_,by simp[Ctx.at],rfl,λ_=>⟨rfl,rfl⟩,λ_=>rfl⟩⟩
open Go Go.Proofs
def Q9(c:Int)(l:List Stop):Int:=((l.filter λs=>decide (s.c=c)).map (·.q)).sum
theorem ZnY(c:Int)(d:zk):ZfD c d=W (Q9 c d.flatten):=rfl
theorem ZnZ(c:Int)(l:List Stop)(s:Stop):Q9 c (l++[s])=Q9 c l+if s.c=c then s.q else 0:=by
 unfold Q9;rw[BU,List.map_append,De]
 by_cases h:s.c=c<;>simp[h]
theorem Zn0(c:Int)(l:List Stop)(s:Stop):xO c (l++[s])=xO c l++if s.c=c then [] else [s]:=by
 unfold xO;rw[BU]
 by_cases h:s.c=c<;>simp[h]
theorem Zn1(c:Int)(d:zk)(t:zK):j8 c (d++[t])=j8 c d++if (xO c t).length=0 then [] else [xO c t]:=by
 rw[Znr];congr 1;unfold j8;rw[Ax,Be];generalize xO c t=u;cases u<;>simp
theorem Zb2(c:Int)(t:zK):(xO c t).length<=t.length:=By _ _
theorem Zf0(c:Int)(d:zk):(j8 c d).length<=d.length:=by
 unfold j8;exact AB (By _ _) (by simp)
theorem Zn2(d:zk)(c:Int)(hdn:d.length<=1048576)(hdt:∀t∈d,t.length<=1048576):Pure prog 321 [.agg [L d],I c] (.tup [.agg [L (j8 c d)],I (ZfD c d)]):=by
 rw[ZnY];refine zt Tryz.func321 Tryz.ntmps321 Tryz.results321 λS nx hd=>?_
 refine za (zb ?_);intro v0 v1;refine za (zb ?_);intro v2;refine jg 2 0 42 1 rfl rfl λv3=>?_
 refine za (zb ?_)
 repeat apply za
 refine zb ?_;refine zj (zD (λ(s:Nat × Nat)=>s.1<=d.length) (λ(k,v3)=>[(1,I c),(4,.ptr (nx+1) v1 0),(6,.ptr (nx+2) v2 0),(7,I (W (Q9 c (d.take k).flatten))),(14,L d),(15,I d.length),(16,I k)]) (λ(k,v3)=>[.cells v0 39 [L d],.cells v1 39 [yp],.cells v2 39 [.sl (nx+3) v3 1 0 (j8 c (d.take k)).length],.cells v3 42 ((j8 c (d.take k)).flatMap Enc.enc)]) (λs=>d.length-s.1) (0,v3) [] (by simp) (by simp[Q9]) (by simp[j8]) ?_);rintro⟨k,v3⟩ hk;simp only at hk ⊢;refine za (zb ?_);refine za (zv rfl (λhc=>?_) (λhc=>?_))
 ·simp at hc;obtain⟨t,tl,a1,a2,a3,e0⟩:=zF rfl d k hc;have hk1:1<=d.length-k:=by omega
  have htm:=Ab a1;have htn:=hdt t htm;have hrd:=Zn1 c (d.take k) t;rw[<-a3]at hrd;have hfl:(d.take (k+1)).flatten=(d.take k).flatten++t:=by rw[a3,List.flatten_append];simp
  generalize (d.take k).flatten=pre at *;have hrl:(j8 c (d.take k)).length<=1048576:=AB (Zf0 _ _) (by rw[Ay];omega);refine zh (za (zj ?_));generalize hrk:j8 c (d.take k)=rk at *;have hfz:∀id v cs,(rk.flatMap Enc.enc).map (qi id v cs)=(rk.flatMap Enc.enc:List PV):=λid v cs=>ZfV id v cs rk
  have hrf:(rk.flatMap Enc.enc:List PV).length=rk.length:=jT rk;have hrt:(rk.flatMap Enc.enc:List PV).take rk.length=rk.flatMap Enc.enc:=Af (by omega);refine za (ze [] (zE hc e0 hk1) ?_);intro v4;refine za (zb ?_);refine jf 10 100 2 rfl λv5=>?_
  repeat apply za
  refine zb ?_;refine zj (zD (λ(s:Nat × Nat)=>s.1<=t.length) (λ(j,v5)=>[(1,I c),(4,.ptr (nx+1) v1 0),(6,.ptr (nx+2) v2 0),(7,I (W (Q9 c (pre++t.take j)))),(10,.sl (nx+5) v5 2 0 (xO c (t.take j)).length),(14,L d),(15,I d.length),(16,I k),(21,L t),(22,I t.length),(23,I j)]) (λ(j,v5)=>[.cells v0 39 [L d],.cells v1 39 [yp],.cells v2 39 [.sl (nx+3) v3 1 0 rk.length],.cells v3 42 (rk.flatMap Enc.enc),.cells v4 42 [L t],.cells v5 100 ((xO c (t.take j)).flatMap Enc.enc)]) (λs=>t.length-s.1) (0,v5) [] (by simp) (by simp[xO]) (by simp[xO]) ?_);rintro⟨j,v5⟩ hj;simp only at hj ⊢;refine za (zb ?_);refine za (zv rfl (λhcj=>?_) (λhcj=>?_))
  ·simp at hcj;obtain⟨s,ts,b1,b2,b3,b4,b5⟩:=el 2 rfl t j hcj;have hj2:2<=t.length*2-j*2:=by omega
   have hsum:=ZnZ c (pre++t.take j) s;rw[List.append_assoc,<-b3]at hsum;have hrs:=Zn0 c (t.take j) s;rw[<-b3]at hrs;have hul:(xO c (t.take j)).length<=1048576:=AB (Zb2 _ _) (by rw[Ay];omega);generalize xO c (t.take j)=u at *;have huf:(u.flatMap Enc.enc:List PV).length=u.length*2:=Y9 u;have hut:(u.flatMap Enc.enc:List PV).take (u.length*2)=u.flatMap Enc.enc:=Af (by omega);refine zh (za (zj (za (ze [] (zE hcj b5 hj2) ?_))));intro v6;refine za (zb ?_);refine zv rfl (λhq=>?_) (λhq=>?_)
   ·simp at hq;rw[if_pos hq]at hsum hrs;rw[AF]at hrs;refine zb ?_;refine zb ?_;exact zq (j+1,v5) [_] (by simp;omega) (by simp;omega) (by simp[zu j (by omega),hsum,Zi,hrs]) rfl (by simp[hrs];rfl)
   ·simp at hq;rw[if_neg hq]at hsum hrs;rw[Int.add_zero]at hsum;have hul':((xO c (t.take (j+1))).flatMap Enc.enc:List PV)=u.flatMap Enc.enc++[I s.c,I s.q]:=by rw[hrs,Av];rfl
    refine ze [] (zo huf hut) ?_;refine⟨by omega,?_⟩;refine zb ?_;exact zq (j+1,v5+1) [_] (by simp;omega) (by simp;omega) (by simp[zu j (by omega),hsum,hrs]) rfl (by simp[hul'];rfl)
  ·simp at hcj;obtain rfl:j=t.length:=by omega
   refine zy ?_;rw[Ao];have hul:(xO c t).length<=1048576:=AB (Zb2 _ _) htn;generalize xO c t=u at *;have huf:(u.flatMap Enc.enc:List PV).length=u.length*2:=Y9 u;refine yb 5 rfl ?_;simp only[Ax,Be,AW,Ba,xD,hfz];refine za (zb ?_);refine zv rfl (λhq=>?_) (λhq=>?_)
   ·simp at hq;rw[if_neg (by omega)]at hrd;have hrl':((rk++[u]).flatMap Enc.enc:List PV)=rk.flatMap Enc.enc++[L u]:=by rw[Av];rfl
    refine ze [] (zo hrf hrt) ?_;refine⟨by omega,?_⟩;refine zb ?_;exact zq (k+1,v3+1) [_,_] (by simp;omega) (by simp;omega) (by simp[zu k (by omega),hfl]) rfl (by simp[hrd,hrl'];exact⟨rfl,rfl⟩)
   ·simp at hq;rw[if_pos (by rw[hq];rfl),AF]at hrd;refine zh (zb ?_);exact zq (k+1,v3) [_,_] (by simp;omega) (by simp;omega) (by simp[zu k (by omega),hfl]) rfl (by simp[hrd];exact⟨rfl,rfl⟩)
 ·simp at hc;obtain rfl:k=d.length:=by omega
  refine zy (yb 3 rfl ?_);have g1:d.take d.length=d:=Ao;refine za (zb ?_);exact zg (zi hd (by simp;rfl) (by simp[zp,g1]))
open Go Hp
theorem Zn3{x:Inst}(h:∀row∈x.dist,∀d∈row,0<=d/\d<=2147483648):qU x:=by
 intro a b;unfold arc;split
 ·omega
 ·rw[Aa,Aa];cases hr:x.dist[a.toNat]? with
  | none=>simp
  | some row =>
   simp only[Option.getD_some];cases hd:row[b.toNat]? with
   | none=>simp
   | some d=>exact h row (Ab hr) d (Ab hd)
open Go Go.Proofs
theorem Zf1{x:Inst}{d:zk}{s:Stop}(hx:x.cust.length<=1048576)(hdo:DayOk d)(hd1:d.length<=1000000)(hf:d.flatten.length<=1000000):DayOk (yL x d s).1:=by
 unfold yL;cases hb:(vE (yT x d s)).2 with
 | false=>exact hdo
 | true =>
  have hm:=VV hb;have hp:=ZbS hm;have hs:=ZfT hx (Wh hm).1;simp only[cond_true];have hfl:(jx d (vE (yT x d s)).1 s).flatten.length<=1000001:=by rw[hp.length_eq,Ae];omega
  refine⟨?_,λt ht=>?_,λt ht a ha=>?_⟩
  ·unfold jx;split
   ·simp;omega
   ·simp;omega
  ·have:=(YD ht).length_le;omega
  ·have:=hp.subset ((YD ht).subset ha);rw[Aq]at this;rcases this with rfl | h
   ·exact hs
   ·obtain⟨u,hu,hau⟩:=BO.1 h;exact hdo.s u hu a hau
open Go Go.Proofs
def Zo(l:List Int):Int:=if 1<l.length then W (l.getD 1 0-l.getD 0 0) else 1099511627776
def uc(c:Stop->List Int):List Stop->Nat->Int->Int->Int
 | [],_,place,_=>place
 | s :: l,i,place,most=>if (c s).length=0 then (i:Int) else if place<0\/most<Zo (c s) then uc c l (i+1) (i:Int) (Zo (c s)) else uc c l (i+1) place most
def Z3(x:Inst)(d:zk)(l:List Stop):Int:=uc (J5 x d) l 0 (-1) 0
theorem Zb3(c:Stop->List Int):∀(l:List Stop) (i:Nat) (place most:Int),(l≠[]\/0<=place)->place<i->0<=uc c l i place most/\uc c l i place most<(i+l.length:Nat)
 | [],i,place,most,h,hp=>by
  rcases h with h | h
  ·exact absurd rfl h
  ·simp only[uc,Ah];omega
 | s :: l,i,place,most,_,hp=>by
  unfold uc;split
  ·simp only[Ae];omega
  ·split
   ·have:=Zb3 c l (i+1) i (Zo (c s)) (.inr (by omega)) (by omega);simp only[Ae];omega
   ·rename_i hc;have:=Zb3 c l (i+1) place most (.inr (by omega)) (by omega);simp only[Ae];omega
theorem Zf2{x:Inst}{d:zk}{l:List Stop}(h:l≠[]):∃k:Nat,Z3 x d l=k/\k<l.length:=by
 have:=Zb3 (J5 x d) l 0 (-1) 0 (.inl h) (by omega);exact⟨(Z3 x d l).toNat,by unfold Z3;omega,by unfold Z3;omega⟩
def ud(x:Inst):Nat->zk->List Stop->zk × Bool
 | 0,d,_=>(d,true)
 | n+1,d,l=>bif (yL x d (l.getD (Z3 x d l).toNat default)).2 then ud x n (yL x d (l.getD (Z3 x d l).toNat default)).1 (l.eraseIdx (Z3 x d l).toNat) else (d,false)
def q9(x:Inst)(l:List Stop):zk × Bool:=ud x l.length [] l
structure RgOk (x:Inst) (d:zk) (l:List Stop):Prop where
 ok:DayOk d
 may:yr x d=0
 len:d.flatten.length+l.length<=1000
theorem RgOk.dl{x:Inst}{d:zk}{l:List Stop}(h:RgOk x d l):d.length<=1000:=by
 have h1:=VU d (ZfP h.may);have h2:=h.len;omega
theorem RgOk.step{x:Inst}{d:zk}{l:List Stop}(hx:x.cust.length<=1048576)(h:RgOk x d l){i:Nat}(hi:i<l.length){s:Stop}(hs:(yL x d s).2=true):RgOk x (yL x d s).1 (l.eraseIdx i):=by
 have hf:=h.len;have hl:=h.dl;refine⟨Zf1 hx h.ok (by omega) (by omega),?_,?_⟩
 ·unfold yL at hs ⊢;cases hb:(vE (yT x d s)).2 with
  | false=>rw[hb]at hs;cases hs
  | true=>exact ZbV (VV hb)
 ·rw[(ZbT hs).length_eq,Ae,BZ hi];omega
theorem Zf3{x:Inst}(hv:0<=x.veh){l:List Stop}(hl:l.length<=1000):RgOk x [] l :=
 ⟨⟨by simp,by simp,by simp⟩,(vB x []).2 ⟨by simp,by simp,by simpa using hv⟩,by simpa using hl⟩
theorem Zn4{c:Stop->List Int}{l:List Stop}{k:Nat}{s:Stop}{place most:Int}(hd:l.drop k=s :: l.drop (k+1)):
  uc c (l.drop k) k place most=if (c s).length=0 then (k:Int) else if place<0\/most<Zo (c s) then uc c (l.drop (k+1)) (k+1) (k:Int) (Zo (c s)) else uc c (l.drop (k+1)) (k+1) place most:=by
 rw[hd];rfl
theorem Zn5(x:Inst)(d:zk)(l:List Stop)(hx:x.cust.length<=1048576)(h:RgOk x d l){S:Store}{id ver:Nat}(hid:S id=.cells ver 100 (l.flatMap Enc.enc)):
  Spec prog 334 [.agg (Zm x d),.sl id ver 2 0 l.length] S (λp S'=>p=I (Z3 x d l)/\S'=S):=by
 have hf:=h.len;have hl:=h.dl;have hco:=λs=>ZnR x d s hx h.ok h.may (by omega) (by omega)
 have hu:Z3 x d l=uc (J5 x d) (l.drop 0) 0 (-1) 0:=rfl;rw[hu];clear hu;obtain⟨on,tw,fs,bd,ls,ws,hlk⟩:∃on tw fs bd ls ws,Zm x d=uA x d on tw fs bd ls ws:=⟨_,_,_,_,_,_,rfl⟩;rw[hlk]at hco ⊢;clear hlk;generalize hcz:J5 x d=cz at *;refine yh Tryz.func334 Tryz.ntmps334 Tryz.results334 λnx hd=>?_
 have hlt:id<nx:=yZ hd hid (by simp);have xid:=λobs=>zA (S:=S) (obs:=obs) hlt
 refine za (zb ?_);intro v0;refine za (zb ?_)
 repeat apply za
 refine zb ?_;refine zj (zD (λs':Nat × Int × Int=>s'.1<=l.length/\uc cz (l.drop s'.1) s'.1 s'.2.1 s'.2.2=uc cz (l.drop 0) 0 (-1) 0) (λ(k,place,most)=>[(2,.ptr nx v0 0),(5,I place),(6,I most),(11,.sl id ver 2 0 l.length),(12,I l.length),(13,I k)]) (λ_=>[.cells v0 395 (uA x d on tw fs bd ls ws)]) (λs'=>l.length-s'.1) (0,-1,0) [] ⟨by simp,rfl⟩ (by simp) (by simp) ?_);rintro⟨k,place,most⟩ ⟨hk,hg⟩;simp only at hk hg ⊢;rw[<-hg];refine za (zb ?_);refine za (zv rfl (λhc=>?_) (λhc=>?_))
 ·simp at hc;obtain⟨s,tl,a1,a2,a3,e1,e0⟩:=el 2 rfl l k hc;have hk2:2<=l.length*2-k*2:=by omega
  have hun:=Zn4 (c:=cz) (place:=place) (most:=most) a2;have hcs:=hco s;generalize hc0:cz s=c at *;have wk:=zu k (by omega);refine zh (za (zj (za (ze [] (yG xid hid e0 hc hk2) ?_))));intro v1;refine za (zb ?_);refine zr hcs ?_
  by_cases h0:c.length=0
  ·rw[if_pos h0]at hun
   repeat apply za
   refine ze [] h0 ?_;refine zn rfl (za (zb ?_));exact zg ⟨_,S,(by simp;rfl),⟨by simp[zp,hun],rfl⟩,zN hd⟩
  rw[if_neg h0]at hun
  repeat apply za
  refine zb ?_;refine zm (by simp;exact λe=>h0 (by rw[e];rfl)) ?_;refine zh ?_
  repeat apply za
  refine zb ?_;refine qY (nx:=nx) (λ_:Unit=>True) (λ_=>[(2,.ptr nx v0 0),(5,I place),(6,I most),(7,I k),(10,I (Zo c)),(11,.sl id ver 2 0 l.length),(12,I l.length),(13,I k)]) (λ_=>S) (λ_=>[.cells v0 395 (uA x d on tw fs bd ls ws)]) ?_ ?_
  ·by_cases h1:1<c.length
   ·obtain⟨a,ta,q1,-,-,q0⟩:=zF rfl c 1 h1;obtain⟨b,tb,r1,-,-,r0⟩:=zF rfl c 0 (by omega);have hab:Zo c=W (a-b):=by unfold Zo;rw[if_pos h1,Aa,Aa,q1,r1];rfl
    have g1:1<=c.length-1:=by omega
    have g2:0<c.length:=by omega
    have g3:1<=c.length:=by omega
    have r0':(c.flatMap Enc.enc:List PV)=Enc.enc b++tb:=by simpa using r0
    have h1':(1:Int)<c.length:=by omega
    refine zn (by simp;omega) ?_;rw[r0']at q0;have htb:tb=I a :: ta:=by simpa using q0
    rw[htb]at r0';refine zz none (Row.pures [0,1,2,3,4,5,6,7] .done) mixed (yl r0' h1 h1' g1 g2 g3) ?_;exact zY () [_] trivial (by simp[hab]) rfl (by simp;rfl)
   ·have hab:Zo c=1099511627776:=by unfold Zo;rw[if_neg h1]
    refine zm (by simp;omega) ?_;exact zh (zY () [_] trivial (by simp[hab]) rfl (by simp;rfl))
  ·rintro⟨⟩ -;generalize Zo c=ab at *
   by_cases hq:place<0
   ·rw[if_pos (.inl hq)]at hun;refine za (ze [(2,37)] (zo hq zH) ?_);refine zn rfl (zb ?_);refine zb ?_;exact zq (k+1,(k:Int),ab) [] ⟨hc,by rw[<-hun,hg]⟩ (by simp;omega) (by simp[wk]) rfl (by simp)
   ·by_cases hq2:most<ab
    ·rw[if_pos (.inr hq2)]at hun;refine za (ze [(2,37)] (zo hq hq2) ?_);refine zn rfl (zb ?_);refine zb ?_;exact zq (k+1,(k:Int),ab) [] ⟨hc,by rw[<-hun,hg]⟩ (by simp;omega) (by simp[wk]) rfl (by simp)
    ·rw[if_neg (by rintro(q | q);exact hq q;exact hq2 q)]at hun;refine za (ze [(2,37)] (zo hq hq2) ?_);refine zm rfl (zh (zb ?_));exact zq (k+1,place,most) [] ⟨hc,by rw[<-hun,hg]⟩ (by simp;omega) (by simp[wk]) rfl (by simp)
 ·simp at hc;obtain rfl:k=l.length:=by omega
  refine zy ?_;have hgl:uc cz (l.drop l.length) l.length place most=place:=by rw[Cf];rfl
  refine za (zb ?_);exact zg ⟨_,S,(by simp;rfl),⟨by simp[zp];rfl,rfl⟩,zN hd⟩
open Go Go.Proofs
theorem Zn6{x:Inst}{d:zk}{l:List Stop}{k:Nat}{s:Stop}(hu:Z3 x d l=k)(hk:l[k]?=some s):
  ud x l.length d l=bif (yL x d s).2 then ud x (l.eraseIdx k).length (yL x d s).1 (l.eraseIdx k) else (d,false):=by
 have hlt:=(Ac.1 hk).1;obtain⟨n,hn⟩:∃n,l.length=n+1:=⟨l.length-1,by omega⟩;have he:(l.eraseIdx k).length=n:=by rw[BZ hlt];omega
 have hg:l.getD k default=s:=by rw[Aa,hk];rfl
 rw[hn,he,ud,hu,AT,hg]
theorem Zn7{x:Inst}{d:zk}{l:List Stop}(h:RgOk x d l):d.length<=1000/\d.flatten.length<=1000/\l.length<=1000:=by
 have h1:=h.dl;have h2:=h.len;omega
theorem Zn8(x:Inst)(l:List Stop)(hx:x.cust.length<=1048576)(hv:0<=x.veh)(hl:l.length<=1000):Pure prog 319 [.agg (zx x),L l] (.tup [.agg [L (q9 x l).1],B (q9 x l).2]):=by
 have hb:=Zf3 hv hl;unfold q9
 by_cases h0:0<l.length
 case neg =>
  obtain rfl:l=[]:=Aw (by omega);have hcl:=VR [] (by simp);refine zt Tryz.func319 Tryz.ntmps319 Tryz.results319 λS nx hd=>?_
  refine za (zb ?_);intro v0 v1;refine za (zb ?_);intro v2;refine qk 2 0 rfl rfl ?_;refine za (zb ?_);refine zr hcl ?_;refine za (zj (zD (λ_:Nat=>True) (λ_=>[(2,.ptr nx v0 0),(4,.ptr (nx+1) v1 0),(6,.ptr (nx+2) v2 0),(7,L ([]:List Stop))]) (λ_=>[.cells v0 25 (zx x),.cells v1 39 [yp],.cells v2 39 [L ([]:zk)]]) (λk=>k) 0 [] trivial (by simp) (by simp) ?_));rintro k -
  repeat apply za
  refine zb ?_;refine zm rfl (zy (za (zb ?_)));exact zg (zi hd (by simp;rfl) (by simp[zp,ud]))
 refine zt Tryz.func319 Tryz.ntmps319 Tryz.results319 λS nx hd=>?_
 refine za (zb ?_);intro v0 v1;refine za (zb ?_);intro v2;refine qk 2 0 rfl rfl ?_;refine za (zb ?_);refine λhsuf=>((ZbN l h0 (by omega) _ _ uN).mono ?_).v
 rintro _ _ ⟨v3,rfl,rfl⟩;refine⟨_,_,qN _,zL hsuf ?_⟩;refine za (zj (zD (λs':zk × List Stop × Nat=>ud x s'.2.1.length s'.1 s'.2.1=ud x l.length [] l/\RgOk x s'.1 s'.2.1) (λ(d,m,v3)=>[(2,.ptr nx v0 0),(4,.ptr (nx+1) v1 0),(6,.ptr (nx+2) v2 0),(7,.sl (nx+3) v3 2 0 m.length)]) (λ(d,m,v3)=>[.cells v0 25 (zx x),.cells v1 39 [yp],.cells v2 39 [L d],.cells v3 100 (m.flatMap Enc.enc)]) (λs'=>s'.2.1.length) ([],l,v3) [] ⟨rfl,hb⟩ (by simp) (by simp) ?_));rintro⟨d,m,v3⟩ ⟨hr,hok⟩;simp only at hr hok ⊢;rw[<-hr]
 by_cases hm:m=[]
 ·subst hm
  repeat apply za
  refine zb ?_;refine zm rfl (zy (za (zb ?_)));exact zg (zi hd (by simp;rfl) (by simp[zp,ud]))
 ·have hm0:0<m.length:=B5.2 hm;obtain⟨k,hu,hk⟩:=Zf2 (x:=x) (d:=d) hm;obtain⟨s,tl,a1,a2,a3,e1,e0⟩:=el 2 rfl m k hk;have hk2:2<=m.length*2-k*2:=by omega
  have hst:=Zn6 hu a1;obtain⟨b1,b2,b3⟩:=Zn7 hok;have hsee:=Zfq x d hx hok.ok (by omega);have hins:=Zb0 x d s hx hok.ok (by omega);have hnx:=λh=>hok.step hx hk (s:=s) h
  have hurg:=λ(S:Store) (id ver:Nat) h=>Zn5 x d m hx hok (S:=S) (id:=id) (ver:=ver) h
  rw[hu]at hurg;obtain⟨on,tw,fs,bd,ls,ws,hlk⟩:∃on tw fs bd ls ws,Zm x d=uA x d on tw fs bd ls ws:=⟨_,_,_,_,_,_,rfl⟩;rw[hlk]at hsee hurg;clear hlk;have hno:=ZfB (x:=x) (d:=d) (s:=s);generalize hi:yL x d s=r at *;obtain⟨d2,ok⟩:=r;simp only at hst hnx hno;have wk:=zu k (by omega);have hm0':(0:Int)<m.length:=by omega
  repeat apply za
  refine ze [] hm0' ?_;refine zn (by simp;exact hm0) ?_;refine zh (zj (za (zb ?_)));refine λhsuf=>((hsee _).mono ?_).v
  rintro _ _ ⟨rfl,rfl⟩;refine⟨_,_,rfl,zL hsuf ?_⟩;refine λhsuf=>((hurg _ _ _ (by rw[zU];rfl)).mono ?_).v
  rintro _ _ ⟨rfl,rfl⟩;refine⟨_,_,rfl,zL hsuf ?_⟩;refine za (zz (some [nx,nx+2,nx+3]) (Row.pures [0,1,2,3,4,5,6,7,8,9] (.alt 10 (.alt 11 (Row.pures [12] .done) .stop) .stop)) mixed (zE e0 hk hk2) ?_);refine zJ (hins) trivial ?_;intro v4
  repeat apply za
  refine zb ?_;cases ok with
  | false =>
   simp only[cond_false]at hst;refine zn rfl (za (zb ?_));exact zg (zi hd (by simp;rfl) (by simp[zp,hst]))
  | true =>
   simp only[cond_true]at hst;refine zm rfl (zh ?_);have hkl:=BZ hk;refine zz (some [nx+4]) (Row.pures [0,1,2,3,4] (.alt 5 (.alt 6 (Row.pures [7] .done) .stop) .stop)) mixed wk ?_
   skip
   refine((ZnX m k hk (by omega) (by rw[zU];rfl)).mono ?_).v;rintro _ _ ⟨rfl,rfl⟩;rw[yg _ (by omega) (by simp),AG];refine⟨by simp[yE],js trivial ?_⟩;exact zq (d2,m.eraseIdx k,v3+1) [_] ⟨hst.symm,hnx rfl⟩ (by simp only;omega) (by simp) rfl (by simp;rfl)
open Go Go.Proofs
def wU(step:zk->Option zk):Nat->zk->zk
 | 0,d=>d
 | n+1,d=>match step d with
  | none=>d
  | some e=>wU step n e
def Zp(step:zk->Option zk):Nat->zk->Nat
 | 0,_=>0
 | n+1,d=>match step d with
  | none=>0
  | some e=>Zp step n e+1
def Zf4(x:Inst)(step:zk->Option zk)(G:zk->Prop):Prop:=∀d,G d->∃mk ma mb mi mj least,Pure prog 291 [.agg (zx x),.agg [L d]] (.tup [.agg [I mk,I ma,I mb,I mi,I mj],I least,B (step d).isSome]) /\
 ∀e,step d=some e->Pure prog 292 [.agg (zx x),.agg [L d],.agg [I mk,I ma,I mb,I mi,I mj]] (.tup [.agg [L e],I 0])/\G e
theorem Zf5(x:Inst)(d:zk)(b:Int)(step:zk->Option zk)(G:zk->Prop)(hb:b<=9223372036854775807)(hdn:d.length<=1048576)(hdt:∀t∈d,t.length<=1048576)(hd':0<b->G d)(hs:Zf4 x step G):Pure prog 252 [.agg (zx x),.agg [L d],I b] (.tup [.agg [L (wU step b.toNat d)],I (if Zp step b.toNat d<b.toNat then (Zp step b.toNat d:Int) else qS b 0)]):=by
 refine zt Tryz.func252 Tryz.ntmps252 Tryz.results252 λS nx hd=>?_
 refine za (zb ?_);intro v0 v1 v2;refine za (zb ?_);intro v3;refine jg 3 0 42 1 rfl rfl λv4=>?_
 repeat apply za
 refine zb ?_;refine zj (zD (λs':Nat × Nat=>s'.1<=d.length) (λ(k,v4)=>[(2,I b),(3,.ptr nx v0 0),(6,.ptr (nx+2) v2 0),(7,I 0),(8,.ptr (nx+3) v3 0),(16,L d),(17,I d.length),(18,I k)]) (λ(k,v4)=>[.cells v0 25 (zx x),.cells v1 39 [L d],.cells v2 39 [yp],.cells v3 39 [.sl (nx+4) v4 1 0 k],.cells v4 42 ((d.take k).flatMap Enc.enc)]) (λs'=>d.length-s'.1) (0,v4) [] (by simp) (by simp) (by simp) ?_);rintro⟨k,v4⟩ hk;simp only at hk ⊢;refine za (zb ?_);refine za (zv rfl (λhc=>?_) (λhc=>?_))
 ·simp at hc;obtain⟨t,tl,a1,a2,a3,e0⟩:=zF rfl d k hc;have hk1:1<=d.length-k:=by omega
  have hcl:=VR t (hdt t (Ab a1));have hcl':((d.take k).flatMap Enc.enc:List PV).length=k:=by rw[jT,Ay];omega
  have hct:((d.take k).flatMap Enc.enc:List PV).take k=(d.take k).flatMap Enc.enc:=Af (by omega);have hcn:((d.take (k+1)).flatMap Enc.enc:List PV)=(d.take k).flatMap Enc.enc++[L t]:=by rw[a3,Av];rfl
  generalize ((d.take k).flatMap Enc.enc:List PV)=cs at *;refine zh (za (zj (za (ze [] (zE e0 hc hk1) ?_))));intro v5;refine zz (some [nx+5]) (Row.pures [0,2,3,4,5,6] (.alt 1 (.alt 7 (Row.pures [8] (.alt 9 (.done) .stop)) .stop) .stop)) mixed (zo hcl' hct) ?_;refine zJ (hcl) (zo hcl' hct) ?_;refine⟨by omega,?_⟩;refine zb ?_;exact zq (k+1,v4+1) [_] hc (by simp;omega) (by simp[zu k (by omega)]) rfl (by simp[hcn];rfl)
 ·simp at hc;obtain rfl:k=d.length:=by omega
  have g1:d.take d.length=d:=Ao;refine zy ?_;rw[g1];refine yb 4 rfl ?_
  repeat apply za
  refine zb ?_;clear hk hc g1;refine zj (zD (λs':Nat × zk=>s'.1<=b.toNat/\(0<b->G s'.2)/\wU step (b.toNat-s'.1) s'.2=wU step b.toNat d/\s'.1+Zp step (b.toNat-s'.1) s'.2=Zp step b.toNat d) (λ(k,e)=>[(2,I b),(3,.ptr nx v0 0),(6,.ptr (nx+2) v2 0),(8,.ptr (nx+3) v3 0),(11,I k)]) (λ(k,e)=>[.cells v0 25 (zx x),.cells v1 39 [L d],.cells v2 39 [yp],.cells v3 39 [L e]]) (λs'=>b.toNat-s'.1) (0,d) [.dead] ⟨by simp,hd',by simp,by simp⟩ (by simp) (by simp) ?_);rintro⟨k,e⟩ ⟨hk,hG,hi,hco⟩;simp only at hk hG hi hco ⊢;rw[<-hi]
  repeat apply za
  refine zb ?_;refine zv rfl (λhc=>?_) (λhc=>?_)
  ·simp at hc;obtain⟨mk,ma,mb,mi,mj,least,hB,hM⟩:=hs e (hG (by omega));obtain⟨n,hn⟩:∃n,b.toNat-k=n+1:=⟨b.toNat-k-1,by omega⟩;refine zh (za (zj (za (zb ?_))));refine zr hB ?_;intro v5
   repeat apply za
   refine zb ?_;cases hst:step e with
   | none =>
    have hr:wU step (b.toNat-k) e=e:=by rw[hn];unfold wU;rw[hst]
    have hr2:Zp step (b.toNat-k) e=0:=by rw[hn];unfold Zp;rw[hst]
    rw[hr2]at hco;rw[hr,<-hco,if_pos (by omega)];refine zn rfl (za (zb ?_));exact zg (zi hd (by simp;rfl) (by simp[zp]))
   | some e2 =>
    have hr:wU step (b.toNat-k) e=wU step (b.toNat-(k+1)) e2:=by rw[hn,show b.toNat-(k+1)=n by omega];conv=>lhs;unfold wU;rw[hst]
    have hr2:Zp step (b.toNat-k) e=Zp step (b.toNat-(k+1)) e2+1:=by rw[hn,show b.toNat-(k+1)=n by omega];conv=>lhs;unfold Zp;rw[hst]
    obtain⟨hM1,hG2⟩:=hM e2 hst;refine zm rfl (zh (zb ?_));refine zr hM1 ?_;refine zb ?_;exact zq (k+1,e2) [_] ⟨by simp;omega,λ_=>hG2,hr.symm,by simp only;omega⟩ (by simp;omega) (by simp[zu k (by omega)]) rfl (by simp;rfl)
  ·simp at hc;have hz:b.toNat-k=0:=by omega
   rw[hz]at hco ⊢;have hco':Zp step b.toNat d=k:=by rw[<-hco];rfl
   rw[hco',if_neg (by omega)];refine zy (za (zb ?_));exact zg (zi hd (by simp;rfl) (by simp[zp,wU]))
open Go Go.Proofs
structure Pc where
 t:Nat
 f:Nat
 o:Nat
 b:Bool
 deriving DecidableEq
def yx:Pc:=⟨0,0,0,false⟩
abbrev pcL(p:Pc):List PV:=[I p.t,I p.f,I p.o,B p.b]
structure Rw5 where
 a:Pc
 b:Pc
 c:Pc
 d:Pc
 e:Pc
abbrev yt(r:Rw5):List PV:=[I r.a.t,I r.a.f,I r.a.o,B r.a.b,I r.b.t,I r.b.f,I r.b.o,B r.b.b,I r.c.t,I r.c.f,I r.c.o,B r.c.b,I r.d.t,I r.d.f,I r.d.o,B r.d.b,I r.e.t,I r.e.f,I r.e.o,B r.e.b]
def Rw5.l(r:Rw5):List Pc:=[r.a,r.b,r.c,r.d,r.e]
def xu:Rw5:=⟨yx,yx,yx,yx,yx⟩
structure Mv where
 k:Nat
 a:Nat
 b:Nat
 i:Nat
 j:Nat
 deriving DecidableEq
abbrev uU(m:Mv):List PV:=[I m.k,I m.a,I m.b,I m.i,I m.j]
abbrev Zq(m:Mv)(la lb:Nat):List PV:=[I m.k,I m.a,I m.b,I m.i,I m.j,I la,I lb]
def vG(m:Mv)(la lb:Nat):Bool :=
 if m.k=0 then decide (m.b=m.a/\m.i<m.j/\m.j<la)
 else if m.k=1 then decide (m.i<la/\(if m.a=m.b then m.j<lb else m.j<=lb))
 else if m.k=2 then decide (¬(m.b<m.a\/m.a=m.b/\m.j<=m.i)/\m.i<la/\m.j<lb)
 else decide (m.a<m.b/\m.i<=la/\m.j<=lb)
def xv(m:Mv)(la lb:Nat):Rw5 × Rw5 :=
 if m.k=0 then (⟨⟨m.a,0,m.i,false⟩,⟨m.a,m.i,m.j+1,true⟩,⟨m.a,m.j+1,la,false⟩,yx,yx⟩,xu)
 else if m.k=1 then
  (if m.a≠m.b then (⟨⟨m.a,0,m.i,false⟩,⟨m.a,m.i+1,la,false⟩,yx,yx,yx⟩,⟨⟨m.b,0,m.j,false⟩,⟨m.a,m.i,m.i+1,false⟩,⟨m.b,m.j,lb,false⟩,yx,yx⟩)
  else if m.i<m.j then (⟨⟨m.a,0,m.i,false⟩,⟨m.a,m.i+1,m.j+1,false⟩,⟨m.a,m.i,m.i+1,false⟩,⟨m.a,m.j+1,la,false⟩,yx⟩,xu)
  else (⟨⟨m.a,0,m.j,false⟩,⟨m.a,m.i,m.i+1,false⟩,⟨m.a,m.j,m.i,false⟩,⟨m.a,m.i+1,la,false⟩,yx⟩,xu))
 else if m.k=2 then
  (if m.a=m.b then (⟨⟨m.a,0,m.i,false⟩,⟨m.b,m.j,m.j+1,false⟩,⟨m.a,m.i+1,m.j,false⟩,⟨m.a,m.i,m.i+1,false⟩,⟨m.a,m.j+1,la,false⟩⟩,xu)
  else (⟨⟨m.a,0,m.i,false⟩,⟨m.b,m.j,m.j+1,false⟩,⟨m.a,m.i+1,la,false⟩,yx,yx⟩,⟨⟨m.b,0,m.j,false⟩,⟨m.a,m.i,m.i+1,false⟩,⟨m.b,m.j+1,lb,false⟩,yx,yx⟩))
 else (⟨⟨m.a,0,m.i,false⟩,⟨m.b,m.j,lb,false⟩,yx,yx,yx⟩,⟨⟨m.b,0,m.j,false⟩,⟨m.a,m.i,la,false⟩,yx,yx,yx⟩)
theorem Zoa(m:Mv)(la lb:Nat)(hk:m.k=0):Pure prog 357 [.agg (Zq m la lb)] (B (vG m la lb)):=by
 unfold vG;rw[if_pos hk];refine zt Tryz.func357 Tryz.ntmps357 Tryz.results357 λS nx hd=>?_
 refine za (zb ?_);intro v0
 by_cases h1:m.b=m.a
 case neg =>
  have h1':¬(m.b:Int)=m.a:=by omega
  refine za (ze [(7,10),(13,16),(22,25)] (zo h1' zH) ?_);exact zg (zi hd rfl (by simp[h1,zp]))
 have h1':(m.b:Int)=m.a:=by omega
 by_cases h2:m.i<m.j
 case neg =>
  have h2':¬(m.i:Int)<m.j:=by omega
  refine za (ze [(7,10),(13,16),(22,25)] (zE h1' h2 zH) ?_);exact zg (zi hd rfl (by simp[h2,zp]))
 by_cases h3:m.j<la
 case neg =>
  refine za (ze [(7,10),(13,16),(22,25)] (zS h1' h2 h3 zH) ?_);exact zg (zi hd rfl (by simp[h3,zp]))
 refine za (ze [(7,10),(13,16),(22,25)] (zE h1' h2 h3) ?_);exact zg (zi hd rfl (by simp[h1,h2,h3,zp]))
theorem Zob(m:Mv)(la lb:Nat)(hk:m.k=1)(hlb:lb<=1048576):Pure prog 359 [.agg (Zq m la lb)] (B (vG m la lb)):=by
 unfold vG;rw[if_neg (by omega),if_pos hk];refine zt Tryz.func359 Tryz.ntmps359 Tryz.results359 λS nx hd=>?_
 refine za (zb ?_);intro v0;refine za (zb ?_);refine za (qY (nx:=nx) (λz:Int=>(m.j:Int)<=z<->(if m.a=m.b then m.j<lb else m.j<=lb)) (λz=>[(1,.ptr nx v0 0),(3,I z)]) (λ_=>S) (λ_=>[.cells v0 420 (Zq m la lb)]) ?_ ?_)
 ·by_cases h1:m.a=m.b
  ·have h1':(m.a:Int)=m.b:=by omega
   have w1:IntKind.i64.wrap ((lb:Int)-1)=(lb:Int)-1:=wr _ (by omega) (by omega);refine za (ze [] h1' ?_);refine zn rfl (ze [] w1 ?_);exact zY ((lb:Int)-1) [] (by rw[if_pos h1];omega) (by simp) rfl (by simp)
  ·have h1':¬(m.a:Int)=m.b:=by omega
   refine za (ze [] h1' ?_);exact zm rfl (zh (zY (lb:Int) [] (by rw[if_neg h1];omega) (by simp) rfl (by simp)))
 ·intro z hz
  by_cases h2:m.i<la
  case neg =>
   refine za (ze [(4,19),(12,27),(18,33)] (zo h2 zH) ?_);exact zg (zi hd rfl (by simp[h2,zp]))
  by_cases h3:(m.j:Int)<=z
  case neg =>
   have h4:=(not_congr hz).1 h3;refine za (ze [(4,19),(12,27),(18,33)] (zo h2 h3) ?_);exact zg (zi hd rfl (by simp[h2,h4,zp]))
  have h4:=hz.1 h3;refine za (ze [(4,19),(12,27),(18,33)] (zo h2 h3) ?_);exact zg (zi hd rfl (by simp[h2,h4,zp]))
theorem Zoc(m:Mv)(la lb:Nat)(hk:m.k=2):Pure prog 361 [.agg (Zq m la lb)] (B (vG m la lb)):=by
 unfold vG;rw[if_neg (by omega),if_neg (by omega),if_pos hk];refine zt Tryz.func361 Tryz.ntmps361 Tryz.results361 λS nx hd=>?_
 refine za (zb ?_);intro v0;have rest:∀(P:Prop),(m.i<la->m.j<lb->P)->(¬(m.i<la/\m.j<lb)->P)->P:=λP a b=>by
  by_cases q:m.i<la/\m.j<lb
  ·exact a q.1 q.2
  ·exact b q
 by_cases h1:m.b<m.a
 ·repeat apply za
  refine ze [(7,10),(15,18)] (zo h1 zH) ?_;refine zn rfl (za (zb ?_));exact zg (zi hd rfl (by simp[h1,zp]))
 by_cases h2:m.a=m.b
 ·have h2':(m.a:Int)=m.b:=by omega
  by_cases h3:m.j<=m.i
  ·have h1':¬m.b<m.b:=by omega
   repeat apply za
   refine ze [(7,10),(15,18)] (zE h2' h1' h3) ?_;refine zn rfl (za (zb ?_));exact zg (zi hd rfl (by simp[h2,h3,zp]))
  ·have h1':¬m.b<m.b:=by omega
   have h0:¬(m.b<m.a\/m.a=m.b/\m.j<=m.i):=by omega
   repeat apply za
   refine ze [(7,10),(15,18)] (zE h2' h1' h3) ?_;refine zm rfl (zh ?_)
   by_cases h4:m.i<la
   case neg =>
    refine za (ze [(4,32),(12,40),(18,46)] (zo h4 zH) ?_);exact zg (zi hd rfl (by simp[h4,zp]))
   by_cases h5:m.j<lb
   case neg =>
    refine za (ze [(4,32),(12,40),(18,46)] (zo h4 h5) ?_);exact zg (zi hd rfl (by simp[h5,zp]))
   refine za (ze [(4,32),(12,40),(18,46)] (zo h4 h5) ?_);exact zg (zi hd rfl (by simp[h0,h4,h5,zp]))
 ·have h2':¬(m.a:Int)=m.b:=by omega
  have h0:¬(m.b<m.a\/m.a=m.b/\m.j<=m.i):=by omega
  repeat apply za
  refine ze [(7,10),(15,18)] (zE h1 h2' zH) ?_;refine zm rfl (zh ?_)
  by_cases h4:m.i<la
  case neg =>
   refine za (ze [(4,32),(12,40),(18,46)] (zo h4 zH) ?_);exact zg (zi hd rfl (by simp[h4,zp]))
  by_cases h5:m.j<lb
  case neg =>
   refine za (ze [(4,32),(12,40),(18,46)] (zo h4 h5) ?_);exact zg (zi hd rfl (by simp[h5,zp]))
  refine za (ze [(4,32),(12,40),(18,46)] (zo h4 h5) ?_);exact zg (zi hd rfl (by simp[h0,h4,h5,zp]))
theorem Zod(m:Mv)(la lb:Nat)(hk:3<=m.k):Pure prog 363 [.agg (Zq m la lb)] (B (vG m la lb)):=by
 unfold vG;rw[if_neg (by omega),if_neg (by omega),if_neg (by omega)];refine zt Tryz.func363 Tryz.ntmps363 Tryz.results363 λS nx hd=>?_
 refine za (zb ?_);intro v0
 by_cases h1:m.a<m.b
 case neg =>
  refine za (ze [(7,10),(13,16),(21,24),(27,30)] (zo h1 zH) ?_);exact zg (zi hd rfl (by simp[h1,zp]))
 by_cases h2:m.i<=la
 case neg =>
  refine za (ze [(7,10),(13,16),(21,24),(27,30)] (zE h1 h2 zH) ?_);exact zg (zi hd rfl (by simp[h2,zp]))
 by_cases h3:m.j<=lb
 case neg =>
  refine za (ze [(7,10),(13,16),(21,24),(27,30)] (zE h1 h2 h3) ?_);exact zg (zi hd rfl (by simp[h3,zp]))
 refine za (ze [(7,10),(13,16),(21,24),(27,30)] (zE h1 h2 h3) ?_);exact zg (zi hd rfl (by simp[h1,h2,h3,zp]))
theorem Zoe(m:Mv)(la lb:Nat)(hk:m.k=0)(hi:m.i<=1048576)(hj:m.j<=1048576):Pure prog 358 [.agg (Zq m la lb)] (.tup [.agg (yt (xv m la lb).1),.agg (yt (xv m la lb).2)]):=by
 have wi:=zu m.i (by omega);have wj:=zu m.j (by omega);unfold xv;rw[if_pos hk];refine zt Tryz.func358 Tryz.ntmps358 Tryz.results358 λS nx hd=>?_
 refine za (zb ?_);intro v0 v1 v2;refine za (zz (some [nx]) (Row.pures [0,1,2,3,4,5,6,7,8,9,10,11] .done) mixed trivial ?_);refine za (ze [] wj ?_);exact zg (zi hd (by simp;rfl) (by simp[zp,xu,yx]))
theorem Zof(m:Mv)(la lb:Nat)(hk:3<=m.k):Pure prog 364 [.agg (Zq m la lb)] (.tup [.agg (yt (xv m la lb).1),.agg (yt (xv m la lb).2)]):=by
 unfold xv;rw[if_neg (by omega),if_neg (by omega),if_neg (by omega)];refine zt Tryz.func364 Tryz.ntmps364 Tryz.results364 λS nx hd=>?_
 refine za (zb ?_);intro v0 v1 v2;refine za (zz (some [nx]) (Row.pures [0,1,2,3,4,5,6,7,8,9,10,11,12,13,14,15] .done) mixed trivial ?_);refine za (zz (some [nx]) (Row.pures [0,1,2,3,4,5,6,7,8,9,10,11,12,13,14,15,16,17] (.alt 18 (.alt 19 (.done) .stop) .stop)) mixed trivial ?_);exact zg (zi hd (by simp;rfl) (by simp[zp,xu,yx]))
theorem Zog(m:Mv)(la lb:Nat)(hk:m.k=1)(hi:m.i<=1048576)(hj:m.j<=1048576):Pure prog 360 [.agg (Zq m la lb)] (.tup [.agg (yt (xv m la lb).1),.agg (yt (xv m la lb).2)]):=by
 have wi:=zu m.i (by omega);have wj:=zu m.j (by omega);unfold xv;rw[if_neg (by omega),if_pos hk];refine zt Tryz.func360 Tryz.ntmps360 Tryz.results360 λS nx hd=>?_
 refine za (zb ?_);intro v0 v1 v2;refine za (zz (some [nx]) (Row.pures [0,1,2,3,4,5,6,7,8,9,10,11,12,13,14,15] .done) mixed trivial ?_);refine za (ze [] wi ?_);intro v3;refine za (zj ?_)
 by_cases h1:m.a=m.b
 case neg =>
  have h1':¬(m.a:Int)=m.b:=by omega
  rw[if_pos h1];refine za (ze [] h1' ?_);refine zn rfl (za (zz (some [nx,nx+3]) (Row.pures [0,1,2,3,4,5,6,7,8,9,10,11,12,13,14,15,16,17,18,19] (.alt 20 (.alt 21 (.done) .stop) .stop)) mixed wi ?_));exact zg (zi hd (by simp;rfl) (by simp[zp,xu,yx]))
 have h1':(m.a:Int)=m.b:=by omega
 rw[if_neg (by simpa using h1)];refine za (ze [] h1' ?_);refine zm rfl ?_
 by_cases h2:m.i<m.j
 ·rw[if_pos h2];refine za (ze [] h2 ?_);refine zn rfl (za (ze [] (zo wi wj) ?_));exact zg (zi hd (by simp;rfl) (by simp[zp,xu,yx,h1]))
 ·rw[if_neg h2];refine za (ze [] h2 ?_);refine zm rfl (zh (za (ze [] (zo wi wj) ?_)));exact zg (zi hd (by simp;rfl) (by simp[zp,xu,yx,h1]))
theorem Zoh(m:Mv)(la lb:Nat)(hk:m.k=2)(hi:m.i<=1048576)(hj:m.j<=1048576):Pure prog 362 [.agg (Zq m la lb)] (.tup [.agg (yt (xv m la lb).1),.agg (yt (xv m la lb).2)]):=by
 have wi:=zu m.i (by omega);have wj:=zu m.j (by omega);unfold xv;rw[if_neg (by omega),if_neg (by omega),if_pos hk];refine zt Tryz.func362 Tryz.ntmps362 Tryz.results362 λS nx hd=>?_
 refine za (zb ?_);intro v0 v1 v2;refine za (zz (some [nx]) (Row.pures [0,1,2,3,4,5,6,7,8,9,10,11,12,13,14,15] .done) mixed trivial ?_);refine za (ze [] (zo wi wj) ?_);intro v3 v4
 by_cases h1:m.a=m.b
 ·have h1':(m.a:Int)=m.b:=by omega
  rw[if_pos h1]
  repeat apply za
  refine ze [] h1' ?_;refine zn rfl (za (ze [] (zo wi wj) ?_));exact zg (zi hd (by simp;rfl) (by simp[zp,xu,yx,h1]))
 ·have h1':¬(m.a:Int)=m.b:=by omega
  rw[if_neg h1]
  repeat apply za
  refine ze [] h1' ?_;refine zm rfl (zh (za (zz (some [nx,nx+3,nx+4]) (Row.pures [0,1,2,3,4,5,6,7,8,9,10,11,12,13,14,15,16,17,18,19,20,21] (.alt 22 (.alt 23 (.done) .stop) .stop)) mixed (zo wi wj) ?_)));exact zg (zi hd (by simp;rfl) (by simp[zp,xu,yx]))
open Go Go.Proofs
abbrev VY:List PV:=[.fn (.func 357) [] [],.fn (.func 358) [] [],.fn (.func 359) [] [],.fn (.func 360) [] [],.fn (.func 361) [] [],.fn (.func 362) [] [],.fn (.func 363) [] [],.fn (.func 364) [] []]
theorem Zf6:Pure prog 340 [] (.agg VY):=by
 refine zt Tryz.func340 Tryz.ntmps340 Tryz.results340 λS nx hd=>?_
 refine za (zb ?_);intro v0;refine za (zb ?_);exact zg (zi hd (by simp;rfl) rfl)
def yK(d:zk)(t:Nat):Nat:=(d.getD t []).length
def xP(d:zk)(m:Mv):Bool:=decide (m.k<=3/\m.a<d.length/\m.b<d.length) && vG m (yK d m.a) (yK d m.b)
def yk(d:zk)(m:Mv):Rw5 × Rw5:=xv m (yK d m.a) (yK d m.b)
def Z4(d:zk)(m:Mv):Rw5 × Rw5 × Bool:=if xP d m=true then ((yk d m).1,(yk d m).2,true) else (xu,xu,false)
theorem Zb4(d:zk)(m:Mv)(hdn:d.length<=1048576)(hdt:∀t∈d,t.length<=1048576)(hk:m.k<=3)(ha:m.a<d.length)(hb:m.b<d.length)(hi:m.i<=1048576)(hj:m.j<=1048576):Pure prog 326 [.agg [L d],.agg (uU m)]
  (.tup [.agg (yt (Z4 d m).1),.agg (yt (Z4 d m).2.1),B (Z4 d m).2.2]):=by
 obtain⟨ta,xa,a1,-,-,a0⟩:=zF rfl d m.a ha;obtain⟨tb,xb,b1,-,-,b0⟩:=zF rfl d m.b hb;have ha1:1<=d.length-m.a:=by omega
 have hb1:1<=d.length-m.b:=by omega
 have la:yK d m.a=ta.length:=by unfold yK;rw[Aa,a1];rfl
 have lb:yK d m.b=tb.length:=by unfold yK;rw[Aa,b1];rfl
 have hbl:=hdt tb (Ab b1);have hmay:xP d m=vG m ta.length tb.length:=by unfold xP;rw[la,lb,decide_eq_true ⟨hk,ha,hb⟩];rfl
 have hcut:yk d m=xv m ta.length tb.length:=by unfold yk;rw[la,lb]
 unfold Z4;rw[hmay,hcut];clear hmay hcut la lb;have call:∀f g:Nat,m.k=m.k->True:=λ_ _ _=>trivial
 clear call;have g1:¬(m.k:Int)<0:=by omega
 have g2:¬(3:Int)<m.k:=by omega
 have g3:¬(m.a:Int)<0:=by omega
 have g4:¬d.length<=m.a:=by omega
 have g5:¬(m.b:Int)<0:=by omega
 have g6:¬d.length<=m.b:=by omega
 refine zt Tryz.func326 Tryz.ntmps326 Tryz.results326 λS nx hd=>?_
 refine za (zb ?_);intro v0 v1 v2 v3;refine za (zb ?_)
 repeat apply za
 refine ze [(3,18),(8,23),(13,28),(19,34),(24,39)] (yl g1 g2 g3 g4 g5 g6) ?_;refine zm rfl (zh (za (zz (some [nx,nx+1]) (Row.pures [0,1,2,3,4,5,6,7,8,9,10,11,12,13,14,15,16,17] (.alt 18 (.alt 19 (.done) .stop) .stop)) mixed (yl a0 b0 ha hb ha1 hb1) ?_)));intro v4;obtain⟨mf,cf,hmf,hcf,hidx⟩:∃mf cf:Nat,Pure prog mf [.agg (Zq m ta.length tb.length)] (B (vG m ta.length tb.length))/\Pure prog cf [.agg (Zq m ta.length tb.length)] (.tup [.agg (yt (xv m ta.length tb.length).1),.agg (yt (xv m ta.length tb.length).2)]) /\
   ∃k:Nat,(k:Int)=m.k/\k<4/\(VY.drop (k*2)).take 2=[.fn (.func mf) [] [],.fn (.func cf) [] []]:=by
  have h4:m.k=0\/m.k=1\/m.k=2\/m.k=3:=by omega
  rcases h4 with h | h | h | h
  ·exact⟨_,_,Zoa m _ _ h,Zoe m _ _ h hi hj,0,by omega,by omega,rfl⟩
  ·exact⟨_,_,Zob m _ _ h hbl,Zog m _ _ h hi hj,1,by omega,by omega,rfl⟩
  ·exact⟨_,_,Zoc m _ _ h,Zoh m _ _ h hi hj,2,by omega,by omega,rfl⟩
  ·exact⟨_,_,Zod m _ _ (by omega),Zof m _ _ (by omega),3,by omega,by omega,rfl⟩
 obtain⟨k,hkk,hk4,hkt⟩:=hidx;obtain rfl:k=m.k:=by omega
 have hk4':(m.k:Int)<4:=by omega
 have hk5:2<=8-m.k*2:=by omega
 generalize hmz:vG m ta.length tb.length=mz at *;generalize hcz:xv m ta.length tb.length=cz at *;obtain⟨r1,r2⟩:=cz;generalize hkl:VY=kl at hkt;have hkinds:=Zf6;rw[hkl]at hkinds;have hkll:kl.length=8:=by rw[<-hkl];rfl
 clear hkl;refine za (zz (some [nx+1]) (Row.pures [0,1,2,3] (.alt 4 (.alt 5 (.done) .stop) .stop)) mixed (yG hkt hk4 hk4' hkll hk5) ?_);refine zJ (hkinds) (yG hkt hk4 hk4' hkll hk5) ?_;intro v5
 repeat apply za
 refine zb ?_;refine zr hmf ?_;cases mz with
 | false =>
  refine zn rfl (za (zb ?_));exact zg (zi hd (by simp;rfl) (by simp[zp,xu,yx]))
 | true =>
  refine zm rfl (zh (za (zb ?_)));refine zr hcf ?_;intro v6 v7;refine za (zz (some [nx+6,nx+7]) (Row.pures [0,1] (.alt 2 (.alt 3 (Row.pures [4] .done) .stop) .stop)) mixed trivial ?_);exact zg (zi hd (by simp;rfl) (by simp[zp]))
open Go Go.Proofs
theorem Zf7(l:List Stop)(k:Nat)(s:Stop)(h:k<l.length):yc (l.flatMap Enc.enc) (k*2) [I s.c,I s.q]=(l.set k s).flatMap Enc.enc:=by
 unfold yc;rw[AH,if_pos h,Av,AA,<-QS Enc.enc 2 (λ_=>rfl) l k,<-JG Enc.enc 2 (λ_=>rfl) l (k+1)];simp[show k*2+2=(k+1)*2 by omega]
def jk(l:List Stop)(k:Nat):List Stop:=(List.range l.length).map λq=>if q<k\/l.length-1-q<k then l.getD (l.length-1-q) default else l.getD q default
theorem uB(l:List Stop)(k:Nat):(jk l k).length=l.length:=by simp[jk]
theorem J6{l:List Stop}{k q:Nat}(hq:q<l.length):(jk l k)[q]?=some (if q<k\/l.length-1-q<k then l.getD (l.length-1-q) default else l.getD q default):=by
 unfold jk;rw[Aj,AQ hq];rfl
theorem Zoi(l:List Stop):jk l 0=l:=by
 apply A7;intro q
 by_cases h:q<l.length
 ·rw[J6 h,if_neg (by omega),Aa,Ad h];rfl
 ·rw[Ai (by rw[uB];omega),Ai (by omega)]
theorem Zoj{l:List Stop}{k:Nat}(hk:l.length-1<=k+k):jk l k=l.reverse:=by
 apply A7;intro q
 by_cases h:q<l.length
 ·rw[J6 h,List.getElem?_reverse h]
  by_cases h1:q<k\/l.length-1-q<k
  ·rw[if_pos h1,Aa,Ad (by omega)];rfl
  ·rw[if_neg h1,Aa];have:q=l.length-1-q:=by omega
   rw[<-this,Ad h];rfl
 ·rw[Ai (by rw[uB];omega),Ai (by simp;omega)]
theorem Zok{l:List Stop}{k:Nat}(h:k<l.length-1-k){a b:Stop}(ha:(jk l k)[k]?=some a)(hb:(jk l k)[l.length-1-k]?=some b):((jk l k).set k b).set (l.length-1-k) a=jk l (k+1):=by
 rw[J6 (by omega),if_neg (by omega)]at ha;rw[J6 (by omega),if_neg (by omega)]at hb;cases ha;cases hb;apply A7;intro q
 by_cases hq:q<l.length
 ·rw[J6 hq,AZ,AZ]
  by_cases e1:l.length-1-k=q
  ·rw[if_pos e1,if_pos (by rw[Bz,uB];omega),if_pos (by omega)];congr 2;omega
  ·rw[if_neg e1]
   by_cases e2:k=q
   ·subst e2;rw[if_pos rfl,if_pos (by rw[uB];exact hq),if_pos (by omega)]
   ·rw[if_neg e2,J6 hq]
    by_cases h1:q<k\/l.length-1-q<k
    ·rw[if_pos h1,if_pos (by omega)]
    ·rw[if_neg h1,if_neg (by omega)]
 ·rw[Ai (by rw[Bz,Bz,uB];omega),Ai (by rw[uB];omega)]
theorem VZ(S:Store)(i:Nat)(a b:Ob):(S.set i a).set i b=S.set i b:=by
 funext o
 by_cases h:o=i
 ·subst h;rw[q11,q11]
 ·rw[q10 _ _ _ _ h,q10 _ _ _ _ h,q10 _ _ _ _ h]
theorem Zol{S:Store}{id ver:Nat}(pre l:List Stop)(hn:(pre++l).length<=1048576)(hid:S id=.cells ver 100 ((pre++l).flatMap Enc.enc)):
  Spec prog 344 [.sl id ver 2 (pre.length*2) l.length] S (λ_ S'=>S'=S.set id (.cells ver 100 ((pre++l.reverse).flatMap Enc.enc))):=by
 refine yh Tryz.func344 Tryz.ntmps344 Tryz.results344 λnx hd=>?_
 have hlt:id<nx:=yZ hd hid (by simp);simp only[Ar]at hn;have w0:IntKind.i64.wrap ((l.length:Int)-1)=(l.length:Int)-1:=wr _ (by omega) (by omega);refine za (ze [] w0 ?_);refine zj (jr (σ:=Nat) (λk=>k<=l.length) (λk=>[(0,.sl id ver 2 (pre.length*2) l.length),(2,I k),(3,I ((l.length:Int)-1-k))]) (λk=>S.set id (.cells ver 100 ((pre++jk l k).flatMap Enc.enc))) (λ_=>[]) (λk=>l.length-k) (zY 0 [] (by simp) (by simp) (by rw[Zoi];exact JW S id _ hid) (by simp)) ?_);rintro k hk
 show PW _ _ _ _ _ _ _ (ext (S.set id (.cells ver 100 ((pre++jk l k).flatMap Enc.enc))) nx [])
 obtain⟨T,hT⟩:∃T,T=S.set id (.cells ver 100 ((pre++jk l k).flatMap Enc.enc)):=⟨_,rfl⟩;rw[<-hT]
 repeat apply za
 refine zb ?_;refine zv rfl (λhc=>?_) (λhc=>?_)
 ·simp at hc;have h1:k<l.length-1-k:=by omega
  have x1:=uB l k;obtain⟨a,ta,a1,-,-,-,a0⟩:=el 2 rfl (pre++jk l k) (pre.length+k) (by simp[uB];omega);obtain⟨b,tb,b1,-,-,-,b0⟩:=el 2 rfl (pre++jk l k) (pre.length+(l.length-1-k)) (by simp[uB];omega);have hst:=Zok h1 (a:=a) (b:=b) (by rw[<-a1,Ak (by omega),AG]) (by rw[<-b1,Ak (by omega),AG]);have sp1:=Zf7 (pre++jk l k) (pre.length+k) b (by simp[uB];omega);have sp2:=Zf7 ((pre++jk l k).set (pre.length+k) b) (pre.length+(l.length-1-k)) a (by simp[uB];omega);have hs2:((pre++jk l k).set (pre.length+k) b).set (pre.length+(l.length-1-k)) a=pre++jk l (k+1):=by
   rw[Bx _ _ (by omega),Bx _ _ (by omega),AG,AG,hst]
  rw[hs2]at sp2;have hjj:(l.length:Int)-1-k=((l.length-1-k:Nat):Int):=by omega
  generalize l.length-1-k=j at *;generalize hw0:((pre++jk l k).flatMap Enc.enc:List PV)=c0 at *;generalize hw1:(((pre++jk l k).set (pre.length+k) b).flatMap Enc.enc:List PV)=c1 at *;have l0:c0.length=(pre.length+l.length)*2:=by rw[<-hw0,Y9];simp[uB]
  have l1:c1.length=(pre.length+l.length)*2:=by rw[<-hw1,Y9];simp[uB]
  have hTid:T id=.cells ver 100 c0:=by rw[hT];exact q11 _ _ _
  have xid:=λobs=>zA (S:=T) (obs:=obs) hlt
  have xid1:=λobs=>zA (S:=T.set id (.cells ver 100 c1)) (obs:=obs) hlt
  have hs1:(T.set id (.cells ver 100 c1)) id=.cells ver 100 c1:=q11 _ _ _;have hq1:k+1<=l.length:=by omega
  have q1:pre.length*2+k*2=(pre.length+k)*2:=by omega
  have q2:pre.length*2+j*2=(pre.length+j)*2:=by omega
  have q3:j<l.length:=by omega
  have q4:k<l.length:=by omega
  have q5:¬nx<=id:=by omega
  refine zh (za (zj ?_));rw[hjj];refine zz (some []) (Row.pures [0,1,2,3,4,5,6,8,9,10] (.alt 7 (.alt 11 (Row.pures [12] (.alt 13 (Row.pures [14] (.alt 15 (.done) .stop)) .stop)) .stop) (.alt 11 (.alt 7 (Row.pures [12] (.alt 13 (Row.pures [14] (.alt 15 (.done) .stop)) .stop)) .stop) .stop))) mixed (yl xid hTid q1 q2 a0 (zo (yl b0 q3 q4 q5 l0 sp1) (zS hs1 xid1 sp2 l1))) ?_;have wj:IntKind.i64.wrap ((j:Int)-1)=(l.length:Int)-1-((k+1:Nat):Int):=by rw[wr _ (by omega) (by omega)];omega
  have wk:=zu k (by omega);have hfin:S.set id (.cells ver 100 ((pre++jk l (k+1)).flatMap Enc.enc))=(T.set id (.cells ver 100 c1)).set id (.cells ver 100 ((pre++jk l (k+1)).flatMap Enc.enc)):=by rw[hT,VZ,VZ]
  have happ:((pre++jk l (k+1)).flatMap Enc.enc:List PV)=pre.flatMap Enc.enc++(jk l (k+1)).flatMap Enc.enc:=by rw[Av]
  rw[happ]at hfin;refine⟨?_,?_⟩
  ·refine⟨by omega,by omega,?_⟩;refine ze [] (zo wk wj) ?_;exact zq (k+1) [] hq1 (by omega) (by simp) (by rw[happ,hT];simp only[VZ]) (by simp)
  ·refine⟨by omega,by omega,?_⟩;refine ze [] (zo wk wj) ?_;exact zq (k+1) [] hq1 (by omega) (by simp) (by rw[happ,hT];simp only[VZ]) (by simp)
 ·simp at hc;refine zy ?_;refine⟨[],T,rfl,?_,zN ?_⟩
  ·rw[hT,Zoj (by omega)]
  ·rw[hT];intro i hi;rw[q10 _ _ _ _ (by omega)];exact hd i hi
open Go Go.Proofs
def qw(d:zk)(p:Pc):List Stop:=if p.f<p.o then (bif p.b then (((d.getD p.t []).drop p.f).take (p.o-p.f)).reverse else ((d.getD p.t []).drop p.f).take (p.o-p.f)) else []
def yM(d:zk)(r:Rw5):List Stop:=r.l.flatMap (qw d)
def J7(d:zk)(p:Pc):Prop:=p.f<p.o->p.t<d.length/\p.o<=yK d p.t
def uC(d:zk)(r:Rw5):Prop:=∀p∈r.l,J7 d p
theorem Zom(d:zk):uC d xu:=by
 intro p hp h;simp[Rw5.l,xu]at hp;subst hp;exact absurd h (by decide)
theorem V1(r:Rw5){k:Nat}(h:k<5):∃p,r.l[k]?=some p/\((yt r).drop (k*4)).take 4=pcL p/\r.l.take (k+1)=r.l.take k++[p]:=by
 have h5:k=0\/k=1\/k=2\/k=3\/k=4:=by omega
 rcases h5 with rfl | rfl | rfl | rfl | rfl<;>exact⟨_,rfl,rfl,rfl⟩
theorem Zf8{d:zk}{p:Pc}{m:Nat}(h:∀t∈d,t.length<=m):(qw d p).length<=m:=by
 have hg:(d.getD p.t []).length<=m:=by
  rw[Aa];cases hq:d[p.t]? with
  | none=>simp
  | some l=>exact h l (Ab hq)
 unfold qw;generalize d.getD p.t []=l at *;split
 ·cases p.b<;>simp<;>omega
 ·simp
theorem Zf9(d:zk)(r:Rw5)(hdn:d.length<=1048576)(hdt:∀t∈d,t.length<=1000)(hr:uC d r):Pure prog 329 [.agg [L d],.agg (yt r)] (L (yM d r)):=by
 have hat:=λk (h:k<5)=>V1 r h
 have hz:yM d r=(r.l.take 5).flatMap (qw d):=by unfold yM;rw[Af (by simp[Rw5.l])]
 rw[hz];clear hz;have hcl:(yt r).length=20:=rfl;have hct:(yt r).take 20=yt r:=rfl;have hpl:=λp=>Zf8 (d:=d) (p:=p) hdt
 have hgl:∀k,((r.l.take k).flatMap (qw d)).length<=1000*k:=by
  intro k
  induction k with
  | zero=>simp
  | succ k ih =>
   by_cases hk:k<5
   ·obtain⟨p,-,-,e⟩:=hat k hk;rw[e,Av,Ar];have:=hpl p;simp only[AA,Ck,AF];omega
   ·rw[Af (by simp[Rw5.l];omega)]at ih ⊢;omega
 have hrl:r.l.length=5:=rfl;generalize hrc:yt r=rc at *;refine zt Tryz.func329 Tryz.ntmps329 Tryz.results329 λS nx hd=>?_
 refine za (zb ?_);intro v0 v1;refine za (zb ?_);refine za (jf 5 100 2 rfl λv2=>?_);refine za (ze [] (zo hcl hct) ?_);refine zj (zD (λs':Nat × Nat=>s'.1<=5) (λ(k,v2)=>[(2,.ptr nx v0 0),(3,.ptr (nx+1) v1 0),(5,.sl (nx+2) v2 2 0 ((r.l.take k).flatMap (qw d)).length),(9,.agg rc),(10,I k)]) (λ(k,v2)=>[.cells v0 39 [L d],.cells v1 371 rc,.cells v2 100 (((r.l.take k).flatMap (qw d)).flatMap Enc.enc)]) (λs'=>5-s'.1) (0,v2) [] (by simp) (by simp) (by simp) ?_);rintro⟨k,v2⟩ hk;simp only at hk ⊢
 by_cases hk5:k<5
 ·obtain⟨p,hp1,hp2,hp3⟩:=hat k hk5;have hk5':(k:Int)<5:=by omega
  have hk6:4<=20-k*4:=by omega
  have hok:=hr p (Ab hp1);have hol:=hgl k;have hnx:(r.l.take (k+1)).flatMap (qw d)=(r.l.take k).flatMap (qw d)++qw d p:=by rw[hp3,Av];simp
  have hol2:=hpl p;generalize (r.l.take k).flatMap (qw d)=out at *;have wk:=zu k (by omega);refine za (ze [] hk5' ?_);refine za (zn rfl (zh (za (zj (za (ze [] (yG hp2 hk5 hk5' hcl hk6) ?_))))));intro v3
  by_cases hfo:p.f<p.o
  case neg =>
   have hpz:qw d p=[]:=by unfold qw;rw[if_neg hfo]
   have hfo':p.o<=p.f:=by omega
   repeat apply za
   refine ze [] hfo' ?_;refine zn (by simp[hfo']) ?_;refine zy (zb ?_);exact zq (k+1,v2) [_] (by simp;omega) (by simp;omega) (by simp[wk,hnx,hpz]) rfl (by simp[hnx,hpz];rfl)
  obtain⟨ht,ho⟩:=hok hfo;obtain⟨t,tt,t1,-,-,t0⟩:=zF rfl d p.t ht;have ht1:1<=d.length-p.t:=by omega
  have htg:d.getD p.t []=t:=by rw[Aa,t1];rfl
  unfold yK at ho;rw[htg]at ho;have hpz:qw d p=bif p.b then ((t.drop p.f).take (p.o-p.f)).reverse else (t.drop p.f).take (p.o-p.f):=by unfold qw;rw[if_pos hfo,htg]
  have hfo':¬p.o<=p.f:=by omega
  have hsl:((t.flatMap Enc.enc:List PV).drop (p.f*2)).take ((p.o-p.f)*2)=((t.drop p.f).take (p.o-p.f)).flatMap Enc.enc:=by rw[JG Enc.enc 2 (λ_=>rfl) t p.f,QS Enc.enc 2 (λ_=>rfl) (t.drop p.f) (p.o-p.f)]
  have hsl2:((t.drop p.f).take (p.o-p.f)).length=p.o-p.f:=by simp;omega
  have hsl3:(((t.drop p.f).take (p.o-p.f)).flatMap Enc.enc:List PV).length=(p.o-p.f)*2:=by rw[Y9,hsl2]
  generalize (t.drop p.f).take (p.o-p.f)=sg at *;have hof:(out.flatMap Enc.enc:List PV).length=out.length*2:=Y9 out;have hot:(out.flatMap Enc.enc:List PV).take (out.length*2)=out.flatMap Enc.enc:=Af (by omega);have q1:p.f<=p.o:=by omega
  have htl:=hdt t (Ab t1)
  repeat apply za
  refine ze [] hfo' ?_;refine zm (by simp[hfo']) ?_;refine zh (za (zb ?_));refine za (zz (some [nx,nx+3]) (Row.pures [0,1,2,3,4,5,6,7,8,9,10,11,12] (.alt 13 (Row.pures [14] .done) .stop)) mixed (yl t0 ht ht1 hof hot (zS hsl hsl2 q1 ho)) ?_);refine⟨by omega,?_⟩;have hsgl:sg.length<=1000:=by
   have h1:=hdt t (Ab t1);omega
  cases hpb:p.b with
  | false =>
   rw[hpb]at hpz;simp only[cond_false]at hpz;refine za (ze [] hpb ?_);refine zm rfl (zh (zb ?_));exact zq (k+1,v2+1) [_] (by simp;omega) (by simp;omega) (by simp[wk,hnx,hpz,hsl2]) rfl (by simp[hnx,hpz];rfl)
  | true =>
   rw[hpb]at hpz;simp only[cond_true]at hpz;have hrev:=λ(S:Store) (id ver:Nat) h=>Zol (S:=S) (id:=id) (ver:=ver) out sg (by simp;omega) h
   rw[hsl2]at hrev;refine za (ze [] hpb ?_);refine zn rfl (zb ?_);refine λhsuf=>((hrev _ _ _ (by rw[zU,Av];rfl)).mono ?_).v
   rintro _ _ rfl;refine⟨_,_,yg _ (by omega) (by simp),jH [] (show nx+2-nx=2 by omega) hsuf ?_⟩;refine zb ?_;exact zq (k+1,v2+1) [_] (by simp;omega) (by simp;omega) (by simp[wk,hnx,hpz,hsl2]) rfl (by simp[hnx,hpz];rfl)
 ·obtain rfl:k=5:=by omega
  generalize (r.l.take 5).flatMap (qw d)=out at *;refine za (zb ?_);refine za (zm rfl (zy (yb 2 rfl ?_)));refine za (zb ?_);exact zg (zi hd (by simp;rfl) (by simp[zp]))
open Go Hp
theorem Zga{α:Type}{d:List α}(hn:d.Nodup){i j:Nat}{t:α}(hi:d[i]?=some t)(hj:d[j]?=some t):i=j:=by
 obtain⟨g1,g2⟩:=Ac.1 hi;obtain⟨g3,g4⟩:=Ac.1 hj;have hp:=BD.1 hn;rcases Nat.lt_trichotomy i j with h | h | h
 ·exact absurd (g2.trans g4.symm) (hp i j g1 g3 h)
 ·exact h
 ·exact absurd (g4.trans g2.symm) (hp j i g3 g1 h)
def j9(f:zK->Bool):zk->Int
 | []=>-1
 | t :: d=>if 0<=j9 f d then j9 f d+1 else if f t then 0 else -1
theorem Zgb(f:zK->Bool):∀d:zk,(j9 f d=-1/\∀t∈d,f t=false)\/∃(k:Nat) (t:zK),d[k]?=some t/\f t=true/\j9 f d=k
 | []=>.inl ⟨rfl,λt h=>by cases h⟩
 | u :: d=>by
  unfold j9;rcases Zgb f d with ⟨h1,h2⟩ | ⟨k,t,h1,h2,h3⟩
  ·rw[h1,if_neg (by omega)];cases hu:f u with
   | true=>exact .inr ⟨0,u,rfl,hu,by simp⟩
   | false =>
    refine .inl ⟨by simp,λt ht=>?_⟩;rcases Aq.1 ht with rfl | ht
    ·exact hu
    ·exact h2 t ht
  ·rw[h3,if_pos (by omega)];exact .inr ⟨k+1,t,by simpa using h1,h2,by simp⟩
def Zb5(d:zk)(a b:Nat)(t:zK)(k:Nat):zk:=(List.range k).flatMap λj=>if j=a then [t] else if j=b then [] else [d.getD j []]
def YF(c:Int)(t:zK):Bool:=decide (Qc t=some c)
def YG(c:Int)(t:zK):Bool:=decide (Q1 t=some c)
def YH(x:Inst)(d:zk)(p:Pr):zk :=
 if j9 (YF p.a) d<0\/j9 (YG p.b) d<0\/j9 (YF p.a) d=j9 (YG p.b) d\/(p.s<=0/\(d.length:Int)<=x.veh) then d
 else if zP x (d.getD (j9 (YF p.a) d).toNat []++d.getD (j9 (YG p.b) d).toNat [])=0 then
  Zb5 d (j9 (YF p.a) d).toNat (j9 (YG p.b) d).toNat (d.getD (j9 (YF p.a) d).toNat []++d.getD (j9 (YG p.b) d).toNat []) d.length
 else d
theorem Zb6{α β γ:Type}{f:α->List γ}{g:β->List γ}:∀(A:List α) (B:List β),A.length=B.length->(∀(j:Nat) a b,A[j]?=some a->B[j]?=some b->f a=g b)->A.flatMap f=B.flatMap g
 | [],[],_,_=>rfl
 | a :: A,b :: B,hl,h=>by
  rw[AA,AA,h 0 a b rfl rfl,Zb6 A B (by simpa using hl) λj a b ha hb=>h (j+1) a b (by simpa using ha) (by simpa using hb)]
 | [],_ :: _,hl,_=>by simp at hl
 | _ :: _,[],hl,_=>by simp at hl
theorem Zb7{α:Type}(p:α->Bool):∀l:List α,l.filter p=l.flatMap λa=>if p a then [a] else []
 | []=>rfl
 | a :: l=>by
  rw[AA,<-Zb7 p l,Cd];cases p a<;>simp
structure Apt (T:zk):Prop where
 u:∀(i j:Nat) t s s',T[i]?=some t->s∈t->∀t',T[j]?=some t'->s'∈t'->s.c=s'.c->i=j
theorem JI.apt{ss:List Stop}{T:zk}{g:Int->Option Int}(h:JI ss T g):Apt T:=⟨λi j t s s' hi hs t' hj hs' e=>by
 have e1:=h.g i t s hi hs;have e2:=h.g j t' s' hj hs';rw[e,e2]at e1;have:=Option.some.inj e1;omega⟩
abbrev ne(t:zK):Bool:=!t.isEmpty
theorem Wm{t:zK}(h:ne t=true):∃s,s∈t:=by
 cases t with
 | nil=>cases h
 | cons s t=>exact⟨s,by simp⟩
theorem Wn{t:zK}{s:Stop}(h:s∈t):ne t=true:=by
 cases t with
 | nil=>cases h
 | cons s t=>rfl
def J8(ta tb u:zK):zk:=if u=ta then [ta++tb] else if u=tb then [] else [u]
theorem Zon{T:zk}(hA:Apt T){i k:Nat}{ta tb:zK}(hi:T[i]?=some ta)(hk:T[k]?=some tb)(hik:i≠k)(ha:ne ta=true)(hb:ne tb=true):
  ((T.set i (ta++tb)).set k []).filter ne=(T.filter ne).flatMap (J8 ta tb):=by
 rw[Zb7 ne T,List.flatMap_assoc,Zb7];refine Zb6 _ _ (by simp) λj u v hu hv=>?_
 obtain⟨sa,hsa⟩:=Wm ha;obtain⟨sb,hsb⟩:=Wm hb;have hjl:=(Ac.1 hv).1
 by_cases h1:k=j
 ·subst h1;rw[AX (by simpa using hjl)]at hu;cases hu;obtain rfl:tb=v:=by rw[hk]at hv;exact Option.some.inj hv
  have hne:tb≠ta:=by
   rintro rfl;exact hik (hA.u i k tb sb sb hi hsb tb hk hsb rfl)
  rw[if_pos hb];simp[J8,hne]
 ·rw[AP h1]at hu
  by_cases h2:i=j
  ·subst h2;rw[AX hjl]at hu;cases hu;obtain rfl:ta=v:=by rw[hi]at hv;exact Option.some.inj hv
   rw[if_pos ha,if_pos (Wn (s:=sa) (by simp[hsa]))];simp[J8]
  ·rw[AP h2]at hu;obtain rfl:u=v:=by rw[hv]at hu;exact(Option.some.inj hu).symm
   cases hn:ne u with
   | false=>simp
   | true =>
    obtain⟨su,hsu⟩:=Wm hn;have n1:u≠ta:=by rintro rfl;exact h2 (hA.u i j u su su hi hsu u hv hsu rfl)
    have n2:u≠tb:=by rintro rfl;exact h1 (hA.u k j u su su hk hsu u hv hsu rfl)
    simp[J8,n1,n2]
theorem Zoo{T:zk}(hA:Apt T):(T.filter ne).Nodup:=by
 rw[List.nodup_iff_pairwise_ne,List.pairwise_filter,BD];intro i j hi hj hij h1 h2 e;obtain⟨s,hs⟩:=Wm h1;have:=hA.u i j T[i] s s (Ad hi) hs T[j] (Ad hj) (e ▸ hs) rfl;omega
theorem Zop{d:zk}(hn:d.Nodup){a b:Nat}{ta tb:zK}(ha:d[a]?=some ta)(hb:d[b]?=some tb):Zb5 d a b (ta++tb) d.length=d.flatMap (J8 ta tb):=by
 unfold Zb5;refine Zb6 _ _ (by simp) λj n u hj hu=>?_
 rw[AQ (Ac.1 hu).1]at hj;cases hj;have same:∀{k:Nat} {t:zK},d[k]?=some t->(j=k<->u=t):=by
  intro k t hk;constructor
  ·rintro rfl;rw[hu]at hk;exact Option.some.inj hk
  ·rintro rfl;exact Zga hn hu hk
 have e1:=same ha;have e2:=same hb;have hg:d.getD j []=u:=by rw[Aa,hu];rfl
 unfold J8
 by_cases h1:j=a
 ·rw[if_pos h1,if_pos (e1.1 h1)]
 ·rw[if_neg h1,if_neg λe=>h1 (e1.2 e)]
  by_cases h2:j=b
  ·rw[if_pos h2,if_pos (e2.1 h2)]
  ·rw[if_neg h2,if_neg λe=>h2 (e2.2 e),hg]
theorem Zgc{T:zk}(hA:Apt T){i:Nat}{t:zK}{s:Stop}(hi:T[i]?=some t)(hs:s∈t)(f:zK->Bool)(hf:∀u,f u=true->∃s'∈u,s'.c=s.c):
  (f t=false/\j9 f (T.filter ne)=-1)\/(f t=true/\∃k:Nat,(T.filter ne)[k]?=some t/\j9 f (T.filter ne)=k):=by
 have uniq:∀u∈T.filter ne,f u=true->u=t:=by
  intro u hu hfu;obtain⟨s',hs',e⟩:=hf u hfu;obtain⟨j,hj⟩:=Bj.1 (Bd.1 hu).1;have:=hA.u i j t s s' hi hs u hj hs' e.symm;subst this;rw[hi]at hj;exact(Option.some.inj hj).symm
 have ht:t∈T.filter ne:=Bd.2 ⟨Ab hi,Wn hs⟩;rcases Zgb f (T.filter ne) with ⟨h1,h2⟩ | ⟨k,u,h1,h2,h3⟩
 ·exact .inl ⟨h2 t ht,h1⟩
 ·have:=uniq u (Ab h1) h2;subst this;exact .inr ⟨h2,k,h1,h3⟩
theorem Zoq{c:Int}{t:zK}(h:YF c t=true):∃s∈t,s.c=c:=by
 have h:Qc t=some c:=of_decide_eq_true h;unfold Qc at h;obtain⟨s,h1,h2⟩:=Ap.1 h;exact⟨s,Ab h1,h2⟩
theorem Zor{c:Int}{t:zK}(h:YG c t=true):∃s∈t,s.c=c:=by
 have h:Q1 t=some c:=of_decide_eq_true h;unfold Q1 at h;obtain⟨s,h1,h2⟩:=Ap.1 h;exact⟨s,Ab h1,h2⟩
theorem Zb8(p:zK->Bool):∀T:zk,((T.filter p).length:Int)=(T.map λt=>if p t then (1:Int) else 0).sum
 | []=>rfl
 | t :: T=>by
  rw[Cd,Ax,BP,<-Zb8 p T];cases p t<;>simp<;>omega
theorem Zos{T:zk}{i k:Nat}{ta tb:zK}(hi:T[i]?=some ta)(hk:T[k]?=some tb)(hik:i≠k)(ha:ne ta=true)(hb:ne tb=true):
  ((((T.set i (ta++tb)).set k []).filter ne).length:Int)=((T.filter ne).length:Int)-1:=by
 obtain⟨sa,hsa⟩:=Wm ha;rw[Zb8,Zb8,ZbW _ _ k tb [] (by rw[AP hik];exact hk),ZbW _ _ i ta (ta++tb) hi];have hn:ne (ta++tb)=true:=Wn (s:=sa) (by simp[hsa]);simp only[ha,hb,hn,if_true];simp
theorem Zot{x:Inst}{ss:List Stop}{st:zk × Int}{g:Int->Option Int}(h:JI ss st.1 g)(hnum:st.2=((st.1.filter ne).length:Int)){p:Pr}(hpa:p.a∈ss.map (·.c))(hpb:p.b∈ss.map (·.c)):
  YH x (st.1.filter ne) p=(q8 x st p).1.filter ne/\(q8 x st p).2=(((q8 x st p).1.filter ne).length:Int)/\∃g',JI ss (q8 x st p).1 g':=by
 obtain⟨i,a,sa,hia,hsa,hsac,hga,hpi⟩:=h.there hpa;obtain⟨k,b,sb,hkb,hsb,hsbc,hgb,hpk⟩:=h.there hpb;have hgi:st.1.getD i []=a:=by rw[Aa,hia];rfl
 have hgk:st.1.getD k []=b:=by rw[Aa,hkb];rfl
 have hdef:q8 x st p=bif qv x st.2 p i k a b then ((st.1.set i (a++b)).set k [],st.2-1) else st:=by
  unfold q8 We;simp only[hpi,hpk,hgi,hgk]
 have hA:=h.apt;have hna:=Wn hsa;have hnb:=Wn hsb;have hnd:=Zoo hA;rw[hdef];have stay:qv x st.2 p i k a b=false->YH x (st.1.filter ne) p=st.1.filter ne->YH x (st.1.filter ne) p=(bif qv x st.2 p i k a b then ((st.1.set i (a++b)).set k [],st.2-1) else st).1.filter ne/\(bif qv x st.2 p i k a b then ((st.1.set i (a++b)).set k [],st.2-1) else st).2=(((bif qv x st.2 p i k a b then ((st.1.set i (a++b)).set k [],st.2-1) else st).1.filter ne).length:Int)/\∃g',JI ss (bif qv x st.2 p i k a b then ((st.1.set i (a++b)).set k [],st.2-1) else st).1 g':=by
  intro e1 e2;rw[e1];exact⟨e2,hnum,g,h⟩
 rcases Zgc hA hia hsa (YF p.a) (λu hu=>by rw[hsac];exact Zoq hu) with ⟨fa,la⟩ | ⟨fa,ka,ha1,la⟩
 ·have e1:Qc a≠some p.a:=of_decide_eq_false fa;refine stay (by simp[qv,e1]) ?_;unfold YH;rw[if_pos (.inl (by omega))]
 rcases Zgc hA hkb hsb (YG p.b) (λu hu=>by rw[hsbc];exact Zor hu) with ⟨fb,lb⟩ | ⟨fb,kb,hb1,lb⟩
 ·have e1:Q1 b≠some p.b:=of_decide_eq_false fb;refine stay (by simp[qv,e1]) ?_;unfold YH;rw[if_pos (.inr (.inl (by omega)))]
 have e1:Qc a=some p.a:=of_decide_eq_true fa;have e2:Q1 b=some p.b:=of_decide_eq_true fb;have hab:ka=kb<->i=k:=by
  constructor
  ·rintro rfl;obtain rfl:a=b:=by rw[ha1]at hb1;exact Option.some.inj hb1
   exact hA.u i k a sa sa hia hsa a hkb hsa rfl
  ·rintro rfl;obtain rfl:a=b:=by rw[hia]at hkb;exact Option.some.inj hkb
   exact Zga hnd ha1 hb1
 have ga:(st.1.filter ne).getD (ka:Int).toNat []=a:=by rw[AT,Aa,ha1];rfl
 have gb:(st.1.filter ne).getD (kb:Int).toNat []=b:=by rw[AT,Aa,hb1];rfl
 by_cases hik:i=k
 ·refine stay (by simp[qv,hik]) ?_;unfold YH;rw[if_pos (.inr (.inr (.inl (by rw[la,lb,hab.2 hik]))))]
 by_cases hfew:p.s<=0/\st.2<=x.veh
 ·refine stay (by simp[qv,hfew.1,hfew.2]) ?_;unfold YH;rw[if_pos (.inr (.inr (.inr ⟨hfew.1,by omega⟩)))]
 have hcond:¬(j9 (YF p.a) (st.1.filter ne)<0\/j9 (YG p.b) (st.1.filter ne)<0\/j9 (YF p.a) (st.1.filter ne)=j9 (YG p.b) (st.1.filter ne)\/(p.s<=0/\((st.1.filter ne).length:Int)<=x.veh)):=by
  rw[la,lb];rintro(q | q | q | q)
  ·omega
  ·omega
  ·exact hik (hab.1 (by omega))
  ·exact hfew ⟨q.1,by omega⟩
 by_cases hmay:zP x (a++b)=0
 ·have hc:qv x st.2 p i k a b=true:=by
   unfold qv;simp only[hik,e1,e2,hmay,Au,decide_eq_true_eq,ne_eq,not_false_eq_true,Co,Bool.and_eq_false_iff,decide_eq_false_iff_not,and_true,true_and]
   by_cases q:p.s<=0
   ·exact .inr λe=>hfew ⟨q,e⟩
   ·exact .inl q
  rw[hc];simp only[cond_true];refine⟨?_,?_,_,h.join hia hkb hik⟩
  ·unfold YH;rw[if_neg hcond,la,lb,ga,gb,if_pos hmay,Zon hA hia hkb hik hna hnb,<-Zop hnd ha1 hb1];rfl
  ·rw[Zos hia hkb hik hna hnb,hnum]
 ·refine stay (by simp[qv,hmay]) ?_;unfold YH;rw[if_neg hcond,la,lb,ga,gb,if_neg hmay]
theorem Zou(ss:List Stop):(ss.map λs=>[s]).filter ne=qI ss:=by
 unfold qI;rw[Dd];intro t ht;obtain⟨s,_,rfl⟩:=An.1 ht;rfl
open Go Hp
theorem Zgd(l:List Stop):(qI l).length=l.length:=by simp[qI]
theorem Zov{x:Inst}{ss:List Stop}{T:zk}{g:Int->Option Int}(h:JI ss T g)(hss:ss.length<=1000):(T.filter ne).length<=1000/\(T.filter ne).flatten.length<=1000/\∀t∈T.filter ne,t≠[]:=by
 have hf:(T.filter ne).flatten=T.flatten:=by
  induction T with
  | nil=>rfl
  | cons t T ih =>
   clear h;have key:∀T:zk,(T.filter ne).flatten=T.flatten:=by
    intro T
    induction T with
    | nil=>rfl
    | cons t T ih =>
     rw[Cd];cases t with
     | nil=>simpa using ih
     | cons s t=>simp[ih]
   exact key _
 have hne:∀t∈T.filter ne,t≠[]:=λt ht e=>by
  have:=(Bd.1 ht).2;rw[e]at this;cases this
 have hl:=h.perm.length_eq;have h1:=VU (T.filter ne) hne;rw[hf]at h1;exact⟨by omega,by rw[hf];omega,hne⟩
open Go Go.Proofs Hp
structure SOk (x:Inst) (l:List Stop):Prop where
 cust:x.cust.length<=1048576
 arc:qU x
 veh:0<=x.veh
 len:l.length<=1000
 sm:∀s∈l,qe s.c
 nd:(l.map (·.c)).Nodup
def Qj(x:Inst)(l:List Stop):List zk:=[wR x l,qI l]++(bif (q9 x l).2 then [(q9 x l).1] else [])
def Zr(x:Inst)(imp:zk->zk)(l:List Stop):List zk:=[qI l,imp (wR x l),imp (qI l)]++(bif (q9 x l).2 then [imp (q9 x l).1] else [])
theorem Zge{x:Inst}(hx:x.cust.length<=1048576):∀(n:Nat) (d:zk) (l:List Stop),l.length=n->RgOk x d l->RgOk x (ud x n d l).1 []/\((ud x n d l).2=true->(ud x n d l).1.flatten.Perm (d.flatten++l))
 | 0,d,l,hl,h=>by
  obtain rfl:l=[]:=Aw hl;exact⟨h,λ_=>by simp[ud]⟩
 | n+1,d,l,hl,h=>by
  have hne:l≠[]:=λe=>by rw[e]at hl;cases hl
  obtain⟨k,hu,hk⟩:=Zf2 (x:=x) (d:=d) hne;have hg:l.getD k default=l[k]:=by rw[Aa,Ad hk];rfl
  unfold ud;rw[hu,AT,hg];cases hi:(yL x d l[k]).2 with
  | false =>
   refine⟨⟨h.ok,h.may,?_⟩,λe=>by cases e⟩;have:=h.len;simp only[cond_false,Ah];omega
  | true =>
   simp only[cond_true];obtain⟨h1,h2⟩:=Zge hx n (yL x d l[k]).1 (l.eraseIdx k) (by rw[BZ hk];omega) (h.step hx hk hi);refine⟨h1,λe=>(h2 e).trans ?_⟩;have hp:=ZbT hi;refine(hp.append_right _).trans ?_;have he:(l[k] :: l.eraseIdx k).Perm l:=by
    rw[CY];have:=CH (a:=l[k]) (l₁:=l.take k) (l₂:=l.drop (k+1));refine this.symm.trans ?_;rw[<-List.drop_eq_getElem_cons hk,List.take_append_drop]
   rw[List.cons_append];refine CH.symm.trans ?_;exact he.append_left _
section
variable {x:Inst} {l:List Stop} (h:SOk x l)
include h
theorem SOk.apart:DayOk (qI l)/\(qI l).flatten=l/\(qI l).length<=1000:=by
 have hf:(qI l).flatten=l:=by
  unfold qI;clear h
  induction l with
  | nil=>rfl
  | cons s l ih=>simpa using ih
 refine⟨⟨?_,λt ht=>?_,λt ht a ha=>?_⟩,hf,?_⟩
 ·rw[Zgd];have:=h.len;omega
 ·obtain⟨s,_,rfl⟩:=An.1 ht;simp
 ·obtain⟨s,hs,rfl⟩:=An.1 ht;simp at ha;subst ha;exact h.sm _ hs
 ·rw[Zgd];exact h.len
theorem SOk.join:DayOk (wR x l)/\(wR x l).flatten.Perm l/\(wR x l).length<=1000/\∀t∈wR x l,t≠[]:=by
 obtain⟨g,hg⟩:=JI.begin l [] [] _ JI.nil (by simpa using h.nd);have key:∀(ps:List Pr) (st:zk × Int),(∃g,JI l st.1 g)->st.2=((st.1.filter ne).length:Int)->(∀p∈ps,p.a∈l.map (·.c)/\p.b∈l.map (·.c))->∃g,JI l (ps.foldl (q8 x) st).1 g:=by
  intro ps
  induction ps with
  | nil=>intro st hg _ _;exact hg
  | cons p ps ih =>
   rintro st ⟨g,hg⟩ hn hp;obtain⟨h1,h2⟩:=hp p (by simp);obtain⟨e1,e2,e3⟩:=Zot (x:=x) hg hn h1 h2;rw[A8];exact ih _ e3 e2 λq hq=>hp q (by simp[hq])
 obtain⟨g',hg'⟩:=key (qT x (l.map (·.c))) (l.map λs=>[s],(l.length:Int)) ⟨g,by simpa using hg⟩ (by rw[Zou];simp[qI]) λp hp=>by
  have:=Wc.1 ((Q0 x _).subset hp);exact⟨this.1,this.2.1⟩
 have hjp:wR x l=((qT x (l.map (·.c))).foldl (q8 x) (l.map λs=>[s],(l.length:Int))).1.filter ne:=rfl;obtain⟨w1,w2,w3⟩:=Zov (x:=x) hg' h.len;have hfl:∀T:zk,(T.filter ne).flatten=T.flatten:=by
  intro T
  induction T with
  | nil=>rfl
  | cons t T ih =>
   rw[Cd];cases t with
   | nil=>simpa using ih
   | cons s t=>simp[ih]
 have hp:(wR x l).flatten.Perm l:=by rw[hjp,hfl];exact hg'.perm
 rw[<-hjp]at w1 w2 w3;refine⟨⟨by omega,λt ht=>?_,λt ht a ha=>?_⟩,hp,w1,w3⟩
 ·have:=(YD ht).length_le;omega
 ·exact h.sm a (hp.subset ((YD ht).subset ha))
theorem SOk.regret:RgOk x (q9 x l).1 []/\((q9 x l).2=true->(q9 x l).1.flatten.Perm l):=by
 have:=Zge h.cust l.length [] l rfl (Zf3 h.veh h.len);simpa[q9] using this
end
def Zgf(x:Inst)(b:Int)(imp:zk->zk)(ds:List zk):Prop:=∀d∈ds,(∃n,Pure prog 252 [.agg (zx x),.agg [L d],I b] (.tup [.agg [L (imp d)],I n]))/\DayOk (imp d)/\(imp d).flatten.length<=1048576
theorem Zow(x:Inst)(l:List Stop)(b:Int)(imp:zk->zk)(h:SOk x l)(hI:wv x l=0->Zgf x b imp (Qj x l)):
  Pure prog 249 [.agg (zx x),L l,I b] (.tup [.agg [L (vA x (wv x l) (Zr x imp l)).1],I (vA x (wv x l) (Zr x imp l)).2]):=by
 have hF:=Zlo x l h.cust (by have:=h.len;omega)
 by_cases he:wv x l=0
 case neg=>exact Zfm x (L l) b _ _ (Q4 l) h.cust hF (λe=>absurd e he) λe=>absurd e he
 have hI:=hI he;have hA:=Zln l (by have:=h.len;omega);have hJ:=Zm3 x l h.arc h.cust h.len h.sm h.nd;have hR:=Zn8 x l h.cust h.veh h.len;obtain⟨⟨n1,i1⟩,o1,f1⟩:=hI (wR x l) (by simp[Qj]);obtain⟨⟨n2,i2⟩,o2,f2⟩:=hI (qI l) (by simp[Qj]);obtain⟨a1,a2,a3⟩:=h.apart;have h3:(q9 x l).2=true->(∃n,Pure prog 252 [.agg (zx x),.agg [L (q9 x l).1],I b] (.tup [.agg [L (imp (q9 x l).1)],I n]))/\DayOk (imp (q9 x l).1)/\(imp (q9 x l).1).flatten.length<=1048576:=λe=>hI _ (by simp[Qj,e])
 have hlen:=h.len;have hit:=Zm8 (fsL x (L l) b) [some (qI l),some (imp (wR x l)),some (imp (qI l)),bif (q9 x l).2 then some (imp (q9 x l).1) else none] rfl (by simp) (by
  intro k f hf
  match k with
  | 0=>cases hf;exact⟨_,_,L (qI l),rfl,Zm5 (L l) (qI l) (Q4 l) hA,λd hd=>by cases hd;rfl⟩
  | 1=>cases hf;exact⟨_,_,L (imp (wR x l)),rfl,Zm6 x (L l) b _ _ _ (Q4 l) hJ i1,λd hd=>by cases hd;rfl⟩
  | 2=>cases hf;exact⟨_,_,L (imp (qI l)),rfl,Zm7 x (L l) b _ _ _ (Q4 l) hA i2,λd hd=>by cases hd;rfl⟩
  | 3 =>
   cases hf;cases hall:(q9 x l).2 with
   | true =>
    obtain⟨⟨n3,i3⟩,-⟩:=h3 hall;rw[hall]at hR;exact⟨_,_,L (imp (q9 x l).1),rfl,Zfl x (L l) b _ _ true n3 (Q4 l) hR (λ_=>i3),λd hd=>by cases hd;rfl⟩
   | false =>
    rw[hall]at hR;exact⟨_,_,yp,rfl,Zfl x (L l) b _ [] false 0 (Q4 l) hR (λe=>by cases e),λd hd=>by cases hd⟩
  | k+4=>cases hf)
 have hds:([some (qI l),some (imp (wR x l)),some (imp (qI l)),bif (q9 x l).2 then some (imp (q9 x l).1) else none]:List (Option zk)).filterMap id=Zr x imp l:=by
  unfold Zr;cases (q9 x l).2<;>rfl
 rw[hds]at hit;refine Zfm x (L l) b (wv x l) (Zr x imp l) (Q4 l) h.cust hF (λ_=>hit) λ_ d hd=>?_
 unfold Zr at hd;simp only[List.cons_append,AS,Aq]at hd;rcases hd with rfl | rfl | rfl | hd
 ·exact⟨a1,by rw[a2];omega⟩
 ·exact⟨o1,f1⟩
 ·exact⟨o2,f2⟩
 ·cases hall:(q9 x l).2 with
  | true =>
   rw[hall]at hd;simp at hd;subst hd;exact(h3 hall).2
  | false=>rw[hall]at hd;simp at hd
open Go Go.Proofs Hp
theorem Zox{P:Program}{r:Rd}{n:Nat}{F:Nat->PV}{S:Store}{o:Oper}{t e:TypeId}{len:Nat}{parts:Array (Nat × Operand)}{cs:List PV}{K:PV->Store->Prop}(ho:o.op=.buildSlice t len parts)(ht:P.underlying t=some (.slice e))(h0:P.cellsOf e≠0)(hlen:len<=1048576)
  (hl:Zd P e len (parts.toList.map λx=>(x.1,ev F x.2))=some cs)
  (hK:∀C:Ctx,S C.next=.dead->∃id v,Fresh C S id v/\K (.sl id v (P.cellsOf e) 0 len) (S.set id (.cells v e cs))):PO P r n o F S K:=by
 intro G hG C w a N st next Q' hnext;have hmap:parts.toList.map (λx=>(x.1,ev G x.2))=parts.toList.map (λx=>(x.1,ev F x.2)):=AK λx hx=>by
  rw[hG x.2 (by simp only[ho,Op.operands,Dy,An];first | exact⟨x,hx,rfl⟩ | (simp;exact⟨x.1,by simpa using hx⟩))]
 rw[<-hmap]at hl;obtain⟨vs,hrun,hr,hsz⟩:=ZaL (w:=w) ht (ev G) a.eval st.ev hl;obtain⟨id,ver,hfr,hK⟩:=hK C st.sim.free;obtain⟨k1,k2⟩:=st.sim.object' hfr e vs cs (Cz hr.1) (λi v _ hv=>hr.2.1 i v hv) hr.2.2;refine qb (x:=.value (.slice (some ⟨w.heap.size,0,none⟩) len len)) (w':=w.alloc (.cells vs e)) (by intro c hc;rw[ho]at hc;cases hc) ?_
  (hnext _ _ _ _ _ hK (XU C S w _ _ _ _ _ _ _ _ rfl (Ag _) (by unfold jq;omega) (by unfold maxLen;omega) hsz.symm) k1 k2)
 unfold execOp;simp only[ho];have e1:(parts.map λx=>(x.1,a.eval x.2))=(parts.toList.map λx=>(x.1,a.eval x.2)).toArray:=by
  apply BN.1;simp
 simp only[e1,hrun,Sem.run_bind,Sem.run_pure,Am]
theorem Zoy{P:Program}{r:Rd}{n nx:Nat}{F:Nat->PV}{S:Store}{obs:List Ob}{o:Oper}{t e:TypeId}{len:Nat}{parts:Array (Nat × Operand)}{cs:List PV}{K:PV->Store->Prop}(ho:o.op=.buildSlice t len parts)(ht:P.underlying t=some (.slice e))(h0:P.cellsOf e≠0)(hlen:len<=1048576)
  (hl:Zd P e len (parts.toList.map λx=>(x.1,ev F x.2))=some cs) (hK:∀v,K (.sl (nx+obs.length) v (P.cellsOf e) 0 len) (ext S nx (obs++[.cells v e cs]))):PO P r n o F (ext S nx obs) K :=
 Zox ho ht h0 hlen hl (ZO (X:=λid v=>K (.sl id v (P.cellsOf e) 0 len) ((ext S nx obs).set id (.cells v e cs))) _ uN λv=>by rw[qN];exact hK v)
open Go Go.Proofs
theorem Zoz{P:Program}{r:Rd}{n nx N:Nat}{Q:Exit->(Nat->PV)->Store->Prop}{F:Nat->PV}{S:Store}{obs:List Ob}{A:Prop}{R:Nat->KT->CT->HT->Prop}{id:Nat}{ops:Array Oper}{o:Oper}{os:List Oper}{t e:TypeId}{len:Nat}{parts:Array (Nat × Operand)}
  (D:List (Nat × Nat)) (cs:List PV) (ht:P.underlying t=some (.slice e)) (a:A) (h:∀v,R v (λF' S' obs'=>Q .normal F' (ext S' nx obs')) (CQ P r n nx ops λF' S' obs'=>Q .normal F' (ext S' nx obs')) (HQ P r n nx ops λF' S' obs'=>Q .normal F' (ext S' nx obs')))
  (hops:ops.toList=o :: os:=by rfl) (hg:o.guard=none:=by rfl) (ho:o.op=.buildSlice t len parts:=by rfl) (h0:P.cellsOf e≠0:=by simp) (hlen:len<=1048576:=by decide)
  (hl:Zd P e len (parts.toList.map λx=>(x.1,ev F x.2))=some cs:=by simp[Zd,ZN]) (hN:wL N ops=true:=by rfl) (hD:ur ops D=true:=by rfl)
  (hR:A->∀v,XQ P nx D os (zX F o.dst (.sl (nx+obs.length) v (P.cellsOf e) 0 len)) S (obs++[.cells v e cs]) (R v):=by intro a v K Gc Gh X hX0 hX h;simp -implicitDefEqProofs [hX0,hX,a];exact h):PW P r n N (.region id ops false) Q F (ext S nx obs):=by
 refine Vz hN ?_;rw[hops];unfold XS;have:gd ops F o=some true:=by unfold gd;rw[hg]
 rw[this];exact Zoy ho ht h0 hlen hl λv=>⟨_,_,rfl,QU (by rw[hops];exact List.suffix_cons _ _) hD (hR a v) (h v)⟩
def yy(x:Inst)(t:zK):Nat->Int
 | 0=>0
 | i+1=>yy x t i+arc x ((t.getD i default).c+1) ((t.getD (i+1) default).c+1)
def yA(x:Inst)(t:zK):Nat->Int
 | 0=>0
 | i+1=>yA x t i+arc x ((t.getD (i+1) default).c+1) ((t.getD i default).c+1)
theorem J9{x:Inst}(h:qU x)(t:zK):∀i:Nat,0<=yy x t i/\yy x t i<=2147483648*(i:Int)
 | 0=>by simp[yy]
 | i+1=>by
  have h1:=J9 h t i;have h2:=h ((t.getD i default).c+1) ((t.getD (i+1) default).c+1);unfold yy;omega
theorem Xa{x:Inst}(h:qU x)(t:zK):∀i:Nat,0<=yA x t i/\yA x t i<=2147483648*(i:Int)
 | 0=>by simp[yA]
 | i+1=>by
  have h1:=Xa h t i;have h2:=h ((t.getD (i+1) default).c+1) ((t.getD i default).c+1);unfold yA;omega
structure Sm where
 f:List Int
 b:List Int
 l:List Int
 n:Int
instance:Enc Sm:=⟨λs=>[L s.f,L s.b,L s.l,I s.n],4,λ_=>rfl,λ_=>rfl⟩
@[simp] theorem ZxR(s:Sm):Enc.enc s=[L s.f,L s.b,L s.l,I s.n]:=rfl
@[simp high] theorem Zgg(l:List Sm):(l.flatMap Enc.enc).length=l.length*4:=j4 l
@[simp high] theorem ZxS(l:List Sm):(l.flatMap Enc.enc).take (l.length*4)=l.flatMap Enc.enc:=YA l
def xe(x:Inst)(t:zK):Sm:=⟨(List.range t.length).map (yy x t),(List.range t.length).map (yA x t),(List.range (t.length+1)).map λi=>zQ (t.take i),yC x (t.map (·.c))⟩
abbrev uD(x:Inst)(d:zk):List PV:=[I x.days,I x.veh,I x.cap,I x.len,L x.cust,L x.dist,L d,L (d.map (xe x))]
structure MvDay (d:zk):Prop where
 n:d.length<=1000
 t:∀t∈d,t.length<=1000
 s:∀t∈d,∀s∈t,qe s.c/\0<=s.q/\s.q<=2147483648
theorem ZoA{t:zK}{i:Nat}{s:Stop}(h:t.take (i+1)=t.take i++[s]):zQ (t.take (i+1))=zQ (t.take i)+s.q:=by rw[h,VK]
theorem Zb9{α:Type}(f:Nat->α)(k:Nat):(List.range (k+1)).map f=(List.range k).map f++[f k]:=by rw[AO,List.map_append];rfl
theorem ZoB(id v:Nat)(cs:List PV)(l:List Sm):(l.flatMap Enc.enc).map (qi id v cs)=(l.flatMap Enc.enc:List PV):=by
 induction l with
 | nil=>rfl
 | cons s l ih=>rw[AA,List.map_append,ih];rfl
theorem ZoC(x:Inst)(d:zk)(hx:qU x)(hd':MvDay d):Pure prog 324 [.agg (zx x),.agg [L d]] (.ip (uD x d)):=by
 have hdn:=hd'.n;refine zt Tryz.func324 Tryz.ntmps324 Tryz.results324 λS nx hd=>?_
 refine za (zb ?_);intro v0 v1;refine za (zb ?_);intro v2;refine jg 2 7 410 4 rfl rfl λv3=>?_
 repeat apply za
 refine zb ?_;refine zj (zD (λs':Nat × Nat=>s'.1<=d.length) (λ(k,v3)=>[(2,.ptr nx v0 0),(5,.ptr (nx+2) v2 0),(20,L d),(21,I d.length),(22,I k)]) (λ(k,v3)=>[.cells v0 25 (zx x),.cells v1 39 [L d],.cells v2 408 [I x.days,I x.veh,I x.cap,I x.len,L x.cust,L x.dist,L d,.sl (nx+3) v3 4 0 k],.cells v3 410 (((d.map (xe x)).take k).flatMap Enc.enc)]) (λs'=>d.length-s'.1) (0,v3) [] (by simp) (by simp) (by simp) ?_);rintro⟨k,v3⟩ hk;simp only at hk ⊢;refine za (zb ?_);refine za (zv rfl (λhc=>?_) (λhc=>?_))
 ·simp at hc;obtain⟨t,tl,a1,a2,a3,e0⟩:=zF rfl d k hc;have hk1:1<=d.length-k:=by omega
  have htm:=Ab a1;have htl:=hd'.t t htm;have hts:=hd'.s t htm;have hlw:=X5 x t (by omega) (λs hs=>(hts s hs).1);have hwz:=Wl hx (t.map (·.c));rw[List.length_map]at hwz;rw[show W (yC x (t.map (·.c)))=yC x (t.map (·.c)) from wr _ (by omega) (by omega)]at hlw;refine zh (za (zj (za (ze [] (zE e0 hc hk1) ?_))));intro v4;refine za (Zoz [] [I 0] Tryz.underlying26 trivial ?_);intro v5;refine zr hlw ?_;intro v6;refine za (zb ?_);refine jg 6 0 3 1 rfl rfl λv7=>?_
  refine jg 6 1 3 1 rfl rfl λv8=>?_
  repeat apply za
  refine zb ?_;generalize hpc:(((d.map (xe x)).take k).flatMap Enc.enc:List PV)=pc at *;generalize hwl:yC x (t.map (·.c))=wl at *;refine zj (zD (λs':Nat × Nat × Nat × Nat=>s'.1<=t.length) (λ(i,v5,v7,v8)=>[(2,.ptr nx v0 0),(5,.ptr (nx+2) v2 0),(7,.ptr (nx+4) v4 0),(8,.ptr (nx+6) v6 0),(9,I (yy x t (i-1))),(10,I (yA x t (i-1))),(20,L d),(21,I d.length),(22,I k),(32,L t),(33,I t.length),(34,I i)])
   (λ(i,v5,v7,v8)=>[.cells v0 25 (zx x),.cells v1 39 [L d],.cells v2 408 [I x.days,I x.veh,I x.cap,I x.len,L x.cust,L x.dist,L d,.sl (nx+3) v3 4 0 k],.cells v3 410 pc,.cells v4 42 [L t],.cells v5 3 (((List.range (i+1)).map λi=>zQ (t.take i)).flatMap Enc.enc),
    .cells v6 410 [.sl (nx+7) v7 1 0 i,.sl (nx+8) v8 1 0 i,.sl (nx+5) v5 1 0 (i+1),I wl],.cells v7 3 (((List.range i).map (yy x t)).flatMap Enc.enc),.cells v8 3 (((List.range i).map (yA x t)).flatMap Enc.enc)]) (λs'=>t.length-s'.1) (0,v5,v7,v8) [] (by simp) (by simp[yy,yA]) (by simp[zQ]) ?_)
  rintro⟨i,v5,v7,v8⟩ hi;simp only at hi ⊢;refine za (zb ?_);refine za (zv rfl (λhci=>?_) (λhci=>?_))
  ·simp at hci;obtain⟨s,ts,s1,s2,s3,-,s0⟩:=el 2 rfl t i hci;have hi2:2<=t.length*2-i*2:=by omega
   obtain⟨hsm,hq0,hq1⟩:=hts s (Ab s1);have hgs:t.getD i default=s:=by rw[Aa,s1];rfl
   have wi:=zu i (by omega);have f1:=Zb9 (yy x t) i;have f2:=Zb9 (yA x t) i;have f3:=Zb9 (λi=>zQ (t.take i)) (i+1);have hlz:=ZoA s3;have hlb:=ZbQ (t:=t.take i) (λa ha=>(hts a (BK ha)).2);have hlt:(t.take i).length<=1000:=by rw[Ay];omega
   have wl1:IntKind.i64.wrap (zQ (t.take i)+s.q)=zQ (t.take (i+1)):=by rw[hlz];exact wr _ (by omega) (by omega)
   have g1:(((List.range i).map (yy x t)).flatMap Enc.enc:List PV).length=i:=by rw[jG];simp
   have g2:(((List.range i).map (yA x t)).flatMap Enc.enc:List PV).length=i:=by rw[jG];simp
   have g3:(((List.range (i+1)).map λi=>zQ (t.take i)).flatMap Enc.enc:List PV).length=i+1:=by rw[jG];simp
   obtain⟨lz,tlz,z1,-,-,z0⟩:=zF rfl ((List.range (i+1)).map λi=>zQ (t.take i)) i (by simp);have hlzz:lz=zQ (t.take i):=by simpa using z1.symm
   have c1:(((List.range (i+1)).map (yy x t)).flatMap Enc.enc:List PV)=((List.range i).map (yy x t)).flatMap Enc.enc++[I (yy x t i)]:=by rw[f1,Av];rfl
   have c2:(((List.range (i+1)).map (yA x t)).flatMap Enc.enc:List PV)=((List.range i).map (yA x t)).flatMap Enc.enc++[I (yA x t i)]:=by rw[f2,Av];rfl
   have c3:(((List.range (i+1+1)).map λi=>zQ (t.take i)).flatMap Enc.enc:List PV)=((List.range (i+1)).map λi=>zQ (t.take i)).flatMap Enc.enc++[I (zQ (t.take (i+1)))]:=by rw[f3,Av];rfl
   rw[hlzz]at z0;clear f1 f2 f3 z1 hlzz hlz;generalize (((List.range i).map (yy x t)).flatMap Enc.enc:List PV)=fc at *;generalize (((List.range i).map (yA x t)).flatMap Enc.enc:List PV)=bc at *;generalize (((List.range (i+1)).map λi=>zQ (t.take i)).flatMap Enc.enc:List PV)=lc at *;have t1:fc.take i=fc:=Af (by omega);have t2:bc.take i=bc:=Af (by omega);have t3:lc.take (i+1)=lc:=Af (by omega);refine zh (za (zj (za (ze [] (zE s0 hci hi2) ?_))));intro v9;apply za;refine qY (nx:=nx) (λ_:Unit=>True) (λ_=>[(2,.ptr nx v0 0),(5,.ptr (nx+2) v2 0),(7,.ptr (nx+4) v4 0),(8,.ptr (nx+6) v6 0),(9,I (yy x t i)),(10,I (yA x t i)),(11,I i),(12,.ptr (nx+9) v9 0),(20,L d),(21,I d.length),(22,I k),(32,L t),(33,I t.length),(34,I i)]) (λ_=>S)
    (λ_=>[.cells v0 25 (zx x),.cells v1 39 [L d],.cells v2 408 [I x.days,I x.veh,I x.cap,I x.len,L x.cust,L x.dist,L d,.sl (nx+3) v3 4 0 k],.cells v3 410 pc,.cells v4 42 [L t],.cells v5 3 lc,
    .cells v6 410 [.sl (nx+7) v7 1 0 i,.sl (nx+8) v8 1 0 i,.sl (nx+5) v5 1 0 (i+1),I wl],.cells v7 3 fc,.cells v8 3 bc,.cells v9 100 [I s.c,I s.q]]) ?_ ?_
   ·by_cases h0:0<i
    ·obtain⟨j,rfl⟩:∃j,i=j+1:=⟨i-1,by omega⟩;obtain⟨p,tp,p1,-,-,-,p0⟩:=el 2 rfl t j (by omega);obtain⟨hpm,-,-⟩:=hts p (Ab p1);have hgp:t.getD j default=p:=by rw[Aa,p1];rfl
     have hj2:2<=t.length*2-j*2:=by omega
     have hjl:j<t.length:=by omega
     have wj:IntKind.i64.wrap (j:Int)=(j:Int):=wr _ (by omega) (by omega);have wp:=QV hpm;have ws:=QV hsm;have ar1:=wO x (p.c+1) (s.c+1);have ar2:=wO x (s.c+1) (p.c+1);have hfz:yy x t (j+1)=yy x t j+arc x (p.c+1) (s.c+1):=by conv=>lhs;unfold yy;rw[hgs,hgp]
     have hbz:yA x t (j+1)=yA x t j+arc x (s.c+1) (p.c+1):=by conv=>lhs;unfold yA;rw[hgs,hgp]
     have b1:=J9 hx t (j+1);have b2:=Xa hx t (j+1);have wf:IntKind.i64.wrap (yy x t j+arc x (p.c+1) (s.c+1))=yy x t (j+1):=by rw[hfz]at b1 ⊢;exact wr _ (by omega) (by omega)
     have wb:IntKind.i64.wrap (yA x t j+arc x (s.c+1) (p.c+1))=yA x t (j+1):=by rw[hbz]at b2 ⊢;exact wr _ (by omega) (by omega)
     simp only[Cc];have h0':(0:Int)<((j+1:Nat):Int):=by omega
     refine za (ze [] (zo h0 h0') ?_);refine zn (by simp) ?_;refine za (zz (some [nx+4,nx+9]) (Row.pures [0,1,2,3,4,5,6,7,8,9,10,11,12] .done) mixed (yl wj p0 hjl hj2 wp ws) ?_);refine za (zb ?_);refine qt [] ar1 wf ?_;refine zb ?_;refine qt [] ar2 wb ?_;exact zY () [] trivial (by simp) rfl (by simp)
    ·obtain rfl:i=0:=by omega
     refine za (zb ?_);exact zm rfl (zh (zY () [] trivial (by simp) rfl (by simp)))
   ·rintro⟨⟩ -;apply za;refine qY (nx:=nx) (λ_:Unit=>True) (λ_=>[(2,.ptr nx v0 0),(5,.ptr (nx+2) v2 0),(7,.ptr (nx+4) v4 0),(8,.ptr (nx+6) v6 0),(9,I (yy x t i)),(10,I (yA x t i)),(11,I i),(12,.ptr (nx+9) v9 0),(20,L d),(21,I d.length),(22,I k),(32,L t),(33,I t.length),(34,I i)]) (λ_=>S)
     (λ_=>[.cells v0 25 (zx x),.cells v1 39 [L d],.cells v2 408 [I x.days,I x.veh,I x.cap,I x.len,L x.cust,L x.dist,L d,.sl (nx+3) v3 4 0 k],.cells v3 410 pc,.cells v4 42 [L t],.cells v5 3 lc,
     .cells v6 410 [.sl (nx+7) (v7+1) 1 0 (i+1),.sl (nx+8) (v8+1) 1 0 (i+1),.sl (nx+5) v5 1 0 (i+1),I wl],.cells (v7+1) 3 (fc++[I (yy x t i)]),.cells (v8+1) 3 (bc++[I (yA x t i)]),.cells v9 100 [I s.c,I s.q]]) ?_ ?_
    ·repeat apply za
     refine zz (some []) (Row.pures [0,2,3,5,7,8] (.alt 1 (.alt 4 (.alt 6 (Row.pures [10] (.alt 9 (.alt 11 (Row.pures [12] (.alt 13 (.done) .stop)) .stop) .stop)) .stop) (.alt 6 (.alt 4 (Row.pures [10] (.alt 9 (.alt 11 (Row.pures [12] (.alt 13 (.done) .stop)) .stop) .stop)) .stop) .stop)) (.alt 6 (.alt 1 (.alt 4 (Row.pures [10] (.alt 9 (.alt 11 (Row.pures [12] (.alt 13 (.done) .stop)) .stop) .stop)) .stop) .stop) .stop))) mixed (zS g1 g2 t1 t2) ?_
     repeat' (first | refine And.intro (by omega) ?_ | apply And.intro)
     all_goals exact zY () [] trivial (by simp) rfl (by simp)
    ·rintro⟨⟩ -;have z1:(i:Int)<(i:Int)+1:=by omega
     have z2:i<i+1:=by omega
     have z3:1<=i+1-i:=by omega
     refine zz (some [nx+9]) (Row.pures [0,2,4,7,8] (.alt 1 (.alt 3 (Row.pures [5] (.alt 6 (Row.pures [9,10] (.alt 11 (Row.pures [12] (.alt 13 (.done) .stop)) .stop)) .stop)) .stop) (.alt 3 (Row.pures [5] (.alt 1 (.alt 6 (Row.pures [9,10] (.alt 11 (Row.pures [12] (.alt 13 (.done) .stop)) .stop)) .stop) (.alt 6 (Row.pures [9,10] (.alt 1 (.alt 11 (Row.pures [12] (.alt 13 (.done) .stop)) .stop) .stop)) .stop))) .stop))) mixed (yl z0 z1 z2 z3 wl1 (zo g3 t3)) ?_
     repeat' (first | refine And.intro (by omega) ?_ | apply And.intro)
     all_goals
      refine ze [] wi ?_;exact zq (i+1,v5+1,v7+1,v8+1) [_] hci (by simp;omega) (by simp[wi]) rfl (by simp[c1,c2,c3];rfl)
  ·simp at hci;obtain rfl:i=t.length:=by omega
   refine zy ?_;clear hi hci;have hsm:xe x t=⟨(List.range t.length).map (yy x t),(List.range t.length).map (yA x t),(List.range (t.length+1)).map λi=>zQ (t.take i),wl⟩:=by unfold xe;rw[hwl]
   have g1:(((List.range t.length).map (yy x t)).flatMap Enc.enc:List PV).length=t.length:=by rw[jG];simp
   have g2:(((List.range t.length).map (yA x t)).flatMap Enc.enc:List PV).length=t.length:=by rw[jG];simp
   have g3:(((List.range (t.length+1)).map λi=>zQ (t.take i)).flatMap Enc.enc:List PV).length=t.length+1:=by rw[jG];simp
   have hfz:∀id v cs,pc.map (qi id v cs)=pc:=λid v cs=>by rw[<-hpc];exact ZoB id v cs _
   have hpl:pc.length=k*4:=by rw[<-hpc,Zgg];simp;omega
   have hpt:pc.take (k*4)=pc:=Af (by omega);have hnew:(((d.map (xe x)).take (k+1)).flatMap Enc.enc:List PV)=pc++[L ((List.range t.length).map (yy x t)),L ((List.range t.length).map (yA x t)),L ((List.range (t.length+1)).map λi=>zQ (t.take i)),I wl]:=by
    rw[<-hpc,<-List.map_take,a3,List.map_append,Av,<-List.map_take,Ax,hsm];rfl
   have l1:((List.range t.length).map (yy x t)).length=t.length:=by simp
   have l2:((List.range t.length).map (yA x t)).length=t.length:=by simp
   have l3:((List.range (t.length+1)).map λi=>zQ (t.take i)).length=t.length+1:=by simp
   generalize (List.range t.length).map (yy x t)=fl at *;generalize (List.range t.length).map (yA x t)=bl at *;generalize ((List.range (t.length+1)).map λi=>zQ (t.take i))=ll at *;clear g1 g2 g3;refine yb 8 rfl ?_;simp only[Ax,Be,AW,Ba,xD,hfz];refine yb 7 rfl ?_;simp only[Ax,Be,AW,Ba,xD,hfz];refine yb 5 rfl ?_;simp only[Ax,Be,AW,Ba,xD,hfz];refine zz (some [nx+6]) (Row.pures [0,1,2,3,5,6] (.alt 4 (.alt 7 (Row.pures [8,9] (.alt 10 (.done) .stop)) .stop) .stop)) mixed (yG l1 l2 l3 hpl hpt) ?_;refine⟨by omega,?_⟩;refine zb ?_;exact zq (k+1,v3+1) [_,_,_,_,_] hc (by simp;omega) (by simp[zu k (by omega)]) rfl (by simp[hnew,l1,l2,l3];exact⟨rfl,rfl,rfl,rfl,rfl⟩)
 ·simp at hc;obtain rfl:k=d.length:=by omega
  rw[Af (by simp)];refine zy ?_;have hml:((d.map (xe x)).flatMap Enc.enc:List PV).length=d.length*4:=by rw[Zgg];simp
  refine yb 3 rfl ?_;refine za (ze [] hml ?_);refine xM 2 rfl ?_;exact zg (zi hd (by simp;rfl) (by simp[zp,hml]))
open Go Go.Proofs
def xg(x:Inst):Int->List Int->Int
 | _,[]=>0
 | a,c :: l=>arc x a (c+1)+xg x (c+1) l
theorem Zca(x:Inst):∀(l:List Int) (a:Int) (m:List Int),xg x a (l++m)=xg x a l+xg x (yU a l) m
 | [],a,m=>by simp[xg,yU]
 | c :: l,a,m=>by
  simp only[List.cons_append,xg,yU];rw[Zca x l (c+1) m];omega
theorem Zcb:∀(l:List Int) (a:Int) (m:List Int),yU a (l++m)=yU (yU a l) m
 | [],a,m=>rfl
 | c :: l,a,m=>by simp only[List.cons_append,yU];exact Zcb l (c+1) m
theorem Zgh(x:Inst):∀(l:List Int) (a:Int),xN x a l=xg x a l+arc x (yU a l) 0
 | [],a=>by simp[xN,xg,yU]
 | c :: l,a=>by
  simp only[xN,xg,yU];rw[Zgh x l (c+1)];omega
def wV(t:zK)(f n:Nat):zK:=(t.drop f).take n
theorem Wo{t:zK}{f n:Nat}{s:Stop}(h:t[f+n]?=some s):wV t f (n+1)=wV t f n++[s]:=by
 have h':(t.drop f)[n]?=some s:=by rw[AM];exact h
 obtain⟨h1,h2⟩:=Ac.1 h';unfold wV;rw[AU h1,h2]
theorem getD_some{t:zK}{i:Nat}{s:Stop}(h:t[i]?=some s):t.getD i default=s:=by rw[Aa,h];rfl
theorem Zgi(x:Inst)(t:zK)(f:Nat)(a:Int):∀n,f+n<t.length->xg x a ((wV t f (n+1)).map (·.c))=arc x a ((t.getD f default).c+1)+(yy x t (f+n)-yy x t f)/\yU a ((wV t f (n+1)).map (·.c))=(t.getD (f+n) default).c+1
 | 0,h=>by
  have h0:t[f+0]?=some t[f]:=Ad (by omega);rw[Wo h0];have:wV t f 0=[]:=by simp[wV]
  rw[this,getD_some h0];simp only[Bm]at *;rw[getD_some h0];simp[xg,yU]
 | n+1,h=>by
  obtain⟨i1,i2⟩:=Zgi x t f a n (by omega);have h0:t[f+(n+1)]?=some t[f+(n+1)]:=Ad (by omega);rw[Wo h0,List.map_append,Zca,Zcb,i1,i2,getD_some h0];simp only[Ax,Be,xg,yU];have e:yy x t (f+(n+1))=yy x t (f+n)+arc x ((t.getD (f+n) default).c+1) ((t.getD (f+(n+1)) default).c+1):=rfl;rw[e,getD_some h0];exact⟨by omega,trivial⟩
theorem Zgj(x:Inst)(t:zK)(f:Nat):∀(n:Nat) (a:Int),f+n<t.length->xg x a ((wV t f (n+1)).reverse.map (·.c))=arc x a ((t.getD (f+n) default).c+1)+(yA x t (f+n)-yA x t f)/\yU a ((wV t f (n+1)).reverse.map (·.c))=(t.getD f default).c+1
 | 0,a,h=>by
  have h0:t[f+0]?=some t[f]:=Ad (by omega);rw[Wo h0];have:wV t f 0=[]:=by simp[wV]
  rw[this,getD_some h0];simp only[Bm]at *;rw[getD_some h0];simp[xg,yU]
 | n+1,a,h=>by
  have h0:t[f+(n+1)]?=some t[f+(n+1)]:=Ad (by omega);obtain⟨i1,i2⟩:=Zgj x t f n ((t.getD (f+(n+1)) default).c+1) (by omega);rw[Wo h0,List.reverse_append];simp only[Du,List.reverse_nil,AS,List.cons_append,Ax,xg,yU];rw[getD_some h0]at i1 i2 ⊢;rw[i1,i2];have e:yA x t (f+(n+1))=yA x t (f+n)+arc x ((t.getD (f+(n+1)) default).c+1) ((t.getD (f+n) default).c+1):=rfl;rw[e,getD_some h0];exact⟨by omega,rfl⟩
theorem Zgk(t:zK)(f:Nat):∀n,f+n<=t.length->zQ (wV t f n)=zQ (t.take (f+n))-zQ (t.take f)
 | 0,_=>by simp[wV,zQ]
 | n+1,h=>by
  have h0:t[f+n]?=some t[f+n]:=Ad (by omega);have e:t.take (f+n+1)=t.take (f+n)++[t[f+n]]:=AU (by omega);rw[Wo h0,VK,Zgk t f n (by omega),<-Nat.add_assoc,e,VK];omega
def jl(x:Inst)(d:zk)(st:Int × Int)(p:Pc):Int × Int :=
 if p.f<p.o then
  (bif p.b then (((d.getD p.t []).getD p.f default).c+1,st.2+(arc x st.1 (((d.getD p.t []).getD (p.o-1) default).c+1)+yA x (d.getD p.t []) (p.o-1)-yA x (d.getD p.t []) p.f))
  else (((d.getD p.t []).getD (p.o-1) default).c+1,st.2+(arc x st.1 (((d.getD p.t []).getD p.f default).c+1)+yy x (d.getD p.t []) (p.o-1)-yy x (d.getD p.t []) p.f)))
 else st
def wD(x:Inst)(d:zk)(r:Rw5):Int:=(r.l.foldl (jl x d) (0,0)).2+arc x (r.l.foldl (jl x d) (0,0)).1 0
def wW(d:zk)(st:Int)(p:Pc):Int:=if p.f<p.o then st+(zQ ((d.getD p.t []).take p.o)-zQ ((d.getD p.t []).take p.f)) else st
def Qk(d:zk)(r:Rw5):Int:=r.l.foldl (wW d) 0
theorem ZoD{x:Inst}{d:zk}{p:Pc}(h:J7 d p)(g:List Stop):jl x d (yU 0 (g.map (·.c)),xg x 0 (g.map (·.c))) p=(yU 0 ((g++qw d p).map (·.c)),xg x 0 ((g++qw d p).map (·.c))):=by
 unfold jl qw
 by_cases hfo:p.f<p.o
 ·obtain⟨ht,ho⟩:=h hfo;unfold yK at ho;rw[if_pos hfo,if_pos hfo];generalize d.getD p.t []=t at *;obtain⟨n,hn⟩:∃n,p.o=p.f+n+1:=⟨p.o-p.f-1,by omega⟩;have e1:p.o-1=p.f+n:=by omega
  have e2:p.o-p.f=n+1:=by omega
  rw[e1,e2,List.map_append,Zca,Zcb];cases p.b with
  | true =>
   simp only[cond_true];obtain⟨i1,i2⟩:=Zgj x t p.f n (yU 0 (g.map (·.c))) (by omega);unfold wV at i1 i2;rw[i1,i2];congr 1;omega
  | false =>
   simp only[cond_false];obtain⟨i1,i2⟩:=Zgi x t p.f (yU 0 (g.map (·.c))) n (by omega);unfold wV at i1 i2;rw[i1,i2];congr 1;omega
 ·rw[if_neg hfo,if_neg hfo,AF]
theorem Zgl{x:Inst}{d:zk}:∀(l:List Pc) (g:List Stop),(∀p∈l,J7 d p)->l.foldl (jl x d) (yU 0 (g.map (·.c)),xg x 0 (g.map (·.c)))=(yU 0 ((g++l.flatMap (qw d)).map (·.c)),xg x 0 ((g++l.flatMap (qw d)).map (·.c)))
 | [],g,_=>by simp
 | p :: l,g,h=>by
  rw[A8,ZoD (h p (by simp)),Zgl l _ λq hq=>h q (by simp[hq]),AA,List.append_assoc]
theorem Zcc{x:Inst}{d:zk}{r:Rw5}(h:uC d r)(h0:arc x 0 0=0):wD x d r=yC x ((yM d r).map (·.c)):=by
 have:=Zgl (x:=x) r.l [] h;simp only[Be,yU,xg,AS]at this;unfold wD;rw[this];simp only;unfold yM yC;split
 ·rename_i e;rw[e];simp[xg,yU,h0]
 ·rw[Zgh]
theorem ZoE{d:zk}{p:Pc}(h:J7 d p)(g:List Stop):wW d (zQ g) p=zQ (g++qw d p):=by
 unfold wW qw
 by_cases hfo:p.f<p.o
 ·obtain⟨ht,ho⟩:=h hfo;unfold yK at ho;rw[if_pos hfo,if_pos hfo,Znm];generalize d.getD p.t []=t at *;have:=Zgk t p.f (p.o-p.f) (by omega);rw[show p.f+(p.o-p.f)=p.o by omega]at this;have hr:∀l:zK,zQ l.reverse=zQ l:=λl=>by unfold zQ;exact Znl ((List.reverse_perm l).map _)
  unfold wV at this;cases p.b with
  | true=>simp only[cond_true];rw[hr,this]
  | false=>simp only[cond_false];rw[this]
 ·rw[if_neg hfo,if_neg hfo,AF]
theorem ZoF{d:zk}{r:Rw5}(h:uC d r):Qk d r=zQ (yM d r):=by
 have key:∀(l:List Pc) (g:List Stop),(∀p∈l,J7 d p)->l.foldl (wW d) (zQ g)=zQ (g++l.flatMap (qw d)):=by
  intro l
  induction l with
  | nil=>intro g _;simp
  | cons p l ih =>
   intro g h;rw[A8,ZoE (h p (by simp)),ih _ λq hq=>h q (by simp[hq]),AA,List.append_assoc]
 have:=key r.l [] h;simpa[Qk,yM,zQ] using this
open Go Go.Proofs
abbrev Xb(x:Inst)(d:zk)(sms:List Sm):List PV:=[I x.days,I x.veh,I x.cap,I x.len,L x.cust,L x.dist,L d,L sms]
theorem Xc{x:Inst}(h:qU x)(a b:Int):0<=arc x a b/\arc x a b<=2147483648:=h a b
theorem V2{x:Inst}{d:zk}{sms:List Sm}(hs:sms=d.map (xe x)){k:Nat}(h:k<d.length):∃(t:zK) (td tf:List PV),d[k]?=some t/\d.getD k []=t/\(d.flatMap Enc.enc:List PV).drop k=L t :: td /\
  (sms.flatMap Enc.enc:List PV).drop (k*4)=[L (xe x t).f,L (xe x t).b,L (xe x t).l,I (xe x t).n]++tf:=by
 obtain⟨t,td,a1,-,-,e0⟩:=zF rfl d k h;rw[hs];obtain⟨s,ts,b1,-,-,-,f0⟩:=el 4 rfl (d.map (xe x)) k (by simpa using h);have:s=xe x t:=by rw[Aj,a1]at b1;exact(Option.some.inj b1).symm
 subst this;exact⟨t,td,ts,a1,by rw[Aa,a1];rfl,e0,f0⟩
theorem Xd{α:Type}[Enc α](n:Nat)(hn:Enc.sz α=1)(f:Nat->α){i:Nat}(h:i<n):∃tl,(((List.range n).map f).flatMap Enc.enc:List PV).drop i=Enc.enc (f i)++tl:=by
 obtain⟨s,ts,b1,-,-,f0⟩:=zF hn ((List.range n).map f) i (by simpa using h);have:s=f i:=by rw[Aj,AQ h]at b1;exact(Option.some.inj b1).symm
 subst this;exact⟨ts,f0⟩
theorem Zcd(x:Inst)(d:zk)(r:Rw5)(hx:qU x)(hd':MvDay d)(hr:uC d r):Pure prog 342 [.ip (uD x d),.agg (yt r)] (I (wD x d r)):=by
 obtain⟨sms,hsms⟩:∃sms,sms=d.map (xe x):=⟨_,rfl⟩;have hml:sms.length=d.length:=by rw[hsms];simp
 rw[show uD x d=Xb x d sms from by rw[hsms]];have hdn:=hd'.n;have hat:=λk (h:k<5)=>V1 r h
 have hz:wD x d r=((r.l.take 5).foldl (jl x d) (0,0)).2+arc x ((r.l.take 5).foldl (jl x d) (0,0)).1 0:=by unfold wD;rw[Af (by simp[Rw5.l])]
 rw[hz];clear hz;have hcl:(yt r).length=20:=rfl;have hct:(yt r).take 20=yt r:=rfl;generalize hrc:yt r=rc at *;refine zt Tryz.func342 Tryz.ntmps342 Tryz.results342 λS nx hd=>?_
 refine za (zb ?_);intro v0;refine za (zb ?_)
 repeat apply za
 refine ze [] (zo hcl hct) ?_;refine zj (zD (λk:Nat=>k<=5/\-(8796093022208*(k:Int))<=((r.l.take k).foldl (jl x d) (0,0)).2/\((r.l.take k).foldl (jl x d) (0,0)).2<=8796093022208*k) (λk=>[(0,.ip (Xb x d sms)),(3,.ptr nx v0 0),(5,I ((r.l.take k).foldl (jl x d) (0,0)).1),(6,I ((r.l.take k).foldl (jl x d) (0,0)).2),(13,.agg rc),(14,I k)]) (λ_=>[.cells v0 371 rc]) (λk=>5-k) 0 [] (by simp) (by simp) (by simp) ?_);rintro k ⟨hk,hb1,hb2⟩
 by_cases hk5:k<5
 ·obtain⟨p,hp1,hp2,hp3⟩:=hat k hk5;have hk5':(k:Int)<5:=by omega
  have hk6:4<=20-k*4:=by omega
  have hok:=hr p (Ab hp1);have hnx:(r.l.take (k+1)).foldl (jl x d) (0,0)=jl x d ((r.l.take k).foldl (jl x d) (0,0)) p:=by rw[hp3,Bk];rfl
  generalize (r.l.take k).foldl (jl x d) (0,0)=st at *;obtain⟨at_,all⟩:=st;simp only at hb1 hb2 ⊢;have wk:=zu k (by omega);refine za (ze [] hk5' ?_);refine za (zn rfl (zh (za (zj (za (ze [] (yG hp2 hk5 hk5' hcl hk6) ?_))))));intro v3
  by_cases hfo:p.f<p.o
  case neg =>
   have hpz:jl x d (at_,all) p=(at_,all):=by unfold jl;rw[if_neg hfo]
   rw[hpz]at hnx;have hfo':p.o<=p.f:=by omega
   repeat apply za
   refine ze [] hfo' ?_;refine zn (by simp[hfo']) ?_;refine zy (zb ?_);exact zq (k+1) [_] ⟨by omega,by rw[hnx];simp only;omega,by rw[hnx];simp only;omega⟩ (by omega) (by simp[wk,hnx]) rfl (by simp;rfl)
  obtain⟨ht,ho⟩:=hok hfo;obtain⟨t,td,tf,a1,hgt,e0,f0⟩:=V2 hsms ht;unfold yK at ho;rw[hgt]at ho;have htm:=Ab a1;have htl:=hd'.t t htm;have hts:=hd'.s t htm;have ht1:1<=d.length-p.t:=by omega
  have ht4:4<=d.length*4-p.t*4:=by omega
  obtain⟨n,hn⟩:∃n,p.o=n+1:=⟨p.o-1,by omega⟩;have hfo':¬p.o<=p.f:=by omega
  have hst:jl x d (at_,all) p=bif p.b then ((t.getD p.f default).c+1,all+(arc x at_ ((t.getD n default).c+1)+yA x t n-yA x t p.f)) else ((t.getD n default).c+1,all+(arc x at_ ((t.getD p.f default).c+1)+yy x t n-yy x t p.f)):=by
   unfold jl;rw[if_pos hfo,hgt,show p.o-1=n by omega]
  rw[hst]at hnx;clear hst;obtain⟨sf,tsf,s1,-,-,-,s0⟩:=el 2 rfl t p.f (by omega);obtain⟨sl,tsl,l1,-,-,-,l0⟩:=el 2 rfl t n (by omega);have hgf:t.getD p.f default=sf:=getD_some s1;have hgl:t.getD n default=sl:=getD_some l1;rw[hgf,hgl]at hnx;have q1:p.f<t.length:=by omega
  have q2:n<t.length:=by omega
  have q3:2<=t.length*2-p.f*2:=by omega
  have q4:2<=t.length*2-n*2:=by omega
  have wo:IntKind.i64.wrap ((p.o:Int)-1)=(n:Int):=by rw[wr _ (by omega) (by omega)];omega
  have wsf:=QV (hts sf (Ab s1)).1;have wsl:=QV (hts sl (Ab l1)).1;have bf1:=J9 hx t p.f;have bf2:=J9 hx t n;have bb1:=Xa hx t p.f;have bb2:=Xa hx t n;have hlen:((List.range t.length).map (yy x t)).length=t.length/\((List.range t.length).map (yA x t)).length=t.length:=by simp
  obtain⟨z1,hz1⟩:=Xd t.length rfl (yy x t) q1;obtain⟨z2,hz2⟩:=Xd t.length rfl (yy x t) q2;obtain⟨z3,hz3⟩:=Xd t.length rfl (yA x t) q1;obtain⟨z4,hz4⟩:=Xd t.length rfl (yA x t) q2;have q5:1<=t.length-p.f:=by omega
  have q6:1<=t.length-n:=by omega
  simp only[xe]at f0;generalize hfl:(List.range t.length).map (yy x t)=fl at *;generalize hbl:(List.range t.length).map (yA x t)=bl at *;generalize ((List.range (t.length+1)).map λi=>zQ (t.take i))=ll at *;generalize yC x (t.map (·.c))=wl at *;obtain⟨hl1,hl2⟩:=hlen;have hfll:(fl.flatMap Enc.enc:List PV).length=t.length:=by rw[jG,hl1]
  have hbll:(bl.flatMap Enc.enc:List PV).length=t.length:=by rw[jG,hl2]
  repeat apply za
  refine ze [] hfo' ?_;refine zm (by simp[hfo']) ?_;refine zh (za (zz (some [nx+1]) (Row.pures [0,1,2,3,4,5,6,7,8,9,10,11,12,13,14,15,16,17,18,19,20] .done) mixed (yl e0 f0 ht ht1 ht4 hml) ?_));refine za (zz (some [nx+1]) (Row.pures [0,1,2,3,4,5,6] .done) mixed wo ?_);apply za;cases hpb:p.b with
  | false =>
   rw[hpb]at hnx;simp only[cond_false]at hnx;have har:=Xc hx at_ (sf.c+1);have ar:=wO x at_ (sf.c+1);have w1:IntKind.i64.wrap (arc x at_ (sf.c+1)+yy x t n)=arc x at_ (sf.c+1)+yy x t n:=wr _ (by omega) (by omega);have w2:IntKind.i64.wrap (arc x at_ (sf.c+1)+yy x t n-yy x t p.f)=arc x at_ (sf.c+1)+yy x t n-yy x t p.f:=wr _ (by omega) (by omega);have w3:IntKind.i64.wrap (all+(arc x at_ (sf.c+1)+yy x t n-yy x t p.f))=all+(arc x at_ (sf.c+1)+yy x t n-yy x t p.f):=wr _ (by omega) (by omega);refine za (ze [] hpb ?_);refine zm rfl (zh (za (zz (some [nx+1]) (Row.pures [0,1,2,3,4,5,6,7,8,9,10,11,12,13,14,15,16,17,18,19,20,21,22,23,24,25,26,27] .done) mixed (yl s0 q1 q3 wsf wo (zo (yl hz1 hz2 hfll hl1 q2 q5) (zS q6 w1 w2 w3))) ?_)));refine zJ (ar) (yl s0 q1 q3 wsf wo (zo (yl hz1 hz2 hfll hl1 q2 q5) (zS q6 w1 w2 w3))) ?_;refine ze [] (zS l0 q2 q4 wsl) ?_;refine zb ?_;exact zq (k+1) [_] ⟨by omega,by rw[hnx];simp only;omega,by rw[hnx];simp only;omega⟩ (by omega) (by simp[wk,hnx]) rfl (by simp;rfl)
  | true =>
   rw[hpb]at hnx;simp only[cond_true]at hnx;have har:=Xc hx at_ (sl.c+1);have ar:=wO x at_ (sl.c+1);have w1:IntKind.i64.wrap (arc x at_ (sl.c+1)+yA x t n)=arc x at_ (sl.c+1)+yA x t n:=wr _ (by omega) (by omega);have w2:IntKind.i64.wrap (arc x at_ (sl.c+1)+yA x t n-yA x t p.f)=arc x at_ (sl.c+1)+yA x t n-yA x t p.f:=wr _ (by omega) (by omega);have w3:IntKind.i64.wrap (all+(arc x at_ (sl.c+1)+yA x t n-yA x t p.f))=all+(arc x at_ (sl.c+1)+yA x t n-yA x t p.f):=wr _ (by omega) (by omega);refine za (ze [] hpb ?_);refine zn rfl (zz (some [nx+1]) (Row.pures [0,1,2,3,4,5,6,7,8,9,10,11,12,13] .done) mixed (zS f0 ht ht4 hml) ?_);refine za (zz (some [nx+1]) (Row.pures [0,1,2,3,4,5,6,7,8,9,10,11,12,13,14,15,16,17,18,19,20,21,22,23,24,25,26,27] .done) mixed (yl l0 q2 q4 wsl wo (zo (yl hz3 hz4 hbll hl2 q1 q5) (zS q6 w1 w2 w3))) ?_);refine zJ (ar) (yl l0 q2 q4 wsl wo (zo (yl hz3 hz4 hbll hl2 q1 q5) (zS q6 w1 w2 w3))) ?_;refine ze [] (zS s0 q1 q3 wsf) ?_;refine zb ?_;exact zq (k+1) [_] ⟨by omega,by rw[hnx];simp only;omega,by rw[hnx];simp only;omega⟩ (by omega) (by simp[wk,hnx]) rfl (by simp;rfl)
 ·obtain rfl:k=5:=by omega
  generalize (r.l.take 5).foldl (jl x d) (0,0)=st at *;obtain⟨at_,all⟩:=st;simp only at hb1 hb2 ⊢;have har:=Xc hx at_ 0;have ar:=wO x at_ 0;have w1:IntKind.i64.wrap (all+arc x at_ 0)=all+arc x at_ 0:=wr _ (by omega) (by omega);refine za (zb ?_);refine za (zm rfl (zy (za (zb ?_))));refine qt [] ar w1 ?_;exact zg (zi hd rfl rfl)
open Go Go.Proofs
theorem ZoG(x:Inst)(d:zk)(r:Rw5)(hd':MvDay d)(hr:uC d r):Pure prog 343 [.ip (uD x d),.agg (yt r)] (I (Qk d r)):=by
 obtain⟨sms,hsms⟩:∃sms,sms=d.map (xe x):=⟨_,rfl⟩;have hml:sms.length=d.length:=by rw[hsms];simp
 rw[show uD x d=Xb x d sms from by rw[hsms]];have hdn:=hd'.n;have hat:=λk (h:k<5)=>V1 r h
 have hz:Qk d r=(r.l.take 5).foldl (wW d) 0:=by unfold Qk;rw[Af (by simp[Rw5.l])]
 rw[hz];clear hz;have hcl:(yt r).length=20:=rfl;have hct:(yt r).take 20=yt r:=rfl;generalize hrc:yt r=rc at *;refine zt Tryz.func343 Tryz.ntmps343 Tryz.results343 λS nx hd=>?_
 refine za (zb ?_);intro v0;refine za (zb ?_)
 repeat apply za
 refine ze [] (zo hcl hct) ?_;refine zj (zD (λk:Nat=>k<=5/\-(8796093022208*(k:Int))<=(r.l.take k).foldl (wW d) 0/\(r.l.take k).foldl (wW d) 0<=8796093022208*k) (λk=>[(0,.ip (Xb x d sms)),(3,.ptr nx v0 0),(5,I ((r.l.take k).foldl (wW d) 0)),(8,.agg rc),(9,I k)]) (λ_=>[.cells v0 371 rc]) (λk=>5-k) 0 [] (by simp) (by simp) (by simp) ?_);rintro k ⟨hk,hb1,hb2⟩
 by_cases hk5:k<5
 ·obtain⟨p,hp1,hp2,hp3⟩:=hat k hk5;have hk5':(k:Int)<5:=by omega
  have hk6:4<=20-k*4:=by omega
  have hok:=hr p (Ab hp1);have hnx:(r.l.take (k+1)).foldl (wW d) 0=wW d ((r.l.take k).foldl (wW d) 0) p:=by rw[hp3,Bk];rfl
  generalize (r.l.take k).foldl (wW d) 0=all at *;have wk:=zu k (by omega);refine za (ze [] hk5' ?_);refine za (zn rfl (zh (za (zj (za (ze [] (yG hp2 hk5 hk5' hcl hk6) ?_))))));intro v3
  by_cases hfo:p.f<p.o
  case neg =>
   have hpz:wW d all p=all:=by unfold wW;rw[if_neg hfo]
   rw[hpz]at hnx;refine za (ze [] hfo ?_);refine zm (by simp[hfo]) ?_;refine zh (zb ?_);exact zq (k+1) [_] ⟨by omega,by rw[hnx];omega,by rw[hnx];omega⟩ (by omega) (by simp[wk,hnx]) rfl (by simp;rfl)
  obtain⟨ht,ho⟩:=hok hfo;obtain⟨t,td,tf,a1,hgt,e0,f0⟩:=V2 hsms ht;unfold yK at ho;rw[hgt]at ho;have htm:=Ab a1;have htl:=hd'.t t htm;have hts:=hd'.s t htm;have ht4:4<=d.length*4-p.t*4:=by omega
  have hst:wW d all p=all+(zQ (t.take p.o)-zQ (t.take p.f)):=by unfold wW;rw[if_pos hfo,hgt]
  rw[hst]at hnx;have b1:=ZbQ (t:=t.take p.o) (λa ha=>(hts a (BK ha)).2);have b2:=ZbQ (t:=t.take p.f) (λa ha=>(hts a (BK ha)).2);have b3:(t.take p.o).length<=1000:=by rw[Ay];omega
  have b4:(t.take p.f).length<=1000:=by rw[Ay];omega
  have w1:IntKind.i64.wrap (zQ (t.take p.o)-zQ (t.take p.f))=zQ (t.take p.o)-zQ (t.take p.f):=wr _ (by omega) (by omega);have w2:IntKind.i64.wrap (all+(zQ (t.take p.o)-zQ (t.take p.f)))=all+(zQ (t.take p.o)-zQ (t.take p.f)):=wr _ (by omega) (by omega);obtain⟨z1,hz1⟩:=Xd (t.length+1) rfl (λi=>zQ (t.take i)) (show p.o<t.length+1 by omega);obtain⟨z2,hz2⟩:=Xd (t.length+1) rfl (λi=>zQ (t.take i)) (show p.f<t.length+1 by omega);have hll:((List.range (t.length+1)).map λi=>zQ (t.take i)).length=t.length+1:=by simp
  simp only[xe]at f0;generalize (List.range t.length).map (yy x t)=fl at *;generalize (List.range t.length).map (yA x t)=bl at *;generalize ((List.range (t.length+1)).map λi=>zQ (t.take i))=ll at *;generalize yC x (t.map (·.c))=wl at *;generalize zQ (t.take p.o)=lo at *;generalize zQ (t.take p.f)=lf at *;have hlf:(ll.flatMap Enc.enc:List PV).length=t.length+1:=by rw[jG,hll]
  have q1:p.o<t.length+1:=by omega
  have q2:p.f<t.length+1:=by omega
  have q3:1<=t.length+1-p.o:=by omega
  have q4:1<=t.length+1-p.f:=by omega
  have q5:(p.o:Int)<(t.length:Int)+1:=by omega
  have q6:(p.f:Int)<(t.length:Int)+1:=by omega
  refine za (ze [] hfo ?_);refine zn (by simp[hfo]) ?_;refine zz (some [nx+1]) (Row.pures [0,1,2,3,4,5,6,7,8,9,10,11,12,13,14,15,16,17,18,19,20,21,22,23,24,25,26,27,28,29] .done) mixed (yl f0 ht ht4 hml hz1 (zo (yl hz2 hll hlf q1 q2 q3) (yG q4 q5 q6 w1 w2))) ?_;refine zb ?_;exact zq (k+1) [_] ⟨by omega,by rw[hnx];omega,by rw[hnx];omega⟩ (by omega) (by simp[wk,hnx]) rfl (by simp;rfl)
 ·obtain rfl:k=5:=by omega
  refine za (zb ?_);refine za (zm rfl (zy (za (zb ?_))));exact zg (zi hd rfl rfl)
def Wp(x:Inst)(d:zk)(m:Mv)(r1 r2:Rw5):Int:=wD x d r1-yC x ((d.getD m.a []).map (·.c))+(if m.a=m.b then 0 else wD x d r2-yC x ((d.getD m.b []).map (·.c)))
theorem Zgm{x:Inst}(hx:qU x){d:zk}(hd':MvDay d){r:Rw5}(hr:uC d r):-52776558133248<=wD x d r/\wD x d r<=52776558133248:=by
 have key:∀k:Nat,k<=5->-(8796093022208*(k:Int))<=((r.l.take k).foldl (jl x d) (0,0)).2/\((r.l.take k).foldl (jl x d) (0,0)).2<=8796093022208*k:=by
  intro k
  induction k with
  | zero=>intro _;simp
  | succ k ih =>
   intro hk;obtain⟨h1,h2⟩:=ih (by omega);obtain⟨p,hp1,-,hp3⟩:=V1 r (show k<5 by omega);have hok:=hr p (Ab hp1);rw[hp3,Bk,A8,List.foldl_nil];generalize (r.l.take k).foldl (jl x d) (0,0)=st at *;unfold jl
   by_cases hfo:p.f<p.o
   ·obtain⟨ht,ho⟩:=hok hfo;have htm:d.getD p.t []∈d:=Ab (i:=p.t) (by rw[Aa,Ad ht];rfl);have htl:=hd'.t _ htm;unfold yK at ho;generalize d.getD p.t []=t at *;have b1:=J9 hx t p.f;have b2:=J9 hx t (p.o-1);have b3:=Xa hx t p.f;have b4:=Xa hx t (p.o-1);rw[if_pos hfo];cases p.b with
    | true =>
     have:=Xc hx st.1 ((t.getD (p.o-1) default).c+1);simp only[cond_true];omega
    | false =>
     have:=Xc hx st.1 ((t.getD p.f default).c+1);simp only[cond_false];omega
   ·rw[if_neg hfo];omega
 have h5:=key 5 (by omega);rw[Af (by simp[Rw5.l])]at h5;have:=Xc hx (r.l.foldl (jl x d) (0,0)).1 0;unfold wD;omega
theorem ZoH(x:Inst)(d:zk)(m:Mv)(r1 r2:Rw5)(hx:qU x)(hd':MvDay d)(hr1:uC d r1)(hr2:uC d r2)(ha:m.a<d.length)(hb:m.b<d.length):Pure prog 327 [.ip (uD x d),.agg (uU m),.agg (yt r1),.agg (yt r2)] (I (Wp x d m r1 r2)):=by
 have l1:=Zcd x d r1 hx hd' hr1;have l2:=Zcd x d r2 hx hd' hr2;have b1:=Zgm hx hd' hr1;have b2:=Zgm hx hd' hr2;obtain⟨sms,hsms⟩:∃sms,sms=d.map (xe x):=⟨_,rfl⟩;have hml:sms.length=d.length:=by rw[hsms];simp
 rw[show uD x d=Xb x d sms from by rw[hsms]]at l1 l2 ⊢;have hdn:=hd'.n;obtain⟨ta,tda,tfa,a1,hga,-,fa⟩:=V2 hsms ha;obtain⟨tb,tdb,tfb,c1,hgb,-,fb⟩:=V2 hsms hb;have wa:=Wl hx (ta.map (·.c));have wb:=Wl hx (tb.map (·.c));rw[List.length_map]at wa wb;have hta:=hd'.t ta (Ab a1);have htb:=hd'.t tb (Ab c1);have hdef:Wp x d m r1 r2=wD x d r1-yC x (ta.map (·.c))+(if m.a=m.b then 0 else wD x d r2-yC x (tb.map (·.c))):=by unfold Wp;rw[hga,hgb]
 rw[hdef];clear hdef;simp only[xe]at fa fb;generalize wD x d r1=k1 at *;generalize wD x d r2=k2 at *;generalize yC x (ta.map (·.c))=wl at *;generalize yC x (tb.map (·.c))=wm at *;have ha4:4<=d.length*4-m.a*4:=by omega
 have hb4:4<=d.length*4-m.b*4:=by omega
 have w1:IntKind.i64.wrap (k1-wl)=k1-wl:=wr _ (by omega) (by omega);have w2:IntKind.i64.wrap (k2-wm)=k2-wm:=wr _ (by omega) (by omega);have w3:IntKind.i64.wrap (k1-wl+(k2-wm))=k1-wl+(k2-wm):=wr _ (by omega) (by omega);have hc1:(yt r1).length=20:=rfl;have ht1:(yt r1).take 20=yt r1:=rfl;have hc2:(yt r2).length=20:=rfl;have ht2:(yt r2).take 20=yt r2:=rfl;generalize hrc1:yt r1=rc1 at *;generalize hrc2:yt r2=rc2 at *;refine zt Tryz.func327 Tryz.ntmps327 Tryz.results327 λS nx hd=>?_
 refine za (zb ?_);intro v0 v1 v2;refine za (zz (some [nx,nx+1]) (Row.pures [0,1,2,3,4,5,6,7,8,9,10,11,12,13] .done) mixed (yl hc1 ht1 fa ha ha4 (zo hml w1)) ?_);refine zJ (l1) (yl hc1 ht1 fa ha ha4 (zo hml w1)) ?_
 by_cases hab:m.a=m.b
 ·have hab':(m.a:Int)=m.b:=by omega
  rw[if_pos hab]
  repeat apply za
  refine ze [] hab' ?_;refine zm (by simp[hab']) ?_;refine zh (za (zb ?_));exact zg (zi hd rfl (by simp[zp]))
 ·have hab':¬(m.a:Int)=m.b:=by omega
  rw[if_neg hab]
  repeat apply za
  refine ze [] hab' ?_;refine zn (by simp[hab']) ?_;refine zz (some [nx,nx+2]) (Row.pures [0,1,2,3,4,5,6,7,8,9,10,11,12,13,14,15] .done) mixed (yl hc2 ht2 fb hb hb4 (zE hml w2 w3)) ?_;refine zJ (l2) (yl hc2 ht2 fb hb hb4 (zE hml w2 w3)) ?_;refine za (zb ?_);exact zg (zi hd rfl (by simp[zp]))
theorem Zgn(x:Inst)(d:zk)(r:Rw5)(hx:qU x)(hd':MvDay d)(hr:uC d r):Pure prog 328 [.ip (uD x d),.agg (yt r)] (B (decide (Qk d r<=x.cap/\wD x d r<=x.len))):=by
 have l1:=Zcd x d r hx hd' hr;have l2:=ZoG x d r hd' hr;obtain⟨sms,hsms⟩:∃sms,sms=d.map (xe x):=⟨_,rfl⟩;rw[show uD x d=Xb x d sms from by rw[hsms]]at l1 l2 ⊢;generalize wD x d r=k1 at *;generalize Qk d r=k2 at *;have hc1:(yt r).length=20:=rfl;have ht1:(yt r).take 20=yt r:=rfl;generalize hrc1:yt r=rc at *;refine zt Tryz.func328 Tryz.ntmps328 Tryz.results328 λS nx hd=>?_
 refine za (zb ?_);intro v0
 by_cases h1:k2<=x.cap
 ·refine za (zz (some [nx]) (Row.pures [0,1,2,3,4,5,6,7,8,9,10,11,12,13,14,15,16,17,18,19,20] .done) mixed (zE hc1 ht1 h1) ?_);refine zJ (l2) (zE hc1 ht1 h1) ?_;refine zJ (l1) (zE hc1 ht1 h1) ?_;exact zg (zi hd rfl (by simp[zp,h1]))
 ·refine za (zz (some [nx]) (Row.pures [0,1,2,3,4,5,6,7,8,9,10,11,12,13,14,15,16,17,18,19,20] .done) mixed (zS hc1 ht1 h1 zH) ?_);refine zJ (l2) (zS hc1 ht1 h1 zH) ?_;exact zg (zi hd rfl (by simp[zp,h1]))
open Go Go.Proofs
theorem V3{α:Type}{W:Nat->List α}{n k i:Nat}{x:α}(hk:k<n)(h:(W k)[i]?=some x):((List.range n).flatMap W)[((List.range k).flatMap W).length+i]?=some x:=by
 obtain⟨m,rfl⟩:∃m,n=k+(m+1):=⟨n-k-1,by omega⟩;have hi:=(Ac.1 h).1;rw[Dl,Av,Ak (Db _ _),AG,CU];simp only[Ax,AA,Bm];rw[Al hi];exact h
theorem V4{α:Type}(W:Nat->List α)(k:Nat):((List.range (k+1)).flatMap W).length=((List.range k).flatMap W).length+(W k).length:=by
 rw[AO,Av,Ar];simp
def YI(d:zk)(k a b i j:Nat):Option Mv:=if xP d ⟨k,a,b,i,j⟩=true then some ⟨k,a,b,i,j⟩ else none
def Zs(d:zk)(k a b i:Nat):List Mv:=(List.range (yK d b+1)).filterMap (YI d k a b i)
def Z5(d:zk)(k a b:Nat):List Mv:=(List.range (yK d a+1)).flatMap (Zs d k a b)
def Ql(d:zk)(k a:Nat):List Mv:=(List.range d.length).flatMap (Z5 d k a)
def Z6(d:zk)(k:Nat):List Mv:=(List.range d.length).flatMap (Ql d k)
def Z7(d:zk):List Mv:=(List.range 4).flatMap (Z6 d)
abbrev Ja(m:Mv):List PV:=[.agg (uU m)]
theorem ZoI(d:zk)(k a b:Nat)(hdn:d.length<=1048576)(hdt:∀t∈d,t.length<=1000)(hk:k<=3)(ha:a<d.length)(hb:b<d.length):
  VS prog 341 (λy=>[.agg [L d],.agg [I k,I a,I b,I 0,I 0],jS y]) ((Z5 d k a b).map Ja) (B true):=by
 refine Zfr Tryz.func341 (by rfl) rfl Tryz.ntmps341 (congrArg Array.toList Tryz.results341) (by simp) λy V keep nx J hJd hY A0 hA0=>?_
 obtain⟨ta,xa,a1,-,-,a0⟩:=zF rfl d a ha;obtain⟨tb,xb,b1,-,-,b0⟩:=zF rfl d b hb;have ha1:1<=d.length-a:=by omega
 have hb1:1<=d.length-b:=by omega
 have la:yK d a=ta.length:=by unfold yK;rw[Aa,a1];rfl
 have lb:yK d b=tb.length:=by unfold yK;rw[Aa,b1];rfl
 have hal:=hdt ta (Ab a1);have hbl:=hdt tb (Ab b1);have hall:∀t∈d,t.length<=1048576:=λt ht=>AB (hdt t ht) (by decide)
 have hlook:=λi j (hi:i<=1048576) (hj:j<=1048576)=>Zb4 d ⟨k,a,b,i,j⟩ hdn hall hk ha hb hi hj
 have hpl:Z5 d k a b=(List.range (ta.length+1)).flatMap (Zs d k a b):=by unfold Z5;rw[la]
 have hrow:∀i,Zs d k a b i=(List.range (tb.length+1)).filterMap (YI d k a b i):=λi=>by unfold Zs;rw[lb]
 rw[hpl]at hY ⊢;clear hpl la lb;refine za (zb ?_);intro v0 v1
 repeat apply za
 refine zb ?_;refine zj (jr (σ:=Nat × Int × Store) (λs'=>s'.1<=ta.length+1/\J ((List.range s'.1).flatMap (Zs d k a b)).length s'.2.2) (λs'=>[(2,jS y),(3,.ptr nx v0 0),(4,.ptr (nx+1) v1 0)]) (λs'=>s'.2.2)
  (λ(i,jv,_)=>[.cells v0 39 [L d],.cells v1 339 [I k,I a,I b,I i,I jv]]) (λs'=>ta.length+1-s'.1) (zY (0,0,A0) [] (by simpa using hA0) (by simp) rfl (by simp)) ?_)
 rintro⟨i,jv,A⟩ ⟨hi,hJ⟩;simp only at hi hJ ⊢
 repeat apply za
 refine zz (some [nx,nx+1]) (Row.pures [0,1,2,3,4,5,6,7,8,9,10] .done) mixed (zE a0 ha ha1) ?_;refine zv rfl (λhc=>?_) (λhc=>?_)
 ·simp at hc;have hrl:=V4 (Zs d k a b) i;refine zh (za (zj (za (zb ?_))));refine zj (jr (σ:=Nat × Store) (λs'=>s'.1<=tb.length+1/\J (((List.range i).flatMap (Zs d k a b)).length+((List.range s'.1).filterMap (YI d k a b i)).length) s'.2) (λs'=>[(2,jS y),(3,.ptr nx v0 0),(4,.ptr (nx+1) v1 0)]) (λs'=>s'.2)
   (λ(j,_)=>[.cells v0 39 [L d],.cells v1 339 [I k,I a,I b,I i,I j]]) (λs'=>tb.length+1-s'.1) (zY (0,A) [] (by simpa using hJ) (by simp) rfl (by simp)) ?_)
  clear hJ A jv;rintro⟨j,A⟩ ⟨hj,hJ⟩;simp only at hj hJ ⊢
  repeat apply za
  refine zz (some [nx,nx+1]) (Row.pures [0,1,2,3,4,5,6,7,8,9,10] .done) mixed (zE b0 hb hb1) ?_;refine zv rfl (λhcj=>?_) (λhcj=>?_)
  ·simp at hcj;have hlk:=hlook i j (by omega) (by omega);have wj:=zu j (by omega);refine zh (za (zj ?_));cases hm:xP d ⟨k,a,b,i,j⟩ with
   | true =>
    have hce:YI d k a b i j=some ⟨k,a,b,i,j⟩:=by unfold YI;rw[if_pos hm]
    have hlo:Z4 d ⟨k,a,b,i,j⟩=((yk d ⟨k,a,b,i,j⟩).1,(yk d ⟨k,a,b,i,j⟩).2,true):=by unfold Z4;rw[if_pos hm]
    rw[hlo]at hlk;have hat:=Zft (n:=tb.length+1) (by omega) hce;rw[<-hrow]at hat;have hat2:=V3 (W:=Zs d k a b) (n:=ta.length+1) (by omega) hat;have hy:(((List.range (ta.length+1)).flatMap (Zs d k a b)).map Ja)[((List.range i).flatMap (Zs d k a b)).length+((List.range j).filterMap (YI d k a b i)).length]?=some (Ja ⟨k,a,b,i,j⟩):=by
     rw[Aj,hat2];rfl
    have hnx:=Zfv hce;generalize (yk d ⟨k,a,b,i,j⟩).1=r1 at *;generalize (yk d ⟨k,a,b,i,j⟩).2=r2 at *;refine za (zb ?_);refine zr hlk ?_;intro v2 v3;refine za (ze [(1,50)] trivial ?_);refine λhsuf=>JQ rfl rfl rfl (hY _ _ _ _ hy hJ) ?_
    rintro _ ⟨A',hJ',rfl⟩;refine⟨_,_,rfl,jH [(1,50)] trivial hsuf ?_⟩;refine zm rfl (zh (zb ?_));exact zq (j+1,A') [_,_] ⟨by simp;omega,by rw[hnx];exact hJ'⟩ (by simp;omega) (by simp) rfl (by simp[wj];exact⟨rfl,rfl⟩)
   | false =>
    have hce:YI d k a b i j=none:=by unfold YI;rw[if_neg (by simp[hm])]
    have hlo:Z4 d ⟨k,a,b,i,j⟩=(xu,xu,false):=by unfold Z4;rw[if_neg (by simp[hm])]
    rw[hlo]at hlk;have hnx:=Zfu hce;generalize xu=r0 at *;refine za (zb ?_);refine zr hlk ?_;intro v2 v3;refine za (ze [(1,50)] zH ?_);refine zm rfl (zh (zb ?_));exact zq (j+1,A) [_,_] ⟨by simp;omega,by rw[hnx];exact hJ⟩ (by simp;omega) (by simp) rfl (by simp[wj];exact⟨rfl,rfl⟩)
  ·simp at hcj;obtain rfl:j=tb.length+1:=by omega
   rw[<-hrow,<-hrl]at hJ;refine zy ?_;have wi:=zu i (by omega);refine zb ?_;exact zq (i+1,((tb.length+1:Nat):Int),A) [] ⟨by simp;omega,hJ⟩ (by simp;omega) (by simp) rfl (by simp[wi])
 ·simp at hc;obtain rfl:i=ta.length+1:=by omega
  refine zy (za (zb ?_));exact zg (VT (hJd _ _ hJ) (by simp;rfl) (by simp[zp]) (by simpa using hJ))
theorem ZoJ(d:zk):Pure prog 325 [.agg [L d]] (.fn (.func 339) [] [.ip [L d]]):=by
 refine zt Tryz.func325 Tryz.ntmps325 Tryz.results325 λS nx hd=>?_
 refine za (zb ?_);intro v0;refine za (zb ?_);refine xM 0 rfl ?_;exact zg (zi hd (by simp;rfl) rfl)
theorem ZoK(d:zk)(hdn:d.length<=1000)(hdt:∀t∈d,t.length<=1000):Y8 prog 339 [.ip [L d]] ((Z7 d).map Ja):=by
 have hpl:=λk a b (hk:k<=3) (ha:a<d.length) (hb:b<d.length)=>ZoI d k a b (by omega) hdt hk ha hb
 have hkinds:=Zf6;generalize VY=kl at hkinds;refine X0 Tryz.func339 (by rfl) rfl Tryz.ntmps339 (congrArg Array.toList Tryz.results339) (by simp) λl V keep nx J hJd hY A0 hA0=>?_
 refine za (zb ?_);refine zr hkinds ?_;refine zj (jr (σ:=Nat × Store) (λs'=>s'.1<=4/\J ((List.range s'.1).flatMap (Z6 d)).length s'.2) (λs'=>[(0,jS l),(1,.ip [L d]),(7,I s'.1)]) (λs'=>s'.2) (λ_=>[]) (λs'=>4-s'.1) (zY (0,A0) [] (by simpa using hA0) (by simp) rfl (by simp)) ?_);rintro⟨k,A⟩ ⟨hk,hJ⟩;simp only at hk hJ ⊢
 by_cases hk4:k<4
 ·have hk4':(k:Int)<4:=by omega
  have hlA:=V4 (Z6 d) k;refine za (ze [] hk4' ?_);refine za (zn rfl (zh (za (zj (za (zb ?_))))));refine za (zb ?_);refine zj (jr (σ:=Nat × Store) (λs'=>s'.1<=d.length/\J (((List.range k).flatMap (Z6 d)).length+((List.range s'.1).flatMap (Ql d k)).length) s'.2) (λs'=>[(0,jS l),(1,.ip [L d]),(3,I k),(7,I k),(12,I d.length),(13,I s'.1)]) (λs'=>s'.2) (λ_=>[]) (λs'=>d.length-s'.1) (zY (0,A) [] (by simpa using hJ) (by simp) rfl (by simp)) ?_);clear hJ A;rintro⟨a,A⟩ ⟨ha,hJ⟩;simp only at ha hJ ⊢;refine za (zb ?_);refine za (zv rfl (λhca=>?_) (λhca=>?_))
  ·simp at hca;have hlK:=V4 (Ql d k) a;refine zh (za (zj (za (zb ?_))));refine za (zb ?_);refine zj (jr (σ:=Nat × Store) (λs'=>s'.1<=d.length/\J (((List.range k).flatMap (Z6 d)).length+((List.range a).flatMap (Ql d k)).length+((List.range s'.1).flatMap (Z5 d k a)).length) s'.2) (λs'=>[(0,jS l),(1,.ip [L d]),(3,I k),(4,I a),(7,I k),(12,I d.length),(13,I a),(18,I d.length),(19,I s'.1)]) (λs'=>s'.2) (λ_=>[]) (λs'=>d.length-s'.1) (zY (0,A) [] (by simpa using hJ) (by simp) rfl (by simp)) ?_);clear hJ A;rintro⟨b,A⟩ ⟨hb,hJ⟩;simp only at hb hJ ⊢;refine za (zb ?_);refine za (zv rfl (λhcb=>?_) (λhcb=>?_))
   ·simp at hcb;have hw:=hpl k a b (by omega) hca hcb;have hlP:=V4 (Z5 d k a) b;have hin:∀(i:Nat) (x:List PV),((Z5 d k a b).map Ja)[i]?=some x->((Z7 d).map Ja)[((List.range k).flatMap (Z6 d)).length+((List.range a).flatMap (Ql d k)).length+((List.range b).flatMap (Z5 d k a)).length+i]?=some x:=by
     intro i x hx;rw[Aj]at hx ⊢;obtain⟨m,hm,rfl⟩:=Ap.1 hx;have e1:=V3 (W:=Z5 d k a) (n:=d.length) hcb hm;have e2:=V3 (W:=Ql d k) (n:=d.length) hca e1;have e3:=V3 (W:=Z6 d) (n:=4) hk4 e2;rw[Nat.add_assoc,Nat.add_assoc];unfold Z7;rw[e3];rfl
    refine zh (za (zj (za (zb ?_))));refine za (zb ?_);refine λhsuf=>((Zfs hw keep hY _ hin hJ _).mono ?_)
    rintro _ _ ⟨A',rfl,hJ',rfl⟩;rw[List.length_map,Nat.add_assoc,<-hlP]at hJ';refine⟨_,_,rfl,zL hsuf ?_⟩;refine zm rfl (zh (zb ?_));exact zq (b+1,A') [] ⟨hcb,hJ'⟩ (by simp;omega) (by simp[zu b (by omega)]) rfl (by simp)
   ·simp at hcb;obtain rfl:b=d.length:=by omega
    refine zy ?_;have hJ2:J (((List.range k).flatMap (Z6 d)).length+((List.range (a+1)).flatMap (Ql d k)).length) A:=by rw[hlK,<-Nat.add_assoc];exact hJ
    refine zb ?_;exact zq (a+1,A) [] ⟨hca,hJ2⟩ (by simp;omega) (by simp[zu a (by omega)]) rfl (by simp)
  ·simp at hca;obtain rfl:a=d.length:=by omega
   refine zy ?_;have hJ2:J ((List.range (k+1)).flatMap (Z6 d)).length A:=by rw[hlA];exact hJ
   refine zb ?_;exact zq (k+1,A) [] ⟨hk4,hJ2⟩ (by simp;omega) (by simp[zu k (by omega)]) rfl (by simp)
 ·obtain rfl:k=4:=by omega
  refine za (zb ?_);refine za (zm rfl (zy (uO (hJd _ _ hJ) rfl ?_)));rw[List.length_map];exact hJ
open Go Go.Proofs
theorem Jb{d:zk}{m:Mv}(h:xP d m=true):m.k<=3/\m.a<d.length/\m.b<d.length/\uC d (yk d m).1/\uC d (yk d m).2:=by
 unfold xP at h;rw[Au]at h;obtain⟨h1,h2⟩:=h;have h1:=of_decide_eq_true h1;refine⟨h1.1,h1.2.1,h1.2.2,?_⟩;unfold vG at h2;unfold yk xv;have e0:=Zom d;have key:∀p:Pc,J7 d p<->(p.f<p.o->p.t<d.length/\p.o<=yK d p.t):=λ_=>Iff.rfl
 by_cases k0:m.k=0
 ·rw[if_pos k0]at h2 ⊢;have h2:=of_decide_eq_true h2;refine⟨?_,e0⟩;intro p hp;simp only[Rw5.l,Aq,A4,or_false]at hp;rcases hp with rfl | rfl | rfl | rfl | rfl<;>refine(key _).2 ?_<;>simp only[yx]<;>omega
 rw[if_neg k0]at h2 ⊢
 by_cases k1:m.k=1
 ·rw[if_pos k1]at h2 ⊢;have h2:=of_decide_eq_true h2
  by_cases hab:m.a=m.b
  ·rw[if_pos hab,hab]at h2;rw[if_neg (by simp[hab])]
   by_cases hij:m.i<m.j
   ·rw[if_pos hij];refine⟨?_,e0⟩;intro p hp;simp only[Rw5.l,Aq,A4,or_false]at hp;rcases hp with rfl | rfl | rfl | rfl | rfl<;>refine(key _).2 ?_<;>simp only[yx]<;>(try rw[hab])<;>omega
   ·rw[if_neg hij];refine⟨?_,e0⟩;intro p hp;simp only[Rw5.l,Aq,A4,or_false]at hp;rcases hp with rfl | rfl | rfl | rfl | rfl<;>refine(key _).2 ?_<;>simp only[yx]<;>(try rw[hab])<;>omega
  ·rw[if_neg hab]at h2;rw[if_pos hab];constructor<;>intro p hp<;>simp only[Rw5.l,Aq,A4,or_false]at hp<;>rcases hp with rfl | rfl | rfl | rfl | rfl<;>refine(key _).2 ?_<;>simp only[yx]<;>omega
 rw[if_neg k1]at h2 ⊢
 by_cases k2:m.k=2
 ·rw[if_pos k2]at h2 ⊢;have h2:=of_decide_eq_true h2
  by_cases hab:m.a=m.b
  ·rw[if_pos hab];rw[hab]at h2;refine⟨?_,e0⟩;intro p hp;simp only[Rw5.l,Aq,A4,or_false]at hp;rcases hp with rfl | rfl | rfl | rfl | rfl<;>refine(key _).2 ?_<;>simp only[yx,hab]<;>omega
  ·rw[if_neg hab];constructor<;>intro p hp<;>simp only[Rw5.l,Aq,A4,or_false]at hp<;>rcases hp with rfl | rfl | rfl | rfl | rfl<;>refine(key _).2 ?_<;>simp only[yx]<;>omega
 rw[if_neg k2]at h2 ⊢;have h2:=of_decide_eq_true h2;constructor<;>intro p hp<;>simp only[Rw5.l,Aq,A4,or_false]at hp<;>rcases hp with rfl | rfl | rfl | rfl | rfl<;>refine(key _).2 ?_<;>simp only[yx]<;>omega
theorem Zce{d:zk}{m:Mv}:m∈Z7 d->xP d m=true/\m.i<=yK d m.a/\m.j<=yK d m.b:=by
 unfold Z7 Z6 Ql Z5 Zs YI;intro h;simp only[BV,AJ,BS]at h;obtain⟨k,hk,a,ha,b,hb,i,hi,j,hj,h⟩:=h;split at h
 ·rename_i hm;cases h;exact⟨hm,by simp only;omega,by simp only;omega⟩
 ·cases h
def Jc:Mv:=⟨0,0,0,0,0⟩
def wX(x:Inst)(d:zk)(r:Rw5):Prop:=Qk d r<=x.cap/\wD x d r<=x.len
instance (x:Inst) (d:zk) (r:Rw5):Decidable (wX x d r):=by unfold wX;infer_instance
def Qm(x:Inst)(d:zk)(m:Mv):Int:=Wp x d m (yk d m).1 (yk d m).2
def Qn(x:Inst)(d:zk)(st:Mv × Int)(m:Mv):Mv × Int:=if Qm x d m<st.2/\wX x d (yk d m).1/\wX x d (yk d m).2 then (m,Qm x d m) else st
def wY(x:Inst)(d:zk):Mv × Int:=(Z7 d).foldl (Qn x d) (Jc,0)
theorem ZoL(x:Inst)(d:zk)(hx:qU x)(hd':MvDay d):Pure prog 291 [.agg (zx x),.agg [L d]] (.tup [.agg (uU (wY x d).1),I (wY x d).2,B (decide ((wY x d).2<0))]):=by
 have hdn:=hd'.n;have hit:=ZoK d hdn hd'.t;have hread:=ZoC x d hx hd';have hfacts:∀m∈Z7 d,Pure prog 326 [.agg [L d],.agg (uU m)] (.tup [.agg (yt (yk d m).1),.agg (yt (yk d m).2),B true])/\Pure prog 327 [.ip (uD x d),.agg (uU m),.agg (yt (yk d m).1),.agg (yt (yk d m).2)] (I (Qm x d m)) /\
   Pure prog 328 [.ip (uD x d),.agg (yt (yk d m).1)] (B (decide (wX x d (yk d m).1)))/\Pure prog 328 [.ip (uD x d),.agg (yt (yk d m).2)] (B (decide (wX x d (yk d m).2))):=by
  intro m hm;obtain⟨h1,h2,h3⟩:=Zce hm;obtain⟨hk,ha,hb,r1,r2⟩:=Jb h1;have hl:∀a,yK d a<=1000:=by
   intro a;unfold yK;rw[Aa];cases hq:d[a]? with
   | none=>simp
   | some l=>exact hd'.t l (Ab hq)
  have hla:=hl m.a;have hlb:=hl m.b;have hlk:=Zb4 d m (by omega) (λt ht=>AB (hd'.t t ht) (by decide)) hk ha hb (by omega) (by omega);unfold Z4 at hlk;rw[if_pos h1]at hlk;exact⟨hlk,ZoH x d m _ _ hx hd' r1 r2 ha hb,Zgn x d _ hx hd' r1,Zgn x d _ hx hd' r2⟩
 unfold wY;generalize Z7 d=xs at *;generalize uD x d=rd at *;have hea:=ZoJ d;refine zt Tryz.func291 Tryz.ntmps291 Tryz.results291 λS nx hd=>?_
 refine za (zb ?_);intro v0 v1 v2;refine za (zb ?_);refine zr hread ?_;intro v3;refine za (zb ?_);intro v4 v5
 repeat apply za
 refine zb ?_;refine zr hea ?_;refine zj (JR (xs:=xs.map Ja) (σ:=Mv × Int) (λi st=>st=(xs.take i).foldl (Qn x d) (Jc,0)) [(2,.ptr nx v0 0),(3,.ptr (nx+1) v1 0),(4,.ptr (nx+2) v2 0),(7,.ptr (nx+3) v3 0),(8,.ptr (nx+4) v4 0),(9,.ptr (nx+5) v5 0)] (λ_=>S)
  (λ(b,least)=>[.cells v0 25 (zx x),.cells v1 39 [L d],.cells v2 339 [I 0,I 0,I 0,I 0,I 0],.cells v3 363 [.ip rd],.cells v4 339 (uU b),.cells v5 3 [I least]]) (Jc,0)
  hit rfl (by intro x hx;obtain⟨y,_,rfl⟩:=An.1 hx;rfl) (by decide) (by simp) (by simp) rfl (by simp[Jc]) (by simp[Jc]) ?_ ?_)
 ·rintro l i ⟨b,least⟩ more y hst hy;simp only at hst ⊢;rw[Aj]at hy;obtain⟨m,hm,rfl⟩:=Ap.1 hy;have hsucc:=ZbZ (f:=Qn x d) (b:=(Jc,0)) hm;rw[<-hst]at hsucc;obtain⟨f1,f2,f3,f4⟩:=hfacts m (Ab hm);unfold Qn at hsucc;simp only at hsucc;generalize (yk d m).1=r1 at *;generalize (yk d m).2=r2 at *;generalize Qm x d m=by_ at *;refine zb ?_;intro v6;refine zj (za (zb ?_));refine zr f1 ?_;intro v7 v8;refine za (zb ?_);refine zr f2 ?_
  by_cases hlt:by_<least
  ·refine za (ze [(3,37),(8,42)] hlt ?_);refine qt [(3,37),(8,42)] f3 hlt ?_
   by_cases hf1:wX x d r1
   ·rw[decide_eq_true hf1];refine qt [(3,37),(8,42)] f4 hlt ?_
    by_cases hf2:wX x d r2
    ·rw[if_pos ⟨hlt,hf1,hf2⟩]at hsucc;refine zn (by simp[hf2]) ?_;refine zb ?_;simp only[jE];exact wN (m,by_) [_,_,_] hsucc.symm rfl (by simp;exact⟨rfl,rfl,rfl⟩)
    ·rw[if_neg λe=>hf2 e.2.2]at hsucc;refine zm (by simp[hf2]) ?_;refine zh ?_;simp only[jE];exact wN (b,least) [_,_,_] hsucc.symm rfl (by simp;exact⟨rfl,rfl,rfl⟩)
   ·rw[decide_eq_false hf1];rw[if_neg λe=>hf1 e.2.1]at hsucc;refine zm rfl (zh ?_);simp only[jE];exact wN (b,least) [_,_,_] hsucc.symm rfl (by simp;exact⟨rfl,rfl,rfl⟩)
  ·rw[if_neg λe=>hlt e.1]at hsucc;refine za (ze [(3,37),(8,42)] (zo hlt zH) ?_);refine zm rfl (zh ?_);simp only[jE];exact wN (b,least) [_,_,_] hsucc.symm rfl (by simp;exact⟨rfl,rfl,rfl⟩)
 ·rintro⟨b,least⟩ hst;rw[Af (by simp)]at hst;simp only at hst ⊢;rw[<-hst];refine za (zz (some [nx+4,nx+5]) (Row.pures [0,1,2,3] (.alt 4 (Row.pures [5,6] .done) .stop)) mixed trivial ?_);exact zg (zi hd (by simp;rfl) (by simp[zp]))
open Go Go.Proofs
def xx(d:zk)(m:Mv)(i:Nat):zK:=if i=m.a then yM d (yk d m).1 else if i=m.b then yM d (yk d m).2 else d.getD i []
def jJ(d:zk)(m:Mv)(i:Nat):Option zK:=if (xx d m i).length=0 then none else some (xx d m i)
def vH(d:zk)(m:Mv):zk:=(List.range d.length).filterMap (jJ d m)
theorem Zgo{d:zk}{r:Rw5}{k:Nat}(h:∀t∈d,t.length<=k):(yM d r).length<=5*k:=by
 have h1:=λp=>Zf8 (d:=d) (p:=p) h
 have a1:=h1 r.a;have a2:=h1 r.b;have a3:=h1 r.c;have a4:=h1 r.d;have a5:=h1 r.e;unfold yM Rw5.l;simp only[AA,Ck,Ar,AF];omega
theorem ZoM(x:Inst)(d:zk)(m:Mv)(hdn:d.length<=1000)(hdt:∀t∈d,t.length<=1000)(hm:xP d m=true)(hi:m.i<=1048576)(hj:m.j<=1048576):Pure prog 292 [.agg (zx x),.agg [L d],.agg (uU m)] (.tup [.agg [L (vH d m)],I 0]):=by
 obtain⟨hk,ha,hb,r1,r2⟩:=Jb hm;have hlk:=Zb4 d m (by omega) (λt ht=>AB (hdt t ht) (by decide)) hk ha hb hi hj;unfold Z4 at hlk;rw[if_pos hm]at hlk;have g1:=Zf9 d _ (by omega) hdt r1;have g2:=Zf9 d _ (by omega) hdt r2;have n1:=Zgo (r:=(yk d m).1) hdt;have n2:=Zgo (r:=(yk d m).2) hdt;have hmk:∀i,xx d m i=if i=m.a then yM d (yk d m).1 else if i=m.b then yM d (yk d m).2 else d.getD i []:=λ_=>rfl
 generalize yM d (yk d m).1=t1 at *;generalize yM d (yk d m).2=t2 at *;generalize (yk d m).1=c1 at *;generalize (yk d m).2=c2 at *;have hme:vH d m=(List.range d.length).filterMap (jJ d m):=rfl;rw[hme];clear hme;refine zt Tryz.func292 Tryz.ntmps292 Tryz.results292 λS nx hd=>?_
 refine za (zb ?_);intro v0 v1 v2 v3;refine za (zb ?_);refine zr hlk ?_;intro v4 v5
 repeat apply za
 refine zb ?_;refine zm rfl (zh (za (zb ?_)));intro v6;refine jg 6 0 42 1 rfl rfl λv7=>?_
 repeat apply za
 refine zb ?_;refine zj (zD (λs':Nat × Nat=>s'.1<=d.length) (λ(k,v7)=>[(4,.ptr (nx+1) v1 0),(5,.ptr (nx+2) v2 0),(6,.ptr (nx+3) v3 0),(8,.ptr (nx+4) v4 0),(9,.ptr (nx+5) v5 0),(11,.ptr (nx+6) v6 0),(26,L d),(27,I d.length),(28,I k)])
  (λ(k,v7)=>[.cells v0 25 (zx x),.cells v1 39 [L d],.cells v2 339 (uU m),.cells v3 39 [yp],.cells v4 371 (yt c1),.cells v5 371 (yt c2),.cells v6 39 [.sl (nx+7) v7 1 0 ((List.range k).filterMap (jJ d m)).length],.cells v7 42 (((List.range k).filterMap (jJ d m)).flatMap Enc.enc)]) (λs'=>d.length-s'.1) (0,v7) [] (by simp) (by simp) (by simp) ?_)
 rintro⟨k,v7⟩ hk0;simp only at hk0 ⊢;refine za (zb ?_);refine za (zv rfl (λhc=>?_) (λhc=>?_))
 ·simp at hc;obtain⟨t,tl,a1,a2,a3,e0⟩:=zF rfl d k hc;have hk1:1<=d.length-k:=by omega
  have htl:=hdt t (Ab a1);have hcl:=VR t (by omega);have hgk:d.getD k []=t:=by rw[Aa,a1];rfl
  have hmkk:=hmk k;have hlen:((List.range k).filterMap (jJ d m)).length<=k:=by have:=Cq (jJ d m) (List.range k);simpa using this
  have hnext:(List.range (k+1)).filterMap (jJ d m)=(List.range k).filterMap (jJ d m)++(jJ d m k).toList:=by
   rw[AO,B8];simp only[Ct,List.filterMap_nil];cases jJ d m k<;>rfl
  have hT1:jJ d m k=if (xx d m k).length=0 then none else some (xx d m k):=rfl
  rw[hgk]at hmkk;have hTl:(xx d m k).length<=5000:=by rw[hmkk];(repeat' split)<;>omega
  have hof:(((List.range k).filterMap (jJ d m)).flatMap Enc.enc:List PV).length=((List.range k).filterMap (jJ d m)).length:=jT _;generalize (List.range k).filterMap (jJ d m)=out at *;have hot:(out.flatMap Enc.enc:List PV).take out.length=out.flatMap Enc.enc:=Af (by omega);have wk:=zu k (by omega);refine zh (za (zj (za (ze [] (zE e0 hc hk1) ?_))));intro v8;refine za (zb ?_);refine zr hcl ?_
  repeat apply za
  refine zb ?_;refine qY (nx:=nx) (λ_:Unit=>True) (λ_=>[(4,.ptr (nx+1) v1 0),(5,.ptr (nx+2) v2 0),(6,.ptr (nx+3) v3 0),(8,.ptr (nx+4) v4 0),(9,.ptr (nx+5) v5 0),(11,.ptr (nx+6) v6 0),(14,L (xx d m k)),(26,L d),(27,I d.length),(28,I k)]) (λ_=>S)
   (λ_=>[.cells v0 25 (zx x),.cells v1 39 [L d],.cells v2 339 (uU m),.cells v3 39 [yp],.cells v4 371 (yt c1),.cells v5 371 (yt c2),.cells v6 39 [.sl (nx+7) v7 1 0 out.length],.cells v7 42 (out.flatMap Enc.enc),.cells v8 42 [L t]]) ?_ ?_
  ·refine zj ?_
   by_cases h1:k=m.a
   ·rw[if_pos h1]at hmkk;have h1':(k:Int)=m.a:=by omega
    rw[hmkk];refine za (zb ?_);refine zn (by simp;omega) ?_;refine zb ?_;refine zr g1 ?_;simp only[jE];exact zY () [] trivial (by simp) rfl (by simp)
   ·rw[if_neg h1]at hmkk;have h1':¬(k:Int)=m.a:=by omega
    refine za (zb ?_);refine zm (by simp;omega) ?_
    by_cases h2:k=m.b
    ·rw[if_pos h2]at hmkk;have h2':(k:Int)=m.b:=by omega
     rw[hmkk];refine za (zb ?_);refine zn (by simp;omega) ?_;refine zb ?_;refine zr g2 ?_;simp only[jE];exact zY () [] trivial (by simp) rfl (by simp)
    ·rw[if_neg h2]at hmkk;have h2':¬(k:Int)=m.b:=by omega
     rw[hmkk];refine za (zb ?_);refine zm (by simp;omega) ?_;refine zh ?_;simp only[jE];exact zY () [] trivial (by simp) rfl (by simp)
  ·rintro⟨⟩ -;generalize xx d m k=tt at *;clear hmkk hcl e0
   by_cases h0:tt.length=0
   ·have e:(jJ d m k).toList=[]:=by rw[hT1,if_pos h0];rfl
    have h0':¬0<tt.length:=by omega
    refine za (ze [] h0' ?_);refine zm (by simp[h0']) ?_;refine zh (zb ?_);exact zq (k+1,v7) [_] (by simp;omega) (by simp;omega) (by simp[wk,hnext,e]) rfl (by simp[hnext,e];rfl)
   ·have e:(jJ d m k).toList=[tt]:=by rw[hT1,if_neg h0];rfl
    have h0':0<tt.length:=by omega
    refine za (ze [] h0' ?_);refine zn (by simp[h0']) ?_;refine ze [] (zo hof hot) ?_;refine⟨by omega,?_⟩;refine zb ?_;exact zq (k+1,v7+1) [_] (by simp;omega) (by simp;omega) (by simp[wk,hnext,e]) rfl (by simp[hnext,e];rfl)
 ·simp at hc;obtain rfl:k=d.length:=by omega
  refine zy (yb 7 rfl ?_);refine za (zb ?_);exact zg (zi hd (by simp;rfl) (by simp[zp]))
open Go Go.Proofs
def Jd(d:zk)(s:Stop)(t k:Nat):Nat:=((d.getD t []).take k).count s
theorem Zcf(d:zk)(s:Stop)(t:Nat):Jd d s t 0=0:=by simp[Jd]
theorem Zgp(d:zk)(s:Stop)(t:Nat):Jd d s t (yK d t)=(d.getD t []).count s:=by unfold Jd yK;rw[Ao]
theorem ZoN(d:zk)(s:Stop)(p:Pc):p.f<=p.o->(qw d p).count s+Jd d s p.t p.f=Jd d s p.t p.o:=by
 intro h;unfold qw Jd;generalize d.getD p.t []=u
 by_cases hf:p.f<p.o
 ·rw[if_pos hf,show p.o=p.f+(p.o-p.f) by omega,List.take_add,CZ,show p.f+(p.o-p.f)-p.f=p.o-p.f by omega];cases p.b
  ·rw[cond_false];omega
  ·rw[cond_true,List.count_reverse];omega
 ·rw[if_neg hf,show p.o=p.f by omega];simp
theorem Zgq(d:zk)(s:Stop)(r:Rw5):(yM d r).count s=(qw d r.a).count s+(qw d r.b).count s+(qw d r.c).count s+(qw d r.d).count s+(qw d r.e).count s:=by
 unfold yM Rw5.l;simp only[AA,Ck,CZ,AF];omega
theorem ZoO{d:zk}{m:Mv}(h:xP d m=true)(s:Stop):(yM d (yk d m).1).count s+(if m.a=m.b then 0 else (yM d (yk d m).2).count s)=(d.getD m.a []).count s+(if m.a=m.b then 0 else (d.getD m.b []).count s):=by
 unfold xP at h;rw[Au]at h;obtain⟨-,h2⟩:=h;unfold vG at h2;unfold yk xv;have e0:=Zcf d s;have ea:=Zcf d s m.a;have eb:=Zcf d s m.b;have la:=Zgp d s m.a;have lb:=Zgp d s m.b;have key:=ZoN d s;rw[Zgq,Zgq]
 by_cases k0:m.k=0
 ·rw[if_pos k0]at h2 ⊢;have h2:=of_decide_eq_true h2;rw[if_pos h2.1.symm,if_pos h2.1.symm];have q1:=key ⟨m.a,0,m.i,false⟩;have q2:=key ⟨m.a,m.i,m.j+1,true⟩;have q3:=key ⟨m.a,m.j+1,yK d m.a,false⟩;have q0:=key yx;simp only[yx]at q1 q2 q3 q0 ⊢;omega
 rw[if_neg k0]at h2 ⊢
 by_cases k1:m.k=1
 ·rw[if_pos k1]at h2 ⊢;have h2:=of_decide_eq_true h2
  by_cases hab:m.a=m.b
  ·rw[if_pos hab]at h2;rw[if_pos hab,if_pos hab,if_neg (by simp[hab])];rw[<-hab]at h2
   by_cases hij:m.i<m.j
   ·rw[if_pos hij];have q1:=key ⟨m.a,0,m.i,false⟩;have q2:=key ⟨m.a,m.i+1,m.j+1,false⟩;have q3:=key ⟨m.a,m.i,m.i+1,false⟩;have q4:=key ⟨m.a,m.j+1,yK d m.a,false⟩;have q0:=key yx;simp only[yx]at q1 q2 q3 q4 q0 ⊢;omega
   ·rw[if_neg hij];have q1:=key ⟨m.a,0,m.j,false⟩;have q2:=key ⟨m.a,m.i,m.i+1,false⟩;have q3:=key ⟨m.a,m.j,m.i,false⟩;have q4:=key ⟨m.a,m.i+1,yK d m.a,false⟩;have q0:=key yx;simp only[yx]at q1 q2 q3 q4 q0 ⊢;omega
  ·rw[if_neg hab]at h2;rw[if_neg hab,if_neg hab,if_pos hab];have q1:=key ⟨m.a,0,m.i,false⟩;have q2:=key ⟨m.a,m.i+1,yK d m.a,false⟩;have q3:=key ⟨m.b,0,m.j,false⟩;have q4:=key ⟨m.a,m.i,m.i+1,false⟩;have q5:=key ⟨m.b,m.j,yK d m.b,false⟩;have q0:=key yx;simp only[yx]at q1 q2 q3 q4 q5 q0 ⊢;omega
 rw[if_neg k1]at h2 ⊢
 by_cases k2:m.k=2
 ·rw[if_pos k2]at h2 ⊢;have h2:=of_decide_eq_true h2
  by_cases hab:m.a=m.b
  ·rw[if_pos hab,if_pos hab,if_pos hab];rw[<-hab]at h2 ⊢;have q1:=key ⟨m.a,0,m.i,false⟩;have q2:=key ⟨m.a,m.j,m.j+1,false⟩;have q3:=key ⟨m.a,m.i+1,m.j,false⟩;have q4:=key ⟨m.a,m.i,m.i+1,false⟩;have q5:=key ⟨m.a,m.j+1,yK d m.a,false⟩;simp only at q1 q2 q3 q4 q5 ⊢;omega
  ·rw[if_neg hab,if_neg hab,if_neg hab];have q1:=key ⟨m.a,0,m.i,false⟩;have q2:=key ⟨m.b,m.j,m.j+1,false⟩;have q3:=key ⟨m.a,m.i+1,yK d m.a,false⟩;have q4:=key ⟨m.b,0,m.j,false⟩;have q5:=key ⟨m.a,m.i,m.i+1,false⟩;have q6:=key ⟨m.b,m.j+1,yK d m.b,false⟩;have q0:=key yx;simp only[yx]at q1 q2 q3 q4 q5 q6 q0 ⊢;omega
 rw[if_neg k2]at h2 ⊢;have h2:=of_decide_eq_true h2;rw[if_neg (by omega),if_neg (by omega)];have q1:=key ⟨m.a,0,m.i,false⟩;have q2:=key ⟨m.b,m.j,yK d m.b,false⟩;have q3:=key ⟨m.b,0,m.j,false⟩;have q4:=key ⟨m.a,m.i,yK d m.a,false⟩;have q0:=key yx;simp only[yx]at q1 q2 q3 q4 q0 ⊢;omega
theorem Zcg{d:zk}{i:Nat}{u:zK}(t:zK)(h:d[i]?=some u)(s:Stop):(d.set i t).flatten.count s+u.count s=t.count s+d.flatten.count s:=by
 obtain⟨hi,rfl⟩:=Ac.1 h;have e:d=d.take i++d[i] :: d.drop (i+1):=by rw[<-List.drop_eq_getElem_cons hi,List.take_append_drop]
 rw[AH,if_pos hi]
 conv=>rhs;rw[e]
 simp only[List.flatten_append,Bp,CZ];omega
theorem Zch{d:zk}{i:Nat}{u:zK}(t:zK)(h:d[i]?=some u)(x:Inst):yq x (d.set i t)+yC x (u.map (·.c))=yC x (t.map (·.c))+yq x d:=by
 obtain⟨hi,rfl⟩:=Ac.1 h;have e:d=d.take i++d[i] :: d.drop (i+1):=by rw[<-List.drop_eq_getElem_cons hi,List.take_append_drop]
 unfold yq;rw[AH,if_pos hi]
 conv=>rhs;rw[e]
 simp only[List.map_append,Ax,De,BP];omega
theorem Zgr(d:zk)(m:Mv):(List.range d.length).map (xx d m)=(d.set m.b (yM d (yk d m).2)).set m.a (yM d (yk d m).1):=by
 refine A7 λi=>?_
 by_cases hi:i<d.length
 ·rw[Aj,AQ hi];simp only[A3,xx,AZ,Bz]
  by_cases h1:i=m.a
  ·rw[if_pos h1,if_pos h1.symm,if_pos (by omega)]
  ·rw[if_neg h1,if_neg (λe:m.a=i=>h1 e.symm)]
   by_cases h2:i=m.b
   ·rw[if_pos h2,if_pos h2.symm,if_pos (by omega)]
   ·rw[if_neg h2,if_neg (λe:m.b=i=>h2 e.symm),Aa,Ad hi];rfl
 ·rw[Ai (by simp;omega),Ai (by simp;omega)]
theorem Zci(d:zk)(m:Mv):∀l:List Nat,(l.filterMap (jJ d m)).flatten=(l.map (xx d m)).flatten/\∀x,yq x (l.filterMap (jJ d m))=yq x (l.map (xx d m))
 | []=>⟨rfl,λ_=>rfl⟩
 | i :: l=>by
  obtain⟨h1,h2⟩:=Zci d m l;have e:jJ d m i=if (xx d m i).length=0 then none else some (xx d m i):=rfl
  rw[Ct,e,Ax]
  by_cases h:(xx d m i).length=0
  ·rw[if_pos h,BJ.1 h];refine⟨by simpa using h1,λx=>?_⟩;have:=h2 x;unfold yq at this ⊢;simpa[yC] using this
  ·rw[if_neg h];refine⟨by simpa using h1,λx=>?_⟩;have:=h2 x;unfold yq at this ⊢;simpa using this
theorem ZoP{d:zk}{m:Mv}{t:zK}(h:t∈vH d m):t≠[]/\(t=yM d (yk d m).1\/t=yM d (yk d m).2\/t∈d):=by
 unfold vH at h;obtain⟨i,hi,h⟩:=BS.1 h;unfold jJ at h;split at h
 ·cases h
 ·rename_i h0;cases h;refine⟨λe=>h0 (by rw[e];rfl),?_⟩;unfold xx;split
  ·exact .inl rfl
  ·split
   ·exact .inr (.inl rfl)
   ·refine .inr (.inr ?_);have hi:=AJ.1 hi;rw[Aa,Ad hi];exact Bh hi
theorem ZoQ(d:zk)(m:Mv):(vH d m).length<=d.length:=by
 have:=Cq (jJ d m) (List.range d.length);simpa[vH] using this
theorem Zgs{d:zk}{m:Mv}(h:xP d m=true):(vH d m).flatten.Perm d.flatten:=by
 obtain⟨-,ha,hb,-,-⟩:=Jb h;refine List.perm_iff_count.2 λs=>?_
 have hc:=ZoO h s;unfold vH;rw[(Zci d m _).1,Zgr];obtain⟨ua,hua⟩:∃u,d[m.a]?=some u:=⟨_,Ad ha⟩;obtain⟨ub,hub⟩:∃u,d[m.b]?=some u:=⟨_,Ad hb⟩;have ga:d.getD m.a []=ua:=by rw[Aa,hua];rfl
 have gb:d.getD m.b []=ub:=by rw[Aa,hub];rfl
 rw[ga,gb]at hc;generalize yM d (yk d m).1=t1 at *;generalize yM d (yk d m).2=t2 at *
 by_cases hab:m.a=m.b
 ·rw[if_pos hab,if_pos hab]at hc;rw[<-hab,DL];have:=Zcg t1 hua s;omega
 ·rw[if_neg hab,if_neg hab]at hc;have h1:=Zcg t2 hub s;have h2:=Zcg (d:=d.set m.b t2) (i:=m.a) (u:=ua) t1 (by rw[AP (λe=>hab e.symm)];exact hua) s;omega
theorem ZoR{x:Inst}{d:zk}{m:Mv}(h:xP d m=true)(h0:arc x 0 0=0):yq x (vH d m)=yq x d+Qm x d m:=by
 obtain⟨-,ha,hb,r1,r2⟩:=Jb h;unfold vH Qm Wp;rw[(Zci d m _).2,Zgr,Zcc r1 h0,Zcc r2 h0];obtain⟨ua,hua⟩:∃u,d[m.a]?=some u:=⟨_,Ad ha⟩;obtain⟨ub,hub⟩:∃u,d[m.b]?=some u:=⟨_,Ad hb⟩;have ga:d.getD m.a []=ua:=by rw[Aa,hua];rfl
 have gb:d.getD m.b []=ub:=by rw[Aa,hub];rfl
 rw[ga,gb];generalize yM d (yk d m).1=t1 at *;generalize yM d (yk d m).2=t2 at *
 by_cases hab:m.a=m.b
 ·rw[if_pos hab,<-hab,DL];have:=Zch t1 hua x;omega
 ·rw[if_neg hab];have h1:=Zch t2 hub x;have h2:=Zch (d:=d.set m.b t2) (i:=m.a) (u:=ua) t1 (by rw[AP (λe=>hab e.symm)];exact hua) x;omega
open Go Go.Proofs Hp
theorem Zcj(x:Inst):∀(ds:List zk) (st:zk × Int × Bool),(ds.foldl (xq x) st).2.2=true->ds.foldl (xq x) st=st\/(∃d∈ds,yr x d=0/\ds.foldl (xq x) st=(d,W (yq x d),true))
 | [],st,_=>.inl rfl
 | d :: ds,st,h=>by
  rw[A8]at h ⊢;rcases Zcj x ds _ h with e | ⟨d2,h1,h2,h3⟩
  ·rw[e];unfold xq;split
   ·rename_i h0;split
    ·exact .inr ⟨d,by simp,h0,rfl⟩
    ·exact .inl rfl
   ·exact .inl rfl
  ·exact .inr ⟨d2,by simp[h1],h2,h3⟩
theorem ZoS{x:Inst}{e:Int}{ds:List zk}(h:(vA x e ds).2=0):e=0/\(vA x e ds).1∈ds/\yr x (vA x e ds).1=0:=by
 unfold vA at h ⊢
 by_cases he:e=0
 ·rw[if_pos he]at h ⊢;cases hz:(uS x ds).2.2 with
  | false=>rw[hz]at h;cases h
  | true =>
   refine⟨he,?_⟩;rcases Zcj x ds ([],0,false) hz with q | ⟨d,h1,h2,h3⟩
   ·have:(uS x ds).2.2=false:=by unfold uS;rw[q]
    rw[this]at hz;cases hz
   ·have:uS x ds=(d,W (yq x d),true):=h3;rw[this];exact⟨h1,h2⟩
 ·rw[if_neg he]at h;exact absurd h he
theorem Zgt(x:Inst):qU (yo x):=by
 refine Zn3 λrow hr d hd=>?_
 simp only[yo,An]at hr;obtain⟨a,_,rfl⟩:=hr;unfold wu at hd;obtain⟨b,_,rfl⟩:=An.1 hd;split
 ·have:=xp (arc x a b) 0 60 (by omega);omega
 ·omega
theorem ZoT(x:Inst):0<=(yo x).veh:=(xp x.veh 0 5 (by omega)).1
open Go Go.Proofs
structure SG (x:Inst) (l:List Stop) (d:zk):Prop where
 may:∀t∈d,zP x t=0
 perm:d.flatten.Perm l
def Zgu(x:Inst)(t:zK):Prop:=(∀s∈t,ju x s=true)/\(t.map (·.c)).Nodup/\t.length<=1000
theorem Zck{x:Inst}{t:zK}(h:zP x t=0):(∀s∈t,ju x s=true)/\t≠[]:=by
 have:=((Q7 x t).1 h).1;unfold qH at this;rw[Au,As]at this;refine⟨this.1,λe=>?_⟩;subst e;simp at this
theorem Zcl{x:Inst}:∀t:zK,(∀s∈t,ju x s=true)->0<=zQ t/\zQ t<=2147483648*(t.length:Int)
 | [],_=>by simp[zQ]
 | s :: t,h=>by
  have h1:=Zcl t λs hs=>h s (by simp[hs])
  have h2:=h s (by simp);simp[ju]at h2;unfold zQ at h1 ⊢;simp only[Ax,BP,Ae];omega
theorem Wq{x:Inst}(hx:qU x){t:zK}(h:Zgu x t)(hn:t≠[]):zP x t=0<->zQ t<=x.cap/\yC x (t.map (·.c))<=x.len:=by
 obtain⟨h1,h2,h3⟩:=h;have b1:=Zcl t h1;have b2:=Wl hx (t.map (·.c));rw[List.length_map]at b2;have w1:W (zQ t)=zQ t:=wr _ (by omega) (by omega);have w2:W (yC x (t.map (·.c)))=yC x (t.map (·.c)):=wr _ (by omega) (by omega);rw[Q7,w1,w2];have:qH x t=true:=by
  unfold qH;rw[Au,As];exact⟨h1,by cases t<;>simp at hn ⊢⟩
 exact⟨λe=>e.2.2,λe=>⟨this,h2,e⟩⟩
theorem SG.each{x:Inst}{l:List Stop}{d:zk}(g:SG x l d):∀s∈l,ju x s=true:=by
 intro s hs;obtain⟨t,ht,hst⟩:=BO.1 (g.perm.symm.subset hs);exact(Zck (g.may t ht)).1 s hst
section
variable {x:Inst} {l:List Stop} (h:SOk x l)
include h
theorem SG.len{d:zk}(g:SG x l d):d.flatten.length<=1000/\d.length<=1000:=by
 have h1:=VU d λt ht=>(Zck (g.may t ht)).2
 have h2:=g.perm.length_eq;have h3:=h.len;omega
theorem SG.tour{d:zk}(g:SG x l d){e:zk}(he:e.flatten.Perm l){t:zK}(ht:t∈e):Zgu x t:=by
 have hs:=YD ht;have hl:=h.len;refine⟨λs q=>g.each s (he.subset (hs.subset q)),?_,?_⟩
 ·exact((he.map _).nodup_iff.2 h.nd).sublist (hs.map _)
 ·have:=hs.length_le;have:=he.length_eq;omega
theorem SG.mv{d:zk}(g:SG x l d):MvDay d:=by
 refine⟨(g.len h).2,λt ht=>(g.tour h g.perm ht).2.2,λt ht s hs=>?_⟩;have:=(g.tour h g.perm ht).1 s hs;have hc:=h.cust;simp[ju]at this;unfold qe;omega
theorem SG.ok{d:zk}(g:SG x l d):DayOk d:=by
 have h1:=g.len h;have h2:=g.mv h;exact⟨by omega,λt ht=>AB (h2.t t ht) (by decide),λt ht s hs=>(h2.s t ht s hs).1⟩
end
theorem Zgv{x:Inst}{d:zk}{r:Rw5}(hr:uC d r)(h0:arc x 0 0=0):wX x d r<->zQ (yM d r)<=x.cap/\yC x ((yM d r).map (·.c))<=x.len:=by
 unfold wX;rw[Zcc hr h0,ZoF hr]
theorem ZoU{d:zk}{m:Mv}(h:xP d m=true)(hab:m.a=m.b):yM d (yk d m).2=[]:=by
 have e0:yM d xu=[]:=rfl;unfold xP at h;rw[Au]at h;obtain⟨-,h2⟩:=h;unfold vG at h2;unfold yk xv
 by_cases k0:m.k=0
 ·rw[if_pos k0];exact e0
 rw[if_neg k0]at h2 ⊢
 by_cases k1:m.k=1
 ·rw[if_pos k1,if_neg (by simp[hab])];split<;>exact e0
 rw[if_neg k1]at h2 ⊢
 by_cases k2:m.k=2
 ·rw[if_pos k2,if_pos hab];exact e0
 rw[if_neg k2]at h2;have h2:=of_decide_eq_true h2;omega
theorem ZoV{d:zk}{m:Mv}(h:xP d m=true)(hn:yM d (yk d m).1≠[]):yM d (yk d m).1∈vH d m:=by
 obtain⟨-,ha,-⟩:=Jb h;refine BS.2 ⟨m.a,AJ.2 ha,?_⟩;have e:xx d m m.a=yM d (yk d m).1:=by unfold xx;rw[if_pos rfl]
 unfold jJ;rw[e,if_neg λq=>hn (BJ.1 q)]
theorem ZoW{d:zk}{m:Mv}(h:xP d m=true)(hab:m.a≠m.b)(hn:yM d (yk d m).2≠[]):yM d (yk d m).2∈vH d m:=by
 obtain⟨-,-,hb,-⟩:=Jb h;refine BS.2 ⟨m.b,AJ.2 hb,?_⟩;have e:xx d m m.b=yM d (yk d m).2:=by unfold xx;rw[if_neg λq=>hab q.symm,if_pos rfl]
 unfold jJ;rw[e,if_neg λq=>hn (BJ.1 q)]
theorem ZoX{x:Inst}{l:List Stop}(h:SOk x l)(h0:arc x 0 0=0){d:zk}(g:SG x l d){m:Mv}(hm:xP d m=true):(wX x d (yk d m).1/\wX x d (yk d m).2)<->∀t∈vH d m,zP x t=0:=by
 obtain⟨-,ha,hb,r1,r2⟩:=Jb hm;have hp:(vH d m).flatten.Perm l:=(Zgs hm).trans g.perm;rw[Zgv r1 h0,Zgv r2 h0];have hz:0<=x.cap/\0<=x.len:=by
  have ht:=g.may _ (Bh ha);have hg:=g.tour h g.perm (Bh ha);have:=(Wq h.arc hg (Zck ht).2).1 ht;have b1:=Zcl _ hg.1;have b2:=Wl h.arc (d[m.a].map (·.c));omega
 have e0:zQ []=0/\yC x (([]:zK).map (·.c))=0:=⟨rfl,rfl⟩;constructor
 ·rintro⟨q1,q2⟩ t ht;obtain⟨hn,h3⟩:=ZoP ht;have hg:=g.tour h hp ht;rcases h3 with rfl | rfl | h3
  ·exact(Wq h.arc hg hn).2 q1
  ·exact(Wq h.arc hg hn).2 q2
  ·exact g.may t h3
 ·intro hall;constructor
  ·by_cases hn:yM d (yk d m).1=[]
   ·rw[hn,e0.1,e0.2];exact hz
   ·have ht:=ZoV hm hn;exact(Wq h.arc (g.tour h hp ht) hn).1 (hall _ ht)
  ·by_cases hn:yM d (yk d m).2=[]
   ·rw[hn,e0.1,e0.2];exact hz
   ·by_cases hab:m.a=m.b
    ·exact absurd (ZoU hm hab) hn
    ·have ht:=ZoW hm hab hn;exact(Wq h.arc (g.tour h hp ht) hn).1 (hall _ ht)
theorem Zgw(x:Inst)(d:zk):∀(ms:List Mv) (st:Mv × Int),(ms.foldl (Qn x d) st=st)\/(∃m∈ms,(ms.foldl (Qn x d) st)=(m,Qm x d m)/\wX x d (yk d m).1/\wX x d (yk d m).2)
 | [],st=>.inl rfl
 | m :: ms,st=>by
  rw[A8];rcases Zgw x d ms (Qn x d st m) with e | ⟨m2,h1,h2,h3⟩
  ·rw[e];unfold Qn;split
   ·rename_i hc;exact .inr ⟨m,by simp,rfl,hc.2⟩
   ·exact .inl rfl
  ·exact .inr ⟨m2,by simp[h1],h2,h3⟩
def ue(x:Inst)(d:zk):Option zk:=if (wY x d).2<0 then some (vH d (wY x d).1) else none
theorem Zgx{x:Inst}{d:zk}(hb:(wY x d).2<0):(wY x d).1∈Z7 d/\Qm x d (wY x d).1<0/\wX x d (yk d (wY x d).1).1/\wX x d (yk d (wY x d).1).2:=by
 rcases Zgw x d (Z7 d) (Jc,0) with e | ⟨m,h1,h2,h3⟩
 ·unfold wY at hb;rw[e]at hb;cases hb
 ·unfold wY at hb ⊢;rw[h2]at hb ⊢;exact⟨h1,hb,h3⟩
theorem Zgy{x:Inst}{l:List Stop}(h:SOk x l)(h0:arc x 0 0=0){d e:zk}(g:SG x l d)(hs:ue x d=some e):SG x l e/\yq x e<yq x d/\e.length<=d.length:=by
 unfold ue at hs;split at hs
 ·rename_i hb;cases hs;obtain⟨h1,h2,h3⟩:=Zgx hb;have hm:=(Zce h1).1;refine⟨⟨(ZoX h h0 g hm).1 h3,(Zgs hm).trans g.perm⟩,?_,ZoQ _ _⟩;rw[ZoR hm h0];omega
 ·cases hs
theorem Zgz{x:Inst}{l:List Stop}(h:SOk x l)(h0:arc x 0 0=0):Zf4 x (ue x) (SG x l):=by
 intro d g;have hv:=g.mv h;have hl:∀a,yK d a<=1000:=by
  intro a;unfold yK;rw[Aa];cases hq:d[a]? with
  | none=>simp
  | some l=>exact hv.t l (Ab hq)
 have hd1:(ue x d).isSome=decide ((wY x d).2<0):=by
  unfold ue;split
  ·rename_i q;simp[q]
  ·rename_i q;simp[q]
 refine⟨_,_,_,_,_,_,by rw[hd1];exact ZoL x d h.arc hv,λe he=>⟨?_,(Zgy h h0 g he).1⟩⟩;unfold ue at he;split at he
 ·rename_i hb;cases he;obtain⟨h1,-,-⟩:=Zgx hb;obtain⟨h1,h2,h3⟩:=Zce h1;have:=hl (wY x d).1.a;have:=hl (wY x d).1.b;exact ZoM x d _ hv.n hv.t h1 (by omega) (by omega)
 ·cases he
theorem V5{x:Inst}{l:List Stop}(h:SOk x l)(h0:arc x 0 0=0):∀(n:Nat) (d:zk),SG x l d->SG x l (wU (ue x) n d)/\yq x (wU (ue x) n d)<=yq x d/\(wU (ue x) n d).length<=d.length
 | 0,d,g=>⟨g,Cu _,Ag _⟩
 | n+1,d,g=>by
  unfold wU;cases hs:ue x d with
  | none=>exact⟨g,Cu _,Ag _⟩
  | some e =>
   obtain⟨a,b,c⟩:=Zgy h h0 g hs;obtain⟨a',b',c'⟩:=V5 h h0 n e a;exact⟨a',by simp only;omega,by simp only;omega⟩
open Go Go.Proofs Hp
theorem ZgA(x:Inst):arc (yo x) 0 0=0:=by
 have h1:(yo x).dist[0]?=some (wu x (x.cust.take 6).length 0):=by
  unfold yo;rw[Aj,AQ (by omega)];rfl
 have h2:(wu x (x.cust.take 6).length 0)[0]?=some 0:=by
  unfold wu;rw[Aj,AQ (by omega)];rfl
 unfold arc;split
 ·rfl
 ·rw[Aa,Aa]
  show (((yo x).dist[0]?).getD [])[0]?.getD 0=0
  rw[h1]
  show ((wu x (x.cust.take 6).length 0)[0]?).getD 0=0
  rw[h2];rfl
theorem ZgB{x:Inst}{l:List Stop}(h:wv x l=0):∀s∈l,zP x [s]=0:=by
 unfold wv at h;intro s hs;cases hf:l.find? (λs=>zP x [s] != 0) with
 | some s2 =>
  have:=DM hf;rw[hf]at h;simp only at h;rw[h]at this;simp at this
 | none =>
  have:=Di.1 hf s hs;simpa using this
theorem ZoY{x:Inst}{l:List Stop}(h:SOk x l)(hf:wv x l=0):∀t∈wR x l,zP x t=0:=by
 have key:∀(ps:List Pr) (st:zk × Int),(∀t∈st.1,t.length<=1\/zP x t=0)->∀t∈(ps.foldl (q8 x) st).1,t.length<=1\/zP x t=0:=by
  intro ps
  induction ps with
  | nil=>intro st h;exact h
  | cons p ps ih =>
   intro st hst;rw[A8];refine ih _ λt ht=>?_
   unfold q8 We at ht;generalize uR st.1 p.a=i at ht;generalize uR st.1 p.b=k at ht;generalize st.1.getD i []=a at ht;generalize st.1.getD k []=b at ht;cases hc:qv x st.2 p i k a b with
   | false=>rw[hc]at ht;exact hst t ht
   | true =>
    rw[hc]at ht;simp only[cond_true]at ht;unfold qv at hc;simp only[Au,decide_eq_true_eq]at hc;rcases BC ht with ht | ht
    ·rcases BC ht with ht | ht
     ·exact hst t ht
     ·rw[ht];exact .inr hc.2
    ·rw[ht];exact .inl (by simp)
 intro t ht;obtain⟨-,hp,-,hne⟩:=h.join;have hs:=YD ht;have h1:=key (qT x (l.map λs:Stop=>s.c)) (l.map λs=>[s],(l.length:Int)) (λt ht=>by obtain⟨s,_,rfl⟩:=An.1 ht;simp) t (Bd.1 ht).1;rcases h1 with h1 | h1
 ·have:=hne t ht
  match t,h1,this with
  | [s],_,_=>exact ZgB hf s (hp.subset (hs.subset (by simp)))
 ·exact h1
theorem ZgC{x:Inst}{l:List Stop}(h:SOk x l)(hf:wv x l=0):∀d∈Qj x l,SG x l d:=by
 intro d hd;unfold Qj at hd;simp only[List.cons_append,AS,Aq]at hd;rcases hd with rfl | rfl | hd
 ·exact⟨ZoY h hf,h.join.2.1⟩
 ·refine⟨λt ht=>?_,by rw[h.apart.2.1]⟩;obtain⟨s,hs,rfl⟩:=An.1 ht;exact ZgB hf s hs
 ·cases hall:(q9 x l).2 with
  | false=>rw[hall]at hd;simp at hd
  | true =>
   rw[hall]at hd;simp at hd;subst hd;obtain⟨r,hp⟩:=h.regret;exact⟨((vB x _).1 r.may).1,hp hall⟩
def wZ(x:Inst)(b:Int)(d:zk):zk:=wU (ue x) b.toNat d
def uE(x:Inst)(b:Int)(l:List Stop):zk × Int:=vA x (wv x l) (Zr x (wZ x b) l)
theorem ZoZ{x:Inst}{l:List Stop}(h:SOk x l)(h0:arc x 0 0=0)(hf:wv x l=0){b:Int}(hb:b<=9223372036854775807):Zgf x b (wZ x b) (Qj x l):=by
 intro d hd;have g:=ZgC h hf d hd;obtain⟨g2,-,-⟩:=V5 h h0 b.toNat d g;have o:=g.ok h;refine⟨⟨_,Zf5 x d b (ue x) (SG x l) hb o.n o.t (λ_=>g) (Zgz h h0)⟩,g2.ok h,?_⟩;have:=(g2.len h).1
 show (wU (ue x) b.toNat d).flatten.length<=1048576
 omega
theorem Zo0{x:Inst}{l:List Stop}(h:SOk x l)(h0:arc x 0 0=0){b:Int}(hb:b<=9223372036854775807):Pure prog 249 [.agg (zx x),L l,I b] (.tup [.agg [L (uE x b l).1],I (uE x b l).2]) :=
 Zow x l b _ h λhf=>ZoZ h h0 hf hb
theorem Zo1{x:Inst}{l:List Stop}(h:SOk x l)(h0:arc x 0 0=0)(hf:wv x l=0)(b:Int):∀d∈Zr x (wZ x b) l,SG x l d:=by
 have hb:=ZgC h hf;have hi:=λd g=>(V5 h h0 b.toNat d g).1
 intro d hd;unfold Zr at hd;unfold Qj at hb;simp only[List.cons_append,AS,Aq]at hd hb;rcases hd with rfl | rfl | rfl | hd
 ·exact hb _ (.inr (.inl rfl))
 ·exact hi _ (hb _ (.inl rfl))
 ·exact hi _ (hb _ (.inr (.inl rfl)))
 ·cases hall:(q9 x l).2 with
  | false=>rw[hall]at hd;simp at hd
  | true =>
   rw[hall]at hd;simp at hd;subst hd;exact hi _ (hb _ (.inr (.inr (by rw[hall];simp))))
theorem ZgD(x:Inst):∀(ds:List zk) (st:zk × Int × Bool),(st.2.2=true->(ds.foldl (xq x) st).2.2=true/\(ds.foldl (xq x) st).2.1<=st.2.1)/\∀d∈ds,yr x d=0->(ds.foldl (xq x) st).2.2=true/\(ds.foldl (xq x) st).2.1<=W (yq x d)
 | [],st=>⟨λe=>⟨e,Cu _⟩,by simp⟩
 | d :: ds,st=>by
  rw[A8];obtain⟨h1,h2⟩:=ZgD x ds (xq x st d);constructor
  ·intro e;have:(xq x st d).2.2=true/\(xq x st d).2.1<=st.2.1:=by
    unfold xq;split
    ·split
     ·rename_i hc;rcases hc with hc | hc
      ·rw[e]at hc;cases hc
      ·exact⟨rfl,D1 hc⟩
     ·exact⟨e,Cu _⟩
    ·exact⟨e,Cu _⟩
   obtain⟨a,b⟩:=h1 this.1;exact⟨a,DZ b this.2⟩
  ·intro d2 hd hz;rcases Aq.1 hd with rfl | hd
   ·have:(xq x st d2).2.2=true/\(xq x st d2).2.1<=W (yq x d2):=by
     unfold xq;rw[if_pos hz];split
     ·exact⟨rfl,Cu _⟩
     ·rename_i hc;cases hq:st.2.2 with
      | false=>exact absurd (.inl hq) hc
      | true=>exact⟨rfl,DP.1 λq=>hc (.inr q)⟩
    obtain⟨a,b⟩:=h1 this.1;exact⟨a,DZ b this.2⟩
   ·exact h2 d2 hd hz
theorem Zo2{x:Inst}{e:Int}{ds:List zk}(he:e=0){d:zk}(hd:d∈ds)(hz:yr x d=0):(vA x e ds).2=0/\W (yq x (vA x e ds).1)<=W (yq x d):=by
 obtain⟨h1,h2⟩:=(ZgD x ds ([],0,false)).2 d hd hz;change (uS x ds).2.2=true at h1;change (uS x ds).2.1<=W (yq x d) at h2;unfold vA;rw[if_pos he,h1];refine⟨rfl,?_⟩;rcases Zcj x ds ([],0,false) h1 with q | ⟨d2,g1,g2,g3⟩
 ·have:(uS x ds).2.2=false:=by unfold uS;rw[q]
  rw[this]at h1;cases h1
 ·have:uS x ds=(d2,W (yq x d2),true):=g3;rw[this]at h2 ⊢;exact h2
theorem Zo3(x:Inst)(imp:zk->zk)(l:List Stop):qI l∈Zr x imp l:=by simp[Zr]
section
variable {x:Inst} {l:List Stop} (h:SOk x l) (h0:arc x 0 0=0) (b:Int)
include h h0
theorem Zo4(he:(uE x b l).2=0):wv x l=0/\yr x (uE x b l).1=0/\(uE x b l).1.flatten.Perm l/\(yr x (qI l)=0->W (yq x (uE x b l).1)<=W (yq x (qI l))):=by
 obtain⟨hf,hm,hz⟩:=ZoS he;have g:=Zo1 h h0 hf b _ hm;exact⟨hf,hz,g.perm,λq=>(Zo2 hf (Zo3 x _ l) q).2⟩
omit h0 in
end
open Go
structure Visit where
 d:Int
 q:Int
 deriving DecidableEq
instance:Inhabited Visit:=⟨⟨0,0⟩⟩
instance:Enc Visit:=⟨λs=>[I s.d,I s.q],2,λ_=>rfl,λ_=>rfl⟩
@[simp] theorem ZxT(s:Visit):Enc.enc s=[I s.d,I s.q]:=rfl
@[simp high] theorem ZxU(l:List Visit):(l.flatMap Enc.enc).length=l.length*2:=j4 l
@[simp high] theorem ZxV(l:List Visit):(l.flatMap Enc.enc).take (l.length*2)=l.flatMap Enc.enc:=YA l
def told:Nat->List zk->List (Stop × Nat)
 | _,[]=>[]
 | i,d :: ds=>d.flatten.map (·,i)++told (i+1) ds
def Wr(x:Stop × Nat):List PV:=[.agg [I x.1.c,I x.1.q,I x.2]]
theorem Zo5(p:zC):Pure prog 99 [.agg [L p]] (.fn (.func 135) [] [.ip [L p]]):=by
 refine zt Tryz.func99 Tryz.ntmps99 Tryz.results99 λS nx hd=>?_
 refine za (zb ?_);intro v0;refine za (zb ?_);refine xM 0 rfl ?_;exact zg (zi hd (by simp;rfl) rfl)
theorem Zo6(p:zC)(hp:p.length<=1048576)(hd:∀d∈p,d.length<=1048576)(ht:∀d∈p,∀t∈d,t.length<=1048576):Y8 prog 135 [.ip [L p]] ((told 0 p).map Wr):=by
 have yieldX:∀(pre rest:List (Stop × Nat)) (x:Stop × Nat),told 0 p=pre++x :: rest->((told 0 p).map Wr)[pre.length]?=some (Wr x):=by
  intro pre rest x e;rw[e];simp
 refine X0 Tryz.func135 (by rfl) rfl Tryz.ntmps135 (congrArg Array.toList Tryz.results135) (by simp) λl V keep nx J hJd hY A0 hA0=>?_
 refine za (zb ?_);refine zj (jr (σ:=Nat × Store × List (Stop × Nat)) (λs=>s.1<=p.length/\J s.2.2.length s.2.1/\told 0 p=s.2.2++told s.1 (p.drop s.1)) (λs=>[(0,jS l),(10,L p),(11,I p.length),(12,I s.1)]) (λs=>s.2.1) (λs=>[]) (λs=>p.length-s.1) (zY (0,A0,[]) [] (by simp[hA0]) (by simp) rfl (by simp)) ?_);rintro⟨a,A,pre⟩ ⟨ha,hJ,hr⟩;simp only at ha hJ hr ⊢;refine za (zb ?_);refine za (zv rfl (λhc=>?_) (λhc=>?_))
 ·simp at hc;obtain⟨d,tl,a1,a2,a3,e0⟩:=zF rfl p a hc;have hdm:=Ab a1;have hdl:=hd d hdm;rw[a2]at hr;simp only[told]at hr;refine zh (za (zj (za (ze [] (zo e0 hc) ?_))));intro v0;refine za (zb ?_);refine zj (jr (σ:=Nat × Store × List (Stop × Nat)) (λs=>s.1<=d.length/\J s.2.2.length s.2.1/\told 0 p=s.2.2++((d.drop s.1).flatten.map (·,a)++told (a+1) (p.drop (a+1)))) (λs=>[(0,jS l),(3,I a),(10,L p),(11,I p.length),(12,I a),(18,L d),(19,I d.length),(20,I s.1)]) (λs=>s.2.1) (λs=>[]) (λs=>d.length-s.1) (zY (0,A,pre) [_] (by simp[hJ,hr]) (by simp) rfl rfl) ?_);rintro⟨b,A,pre⟩ ⟨hb,hJ,hr⟩;simp only at hb hJ hr ⊢;refine za (zb ?_);refine za (zv rfl (λhc2=>?_) (λhc2=>?_))
  ·simp at hc2;obtain⟨t,tl2,b1,b2,b3,e2⟩:=zF rfl d b hc2;have htl:=ht d hdm t (Ab b1);rw[b2]at hr;simp only[Bp,List.map_append,List.append_assoc]at hr;refine zh (za (zj (za (ze [] (zo e2 hc2) ?_))));intro v1;refine za (zb ?_);refine zj (jr (σ:=Nat × Store × List (Stop × Nat)) (λs=>s.1<=t.length/\J s.2.2.length s.2.1/\told 0 p=s.2.2++((t.drop s.1).map (·,a)++((d.drop (b+1)).flatten.map (·,a)++told (a+1) (p.drop (a+1))))) (λs=>[(0,jS l),(3,I a),(10,L p),(11,I p.length),(12,I a),(18,L d),(19,I d.length),(20,I b),(25,L t),(26,I t.length),(27,I s.1)]) (λs=>s.2.1) (λs=>[]) (λs=>t.length-s.1) (zY (0,A,pre) [_] (by simp[hJ,hr]) (by simp) rfl rfl) ?_);rintro⟨j,A,pre⟩ ⟨hj,hJ,hr⟩;simp only at hj hJ hr ⊢;refine za (zb ?_);refine za (zv rfl (λhc3=>?_) (λhc3=>?_))
   ·simp at hc3;obtain⟨s,tl3,c1,c2,c3,_,e3⟩:=el 2 rfl t j hc3;rw[c2]at hr;simp only[Ax,List.cons_append]at hr;refine zh (za (zj (za (ze [] (zo e3 hc3) ?_))));intro v2;refine za (zb ?_);refine λhsuf=>JQ rfl rfl rfl (hY _ _ _ _ (yieldX pre _ (s,a) hr) hJ) ?_
    rintro _ ⟨A',hJ',rfl⟩;refine⟨_,_,rfl,zL hsuf ?_⟩;refine zm rfl (zh (zb ?_));exact zq (j+1,A',pre++[(s,a)]) [_] ⟨hc3,by simpa using hJ',by simp[hr]⟩ (by simp;omega) (by simp[zu j (by omega)]) rfl rfl
   ·simp at hc3;have:j=t.length:=by omega
    subst this;simp only[Cf,Be,AS]at hr;refine zy (zb ?_);exact zq (b+1,A,pre) [] ⟨hc2,hJ,hr⟩ (by simp;omega) (by simp[zu b (by omega)]) rfl (by simp)
  ·simp at hc2;have:b=d.length:=by omega
   subst this;simp only[Cf,DB,Be,AS]at hr;refine zy (zb ?_);exact zq (a+1,A,pre) [] ⟨hc,hJ,hr⟩ (by simp;omega) (by simp[zu a (by omega)]) rfl (by simp)
 ·simp at hc;have:a=p.length:=by omega
  subst this;simp only[Cf,told,AF]at hr;refine zy (uO (hJd _ _ hJ) rfl ?_);simpa[hr] using hJ
open Go
def y9(c:Int)(l:List (Stop × Nat)):List Visit:=(l.filter λx=>decide (x.1.c=c)).map λx=>⟨x.2,x.1.q⟩
theorem ZgE(c:Int)(l m:List (Stop × Nat)):y9 c (l++m)=y9 c l++y9 c m:=by simp[y9]
theorem ZgF(c:Int)(x:Stop × Nat):y9 c [x]=if x.1.c=c then [⟨x.2,x.1.q⟩] else []:=by
 by_cases h:x.1.c=c<;>simp[y9,h]
theorem ZgG(c:Int)(l:List (Stop × Nat)):(y9 c l).length<=l.length:=by
 simp only[y9,List.length_map];exact By _ _
structure PlanOk (p:zC):Prop where
 n:p.length<=1048576
 d:∀d∈p,d.length<=1048576
 t:∀d∈p,∀t∈d,t.length<=1048576
 told:(told 0 p).length<=1048576
theorem Zcm(p:zC)(c:Int)(hp:PlanOk p):Pure prog 158 [.agg [L p],I c] (L (y9 c (told 0 p))):=by
 have hlen:=hp.told;refine zt Tryz.func158 Tryz.ntmps158 Tryz.results158 λS nx hd=>?_
 refine za (zb ?_);intro v0 v1;refine za (zb ?_);intro v2
 repeat apply za
 refine zb ?_;refine zr (Zo5 p) ?_;refine jg 2 0 104 2 rfl rfl λv3=>?_
 refine zj (JR (xs:=(told 0 p).map Wr) (σ:=List Visit × Nat) (λi s=>s.1=y9 c ((told 0 p).take i)/\s.1.length<=i/\i<=(told 0 p).length) [(3,.ptr (nx+1) v1 0),(5,.ptr (nx+2) v2 0)] (λ_=>S)
  (λ(out,v3)=>[.cells v0 30 [L p],.cells v1 3 [I c],.cells v2 101 [.sl (nx+3) v3 2 0 out.length],.cells v3 104 (out.flatMap Enc.enc)]) ([],v3)
  (Zo6 p hp.n hp.d hp.t) rfl (by intro x hx;obtain⟨y,_,rfl⟩:=An.1 hx;rfl) (by decide) (by simp) ⟨by simp[y9],by simp,by simp⟩ rfl (by simp) (by simp) ?_ ?_)
 ·rintro l i ⟨out,v3⟩ more x ⟨ho,hl,hi⟩ hx;simp only at ho hl hi ⊢;rw[Aj]at hx;obtain⟨y,hy,rfl⟩:=Ap.1 hx;obtain⟨s,d⟩:=y;obtain⟨hil,hyi⟩:=Ac.1 hy;have htk:(told 0 p).take (i+1)=(told 0 p).take i++[(s,d)]:=by rw[AU hil,hyi]
  refine xl [] (by rfl) (by rfl) λK Gc Gh hK hGc hGh X hX0 hX=>?_
  simp -implicitDefEqProofs [hX0,hX,Wr]
  try clear hX0 hX X
  intro v4;refine hK _ _ _ ?_;clear hK hGc hGh;clear K Gc Gh;refine zj (za (zb ?_));refine zv rfl (λhc=>?_) (λhc=>?_)
  ·simp at hc;refine zb ?_;refine⟨by omega,?_⟩;simp only[jE];exact wN (out++[⟨d,s.q⟩],v3+1) [_] ⟨by rw[htk,ZgE,ZgF,if_pos hc,ho],by simp;omega,by omega⟩ rfl (by simp;rfl)
  ·simp at hc;refine zh ?_;simp only[jE];exact wN (out,v3) [_] ⟨by rw[htk,ZgE,ZgF,if_neg hc,ho,AF],Nat.le_succ_of_le hl,by omega⟩ rfl (by simp;rfl)
 ·rintro⟨out,v3⟩ ⟨ho,hl,-⟩;simp only[List.length_map,Ao]at ho hl ⊢;refine za (zb ?_);refine yb 3 rfl ?_;exact zg (zi hd (by simp;rfl) (by rw[ho];rfl))
open Go
theorem Zo7(p:zC)(c:Int)(hp:PlanOk p):Pure prog 198 [.agg [L p],I c] (L ((y9 c (told 0 p)).map (·.d))):=by
 have hlen:=AB (ZgG c (told 0 p)) hp.told;have hvis:=Zcm p c hp;generalize y9 c (told 0 p)=vs at hlen hvis ⊢;refine zt Tryz.func198 Tryz.ntmps198 Tryz.results198 λS nx hd=>?_
 refine za (zb ?_);intro v0;refine za (zb ?_);refine za (jf 5 3 1 rfl λv1=>?_);refine za (zb ?_);refine zr hvis ?_;refine zj (zD (λs:Nat × List Int × Nat=>s.1<=vs.length/\s.2.1=(vs.take s.1).map (·.d)) (λ(k,out,v1)=>[(5,.sl (nx+1) v1 1 0 out.length),(10,L vs),(11,I vs.length),(12,I k)]) (λ(k,out,v1)=>[.cells v0 30 [L p],.cells v1 3 (out.flatMap Enc.enc)]) (λs=>vs.length-s.1) (0,[],v1) [] (by simp) (by simp) (by simp) ?_);rintro⟨k,out,v1⟩ ⟨hk,ho⟩;simp only at hk ho ⊢;have hol:out.length=k:=by rw[ho];simp;omega
 refine za (zb ?_);refine za (zv rfl (λhc=>?_) (λhc=>?_))
 ·simp at hc;obtain⟨s,tl,a1,a2,a3,_,e0⟩:=el 2 rfl vs k hc;refine zh (za (zj (za (ze [] (zo e0 hc) ?_))));intro v2;refine zb ?_;refine⟨by omega,?_⟩;refine zb ?_;exact zq (k+1,out++[s.d],v1+1) [_] ⟨hc,by rw[a3,ho];simp⟩ (by simp;omega) (by simp[zu k (by omega)]) rfl (by simp;rfl)
 ·simp at hc;have:k=vs.length:=by omega
  subst this;rw[Ao]at ho;refine zy (za (zb ?_));refine yb 1 rfl ?_;exact zg (zi hd (by simp;rfl) (by simp[ho,zp]))
def qC(n:Nat)(d:Int):Nat:=if 0<=d/\d<64 then n ||| 2 ^ d.toNat else n
theorem V6(n:Nat)(d:Int)(hn:n<2 ^ 64):qC n d<2 ^ 64:=by
 unfold qC;split
 ·exact Nat.or_lt_two_pow hn (CE (by decide) (by omega))
 ·exact hn
def Qo(l:List Int):Nat:=l.foldl qC 0
theorem Zo8(l:List Int):Qo l<2 ^ 64:=by
 have:∀(l:List Int) (n:Nat),n<2 ^ 64->l.foldl qC n<2 ^ 64:=by
  intro l;induction l with
  | nil=>intro n h;exact h
  | cons d l ih=>intro n h;exact ih _ (V6 n d h)
 exact this l 0 (by decide)
theorem Zcn(d:Int):Pure prog 260 [I d] (B (decide (0<=d/\d<64))):=by
 refine zt Tryz.func260 Tryz.ntmps260 Tryz.results260 λS nx hd=>?_
 refine za (zb ?_)
 by_cases h1:0<=d
 ·refine za (ze [(2,5)] h1 ?_);exact zg (zi hd (by simp;rfl) (by simp[h1,zp]))
 ·refine za (ze [(2,5)] (zo h1 zH) ?_);exact zg (zi hd (by simp;rfl) (by simp[h1,zp]))
theorem ZgH(d:Nat)(h:d<64):IntKind.u64.wrap (2 ^ d)=((2 ^ d:Nat):Int):=by
 have h2:(2:Nat) ^ d<2 ^ 64:=CE (by decide) h;have h3:((2 ^ d:Nat):Int)<2 ^ 64:=by exact_mod_cast h2
 have h4:(2:Int) ^ d=((2 ^ d:Nat):Int):=by simp
 rw[h4];generalize (2 ^ d:Nat)=m at h3 ⊢;simp only[IntKind.wrap,IntKind.bits,IntKind.signed];simp;omega
theorem ZgI(n:Nat)(d:Int)(hn:n<2 ^ 64):Pure prog 226 [U n,I d] (U (qC n d)):=by
 refine zt Tryz.func226 Tryz.ntmps226 Tryz.results226 λS nx hd=>?_
 refine za (zb ?_)
 repeat apply za
 refine zb ?_;refine zr (Zcn d) ?_
 by_cases h:0<=d/\d<64
 ·repeat apply za
  refine zm (by simp[h]) ?_;refine zh ?_;have h1:¬d<0:=by omega
  have h2:min d.toNat 64=d.toNat:=by omega
  have h3:=ZgH d.toNat (by omega);have h4:bits BinOp.or IntKind.u64 (n:Int) (2 ^ d.toNat)=((n ||| 2 ^ d.toNat:Nat):Int):=by
   have:=bits_or_u64_nat n (2 ^ d.toNat) (by omega) (by have:(2:Nat) ^ d.toNat<2 ^ 64:=CE (by decide) (by omega);omega);simpa using this
  refine za (xl [] (by rfl) (by rfl) λK Gc Gh hK hGc hGh X hX0 hX=>?_);simp -implicitDefEqProofs [hX0,hX,h1,h2,IntKind.bits,h3,h4]
  try clear hX0 hX X
  refine hK _ _ _ ?_;clear hK hGc hGh;clear K Gc Gh;exact zg (zi hd (by simp;rfl) (by simp[qC,h,zp]))
 ·repeat apply za
  refine zn (by simp;omega) ?_;refine za (zb ?_);exact zg (zi hd (by simp;rfl) (by simp[qC,h,zp]))
theorem Zo9(l:List Int)(hl:l.length<=1048576):Pure prog 197 [L l] (U (Qo l)):=by
 refine zt Tryz.func197 Tryz.ntmps197 Tryz.results197 λS nx hd=>?_
 refine za (zb ?_);refine za (zb ?_)
 repeat apply za
 refine zb ?_;refine zj (zD (λs:Nat × Nat=>s.1<=l.length/\s.2=Qo (l.take s.1)) (λ(k,n)=>[(3,U n),(6,L l),(7,I l.length),(8,I k)]) (λ_=>[]) (λs=>l.length-s.1) (0,0) [] (by simp[Qo]) (by simp) (by simp) ?_);rintro⟨k,n⟩ ⟨hk,ho⟩;simp only at hk ho ⊢;refine za (zb ?_);refine za (zv rfl (λhc=>?_) (λhc=>?_))
 ·simp at hc;obtain⟨d,tl,a1,a2,a3,e0⟩:=zF rfl l k hc;refine zh (za (zj (za (ze [] (zo e0 hc) ?_))));refine zb ?_;refine zr (ZgI n d (by rw[ho];exact Zo8 _)) ?_;refine zb ?_;exact zq (k+1,qC n d) [] ⟨hc,by rw[a3,ho];simp[Qo,Bk]⟩ (by simp;omega) (by simp[zu k (by omega)]) rfl (by simp)
 ·simp at hc;have:k=l.length:=by omega
  subst this;rw[Ao]at ho;refine zy (za (zb ?_));exact zg (zi hd (by simp;rfl) (by simp[ho,zp]))
def Ws(l:List Nat)(v:Nat):Int:=if v∈l then (l.findIdx (·=v):Nat) else -1
theorem Zpa(l:List Nat)(v:Nat)(hl:l.length<=1048576):Pure prog 242 [L l,U v] (I (Ws l v)):=by
 refine zt Tryz.func242 Tryz.ntmps242 Tryz.results242 λS nx hd=>?_
 refine za (zb ?_)
 repeat apply za
 refine zb ?_;refine zj (zD (λs:Nat=>s<=l.length/\v ∉ l.take s) (λk=>[(0,L l),(1,U v),(6,L l),(7,I l.length),(8,I k)]) (λ_=>[]) (λs=>l.length-s) 0 [] (by simp) (by simp) (by simp) ?_);rintro k ⟨hk,ho⟩;refine za (zb ?_);refine za (zv rfl (λhc=>?_) (λhc=>?_))
 ·simp at hc;obtain⟨d,tl,a1,a2,a3,e0⟩:=zF rfl l k hc;refine zh (za (zj (za (zb ?_))));refine za (ze [] (zo hc e0) ?_);refine zv rfl (λh=>?_) (λh=>?_)
  ·obtain rfl:v=d:=by simp at h;omega
   have hres:Ws l v=k:=by
    have hm:=Ab a1;have:l.findIdx (·=v)=k:=by
     rw[List.findIdx_eq (by omega)];obtain⟨q1,q2⟩:=Ac.1 a1;refine⟨by simp[q2],λj hj=>?_⟩;simp only[decide_eq_false_iff_not];intro e;apply ho;rw[List.mem_take_iff_getElem];exact⟨j,by omega,e⟩
    simp[Ws,hm,this]
   refine za (zb ?_);exact zg (zi hd (by simp;rfl) (by simp[hres,zp]))
  ·simp at h;refine zh (zb ?_);exact zq (k+1) [] ⟨hc,by rw[a3];simp;exact⟨ho,λe=>h (by omega)⟩⟩ (by omega) (by simp[zu k (by omega)]) rfl (by simp)
 ·simp at hc;have:k=l.length:=by omega
  subst this;rw[Ao]at ho;refine zy (za (zb ?_));exact zg (zi hd (by simp;rfl) (by simp[Ws,ho,zp]))
theorem Zpb(l:List Nat)(v:Nat)(hl:l.length<=1048576):Pure prog 199 [L l,U v] (B (decide (v∈l))):=by
 refine zt Tryz.func199 Tryz.ntmps199 Tryz.results199 λS nx hd=>?_
 refine za (zb ?_);refine za (zb ?_);refine zr (Zpa l v hl) ?_;exact zg (zi hd (by simp;rfl) (by by_cases h:v∈l<;>simp[Ws,h,zp]))
open Go
structure CustFits (c:Cust):Prop where
 rate:0<=c.rate/\c.rate<=2147483648
 size:0<=c.size/\c.size<=2147483648
 start:0<=c.start/\c.start<=2147483648
def Z8(q:Int):Bool:=decide (q<0\/2147483648<q)
def xQ(size rate:Int):Int->List Int->Option (List Int)
 | _,[]=>some []
 | there,q :: l=>if size<there+q\/there+q<rate then none else (xQ size rate (there+q-rate) l).map ((there+q-rate) :: ·)
def jK(c:Cust)(q:List Int):List Int × Int :=
 if q.any Z8 then ([],1) else match xQ c.size c.rate c.start q with
 | none=>([],8)
 | some l=>(l,0)
theorem ZgJ(c:Cust){S:Store}{nx:Nat}(hd:zT nx S):Spec prog 156 [.agg (ye c)] S (λp S'=>∃v,p=.fn (.func 201) [] [.ptr (nx+1) v 0,.ip (ye c)]/\S'=S.set (nx+1) (.cells v 3 [I c.start])):=by
 refine ut hd Tryz.func156 Tryz.ntmps156 Tryz.results156 ?_;refine za (zb ?_);intro v0;refine za (zb ?_);intro v1;refine za (zb ?_);refine xM 0 rfl ?_;refine zg ⟨_,_,rfl,⟨v1,by simp[zp],rfl⟩,Y7 (j:=1) hd (by simp)⟩
theorem ZgK(c:Cust)(q there:Int){S:Store}{id v:Nat}(hid:S id=.cells v 3 [I there])(h1:-4611686018427387904<=there+q/\there+q<=4611686018427387904)(h2:-4611686018427387904<=there+q-c.rate/\there+q-c.rate<=4611686018427387904):
  Spec prog 201 [I q,.ptr id v 0,.ip (ye c)] S (λp S'=>p=.tup [I (there+q),I (there+q-c.rate)]/\S'=S.set id (.cells v 3 [I (there+q-c.rate)])):=by
 refine yh Tryz.func201 Tryz.ntmps201 Tryz.results201 λnx hd=>?_
 have hlt:id<nx:=by
  rcases Bf id nx with h | h
  ·exact h
  ·rw[hd id h]at hid;cases hid
 have hge:¬nx<=id:=by omega
 have hE:∀obs,ext S nx obs id=.cells v 3 [I there]:=λobs=>(zA hlt).trans hid
 have hE2:∀obs x,ext (S.set id x) nx obs id=x:=λobs x=>(zA hlt).trans (q11 _ _ _)
 have hd2:∀x,zT nx (S.set id x):=λx i hi=>by rw[q10 _ _ _ _ (by omega)];exact hd i hi
 have w1:IntKind.i64.wrap (there+q)=there+q:=wr _ (by omega) (by omega);have w2:IntKind.i64.wrap (there+q-c.rate)=there+q-c.rate:=wr _ (by omega) (by omega);refine za (zb ?_);refine za (ze [] (zo hE w1) ?_);refine za (ze [] (zE hE hge w2) ?_);refine za (zz none (Row.pures [0,1,2,3] .done) mixed hE2 ?_);refine zg ⟨_,_,rfl,⟨rfl,rfl⟩,zN (hd2 _)⟩
theorem Zpc{size rate there q:Int}{l:List Int}{out:List Int}{r:Option (List Int)}(h:r=(xQ size rate there (q :: l)).map (out++·))(hs:¬size<there+q)(hr:¬there+q<rate):
  r=(xQ size rate (there+q-rate) l).map ((out++[there+q-rate])++·):=by
 rw[h];simp only[xQ,hs,hr,or_self,if_false,Option.map_map];congr 1;funext x;simp
theorem Zco(c:Cust)(q:List Int)(hc:CustFits c)(hq:q.length<=1048576):Pure prog 113 [.agg (ye c),L q] (.tup [L (jK c q).1,I (jK c q).2]):=by
 obtain⟨hr,hsz,hst⟩:=hc;refine zt Tryz.func113 Tryz.ntmps113 Tryz.results113 λS nx hd=>?_
 refine za (zb ?_);intro v0
 repeat apply za
 refine zb ?_;refine qY (nx:=nx) (σ:=Nat) (λv0=>q.any Z8=false) (λv0=>[(1,L q),(2,.ptr nx v0 0)]) (λ_=>S) (λv0=>[.cells v0 87 (ye c)]) ?_ ?_
 ·refine zj (zD (λs:Nat=>s<=q.length/\(q.take s).any Z8=false) (λk=>[(1,L q),(2,.ptr nx v0 0),(14,L q),(15,I q.length),(16,I k)]) (λ_=>[.cells v0 87 (ye c)]) (λs=>q.length-s) 0 [] (by simp) (by simp) (by simp) ?_);rintro k ⟨hk,ho⟩;refine za (zb ?_);refine za (zv rfl (λhc=>?_) (λhc=>?_))
  ·simp at hc;obtain⟨z,tl,a1,a2,a3,e0⟩:=zF rfl q k hc;have bad:Z8 z=true->jK c q=([],1):=λh=>by
    have:q.any Z8=true:=by rw[BY];exact⟨z,Ab a1,h⟩
    simp[jK,this]
   refine zh (za (zj (za (ze [] (zo e0 hc) ?_))))
   by_cases h1:z<0
   ·refine za (ze [(2,22)] (zo h1 zH) ?_);refine zn rfl (za (zb ?_));refine ZU 4 rfl ?_;exact zg (zi hd (by simp;rfl) (by rw[bad (by simp[Z8,h1])];rfl))
   by_cases h2:(2147483648:Int)<z
   ·refine za (ze [(2,22)] (zo h1 h2) ?_);refine zn rfl (za (zb ?_));refine ZU 4 rfl ?_;exact zg (zi hd (by simp;rfl) (by rw[bad (by simp[Z8,h2])];rfl))
   refine za (ze [(2,22)] (zo h1 h2) ?_);refine zm rfl (zh (zb ?_));exact zq (k+1) [] ⟨hc,by rw[a3,List.any_append,ho];simp[Z8];omega⟩ (by omega) (by simp[zu k (by omega)]) rfl (by simp)
  ·simp at hc;obtain rfl:k=q.length:=by omega
   rw[Ao]at ho;exact zy (zY v0 [] ho (by simp) rfl (by simp))
 ·intro v0 hb;have hq0:∀z∈q,0<=z/\z<=2147483648:=by
   intro z hz;rw[Cp]at hb;have:=hb z hz;simp[Z8]at this;omega
  have hres:jK c q=match xQ c.size c.rate c.start q with | none=>([],8) | some l=>(l,0):=by simp[jK,hb]
  refine za (zb ?_);refine λhsuf=>((ZgJ c jF).mono ?_).v
  rintro p T ⟨v1,rfl,rfl⟩;refine⟨_,_,JP _,zL hsuf ?_⟩;refine za (zb ?_);refine⟨by omega,λv2=>?_⟩;refine Zkk 3 0 rfl ?_;simp only[Dj,AW,Ba,List.append_eq,List.cons_append,AS,Ae,Ah]
  repeat apply za
  refine zb ?_;refine zj (zD (λs:Nat × Int × List Int × Nat=>s.1<=q.length/\s.2.2.1.length=s.1/\(0<=s.2.1/\s.2.1<=2147483648)/\xQ c.size c.rate c.start q=(xQ c.size c.rate s.2.1 (q.drop s.1)).map (s.2.2.1++·))
   (λ(k,there,out,v2)=>[(2,.ptr nx v0 0),(8,.fn (.func 201) [] [.ptr (nx+2) v1 0,.ip (ye c)]),(9,.sl (nx+3) v2 1 0 out.length),(32,L q),(33,I q.length),(34,I k)])
   (λ(k,there,out,v2)=>[.cells v0 87 (ye c),.dead,.cells v1 3 [I there],.cells v2 3 (out.flatMap Enc.enc)]) (λs=>q.length-s.1) (0,c.start,[],v2) [] ?_ (by simp) (by simp) ?_)
  ·refine⟨by simp,by simp,hst,?_⟩;simp
  rintro⟨k,there,out,v2⟩ ⟨hk,hol,hth,ho⟩;simp only at hk hol hth ho ⊢;refine za (zb ?_);refine za (zv rfl (λhc=>?_) (λhc=>?_))
  ·simp at hc;obtain⟨z,tl,a1,a2,a3,e0⟩:=zF rfl q k hc;have hz:=hq0 z (Ab a1);rw[a2]at ho;refine zh (za (zj (za (ze [] (zo e0 hc) ?_))));refine za (zb ?_);refine λhsuf=>((ZgK c z there (id:=nx+2) (v:=v1) (by simp) (by omega) (by omega)).mono ?_).v
   rintro p T ⟨rfl,rfl⟩;refine⟨_,_,yg _ (by omega) (by simp),zL hsuf ?_⟩;have bad:(c.size<there+z\/there+z<c.rate)->jK c q=([],8):=λh=>by
    rw[hres,ho];simp only[xQ,if_pos h,Option.map_none]
   by_cases h1:c.size<there+z
   ·repeat apply za
    refine ze [(4,48)] (zo h1 zH) ?_;refine zn rfl (za (zb ?_));refine ZU 4 rfl ?_;exact zg (zi hd (by simp;rfl) (by rw[bad (.inl h1)];rfl))
   by_cases h2:there+z<c.rate
   ·repeat apply za
    refine ze [(4,48)] (zo h1 h2) ?_;refine zn rfl (za (zb ?_));refine ZU 4 rfl ?_;exact zg (zi hd (by simp;rfl) (by rw[bad (.inr h2)];rfl))
   repeat apply za
   refine ze [(4,48)] (zo h1 h2) ?_;refine zm rfl (zh (zb ?_));refine⟨by omega,?_⟩;refine zb ?_;exact zq (k+1,there+z-c.rate,out++[there+z-c.rate],v2+1) [] ⟨hc,by simp[hol],by dsimp only;omega,Zpc ho h1 h2⟩ (by simp;omega) (by simp[zu k (by omega)]) rfl (by simp)
  ·simp at hc;obtain rfl:k=q.length:=by omega
   rw[Cf]at ho;simp only[xQ,A3,AF]at ho;refine zy (za (zb ?_));refine yb 3 rfl ?_;exact zg (zi hd (by simp;rfl) (by rw[hres,ho];simp[zp]))
open Go
def Je(rate size:Int):List Int->List Int->Bool
 | z :: q,n :: l=>decide (0<z/\n+rate≠size) || Je rate size q l
 | _,_=>false
def Zt(c:Cust)(q:List Int):Int :=
 if (jK c q).2≠0 then (jK c q).2 else if c.rule≠1 then 0 else if Je c.rate c.size q (jK c q).1 then 9 else 0
def Jf(c:Cust)(ns:List Int):Int:=W (c.hold*W ns.sum)
theorem ZgL(l:List Int)(x:Int):(l++[x]).sum=l.sum+x:=by simp
theorem Zcp(c:Cust)(ns:List Int)(hn:ns.length<=1048576):Pure prog 115 [.agg (ye c),L ns] (I (Jf c ns)):=by
 refine zt Tryz.func115 Tryz.ntmps115 Tryz.results115 λS nx hd=>?_
 refine za (zb ?_);intro v0;refine za (zb ?_)
 repeat apply za
 refine zb ?_;refine zj (zD (λs:Nat=>s<=ns.length) (λk=>[(2,.ptr nx v0 0),(5,I (W (ns.take k).sum)),(8,L ns),(9,I ns.length),(10,I k)]) (λ_=>[.cells v0 87 (ye c)]) (λs=>ns.length-s) 0 [] (by simp) (by simp) (by simp) ?_);rintro k hk;refine za (zb ?_);refine za (zv rfl (λhc=>?_) (λhc=>?_))
 ·simp at hc;obtain⟨z,tl,a1,a2,a3,e0⟩:=zF rfl ns k hc;refine zh (za (zj (za (ze [] (zo e0 hc) ?_))));refine zb ?_;refine zb ?_;have hw:W (W (ns.take k).sum+z)=W (ns.take (k+1)).sum:=by rw[a3,ZgL,Zi]
  exact zq (k+1) [] hc (by omega) (by simp[zu k (by omega)];exact hw) rfl (by simp)
 ·simp at hc;obtain rfl:k=ns.length:=by omega
  rw[Ao];refine zy (za (zb ?_));exact zg (zi hd (by simp;rfl) rfl)
theorem ZgM(c:Cust)(q:List Int)(hc:CustFits c)(hq:q.length<=1048576):Pure prog 200 [.agg (ye c),L q] (I (Zt c q)):=by
 have hni:=Zco c q hc hq;obtain⟨hr,hsz,hst⟩:=hc;refine zt Tryz.func200 Tryz.ntmps200 Tryz.results200 λS nx hd=>?_
 refine za (zb ?_);intro v0
 repeat apply za
 refine zb ?_;refine zr hni ?_
 by_cases he:(jK c q).2=0
 case neg =>
  refine za (ze [] he ?_);refine zn (by simp[he]) ?_;refine za (zb ?_);exact zg (zi hd (by simp;rfl) (by simp[Zt,he,zp]))
 refine za (ze [] he ?_);refine zm (by simp[he]) ?_;refine zh ?_
 by_cases hru:c.rule=1
 case neg =>
  repeat apply za
  refine ze [] hru ?_;refine zn (by simp[hru]) ?_;refine za (zb ?_);exact zg (zi hd (by simp;rfl) (by simp[Zt,he,hru,zp]))
 repeat apply za
 refine ze [] hru ?_;refine zm (by simp[hru]) ?_;refine zh ?_;have hres:Zt c q=if Je c.rate c.size q (jK c q).1 then 9 else 0:=by simp[Zt,he,hru]
 obtain⟨l,hl,hq0⟩:∃l,xQ c.size c.rate c.start q=some l/\(jK c q).1=l/\∀z∈q,0<=z/\z<=2147483648:=by
  unfold jK at he ⊢;split at he
  ·simp at he
  ·rename_i hb;cases hrn:xQ c.size c.rate c.start q with
   | none=>simp[hrn]at he
   | some l =>
    refine⟨l,rfl,by simp[hb],λz hz=>?_⟩;simp only[DC,Cp]at hb;have:=hb z hz;simp[Z8]at this;omega
 obtain⟨hl1,hq0⟩:=hq0;rw[hl1]at hres;refine za (zb ?_);refine λhsuf=>((ZgJ c jF).mono ?_).v
 rintro p T ⟨v1,rfl,rfl⟩;refine⟨_,_,JP _,zL hsuf ?_⟩
 repeat apply za
 refine zb ?_;refine zj (zD (λs:Nat × Int=>s.1<=q.length/\(0<=s.2/\s.2<=2147483648)/\xQ c.size c.rate s.2 (q.drop s.1)=some (l.drop s.1)/\Je c.rate c.size q l=Je c.rate c.size (q.drop s.1) (l.drop s.1))
  (λ(k,there)=>[(2,.ptr nx v0 0),(7,.fn (.func 201) [] [.ptr (nx+2) v1 0,.ip (ye c)]),(26,L q),(27,I q.length),(28,I k)])
  (λ(k,there)=>[.cells v0 87 (ye c),.dead,.cells v1 3 [I there]]) (λs=>q.length-s.1) (0,c.start) [] ⟨by simp,hst,by simpa using hl,by simp⟩ (by simp) (by simp) ?_)
 rintro⟨k,there⟩ ⟨hk,hth,hrn,ho⟩;simp only at hk hth hrn ho ⊢;refine za (zb ?_);refine za (zv rfl (λhc=>?_) (λhc=>?_))
 ·simp at hc;obtain⟨z,tl,a1,a2,a3,e0⟩:=zF rfl q k hc;have hz:=hq0 z (Ab a1);rw[a2]at hrn ho;simp only[xQ]at hrn;split at hrn
  ·cases hrn
  rename_i hno;obtain⟨l2,hl2,hl3⟩:=Ap.1 hrn;rw[<-hl3]at ho;simp only[Je]at ho;have hl4:l.drop (k+1)=l2:=by rw[<-List.drop_drop,<-hl3];rfl
  have hs1:there+z-c.rate+c.rate=there+z:=by omega
  rw[hs1]at ho;refine zh (za (zj (za (ze [] (zo e0 hc) ?_))));refine za (zb ?_);refine λhsuf=>((ZgK c z there (id:=nx+2) (v:=v1) (by simp) (by omega) (by omega)).mono ?_).v
  rintro p T ⟨rfl,rfl⟩;refine⟨_,_,yg _ (by omega) (by simp),zL hsuf ?_⟩
  by_cases h1:0<z
  ·by_cases h2:there+z=c.size
   ·refine za (ze [(2,40)] (zo h1 h2) ?_);refine zm (by simp[h2]) ?_;refine zh (zb ?_);exact zq (k+1,there+z-c.rate) [] ⟨hc,by dsimp only;omega,by rw[hl4];exact hl2,by rw[ho,hl4,decide_eq_false (by omega),Bool.false_or]⟩ (by simp;omega) (by simp[zu k (by omega)]) rfl (by simp[h2])
   ·refine za (ze [(2,40)] (zo h1 h2) ?_);refine zn (by simp[h2]) ?_;refine za (zb ?_);exact zg (zi hd (by simp;rfl) (by rw[hres,ho];simp[h1,h2,zp]))
  ·refine za (ze [(2,40)] (zo h1 zH) ?_);refine zm rfl (zh (zb ?_));exact zq (k+1,there+z-c.rate) [] ⟨hc,by dsimp only;omega,by rw[hl4];exact hl2,by rw[ho,hl4,decide_eq_false (by omega),Bool.false_or]⟩ (by simp;omega) (by simp[zu k (by omega)]) rfl (by simp)
 ·simp at hc;obtain rfl:k=q.length:=by omega
  rw[Cf]at ho;simp only[Je]at ho;refine zy (za (zb ?_));exact zg (zi hd (by simp;rfl) (by rw[hres,ho];rfl))
def w8(a b:Int):Int:=if a+b < -9223372036854775808 then -9223372036854775808 else if 9223372036854775807<a+b then 9223372036854775807 else a+b
theorem Zpd(a b:Int)(ha:zM a)(hb:zM b):Pure prog 167 [I a,I b] (if -9223372036854775808<=a+b/\a+b<=9223372036854775807 then .tup [I (a+b),B true] else .tup [I 0,B false]):=by
 unfold zM at ha hb;refine zt Tryz.func167 Tryz.ntmps167 Tryz.results167 λS nx hd=>?_
 refine za (zb ?_)
 by_cases h:-9223372036854775808<=a+b/\a+b<=9223372036854775807
 ·have w1:IntKind.i64.wrap (a+b)=a+b:=wr _ h.1 h.2;refine za (ze [] w1 ?_)
  by_cases h1:b<0
  ·have h2:a+b<a:=by omega
   repeat apply za
   refine ze [] (zo h1 h2) ?_;refine zm (by simp) ?_;refine zh (za (zb ?_));exact zg (zi hd (by simp;rfl) (by simp[h,zp]))
  ·have h2:¬a+b<a:=by omega
   repeat apply za
   refine ze [] (zo h1 h2) ?_;refine zm (by simp) ?_;refine zh (za (zb ?_));exact zg (zi hd (by simp;rfl) (by simp[h,zp]))
 ·by_cases h0:a+b < -9223372036854775808
  ·have w1:IntKind.i64.wrap (a+b)=a+b+18446744073709551616:=by rw[AI];omega
   have h1:b<0:=by omega
   have h2:¬a+b+18446744073709551616<a:=by omega
   refine za (ze [] w1 ?_)
   repeat apply za
   refine ze [] (zo h1 h2) ?_;refine zn (by simp) ?_;refine za (zb ?_);exact zg (zi hd (by simp;rfl) (by simp only[h,if_false];rfl))
  ·have w1:IntKind.i64.wrap (a+b)=a+b-18446744073709551616:=by rw[AI];omega
   have h1:¬b<0:=by omega
   have h2:a+b-18446744073709551616<a:=by omega
   refine za (ze [] w1 ?_)
   repeat apply za
   refine ze [] (zo h1 h2) ?_;refine zn (by simp) ?_;refine za (zb ?_);exact zg (zi hd (by simp;rfl) (by simp only[h,if_false];rfl))
theorem V7(a b:Int)(ha:zM a)(hb:zM b):Pure prog 123 [I a,I b] (I (w8 a b)):=by
 have hadd:=Zpd a b ha hb;unfold zM at ha hb;refine zt Tryz.func123 Tryz.ntmps123 Tryz.results123 λS nx hd=>?_
 refine za (zb ?_)
 by_cases h:-9223372036854775808<=a+b/\a+b<=9223372036854775807
 ·rw[if_pos h]at hadd;refine za (zb ?_);refine zr hadd ?_;refine za (zj (za (zb ?_)));refine zn rfl (za (zb ?_));exact zg (zi hd (by simp;rfl) (by simp only[w8,zp];rw[if_neg (by omega),if_neg (by omega)]))
 ·rw[if_neg h]at hadd;refine za (zb ?_);refine zr hadd ?_;refine za (zj (za (zb ?_)));refine zm rfl (za (zb ?_));refine zv rfl (λh1=>?_) (λh1=>?_)
  ·simp at h1;refine za (zb ?_);exact zg (zi hd (by simp;rfl) (by simp only[w8,zp];rw[if_pos (by omega)]))
  ·simp at h1;refine zh (za (zb ?_));exact zg (zi hd (by simp;rfl) (by simp only[w8,zp];rw[if_neg (by omega),if_pos (by omega)]))
theorem Xe(a lo hi:Int):Pure prog 80 [I a,I lo,I hi] (I (min (max a lo) hi)):=by
 have h1:jR (qS a lo) hi=min (max a lo) hi:=by unfold jR qS;split<;>split<;>omega
 refine zt Tryz.func80 Tryz.ntmps80 Tryz.results80 λS nx hd=>?_
 refine za (zb ?_);refine za (ze [] h1 ?_);exact zg (zi hd (by simp;rfl) rfl)
def yJ(v:List Visit)(n:Int):List Int:=(List.range (min (max n 0) 64).toNat).map λ(d:Nat)=>((v.filter λs=>decide (s.d=(d:Int))).map (·.q)).sum
theorem Zcq(v:List Visit)(n:Int):(yJ v n).length=(min (max n 0) 64).toNat:=by simp[yJ]
theorem Zpe(n:Int):yJ [] n=List.replicate (min (max n 0) 64).toNat 0:=by
 apply Bb
 ·simp[yJ]
 ·intro i h1 h2;simp[yJ]
theorem Zpf(v:List Visit)(n:Int)(s:Visit)(h:¬(0<=s.d/\s.d<((min (max n 0) 64).toNat:Int))):yJ (v++[s]) n=yJ v n:=by
 unfold yJ;apply AK;intro d hd;have hdl:=AJ.1 hd;have:¬s.d=(d:Int):=by omega
 simp[this]
theorem Zpg(v:List Visit)(n:Int)(s:Visit)(d:Nat)(hs:s.d=(d:Int))(b:Int)(hb:(yJ v n)[d]?=some b):yJ (v++[s]) n=(yJ v n).set d (b+s.q):=by
 obtain⟨hdl,hbe⟩:=Ac.1 hb;apply Bb
 ·simp[yJ]
 ·intro i h1 h2;rw[Da];have hil:i<(yJ v n).length:=by simpa using h2
  by_cases q:d=i
  ·subst q;rw[if_pos rfl,<-hbe];simp[yJ,hs]
  ·rw[if_neg q];have:¬s.d=(i:Int):=by omega
   simp[yJ,this]
structure VisOk (v:List Visit):Prop where
 n:v.length<=1048576
 q:∀s∈v,0<=s.q/\s.q<=2147483648
 d:∀s∈v,zM s.d
theorem Zph(v:List Visit)(p:Visit->Bool)(h:∀s∈v,0<=s.q/\s.q<=2147483648):0<=((v.filter p).map (·.q)).sum/\((v.filter p).map (·.q)).sum<=2147483648*v.length:=by
 induction v with
 | nil=>simp
 | cons s v ih =>
  have h1:=ih λx hx=>h x (by simp[hx])
  have h2:=h s (by simp);rw[Cd];split
  ·simp only[Ax,BP,Ae];omega
  ·simp only[Ae];omega
theorem Zpi{v:List Visit}(hv:∀s∈v,0<=s.q/\s.q<=2147483648)(n:Int):∀b∈yJ v n,0<=b/\b<=2147483648*v.length:=by
 intro b hb;simp only[yJ,An]at hb;obtain⟨d,_,rfl⟩:=hb;exact Zph v _ hv
theorem ZgN(v:List Visit)(n:Int)(hv:VisOk v):Pure prog 157 [L v,I n] (L (yJ v n)):=by
 have hvn:=hv.n;have hm:min (max n 0) 64=(((min (max n 0) 64).toNat:Nat):Int):=by omega
 have hm64:(min (max n 0) 64).toNat<=64:=by omega
 refine zt Tryz.func157 Tryz.ntmps157 Tryz.results157 λS nx hd=>?_
 refine za (zb ?_);refine za (zb ?_);refine zr (Xe n 0 64) ?_;refine⟨by omega,λv1=>?_⟩;generalize hmm:(min (max n 0) 64).toNat=m at hm hm64;have hz:=Zpe n;rw[hmm]at hz
 repeat apply za
 refine zb ?_;refine zj (zD (λs:Nat=>s<=v.length) (λk=>[(5,.sl nx v1 1 0 m),(11,L v),(12,I v.length),(13,I k)]) (λk=>[.cells v1 3 ((yJ (v.take k) n).flatMap Enc.enc)]) (λs=>v.length-s) 0 [] (by simp) (by simp[hmm]) (by simp[hz,hmm,Zbl]) ?_);rintro k hk;have hbl:=Zcq (v.take k) n;rw[hmm]at hbl;refine za (zb ?_);refine za (zv rfl (λhc=>?_) (λhc=>?_))
 ·simp at hc;obtain⟨s,tl,a1,a2,a3,_,e0⟩:=el 2 rfl v k hc;have hsm:=Ab a1;have hsq:=hv.q s hsm;have hout:=Zpf (v.take k) n s;rw[hmm]at hout;refine zh (za (zj (za (ze [] (zo e0 hc) ?_))));intro v2
  by_cases h1:0<=s.d
  ·by_cases h2:s.d<(m:Int)
   ·obtain⟨d,hd⟩:=Az h1;have hdm:d<m:=by omega
    obtain⟨b,tl2,b1,b2,b3,e2⟩:=zF rfl (yJ (v.take k) n) d (by omega);have hbm:=Zpi (λx hx=>hv.q x (BK hx)) n b (Ab b1);have htl:(v.take k).length<=1048576:=by simp;omega
    have hin:=Zpg (v.take k) n s d hd b b1;have hsp:=VD (yJ (v.take k) n) d (b+s.q) (by omega);have hsat:w8 b s.q=b+s.q:=by unfold w8;rw[if_neg (by omega),if_neg (by omega)]
    have hflen:((yJ (v.take k) n).flatMap Enc.enc).length=m:=by rw[jG,hbl]
    refine za (ze [(3,20)] (zo h1 h2) ?_);refine zn rfl (zz (some [nx+1]) (Row.pures [0,1,2,3,4,5,6,8,9] (.alt 7 (Row.pures [10,11] (.alt 12 (.done) .stop)) .stop)) mixed (zS hd hdm e2 hbl) ?_);refine zJ (V7 b s.q (by unfold zM;omega) (by unfold zM;omega)) (yG hsat hsp hbl hdm hd) ?_;refine⟨by omega,?_⟩;refine zb ?_;exact zq (k+1) [_] hc (by omega) (by simp[zu k (by omega)]) rfl (by rw[a3,hin];rfl)
   ·refine za (ze [(3,20)] (zo h1 h2) ?_);refine zm rfl (zh (zb ?_));exact zq (k+1) [_] hc (by omega) (by simp[zu k (by omega)]) rfl (by rw[a3,hout (by omega)];rfl)
  ·refine za (ze [(3,20)] (zo h1 zH) ?_);refine zm rfl (zh (zb ?_));exact zq (k+1) [_] hc (by omega) (by simp[zu k (by omega)]) rfl (by rw[a3,hout (by omega)];rfl)
 ·simp at hc;obtain rfl:k=v.length:=by omega
  rw[Ao]at hbl ⊢;refine zy (za (zb ?_));refine yb 0 rfl ?_;exact zg (zi hd (by simp;rfl) (by simp[hbl,zp]))
open Go
theorem Zpj{size rate:Int}:∀{q:List Int} {there:Int} {l:List Int},xQ size rate there q=some l->l.length=q.length:=by
 intro q
 induction q with
 | nil=>intro there l h;simp only[xQ,Option.some.injEq]at h;subst h;rfl
 | cons z q ih =>
  intro there l h;simp only[xQ]at h;split at h
  ·cases h
  ·obtain⟨l2,h2,rfl⟩:=Ap.1 h;simp[ih h2]
open Go
theorem Zpk(n d:Nat):((n:Int).fdiv (2 ^ d))=((n / 2 ^ d:Nat):Int):=by
 have h:(2:Int) ^ d=((2 ^ d:Nat):Int):=by simp
 rw[h,Int.fdiv_eq_ediv_of_nonneg _ (Int.natCast_nonneg _)];rfl
theorem Zpl(n:Nat)(d:Int)(hn:n<2 ^ 64):Pure prog 297 [U n,I d] (B (decide (0<=d/\d<64/\yF n d.toNat=1))):=by
 by_cases h:0<=d/\d<64
 ·have h1:¬d<0:=by omega
  have h2:min d.toNat 64=d.toNat:=by omega
  have hlt:n / 2 ^ d.toNat<=n:=Nat.div_le_self _ _;have h3:=Zpk n d.toNat;have hb:yF n d.toNat=n / 2 ^ d.toNat % 2:=rfl;generalize n / 2 ^ d.toNat=m at hlt h3 hb;have h4:=and_one_u64 (m:Int) (by omega) (by omega);have h5:IntKind.u64.wrap (m:Int)=(m:Int):=by
   simp only[IntKind.wrap,IntKind.bits,IntKind.signed];simp;omega
  have h6:((m:Int) % 2=1)=(yF n d.toNat=1):=by rw[hb];exact propext ⟨λq=>by omega,λq=>by omega⟩
  refine zt Tryz.func297 Tryz.ntmps297 Tryz.results297 λS nx hd=>?_
  refine za (zb ?_);refine za (xl [(2,7)] (by rfl) (by rfl) λK Gc Gh hK hGc hGh X hX0 hX=>?_);simp -implicitDefEqProofs [hX0,hX]
  try clear hX0 hX X
  refine hGc _ _ _ _ _ _ _ λhsuf=>((Zcn d _).mono ?_).v
  rintro _ _ ⟨rfl,rfl⟩;refine⟨_,_,rfl,?_⟩;clear hGc hGh;clear Gc Gh;refine xL hsuf (D:=[(2,7)]) (by rfl) λGc Gh hGc hGh X hX0 hX=>?_
  simp -implicitDefEqProofs [hX0,hX,h,h1,h2,h3,h5,h4,IntKind.bits]
  try clear hX0 hX X
  refine hK _ _ _ ?_;clear hK hGc hGh;clear K Gc Gh;exact zg (zi hd (by simp;rfl) (by simp[h,zp,h6]))
 ·refine zt Tryz.func297 Tryz.ntmps297 Tryz.results297 λS nx hd=>?_
  refine za (zb ?_);refine za (ze [(2,7)] trivial ?_);refine qt [(2,7)] (Zcn d) (zo h zH) ?_;have h7:¬(0<=d/\d<64/\yF n d.toNat=1):=λq=>h ⟨q.1,q.2.1⟩
  exact zg (zi hd (by simp;rfl) (by simp only[h7,zp,decide_false]))
def yD(n a k:Nat):List Int:=((List.range k).filter λi=>decide (a<=i) && decide (yF n i=1)).map λ(i:Nat)=>(i:Int)
theorem Xf(n a k:Nat):(yD n a k).length<=k:=by
 simp only[yD,List.length_map];exact AB (By _ _) (by simp)
theorem Zpm(n a k:Nat)(h:a<=k):yD n a (k+1)=yD n a k++(if yF n k=1 then [(k:Int)] else []):=by
 simp only[yD,AO,BU,List.map_append]
 by_cases q:yF n k=1<;>simp[q,h]
theorem Zcr(n a k:Nat)(h:k<=a):yD n a k=[]:=by
 simp only[yD,List.map_eq_nil_iff,Cy,AJ];intro i hi;simp;omega
theorem ZgO(n:Nat)(d:Int)(hn:n<2 ^ 64)(hdl:d<=1000):Pure prog 296 [.fn (.func 297) [U n] [],I d] (L (yD n d.toNat 64)):=by
 have hmax:qS d 0=((d.toNat:Nat):Int):=by unfold qS;split<;>omega
 have h64:yD n d.toNat (max d.toNat 64)=yD n d.toNat 64:=by
  by_cases q:d.toNat<=64
  ·rw[Nat.max_eq_right q]
  ·rw[Nat.max_eq_left (by omega),Zcr _ _ _ (Ag _),Zcr _ _ _ (by omega)]
 have ha:d.toNat<=1000:=by omega
 have main:∀a:Nat,a<=1000->yD n a (max a 64)=yD n d.toNat 64->qS d 0=(a:Int)->Pure prog 296 [.fn (.func 297) [U n] [],I d] (L (yD n d.toNat 64)):=by
  intro a ha h64 hmax;refine zt Tryz.func296 Tryz.ntmps296 Tryz.results296 λS nx hd=>?_
  refine za (zb ?_);refine za (zb ?_);refine za (jf 5 3 1 rfl λv1=>?_);refine za (ze [] hmax ?_);refine zj (zD (λs:Nat × List Int × Nat=>a<=s.1/\s.1<=max a 64/\s.2.1=yD n a s.1) (λ(k,out,v1)=>[(0,.fn (.func 297) [U n] []),(5,.sl nx v1 1 0 out.length),(6,I k)]) (λ(k,out,v1)=>[.cells v1 3 (out.flatMap Enc.enc)]) (λs=>max a 64-s.1) (a,[],v1) [] (by simp[Zcr];omega) (by simp) (by simp) ?_);rintro⟨k,out,v1⟩ ⟨hk0,hk,ho⟩;simp only at hk0 hk ho ⊢;have hol:out.length<=k:=by rw[ho];exact Xf _ _ _
  repeat apply za
  refine zb ?_;refine zv rfl (λhc=>?_) (λhc=>?_)
  ·simp at hc;have hc':k<64:=by omega
   refine zh (za (zj (za (zb ?_))));refine zr (Zpl n k hn) ?_;have hs:=Zpm n a k hk0;refine zv rfl (λhb=>?_) (λhb=>?_)
   ·simp at hb;refine zb ?_;refine⟨by omega,?_⟩;refine zb ?_;exact zq (k+1,out++[(k:Int)],v1+1) [] ⟨by omega,by omega,by rw[hs,if_pos hb.2,ho]⟩ (by simp;omega) (by simp[zu k (by omega)]) rfl (by simp)
   ·have hb':¬yF n k=1:=by simp at hb;exact hb (by omega)
    refine zh (zb ?_);exact zq (k+1,out,v1) [] ⟨by omega,by omega,by rw[hs,if_neg hb',ho];simp⟩ (by simp;omega) (by simp[zu k (by omega)]) rfl (by simp)
  ·simp at hc;obtain rfl:k=max a 64:=by omega
   refine zy (za (zb ?_));refine yb 0 rfl ?_;exact zg (zi hd (by simp;rfl) (by simp[ho,h64,zp]))
 exact main d.toNat ha h64 hmax
def Z9(n:Nat)(d:Int):Int:=(yD n d.toNat 64).headD (-1)
theorem Zpn(n:Nat)(d:Int)(hn:n<2 ^ 64)(hdl:d<=1000):Pure prog 261 [U n,I d] (I (Z9 n d)):=by
 have hlen:=Xf n d.toNat 64;refine zt Tryz.func261 Tryz.ntmps261 Tryz.results261 λS nx hd=>?_
 refine za (zb ?_);refine za (zb ?_);refine zr (ZgO n d hn hdl) ?_;unfold Z9;generalize yD n d.toNat 64=l at hlen ⊢;cases l with
 | nil =>
  repeat apply za
  refine zb ?_;refine zn rfl (za (zb ?_));exact zg (zi hd (by simp;rfl) rfl)
 | cons a l =>
  have h1:¬((l.length:Int)+1=0):=by omega
  repeat apply za
  refine ze [] h1 ?_;refine zm rfl (zh ?_);have h2:(0:Int)<(l.length:Int)+1:=by omega
  refine za (ze [] h2 ?_);exact zg (zi hd (by simp;rfl) rfl)
open Go
def yu(n lo hi:Int):Bool:=decide (lo<=n/\n<=hi)
theorem uF(n lo hi:Int):Pure prog 145 [I n,I lo,I hi] (B (yu n lo hi)):=by
 refine zt Tryz.func145 Tryz.ntmps145 Tryz.results145 λS nx hd=>?_
 refine za (zb ?_)
 by_cases h:lo<=n
 ·refine za (ze [(3,10)] h ?_);exact zg (zi hd (by simp;rfl) (by simp[yu,h,zp]))
 ·refine za (ze [(3,10)] (zo h zH) ?_);exact zg (zi hd (by simp;rfl) (by simp[yu,h,zp]))
abbrev uG(c:Cust)(days:Int):List PV:=[I c.kind,I c.demand,L c.pats,I c.rate,I c.size,I c.start,I c.rule,I c.hold,I days]
def Zu(c:Cust)(days:Int):Bool:=(c.pats.all λp=>decide (Z9 p days<0)) && yu c.pats.length 1 64
def uV(c:Cust):Bool:=decide (c.rate=0/\c.size=0/\c.start=0/\c.rule=0/\c.hold=0)
def Qp(c:Cust):Bool:=decide (c.rule=1\/c.rule=2)
def YJ(c:Cust):Bool:=decide (c.pats.length=0/\c.demand=0)
theorem Zpo(c:Cust)(d:Int):Pure prog 227 [.agg (uG c d)] (B (yu c.demand 1 2147483648)):=by
 refine zt Tryz.func227 Tryz.ntmps227 Tryz.results227 λS nx hd=>?_
 refine za (zb ?_);intro v0;refine za (zb ?_);refine zr (uF _ _ _) ?_;exact zg (zi hd (by simp;rfl) rfl)
theorem Zpp(c:Cust)(d:Int):Pure prog 230 [.agg (uG c d)] (B (yu c.rate 0 2147483648)):=by
 refine zt Tryz.func230 Tryz.ntmps230 Tryz.results230 λS nx hd=>?_
 refine za (zb ?_);intro v0;refine za (zb ?_);refine zr (uF _ _ _) ?_;exact zg (zi hd (by simp;rfl) rfl)
theorem Zpq(c:Cust)(d:Int):Pure prog 231 [.agg (uG c d)] (B (yu c.size 1 2147483648)):=by
 refine zt Tryz.func231 Tryz.ntmps231 Tryz.results231 λS nx hd=>?_
 refine za (zb ?_);intro v0;refine za (zb ?_);refine zr (uF _ _ _) ?_;exact zg (zi hd (by simp;rfl) rfl)
theorem Zpr(c:Cust)(d:Int):Pure prog 232 [.agg (uG c d)] (B (yu c.start 0 c.size)):=by
 refine zt Tryz.func232 Tryz.ntmps232 Tryz.results232 λS nx hd=>?_
 refine za (zb ?_);intro v0;refine za (zb ?_);refine zr (uF _ _ _) ?_;exact zg (zi hd (by simp;rfl) rfl)
theorem Zps(c:Cust)(d:Int):Pure prog 234 [.agg (uG c d)] (B (yu c.hold 0 1024)):=by
 refine zt Tryz.func234 Tryz.ntmps234 Tryz.results234 λS nx hd=>?_
 refine za (zb ?_);intro v0;refine za (zb ?_);refine zr (uF _ _ _) ?_;exact zg (zi hd (by simp;rfl) rfl)
theorem Zpt(c:Cust)(d:Int):Pure prog 233 [.agg (uG c d)] (B (Qp c)):=by
 refine zt Tryz.func233 Tryz.ntmps233 Tryz.results233 λS nx hd=>?_
 refine za (zb ?_);intro v0
 by_cases h:c.rule=1
 ·refine za (ze [(4,7)] (zo h zH) ?_);exact zg (zi hd (by simp;rfl) (by simp[Qp,h,zp]))
 ·refine za (ze [(4,7)] h ?_);exact zg (zi hd (by simp;rfl) (by simp[Qp,h,zp]))
theorem Zpu(c:Cust)(d:Int):Pure prog 235 [.agg (uG c d)] (B (YJ c)):=by
 refine zt Tryz.func235 Tryz.ntmps235 Tryz.results235 λS nx hd=>?_
 refine za (zb ?_);intro v0
 by_cases h:c.pats=[]
 ·refine za (ze [(5,8)] h ?_);exact zg (zi hd (by simp;rfl) (by simp[YJ,h,zp]))
 ·refine za (ze [(5,8)] (zo h zH) ?_);exact zg (zi hd (by simp;rfl) (by simp[YJ,h,zp]))
theorem Zpv(c:Cust)(d:Int):Pure prog 229 [.agg (uG c d)] (B (uV c)):=by
 refine zt Tryz.func229 Tryz.ntmps229 Tryz.results229 λS nx hd=>?_
 refine za (zb ?_);intro v0
 by_cases h1:c.rate=0
 ·by_cases h2:c.size=0
  ·by_cases h3:c.start=0
   ·by_cases h4:c.rule=0
    ·refine za (ze [(4,7),(10,13),(16,19),(22,25)] (zS h1 h2 h3 h4) ?_);exact zg (zi hd (by simp;rfl) (by simp[uV,h1,h2,h3,h4,zp]))
    ·refine za (ze [(4,7),(10,13),(16,19),(22,25)] (yG h1 h2 h3 h4 zH) ?_);exact zg (zi hd (by simp;rfl) (by simp[uV,h4,zp]))
   ·refine za (ze [(4,7),(10,13),(16,19),(22,25)] (zS h1 h2 h3 zH) ?_);exact zg (zi hd (by simp;rfl) (by simp[uV,h3,zp]))
  ·refine za (ze [(4,7),(10,13),(16,19),(22,25)] (zE h1 h2 zH) ?_);exact zg (zi hd (by simp;rfl) (by simp[uV,h2,zp]))
 ·refine za (ze [(4,7),(10,13),(16,19),(22,25)] (zo h1 zH) ?_);exact zg (zi hd (by simp;rfl) (by simp[uV,h1,zp]))
theorem Zpw(c:Cust)(d:Int)(hp:∀p∈c.pats,p<2 ^ 64)(hl:c.pats.length<=9223372036854775807)(hdl:d<=1000):Pure prog 228 [.agg (uG c d)] (B (Zu c d)):=by
 refine zt Tryz.func228 Tryz.ntmps228 Tryz.results228 λS nx hd=>?_
 refine za (zb ?_);intro v0
 repeat apply za
 refine zb ?_;refine zj (zD (λs:Nat=>s<=c.pats.length/\∀p∈c.pats.take s,Z9 p d<0) (λk=>[(1,.ptr nx v0 0),(7,L c.pats),(8,I c.pats.length),(9,I k)]) (λk=>[.cells v0 207 (uG c d)]) (λs=>c.pats.length-s) 0 [] (by simp) (by simp) (by simp) ?_);rintro k ⟨hk,ho⟩;simp only at hk ho ⊢;refine za (zb ?_);refine za (zv rfl (λhc=>?_) (λhc=>?_))
 ·simp at hc;obtain⟨p,tl,a1,a2,a3,e0⟩:=zF rfl c.pats k hc;have hpm:=Ab a1;refine zh (za (zj (za (ze [] (zo e0 hc) ?_))));refine za (zb ?_);refine zr (Zpn p d (hp p hpm) hdl) ?_;refine zv rfl (λh=>?_) (λh=>?_)
  ·simp at h;have hres:Zu c d=false:=by
    have:(c.pats.all λp=>decide (Z9 p d<0))=false:=by
     rw[Bu];exact⟨p,hpm,by simp;omega⟩
    simp[Zu,this]
   refine za (zb ?_);exact zg (zi hd (by simp;rfl) (by simp[hres,zp]))
  ·simp at h;refine zh (zb ?_);exact zq (k+1) [] ⟨hc,by rw[a3];intro q hq;rcases AC.1 hq with hq | hq;exact ho q hq;rw[AV.1 hq];exact h⟩ (by omega) (by simp[zu k (by omega)]) rfl (by simp)
 ·simp at hc;obtain rfl:k=c.pats.length:=by omega
  rw[Ao]at ho;have hres:Zu c d=yu c.pats.length 1 64:=by
   have:(c.pats.all λp=>decide (Z9 p d<0))=true:=by
    rw[As];intro p hp;simpa using ho p hp
   simp[Zu,this]
  refine zy (za (zb ?_));refine zr (uF _ _ _) ?_;exact zg (zi hd (by simp;rfl) (by simp[hres,zp]))
structure Must where
 f:FuncId
 b:Bool
instance:Enc Must:=⟨λm=>[.fn (.func m.f) [] []],1,λ_=>rfl,λ_=>rfl⟩
@[simp] theorem ZxW(m:Must):Enc.enc m=[.fn (.func m.f) [] []]:=rfl
@[simp high] theorem ZxX(l:List Must):(l.flatMap Enc.enc).length=l.length:=(j4 l).trans (BT _)
def Ya(c:Cust)(d:Int)(k:Int):List Must :=
 if k=1 then [⟨227,yu c.demand 1 2147483648⟩,⟨228,Zu c d⟩,⟨229,uV c⟩]
 else if k=2 then [⟨230,yu c.rate 0 2147483648⟩,⟨231,yu c.size 1 2147483648⟩,⟨232,yu c.start 0 c.size⟩,
  ⟨233,Qp c⟩,⟨234,yu c.hold 0 1024⟩,⟨235,YJ c⟩]
 else []
theorem Zpx(c:Cust)(d k:Int):Pure prog 193 [I k] (L (Ya c d k)):=by
 refine zt Tryz.func193 Tryz.ntmps193 Tryz.results193 λS nx hd=>?_
 refine za (zb ?_)
 repeat apply za
 refine zb ?_;refine zj (za (zb ?_));refine zv rfl (λh=>?_) (λh=>?_)
 ·simp at h;subst h;refine za (zb ?_);exact zg (zi hd (by simp;rfl) rfl)
 ·simp at h;refine za (zb ?_);refine zv rfl (λh2=>?_) (λh2=>?_)
  ·simp at h2;subst h2;refine za (zb ?_);exact zg (zi hd (by simp;rfl) rfl)
  ·simp at h2;refine zh (za (zb ?_));refine ZU 2 rfl ?_;exact zg (zi hd (by simp;rfl) (by simp[Ya,h,h2,zp]))
theorem Zpy(c:Cust)(d:Int)(hp:∀p∈c.pats,p<2 ^ 64)(hl:c.pats.length<=9223372036854775807)(hdl:d<=1000):∀m∈Ya c d c.kind,Pure prog m.f [.agg (uG c d)] (B m.b):=by
 intro m hm;unfold Ya at hm;split at hm
 ·simp only[Aq,A4,or_false]at hm;rcases hm with rfl | rfl | rfl
  ·exact Zpo c d
  ·exact Zpw c d hp hl hdl
  ·exact Zpv c d
 ·split at hm
  ·simp only[Aq,A4,or_false]at hm;rcases hm with rfl | rfl | rfl | rfl | rfl | rfl
   ·exact Zpp c d
   ·exact Zpq c d
   ·exact Zpr c d
   ·exact Zpt c d
   ·exact Zps c d
   ·exact Zpu c d
  ·cases hm
def xF(c:Cust)(d:Int):Bool :=
 if c.kind=1 then (yu c.demand 1 2147483648 && Zu c d && uV c)
 else if c.kind=2 then (yu c.rate 0 2147483648 && yu c.size 1 2147483648 && yu c.start 0 c.size && Qp c && yu c.hold 0 1024 && YJ c) else false
theorem Zpz(c:Cust)(d:Int):xF c d=((Ya c d c.kind).all (·.b) && decide (0<(Ya c d c.kind).length)):=by
 unfold xF Ya;split
 ·simp[Bool.and_assoc]
 ·split
  ·simp[Bool.and_assoc]
  ·simp
theorem ZpA(c:Cust)(d:Int)(hp:∀p∈c.pats,p<2 ^ 64)(hl:c.pats.length<=9223372036854775807)(hdl:d<=1000):Pure prog 146 [.agg (uG c d)] (B (xF c d)):=by
 have hall:=Zpy c d hp hl hdl;have hmu:=Zpx c d c.kind;have hln:(Ya c d c.kind).length<=6:=by unfold Ya;split;simp;split<;>simp
 rw[Zpz];generalize Ya c d c.kind=ms at hall hmu hln ⊢;refine zt Tryz.func146 Tryz.ntmps146 Tryz.results146 λS nx hd=>?_
 refine za (zb ?_);intro v0;refine za (zb ?_);refine zr hmu ?_
 repeat apply za
 refine zb ?_;refine zj (zD (λs:Nat=>s<=ms.length/\(ms.take s).all (·.b)=true) (λk=>[(1,.ptr nx v0 0),(3,L ms),(10,L ms),(11,I ms.length),(12,I k)]) (λk=>[.cells v0 207 (uG c d)]) (λs=>ms.length-s) 0 [] (by simp) (by simp) (by simp) ?_);rintro k ⟨hk,ho⟩;simp only at hk ho ⊢;refine za (zb ?_);refine za (zv rfl (λhc=>?_) (λhc=>?_))
 ·simp at hc;obtain⟨m,tl,a1,a2,a3,e0⟩:=zF rfl ms k hc;have hm:=Ab a1;refine zh (za (zj (za (ze [] (zo e0 hc) ?_))));refine za (zb ?_);refine zr (hall m hm) ?_;cases hb:m.b with
  | false =>
   have hres:ms.all (·.b)=false:=by rw[Bu];exact⟨m,hm,by simp[hb]⟩
   refine zn rfl (za (zb ?_));exact zg (zi hd (by simp;rfl) (by simp only[hres,zp,C5]))
  | true =>
   refine zm rfl (zh (zb ?_));exact zq (k+1) [] ⟨hc,by rw[a3,CN,ho];simp[hb]⟩ (by omega) (by simp[zu k (by omega)]) rfl (by simp)
 ·simp at hc;obtain rfl:k=ms.length:=by omega
  rw[Ao]at ho;refine zy (za (zb ?_));exact zg (zi hd (by simp;rfl) (by simp[ho,zp]))
end Go.Proofs.YtcocagkbfpgmiaaGreatDoor.Pv
