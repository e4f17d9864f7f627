/- Part of a proof, packed. -/
import Derived.Test.YtcocagkbfpgmiaaGreatDoorP5
open Go.Proofs.Tryz
set_option maxRecDepth 100000
set_option maxHeartbeats 3200000
namespace Go.Proofs.YtcocagkbfpgmiaaGreatDoor.Pv
open Go Go.Proofs Hp
theorem ZaN(r:Int)(k:Nat):r*((k+1:Nat):Int)=r*(k:Int)+r:=by rw[Int.natCast_add,Df];simp
theorem ZiP(size rate:Int):∀(a b:List Int) (there:Int),yN size rate there (a++b)=(yN size rate there a).bind λl=>(yN size rate (there+a.sum-rate*a.length) b).map (l++·)
 | [],b,there=>by
  have e:there+([]:List Int).sum-rate*(([]:List Int).length:Int)=there:=DZ
  show yN size rate there b=(yN size rate (there+([]:List Int).sum-rate*(([]:List Int).length:Int)) b).map ([]++·)
  rw[e];cases yN size rate there b<;>rfl
 | q :: a,b,there=>by
  rw[List.cons_append,yN,yN];split
  ·rfl
  ·rw[ZiP size rate a b];have e:there+q-rate+a.sum-rate*(a.length:Int)=there+(q :: a).sum-rate*((q :: a).length:Int):=by
    rw[BP,Ad,ZaN];omega
   rw[e];cases yN size rate (there+q-rate) a with
   | none=>rfl
   | some l =>
    simp only[CC,A3];cases yN size rate (there+(q :: a).sum-rate*((q :: a).length:Int)) b<;>simp
theorem Zdy{size rate:Int}(hr:0<=rate):∀(k:Nat) (t:Int),t<=size->0<=t-rate*k->∃l,yN size rate t (List.replicate k 0)=some l
 | 0,t,_,_=>⟨[],rfl⟩
 | k+1,t,h1,h2=>by
  rw[ZaN]at h2;have hk:0<=rate*(k:Int):=CW hr DY;obtain⟨l,hl⟩:=Zdy (size:=size) hr k (t+0-rate) DY DY;rw[Bh,yN,if_neg DY,hl];exact⟨_,rfl⟩
theorem ZiQ:∀k:Nat,(List.replicate k (0:Int)).sum=0
 | 0=>rfl
 | k+1=>by rw[Bh,BP,ZiQ k];rfl
theorem ZiR(rate size:Int):∀(a b:List Int) (n m:List Int),a.length=n.length->wh rate size (a++b) (n++m)=(wh rate size a n || wh rate size b m)
 | [],b,[],m,_=>by simp[wh]
 | z :: a,b,x :: n,m,h=>by
  rw[List.cons_append,List.cons_append,wh,wh,ZiR rate size a b n m (by simpa using h),Bool.or_assoc]
 | [],b,_ :: _,m,h=>by simp at h
 | _ :: _,b,[],m,h=>by simp at h
theorem Zdz(rate size:Int):∀(k:Nat) (l:List Int),wh rate size (List.replicate k 0) l=false
 | 0,l=>rfl
 | k+1,[]=>by simp[Bh,wh]
 | k+1,x :: l=>by simp[Bh,wh,Zdz rate size k l]
theorem ZiS{size rate:Int}:∀(q:List Int) (there:Int) (l:List Int),yN size rate there q=some l->l.length=q.length
 | [],_,l,h=>by simp only[yN,Option.some.injEq]at h;subst h;rfl
 | q :: qs,there,l,h=>by
  rw[yN]at h;split at h
  ·cases h
  ·obtain⟨m,hm,rfl⟩:=Ao.1 h;rw[Ad,Ad,ZiS qs _ m hm]
theorem QN(v:List Visit){n:Nat}(hn:n<=60):(z8 v n).length=n:=by rw[WF];omega
theorem ZsY(v:List Visit){w:Visit}{d m:Nat}(hw:w.d=d)(hv:∀u∈v,u.d<d)(hdm:d<m)(hm:m<=60):z8 (v++[w]) m=z8 v d++w.q :: List.replicate (m-d-1) 0:=by
 apply AY;intro i;have em:(min (max (m:Int) 0) 64).toNat=m:=DY
 have ed:(min (max (d:Int) 0) 64).toNat=d:=DY
 by_cases hi:i<m
 ·have hL:(z8 (v++[w]) m)[i]?=some ((((v++[w]).filter λs=>decide (s.d=(i:Int))).map (·.q)).sum):=by
   unfold z8;rw[Aj,em,A9 hi];rfl
  rw[hL,Bu];rcases Nat.lt_trichotomy i d with h | h | h
  ·rw[Aq (by rw[QN v (by omega)];exact h)];have:(z8 v d)[i]?=some ((((v.filter λs=>decide (s.d=(i:Int))).map (·.q)).sum)):=by
    unfold z8;rw[Aj,ed,A9 h];rfl
   rw[this,By D2];simp
  ·subst h;have e0:(v.filter λs=>decide (s.d=(i:Int)))=[]:=by
    rw[A8];intro u hu;have:=hv u hu;simp;omega
   rw[e0,Al (by rw[QN v (by omega)];exact Ag _),QN v DY,Bv,BS (by simpa using hw)];simp
  ·have e0:(v.filter λs=>decide (s.d=(i:Int)))=[]:=by
    rw[A8];intro u hu;have:=hv u hu;simp;omega
   rw[e0,Al (by rw[QN v (by omega)];omega),QN v DY,By D2];obtain⟨j,hj⟩:∃j,i-d=j+1:=⟨i-d-1,by omega⟩;rw[hj,Bg,List.getElem?_replicate,if_pos DY];simp
 ·rw[Ak (by rw[QN _ hm];omega),Ak (by simp[QN v (show d<=60 by omega)];omega)]
theorem ZiT(c:Cust)(last d:Int):(qh c last d).1=(if last<0 then c.start else c.size)-c.rate*((if last<0 then d else d-last).toNat:Int):=rfl
theorem ZsZ{c:Cust}(hc:CustFits c)(hst:c.start<=c.size){cap:Int}{n:Nat}(hn:n<=60){ds:List Int}(h:FilS c cap n ds):∀m:Nat,wy ds<m->m<=n->0<=(qh c (wy ds) m).1->∃l,yN c.size c.rate c.start (z8 (yP c ds).1 m)=some l/\wh c.rate c.size (z8 (yP c ds).1 m) l=false/\c.start+(z8 (yP c ds).1 m).sum-c.rate*(m:Int)=(qh c (wy ds) m).1:=by
 have hr:=hc.rate.1
 induction h with
 | nil =>
  intro m _ hm h0;have e:z8 (yP c []).1 m=List.replicate m 0:=by
   show z8 [] m=_
   rw[Zhm,show (min (max (m:Int) 0) 64).toNat=m by omega]
  have e9:(qh c (wy []) m).1=c.start-c.rate*(m:Int):=by rw[ZiT];simp[wy]
  rw[e9]at h0 ⊢;obtain⟨l,hl⟩:=Zdy (size:=c.size) hr m c.start hst DY;refine⟨l,by rw[e,hl],by rw[e];exact Zdz _ _ _ _,by rw[e];simp⟩
 | @snoc ds d h h1 h2 h3 ih =>
  intro m hm hmn h0;rw[WQ]at hm h0 ⊢;have hlo:=h.lo;obtain⟨k,rfl⟩:=Au (show 0<=d by omega);obtain⟨l,e1,e2,e3⟩:=ih k h1 DY h3.1;obtain⟨q1,q2,q3,q4⟩:=Zdt hc h3;have hb:z8 (yP c (ds++[(k:Int)])).1 m=z8 (yP c ds).1 k++(c.size-(qh c (wy ds) k).1) :: List.replicate (m-k-1) 0:=by
   have hf:(yP c (ds++[(k:Int)])).1=(yP c ds).1++[⟨k,c.size-(qh c (wy ds) k).1⟩]:=by
    rw[XF];simp only[ZI];rw[Zdr,q1]
   rw[hf];refine ZsY _ rfl (λu hu=>?_) DY DY;have:u.d∈(yP c ds).1.map (·.d):=Cu hu;rw[Zds]at this;have:=hlo.2 _ this
   show u.d<(k:Int)
   omega
  have hbl:=QN (yP c ds).1 (n:=k) DY;rw[ZiT c k m]at h0 ⊢;rw[if_neg DY,if_neg DY]at h0 ⊢;have ek:((m:Int)-(k:Int)).toNat=(m-k-1)+1:=DY
  rw[ek,ZaN]at h0 ⊢;obtain⟨l2,hl2⟩:=Zdy (size:=c.size) hr (m-k-1) (c.size-c.rate) DY DY;have hthere:c.start+(z8 (yP c ds).1 k).sum-c.rate*((z8 (yP c ds).1 k).length:Int)+(c.size-(qh c (wy ds) k).1)=c.size:=by rw[hbl,e3];omega
  have hk0:0<=c.rate*((m-k-1:Nat):Int):=CW hr DY;have hrun:yN c.size c.rate c.start (z8 (yP c (ds++[(k:Int)])).1 m)=some (l++(c.size-c.rate) :: l2):=by
   rw[hb,ZiP,e1,CC,yN,hthere,if_neg DY,hl2];rfl
  refine⟨_,hrun,?_,?_⟩
  ·rw[hb,ZiR _ _ _ _ _ _ (ZiS _ _ _ e1).symm,e2,wh,Zdz];simp
  ·rw[hb,Dc,BP];have:(m:Int)=(k:Int)+((m-k-1+1:Nat):Int):=DY
   have e4:c.rate*(m:Int)=c.rate*(k:Int)+(c.rate*((m-k-1:Nat):Int)+c.rate):=by rw[this,Df,ZaN]
   rw[e4,ZiQ];omega
open Go Go.Proofs Hp
theorem Zs0{c:Cust}{cap:Int}{n:Nat}{ds:List Int}(h:FilS c cap n ds):wy ds<n:=by
 cases h with
 | nil=>show (-1:Int)<n;omega
 | snoc h h1 h2 h3=>rw[WQ];exact h2
theorem Zs1(c:Cust)(p:Nat):xS (wv c p):=by
 have e:(wv c p).map (·.d)=yx p 0 64:=by simp[wv,Function.comp_def]
 unfold xS;rw[e];exact Ziy p 0 64
theorem ZdA{c:Cust}{cap:Int}{n:Nat}{ds:List Int}(h:FilS c cap n ds):xS (yP c ds).1:=by
 unfold xS;rw[Zds];exact h.inc
theorem Zs2{c:Cust}(hc:CustFits c)(hr:c.rule=1){cap:Int}{n:Nat}{ds:List Int}(h:FilS c cap n ds):∀w∈(yP c ds).1,w.q<=cap:=by
 induction h with
 | nil=>intro w hw;cases hw
 | @snoc ds d h h1 h2 h3 ih =>
  intro w hw;obtain⟨q1,-,-,q4⟩:=Zdt hc h3;rw[XF]at hw;simp only[ZI]at hw;rcases AB.1 hw with hw | hw
  ·exact ih w hw
  ·rw[AW.1 hw,Zdr];dsimp only;rw[q1];exact q4 hr
theorem Zs3{v:List Visit}{n:Nat}(hg:GoodV n v)(h:xS v):Qs (z8 v n):=by
 intro z hz;unfold z8 at hz;obtain⟨d,-,rfl⟩:=Am.1 hz;rcases ZaM h d with q | ⟨w,-,q2⟩
 ·rw[q];simp
 ·have hw:w∈v:=by
   have:w∈v.filter λw=>decide (w.d=(d:Int)):=by rw[q2];simp
   exact(A7.1 this).1
  have:=(hg.ok w hw).2;rw[q2];simp;omega
theorem Zs4{c:Cust}{q l:List Int}(hq:Qs q)(h:yN c.size c.rate c.start q=some l):yZ c q=(l,0):=by
 have:q.any xF=false:=by
  rw[Cf];intro z hz;have:=hq z hz;simp[xF];omega
 unfold yZ;rw[this,h];rfl
theorem Zs5{c:Cust}{n:Nat}{cap:Int}{price:List Int}(hk:c.kind=1)(h:(uv c cap price).2=true):SuitsP c n cap (uv c cap price).1/\xS (uv c cap price).1:=by
 obtain⟨p,hp,hc,e⟩:=ZiA h;rw[e];refine⟨⟨λw hw=>?_,λ_=>⟨p,hp,rfl⟩,λh=>absurd hk h⟩,Zs1 c p⟩;simp only[wv,Am]at hw;obtain⟨d,hd,rfl⟩:=hw;rcases hc with rfl | hc
 ·simp[yx,yI]at hd
 ·exact hc
theorem Zs6{c:Cust}{n:Nat}{cap:Int}(hc:CustFits c)(hst:c.start<=c.size)(hn:n<=60)(hk:c.kind≠1)(hr:c.rule=1){ds:List Int}(h:FilS c cap n ds)(h0:0<=(qh c (wy ds) n).1):SuitsP c n cap (yP c ds).1:=by
 have hg:=Ziv hc hn h;refine⟨Zs2 hc hr h,λh=>absurd h hk,λ_=>⟨(ZsU hg hn (ZdA h)).symm,?_⟩⟩;obtain⟨l,e1,e2,-⟩:=ZsZ hc hst hn h n (Zs0 h) (Ag n) h0;unfold uq;rw[Zs4 (Zs3 hg (ZdA h)) e1];simp[e2]
theorem ZiU:∀(l:List Int) (i:Nat),∀w∈yy i l,0<w.q/\w.q∈l
 | [],_=>by intro w hw;cases hw
 | z :: l,i=>by
  have ih:=ZiU l (i+1);intro w hw;simp only[yy]at hw;split at hw
  ·rcases As.1 hw with rfl | hw
   ·exact⟨by assumption,by simp⟩
   ·have:=ih w hw;exact⟨this.1,by simp[this.2]⟩
  ·have:=ih w hw;exact⟨this.1,by simp[this.2]⟩
theorem ZiV(c:Cust)(f:Int->Int):∀k:Nat,∀z∈(y9 c f k).1,∃t,z=f t
 | 0=>by intro z hz;cases hz
 | k+1=>by
  intro z hz;simp only[y9]at hz;rcases AB.1 hz with hz | hz
  ·exact ZiV c f k z hz
  ·exact⟨_,AW.1 hz⟩
theorem ZiW(c:Cust)(t cap:Int):ww c t cap<=cap\/ww c t cap=0:=by
 unfold ww;split
 ·exact .inr rfl
 ·split
  ·left;assumption
  ·split
   ·exact .inr rfl
   ·left;omega
theorem ZiX{c:Cust}{n:Nat}{cap:Int}{f:Int->Int}(hc:CustFits c)(hn:n<=60)(hk:c.kind≠1)(hb:∀t,0<=f t/\f t<=2147483648)(hf:∀t,f t<=cap\/f t=0)(h:uq c (y9 c f n).1=0):SuitsP c n cap (yy 0 (y9 c f n).1):=by
 have hq:=(Jx hc hb n).2;have hl:=Jw c f n;refine⟨λw hw=>?_,λh=>absurd h hk,λ_=>?_⟩
 ·obtain⟨h1,h2⟩:=ZiU _ _ w hw;obtain⟨t,ht⟩:=ZiV c f n _ h2;rcases hf t with q | q<;>omega
 ·rw[ZsV hl hn hq];exact⟨rfl,h⟩
theorem ZiY{c:Cust}{n:Nat}(hm:CustMade c n)(hst:c.start<=c.size)(hn:n<=60)(cap:Int)(price:List Int)(h:(qa n cap c price).2=true):SuitsP c n cap (qa n cap c price).1/\xS (qa n cap c price).1:=by
 unfold qa at h ⊢
 by_cases hk:c.kind=1
 ·rw[if_pos hk]at h ⊢;exact Zs5 hk h
 rw[if_neg hk]at h ⊢
 by_cases hr:c.rule=1
 ·rw[if_pos hr]at h ⊢;obtain⟨ds,h1,h0,e⟩:=Ziz hn h;rw[e];exact⟨Zs6 hm.fits hst hn hk hr h1 h0,ZdA h1⟩
 ·rw[if_neg hr]at h ⊢;have hD:=λh=>ZiX (cap:=cap) (n:=n) hm.fits hn hk (ZaF hm.fits cap) (λt=>ZiW c _ cap) h
  have hL:=λh=>ZiX (cap:=cap) (n:=n) hm.fits hn hk (ZaG hm.fits cap) (λt=>by unfold Yj;split;exact .inr rfl;exact ZiW c _ cap) h
  unfold QK at h ⊢;split
  ·rename_i h1;have:=h1.1;unfold ZH at this;exact⟨hL (of_decide_eq_true this),Zdx _ 0⟩
  ·rename_i h1;rw[if_neg h1]at h;split
   ·rename_i h2;unfold Zh at h2;exact⟨hD (of_decide_eq_true h2),Zdx _ 0⟩
   ·rename_i h2;rw[if_neg h2]at h;cases h
theorem Zs7{x:Inst}{n:Nat}(h:InstA x n){b:Int}(h0:(jx x b).2=0):∃v pr,VsOk x.cust.length n v/\Zf x.cust.length n pr/\(jx x b).1=xn x v b n/\(∀d:Nat,d<n->(xE x b (jk v d x.cust.length)).2=0)/\∀i c,x.cust[i]?=some c->v[i]?=some (qa n x.cap c (pr.getD i [])).1/\(qa n x.cap c (pr.getD i [])).2=true:=by
 have hd:x.days.toNat=n:=by rw[h.days];rfl
 unfold jx WP at h0 ⊢;rw[hd]at h0 ⊢;obtain⟨pr,hp,e1,e2,e3⟩:=ZiH 8 _ (Zh7 x n) h0;have hv:=ZiC h pr hp e1;obtain⟨c1,c2⟩:=ZiB e1;refine⟨_,pr,hv,hp,e3,λd hdn=>?_,c2⟩;refine(Zc1 _).1 e2 _ (Am.2 ⟨_,Am.2 ⟨d,AL.2 hdn,rfl⟩,rfl⟩)
theorem Zs8{x:Inst}{n:Nat}(h:InstA x n){v:List (List Visit)}{b:Int}{i:Nat}{l:List Visit}(hv:VsOk x.cust.length n v)(hl:v[i]?=some l)(hr:xS l)(h0:∀d:Nat,d<n->(xE x b (jk v d x.cust.length)).2=0):yf i (told 0 (xn x v b n))=l:=by
 have hi:i<x.cust.length:=by rw[<-hv.len];exact(Ac.1 hl).1
 rw[ZiO h.h hv hi n h0];have e:v.getD i []=l:=by rw[Aa,hl];rfl
 rw[e];exact ZiJ hr λw hw=>(hv.ok l (Ab hl) w hw).1
open Go Go.Proofs Hp
theorem Zs9(c:Cust)(d:Int)(h1:1<=d)(h7:d<=7):xP (jE c d) d=true:=by
 have hm:=Zig c d h1 h7
 by_cases hk:c.kind.tmod 2=0
 ·have e:jE c d=⟨2,0,[],yD c.rate 0 9,yD c.size 1 30,yD c.start 0 (yD c.size 1 30),yD c.rule 1 2,yD c.hold 0 4⟩:=by unfold jE;rw[if_pos hk]
  have a:=xA c.rate 0 9 DY;have b:=xA c.size 1 30 DY;have s:=xA c.start 0 (yD c.size 1 30) DY;have r:=xA c.rule 1 2 DY;have h:=xA c.hold 0 4 DY;rw[e];simp[xP,yA,QF,YP];omega
 ·have e:jE c d=⟨1,yD c.demand 1 15,Zs c.pats d,0,0,0,0,0⟩:=by unfold jE;rw[if_neg hk]
  have a:=xA c.demand 1 15 DY;rw[e]at hm ⊢;obtain⟨hp,-⟩:=hm.per rfl;have hl:1<=(Zs c.pats d).length/\(Zs c.pats d).length<=64:=by
   unfold Zs;split
   ·simp
   ·rename_i hn;have:0<c.pats.length:=Cg.2 hn;simp only[List.length_map,Ay];omega
  simp only[xP,if_true,Aw,yA,decide_eq_true_eq,Zd,ZC,AA];refine⟨⟨by omega,λp hpm=>?_,by omega⟩,by simp⟩;unfold Yd;have:yx p d.toNat 64=[]:=by
   rw[Zhr,A8];intro z hz;have:=hp p hpm z hz;simp;omega
  rw[this];decide
theorem ZiZ(n:Nat)(row:Nat->List Int)(h:∀a,a<n->(row a).length=n/\(row a).getD a 0=0/\∀z∈row a,0<=z/\z<=2147483648):∀k a:Nat,a+k<=n->ZD n a ((List.range' a k).map row)=true
 | 0,_,_=>rfl
 | k+1,a,ha=>by
  obtain⟨h1,h2,h3⟩:=h a DY;rw[List.range'_succ,Az];simp only[ZD,ZiZ n row h k (a+1) DY,DQ,h1,h2,decide_true,Dv,AA,yA,decide_eq_true_eq];exact h3
theorem Zta(x:Inst):qZ (yG x)=true:=by
 have h1:=WL x;have h2:=Zsd x;have h3:=Zse x;have h4:=Zsf x;have h5:=Zsg x;unfold qZ;simp only[Aw,AA,decide_eq_true_eq,yA];refine⟨⟨⟨⟨⟨⟨by omega,by omega⟩,by omega⟩,by omega⟩,by omega⟩,λc hc=>?_⟩,?_⟩
 ·obtain⟨c0,rfl⟩:=Zdk x hc;exact Zs9 c0 _ h1.1 h1.2
 ·have e:(yG x).cust.length=(x.cust.take 6).length:=by simp[yG]
  rw[e];unfold ZE;have e2:(yG x).dist=(List.range' 0 ((x.cust.take 6).length+1)).map λa=>uf x (x.cust.take 6).length a:=by rw[<-List.range_eq_range'];rfl
  rw[e2,ZiZ _ _ (λa ha=>?_) _ _ DY]
  ·simp
  ·refine⟨by simp[uf],?_,λz hz=>?_⟩
   ·unfold uf;rw[Aa,Aj,A9 ha];simp
   ·unfold uf at hz;obtain⟨b,-,rfl⟩:=Am.1 hz;split
    ·have:=xA (arc x a b) 0 60 DY;omega
    ·omega
open Go Go.Proofs Hp
theorem Zi0(s:Nat)(d:Int)(i:Nat)(h:0<=d/\d<64):(qK s d).testBit i=(s.testBit i || decide (d=(i:Int))):=by
 obtain⟨k,rfl⟩:=Au h.1;unfold qK;rw[if_pos DY,AO,Do,CF];congr 1;rw[decide_eq_decide];omega
theorem Zi1(i:Nat):∀(l:List Int) (s:Nat),(∀d∈l,0<=d/\d<64)->(l.foldl qK s).testBit i=(s.testBit i || decide ((i:Int)∈l))
 | [],s,_=>by simp
 | d :: l,s,h=>by
  rw[A4,Zi1 i l _ λz hz=>h z (by simp[hz]),Zi0 s d i (h d DZ),Bool.or_assoc];congr 1
  by_cases h1:d=(i:Int)
  ·subst h1;simp
  ·have:¬(i:Int)=d:=λe=>h1 e.symm
   simp[h1,this]
theorem Ztb(p:Nat)(hp:p<2 ^ 64):Ya (yx p 0 64)=p:=by
 apply C7;intro i;unfold Ya;rw[Zi1 i _ _ λd hd=>by obtain⟨k,rfl,hk,-⟩:=QH hd;omega,Nat.zero_testBit,DR]
 by_cases hi:i<64
 ·rw[WH,decide_eq_decide];constructor
  ·intro h;obtain⟨k,e,-,hk⟩:=QH h;obtain rfl:i=k:=DY
   exact hk
  ·intro h;simp only[yx,Am,A7,AL,Aw,decide_eq_true_eq];exact⟨i,⟨hi,by omega,h⟩,rfl⟩
 ·rw[Cw (Bm hp (Cd D4 DY))];rw[decide_eq_false_iff_not];intro h;obtain⟨k,e,hk,-⟩:=QH h;omega
theorem Ztc{c:Cust}{p:Nat}(hp:p∈c.pats)(h:p<2 ^ 64):Xt c (wv c p)=0:=by
 unfold Xt;have e1:(wv c p).any (λs=>decide (s.q≠c.demand))=false:=by
  rw[Cf];intro s hs;simp only[wv,Am]at hs;obtain⟨d,-,rfl⟩:=hs;simp
 have e2:(wv c p).map (·.d)=yx p 0 64:=by simp[wv,Function.comp_def]
 rw[e1,if_neg DZ,e2,Ztb p h,if_pos hp]
def Zi2(c:Cust):Prop:=(c.kind=1/\c.rule=0)\/(c.kind=2/\(c.rule=1\/c.rule=2))
open Go Go.Proofs
abbrev Wd:=List UInt8
abbrev Ln:=List Wd
abbrev wA:Wd:=[116,114,97,110,116,101,114]
abbrev wB:Wd:=[100,97,121,115]
abbrev wC:Wd:=[118,101,104,105,99,108,101,115]
abbrev wD:Wd:=[99,97,112,97,99,105,116,121]
abbrev wE:Wd:=[108,101,110,103,116,104]
abbrev wF:Wd:=[99,117,115,116,111,109,101,114,115]
abbrev vX:Wd:=[118,105,115,105,116]
abbrev QO:Wd:=[116,97,110,107]
abbrev uy:Wd:=[102,105,108,108]
abbrev uT:Wd:=[97,110,121]
abbrev jy:Wd:=[100,105,115,116,97,110,99,101,115]
def yT(w:Wd):Int:=((jZ w).getD 0:Nat)
def jI(l:Ln):Option (List Int):=if l.all (λw=>(jZ w).isSome)=true then some (l.map yT) else none
theorem Ztd{l:Ln}{k:Nat}{w:Wd}(h:l[k]?=some w)(hw:jZ w=none):jI l=none:=by grind[jI]
theorem WS{l:Ln}(h:∀w∈l,(jZ w).isSome=true):jI l=some (l.map yT):=by simp_all[jI]
theorem Zi3{l:Ln}{z:List Int}(h:jI l=some z):z.length=l.length:=by grind[jI]
def xI(l:Ln)(n:Nat):Ln:=(List.range n).map λi=>l.getD (2*i+1) []
def Jz(l names:Ln):Bool:=decide (l.length=2*names.length) && (List.range names.length).all λi=>decide (l.getD (2*i) []=names.getD i [])
def qi(l names:Ln):Option (List Int):=if Jz l names=true then jI (xI l names.length) else none
def xT(w:Wd):Nat->Nat
 | 0=>0
 | k+1=>if w.getD k 0=49 then qK (xT w k) k else xT w k
def wT(w:Wd):Bool:=decide (w≠[]) && w.all λc=>decide (c.toNat=48\/c.toNat=49)
def j4(w:Wd):Nat:=if 64<w.length then 0 else xT w w.length
def Yl(d:Wd)(ps:Ln):Cust:=⟨1,yT d,ps.map j4,0,0,0,0,0⟩
def QP(n:Int)(l:Ln):Option (Cust × Bool):=match l with
 | []=>none
 | d :: ps=>if (jZ d).isSome=true/\ps.all wT=true then some (Yl d ps,ps.all λw=>decide ((w.length:Int)=n)) else none
theorem ZdB(n:Int)(d:Wd)(ps:Ln):QP n (d :: ps)=if (jZ d).isSome=true/\ps.all wT=true then some (Yl d ps,ps.all λw=>decide ((w.length:Int)=n)) else none:=rfl
def XG(w:Wd):Int:=if w=uy then 1 else 2
def YW(l:Ln):Option Cust:=match l with
 | [a,b,c,r,h]=>if (jI [a,b,c,h]).isSome=true/\(r=uy\/r=uT) then some ⟨2,0,[],yT a,yT b,yT c,XG r,yT h⟩ else none
 | _=>none
theorem ZdC(a b c r h:Wd):YW [a,b,c,r,h]=if (jI [a,b,c,h]).isSome=true/\(r=uy\/r=uT) then some ⟨2,0,[],yT a,yT b,yT c,XG r,yT h⟩ else none:=rfl
def wG(n:Int)(l:Ln):Option (Cust × Bool):=match l with
 | []=>none
 | w :: l=>if w=vX then QP n l else if w=QO then (YW l).map (·,true) else none
instance:Inhabited (Cust × Bool):=⟨(default,false)⟩
def vy(n:Int)(l:Ln):Cust × Bool:=(wG n l).getD default
def vz(m:Nat)(l:Ln):Bool:=(jI l).isSome && decide (l.length=m)
def zP(ls:List Ln)(k:Nat):Ln:=ls.getD k []
def yV(ls:List Ln)(k n:Nat):List Ln:=(List.range n).map λi=>zP ls (k+i)
def YX(ls:List Ln):Option (Inst × Bool) :=
 if zP ls 0=[wA,[49]] then
  match qi (zP ls 1) [wB,wC,wD,wE] with
  | some [d,v,c,l] =>
   match qi (zP ls 2) [wF] with
   | some [m] =>
    if (yV ls 3 m.toNat).all (λl=>(wG d l).isSome)=true/\zP ls (3+m.toNat)=[jy]/\(yV ls (4+m.toNat) (m.toNat+1)).all (vz (m.toNat+1))=true/\ls.length=5+2*m.toNat then
     some (⟨d,v,c,l,(yV ls 3 m.toNat).map λl=>(vy d l).1,(yV ls (4+m.toNat) (m.toNat+1)).map λl=>l.map yT⟩,(yV ls 3 m.toNat).all λl=>(vy d l).2)
    else none
   | _=>none
  | _=>none
 else none
def zI:Inst:=⟨0,0,0,0,[],[]⟩
def qu(t:List UInt8):Inst × Int:=match wu t with
 | none=>(zI,2)
 | some ls=>match YX ls with
  | none=>(zI,2)
  | some (x,ok)=>if ok=true/\qZ x=true then (x,0) else (zI,3)
def zV(z:Int):Wd:=yc z.toNat
theorem ZK{z:Int}(h0:0<=z)(h1:z<100000000000000000):(jZ (zV z)).isSome=true/\yT (zV z)=z:=by grind[ZhY,yT,zV]
def qE(n:Nat)(p:Nat):Wd:=(List.range n).map λi=>UInt8.ofNat (48+yI p i)
def qv(n:Nat)(c:Cust):Ln:=if c.kind=1 then vX :: zV c.demand :: c.pats.map (qE n) else [QO,zV c.rate,zV c.size,zV c.start,if c.rule=2 then uT else uy,zV c.hold]
def j5(x:Inst):List Ln :=
 [wA,[49]] :: [wB,zV x.days,wC,zV x.veh,wD,zV x.cap,wE,zV x.len] :: [wF,yc x.cust.length] :: (x.cust.map (qv x.days.toNat)++[jy] :: x.dist.map (λr:List Int=>r.map zV))
def ZL(z:Int):Prop:=0<=z/\z<100000000000000000
structure CustT (n:Nat) (c:Cust):Prop where
 kind:(c.kind=1/\ZL c.demand/\(∀p∈c.pats,p<2 ^ n)/\c.rate=0/\c.size=0/\c.start=0/\c.rule=0/\c.hold=0)\/(c.kind=2/\c.demand=0/\c.pats=[]/\ZL c.rate/\ZL c.size/\ZL c.start/\(c.rule=1\/c.rule=2)/\ZL c.hold)
structure InstT (x:Inst) (n:Nat):Prop where
 days:x.days=n
 n1:1<=n
 n64:n<=64
 nums:ZL x.veh/\ZL x.cap/\ZL x.len
 ncust:x.cust.length<100000000000000000
 cust:∀c∈x.cust,CustT n c
 rows:x.dist.length=x.cust.length+1
 row:∀r∈x.dist,r.length=x.cust.length+1/\∀z∈r,ZL z
theorem ZaO(w:Wd)(i:Nat):∀k,(xT w k).testBit i=(decide (i<k/\i<64) && decide (w.getD i 0=49))
 | 0=>by simp[xT]
 | k+1=>by
  unfold xT;split
  ·rename_i h
   by_cases hk:k<64
   ·rw[Zi0 _ _ _ ⟨by omega,by omega⟩,ZaO w i k]
    grind
   ·have:qK (xT w k) k=xT w k:=by unfold qK;rw[if_neg DY]
    have e2:decide (i<k+1/\i<64)=decide (i<k/\i<64):=by rw[decide_eq_decide];omega
    rw[this,ZaO w i k,e2]
  ·rename_i h;rw[ZaO w i k]
   grind
theorem ZaP(w:Wd):∀k,xT w k<2 ^ 64
 | 0=>by show 0<2 ^ 64;decide
 | k+1=>by
  unfold xT;split
  ·exact Zao _ _ (ZaP w k)
  ·exact ZaP w k
theorem WT(n p:Nat):(qE n p).length=n:=by simp[qE]
theorem Zte(n p i:Nat)(h:i<n):(qE n p).getD i 0=UInt8.ofNat (48+yI p i):=by simp_all[qE]
theorem Zi4(n p:Nat)(h:1<=n):wT (qE n p)=true:=by grind[wT,qE,WT,VR,YS]
theorem Ztf(n p:Nat)(h1:1<=n)(hn:n<=64)(hp:p<2 ^ n):j4 (qE n p)=p:=by
 unfold j4;rw[WT,if_neg DY];apply C7;intro i;rw[ZaO]
 by_cases hi:i<n
 ·rw[Zte n p i hi];have hb:=VR p i;have e:(UInt8.ofNat (48+yI p i)=49)<->yI p i=1:=by
   constructor
   ·intro e;have:=congrArg UInt8.toNat e;rw[YS DY]at this;have h49:(49:UInt8).toNat=49:=rfl;omega
   ·intro e;rw[e];rfl
  have hd:decide (i<n/\i<64)=true:=D2
  rw[hd,Dv,CM];unfold yI at e ⊢;simp only[e]
 grind[Nat.testBit_lt_two_pow,Nat.lt_of_lt_of_le,Nat.pow_le_pow_right]
theorem Ztg{n:Nat}{c:Cust}(h1:1<=n)(hn:n<=64)(h:CustT n c):wG n (qv n c)=some (c,true):=by
 obtain⟨k,dm,ps,ra,si,st,ru,ho⟩:=c;rcases h.kind with ⟨k1,k2,k3,k4,k5,k6,k7,k8⟩ | ⟨k1,k2,k3,k4,k5,k6,k7,k8⟩
 ·simp only at k1 k2 k3 k4 k5 k6 k7 k8;subst k1 k4 k5 k6 k7 k8;obtain⟨d1,d2⟩:=ZK k2.1 k2.2;have e1:(ps.map (qE n)).all wT=true:=by
   rw[AA];intro w hw;obtain⟨p,hp,rfl⟩:=Am.1 hw;exact Zi4 n p h1
  have e2:((ps.map (qE n)).all λw=>decide ((w.length:Int)=n))=true:=by
   rw[AA];intro w hw;obtain⟨p,hp,rfl⟩:=Am.1 hw;simp[WT]
  have e3:(ps.map (qE n)).map j4=ps:=by
   rw[BL];refine(AN λp hp=>?_).trans (List.map_id _);exact Ztf n p h1 hn (k3 p hp)
  unfold qv;rw[if_pos rfl]
  show QP n (zV dm :: ps.map (qE n))=_
  simp_all[ZdB,Yl]
 ·simp only at k1 k2 k3 k4 k5 k6 k7 k8;subst k1 k2 k3;obtain⟨a1,a2⟩:=ZK k4.1 k4.2;obtain⟨b1,b2⟩:=ZK k5.1 k5.2;obtain⟨c1,c2⟩:=ZK k6.1 k6.2;obtain⟨d1,d2⟩:=ZK k8.1 k8.2;have e1:(jI [zV ra,zV si,zV st,zV ho]).isSome=true:=by
   rw[WS D6];rfl
  have hcw:wG n (qv n ⟨2,0,[],ra,si,st,ru,ho⟩)=(YW [zV ra,zV si,zV st,if ru=2 then uT else uy,zV ho]).map (·,true):=rfl;rw[hcw,ZdC];rcases k7 with k7 | k7
  ·subst k7;rw[if_pos ⟨e1,.inl (if_neg D4)⟩,show (if (1:Int)=2 then uT else uy)=uy from rfl];simp only[A3,a2,b2,c2,d2];rfl
  ·subst k7;rw[if_pos ⟨e1,.inr (if_pos rfl)⟩,show (if (2:Int)=2 then uT else uy)=uT from rfl];simp only[A3,a2,b2,c2,d2];rfl
theorem XH{α:Type}(a b:List α)(d:α)(k:Nat)(h:a.length=k)(i:Nat):(a++b).getD (k+i) d=b.getD i d:=D5
theorem Zi5{α:Type}(l m:List α)(d:α):(List.range l.length).map (λi=>(l++m).getD i d)=l:=by apply Bd<;>grind
theorem Zth{x:Inst}{n:Nat}(h:InstT x n):YX (j5 x)=some (x,true):=by
 obtain⟨dy,ve,ca,le,cu,di⟩:=x;obtain⟨h1,h2,h3,⟨h4,h5,h6⟩,h7,h8,h9,h10⟩:=h;simp only at h1 h4 h5 h6 h7 h8 h9 h10;subst h1;obtain⟨d1,d2⟩:=ZK (z:=(n:Int)) DY DY;obtain⟨v1,v2⟩:=ZK h4.1 h4.2;obtain⟨c1,c2⟩:=ZK h5.1 h5.2;obtain⟨l1,l2⟩:=ZK h6.1 h6.2;have m1:=ZhY cu.length h7;have hW:j5 ⟨n,ve,ca,le,cu,di⟩=[wA,[49]] :: [wB,zV n,wC,zV ve,wD,zV ca,wE,zV le] :: [wF,yc cu.length] :: (cu.map (qv n)++[jy] :: di.map (λr:List Int=>r.map zV)):=rfl;rw[hW];generalize hls:[wA,[49]] :: [wB,zV n,wC,zV ve,wD,zV ca,wE,zV le] :: [wF,yc cu.length] :: (cu.map (qv n)++[jy] :: di.map (λr:List Int=>r.map zV))=ls;have hls3:ls=[[wA,[49]],[wB,zV n,wC,zV ve,wD,zV ca,wE,zV le],[wF,yc cu.length]]++(cu.map (qv n)++[jy] :: di.map (λr:List Int=>r.map zV)):=by rw[<-hls];rfl
 have q0:zP ls 0=[wA,[49]]:=by rw[<-hls];rfl
 have q1:zP ls 1=[wB,zV n,wC,zV ve,wD,zV ca,wE,zV le]:=by rw[<-hls];rfl
 have q2:zP ls 2=[wF,yc cu.length]:=by rw[<-hls];rfl
 have q3:yV ls 3 cu.length=cu.map (qv n):=by
  unfold yV zP;rw[hls3];have:(List.range cu.length).map (λi=>([[wA,[49]],[wB,zV n,wC,zV ve,wD,zV ca,wE,zV le],[wF,yc cu.length]]++(cu.map (qv n)++[jy] :: di.map (λr:List Int=>r.map zV))).getD (3+i) [])=(List.range (cu.map (qv n)).length).map λi=>(cu.map (qv n)++[jy] :: di.map (λr:List Int=>r.map zV)).getD i []:=by
   rw[List.length_map];refine AN λi _=>?_
   exact XH _ _ _ 3 rfl i
  rw[this,Zi5]
 have q4:zP ls (3+cu.length)=[jy]:=by
  unfold zP;rw[hls3,XH _ _ _ 3 rfl];have:=XH (cu.map (qv n)) ([jy] :: di.map (λr:List Int=>r.map zV)) [] cu.length DZ 0;rw[BF]at this;rw[this];rfl
 have q5:yV ls (4+cu.length) (cu.length+1)=di.map (λr:List Int=>r.map zV):=by
  unfold yV zP;have:(List.range (cu.length+1)).map (λi=>ls.getD (4+cu.length+i) [])=(List.range (di.map (λr:List Int=>r.map zV)).length).map λi=>(di.map (λr:List Int=>r.map zV)++[]).getD i []:=by
   rw[List.length_map,h9];refine AN λi _=>?_
   rw[hls3,show 4+cu.length+i=3+(cu.length+(1+i)) by omega,XH _ _ _ 3 rfl,XH _ _ _ cu.length DZ,AC];have:=XH [[jy]] (di.map (λr:List Int=>r.map zV)) [] 1 rfl i;exact this
  rw[this,Zi5]
 have q6:ls.length=5+2*cu.length:=by rw[hls3];simp;omega
 have n1:qi (zP ls 1) [wB,wC,wD,wE]=some [(n:Int),ve,ca,le]:=by
  rw[q1];unfold qi;rw[if_pos (by simp[Jz,AH]),WS (by intro w hw;simp[xI,AH]at hw;grind)];simp[xI,AH,d2,v2,c2,l2]
 have n2:qi (zP ls 2) [wF]=some [(cu.length:Int)]:=by
  rw[q2];unfold qi;rw[if_pos (by simp[Jz]),WS (by intro w hw;simp[xI,AH]at hw;rw[hw,m1];rfl)];simp[xI,AH,yT,m1]
 have hc:∀c∈cu,wG n (qv n c)=some (c,true):=λc hc=>Ztg h2 h3 (h8 c hc)
 have r1:(cu.map (qv n)).all (λl=>(wG n l).isSome)=true:=by
  rw[AA];intro l hl;obtain⟨c,hcm,rfl⟩:=Am.1 hl;rw[hc c hcm];rfl
 have hrow:∀r∈di,(jI (r.map zV)).isSome=true/\(r.map zV).map yT=r:=by
  intro r hr;have hz:=(h10 r hr).2;refine⟨?_,?_⟩
  ·rw[WS];rfl;intro w hw;obtain⟨z,hzm,rfl⟩:=Am.1 hw;exact(ZK (hz z hzm).1 (hz z hzm).2).1
  ·rw[BL];refine(AN λz hzm=>?_).trans (List.map_id _);exact(ZK (hz z hzm).1 (hz z hzm).2).2
 have r2:(di.map (λr:List Int=>r.map zV)).all (vz (cu.length+1))=true:=by
  rw[AA];intro l hl;obtain⟨r,hr,rfl⟩:=Am.1 hl;simp[vz,(hrow r hr).1,(h10 r hr).1]
 have tn:((cu.length:Nat):Int).toNat=cu.length:=DZ
 unfold YX;rw[if_pos q0,n1];simp only;rw[n2];simp only[tn,q3,q5,q4];rw[if_pos ⟨r1,trivial,r2,q6⟩];have e1:(cu.map (qv n)).map (λl=>(vy n l).1)=cu:=by
  rw[BL];refine(AN λc hcm=>?_).trans (List.map_id _);simp only[Function.comp_apply,vy,hc c hcm];rfl
 have e2:(di.map (λr:List Int=>r.map zV)).map (λl=>l.map yT)=di:=by
  rw[BL];refine(AN λr hr=>?_).trans (List.map_id _);exact(hrow r hr).2
 have e3:((cu.map (qv n)).all λl=>(vy n l).2)=true:=by
  rw[AA];intro l hl;obtain⟨c,hcm,rfl⟩:=Am.1 hl;simp only[vy,hc c hcm];rfl
 rw[e1,e2,e3]
theorem Zti:∀w∈[wA,wB,wC,wD,wE,wF,vX,QO,uy,uT,jy,[49]],ZF w:=by
 intro w hw;rw[<-Zay];revert w;decide
theorem Ztj(n p:Nat)(h:1<=n):ZF (qE n p):=by
 have:=Zi4 n p h;simp only[wT,Aw,decide_eq_true_eq,AA]at this;exact⟨this.1,λc hc=>by grind⟩
theorem Ztk{x:Inst}{n:Nat}(h:InstT x n):(∀l∈j5 x,l≠[])/\∀l∈j5 x,∀w∈l,ZF w:=by
 have A:∀w,w∈[wA,wB,wC,wD,wE,wF,vX,QO,uy,uT,jy,[49]]->ZF w:=Zti;have hn1:=h.n1;have hnd:x.days.toNat=n:=by have:=h.days;omega
 constructor
 ·intro l hl;simp only[j5,As,AB,Am]at hl;rcases hl with rfl | rfl | rfl | ⟨c,hc,rfl⟩ | rfl | ⟨r,hr,rfl⟩
  ·simp
  ·simp
  ·simp
  ·grind[qv]
  ·simp
  ·intro e;have:=(h.row r hr).1
   simp_all
 ·intro l hl w hw;simp only[j5,As,AB,Am]at hl;rcases hl with rfl | rfl | rfl | ⟨c,hc,rfl⟩ | rfl | ⟨r,hr,rfl⟩
  ·grind
  ·simp only[As,Bn,or_false]at hw;rcases hw with rfl | rfl | rfl | rfl | rfl | rfl | rfl | rfl
   all_goals first | exact QG _ | simp_all
  ·grind[QG]
  ·unfold qv at hw;split at hw
   ·simp only[As,Am]at hw;rcases hw with rfl | rfl | ⟨p,hp,rfl⟩
    ·exact A _ DZ
    ·exact QG _
    simp_all[Ztj]
   ·simp only[As,Bn,or_false]at hw;rcases hw with rfl | rfl | rfl | rfl | rfl | rfl
    ·simp_all
    ·exact QG _
    ·exact QG _
    ·exact QG _
    ·split<;>simp_all
    ·exact QG _
  ·simp_all
  ·obtain⟨z,_,rfl⟩:=Am.1 hw;exact QG _
theorem Ztl{x:Inst}{n:Nat}(h:InstT x n)(hm:qZ x=true):qu (qL (j5 x))=(x,0):=by grind[Ztk,qu,ZrN,Zth]
open Go Go.Proofs
abbrev vA:PV:=.sc (.slice none 0 0)
def vB(o:Option (List Int)):PV:=match o with
 | none=>.tup [vA,B false]
 | some l=>.tup [L l,B true]
theorem Ztm(l:List (List UInt8))(hl:l.length<=1048576)(hw:∀w∈l,w.length<=1099511627776):Pure prog 192 [L (l.map bs),.fn (.func 109) [] []] (vB (jI l)):=by
 obtain⟨zs,hzs⟩:∃zs:List Int,zs=l.map yT:=⟨_,rfl⟩;have hzl:zs.length=l.length:=by rw[hzs,List.length_map]
 have hwl:(l.map bs).length=l.length:=DZ
 have hat:∀(k:Nat) (w:List UInt8),l[k]?=some w->zs[k]?=some (yT w)/\(l.map bs)[k]?=some (bs w):=λk n e=>⟨by rw[hzs,Aj,e];rfl,by rw[Aj,e];rfl⟩
 have hres:(∀w∈l,(jZ w).isSome=true)->jI l=some zs:=λh=>by rw[WS h,hzs]
 generalize l.map bs=ws at *;refine zr func192 ntmps192 results192 λS nx hd=>?_
 refine D7 ?_;refine D7 ?_;refine⟨by omega,λv0=>?_⟩
 repeat apply za
 refine zb ?_;refine zj (zC (λs:Nat × Nat × List PV=>(s.1<=zs.length/\∀w∈l.take s.1,(jZ w).isSome=true)/\s.2.2.take s.1=(zs.take s.1).flatMap Enc.enc/\s.1<=s.2.2.length/\(0<s.1->s.2.2.length=s.1)/\(zs.length=0->s.2.2=[])) (λ(k,w,cs)=>[(1,.fn (.func 109) [] []),(6,.sl nx w 1 0 k),(14,L ws),(15,I ws.length),(16,I k)]) (λ(k,w,cs)=>[.cells w 3 cs]) (λs=>zs.length-s.1) (0,v0,_) [] ⟨⟨by simp,by simp⟩,by simp,by simp,λh=>absurd h (CL _),?_⟩ DZ rfl ?_)
 ·intro h;have:ws.length=0:=DY
  simp[this,qb]
 rintro⟨k,w,cs⟩ ⟨⟨hk,hso⟩,hcs,hkl,hk1,hk0⟩;simp only at hk hso hcs hkl hk1 hk0 ⊢;refine D7 ?_;refine za (zv rfl (λhc=>?_) (λhc=>?_))
 ·simp at hc;obtain⟨u,hu1⟩:∃u,l[k]?=some u:=⟨_,Ae DY⟩;obtain⟨g1,g2⟩:=hat k u hu1;obtain⟨t,tl,b1,b2,b3,f0⟩:=zF rfl ws k hc;obtain rfl:t=bs u:=by rw[b1]at g2;exact Option.some.inj g2
  have hnum:=Zh1 u (hw u (Ab hu1));refine zh (za (zj (za (ze [] (zo f0 hc) ?_))));cases hz:jZ u with
  | none =>
   rw[hz]at hnum;simp only[Xz]at hnum;refine D7 ?_;refine zt hnum ?_
   repeat apply za
   refine zb ?_;refine zm DZ ?_;refine D7 ?_;exact zg (zi hd D0 (by rw[Ztd hu1 hz];rfl))
  | some n =>
   rw[hz]at hnum;simp only[Xz]at hnum;have hnv:yT u=n:=by unfold yT;rw[hz];rfl
   rw[hnv]at g1;have hnx:(zs.take (k+1)).flatMap Enc.enc=cs.take k++[I n]:=by rw[hcs,AJ,g1,Ap];rfl
   have hso':∀w∈l.take (k+1),(jZ w).isSome=true:=by
    rw[AJ,hu1];intro w hw;rw[AB]at hw;rcases hw with hw | hw
    ·exact hso w hw
    ·obtain rfl:w=u:=by simpa using hw
     rw[hz];rfl
   refine D7 ?_;refine zt hnum ?_
   repeat apply za
   refine zb ?_;refine zk rfl (zh (ze [] hkl ?_));refine⟨by omega,?_⟩;refine zb ?_;exact zq (k+1,w+1,cs.take k++[I n]) [] ⟨⟨by simp;omega,hso'⟩,by rw[hnx];exact Af D2,by simp;omega,λ_=>by simp;omega,λh=>by omega⟩ D2 (by simp[zu k (by omega)]) rfl DZ
 ·simp at hc;obtain rfl:k=zs.length:=DY
  rw[Af DY]at hso;have hcl:cs.length=zs.length:=by
   rcases B1 zs.length with h | h
   ·rw[hk0 h,h];rfl
   ·exact hk1 h
  have hcz:cs=zs.flatMap Enc.enc:=by
   rw[Ai,Af DY]at hcs;exact hcs
  refine zx (zX 0 rfl ?_);refine za (ze [] hcl ?_);exact zg (zi hd D0 (by simp[zp,hcz,hres hso,vB]))
theorem ZdD(l:List (List UInt8))(hl:l.length<=1048576)(hw:∀w∈l,w.length<=1099511627776):Pure prog 144 [L (l.map bs)] (vB (jI l)):=by
 have h:=Ztm l hl hw;cases hz:jI l with
 | none =>
  rw[hz]at h;simp only[vB]at h ⊢;refine zr func144 ntmps144 results144 λS nx hd=>?_
  refine D7 ?_;refine D7 ?_;refine zt h ?_;exact D8 hd
 | some z =>
  rw[hz]at h;simp only[vB]at h ⊢;refine zr func144 ntmps144 results144 λS nx hd=>?_
  refine D7 ?_;refine D7 ?_;refine zt h ?_;exact D8 hd
open Go Go.Proofs
theorem Ztn{P:Program}{f:FuncId}{v:Value}(vs:List Value)(hE:qq P f)(h:∀w,Calls P f vs.toArray w λe w'=>e=.returned v/\w'=w):Pure P f (vs.map .sc) (.sc v):=by
 intro S;refine⟨hE,λC w us hS hl hr=>?_⟩;have hus:us=vs.toArray:=by
  apply Array.ext
  ·simp_all
  ·intro i h1 h2;have hi:i<vs.length:=by simpa using h2
   have:=hr i (.sc vs[i]) us[i] DZ (A5 h1);generalize us[i]=u at this;cases this;simp
 subst hus;refine(h w).mono ?_;rintro e w' ⟨rfl,rfl⟩;exact⟨_,_,S,C,rfl,⟨rfl,rfl⟩,.sc _,hS,.refl _ _ _⟩
theorem Zi6(s:List UInt8)(c:UInt8):Pure prog 222 [T (bs s),T (bs [c])] (I (Lib.indexByte s c)) :=
 Ztn [.string (bs s),.string (bs [c])] Zl1 λw=>stringslite_Index_one (bs s) c w
theorem Zi7(a b:List UInt8)(c:UInt8)(h:c ∉ a):Lib.indexByte (a++c :: b) c=a.length:=by induction a<;>grind[Lib.indexByte]
theorem ZaQ(l:List UInt8)(i j:Nat):(bs l).extract i j=bs ((l.take j).drop i):=by
 apply ByteArray.ext;simp[List.drop_take]
theorem Zto(a b:List UInt8)(c:UInt8)(h:c ∉ a)(hl:(a++c :: b).length<=4611686018427387904):Pure prog 189 [T (bs (a++c :: b)),T (bs [c])] (.tup [T (bs a),T (bs b),B true]):=by
 have hI:=Zi6 (a++c :: b) c;rw[Zi7 a b c h]at hI;have hx1:(bs (a++c :: b)).extract 0 a.length=bs a:=by rw[ZaQ];simp
 have hx2:(bs (a++c :: b)).extract (a.length+1) (bs (a++c :: b)).size=bs b:=by
  rw[ZaQ,vw,Ai,show a++c :: b=(a++[c])++b by simp,List.drop_left' DZ]
 have hsz:(bs (a++c :: b)).size=a.length+1+b.length:=by rw[vw];simp;omega
 have hs1:(bs [c]).size=1:=rfl;rw[hsz]at hx2;have hw:W ((a.length:Int)+1)=((a.length+1:Nat):Int):=zu _ (by simp at hl;omega);generalize bs (a++c :: b)=X at *;generalize bs [c]=Y at *;generalize a.length=n at *;refine zr func189 ntmps189 results189 λS nx hd=>?_
 refine D7 ?_
 repeat apply za
 refine zb ?_;refine zt hI ?_;refine D7 ?_;refine zm DZ ?_;have hb1:n<=n+1+b.length:=DY
 have hb2:n+1<=n+1+b.length:=DY
 have hb3:(0:Int)<=(n:Int)+1:=DY
 refine za (zz none (Row.pures [0,1,2,3,4,5,6,7,8,9,10,11] .done) mixed (yd hx1 hx2 hsz hs1 hw (zD hb1 hb2 hb3)) ?_);exact D8 hd
theorem Zi8(a:List UInt8)(c:UInt8)(h:c ∉ a):Lib.indexByte a c=-1:=by induction a<;>grind[Lib.indexByte]
theorem Ztp(a:List UInt8)(c:UInt8)(h:c ∉ a):Pure prog 189 [T (bs a),T (bs [c])] (.tup [T (bs a),T (bs []),B false]):=by
 have hI:=Zi6 a c;rw[Zi8 a c h]at hI;generalize bs a=X at *;generalize bs [c]=Y at *;refine zr func189 ntmps189 results189 λS nx hd=>?_
 refine D7 ?_
 repeat apply za
 refine zb ?_;refine zt hI ?_;refine D7 ?_;refine zk DZ ?_;refine zh (D7 ?_);exact zg (zi hd rfl rfl)
def ZdE(c:UInt8)(s:List UInt8):PV:=match xH c s with
 | some (a,b)=>.tup [T (bs a),T (bs b),B true]
 | none=>.tup [T (bs s),T (bs []),B false]
theorem Ztq(s:List UInt8)(c:UInt8)(hl:s.length<=4611686018427387904):Pure prog 136 [T (bs s),T (bs [c])] (ZdE c s):=by
 unfold ZdE;cases hcw:xH c s with
 | none =>
  have hc:=Ztp s c (Zda hcw);simp only[];refine zr func136 ntmps136 results136 λS nx hd=>?_
  refine D7 ?_;refine D7 ?_;refine zt hc ?_;exact D8 hd
 | some p =>
  obtain⟨a,b⟩:=p;obtain⟨rfl,hna⟩:=Xy hcw;have hc:=Zto a b c hna hl;simp only[];clear hcw;refine zr func136 ntmps136 results136 λS nx hd=>?_
  refine D7 ?_;refine D7 ?_;refine zt hc ?_;exact D8 hd
theorem Zi9(c:UInt8):∀(k:Nat) (s:List UInt8),s.count c<=k->Lib.splitB (bs [c]) 0 k (bs s)=(y8 c s).map bs
 | k,s,hk=>by
  rw[ZrH];cases h:xH c s with
  | none =>
   grind[Lib.index_one,Zi8,Zda,Lib.splitB_miss]
  | some p =>
   obtain⟨a,b⟩:=p;obtain⟨rfl,hna⟩:=Xy h;have hn:Lib.indexB (bs (a++c :: b)) (bs [c])=a.length:=(Lib.index_one _ c).trans (Zi7 a b c hna);rw[List.count_append,List.count_cons_self]at hk
   match k,hk with
   | k+1,hk =>
   have ih:=Zi9 c k b DY;have hs1:(bs [c]).size=1:=rfl;rw[Lib.splitB_hit _ _ _ _ _ hn,hs1,ZaQ,ZaQ,vw,Ai,show a++c :: b=(a++[c])++b by simp,List.drop_left' DZ,ih];simp
theorem Ztr(c:UInt8)(s:List UInt8):(y8 c s).length=s.count c+1:=by induction s<;>grind[y8]
theorem Zts(s:List UInt8)(c:UInt8)(hl:s.length<=1048576):Pure prog 190 [T (bs s),T (bs [c]),I 0,I (-1)] (L ((y8 c s).map bs)):=by
 intro S;refine⟨ZlY,λC w us hS hl' hr=>?_⟩;obtain⟨u0,u1,u2,u3,rfl⟩:∃a b c d,us=#[a,b,c,d]:=by
  match us,hl' with
  | ⟨[a,b,c,d]⟩,_=>simp
 have hsz1:(bs [c]).size=1:=rfl;have r0:=hr 0 _ u0 rfl rfl;have r1:=hr 1 _ u1 rfl rfl;have r2:=hr 2 _ u2 rfl rfl;have r3:=hr 3 _ u3 rfl rfl;cases r0;cases r1;cases r2;cases r3;have hcb:Lib.countB (bs s) (bs [c])=s.count c:=Lib.count_one c s;have hcl:s.count c<=s.length:=List.count_le_length;have main:=Any.strings_genSplit_core lays221 D1 (bs s) (bs [c]) 0 (-1) (s.count c+1) w (by rw[vw];omega) DY (Cr _)
  (λx ce _=>(strings_Index_one x c _).mono λe w' h=>⟨by grind[Lib.index_one],h.2⟩)
  ((strings_Count_one (bs s) c w).mono λe w' h=>⟨by rw[h.1,hcb];rfl,h.2⟩)
  D4 D4 (by grind[vw])
 rw[B5,Zi9 c _ s (Ag _)]at main;refine main.mono ?_;rintro e w' ⟨rfl,rfl⟩;obtain⟨t1,t2,t3⟩:=hS.alloc (.cells (Lib.cellsOf ((y8 c s).map bs) (s.count c+1)) (lays221_ren.t 9));have hlen:((y8 c s).map bs).length=s.count c+1:=by rw[List.length_map];exact Ztr c s
 refine⟨_,_,S,C,rfl,⟨rfl,rfl⟩,?_,t1,t2⟩;clear main hcb;generalize (y8 c s).map bs=l at *;generalize hN:s.count c+1=N at *;have hcells:Lib.cellsOf l N=(l.map Value.string).toArray:=by unfold Lib.cellsOf;rw[hlen,Bv];simp
 have hfl:l.flatMap Enc.enc=l.map T:=by
  clear hcells hlen t1 t2
  induction l with
  | nil=>rfl
  | cons x l ih=>simp_all
 rw[hcells]at t1 t2 ⊢;unfold L;rw[hfl];refine .lst1 DY (by unfold j8;omega) (Yu w _) t3 (λ_=>by simp) (λi v hi hv=>?_) (λi p v hp hv=>?_)
 ·rw[AE,AQ,Aj]at hv;obtain⟨x,_,rfl⟩:=Ao.1 hv;rfl
 ·rw[AE,AQ,Aj]at hv;rw[Aj]at hp;obtain⟨x,hx,rfl⟩:=Ao.1 hv;rw[hx]at hp;cases hp;exact .sc _
theorem Ztt(s:List UInt8)(c:UInt8)(hl:s.length<=1048576):Pure prog 137 [T (bs s),T (bs [c])] (L ((y8 c s).map bs)):=by
 have h:=Zts s c hl;refine zr func137 ntmps137 results137 λS nx hd=>?_
 refine D7 ?_;refine D7 ?_;refine zt h ?_;exact D8 hd
open Go Go.Proofs
abbrev wl(ls:List (List (List UInt8))):List (List ByteArray):=ls.map (·.map bs)
def ZaR(o:Option (List (List (List UInt8)))):PV:=match o with
 | none=>.tup [vA,I 2]
 | some ls=>.tup [L (wl ls),I 0]
theorem ZdF(a:ByteArray):jT .neq a a=some (.bool false):=by simp[jT]
theorem ZdG{a b:ByteArray}(h:a≠b):jT .neq a b=some (.bool true):=by
 have h2:¬a.toList=b.toList:=λe=>h (Zdd e)
 simp[jT,h2]
theorem Ztu(t:List UInt8)(hl:t.length<=1048576):Pure prog 101 [T (bs t)] (ZaR (wu t)):=by
 refine zr func101 ntmps101 results101 λS nx hd=>?_
 refine D7 ?_;refine D7 ?_;refine za (qx 4 81 1 rfl λv1=>?_);refine zj (zC (λs:List UInt8 × List (List (List UInt8)) × Nat=>s.1.length<=t.length/\s.2.1.length+s.1.length<=t.length/\wu t=(wu s.1).map (s.2.1++·)) (λ(r,ls,v)=>[(0,T (bs r)),(4,.sl nx v 1 0 ls.length)]) (λ(r,ls,v)=>[.cells v 81 ((wl ls).flatMap Enc.enc)]) (λs=>s.1.length) (t,[],v1) [] ⟨Ag _,by simp,by simp⟩ DZ DZ ?_);rintro⟨r,ls,v1⟩ ⟨hr,hlr,hz⟩;simp only at hr hlr hz ⊢;have hrl:r.length<=1048576:=DY
 by_cases h0:r=[]
 ·subst h0
  repeat apply za
  refine ze [] ZdF ?_;refine zk DZ ?_;refine zx (zX 0 rfl ?_);refine D7 ?_;rw[Zaz]at hz;exact zg (zi hd D0 (by simp[zp,hz,ZaR]))
 ·have hne:bs r≠bs []:=λh=>h0 (Zh0.1 h)
  have hcut:=Ztq r 10 DY;unfold ZdE at hcut
  repeat apply za
  refine ze [] (ZdG hne) ?_;refine zm DZ ?_;refine zh (zj ?_);cases hcw:xH 10 r with
  | none =>
   rw[hcw]at hcut;simp only[]at hcut;refine D7 ?_;refine zt hcut ?_
   repeat apply za
   refine zb ?_;refine zm DZ ?_;refine D7 ?_;exact zg (zi hd D0 (by rw[hz,ZhU h0 hcw];rfl))
  | some p =>
   obtain⟨a,b⟩:=p;rw[hcw]at hcut;simp only[]at hcut;have hlz:=ZaA hcw;obtain⟨hrab,hna⟩:=Xy hcw;have hab:a.length+b.length+1=r.length:=by rw[hrab];simp;omega
   have hspl:=Ztt a 32 DY;have hsl:=ZrI 32 a;have hsw:∀w∈y8 32 a,w.length<=1048576:=λw hw=>by have:=ZrJ 32 a w hw;omega
   obtain⟨ws,hws⟩:∃ws,ws=y8 32 a:=⟨_,rfl⟩;rw[<-hws]at hlz hspl hsl hsw;refine D7 ?_;refine zt hcut ?_
   repeat apply za
   refine zb ?_;refine zk DZ ?_;refine zh (D7 ?_);refine zt hspl ?_
   repeat apply za
   refine zb ?_;refine zj (zC (λk:Nat=>k<=ws.length/\∀w∈ws.take k,ZG w=true) (λk=>[(4,.sl nx v1 1 0 ls.length),(6,T (bs b)),(8,L (ws.map bs)),(23,L (ws.map bs)),(24,I ws.length),(25,I k)]) (λ_=>[.cells v1 81 ((wl ls).flatMap Enc.enc)]) (λk=>ws.length-k) 0 [] DZ DZ DZ ?_);rintro k ⟨hk,hwk⟩;refine D7 ?_;refine za (zv rfl (λhc=>?_) (λhc=>?_))
   ·simp at hc;obtain⟨t',tl,b1,b2,b3,f0⟩:=zF rfl (ws.map bs) k (by simpa using hc);obtain⟨u,hu,rfl⟩:∃u,ws[k]?=some u/\bs u=t':=by rw[Aj]at b1;simpa using b1
    have hkl:k<ws.length:=by simpa using hc
    have hword:=ZrS u (by have:=hsw u (Ab hu);omega);refine zh (za (zj (za (ze [] (zo f0 hkl) ?_))));refine D7 ?_;refine zt hword ?_;cases hwb:ZG u with
    | false =>
     refine zm DZ ?_;refine D7 ?_;have hbad:wu r=none:=ZrL hcw (k:=k) (w:=u) (by rw[<-hws];exact hu) hwb;exact zg (zi hd D0 (by rw[hz,hbad];rfl))
    | true =>
     refine zk DZ ?_;refine zh (zb ?_);exact zq (k+1) [] ⟨hkl,by
      rw[AJ,hu];intro w hw;rw[AB]at hw;rcases hw with hw | hw
      ·exact hwk w hw
      ·obtain rfl:w=u:=by simpa using hw
       exact hwb⟩ DY (by simp[zu k (by omega)]) rfl DZ
   ·simp at hc;obtain rfl:k=ws.length:=DY
    rw[Ai]at hwk;rw[if_pos (AA.2 hwk)]at hlz;refine zx ?_;have hwl:(wl ls).length=ls.length:=DZ
    have htk:((wl ls).flatMap Enc.enc).take ls.length=(wl ls).flatMap Enc.enc:=by rw[<-hwl];exact ZlD _
    refine za (ze [] hwl ?_);refine⟨by omega,?_⟩;refine zb ?_;rw[htk];have hb1:b.length<r.length:=DY
    exact zq (b,ls++[ws],v1+1) [] ⟨AD (DX hb1) hr,by simp;omega,by rw[hz,hlz,Option.map_map];congr 1;funext x;simp⟩ hb1 DZ rfl DZ
open Go Go.Proofs Go.RowKit Go.Shelf
theorem Ztv{C:Ctx}{S:Store}{w:World}{b:UInt8}{v:Value}(h:Rel C S w (U8 b) v):v=.int .u8 (b.toNat:Int):=by cases h;rfl
theorem Ztw(k:Nat)(hk:2<=k):liesAt prog prog.depth 113 (k / prog.cellsOf 113) 0 113 1=true:=by
 have hc:prog.cellsOf 113=2:=D1
 have hl:sameLayout prog prog.depth 113 113=true:=D1
 obtain⟨d,hd⟩:∃d,prog.depth=d+1:=⟨prog.depth-1,by kernel_rfl⟩;have h1:1<=k / 2:=DY
 simp_all[liesAt,rowAt]
theorem Ztx(b k:Nat)(w:World)(h0:w.cell? ⟨b,0,none⟩=some (.pointer none))(hsh:w.shape? b=some (113,k))(hk:2<=k)(hfz:w.frozen? ⟨b,0,none⟩=false):
  Calls prog 98 #[.pointer (some ⟨b,0,none⟩)] w λe w'=>e=.returned (.tuple #[])/\w'=w.setCell ⟨b,0,none⟩ (.pointer (some ⟨b,0,none⟩)):=by
 obtain⟨j,hj,hjs⟩:∃j,prog.info? 113=some j/\j.size=2:=by
  have:(prog.info? 113).map (·.size)=some 2:=D1
  exact Ao.1 this
 go_enter func98,ntmps98
 go_wp2
 rw[Lib.run_to_unsafe w ⟨b,0,none⟩ underlying110 underlying191 hj (by rw[hjs];decide) hsh (by show 0<k;omega)];simp only[Result.andThen];rw[Oper.upon_value]
 go_wp2
 rw[run_callFunc_extern func134 D1 D1 D1 (e:=Extern.AbiNoEscape.same) D1];rw[Lib.run_noEscape];simp only[Result.andThen];rw[Oper.upon_value]
 go_wp2
 rw[Lib.run_from_unsafe w ⟨b,0,none⟩ underlying191 underlying110 hj hsh (Ztw k hk)];simp only[Result.andThen];rw[Oper.upon_value]
 go_wp2
 go_end0
 simp
theorem Ym(S:Store)(o:Nat)(x:Ob)(h:S o=x):S.set o x=S:=by grind[Store.set]
theorem ZdH{vs:Array Value}(h:1=vs.size):∃v,vs=#[v]:=by
 match vs,h with
 | ⟨[v]⟩,_=>simp
theorem Zja{vs:Array Value}(h:2=vs.size):∃u v,vs=#[u,v]:=by
 match vs,h with
 | ⟨[u,v]⟩,_=>simp
theorem ZdI{C:Ctx}{S:Store}{w:World}(hS:Sim C S w){id v e:Nat}{p s:PV}(h:S id=.cells v e [p,s]):∃(b k:Nat) (c:Array Value) (c0 c1:Value),C.loc id=some (b,k)/\w.heap[b]?=some (.cells c e (0,0))/\c.size=k/\2<=k/\c[0]?=some c0/\c[1]?=some c1/\Rel C S w p c0/\Rel C S w s c1 /\
  (∀(i:Nat) (u:Value),i<2->c[i]?=some u->u.oneCell'=true):=by
 rcases hS.cells id v e _ h with ⟨_,hn⟩ | ⟨b,k,c,g1,g2,g3,g4,g5,g6⟩
 ·cases hn
 ·simp only[Ad,Ah]at g4;have e0:c[0]?=some (c[0]' DY):=A5 DY
  grind
theorem Zjb{S:Store}{id v:Nat}{p s:PV}(hS:S id=.cells v 113 [p,s])(hp:p=.sc (.pointer none)\/p=.ptr id v 0):
  Spec prog 98 [.ptr id v 0] S (λ_ S'=>S'=S.set id (.cells v 113 [.ptr id v 0,s])):=by
 refine⟨qm func98 D3 rfl,?_⟩;intro C w vs hC hl hr;obtain⟨u,rfl⟩:=ZdH hl;have hu:=hr 0 _ u rfl rfl;cases hu with
 | ptr h1 h2 h3 =>
  obtain⟨b,k,hloc,rfl⟩:=(h3 v (by rw[hS];rfl)).2 rfl;obtain⟨b',k',c,c0,c1,g1,g2,g3,g4,e0,e1,r0,r1,g5⟩:=ZdI hC hS;rw[hloc]at g1;cases g1;have hcell:w.cell? ⟨b,0,none⟩=some c0:=by simp[World.cell?,g2,e0]
  have hself:Rel C S w (.ptr id v 0) (.pointer (some ⟨b,0,none⟩)):=.ptr h1 h2 h3;rcases hp with rfl | rfl
  ·cases r0;refine(Ztx b k w hcell (by simp_all[World.shape?]) g4 (by simp_all[World.frozen?])).mono ?_;rintro e w' ⟨rfl,rfl⟩;have hh:(w.setCell ⟨b,0,none⟩ (.pointer (some ⟨b,0,none⟩))).heap[b]?=some (.cells (c.setIfInBounds 0 (.pointer (some ⟨b,0,none⟩))) 113 (0,0)):=by
    simp[World.setCell,BG,g2]
   obtain⟨t1,t2⟩:=hC.turn (l:=C.loc id) (ver':=v) (cs':=[.ptr id v 0,s]) hS (Ag _) (λ_=>rfl) (w':=w.setCell ⟨b,0,none⟩ (.pointer (some ⟨b,0,none⟩)))
    (by rw[hloc];exact⟨⟨rfl,rfl,rfl,by simp,λj _ hj=>by grind[World.setCell]⟩,Ag _⟩)
    (.inr ⟨b,k,_,hloc,.inr (by rw[hloc];rfl),hh,by simp[g3],g4,λi u hi hu=>by
      match i,hi with
      | 0,_=>rw[B0 DY]at hu;cases hu;rfl
      | 1,_=>grind,
     λi q u hq hu=>by grind⟩)
   exact⟨.junk,_,_,_,rfl,rfl,.junk _,t1,t2⟩
  ·have hc0:c0=.pointer (some ⟨b,0,none⟩):=by
    cases r0 with
    | ptr i1 i2 i3 =>
     obtain⟨b2,k2,hl2,rfl⟩:=(i3 v (by rw[hS];rfl)).2 rfl
     simp_all
   subst hc0;refine(Any.Builder_copyCheck_used { lays156 with } Builder_Extra_156.toX72 b w hcell).mono ?_;rintro e w' ⟨rfl,rfl⟩;exact⟨.junk,_,_,_,rfl,(Ym S id _ hS).symm,.junk _,hC,.refl _ _ _⟩
theorem Sim.lose{C:Ctx}{S:Store}{w w':World}{id:Nat}(h:Sim C S w)(hne:S id≠.dead)(hg:w.grownBy w' ((C.loc id).map (·.1))/\w.drawn<=w'.drawn):Sim C (S.set id .dead) w'/\Step C S w C (S.set id .dead) w':=by
 have hold:∀o,(S.set id .dead) o≠.dead->o≠id/\(S.set id .dead) o=S o:=by
  intro o ho
  by_cases e:o=id
  ·simp_all
  ·simp_all[q10]
 have hfar:∀i b k,i≠id->S i≠.dead->C.loc i=some (b,k)->some b≠(C.loc id).map (·.1):=by
  intro i b k hi hd hb he;cases ho:C.loc id with
  | none=>simp_all
  | some x =>
   obtain⟨b2,k2⟩:=x;rw[ho]at he;cases he;exact hi (h.dist i id _ _ _ hd hne hb ho)
 have st:Step C S w C (S.set id .dead) w':=by
  refine⟨hg.1.os,⟨hg.1.tape,hg.2⟩,hg.1.output,hg.1.size,Ag _,Ag _,λb hlt hM=>⟨hg.1.block b hlt λe=>?_,?_⟩,λo v1 hv=>?_⟩
  ·cases ho:C.loc id with
   | none=>simp_all
   | some x =>
    obtain⟨b2,k2⟩:=x;rw[ho]at e;cases e;exact hM ⟨id,k2,hne,ho⟩
  ·rintro⟨o,k,ho,hl⟩;obtain⟨e1,e2⟩:=hold o ho;rw[e2]at ho;exact hM ⟨o,k,ho,hl⟩
  ·obtain⟨e1,e2⟩:=hold o (by intro e;rw[e]at hv;cases hv)
   simp_all
 refine⟨⟨λo ho=>?_,λo v hv=>?_,λo o' b k k' h1 h2 h3 h4=>?_,λo v e cs ho=>?_,λo v es ho=>?_⟩,st⟩
 ·obtain⟨e1,e2⟩:=hold o ho;rw[e2]at ho;exact h.lt o ho
 ·obtain⟨e1,e2⟩:=hold o (by intro e;rw[e]at hv;cases hv);rw[e2]at hv;exact h.clk o v hv
 ·obtain⟨e1,e2⟩:=hold o h1;obtain⟨e3,e4⟩:=hold o' h2;rw[e2]at h1;rw[e4]at h2;exact h.dist o o' b k k' h1 h2 h3 h4
 ·obtain⟨e1,e2⟩:=hold o (by rw[ho];simp);rw[e2]at ho;rcases h.cells o v e cs ho with hn | ⟨b,k,c,g1,g2,g3,g4,g5,g6⟩
  ·exact .inl hn
  ·exact .inr ⟨b,k,c,g1,(hg.1.block b (qw g2) (hfar o b k e1 (by rw[ho];simp) g1)).trans g2,g3,g4,g5,λi p u hp hu=>(g6 i p u hp hu).mono st⟩
 ·obtain⟨e1,e2⟩:=hold o (by rw[ho];simp);rw[e2]at ho;obtain⟨b,k,ms,cl,g1,g2,g3,g4⟩:=h.maps o v es ho;exact⟨b,k,ms,cl,g1,(hg.1.block b (qw g2) (hfar o b k e1 (by rw[ho];simp) g1)).trans g2,g3,λi x m he hm=>⟨(g4 i x m he hm).1,(g4 i x m he hm).2.mono st⟩⟩
theorem Zty(b g cap:Nat)(c cur:Array Value)(l:List UInt8)(w:World)(hbk:w.heap[b]?=some (.cells c 113 (0,0)))(h1:c[1]?=some (.slice (some ⟨g,0,none⟩) l.length cap))(h0:l≠[])(hlen:l.length<=140737488355328)
  (hg:w.heap[g]?=some (.cells cur 5 (0,0))) (hcur:l.length<=cur.size) (hcap:l.length<=cap) (hcell:∀(j:Nat) (x:UInt8),l[j]?=some x->cur[j]?=some (.int .u8 (x.toNat:Int))) :
  Calls prog 64 #[.pointer (some ⟨b,0,none⟩)] w λe w'=>e=.returned (.string (bs l))/\w'=w.drew.freeze ⟨g,0,none⟩ l.length:=by
 have hl0:l.length≠0:=by simpa using h0
 have c1:w.drew.cell? ⟨b,1,none⟩=some (.slice (some ⟨g,0,none⟩) l.length cap):=by
  have:w.drew.heap[b]?=some (.cells c 113 (0,0)):=hbk;rw[Lib.cell_of_heap this];exact h1
 have hg':w.drew.heap[g]?=some (.cells cur 5 (0,0)):=hg;have hSD:(Builtin.unsafeSliceData_ #[111] 161 #[.slice (some ⟨g,0,none⟩) l.length cap]).run prog w.drew=.ok (.pointer (some ⟨g,0,none⟩)) w.drew :=
  Lib.run_unsafeSliceData_row _ _ _ _ _ _ DY
 have hUS:(Builtin.unsafeString_ #[161,3] 9 #[.pointer (some ⟨g,0,none⟩),.int .i64 l.length]).run prog w.drew=.ok (.string (bs l)) (w.drew.freeze ⟨g,0,none⟩ l.length):=by
  refine Lib.run_unsafeString_row w.drew 161 3 9 5 underlying161 DZ g cur.size (by simp_all[World.shape?]) l h0 hcur DY ?_;intro j x hx;rw[Addr.add_plain,AQ];simp[World.cell?,hg',hcell j x hx]
 go_enter func64,ntmps64
 go_wp2
 go_region
 all_goals (go_wp2;go_ret;simp)
theorem Ztz{S:Store}{id v ib w0:Nat}{p:PV}(l:List UInt8)(hS:S id=.cells v 113 [p,.sl ib w0 1 0 l.length])(hB:S ib=.cells w0 5 (l.map U8))(h0:l≠[])(hlen:l.length<=140737488355328):
  Spec prog 64 [.ptr id v 0] S (λq S'=>q=T (bs l)/\S'=S.set ib .dead):=by
 refine⟨qm func64 D3 rfl,?_⟩;intro C w vs hC hl hr;obtain⟨u,rfl⟩:=ZdH hl;have hu:=hr 0 _ u rfl rfl;have hl0:l.length≠0:=by simpa using h0
 cases hu with
 | ptr h1 h2 h3 =>
  obtain⟨b,k,hloc,rfl⟩:=(h3 v (by rw[hS];rfl)).2 rfl;obtain⟨b',k',c,c0,c1,g1,g2,g3,g4,e0,e1,r0,r1,g5⟩:=ZdI hC hS;rw[hloc]at g1;cases g1;cases r1 with
  | sl i1 i2 i3 =>
   rcases (i3 w0 (by rw[hB];rfl)).2 rfl with ⟨_,q,_⟩ | ⟨g,kg,ad,cap,hlg,rfl,hq0,hq1⟩
   ·omega
   obtain⟨rfl,hq⟩:=hq0 rfl;obtain⟨a1,cp,e2,c3,_⟩:=i1;cases e2;rcases hC.cells ib w0 _ _ hB with ⟨hn,_⟩ | ⟨b2,k2,cur,f1,f2,f3,f4,f5,f6⟩
   ·simp_all
   rw[hlg]at f1;cases f1;rw[List.length_map]at f4;have hcell:∀(j:Nat) (x:UInt8),l[j]?=some x->cur[j]?=some (.int .u8 (x.toNat:Int)):=by
    intro j x hx;have hj:=(Ac.1 hx).1;have hc:=A5 (xs:=cur) (i:=j) DY;rw[hc,Ztv (f6 j (U8 x) _ D5 hc)]
   refine(Zty b g cap c cur l w g2 e1 h0 hlen f2 DY c3 hcell).mono ?_;rintro e w' ⟨rfl,rfl⟩;obtain⟨t1,t2⟩:=hC.lose (id:=ib) (w':=w.drew.freeze ⟨g,0,none⟩ l.length) (by rw[hB];simp) (by
    rw[hlg];unfold World.freeze;rw[if_neg hl0];exact⟨⟨rfl,rfl,rfl,by simp,λj _ hj=>by
     rw[BG,if_neg (λe=>hj (by rw[<-e];rfl))];rfl⟩,CN _⟩)
   exact⟨_,_,_,_,rfl,⟨rfl,rfl⟩,.sc _,t1,t2⟩
open Go Go.Proofs Go.RowKit Go.Shelf
theorem ZtA{w:Wd}{i:Nat}{c:UInt8}(h:w[i]?=some c)(h1:¬(c.toNat=48\/c.toNat=49)):wT w=false:=by
 unfold wT;have:w.all (λc=>decide (c.toNat=48\/c.toNat=49))=false:=by
  rw[BY];exact⟨c,Ab h,by simpa using h1⟩
 rw[this,Dn]
theorem ZtB{w:Wd}{i:Nat}{c:UInt8}(h:w[i]?=some c):xT w (i+1)=if c=49 then qK (xT w i) i else xT w i:=by
 have:w.getD i 0=c:=by rw[Aa,h];rfl
 show (if w.getD i 0=49 then qK (xT w i) i else xT w i)=_
 rw[this]
def vY(w:Wd):Nat × Int:=if wT w=true then if 64<w.length then (0,3) else (xT w w.length,0) else (0,2)
theorem ZtC(n d:Nat)(hn:n<2 ^ 64)(w:World):Calls prog 226 #[.int .u64 n,.int .i64 d] w λe w'=>e=.returned (.int .u64 (qK n d))/\w'=w:=by
 go_enter func226,ntmps226
 by_cases h:(d:Int)<64
 ·have h3:=Zhg d DY;have h4:bits BinOp.or IntKind.u64 (n:Int) (2 ^ d)=((n ||| 2 ^ d:Nat):Int):=by
   have:=bits_or_u64_nat n (2 ^ d) DY (by have:(2:Nat) ^ d<2 ^ 64:=CB (by decide) (by omega);omega);simpa using this
  have h5:qK n d=n ||| 2 ^ d:=by unfold qK;rw[if_pos ⟨by omega,h⟩];rfl
  go_wp2
  go_ret
  exact⟨by show Ending.returned (.int .u64 ((n ||| 2 ^ d:Nat):Int))=_;rw[h5],rfl⟩
 ·have h5:qK n d=n:=by unfold qK;rw[if_neg DY]
  go_wp2
  go_ret
  exact⟨rfl,rfl⟩
theorem ZtD(s:Wd)(hl:s.length<=1048576)(w:World):Calls prog 191 #[.string (bs s)] w λe w'=>e=.returned (.tuple #[.int .u64 (vY s).1,.int .i64 (vY s).2])/\∃i,w'=w.iter (bs s) i:=by
 have hsz:=vw s
 go_enter func191,ntmps191
 go_wp2
 go_loopg [4,5] s.length (λg s4 s5 wx=>∃i:Nat,i+g=s.length/\s4=.int .u64 (xT s i)/\s5=.int .i64 i/\wx=w.iter (bs s) i/\∀c∈s.take i,c.toNat=48\/c.toNat=49)
 case atStart=>exact⟨0,by omega,rfl,rfl,rfl,by simp⟩
 case round =>
  obtain⟨i,hig,rfl,rfl,rfl,hno'⟩:=hrel;have hno:Aside (∀c∈s.take i,c.toNat=48\/c.toNat=49):=hno';clear hno';cases gk with
  | zero =>
   obtain rfl:i=s.length:=DY
   have hnx:=λty=>run_next_end (P:=prog) w (bs s) s.length ty (by rw[hsz];omega)
   have hsg:s≠[]->wT s=true:=λh0=>by
    unfold wT;rw[decide_eq_true h0,Dv,AA];have h9:=hno.out;rw[Ai]at h9;exact λc hc=>decide_eq_true (h9 c hc)
   by_cases h0:s=[]
   ·subst h0;clear hsg;simp only[Ah]at hnx
    go_wp2
    go_ret2
    exact⟨rfl,_,rfl⟩
   ·have hs1:=hsg h0;clear hsg;have hne:¬(s.length:Int)=0:=by intro h;exact h0 (Av DY)
    rcases Bi 64 s.length with h64 | h64
    ·have h64':(64:Int)<s.length:=DY
     have hsp:vY s=(0,3):=by unfold vY;rw[if_pos hs1,if_pos h64]
     go_wp2
     go_ret2
     exact⟨by rw[hsp];rfl,_,rfl⟩
    ·have h64':¬(64:Int)<s.length:=DY
     have hsp:vY s=(xT s s.length,0):=by unfold vY;rw[if_pos hs1,if_neg DY]
     go_wp2
     go_ret2
     exact⟨rfl,_,rfl⟩
  | succ g =>
   have hi:i<s.length:=DY
   obtain⟨x,hx⟩:∃x:UInt8,s[i]?=some x:=⟨_,Ae hi⟩;have hb:i<(bs s).size:=DY
   have hxb:(bs s)[i]'hb=x:=by
    have:=Ac.1 hx;exact this.2
   have Hx:Aside (s[i]?=some x):=hx;have hset:=ZtB hx;clear hx;have hlts:=ZaP s i
   by_cases q0:x.toNat=48
   ·have hnx:=λty=>run_next_ascii (P:=prog) w (bs s) i ty hb (by rw[hxb,q0];decide)
    rw[hxb,q0]at hnx;have hne:¬x=49:=by rintro rfl;exact absurd q0 D4
    rw[if_neg hne]at hset
    go_wp2
    go_roundg g
    case measure=>omega
    case rel =>
     refine⟨i+1,by omega,by rw[hset],by simp,rfl,?_⟩;rw[AJ,Hx.out];intro c hc;rw[AB]at hc;rcases hc with hc | hc
     ·exact hno.out c hc
     ·obtain rfl:c=x:=by simpa using hc
      exact .inl q0
   ·by_cases q1:x.toNat=49
    ·have hx1:x=49:=UInt8.toNat_inj.1 q1;have hnx:=λty=>run_next_ascii (P:=prog) w (bs s) i ty hb (by rw[hxb,q1];decide)
     rw[hxb,q1]at hnx;rw[if_pos hx1]at hset;have hww:=ZtC (xT s i) i hlts
     go_wp2_with fail
     refine(hww _).mono ?_;rintro _ _ ⟨rfl,rfl⟩;rw[<-hset];clear hww
     go_wp2
     go_roundg g
     case measure=>omega
     case rel =>
      refine⟨i+1,by omega,by rw[hset],by simp,rfl,?_⟩;rw[AJ,Hx.out];intro c hc;rw[AB]at hc;rcases hc with hc | hc
      ·exact hno.out c hc
      ·obtain rfl:c=x:=by simpa using hc
       exact .inr q1
    ·have hsp:vY s=(0,2):=by unfold vY;rw[if_neg (by rw[ZtA Hx.out (λh=>h.elim q0 q1)];simp)]
     have hnx:=λty=>run_next_any (P:=prog) w (bs s) i ty hb
     have hdec:(Utf8.decode (bs s) i).1≠48/\(Utf8.decode (bs s) i).1≠49:=by
      by_cases h128:x.toNat<128
      ·rw[decode_ascii (bs s) i hb (by rw[hxb];exact h128),hxb];exact⟨q0,q1⟩
      ·have:=(decode_high (bs s) i hb (by rw[hxb];omega)).1;omega
     obtain⟨r,hr⟩:∃r,r=Utf8.decode (bs s) i:=⟨_,rfl⟩;rw[<-hr]at hnx hdec;have q2:¬(r.1:Int)=48:=by have:=hdec.1;omega
     have q3:¬(r.1:Int)=49:=by have:=hdec.2;omega
     clear hr hdec hset
     go_wp2
     go_ret2
     exact⟨by rw[hsp];rfl,_,rfl⟩
theorem ZtE(s:Wd)(hl:s.length<=1048576):Pure prog 191 [T (bs s)] (.tup [U (vY s).1,I (vY s).2]):=by
 intro S;refine⟨ZlZ,λC w us hS hl' hr=>?_⟩;obtain⟨u0,rfl⟩:=ZdH hl';have r0:=hr 0 _ u0 rfl rfl;cases r0;refine(ZtD s hl w).mono ?_;rintro _ _ ⟨rfl,i,rfl⟩;obtain⟨t1,t2,_⟩:=hS.alloc (.stringIter (bs s) i);refine⟨_,_,S,C,rfl,⟨rfl,rfl⟩,.tup rfl λj c v h1 h2=>?_,t1,t2⟩
 match j,h1,h2 with
 | 0,h1,h2=>cases h1;cases h2;exact .sc _
 | 1,h1,h2=>cases h1;cases h2;exact .sc _
open Go Go.Proofs Go.RowKit Go.Shelf
theorem ZtF(b n:Nat)(c:Array Value)(w:World)(hbk:w.heap[b]?=some (.cells c 113 (0,0)))(h1:c[1]?=some (.slice none 0 0))(hn:n<=281474976710656):
  Calls prog 188 #[.pointer (some ⟨b,0,none⟩),.int .i64 n] w λe w'=>e=.returned (.tuple #[])/\∃cs:Array Value,(n<=maxLen->cs.size<=maxLen)/\w'=((w.alloc (.cells cs 5)).setCell ⟨b,1,none⟩ (.slice (some ⟨w.heap.size,0,none⟩) 0 cs.size)).drew.drew.drew:=by
 obtain⟨cs,hrun,hle,hmax⟩:=Lib.run_makeNoZero (P:=prog) w.drew #[3] 111 5 underlying111 n hn;have hw:IntKind.i64.wrap (n:Int)=n:=by
  rw[AG];omega
 have hcall:(callFunc 221 #[.int .i64 (IntKind.i64.wrap (n:Int))]).run prog w.drew=.ok (.value (.slice (some ⟨w.drew.heap.size,0,none⟩) n cs.size)) (w.drew.drew.drew.alloc (.cells cs 5)):=by
  rw[hw,run_callFunc_extern func221 D1 D1 D1 (e:=Extern.BytealgMakeNoZero.makeNoZero #[3] #[111]) D1,hrun];rfl
 have hlt:b<w.heap.size:=qw hbk;have c1:w.drew.cell? ⟨b,1,none⟩=some (.slice none 0 0):=by
  have:w.drew.heap[b]?=some (.cells c 113 (0,0)):=hbk;rw[Lib.cell_of_heap this];exact h1
 have c2:(w.alloc (.cells cs 5)).cell? ⟨b,1,none⟩=some (.slice none 0 0):=by
  rw[Lib.cell_of_heap ((Lib.alloc_old w _ b hlt).trans hbk)];exact h1
 have f2:(w.alloc (.cells cs 5)).frozen? ⟨b,1,none⟩=false:=Lib.frozen_of_heap ((Lib.alloc_old w _ b hlt).trans hbk) 1;have hcopy:∀W:World,(Builtin.copy_ #[111,111] 3 #[.slice (some ⟨w.heap.size,0,none⟩) 0 cs.size,.slice none 0 0]).run prog W=.ok (goInt 0) W :=
  λW=>run_copy_none W 111 111 3 5 _ _ 0 cs.size 0 0 underlying111 D1 rfl
 clear hw hlt
 go_enter func188,ntmps188
 go_wp2
 go_region
 all_goals (go_wp2;go_end0;exact⟨rfl,cs,hmax,rfl⟩)
theorem ZtG{S:Store}{id v nx:Nat}{p:PV}(n:Nat)(hn:n<=140737488355328)(hS:S id=.cells v 113 [p,.sc (.slice none 0 0)])(hd:S nx=.dead):
  Spec prog 188 [.ptr id v 0,I n] S (λ_ S'=>∃w0,S'=(S.set nx (.cells w0 5 [])).set id (.cells v 113 [p,.sl nx w0 1 0 0])):=by
 refine⟨qm func188 D3 rfl,?_⟩;intro C w vs hC hl hr;obtain⟨u,u2,rfl⟩:=Zja hl;have hu:=hr 0 _ u rfl rfl;have hu2:=hr 1 _ u2 rfl rfl;cases hu2;cases hu with
 | ptr h1 h2 h3 =>
  obtain⟨b,k,hloc,rfl⟩:=(h3 v (by rw[hS];rfl)).2 rfl;obtain⟨b',k',c,c0,c1,g1,g2,g3,g4,e0,e1,r0,r1,g5⟩:=ZdI hC hS;rw[hloc]at g1;cases g1;cases r1;refine(ZtF b n c w g2 e1 DY).mono ?_;rintro e w' ⟨rfl,cs,hmax,rfl⟩;have hlt:b<w.heap.size:=qw g2;have hne:id≠nx:=by rintro rfl;rw[hS]at hd;cases hd
  obtain⟨a1,a2⟩:=hC.object' (o:=nx) (ver:=C.clock) ⟨hd,.inr (Ag _)⟩ 5 cs [] (Cr _) (λi u hi=>absurd hi (Nat.not_lt_zero _)) (λi q u hq=>by simp at hq);have hS1:(S.set nx (.cells C.clock 5 [])) id=.cells v 113 [p,.sc (.slice none 0 0)]:=(q10 _ _ _ _ hne).trans hS;have hloc1:(C.put nx C.clock (some (w.heap.size,cs.size))).loc id=some (b,k):=by simp[Ctx.put,hne,hloc]
  have hg2:(w.alloc (.cells cs 5)).heap[b]?=some (.cells c 113 (0,0)):=(uX w _ b hlt).trans g2;have hsl:Rel (C.put nx C.clock (some (w.heap.size,cs.size))) (S.set nx (.cells C.clock 5 [])) (w.alloc (.cells cs 5)) (.sl nx C.clock 1 0 0) (.slice (some ⟨w.heap.size,0,none⟩) 0 cs.size):=by
   refine .sl ⟨_,_,rfl,Cr _,Cr _,hmax (by unfold maxLen;omega),λh=>absurd rfl h⟩ ⟨by simp only[Ctx.put];omega,by simp only[Ctx.put];omega⟩ λv0 hv0=>?_
   rw[q11]at hv0;cases hv0;exact⟨Ag _,λ_=>.inr ⟨w.heap.size,cs.size,_,_,by simp[Ctx.put],rfl,λ_=>⟨rfl,B7 _⟩,λ_=>rfl⟩⟩
  have hh:((w.alloc (.cells cs 5)).setCell ⟨b,1,none⟩ (.slice (some ⟨w.heap.size,0,none⟩) 0 cs.size)).heap[b]?=some (.cells (c.setIfInBounds 1 (.slice (some ⟨w.heap.size,0,none⟩) 0 cs.size)) 113 (0,0)):=by
   simp only[World.setCell,BG,if_true,hg2,A3];rfl
  obtain⟨t1,t2⟩:=a1.turn (l:=(C.put nx C.clock (some (w.heap.size,cs.size))).loc id) (ver':=v) (cs':=[p,.sl nx C.clock 1 0 0]) hS1 (Ag _) (λ_=>rfl) (w':=(w.alloc (.cells cs 5)).setCell ⟨b,1,none⟩ (.slice (some ⟨w.heap.size,0,none⟩) 0 cs.size))
   (by rw[hloc1];exact⟨⟨rfl,rfl,rfl,by simp[World.setCell],λj _ hj=>by
      show ((w.alloc (.cells cs 5)).heap.modify b _)[j]?=_
      rw[BG,if_neg (λe=>hj (by rw[<-e];rfl))]⟩,Ag _⟩)
   (.inr ⟨b,k,_,hloc1,.inr (by rw[hloc1];rfl),hh,by simp[g3],g4,λi u hi hu=>by
     match i,hi with
     | 0,_=>rw[CU DY]at hu;exact g5 0 u DY hu
     | 1,_=>rw[B0 DY]at hu;cases hu;rfl,
    λi q u hq hu=>by
     match i,hq with
     | 0,hq=>cases hq;rw[CU DY,e0]at hu;cases hu;exact r0.mono a2
     | 1,hq=>cases hq;rw[B0 DY]at hu;cases hu;exact hsl⟩)
  obtain⟨d1,d2⟩:=t1.drew;obtain⟨d3,d4⟩:=d1.drew;obtain⟨d5,d6⟩:=d3.drew;exact⟨.junk,_,_,_,rfl,⟨_,rfl⟩,.junk _,d5,(((a2.trans t2).trans d2).trans d4).trans d6⟩
theorem ZtH{P:Program}{r:Rd}{n:Nat}{F:Nat->PV}{S:Store}{o:Oper}{x:Operand}{t e:TypeId}{K:PV->Store->Prop}(ho:o.op=.call { callee:=.builtin .cap,args:=#[x],argTypes:=#[t] })(ht:P.underlying t=some (.slice e))(hx:ev F x=.sc (.slice none 0 0))(hK:K (I 0) S):PO P r n o F S K:=by
 intro G hG C w a N st next Q' hnext;have e1:=st.ev x;rw[(hG x (by simp[ho,Op.operands,Call.operands])).trans hx]at e1;have hnd:∀c,o.op≠.defer c:=by intro c hc;rw[ho]at hc;cases hc
 generalize hv:a.eval x=v at e1;cases e1;have hrun:(execOp a.eval o).run P w=.ok (.value (.int .i64 0)) w:=by
  unfold execOp;simp[ho,resolve,invoke,builtin,hv,Builtin.cap_,goInt,run_underlying ht]
 exact qj hnd hrun (hnext _ _ _ _ _ hK (.sc _) st.sim (Step.refl _ _ _))
open Go Go.Proofs
theorem qN{S:Store}{nx id:Nat}{o:Ob}(hd:zS nx S)(h:S id=o)(hne:o≠.dead):id<nx:=by
 rcases Bi id nx with q | q
 ·exact q
 ·rw[hd id q]at h;exact absurd h.symm hne
theorem qG{S:Store}{nx id:Nat}(hd:zS nx S)(hlt:id<nx)(o:Ob):zS nx (S.set id o):=λi hi=>by rw[q10 _ _ _ _ DY];exact hd i hi
theorem ZtI(l:List UInt8):((bs l).data.toList.map λb=>(.sc (.int .u8 (b.toNat:Int)):PV))=l.map U8:=rfl
abbrev XI(id v ib w n:Nat):List PV:=[.ptr id v 0,.sl ib w 1 0 n]
theorem ZtJ{S:Store}{id v ib w0:Nat}{p:PV}(l m:List UInt8)(hS:S id=.cells v 113 [p,.sl ib w0 1 0 l.length])(hp:p=.sc (.pointer none)\/p=.ptr id v 0)(hB:S ib=.cells w0 5 (l.map U8))(hlen:l.length+m.length<=140737488355328):
  Spec prog 61 [.ptr id v 0,T (bs m)] S (λq S'=>q=.tup [I m.length,.sc .nilIface]/\S'=(S.set ib (.cells (w0+1) 5 ((l++m).map U8))).set id (.cells v 113 (XI id v ib (w0+1) (l++m).length))):=by
 have hne:id≠ib:=by rintro rfl;rw[hS]at hB;cases hB
 have hsz:=vw m;have hcc:=λS (h:S id=_)=>Zjb (S:=S) (id:=id) (v:=v) (p:=p) (s:=.sl ib w0 1 0 l.length) h hp
 refine yn func61 ntmps61 results61 λnx hd=>?_
 have hlt:id<nx:=qN hd hS DZ;have hlt2:ib<nx:=qN hd hB DZ;refine D7 ?_;refine D7 ?_;refine λhsuf=>((hcc _ ((zB hlt).trans hS)).mono ?_).v
 rintro _ _ rfl;refine⟨_,_,qc _ hlt,zL hsuf ?_⟩;obtain⟨A,hA⟩:∃A,A=Ob.cells v 113 [.ptr id v 0,.sl ib w0 1 0 l.length]:=⟨_,rfl⟩;have x1:∀obs,ext (S.set id A) nx obs id=.cells v 113 [.ptr id v 0,.sl ib w0 1 0 l.length]:=λobs=>by rw[zB hlt,q11,hA]
 have x2:∀obs,ext (S.set id A) nx obs ib=.cells w0 5 (l.map U8):=λobs=>(zB hlt2).trans ((q10 _ _ _ _ (Ne.symm hne)).trans hB)
 have x3:∀B obs,ext ((S.set id A).set ib B) nx obs id=.cells v 113 [.ptr id v 0,.sl ib w0 1 0 l.length]:=λB obs=>by rw[zB hlt,q10 _ _ _ _ hne,q11,hA]
 rw[<-hA];have g1:¬nx<=id:=DY
 have g2:¬nx<=ib:=DY
 have g3:m.length<=9223372036854775807:=DY
 have htk:(l.map U8).take l.length=l.map U8:=Af DZ;refine za (ze [] (yd x1 x2 x3 hsz g1 (zD g2 g3 ZtI)) ?_);refine⟨by omega,?_⟩;refine za (ze [] hsz ?_);have hfin:((S.set id A).set ib (.cells (w0+1) 5 (l.map U8++m.map U8))).set id (.cells v 113 [.ptr id v 0,.sl ib (w0+1) 1 0 (l.length+m.length)])=(S.set ib (.cells (w0+1) 5 ((l++m).map U8))).set id (.cells v 113 (XI id v ib (w0+1) (l++m).length)):=by
  rw[List.map_append,Ar,<-Store.set_comm S ib id _ _ (hne),Store.set_set]
 refine zg ⟨_,_,by simp;rfl,⟨by simp[zp],by rw[htk];exact hfin⟩,zO ?_⟩;exact qG (qG (qG hd hlt _) hlt2 _) hlt _
theorem ZtK{S:Store}{id v nx:Nat}(n:Nat)(h0:0<n)(hn:n<=140737488355328)(hS:S id=.cells v 113 [.sc (.pointer none),.sc (.slice none 0 0)])(hd:zS nx S):
  Spec prog 133 [.ptr id v 0,I n] S (λ_ S'=>∃w0,S'=(S.set nx (.cells w0 5 [])).set id (.cells v 113 (XI id v nx w0 0))):=by
 have hlt:id<nx:=qN hd hS DZ;have hcc:=λS (h:S id=_)=>Zjb (S:=S) (id:=id) (v:=v) (p:=.sc (.pointer none)) (s:=.sc (.slice none 0 0)) h (.inl rfl)
 refine u6 hd func133 ntmps133 results133 ?_;refine D7 ?_;refine λhsuf=>((hcc _ ((zB hlt).trans hS)).mono ?_).v
 rintro _ _ rfl;refine⟨_,_,qc _ hlt,zL hsuf ?_⟩;obtain⟨A,hA⟩:∃A,A=Ob.cells v 113 [.ptr id v 0,.sc (.slice none 0 0)]:=⟨_,rfl⟩;have x1:∀obs,ext (S.set id A) nx obs id=.cells v 113 [.ptr id v 0,.sc (.slice none 0 0)]:=λobs=>by rw[zB hlt,q11,hA]
 rw[<-hA];have g1:¬nx<=id:=DY
 repeat apply za
 refine zb ?_;refine zk DZ ?_;refine zh ?_;have hgr:=λS (h:S id=_) (hd:S nx=.dead)=>ZtG (S:=S) (id:=id) (v:=v) (nx:=nx) (p:=.ptr id v 0) n hn h hd
 refine za (zz (some [id]) (Row.pures [0,1,2,3,5,6,7,8,9,11] (.alt 4 (Row.pures [10,12] .done) .stop)) mixed (zo x1 g1) ?_);refine⟨by rfl,(ZtH rfl underlying111 DZ ?_)⟩;refine⟨by simp[yM],jD trivial ?_⟩;refine zm D2 ?_;refine zb ?_;refine λhsuf=>((hgr _ (x1 []) (uZ (nx:=nx) (obs:=[]))).mono ?_).v
 rintro _ _ ⟨w0,rfl⟩;have hne:id≠nx:=DY
 have e1:((ext (S.set id A) nx []).set nx (.cells w0 5 [])).set id (.cells v 113 [.ptr id v 0,.sl nx w0 1 0 0])=ext (S.set id (.cells v 113 [.ptr id v 0,.sl nx w0 1 0 0])) nx [.cells w0 5 []]:=by
  have:=qV (S:=S.set id A) (nx:=nx) (obs:=[]) (.cells w0 5 []);simp only[Ah,BF,AK]at this;rw[this,qc _ hlt,Store.set_set]
 refine⟨_,_,e1,zL hsuf ?_⟩;have e2:(S.set nx (.cells w0 5 [])).set id (.cells v 113 (XI id v nx w0 0))=ext (S.set id (.cells v 113 [.ptr id v 0,.sl nx w0 1 0 0])) nx [.cells w0 5 []]:=by
  have:=qV (S:=S) (nx:=nx) (obs:=[]) (.cells w0 5 []);simp only[Ah,BF,AK,qI hd]at this;rw[this,qc _ hlt]
 exact⟨_,_,rfl,⟨w0,e2.symm⟩,λo=>.inl rfl⟩
theorem WU:∀ws:List (List UInt8),(yi ws).length=(ws.map List.length).sum+(ws.length-1)
 | []=>rfl
 | [w]=>by simp[yi]
 | w :: v :: ws=>by
  have:=WU (v :: ws);rw[Xx,Ar,Ad,this];simp only[Az,BP,Ad];omega
theorem Zjc(l:List Nat)(k:Nat):(l.take k).sum<=l.sum:=by
 conv=>rhs;rw[<-List.take_append_drop k l]
 rw[Dc];omega
def ZM(ws:List (List UInt8))(k:Nat):Nat:=((ws.take k).map List.length).sum
theorem Zjd(ws:List (List UInt8))(k:Nat):ZM ws k<=(ws.map List.length).sum:=by unfold ZM;rw[List.map_take];exact Zjc _ k
theorem ZtL{ws:List (List UInt8)}{k:Nat}{u:List UInt8}(h:ws[k]?=some u):ZM ws (k+1)=ZM ws k+u.length:=by unfold ZM;rw[AJ,h];simp
theorem wr2{S:Store}{nx:Nat}{A B A2 B2:Ob}:((ext S nx [A,B]).set (nx+1) B2).set nx A2=ext S nx [A2,B2]:=by
 rw[yl _ DY DZ,yl _ DY DZ];simp
theorem ZdK:∀(w:List UInt8) (rs:List (List UInt8)),yi (w :: rs)=w++(rs.map λu=>32 :: u).flatten
 | w,[]=>by simp[yi]
 | w,v :: rs=>by rw[Xx,ZdK v rs];simp
def vZ(w0:List UInt8)(rs:List (List UInt8))(k:Nat):List UInt8:=w0++((rs.take k).map λu=>32 :: u).flatten
theorem ZtM(w0:List UInt8)(rs:List (List UInt8)):vZ w0 rs 0=w0:=by simp[vZ]
theorem ZtN{w0:List UInt8}{rs:List (List UInt8)}{k:Nat}{u:List UInt8}(h:rs[k]?=some u):vZ w0 rs (k+1)=(vZ w0 rs k++[32])++u:=by unfold vZ;rw[AJ,h];simp
theorem ZtO(w0:List UInt8)(rs:List (List UInt8)):vZ w0 rs rs.length=yi (w0 :: rs):=by unfold vZ;rw[Ai,ZdK]
theorem ZtP(w0:List UInt8)(rs:List (List UInt8))(k:Nat):(vZ w0 rs k).length<=(yi (w0 :: rs)).length:=by
 rw[ZdK];unfold vZ;simp;exact Zjc _ k
theorem ZtQ(ws:List (List UInt8))(hl:ws.length<=1048576)(hw:(yi ws).length<=140737488355328):Pure prog 97 [L (ws.map bs),T (bs [32])] (T (bs (yi ws))):=by
 match ws,hl,hw with
 | [],_,_ =>
  refine zr func97 ntmps97 results97 λS nx hd=>?_
  refine D7 ?_
  repeat apply za
  refine zb ?_;refine zj (D7 ?_);refine zm DZ ?_;refine D7 ?_;exact D8 hd
 | [w],_,_ =>
  refine zr func97 ntmps97 results97 λS nx hd=>?_
  refine D7 ?_
  repeat apply za
  refine zb ?_;refine zj (D7 ?_);refine zk DZ ?_;refine D7 ?_;refine zm DZ ?_;refine D7 ?_;exact D8 hd
 | w0 :: v0 :: r0,hl,hw =>
 obtain⟨rs,hrs⟩:∃rs,rs=v0 :: r0:=⟨_,rfl⟩;obtain⟨ws,hws⟩:∃ws,ws=w0 :: rs:=⟨_,rfl⟩;obtain⟨mm,hm⟩:∃mm,ws.length=mm+1:=⟨rs.length,by rw[hws];rfl⟩;have hmm:1<=mm:=by rw[hws,hrs]at hm;simp at hm;omega
 have hrm:rs.length=mm:=by rw[hws]at hm;simpa using hm
 rw[<-hrs,<-hws]at hl hw ⊢;have hjl:=WU ws;rw[hm]at hl hjl;have hs1:(bs [32]).size=1:=rfl;have w1:IntKind.i64.wrap ((ws.length:Int)-1)=(mm:Int):=by rw[AG];omega
 have q0:¬(mm:Int)=0:=DY
 have q0n:¬mm=0:=DY
 have q1:¬IntKind.i64.wrap ((9223372036854775807:Int).tdiv mm)<=1:=by
  rw[Cj DY];have h1:(9223372036854775807:Int) / mm<=9223372036854775807:=Int.ediv_le_self _ DY;have h2:2<=(9223372036854775807:Int) / mm:=(Int.le_ediv_iff_mul_le DY).2 DY;rw[AG];omega
 have w2:IntKind.i64.wrap (mm:Int)=mm:=wr _ DY DY;have hnil:¬ws=[]:=by intro h;rw[h]at hm;simp at hm
 clear hrs;refine zr func97 ntmps97 results97 λS nx hd=>?_
 refine D7 ?_
 repeat apply za
 refine zb ?_;refine zj (D7 ?_);refine zk (by simp[hnil]) ?_;refine D7 ?_;refine zk D2 ?_;refine zh (D7 ?_)
 repeat apply za
 refine ze [] hs1 ?_;refine zm DZ ?_
 repeat apply za
 refine ze [] (yF hs1 w1 q0 q0n q1) ?_;refine zk DZ ?_;refine zh (ze [] (zD hs1 w1 w2) ?_)
 repeat apply za
 refine zb ?_;refine zj (zC (λk:Nat=>k<=ws.length) (λk=>[(0,L (ws.map bs)),(1,T (bs [32])),(5,I ((mm+ZM ws k:Nat):Int)),(39,L (ws.map bs)),(40,I ws.length),(41,I k)]) (λ_=>[]) (λk=>ws.length-k) 0 [] DZ (by simp[ZM]) DZ ?_)
 ·rintro k hk;have hsk:=Zjd ws k;refine D7 ?_;refine za (zv rfl (λhc=>?_) (λhc=>?_))
  ·simp at hc;obtain⟨t,tl,b1,b2,b3,f0⟩:=zF rfl (ws.map bs) k (by simpa using hc);obtain⟨u,hu,rfl⟩:∃u,ws[k]?=some u/\bs u=t:=by rw[Aj]at b1;simpa using b1
   have hsk1:=Zjd ws (k+1);have hsum:=ZtL hu;have husz:=vw u;rw[hsum]at hsk1;generalize ZM ws k=c0 at *;have hkl:k<ws.length:=by simpa using hc
   have hbd:mm+c0+u.length<=140737488355328:=DY
   have v1:IntKind.i64.wrap (9223372036854775807-((mm:Int)+c0))=9223372036854775807-((mm:Int)+c0):=by rw[AG];omega
   have v2:¬(9223372036854775807-((mm:Int)+c0))<u.length:=DY
   have v3:IntKind.i64.wrap ((mm:Int)+c0+u.length)=(mm:Int)+c0+u.length:=by rw[AG];omega
   refine zh (za (zj (za (ze [] (zo f0 hkl) ?_))))
   repeat apply za
   refine ze [] (zD husz v1 v2) ?_;refine zk DZ ?_;refine zh (ze [] (zo husz v3) ?_);refine zb ?_;exact zq (k+1) [] hkl DY (by simp[zu k (by omega),hsum];try omega) rfl DZ
  ·simp at hc;obtain rfl:k=ws.length:=DY
   refine zx ?_;have hls:ZM ws ws.length=(ws.map List.length).sum:=by unfold ZM;rw[Ai]
   obtain⟨c,hcd⟩:∃c,c=mm+(ws.map List.length).sum:=⟨_,rfl⟩;have hci:((mm:Int)+(ZM ws ws.length:Int))=(c:Int):=by rw[hls,hcd];rfl
   have hc0:0<c:=DY
   have hcn:c<=140737488355328:=DY
   have hgs:=λ(v:Nat) S (h:S nx=.cells v 113 [.sc (.pointer none),.sc (.slice none 0 0)]) (hd:zS (nx+1) S)=>ZtK (S:=S) (id:=nx) (v:=v) (nx:=nx+1) c hc0 hcn h hd
   refine za (ze [] hci ?_);intros;rename_i v;have g1:¬nx+1<=nx:=DY
   have hdd:∀A,zS (nx+1) (ext S nx [A]):=λA=>jU (obs:=[A])
   refine D7 ?_;refine λhsuf=>((hgs v _ (by rw[Zq];rfl) (hdd _)).mono ?_).v
   rintro _ _ ⟨wx,rfl⟩;have e1:∀A B A',((ext S nx [A]).set (nx+1) B).set nx A'=ext S nx [A',B]:=λA B A'=>by
    have:=qV (S:=S) (nx:=nx) (obs:=[A]) B;simp only[Br,DH]at this;rw[this,yl _ DY DZ];simp
   refine⟨_,_,e1 _ _ _,zL hsuf ?_⟩;obtain⟨t,tl,b1,b2,b3,f0⟩:=zF rfl (ws.map bs) 0 D2;obtain rfl:bs w0=t:=by rw[hws]at b1;simpa using b1
   have hwl:0<ws.length:=DY
   have hwa:∀(S:Store) (wx:Nat) (l m:List UInt8),(yi ws).length<=140737488355328->l.length+m.length<=(yi ws).length->S nx=.cells v 113 (XI nx v (nx+1) wx l.length)->S (nx+1)=.cells wx 5 (l.map U8)->_:=λS wx l m hw hl h1 h2=>ZtJ (S:=S) (id:=nx) (v:=v) (ib:=nx+1) (w0:=wx) l m h1 (.inr rfl) h2 DY
   have hcl:∀k,(vZ w0 rs k).length<=(yi ws).length:=λk=>by rw[hws];exact ZtP w0 rs k
   have hc0':=ZtM w0 rs;have hcl0:=hcl 0;rw[hc0']at hcl0;refine za (ze [] (zo f0 hwl) ?_);refine λhsuf=>((hwa _ wx [] w0 hw (by simpa using hcl0) (by rw[Zq];rfl) (by rw[zZ];rfl)).mono ?_).v
   rintro _ _ ⟨rfl,rfl⟩;refine⟨_,_,wr2,zL hsuf ?_⟩;have hwl1:1<=ws.length:=hwl;have ht1:ws.length-1=rs.length:=by rw[hws];rfl
   have htl:List.take rs.length (List.flatMap Enc.enc (ws.map bs)).tail=(rs.map bs).flatMap Enc.enc:=by
    have:(List.flatMap Enc.enc (ws.map bs)).tail=(rs.map bs).flatMap Enc.enc:=by rw[hws];rfl
    rw[this];exact Af (by rw[xy];simp[Enc.sz])
   have hlr:(PV.lst rs.length ((rs.map bs).flatMap Enc.enc))=L (rs.map bs):=by unfold L;rw[List.length_map]
   repeat apply za
   refine ze [] (zD hwl1 ht1 htl) ?_;rw[<-hc0'];refine zj (zC (λk:Nat=>k<=rs.length) (λk=>[(1,T (bs [32])),(8,.ptr nx v 0),(63,L (rs.map bs)),(64,I rs.length),(65,I k)]) (λk=>[.cells v 113 (XI nx v (nx+1) (wx+1+2*k) (vZ w0 rs k).length),.cells (wx+1+2*k) 5 ((vZ w0 rs k).map U8)]) (λk=>rs.length-k) 0 [] DZ (by simp[hlr]) DZ ?_);rintro k hk;refine D7 ?_;refine za (zv rfl (λhc=>?_) (λhc=>?_))
   ·simp at hc;obtain⟨t,tl,b1,b2,b3,f0⟩:=zF rfl (rs.map bs) k (by simpa using hc);obtain⟨u,hu,rfl⟩:∃u,rs[k]?=some u/\bs u=t:=by rw[Aj]at b1;simpa using b1
    have hkl:k<rs.length:=by simpa using hc
    have hcs:=ZtN (w0:=w0) hu;have hk1:=hcl (k+1);rw[hcs]at hk1;simp only[Ar,Br]at hk1;refine zh (za (zj (za (ze [] (zo f0 hkl) ?_))));refine D7 ?_;refine λhsuf=>((hwa _ _ (vZ w0 rs k) [32] hw D2 (by rw[Zq];rfl) (by rw[zZ];rfl)).mono ?_).v
    rintro _ _ ⟨rfl,rfl⟩;obtain⟨mid,hmid⟩:∃mid,mid=vZ w0 rs k++[32]:=⟨_,rfl⟩;rw[<-hmid]at hcs ⊢;have hml:mid.length=(vZ w0 rs k).length+1:=by rw[hmid];simp
    refine⟨_,_,wr2,zL hsuf ?_⟩;refine zb ?_;refine λhsuf=>((hwa _ _ mid u hw (by rw[hml];omega) (by rw[Zq];rfl) (by rw[zZ];rfl)).mono ?_).v
    rintro _ _ ⟨rfl,rfl⟩;rw[<-hcs];refine⟨_,_,wr2,zL hsuf ?_⟩;refine zb ?_;exact zq (k+1) [] hkl DY (by simp[zu k (by omega)];try omega) rfl (by simp only[show wx+1+2*(k+1)=wx+1+2*k+1+1 by omega,AC])
   ·simp at hc;obtain rfl:k=rs.length:=DY
    refine zx ?_;rw[ZtO,<-hws];have hne0:yi ws≠[]:=by intro h;rw[h]at hjl;simp only[Ah]at hjl;omega
    refine D7 ?_;refine λhsuf=>((Ztz (id:=nx) (v:=v) (ib:=nx+1) (w0:=wx+1+2*rs.length) (p:=.ptr nx v 0) (yi ws) (by rw[Zq];rfl) (by rw[zZ];rfl) hne0 hw).mono ?_).v
    rintro _ _ ⟨rfl,rfl⟩;rw[yl _ DY DZ];refine⟨_,_,rfl,zL hsuf ?_⟩;exact D8 hd
theorem ZtR(ws:List (List UInt8))(hl:ws.length<=1048576)(hw:(yi ws).length<=1048576):Pure prog 59 [L (ws.map bs)] (T (bs (yi ws++[10]))):=by
 have hj:=ZtQ ws hl DY;have hs:=Jt (yi ws) [10] (by simp only[Br];omega);refine zr func59 ntmps59 results59 λS nx hd=>?_
 refine D7 ?_;refine D7 ?_;refine qt [] hj hs ?_;exact D8 hd
open Go Go.Proofs
theorem XJ{a b:List UInt8}:bs a=bs b<->a=b:=by
 constructor
 ·intro h;have:=congrArg (λx:ByteArray=>x.data.toList) h;exact this
 ·rintro rfl;rfl
theorem XK(ws:Ln)(k:Nat)(h:k<ws.length):∃u tl,ws[k]?=some u/\List.drop k ((ws.map bs).flatMap Enc.enc)=Enc.enc (bs u)++tl:=by
 obtain⟨t,tl,b1,b2,b3,f0⟩:=zF rfl (ws.map bs) k (by simpa using h);obtain⟨u,hu,rfl⟩:∃u,ws[k]?=some u/\bs u=t:=by rw[Aj]at b1;simpa using b1
 exact⟨u,tl,hu,f0⟩
theorem Zje(a b:Ln)(ha:a.length<=1048576)(hb:b.length<=1048576):Pure prog 139 [L (a.map bs),L (b.map bs)] (B (decide (a=b))):=by
 refine zr func139 ntmps139 results139 λS nx hd=>?_
 refine D7 ?_
 by_cases hl:a.length=b.length
 ·repeat apply za
  refine ze [] hl ?_;refine zk (by simp[hl]) ?_;refine zh ?_
  repeat apply za
  refine zb ?_;refine zj (zC (λk:Nat=>k<=a.length/\a.take k=b.take k) (λk=>[(0,L (a.map bs)),(1,L (b.map bs)),(12,I a.length),(13,I k)]) (λ_=>[]) (λk=>a.length-k) 0 [] DZ (by simp[hl]) DZ ?_);rintro k ⟨hk,he⟩;refine D7 ?_;refine za (zv rfl (λhc=>?_) (λhc=>?_))
  ·simp at hc;obtain⟨u,tl,hu,f0⟩:=XK a k hc;obtain⟨v,tl2,hv,f1⟩:=XK b k DY;have hkb:k<b.length:=DY
   refine zh (za (zj (D7 ?_)))
   by_cases huv:u=v
   ·subst huv;refine za (zz none (Row.pures [0,1,2,3,4,5,6,7,8] .done) mixed (yF f0 f1 hc hkb ZdF) ?_);refine zk DZ ?_;refine zh (zb ?_);exact zq (k+1) [] ⟨hc,by rw[AJ,AJ,hu,hv,he]⟩ DY (by simp[zu k (by omega)]) rfl DZ
   ·have hne:=ZdG (λh=>huv (XJ.1 h):bs u≠bs v);refine za (zz none (Row.pures [0,1,2,3,4,5,6,7,8] .done) mixed (yF f0 f1 hc hkb hne) ?_);refine zm DZ ?_;refine D7 ?_;have hab:¬a=b:=by rintro rfl;rw[hu]at hv;exact huv (Option.some.inj hv)
    exact zg (zi hd D0 (by simp[hab,zp]))
  ·simp at hc;obtain rfl:k=a.length:=DY
   rw[Ai,hl,Ai]at he;subst he;refine zx (D7 ?_);exact zg (zi hd D0 DZ)
 ·repeat apply za
  refine zb ?_;refine zm D2 ?_;refine D7 ?_;have hab:¬a=b:=by rintro rfl;exact hl rfl
  exact zg (zi hd D0 (by simp[hab,zp]))
structure Rdr where
 pos:Nat
 d:Int
 v:Int
 c:Int
 l:Int
 m:Int
 bad:Bool
abbrev YY(ls:List Ln)(r:Rdr)(cs ds:PV):List PV:=[L (wl ls),I r.pos,I r.d,I r.v,I r.c,I r.l,cs,ds,I r.m,B r.bad]
def yW(ls:List Ln)(r:Rdr):Rdr:=if r.pos<ls.length then { r with pos:=r.pos+1 } else r
theorem WV{S:Store}{id ver:Nat}(ls:List Ln)(r:Rdr)(cs ds:PV)(hS:S id=.cells ver 164 (YY ls r cs ds))(hl:ls.length<=1048576):
  Spec prog 140 [.ptr id ver 0] S (λq S'=>q=L ((zP ls r.pos).map bs)/\S'=S.set id (.cells ver 164 (YY ls (yW ls r) cs ds))):=by
 obtain⟨pos,d,v,c,l,m,bad⟩:=r;have hwl:(wl ls).length=ls.length:=DZ
 refine yn func140 ntmps140 results140 λnx hd=>?_
 have hlt:id<nx:=qN hd hS DZ;have g1:¬nx<=id:=DY
 have x1:∀obs,ext S nx obs id=.cells ver 164 (YY ls ⟨pos,d,v,c,l,m,bad⟩ cs ds):=λobs=>(zB hlt).trans hS
 by_cases hp:pos<ls.length
 ·have hp2:¬(ls.length:Int)<=pos:=DY
  refine D7 ?_
  repeat apply za
  refine zz (some [id]) (Row.pures [0,1,2,3,4,5,6,7,8,9] .done) mixed (zN x1 g1 hwl hp2) ?_;refine zk DZ ?_;refine zh ?_;have w1:IntKind.i64.wrap ((pos:Int)+1)=(pos:Int)+1:=by rw[AG];omega
  refine za (ze [] (zD x1 g1 w1) ?_);obtain⟨A,hA⟩:∃A,A=Ob.cells ver 164 (YY ls ⟨pos+1,d,v,c,l,m,bad⟩ cs ds):=⟨_,rfl⟩;have hnx:yW ls ⟨pos,d,v,c,l,m,bad⟩=⟨pos+1,d,v,c,l,m,bad⟩:=if_pos hp;have hset:ext (S.set id (.cells ver 164 [L (wl ls),I ((pos:Int)+1),I d,I v,I c,I l,cs,ds,I m,B bad])) nx []=ext (S.set id A) nx []:=by rw[hA];rfl
  have x2:∀obs,ext (S.set id A) nx obs id=.cells ver 164 (YY ls ⟨pos+1,d,v,c,l,m,bad⟩ cs ds):=λobs=>by rw[zB hlt,q11,hA]
  rw[hset];obtain⟨t,tl,b1,b2,b3,f0⟩:=zF rfl (wl ls) pos (by rw[hwl];exact hp);have hline:t=(zP ls pos).map bs:=by
   have:ls[pos]?=some (zP ls pos):=by unfold zP;rw[Aa,Ae hp];rfl
   rw[Aj,this]at b1;exact(Option.some.inj b1).symm
  have w2:IntKind.i64.wrap (pos:Int)=(pos:Int):=by rw[AG];omega
  refine za (zz (some [id]) (Row.pures [0,1,2,3,4,5,6,7,8,9,10,11] .done) mixed (yd x2 g1 w2 f0 hwl hp) ?_);refine zg ⟨_,_,by simp;rfl,⟨by simp[zp,hline],by rw[hnx,hA]⟩,zO ?_⟩;exact qG hd hlt _
 ·have hp2:(ls.length:Int)<=pos:=DY
  have hnx:yW ls ⟨pos,d,v,c,l,m,bad⟩=⟨pos,d,v,c,l,m,bad⟩:=if_neg hp;have hline:zP ls pos=[]:=by unfold zP;rw[Aa,Ak DY];rfl
  refine D7 ?_
  repeat apply za
  refine zz (some [id]) (Row.pures [0,1,2,3,4,5,6,7,8,9] .done) mixed (zN x1 g1 hwl hp2) ?_;refine zm DZ ?_;refine D7 ?_;refine ue 2 rfl ?_;rw[hnx];simp only[hline];rw[Ym S id _ hS];exact D8 hd
def LnsOk(ls:List Ln):Prop:=ls.length<=1048576/\∀l∈ls,l.length<=1048576/\∀w∈l,w.length<=1048576
theorem LnsOk.at{ls:List Ln}(h:LnsOk ls)(k:Nat):(zP ls k).length<=1048576/\∀w∈zP ls k,w.length<=1048576:=by
 unfold zP;rw[Aa];cases hk:ls[k]? with
 | none=>simp
 | some l=>exact h.2 l (Ab hk)
theorem ZtS(l:Ln)(k:Nat):xI l (k+1)=xI l k++[l.getD (2*k+1) []]:=by simp[xI,AH]
theorem ZaS(l:Ln)(k:Nat):(xI l k).length=k:=by simp[xI]
theorem ZtT{l:Ln}{k:Nat}(hw:∀w∈l,w.length<=1048576):∀w∈xI l k,w.length<=1048576:=by
 intro w hm;obtain⟨i,_,rfl⟩:=Am.1 hm;rw[Aa];cases hk:l[2*i+1]? with
 | none=>simp
 | some u=>exact hw u (Ab hk)
theorem WX{ws:Ln}{k:Nat}{u:Wd}(h:ws[k]?=some u):ws.getD k []=u:=by rw[Aa,h];rfl
theorem Zjf{S:Store}{id ver:Nat}(ls:List Ln)(r:Rdr)(cs ds:PV)(names:Ln)(hS:S id=.cells ver 164 (YY ls r cs ds))(hl:LnsOk ls)(hn:names.length<=1000):
  Spec prog 141 [.ptr id ver 0,L (names.map bs)] S (λq S'=>q=vB (qi (zP ls r.pos) names)/\S'=S.set id (.cells ver 164 (YY ls (yW ls r) cs ds))):=by
 have hnext:=λS (h:S id=_)=>WV (S:=S) (id:=id) (ver:=ver) ls r cs ds h hl.1
 obtain⟨hll,hlw⟩:=hl.at r.pos;obtain⟨S1,hS1⟩:∃S1,S1=S.set id (.cells ver 164 (YY ls (yW ls r) cs ds)):=⟨_,rfl⟩;rw[<-hS1];generalize zP ls r.pos=ln at *;refine yn func141 ntmps141 results141 λnx hd=>?_
 have hlt:id<nx:=qN hd hS DZ;have g1:¬nx<=id:=DY
 have hd1:zS nx S1:=by rw[hS1];exact qG hd hlt _
 refine D7 ?_;refine za (xx [] D3 D3 λK Gc Gh hK hGc hGh X hX0 hX=>?_);simp -implicitDefEqProofs [hX0,hX]
 try clear hX0 hX X
 refine hGc _ _ _ _ _ _ _ λhsuf=>((hnext _ ((zB hlt).trans hS)).mono ?_).v
 rintro _ _ ⟨rfl,rfl⟩;refine⟨S1,[],by rw[qc _ hlt,<-hS1],?_⟩;clear hGc hGh;clear Gc Gh;refine xZ hsuf (D:=[]) D3 λGc Gh hGc hGh X hX0 hX=>?_
 simp -implicitDefEqProofs [hX0,hX];clear hX0 hX X;refine hK _ _ _ ?_;clear hK hGc hGh;clear K Gc Gh;clear hnext hsuf hd hS1 hS;have hd:=hd1;have w0:IntKind.i64.wrap (2*(names.length:Int))=2*names.length:=by rw[AG];omega
 by_cases hlen:ln.length=2*names.length
 ·have c0:(ln.length:Int)=2*names.length:=DY
  repeat apply za
  refine ze [] (zo w0 c0) ?_;refine zk DZ ?_;refine zh (D7 ?_);refine za (qx 7 9 1 rfl λv1=>?_);refine D7 ?_;refine zj (zC (λs:Nat × Nat=>s.1<=names.length/\∀i,i<s.1->ln.getD (2*i) []=names.getD i []) (λ(k,v)=>[(6,L (ln.map bs)),(7,.sl nx v 1 0 k),(18,L (names.map bs)),(19,I names.length),(20,I k)]) (λ(k,v)=>[.cells v 9 (((xI ln k).map bs).flatMap Enc.enc)]) (λs=>names.length-s.1) (0,v1) [] ⟨by simp,λi hi=>absurd hi (Nat.not_lt_zero _)⟩ DZ (by simp[xI]) ?_);rintro⟨k,v⟩ ⟨hk,hq⟩;simp only at hk hq ⊢;refine D7 ?_;refine za (zv rfl (λhc=>?_) (λhc=>?_))
  ·simp at hc;obtain⟨a,tl,ha,f0⟩:=XK names k hc;obtain⟨u,tl2,hu,f1⟩:=XK ln (2*k) DY;obtain⟨x,tl3,hx,f2⟩:=XK ln (2*k+1) DY;have k1:2*k<ln.length:=DY
   have k2:2*k+1<ln.length:=DY
   have w1:IntKind.i64.wrap (2*(k:Int))=((2*k:Nat):Int):=by rw[AG];omega
   have w2:IntKind.i64.wrap (((2*k:Nat):Int)+1)=((2*k+1:Nat):Int):=zu _ DY;obtain⟨k2k,hk2⟩:∃n,n=2*k:=⟨_,rfl⟩;obtain⟨k2l,hk3⟩:∃n,n=2*k+1:=⟨_,rfl⟩;rw[<-hk2]at f1 k1 w1 w2 hu;rw[<-hk3]at f2 k2 hx;have w2':IntKind.i64.wrap ((k2k:Int)+1)=(k2l:Int):=by rw[w2,hk2,hk3]
   refine zh (za (zj (za (ze [] (zo f0 hc) ?_))))
   by_cases hua:u=a
   ·subst hua
    repeat apply za
    refine ze [] (zN f1 k1 w1 ZdF) ?_;refine zk DZ ?_;refine zh ?_;have hol:(xI ln k).length=k:=ZaS ln k;refine ze [] (zN f2 k2 w1 w2') ?_;refine⟨by omega,?_⟩;refine zb ?_;have hod:((xI ln (k+1)).map bs).flatMap Enc.enc=List.take k (((xI ln k).map bs).flatMap Enc.enc)++[T (bs x)]:=by
     rw[Af (by rw[Zax,List.length_map,hol];exact Ag _),ZtS,<-hk3,WX hx,List.map_append,Ap];rfl
    exact zq (k+1,v+1) [] ⟨hc,λi hi=>by
     rcases Bi i k with q | q
     ·exact hq i q
     ·obtain rfl:i=k:=DY
      rw[<-hk2,WX hu,WX ha]⟩ DY (by simp[zu k (by omega)]) rfl (by simp only[hod,AC])
   ·have hne:=ZdG (λh=>hua (XJ.1 h):bs u≠bs a)
    repeat apply za
    refine ze [] (zN f1 k1 w1 hne) ?_;refine zm DZ ?_;refine D7 ?_;have hnb:qi ln names=none:=by
     unfold qi Jz;rw[if_neg];rw[Aw,AA];rintro⟨_,h2⟩;have:=of_decide_eq_true (h2 k (AL.2 hc));rw[<-hk2,WX hu,WX ha]at this;exact hua this
    exact zg (zi hd D0 (by rw[hnb];rfl))
  ·simp at hc;obtain rfl:k=names.length:=DY
   have hnb:qi ln names=jI (xI ln names.length):=by
    unfold qi Jz;rw[if_pos];rw[Aw,AA];exact⟨decide_eq_true hlen,λi hi=>decide_eq_true (hq i (AL.1 hi))⟩
   have hnum:=ZdD (xI ln names.length) (by rw[ZaS];omega) (λw hw=>by have:=ZtT hlw w hw;omega);have hol:(xI ln names.length).length=names.length:=ZaS ln _;rw[hnb];generalize xI ln names.length=od at *;refine zx (zX 0 rfl ?_);have hol2:=hol.symm;rw[show L (od.map bs)=.lst od.length ((od.map bs).flatMap Enc.enc) by unfold L;rw[List.length_map]]at hnum;cases hz:jI od with
   | none =>
    rw[hz]at hnum;simp only[vB]at hnum ⊢;refine za (ze [] hol2 ?_);refine zt hnum ?_;exact D8 hd
   | some z =>
    rw[hz]at hnum;simp only[vB]at hnum ⊢;refine za (ze [] hol2 ?_);refine zt hnum ?_;exact D8 hd
 ·have c0:¬(ln.length:Int)=2*names.length:=DY
  repeat apply za
  refine ze [] (zo w0 c0) ?_;refine zm DZ ?_;refine D7 ?_;have hnb:qi ln names=none:=by unfold qi Jz;rw[decide_eq_false hlen];rfl
  exact zg (zi hd D0 (by rw[hnb];rfl))
open Go Go.Proofs
theorem XL{l names:Ln}{z:List Int}(h:qi l names=some z):z.length=names.length:=by
 unfold qi at h;split at h
 ·rw[Zi3 h,ZaS]
 ·cases h
abbrev yh(ver:Nat)(ls:List Ln)(r:Rdr)(cs ds:PV):Ob:=.cells ver 164 (YY ls r cs ds)
theorem ZtU{S:Store}{id ver:Nat}(ls:List Ln)(r:Rdr)(cs ds:PV)(hS:S id=yh ver ls r cs ds)(hl:LnsOk ls):
  Spec prog 102 [.ptr id ver 0] S (λq S'=>q=B (decide (zP ls r.pos=[wA,[49]]))/\S'=S.set id (yh ver ls (yW ls r) cs ds)):=by
 have hnext:=λS (h:S id=_)=>WV (S:=S) (id:=id) (ver:=ver) ls r cs ds h hl.1
 have heq:=Zje (zP ls r.pos) [wA,[49]] (hl.at r.pos).1 DZ;obtain⟨S1,hS1⟩:∃S1,S1=S.set id (yh ver ls (yW ls r) cs ds):=⟨_,rfl⟩;rw[<-hS1];generalize zP ls r.pos=ln at *;refine yn func102 ntmps102 results102 λnx hd=>?_
 have hlt:id<nx:=qN hd hS DZ;have hd1:zS nx S1:=by rw[hS1];exact qG hd hlt _
 refine D7 ?_;refine D7 ?_;refine λhsuf=>((hnext _ ((zB hlt).trans hS)).mono ?_).v
 rintro _ _ ⟨rfl,rfl⟩;refine⟨S1,[],by rw[qc _ hlt,<-hS1],zL hsuf ?_⟩;refine λhsuf=>((heq _).mono ?_).v
 rintro _ _ ⟨rfl,rfl⟩;refine⟨_,_,rfl,zL hsuf ?_⟩;clear hnext hd hS1 hS;have hd:=hd1;exact D8 hd
theorem ZtV{S:Store}{id ver:Nat}(ls:List Ln)(r:Rdr)(cs ds:PV)(hS:S id=yh ver ls r cs ds)(hl:LnsOk ls):
  Spec prog 103 [.ptr id ver 0] S (λq S'=>match qi (zP ls r.pos) [wB,wC,wD,wE] with
   | some [d,v,c,l]=>q=B true/\S'=S.set id (yh ver ls { yW ls r with d:=d,v:=v,c:=c,l:=l } cs ds)
   | _=>q=B false/\S'=S.set id (yh ver ls (yW ls r) cs ds)):=by
 have hnamed:=λS (h:S id=_)=>Zjf (S:=S) (id:=id) (ver:=ver) ls r cs ds [wB,wC,wD,wE] h hl DZ
 cases hz:qi (zP ls r.pos) [wB,wC,wD,wE] with
 | none =>
  rw[hz]at hnamed;simp only[vB]at hnamed ⊢;obtain⟨S1,hS1⟩:∃S1,S1=S.set id (yh ver ls (yW ls r) cs ds):=⟨_,rfl⟩;rw[<-hS1];refine yn func103 ntmps103 results103 λnx hd=>?_
  have hlt:id<nx:=qN hd hS DZ;have hd1:zS nx S1:=by rw[hS1];exact qG hd hlt _
  refine D7 ?_;refine za (xx [] D3 D3 λK Gc Gh hK hGc hGh X hX0 hX=>?_);simp -implicitDefEqProofs [hX0,hX]
  try clear hX0 hX X
  refine hGc _ _ _ _ _ _ _ λhsuf=>((hnamed _ ((zB hlt).trans hS)).mono ?_).v
  rintro _ _ ⟨rfl,rfl⟩;refine⟨S1,[],by rw[qc _ hlt,<-hS1],?_⟩;clear hGc hGh;clear Gc Gh;refine xZ hsuf (D:=[]) D3 λGc Gh hGc hGh X hX0 hX=>?_
  simp -implicitDefEqProofs [hX0,hX];clear hX0 hX X;refine hK _ _ _ ?_;clear hK hGc hGh;clear K Gc Gh;clear hnamed hsuf hd hS1 hS;have hd:=hd1
  repeat apply za
  refine zb ?_;refine zk DZ ?_;refine zh (D7 ?_);exact D8 hd
 | some z =>
  obtain⟨d,v,c,l,rfl⟩:∃d v c l,z=[d,v,c,l]:=by
   have:=XL hz
   match z,this with
   | [d,v,c,l],_=>exact⟨d,v,c,l,rfl⟩
  rw[hz]at hnamed;simp only[vB]at hnamed ⊢;generalize yW ls r=r1 at *;obtain⟨pos,d0,v0,c0,l0,m,bad⟩:=r1;refine yn func103 ntmps103 results103 λnx hd=>?_
  have hlt:id<nx:=qN hd hS DZ;refine D7 ?_;refine D7 ?_;refine λhsuf=>((hnamed _ ((zB hlt).trans hS)).mono ?_).v
  rintro _ _ ⟨rfl,rfl⟩;refine⟨_,[],qc _ hlt,zL hsuf ?_⟩;obtain⟨S1,hS1⟩:∃S1,S1=S.set id (yh ver ls ⟨pos,d0,v0,c0,l0,m,bad⟩ cs ds):=⟨_,rfl⟩;rw[<-hS1];have g1:¬nx<=id:=DY
  have x1:∀obs,ext S1 nx obs id=yh ver ls ⟨pos,d0,v0,c0,l0,m,bad⟩ cs ds:=λobs=>by rw[zB hlt,hS1,q11]
  repeat apply za
  refine zb ?_;refine zm DZ ?_;have x2:∀A obs,ext (S1.set id A) nx obs id=A:=λA obs=>by rw[zB hlt,q11]
  refine zz (some []) (Row.pures [0,1,2,3,4,5,6,7,8,9,10,11,12,13,14,15,16,17,18] (.alt 19 (Row.pures [20,21,22] (.alt 23 (Row.pures [24,25,26] (.alt 27 (Row.pures [28,29,30] (.alt 31 (.done) .stop)) .stop)) .stop)) .stop)) mixed (zN x1 g1 x2 Store.set_set) ?_;have hfin:S1.set id (.cells ver 164 [L (wl ls),I pos,I d,I v,I c,I l,cs,ds,I m,B bad])=S.set id (yh ver ls ⟨pos,d,v,c,l,m,bad⟩ cs ds):=by rw[hS1,Store.set_set]
  rw[hfin];refine D7 ?_;refine zg ⟨_,_,by simp;rfl,⟨by simp[zp],rfl⟩,zO ?_⟩;exact qG hd hlt _
theorem ZtW{S:Store}{id ver:Nat}(ls:List Ln)(r:Rdr)(cs ds:PV)(hS:S id=yh ver ls r cs ds)(hl:LnsOk ls):
  Spec prog 104 [.ptr id ver 0] S (λq S'=>match qi (zP ls r.pos) [wF] with
   | some [m]=>q=B true/\S'=S.set id (yh ver ls { yW ls r with m:=m } cs ds)
   | _=>q=B false/\S'=S.set id (yh ver ls (yW ls r) cs ds)):=by
 have hnamed:=λS (h:S id=_)=>Zjf (S:=S) (id:=id) (ver:=ver) ls r cs ds [wF] h hl DZ
 cases hz:qi (zP ls r.pos) [wF] with
 | none =>
  rw[hz]at hnamed;simp only[vB]at hnamed ⊢;obtain⟨S1,hS1⟩:∃S1,S1=S.set id (yh ver ls (yW ls r) cs ds):=⟨_,rfl⟩;rw[<-hS1];refine yn func104 ntmps104 results104 λnx hd=>?_
  have hlt:id<nx:=qN hd hS DZ;have hd1:zS nx S1:=by rw[hS1];exact qG hd hlt _
  refine D7 ?_;refine za (xx [] D3 D3 λK Gc Gh hK hGc hGh X hX0 hX=>?_);simp -implicitDefEqProofs [hX0,hX]
  try clear hX0 hX X
  refine hGc _ _ _ _ _ _ _ λhsuf=>((hnamed _ ((zB hlt).trans hS)).mono ?_).v
  rintro _ _ ⟨rfl,rfl⟩;refine⟨S1,[],by rw[qc _ hlt,<-hS1],?_⟩;clear hGc hGh;clear Gc Gh;refine xZ hsuf (D:=[]) D3 λGc Gh hGc hGh X hX0 hX=>?_
  simp -implicitDefEqProofs [hX0,hX];clear hX0 hX X;refine hK _ _ _ ?_;clear hK hGc hGh;clear K Gc Gh;clear hnamed hsuf hd hS1 hS;have hd:=hd1
  repeat apply za
  refine zb ?_;refine zk DZ ?_;refine zh (D7 ?_);exact D8 hd
 | some z =>
  obtain⟨m,rfl⟩:∃m,z=[m]:=by
   have:=XL hz
   match z,this with
   | [m],_=>exact⟨m,rfl⟩
  rw[hz]at hnamed;simp only[vB]at hnamed ⊢;generalize yW ls r=r1 at *;obtain⟨pos,d,v,c,l,m0,bad⟩:=r1;refine yn func104 ntmps104 results104 λnx hd=>?_
  have hlt:id<nx:=qN hd hS DZ;refine D7 ?_;refine D7 ?_;refine λhsuf=>((hnamed _ ((zB hlt).trans hS)).mono ?_).v
  rintro _ _ ⟨rfl,rfl⟩;refine⟨_,[],qc _ hlt,zL hsuf ?_⟩;obtain⟨S1,hS1⟩:∃S1,S1=S.set id (yh ver ls ⟨pos,d,v,c,l,m0,bad⟩ cs ds):=⟨_,rfl⟩;rw[<-hS1];have g1:¬nx<=id:=DY
  have x1:∀obs,ext S1 nx obs id=yh ver ls ⟨pos,d,v,c,l,m0,bad⟩ cs ds:=λobs=>by rw[zB hlt,hS1,q11]
  repeat apply za
  refine zb ?_;refine zm DZ ?_;refine ze [] (zo x1 g1) ?_;have hfin:S1.set id (.cells ver 164 [L (wl ls),I pos,I d,I v,I c,I l,cs,ds,I m,B bad])=S.set id (yh ver ls ⟨pos,d,v,c,l,m,bad⟩ cs ds):=by rw[hS1,Store.set_set]
  rw[hfin];refine D7 ?_;refine zg ⟨_,_,by simp;rfl,⟨by simp[zp],rfl⟩,zO ?_⟩;exact qG hd hlt _
theorem ZtX{S:Store}{id ver:Nat}(ls:List Ln)(r:Rdr)(cs ds:PV)(hS:S id=yh ver ls r cs ds):
  Spec prog 107 [.ptr id ver 0] S (λq S'=>q=B (decide (r.pos=ls.length))/\S'=S):=by
 obtain⟨pos,d,v,c,l,m,bad⟩:=r;have hwl:(wl ls).length=ls.length:=DZ
 refine yn func107 ntmps107 results107 λnx hd=>?_
 have hlt:id<nx:=qN hd hS DZ;have g1:¬nx<=id:=DY
 have x1:∀obs,ext S nx obs id=yh ver ls ⟨pos,d,v,c,l,m,bad⟩ cs ds:=λobs=>(zB hlt).trans hS
 refine D7 ?_;refine za (zz (some [id]) (Row.pures [0,1,2,3,4,5,6,7,8,9,10] .done) mixed (zD x1 g1 hwl) ?_);exact zg (zi hd D0 (by simp[zp,Int.natCast_inj]))
open Go Go.Proofs
def ZN(n:Int)(ps:Ln)(k:Nat):Bool:=!((ps.take k).all λw=>decide ((w.length:Int)=n))
theorem ZtY(n:Int)(ps:Ln):ZN n ps 0=false:=by simp[ZN]
theorem ZtZ{n:Int}{ps:Ln}{k:Nat}{w:Wd}(h:ps[k]?=some w):ZN n ps (k+1)=(ZN n ps k || !decide ((w.length:Int)=n)):=by
 unfold ZN;rw[AJ,h];simp
theorem Zt0{w:Wd}(h:wT w=true):(vY w).1=j4 w/\(vY w).2≠2:=by
 unfold vY j4;rw[if_pos h];split<;>simp
theorem Zt1{w:Wd}(h:wT w=false):(vY w).2=2:=by
 unfold vY;rw[if_neg (by rw[h];simp)]
theorem Zt2{S:Store}{id ver idC vC:Nat}(ls:List Ln)(r:Rdr)(cu:List Cust)(ds:PV)(l:Ln)(hS:S id=yh ver ls r (.sl idC vC 8 0 cu.length) ds)(hC:S idC=.cells vC 87 (cu.flatMap Enc.enc))(hcu:cu.length<=1048576)(hl:l.length<=1048576/\∀w∈l,w.length<=1048576):
  Spec prog 142 [.ptr id ver 0,L (l.map bs)] S (λq S'=>match QP r.d l with
   | none=>q=B false/\∃b,S'=S.set id (yh ver ls { r with bad:=b } (.sl idC vC 8 0 cu.length) ds)
   | some (c,ok)=>q=B true/\S'=(S.set id (yh ver ls { r with bad:=r.bad || !ok } (.sl idC (vC+1) 8 0 (cu.length+1)) ds)).set idC (.cells (vC+1) 87 ((cu++[c]).flatMap Enc.enc))):=by
 have hne:id≠idC:=by rintro rfl;rw[hS]at hC;simp at hC
 obtain⟨pos,d,v,c,ln,m,bad⟩:=r;rcases l with _ | ⟨dw,ps⟩
 ·simp only[QP];refine yn func142 ntmps142 results142 λnx hd=>?_
  refine D7 ?_
  repeat apply za
  refine zb ?_;refine zm DZ ?_;refine D7 ?_;refine zg ⟨_,_,by simp;rfl,⟨by simp[zp],bad,(Ym S id _ hS).symm⟩,zO ?_⟩;exact hd
 ·rw[ZdB];have hnum:=Zh1 dw (by have:=hl.2 dw (by simp);omega);cases hz:jZ dw with
  | none =>
   rw[hz]at hnum;simp only[Xz,Dh,AV,false_and,if_false]at hnum ⊢;refine yn func142 ntmps142 results142 λnx hd=>?_
   refine D7 ?_
   repeat apply za
   refine zb ?_;refine zk D2 ?_;refine zh (D7 ?_);refine zt hnum ?_
   repeat apply za
   refine zb ?_;refine zm DZ ?_;refine D7 ?_;refine zg ⟨_,_,by simp;rfl,⟨by simp[zp],bad,(Ym S id _ hS).symm⟩,zO ?_⟩;exact hd
  | some dn =>
   have hdv:yT dw=dn:=by unfold yT;rw[hz];rfl
   rw[hz]at hnum;simp only[Xz]at hnum;refine yn func142 ntmps142 results142 λnx hd=>?_
   have hlt:id<nx:=qN hd hS DZ;have hltC:idC<nx:=qN hd hC DZ;have g1:¬nx<=id:=DY
   refine D7 ?_
   repeat apply za
   refine zb ?_;refine zk D2 ?_;refine zh (D7 ?_);refine zt hnum ?_
   repeat apply za
   refine zb ?_;refine zk DZ ?_;refine zh (D7 ?_);intro v0;refine je 0 2 98 1 rfl rfl λv1=>?_
   obtain⟨o,ho⟩:∃o,o=(if (some dn).isSome=true/\(ps.all wT)=true then some (Yl dw ps,ps.all λw=>decide ((w.length:Int)=d)) else none):=⟨_,rfl⟩;rw[<-ho];have htk:List.take ps.length ((ps.map bs).flatMap Enc.enc)=(ps.map bs).flatMap Enc.enc:=Af (by rw[Zax,List.length_map];exact Ag _);obtain⟨rdB,hrd⟩:∃rdB:Nat->Store,∀k,rdB k=S.set id (yh ver ls ⟨pos,d,v,c,ln,m,bad || ZN d ps k⟩ (.sl idC vC 8 0 cu.length) ds):=⟨_,λ_=>rfl⟩;have hr0:rdB 0=S:=by rw[hrd,ZtY,Bool.or_false];exact Ym S id _ hS
   have x1:∀k obs,ext (rdB k) nx obs id=yh ver ls ⟨pos,d,v,c,ln,m,bad || ZN d ps k⟩ (.sl idC vC 8 0 cu.length) ds:=λk obs=>by rw[zB hlt,hrd,q11]
   have hdB:∀k,zS nx (rdB k):=λk=>by rw[hrd];exact qG hd hlt _
   have hpl:ps.length<=1048576:=by have:=hl.1;simp at this;omega
   repeat apply za
   refine ze [] htk ?_;refine zj (jC (λs:Nat × Nat × Nat=>s.1<=ps.length/\∀w∈ps.take s.1,wT w=true) (λ(k,w0,w1)=>[(0,.ptr id ver 0),(7,.ptr nx w0 0),(27,L (ps.map bs)),(28,I ps.length),(29,I k)]) (λs=>rdB s.1) (λ(k,w0,w1)=>[.cells w0 87 [I 1,I dn,.sl (nx+1) w1 1 0 k,I 0,I 0,I 0,I 0,I 0],.cells w1 98 (((ps.map j4).take k).flatMap Enc.enc)]) (λs=>ps.length-s.1) (zT (0,v0,v1) [] DZ DZ hr0 DZ) ?_);rintro⟨k,w0,w1⟩ ⟨hk,hso⟩;simp only at hk hso ⊢;refine D7 ?_;refine za (zv rfl (λhc=>?_) (λhc=>?_))
   ·simp at hc;obtain⟨w,tl,hw,f0⟩:=XK ps k hc;have hwl:w.length<=1048576:=hl.2 w (by simp[Ab hw]);have hdp:=ZtE w hwl;have hsz:=vw w;refine zh (za (zj (za (ze [] (zo f0 hc) ?_))));refine D7 ?_;refine zt hdp ?_;cases hsg:wT w with
    | false =>
     have hf:=Zt1 hsg;have hon:o=none:=by
      rw[ho,if_neg];rintro⟨_,h2⟩;have:=AA.1 h2 w (Ab hw);rw[hsg]at this;cases this
     repeat apply za
     refine ze [] hf ?_;refine zm DZ ?_;refine D7 ?_;refine zg ⟨_,_,by simp;rfl,by rw[hon];exact⟨by simp[zp],_,hrd k⟩,zO (hdB k)⟩
    | true =>
     obtain⟨hf1,hf2⟩:=Zt0 hsg;have hso':∀u∈ps.take (k+1),wT u=true:=by
      rw[AJ,hw];intro u hu;rw[AB]at hu;rcases hu with hu | hu
      ·exact hso u hu
      ·obtain rfl:u=w:=by simpa using hu
       exact hsg
     have hnx:((ps.map j4).take (k+1)).flatMap Enc.enc=((ps.map j4).take k).flatMap Enc.enc++[U (j4 w)]:=by rw[AJ,Aj,hw,Ap];rfl
     have hol:(((ps.map j4).take k).flatMap Enc.enc).length=k:=by rw[ZeU,Ay,List.length_map];omega
     have htk2:List.take k (((ps.map j4).take k).flatMap Enc.enc)=((ps.map j4).take k).flatMap Enc.enc:=Af (by rw[hol];exact Ag _);have hbk:=ZtZ (n:=d) hw
     repeat apply za
     refine ze [] hf2 ?_;refine zk DZ ?_;refine zh ?_
     by_cases hq:(w.length:Int)=d
     ·have hrk:rdB (k+1)=rdB k:=by rw[hrd,hrd,hbk,decide_eq_true hq,Bool.not_true,Bool.or_false]
      repeat apply za
      refine ze [] (zD x1 hsz hq) ?_;refine zk DZ ?_;refine zh (ze [] (zo hf1 htk2) ?_);refine⟨by omega,?_⟩;refine zb ?_;exact zq (k+1,w0,w1+1) [] ⟨hc,hso'⟩ DY (by simp[zu k (by omega)]) hrk (by simp only[hnx,AC])
     ·have hrk:(rdB k).set id (yh ver ls ⟨pos,d,v,c,ln,m,true⟩ (.sl idC vC 8 0 cu.length) ds)=rdB (k+1):=by rw[hrd,hrd,hbk,decide_eq_false hq,Dj,Bool.or_true,Bool.or_true,Store.set_set]
      repeat apply za
      refine ze [] (zD x1 hsz hq) ?_;refine zm DZ ?_;refine ze [] (zo x1 g1) ?_;have hrk2:(rdB k).set id (.cells ver 164 [L (wl ls),I pos,I d,I v,I c,I ln,.sl idC vC 8 0 cu.length,ds,I m,B true])=rdB (k+1):=hrk;rw[hrk2];refine ze [] (zo hf1 htk2) ?_;refine⟨by omega,?_⟩;refine zb ?_;exact zq (k+1,w0,w1+1) [] ⟨hc,hso'⟩ DY (by simp[zu k (by omega)]) rfl (by simp only[hnx,AC])
   ·simp at hc;obtain rfl:k=ps.length:=DY
    rw[Ai]at hso;refine zx ?_;have hon:o=some (Yl dw ps,ps.all λw=>decide ((w.length:Int)=d)):=by
     rw[ho,if_pos ⟨rfl,AA.2 hso⟩]
    have hbl:ZN d ps ps.length=!(ps.all λw=>decide ((w.length:Int)=d)):=by unfold ZN;rw[Ai]
    have hpl2:(ps.map j4).length=ps.length:=DZ
    rw[show (ps.map j4).take ps.length=ps.map j4 from Af DZ];refine zX 1 rfl ?_;have hx1:=x1 ps.length;have g2:¬nx<=idC:=DY
    have hxC:∀obs,ext (rdB ps.length) nx obs idC=.cells vC 87 (cu.flatMap Enc.enc):=λobs=>by rw[zB hltC,hrd,q10 _ _ _ _ (Ne.symm hne),hC]
    have hx2:∀A obs,ext ((rdB ps.length).set idC A) nx obs id=yh ver ls ⟨pos,d,v,c,ln,m,bad || ZN d ps ps.length⟩ (.sl idC vC 8 0 cu.length) ds:=λA obs=>by rw[zB hlt,q10 _ _ _ _ hne,hrd,q11]
    refine za (zz (some [nx]) (Row.pures [0,1,2,3,4,6,7] (.alt 5 (.alt 8 (Row.pures [9,10,11] (.alt 12 (.done) .stop)) .stop) .stop)) mixed (yd hx1 hxC hx2 g1 g2 hpl2) ?_);refine⟨by omega,?_⟩;have hcl:(cu++[Yl dw ps]).flatMap Enc.enc=cu.flatMap Enc.enc++[I 1,I dn,.lst ps.length ((ps.map j4).flatMap Enc.enc),I 0,I 0,I 0,I 0,I 0]:=by
     rw[Ap];congr 1
     show yb (Yl dw ps)=_
     unfold Yl yb;rw[hdv]
     show [I 1,I dn,.lst (ps.map j4).length ((ps.map j4).flatMap Enc.enc),I 0,I 0,I 0,I 0,I 0]=_
     rw[hpl2]
    rw[<-hcl];have hfin:((rdB ps.length).set idC (.cells (vC+1) 87 ((cu++[Yl dw ps]).flatMap Enc.enc))).set id (.cells ver 164 [L (wl ls),I pos,I d,I v,I c,I ln,.sl idC (vC+1) 8 0 (cu.length+1),ds,I m,B (bad || ZN d ps ps.length)])=(S.set id (yh ver ls ⟨pos,d,v,c,ln,m,bad || !(ps.all λw=>decide ((w.length:Int)=d))⟩ (.sl idC (vC+1) 8 0 (cu.length+1)) ds)).set idC (.cells (vC+1) 87 ((cu++[Yl dw ps]).flatMap Enc.enc)):=by
     rw[<-hbl,hrd,Store.set_comm _ idC id _ _ hne,Store.set_set]
    rw[hfin];refine D7 ?_;refine zg ⟨_,_,by simp;rfl,by rw[hon];exact⟨by simp[zp],by rw[Ap];rfl⟩,zO ?_⟩;exact qG (qG hd hlt _) hltC _
theorem Zjg(a:ByteArray):jT .eql a a=some (.bool true):=by simp[jT]
theorem Zjh{l:Ln}(h:l.length≠5):YW l=none:=by
 match l,h with
 | [],_=>rfl
 | [_],_=>rfl
 | [_,_],_=>rfl
 | [_,_,_],_=>rfl
 | [_,_,_,_],_=>rfl
 | [_,_,_,_,_],h=>exact absurd rfl h
 | _ :: _ :: _ :: _ :: _ :: _ :: _,_=>rfl
theorem Zt3{S:Store}{id ver idC vC:Nat}(ls:List Ln)(r:Rdr)(cu:List Cust)(ds:PV)(l:Ln)(hS:S id=yh ver ls r (.sl idC vC 8 0 cu.length) ds)(hC:S idC=.cells vC 87 (cu.flatMap Enc.enc))(hcu:cu.length<=1048576)(hl:l.length<=1048576/\∀w∈l,w.length<=1048576):
  Spec prog 143 [.ptr id ver 0,L (l.map bs)] S (λq S'=>match YW l with
   | none=>q=B false/\S'=S
   | some c=>q=B true/\S'=(S.set id (yh ver ls r (.sl idC (vC+1) 8 0 (cu.length+1)) ds)).set idC (.cells (vC+1) 87 ((cu++[c]).flatMap Enc.enc))):=by
 have hneq:id≠idC:=by rintro rfl;rw[hS]at hC;simp at hC
 obtain⟨pos,d,v,c,ln,m,bad⟩:=r
 by_cases h5:l.length=5
 ·obtain⟨a,b,e,ru,h,rfl⟩:∃a b c d e,l=[a,b,c,d,e]:=by
   match l,h5 with
   | [a,b,c,d,e],_=>exact⟨a,b,c,d,e,rfl⟩
  obtain⟨o,ho⟩:∃o,o=YW [a,b,e,ru,h]:=⟨_,rfl⟩;rw[<-ho];rw[ZdC]at ho;have hnum:=ZdD [a,b,e,h] DZ (λw hw=>by
   have:=hl.2 w (by simp at hw ⊢;rcases hw with rfl | rfl | rfl | rfl<;>simp);omega)
  cases hz:jI [a,b,e,h] with
  | none =>
   rw[hz]at hnum;simp only[vB]at hnum;have hon:o=none:=by rw[ho,hz];simp
   refine yn func143 ntmps143 results143 λnx hd=>?_
   refine D7 ?_
   repeat apply za
   refine zb ?_;refine zk DZ ?_;refine zh (za (zz none (Row.pures [0,1,2,3,4,5,6,7,8,9,10,11,12,13,14,15,16,17,18] .done) mixed trivial ?_));refine zG (hnum) trivial ?_
   repeat apply za
   refine zb ?_;refine zm DZ ?_;refine D7 ?_;refine zg ⟨_,_,by simp;rfl,by rw[hon];exact⟨by simp[zp],rfl⟩,zO hd⟩
  | some z =>
   have hzv:z=[yT a,yT b,yT e,yT h]:=by
    unfold jI at hz;split at hz<;>cases hz;rfl
   subst hzv;rw[hz]at hnum ho;simp only[vB]at hnum;obtain⟨na,hna⟩:∃x,x=yT a:=⟨_,rfl⟩;obtain⟨nb,hnb⟩:∃x,x=yT b:=⟨_,rfl⟩;obtain⟨ne,hne'⟩:∃x,x=yT e:=⟨_,rfl⟩;obtain⟨nh,hnh⟩:∃x,x=yT h:=⟨_,rfl⟩;rw[<-hna,<-hnb,<-hne',<-hnh]at hnum ho;have hfill:ru=uy->jT .eql (bs ru) ⟨#[102,105,108,108]⟩=some (.bool true):=λq=>by rw[q];exact Zjg _
   have hnfill:ru≠uy->jT .eql (bs ru) ⟨#[102,105,108,108]⟩=some (.bool false):=λq=>Zde λhh=>q (XJ.1 hh)
   have hany:ru=uT->jT .eql (bs ru) ⟨#[97,110,121]⟩=some (.bool true):=λq=>by rw[q];exact Zjg _
   have hnany:ru≠uT->jT .eql (bs ru) ⟨#[97,110,121]⟩=some (.bool false):=λq=>Zde λhh=>q (XJ.1 hh)
   refine yn func143 ntmps143 results143 λnx hd=>?_
   have hlt:id<nx:=qN hd hS DZ;have hltC:idC<nx:=qN hd hC DZ;have g1:¬nx<=id:=DY
   have g2:¬nx<=idC:=DY
   refine D7 ?_
   repeat apply za
   refine zb ?_;refine zk DZ ?_;refine zh (za (zz none (Row.pures [0,1,2,3,4,5,6,7,8,9,10,11,12,13,14,15,16,17,18] .done) mixed trivial ?_));refine zG (hnum) trivial ?_
   repeat apply za
   refine zb ?_;refine zk DZ ?_;refine zh (za (zz (some []) (Row.pures [0,1,2,3,4,5,6,7,8,9,10,11,12] (.alt 13 (.alt 14 (.done) .stop) .stop)) mixed trivial ?_));intro v0;refine qr 0 2 rfl rfl ?_
   repeat apply za
   refine zb ?_;refine zj ?_
   by_cases hf:ru=uy
   ·have e1:=hfill hf;refine za (ze [] e1 ?_);refine zm DZ ?_;refine zb ?_;have hon:o=some ⟨2,0,[],na,nb,ne,1,nh⟩:=by rw[ho,if_pos ⟨rfl,.inl hf⟩];unfold XG;rw[if_pos hf]
    have hx1:∀obs,ext S nx obs id=yh ver ls ⟨pos,d,v,c,ln,m,bad⟩ (.sl idC vC 8 0 cu.length) ds:=λobs=>(zB hlt).trans hS
    have hxC:∀obs,ext S nx obs idC=.cells vC 87 (cu.flatMap Enc.enc):=λobs=>(zB hltC).trans hC
    have hx2:∀A obs,ext (S.set idC A) nx obs id=yh ver ls ⟨pos,d,v,c,ln,m,bad⟩ (.sl idC vC 8 0 cu.length) ds:=λA obs=>by rw[zB hlt,q10 _ _ _ _ hneq,hS]
    refine za (zz (some [nx]) (Row.pures [0,1,2,3,4,6,7] (.alt 5 (.alt 8 (Row.pures [9,10,11] (.alt 12 (.done) .stop)) .stop) .stop)) mixed (yF hx1 hxC hx2 g1 g2) ?_);refine⟨by omega,?_⟩;have hcl:(cu++[(⟨2,0,[],na,nb,ne,1,nh⟩:Cust)]).flatMap Enc.enc=cu.flatMap Enc.enc++[I 2,I 0,.lst 0 [],I na,I nb,I ne,I 1,I nh]:=by rw[Ap];rfl
    have hfin:(S.set idC (.cells (vC+1) 87 (cu.flatMap Enc.enc++[I 2,I 0,.lst 0 [],I na,I nb,I ne,I 1,I nh]))).set id (.cells ver 164 [L (wl ls),I pos,I d,I v,I c,I ln,.sl idC (vC+1) 8 0 (cu.length+1),ds,I m,B bad])=(S.set id (yh ver ls ⟨pos,d,v,c,ln,m,bad⟩ (.sl idC (vC+1) 8 0 (cu.length+1)) ds)).set idC (.cells (vC+1) 87 ((cu++[(⟨2,0,[],na,nb,ne,1,nh⟩:Cust)]).flatMap Enc.enc)):=by
     rw[hcl,Store.set_comm _ idC id _ _ hneq]
    rw[hfin];refine D7 ?_;refine zg ⟨_,_,by simp;rfl,by rw[hon];exact⟨by simp[zp],by rw[Ap];rfl⟩,zO ?_⟩;exact qG (qG hd hlt _) hltC _
   ·have e1:=hnfill hf;refine za (ze [] e1 ?_);refine zk DZ ?_
    by_cases hy:ru=uT
    ·have e2:=hany hy;refine za (ze [] e2 ?_);refine zm DZ ?_;refine zb ?_;have hon:o=some ⟨2,0,[],na,nb,ne,2,nh⟩:=by rw[ho,if_pos ⟨rfl,.inr hy⟩];unfold XG;rw[if_neg hf]
     have hx1:∀obs,ext S nx obs id=yh ver ls ⟨pos,d,v,c,ln,m,bad⟩ (.sl idC vC 8 0 cu.length) ds:=λobs=>(zB hlt).trans hS
     have hxC:∀obs,ext S nx obs idC=.cells vC 87 (cu.flatMap Enc.enc):=λobs=>(zB hltC).trans hC
     have hx2:∀A obs,ext (S.set idC A) nx obs id=yh ver ls ⟨pos,d,v,c,ln,m,bad⟩ (.sl idC vC 8 0 cu.length) ds:=λA obs=>by rw[zB hlt,q10 _ _ _ _ hneq,hS]
     refine za (zz (some [nx]) (Row.pures [0,1,2,3,4,6,7] (.alt 5 (.alt 8 (Row.pures [9,10,11] (.alt 12 (.done) .stop)) .stop) .stop)) mixed (yF hx1 hxC hx2 g1 g2) ?_);refine⟨by omega,?_⟩;have hcl:(cu++[(⟨2,0,[],na,nb,ne,2,nh⟩:Cust)]).flatMap Enc.enc=cu.flatMap Enc.enc++[I 2,I 0,.lst 0 [],I na,I nb,I ne,I 2,I nh]:=by rw[Ap];rfl
     have hfin:(S.set idC (.cells (vC+1) 87 (cu.flatMap Enc.enc++[I 2,I 0,.lst 0 [],I na,I nb,I ne,I 2,I nh]))).set id (.cells ver 164 [L (wl ls),I pos,I d,I v,I c,I ln,.sl idC (vC+1) 8 0 (cu.length+1),ds,I m,B bad])=(S.set id (yh ver ls ⟨pos,d,v,c,ln,m,bad⟩ (.sl idC (vC+1) 8 0 (cu.length+1)) ds)).set idC (.cells (vC+1) 87 ((cu++[(⟨2,0,[],na,nb,ne,2,nh⟩:Cust)]).flatMap Enc.enc)):=by
      rw[hcl,Store.set_comm _ idC id _ _ hneq]
     rw[hfin];refine D7 ?_;refine zg ⟨_,_,by simp;rfl,by rw[hon];exact⟨by simp[zp],by rw[Ap];rfl⟩,zO ?_⟩;exact qG (qG hd hlt _) hltC _
    ·have e2:=hnany hy;have hon:o=none:=by rw[ho,if_neg];rintro⟨_,q | q⟩;exact hf q;exact hy q
     refine za (ze [] e2 ?_);refine zk DZ ?_;refine D7 ?_;refine zg ⟨_,_,by simp;rfl,by rw[hon];exact⟨by simp[zp],rfl⟩,zO hd⟩
 ·rw[Zjh h5];refine yn func143 ntmps143 results143 λnx hd=>?_
  refine D7 ?_;have h5':¬(l.length:Int)=5:=DY
  repeat apply za
  refine ze [] h5' ?_;refine zm DZ ?_;refine D7 ?_;refine zg ⟨_,_,by simp;rfl,⟨by simp[zp],rfl⟩,zO hd⟩
open Go Go.Proofs
theorem XM(ls:List Ln)(p k:Nat):yV ls p (k+1)=yV ls p k++[zP ls (p+k)]:=by simp[yV,AH]
theorem ZaT(ls:List Ln)(p k:Nat):(yV ls p k).length=k:=by simp[yV]
theorem Zji{ls:List Ln}{p k n:Nat}{f:Ln->Bool}(hk:k<n)(h:f (zP ls (p+k))=false):(yV ls p n).all f=false:=by
 rw[BY];exact⟨zP ls (p+k),Am.2 ⟨k,AL.2 hk,rfl⟩,by simp[h]⟩
theorem Zjj{a b:ByteArray}(h:a≠b):(a == b)=false:=by
 have e:(a == b)=(a.data == b.data):=by cases a;cases b;rfl
 rw[e,beq_eq_false_iff_ne];exact λhh=>h (by cases a;cases b;cases hh;rfl)
abbrev XN(id ver:Nat):List (Value × PV):=[(.string ⟨#[118,105,115,105,116]⟩,.fn (.func 142) [.ptr id ver 0] []),(.string ⟨#[116,97,110,107]⟩,.fn (.func 143) [.ptr id ver 0] [])]
def jz(ls:List Ln)(d:Int)(p k:Nat):List Cust:=(yV ls p k).map λl=>(vy d l).1
def jS(ls:List Ln)(d:Int)(p k:Nat):Bool:=(yV ls p k).all λl=>(vy d l).2
theorem Zjk(ls:List Ln)(d:Int)(p k:Nat):jz ls d p (k+1)=jz ls d p k++[(vy d (zP ls (p+k))).1]:=by simp[jz,XM]
theorem Zjl(ls:List Ln)(d:Int)(p k:Nat):jS ls d p (k+1)=(jS ls d p k && (vy d (zP ls (p+k))).2):=by simp[jS,XM]
theorem Zjm(ls:List Ln)(d:Int)(p k:Nat):(jz ls d p k).length=k:=by simp[jz,ZaT]
theorem Zt4{S:Store}{id ver idC vC:Nat}(ls:List Ln)(r:Rdr)(n:Nat)(ds:PV)(hS:S id=yh ver ls r (.sl idC vC 8 0 0) ds)(hC:S idC=.cells vC 87 [])(hl:LnsOk ls)(hm:r.m=n)(hp:r.pos<=ls.length)(hb:r.bad=false):
  Spec prog 105 [.ptr id ver 0] S (λq S'=>if (yV ls r.pos n).all (λl=>(wG r.d l).isSome)=true then
    q=B true/\r.pos+n<=ls.length/\S'=(S.set id (yh ver ls { r with pos:=r.pos+n,bad:=!(jS ls r.d r.pos n) } (.sl idC (vC+n) 8 0 n) ds)).set idC (.cells (vC+n) 87 ((jz ls r.d r.pos n).flatMap Enc.enc))
   else q=B false/\∃r' cs' oC,S'=(S.set id (yh ver ls r' cs' ds)).set idC oC):=by
 have hne:id≠idC:=by rintro rfl;rw[hS]at hC;simp at hC
 obtain⟨pos,d,v,c,ln,m,bad⟩:=r;simp only at hm hp hb ⊢;subst hm hb;obtain⟨o,ho⟩:∃o,o=(yV ls pos n).all (λl=>(wG d l).isSome):=⟨_,rfl⟩;rw[<-ho];obtain⟨St,hSt⟩:∃St:Nat->Store,∀k,St k=(S.set id (yh ver ls ⟨pos+k,d,v,c,ln,n,!(jS ls d pos k)⟩ (.sl idC (vC+k) 8 0 k) ds)).set idC (.cells (vC+k) 87 ((jz ls d pos k).flatMap Enc.enc)):=⟨_,λ_=>rfl⟩;have hS0:St 0=S:=by
  rw[hSt];have e1:S.set id (yh ver ls ⟨pos+0,d,v,c,ln,n,!(jS ls d pos 0)⟩ (.sl idC (vC+0) 8 0 0) ds)=S:=Ym S id _ hS;rw[e1];exact Ym S idC _ hC
 refine yn func105 ntmps105 results105 λnx hd=>?_
 have hlt:id<nx:=qN hd hS DZ;have hltC:idC<nx:=qN hd hC DZ;have g1:¬nx<=id:=DY
 have g2:¬nx<=idC:=DY
 have xi:∀k,St k id=yh ver ls ⟨pos+k,d,v,c,ln,n,!(jS ls d pos k)⟩ (.sl idC (vC+k) 8 0 k) ds:=λk=>by rw[hSt,q10 _ _ _ _ hne,q11]
 have xc:∀k,St k idC=.cells (vC+k) 87 ((jz ls d pos k).flatMap Enc.enc):=λk=>by rw[hSt,q11]
 have hdS:∀k,zS nx (St k):=λk=>by rw[hSt];exact qG (qG hd hlt _) hltC _
 have x1:∀obs,ext S nx obs id=yh ver ls ⟨pos,d,v,c,ln,n,false⟩ (.sl idC vC 8 0 0) ds:=λobs=>(zB hlt).trans hS
 refine D7 ?_;refine D7 ?_;intro v0;refine λhsuf=>YB (.inr rfl) underlying202 underlying9 rfl rfl rfl (by rw[Zq];rfl) rfl ?_
 refine⟨_,_,yl _ (Ag _) DZ,zL hsuf ?_⟩;refine λhsuf=>YB (.inr rfl) underlying202 underlying9 rfl rfl rfl (by rw[Zq];simp;rfl) (by simp[jd,qS];rfl) ?_
 refine⟨_,_,yl _ (Ag _) DZ,zL hsuf ?_⟩
 repeat apply za
 refine ze [] x1 ?_;have hform:∀k r' cs',(St k).set id (yh ver ls r' cs' ds)=(S.set id (yh ver ls r' cs' ds)).set idC (.cells (vC+k) 87 ((jz ls d pos k).flatMap Enc.enc)):=λk r' cs'=>by
  rw[hSt,Store.set_comm _ idC id _ _ hne,Store.set_set]
 refine zj (jC (λk:Nat=>k<=n/\pos+k<=ls.length/\∀l∈yV ls pos k,(wG d l).isSome=true) (λk=>[(0,.ptr id ver 0),(3,.mp nx v0),(16,I n),(17,I k)]) St (λ_=>[.map v0 (XN id ver)]) (λk=>n-k) (zT 0 [] ⟨by simp,by simpa using hp,by simp[yV]⟩ DZ hS0 rfl) ?_);rintro k ⟨hk,hpk,hall⟩;refine D7 ?_;refine za (zv rfl (λhc=>?_) (λhc=>?_))
 ·simp at hc;have hkn:k<n:=DY
  have hnext:=λS (h:S id=_)=>WV (S:=S) (id:=id) (ver:=ver) ls ⟨pos+k,d,v,c,ln,n,!(jS ls d pos k)⟩ (.sl idC (vC+k) 8 0 k) ds h hl.1
  have hla:=hl.at (pos+k);refine zh (za (zj ?_));obtain⟨S1,hS1⟩:∃S1,S1=(St k).set id (yh ver ls (yW ls ⟨pos+k,d,v,c,ln,n,!(jS ls d pos k)⟩) (.sl idC (vC+k) 8 0 k) ds):=⟨_,rfl⟩;have hd1:zS nx S1:=by rw[hS1];exact qG (hdS k) hlt _
  have hbad:wG d (zP ls (pos+k))=none->o=false:=λq=>by rw[ho];exact Zji hkn (by rw[q];rfl)
  simp only at hnext;refine za (xx [] D3 D3 λK Gc Gh hK hGc hGh X hX0 hX=>?_);simp -implicitDefEqProofs [hX0,hX]
  try clear hX0 hX X
  refine hGc _ _ _ _ _ _ _ λhsuf=>((hnext _ ((zB hlt).trans (xi k))).mono ?_).v
  rintro _ _ ⟨rfl,rfl⟩;refine⟨S1,_,by rw[qc _ hlt,<-hS1],?_⟩;clear hGc hGh;clear Gc Gh;refine xZ hsuf (D:=[]) D3 λGc Gh hGc hGh X hX0 hX=>?_
  simp -implicitDefEqProofs [hX0,hX];clear hX0 hX X;refine hK _ _ _ ?_;clear hK hGc hGh;clear K Gc Gh;clear hnext hsuf;rcases hline:zP ls (pos+k) with _ | ⟨w,l'⟩
  ·have hof:=hbad (by rw[hline];rfl)
   repeat apply za
   refine zb ?_;refine zm DZ ?_;refine D7 ?_;refine zg ⟨_,_,by simp;rfl,by rw[hof];simp only[AV,if_false];exact⟨by simp[zp],_,_,_,by rw[hS1];exact hform k _ _⟩,zO hd1⟩
  ·repeat apply za
   refine zb ?_;refine zk D2 ?_;refine zh ?_;have hm0:ext S1 nx [.map v0 (XN id ver)] nx=.map v0 (XN id ver):=by rw[Zq];rfl
   have hp1:pos+k<ls.length:=by
    apply DB;intro hh;unfold zP at hline;rw[Aa,Ak hh]at hline;cases hline
   have hnk:yW ls ⟨pos+k,d,v,c,ln,n,!(jS ls d pos k)⟩=⟨pos+k+1,d,v,c,ln,n,!(jS ls d pos k)⟩:=if_pos hp1;rw[hnk]at hS1;have hcl:=Zjm ls d pos k;have hls:=hl.1;have hS1i:S1 id=yh ver ls ⟨pos+k+1,d,v,c,ln,n,!(jS ls d pos k)⟩ (.sl idC (vC+k) 8 0 (jz ls d pos k).length) ds:=by rw[hS1,q11,hcl]
   have hS1c:S1 idC=.cells (vC+k) 87 ((jz ls d pos k).flatMap Enc.enc):=by rw[hS1,q10 _ _ _ _ (Ne.symm hne),xc]
   have hl':l'.length<=1048576/\∀u∈l',u.length<=1048576:=by
    rw[hline]at hla;exact⟨by have:=hla.1;simp at this;omega,λu hu=>hla.2 u (by simp[hu])⟩
   have htl:List.take l'.length ((l'.map bs).flatMap Enc.enc)=(l'.map bs).flatMap Enc.enc:=Af (by rw[Zax,List.length_map];exact Ag _);have hLL:L (l'.map bs)=.lst l'.length ((l'.map bs).flatMap Enc.enc):=by unfold L;rw[List.length_map]
   have hset1:∀r' cs',S1.set id (yh ver ls r' cs' ds)=(S.set id (yh ver ls r' cs' ds)).set idC (.cells (vC+k) 87 ((jz ls d pos k).flatMap Enc.enc)):=λr' cs'=>by rw[hS1,Store.set_set,hform]
   have hset2:∀r' cs' oC,(S1.set id (yh ver ls r' cs' ds)).set idC oC=(S.set id (yh ver ls r' cs' ds)).set idC oC:=λr' cs' oC=>by rw[hset1,Store.set_set]
   obtain⟨zf,hzf⟩:∃z,Program.zeroOf prog 201=some z:=B4.1 D1;have q1:w≠vX->(bs w == ⟨#[118,105,115,105,116]⟩)=false:=λh=>Zjj λhh=>h (XJ.1 hh)
   have q2:w≠QO->(bs w == ⟨#[116,97,110,107]⟩)=false:=λh=>Zjj λhh=>h (XJ.1 hh)
   by_cases hv:w=vX
   ·have hf:jd .string (.string (bs w)) (XN id ver) 0=some (some (0,.fn (.func 142) [.ptr id ver 0] [])):=by rw[hv];rfl
    refine D7 ?_;refine λhsuf=>Zp rfl underlying202 underlying9 rfl rfl rfl hm0 hf hzf ?_
    refine⟨_,_,rfl,?_⟩;have hlk:ZW true zf (some (0,.fn (.func 142) [.ptr id ver 0] []))=.tup [.fn (.func 142) [.ptr id ver 0] [],B true]:=rfl;refine jM [] hlk hsuf ?_;have hvis:=λS (h1:S id=_) (h2:S idC=_)=>Zt2 (S:=S) (id:=id) (ver:=ver) (idC:=idC) (vC:=vC+k) ls ⟨pos+k+1,d,v,c,ln,n,!(jS ls d pos k)⟩ (jz ls d pos k) ds l' h1 h2 (by rw[hcl];omega) hl'
    have hcz:wG d (zP ls (pos+k))=QP d l':=by rw[hline];exact if_pos hv
    simp only[hLL]at hvis;cases hvz:QP d l' with
    | none =>
     have hof:=hbad (by rw[hcz,hvz]);rw[hvz]at hvis;simp only at hvis;refine za (ze [(2,34)] htl ?_);refine λhsuf=>((hvis _ ((zB hlt).trans hS1i) ((zB hltC).trans hS1c)).mono ?_).v
     rintro _ _ ⟨rfl,b,rfl⟩;refine⟨_,_,qc _ hlt,jM [(2,34)] trivial hsuf ?_⟩;refine zm DZ ?_;refine D7 ?_;refine zg ⟨_,_,by simp;rfl,by rw[hof];simp only[AV,if_false];exact⟨by simp[zp],_,_,_,hset1 _ _⟩,zO (qG hd1 hlt _)⟩
    | some cc =>
     obtain⟨cu1,ok1⟩:=cc;rw[hvz]at hvis;simp only at hvis;refine za (ze [(2,34)] htl ?_);refine λhsuf=>((hvis _ ((zB hlt).trans hS1i) ((zB hltC).trans hS1c)).mono ?_).v
     rintro _ _ ⟨rfl,rfl⟩;refine⟨_,_,by rw[qc _ hlt,qc _ hltC],jM [(2,34)] trivial hsuf ?_⟩;refine zk DZ ?_;refine zh (zb ?_);have hcv:vy d (zP ls (pos+k))=(cu1,ok1):=by unfold vy;rw[hcz,hvz];rfl
     have hst:St (k+1)=(S1.set id (yh ver ls ⟨pos+k+1,d,v,c,ln,n,!(jS ls d pos k) || !ok1⟩ (.sl idC (vC+k+1) 8 0 ((jz ls d pos k).length+1)) ds)).set idC (.cells (vC+k+1) 87 ((jz ls d pos k++[cu1]).flatMap Enc.enc)):=by
      rw[hset2,hSt,Zjl,Zjk,hcv,hcl,Bool.not_and];rfl
     exact zq (k+1) [] ⟨hkn,hp1,λl hlm=>by
      rw[XM,AB]at hlm;rcases hlm with q | q
      ·exact hall l q
      ·obtain rfl:l=zP ls (pos+k):=by simpa using q
       rw[hcz,hvz];rfl⟩ DY (by simp[zu k (by omega)]) (hst.trans (by rw[Ap];rfl)) rfl
   ·by_cases hk:w=QO
    ·have hf:jd .string (.string (bs w)) (XN id ver) 0=some (some (1,.fn (.func 143) [.ptr id ver 0] [])):=by rw[hk];rfl
     refine D7 ?_;refine λhsuf=>Zp rfl underlying202 underlying9 rfl rfl rfl hm0 hf hzf ?_
     refine⟨_,_,rfl,?_⟩;have hlk:ZW true zf (some (1,.fn (.func 143) [.ptr id ver 0] []))=.tup [.fn (.func 143) [.ptr id ver 0] [],B true]:=rfl;refine jM [] hlk hsuf ?_;have htan:=λS (h1:S id=_) (h2:S idC=_)=>Zt3 (S:=S) (id:=id) (ver:=ver) (idC:=idC) (vC:=vC+k) ls ⟨pos+k+1,d,v,c,ln,n,!(jS ls d pos k)⟩ (jz ls d pos k) ds l' h1 h2 (by rw[hcl];omega) hl'
     have hcz:wG d (zP ls (pos+k))=(YW l').map (·,true):=by rw[hline];exact(if_neg hv).trans (if_pos hk)
     simp only[hLL]at htan;cases hvz:YW l' with
     | none =>
      have hof:=hbad (by rw[hcz,hvz];rfl);rw[hvz]at htan;simp only at htan;refine za (ze [(2,34)] htl ?_);refine λhsuf=>((htan _ ((zB hlt).trans hS1i) ((zB hltC).trans hS1c)).mono ?_).v
      rintro _ _ ⟨rfl,rfl⟩;refine⟨_,_,rfl,jM [(2,34)] trivial hsuf ?_⟩;refine zm DZ ?_;refine D7 ?_;refine zg ⟨_,_,by simp;rfl,by rw[hof];simp only[AV,if_false];exact⟨by simp[zp],_,_,_,by rw[hS1];exact hform k _ _⟩,zO hd1⟩
     | some cu1 =>
      rw[hvz]at htan;simp only at htan;refine za (ze [(2,34)] htl ?_);refine λhsuf=>((htan _ ((zB hlt).trans hS1i) ((zB hltC).trans hS1c)).mono ?_).v
      rintro _ _ ⟨rfl,rfl⟩;refine⟨_,_,by rw[qc _ hlt,qc _ hltC],jM [(2,34)] trivial hsuf ?_⟩;refine zk DZ ?_;refine zh (zb ?_);have hcv:vy d (zP ls (pos+k))=(cu1,true):=by unfold vy;rw[hcz,hvz];rfl
      have hst:St (k+1)=(S1.set id (yh ver ls ⟨pos+k+1,d,v,c,ln,n,!(jS ls d pos k)⟩ (.sl idC (vC+k+1) 8 0 ((jz ls d pos k).length+1)) ds)).set idC (.cells (vC+k+1) 87 ((jz ls d pos k++[cu1]).flatMap Enc.enc)):=by
       rw[hset2,hSt,Zjl,Zjk,hcv,hcl,DQ];rfl
      exact zq (k+1) [] ⟨hkn,hp1,λl hlm=>by
       rw[XM,AB]at hlm;rcases hlm with q | q
       ·exact hall l q
       ·obtain rfl:l=zP ls (pos+k):=by simpa using q
        rw[hcz,hvz];rfl⟩ DY (by simp[zu k (by omega)]) (hst.trans (by rw[Ap];rfl)) rfl
    ·have hf:jd .string (.string (bs w)) (XN id ver) 0=some none:=by
      simp[jd,Instr.sameNow,q1 hv,q2 hk]
     have hcz:wG d (zP ls (pos+k))=none:=by rw[hline];exact(if_neg hv).trans (if_neg hk)
     have hof:=hbad hcz;refine D7 ?_;refine λhsuf=>Zp rfl underlying202 underlying9 rfl rfl rfl hm0 hf hzf ?_
     refine⟨_,_,rfl,?_⟩;have hlk:ZW true zf none=.tup [Qc zf,B false]:=rfl;refine jM [] hlk hsuf ?_;refine za (ze [(2,34)] zH ?_);refine zm DZ ?_;refine D7 ?_;refine zg ⟨_,_,by simp;rfl,by rw[hof];simp only[AV,if_false];exact⟨by simp[zp],_,_,_,by rw[hS1];exact hform k _ _⟩,zO hd1⟩
 ·simp at hc;obtain rfl:k=n:=DY
  have hot:o=true:=by rw[ho,AA];exact hall
  refine zx (D7 ?_);refine zg ⟨_,_,by simp;rfl,by rw[hot];simp only[if_true];exact⟨by simp[zp],hpk,hSt _⟩,zO (hdS _)⟩
def xJ(ls:List Ln)(p k:Nat):List (List Int):=(yV ls p k).map λl=>l.map yT
theorem Zt5(ls:List Ln)(p k:Nat):xJ ls p (k+1)=xJ ls p k++[(zP ls (p+k)).map yT]:=by simp[xJ,XM]
theorem Zjn(ls:List Ln)(p k:Nat):(xJ ls p k).length=k:=by simp[xJ,ZaT]
theorem Zt6{S:Store}{id ver idD vD:Nat}(ls:List Ln)(r:Rdr)(n:Nat)(cs:PV)(hS:S id=yh ver ls r cs (.sl idD vD 1 0 0))(hD:S idD=.cells vD 26 [])(hl:LnsOk ls)(hm:r.m=n)(hn:n<=1048576)(hp:r.pos<=ls.length):
  Spec prog 106 [.ptr id ver 0] S (λq S'=>if zP ls r.pos=[jy]/\(yV ls (r.pos+1) (n+1)).all (vz (n+1))=true then
    q=B true/\r.pos+1+(n+1)<=ls.length/\S'=(S.set id (yh ver ls { r with pos:=r.pos+1+(n+1) } cs (.sl idD (vD+(n+1)) 1 0 (n+1)))).set idD (.cells (vD+(n+1)) 26 ((xJ ls (r.pos+1) (n+1)).flatMap Enc.enc))
   else q=B false/\∃r' ds' oD,S'=(S.set id (yh ver ls r' cs ds')).set idD oD):=by
 have hne:id≠idD:=by rintro rfl;rw[hS]at hD;simp at hD
 obtain⟨pos,d,v,c,ln,m,bad⟩:=r;simp only at hm hp ⊢;subst hm;obtain⟨o,ho⟩:∃o:Bool,o=(decide (zP ls pos=[jy]) && (yV ls (pos+1) (n+1)).all (vz (n+1))):=⟨_,rfl⟩;have hiff:(zP ls pos=[jy]/\(yV ls (pos+1) (n+1)).all (vz (n+1))=true)<->o=true:=by rw[ho,Aw,decide_eq_true_eq]
 simp only[hiff];obtain⟨St,hSt⟩:∃St:Nat->Store,∀k,St k=(S.set id (yh ver ls ⟨pos+1+k,d,v,c,ln,n,bad⟩ cs (.sl idD (vD+k) 1 0 k))).set idD (.cells (vD+k) 26 ((xJ ls (pos+1) k).flatMap Enc.enc)):=⟨_,λ_=>rfl⟩;have hnext0:=λS (h:S id=_)=>WV (S:=S) (id:=id) (ver:=ver) ls ⟨pos,d,v,c,ln,n,bad⟩ cs (.sl idD vD 1 0 0) h hl.1
 have heq:=Zje (zP ls pos) [jy] (hl.at pos).1 DZ;obtain⟨S1,hS1⟩:∃S1,S1=S.set id (yh ver ls (yW ls ⟨pos,d,v,c,ln,n,bad⟩) cs (.sl idD vD 1 0 0)):=⟨_,rfl⟩;have hS1d:S1 idD=.cells vD 26 []:=by rw[hS1,q10 _ _ _ _ (Ne.symm hne),hD]
 refine yn func106 ntmps106 results106 λnx hd=>?_
 have hlt:id<nx:=qN hd hS DZ;have hltD:idD<nx:=qN hd hD DZ;have g1:¬nx<=id:=DY
 have g2:¬nx<=idD:=DY
 have hd1:zS nx S1:=by rw[hS1];exact qG hd hlt _
 have hdS:∀k,zS nx (St k):=λk=>by rw[hSt];exact qG (qG hd hlt _) hltD _
 simp only at hnext0;refine D7 ?_
 repeat apply za
 refine zb ?_;refine λhsuf=>((hnext0 _ ((zB hlt).trans hS)).mono ?_).v
 rintro _ _ ⟨rfl,rfl⟩;refine⟨S1,[],by rw[qc _ hlt,<-hS1],zL hsuf ?_⟩;refine λhsuf=>((heq _).mono ?_).v
 rintro _ _ ⟨rfl,rfl⟩;refine⟨_,_,rfl,zL hsuf ?_⟩
 by_cases hw:zP ls pos=[jy]
 ·have hp1:pos<ls.length:=by
   apply DB;intro hh;unfold zP at hw;rw[Aa,Ak hh]at hw;cases hw
  have hnk:yW ls ⟨pos,d,v,c,ln,n,bad⟩=⟨pos+1,d,v,c,ln,n,bad⟩:=if_pos hp1;rw[hnk]at hS1;have hS10:St 0=S1:=by
   rw[hSt,hS1];refine Ym _ idD _ ?_;rw[q10 _ _ _ _ (Ne.symm hne),hD];rfl
  have x1:∀obs,ext S1 nx obs id=yh ver ls ⟨pos+1,d,v,c,ln,n,bad⟩ cs (.sl idD vD 1 0 0):=λobs=>by rw[zB hlt,hS1,q11]
  have xi:∀k,St k id=yh ver ls ⟨pos+1+k,d,v,c,ln,n,bad⟩ cs (.sl idD (vD+k) 1 0 k):=λk=>by rw[hSt,q10 _ _ _ _ hne,q11]
  have xd:∀k,St k idD=.cells (vD+k) 26 ((xJ ls (pos+1) k).flatMap Enc.enc):=λk=>by rw[hSt,q11]
  have wn:IntKind.i64.wrap ((n:Int)+1)=(n:Int)+1:=by rw[AG];omega
  refine zk (by simp[hw]) ?_;refine zh ?_
  repeat apply za
  refine ze [] (zo x1 wn) ?_;refine zj (jC (λk:Nat=>k<=n+1/\pos+1+k<=ls.length/\∀l∈yV ls (pos+1) k,vz (n+1) l=true) (λk=>[(0,.ptr id ver 0),(14,I ((n:Int)+1)),(15,I k)]) St (λ_=>[]) (λk=>n+1-k) (zT 0 [] ⟨by simp,by omega,by simp[yV]⟩ DZ hS10 rfl) ?_);rintro k ⟨hk,hpk,hall⟩;refine D7 ?_
  by_cases hkn:k<n+1
  ·have hki:(k:Int)<(n:Int)+1:=DY
   have hnext:=λS (h:S id=_)=>WV (S:=S) (id:=id) (ver:=ver) ls ⟨pos+1+k,d,v,c,ln,n,bad⟩ cs (.sl idD (vD+k) 1 0 k) h hl.1
   have hla:=hl.at (pos+1+k);have hnum:=ZdD (zP ls (pos+1+k)) hla.1 (λw hw=>by have:=hla.2 w hw;omega);obtain⟨S2,hS2⟩:∃S2,S2=(St k).set id (yh ver ls (yW ls ⟨pos+1+k,d,v,c,ln,n,bad⟩) cs (.sl idD (vD+k) 1 0 k)):=⟨_,rfl⟩;have hd2:zS nx S2:=by rw[hS2];exact qG (hdS k) hlt _
   have hform:∀r' ds',(St k).set id (yh ver ls r' cs ds')=(S.set id (yh ver ls r' cs ds')).set idD (.cells (vD+k) 26 ((xJ ls (pos+1) k).flatMap Enc.enc)):=λr' ds'=>by
    rw[hSt,Store.set_comm _ idD id _ _ hne,Store.set_set]
   have hbad:vz (n+1) (zP ls (pos+1+k))=false->o=false:=λq=>by rw[ho,Zji hkn q,Dn]
   simp only at hnext;refine za (zm D2 ?_);refine zh (za (zj ?_));obtain⟨p2,hr2⟩:∃p2,yW ls ⟨pos+1+k,d,v,c,ln,n,bad⟩=⟨p2,d,v,c,ln,n,bad⟩:=by
    unfold yW;split
    ·exact⟨_,rfl⟩
    ·exact⟨_,rfl⟩
   have hp2:pos+1+k<ls.length->p2=pos+1+k+1:=λh=>by
    unfold yW at hr2;rw[if_pos h]at hr2;exact(congrArg Rdr.pos hr2).symm
   rw[hr2]at hS2 hnext;have x2:∀obs,ext S2 nx obs id=yh ver ls ⟨p2,d,v,c,ln,n,bad⟩ cs (.sl idD (vD+k) 1 0 k):=λobs=>by rw[zB hlt,hS2,q11]
   cases hz:jI (zP ls (pos+1+k)) with
   | none =>
    have hof:=hbad (by unfold vz;rw[hz];rfl);rw[hz]at hnum;simp only[vB]at hnum;refine D7 ?_;refine λhsuf=>((hnext _ ((zB hlt).trans (xi k))).mono ?_).v
    rintro _ _ ⟨rfl,rfl⟩;refine⟨S2,_,by rw[qc _ hlt,<-hS2],zL hsuf ?_⟩;refine λhsuf=>((hnum _).mono ?_).v
    rintro _ _ ⟨rfl,rfl⟩;refine⟨_,_,rfl,zL hsuf ?_⟩
    repeat apply za
    refine ze [(2,25)] zH ?_;refine zm DZ ?_;refine D7 ?_;refine zg ⟨_,_,by simp;rfl,by rw[hof];simp only[AV,if_false];exact⟨by simp[zp],_,_,_,by rw[hS2];exact hform _ _⟩,zO hd2⟩
   | some z =>
    have hzl:=Zi3 hz;rw[hz]at hnum;simp only[vB]at hnum;refine D7 ?_;refine λhsuf=>((hnext _ ((zB hlt).trans (xi k))).mono ?_).v
    rintro _ _ ⟨rfl,rfl⟩;refine⟨S2,_,by rw[qc _ hlt,<-hS2],zL hsuf ?_⟩;refine λhsuf=>((hnum _).mono ?_).v
    rintro _ _ ⟨rfl,rfl⟩;refine⟨_,_,rfl,zL hsuf ?_⟩
    by_cases hlen:z.length=n+1
    ·have hll:(z.length:Int)=(n:Int)+1:=DY
     repeat apply za
     refine ze [(2,25)] (zD x2 wn hll) ?_;refine zk DZ ?_;refine zh ?_;have hll2:(zP ls (pos+1+k)).length=n+1:=by rw[<-hzl];exact hlen
     have hpl:pos+1+k<ls.length:=by
      apply DB;intro hh;unfold zP at hll2;rw[Aa,Ak hh]at hll2;simp at hll2
     obtain rfl:=hp2 hpl;have hzv:z=(zP ls (pos+1+k)).map yT:=by
      unfold jI at hz;split at hz<;>cases hz;rfl
     have hdl:=Zjn ls (pos+1) k;have hfl:((xJ ls (pos+1) k).flatMap Enc.enc).length=k:=by rw[jW,hdl]
     have htk:List.take k ((xJ ls (pos+1) k).flatMap Enc.enc)=(xJ ls (pos+1) k).flatMap Enc.enc:=Af (by rw[hfl];exact Ag _);have xd2:∀obs,ext S2 nx obs idD=.cells (vD+k) 26 ((xJ ls (pos+1) k).flatMap Enc.enc):=λobs=>by rw[zB hltD,hS2,q10 _ _ _ _ (Ne.symm hne),xd]
     have x3:∀A obs,ext (S2.set idD A) nx obs id=yh ver ls ⟨pos+1+k+1,d,v,c,ln,n,bad⟩ cs (.sl idD (vD+k) 1 0 k):=λA obs=>by rw[zB hlt,q10 _ _ _ _ hne,hS2,q11]
     have hkb:k<=1048576:=DY
     clear hfl;refine ze [] (yd x2 xd2 x3 g1 g2 htk) ?_;refine⟨by omega,?_⟩;have hst:St (k+1)=(S2.set idD (.cells (vD+k+1) 26 ((xJ ls (pos+1) k).flatMap Enc.enc++[L z]))).set id (.cells ver 164 [L (wl ls),I ((pos:Int)+1+k+1),I d,I v,I c,I ln,cs,.sl idD (vD+k+1) 1 0 (k+1),I n,B bad]):=by
      have e:(.cells ver 164 [L (wl ls),I ((pos:Int)+1+k+1),I d,I v,I c,I ln,cs,.sl idD (vD+k+1) 1 0 (k+1),I n,B bad]:Ob)=yh ver ls ⟨pos+1+k+1,d,v,c,ln,n,bad⟩ cs (.sl idD (vD+k+1) 1 0 (k+1)):=rfl;rw[e,hS2,Store.set_comm _ idD id _ _ hne,Store.set_set,hform,Store.set_set,hSt,Zt5,Ap,<-hzv];rfl
     rw[<-hst];refine zb ?_;exact zq (k+1) [] ⟨hkn,hpl,λl hlm=>by
      rw[XM,AB]at hlm;rcases hlm with q | q
      ·exact hall l q
      ·obtain rfl:l=zP ls (pos+1+k):=by simpa using q
       unfold vz;rw[hz,decide_eq_true hll2];rfl⟩ DY (by simp[zu k (by omega)]) rfl rfl
    ·have hll:¬(z.length:Int)=(n:Int)+1:=DY
     have hof:=hbad (by unfold vz;rw[hz,<-hzl,decide_eq_false hlen];rfl)
     repeat apply za
     refine ze [(2,25)] (zD x2 wn hll) ?_;refine zm DZ ?_;refine D7 ?_;refine zg ⟨_,_,by simp;rfl,by rw[hof];simp only[AV,if_false];exact⟨by simp[zp],_,_,_,by rw[hS2];exact hform _ _⟩,zO hd2⟩
  ·obtain rfl:k=n+1:=DY
   have hot:o=true:=by rw[ho,decide_eq_true hw,AA.2 hall];rfl
   refine za (zk DZ ?_);refine zx (D7 ?_);refine zg ⟨_,_,by simp;rfl,by rw[hot];simp only[if_true];exact⟨by simp[zp],hpk,hSt _⟩,zO (hdS _)⟩
 ·have hof:o=false:=by rw[ho,decide_eq_false hw,Dm]
  refine zm (by simp[hw]) ?_;refine D7 ?_;refine zg ⟨_,_,by simp;rfl,by rw[hof];simp only[AV,if_false];exact⟨by simp[zp],_,_,_,(by rw[<-hS1];exact(Ym S1 idD _ hS1d).symm)⟩,zO hd1⟩
open Go Go.Proofs
abbrev RdX:=Rdr × List Cust × List (List Int)
def r0:Rdr:=⟨0,0,0,0,0,0,false⟩
def wU(ls:List Ln)(k:Nat)(x:RdX):Option RdX:=match k with
 | 0=>if zP ls x.1.pos=[wA,[49]] then some (yW ls x.1,x.2) else none
 | 1=>match qi (zP ls x.1.pos) [wB,wC,wD,wE] with
  | some [d,v,c,l]=>some ({ yW ls x.1 with d:=d,v:=v,c:=c,l:=l },x.2)
  | _=>none
 | 2=>match qi (zP ls x.1.pos) [wF] with
  | some [m]=>some ({ yW ls x.1 with m:=m },x.2)
  | _=>none
 | 3=>if (yV ls x.1.pos x.1.m.toNat).all (λl=>(wG x.1.d l).isSome)=true then some ({ x.1 with pos:=x.1.pos+x.1.m.toNat,bad:=!(jS ls x.1.d x.1.pos x.1.m.toNat) },jz ls x.1.d x.1.pos x.1.m.toNat,x.2.2) else none
 | 4=>if zP ls x.1.pos=[jy]/\(yV ls (x.1.pos+1) (x.1.m.toNat+1)).all (vz (x.1.m.toNat+1))=true then some ({ x.1 with pos:=x.1.pos+1+(x.1.m.toNat+1) },x.2.1,xJ ls (x.1.pos+1) (x.1.m.toNat+1)) else none
 | 5=>if x.1.pos=ls.length then some x else none
 | _=>some x
def yJ(ls:List Ln):Nat->Option RdX
 | 0=>some (r0,[],[])
 | k+1=>(yJ ls k).bind (wU ls k)
theorem XO{ls:List Ln}{r:Rdr}(h:zP ls r.pos≠[]):yW ls r={ r with pos:=r.pos+1 }/\r.pos+1<=ls.length:=by
 by_cases hp:r.pos<ls.length
 ·exact⟨if_pos hp,hp⟩
 simp_all[zP]
theorem ZaV{l:Ln}{names:Ln}{z:List Int}(h:qi l names=some z)(hn:names≠[]):l≠[]:=by grind[qi,Jz]
theorem Zjo(w:Wd):0<=yT w:=by simp[yT]
theorem Zjp{l names:Ln}{z:List Int}(h:qi l names=some z):∀x∈z,0<=x:=by
 unfold qi jI at h;split at h
 ·split at h
  ·cases h;simp[Zjo]
  ·cases h
 ·cases h
theorem Zt7(ls:List Ln):YX ls=(yJ ls 6).map λx=>(⟨x.1.d,x.1.v,x.1.c,x.1.l,x.2.1,x.2.2⟩,!x.1.bad):=by
 unfold YX
 by_cases h0:zP ls 0=[wA,[49]]
 ·obtain⟨p0,q0⟩:=XO (ls:=ls) (r:=r0) (by show zP ls 0≠[];rw[h0];simp);have s1:yJ ls 1=some (⟨1,0,0,0,0,0,false⟩,[],[]):=by
   show (if zP ls r0.pos=[wA,[49]] then some (yW ls r0,_) else none)=_
   rw[p0];exact if_pos h0
  rw[if_pos h0];cases h1:qi (zP ls 1) [wB,wC,wD,wE] with
  | none =>
   simp_all[yJ,wU]
  | some z =>
   obtain⟨d,v,c,l,rfl⟩:∃d v c l,z=[d,v,c,l]:=by
    have:=XL h1
    match z,this with
    | [d,v,c,l],_=>simp
   obtain⟨p1,q1⟩:=XO (ls:=ls) (r:=⟨1,0,0,0,0,0,false⟩) (ZaV h1 DZ);have s2:yJ ls 2=some (⟨2,d,v,c,l,0,false⟩,[],[]):=by
    show (yJ ls 1).bind (wU ls 1)=_
    rw[s1]
    show (match qi (zP ls 1) _ with | some [d,v,c,l]=>some ({ yW ls _ with d:=d,v:=v,c:=c,l:=l },_) | _=>none)=_
    rw[h1,p1]
   simp only[];cases h2:qi (zP ls 2) [wF] with
   | none =>
    simp_all[yJ,wU]
   | some z2 =>
    obtain⟨m,rfl⟩:∃m,z2=[m]:=by
     have:=XL h2
     match z2,this with
     | [m],_=>simp
    obtain⟨p2,q2⟩:=XO (ls:=ls) (r:=⟨2,d,v,c,l,0,false⟩) (ZaV h2 DZ);have s3:yJ ls 3=some (⟨3,d,v,c,l,m,false⟩,[],[]):=by
     show (yJ ls 2).bind (wU ls 2)=_
     rw[s2]
     show (match qi (zP ls 2) _ with | some [m]=>some ({ yW ls _ with m:=m },_) | _=>none)=_
     rw[h2,p2]
    simp only[]
    by_cases h3:(yV ls 3 m.toNat).all (λl=>(wG d l).isSome)=true
    ·have s4:yJ ls 4=some (⟨3+m.toNat,d,v,c,l,m,!(jS ls d 3 m.toNat)⟩,jz ls d 3 m.toNat,[]):=by
      show (yJ ls 3).bind (wU ls 3)=_
      rw[s3];exact if_pos h3
     by_cases h4:zP ls (3+m.toNat)=[jy]/\(yV ls (4+m.toNat) (m.toNat+1)).all (vz (m.toNat+1))=true
     ·have e4:3+m.toNat+1=4+m.toNat:=DY
      have s5:yJ ls 5=some (⟨4+m.toNat+(m.toNat+1),d,v,c,l,m,!(jS ls d 3 m.toNat)⟩,jz ls d 3 m.toNat,xJ ls (4+m.toNat) (m.toNat+1)):=by
       show (yJ ls 4).bind (wU ls 4)=_
       rw[s4]
       show (if zP ls (3+m.toNat)=[jy]/\(yV ls (3+m.toNat+1) (m.toNat+1)).all (vz (m.toNat+1))=true then some ((⟨3+m.toNat+1+(m.toNat+1),d,v,c,l,m,!(jS ls d 3 m.toNat)⟩:Rdr),jz ls d 3 m.toNat,xJ ls (3+m.toNat+1) (m.toNat+1)) else none)=_
       rw[e4];exact if_pos h4
      by_cases h5:ls.length=5+2*m.toNat
      ·have s6:yJ ls 6=some (⟨4+m.toNat+(m.toNat+1),d,v,c,l,m,!(jS ls d 3 m.toNat)⟩,jz ls d 3 m.toNat,xJ ls (4+m.toNat) (m.toNat+1)):=by
        show (yJ ls 5).bind (wU ls 5)=_
        rw[s5];exact if_pos D5
       rw[if_pos ⟨h3,h4.1,h4.2,h5⟩,s6];simp only[A3,Bool.not_not];rfl
      ·have s6:yJ ls 6=none:=by
        show (yJ ls 5).bind (wU ls 5)=_
        rw[s5];exact if_neg (by show ¬4+m.toNat+(m.toNat+1)=ls.length;omega)
       simp_all
     ·have s5:yJ ls 5=none:=by
       show (yJ ls 4).bind (wU ls 4)=_
       rw[s4];exact if_neg (by show ¬(zP ls (3+m.toNat)=_/\(yV ls (3+m.toNat+1) _).all _=true);rw[show 3+m.toNat+1=4+m.toNat by omega];exact h4)
      have s6:yJ ls 6=none:=by
       show (yJ ls 5).bind _=none
       rw[s5];rfl
      grind
    ·have s4:yJ ls 4=none:=by
      show (yJ ls 3).bind (wU ls 3)=_
      rw[s3];exact if_neg h3
     have s6:yJ ls 6=none:=by
      show ((yJ ls 4).bind _).bind _=none
      rw[s4];rfl
     grind
 ·have s1:yJ ls 1=none:=by
   show (if zP ls r0.pos=[wA,[49]] then some (yW ls r0,_) else none)=_
   exact if_neg h0
  simp_all[yJ]
theorem Zt8{l:Ln}{w:Wd}(h:w∈l):w.length<=(yi l).length:=by
 rw[WU];have:w.length<=(l.map List.length).sum:=by
  induction l with
  | nil=>cases h
  | cons a l ih =>
   grind
 omega
theorem Zt9{ls:List Ln}{l:Ln}(h:l∈ls):(yi l).length+1<=(qL ls).length:=by induction ls<;>grind[WI]
theorem Zua(ls:List Ln):ls.length<=(qL ls).length:=by induction ls<;>grind[WI]
theorem Zub{t:List UInt8}{ls:List Ln}(h:wu t=some ls)(hl:t.length<=1048576):LnsOk ls:=by
 obtain⟨h1,_,_⟩:=ZrP t.length (Ag _) h;refine⟨by grind[Zua],λl hm=>?_⟩;have h2:=Zt9 hm;rw[h1]at h2;exact⟨by grind[WU],λw hw=>by have:=Zt8 hw;omega⟩
theorem JA(w:Wd):zM (yT w):=by
 have h0:=Zjo w;unfold yT at h0 ⊢;cases h:jZ w with
 | none=>exact⟨by simp,by simp⟩
 | some n =>
  have:=ZrR h
  show -9223372036854775808<=(n:Int)/\(n:Int)<=9223372036854775807
  omega
theorem Zuc{l names:Ln}{z:List Int}(h:qi l names=some z):∀x∈z,zM x:=by grind[qi,jI,JA]
theorem Zud(w:Wd):j4 w<2 ^ 64:=by grind[j4,ZaP]
theorem Zue{d:Int}{l:Ln}{x:Cust × Bool}(h:wG d l=some x)(hl:l.length<=1048576):CustOk x.1:=by
 have z0:zM 0:=⟨by decide,by decide⟩;have z1:zM 1:=⟨by decide,by decide⟩;have z2:zM 2:=⟨by decide,by decide⟩
 match l,h,hl with
 | w :: l',h,hl =>
 have h':(if w=vX then QP d l' else if w=QO then (YW l').map (·,true) else none)=some x:=h;split at h'
 ·match l',h',hl with
  | dw :: ps,h',hl =>
  rw[ZdB]at h';split at h'
  ·cases h';refine⟨z1,JA dw,?_,?_,z0,z0,z0,z0,z0⟩
   ·intro p hp;obtain⟨u,_,rfl⟩:=Am.1 hp;exact Zud u
   ·show (ps.map j4).length<=_
    simp at hl ⊢;omega
  ·cases h'
 ·split at h'
  ·obtain⟨c,hc,rfl⟩:=Ao.1 h'
   by_cases h5:l'.length=5
   ·obtain⟨a,b,e,ru,hh,rfl⟩:∃a b c d e,l'=[a,b,c,d,e]:=by
     match l',h5 with
     | [a,b,c,d,e],_=>exact⟨a,b,c,d,e,rfl⟩
    rw[ZdC]at hc;split at hc
    ·cases hc;refine⟨z2,z0,by simp,by simp,JA _,JA _,JA _,?_,JA _⟩
     show zM (XG ru)
     unfold XG;split
     ·exact⟨by decide,by decide⟩
     ·exact⟨by decide,by decide⟩
    ·cases hc
   simp_all[Zjh]
  ·cases h'
theorem Zuf{ls:List Ln}{x:Inst}{b:Bool}(h:YX ls=some (x,b))(hl:LnsOk ls):InstOk x:=by
 unfold YX at h;split at h
 ·split at h
  ·rename_i d v c l h1;split at h
   ·rename_i m h2;split at h
    ·rename_i hh;obtain⟨e1,e2,e3,e4⟩:=hh;cases h;have q:=Zuc h1;have hmn:m.toNat<=1048576:=by have:=hl.1;omega
     refine⟨q d DZ,q v DZ,q c DZ,q l DZ,?_,?_,?_,?_⟩
     ·grind[ZaT]
     ·intro cu hcu;obtain⟨line,hm,rfl⟩:=Am.1 hcu;have hs:=AA.1 e1 line hm;obtain⟨k,_,rfl⟩:=Am.1 hm;obtain⟨y,hy⟩:=B4.1 hs;have:vy d (zP ls (3+k))=y:=by unfold vy;rw[hy];rfl
      rw[this];exact Zue hy (hl.at _).1
     ·grind[ZaT]
     ·intro r hr;obtain⟨line,hm,rfl⟩:=Am.1 hr;obtain⟨k,_,rfl⟩:=Am.1 hm;refine⟨by have:=(hl.at (4+m.toNat+k)).1;simp;omega,λz hz=>?_⟩
      grind[JA]
    ·cases h
   ·cases h
  ·cases h
 ·cases h
open Go Go.Proofs
theorem WY{ls:List Ln}{k:Nat}(h:yJ ls k=none)(hk:k<=6):yJ ls 6=none:=by
 have:∀j,yJ ls (k+j)=none:=by
  intro j
  induction j with
  | zero=>exact h
  | succ j ih=>show (yJ ls (k+j)).bind _=none;rw[ih];rfl
 have:=this (6-k)
 rwa[Nat.add_sub_cancel' hk]at this
def Zjq(ls:List Ln)(k:Nat)(x:RdX):Prop :=
 x.1.pos<=ls.length/\(k<=3->x.2.1=[]/\x.1.bad=false)/\(k<=4->x.2.2=[])/\0<=x.1.m/\(k=4->x.1.m.toNat<=1048576)
theorem Zug(t:List UInt8)(hl:t.length<=1048576):Pure prog 65 [T (bs t)] (.tup [.agg (zy (qu t).1),I (qu t).2]):=by
 have hlines:=Ztu t hl;cases hz:wu t with
 | none =>
  rw[hz]at hlines;simp only[ZaR]at hlines;have hp:qu t=(zI,2):=by unfold qu;rw[hz]
  rw[hp];refine zr func65 ntmps65 results65 λS nx hd=>?_
  refine D7 ?_;intro v0;refine D7 ?_;refine zt hlines ?_
  repeat apply za
  refine zb ?_;refine zm DZ ?_;refine D7 ?_;refine qr 0 4 rfl rfl ?_;refine qr 0 5 rfl rfl ?_;exact zg (zi hd D0 (by simp[zI,zp]))
 | some ls =>
  rw[hz]at hlines;simp only[ZaR]at hlines;have hfit:=Zub hz hl;have hp:qu t=match YX ls with
   | none=>(zI,2)
   | some (x,ok)=>if ok=true/\qZ x=true then (x,0) else (zI,3):=by unfold qu;rw[hz]<;>rfl
  have hrs:=Zt7 ls;obtain⟨res,hres⟩:∃res,res=qu t:=⟨_,rfl⟩;rw[<-hres];rw[<-hres]at hp;have hno:yJ ls 6=none->res=(zI,2):=λh=>by rw[hp,hrs,h];rfl
  refine zr func65 ntmps65 results65 λS nx hd=>?_
  refine D7 ?_;intro v0;refine D7 ?_;refine zt hlines ?_
  repeat apply za
  refine zb ?_;refine zk DZ ?_;refine zh (D7 ?_);intro v1;refine je 1 6 87 8 rfl rfl λw0=>?_
  refine je 1 7 26 1 rfl rfl λw1=>?_
  repeat apply za
  refine zb ?_;refine zj (zC (λs:Nat × Rdr × List Cust × List (List Int) × Nat × Nat=>s.1<=6/\yJ ls s.1=some (s.2.1,s.2.2.1,s.2.2.2.1)/\Zjq ls s.1 (s.2.1,s.2.2.1,s.2.2.2.1)) (λ(k,r,cu,dd,vC,vD)=>[(2,.ptr nx v0 0),(6,.ptr (nx+1) v1 0),(32,.lst 6 [.fn (.func 102) [.ptr (nx+1) v1 0] [],.fn (.func 103) [.ptr (nx+1) v1 0] [],.fn (.func 104) [.ptr (nx+1) v1 0] [],.fn (.func 105) [.ptr (nx+1) v1 0] [],.fn (.func 106) [.ptr (nx+1) v1 0] [],.fn (.func 107) [.ptr (nx+1) v1 0] []]),(33,I 6),(34,I k)])
   (λ(k,r,cu,dd,vC,vD)=>[.cells v0 25 [I 0,I 0,I 0,I 0,vA,vA],yh v1 ls r (.sl (nx+2) vC 8 0 cu.length) (.sl (nx+3) vD 1 0 dd.length),.cells vC 87 (cu.flatMap Enc.enc),.cells vD 26 (dd.flatMap Enc.enc)]) (λs=>6-s.1) (0,r0,[],[],w0,w1) [] ⟨by simp,rfl,by simp[Zjq,r0]⟩ (by simp[qb]) (by simp[r0]) ?_)
  rintro⟨k,r,cu,dd,vC,vD⟩ ⟨hk,hst,m1,m2,m3,m4,m5⟩;simp only at hk hst m1 m2 m3 m4 m5 ⊢;refine D7 ?_;refine za (zv rfl (λhc=>?_) (λhc=>?_))
  ·simp at hc;refine zh (za (zj ?_));obtain rfl | rfl | rfl | rfl | rfl | rfl:k=0\/k=1\/k=2\/k=3\/k=4\/k=5:=DY
   ·have hstep:yJ ls 1=if zP ls r.pos=[wA,[49]] then some (yW ls r,cu,dd) else none:=by show (yJ ls 0).bind (wU ls 0)=_;rw[hst];rfl
    refine D7 ?_;refine D7 ?_;refine λhsuf=>((ZtU ls r _ _ (by rw[zZ];rfl) hfit).mono ?_).v
    rintro _ _ ⟨rfl,rfl⟩;refine⟨_,_,yl _ DY DZ,zL hsuf ?_⟩
    by_cases h:zP ls r.pos=[wA,[49]]
    ·rw[if_pos h]at hstep;obtain⟨n1,n2⟩:=XO (ls:=ls) (r:=r) (by rw[h];simp);refine zk (by simp[h]) ?_;refine zh (zb ?_);exact zq (1,yW ls r,cu,dd,vC,vD) [] ⟨by omega,hstep,by rw[n1];exact⟨n2,λ_=>m2 DY,λ_=>m3 DY,m4,λh=>by omega⟩⟩ DY (by simp;try exact wr _ (by omega) (by omega)) rfl (by simp;try rfl)
    ·rw[if_neg h]at hstep;have hr:=hno (WY hstep DY);refine zm (by simp[h]) ?_;refine D7 ?_;refine qr 0 4 rfl rfl ?_;refine qr 0 5 rfl rfl ?_;exact zg (zi hd D0 (by simp[zI,zp,hr]))
   ·have hstep:yJ ls 2=match qi (zP ls r.pos) [wB,wC,wD,wE] with
     | some [d,v,c,l]=>some ({ yW ls r with d:=d,v:=v,c:=c,l:=l },cu,dd)
     | _=>none:=by show (yJ ls 1).bind (wU ls 1)=_;rw[hst];rfl
    have hct:=λS (h:S (nx+1)=_)=>ZtV (S:=S) (id:=nx+1) (ver:=v1) ls r (.sl (nx+2) vC 8 0 cu.length) (.sl (nx+3) vD 1 0 dd.length) h hfit
    cases h:qi (zP ls r.pos) [wB,wC,wD,wE] with
    | none =>
     rw[h]at hstep hct;simp only at hstep hct;have hr:=hno (WY hstep DY);refine D7 ?_;refine D7 ?_;refine λhsuf=>((hct _ (by rw[zZ];rfl)).mono ?_).v
     rintro _ _ ⟨rfl,rfl⟩;refine⟨_,_,yl _ DY DZ,zL hsuf ?_⟩;refine zm DZ ?_;refine D7 ?_;refine qr 0 4 rfl rfl ?_;refine qr 0 5 rfl rfl ?_;exact zg (zi hd D0 (by simp[zI,zp,hr]))
    | some z =>
     obtain⟨d,v,c,l,rfl⟩:∃d v c l,z=[d,v,c,l]:=by
      have:=XL h
      match z,this with
      | [d,v,c,l],_=>exact⟨d,v,c,l,rfl⟩
     obtain⟨n1,n2⟩:=XO (ls:=ls) (r:=r) (ZaV h DZ);have hnn:=Zjp h;rw[h]at hstep hct;simp only at hstep hct;refine D7 ?_;refine D7 ?_;refine λhsuf=>((hct _ (by rw[zZ];rfl)).mono ?_).v
     rintro _ _ ⟨rfl,rfl⟩;refine⟨_,_,yl _ DY DZ,zL hsuf ?_⟩;refine zk DZ ?_;refine zh (zb ?_);exact zq (2,{ yW ls r with d:=d,v:=v,c:=c,l:=l },cu,dd,vC,vD) [] ⟨by omega,hstep,by rw[n1];exact⟨n2,λ_=>m2 DY,λ_=>m3 DY,m4,λh=>by omega⟩⟩ DY (by simp;try exact wr _ (by omega) (by omega)) rfl (by simp;try rfl)
   ·have hstep:yJ ls 3=match qi (zP ls r.pos) [wF] with
     | some [m]=>some ({ yW ls r with m:=m },cu,dd)
     | _=>none:=by show (yJ ls 2).bind (wU ls 2)=_;rw[hst];rfl
    have hct:=λS (h:S (nx+1)=_)=>ZtW (S:=S) (id:=nx+1) (ver:=v1) ls r (.sl (nx+2) vC 8 0 cu.length) (.sl (nx+3) vD 1 0 dd.length) h hfit
    cases h:qi (zP ls r.pos) [wF] with
    | none =>
     rw[h]at hstep hct;simp only at hstep hct;have hr:=hno (WY hstep DY);refine D7 ?_;refine D7 ?_;refine λhsuf=>((hct _ (by rw[zZ];rfl)).mono ?_).v
     rintro _ _ ⟨rfl,rfl⟩;refine⟨_,_,yl _ DY DZ,zL hsuf ?_⟩;refine zm DZ ?_;refine D7 ?_;refine qr 0 4 rfl rfl ?_;refine qr 0 5 rfl rfl ?_;exact zg (zi hd D0 (by simp[zI,zp,hr]))
    | some z =>
     obtain⟨m,rfl⟩:∃m,z=[m]:=by
      have:=XL h
      match z,this with
      | [m],_=>exact⟨m,rfl⟩
     obtain⟨n1,n2⟩:=XO (ls:=ls) (r:=r) (ZaV h DZ);have hnn:=Zjp h;rw[h]at hstep hct;simp only at hstep hct;refine D7 ?_;refine D7 ?_;refine λhsuf=>((hct _ (by rw[zZ];rfl)).mono ?_).v
     rintro _ _ ⟨rfl,rfl⟩;refine⟨_,_,yl _ DY DZ,zL hsuf ?_⟩;refine zk DZ ?_;refine zh (zb ?_);exact zq (3,{ yW ls r with m:=m },cu,dd,vC,vD) [] ⟨by omega,hstep,by rw[n1];exact⟨n2,λ_=>m2 DY,λ_=>m3 DY,hnn m DZ,λh=>by omega⟩⟩ DY (by simp;try exact wr _ (by omega) (by omega)) rfl (by simp;try rfl)
   ·obtain⟨rfl,hb⟩:=m2 DY;have hm:r.m=(r.m.toNat:Int):=DY
    have hstep:yJ ls 4=if (yV ls r.pos r.m.toNat).all (λl=>(wG r.d l).isSome)=true then some ({ r with pos:=r.pos+r.m.toNat,bad:=!(jS ls r.d r.pos r.m.toNat) },jz ls r.d r.pos r.m.toNat,dd) else none:=by show (yJ ls 3).bind (wU ls 3)=_;rw[hst];rfl
    have hct:=λS (h:S (nx+1)=_) (h2:S (nx+2)=_)=>Zt4 (S:=S) (id:=nx+1) (ver:=v1) (idC:=nx+2) (vC:=vC) ls r r.m.toNat (.sl (nx+3) vD 1 0 dd.length) h h2 hfit hm m1 hb
    by_cases h:(yV ls r.pos r.m.toNat).all (λl=>(wG r.d l).isSome)=true
    ·rw[if_pos h]at hstep;simp only[if_pos h]at hct;have hcl:=Zjm ls r.d r.pos r.m.toNat;refine D7 ?_;refine D7 ?_;refine λhsuf=>((hct _ (by rw[zZ];rfl) (by rw[zZ];rfl)).mono ?_).v
     rintro _ _ ⟨rfl,hpl,rfl⟩;refine⟨_,_,by rw[yl _ DY DZ,yl _ DY DZ],zL hsuf ?_⟩;refine zk DZ ?_;refine zh (zb ?_);exact zq (4,{ r with pos:=r.pos+r.m.toNat,bad:=!(jS ls r.d r.pos r.m.toNat) },jz ls r.d r.pos r.m.toNat,dd,vC+r.m.toNat,vD) [] ⟨by omega,hstep,hpl,λh=>by omega,λ_=>m3 DY,m4,λ_=>by have:=hfit.1;show r.m.toNat<=_;omega⟩ DY (by simp;try exact wr _ (by omega) (by omega)) rfl (by simp[hcl])
    ·rw[if_neg h]at hstep;have hr:=hno (WY hstep DY);simp only[if_neg h]at hct;refine D7 ?_;refine D7 ?_;refine λhsuf=>((hct _ (by rw[zZ];rfl) (by rw[zZ];rfl)).mono ?_).v
     rintro _ _ ⟨rfl,r',cs',oC,rfl⟩;refine⟨_,_,by rw[yl _ DY DZ,yl _ DY DZ],zL hsuf ?_⟩;refine zm DZ ?_;refine D7 ?_;refine qr 0 4 rfl rfl ?_;refine qr 0 5 rfl rfl ?_;exact zg (zi hd D0 (by simp[zI,zp,hr]))
   ·obtain rfl:=m3 DY;have hm:r.m=(r.m.toNat:Int):=DY
    have hstep:yJ ls 5=if zP ls r.pos=[jy]/\(yV ls (r.pos+1) (r.m.toNat+1)).all (vz (r.m.toNat+1))=true then some ({ r with pos:=r.pos+1+(r.m.toNat+1) },cu,xJ ls (r.pos+1) (r.m.toNat+1)) else none:=by show (yJ ls 4).bind (wU ls 4)=_;rw[hst];rfl
    have hct:=λS (h:S (nx+1)=_) (h2:S (nx+3)=_)=>Zt6 (S:=S) (id:=nx+1) (ver:=v1) (idD:=nx+3) (vD:=vD) ls r r.m.toNat (.sl (nx+2) vC 8 0 cu.length) h h2 hfit hm (m5 rfl) m1
    by_cases h:zP ls r.pos=[jy]/\(yV ls (r.pos+1) (r.m.toNat+1)).all (vz (r.m.toNat+1))=true
    ·rw[if_pos h]at hstep;simp only[if_pos h]at hct;have hdl:=Zjn ls (r.pos+1) (r.m.toNat+1);refine D7 ?_;refine D7 ?_;refine λhsuf=>((hct _ (by rw[zZ];rfl) (by rw[zZ];rfl)).mono ?_).v
     rintro _ _ ⟨rfl,hpl,rfl⟩;refine⟨_,_,by rw[yl _ DY DZ,yl _ DY DZ],zL hsuf ?_⟩;refine zk DZ ?_;refine zh (zb ?_);exact zq (5,{ r with pos:=r.pos+1+(r.m.toNat+1) },cu,xJ ls (r.pos+1) (r.m.toNat+1),vC,vD+(r.m.toNat+1)) [] ⟨by omega,hstep,hpl,λh=>by omega,λh=>by omega,m4,λh=>by omega⟩ DY (by simp;try exact wr _ (by omega) (by omega)) rfl (by simp[hdl])
    ·rw[if_neg h]at hstep;have hr:=hno (WY hstep DY);simp only[if_neg h]at hct;refine D7 ?_;refine D7 ?_;refine λhsuf=>((hct _ (by rw[zZ];rfl) (by rw[zZ];rfl)).mono ?_).v
     rintro _ _ ⟨rfl,r',ds',oD,rfl⟩;refine⟨_,_,by rw[yl _ DY DZ,yl _ DY DZ],zL hsuf ?_⟩;refine zm DZ ?_;refine D7 ?_;refine qr 0 4 rfl rfl ?_;refine qr 0 5 rfl rfl ?_;exact zg (zi hd D0 (by simp[zI,zp,hr]))
   ·have hstep:yJ ls 6=if r.pos=ls.length then some (r,cu,dd) else none:=by show (yJ ls 5).bind (wU ls 5)=_;rw[hst];rfl
    refine D7 ?_;refine D7 ?_;refine λhsuf=>((ZtX ls r _ _ (by rw[zZ];rfl)).mono ?_).v
    rintro _ _ ⟨rfl,rfl⟩;refine⟨_,_,rfl,zL hsuf ?_⟩
    by_cases h:r.pos=ls.length
    ·rw[if_pos h]at hstep;refine zk (by simp[h]) ?_;refine zh (zb ?_);exact zq (6,r,cu,dd,vC,vD) [] ⟨by omega,hstep,m1,λh=>by omega,λh=>by omega,m4,λh=>by omega⟩ DY (by simp;try exact wr _ (by omega) (by omega)) rfl DZ
    ·rw[if_neg h]at hstep;have hr:=hno hstep;refine zm (by simp[h]) ?_;refine D7 ?_;refine qr 0 4 rfl rfl ?_;refine qr 0 5 rfl rfl ?_;exact zg (zi hd D0 (by simp[zI,zp,hr]))
  ·simp at hc;obtain rfl:k=6:=DY
   have hread:YX ls=some (⟨r.d,r.v,r.c,r.l,cu,dd⟩,!r.bad):=by rw[hrs,hst];rfl
   have hiok:=Zuf hread hfit;have hmay:=Zhq _ hiok;rw[hread]at hp;refine zx (zX 2 rfl ?_);refine zX 3 rfl ?_;obtain⟨pos,d,v,c,ln,m,bad⟩:=r;cases bad with
   | true =>
    have hr:res=(zI,3):=by rw[hp];exact if_neg DZ
    repeat apply za
    refine ze [(4,47)] zH ?_;refine zm DZ ?_;refine D7 ?_;refine qr 0 4 rfl rfl ?_;refine qr 0 5 rfl rfl ?_;exact zg (zi hd D0 (by simp[zI,zp,hr]))
   | false =>
    by_cases hmy:qZ ⟨d,v,c,ln,cu,dd⟩=true
    ·have hr:res=(⟨d,v,c,ln,cu,dd⟩,0):=by rw[hp];exact if_pos ⟨rfl,hmy⟩
     rw[if_pos hmy]at hmay
     repeat apply za
     refine ze [(4,47)] trivial ?_;refine qt [(4,47)] hmay trivial ?_;refine zk DZ ?_;refine zh (D7 ?_);exact zg (zi hd D0 (by simp[zp,hr]))
    ·have hr:res=(zI,3):=by rw[hp];exact if_neg (λh=>hmy h.2)
     rw[if_neg hmy]at hmay
     repeat apply za
     refine ze [(4,47)] trivial ?_;refine qt [(4,47)] hmay trivial ?_;refine zm DZ ?_;refine D7 ?_;refine qr 0 4 rfl rfl ?_;refine qr 0 5 rfl rfl ?_;exact zg (zi hd D0 (by simp[zI,zp,hr]))
open Go Go.Proofs
theorem Zjr{z:Int}(h:zM z):(zV z).length<=20:=by
 unfold zM at h;unfold zV;have:=Zc8 z.toNat 18 DY;omega
abbrev Zjs:Wd:=[111,117,116,99,111,109,101]
abbrev Zjt:Wd:=[109,97,108,102,111,114,109,101,100]
structure Rep where
 out:Int
 bound:Int
 cost:Int
 hold:Int
 days:List Int
 plan:zA
abbrev ZdL(r:Rep):List PV:=[I r.out,I r.bound,I r.cost,I r.hold,L r.days,L r.plan]
theorem Zju{ls:List Ln}{m:Nat}(h:∀l∈ls,(yi l).length+1<=m):(qL ls).length<=m*ls.length:=by
 induction ls with
 | nil=>simp[qL]
 | cons a ls ih =>
  rw[WI];have h1:=h a DZ;have h2:=ih λl hl=>h l (by simp[hl])
  simp only[Ar,Ad,Nat.mul_add,B7];omega
theorem Zuh{l:List Nat}{m:Nat}(h:∀z∈l,z<=m):l.sum<=m*l.length:=by
 induction l with
 | nil=>simp
 | cons a l ih =>
  have h1:=h a DZ;have h2:=ih λz hz=>h z (by simp[hz])
  simp only[BP,Ad,Nat.mul_add,B7];omega
theorem ZdM{ws:Ln}{m:Nat}(h:∀w∈ws,w.length<=m):(yi ws).length<=(m+1)*ws.length:=by
 rw[WU];have:=Zuh (l:=ws.map List.length) (m:=m) λz hz=>by obtain⟨w,hw,rfl⟩:=Am.1 hz;exact h w hw
 rw[List.length_map]at this;rw[Nat.add_mul];omega
theorem ZO{n:Nat}(h:n<10000000000000000000):(yc n).length<=20:=by have:=Zc8 n 19 DY;omega
open Go Go.Proofs
section
variable {S:Store} {id v:Nat} {t s0 s1 s2 s3 x0 x1 x2 x3 x4 x5 r0 r1 r2 r3 r4 r5:PV}
theorem Zjv(u:List UInt8)(hl:u.length<=1048576)(hS:S id=.cells v 92 [T (bs u),s0,s1,s2,s3,x0,x1,x2,x3,x4,x5,r0,r1,r2,r3,r4,r5]):
  Spec prog 48 [.ptr id v 0] S (λq S'=>q=I (qu u).2/\S'=S.set id (.cells v 92
   (if (qu u).2=0 then [T (bs u),s0,s1,s2,s3]++zy (qu u).1++[r0,r1,r2,r3,r4,r5] else [T (bs u),s0,s1,s2,s3,x0,x1,x2,x3,x4,x5,I (if (qu u).2=2 then 1 else 2),r1,r2,r3,r4,r5]))):=by
 have hp:=Zug u hl;generalize qu u=z at *;obtain⟨y,e⟩:=z;simp only at hp ⊢;refine yn func48 ntmps48 results48 λnx hd=>?_
 have hlt:id<nx:=qN hd hS DZ;have xw:=λobs=>(zB (S:=S) (obs:=obs) hlt).trans hS
 have g1:¬nx<=id:=DY
 refine D7 ?_;refine za (ze [] xw ?_);refine qt [] hp xw ?_;intro v0
 repeat apply za
 refine zb ?_;refine zj (D7 ?_)
 by_cases he:e=0
 ·subst he;refine zm DZ ?_;refine ze [] (zo xw g1) ?_;refine D7 ?_;exact zg ⟨_,_,rfl,⟨by simp[zp],by simp⟩,zO (qG hd hlt _)⟩
 ·rw[if_neg he];refine zk (by simp[he]) ?_;refine D7 ?_
  by_cases h2:e=2
  ·subst h2;refine zm DZ ?_;refine ze [] (zo xw g1) ?_;refine D7 ?_;exact zg ⟨_,_,rfl,⟨by simp[zp],by simp⟩,zO (qG hd hlt _)⟩
  ·rw[if_neg h2];refine zk (by simp[h2]) ?_;refine ze [] (zo xw g1) ?_;refine D7 ?_;exact zg ⟨_,_,rfl,⟨by simp[zp],by simp⟩,zO (qG hd hlt _)⟩
theorem Zui{a b:PV}{bd:Int}(hc:Pure prog 34 [.agg [x0,x1,x2,x3,x4,x5],s0,s3] (.tup [.agg [a,b],I bd]))(hS:S id=.cells v 92 [t,s0,s1,s2,s3,x0,x1,x2,x3,x4,x5,r0,r1,r2,r3,r4,r5]):
  Spec prog 49 [.ptr id v 0] S (λq S'=>q=I 0/\S'=S.set id (.cells v 92 [t,s0,s1,s2,s3,x0,x1,x2,x3,x4,x5,I 3,I bd,r2,r3,r4,r5])):=by
 refine yn func49 ntmps49 results49 λnx hd=>?_
 have hlt:id<nx:=qN hd hS DZ;have xw:=λobs=>(zB (S:=S) (obs:=obs) hlt).trans hS
 have xo:∀(A:Ob) obs,ext (S.set id A) nx obs id=A:=λA obs=>(zB hlt).trans (q11 _ _ _)
 have g1:¬nx<=id:=DY
 refine D7 ?_;refine za (ze [] (zo xw g1) ?_);refine za (zz (some []) (Row.pures [0,1,2,3,5,6,7,8,10,11,12,13] (.alt 4 (.alt 9 (.alt 14 (Row.pures [15,16,17,18,19,20,21] (.alt 22 (.done) .stop)) .stop) (.alt 14 (.alt 9 (Row.pures [15,16,17,18,19,20,21] (.alt 22 (.done) .stop)) .stop) .stop)) (.alt 9 (.alt 4 (.alt 14 (Row.pures [15,16,17,18,19,20,21] (.alt 22 (.done) .stop)) .stop) (.alt 14 (.alt 4 (Row.pures [15,16,17,18,19,20,21] (.alt 22 (.done) .stop)) .stop) .stop)) (.alt 14 (.alt 4 (.alt 9 (Row.pures [15,16,17,18,19,20,21] (.alt 22 (.done) .stop)) .stop) (.alt 9 (.alt 4 (Row.pures [15,16,17,18,19,20,21] (.alt 22 (.done) .stop)) .stop) .stop)) .stop)))) mixed (zD xw xo g1) ?_)
 repeat' refine And.intro ?_ ?_
 all_goals
  refine zG (hc) (zD xw xo g1) ?_;refine D7 ?_;exact zg ⟨_,_,rfl,⟨by simp[zp],rfl⟩,zO (qG hd hlt _)⟩
def uU(e c:Int):Int:=if e=0 then c else e
theorem Zjw{p:zA}{e c:Int}(hr:Pure prog 35 [.agg [x0,x1,x2,x3,x4,x5],.agg [s0,s1,s2,s3]] (.tup [.agg [L p],I e]))(hc:e=0->Pure prog 67 [.agg [x0,x1,x2,x3,x4,x5],.agg [L p]] (I c))
  (hS:S id=.cells v 92 [t,s0,s1,s2,s3,x0,x1,x2,x3,x4,x5,r0,r1,r2,r3,r4,r5]) :
  Spec prog 50 [.ptr id v 0] S (λq S'=>q=I (uU e c)/\S'=S.set id (.cells v 92
   (if uU e c=0 then [t,s0,s1,s2,s3,x0,x1,x2,x3,x4,x5,I 4,r1,r2,r3,r4,L p] else [t,s0,s1,s2,s3,x0,x1,x2,x3,x4,x5,r0,r1,r2,r3,r4,r5]))):=by
 have hself:S=S.set id (.cells v 92 [t,s0,s1,s2,s3,x0,x1,x2,x3,x4,x5,r0,r1,r2,r3,r4,r5]):=(Ym S id _ hS).symm;unfold uU;refine yn func50 ntmps50 results50 λnx hd=>?_
 have hlt:id<nx:=qN hd hS DZ;have xw:=λobs=>(zB (S:=S) (obs:=obs) hlt).trans hS
 have xo:∀(A:Ob) obs,ext (S.set id A) nx obs id=A:=λA obs=>(zB hlt).trans (q11 _ _ _)
 have g1:¬nx<=id:=DY
 refine D7 ?_;refine za (zz (some [id]) (Row.pures [0,1,2,3,4,5,6,7,8,9,10,11] (.alt 12 (.alt 13 (Row.pures [14] .done) .stop) .stop)) mixed (zo xw g1) ?_);refine zG (hr) (zo xw g1) ?_;intro v0
 repeat apply za
 refine zb ?_
 by_cases he:e=0
 case neg =>
  simp only[if_neg he];refine zm (by simp[he]) ?_;refine D7 ?_;exact zg ⟨_,_,rfl,⟨by simp[zp],hself⟩,zO hd⟩
 have hc2:=hc he;clear hc;simp only[if_pos he];subst he;refine zk DZ ?_;refine zh ?_
 repeat apply za
 refine zz (some [id,nx]) (Row.pures [0,1,2,3,4,5,6] .done) mixed (zo xw g1) ?_;refine zG (hc2) (zo xw g1) ?_;refine D7 ?_
 by_cases h2:c=0
 case neg =>
  rw[if_neg h2];refine zm (by simp[h2]) ?_;refine D7 ?_;exact zg ⟨_,_,rfl,⟨by simp[zp],hself⟩,zO hd⟩
 subst h2;rw[if_pos rfl];refine zk DZ ?_;refine zh (za (zz (some [nx]) (Row.pures [0,1,2,3,4,5] (.alt 6 (Row.pures [7,8,9] (.alt 10 (.done) .stop)) .stop)) mixed (zD xw xo g1) ?_))
 repeat' refine And.intro ?_ ?_
 all_goals
  refine D7 ?_;exact zg ⟨_,_,rfl,⟨by simp[zp],rfl⟩,zO (qG hd hlt _)⟩
theorem Zuj{c h:Int}{ds:List Int}(hc:Pure prog 68 [.agg [x0,x1,x2,x3,x4,x5],.agg [r5]] (I c))(hh:Pure prog 69 [.agg [x0,x1,x2,x3,x4,x5],.agg [r5]] (I h))(hds:Pure prog 71 [.agg [x0,x1,x2,x3,x4,x5],.agg [r5]] (L ds))
  (hS:S id=.cells v 92 [t,s0,s1,s2,s3,x0,x1,x2,x3,x4,x5,r0,r1,r2,r3,r4,r5]) :
  Spec prog 51 [.ptr id v 0] S (λq S'=>q=I 0/\S'=S.set id (.cells v 92 [t,s0,s1,s2,s3,x0,x1,x2,x3,x4,x5,r0,r1,I c,I h,L ds,r5])):=by
 refine yn func51 ntmps51 results51 λnx hd=>?_
 have hlt:id<nx:=qN hd hS DZ;have xw:=λobs=>(zB (S:=S) (obs:=obs) hlt).trans hS
 have xo:∀(A:Ob) obs,ext (S.set id A) nx obs id=A:=λA obs=>(zB hlt).trans (q11 _ _ _)
 have g1:¬nx<=id:=DY
 refine D7 ?_;refine za (zz (some []) (Row.pures [0,1,2,3,5,6,7,8] (.alt 4 (.alt 9 (Row.pures [10,11,12,13] (.alt 14 (.done) .stop)) .stop) (.alt 9 (.alt 4 (Row.pures [10,11,12,13] (.alt 14 (.done) .stop)) .stop) .stop))) mixed (zD xw xo g1) ?_)
 repeat' refine And.intro ?_ ?_
 all_goals
  refine zG (hc) (zD xw xo g1) ?_;refine za (zz (some []) (Row.pures [0,1,2,3,5,6,7,8] (.alt 4 (.alt 9 (Row.pures [10,11,12,13] (.alt 14 (.done) .stop)) .stop) (.alt 9 (.alt 4 (Row.pures [10,11,12,13] (.alt 14 (.done) .stop)) .stop) .stop))) mixed (zD xw xo g1) ?_)
  repeat' refine And.intro ?_ ?_
  all_goals
   refine zG (hh) (zD xw xo g1) ?_;refine za (zz (some []) (Row.pures [0,1,2,3,5,6,7,8] (.alt 4 (.alt 9 (Row.pures [10,11,12,13] (.alt 14 (.done) .stop)) .stop) (.alt 9 (.alt 4 (Row.pures [10,11,12,13] (.alt 14 (.done) .stop)) .stop) .stop))) mixed (zD xw xo g1) ?_)
   repeat' refine And.intro ?_ ?_
   all_goals
    refine zG (hds) (zD xw xo g1) ?_;refine D7 ?_;exact zg ⟨_,_,rfl,⟨by simp[zp],rfl⟩,zO (qG hd hlt _)⟩
end
open Go Go.Proofs Hp
theorem ZdN{α:Type}[Enc α](id v:Nat)(cs:List PV)(l:List (List α)):(l.flatMap Enc.enc).map (qy id v cs)=(l.flatMap Enc.enc:List PV):=by
 refine(AN λp hp=>?_).trans (List.map_id _);obtain⟨t,_,ht⟩:=B6.1 hp;rw[ZlC,AW]at ht;subst ht;rfl
theorem ZdO(p:zA)(hp:p.length<=1000)(hd0:∀d∈p,d.length<=1000)(ht:∀d∈p,∀t∈d,t.length<=1000){S:Store}{nx:Nat}(hd:zS nx S):
  Spec prog 180 [.agg [L p]] S (λq S'=>∃v,q=.agg [.sl (nx+3) v 1 0 p.length]/\S'=S.set (nx+3) (.cells v 39 (p.flatMap Enc.enc))):=by
 refine u6 hd func180 ntmps180 results180 ?_;refine D7 ?_;intro v0 v1;refine D7 ?_;intro v2;refine je 2 0 39 1 rfl rfl λv3=>?_
 repeat apply za
 refine zb ?_;refine zj (zC (λs:Nat × Nat=>s.1<=p.length) (λ(k,w)=>[(2,.ptr (nx+1) v1 0),(3,.ptr (nx+2) v2 0),(10,L p),(11,I p.length),(12,I k)]) (λ(k,w)=>[.cells v0 30 [L p],.cells v1 30 [yu],.cells v2 30 [.sl (nx+3) w 1 0 k],.cells w 39 ((p.take k).flatMap Enc.enc)]) (λs=>p.length-s.1) (0,v3) [] DZ DZ DZ ?_);rintro⟨k,w⟩ hk;simp only at hk ⊢;refine D7 ?_;refine za (zv rfl (λhc=>?_) (λhc=>?_))
 ·simp at hc;obtain⟨d,tl,a1,a2,a3,e0⟩:=zF rfl p k hc;have hdm:=Ab a1;have hdl:=hd0 d hdm;have hk1:1<=p.length-k:=DY
  have htk:(p.take k).length=k:=by rw[Ay];omega
  generalize hpk:p.take k=pk at *;have hqf:(pk.flatMap Enc.enc:List PV).length=k:=(jW pk).trans htk;have hqt:(pk.flatMap Enc.enc:List PV).take k=pk.flatMap Enc.enc:=Af DY;have hfp:∀id v cs,(pk.flatMap Enc.enc).map (qy id v cs)=(pk.flatMap Enc.enc:List PV):=λid v cs=>ZdN id v cs pk
  refine zh (za (zj (za (ze [] (zD hc e0 hk1) ?_))));intro v4;refine D7 ?_;intro v5;refine je 5 0 42 1 rfl rfl λv6=>?_
  repeat apply za
  refine zb ?_;refine zj (zC (λs:Nat × Nat=>s.1<=d.length) (λ(j,w6)=>[(2,.ptr (nx+1) v1 0),(3,.ptr (nx+2) v2 0),(6,.ptr (nx+5) v5 0),(10,L p),(11,I p.length),(12,I k),(17,L d),(18,I d.length),(19,I j)])
   (λ(j,w6)=>[.cells v0 30 [L p],.cells v1 30 [yu],.cells v2 30 [.sl (nx+3) w 1 0 k],.cells w 39 (pk.flatMap Enc.enc),.cells v4 39 [L d],.cells v5 39 [.sl (nx+6) w6 1 0 j],.cells w6 42 ((d.take j).flatMap Enc.enc)]) (λs=>d.length-s.1) (0,v6) [] DZ DZ DZ ?_)
  rintro⟨j,w6⟩ hj;simp only at hj ⊢;refine D7 ?_;refine za (zv rfl (λhcj=>?_) (λhcj=>?_))
  ·simp at hcj;obtain⟨t,tl2,b1,b2,b3,f0⟩:=zF rfl d j hcj;have htl:=ht d hdm t (Ab b1);have hj1:1<=d.length-j:=DY
   have htj:(d.take j).length=j:=by rw[Ay];omega
   generalize hdj:d.take j=dj at *;have hrf:(dj.flatMap Enc.enc:List PV).length=j:=(jW dj).trans htj;have hrt:(dj.flatMap Enc.enc:List PV).take j=dj.flatMap Enc.enc:=Af DY;have hfd:∀id v cs,(dj.flatMap Enc.enc).map (qy id v cs)=(dj.flatMap Enc.enc:List PV):=λid v cs=>ZdN id v cs dj
   have htf:(t.flatMap Enc.enc:List PV).length=t.length*2:=Qj t;refine zh (za (zj (za (ze [] (zD hcj f0 hj1) ?_))));intro v7;refine zz (some [nx+7]) (Row.pures [0,2,3] (.alt 1 (.alt 4 (Row.pures [5,6] (.alt 7 (Row.pures [8] (.alt 9 (.done) .stop)) .stop)) .stop) (.alt 4 (Row.pures [5,6] (.alt 1 (.alt 7 (Row.pures [8] (.alt 9 (.done) .stop)) .stop) .stop)) .stop))) mixed (zo hrf hrt) ?_;refine⟨⟨by omega,λv8=>⟨⟨by omega,by omega⟩,?_⟩⟩,⟨by omega,λv8=>⟨⟨by omega,by omega⟩,?_⟩⟩⟩
   all_goals
    refine zX 8 rfl ?_;simp only[Az,Bo,AX,Bc,xN,hfp,hfd,List.map_append];refine zb ?_;exact zq (j+1,w6+1) [_,_] D2 D2 (by simp[zu j (by omega)]) rfl (by simp[b3,qy,htf];exact⟨rfl,rfl⟩)
  ·simp at hcj;obtain rfl:j=d.length:=DY
   rw[Ai];have hfd:∀id v cs,(d.flatMap Enc.enc).map (qy id v cs)=(d.flatMap Enc.enc:List PV):=λid v cs=>ZdN id v cs d
   refine zx (zX 6 rfl ?_);simp only[Az,Bo,AX,Bc,xN,hfp,hfd];refine ze [] (zo hqf hqt) ?_;refine⟨by omega,?_⟩;refine zb ?_;exact zq (k+1,w+1) [_,_,_] D2 D2 (by simp[zu k (by omega)]) rfl (by simp[a3];exact⟨rfl,rfl,rfl⟩)
 ·simp at hc;obtain rfl:k=p.length:=DY
  rw[Ai];refine zx (D7 ?_);exact zg ⟨_,_,D0,⟨w,by simp[zp],rfl⟩,Q8 (j:=3) hd DZ⟩
theorem Zuk(p:zA)(hp:p.length<=1000)(hd0:∀d∈p,d.length<=1000)(ht:∀d∈p,∀t∈d,t.length<=1000):Pure prog 180 [.agg [L p]] (.agg [L p]) :=
 ZeS (sz:=1) 3 (λS nx hd=>ZdO p hp hd0 ht hd) (by rw[jW,B7])
def wV(x:Inst)(p:zA)(day b:Int):zA × Bool :=
 if day<0\/(p.length:Int)<=day then (p,false)
 else if W (yk x (p.getD day.toNat []))<=W (yk x (wg x b (p.getD day.toNat []))) then (p,false)
 else (p.set day.toNat (wg x b (p.getD day.toNat [])),true)
structure PlanM (x:Inst) (p:zA):Prop where
 cust:x.cust.length<=900
 inst:InstH x
 len:p.length<=1000
 may:∀d∈p,yr x d=0
theorem PlanM.sizes{x:Inst}{p:zA}(h:PlanM x p):∀d∈p,d.length<=1000/\(∀t∈d,t.length<=1000)/\DayOk d/\d.flatten.length<=1000:=by
 intro d hd;obtain⟨h1,h2,h3⟩:=ZaL h.cust (h.may d hd);have:=h.cust;exact⟨by omega,λt ht=>by have:=ZaE d t ht;omega,h3.ok,by omega⟩
theorem ZdP{x:Inst}(hx:x.cust.length<=900)(hi:InstH x){d:zn}(h:yr x d=0)(b:Int):yr x (wg x b d)=0/\(wg x b d).flatten.Perm d.flatten/\yk x (wg x b d)<=yk x d:=by
 obtain⟨hs,hg⟩:=ZiF hx hi.arc hi.veh h;obtain⟨h1,h2,h3⟩:=Zan hs hi.diag b.toNat d hg;obtain⟨m1,m2,m3⟩:=(vn x d).1 h;change SG x d.flatten (wg x b d) at h1;change yk x (wg x b d)<=yk x d at h2;change (wg x b d).length<=d.length at h3;exact⟨(vn x _).2 ⟨h1.may,(h1.perm.map _).nodup_iff.2 m2,by omega⟩,h1.perm,h2⟩
theorem Zul{x:Inst}(hx:x.cust.length<=900)(hi:InstH x){d:zn}(h:yr x d=0){b:Int}(hb:b<=9223372036854775807):∃k:Int,Pure prog 252 [.agg (zy x),.agg [L d],I b] (.tup [.agg [L (wg x b d)],I k]):=by
 obtain⟨hs,hg⟩:=ZiF hx hi.arc hi.veh h;have o:=hg.ok hs;exact⟨_,ZgD x d b (up x) (SG x d.flatten) hb o.n o.t (λ_=>hg) (Zg9 hs hi.diag)⟩
theorem Zum{x:Inst}{p:zA}(h:PlanM x p)(day b:Int)(hb:b<=9223372036854775807):
  Pure prog 216 [.agg (zy x),.agg [L p],I day,I b] (.tup [.agg [L (wV x p day b).1],B (wV x p day b).2]):=by
 have hsz:=h.sizes;have hpl:=h.len;refine zr func216 ntmps216 results216 λS nx hd=>?_
 refine D7 ?_;intro v0 v1 v2;refine D7 ?_;refine λhsuf=>((ZdO p h.len (λd hd=>(hsz d hd).1) (λd hd=>(hsz d hd).2.1) jU).mono ?_).v
 rintro _ _ ⟨v3,rfl,rfl⟩;refine⟨_,_,Wh 3 _,jM [] Nat.add_assoc hsuf ?_⟩;intro v4
 by_cases h0:day<0
 ·have hz:wV x p day b=(p,false):=by unfold wV;rw[if_pos (.inl h0)]
  rw[hz]
  repeat apply za
  refine ze [(2,17)] (zo h0 zH) ?_;refine zm rfl (zX 6 rfl ?_);refine D7 ?_;exact D8 hd
 by_cases h1:(p.length:Int)<=day
 ·have hz:wV x p day b=(p,false):=by unfold wV;rw[if_pos (.inr h1)]
  rw[hz]
  repeat apply za
  refine ze [(2,17)] (zo h0 h1) ?_;refine zm rfl (zX 6 rfl ?_);refine D7 ?_;exact D8 hd
 obtain⟨k,rfl⟩:=Au (show 0<=day by omega);have hk:k<p.length:=DY
 obtain⟨d,tl,a1,a2,a3,e0⟩:=zF rfl p k hk;have hdm:=Ab a1;have hgd:p.getD (k:Int).toNat []=d:=by rw[AO,Aa,a1];rfl
 have hz:wV x p k b=if W (yk x d)<=W (yk x (wg x b d)) then (p,false) else (p.set k (wg x b d),true):=by
  unfold wV;rw[if_neg DY,hgd,AO]
 obtain⟨m,hI⟩:=Zul h.cust h.inst (h.may d hdm) hb;have him:=ZdP h.cust h.inst (h.may d hdm) b;have hc1:=J8 x d (hsz d hdm).2.2.1;have hc2:=J8 x (wg x b d) (ZaL h.cust him.1).2.2.ok;rw[hz];generalize wg x b d=e at *;generalize W (yk x d)=z1 at *;generalize W (yk x e)=z2 at *;have hk1:1<=p.length-k:=DY
 have hpf:(p.flatMap Enc.enc:List PV).length=p.length:=jW p;have hsp:=Zdf (α:=zn) rfl p k e hk;have hsp':yg (p.flatMap Enc.enc) k [L e]=(p.set k e).flatMap Enc.enc:=by simpa using hsp
 repeat apply za
 refine ze [(2,17)] (zo h0 h1) ?_;refine zk rfl (zh (za (zz (some [nx,nx+6,nx+7]) (Row.pures [0,1,2,3,4,5,6,7,8,9,10] (.alt 11 (.alt 12 (Row.pures [13] .done) .stop) .stop)) mixed (zD e0 hk hk1) ?_)));refine zG (hI) (zD e0 hk hk1) ?_;intro v5
 by_cases hle:z1<=z2
 ·rw[if_pos hle]
  repeat apply za
  refine zz (some [nx,nx+6,nx+7,nx+8]) (Row.pures [0,1,2,3,4,5,6,7,8,9,10] .done) mixed (zN e0 hk hk1 hle) ?_;refine zG (hc2) (zN e0 hk hk1 hle) ?_;refine zG (hc1) (zN e0 hk hk1 hle) ?_;refine zm rfl (zX 6 rfl ?_);refine D7 ?_;exact D8 hd
 ·rw[if_neg hle]
  repeat apply za
  refine zz (some [nx,nx+6,nx+7,nx+8]) (Row.pures [0,1,2,3,4,5,6,7,8,9,10] .done) mixed (zN e0 hk hk1 hle) ?_;refine zG (hc2) (zN e0 hk hk1 hle) ?_;refine zG (hc1) (zN e0 hk hk1 hle) ?_;refine zk rfl (zh (za (ze [] (zD hk hsp' hpf) ?_)));refine⟨by omega,?_⟩;refine zX 6 rfl ?_;refine D7 ?_;exact zg (zi hd D0 (by simp[zp]))
open Go Go.Proofs Hp
structure PlanS (n K:Nat) (p:zA):Prop where
 len:p.length=n
 ok:∀d∈p,DayOk d/\d.flatten.length<=K/\d.length<=K
theorem ZdQ{x:Inst}{d:zn}{s:Stop}{K:Nat}(hx:x.cust.length<=1048576)(h1:DayOk d)(h2:d.flatten.length<=K)(h3:d.length<=K)(hK:K<=100000):DayOk (yL x d s).1/\(yL x d s).1.flatten.length<=K+1/\(yL x d s).1.length<=K+1:=by
 refine⟨Zgz hx h1 DY DY,?_,?_⟩
 ·cases hi:(yL x d s).2 with
  | true=>rw[(Zae hi).length_eq,Ad];omega
  | false=>rw[Zga hi];omega
 grind[yL,jO]
theorem Zun(x:Inst)(p:zA)(c:Nat){n K:Nat}(hn1:n<=1000)(hK:K<=100000)(hx:x.cust.length<=1000)(hc:c<x.cust.length)(hp:PlanS n K p):Pure prog 322 [.agg (zy x),.agg [L p],I c] (L (p.map (wS x (vx x c)))):=by
 have hth:=ZiD x c;rw[show (decide (0<=(c:Int)) && decide ((c:Int)<x.cust.length))=true from by simp;omega]at hth;obtain⟨cu,tlc,a1,-,-,e1,e0⟩:=el 8 rfl x.cust c hc;have e11:=e1 1 DY;have hq:vx x c=⟨c,if cu.kind=1 then cu.demand else 1⟩:=by unfold vx;rw[Aa,a1];rfl
 have hplen:p.length<=1000:=by have:=hp.len;omega
 refine zr func322 ntmps322 results322 λS nx hd=>?_
 refine D7 ?_;intro v0 v1;refine D7 ?_;intro v2;refine za (qz (nx:=nx) (σ:=Unit) (λ_=>True) (λ_=>[(3,.ptr nx v0 0),(4,.ptr (nx+1) v1 0),(7,.ptr (nx+2) v2 0)]) (λ_=>S) (λ_=>[.cells v0 25 (zy x),.cells v1 30 [L p],.cells v2 100 [I c,I (vx x c).q]]) ?_ ?_)
 ·by_cases hk:cu.kind=1
  ·rw[if_pos hk]at hq;refine za (ze [(3,19)] (zD e0 hc hk) ?_);refine qt [(3,19)] hth (zD e0 hc hk) ?_;refine zm (by simp[hk]) ?_;refine ze [] (zo e11 hc) ?_;exact zT () [] trivial DZ rfl (by simp[hq])
  ·rw[if_neg hk]at hq;refine za (ze [(3,19)] (zD e0 hc hk) ?_);refine qt [(3,19)] hth (zD e0 hc hk) ?_;refine zk (by simp[hk]) ?_;exact zh (zT () [] trivial DZ rfl (by simp[hq]))
 intro _ _;have hsc:(vx x c).c=c:=rfl;generalize hst:vx x c=s at hsc;clear hq;refine D7 ?_;refine za (qx 8 3 1 rfl λv3=>?_);refine D7 ?_;refine zj (zC (λst:Nat × List Int × Nat=>st.1<=p.length/\st.2.1=(p.take st.1).map (wS x s)) (λ(k,out,w)=>[(3,.ptr nx v0 0),(7,.ptr (nx+2) v2 0),(8,.sl (nx+3) w 1 0 out.length),(36,L p),(37,I p.length),(38,I k)]) (λ(k,out,w)=>[.cells v0 25 (zy x),.cells v1 30 [L p],.cells v2 100 [I c,I s.q],.cells w 3 (out.flatMap Enc.enc)]) (λst=>p.length-st.1) (0,[],v3) [] DZ DZ DZ ?_);rintro⟨k,out,w⟩ ⟨hk,ho⟩;simp only at hk ho ⊢;have hol:out.length=k:=by rw[ho];simp;omega
 refine D7 ?_;refine za (zv rfl (λhc1=>?_) (λhc1=>?_))
 ·simp at hc1;obtain⟨d,tl,b1,b2,b3,f0⟩:=zF rfl p k hc1;obtain⟨g1,g3,g4⟩:=hp.ok d (Ab b1);have g5:=(ZdQ (x:=x) (s:=s) DY g1 g3 g4 hK).1;have hins:=Zcv x d s DY g1 DY;have hc2:=J8 x d g1;have hc3:=J8 x _ g5;have hpr:wS x s d=if (yL x d s).2=true then max 0 (W (W (yk x (yL x d s).1)-W (yk x d))) else 4294967296:=rfl
  rw[hsc]at hins;generalize yL x d s=r at *;obtain⟨e,ok⟩:=r;simp only at hins hc3 hpr;generalize W (yk x d)=z1 at *;generalize W (yk x e)=z2 at *;have h1p:1<=p.length-k:=DY
  refine zh (za (zj (za (ze [] (zD f0 hc1 h1p) ?_))));intro v4;refine D7 ?_
  repeat apply za
  refine zb ?_;refine zt hins ?_;intro v5;refine D7 ?_;cases ok with
  | true =>
   rw[if_pos rfl]at hpr;have hmax:jm (0:Int) (W (z2-z1))=wS x s d:=by rw[hpr];unfold jm;split<;>omega
   refine zm rfl (zz (some [nx,nx+4,nx+5]) (Row.pures [0,1,2,3,4,5,6,7,8] .done) mixed trivial ?_);refine zG (hc3) hmax ?_;refine zG (hc2) hmax ?_;refine zb ?_;refine⟨by omega,?_⟩;refine zb ?_;exact zq (k+1,out++[wS x s d],w+1) [_,_] ⟨hc1,by rw[b3,List.map_append,ho];rfl⟩ D2 (by simp[zu k (by omega)]) rfl (by simp[hpr];exact⟨rfl,rfl⟩)
  | false =>
   rw[if_neg D4]at hpr;refine zk rfl (zh (zb ?_));refine⟨by omega,?_⟩;refine zb ?_;exact zq (k+1,out++[wS x s d],w+1) [_,_] ⟨hc1,by rw[b3,List.map_append,ho];rfl⟩ D2 (by simp[zu k (by omega)]) rfl (by simp[hpr];exact⟨rfl,rfl⟩)
 ·simp at hc1;obtain rfl:k=p.length:=DY
  rw[Ai]at ho;refine zx (zX 3 rfl ?_);refine D7 ?_;exact zg (zi hd D0 (by simp[zp,ho]))
def Yn(x:Inst)(p:zA):Bool:=p.all λd=>decide (yr x d=0)
theorem Zuo(x:Inst)(p:zA){n K:Nat}(hn1:n<=1000)(hK:K<=100000)(hx:x.cust.length<=1000)(hp:PlanS n K p):Pure prog 289 [.agg (zy x),.agg [L p]] (B (Yn x p)):=by
 have hplen:p.length<=1000:=by have:=hp.len;omega
 refine zr func289 ntmps289 results289 λS nx hd=>?_
 refine D7 ?_;intro v0 v1
 repeat apply za
 refine zb ?_;refine zj (zC (λk:Nat=>k<=p.length/\∀d∈p.take k,yr x d=0) (λk=>[(2,.ptr nx v0 0),(8,L p),(9,I p.length),(10,I k)]) (λ_=>[.cells v0 25 (zy x),.cells v1 30 [L p]]) (λk=>p.length-k) 0 [] DZ DZ DZ ?_);rintro k ⟨hk,hE⟩;refine D7 ?_;refine za (zv rfl (λhc=>?_) (λhc=>?_))
 ·simp at hc;obtain⟨d,tl,a1,a2,a3,e0⟩:=zF rfl p k hc;obtain⟨g1,g2,g3⟩:=hp.ok d (Ab a1);have hD:=ZbX x d DY g1.n g1.t DY;have hk1:1<=p.length-k:=DY
  refine zh (za (zj (za (ze [] (zD e0 hc hk1) ?_))));intro v2
  by_cases h0:yr x d=0
  ·rw[h0]at hD;refine D7 ?_;refine zt hD ?_;refine zk DZ ?_;refine zh (zb ?_);exact zq (k+1) [_] ⟨hc,λe he=>by rw[a3]at he;rcases AB.1 he with q | q;exact hE e q;rw[AW.1 q];exact h0⟩ DY (by simp[zu k (by omega)]) rfl D0
  ·have ho:Yn x p=false:=by
    unfold Yn;rw[BY];exact⟨d,Ab a1,by simpa using h0⟩
   rw[ho];generalize yr x d=z at *;refine D7 ?_;refine zt hD ?_;refine zm (by simp[h0]) ?_;refine D7 ?_;exact zg (zi hd rfl rfl)
 ·simp at hc;obtain rfl:k=p.length:=DY
  rw[Ai]at hE;have ho:Yn x p=true:=by
   unfold Yn;rw[AA];intro d hd;simpa using hE d hd
  rw[ho];refine zx (D7 ?_);exact zg (zi hd rfl rfl)
def xU(x:Inst)(c:Nat)(st:zA × Bool)(w:Visit):zA × Bool :=
 if st.2=true then (if (yL x (st.1.getD w.d.toNat []) ⟨c,w.q⟩).2=true then (st.1.set w.d.toNat (yL x (st.1.getD w.d.toNat []) ⟨c,w.q⟩).1,true) else ([],false)) else st
def jJ(x:Inst)(n:Nat)(p:zA)(c:Nat):zA × Bool :=
 if (qa n x.cap (x.cust.getD c default) (p.map (wS x (vx x c)))).2=true then (qa n x.cap (x.cust.getD c default) (p.map (wS x (vx x c)))).1.foldl (xU x c) (p,true) else ([],false)
theorem ZaW(x:Inst)(c:Nat):∀v:List Visit,v.foldl (xU x c) ([],false)=([],false)
 | []=>rfl
 | w :: v=>by rw[A4];exact ZaW x c v
theorem Zup(x:Inst)(s:Stop)(p:zA):∀z∈p.map (wS x s),zM z:=by
 intro z hz;obtain⟨d,-,rfl⟩:=Am.1 hz;unfold wS;split
 ·have:=Zdh (W (yk x (yL x d s).1)-W (yk x d));unfold zM at *;omega
 ·unfold zM;omega
theorem PlanS.sizes{n K:Nat}{p:zA}(h:PlanS n K p)(hn1:n<=1000)(hK:K<=1000):p.length<=1000/\(∀d∈p,d.length<=1000)/\∀d∈p,∀t∈d,t.length<=1000:=by
 refine⟨by have:=h.len;omega,λd hd=>by have:=(h.ok d hd).2.2;omega,λd hd t ht=>?_⟩;have:=ZaE d t ht;have:=(h.ok d hd).2.1;omega
theorem PlanS.set{n K:Nat}{p:zA}(h:PlanS n K p){k:Nat}{e:zn}(he:DayOk e/\e.flatten.length<=K+1/\e.length<=K+1):PlanS n (K+1) (p.set k e):=by
 refine⟨by rw[Bt];exact h.len,λd hd=>?_⟩;rcases BC hd with q | q
 ·obtain⟨g1,g2,g3⟩:=h.ok d q;exact⟨g1,by omega,by omega⟩
 ·rw[q];exact he
theorem Zjx{x:Inst}{n:Nat}(h:InstA x n){p:zA}{K:Nat}(hK:K<=10000)(hp:PlanS n K p){c:Nat}(hc:c<x.cust.length)(h0:(jJ x n p c).2=true):PlanS n (K+64) (jJ x n p c).1:=by
 have hx:=h.h.cust;unfold jJ at h0 ⊢;split at h0
 ·rename_i h1;rw[if_pos h1];have hcm:x.cust.getD c default∈x.cust:=by rw[Aa,Ae hc];exact A6 hc
  have hg:=WR (h.made _ hcm) h.n60 x.cap _ h1;have hl:=hg.len;generalize (qa n x.cap (x.cust.getD c default) (p.map (wS x (vx x c)))).1=v at *;clear hg h1;have key:∀(v:List Visit) (q:zA) (K:Nat),K+v.length<=10100->PlanS n K q->(v.foldl (xU x c) (q,true)).2=true->PlanS n (K+v.length) (v.foldl (xU x c) (q,true)).1:=by
   intro v
   induction v with
   | nil=>intro q K _ hq _;exact hq
   | cons w v ih =>
    intro q K hKl hq hz;rw[Ad]at hKl ⊢;rw[A4]at hz ⊢;have hs:xU x c (q,true) w=if (yL x (q.getD w.d.toNat []) ⟨c,w.q⟩).2=true then (q.set w.d.toNat (yL x (q.getD w.d.toNat []) ⟨c,w.q⟩).1,true) else ([],false):=rfl
    rw[hs]at hz ⊢;split at hz
    ·rename_i hi;rw[if_pos hi];rw[show K+(v.length+1)=(K+1)+v.length by omega];refine ih _ _ DY (hq.set ?_) hz;have hd:DayOk (q.getD w.d.toNat [])/\(q.getD w.d.toNat []).flatten.length<=K/\(q.getD w.d.toNat []).length<=K:=by
      rw[Aa];cases e:q[w.d.toNat]? with
      | none=>exact⟨⟨by simp,by simp,by simp⟩,by simp,by simp⟩
      | some d=>exact hq.ok d (Ab e)
     exact ZdQ DY hd.1 hd.2.1 hd.2.2 DY
    ·rw[ZaW]at hz;cases hz
  have:=key v p K DY hp h0;exact⟨this.len,λd hd=>by obtain⟨g1,g2,g3⟩:=this.ok d hd;exact⟨g1,by omega,by omega⟩⟩
 ·cases h0
theorem Zuq{x:Inst}{n:Nat}(h:InstA x n){p:zA}{K:Nat}(hK:K<=900)(hp:PlanS n K p)(c:Nat)(hc:c<x.cust.length):Pure prog 288 [.agg (zy x),.agg [L p],I c] (.tup [.agg [L (jJ x n p c).1],B (jJ x n p c).2]):=by
 have hx:=h.h.cust;have hn60:=h.n60;have hxd:=h.days;have hpl:=hp.len;obtain⟨hs1,hs2,hs3⟩:=hp.sizes DY DY;obtain⟨cu,tlc,a1,-,-,e1,e0⟩:=el 8 rfl x.cust c hc;have hcm:=Ab a1;have hgc:x.cust.getD c default=cu:=by rw[Aa,a1];rfl
 have hPr:=Zun x p c (n:=n) (K:=K) DY DY hx hc hp;have hI:=Zup x (vx x c) p;have hlen:(p.map (wS x (vx x c))).length<=1000:=by rw[List.length_map];omega
 have hput:jJ x n p c=if (qa n x.cap cu (p.map (wS x (vx x c)))).2=true then (qa n x.cap cu (p.map (wS x (vx x c)))).1.foldl (xU x c) (p,true) else ([],false):=by unfold jJ;rw[hgc]
 have hgood:=WR (h.made cu hcm) hn60 x.cap (p.map (wS x (vx x c)));rw[hput];generalize p.map (wS x (vx x c))=pr at *;have hSo:Pure prog 207 [.agg (yb cu),I x.days,I x.cap,L pr] (.tup [L (qa n x.cap cu pr).1,B (qa n x.cap cu pr).2]):=by
  rw[hxd];exact λS=>Zdv cu n x.cap (.inl rfl) hI hlen (h.made cu hcm) (h.pats cu hcm) hn60
 clear hput;generalize qa n x.cap cu pr=r at *;obtain⟨v,ok⟩:=r;simp only at hSo hgood ⊢;refine zr func288 ntmps288 results288 λS nx hd=>?_
 refine D7 ?_;intro v0 v1 v2;refine za (zz (some [nx,nx+1]) (Row.pures [0,1,2,3,4,5,6,7,8,9,10,11,12,13,14,15,16,17,18] .done) mixed (zo e0 hc) ?_);refine zG (hPr) (zo e0 hc) ?_;refine zG (hSo) (zo e0 hc) ?_;cases ok with
 | false =>
  rw[if_neg D4]
  repeat apply za
  refine zb ?_;refine zm rfl (D7 ?_);refine qr 2 0 rfl rfl ?_;exact D8 hd
 | true =>
  have hg:=hgood rfl;have hvl:=hg.len;rw[if_pos rfl]
  repeat apply za
  refine zb ?_;refine zk rfl (zh (D7 ?_));refine λhsuf=>((ZdO p hs1 hs2 hs3 jU).mono ?_).v
  rintro _ _ ⟨v3,rfl,rfl⟩;refine⟨_,_,Wh 3 _,jM [] Nat.add_assoc hsuf ?_⟩;intro v4
  repeat apply za
  refine zb ?_;refine zj (zC (λs:Nat × zA × Nat=>s.1<=v.length/\(v.take s.1).foldl (xU x c) (p,true)=(s.2.1,true)/\PlanS n (K+s.1) s.2.1) (λ(k,q,w)=>[(2,I c),(3,.ptr nx v0 0),(6,.ptr (nx+2) v2 0),(10,.ptr (nx+7) v4 0),(38,L v),(39,I v.length),(40,I k)]) (λ(k,q,w)=>[.cells v0 25 (zy x),.cells v1 30 [L p],.cells v2 30 [yu],.dead,.dead,.dead,.cells w 39 (q.flatMap Enc.enc),.cells v4 30 [.sl (nx+6) w 1 0 q.length]]) (λs=>v.length-s.1) (0,p,v3) [] ⟨by simp,by simp,hp⟩ DZ DZ ?_);rintro⟨k,q,w⟩ ⟨hk,hq,hqs⟩;simp only at hk hq hqs ⊢;have hql:=hqs.len;refine D7 ?_;refine za (zv rfl (λhc1=>?_) (λhc1=>?_))
  ·simp at hc1;obtain⟨u,tl,b1,b2,b3,f1,f0⟩:=el 2 rfl v k hc1;have hu:=hg.ok u (Ab b1);obtain⟨z,hz⟩:∃z:Nat,u.d=z:=⟨u.d.toNat,by omega⟩;have hzl:z<q.length:=DY
   obtain⟨d,tld,d1,d2,d3,d0⟩:=zF rfl q z hzl;obtain⟨g1,g2,g3⟩:=hqs.ok d (Ab d1);have hins:=Zcv x d ⟨c,u.q⟩ DY g1 DY;have hsz:=ZdQ (x:=x) (s:=⟨c,u.q⟩) DY g1 g2 g3 DY;have hst:(v.take (k+1)).foldl (xU x c) (p,true)=if (yL x d ⟨c,u.q⟩).2=true then (q.set z (yL x d ⟨c,u.q⟩).1,true) else ([],false):=by
    rw[b3,BE,hq];have e9:q.getD u.d.toNat []=d:=by rw[hz,AO,Aa,d1];rfl
    show xU x c (q,true) u=_
    unfold xU;rw[if_pos rfl,e9,hz,AO]
   generalize yL x d ⟨c,u.q⟩=e at *;obtain⟨d',ok'⟩:=e;simp only at hins hst hsz;have hz1:1<=q.length-z:=DY
   have hqf:(q.flatMap Enc.enc:List PV).length=q.length:=jW q;have hsp:=Zdf (α:=zn) rfl q z d' hzl;have hsp':yg (q.flatMap Enc.enc) z [L d']=(q.set z d').flatMap Enc.enc:=by simpa using hsp
   refine zh (za (zj (za (ze [] (zD f0 hc1 hz) ?_))));intro v5;refine D7 ?_;intro v6;refine za (zz (some [nx,nx+6,nx+7,nx+8,nx+9]) (Row.pures [0,1,2,3,4,5,6,7,8,9,10,11] (.alt 12 (.alt 13 (Row.pures [14] .done) .stop) .stop)) mixed (zN d0 hzl hz1 hz) ?_);refine zG (hins) (zN d0 hzl hz1 hz) ?_;intro v7;cases ok' with
   | false =>
    rw[if_neg D4]at hst;have hall:v.foldl (xU x c) (p,true)=([],false):=by
     conv=>lhs;rw[<-List.take_append_drop (k+1) v,BE,hst,ZaW]
    rw[hall]
    repeat apply za
    refine zb ?_;refine zm rfl (D7 ?_);refine qr 2 0 rfl rfl ?_;exact D8 hd
   | true =>
    rw[if_pos rfl]at hst
    repeat apply za
    refine zb ?_;refine zk rfl (zh (ze [] (zN hzl hsp' hqf hz) ?_));refine⟨by omega,?_⟩;refine zb ?_;exact zq (k+1,q.set z d',w) [_,_,_] ⟨hc1,hst,hqs.set hsz⟩ D2 (by simp[zu k (by omega)]) rfl (by simp;exact⟨rfl,rfl,rfl⟩)
  ·simp at hc1;obtain rfl:k=v.length:=DY
   rw[Ai]at hq;rw[hq];refine zx (zX 6 rfl ?_);refine D7 ?_;exact D8 hd
open Go Go.Proofs Hp
theorem PlanS.wo{n K:Nat}{p:zA}(h:PlanS n K p)(c:Int):PlanS n K (Zi c p):=by
 refine⟨by unfold Zi;rw[List.length_map];exact h.len,λe he=>?_⟩;obtain⟨d,hd,rfl⟩:=Am.1 he;obtain⟨g1,g2,g3⟩:=h.ok d hd;have hl:=Zgy c d;have hm:∀t∈jP c d,∃u∈d,t=x9 c u:=λt ht=>by
  obtain⟨u,hu,e⟩:=Am.1 (A7.1 ht).1;exact⟨u,hu,e.symm⟩
 refine⟨⟨by have:=g1.n;omega,λt ht=>?_,λt ht s hs=>?_⟩,?_,by omega⟩
 ·obtain⟨u,hu,rfl⟩:=hm t ht;exact AD (Zcx c u) (g1.t u hu)
 ·obtain⟨u,hu,rfl⟩:=hm t ht;exact g1.s u hu s (A7.1 hs).1
 grind[ZiG]
structure PlanG (x:Inst) (n:Nat) (p:zA):Prop where
 a:InstA x n
 six:x.cust.length<=6
 len:p.length=n
 may:∀d∈p,yr x d=0
theorem PlanG.m{x:Inst}{n:Nat}{p:zA}(h:PlanG x n p):PlanM x p:=⟨by have:=h.six;omega,h.a.h,by have:=h.len;have:=h.a.n60;omega,h.may⟩
theorem PlanG.s{x:Inst}{n:Nat}{p:zA}(h:PlanG x n p):PlanS n 6 p:=by
 refine⟨h.len,λd hd=>?_⟩;obtain⟨h1,h2,h3⟩:=ZaL (by have:=h.six;omega) (h.may d hd);have:=h.six;exact⟨h3.ok,by omega,by omega⟩
theorem PlanG.serves{x:Inst}{n:Nat}{p:zA}(h:PlanG x n p):Serves x p:=by
 have hs:=h.s;have hn:=h.a.n60;have hl:=hs.len;have hcn:XE p<=1000*p.length:=by
  have:∀p:zA,(∀d∈p,d.flatten.length<=1000)->XE p<=1000*p.length:=by
   intro p
   induction p with
   | nil=>intro _;simp[XE]
   | cons d p ih =>
    intro h;have:=ih λe he=>h e (by simp[he])
    have:=h d DZ;simp only[XE,Az,BP,Ad]at *;omega
  exact this p λd hd=>by have:=(hs.ok d hd).2.1;omega
 refine⟨⟨by omega,λd hd=>by have:=(hs.ok d hd).2.2;omega,λd hd=>(hs.ok d hd).1.t,by rw[Zid];omega⟩,λs hst=>?_,by omega⟩;obtain⟨d,hd,hsd⟩:=Zc2 p 0 s hst;have:=Zc3 (h.may d hd) s.1 hsd
 grind[jF]
theorem PlanG.cost{x:Inst}{n:Nat}{p:zA}(h:PlanG x n p):Pure prog 68 [.agg (zy x),.agg [L p]] (I (jR x p)) :=
 Zsa x p h.serves (by have:=h.six;omega) (λc hc=>(h.a.made c hc).fits) λd hd=>(h.s.ok d hd).1
theorem PlanG.clone{x:Inst}{n:Nat}{p:zA}(h:PlanG x n p):Pure prog 180 [.agg [L p]] (.agg [L p]):=by
 obtain⟨h1,h2,h3⟩:=h.s.sizes (by have:=h.a.n60;omega) DY;exact Zuk p h1 h2 h3
theorem PlanS.open{x:Inst}{n K:Nat}(h:InstA x n)(h6:x.cust.length<=6){p:zA}(hp:PlanS n K p)(ho:Yn x p=true):PlanG x n p :=
 ⟨h,h6,hp.len,λd hd=>by simp_all[Yn]⟩
def xq(cs:List Nat)(p:zA):zA:=cs.foldl (λq (c:Nat)=>Zi c q) p
def XP(x:Inst)(n:Nat)(st:zA × Bool)(c:Nat):zA × Bool:=if st.2=true then jJ x n st.1 c else st
def j6(x:Inst)(n:Nat)(cs:List Nat)(q:zA):zA × Bool:=cs.foldl (XP x n) (q,true)
def xV(x:Inst)(n:Nat)(p:zA)(cs:List Nat):zA × Bool :=
 if (j6 x n cs (xq cs p)).2=true then
  (if Yn x (j6 x n cs (xq cs p)).1=true/\¬jR x p<=jR x (j6 x n cs (xq cs p)).1 then ((j6 x n cs (xq cs p)).1,true) else (p,false))
 else (p,false)
theorem ZaX(x:Inst)(n:Nat)(q:zA):∀cs:List Nat,cs.foldl (XP x n) (q,false)=(q,false)
 | []=>rfl
 | c :: cs=>by rw[A4];exact ZaX x n q cs
theorem Zjy{x:Inst}{n:Nat}{p:zA}(h:PlanG x n p)(cs:List Nat)(hl:cs.length<=10)(hcs:∀c∈cs,c<x.cust.length):Pure prog 251 [.agg (zy x),.agg [L p],L (cs.map λ(c:Nat)=>(c:Int))] (.tup [.agg [L (xV x n p cs).1],B (xV x n p cs).2]):=by
 have hA:=h.a;have h6:=h.six;have hn60:=hA.n60;have hcl:=h.clone;have hps:=h.s;have hcost:=h.cost;obtain⟨zs,hzs⟩:∃zs,zs=cs.map λ(c:Nat)=>(c:Int):=⟨_,rfl⟩
 have hzl:zs.length=cs.length:=by rw[hzs,List.length_map]
 have hat:∀(k c:Nat),cs[k]?=some c->zs[k]?=some (c:Int):=λk c e=>by rw[hzs,Aj,e];rfl
 have hanew:xV x n p cs=if (j6 x n cs (xq cs p)).2=true then (if Yn x (j6 x n cs (xq cs p)).1=true/\¬jR x p<=jR x (j6 x n cs (xq cs p)).1 then ((j6 x n cs (xq cs p)).1,true) else (p,false)) else (p,false):=rfl
 rw[<-hzs];clear hzs;refine zr func251 ntmps251 results251 λS nx hd=>?_
 refine D7 ?_;intro v0 v1 v2;refine D7 ?_;intro v3
 repeat apply za
 refine zb ?_;refine zj (zC (λs:Nat × zA=>s.1<=zs.length/\s.2=xq (cs.take s.1) p/\PlanS n 6 s.2) (λ(k,q)=>[(2,L zs),(3,.ptr nx v0 0),(4,.ptr (nx+1) v1 0),(6,.ptr (nx+2) v2 0),(8,.ptr (nx+3) v3 0),(9,B true),(15,L zs),(16,I zs.length),(17,I k)]) (λ(k,q)=>[.cells v0 25 (zy x),.cells v1 30 [L p],.cells v2 30 [yu],.cells v3 30 [L q]]) (λs=>zs.length-s.1) (0,p) [] ⟨by simp,by simp[xq],hps⟩ DZ DZ ?_)
 ·rintro⟨k,q⟩ ⟨hk,hq,hqs⟩;simp only at hk hq hqs ⊢;refine D7 ?_;refine za (zv rfl (λhc1=>?_) (λhc1=>?_))
  ·simp at hc1;obtain⟨c,hc⟩:∃c,cs[k]?=some c:=⟨_,Ae DY⟩;have hcx:=hcs c (Ab hc);obtain⟨z,tl,b1,b2,b3,f0⟩:=zF rfl zs k hc1;obtain rfl:z=(c:Int):=by have:=hat k c hc;rw[b1]at this;exact Option.some.inj this
   have hth:=ZiD x c;rw[show (decide (0<=(c:Int)) && decide ((c:Int)<x.cust.length))=true from by simp;omega]at hth;obtain⟨s1,s2,s3⟩:=hqs.sizes DY DY;have hwo:=ZsQ q c s1 (λd hd=>by have:=s2 d hd;omega) (λd hd t ht=>by have:=s3 d hd t ht;omega);have hnext:Zi c q=xq (cs.take (k+1)) p:=by
    rw[hq,AJ,hc];simp[xq]
   have hqs2:=hqs.wo c;have hqs2:=hqs.wo c;generalize Zi c q=q2 at *;refine zh (za (zj (za (ze [] (zo f0 hc1) ?_))))
   repeat apply za
   refine zb ?_;refine zt hth ?_;refine zk DZ ?_;refine zh (zb ?_);refine zt hwo ?_;refine zb ?_;exact zq (k+1,q2) [] ⟨hc1,hnext,hqs2⟩ D2 (by simp[zu k (by omega)]) rfl DZ
  ·simp at hc1;obtain rfl:k=zs.length:=DY
   rw[hzl,Ai]at hq;refine zx ?_
   repeat apply za
   refine zb ?_;refine zj (zC (λs:Nat × zA=>s.1<=zs.length/\(cs.take s.1).foldl (XP x n) (q,true)=(s.2,true)/\PlanS n (6+64*s.1) s.2) (λ(k,q)=>[(2,L zs),(3,.ptr nx v0 0),(4,.ptr (nx+1) v1 0),(6,.ptr (nx+2) v2 0),(8,.ptr (nx+3) v3 0),(31,L zs),(32,I zs.length),(33,I k)]) (λ(k,q)=>[.cells v0 25 (zy x),.cells v1 30 [L p],.cells v2 30 [yu],.cells v3 30 [L q]]) (λs=>zs.length-s.1) (0,q) [] ⟨by simp,by simp,hqs⟩ DZ DZ ?_);rw[<-hq]at hanew;clear hqs hq hk hc1;rintro⟨k,r⟩ ⟨hk,hr,hrs⟩;simp only at hk hr hrs ⊢;refine D7 ?_;refine za (zv rfl (λhc1=>?_) (λhc1=>?_))
   ·simp at hc1;obtain⟨c,hc⟩:∃c,cs[k]?=some c:=⟨_,Ae DY⟩;have hcx:=hcs c (Ab hc);obtain⟨z,tl,b1,b2,b3,f0⟩:=zF rfl zs k hc1;obtain rfl:z=(c:Int):=by have:=hat k c hc;rw[b1]at this;exact Option.some.inj this
    have hput:=Zuq hA (K:=6+64*k) DY hrs c hcx;have hsz:=Zjx hA (K:=6+64*k) DY hrs hcx;have hst:(cs.take (k+1)).foldl (XP x n) (q,true)=jJ x n r c:=by
     rw[AJ,hc,BE,hr];rfl
    generalize jJ x n r c=e at *;obtain⟨r2,ok⟩:=e;simp only at hput hsz;refine zh (za (zj (za (ze [] (zo f0 hc1) ?_))));refine D7 ?_;refine zt hput ?_;cases ok with
    | false =>
     have hall:j6 x n cs q=(r2,false):=by
      unfold j6
      conv=>lhs;rw[<-List.take_append_drop (k+1) cs,BE,hst,ZaX]
     rw[hall,if_neg DZ]at hanew;rw[hanew];refine D7 ?_;refine zm rfl (D7 ?_);refine zt hcl ?_;exact D8 hd
    | true =>
     refine D7 ?_;refine zk rfl (zh (zb ?_));exact zq (k+1,r2) [] ⟨hc1,hst,by have:=hsz rfl;rw[show 6+64*(k+1)=6+64*k+64 by omega];exact this⟩ D2 (by simp[zu k (by omega)]) rfl DZ
   ·simp at hc1;obtain rfl:k=zs.length:=DY
    rw[hzl,Ai]at hr;have hall:j6 x n cs q=(r,true):=hr;rw[hall,if_pos rfl]at hanew;have hop:=Zuo x r (n:=n) (K:=6+64*zs.length) DY DY DY hrs;refine zx ?_;cases ho:Yn x r with
    | false =>
     rw[ho]at hop;rw[ho,if_neg DZ]at hanew;rw[hanew]
     repeat apply za
     refine zz (some [nx,nx+1,nx+3]) (Row.pures [0,1,2,3,4,5,6,7,8,9,10,11,12] .done) mixed zH ?_;refine zG (hop) zH ?_;refine zm rfl (D7 ?_);refine zt hcl ?_;exact D8 hd
    | true =>
     rw[ho]at hop;have hcr:=(hrs.open hA h6 ho).cost;generalize jR x r=z2 at *;generalize jR x p=z1 at *
     by_cases hle:z1<=z2
     ·rw[if_neg (λq=>q.2 hle)]at hanew;rw[hanew]
      repeat apply za
      refine zz (some [nx,nx+1,nx+3]) (Row.pures [0,1,2,3,4,5,6,7,8,9,10,11,12] .done) mixed hle ?_;refine zG (hop) hle ?_;refine zG (hcr) hle ?_;refine zG (hcost) hle ?_;refine zm rfl (D7 ?_);refine zt hcl ?_;exact D8 hd
     ·rw[if_pos ⟨ho,hle⟩]at hanew;rw[hanew]
      repeat apply za
      refine zz (some [nx,nx+1,nx+3]) (Row.pures [0,1,2,3,4,5,6,7,8,9,10,11,12] .done) mixed hle ?_;refine zG (hop) hle ?_;refine zG (hcr) hle ?_;refine zG (hcost) hle ?_;refine zk rfl (zh (D7 ?_));exact D8 hd
theorem Zur{x:Inst}{n:Nat}{p:zA}(h:PlanG x n p)(c:Nat)(hc:c<x.cust.length):Pure prog 214 [.agg (zy x),.agg [L p],I c] (.tup [.agg [L (xV x n p [c]).1],B (xV x n p [c]).2]):=by
 have ha:=Zjy h [c] DZ (by simpa using hc);simp only[Az,Bo]at ha;refine zr func214 ntmps214 results214 λS nx hd=>?_
 refine D7 ?_;intro v0 v1 v2;refine D7 ?_;refine zt ha ?_;exact D8 hd
def uV(x:Inst)(n:Nat)(p:zA)(a b:Nat):zA × Bool:=if a=b then (p,false) else xV x n p [a,b]
theorem Zus{x:Inst}{n:Nat}{p:zA}(h:PlanG x n p)(a b:Nat)(ha:a<x.cust.length)(hb:b<x.cust.length):Pure prog 215 [.agg (zy x),.agg [L p],I a,I b] (.tup [.agg [L (uV x n p a b).1],B (uV x n p a b).2]):=by
 have hcl:=h.clone;unfold uV
 by_cases hab:a=b
 ·rw[if_pos hab];refine zr func215 ntmps215 results215 λS nx hd=>?_
  refine D7 ?_;intro v0 v1 v2
  repeat apply za
  refine zb ?_;refine zm (by simp[hab]) ?_;refine D7 ?_;refine zt hcl ?_;exact D8 hd
 ·rw[if_neg hab];have hn:=Zjy h [a,b] DZ (by simpa using ⟨ha,hb⟩);simp only[Az,Bo]at hn;refine zr func215 ntmps215 results215 λS nx hd=>?_
  refine D7 ?_;intro v0 v1 v2
  repeat apply za
  refine zb ?_;refine zk D2 ?_;refine zh (D7 ?_);refine zt hn ?_;exact D8 hd
theorem Zjz{x:Inst}{n:Nat}(h:InstA x n):∀(cs:List Nat) (K:Nat) (q:zA),(∀c∈cs,c<x.cust.length)->K+64*cs.length<=1000->PlanS n K q->(j6 x n cs q).2=true->PlanS n (K+64*cs.length) (j6 x n cs q).1
 | [],K,q,_,_,hq,_=>hq
 | c :: cs,K,q,hc,hK,hq,hz=>by
  rw[Ad]at hK ⊢;have e:j6 x n (c :: cs) q=cs.foldl (XP x n) (jJ x n q c):=rfl;rw[e]at hz ⊢;cases ho:(jJ x n q c).2 with
  | false =>
   have:jJ x n q c=((jJ x n q c).1,false):=by rw[<-ho]
   rw[this,ZaX]at hz;cases hz
  | true =>
   have h1:=Zjx h DY hq (hc c DZ) ho;have:jJ x n q c=((jJ x n q c).1,true):=by rw[<-ho]
   rw[this]at hz ⊢;have:=Zjz h cs (K+64) _ (λc hc'=>hc c (by simp[hc'])) DY h1 hz;rw[show K+64*(cs.length+1)=K+64+64*cs.length by omega];exact this
theorem ZjA{n K:Nat}:∀(cs:List Nat) (p:zA),PlanS n K p->PlanS n K (xq cs p)
 | [],_,h=>h
 | c :: cs,p,h=>ZjA cs _ (h.wo c)
theorem ZaY{x:Inst}{n:Nat}{p:zA}(h:PlanG x n p)(cs:List Nat)(hl:cs.length<=10)(hcs:∀c∈cs,c<x.cust.length):PlanG x n (xV x n p cs).1/\jR x (xV x n p cs).1<=jR x p:=by
 unfold xV;split
 ·rename_i h1;split
  ·rename_i h2;exact⟨(Zjz h.a cs 6 _ hcs DY (ZjA cs p h.s) h1).open h.a h.six h2.1,by have:=h2.2;dsimp only;omega⟩
  ·exact⟨h,De _⟩
 ·exact⟨h,De _⟩
theorem ZdR{x:Inst}{n:Nat}{p:zA}(h:PlanG x n p)(a b:Nat)(ha:a<x.cust.length)(hb:b<x.cust.length):PlanG x n (uV x n p a b).1/\jR x (uV x n p a b).1<=jR x p:=by
 unfold uV;split
 ·exact⟨h,De _⟩
 ·exact ZaY h [a,b] DZ (by simpa using ⟨ha,hb⟩)
open Go Go.Proofs Hp
theorem Zut(op:BinOp)(x y:Int):0<=bits op .u64 x y/\bits op .u64 x y<18446744073709551616:=by
 have h:=wf_bits op .u64 x y;simp[Lit.wf,IntKind.min,IntKind.max,IntKind.signed,IntKind.bits]at h;omega
abbrev j7(s:Int):List PV:=[.sc (.int .u64 s)]
def yK(s:Int):Int:=IntKind.u64.wrap (s+11400714819323198485)
def QQ(s:Int):Int :=
 let a:=yK s
 let b:=IntKind.u64.wrap (bits .xor .u64 a (a.fdiv (2 ^ 30))*13787848793156543929)
 let c:=IntKind.u64.wrap (bits .xor .u64 b (b.fdiv (2 ^ 27))*10723151780598845931)
 bits .xor .u64 c (c.fdiv (2 ^ 31))
theorem Zuu(s:Int):0<=QQ s/\QQ s<18446744073709551616:=by unfold QQ;exact Zut _ _ _
theorem Yo{S:Store}{nx id:Nat}(hd:zS nx S)(hlt:id<nx)(o:Ob):zS nx (S.set id o):=λi hi=>by rw[q10 _ _ _ _ DY];exact hd i hi
theorem Zuv:IntKind.u64.bits=64:=rfl
theorem Zuw(s:Int){S:Store}{id v:Nat}(hS:S id=.cells v 179 (j7 s)):Spec prog 126 [.ptr id v 0] S (λq S'=>q=.sc (.int .u64 (QQ s))/\S'=S.set id (.cells v 179 (j7 (yK s)))):=by
 refine yn func126 ntmps126 results126 λnx hd=>?_
 have hlt:id<nx:=yX hd hS DZ;have xw:=λobs=>(zB (S:=S) (obs:=obs) hlt).trans hS
 have yw:=λ(o:Ob) obs=>(zB (S:=S.set id o) (obs:=obs) hlt).trans (q11 _ _ _)
 have g1:¬nx<=id:=DY
 refine D7 ?_;refine za (ze [] (zo xw g1) ?_);refine za (ze [] (zo yw g1) ?_);refine D7 ?_;refine D7 ?_;refine D7 ?_;exact zg ⟨_,_,rfl,⟨by simp[zp,QQ,yK,Zuv],rfl⟩,zO (Yo hd hlt _)⟩
def jA(s:Int)(n:Nat):Nat:=(QQ s).toNat % n
theorem YZ(s:Int){n:Nat}(h:0<n):jA s n<n:=Nat.mod_lt _ h
theorem WZ(s:Int)(n:Nat)(h0:0<n)(hn:n<=4611686018427387904){S:Store}{id v:Nat}(hS:S id=.cells v 179 (j7 s)):Spec prog 81 [.ptr id v 0,I n] S (λq S'=>q=I (jA s n)/\S'=S.set id (.cells v 179 (j7 (yK s)))):=by
 have hb:=Zuu s;have hbl:=YZ s h0;have e1:(QQ s).tmod (n:Int)=(jA s n:Int):=by
  unfold jA;obtain⟨m,hm⟩:=Au hb.1;rw[hm,AO,Bj DY];omega
 have w1:IntKind.u64.wrap (n:Int)=n:=by rw[IntWalk.u64_in _ DY]
 have w2:IntKind.i64.wrap (jA s n:Int)=jA s n:=wr _ DY DY;have hw:=λ(S:Store) hS=>Zuw s (S:=S) (id:=id) (v:=v) hS
 generalize QQ s=r at *;generalize jA s n=k at *;refine yn func81 ntmps81 results81 λnx hd=>?_
 have hlt:id<nx:=yX hd hS DZ;have xw:=λobs=>(zB (S:=S) (obs:=obs) hlt).trans hS
 refine D7 ?_
 repeat apply za
 refine zb ?_;refine zk D2 ?_;refine zh (za (ze [] (zD w1 e1 w2) ?_));refine λhsuf=>((hw _ (xw _)).mono ?_).v
 rintro _ _ ⟨rfl,rfl⟩;refine⟨S.set id (.cells v 179 (j7 (yK s))),[],qc _ hlt,?_⟩;have g2:¬n=0:=DY
 refine jM [] (zN w1 e1 w2 g2) hsuf ?_;exact zg ⟨_,_,rfl,⟨by simp[zp],rfl⟩,zO (Yo hd hlt _)⟩
theorem ZjB(s:Int){S:Store}{nx:Nat}(hd:zS nx S):Spec prog 78 [I s] S (λq S'=>∃v,q=.ptr nx v 0/\S'=S.set nx (.cells v 179 (j7 (IntKind.u64.wrap s)))):=by
 refine u6 hd func78 ntmps78 results78 ?_;refine D7 ?_;refine D7 ?_;intro v0;exact zg ⟨_,_,rfl,⟨v0,by simp[zp],rfl⟩,Q8 (j:=0) hd DZ⟩
open Go Go.Proofs Hp
abbrev JB(x:Inst)(p:zA)(a o d:Nat)(b:Int):List PV:=[I x.days,I x.veh,I x.cap,I x.len,L x.cust,L x.dist,L p,I a,I o,I d,I b]
theorem Zux{x:Inst}{n:Nat}{p:zA}(h:PlanG x n p)(d:Nat)(b:Int):PlanG x n (wV x p d b).1:=by
 unfold wV;split
 ·exact h
 ·split
  ·exact h
  ·refine⟨h.a,h.six,by rw[Bt];exact h.len,λe he=>?_⟩;rcases BC he with q | q
   ·exact h.may e q
   ·rw[q];rename_i h1 h2;have hlt:(d:Int).toNat<p.length:=DY
    refine(ZdP (by have:=h.six;omega) h.a.h (h.may _ ?_) b).1;rw[Aa,Ae hlt];exact A6 hlt
theorem Zuy{x:Inst}{n:Nat}{p:zA}(h:PlanG x n p)(a o d:Nat)(b:Int)(ha:a<x.cust.length){S:Store}{id v:Nat}(hS:S id=.cells v 245 (JB x p a o d b)):
  Spec prog 181 [.ptr id v 0] S (λ_ S'=>S'=S.set id (.cells v 245 (JB x (xV x n p [a]).1 a o d b))):=by
 have hr:=Zur h a ha;generalize xV x n p [a]=r at *;obtain⟨q,ok⟩:=r;simp only at hr ⊢;refine yn func181 ntmps181 results181 λnx hd=>?_
 have hlt:id<nx:=yX hd hS DZ;have xw:=λobs=>(zB (S:=S) (obs:=obs) hlt).trans hS
 have g1:¬nx<=id:=DY
 refine zz (some []) (Row.pures [0,1,2,3,5,6,7,9,10,11] (.alt 4 (.alt 8 (.alt 12 (Row.pures [13,14,15,16,17,18] (.alt 19 (.done) .stop)) .stop) (.alt 12 (.alt 8 (Row.pures [13,14,15,16,17,18] (.alt 19 (.done) .stop)) .stop) .stop)) (.alt 8 (.alt 4 (.alt 12 (Row.pures [13,14,15,16,17,18] (.alt 19 (.done) .stop)) .stop) (.alt 12 (.alt 4 (Row.pures [13,14,15,16,17,18] (.alt 19 (.done) .stop)) .stop) .stop)) (.alt 12 (.alt 4 (.alt 8 (Row.pures [13,14,15,16,17,18] (.alt 19 (.done) .stop)) .stop) (.alt 8 (.alt 4 (Row.pures [13,14,15,16,17,18] (.alt 19 (.done) .stop)) .stop) .stop)) .stop)))) mixed (zo xw g1) ?_
 repeat' refine And.intro ?_ ?_
 all_goals
  refine zG (hr) (zo xw g1) ?_;exact⟨_,_,rfl,by simp,zO (Yo hd hlt _)⟩
theorem Zuz{x:Inst}{n:Nat}{p:zA}(h:PlanG x n p)(a o d:Nat)(b:Int)(ha:a<x.cust.length)(ho:o<x.cust.length){S:Store}{id v:Nat}(hS:S id=.cells v 245 (JB x p a o d b)):
  Spec prog 182 [.ptr id v 0] S (λ_ S'=>S'=S.set id (.cells v 245 (JB x (uV x n p a o).1 a o d b))):=by
 have hr:=Zus h a o ha ho;generalize uV x n p a o=r at *;obtain⟨q,ok⟩:=r;simp only at hr ⊢;refine yn func182 ntmps182 results182 λnx hd=>?_
 have hlt:id<nx:=yX hd hS DZ;have xw:=λobs=>(zB (S:=S) (obs:=obs) hlt).trans hS
 have g1:¬nx<=id:=DY
 refine zz (some []) (Row.pures [0,1,2,3,5,6,7,9,10,11,13,14,15] (.alt 4 (.alt 8 (.alt 12 (.alt 16 (Row.pures [17,18,19,20,21,22] (.alt 23 (.done) .stop)) .stop) (.alt 16 (.alt 12 (Row.pures [17,18,19,20,21,22] (.alt 23 (.done) .stop)) .stop) .stop)) (.alt 12 (.alt 8 (.alt 16 (Row.pures [17,18,19,20,21,22] (.alt 23 (.done) .stop)) .stop) (.alt 16 (.alt 8 (Row.pures [17,18,19,20,21,22] (.alt 23 (.done) .stop)) .stop) .stop)) (.alt 16 (.alt 8 (.alt 12 (Row.pures [17,18,19,20,21,22] (.alt 23 (.done) .stop)) .stop) (.alt 12 (.alt 8 (Row.pures [17,18,19,20,21,22] (.alt 23 (.done) .stop)) .stop) .stop)) .stop))) (.alt 8 (.alt 4 (.alt 12 (.alt 16 (Row.pures [17,18,19,20,21,22] (.alt 23 (.done) .stop)) .stop) (.alt 16 (.alt 12 (Row.pures [17,18,19,20,21,22] (.alt 23 (.done) .stop)) .stop) .stop)) (.alt 12 (.alt 4 (.alt 16 (Row.pures [17,18,19,20,21,22] (.alt 23 (.done) .stop)) .stop) (.alt 16 (.alt 4 (Row.pures [17,18,19,20,21,22] (.alt 23 (.done) .stop)) .stop) .stop)) (.alt 16 (.alt 4 (.alt 12 (Row.pures [17,18,19,20,21,22] (.alt 23 (.done) .stop)) .stop) (.alt 12 (.alt 4 (Row.pures [17,18,19,20,21,22] (.alt 23 (.done) .stop)) .stop) .stop)) .stop))) (.alt 12 (.alt 4 (.alt 8 (.alt 16 (Row.pures [17,18,19,20,21,22] (.alt 23 (.done) .stop)) .stop) (.alt 16 (.alt 8 (Row.pures [17,18,19,20,21,22] (.alt 23 (.done) .stop)) .stop) .stop)) (.alt 8 (.alt 4 (.alt 16 (Row.pures [17,18,19,20,21,22] (.alt 23 (.done) .stop)) .stop) (.alt 16 (.alt 4 (Row.pures [17,18,19,20,21,22] (.alt 23 (.done) .stop)) .stop) .stop)) (.alt 16 (.alt 4 (.alt 8 (Row.pures [17,18,19,20,21,22] (.alt 23 (.done) .stop)) .stop) (.alt 8 (.alt 4 (Row.pures [17,18,19,20,21,22] (.alt 23 (.done) .stop)) .stop) .stop)) .stop))) (.alt 16 (.alt 4 (.alt 8 (.alt 12 (Row.pures [17,18,19,20,21,22] (.alt 23 (.done) .stop)) .stop) (.alt 12 (.alt 8 (Row.pures [17,18,19,20,21,22] (.alt 23 (.done) .stop)) .stop) .stop)) (.alt 8 (.alt 4 (.alt 12 (Row.pures [17,18,19,20,21,22] (.alt 23 (.done) .stop)) .stop) (.alt 12 (.alt 4 (Row.pures [17,18,19,20,21,22] (.alt 23 (.done) .stop)) .stop) .stop)) (.alt 12 (.alt 4 (.alt 8 (Row.pures [17,18,19,20,21,22] (.alt 23 (.done) .stop)) .stop) (.alt 8 (.alt 4 (Row.pures [17,18,19,20,21,22] (.alt 23 (.done) .stop)) .stop) .stop)) .stop))) .stop))))) mixed (zo xw g1) ?_
 repeat' refine And.intro ?_ ?_
 all_goals
  refine zG (hr) (zo xw g1) ?_;exact⟨_,_,rfl,by simp,zO (Yo hd hlt _)⟩
theorem ZuA{x:Inst}{n:Nat}{p:zA}(h:PlanG x n p)(a o d:Nat)(b:Int)(hb:b<=9223372036854775807){S:Store}{id v:Nat}(hS:S id=.cells v 245 (JB x p a o d b)):
  Spec prog 183 [.ptr id v 0] S (λ_ S'=>S'=S.set id (.cells v 245 (JB x (wV x p d b).1 a o d b))):=by
 have hr:=Zum h.m d b hb;generalize wV x p d b=r at *;obtain⟨q,ok⟩:=r;simp only at hr ⊢;refine yn func183 ntmps183 results183 λnx hd=>?_
 have hlt:id<nx:=yX hd hS DZ;have xw:=λobs=>(zB (S:=S) (obs:=obs) hlt).trans hS
 have g1:¬nx<=id:=DY
 refine zz (some []) (Row.pures [0,1,2,3,5,6,7,9,10,11,13,14,15] (.alt 4 (.alt 8 (.alt 12 (.alt 16 (Row.pures [17,18,19,20,21,22] (.alt 23 (.done) .stop)) .stop) (.alt 16 (.alt 12 (Row.pures [17,18,19,20,21,22] (.alt 23 (.done) .stop)) .stop) .stop)) (.alt 12 (.alt 8 (.alt 16 (Row.pures [17,18,19,20,21,22] (.alt 23 (.done) .stop)) .stop) (.alt 16 (.alt 8 (Row.pures [17,18,19,20,21,22] (.alt 23 (.done) .stop)) .stop) .stop)) (.alt 16 (.alt 8 (.alt 12 (Row.pures [17,18,19,20,21,22] (.alt 23 (.done) .stop)) .stop) (.alt 12 (.alt 8 (Row.pures [17,18,19,20,21,22] (.alt 23 (.done) .stop)) .stop) .stop)) .stop))) (.alt 8 (.alt 4 (.alt 12 (.alt 16 (Row.pures [17,18,19,20,21,22] (.alt 23 (.done) .stop)) .stop) (.alt 16 (.alt 12 (Row.pures [17,18,19,20,21,22] (.alt 23 (.done) .stop)) .stop) .stop)) (.alt 12 (.alt 4 (.alt 16 (Row.pures [17,18,19,20,21,22] (.alt 23 (.done) .stop)) .stop) (.alt 16 (.alt 4 (Row.pures [17,18,19,20,21,22] (.alt 23 (.done) .stop)) .stop) .stop)) (.alt 16 (.alt 4 (.alt 12 (Row.pures [17,18,19,20,21,22] (.alt 23 (.done) .stop)) .stop) (.alt 12 (.alt 4 (Row.pures [17,18,19,20,21,22] (.alt 23 (.done) .stop)) .stop) .stop)) .stop))) (.alt 12 (.alt 4 (.alt 8 (.alt 16 (Row.pures [17,18,19,20,21,22] (.alt 23 (.done) .stop)) .stop) (.alt 16 (.alt 8 (Row.pures [17,18,19,20,21,22] (.alt 23 (.done) .stop)) .stop) .stop)) (.alt 8 (.alt 4 (.alt 16 (Row.pures [17,18,19,20,21,22] (.alt 23 (.done) .stop)) .stop) (.alt 16 (.alt 4 (Row.pures [17,18,19,20,21,22] (.alt 23 (.done) .stop)) .stop) .stop)) (.alt 16 (.alt 4 (.alt 8 (Row.pures [17,18,19,20,21,22] (.alt 23 (.done) .stop)) .stop) (.alt 8 (.alt 4 (Row.pures [17,18,19,20,21,22] (.alt 23 (.done) .stop)) .stop) .stop)) .stop))) (.alt 16 (.alt 4 (.alt 8 (.alt 12 (Row.pures [17,18,19,20,21,22] (.alt 23 (.done) .stop)) .stop) (.alt 12 (.alt 8 (Row.pures [17,18,19,20,21,22] (.alt 23 (.done) .stop)) .stop) .stop)) (.alt 8 (.alt 4 (.alt 12 (Row.pures [17,18,19,20,21,22] (.alt 23 (.done) .stop)) .stop) (.alt 12 (.alt 4 (Row.pures [17,18,19,20,21,22] (.alt 23 (.done) .stop)) .stop) .stop)) (.alt 12 (.alt 4 (.alt 8 (Row.pures [17,18,19,20,21,22] (.alt 23 (.done) .stop)) .stop) (.alt 8 (.alt 4 (Row.pures [17,18,19,20,21,22] (.alt 23 (.done) .stop)) .stop) .stop)) .stop))) .stop))))) mixed (zo xw g1) ?_
 repeat' refine And.intro ?_ ?_
 all_goals
  refine zG (hr) (zo xw g1) ?_;exact⟨_,_,rfl,by simp,zO (Yo hd hlt _)⟩
open Go Go.Proofs Hp
def ZP(x:Inst)(n:Nat)(p:zA)(s b:Int):zA :=
 if x.cust.length=0 then p else
  (wV x (uV x n (xV x n p [jA s x.cust.length]).1 (jA s x.cust.length) (jA (yK s) x.cust.length)).1 (jA (yK (yK s)) n) b).1
def JC(x:Inst)(s:Int):Int:=if x.cust.length=0 then s else yK (yK (yK s))
theorem ZuB{x:Inst}{n:Nat}{p:zA}(h:PlanG x n p)(s b:Int):PlanG x n (ZP x n p s b):=by
 unfold ZP;split
 ·exact h
 ·rename_i h0;have ha:=YZ s (n:=x.cust.length) DY;have ho:=YZ (yK s) (n:=x.cust.length) DY;exact Zux (ZdR (ZaY h _ DZ (by simpa using ha)).1 _ _ ha ho).1 _ _
def QR(p q1 q2 q3:zA)(k:Nat):zA:=if k=0 then p else if k=1 then q1 else if k=2 then q2 else q3
theorem ZjC(p q1 q2 q3:zA):QR p q1 q2 q3 0=p:=if_pos rfl
theorem ZjD(p q1 q2 q3:zA):QR p q1 q2 q3 1=q1:=by unfold QR;rw[if_neg D4,if_pos rfl]
theorem ZjE(p q1 q2 q3:zA):QR p q1 q2 q3 2=q2:=by unfold QR;rw[if_neg D4,if_neg D4,if_pos rfl]
theorem ZjF(p q1 q2 q3:zA):QR p q1 q2 q3 3=q3:=by unfold QR;rw[if_neg D4,if_neg D4,if_neg D4]
theorem ZuC{x:Inst}{n:Nat}{p:zA}(h:PlanG x n p)(hn0:0<n)(s b:Int)(hb:b<=9223372036854775807){S:Store}{id v:Nat}(hS:S id=.cells v 179 (j7 s)):
  Spec prog 129 [.agg (zy x),.agg [L p],.ptr id v 0,I b] S (λq S'=>q=.agg [L (ZP x n p s b)]/\S'=S.set id (.cells v 179 (j7 (JC x s)))):=by
 have hcl:=h.clone;have h6:=h.six;have hxd:=h.a.days;have hn60:=h.a.n60
 by_cases hm:x.cust.length=0
 ·have e1:ZP x n p s b=p:=by unfold ZP;rw[if_pos hm]
  have e2:JC x s=s:=by unfold JC;rw[if_pos hm]
  rw[e1,e2];refine yn func129 ntmps129 results129 λnx hd=>?_
  have hlt:id<nx:=yX hd hS DZ;refine D7 ?_;intro v0 v1 v2;refine za (zz (some [nx,nx+1]) (Row.pures [0,1,2,3,4] (.alt 5 (Row.pures [6] .done) .stop)) mixed trivial ?_);refine zG (hcl) trivial ?_;intro v3;refine D7 ?_
  repeat apply za
  refine zb ?_;refine zm (by simp[Ct.1 hm]) ?_;refine D7 ?_;have eS:S.set id (.cells v 179 (j7 s))=S:=by
   rw[<-hS];funext i
   by_cases hi:i=id
   ·subst hi;exact q11 _ _ _
   ·exact q10 _ _ _ _ hi
  rw[eS];exact zg ⟨_,S,D0,⟨by simp[zp],rfl⟩,zO hd⟩
 have e1:ZP x n p s b=(wV x (uV x n (xV x n p [jA s x.cust.length]).1 (jA s x.cust.length) (jA (yK s) x.cust.length)).1 (jA (yK (yK s)) n) b).1:=by unfold ZP;rw[if_neg hm]
 have e2:JC x s=yK (yK (yK s)):=by unfold JC;rw[if_neg hm]
 rw[e1,e2];have ha:=YZ s (n:=x.cust.length) DY;have ho:=YZ (yK s) (n:=x.cust.length) DY;have hdd:=YZ (yK (yK s)) hn0;have b1:=λ(S:Store) hS=>WZ s x.cust.length DY DY (S:=S) (id:=id) (v:=v) hS
 have b2:=λ(S:Store) hS=>WZ (yK s) x.cust.length DY DY (S:=S) (id:=id) (v:=v) hS
 have b3:=λ(S:Store) hS=>WZ (yK (yK s)) n DY DY (S:=S) (id:=id) (v:=v) hS
 rw[<-hxd]at b3;have hp1:PlanG x n (xV x n p [jA s x.cust.length]).1:=(ZaY h _ DZ (by simpa using ha)).1;have hp2:=(ZdR hp1 _ _ ha ho).1;generalize jA s x.cust.length=a at *;generalize jA (yK s) x.cust.length=o at *;generalize jA (yK (yK s)) n=d at *;generalize yK (yK s)=s2 at *;generalize yK s=s1 at *;generalize yK s2=s3 at *;have r1:=λ(S:Store) (i w:Nat) hS=>Zuy h a o d b ha (S:=S) (id:=i) (v:=w) hS
 have r2:=λ(S:Store) (i w:Nat) hS=>Zuz hp1 a o d b ha ho (S:=S) (id:=i) (v:=w) hS
 have r3:=λ(S:Store) (i w:Nat) hS=>ZuA hp2 a o d b hb (S:=S) (id:=i) (v:=w) hS
 clear hp1 hp2;generalize (wV x (uV x n (xV x n p [a]).1 a o).1 d b).1=q3 at *;generalize (uV x n (xV x n p [a]).1 a o).1=q2 at *;generalize (xV x n p [a]).1=q1 at *;clear e1 e2;refine yn func129 ntmps129 results129 λnx hd=>?_
 have hlt:id<nx:=yX hd hS DZ;have xw:=λobs=>(zB (S:=S) (obs:=obs) hlt).trans hS
 refine D7 ?_;intro v0 v1 v2;refine za (zz (some [nx,nx+1]) (Row.pures [0,1,2,3,4] (.alt 5 (Row.pures [6] .done) .stop)) mixed trivial ?_);refine zG (hcl) trivial ?_;intro v3;refine D7 ?_
 repeat apply za
 refine zb ?_;have hm2:¬x.cust=[]:=λe=>hm (by rw[e];rfl)
 refine zk (by simp[hm2]) ?_;refine zh (D7 ?_);refine λhsuf=>((b1 _ (xw _)).mono ?_).v
 rintro _ _ ⟨rfl,rfl⟩;refine⟨_,_,qc _ hlt,zL hsuf ?_⟩;have hS1:(S.set id (.cells v 179 (j7 s1))) id=.cells v 179 (j7 s1):=q11 _ _ _;have hd1:=Yo hd hlt (.cells v 179 (j7 s1));obtain⟨S1,hS1e⟩:∃S1,S1=S.set id (.cells v 179 (j7 s1)):=⟨_,rfl⟩;rw[<-hS1e]at hS1 hd1 ⊢;have xw1:=λobs=>(zB (S:=S1) (obs:=obs) hlt).trans hS1
 refine D7 ?_;refine λhsuf=>((b2 _ (xw1 _)).mono ?_).v
 rintro _ _ ⟨rfl,rfl⟩;refine⟨_,_,qc _ hlt,zL hsuf ?_⟩;have hS2:(S1.set id (.cells v 179 (j7 s2))) id=.cells v 179 (j7 s2):=q11 _ _ _;have hd2:=Yo hd1 hlt (.cells v 179 (j7 s2));obtain⟨S2,hS2e⟩:∃S2,S2=S1.set id (.cells v 179 (j7 s2)):=⟨_,rfl⟩;rw[<-hS2e]at hS2 hd2 ⊢;have xw2:=λobs=>(zB (S:=S2) (obs:=obs) hlt).trans hS2
 refine D7 ?_;refine λhsuf=>((b3 _ (xw2 _)).mono ?_).v
 rintro _ _ ⟨rfl,rfl⟩;refine⟨_,_,qc _ hlt,zL hsuf ?_⟩;have hd3:=Yo hd2 hlt (.cells v 179 (j7 s3));obtain⟨S3,hS3e⟩:∃S3,S3=S2.set id (.cells v 179 (j7 s3)):=⟨_,rfl⟩;rw[<-hS3e]at hd3 ⊢
 repeat apply za
 refine zb ?_;refine zj (zC (λk:Nat=>k<=3) (λk=>[(8,.ptr (nx+2) v2 0),(9,.ptr (nx+3) v3 0),(53,.lst 3 [.fn (.func 181) [.ptr (nx+3) v3 0] [],.fn (.func 182) [.ptr (nx+3) v3 0] [],.fn (.func 183) [.ptr (nx+3) v3 0] []]),(54,I 3),(55,I k)]) (λk=>[.cells v0 25 (zy x),.cells v1 30 [L p],.cells v2 30 [yu],.cells v3 245 (JB x (QR p q1 q2 q3 k) a o d b)]) (λk=>3-k) 0 [] DZ DZ (by simp[ZjC]) ?_);rintro k hk;refine D7 ?_;refine za (zv rfl (λhc=>?_) (λhc=>?_))
 ·simp at hc;refine zh (za (zj ?_));obtain rfl | rfl | rfl:k=0\/k=1\/k=2:=DY
  ·refine D7 ?_;refine zb ?_;refine λhsuf=>((r1 _ (nx+3) v3 (by rw[zZ];simp[ZjC])).mono ?_).v
   rintro _ _ rfl;refine⟨S3,_,(by rw[yl _ (by omega) (by simp),AI]),zL hsuf ?_⟩;refine zb ?_;exact zq 1 [] DY DY (by simp;exact wr 1 (by omega) (by omega)) rfl (by simp[ZjD])
  ·refine D7 ?_;refine zb ?_;refine λhsuf=>((r2 _ (nx+3) v3 (by rw[zZ];simp[ZjD])).mono ?_).v
   rintro _ _ rfl;refine⟨S3,_,(by rw[yl _ (by omega) (by simp),AI]),zL hsuf ?_⟩;refine zb ?_;exact zq 2 [] DY DY (by simp;exact wr 2 (by omega) (by omega)) rfl (by simp[ZjE])
  ·refine D7 ?_;refine zb ?_;refine λhsuf=>((r3 _ (nx+3) v3 (by rw[zZ];simp[ZjE])).mono ?_).v
   rintro _ _ rfl;refine⟨S3,_,(by rw[yl _ (by omega) (by simp),AI]),zL hsuf ?_⟩;refine zb ?_;exact zq 3 [] DY DY (by simp;exact wr 3 (by omega) (by omega)) rfl (by simp[ZjF])
 ·simp at hc;obtain rfl:k=3:=DY
  refine zx ?_;rw[ZjF];refine D7 ?_;have eS:S.set id (.cells v 179 (j7 s3))=S3:=by rw[hS3e,hS2e,hS1e,Store.set_set,Store.set_set]
  rw[eS];exact zg ⟨_,S3,D0,⟨by simp[zp],rfl⟩,zO hd3⟩
open Go Go.Proofs Hp
def xW(x:Inst)(n:Nat)(b:Int)(p:zA)(s:Int):Nat->zA × Int
 | 0=>(p,s)
 | k+1=>(ZP x n (xW x n b p s k).1 (xW x n b p s k).2 b,JC x (xW x n b p s k).2)
def Yp(x:Inst)(n:Nat)(b:Int)(p:zA)(s:Int)(k:Nat):List zA:=(List.range (k+1)).map λi=>(xW x n b p s i).1
theorem ZuD(x:Inst)(n:Nat)(b:Int)(p:zA)(s:Int):Yp x n b p s 0=[p]:=rfl
theorem ZjG(x:Inst)(n:Nat)(b:Int)(p:zA)(s:Int)(k:Nat):Yp x n b p s (k+1)=Yp x n b p s k++[(xW x n b p s (k+1)).1]:=by
 unfold Yp;rw[AH,List.map_append];rfl
theorem ZuE(x:Inst)(n:Nat)(b:Int)(p:zA)(s:Int)(k:Nat):(Yp x n b p s k).length=k+1:=by simp[Yp]
theorem ZaZ{x:Inst}{n:Nat}{p:zA}(h:PlanG x n p)(b s:Int):∀k,PlanG x n (xW x n b p s k).1
 | 0=>h
 | k+1=>ZuB (ZaZ h b s k) _ _
abbrev QS(seed r b cl:Int):List PV:=[I seed,I r,I b,I cl]
theorem ZuF{x:Inst}{n:Nat}(hA:InstA x n)(hn0:0<n)(hmay:∀b,(jx x b).2=0->PlanG x n (jx x b).1)(seed:Int)(r:Nat)(hr:r<=1000)(b:Int)(hb:b<=9223372036854775807)(cl:Int)(fn:FuncId)(cs:List PV){S:Store}(St:List zA->Store)(hS0:St []=S)
  (hdead:∀nx,zS nx S->∀h,zS nx (St h))
  (hshow:∀nx,zS nx S->∀(h:List zA) (p:zA) (obs:List Ob),h.length<=1001->PlanG x n p->Spec prog fn ([.agg [L p]]++cs) (ext (St h) nx obs) (λ_ S'=>S'=ext (St (h++[p])) nx obs)) :
  Spec prog 84 [.agg (zy x),.agg (QS seed r b cl),.fn (.func fn) [] cs] S (λq S'=>q=I (jx x b).2/\S'=St (if (jx x b).2=0 then Yp x n b (jx x b).1 (IntKind.u64.wrap seed) r else [])):=by
 subst hS0;have hSt:=ZsN hA hb;have hmay:=hmay b;generalize jx x b=st at *;obtain⟨p0,e⟩:=st;simp only at hSt hmay ⊢;refine yn func84 ntmps84 results84 λnx hd=>?_
 have hshow:=hshow nx hd;have hdead:=hdead nx hd;refine D7 ?_;intro v0 v1;refine D7 ?_;refine zt hSt ?_;intro v2
 by_cases he:e=0
 case neg =>
  rw[if_neg he]
  repeat apply za
  refine zb ?_;refine zm (by simp[he]) ?_;refine D7 ?_;exact zg ⟨_,_,rfl,⟨by simp[zp],rfl⟩,zO hd⟩
 subst he;rw[if_pos rfl];have hG:=hmay rfl;have hit:=ZaZ hG b (IntKind.u64.wrap seed)
 repeat apply za
 refine zb ?_;refine zk DZ ?_;refine zh (D7 ?_);refine λhsuf=>((hshow [] p0 _ DZ hG).mono ?_).v
 rintro _ _ rfl;refine⟨_,_,rfl,zL hsuf ?_⟩;refine D7 ?_;refine λhsuf=>((ZjB seed jU).mono ?_).v
 rintro _ _ ⟨v3,rfl,rfl⟩;refine⟨_,_,qV _,zL hsuf ?_⟩
 repeat apply za
 refine zb ?_;have hz:Yp x n b p0 (IntKind.u64.wrap seed) 0=[]++[p0]:=rfl;generalize IntKind.u64.wrap seed=s0 at *;refine zj (jC (σ:=Nat) (λk=>k<=r) (λk=>[(2,.fn (.func fn) [] cs),(3,.ptr nx v0 0),(4,.ptr (nx+1) v1 0),(7,.ptr (nx+2) v2 0),(9,.ptr (nx+3) v3 0),(27,I r),(28,I k)]) (λk=>St (Yp x n b p0 s0 k)) (λk=>[.cells v0 25 (zy x),.cells v1 65 (QS seed r b cl),.cells v2 30 [L (xW x n b p0 s0 k).1],.cells v3 179 (j7 (xW x n b p0 s0 k).2)]) (λk=>r-k) (zT 0 [] DZ DZ (by rw[ZuD]) (by simp[xW])) ?_);rintro k hk;have hgk:=hit k;have hgn:=hit (k+1);have hrd:=λ(S:Store) (id v:Nat) hS=>ZuC hgk hn0 (xW x n b p0 s0 k).2 b hb (S:=S) (id:=id) (v:=v) hS
 have hnx:ZP x n (xW x n b p0 s0 k).1 (xW x n b p0 s0 k).2 b=(xW x n b p0 s0 (k+1)).1:=rfl;have hnx2:JC x (xW x n b p0 s0 k).2=(xW x n b p0 s0 (k+1)).2:=rfl;have hhs:=ZjG x n b p0 s0 k;have hhl:=ZuE x n b p0 s0 k;rw[hnx,hnx2]at hrd;refine D7 ?_;refine za (zv rfl (λhc=>?_) (λhc=>?_))
 ·simp at hc;refine zh (za (zj (D7 ?_)));refine λhsuf=>((hrd _ (nx+3) v3 (by rw[zZ];rfl)).mono ?_).v
  rintro _ _ ⟨rfl,rfl⟩;refine⟨_,_,yl _ DY DZ,zL hsuf ?_⟩
  try simp only[AI,AX,Bc]
  refine zb ?_;refine λhsuf=>((hshow _ _ _ DY hgn).mono ?_).v
  rintro _ _ rfl;refine⟨_,_,rfl,zL hsuf ?_⟩;refine zb ?_;exact zq (k+1) [] hc DY (by simp[zu k (by omega)]) (by rw[hhs]) DZ
 ·simp at hc;obtain rfl:k=r:=DY
  refine zx (D7 ?_);exact zg ⟨_,_,rfl,⟨by simp[zp],rfl⟩,zO (hdead _)⟩
open Go Go.Proofs Hp
theorem ZuG(p:zA){S:Store}{id v:Nat}{old:PV}(hS:S id=.cells v 30 [old]):Spec prog 85 [.agg [L p],.ptr id v 0] S (λ_ S'=>S'=S.set id (.cells v 30 [L p])):=by
 refine yn func85 ntmps85 results85 λnx hd=>?_
 have hlt:id<nx:=yX hd hS DZ;have xw:=λobs=>(zB (S:=S) (obs:=obs) hlt).trans hS
 have g1:¬nx<=id:=DY
 refine D7 ?_;intro v0;refine ze [] (zo xw g1) ?_;exact⟨_,_,rfl,by simp,zO (Yo hd hlt _)⟩
def W0(h:List zA):PV:=match h.getLast? with
 | none=>yu
 | some p=>L p
theorem ZjH(h:List zA)(p:zA):W0 (h++[p])=L p:=by unfold W0;rw[List.getLast?_append];rfl
theorem ZuH(x:Inst)(n:Nat)(b:Int)(p:zA)(s:Int)(k:Nat):W0 (Yp x n b p s k)=L (xW x n b p s k).1:=by
 cases k with
 | zero=>rfl
 | succ k=>rw[ZjG,ZjH]
def Y0(x:Inst)(n:Nat)(seed:Int)(r:Nat)(b:Int):zA × Int :=
 if (jx x b).2=0 then ((xW x n b (jx x b).1 (IntKind.u64.wrap seed) r).1,0) else ([],(jx x b).2)
theorem ZuI{x:Inst}{n:Nat}(hA:InstA x n)(hn0:0<n)(hmay:∀b,(jx x b).2=0->PlanG x n (jx x b).1)(seed:Int)(r:Nat)(hr:r<=1000)(b:Int)(hb:b<=9223372036854775807)(cl:Int):
  Pure prog 35 [.agg (zy x),.agg (QS seed r b cl)] (.tup [.agg [L (Y0 x n seed r b).1],I (Y0 x n seed r b).2]):=by
 have hw:=λ(S:Store) fn cs St h1 h2 h3=>ZuF hA hn0 hmay seed r hr b hb cl fn cs (S:=S) St h1 h2 h3
 have hrz:Y0 x n seed r b=if (jx x b).2=0 then ((xW x n b (jx x b).1 (IntKind.u64.wrap seed) r).1,0) else ([],(jx x b).2):=rfl
 have hl:=λp s=>ZuH x n b p s r
 generalize jx x b=st at *;obtain⟨p0,e⟩:=st;simp only at hw hrz;generalize IntKind.u64.wrap seed=s0 at *;refine zr func35 ntmps35 results35 λS nx hd=>?_
 refine D7 ?_;intro v0 v1 v2;refine D7 ?_;intro v3;obtain⟨S1,hS1⟩:∃S1,S1=ext S nx [.cells v0 25 (zy x),.cells v1 65 (QS seed r b cl),.cells v2 30 [yu],.cells v3 30 [yu]]:=⟨_,rfl⟩;have h1:S1 (nx+3)=.cells v3 30 [yu]:=by rw[hS1,zZ];rfl
 have hwk:=hw S1 85 [.ptr (nx+3) v3 0] (λh=>S1.set (nx+3) (.cells v3 30 [W0 h])) (by
   funext i
   by_cases hi:i=nx+3
   ·subst hi;rw[q11];exact h1.symm
   ·exact q10 _ _ _ _ hi) (λnx' hd' h=>Yo hd' (yX hd' h1 DZ) _) (λnx' hd' h p obs _ _=>by
   have hlt:nx+3<nx':=yX hd' h1 DZ;refine(ZuG p (id:=nx+3) (v:=v3) (old:=W0 h) (by rw[zB hlt];exact q11 _ _ _)).mono ?_;rintro _ _ rfl;rw[qc _ hlt,Store.set_set,ZjH])
 rw[hS1]at hwk;refine D7 ?_;refine λhsuf=>(hwk.mono ?_).v
 rintro _ _ ⟨rfl,rfl⟩;refine⟨_,_,yl _ DY DZ,zL hsuf ?_⟩
 try simp only[AI,AX,Bc]
 by_cases he:e=0
 ·rw[if_pos he]at hrz;rw[hrz];simp only[if_pos he,hl];subst he;refine D7 ?_;exact D8 hd
 ·rw[if_neg he]at hrz;rw[hrz];simp only[if_neg he]
  show PW _ _ _ _ _ _ _ (ext _ _ _)
  refine D7 ?_;refine qr 2 0 rfl rfl ?_;exact D8 hd
open Go Go.Proofs Hp
def zR(l:List Int)(i:Nat):Int:=if 1000<l.getD i 0 then 1000 else if l.getD i 0<0 then 0 else l.getD i 0
theorem Y1(l:List Int)(i:Nat):0<=zR l i/\zR l i<=1000:=by unfold zR;split;omega;split<;>omega
theorem ZdS(l:List Int)(i:Nat)(hi:i<=100):Pure prog 118 [L l,I i] (I (zR l i)):=by
 refine zr func118 ntmps118 results118 λS nx hd=>?_
 refine D7 ?_
 by_cases h1:i<l.length
 ·obtain⟨z,tl,a1,a2,a3,e0⟩:=zF rfl l i h1;have hz:l.getD i 0=z:=by rw[Aa,a1];rfl
  have hz1:1<=l.length-i:=DY
  have h1':¬l.length<=i:=DY
  unfold zR;rw[hz]
  by_cases h2:z<0
  ·rw[if_neg DY,if_pos h2]
   repeat apply za
   refine ze [(4,9)] (yF e0 h1 h1' hz1 h2) ?_;refine zm rfl (D7 ?_);exact zg (zi hd rfl rfl)
  ·by_cases h3:1000<z
   ·rw[if_pos h3]
    repeat apply za
    refine ze [(4,9)] (yF e0 h1 h1' hz1 h2) ?_;refine zk rfl (zh ?_)
    repeat apply za
    refine ze [] (zD e0 h1 hz1) ?_;refine zm (by simp[h3]) ?_;refine D7 ?_;exact zg (zi hd rfl rfl)
   ·rw[if_neg h3,if_neg h2]
    repeat apply za
    refine ze [(4,9)] (yF e0 h1 h1' hz1 h2) ?_;refine zk rfl (zh ?_)
    repeat apply za
    refine ze [] (zD e0 h1 hz1) ?_;refine zk D2 ?_;refine zh (za (ze [] (zD e0 h1 hz1) ?_));exact zg (zi hd rfl rfl)
 ·have hz:l.getD i 0=0:=by rw[Aa,Ak DY];rfl
  unfold zR;rw[hz,if_neg D4,if_neg D4];have h1':l.length<=i:=DY
  repeat apply za
  refine ze [(4,9)] (zo h1' zH) ?_;refine zm rfl (D7 ?_);exact zg (zi hd rfl rfl)
def jB(l:List Int):Int:=l.getD 0 0
theorem ZuJ(l:List Int):Pure prog 76 [L l] (.agg (QS (jB l) (zR l 1) (zR l 2) (zR l 3))):=by
 have t1:=ZdS l 1 DY;have t2:=ZdS l 2 DY;have t3:=ZdS l 3 DY;generalize zR l 1=r at *;generalize zR l 2=b at *;generalize zR l 3=c at *;refine zr func76 ntmps76 results76 λS nx hd=>?_
 refine D7 ?_;intro v0;refine D7 ?_;refine zt t1 ?_;refine zt t2 ?_;refine zt t3 ?_;intro v1
 by_cases h:0<l.length
 ·obtain⟨z,tl,a1,a2,a3,e0⟩:=zF rfl l 0 h;have hz:jB l=z:=by unfold jB;rw[Aa,a1];rfl
  have hz1:1<=l.length:=h;rw[DN]at e0;rw[hz]
  repeat apply za
  refine zb ?_;refine zm (by simp[h]) ?_;refine ze [] (zD e0 h hz1) ?_;refine D7 ?_;exact D8 hd
 ·have hz:jB l=0:=by unfold jB;rw[Aa,Ak DY];rfl
  rw[hz];have hl:l=[]:=Ct.1 DY;subst hl
  repeat apply za
  refine zb ?_;refine zk DZ ?_;refine zh (D7 ?_);exact D8 hd
theorem ZjI(l:List Int):Pure prog 33 [L l] (.agg (QS (jB l) (zR l 1 % 9) (zR l 2 % 21) (zR l 3 % 13))):=by
 have hr:=ZuJ l;have b1:=Y1 l 1;have b2:=Y1 l 2;have b3:=Y1 l 3;have w1:(zR l 1).tmod 9=zR l 1 % 9:=Bj DY;have w2:(zR l 2).tmod 21=zR l 2 % 21:=Bj DY;have w3:(zR l 3).tmod 13=zR l 3 % 13:=Bj DY;generalize zR l 1=r at *;generalize zR l 2=b at *;generalize zR l 3=c at *;generalize jB l=s at *;refine zr func33 ntmps33 results33 λS nx hd=>?_
 refine D7 ?_;intro v0;refine D7 ?_;refine zt hr ?_;intro v1;refine za (ze [] w1 ?_);refine za (ze [] w2 ?_);refine za (ze [] w3 ?_);refine D7 ?_;exact D8 hd
open Go Go.Proofs Hp
theorem PlanG.refCost{x:Inst}{n:Nat}{p:zA}(h:PlanG x n p):Pure prog 26 [.agg (zy x),.agg [L p]] (I (jR x p)) :=
 Zsb x p h.serves (by have:=h.six;omega) (λc hc=>(h.a.made c hc).fits) λd hd=>(h.s.ok d hd).1
theorem PlanG.same{x:Inst}{n:Nat}{p:zA}(h:PlanG x n p):Pure prog 25 [.agg [L p],.agg [L p]] (B true):=by
 obtain⟨h1,h2,h3⟩:=h.s.sizes (by have:=h.a.n60;omega) DY;have:=Zrn p p DY (λd hd=>by have:=h2 d hd;omega) (λd hd t ht=>by have:=h3 d hd t ht;omega);simpa using this
open Go Go.Proofs Hp
def Za0(id ver b:Nat):Rd:=⟨none,λC S w=>Rel C S w (.ptr id ver 0) (.pointer (some ⟨b,0,none⟩)),λst h=>Rel.mono st h⟩
theorem ZuK{P:Program}{n N:Nat}{c:Code}{Q:Exit->(Nat->PV)->Store->Prop}{F:Nat->PV}{S:Store}{x id ver e:Nat}{cs:List PV}(hF:F x=.ptr id ver 0)(hs:S id=.cells ver e cs)
  (h:∀b,PW P (Za0 id ver b) n N c Q F S):PW P wK n N c Q F S:=by
 intro C w a st;have e1:=st.fr x;rw[hF]at e1;generalize hv:a.tmps.getD x undef=v at e1;cases e1 with
 | ptr h1 h2 h3 =>
  obtain⟨b,k,hl,rfl⟩:=(h3 ver (by rw[hs];rfl)).2 rfl;have:=h b C w a ⟨st.sim,st.size,st.fr,.ptr h1 h2 h3⟩;exact wpIn_mono this λe a' w' ⟨F',S',C',q1,q2,q3,q4⟩=>⟨F',S',C',q1,⟨q2.sim,q2.size,q2.fr,trivial⟩,q3,q4⟩
theorem ZuL{P:Program}{n:Nat}{F:Nat->PV}{S:Store}{o:Oper}{t e m id ver b et:Nat}{x:Operand}{cs:List PV}{K:PV->Store->Prop}(ho:o.op=.slice t x none none none)(ht:P.underlying t=some (.array m e))(hc:P.cellsOf e≠0)(hx:ev F x=.ptr id ver 0)(hs:S id=.cells ver et cs)
  (hK:K (.sc (.slice (some ⟨b,0,none⟩) m m)) S):PO P (Za0 id ver b) n o F S K:=by
 intro G hG C w a N st next Q' hnext;have e1:=st.ev x;rw[(hG x (by simp[ho,Op.operands])).trans hx]at e1;have e2:Rel C S w (.ptr id ver 0) (.pointer (some ⟨b,0,none⟩)):=st.v;have hnd:∀c,o.op≠.defer c:=by intro c hc;rw[ho]at hc;cases hc
 generalize hv:a.eval x=v at e1;cases e1 with
 | ptr h1 h2 h3 =>
  obtain⟨b1,k1,hl,rfl⟩:=(h3 ver (by rw[hs];rfl)).2 rfl;cases e2 with
  | ptr i1 i2 i3 =>
   obtain⟨b2,k2,hl2,hb⟩:=(i3 ver (by rw[hs];rfl)).2 rfl;rw[hl]at hl2;cases hl2;cases hb;have hrun:(execOp a.eval o).run P w=.ok (.value (.slice (some ⟨b,0,none⟩) m m)) w:=by
    unfold execOp;simp[ho,hv,Instr.sliceAt,run_underlying ht,Instr.sureAddr,Instr.sliceBounds,vG hc];intro _;rfl
   exact qj hnd hrun (hnext _ _ _ _ _ hK (.sc _) st.sim (Step.refl _ _ _))
theorem W3{P:Program}{o:Oper}{s x:Operand}{t:TypeId}{a:Act}{w w':World}{v:Value}(ho:o.op=.call { callee:=.builtin .copy,args:=#[s,x],argTypes:=#[t,t] })
  (h:(Builtin.copy_ #[t,t] o.type #[a.eval s,a.eval x]).run P w=.ok v w'):(execOp a.eval o).run P w=.ok (.value v) w':=by
 unfold execOp
 grind[resolve,invoke,builtin,Sem.run_bind,Sem.run_pure,Result.andThen_ok]
theorem ZuM{P:Program}{n:Nat}{F:Nat->PV}{S:Store}{o:Oper}{s x:Operand}{t e b m id ver et:Nat}{cs l:List PV}{K:PV->Store->Prop}(ho:o.op=.call { callee:=.builtin .copy,args:=#[s,x],argTypes:=#[t,t] })(ht:P.underlying t=some (.slice e))(hz:(P.info? e).map (·.size)=some 1)
  (hs:ev F s=.sc (.slice (some ⟨b,0,none⟩) m m)) (hx:ev F x=.lst l.length l) (hid:S id=.cells ver et cs) (hm:cs.length=m)
  (hK:K (I (min l.length m:Nat)) (S.set id (.cells ver et (l.take m++cs.drop (min l.length m))))):PO P (Za0 id ver b) n o F S K:=by
 intro G hG C w a N st next Q' hnext;have e1:=st.ev s;rw[(hG s (by grind[Op.operands,Call.operands])).trans hs]at e1;have e2:=st.ev x;rw[(hG x (by grind[Op.operands,Call.operands])).trans hx]at e2;have e3:Rel C S w (.ptr id ver 0) (.pointer (some ⟨b,0,none⟩)):=st.v;have hnd:∀c,o.op≠.defer c:=by intro c hc;rw[ho]at hc;cases hc
 generalize hv:a.eval s=v at e1;cases e1;generalize hu:a.eval x=u at e2;cases e3 with
 | ptr i1 i2 i3 =>
  obtain⟨b2,k,hl,hb⟩:=(i3 ver (by rw[hid];rfl)).2 rfl;cases hb;rcases st.sim.cells id ver et cs hid with ⟨hn,_⟩ | ⟨b',k',c,g1,g2,g3,g4,g5,g6⟩
  ·rw[hn]at hl;cases hl
  rw[hl]at g1;cases g1;have main:∀(vs:List Value) (a':Addr) (cap:Nat),u=.slice (some a') l.length cap->vs.length=min l.length m->(∀j v,vs[j]?=some v->w.cell? (a'.add j)=some v)->(∀v∈vs,v.oneCell'=true)->(∀(i:Nat) (p:PV) (v:Value),(l.take m)[i]?=some p->vs[i]?=some v->Rel C S w p v)->o.wpIn (Fe (Za0 id ver b)) n P a w next Q':=by
   intro vs a' cap hu' hvl hcell hone hrel;have hrun0:=run_copy_row P w t t o.type e b 0 m m a' l.length cap c et vs ht hz g2 (by rw[hvl]) hcell DY hone;have hrun:=W3 (P:=P) (a:=a) (w:=w) ho (by rw[hv,hu,hu'];exact hrun0);simp only[CV,AK,AQ]at hrun;generalize hw':w.setRow b (vs++c.toList.drop vs.length).toArray=w' at hrun;have hheap:w'.heap[b]?=some (.cells (vs++c.toList.drop vs.length).toArray et (0,0)):=by rw[<-hw'];exact setRow_heap w b c _ et _ g2
   have hgr:w.grownBy w' (some b)/\w.drawn<=w'.drawn:=by
    rw[<-hw'];exact⟨⟨rfl,rfl,rfl,by simp,λj hj hne=>setRow_other w b j _ (λe=>hne (by rw[e]))⟩,Ag _⟩
   have hsize:(vs++c.toList.drop vs.length).toArray.size=k:=D2
   have htl:(l.take m).length=vs.length:=by rw[Ay,hvl];omega
   obtain⟨t1,t2⟩:=st.sim.turn (l:=C.loc id) (ver':=ver) (cs':=l.take m++cs.drop (min l.length m)) hid (Ag _) (λ_=>rfl) (by rw[hl];exact hgr)
    (.inr ⟨b,k,_,hl,.inr (by rw[hl];rfl),hheap,hsize,by rw[Ar,Bs,htl];omega,λi z hi hz=>by
      rw[AE]at hz
      by_cases q1:i<vs.length
      ·rw[Aq q1]at hz;exact hone z (Ab hz)
      ·rw[Al DY,AR]at hz;rw[Ar,Bs,htl]at hi;have e9:vs.length+(i-vs.length)=i:=DY
       rw[e9]at hz;exact g5 i z DY (by rw[<-Array.getElem?_toList];exact hz),
     λi p z hp hz=>by
      rw[AE]at hz
      by_cases q1:i<vs.length
      ·rw[Aq q1]at hz;rw[Aq DY]at hp;exact hrel i p z hp hz
      ·rw[Al DY,AR]at hz;rw[Al DY,AR,htl,<-hvl]at hp;have e9:vs.length+(i-vs.length)=i:=DY
       rw[e9]at hz hp;exact g6 i p z hp (by rw[<-Array.getElem?_toList];exact hz)⟩)
   have hres:goInt vs.length=Value.int .i64 ((min l.length m:Nat):Int):=by rw[hvl];rfl
   exact qj hnd hrun (hnext _ _ _ _ _ hK (by rw[hres];exact .sc _) t1 t2)
  generalize hk:l.length=kk at e2;cases e2 with
  | lst0 =>
   rename_i cap a';have hrun0:(Builtin.copy_ #[t,t] o.type #[a.eval s,a.eval x]).run P w=.ok (goInt 0) w:=by
    rw[hv,hu];cases hq:P.info? e with
    | none=>simp[hq]at hz
    | some i =>
     cases a'<;>simp[Builtin.copy_,run_underlying ht,Builtin.lenOf,Builtin.firstCells,sizeOf,typeInfo,hq,storeCells,loadCells,loadCellsFrom]
   have hrun:=W3 (P:=P) (a:=a) (w:=w) ho hrun0;have eS:S.set id (.cells ver et cs)=S:=by
    funext i
    by_cases hi:i=id
    ·grind[q11]
    ·grind[q10]
   simp only[Ah,Nat.zero_min,Du,DN,AK,eS]at hK;exact qj hnd hrun (hnext _ _ _ _ _ hK (.sc _) st.sim (Step.refl _ _ _))
  | lst1 hn hmx hb hM hs1 h1 h2 =>
   rename_i cap b' o' c' e' fz;subst hk;have hadd:∀j,(⟨b',o',none⟩:Addr).add j=⟨b',o'+j,none⟩:=by intro j;unfold Addr.add;split<;>simp_all
   have hat:∀(j:Nat) (v:Value),((c'.toList.drop o').take (min l.length m))[j]?=some v->j<min l.length m/\c'[o'+j]?=some v:=λj v hj=>by
    rw[BK]at hj;split at hj
    ·rename_i hlt;rw[AR,Array.getElem?_toList]at hj;exact⟨hlt,hj⟩
    ·cases hj
   refine main ((c'.toList.drop o').take (min l.length m)) ⟨b',o',none⟩ cap rfl ?_ ?_ ?_ ?_
   ·rw[Ay,Bs];have e9:c'.toList.length=c'.size:=Array.length_toList
    by_cases hl0:l=[]
    ·subst hl0;simp
    ·have:=hs1 hl0;omega
   ·intro j v hj;obtain⟨q1,q2⟩:=hat j v hj;rw[hadd];simp[World.cell?,hb,q2]
   ·intro v hv';obtain⟨j,hj⟩:=Cc hv';obtain⟨q1,q2⟩:=hat j v hj;exact h1 j v DY q2
   ·intro i p v hp hvi;obtain⟨q1,q2⟩:=hat i v hvi;rw[AM DY]at hp;exact h2 i p v hp q2
open Go Go.Proofs Hp
theorem ZuN(l:List Int)(i:Nat):min (max (l.getD i 0) 0) 1000=zR l i:=by
 unfold zR;split
 ·omega
 ·split<;>omega
theorem ZuO(l:List Int):(l.flatMap Enc.enc:List PV).take 4++[I 0,I 0,I 0,I 0].drop (min (l.flatMap Enc.enc:List PV).length 4)=[I (l.getD 0 0),I (l.getD 1 0),I (l.getD 2 0),I (l.getD 3 0)]:=by
 match l with
 | []=>rfl
 | [a]=>simp
 | [a,b]=>simp
 | [a,b,c]=>simp
 | a :: b :: c :: d :: r =>
  have:min (((a :: b :: c :: d :: r).flatMap Enc.enc:List PV).length) 4=4:=by rw[xy];simp[Enc.sz]
  rw[this];simp
theorem ZjJ(l:List Int):Pure prog 47 [L l] (.agg (QS (jB l) (zR l 1) (zR l 2) (zR l 3))):=by
 have c1:=Xr (l.getD 1 0) 0 1000;have c2:=Xr (l.getD 2 0) 0 1000;have c3:=Xr (l.getD 3 0) 0 1000;rw[ZuN]at c1 c2 c3;have ha:=ZuO l;have hL:L l=.lst (l.flatMap Enc.enc:List PV).length (l.flatMap Enc.enc):=by
  show PV.lst l.length _=_
  congr 1;rw[xy];simp[Enc.sz]
 have hsd:jB l=l.getD 0 0:=rfl;rw[hsd,hL];generalize l.getD 0 0=z0 at *;generalize l.getD 1 0=z1 at *;generalize l.getD 2 0=z2 at *;generalize l.getD 3 0=z3 at *;generalize zR l 1=t1 at *;generalize zR l 2=t2 at *;generalize zR l 3=t3 at *;generalize (l.flatMap Enc.enc:List PV)=cs at *;refine zr func47 ntmps47 results47 λS nx hd=>?_
 refine D7 ?_;intro v0;refine D7 ?_;intro v1;refine ZuK (x:=3) (id:=nx+1) (ver:=v1) rfl (by rw[zZ];rfl) λb=>?_
 refine D7 ?_;refine λhsuf=>ZuL rfl underlying147 DZ rfl (by rw[zZ];rfl) ?_
 refine⟨_,_,rfl,zL hsuf ?_⟩;refine λhsuf=>ZuM (id:=nx+1) (ver:=v1) rfl underlying26 D1 rfl rfl (by rw[zZ];rfl) rfl ?_
 rw[ha];refine⟨_,_,yl _ DY DZ,zL hsuf ?_⟩
 try simp only[AI,AX,Bc]
 repeat apply za
 refine zb ?_;refine zj (zC (λk:Nat=>1<=k/\k<=4) (λk=>[(2,.ptr nx v0 0),(3,.ptr (nx+1) v1 0),(4,I k)]) (λk=>[.cells v0 65 [I 0,I 0,I 0,I 0],.cells v1 147 [I z0,I (if 1<k then t1 else z1),I (if 2<k then t2 else z2),I (if 3<k then t3 else z3)]]) (λk=>4-k) 1 [] DZ DZ DZ ?_);rintro k ⟨hk1,hk⟩
 repeat apply za
 refine zb ?_;refine zv rfl (λhc=>?_) (λhc=>?_)
 ·simp at hc;refine zh (za (zj ?_));obtain rfl | rfl | rfl:k=1\/k=2\/k=3:=DY
  ·repeat apply za
   refine zb ?_;refine zt c1 ?_;refine zb ?_;exact zq 2 [] DY DY (by simp;exact wr 2 (by omega) (by omega)) rfl DZ
  ·repeat apply za
   refine zb ?_;refine zt c2 ?_;refine zb ?_;exact zq 3 [] DY DY (by simp;exact wr 3 (by omega) (by omega)) rfl DZ
  ·repeat apply za
   refine zb ?_;refine zt c3 ?_;refine zb ?_;exact zq 4 [] DY DY (by simp;exact wr 4 (by omega) (by omega)) rfl DZ
 ·simp at hc;obtain rfl:k=4:=DY
  refine zx (D7 ?_);exact D8 hd
open Go Go.Proofs Hp
def Za1(x:Inst)(bd:Int)(p:zA)(e c:Int):Rep:=if uU e c=0 then ⟨4,bd,jR x p,W (q8 x p x.cust.length),q9 x p,p⟩ else ⟨3,bd,0,0,[],[]⟩
def ZjK(e:Int):Rep:=⟨if e=2 then 1 else 2,0,0,0,[],[]⟩
structure Below21 (x:Inst) (l:List Int) (bd:Int) (p:zA) (e c:Int):Prop where
 climb:∃a b,Pure prog 34 [.agg (zy x),I (jB l),I (zR l 3)] (.tup [.agg [a,b],I bd])
 run:Pure prog 35 [.agg (zy x),.agg [I (jB l),I (zR l 1),I (zR l 2),I (zR l 3)]] (.tup [.agg [L p],I e])
 chk:e=0->Pure prog 67 [.agg (zy x),.agg [L p]] (I c)
 cost:uU e c=0->Pure prog 68 [.agg (zy x),.agg [L p]] (I (jR x p))
 hold:uU e c=0->Pure prog 69 [.agg (zy x),.agg [L p]] (I (W (q8 x p x.cust.length)))
 days:uU e c=0->Pure prog 71 [.agg (zy x),.agg [L p]] (L (q9 x p))
theorem ZuP(u:List UInt8)(hl:u.length<=1048576)(l:List Int)(hz:(qu u).2≠0):Pure prog 12 [T (bs u),L l] (.agg (ZdL (ZjK (qu u).2))):=by
 have hrd:=ZjJ l;have hpa:=λ(S:Store) (id v:Nat) (s0 s1 s2 s3 x0 x1 x2 x3 x4 x5 r0 r1 r2 r3 r4 r5:PV) hS=>Zjv (S:=S) (id:=id) (v:=v) (s0:=s0) (s1:=s1) (s2:=s2) (s3:=s3) (x0:=x0) (x1:=x1) (x2:=x2) (x3:=x3) (x4:=x4) (x5:=x5) (r0:=r0) (r1:=r1) (r2:=r2) (r3:=r3) (r4:=r4) (r5:=r5) u hl hS
 simp only[if_neg hz]at hpa;have hres:ZjK (qu u).2=⟨if (qu u).2=2 then 1 else 2,0,0,0,[],[]⟩:=rfl;rw[hres];generalize (if (qu u).2=2 then (1:Int) else 2)=o at *;generalize (qu u).2=e at *;generalize jB l=s0 at *;generalize zR l 1=s1 at *;generalize zR l 2=s2 at *;generalize zR l 3=s3 at *;refine zr func12 ntmps12 results12 λS nx hd=>?_
 refine D7 ?_;intro v0;refine D7 ?_;refine zt hrd ?_;intro v1
 repeat apply za
 refine zb ?_;refine zj (zC (λk:Nat=>k=0) (λ_=>[(4,.ptr nx v0 0),(5,.ptr (nx+1) v1 0),(21,.lst 4 [.fn (.func 48) [.ptr (nx+1) v1 0] [],.fn (.func 49) [.ptr (nx+1) v1 0] [],.fn (.func 50) [.ptr (nx+1) v1 0] [],.fn (.func 51) [.ptr (nx+1) v1 0] []]),(22,I 4),(23,I 0)])
  (λ_=>[.cells v0 32 [I 0,I 0,I 0,I 0,vA,vA],.cells v1 92 [T (bs u),I s0,I s1,I s2,I s3,I 0,I 0,I 0,I 0,vA,vA,I 0,I 0,I 0,I 0,vA,vA]]) (λs=>s) 0 [] rfl (by simp[qb]) DZ ?_)
 rintro k rfl;refine D7 ?_;refine za (zm DZ ?_);refine zh (za (zj (D7 ?_)));refine D7 ?_;refine λhsuf=>((hpa _ _ _ _ _ _ _ _ _ _ _ _ _ _ _ _ _ _ _ (by rw[zZ];rfl)).mono ?_).v
 rintro _ _ ⟨rfl,rfl⟩;refine⟨_,_,yl _ DY DZ,zL hsuf ?_⟩;refine zm (by simp[hz]) ?_;refine zx (D7 ?_);refine qr 0 4 rfl rfl ?_;refine qr 0 5 rfl rfl ?_;exact zg (zi hd D0 (by simp[zp]))
theorem ZuQ(u:List UInt8)(hl:u.length<=1048576)(l:List Int){bd:Int}{p:zA}{e c:Int}(hz:(qu u).2=0)(hB:Below21 (qu u).1 l bd p e c):Pure prog 12 [T (bs u),L l] (.agg (ZdL (Za1 (qu u).1 bd p e c))):=by
 have hrd:=ZjJ l;have hpa:=λ(S:Store) (id v:Nat) (s0 s1 s2 s3 x0 x1 x2 x3 x4 x5 r0 r1 r2 r3 r4 r5:PV) hS=>Zjv (S:=S) (id:=id) (v:=v) (s0:=s0) (s1:=s1) (s2:=s2) (s3:=s3) (x0:=x0) (x1:=x1) (x2:=x2) (x3:=x3) (x4:=x4) (x5:=x5) (r0:=r0) (r1:=r1) (r2:=r2) (r3:=r3) (r4:=r4) (r5:=r5) u hl hS
 simp only[if_pos hz]at hpa;obtain⟨⟨a,b,b1⟩,b2,b3,b4,b5,b6⟩:=hB;have hfz:Za1 (qu u).1 bd p e c=if uU e c=0 then ⟨4,bd,jR (qu u).1 p,W (q8 (qu u).1 p (qu u).1.cust.length),q9 (qu u).1 p,p⟩ else ⟨3,bd,0,0,[],[]⟩:=rfl
 rw[hfz];generalize (qu u).2=e0 at *;generalize (qu u).1=y at *;subst hz;generalize jR y p=co at *;generalize W (q8 y p y.cust.length)=ho at *;generalize q9 y p=ds at *;generalize jB l=s0 at *;generalize zR l 1=s1 at *;generalize zR l 2=s2 at *;generalize zR l 3=s3 at *;refine zr func12 ntmps12 results12 λS nx hd=>?_
 refine D7 ?_;intro v0;refine D7 ?_;refine zt hrd ?_;intro v1
 repeat apply za
 refine zb ?_;refine zj (zC (λk:Nat=>k<=4/\(3<=k->uU e c=0)) (λk=>[(4,.ptr nx v0 0),(5,.ptr (nx+1) v1 0),(21,.lst 4 [.fn (.func 48) [.ptr (nx+1) v1 0] [],.fn (.func 49) [.ptr (nx+1) v1 0] [],.fn (.func 50) [.ptr (nx+1) v1 0] [],.fn (.func 51) [.ptr (nx+1) v1 0] []]),(22,I 4),(23,I k)])
  (λk=>[.cells v0 32 [I 0,I 0,I 0,I 0,vA,vA],.cells v1 92 [T (bs u),I s0,I s1,I s2,I s3,if k=0 then I 0 else I y.days,if k=0 then I 0 else I y.veh,if k=0 then I 0 else I y.cap,if k=0 then I 0 else I y.len,if k=0 then vA else L y.cust,if k=0 then vA else L y.dist,
   if k<=1 then I 0 else if k=2 then I 3 else I 4,if k<=1 then I 0 else I bd,if k<=3 then I 0 else I co,if k<=3 then I 0 else I ho,if k<=3 then vA else L ds,if k<=2 then vA else L p]]) (λs=>4-s) 0 [] DZ (by simp[qb]) DZ ?_)
 rintro k ⟨hk,hk3⟩;refine D7 ?_;refine za (zv rfl (λhc=>?_) (λhc=>?_))
 ·simp at hc;refine zh (za (zj ?_));obtain rfl | rfl | rfl | rfl:k=0\/k=1\/k=2\/k=3:=DY
  ·refine D7 ?_;refine D7 ?_;refine λhsuf=>((hpa _ _ _ _ _ _ _ _ _ _ _ _ _ _ _ _ _ _ _ (by rw[zZ];rfl)).mono ?_).v
   rintro _ _ ⟨rfl,rfl⟩;refine⟨_,_,yl _ DY DZ,zL hsuf ?_⟩;refine zk DZ ?_;refine zh (zb ?_);exact zq 1 [] DZ DY (by simp;exact wr 1 (by omega) (by omega)) rfl DZ
  ·refine D7 ?_;refine D7 ?_;refine λhsuf=>((Zui b1 (by rw[zZ];rfl)).mono ?_).v
   rintro _ _ ⟨rfl,rfl⟩;refine⟨_,_,yl _ DY DZ,zL hsuf ?_⟩;refine zk DZ ?_;refine zh (zb ?_);exact zq 2 [] DZ DY (by simp;exact wr 2 (by omega) (by omega)) rfl DZ
  ·by_cases hf:uU e c=0
   ·refine D7 ?_;refine D7 ?_;refine λhsuf=>((Zjw b2 b3 (by rw[zZ];rfl)).mono ?_).v
    rintro _ _ ⟨rfl,rfl⟩;simp only[hf,if_true];refine⟨_,_,yl _ DY DZ,zL hsuf ?_⟩;refine zk DZ ?_;refine zh (zb ?_);exact zq 3 [] ⟨by omega,λ_=>by first | exact hf | trivial⟩ DY (by simp;exact wr 3 (by omega) (by omega)) rfl DZ
   ·rw[if_neg hf];refine D7 ?_;refine D7 ?_;refine λhsuf=>((Zjw b2 b3 (by rw[zZ];rfl)).mono ?_).v
    rintro _ _ ⟨rfl,rfl⟩;simp only[if_neg hf];refine⟨_,_,yl _ DY DZ,zL hsuf ?_⟩;refine zm (by simp[hf]) ?_;refine zx (D7 ?_);refine qr 0 4 rfl rfl ?_;refine qr 0 5 rfl rfl ?_;exact zg (zi hd D0 (by simp[zp]))
  ·have hf:=hk3 DY;refine D7 ?_;refine D7 ?_;refine λhsuf=>((Zuj (b4 hf) (b5 hf) (b6 hf) (by rw[zZ];rfl)).mono ?_).v
   rintro _ _ ⟨rfl,rfl⟩;refine⟨_,_,yl _ DY DZ,zL hsuf ?_⟩;refine zk DZ ?_;refine zh (zb ?_);exact zq 4 [] ⟨by omega,λ_=>hf⟩ DY (by simp;exact wr 4 (by omega) (by omega)) rfl DZ
 ·simp at hc;obtain rfl:k=4:=DY
  rw[if_pos (hk3 DY)];refine zx (D7 ?_);exact zg (zi hd D0 (by simp[zp]))
end Go.Proofs.YtcocagkbfpgmiaaGreatDoor.Pv
