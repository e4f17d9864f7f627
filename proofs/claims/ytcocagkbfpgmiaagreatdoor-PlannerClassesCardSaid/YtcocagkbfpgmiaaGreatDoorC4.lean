/- Part of a proof, packed. -/
import Derived.Test.YtcocagkbfpgmiaaGreatDoorC3
open Go.Proofs.Tryz
set_option maxRecDepth 100000
set_option maxHeartbeats 3200000
namespace Go.Proofs.YtcocagkbfpgmiaaGreatDoor.Pv
open Go Go.Proofs
def QO(c:Int)(l:List Stop):Int:=((l.filter λs=>decide (s.c=c)).map (·.q)).sum
theorem ZmW(c:Int)(d:zr):ZeY c d=W (QO c d.flatten):=rfl
theorem ZmX(c:Int)(l:List Stop)(s:Stop):QO c (l++[s])=QO c l+if s.c=c then s.q else 0:=by
 unfold QO;rw[BX,List.map_append,List.sum_append]
 by_cases h:s.c=c<;>simp[h]
theorem ZmY(c:Int)(l:List Stop)(s:Stop):xJ c (l++[s])=xJ c l++if s.c=c then [] else [s]:=by
 unfold xJ;rw[BX]
 by_cases h:s.c=c<;>simp[h]
theorem ZmZ(c:Int)(d:zr)(t:zO):jY c (d++[t])=jY c d++if (xJ c t).length=0 then [] else [xJ c t]:=by
 rw[Zmo];congr 1;unfold jY;rw[AD,Bk];generalize xJ c t=u;cases u<;>simp
theorem Zbu(c:Int)(t:zO):(xJ c t).length<=t.length:=Bx _ _
theorem Zfk(c:Int)(d:zr):(jY c d).length<=d.length:=by
 unfold jY;exact AB (Bx _ _) DC
theorem Zm0(d:zr)(c:Int)(hdn:d.length<=1048576)(hdt:∀t∈d,t.length<=1048576):Pure prog 321 [.agg [L d],I c] (.tup [.agg [L (jY c d)],I (ZeY c d)]):=by
 rw[ZmW];refine zx func321 ntmps321 results321 λS nx hd=>?_
 refine DK ?_;intro v0 v1;refine DK ?_;intro v2;refine jd 2 0 42 1 rfl rfl λv3=>?_
 refine DK ?_
 repeat apply ze
 refine zg ?_;refine zn (zJ (λ(s:Nat × Nat)=>s.1<=d.length) (λ(k,v3)=>[(1,I c),(4,.ptr (nx+1) v1 0),(6,.ptr (nx+2) v2 0),(7,I (W (QO c (d.take k).flatten))),(14,L d),(15,I d.length),(16,I k)]) (λ(k,v3)=>[.cells v0 39 [L d],.cells v1 39 [yr],.cells v2 39 [.sl (nx+3) v3 1 0 (jY c (d.take k)).length],.cells v3 42 ((jY c (d.take k)).flatMap Enc.enc)]) (λs=>d.length-s.1) (0,v3) [] DC (by simp[QO]) (by simp[jY]) ?_);rintro⟨k,v3⟩ hk;simp only at hk ⊢;refine DK ?_;refine ze (zz rfl (λhc=>?_) (λhc=>?_))
 ·simp at hc;obtain⟨t,tl,a1,a2,a3,e0⟩:=zL rfl d k hc;have hk1:1<=d.length-k:=DB
  have htm:=Ab a1;have htn:=hdt t htm;have hrd:=ZmZ c (d.take k) t;rw[<-a3]at hrd;have hfl:(d.take (k+1)).flatten=(d.take k).flatten++t:=by rw[a3,List.flatten_append];simp
  generalize (d.take k).flatten=pre at *;have hrl:(jY c (d.take k)).length<=1048576:=AB (Zfk _ _) (by rw[As];omega);refine zk (ze (zn ?_));generalize hrk:jY c (d.take k)=rk at *;have hfz:∀id v cs,(rk.flatMap Enc.enc).map (qp id v cs)=(rk.flatMap Enc.enc:List PV):=λid v cs=>ZmD id v cs rk
  have hrf:(rk.flatMap Enc.enc:List PV).length=rk.length:=jI rk;have hrt:(rk.flatMap Enc.enc:List PV).take rk.length=rk.flatMap Enc.enc:=Ae DB;refine ze (zi [] (zF hc e0 hk1) ?_);intro v4;refine DK ?_;refine qL 10 100 2 rfl λv5=>?_
  repeat apply ze
  refine zg ?_;refine zn (zJ (λ(s:Nat × Nat)=>s.1<=t.length) (λ(j,v5)=>[(1,I c),(4,.ptr (nx+1) v1 0),(6,.ptr (nx+2) v2 0),(7,I (W (QO c (pre++t.take j)))),(10,.sl (nx+5) v5 2 0 (xJ c (t.take j)).length),(14,L d),(15,I d.length),(16,I k),(21,L t),(22,I t.length),(23,I j)]) (λ(j,v5)=>[.cells v0 39 [L d],.cells v1 39 [yr],.cells v2 39 [.sl (nx+3) v3 1 0 rk.length],.cells v3 42 (rk.flatMap Enc.enc),.cells v4 42 [L t],.cells v5 100 ((xJ c (t.take j)).flatMap Enc.enc)]) (λs=>t.length-s.1) (0,v5) [] DC (by simp[xJ]) (by simp[xJ]) ?_);rintro⟨j,v5⟩ hj;simp only at hj ⊢;refine DK ?_;refine ze (zz rfl (λhcj=>?_) (λhcj=>?_))
  ·simp at hcj;obtain⟨s,ts,b1,b2,b3,b4,b5⟩:=el 2 rfl t j hcj;have hj2:2<=t.length*2-j*2:=DB
   have hsum:=ZmX c (pre++t.take j) s;rw[List.append_assoc,<-b3]at hsum;have hrs:=ZmY c (t.take j) s;rw[<-b3]at hrs;have hul:(xJ c (t.take j)).length<=1048576:=AB (Zbu _ _) (by rw[As];omega);generalize xJ c (t.take j)=u at *;have huf:(u.flatMap Enc.enc:List PV).length=u.length*2:=YN u;have hut:(u.flatMap Enc.enc:List PV).take (u.length*2)=u.flatMap Enc.enc:=Ae DB;refine zk (ze (zn (ze (zi [] (zF hcj b5 hj2) ?_))));intro v6;refine DK ?_;refine zz rfl (λhq=>?_) (λhq=>?_)
   ·simp at hq;rw[if_pos hq]at hsum hrs;rw[AF]at hrs;refine zg ?_;refine zg ?_;exact zv (j+1,v5) [_] DF DF (by simp[zA j (by omega),hsum,Zw,hrs]) rfl (by simp[hrs];rfl)
   ·simp at hq;rw[if_neg hq]at hsum hrs;rw[Int.add_zero]at hsum;have hul':((xJ c (t.take (j+1))).flatMap Enc.enc:List PV)=u.flatMap Enc.enc++[I s.c,I s.q]:=by rw[hrs,Al];rfl
    refine zi [] (zt huf hut) ?_;refine⟨by omega,?_⟩;refine zg ?_;exact zv (j+1,v5+1) [_] DF DF (by simp[zA j (by omega),hsum,hrs]) rfl (by simp[hul'];rfl)
  ·simp at hcj;obtain rfl:j=t.length:=DB
   refine zC ?_;rw[Ag];have hul:(xJ c t).length<=1048576:=AB (Zbu _ _) htn;generalize xJ c t=u at *;have huf:(u.flatMap Enc.enc:List PV).length=u.length*2:=YN u;refine yb 5 rfl ?_;simp only[AD,Bk,AR,AW,xA,hfz];refine DK ?_;refine zz rfl (λhq=>?_) (λhq=>?_)
   ·simp at hq;rw[if_neg DB]at hrd;have hrl':((rk++[u]).flatMap Enc.enc:List PV)=rk.flatMap Enc.enc++[L u]:=by rw[Al];rfl
    refine zi [] (zt hrf hrt) ?_;refine⟨by omega,?_⟩;refine zg ?_;exact zv (k+1,v3+1) [_,_] DF DF (by simp[zA k (by omega),hfl]) rfl (by simp[hrd,hrl'];exact⟨rfl,rfl⟩)
   ·simp at hq;rw[if_pos (by rw[hq];rfl),AF]at hrd;refine zk (zg ?_);exact zv (k+1,v3) [_,_] DF DF (by simp[zA k (by omega),hfl]) rfl (by simp[hrd];exact⟨rfl,rfl⟩)
 ·simp at hc;obtain rfl:k=d.length:=DB
  refine zC (yb 3 rfl ?_);have g1:d.take d.length=d:=Ag;refine DK ?_;exact zj (zm hd DD (by simp[zq,g1]))
open Go Go.Proofs
theorem Zfl{x:Inst}{d:zr}{s:Stop}(hx:x.cust.length<=1048576)(hdo:DayOk d)(hd1:d.length<=1000000)(hf:d.flatten.length<=1000000):DayOk (yO x d s).1:=by
 unfold yO;cases hb:(u5 (qc x d s)).2 with
 | false=>exact hdo
 | true =>
  have hm:=Vf hb;have hp:=Zbk hm;have hs:=Zfe hx (XC hm).1;simp only[cond_true];have hfl:(jz d (u5 (qc x d s)).1 s).flatten.length<=1000001:=by rw[hp.length_eq,Au];omega
  refine⟨?_,λt ht=>?_,λt ht a ha=>?_⟩
  ·unfold jz;split
   ·simp;omega
   ·simp;omega
  ·have:=(Yf ht).length_le;omega
  ·have:=hp.subset ((Yf ht).subset ha);rw[Aw]at this;rcases this with rfl | h
   ·exact hs
   ·obtain⟨u,hu,hau⟩:=BE.1 h;exact hdo.s u hu a hau
open Go Go.Proofs
def u6(l:List Int):Int:=if 1<l.length then W (l.getD 1 0-l.getD 0 0) else 1099511627776
def vK(c:Stop->List Int):List Stop->Nat->Int->Int->Int
 | [],_,place,_=>place
 | s :: l,i,place,most=>if (c s).length=0 then (i:Int) else if place<0\/most<u6 (c s) then vK c l (i+1) (i:Int) (u6 (c s)) else vK c l (i+1) place most
def ZE(x:Inst)(d:zr)(l:List Stop):Int:=vK (JD x d) l 0 (-1) 0
theorem Zbv(c:Stop->List Int):∀(l:List Stop) (i:Nat) (place most:Int),(l≠[]\/0<=place)->place<i->0<=vK c l i place most/\vK c l i place most<(i+l.length:Nat)
 | [],i,place,most,h,hp=>by
  rcases h with h | h
  ·exact absurd rfl h
  ·simp only[vK,A6];omega
 | s :: l,i,place,most,_,hp=>by
  unfold vK;split
  ·simp only[Au];omega
  ·split
   ·have:=Zbv c l (i+1) i (u6 (c s)) (.inr DB) DB;simp only[Au];omega
   ·rename_i hc;have:=Zbv c l (i+1) place most (.inr DB) DB;simp only[Au];omega
theorem Zfm{x:Inst}{d:zr}{l:List Stop}(h:l≠[]):∃k:Nat,ZE x d l=k/\k<l.length:=by
 have:=Zbv (JD x d) l 0 (-1) 0 (.inl h) DB;exact⟨(ZE x d l).toNat,by unfold ZE;omega,by unfold ZE;omega⟩
def vM(x:Inst):Nat->zr->List Stop->zr × Bool
 | 0,d,_=>(d,true)
 | n+1,d,l=>bif (yO x d (l.getD (ZE x d l).toNat default)).2 then vM x n (yO x d (l.getD (ZE x d l).toNat default)).1 (l.eraseIdx (ZE x d l).toNat) else (d,false)
def jh(x:Inst)(l:List Stop):zr × Bool:=vM x l.length [] l
structure RgOk (x:Inst) (d:zr) (l:List Stop):Prop where
 ok:DayOk d
 may:yv x d=0
 len:d.flatten.length+l.length<=1000
theorem RgOk.dl{x:Inst}{d:zr}{l:List Stop}(h:RgOk x d l):d.length<=1000:=by
 have h1:=Ve d (Zfa h.may);have h2:=h.len;omega
theorem RgOk.step{x:Inst}{d:zr}{l:List Stop}(hx:x.cust.length<=1048576)(h:RgOk x d l){i:Nat}(hi:i<l.length){s:Stop}(hs:(yO x d s).2=true):RgOk x (yO x d s).1 (l.eraseIdx i):=by
 have hf:=h.len;have hl:=h.dl;refine⟨Zfl hx h.ok DB DB,?_,?_⟩
 ·unfold yO at hs ⊢;cases hb:(u5 (qc x d s)).2 with
  | false=>rw[hb]at hs;cases hs
  | true=>exact Zbn (Vf hb)
 ·rw[(Zbl hs).length_eq,Au,BM hi];omega
theorem Zfn{x:Inst}(hv:0<=x.veh){l:List Stop}(hl:l.length<=1000):RgOk x [] l :=
 ⟨⟨by simp,by simp,by simp⟩,(vf x []).2 ⟨by simp,by simp,by simpa using hv⟩,by simpa using hl⟩
theorem Zm1{c:Stop->List Int}{l:List Stop}{k:Nat}{s:Stop}{place most:Int}(hd:l.drop k=s :: l.drop (k+1)):
  vK c (l.drop k) k place most=if (c s).length=0 then (k:Int) else if place<0\/most<u6 (c s) then vK c (l.drop (k+1)) (k+1) (k:Int) (u6 (c s)) else vK c (l.drop (k+1)) (k+1) place most:=by
 rw[hd];rfl
theorem Zm2(x:Inst)(d:zr)(l:List Stop)(hx:x.cust.length<=1048576)(h:RgOk x d l){S:Store}{id ver:Nat}(hid:S id=.cells ver 100 (l.flatMap Enc.enc)):
  Spec prog 334 [.agg (uY x d),.sl id ver 2 0 l.length] S (λp S'=>p=I (ZE x d l)/\S'=S):=by
 have hf:=h.len;have hl:=h.dl;have hco:=λs=>ZmP x d s hx h.ok h.may DB DB
 have hu:ZE x d l=vK (JD x d) (l.drop 0) 0 (-1) 0:=rfl;rw[hu];clear hu;obtain⟨on,tw,fs,bd,ls,ws,hlk⟩:∃on tw fs bd ls ws,uY x d=um x d on tw fs bd ls ws:=⟨_,_,_,_,_,_,rfl⟩;rw[hlk]at hco ⊢;clear hlk;generalize hcz:JD x d=cz at *;refine yi func334 ntmps334 results334 λnx hd=>?_
 have hlt:id<nx:=yU hd hid DC;have xid:=λobs=>zE (S:=S) (obs:=obs) hlt
 refine DK ?_;intro v0;refine DK ?_
 repeat apply ze
 refine zg ?_;refine zn (zJ (λs':Nat × Int × Int=>s'.1<=l.length/\vK cz (l.drop s'.1) s'.1 s'.2.1 s'.2.2=vK cz (l.drop 0) 0 (-1) 0) (λ(k,place,most)=>[(2,.ptr nx v0 0),(5,I place),(6,I most),(11,.sl id ver 2 0 l.length),(12,I l.length),(13,I k)]) (λ_=>[.cells v0 395 (um x d on tw fs bd ls ws)]) (λs'=>l.length-s'.1) (0,-1,0) [] ⟨by simp,rfl⟩ DC DC ?_);rintro⟨k,place,most⟩ ⟨hk,hg⟩;simp only at hk hg ⊢;rw[<-hg];refine DK ?_;refine ze (zz rfl (λhc=>?_) (λhc=>?_))
 ·simp at hc;obtain⟨s,tl,a1,a2,a3,e1,e0⟩:=el 2 rfl l k hc;have hk2:2<=l.length*2-k*2:=DB
  have hun:=Zm1 (c:=cz) (place:=place) (most:=most) a2;have hcs:=hco s;generalize hc0:cz s=c at *;have wk:=zA k DB;refine zk (ze (zn (ze (zi [] (yq xid hid e0 hc hk2) ?_))));intro v1;refine DK ?_;refine zu hcs ?_
  by_cases h0:c.length=0
  ·rw[if_pos h0]at hun
   repeat apply ze
   refine zi [] h0 ?_;refine zo rfl (DK ?_);exact zj ⟨_,S,DD,⟨by simp[zq,hun],rfl⟩,zU hd⟩
  rw[if_neg h0]at hun
  repeat apply ze
  refine zg ?_;refine zp (by simp;exact λe=>h0 (by rw[e];rfl)) ?_;refine zk ?_
  repeat apply ze
  refine zg ?_;refine qE (nx:=nx) (λ_:Unit=>True) (λ_=>[(2,.ptr nx v0 0),(5,I place),(6,I most),(7,I k),(10,I (u6 c)),(11,.sl id ver 2 0 l.length),(12,I l.length),(13,I k)]) (λ_=>S) (λ_=>[.cells v0 395 (um x d on tw fs bd ls ws)]) ?_ ?_
  ·by_cases h1:1<c.length
   ·obtain⟨a,ta,q1,-,-,q0⟩:=zL rfl c 1 h1;obtain⟨b,tb,r1,-,-,r0⟩:=zL rfl c 0 DB;have hab:u6 c=W (a-b):=by unfold u6;rw[if_pos h1,Aa,Aa,q1,r1];rfl
    have g1:1<=c.length-1:=DB
    have g2:0<c.length:=DB
    have g3:1<=c.length:=DB
    have r0':(c.flatMap Enc.enc:List PV)=Enc.enc b++tb:=by simpa using r0
    have h1':(1:Int)<c.length:=DB
    refine zo DF ?_;rw[r0']at q0;have htb:tb=I a :: ta:=by simpa using q0
    rw[htb]at r0';refine zB none (Row.pures [0,1,2,3,4,5,6,7] .done) mixed (zS r0' h1 h1' g1 g2 g3) ?_;exact zT () [_] trivial (by simp[hab]) rfl DD
   ·have hab:u6 c=1099511627776:=by unfold u6;rw[if_neg h1]
    refine zp DF ?_;exact zk (zT () [_] trivial (by simp[hab]) rfl DD)
  ·rintro⟨⟩ -;generalize u6 c=ab at *
   by_cases hq:place<0
   ·rw[if_pos (.inl hq)]at hun;refine ze (zi [(2,37)] (zt hq zy) ?_);refine zo rfl (zg ?_);refine zg ?_;exact zv (k+1,(k:Int),ab) [] ⟨hc,by rw[<-hun,hg]⟩ DF (by simp[wk]) rfl DC
   ·by_cases hq2:most<ab
    ·rw[if_pos (.inr hq2)]at hun;refine ze (zi [(2,37)] (zt hq hq2) ?_);refine zo rfl (zg ?_);refine zg ?_;exact zv (k+1,(k:Int),ab) [] ⟨hc,by rw[<-hun,hg]⟩ DF (by simp[wk]) rfl DC
    ·rw[if_neg (by rintro(q | q);exact hq q;exact hq2 q)]at hun;refine ze (zi [(2,37)] (zt hq hq2) ?_);refine zp rfl (zk (zg ?_));exact zv (k+1,place,most) [] ⟨hc,by rw[<-hun,hg]⟩ DF (by simp[wk]) rfl DC
 ·simp at hc;obtain rfl:k=l.length:=DB
  refine zC ?_;have hgl:vK cz (l.drop l.length) l.length place most=place:=by rw[BF];rfl
  refine DK ?_;exact zj ⟨_,S,DD,⟨by simp[zq];rfl,rfl⟩,zU hd⟩
open Go Go.Proofs
theorem Zm3{x:Inst}{d:zr}{l:List Stop}{k:Nat}{s:Stop}(hu:ZE x d l=k)(hk:l[k]?=some s):
  vM x l.length d l=bif (yO x d s).2 then vM x (l.eraseIdx k).length (yO x d s).1 (l.eraseIdx k) else (d,false):=by
 have hlt:=(Ac.1 hk).1;obtain⟨n,hn⟩:∃n,l.length=n+1:=⟨l.length-1,by omega⟩;have he:(l.eraseIdx k).length=n:=by rw[BM hlt];omega
 have hg:l.getD k default=s:=by rw[Aa,hk];rfl
 rw[hn,he,vM,hu,AL,hg]
theorem Zm4{x:Inst}{d:zr}{l:List Stop}(h:RgOk x d l):d.length<=1000/\d.flatten.length<=1000/\l.length<=1000:=by
 have h1:=h.dl;have h2:=h.len;omega
theorem Zm5(x:Inst)(l:List Stop)(hx:x.cust.length<=1048576)(hv:0<=x.veh)(hl:l.length<=1000):Pure prog 319 [.agg (zD x),L l] (.tup [.agg [L (jh x l).1],B (jh x l).2]):=by
 have hb:=Zfn hv hl;unfold jh
 by_cases h0:0<l.length
 case neg =>
  obtain rfl:l=[]:=Ap DB;have hcl:=Vb [] DC;refine zx func319 ntmps319 results319 λS nx hd=>?_
  refine DK ?_;intro v0 v1;refine DK ?_;intro v2;refine yf 2 0 rfl rfl ?_;refine DK ?_;refine zu hcl ?_;refine ze (zn (zJ (λ_:Nat=>True) (λ_=>[(2,.ptr nx v0 0),(4,.ptr (nx+1) v1 0),(6,.ptr (nx+2) v2 0),(7,L ([]:List Stop))]) (λ_=>[.cells v0 25 (zD x),.cells v1 39 [yr],.cells v2 39 [L ([]:zr)]]) (λk=>k) 0 [] trivial DC DC ?_));rintro k -
  repeat apply ze
  refine zg ?_;refine zp rfl (zC (DK ?_));exact zj (zm hd DD (by simp[zq,vM]))
 refine zx func319 ntmps319 results319 λS nx hd=>?_
 refine DK ?_;intro v0 v1;refine DK ?_;intro v2;refine yf 2 0 rfl rfl ?_;refine DK ?_;refine λhsuf=>((Zbg l h0 DB _ _ uC).mono ?_).v
 rintro _ _ ⟨v3,rfl,rfl⟩;refine⟨_,_,qU _,zQ hsuf ?_⟩;refine ze (zn (zJ (λs':zr × List Stop × Nat=>vM x s'.2.1.length s'.1 s'.2.1=vM x l.length [] l/\RgOk x s'.1 s'.2.1) (λ(d,m,v3)=>[(2,.ptr nx v0 0),(4,.ptr (nx+1) v1 0),(6,.ptr (nx+2) v2 0),(7,.sl (nx+3) v3 2 0 m.length)]) (λ(d,m,v3)=>[.cells v0 25 (zD x),.cells v1 39 [yr],.cells v2 39 [L d],.cells v3 100 (m.flatMap Enc.enc)]) (λs'=>s'.2.1.length) ([],l,v3) [] ⟨rfl,hb⟩ DC DC ?_));rintro⟨d,m,v3⟩ ⟨hr,hok⟩;simp only at hr hok ⊢;rw[<-hr]
 by_cases hm:m=[]
 ·subst hm
  repeat apply ze
  refine zg ?_;refine zp rfl (zC (DK ?_));exact zj (zm hd DD (by simp[zq,vM]))
 ·have hm0:0<m.length:=BQ.2 hm;obtain⟨k,hu,hk⟩:=Zfm (x:=x) (d:=d) hm;obtain⟨s,tl,a1,a2,a3,e1,e0⟩:=el 2 rfl m k hk;have hk2:2<=m.length*2-k*2:=DB
  have hst:=Zm3 hu a1;obtain⟨b1,b2,b3⟩:=Zm4 hok;have hsee:=ZeL x d hx hok.ok DB;have hins:=Zbs x d s hx hok.ok DB;have hnx:=λh=>hok.step hx hk (s:=s) h
  have hurg:=λ(S:Store) (id ver:Nat) h=>Zm2 x d m hx hok (S:=S) (id:=id) (ver:=ver) h
  rw[hu]at hurg;obtain⟨on,tw,fs,bd,ls,ws,hlk⟩:∃on tw fs bd ls ws,uY x d=um x d on tw fs bd ls ws:=⟨_,_,_,_,_,_,rfl⟩;rw[hlk]at hsee hurg;clear hlk;have hno:=ZeW (x:=x) (d:=d) (s:=s);generalize hi:yO x d s=r at *;obtain⟨d2,ok⟩:=r;simp only at hst hnx hno;have wk:=zA k DB;have hm0':(0:Int)<m.length:=DB
  repeat apply ze
  refine zi [] hm0' ?_;refine zo (by simp;exact hm0) ?_;refine zk (zn (DK ?_));refine λhsuf=>((hsee _).mono ?_).v
  rintro _ _ ⟨rfl,rfl⟩;refine⟨_,_,rfl,zQ hsuf ?_⟩;refine λhsuf=>((hurg _ _ _ (by rw[z7];rfl)).mono ?_).v
  rintro _ _ ⟨rfl,rfl⟩;refine⟨_,_,rfl,zQ hsuf ?_⟩;refine ze (zB (some [nx,nx+2,nx+3]) (Row.pures [0,1,2,3,4,5,6,7,8,9] (.alt 10 (.alt 11 (Row.pures [12] .done) .stop) .stop)) mixed (zF e0 hk hk2) ?_);refine zP (hins) trivial ?_;intro v4
  repeat apply ze
  refine zg ?_;cases ok with
  | false =>
   simp only[cond_false]at hst;refine zo rfl (DK ?_);exact zj (zm hd DD (by simp[zq,hst]))
  | true =>
   simp only[cond_true]at hst;refine zp rfl (zk ?_);have hkl:=BM hk;refine zB (some [nx+4]) (Row.pures [0,1,2,3,4] (.alt 5 (.alt 6 (Row.pures [7] .done) .stop) .stop)) mixed wk ?_
   skip
   refine((ZmV m k hk DB (by rw[z7];rfl)).mono ?_).v;rintro _ _ ⟨rfl,rfl⟩;rw[yh _ DB DC,AE];refine⟨by simp[yH],jp trivial ?_⟩;exact zv (d2,m.eraseIdx k,v3+1) [_] ⟨hst.symm,hnx rfl⟩ (by simp only;omega) DC rfl DD
open Go Go.Proofs
def wI(step:zr->Option zr):Nat->zr->zr
 | 0,d=>d
 | n+1,d=>match step d with
  | none=>d
  | some e=>wI step n e
def u7(step:zr->Option zr):Nat->zr->Nat
 | 0,_=>0
 | n+1,d=>match step d with
  | none=>0
  | some e=>u7 step n e+1
def Zfo(x:Inst)(step:zr->Option zr)(G:zr->Prop):Prop:=∀d,G d->∃mk ma mb mi mj least,Pure prog 291 [.agg (zD x),.agg [L d]] (.tup [.agg [I mk,I ma,I mb,I mi,I mj],I least,B (step d).isSome]) /\
 ∀e,step d=some e->Pure prog 292 [.agg (zD x),.agg [L d],.agg [I mk,I ma,I mb,I mi,I mj]] (.tup [.agg [L e],I 0])/\G e
theorem Zfp(x:Inst)(d:zr)(b:Int)(step:zr->Option zr)(G:zr->Prop)(hb:b<=9223372036854775807)(hdn:d.length<=1048576)(hdt:∀t∈d,t.length<=1048576)(hd':0<b->G d)(hs:Zfo x step G):Pure prog 252 [.agg (zD x),.agg [L d],I b] (.tup [.agg [L (wI step b.toNat d)],I (if u7 step b.toNat d<b.toNat then (u7 step b.toNat d:Int) else q8 b 0)]):=by
 refine zx func252 ntmps252 results252 λS nx hd=>?_
 refine DK ?_;intro v0 v1 v2;refine DK ?_;intro v3;refine jd 3 0 42 1 rfl rfl λv4=>?_
 repeat apply ze
 refine zg ?_;refine zn (zJ (λs':Nat × Nat=>s'.1<=d.length) (λ(k,v4)=>[(2,I b),(3,.ptr nx v0 0),(6,.ptr (nx+2) v2 0),(7,I 0),(8,.ptr (nx+3) v3 0),(16,L d),(17,I d.length),(18,I k)]) (λ(k,v4)=>[.cells v0 25 (zD x),.cells v1 39 [L d],.cells v2 39 [yr],.cells v3 39 [.sl (nx+4) v4 1 0 k],.cells v4 42 ((d.take k).flatMap Enc.enc)]) (λs'=>d.length-s'.1) (0,v4) [] DC DC DC ?_);rintro⟨k,v4⟩ hk;simp only at hk ⊢;refine DK ?_;refine ze (zz rfl (λhc=>?_) (λhc=>?_))
 ·simp at hc;obtain⟨t,tl,a1,a2,a3,e0⟩:=zL rfl d k hc;have hk1:1<=d.length-k:=DB
  have hcl:=Vb t (hdt t (Ab a1));have hcl':((d.take k).flatMap Enc.enc:List PV).length=k:=by rw[jI,As];omega
  have hct:((d.take k).flatMap Enc.enc:List PV).take k=(d.take k).flatMap Enc.enc:=Ae DB;have hcn:((d.take (k+1)).flatMap Enc.enc:List PV)=(d.take k).flatMap Enc.enc++[L t]:=by rw[a3,Al];rfl
  generalize ((d.take k).flatMap Enc.enc:List PV)=cs at *;refine zk (ze (zn (ze (zi [] (zF e0 hc hk1) ?_))));intro v5;refine zB (some [nx+5]) (Row.pures [0,2,3,4,5,6] (.alt 1 (.alt 7 (Row.pures [8] (.alt 9 (.done) .stop)) .stop) .stop)) mixed (zt hcl' hct) ?_;refine zP (hcl) (zt hcl' hct) ?_;refine⟨by omega,?_⟩;refine zg ?_;exact zv (k+1,v4+1) [_] hc DF (by simp[zA k (by omega)]) rfl (by simp[hcn];rfl)
 ·simp at hc;obtain rfl:k=d.length:=DB
  have g1:d.take d.length=d:=Ag;refine zC ?_;rw[g1];refine yb 4 rfl ?_
  repeat apply ze
  refine zg ?_;clear hk hc g1;refine zn (zJ (λs':Nat × zr=>s'.1<=b.toNat/\(0<b->G s'.2)/\wI step (b.toNat-s'.1) s'.2=wI step b.toNat d/\s'.1+u7 step (b.toNat-s'.1) s'.2=u7 step b.toNat d) (λ(k,e)=>[(2,I b),(3,.ptr nx v0 0),(6,.ptr (nx+2) v2 0),(8,.ptr (nx+3) v3 0),(11,I k)]) (λ(k,e)=>[.cells v0 25 (zD x),.cells v1 39 [L d],.cells v2 39 [yr],.cells v3 39 [L e]]) (λs'=>b.toNat-s'.1) (0,d) [.dead] ⟨by simp,hd',by simp,by simp⟩ DC DC ?_);rintro⟨k,e⟩ ⟨hk,hG,hi,hco⟩;simp only at hk hG hi hco ⊢;rw[<-hi]
  repeat apply ze
  refine zg ?_;refine zz rfl (λhc=>?_) (λhc=>?_)
  ·simp at hc;obtain⟨mk,ma,mb,mi,mj,least,hB,hM⟩:=hs e (hG DB);obtain⟨n,hn⟩:∃n,b.toNat-k=n+1:=⟨b.toNat-k-1,by omega⟩;refine zk (ze (zn (DK ?_)));refine zu hB ?_;intro v5
   repeat apply ze
   refine zg ?_;cases hst:step e with
   | none =>
    have hr:wI step (b.toNat-k) e=e:=by rw[hn];unfold wI;rw[hst]
    have hr2:u7 step (b.toNat-k) e=0:=by rw[hn];unfold u7;rw[hst]
    rw[hr2]at hco;rw[hr,<-hco,if_pos DB];refine zo rfl (DK ?_);exact zj (zm hd DD (by simp[zq]))
   | some e2 =>
    have hr:wI step (b.toNat-k) e=wI step (b.toNat-(k+1)) e2:=by rw[hn,show b.toNat-(k+1)=n by omega];conv=>lhs;unfold wI;rw[hst]
    have hr2:u7 step (b.toNat-k) e=u7 step (b.toNat-(k+1)) e2+1:=by rw[hn,show b.toNat-(k+1)=n by omega];conv=>lhs;unfold u7;rw[hst]
    obtain⟨hM1,hG2⟩:=hM e2 hst;refine zp rfl (zk (zg ?_));refine zu hM1 ?_;refine zg ?_;exact zv (k+1,e2) [_] ⟨by simp;omega,λ_=>hG2,hr.symm,by simp only;omega⟩ DF (by simp[zA k (by omega)]) rfl DD
  ·simp at hc;have hz:b.toNat-k=0:=DB
   rw[hz]at hco ⊢;have hco':u7 step b.toNat d=k:=by rw[<-hco];rfl
   rw[hco',if_neg DB];refine zC (DK ?_);exact zj (zm hd DD (by simp[zq,wI]))
open Go Go.Proofs
structure Pc where
 t:Nat
 f:Nat
 o:Nat
 b:Bool
 deriving DecidableEq
def yL:Pc:=⟨0,0,0,false⟩
abbrev pcL(p:Pc):List PV:=[I p.t,I p.f,I p.o,B p.b]
structure Rw5 where
 a:Pc
 b:Pc
 c:Pc
 d:Pc
 e:Pc
abbrev yx(r:Rw5):List PV:=[I r.a.t,I r.a.f,I r.a.o,B r.a.b,I r.b.t,I r.b.f,I r.b.o,B r.b.b,I r.c.t,I r.c.f,I r.c.o,B r.c.b,I r.d.t,I r.d.f,I r.d.o,B r.d.b,I r.e.t,I r.e.f,I r.e.o,B r.e.b]
def Rw5.l(r:Rw5):List Pc:=[r.a,r.b,r.c,r.d,r.e]
def xl:Rw5:=⟨yL,yL,yL,yL,yL⟩
structure Mv where
 k:Nat
 a:Nat
 b:Nat
 i:Nat
 j:Nat
 deriving DecidableEq
abbrev uI(m:Mv):List PV:=[I m.k,I m.a,I m.b,I m.i,I m.j]
abbrev u9(m:Mv)(la lb:Nat):List PV:=[I m.k,I m.a,I m.b,I m.i,I m.j,I la,I lb]
def vg(m:Mv)(la lb:Nat):Bool :=
 if m.k=0 then decide (m.b=m.a/\m.i<m.j/\m.j<la)
 else if m.k=1 then decide (m.i<la/\(if m.a=m.b then m.j<lb else m.j<=lb))
 else if m.k=2 then decide (¬(m.b<m.a\/m.a=m.b/\m.j<=m.i)/\m.i<la/\m.j<lb)
 else decide (m.a<m.b/\m.i<=la/\m.j<=lb)
def xn(m:Mv)(la lb:Nat):Rw5 × Rw5 :=
 if m.k=0 then (⟨⟨m.a,0,m.i,false⟩,⟨m.a,m.i,m.j+1,true⟩,⟨m.a,m.j+1,la,false⟩,yL,yL⟩,xl)
 else if m.k=1 then
  (if m.a≠m.b then (⟨⟨m.a,0,m.i,false⟩,⟨m.a,m.i+1,la,false⟩,yL,yL,yL⟩,⟨⟨m.b,0,m.j,false⟩,⟨m.a,m.i,m.i+1,false⟩,⟨m.b,m.j,lb,false⟩,yL,yL⟩)
  else if m.i<m.j then (⟨⟨m.a,0,m.i,false⟩,⟨m.a,m.i+1,m.j+1,false⟩,⟨m.a,m.i,m.i+1,false⟩,⟨m.a,m.j+1,la,false⟩,yL⟩,xl)
  else (⟨⟨m.a,0,m.j,false⟩,⟨m.a,m.i,m.i+1,false⟩,⟨m.a,m.j,m.i,false⟩,⟨m.a,m.i+1,la,false⟩,yL⟩,xl))
 else if m.k=2 then
  (if m.a=m.b then (⟨⟨m.a,0,m.i,false⟩,⟨m.b,m.j,m.j+1,false⟩,⟨m.a,m.i+1,m.j,false⟩,⟨m.a,m.i,m.i+1,false⟩,⟨m.a,m.j+1,la,false⟩⟩,xl)
  else (⟨⟨m.a,0,m.i,false⟩,⟨m.b,m.j,m.j+1,false⟩,⟨m.a,m.i+1,la,false⟩,yL,yL⟩,⟨⟨m.b,0,m.j,false⟩,⟨m.a,m.i,m.i+1,false⟩,⟨m.b,m.j+1,lb,false⟩,yL,yL⟩))
 else (⟨⟨m.a,0,m.i,false⟩,⟨m.b,m.j,lb,false⟩,yL,yL,yL⟩,⟨⟨m.b,0,m.j,false⟩,⟨m.a,m.i,la,false⟩,yL,yL,yL⟩)
theorem Zm7(m:Mv)(la lb:Nat)(hk:m.k=0):Pure prog 357 [.agg (u9 m la lb)] (B (vg m la lb)):=by
 unfold vg;rw[if_pos hk];refine zx func357 ntmps357 results357 λS nx hd=>?_
 refine DK ?_;intro v0
 by_cases h1:m.b=m.a
 case neg =>
  have h1':¬(m.b:Int)=m.a:=DB
  refine ze (zi [(7,10),(13,16),(22,25)] (zt h1' zy) ?_);exact zj (zm hd rfl (by simp[h1,zq]))
 have h1':(m.b:Int)=m.a:=DB
 by_cases h2:m.i<m.j
 case neg =>
  have h2':¬(m.i:Int)<m.j:=DB
  refine ze (zi [(7,10),(13,16),(22,25)] (zF h1' h2 zy) ?_);exact zj (zm hd rfl (by simp[h2,zq]))
 by_cases h3:m.j<la
 case neg =>
  refine ze (zi [(7,10),(13,16),(22,25)] (zN h1' h2 h3 zy) ?_);exact zj (zm hd rfl (by simp[h3,zq]))
 refine ze (zi [(7,10),(13,16),(22,25)] (zF h1' h2 h3) ?_);exact zj (zm hd rfl (by simp[h1,h2,h3,zq]))
theorem Zm8(m:Mv)(la lb:Nat)(hk:m.k=1)(hlb:lb<=1048576):Pure prog 359 [.agg (u9 m la lb)] (B (vg m la lb)):=by
 unfold vg;rw[if_neg DB,if_pos hk];refine zx func359 ntmps359 results359 λS nx hd=>?_
 refine DK ?_;intro v0;refine DK ?_;refine ze (qE (nx:=nx) (λz:Int=>(m.j:Int)<=z<->(if m.a=m.b then m.j<lb else m.j<=lb)) (λz=>[(1,.ptr nx v0 0),(3,I z)]) (λ_=>S) (λ_=>[.cells v0 420 (u9 m la lb)]) ?_ ?_)
 ·by_cases h1:m.a=m.b
  ·have h1':(m.a:Int)=m.b:=DB
   have w1:IntKind.i64.wrap ((lb:Int)-1)=(lb:Int)-1:=wr _ DB DB;refine ze (zi [] h1' ?_);refine zo rfl (zi [] w1 ?_);exact zT ((lb:Int)-1) [] (by rw[if_pos h1];omega) DC rfl DC
  ·have h1':¬(m.a:Int)=m.b:=DB
   refine ze (zi [] h1' ?_);exact zp rfl (zk (zT (lb:Int) [] (by rw[if_neg h1];omega) DC rfl DC))
 ·intro z hz
  by_cases h2:m.i<la
  case neg =>
   refine ze (zi [(4,19),(12,27),(18,33)] (zt h2 zy) ?_);exact zj (zm hd rfl (by simp[h2,zq]))
  by_cases h3:(m.j:Int)<=z
  case neg =>
   have h4:=(not_congr hz).1 h3;refine ze (zi [(4,19),(12,27),(18,33)] (zt h2 h3) ?_);exact zj (zm hd rfl (by simp[h2,h4,zq]))
  have h4:=hz.1 h3;refine ze (zi [(4,19),(12,27),(18,33)] (zt h2 h3) ?_);exact zj (zm hd rfl (by simp[h2,h4,zq]))
theorem Zm9(m:Mv)(la lb:Nat)(hk:m.k=2):Pure prog 361 [.agg (u9 m la lb)] (B (vg m la lb)):=by
 unfold vg;rw[if_neg DB,if_neg DB,if_pos hk];refine zx func361 ntmps361 results361 λS nx hd=>?_
 refine DK ?_;intro v0;have rest:∀(P:Prop),(m.i<la->m.j<lb->P)->(¬(m.i<la/\m.j<lb)->P)->P:=λP a b=>by
  by_cases q:m.i<la/\m.j<lb
  ·exact a q.1 q.2
  ·exact b q
 by_cases h1:m.b<m.a
 ·repeat apply ze
  refine zi [(7,10),(15,18)] (zt h1 zy) ?_;refine zo rfl (DK ?_);exact zj (zm hd rfl (by simp[h1,zq]))
 by_cases h2:m.a=m.b
 ·have h2':(m.a:Int)=m.b:=DB
  by_cases h3:m.j<=m.i
  ·have h1':¬m.b<m.b:=DB
   repeat apply ze
   refine zi [(7,10),(15,18)] (zF h2' h1' h3) ?_;refine zo rfl (DK ?_);exact zj (zm hd rfl (by simp[h2,h3,zq]))
  ·have h1':¬m.b<m.b:=DB
   have h0:¬(m.b<m.a\/m.a=m.b/\m.j<=m.i):=DB
   repeat apply ze
   refine zi [(7,10),(15,18)] (zF h2' h1' h3) ?_;refine zp rfl (zk ?_)
   by_cases h4:m.i<la
   case neg =>
    refine ze (zi [(4,32),(12,40),(18,46)] (zt h4 zy) ?_);exact zj (zm hd rfl (by simp[h4,zq]))
   by_cases h5:m.j<lb
   case neg =>
    refine ze (zi [(4,32),(12,40),(18,46)] (zt h4 h5) ?_);exact zj (zm hd rfl (by simp[h5,zq]))
   refine ze (zi [(4,32),(12,40),(18,46)] (zt h4 h5) ?_);exact zj (zm hd rfl (by simp[h0,h4,h5,zq]))
 ·have h2':¬(m.a:Int)=m.b:=DB
  have h0:¬(m.b<m.a\/m.a=m.b/\m.j<=m.i):=DB
  repeat apply ze
  refine zi [(7,10),(15,18)] (zF h1 h2' zy) ?_;refine zp rfl (zk ?_)
  by_cases h4:m.i<la
  case neg =>
   refine ze (zi [(4,32),(12,40),(18,46)] (zt h4 zy) ?_);exact zj (zm hd rfl (by simp[h4,zq]))
  by_cases h5:m.j<lb
  case neg =>
   refine ze (zi [(4,32),(12,40),(18,46)] (zt h4 h5) ?_);exact zj (zm hd rfl (by simp[h5,zq]))
  refine ze (zi [(4,32),(12,40),(18,46)] (zt h4 h5) ?_);exact zj (zm hd rfl (by simp[h0,h4,h5,zq]))
theorem Zna(m:Mv)(la lb:Nat)(hk:3<=m.k):Pure prog 363 [.agg (u9 m la lb)] (B (vg m la lb)):=by
 unfold vg;rw[if_neg DB,if_neg DB,if_neg DB];refine zx func363 ntmps363 results363 λS nx hd=>?_
 refine DK ?_;intro v0
 by_cases h1:m.a<m.b
 case neg =>
  refine ze (zi [(7,10),(13,16),(21,24),(27,30)] (zt h1 zy) ?_);exact zj (zm hd rfl (by simp[h1,zq]))
 by_cases h2:m.i<=la
 case neg =>
  refine ze (zi [(7,10),(13,16),(21,24),(27,30)] (zF h1 h2 zy) ?_);exact zj (zm hd rfl (by simp[h2,zq]))
 by_cases h3:m.j<=lb
 case neg =>
  refine ze (zi [(7,10),(13,16),(21,24),(27,30)] (zF h1 h2 h3) ?_);exact zj (zm hd rfl (by simp[h3,zq]))
 refine ze (zi [(7,10),(13,16),(21,24),(27,30)] (zF h1 h2 h3) ?_);exact zj (zm hd rfl (by simp[h1,h2,h3,zq]))
theorem Znb(m:Mv)(la lb:Nat)(hk:m.k=0)(hi:m.i<=1048576)(hj:m.j<=1048576):Pure prog 358 [.agg (u9 m la lb)] (.tup [.agg (yx (xn m la lb).1),.agg (yx (xn m la lb).2)]):=by
 have wi:=zA m.i DB;have wj:=zA m.j DB;unfold xn;rw[if_pos hk];refine zx func358 ntmps358 results358 λS nx hd=>?_
 refine DK ?_;intro v0 v1 v2;refine ze (zB (some [nx]) (Row.pures [0,1,2,3,4,5,6,7,8,9,10,11] .done) mixed trivial ?_);refine ze (zi [] wj ?_);exact zj (zm hd DD (by simp[zq,xl,yL]))
theorem Znc(m:Mv)(la lb:Nat)(hk:3<=m.k):Pure prog 364 [.agg (u9 m la lb)] (.tup [.agg (yx (xn m la lb).1),.agg (yx (xn m la lb).2)]):=by
 unfold xn;rw[if_neg DB,if_neg DB,if_neg DB];refine zx func364 ntmps364 results364 λS nx hd=>?_
 refine DK ?_;intro v0 v1 v2;refine ze (zB (some [nx]) (Row.pures [0,1,2,3,4,5,6,7,8,9,10,11,12,13,14,15] .done) mixed trivial ?_);refine ze (zB (some [nx]) (Row.pures [0,1,2,3,4,5,6,7,8,9,10,11,12,13,14,15,16,17] (.alt 18 (.alt 19 (.done) .stop) .stop)) mixed trivial ?_);exact zj (zm hd DD (by simp[zq,xl,yL]))
theorem Znd(m:Mv)(la lb:Nat)(hk:m.k=1)(hi:m.i<=1048576)(hj:m.j<=1048576):Pure prog 360 [.agg (u9 m la lb)] (.tup [.agg (yx (xn m la lb).1),.agg (yx (xn m la lb).2)]):=by
 have wi:=zA m.i DB;have wj:=zA m.j DB;unfold xn;rw[if_neg DB,if_pos hk];refine zx func360 ntmps360 results360 λS nx hd=>?_
 refine DK ?_;intro v0 v1 v2;refine ze (zB (some [nx]) (Row.pures [0,1,2,3,4,5,6,7,8,9,10,11,12,13,14,15] .done) mixed trivial ?_);refine ze (zi [] wi ?_);intro v3;refine ze (zn ?_)
 by_cases h1:m.a=m.b
 case neg =>
  have h1':¬(m.a:Int)=m.b:=DB
  rw[if_pos h1];refine ze (zi [] h1' ?_);refine zo rfl (ze (zB (some [nx,nx+3]) (Row.pures [0,1,2,3,4,5,6,7,8,9,10,11,12,13,14,15,16,17,18,19] (.alt 20 (.alt 21 (.done) .stop) .stop)) mixed wi ?_));exact zj (zm hd DD (by simp[zq,xl,yL]))
 have h1':(m.a:Int)=m.b:=DB
 rw[if_neg (by simpa using h1)];refine ze (zi [] h1' ?_);refine zp rfl ?_
 by_cases h2:m.i<m.j
 ·rw[if_pos h2];refine ze (zi [] h2 ?_);refine zo rfl (ze (zi [] (zt wi wj) ?_));exact zj (zm hd DD (by simp[zq,xl,yL,h1]))
 ·rw[if_neg h2];refine ze (zi [] h2 ?_);refine zp rfl (zk (ze (zi [] (zt wi wj) ?_)));exact zj (zm hd DD (by simp[zq,xl,yL,h1]))
theorem Zne(m:Mv)(la lb:Nat)(hk:m.k=2)(hi:m.i<=1048576)(hj:m.j<=1048576):Pure prog 362 [.agg (u9 m la lb)] (.tup [.agg (yx (xn m la lb).1),.agg (yx (xn m la lb).2)]):=by
 have wi:=zA m.i DB;have wj:=zA m.j DB;unfold xn;rw[if_neg DB,if_neg DB,if_pos hk];refine zx func362 ntmps362 results362 λS nx hd=>?_
 refine DK ?_;intro v0 v1 v2;refine ze (zB (some [nx]) (Row.pures [0,1,2,3,4,5,6,7,8,9,10,11,12,13,14,15] .done) mixed trivial ?_);refine ze (zi [] (zt wi wj) ?_);intro v3 v4
 by_cases h1:m.a=m.b
 ·have h1':(m.a:Int)=m.b:=DB
  rw[if_pos h1]
  repeat apply ze
  refine zi [] h1' ?_;refine zo rfl (ze (zi [] (zt wi wj) ?_));exact zj (zm hd DD (by simp[zq,xl,yL,h1]))
 ·have h1':¬(m.a:Int)=m.b:=DB
  rw[if_neg h1]
  repeat apply ze
  refine zi [] h1' ?_;refine zp rfl (zk (ze (zB (some [nx,nx+3,nx+4]) (Row.pures [0,1,2,3,4,5,6,7,8,9,10,11,12,13,14,15,16,17,18,19,20,21] (.alt 22 (.alt 23 (.done) .stop) .stop)) mixed (zt wi wj) ?_)));exact zj (zm hd DD (by simp[zq,xl,yL]))
open Go Go.Proofs
abbrev Vj:List PV:=[.fn (.func 357) [] [],.fn (.func 358) [] [],.fn (.func 359) [] [],.fn (.func 360) [] [],.fn (.func 361) [] [],.fn (.func 362) [] [],.fn (.func 363) [] [],.fn (.func 364) [] []]
theorem Zfq:Pure prog 340 [] (.agg Vj):=by
 refine zx func340 ntmps340 results340 λS nx hd=>?_
 refine DK ?_;intro v0;refine DK ?_;exact DL hd
def qA(d:zr)(t:Nat):Nat:=(d.getD t []).length
def xK(d:zr)(m:Mv):Bool:=decide (m.k<=3/\m.a<d.length/\m.b<d.length) && vg m (qA d m.a) (qA d m.b)
def yp(d:zr)(m:Mv):Rw5 × Rw5:=xn m (qA d m.a) (qA d m.b)
def ZF(d:zr)(m:Mv):Rw5 × Rw5 × Bool:=if xK d m=true then ((yp d m).1,(yp d m).2,true) else (xl,xl,false)
theorem Zbw(d:zr)(m:Mv)(hdn:d.length<=1048576)(hdt:∀t∈d,t.length<=1048576)(hk:m.k<=3)(ha:m.a<d.length)(hb:m.b<d.length)(hi:m.i<=1048576)(hj:m.j<=1048576):Pure prog 326 [.agg [L d],.agg (uI m)]
  (.tup [.agg (yx (ZF d m).1),.agg (yx (ZF d m).2.1),B (ZF d m).2.2]):=by
 obtain⟨ta,xa,a1,-,-,a0⟩:=zL rfl d m.a ha;obtain⟨tb,xb,b1,-,-,b0⟩:=zL rfl d m.b hb;have ha1:1<=d.length-m.a:=DB
 have hb1:1<=d.length-m.b:=DB
 have la:qA d m.a=ta.length:=by unfold qA;rw[Aa,a1];rfl
 have lb:qA d m.b=tb.length:=by unfold qA;rw[Aa,b1];rfl
 have hbl:=hdt tb (Ab b1);have hmay:xK d m=vg m ta.length tb.length:=by unfold xK;rw[la,lb,decide_eq_true ⟨hk,ha,hb⟩];rfl
 have hcut:yp d m=xn m ta.length tb.length:=by unfold yp;rw[la,lb]
 unfold ZF;rw[hmay,hcut];clear hmay hcut la lb;have call:∀f g:Nat,m.k=m.k->True:=λ_ _ _=>trivial
 clear call;have g1:¬(m.k:Int)<0:=DB
 have g2:¬(3:Int)<m.k:=DB
 have g3:¬(m.a:Int)<0:=DB
 have g4:¬d.length<=m.a:=DB
 have g5:¬(m.b:Int)<0:=DB
 have g6:¬d.length<=m.b:=DB
 refine zx func326 ntmps326 results326 λS nx hd=>?_
 refine DK ?_;intro v0 v1 v2 v3;refine DK ?_
 repeat apply ze
 refine zi [(3,18),(8,23),(13,28),(19,34),(24,39)] (zS g1 g2 g3 g4 g5 g6) ?_;refine zp rfl (zk (ze (zB (some [nx,nx+1]) (Row.pures [0,1,2,3,4,5,6,7,8,9,10,11,12,13,14,15,16,17] (.alt 18 (.alt 19 (.done) .stop) .stop)) mixed (zS a0 b0 ha hb ha1 hb1) ?_)));intro v4;obtain⟨mf,cf,hmf,hcf,hidx⟩:∃mf cf:Nat,Pure prog mf [.agg (u9 m ta.length tb.length)] (B (vg m ta.length tb.length))/\Pure prog cf [.agg (u9 m ta.length tb.length)] (.tup [.agg (yx (xn m ta.length tb.length).1),.agg (yx (xn m ta.length tb.length).2)]) /\
   ∃k:Nat,(k:Int)=m.k/\k<4/\(Vj.drop (k*2)).take 2=[.fn (.func mf) [] [],.fn (.func cf) [] []]:=by
  have h4:m.k=0\/m.k=1\/m.k=2\/m.k=3:=DB
  rcases h4 with h | h | h | h
  ·exact⟨_,_,Zm7 m _ _ h,Znb m _ _ h hi hj,0,by omega,by omega,rfl⟩
  ·exact⟨_,_,Zm8 m _ _ h hbl,Znd m _ _ h hi hj,1,by omega,by omega,rfl⟩
  ·exact⟨_,_,Zm9 m _ _ h,Zne m _ _ h hi hj,2,by omega,by omega,rfl⟩
  ·exact⟨_,_,Zna m _ _ DB,Znc m _ _ DB,3,by omega,by omega,rfl⟩
 obtain⟨k,hkk,hk4,hkt⟩:=hidx;obtain rfl:k=m.k:=DB
 have hk4':(m.k:Int)<4:=DB
 have hk5:2<=8-m.k*2:=DB
 generalize hmz:vg m ta.length tb.length=mz at *;generalize hcz:xn m ta.length tb.length=cz at *;obtain⟨r1,r2⟩:=cz;generalize hkl:Vj=kl at hkt;have hkinds:=Zfq;rw[hkl]at hkinds;have hkll:kl.length=8:=by rw[<-hkl];rfl
 clear hkl;refine ze (zB (some [nx+1]) (Row.pures [0,1,2,3] (.alt 4 (.alt 5 (.done) .stop) .stop)) mixed (yq hkt hk4 hk4' hkll hk5) ?_);refine zP (hkinds) (yq hkt hk4 hk4' hkll hk5) ?_;intro v5
 repeat apply ze
 refine zg ?_;refine zu hmf ?_;cases mz with
 | false =>
  refine zo rfl (DK ?_);exact zj (zm hd DD (by simp[zq,xl,yL]))
 | true =>
  refine zp rfl (zk (DK ?_));refine zu hcf ?_;intro v6 v7;refine ze (zB (some [nx+6,nx+7]) (Row.pures [0,1] (.alt 2 (.alt 3 (Row.pures [4] .done) .stop) .stop)) mixed trivial ?_);exact zj (zm hd DD (by simp[zq]))
open Go Go.Proofs
theorem Zfr(l:List Stop)(k:Nat)(s:Stop)(h:k<l.length):yd (l.flatMap Enc.enc) (k*2) [I s.c,I s.q]=(l.set k s).flatMap Enc.enc:=by
 unfold yd;rw[Ax,if_pos h,Al,Av,<-Qx Enc.enc 2 (λ_=>rfl) l k,<-Ji Enc.enc 2 (λ_=>rfl) l (k+1)];simp[show k*2+2=(k+1)*2 by omega]
def ji(l:List Stop)(k:Nat):List Stop:=(List.range l.length).map λq=>if q<k\/l.length-1-q<k then l.getD (l.length-1-q) default else l.getD q default
theorem un(l:List Stop)(k:Nat):(ji l k).length=l.length:=by simp[ji]
theorem JE{l:List Stop}{k q:Nat}(hq:q<l.length):(ji l k)[q]?=some (if q<k\/l.length-1-q<k then l.getD (l.length-1-q) default else l.getD q default):=by
 unfold ji;rw[Ah,Bt hq];rfl
theorem Znf(l:List Stop):ji l 0=l:=by
 apply AX;intro q
 by_cases h:q<l.length
 ·rw[JE h,if_neg DB,Aa,Ad h];rfl
 ·rw[Ak (by rw[un];omega),Ak DB]
theorem Zng{l:List Stop}{k:Nat}(hk:l.length-1<=k+k):ji l k=l.reverse:=by
 apply AX;intro q
 by_cases h:q<l.length
 ·rw[JE h,List.getElem?_reverse h]
  by_cases h1:q<k\/l.length-1-q<k
  ·rw[if_pos h1,Aa,Ad DB];rfl
  ·rw[if_neg h1,Aa];have:q=l.length-1-q:=DB
   rw[<-this,Ad h];rfl
 ·rw[Ak (by rw[un];omega),Ak DF]
theorem Znh{l:List Stop}{k:Nat}(h:k<l.length-1-k){a b:Stop}(ha:(ji l k)[k]?=some a)(hb:(ji l k)[l.length-1-k]?=some b):((ji l k).set k b).set (l.length-1-k) a=ji l (k+1):=by
 rw[JE DB,if_neg DB]at ha;rw[JE DB,if_neg DB]at hb;cases ha;cases hb;apply AX;intro q
 by_cases hq:q<l.length
 ·rw[JE hq,Bz,Bz]
  by_cases e1:l.length-1-k=q
  ·rw[if_pos e1,if_pos (by rw[BJ,un];omega),if_pos DB];congr 2;omega
  ·rw[if_neg e1]
   by_cases e2:k=q
   ·subst e2;rw[if_pos rfl,if_pos (by rw[un];exact hq),if_pos DB]
   ·rw[if_neg e2,JE hq]
    by_cases h1:q<k\/l.length-1-q<k
    ·rw[if_pos h1,if_pos DB]
    ·rw[if_neg h1,if_neg DB]
 ·rw[Ak (by rw[BJ,BJ,un];omega),Ak (by rw[un];omega)]
theorem Vk(S:Store)(i:Nat)(a b:Ob):(S.set i a).set i b=S.set i b:=by
 funext o
 by_cases h:o=i
 ·subst h;rw[q11,q11]
 ·rw[q10 _ _ _ _ h,q10 _ _ _ _ h,q10 _ _ _ _ h]
theorem Zni{S:Store}{id ver:Nat}(pre l:List Stop)(hn:(pre++l).length<=1048576)(hid:S id=.cells ver 100 ((pre++l).flatMap Enc.enc)):
  Spec prog 344 [.sl id ver 2 (pre.length*2) l.length] S (λ_ S'=>S'=S.set id (.cells ver 100 ((pre++l.reverse).flatMap Enc.enc))):=by
 refine yi func344 ntmps344 results344 λnx hd=>?_
 have hlt:id<nx:=yU hd hid DC;simp only[Aq]at hn;have w0:IntKind.i64.wrap ((l.length:Int)-1)=(l.length:Int)-1:=wr _ DB DB;refine ze (zi [] w0 ?_);refine zn (jo (σ:=Nat) (λk=>k<=l.length) (λk=>[(0,.sl id ver 2 (pre.length*2) l.length),(2,I k),(3,I ((l.length:Int)-1-k))]) (λk=>S.set id (.cells ver 100 ((pre++ji l k).flatMap Enc.enc))) (λ_=>[]) (λk=>l.length-k) (zT 0 [] DC DC (by rw[Znf];exact Ju S id _ hid) DC) ?_);rintro k hk
 show PW _ _ _ _ _ _ _ (ext (S.set id (.cells ver 100 ((pre++ji l k).flatMap Enc.enc))) nx [])
 obtain⟨T,hT⟩:∃T,T=S.set id (.cells ver 100 ((pre++ji l k).flatMap Enc.enc)):=⟨_,rfl⟩;rw[<-hT]
 repeat apply ze
 refine zg ?_;refine zz rfl (λhc=>?_) (λhc=>?_)
 ·simp at hc;have h1:k<l.length-1-k:=DB
  have x1:=un l k;obtain⟨a,ta,a1,-,-,-,a0⟩:=el 2 rfl (pre++ji l k) (pre.length+k) (by simp[un];omega);obtain⟨b,tb,b1,-,-,-,b0⟩:=el 2 rfl (pre++ji l k) (pre.length+(l.length-1-k)) (by simp[un];omega);have hst:=Znh h1 (a:=a) (b:=b) (by rw[<-a1,Ai (by omega),AE]) (by rw[<-b1,Ai (by omega),AE]);have sp1:=Zfr (pre++ji l k) (pre.length+k) b (by simp[un];omega);have sp2:=Zfr ((pre++ji l k).set (pre.length+k) b) (pre.length+(l.length-1-k)) a (by simp[un];omega);have hs2:((pre++ji l k).set (pre.length+k) b).set (pre.length+(l.length-1-k)) a=pre++ji l (k+1):=by
   rw[Bw _ _ DB,Bw _ _ DB,AE,AE,hst]
  rw[hs2]at sp2;have hjj:(l.length:Int)-1-k=((l.length-1-k:Nat):Int):=DB
  generalize l.length-1-k=j at *;generalize hw0:((pre++ji l k).flatMap Enc.enc:List PV)=c0 at *;generalize hw1:(((pre++ji l k).set (pre.length+k) b).flatMap Enc.enc:List PV)=c1 at *;have l0:c0.length=(pre.length+l.length)*2:=by rw[<-hw0,YN];simp[un]
  have l1:c1.length=(pre.length+l.length)*2:=by rw[<-hw1,YN];simp[un]
  have hTid:T id=.cells ver 100 c0:=by rw[hT];exact q11 _ _ _
  have xid:=λobs=>zE (S:=T) (obs:=obs) hlt
  have xid1:=λobs=>zE (S:=T.set id (.cells ver 100 c1)) (obs:=obs) hlt
  have hs1:(T.set id (.cells ver 100 c1)) id=.cells ver 100 c1:=q11 _ _ _;have hq1:k+1<=l.length:=DB
  have q1:pre.length*2+k*2=(pre.length+k)*2:=DB
  have q2:pre.length*2+j*2=(pre.length+j)*2:=DB
  have q3:j<l.length:=DB
  have q4:k<l.length:=DB
  have q5:¬nx<=id:=DB
  refine zk (ze (zn ?_));rw[hjj];refine zB (some []) (Row.pures [0,1,2,3,4,5,6,8,9,10] (.alt 7 (.alt 11 (Row.pures [12] (.alt 13 (Row.pures [14] (.alt 15 (.done) .stop)) .stop)) .stop) (.alt 11 (.alt 7 (Row.pures [12] (.alt 13 (Row.pures [14] (.alt 15 (.done) .stop)) .stop)) .stop) .stop))) mixed (zS xid hTid q1 q2 a0 (zt (zS b0 q3 q4 q5 l0 sp1) (zN hs1 xid1 sp2 l1))) ?_;have wj:IntKind.i64.wrap ((j:Int)-1)=(l.length:Int)-1-((k+1:Nat):Int):=by rw[wr _ DB DB];omega
  have wk:=zA k DB;have hfin:S.set id (.cells ver 100 ((pre++ji l (k+1)).flatMap Enc.enc))=(T.set id (.cells ver 100 c1)).set id (.cells ver 100 ((pre++ji l (k+1)).flatMap Enc.enc)):=by rw[hT,Vk,Vk]
  have happ:((pre++ji l (k+1)).flatMap Enc.enc:List PV)=pre.flatMap Enc.enc++(ji l (k+1)).flatMap Enc.enc:=by rw[Al]
  rw[happ]at hfin;refine⟨?_,?_⟩
  ·refine⟨by omega,by omega,?_⟩;refine zi [] (zt wk wj) ?_;exact zv (k+1) [] hq1 DB DC (by rw[happ,hT];simp only[Vk]) DC
  ·refine⟨by omega,by omega,?_⟩;refine zi [] (zt wk wj) ?_;exact zv (k+1) [] hq1 DB DC (by rw[happ,hT];simp only[Vk]) DC
 ·simp at hc;refine zC ?_;refine⟨[],T,rfl,?_,zU ?_⟩
  ·rw[hT,Zng DB]
  ·rw[hT];intro i hi;rw[q10 _ _ _ _ DB];exact hd i hi
open Go Go.Proofs
def qt(d:zr)(p:Pc):List Stop:=if p.f<p.o then (bif p.b then (((d.getD p.t []).drop p.f).take (p.o-p.f)).reverse else ((d.getD p.t []).drop p.f).take (p.o-p.f)) else []
def y8(d:zr)(r:Rw5):List Stop:=r.l.flatMap (qt d)
def JF(d:zr)(p:Pc):Prop:=p.f<p.o->p.t<d.length/\p.o<=qA d p.t
def uo(d:zr)(r:Rw5):Prop:=∀p∈r.l,JF d p
theorem Znj(d:zr):uo d xl:=by
 intro p hp h;simp[Rw5.l,xl]at hp;subst hp;exact absurd h DH
theorem Vl(r:Rw5){k:Nat}(h:k<5):∃p,r.l[k]?=some p/\((yx r).drop (k*4)).take 4=pcL p/\r.l.take (k+1)=r.l.take k++[p]:=by
 have h5:k=0\/k=1\/k=2\/k=3\/k=4:=DB
 rcases h5 with rfl | rfl | rfl | rfl | rfl<;>exact⟨_,rfl,rfl,rfl⟩
theorem Zfs{d:zr}{p:Pc}{m:Nat}(h:∀t∈d,t.length<=m):(qt d p).length<=m:=by
 have hg:(d.getD p.t []).length<=m:=by
  rw[Aa];cases hq:d[p.t]? with
  | none=>simp
  | some l=>exact h l (Ab hq)
 unfold qt;generalize d.getD p.t []=l at *;split
 ·cases p.b<;>simp<;>omega
 ·simp
theorem Zft(d:zr)(r:Rw5)(hdn:d.length<=1048576)(hdt:∀t∈d,t.length<=1000)(hr:uo d r):Pure prog 329 [.agg [L d],.agg (yx r)] (L (y8 d r)):=by
 have hat:=λk (h:k<5)=>Vl r h
 have hz:y8 d r=(r.l.take 5).flatMap (qt d):=by unfold y8;rw[Ae (by simp[Rw5.l])]
 rw[hz];clear hz;have hcl:(yx r).length=20:=rfl;have hct:(yx r).take 20=yx r:=rfl;have hpl:=λp=>Zfs (d:=d) (p:=p) hdt
 have hgl:∀k,((r.l.take k).flatMap (qt d)).length<=1000*k:=by
  intro k
  induction k with
  | zero=>simp
  | succ k ih =>
   by_cases hk:k<5
   ·obtain⟨p,-,-,e⟩:=hat k hk;rw[e,Al,Aq];have:=hpl p;simp only[Av,Cm,AF];omega
   ·rw[Ae (by simp[Rw5.l];omega)]at ih ⊢;omega
 have hrl:r.l.length=5:=rfl;generalize hrc:yx r=rc at *;refine zx func329 ntmps329 results329 λS nx hd=>?_
 refine DK ?_;intro v0 v1;refine DK ?_;refine ze (qL 5 100 2 rfl λv2=>?_);refine ze (zi [] (zt hcl hct) ?_);refine zn (zJ (λs':Nat × Nat=>s'.1<=5) (λ(k,v2)=>[(2,.ptr nx v0 0),(3,.ptr (nx+1) v1 0),(5,.sl (nx+2) v2 2 0 ((r.l.take k).flatMap (qt d)).length),(9,.agg rc),(10,I k)]) (λ(k,v2)=>[.cells v0 39 [L d],.cells v1 371 rc,.cells v2 100 (((r.l.take k).flatMap (qt d)).flatMap Enc.enc)]) (λs'=>5-s'.1) (0,v2) [] DC DC DC ?_);rintro⟨k,v2⟩ hk;simp only at hk ⊢
 by_cases hk5:k<5
 ·obtain⟨p,hp1,hp2,hp3⟩:=hat k hk5;have hk5':(k:Int)<5:=DB
  have hk6:4<=20-k*4:=DB
  have hok:=hr p (Ab hp1);have hol:=hgl k;have hnx:(r.l.take (k+1)).flatMap (qt d)=(r.l.take k).flatMap (qt d)++qt d p:=by rw[hp3,Al];simp
  have hol2:=hpl p;generalize (r.l.take k).flatMap (qt d)=out at *;have wk:=zA k DB;refine ze (zi [] hk5' ?_);refine ze (zo rfl (zk (ze (zn (ze (zi [] (yq hp2 hk5 hk5' hcl hk6) ?_))))));intro v3
  by_cases hfo:p.f<p.o
  case neg =>
   have hpz:qt d p=[]:=by unfold qt;rw[if_neg hfo]
   have hfo':p.o<=p.f:=DB
   repeat apply ze
   refine zi [] hfo' ?_;refine zo (by simp[hfo']) ?_;refine zC (zg ?_);exact zv (k+1,v2) [_] DF DF (by simp[wk,hnx,hpz]) rfl (by simp[hnx,hpz];rfl)
  obtain⟨ht,ho⟩:=hok hfo;obtain⟨t,tt,t1,-,-,t0⟩:=zL rfl d p.t ht;have ht1:1<=d.length-p.t:=DB
  have htg:d.getD p.t []=t:=by rw[Aa,t1];rfl
  unfold qA at ho;rw[htg]at ho;have hpz:qt d p=bif p.b then ((t.drop p.f).take (p.o-p.f)).reverse else (t.drop p.f).take (p.o-p.f):=by unfold qt;rw[if_pos hfo,htg]
  have hfo':¬p.o<=p.f:=DB
  have hsl:((t.flatMap Enc.enc:List PV).drop (p.f*2)).take ((p.o-p.f)*2)=((t.drop p.f).take (p.o-p.f)).flatMap Enc.enc:=by rw[Ji Enc.enc 2 (λ_=>rfl) t p.f,Qx Enc.enc 2 (λ_=>rfl) (t.drop p.f) (p.o-p.f)]
  have hsl2:((t.drop p.f).take (p.o-p.f)).length=p.o-p.f:=DF
  have hsl3:(((t.drop p.f).take (p.o-p.f)).flatMap Enc.enc:List PV).length=(p.o-p.f)*2:=by rw[YN,hsl2]
  generalize (t.drop p.f).take (p.o-p.f)=sg at *;have hof:(out.flatMap Enc.enc:List PV).length=out.length*2:=YN out;have hot:(out.flatMap Enc.enc:List PV).take (out.length*2)=out.flatMap Enc.enc:=Ae DB;have q1:p.f<=p.o:=DB
  have htl:=hdt t (Ab t1)
  repeat apply ze
  refine zi [] hfo' ?_;refine zp (by simp[hfo']) ?_;refine zk (DK ?_);refine ze (zB (some [nx,nx+3]) (Row.pures [0,1,2,3,4,5,6,7,8,9,10,11,12] (.alt 13 (Row.pures [14] .done) .stop)) mixed (zS t0 ht ht1 hof hot (zN hsl hsl2 q1 ho)) ?_);refine⟨by omega,?_⟩;have hsgl:sg.length<=1000:=by
   have h1:=hdt t (Ab t1);omega
  cases hpb:p.b with
  | false =>
   rw[hpb]at hpz;simp only[cond_false]at hpz;refine ze (zi [] hpb ?_);refine zp rfl (zk (zg ?_));exact zv (k+1,v2+1) [_] DF DF (by simp[wk,hnx,hpz,hsl2]) rfl (by simp[hnx,hpz];rfl)
  | true =>
   rw[hpb]at hpz;simp only[cond_true]at hpz;have hrev:=λ(S:Store) (id ver:Nat) h=>Zni (S:=S) (id:=id) (ver:=ver) out sg DF h
   rw[hsl2]at hrev;refine ze (zi [] hpb ?_);refine zo rfl (zg ?_);refine λhsuf=>((hrev _ _ _ (by rw[z7,Al];rfl)).mono ?_).v
   rintro _ _ rfl;refine⟨_,_,yh _ DB DC,jy [] (show nx+2-nx=2 by omega) hsuf ?_⟩;refine zg ?_;exact zv (k+1,v2+1) [_] DF DF (by simp[wk,hnx,hpz,hsl2]) rfl (by simp[hnx,hpz];rfl)
 ·obtain rfl:k=5:=DB
  generalize (r.l.take 5).flatMap (qt d)=out at *;refine DK ?_;refine ze (zp rfl (zC (yb 2 rfl ?_)));refine DK ?_;exact zj (zm hd DD (by simp[zq]))
open Go Hp
theorem Zfu{α:Type}{d:List α}(hn:d.Nodup){i j:Nat}{t:α}(hi:d[i]?=some t)(hj:d[j]?=some t):i=j:=by grind[List.pairwise_iff_getElem]
def jZ(f:zO->Bool):zr->Int
 | []=>-1
 | t :: d=>if 0<=jZ f d then jZ f d+1 else if f t then 0 else -1
theorem Zfv(f:zO->Bool):∀d:zr,(jZ f d=-1/\∀t∈d,f t=false)\/∃(k:Nat) (t:zO),d[k]?=some t/\f t=true/\jZ f d=k
 | []=>.inl ⟨rfl,λt h=>by cases h⟩
 | u :: d=>by
  unfold jZ;rcases Zfv f d with ⟨h1,h2⟩ | ⟨k,t,h1,h2,h3⟩
  ·rw[h1,if_neg DB];cases hu:f u with
   | true=>exact .inr ⟨0,u,rfl,hu,by simp⟩
   | false =>
    simp_all
  ·rw[h3,if_pos DB];exact .inr ⟨k+1,t,by simpa using h1,h2,by simp⟩
def Zbx(d:zr)(a b:Nat)(t:zO)(k:Nat):zr:=(List.range k).flatMap λj=>if j=a then [t] else if j=b then [] else [d.getD j []]
def Yi(c:Int)(t:zO):Bool:=decide (YR t=some c)
def Yj(c:Int)(t:zO):Bool:=decide (QI t=some c)
def Yk(x:Inst)(d:zr)(p:Pr):zr :=
 if jZ (Yi p.a) d<0\/jZ (Yj p.b) d<0\/jZ (Yi p.a) d=jZ (Yj p.b) d\/(p.s<=0/\(d.length:Int)<=x.veh) then d
 else if zV x (d.getD (jZ (Yi p.a) d).toNat []++d.getD (jZ (Yj p.b) d).toNat [])=0 then
  Zbx d (jZ (Yi p.a) d).toNat (jZ (Yj p.b) d).toNat (d.getD (jZ (Yi p.a) d).toNat []++d.getD (jZ (Yj p.b) d).toNat []) d.length
 else d
theorem Zby{α β γ:Type}{f:α->List γ}{g:β->List γ}:∀(A:List α) (B:List β),A.length=B.length->(∀(j:Nat) a b,A[j]?=some a->B[j]?=some b->f a=g b)->A.flatMap f=B.flatMap g
 | [],[],_,_=>rfl
 | a :: A,b :: B,hl,h=>by
  rw[Av,Av,h 0 a b rfl rfl,Zby A B (by simpa using hl) λj a b ha hb=>h (j+1) a b (by simpa using ha) (by simpa using hb)]
 | [],_ :: _,hl,_=>by simp at hl
 | _ :: _,[],hl,_=>by simp at hl
theorem Zbz{α:Type}(p:α->Bool):∀l:List α,l.filter p=l.flatMap λa=>if p a then [a] else []
 | []=>rfl
 | a :: l=>by
  rw[Av,<-Zbz p l,B6];cases p a<;>simp
structure Apt (T:zr):Prop where
 u:∀(i j:Nat) t s s',T[i]?=some t->s∈t->∀t',T[j]?=some t'->s'∈t'->s.c=s'.c->i=j
theorem JI.apt{ss:List Stop}{T:zr}{g:Int->Option Int}(h:JI ss T g):Apt T:=⟨λi j t s s' hi hs t' hj hs' e=>by
 have e1:=h.g i t s hi hs;have e2:=h.g j t' s' hj hs'
 grind⟩
abbrev ne(t:zO):Bool:=!t.isEmpty
theorem XG{t:zO}(h:ne t=true):∃s,s∈t:=by cases t<;>simp_all
theorem Zfw{t:zO}{s:Stop}(h:s∈t):ne t=true:=DI
def JG(ta tb u:zO):zr:=if u=ta then [ta++tb] else if u=tb then [] else [u]
theorem Znk{T:zr}(hA:Apt T){i k:Nat}{ta tb:zO}(hi:T[i]?=some ta)(hk:T[k]?=some tb)(hik:i≠k)(ha:ne ta=true)(hb:ne tb=true):
  ((T.set i (ta++tb)).set k []).filter ne=(T.filter ne).flatMap (JG ta tb):=by
 rw[Zbz ne T,List.flatMap_assoc,Zbz];refine Zby _ _ DC λj u v hu hv=>?_
 obtain⟨sa,hsa⟩:=XG ha;obtain⟨sb,hsb⟩:=XG hb;have hjl:=(Ac.1 hv).1
 by_cases h1:k=j
 ·subst h1;rw[AS (by simpa using hjl)]at hu;cases hu;obtain rfl:tb=v:=by rw[hk]at hv;exact Option.some.inj hv
  have hne:tb≠ta:=by
   rintro rfl;exact hik (hA.u i k tb sb sb hi hsb tb hk hsb rfl)
  simp_all[JG]
 ·rw[AU h1]at hu
  by_cases h2:i=j
  ·subst h2;rw[AS hjl]at hu;cases hu;obtain rfl:ta=v:=by rw[hi]at hv;exact Option.some.inj hv
   simp_all[JG]
  ·rw[AU h2]at hu;obtain rfl:u=v:=DJ
   cases hn:ne u with
   | false=>simp
   | true =>
    obtain⟨su,hsu⟩:=XG hn;have n1:u≠ta:=by rintro rfl;exact h2 (hA.u i j u su su hi hsu u hv hsu rfl)
    have n2:u≠tb:=by rintro rfl;exact h1 (hA.u k j u su su hk hsu u hv hsu rfl)
    simp_all[JG]
theorem Znl{T:zr}(hA:Apt T):(T.filter ne).Nodup:=by
 rw[List.nodup_iff_pairwise_ne,List.pairwise_filter,Bn];intro i j hi hj hij h1 h2 e;obtain⟨s,hs⟩:=XG h1;have:=hA.u i j T[i] s s (Ad hi) hs T[j] (Ad hj) (e ▸ hs) rfl;omega
theorem Znm{d:zr}(hn:d.Nodup){a b:Nat}{ta tb:zO}(ha:d[a]?=some ta)(hb:d[b]?=some tb):Zbx d a b (ta++tb) d.length=d.flatMap (JG ta tb):=by
 unfold Zbx;refine Zby _ _ DC λj n u hj hu=>?_
 grind[Zfu,JG]
theorem Zfx{T:zr}(hA:Apt T){i:Nat}{t:zO}{s:Stop}(hi:T[i]?=some t)(hs:s∈t)(f:zO->Bool)(hf:∀u,f u=true->∃s'∈u,s'.c=s.c):
  (f t=false/\jZ f (T.filter ne)=-1)\/(f t=true/\∃k:Nat,(T.filter ne)[k]?=some t/\jZ f (T.filter ne)=k):=by
 have uniq:∀u∈T.filter ne,f u=true->u=t:=by
  intro u hu hfu;obtain⟨s',hs',e⟩:=hf u hfu;obtain⟨j,hj⟩:=Bb.1 (Bi.1 hu).1;have:=hA.u i j t s s' hi hs u hj hs' e.symm;subst this;rw[hi]at hj;exact(Option.some.inj hj).symm
 grind[Zfv]
theorem Znn{c:Int}{t:zO}(h:Yi c t=true):∃s∈t,s.c=c:=by
 have h:YR t=some c:=of_decide_eq_true h
 grind[YR]
theorem Zno{c:Int}{t:zO}(h:Yj c t=true):∃s∈t,s.c=c:=by
 have h:QI t=some c:=of_decide_eq_true h
 grind[QI]
theorem ZbA(p:zO->Bool):∀T:zr,((T.filter p).length:Int)=(T.map λt=>if p t then (1:Int) else 0).sum
 | []=>rfl
 | t :: T=>by
  rw[B6,AD,Ck,<-ZbA p T]
  grind
theorem Znp{T:zr}{i k:Nat}{ta tb:zO}(hi:T[i]?=some ta)(hk:T[k]?=some tb)(hik:i≠k)(ha:ne ta=true)(hb:ne tb=true):
  ((((T.set i (ta++tb)).set k []).filter ne).length:Int)=((T.filter ne).length:Int)-1:=by
 obtain⟨sa,hsa⟩:=XG ha;rw[ZbA,ZbA,Zbo _ _ k tb [] (by rw[AU hik];exact hk),Zbo _ _ i ta (ta++tb) hi]
 simp_all
theorem Znq{x:Inst}{ss:List Stop}{st:zr × Int}{g:Int->Option Int}(h:JI ss st.1 g)(hnum:st.2=((st.1.filter ne).length:Int)){p:Pr}(hpa:p.a∈ss.map (·.c))(hpb:p.b∈ss.map (·.c)):
  Yk x (st.1.filter ne) p=(qW x st p).1.filter ne/\(qW x st p).2=(((qW x st p).1.filter ne).length:Int)/\∃g',JI ss (qW x st p).1 g':=by
 obtain⟨i,a,sa,hia,hsa,hsac,hga,hpi⟩:=h.there hpa;obtain⟨k,b,sb,hkb,hsb,hsbc,hgb,hpk⟩:=h.there hpb;have hgi:st.1.getD i []=a:=by rw[Aa,hia];rfl
 have hgk:st.1.getD k []=b:=by rw[Aa,hkb];rfl
 have hdef:qW x st p=bif qr x st.2 p i k a b then ((st.1.set i (a++b)).set k [],st.2-1) else st:=by
  unfold qW Xz;simp only[hpi,hpk,hgi,hgk]
 have hA:=h.apt;have hna:=Zfw hsa;have hnb:=Zfw hsb;have hnd:=Znl hA;rw[hdef];have stay:qr x st.2 p i k a b=false->Yk x (st.1.filter ne) p=st.1.filter ne->Yk x (st.1.filter ne) p=(bif qr x st.2 p i k a b then ((st.1.set i (a++b)).set k [],st.2-1) else st).1.filter ne/\(bif qr x st.2 p i k a b then ((st.1.set i (a++b)).set k [],st.2-1) else st).2=(((bif qr x st.2 p i k a b then ((st.1.set i (a++b)).set k [],st.2-1) else st).1.filter ne).length:Int)/\∃g',JI ss (bif qr x st.2 p i k a b then ((st.1.set i (a++b)).set k [],st.2-1) else st).1 g':=by
  intro e1 e2;rw[e1];exact⟨e2,hnum,g,h⟩
 rcases Zfx hA hia hsa (Yi p.a) (λu hu=>by rw[hsac];exact Znn hu) with ⟨fa,la⟩ | ⟨fa,ka,ha1,la⟩
 ·have e1:YR a≠some p.a:=of_decide_eq_false fa;refine stay (by simp[qr,e1]) ?_;unfold Yk;rw[if_pos (.inl DB)]
 rcases Zfx hA hkb hsb (Yj p.b) (λu hu=>by rw[hsbc];exact Zno hu) with ⟨fb,lb⟩ | ⟨fb,kb,hb1,lb⟩
 ·have e1:QI b≠some p.b:=of_decide_eq_false fb;refine stay (by simp[qr,e1]) ?_;unfold Yk;rw[if_pos (.inr (.inl DB))]
 have e1:YR a=some p.a:=of_decide_eq_true fa;have e2:QI b=some p.b:=of_decide_eq_true fb;have hab:ka=kb<->i=k:=by
  constructor
  ·rintro rfl;obtain rfl:a=b:=by rw[ha1]at hb1;exact Option.some.inj hb1
   exact hA.u i k a sa sa hia hsa a hkb hsa rfl
  ·rintro rfl;obtain rfl:a=b:=by rw[hia]at hkb;exact Option.some.inj hkb
   exact Zfu hnd ha1 hb1
 have ga:(st.1.filter ne).getD (ka:Int).toNat []=a:=by rw[AL,Aa,ha1];rfl
 have gb:(st.1.filter ne).getD (kb:Int).toNat []=b:=by rw[AL,Aa,hb1];rfl
 by_cases hik:i=k
 ·refine stay (by simp[qr,hik]) ?_;unfold Yk;rw[if_pos (.inr (.inr (.inl (by rw[la,lb,hab.2 hik]))))]
 by_cases hfew:p.s<=0/\st.2<=x.veh
 ·refine stay (by simp[qr,hfew.1,hfew.2]) ?_;unfold Yk;rw[if_pos (.inr (.inr (.inr ⟨hfew.1,by omega⟩)))]
 have hcond:¬(jZ (Yi p.a) (st.1.filter ne)<0\/jZ (Yj p.b) (st.1.filter ne)<0\/jZ (Yi p.a) (st.1.filter ne)=jZ (Yj p.b) (st.1.filter ne)\/(p.s<=0/\((st.1.filter ne).length:Int)<=x.veh)):=by
  rw[la,lb];rintro(q | q | q | q)
  ·omega
  ·omega
  ·exact hik (hab.1 DB)
  ·exact hfew ⟨q.1,by omega⟩
 by_cases hmay:zV x (a++b)=0
 ·have hc:qr x st.2 p i k a b=true:=by
   unfold qr;simp only[hik,e1,e2,hmay,Ao,decide_eq_true_eq,ne_eq,not_false_eq_true,Cg,CK,decide_eq_false_iff_not,and_true,true_and]
   by_cases q:p.s<=0
   ·exact .inr λe=>hfew ⟨q,e⟩
   ·exact .inl q
  rw[hc];simp only[cond_true];refine⟨?_,?_,_,h.join hia hkb hik⟩
  ·unfold Yk;rw[if_neg hcond,la,lb,ga,gb,if_pos hmay,Znk hA hia hkb hik hna hnb,<-Znm hnd ha1 hb1];rfl
  ·rw[Znp hia hkb hik hna hnb,hnum]
 simp_all[qr,Yk]
theorem Znr(ss:List Stop):(ss.map λs=>[s]).filter ne=qG ss:=by simp[qG]
open Go Hp
theorem Zfy(l:List Stop):(qG l).length=l.length:=by simp[qG]
theorem Zns{x:Inst}{ss:List Stop}{T:zr}{g:Int->Option Int}(h:JI ss T g)(hss:ss.length<=1000):(T.filter ne).length<=1000/\(T.filter ne).flatten.length<=1000/\∀t∈T.filter ne,t≠[]:=by
 have hf:(T.filter ne).flatten=T.flatten:=by
  induction T with
  | nil=>rfl
  | cons t T ih =>
   clear h;have key:∀T:zr,(T.filter ne).flatten=T.flatten:=by
    intro T
    induction T with
    | nil=>rfl
    | cons t T ih =>
     rw[B6];cases t with
     | nil=>simpa using ih
     | cons s t=>simp[ih]
   exact key _
 have hne:∀t∈T.filter ne,t≠[]:=λt ht e=>by
  have:=(Bi.1 ht).2;rw[e]at this;cases this
 have hl:=h.perm.length_eq;have h1:=Ve (T.filter ne) hne;rw[hf]at h1;exact⟨by omega,by rw[hf];omega,hne⟩
open Go Go.Proofs Hp
structure SOk (x:Inst) (l:List Stop):Prop where
 cust:x.cust.length<=1048576
 arc:jf x
 veh:0<=x.veh
 len:l.length<=1000
 sm:∀s∈l,y9 s.c
 nd:(l.map (·.c)).Nodup
def YZ(x:Inst)(l:List Stop):List zr:=[wF x l,qG l]++(bif (jh x l).2 then [(jh x l).1] else [])
def ZG(x:Inst)(imp:zr->zr)(l:List Stop):List zr:=[qG l,imp (wF x l),imp (qG l)]++(bif (jh x l).2 then [imp (jh x l).1] else [])
theorem Zfz{x:Inst}(hx:x.cust.length<=1048576):∀(n:Nat) (d:zr) (l:List Stop),l.length=n->RgOk x d l->RgOk x (vM x n d l).1 []/\((vM x n d l).2=true->(vM x n d l).1.flatten.Perm (d.flatten++l))
 | 0,d,l,hl,h=>by simp_all[vM]
 | n+1,d,l,hl,h=>by
  have hne:l≠[]:=λe=>by simp_all
  obtain⟨k,hu,hk⟩:=Zfm (x:=x) (d:=d) hne;have hg:l.getD k default=l[k]:=by rw[Aa,Ad hk];rfl
  unfold vM;rw[hu,AL,hg];cases hi:(yO x d l[k]).2 with
  | false =>
   refine⟨⟨h.ok,h.may,?_⟩,λe=>by cases e⟩;have:=h.len
   grind
  | true =>
   simp only[cond_true];obtain⟨h1,h2⟩:=Zfz hx n (yO x d l[k]).1 (l.eraseIdx k) (by rw[BM hk];omega) (h.step hx hk hi);refine⟨h1,λe=>(h2 e).trans ?_⟩;have hp:=Zbl hi;refine(hp.append_right _).trans ?_
   grind[List.eraseIdx_eq_take_drop_succ,List.drop_eq_getElem_cons,List.take_append_drop]
section
variable {x:Inst} {l:List Stop} (h:SOk x l)
include h
theorem SOk.apart:DayOk (qG l)/\(qG l).flatten=l/\(qG l).length<=1000:=by
 have hf:(qG l).flatten=l:=by
  unfold qG;clear h
  induction l with
  | nil=>rfl
  | cons s l ih=>simpa using ih
 refine⟨⟨?_,λt ht=>?_,λt ht a ha=>?_⟩,hf,?_⟩
 ·rw[Zfy];have:=h.len;omega
 ·obtain⟨s,_,rfl⟩:=Ar.1 ht;simp
 ·obtain⟨s,hs,rfl⟩:=Ar.1 ht;simp at ha;subst ha;exact h.sm _ hs
 ·rw[Zfy];exact h.len
theorem SOk.join:DayOk (wF x l)/\(wF x l).flatten.Perm l/\(wF x l).length<=1000/\∀t∈wF x l,t≠[]:=by
 obtain⟨g,hg⟩:=JI.begin l [] [] _ JI.nil (by simpa using h.nd);have key:∀(ps:List Pr) (st:zr × Int),(∃g,JI l st.1 g)->st.2=((st.1.filter ne).length:Int)->(∀p∈ps,p.a∈l.map (·.c)/\p.b∈l.map (·.c))->∃g,JI l (ps.foldl (qW x) st).1 g:=by
  intro ps
  induction ps with
  | nil=>simp_all
  | cons p ps ih =>
   rintro st ⟨g,hg⟩ hn hp;obtain⟨h1,h2⟩:=hp p DC;obtain⟨e1,e2,e3⟩:=Znq (x:=x) hg hn h1 h2;rw[AY];exact ih _ e3 e2 λq hq=>hp q (by simp[hq])
 obtain⟨g',hg'⟩:=key (qQ x (l.map (·.c))) (l.map λs=>[s],(l.length:Int)) ⟨g,by simpa using hg⟩ (by simp[Znr,qG]) λp hp=>by grind[W6,QH]
 have hjp:wF x l=((qQ x (l.map (·.c))).foldl (qW x) (l.map λs=>[s],(l.length:Int))).1.filter ne:=rfl;obtain⟨w1,w2,w3⟩:=Zns (x:=x) hg' h.len;have hfl:∀T:zr,(T.filter ne).flatten=T.flatten:=by
  intro T
  induction T with
  | nil=>rfl
  | cons t T ih =>
   grind
 have hp:(wF x l).flatten.Perm l:=by rw[hjp,hfl];exact hg'.perm
 rw[<-hjp]at w1 w2 w3;refine⟨⟨by omega,λt ht=>?_,λt ht a ha=>?_⟩,hp,w1,w3⟩
 ·have:=(Yf ht).length_le;omega
 ·exact h.sm a (hp.subset ((Yf ht).subset ha))
theorem SOk.regret:RgOk x (jh x l).1 []/\((jh x l).2=true->(jh x l).1.flatten.Perm l):=by
 have:=Zfz h.cust l.length [] l rfl (Zfn h.veh h.len)
 simp_all[jh]
end
def ZfA(x:Inst)(b:Int)(imp:zr->zr)(ds:List zr):Prop:=∀d∈ds,(∃n,Pure prog 252 [.agg (zD x),.agg [L d],I b] (.tup [.agg [L (imp d)],I n]))/\DayOk (imp d)/\(imp d).flatten.length<=1048576
theorem Znt(x:Inst)(l:List Stop)(b:Int)(imp:zr->zr)(h:SOk x l)(hI:xY x l=0->ZfA x b imp (YZ x l)):
  Pure prog 249 [.agg (zD x),L l,I b] (.tup [.agg [L (w9 x (xY x l) (ZG x imp l)).1],I (w9 x (xY x l) (ZG x imp l)).2]):=by
 have hF:=Zkl x l h.cust (by have:=h.len;omega)
 by_cases he:xY x l=0
 case neg=>exact ZeH x (L l) b _ _ (QK l) h.cust hF (λe=>absurd e he) λe=>absurd e he
 have hI:=hI he;have hA:=Zkk l (by have:=h.len;omega);have hJ:=Zl0 x l h.arc h.cust h.len h.sm h.nd;have hR:=Zm5 x l h.cust h.veh h.len;obtain⟨⟨n1,i1⟩,o1,f1⟩:=hI (wF x l) (by simp[YZ]);obtain⟨⟨n2,i2⟩,o2,f2⟩:=hI (qG l) (by simp[YZ]);obtain⟨a1,a2,a3⟩:=h.apart;have h3:(jh x l).2=true->(∃n,Pure prog 252 [.agg (zD x),.agg [L (jh x l).1],I b] (.tup [.agg [L (imp (jh x l).1)],I n]))/\DayOk (imp (jh x l).1)/\(imp (jh x l).1).flatten.length<=1048576:=λe=>hI _ (by simp[YZ,e])
 have hlen:=h.len;have hit:=Zl5 (fsL x (L l) b) [some (qG l),some (imp (wF x l)),some (imp (qG l)),bif (jh x l).2 then some (imp (jh x l).1) else none] rfl DC (by
  intro k f hf
  match k with
  | 0=>cases hf;exact⟨_,_,L (qG l),rfl,Zl2 (L l) (qG l) (QK l) hA,λd hd=>by cases hd;rfl⟩
  | 1=>cases hf;exact⟨_,_,L (imp (wF x l)),rfl,Zl3 x (L l) b _ _ _ (QK l) hJ i1,λd hd=>by cases hd;rfl⟩
  | 2=>cases hf;exact⟨_,_,L (imp (qG l)),rfl,Zl4 x (L l) b _ _ _ (QK l) hA i2,λd hd=>by cases hd;rfl⟩
  | 3 =>
   cases hf;cases hall:(jh x l).2 with
   | true =>
    obtain⟨⟨n3,i3⟩,-⟩:=h3 hall;rw[hall]at hR;exact⟨_,_,L (imp (jh x l).1),rfl,ZeG x (L l) b _ _ true n3 (QK l) hR (λ_=>i3),λd hd=>by cases hd;rfl⟩
   | false =>
    rw[hall]at hR;exact⟨_,_,yr,rfl,ZeG x (L l) b _ [] false 0 (QK l) hR (λe=>by cases e),λd hd=>by cases hd⟩
  | k+4=>cases hf)
 have hds:([some (qG l),some (imp (wF x l)),some (imp (qG l)),bif (jh x l).2 then some (imp (jh x l).1) else none]:List (Option zr)).filterMap id=ZG x imp l:=by
  unfold ZG;cases (jh x l).2<;>rfl
 rw[hds]at hit;refine ZeH x (L l) b (xY x l) (ZG x imp l) (QK l) h.cust hF (λ_=>hit) λ_ d hd=>?_
 grind
open Go Go.Proofs Hp
theorem Znu{P:Program}{r:Rd}{n:Nat}{F:Nat->PV}{S:Store}{o:Oper}{t e:TypeId}{len:Nat}{parts:Array (Nat × Operand)}{cs:List PV}{K:PV->Store->Prop}(ho:o.op=.buildSlice t len parts)(ht:P.underlying t=some (.slice e))(h0:P.cellsOf e≠0)(hlen:len<=1048576)
  (hl:Z5 P e len (parts.toList.map λx=>(x.1,ev F x.2))=some cs)
  (hK:∀C:Ctx,S C.next=.dead->∃id v,Fresh C S id v/\K (.sl id v (P.cellsOf e) 0 len) (S.set id (.cells v e cs))):PO P r n o F S K:=by
 intro G hG C w a N st next Q' hnext;have hmap:parts.toList.map (λx=>(x.1,ev G x.2))=parts.toList.map (λx=>(x.1,ev F x.2)):=Bd λx hx=>by
  rw[hG x.2 (by simp only[ho,Op.operands,List.mem_toArray,Ar];first | exact⟨x,hx,rfl⟩ | (simp;exact⟨x.1,by simpa using hx⟩))]
 rw[<-hmap]at hl;obtain⟨vs,hrun,hr,hsz⟩:=Zdf (w:=w) ht (ev G) a.eval st.ev hl;obtain⟨id,ver,hfr,hK⟩:=hK C st.sim.free;obtain⟨k1,k2⟩:=st.sim.object' hfr e vs cs (Co hr.1) (λi v _ hv=>hr.2.1 i v hv) hr.2.2;refine qf (x:=.value (.slice (some ⟨w.heap.size,0,none⟩) len len)) (w':=w.alloc (.cells vs e)) (by intro c hc;rw[ho]at hc;cases hc) ?_
  (hnext _ _ _ _ _ hK (Xi C S w _ _ _ _ _ _ _ _ rfl (Af _) (by unfold jT;omega) (by unfold maxLen;omega) hsz.symm) k1 k2)
 unfold execOp;simp only[ho];have e1:(parts.map λx=>(x.1,a.eval x.2))=(parts.toList.map λx=>(x.1,a.eval x.2)).toArray:=by
  apply BC.1;simp
 simp only[e1,hrun,Sem.run_bind,Sem.run_pure,Aj]
theorem Znv{P:Program}{r:Rd}{n nx:Nat}{F:Nat->PV}{S:Store}{obs:List Ob}{o:Oper}{t e:TypeId}{len:Nat}{parts:Array (Nat × Operand)}{cs:List PV}{K:PV->Store->Prop}(ho:o.op=.buildSlice t len parts)(ht:P.underlying t=some (.slice e))(h0:P.cellsOf e≠0)(hlen:len<=1048576)
  (hl:Z5 P e len (parts.toList.map λx=>(x.1,ev F x.2))=some cs) (hK:∀v,K (.sl (nx+obs.length) v (P.cellsOf e) 0 len) (ext S nx (obs++[.cells v e cs]))):PO P r n o F (ext S nx obs) K :=
 Znu ho ht h0 hlen hl (Zp (X:=λid v=>K (.sl id v (P.cellsOf e) 0 len) ((ext S nx obs).set id (.cells v e cs))) _ uC λv=>by rw[qU];exact hK v)
open Go Go.Proofs
theorem Znw{P:Program}{r:Rd}{n nx N:Nat}{Q:Exit->(Nat->PV)->Store->Prop}{F:Nat->PV}{S:Store}{obs:List Ob}{A:Prop}{R:Nat->KT->CT->HT->Prop}{id:Nat}{ops:Array Oper}{o:Oper}{os:List Oper}{t e:TypeId}{len:Nat}{parts:Array (Nat × Operand)}
  (D:List (Nat × Nat)) (cs:List PV) (ht:P.underlying t=some (.slice e)) (a:A) (h:∀v,R v (λF' S' obs'=>Q .normal F' (ext S' nx obs')) (CQ P r n nx ops λF' S' obs'=>Q .normal F' (ext S' nx obs')) (HQ P r n nx ops λF' S' obs'=>Q .normal F' (ext S' nx obs')))
  (hops:ops.toList=o :: os:=by rfl) (hg:o.guard=none:=by rfl) (ho:o.op=.buildSlice t len parts:=by rfl) (h0:P.cellsOf e≠0:=by simp) (hlen:len<=1048576:=by decide)
  (hl:Z5 P e len (parts.toList.map λx=>(x.1,ev F x.2))=some cs:=by simp[Z5,Z4]) (hN:wy N ops=true:=by rfl) (hD:ue ops D=true:=by rfl)
  (hR:A->∀v,XQ P nx D os (z6 F o.dst (.sl (nx+obs.length) v (P.cellsOf e) 0 len)) S (obs++[.cells v e cs]) (R v):=by intro a v K Gc Gh X hX0 hX h;simp -implicitDefEqProofs [hX0,hX,a];exact h):PW P r n N (.region id ops false) Q F (ext S nx obs):=by
 refine ZaJ hN ?_;rw[hops];unfold XS;have:gd ops F o=some true:=by unfold gd;rw[hg]
 rw[this];exact Znv ho ht h0 hlen hl λv=>⟨_,_,rfl,QA (by rw[hops];exact List.suffix_cons _ _) hD (hR a v) (h v)⟩
def yC(x:Inst)(t:zO):Nat->Int
 | 0=>0
 | i+1=>yC x t i+arc x ((t.getD i default).c+1) ((t.getD (i+1) default).c+1)
def yD(x:Inst)(t:zO):Nat->Int
 | 0=>0
 | i+1=>yD x t i+arc x ((t.getD (i+1) default).c+1) ((t.getD i default).c+1)
theorem JH{x:Inst}(h:jf x)(t:zO):∀i:Nat,0<=yC x t i/\yC x t i<=2147483648*(i:Int)
 | 0=>by simp[yC]
 | i+1=>by
  have h1:=JH h t i;have h2:=h ((t.getD i default).c+1) ((t.getD (i+1) default).c+1);unfold yC;omega
theorem JJ{x:Inst}(h:jf x)(t:zO):∀i:Nat,0<=yD x t i/\yD x t i<=2147483648*(i:Int)
 | 0=>by simp[yD]
 | i+1=>by
  have h1:=JJ h t i;have h2:=h ((t.getD (i+1) default).c+1) ((t.getD i default).c+1);unfold yD;omega
structure Sm where
 f:List Int
 b:List Int
 l:List Int
 n:Int
instance:Enc Sm:=⟨λs=>[L s.f,L s.b,L s.l,I s.n],4,λ_=>rfl,λ_=>rfl⟩
@[simp] theorem Zwr(s:Sm):Enc.enc s=[L s.f,L s.b,L s.l,I s.n]:=rfl
@[simp high] theorem ZfB(l:List Sm):(l.flatMap Enc.enc).length=l.length*4:=qO l
@[simp high] theorem Zws(l:List Sm):(l.flatMap Enc.enc).take (l.length*4)=l.flatMap Enc.enc:=Yd l
def j5(x:Inst)(t:zO):Sm:=⟨(List.range t.length).map (yC x t),(List.range t.length).map (yD x t),(List.range (t.length+1)).map λi=>zY (t.take i),yE x (t.map (·.c))⟩
abbrev up(x:Inst)(d:zr):List PV:=[I x.days,I x.veh,I x.cap,I x.len,L x.cust,L x.dist,L d,L (d.map (j5 x))]
structure MvDay (d:zr):Prop where
 n:d.length<=1000
 t:∀t∈d,t.length<=1000
 s:∀t∈d,∀s∈t,y9 s.c/\0<=s.q/\s.q<=2147483648
theorem Znx{t:zO}{i:Nat}{s:Stop}(h:t.take (i+1)=t.take i++[s]):zY (t.take (i+1))=zY (t.take i)+s.q:=by rw[h,W3]
theorem ZbB{α:Type}(f:Nat->α)(k:Nat):(List.range (k+1)).map f=(List.range k).map f++[f k]:=by rw[AT,List.map_append];rfl
theorem Zny(id v:Nat)(cs:List PV)(l:List Sm):(l.flatMap Enc.enc).map (qp id v cs)=(l.flatMap Enc.enc:List PV):=by
 induction l with
 | nil=>rfl
 | cons s l ih=>rw[Av,List.map_append,ih];rfl
theorem Znz(x:Inst)(d:zr)(hx:jf x)(hd':MvDay d):Pure prog 324 [.agg (zD x),.agg [L d]] (.ip (up x d)):=by
 have hdn:=hd'.n;refine zx func324 ntmps324 results324 λS nx hd=>?_
 refine DK ?_;intro v0 v1;refine DK ?_;intro v2;refine jd 2 7 410 4 rfl rfl λv3=>?_
 repeat apply ze
 refine zg ?_;refine zn (zJ (λs':Nat × Nat=>s'.1<=d.length) (λ(k,v3)=>[(2,.ptr nx v0 0),(5,.ptr (nx+2) v2 0),(20,L d),(21,I d.length),(22,I k)]) (λ(k,v3)=>[.cells v0 25 (zD x),.cells v1 39 [L d],.cells v2 408 [I x.days,I x.veh,I x.cap,I x.len,L x.cust,L x.dist,L d,.sl (nx+3) v3 4 0 k],.cells v3 410 (((d.map (j5 x)).take k).flatMap Enc.enc)]) (λs'=>d.length-s'.1) (0,v3) [] DC DC DC ?_);rintro⟨k,v3⟩ hk;simp only at hk ⊢;refine DK ?_;refine ze (zz rfl (λhc=>?_) (λhc=>?_))
 ·simp at hc;obtain⟨t,tl,a1,a2,a3,e0⟩:=zL rfl d k hc;have hk1:1<=d.length-k:=DB
  have htm:=Ab a1;have htl:=hd'.t t htm;have hts:=hd'.s t htm;have hlw:=Xs x t DB (λs hs=>(hts s hs).1);have hwz:=XF hx (t.map (·.c));rw[List.length_map]at hwz;rw[show W (yE x (t.map (·.c)))=yE x (t.map (·.c)) from wr _ DB DB]at hlw;refine zk (ze (zn (ze (zi [] (zF e0 hc hk1) ?_))));intro v4;refine ze (Znw [] [I 0] underlying26 trivial ?_);intro v5;refine zu hlw ?_;intro v6;refine DK ?_;refine jd 6 0 3 1 rfl rfl λv7=>?_
  refine jd 6 1 3 1 rfl rfl λv8=>?_
  repeat apply ze
  refine zg ?_;generalize hpc:(((d.map (j5 x)).take k).flatMap Enc.enc:List PV)=pc at *;generalize hwl:yE x (t.map (·.c))=wl at *;refine zn (zJ (λs':Nat × Nat × Nat × Nat=>s'.1<=t.length) (λ(i,v5,v7,v8)=>[(2,.ptr nx v0 0),(5,.ptr (nx+2) v2 0),(7,.ptr (nx+4) v4 0),(8,.ptr (nx+6) v6 0),(9,I (yC x t (i-1))),(10,I (yD x t (i-1))),(20,L d),(21,I d.length),(22,I k),(32,L t),(33,I t.length),(34,I i)])
   (λ(i,v5,v7,v8)=>[.cells v0 25 (zD x),.cells v1 39 [L d],.cells v2 408 [I x.days,I x.veh,I x.cap,I x.len,L x.cust,L x.dist,L d,.sl (nx+3) v3 4 0 k],.cells v3 410 pc,.cells v4 42 [L t],.cells v5 3 (((List.range (i+1)).map λi=>zY (t.take i)).flatMap Enc.enc),
    .cells v6 410 [.sl (nx+7) v7 1 0 i,.sl (nx+8) v8 1 0 i,.sl (nx+5) v5 1 0 (i+1),I wl],.cells v7 3 (((List.range i).map (yC x t)).flatMap Enc.enc),.cells v8 3 (((List.range i).map (yD x t)).flatMap Enc.enc)]) (λs'=>t.length-s'.1) (0,v5,v7,v8) [] DC (by simp[yC,yD]) (by simp[zY]) ?_)
  rintro⟨i,v5,v7,v8⟩ hi;simp only at hi ⊢;refine DK ?_;refine ze (zz rfl (λhci=>?_) (λhci=>?_))
  ·simp at hci;obtain⟨s,ts,s1,s2,s3,-,s0⟩:=el 2 rfl t i hci;have hi2:2<=t.length*2-i*2:=DB
   obtain⟨hsm,hq0,hq1⟩:=hts s (Ab s1);have hgs:t.getD i default=s:=by rw[Aa,s1];rfl
   have wi:=zA i DB;have f1:=ZbB (yC x t) i;have f2:=ZbB (yD x t) i;have f3:=ZbB (λi=>zY (t.take i)) (i+1);have hlz:=Znx s3;have hlb:=Zbi (t:=t.take i) (λa ha=>(hts a (Cf ha)).2);have hlt:(t.take i).length<=1000:=by rw[As];omega
   have wl1:IntKind.i64.wrap (zY (t.take i)+s.q)=zY (t.take (i+1)):=by rw[hlz];exact wr _ DB DB
   have g1:(((List.range i).map (yC x t)).flatMap Enc.enc:List PV).length=i:=by rw[je];simp
   have g2:(((List.range i).map (yD x t)).flatMap Enc.enc:List PV).length=i:=by rw[je];simp
   have g3:(((List.range (i+1)).map λi=>zY (t.take i)).flatMap Enc.enc:List PV).length=i+1:=by rw[je];simp
   obtain⟨lz,tlz,z1,-,-,z0⟩:=zL rfl ((List.range (i+1)).map λi=>zY (t.take i)) i DC;have hlzz:lz=zY (t.take i):=by simpa using z1.symm
   have c1:(((List.range (i+1)).map (yC x t)).flatMap Enc.enc:List PV)=((List.range i).map (yC x t)).flatMap Enc.enc++[I (yC x t i)]:=by rw[f1,Al];rfl
   have c2:(((List.range (i+1)).map (yD x t)).flatMap Enc.enc:List PV)=((List.range i).map (yD x t)).flatMap Enc.enc++[I (yD x t i)]:=by rw[f2,Al];rfl
   have c3:(((List.range (i+1+1)).map λi=>zY (t.take i)).flatMap Enc.enc:List PV)=((List.range (i+1)).map λi=>zY (t.take i)).flatMap Enc.enc++[I (zY (t.take (i+1)))]:=by rw[f3,Al];rfl
   rw[hlzz]at z0;clear f1 f2 f3 z1 hlzz hlz;generalize (((List.range i).map (yC x t)).flatMap Enc.enc:List PV)=fc at *;generalize (((List.range i).map (yD x t)).flatMap Enc.enc:List PV)=bc at *;generalize (((List.range (i+1)).map λi=>zY (t.take i)).flatMap Enc.enc:List PV)=lc at *;have t1:fc.take i=fc:=Ae DB;have t2:bc.take i=bc:=Ae DB;have t3:lc.take (i+1)=lc:=Ae DB;refine zk (ze (zn (ze (zi [] (zF s0 hci hi2) ?_))));intro v9;apply ze;refine qE (nx:=nx) (λ_:Unit=>True) (λ_=>[(2,.ptr nx v0 0),(5,.ptr (nx+2) v2 0),(7,.ptr (nx+4) v4 0),(8,.ptr (nx+6) v6 0),(9,I (yC x t i)),(10,I (yD x t i)),(11,I i),(12,.ptr (nx+9) v9 0),(20,L d),(21,I d.length),(22,I k),(32,L t),(33,I t.length),(34,I i)]) (λ_=>S)
    (λ_=>[.cells v0 25 (zD x),.cells v1 39 [L d],.cells v2 408 [I x.days,I x.veh,I x.cap,I x.len,L x.cust,L x.dist,L d,.sl (nx+3) v3 4 0 k],.cells v3 410 pc,.cells v4 42 [L t],.cells v5 3 lc,
    .cells v6 410 [.sl (nx+7) v7 1 0 i,.sl (nx+8) v8 1 0 i,.sl (nx+5) v5 1 0 (i+1),I wl],.cells v7 3 fc,.cells v8 3 bc,.cells v9 100 [I s.c,I s.q]]) ?_ ?_
   ·by_cases h0:0<i
    ·obtain⟨j,rfl⟩:∃j,i=j+1:=⟨i-1,by omega⟩;obtain⟨p,tp,p1,-,-,-,p0⟩:=el 2 rfl t j DB;obtain⟨hpm,-,-⟩:=hts p (Ab p1);have hgp:t.getD j default=p:=by rw[Aa,p1];rfl
     have hj2:2<=t.length*2-j*2:=DB
     have hjl:j<t.length:=DB
     have wj:IntKind.i64.wrap (j:Int)=(j:Int):=wr _ DB DB;have wp:=QC hpm;have ws:=QC hsm;have ar1:=wC x (p.c+1) (s.c+1);have ar2:=wC x (s.c+1) (p.c+1);have hfz:yC x t (j+1)=yC x t j+arc x (p.c+1) (s.c+1):=by conv=>lhs;unfold yC;rw[hgs,hgp]
     have hbz:yD x t (j+1)=yD x t j+arc x (s.c+1) (p.c+1):=by conv=>lhs;unfold yD;rw[hgs,hgp]
     have b1:=JH hx t (j+1);have b2:=JJ hx t (j+1);have wf:IntKind.i64.wrap (yC x t j+arc x (p.c+1) (s.c+1))=yC x t (j+1):=by rw[hfz]at b1 ⊢;exact wr _ DB DB
     have wb:IntKind.i64.wrap (yD x t j+arc x (s.c+1) (p.c+1))=yD x t (j+1):=by rw[hbz]at b2 ⊢;exact wr _ DB DB
     simp only[BW];have h0':(0:Int)<((j+1:Nat):Int):=DB
     refine ze (zi [] (zt h0 h0') ?_);refine zo DC ?_;refine ze (zB (some [nx+4,nx+9]) (Row.pures [0,1,2,3,4,5,6,7,8,9,10,11,12] .done) mixed (zS wj p0 hjl hj2 wp ws) ?_);refine DK ?_;refine qP [] ar1 wf ?_;refine zg ?_;refine qP [] ar2 wb ?_;exact zT () [] trivial DC rfl DC
    ·obtain rfl:i=0:=DB
     refine DK ?_;exact zp rfl (zk (zT () [] trivial DC rfl DC))
   ·rintro⟨⟩ -;apply ze;refine qE (nx:=nx) (λ_:Unit=>True) (λ_=>[(2,.ptr nx v0 0),(5,.ptr (nx+2) v2 0),(7,.ptr (nx+4) v4 0),(8,.ptr (nx+6) v6 0),(9,I (yC x t i)),(10,I (yD x t i)),(11,I i),(12,.ptr (nx+9) v9 0),(20,L d),(21,I d.length),(22,I k),(32,L t),(33,I t.length),(34,I i)]) (λ_=>S)
     (λ_=>[.cells v0 25 (zD x),.cells v1 39 [L d],.cells v2 408 [I x.days,I x.veh,I x.cap,I x.len,L x.cust,L x.dist,L d,.sl (nx+3) v3 4 0 k],.cells v3 410 pc,.cells v4 42 [L t],.cells v5 3 lc,
     .cells v6 410 [.sl (nx+7) (v7+1) 1 0 (i+1),.sl (nx+8) (v8+1) 1 0 (i+1),.sl (nx+5) v5 1 0 (i+1),I wl],.cells (v7+1) 3 (fc++[I (yC x t i)]),.cells (v8+1) 3 (bc++[I (yD x t i)]),.cells v9 100 [I s.c,I s.q]]) ?_ ?_
    ·repeat apply ze
     refine zB (some []) (Row.pures [0,2,3,5,7,8] (.alt 1 (.alt 4 (.alt 6 (Row.pures [10] (.alt 9 (.alt 11 (Row.pures [12] (.alt 13 (.done) .stop)) .stop) .stop)) .stop) (.alt 6 (.alt 4 (Row.pures [10] (.alt 9 (.alt 11 (Row.pures [12] (.alt 13 (.done) .stop)) .stop) .stop)) .stop) .stop)) (.alt 6 (.alt 1 (.alt 4 (Row.pures [10] (.alt 9 (.alt 11 (Row.pures [12] (.alt 13 (.done) .stop)) .stop) .stop)) .stop) .stop) .stop))) mixed (zN g1 g2 t1 t2) ?_
     repeat' (first | refine And.intro DB ?_ | apply And.intro)
     all_goals exact zT () [] trivial DC rfl DC
    ·rintro⟨⟩ -;have z1:(i:Int)<(i:Int)+1:=DB
     have z2:i<i+1:=DB
     have z3:1<=i+1-i:=DB
     refine zB (some [nx+9]) (Row.pures [0,2,4,7,8] (.alt 1 (.alt 3 (Row.pures [5] (.alt 6 (Row.pures [9,10] (.alt 11 (Row.pures [12] (.alt 13 (.done) .stop)) .stop)) .stop)) .stop) (.alt 3 (Row.pures [5] (.alt 1 (.alt 6 (Row.pures [9,10] (.alt 11 (Row.pures [12] (.alt 13 (.done) .stop)) .stop)) .stop) (.alt 6 (Row.pures [9,10] (.alt 1 (.alt 11 (Row.pures [12] (.alt 13 (.done) .stop)) .stop) .stop)) .stop))) .stop))) mixed (zS z0 z1 z2 z3 wl1 (zt g3 t3)) ?_
     repeat' (first | refine And.intro DB ?_ | apply And.intro)
     all_goals
      refine zi [] wi ?_;exact zv (i+1,v5+1,v7+1,v8+1) [_] hci DF (by simp[wi]) rfl (by simp[c1,c2,c3];rfl)
  ·simp at hci;obtain rfl:i=t.length:=DB
   refine zC ?_;clear hi hci;have hsm:j5 x t=⟨(List.range t.length).map (yC x t),(List.range t.length).map (yD x t),(List.range (t.length+1)).map λi=>zY (t.take i),wl⟩:=by unfold j5;rw[hwl]
   have g1:(((List.range t.length).map (yC x t)).flatMap Enc.enc:List PV).length=t.length:=by rw[je];simp
   have g2:(((List.range t.length).map (yD x t)).flatMap Enc.enc:List PV).length=t.length:=by rw[je];simp
   have g3:(((List.range (t.length+1)).map λi=>zY (t.take i)).flatMap Enc.enc:List PV).length=t.length+1:=by rw[je];simp
   have hfz:∀id v cs,pc.map (qp id v cs)=pc:=λid v cs=>by rw[<-hpc];exact Zny id v cs _
   have hpl:pc.length=k*4:=by rw[<-hpc,ZfB];simp;omega
   have hpt:pc.take (k*4)=pc:=Ae DB;have hnew:(((d.map (j5 x)).take (k+1)).flatMap Enc.enc:List PV)=pc++[L ((List.range t.length).map (yC x t)),L ((List.range t.length).map (yD x t)),L ((List.range (t.length+1)).map λi=>zY (t.take i)),I wl]:=by
    rw[<-hpc,<-List.map_take,a3,List.map_append,Al,<-List.map_take,AD,hsm];rfl
   have l1:((List.range t.length).map (yC x t)).length=t.length:=DC
   have l2:((List.range t.length).map (yD x t)).length=t.length:=DC
   have l3:((List.range (t.length+1)).map λi=>zY (t.take i)).length=t.length+1:=DC
   generalize (List.range t.length).map (yC x t)=fl at *;generalize (List.range t.length).map (yD x t)=bl at *;generalize ((List.range (t.length+1)).map λi=>zY (t.take i))=ll at *;clear g1 g2 g3;refine yb 8 rfl ?_;simp only[AD,Bk,AR,AW,xA,hfz];refine yb 7 rfl ?_;simp only[AD,Bk,AR,AW,xA,hfz];refine yb 5 rfl ?_;simp only[AD,Bk,AR,AW,xA,hfz];refine zB (some [nx+6]) (Row.pures [0,1,2,3,5,6] (.alt 4 (.alt 7 (Row.pures [8,9] (.alt 10 (.done) .stop)) .stop) .stop)) mixed (yq l1 l2 l3 hpl hpt) ?_;refine⟨by omega,?_⟩;refine zg ?_;exact zv (k+1,v3+1) [_,_,_,_,_] hc DF (by simp[zA k (by omega)]) rfl (by simp[hnew,l1,l2,l3];exact⟨rfl,rfl,rfl,rfl,rfl⟩)
 ·simp at hc;obtain rfl:k=d.length:=DB
  rw[Ae DC];refine zC ?_;have hml:((d.map (j5 x)).flatMap Enc.enc:List PV).length=d.length*4:=by rw[ZfB];simp
  refine yb 3 rfl ?_;refine ze (zi [] hml ?_);refine xI 2 rfl ?_;exact zj (zm hd DD (by simp[zq,hml]))
open Go Go.Proofs
def xp(x:Inst):Int->List Int->Int
 | _,[]=>0
 | a,c :: l=>arc x a (c+1)+xp x (c+1) l
theorem ZbC(x:Inst):∀(l:List Int) (a:Int) (m:List Int),xp x a (l++m)=xp x a l+xp x (y0 a l) m
 | [],a,m=>by simp[xp,y0]
 | c :: l,a,m=>by
  simp only[List.cons_append,xp,y0];rw[ZbC x l (c+1) m];omega
theorem ZbD:∀(l:List Int) (a:Int) (m:List Int),y0 a (l++m)=y0 (y0 a l) m
 | [],a,m=>rfl
 | c :: l,a,m=>by simp only[List.cons_append,y0];exact ZbD l (c+1) m
theorem ZfC(x:Inst):∀(l:List Int) (a:Int),xX x a l=xp x a l+arc x (y0 a l) 0
 | [],a=>by simp[xX,xp,y0]
 | c :: l,a=>by
  simp only[xX,xp,y0];rw[ZfC x l (c+1)];omega
def vN(t:zO)(f n:Nat):zO:=(t.drop f).take n
theorem XH{t:zO}{f n:Nat}{s:Stop}(h:t[f+n]?=some s):vN t f (n+1)=vN t f n++[s]:=by grind[vN,List.take_succ_eq_append_getElem]
theorem getD_some{t:zO}{i:Nat}{s:Stop}(h:t[i]?=some s):t.getD i default=s:=DJ
theorem ZfD(x:Inst)(t:zO)(f:Nat)(a:Int):∀n,f+n<t.length->xp x a ((vN t f (n+1)).map (·.c))=arc x a ((t.getD f default).c+1)+(yC x t (f+n)-yC x t f)/\y0 a ((vN t f (n+1)).map (·.c))=(t.getD (f+n) default).c+1
 | 0,h=>by
  have h0:t[f+0]?=some t[f]:=Ad DB;rw[XH h0]
  grind[vN,xp,y0]
 | n+1,h=>by
  obtain⟨i1,i2⟩:=ZfD x t f a n DB;have h0:t[f+(n+1)]?=some t[f+(n+1)]:=Ad DB;rw[XH h0,List.map_append,ZbC,ZbD,i1,i2,getD_some h0]
  grind[xp,y0,yC]
theorem ZfE(x:Inst)(t:zO)(f:Nat):∀(n:Nat) (a:Int),f+n<t.length->xp x a ((vN t f (n+1)).reverse.map (·.c))=arc x a ((t.getD (f+n) default).c+1)+(yD x t (f+n)-yD x t f)/\y0 a ((vN t f (n+1)).reverse.map (·.c))=(t.getD f default).c+1
 | 0,a,h=>by
  have h0:t[f+0]?=some t[f]:=Ad DB;rw[XH h0]
  grind[vN,xp,y0]
 | n+1,a,h=>by
  have h0:t[f+(n+1)]?=some t[f+(n+1)]:=Ad DB;obtain⟨i1,i2⟩:=ZfE x t f n ((t.getD (f+(n+1)) default).c+1) DB;rw[XH h0,List.reverse_append];simp only[Dc,List.reverse_nil,AM,List.cons_append,AD,xp,y0]
  grind[yD]
theorem ZfF(t:zO)(f:Nat):∀n,f+n<=t.length->zY (vN t f n)=zY (t.take (f+n))-zY (t.take f)
 | 0,_=>by simp[vN,zY]
 | n+1,h=>by
  have h0:t[f+n]?=some t[f+n]:=Ad DB;have e:t.take (f+n+1)=t.take (f+n)++[t[f+n]]:=AO DB;rw[XH h0,W3,ZfF t f n DB,<-Nat.add_assoc,e,W3];omega
def jk(x:Inst)(d:zr)(st:Int × Int)(p:Pc):Int × Int :=
 if p.f<p.o then
  (bif p.b then (((d.getD p.t []).getD p.f default).c+1,st.2+(arc x st.1 (((d.getD p.t []).getD (p.o-1) default).c+1)+yD x (d.getD p.t []) (p.o-1)-yD x (d.getD p.t []) p.f))
  else (((d.getD p.t []).getD (p.o-1) default).c+1,st.2+(arc x st.1 (((d.getD p.t []).getD p.f default).c+1)+yC x (d.getD p.t []) (p.o-1)-yC x (d.getD p.t []) p.f)))
 else st
def x8(x:Inst)(d:zr)(r:Rw5):Int:=(r.l.foldl (jk x d) (0,0)).2+arc x (r.l.foldl (jk x d) (0,0)).1 0
def wJ(d:zr)(st:Int)(p:Pc):Int:=if p.f<p.o then st+(zY ((d.getD p.t []).take p.o)-zY ((d.getD p.t []).take p.f)) else st
def Y0(d:zr)(r:Rw5):Int:=r.l.foldl (wJ d) 0
theorem ZnA{x:Inst}{d:zr}{p:Pc}(h:JF d p)(g:List Stop):jk x d (y0 0 (g.map (·.c)),xp x 0 (g.map (·.c))) p=(y0 0 ((g++qt d p).map (·.c)),xp x 0 ((g++qt d p).map (·.c))):=by
 unfold jk qt
 by_cases hfo:p.f<p.o
 ·obtain⟨ht,ho⟩:=h hfo;unfold qA at ho;rw[if_pos hfo,if_pos hfo];generalize d.getD p.t []=t at *;obtain⟨n,hn⟩:∃n,p.o=p.f+n+1:=⟨p.o-p.f-1,by omega⟩;have e1:p.o-1=p.f+n:=DB
  have e2:p.o-p.f=n+1:=DB
  rw[e1,e2,List.map_append,ZbC,ZbD];cases p.b with
  | true =>
   simp only[cond_true];obtain⟨i1,i2⟩:=ZfE x t p.f n (y0 0 (g.map (·.c))) DB;unfold vN at i1 i2;rw[i1,i2];congr 1;omega
  | false =>
   simp only[cond_false];obtain⟨i1,i2⟩:=ZfD x t p.f (y0 0 (g.map (·.c))) n DB;unfold vN at i1 i2;rw[i1,i2];congr 1;omega
 grind
theorem ZfG{x:Inst}{d:zr}:∀(l:List Pc) (g:List Stop),(∀p∈l,JF d p)->l.foldl (jk x d) (y0 0 (g.map (·.c)),xp x 0 (g.map (·.c)))=(y0 0 ((g++l.flatMap (qt d)).map (·.c)),xp x 0 ((g++l.flatMap (qt d)).map (·.c)))
 | [],g,_=>by simp
 | p :: l,g,h=>by
  rw[AY,ZnA (h p DC),ZfG l _ λq hq=>h q (by simp[hq]),Av,List.append_assoc]
theorem ZbE{x:Inst}{d:zr}{r:Rw5}(h:uo d r)(h0:arc x 0 0=0):x8 x d r=yE x ((y8 d r).map (·.c)):=by
 have:=ZfG (x:=x) r.l [] h
 grind[y0,xp,x8,y8,yE,ZfC]
theorem ZnB{d:zr}{p:Pc}(h:JF d p)(g:List Stop):wJ d (zY g) p=zY (g++qt d p):=by
 unfold wJ qt
 by_cases hfo:p.f<p.o
 ·obtain⟨ht,ho⟩:=h hfo;unfold qA at ho;rw[if_pos hfo,if_pos hfo,Zmj];generalize d.getD p.t []=t at *;have:=ZfF t p.f (p.o-p.f) DB;rw[show p.f+(p.o-p.f)=p.o by omega]at this;have hr:∀l:zO,zY l.reverse=zY l:=λl=>by unfold zY;exact Zmi ((List.reverse_perm l).map _)
  unfold vN at this;cases p.b with
  | true=>simp only[cond_true];rw[hr,this]
  | false=>simp only[cond_false];rw[this]
 grind
theorem ZnC{d:zr}{r:Rw5}(h:uo d r):Y0 d r=zY (y8 d r):=by
 have key:∀(l:List Pc) (g:List Stop),(∀p∈l,JF d p)->l.foldl (wJ d) (zY g)=zY (g++l.flatMap (qt d)):=by
  intro l
  induction l with
  | nil=>intro g _;simp
  | cons p l ih =>
   intro g h;rw[AY,ZnB (h p DC),ih _ λq hq=>h q (by simp[hq]),Av,List.append_assoc]
 have:=key r.l [] h
 simp_all[Y0,y8,zY]
open Go Go.Proofs
abbrev JK(x:Inst)(d:zr)(sms:List Sm):List PV:=[I x.days,I x.veh,I x.cap,I x.len,L x.cust,L x.dist,L d,L sms]
theorem JL{x:Inst}(h:jf x)(a b:Int):0<=arc x a b/\arc x a b<=2147483648:=h a b
theorem Vm{x:Inst}{d:zr}{sms:List Sm}(hs:sms=d.map (j5 x)){k:Nat}(h:k<d.length):∃(t:zO) (td tf:List PV),d[k]?=some t/\d.getD k []=t/\(d.flatMap Enc.enc:List PV).drop k=L t :: td /\
  (sms.flatMap Enc.enc:List PV).drop (k*4)=[L (j5 x t).f,L (j5 x t).b,L (j5 x t).l,I (j5 x t).n]++tf:=by
 obtain⟨t,td,a1,-,-,e0⟩:=zL rfl d k h;rw[hs];obtain⟨s,ts,b1,-,-,-,f0⟩:=el 4 rfl (d.map (j5 x)) k (by simpa using h);have:s=j5 x t:=by rw[Ah,a1]at b1;exact(Option.some.inj b1).symm
 subst this;exact⟨t,td,ts,a1,by rw[Aa,a1];rfl,e0,f0⟩
theorem JM{α:Type}[Enc α](n:Nat)(hn:Enc.sz α=1)(f:Nat->α){i:Nat}(h:i<n):∃tl,(((List.range n).map f).flatMap Enc.enc:List PV).drop i=Enc.enc (f i)++tl:=by
 obtain⟨s,ts,b1,-,-,f0⟩:=zL hn ((List.range n).map f) i (by simpa using h);have:s=f i:=by rw[Ah,Bt h]at b1;exact(Option.some.inj b1).symm
 subst this;exact⟨ts,f0⟩
theorem ZbF(x:Inst)(d:zr)(r:Rw5)(hx:jf x)(hd':MvDay d)(hr:uo d r):Pure prog 342 [.ip (up x d),.agg (yx r)] (I (x8 x d r)):=by
 obtain⟨sms,hsms⟩:∃sms,sms=d.map (j5 x):=⟨_,rfl⟩;have hml:sms.length=d.length:=by rw[hsms];simp
 rw[show up x d=JK x d sms from by rw[hsms]];have hdn:=hd'.n;have hat:=λk (h:k<5)=>Vl r h
 have hz:x8 x d r=((r.l.take 5).foldl (jk x d) (0,0)).2+arc x ((r.l.take 5).foldl (jk x d) (0,0)).1 0:=by unfold x8;rw[Ae (by simp[Rw5.l])]
 rw[hz];clear hz;have hcl:(yx r).length=20:=rfl;have hct:(yx r).take 20=yx r:=rfl;generalize hrc:yx r=rc at *;refine zx func342 ntmps342 results342 λS nx hd=>?_
 refine DK ?_;intro v0;refine DK ?_
 repeat apply ze
 refine zi [] (zt hcl hct) ?_;refine zn (zJ (λk:Nat=>k<=5/\-(8796093022208*(k:Int))<=((r.l.take k).foldl (jk x d) (0,0)).2/\((r.l.take k).foldl (jk x d) (0,0)).2<=8796093022208*k) (λk=>[(0,.ip (JK x d sms)),(3,.ptr nx v0 0),(5,I ((r.l.take k).foldl (jk x d) (0,0)).1),(6,I ((r.l.take k).foldl (jk x d) (0,0)).2),(13,.agg rc),(14,I k)]) (λ_=>[.cells v0 371 rc]) (λk=>5-k) 0 [] DC DC DC ?_);rintro k ⟨hk,hb1,hb2⟩
 by_cases hk5:k<5
 ·obtain⟨p,hp1,hp2,hp3⟩:=hat k hk5;have hk5':(k:Int)<5:=DB
  have hk6:4<=20-k*4:=DB
  have hok:=hr p (Ab hp1);have hnx:(r.l.take (k+1)).foldl (jk x d) (0,0)=jk x d ((r.l.take k).foldl (jk x d) (0,0)) p:=by rw[hp3,Bo];rfl
  generalize (r.l.take k).foldl (jk x d) (0,0)=st at *;obtain⟨at_,all⟩:=st;simp only at hb1 hb2 ⊢;have wk:=zA k DB;refine ze (zi [] hk5' ?_);refine ze (zo rfl (zk (ze (zn (ze (zi [] (yq hp2 hk5 hk5' hcl hk6) ?_))))));intro v3
  by_cases hfo:p.f<p.o
  case neg =>
   have hpz:jk x d (at_,all) p=(at_,all):=by unfold jk;rw[if_neg hfo]
   rw[hpz]at hnx;have hfo':p.o<=p.f:=DB
   repeat apply ze
   refine zi [] hfo' ?_;refine zo (by simp[hfo']) ?_;refine zC (zg ?_);exact zv (k+1) [_] ⟨by omega,by rw[hnx];simp only;omega,by rw[hnx];simp only;omega⟩ DB (by simp[wk,hnx]) rfl DD
  obtain⟨ht,ho⟩:=hok hfo;obtain⟨t,td,tf,a1,hgt,e0,f0⟩:=Vm hsms ht;unfold qA at ho;rw[hgt]at ho;have htm:=Ab a1;have htl:=hd'.t t htm;have hts:=hd'.s t htm;have ht1:1<=d.length-p.t:=DB
  have ht4:4<=d.length*4-p.t*4:=DB
  obtain⟨n,hn⟩:∃n,p.o=n+1:=⟨p.o-1,by omega⟩;have hfo':¬p.o<=p.f:=DB
  have hst:jk x d (at_,all) p=bif p.b then ((t.getD p.f default).c+1,all+(arc x at_ ((t.getD n default).c+1)+yD x t n-yD x t p.f)) else ((t.getD n default).c+1,all+(arc x at_ ((t.getD p.f default).c+1)+yC x t n-yC x t p.f)):=by
   unfold jk;rw[if_pos hfo,hgt,show p.o-1=n by omega]
  rw[hst]at hnx;clear hst;obtain⟨sf,tsf,s1,-,-,-,s0⟩:=el 2 rfl t p.f DB;obtain⟨sl,tsl,l1,-,-,-,l0⟩:=el 2 rfl t n DB;have hgf:t.getD p.f default=sf:=getD_some s1;have hgl:t.getD n default=sl:=getD_some l1;rw[hgf,hgl]at hnx;have q1:p.f<t.length:=DB
  have q2:n<t.length:=DB
  have q3:2<=t.length*2-p.f*2:=DB
  have q4:2<=t.length*2-n*2:=DB
  have wo:IntKind.i64.wrap ((p.o:Int)-1)=(n:Int):=by rw[wr _ DB DB];omega
  have wsf:=QC (hts sf (Ab s1)).1;have wsl:=QC (hts sl (Ab l1)).1;have bf1:=JH hx t p.f;have bf2:=JH hx t n;have bb1:=JJ hx t p.f;have bb2:=JJ hx t n;have hlen:((List.range t.length).map (yC x t)).length=t.length/\((List.range t.length).map (yD x t)).length=t.length:=DC
  obtain⟨z1,hz1⟩:=JM t.length rfl (yC x t) q1;obtain⟨z2,hz2⟩:=JM t.length rfl (yC x t) q2;obtain⟨z3,hz3⟩:=JM t.length rfl (yD x t) q1;obtain⟨z4,hz4⟩:=JM t.length rfl (yD x t) q2;have q5:1<=t.length-p.f:=DB
  have q6:1<=t.length-n:=DB
  simp only[j5]at f0;generalize hfl:(List.range t.length).map (yC x t)=fl at *;generalize hbl:(List.range t.length).map (yD x t)=bl at *;generalize ((List.range (t.length+1)).map λi=>zY (t.take i))=ll at *;generalize yE x (t.map (·.c))=wl at *;obtain⟨hl1,hl2⟩:=hlen;have hfll:(fl.flatMap Enc.enc:List PV).length=t.length:=by rw[je,hl1]
  have hbll:(bl.flatMap Enc.enc:List PV).length=t.length:=by rw[je,hl2]
  repeat apply ze
  refine zi [] hfo' ?_;refine zp (by simp[hfo']) ?_;refine zk (ze (zB (some [nx+1]) (Row.pures [0,1,2,3,4,5,6,7,8,9,10,11,12,13,14,15,16,17,18,19,20] .done) mixed (zS e0 f0 ht ht1 ht4 hml) ?_));refine ze (zB (some [nx+1]) (Row.pures [0,1,2,3,4,5,6] .done) mixed wo ?_);apply ze;cases hpb:p.b with
  | false =>
   rw[hpb]at hnx;simp only[cond_false]at hnx;have har:=JL hx at_ (sf.c+1);have ar:=wC x at_ (sf.c+1);have w1:IntKind.i64.wrap (arc x at_ (sf.c+1)+yC x t n)=arc x at_ (sf.c+1)+yC x t n:=wr _ DB DB;have w2:IntKind.i64.wrap (arc x at_ (sf.c+1)+yC x t n-yC x t p.f)=arc x at_ (sf.c+1)+yC x t n-yC x t p.f:=wr _ DB DB;have w3:IntKind.i64.wrap (all+(arc x at_ (sf.c+1)+yC x t n-yC x t p.f))=all+(arc x at_ (sf.c+1)+yC x t n-yC x t p.f):=wr _ DB DB;refine ze (zi [] hpb ?_);refine zp rfl (zk (ze (zB (some [nx+1]) (Row.pures [0,1,2,3,4,5,6,7,8,9,10,11,12,13,14,15,16,17,18,19,20,21,22,23,24,25,26,27] .done) mixed (zS s0 q1 q3 wsf wo (zt (zS hz1 hz2 hfll hl1 q2 q5) (zN q6 w1 w2 w3))) ?_)));refine zP (ar) (zS s0 q1 q3 wsf wo (zt (zS hz1 hz2 hfll hl1 q2 q5) (zN q6 w1 w2 w3))) ?_;refine zi [] (zN l0 q2 q4 wsl) ?_;refine zg ?_;exact zv (k+1) [_] ⟨by omega,by rw[hnx];simp only;omega,by rw[hnx];simp only;omega⟩ DB (by simp[wk,hnx]) rfl DD
  | true =>
   rw[hpb]at hnx;simp only[cond_true]at hnx;have har:=JL hx at_ (sl.c+1);have ar:=wC x at_ (sl.c+1);have w1:IntKind.i64.wrap (arc x at_ (sl.c+1)+yD x t n)=arc x at_ (sl.c+1)+yD x t n:=wr _ DB DB;have w2:IntKind.i64.wrap (arc x at_ (sl.c+1)+yD x t n-yD x t p.f)=arc x at_ (sl.c+1)+yD x t n-yD x t p.f:=wr _ DB DB;have w3:IntKind.i64.wrap (all+(arc x at_ (sl.c+1)+yD x t n-yD x t p.f))=all+(arc x at_ (sl.c+1)+yD x t n-yD x t p.f):=wr _ DB DB;refine ze (zi [] hpb ?_);refine zo rfl (zB (some [nx+1]) (Row.pures [0,1,2,3,4,5,6,7,8,9,10,11,12,13] .done) mixed (zN f0 ht ht4 hml) ?_);refine ze (zB (some [nx+1]) (Row.pures [0,1,2,3,4,5,6,7,8,9,10,11,12,13,14,15,16,17,18,19,20,21,22,23,24,25,26,27] .done) mixed (zS l0 q2 q4 wsl wo (zt (zS hz3 hz4 hbll hl2 q1 q5) (zN q6 w1 w2 w3))) ?_);refine zP (ar) (zS l0 q2 q4 wsl wo (zt (zS hz3 hz4 hbll hl2 q1 q5) (zN q6 w1 w2 w3))) ?_;refine zi [] (zN s0 q1 q3 wsf) ?_;refine zg ?_;exact zv (k+1) [_] ⟨by omega,by rw[hnx];simp only;omega,by rw[hnx];simp only;omega⟩ DB (by simp[wk,hnx]) rfl DD
 ·obtain rfl:k=5:=DB
  generalize (r.l.take 5).foldl (jk x d) (0,0)=st at *;obtain⟨at_,all⟩:=st;simp only at hb1 hb2 ⊢;have har:=JL hx at_ 0;have ar:=wC x at_ 0;have w1:IntKind.i64.wrap (all+arc x at_ 0)=all+arc x at_ 0:=wr _ DB DB;refine DK ?_;refine ze (zp rfl (zC (DK ?_)));refine qP [] ar w1 ?_;exact zj (zm hd rfl rfl)
open Go Go.Proofs
theorem ZnD(x:Inst)(d:zr)(r:Rw5)(hd':MvDay d)(hr:uo d r):Pure prog 343 [.ip (up x d),.agg (yx r)] (I (Y0 d r)):=by
 obtain⟨sms,hsms⟩:∃sms,sms=d.map (j5 x):=⟨_,rfl⟩;have hml:sms.length=d.length:=by rw[hsms];simp
 rw[show up x d=JK x d sms from by rw[hsms]];have hdn:=hd'.n;have hat:=λk (h:k<5)=>Vl r h
 have hz:Y0 d r=(r.l.take 5).foldl (wJ d) 0:=by unfold Y0;rw[Ae (by simp[Rw5.l])]
 rw[hz];clear hz;have hcl:(yx r).length=20:=rfl;have hct:(yx r).take 20=yx r:=rfl;generalize hrc:yx r=rc at *;refine zx func343 ntmps343 results343 λS nx hd=>?_
 refine DK ?_;intro v0;refine DK ?_
 repeat apply ze
 refine zi [] (zt hcl hct) ?_;refine zn (zJ (λk:Nat=>k<=5/\-(8796093022208*(k:Int))<=(r.l.take k).foldl (wJ d) 0/\(r.l.take k).foldl (wJ d) 0<=8796093022208*k) (λk=>[(0,.ip (JK x d sms)),(3,.ptr nx v0 0),(5,I ((r.l.take k).foldl (wJ d) 0)),(8,.agg rc),(9,I k)]) (λ_=>[.cells v0 371 rc]) (λk=>5-k) 0 [] DC DC DC ?_);rintro k ⟨hk,hb1,hb2⟩
 by_cases hk5:k<5
 ·obtain⟨p,hp1,hp2,hp3⟩:=hat k hk5;have hk5':(k:Int)<5:=DB
  have hk6:4<=20-k*4:=DB
  have hok:=hr p (Ab hp1);have hnx:(r.l.take (k+1)).foldl (wJ d) 0=wJ d ((r.l.take k).foldl (wJ d) 0) p:=by rw[hp3,Bo];rfl
  generalize (r.l.take k).foldl (wJ d) 0=all at *;have wk:=zA k DB;refine ze (zi [] hk5' ?_);refine ze (zo rfl (zk (ze (zn (ze (zi [] (yq hp2 hk5 hk5' hcl hk6) ?_))))));intro v3
  by_cases hfo:p.f<p.o
  case neg =>
   have hpz:wJ d all p=all:=by unfold wJ;rw[if_neg hfo]
   rw[hpz]at hnx;refine ze (zi [] hfo ?_);refine zp (by simp[hfo]) ?_;refine zk (zg ?_);exact zv (k+1) [_] ⟨by omega,by rw[hnx];omega,by rw[hnx];omega⟩ DB (by simp[wk,hnx]) rfl DD
  obtain⟨ht,ho⟩:=hok hfo;obtain⟨t,td,tf,a1,hgt,e0,f0⟩:=Vm hsms ht;unfold qA at ho;rw[hgt]at ho;have htm:=Ab a1;have htl:=hd'.t t htm;have hts:=hd'.s t htm;have ht4:4<=d.length*4-p.t*4:=DB
  have hst:wJ d all p=all+(zY (t.take p.o)-zY (t.take p.f)):=by unfold wJ;rw[if_pos hfo,hgt]
  rw[hst]at hnx;have b1:=Zbi (t:=t.take p.o) (λa ha=>(hts a (Cf ha)).2);have b2:=Zbi (t:=t.take p.f) (λa ha=>(hts a (Cf ha)).2);have b3:(t.take p.o).length<=1000:=by rw[As];omega
  have b4:(t.take p.f).length<=1000:=by rw[As];omega
  have w1:IntKind.i64.wrap (zY (t.take p.o)-zY (t.take p.f))=zY (t.take p.o)-zY (t.take p.f):=wr _ DB DB;have w2:IntKind.i64.wrap (all+(zY (t.take p.o)-zY (t.take p.f)))=all+(zY (t.take p.o)-zY (t.take p.f)):=wr _ DB DB;obtain⟨z1,hz1⟩:=JM (t.length+1) rfl (λi=>zY (t.take i)) (show p.o<t.length+1 by omega);obtain⟨z2,hz2⟩:=JM (t.length+1) rfl (λi=>zY (t.take i)) (show p.f<t.length+1 by omega);have hll:((List.range (t.length+1)).map λi=>zY (t.take i)).length=t.length+1:=DC
  simp only[j5]at f0;generalize (List.range t.length).map (yC x t)=fl at *;generalize (List.range t.length).map (yD x t)=bl at *;generalize ((List.range (t.length+1)).map λi=>zY (t.take i))=ll at *;generalize yE x (t.map (·.c))=wl at *;generalize zY (t.take p.o)=lo at *;generalize zY (t.take p.f)=lf at *;have hlf:(ll.flatMap Enc.enc:List PV).length=t.length+1:=by rw[je,hll]
  have q1:p.o<t.length+1:=DB
  have q2:p.f<t.length+1:=DB
  have q3:1<=t.length+1-p.o:=DB
  have q4:1<=t.length+1-p.f:=DB
  have q5:(p.o:Int)<(t.length:Int)+1:=DB
  have q6:(p.f:Int)<(t.length:Int)+1:=DB
  refine ze (zi [] hfo ?_);refine zo (by simp[hfo]) ?_;refine zB (some [nx+1]) (Row.pures [0,1,2,3,4,5,6,7,8,9,10,11,12,13,14,15,16,17,18,19,20,21,22,23,24,25,26,27,28,29] .done) mixed (zS f0 ht ht4 hml hz1 (zt (zS hz2 hll hlf q1 q2 q3) (yq q4 q5 q6 w1 w2))) ?_;refine zg ?_;exact zv (k+1) [_] ⟨by omega,by rw[hnx];omega,by rw[hnx];omega⟩ DB (by simp[wk,hnx]) rfl DD
 ·obtain rfl:k=5:=DB
  refine DK ?_;refine ze (zp rfl (zC (DK ?_)));exact zj (zm hd rfl rfl)
def XI(x:Inst)(d:zr)(m:Mv)(r1 r2:Rw5):Int:=x8 x d r1-yE x ((d.getD m.a []).map (·.c))+(if m.a=m.b then 0 else x8 x d r2-yE x ((d.getD m.b []).map (·.c)))
theorem ZfH{x:Inst}(hx:jf x){d:zr}(hd':MvDay d){r:Rw5}(hr:uo d r):-52776558133248<=x8 x d r/\x8 x d r<=52776558133248:=by
 have key:∀k:Nat,k<=5->-(8796093022208*(k:Int))<=((r.l.take k).foldl (jk x d) (0,0)).2/\((r.l.take k).foldl (jk x d) (0,0)).2<=8796093022208*k:=by
  intro k
  induction k with
  | zero=>intro _;simp
  | succ k ih =>
   intro hk;obtain⟨h1,h2⟩:=ih DB;obtain⟨p,hp1,-,hp3⟩:=Vl r (show k<5 by omega);have hok:=hr p (Ab hp1);rw[hp3,Bo,AY,List.foldl_nil];generalize (r.l.take k).foldl (jk x d) (0,0)=st at *;unfold jk
   by_cases hfo:p.f<p.o
   ·obtain⟨ht,ho⟩:=hok hfo;have htm:d.getD p.t []∈d:=Ab (i:=p.t) (by rw[Aa,Ad ht];rfl);have htl:=hd'.t _ htm;unfold qA at ho;generalize d.getD p.t []=t at *;have b1:=JH hx t p.f;have b2:=JH hx t (p.o-1);have b3:=JJ hx t p.f;have b4:=JJ hx t (p.o-1);rw[if_pos hfo];cases p.b with
    | true =>
     have:=JL hx st.1 ((t.getD (p.o-1) default).c+1);simp only[cond_true];omega
    | false =>
     have:=JL hx st.1 ((t.getD p.f default).c+1);simp only[cond_false];omega
   ·rw[if_neg hfo];omega
 have h5:=key 5 DB;rw[Ae (by simp[Rw5.l])]at h5;have:=JL hx (r.l.foldl (jk x d) (0,0)).1 0;unfold x8;omega
theorem ZnE(x:Inst)(d:zr)(m:Mv)(r1 r2:Rw5)(hx:jf x)(hd':MvDay d)(hr1:uo d r1)(hr2:uo d r2)(ha:m.a<d.length)(hb:m.b<d.length):Pure prog 327 [.ip (up x d),.agg (uI m),.agg (yx r1),.agg (yx r2)] (I (XI x d m r1 r2)):=by
 have l1:=ZbF x d r1 hx hd' hr1;have l2:=ZbF x d r2 hx hd' hr2;have b1:=ZfH hx hd' hr1;have b2:=ZfH hx hd' hr2;obtain⟨sms,hsms⟩:∃sms,sms=d.map (j5 x):=⟨_,rfl⟩;have hml:sms.length=d.length:=by rw[hsms];simp
 rw[show up x d=JK x d sms from by rw[hsms]]at l1 l2 ⊢;have hdn:=hd'.n;obtain⟨ta,tda,tfa,a1,hga,-,fa⟩:=Vm hsms ha;obtain⟨tb,tdb,tfb,c1,hgb,-,fb⟩:=Vm hsms hb;have wa:=XF hx (ta.map (·.c));have wb:=XF hx (tb.map (·.c));rw[List.length_map]at wa wb;have hta:=hd'.t ta (Ab a1);have htb:=hd'.t tb (Ab c1);have hdef:XI x d m r1 r2=x8 x d r1-yE x (ta.map (·.c))+(if m.a=m.b then 0 else x8 x d r2-yE x (tb.map (·.c))):=by unfold XI;rw[hga,hgb]
 rw[hdef];clear hdef;simp only[j5]at fa fb;generalize x8 x d r1=k1 at *;generalize x8 x d r2=k2 at *;generalize yE x (ta.map (·.c))=wl at *;generalize yE x (tb.map (·.c))=wm at *;have ha4:4<=d.length*4-m.a*4:=DB
 have hb4:4<=d.length*4-m.b*4:=DB
 have w1:IntKind.i64.wrap (k1-wl)=k1-wl:=wr _ DB DB;have w2:IntKind.i64.wrap (k2-wm)=k2-wm:=wr _ DB DB;have w3:IntKind.i64.wrap (k1-wl+(k2-wm))=k1-wl+(k2-wm):=wr _ DB DB;have hc1:(yx r1).length=20:=rfl;have ht1:(yx r1).take 20=yx r1:=rfl;have hc2:(yx r2).length=20:=rfl;have ht2:(yx r2).take 20=yx r2:=rfl;generalize hrc1:yx r1=rc1 at *;generalize hrc2:yx r2=rc2 at *;refine zx func327 ntmps327 results327 λS nx hd=>?_
 refine DK ?_;intro v0 v1 v2;refine ze (zB (some [nx,nx+1]) (Row.pures [0,1,2,3,4,5,6,7,8,9,10,11,12,13] .done) mixed (zS hc1 ht1 fa ha ha4 (zt hml w1)) ?_);refine zP (l1) (zS hc1 ht1 fa ha ha4 (zt hml w1)) ?_
 by_cases hab:m.a=m.b
 ·have hab':(m.a:Int)=m.b:=DB
  rw[if_pos hab]
  repeat apply ze
  refine zi [] hab' ?_;refine zp (by simp[hab']) ?_;refine zk (DK ?_);exact zj (zm hd rfl (by simp[zq]))
 ·have hab':¬(m.a:Int)=m.b:=DB
  rw[if_neg hab]
  repeat apply ze
  refine zi [] hab' ?_;refine zo (by simp[hab']) ?_;refine zB (some [nx,nx+2]) (Row.pures [0,1,2,3,4,5,6,7,8,9,10,11,12,13,14,15] .done) mixed (zS hc2 ht2 fb hb hb4 (zF hml w2 w3)) ?_;refine zP (l2) (zS hc2 ht2 fb hb hb4 (zF hml w2 w3)) ?_;refine DK ?_;exact zj (zm hd rfl (by simp[zq]))
theorem ZfI(x:Inst)(d:zr)(r:Rw5)(hx:jf x)(hd':MvDay d)(hr:uo d r):Pure prog 328 [.ip (up x d),.agg (yx r)] (B (decide (Y0 d r<=x.cap/\x8 x d r<=x.len))):=by
 have l1:=ZbF x d r hx hd' hr;have l2:=ZnD x d r hd' hr;obtain⟨sms,hsms⟩:∃sms,sms=d.map (j5 x):=⟨_,rfl⟩;rw[show up x d=JK x d sms from by rw[hsms]]at l1 l2 ⊢;generalize x8 x d r=k1 at *;generalize Y0 d r=k2 at *;have hc1:(yx r).length=20:=rfl;have ht1:(yx r).take 20=yx r:=rfl;generalize hrc1:yx r=rc at *;refine zx func328 ntmps328 results328 λS nx hd=>?_
 refine DK ?_;intro v0
 by_cases h1:k2<=x.cap
 ·refine ze (zB (some [nx]) (Row.pures [0,1,2,3,4,5,6,7,8,9,10,11,12,13,14,15,16,17,18,19,20] .done) mixed (zF hc1 ht1 h1) ?_);refine zP (l2) (zF hc1 ht1 h1) ?_;refine zP (l1) (zF hc1 ht1 h1) ?_;exact zj (zm hd rfl (by simp[zq,h1]))
 ·refine ze (zB (some [nx]) (Row.pures [0,1,2,3,4,5,6,7,8,9,10,11,12,13,14,15,16,17,18,19,20] .done) mixed (zN hc1 ht1 h1 zy) ?_);refine zP (l2) (zN hc1 ht1 h1 zy) ?_;exact zj (zm hd rfl (by simp[zq,h1]))
open Go Go.Proofs
theorem Vn{α:Type}{W:Nat->List α}{n k i:Nat}{x:α}(hk:k<n)(h:(W k)[i]?=some x):((List.range n).flatMap W)[((List.range k).flatMap W).length+i]?=some x:=by
 obtain⟨m,rfl⟩:∃m,n=k+(m+1):=⟨n-k-1,by omega⟩;have hi:=(Ac.1 h).1;rw[C5,Al,Ai (CO _ _),AE,CC];simp only[AD,Av,Bs];rw[An hi];exact h
theorem Vo{α:Type}(W:Nat->List α)(k:Nat):((List.range (k+1)).flatMap W).length=((List.range k).flatMap W).length+(W k).length:=by
 rw[AT,Al,Aq];simp
def Yl(d:zr)(k a b i j:Nat):Option Mv:=if xK d ⟨k,a,b,i,j⟩=true then some ⟨k,a,b,i,j⟩ else none
def Za(d:zr)(k a b i:Nat):List Mv:=(List.range (qA d b+1)).filterMap (Yl d k a b i)
def ZH(d:zr)(k a b:Nat):List Mv:=(List.range (qA d a+1)).flatMap (Za d k a b)
def Y1(d:zr)(k a:Nat):List Mv:=(List.range d.length).flatMap (ZH d k a)
def ZI(d:zr)(k:Nat):List Mv:=(List.range d.length).flatMap (Y1 d k)
def Ym(d:zr):List Mv:=(List.range 4).flatMap (ZI d)
abbrev QP(m:Mv):List PV:=[.agg (uI m)]
theorem ZnF(d:zr)(k a b:Nat)(hdn:d.length<=1048576)(hdt:∀t∈d,t.length<=1000)(hk:k<=3)(ha:a<d.length)(hb:b<d.length):
  Vc prog 341 (λy=>[.agg [L d],.agg [I k,I a,I b,I 0,I 0],jH y]) ((ZH d k a b).map QP) (B true):=by
 refine ZeM func341 DG rfl ntmps341 (congrArg Array.toList results341) DC λy V keep nx J hJd hY A0 hA0=>?_
 obtain⟨ta,xa,a1,-,-,a0⟩:=zL rfl d a ha;obtain⟨tb,xb,b1,-,-,b0⟩:=zL rfl d b hb;have ha1:1<=d.length-a:=DB
 have hb1:1<=d.length-b:=DB
 have la:qA d a=ta.length:=by unfold qA;rw[Aa,a1];rfl
 have lb:qA d b=tb.length:=by unfold qA;rw[Aa,b1];rfl
 have hal:=hdt ta (Ab a1);have hbl:=hdt tb (Ab b1);have hall:∀t∈d,t.length<=1048576:=λt ht=>AB (hdt t ht) DH
 have hlook:=λi j (hi:i<=1048576) (hj:j<=1048576)=>Zbw d ⟨k,a,b,i,j⟩ hdn hall hk ha hb hi hj
 have hpl:ZH d k a b=(List.range (ta.length+1)).flatMap (Za d k a b):=by unfold ZH;rw[la]
 have hrow:∀i,Za d k a b i=(List.range (tb.length+1)).filterMap (Yl d k a b i):=λi=>by unfold Za;rw[lb]
 rw[hpl]at hY ⊢;clear hpl la lb;refine DK ?_;intro v0 v1
 repeat apply ze
 refine zg ?_;refine zn (jo (σ:=Nat × Int × Store) (λs'=>s'.1<=ta.length+1/\J ((List.range s'.1).flatMap (Za d k a b)).length s'.2.2) (λs'=>[(2,jH y),(3,.ptr nx v0 0),(4,.ptr (nx+1) v1 0)]) (λs'=>s'.2.2)
  (λ(i,jv,_)=>[.cells v0 39 [L d],.cells v1 339 [I k,I a,I b,I i,I jv]]) (λs'=>ta.length+1-s'.1) (zT (0,0,A0) [] (by simpa using hA0) DC rfl DC) ?_)
 rintro⟨i,jv,A⟩ ⟨hi,hJ⟩;simp only at hi hJ ⊢
 repeat apply ze
 refine zB (some [nx,nx+1]) (Row.pures [0,1,2,3,4,5,6,7,8,9,10] .done) mixed (zF a0 ha ha1) ?_;refine zz rfl (λhc=>?_) (λhc=>?_)
 ·simp at hc;have hrl:=Vo (Za d k a b) i;refine zk (ze (zn (DK ?_)));refine zn (jo (σ:=Nat × Store) (λs'=>s'.1<=tb.length+1/\J (((List.range i).flatMap (Za d k a b)).length+((List.range s'.1).filterMap (Yl d k a b i)).length) s'.2) (λs'=>[(2,jH y),(3,.ptr nx v0 0),(4,.ptr (nx+1) v1 0)]) (λs'=>s'.2)
   (λ(j,_)=>[.cells v0 39 [L d],.cells v1 339 [I k,I a,I b,I i,I j]]) (λs'=>tb.length+1-s'.1) (zT (0,A) [] (by simpa using hJ) DC rfl DC) ?_)
  clear hJ A jv;rintro⟨j,A⟩ ⟨hj,hJ⟩;simp only at hj hJ ⊢
  repeat apply ze
  refine zB (some [nx,nx+1]) (Row.pures [0,1,2,3,4,5,6,7,8,9,10] .done) mixed (zF b0 hb hb1) ?_;refine zz rfl (λhcj=>?_) (λhcj=>?_)
  ·simp at hcj;have hlk:=hlook i j DB DB;have wj:=zA j DB;refine zk (ze (zn ?_));cases hm:xK d ⟨k,a,b,i,j⟩ with
   | true =>
    have hce:Yl d k a b i j=some ⟨k,a,b,i,j⟩:=by unfold Yl;rw[if_pos hm]
    have hlo:ZF d ⟨k,a,b,i,j⟩=((yp d ⟨k,a,b,i,j⟩).1,(yp d ⟨k,a,b,i,j⟩).2,true):=by unfold ZF;rw[if_pos hm]
    rw[hlo]at hlk;have hat:=ZeO (n:=tb.length+1) DB hce;rw[<-hrow]at hat;have hat2:=Vn (W:=Za d k a b) (n:=ta.length+1) DB hat;have hy:(((List.range (ta.length+1)).flatMap (Za d k a b)).map QP)[((List.range i).flatMap (Za d k a b)).length+((List.range j).filterMap (Yl d k a b i)).length]?=some (QP ⟨k,a,b,i,j⟩):=by
     rw[Ah,hat2];rfl
    have hnx:=ZeQ hce;generalize (yp d ⟨k,a,b,i,j⟩).1=r1 at *;generalize (yp d ⟨k,a,b,i,j⟩).2=r2 at *;refine DK ?_;refine zu hlk ?_;intro v2 v3;refine ze (zi [(1,50)] trivial ?_);refine λhsuf=>Jr rfl rfl rfl (hY _ _ _ _ hy hJ) ?_
    rintro _ ⟨A',hJ',rfl⟩;refine⟨_,_,rfl,jy [(1,50)] trivial hsuf ?_⟩;refine zp rfl (zk (zg ?_));exact zv (j+1,A') [_,_] ⟨by simp;omega,by rw[hnx];exact hJ'⟩ DF DC rfl (by simp[wj];exact⟨rfl,rfl⟩)
   | false =>
    have hce:Yl d k a b i j=none:=by unfold Yl;rw[if_neg (by simp[hm])]
    have hlo:ZF d ⟨k,a,b,i,j⟩=(xl,xl,false):=by unfold ZF;rw[if_neg (by simp[hm])]
    rw[hlo]at hlk;have hnx:=ZeP hce;generalize xl=r0 at *;refine DK ?_;refine zu hlk ?_;intro v2 v3;refine ze (zi [(1,50)] zy ?_);refine zp rfl (zk (zg ?_));exact zv (j+1,A) [_,_] ⟨by simp;omega,by rw[hnx];exact hJ⟩ DF DC rfl (by simp[wj];exact⟨rfl,rfl⟩)
  ·simp at hcj;obtain rfl:j=tb.length+1:=DB
   rw[<-hrow,<-hrl]at hJ;refine zC ?_;have wi:=zA i DB;refine zg ?_;exact zv (i+1,((tb.length+1:Nat):Int),A) [] ⟨by simp;omega,hJ⟩ DF DC rfl (by simp[wi])
 ·simp at hc;obtain rfl:i=ta.length+1:=DB
  refine zC (DK ?_);exact zj (Vd (hJd _ _ hJ) DD (by simp[zq]) (by simpa using hJ))
theorem ZnG(d:zr):Pure prog 325 [.agg [L d]] (.fn (.func 339) [] [.ip [L d]]):=by
 refine zx func325 ntmps325 results325 λS nx hd=>?_
 refine DK ?_;intro v0;refine DK ?_;refine xI 0 rfl ?_;exact DL hd
theorem ZnH(d:zr)(hdn:d.length<=1000)(hdt:∀t∈d,t.length<=1000):YM prog 339 [.ip [L d]] ((Ym d).map QP):=by
 have hpl:=λk a b (hk:k<=3) (ha:a<d.length) (hb:b<d.length)=>ZnF d k a b DB hdt hk ha hb
 have hkinds:=Zfq;generalize Vj=kl at hkinds;refine Xo func339 DG rfl ntmps339 (congrArg Array.toList results339) DC λl V keep nx J hJd hY A0 hA0=>?_
 refine DK ?_;refine zu hkinds ?_;refine zn (jo (σ:=Nat × Store) (λs'=>s'.1<=4/\J ((List.range s'.1).flatMap (ZI d)).length s'.2) (λs'=>[(0,jH l),(1,.ip [L d]),(7,I s'.1)]) (λs'=>s'.2) (λ_=>[]) (λs'=>4-s'.1) (zT (0,A0) [] (by simpa using hA0) DC rfl DC) ?_);rintro⟨k,A⟩ ⟨hk,hJ⟩;simp only at hk hJ ⊢
 by_cases hk4:k<4
 ·have hk4':(k:Int)<4:=DB
  have hlA:=Vo (ZI d) k;refine ze (zi [] hk4' ?_);refine ze (zo rfl (zk (ze (zn (DK ?_)))));refine DK ?_;refine zn (jo (σ:=Nat × Store) (λs'=>s'.1<=d.length/\J (((List.range k).flatMap (ZI d)).length+((List.range s'.1).flatMap (Y1 d k)).length) s'.2) (λs'=>[(0,jH l),(1,.ip [L d]),(3,I k),(7,I k),(12,I d.length),(13,I s'.1)]) (λs'=>s'.2) (λ_=>[]) (λs'=>d.length-s'.1) (zT (0,A) [] (by simpa using hJ) DC rfl DC) ?_);clear hJ A;rintro⟨a,A⟩ ⟨ha,hJ⟩;simp only at ha hJ ⊢;refine DK ?_;refine ze (zz rfl (λhca=>?_) (λhca=>?_))
  ·simp at hca;have hlK:=Vo (Y1 d k) a;refine zk (ze (zn (DK ?_)));refine DK ?_;refine zn (jo (σ:=Nat × Store) (λs'=>s'.1<=d.length/\J (((List.range k).flatMap (ZI d)).length+((List.range a).flatMap (Y1 d k)).length+((List.range s'.1).flatMap (ZH d k a)).length) s'.2) (λs'=>[(0,jH l),(1,.ip [L d]),(3,I k),(4,I a),(7,I k),(12,I d.length),(13,I a),(18,I d.length),(19,I s'.1)]) (λs'=>s'.2) (λ_=>[]) (λs'=>d.length-s'.1) (zT (0,A) [] (by simpa using hJ) DC rfl DC) ?_);clear hJ A;rintro⟨b,A⟩ ⟨hb,hJ⟩;simp only at hb hJ ⊢;refine DK ?_;refine ze (zz rfl (λhcb=>?_) (λhcb=>?_))
   ·simp at hcb;have hw:=hpl k a b DB hca hcb;have hlP:=Vo (ZH d k a) b;have hin:∀(i:Nat) (x:List PV),((ZH d k a b).map QP)[i]?=some x->((Ym d).map QP)[((List.range k).flatMap (ZI d)).length+((List.range a).flatMap (Y1 d k)).length+((List.range b).flatMap (ZH d k a)).length+i]?=some x:=by
     intro i x hx;rw[Ah]at hx ⊢;obtain⟨m,hm,rfl⟩:=Am.1 hx;have e1:=Vn (W:=ZH d k a) (n:=d.length) hcb hm;have e2:=Vn (W:=Y1 d k) (n:=d.length) hca e1;have e3:=Vn (W:=ZI d) (n:=4) hk4 e2;rw[Nat.add_assoc,Nat.add_assoc];unfold Ym;rw[e3];rfl
    refine zk (ze (zn (DK ?_)));refine DK ?_;refine λhsuf=>((ZeN hw keep hY _ hin hJ _).mono ?_)
    rintro _ _ ⟨A',rfl,hJ',rfl⟩;rw[List.length_map,Nat.add_assoc,<-hlP]at hJ';refine⟨_,_,rfl,zQ hsuf ?_⟩;refine zp rfl (zk (zg ?_));exact zv (b+1,A') [] ⟨hcb,hJ'⟩ DF (by simp[zA b (by omega)]) rfl DC
   ·simp at hcb;obtain rfl:b=d.length:=DB
    refine zC ?_;have hJ2:J (((List.range k).flatMap (ZI d)).length+((List.range (a+1)).flatMap (Y1 d k)).length) A:=by rw[hlK,<-Nat.add_assoc];exact hJ
    refine zg ?_;exact zv (a+1,A) [] ⟨hca,hJ2⟩ DF (by simp[zA a (by omega)]) rfl DC
  ·simp at hca;obtain rfl:a=d.length:=DB
   refine zC ?_;have hJ2:J ((List.range (k+1)).flatMap (ZI d)).length A:=by rw[hlA];exact hJ
   refine zg ?_;exact zv (k+1,A) [] ⟨hk4,hJ2⟩ DF (by simp[zA k (by omega)]) rfl DC
 ·obtain rfl:k=4:=DB
  refine DK ?_;refine ze (zp rfl (zC (uD (hJd _ _ hJ) rfl ?_)));rw[List.length_map];exact hJ
open Go Go.Proofs
theorem QQ{d:zr}{m:Mv}(h:xK d m=true):m.k<=3/\m.a<d.length/\m.b<d.length/\uo d (yp d m).1/\uo d (yp d m).2:=by
 unfold xK at h;rw[Ao]at h;obtain⟨h1,h2⟩:=h;have h1:=of_decide_eq_true h1;refine⟨h1.1,h1.2.1,h1.2.2,?_⟩;unfold vg at h2;unfold yp xn;have e0:=Znj d;have key:∀p:Pc,JF d p<->(p.f<p.o->p.t<d.length/\p.o<=qA d p.t):=λ_=>Iff.rfl
 by_cases k0:m.k=0
 ·rw[if_pos k0]at h2 ⊢;have h2:=of_decide_eq_true h2;refine⟨?_,e0⟩;intro p hp;simp only[Rw5.l,Aw,BK,or_false]at hp;rcases hp with rfl | rfl | rfl | rfl | rfl<;>refine(key _).2 ?_<;>simp only[yL]<;>omega
 rw[if_neg k0]at h2 ⊢
 by_cases k1:m.k=1
 ·rw[if_pos k1]at h2 ⊢;have h2:=of_decide_eq_true h2
  by_cases hab:m.a=m.b
  ·rw[if_pos hab,hab]at h2;rw[if_neg (by simp[hab])]
   by_cases hij:m.i<m.j
   ·rw[if_pos hij];refine⟨?_,e0⟩;intro p hp;simp only[Rw5.l,Aw,BK,or_false]at hp;rcases hp with rfl | rfl | rfl | rfl | rfl<;>refine(key _).2 ?_<;>simp only[yL]<;>(try rw[hab])<;>omega
   ·rw[if_neg hij];refine⟨?_,e0⟩;intro p hp;simp only[Rw5.l,Aw,BK,or_false]at hp;rcases hp with rfl | rfl | rfl | rfl | rfl<;>refine(key _).2 ?_<;>simp only[yL]<;>(try rw[hab])<;>omega
  ·rw[if_neg hab]at h2;rw[if_pos hab];constructor<;>intro p hp<;>simp only[Rw5.l,Aw,BK,or_false]at hp<;>rcases hp with rfl | rfl | rfl | rfl | rfl<;>refine(key _).2 ?_<;>simp only[yL]<;>omega
 rw[if_neg k1]at h2 ⊢
 by_cases k2:m.k=2
 ·rw[if_pos k2]at h2 ⊢;have h2:=of_decide_eq_true h2
  by_cases hab:m.a=m.b
  ·rw[if_pos hab];rw[hab]at h2;refine⟨?_,e0⟩;intro p hp;simp only[Rw5.l,Aw,BK,or_false]at hp;rcases hp with rfl | rfl | rfl | rfl | rfl<;>refine(key _).2 ?_<;>simp only[yL,hab]<;>omega
  ·rw[if_neg hab];constructor<;>intro p hp<;>simp only[Rw5.l,Aw,BK,or_false]at hp<;>rcases hp with rfl | rfl | rfl | rfl | rfl<;>refine(key _).2 ?_<;>simp only[yL]<;>omega
 rw[if_neg k2]at h2 ⊢;have h2:=of_decide_eq_true h2;constructor<;>intro p hp<;>simp only[Rw5.l,Aw,BK,or_false]at hp<;>rcases hp with rfl | rfl | rfl | rfl | rfl<;>refine(key _).2 ?_<;>simp only[yL]<;>omega
theorem ZbG{d:zr}{m:Mv}:m∈Ym d->xK d m=true/\m.i<=qA d m.a/\m.j<=qA d m.b:=by
 unfold Ym ZI Y1 ZH Za Yl;intro h;simp only[BY,AH,B7]at h;obtain⟨k,hk,a,ha,b,hb,i,hi,j,hj,h⟩:=h;split at h
 ·rename_i hm;cases h;exact⟨hm,by simp only;omega,by simp only;omega⟩
 ·cases h
def JN:Mv:=⟨0,0,0,0,0⟩
def wK(x:Inst)(d:zr)(r:Rw5):Prop:=Y0 d r<=x.cap/\x8 x d r<=x.len
instance (x:Inst) (d:zr) (r:Rw5):Decidable (wK x d r):=by unfold wK;infer_instance
def Y2(x:Inst)(d:zr)(m:Mv):Int:=XI x d m (yp d m).1 (yp d m).2
def Y3(x:Inst)(d:zr)(st:Mv × Int)(m:Mv):Mv × Int:=if Y2 x d m<st.2/\wK x d (yp d m).1/\wK x d (yp d m).2 then (m,Y2 x d m) else st
def vj(x:Inst)(d:zr):Mv × Int:=(Ym d).foldl (Y3 x d) (JN,0)
theorem ZnI(x:Inst)(d:zr)(hx:jf x)(hd':MvDay d):Pure prog 291 [.agg (zD x),.agg [L d]] (.tup [.agg (uI (vj x d).1),I (vj x d).2,B (decide ((vj x d).2<0))]):=by
 have hdn:=hd'.n;have hit:=ZnH d hdn hd'.t;have hread:=Znz x d hx hd';have hfacts:∀m∈Ym d,Pure prog 326 [.agg [L d],.agg (uI m)] (.tup [.agg (yx (yp d m).1),.agg (yx (yp d m).2),B true])/\Pure prog 327 [.ip (up x d),.agg (uI m),.agg (yx (yp d m).1),.agg (yx (yp d m).2)] (I (Y2 x d m)) /\
   Pure prog 328 [.ip (up x d),.agg (yx (yp d m).1)] (B (decide (wK x d (yp d m).1)))/\Pure prog 328 [.ip (up x d),.agg (yx (yp d m).2)] (B (decide (wK x d (yp d m).2))):=by
  intro m hm;obtain⟨h1,h2,h3⟩:=ZbG hm;obtain⟨hk,ha,hb,r1,r2⟩:=QQ h1;have hl:∀a,qA d a<=1000:=by
   intro a;unfold qA;rw[Aa];cases hq:d[a]? with
   | none=>simp
   | some l=>exact hd'.t l (Ab hq)
  have hla:=hl m.a;have hlb:=hl m.b;have hlk:=Zbw d m DB (λt ht=>AB (hd'.t t ht) DH) hk ha hb DB DB;unfold ZF at hlk;rw[if_pos h1]at hlk;exact⟨hlk,ZnE x d m _ _ hx hd' r1 r2 ha hb,ZfI x d _ hx hd' r1,ZfI x d _ hx hd' r2⟩
 unfold vj;generalize Ym d=xs at *;generalize up x d=rd at *;have hea:=ZnG d;refine zx func291 ntmps291 results291 λS nx hd=>?_
 refine DK ?_;intro v0 v1 v2;refine DK ?_;refine zu hread ?_;intro v3;refine DK ?_;intro v4 v5
 repeat apply ze
 refine zg ?_;refine zu hea ?_;refine zn (Js (xs:=xs.map QP) (σ:=Mv × Int) (λi st=>st=(xs.take i).foldl (Y3 x d) (JN,0)) [(2,.ptr nx v0 0),(3,.ptr (nx+1) v1 0),(4,.ptr (nx+2) v2 0),(7,.ptr (nx+3) v3 0),(8,.ptr (nx+4) v4 0),(9,.ptr (nx+5) v5 0)] (λ_=>S)
  (λ(b,least)=>[.cells v0 25 (zD x),.cells v1 39 [L d],.cells v2 339 [I 0,I 0,I 0,I 0,I 0],.cells v3 363 [.ip rd],.cells v4 339 (uI b),.cells v5 3 [I least]]) (JN,0)
  hit rfl (by intro x hx;obtain⟨y,_,rfl⟩:=Ar.1 hx;rfl) DH DC DC rfl (by simp[JN]) (by simp[JN]) ?_ ?_)
 ·rintro l i ⟨b,least⟩ more y hst hy;simp only at hst ⊢;rw[Ah]at hy;obtain⟨m,hm,rfl⟩:=Am.1 hy;have hsucc:=Zbr (f:=Y3 x d) (b:=(JN,0)) hm;rw[<-hst]at hsucc;obtain⟨f1,f2,f3,f4⟩:=hfacts m (Ab hm);unfold Y3 at hsucc;simp only at hsucc;generalize (yp d m).1=r1 at *;generalize (yp d m).2=r2 at *;generalize Y2 x d m=by_ at *;refine zg ?_;intro v6;refine zn (DK ?_);refine zu f1 ?_;intro v7 v8;refine DK ?_;refine zu f2 ?_
  by_cases hlt:by_<least
  ·refine ze (zi [(3,37),(8,42)] hlt ?_);refine qP [(3,37),(8,42)] f3 hlt ?_
   by_cases hf1:wK x d r1
   ·rw[decide_eq_true hf1];refine qP [(3,37),(8,42)] f4 hlt ?_
    by_cases hf2:wK x d r2
    ·rw[if_pos ⟨hlt,hf1,hf2⟩]at hsucc;refine zo (by simp[hf2]) ?_;refine zg ?_;simp only[jx];exact wB (m,by_) [_,_,_] hsucc.symm rfl (by simp;exact⟨rfl,rfl,rfl⟩)
    ·rw[if_neg λe=>hf2 e.2.2]at hsucc;refine zp (by simp[hf2]) ?_;refine zk ?_;simp only[jx];exact wB (b,least) [_,_,_] hsucc.symm rfl (by simp;exact⟨rfl,rfl,rfl⟩)
   ·rw[decide_eq_false hf1];rw[if_neg λe=>hf1 e.2.1]at hsucc;refine zp rfl (zk ?_);simp only[jx];exact wB (b,least) [_,_,_] hsucc.symm rfl (by simp;exact⟨rfl,rfl,rfl⟩)
  ·rw[if_neg λe=>hlt e.1]at hsucc;refine ze (zi [(3,37),(8,42)] (zt hlt zy) ?_);refine zp rfl (zk ?_);simp only[jx];exact wB (b,least) [_,_,_] hsucc.symm rfl (by simp;exact⟨rfl,rfl,rfl⟩)
 ·rintro⟨b,least⟩ hst;rw[Ae DC]at hst;simp only at hst ⊢;rw[<-hst];refine ze (zB (some [nx+4,nx+5]) (Row.pures [0,1,2,3] (.alt 4 (Row.pures [5,6] .done) .stop)) mixed trivial ?_);exact zj (zm hd DD (by simp[zq]))
open Go Go.Proofs
def xL(d:zr)(m:Mv)(i:Nat):zO:=if i=m.a then y8 d (yp d m).1 else if i=m.b then y8 d (yp d m).2 else d.getD i []
def jL(d:zr)(m:Mv)(i:Nat):Option zO:=if (xL d m i).length=0 then none else some (xL d m i)
def vk(d:zr)(m:Mv):zr:=(List.range d.length).filterMap (jL d m)
theorem ZfJ{d:zr}{r:Rw5}{k:Nat}(h:∀t∈d,t.length<=k):(y8 d r).length<=5*k:=by
 have h1:=λp=>Zfs (d:=d) (p:=p) h
 have a1:=h1 r.a;have a2:=h1 r.b;have a3:=h1 r.c;have a4:=h1 r.d;have a5:=h1 r.e;unfold y8 Rw5.l;simp only[Av,Cm,Aq,AF];omega
theorem ZnJ(x:Inst)(d:zr)(m:Mv)(hdn:d.length<=1000)(hdt:∀t∈d,t.length<=1000)(hm:xK d m=true)(hi:m.i<=1048576)(hj:m.j<=1048576):Pure prog 292 [.agg (zD x),.agg [L d],.agg (uI m)] (.tup [.agg [L (vk d m)],I 0]):=by
 obtain⟨hk,ha,hb,r1,r2⟩:=QQ hm;have hlk:=Zbw d m DB (λt ht=>AB (hdt t ht) DH) hk ha hb hi hj;unfold ZF at hlk;rw[if_pos hm]at hlk;have g1:=Zft d _ DB hdt r1;have g2:=Zft d _ DB hdt r2;have n1:=ZfJ (r:=(yp d m).1) hdt;have n2:=ZfJ (r:=(yp d m).2) hdt;have hmk:∀i,xL d m i=if i=m.a then y8 d (yp d m).1 else if i=m.b then y8 d (yp d m).2 else d.getD i []:=λ_=>rfl
 generalize y8 d (yp d m).1=t1 at *;generalize y8 d (yp d m).2=t2 at *;generalize (yp d m).1=c1 at *;generalize (yp d m).2=c2 at *;have hme:vk d m=(List.range d.length).filterMap (jL d m):=rfl;rw[hme];clear hme;refine zx func292 ntmps292 results292 λS nx hd=>?_
 refine DK ?_;intro v0 v1 v2 v3;refine DK ?_;refine zu hlk ?_;intro v4 v5
 repeat apply ze
 refine zg ?_;refine zp rfl (zk (DK ?_));intro v6;refine jd 6 0 42 1 rfl rfl λv7=>?_
 repeat apply ze
 refine zg ?_;refine zn (zJ (λs':Nat × Nat=>s'.1<=d.length) (λ(k,v7)=>[(4,.ptr (nx+1) v1 0),(5,.ptr (nx+2) v2 0),(6,.ptr (nx+3) v3 0),(8,.ptr (nx+4) v4 0),(9,.ptr (nx+5) v5 0),(11,.ptr (nx+6) v6 0),(26,L d),(27,I d.length),(28,I k)])
  (λ(k,v7)=>[.cells v0 25 (zD x),.cells v1 39 [L d],.cells v2 339 (uI m),.cells v3 39 [yr],.cells v4 371 (yx c1),.cells v5 371 (yx c2),.cells v6 39 [.sl (nx+7) v7 1 0 ((List.range k).filterMap (jL d m)).length],.cells v7 42 (((List.range k).filterMap (jL d m)).flatMap Enc.enc)]) (λs'=>d.length-s'.1) (0,v7) [] DC DC DC ?_)
 rintro⟨k,v7⟩ hk0;simp only at hk0 ⊢;refine DK ?_;refine ze (zz rfl (λhc=>?_) (λhc=>?_))
 ·simp at hc;obtain⟨t,tl,a1,a2,a3,e0⟩:=zL rfl d k hc;have hk1:1<=d.length-k:=DB
  have htl:=hdt t (Ab a1);have hcl:=Vb t DB;have hgk:d.getD k []=t:=by rw[Aa,a1];rfl
  have hmkk:=hmk k;have hlen:((List.range k).filterMap (jL d m)).length<=k:=by have:=Cv (jL d m) (List.range k);simpa using this
  have hnext:(List.range (k+1)).filterMap (jL d m)=(List.range k).filterMap (jL d m)++(jL d m k).toList:=by
   rw[AT,BR];simp only[List.filterMap_cons,List.filterMap_nil];cases jL d m k<;>rfl
  have hT1:jL d m k=if (xL d m k).length=0 then none else some (xL d m k):=rfl
  rw[hgk]at hmkk;have hTl:(xL d m k).length<=5000:=by rw[hmkk];(repeat' split)<;>omega
  have hof:(((List.range k).filterMap (jL d m)).flatMap Enc.enc:List PV).length=((List.range k).filterMap (jL d m)).length:=jI _;generalize (List.range k).filterMap (jL d m)=out at *;have hot:(out.flatMap Enc.enc:List PV).take out.length=out.flatMap Enc.enc:=Ae DB;have wk:=zA k DB;refine zk (ze (zn (ze (zi [] (zF e0 hc hk1) ?_))));intro v8;refine DK ?_;refine zu hcl ?_
  repeat apply ze
  refine zg ?_;refine qE (nx:=nx) (λ_:Unit=>True) (λ_=>[(4,.ptr (nx+1) v1 0),(5,.ptr (nx+2) v2 0),(6,.ptr (nx+3) v3 0),(8,.ptr (nx+4) v4 0),(9,.ptr (nx+5) v5 0),(11,.ptr (nx+6) v6 0),(14,L (xL d m k)),(26,L d),(27,I d.length),(28,I k)]) (λ_=>S)
   (λ_=>[.cells v0 25 (zD x),.cells v1 39 [L d],.cells v2 339 (uI m),.cells v3 39 [yr],.cells v4 371 (yx c1),.cells v5 371 (yx c2),.cells v6 39 [.sl (nx+7) v7 1 0 out.length],.cells v7 42 (out.flatMap Enc.enc),.cells v8 42 [L t]]) ?_ ?_
  ·refine zn ?_
   by_cases h1:k=m.a
   ·rw[if_pos h1]at hmkk;have h1':(k:Int)=m.a:=DB
    rw[hmkk];refine DK ?_;refine zo DF ?_;refine zg ?_;refine zu g1 ?_;simp only[jx];exact zT () [] trivial DC rfl DC
   ·rw[if_neg h1]at hmkk;have h1':¬(k:Int)=m.a:=DB
    refine DK ?_;refine zp DF ?_
    by_cases h2:k=m.b
    ·rw[if_pos h2]at hmkk;have h2':(k:Int)=m.b:=DB
     rw[hmkk];refine DK ?_;refine zo DF ?_;refine zg ?_;refine zu g2 ?_;simp only[jx];exact zT () [] trivial DC rfl DC
    ·rw[if_neg h2]at hmkk;have h2':¬(k:Int)=m.b:=DB
     rw[hmkk];refine DK ?_;refine zp DF ?_;refine zk ?_;simp only[jx];exact zT () [] trivial DC rfl DC
  ·rintro⟨⟩ -;generalize xL d m k=tt at *;clear hmkk hcl e0
   by_cases h0:tt.length=0
   ·have e:(jL d m k).toList=[]:=by rw[hT1,if_pos h0];rfl
    have h0':¬0<tt.length:=DB
    refine ze (zi [] h0' ?_);refine zp (by simp[h0']) ?_;refine zk (zg ?_);exact zv (k+1,v7) [_] DF DF (by simp[wk,hnext,e]) rfl (by simp[hnext,e];rfl)
   ·have e:(jL d m k).toList=[tt]:=by rw[hT1,if_neg h0];rfl
    have h0':0<tt.length:=DB
    refine ze (zi [] h0' ?_);refine zo (by simp[h0']) ?_;refine zi [] (zt hof hot) ?_;refine⟨by omega,?_⟩;refine zg ?_;exact zv (k+1,v7+1) [_] DF DF (by simp[wk,hnext,e]) rfl (by simp[hnext,e];rfl)
 ·simp at hc;obtain rfl:k=d.length:=DB
  refine zC (yb 7 rfl ?_);refine DK ?_;exact zj (zm hd DD (by simp[zq]))
open Go Go.Proofs
def QR(d:zr)(s:Stop)(t k:Nat):Nat:=((d.getD t []).take k).count s
theorem ZbH(d:zr)(s:Stop)(t:Nat):QR d s t 0=0:=by simp[QR]
theorem ZfK(d:zr)(s:Stop)(t:Nat):QR d s t (qA d t)=(d.getD t []).count s:=by simp[QR,qA]
theorem ZnK(d:zr)(s:Stop)(p:Pc):p.f<=p.o->(qt d p).count s+QR d s p.t p.f=QR d s p.t p.o:=by
 intro h;unfold qt QR;generalize d.getD p.t []=u
 by_cases hf:p.f<p.o
 ·rw[if_pos hf,show p.o=p.f+(p.o-p.f) by omega,List.take_add,List.count_append,show p.f+(p.o-p.f)-p.f=p.o-p.f by omega];cases p.b
  ·rw[cond_false];omega
  ·rw[cond_true,List.count_reverse];omega
 grind
theorem ZfL(d:zr)(s:Stop)(r:Rw5):(y8 d r).count s=(qt d r.a).count s+(qt d r.b).count s+(qt d r.c).count s+(qt d r.d).count s+(qt d r.e).count s:=by grind[y8,Rw5.l]
theorem ZnL{d:zr}{m:Mv}(h:xK d m=true)(s:Stop):(y8 d (yp d m).1).count s+(if m.a=m.b then 0 else (y8 d (yp d m).2).count s)=(d.getD m.a []).count s+(if m.a=m.b then 0 else (d.getD m.b []).count s):=by
 unfold xK at h;rw[Ao]at h;obtain⟨-,h2⟩:=h;unfold vg at h2;unfold yp xn;have e0:=ZbH d s;have ea:=ZbH d s m.a;have eb:=ZbH d s m.b;have la:=ZfK d s m.a;have lb:=ZfK d s m.b;have key:=ZnK d s;rw[ZfL,ZfL]
 grind[yL]
theorem ZnM{d:zr}{i:Nat}{u:zO}(t:zO)(h:d[i]?=some u)(s:Stop):(d.set i t).flatten.count s+u.count s=t.count s+d.flatten.count s:=by grind[List.drop_eq_getElem_cons,List.take_append_drop,List.set_eq_take_append_cons_drop]
theorem ZbI{d:zr}{i:Nat}{u:zO}(t:zO)(h:d[i]?=some u)(x:Inst):yA x (d.set i t)+yE x (u.map (·.c))=yE x (t.map (·.c))+yA x d:=by grind[List.drop_eq_getElem_cons,List.take_append_drop,yA,List.set_eq_take_append_cons_drop]
theorem ZfM(d:zr)(m:Mv):(List.range d.length).map (xL d m)=(d.set m.b (y8 d (yp d m).2)).set m.a (y8 d (yp d m).1):=by
 refine AX λi=>?_
 grind[xL]
theorem ZbJ(d:zr)(m:Mv):∀l:List Nat,(l.filterMap (jL d m)).flatten=(l.map (xL d m)).flatten/\∀x,yA x (l.filterMap (jL d m))=yA x (l.map (xL d m))
 | []=>⟨rfl,λ_=>rfl⟩
 | i :: l=>by
  obtain⟨h1,h2⟩:=ZbJ d m l;have e:jL d m i=if (xL d m i).length=0 then none else some (xL d m i):=rfl
  rw[List.filterMap_cons,e,AD]
  by_cases h:(xL d m i).length=0
  ·rw[if_pos h,Cl.1 h];refine⟨by simpa using h1,λx=>?_⟩;have:=h2 x;unfold yA at this ⊢;simpa[yE] using this
  simp_all[yA]
theorem ZnN{d:zr}{m:Mv}{t:zO}(h:t∈vk d m):t≠[]/\(t=y8 d (yp d m).1\/t=y8 d (yp d m).2\/t∈d):=by grind[vk,jL,xL]
theorem ZnO(d:zr)(m:Mv):(vk d m).length<=d.length:=by grind[vk]
theorem ZfN{d:zr}{m:Mv}(h:xK d m=true):(vk d m).flatten.Perm d.flatten:=by
 obtain⟨-,ha,hb,-,-⟩:=QQ h;refine List.perm_iff_count.2 λs=>?_
 have hc:=ZnL h s;unfold vk
 grind[ZbJ,ZfM,ZnM]
theorem ZnP{x:Inst}{d:zr}{m:Mv}(h:xK d m=true)(h0:arc x 0 0=0):yA x (vk d m)=yA x d+Y2 x d m:=by
 obtain⟨-,ha,hb,r1,r2⟩:=QQ h;unfold vk Y2 XI;rw[(ZbJ d m _).2,ZfM,ZbE r1 h0,ZbE r2 h0];obtain⟨ua,hua⟩:∃u,d[m.a]?=some u:=⟨_,Ad ha⟩;obtain⟨ub,hub⟩:∃u,d[m.b]?=some u:=⟨_,Ad hb⟩;have ga:d.getD m.a []=ua:=by rw[Aa,hua];rfl
 have gb:d.getD m.b []=ub:=by rw[Aa,hub];rfl
 rw[ga,gb];generalize y8 d (yp d m).1=t1 at *;generalize y8 d (yp d m).2=t2 at *
 by_cases hab:m.a=m.b
 ·rw[if_pos hab,<-hab,List.set_set];have:=ZbI t1 hua x;omega
 ·rw[if_neg hab];have h1:=ZbI t2 hub x;have h2:=ZbI (d:=d.set m.b t2) (i:=m.a) (u:=ua) t1 (by rw[AU (λe=>hab e.symm)];exact hua) x;omega
open Go Go.Proofs Hp
theorem ZbK(x:Inst):∀(ds:List zr) (st:zr × Int × Bool),(ds.foldl (w8 x) st).2.2=true->ds.foldl (w8 x) st=st\/(∃d∈ds,yv x d=0/\ds.foldl (w8 x) st=(d,W (yA x d),true))
 | [],st,_=>.inl rfl
 | d :: ds,st,h=>by
  rw[AY]at h ⊢;rcases ZbK x ds _ h with e | ⟨d2,h1,h2,h3⟩
  ·rw[e];unfold w8;split
   ·rename_i h0;split
    ·exact .inr ⟨d,by simp,h0,rfl⟩
    ·exact .inl rfl
   ·exact .inl rfl
  ·exact .inr ⟨d2,by simp[h1],h2,h3⟩
theorem ZnQ{x:Inst}{e:Int}{ds:List zr}(h:(w9 x e ds).2=0):e=0/\(w9 x e ds).1∈ds/\yv x (w9 x e ds).1=0:=by
 unfold w9 at h ⊢
 by_cases he:e=0
 ·rw[if_pos he]at h ⊢;cases hz:(YU x ds).2.2 with
  | false=>rw[hz]at h;cases h
  | true =>
   refine⟨he,?_⟩;rcases ZbK x ds ([],0,false) hz with q | ⟨d,h1,h2,h3⟩
   ·have:(YU x ds).2.2=false:=by unfold YU;rw[q]
    rw[this]at hz;cases hz
   ·have:YU x ds=(d,W (yA x d),true):=h3;rw[this];exact⟨h1,h2⟩
 ·rw[if_neg he]at h;exact absurd h he
open Go Go.Proofs
structure SG (x:Inst) (l:List Stop) (d:zr):Prop where
 may:∀t∈d,zV x t=0
 perm:d.flatten.Perm l
def ZfO(x:Inst)(t:zO):Prop:=(∀s∈t,jq x s=true)/\(t.map (·.c)).Nodup/\t.length<=1000
theorem ZbL{x:Inst}{t:zO}(h:zV x t=0):(∀s∈t,jq x s=true)/\t≠[]:=by simp_all[JB,qV]
theorem ZbM{x:Inst}:∀t:zO,(∀s∈t,jq x s=true)->0<=zY t/\zY t<=2147483648*(t.length:Int)
 | [],_=>by simp[zY]
 | s :: t,h=>by
  have h1:=ZbM t λs hs=>h s (by simp[hs])
  have h2:=h s DC
  grind[jq,zY]
theorem XJ{x:Inst}(hx:jf x){t:zO}(h:ZfO x t)(hn:t≠[]):zV x t=0<->zY t<=x.cap/\yE x (t.map (·.c))<=x.len:=by
 obtain⟨h1,h2,h3⟩:=h;have b1:=ZbM t h1;have b2:=XF hx (t.map (·.c))
 grind[wr,JB,qV]
theorem SG.each{x:Inst}{l:List Stop}{d:zr}(g:SG x l d):∀s∈l,jq x s=true:=by
 intro s hs;obtain⟨t,ht,hst⟩:=BE.1 (g.perm.symm.subset hs);exact(ZbL (g.may t ht)).1 s hst
section
variable {x:Inst} {l:List Stop} (h:SOk x l)
include h
theorem SG.len{d:zr}(g:SG x l d):d.flatten.length<=1000/\d.length<=1000:=by
 have h1:=Ve d λt ht=>(ZbL (g.may t ht)).2
 have h2:=g.perm.length_eq;have h3:=h.len;omega
theorem SG.tour{d:zr}(g:SG x l d){e:zr}(he:e.flatten.Perm l){t:zO}(ht:t∈e):ZfO x t:=by
 have hs:=Yf ht;have hl:=h.len;refine⟨λs q=>g.each s (he.subset (hs.subset q)),?_,?_⟩
 ·exact((he.map _).nodup_iff.2 h.nd).sublist (hs.map _)
 ·have:=hs.length_le;have:=he.length_eq;omega
theorem SG.mv{d:zr}(g:SG x l d):MvDay d:=by
 refine⟨(g.len h).2,λt ht=>(g.tour h g.perm ht).2.2,λt ht s hs=>?_⟩;have:=(g.tour h g.perm ht).1 s hs;have hc:=h.cust
 grind[jq,y9]
theorem SG.ok{d:zr}(g:SG x l d):DayOk d:=by
 have h1:=g.len h;have h2:=g.mv h;exact⟨by omega,λt ht=>AB (h2.t t ht) DH,λt ht s hs=>(h2.s t ht s hs).1⟩
end
theorem ZfP{x:Inst}{d:zr}{r:Rw5}(hr:uo d r)(h0:arc x 0 0=0):wK x d r<->zY (y8 d r)<=x.cap/\yE x ((y8 d r).map (·.c))<=x.len:=by simp_all[wK,ZbE,ZnC]
theorem ZnR{d:zr}{m:Mv}(h:xK d m=true)(hab:m.a=m.b):y8 d (yp d m).2=[]:=by
 have e0:y8 d xl=[]:=rfl
 grind[xK,vg,yp,xn]
theorem ZnS{d:zr}{m:Mv}(h:xK d m=true)(hn:y8 d (yp d m).1≠[]):y8 d (yp d m).1∈vk d m:=by
 obtain⟨-,ha,-⟩:=QQ h;refine B7.2 ⟨m.a,AH.2 ha,?_⟩
 grind[xL,jL]
theorem ZnT{d:zr}{m:Mv}(h:xK d m=true)(hab:m.a≠m.b)(hn:y8 d (yp d m).2≠[]):y8 d (yp d m).2∈vk d m:=by
 obtain⟨-,-,hb,-⟩:=QQ h;refine B7.2 ⟨m.b,AH.2 hb,?_⟩
 grind[xL,jL]
theorem ZnU{x:Inst}{l:List Stop}(h:SOk x l)(h0:arc x 0 0=0){d:zr}(g:SG x l d){m:Mv}(hm:xK d m=true):(wK x d (yp d m).1/\wK x d (yp d m).2)<->∀t∈vk d m,zV x t=0:=by
 obtain⟨-,ha,hb,r1,r2⟩:=QQ hm;have hp:(vk d m).flatten.Perm l:=(ZfN hm).trans g.perm;rw[ZfP r1 h0,ZfP r2 h0];have hz:0<=x.cap/\0<=x.len:=by
  have ht:=g.may _ (A8 ha);have hg:=g.tour h g.perm (A8 ha);have:=(XJ h.arc hg (ZbL ht).2).1 ht;have b1:=ZbM _ hg.1;have b2:=XF h.arc (d[m.a].map (·.c));omega
 have e0:zY []=0/\yE x (([]:zO).map (·.c))=0:=⟨rfl,rfl⟩;constructor
 ·rintro⟨q1,q2⟩ t ht;obtain⟨hn,h3⟩:=ZnN ht;have hg:=g.tour h hp ht;rcases h3 with rfl | rfl | h3
  ·exact(XJ h.arc hg hn).2 q1
  ·exact(XJ h.arc hg hn).2 q2
  ·exact g.may t h3
 ·intro hall;constructor
  ·by_cases hn:y8 d (yp d m).1=[]
   ·simp_all
   ·have ht:=ZnS hm hn;exact(XJ h.arc (g.tour h hp ht) hn).1 (hall _ ht)
  ·by_cases hn:y8 d (yp d m).2=[]
   ·simp_all
   ·by_cases hab:m.a=m.b
    ·simp_all[ZnR]
    ·have ht:=ZnT hm hab hn;exact(XJ h.arc (g.tour h hp ht) hn).1 (hall _ ht)
theorem ZfQ(x:Inst)(d:zr):∀(ms:List Mv) (st:Mv × Int),(ms.foldl (Y3 x d) st=st)\/(∃m∈ms,(ms.foldl (Y3 x d) st)=(m,Y2 x d m)/\wK x d (yp d m).1/\wK x d (yp d m).2)
 | [],st=>.inl rfl
 | m :: ms,st=>by
  rw[AY];rcases ZfQ x d ms (Y3 x d st m) with e | ⟨m2,h1,h2,h3⟩
  ·rw[e];unfold Y3;split
   ·rename_i hc;exact .inr ⟨m,by simp,rfl,hc.2⟩
   ·exact .inl rfl
  grind
def vO(x:Inst)(d:zr):Option zr:=if (vj x d).2<0 then some (vk d (vj x d).1) else none
theorem ZfR{x:Inst}{d:zr}(hb:(vj x d).2<0):(vj x d).1∈Ym d/\Y2 x d (vj x d).1<0/\wK x d (yp d (vj x d).1).1/\wK x d (yp d (vj x d).1).2:=by grind[ZfQ,vj]
theorem ZfS{x:Inst}{l:List Stop}(h:SOk x l)(h0:arc x 0 0=0){d e:zr}(g:SG x l d)(hs:vO x d=some e):SG x l e/\yA x e<yA x d/\e.length<=d.length:=by
 unfold vO at hs;split at hs
 ·rename_i hb;cases hs;obtain⟨h1,h2,h3⟩:=ZfR hb;have hm:=(ZbG h1).1;refine⟨⟨(ZnU h h0 g hm).1 h3,(ZfN hm).trans g.perm⟩,?_,ZnO _ _⟩
  grind[ZnP]
 ·cases hs
theorem ZfT{x:Inst}{l:List Stop}(h:SOk x l)(h0:arc x 0 0=0):Zfo x (vO x) (SG x l):=by
 intro d g;have hv:=g.mv h;have hl:∀a,qA d a<=1000:=by
  intro a;unfold qA;rw[Aa];cases hq:d[a]? with
  | none=>simp
  | some l=>exact hv.t l (Ab hq)
 have hd1:(vO x d).isSome=decide ((vj x d).2<0):=by
  unfold vO;split
  ·simp_all
  ·simp_all
 refine⟨_,_,_,_,_,_,by rw[hd1];exact ZnI x d h.arc hv,λe he=>⟨?_,(ZfS h h0 g he).1⟩⟩;unfold vO at he;split at he
 ·rename_i hb;cases he;obtain⟨h1,-,-⟩:=ZfR hb;obtain⟨h1,h2,h3⟩:=ZbG h1;have:=hl (vj x d).1.a;have:=hl (vj x d).1.b;exact ZnJ x d _ hv.n hv.t h1 DB DB
 ·cases he
theorem Vp{x:Inst}{l:List Stop}(h:SOk x l)(h0:arc x 0 0=0):∀(n:Nat) (d:zr),SG x l d->SG x l (wI (vO x) n d)/\yA x (wI (vO x) n d)<=yA x d/\(wI (vO x) n d).length<=d.length
 | 0,d,g=>⟨g,CW _,Af _⟩
 | n+1,d,g=>by
  unfold wI;cases hs:vO x d with
  | none=>simp_all
  | some e =>
   obtain⟨a,b,c⟩:=ZfS h h0 g hs;obtain⟨a',b',c'⟩:=Vp h h0 n e a
   grind
open Go Go.Proofs Hp
theorem ZfU{x:Inst}{l:List Stop}(h:xY x l=0):∀s∈l,zV x [s]=0:=by grind[xY]
theorem ZnV{x:Inst}{l:List Stop}(h:SOk x l)(hf:xY x l=0):∀t∈wF x l,zV x t=0:=by
 have key:∀(ps:List Pr) (st:zr × Int),(∀t∈st.1,t.length<=1\/zV x t=0)->∀t∈(ps.foldl (qW x) st).1,t.length<=1\/zV x t=0:=by
  intro ps
  induction ps with
  | nil=>intro st h;exact h
  | cons p ps ih =>
   intro st hst;rw[AY];refine ih _ λt ht=>?_
   unfold qW Xz at ht;generalize uG st.1 p.a=i at ht;generalize uG st.1 p.b=k at ht;generalize st.1.getD i []=a at ht;generalize st.1.getD k []=b at ht;cases hc:qr x st.2 p i k a b with
   | false=>rw[hc]at ht;exact hst t ht
   | true =>
    rw[hc]at ht;simp only[cond_true]at ht;unfold qr at hc;simp only[Ao,decide_eq_true_eq]at hc;rcases BB ht with ht | ht
    ·rcases BB ht with ht | ht
     ·exact hst t ht
     ·rw[ht];exact .inr hc.2
    ·rw[ht];exact .inl DC
 intro t ht;obtain⟨-,hp,-,hne⟩:=h.join;have hs:=Yf ht;have h1:=key (qQ x (l.map λs:Stop=>s.c)) (l.map λs=>[s],(l.length:Int)) (λt ht=>by obtain⟨s,_,rfl⟩:=Ar.1 ht;simp) t (Bi.1 ht).1;rcases h1 with h1 | h1
 ·have:=hne t ht
  match t,h1,this with
  | [s],_,_=>exact ZfU hf s (hp.subset (hs.subset DC))
 omega
theorem ZfV{x:Inst}{l:List Stop}(h:SOk x l)(hf:xY x l=0):∀d∈YZ x l,SG x l d:=by
 intro d hd;unfold YZ at hd;simp only[List.cons_append,AM,Aw]at hd;rcases hd with rfl | rfl | hd
 ·exact⟨ZnV h hf,h.join.2.1⟩
 ·refine⟨λt ht=>?_,by rw[h.apart.2.1]⟩;obtain⟨s,hs,rfl⟩:=Ar.1 ht;exact ZfU hf s hs
 ·cases hall:(jh x l).2 with
  | false=>simp_all
  | true =>
   rw[hall]at hd;simp at hd;subst hd;obtain⟨r,hp⟩:=h.regret;exact⟨((vf x _).1 r.may).1,hp hall⟩
def wL(x:Inst)(b:Int)(d:zr):zr:=wI (vO x) b.toNat d
def uq(x:Inst)(b:Int)(l:List Stop):zr × Int:=w9 x (xY x l) (ZG x (wL x b) l)
theorem ZnW{x:Inst}{l:List Stop}(h:SOk x l)(h0:arc x 0 0=0)(hf:xY x l=0){b:Int}(hb:b<=9223372036854775807):ZfA x b (wL x b) (YZ x l):=by
 intro d hd;have g:=ZfV h hf d hd;obtain⟨g2,-,-⟩:=Vp h h0 b.toNat d g;have o:=g.ok h;refine⟨⟨_,Zfp x d b (vO x) (SG x l) hb o.n o.t (λ_=>g) (ZfT h h0)⟩,g2.ok h,?_⟩;have:=(g2.len h).1
 show (wI (vO x) b.toNat d).flatten.length<=1048576
 omega
theorem ZnX{x:Inst}{l:List Stop}(h:SOk x l)(h0:arc x 0 0=0){b:Int}(hb:b<=9223372036854775807):Pure prog 249 [.agg (zD x),L l,I b] (.tup [.agg [L (uq x b l).1],I (uq x b l).2]) :=
 Znt x l b _ h λhf=>ZnW h h0 hf hb
theorem ZnY{x:Inst}{l:List Stop}(h:SOk x l)(h0:arc x 0 0=0)(hf:xY x l=0)(b:Int):∀d∈ZG x (wL x b) l,SG x l d:=by
 have hb:=ZfV h hf;have hi:=λd g=>(Vp h h0 b.toNat d g).1
 intro d hd;unfold ZG at hd;unfold YZ at hb;simp only[List.cons_append,AM,Aw]at hd hb;rcases hd with rfl | rfl | rfl | hd
 ·simp_all
 ·exact hi _ (hb _ (.inl rfl))
 ·exact hi _ (hb _ (.inr (.inl rfl)))
 ·cases hall:(jh x l).2 with
  | false=>simp_all
  | true =>
   rw[hall]at hd;simp at hd;subst hd;exact hi _ (hb _ (.inr (.inr (by rw[hall];simp))))
theorem ZfW(x:Inst):∀(ds:List zr) (st:zr × Int × Bool),(st.2.2=true->(ds.foldl (w8 x) st).2.2=true/\(ds.foldl (w8 x) st).2.1<=st.2.1)/\∀d∈ds,yv x d=0->(ds.foldl (w8 x) st).2.2=true/\(ds.foldl (w8 x) st).2.1<=W (yA x d)
 | [],st=>⟨λe=>⟨e,CW _⟩,by simp⟩
 | d :: ds,st=>by
  rw[AY];obtain⟨h1,h2⟩:=ZfW x ds (w8 x st d)
  grind[w8]
theorem ZnZ{x:Inst}{e:Int}{ds:List zr}(he:e=0){d:zr}(hd:d∈ds)(hz:yv x d=0):(w9 x e ds).2=0/\W (yA x (w9 x e ds).1)<=W (yA x d):=by
 obtain⟨h1,h2⟩:=(ZfW x ds ([],0,false)).2 d hd hz
 grind[YU,w9,ZbK]
theorem Zn0(x:Inst)(imp:zr->zr)(l:List Stop):qG l∈ZG x imp l:=by simp[ZG]
section
variable {x:Inst} {l:List Stop} (h:SOk x l) (h0:arc x 0 0=0) (b:Int)
include h h0
theorem Zn1(he:(uq x b l).2=0):xY x l=0/\yv x (uq x b l).1=0/\(uq x b l).1.flatten.Perm l/\(yv x (qG l)=0->W (yA x (uq x b l).1)<=W (yA x (qG l))):=by
 obtain⟨hf,hm,hz⟩:=ZnQ he;have g:=ZnY h h0 hf b _ hm;exact⟨hf,hz,g.perm,λq=>(ZnZ hf (Zn0 x _ l) q).2⟩
omit h0 in
end
open Go
structure Visit where
 d:Int
 q:Int
 deriving DecidableEq
instance:Inhabited Visit:=⟨⟨0,0⟩⟩
instance:Enc Visit:=⟨λs=>[I s.d,I s.q],2,λ_=>rfl,λ_=>rfl⟩
@[simp] theorem Zwt(s:Visit):Enc.enc s=[I s.d,I s.q]:=rfl
@[simp high] theorem Zwu(l:List Visit):(l.flatMap Enc.enc).length=l.length*2:=qO l
@[simp high] theorem Zwv(l:List Visit):(l.flatMap Enc.enc).take (l.length*2)=l.flatMap Enc.enc:=Yd l
def told:Nat->List zr->List (Stop × Nat)
 | _,[]=>[]
 | i,d :: ds=>d.flatten.map (·,i)++told (i+1) ds
def XK(x:Stop × Nat):List PV:=[.agg [I x.1.c,I x.1.q,I x.2]]
theorem Zn2(p:zH):Pure prog 99 [.agg [L p]] (.fn (.func 135) [] [.ip [L p]]):=by
 refine zx func99 ntmps99 results99 λS nx hd=>?_
 refine DK ?_;intro v0;refine DK ?_;refine xI 0 rfl ?_;exact DL hd
theorem Zn3(p:zH)(hp:p.length<=1048576)(hd:∀d∈p,d.length<=1048576)(ht:∀d∈p,∀t∈d,t.length<=1048576):YM prog 135 [.ip [L p]] ((told 0 p).map XK):=by
 have yieldX:∀(pre rest:List (Stop × Nat)) (x:Stop × Nat),told 0 p=pre++x :: rest->((told 0 p).map XK)[pre.length]?=some (XK x):=by
  intro pre rest x e;rw[e];simp
 refine Xo func135 DG rfl ntmps135 (congrArg Array.toList results135) DC λl V keep nx J hJd hY A0 hA0=>?_
 refine DK ?_;refine zn (jo (σ:=Nat × Store × List (Stop × Nat)) (λs=>s.1<=p.length/\J s.2.2.length s.2.1/\told 0 p=s.2.2++told s.1 (p.drop s.1)) (λs=>[(0,jH l),(10,L p),(11,I p.length),(12,I s.1)]) (λs=>s.2.1) (λs=>[]) (λs=>p.length-s.1) (zT (0,A0,[]) [] (by simp[hA0]) DC rfl DC) ?_);rintro⟨a,A,pre⟩ ⟨ha,hJ,hr⟩;simp only at ha hJ hr ⊢;refine DK ?_;refine ze (zz rfl (λhc=>?_) (λhc=>?_))
 ·simp at hc;obtain⟨d,tl,a1,a2,a3,e0⟩:=zL rfl p a hc;have hdm:=Ab a1;have hdl:=hd d hdm;rw[a2]at hr;simp only[told]at hr;refine zk (ze (zn (ze (zi [] (zt e0 hc) ?_))));intro v0;refine DK ?_;refine zn (jo (σ:=Nat × Store × List (Stop × Nat)) (λs=>s.1<=d.length/\J s.2.2.length s.2.1/\told 0 p=s.2.2++((d.drop s.1).flatten.map (·,a)++told (a+1) (p.drop (a+1)))) (λs=>[(0,jH l),(3,I a),(10,L p),(11,I p.length),(12,I a),(18,L d),(19,I d.length),(20,I s.1)]) (λs=>s.2.1) (λs=>[]) (λs=>d.length-s.1) (zT (0,A,pre) [_] (by simp[hJ,hr]) DC rfl rfl) ?_);rintro⟨b,A,pre⟩ ⟨hb,hJ,hr⟩;simp only at hb hJ hr ⊢;refine DK ?_;refine ze (zz rfl (λhc2=>?_) (λhc2=>?_))
  ·simp at hc2;obtain⟨t,tl2,b1,b2,b3,e2⟩:=zL rfl d b hc2;have htl:=ht d hdm t (Ab b1);rw[b2]at hr;simp only[BH,List.map_append,List.append_assoc]at hr;refine zk (ze (zn (ze (zi [] (zt e2 hc2) ?_))));intro v1;refine DK ?_;refine zn (jo (σ:=Nat × Store × List (Stop × Nat)) (λs=>s.1<=t.length/\J s.2.2.length s.2.1/\told 0 p=s.2.2++((t.drop s.1).map (·,a)++((d.drop (b+1)).flatten.map (·,a)++told (a+1) (p.drop (a+1))))) (λs=>[(0,jH l),(3,I a),(10,L p),(11,I p.length),(12,I a),(18,L d),(19,I d.length),(20,I b),(25,L t),(26,I t.length),(27,I s.1)]) (λs=>s.2.1) (λs=>[]) (λs=>t.length-s.1) (zT (0,A,pre) [_] (by simp[hJ,hr]) DC rfl rfl) ?_);rintro⟨j,A,pre⟩ ⟨hj,hJ,hr⟩;simp only at hj hJ hr ⊢;refine DK ?_;refine ze (zz rfl (λhc3=>?_) (λhc3=>?_))
   ·simp at hc3;obtain⟨s,tl3,c1,c2,c3,_,e3⟩:=el 2 rfl t j hc3;rw[c2]at hr;simp only[AD,List.cons_append]at hr;refine zk (ze (zn (ze (zi [] (zt e3 hc3) ?_))));intro v2;refine DK ?_;refine λhsuf=>Jr rfl rfl rfl (hY _ _ _ _ (yieldX pre _ (s,a) hr) hJ) ?_
    rintro _ ⟨A',hJ',rfl⟩;refine⟨_,_,rfl,zQ hsuf ?_⟩;refine zp rfl (zk (zg ?_));exact zv (j+1,A',pre++[(s,a)]) [_] ⟨hc3,by simpa using hJ',by simp[hr]⟩ DF (by simp[zA j (by omega)]) rfl rfl
   ·simp at hc3;have:j=t.length:=DB
    subst this;simp only[BF,Bk,AM]at hr;refine zC (zg ?_);exact zv (b+1,A,pre) [] ⟨hc2,hJ,hr⟩ DF (by simp[zA b (by omega)]) rfl DC
  ·simp at hc2;have:b=d.length:=DB
   subst this;simp only[BF,List.flatten_nil,Bk,AM]at hr;refine zC (zg ?_);exact zv (a+1,A,pre) [] ⟨hc,hJ,hr⟩ DF (by simp[zA a (by omega)]) rfl DC
 ·simp at hc;have:a=p.length:=DB
  subst this;simp only[BF,told,AF]at hr;refine zC (uD (hJd _ _ hJ) rfl ?_);simpa[hr] using hJ
open Go
def yW(c:Int)(l:List (Stop × Nat)):List Visit:=(l.filter λx=>decide (x.1.c=c)).map λx=>⟨x.2,x.1.q⟩
theorem ZfX(c:Int)(l m:List (Stop × Nat)):yW c (l++m)=yW c l++yW c m:=by simp[yW]
theorem ZfY(c:Int)(x:Stop × Nat):yW c [x]=if x.1.c=c then [⟨x.2,x.1.q⟩] else []:=by
 by_cases h:x.1.c=c<;>simp[yW,h]
theorem ZfZ(c:Int)(l:List (Stop × Nat)):(yW c l).length<=l.length:=by
 simp only[yW,List.length_map];exact Bx _ _
structure PlanOk (p:zH):Prop where
 n:p.length<=1048576
 d:∀d∈p,d.length<=1048576
 t:∀d∈p,∀t∈d,t.length<=1048576
 told:(told 0 p).length<=1048576
theorem ZbN(p:zH)(c:Int)(hp:PlanOk p):Pure prog 158 [.agg [L p],I c] (L (yW c (told 0 p))):=by
 have hlen:=hp.told;refine zx func158 ntmps158 results158 λS nx hd=>?_
 refine DK ?_;intro v0 v1;refine DK ?_;intro v2
 repeat apply ze
 refine zg ?_;refine zu (Zn2 p) ?_;refine jd 2 0 104 2 rfl rfl λv3=>?_
 refine zn (Js (xs:=(told 0 p).map XK) (σ:=List Visit × Nat) (λi s=>s.1=yW c ((told 0 p).take i)/\s.1.length<=i/\i<=(told 0 p).length) [(3,.ptr (nx+1) v1 0),(5,.ptr (nx+2) v2 0)] (λ_=>S)
  (λ(out,v3)=>[.cells v0 30 [L p],.cells v1 3 [I c],.cells v2 101 [.sl (nx+3) v3 2 0 out.length],.cells v3 104 (out.flatMap Enc.enc)]) ([],v3)
  (Zn3 p hp.n hp.d hp.t) rfl (by intro x hx;obtain⟨y,_,rfl⟩:=Ar.1 hx;rfl) DH DC ⟨by simp[yW],by simp,by simp⟩ rfl DC DC ?_ ?_)
 ·rintro l i ⟨out,v3⟩ more x ⟨ho,hl,hi⟩ hx;simp only at ho hl hi ⊢;rw[Ah]at hx;obtain⟨y,hy,rfl⟩:=Am.1 hx;obtain⟨s,d⟩:=y;obtain⟨hil,hyi⟩:=Ac.1 hy;have htk:(told 0 p).take (i+1)=(told 0 p).take i++[(s,d)]:=by rw[AO hil,hyi]
  refine xk [] DG DG λK Gc Gh hK hGc hGh X hX0 hX=>?_
  simp -implicitDefEqProofs [hX0,hX,XK]
  try clear hX0 hX X
  intro v4;refine hK _ _ _ ?_;clear hK hGc hGh;clear K Gc Gh;refine zn (DK ?_);refine zz rfl (λhc=>?_) (λhc=>?_)
  ·simp at hc;refine zg ?_;refine⟨by omega,?_⟩;simp only[jx];exact wB (out++[⟨d,s.q⟩],v3+1) [_] ⟨by rw[htk,ZfX,ZfY,if_pos hc,ho],by simp;omega,by omega⟩ rfl DD
  ·simp at hc;refine zk ?_;simp only[jx];exact wB (out,v3) [_] ⟨by rw[htk,ZfX,ZfY,if_neg hc,ho,AF],Ci hl,by omega⟩ rfl DD
 ·rintro⟨out,v3⟩ ⟨ho,hl,-⟩;simp only[List.length_map,Ag]at ho hl ⊢;refine DK ?_;refine yb 3 rfl ?_;exact zj (zm hd DD (by rw[ho];rfl))
open Go
theorem Zn4(p:zH)(c:Int)(hp:PlanOk p):Pure prog 198 [.agg [L p],I c] (L ((yW c (told 0 p)).map (·.d))):=by
 have hlen:=AB (ZfZ c (told 0 p)) hp.told;have hvis:=ZbN p c hp;generalize yW c (told 0 p)=vs at hlen hvis ⊢;refine zx func198 ntmps198 results198 λS nx hd=>?_
 refine DK ?_;intro v0;refine DK ?_;refine ze (qL 5 3 1 rfl λv1=>?_);refine DK ?_;refine zu hvis ?_;refine zn (zJ (λs:Nat × List Int × Nat=>s.1<=vs.length/\s.2.1=(vs.take s.1).map (·.d)) (λ(k,out,v1)=>[(5,.sl (nx+1) v1 1 0 out.length),(10,L vs),(11,I vs.length),(12,I k)]) (λ(k,out,v1)=>[.cells v0 30 [L p],.cells v1 3 (out.flatMap Enc.enc)]) (λs=>vs.length-s.1) (0,[],v1) [] DC DC DC ?_);rintro⟨k,out,v1⟩ ⟨hk,ho⟩;simp only at hk ho ⊢;have hol:out.length=k:=by rw[ho];simp;omega
 refine DK ?_;refine ze (zz rfl (λhc=>?_) (λhc=>?_))
 ·simp at hc;obtain⟨s,tl,a1,a2,a3,_,e0⟩:=el 2 rfl vs k hc;refine zk (ze (zn (ze (zi [] (zt e0 hc) ?_))));intro v2;refine zg ?_;refine⟨by omega,?_⟩;refine zg ?_;exact zv (k+1,out++[s.d],v1+1) [_] ⟨hc,by rw[a3,ho];simp⟩ DF (by simp[zA k (by omega)]) rfl DD
 ·simp at hc;have:k=vs.length:=DB
  subst this;rw[Ag]at ho;refine zC (DK ?_);refine yb 1 rfl ?_;exact zj (zm hd DD (by simp[ho,zq]))
def qX(n:Nat)(d:Int):Nat:=if 0<=d/\d<64 then n ||| 2 ^ d.toNat else n
theorem Vq(n:Nat)(d:Int)(hn:n<2 ^ 64):qX n d<2 ^ 64:=by
 unfold qX;split
 ·exact Nat.or_lt_two_pow hn (Cq DH DB)
 ·exact hn
def Y4(l:List Int):Nat:=l.foldl qX 0
theorem Zn5(l:List Int):Y4 l<2 ^ 64:=by
 have:∀(l:List Int) (n:Nat),n<2 ^ 64->l.foldl qX n<2 ^ 64:=by
  intro l;induction l with
  | nil=>intro n h;exact h
  | cons d l ih=>intro n h;exact ih _ (Vq n d h)
 exact this l 0 DH
theorem ZbO(d:Int):Pure prog 260 [I d] (B (decide (0<=d/\d<64))):=by
 refine zx func260 ntmps260 results260 λS nx hd=>?_
 refine DK ?_
 by_cases h1:0<=d
 ·refine ze (zi [(2,5)] h1 ?_);exact zj (zm hd DD (by simp[h1,zq]))
 ·refine ze (zi [(2,5)] (zt h1 zy) ?_);exact zj (zm hd DD (by simp[h1,zq]))
theorem Zf0(d:Nat)(h:d<64):IntKind.u64.wrap (2 ^ d)=((2 ^ d:Nat):Int):=by
 have h2:(2:Nat) ^ d<2 ^ 64:=Cq DH h;have h3:((2 ^ d:Nat):Int)<2 ^ 64:=by exact_mod_cast h2
 have h4:(2:Int) ^ d=((2 ^ d:Nat):Int):=DC
 rw[h4];generalize (2 ^ d:Nat)=m at h3 ⊢;simp only[IntKind.wrap,IntKind.bits,IntKind.signed];simp;omega
theorem Zf1(n:Nat)(d:Int)(hn:n<2 ^ 64):Pure prog 226 [U n,I d] (U (qX n d)):=by
 refine zx func226 ntmps226 results226 λS nx hd=>?_
 refine DK ?_
 repeat apply ze
 refine zg ?_;refine zu (ZbO d) ?_
 by_cases h:0<=d/\d<64
 ·repeat apply ze
  refine zp (by simp[h]) ?_;refine zk ?_;have h1:¬d<0:=DB
  have h2:min d.toNat 64=d.toNat:=DB
  have h3:=Zf0 d.toNat DB;have h4:bits BinOp.or IntKind.u64 (n:Int) (2 ^ d.toNat)=((n ||| 2 ^ d.toNat:Nat):Int):=by
   have:=bits_or_u64_nat n (2 ^ d.toNat) DB (by have:(2:Nat) ^ d.toNat<2 ^ 64:=Cq (by decide) (by omega);omega);simpa using this
  refine ze (xk [] DG DG λK Gc Gh hK hGc hGh X hX0 hX=>?_);simp -implicitDefEqProofs [hX0,hX,h1,h2,IntKind.bits,h3,h4]
  try clear hX0 hX X
  refine hK _ _ _ ?_;clear hK hGc hGh;clear K Gc Gh;exact zj (zm hd DD (by simp[qX,h,zq]))
 ·repeat apply ze
  refine zo DF ?_;refine DK ?_;exact zj (zm hd DD (by simp[qX,h,zq]))
theorem Zn6(l:List Int)(hl:l.length<=1048576):Pure prog 197 [L l] (U (Y4 l)):=by
 refine zx func197 ntmps197 results197 λS nx hd=>?_
 refine DK ?_;refine DK ?_
 repeat apply ze
 refine zg ?_;refine zn (zJ (λs:Nat × Nat=>s.1<=l.length/\s.2=Y4 (l.take s.1)) (λ(k,n)=>[(3,U n),(6,L l),(7,I l.length),(8,I k)]) (λ_=>[]) (λs=>l.length-s.1) (0,0) [] (by simp[Y4]) DC DC ?_);rintro⟨k,n⟩ ⟨hk,ho⟩;simp only at hk ho ⊢;refine DK ?_;refine ze (zz rfl (λhc=>?_) (λhc=>?_))
 ·simp at hc;obtain⟨d,tl,a1,a2,a3,e0⟩:=zL rfl l k hc;refine zk (ze (zn (ze (zi [] (zt e0 hc) ?_))));refine zg ?_;refine zu (Zf1 n d (by rw[ho];exact Zn5 _)) ?_;refine zg ?_;exact zv (k+1,qX n d) [] ⟨hc,by rw[a3,ho];simp[Y4,Bo]⟩ DF (by simp[zA k (by omega)]) rfl DC
 ·simp at hc;have:k=l.length:=DB
  subst this;rw[Ag]at ho;refine zC (DK ?_);exact zj (zm hd DD (by simp[ho,zq]))
def XL(l:List Nat)(v:Nat):Int:=if v∈l then (l.findIdx (·=v):Nat) else -1
theorem Zn7(l:List Nat)(v:Nat)(hl:l.length<=1048576):Pure prog 242 [L l,U v] (I (XL l v)):=by
 refine zx func242 ntmps242 results242 λS nx hd=>?_
 refine DK ?_
 repeat apply ze
 refine zg ?_;refine zn (zJ (λs:Nat=>s<=l.length/\v ∉ l.take s) (λk=>[(0,L l),(1,U v),(6,L l),(7,I l.length),(8,I k)]) (λ_=>[]) (λs=>l.length-s) 0 [] DC DC DC ?_);rintro k ⟨hk,ho⟩;refine DK ?_;refine ze (zz rfl (λhc=>?_) (λhc=>?_))
 ·simp at hc;obtain⟨d,tl,a1,a2,a3,e0⟩:=zL rfl l k hc;refine zk (ze (zn (DK ?_)));refine ze (zi [] (zt hc e0) ?_);refine zz rfl (λh=>?_) (λh=>?_)
  ·obtain rfl:v=d:=by simp at h;omega
   have hres:XL l v=k:=by
    have hm:=Ab a1;have:l.findIdx (·=v)=k:=by
     rw[List.findIdx_eq DB];obtain⟨q1,q2⟩:=Ac.1 a1;refine⟨by simp[q2],λj hj=>?_⟩;simp only[decide_eq_false_iff_not];intro e;apply ho;rw[List.mem_take_iff_getElem];exact⟨j,by omega,e⟩
    simp[XL,hm,this]
   refine DK ?_;exact zj (zm hd DD (by simp[hres,zq]))
  ·simp at h;refine zk (zg ?_);exact zv (k+1) [] ⟨hc,by rw[a3];simp;exact⟨ho,λe=>h DB⟩⟩ DB (by simp[zA k (by omega)]) rfl DC
 ·simp at hc;have:k=l.length:=DB
  subst this;rw[Ag]at ho;refine zC (DK ?_);exact zj (zm hd DD (by simp[XL,ho,zq]))
theorem Zn8(l:List Nat)(v:Nat)(hl:l.length<=1048576):Pure prog 199 [L l,U v] (B (decide (v∈l))):=by
 refine zx func199 ntmps199 results199 λS nx hd=>?_
 refine DK ?_;refine DK ?_;refine zu (Zn7 l v hl) ?_;exact zj (zm hd DD (by by_cases h:v∈l<;>simp[XL,h,zq]))
open Go
structure CustFits (c:Cust):Prop where
 rate:0<=c.rate/\c.rate<=2147483648
 size:0<=c.size/\c.size<=2147483648
 start:0<=c.start/\c.start<=2147483648
def ZJ(q:Int):Bool:=decide (q<0\/2147483648<q)
def xM(size rate:Int):Int->List Int->Option (List Int)
 | _,[]=>some []
 | there,q :: l=>if size<there+q\/there+q<rate then none else (xM size rate (there+q-rate) l).map ((there+q-rate) :: ·)
def jA(c:Cust)(q:List Int):List Int × Int :=
 if q.any ZJ then ([],1) else match xM c.size c.rate c.start q with
 | none=>([],8)
 | some l=>(l,0)
theorem Zf2(c:Cust){S:Store}{nx:Nat}(hd:zX nx S):Spec prog 156 [.agg (yc c)] S (λp S'=>∃v,p=.fn (.func 201) [] [.ptr (nx+1) v 0,.ip (yc c)]/\S'=S.set (nx+1) (.cells v 3 [I c.start])):=by
 refine uE hd func156 ntmps156 results156 ?_;refine DK ?_;intro v0;refine DK ?_;intro v1;refine DK ?_;refine xI 0 rfl ?_;refine zj ⟨_,_,rfl,⟨v1,by simp[zq],rfl⟩,Qy (j:=1) hd DC⟩
theorem Zf3(c:Cust)(q there:Int){S:Store}{id v:Nat}(hid:S id=.cells v 3 [I there])(h1:-4611686018427387904<=there+q/\there+q<=4611686018427387904)(h2:-4611686018427387904<=there+q-c.rate/\there+q-c.rate<=4611686018427387904):
  Spec prog 201 [I q,.ptr id v 0,.ip (yc c)] S (λp S'=>p=.tup [I (there+q),I (there+q-c.rate)]/\S'=S.set id (.cells v 3 [I (there+q-c.rate)])):=by
 refine yi func201 ntmps201 results201 λnx hd=>?_
 have hlt:id<nx:=by
  rcases Be id nx with h | h
  ·exact h
  ·rw[hd id h]at hid;cases hid
 have hge:¬nx<=id:=DB
 have hE:∀obs,ext S nx obs id=.cells v 3 [I there]:=λobs=>(zE hlt).trans hid
 have hE2:∀obs x,ext (S.set id x) nx obs id=x:=λobs x=>(zE hlt).trans (q11 _ _ _)
 have hd2:∀x,zX nx (S.set id x):=λx i hi=>by rw[q10 _ _ _ _ DB];exact hd i hi
 have w1:IntKind.i64.wrap (there+q)=there+q:=wr _ DB DB;have w2:IntKind.i64.wrap (there+q-c.rate)=there+q-c.rate:=wr _ DB DB;refine DK ?_;refine ze (zi [] (zt hE w1) ?_);refine ze (zi [] (zF hE hge w2) ?_);refine ze (zB none (Row.pures [0,1,2,3] .done) mixed hE2 ?_);refine zj ⟨_,_,rfl,⟨rfl,rfl⟩,zU (hd2 _)⟩
theorem Zn9{size rate there q:Int}{l:List Int}{out:List Int}{r:Option (List Int)}(h:r=(xM size rate there (q :: l)).map (out++·))(hs:¬size<there+q)(hr:¬there+q<rate):
  r=(xM size rate (there+q-rate) l).map ((out++[there+q-rate])++·):=by
 rw[h];simp only[xM,hs,hr,or_self,if_false,Option.map_map];congr 1;funext x;simp
theorem ZbP(c:Cust)(q:List Int)(hc:CustFits c)(hq:q.length<=1048576):Pure prog 113 [.agg (yc c),L q] (.tup [L (jA c q).1,I (jA c q).2]):=by
 obtain⟨hr,hsz,hst⟩:=hc;refine zx func113 ntmps113 results113 λS nx hd=>?_
 refine DK ?_;intro v0
 repeat apply ze
 refine zg ?_;refine qE (nx:=nx) (σ:=Nat) (λv0=>q.any ZJ=false) (λv0=>[(1,L q),(2,.ptr nx v0 0)]) (λ_=>S) (λv0=>[.cells v0 87 (yc c)]) ?_ ?_
 ·refine zn (zJ (λs:Nat=>s<=q.length/\(q.take s).any ZJ=false) (λk=>[(1,L q),(2,.ptr nx v0 0),(14,L q),(15,I q.length),(16,I k)]) (λ_=>[.cells v0 87 (yc c)]) (λs=>q.length-s) 0 [] DC DC DC ?_);rintro k ⟨hk,ho⟩;refine DK ?_;refine ze (zz rfl (λhc=>?_) (λhc=>?_))
  ·simp at hc;obtain⟨z,tl,a1,a2,a3,e0⟩:=zL rfl q k hc;have bad:ZJ z=true->jA c q=([],1):=λh=>by
    have:q.any ZJ=true:=by rw[B0];exact⟨z,Ab a1,h⟩
    simp[jA,this]
   refine zk (ze (zn (ze (zi [] (zt e0 hc) ?_))))
   by_cases h1:z<0
   ·refine ze (zi [(2,22)] (zt h1 zy) ?_);refine zo rfl (DK ?_);refine Zv 4 rfl ?_;exact zj (zm hd DD (by rw[bad (by simp[ZJ,h1])];rfl))
   by_cases h2:(2147483648:Int)<z
   ·refine ze (zi [(2,22)] (zt h1 h2) ?_);refine zo rfl (DK ?_);refine Zv 4 rfl ?_;exact zj (zm hd DD (by rw[bad (by simp[ZJ,h2])];rfl))
   refine ze (zi [(2,22)] (zt h1 h2) ?_);refine zp rfl (zk (zg ?_));exact zv (k+1) [] ⟨hc,by rw[a3,List.any_append,ho];simp[ZJ];omega⟩ DB (by simp[zA k (by omega)]) rfl DC
  ·simp at hc;obtain rfl:k=q.length:=DB
   rw[Ag]at ho;exact zC (zT v0 [] ho DC rfl DC)
 ·intro v0 hb;have hq0:∀z∈q,0<=z/\z<=2147483648:=by
   intro z hz;rw[CE]at hb;have:=hb z hz;simp[ZJ]at this;omega
  have hres:jA c q=match xM c.size c.rate c.start q with | none=>([],8) | some l=>(l,0):=by simp[jA,hb]
  refine DK ?_;refine λhsuf=>((Zf2 c jU).mono ?_).v
  rintro p T ⟨v1,rfl,rfl⟩;refine⟨_,_,Jq _,zQ hsuf ?_⟩;refine DK ?_;refine⟨by omega,λv2=>?_⟩;refine Zjl 3 0 rfl ?_;simp only[CZ,AR,AW,List.append_eq,List.cons_append,AM,Au,A6]
  repeat apply ze
  refine zg ?_;refine zn (zJ (λs:Nat × Int × List Int × Nat=>s.1<=q.length/\s.2.2.1.length=s.1/\(0<=s.2.1/\s.2.1<=2147483648)/\xM c.size c.rate c.start q=(xM c.size c.rate s.2.1 (q.drop s.1)).map (s.2.2.1++·))
   (λ(k,there,out,v2)=>[(2,.ptr nx v0 0),(8,.fn (.func 201) [] [.ptr (nx+2) v1 0,.ip (yc c)]),(9,.sl (nx+3) v2 1 0 out.length),(32,L q),(33,I q.length),(34,I k)])
   (λ(k,there,out,v2)=>[.cells v0 87 (yc c),.dead,.cells v1 3 [I there],.cells v2 3 (out.flatMap Enc.enc)]) (λs=>q.length-s.1) (0,c.start,[],v2) [] ?_ DC DC ?_)
  ·refine⟨by simp,by simp,hst,?_⟩;simp
  rintro⟨k,there,out,v2⟩ ⟨hk,hol,hth,ho⟩;simp only at hk hol hth ho ⊢;refine DK ?_;refine ze (zz rfl (λhc=>?_) (λhc=>?_))
  ·simp at hc;obtain⟨z,tl,a1,a2,a3,e0⟩:=zL rfl q k hc;have hz:=hq0 z (Ab a1);rw[a2]at ho;refine zk (ze (zn (ze (zi [] (zt e0 hc) ?_))));refine DK ?_;refine λhsuf=>((Zf3 c z there (id:=nx+2) (v:=v1) DC DB DB).mono ?_).v
   rintro p T ⟨rfl,rfl⟩;refine⟨_,_,yh _ DB DC,zQ hsuf ?_⟩;have bad:(c.size<there+z\/there+z<c.rate)->jA c q=([],8):=λh=>by
    rw[hres,ho];simp only[xM,if_pos h,Option.map_none]
   by_cases h1:c.size<there+z
   ·repeat apply ze
    refine zi [(4,48)] (zt h1 zy) ?_;refine zo rfl (DK ?_);refine Zv 4 rfl ?_;exact zj (zm hd DD (by rw[bad (.inl h1)];rfl))
   by_cases h2:there+z<c.rate
   ·repeat apply ze
    refine zi [(4,48)] (zt h1 h2) ?_;refine zo rfl (DK ?_);refine Zv 4 rfl ?_;exact zj (zm hd DD (by rw[bad (.inr h2)];rfl))
   repeat apply ze
   refine zi [(4,48)] (zt h1 h2) ?_;refine zp rfl (zk (zg ?_));refine⟨by omega,?_⟩;refine zg ?_;exact zv (k+1,there+z-c.rate,out++[there+z-c.rate],v2+1) [] ⟨hc,by simp[hol],by dsimp only;omega,Zn9 ho h1 h2⟩ DF (by simp[zA k (by omega)]) rfl DC
  ·simp at hc;obtain rfl:k=q.length:=DB
   rw[BF]at ho;simp only[xM,A5,AF]at ho;refine zC (DK ?_);refine yb 3 rfl ?_;exact zj (zm hd DD (by rw[hres,ho];simp[zq]))
open Go
def QS(rate size:Int):List Int->List Int->Bool
 | z :: q,n :: l=>decide (0<z/\n+rate≠size) || QS rate size q l
 | _,_=>false
def Zb(c:Cust)(q:List Int):Int :=
 if (jA c q).2≠0 then (jA c q).2 else if c.rule≠1 then 0 else if QS c.rate c.size q (jA c q).1 then 9 else 0
def QT(c:Cust)(ns:List Int):Int:=W (c.hold*W ns.sum)
theorem Zf4(l:List Int)(x:Int):(l++[x]).sum=l.sum+x:=DC
theorem ZbQ(c:Cust)(ns:List Int)(hn:ns.length<=1048576):Pure prog 115 [.agg (yc c),L ns] (I (QT c ns)):=by
 refine zx func115 ntmps115 results115 λS nx hd=>?_
 refine DK ?_;intro v0;refine DK ?_
 repeat apply ze
 refine zg ?_;refine zn (zJ (λs:Nat=>s<=ns.length) (λk=>[(2,.ptr nx v0 0),(5,I (W (ns.take k).sum)),(8,L ns),(9,I ns.length),(10,I k)]) (λ_=>[.cells v0 87 (yc c)]) (λs=>ns.length-s) 0 [] DC DC DC ?_);rintro k hk;refine DK ?_;refine ze (zz rfl (λhc=>?_) (λhc=>?_))
 ·simp at hc;obtain⟨z,tl,a1,a2,a3,e0⟩:=zL rfl ns k hc;refine zk (ze (zn (ze (zi [] (zt e0 hc) ?_))));refine zg ?_;refine zg ?_;have hw:W (W (ns.take k).sum+z)=W (ns.take (k+1)).sum:=by rw[a3,Zf4,Zw]
  exact zv (k+1) [] hc DB (by simp[zA k (by omega)];exact hw) rfl DC
 ·simp at hc;obtain rfl:k=ns.length:=DB
  rw[Ag];refine zC (DK ?_);exact DL hd
theorem Zf5(c:Cust)(q:List Int)(hc:CustFits c)(hq:q.length<=1048576):Pure prog 200 [.agg (yc c),L q] (I (Zb c q)):=by
 have hni:=ZbP c q hc hq;obtain⟨hr,hsz,hst⟩:=hc;refine zx func200 ntmps200 results200 λS nx hd=>?_
 refine DK ?_;intro v0
 repeat apply ze
 refine zg ?_;refine zu hni ?_
 by_cases he:(jA c q).2=0
 case neg =>
  refine ze (zi [] he ?_);refine zo (by simp[he]) ?_;refine DK ?_;exact zj (zm hd DD (by simp[Zb,he,zq]))
 refine ze (zi [] he ?_);refine zp (by simp[he]) ?_;refine zk ?_
 by_cases hru:c.rule=1
 case neg =>
  repeat apply ze
  refine zi [] hru ?_;refine zo (by simp[hru]) ?_;refine DK ?_;exact zj (zm hd DD (by simp[Zb,he,hru,zq]))
 repeat apply ze
 refine zi [] hru ?_;refine zp (by simp[hru]) ?_;refine zk ?_;have hres:Zb c q=if QS c.rate c.size q (jA c q).1 then 9 else 0:=by simp[Zb,he,hru]
 obtain⟨l,hl,hq0⟩:∃l,xM c.size c.rate c.start q=some l/\(jA c q).1=l/\∀z∈q,0<=z/\z<=2147483648:=by
  unfold jA at he ⊢;split at he
  ·simp at he
  ·rename_i hb;cases hrn:xM c.size c.rate c.start q with
   | none=>simp[hrn]at he
   | some l =>
    refine⟨l,rfl,by simp[hb],λz hz=>?_⟩;simp only[Bool.not_eq_true,CE]at hb;have:=hb z hz;simp[ZJ]at this;omega
 obtain⟨hl1,hq0⟩:=hq0;rw[hl1]at hres;refine DK ?_;refine λhsuf=>((Zf2 c jU).mono ?_).v
 rintro p T ⟨v1,rfl,rfl⟩;refine⟨_,_,Jq _,zQ hsuf ?_⟩
 repeat apply ze
 refine zg ?_;refine zn (zJ (λs:Nat × Int=>s.1<=q.length/\(0<=s.2/\s.2<=2147483648)/\xM c.size c.rate s.2 (q.drop s.1)=some (l.drop s.1)/\QS c.rate c.size q l=QS c.rate c.size (q.drop s.1) (l.drop s.1))
  (λ(k,there)=>[(2,.ptr nx v0 0),(7,.fn (.func 201) [] [.ptr (nx+2) v1 0,.ip (yc c)]),(26,L q),(27,I q.length),(28,I k)])
  (λ(k,there)=>[.cells v0 87 (yc c),.dead,.cells v1 3 [I there]]) (λs=>q.length-s.1) (0,c.start) [] ⟨by simp,hst,by simpa using hl,by simp⟩ DC DC ?_)
 rintro⟨k,there⟩ ⟨hk,hth,hrn,ho⟩;simp only at hk hth hrn ho ⊢;refine DK ?_;refine ze (zz rfl (λhc=>?_) (λhc=>?_))
 ·simp at hc;obtain⟨z,tl,a1,a2,a3,e0⟩:=zL rfl q k hc;have hz:=hq0 z (Ab a1);rw[a2]at hrn ho;simp only[xM]at hrn;split at hrn
  ·cases hrn
  rename_i hno;obtain⟨l2,hl2,hl3⟩:=Am.1 hrn;rw[<-hl3]at ho;simp only[QS]at ho;have hl4:l.drop (k+1)=l2:=by rw[<-List.drop_drop,<-hl3];rfl
  have hs1:there+z-c.rate+c.rate=there+z:=DB
  rw[hs1]at ho;refine zk (ze (zn (ze (zi [] (zt e0 hc) ?_))));refine DK ?_;refine λhsuf=>((Zf3 c z there (id:=nx+2) (v:=v1) DC DB DB).mono ?_).v
  rintro p T ⟨rfl,rfl⟩;refine⟨_,_,yh _ DB DC,zQ hsuf ?_⟩
  by_cases h1:0<z
  ·by_cases h2:there+z=c.size
   ·refine ze (zi [(2,40)] (zt h1 h2) ?_);refine zp (by simp[h2]) ?_;refine zk (zg ?_);exact zv (k+1,there+z-c.rate) [] ⟨hc,by dsimp only;omega,by rw[hl4];exact hl2,by rw[ho,hl4,decide_eq_false DB,Bool.false_or]⟩ DF (by simp[zA k (by omega)]) rfl (by simp[h2])
   ·refine ze (zi [(2,40)] (zt h1 h2) ?_);refine zo (by simp[h2]) ?_;refine DK ?_;exact zj (zm hd DD (by rw[hres,ho];simp[h1,h2,zq]))
  ·refine ze (zi [(2,40)] (zt h1 zy) ?_);refine zp rfl (zk (zg ?_));exact zv (k+1,there+z-c.rate) [] ⟨hc,by dsimp only;omega,by rw[hl4];exact hl2,by rw[ho,hl4,decide_eq_false DB,Bool.false_or]⟩ DF (by simp[zA k (by omega)]) rfl DC
 ·simp at hc;obtain rfl:k=q.length:=DB
  rw[BF]at ho;simp only[QS]at ho;refine zC (DK ?_);exact zj (zm hd DD (by rw[hres,ho];rfl))
def wM(a b:Int):Int:=if a+b < -9223372036854775808 then -9223372036854775808 else if 9223372036854775807<a+b then 9223372036854775807 else a+b
theorem Zoa(a b:Int)(ha:zW a)(hb:zW b):Pure prog 167 [I a,I b] (if -9223372036854775808<=a+b/\a+b<=9223372036854775807 then .tup [I (a+b),B true] else .tup [I 0,B false]):=by
 unfold zW at ha hb;refine zx func167 ntmps167 results167 λS nx hd=>?_
 refine DK ?_
 by_cases h:-9223372036854775808<=a+b/\a+b<=9223372036854775807
 ·have w1:IntKind.i64.wrap (a+b)=a+b:=wr _ h.1 h.2;refine ze (zi [] w1 ?_)
  by_cases h1:b<0
  ·have h2:a+b<a:=DB
   repeat apply ze
   refine zi [] (zt h1 h2) ?_;refine zp DC ?_;refine zk (DK ?_);exact zj (zm hd DD (by simp[h,zq]))
  ·have h2:¬a+b<a:=DB
   repeat apply ze
   refine zi [] (zt h1 h2) ?_;refine zp DC ?_;refine zk (DK ?_);exact zj (zm hd DD (by simp[h,zq]))
 ·by_cases h0:a+b < -9223372036854775808
  ·have w1:IntKind.i64.wrap (a+b)=a+b+18446744073709551616:=by rw[Ay];omega
   have h1:b<0:=DB
   have h2:¬a+b+18446744073709551616<a:=DB
   refine ze (zi [] w1 ?_)
   repeat apply ze
   refine zi [] (zt h1 h2) ?_;refine zo DC ?_;refine DK ?_;exact zj (zm hd DD (by simp only[h,if_false];rfl))
  ·have w1:IntKind.i64.wrap (a+b)=a+b-18446744073709551616:=by rw[Ay];omega
   have h1:¬b<0:=DB
   have h2:a+b-18446744073709551616<a:=DB
   refine ze (zi [] w1 ?_)
   repeat apply ze
   refine zi [] (zt h1 h2) ?_;refine zo DC ?_;refine DK ?_;exact zj (zm hd DD (by simp only[h,if_false];rfl))
theorem Vr(a b:Int)(ha:zW a)(hb:zW b):Pure prog 123 [I a,I b] (I (wM a b)):=by
 have hadd:=Zoa a b ha hb;unfold zW at ha hb;refine zx func123 ntmps123 results123 λS nx hd=>?_
 refine DK ?_
 by_cases h:-9223372036854775808<=a+b/\a+b<=9223372036854775807
 ·rw[if_pos h]at hadd;refine DK ?_;refine zu hadd ?_;refine ze (zn (DK ?_));refine zo rfl (DK ?_);exact zj (zm hd DD (by simp only[wM,zq];rw[if_neg (by omega),if_neg (by omega)]))
 ·rw[if_neg h]at hadd;refine DK ?_;refine zu hadd ?_;refine ze (zn (DK ?_));refine zp rfl (DK ?_);refine zz rfl (λh1=>?_) (λh1=>?_)
  ·simp at h1;refine DK ?_;exact zj (zm hd DD (by simp only[wM,zq];rw[if_pos (by omega)]))
  ·simp at h1;refine zk (DK ?_);exact zj (zm hd DD (by simp only[wM,zq];rw[if_neg (by omega),if_pos (by omega)]))
theorem JO(a lo hi:Int):Pure prog 80 [I a,I lo,I hi] (I (min (max a lo) hi)):=by
 have h1:xh (q8 a lo) hi=min (max a lo) hi:=by unfold xh q8;split<;>split<;>omega
 refine zx func80 ntmps80 results80 λS nx hd=>?_
 refine DK ?_;refine ze (zi [] h1 ?_);exact DL hd
def yK(v:List Visit)(n:Int):List Int:=(List.range (min (max n 0) 64).toNat).map λ(d:Nat)=>((v.filter λs=>decide (s.d=(d:Int))).map (·.q)).sum
theorem ZbR(v:List Visit)(n:Int):(yK v n).length=(min (max n 0) 64).toNat:=by simp[yK]
theorem Zob(n:Int):yK [] n=List.replicate (min (max n 0) 64).toNat 0:=by
 apply Bg
 ·simp[yK]
 ·intro i h1 h2;simp[yK]
theorem Zoc(v:List Visit)(n:Int)(s:Visit)(h:¬(0<=s.d/\s.d<((min (max n 0) 64).toNat:Int))):yK (v++[s]) n=yK v n:=by
 unfold yK;apply Bd;intro d hd;have hdl:=AH.1 hd;have:¬s.d=(d:Int):=DB
 simp[this]
theorem Zod(v:List Visit)(n:Int)(s:Visit)(d:Nat)(hs:s.d=(d:Int))(b:Int)(hb:(yK v n)[d]?=some b):yK (v++[s]) n=(yK v n).set d (b+s.q):=by
 obtain⟨hdl,hbe⟩:=Ac.1 hb;apply Bg
 ·simp[yK]
 ·intro i h1 h2;rw[CN];have hil:i<(yK v n).length:=by simpa using h2
  by_cases q:d=i
  ·subst q;rw[if_pos rfl,<-hbe];simp[yK,hs]
  ·rw[if_neg q];have:¬s.d=(i:Int):=DB
   simp[yK,this]
structure VisOk (v:List Visit):Prop where
 n:v.length<=1048576
 q:∀s∈v,0<=s.q/\s.q<=2147483648
 d:∀s∈v,zW s.d
theorem Zoe(v:List Visit)(p:Visit->Bool)(h:∀s∈v,0<=s.q/\s.q<=2147483648):0<=((v.filter p).map (·.q)).sum/\((v.filter p).map (·.q)).sum<=2147483648*v.length:=by
 induction v with
 | nil=>simp
 | cons s v ih =>
  have h1:=ih λx hx=>h x (by simp[hx])
  have h2:=h s DC;rw[B6];split
  ·simp only[AD,Ck,Au];omega
  ·simp only[Au];omega
theorem Zof{v:List Visit}(hv:∀s∈v,0<=s.q/\s.q<=2147483648)(n:Int):∀b∈yK v n,0<=b/\b<=2147483648*v.length:=by
 intro b hb;simp only[yK,Ar]at hb;obtain⟨d,_,rfl⟩:=hb;exact Zoe v _ hv
theorem Zf6(v:List Visit)(n:Int)(hv:VisOk v):Pure prog 157 [L v,I n] (L (yK v n)):=by
 have hvn:=hv.n;have hm:min (max n 0) 64=(((min (max n 0) 64).toNat:Nat):Int):=DB
 have hm64:(min (max n 0) 64).toNat<=64:=DB
 refine zx func157 ntmps157 results157 λS nx hd=>?_
 refine DK ?_;refine DK ?_;refine zu (JO n 0 64) ?_;refine⟨by omega,λv1=>?_⟩;generalize hmm:(min (max n 0) 64).toNat=m at hm hm64;have hz:=Zob n;rw[hmm]at hz
 repeat apply ze
 refine zg ?_;refine zn (zJ (λs:Nat=>s<=v.length) (λk=>[(5,.sl nx v1 1 0 m),(11,L v),(12,I v.length),(13,I k)]) (λk=>[.cells v1 3 ((yK (v.take k) n).flatMap Enc.enc)]) (λs=>v.length-s) 0 [] DC (by simp[hmm]) (by simp[hz,hmm,ZdZ]) ?_);rintro k hk;have hbl:=ZbR (v.take k) n;rw[hmm]at hbl;refine DK ?_;refine ze (zz rfl (λhc=>?_) (λhc=>?_))
 ·simp at hc;obtain⟨s,tl,a1,a2,a3,_,e0⟩:=el 2 rfl v k hc;have hsm:=Ab a1;have hsq:=hv.q s hsm;have hout:=Zoc (v.take k) n s;rw[hmm]at hout;refine zk (ze (zn (ze (zi [] (zt e0 hc) ?_))));intro v2
  by_cases h1:0<=s.d
  ·by_cases h2:s.d<(m:Int)
   ·obtain⟨d,hd⟩:=AN h1;have hdm:d<m:=DB
    obtain⟨b,tl2,b1,b2,b3,e2⟩:=zL rfl (yK (v.take k) n) d DB;have hbm:=Zof (λx hx=>hv.q x (Cf hx)) n b (Ab b1);have htl:(v.take k).length<=1048576:=DF
    have hin:=Zod (v.take k) n s d hd b b1;have hsp:=ZdY (yK (v.take k) n) d (b+s.q) DB;have hsat:wM b s.q=b+s.q:=by unfold wM;rw[if_neg DB,if_neg DB]
    have hflen:((yK (v.take k) n).flatMap Enc.enc).length=m:=by rw[je,hbl]
    refine ze (zi [(3,20)] (zt h1 h2) ?_);refine zo rfl (zB (some [nx+1]) (Row.pures [0,1,2,3,4,5,6,8,9] (.alt 7 (Row.pures [10,11] (.alt 12 (.done) .stop)) .stop)) mixed (zN hd hdm e2 hbl) ?_);refine zP (Vr b s.q (by unfold zW;omega) (by unfold zW;omega)) (yq hsat hsp hbl hdm hd) ?_;refine⟨by omega,?_⟩;refine zg ?_;exact zv (k+1) [_] hc DB (by simp[zA k (by omega)]) rfl (by rw[a3,hin];rfl)
   ·refine ze (zi [(3,20)] (zt h1 h2) ?_);refine zp rfl (zk (zg ?_));exact zv (k+1) [_] hc DB (by simp[zA k (by omega)]) rfl (by rw[a3,hout (by omega)];rfl)
  ·refine ze (zi [(3,20)] (zt h1 zy) ?_);refine zp rfl (zk (zg ?_));exact zv (k+1) [_] hc DB (by simp[zA k (by omega)]) rfl (by rw[a3,hout (by omega)];rfl)
 ·simp at hc;obtain rfl:k=v.length:=DB
  rw[Ag]at hbl ⊢;refine zC (DK ?_);refine yb 0 rfl ?_;exact zj (zm hd DD (by simp[hbl,zq]))
open Go
theorem Zog{size rate:Int}:∀{q:List Int} {there:Int} {l:List Int},xM size rate there q=some l->l.length=q.length:=by
 intro q
 induction q with
 | nil=>intro there l h;simp only[xM,Option.some.injEq]at h;subst h;rfl
 | cons z q ih =>
  intro there l h;simp only[xM]at h;split at h
  ·cases h
  ·obtain⟨l2,h2,rfl⟩:=Am.1 h;simp[ih h2]
open Go
theorem Zoh(n d:Nat):((n:Int).fdiv (2 ^ d))=((n / 2 ^ d:Nat):Int):=by
 have h:(2:Int) ^ d=((2 ^ d:Nat):Int):=DC
 rw[h,Int.fdiv_eq_ediv_of_nonneg _ (Int.natCast_nonneg _)];rfl
theorem Zoi(n:Nat)(d:Int)(hn:n<2 ^ 64):Pure prog 297 [U n,I d] (B (decide (0<=d/\d<64/\qz n d.toNat=1))):=by
 by_cases h:0<=d/\d<64
 ·have h1:¬d<0:=DB
  have h2:min d.toNat 64=d.toNat:=DB
  have hlt:n / 2 ^ d.toNat<=n:=Nat.div_le_self _ _;have h3:=Zoh n d.toNat;have hb:qz n d.toNat=n / 2 ^ d.toNat % 2:=rfl;generalize n / 2 ^ d.toNat=m at hlt h3 hb;have h4:=and_one_u64 (m:Int) DB DB;have h5:IntKind.u64.wrap (m:Int)=(m:Int):=by
   simp only[IntKind.wrap,IntKind.bits,IntKind.signed];simp;omega
  have h6:((m:Int) % 2=1)=(qz n d.toNat=1):=by rw[hb];exact propext ⟨λq=>by omega,λq=>by omega⟩
  refine zx func297 ntmps297 results297 λS nx hd=>?_
  refine DK ?_;refine ze (xk [(2,7)] DG DG λK Gc Gh hK hGc hGh X hX0 hX=>?_);simp -implicitDefEqProofs [hX0,hX]
  try clear hX0 hX X
  refine hGc _ _ _ _ _ _ _ λhsuf=>((ZbO d _).mono ?_).v
  rintro _ _ ⟨rfl,rfl⟩;refine⟨_,_,rfl,?_⟩;clear hGc hGh;clear Gc Gh;refine xH hsuf (D:=[(2,7)]) DG λGc Gh hGc hGh X hX0 hX=>?_
  simp -implicitDefEqProofs [hX0,hX,h,h1,h2,h3,h5,h4,IntKind.bits]
  try clear hX0 hX X
  refine hK _ _ _ ?_;clear hK hGc hGh;clear K Gc Gh;exact zj (zm hd DD (by simp[h,zq,h6]))
 ·refine zx func297 ntmps297 results297 λS nx hd=>?_
  refine DK ?_;refine ze (zi [(2,7)] trivial ?_);refine qP [(2,7)] (ZbO d) (zt h zy) ?_;have h7:¬(0<=d/\d<64/\qz n d.toNat=1):=λq=>h ⟨q.1,q.2.1⟩
  exact zj (zm hd DD (by simp only[h7,zq,decide_false]))
def yy(n a k:Nat):List Int:=((List.range k).filter λi=>decide (a<=i) && decide (qz n i=1)).map λ(i:Nat)=>(i:Int)
theorem Y5(n a k:Nat):(yy n a k).length<=k:=by
 simp only[yy,List.length_map];exact AB (Bx _ _) DC
theorem Zf7(n a k:Nat)(h:a<=k):yy n a (k+1)=yy n a k++(if qz n k=1 then [(k:Int)] else []):=by
 simp only[yy,AT,BX,List.map_append]
 by_cases q:qz n k=1<;>simp[q,h]
theorem ZbS(n a k:Nat)(h:k<=a):yy n a k=[]:=by
 simp only[yy,List.map_eq_nil_iff,Dm,AH];intro i hi;simp;omega
theorem Zf8(n:Nat)(d:Int)(hn:n<2 ^ 64)(hdl:d<=1000):Pure prog 296 [.fn (.func 297) [U n] [],I d] (L (yy n d.toNat 64)):=by
 have hmax:q8 d 0=((d.toNat:Nat):Int):=by unfold q8;split<;>omega
 have h64:yy n d.toNat (max d.toNat 64)=yy n d.toNat 64:=by
  by_cases q:d.toNat<=64
  ·rw[Nat.max_eq_right q]
  ·rw[Nat.max_eq_left DB,ZbS _ _ _ (Af _),ZbS _ _ _ DB]
 have ha:d.toNat<=1000:=DB
 have main:∀a:Nat,a<=1000->yy n a (max a 64)=yy n d.toNat 64->q8 d 0=(a:Int)->Pure prog 296 [.fn (.func 297) [U n] [],I d] (L (yy n d.toNat 64)):=by
  intro a ha h64 hmax;refine zx func296 ntmps296 results296 λS nx hd=>?_
  refine DK ?_;refine DK ?_;refine ze (qL 5 3 1 rfl λv1=>?_);refine ze (zi [] hmax ?_);refine zn (zJ (λs:Nat × List Int × Nat=>a<=s.1/\s.1<=max a 64/\s.2.1=yy n a s.1) (λ(k,out,v1)=>[(0,.fn (.func 297) [U n] []),(5,.sl nx v1 1 0 out.length),(6,I k)]) (λ(k,out,v1)=>[.cells v1 3 (out.flatMap Enc.enc)]) (λs=>max a 64-s.1) (a,[],v1) [] (by simp[ZbS];omega) DC DC ?_);rintro⟨k,out,v1⟩ ⟨hk0,hk,ho⟩;simp only at hk0 hk ho ⊢;have hol:out.length<=k:=by rw[ho];exact Y5 _ _ _
  repeat apply ze
  refine zg ?_;refine zz rfl (λhc=>?_) (λhc=>?_)
  ·simp at hc;have hc':k<64:=DB
   refine zk (ze (zn (DK ?_)));refine zu (Zoi n k hn) ?_;have hs:=Zf7 n a k hk0;refine zz rfl (λhb=>?_) (λhb=>?_)
   ·simp at hb;refine zg ?_;refine⟨by omega,?_⟩;refine zg ?_;exact zv (k+1,out++[(k:Int)],v1+1) [] ⟨by omega,by omega,by rw[hs,if_pos hb.2,ho]⟩ DF (by simp[zA k (by omega)]) rfl DC
   ·have hb':¬qz n k=1:=by simp at hb;exact hb DB
    refine zk (zg ?_);exact zv (k+1,out,v1) [] ⟨by omega,by omega,by rw[hs,if_neg hb',ho];simp⟩ DF (by simp[zA k (by omega)]) rfl DC
  ·simp at hc;obtain rfl:k=max a 64:=DB
   refine zC (DK ?_);refine yb 0 rfl ?_;exact zj (zm hd DD (by simp[ho,h64,zq]))
 exact main d.toNat ha h64 hmax
def wN(n:Nat)(d:Int):Int:=(yy n d.toNat 64).headD (-1)
theorem Zoj(n:Nat)(d:Int)(hn:n<2 ^ 64)(hdl:d<=1000):Pure prog 261 [U n,I d] (I (wN n d)):=by
 have hlen:=Y5 n d.toNat 64;refine zx func261 ntmps261 results261 λS nx hd=>?_
 refine DK ?_;refine DK ?_;refine zu (Zf8 n d hn hdl) ?_;unfold wN;generalize yy n d.toNat 64=l at hlen ⊢;cases l with
 | nil =>
  repeat apply ze
  refine zg ?_;refine zo rfl (DK ?_);exact DL hd
 | cons a l =>
  have h1:¬((l.length:Int)+1=0):=DB
  repeat apply ze
  refine zi [] h1 ?_;refine zp rfl (zk ?_);have h2:(0:Int)<(l.length:Int)+1:=DB
  refine ze (zi [] h2 ?_);exact DL hd
open Go
def zR(n lo hi:Int):Bool:=decide (lo<=n/\n<=hi)
theorem ur(n lo hi:Int):Pure prog 145 [I n,I lo,I hi] (B (zR n lo hi)):=by
 refine zx func145 ntmps145 results145 λS nx hd=>?_
 refine DK ?_
 by_cases h:lo<=n
 ·refine ze (zi [(3,10)] h ?_);exact zj (zm hd DD (by simp[zR,h,zq]))
 ·refine ze (zi [(3,10)] (zt h zy) ?_);exact zj (zm hd DD (by simp[zR,h,zq]))
abbrev ut(c:Cust)(days:Int):List PV:=[I c.kind,I c.demand,L c.pats,I c.rate,I c.size,I c.start,I c.rule,I c.hold,I days]
def vQ(c:Cust)(days:Int):Bool:=(c.pats.all λp=>decide (wN p days<0)) && zR c.pats.length 1 64
def xC(c:Cust):Bool:=decide (c.rate=0/\c.size=0/\c.start=0/\c.rule=0/\c.hold=0)
def vR(c:Cust):Bool:=decide (c.rule=1\/c.rule=2)
def uu(c:Cust):Bool:=decide (c.pats.length=0/\c.demand=0)
theorem Zok(c:Cust)(d:Int):Pure prog 227 [.agg (ut c d)] (B (zR c.demand 1 2147483648)):=by
 refine zx func227 ntmps227 results227 λS nx hd=>?_
 refine DK ?_;intro v0;refine DK ?_;refine zu (ur _ _ _) ?_;exact DL hd
theorem Zol(c:Cust)(d:Int):Pure prog 230 [.agg (ut c d)] (B (zR c.rate 0 2147483648)):=by
 refine zx func230 ntmps230 results230 λS nx hd=>?_
 refine DK ?_;intro v0;refine DK ?_;refine zu (ur _ _ _) ?_;exact DL hd
theorem Zom(c:Cust)(d:Int):Pure prog 231 [.agg (ut c d)] (B (zR c.size 1 2147483648)):=by
 refine zx func231 ntmps231 results231 λS nx hd=>?_
 refine DK ?_;intro v0;refine DK ?_;refine zu (ur _ _ _) ?_;exact DL hd
theorem Zon(c:Cust)(d:Int):Pure prog 232 [.agg (ut c d)] (B (zR c.start 0 c.size)):=by
 refine zx func232 ntmps232 results232 λS nx hd=>?_
 refine DK ?_;intro v0;refine DK ?_;refine zu (ur _ _ _) ?_;exact DL hd
theorem Zoo(c:Cust)(d:Int):Pure prog 234 [.agg (ut c d)] (B (zR c.hold 0 1024)):=by
 refine zx func234 ntmps234 results234 λS nx hd=>?_
 refine DK ?_;intro v0;refine DK ?_;refine zu (ur _ _ _) ?_;exact DL hd
theorem Zop(c:Cust)(d:Int):Pure prog 233 [.agg (ut c d)] (B (vR c)):=by
 refine zx func233 ntmps233 results233 λS nx hd=>?_
 refine DK ?_;intro v0
 by_cases h:c.rule=1
 ·refine ze (zi [(4,7)] (zt h zy) ?_);exact zj (zm hd DD (by simp[vR,h,zq]))
 ·refine ze (zi [(4,7)] h ?_);exact zj (zm hd DD (by simp[vR,h,zq]))
theorem Zoq(c:Cust)(d:Int):Pure prog 235 [.agg (ut c d)] (B (uu c)):=by
 refine zx func235 ntmps235 results235 λS nx hd=>?_
 refine DK ?_;intro v0
 by_cases h:c.pats=[]
 ·refine ze (zi [(5,8)] h ?_);exact zj (zm hd DD (by simp[uu,h,zq]))
 ·refine ze (zi [(5,8)] (zt h zy) ?_);exact zj (zm hd DD (by simp[uu,h,zq]))
theorem Zor(c:Cust)(d:Int):Pure prog 229 [.agg (ut c d)] (B (xC c)):=by
 refine zx func229 ntmps229 results229 λS nx hd=>?_
 refine DK ?_;intro v0
 by_cases h1:c.rate=0
 ·by_cases h2:c.size=0
  ·by_cases h3:c.start=0
   ·by_cases h4:c.rule=0
    ·refine ze (zi [(4,7),(10,13),(16,19),(22,25)] (zN h1 h2 h3 h4) ?_);exact zj (zm hd DD (by simp[xC,h1,h2,h3,h4,zq]))
    ·refine ze (zi [(4,7),(10,13),(16,19),(22,25)] (yq h1 h2 h3 h4 zy) ?_);exact zj (zm hd DD (by simp[xC,h4,zq]))
   ·refine ze (zi [(4,7),(10,13),(16,19),(22,25)] (zN h1 h2 h3 zy) ?_);exact zj (zm hd DD (by simp[xC,h3,zq]))
  ·refine ze (zi [(4,7),(10,13),(16,19),(22,25)] (zF h1 h2 zy) ?_);exact zj (zm hd DD (by simp[xC,h2,zq]))
 ·refine ze (zi [(4,7),(10,13),(16,19),(22,25)] (zt h1 zy) ?_);exact zj (zm hd DD (by simp[xC,h1,zq]))
theorem Zos(c:Cust)(d:Int)(hp:∀p∈c.pats,p<2 ^ 64)(hl:c.pats.length<=9223372036854775807)(hdl:d<=1000):Pure prog 228 [.agg (ut c d)] (B (vQ c d)):=by
 refine zx func228 ntmps228 results228 λS nx hd=>?_
 refine DK ?_;intro v0
 repeat apply ze
 refine zg ?_;refine zn (zJ (λs:Nat=>s<=c.pats.length/\∀p∈c.pats.take s,wN p d<0) (λk=>[(1,.ptr nx v0 0),(7,L c.pats),(8,I c.pats.length),(9,I k)]) (λk=>[.cells v0 207 (ut c d)]) (λs=>c.pats.length-s) 0 [] DC DC DC ?_);rintro k ⟨hk,ho⟩;simp only at hk ho ⊢;refine DK ?_;refine ze (zz rfl (λhc=>?_) (λhc=>?_))
 ·simp at hc;obtain⟨p,tl,a1,a2,a3,e0⟩:=zL rfl c.pats k hc;have hpm:=Ab a1;refine zk (ze (zn (ze (zi [] (zt e0 hc) ?_))));refine DK ?_;refine zu (Zoj p d (hp p hpm) hdl) ?_;refine zz rfl (λh=>?_) (λh=>?_)
  ·simp at h;have hres:vQ c d=false:=by
    have:(c.pats.all λp=>decide (wN p d<0))=false:=by
     rw[Bh];exact⟨p,hpm,by simp;omega⟩
    simp[vQ,this]
   refine DK ?_;exact zj (zm hd DD (by simp[hres,zq]))
  ·simp at h;refine zk (zg ?_);exact zv (k+1) [] ⟨hc,by rw[a3];intro q hq;rcases AG.1 hq with hq | hq;exact ho q hq;rw[AZ.1 hq];exact h⟩ DB (by simp[zA k (by omega)]) rfl DC
 ·simp at hc;obtain rfl:k=c.pats.length:=DB
  rw[Ag]at ho;have hres:vQ c d=zR c.pats.length 1 64:=by
   have:(c.pats.all λp=>decide (wN p d<0))=true:=by
    rw[Az];intro p hp;simpa using ho p hp
   simp[vQ,this]
  refine zC (DK ?_);refine zu (ur _ _ _) ?_;exact zj (zm hd DD (by simp[hres,zq]))
structure Must where
 f:FuncId
 b:Bool
instance:Enc Must:=⟨λm=>[.fn (.func m.f) [] []],1,λ_=>rfl,λ_=>rfl⟩
@[simp] theorem Zww(m:Must):Enc.enc m=[.fn (.func m.f) [] []]:=rfl
@[simp high] theorem Zwx(l:List Must):(l.flatMap Enc.enc).length=l.length:=(qO l).trans (B4 _)
def ZK(c:Cust)(d:Int)(k:Int):List Must :=
 if k=1 then [⟨227,zR c.demand 1 2147483648⟩,⟨228,vQ c d⟩,⟨229,xC c⟩]
 else if k=2 then [⟨230,zR c.rate 0 2147483648⟩,⟨231,zR c.size 1 2147483648⟩,⟨232,zR c.start 0 c.size⟩,
  ⟨233,vR c⟩,⟨234,zR c.hold 0 1024⟩,⟨235,uu c⟩]
 else []
theorem Zot(c:Cust)(d k:Int):Pure prog 193 [I k] (L (ZK c d k)):=by
 refine zx func193 ntmps193 results193 λS nx hd=>?_
 refine DK ?_
 repeat apply ze
 refine zg ?_;refine zn (DK ?_);refine zz rfl (λh=>?_) (λh=>?_)
 ·simp at h;subst h;refine DK ?_;exact DL hd
 ·simp at h;refine DK ?_;refine zz rfl (λh2=>?_) (λh2=>?_)
  ·simp at h2;subst h2;refine DK ?_;exact DL hd
  ·simp at h2;refine zk (DK ?_);refine Zv 2 rfl ?_;exact zj (zm hd DD (by simp[ZK,h,h2,zq]))
theorem Zou(c:Cust)(d:Int)(hp:∀p∈c.pats,p<2 ^ 64)(hl:c.pats.length<=9223372036854775807)(hdl:d<=1000):∀m∈ZK c d c.kind,Pure prog m.f [.agg (ut c d)] (B m.b):=by
 intro m hm;unfold ZK at hm;split at hm
 ·simp only[Aw,BK,or_false]at hm;rcases hm with rfl | rfl | rfl
  ·exact Zok c d
  ·exact Zos c d hp hl hdl
  ·exact Zor c d
 ·split at hm
  ·simp only[Aw,BK,or_false]at hm;rcases hm with rfl | rfl | rfl | rfl | rfl | rfl
   ·exact Zol c d
   ·exact Zom c d
   ·exact Zon c d
   ·exact Zop c d
   ·exact Zoo c d
   ·exact Zoq c d
  ·cases hm
def j6(c:Cust)(d:Int):Bool :=
 if c.kind=1 then (zR c.demand 1 2147483648 && vQ c d && xC c)
 else if c.kind=2 then (zR c.rate 0 2147483648 && zR c.size 1 2147483648 && zR c.start 0 c.size && vR c && zR c.hold 0 1024 && uu c) else false
theorem Zov(c:Cust)(d:Int):j6 c d=((ZK c d c.kind).all (·.b) && decide (0<(ZK c d c.kind).length)):=by
 unfold j6 ZK;split
 ·simp[Bool.and_assoc]
 ·split
  ·simp[Bool.and_assoc]
  ·simp
theorem Zow(c:Cust)(d:Int)(hp:∀p∈c.pats,p<2 ^ 64)(hl:c.pats.length<=9223372036854775807)(hdl:d<=1000):Pure prog 146 [.agg (ut c d)] (B (j6 c d)):=by
 have hall:=Zou c d hp hl hdl;have hmu:=Zot c d c.kind;have hln:(ZK c d c.kind).length<=6:=by unfold ZK;split;simp;split<;>simp
 rw[Zov];generalize ZK c d c.kind=ms at hall hmu hln ⊢;refine zx func146 ntmps146 results146 λS nx hd=>?_
 refine DK ?_;intro v0;refine DK ?_;refine zu hmu ?_
 repeat apply ze
 refine zg ?_;refine zn (zJ (λs:Nat=>s<=ms.length/\(ms.take s).all (·.b)=true) (λk=>[(1,.ptr nx v0 0),(3,L ms),(10,L ms),(11,I ms.length),(12,I k)]) (λk=>[.cells v0 207 (ut c d)]) (λs=>ms.length-s) 0 [] DC DC DC ?_);rintro k ⟨hk,ho⟩;simp only at hk ho ⊢;refine DK ?_;refine ze (zz rfl (λhc=>?_) (λhc=>?_))
 ·simp at hc;obtain⟨m,tl,a1,a2,a3,e0⟩:=zL rfl ms k hc;have hm:=Ab a1;refine zk (ze (zn (ze (zi [] (zt e0 hc) ?_))));refine DK ?_;refine zu (hall m hm) ?_;cases hb:m.b with
  | false =>
   have hres:ms.all (·.b)=false:=by rw[Bh];exact⟨m,hm,by simp[hb]⟩
   refine zo rfl (DK ?_);exact zj (zm hd DD (by simp only[hres,zq,Cn]))
  | true =>
   refine zp rfl (zk (zg ?_));exact zv (k+1) [] ⟨hc,by rw[a3,Bv,ho];simp[hb]⟩ DB (by simp[zA k (by omega)]) rfl DC
 ·simp at hc;obtain rfl:k=ms.length:=DB
  rw[Ag]at ho;refine zC (DK ?_);exact zj (zm hd DD (by simp[ho,zq]))
open Go
def vn(n:Nat):Nat->List (List Int)->Bool
 | _,[]=>true
 | a,row :: l=>(decide (row.length=n) && decide (row.getD a 0=0) && row.all (zR · 0 2147483648)) && vn n (a+1) l
def uJ(l:List (List Int))(n:Nat):Bool:=decide (l.length=n) && vn n 0 l
def yM(x:Inst):Bool :=
 zR x.days 1 64 && decide (x.cust.length<=2000) && zR x.veh 0 2147483648 && zR x.cap 0 2147483648 && zR x.len 0 2147483648 && x.cust.all (j6 · x.days) && uJ x.dist (x.cust.length+1)
theorem Zox(l:List (List Int))(n:Nat)(hn:n<=1048576)(hl:l.length<=9223372036854775807)(hr:∀r∈l,r.length<=9223372036854775807):Pure prog 147 [L l,I n] (B (uJ l n)):=by
 refine zx func147 ntmps147 results147 λS nx hd=>?_
 refine DK ?_
 by_cases hln:l.length=n
 ·have h1:((l.length:Int)=n):=DB
  repeat apply ze
  refine zi [] h1 ?_;refine zp DC ?_;refine zk ?_
  repeat apply ze
  refine zg ?_;refine zn (zJ (λs:Nat=>s<=l.length/\vn n 0 l=vn n s (l.drop s)) (λk=>[(0,L l),(1,I n),(13,L l),(14,I l.length),(15,I k)]) (λk=>[]) (λs=>l.length-s) 0 [] DC (by simp[h1]) DC ?_);rintro k ⟨hk,ho⟩;simp only at hk ho ⊢;refine DK ?_;refine ze (zz rfl (λhc=>?_) (λhc=>?_))
  ·simp at hc;obtain⟨row,tl,a1,a2,a3,e0⟩:=zL rfl l k hc;have hrm:=hr row (Ab a1);rw[a2]at ho;simp only[vn]at ho;refine zk (ze (zn (ze (zi [] (zt e0 hc) ?_))));have bad:(row.length=n/\row.getD k 0=0->row.all (zR · 0 2147483648)=false)->uJ l n=false:=by
    intro q;simp only[uJ,ho]
    by_cases q1:row.length=n
    ·by_cases q2:row.getD k 0=0
     ·rw[q ⟨q1,q2⟩];simp
     ·simp only[q2,decide_false,Cr,Cn]
    ·simp only[q1,decide_false,Cr,Cn]
   by_cases h2:row.length=n
   ·have h2':((row.length:Int)=n):=DB
    have h3:k<n:=DB
    obtain⟨d,tl2,b1,b2,b3,e2⟩:=zL rfl row k DB;have hd0:row.getD k 0=d:=by rw[Aa,b1];rfl
    by_cases h4:d=0
    ·repeat apply ze
     refine zi [(4,24)] (zN h2' h3 e2 h4) ?_;refine zp DC ?_;refine zk (DK ?_);refine zn (zJ (λs:Nat=>s<=row.length/\(row.take s).all (zR · 0 2147483648)=true) (λj=>[(0,L l),(1,I n),(13,L l),(14,I l.length),(15,I k),(31,L row),(32,I row.length),(33,I j)]) (λk=>[]) (λs=>row.length-s) 0 [] DC (by simp[h1,h2']) DC ?_);rintro j ⟨hj,hoj⟩
     try simp only at hj hoj ⊢
     refine DK ?_;refine ze (zz rfl (λhc2=>?_) (λhc2=>?_))
     ·simp at hc2;obtain⟨e,tl3,c1,c2,c3,e3⟩:=zL rfl row j hc2;refine zk (ze (zn (ze (zi [] (zt e3 hc2) ?_))));refine DK ?_;refine zu (ur _ _ _) ?_;cases hb:zR e 0 2147483648 with
      | false =>
       have hres:=bad (λ_=>by rw[Bh];exact⟨e,Ab c1,by simp[hb]⟩);refine zo rfl (DK ?_);exact zj (zm hd DD (by simp only[hres,zq]))
      | true =>
       refine zp rfl (zk (zg ?_));exact zv (j+1) [] ⟨hc2,by rw[c3,Bv,hoj];simp[hb]⟩ DB (by simp[zA j (by omega)]) rfl DC
     ·simp at hc2;obtain rfl:j=row.length:=DB
      rw[Ag]at hoj;refine zC (zg ?_);exact zv (k+1) [] ⟨hc,by rw[ho,hoj,hd0];simp[h2,h4]⟩ DB (by simp[zA k (by omega)]) rfl DC
    ·have hres:=bad (λq=>absurd (hd0.symm.trans q.2) h4)
     repeat apply ze
     refine zi [(4,24)] (zN h2' h3 e2 h4) ?_;refine zo (by simp[h4]) ?_;refine DK ?_;exact zj (zm hd DD (by simp only[hres,zq]))
   ·have hres:=bad (λq=>absurd q.1 h2);have h2':((row.length:Int) != (n:Int))=true:=DF
    repeat apply ze
    refine zi [(4,24)] (zt h2' zy) ?_;refine zo DC ?_;refine DK ?_;exact zj (zm hd DD (by simp only[hres,zq]))
  ·simp at hc;obtain rfl:k=l.length:=DB
   simp only[BF,vn]at ho;refine zC (DK ?_);exact zj (zm hd DD (by simp[uJ,hln,ho,zq]))
 ·have h1:¬((l.length:Int)=n):=DB
  repeat apply ze
  refine zi [] h1 ?_;refine zo (by simp[h1]) ?_;refine DK ?_;exact zj (zm hd DD (by simp[uJ,hln,zq]))
theorem Zf9(x:Inst)(hx:InstOk x):Pure prog 108 [.agg (zD x)] (I (if yM x=true then 0 else 3)):=by
 have hnc:=hx.ncust;refine zx func108 ntmps108 results108 λS nx hd=>?_
 refine DK ?_;intro v0
 by_cases hd1:zR x.days 1 64=true
 ·have hdr:1<=x.days/\x.days<=64:=by simpa[zR] using hd1
  by_cases hc2:(2000:Int)<x.cust.length
  ·repeat apply ze
   refine zi [(4,11)] trivial ?_;refine qP [(4,11)] (ur _ _ _) (zt hd1 hc2) ?_;refine zo DC ?_;refine DK ?_;exact zj (zm hd DD (by simp[yM,show ¬x.cust.length<=2000 by omega,zq]))
  ·repeat apply ze
   refine zi [(4,11)] trivial ?_;refine qP [(4,11)] (ur _ _ _) (zt hd1 hc2) ?_;refine zp DC ?_;refine zk ?_
   repeat apply ze
   refine zg ?_;refine zn (zJ (λs:Nat=>s<=3/\(1<=s->zR x.veh 0 2147483648=true)/\(2<=s->zR x.cap 0 2147483648=true)/\(3<=s->zR x.len 0 2147483648=true)) (λk=>[(1,.ptr nx v0 0),(23,.lst 3 [I x.veh,I x.cap,I x.len]),(24,I 3),(25,I k)]) (λk=>[.cells v0 25 (zD x)]) (λs=>3-s) 0 [] DC DC DC ?_);rintro k ⟨hk,i1,i2,i3⟩;simp only at hk i1 i2 i3 ⊢
   match k,hk with
   | 0,_ =>
    refine DK ?_;refine ze (zo rfl (zk (ze (zn (DK ?_)))));refine DK ?_;refine zu (ur _ _ _) ?_;cases hb:zR x.veh 0 2147483648 with
    | false =>
     refine zo rfl (DK ?_);exact zj (zm hd DD (by simp[yM,hb,zq]))
    | true =>
     refine zp rfl (zk (zg ?_));exact zv 1 [] (by simp[hb]) DC DD rfl DC
   | 1,_ =>
    refine DK ?_;refine ze (zo rfl (zk (ze (zn (DK ?_)))));refine DK ?_;refine zu (ur _ _ _) ?_;cases hb:zR x.cap 0 2147483648 with
    | false =>
     refine zo rfl (DK ?_);exact zj (zm hd DD (by simp[yM,hb,zq]))
    | true =>
     refine zp rfl (zk (zg ?_));exact zv 2 [] (by simp[hb,i1 (by omega)]) DC DD rfl DC
   | 2,_ =>
    refine DK ?_;refine ze (zo rfl (zk (ze (zn (DK ?_)))));refine DK ?_;refine zu (ur _ _ _) ?_;cases hb:zR x.len 0 2147483648 with
    | false =>
     refine zo rfl (DK ?_);exact zj (zm hd DD (by simp[yM,hb,zq]))
    | true =>
     refine zp rfl (zk (zg ?_));exact zv 3 [] (by simp[hb,i1 (by omega),i2 (by omega)]) DC DD rfl DC
   | 3,_ =>
    have q1:=i1 DB;have q2:=i2 DB;have q3:=i3 DB;refine DK ?_;refine ze (zp rfl (zC ?_))
    repeat apply ze
    refine zg ?_;refine zn (zJ (λs:Nat=>s<=x.cust.length/\(x.cust.take s).all (j6 · x.days)=true) (λk=>[(1,.ptr nx v0 0),(34,L x.cust),(35,I x.cust.length),(36,I k)]) (λk=>[.cells v0 25 (zD x)]) (λs=>x.cust.length-s) 0 [] DC DC DC ?_);rintro k ⟨hk,ho⟩
    try simp only at hk ho ⊢
    refine DK ?_;refine ze (zz rfl (λhc=>?_) (λhc=>?_))
    ·simp at hc;obtain⟨c,tl,a1,a2,a3,_,e0⟩:=el 8 rfl x.cust k hc;have hcm:=Ab a1;have hco:=hx.cust c hcm;refine zk (ze (zn (ze (zi [] (zt e0 hc) ?_))));intro v1;refine DK ?_;refine zu (Zow c x.days hco.pats hco.npats DB) ?_;cases hb:j6 c x.days with
     | false =>
      have hres:x.cust.all (j6 · x.days)=false:=by rw[Bh];exact⟨c,hcm,by simp[hb]⟩
      refine zo rfl (DK ?_);exact zj (zm hd DD (by simp[yM,hres,zq]))
     | true =>
      refine zp rfl (zk (zg ?_));exact zv (k+1) [_] ⟨hc,by rw[a3,Bv,ho];simp[hb]⟩ DB (by simp[zA k (by omega)]) rfl rfl
    ·simp at hc;obtain rfl:k=x.cust.length:=DB
     rw[Ag]at ho;have w1:=zA x.cust.length DB;refine zC ?_
     repeat apply ze
     refine zi [] w1 ?_;refine zu (Zox x.dist (x.cust.length+1) DB hx.ndist (λr hr=>(hx.dist r hr).1)) ?_;cases hb:uJ x.dist (x.cust.length+1) with
     | false =>
      refine zo rfl (DK ?_);exact zj (zm hd DD (by simp[yM,hb,zq]))
     | true =>
      refine zp rfl (zk (DK ?_));exact zj (zm hd DD (by simp[yM,hb,hd1,q1,q2,q3,ho,show x.cust.length<=2000 by omega,zq]))
 ·repeat apply ze
  refine zi [(4,11)] trivial ?_;refine qP [(4,11)] (ur _ _ _) (zt hd1 zy) ?_;refine zo DC ?_;refine DK ?_;exact zj (zm hd DD (by simp[yM,hd1,zq]))
open Go
theorem Zoy(n:Nat)(hn:n<2 ^ 64):Pure prog 187 [U n] (L (yy n 0 64)):=by
 have hl:=WY n;refine zx func187 ntmps187 results187 λS nx hd=>?_
 refine DK ?_;refine DK ?_;refine ze (qL 3 3 1 rfl λv1=>?_);refine zg ?_;refine zu (Zj0 n hn) ?_
 repeat apply ze
 refine zg ?_;refine zn (zJ (λs:Nat × List Int × Nat=>s.1<=64/\s.2.1=yy n 0 s.1) (λ(k,out,v1)=>[(3,.sl nx v1 1 0 out.length),(4,L (xB n)),(5,I k)]) (λ(k,out,v1)=>[.cells v1 3 (out.flatMap Enc.enc)]) (λs=>64-s.1) (0,[],v1) [] (by simp[yy]) DC DC ?_);rintro⟨k,out,v1⟩ ⟨hk,ho⟩;simp only at hk ho ⊢;have hol:out.length<=k:=by rw[ho];exact Y5 _ _ _
 have hs:=Zf7 n 0 k DB
 repeat apply ze
 refine zg ?_;refine zz rfl (λhc=>?_) (λhc=>?_)
 ·simp at hc;have hc':k<64:=DB
  obtain⟨b,tl,a1,a2,a3,e0⟩:=zL rfl (xB n) k DB;rw[Zj2 n k hc']at a1;cases a1;have g1:(k:Int)<64:=DB
  refine zk (ze (zn (ze (zi [] (zF e0 hl g1) ?_))));refine zz rfl (λhb=>?_) (λhb=>?_)
  ·have hb':qz n k=1:=by simp at hb;omega
   refine zg ?_;refine⟨by omega,?_⟩;refine zg ?_;exact zv (k+1,out++[(k:Int)],v1+1) [] ⟨by omega,by rw[hs,if_pos hb',ho]⟩ DF (by simp[zA k (by omega)]) rfl DC
  ·have hb':¬qz n k=1:=by simp at hb;omega
   refine zk (zg ?_);exact zv (k+1,out,v1) [] ⟨by omega,by rw[hs,if_neg hb',ho];simp⟩ DF (by simp[zA k (by omega)]) rfl DC
 ·simp at hc;obtain rfl:k=64:=DB
  refine zC (DK ?_);refine yb 0 rfl ?_;exact zj (zm hd DD (by simp[ho,zq]))
theorem Zga(n:Nat)(d:Int):yy n d.toNat 64=(yy n 0 64).filter λx=>decide (d<=x):=by
 simp only[yy,List.filter_map,List.filter_filter,Ca,decide_true,De];congr 1;apply List.filter_congr;intro i _;have:(d.toNat<=i)=(d<=(i:Int)):=propext ⟨λh=>by omega,λh=>by omega⟩;simp only[Function.comp,this]
theorem Zoz(n:Nat)(d:Int)(hn:n<2 ^ 64):Pure prog 132 [U n,I d] (I (wN n d)):=by
 have hln:=Y5 n 0 64;have hnx:wN n d=((yy n 0 64).filter λx=>decide (d<=x)).headD (-1):=by rw[wN,Zga]
 have hall:=Zoy n hn;generalize yy n 0 64=l at hln hnx hall;refine zx func132 ntmps132 results132 λS nx hd=>?_
 refine DK ?_;refine DK ?_;refine zu hall ?_
 repeat apply ze
 refine zg ?_;refine zn (zJ (λs:Nat=>s<=l.length/\wN n d=((l.drop s).filter λx=>decide (d<=x)).headD (-1)) (λk=>[(1,I d),(5,L l),(6,I k)]) (λ_=>[]) (λs=>l.length-s) 0 [] (by simp[hnx]) DC DC ?_);rintro k ⟨hk,ho⟩
 repeat apply ze
 refine zg ?_;refine zz rfl (λhc=>?_) (λhc=>?_)
 ·simp at hc;obtain⟨e,tl,a1,a2,a3,e0⟩:=zL rfl l k hc;rw[a2]at ho;refine zk (ze (zn (ze (zi [] (zt e0 hc) ?_))));refine zz rfl (λh=>?_) (λh=>?_)
  ·simp at h;refine ze (zi [] (zt e0 hc) ?_);exact zj (zm hd DD (by rw[ho];simp[h,zq]))
  ·simp at h;refine zk (zg ?_);exact zv (k+1) [] ⟨hc,by rw[ho];simp[h]⟩ DB (by simp[zA k (by omega)]) rfl DC
 ·simp at hc;obtain rfl:k=l.length:=DB
  rw[BF]at ho;refine zC (DK ?_);exact zj (zm hd DD (by rw[ho];rfl))
theorem ZbT(c:Cust)(d:Int)(h:c.kind=1):j6 c d=(zR c.demand 1 2147483648 && vQ c d && xC c):=by simp[j6,h]
theorem ZbU(c:Cust)(d:Int)(h:c.kind=2):j6 c d=(zR c.rate 0 2147483648 && zR c.size 1 2147483648 && zR c.start 0 c.size && vR c && zR c.hold 0 1024 && uu c):=by simp[j6,h]
theorem Zgb(c:Cust)(d:Int)(h:¬c.kind=1)(h2:¬c.kind=2):j6 c d=false:=by simp[j6,h,h2]
theorem ZoA(c:Cust)(d:Int)(hp:∀p∈c.pats,p<2 ^ 64)(hl:c.pats.length<=9223372036854775807):Pure prog 93 [.agg (yc c),I d] (B (j6 c d)):=by
 refine zx func93 ntmps93 results93 λS nx hd=>?_
 refine DK ?_;intro v0
 repeat apply ze
 refine zg ?_;refine zz rfl (λhk1=>?_) (λhk1=>?_)
 ·simp at hk1;rw[ZbT c d hk1]
  by_cases h1:c.demand<1
  ·repeat apply ze
   refine zi [(3,12),(8,17),(14,23),(20,29),(25,34),(30,39),(35,44),(40,49)] (zt h1 zy) ?_;refine zo rfl (DK ?_);exact zj (zm hd rfl (by simp only[zR,show ¬(1<=c.demand/\c.demand<=2147483648) by omega];rfl))
  by_cases h2:(2147483648:Int)<c.demand
  ·repeat apply ze
   refine zi [(3,12),(8,17),(14,23),(20,29),(25,34),(30,39),(35,44),(40,49)] (zF h2 h1 zy) ?_;refine zo rfl (DK ?_);exact zj (zm hd rfl (by simp only[zR,show ¬(1<=c.demand/\c.demand<=2147483648) by omega];rfl))
  by_cases h3:c.pats=[]
  ·repeat apply ze
   refine zi [(3,12),(8,17),(14,23),(20,29),(25,34),(30,39),(35,44),(40,49)] (zN h3 h1 h2 zy) ?_;refine zo rfl (DK ?_);exact zj (zm hd rfl (by simp[vQ,h3,zR,zq]))
  have h3':¬(c.pats.length:Int)<1:=by have:=BQ.2 h3;omega
  by_cases h4:(64:Int)<(c.pats.length:Int)
  ·repeat apply ze
   refine zi [(3,12),(8,17),(14,23),(20,29),(25,34),(30,39),(35,44),(40,49)] (zS h4 h1 h2 h3 h3' zy) ?_;refine zo rfl (DK ?_);exact zj (zm hd rfl (by simp[vQ,zR,zq,show ¬((c.pats.length:Int)<=64) by omega]))
  by_cases h5:c.rate=0
  case neg =>
   repeat apply ze
   refine zi [(3,12),(8,17),(14,23),(20,29),(25,34),(30,39),(35,44),(40,49)] (zS h5 h1 h2 h3 h3' (zt h4 zy)) ?_;refine zo rfl (DK ?_);exact zj (zm hd rfl (by simp[xC,h5,zq]))
  by_cases h6:c.size=0
  case neg =>
   repeat apply ze
   refine zi [(3,12),(8,17),(14,23),(20,29),(25,34),(30,39),(35,44),(40,49)] (zS h6 h1 h2 h3 h3' (zF h4 h5 zy)) ?_;refine zo rfl (DK ?_);exact zj (zm hd rfl (by simp[xC,h6,zq]))
  by_cases h7:c.start=0
  case neg =>
   repeat apply ze
   refine zi [(3,12),(8,17),(14,23),(20,29),(25,34),(30,39),(35,44),(40,49)] (zS h7 h1 h2 h3 h3' (zN h4 h5 h6 zy)) ?_;refine zo rfl (DK ?_);exact zj (zm hd rfl (by simp[xC,h7,zq]))
  by_cases h8:c.rule=0
  case neg =>
   repeat apply ze
   refine zi [(3,12),(8,17),(14,23),(20,29),(25,34),(30,39),(35,44),(40,49)] (zS h8 h1 h2 h3 h3' (yq h4 h5 h6 h7 zy)) ?_;refine zo rfl (DK ?_);exact zj (zm hd rfl (by simp[xC,h8,zq]))
  by_cases h9:c.hold=0
  case neg =>
   repeat apply ze
   refine zi [(3,12),(8,17),(14,23),(20,29),(25,34),(30,39),(35,44),(40,49)] (zS h9 h1 h2 h3 h3' (zS h4 h5 h6 h7 h8 zy)) ?_;refine zo rfl (DK ?_);exact zj (zm hd rfl (by simp[xC,h9,zq]))
  repeat apply ze
  refine zi [(3,12),(8,17),(14,23),(20,29),(25,34),(30,39),(35,44),(40,49)] (zS h1 h2 h3 h3' h4 (yq h5 h6 h7 h8 h9)) ?_;refine zp rfl (zk ?_);have hres:(zR c.demand 1 2147483648 && vQ c d && xC c)=c.pats.all λp=>decide (wN p d<0):=by
   have e1:zR c.demand 1 2147483648=true:=by simp[zR];omega
   have e2:zR c.pats.length 1 64=true:=by simp[zR];omega
   have e3:xC c=true:=by simp[xC,h5,h6,h7,h8,h9]
   rw[e1,e3,vQ,e2];simp
  rw[hres]
  repeat apply ze
  refine zg ?_;refine zn (zJ (λs:Nat=>s<=c.pats.length/\(c.pats.take s).all (λp=>decide (wN p d<0))=true) (λk=>[(1,I d),(2,.ptr nx v0 0),(5,I k)]) (λ_=>[.cells v0 87 (yc c)]) (λs=>c.pats.length-s) 0 [] DC DC DC ?_);rintro k ⟨hk,ho⟩
  repeat apply ze
  refine zg ?_;refine zz rfl (λhc=>?_) (λhc=>?_)
  ·simp at hc;obtain⟨p,tl,a1,a2,a3,e0⟩:=zL rfl c.pats k hc;have hpm:=Ab a1;refine zk (ze (zn (ze (zi [] (zt e0 hc) ?_))));refine zu (Zoz p d (hp p hpm)) ?_;refine zz rfl (λh=>?_) (λh=>?_)
   ·simp at h;have hr2:(c.pats.all λp=>decide (wN p d<0))=false:=by rw[Bh];exact⟨p,hpm,by simp;omega⟩
    refine DK ?_;exact zj (zm hd DD (by simp only[hr2,zq]))
   ·simp at h;refine zk (zg ?_);exact zv (k+1) [] ⟨hc,by rw[a3,Bv,ho];simp[h]⟩ DB (by simp[zA k (by omega)]) rfl DC
  ·simp at hc;obtain rfl:k=c.pats.length:=DB
   rw[Ag]at ho;refine zC (DK ?_);exact zj (zm hd DD (by rw[ho];rfl))
 ·simp at hk1;refine zk ?_
  by_cases hk2:c.kind=2
  ·rw[ZbU c d hk2]
   by_cases h1:0<c.pats.length
   ·repeat apply ze
    refine zi [(3,72),(9,78)] (zF h1 hk2 zy) ?_;refine zo rfl (DK ?_);exact zj (zm hd rfl (by simp[uu,List.ne_nil_of_length_pos h1,zq]))
   have h1':c.pats=[]:=Ap DB
   by_cases h2:c.demand=0
   case neg =>
    repeat apply ze
    refine zi [(3,72),(9,78)] (zN h2 hk2 h1 zy) ?_;refine zo rfl (DK ?_);exact zj (zm hd rfl (by simp[uu,h2,zq]))
   repeat apply ze
   refine zi [(3,72),(9,78)] (zF hk2 h1 h2) ?_;refine zp rfl (zk ?_)
   by_cases h3:c.rate<0
   ·repeat apply ze
    refine zi [(3,86),(8,91),(13,96),(18,101),(23,106)] (zt h3 zy) ?_;refine zo rfl (DK ?_);exact zj (zm hd rfl (by simp only[zR,show ¬(0<=c.rate/\c.rate<=2147483648) by omega];rfl))
   by_cases h4:(2147483648:Int)<c.rate
   ·repeat apply ze
    refine zi [(3,86),(8,91),(13,96),(18,101),(23,106)] (zF h4 h3 zy) ?_;refine zo rfl (DK ?_);exact zj (zm hd rfl (by simp only[zR,show ¬(0<=c.rate/\c.rate<=2147483648) by omega];rfl))
   by_cases h5:c.size<1
   ·repeat apply ze
    refine zi [(3,86),(8,91),(13,96),(18,101),(23,106)] (zN h5 h3 h4 zy) ?_;refine zo rfl (DK ?_);exact zj (zm hd rfl (by simp[zR,zq,show ¬1<=c.size by omega]))
   by_cases h6:(2147483648:Int)<c.size
   ·repeat apply ze
    refine zi [(3,86),(8,91),(13,96),(18,101),(23,106)] (yq h6 h3 h4 h5 zy) ?_;refine zo rfl (DK ?_);exact zj (zm hd rfl (by simp[zR,zq,show ¬c.size<=2147483648 by omega]))
   by_cases h7:c.start<0
   ·repeat apply ze
    refine zi [(3,86),(8,91),(13,96),(18,101),(23,106)] (zS h7 h3 h4 h5 h6 zy) ?_;refine zo rfl (DK ?_);exact zj (zm hd rfl (by simp[zR,zq,show ¬0<=c.start by omega]))
   by_cases h8:c.size<c.start
   ·repeat apply ze
    refine zi [(3,86),(8,91),(13,96),(18,101),(23,106)] (zS h8 h3 h4 h5 h6 (zt h7 zy)) ?_;refine zo rfl (DK ?_);exact zj (zm hd rfl (by simp[zR,zq,show ¬c.start<=c.size by omega]))
   repeat apply ze
   refine zi [(3,86),(8,91),(13,96),(18,101),(23,106)] (zS h3 h4 h5 h6 h7 h8) ?_;refine zp rfl (zk ?_);have hres:(zR c.rate 0 2147483648 && zR c.size 1 2147483648 && zR c.start 0 c.size && vR c && zR c.hold 0 1024 && uu c)=(vR c && zR c.hold 0 1024):=by
    have e1:zR c.rate 0 2147483648=true:=by simp[zR];omega
    have e2:zR c.size 1 2147483648=true:=by simp[zR];omega
    have e3:zR c.start 0 c.size=true:=by simp[zR];omega
    have e4:uu c=true:=by simp[uu,h1',h2]
    rw[e1,e2,e3,e4];simp
   rw[hres]
   by_cases r1:c.rule=1
   ·by_cases r3:0<=c.hold
    ·refine ze (zi [(3,116),(8,121),(13,126)] (zF r1 r3 zy) ?_);exact zj (zm hd DD (by simp[vR,r1,zR,r3,zq]))
    ·refine ze (zi [(3,116),(8,121),(13,126)] (zF r1 r3 zy) ?_);exact zj (zm hd DD (by simp[vR,r1,zR,r3,zq]))
   ·by_cases r2:c.rule=2
    ·by_cases r3:0<=c.hold
     ·refine ze (zi [(3,116),(8,121),(13,126)] (zN r1 r2 r3 zy) ?_);exact zj (zm hd DD (by simp[vR,r2,zR,r3,zq]))
     ·refine ze (zi [(3,116),(8,121),(13,126)] (zN r1 r2 r3 zy) ?_);exact zj (zm hd DD (by simp[vR,r2,zR,r3,zq]))
    ·refine ze (zi [(3,116),(8,121),(13,126)] (zF r1 r2 zy) ?_);exact zj (zm hd DD (by simp[vR,r1,r2,zq]))
  ·rw[Zgb c d hk1 hk2];have hk2':(c.kind != 2)=true:=by simpa using hk2
   repeat apply ze
   refine zi [(3,72),(9,78)] (zt hk2' zy) ?_;refine zo rfl (DK ?_);exact DL hd
open Go
theorem ZoB(x:Inst)(hx:InstOk x):Pure prog 56 [.agg (zD x)] (B (yM x)):=by
 have hnc:=hx.ncust;refine zx func56 ntmps56 results56 λS nx hd=>?_
 refine DK ?_;intro v0;refine DK ?_
 by_cases h1:x.days<1
 ·repeat apply ze
  refine zi [(3,14),(8,19),(13,24),(18,29),(23,34),(28,39),(33,44),(38,49),(42,53)] (zt h1 zy) ?_;refine zo rfl (DK ?_);exact zj (zm hd rfl (by simp[yM,zR,zq,show ¬1<=x.days by omega]))
 by_cases h2:(64:Int)<x.days
 ·repeat apply ze
  refine zi [(3,14),(8,19),(13,24),(18,29),(23,34),(28,39),(33,44),(38,49),(42,53)] (zF h2 h1 zy) ?_;refine zo rfl (DK ?_);exact zj (zm hd rfl (by simp[yM,zR,zq,show ¬x.days<=64 by omega]))
 by_cases h3:x.veh<0
 ·repeat apply ze
  refine zi [(3,14),(8,19),(13,24),(18,29),(23,34),(28,39),(33,44),(38,49),(42,53)] (zN h3 h1 h2 zy) ?_;refine zo rfl (DK ?_);exact zj (zm hd rfl (by simp[yM,zR,zq,show ¬0<=x.veh by omega]))
 by_cases h4:(2147483648:Int)<x.veh
 ·repeat apply ze
  refine zi [(3,14),(8,19),(13,24),(18,29),(23,34),(28,39),(33,44),(38,49),(42,53)] (yq h4 h1 h2 h3 zy) ?_;refine zo rfl (DK ?_);exact zj (zm hd rfl (by simp[yM,zR,zq,show ¬x.veh<=2147483648 by omega]))
 by_cases h5:x.cap<0
 ·repeat apply ze
  refine zi [(3,14),(8,19),(13,24),(18,29),(23,34),(28,39),(33,44),(38,49),(42,53)] (zS h5 h1 h2 h3 h4 zy) ?_;refine zo rfl (DK ?_);exact zj (zm hd rfl (by simp[yM,zR,zq,show ¬0<=x.cap by omega]))
 by_cases h6:(2147483648:Int)<x.cap
 ·repeat apply ze
  refine zi [(3,14),(8,19),(13,24),(18,29),(23,34),(28,39),(33,44),(38,49),(42,53)] (zS h6 h1 h2 h3 h4 (zt h5 zy)) ?_;refine zo rfl (DK ?_);exact zj (zm hd rfl (by simp[yM,zR,zq,show ¬x.cap<=2147483648 by omega]))
 by_cases h7:x.len<0
 ·repeat apply ze
  refine zi [(3,14),(8,19),(13,24),(18,29),(23,34),(28,39),(33,44),(38,49),(42,53)] (zS h7 h1 h2 h3 h4 (zF h5 h6 zy)) ?_;refine zo rfl (DK ?_);exact zj (zm hd rfl (by simp[yM,zR,zq,show ¬0<=x.len by omega]))
 by_cases h8:(2147483648:Int)<x.len
 ·repeat apply ze
  refine zi [(3,14),(8,19),(13,24),(18,29),(23,34),(28,39),(33,44),(38,49),(42,53)] (zS h8 h1 h2 h3 h4 (zN h5 h6 h7 zy)) ?_;refine zo rfl (DK ?_);exact zj (zm hd rfl (by simp[yM,zR,zq,show ¬x.len<=2147483648 by omega]))
 by_cases h9:(2000:Int)<(x.cust.length:Int)
 ·repeat apply ze
  refine zi [(3,14),(8,19),(13,24),(18,29),(23,34),(28,39),(33,44),(38,49),(42,53)] (zS h9 h1 h2 h3 h4 (yq h5 h6 h7 h8 zy)) ?_;refine zo rfl (DK ?_);exact zj (zm hd rfl (by simp[yM,zq,show ¬x.cust.length<=2000 by omega]))
 have w1:=zA x.cust.length DB;have w1':IntKind.i64.wrap ((x.cust.length:Int)+1)=(x.cust.length:Int)+1:=by rw[w1];omega
 by_cases h10:(x.dist.length:Int)=(x.cust.length:Int)+1
 case neg =>
  repeat apply ze
  refine zi [(3,14),(8,19),(13,24),(18,29),(23,34),(28,39),(33,44),(38,49),(42,53)] (zS h1 h2 h3 h4 h5 (zS h6 h7 h8 h9 h10 w1')) ?_;refine zo (by simp[h10]) ?_;refine DK ?_;exact zj (zm hd rfl (by simp[yM,uJ,zq,show ¬x.dist.length=x.cust.length+1 by omega]))
 have h10':x.dist.length=x.cust.length+1:=DB
 repeat apply ze
 refine zi [(3,14),(8,19),(13,24),(18,29),(23,34),(28,39),(33,44),(38,49),(42,53)] (zS h1 h2 h3 h4 h5 (zS h6 h7 h8 h9 h10 w1')) ?_;refine zp (by simp[h10]) ?_;refine zk ?_;have hres:yM x=(x.cust.all (j6 · x.days) && vn (x.cust.length+1) 0 x.dist):=by
  have e1:zR x.days 1 64=true:=by simp[zR];omega
  have e2:zR x.veh 0 2147483648=true:=by simp[zR];omega
  have e3:zR x.cap 0 2147483648=true:=by simp[zR];omega
  have e4:zR x.len 0 2147483648=true:=by simp[zR];omega
  have e5:x.cust.length<=2000:=DB
  simp[yM,e1,e2,e3,e4,e5,uJ,h10']
 rw[hres];clear hres
 repeat apply ze
 refine zg ?_;refine zn (zJ (λs:Nat=>s<=x.cust.length/\(x.cust.take s).all (j6 · x.days)=true) (λk=>[(1,.ptr nx v0 0),(3,I x.cust.length),(4,I k)]) (λ_=>[.cells v0 25 (zD x)]) (λs=>x.cust.length-s) 0 [] DC DC DC ?_);rintro k ⟨hk,ho⟩
 repeat apply ze
 refine zg ?_;refine zz rfl (λhc=>?_) (λhc=>?_)
 ·simp at hc;obtain⟨c,tl,a1,a2,a3,_,e0⟩:=el 8 rfl x.cust k hc;have hcm:=Ab a1;have hco:=hx.cust c hcm;refine zk (ze (zn (ze (zB none (Row.pures [0,1,2,3,4,5,6,7,8] .done) mixed (zt hc e0) ?_))));refine zP (ZoA c x.days hco.pats hco.npats) trivial ?_;refine DK ?_;cases hb:j6 c x.days with
  | false =>
   have hr2:x.cust.all (j6 · x.days)=false:=by rw[Bh];exact⟨c,hcm,by simp[hb]⟩
   refine zo rfl (DK ?_);exact zj (zm hd DD (by simp only[hr2,zq,Cn]))
  | true =>
   refine zp rfl (zk (zg ?_));exact zv (k+1) [] ⟨hc,by rw[a3,Bv,ho];simp[hb]⟩ DB (by simp[zA k (by omega)]) rfl DC
 ·simp at hc;obtain rfl:k=x.cust.length:=DB
  rw[Ag]at ho;rw[ho,De];refine zC ?_
  repeat apply ze
  refine zg ?_;generalize hn:x.cust.length=n at *;refine zn (zJ (λs:Nat=>s<=n+1/\vn (n+1) 0 x.dist=vn (n+1) s (x.dist.drop s)) (λk=>[(1,.ptr nx v0 0),(3,I n),(6,I k)]) (λ_=>[.cells v0 25 (zD x)]) (λs=>n+1-s) 0 [] DC DC DC ?_);rintro a ⟨ha,hr⟩
  repeat apply ze
  refine zg ?_;refine zz rfl (λhc2=>?_) (λhc2=>?_)
  ·simp at hc2;have hal:a<x.dist.length:=DB
   obtain⟨row,tl,a1,a2,a3,e0⟩:=zL rfl x.dist a hal;have hrow:=hx.dist row (Ab a1);rw[a2]at hr;simp only[vn]at hr;have bad:(row.length=n+1/\row.getD a 0=0->row.all (zR · 0 2147483648)=false)->vn (n+1) 0 x.dist=false:=by
    intro q;rw[hr]
    by_cases q1:row.length=n+1
    ·by_cases q2:row.getD a 0=0
     ·rw[q ⟨q1,q2⟩];simp
     ·simp only[q2,decide_false,Cr,Cn]
    ·simp only[q1,decide_false,Cr,Cn]
   refine zk (ze (zn ?_))
   by_cases h2:row.length=n+1
   case neg =>
    have hres:=bad (λq=>absurd q.1 h2);have h2':¬((row.length:Int)=(n:Int)+1):=DB
    repeat apply ze
    refine zi [] (zN hal e0 h2' w1') ?_;refine zo (by simp[h2']) ?_;refine DK ?_;exact zj (zm hd DD (by simp only[hres,zq]))
   have h2':((row.length:Int)=(n:Int)+1):=DB
   repeat apply ze
   refine zi [] (zN hal e0 h2' w1') ?_;refine zp (by simp[h2']) ?_;refine zk (DK ?_);refine zn (zJ (λs:Nat=>s<=n+1/\(row.take s).all (zR · 0 2147483648)=true/\(a<s->row.getD a 0=0)) (λj=>[(1,.ptr nx v0 0),(3,I n),(6,I a),(7,I j)]) (λ_=>[.cells v0 25 (zD x)]) (λs=>n+1-s) 0 [] DC DC DC ?_);rintro b ⟨hb,hr1,hr2⟩
   repeat apply ze
   refine zg ?_;refine zz rfl (λhc3=>?_) (λhc3=>?_)
   ·simp at hc3;have hbl:b<row.length:=DB
    obtain⟨d,tl2,b1,b2,b3,e2⟩:=zL rfl row b hbl;have hdm:=Ab b1;have hbn:b<n+1:=DB
    refine zk (ze (zn ?_))
    by_cases g1:d<0
    ·have hres:=bad (λ_=>by rw[Bh];exact⟨d,hdm,by simp[zR];omega⟩);refine ze (zi [(9,104),(20,115),(24,119)] (zS hal e0 hbl e2 g1 zy) ?_);refine zo rfl (DK ?_);exact zj (zm hd DD (by simp only[hres,zq]))
    by_cases g2:(2147483648:Int)<d
    ·have hres:=bad (λ_=>by rw[Bh];exact⟨d,hdm,by simp[zR];omega⟩);refine ze (zi [(9,104),(20,115),(24,119)] (zS hal e0 hbl e2 g1 (zt g2 zy)) ?_);refine zo rfl (DK ?_);exact zj (zm hd DD (by simp only[hres,zq]))
    have hfr:zR d 0 2147483648=true:=by simp[zR];omega
    by_cases g3:a=b
    ·subst g3;have hd0:row.getD a 0=d:=by rw[Aa,b1];rfl
     by_cases g4:d=0
     ·refine ze (zi [(9,104),(20,115),(24,119)] (zS hal e0 hbl e2 g1 (zt g2 g4)) ?_);refine zp DC ?_;refine zk (zg ?_);exact zv (a+1) [] ⟨by omega,by rw[b3,Bv,hr1];simp[hfr],λ_=>hd0.trans g4⟩ DB (by simp[zA a (by omega)]) rfl DC
     ·have hres:=bad (λq=>absurd (hd0.symm.trans q.2) g4);refine ze (zi [(9,104),(20,115),(24,119)] (zS hal e0 hbl e2 g1 (zt g2 g4)) ?_);refine zo (by simp[g4]) ?_;refine DK ?_;exact zj (zm hd DD (by simp only[hres,zq]))
    ·have g3':¬((a:Int)=(b:Int)):=DB
     refine ze (zi [(9,104),(20,115),(24,119)] (zS hal e0 hbl e2 g1 (zN g2 g3 g3' zy)) ?_);refine zp DC ?_;refine zk (zg ?_);exact zv (b+1) [] ⟨by omega,by rw[b3,Bv,hr1];simp[hfr],λq=>hr2 DB⟩ DB (by simp[zA b (by omega)]) rfl DC
   ·simp at hc3;obtain rfl:b=n+1:=DB
    rw[Ae DB]at hr1;have h0:=hr2 DB;refine zC (zg ?_);exact zv (a+1) [] ⟨by omega,by rw[hr,hr1,h0];simp[h2]⟩ DB (by simp[zA a (by omega)]) rfl DC
  ·simp at hc2;obtain rfl:a=n+1:=DB
   rw[A7 DB]at hr;simp only[vn]at hr;refine zC (DK ?_);exact zj (zm hd DD (by simp[hr,zq]))
open Go
abbrev Vs(x:Inst)(p:zH)(i:Int):List PV:=[I x.days,I x.veh,I x.cap,I x.len,L x.cust,L x.dist,L p,I i]
def Vt(c:Cust)(v:List Visit):Int:=if (v.any λs=>decide (s.q≠c.demand))=true then 9 else if Y4 (v.map (·.d))∈c.pats then 0 else 10
def Yn(x:Inst)(p:zH)(i:Nat):Int :=
 match x.cust[i]? with
 | none=>5
 | some c=>if c.kind=2 then Zb c (yK (yW i (told 0 p)) x.days) else Vt c (yW i (told 0 p))
structure Serves (x:Inst) (p:zH):Prop where
 sz:PlanOk p
 q:∀s∈told 0 p,0<=s.1.q/\s.1.q<=2147483648
 days:p.length<=64
theorem Zgc:∀(p:zH) (i:Nat) (x:Stop × Nat),x∈told i p->i<=x.2/\x.2<i+p.length
 | [],_,_,h=>by cases h
 | d :: p,i,x,h=>by
  simp only[told,AG,Ar]at h;simp only[Au];rcases h with ⟨s,_,rfl⟩ | h
  ·simp only;omega
  ·have:=Zgc p (i+1) x h;omega
theorem Zgd{x:Inst}{p:zH}(h:Serves x p)(c:Int):VisOk (yW c (told 0 p))/\∀s∈yW c (told 0 p),0<=s.d/\s.d<=63:=by
 have hd:∀s∈yW c (told 0 p),(0<=s.q/\s.q<=2147483648)/\0<=s.d/\s.d<=63:=by
  intro s hs;simp only[yW,Ar,Bi]at hs;obtain⟨y,⟨hy,_⟩,rfl⟩:=hs;have h1:=h.q y hy;have h2:=Zgc p 0 y hy;have h3:=h.days;simp only;omega
 exact⟨⟨AB (ZfZ _ _) h.sz.told,λs hs=>(hd s hs).1,λs hs=>by have:=(hd s hs).2;unfold zW;omega⟩,λs hs=>(hd s hs).2⟩
theorem Zge(x:Inst)(p:zH)(i:Nat)(h:Serves x p):Pure prog 114 [.agg (Vs x p i)] (L (yK (yW i (told 0 p)) x.days)):=by
 have h1:=ZbN p i h.sz;have h2:=Zf6 _ x.days (Zgd h i).1;generalize yK (yW i (told 0 p)) x.days=q at h2 ⊢;generalize yW i (told 0 p)=v at h1 h2;refine zx func114 ntmps114 results114 λS nx hd=>?_
 refine DK ?_;intro v0;refine ze (zB (some [nx]) (Row.pures [0,1,2,3,4,5,6,7,8,9] .done) mixed trivial ?_);refine zP (h1) trivial ?_;refine zP (h2) trivial ?_;exact DL hd
theorem ZoC(x:Inst)(p:zH)(i:Nat)(c:Cust)(h:Serves x p)(hc:x.cust[i]?=some c)(hf:CustFits c):Pure prog 155 [.agg (Vs x p i)] (I (Zb c (yK (yW i (told 0 p)) x.days))):=by
 have h1:=Zge x p i h;have hil:i<x.cust.length:=(Ac.1 hc).1;obtain⟨c',tl,a1,a2,a3,_,e0⟩:=el 8 rfl x.cust i hil;obtain rfl:c'=c:=by rw[a1]at hc;exact Option.some.inj hc
 have h2:=Zf5 c' (yK (yW i (told 0 p)) x.days) hf (by rw[ZbR];omega);generalize yK (yW i (told 0 p)) x.days=q at h1 h2 ⊢;refine zx func155 ntmps155 results155 λS nx hd=>?_
 refine DK ?_;intro v0;refine ze (zB (some [nx]) (Row.pures [0,1,2,3,4,5,6,7,8,9,10] .done) mixed (zt hil e0) ?_);refine zP (h1) trivial ?_;refine zP (h2) trivial ?_;exact DL hd
theorem ZoD(x:Inst)(p:zH)(i:Nat)(c:Cust)(h:Serves x p)(hc:x.cust[i]?=some c)(hpl:c.pats.length<=1048576):Pure prog 154 [.agg (Vs x p i)] (I (Vt c (yW i (told 0 p)))):=by
 have h1:=ZbN p i h.sz;have h2:=Zn4 p i h.sz;have hvl:=(Zgd h i).1.n;have hil:i<x.cust.length:=(Ac.1 hc).1;obtain⟨c',tl,a1,a2,a3,_,e0⟩:=el 8 rfl x.cust i hil;obtain rfl:c'=c:=by rw[a1]at hc;exact Option.some.inj hc
 generalize yW i (told 0 p)=v at h1 h2 hvl ⊢;have h3:=Zn6 (v.map (·.d)) (by simpa using hvl);have h4:=Zn8 c'.pats (Y4 (v.map (·.d))) hpl;unfold Vt;generalize Y4 (v.map (·.d))=set at h3 h4 ⊢;refine zx func154 ntmps154 results154 λS nx hd=>?_
 refine DK ?_;intro v0;refine ze (zi [] (zt hil e0) ?_);intro v1
 repeat apply ze
 refine zg ?_;refine zu h1 ?_;refine zn (zJ (λs:Nat=>s<=v.length/\((v.take s).any λs=>decide (s.q≠c'.demand))=false) (λk=>[(1,.ptr nx v0 0),(3,.ptr (nx+1) v1 0),(18,L v),(19,I v.length),(20,I k)]) (λ_=>[.cells v0 171 (Vs x p i),.cells v1 87 (yc c')]) (λs=>v.length-s) 0 [] DC DC DC ?_);rintro k ⟨hk,ho⟩;refine DK ?_;refine ze (zz rfl (λhc1=>?_) (λhc1=>?_))
 ·simp at hc1;obtain⟨s,tl2,b1,b2,b3,e1,e2⟩:=el 2 rfl v k hc1;refine zk (ze (zn (ze (zi [] (zt hc1 e2) ?_))));intro v2
  by_cases hq:s.q=c'.demand
  ·refine ze (zi [] hq ?_);refine zp DC ?_;refine zk (zg ?_);exact zv (k+1) [_] ⟨hc1,by rw[b3,List.any_append,ho];simp[hq]⟩ DB (by simp[zA k (by omega)]) rfl rfl
  ·have hany:(v.any λs=>decide (s.q≠c'.demand))=true:=by rw[B0];exact⟨s,Ab b1,by simpa using hq⟩
   refine ze (zi [] hq ?_);refine zo DC ?_;refine DK ?_;exact zj (zm hd DD (by rw[if_pos hany];rfl))
 ·simp at hc1;obtain rfl:k=v.length:=DB
  rw[Ag]at ho;refine zC (DK ?_);refine zu h2 ?_;refine zu h3 ?_
  repeat apply ze
  refine zg ?_;refine zu h4 ?_
  by_cases hm:set∈c'.pats
  ·repeat apply ze
   refine zp (by simp[hm]) ?_;refine zk (DK ?_);exact zj (zm hd DD (by rw[ho];simp[hm,zq]))
  ·repeat apply ze
   refine zo (by simp[hm]) ?_;refine DK ?_;exact zj (zm hd DD (by rw[ho];simp[hm,zq]))
structure CustsOk (x:Inst):Prop where
 n:x.cust.length<=1048576
 kind:∀c∈x.cust,c.kind=1\/c.kind=2
 fits:∀c∈x.cust,CustFits c
 pats:∀c∈x.cust,c.pats.length<=1048576
 xZ:∀c∈x.cust,∀p∈c.pats,p<2 ^ 64
theorem ZoE(x:Inst)(p:zH)(i:Nat)(h:Serves x p)(hx:CustsOk x)(hi:i<x.cust.length):Pure prog 112 [.agg (zD x),.agg [L p],I i] (I (Yn x p i)):=by
 obtain⟨c,tl,a1,a2,a3,_,e0⟩:=el 8 rfl x.cust i hi;have hcm:=Ab a1;have hres:Yn x p i=if c.kind=2 then Zb c (yK (yW i (told 0 p)) x.days) else Vt c (yW i (told 0 p)):=by simp only[Yn,a1]
 rw[hres];have g0:¬(i:Int)<0:=DB
 have g1:¬(x.cust.length:Int)<=(i:Int):=DB
 refine zx func112 ntmps112 results112 λS nx hd=>?_
 refine DK ?_;intro v0 v1
 repeat apply ze
 refine zi [(2,12)] (zF g0 g1 hi) ?_;refine zp DC ?_;refine zk (ze (xk [] DG DG λK Gc Gh hK hGc hGh X hX0 hX=>?_));simp -implicitDefEqProofs [hX0,hX]
 try clear hX0 hX X
 intro v2;refine hGh _ _ _ _ _ λhsuf=>Ya (.inr rfl) underlying215 underlying3 rfl (by simp;exact⟨rfl,rfl⟩) DD DD (by simp[qT];rfl) ?_
 refine⟨_,_,yh _ DB DC,?_⟩;clear hGc hGh;clear Gc Gh;refine xH hsuf (D:=[]) DG λGc Gh hGc hGh X hX0 hX=>?_
 simp -implicitDefEqProofs [hX0,hX];clear hX0 hX X;refine hGh _ _ _ _ _ λhsuf=>Ya (.inr rfl) underlying215 underlying3 rfl (by simp;exact⟨rfl,rfl⟩) DD DD (by simp[qT,qK];rfl) ?_
 refine⟨_,_,yh _ DB DC,?_⟩;clear hGc hGh;clear Gc Gh;refine xH hsuf (D:=[]) DG λGc Gh hGc hGh X hX0 hX=>?_
 simp -implicitDefEqProofs [hX0,hX,qK];clear hX0 hX X;refine hK _ _ _ ?_;clear hK hGc hGh;clear K Gc Gh;rcases hx.kind c hcm with hk | hk
 ·refine ze (xk [] DG DG λK Gc Gh hK hGc hGh X hX0 hX=>?_);simp -implicitDefEqProofs [hX0,hX,hi,e0,hk]
  try clear hX0 hX X
  refine hGh _ _ _ _ _ λhsuf=>uW rfl underlying215 underlying3 rfl (by simp;exact⟨rfl,rfl⟩) DD DD (by simp[qT,qK];rfl) DD ?_
  refine⟨_,_,rfl,?_⟩;clear hGc hGh;clear Gc Gh;refine xH hsuf (D:=[]) DG λGc Gh hGc hGh X hX0 hX=>?_
  simp -implicitDefEqProofs [hX0,hX,Zs];clear hX0 hX X;refine hK _ _ _ ?_;clear hK hGc hGh;clear K Gc Gh
  repeat apply ze
  refine zg ?_;refine zp DC ?_;refine zk (DK ?_);refine zu (ZoD x p i c h a1 (hx.pats c hcm)) ?_;exact zj (zm hd DD (by simp[hk,zq]))
 ·refine ze (xk [] DG DG λK Gc Gh hK hGc hGh X hX0 hX=>?_);simp -implicitDefEqProofs [hX0,hX,hi,e0,hk]
  try clear hX0 hX X
  refine hGh _ _ _ _ _ λhsuf=>uW rfl underlying215 underlying3 rfl (by simp;exact⟨rfl,rfl⟩) DD DD (by simp[qT,qK];rfl) DD ?_
  refine⟨_,_,rfl,?_⟩;clear hGc hGh;clear Gc Gh;refine xH hsuf (D:=[]) DG λGc Gh hGc hGh X hX0 hX=>?_
  simp -implicitDefEqProofs [hX0,hX,Zs];clear hX0 hX X;refine hK _ _ _ ?_;clear hK hGc hGh;clear K Gc Gh
  repeat apply ze
  refine zg ?_;refine zp DC ?_;refine zk (DK ?_);refine zu (ZoC x p i c h a1 (hx.fits c hcm)) ?_;exact zj (zm hd DD (by simp[hk,zq]))
open Go
theorem Zgf:∀(l:List Int),(∀b∈l,b=0\/b=1)->∀i:Nat,(jJ l).toNat.testBit i=decide (l[i]?=some 1)
 | [],_,i=>by simp[jJ]
 | b :: l,h,i=>by
  have hl:∀b∈l,b=0\/b=1:=λx hx=>h x (by simp[hx])
  have h0:=(ZaP l hl).1;have hb:=h b DC;have hn:jJ (b :: l)=2*jJ l+b:=rfl;cases i with
  | zero =>
   rw[Nat.testBit_zero,hn];simp only[A3,Option.some.injEq];apply decide_eq_decide.2;omega
  | succ i =>
   rw[Nat.testBit_succ,hn];have:(2*jJ l+b).toNat / 2=(jJ l).toNat:=DB
   rw[this,Zgf l hl i];simp
theorem ZbV(n i:Nat):n.testBit i=decide (qz n i=1):=by rw[Nat.testBit_eq_decide_div_mod_eq];rfl
open Go
def js:List Int->Int
 | []=>0
 | e :: l=>if e≠0 then e else js l
theorem Vu{l:List Int}(h:∀e∈l,e=0):js l=0:=by
 induction l with
 | nil=>rfl
 | cons e l ih=>simp only[js,h e DC,ne_eq,not_true,if_false];exact ih λx hx=>h x (by simp[hx])
theorem ZbW{l:List Int}{k:Nat}{e:Int}(h:∀e∈l.take k,e=0)(hk:l[k]?=some e)(he:e≠0):js l=e:=by
 induction l generalizing k with
 | nil=>cases hk
 | cons a l ih =>
  cases k with
  | zero=>simp at hk;subst hk;simp[js,he]
  | succ k =>
   simp only[js,h a DC,ne_eq,not_true,if_false];exact ih (k:=k) (λx hx=>h x (by rw[CV];simp[hx])) (by simpa using hk)
theorem ZoF(l:List Int):js l=0<->∀e∈l,e=0:=by
 refine⟨λh=>?_,Vu⟩
 induction l with
 | nil=>intro e he;cases he
 | cons a l ih =>
  simp only[js]at h;split at h
  ·rename_i hne;exact absurd h hne
  ·rename_i hne;intro e he;rcases Aw.1 he with rfl | he
   ·simpa using hne
   ·exact ih h e he
def Y6(x:Inst)(p:zH):Int :=
 if yM x=false then 3 else if (p.length:Int)≠x.days then 1 else if js (p.map (yv x))≠0 then js (p.map (yv x)) else js ((List.range x.cust.length).map (Yn x p))
structure PlanSz (p:zH):Prop where
 ok:PlanOk p
 f:∀d∈p,d.flatten.length<=1048576
theorem ZbX:∀(p:zH) (i:Nat) (x:Stop × Nat),x∈told i p->∃d∈p,x.1∈d.flatten
 | [],_,_,h=>by cases h
 | d :: p,i,x,h=>by
  simp only[told,AG,Ar]at h;rcases h with ⟨s,hs,rfl⟩ | h
  ·exact⟨d,by simp,hs⟩
  ·obtain⟨d',h1,h2⟩:=ZbX p (i+1) x h;exact⟨d',by simp[h1],h2⟩
theorem ZbY{x:Inst}{d:zr}(h:yv x d=0):∀s∈d.flatten,jq x s=true:=by
 intro s hs;obtain⟨t,ht,hst⟩:=BE.1 hs;have hm:zV x t=0:=by
  unfold yv at h;split at h
  ·rename_i u hu;have:=List.find?_some hu;simp[h]at this
  ·rename_i hn;rw[List.find?_eq_none]at hn;simpa using hn t ht
 have:qV x t=true:=by
  by_cases q:qV x t=true
  ·exact q
  ·simp[zV,q]at hm
 unfold qV at this;simp only[Ao,Az]at this;exact this.1 s hst
theorem ZoG{x:Inst}{p:zH}(hp:PlanSz p)(hx:InstOk x)(hm:yM x=true)(hd:(p.length:Int)=x.days)(h0:∀d∈p,yv x d=0):Serves x p:=by
 have hdays:1<=x.days/\x.days<=64:=by
  unfold yM at hm;simp only[Ao]at hm;have:=hm.1.1.1.1.1.1;simpa[zR] using this
 refine⟨hp.ok,λs hs=>?_,by omega⟩;obtain⟨d,hd,hsd⟩:=ZbX p 0 s hs;have:=ZbY (h0 d hd) s.1 hsd;simp[jq]at this;omega
theorem ZoH{x:Inst}(hx:InstOk x)(hm:yM x=true):CustsOk x:=by
 unfold yM at hm;simp only[Ao,decide_eq_true_eq,Az]at hm;obtain⟨⟨⟨⟨⟨⟨_,h1⟩,_⟩,_⟩,_⟩,h2⟩,_⟩:=hm;have hk:∀c∈x.cust,c.kind=1\/c.kind=2:=λc hc=>by
  have:=h2 c hc
  by_cases k1:c.kind=1
  ·exact .inl k1
  ·by_cases k2:c.kind=2
   ·exact .inr k2
   ·rw[Zgb c _ k1 k2]at this;cases this
 refine⟨by omega,hk,λc hc=>?_,λc hc=>?_,λc hc=>(hx.cust c hc).pats⟩
 ·have hb:=h2 c hc;rcases hk c hc with k | k
  ·rw[ZbT c _ k]at hb;simp only[Ao,xC,decide_eq_true_eq]at hb;obtain⟨_,a,b,c,_⟩:=hb;exact⟨by omega,by omega,by omega⟩
  ·rw[ZbU c _ k]at hb;simp only[Ao,zR,decide_eq_true_eq]at hb;obtain⟨⟨⟨⟨⟨a,b⟩,c⟩,_⟩,_⟩,_⟩:=hb;exact⟨by omega,by omega,by omega⟩
 ·have hb:=h2 c hc;rcases hk c hc with k | k
  ·rw[ZbT c _ k]at hb;simp only[Ao,vQ,zR,decide_eq_true_eq]at hb;omega
  ·rw[ZbU c _ k]at hb;simp only[Ao,uu,decide_eq_true_eq]at hb;omega
theorem ZoI(x:Inst)(p:zH)(hx:InstOk x)(hp:PlanSz p):Pure prog 67 [.agg (zD x),.agg [L p]] (I (Y6 x p)):=by
 have hpn:=hp.ok.n;refine zx func67 ntmps67 results67 λS nx hd=>?_
 refine DK ?_;intro v0 v1
 repeat apply ze
 refine zg ?_;refine zu (Zf9 x hx) ?_;cases hm:yM x with
 | false =>
  refine zo DC ?_;refine DK ?_;exact zj (zm hd DD (by simp[Y6,hm,zq]))
 | true =>
  have hcs:=ZoH hx hm;have hcn:=hcs.n;refine zp DC ?_;refine zk ?_
  by_cases hpd:(p.length:Int)=x.days
  case neg =>
   repeat apply ze
   refine zi [] hpd ?_;refine zo (by simp[hpd]) ?_;refine DK ?_;exact zj (zm hd DD (by simp[Y6,hm,hpd,zq]))
  have hres:Y6 x p=if js (p.map (yv x))≠0 then js (p.map (yv x)) else js ((List.range x.cust.length).map (Yn x p)):=by simp[Y6,hm,hpd]
  repeat apply ze
  refine zi [] hpd ?_;refine zp (by simp[hpd]) ?_;refine zk ?_
  repeat apply ze
  refine zg ?_;refine qE (nx:=nx) (σ:=Unit) (λ_=>∀d∈p,yv x d=0) (λ_=>[(2,.ptr nx v0 0),(3,.ptr (nx+1) v1 0)]) (λ_=>S) (λ_=>[.cells v0 25 (zD x),.cells v1 30 [L p]]) ?_ ?_
  ·refine zn (zJ (λs:Nat=>s<=p.length/\∀d∈p.take s,yv x d=0) (λk=>[(2,.ptr nx v0 0),(3,.ptr (nx+1) v1 0),(20,L p),(21,I p.length),(22,I k)]) (λ_=>[.cells v0 25 (zD x),.cells v1 30 [L p]]) (λs=>p.length-s) 0 [] DC (by simp[hpd]) DC ?_);rintro k ⟨hk,ho⟩;refine DK ?_;refine ze (zz rfl (λhc=>?_) (λhc=>?_))
   ·simp at hc;obtain⟨d,tl,a1,a2,a3,e0⟩:=zL rfl p k hc;have hdm:=Ab a1;refine zk (ze (zn (ze (zi [] (zt hc e0) ?_))));intro v2;refine DK ?_;refine zu (ZaU x d hcn (hp.ok.d d hdm) (hp.ok.t d hdm) (hp.f d hdm)) ?_
    by_cases h0:yv x d=0
    ·refine ze (zi [] h0 ?_);refine zp (by simp[h0]) ?_;refine zk (zg ?_);exact zv (k+1) [_] ⟨hc,λe he=>by rw[a3]at he;rcases AG.1 he with he | he;exact ho e he;rw[AZ.1 he];exact h0⟩ DB (by simp[zA k (by omega)]) rfl rfl
    ·have hf:js (p.map (yv x))=yv x d:=ZbW (k:=k) (λe he=>by rw[<-List.map_take]at he;obtain⟨u,hu,rfl⟩:=Ar.1 he;exact ho u hu) (by rw[Ah,a1];rfl) h0;refine ze (zi [] h0 ?_);refine zo (by simp[h0]) ?_;refine DK ?_;exact zj (zm hd DD (by rw[hres,hf];simp[h0,zq]))
   ·simp at hc;obtain rfl:k=p.length:=DB
    rw[Ag]at ho;exact zC (zT () [] ho DC rfl DC)
  intro _ hall;have hsv:=ZoG hp hx hm hpd hall;have hf0:js (p.map (yv x))=0:=Vu λe he=>by obtain⟨u,hu,rfl⟩:=Ar.1 he;exact hall u hu
  rw[hf0]at hres;simp only[ne_eq,not_true,if_false]at hres;rw[hres]
  repeat apply ze
  refine zg ?_;refine zn (zJ (λs:Nat=>s<=x.cust.length/\∀i<s,Yn x p i=0) (λk=>[(2,.ptr nx v0 0),(3,.ptr (nx+1) v1 0),(35,I x.cust.length),(36,I k)]) (λ_=>[.cells v0 25 (zD x),.cells v1 30 [L p]]) (λs=>x.cust.length-s) 0 [] DC DC DC ?_);rintro k ⟨hk,ho⟩;refine DK ?_;refine ze (zz rfl (λhc=>?_) (λhc=>?_))
  ·simp at hc;refine zk (ze (zn (DK ?_)));refine DK ?_;refine zu (ZoE x p k hsv hcs hc) ?_
   by_cases h0:Yn x p k=0
   ·refine ze (zi [] h0 ?_);refine zp (by simp[h0]) ?_;refine zk (zg ?_);exact zv (k+1) [] ⟨hc,λi hi=>by by_cases q:i=k;rw[q];exact h0;exact ho i DB⟩ DB (by simp[zA k (by omega)]) rfl DC
   ·have hf:js ((List.range x.cust.length).map (Yn x p))=Yn x p k:=ZbW (k:=k) (λe he=>by rw[<-List.map_take]at he;obtain⟨u,hu,rfl⟩:=Ar.1 he;rw[List.take_range]at hu;have:=AH.1 hu;exact ho u DB) (by rw[Ah,Bt hc];rfl) h0;refine ze (zi [] h0 ?_);refine zo (by simp[h0]) ?_;refine DK ?_;exact zj (zm hd DD (by rw[hf];rfl))
  ·simp at hc;obtain rfl:k=x.cust.length:=DB
   refine zC (DK ?_);exact zj (zm hd DD (by rw[Vu λe he=>by obtain⟨u,hu,rfl⟩:=Ar.1 he;exact ho u (AH.1 hu)];rfl))
open Go Go.Proofs Hp
def QU(l:List Visit)(day:Int)(i k:Nat):List Stop:=((l.take k).filter (λw=>w.d=day)).map λw=>⟨i,w.q⟩
def Yo(v:List (List Visit))(day:Int)(i:Nat):List Stop:=((v.getD i []).filter (λw=>w.d=day)).map λw=>⟨i,w.q⟩
def j7(v:List (List Visit))(day:Int)(n:Nat):List Stop:=(List.range n).flatMap (Yo v day)
theorem Zgg(v:List (List Visit))(day:Int)(n:Nat):j7 v day (n+1)=j7 v day n++Yo v day n:=by simp[j7,AT]
theorem ZoJ(l:List Visit)(day:Int)(i:Nat):QU l day i 0=[]:=rfl
theorem ZoK(v:List (List Visit))(day:Int)(i:Nat)(l:List Visit)(h:v[i]?=some l):QU l day i l.length=Yo v day i:=by simp_all[QU,Yo]
theorem Zgh{l:List Visit}{k:Nat}{w:Visit}(h:l[k]?=some w)(day:Int)(i:Nat):QU l day i (k+1)=QU l day i k++(if w.d=day then [⟨i,w.q⟩] else []):=by grind[QU,List.take_add_one]
structure VsOk (m n:Nat) (v:List (List Visit)):Prop where
 len:v.length=m
 ok:∀l∈v,∀w∈l,(0<=w.d/\w.d<n)/\1<=w.q/\w.q<=2147483648
 nd:∀l∈v,(l.map (·.d)).Nodup
 few:∀l∈v,l.length<=1000
theorem VsOk.at{m n:Nat}{v:List (List Visit)}(h:VsOk m n v)(i:Nat):(∀w∈v.getD i [],(0<=w.d/\w.d<n)/\1<=w.q/\w.q<=2147483648)/\((v.getD i []).map (·.d)).Nodup:=by
 rw[Aa];cases e:v[i]? with
 | none=>simp
 | some l=>exact⟨h.ok l (Ab e),h.nd l (Ab e)⟩
theorem ZoL{l:List Visit}(h:(l.map (·.d)).Nodup)(day:Int):(l.filter (λw=>w.d=day)).length<=1:=by
 have h1:=(List.filter_sublist (p:=λw:Visit=>decide (w.d=day)) (l:=l)).map (·.d);have h2:=h.sublist h1;have h3:∀w∈l.filter (λw=>w.d=day),w.d=day:=λw hw=>by simp_all
 generalize l.filter (λw=>decide (w.d=day))=m at h2 h3
 match m,h2,h3 with
 | [],_,_=>simp
 | [_],_,_=>simp
 | a :: b :: m,h2,h3 =>
  simp_all
theorem ZoM{m n:Nat}{v:List (List Visit)}(h:VsOk m n v)(day:Int)(i:Nat):(Yo v day i).length<=1:=by
 unfold Yo;rw[List.length_map];exact ZoL (h.at i).2 day
theorem ZoN{m n:Nat}{v:List (List Visit)}(h:VsOk m n v){day:Int}{i:Nat}{s:Stop}(hs:s∈Yo v day i):s.c=i/\1<=s.q/\s.q<=2147483648:=by
 obtain⟨w,hw,rfl⟩:=Ar.1 hs;exact⟨rfl,((h.at i).1 w (Bi.1 hw).1).2⟩
theorem ZbZ{m n:Nat}{v:List (List Visit)}(h:VsOk m n v)(day:Int):∀k:Nat,(j7 v day k).length<=k/\(∀s∈j7 v day k,(0<=s.c/\s.c<k)/\1<=s.q/\s.q<=2147483648)/\((j7 v day k).map (·.c)).Nodup
 | 0=>⟨by simp[j7],by simp[j7],by simp[j7]⟩
 | k+1=>by
  obtain⟨h1,h2,h3⟩:=ZbZ h day k;have h4:=ZoM h day k;have h5:∀s∈Yo v day k,s.c=k/\1<=s.q/\s.q<=2147483648:=λs hs=>ZoN h hs
  rw[Zgg];refine⟨by grind,λs hs=>?_,?_⟩
  ·grind
  ·rw[List.map_append];generalize Yo v day k=e at h4 h5
   match e,h4,h5 with
   | [],_,_=>simpa using h3
   | [s],_,h5 =>
    grind
   | _ :: _ :: _,h4,_=>simp at h4
structure InstH (x:Inst):Prop where
 cust:x.cust.length<=1000
 diag:arc x 0 0=0
 arc:jf x
 veh:0<=x.veh
theorem Zgi{x:Inst}(hx:InstH x){n:Nat}{v:List (List Visit)}(h:VsOk x.cust.length n v)(day:Int):SOk x (j7 v day x.cust.length):=by
 obtain⟨h1,h2,h3⟩:=ZbZ h day x.cust.length;have:=hx.cust;exact⟨by omega,hx.arc,hx.veh,by omega,λs hs=>by grind[y9],h3⟩
def JP(x:Inst)(v:List (List Visit))(b:Int)(n:Nat):List (zr × Int):=(List.range n).map λd:Nat=>uq x b (j7 v d x.cust.length)
def xN(x:Inst)(v:List (List Visit))(b:Int)(n:Nat):zH:=(JP x v b n).map (·.1)
def jl(x:Inst)(v:List (List Visit))(b:Int)(n:Nat):List Int:=(JP x v b n).map (·.2)
theorem Zb0(x:Inst)(v:List (List Visit))(b:Int)(n:Nat):(xN x v b n).length=n:=by simp[xN,JP]
theorem Zgj(x:Inst)(v:List (List Visit))(b:Int)(n:Nat):(jl x v b n).length=n:=by simp[jl,JP]
theorem ZoO(x:Inst)(v:List (List Visit))(b:Int)(n:Nat):xN x v b (n+1)=xN x v b n++[(uq x b (j7 v n x.cust.length)).1]:=by simp[xN,JP,AT]
theorem ZoP(x:Inst)(v:List (List Visit))(b:Int)(n:Nat):jl x v b (n+1)=jl x v b n++[(uq x b (j7 v n x.cust.length)).2]:=by simp[jl,JP,AT]
open Go Go.Proofs Hp
theorem ZoQ(x:Inst)(v:List (List Visit))(day:Int)(n:Nat)(hx:x.cust.length<=1000)(hv:VsOk x.cust.length n v):Pure prog 250 [.agg (zD x),L v,I day] (L (j7 v day x.cust.length)):=by
 have hvl:=hv.len;have hso:=λk=>(ZbZ hv day k).1
 have hmi:xh (x.cust.length:Int) (x.cust.length:Int)=x.cust.length:=by unfold xh;simp
 refine zx func250 ntmps250 results250 λS nx hd=>?_
 refine DK ?_;intro v0;refine DK ?_;refine ze (qL 7 100 2 rfl λv1=>?_);refine DK ?_;refine zn (zJ (λs:Nat × List Stop × Nat=>s.1<=x.cust.length/\s.2.1=j7 v day s.1) (λ(i,out,w)=>[(1,L v),(2,I day),(7,.sl (nx+1) w 2 0 out.length),(16,I x.cust.length),(17,I i)]) (λ(i,out,w)=>[.cells v0 25 (zD x),.cells w 100 (out.flatMap Enc.enc)]) (λs=>x.cust.length-s.1) (0,[],v1) [] (by simp[j7]) (by simp[hvl,hmi]) DC ?_);rintro⟨i,out,w⟩ ⟨hi,ho⟩;simp only at hi ho ⊢;refine DK ?_;refine ze (zz rfl (λhc=>?_) (λhc=>?_))
 ·simp at hc;have hiv:i<v.length:=DB
  obtain⟨l,tl,a1,a2,a3,e0⟩:=zL rfl v i hiv;have hll:=hv.few l (Ab a1);have hoi:=hso i;refine zk (ze (zn (DK ?_)));refine ze (zi [] (zt e0 hiv) ?_);refine zn (zJ (λs:Nat × List Stop × Nat=>s.1<=l.length/\s.2.1=j7 v day i++QU l day i s.1/\s.2.1.length<=i+s.1) (λ(k,out,w)=>[(1,L v),(2,I day),(7,.sl (nx+1) w 2 0 out.length),(8,I i),(16,I x.cust.length),(17,I i),(23,L l),(24,I l.length),(25,I k)]) (λ(k,out,w)=>[.cells v0 25 (zD x),.cells w 100 (out.flatMap Enc.enc)]) (λs=>l.length-s.1) (0,out,w) [] ⟨by simp,by simp[ZoJ,ho],by simp[ho];omega⟩ DC DC ?_);clear ho;rintro⟨k,out,w⟩ ⟨hk,ho,hol⟩;simp only at hk ho hol ⊢;refine DK ?_;refine ze (zz rfl (λhc2=>?_) (λhc2=>?_))
  ·simp at hc2;obtain⟨s,tl2,b1,b2,b3,e1,e2⟩:=el 2 rfl l k hc2;refine zk (ze (zn (ze (zi [] (zF e1 e2 hc2) ?_))));intro v2;refine DK ?_
   by_cases hd:s.d=day
   ·repeat apply ze
    refine zo (by simp[hd]) ?_;refine zg ?_;refine⟨by omega,?_⟩;refine zg ?_;exact zv (k+1,out++[⟨i,s.q⟩],w+1) [_] ⟨hc2,by rw[Zgh b1,if_pos hd,ho];simp,by simp;omega⟩ DF (by simp[zA k (by omega)]) rfl DD
   ·repeat apply ze
    refine zp (by simp[hd]) ?_;refine zk (zg ?_);exact zv (k+1,out,w) [_] ⟨hc2,by rw[Zgh b1,if_neg hd,ho];simp,by dsimp only;omega⟩ DF (by simp[zA k (by omega)]) rfl DD
  ·simp at hc2;obtain rfl:k=l.length:=DB
   rw[ZoK v day i l a1,<-Zgg]at ho;refine zC (zg ?_);exact zv (i+1,out,w) [] ⟨hc,ho⟩ DF (by simp[zA i (by omega)]) rfl DC
 ·simp at hc;obtain rfl:i=x.cust.length:=DB
  refine zC (yb 1 rfl ?_);refine DK ?_;exact zj (zm hd DD (by simp[zq,ho]))
end Go.Proofs.YtcocagkbfpgmiaaGreatDoor.Pv
