/- Part of a proof, packed. -/
import Derived.Test.YtcocagkbfpgmiaaGreatDoorB4
open Go.Proofs.Tryz
set_option maxRecDepth 100000
set_option maxHeartbeats 3200000
namespace Go.Proofs.YtcocagkbfpgmiaaGreatDoor.Pv
open Go
theorem Zq4(x:Inst)(hx:InstOk x):Pure prog 56 [.agg (zE x)] (B (yS x)):=by
 have b8:=hx.ncust;refine zx func56 ntmps56 results56 λS nx g=>?_
 refine DY ?_;intro v0;refine DY ?_
 by_cases h1:x.days<1
 ·repeat apply ze
  refine zi [(3,14),(8,19),(13,24),(18,29),(23,34),(28,39),(33,44),(38,49),(42,53)] (zq h1 zB) ?_;refine zo rfl (DY ?_);exact zj (zm g rfl (by simp[yS,zX,zr,show ¬1<=x.days by omega]))
 by_cases h2:(64:Int)<x.days
 ·repeat apply ze
  refine zi [(3,14),(8,19),(13,24),(18,29),(23,34),(28,39),(33,44),(38,49),(42,53)] (zF h2 h1 zB) ?_;refine zo rfl (DY ?_);exact zj (zm g rfl (by simp[yS,zX,zr,show ¬x.days<=64 by omega]))
 by_cases h3:x.veh<0
 ·repeat apply ze
  refine zi [(3,14),(8,19),(13,24),(18,29),(23,34),(28,39),(33,44),(38,49),(42,53)] (zS h3 h1 h2 zB) ?_;refine zo rfl (DY ?_);exact zj (zm g rfl (by simp[yS,zX,zr,show ¬0<=x.veh by omega]))
 by_cases t:(2147483648:Int)<x.veh
 ·repeat apply ze
  refine zi [(3,14),(8,19),(13,24),(18,29),(23,34),(28,39),(33,44),(38,49),(42,53)] (yr t h1 h2 h3 zB) ?_;refine zo rfl (DY ?_);exact zj (zm g rfl (by simp[yS,zX,zr,show ¬x.veh<=2147483648 by omega]))
 by_cases u:x.cap<0
 ·repeat apply ze
  refine zi [(3,14),(8,19),(13,24),(18,29),(23,34),(28,39),(33,44),(38,49),(42,53)] (zW u h1 h2 h3 t zB) ?_;refine zo rfl (DY ?_);exact zj (zm g rfl (by simp[yS,zX,zr,show ¬0<=x.cap by omega]))
 by_cases z:(2147483648:Int)<x.cap
 ·repeat apply ze
  refine zi [(3,14),(8,19),(13,24),(18,29),(23,34),(28,39),(33,44),(38,49),(42,53)] (zW z h1 h2 h3 t (zq u zB)) ?_;refine zo rfl (DY ?_);exact zj (zm g rfl (by simp[yS,zX,zr,show ¬x.cap<=2147483648 by omega]))
 by_cases h7:x.len<0
 ·repeat apply ze
  refine zi [(3,14),(8,19),(13,24),(18,29),(23,34),(28,39),(33,44),(38,49),(42,53)] (zW h7 h1 h2 h3 t (zF u z zB)) ?_;refine zo rfl (DY ?_);exact zj (zm g rfl (by simp[yS,zX,zr,show ¬0<=x.len by omega]))
 by_cases h8:(2147483648:Int)<x.len
 ·repeat apply ze
  refine zi [(3,14),(8,19),(13,24),(18,29),(23,34),(28,39),(33,44),(38,49),(42,53)] (zW h8 h1 h2 h3 t (zS u z h7 zB)) ?_;refine zo rfl (DY ?_);exact zj (zm g rfl (by simp[yS,zX,zr,show ¬x.len<=2147483648 by omega]))
 by_cases h9:(2000:Int)<(x.cust.length:Int)
 ·repeat apply ze
  refine zi [(3,14),(8,19),(13,24),(18,29),(23,34),(28,39),(33,44),(38,49),(42,53)] (zW h9 h1 h2 h3 t (yr u z h7 h8 zB)) ?_;refine zo rfl (DY ?_);exact zj (zm g rfl (by simp[yS,zr,show ¬x.cust.length<=2000 by omega]))
 have w1:=zy x.cust.length DO;have l:IntKind.i64.wrap ((x.cust.length:Int)+1)=(x.cust.length:Int)+1:=by rw[w1];omega
 by_cases m:(x.dist.length:Int)=(x.cust.length:Int)+1
 case neg =>
  repeat apply ze
  refine zi [(3,14),(8,19),(13,24),(18,29),(23,34),(28,39),(33,44),(38,49),(42,53)] (zW h1 h2 h3 t u (zW z h7 h8 h9 m l)) ?_;refine zo (by simp[m]) ?_;refine DY ?_;exact zj (zm g rfl (by simp[yS,Zi,zr,show ¬x.dist.length=x.cust.length+1 by omega]))
 have a0:x.dist.length=x.cust.length+1:=DO
 repeat apply ze
 refine zi [(3,14),(8,19),(13,24),(18,29),(23,34),(28,39),(33,44),(38,49),(42,53)] (zW h1 h2 h3 t u (zW z h7 h8 h9 m l)) ?_;refine zp (by simp[m]) ?_;refine zk ?_;have e:yS x=(x.cust.all (j7 · x.days) && vf (x.cust.length+1) 0 x.dist):=by
  have e1:zX x.days 1 64=true:=by simp[zX];omega
  have e2:zX x.veh 0 2147483648=true:=by simp[zX];omega
  have e3:zX x.cap 0 2147483648=true:=by simp[zX];omega
  have e4:zX x.len 0 2147483648=true:=by simp[zX];omega
  have e5:x.cust.length<=2000:=DO
  simp[yS,e1,e2,e3,e4,e5,Zi,a0]
 rw[e];clear e
 repeat apply ze
 refine zg ?_;refine zn (zK (λs:Nat=>s<=x.cust.length/\(x.cust.take s).all (j7 · x.days)=true) (λk=>[(1,.ptr nx v0 0),(3,I x.cust.length),(4,I k)]) (λ_=>[.cells v0 25 (zE x)]) (λs=>x.cust.length-s) 0 [] DP DP DP ?_);rintro k ⟨hk,ho⟩
 repeat apply ze
 refine zg ?_;refine zA rfl (λhc=>?_) (λhc=>?_)
 ·simp at hc;obtain⟨c,tl,a1,a2,a3,_,o⟩:=el 8 rfl x.cust k hc;have a4:=Ab a1;have a5:=hx.cust c a4;refine zk (ze (zn (ze (zD none (Row.pures [0,1,2,3,4,5,6,7,8] .done) mixed (zq hc o) ?_))));refine zO (Zq3 c x.days a5.pats a5.npats) trivial ?_;refine DY ?_;cases hb:j7 c x.days with
  | false =>
   have p:x.cust.all (j7 · x.days)=false:=by rw[Bm];exact⟨c,a4,by simp[hb]⟩
   refine zo rfl (DY ?_);exact zj (zm g DQ (by simp only[p,zr,Cu]))
  | true =>
   refine zp rfl (zk (zg ?_));exact zu (k+1) [] ⟨hc,by rw[a3,BD,ho];simp[hb]⟩ DO (by simp[zy k (by omega)]) rfl DP
 ·simp at hc;obtain rfl:k=x.cust.length:=DO
  rw[Ai]at ho;rw[ho,CJ];refine zC ?_
  repeat apply ze
  refine zg ?_;generalize hn:x.cust.length=n at *;refine zn (zK (λs:Nat=>s<=n+1/\vf (n+1) 0 x.dist=vf (n+1) s (x.dist.drop s)) (λk=>[(1,.ptr nx v0 0),(3,I n),(6,I k)]) (λ_=>[.cells v0 25 (zE x)]) (λs=>n+1-s) 0 [] DP DP DP ?_);rintro a ⟨ha,v⟩
  repeat apply ze
  refine zg ?_;refine zA rfl (λw=>?_) (λw=>?_)
  ·simp at w;have f:a<x.dist.length:=DO
   obtain⟨row,tl,a1,a2,a3,o⟩:=zN rfl x.dist a f;have b7:=hx.dist row (Ab a1);rw[a2]at v;simp only[vf]at v;have bad:(row.length=n+1/\row.getD a 0=0->row.all (zX · 0 2147483648)=false)->vf (n+1) 0 x.dist=false:=by
    intro q;rw[v]
    by_cases q1:row.length=n+1
    ·by_cases q2:row.getD a 0=0
     ·rw[q ⟨q1,q2⟩];simp
     ·simp only[q2,decide_false,CA,Cu]
    ·simp only[q1,decide_false,CA,Cu]
   refine zk (ze (zn ?_))
   by_cases h2:row.length=n+1
   case neg =>
    have e:=bad (λq=>absurd q.1 h2);have i:¬((row.length:Int)=(n:Int)+1):=DO
    repeat apply ze
    refine zi [] (zS f o i l) ?_;refine zo (by simp[i]) ?_;refine DY ?_;exact zj (zm g DQ (by simp only[e,zr]))
   have i:((row.length:Int)=(n:Int)+1):=DO
   repeat apply ze
   refine zi [] (zS f o i l) ?_;refine zp (by simp[i]) ?_;refine zk (DY ?_);refine zn (zK (λs:Nat=>s<=n+1/\(row.take s).all (zX · 0 2147483648)=true/\(a<s->row.getD a 0=0)) (λj=>[(1,.ptr nx v0 0),(3,I n),(6,I a),(7,I j)]) (λ_=>[.cells v0 25 (zE x)]) (λs=>n+1-s) 0 [] DP DP DP ?_);rintro b ⟨hb,r,p⟩
   repeat apply ze
   refine zg ?_;refine zA rfl (λy=>?_) (λy=>?_)
   ·simp at y;have h:b<row.length:=DO
    obtain⟨d,c6,b1,b2,b3,e2⟩:=zN rfl row b h;have a6:=Ab b1;have c7:b<n+1:=DO
    refine zk (ze (zn ?_))
    by_cases g1:d<0
    ·have e:=bad (λ_=>by rw[Bm];exact⟨d,a6,by simp[zX];omega⟩);refine ze (zi [(9,104),(20,115),(24,119)] (zW f o h e2 g1 zB) ?_);refine zo rfl (DY ?_);exact zj (zm g DQ (by simp only[e,zr]))
    by_cases g2:(2147483648:Int)<d
    ·have e:=bad (λ_=>by rw[Bm];exact⟨d,a6,by simp[zX];omega⟩);refine ze (zi [(9,104),(20,115),(24,119)] (zW f o h e2 g1 (zq g2 zB)) ?_);refine zo rfl (DY ?_);exact zj (zm g DQ (by simp only[e,zr]))
    have a7:zX d 0 2147483648=true:=by simp[zX];omega
    by_cases g3:a=b
    ·subst g3;have a8:row.getD a 0=d:=by rw[Aa,b1];rfl
     by_cases g4:d=0
     ·refine ze (zi [(9,104),(20,115),(24,119)] (zW f o h e2 g1 (zq g2 g4)) ?_);refine zp DP ?_;refine zk (zg ?_);exact zu (a+1) [] ⟨by omega,by rw[b3,BD,r];simp[a7],λ_=>a8.trans g4⟩ DO (by simp[zy a (by omega)]) rfl DP
     ·have e:=bad (λq=>absurd (a8.symm.trans q.2) g4);refine ze (zi [(9,104),(20,115),(24,119)] (zW f o h e2 g1 (zq g2 g4)) ?_);refine zo (by simp[g4]) ?_;refine DY ?_;exact zj (zm g DQ (by simp only[e,zr]))
    ·have a9:¬((a:Int)=(b:Int)):=DO
     refine ze (zi [(9,104),(20,115),(24,119)] (zW f o h e2 g1 (zS g2 g3 a9 zB)) ?_);refine zp DP ?_;refine zk (zg ?_);exact zu (b+1) [] ⟨by omega,by rw[b3,BD,r];simp[a7],λq=>p DO⟩ DO (by simp[zy b (by omega)]) rfl DP
   ·simp at y;obtain rfl:b=n+1:=DO
    rw[Af DO]at r;have h0:=p DO;refine zC (zg ?_);exact zu (a+1) [] ⟨by omega,by rw[v,r,h0];simp[h2]⟩ DO (by simp[zy a (by omega)]) rfl DP
  ·simp at w;obtain rfl:a=n+1:=DO
   rw[AX DO]at v;simp only[vf]at v;refine zC (DY ?_);exact zj (zm g DQ (by simp[v,zr]))
open Go
abbrev ZaZ(x:Inst)(p:zH)(i:Int):List PV:=[I x.days,I x.veh,I x.cap,I x.len,L x.cust,L x.dist,L p,I i]
def Za0(c:Cust)(v:List Visit):Int:=if (v.any λs=>decide (s.q≠c.demand))=true then 9 else if Q4 (v.map (·.d))∈c.pats then 0 else 10
def Qg(x:Inst)(p:zH)(i:Nat):Int :=
 match x.cust[i]? with
 | none=>5
 | some c=>if c.kind=2 then Z1 c (yV (qk i (told 0 p)) x.days) else Za0 c (qk i (told 0 p))
structure Serves (x:Inst) (p:zH):Prop where
 sz:PlanOk p
 q:∀s∈told 0 p,0<=s.1.q/\s.1.q<=2147483648
 days:p.length<=64
theorem Zh2:∀(p:zH) (i:Nat) (x:Stop × Nat),x∈told i p->i<=x.2/\x.2<i+p.length
 | [],_,_,h=>by cases h
 | d :: p,i,x,h=>by
  simp only[told,AB,Al]at h;simp only[Ae];rcases h with ⟨s,_,rfl⟩ | h
  ·simp only;omega
  ·have:=Zh2 p (i+1) x h;omega
theorem Zh3{x:Inst}{p:zH}(h:Serves x p)(c:Int):VisOk (qk c (told 0 p))/\∀s∈qk c (told 0 p),0<=s.d/\s.d<=63:=by
 have a:∀s∈qk c (told 0 p),(0<=s.q/\s.q<=2147483648)/\0<=s.d/\s.d<=63:=by
  intro s hs;simp only[qk,Al,Bn]at hs;obtain⟨y,⟨b,_⟩,rfl⟩:=hs;have h1:=h.q y b;have h2:=Zh2 p 0 y b;have h3:=h.days;simp only;omega
 exact⟨⟨AF (ZhQ _ _) h.sz.told,λs hs=>(a s hs).1,λs hs=>by have:=(a s hs).2;unfold zT;omega⟩,λs hs=>(a s hs).2⟩
theorem Zh4(x:Inst)(p:zH)(i:Nat)(h:Serves x p):Pure prog 114 [.agg (ZaZ x p i)] (L (yV (qk i (told 0 p)) x.days)):=by
 have h1:=Zdu p i h.sz;have h2:=ZhX _ x.days (Zh3 h i).1;generalize yV (qk i (told 0 p)) x.days=q at h2 ⊢;generalize qk i (told 0 p)=v at h1 h2;refine zx func114 ntmps114 results114 λS nx a=>?_
 refine DY ?_;intro v0;refine ze (zD (some [nx]) (Row.pures [0,1,2,3,4,5,6,7,8,9] .done) mixed trivial ?_);refine zO (h1) trivial ?_;refine zO (h2) trivial ?_;exact DZ a
theorem Zq5(x:Inst)(p:zH)(i:Nat)(c:Cust)(h:Serves x p)(hc:x.cust[i]?=some c)(hf:CustFits c):Pure prog 155 [.agg (ZaZ x p i)] (I (Z1 c (yV (qk i (told 0 p)) x.days))):=by
 have h1:=Zh4 x p i h;have a:i<x.cust.length:=(Ad.1 hc).1;obtain⟨b,tl,d,g,a3,_,e⟩:=el 8 rfl x.cust i a;obtain rfl:b=c:=by rw[d]at hc;exact Option.some.inj hc
 have h2:=ZhW b (yV (qk i (told 0 p)) x.days) hf (by rw[ZaY];omega);generalize yV (qk i (told 0 p)) x.days=q at h1 h2 ⊢;refine zx func155 ntmps155 results155 λS nx f=>?_
 refine DY ?_;intro v0;refine ze (zD (some [nx]) (Row.pures [0,1,2,3,4,5,6,7,8,9,10] .done) mixed (zq a e) ?_);refine zO (h1) trivial ?_;refine zO (h2) trivial ?_;exact DZ f
theorem Zq6(x:Inst)(p:zH)(i:Nat)(c:Cust)(h:Serves x p)(hc:x.cust[i]?=some c)(l:c.pats.length<=1048576):Pure prog 154 [.agg (ZaZ x p i)] (I (Za0 c (qk i (told 0 p)))):=by
 have h1:=Zdu p i h.sz;have h2:=Zqx p i h.sz;have e:=(Zh3 h i).1.n;have f:i<x.cust.length:=(Ad.1 hc).1;obtain⟨b,tl,r,w,a3,_,t⟩:=el 8 rfl x.cust i f;obtain rfl:b=c:=by rw[r]at hc;exact Option.some.inj hc
 generalize qk i (told 0 p)=v at h1 h2 e ⊢;have h3:=Zqz (v.map (·.d)) (by simpa using e);have o:=ZqB b.pats (Q4 (v.map (·.d))) l;unfold Za0;generalize Q4 (v.map (·.d))=set at h3 o ⊢;refine zx func154 ntmps154 results154 λS nx m=>?_
 refine DY ?_;intro v0;refine ze (zi [] (zq f t) ?_);intro v1
 repeat apply ze
 refine zg ?_;refine zv h1 ?_;refine zn (zK (λs:Nat=>s<=v.length/\((v.take s).any λs=>decide (s.q≠b.demand))=false) (λk=>[(1,.ptr nx v0 0),(3,.ptr (nx+1) v1 0),(18,L v),(19,I v.length),(20,I k)]) (λ_=>[.cells v0 171 (ZaZ x p i),.cells v1 87 (yi b)]) (λs=>v.length-s) 0 [] DP DP DP ?_);rintro k ⟨y,ho⟩;refine DY ?_;refine ze (zA rfl (λa=>?_) (λa=>?_))
 ·simp at a;obtain⟨s,u,b1,b2,b3,z,e2⟩:=el 2 rfl v k a;refine zk (ze (zn (ze (zi [] (zq a e2) ?_))));intro v2
  by_cases j:s.q=b.demand
  ·refine ze (zi [] j ?_);refine zp DP ?_;refine zk (zg ?_);exact zu (k+1) [_] ⟨a,by rw[b3,List.any_append,ho];simp[j]⟩ DO (by simp[zy k (by omega)]) rfl rfl
  ·have g:(v.any λs=>decide (s.q≠b.demand))=true:=by rw[B8];exact⟨s,Ab b1,by simpa using j⟩
   refine ze (zi [] j ?_);refine zo DP ?_;refine DY ?_;exact zj (zm m DQ (by rw[if_pos g];rfl))
 ·simp at a;obtain rfl:k=v.length:=DO
  rw[Ai]at ho;refine zC (DY ?_);refine zv h2 ?_;refine zv h3 ?_
  repeat apply ze
  refine zg ?_;refine zv o ?_
  by_cases hm:set∈b.pats
  ·repeat apply ze
   refine zp (by simp[hm]) ?_;refine zk (DY ?_);exact zj (zm m DQ (by rw[ho];simp[hm,zr]))
  ·repeat apply ze
   refine zo (by simp[hm]) ?_;refine DY ?_;exact zj (zm m DQ (by rw[ho];simp[hm,zr]))
structure CustsOk (x:Inst):Prop where
 n:x.cust.length<=1048576
 kind:∀c∈x.cust,c.kind=1\/c.kind=2
 fits:∀c∈x.cust,CustFits c
 pats:∀c∈x.cust,c.pats.length<=1048576
 wX:∀c∈x.cust,∀p∈c.pats,p<2 ^ 64
theorem Zq7(x:Inst)(p:zH)(i:Nat)(h:Serves x p)(hx:CustsOk x)(hi:i<x.cust.length):Pure prog 112 [.agg (zE x),.agg [L p],I i] (I (Qg x p i)):=by
 obtain⟨c,tl,m,r,a3,_,n⟩:=el 8 rfl x.cust i hi;have j:=Ab m;have k:Qg x p i=if c.kind=2 then Z1 c (yV (qk i (told 0 p)) x.days) else Za0 c (qk i (told 0 p)):=by simp only[Qg,m]
 rw[k];have q:¬(i:Int)<0:=DO
 have g1:¬(x.cust.length:Int)<=(i:Int):=DO
 refine zx func112 ntmps112 results112 λS nx o=>?_
 refine DY ?_;intro v0 v1
 repeat apply ze
 refine zi [(2,12)] (zF q g1 hi) ?_;refine zp DP ?_;refine zk (ze (xL [] DU DU λK Gc Gh g d b X a f=>?_));simp -implicitDefEqProofs [a,f]
 try clear a f X
 intro s;refine b _ _ _ _ _ λe=>Y3 (.inr rfl) underlying215 underlying3 rfl (by simp;exact⟨rfl,rfl⟩) DQ DQ (by simp[jC];rfl) ?_
 refine⟨_,_,yl _ DO DP,?_⟩;clear d b;clear Gc Gh;refine wK e (D:=[]) DU λGc Gh d b X a f=>?_
 simp -implicitDefEqProofs [a,f];clear a f X;refine b _ _ _ _ _ λe=>Y3 (.inr rfl) underlying215 underlying3 rfl (by simp;exact⟨rfl,rfl⟩) DQ DQ (by simp[jC,jq];rfl) ?_
 refine⟨_,_,yl _ DO DP,?_⟩;clear d b;clear Gc Gh;refine wK e (D:=[]) DU λGc Gh d b X a f=>?_
 simp -implicitDefEqProofs [a,f,jq];clear a f X;refine g _ _ _ ?_;clear g d b;clear K Gc Gh;rcases hx.kind c j with l | l
 ·refine ze (xL [] DU DU λK Gc Gh g d b X a f=>?_);simp -implicitDefEqProofs [a,f,hi,n,l]
  try clear a f X
  refine b _ _ _ _ _ λe=>ZP rfl underlying215 underlying3 rfl (by simp;exact⟨rfl,rfl⟩) DQ DQ (by simp[jC,jq];rfl) DQ ?_
  refine⟨_,_,rfl,?_⟩;clear d b;clear Gc Gh;refine wK e (D:=[]) DU λGc Gh d b X a f=>?_
  simp -implicitDefEqProofs [a,f,Yn];clear a f X;refine g _ _ _ ?_;clear g d b;clear K Gc Gh
  repeat apply ze
  refine zg ?_;refine zp DP ?_;refine zk (DY ?_);refine zv (Zq6 x p i c h m (hx.pats c j)) ?_;exact zj (zm o DQ (by simp[l,zr]))
 ·refine ze (xL [] DU DU λK Gc Gh g d b X a f=>?_);simp -implicitDefEqProofs [a,f,hi,n,l]
  try clear a f X
  refine b _ _ _ _ _ λe=>ZP rfl underlying215 underlying3 rfl (by simp;exact⟨rfl,rfl⟩) DQ DQ (by simp[jC,jq];rfl) DQ ?_
  refine⟨_,_,rfl,?_⟩;clear d b;clear Gc Gh;refine wK e (D:=[]) DU λGc Gh d b X a f=>?_
  simp -implicitDefEqProofs [a,f,Yn];clear a f X;refine g _ _ _ ?_;clear g d b;clear K Gc Gh
  repeat apply ze
  refine zg ?_;refine zp DP ?_;refine zk (DY ?_);refine zv (Zq5 x p i c h m (hx.fits c j)) ?_;exact zj (zm o DQ (by simp[l,zr]))
open Go
theorem ZdC:∀(l:List Int),(∀b∈l,b=0\/b=1)->∀i:Nat,(jZ l).toNat.testBit i=decide (l[i]?=some 1)
 | [],_,i=>by simp[jZ]
 | b :: l,h,i=>by
  have hl:∀b∈l,b=0\/b=1:=λx hx=>h x (by simp[hx])
  have h0:=(Zas l hl).1;have hb:=h b DP;have hn:jZ (b :: l)=2*jZ l+b:=rfl;cases i with
  | zero =>
   rw[Nat.testBit_zero,hn];simp only[Bd,Option.some.injEq];apply decide_eq_decide.2;omega
  | succ i =>
   rw[Nat.testBit_succ,hn];have:(2*jZ l+b).toNat / 2=(jZ l).toNat:=DO
   rw[this,ZdC l hl i];simp
theorem X3(n i:Nat):n.testBit i=decide (yL n i=1):=by rw[CL];rfl
theorem Zq8(n d:Nat)(hn:n<2 ^ 64)(c:d<64):XE n d=jo n d:=by
 have a:∀b∈(qh n).set d 1,b=0\/b=1:=λb hb=>by
  rcases Zcu hb with h | h
  ·exact Zcq n b h
  ·exact .inr h
 apply C9;intro i;unfold XE WR jo;rw[ZdC _ a,if_pos DO,Dk,AN,CC,Bu];have hl:=QN n
 by_cases h:d=i
 ·subst h;simp[hl,c]
 ·rw[if_neg h]
  by_cases hi:i<64
  ·rw[Zct n i hi,X3];simp[h];omega
  ·rw[Ao DO];have:n.testBit i=false:=Cv (Bj hn (BH DV DO));simp[this,h]
open Go
def j8:List Int->Int
 | []=>0
 | e :: l=>if e≠0 then e else j8 l
theorem Za1{l:List Int}(h:∀e∈l,e=0):j8 l=0:=by
 induction l with
 | nil=>rfl
 | cons e l a=>simp only[j8,h e DP,ne_eq,not_true,if_false];exact a λx hx=>h x (by simp[hx])
theorem ZdD{l:List Int}{k:Nat}{e:Int}(h:∀e∈l.take k,e=0)(b:l[k]?=some e)(c:e≠0):j8 l=e:=by
 induction l generalizing k with
 | nil=>cases b
 | cons a l d =>
  cases k with
  | zero=>simp at b;subst b;simp[j8,c]
  | succ k =>
   simp only[j8,h a DP,ne_eq,not_true,if_false];exact d (k:=k) (λx hx=>h x (by rw[Dd];simp[hx])) (by simpa using b)
theorem Zq9(l:List Int):j8 l=0<->∀e∈l,e=0:=by
 refine⟨λh=>?_,Za1⟩
 induction l with
 | nil=>intro e c;cases c
 | cons a l d =>
  simp only[j8]at h;split at h
  ·rename_i b;exact absurd h b
  ·rename_i b;intro e c;rcases Au.1 c with rfl | c
   ·simpa using b
   ·exact d h e c
def Q6(x:Inst)(p:zH):Int :=
 if yS x=false then 3 else if (p.length:Int)≠x.days then 1 else if j8 (p.map (yE x))≠0 then j8 (p.map (yE x)) else j8 ((List.range x.cust.length).map (Qg x p))
structure PlanSz (p:zH):Prop where
 ok:PlanOk p
 f:∀d∈p,d.flatten.length<=1048576
theorem ZdE:∀(p:zH) (i:Nat) (x:Stop × Nat),x∈told i p->∃d∈p,x.1∈d.flatten
 | [],_,_,h=>by cases h
 | d :: p,i,x,h=>by
  simp only[told,AB,Al]at h;rcases h with ⟨s,hs,rfl⟩ | h
  ·exact⟨d,by simp,hs⟩
  ·obtain⟨a,h1,h2⟩:=ZdE p (i+1) x h;exact⟨a,by simp[h1],h2⟩
theorem Za2{x:Inst}{d:zt}(h:yE x d=0):∀s∈d.flatten,jM x s=true:=by
 intro s hs;obtain⟨t,b,a⟩:=Bt.1 hs;have hm:yc x t=0:=by
  unfold yE at h;split at h
  ·rename_i u c;have:=List.find?_some c;simp[h]at this
  ·rename_i hn;rw[List.find?_eq_none]at hn;simpa using hn t b
 have:jD x t=true:=by
  by_cases q:jD x t=true
  ·exact q
  ·simp[yc,q]at hm
 unfold jD at this;simp only[Ar,Aw]at this;exact this.1 s a
theorem Zra{x:Inst}{p:zH}(e:PlanSz p)(hx:InstOk x)(hm:yS x=true)(c:(p.length:Int)=x.days)(h0:∀d∈p,yE x d=0):Serves x p:=by
 have a:1<=x.days/\x.days<=64:=by
  unfold yS at hm;simp only[Ar]at hm;have:=hm.1.1.1.1.1.1;simpa[zX] using this
 refine⟨e.ok,λs hs=>?_,by omega⟩;obtain⟨d,c,b⟩:=ZdE p 0 s hs;have:=Za2 (h0 d c) s.1 b;simp[jM]at this;omega
theorem Zrb{x:Inst}(hx:InstOk x)(hm:yS x=true):CustsOk x:=by
 unfold yS at hm;simp only[Ar,decide_eq_true_eq,Aw]at hm;obtain⟨⟨⟨⟨⟨⟨_,h1⟩,_⟩,_⟩,_⟩,h2⟩,_⟩:=hm;have d:∀c∈x.cust,c.kind=1\/c.kind=2:=λc hc=>by
  have:=h2 c hc
  by_cases k1:c.kind=1
  ·exact .inl k1
  ·by_cases e:c.kind=2
   ·exact .inr e
   ·rw[Zh1 c _ k1 e]at this;cases this
 refine⟨by omega,d,λc hc=>?_,λc hc=>?_,λc hc=>(hx.cust c hc).pats⟩
 ·have hb:=h2 c hc;rcases d c hc with k | k
  ·rw[ZdA c _ k]at hb;simp only[Ar,we,decide_eq_true_eq]at hb;obtain⟨_,a,b,c,_⟩:=hb;exact⟨by omega,by omega,by omega⟩
  ·rw[ZdB c _ k]at hb;simp only[Ar,zX,decide_eq_true_eq]at hb;obtain⟨⟨⟨⟨⟨a,b⟩,c⟩,_⟩,_⟩,_⟩:=hb;exact⟨by omega,by omega,by omega⟩
 ·have hb:=h2 c hc;rcases d c hc with k | k
  ·rw[ZdA c _ k]at hb;simp only[Ar,uh,zX,decide_eq_true_eq]at hb;omega
  ·rw[ZdB c _ k]at hb;simp only[Ar,uJ,decide_eq_true_eq]at hb;omega
theorem Zrc(x:Inst)(p:zH)(hx:InstOk x)(l:PlanSz p):Pure prog 67 [.agg (zE x),.agg [L p]] (I (Q6 x p)):=by
 have z:=l.ok.n;refine zx func67 ntmps67 results67 λS nx m=>?_
 refine DY ?_;intro v0 v1
 repeat apply ze
 refine zg ?_;refine zv (Zh0 x hx) ?_;cases hm:yS x with
 | false =>
  refine zo DP ?_;refine DY ?_;exact zj (zm m DQ (by simp[Q6,hm,zr]))
 | true =>
  have o:=Zrb hx hm;have r:=o.n;refine zp DP ?_;refine zk ?_
  by_cases a:(p.length:Int)=x.days
  case neg =>
   repeat apply ze
   refine zi [] a ?_;refine zo (by simp[a]) ?_;refine DY ?_;exact zj (zm m DQ (by simp[Q6,hm,a,zr]))
  have c:Q6 x p=if j8 (p.map (yE x))≠0 then j8 (p.map (yE x)) else j8 ((List.range x.cust.length).map (Qg x p)):=by simp[Q6,hm,a]
  repeat apply ze
  refine zi [] a ?_;refine zp (by simp[a]) ?_;refine zk ?_
  repeat apply ze
  refine zg ?_;refine qy (nx:=nx) (σ:=Unit) (λ_=>∀d∈p,yE x d=0) (λ_=>[(2,.ptr nx v0 0),(3,.ptr (nx+1) v1 0)]) (λ_=>S) (λ_=>[.cells v0 25 (zE x),.cells v1 30 [L p]]) ?_ ?_
  ·refine zn (zK (λs:Nat=>s<=p.length/\∀d∈p.take s,yE x d=0) (λk=>[(2,.ptr nx v0 0),(3,.ptr (nx+1) v1 0),(20,L p),(21,I p.length),(22,I k)]) (λ_=>[.cells v0 25 (zE x),.cells v1 30 [L p]]) (λs=>p.length-s) 0 [] DP (by simp[a]) DP ?_);rintro k ⟨hk,ho⟩;refine DY ?_;refine ze (zA rfl (λhc=>?_) (λhc=>?_))
   ·simp at hc;obtain⟨d,tl,y,a2,a3,e0⟩:=zN rfl p k hc;have j:=Ab y;refine zk (ze (zn (ze (zi [] (zq hc e0) ?_))));intro v2;refine DY ?_;refine zv (Zcz x d r (l.ok.d d j) (l.ok.t d j) (l.f d j)) ?_
    by_cases h0:yE x d=0
    ·refine ze (zi [] h0 ?_);refine zp (by simp[h0]) ?_;refine zk (zg ?_);exact zu (k+1) [_] ⟨hc,λe b=>by rw[a3]at b;rcases AB.1 b with b | b;exact ho e b;rw[AU.1 b];exact h0⟩ DO (by simp[zy k (by omega)]) rfl rfl
    ·have hf:j8 (p.map (yE x))=yE x d:=ZdD (k:=k) (λe b=>by rw[<-List.map_take]at b;obtain⟨u,g,rfl⟩:=Al.1 b;exact ho u g) (by rw[Aj,y];rfl) h0;refine ze (zi [] h0 ?_);refine zo (by simp[h0]) ?_;refine DY ?_;exact zj (zm m DQ (by rw[c,hf];simp[h0,zr]))
   ·simp at hc;obtain rfl:k=p.length:=DO
    rw[Ai]at ho;exact zC (zZ () [] ho DP rfl DP)
  intro _ h;have v:=Zra l hx hm a h;have w:j8 (p.map (yE x))=0:=Za1 λe b=>by obtain⟨u,g,rfl⟩:=Al.1 b;exact h u g
  rw[w]at c;simp only[ne_eq,not_true,if_false]at c;rw[c]
  repeat apply ze
  refine zg ?_;refine zn (zK (λs:Nat=>s<=x.cust.length/\∀i<s,Qg x p i=0) (λk=>[(2,.ptr nx v0 0),(3,.ptr (nx+1) v1 0),(35,I x.cust.length),(36,I k)]) (λ_=>[.cells v0 25 (zE x),.cells v1 30 [L p]]) (λs=>x.cust.length-s) 0 [] DP DP DP ?_);rintro k ⟨hk,ho⟩;refine DY ?_;refine ze (zA rfl (λhc=>?_) (λhc=>?_))
  ·simp at hc;refine zk (ze (zn (DY ?_)));refine DY ?_;refine zv (Zq7 x p k v o hc) ?_
   by_cases h0:Qg x p k=0
   ·refine ze (zi [] h0 ?_);refine zp (by simp[h0]) ?_;refine zk (zg ?_);exact zu (k+1) [] ⟨hc,λi hi=>by by_cases q:i=k;rw[q];exact h0;exact ho i DO⟩ DO (by simp[zy k (by omega)]) rfl DP
   ·have hf:j8 ((List.range x.cust.length).map (Qg x p))=Qg x p k:=ZdD (k:=k) (λe b=>by rw[<-List.map_take]at b;obtain⟨u,g,rfl⟩:=Al.1 b;rw[List.take_range]at g;have:=AK.1 g;exact ho u DO) (by rw[Aj,Bl hc];rfl) h0;refine ze (zi [] h0 ?_);refine zo (by simp[h0]) ?_;refine DY ?_;exact zj (zm m DQ (by rw[hf];rfl))
  ·simp at hc;obtain rfl:k=x.cust.length:=DO
   refine zC (DY ?_);exact zj (zm m DQ (by rw[Za1 λe b=>by obtain⟨u,g,rfl⟩:=Al.1 b;exact ho u (AK.1 g)];rfl))
open Go Go.Proofs Hp
def J1(l:List Visit)(day:Int)(i k:Nat):List Stop:=((l.take k).filter (λw=>w.d=day)).map λw=>⟨i,w.q⟩
def Qh(v:List (List Visit))(day:Int)(i:Nat):List Stop:=((v.getD i []).filter (λw=>w.d=day)).map λw=>⟨i,w.q⟩
def xT(v:List (List Visit))(day:Int)(n:Nat):List Stop:=(List.range n).flatMap (Qh v day)
theorem Zh5(v:List (List Visit))(a:Int)(n:Nat):xT v a (n+1)=xT v a n++Qh v a n:=by simp[xT,AO]
theorem Zrd(l:List Visit)(a:Int)(i:Nat):J1 l a i 0=[]:=rfl
theorem Zre(v:List (List Visit))(a:Int)(i:Nat)(l:List Visit)(h:v[i]?=some l):J1 l a i l.length=Qh v a i:=by simp_all[J1,Qh]
theorem Zh6{l:List Visit}{k:Nat}{w:Visit}(h:l[k]?=some w)(a:Int)(i:Nat):J1 l a i (k+1)=J1 l a i k++(if w.d=a then [⟨i,w.q⟩] else []):=by grind[J1,List.take_add_one]
structure VsOk (m n:Nat) (v:List (List Visit)):Prop where
 len:v.length=m
 ok:∀l∈v,∀w∈l,(0<=w.d/\w.d<n)/\1<=w.q/\w.q<=2147483648
 nd:∀l∈v,(l.map (·.d)).Nodup
 few:∀l∈v,l.length<=1000
theorem VsOk.at{m n:Nat}{v:List (List Visit)}(h:VsOk m n v)(i:Nat):(∀w∈v.getD i [],(0<=w.d/\w.d<n)/\1<=w.q/\w.q<=2147483648)/\((v.getD i []).map (·.d)).Nodup:=by
 rw[Aa];cases e:v[i]? with
 | none=>simp
 | some l=>exact⟨h.ok l (Ab e),h.nd l (Ab e)⟩
theorem Zrf{l:List Visit}(h:(l.map (·.d)).Nodup)(c:Int):(l.filter (λw=>w.d=c)).length<=1:=by
 have h1:=(List.filter_sublist (p:=λw:Visit=>decide (w.d=c)) (l:=l)).map (·.d);have h2:=h.sublist h1;have h3:∀w∈l.filter (λw=>w.d=c),w.d=c:=λw e=>by simp_all
 generalize l.filter (λw=>decide (w.d=c))=m at h2 h3
 match m,h2,h3 with
 | [],_,_=>simp
 | [_],_,_=>simp
 | a :: b :: m,h2,h3 =>
  simp_all
theorem Zrg{m n:Nat}{v:List (List Visit)}(h:VsOk m n v)(a:Int)(i:Nat):(Qh v a i).length<=1:=by
 unfold Qh;rw[List.length_map];exact Zrf (h.at i).2 a
theorem Zrh{m n:Nat}{v:List (List Visit)}(h:VsOk m n v){a:Int}{i:Nat}{s:Stop}(hs:s∈Qh v a i):s.c=i/\1<=s.q/\s.q<=2147483648:=by
 obtain⟨w,b,rfl⟩:=Al.1 hs;exact⟨rfl,((h.at i).1 w (Bn.1 b).1).2⟩
theorem ZdF{m n:Nat}{v:List (List Visit)}(h:VsOk m n v)(a:Int):∀k:Nat,(xT v a k).length<=k/\(∀s∈xT v a k,(0<=s.c/\s.c<k)/\1<=s.q/\s.q<=2147483648)/\((xT v a k).map (·.c)).Nodup
 | 0=>⟨by simp[xT],by simp[xT],by simp[xT]⟩
 | k+1=>by
  obtain⟨h1,h2,h3⟩:=ZdF h a k;have b:=Zrg h a k;have d:∀s∈Qh v a k,s.c=k/\1<=s.q/\s.q<=2147483648:=λs hs=>Zrh h hs
  rw[Zh5];refine⟨by grind,λs hs=>?_,?_⟩
  ·grind
  ·rw[List.map_append];generalize Qh v a k=e at b d
   match e,b,d with
   | [],_,_=>simpa using h3
   | [s],_,d =>
    grind
   | _ :: _ :: _,b,_=>simp at b
structure InstH (x:Inst):Prop where
 cust:x.cust.length<=1000
 diag:arc x 0 0=0
 arc:qQ x
 veh:0<=x.veh
theorem Zh7{x:Inst}(hx:InstH x){n:Nat}{v:List (List Visit)}(h:VsOk x.cust.length n v)(a:Int):SOk x (xT v a x.cust.length):=by
 obtain⟨h1,h2,h3⟩:=ZdF h a x.cust.length;have:=hx.cust;exact⟨by omega,hx.arc,hx.veh,by omega,λs hs=>by grind[qv],h3⟩
def X4(x:Inst)(v:List (List Visit))(b:Int)(n:Nat):List (zt × Int):=(List.range n).map λd:Nat=>Zf x b (xT v d x.cust.length)
def wP(x:Inst)(v:List (List Visit))(b:Int)(n:Nat):zH:=(X4 x v b n).map (·.1)
def jR(x:Inst)(v:List (List Visit))(b:Int)(n:Nat):List Int:=(X4 x v b n).map (·.2)
theorem ZdG(x:Inst)(v:List (List Visit))(b:Int)(n:Nat):(wP x v b n).length=n:=by simp[wP,X4]
theorem Zh8(x:Inst)(v:List (List Visit))(b:Int)(n:Nat):(jR x v b n).length=n:=by simp[jR,X4]
theorem Zri(x:Inst)(v:List (List Visit))(b:Int)(n:Nat):wP x v b (n+1)=wP x v b n++[(Zf x b (xT v n x.cust.length)).1]:=by simp[wP,X4,AO]
theorem Zrj(x:Inst)(v:List (List Visit))(b:Int)(n:Nat):jR x v b (n+1)=jR x v b n++[(Zf x b (xT v n x.cust.length)).2]:=by simp[jR,X4,AO]
open Go Go.Proofs Hp
theorem Zrk(x:Inst)(v:List (List Visit))(a:Int)(n:Nat)(hx:x.cust.length<=1000)(hv:VsOk x.cust.length n v):Pure prog 250 [.agg (zE x),L v,I a] (L (xT v a x.cust.length)):=by
 have f:=hv.len;have g:=λk=>(ZdF hv a k).1
 have h:jJ (x.cust.length:Int) (x.cust.length:Int)=x.cust.length:=by unfold jJ;simp
 refine zx func250 ntmps250 results250 λS nx c=>?_
 refine DY ?_;intro v0;refine DY ?_;refine ze (q9 7 100 2 rfl λv1=>?_);refine DY ?_;refine zn (zK (λs:Nat × List Stop × Nat=>s.1<=x.cust.length/\s.2.1=xT v a s.1) (λ(i,out,w)=>[(1,L v),(2,I a),(7,.sl (nx+1) w 2 0 out.length),(16,I x.cust.length),(17,I i)]) (λ(i,out,w)=>[.cells v0 25 (zE x),.cells w 100 (out.flatMap Enc.enc)]) (λs=>x.cust.length-s.1) (0,[],v1) [] (by simp[xT]) (by simp[f,h]) DP ?_);rintro⟨i,out,w⟩ ⟨hi,ho⟩;simp only at hi ho ⊢;refine DY ?_;refine ze (zA rfl (λhc=>?_) (λhc=>?_))
 ·simp at hc;have e:i<v.length:=DO
  obtain⟨l,tl,m,z,a3,o⟩:=zN rfl v i e;have p:=hv.few l (Ab m);have r:=g i;refine zk (ze (zn (DY ?_)));refine ze (zi [] (zq o e) ?_);refine zn (zK (λs:Nat × List Stop × Nat=>s.1<=l.length/\s.2.1=xT v a i++J1 l a i s.1/\s.2.1.length<=i+s.1) (λ(k,out,w)=>[(1,L v),(2,I a),(7,.sl (nx+1) w 2 0 out.length),(8,I i),(16,I x.cust.length),(17,I i),(23,L l),(24,I l.length),(25,I k)]) (λ(k,out,w)=>[.cells v0 25 (zE x),.cells w 100 (out.flatMap Enc.enc)]) (λs=>l.length-s.1) (0,out,w) [] ⟨by simp,by simp[Zrd,ho],by simp[ho];omega⟩ DP DP ?_);clear ho;rintro⟨k,out,w⟩ ⟨t,ho,j⟩;simp only at t ho j ⊢;refine DY ?_;refine ze (zA rfl (λb=>?_) (λb=>?_))
  ·simp at b;obtain⟨s,u,b1,b2,b3,y,e2⟩:=el 2 rfl l k b;refine zk (ze (zn (ze (zi [] (zF y e2 b) ?_))));intro v2;refine DY ?_
   by_cases c:s.d=a
   ·repeat apply ze
    refine zo (by simp[c]) ?_;refine zg ?_;refine⟨by omega,?_⟩;refine zg ?_;exact zu (k+1,out++[⟨i,s.q⟩],w+1) [_] ⟨b,by rw[Zh6 b1,if_pos c,ho];simp,by simp;omega⟩ DT (by simp[zy k (by omega)]) rfl DQ
   ·repeat apply ze
    refine zp (by simp[c]) ?_;refine zk (zg ?_);exact zu (k+1,out,w) [_] ⟨b,by rw[Zh6 b1,if_neg c,ho];simp,by dsimp only;omega⟩ DT (by simp[zy k (by omega)]) rfl DQ
  ·simp at b;obtain rfl:k=l.length:=DO
   rw[Zre v a i l m,<-Zh5]at ho;refine zC (zg ?_);exact zu (i+1,out,w) [] ⟨hc,ho⟩ DT (by simp[zy i (by omega)]) rfl DP
 ·simp at hc;obtain rfl:i=x.cust.length:=DO
  refine zC (yh 1 rfl ?_);refine DY ?_;exact zj (zm c DQ (by simp[zr,ho]))
open Go
section
variable {P:Program} {r:Rd} {n N:Nat} {Q:Exit->(Nat->PV)->Store->Prop} {F:Nat->PV} {c:Code}
theorem Zrl{S1 T:Store}{G:Nat->PV}{id ver e:Nat}{cs:List PV}(hid:S1 id=.cells ver e cs)(hT:T id=.dead)(g:∀o,T o=.dead\/T o=S1 o\/T o=wB id ver cs (S1 o))
  (hG:∀i,G i=F i\/G i=qO id ver cs (F i)) (h:PW P r n N c Q G T):PW P r n N c Q F S1:=by
 refine Y1 (F':=G) (S':=T) (λC w a st=>?_) h;have j:∀o v,(T o).ver=some v->(S1 o).ver=some v:=by
  intro o v hv;rcases g o with q | q | q
  ·rw[q]at hv;cases hv
  ·simp_all
  ·grind[Zfo]
 have f:∀o,T o≠.dead->S1 o≠.dead:=by
  intro o ho hd;rcases g o with q | q | q
  ·exact ho q
  ·simp_all
  ·simp_all
 have hM:∀b,C.M T b->C.M S1 b:=λb ⟨o,k,ho,hl⟩=>⟨o,k,f o ho,hl⟩
 have d:Step C S1 w C T w:=⟨rfl,⟨rfl,Ag _⟩,rfl,Ag _,Ag _,Ag _,λb _ hb=>⟨rfl,λh=>hb (hM b h)⟩,λo v1 hv=>.inr ⟨v1,j o v1 hv,Ag _,λ_=>rfl⟩⟩;have l:∀{p u},Rel C S1 w p u->Rel C T w (qO id ver cs p) u:=λh=>Zam st.sim hid hT f d h
 refine⟨C,⟨⟨λo ho=>st.sim.lt o (f o ho),λo v hv=>st.sim.clk o v (j o v hv),λo o' b k k' ho t=>st.sim.dist o o' b k k' (f o ho) (f o' t),?_,?_⟩,st.size,λi=>?_,r.keep d st.v⟩,d⟩
 ·intro o v e' ds ho;rcases g o with q | q | q
  ·simp_all
  ·rw[q]at ho;rcases st.sim.cells o v e' ds ho with hn | ⟨b,k,c,h1,h2,h3,s,y,z⟩
   ·exact .inl hn
   ·exact .inr ⟨b,k,c,h1,h2,h3,s,y,λi p u hp hu=>(z i p u hp hu).mono d⟩
  ·rw[q]at ho;cases hs:S1 o with
   | dead=>simp_all
   | map v es=>simp_all
   | cells v2 e2 ds2 =>
    rw[hs]at ho;cases ho;rcases st.sim.cells o _ _ ds2 hs with ⟨h1,h2⟩ | ⟨b,k,c,h1,h2,h3,s,y,z⟩<;>grind
 ·intro o v es ho;have hs:S1 o=.map v es:=by
   rcases g o with q | q | q
   ·simp_all
   ·simp_all
   ·rw[q]at ho;cases hs:S1 o with
    | dead=>simp_all
    | map v es=>simp_all
    | cells v2 e2 ds2=>simp_all
  obtain⟨b,k,ms,cl,h1,h2,h3,s⟩:=st.sim.maps o v es hs;exact⟨b,k,ms,cl,h1,h2,h3,λi x m hx hm=>⟨(s i x m hx hm).1,(s i x m hx hm).2.mono d⟩⟩
 ·rcases hG i with q | q
  ·rw[q];exact(st.fr i).mono d
  ·rw[q];exact l (st.fr i)
def uk{α:Type}(base sz:Nat)(ws:Nat->Nat)(rows:List (List α)):List PV:=(List.range rows.length).map λi=>.sl (base+i) (ws i) sz 0 (rows.getD i []).length
theorem ZdH{α:Type}(base sz:Nat)(ws:Nat->Nat)(rows:List (List α)):(uk base sz ws rows).length=rows.length:=by simp[uk]
theorem Zh9{α:Type}(base sz:Nat)(ws:Nat->Nat)(rows:List (List α))(i:Nat)(h:i<rows.length):(uk base sz ws rows)[i]?=some (.sl (base+i) (ws i) sz 0 (rows.getD i []).length):=by
 simp[uk,h]
theorem ZdI{α:Type}(base sz:Nat)(ws:Nat->Nat)(rows:List (List α))(i:Nat)(h:i<rows.length):∃tl,(uk base sz ws rows).drop i=.sl (base+i) (ws i) sz 0 (rows.getD i []).length :: tl:=by
 refine⟨(uk base sz ws rows).drop (i+1),?_⟩
 grind[uk,List.drop_eq_getElem_cons]
structure RowsAt {α:Type} [Enc α] (T:Store) (A va tA base e sz:Nat) (ws:Nat->Nat) (rows:List (List α)):Prop where
 arr:T A=.cells va tA (uk base sz ws rows)
 row:∀i,i<rows.length->T (base+i)=.cells (ws i) e ((rows.getD i []).flatMap Enc.enc)
 out:A<base
theorem RowsAt.other{α:Type}[Enc α]{T T':Store}{A va tA base e sz:Nat}{ws:Nat->Nat}{rows:List (List α)}(h:RowsAt T A va tA base e sz ws rows)(a:∀o,o=A\/(base<=o/\o<base+rows.length)->T' o=T o):RowsAt T' A va tA base e sz ws rows :=
 ⟨(a A (.inl rfl)).trans h.arr,λi hi=>(a _ (.inr ⟨by omega,by omega⟩)).trans (h.row i hi),h.out⟩
theorem RowsAt.turn{α:Type}[Enc α]{T T':Store}{A va tA base e sz:Nat}{ws:Nat->Nat}{rows:List (List α)}(h:RowsAt T A va tA base e sz ws rows){i:Nat}(hi:i<rows.length)(w:Nat)(l:List α)
  (d:T' A=.cells va tA ((uk base sz ws rows).set i (.sl (base+i) w sz 0 l.length))) (g:T' (base+i)=.cells w e (l.flatMap Enc.enc)) (f:∀o,o≠A->o≠base+i->T' o=T o):RowsAt T' A va tA base e sz (λk=>if k=i then w else ws k) (rows.set i l):=by
 have b:=h.out;refine⟨?_,λk c=>?_,h.out⟩
 ·rw[d];congr 1;apply A8
  grind[ZdH,Zh9]
 ·rw[BJ]at c
  by_cases a:k=i
  ·simp_all
  ·rw[f _ DO DO,h.row k c,if_neg a]
   grind
theorem Zrm{α:Type}(base sz:Nat)(ws:Nat->Nat)(m:Nat):uk (α:=α) base sz ws (List.replicate m [])=(List.range m).map λi=>.sl (base+i) (ws i) sz 0 0:=by simp_all[uk]
theorem Zia{α:Type}[Enc α](A va tA base e sz m:Nat)(d:A<base):∀(j k:Nat) (T:Store) (ws:Nat->Nat),k+j=m->T A=.cells va tA ((List.range k).map (λi=>.sl (base+i) (ws i) sz 0 0)++List.replicate j (.sc (.slice none 0 0))) ->
  (∀i,i<k->T (base+i)=.cells (ws i) e [])->yd (base+k) T ->
  (∀(T':Store) (b:Nat->Nat),RowsAt T' A va tA base e sz b (List.replicate m ([]:List α))->(∀o,o≠A->o<base->T' o=T o)->yd (base+m) T'->PW P r n N c Q F T')->PW P r n N c Q F T
 | 0,k,T,ws,s,p,a,l,h=>by
  obtain rfl:k=m:=DO
  refine h T ws ⟨by rw[p,Zrm];simp,λi hi=>?_,d⟩ (λ_ _ _=>rfl) l
  simp_all
 | j+1,k,T,ws,s,p,a,l,h=>by
  have f:((List.range k).map (λi=>PV.sl (base+i) (ws i) sz 0 0)++List.replicate (j+1) (.sc (.slice none 0 0)))[k]?=some (.sc (.slice none 0 0)):=by
   rw[Ak DP];simp
  refine Zca (o:=A) k e sz p f (Yk (X:=λid v=>PW P r n N c Q F ((T.set id (.cells v e [])).set A (.cells va tA (((List.range k).map (λi=>PV.sl (base+i) (ws i) sz 0 0)++List.replicate (j+1) (PV.sc (.slice none 0 0))).set k (.sl id v sz 0 0))))) (base+k) (l _ (Ag _)) λv=>?_);refine Zia A va tA base e sz m d j (k+1) _ (λi=>if i=k then v else ws i) DO ?_ ?_ ?_ λT' b t u q=>h T' b t (λo ho w=>?_) q
  ·rw[q11];congr 1;rw[BE _ _ DP,AO,List.map_append];simp only[List.length_map,List.length_range,Bz,BC,A7,AD,Bp,if_true];rw[List.append_assoc];congr 1;refine AM λi hi=>?_
   have:=AK.1 hi;rw[if_neg DO]
  ·intro i hi;rw[q10 _ _ _ _ DO]
   by_cases g:i=k
   ·subst g;rw[q11,if_pos rfl]
   ·rw[q10 _ _ _ _ DO,if_neg g];exact a i DO
  ·intro i hi;rw[q10 _ _ _ _ DO,q10 _ _ _ _ DO];exact l i DO
  grind[q10]
theorem Zrn{α:Type}[Enc α](A va tA base e sz m:Nat){T:Store}(a:T A=.cells va tA (List.replicate m (.sc (.slice none 0 0))))(d:yd base T)
  (h:∀(T':Store) (ws:Nat->Nat),RowsAt T' A va tA base e sz ws (List.replicate m ([]:List α))->(∀o,o≠A->o<base->T' o=T o)->yd (base+m) T'->PW P r n N c Q F T'):PW P r n N c Q F T:=by
 have b:A<base:=by
  rcases Bh A base with q | q
  ·exact q
  ·rw[d A q]at a;cases a
 exact Zia A va tA base e sz m b m 0 T (λ_=>0) DO (by simpa using a) (λi hi=>by omega) DO h
theorem Zib{nx:Nat}{S:Store}{obs:List Ob}{id ver b:Nat}{cs:List PV}(i e sz:Nat)(d:id<nx)(hs:S id=.cells ver b cs)(hi:cs[i]?=some (.sc (.slice none 0 0)))
  (h:∀v,PW P r n N c Q F (ext (S.set id (.cells ver b (cs.set i (.sl (nx+obs.length) v sz 0 0)))) nx (obs++[.cells v e []]))):PW P r n N c Q F (ext S nx obs) :=
 Zca (o:=id) i e sz (by simp_all[zJ]) hi (Yk (X:=λa v=>PW P r n N c Q F (((ext S nx obs).set a (.cells v e [])).set id (.cells ver b (cs.set i (.sl a v sz 0 0))))) _ Zt λv=>by
  rw[jr,qq _ d];exact h v)
end
open Go Go.Proofs
instance:Enc Mv:=⟨λm=>ZA m,5,λ_=>rfl,λ_=>rfl⟩
@[simp] theorem ZzZ(m:Mv):Enc.enc m=ZA m:=rfl
@[simp high] theorem Zz0(l:List Mv):(l.flatMap Enc.enc).length=l.length*5:=js l
@[simp high] theorem Zz1(l:List Mv):(l.flatMap Enc.enc).take (l.length*5)=l.flatMap Enc.enc:=Y6 l
open Go Go.Proofs Hp
abbrev wg(x:Inst)(v:PV)(b:Int)(p f pr:PV):List PV:=[I x.days,I x.veh,I x.cap,I x.len,L x.cust,L x.dist,v,I b,p,f,pr]
theorem Zro{S:Store}{id ver idF vF:Nat}(x:Inst)(v p pr:PV)(b:Int)(fs:List Int)(g:S id=.cells ver 235 (wg x v b p (.sl idF vF 1 0 fs.length) pr))(i:S idF=.cells vF 47 (fs.flatMap Enc.enc))(hl:fs.length<=1000):
  Spec prog 212 [.ptr id ver 0] S (λq S'=>q=I (j8 fs)/\S'=S):=by
 refine yt func212 ntmps212 results212 λnx c=>?_
 have f:id<nx:=qi c g DP;have a:idF<nx:=qi c i DP;have l:=λobs=>zJ (S:=S) (obs:=obs) f
 have m:=λobs=>zJ (S:=S) (obs:=obs) a
 refine DY ?_
 repeat apply ze
 refine zi [] (zq l g) ?_;refine zn (zK (λk:Nat=>k<=fs.length/\∀e∈fs.take k,e=0) (λk=>[(8,.sl idF vF 1 0 fs.length),(9,I fs.length),(10,I k)]) (λ_=>[]) (λk=>fs.length-k) 0 [] DP DP DP ?_);rintro k ⟨r,h0⟩;refine DY ?_;refine ze (zA rfl (λhc=>?_) (λhc=>?_))
 ·simp at hc;obtain⟨e,tl,n,s,a3,o⟩:=zN rfl fs k hc;refine zk (ze (zn (ze (zi [] (zS m i o hc) ?_))));refine DY ?_
  by_cases d:e=0
  ·repeat apply ze
   refine zp (by simp[d]) ?_;refine zk (zg ?_);exact zu (k+1) [] ⟨hc,λy j=>by rw[a3]at j;rcases AB.1 j with h | h;exact h0 y h;rw[AU.1 h];exact d⟩ DO (by simp[zy k (by omega)]) rfl DP
  ·repeat apply ze
   refine zo (by simp[d]) ?_;refine DY ?_;exact zj ⟨_,S,rfl,⟨by simp[zr,ZdD h0 n d],rfl⟩,yb c⟩
 ·simp at hc;obtain rfl:k=fs.length:=DO
  rw[Ai]at h0;refine zC (DY ?_);exact zj ⟨_,S,rfl,⟨by simp[zr,Za1 h0],rfl⟩,yb c⟩
theorem Zrp{S:Store}{id ver idD vD idF vF:Nat}{x:Inst}{v:List (List Visit)}{b:Int}{pr:PV}{ds:zH}{fs:List Int}{n:Nat}(k:Nat)(q:S id=.cells ver 235 (wg x (L v) b (.sl idD vD 1 0 ds.length) (.sl idF vF 1 0 fs.length) pr))
  (y:S idD=.cells vD 39 (ds.flatMap Enc.enc)) (s:S idF=.cells vF 47 (fs.flatMap Enc.enc)) (z:id≠idD) (t:id≠idF) (d3:idD≠idF) (hx:InstH x) (hv:VsOk x.cust.length n v) (hb:b<=9223372036854775807) (a0:ds.length<=1000) (a1:fs.length<=1000) :
  Spec prog 211 [.ptr id ver 0,I k] S (λ_ S'=>S'=((S.set id (.cells ver 235 (wg x (L v) b (.sl idD (vD+1) 1 0 (ds.length+1)) (.sl idF (vF+1) 1 0 (fs.length+1)) pr))).set idD (.cells (vD+1) 39 ((ds++[(Zf x b (xT v k x.cust.length)).1]).flatMap Enc.enc))).set idF
   (.cells (vF+1) 47 ((fs++[(Zf x b (xT v k x.cust.length)).2]).flatMap Enc.enc))):=by
 have j:=Zrk x v k n hx.cust hv;have f:=Zqs (Zh7 hx hv k) hx.diag hb;generalize xT v k x.cust.length=st at j f ⊢;generalize Zf x b st=r at f ⊢;obtain⟨d,e⟩:=r;simp only at f ⊢;refine yt func211 ntmps211 results211 λnx m=>?_
 have g:id<nx:=qi m q DP;have l:idD<nx:=qi m y DP;have h:idF<nx:=qi m s DP;have p:=λobs=>(zJ (S:=S) (obs:=obs) g).trans q
 have xd:=λobs=>(zJ (S:=S) (obs:=obs) l).trans y
 have xf:=λobs=>(zJ (S:=S) (obs:=obs) h).trans s
 have g1:¬nx<=id:=DO
 have g2:¬nx<=idD:=DO
 have g3:¬nx<=idF:=DO
 have yw:=λ(o:Ob) obs=>(zJ (S:=S.set idD o) (obs:=obs) g).trans ((q10 _ _ _ _ z).trans q)
 have zw:=λ(o o':Ob) obs=>(zJ (S:=(S.set idD o).set id o') (obs:=obs) g).trans (q11 _ _ _)
 have zf:=λ(o o':Ob) obs=>(zJ (S:=(S.set idD o).set id o') (obs:=obs) h).trans ((q10 _ _ _ _ t.symm).trans ((q10 _ _ _ _ d3.symm).trans s))
 have uw:=λ(o o' u:Ob) obs=>(zJ (S:=((S.set idD o).set id o').set idF u) (obs:=obs) g).trans ((q10 _ _ _ _ t).trans (q11 _ _ _))
 refine ze (zD (some [id]) (Row.pures [0,1,2,3,4,5,6,7,8,9,10,11,12,13,14,15,16,17,18,19,20,21] (.alt 22 (.alt 23 (Row.pures [24] .done) .stop) .stop)) mixed p ?_);refine zO (j) p ?_;refine zO (f) p ?_;intro v2;refine ze (zD (some [nx]) (Row.pures [0,1,2,3,4,6,7] (.alt 5 (.alt 8 (Row.pures [9,10,11] (.alt 12 (.done) .stop)) .stop) .stop)) mixed (yr p xd yw g1 g2) ?_);refine⟨by omega,?_⟩;refine zi [] (yr zw zf uw g1 g3) ?_;refine⟨by omega,?_⟩;have e1:∀(a b c d:Ob),(((S.set idD a).set id b).set idF c).set id d=((S.set id d).set idD a).set idF c:=by
  intro a b c d;funext i;simp only[Store.set]
  by_cases h1:i=id
  ·subst h1;simp[z,t]
  ·simp only[h1,if_false]
 have w:∀(a b c:Ob),yd nx (((S.set id a).set idD b).set idF c):=by
  intro a b c i hi;rw[q10 _ _ _ _ DO,q10 _ _ _ _ DO,q10 _ _ _ _ DO];exact m i hi
 rw[e1];exact⟨_,_,rfl,by simp,yb (w _ _ _)⟩
theorem Zrq{S:Store}{id ver:Nat}(x:Inst)(v p f pr:PV)(b:Int)(fn:FuncId)(fs:List PV)(n:Nat)(hn:x.days=n)(i:n<=1000)(g:S id=.cells ver 235 (wg x v b p f pr))(St:Nat->Store)(h0:St 0=S)
  (a:∀nx,yd nx S->∀k,k<=n->yd nx (St k)) (c:∀k,k<n->Spec prog fn (fs++[I k]) (St k) (λ_ S'=>S'=St (k+1))) :
  Spec prog 173 [.ptr id ver 0,.fn (.func fn) fs []] S (λ_ S'=>S'=St n):=by
 refine yt func173 ntmps173 results173 λnx h=>?_
 have e:id<nx:=qi h g DP;have j:=λobs=>(zJ (S:=S) (obs:=obs) e).trans g
 have a:=a nx h;refine ze (zi [] (zq j hn) ?_);refine zn (jX (σ:=Nat) (λk=>k<=n) (λk=>[(1,.fn (.func fn) fs []),(9,I n),(10,I k)]) (λk=>St k) (λ_=>[]) (λk=>n-k) (zZ 0 [] DP DP h0 DP) ?_);rintro k l;refine DY ?_;refine ze (zA rfl (λhc=>?_) (λhc=>?_))
 ·simp at hc;refine zk (ze (zn (DY ?_)));refine zg ?_;refine λd=>(Spec.mono (by rw[qZ (a k l)];simpa using c k hc) ?_).v
  rintro _ _ rfl;refine⟨St (k+1),[],(qZ (a (k+1) hc)).symm,zR d ?_⟩;refine zg ?_;exact zu (k+1) [] hc DO (by simp[zy k (by omega)]) rfl DP
 ·simp at hc;obtain rfl:k=n:=DO
  refine zC ?_;exact⟨_,_,rfl,rfl,yb (a k (Ag _))⟩
theorem Zrr{S:Store}{nx id ver:Nat}(s:yd nx S){x:Inst}{v:List (List Visit)}{v0 y z pr:PV}{b:Int}{n:Nat}(t:S id=.cells ver 235 (wg x v0 b y z pr))(hx:InstH x)(hn:x.days=n)(h:n<=1000)(hv:VsOk x.cust.length n v)(hb:b<=9223372036854775807):
  Spec prog 176 [.ptr id ver 0,L v] S (λq S'=>q=I (j8 (jR x v b n))/\∃vD vF,S'=ext (S.set id (.cells ver 235 (wg x (L v) b (.sl nx vD 1 0 (wP x v b n).length) (.sl (nx+1) vF 1 0 (jR x v b n).length) pr))) nx
   [.cells vD 39 ((wP x v b n).flatMap Enc.enc),.cells vF 47 ((jR x v b n).flatMap Enc.enc)]):=by
 have l:=ZdG x v b;have j:=Zh8 x v b;refine Zv s func176 ntmps176 results176 ?_;have d:id<nx:=qi s t DP;have g1:¬nx<=id:=DO
 have xw:=λobs=>(zJ (S:=S) (obs:=obs) d).trans t
 have yw:=λ(o:Ob) obs=>(zJ (S:=S.set id o) (obs:=obs) d).trans (q11 _ _ _)
 refine DY ?_;refine ze (zi [] (zS xw yw g1 Store.set_set) ?_);refine Zib (id:=id) 8 39 1 d (q11 _ _ _) rfl λvD=>?_
 rw[Store.set_set];refine Zib (id:=id) 9 47 1 d (q11 _ _ _) rfl λvF=>?_
 rw[Store.set_set];simp only[AV,A7,Ae,Ah,List.cons_append,AQ,By,AS];generalize p:(λk:Nat=>ext (S.set id (.cells ver 235 (wg x (L v) b (.sl nx (vD+k) 1 0 (wP x v b k).length) (.sl (nx+1) (vF+k) 1 0 (jR x v b k).length) pr))) nx
   [.cells (vD+k) 39 ((wP x v b k).flatMap Enc.enc),.cells (vF+k) 47 ((jR x v b k).flatMap Enc.enc)])=St
 have a:∀k,St k=ext (S.set id (.cells ver 235 (wg x (L v) b (.sl nx (vD+k) 1 0 (wP x v b k).length) (.sl (nx+1) (vF+k) 1 0 (jR x v b k).length) pr))) nx
   [.cells (vD+k) 39 ((wP x v b k).flatMap Enc.enc),.cells (vF+k) 47 ((jR x v b k).flatMap Enc.enc)]:=λk=>by rw[<-p]
 have h0:St 0=ext (S.set id (.cells ver 235 (wg x (L v) b (.sl nx vD 1 0 0) (.sl (nx+1) vF 1 0 0) pr))) nx [.cells vD 39 [],.cells vF 47 []]:=a 0;have hid:∀k,St k id=.cells ver 235 (wg x (L v) b (.sl nx (vD+k) 1 0 (wP x v b k).length) (.sl (nx+1) (vF+k) 1 0 (jR x v b k).length) pr):=λk=>by rw[a k,zJ d,q11]
 have f:∀k,k<n->Spec prog 211 ([.ptr id ver 0]++[I k]) (St k) (λ_ S'=>S'=St (k+1)):=by
  intro k u;have h1:=l k;have h2:=j k;refine(Zrp (idD:=nx) (idF:=nx+1) (n:=n) k (hid k) (by rw[a k];simp) (by rw[a k];simp) DO DO DO hx hv hb DO DO).mono ?_;rintro _ _ rfl;rw[a k,a (k+1),qq _ d,Store.set_set,yl _ DO DP,yl _ DO DP,Zri,Zrj];simp[Nat.add_assoc]
 have g:∀m,yd m (St 0)->∀k,k<=n->yd m (St k):=by
  intro m hm k _ i hi;have a0:nx+1<m:=by
   rcases Bh (nx+1) m with q | q
   ·exact q
   ·have:=hm (nx+1) q;rw[a 0]at this;simp at this
  rw[a k];simp only[ext];rw[if_neg DO,Aa,Ao DT];rfl
 rw[<-h0];have r:=hid 0;have w:nx+2=nx+[Ob.cells (vD+0) 39 ((wP x v b 0).flatMap Enc.enc),.cells (vF+0) 47 ((jR x v b 0).flatMap Enc.enc)].length:=rfl;have c:∀k,St k=ext (St k) (nx+2) []:=λk=>by
  refine(qZ ?_).symm;rw[a k];exact xB (obs:=[_,_])
 rw[c 0];refine DY ?_;refine λe=>((Zrq x (L v) _ _ pr b _ _ n hn h (by rw[<-c 0];exact r) St (c 0) (λm hm k u=>g m (by rw[c 0];exact hm) k u) f).mono ?_).v
 rintro _ _ rfl;refine⟨_,_,c n,zR e ?_⟩;refine DY ?_;refine λe=>((Zro (idF:=nx+1) x _ _ _ _ (jR x v b n) (by rw[<-c n];exact hid n) (by rw[<-c n,a n];simp) (by rw[j];exact h)).mono ?_).v
 rintro _ _ ⟨rfl,rfl⟩;refine⟨_,_,rfl,zR e ?_⟩;refine zj ⟨_,St n,rfl,⟨by simp[zr],vD+n,vF+n,a n⟩,λo=>.inl ?_⟩;rw[<-c n]
open Go Go.Proofs Hp
theorem Zrs(n:Nat):qa n (.slice none 0 0)=List.replicate n (.sc (.slice none 0 0)):=by
 induction n with
 | zero=>simp
 | succ n a=>rw[QI,a];rfl
open Go
abbrev T(s:ByteArray):PV:=.sc (.string s)
instance:Enc ByteArray:=⟨λx=>[T x],1,λ_=>rfl,λ_=>rfl⟩
@[simp] theorem Zz2(x:ByteArray):Enc.enc x=[T x]:=rfl
@[simp high] theorem Za3(l:List ByteArray):(l.flatMap Enc.enc).length=l.length:=(js l).trans (BO _)
abbrev bs(l:List UInt8):ByteArray:=⟨l.toArray⟩
theorem Zrt(a b:List UInt8):bs a++bs b=bs (a++b):=by
 apply ByteArray.ext;simp
theorem xU(l:List UInt8):(bs l).size=l.length:=by simp[ByteArray.size]
def zM(n:Nat):List UInt8:=if h:n<10 then [UInt8.ofNat (48+n)] else zM (n / 10)++[UInt8.ofNat (48+n % 10)]
termination_by n
decreasing_by omega
theorem Q7{n:Nat}(h:n<10):zM n=[UInt8.ofNat (48+n)]:=by simp_all[zM]
theorem J2{n:Nat}(h:¬n<10):zM n=zM (n / 10)++[UInt8.ofNat (48+n % 10)]:=by rw[zM,dif_neg h]
def xH(l:List UInt8):Nat:=l.foldl (λa c=>10*a+(c.toNat-48)) 0
theorem X5(l:List UInt8)(c:UInt8):xH (l++[c])=10*xH l+(c.toNat-48):=by simp[xH]
theorem YF{k:Nat}(h:k<10):(UInt8.ofNat (48+k)).toNat=48+k:=by grind[UInt8.toNat_ofNat']
theorem Zru(n:Nat):xH (zM n)=n:=by
 induction n using Nat.strongRecOn with
 | _ n a =>
  by_cases h:n<10
  ·rw[Q7 h];simp only[xH,A5,List.foldl_nil,YF h];omega
  grind[J2,X5,YF]
theorem Zic(n:Nat):∀c∈zM n,48<=c.toNat/\c.toNat<=57:=by
 induction n using Nat.strongRecOn with
 | _ n a =>
  intro c hc
  by_cases h:n<10
  ·grind[Q7,YF]
  ·rw[J2 h,AB,AU]at hc
   grind[YF]
theorem Za4(n:Nat):zM n≠[]:=by by_cases h:n<10<;>simp_all[Q7,J2]
theorem Zrv(n:Nat)(h:1<(zM n).length):∃c l,zM n=c :: l/\c.toNat≠48:=by
 induction n using Nat.strongRecOn with
 | _ n a =>
  by_cases h0:n<10
  ·rw[Q7 h0]at h;simp at h
  grind[J2,Q7,YF]
theorem Za5(n:Nat):∀k,n<10 ^ (k+1)->(zM n).length<=k+1:=by
 induction n using Nat.strongRecOn with
 | _ n a =>
  intro k b
  by_cases h:n<10
  ·simp_all[Q7]
  ·rw[J2 h,Am,Ba];cases k with
   | zero=>omega
   | succ k =>
    have:=a (n / 10) DO k DO;omega
def Z2(w:List UInt8):Prop:=w≠[]/\∀c∈w,33<=c.toNat/\c.toNat<=126
theorem Q8(n:Nat):Z2 (zM n):=⟨Za4 n,λc hc=>by grind[Zic]⟩
def zQ:List (List UInt8)->List UInt8
 | []=>[]
 | [w]=>w
 | w :: v :: ws=>w++32 :: zQ (v :: ws)
theorem X6(w v:List UInt8)(ws:List (List UInt8)):zQ (w :: v :: ws)=w++32 :: zQ (v :: ws):=rfl
theorem Zid(ws:List (List UInt8))(w v:List UInt8):zQ (v :: ws++[w])=zQ (v :: ws)++32 :: w:=by
 induction ws generalizing v with
 | nil=>rfl
 | cons u us a =>
  simp_all[X6]
def z8(ls:List (List (List UInt8))):List UInt8:=ls.flatMap λws=>zQ ws++[10]
theorem ul(ws:List (List UInt8))(ls:List (List (List UInt8))):z8 (ws :: ls)=zQ ws++10 :: z8 ls:=by simp[z8]
theorem Zie(ls:List (List (List UInt8)))(ws:List (List UInt8)):z8 (ls++[ws])=z8 ls++(zQ ws++[10]):=by simp[z8]
theorem Zrw{ws:List (List UInt8)}{c:UInt8}(h:c∈zQ ws):c=32\/∃w∈ws,c∈w:=by
 induction ws with
 | nil=>simp[zQ]at h
 | cons w ws a =>
  cases ws with
  | nil=>exact .inr ⟨w,by simp,h⟩
  | cons v ws =>
   grind[X6]
theorem Zrx{ws:List (List UInt8)}(a:∀w∈ws,Z2 w):(10:UInt8) ∉ zQ ws:=by
 intro h;rcases Zrw h with h | ⟨w,hm,hc⟩
 ·cases h
 ·have:=(a w hm).2 10 hc;simp at this
open Go
theorem Zry{w:World}{t:TypeId}(c:prog.underlying t=some .string):ZQ prog w t ByteArray (λ_=>True):=by
 intro H enc a cs x h;cases a with
 | zero=>cases h
 | succ n =>
  unfold DataW.trod at h;rw[c]at h
  match cs,h with
  | [.string b],h=>exact⟨b,trivial,WP (.sc _) rfl⟩
open Go Go.Proofs
abbrev U8(b:UInt8):PV:=.sc (.int .u8 (b.toNat:Int))
theorem Zrz(l:List UInt8):strOfNums (l.map λb=>(b.toNat:Int))=bs l:=by simp[strOfNums,AM]
theorem YG(a b:List UInt8)(h:a.length+b.length<=9223372036854775807):yC .add (bs a) (bs b)=some (.string (bs (a++b))):=by simp_all[yC,xU,Zrt]
theorem Zif{P:Program}{w:World}{src dst e b off len cap:Nat}{l:List UInt8}(hs:P.underlying src=some (.slice e))(f:P.underlying e=some (.int .u8))(g:P.underlying dst=some .string)(c:l.length=len)
  (a:∀(i:Nat) (u:UInt8),l[i]?=some u->w.cell? ⟨b,off+i,none⟩=some (.int .u8 (u.toNat:Int))):(convert src dst (.slice (some ⟨b,off,none⟩) len cap)).run P w=.ok (.string (bs l)) w:=by
 have:=run_convert_bytes_arg (P:=P) w src e hs f b off len cap (l.map λb=>(b.toNat:Int)) (by simpa using c) (λi hi=>by
  have d:i<l.length:=DO
  rw[a i l[i] (Ac d)];simp[Aa,Ac d]) dst g
 simp_all[Zrz]
theorem Zig{P:Program}{o:Oper}{src dst:TypeId}{x:Operand}{a:Act}{w:World}{v:Value}(ho:o.op=.convert src dst x)(h:(convert src dst (a.eval x)).run P w=.ok v w):(execOp a.eval o).run P w=.ok (.value v) w:=by simp_all[execOp]
theorem ZrA{P:Program}{n:Nat}{F:Nat->PV}{S:Store}{o:Oper}{src dst e:TypeId}{x:Operand}{l:List UInt8}{K:PV->Store->Prop}(ho:o.op=.convert src dst x)(hs:P.underlying src=some (.slice e))(p:P.underlying e=some (.int .u8))(r:P.underlying dst=some .string)
  (hx:ev F x=.lst l.length (l.map U8)) (hK:K (T (bs l)) S):PO P jB n o F S K:=by
 intro G hG C w a N st next Q' d;have f:=st.ev x;rw[(hG x (by simp[ho,Op.operands])).trans hx]at f;have s:∀c,o.op≠.defer c:=by intro c hc;rw[ho]at hc;cases hc
 have g:(convert src dst (a.eval x)).run P w=.ok (.string (bs l)) w:=by
  generalize a.eval x=v at f;generalize hm:l.length=m at f;generalize j:l.map U8=cs at f;cases f with
  | lst0 =>
   rename_i cap t;obtain rfl:l=[]:=Av hm;cases t with
   | none=>exact run_convert_bytes_nil w src e hs p 0 cap dst r
   | some t =>
    have:=run_bytesToString (P:=P) w t 0 cap [] (by simp[loadCells,loadCellsFrom]);rw[run_convert_bytes_string w src dst e _ 0 cap hs p r,this];rfl
  | lst1 hn a1 hb hM y h1 hr =>
   rename_i cap b off c et fz;refine Zif hs p r hm λi u z=>?_
   have hi:i<l.length:=(Ad.1 z).1;have hp:cs[i]?=some (U8 u):=by rw[<-j,Aj,z];rfl
   have k:cs.length=l.length:=by rw[<-j,List.length_map]
   have a0:=y (by intro h;rw[h]at k;simp at k;omega);have hv:=hr i _ _ hp (AY DO);generalize hq:c[off+i]' DO=q at hv;cases hv
   grind[World.cell?]
 exact qg s (Zig ho g) (d _ _ _ _ _ hK (.sc _) st.sim (Step.refl _ _ _))
theorem Zih{P:Program}{n:Nat}{F:Nat->PV}{S:Store}{o:Oper}{src dst e:TypeId}{x:Operand}{l:List UInt8}{id ver j off:Nat}{cs:List PV}{K:PV->Store->Prop}(ho:o.op=.convert src dst x)(hs:P.underlying src=some (.slice e))(r:P.underlying e=some (.int .u8))(s:P.underlying dst=some .string)
  (hx:ev F x=.sl id ver 1 off l.length) (hid:S id=.cells ver j cs) (hl:∀(i:Nat) (u:UInt8),l[i]?=some u->cs[off+i]?=some (U8 u)) (h0:0<l.length) (t:K (T (bs l)) S):PO P jB n o F S K:=by
 intro G y C w a N st next Q' d;have g:=st.ev x;rw[(y x (by simp[ho,Op.operands])).trans hx]at g;have h:∀c,o.op≠.defer c:=by intro c hc;rw[ho]at hc;cases hc
 have f:(convert src dst (a.eval x)).run P w=.ok (.string (bs l)) w:=by
  generalize a.eval x=v at g;generalize hm:l.length=m at g;cases g with
  | sl h1 h2 h3 =>
   rcases (h3 ver (by rw[hid];rfl)).2 rfl with ⟨_,z2,_,_⟩ | ⟨b,k,ad,cap,z1,z2,z3,z4⟩
   ·omega
   ·obtain rfl:=z4 DO;subst z2;rcases st.sim.cells id ver j cs hid with ⟨hn,_⟩ | ⟨b2,k2,c,g1,g2,g3,g4,g5,z⟩
    ·rw[hn]at z1;cases z1
    ·rw[g1]at z1;cases z1;refine Zif hs r s hm λi u hu=>?_
     have p:=hl i u hu;have hi:off+i<cs.length:=(Ad.1 p).1;have hv:=z (off+i) _ _ p (AY DO);generalize hq:c[off+i]' DO=q at hv;cases hv
     grind[World.cell?]
 exact qg h (Zig ho f) (d _ _ _ _ _ t (.sc _) st.sim (Step.refl _ _ _))
theorem ZrB{P:Program}{n:Nat}{F:Nat->PV}{S:Store}{o:Oper}{t e m id ver r k:Nat}{x lo:Operand}{cs:List PV}{K:PV->Store->Prop}(ho:o.op=.slice t x (some lo) none none)(s:P.underlying t=some (.array m e))(hc:P.cellsOf e=1)(hx:ev F x=.ptr id ver 0)(g:ev F lo=I (k:Int))(h0:0<k)(y:k<m)(hid:S id=.cells ver r cs)(hm:m<=1048576)(z:K (.sl id ver 1 k (m-k)) S):PO P jB n o F S K:=by
 intro G p C w a N st next Q' d;have i:=st.ev x;rw[(p x (by simp[ho,Op.operands])).trans hx]at i;have e2:=st.ev lo;rw[(p lo (by simp[ho,Op.operands])).trans g]at e2;have j:∀c,o.op≠.defer c:=by intro c hc;rw[ho]at hc;cases hc
 generalize hv:a.eval x=v at i;generalize hu:a.eval lo=u at e2;cases e2;cases i with
 | ptr h1 h2 h3 =>
  obtain⟨b,q,hl,rfl⟩:=(h3 ver (by rw[hid];rfl)).2 rfl;have f:(execOp a.eval o).run P w=.ok (.value (.slice (some ⟨b,k,none⟩) (m-k) (m-k))) w:=by
   unfold execOp;simp[ho,hv,hu,Instr.sliceAt,run_underlying s,Instr.sureAddr,Instr.sliceBounds,Instr.sliceBound,asIntOf,vt (show P.cellsOf e≠0 by omega),hc];rw[if_pos (DE y),if_neg DO,Addr.add_plain];simp
  refine qg j f (d _ _ _ _ _ z (.sl ⟨_,_,rfl,Ag _,by unfold xk;omega,by unfold maxLen;omega,λ_=>⟨_,_,rfl⟩⟩ h2 λv0 l=>?_) st.sim (Step.refl _ _ _));obtain⟨a1,a2⟩:=h3 v0 l;refine⟨a1,λa0=>?_⟩;exact .inr ⟨b,q,_,_,hl,rfl,λh=>absurd h DO,λ_=>rfl⟩
open Go Go.Proofs
theorem ZdJ(k:Nat)(h:k<256):IntKind.u8.wrap (k:Int)=k:=by
 have e:IntKind.u8.wrap (k:Int)=(k:Int) % 256:=by simp[IntKind.wrap,IntKind.bits,IntKind.signed]
 rw[e];omega
theorem Q9(n:Nat)(hn:n<=9223372036854775807):Pure prog 53 [I n] (T (bs (zM n))):=by
 induction n using Nat.strongRecOn with
 | _ n p =>
  have q:((n:Int)).tmod 10=((n % 10:Nat):Int):=by rw[Be DO];omega
  have s:((n:Int)).tdiv 10=((n / 10:Nat):Int):=by rw[BS DO];omega
  have c:n<10->zM n=[UInt8.ofNat (48+n % 10)]:=λh=>by rw[Q7 h,C7 h]
  have d:¬n<10->zM n=zM (n / 10)++[UInt8.ofNat (48+n % 10)]:=J2;have t:=YF (k:=n % 10) DO;have v:n % 10<10:=DO
  have f:n / 10<=n/\(¬n<10->n / 10<n):=DO
  generalize UInt8.ofNat (48+n % 10)=u at *;generalize n % 10=r at *;generalize n / 10=m at *;have w:W (m:Int)=m:=by simp only[W,AA];omega
  have g:W (48+(r:Int))=(u.toNat:Int):=by rw[t];simp only[W,AA];omega
  have i:=ZdJ u.toNat DO;have h0:¬(n:Int)<0:=DO
  refine zx func53 ntmps53 results53 λS nx o=>?_
  refine DY ?_
  repeat apply ze
  refine zi [] h0 ?_;refine zp DP ?_;refine zk (ze (zi [] (zF q g i) ?_));refine λa=>ZrA (e:=5) (l:=[u]) rfl DP DP DP DP ?_
  refine⟨_,_,rfl,zR a ?_⟩
  repeat apply ze
  refine zg ?_;refine zA rfl (λh=>?_) (λh=>?_)
  ·simp at h;have b:=p m (f.2 DO) DO;have j:=YG (zM m) [u] (by have:=Za5 m 18 (by omega);simp;omega);refine ze (zi [] (zq s w) ?_);refine yW [] b j ?_;exact zj (zm o DQ (by rw[d (by omega)];rfl))
  ·simp at h;refine zk (DY ?_);exact zj (zm o DQ (by rw[c (by omega)];rfl))
def uK(l:List Nat):List ByteArray:=l.map λn=>bs (zM n)
theorem ZdK(l:List Nat)(hl:l.length<=1048576)(hn:∀n∈l,n<=9223372036854775807):Pure prog 52 [L (l.map λn:Nat=>(n:Int))] (L (uK l)):=by
 obtain⟨zs,a⟩:∃zs:List Int,zs=l.map λn:Nat=>(n:Int):=⟨_,rfl⟩
 have d:zs.length=l.length:=by rw[a,List.length_map]
 have f:∀(k n:Nat),l[k]?=some n->zs[k]?=some (n:Int):=λk n e=>by rw[a,Aj,e];rfl
 rw[<-a];refine zx func52 ntmps52 results52 λS nx i=>?_
 refine DY ?_;refine DY ?_;refine q9 3 9 1 rfl λv3=>?_
 repeat apply ze
 refine zg ?_;refine zn (zK (λs:Nat × Nat=>s.1<=zs.length) (λ(k,w)=>[(0,L zs),(3,.sl nx w 1 0 k),(4,I k)]) (λ(k,w)=>[.cells w 9 ((uK (l.take k)).flatMap Enc.enc)]) (λs=>zs.length-s.1) (0,v3) [] DP DP (by simp[uK]) ?_);rintro⟨k,w⟩ j;simp only at j ⊢
 repeat apply ze
 refine zg ?_;refine zA rfl (λhc=>?_) (λhc=>?_)
 ·simp at hc;obtain⟨n,b⟩:∃n,l[k]?=some n:=⟨_,Ac DO⟩;obtain⟨z,tl,b1,b2,b3,m⟩:=zN rfl zs k hc;obtain rfl:z=(n:Int):=by have:=f k n b;rw[b1]at this;exact Option.some.inj this
  have c:=Q9 n (hn n (Ab b));have g:uK (l.take (k+1))=uK (l.take k)++[bs (zM n)]:=by rw[AC,b];simp[uK]
  have hf:(uK (l.take k)).length=k:=by simp[uK];omega
  have h:((uK (l.take k)).flatMap Enc.enc:List PV).take k=(uK (l.take k)).flatMap Enc.enc:=Af (by rw[Za3];omega);generalize uK (l.take k)=ws at *;refine zk (ze (zn (zi [] (zq m hc) ?_)));refine yW [] c (zq hf h) ?_;refine⟨by omega,?_⟩;refine zg ?_;exact zu (k+1,w+1) [] hc DT (by simp[zy k (by omega)]) rfl (by simp[g])
 ·simp at hc;obtain rfl:k=zs.length:=DO
  refine zC (yh 0 rfl ?_);refine DY ?_;exact zj (zm i DQ (by rw[d,Ai];simp[zr,uK]))
theorem ZrC(ws:List (List UInt8))(w:List UInt8):zQ (ws++[w])=(if ws=[] then [] else zQ ws++[32])++w:=by
 cases ws with
 | nil=>rfl
 | cons v vs=>rw[Zid,if_neg DP];simp
theorem ZrD(ws:List (List UInt8))(hl:ws.length<=1048576)(n:(zQ ws).length<=1099511627776)(d:∀k,(zQ (ws.take k)).length<=1099511627776):Pure prog 42 [L (ws.map bs)] (T (bs (zQ ws++[10]))):=by
 refine zx func42 ntmps42 results42 λS nx i=>?_
 refine DY ?_;refine DY ?_
 repeat apply ze
 refine zg ?_;refine zn (zK (λk:Nat=>k<=ws.length) (λk=>[(0,L (ws.map bs)),(3,T (bs (zQ (ws.take k)))),(4,I k)]) (λ_=>[]) (λk=>ws.length-k) 0 [] DP (by simp[zQ]) DP ?_);rintro k o
 repeat apply ze
 refine zg ?_;refine zA rfl (λhc=>?_) (λhc=>?_)
 ·simp at hc;obtain⟨w,tl,b1,b2,b3,f⟩:=zN rfl (ws.map bs) k (by simpa using hc);obtain⟨u,j,rfl⟩:∃u,ws[k]?=some u/\bs u=w:=by rw[Aj]at b1;simpa using b1
  have a:zQ (ws.take (k+1))=(if ws.take k=[] then [] else zQ (ws.take k)++[32])++u:=by rw[AC,j];exact ZrC _ _
  have l:=d k;have g:=d (k+1);have m:u.length<=(zQ (ws.take (k+1))).length:=by rw[a,Am];omega
  have b:k<ws.length:=by simpa using hc
  refine zk (ze (zn ?_))
  by_cases h0:0<k
  ·have e:¬ws.take k=[]:=by intro h;have:=congrArg List.length h;rw[Ax,Ah]at this;omega
   rw[if_neg e]at a;have c:=congrArg List.length a;simp only[Am,Ba]at c;have s1:=YG (zQ (ws.take k)) [32] (by simp only[Ba];omega);have s2:=YG (zQ (ws.take k)++[32]) u (by simp only[Am,Ba];omega);generalize zQ (ws.take k)=J0 at *
   repeat apply ze
   refine zi [] h0 ?_;refine zo (by simp[h0]) ?_;refine zi [] s1 ?_;refine zi [] (zF f b s2) ?_;refine zg ?_;exact zu (k+1) [] b DO (by simp[zy k (by omega),a]) rfl DP
  ·have e:ws.take k=[]:=by rw[show k=0 by omega];rfl
   rw[if_pos e]at a;rw[e,show zQ ([]:List (List UInt8))=[] from rfl];have s2:=YG [] u (by simp only[Ah];omega);rw[AQ]at a s2
   repeat apply ze
   refine zi [] h0 ?_;refine zp (by simp[h0]) ?_;refine zk (zi [] (zF f b s2) ?_);refine zg ?_;exact zu (k+1) [] b DO (by simp[zy k (by omega),a]) rfl DP
 ·simp at hc;obtain rfl:k=ws.length:=DO
  have hs:=YG (zQ ws) [10] (by simp only[Ba];omega);refine zC (Xy (λ_=>.inl rfl) ?_);rw[Ai];refine ze (zi [] hs ?_);exact DZ i
open Go Go.Proofs
def xV(c:UInt8):List UInt8->Option (List UInt8 × List UInt8)
 | []=>none
 | x :: xs=>if x=c then some ([],xs) else (xV c xs).map λp=>(x :: p.1,p.2)
theorem J3{c:UInt8}{l a b:List UInt8}(h:xV c l=some (a,b)):l=a++c :: b/\c ∉ a:=by induction l generalizing a b<;>grind[xV,Option.map_eq_some_iff]
theorem Za6{c:UInt8}{l:List UInt8}(h:xV c l=none):c ∉ l:=by induction l<;>grind[xV,Option.map_eq_none_iff]
theorem ZrE{c:UInt8}{a:List UInt8}(b:List UInt8)(h:c ∉ a):xV c (a++c :: b)=some (a,b):=by induction a<;>grind[xV]
theorem ZdL{c:UInt8}{l a b:List UInt8}(h:xV c l=some (a,b)):b.length<l.length:=by
 rw[(J3 h).1];simp;omega
def yT(c:UInt8):List UInt8->List (List UInt8)
 | []=>[[]]
 | x :: xs=>if x=c then [] :: yT c xs else match yT c xs with
  | []=>[[x]]
  | h :: t=>(x :: h) :: t
theorem ZdM(c x:UInt8)(xs:List UInt8):yT c (x :: xs)=if x=c then [] :: yT c xs else match yT c xs with
  | []=>[[x]]
  | h :: t=>(x :: h) :: t:=rfl
theorem ZdN(c:UInt8)(l:List UInt8):yT c l≠[]:=by cases l<;>grind[yT]
theorem ZdO{c:UInt8}{a:List UInt8}(h:c ∉ a):yT c a=[a]:=by
 induction a with
 | nil=>rfl
 | cons x a b =>
  grind[ZdM]
theorem ZdP{c:UInt8}{a:List UInt8}(b:List UInt8)(h:c ∉ a):yT c (a++c :: b)=a :: yT c b:=by induction a<;>grind[ZdM]
theorem ZrF(c:UInt8)(l:List UInt8):yT c l=match xV c l with
  | none=>[l]
  | some (a,b)=>a :: yT c b:=by
 cases h:xV c l with
 | none=>simp_all[ZdO,Za6]
 | some p=>obtain⟨a,b⟩:=p;obtain⟨h1,h2⟩:=J3 h;simp_all[ZdP]
theorem ZrG(c:UInt8)(l:List UInt8):(yT c l).length<=l.length+1:=by induction l<;>grind[yT]
theorem ZrH(c:UInt8)(l:List UInt8):∀w∈yT c l,w.length<=l.length:=by induction l<;>grind[yT]
theorem ZrI{ws:List (List UInt8)}(a:ws≠[])(b:∀w∈ws,(32:UInt8) ∉ w):yT 32 (zQ ws)=ws:=by
 induction ws with
 | nil=>simp_all
 | cons w ws c =>
  cases ws with
  | nil=>exact ZdO (b w DP)
  | cons v ws =>
   simp_all[X6,ZdP]
def um(w:List UInt8):Bool:=decide (w≠[]) && w.all λc=>decide (33<=c.toNat/\c.toNat<=126)
theorem X7(w:List UInt8):um w=true<->Z2 w:=by simp[um,Z2]
theorem Zii{w:List UInt8}{k:Nat}{c:UInt8}(h:w[k]?=some c)(hc:¬(33<=c.toNat/\c.toNat<=126)):um w=false:=by grind[um]
def jf(t:List UInt8):Option (List (List (List UInt8))) :=
 if t=[] then some [] else
  match h:xV 10 t with
  | none=>none
  | some (a,b)=>if (yT 32 a).all um=true then (jf b).map (yT 32 a :: ·) else none
termination_by t.length
decreasing_by exact ZdL h
theorem X8:jf []=some []:=by rw[jf,if_pos rfl]
theorem Zij{t:List UInt8}(h0:t≠[])(h:xV 10 t=none):jf t=none:=by grind[jf]
theorem Za7{t a b:List UInt8}(h:xV 10 t=some (a,b)):jf t=if (yT 32 a).all um=true then (jf b).map (yT 32 a :: ·) else none:=by
 rw[jf,if_neg (by rintro rfl;cases h)]
 grind
theorem ZrJ{t a b:List UInt8}(h:xV 10 t=some (a,b)){k:Nat}{w:List UInt8}(c:(yT 32 a)[k]?=some w)(hb:um w=false):jf t=none:=by
 rw[Za7 h,if_neg]
 grind
theorem ZrK{w:List UInt8}(h:Z2 w):(32:UInt8) ∉ w/\(10:UInt8) ∉ w :=
 ⟨λhc=>by have:=(h.2 32 hc).1;simp at this,λhc=>by have:=(h.2 10 hc).1;simp at this⟩
theorem ZrL{ls:List (List (List UInt8))}(h0:∀l∈ls,l≠[])(h:∀l∈ls,∀w∈l,Z2 w):jf (z8 ls)=some ls:=by
 induction ls with
 | nil=>exact X8
 | cons l ls a =>
  have hl:=h l DP;have hc:xV 10 (z8 (l :: ls))=some (zQ l,z8 ls):=by
   rw[ul];exact ZrE _ (Zrx hl)
  grind[ZrI,ZrK,Za7,X7]
theorem ZrM(l:List UInt8):zQ (yT 32 l)=l:=by
 induction l with
 | nil=>rfl
 | cons x xs a =>
  unfold yT;split
  ·rename_i e;cases h:yT 32 xs<;>simp_all[ZdN,X6]
  ·cases h:yT 32 xs with
   | nil=>simp_all[ZdN]
   | cons v vs =>
    rw[h]at a;cases vs<;>simp_all[zQ]
theorem Zik(n:Nat):∀{t:List UInt8} {ls:List (List (List UInt8))},t.length<=n->jf t=some ls->z8 ls=t/\(∀l∈ls,l≠[])/\(∀l∈ls,∀w∈l,Z2 w):=by
 induction n with
 | zero =>
  intro t ls hn h;obtain rfl:=Av (Nat.le_zero.1 hn);rw[X8]at h;cases h;exact⟨rfl,by simp,by simp⟩
 | succ n c =>
  intro t ls hn h
  by_cases h0:t=[]
  ·grind
  ·cases hc:xV 10 t with
   | none=>simp_all[Zij]
   | some p =>
    obtain⟨a,b⟩:=p;rw[Za7 hc]at h;split at h
    ·rename_i d;obtain⟨ms,hm,rfl⟩:=Ap.1 h;have:=ZdL hc
     grind[J3,ul,ZrM,ZdN,X7]
    ·cases h
theorem Vd{α:Type}{p:List α->Prop}(h0:p [])(h1:∀l a,p l->p (l++[a]))(l:List α):p l:=by
 have:∀m:List α,p m.reverse:=by
  intro m
  induction m with
  | nil=>exact h0
  | cons a m b=>rw[Dr];exact h1 _ _ b
 have:=this l.reverse
 simp_all
def xp(l:List UInt8):Nat:=l.foldl (λn c=>if 100000000000000000<=n then 1000000000000000000 else 10*n+(c.toNat-48)) 0
theorem Ve(l:List UInt8)(c:UInt8):xp (l++[c])=if 100000000000000000<=xp l then 1000000000000000000 else 10*xp l+(c.toNat-48):=by grind[xp]
def ZC(w:List UInt8):Bool:=w.all λc=>decide (48<=c.toNat/\c.toNat<=57)
theorem Za8{w:List UInt8}{k:Nat}{c:UInt8}(h:w[k]?=some c)(hc:¬(48<=c.toNat/\c.toNat<=57)):ZC w=false:=by grind[ZC]
def ZD(w:List UInt8):Bool:=match w with
 | []=>true
 | c :: l=>decide (c.toNat=48) && decide (l≠[])
def y8(w:List UInt8):Option Nat:=if ZD w=true then none else if ZC w=true then some (xp w) else none
theorem Zil(l:List UInt8)(h:∀c∈l,c.toNat<=57):xp l<=1000000000000000000:=by
 revert h;refine Vd (p:=λl:List UInt8=>(∀c∈l,c.toNat<=57)->xp l<=1000000000000000000) (λ_=>by decide) (λl c a h=>?_) l
 grind[Ve]
theorem ZrN(w:List UInt8)(h:xH w<100000000000000000):xp w=xH w:=by
 revert h;refine Vd (p:=λw:List UInt8=>xH w<100000000000000000->xp w=xH w) (λ_=>rfl) (λl c a h=>?_) w
 grind[X5,Ve]
theorem Zim(n:Nat)(hn:n<100000000000000000):y8 (zM n)=some n:=by
 have h1:ZD (zM n)=false:=by
  rcases Bh 1 (zM n).length with h | h
  ·obtain⟨c,l,e,hc⟩:=Zrv n h;rw[e];simp[ZD,hc]
  ·rcases a:zM n with _ | ⟨c,_ | ⟨d,l⟩⟩
   ·exact absurd a (Za4 n)
   ·simp[ZD]
   ·rw[a]at h;simp at h
 have h2:ZC (zM n)=true:=by unfold ZC;rw[Aw];intro c hc;simpa using Zic n c hc
 simp_all[y8,ZrN,Zru]
theorem Zin{w:List UInt8}{n:Nat}(h:y8 w=some n):n<=1000000000000000000:=by grind[y8,Zil,ZC]
open Go Go.Proofs
theorem Vf(l:List UInt8)(k:Nat):(bs l)[k]?=l[k]?:=by
 by_cases h:k<l.length
 ·rw[Ac h,getElem?_pos (bs l) k (by rw[xU];exact h)];rfl
 ·rw[Ao DO,getElem?_neg (bs l) k (by rw[xU];omega)]
theorem ZdQ{a b:ByteArray}(h:a.toList=b.toList):a=b:=by
 rw[Lib.toList_data,Lib.toList_data]at h;cases a;cases b;simp at h;congr
theorem Za9{a b:ByteArray}(h:a≠b):yC .eql a b=some (.bool false):=by
 have h2:¬a.toList=b.toList:=λe=>h (ZdQ e)
 simp[yC,h2]
theorem Zio{w:List UInt8}:bs w=bs []<->w=[]:=by
 constructor
 ·intro h;have:=congrArg ByteArray.size h;rw[xU,xU]at this;exact Av (by simpa using this)
 ·rintro rfl;rfl
theorem ZrO(w:List UInt8)(hl:w.length<=1099511627776):Pure prog 138 [T (bs w)] (B (um w)):=by
 have i:=xU w;refine zx func138 ntmps138 results138 λS nx f=>?_
 refine DY ?_
 repeat apply ze
 refine zi [] i ?_;refine zn (zK (λk:Nat=>k<=w.length/\∀c∈w.take k,33<=c.toNat/\c.toNat<=126) (λk=>[(0,T (bs w)),(5,I w.length),(6,I k)]) (λ_=>[]) (λk=>w.length-k) 0 [] DP DP DP ?_);rintro k ⟨v,j⟩;refine DY ?_;refine ze (zA rfl (λhc=>?_) (λhc=>?_))
 ·simp at hc;obtain⟨c,a⟩:∃c,w[k]?=some c:=⟨_,Ac hc⟩;have l:=(Vf w k).trans a;refine zk (ze (zn (DY ?_)))
  by_cases h3:c.toNat<33
  ·have b:(c.toNat:Int)<33:=DO
   refine ze (zi [(4,13)] (zS l h3 b zB) ?_);refine zo (by simp[*]) ?_;refine DY ?_;exact zj (zm f DQ (by rw[Zii a (by omega)];rfl))
  have b:¬(c.toNat:Int)<33:=DO
  by_cases q:126<c.toNat
  ·have g:126<(c.toNat:Int):=DO
   refine ze (zi [(4,13)] (yr l h3 q b g) ?_);refine zo (by simp[*]) ?_;refine DY ?_;exact zj (zm f DQ (by rw[Zii a (by omega)];rfl))
  have g:¬126<(c.toNat:Int):=DO
  refine ze (zi [(4,13)] (yr l h3 q b g) ?_);refine zp (by simp[*]) ?_;refine zk (zg ?_);have m:w.take (k+1)=w.take k++[c]:=by rw[AC,a];rfl
  exact zu (k+1) [] ⟨hc,by rw[m];intro d f;rw[AB,AU]at f;exact f.elim (j d) (λe=>by subst e;omega)⟩ DO (by simp[zy k (by omega)]) rfl DP
 ·simp at hc;obtain rfl:k=w.length:=DO
  rw[Ai]at j;refine zC (Xy (λ_=>.inl rfl) ?_)
  by_cases h0:w=[]
  ·subst h0;refine ze (xL [] DU DU λK Gc Gh r n o X h s=>?_);simp -implicitDefEqProofs [h,s,yC]
   try clear h s X
   refine r _ _ _ ?_;clear r n o;clear K Gc Gh;exact DZ f
  ·have p:bs w≠bs []:=λe=>h0 (Zio.1 e)
   have t:yC .neq (bs w) ⟨#[]⟩=some (.bool true):=by
    have h2:¬(bs w).toList=(bs []).toList:=λe=>p (ZdQ e)
    have h3:((bs w).toList == (bs []).toList)=false:=by simpa using h2
    show some (Value.bool (!((bs w).toList == (bs []).toList)))=_
    rw[h3];rfl
   have u:um w=true:=(X7 w).2 ⟨h0,j⟩;refine ze (zi [] t ?_);exact zj (zm f DQ (by simp[zr,u]))
def Z3(o:Option Nat):PV:=match o with
 | none=>.tup [I 0,B false]
 | some n=>.tup [I n,B true]
theorem Zip(w:List UInt8)(hl:w.length<=1099511627776):Pure prog 109 [T (bs w)] (Z3 (y8 w)):=by
 rcases w with _ | ⟨c0,wt⟩
 ·refine zx func109 ntmps109 results109 λS nx f=>?_
  refine DY ?_
  repeat apply ze
  refine xL [(2,8),(6,12)] DU DU λK Gc Gh hK a0 a1 X u hX=>?_
  simp -implicitDefEqProofs [u,hX,yC,undef]
  try clear u hX X
  refine hK _ _ _ ?_;clear hK a0 a1;clear K Gc Gh;refine zo DP ?_;refine DY ?_;exact DZ f
 obtain⟨w,v⟩:∃w,w=c0 :: wt:=⟨_,rfl⟩;have x:w[0]?=some c0:=by rw[v];rfl
 have a2:w≠[]:=by rw[v];simp
 have o:ZD w=(decide (c0.toNat=48) && decide (1<w.length)):=by rw[v];cases wt<;>simp[ZD]
 rw[<-v]at hl ⊢;clear v wt;obtain⟨B,hB⟩:∃B,B=bs w:=⟨_,rfl⟩;have b:B.size=w.length:=by rw[hB,xU]
 have hg:∀k,B[k]?=w[k]?:=λk=>by rw[hB];exact Vf w k
 have g:=(hg 0).trans x;have he:yC .eql B ⟨#[]⟩=some (.bool false):=by
  have:B≠⟨#[]⟩:=by intro h;have:=congrArg ByteArray.size h;rw[b]at this;exact a2 (Av (by simpa[ByteArray.size] using this))
  exact Za9 this
 rw[<-hB]
 by_cases a:ZD w=true
 ·have hr:y8 w=none:=by unfold y8;rw[if_pos a]
  rw[hr];rw[o]at a;simp only[Ar,decide_eq_true_eq]at a;obtain⟨q1,q2⟩:=a;have h3:(c0.toNat:Int)=48:=DO
  refine zx func109 ntmps109 results109 λS nx f=>?_
  refine DY ?_
  repeat apply ze
  refine zi [(2,8),(6,12)] (zW b g he h3 q1 (zq q2 zB)) ?_;refine zo DT ?_;refine DY ?_;exact DZ f
 have p:(c0.toNat=48/\¬1<w.length)\/¬c0.toNat=48:=by
  rw[o]at a;simp only[Ar,decide_eq_true_eq,not_and]at a
  by_cases h1:c0.toNat=48
  ·exact .inl ⟨h1,a h1⟩
  ·exact .inr h1
 have n:y8 w=if ZC w=true then some (xp w) else none:=by unfold y8;rw[if_neg a]
 rw[n];clear n a o;refine zx func109 ntmps109 results109 λS nx f=>?_
 refine DY ?_;rcases p with ⟨h1,h2⟩ | h1
 have h3:(c0.toNat:Int)=48:=DO
 repeat apply ze
 refine zi [(2,8),(6,12)] (zW b g he h3 h2 zB) ?_;refine zp DT ?_
 rotate_left
 have h3:¬(c0.toNat:Int)=48:=DO
 repeat apply ze
 refine zi [(2,8),(6,12)] (yr b g he h3 zB) ?_;refine zp (by simp[*]) ?_
 all_goals
  clear h1 h3 he g x;refine zk (DY ?_)
  repeat apply ze
  refine zi [] b ?_;refine zn (zK (λk:Nat=>k<=w.length/\∀c∈w.take k,48<=c.toNat/\c.toNat<=57) (λk=>[(0,T B),(4,I (xp (w.take k))),(19,I w.length),(20,I k)]) (λ_=>[]) (λk=>w.length-k) 0 [] DP (by simp[xp]) DP ?_);rintro k ⟨hk,ha⟩;refine DY ?_;refine ze (zA rfl (λhc=>?_) (λhc=>?_))
  ·simp at hc;obtain⟨c,i⟩:∃c,w[k]?=some c:=⟨_,Ac hc⟩;have j:=(hg k).trans i;have a4:=Zil (w.take k) λc hc=>(ha c hc).2
   refine zk (ze (zn (DY ?_)))
   by_cases h3:c.toNat<48
   ·have l:(c.toNat:Int)<48:=DO
    repeat apply ze
    refine zi [(4,27)] (zS j h3 l zB) ?_;refine zo (by simp[*]) ?_;refine DY ?_;exact zj (zm f DQ (by rw[Za8 i (by omega)];rfl))
   have l:¬(c.toNat:Int)<48:=DO
   by_cases h4:57<c.toNat
   ·have q:57<(c.toNat:Int):=DO
    repeat apply ze
    refine zi [(4,27)] (yr j h3 l h4 q) ?_;refine zo (by simp[*]) ?_;refine DY ?_;exact zj (zm f DQ (by rw[Za8 i (by omega)];rfl))
   have q:¬57<(c.toNat:Int):=DO
   repeat apply ze
   refine zi [(4,27)] (yr j h3 l h4 q) ?_;refine zp (by simp[*]) ?_;refine zk ?_;have y:w.take (k+1)=w.take k++[c]:=by rw[AC,i];rfl
   have m:xp (w.take (k+1))=if 100000000000000000<=xp (w.take k) then 1000000000000000000 else 10*xp (w.take k)+(c.toNat-48):=by rw[y];exact Ve _ _
   have z:∀d∈w.take (k+1),48<=d.toNat/\d.toNat<=57:=by rw[y];intro d f;rw[AB,AU]at f;exact f.elim (ha d) (λe=>by subst e;omega)
   obtain⟨d1,r⟩:∃d1,xp (w.take (k+1))=d1:=⟨_,rfl⟩;rw[r]at m;generalize xp (w.take k)=t at *
   by_cases w5:100000000000000000<=t
   ·rw[if_pos w5]at m;have s:100000000000000000<=(t:Int):=DO
    refine ze (zi [] (zq w5 s) ?_);refine zo (by simp[*]) ?_;refine zg ?_;refine zg ?_;exact zu (k+1) [] ⟨hc,z⟩ DO (by simp[zy k (by omega),r,m]) rfl DP
   ·rw[if_neg w5]at m;have s:¬100000000000000000<=(t:Int):=DO
    have w1:W ((t:Int)*10)=(t:Int)*10:=by simp only[W,AA];omega
    have w2:IntKind.u8.wrap ((c.toNat:Int)-48)=(c.toNat:Int)-48:=by
     have e:IntKind.u8.wrap ((c.toNat:Int)-48)=((c.toNat:Int)-48) % 256:=by simp[IntKind.wrap,IntKind.bits,IntKind.signed]
     rw[e];omega
    have w3:W ((c.toNat:Int)-48)=(c.toNat:Int)-48:=by simp only[W,AA];omega
    have w4:W ((t:Int)*10+((c.toNat:Int)-48))=d1:=by simp only[W,AA];omega
    refine ze (zi [] (zq w5 s) ?_);refine zp (by simp[*]) ?_;refine zi [] (yr j w1 w2 w3 w4) ?_;refine zg ?_;exact zu (k+1) [] ⟨hc,z⟩ DO (by simp[zy k (by omega),r]) rfl DP
  ·simp at hc;obtain rfl:k=w.length:=DO
   refine zC (Xy (λ_=>.inl rfl) ?_);rw[Ai]at ha ⊢;have a3:ZC w=true:=by unfold ZC;rw[Aw];intro c hc;simpa using ha c hc
   refine DY ?_;exact zj (zm f DQ (by simp[zr,a3,Z3]))
open Go Go.Proofs
def ZE(l:List UInt8):Prop:=∀c∈l,48<=c.toNat/\c.toNat<=57
theorem ZdR{l:List UInt8}{c:UInt8}(h:ZE (l++[c])):ZE l/\48<=c.toNat/\c.toNat<=57:=⟨λd a=>h d (by simp[a]),h c DP⟩
theorem Ziq(l:List UInt8):ZE l->xH l<10 ^ l.length:=by
 refine Vd (p:=λl=>ZE l->xH l<10 ^ l.length) (λ_=>by decide) (λl c a h=>?_) l;obtain⟨h1,h2⟩:=ZdR h;have:=a h1;rw[X5,Am,Ba,DN];omega
theorem Zir(l:List UInt8):ZE l->l.length<=18->xp l=xH l:=by
 refine Vd (p:=λl=>ZE l->l.length<=18->xp l=xH l) (λ_ _=>rfl) (λl c a h hl=>?_) l;obtain⟨h1,h2⟩:=ZdR h;rw[Am,Ba]at hl;have b:=Ziq l h1;have e2:10 ^ l.length<=10 ^ 17:=BH DV DO;rw[Ve,a h1 DO,X5,if_neg DO]
theorem ZrP{c0:UInt8}(h0:c0.toNat≠48)(l:List UInt8):ZE (c0 :: l)->10 ^ l.length<=xH (c0 :: l)/\(18<=l.length->xp (c0 :: l)=1000000000000000000):=by
 refine Vd (p:=λl=>ZE (c0 :: l)->10 ^ l.length<=xH (c0 :: l)/\(18<=l.length->xp (c0 :: l)=1000000000000000000)) (λh=>?_) (λl c b h=>?_) l
 ·have:=h c0 DP;refine⟨?_,λh=>by simp at h⟩
  show 1<=10*0+(c0.toNat-48)
  omega
 ·rw[<-List.cons_append]at h ⊢;obtain⟨h1,h2⟩:=ZdR h;obtain⟨i1,i2⟩:=b h1;rw[X5,Ve,Am,Ba,DN];refine⟨by omega,λhl=>if_pos ?_⟩
  by_cases a:18<=l.length
  ·rw[i2 a];decide
  ·have e:l.length=17:=DO
   rw[Zir _ h1 DT];rw[e]at i1;exact i1
theorem ZrQ{w:List UInt8}(ho:¬ZD w=true)(b:ZE w):xp w=if 18<w.length then 1000000000000000000 else xH w:=by
 split
 ·rename_i h;cases w with
  | nil=>simp at h
  | cons c l =>
   simp only[Ae]at h;refine(ZrP ?_ l b).2 DO;intro a;apply ho;have:l≠[]:=by rintro rfl;simp at h
   simp[ZD,a,this]
 ·exact Zir w b DO
theorem ZrR(w:List UInt8)(hl:w.length<=1099511627776):Pure prog 72 [T (bs w)] (Z3 (y8 w)):=by
 rcases w with _ | ⟨c0,wt⟩
 ·have he:bs []=ByteArray.empty:=rfl;refine zx func72 ntmps72 results72 λS nx h=>?_
  (repeat apply ze);refine zg ?_;intros
  repeat apply ze
  refine zi [(3,10),(7,14)] (zq he zB) ?_;intros
  repeat apply ze
  refine zo DP ?_
  (repeat apply ze);refine zg ?_;intros
  repeat apply ze
  exact DZ h
 obtain⟨w,u⟩:∃w,w=c0 :: wt:=⟨_,rfl⟩;have v:w[0]?=some c0:=by rw[u];rfl
 have o:¬w.length=0:=by rw[u];simp
 have p:ZD w=(decide (c0.toNat=48) && decide (1<w.length)):=by rw[u];cases wt<;>simp[ZD]
 rw[<-u]at hl ⊢;clear u wt;obtain⟨B,z⟩:∃B,B=bs w:=⟨_,rfl⟩;have g:B.size=w.length:=by rw[z,xU]
 have hg:∀k,B[k]?=w[k]?:=λk=>by rw[z];exact Vf w k
 have j:=(hg 0).trans v;rw[<-z]
 by_cases a:ZD w=true
 ·have hr:y8 w=none:=by unfold y8;rw[if_pos a]
  rw[hr];rw[p]at a;simp only[Ar,decide_eq_true_eq]at a;obtain⟨q1,q2⟩:=a;have h3:(c0.toNat:Int)=48:=DO
  refine zx func72 ntmps72 results72 λS nx h=>?_
  (repeat apply ze);refine zg ?_;intros
  repeat apply ze
  refine zi [(3,10),(7,14)] (zW g j o h3 q1 (zq q2 zB)) ?_;intros
  repeat apply ze
  refine zo DT ?_
  (repeat apply ze);refine zg ?_;intros
  repeat apply ze
  exact DZ h
 have q:(c0.toNat=48/\¬1<w.length)\/¬c0.toNat=48:=by
  rw[p]at a;simp only[Ar,decide_eq_true_eq,not_and]at a
  by_cases h1:c0.toNat=48
  ·exact .inl ⟨h1,a h1⟩
  ·exact .inr h1
 have n:y8 w=if ZC w=true then some (xp w) else none:=by unfold y8;rw[if_neg a]
 have x:=ZrQ a;rw[n];clear n a p;refine zx func72 ntmps72 results72 λS nx h=>?_
 (repeat apply ze);refine zg ?_;intros
 rcases q with ⟨h1,h2⟩ | h1
 have h3:(c0.toNat:Int)=48:=DO
 repeat apply ze
 refine zi [(3,10),(7,14)] (zW g j o h3 h2 zB) ?_;intros
 repeat apply ze
 refine zp DT ?_
 rotate_left
 have h3:¬(c0.toNat:Int)=48:=DO
 repeat apply ze
 refine zi [(3,10),(7,14)] (yr g j o h3 zB) ?_;intros
 repeat apply ze
 refine zp (by simp[*]) ?_
 all_goals
  clear h1 h3 j v;refine zk ?_
  (repeat apply ze);refine zg ?_;intros
  repeat apply ze
  refine zn (zK (λk:Nat=>k<=w.length/\ZE (w.take k)) (λk=>[(0,T B),(4,I k)]) (λ_=>[]) (λk=>w.length-k) 0 [] (by simp[ZE]) DP DP ?_);rintro k ⟨hk,t⟩
  repeat apply ze
  refine zi [] g ?_;intros
  repeat apply ze
  refine zA rfl (λhc=>?_) (λhc=>?_)
  ·simp at hc;obtain⟨c,f⟩:∃c,w[k]?=some c:=⟨_,Ac hc⟩;have i:=(hg k).trans f;refine zk (ze (zn ?_))
   by_cases h3:c.toNat<48
   ·have l:(c.toNat:Int)<48:=DO
    repeat apply ze
    refine zi [(4,30)] (zS i h3 l zB) ?_;intros
    repeat apply ze
    refine zo (by simp[*]) ?_
    (repeat apply ze);refine zg ?_;intros
    repeat apply ze
    exact zj (zm h DQ (by rw[Za8 f (by omega)];rfl))
   have l:¬(c.toNat:Int)<48:=DO
   by_cases h4:57<c.toNat
   ·have r:57<(c.toNat:Int):=DO
    repeat apply ze
    refine zi [(4,30)] (yr i h3 l h4 r) ?_;intros
    repeat apply ze
    refine zo (by simp[*]) ?_
    (repeat apply ze);refine zg ?_;intros
    repeat apply ze
    exact zj (zm h DQ (by rw[Za8 f (by omega)];rfl))
   have r:¬57<(c.toNat:Int):=DO
   repeat apply ze
   refine zi [(4,30)] (yr i h3 l h4 r) ?_;intros
   repeat apply ze
   refine zp (by simp[*]) ?_;refine zk ?_;have s:w.take (k+1)=w.take k++[c]:=by rw[AC,f];rfl
   have a0:ZE (w.take (k+1)):=by rw[s];intro d h;rw[AB,AU]at h;exact h.elim (t d) (λe=>by subst e;omega)
   (repeat apply ze);refine zg ?_;intros
   exact zu (k+1) [] ⟨hc,a0⟩ DO (by simp[zy k (by omega)]) rfl DP
  ·simp at hc;obtain rfl:k=w.length:=DO
   refine zC ?_;rw[Ai]at t;have a1:ZC w=true:=by unfold ZC;rw[Aw];intro c hc;simpa using t c hc
   have b:=x t;rw[if_pos a1]
   by_cases m:18<w.length
   ·rw[if_pos m]at b
    repeat apply ze
    refine zi [] (zq g m) ?_;intros
    repeat apply ze
    refine zo (by simp[*];try omega) ?_
    (repeat apply ze);refine zg ?_;intros
    repeat apply ze
    exact zj (zm h DQ (by simp[zr,b,Z3]))
   ·rw[if_neg m]at b
    repeat apply ze
    refine zi [] (zq g m) ?_;intros
    repeat apply ze
    refine zp (by simp[*];try omega) ?_;refine zk ?_
    (repeat apply ze);refine zg ?_;intros
    (repeat apply ze);refine zg ?_;intros
    repeat apply ze
    refine zn (zK (λk:Nat=>k<=w.length) (λk=>[(0,T B),(5,I (xH (w.take k))),(6,I k)]) (λ_=>[]) (λk=>w.length-k) 0 [] DP (by simp[xH]) DP ?_);rintro k a2
    repeat apply ze
    refine zi [] g ?_;intros
    repeat apply ze
    refine zA rfl (λhc=>?_) (λhc=>?_)
    ·simp at hc;obtain⟨c,f⟩:∃c,w[k]?=some c:=⟨_,Ac hc⟩;have i:=(hg k).trans f;have a3:=t c (Ab f);have a4:=Ziq (w.take k) λd h=>t d (BA h)
     have e2:10 ^ (w.take k).length<=10 ^ 17:=BH DV (by rw[Ax];omega);have s:xH (w.take (k+1))=10*xH (w.take k)+(c.toNat-48):=by rw[AC,f];exact X5 _ _
     obtain⟨d1,y⟩:∃d1,xH (w.take (k+1))=d1:=⟨_,rfl⟩;rw[y]at s;generalize xH (w.take k)=d0 at *;have w1:W (10*(d0:Int))=10*(d0:Int):=by simp only[W,AA];omega
     have w2:IntKind.u8.wrap ((c.toNat:Int)-48)=(c.toNat:Int)-48:=by
      have e:IntKind.u8.wrap ((c.toNat:Int)-48)=((c.toNat:Int)-48) % 256:=by simp[IntKind.wrap,IntKind.bits,IntKind.signed]
      rw[e];omega
     have w3:W ((c.toNat:Int)-48)=(c.toNat:Int)-48:=by simp only[W,AA];omega
     have w4:W (10*(d0:Int)+((c.toNat:Int)-48))=d1:=by simp only[W,AA];omega
     refine zk (ze (zn ?_))
     repeat apply ze
     refine zi [] (yr i w1 w2 w3 w4) ?_;intros
     (repeat apply ze);refine zg ?_;intros
     exact zu (k+1) [] hc DO (by simp[zy k (by omega),y]) rfl DP
    ·simp at hc;obtain rfl:k=w.length:=DO
     refine zC ?_;rw[Ai]
     (repeat apply ze);refine zg ?_;intros
     repeat apply ze
     exact zj (zm h DQ (by simp[zr,b,Z3]))
open Go
def Qs(q:List Int):Prop:=∀z∈q,0<=z/\z<=2147483648
structure GoodV (n:Nat) (v:List Visit):Prop where
 len:v.length<=64
 ok:∀s∈v,(0<=s.d/\s.d<n)/\1<=s.q/\s.q<=2147483648
 nd:(v.map (·.d)).Nodup
def qm:Nat->List Int->List Visit
 | _,[]=>[]
 | i,z :: l=>if 0<z then ⟨i,z⟩ :: qm (i+1) l else qm (i+1) l
theorem Zba:∀(l:List Int) (i:Nat),(qm i l).length<=l.length
 | [],_=>by simp[qm]
 | z :: l,i=>by
  have:=Zba l (i+1);simp only[qm];split<;>simp<;>omega
theorem Zbb:∀(l:List Int) (i:Nat),Qs l->∀s∈qm i l,((i:Int)<=s.d/\s.d<(i+l.length:Nat))/\1<=s.q/\s.q<=2147483648
 | [],_,_=>by intro s hs;cases hs
 | z :: l,i,h=>by
  have a:=Zbb l (i+1) λx hx=>h x (by simp[hx])
  have b:=h z DP;intro s hs;simp only[qm]at hs;split at hs
  ·rcases Au.1 hs with rfl | hs
   ·simp only[Ae];omega
   ·have:=a s hs;simp only[Ae];omega
  ·have:=a s hs;simp only[Ae];omega
theorem Zis:∀(l:List Int) (i:Nat),∀s∈qm i l,(i:Int)<=s.d
 | [],_=>by intro s hs;cases hs
 | z :: l,i=>by
  have a:=Zis l (i+1);intro s hs;simp only[qm]at hs;split at hs
  ·rcases Au.1 hs with rfl | hs
   ·exact De _
   ·have:=a s hs;omega
  ·have:=a s hs;omega
theorem Zit:∀(l:List Int) (i:Nat),((qm i l).map (·.d)).Nodup
 | [],_=>by simp[qm]
 | z :: l,i=>by
  have a:=Zit l (i+1);simp only[qm];split
  ·rw[AD,CH];refine⟨λh=>?_,a⟩;obtain⟨s,hs,e⟩:=Al.1 h;have:=Zis l (i+1) s hs;simp only at e;omega
  ·exact a
theorem ZrS(n a k:Nat):(yH n a k).Nodup:=by
 unfold yH;refine List.Pairwise.map _ (λx y (h:x≠y)=>?_) (List.Pairwise.filter _ List.nodup_range);intro e;apply h;omega
theorem Ziu{q:List Int}{n:Nat}(a:Qs q)(hl:q.length<=n)(hn:n<=64):GoodV n (qm 0 q):=by
 refine⟨AF (Zba q 0) DO,λs hs=>?_,Zit q 0⟩;have:=Zbb q 0 a s hs;omega
def Ja(c:Cust)(p:Nat):List Visit:=(yH p 0 64).map λd=>⟨d,c.demand⟩
open Go
structure CustMade (c:Cust) (n:Nat):Prop where
 fits:CustFits c
 pats:∀p∈c.pats,p<2 ^ 64
 npats:c.pats.length<=1048576
 per:c.kind=1->(∀p∈c.pats,∀d∈yH p 0 64,d<n)/\1<=c.demand/\c.demand<=2147483648
open Go
theorem ZdS{α:Type}[Enc α](h1:Enc.sz α=1)(l:List α)(k:Nat)(v:α)(h:k<l.length):yk (l.flatMap Enc.enc) k (Enc.enc v)=(l.set k v).flatMap Enc.enc:=by
 have a:(l.flatMap Enc.enc).take k=(l.take k).flatMap Enc.enc:=by
  have:=JC (α:=α) Enc.enc (Enc.sz α) Enc.len l k;rwa[h1,BO]at this
 have e2:(l.flatMap Enc.enc).drop (k+1)=(l.drop (k+1)).flatMap Enc.enc:=by
  have:=Xq (α:=α) Enc.enc (Enc.sz α) Enc.len l (k+1);rwa[h1,BO]at this
 rw[yk,Enc.len,h1,a,e2,AE,if_pos h];simp
open Go Go.Proofs Hp
def RowOf(S:Store)(pl:PV)(l:List Int):Prop:=pl=L l\/∃id ver,pl=.sl id ver 1 0 l.length/\S id=.cells ver 3 (l.flatMap Enc.enc)
theorem RowOf.ext{S:Store}{a:PV}{l:List Int}(h:RowOf S a l){nx:Nat}(b:yd nx S)(obs:List Ob):RowOf (ext S nx obs) a l:=by
 rcases h with h | ⟨id,ver,h1,h2⟩
 ·exact .inl h
 ·exact .inr ⟨id,ver,h1,(zJ (qi b h2 DP)).trans h2⟩
theorem Ziv{S:Store}{nx id ver:Nat}(i:yd nx S)(x:Inst)(v p f pr:PV)(b:Int)(fn:FuncId)(fs:List PV)(n:Nat)(hn:x.days=n)(l:n<=1000)(j:S id=.cells ver 235 (wg x v b p f pr))(Pk:Nat->Store->Prop)(h0:Pk 0 S)
  (a:∀k T,Pk k T->yd nx T) (c:∀k,k<n->∀T,Pk k T->Spec prog fn (fs++[I k]) T (λ_ S'=>Pk (k+1) S')) :
  Spec prog 173 [.ptr id ver 0,.fn (.func fn) fs []] S (λ_ S'=>Pk n S'):=by
 refine Zv i func173 ntmps173 results173 ?_;have h:id<nx:=qi i j DP;have m:=λobs=>(zJ (S:=S) (obs:=obs) h).trans j
 refine ze (zi [] (zq m hn) ?_);refine zn (jX (σ:=Nat × Store) (λs=>s.1<=n/\Pk s.1 s.2) (λs=>[(1,.fn (.func fn) fs []),(9,I n),(10,I s.1)]) (λs=>s.2) (λ_=>[]) (λs=>n-s.1) (zZ (0,S) [] ⟨by simp,h0⟩ DP rfl DP) ?_);rintro⟨k,T⟩ ⟨o,d⟩;simp only at o d ⊢;refine DY ?_;refine ze (zA rfl (λhc=>?_) (λhc=>?_))
 ·simp at hc;refine zk (ze (zn (DY ?_)));refine zg ?_;refine λe=>(Spec.mono (by rw[qZ (a k T d)];simpa using c k hc T d) ?_).v
  rintro _ T' g;refine⟨T',[],(qZ (a _ _ g)).symm,zR e ?_⟩;refine zg ?_;exact zu (k+1,T') [] ⟨hc,g⟩ DO (by simp[zy k (by omega)]) rfl DP
 ·simp at hc;obtain rfl:k=n:=DO
  refine zC ?_;exact⟨_,T,rfl,d,yb (a _ _ d)⟩
def YH(x:Inst)(j:Nat):Int:=W (yN x [(j:Int)])
def xq(x:Inst)(k i:Nat):List (List Int):=(List.range x.cust.length).map λj=>List.replicate (if j<i then k+1 else k) (YH x j)
theorem J4(x:Inst)(k i:Nat):(xq x k i).length=x.cust.length:=by simp[xq]
theorem Ziw(x:Inst)(k i j:Nat)(h:j<x.cust.length):(xq x k i).getD j []=List.replicate (if j<i then k+1 else k) (YH x j):=by simp_all[xq]
theorem ZrT(x:Inst)(k:Nat):xq x k x.cust.length=xq x (k+1) 0:=by simp[xq]
theorem ZrU(x:Inst)(k i:Nat)(h:i<x.cust.length):(xq x k i).set i (List.replicate (k+1) (YH x i))=xq x k (i+1):=by
 apply A8
 grind[xq]
theorem ZrV{S:Store}{id ver A va base:Nat}{ws:Nat->Nat}{x:Inst}{v p f:PV}{b:Int}(k:Nat)(hx:x.cust.length<=1000)(hk:k<=1000)(hid:id<base)(e:id≠A)(hS:S id=.cells ver 235 (wg x v b p f (.sl A va 1 0 x.cust.length)))
  (a:RowsAt S A va 26 base 3 1 ws (xq x k 0)) :
  Spec prog 174 [.ptr id ver 0,I k] S (λ_ S'=>(∃a0,RowsAt S' A va 26 base 3 1 a0 (xq x (k+1) 0))/\∀o,o≠A->(o<base\/base+x.cust.length<=o)->S' o=S o):=by
 refine yt func174 ntmps174 results174 λnx hd=>?_
 have d:id<nx:=qi hd hS DP;have g:A<nx:=qi hd a.arr DP;have h:∀i,i<x.cust.length->base+i<nx:=λi hi=>qi hd (a.row i (by simp_all[J4])) DP
 have xw:=λobs=>(zJ (S:=S) (obs:=obs) d).trans hS
 refine ze (zi [] xw ?_);refine zn (jX (σ:=Nat × Store × (Nat->Nat)) (λs=>s.1<=x.cust.length/\RowsAt s.2.1 A va 26 base 3 1 s.2.2 (xq x k s.1)/\∀o,o≠A->(o<base\/base+x.cust.length<=o)->s.2.1 o=S o)
  (λs=>[(0,.ptr id ver 0),(10,I x.cust.length),(11,I s.1)]) (λs=>s.2.1) (λ_=>[]) (λs=>x.cust.length-s.1) (zZ (0,S,ws) [] ⟨by simp,a,λ_ _ _=>rfl⟩ DP rfl DP) ?_)
 clear a;rintro⟨i,T,ws⟩ ⟨hi,a,r⟩;simp only at hi a r ⊢;refine DY ?_;refine ze (zA rfl (λhc=>?_) (λhc=>?_))
 ·simp at hc;have l:T id=.cells ver 235 (wg x v b p f (.sl A va 1 0 x.cust.length)):=(r id e (.inl hid)).trans hS;have a4:=a.out;have t:=a.row i (by simp_all[J4]);rw[Ziw x k i i hc,if_neg (CK i)]at t;have u:=h i hc;have xw:=λobs=>(zJ (S:=T) (obs:=obs) d).trans l
  have xa:=λobs=>(zJ (S:=T) (obs:=obs) g).trans a.arr
  have xr:=λobs=>(zJ (S:=T) (obs:=obs) u).trans t
  have ya:=λ(o:Ob) obs=>(zJ (S:=T.set (base+i) o) (obs:=obs) g).trans ((q10 _ _ _ _ DO).trans a.arr)
  have yw:=λ(o:Ob) obs=>(zJ (S:=T.set (base+i) o) (obs:=obs) d).trans ((q10 _ _ _ _ DO).trans l)
  have zw:=λ(o o':Ob) obs=>(zJ (S:=(T.set (base+i) o).set A o') (obs:=obs) d).trans ((q10 _ _ _ _ e).trans ((q10 _ _ _ _ DO).trans l))
  have g1:¬nx<=base+i:=DO
  have g2:¬nx<=A:=DO
  obtain⟨tl,n⟩:=ZdI base 1 ws (xq x k i) i (by simp_all[J4]);rw[Ziw x k i i hc,if_neg (CK i),BZ]at n;have w:(uk base 1 ws (xq x k i)).length=x.cust.length:=by rw[ZdH,J4]
  have y:=ZcQ (uk base 1 ws (xq x k i)) i (.sl (base+i) (ws i+1) 1 0 (k+1)) DO;have z:=ZfN x [(i:Int)] DP (λc hc=>by grind[qv]);have a1:∀m:Nat,((List.replicate m (YH x i)).flatMap Enc.enc).length=m:=λm=>by simp
  refine zk (ze (zn (DY ?_)));refine zD (some [id]) (Row.pures [0,1,2,3,4,5,6,7,8,9,10,12,13,14,15,16,17,18,19] (.alt 11 (.alt 20 (Row.pures [21] (.alt 22 (.done) .stop)) .stop) .stop)) mixed (zW xw xa xr ya yw (zq (zW zw n g1 g2 y w) hc)) ?_;refine zO (z) (zW xw xa xr ya yw (zq (zW zw n g1 g2 y w) hc)) ?_;refine⟨by omega,by omega,?_⟩;obtain⟨T',q⟩:∃T',T'=(T.set (base+i) (.cells (ws i+1) 3 ((List.replicate (k+1) (YH x i)).flatMap Enc.enc))).set A (.cells va 26 ((uk base 1 ws (xq x k i)).set i (.sl (base+i) (ws i+1) 1 0 (List.replicate (k+1) (YH x i)).length))):=⟨_,rfl⟩;have j:=a.turn (i:=i) (by simp_all[J4]) (T':=T') (ws i+1) (List.replicate (k+1) (YH x i)) DX (by rw[q,q10 _ _ _ _ (by omega),q11]) (λo o1 o2=>by simp_all[q10]);rw[ZrU x k i hc]at j;refine zg ?_;refine zu (i+1,T',_) [] ⟨hc,j,λo ho a2=>?_⟩ DO (by simp[zy i (by omega)]) ?_ DP
  ·dsimp only;rw[q,q10 _ _ _ _ ho,q10 _ _ _ _ DO];exact r o ho a2
  ·dsimp only;rw[q];have a5:((List.replicate k (YH x i)).flatMap Enc.enc).take k=(List.replicate k (YH x i)).flatMap Enc.enc:=Af (by rw[a1];exact Ag _)
   simp_all[Da,YH]
 ·simp at hc;obtain rfl:i=x.cust.length:=DO
  rw[ZrT]at a;refine zC ?_;have a3:yd nx T:=λo ho=>by
   have h1:o≠A:=DO
   by_cases h2:o<base\/base+x.cust.length<=o
   ·rw[r o h1 h2];exact hd o ho
   ·have:=h (o-base) DO;omega
  exact⟨_,T,rfl,⟨⟨ws,a⟩,r⟩,yb a3⟩
def YI(k:Nat)(l:List Int):List Int:=l.set k (W (W (2*l.getD k 0)+1))
def uL(pr:List (List Int))(k i:Nat):List (List Int):=(List.range pr.length).map λj=>if j<i then YI k (pr.getD j []) else pr.getD j []
def X9(fs:List Int)(pr:List (List Int))(k:Nat):List (List Int):=if fs.getD k 0=14 then pr.map (YI k) else pr
def Wa(fs:List Int)(pr:List (List Int)):Nat->List (List Int)
 | 0=>pr
 | k+1=>X9 fs (Wa fs pr k) k
theorem Zix(k:Nat)(l:List Int):(YI k l).length=l.length:=by simp[YI]
theorem Vg(pr:List (List Int))(k i:Nat):(uL pr k i).length=pr.length:=by simp[uL]
theorem ZdT(pr:List (List Int))(k i j:Nat)(h:j<pr.length):(uL pr k i).getD j []=if j<i then YI k (pr.getD j []) else pr.getD j []:=by simp_all[uL]
theorem ZrW(pr:List (List Int))(k:Nat):uL pr k 0=pr:=by
 apply A8
 grind[uL]
theorem ZrX(pr:List (List Int))(k:Nat):uL pr k pr.length=pr.map (YI k):=by
 apply A8
 grind[uL]
theorem ZrY(pr:List (List Int))(k i:Nat)(h:i<pr.length):(uL pr k i).set i (YI k (pr.getD i []))=uL pr k (i+1):=by
 apply A8
 grind[uL]
def ZF(m n:Nat)(pr:List (List Int)):Prop:=pr.length=m/\∀l∈pr,l.length=n/\∀z∈l,zT z
theorem ZdU(x:Int):zT (W x):=by
 have key:∀m:Int,0<=m->m<2 ^ 64->zT (if (true && decide (m>=2 ^ (64-1)))=true then m-2 ^ 64 else m):=by
  intro m h1 h2;unfold zT
  by_cases h:m>=2 ^ (64-1)
  ·simp[h];omega
  ·simp[h];omega
 exact key _ (Int.emod_nonneg x DV) (Int.emod_lt_of_pos x DV)
theorem ZrZ{m n:Nat}{pr:List (List Int)}(fs:List Int)(k:Nat)(h:ZF m n pr):ZF m n (X9 fs pr k):=by
 unfold X9;split
 ·refine⟨by simp[h.1],λl hl=>?_⟩;obtain⟨l',a,rfl⟩:=Al.1 hl;rw[Zix];refine⟨(h.2 l' a).1,λz b=>?_⟩;rcases Bv b with b | rfl
  ·exact(h.2 l' a).2 z b
  ·exact ZdU _
 omega
theorem Vh{m n:Nat}{pr:List (List Int)}(fs:List Int)(h:ZF m n pr):∀k,ZF m n (Wa fs pr k)
 | 0=>h
 | k+1=>ZrZ fs k (Vh fs h k)
theorem Ziy(x:Inst)(n:Nat):ZF x.cust.length n (xq x n 0):=by
 refine⟨J4 x n 0,λl hl=>?_⟩;obtain⟨j,_,rfl⟩:=Al.1 hl;refine⟨by simp,λz a=>?_⟩;rw[(List.mem_replicate.1 a).2];exact ZdU _
theorem Zr0{S:Store}{id ver A va base idF vF:Nat}{ws:Nat->Nat}{x:Inst}{v p:PV}{b:Int}{m n:Nat}{pr:List (List Int)}{fs:List Int}(k:Nat)(hm:m<=1000)(hn:n<=1000)(a6:k<n)(hid:id<base)(d1:id≠A)(hF:S idF=.cells vF 47 (fs.flatMap Enc.enc))(d3:fs.length=n)
  (hS:S id=.cells ver 235 (wg x v b p (.sl idF vF 1 0 fs.length) (.sl A va 1 0 m))) (hP:ZF m n pr) (c:RowsAt S A va 26 base 3 1 ws pr) :
  Spec prog 179 [.ptr id ver 0,I k] S (λ_ S'=>RowsAt S' A va 26 base 3 1 ws (X9 fs pr k)/\∀o,(o<base\/base+m<=o)->S' o=S o):=by
 obtain⟨a0,a7⟩:=hP;refine yt func179 ntmps179 results179 λnx hd=>?_
 have q:id<nx:=qi hd hS DP;have a1:idF<nx:=qi hd hF DP;have f:A<nx:=qi hd c.arr DP;have g:∀i,i<m->base+i<nx:=λi hi=>qi hd (c.row i DO) DP
 have xw:=λobs=>(zJ (S:=S) (obs:=obs) q).trans hS
 have xf:=λobs=>(zJ (S:=S) (obs:=obs) a1).trans hF
 obtain⟨e,d4,e1,-,-,e0⟩:=zN rfl fs k DO;have a8:k<fs.length:=DO
 have d5:fs.getD k 0=e:=by rw[Aa,e1];rfl
 repeat apply ze
 refine zi [] (zS xw xf e0 a8) ?_
 by_cases he:e=14
 case neg =>
  refine zo (by simp[he]) ?_;exact zj ⟨_,S,rfl,⟨by simp_all[X9],λ_ _=>rfl⟩,yb hd⟩
 refine zp (by simp[he]) ?_;refine zk (ze (zi [] xw ?_));have r:∀T:Store,(∀o,(o<base\/base+m<=o)->T o=S o)->yd nx T:=λT t o ho=>by
  by_cases h2:o<base\/base+m<=o
  ·rw[t o h2];exact hd o ho
  ·have:=g (o-base) DO;omega
 refine zn (jX (σ:=Nat × Store) (λs=>s.1<=m/\RowsAt s.2 A va 26 base 3 1 ws (uL pr k s.1)/\∀o,(o<base\/base+m<=o)->s.2 o=S o)
  (λs=>[(0,.ptr id ver 0),(1,I k),(17,I m),(18,I s.1)]) (λs=>s.2) (λ_=>[]) (λs=>m-s.1) (zZ (0,S) [] ⟨by simp,by simp_all[ZrW],λ_ _=>rfl⟩ DP rfl DP) ?_)
 have d2:=c.out;clear c;rintro⟨i,T⟩ ⟨hi,c,t⟩;simp only at hi c t ⊢;refine DY ?_;refine ze (zA rfl (λhc=>?_) (λhc=>?_))
 ·simp at hc;have a:i<pr.length:=DO
  have a2:T id=.cells ver 235 (wg x v b p (.sl idF vF 1 0 fs.length) (.sl A va 1 0 m)):=(t id (.inl hid)).trans hS;have u:=c.row i (by simp_all[Vg]);rw[ZdT pr k i i a,if_neg (CK i)]at u;obtain⟨tl,w⟩:=ZdI base 1 ws (uL pr k i) i (by simp_all[Vg]);rw[ZdT pr k i i a,if_neg (CK i)]at w;have a9:(uk base 1 ws (uL pr k i)).length=m:=by rw[ZdH,Vg,a0]
  have y:(pr.getD i []).length=n:=by
   rw[Aa,Ac a];exact(a7 _ (Bc a)).1
  generalize h:pr.getD i []=row at u w y;obtain⟨z,d6,z1,-,-,z0⟩:=zN rfl row k DO;have b7:row.getD k 0=z:=by rw[Aa,z1];rfl
  have a3:k<row.length:=DO
  have a4:=g i hc;have xw:=λobs=>(zJ (S:=T) (obs:=obs) q).trans a2
  have xa:=λobs=>(zJ (S:=T) (obs:=obs) f).trans c.arr
  have xr:=λobs=>(zJ (S:=T) (obs:=obs) a4).trans u
  have yw:=λ(o:Ob) obs=>(zJ (S:=T.set (base+i) o) (obs:=obs) q).trans ((q10 _ _ _ _ DO).trans a2)
  have ya:=λ(o:Ob) obs=>(zJ (S:=T.set (base+i) o) (obs:=obs) f).trans ((q10 _ _ _ _ DO).trans c.arr)
  have g1:¬nx<=base+i:=DO
  have b8:=ZdS (α:=Int) rfl row k (W (W (2*z)+1)) a3;have a5:yk (row.flatMap Enc.enc) k [I (W (W (2*z)+1))]=(row.set k (W (W (2*z)+1))).flatMap Enc.enc:=by simpa using b8
  have c6:(row.flatMap Enc.enc).length=n:=by rw[js,y];simp[Enc.sz]
  refine zk (ze (zn (DY ?_)));refine zD (some [id,A]) (Row.pures [0,1,2,3,4,5,6,7,8,9,10,11,12,13,15] (.alt 14 (Row.pures [16] (.alt 17 (Row.pures [18,19,20] (.alt 21 (.done) .stop)) .stop)) .stop)) mixed (zW xw xa xr yw ya (zq (zW w g1 a9 hc z0 a3) (zS a5 c6 y a6))) ?_;refine⟨by omega,?_⟩;obtain⟨T',d⟩:∃T',T'=T.set (base+i) (.cells (ws i) 3 ((YI k row).flatMap Enc.enc)):=⟨_,rfl⟩;have l:=c.turn (i:=i) (by rw[Vg];omega) (T':=T') (ws i) (YI k row) (by
   rw[d,q10 _ _ _ _ DO,c.arr];congr 1;refine(A8 λj=>?_).symm;rw[Bu];split
   ·rename_i c7;subst c7;rw[if_pos DO,Zh9 _ _ _ _ _ (by rw[Vg];omega),ZdT pr k i i a,if_neg (CK i),h,Zix]
   ·rfl) (by rw[d];simp) (λo o1 o2=>by rw[d];exact q10 _ _ _ _ o2)
  have c8:(λk=>if k=i then ws i else ws k)=ws:=by funext j;split<;>simp_all
  rw[c8,<-h,ZrY pr k i a]at l;refine zg ?_;refine zu (i+1,T') [] ⟨hc,l,λo d0=>?_⟩ DO (by simp[zy i (by omega)]) ?_ DP
  ·dsimp only;rw[d,q10 _ _ _ _ DO];exact t o d0
  ·dsimp only;rw[d];simp only[YI,b7]
 ·simp at hc;obtain rfl:i=m:=DO
  rw[<-a0,ZrX]at c;refine zC ?_;exact⟨_,T,rfl,⟨by simp_all[X9],t⟩,yb (r T t)⟩
def YJ(e:Int):Bool:=decide (e≠0) && decide (e≠14)
theorem Zr1(e:Int):Pure prog 178 [I e] (B (YJ e)):=by
 unfold YJ;refine zx func178 ntmps178 results178 λS nx a=>?_
 refine DY ?_
 by_cases h1:e=0
 ·refine ze (zi [(2,5)] (zq h1 zB) ?_);exact zj (zm a rfl (by simp[zr,h1]))
 ·by_cases h2:e=14
  ·refine ze (zi [(2,5)] (zF h1 h2 zB) ?_);exact zj (zm a rfl (by simp[zr,h2]))
  ·refine ze (zi [(2,5)] (zF h1 h2 zB) ?_);exact zj (zm a rfl DX)
theorem Zr2{S:Store}{idF vF:Nat}(fs:List Int)(c:S idF=.cells vF 47 (fs.flatMap Enc.enc))(hl:fs.length<=1000):
  Spec prog 213 [.sl idF vF 1 0 fs.length,.fn (.func 178) [] []] S (λq S'=>(∃z:Int,q=I z/\(fs.any YJ=decide (0<=z)))/\S'=S):=by
 refine yt func213 ntmps213 results213 λnx b=>?_
 have a:idF<nx:=qi b c DP;have d:=λobs=>(zJ (S:=S) (obs:=obs) a).trans c
 refine DY ?_
 repeat apply ze
 refine zg ?_;refine zn (zK (λk:Nat=>k<=fs.length/\∀e∈fs.take k,YJ e=false) (λk=>[(0,.sl idF vF 1 0 fs.length),(1,.fn (.func 178) [] []),(7,I fs.length),(8,I k)]) (λ_=>[]) (λk=>fs.length-k) 0 [] DP DP DP ?_);rintro k ⟨g,h0⟩;refine DY ?_;refine ze (zA rfl (λhc=>?_) (λhc=>?_))
 ·simp at hc;obtain⟨e,tl,h,i,a3,f⟩:=zN rfl fs k hc;refine zk (ze (zn (DY ?_)));refine ze (zi [] (zF d f hc) ?_);refine zv (Zr1 e) ?_;cases hb:YJ e with
  | true =>
   refine zo rfl (DY ?_);exact zj ⟨_,S,rfl,⟨⟨k,by simp,by grind⟩,rfl⟩,yb b⟩
  | false =>
   refine zp rfl (zk (zg ?_));exact zu (k+1) [] ⟨hc,λy j=>by grind⟩ DO (by simp[zy k (by omega)]) rfl DP
 ·simp at hc;obtain rfl:k=fs.length:=DO
  rw[Ai]at h0;refine zC (DY ?_);exact zj ⟨_,S,rfl,⟨⟨-1,by simp,by simp_all⟩,rfl⟩,yb b⟩
theorem Zr3{S:Store}{idF vF:Nat}(fs:List Int)(c:S idF=.cells vF 47 (fs.flatMap Enc.enc))(hl:fs.length<=1000):
  Spec prog 177 [.sl idF vF 1 0 fs.length,.fn (.func 178) [] []] S (λq S'=>q=B (fs.any YJ)/\S'=S):=by
 refine yt func177 ntmps177 results177 λnx d=>?_
 have a:idF<nx:=qi d c DP;refine DY ?_;refine DY ?_;refine λb=>((Zr2 fs ((zJ a).trans c) hl).mono ?_).v
 rintro _ _ ⟨⟨z,rfl,e⟩,rfl⟩;refine⟨_,_,rfl,zR b ?_⟩;exact zj ⟨_,S,rfl,⟨by simp[zr,e],rfl⟩,yb d⟩
def ZG(x:Inst)(sol:Cust->List Int->List Visit × Bool)(pr:List (List Int))(k:Nat):List (List Visit × Bool):=(List.range k).map λi=>sol (x.cust.getD i default) (pr.getD i [])
def jg(x:Inst)(sol:Cust->List Int->List Visit × Bool)(pr:List (List Int)):List (List Visit) × Int:=if (ZG x sol pr x.cust.length).all (·.2)=true then ((ZG x sol pr x.cust.length).map (·.1),0) else ([],15)
theorem Zr4(x:Inst)(a:Cust->List Int->List Visit × Bool)(pr:List (List Int))(k:Nat):ZG x a pr (k+1)=ZG x a pr k++[a (x.cust.getD k default) (pr.getD k [])]:=by simp[ZG,AO]
theorem Ziz(x:Inst)(a:Cust->List Int->List Visit × Bool)(pr:List (List Int)){k m:Nat}(h:k<m):a (x.cust.getD k default) (pr.getD k [])∈ZG x a pr m:=Al.2 ⟨k,AK.2 h,rfl⟩
def ZdV(x:Inst)(n:Nat)(sol:Cust->List Int->List Visit × Bool):Prop :=
 ∀c∈x.cust,∀(l:List Int),l.length=n->(∀z∈l,zT z)->∀(S:Store) (pl:PV),RowOf S pl l->Spec prog 207 [.agg (yi c),I x.days,I x.cap,pl] S (λq S'=>q=.tup [L (sol c l).1,B (sol c l).2]/\S'=S)
theorem Zr5{S:Store}{A va base:Nat}{ws:Nat->Nat}{x:Inst}{n:Nat}{pr:List (List Int)}{a:Cust->List Int->List Visit × Bool}(hx:x.cust.length<=1000)(hP:ZF x.cust.length n pr)(y:RowsAt S A va 26 base 3 1 ws pr)(hs:ZdV x n a):
  Spec prog 175 [.agg (zE x),.sl A va 1 0 x.cust.length] S (λq S'=>q=.tup [L (jg x a pr).1,I (jg x a pr).2]/\S'=S):=by
 obtain⟨a7,a0⟩:=hP;refine yt func175 ntmps175 results175 λnx u=>?_
 have j:A<nx:=qi u y.arr DP;have xa:=λobs=>(zJ (S:=S) (obs:=obs) j).trans y.arr
 refine DY ?_;intro v0;refine DY ?_;refine ze (q9 6 101 1 rfl λv1=>?_);refine DY ?_;refine zn (zK (λs:Nat × List (List Visit) × Nat=>s.1<=x.cust.length/\s.2.1=(ZG x a pr s.1).map (·.1)/\(ZG x a pr s.1).all (·.2)=true) (λ(i,out,w)=>[(1,.sl A va 1 0 x.cust.length),(2,.ptr nx v0 0),(4,.sc (.slice none 0 0)),(6,.sl (nx+1) w 1 0 out.length),(13,L x.cust),(14,I x.cust.length),(15,I i)]) (λ(i,out,w)=>[.cells v0 25 (zE x),.cells w 101 (out.flatMap Enc.enc)]) (λs=>x.cust.length-s.1) (0,[],v1) [] (by simp[ZG]) DP DP ?_);rintro⟨i,out,w⟩ ⟨hi,ho,f⟩;simp only at hi ho f ⊢;have a8:out.length=i:=by rw[ho];simp[ZG]
 refine DY ?_;refine ze (zA rfl (λhc=>?_) (λhc=>?_))
 ·simp at hc;obtain⟨c,tl,a1,a2,a3,e1,e0⟩:=el 8 rfl x.cust i hc;have a4:=Ab a1;have a5:x.cust.getD i default=c:=by rw[Aa,a1];rfl
  have g:i<pr.length:=DO
  obtain⟨a9,l⟩:=ZdI base 1 ws pr i g;obtain⟨m,o⟩:(pr.getD i []).length=n/\∀z∈pr.getD i [],zT z:=by
   rw[Aa,Ac g];exact a0 _ (Bc g)
  have h:RowOf S (.sl (base+i) (ws i) 1 0 (pr.getD i []).length) (pr.getD i []):=.inr ⟨_,_,rfl,y.row i g⟩;have b:=hs c a4 (pr.getD i []) m o;have e:=Zr4 x a pr i;have d:=Ziz x a pr (k:=i) hc;rw[a5]at e d;generalize pr.getD i []=row at l m o h b e d;generalize hr:a c row=r at b e d;obtain⟨vv,ok⟩:=r;simp only at b e;refine zk (ze (zn (ze (zi [] (zq e0 hc) ?_))));intro v2;refine DY ?_
  repeat apply ze
  refine zg ?_;refine zo (by simp[hc]) ?_;refine zi [] (zF xa l hc) ?_;refine DY ?_;refine λp=>((b _ _ (h.ext u _)).mono ?_).v
  rintro _ _ ⟨rfl,rfl⟩;refine⟨_,_,rfl,zR p ?_⟩
  repeat apply ze
  refine zg ?_;cases ok with
  | false =>
   have a6:jg x a pr=([],15):=by
    unfold jg;rw[if_neg];intro q;have:=Aw.1 q _ d;cases this
   rw[a6];refine zo rfl (DY ?_);refine Yp 4 rfl ?_;exact zj ⟨_,S,rfl,⟨by simp[zr],rfl⟩,yb u⟩
  | true =>
   refine zp rfl (zk (zg ?_));refine⟨by omega,?_⟩;refine zg ?_;exact zu (i+1,out++[vv],w+1) [_] ⟨hc,by rw[e,List.map_append,ho];rfl,by rw[e,BD,f];rfl⟩ DT (by simp[zy i (by omega)]) rfl DQ
 ·simp at hc;obtain rfl:i=x.cust.length:=DO
  have t:jg x a pr=(out,0):=by unfold jg;rw[if_pos f,<-ho]
  rw[t];refine zC (yh 1 rfl ?_);refine DY ?_;exact zj ⟨_,S,DQ,⟨by simp[zr],rfl⟩,yb u⟩
open Go
def Qi(x:Inst)(p:zH)(i:Nat):Int :=
 match x.cust[i]? with
 | none=>0
 | some c=>if c.kind=2 then ZB c (jF c (yV (qk i (told 0 p)) x.days)).1 else 0
def xu(x:Inst)(p:zH)(k:Nat):Int:=((List.range k).map (Qi x p)).sum
theorem ZiA(x:Inst)(p:zH)(k:Nat):xu x p (k+1)=xu x p k+Qi x p k:=by simp[xu,AO]
theorem ZiB(c:Cust)(q:List Int)(a:q.length<=1048576):(jF c q).1.length<=1048576:=by
 unfold jF;split
 ·simp
 ·cases h:xG c.size c.rate c.start q with
  | none=>simp
  | some l=>simp[ZqJ h];exact a
theorem Zbc(v:List Visit)(n:Int):(yV v n).length<=1048576:=by rw[ZaY];omega
theorem ZiC(x:Inst)(p:zH)(h:Serves x p)(hx:x.cust.length<=1048576)(hf:∀c∈x.cust,CustFits c):Pure prog 69 [.agg (zE x),.agg [L p]] (I (W (xu x p x.cust.length))):=by
 refine zx func69 ntmps69 results69 λS nx g=>?_
 refine DY ?_;intro v0 v1;refine DY ?_
 repeat apply ze
 refine zg ?_;refine zn (zK (λs:Nat=>s<=x.cust.length) (λk=>[(2,.ptr nx v0 0),(3,.ptr (nx+1) v1 0),(5,I (W (xu x p k))),(11,L x.cust),(12,I x.cust.length),(13,I k)]) (λ_=>[.cells v0 25 (zE x),.cells v1 30 [L p]]) (λs=>x.cust.length-s) 0 [] DP (by simp[xu]) DP ?_);rintro k l;refine DY ?_;refine ze (zA rfl (λhc=>?_) (λhc=>?_))
 ·simp at hc;obtain⟨c,tl,b,m,a3,_,i⟩:=el 8 rfl x.cust k hc;have d:=hf c (Ab b);have hs:=ZiA x p k;refine zk (ze (zn (ze (zi [] (zq hc i) ?_))));intro n;refine DY ?_
  by_cases a:c.kind=2
  ·have hb:=Zh4 x p k h;have hn:=Zdw c (yV (qk k (told 0 p)) x.days) d (Zbc _ _);have f:=Zdx c (jF c (yV (qk k (told 0 p)) x.days)).1 (ZiB _ _ (Zbc _ _));have e:Qi x p k=ZB c (jF c (yV (qk k (told 0 p)) x.days)).1:=by simp only[Qi,b,if_pos a]
   rw[e]at hs;generalize ZB c (jF c (yV (qk k (told 0 p)) x.days)).1=z at *;generalize jF c (yV (qk k (told 0 p)) x.days)=ne at *;generalize yV (qk k (told 0 p)) x.days=q at *;obtain⟨o,r⟩:=ne;simp only at hn f;refine zo (by simp[a]) ?_;refine ze (zD (some [nx,nx+1,nx+2]) (Row.pures [0,1,2,3,4,5,6,7,8,9,10,11] .done) mixed trivial ?_);refine zO (hb) trivial ?_;refine zO (hn) trivial ?_;refine zg ?_;refine zv f ?_;have j:W (W (xu x p k)+z)=W (xu x p (k+1)):=by rw[hs,Yq]
   refine zg ?_;exact zu (k+1) [_] hc DO (by simp[zy k (by omega)];exact j) rfl rfl
  ·have e:Qi x p k=0:=by simp only[Qi,b,if_neg a]
   rw[e,Int.add_zero]at hs;refine zp (by simp[a]) ?_;refine zk (zg ?_);exact zu (k+1) [_] hc DO (by simp[zy k (by omega),hs]) rfl rfl
 ·simp at hc;obtain rfl:k=x.cust.length:=DO
  refine zC (DY ?_);exact DZ g
def wh(x:Inst)(p:zH):List Int:=p.map λd=>W (yx x d)
theorem Zr6(x:Inst)(p:zH)(i:p.length<=1048576)(b:∀d∈p,DayOk d)(S:Store)(nx:Nat)(e:yd nx S):
  Spec prog 71 [.agg (zE x),.agg [L p]] S (λq S'=>∃v,q=.sl (nx+2) v 1 0 p.length/\S'=S.set (nx+2) (.cells v 3 ((wh x p).flatMap Enc.enc))):=by
 refine Zv e func71 ntmps71 results71 ?_;refine DY ?_;intro v0 v1;refine DY ?_;refine ze (q9 5 3 1 rfl λa=>?_);refine DY ?_;refine zn (zK (λs:Nat × List Int × Nat=>s.1<=p.length/\s.2.1=wh x (p.take s.1)) (λ(k,out,a)=>[(2,.ptr nx v0 0),(3,.ptr (nx+1) v1 0),(5,.sl (nx+2) a 1 0 out.length),(9,L p),(10,I p.length),(11,I k)]) (λ(k,out,a)=>[.cells v0 25 (zE x),.cells v1 30 [L p],.cells a 3 (out.flatMap Enc.enc)]) (λs=>p.length-s.1) (0,[],a) [] (by simp[wh]) DP DP ?_);rintro⟨k,out,a⟩ ⟨f,ho⟩;simp only at f ho ⊢;have c:out.length=k:=by rw[ho];simp[wh];omega
 refine DY ?_;refine ze (zA rfl (λhc=>?_) (λhc=>?_))
 ·simp at hc;obtain⟨d,tl,g,l,a3,h⟩:=zN rfl p k hc;refine zk (ze (zn (ze (zi [] (zq hc h) ?_))));intro v3;refine zg ?_;refine zv (XI x d (b d (Ab g))) ?_;refine⟨by omega,?_⟩;refine zg ?_;exact zu (k+1,out++[W (yx x d)],a+1) [_] ⟨hc,by rw[a3,ho];simp[wh]⟩ DT (by simp[zy k (by omega)]) rfl DQ
 ·simp at hc;obtain rfl:k=p.length:=DO
  rw[Ai]at ho;refine zC (DY ?_);refine zj ⟨_,_,rfl,⟨a,by simp[zr,c],rfl⟩,JD (j:=2) e (by simp[ho])⟩
theorem ZiD(x:Inst)(p:zH)(b:p.length<=1048576)(a:∀d∈p,DayOk d):Pure prog 71 [.agg (zE x),.agg [L p]] (L (wh x p)):=by
 have hl:(wh x p).length=p.length:=by simp[wh]
 have:=Zan 2 (λS nx c=>Zr6 x p b a S nx c) (by rw[jL,hl];omega);rw[<-hl]at this;exact this
def xI(x:Inst)(p:zH):Int:=W (xu x p x.cust.length+(p.map (yx x)).sum)
theorem Zr7(a:Int)(l:List Int):W (a+(l.map W).sum)=W (a+l.sum):=by
 induction l generalizing a with
 | nil=>rfl
 | cons b l c =>
  simp only[AD,BR];have d:a+(W b+(l.map W).sum)=(a+W b)+(l.map W).sum:=DO
  rw[d,c,show a+W b+l.sum=(a+l.sum)+W b by omega,Zfp,show a+l.sum+b=a+(b+l.sum) by omega]
theorem Zr8(x:Inst)(p:zH):W (W (xu x p x.cust.length)+(wh x p).sum)=xI x p:=by
 have:wh x p=(p.map (yx x)).map W:=by simp[wh]
 rw[this,Yq,Zr7,xI]
theorem Zr9(x:Inst)(p:zH)(h:Serves x p)(hx:x.cust.length<=1048576)(hf:∀c∈x.cust,CustFits c)(e:∀d∈p,DayOk d):Pure prog 68 [.agg (zE x),.agg [L p]] (I (xI x p)):=by
 have a:=Zr8 x p;have hl:(wh x p).length=p.length:=by simp[wh]
 have f:=h.sz.n;have b:=ZiD x p f e;rw[<-a];generalize wh x p=ds at hl b;refine zx func68 ntmps68 results68 λS nx g=>?_
 refine DY ?_;intro v0 v1;refine DY ?_;refine zv (ZiC x p h hx hf) ?_
 repeat apply ze
 refine zg ?_;refine zv b ?_;refine zn (zK (λs:Nat=>s<=ds.length) (λk=>[(5,I (W (W (xu x p x.cust.length)+(ds.take k).sum))),(13,L ds),(14,I ds.length),(15,I k)]) (λ_=>[]) (λs=>ds.length-s) 0 [_,_] DP (by simp[W_W]) rfl ?_);rintro k l;refine DY ?_;refine ze (zA rfl (λhc=>?_) (λhc=>?_))
 ·simp at hc;obtain⟨z,tl,m,o,a3,i⟩:=zN rfl ds k hc;have j:W (W (W (xu x p x.cust.length)+(ds.take k).sum)+z)=W (W (xu x p x.cust.length)+(ds.take (k+1)).sum):=by rw[a3,ZhV,Yq];congr 1;omega
  refine zk (ze (zn (ze (zi [] (zq hc i) ?_))));refine zg ?_;refine zg ?_;exact zu (k+1) [] hc DO (by simp[zy k (by omega)];exact j) rfl DP
 ·simp at hc;obtain rfl:k=ds.length:=DO
  rw[Ai];refine zC (DY ?_);exact DZ g
open Go
def Wb(p:zH):Nat:=(p.map λd=>d.flatten.length).sum
theorem ZiE:∀(p:zH) (i:Nat),(told i p).length=Wb p
 | [],_=>rfl
 | d :: p,i=>by
  have:=ZiE p (i+1);simp only[told,Am,List.length_map,Wb,AD,BR]at this ⊢;omega
theorem ZiF:∀(d:zt),(∀t∈d,t≠[])->d.length<=d.flatten.length
 | [],_=>by simp
 | t :: d,h=>by
  have h1:=ZiF d λu a=>h u (by simp[a])
  have h2:=Bs.2 (h t DP);simp only[BG,Ae,Am];omega
theorem Zbd:∀(d:zt) (t:zU),t∈d->t.length<=d.flatten.length
 | [],_,h=>by cases h
 | u :: d,t,h=>by
  simp only[BG,Am];rcases Au.1 h with rfl | h
  ·omega
  ·have:=Zbd d t h;omega
open Go
def lx:Inst:=⟨1,1,9,9,[],[[0]]⟩
def ly:Inst:=⟨1,1,9,9,[⟨1,1,[1],0,0,0,0,0⟩],[[0,3],[4,0]]⟩
def lp:zH:=[[]]
theorem Zsa:∀i:Nat,yL 1 i=1<->i=0:=by
 intro i;cases i with
 | zero=>simp[yL]
 | succ i=>simp[yL,Nat.div_eq_of_lt (show 1<2 ^ (i+1) from Nat.one_lt_two_pow DO)]
open Go
theorem ZiG(p:Nat):∀k:Nat,k<=64->∀i:Nat,yL (xM p k) i=1->i<k
 | 0,_,i,h=>by simp[xM,yL]at h
 | k+1,b,i,h=>by
  have a:=ZiG p k DO i;unfold xM at h;split at h
  ·rw[Zq8 _ _ (Zau p k) DO]at h;have h2:((xM p k ||| 2 ^ k).testBit i)=true:=by
    rw[X3];unfold jo at h;rw[if_pos DO,AN]at h;simp[h]
   rw[Dk,CC,Dc]at h2;rcases h2 with h2 | h2
   ·rw[X3]at h2;have:=a (by simpa using h2);omega
   ·have:k=i:=by simpa using h2
    omega
  ·have:=a h;omega
theorem Vi{p a k:Nat}{d:Int}(h:d∈yH p a k):∃i:Nat,d=i/\i<k/\yL p i=1:=by
 simp only[yH,Al,Bn,AK,Ar,decide_eq_true_eq]at h;obtain⟨i,⟨h1,_,h3⟩,rfl⟩:=h;exact⟨i,rfl,h1,h3⟩
theorem ZiH(c:Cust)(days:Int)(h1:1<=days)(g:days<=7):CustMade (j5 c days) days.toNat:=by
 unfold j5;split
 ·have a:=x7 c.rate 0 9 DO;have b:=x7 c.size 1 30 DO;have d:=x7 c.start 0 (yM c.size 1 30) DO;exact⟨⟨by dsimp only;omega,by dsimp only;omega,by dsimp only;omega⟩,by simp,by simp,λh=>by simp at h⟩
 ·have a:=x7 c.demand 1 15 DO;refine⟨⟨by simp,by simp,by simp⟩,?_,?_,λ_=>⟨?_,by dsimp only;omega,by dsimp only;omega⟩⟩
  ·intro p e;simp only[ZS]at e;split at e
   ·simp only[AU]at e;omega
   ·obtain⟨q,_,rfl⟩:=Al.1 e;exact Zau q _
  ·simp only[ZS];split
   ·simp
   ·simp;omega
  ·intro p e d f;obtain⟨i,rfl,_,hb⟩:=Vi f;simp only[ZS]at e;split at e
   ·simp only[AU]at e;subst e;have:=(Zsa i).1 hb;omega
   ·obtain⟨q,_,rfl⟩:=Al.1 e;have:=ZiG q days.toNat DO i hb;omega
theorem Vj(x:Inst):1<=(yO x).days/\(yO x).days<=7:=x7 x.days 1 7 DO
theorem Zsb(x:Inst):0<=(yO x).cap/\(yO x).cap<=40:=x7 x.cap 0 40 DO
theorem Zsc(x:Inst):0<=(yO x).veh/\(yO x).veh<=5:=x7 x.veh 0 5 DO
theorem Zsd(x:Inst):0<=(yO x).len/\(yO x).len<=300:=x7 x.len 0 300 DO
theorem Zse(x:Inst):(yO x).cust.length<=6:=by simp[yO];omega
theorem ZdW(x:Inst){c:Cust}(h:c∈(yO x).cust):∃c0,c=j5 c0 (yO x).days:=by
 simp only[yO,Al]at h;obtain⟨c0,_,rfl⟩:=h;exact⟨c0,rfl⟩
def Zsf(x:Inst)(v c l:Int):Inst:=⟨(yO x).days,v,c,l,(yO x).cust,(yO x).dist⟩
theorem Zsg{d:zt}{t:zU}(a:t∈d){s:Stop}(hs:s∈t):s∈d.flatten:=Bt.2 ⟨t,a,hs⟩
theorem ZiI{m:Nat}:∀(l:List Int),l.Nodup->(∀c∈l,0<=c/\c<m)->l.length<=m:=by
 intro l hn hl;have h1:(l.map Int.toNat).Nodup:=by
  refine List.Pairwise.map _ ?_ (List.Pairwise.and_mem.1 hn);rintro a b ⟨f,hb,d⟩ e;have:=hl a f;have:=hl b hb;exact d DO
 have h2:∀c∈l.map Int.toNat,c∈List.range m:=by
  intro c hc;obtain⟨z,g,rfl⟩:=Al.1 hc;have:=hl z g;exact AK.2 DO
 have:=h1.length_le_of_subset h2;simpa using this
open Go Go.Proofs Hp
theorem ZdX(p:Nat)(a:p<2 ^ 64):Pure prog 305 [U p] (L (yH p 0 64)):=by
 have h:=ZhZ p 0 a DV;refine zx func305 ntmps305 results305 λS nx b=>?_
 refine DY ?_;refine DY ?_;refine zv h ?_;exact zj (zm b rfl rfl)
theorem Zsh(c:Cust)(p:Nat)(e:p<2 ^ 64):Pure prog 277 [.agg (yi c),U p] (L (Ja c p)):=by
 have a:=ZdX p e;have b:=Q5 p 0 64;unfold Ja;generalize yH p 0 64=l at a b;refine zx func277 ntmps277 results277 λS nx f=>?_
 refine DY ?_;intro v0;refine DY ?_;refine ze (q9 5 104 2 rfl λv1=>?_);refine DY ?_;refine zv a ?_;refine zn (zK (λs:Nat × List Visit × Nat=>s.1<=l.length/\s.2.1=(l.take s.1).map λd=>⟨d,c.demand⟩) (λ(k,out,v1)=>[(2,.ptr nx v0 0),(5,.sl (nx+1) v1 2 0 out.length),(9,L l),(10,I l.length),(11,I k)]) (λ(k,out,v1)=>[.cells v0 87 (yi c),.cells v1 104 (out.flatMap Enc.enc)]) (λs=>l.length-s.1) (0,[],v1) [] DP DP DP ?_);rintro⟨k,out,v1⟩ ⟨g,ho⟩;simp only at g ho ⊢;have h:out.length=k:=by rw[ho];simp;omega
 refine DY ?_;refine ze (zA rfl (λhc=>?_) (λhc=>?_))
 ·simp at hc;obtain⟨d,tl,j,m,a3,i⟩:=zN rfl l k hc;refine zk (ze (zn (ze (zi [] (zq i hc) ?_))));refine zg ?_;refine⟨by omega,?_⟩;refine zg ?_;exact zu (k+1,out++[⟨d,c.demand⟩],v1+1) [] ⟨hc,by rw[a3,ho];simp⟩ DT (by simp[zy k (by omega)]) rfl DP
 ·simp at hc;obtain rfl:k=l.length:=DO
  rw[Ai]at ho;refine zC (yh 1 rfl ?_);refine DY ?_;exact zj (zm f DQ (by simp[zr,ho]))
def un(price:List Int)(ds:List Int):Int:=ds.foldl (λ(s d:Int)=>if d<price.length then w8 s (price.getD d.toNat 0) else s) 0
def Vk(price:List Int)(p:Nat):Int:=un price (yH p 0 64)
def xW(price:List Int)(l:List Nat):Nat->Int × Int
 | 0=>(-1,0)
 | k+1=>if (xW price l k).1<0\/Vk price (l.getD k 0)<(xW price l k).2 then (k,Vk price (l.getD k 0)) else xW price l k
theorem ZdY(price:List Int)(l:List Nat):∀k:Nat,(xW price l k).1<k/\-1<=(xW price l k).1/\(0<k->0<=(xW price l k).1)
 | 0=>by simp[xW]
 | k+1=>by
  have:=ZdY price l k;unfold xW;split
  ·dsimp only;omega
  ·rename_i h;omega
theorem Zsi(a b:Int)(c:zT a)(hb:zT b):zT (w8 a b):=by
 unfold zT w8 at *;split
 ·omega
 ·split<;>omega
theorem Zsj(price ds:List Int)(d:Int):un price (ds++[d])=if d<price.length then w8 (un price ds) (price.getD d.toNat 0) else un price ds:=by simp[un]
theorem Zsk(price:List Int)(a:∀z∈price,zT z)(ds:List Int):zT (un price ds):=by
 unfold un;have:∀(ds:List Int) (s:Int),zT s->zT (ds.foldl (λ(s d:Int)=>if d<price.length then w8 s (price.getD d.toNat 0) else s) s):=by
  intro ds
  induction ds with
  | nil=>intro s h;exact h
  | cons d ds b =>
   intro s h;rw[A5];apply b;split
   ·refine Zsi _ _ h ?_;rw[Aa];cases c:price[d.toNat]? with
    | none=>unfold zT;simp
    | some z=>exact a z (Ab c)
   ·exact h
 exact this ds 0 (by unfold zT;omega)
theorem Zsl{S:Store}{g:PV}{price:List Int}(l:List Nat)(hR:RowOf S g price)(hp:∀z∈price,zT z)(a0:price.length<=1000)(hl:l.length<=1000)(o:∀p∈l,p<2 ^ 64):
  Spec prog 276 [L l,g] S (λq S'=>q=.tup [I (xW price l l.length).1,I (xW price l l.length).2]/\S'=S):=by
 refine yt func276 ntmps276 results276 λnx n=>?_
 refine DY ?_;refine DY ?_
 repeat apply ze
 refine zg ?_;refine zn (zK (λk:Nat=>k<=l.length) (λk=>[(1,g),(6,I (xW price l k).1),(7,I (xW price l k).2),(13,L l),(14,I l.length),(15,I k)]) (λ_=>[]) (λk=>l.length-k) 0 [] DP (by simp[xW]) DP ?_);rintro k hk;have hb:xW price l (k+1)=if (xW price l k).1<0\/Vk price (l.getD k 0)<(xW price l k).2 then (↑k,Vk price (l.getD k 0)) else xW price l k:=rfl
 generalize r:xW price l k=st at hb ⊢;obtain⟨place,a⟩:=st;simp only at hb ⊢;refine DY ?_;refine ze (zA rfl (λhc=>?_) (λhc=>?_))
 ·simp at hc;obtain⟨p,tl,a1,a2,a3,e0⟩:=zN rfl l k hc;have f:=ZdX p (o p (Ab a1));have s:l.getD k 0=p:=by rw[Aa,a1];rfl
  rw[s]at hb;have m:∀d∈yH p 0 64,∃i:Nat,d=i:=λd n=>by obtain⟨i,h,_⟩:=Vi n;exact⟨i,h⟩
  have u:=Q5 p 0 64;rw[show Vk price p=un price (yH p 0 64) from rfl]at hb;generalize yH p 0 64=ds at f m u hb;refine zk (ze (zn (ze (zi [] (zq e0 hc) ?_))));refine DY ?_
  repeat apply ze
  refine zg ?_;refine zv f ?_;refine zn (zK (λj:Nat=>j<=ds.length) (λj=>[(1,g),(6,I place),(7,I a),(8,I k),(10,I (un price (ds.take j))),(13,L l),(14,I l.length),(15,I k),(21,L ds),(22,I ds.length),(23,I j)]) (λ_=>[]) (λj=>ds.length-j) 0 [] DP (by simp[un]) DP ?_);rintro j hj;refine DY ?_;refine ze (zA rfl (λb=>?_) (λb=>?_))
  ·simp at b;obtain⟨d,a4,b1,b2,b3,f0⟩:=zN rfl ds j b;obtain⟨i,rfl⟩:=m d (Ab b1);have c:=Zsj price (ds.take j) (i:Int);rw[<-b3,AN]at c;have v:=Zsk price hp (ds.take j);refine zk (ze (zn (ze (zi [] (zq f0 b) ?_))))
   by_cases hi:i<price.length
   ·obtain⟨z,a5,c1,-,-,g0⟩:=zN rfl price i hi;have w:price.getD i 0=z:=by rw[Aa,c1];rfl
    rw[if_pos DO,w]at c;have e:=ZaX (un price (ds.take j)) z v (hp z (Ab c1));rw[<-c]at e;rcases hR with rfl | ⟨id,ver,rfl,x⟩
    ·refine ze (zi [] hi ?_);refine zo rfl (zi [] (zq g0 hi) ?_);refine zv e ?_;refine zg ?_;exact zu (j+1) [] b DO (by simp[zy j (by omega)]) rfl DP
    ·have y:id<nx:=qi n x DP;have xr:=λobs=>(zJ (S:=S) (obs:=obs) y).trans x
     refine ze (zi [] hi ?_);refine zo rfl (zi [] (zF xr g0 hi) ?_);refine zv e ?_;refine zg ?_;exact zu (j+1) [] b DO (by simp[zy j (by omega)]) rfl DP
   ·rw[if_neg DO]at c;rcases hR with rfl | ⟨id,ver,rfl,x⟩
    ·refine ze (zi [] hi ?_);refine zp rfl (zk (zg ?_));exact zu (j+1) [] b DO (by simp[zy j (by omega),c]) rfl DP
    ·refine ze (zi [] hi ?_);refine zp rfl (zk (zg ?_));exact zu (j+1) [] b DO (by simp[zy j (by omega),c]) rfl DP
  ·simp at b;obtain rfl:j=ds.length:=DO
   rw[Ai];refine zC (ze (qy (nx:=nx) (σ:=Bool) (λt=>t=decide (place<0\/un price ds<a)) (λt=>[(1,g),(6,I place),(7,I a),(8,I k),(10,I (un price ds)),(13,L l),(14,I l.length),(15,I k),(44,B t)]) (λ_=>S) (λ_=>[]) ?_ ?_))
   ·by_cases h1:place<0
    ·repeat apply ze
     refine zi [(2,40)] (zq h1 zB) ?_;exact zZ true [] (by simp[h1]) DP rfl DP
    ·repeat apply ze
     refine zi [(2,40)] h1 ?_;exact zZ (decide (un price ds<a)) [] (by simp[h1]) DP rfl DP
   rintro t rfl
   by_cases h:place<0\/un price ds<a
   ·rw[decide_eq_true h];rw[if_pos h]at hb;refine zo rfl (zg ?_);refine zg ?_;exact zu (k+1) [] hc DO (by simp[zy k (by omega),hb]) rfl DP
   ·rw[decide_eq_false h];rw[if_neg h]at hb;refine zp rfl (zk (zg ?_));exact zu (k+1) [] hc DO (by simp[zy k (by omega),hb]) rfl DP
 ·simp at hc;obtain rfl:k=l.length:=DO
  refine zC (DY ?_);exact zj ⟨_,S,rfl,⟨by simp[zr,r],rfl⟩,yb n⟩
def Zj(c:Cust)(cap:Int):List Nat:=c.pats.filter λp=>decide (p=0) || decide (c.demand<=cap)
theorem Zsm(c:Cust)(cap:Int)(hl:c.pats.length<=1000):Pure prog 275 [.agg (yi c),I cap] (L (Zj c cap)):=by
 unfold Zj;refine zx func275 ntmps275 results275 λS nx e=>?_
 refine DY ?_;intro v0;refine DY ?_;refine ze (q9 5 98 1 rfl λv1=>?_);refine DY ?_;refine zn (zK (λs:Nat × List Nat × Nat=>s.1<=c.pats.length/\s.2.1=(c.pats.take s.1).filter (λp=>decide (p=0) || decide (c.demand<=cap))/\s.2.1.length<=s.1) (λ(k,out,w)=>[(1,I cap),(2,.ptr nx v0 0),(5,.sl (nx+1) w 1 0 out.length),(9,L c.pats),(10,I c.pats.length),(11,I k)]) (λ(k,out,w)=>[.cells v0 87 (yi c),.cells w 98 (out.flatMap Enc.enc)]) (λs=>c.pats.length-s.1) (0,[],v1) [] DP DP DP ?_);rintro⟨k,out,w⟩ ⟨f,ho,d⟩;simp only at f ho d ⊢;refine DY ?_;refine ze (zA rfl (λhc=>?_) (λhc=>?_))
 ·simp at hc;obtain⟨p,tl,h,i,a3,g⟩:=zN rfl c.pats k hc;refine zk (ze (zn (ze (zi [] (zq g hc) ?_))));refine ze (qy (nx:=nx) (σ:=Bool × Nat) (λs=>s.1=(decide (p=0) || decide (c.demand<=cap))) (λ(t,w)=>[(1,I cap),(2,.ptr nx v0 0),(5,.sl (nx+1) w 1 0 out.length),(7,U p),(9,L c.pats),(10,I c.pats.length),(11,I k),(22,B t)]) (λ_=>S) (λ(t,w)=>[.cells v0 87 (yi c),.cells w 98 (out.flatMap Enc.enc)]) ?_ ?_)
  ·by_cases h1:p=0
   ·repeat apply ze
    refine zi [(2,17)] (zq h1 zB) ?_;exact zZ (true,w) [] (by simp[h1]) (by simp[h1]) rfl DP
   ·repeat apply ze
    refine zi [(2,17)] h1 ?_;exact zZ (decide (c.demand<=cap),w) [] (by simp[h1]) DP rfl DP
  rintro⟨t,w⟩ b;simp only at b ⊢;subst b;have a:(c.pats.take (k+1)).filter (λp=>decide (p=0) || decide (c.demand<=cap))=out++(if (decide (p=0) || decide (c.demand<=cap))=true then [p] else []):=by
   rw[a3,B6,ho];congr 1;simp only[Cf,List.filter_nil]
  cases b:(decide (p=0) || decide (c.demand<=cap)) with
  | true =>
   rw[b,if_pos rfl]at a;refine zo rfl (zg ?_);refine⟨by omega,?_⟩;refine zg ?_;exact zu (k+1,out++[p],w+1) [] ⟨hc,a.symm,by simp;omega⟩ DT (by simp[zy k (by omega)]) rfl DP
  | false =>
   rw[b,if_neg DV,AH]at a;refine zp rfl (zk (zg ?_));exact zu (k+1,out,w) [] ⟨hc,a.symm,by dsimp only;omega⟩ DT (by simp[zy k (by omega)]) rfl DP
 ·simp at hc;obtain rfl:k=c.pats.length:=DO
  rw[Ai]at ho;refine zC (yh 1 rfl ?_);refine DY ?_;exact zj (zm e DQ (by simp[zr,ho]))
def Z4(c:Cust)(cap:Int)(price:List Int):List Visit × Bool :=
 if (xW price (Zj c cap) (Zj c cap).length).1<0 then ([],false) else (Ja c ((Zj c cap).getD (xW price (Zj c cap) (Zj c cap).length).1.toNat 0),true)
theorem Zsn{S:Store}{e:PV}{price:List Int}(c:Cust)(cap:Int)(f:RowOf S e price)(g:∀z∈price,zT z)(j:price.length<=1000)(hl:c.pats.length<=1000)(k:∀p∈c.pats,p<2 ^ 64):
  Spec prog 246 [.agg (yi c),I cap,e] S (λq S'=>q=.tup [L (Z4 c cap price).1,B (Z4 c cap price).2]/\S'=S):=by
 have m:=Zsm c cap hl;have a:∀p∈Zj c cap,p<2 ^ 64:=λp g=>k p (Bn.1 g).1
 have n:(Zj c cap).length<=1000:=AF (BF _ _) hl;unfold Z4;generalize Zj c cap=l at *;have hb:=λS (f:RowOf S e price)=>Zsl l f g j n a
 obtain⟨b1,b2,b3⟩:=ZdY price l l.length;generalize xW price l l.length=r at *;obtain⟨place,o⟩:=r;simp only at hb b1 b2 b3 ⊢;refine yt func246 ntmps246 results246 λnx s=>?_
 refine DY ?_;intro v0;refine DY ?_;refine zv m ?_;refine DY ?_;refine λd=>((hb _ (f.ext s _)).mono ?_).v
 rintro _ _ ⟨rfl,rfl⟩;refine⟨_,_,rfl,zR d ?_⟩
 repeat apply ze
 refine zg ?_
 by_cases h:place<0
 ·rw[if_pos h];refine zo (by simp[h]) ?_;refine DY ?_;refine Yp 6 rfl ?_;exact zj ⟨_,S,rfl,⟨by simp[zr],rfl⟩,yb s⟩
 ·rw[if_neg h];obtain⟨i,rfl⟩:=Ay (show 0<=place by omega);have b:i<l.length:=DO
  obtain⟨p,tl,w,y,a3,x⟩:=zN rfl l i b;have t:l.getD (i:Int).toNat 0=p:=by rw[AN,Aa,w];rfl
  rw[t];have u:=Zsh c p (a p (Ab w));refine zp DP ?_;refine zk (ze (zD (some [nx]) (Row.pures [0,1,2,3,4,5,6,7] .done) mixed (zq x b) ?_));refine zO (u) (zq x b) ?_;exact zj ⟨_,S,DQ,⟨by simp[zr],rfl⟩,yb s⟩
theorem Zso{S:Store}{b:PV}{price:List Int}(c:Cust)(n cap:Int)(h:c.kind=1)(d:RowOf S b price)(i:∀z∈price,zT z)(e:price.length<=1000)(hl:c.pats.length<=1000)(f:∀p∈c.pats,p<2 ^ 64):
  Spec prog 207 [.agg (yi c),I n,I cap,b] S (λq S'=>q=.tup [L (Z4 c cap price).1,B (Z4 c cap price).2]/\S'=S):=by
 have hs:=λS (d:RowOf S b price)=>Zsn c cap d i e hl f
 generalize Z4 c cap price=r at *;obtain⟨v,ok⟩:=r;simp only at hs ⊢;refine yt func207 ntmps207 results207 λnx g=>?_
 refine DY ?_;intro v0;refine ze (zn (ze (zi [] h ?_)));refine zo rfl (DY ?_);refine λa=>((hs _ (d.ext g _)).mono ?_).v
 rintro _ _ ⟨rfl,rfl⟩;refine⟨_,_,rfl,zR a ?_⟩;exact zj ⟨_,S,DQ,⟨by simp[zr],rfl⟩,yb g⟩
open Go Go.Proofs Hp
def uo(c:Cust)(there cap:Int):Int:=if c.size-there<1\/cap<0 then 0 else if c.size-there<=cap then c.size-there else if c.rule=1 then 0 else cap
theorem ZiJ{c:Cust}{there cap:Int}(hc:0<=c.size/\c.size<=2147483648)(a:0<=there):0<=uo c there cap/\uo c there cap<=2147483648:=by
 unfold uo;split
 ·omega
 ·split
  ·omega
  ·split<;>omega
theorem ZdZ(c:Cust)(there cap:Int)(hc:0<=c.size/\c.size<=2147483648)(e:-4611686018427387904<=there/\there<=4611686018427387904):Pure prog 279 [.agg (yi c),I there,I cap] (I (uo c there cap)):=by
 have d:IntKind.i64.wrap (c.size-there)=c.size-there:=wr _ DO DO;unfold uo;generalize hf:c.size-there=f at d ⊢;refine zx func279 ntmps279 results279 λS nx a=>?_
 refine DY ?_;intro v0;refine ze (zi [] (zq hf d) ?_);refine ze (zn ?_)
 by_cases h:f<1\/cap<0
 ·rw[if_pos h]
  by_cases h1:f<1
  ·refine ze (zi [(2,15)] (zq h1 zB) ?_);refine zo rfl (DY ?_);exact zj (zm a rfl rfl)
  ·have h2:cap<0:=DO
   refine ze (zi [(2,15)] (zq h1 h2) ?_);refine zo rfl (DY ?_);exact zj (zm a rfl rfl)
 ·rw[if_neg h];have h1:¬f<1:=DO
  have h2:¬cap<0:=DO
  refine ze (zi [(2,15)] (zq h1 h2) ?_);refine zp rfl (DY ?_)
  by_cases h3:f<=cap
  ·rw[if_pos h3];refine zo (by simp[h3]) ?_;refine DY ?_;exact zj (zm a rfl rfl)
  ·rw[if_neg h3];refine zp DT ?_;refine DY ?_
   by_cases b:c.rule=1
   ·rw[if_pos b];refine zo (by simp[b]) ?_;refine DY ?_;exact zj (zm a rfl rfl)
   ·rw[if_neg b];refine zp (by simp[b]) ?_;refine zk (DY ?_);exact zj (zm a rfl rfl)
def Qj(price:List Int)(d:Int):Int:=if d<0\/(price.length:Int)<=d then 0 else price.getD d.toNat 0
theorem Zd0{S:Store}{j:PV}{price:List Int}(d:Int)(l:RowOf S j price):
  Spec prog 209 [j,I d] S (λq S'=>q=I (Qj price d)/\S'=S):=by
 unfold Qj;rcases l with rfl | ⟨id,ver,rfl,k⟩
 ·refine yt func209 ntmps209 results209 λnx a=>?_
  refine DY ?_
  by_cases h:d<0
  ·rw[if_pos (.inl h)]
   repeat apply ze
   refine zi [(2,7)] (zq h zB) ?_;refine zo rfl (DY ?_);exact zj ⟨_,S,rfl,⟨by simp[zr],rfl⟩,yb a⟩
  by_cases h2:(price.length:Int)<=d
  ·rw[if_pos (.inr h2)]
   repeat apply ze
   refine zi [(2,7)] (zq h h2) ?_;refine zo rfl (DY ?_);exact zj ⟨_,S,rfl,⟨by simp[zr],rfl⟩,yb a⟩
  rw[if_neg DO];obtain⟨i,rfl⟩:=Ay (show 0<=d by omega);have hi:i<price.length:=DO
  obtain⟨z,tl,c,-,-,e⟩:=zN rfl price i hi;have f:price.getD (i:Int).toNat 0=z:=by rw[AN,Aa,c];rfl
  rw[f];have b:¬price.length<=i:=DO
  repeat apply ze
  refine zi [(2,7)] (zF h h2 b) ?_;refine zp rfl (zk (ze (zi [] (zq e hi) ?_)));exact zj ⟨_,S,rfl,⟨by simp[zr],rfl⟩,yb a⟩
 ·refine yt func209 ntmps209 results209 λnx a=>?_
  have g:id<nx:=qi a k DP;have m:=λobs=>(zJ (S:=S) (obs:=obs) g).trans k
  refine DY ?_
  by_cases h:d<0
  ·rw[if_pos (.inl h)]
   repeat apply ze
   refine zi [(2,7)] (zq h zB) ?_;refine zo rfl (DY ?_);exact zj ⟨_,S,rfl,⟨by simp[zr],rfl⟩,yb a⟩
  by_cases h2:(price.length:Int)<=d
  ·rw[if_pos (.inr h2)]
   repeat apply ze
   refine zi [(2,7)] (zq h h2) ?_;refine zo rfl (DY ?_);exact zj ⟨_,S,rfl,⟨by simp[zr],rfl⟩,yb a⟩
  rw[if_neg DO];obtain⟨i,rfl⟩:=Ay (show 0<=d by omega);have hi:i<price.length:=DO
  obtain⟨z,tl,c,-,-,e⟩:=zN rfl price i hi;have f:price.getD (i:Int).toNat 0=z:=by rw[AN,Aa,c];rfl
  rw[f];have b:¬price.length<=i:=DO
  repeat apply ze
  refine zi [(2,7)] (zF h h2 b) ?_;refine zp rfl (zk (ze (zi [] (zF m e hi) ?_)));exact zj ⟨_,S,rfl,⟨by simp[zr],rfl⟩,yb a⟩
theorem ZiK:∀(l m:List Int) (i:Nat),qm i (l++m)=qm i l++qm (i+l.length) m
 | [],m,i=>by simp[qm]
 | z :: l,m,i=>by
  have a:=ZiK l m (i+1);simp only[List.cons_append,qm,Ae,a,show i+1+l.length=i+(l.length+1) from by omega];split<;>simp
theorem ZiL(q:List Int)(f:q.length<=1048576):Pure prog 282 [L q] (L (qm 0 q)):=by
 refine zx func282 ntmps282 results282 λS nx c=>?_
 refine DY ?_;refine DY ?_;refine ze (q9 3 104 2 rfl λv1=>?_);refine DY ?_;refine zn (zK (λs:Nat × List Visit × Nat=>s.1<=q.length/\s.2.1=qm 0 (q.take s.1)) (λ(k,out,w)=>[(3,.sl nx w 2 0 out.length),(6,L q),(7,I q.length),(8,I k)]) (λ(k,out,w)=>[.cells w 104 (out.flatMap Enc.enc)]) (λs=>q.length-s.1) (0,[],v1) [] (by simp[qm]) DP DP ?_);rintro⟨k,out,w⟩ ⟨b,ho⟩;simp only at b ho ⊢;have d:out.length<=k:=by rw[ho];exact AF (Zba _ _) DT
 refine DY ?_;refine ze (zA rfl (λhc=>?_) (λhc=>?_))
 ·simp at hc;obtain⟨z,tl,g,i,a3,e⟩:=zN rfl q k hc;have a:qm 0 (q.take (k+1))=out++(if 0<z then [⟨k,z⟩] else []):=by
   rw[a3,ZiK,<-ho,Ax,Bf b];simp only[qm,AS]
  refine zk (ze (zn (ze (zi [] (zq e hc) ?_))));refine DY ?_
  by_cases h:0<z
  ·rw[if_pos h]at a;refine zo (by simp[h]) ?_;refine zg ?_;refine⟨by omega,?_⟩;refine zg ?_;exact zu (k+1,out++[⟨k,z⟩],w+1) [] ⟨hc,a.symm⟩ DT (by simp[zy k (by omega)]) rfl DP
  ·rw[if_neg h,AH]at a;refine zp DT ?_;refine zk (zg ?_);exact zu (k+1,out,w) [] ⟨hc,a.symm⟩ DT (by simp[zy k (by omega)]) rfl DP
 ·simp at hc;obtain rfl:k=q.length:=DO
  rw[Ai]at ho;refine zC (yh 0 rfl ?_);refine DY ?_;exact zj (zm c DQ (by simp[zr,ho]))
def qD(c:Cust)(f:Int->Int):Nat->List Int × Int
 | 0=>([],c.start)
 | k+1=>((qD c f k).1++[f (qD c f k).2],(qD c f k).2+(f (qD c f k).2-c.rate))
def Jb(c:Cust)(cap:Int)(t:Int):Int:=uo c (max t 0) cap
def Qk(c:Cust)(cap:Int)(t:Int):Int:=if c.rate<=t then 0 else uo c (max t 0) cap
theorem Wc(c:Cust)(f:Int->Int):∀k,(qD c f k).1.length=k
 | 0=>rfl
 | k+1=>by simp[qD,Wc c f k]
theorem Zd1{c:Cust}(hc:CustFits c)(cap t:Int):0<=Jb c cap t/\Jb c cap t<=2147483648:=ZiJ hc.size DO
theorem Zd2{c:Cust}(hc:CustFits c)(cap t:Int):0<=Qk c cap t/\Qk c cap t<=2147483648:=by
 unfold Qk;split
 ·omega
 ·exact ZiJ hc.size DO
theorem We{c:Cust}(hc:CustFits c){f:Int->Int}(hf:∀t,0<=f t/\f t<=2147483648):∀k:Nat,(-4294967296*((k:Int)+1)<=(qD c f k).2/\(qD c f k).2<=4294967296*((k:Int)+1))/\Qs (qD c f k).1
 | 0=>by
  have:=hc.start;refine⟨by simp only[qD];omega,by intro z a;cases a⟩
 | k+1=>by
  obtain⟨h1,h2⟩:=We hc hf k;have h3:=hf (qD c f k).2;have b:=hc.rate;refine⟨by simp only[qD];push_cast;omega,λz a=>?_⟩;simp only[qD]at a;rcases AB.1 a with a | a
  ·exact h2 z a
  ·rw[AU.1 a];exact h3
theorem Zsp(c:Cust)(cap t:Int)(hc:CustFits c)(d:-4611686018427387904<=t/\t<=4611686018427387904):Pure prog 307 [I t,.ip (yi c),.ip [I cap]] (I (Jb c cap t)):=by
 have hm:jy t 0=max t 0:=by unfold jy;split<;>omega
 have a:=ZdZ c (max t 0) cap hc.size DO;unfold Jb;generalize max t 0=m at hm a ⊢;generalize uo c m cap=z at a ⊢;refine zx func307 ntmps307 results307 λS nx b=>?_
 refine DY ?_;refine ze (zi [] hm ?_);refine yW [] a hm ?_;exact zj (zm b rfl rfl)
theorem Zsq(c:Cust)(cap t:Int)(hc:CustFits c)(d:-4611686018427387904<=t/\t<=4611686018427387904):Pure prog 308 [I t,.ip (yi c),.ip [I cap]] (I (Qk c cap t)):=by
 have hm:jy t 0=max t 0:=by unfold jy;split<;>omega
 have a:=ZdZ c (max t 0) cap hc.size DO;unfold Qk;generalize max t 0=m at hm a ⊢;generalize uo c m cap=z at a ⊢;refine zx func308 ntmps308 results308 λS nx b=>?_
 refine DY ?_
 repeat apply ze
 refine zg ?_
 by_cases h:c.rate<=t
 ·rw[if_pos h];refine zo (by simp[h]) ?_;refine DY ?_;exact zj (zm b rfl rfl)
 ·rw[if_neg h];refine zp DT ?_;refine zk (ze (zi [] hm ?_));refine yW [] a hm ?_;exact zj (zm b rfl rfl)
theorem ZiM(c:Cust)(n:Nat)(fn:FuncId)(b:List PV)(f:Int->Int)(hc:CustFits c)(hn:n<=1000)(hf:∀t,0<=f t/\f t<=2147483648)(h:∀t,(-4611686018427387904<=t/\t<=4611686018427387904)->Pure prog fn ([I t]++b) (I (f t))):
  Pure prog 306 [.agg (yi c),I n,.fn (.func fn) [] b] (.tup [L (qD c f n).1,B (decide (Z1 c (qD c f n).1=0))]):=by
 have r:=hc.rate;refine zx func306 ntmps306 results306 λS nx j=>?_
 refine DY ?_;intro v0;refine DY ?_;refine ze (q9 8 3 1 rfl λv1=>?_);refine zg ?_
 repeat apply ze
 refine zg ?_;refine zn (zK (λs:Nat × Nat=>s.1<=n) (λ(k,w)=>[(2,.fn (.func fn) [] b),(3,.ptr nx v0 0),(8,.sl (nx+1) w 1 0 (qD c f k).1.length),(9,I (qD c f k).2),(13,I n),(14,I k)]) (λ(k,w)=>[.cells v0 87 (yi c),.cells w 3 ((qD c f k).1.flatMap Enc.enc)]) (λs=>n-s.1) (0,v1) [] DP (by simp[qD]) (by simp[qD]) ?_);rintro⟨k,w⟩ l;simp only at l ⊢;obtain⟨g,-⟩:=We hc hf k;have hl:=Wc c f k;have a:qD c f (k+1)=((qD c f k).1++[f (qD c f k).2],(qD c f k).2+(f (qD c f k).2-c.rate)):=rfl;generalize i:qD c f k=st at g hl a ⊢;obtain⟨q,t⟩:=st;simp only at g hl a ⊢;refine DY ?_;refine ze (zA rfl (λd=>?_) (λd=>?_))
 ·simp at d;have m:=hf t;have e:=h t DO;have o:IntKind.i64.wrap (f t-c.rate)=f t-c.rate:=wr _ DO DO;have w2:IntKind.i64.wrap (t+(f t-c.rate))=t+(f t-c.rate):=wr _ DO DO;generalize f t=z at *;refine zk (ze (zn (DY ?_)));refine zv e ?_;refine DY ?_;refine⟨by omega,?_⟩;refine zi [] (zq o w2) ?_;refine zg ?_;exact zu (k+1,w+1) [] DO DT (by simp[zy k (by omega),a]) rfl (by simp[a])
 ·simp at d;obtain rfl:k=n:=DO
  refine zC (yh 1 rfl ?_);have p:=ZhW c q hc DO;refine DY ?_;refine zv p ?_;exact zj (zm j DQ (by simp[zr,i]))
def Z5(c:Cust)(n:Nat)(cap:Int):List Int × Bool:=((qD c (Jb c cap) n).1,decide (Z1 c (qD c (Jb c cap) n).1=0))
def YK(c:Cust)(n:Nat)(cap:Int):List Int × Bool:=((qD c (Qk c cap) n).1,decide (Z1 c (qD c (Qk c cap) n).1=0))
theorem Zsr(c:Cust)(n:Nat)(cap:Int)(hc:CustFits c)(hn:n<=1000):Pure prog 281 [.agg (yi c),I n,I cap] (.tup [L (Z5 c n cap).1,B (Z5 c n cap).2]):=by
 have h:=ZiM c n 307 [.ip (yi c),.ip [I cap]] (Jb c cap) hc hn (Zd1 hc cap) (λt a=>Zsp c cap t hc a);unfold Z5;generalize qD c (Jb c cap) n=r at h ⊢;refine zx func281 ntmps281 results281 λS nx b=>?_
 refine DY ?_;intro v0 v1;refine wL 0 rfl ?_;refine wL 1 rfl ?_;refine DY ?_;refine zv h ?_;exact DZ b
theorem Zss(c:Cust)(n:Nat)(cap:Int)(hc:CustFits c)(hn:n<=1000):Pure prog 283 [.agg (yi c),I n,I cap] (.tup [L (YK c n cap).1,B (YK c n cap).2]):=by
 have h:=ZiM c n 308 [.ip (yi c),.ip [I cap]] (Qk c cap) hc hn (Zd2 hc cap) (λt a=>Zsq c cap t hc a);unfold YK;generalize qD c (Qk c cap) n=r at h ⊢;refine zx func283 ntmps283 results283 λS nx b=>?_
 refine DY ?_;intro v0 v1;refine wL 0 rfl ?_;refine wL 1 rfl ?_;refine DY ?_;refine zv h ?_;exact DZ b
def Jc(price:List Int)(v:List Visit):Int:=v.foldl (λs w=>W (s+Qj price w.d)) 0
theorem Zst(price:List Int)(v:List Visit)(w:Visit):Jc price (v++[w])=W (Jc price v+Qj price w.d):=by simp[Jc]
def YL(c:Cust)(n:Int)(price:List Int)(v:List Visit):Int:=if c.kind=1 then Jc price v else W (Jc price v+ZB c (jF c (yV v n)).1)
theorem Zd3{S:Store}{g:PV}{price:List Int}(c:Cust)(n:Int)(v:List Visit)(l:RowOf S g price)(hc:CustFits c)(hv:VisOk v):
  Spec prog 208 [.agg (yi c),I n,g,L v] S (λq S'=>q=I (YL c n price v)/\S'=S):=by
 have m:=hv.n;have o:=λS (h:RowOf S g price) d=>Zd0 d h
 unfold YL;refine yt func208 ntmps208 results208 λnx i=>?_
 refine DY ?_;intro v0;refine DY ?_
 repeat apply ze
 refine zg ?_;refine zn (zK (λk:Nat=>k<=v.length) (λk=>[(1,I n),(3,L v),(4,.ptr nx v0 0),(9,I (Jc price (v.take k))),(2,g),(14,L v),(15,I v.length),(16,I k)]) (λ_=>[.cells v0 87 (yi c)]) (λk=>v.length-k) 0 [] DP (by simp[Jc]) DP ?_);rintro k r;refine DY ?_;refine ze (zA rfl (λa=>?_) (λa=>?_))
 ·simp at a;obtain⟨w,tl,s,t,a3,u,p⟩:=el 2 rfl v k a;have e:=Zst price (v.take k) w;rw[<-a3]at e;refine zk (ze (zn (ze (zi [] (zq p a) ?_))));intro x;refine zg ?_;refine λf=>((o _ (l.ext i _) _).mono ?_).v
  rintro _ _ ⟨rfl,rfl⟩;refine⟨_,_,rfl,zR f ?_⟩;refine zg ?_;exact zu (k+1) [_] a DO (by simp[zy k (by omega),e]) rfl DQ
 ·simp at a;obtain rfl:k=v.length:=DO
  rw[Ai];refine zC ?_
  repeat apply ze
  refine zg ?_
  by_cases b:c.kind=1
  ·rw[if_pos b];refine zo (by simp[b]) ?_;refine DY ?_;exact zj ⟨_,S,rfl,⟨by simp[zr],rfl⟩,yb i⟩
  ·rw[if_neg b];have hb:=ZhX v n hv;have hn:=Zdw c (yV v n) hc (Zbc _ _);have j:=Zdx c _ (ZiB c (yV v n) (Zbc _ _));generalize jF c (yV v n)=ns at hn j ⊢;obtain⟨nl,ne⟩:=ns;simp only at hn j ⊢;refine zp (by simp[b]) ?_;refine zk (ze (zD (some [nx]) (Row.pures [0,1,2,3,4,5,6,7,8,9] .done) mixed trivial ?_));refine zO (hb) trivial ?_;refine zO (hn) trivial ?_;refine DY ?_;refine zv j ?_;exact zj ⟨_,S,rfl,⟨by simp[zr],rfl⟩,yb i⟩
def J5(c:Cust)(n:Nat)(cap:Int)(price:List Int):List Visit × Bool :=
 if (YK c n cap).2=true/\((Z5 c n cap).2=false\/YL c n price (qm 0 (YK c n cap).1)<=YL c n price (qm 0 (Z5 c n cap).1)) then (qm 0 (YK c n cap).1,true)
 else if (Z5 c n cap).2=true then (qm 0 (Z5 c n cap).1,true) else ([],false)
theorem ZiN{q:List Int}{n:Nat}(a:Qs q)(hl:q.length=n)(hn:n<=1000):VisOk (qm 0 q):=by
 refine⟨AF (Zba _ _) DO,λs hs=>?_,λs hs=>?_⟩
 ·have:=Zbb q 0 a s hs;omega
 ·have:=Zbb q 0 a s hs;unfold zT;omega
theorem Zsu{S:Store}{f:PV}{price:List Int}(c:Cust)(n:Nat)(cap:Int)(g:RowOf S f price)(hc:CustFits c)(hn:n<=1000):
  Spec prog 248 [.agg (yi c),I n,I cap,f] S (λq S'=>q=.tup [L (J5 c n cap price).1,B (J5 c n cap price).2]/\S'=S):=by
 have m:=Zsr c n cap hc hn;have o:=Zss c n cap hc hn;have p:(Z5 c n cap).1.length=n:=Wc _ _ _;have r:(YK c n cap).1.length=n:=Wc _ _ _;have vD:VisOk (qm 0 (Z5 c n cap).1):=ZiN (We hc (Zd1 hc cap) n).2 p hn;have s:VisOk (qm 0 (YK c n cap).1):=ZiN (We hc (Zd2 hc cap) n).2 r hn;unfold J5;generalize Z5 c n cap=rd at *;generalize YK c n cap=rl at *;obtain⟨i,t⟩:=rd;obtain⟨j,u⟩:=rl;simp only at m o p r vD s ⊢;have k:=ZiL i DO;have l:=ZiL j DO;have d:=λS (h:RowOf S f price)=>Zd3 (S:=S) c n (qm 0 i) h hc vD
 have e:=λS (h:RowOf S f price)=>Zd3 (S:=S) c n (qm 0 j) h hc s
 generalize qm 0 i=vd at *;generalize qm 0 j=vl at *;generalize YL c n price vd=zd at *;generalize YL c n price vl=zl at *;refine yt func248 ntmps248 results248 λnx a=>?_
 refine DY ?_;intro v0;refine DY ?_;refine zv m ?_;refine DY ?_;refine zv k ?_
 repeat apply ze
 refine zg ?_;refine zv o ?_;refine DY ?_;cases u with
 | true =>
  refine zo rfl (DY ?_);refine zv l ?_;cases t with
  | false =>
   rw[if_pos ⟨rfl,.inl rfl⟩];refine ze (zD (some [nx]) (Row.pures [0,1,2,3,4,5,6,7,8,9,10,11,12,13,14] .done) mixed zB ?_);refine zo rfl (DY ?_);exact zj ⟨_,S,DQ,⟨by simp[zr],rfl⟩,yb a⟩
  | true =>
   by_cases b:zl<=zd
   ·rw[if_pos ⟨rfl,.inr b⟩];refine ze (zD (some [nx]) (Row.pures [0,1,2,3,4,5,6,8,9,10,11] (.alt 7 (.alt 12 (Row.pures [13,14] .done) .stop) .stop)) mixed zB ?_);refine(((e _ (g.ext a _)).mono ?_).v);rintro _ _ ⟨rfl,rfl⟩;refine⟨by simp[yR],jY zB ?_⟩;refine(((d _ (g.ext a _)).mono ?_).v);rintro _ _ ⟨rfl,rfl⟩;refine⟨by simp[yR],jY zB ?_⟩;refine zo (by simp[b]) ?_;refine DY ?_;exact zj ⟨_,S,DQ,⟨by simp[zr],rfl⟩,yb a⟩
   ·rw[if_neg (by rintro⟨-,q | q⟩;cases q;exact b q),if_pos rfl];refine ze (zD (some [nx]) (Row.pures [0,1,2,3,4,5,6,8,9,10,11] (.alt 7 (.alt 12 (Row.pures [13,14] .done) .stop) .stop)) mixed zB ?_);refine(((e _ (g.ext a _)).mono ?_).v);rintro _ _ ⟨rfl,rfl⟩;refine⟨by simp[yR],jY zB ?_⟩;refine(((d _ (g.ext a _)).mono ?_).v);rintro _ _ ⟨rfl,rfl⟩;refine⟨by simp[yR],jY zB ?_⟩;refine zp DT ?_;refine zk ?_
    repeat apply ze
    refine zg ?_;refine zp rfl (zk (DY ?_));exact zj ⟨_,S,DQ,⟨by simp[zr],rfl⟩,yb a⟩
 | false =>
  rw[if_neg (by rintro⟨q,-⟩;cases q)];refine zp rfl (zk ?_)
  repeat apply ze
  refine zg ?_;cases t with
  | false =>
   rw[if_neg DV];refine zo rfl (DY ?_);refine Yp 8 rfl ?_;exact zj ⟨_,S,rfl,⟨by simp[zr],rfl⟩,yb a⟩
  | true =>
   rw[if_pos rfl];refine zp rfl (zk (DY ?_));exact zj ⟨_,S,DQ,⟨by simp[zr],rfl⟩,yb a⟩
open Go Go.Proofs Hp
def jA(c:Cust)(last d:Int):Int × Int :=
 ((if last<0 then c.start else c.size)-c.rate*((if last<0 then d else d-last).toNat:Int),
  ZB c ((List.range (if last<0 then d else d-last).toNat).map λ(i:Nat)=>(if last<0 then c.start else c.size)-c.rate*((i:Int)+1)))
theorem ZiO(c:Cust)(a d:Int)(hc:CustFits c)(hl:-1<=a/\a<=64)(o:0<=d/\d<=64):Pure prog 278 [.agg (yi c),I a,I d] (.tup [I (jA c a d).1,I (jA c a d).2]):=by
 have h1:=hc.rate;have h2:=hc.size;have h3:=hc.start;have w0:IntKind.i64.wrap (d-a)=d-a:=wr _ DO DO;have key:jA c a d=(let t0:=if a<0 then c.start else c.size;let m:=if a<0 then d else d-a;(t0-c.rate*(m.toNat:Int),ZB c ((List.range m.toNat).map λ(i:Nat)=>t0-c.rate*((i:Int)+1)))):=rfl;rw[key];obtain⟨t0,b⟩:∃t0,t0=if a<0 then c.start else c.size:=⟨_,rfl⟩
 obtain⟨m,hm⟩:∃m,m=if a<0 then d else d-a:=⟨_,rfl⟩
 have p:0<=t0/\t0<=2147483648:=by rw[b];split<;>omega
 have q:-64<=m/\m<=65:=by rw[hm];split<;>omega
 rw[<-b,<-hm];clear key;simp only;refine zx func278 ntmps278 results278 λS nx r=>?_
 refine DY ?_;intro v0;refine ze (zi [] w0 ?_);refine ze (qy (nx:=nx) (σ:=Unit) (λ_=>True) (λ_=>[(3,.ptr nx v0 0),(8,I t0),(9,I m)]) (λ_=>S) (λ_=>[.cells v0 87 (yi c)]) ?_ ?_)
 ·refine DY ?_
  by_cases h:a<0
  ·rw[if_pos h]at b hm;refine zo (by simp[h]) ?_;refine zg ?_;exact zZ () [] trivial (by simp[b,hm]) rfl DP
  ·rw[if_neg h]at b hm;refine zp DT ?_;exact zk (zZ () [] trivial (by simp[b,hm]) rfl DP)
 intro _ _;refine DY ?_;refine ze (q9 10 3 1 rfl λv1=>?_);refine DY ?_;have e:∀k:Nat,k<=65->0<=c.rate*(k:Int)/\c.rate*(k:Int)<=2147483648*65:=λk l=>⟨CW h1.1 DO,CX h1.2 DO DO DO⟩
 refine zn (zK (λs:Nat × Nat=>s.1<=m.toNat) (λ(k,w)=>[(3,.ptr nx v0 0),(8,I (t0-c.rate*(k:Int))),(10,.sl (nx+1) w 1 0 ((List.range k).map λ(i:Nat)=>t0-c.rate*((i:Int)+1)).length),(21,I m),(22,I k)]) (λ(k,w)=>[.cells v0 87 (yi c),.cells w 3 (((List.range k).map λ(i:Nat)=>t0-c.rate*((i:Int)+1)).flatMap Enc.enc)]) (λs=>m.toNat-s.1) (0,v1) [] DP DP DP ?_);rintro⟨k,w⟩ l;simp only at l ⊢;have x:=e k DO;have t:=e (k+1);have n:c.rate*((k:Int)+1)=c.rate*(k:Int)+c.rate:=by rw[Int.mul_add,Int.mul_one]
 have f:((List.range (k+1)).map λ(i:Nat)=>t0-c.rate*((i:Int)+1))=((List.range k).map λ(i:Nat)=>t0-c.rate*((i:Int)+1))++[t0-c.rate*((k:Int)+1)]:=by simp[AO]
 have u:((List.range k).map λ(i:Nat)=>t0-c.rate*((i:Int)+1)).length=k:=DP
 generalize g:((List.range k).map λ(i:Nat)=>t0-c.rate*((i:Int)+1))=ls at *
 by_cases j:(k:Int)<m
 ·have v:IntKind.i64.wrap (t0-c.rate*(k:Int)-c.rate)=t0-c.rate*((k:Int)+1):=by rw[wr _ DO DO];omega
  refine DY ?_;refine ze (zo (by simp[j]) ?_);refine zk (ze (zn (ze (zi [] v ?_))));refine zg ?_;refine⟨by omega,?_⟩;refine zg ?_;exact zu (k+1,w+1) [] DT DT (by simp[zy k (by omega),f];) rfl (by simp[f])
 ·refine DY ?_;refine ze (zp DT ?_);obtain rfl:k=m.toNat:=DO
  refine zC (yh 1 rfl ?_);refine DY ?_;refine zv (Zdx c ls DO) ?_;exact zj (zm r DQ (by simp[zr,g]))
def Ql(c:Cust)(st:List Visit × Int)(d:Int):List Visit × Int:=(st.1++[⟨d,W (c.size-(jA c st.2 d).1)⟩],d)
def xv(c:Cust)(ds:List Int):List Visit × Int:=ds.foldl (Ql c) ([],-1)
theorem Zbe(c:Cust)(ds:List Int)(d:Int):xv c (ds++[d])=Ql c (xv c ds) d:=by simp[xv]
theorem ZiP(c:Cust):∀ds:List Int,(xv c ds).1.length=ds.length:=by
 have:∀(ds:List Int) (st:List Visit × Int),(ds.foldl (Ql c) st).1.length=st.1.length+ds.length:=by
  intro ds
  induction ds with
  | nil=>intro st;simp
  | cons d ds a=>intro st;rw[A5,a];simp[Ql];omega
 intro ds;unfold xv;rw[this];simp
theorem Zsv(c:Cust)(p:Nat)(u:p<2 ^ 64)(hc:CustFits c):Pure prog 280 [.agg (yi c),U p] (L (xv c (yH p 0 64)).1):=by
 have e:=ZdX p u;have m:=Q5 p 0 64;have g:∀d∈yH p 0 64,0<=d/\d<64:=λd n=>by obtain⟨i,h,h2,_⟩:=Vi n;omega
 generalize yH p 0 64=ds at e m g ⊢;refine zx func280 ntmps280 results280 λS nx n=>?_
 refine DY ?_;intro v0;refine DY ?_;refine ze (q9 5 104 2 rfl λv1=>?_);refine zg ?_
 repeat apply ze
 refine zg ?_;refine zv e ?_;have j:∀k,-1<=(xv c (ds.take k)).2/\(xv c (ds.take k)).2<=64:=by
  intro k
  induction k with
  | zero=>simp[xv]
  | succ k t =>
   by_cases h:k<ds.length
   ·rw[AR h,Zbe];have:=g ds[k] (Bc h);simp only[Ql];omega
   ·rw[Af DO]at t ⊢;exact t
 refine zn (zK (λs:Nat × Nat=>s.1<=ds.length) (λ(k,w)=>[(2,.ptr nx v0 0),(5,.sl (nx+1) w 2 0 (xv c (ds.take k)).1.length),(6,I (xv c (ds.take k)).2),(12,L ds),(13,I ds.length),(14,I k)]) (λ(k,w)=>[.cells v0 87 (yi c),.cells w 104 ((xv c (ds.take k)).1.flatMap Enc.enc)]) (λs=>ds.length-s.1) (0,v1) [] DP (by simp[xv]) (by simp[xv]) ?_);rintro⟨k,w⟩ v;simp only at v ⊢;have l:=j k;have o:(xv c (ds.take k)).1.length=k:=by rw[ZiP];simp;omega
 refine DY ?_;refine ze (zA rfl (λa=>?_) (λa=>?_))
 ·simp at a;obtain⟨d,tl,x,a2,a3,y⟩:=zN rfl ds k a;have z:=g d (Ab x);have b:=Zbe c (ds.take k) d;rw[<-a3]at b;generalize xv c (ds.take k)=st at *;obtain⟨out,f⟩:=st;simp only[Ql]at l o b ⊢;have q:=ZiO c f d hc l DO;generalize jA c f d=r at q b;obtain⟨th,he⟩:=r;simp only at q b;refine zk (ze (zn (ze (zi [] (zq y a) ?_))));refine DY ?_;refine zv q ?_;refine DY ?_;refine⟨by omega,?_⟩;refine zg ?_;refine zg ?_;exact zu (k+1,w+1) [] a DT (by simp[zy k (by omega),b]) rfl (by simp[b])
 ·simp at a;obtain rfl:k=ds.length:=DO
  rw[Ai];refine zC (yh 1 rfl ?_);refine DY ?_;exact DZ n
structure Stp where
 r:Bool
 k:Int
 l:Int
 deriving DecidableEq
instance:Inhabited Stp:=⟨⟨false,0,0⟩⟩
instance:Enc Stp:=⟨λs=>[B s.r,I s.k,I s.l],3,λ_=>rfl,λ_=>rfl⟩
@[simp] theorem Zz3(s:Stp):Enc.enc s=[B s.r,I s.k,I s.l]:=rfl
@[simp high] theorem Zsw(l:List Stp):(l.flatMap Enc.enc).length=l.length*3:=js l
@[simp high] theorem Zz4(l:List Stp):(l.flatMap Enc.enc).take (l.length*3)=l.flatMap Enc.enc:=Y6 l
def zs:Stp:=⟨false,0,0⟩
def J6(c:Cust)(n:Nat)(cap:Int)(price:List Int)(tab:List Stp)(d:Nat)(last:Int):Int :=
 let k1:=if 0<=last then W ((jA c last d).2+(tab.getD last.toNat zs).k) else (jA c last d).2
 if d<n then W (k1+Qj price d) else k1
def Jd(c:Cust)(n:Nat)(cap:Int)(tab:List Stp)(d:Nat)(last:Int):Prop :=
 ¬(0<=last/\tab.getD last.toNat zs=zs)/\¬((jA c last d).1<0\/(d<n/\uo c (jA c last d).1 cap=0))
instance (c:Cust) (n:Nat) (cap:Int) (tab:List Stp) (d:Nat) (last:Int):Decidable (Jd c n cap tab d last):=by unfold Jd;exact inferInstance
def Vl(c:Cust)(n:Nat)(cap:Int)(price:List Int)(tab:List Stp)(d:Nat)(best:Stp)(last:Int):Stp :=
 if Jd c n cap tab d last then (if best=zs\/J6 c n cap price tab d last<best.k then ⟨true,J6 c n cap price tab d last,last⟩ else best) else best
def wD(c:Cust)(n:Nat)(cap:Int)(price:List Int)(tab:List Stp)(d:Nat)(j:Nat):Stp:=(List.range j).foldl (λb (i:Nat)=>Vl c n cap price tab d b ((i:Int)-1)) zs
theorem ZiQ(c:Cust)(n:Nat)(cap:Int)(price:List Int)(a:List Stp)(d:Nat)(j:Nat):wD c n cap price a d (j+1)=Vl c n cap price a d (wD c n cap price a d j) ((j:Int)-1):=by simp[wD,AO]
def j9(c:Cust)(n:Nat)(cap:Int)(price:List Int):Nat->List Stp
 | 0=>[]
 | k+1=>j9 c n cap price k++[wD c n cap price (j9 c n cap price k) k (k+1)]
theorem Vm(c:Cust)(n:Nat)(cap:Int)(price:List Int):∀k,(j9 c n cap price k).length=k
 | 0=>rfl
 | k+1=>by simp[j9,Vm c n cap price k]
def uM(tab:List Stp):Nat->Nat->Int->Nat
 | 0,s,_=>s
 | f+1,s,d=>if d<0 then s else uM tab f (jo s d) (tab.getD d.toNat zs).l
def Qm(c:Cust)(n:Nat)(cap:Int)(price:List Int):List Visit × Bool :=
 if (j9 c n cap price (n+1)).getD n zs=zs then ([],false)
 else ((xv c (yH (uM (j9 c n cap price (n+1)) 65 0 ((j9 c n cap price (n+1)).getD n zs).l) 0 64)).1,true)
def Zsx(tab:List Stp):Prop:=∀(d:Nat) (e:Stp),tab[d]?=some e->e=zs\/(e.r=true/\-1<=e.l/\e.l<d/\(0<=e.l->tab.getD e.l.toNat zs≠zs))
theorem Zbf(c:Cust)(n:Nat)(cap:Int)(price:List Int)(a:List Stp)(d:Nat):∀j:Nat,wD c n cap price a d j=zs\/((wD c n cap price a d j).r=true/\-1<=(wD c n cap price a d j).l/\(wD c n cap price a d j).l+1<j/\Jd c n cap a d (wD c n cap price a d j).l)
 | 0=>.inl rfl
 | j+1=>by
  have b:=Zbf c n cap price a d j;rw[ZiQ];unfold Vl;split
  ·rename_i e;split
   ·exact .inr ⟨rfl,by dsimp only;omega,by dsimp only;omega,e⟩
   ·rcases b with b | ⟨h1,h2,h3,f⟩
    ·exact .inl b
    ·exact .inr ⟨h1,h2,by omega,f⟩
  ·rcases b with b | ⟨h1,h2,h3,f⟩
   ·exact .inl b
   ·exact .inr ⟨h1,h2,by omega,f⟩
theorem Zd4(c:Cust)(n:Nat)(cap:Int)(price:List Int):∀k,Zsx (j9 c n cap price k)
 | 0=>by intro d e h;cases h
 | k+1=>by
  have l:=Zd4 c n cap price k;have hl:=Vm c n cap price k;have m:=Zbf c n cap price (j9 c n cap price k) k (k+1);intro d e h;simp only[j9]at h ⊢;have a:∀(i:Nat),i<k->(j9 c n cap price k++[wD c n cap price (j9 c n cap price k) k (k+1)]).getD i zs=(j9 c n cap price k).getD i zs:=by
   intro i hi;rw[Aa,Aa,As DO]
  by_cases p:d<k
  ·rw[As DO]at h;rcases l d e h with q | ⟨b,f,j,g⟩
   ·exact .inl q
   ·refine .inr ⟨b,f,j,λq=>?_⟩;rw[a _ DO];exact g q
  ·rw[Ak DO,hl]at h;obtain rfl:d=k:=by
    rcases Bh (d-k) 1 with q | q
    ·omega
    ·rw[Ao (by simpa using q)]at h;cases h
   rw[Bz]at h;simp only[Bd,Option.some.injEq]at h;subst h;rcases m with q | ⟨b,f,j,g⟩
   ·exact .inl q
   ·refine .inr ⟨b,f,by omega,λq=>?_⟩;rw[a _ DO];exact λo=>g.1 ⟨q,o⟩
open Go Go.Proofs Hp
def qU(tab:List Stp)(b:Stp):List Stp:=tab++b :: List.replicate (64-tab.length) zs
theorem ZiR(a:List Stp)(b:Stp)(h:a.length<=64):(qU a b).length=65:=by simp[qU];omega
theorem Zbg(a:List Stp)(b:Stp)(i:Nat)(h:i<a.length):(qU a b)[i]?=some (a.getD i zs):=by
 unfold qU;rw[As h,Aa,Ac h];rfl
theorem Zsy(a:List Stp)(b:Stp):(qU a b)[a.length]?=some b:=by
 unfold qU;rw[Ak (Ag _)];simp
theorem Zsz(a:List Stp)(b e:Stp):(qU a b).set a.length e=qU a e:=by
 unfold qU;rw[BE _ _ (Ag _)];simp
theorem ZsA(a:List Stp)(b:Stp)(h:a.length<64):qU a b=qU (a++[b]) zs:=by
 unfold qU;rw[List.append_assoc,Am,Ba,show 64-a.length=(64-(a.length+1))+1 from by omega,BC];rfl
@[simp] theorem Zz5:Program.zeroOf prog 325=some (.agg #[.bool false,.int .i64 0,.int .i64 0,.bool false,.int .i64 0,.int .i64 0,.bool false,.int .i64 0,.int .i64 0,.bool false,.int .i64 0,.int .i64 0,.bool false,.int .i64 0,.int .i64 0,.bool false,.int .i64 0,.int .i64 0,.bool false,.int .i64 0,.int .i64 0,.bool false,.int .i64 0,.int .i64 0,.bool false,.int .i64 0,.int .i64 0,.bool false,.int .i64 0,.int .i64 0,.bool false,.int .i64 0,.int .i64 0,.bool false,.int .i64 0,.int .i64 0,.bool false,.int .i64 0,.int .i64 0,.bool false,.int .i64 0,.int .i64 0,.bool false,.int .i64 0,.int .i64 0,.bool false,.int .i64 0,.int .i64 0,.bool false,.int .i64 0,.int .i64 0,.bool false,.int .i64 0,.int .i64 0,.bool false,.int .i64 0,.int .i64 0,.bool false,.int .i64 0,.int .i64 0,.bool false,.int .i64 0,.int .i64 0,.bool false,.int .i64 0,.int .i64 0,.bool false,.int .i64 0,.int .i64 0,.bool false,.int .i64 0,.int .i64 0,.bool false,.int .i64 0,.int .i64 0,.bool false,.int .i64 0,.int .i64 0,.bool false,.int .i64 0,.int .i64 0,.bool false,.int .i64 0,.int .i64 0,.bool false,.int .i64 0,.int .i64 0,.bool false,.int .i64 0,.int .i64 0,.bool false,.int .i64 0,.int .i64 0,.bool false,.int .i64 0,.int .i64 0,.bool false,.int .i64 0,.int .i64 0,.bool false,.int .i64 0,.int .i64 0,.bool false,.int .i64 0,.int .i64 0,.bool false,.int .i64 0,.int .i64 0,.bool false,.int .i64 0,.int .i64 0,.bool false,.int .i64 0,.int .i64 0,.bool false,.int .i64 0,.int .i64 0,.bool false,.int .i64 0,.int .i64 0,.bool false,.int .i64 0,.int .i64 0,.bool false,.int .i64 0,.int .i64 0,.bool false,.int .i64 0,.int .i64 0,.bool false,.int .i64 0,.int .i64 0,.bool false,.int .i64 0,.int .i64 0,.bool false,.int .i64 0,.int .i64 0,.bool false,.int .i64 0,.int .i64 0,.bool false,.int .i64 0,.int .i64 0,.bool false,.int .i64 0,.int .i64 0,.bool false,.int .i64 0,.int .i64 0,.bool false,.int .i64 0,.int .i64 0,.bool false,.int .i64 0,.int .i64 0,.bool false,.int .i64 0,.int .i64 0,.bool false,.int .i64 0,.int .i64 0,.bool false,.int .i64 0,.int .i64 0,.bool false,.int .i64 0,.int .i64 0,.bool false,.int .i64 0,.int .i64 0,.bool false,.int .i64 0,.int .i64 0,.bool false,.int .i64 0,.int .i64 0,.bool false,.int .i64 0,.int .i64 0,.bool false,.int .i64 0,.int .i64 0,.bool false,.int .i64 0,.int .i64 0,.bool false,.int .i64 0,.int .i64 0,.bool false,.int .i64 0,.int .i64 0,.bool false,.int .i64 0,.int .i64 0]):=DR
theorem ZiS{α:Type}[Enc α]:∀(l:List α) (k:Nat),(l.flatMap Enc.enc).take (k*Enc.sz α)=(l.take k).flatMap Enc.enc
 | [],k=>by simp
 | a :: l,0=>by simp
 | a :: l,k+1=>by
  have b:=ZiS l k;rw[Az,Dd,Az,Nat.add_mul,DK,List.take_append,Enc.len,<-b,B5,Af (by rw[Enc.len];omega)]
theorem ZsB{α:Type}[Enc α](n:Nat)(hn:Enc.sz α=n)(l:List α)(k:Nat)(v:α)(h:k<l.length):yk (l.flatMap Enc.enc) (k*n) (Enc.enc v)=(l.set k v).flatMap Enc.enc:=by
 subst hn;have h1:=Zcg h;have h2:(l.flatMap Enc.enc).drop (k*Enc.sz α+Enc.sz α)=(l.drop (k+1)).flatMap Enc.enc:=by
  rw[<-List.drop_drop,h1,Cs,AX (by rw[Enc.len];exact Ag _),Enc.len,Bz];simp
 rw[yk,Enc.len,ZiS,h2,AE,if_pos h];simp
theorem ZiT(a:List Stp):∀(f s:Nat) (d:Int),s<2 ^ 64->uM a f s d<2 ^ 64
 | 0,_,_,h=>h
 | f+1,s,d,h=>by
  unfold uM;split
  ·exact h
  ·exact ZiT a f _ _ (ZaW _ _ h)
theorem ZsC(a:List Stp)(f s:Nat){d:Int}(h:d<0):uM a f s d=s:=by
 cases f with
 | zero=>rfl
 | succ f=>unfold uM;rw[if_pos h]
theorem ZsD{S:Store}{pl:PV}{price:List Int}(c:Cust)(n:Nat)(cap:Int)(hR:RowOf S pl price)(hc:CustFits c)(hn:n<=60):
  Spec prog 247 [.agg (yi c),I n,I cap,pl] S (λq S'=>q=.tup [L (Qm c n cap price).1,B (Qm c n cap price).2]/\S'=S):=by
 have d7:jJ (n:Int) 64=n:=by unfold jJ;split<;>omega
 have d8:jy (n:Int) 0=n:=by unfold jy;split<;>omega
 have d9:=λS (h:RowOf S pl price) d=>Zd0 d h
 have c7:=λ(a d:Int) (h1:-1<=a/\a<=64) (h2:0<=d/\d<=64)=>ZiO c a d hc h1 h2
 have c8:=λ(th:Int) (h:-4611686018427387904<=th/\th<=4611686018427387904)=>ZdZ c th cap hc.size h
 unfold Qm;refine yt func247 ntmps247 results247 λnx hd=>?_
 refine DY ?_;intro v0;refine ze (zi [] (zq d7 d8) ?_);refine DY ?_;intro v1;have hw:IntKind.i64.wrap ((n:Int)+1)=((n+1:Nat):Int):=zy n DO
 repeat apply ze
 refine zi [] hw ?_;refine zn (zK (λd:Nat=>d<=n+1) (λd=>[(1,I n),(2,I cap),(3,pl),(4,.ptr nx v0 0),(10,.ptr (nx+1) v1 0),(22,I (n+1:Nat)),(23,I d)]) (λd=>[.cells v0 87 (yi c),.cells v1 325 ((qU (j9 c n cap price d) zs).flatMap Enc.enc)]) (λd=>n+1-d) 0 [] DP DP (by simp[j9];rfl) ?_);rintro d g6;have e2:=Vm c n cap price d;have a4:=Zd4 c n cap price d;have d0:j9 c n cap price (d+1)=j9 c n cap price d++[wD c n cap price (j9 c n cap price d) d (d+1)]:=rfl
 by_cases f5:d<n+1
 case neg =>
  obtain rfl:d=n+1:=DO
  clear d0;generalize j9 c n cap price (n+1)=tab at *;have m:=ZiR tab zs DO;obtain⟨s,tl,a1,-,-,e1,e0⟩:=el 3 rfl (qU tab zs) n DO;have hs:tab.getD n zs=s:=by have:=Zbg tab zs n DO;rw[a1]at this;exact(Option.some.inj this).symm
  have f6:tab[n]?=some s:=by rw[<-hs,Aa,Ac DO];rfl
  have f7:=e1 2 DO;have a5:(n:Int)<65:=DO
  have z1:3<=195-n*3:=DO
  have z2:1<=195-(n*3+2):=DO
  rw[hs];refine DY ?_;refine ze (zp DP ?_);refine zC ?_;rcases a4 n s f6 with q | ⟨hr,e3,f8,e4⟩
  ·subst q;rw[if_pos rfl];have f9:((qU tab zs).flatMap Enc.enc).drop (n*3)=[B false,I 0,I 0]++tl:=e0
   repeat apply ze
   refine zi [] (zS f9 a5 m z1) ?_;refine zo rfl (DY ?_);refine Yp 8 rfl ?_;exact zj ⟨_,S,rfl,⟨by simp[zr],rfl⟩,yb hd⟩
  ·have g0:s≠zs:=λe=>by rw[e]at hr;cases hr
   rw[if_neg g0];obtain⟨sr,sk,sl⟩:=s;simp only at hr e3 f8 e4 ⊢;subst hr
   repeat apply ze
   refine zi [] (zS e0 a5 m z1) ?_;refine zp rfl (zk (DY ?_))
   repeat apply ze
   refine zi [] (zS f7 a5 m z2) ?_;generalize b7:uM tab 65 0 sl=res;have e5:res<2 ^ 64:=b7 ▸ ZiT tab 65 0 sl DV;have b8:=Zsv c res e5 hc;generalize (xv c (yH res 0 64)).1=vv at b8 ⊢;refine zn (zK (λst:Nat × Nat × Int=>uM tab st.1 st.2.1 st.2.2=res/\-1<=st.2.2/\st.2.2<st.1/\st.2.2<n/\st.2.1<2 ^ 64/\(0<=st.2.2->tab.getD st.2.2.toNat zs≠zs)) (λ(f,s,l)=>[(4,.ptr nx v0 0),(10,.ptr (nx+1) v1 0),(16,U s),(17,I l)]) (λ_=>[.cells v0 87 (yi c),.cells v1 325 ((qU tab zs).flatMap Enc.enc)]) (λst=>st.1) (65,0,sl) [] ⟨b7,e3,by dsimp only;omega,by dsimp only;omega,by show (0:Nat)<2 ^ 64;decide,e4⟩ DP DP ?_);rintro⟨f,s,l⟩ ⟨p1,p2,p3,p4,p5,p6⟩;simp only at p1 p2 p3 p4 p5 p6 ⊢
   by_cases hl:l<0
   ·have a6:¬0<=l:=DO
    rw[ZsC tab f s hl]at p1;subst p1
    repeat apply ze
    refine zi [] a6 ?_;refine zp rfl (zC (DY ?_));refine zv b8 ?_;exact zj ⟨_,S,DQ,⟨by simp[zr],rfl⟩,yb hd⟩
   ·have a6:0<=l:=DO
    obtain⟨i,rfl⟩:=Ay a6;obtain⟨f,rfl⟩:∃g,f=g+1:=⟨f-1,by omega⟩;have p6:=p6 a6;rw[AN]at p6;have hi:i<tab.length:=DO
    obtain⟨e,a7,b1,-,-,f1,f0⟩:=el 3 rfl (qU tab zs) i DO;have he:tab.getD i zs=e:=by have:=Zbg tab zs i hi;rw[b1]at this;exact(Option.some.inj this).symm
    have d1:tab[i]?=some e:=by rw[<-he,Aa,Ac hi];rfl
    have g1:=f1 2 DO;have u:(i:Int)<65:=DO
    have y2:1<=195-(i*3+2):=DO
    rw[he]at p6;rcases a4 i e d1 with q | ⟨er,e6,g5,e7⟩
    ·exact absurd q p6
    have g2:uM tab f (jo s i) e.l=res:=by
     rw[<-p1];unfold uM;rw[if_neg DO,AN,he];cases f<;>rfl
    repeat apply ze
    refine zi [] a6 ?_;refine zo rfl (zk (ze (zn (zg ?_))));refine zv (ZhS s i p5) ?_;refine zi [] (zS g1 u m y2) ?_;exact zu (f,jo s i,e.l) [] ⟨g2,e6,by dsimp only;omega,by dsimp only;omega,ZaW _ _ p5,e7⟩ DP DP rfl DP
 generalize j9 c n cap price d=tab at *;refine DY ?_;refine ze (zo DT ?_);refine zk (ze (zn (DY ?_)));refine DY ?_;refine zn (zK (λj:Nat=>j<=d+1) (λj=>[(1,I n),(2,I cap),(3,pl),(4,.ptr nx v0 0),(10,.ptr (nx+1) v1 0),(11,I d),(12,I ((j:Int)-1)),(22,I (n+1:Nat)),(23,I d)]) (λj=>[.cells v0 87 (yi c),.cells v1 325 ((qU tab (wD c n cap price tab d j)).flatMap Enc.enc)]) (λj=>d+1-j) 0 [] DP DP (by simp[wD]) ?_);rintro j hj;have p:=ZiQ c n cap price tab d j;have e8:=Zbf c n cap price tab d j;have g3:wD c n cap price tab d (d+1)=wD c n cap price tab d (d+1):=rfl
 by_cases g7:j<d+1
 case neg =>
  obtain rfl:j=d+1:=DO
  repeat apply ze
  refine zg ?_;refine zp DP ?_;refine zC (zg ?_);exact zu (d+1) [] f5 DO (by simp[zy d (by omega)]) rfl (by rw[d0,<-ZsA tab _ (by omega)];simp)
 clear g3 d0;generalize wD c n cap price tab d j=b at *;obtain⟨a,d2⟩:∃a:Int,a=(j:Int)-1:=⟨_,rfl⟩;rw[<-d2]at p ⊢;have a3:IntKind.i64.wrap (a+1)=((j+1:Nat):Int)-1:=by rw[wr _ DO DO];omega
 have m:=ZiR tab b DO;have y:(d:Int)<65:=DO
 have d3:3<=195-d*3:=DO
 have e9:1<=195-(d*3+1):=DO
 have hr:=c7 a d DO DO;have f2:-4611686018427387904<=(jA c a d).1/\(jA c a d).1<=4611686018427387904:=by
  have h1:=hc.rate;have h2:=hc.size;have h3:=hc.start;unfold jA;simp only;have hp:0<=c.rate*((if a<0 then (d:Int) else d-a).toNat:Int)/\c.rate*((if a<0 then (d:Int) else d-a).toNat:Int)<=2147483648*65 :=
   ⟨CW h1.1 DO,CX h1.2 (by split<;>omega) DO DO⟩
  generalize c.rate*((if a<0 then (d:Int) else d-a).toNat:Int)=pp at hp ⊢;split<;>omega
 have hm:=c8 _ f2;have r:∀(k1:Int),k1=(if 0<=a then W ((jA c a d).2+(tab.getD a.toNat zs).k) else (jA c a d).2)->J6 c n cap price tab d a=if d<n then W (k1+Qj price d) else k1:=λk1 h=>by unfold J6;rw[h]
 have z:Jd c n cap tab d a=(¬(0<=a/\tab.getD a.toNat zs=zs)/\¬((jA c a d).1<0\/(d<n/\uo c (jA c a d).1 cap=0))):=rfl;have o:¬Jd c n cap tab d a->wD c n cap price tab d (j+1)=b:=λh=>by rw[p];unfold Vl;rw[if_neg h]
 have t:Jd c n cap tab d a->wD c n cap price tab d (j+1)=if b=zs\/J6 c n cap price tab d a<b.k then ⟨true,J6 c n cap price tab d a,a⟩ else b:=λh=>by rw[p];unfold Vl;rw[if_pos h]
 clear p;generalize jA c a d=rr at hr hm r z;obtain⟨th,he⟩:=rr;simp only at hr hm r z;generalize uo c th cap=mo at hm z;generalize Jd c n cap tab d a=OK at z o t;generalize J6 c n cap price tab d a=kk at r t;generalize w:wD c n cap price tab d (j+1)=b' at o t;subst z
 repeat apply ze
 refine zg ?_;refine zo DT ?_;refine zk (ze (zn (ze (qy (nx:=nx) (σ:=Unit) (λ_=>¬(0<=a/\tab.getD a.toNat zs=zs)) (λ_=>[(1,I n),(2,I cap),(3,pl),(4,.ptr nx v0 0),(10,.ptr (nx+1) v1 0),(11,I d),(12,I a),(22,I (n+1:Nat)),(23,I d)]) (λ_=>S) (λ_=>[.cells v0 87 (yi c),.cells v1 325 ((qU tab b).flatMap Enc.enc)]) ?_ ?_))))
 ·by_cases hl:0<=a
  ·obtain⟨i,hi⟩:=Ay hl;have hit:i<tab.length:=DO
   obtain⟨e,a7,b1,-,-,-,f0⟩:=el 3 rfl (qU tab b) i DO;have a0:tab.getD i zs=e:=by have:=Zbg tab b i hit;rw[b1]at this;exact(Option.some.inj this).symm
   have d1:tab[i]?=some e:=by rw[<-a0,Aa,Ac hit];rfl
   have u:(i:Int)<65:=DO
   have y3:3<=195-i*3:=DO
   have x:a.toNat=i:=DO
   rcases a4 i e d1 with q | ⟨er,-,-,-⟩
   ·subst q;have d4:((qU tab b).flatMap Enc.enc).drop (i*3)=[B false,I 0,I 0]++a7:=f0;have a8:=o λh=>h.1 ⟨hl,by rw[x];exact a0⟩
    subst a8;subst hi;refine ze (zi [(2,33)] (yr hl d4 u m y3) ?_);refine zo rfl (zC (zi [] a3 ?_));exact zu (j+1) [] DO DO DP rfl (by simp[w])
   ·obtain⟨r1,r2,r3⟩:=e;simp only at er;subst er;subst hi;refine ze (zi [(2,33)] (yr hl f0 u m y3) ?_);exact zp rfl (zk (zZ () [] (by rw[x,a0];rintro⟨-,q⟩;cases q) DP rfl DP))
  ·refine ze (zi [(2,33)] (zq hl zB) ?_);exact zp rfl (zk (zZ () [] (λq=>hl q.1) DP rfl DP))
 intro _ hA;refine DY ?_;refine zv hr ?_;refine ze (qy (nx:=nx) (σ:=Unit) (λ_=>¬(th<0\/(d<n/\mo=0))) (λ_=>[(1,I n),(2,I cap),(3,pl),(4,.ptr nx v0 0),(10,.ptr (nx+1) v1 0),(11,I d),(12,I a),(14,I he),(22,I (n+1:Nat)),(23,I d)]) (λ_=>S) (λ_=>[.cells v0 87 (yi c),.cells v1 325 ((qU tab b).flatMap Enc.enc)]) ?_ ?_)
 ·by_cases h1:th<0
  ·have a8:=o λh=>h.2 (.inl h1)
   subst a8;refine ze (zi [(2,49),(6,53)] (zq h1 zB) ?_);refine zo rfl (zC (zi [] a3 ?_));exact zu (j+1) [] DO DO DP rfl (by simp[w])
  ·by_cases h2:d<n
   ·by_cases h3:mo=0
    ·have a8:=o λh=>h.2 (.inr ⟨h2,h3⟩)
     subst a8;refine ze (zi [(2,49),(6,53)] (zF h1 h2 h3) ?_);refine yW [(2,49),(6,53)] hm (zF h1 h2 h3) ?_;refine zo rfl (zC (zi [] a3 ?_));exact zu (j+1) [] DO DO DP rfl (by simp[w])
    ·refine ze (zi [(2,49),(6,53)] (zF h1 h2 h3) ?_);refine yW [(2,49),(6,53)] hm (zF h1 h2 h3) ?_;exact zp rfl (zk (zZ () [] DO DP rfl DP))
   ·refine ze (zi [(2,49),(6,53)] (zF h1 h2 zB) ?_);exact zp rfl (zk (zZ () [] DO DP rfl DP))
 intro _ hB;have t:=t ⟨hA,hB⟩;clear o hm hr;refine DY ?_;intro v2;obtain⟨k1,a2⟩:∃k1,k1=(if 0<=a then W (he+(tab.getD a.toNat zs).k) else he):=⟨_,rfl⟩;have r:=r k1 a2;refine ze (qy (nx:=nx) (σ:=Unit) (λ_=>True) (λ_=>[(1,I n),(2,I cap),(3,pl),(4,.ptr nx v0 0),(10,.ptr (nx+1) v1 0),(11,I d),(12,I a),(15,.ptr (nx+2) v2 0),(22,I (n+1:Nat)),(23,I d)]) (λ_=>S) (λ_=>[.cells v0 87 (yi c),.cells v1 325 ((qU tab b).flatMap Enc.enc),.cells v2 324 [B true,I k1,I a]]) ?_ ?_)
 ·refine DY ?_
  by_cases hl:0<=a
  ·rw[if_pos hl]at a2;obtain⟨i,hi⟩:=Ay hl;have hit:i<tab.length:=DO
   obtain⟨e,a7,b1,-,-,f1,f0⟩:=el 3 rfl (qU tab b) i DO;have a0:tab.getD i zs=e:=by have:=Zbg tab b i hit;rw[b1]at this;exact(Option.some.inj this).symm
   have a9:=f1 1 DO;have u:(i:Int)<65:=DO
   have y1:1<=195-(i*3+1):=DO
   have x:a.toNat=i:=DO
   rw[x,a0]at a2;subst hi;refine zo DP ?_;refine zD (some [nx+1]) (Row.pures [0,2,3,4,5] (.alt 1 (Row.pures [6,7] (.alt 8 (.done) .stop)) .stop)) mixed (zS a9 u m y1) ?_;exact zZ () [] trivial DP rfl (by simp[a2])
  ·rw[if_neg hl]at a2;refine zp DT ?_;exact zk (zZ () [] trivial DP rfl (by simp[a2]))
 intro _ _;clear a2;refine ze (qy (nx:=nx) (σ:=Unit) (λ_=>True) (λ_=>[(1,I n),(2,I cap),(3,pl),(4,.ptr nx v0 0),(10,.ptr (nx+1) v1 0),(11,I d),(12,I a),(15,.ptr (nx+2) v2 0),(22,I (n+1:Nat)),(23,I d)]) (λ_=>S) (λ_=>[.cells v0 87 (yi c),.cells v1 325 ((qU tab b).flatMap Enc.enc),.cells v2 324 [B true,I kk,I a]]) ?_ ?_)
 ·refine DY ?_
  by_cases h2:d<n
  ·rw[if_pos h2]at r;refine zo (by simp[h2]) ?_;refine zD (some [nx+1]) (Row.pures [0,2,3] (.alt 1 (.alt 4 (Row.pures [5,6] (.alt 7 (.done) .stop)) .stop) (.alt 4 (.alt 1 (Row.pures [5,6] (.alt 7 (.done) .stop)) .stop) .stop))) mixed trivial ?_;refine⟨?_,?_⟩
   ·refine(((d9 _ (hR.ext hd _) _).mono ?_).v);rintro _ _ ⟨rfl,rfl⟩;refine⟨by simp[yR],jY trivial ?_⟩;exact zZ () [] trivial DP rfl (by simp[r])
   ·refine(((d9 _ (hR.ext hd _) _).mono ?_).v);rintro _ _ ⟨rfl,rfl⟩;refine⟨by simp[yR],jY trivial ?_⟩;exact zZ () [] trivial DP rfl (by simp[r])
  ·rw[if_neg h2]at r;refine zp DT ?_;exact zk (zZ () [] trivial DP rfl (by simp[r]))
 intro _ _;clear r;obtain⟨e,a7,b1,-,-,f1,f0⟩:=el 3 rfl (qU tab b) d DO;have a0:b=e:=by have:=Zsy tab b;rw[e2,b1]at this;exact(Option.some.inj this).symm
 subst a0;have a9:=f1 1 DO;have d5:=ZsB 3 rfl (qU tab b) d ⟨true,kk,a⟩ DO;have d6:=Zsz tab b ⟨true,kk,a⟩;rw[e2]at d6;rw[d6]at d5;have c6:yk ((qU tab b).flatMap Enc.enc) (d*3) [B true,I kk,I a]=(qU tab ⟨true,kk,a⟩).flatMap Enc.enc:=d5;clear d5 d6;have f3:((qU tab b).flatMap Enc.enc:List PV).length=195:=by rw[Zsw,m]
 rcases e8 with q | ⟨f4,-,-,-⟩
 ·subst q;rw[if_pos (.inl rfl)]at t;subst t;have d4:((qU tab zs).flatMap Enc.enc).drop (d*3)=[B false,I 0,I 0]++a7:=f0;refine ze (zD none (Row.pures [0,1,2,3,4,5,6,7,8,9,10,11,12,13] .done) mixed (yr d4 y m d3 zB) ?_);refine zo rfl (zi [] (zS y f3 c6 m) ?_);refine⟨by omega,?_⟩;refine zi [] a3 ?_;exact zu (j+1) [_] DO DO DP rfl (by simp[w];rfl)
 ·obtain⟨r1,r2,r3⟩:=b;simp only at f4;subst f4;have g4:¬((⟨true,r2,r3⟩:Stp)=zs):=λe=>by cases e
  by_cases x:kk<r2
  ·rw[if_pos (.inr x)]at t;subst t;refine ze (zD none (Row.pures [0,1,2,3,4,5,6,7,8,9,10,11,12,13] .done) mixed (zW f0 a9 y m d3 (zq e9 x)) ?_);refine zo rfl (zi [] (zS y f3 c6 m) ?_);refine⟨by omega,?_⟩;refine zi [] a3 ?_;exact zu (j+1) [_] DO DO DP rfl (by simp[w];rfl)
  ·rw[if_neg (by rintro(q | q);exact g4 q;exact x q)]at t;subst t;refine ze (zD none (Row.pures [0,1,2,3,4,5,6,7,8,9,10,11,12,13] .done) mixed (zW f0 a9 y m d3 (zq e9 x)) ?_);refine zp rfl (zk (zi [] a3 ?_));exact zu (j+1) [_] DO DO DP rfl (by simp[w];rfl)
open Go Go.Proofs Hp
section
variable {P:Program} {r:Rd} {n N:Nat} {Q:Exit->(Nat->PV)->Store->Prop} {F:Nat->PV} {c:Code}
theorem ZsE{S:Store}{nx:Nat}{obs:List Ob}(j:Nat){ver e:Nat}{cs:List PV}(d:obs[j]?=some (.cells ver e cs)){id v e2:Nat}{ds:List PV}(f:id<nx)(hs:S id=.cells v e2 ds)
  (h:PW P r n N c Q F (ext (S.set id (.cells v e2 (ds.map (qO (nx+j) ver cs)))) nx (obs.set j .dead))):PW P r n N c Q F (ext S nx obs):=by
 have a:j<obs.length:=(Ad.1 d).1;refine Zrl (id:=nx+j) (ver:=ver) (e:=e) (cs:=cs) (G:=F) (by rw[zY,Aa,d];rfl) (by rw[zY,Aa,AW a];rfl) (λo=>?_) (λ_=>.inl rfl) h
 by_cases ho:o<nx
 ·rw[zJ ho,zJ ho]
  by_cases b:o=id
  ·subst b;rw[q11,hs];exact .inr (.inr rfl)
  ·rw[q10 _ _ _ _ b];exact .inr (.inl rfl)
 ·simp only[ext];rw[if_neg ho,if_neg ho,Aa,Aa,Bu];split
  ·simp[a]
  ·exact .inr (.inl rfl)
theorem Zbh{S T:Store}{nx a:Nat}{obs:List Ob}(b:yd nx S)(c:nx<=a)(h:∀o,o<nx->T o=S o)(o:Nat):S o=ext T a obs o\/S o=.dead:=by
 by_cases ho:o<nx
 ·rw[zJ DO,h o ho];exact .inl rfl
 ·exact .inr (b o DO)
end
def Z6(x:Inst)(sol:Cust->List Int->List Visit × Bool)(b:Int)(n:Nat):Nat->List (List Int)->zH × Int
 | 0,_=>([],15)
 | k+1,pr =>
  if (jg x sol pr).2≠0 then ([],15)
  else if j8 (jR x (jg x sol pr).1 b n)=0 then (wP x (jg x sol pr).1 b n,0)
  else if (jR x (jg x sol pr).1 b n).any YJ=true then ([],15)
  else Z6 x sol b n k (Wa (jR x (jg x sol pr).1 b n) pr n)
def Vn(x:Inst)(sol:Cust->List Int->List Visit × Bool)(b:Int)(n:Nat):zH × Int:=Z6 x sol b n 8 (xq x n 0)
def ZiU(x:Inst)(n:Nat)(sol:Cust->List Int->List Visit × Bool):Prop:=∀pr,ZF x.cust.length n pr->(jg x sol pr).2=0->VsOk x.cust.length n (jg x sol pr).1
theorem ZsF{x:Inst}{m:Cust->List Int->List Visit × Bool}{b:Int}{n:Nat}(hx:InstH x)(hn:x.days=n)(a5:n<=1000)(hs:ZdV x n m)(hv:ZiU x n m)(hb:b<=9223372036854775807):
  Pure prog 128 [.agg (zE x),I b] (.tup [.agg [L (Vn x m b n).1],I (Vn x m b n).2]):=by
 have hm:=hx.cust;unfold Vn;have b7:=Ziy x n;refine zx func128 ntmps128 results128 λS nx hd=>?_
 refine DY ?_;intro v0 v1;refine ze (zD (some [nx]) (Row.pures [0,1,2,3,4] (.alt 5 (Row.pures [6] (.alt 7 (Row.pures [8] .done) .stop)) .stop)) mixed trivial ?_);refine⟨by omega,?_⟩;intro z v3;rw[Zrs];refine Zrn (α:=Int) (nx+2) z 26 (nx+4) 3 1 x.cust.length DP (xB (obs:=[_,_,_,_])) λT ws hR hT g=>?_
 have hT0:T nx=.cells v0 25 (zE x):=by rw[hT nx DO DO];simp
 have hT1:T (nx+1)=.cells v1 30 [.sc (.slice none 0 0)]:=by rw[hT (nx+1) DO DO];simp
 have hT3:T (nx+3)=.cells v3 235 (wg x (.sc (.slice none 0 0)) b (.sc (.slice none 0 0)) (.sc (.slice none 0 0)) (.sl (nx+2) z 1 0 x.cust.length)):=by rw[hT (nx+3) DO DO];simp
 have q:∀o,o<nx->T o=S o:=λo ho=>by rw[hT o DO DO,zJ ho]
 clear hT;obtain⟨d,d0⟩:∃d,d=nx+4+x.cust.length:=⟨_,rfl⟩;rw[<-d0]at g;rw[show List.replicate x.cust.length ([]:List Int)=xq x 0 0 from (A8 λj=>by
  by_cases h:j<x.cust.length
  ·simp[xq,h]
  ·rw[Ao DT,Ao (by rw[J4];omega)])]at hR
 rw[<-qZ g];refine ze (xL [] DU DU λK Gc Gh u c f X a p=>?_);simp -implicitDefEqProofs [a,p]
 try clear a p X
 refine c _ _ _ _ _ _ _ λr=>(Spec.mono (Ziv (nx:=d) (by rw[qZ g];exact g) x _ _ _ _ _ _ _ n hn a5 (by rw[qZ g];exact hT3)
  (λk T'=>(∃w,RowsAt T' (nx+2) z 26 (nx+4) 3 1 w (xq x k 0))/\(∀o,o≠nx+2->(o<nx+4\/nx+4+x.cust.length<=o)->T' o=T o)) ⟨⟨ws,by rw[qZ g];exact hR⟩,λo _ _=>by rw[qZ g]⟩
  (λk T' h o ho=>by rw[h.2 o DO (.inr DO)];exact g o ho) (λk hk T' h=>?_)) ?_).v
 ·obtain⟨⟨w,h1⟩,h2⟩:=h;refine(ZrV k hm DO DO DO ((h2 (nx+3) DO (.inl DO)).trans hT3) h1).mono ?_;rintro _ T2 ⟨g1,g2⟩;exact⟨g1,λo o1 o2=>(g2 o o1 o2).trans (h2 o o1 o2)⟩
 rintro _ T' ⟨⟨w,b8⟩,y⟩;have a0:yd d T':=λo ho=>by rw[y o DO (.inr DO)];exact g o ho
 refine⟨T',[],(qZ a0).symm,?_⟩;clear c f;clear Gc Gh;refine wK r (D:=[]) DU λGc Gh c f X a p=>?_
 simp -implicitDefEqProofs [a,p];clear a p X;refine u _ _ _ ?_;clear u c f;clear K Gc Gh
 replace hT0:=(y nx DO (.inl DO)).trans hT0
 replace hT1:=(y (nx+1) DO (.inl DO)).trans hT1
 replace hT3:=(y (nx+3) DO (.inl DO)).trans hT3
 replace q:∀o,o<nx->T' o=S o:=λo ho=>(y o DO (.inl DO)).trans (q o ho)
 clear y hR g;generalize xq x n 0=pr0 at *
 repeat apply ze
 refine zg ?_;refine zn (jX (σ:=Nat × Store × List (List Int)) (λs=>s.1<=8/\ZF x.cust.length n s.2.2/\Z6 x m b n 8 pr0=Z6 x m b n (8-s.1) s.2.2/\(∃w,RowsAt s.2.1 (nx+2) z 26 (nx+4) 3 1 w s.2.2)/\s.2.1 nx=.cells v0 25 (zE x)/\s.2.1 (nx+1)=.cells v1 30 [.sc (.slice none 0 0)] /\
  (∃vP pP fP,s.2.1 (nx+3)=.cells v3 235 (wg x vP b pP fP (.sl (nx+2) z 1 0 x.cust.length)))/\(∀o,o<nx->s.2.1 o=S o)/\yd d s.2.1)
  (λs=>[(2,.ptr nx v0 0),(4,.ptr (nx+1) v1 0),(6,.ptr (nx+3) v3 0),(21,I s.1)]) (λs=>s.2.1) (λ_=>[]) (λs=>8-s.1) (zZ (0,T',pr0) [] ⟨by simp,b7,rfl,⟨w,b8⟩,hT0,hT1,⟨_,_,_,hT3⟩,q,a0⟩ DP rfl DP) ?_)
 clear b8 hT0 hT1 hT3 q a0 b7 T';rintro⟨k,T,pr⟩ ⟨hk,hP,l,⟨ws,hR⟩,hT0,hT1,⟨vP,pP,fP,hT3⟩,q,g⟩;simp only at hk hP l hR hT0 hT1 hT3 q g ⊢;have x0:=λobs=>(zJ (S:=T) (nx:=d) (obs:=obs) (i:=nx) DO).trans hT0
 have x3:=λobs=>(zJ (S:=T) (nx:=d) (obs:=obs) (i:=nx+3) DO).trans hT3
 have g1:¬d<=nx+1:=DO
 have x1:=λobs=>(zJ (S:=T) (nx:=d) (obs:=obs) (i:=nx+1) DO).trans hT1
 refine DY ?_;refine ze (zA rfl (λhc=>?_) (λhc=>?_))
 ·simp at hc;rw[show 8-k=(7-k)+1 from by omega]at l;have a1:=hv pr hP;have a7:=Zr5 (S:=T) hm hP hR hs;rw[show Z6 x m b n (7-k+1) pr=(if (jg x m pr).2≠0 then ([],15) else if j8 (jR x (jg x m pr).1 b n)=0 then (wP x (jg x m pr).1 b n,0) else if (jR x (jg x m pr).1 b n).any YJ=true then ([],15) else Z6 x m b n (7-k) (Wa (jR x (jg x m pr).1 b n) pr n)) from rfl]at l;generalize jg x m pr=cz at l a1 a7;obtain⟨v,e⟩:=cz;simp only at l a1 a7;refine zk (ze (zn (ze (Zlz none (Row.pures [0,1,2,3,4] (.alt 5 (Row.pures [6,7,8,9,10] .done) .stop)) mixed DU DU DU λK Gp Gc Gh u a8 c f X a a2 a3 p=>?_))));simp -implicitDefEqProofs [a,a2,a3,p,x0,x3]
  try clear a a2 a3 p X
  refine c _ _ _ _ _ _ _ (Spec.mono (by rw[qZ g];exact a7) ?_).v;rintro _ S2 ⟨rfl,c6⟩;have d1:S2=ext T d []:=c6.trans (qZ g).symm;subst d1;clear c6;refine⟨by simp[yR],?_⟩;clear a8 c f;clear Gp Gc Gh;refine Zfj λGp Gc Gh a8 c f X a a2 a3 p=>?_
  simp -implicitDefEqProofs [a,a2,a3,p]
  try clear a a2 a3 p X
  refine u _ _ _ ?_;clear u a8 c f;clear K Gp Gc Gh
  repeat apply ze
  refine zg ?_
  by_cases he:e=0
  case neg =>
   rw[if_pos he]at l;rw[l];refine zo (by simp[he]) ?_;refine ze (zi [] (zF x0 x1 g1) ?_)
   show PW _ _ _ _ _ _ _ (ext _ _ _)
   refine ZaF (o:=nx+1) 0 (by rw[zJ (by omega)];first | exact q11 _ _ _ | exact hT1) rfl ?_;rw[qq _ DO]
   try rw[Store.set_set]
   refine zj ⟨_,S,(by simp[zJ (show nx+1<d from by omega),q11];rfl),⟨by simp[zr],rfl⟩,?_⟩;exact Zbh hd DO λo ho=>by rw[q10 _ _ _ _ DO];exact q o ho
  rw[if_neg (by simpa using he)]at l;have a1:=a1 he;refine zp (by simp[he]) ?_;refine zk ?_
  repeat apply ze
  refine xL [] DU DU λK Gc Gh u c f X a p=>?_
  simp -implicitDefEqProofs [a,p]
  try clear a p X
  refine c _ _ _ _ _ _ _ λr=>(Spec.mono (Zrr (nx:=d) (n:=n) (by rw[qZ g];exact g) (by rw[qZ g];exact hT3) hx hn a5 a1 hb) ?_).v
  rintro _ _ ⟨rfl,vD,vF,rfl⟩;rw[qZ g];refine⟨_,_,rfl,?_⟩;clear c f;clear Gc Gh;refine wK r (D:=[]) DU λGc Gh c f X a p=>?_
  simp -implicitDefEqProofs [a,p];clear a p X;refine u _ _ _ ?_;clear u c f;clear K Gc Gh;have d2:=Zh8 x v b n;have d5:=ZdG x v b n;generalize jR x v b n=fs at *;generalize wP x v b n=pl at *
  by_cases hf:j8 fs=0
  ·rw[if_pos hf]at l;rw[l];refine zo (by simp[hf]) ?_
   show PW _ _ _ _ _ _ _ (ext _ _ _)
   refine ZsE 0 (id:=nx+3) rfl DO (q11 _ _ _) ?_;rw[Store.set_set];have d3:([I x.days,I x.veh,I x.cap,I x.len,L x.cust,L x.dist,L v,I b,.sl d vD 1 0 pl.length,.sl (d+1) vF 1 0 fs.length,.sl (nx+2) z 1 0 x.cust.length]:List PV).map (qO (d+0) vD (pl.flatMap Enc.enc))=wg x (L v) b (L pl) (.sl (d+1) vF 1 0 fs.length) (.sl (nx+2) z 1 0 x.cust.length):=by
    simp[qO];omega
   rw[d3];have y3:=λ(o:Ob) obs=>(zJ (S:=T.set (nx+3) o) (nx:=d) (obs:=obs) (i:=nx+3) DO).trans (q11 _ _ _)
   have y1:=λ(o:Ob) obs=>(zJ (S:=T.set (nx+3) o) (nx:=d) (obs:=obs) (i:=nx+1) DO).trans ((q10 _ _ _ _ DO).trans hT1)
   refine ze (zi [] (zF y3 y1 g1) ?_);refine zj ⟨_,S,(by simp[zJ (show nx+1<d from by omega),q11];rfl),⟨by simp[zr],rfl⟩,?_⟩;exact Zbh hd DO λo ho=>by rw[q10 _ _ _ _ DO,q10 _ _ _ _ DO];exact q o ho
  rw[if_neg hf]at l;refine zp (by simp[hf]) ?_;refine zk ?_;have y3:=λ(o:Ob) obs=>(zJ (S:=T.set (nx+3) o) (nx:=d) (obs:=obs) (i:=nx+3) DO).trans (q11 _ _ _)
  have y1:=λ(o:Ob) obs=>(zJ (S:=T.set (nx+3) o) (nx:=d) (obs:=obs) (i:=nx+1) DO).trans ((q10 _ _ _ _ DO).trans hT1)
  repeat apply ze
  refine xL [] DU DU λK Gc Gh u c f X a p=>?_
  simp -implicitDefEqProofs [a,p,y3]
  try clear a p X
  refine c _ _ _ _ _ _ _ λr=>((Zr3 (idF:=d+1) (vF:=vF) fs (by rw[zY];rfl) DO).mono ?_).v
  rintro _ _ ⟨rfl,rfl⟩;refine⟨_,_,rfl,?_⟩;clear c f;clear Gc Gh;refine wK r (D:=[]) DU λGc Gh c f X a p=>?_
  simp -implicitDefEqProofs [a,p];clear a p X;refine u _ _ _ ?_;clear u c f;clear K Gc Gh;cases a6:fs.any YJ with
  | true =>
   rw[if_pos a6]at l;rw[l];refine zo rfl (ze (zi [] (zq y1 g1) ?_))
   show PW _ _ _ _ _ _ _ (ext _ _ _)
   refine ZaF (o:=nx+1) 0 (by rw[zJ DO];first | exact q11 _ _ _ | exact(q10 _ _ _ _ DO).trans hT1) rfl ?_;rw[qq _ DO]
   try rw[Store.set_set]
   refine zj ⟨_,S,(by simp[zJ (show nx+1<d from by omega),q11];rfl),⟨by simp[zr],rfl⟩,?_⟩;exact Zbh hd DO λo ho=>by rw[q10 _ _ _ _ DO,q10 _ _ _ _ DO];exact q o ho
  | false =>
   rw[if_neg (by rw[a6];decide)]at l;refine zp rfl (zk ?_);generalize a4:ext (T.set (nx+3) (.cells v3 235 (wg x (L v) b (.sl d vD 1 0 pl.length) (.sl (d+1) vF 1 0 fs.length) (.sl (nx+2) z 1 0 x.cust.length)))) d [.cells vD 39 (pl.flatMap Enc.enc),.cells vF 47 (fs.flatMap Enc.enc)]=T2;have q3:T2 (nx+3)=.cells v3 235 (wg x (L v) b (.sl d vD 1 0 pl.length) (.sl (d+1) vF 1 0 fs.length) (.sl (nx+2) z 1 0 x.cust.length)):=by rw[<-a4,zJ DO,q11]
   have qF:T2 (d+1)=.cells vF 47 (fs.flatMap Enc.enc):=by rw[<-a4,zY];rfl
   have qo:∀o,o<d->o≠nx+3->T2 o=T o:=λo h1 h2=>by rw[<-a4,zJ h1,q10 _ _ _ _ h2]
   have qd:yd (d+2) T2:=by rw[<-a4];exact xB (obs:=[_,_])
   have qR:RowsAt T2 (nx+2) z 26 (nx+4) 3 1 ws pr:=hR.other λo ho=>by
    rw[hP.1]at ho;exact qo o DO DO
   clear a4;rw[<-qZ qd];refine xL [] DU DU λK Gc Gh u c f X a p=>?_
   simp -implicitDefEqProofs [a,p]
   try clear a p X
   refine c _ _ _ _ _ _ _ λr=>(Spec.mono (Ziv (nx:=d+2) (by rw[qZ qd];exact qd) x _ _ _ _ _ _ _ n hn a5 (by rw[qZ qd];exact q3)
    (λk T'=>RowsAt T' (nx+2) z 26 (nx+4) 3 1 ws (Wa fs pr k)/\(∀o,(o<nx+4\/nx+4+x.cust.length<=o)->T' o=T2 o)) ⟨by rw[qZ qd];exact qR,λo _=>by rw[qZ qd]⟩
    (λk T' h o ho=>by rw[h.2 o (.inr DO)];exact qd o ho) (λj hj T' h=>?_)) ?_).v
   ·obtain⟨h1,h2⟩:=h;refine(Zr0 (n:=n) j hm a5 hj DO DO ((h2 (d+1) (.inr DO)).trans qF) d2 ((h2 (nx+3) (.inl DO)).trans q3) (Vh fs hP j) h1).mono ?_;rintro _ T3 ⟨r1,r2⟩;exact⟨r1,λo o1=>(r2 o o1).trans (h2 o o1)⟩
   rintro _ T3 ⟨d4,t⟩;have c7:yd (d+2) T3:=λo ho=>by rw[t o (.inr DO)];exact qd o ho
   refine⟨T3,[],(qZ c7).symm,?_⟩;clear c f;clear Gc Gh;refine wK r (D:=[]) DU λGc Gh c f X a p=>?_
   simp -implicitDefEqProofs [a,p];clear a p X;refine u _ _ _ ?_;clear u c f;clear K Gc Gh;rw[qZ c7];refine Xy (T':=λo=>if o<d then T3 o else .dead) (λo=>by by_cases ho:o<d<;>simp[ho]) ?_;generalize a9:(λo=>if o<d then T3 o else Ob.dead)=T4;have q4:∀o,o<d->T4 o=T3 o:=λo ho=>by rw[<-a9];simp[ho]
   have c8:yd d T4:=λo ho=>by rw[<-a9];simp;omega
   clear a9;rw[<-qZ c8];refine zg ?_;refine zu (k+1,T4,Wa fs pr n) [] ⟨by dsimp only;omega,Vh fs hP n,by rw[l,show 8-(k+1)=7-k from by omega],⟨ws,d4.other λo ho=>q4 o (by rw[(Vh fs hP n).1]at ho;omega)⟩,?_,?_,⟨L v,.sl d vD 1 0 pl.length,.sl (d+1) vF 1 0 fs.length,?_⟩,λo ho=>?_,c8⟩ DT (by simp[zy k (by omega)]) rfl DP
   ·dsimp only;rw[q4 _ DO,t _ (.inl DO),qo _ DO DO];exact hT0
   ·dsimp only;rw[q4 _ DO,t _ (.inl DO),qo _ DO DO];exact hT1
   ·dsimp only;rw[q4 _ DO,t _ (.inl DO)];exact q3
   ·dsimp only;rw[q4 _ DO,t _ (.inl DO),qo _ DO DO];exact q o ho
 ·simp at hc;obtain rfl:k=8:=DO
  rw[l];refine zC (ze (zi [] (zq x1 g1) ?_))
  show PW _ _ _ _ _ _ _ (ext _ _ _)
  refine ZaF (o:=nx+1) 0 (by rw[zJ (by omega)];first | exact q11 _ _ _ | exact hT1) rfl ?_;rw[qq _ DO]
  try rw[Store.set_set]
  refine zj ⟨_,S,(by simp[zJ (show nx+1<d from by omega),q11];rfl),⟨by simp[zr,Z6],rfl⟩,?_⟩;exact Zbh hd DO λo ho=>by rw[q10 _ _ _ _ DO];exact q o ho
open Go Go.Proofs Hp
def Je:List Int->Int
 | []=>-1
 | d :: ds=>(d :: ds).getLast DP
theorem Zd5(ds:List Int)(d:Int):Je (ds++[d])=d:=by
 cases ds with
 | nil=>rfl
 | cons a ds=>show (a :: (ds++[d])).getLast _=d;grind
def ZiV(c:Cust)(cap:Int)(last d:Int):Prop:=0<=(jA c last d).1/\uo c (jA c last d).1 cap≠0
inductive FilS (c:Cust) (cap:Int) (n:Nat):List Int->Prop where
 | nil:FilS c cap n []
 | snoc {ds:List Int} {d:Int} (h:FilS c cap n ds) (h1:Je ds<d) (h2:d<n) (h3:ZiV c cap (Je ds) d):FilS c cap n (ds++[d])
theorem FilS.lo{c:Cust}{cap:Int}{n:Nat}{ds:List Int}(h:FilS c cap n ds):-1<=Je ds/\(∀d∈ds,0<=d/\d<n/\d<=Je ds):=by
 induction h with
 | nil=>exact⟨by decide,by simp⟩
 | snoc h h1 h2 h3 a =>
  grind[Zd5]
theorem FilS.inc{c:Cust}{cap:Int}{n:Nat}{ds:List Int}(h:FilS c cap n ds):ds.Pairwise (· < ·):=by
 induction h with
 | nil=>simp
 | snoc h h1 h2 h3 d =>
  rw[List.pairwise_append];refine⟨d,by simp,λa e b hb=>?_⟩;rw[AU.1 hb];have:=h.lo.2 a e;omega
theorem ZsG(c:Cust)(ds:List Int):(xv c ds).2=Je ds:=by
 rcases List.eq_nil_or_concat ds with rfl | ⟨l,d,rfl⟩
 ·rfl
 ·rw[List.concat_eq_append,Zbe,Zd5];rfl
theorem ZsH(c:Cust):∀ds:List Int,(xv c ds).1.map (·.d)=ds:=by
 have:∀(ds:List Int) (st:List Visit × Int),(ds.foldl (Ql c) st).1.map (·.d)=st.1.map (·.d)++ds:=by
  intro ds
  induction ds with
  | nil=>intro st;simp
  | cons d ds a=>intro st;rw[A5,a];simp[Ql]
 simp_all[xv]
theorem ZsI{c:Cust}(hc:CustFits c){cap a d:Int}(h:ZiV c cap a d):W (c.size-(jA c a d).1)=c.size-(jA c a d).1/\1<=c.size-(jA c a d).1/\c.size-(jA c a d).1<=2147483648/\(c.rule=1->c.size-(jA c a d).1<=cap):=by
 obtain⟨h1,h2⟩:=h;have hs:=hc.size
 grind[uo,wr]
theorem ZsJ{c:Cust}(hc:CustFits c){cap:Int}{n:Nat}(hn:n<=60){ds:List Int}(h:FilS c cap n ds):GoodV n (xv c ds).1:=by
 have a:ds.length<=64:=by
  have h1:=ZiI (m:=n) ds (h.inc.imp λh=>DG h) (λd b=>by have:=h.lo.2 d b;omega);omega
 refine⟨by simp_all[ZiP],?_,by rw[ZsH];exact h.inc.imp λh=>DG h⟩
 induction h with
 | nil=>intro s hs;cases hs
 | @snoc ds d h h1 h2 h3 e =>
  intro s hs;rw[Zbe]at hs;simp only[Ql]at hs;rcases AB.1 hs with hs | hs
  ·grind
  ·rw[AU.1 hs];rw[ZsG];obtain⟨f,g,i,-⟩:=ZsI hc h3;have:=h.lo.1
   grind
def Jf(tab:List Stp):Nat->Int->List Int
 | 0,_=>[]
 | f+1,d=>if d<0 then [] else d :: Jf tab f (tab.getD d.toNat zs).l
def Zbi(c:Cust)(n:Nat)(cap:Int)(tab:List Stp):Prop:=∀(d:Nat) (e:Stp),tab[d]?=some e->e≠zs->-1<=e.l/\e.l<d/\(0<=e.l->tab.getD e.l.toNat zs≠zs)/\0<=(jA c e.l d).1/\(d<n->uo c (jA c e.l d).1 cap≠0)
theorem ZiW(c:Cust)(n:Nat)(cap:Int)(price:List Int):∀k,Zbi c n cap (j9 c n cap price k)
 | 0=>by intro d e h;cases h
 | k+1=>by
  have f:=ZiW c n cap price k;have hl:=Vm c n cap price k;have g:=Zbf c n cap price (j9 c n cap price k) k (k+1);have a:=Zd4 c n cap price (k+1);intro d e h b;have a:=a d e h;simp only[j9]at h a ⊢;rcases a with q | ⟨-,i,j,l⟩
  ·simp_all
  refine⟨i,j,l,?_⟩
  by_cases o:d<k
  ·rw[As DO]at h;exact(f d e h b).2.2.2
  ·rw[Ak DO,hl]at h;obtain rfl:d=k:=DW
   rw[Bz]at h;simp only[Bd,Option.some.injEq]at h;subst h;rcases g with q | ⟨-,-,-,m⟩
   ·simp_all
   ·have:=m.2;omega
theorem Zd6{c:Cust}{n:Nat}{cap:Int}{a:List Stp}(h:Zbi c n cap a):∀(f:Nat) (d:Int),-1<=d->d<f->d<n->(0<=d->a.getD d.toNat zs≠zs)->FilS c cap n (Jf a f d).reverse/\Je (Jf a f d).reverse=d
 | 0,d,h1,h2,_,_=>by
  obtain rfl:d=-1:=DO
  exact⟨.nil,rfl⟩
 | f+1,d,h1,h2,h3,b=>by
  unfold Jf
  by_cases k:d<0
  ·rw[if_pos k];obtain rfl:d=-1:=DO
   exact⟨.nil,rfl⟩
  ·rw[if_neg k,Dr];have b:=b DO;obtain⟨i,rfl⟩:=Ay (show 0<=d by omega);rw[AN]at b ⊢;have m:∃e,a[i]?=some e/\a.getD i zs=e:=by
    cases r:a[i]? with
    | none=>simp_all
    | some e=>simp_all
   obtain⟨e,g,j⟩:=m;rw[j]at b ⊢;obtain⟨g1,s,g3,g4,o⟩:=h i e g b;obtain⟨p,q⟩:=Zd6 h f e.l g1 DO DO g3;exact⟨.snoc p DO h3 (by rw[q];exact⟨g4,o (by omega)⟩),Zd5 _ _⟩
theorem ZsK(s:Nat)(d i:Nat)(a:d<64):yL (jo s d) i=1<->yL s i=1\/i=d:=by
 have h:((jo s d).testBit i)=(s.testBit i || decide (d=i)):=by
  unfold jo;rw[if_pos DO,AN,Dk,CC]
 grind[yL]
theorem ZiX{c:Cust}{n:Nat}{cap:Int}{a:List Stp}(h:Zbi c n cap a)(hn:n<=60):∀(f s:Nat) (d:Int),-1<=d->d<n->(0<=d->a.getD d.toNat zs≠zs)->∀i:Nat,yL (uM a f s d) i=1<->yL s i=1\/(i:Int)∈Jf a f d
 | 0,s,d,_,_,_=>λi=>by simp[uM,Jf]
 | f+1,s,d,h1,h3,b=>λi=>by
  unfold uM Jf
  by_cases m:d<0
  ·simp_all
  ·rw[if_neg m,if_neg m];have b:=b DO;obtain⟨k,rfl⟩:=Ay (show 0<=d by omega);rw[AN]at b ⊢;have o:∃e,a[k]?=some e/\a.getD k zs=e:=by
    cases p:a[k]? with
    | none=>simp_all
    | some e=>simp_all
   obtain⟨e,g,j⟩:=o;rw[j]at b ⊢;obtain⟨g1,q,g3,-⟩:=h k e g b;rw[ZiX h hn f _ e.l g1 DO g3 i,ZsK s k i DO,Au,Int.natCast_inj,or_assoc]
theorem ZsL:∀{a b:List Int},a.Pairwise (· < ·)->b.Pairwise (· < ·)->(∀z,z∈a<->z∈b)->a=b:=by
 intro a b c hb h;have d:a.Perm b:=(Dg (c.imp λh=>DG h) (hb.imp λh=>DG h)).2 h;exact Zg0 d (c.imp λh=>Int.le_of_lt h) (hb.imp λh=>Int.le_of_lt h)
theorem ZsM(s a k:Nat):(yH s a k).Pairwise (· < ·):=by
 unfold yH;rw[CR];have h:(List.range k).Pairwise (· < ·):=List.pairwise_lt_range;exact(h.sublist List.filter_sublist).imp λh=>by omega
theorem ZsN{c:Cust}{n:Nat}{cap:Int}{a:List Stp}(h:Zbi c n cap a)(hn:n<=60){d:Int}(h1:-1<=d)(h3:d<n)(b:0<=d->a.getD d.toNat zs≠zs):yH (uM a 65 0 d) 0 64=(Jf a 65 d).reverse:=by
 obtain⟨hf,-⟩:=Zd6 h 65 d h1 DO h3 b;refine ZsL (ZsM _ _ _) hf.inc λz=>?_
 have hb:=ZiX h hn 65 0 d h1 h3 b;have h0:∀i,¬yL 0 i=1:=by intro i;simp[yL]
 rw[List.mem_reverse];constructor
 ·grind[Vi]
 ·intro e;have f:=hf.lo.2 z (List.mem_reverse.2 e)
  grind[Int.eq_ofNat_of_zero_le,yH]
theorem ZsO{c:Cust}{n:Nat}(hn:n<=60){cap:Int}{price:List Int}(h:(Qm c n cap price).2=true):∃ds,FilS c cap n ds/\0<=(jA c (Je ds) n).1/\(Qm c n cap price).1=(xv c ds).1:=by
 have b:=ZiW c n cap price (n+1);have hl:=Vm c n cap price (n+1);unfold Qm at h ⊢;generalize j9 c n cap price (n+1)=tab at *;split at h
 ·cases h
 rename_i a;rw[if_neg a];have g:∃e,tab[n]?=some e/\tab.getD n zs=e:=⟨_,Ac DO,by rw[Aa,Ac DO];rfl⟩;obtain⟨e,d,f⟩:=g;rw[f]at a ⊢;obtain⟨g1,i,g3,g4,-⟩:=b n e d a
 grind[Zd6,ZsN]
def qV(n:Nat)(cap:Int)(c:Cust)(price:List Int):List Visit × Bool :=
 if c.kind=1 then Z4 c cap price else if c.rule=1 then Qm c n cap price else J5 c n cap price
theorem Zd7{S:Store}{f:PV}{price:List Int}(c:Cust)(n:Nat)(cap:Int)(b:RowOf S f price)(j:∀z∈price,zT z)(h:price.length<=1000)(hm:CustMade c n)(i:c.pats.length<=1000)(hn:n<=60):
  Spec prog 207 [.agg (yi c),I n,I cap,f] S (λq S'=>q=.tup [L (qV n cap c price).1,B (qV n cap c price).2]/\S'=S):=by
 unfold qV
 by_cases d:c.kind=1
 ·rw[if_pos d];exact Zso c n cap d b j h i hm.pats
 rw[if_neg d]
 by_cases g:c.rule=1
 ·rw[if_pos g];have hs:=λS (b:RowOf S f price)=>ZsD c n cap b hm.fits hn
  generalize Qm c n cap price=r at *;obtain⟨v,ok⟩:=r;simp only at hs ⊢;refine yt func207 ntmps207 results207 λnx e=>?_
  refine DY ?_;intro v0;refine ze (zn (ze (zi [] d ?_)));refine zp DP ?_;refine ze (zi [] g ?_);refine zo DP ?_;refine DY ?_;refine λa=>((hs _ (b.ext e _)).mono ?_).v
  rintro _ _ ⟨rfl,rfl⟩;refine⟨_,_,rfl,zR a ?_⟩;exact zj ⟨_,S,DQ,⟨by simp,rfl⟩,yb e⟩
 ·rw[if_neg g];have hs:=λS (b:RowOf S f price)=>Zsu c n cap b hm.fits DO
  generalize J5 c n cap price=r at *;obtain⟨v,ok⟩:=r;simp only at hs ⊢;refine yt func207 ntmps207 results207 λnx e=>?_
  refine DY ?_;intro v0;refine ze (zn (ze (zi [] d ?_)));refine zp DP ?_;refine ze (zi [] g ?_);refine zp DP ?_;refine zk (DY ?_);refine λa=>((hs _ (b.ext e _)).mono ?_).v
  rintro _ _ ⟨rfl,rfl⟩;refine⟨_,_,rfl,zR a ?_⟩;exact zj ⟨_,S,DQ,⟨by simp,rfl⟩,yb e⟩
theorem ZsP{c:Cust}{n:Nat}(hm:CustMade c n)(a:c.kind=1){p:Nat}(b:p∈c.pats):GoodV n (Ja c p):=by
 obtain⟨h1,h2⟩:=hm.per a;refine⟨by simp only[Ja,List.length_map];exact Q5 _ _ _,λs hs=>?_,by simp only[Ja,BX];exact(by simpa[Function.comp_def] using ZrS p 0 64)⟩
 grind[Ja,yH]
theorem ZsQ{c:Cust}{cap:Int}{price:List Int}(h:(Z4 c cap price).2=true):∃p∈c.pats,(p=0\/c.demand<=cap)/\(Z4 c cap price).1=Ja c p:=by
 unfold Z4 at h ⊢;split at h
 ·cases h
 rename_i hn;rw[if_neg hn];have hb:=ZdY price (Zj c cap) (Zj c cap).length
 grind[Zj,List.getElem_mem]
theorem Zbj{c:Cust}{n:Nat}(hm:CustMade c n)(hn:n<=60)(cap:Int)(price:List Int)(h:(qV n cap c price).2=true):GoodV n (qV n cap c price).1:=by
 unfold qV at h ⊢
 by_cases b:c.kind=1
 ·grind[ZsQ,ZsP]
 rw[if_neg b]at h ⊢
 by_cases a:c.rule=1
 ·rw[if_pos a]at h ⊢;obtain⟨ds,h1,-,e⟩:=ZsO hn h;rw[e];exact ZsJ hm.fits hn h1
 ·rw[if_neg a]at h ⊢;have d:GoodV n (qm 0 (Z5 c n cap).1):=Ziu (We hm.fits (Zd1 hm.fits cap) n).2 (Cw (Wc _ _ _)) DO;have f:GoodV n (qm 0 (YK c n cap).1):=Ziu (We hm.fits (Zd2 hm.fits cap) n).2 (Cw (Wc _ _ _)) DO
  grind[J5]
structure InstA (x:Inst) (n:Nat):Prop where
 h:InstH x
 days:x.days=n
 n60:n<=60
 made:∀c∈x.cust,CustMade c n
 pats:∀c∈x.cust,c.pats.length<=1000
theorem ZsR{x:Inst}{n:Nat}(h:InstA x n):ZdV x n (qV n x.cap):=by
 intro c hc l hl hi S b a;rw[h.days];have:=h.n60;exact Zd7 c n x.cap a hi DO (h.made c hc) (h.pats c hc) h.n60
theorem ZiY{x:Inst}{a:Cust->List Int->List Visit × Bool}{pr:List (List Int)}(h:(jg x a pr).2=0):(jg x a pr).1.length=x.cust.length/\∀i c,x.cust[i]?=some c->(jg x a pr).1[i]?=some (a c (pr.getD i [])).1/\(a c (pr.getD i [])).2=true:=by
 unfold jg at h ⊢;split at h
 ·rename_i b;rw[if_pos b];refine⟨by simp[ZG],λi c hc=>?_⟩;have hi:=(Ad.1 hc).1;have d:x.cust.getD i default=c:=by rw[Aa,hc];rfl
  refine⟨by simp only[ZG,BX,Aj,Bl hi,A4,Function.comp_apply,d],?_⟩;have:=Aw.1 b _ (Ziz x a pr hi);rw[d]at this;exact this
 omega
theorem ZiZ{x:Inst}{n:Nat}(h:InstA x n):ZiU x n (qV n x.cap):=by
 intro pr d h0;obtain⟨h1,h2⟩:=ZiY h0;have key:∀l∈(jg x (qV n x.cap) pr).1,GoodV n l:=by
  intro l hl;obtain⟨i,hi,rfl⟩:=List.getElem_of_mem hl;have a:i<x.cust.length:=DO
  obtain⟨b,e2⟩:=h2 i _ (Ac a);rw[Ac hi]at b;rw[Option.some.inj b];exact Zbj (h.made _ (Bc a)) h.n60 _ _ e2
 exact⟨h1,λl hl w c=>(key l hl).ok w c,λl hl=>(key l hl).nd,λl hl=>by have:=(key l hl).len;omega⟩
def xx(x:Inst)(b:Int):zH × Int:=Vn x (qV x.days.toNat x.cap) b x.days.toNat
theorem ZsS{x:Inst}{n:Nat}(h:InstA x n){b:Int}(hb:b<=9223372036854775807):Pure prog 128 [.agg (zE x),I b] (.tup [.agg [L (xx x b).1],I (xx x b).2]):=by
 have a:x.days.toNat=n:=by rw[h.days];rfl
 unfold xx;rw[a];exact ZsF h.h h.days (by have:=h.n60;omega) (ZsR h) (ZiZ h) hb
theorem ZsT(x:Inst)(c l:Int):InstA (Zsf x 6 c l) (yO x).days.toNat:=by
 have a:=Vj x;refine⟨⟨AF (ZcX x) DV,ZhI x,ZhB x,by show (0:Int)<=6;decide⟩,?_,by omega,λc hc=>?_,λc hc=>?_⟩
 ·show (yO x).days=_;omega
 ·obtain⟨c0,rfl⟩:=ZdW x hc
  simp_all[ZiH]
 ·obtain⟨c0,rfl⟩:=ZdW x hc
  grind[j5,ZS]
theorem ZsU(x:Inst):InstA (yO x) (yO x).days.toNat:=by
 have a:=Vj x;have h:=ZsT x (yO x).cap (yO x).len;exact⟨⟨AF (ZcX x) DV,ZhI x,ZhB x,Zql x⟩,by omega,h.n60,h.made,h.pats⟩
open Go Go.Proofs Hp
def J7(c:Int)(p:zH):zH:=p.map (xQ c)
theorem ZsV(p:zH)(c:Int)(x:p.length<=1000)(e:∀d∈p,d.length<=1048576)(m:∀d∈p,∀t∈d,t.length<=1048576):Pure prog 287 [.agg [L p],I c] (.agg [L (J7 c p)]):=by
 unfold J7;refine zx func287 ntmps287 results287 λS nx n=>?_
 refine DY ?_;intro v0 v1;refine DY ?_;intro j;refine jd 2 0 39 1 rfl rfl λv3=>?_
 repeat apply ze
 refine zg ?_;refine zn (zK (λs:Nat × zH × Nat=>s.1<=p.length/\s.2.1=(p.take s.1).map (xQ c)) (λ(k,q,w)=>[(1,I c),(4,.ptr (nx+1) v1 0),(5,.ptr (nx+2) j 0),(11,L p),(12,I p.length),(13,I k)]) (λ(k,q,w)=>[.cells v0 30 [L p],.cells v1 30 [yD],.cells j 30 [.sl (nx+3) w 1 0 q.length],.cells w 39 (q.flatMap Enc.enc)]) (λs=>p.length-s.1) (0,[],v3) [] DP DP DP ?_);rintro⟨k,q,w⟩ ⟨o,a⟩;simp only at o a ⊢;have r:q.length=k:=by rw[a];simp;omega
 refine DY ?_;refine ze (zA rfl (λhc=>?_) (λhc=>?_))
 ·simp at hc;obtain⟨d,tl,u,y,a3,v⟩:=zN rfl p k hc;have b:=Ab u;have l:=Zpt d c (e d b) (m d b);generalize f:xQ c d=rd at l;have g:1<=p.length-k:=DO
  have h:(q.flatMap Enc.enc:List PV).length=q.length:=xD q;have i:(q.flatMap Enc.enc:List PV).take q.length=q.flatMap Enc.enc:=Af DO;refine zk (ze (zn (ze (zi [] (zF hc v g) ?_))));intro v4;refine DY ?_;refine zv l ?_;intro v5;refine zi [] (zq h i) ?_;refine⟨by omega,?_⟩;refine zg ?_;exact zu (k+1,q++[rd],w+1) [_,_] ⟨hc,by rw[a3,List.map_append,a,<-f];rfl⟩ DT (by simp[zy k (by omega)]) rfl (by simp;exact⟨rfl,rfl⟩)
 ·simp at hc;obtain rfl:k=p.length:=DO
  rw[Ai]at a;refine zC (yh 3 rfl ?_);refine DY ?_;exact zj (zm n DQ (by simp[zr,a]))
open Go Go.Proofs Hp
def up(x:Inst)(c:Nat):Stop:=⟨c,if (x.cust.getD c default).kind=1 then (x.cust.getD c default).demand else 1⟩
def vM(x:Inst)(s:Stop)(d:zt):Int:=if (yZ x d s).2=true then max 0 (W (W (yx x (yZ x d s).1)-W (yx x d))) else 4294967296
theorem Zi0(x:Inst)(c:Int):Pure prog 286 [.agg (zE x),I c] (B (decide (0<=c) && decide (c<x.cust.length))):=by
 refine zx func286 ntmps286 results286 λS nx a=>?_
 refine DY ?_;intro v0
 by_cases h:0<=c
 ·by_cases h2:c<x.cust.length
  ·refine ze (zi [(2,7)] (zq h h2) ?_);exact zj (zm a rfl (by simp[zr,h,h2]))
  ·refine ze (zi [(2,7)] (zq h h2) ?_);exact zj (zm a rfl (by simp[zr,h,h2]))
 ·refine ze (zi [(2,7)] (zq h zB) ?_);exact zj (zm a rfl (by simp[zr,h]))
open Go Go.Proofs Hp
theorem Jg{x:Inst}(hx:x.cust.length<=900){d:zt}(h:yE x d=0):d.flatten.length<=x.cust.length/\d.length<=x.cust.length/\RgOk x d [⟨0,0⟩]:=by
 obtain⟨h1,h2,h3⟩:=(ud x d).1 h;have b:=Za2 h;have hl:=ZiI (m:=x.cust.length) _ h2 (λc hc=>by
  obtain⟨s,hs,rfl⟩:=Al.1 hc;have:=b s hs;simp[jM]at this;omega)
 rw[List.length_map]at hl;have hn:=ZgX h;have e:=ZiF d hn;refine⟨hl,by omega,⟨by omega,λt a=>?_,λt a s hs=>?_⟩,h,by rw[Ba];omega⟩
 ·have:=Zbd d t a;omega
 ·have:=b s (Zsg a hs);simp[jM]at this;unfold qv;omega
theorem Zi1{x:Inst}(hx:x.cust.length<=900)(b:qQ x)(hv:0<=x.veh){d:zt}(h:yE x d=0):SOk x d.flatten/\SG x d.flatten d:=by
 obtain⟨h1,h2,h3⟩:=(ud x d).1 h;obtain⟨g1,e,g3⟩:=Jg hx h;refine⟨⟨by omega,b,hv,by omega,λs hs=>?_,h2⟩,⟨h1,.refl _⟩⟩;obtain⟨t,c,a⟩:=Bt.1 hs;exact g3.ok.s t c s a
theorem ZsW(c:Int)(d:zt):(xQ c d).flatten=d.flatten.filter λs=>decide (s.c≠c):=by
 unfold xQ;have:∀l:zt,(l.filter λt=>!t.isEmpty).flatten=l.flatten:=by
  intro l
  induction l with
  | nil=>rfl
  | cons t l a=>cases t<;>simp[Cf,a]
 rw[this]
 induction d with
 | nil=>rfl
 | cons t d a=>simp only[AD,BG,B6,a];rfl
theorem Zi2{size rate:Int}(b:0<=rate):∀(q:List Int) (there:Int) (l:List Int),xG size rate there q=some l->l.length=q.length/\∀z∈l,0<=z/\z<=size
 | [],_,l,h=>by simp[xG]at h;subst h;simp
 | q :: c,there,l,h=>by
  unfold xG at h;split at h
  ·cases h
  ·rename_i hc;obtain⟨m,hm,rfl⟩:=Ap.1 h;obtain⟨h1,h2⟩:=Zi2 b c _ m hm;refine⟨by simp[h1],λz a=>?_⟩;rcases Au.1 a with rfl | a
   ·omega
   ·exact h2 z a
theorem Zi3{M:Int}:∀l:List Int,(∀z∈l,0<=z/\z<=M)->0<=l.sum/\l.sum<=M*l.length
 | [],_=>by simp
 | a :: l,h=>by
  have h1:=h a DP;have h2:=Zi3 l λz b=>h z (by simp[b])
  simp only[BR,Ae];have e:M*((l.length:Int)+1)=M*l.length+M:=by rw[Int.mul_add];omega
  push_cast;omega
structure CustSm (c:Cust):Prop where
 rate:0<=c.rate
 size:0<=c.size/\c.size<=2147483648
 hold:0<=c.hold/\c.hold<=1024
theorem ZsX{c:Cust}(h:CustSm c)(q:List Int)(f:q.length<=64):0<=ZB c (jF c q).1/\ZB c (jF c q).1<=140737488355328:=by
 have key:∀l:List Int,l.length<=64->(∀z∈l,0<=z/\z<=c.size)->0<=ZB c l/\ZB c l<=140737488355328:=by
  intro l hl b;have h1:=Zi3 (M:=2147483648) l λz a=>by have:=b z a;have:=h.size;omega
  have h2:(2147483648:Int)*l.length<=137438953472:=DO
  have d:W l.sum=l.sum:=wr _ DO DO;unfold ZB;rw[d];have h3:=h.hold;have g:0<=c.hold*l.sum:=CW h3.1 h1.1;have i:c.hold*l.sum<=1024*137438953472:=CX h3.2 DO h1.1 DO;have w2:W (c.hold*l.sum)=c.hold*l.sum:=wr _ DO DO;rw[w2];omega
 unfold jF;split
 ·exact key [] DP DP
 ·cases e:xG c.size c.rate c.start q with
  | none=>exact key [] DP DP
  | some l =>
   obtain⟨h1,h2⟩:=Zi2 h.rate q _ l e;exact key l DO h2
theorem Zd8{x:Inst}(h:∀c∈x.cust,CustSm c)(p:zH):∀k:Nat,0<=xu x p k/\xu x p k<=140737488355328*(k:Int)
 | 0=>by simp[xu]
 | k+1=>by
  have h1:=Zd8 h p k;rw[ZiA];have h2:0<=Qi x p k/\Qi x p k<=140737488355328:=by
   unfold Qi;split
   ·omega
   ·rename_i c hc;split
    ·exact ZsX (h c (Ab hc)) _ (by rw[ZaY];omega)
    ·omega
  push_cast;omega
theorem Zd9{x:Inst}(a:qQ x):∀p:zH,(∀d∈p,d.flatten.length<=1000/\d.length<=1000)->0<=(p.map (yx x)).sum/\(p.map (yx x)).sum<=4294967296000*(p.length:Int)
 | [],_=>by simp
 | d :: p,h=>by
  have h1:=h d DP;have h2:=Zd9 a p λe b=>h e (by simp[b])
  have h3:=Zc5 a d;simp only[AD,BR,Ae];push_cast;omega
theorem ZsY{x:Inst}(a:qQ x)(hc:∀c∈x.cust,CustSm c)(hx:x.cust.length<=900){p:zH}(hl:p.length<=1000)(h:∀d∈p,yE x d=0):xI x p=xu x p x.cust.length+(p.map (yx x)).sum:=by
 have h1:=Zd8 hc p x.cust.length;have h2:=Zd9 a p λd b=>by have:=Jg hx (h d b);omega
 exact wr _ DO DO
open Go Go.Proofs Hp
theorem Zi4{x:Inst}{a:Cust->List Int->List Visit × Bool}{b:Int}{n:Nat}:∀(k:Nat) (pr:List (List Int)),ZF x.cust.length n pr->(Z6 x a b n k pr).2=0->∃c,ZF x.cust.length n c/\(jg x a c).2=0/\j8 (jR x (jg x a c).1 b n)=0/\(Z6 x a b n k pr).1=wP x (jg x a c).1 b n
 | 0,_,_,h=>by simp[Z6]at h
 | k+1,pr,d,h=>by
  unfold Z6 at h ⊢
  by_cases h1:(jg x a pr).2≠0
  ·rw[if_pos h1]at h;cases h
  rw[if_neg h1]at h ⊢
  by_cases h2:j8 (jR x (jg x a pr).1 b n)=0
  ·rw[if_pos h2]at h ⊢;exact⟨pr,d,by simpa using h1,h2,rfl⟩
  rw[if_neg h2]at h ⊢
  by_cases h3:(jR x (jg x a pr).1 b n).any YJ=true
  ·rw[if_pos h3]at h;cases h
  rw[if_neg h3]at h ⊢;exact Zi4 k _ (Vh _ d n) h
open Go Go.Proofs Hp
theorem ZsZ{x:Inst}{n:Nat}(h:InstA x n){b:Int}(h0:(xx x b).2=0):∃v pr,VsOk x.cust.length n v/\ZF x.cust.length n pr/\(xx x b).1=wP x v b n/\(∀d:Nat,d<n->(Zf x b (xT v d x.cust.length)).2=0)/\∀i c,x.cust[i]?=some c->v[i]?=some (qV n x.cap c (pr.getD i [])).1/\(qV n x.cap c (pr.getD i [])).2=true:=by
 have g:x.days.toNat=n:=by rw[h.days];rfl
 unfold xx Vn at h0 ⊢;rw[g]at h0 ⊢;obtain⟨pr,e,f,e2,j⟩:=Zi4 8 _ (Ziy x n) h0;have hv:=ZiZ h pr e f;obtain⟨c1,c2⟩:=ZiY f;refine⟨_,pr,hv,e,j,λd a=>?_,c2⟩;refine(Zq9 _).1 e2 _ (Al.2 ⟨_,Al.2 ⟨d,AK.2 a,rfl⟩,rfl⟩)
open Go Go.Proofs Hp
theorem Zs0(c:Cust)(d:Int)(h1:1<=d)(i:d<=7):j7 (j5 c d) d=true:=by
 have hm:=ZiH c d h1 i
 by_cases g:c.kind.tmod 2=0
 ·have e:j5 c d=⟨2,0,[],yM c.rate 0 9,yM c.size 1 30,yM c.start 0 (yM c.size 1 30),yM c.rule 1 2,yM c.hold 0 4⟩:=by unfold j5;rw[if_pos g]
  have a:=x7 c.rate 0 9 DO;have b:=x7 c.size 1 30 DO;have s:=x7 c.start 0 (yM c.size 1 30) DO;have r:=x7 c.rule 1 2 DO;have h:=x7 c.hold 0 4 DO;rw[e];simp[j7,zX,ui,uJ];omega
 ·have e:j5 c d=⟨1,yM c.demand 1 15,ZS c.pats d,0,0,0,0,0⟩:=by unfold j5;rw[if_neg g]
  have a:=x7 c.demand 1 15 DO;rw[e]at hm ⊢;obtain⟨j,-⟩:=hm.per rfl;have hl:1<=(ZS c.pats d).length/\(ZS c.pats d).length<=64:=by
   unfold ZS;split
   ·simp
   ·rename_i hn;have:0<c.pats.length:=Bs.2 hn;simp only[List.length_map,Ax];omega
  simp only[j7,if_true,Ar,zX,decide_eq_true_eq,we,uh,Aw];refine⟨⟨by omega,λp f=>?_,by omega⟩,by simp⟩;unfold w9;have:yH p d.toNat 64=[]:=by
   rw[Zdz,CN];intro z k;have:=j p f z k;simp;omega
  rw[this];decide
theorem Zi5(n:Nat)(row:Nat->List Int)(h:∀a,a<n->(row a).length=n/\(row a).getD a 0=0/\∀z∈row a,0<=z/\z<=2147483648):∀k a:Nat,a+k<=n->vf n a ((List.range' a k).map row)=true
 | 0,_,_=>rfl
 | k+1,a,b=>by
  obtain⟨h1,h2,h3⟩:=h a DO;rw[List.range'_succ,AD];simp only[vf,Zi5 n row h k (a+1) DO,CE,h1,h2,decide_true,CJ,Aw,zX,decide_eq_true_eq];exact h3
theorem Zs1(x:Inst):yS (yO x)=true:=by
 have h1:=Vj x;have h2:=Zsb x;have h3:=Zsc x;have g:=Zsd x;have h:=Zse x;unfold yS;simp only[Ar,Aw,decide_eq_true_eq,zX];refine⟨⟨⟨⟨⟨⟨by omega,by omega⟩,by omega⟩,by omega⟩,by omega⟩,λc hc=>?_⟩,?_⟩
 ·obtain⟨c0,rfl⟩:=ZdW x hc;exact Zs0 c0 _ h1.1 h1.2
 ·have e:(yO x).cust.length=(x.cust.take 6).length:=by simp[yO]
  rw[e];unfold Zi;have e2:(yO x).dist=(List.range' 0 ((x.cust.take 6).length+1)).map λa=>uz x (x.cust.take 6).length a:=by rw[<-List.range_eq_range'];rfl
  rw[e2,Zi5 _ _ (λa f=>?_) _ _ DO]
  ·simp
  ·refine⟨by simp[uz],?_,λz d=>?_⟩
   ·unfold uz;rw[Aa,Aj,Bl f];simp
   ·unfold uz at d;obtain⟨b,-,rfl⟩:=Al.1 d;split
    ·have:=x7 (arc x a b) 0 60 DO;omega
    ·omega
open Go Go.Proofs Hp
theorem Zs2(s:Nat)(d:Int)(i:Nat)(h:0<=d/\d<64):(jo s d).testBit i=(s.testBit i || decide (d=(i:Int))):=by
 obtain⟨k,rfl⟩:=Ay h.1;unfold jo;rw[if_pos DO,AN,Dk,CC];congr 1;rw[decide_eq_decide];omega
def Zs3(c:Cust):Prop:=(c.kind=1/\c.rule=0)\/(c.kind=2/\(c.rule=1\/c.rule=2))
open Go Go.Proofs
abbrev Wd:=List UInt8
abbrev Ln:=List Wd
abbrev jG:Wd:=[116,114,97,110,116,101,114]
abbrev qE:Wd:=[100,97,121,115]
abbrev qG:Wd:=[118,101,104,105,99,108,101,115]
abbrev qH:Wd:=[99,97,112,97,99,105,116,121]
abbrev qI:Wd:=[108,101,110,103,116,104]
abbrev qJ:Wd:=[99,117,115,116,111,109,101,114,115]
abbrev qA:Wd:=[118,105,115,105,116]
abbrev jS:Wd:=[116,97,110,107]
abbrev wE:Wd:=[102,105,108,108]
abbrev vN:Wd:=[97,110,121]
abbrev qK:Wd:=[100,105,115,116,97,110,99,101,115]
def yo(w:Wd):Int:=((y8 w).getD 0:Nat)
def yI(l:Ln):Option (List Int):=if l.all (λw=>(y8 w).isSome)=true then some (l.map yo) else none
theorem Zi6{l:Ln}{k:Nat}{w:Wd}(h:l[k]?=some w)(a:y8 w=none):yI l=none:=by grind[yI]
theorem Wf{l:Ln}(h:∀w∈l,(y8 w).isSome=true):yI l=some (l.map yo):=by simp_all[yI]
theorem Zea{l:Ln}{z:List Int}(h:yI l=some z):z.length=l.length:=by grind[yI]
def xJ(l:Ln)(n:Nat):Ln:=(List.range n).map λi=>l.getD (2*i+1) []
def vg(l names:Ln):Bool:=decide (l.length=2*names.length) && (List.range names.length).all λi=>decide (l.getD (2*i) []=names.getD i [])
def qn(l names:Ln):Option (List Int):=if vg l names=true then yI (xJ l names.length) else none
def jT(w:Wd):Nat->Nat
 | 0=>0
 | k+1=>if w.getD k 0=49 then jo (jT w k) k else jT w k
def ju(w:Wd):Bool:=decide (w≠[]) && w.all λc=>decide (c.toNat=48\/c.toNat=49)
def qu(w:Wd):Nat:=if 64<w.length then 0 else jT w w.length
def Zk(d:Wd)(ps:Ln):Cust:=⟨1,yo d,ps.map qu,0,0,0,0,0⟩
def Z7(n:Int)(l:Ln):Option (Cust × Bool):=match l with
 | []=>none
 | d :: ps=>if (y8 d).isSome=true/\ps.all ju=true then some (Zk d ps,ps.all λw=>decide ((w.length:Int)=n)) else none
theorem Vo(n:Int)(d:Wd)(ps:Ln):Z7 n (d :: ps)=if (y8 d).isSome=true/\ps.all ju=true then some (Zk d ps,ps.all λw=>decide ((w.length:Int)=n)) else none:=rfl
def YM(w:Wd):Int:=if w=wE then 1 else 2
def uN(l:Ln):Option Cust:=match l with
 | [a,b,c,r,h]=>if (yI [a,b,c,h]).isSome=true/\(r=wE\/r=vN) then some ⟨2,0,[],yo a,yo b,yo c,YM r,yo h⟩ else none
 | _=>none
theorem Zbk(a b c r h:Wd):uN [a,b,c,r,h]=if (yI [a,b,c,h]).isSome=true/\(r=wE\/r=vN) then some ⟨2,0,[],yo a,yo b,yo c,YM r,yo h⟩ else none:=rfl
def qp(n:Int)(l:Ln):Option (Cust × Bool):=match l with
 | []=>none
 | w :: l=>if w=qA then Z7 n l else if w=jS then (uN l).map (·,true) else none
instance:Inhabited (Cust × Bool):=⟨(default,false)⟩
def xe(n:Int)(l:Ln):Cust × Bool:=(qp n l).getD default
def jU(m:Nat)(l:Ln):Bool:=(yI l).isSome && decide (l.length=m)
def zP(ls:List Ln)(k:Nat):Ln:=ls.getD k []
def yB(ls:List Ln)(k n:Nat):List Ln:=(List.range n).map λi=>zP ls (k+i)
def vO(ls:List Ln):Option (Inst × Bool) :=
 if zP ls 0=[jG,[49]] then
  match qn (zP ls 1) [qE,qG,qH,qI] with
  | some [d,v,c,l] =>
   match qn (zP ls 2) [qJ] with
   | some [m] =>
    if (yB ls 3 m.toNat).all (λl=>(qp d l).isSome)=true/\zP ls (3+m.toNat)=[qK]/\(yB ls (4+m.toNat) (m.toNat+1)).all (jU (m.toNat+1))=true/\ls.length=5+2*m.toNat then
     some (⟨d,v,c,l,(yB ls 3 m.toNat).map λl=>(xe d l).1,(yB ls (4+m.toNat) (m.toNat+1)).map λl=>l.map yo⟩,(yB ls 3 m.toNat).all λl=>(xe d l).2)
    else none
   | _=>none
  | _=>none
 else none
def zI:Inst:=⟨0,0,0,0,[],[]⟩
def yF(t:List UInt8):Inst × Int:=match jf t with
 | none=>(zI,2)
 | some ls=>match vO ls with
  | none=>(zI,2)
  | some (x,ok)=>if ok=true/\yS x=true then (x,0) else (zI,3)
def zG(z:Int):Wd:=zM z.toNat
theorem Z8{z:Int}(h0:0<=z)(h1:z<100000000000000000):(y8 (zG z)).isSome=true/\yo (zG z)=z:=by grind[Zim,yo,zG]
def qW(n:Nat)(p:Nat):Wd:=(List.range n).map λi=>UInt8.ofNat (48+yL p i)
def qL(n:Nat)(c:Cust):Ln:=if c.kind=1 then qA :: zG c.demand :: c.pats.map (qW n) else [jS,zG c.rate,zG c.size,zG c.start,if c.rule=2 then vN else wE,zG c.hold]
def xg(x:Inst):List Ln :=
 [jG,[49]] :: [qE,zG x.days,qG,zG x.veh,qH,zG x.cap,qI,zG x.len] :: [qJ,zM x.cust.length] :: (x.cust.map (qL x.days.toNat)++[qK] :: x.dist.map (λr:List Int=>r.map zG))
def Z9(z:Int):Prop:=0<=z/\z<100000000000000000
structure CustT (n:Nat) (c:Cust):Prop where
 kind:(c.kind=1/\Z9 c.demand/\(∀p∈c.pats,p<2 ^ n)/\c.rate=0/\c.size=0/\c.start=0/\c.rule=0/\c.hold=0)\/(c.kind=2/\c.demand=0/\c.pats=[]/\Z9 c.rate/\Z9 c.size/\Z9 c.start/\(c.rule=1\/c.rule=2)/\Z9 c.hold)
structure InstT (x:Inst) (n:Nat):Prop where
 days:x.days=n
 n1:1<=n
 n64:n<=64
 nums:Z9 x.veh/\Z9 x.cap/\Z9 x.len
 ncust:x.cust.length<100000000000000000
 cust:∀c∈x.cust,CustT n c
 rows:x.dist.length=x.cust.length+1
 row:∀r∈x.dist,r.length=x.cust.length+1/\∀z∈r,Z9 z
theorem Vp(w:Wd)(i:Nat):∀k,(jT w k).testBit i=(decide (i<k/\i<64) && decide (w.getD i 0=49))
 | 0=>by simp[jT]
 | k+1=>by
  unfold jT;split
  ·rename_i h
   by_cases a:k<64
   ·rw[Zs2 _ _ _ ⟨by omega,by omega⟩,Vp w i k]
    grind
   ·have:jo (jT w k) k=jT w k:=by unfold jo;rw[if_neg DO]
    have e2:decide (i<k+1/\i<64)=decide (i<k/\i<64):=by rw[decide_eq_decide];omega
    rw[this,Vp w i k,e2]
  ·rename_i h;rw[Vp w i k]
   grind
theorem Vq(w:Wd):∀k,jT w k<2 ^ 64
 | 0=>by show 0<2 ^ 64;decide
 | k+1=>by
  unfold jT;split
  ·exact ZaW _ _ (Vq w k)
  ·exact Vq w k
theorem Vr(n p:Nat):(qW n p).length=n:=by simp[qW]
theorem Zs4(n p i:Nat)(h:i<n):(qW n p).getD i 0=UInt8.ofNat (48+yL p i):=by simp_all[qW]
theorem Zi7(n p:Nat)(h:1<=n):ju (qW n p)=true:=by grind[ju,qW,Vr,XC,YF]
theorem Zs5(n p:Nat)(h1:1<=n)(hn:n<=64)(c:p<2 ^ n):qu (qW n p)=p:=by
 unfold qu;rw[Vr,if_neg DO];apply C9;intro i;rw[Vp]
 by_cases hi:i<n
 ·rw[Zs4 n p i hi];have hb:=XC p i;have e:(UInt8.ofNat (48+yL p i)=49)<->yL p i=1:=by
   constructor
   ·intro e;have:=congrArg UInt8.toNat e;rw[YF DO]at this;have a:(49:UInt8).toNat=49:=rfl;omega
   ·intro e;rw[e];rfl
  have b:decide (i<n/\i<64)=true:=DT
  rw[b,CJ,CL];unfold yL at e ⊢;simp only[e]
 grind[Nat.testBit_lt_two_pow,Nat.lt_of_lt_of_le,Nat.pow_le_pow_right]
theorem Zs6{n:Nat}{c:Cust}(h1:1<=n)(hn:n<=64)(h:CustT n c):qp n (qL n c)=some (c,true):=by
 obtain⟨k,v,ps,j,l,st,t,ho⟩:=c;rcases h.kind with ⟨k1,b,i,d,e,f,a,g⟩ | ⟨k1,b,i,d,e,f,a,g⟩
 ·simp only at k1 b i d e f a g;subst k1 d e f a g;obtain⟨x,m⟩:=Z8 b.1 b.2;have o:(ps.map (qW n)).all ju=true:=by
   rw[Aw];intro w q;obtain⟨p,r,rfl⟩:=Al.1 q;exact Zi7 n p h1
  have e2:((ps.map (qW n)).all λw=>decide ((w.length:Int)=n))=true:=by
   rw[Aw];intro w q;obtain⟨p,r,rfl⟩:=Al.1 q;simp[Vr]
  have y:(ps.map (qW n)).map qu=ps:=by
   rw[BX];refine(AM λp r=>?_).trans (Df _);exact Zs5 n p h1 hn (i p r)
  unfold qL;rw[if_pos rfl]
  show Z7 n (zG v :: ps.map (qW n))=_
  simp_all[Vo,Zk]
 ·simp only at k1 b i d e f a g;subst k1 b i;obtain⟨z,u⟩:=Z8 d.1 d.2;obtain⟨b1,b2⟩:=Z8 e.1 e.2;obtain⟨c1,c2⟩:=Z8 f.1 f.2;obtain⟨x,m⟩:=Z8 g.1 g.2;have o:(yI [zG j,zG l,zG st,zG ho]).isSome=true:=by
   rw[Wf DX];rfl
  have s:qp n (qL n ⟨2,0,[],j,l,st,t,ho⟩)=(uN [zG j,zG l,zG st,if t=2 then vN else wE,zG ho]).map (·,true):=rfl;rw[s,Zbk];rcases a with a | a
  ·subst a;rw[if_pos ⟨o,.inl (if_neg DV)⟩,show (if (1:Int)=2 then vN else wE)=wE from rfl];simp only[A4,u,b2,c2,m];rfl
  ·subst a;rw[if_pos ⟨o,.inr (if_pos rfl)⟩,show (if (2:Int)=2 then vN else wE)=vN from rfl];simp only[A4,u,b2,c2,m];rfl
theorem Wg{α:Type}(a b:List α)(d:α)(k:Nat)(h:a.length=k)(i:Nat):(a++b).getD (k+i) d=b.getD i d:=DW
theorem Zi8{α:Type}(l m:List α)(d:α):(List.range l.length).map (λi=>(l++m).getD i d)=l:=by apply A3<;>grind
theorem Zs7{x:Inst}{n:Nat}(h:InstT x n):vO (xg x)=some (x,true):=by
 obtain⟨dy,j,k,le,cu,a⟩:=x;obtain⟨h1,h2,h3,⟨s,t,u⟩,v,y,h9,m⟩:=h;simp only at h1 s t u v y h9 m;subst h1;obtain⟨d1,d2⟩:=Z8 (z:=(n:Int)) DO DO;obtain⟨v1,v2⟩:=Z8 s.1 s.2;obtain⟨c1,c2⟩:=Z8 t.1 t.2;obtain⟨l1,l2⟩:=Z8 u.1 u.2;have m1:=Zim cu.length v;have hW:xg ⟨n,j,k,le,cu,a⟩=[jG,[49]] :: [qE,zG n,qG,zG j,qH,zG k,qI,zG le] :: [qJ,zM cu.length] :: (cu.map (qL n)++[qK] :: a.map (λr:List Int=>r.map zG)):=rfl;rw[hW];generalize f:[jG,[49]] :: [qE,zG n,qG,zG j,qH,zG k,qI,zG le] :: [qJ,zM cu.length] :: (cu.map (qL n)++[qK] :: a.map (λr:List Int=>r.map zG))=ls;have b:ls=[[jG,[49]],[qE,zG n,qG,zG j,qH,zG k,qI,zG le],[qJ,zM cu.length]]++(cu.map (qL n)++[qK] :: a.map (λr:List Int=>r.map zG)):=by rw[<-f];rfl
 have q0:zP ls 0=[jG,[49]]:=by rw[<-f];rfl
 have q1:zP ls 1=[qE,zG n,qG,zG j,qH,zG k,qI,zG le]:=by rw[<-f];rfl
 have q2:zP ls 2=[qJ,zM cu.length]:=by rw[<-f];rfl
 have q3:yB ls 3 cu.length=cu.map (qL n):=by
  unfold yB zP;rw[b];have:(List.range cu.length).map (λi=>([[jG,[49]],[qE,zG n,qG,zG j,qH,zG k,qI,zG le],[qJ,zM cu.length]]++(cu.map (qL n)++[qK] :: a.map (λr:List Int=>r.map zG))).getD (3+i) [])=(List.range (cu.map (qL n)).length).map λi=>(cu.map (qL n)++[qK] :: a.map (λr:List Int=>r.map zG)).getD i []:=by
   rw[List.length_map];refine AM λi _=>?_
   exact Wg _ _ _ 3 rfl i
  rw[this,Zi8]
 have q4:zP ls (3+cu.length)=[qK]:=by
  unfold zP;rw[b,Wg _ _ _ 3 rfl];have:=Wg (cu.map (qL n)) ([qK] :: a.map (λr:List Int=>r.map zG)) [] cu.length DP 0;rw[By]at this;rw[this];rfl
 have q5:yB ls (4+cu.length) (cu.length+1)=a.map (λr:List Int=>r.map zG):=by
  unfold yB zP;have:(List.range (cu.length+1)).map (λi=>ls.getD (4+cu.length+i) [])=(List.range (a.map (λr:List Int=>r.map zG)).length).map λi=>(a.map (λr:List Int=>r.map zG)++[]).getD i []:=by
   rw[List.length_map,h9];refine AM λi _=>?_
   rw[b,show 4+cu.length+i=3+(cu.length+(1+i)) by omega,Wg _ _ _ 3 rfl,Wg _ _ _ cu.length DP,AH];have:=Wg [[qK]] (a.map (λr:List Int=>r.map zG)) [] 1 rfl i;exact this
  rw[this,Zi8]
 have q6:ls.length=5+2*cu.length:=by rw[b];simp;omega
 have n1:qn (zP ls 1) [qE,qG,qH,qI]=some [(n:Int),j,k,le]:=by
  rw[q1];unfold qn;rw[if_pos (by simp[vg,AO]),Wf (by intro w o;simp[xJ,AO]at o;grind)];simp[xJ,AO,d2,v2,c2,l2]
 have n2:qn (zP ls 2) [qJ]=some [(cu.length:Int)]:=by
  rw[q2];unfold qn;rw[if_pos (by simp[vg]),Wf (by intro w o;simp[xJ,AO]at o;rw[o,m1];rfl)];simp[xJ,AO,yo,m1]
 have hc:∀c∈cu,qp n (qL n c)=some (c,true):=λc hc=>Zs6 h2 h3 (y c hc)
 have r1:(cu.map (qL n)).all (λl=>(qp n l).isSome)=true:=by
  rw[Aw];intro l hl;obtain⟨c,d,rfl⟩:=Al.1 hl;rw[hc c d];rfl
 have g:∀r∈a,(yI (r.map zG)).isSome=true/\(r.map zG).map yo=r:=by
  intro r p;have q:=(m r p).2;refine⟨?_,?_⟩
  ·rw[Wf];rfl;intro w o;obtain⟨z,e,rfl⟩:=Al.1 o;exact(Z8 (q z e).1 (q z e).2).1
  ·rw[BX];refine(AM λz e=>?_).trans (Df _);exact(Z8 (q z e).1 (q z e).2).2
 have r2:(a.map (λr:List Int=>r.map zG)).all (jU (cu.length+1))=true:=by
  rw[Aw];intro l hl;obtain⟨r,p,rfl⟩:=Al.1 hl;simp[jU,(g r p).1,(m r p).1]
 have tn:((cu.length:Nat):Int).toNat=cu.length:=DP
 unfold vO;rw[if_pos q0,n1];simp only;rw[n2];simp only[tn,q3,q5,q4];rw[if_pos ⟨r1,trivial,r2,q6⟩];have e1:(cu.map (qL n)).map (λl=>(xe n l).1)=cu:=by
  rw[BX];refine(AM λc d=>?_).trans (Df _);simp only[Function.comp_apply,xe,hc c d];rfl
 have e2:(a.map (λr:List Int=>r.map zG)).map (λl=>l.map yo)=a:=by
  rw[BX];refine(AM λr p=>?_).trans (Df _);exact(g r p).2
 have e3:((cu.map (qL n)).all λl=>(xe n l).2)=true:=by
  rw[Aw];intro l hl;obtain⟨c,d,rfl⟩:=Al.1 hl;simp only[xe,hc c d];rfl
 rw[e1,e2,e3]
theorem Zs8:∀w∈[jG,qE,qG,qH,qI,qJ,qA,jS,wE,vN,qK,[49]],Z2 w:=by
 intro w a;rw[<-X7];revert w;decide
theorem Zs9(n p:Nat)(h:1<=n):Z2 (qW n p):=by
 have:=Zi7 n p h;simp only[ju,Ar,decide_eq_true_eq,Aw]at this;exact⟨this.1,λc hc=>by grind⟩
theorem Zta{x:Inst}{n:Nat}(h:InstT x n):(∀l∈xg x,l≠[])/\∀l∈xg x,∀w∈l,Z2 w:=by
 have A:∀w,w∈[jG,qE,qG,qH,qI,qJ,qA,jS,wE,vN,qK,[49]]->Z2 w:=Zs8;have d:=h.n1;have f:x.days.toNat=n:=by have:=h.days;omega
 constructor
 ·intro l hl;simp only[xg,Au,AB,Al]at hl;rcases hl with rfl | rfl | rfl | ⟨c,hc,rfl⟩ | rfl | ⟨r,b,rfl⟩
  ·simp
  ·simp
  ·simp
  ·grind[qL]
  ·simp
  ·intro e;have:=(h.row r b).1
   simp_all
 ·intro l hl w a;simp only[xg,Au,AB,Al]at hl;rcases hl with rfl | rfl | rfl | ⟨c,hc,rfl⟩ | rfl | ⟨r,b,rfl⟩
  ·grind
  ·simp only[Au,A9,or_false]at a;rcases a with rfl | rfl | rfl | rfl | rfl | rfl | rfl | rfl
   all_goals first | exact Q8 _ | simp_all
  ·grind[Q8]
  ·unfold qL at a;split at a
   ·simp only[Au,Al]at a;rcases a with rfl | rfl | ⟨p,g,rfl⟩
    ·exact A _ DP
    ·exact Q8 _
    simp_all[Zs9]
   ·simp only[Au,A9,or_false]at a;rcases a with rfl | rfl | rfl | rfl | rfl | rfl
    ·simp_all
    ·exact Q8 _
    ·exact Q8 _
    ·exact Q8 _
    ·split<;>simp_all
    ·exact Q8 _
  ·simp_all
  ·obtain⟨z,_,rfl⟩:=Al.1 a;exact Q8 _
theorem Ztb{x:Inst}{n:Nat}(h:InstT x n)(hm:yS x=true):yF (z8 (xg x))=(x,0):=by grind[Zta,yF,ZrL,Zs7]
open Go Go.Proofs
abbrev yU:PV:=.sc (.slice none 0 0)
def jH(o:Option (List Int)):PV:=match o with
 | none=>.tup [yU,B false]
 | some l=>.tup [L l,B true]
theorem Ztc(l:List (List UInt8))(hl:l.length<=1048576)(f:∀w∈l,w.length<=1099511627776):Pure prog 192 [L (l.map bs),.fn (.func 109) [] []] (jH (yI l)):=by
 obtain⟨zs,g⟩:∃zs:List Int,zs=l.map yo:=⟨_,rfl⟩;have a0:zs.length=l.length:=by rw[g,List.length_map]
 have a1:(l.map bs).length=l.length:=DP
 have r:∀(k:Nat) (w:List UInt8),l[k]?=some w->zs[k]?=some (yo w)/\(l.map bs)[k]?=some (bs w):=λk n e=>⟨by rw[g,Aj,e];rfl,by rw[Aj,e];rfl⟩
 have i:(∀w∈l,(y8 w).isSome=true)->yI l=some zs:=λh=>by rw[Wf h,g]
 generalize l.map bs=ws at *;refine zx func192 ntmps192 results192 λS nx hd=>?_
 refine DY ?_;refine DY ?_;refine⟨by omega,λv0=>?_⟩
 repeat apply ze
 refine zg ?_;refine zn (zK (λs:Nat × Nat × List PV=>(s.1<=zs.length/\∀w∈l.take s.1,(y8 w).isSome=true)/\s.2.2.take s.1=(zs.take s.1).flatMap Enc.enc/\s.1<=s.2.2.length/\(0<s.1->s.2.2.length=s.1)/\(zs.length=0->s.2.2=[])) (λ(k,w,cs)=>[(1,.fn (.func 109) [] []),(6,.sl nx w 1 0 k),(14,L ws),(15,I ws.length),(16,I k)]) (λ(k,w,cs)=>[.cells w 3 cs]) (λs=>zs.length-s.1) (0,v0,_) [] ⟨⟨by simp,by simp⟩,by simp,by simp,λh=>absurd h (CK _),?_⟩ DP rfl ?_)
 ·intro h;have:ws.length=0:=DO
  simp[this,qa]
 rintro⟨k,w,cs⟩ ⟨⟨hk,b⟩,c,j,m,o⟩;simp only at hk b c j m o ⊢;refine DY ?_;refine ze (zA rfl (λhc=>?_) (λhc=>?_))
 ·simp at hc;obtain⟨u,d⟩:∃u,l[k]?=some u:=⟨_,Ac DO⟩;obtain⟨g1,g2⟩:=r k u d;obtain⟨t,tl,b1,b2,b3,f0⟩:=zN rfl ws k hc;obtain rfl:t=bs u:=by rw[b1]at g2;exact Option.some.inj g2
  have a:=Zip u (f u (Ab d));refine zk (ze (zn (ze (zi [] (zq f0 hc) ?_))));cases p:y8 u with
  | none =>
   rw[p]at a;simp only[Z3]at a;refine DY ?_;refine zv a ?_
   repeat apply ze
   refine zg ?_;refine zo DP ?_;refine DY ?_;exact zj (zm hd DQ (by rw[Zi6 d p];rfl))
  | some n =>
   rw[p]at a;simp only[Z3]at a;have v:yo u=n:=by unfold yo;rw[p];rfl
   rw[v]at g1;have x:(zs.take (k+1)).flatMap Enc.enc=cs.take k++[I n]:=by rw[c,AC,g1,Aq];rfl
   have q:∀w∈l.take (k+1),(y8 w).isSome=true:=by
    rw[AC,d];intro w f;rw[AB]at f;rcases f with f | f
    ·exact b w f
    ·obtain rfl:w=u:=by simpa using f
     rw[p];rfl
   refine DY ?_;refine zv a ?_
   repeat apply ze
   refine zg ?_;refine zp rfl (zk (zi [] j ?_));refine⟨by omega,?_⟩;refine zg ?_;exact zu (k+1,w+1,cs.take k++[I n]) [] ⟨⟨by simp;omega,q⟩,by rw[x];exact Af DT,by simp;omega,λ_=>by simp;omega,λh=>by omega⟩ DT (by simp[zy k (by omega)]) rfl DP
 ·simp at hc;obtain rfl:k=zs.length:=DO
  rw[Af DO]at b;have y:cs.length=zs.length:=by
   rcases B1 zs.length with h | h
   ·rw[o h,h];rfl
   ·exact m h
  have z:cs=zs.flatMap Enc.enc:=by
   rw[Ai,Af DO]at c;exact c
  refine zC (yh 0 rfl ?_);refine ze (zi [] y ?_);exact zj (zm hd DQ (by simp[zr,z,i b,jH]))
theorem Zeb(l:List (List UInt8))(hl:l.length<=1048576)(c:∀w∈l,w.length<=1099511627776):Pure prog 144 [L (l.map bs)] (jH (yI l)):=by
 have h:=Ztc l hl c;cases b:yI l with
 | none =>
  rw[b]at h;simp only[jH]at h ⊢;refine zx func144 ntmps144 results144 λS nx a=>?_
  refine DY ?_;refine DY ?_;refine zv h ?_;exact DZ a
 | some z =>
  rw[b]at h;simp only[jH]at h ⊢;refine zx func144 ntmps144 results144 λS nx a=>?_
  refine DY ?_;refine DY ?_;refine zv h ?_;exact DZ a
open Go Go.Proofs
theorem Ztd{P:Program}{f:FuncId}{v:Value}(vs:List Value)(b:qC P f)(h:∀w,Calls P f vs.toArray w λe w'=>e=.returned v/\w'=w):Pure P f (vs.map .sc) (.sc v):=by
 intro S;refine⟨b,λC w us c hl d=>?_⟩;have a:us=vs.toArray:=by
  apply Array.ext
  ·simp_all
  ·intro i h1 h2;have hi:i<vs.length:=by simpa using h2
   have:=d i (.sc vs[i]) us[i] DP (AY h1);generalize us[i]=u at this;cases this;simp
 subst a;refine(h w).mono ?_;rintro e w' ⟨rfl,rfl⟩;exact⟨_,_,S,C,rfl,⟨rfl,rfl⟩,.sc _,c,.refl _ _ _⟩
theorem Zi9(s:List UInt8)(c:UInt8):Pure prog 222 [T (bs s),T (bs [c])] (I (Lib.indexByte s c)) :=
 Ztd [.string (bs s),.string (bs [c])] Zma λw=>stringslite_Index_one (bs s) c w
theorem Zja(a b:List UInt8)(c:UInt8)(h:c ∉ a):Lib.indexByte (a++c :: b) c=a.length:=by induction a<;>grind[Lib.indexByte]
theorem Wh(l:List UInt8)(i j:Nat):(bs l).extract i j=bs ((l.take j).drop i):=by
 apply ByteArray.ext;simp[List.drop_take]
theorem Zte(a b:List UInt8)(c:UInt8)(h:c ∉ a)(hl:(a++c :: b).length<=4611686018427387904):Pure prog 189 [T (bs (a++c :: b)),T (bs [c])] (.tup [T (bs a),T (bs b),B true]):=by
 have hI:=Zi9 (a++c :: b) c;rw[Zja a b c h]at hI;have f:(bs (a++c :: b)).extract 0 a.length=bs a:=by rw[Wh];simp
 have d:(bs (a++c :: b)).extract (a.length+1) (bs (a++c :: b)).size=bs b:=by
  rw[Wh,xU,Ai,show a++c :: b=(a++[c])++b by simp,List.drop_left' DP]
 have e:(bs (a++c :: b)).size=a.length+1+b.length:=by rw[xU];simp;omega
 have g:(bs [c]).size=1:=rfl;rw[e]at d;have l:W ((a.length:Int)+1)=((a.length+1:Nat):Int):=zy _ (by simp at hl;omega);generalize bs (a++c :: b)=X at *;generalize bs [c]=Y at *;generalize a.length=n at *;refine zx func189 ntmps189 results189 λS nx m=>?_
 refine DY ?_
 repeat apply ze
 refine zg ?_;refine zv hI ?_;refine DY ?_;refine zo DP ?_;have i:n<=n+1+b.length:=DO
 have j:n+1<=n+1+b.length:=DO
 have k:(0:Int)<=(n:Int)+1:=DO
 refine ze (zD none (Row.pures [0,1,2,3,4,5,6,7,8,9,10,11] .done) mixed (zW f d e g l (zF i j k)) ?_);exact DZ m
theorem Zjb(a:List UInt8)(c:UInt8)(h:c ∉ a):Lib.indexByte a c=-1:=by induction a<;>grind[Lib.indexByte]
theorem Ztf(a:List UInt8)(c:UInt8)(h:c ∉ a):Pure prog 189 [T (bs a),T (bs [c])] (.tup [T (bs a),T (bs []),B false]):=by
 have hI:=Zi9 a c;rw[Zjb a c h]at hI;generalize bs a=X at *;generalize bs [c]=Y at *;refine zx func189 ntmps189 results189 λS nx b=>?_
 refine DY ?_
 repeat apply ze
 refine zg ?_;refine zv hI ?_;refine DY ?_;refine zp DP ?_;refine zk (DY ?_);exact zj (zm b rfl rfl)
def Zec(c:UInt8)(s:List UInt8):PV:=match xV c s with
 | some (a,b)=>.tup [T (bs a),T (bs b),B true]
 | none=>.tup [T (bs s),T (bs []),B false]
theorem Ztg(s:List UInt8)(c:UInt8)(hl:s.length<=4611686018427387904):Pure prog 136 [T (bs s),T (bs [c])] (Zec c s):=by
 unfold Zec;cases d:xV c s with
 | none =>
  have hc:=Ztf s c (Za6 d);simp only[];refine zx func136 ntmps136 results136 λS nx e=>?_
  refine DY ?_;refine DY ?_;refine zv hc ?_;exact DZ e
 | some p =>
  obtain⟨a,b⟩:=p;obtain⟨rfl,f⟩:=J3 d;have hc:=Zte a b c f hl;simp only[];clear d;refine zx func136 ntmps136 results136 λS nx e=>?_
  refine DY ?_;refine DY ?_;refine zv hc ?_;exact DZ e
theorem Zjc(c:UInt8):∀(k:Nat) (s:List UInt8),s.count c<=k->Lib.splitB (bs [c]) 0 k (bs s)=(yT c s).map bs
 | k,s,d=>by
  rw[ZrF];cases h:xV c s with
  | none =>
   grind[Lib.index_one,Zjb,Za6,Lib.splitB_miss]
  | some p =>
   obtain⟨a,b⟩:=p;obtain⟨rfl,e⟩:=J3 h;have hn:Lib.indexB (bs (a++c :: b)) (bs [c])=a.length:=(Lib.index_one _ c).trans (Zja a b c e);rw[List.count_append,List.count_cons_self]at d
   match k,d with
   | k+1,d =>
   have g:=Zjc c k b DO;have f:(bs [c]).size=1:=rfl;rw[Lib.splitB_hit _ _ _ _ _ hn,f,Wh,Wh,xU,Ai,show a++c :: b=(a++[c])++b by simp,List.drop_left' DP,g];simp
theorem Zth(c:UInt8)(s:List UInt8):(yT c s).length=s.count c+1:=by induction s<;>grind[yT]
theorem Zti(s:List UInt8)(c:UInt8)(hl:s.length<=1048576):Pure prog 190 [T (bs s),T (bs [c]),I 0,I (-1)] (L ((yT c s).map bs)):=by
 intro S;refine⟨Zl7,λC w us z n m=>?_⟩;obtain⟨u0,u1,u2,u3,rfl⟩:∃a b c d,us=#[a,b,c,d]:=by
  match us,n with
  | ⟨[a,b,c,d]⟩,_=>simp
 have y:(bs [c]).size=1:=rfl;have r0:=m 0 _ u0 rfl rfl;have r1:=m 1 _ u1 rfl rfl;have r2:=m 2 _ u2 rfl rfl;have r3:=m 3 _ u3 rfl rfl;cases r0;cases r1;cases r2;cases r3;have k:Lib.countB (bs s) (bs [c])=s.count c:=Lib.count_one c s;have a0:s.count c<=s.length:=List.count_le_length;have g:=Any.strings_genSplit_core lays221 DR (bs s) (bs [c]) 0 (-1) (s.count c+1) w (by rw[xU];omega) DO (Cj _)
  (λx ce _=>(strings_Index_one x c _).mono λe w' h=>⟨by grind[Lib.index_one],h.2⟩)
  ((strings_Count_one (bs s) c w).mono λe w' h=>⟨by rw[h.1,k];rfl,h.2⟩)
  DV DV (by grind[xU])
 rw[B5,Zjc c _ s (Ag _)]at g;refine g.mono ?_;rintro e w' ⟨rfl,rfl⟩;obtain⟨o,q,t3⟩:=z.alloc (.cells (Lib.cellsOf ((yT c s).map bs) (s.count c+1)) (lays221_ren.t 9));have j:((yT c s).map bs).length=s.count c+1:=by rw[List.length_map];exact Zth c s
 refine⟨_,_,S,C,rfl,⟨rfl,rfl⟩,?_,o,q⟩;clear g k;generalize (yT c s).map bs=l at *;generalize hN:s.count c+1=N at *;have f:Lib.cellsOf l N=(l.map Value.string).toArray:=by unfold Lib.cellsOf;rw[j,Bz];simp
 have r:l.flatMap Enc.enc=l.map T:=by
  clear f j o q
  induction l with
  | nil=>rfl
  | cons x l ih=>simp_all
 rw[f]at o q ⊢;unfold L;rw[r];refine .lst1 DO (by unfold xk;omega) (YY w _) t3 (λ_=>by simp) (λi v hi hv=>?_) (λi p v u hv=>?_)
 ·rw[AG,AS,Aj]at hv;obtain⟨x,_,rfl⟩:=Ap.1 hv;rfl
 ·rw[AG,AS,Aj]at hv;rw[Aj]at u;obtain⟨x,hx,rfl⟩:=Ap.1 hv;rw[hx]at u;cases u;exact .sc _
theorem Ztj(s:List UInt8)(c:UInt8)(hl:s.length<=1048576):Pure prog 137 [T (bs s),T (bs [c])] (L ((yT c s).map bs)):=by
 have h:=Zti s c hl;refine zx func137 ntmps137 results137 λS nx a=>?_
 refine DY ?_;refine DY ?_;refine zv h ?_;exact DZ a
end Go.Proofs.YtcocagkbfpgmiaaGreatDoor.Pv
