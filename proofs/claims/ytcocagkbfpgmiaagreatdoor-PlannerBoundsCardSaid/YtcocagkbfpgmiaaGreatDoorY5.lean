/- Part of a proof, packed. -/
import Derived.Test.YtcocagkbfpgmiaaGreatDoorY4
open Go.Proofs.Tryz (prog)
set_option maxRecDepth 100000
set_option maxHeartbeats 3200000
namespace Go.Proofs.YtcocagkbfpgmiaaGreatDoor.Pv
open Go
def Zv(n:Nat):Nat->List (List Int)->Bool
 | _,[]=>true
 | a,row :: l=>(decide (row.length=n) && decide (row.getD a 0=0) && row.all (yu · 0 2147483648)) && Zv n (a+1) l
def Zw(l:List (List Int))(n:Nat):Bool:=decide (l.length=n) && Zv n 0 l
def qV(x:Inst):Bool :=
 yu x.days 1 64 && decide (x.cust.length<=2000) && yu x.veh 0 2147483648 && yu x.cap 0 2147483648 && yu x.len 0 2147483648 && x.cust.all (xF · x.days) && Zw x.dist (x.cust.length+1)
theorem ZpB(l:List (List Int))(n:Nat)(hn:n<=1048576)(hl:l.length<=9223372036854775807)(hr:∀r∈l,r.length<=9223372036854775807):Pure prog 147 [L l,I n] (B (Zw l n)):=by
 refine zt Tryz.func147 Tryz.ntmps147 Tryz.results147 λS nx hd=>?_
 refine za (zb ?_)
 by_cases hln:l.length=n
 ·have h1:((l.length:Int)=n):=by omega
  repeat apply za
  refine ze [] h1 ?_;refine zm (by simp) ?_;refine zh ?_
  repeat apply za
  refine zb ?_;refine zj (zD (λs:Nat=>s<=l.length/\Zv n 0 l=Zv n s (l.drop s)) (λk=>[(0,L l),(1,I n),(13,L l),(14,I l.length),(15,I k)]) (λk=>[]) (λs=>l.length-s) 0 [] (by simp) (by simp[h1]) (by simp) ?_);rintro k ⟨hk,ho⟩;simp only at hk ho ⊢;refine za (zb ?_);refine za (zv rfl (λhc=>?_) (λhc=>?_))
  ·simp at hc;obtain⟨row,tl,a1,a2,a3,e0⟩:=zF rfl l k hc;have hrm:=hr row (Ab a1);rw[a2]at ho;simp only[Zv]at ho;refine zh (za (zj (za (ze [] (zo e0 hc) ?_))));have bad:(row.length=n/\row.getD k 0=0->row.all (yu · 0 2147483648)=false)->Zw l n=false:=by
    intro q;simp only[Zw,ho]
    by_cases q1:row.length=n
    ·by_cases q2:row.getD k 0=0
     ·rw[q ⟨q1,q2⟩];simp
     ·simp only[q2,decide_false,Dn,C5]
    ·simp only[q1,decide_false,Dn,C5]
   by_cases h2:row.length=n
   ·have h2':((row.length:Int)=n):=by omega
    have h3:k<n:=by omega
    obtain⟨d,tl2,b1,b2,b3,e2⟩:=zF rfl row k (by omega);have hd0:row.getD k 0=d:=by rw[Aa,b1];rfl
    by_cases h4:d=0
    ·repeat apply za
     refine ze [(4,24)] (zS h2' h3 e2 h4) ?_;refine zm (by simp) ?_;refine zh (za (zb ?_));refine zj (zD (λs:Nat=>s<=row.length/\(row.take s).all (yu · 0 2147483648)=true) (λj=>[(0,L l),(1,I n),(13,L l),(14,I l.length),(15,I k),(31,L row),(32,I row.length),(33,I j)]) (λk=>[]) (λs=>row.length-s) 0 [] (by simp) (by simp[h1,h2']) (by simp) ?_);rintro j ⟨hj,hoj⟩
     try simp only at hj hoj ⊢
     refine za (zb ?_);refine za (zv rfl (λhc2=>?_) (λhc2=>?_))
     ·simp at hc2;obtain⟨e,tl3,c1,c2,c3,e3⟩:=zF rfl row j hc2;refine zh (za (zj (za (ze [] (zo e3 hc2) ?_))));refine za (zb ?_);refine zr (uF _ _ _) ?_;cases hb:yu e 0 2147483648 with
      | false =>
       have hres:=bad (λ_=>by rw[Bu];exact⟨e,Ab c1,by simp[hb]⟩);refine zn rfl (za (zb ?_));exact zg (zi hd (by simp;rfl) (by simp only[hres,zp]))
      | true =>
       refine zm rfl (zh (zb ?_));exact zq (j+1) [] ⟨hc2,by rw[c3,CN,hoj];simp[hb]⟩ (by omega) (by simp[zu j (by omega)]) rfl (by simp)
     ·simp at hc2;obtain rfl:j=row.length:=by omega
      rw[Ao]at hoj;refine zy (zb ?_);exact zq (k+1) [] ⟨hc,by rw[ho,hoj,hd0];simp[h2,h4]⟩ (by omega) (by simp[zu k (by omega)]) rfl (by simp)
    ·have hres:=bad (λq=>absurd (hd0.symm.trans q.2) h4)
     repeat apply za
     refine ze [(4,24)] (zS h2' h3 e2 h4) ?_;refine zn (by simp[h4]) ?_;refine za (zb ?_);exact zg (zi hd (by simp;rfl) (by simp only[hres,zp]))
   ·have hres:=bad (λq=>absurd q.1 h2);have h2':((row.length:Int) != (n:Int))=true:=by simp;omega
    repeat apply za
    refine ze [(4,24)] (zo h2' zH) ?_;refine zn (by simp) ?_;refine za (zb ?_);exact zg (zi hd (by simp;rfl) (by simp only[hres,zp]))
  ·simp at hc;obtain rfl:k=l.length:=by omega
   simp only[Cf,Zv]at ho;refine zy (za (zb ?_));exact zg (zi hd (by simp;rfl) (by simp[Zw,hln,ho,zp]))
 ·have h1:¬((l.length:Int)=n):=by omega
  repeat apply za
  refine ze [] h1 ?_;refine zn (by simp[h1]) ?_;refine za (zb ?_);exact zg (zi hd (by simp;rfl) (by simp[Zw,hln,zp]))
theorem ZgP(x:Inst)(hx:InstOk x):Pure prog 108 [.agg (zx x)] (I (if qV x=true then 0 else 3)):=by
 have hnc:=hx.ncust;refine zt Tryz.func108 Tryz.ntmps108 Tryz.results108 λS nx hd=>?_
 refine za (zb ?_);intro v0
 by_cases hd1:yu x.days 1 64=true
 ·have hdr:1<=x.days/\x.days<=64:=by simpa[yu] using hd1
  by_cases hc2:(2000:Int)<x.cust.length
  ·repeat apply za
   refine ze [(4,11)] trivial ?_;refine qt [(4,11)] (uF _ _ _) (zo hd1 hc2) ?_;refine zn (by simp) ?_;refine za (zb ?_);exact zg (zi hd (by simp;rfl) (by simp[qV,show ¬x.cust.length<=2000 by omega,zp]))
  ·repeat apply za
   refine ze [(4,11)] trivial ?_;refine qt [(4,11)] (uF _ _ _) (zo hd1 hc2) ?_;refine zm (by simp) ?_;refine zh ?_
   repeat apply za
   refine zb ?_;refine zj (zD (λs:Nat=>s<=3/\(1<=s->yu x.veh 0 2147483648=true)/\(2<=s->yu x.cap 0 2147483648=true)/\(3<=s->yu x.len 0 2147483648=true)) (λk=>[(1,.ptr nx v0 0),(23,.lst 3 [I x.veh,I x.cap,I x.len]),(24,I 3),(25,I k)]) (λk=>[.cells v0 25 (zx x)]) (λs=>3-s) 0 [] (by simp) (by simp) (by simp) ?_);rintro k ⟨hk,i1,i2,i3⟩;simp only at hk i1 i2 i3 ⊢
   match k,hk with
   | 0,_ =>
    refine za (zb ?_);refine za (zn rfl (zh (za (zj (za (zb ?_))))));refine za (zb ?_);refine zr (uF _ _ _) ?_;cases hb:yu x.veh 0 2147483648 with
    | false =>
     refine zn rfl (za (zb ?_));exact zg (zi hd (by simp;rfl) (by simp[qV,hb,zp]))
    | true =>
     refine zm rfl (zh (zb ?_));exact zq 1 [] (by simp[hb]) (by simp) (by simp;rfl) rfl (by simp)
   | 1,_ =>
    refine za (zb ?_);refine za (zn rfl (zh (za (zj (za (zb ?_))))));refine za (zb ?_);refine zr (uF _ _ _) ?_;cases hb:yu x.cap 0 2147483648 with
    | false =>
     refine zn rfl (za (zb ?_));exact zg (zi hd (by simp;rfl) (by simp[qV,hb,zp]))
    | true =>
     refine zm rfl (zh (zb ?_));exact zq 2 [] (by simp[hb,i1 (by omega)]) (by simp) (by simp;rfl) rfl (by simp)
   | 2,_ =>
    refine za (zb ?_);refine za (zn rfl (zh (za (zj (za (zb ?_))))));refine za (zb ?_);refine zr (uF _ _ _) ?_;cases hb:yu x.len 0 2147483648 with
    | false =>
     refine zn rfl (za (zb ?_));exact zg (zi hd (by simp;rfl) (by simp[qV,hb,zp]))
    | true =>
     refine zm rfl (zh (zb ?_));exact zq 3 [] (by simp[hb,i1 (by omega),i2 (by omega)]) (by simp) (by simp;rfl) rfl (by simp)
   | 3,_ =>
    have q1:=i1 (by omega);have q2:=i2 (by omega);have q3:=i3 (by omega);refine za (zb ?_);refine za (zm rfl (zy ?_))
    repeat apply za
    refine zb ?_;refine zj (zD (λs:Nat=>s<=x.cust.length/\(x.cust.take s).all (xF · x.days)=true) (λk=>[(1,.ptr nx v0 0),(34,L x.cust),(35,I x.cust.length),(36,I k)]) (λk=>[.cells v0 25 (zx x)]) (λs=>x.cust.length-s) 0 [] (by simp) (by simp) (by simp) ?_);rintro k ⟨hk,ho⟩
    try simp only at hk ho ⊢
    refine za (zb ?_);refine za (zv rfl (λhc=>?_) (λhc=>?_))
    ·simp at hc;obtain⟨c,tl,a1,a2,a3,_,e0⟩:=el 8 rfl x.cust k hc;have hcm:=Ab a1;have hco:=hx.cust c hcm;refine zh (za (zj (za (ze [] (zo e0 hc) ?_))));intro v1;refine za (zb ?_);refine zr (ZpA c x.days hco.pats hco.npats (by omega)) ?_;cases hb:xF c x.days with
     | false =>
      have hres:x.cust.all (xF · x.days)=false:=by rw[Bu];exact⟨c,hcm,by simp[hb]⟩
      refine zn rfl (za (zb ?_));exact zg (zi hd (by simp;rfl) (by simp[qV,hres,zp]))
     | true =>
      refine zm rfl (zh (zb ?_));exact zq (k+1) [_] ⟨hc,by rw[a3,CN,ho];simp[hb]⟩ (by omega) (by simp[zu k (by omega)]) rfl rfl
    ·simp at hc;obtain rfl:k=x.cust.length:=by omega
     rw[Ao]at ho;have w1:=zu x.cust.length (by omega);refine zy ?_
     repeat apply za
     refine ze [] w1 ?_;refine zr (ZpB x.dist (x.cust.length+1) (by omega) hx.ndist (λr hr=>(hx.dist r hr).1)) ?_;cases hb:Zw x.dist (x.cust.length+1) with
     | false =>
      refine zn rfl (za (zb ?_));exact zg (zi hd (by simp;rfl) (by simp[qV,hb,zp]))
     | true =>
      refine zm rfl (zh (za (zb ?_)));exact zg (zi hd (by simp;rfl) (by simp[qV,hb,hd1,q1,q2,q3,ho,show x.cust.length<=2000 by omega,zp]))
 ·repeat apply za
  refine ze [(4,11)] trivial ?_;refine qt [(4,11)] (uF _ _ _) (zo hd1 zH) ?_;refine zn (by simp) ?_;refine za (zb ?_);exact zg (zi hd (by simp;rfl) (by simp[qV,hd1,zp]))
open Go
theorem ZgQ(n:Nat)(d:Int):yD n d.toNat 64=(yD n 0 64).filter λx=>decide (d<=x):=by
 simp only[yD,List.filter_map,List.filter_filter,Cs,decide_true,Dx];congr 1;apply List.filter_congr;intro i _;have:(d.toNat<=i)=(d<=(i:Int)):=propext ⟨λh=>by omega,λh=>by omega⟩;simp only[Function.comp,this]
theorem ZgR(c:Cust)(d:Int)(h:c.kind=1):xF c d=(yu c.demand 1 2147483648 && Zu c d && uV c):=by simp[xF,h]
theorem ZgS(c:Cust)(d:Int)(h:c.kind=2):xF c d=(yu c.rate 0 2147483648 && yu c.size 1 2147483648 && yu c.start 0 c.size && Qp c && yu c.hold 0 1024 && YJ c):=by simp[xF,h]
theorem ZpC(c:Cust)(d:Int)(h:¬c.kind=1)(h2:¬c.kind=2):xF c d=false:=by simp[xF,h,h2]
open Go
abbrev V8(x:Inst)(p:zC)(i:Int):List PV:=[I x.days,I x.veh,I x.cap,I x.len,L x.cust,L x.dist,L p,I i]
def V9(c:Cust)(v:List Visit):Int:=if (v.any λs=>decide (s.q≠c.demand))=true then 9 else if Qo (v.map (·.d))∈c.pats then 0 else 10
def YK(x:Inst)(p:zC)(i:Nat):Int :=
 match x.cust[i]? with
 | none=>5
 | some c=>if c.kind=2 then Zt c (yJ (y9 i (told 0 p)) x.days) else V9 c (y9 i (told 0 p))
structure Serves (x:Inst) (p:zC):Prop where
 sz:PlanOk p
 q:∀s∈told 0 p,0<=s.1.q/\s.1.q<=2147483648
 days:p.length<=64
theorem ZgT:∀(p:zC) (i:Nat) (x:Stop × Nat),x∈told i p->i<=x.2/\x.2<i+p.length
 | [],_,_,h=>by cases h
 | d :: p,i,x,h=>by
  simp only[told,AC,An]at h;simp only[Ae];rcases h with ⟨s,_,rfl⟩ | h
  ·simp only;omega
  ·have:=ZgT p (i+1) x h;omega
theorem ZgU{x:Inst}{p:zC}(h:Serves x p)(c:Int):VisOk (y9 c (told 0 p))/\∀s∈y9 c (told 0 p),0<=s.d/\s.d<=63:=by
 have hd:∀s∈y9 c (told 0 p),(0<=s.q/\s.q<=2147483648)/\0<=s.d/\s.d<=63:=by
  intro s hs;simp only[y9,An,Bd]at hs;obtain⟨y,⟨hy,_⟩,rfl⟩:=hs;have h1:=h.q y hy;have h2:=ZgT p 0 y hy;have h3:=h.days;simp only;omega
 exact⟨⟨AB (ZgG _ _) h.sz.told,λs hs=>(hd s hs).1,λs hs=>by have:=(hd s hs).2;unfold zM;omega⟩,λs hs=>(hd s hs).2⟩
theorem ZgV(x:Inst)(p:zC)(i:Nat)(h:Serves x p):Pure prog 114 [.agg (V8 x p i)] (L (yJ (y9 i (told 0 p)) x.days)):=by
 have h1:=Zcm p i h.sz;have h2:=ZgN _ x.days (ZgU h i).1;generalize yJ (y9 i (told 0 p)) x.days=q at h2 ⊢;generalize y9 i (told 0 p)=v at h1 h2;refine zt Tryz.func114 Tryz.ntmps114 Tryz.results114 λS nx hd=>?_
 refine za (zb ?_);intro v0;refine za (zz (some [nx]) (Row.pures [0,1,2,3,4,5,6,7,8,9] .done) mixed trivial ?_);refine zJ (h1) trivial ?_;refine zJ (h2) trivial ?_;exact zg (zi hd (by simp;rfl) rfl)
theorem ZpD(x:Inst)(p:zC)(i:Nat)(c:Cust)(h:Serves x p)(hc:x.cust[i]?=some c)(hf:CustFits c):Pure prog 155 [.agg (V8 x p i)] (I (Zt c (yJ (y9 i (told 0 p)) x.days))):=by
 have h1:=ZgV x p i h;have hil:i<x.cust.length:=(Ac.1 hc).1;obtain⟨c',tl,a1,a2,a3,_,e0⟩:=el 8 rfl x.cust i hil;obtain rfl:c'=c:=by rw[a1]at hc;exact Option.some.inj hc
 have h2:=ZgM c' (yJ (y9 i (told 0 p)) x.days) hf (by rw[Zcq];omega);generalize yJ (y9 i (told 0 p)) x.days=q at h1 h2 ⊢;refine zt Tryz.func155 Tryz.ntmps155 Tryz.results155 λS nx hd=>?_
 refine za (zb ?_);intro v0;refine za (zz (some [nx]) (Row.pures [0,1,2,3,4,5,6,7,8,9,10] .done) mixed (zo hil e0) ?_);refine zJ (h1) trivial ?_;refine zJ (h2) trivial ?_;exact zg (zi hd (by simp;rfl) rfl)
theorem ZpE(x:Inst)(p:zC)(i:Nat)(c:Cust)(h:Serves x p)(hc:x.cust[i]?=some c)(hpl:c.pats.length<=1048576):Pure prog 154 [.agg (V8 x p i)] (I (V9 c (y9 i (told 0 p)))):=by
 have h1:=Zcm p i h.sz;have h2:=Zo7 p i h.sz;have hvl:=(ZgU h i).1.n;have hil:i<x.cust.length:=(Ac.1 hc).1;obtain⟨c',tl,a1,a2,a3,_,e0⟩:=el 8 rfl x.cust i hil;obtain rfl:c'=c:=by rw[a1]at hc;exact Option.some.inj hc
 generalize y9 i (told 0 p)=v at h1 h2 hvl ⊢;have h3:=Zo9 (v.map (·.d)) (by simpa using hvl);have h4:=Zpb c'.pats (Qo (v.map (·.d))) hpl;unfold V9;generalize Qo (v.map (·.d))=set at h3 h4 ⊢;refine zt Tryz.func154 Tryz.ntmps154 Tryz.results154 λS nx hd=>?_
 refine za (zb ?_);intro v0;refine za (ze [] (zo hil e0) ?_);intro v1
 repeat apply za
 refine zb ?_;refine zr h1 ?_;refine zj (zD (λs:Nat=>s<=v.length/\((v.take s).any λs=>decide (s.q≠c'.demand))=false) (λk=>[(1,.ptr nx v0 0),(3,.ptr (nx+1) v1 0),(18,L v),(19,I v.length),(20,I k)]) (λ_=>[.cells v0 171 (V8 x p i),.cells v1 87 (ye c')]) (λs=>v.length-s) 0 [] (by simp) (by simp) (by simp) ?_);rintro k ⟨hk,ho⟩;refine za (zb ?_);refine za (zv rfl (λhc1=>?_) (λhc1=>?_))
 ·simp at hc1;obtain⟨s,tl2,b1,b2,b3,e1,e2⟩:=el 2 rfl v k hc1;refine zh (za (zj (za (ze [] (zo hc1 e2) ?_))));intro v2
  by_cases hq:s.q=c'.demand
  ·refine za (ze [] hq ?_);refine zm (by simp) ?_;refine zh (zb ?_);exact zq (k+1) [_] ⟨hc1,by rw[b3,List.any_append,ho];simp[hq]⟩ (by omega) (by simp[zu k (by omega)]) rfl rfl
  ·have hany:(v.any λs=>decide (s.q≠c'.demand))=true:=by rw[BY];exact⟨s,Ab b1,by simpa using hq⟩
   refine za (ze [] hq ?_);refine zn (by simp) ?_;refine za (zb ?_);exact zg (zi hd (by simp;rfl) (by rw[if_pos hany];rfl))
 ·simp at hc1;obtain rfl:k=v.length:=by omega
  rw[Ao]at ho;refine zy (za (zb ?_));refine zr h2 ?_;refine zr h3 ?_
  repeat apply za
  refine zb ?_;refine zr h4 ?_
  by_cases hm:set∈c'.pats
  ·repeat apply za
   refine zm (by simp[hm]) ?_;refine zh (za (zb ?_));exact zg (zi hd (by simp;rfl) (by rw[ho];simp[hm,zp]))
  ·repeat apply za
   refine zn (by simp[hm]) ?_;refine za (zb ?_);exact zg (zi hd (by simp;rfl) (by rw[ho];simp[hm,zp]))
structure CustsOk (x:Inst):Prop where
 n:x.cust.length<=1048576
 kind:∀c∈x.cust,c.kind=1\/c.kind=2
 fits:∀c∈x.cust,CustFits c
 pats:∀c∈x.cust,c.pats.length<=1048576
 wy:∀c∈x.cust,∀p∈c.pats,p<2 ^ 64
theorem ZpF(x:Inst)(p:zC)(i:Nat)(h:Serves x p)(hx:CustsOk x)(hi:i<x.cust.length):Pure prog 112 [.agg (zx x),.agg [L p],I i] (I (YK x p i)):=by
 obtain⟨c,tl,a1,a2,a3,_,e0⟩:=el 8 rfl x.cust i hi;have hcm:=Ab a1;have hres:YK x p i=if c.kind=2 then Zt c (yJ (y9 i (told 0 p)) x.days) else V9 c (y9 i (told 0 p)):=by simp only[YK,a1]
 rw[hres];have g0:¬(i:Int)<0:=by omega
 have g1:¬(x.cust.length:Int)<=(i:Int):=by omega
 refine zt Tryz.func112 Tryz.ntmps112 Tryz.results112 λS nx hd=>?_
 refine za (zb ?_);intro v0 v1
 repeat apply za
 refine ze [(2,12)] (zE g0 g1 hi) ?_;refine zm (by simp) ?_;refine zh (za (xl [] (by rfl) (by rfl) λK Gc Gh hK hGc hGh X hX0 hX=>?_));simp -implicitDefEqProofs [hX0,hX]
 try clear hX0 hX X
 intro v2;refine hGh _ _ _ _ _ λhsuf=>Yy (.inr rfl) Tryz.underlying215 Tryz.underlying3 rfl (by simp;exact⟨rfl,rfl⟩) (by simp;rfl) (by simp;rfl) (by simp[qX];rfl) ?_
 refine⟨_,_,yg _ (by omega) (by simp),?_⟩;clear hGc hGh;clear Gc Gh;refine xL hsuf (D:=[]) (by rfl) λGc Gh hGc hGh X hX0 hX=>?_
 simp -implicitDefEqProofs [hX0,hX];clear hX0 hX X;refine hGh _ _ _ _ _ λhsuf=>Yy (.inr rfl) Tryz.underlying215 Tryz.underlying3 rfl (by simp;exact⟨rfl,rfl⟩) (by simp;rfl) (by simp;rfl) (by simp[qX,qM];rfl) ?_
 refine⟨_,_,yg _ (by omega) (by simp),?_⟩;clear hGc hGh;clear Gc Gh;refine xL hsuf (D:=[]) (by rfl) λGc Gh hGc hGh X hX0 hX=>?_
 simp -implicitDefEqProofs [hX0,hX,qM];clear hX0 hX X;refine hK _ _ _ ?_;clear hK hGc hGh;clear K Gc Gh;rcases hx.kind c hcm with hk | hk
 ·refine za (xl [] (by rfl) (by rfl) λK Gc Gh hK hGc hGh X hX0 hX=>?_);simp -implicitDefEqProofs [hX0,hX,hi,e0,hk]
  try clear hX0 hX X
  refine hGh _ _ _ _ _ λhsuf=>Zh rfl Tryz.underlying215 Tryz.underlying3 rfl (by simp;exact⟨rfl,rfl⟩) (by simp;rfl) (by simp;rfl) (by simp[qX,qM];rfl) (by simp;rfl) ?_
  refine⟨_,_,rfl,?_⟩;clear hGc hGh;clear Gc Gh;refine xL hsuf (D:=[]) (by rfl) λGc Gh hGc hGh X hX0 hX=>?_
  simp -implicitDefEqProofs [hX0,hX,ZR];clear hX0 hX X;refine hK _ _ _ ?_;clear hK hGc hGh;clear K Gc Gh
  repeat apply za
  refine zb ?_;refine zm (by simp) ?_;refine zh (za (zb ?_));refine zr (ZpE x p i c h a1 (hx.pats c hcm)) ?_;exact zg (zi hd (by simp;rfl) (by simp[hk,zp]))
 ·refine za (xl [] (by rfl) (by rfl) λK Gc Gh hK hGc hGh X hX0 hX=>?_);simp -implicitDefEqProofs [hX0,hX,hi,e0,hk]
  try clear hX0 hX X
  refine hGh _ _ _ _ _ λhsuf=>Zh rfl Tryz.underlying215 Tryz.underlying3 rfl (by simp;exact⟨rfl,rfl⟩) (by simp;rfl) (by simp;rfl) (by simp[qX,qM];rfl) (by simp;rfl) ?_
  refine⟨_,_,rfl,?_⟩;clear hGc hGh;clear Gc Gh;refine xL hsuf (D:=[]) (by rfl) λGc Gh hGc hGh X hX0 hX=>?_
  simp -implicitDefEqProofs [hX0,hX,ZR];clear hX0 hX X;refine hK _ _ _ ?_;clear hK hGc hGh;clear K Gc Gh
  repeat apply za
  refine zb ?_;refine zm (by simp) ?_;refine zh (za (zb ?_));refine zr (ZpD x p i c h a1 (hx.fits c hcm)) ?_;exact zg (zi hd (by simp;rfl) (by simp[hk,zp]))
open Go
theorem ZgW:∀(l:List Int),(∀b∈l,b=0\/b=1)->∀i:Nat,(xn l).toNat.testBit i=decide (l[i]?=some 1)
 | [],_,i=>by simp[xn]
 | b :: l,h,i=>by
  have hl:∀b∈l,b=0\/b=1:=λx hx=>h x (by simp[hx])
  have h0:=(Zbk l hl).1;have hb:=h b (by simp);have hn:xn (b :: l)=2*xn l+b:=rfl;cases i with
  | zero =>
   rw[Nat.testBit_zero,hn];simp only[A9,Option.some.injEq];apply decide_eq_decide.2;omega
  | succ i =>
   rw[Nat.testBit_succ,hn];have:(2*xn l+b).toNat / 2=(xn l).toNat:=by omega
   rw[this,ZgW l hl i];simp
theorem Xg(n i:Nat):n.testBit i=decide (yF n i=1):=by rw[CR];rfl
theorem ZpG(n d:Nat)(hn:n<2 ^ 64)(hd:d<64):JV n d=qC n d:=by
 have h01:∀b∈(qZ n).set d 1,b=0\/b=1:=λb hb=>by
  rcases Zbm hb with h | h
  ·exact Zbj n b h
  ·exact .inr h
 apply Nat.eq_of_testBit_eq;intro i;unfold JV X3 qC;rw[ZgW _ h01,if_pos (by omega),Do,AT,CJ,AZ];have hl:=JU n
 by_cases h:d=i
 ·subst h;simp[hl,hd]
 ·rw[if_neg h]
  by_cases hi:i<64
  ·rw[Zex n i hi,Xg];simp[h];omega
  ·rw[Ai (by omega)];have:n.testBit i=false:=CV (Bq hn (Cn (by decide) (by omega)));simp[this,h]
open Go
def jy:List Int->Int
 | []=>0
 | e :: l=>if e≠0 then e else jy l
theorem Zaa{l:List Int}(h:∀e∈l,e=0):jy l=0:=by
 induction l with
 | nil=>rfl
 | cons e l ih=>simp only[jy,h e (by simp),ne_eq,not_true,if_false];exact ih λx hx=>h x (by simp[hx])
theorem Zcs{l:List Int}{k:Nat}{e:Int}(h:∀e∈l.take k,e=0)(hk:l[k]?=some e)(he:e≠0):jy l=e:=by
 induction l generalizing k with
 | nil=>cases hk
 | cons a l ih =>
  cases k with
  | zero=>simp at hk;subst hk;simp[jy,he]
  | succ k =>
   simp only[jy,h a (by simp),ne_eq,not_true,if_false];exact ih (k:=k) (λx hx=>h x (by rw[Dc];simp[hx])) (by simpa using hk)
theorem ZpH(l:List Int):jy l=0<->∀e∈l,e=0:=by
 refine⟨λh=>?_,Zaa⟩
 induction l with
 | nil=>intro e he;cases he
 | cons a l ih =>
  simp only[jy]at h;split at h
  ·rename_i hne;exact absurd h hne
  ·rename_i hne;intro e he;rcases Aq.1 he with rfl | he
   ·simpa using hne
   ·exact ih h e he
def Qq(x:Inst)(p:zC):Int :=
 if qV x=false then 3 else if (p.length:Int)≠x.days then 1 else if jy (p.map (yr x))≠0 then jy (p.map (yr x)) else jy ((List.range x.cust.length).map (YK x p))
structure PlanSz (p:zC):Prop where
 ok:PlanOk p
 f:∀d∈p,d.flatten.length<=1048576
theorem Zct:∀(p:zC) (i:Nat) (x:Stop × Nat),x∈told i p->∃d∈p,x.1∈d.flatten
 | [],_,_,h=>by cases h
 | d :: p,i,x,h=>by
  simp only[told,AC,An]at h;rcases h with ⟨s,hs,rfl⟩ | h
  ·exact⟨d,by simp,hs⟩
  ·obtain⟨d',h1,h2⟩:=Zct p (i+1) x h;exact⟨d',by simp[h1],h2⟩
theorem Zcu{x:Inst}{d:zk}(h:yr x d=0):∀s∈d.flatten,ju x s=true:=by
 intro s hs;obtain⟨t,ht,hst⟩:=BO.1 hs;have hm:zP x t=0:=by
  unfold yr at h;split at h
  ·rename_i u hu;have:=DM hu;simp[h]at this
  ·rename_i hn;rw[Di]at hn;simpa using hn t ht
 have:qH x t=true:=by
  by_cases q:qH x t=true
  ·exact q
  ·simp[zP,q]at hm
 unfold qH at this;simp only[Au,As]at this;exact this.1 s hst
theorem ZpI{x:Inst}{p:zC}(hp:PlanSz p)(hx:InstOk x)(hm:qV x=true)(hd:(p.length:Int)=x.days)(h0:∀d∈p,yr x d=0):Serves x p:=by
 have hdays:1<=x.days/\x.days<=64:=by
  unfold qV at hm;simp only[Au]at hm;have:=hm.1.1.1.1.1.1;simpa[yu] using this
 refine⟨hp.ok,λs hs=>?_,by omega⟩;obtain⟨d,hd,hsd⟩:=Zct p 0 s hs;have:=Zcu (h0 d hd) s.1 hsd;simp[ju]at this;omega
theorem ZpJ{x:Inst}(hx:InstOk x)(hm:qV x=true):CustsOk x:=by
 unfold qV at hm;simp only[Au,decide_eq_true_eq,As]at hm;obtain⟨⟨⟨⟨⟨⟨_,h1⟩,_⟩,_⟩,_⟩,h2⟩,_⟩:=hm;have hk:∀c∈x.cust,c.kind=1\/c.kind=2:=λc hc=>by
  have:=h2 c hc
  by_cases k1:c.kind=1
  ·exact .inl k1
  ·by_cases k2:c.kind=2
   ·exact .inr k2
   ·rw[ZpC c _ k1 k2]at this;cases this
 refine⟨by omega,hk,λc hc=>?_,λc hc=>?_,λc hc=>(hx.cust c hc).pats⟩
 ·have hb:=h2 c hc;rcases hk c hc with k | k
  ·rw[ZgR c _ k]at hb;simp only[Au,uV,decide_eq_true_eq]at hb;obtain⟨_,a,b,c,_⟩:=hb;exact⟨by omega,by omega,by omega⟩
  ·rw[ZgS c _ k]at hb;simp only[Au,yu,decide_eq_true_eq]at hb;obtain⟨⟨⟨⟨⟨a,b⟩,c⟩,_⟩,_⟩,_⟩:=hb;exact⟨by omega,by omega,by omega⟩
 ·have hb:=h2 c hc;rcases hk c hc with k | k
  ·rw[ZgR c _ k]at hb;simp only[Au,Zu,yu,decide_eq_true_eq]at hb;omega
  ·rw[ZgS c _ k]at hb;simp only[Au,YJ,decide_eq_true_eq]at hb;omega
theorem ZpK(x:Inst)(p:zC)(hx:InstOk x)(hp:PlanSz p):Pure prog 67 [.agg (zx x),.agg [L p]] (I (Qq x p)):=by
 have hpn:=hp.ok.n;refine zt Tryz.func67 Tryz.ntmps67 Tryz.results67 λS nx hd=>?_
 refine za (zb ?_);intro v0 v1
 repeat apply za
 refine zb ?_;refine zr (ZgP x hx) ?_;cases hm:qV x with
 | false =>
  refine zn (by simp) ?_;refine za (zb ?_);exact zg (zi hd (by simp;rfl) (by simp[Qq,hm,zp]))
 | true =>
  have hcs:=ZpJ hx hm;have hcn:=hcs.n;refine zm (by simp) ?_;refine zh ?_
  by_cases hpd:(p.length:Int)=x.days
  case neg =>
   repeat apply za
   refine ze [] hpd ?_;refine zn (by simp[hpd]) ?_;refine za (zb ?_);exact zg (zi hd (by simp;rfl) (by simp[Qq,hm,hpd,zp]))
  have hres:Qq x p=if jy (p.map (yr x))≠0 then jy (p.map (yr x)) else jy ((List.range x.cust.length).map (YK x p)):=by simp[Qq,hm,hpd]
  repeat apply za
  refine ze [] hpd ?_;refine zm (by simp[hpd]) ?_;refine zh ?_
  repeat apply za
  refine zb ?_;refine qY (nx:=nx) (σ:=Unit) (λ_=>∀d∈p,yr x d=0) (λ_=>[(2,.ptr nx v0 0),(3,.ptr (nx+1) v1 0)]) (λ_=>S) (λ_=>[.cells v0 25 (zx x),.cells v1 30 [L p]]) ?_ ?_
  ·refine zj (zD (λs:Nat=>s<=p.length/\∀d∈p.take s,yr x d=0) (λk=>[(2,.ptr nx v0 0),(3,.ptr (nx+1) v1 0),(20,L p),(21,I p.length),(22,I k)]) (λ_=>[.cells v0 25 (zx x),.cells v1 30 [L p]]) (λs=>p.length-s) 0 [] (by simp) (by simp[hpd]) (by simp) ?_);rintro k ⟨hk,ho⟩;refine za (zb ?_);refine za (zv rfl (λhc=>?_) (λhc=>?_))
   ·simp at hc;obtain⟨d,tl,a1,a2,a3,e0⟩:=zF rfl p k hc;have hdm:=Ab a1;refine zh (za (zj (za (ze [] (zo hc e0) ?_))));intro v2;refine za (zb ?_);refine zr (Zbq x d hcn (hp.ok.d d hdm) (hp.ok.t d hdm) (hp.f d hdm)) ?_
    by_cases h0:yr x d=0
    ·refine za (ze [] h0 ?_);refine zm (by simp[h0]) ?_;refine zh (zb ?_);exact zq (k+1) [_] ⟨hc,λe he=>by rw[a3]at he;rcases AC.1 he with he | he;exact ho e he;rw[AV.1 he];exact h0⟩ (by omega) (by simp[zu k (by omega)]) rfl rfl
    ·have hf:jy (p.map (yr x))=yr x d:=Zcs (k:=k) (λe he=>by rw[<-List.map_take]at he;obtain⟨u,hu,rfl⟩:=An.1 he;exact ho u hu) (by rw[Aj,a1];rfl) h0;refine za (ze [] h0 ?_);refine zn (by simp[h0]) ?_;refine za (zb ?_);exact zg (zi hd (by simp;rfl) (by rw[hres,hf];simp[h0,zp]))
   ·simp at hc;obtain rfl:k=p.length:=by omega
    rw[Ao]at ho;exact zy (zY () [] ho (by simp) rfl (by simp))
  intro _ hall;have hsv:=ZpI hp hx hm hpd hall;have hf0:jy (p.map (yr x))=0:=Zaa λe he=>by obtain⟨u,hu,rfl⟩:=An.1 he;exact hall u hu
  rw[hf0]at hres;simp only[ne_eq,not_true,if_false]at hres;rw[hres]
  repeat apply za
  refine zb ?_;refine zj (zD (λs:Nat=>s<=x.cust.length/\∀i<s,YK x p i=0) (λk=>[(2,.ptr nx v0 0),(3,.ptr (nx+1) v1 0),(35,I x.cust.length),(36,I k)]) (λ_=>[.cells v0 25 (zx x),.cells v1 30 [L p]]) (λs=>x.cust.length-s) 0 [] (by simp) (by simp) (by simp) ?_);rintro k ⟨hk,ho⟩;refine za (zb ?_);refine za (zv rfl (λhc=>?_) (λhc=>?_))
  ·simp at hc;refine zh (za (zj (za (zb ?_))));refine za (zb ?_);refine zr (ZpF x p k hsv hcs hc) ?_
   by_cases h0:YK x p k=0
   ·refine za (ze [] h0 ?_);refine zm (by simp[h0]) ?_;refine zh (zb ?_);exact zq (k+1) [] ⟨hc,λi hi=>by by_cases q:i=k;rw[q];exact h0;exact ho i (by omega)⟩ (by omega) (by simp[zu k (by omega)]) rfl (by simp)
   ·have hf:jy ((List.range x.cust.length).map (YK x p))=YK x p k:=Zcs (k:=k) (λe he=>by rw[<-List.map_take]at he;obtain⟨u,hu,rfl⟩:=An.1 he;rw[List.take_range]at hu;have:=AJ.1 hu;exact ho u (by omega)) (by rw[Aj,AQ hc];rfl) h0;refine za (ze [] h0 ?_);refine zn (by simp[h0]) ?_;refine za (zb ?_);exact zg (zi hd (by simp;rfl) (by rw[hf];rfl))
  ·simp at hc;obtain rfl:k=x.cust.length:=by omega
   refine zy (za (zb ?_));exact zg (zi hd (by simp;rfl) (by rw[Zaa λe he=>by obtain⟨u,hu,rfl⟩:=An.1 he;exact ho u (AJ.1 hu)];rfl))
open Go Go.Proofs Hp
def Jg(l:List Visit)(day:Int)(i k:Nat):List Stop:=((l.take k).filter (λw=>w.d=day)).map λw=>⟨i,w.q⟩
def YL(v:List (List Visit))(day:Int)(i:Nat):List Stop:=((v.getD i []).filter (λw=>w.d=day)).map λw=>⟨i,w.q⟩
def xh(v:List (List Visit))(day:Int)(n:Nat):List Stop:=(List.range n).flatMap (YL v day)
theorem ZgX(v:List (List Visit))(day:Int)(n:Nat):xh v day (n+1)=xh v day n++YL v day n:=by simp[xh,AO]
theorem ZpL(l:List Visit)(day:Int)(i:Nat):Jg l day i 0=[]:=rfl
theorem ZpM(v:List (List Visit))(day:Int)(i:Nat)(l:List Visit)(h:v[i]?=some l):Jg l day i l.length=YL v day i:=by
 unfold Jg YL;rw[Ao,Aa,h];rfl
theorem ZgY{l:List Visit}{k:Nat}{w:Visit}(h:l[k]?=some w)(day:Int)(i:Nat):Jg l day i (k+1)=Jg l day i k++(if w.d=day then [⟨i,w.q⟩] else []):=by
 unfold Jg;rw[AN,h];simp only[Option.toList_some,BU,List.map_append];split
 ·rename_i e;simp[e]
 ·rename_i e;simp[e]
structure VsOk (m n:Nat) (v:List (List Visit)):Prop where
 len:v.length=m
 ok:∀l∈v,∀w∈l,(0<=w.d/\w.d<n)/\1<=w.q/\w.q<=2147483648
 nd:∀l∈v,(l.map (·.d)).Nodup
 few:∀l∈v,l.length<=1000
theorem VsOk.at{m n:Nat}{v:List (List Visit)}(h:VsOk m n v)(i:Nat):(∀w∈v.getD i [],(0<=w.d/\w.d<n)/\1<=w.q/\w.q<=2147483648)/\((v.getD i []).map (·.d)).Nodup:=by
 rw[Aa];cases e:v[i]? with
 | none=>exact⟨by simp,by simp⟩
 | some l=>exact⟨h.ok l (Ab e),h.nd l (Ab e)⟩
theorem ZpN{l:List Visit}(h:(l.map (·.d)).Nodup)(day:Int):(l.filter (λw=>w.d=day)).length<=1:=by
 have h1:=(List.filter_sublist (p:=λw:Visit=>decide (w.d=day)) (l:=l)).map (·.d);have h2:=h.sublist h1;have h3:∀w∈l.filter (λw=>w.d=day),w.d=day:=λw hw=>by simpa using (Bd.1 hw).2
 generalize l.filter (λw=>decide (w.d=day))=m at h2 h3
 match m,h2,h3 with
 | [],_,_=>simp
 | [_],_,_=>simp
 | a :: b :: m,h2,h3 =>
  exfalso;have ea:=h3 a (by simp);have eb:=h3 b (by simp);simp only[Ax,CA,Aq]at h2;exact h2.1 (.inl (by rw[ea,eb]))
theorem ZpO{m n:Nat}{v:List (List Visit)}(h:VsOk m n v)(day:Int)(i:Nat):(YL v day i).length<=1:=by
 unfold YL;rw[List.length_map];exact ZpN (h.at i).2 day
theorem ZpP{m n:Nat}{v:List (List Visit)}(h:VsOk m n v){day:Int}{i:Nat}{s:Stop}(hs:s∈YL v day i):s.c=i/\1<=s.q/\s.q<=2147483648:=by
 obtain⟨w,hw,rfl⟩:=An.1 hs;exact⟨rfl,((h.at i).1 w (Bd.1 hw).1).2⟩
theorem Zcv{m n:Nat}{v:List (List Visit)}(h:VsOk m n v)(day:Int):∀k:Nat,(xh v day k).length<=k/\(∀s∈xh v day k,(0<=s.c/\s.c<k)/\1<=s.q/\s.q<=2147483648)/\((xh v day k).map (·.c)).Nodup
 | 0=>⟨by simp[xh],by simp[xh],by simp[xh]⟩
 | k+1=>by
  obtain⟨h1,h2,h3⟩:=Zcv h day k;have h4:=ZpO h day k;have h5:∀s∈YL v day k,s.c=k/\1<=s.q/\s.q<=2147483648:=λs hs=>ZpP h hs
  rw[ZgX];refine⟨by rw[Ar];omega,λs hs=>?_,?_⟩
  ·rcases AC.1 hs with hs | hs
   ·have:=h2 s hs;omega
   ·have:=h5 s hs;omega
  ·rw[List.map_append];generalize YL v day k=e at h4 h5
   match e,h4,h5 with
   | [],_,_=>simpa using h3
   | [s],_,h5 =>
    refine ZeM _ _ h3 λhm=>?_
    obtain⟨u,hu,e⟩:=An.1 hm;have q1:=h2 u hu;have q2:=h5 s (by simp);have q3:u.c=s.c:=e;omega
   | _ :: _ :: _,h4,_=>simp at h4
structure InstH (x:Inst):Prop where
 cust:x.cust.length<=1000
 diag:arc x 0 0=0
 arc:qU x
 veh:0<=x.veh
theorem ZgZ{x:Inst}(hx:InstH x){n:Nat}{v:List (List Visit)}(h:VsOk x.cust.length n v)(day:Int):SOk x (xh v day x.cust.length):=by
 obtain⟨h1,h2,h3⟩:=Zcv h day x.cust.length;have:=hx.cust;exact⟨by omega,hx.arc,hx.veh,by omega,λs hs=>by have:=h2 s hs;unfold qe;omega,h3⟩
def Xh(x:Inst)(v:List (List Visit))(b:Int)(n:Nat):List (zk × Int):=(List.range n).map λd:Nat=>uE x b (xh v d x.cust.length)
def xR(x:Inst)(v:List (List Visit))(b:Int)(n:Nat):zC:=(Xh x v b n).map (·.1)
def jm(x:Inst)(v:List (List Visit))(b:Int)(n:Nat):List Int:=(Xh x v b n).map (·.2)
theorem Zcw(x:Inst)(v:List (List Visit))(b:Int)(n:Nat):(xR x v b n).length=n:=by simp[xR,Xh]
theorem Zg0(x:Inst)(v:List (List Visit))(b:Int)(n:Nat):(jm x v b n).length=n:=by simp[jm,Xh]
theorem ZpQ(x:Inst)(v:List (List Visit))(b:Int)(n:Nat):xR x v b (n+1)=xR x v b n++[(uE x b (xh v n x.cust.length)).1]:=by simp[xR,Xh,AO]
theorem ZpR(x:Inst)(v:List (List Visit))(b:Int)(n:Nat):jm x v b (n+1)=jm x v b n++[(uE x b (xh v n x.cust.length)).2]:=by simp[jm,Xh,AO]
open Go Go.Proofs Hp
theorem ZpS(x:Inst)(v:List (List Visit))(day:Int)(n:Nat)(hx:x.cust.length<=1000)(hv:VsOk x.cust.length n v):Pure prog 250 [.agg (zx x),L v,I day] (L (xh v day x.cust.length)):=by
 have hvl:=hv.len;have hso:=λk=>(Zcv hv day k).1
 have hmi:jR (x.cust.length:Int) (x.cust.length:Int)=x.cust.length:=by unfold jR;simp
 refine zt Tryz.func250 Tryz.ntmps250 Tryz.results250 λS nx hd=>?_
 refine za (zb ?_);intro v0;refine za (zb ?_);refine za (jf 7 100 2 rfl λv1=>?_);refine za (zb ?_);refine zj (zD (λs:Nat × List Stop × Nat=>s.1<=x.cust.length/\s.2.1=xh v day s.1) (λ(i,out,w)=>[(1,L v),(2,I day),(7,.sl (nx+1) w 2 0 out.length),(16,I x.cust.length),(17,I i)]) (λ(i,out,w)=>[.cells v0 25 (zx x),.cells w 100 (out.flatMap Enc.enc)]) (λs=>x.cust.length-s.1) (0,[],v1) [] (by simp[xh]) (by simp[hvl,hmi]) (by simp) ?_);rintro⟨i,out,w⟩ ⟨hi,ho⟩;simp only at hi ho ⊢;refine za (zb ?_);refine za (zv rfl (λhc=>?_) (λhc=>?_))
 ·simp at hc;have hiv:i<v.length:=by omega
  obtain⟨l,tl,a1,a2,a3,e0⟩:=zF rfl v i hiv;have hll:=hv.few l (Ab a1);have hoi:=hso i;refine zh (za (zj (za (zb ?_))));refine za (ze [] (zo e0 hiv) ?_);refine zj (zD (λs:Nat × List Stop × Nat=>s.1<=l.length/\s.2.1=xh v day i++Jg l day i s.1/\s.2.1.length<=i+s.1) (λ(k,out,w)=>[(1,L v),(2,I day),(7,.sl (nx+1) w 2 0 out.length),(8,I i),(16,I x.cust.length),(17,I i),(23,L l),(24,I l.length),(25,I k)]) (λ(k,out,w)=>[.cells v0 25 (zx x),.cells w 100 (out.flatMap Enc.enc)]) (λs=>l.length-s.1) (0,out,w) [] ⟨by simp,by simp[ZpL,ho],by simp[ho];omega⟩ (by simp) (by simp) ?_);clear ho;rintro⟨k,out,w⟩ ⟨hk,ho,hol⟩;simp only at hk ho hol ⊢;refine za (zb ?_);refine za (zv rfl (λhc2=>?_) (λhc2=>?_))
  ·simp at hc2;obtain⟨s,tl2,b1,b2,b3,e1,e2⟩:=el 2 rfl l k hc2;refine zh (za (zj (za (ze [] (zE e1 e2 hc2) ?_))));intro v2;refine za (zb ?_)
   by_cases hd:s.d=day
   ·repeat apply za
    refine zn (by simp[hd]) ?_;refine zb ?_;refine⟨by omega,?_⟩;refine zb ?_;exact zq (k+1,out++[⟨i,s.q⟩],w+1) [_] ⟨hc2,by rw[ZgY b1,if_pos hd,ho];simp,by simp;omega⟩ (by simp;omega) (by simp[zu k (by omega)]) rfl (by simp;rfl)
   ·repeat apply za
    refine zm (by simp[hd]) ?_;refine zh (zb ?_);exact zq (k+1,out,w) [_] ⟨hc2,by rw[ZgY b1,if_neg hd,ho];simp,by dsimp only;omega⟩ (by simp;omega) (by simp[zu k (by omega)]) rfl (by simp;rfl)
  ·simp at hc2;obtain rfl:k=l.length:=by omega
   rw[ZpM v day i l a1,<-ZgX]at ho;refine zy (zb ?_);exact zq (i+1,out,w) [] ⟨hc,ho⟩ (by simp;omega) (by simp[zu i (by omega)]) rfl (by simp)
 ·simp at hc;obtain rfl:i=x.cust.length:=by omega
  refine zy (yb 1 rfl ?_);refine za (zb ?_);exact zg (zi hd (by simp;rfl) (by simp[zp,ho]))
open Go
section
variable {P:Program} {r:Rd} {n N:Nat} {Q:Exit->(Nat->PV)->Store->Prop} {F:Nat->PV} {c:Code}
theorem ZpT{S1 T:Store}{G:Nat->PV}{id ver e:Nat}{cs:List PV}(hid:S1 id=.cells ver e cs)(hT:T id=.dead)(hat:∀o,T o=.dead\/T o=S1 o\/T o=xD id ver cs (S1 o))
  (hG:∀i,G i=F i\/G i=qi id ver cs (F i)) (h:PW P r n N c Q G T):PW P r n N c Q F S1:=by
 refine Yw (F':=G) (S':=T) (λC w a st=>?_) h;have hver:∀o v,(T o).ver=some v->(S1 o).ver=some v:=by
  intro o v hv;rcases hat o with q | q | q
  ·rw[q]at hv;cases hv
  ·rw[q]at hv;exact hv
  ·rw[q,Zef]at hv;exact hv
 have hne:∀o,T o≠.dead->S1 o≠.dead:=by
  intro o ho hd;rcases hat o with q | q | q
  ·exact ho q
  ·exact ho (q.trans hd)
  ·rw[hd]at q;exact ho q
 have hM:∀b,C.M T b->C.M S1 b:=λb ⟨o,k,ho,hl⟩=>⟨o,k,hne o ho,hl⟩
 have hstep:Step C S1 w C T w:=⟨rfl,⟨rfl,Ag _⟩,rfl,Ag _,Ag _,Ag _,λb _ hb=>⟨rfl,λh=>hb (hM b h)⟩,λo v1 hv=>.inr ⟨v1,hver o v1 hv,Ag _,λ_=>rfl⟩⟩;have hrel:∀{p u},Rel C S1 w p u->Rel C T w (qi id ver cs p) u:=λh=>Vv st.sim hid hT hne hstep h
 refine⟨C,⟨⟨λo ho=>st.sim.lt o (hne o ho),λo v hv=>st.sim.clk o v (hver o v hv),λo o' b k k' ho ho'=>st.sim.dist o o' b k k' (hne o ho) (hne o' ho'),?_,?_⟩,st.size,λi=>?_,r.keep hstep st.v⟩,hstep⟩
 ·intro o v e' ds ho;rcases hat o with q | q | q
  ·rw[q]at ho;cases ho
  ·rw[q]at ho;rcases st.sim.cells o v e' ds ho with hn | ⟨b,k,c,h1,h2,h3,h4,h5,h6⟩
   ·exact .inl hn
   ·exact .inr ⟨b,k,c,h1,h2,h3,h4,h5,λi p u hp hu=>(h6 i p u hp hu).mono hstep⟩
  ·rw[q]at ho;cases hs:S1 o with
   | dead=>rw[hs]at ho;cases ho
   | map v es=>rw[hs]at ho;cases ho
   | cells v2 e2 ds2 =>
    rw[hs]at ho;cases ho;rcases st.sim.cells o _ _ ds2 hs with ⟨h1,h2⟩ | ⟨b,k,c,h1,h2,h3,h4,h5,h6⟩
    ·exact .inl ⟨h1,by rw[h2];rfl⟩
    ·refine .inr ⟨b,k,c,h1,h2,h3,by simpa using h4,λi v hi hv=>h5 i v (by simpa using hi) hv,λi p u hp hu=>?_⟩;rw[Aj]at hp;obtain⟨p0,hp0,rfl⟩:=Ap.1 hp;exact hrel (h6 i p0 u hp0 hu)
 ·intro o v es ho;have hs:S1 o=.map v es:=by
   rcases hat o with q | q | q
   ·rw[q]at ho;cases ho
   ·rw[q]at ho;exact ho
   ·rw[q]at ho;cases hs:S1 o with
    | dead=>rw[hs]at ho;cases ho
    | map v es=>rw[hs]at ho;exact ho
    | cells v2 e2 ds2=>rw[hs]at ho;cases ho
  obtain⟨b,k,ms,cl,h1,h2,h3,h4⟩:=st.sim.maps o v es hs;exact⟨b,k,ms,cl,h1,h2,h3,λi x m hx hm=>⟨(h4 i x m hx hm).1,(h4 i x m hx hm).2.mono hstep⟩⟩
 ·rcases hG i with q | q
  ·rw[q];exact(st.fr i).mono hstep
  ·rw[q];exact hrel (st.fr i)
def vI{α:Type}(base sz:Nat)(ws:Nat->Nat)(rows:List (List α)):List PV:=(List.range rows.length).map λi=>.sl (base+i) (ws i) sz 0 (rows.getD i []).length
theorem Xi{α:Type}(base sz:Nat)(ws:Nat->Nat)(rows:List (List α)):(vI base sz ws rows).length=rows.length:=by simp[vI]
theorem Wt{α:Type}(base sz:Nat)(ws:Nat->Nat)(rows:List (List α))(i:Nat)(h:i<rows.length):(vI base sz ws rows)[i]?=some (.sl (base+i) (ws i) sz 0 (rows.getD i []).length):=by
 simp[vI,h]
theorem Zcx{α:Type}(base sz:Nat)(ws:Nat->Nat)(rows:List (List α))(i:Nat)(h:i<rows.length):∃tl,(vI base sz ws rows).drop i=.sl (base+i) (ws i) sz 0 (rows.getD i []).length :: tl:=by
 refine⟨(vI base sz ws rows).drop (i+1),?_⟩;have hl:i<(vI base sz ws rows).length:=by rw[Xi];exact h
 rw[List.drop_eq_getElem_cons hl];have:=Wt base sz ws rows i h;rw[Ad hl]at this;rw[Option.some.inj this]
structure RowsAt {α:Type} [Enc α] (T:Store) (A va tA base e sz:Nat) (ws:Nat->Nat) (rows:List (List α)):Prop where
 arr:T A=.cells va tA (vI base sz ws rows)
 row:∀i,i<rows.length->T (base+i)=.cells (ws i) e ((rows.getD i []).flatMap Enc.enc)
 out:A<base
theorem RowsAt.other{α:Type}[Enc α]{T T':Store}{A va tA base e sz:Nat}{ws:Nat->Nat}{rows:List (List α)}(h:RowsAt T A va tA base e sz ws rows)(hT:∀o,o=A\/(base<=o/\o<base+rows.length)->T' o=T o):RowsAt T' A va tA base e sz ws rows :=
 ⟨(hT A (.inl rfl)).trans h.arr,λi hi=>(hT _ (.inr ⟨by omega,by omega⟩)).trans (h.row i hi),h.out⟩
theorem RowsAt.turn{α:Type}[Enc α]{T T':Store}{A va tA base e sz:Nat}{ws:Nat->Nat}{rows:List (List α)}(h:RowsAt T A va tA base e sz ws rows){i:Nat}(hi:i<rows.length)(w:Nat)(l:List α)
  (hA:T' A=.cells va tA ((vI base sz ws rows).set i (.sl (base+i) w sz 0 l.length))) (hB:T' (base+i)=.cells w e (l.flatMap Enc.enc)) (hT:∀o,o≠A->o≠base+i->T' o=T o):RowsAt T' A va tA base e sz (λk=>if k=i then w else ws k) (rows.set i l):=by
 have hout:=h.out;refine⟨?_,λk hk=>?_,h.out⟩
 ·rw[hA];congr 1;apply A7;intro k;rw[AZ,Xi]
  by_cases hki:i=k
  ·subst hki;rw[if_pos rfl,if_pos hi,Wt _ _ _ _ _ (by simpa using hi)];simp[hi]
  ·rw[if_neg hki]
   by_cases hk:k<rows.length
   ·rw[Wt _ _ _ _ _ hk,Wt _ _ _ _ _ (by simpa using hk)];simp only[Aa,AP hki,if_neg (λe:k=i=>hki e.symm)]
   ·rw[Ai (by rw[Xi];omega),Ai (by rw[Xi];simp;omega)]
 ·rw[Bz]at hk
  by_cases hki:k=i
  ·subst hki;rw[hB,if_pos rfl];simp[hi]
  ·rw[hT _ (by omega) (by omega),h.row k hk,if_neg hki];simp only[Aa,AP (λe:i=k=>hki e.symm)]
theorem ZpU{α:Type}(base sz:Nat)(ws:Nat->Nat)(m:Nat):vI (α:=α) base sz ws (List.replicate m [])=(List.range m).map λi=>.sl (base+i) (ws i) sz 0 0:=by
 unfold vI;rw[BH];refine AK λi hi=>?_
 have:=AJ.1 hi;simp[this]
theorem Zg1{α:Type}[Enc α](A va tA base e sz m:Nat)(hAb:A<base):∀(j k:Nat) (T:Store) (ws:Nat->Nat),k+j=m->T A=.cells va tA ((List.range k).map (λi=>.sl (base+i) (ws i) sz 0 0)++List.replicate j (.sc (.slice none 0 0))) ->
  (∀i,i<k->T (base+i)=.cells (ws i) e [])->zT (base+k) T ->
  (∀(T':Store) (ws':Nat->Nat),RowsAt T' A va tA base e sz ws' (List.replicate m ([]:List α))->(∀o,o≠A->o<base->T' o=T o)->zT (base+m) T'->PW P r n N c Q F T')->PW P r n N c Q F T
 | 0,k,T,ws,hk,hA,hrow,hd,h=>by
  obtain rfl:k=m:=by omega
  refine h T ws ⟨by rw[hA,ZpU];simp,λi hi=>?_,hAb⟩ (λ_ _ _=>rfl) hd;rw[BH]at hi;rw[hrow i hi];simp[hi]
 | j+1,k,T,ws,hk,hA,hrow,hd,h=>by
  have hget:((List.range k).map (λi=>PV.sl (base+i) (ws i) sz 0 0)++List.replicate (j+1) (.sc (.slice none 0 0)))[k]?=some (.sc (.slice none 0 0)):=by
   rw[Ak (by simp)];simp
  refine Za3 (o:=A) k e sz hA hget (ZO (X:=λid v=>PW P r n N c Q F ((T.set id (.cells v e [])).set A (.cells va tA (((List.range k).map (λi=>PV.sl (base+i) (ws i) sz 0 0)++List.replicate (j+1) (PV.sc (.slice none 0 0))).set k (.sl id v sz 0 0))))) (base+k) (hd _ (Ag _)) λv=>?_);refine Zg1 A va tA base e sz m hAb j (k+1) _ (λi=>if i=k then v else ws i) (by omega) ?_ ?_ ?_ λT' ws' hR hT' hd'=>h T' ws' hR (λo ho hob=>?_) hd'
  ·rw[q11];congr 1;rw[Bx _ _ (by simp),AO,List.map_append];simp only[List.length_map,List.length_range,Bw,BG,Ba,Ax,Be,if_true];rw[List.append_assoc];congr 1;refine AK λi hi=>?_
   have:=AJ.1 hi;rw[if_neg (by omega)]
  ·intro i hi;rw[q10 _ _ _ _ (by omega)]
   by_cases hik:i=k
   ·subst hik;rw[q11,if_pos rfl]
   ·rw[q10 _ _ _ _ (by omega),if_neg hik];exact hrow i (by omega)
  ·intro i hi;rw[q10 _ _ _ _ (by omega),q10 _ _ _ _ (by omega)];exact hd i (by omega)
  ·rw[hT' o ho hob,q10 _ _ _ _ ho,q10 _ _ _ _ (by omega)]
theorem ZpV{α:Type}[Enc α](A va tA base e sz m:Nat){T:Store}(hA:T A=.cells va tA (List.replicate m (.sc (.slice none 0 0))))(hd:zT base T)
  (h:∀(T':Store) (ws:Nat->Nat),RowsAt T' A va tA base e sz ws (List.replicate m ([]:List α))->(∀o,o≠A->o<base->T' o=T o)->zT (base+m) T'->PW P r n N c Q F T'):PW P r n N c Q F T:=by
 have hAb:A<base:=by
  rcases Bf A base with q | q
  ·exact q
  ·rw[hd A q]at hA;cases hA
 exact Zg1 A va tA base e sz m hAb m 0 T (λ_=>0) (by omega) (by simpa using hA) (λi hi=>by omega) (by simpa using hd) h
theorem Zg2{nx:Nat}{S:Store}{obs:List Ob}{id ver e0:Nat}{cs:List PV}(i e sz:Nat)(hlt:id<nx)(hs:S id=.cells ver e0 cs)(hi:cs[i]?=some (.sc (.slice none 0 0)))
  (h:∀v,PW P r n N c Q F (ext (S.set id (.cells ver e0 (cs.set i (.sl (nx+obs.length) v sz 0 0)))) nx (obs++[.cells v e []]))):PW P r n N c Q F (ext S nx obs) :=
 Za3 (o:=id) i e sz (by rw[zA hlt];exact hs) hi (ZO (X:=λid' v=>PW P r n N c Q F (((ext S nx obs).set id' (.cells v e [])).set id (.cells ver e0 (cs.set i (.sl id' v sz 0 0))))) _ uN λv=>by
  rw[qN,qc _ hlt];exact h v)
end
open Go Go.Proofs
instance:Enc Mv:=⟨λm=>uU m,5,λ_=>rfl,λ_=>rfl⟩
@[simp] theorem ZxY(m:Mv):Enc.enc m=uU m:=rfl
@[simp high] theorem ZxZ(l:List Mv):(l.flatMap Enc.enc).length=l.length*5:=j4 l
@[simp high] theorem Zx0(l:List Mv):(l.flatMap Enc.enc).take (l.length*5)=l.flatMap Enc.enc:=YA l
open Go Go.Proofs Hp
abbrev xy(x:Inst)(v:PV)(b:Int)(p f pr:PV):List PV:=[I x.days,I x.veh,I x.cap,I x.len,L x.cust,L x.dist,v,I b,p,f,pr]
theorem ZpW{S:Store}{id ver idF vF:Nat}(x:Inst)(v p pr:PV)(b:Int)(fs:List Int)(hS:S id=.cells ver 235 (xy x v b p (.sl idF vF 1 0 fs.length) pr))(hF:S idF=.cells vF 47 (fs.flatMap Enc.enc))(hl:fs.length<=1000):
  Spec prog 212 [.ptr id ver 0] S (λq S'=>q=I (jy fs)/\S'=S):=by
 refine yh Tryz.func212 Tryz.ntmps212 Tryz.results212 λnx hd=>?_
 have hlt:id<nx:=yZ hd hS (by simp);have hltF:idF<nx:=yZ hd hF (by simp);have xw:=λobs=>zA (S:=S) (obs:=obs) hlt
 have xf:=λobs=>zA (S:=S) (obs:=obs) hltF
 refine za (zb ?_)
 repeat apply za
 refine ze [] (zo xw hS) ?_;refine zj (zD (λk:Nat=>k<=fs.length/\∀e∈fs.take k,e=0) (λk=>[(8,.sl idF vF 1 0 fs.length),(9,I fs.length),(10,I k)]) (λ_=>[]) (λk=>fs.length-k) 0 [] (by simp) (by simp) (by simp) ?_);rintro k ⟨hk,h0⟩;refine za (zb ?_);refine za (zv rfl (λhc=>?_) (λhc=>?_))
 ·simp at hc;obtain⟨e,tl,a1,a2,a3,e0⟩:=zF rfl fs k hc;refine zh (za (zj (za (ze [] (zS xf hF e0 hc) ?_))));refine za (zb ?_)
  by_cases he:e=0
  ·repeat apply za
   refine zm (by simp[he]) ?_;refine zh (zb ?_);exact zq (k+1) [] ⟨hc,λy hy=>by rw[a3]at hy;rcases AC.1 hy with h | h;exact h0 y h;rw[AV.1 h];exact he⟩ (by omega) (by simp[zu k (by omega)]) rfl (by simp)
  ·repeat apply za
   refine zn (by simp[he]) ?_;refine za (zb ?_);exact zg ⟨_,S,rfl,⟨by simp[zp,Zcs h0 a1 he],rfl⟩,zN hd⟩
 ·simp at hc;obtain rfl:k=fs.length:=by omega
  rw[Ao]at h0;refine zy (za (zb ?_));exact zg ⟨_,S,rfl,⟨by simp[zp,Zaa h0],rfl⟩,zN hd⟩
theorem ZpX{S:Store}{id ver idD vD idF vF:Nat}{x:Inst}{v:List (List Visit)}{b:Int}{pr:PV}{ds:zC}{fs:List Int}{n:Nat}(k:Nat)(hS:S id=.cells ver 235 (xy x (L v) b (.sl idD vD 1 0 ds.length) (.sl idF vF 1 0 fs.length) pr))
  (hD:S idD=.cells vD 39 (ds.flatMap Enc.enc)) (hF:S idF=.cells vF 47 (fs.flatMap Enc.enc)) (d1:id≠idD) (d2:id≠idF) (d3:idD≠idF) (hx:InstH x) (hv:VsOk x.cust.length n v) (hb:b<=9223372036854775807) (hdl:ds.length<=1000) (hfl:fs.length<=1000) :
  Spec prog 211 [.ptr id ver 0,I k] S (λ_ S'=>S'=((S.set id (.cells ver 235 (xy x (L v) b (.sl idD (vD+1) 1 0 (ds.length+1)) (.sl idF (vF+1) 1 0 (fs.length+1)) pr))).set idD (.cells (vD+1) 39 ((ds++[(uE x b (xh v k x.cust.length)).1]).flatMap Enc.enc))).set idF
   (.cells (vF+1) 47 ((fs++[(uE x b (xh v k x.cust.length)).2]).flatMap Enc.enc))):=by
 have hst:=ZpS x v k n hx.cust hv;have hso:=Zo0 (ZgZ hx hv k) hx.diag hb;generalize xh v k x.cust.length=st at hst hso ⊢;generalize uE x b st=r at hso ⊢;obtain⟨d,e⟩:=r;simp only at hso ⊢;refine yh Tryz.func211 Tryz.ntmps211 Tryz.results211 λnx hd=>?_
 have hlt:id<nx:=yZ hd hS (by simp);have hltD:idD<nx:=yZ hd hD (by simp);have hltF:idF<nx:=yZ hd hF (by simp);have xw:=λobs=>(zA (S:=S) (obs:=obs) hlt).trans hS
 have xd:=λobs=>(zA (S:=S) (obs:=obs) hltD).trans hD
 have xf:=λobs=>(zA (S:=S) (obs:=obs) hltF).trans hF
 have g1:¬nx<=id:=by omega
 have g2:¬nx<=idD:=by omega
 have g3:¬nx<=idF:=by omega
 have yw:=λ(o:Ob) obs=>(zA (S:=S.set idD o) (obs:=obs) hlt).trans ((q10 _ _ _ _ d1).trans hS)
 have zw:=λ(o o':Ob) obs=>(zA (S:=(S.set idD o).set id o') (obs:=obs) hlt).trans (q11 _ _ _)
 have zf:=λ(o o':Ob) obs=>(zA (S:=(S.set idD o).set id o') (obs:=obs) hltF).trans ((q10 _ _ _ _ d2.symm).trans ((q10 _ _ _ _ d3.symm).trans hF))
 have uw:=λ(o o' o'':Ob) obs=>(zA (S:=((S.set idD o).set id o').set idF o'') (obs:=obs) hlt).trans ((q10 _ _ _ _ d2).trans (q11 _ _ _))
 refine za (zz (some [id]) (Row.pures [0,1,2,3,4,5,6,7,8,9,10,11,12,13,14,15,16,17,18,19,20,21] (.alt 22 (.alt 23 (Row.pures [24] .done) .stop) .stop)) mixed xw ?_);refine zJ (hst) xw ?_;refine zJ (hso) xw ?_;intro v2;refine za (zz (some [nx]) (Row.pures [0,1,2,3,4,6,7] (.alt 5 (.alt 8 (Row.pures [9,10,11] (.alt 12 (.done) .stop)) .stop) .stop)) mixed (yG xw xd yw g1 g2) ?_);refine⟨by omega,?_⟩;refine ze [] (yG zw zf uw g1 g3) ?_;refine⟨by omega,?_⟩;have e1:∀(a b c d:Ob),(((S.set idD a).set id b).set idF c).set id d=((S.set id d).set idD a).set idF c:=by
  intro a b c d;funext i;simp only[Store.set]
  by_cases h1:i=id
  ·subst h1;simp[d1,d2]
  ·simp only[h1,if_false]
 have hdd:∀(a b c:Ob),zT nx (((S.set id a).set idD b).set idF c):=by
  intro a b c i hi;rw[q10 _ _ _ _ (by omega),q10 _ _ _ _ (by omega),q10 _ _ _ _ (by omega)];exact hd i hi
 rw[e1];exact⟨_,_,rfl,by simp,zN (hdd _ _ _)⟩
theorem ZpY{S:Store}{id ver:Nat}(x:Inst)(v p f pr:PV)(b:Int)(fn:FuncId)(fs:List PV)(n:Nat)(hn:x.days=n)(hn2:n<=1000)(hS:S id=.cells ver 235 (xy x v b p f pr))(St:Nat->Store)(h0:St 0=S)
  (hSt:∀nx,zT nx S->∀k,k<=n->zT nx (St k)) (hstep:∀k,k<n->Spec prog fn (fs++[I k]) (St k) (λ_ S'=>S'=St (k+1))) :
  Spec prog 173 [.ptr id ver 0,.fn (.func fn) fs []] S (λ_ S'=>S'=St n):=by
 refine yh Tryz.func173 Tryz.ntmps173 Tryz.results173 λnx hd=>?_
 have hlt:id<nx:=yZ hd hS (by simp);have xw:=λobs=>(zA (S:=S) (obs:=obs) hlt).trans hS
 have hSt:=hSt nx hd;refine za (ze [] (zo xw hn) ?_);refine zj (jr (σ:=Nat) (λk=>k<=n) (λk=>[(1,.fn (.func fn) fs []),(9,I n),(10,I k)]) (λk=>St k) (λ_=>[]) (λk=>n-k) (zY 0 [] (by simp) (by simp) h0 (by simp)) ?_);rintro k hk;refine za (zb ?_);refine za (zv rfl (λhc=>?_) (λhc=>?_))
 ·simp at hc;refine zh (za (zj (za (zb ?_))));refine zb ?_;refine λhsuf=>(Spec.mono (by rw[qB (hSt k hk)];simpa using hstep k hc) ?_).v
  rintro _ _ rfl;refine⟨St (k+1),[],(qB (hSt (k+1) hc)).symm,zL hsuf ?_⟩;refine zb ?_;exact zq (k+1) [] hc (by omega) (by simp[zu k (by omega)]) rfl (by simp)
 ·simp at hc;obtain rfl:k=n:=by omega
  refine zy ?_;exact⟨_,_,rfl,rfl,zN (hSt k (Ag _))⟩
theorem ZpZ{S:Store}{nx id ver:Nat}(hd:zT nx S){x:Inst}{v:List (List Visit)}{v0 p0 f0 pr:PV}{b:Int}{n:Nat}(hS:S id=.cells ver 235 (xy x v0 b p0 f0 pr))(hx:InstH x)(hn:x.days=n)(hn2:n<=1000)(hv:VsOk x.cust.length n v)(hb:b<=9223372036854775807):
  Spec prog 176 [.ptr id ver 0,L v] S (λq S'=>q=I (jy (jm x v b n))/\∃vD vF,S'=ext (S.set id (.cells ver 235 (xy x (L v) b (.sl nx vD 1 0 (xR x v b n).length) (.sl (nx+1) vF 1 0 (jm x v b n).length) pr))) nx
   [.cells vD 39 ((xR x v b n).flatMap Enc.enc),.cells vF 47 ((jm x v b n).flatMap Enc.enc)]):=by
 have hpl:=Zcw x v b;have hfl:=Zg0 x v b;refine ut hd Tryz.func176 Tryz.ntmps176 Tryz.results176 ?_;have hlt:id<nx:=yZ hd hS (by simp);have g1:¬nx<=id:=by omega
 have xw:=λobs=>(zA (S:=S) (obs:=obs) hlt).trans hS
 have yw:=λ(o:Ob) obs=>(zA (S:=S.set id o) (obs:=obs) hlt).trans (q11 _ _ _)
 refine za (zb ?_);refine za (ze [] (zS xw yw g1 Store.set_set) ?_);refine Zg2 (id:=id) 8 39 1 hlt (q11 _ _ _) rfl λvD=>?_
 rw[Store.set_set];refine Zg2 (id:=id) 9 47 1 hlt (q11 _ _ _) rfl λvF=>?_
 rw[Store.set_set];simp only[AW,Ba,Ae,Ah,List.cons_append,AS,Bm,AR];generalize hSt:(λk:Nat=>ext (S.set id (.cells ver 235 (xy x (L v) b (.sl nx (vD+k) 1 0 (xR x v b k).length) (.sl (nx+1) (vF+k) 1 0 (jm x v b k).length) pr))) nx
   [.cells (vD+k) 39 ((xR x v b k).flatMap Enc.enc),.cells (vF+k) 47 ((jm x v b k).flatMap Enc.enc)])=St
 have hSk:∀k,St k=ext (S.set id (.cells ver 235 (xy x (L v) b (.sl nx (vD+k) 1 0 (xR x v b k).length) (.sl (nx+1) (vF+k) 1 0 (jm x v b k).length) pr))) nx
   [.cells (vD+k) 39 ((xR x v b k).flatMap Enc.enc),.cells (vF+k) 47 ((jm x v b k).flatMap Enc.enc)]:=λk=>by rw[<-hSt]
 have h0:St 0=ext (S.set id (.cells ver 235 (xy x (L v) b (.sl nx vD 1 0 0) (.sl (nx+1) vF 1 0 0) pr))) nx [.cells vD 39 [],.cells vF 47 []]:=hSk 0;have hid:∀k,St k id=.cells ver 235 (xy x (L v) b (.sl nx (vD+k) 1 0 (xR x v b k).length) (.sl (nx+1) (vF+k) 1 0 (jm x v b k).length) pr):=λk=>by rw[hSk k,zA hlt,q11]
 have hstep:∀k,k<n->Spec prog 211 ([.ptr id ver 0]++[I k]) (St k) (λ_ S'=>S'=St (k+1)):=by
  intro k hk;have h1:=hpl k;have h2:=hfl k;refine(ZpX (idD:=nx) (idF:=nx+1) (n:=n) k (hid k) (by rw[hSk k];simp) (by rw[hSk k];simp) (by omega) (by omega) (by omega) hx hv hb (by omega) (by omega)).mono ?_;rintro _ _ rfl;rw[hSk k,hSk (k+1),qc _ hlt,Store.set_set,yg _ (by omega) (by simp),yg _ (by omega) (by simp),ZpQ,ZpR];simp[Nat.add_assoc]
 have hdead:∀m,zT m (St 0)->∀k,k<=n->zT m (St k):=by
  intro m hm k _ i hi;have hge:nx+1<m:=by
   rcases Bf (nx+1) m with q | q
   ·exact q
   ·have:=hm (nx+1) q;rw[hSk 0]at this;simp at this
  rw[hSk k];simp only[ext];rw[if_neg (by omega),Aa,Ai (by simp;omega)];rfl
 rw[<-h0];have hn0:=hid 0;have hnx2:nx+2=nx+[Ob.cells (vD+0) 39 ((xR x v b 0).flatMap Enc.enc),.cells (vF+0) 47 ((jm x v b 0).flatMap Enc.enc)].length:=rfl;have hb0:∀k,St k=ext (St k) (nx+2) []:=λk=>by
  refine(qB ?_).symm;rw[hSk k];exact jF (obs:=[_,_])
 rw[hb0 0];refine za (zb ?_);refine λhsuf=>((ZpY x (L v) _ _ pr b _ _ n hn hn2 (by rw[<-hb0 0];exact hn0) St (hb0 0) (λm hm k hk=>hdead m (by rw[hb0 0];exact hm) k hk) hstep).mono ?_).v
 rintro _ _ rfl;refine⟨_,_,hb0 n,zL hsuf ?_⟩;refine za (zb ?_);refine λhsuf=>((ZpW (idF:=nx+1) x _ _ _ _ (jm x v b n) (by rw[<-hb0 n];exact hid n) (by rw[<-hb0 n,hSk n];simp) (by rw[hfl];exact hn2)).mono ?_).v
 rintro _ _ ⟨rfl,rfl⟩;refine⟨_,_,rfl,zL hsuf ?_⟩;refine zg ⟨_,St n,rfl,⟨by simp[zp],vD+n,vF+n,hSk n⟩,λo=>.inl ?_⟩;rw[<-hb0 n]
open Go Go.Proofs Hp
theorem Zp0(n:Nat):yY n (.slice none 0 0)=List.replicate n (.sc (.slice none 0 0)):=by
 induction n with
 | zero=>simp
 | succ n ih=>rw[Y4,ih];rfl
open Go
abbrev T(s:ByteArray):PV:=.sc (.string s)
instance:Enc ByteArray:=⟨λx=>[T x],1,λ_=>rfl,λ_=>rfl⟩
@[simp] theorem Zx1(x:ByteArray):Enc.enc x=[T x]:=rfl
@[simp high] theorem Zab(l:List ByteArray):(l.flatMap Enc.enc).length=l.length:=(j4 l).trans (BT _)
abbrev bs(l:List UInt8):ByteArray:=⟨l.toArray⟩
theorem Zp1(a b:List UInt8):bs a++bs b=bs (a++b):=by
 apply ByteArray.ext;simp[bs,ByteArray.data_append]
theorem wE(l:List UInt8):(bs l).size=l.length:=by simp[bs,ByteArray.size]
def z8(n:Nat):List UInt8:=if h:n<10 then [UInt8.ofNat (48+n)] else z8 (n / 10)++[UInt8.ofNat (48+n % 10)]
termination_by n
decreasing_by omega
theorem Jh{n:Nat}(h:n<10):z8 n=[UInt8.ofNat (48+n)]:=by rw[z8,dif_pos h]
theorem Ji{n:Nat}(h:¬n<10):z8 n=z8 (n / 10)++[UInt8.ofNat (48+n % 10)]:=by rw[z8,dif_neg h]
def YM(l:List UInt8):Nat:=l.foldl (λa c=>10*a+(c.toNat-48)) 0
theorem Zg3(l:List UInt8)(c:UInt8):YM (l++[c])=10*YM l+(c.toNat-48):=by simp[YM,Bk]
theorem YN{k:Nat}(h:k<10):(UInt8.ofNat (48+k)).toNat=48+k:=by
 rw[UInt8.toNat_ofNat'];omega
theorem Zg4(n:Nat):YM (z8 n)=n:=by
 induction n using Nat.strongRecOn with
 | _ n ih =>
  by_cases h:n<10
  ·rw[Jh h];simp only[YM,A8,List.foldl_nil,YN h];omega
  ·rw[Ji h,Zg3,ih _ (by omega),YN (by omega)];omega
theorem Zg5(n:Nat):∀c∈z8 n,48<=c.toNat/\c.toNat<=57:=by
 induction n using Nat.strongRecOn with
 | _ n ih =>
  intro c hc
  by_cases h:n<10
  ·rw[Jh h,AV]at hc;rw[hc,YN h];omega
  ·rw[Ji h,AC,AV]at hc;rcases hc with hc | hc
   ·exact ih _ (by omega) c hc
   ·rw[hc,YN (by omega)];omega
theorem Zcy(n:Nat):z8 n≠[]:=by
 by_cases h:n<10
 ·rw[Jh h];simp
 ·rw[Ji h];simp
theorem Zp2(n:Nat)(h:1<(z8 n).length):∃c l,z8 n=c :: l/\c.toNat≠48:=by
 induction n using Nat.strongRecOn with
 | _ n ih =>
  by_cases h0:n<10
  ·rw[Jh h0]at h;simp at h
  ·rw[Ji h0]
   by_cases h1:n / 10<10
   ·rw[Jh h1];exact⟨_,_,rfl,by rw[YN h1];omega⟩
   ·obtain⟨c,l,e,hc⟩:=ih (n / 10) (by omega) (by rw[Ji h1];have:=B5.2 (Zcy (n / 10 / 10));simp;omega);exact⟨c,l++_,by rw[e];rfl,hc⟩
theorem Zcz(n:Nat):∀k,n<10 ^ (k+1)->(z8 n).length<=k+1:=by
 induction n using Nat.strongRecOn with
 | _ n ih =>
  intro k hk
  by_cases h:n<10
  ·rw[Jh h];simp
  ·rw[Ji h,Ar,Bs];cases k with
   | zero=>simp at hk;omega
   | succ k =>
    have:=ih (n / 10) (by omega) k (by rw[Nat.pow_succ]at hk;omega);omega
def Zx(w:List UInt8):Prop:=w≠[]/\∀c∈w,33<=c.toNat/\c.toNat<=126
theorem Qr(n:Nat):Zx (z8 n):=⟨Zcy n,λc hc=>by have:=Zg5 n c hc;omega⟩
def yf:List (List UInt8)->List UInt8
 | []=>[]
 | [w]=>w
 | w :: v :: ws=>w++32 :: yf (v :: ws)
theorem Qt(w v:List UInt8)(ws:List (List UInt8)):yf (w :: v :: ws)=w++32 :: yf (v :: ws):=rfl
theorem Zg6(ws:List (List UInt8))(w v:List UInt8):yf (v :: ws++[w])=yf (v :: ws)++32 :: w:=by
 induction ws generalizing v with
 | nil=>rfl
 | cons u us ih =>
  have:=ih u;simp only[List.cons_append]at this ⊢;rw[Qt,Qt,this];simp
def qm(ls:List (List (List UInt8))):List UInt8:=ls.flatMap λws=>yf ws++[10]
theorem Wu(ws:List (List UInt8))(ls:List (List (List UInt8))):qm (ws :: ls)=yf ws++10 :: qm ls:=by simp[qm]
theorem Zg7(ls:List (List (List UInt8)))(ws:List (List UInt8)):qm (ls++[ws])=qm ls++(yf ws++[10]):=by simp[qm]
theorem Zp3{ws:List (List UInt8)}{c:UInt8}(h:c∈yf ws):c=32\/∃w∈ws,c∈w:=by
 induction ws with
 | nil=>simp[yf]at h
 | cons w ws ih =>
  cases ws with
  | nil=>exact .inr ⟨w,by simp,h⟩
  | cons v ws =>
   rw[Qt,AC,Aq]at h;rcases h with h | h | h
   ·exact .inr ⟨w,by simp,h⟩
   ·exact .inl h
   ·rcases ih h with h | ⟨u,hu,hc⟩
    ·exact .inl h
    ·exact .inr ⟨u,by simp[hu],hc⟩
theorem Zp4{ws:List (List UInt8)}(hw:∀w∈ws,Zx w):(10:UInt8) ∉ yf ws:=by
 intro h;rcases Zp3 h with h | ⟨w,hm,hc⟩
 ·cases h
 ·have:=(hw w hm).2 10 hc;simp at this
open Go Go.Proofs
abbrev U8(b:UInt8):PV:=.sc (.int .u8 (b.toNat:Int))
theorem Zp5(l:List UInt8):strOfNums (l.map λb=>(b.toNat:Int))=bs l:=by
 unfold strOfNums bs;rw[BW];congr 2;refine(AK λb _=>?_).trans (C4 _);simp
theorem Jj(a b:List UInt8)(h:a.length+b.length<=9223372036854775807):jQ .add (bs a) (bs b)=some (.string (bs (a++b))):=by
 unfold jQ;simp only[];rw[if_pos (by rw[wE,wE];exact h),Zp1]
theorem Zg8{P:Program}{w:World}{src dst e b off len cap:Nat}{l:List UInt8}(hs:P.underlying src=some (.slice e))(he:P.underlying e=some (.int .u8))(hd:P.underlying dst=some .string)(hlen:l.length=len)
  (hcell:∀(i:Nat) (u:UInt8),l[i]?=some u->w.cell? ⟨b,off+i,none⟩=some (.int .u8 (u.toNat:Int))):(convert src dst (.slice (some ⟨b,off,none⟩) len cap)).run P w=.ok (.string (bs l)) w:=by
 have:=run_convert_bytes_arg (P:=P) w src e hs he b off len cap (l.map λb=>(b.toNat:Int)) (by simpa using hlen) (λi hi=>by
  have hil:i<l.length:=by omega
  rw[hcell i l[i] (Ad hil)];simp[Aa,Ad hil]) dst hd
 rw[this,Zp5]
theorem Zg9{P:Program}{o:Oper}{src dst:TypeId}{x:Operand}{a:Act}{w:World}{v:Value}(ho:o.op=.convert src dst x)(h:(convert src dst (a.eval x)).run P w=.ok v w):(execOp a.eval o).run P w=.ok (.value v) w:=by
 unfold execOp;simp only[ho,Sem.run_bind,Sem.run_pure,h,Am]
theorem Zp6{P:Program}{n:Nat}{F:Nat->PV}{S:Store}{o:Oper}{src dst e:TypeId}{x:Operand}{l:List UInt8}{K:PV->Store->Prop}(ho:o.op=.convert src dst x)(hs:P.underlying src=some (.slice e))(he:P.underlying e=some (.int .u8))(hd:P.underlying dst=some .string)
  (hx:ev F x=.lst l.length (l.map U8)) (hK:K (T (bs l)) S):PO P jd n o F S K:=by
 intro G hG C w a N st next Q' hnext;have e1:=st.ev x;rw[(hG x (by simp[ho,Op.operands])).trans hx]at e1;have hnd:∀c,o.op≠.defer c:=by intro c hc;rw[ho]at hc;cases hc
 have hrun:(convert src dst (a.eval x)).run P w=.ok (.string (bs l)) w:=by
  generalize a.eval x=v at e1;generalize hm:l.length=m at e1;generalize hcs:l.map U8=cs at e1;cases e1 with
  | lst0 =>
   rename_i cap ad;obtain rfl:l=[]:=Aw hm;cases ad with
   | none=>exact run_convert_bytes_nil w src e hs he 0 cap dst hd
   | some ad =>
    have:=run_bytesToString (P:=P) w ad 0 cap [] (by simp[loadCells,loadCellsFrom]);rw[run_convert_bytes_string w src dst e _ 0 cap hs he hd,this];rfl
  | lst1 hn hmx hb hM hsz h1 hr =>
   rename_i cap b off c et fz;refine Zg8 hs he hd hm λi u hu=>?_
   have hi:i<l.length:=(Ac.1 hu).1;have hp:cs[i]?=some (U8 u):=by rw[<-hcs,Aj,hu];rfl
   have hcl:cs.length=l.length:=by rw[<-hcs,List.length_map]
   have hsz':=hsz (by intro h;rw[h]at hcl;simp at hcl;omega);have hv:=hr i _ _ hp (AL (by omega));generalize hq:c[off+i]'(by omega)=q at hv;cases hv;have hce:=AL (xs:=c) (i:=off+i) (by omega);rw[hq]at hce;simp[World.cell?,hb,hce]
 exact qb hnd (Zg9 ho hrun) (hnext _ _ _ _ _ hK (.sc _) st.sim (Step.refl _ _ _))
theorem Zp7{P:Program}{n:Nat}{F:Nat->PV}{S:Store}{o:Oper}{src dst e:TypeId}{x:Operand}{l:List UInt8}{id ver et off:Nat}{cs:List PV}{K:PV->Store->Prop}(ho:o.op=.convert src dst x)(hs:P.underlying src=some (.slice e))(he:P.underlying e=some (.int .u8))(hd:P.underlying dst=some .string)
  (hx:ev F x=.sl id ver 1 off l.length) (hid:S id=.cells ver et cs) (hl:∀(i:Nat) (u:UInt8),l[i]?=some u->cs[off+i]?=some (U8 u)) (h0:0<l.length) (hK:K (T (bs l)) S):PO P jd n o F S K:=by
 intro G hG C w a N st next Q' hnext;have e1:=st.ev x;rw[(hG x (by simp[ho,Op.operands])).trans hx]at e1;have hnd:∀c,o.op≠.defer c:=by intro c hc;rw[ho]at hc;cases hc
 have hrun:(convert src dst (a.eval x)).run P w=.ok (.string (bs l)) w:=by
  generalize a.eval x=v at e1;generalize hm:l.length=m at e1;cases e1 with
  | sl h1 h2 h3 =>
   rcases (h3 ver (by rw[hid];rfl)).2 rfl with ⟨_,z2,_,_⟩ | ⟨b,k,ad,cap,z1,z2,z3,z4⟩
   ·omega
   ·obtain rfl:=z4 (by omega);subst z2;rcases st.sim.cells id ver et cs hid with ⟨hn,_⟩ | ⟨b2,k2,c,g1,g2,g3,g4,g5,g6⟩
    ·rw[hn]at z1;cases z1
    ·rw[g1]at z1;cases z1;refine Zg8 hs he hd hm λi u hu=>?_
     have hp:=hl i u hu;have hi:off+i<cs.length:=(Ac.1 hp).1;have hv:=g6 (off+i) _ _ hp (AL (by omega));generalize hq:c[off+i]'(by omega)=q at hv;cases hv;have hce:=AL (xs:=c) (i:=off+i) (by omega);rw[hq]at hce;simp[World.cell?,g2,hce]
 exact qb hnd (Zg9 ho hrun) (hnext _ _ _ _ _ hK (.sc _) st.sim (Step.refl _ _ _))
open Go Go.Proofs
theorem Zha(k:Nat)(h:k<256):IntKind.u8.wrap (k:Int)=k:=by
 have e:IntKind.u8.wrap (k:Int)=(k:Int) % 256:=by simp[IntKind.wrap,IntKind.bits,IntKind.signed]
 rw[e];omega
theorem Zhb(n:Nat)(hn:n<=4611686018427387904):Pure prog 53 [I n] (T (bs (z8 n))):=by
 induction n using Nat.strongRecOn with
 | _ n ih =>
  have hr:((n:Int)).tmod 10=((n % 10:Nat):Int):=by rw[Bo (by omega)];omega
  have hq:((n:Int)).tdiv 10=((n / 10:Nat):Int):=by rw[CC (by omega)];omega
  have hs1:n<10->z8 n=[UInt8.ofNat (48+n % 10)]:=λh=>by rw[Jh h,Dz h]
  have hs2:¬n<10->z8 n=z8 (n / 10)++[UInt8.ofNat (48+n % 10)]:=Ji;have hu:=YN (k:=n % 10) (by omega);have hr9:n % 10<10:=by omega
  have hm9:n / 10<=n/\(¬n<10->n / 10<n):=by omega
  generalize UInt8.ofNat (48+n % 10)=u at *;generalize n % 10=r at *;generalize n / 10=m at *;have hw:W (m:Int)=m:=by simp only[W,AI];omega
  have hw2:W (48+(r:Int))=(u.toNat:Int):=by rw[hu];simp only[W,AI];omega
  have hw3:=Zha u.toNat (by omega);have h0:¬(n:Int)<0:=by omega
  refine zt Tryz.func53 Tryz.ntmps53 Tryz.results53 λS nx hd=>?_
  refine za (zb ?_)
  repeat apply za
  refine ze [] h0 ?_;refine zm (by simp) ?_;refine zh (za (ze [] (zE hr hw2 hw3) ?_));refine λhsuf=>Zp6 (e:=5) (l:=[u]) rfl (by simp) (by simp) (by simp) (by simp) ?_
  refine⟨_,_,rfl,zL hsuf ?_⟩
  repeat apply za
  refine zb ?_;refine zv rfl (λh=>?_) (λh=>?_)
  ·simp at h;have hdec:=ih m (hm9.2 (by omega)) (by omega);have hsz:=Jj (z8 m) [u] (by have:=Zcz m 18 (by omega);simp;omega);refine za (ze [] (zo hq hw) ?_);refine qt [] hdec hsz ?_;exact zg (zi hd (by simp;rfl) (by rw[hs2 (by omega)];rfl))
  ·simp at h;refine zh (za (zb ?_));exact zg (zi hd (by simp;rfl) (by rw[hs1 (by omega)];rfl))
def uf(l:List Nat):List ByteArray:=l.map λn=>bs (z8 n)
theorem ZcA(l:List Nat)(hl:l.length<=1048576)(hn:∀n∈l,n<=4611686018427387904):Pure prog 52 [L (l.map λn:Nat=>(n:Int))] (L (uf l)):=by
 obtain⟨zs,hzs⟩:∃zs:List Int,zs=l.map λn:Nat=>(n:Int):=⟨_,rfl⟩
 have hzl:zs.length=l.length:=by rw[hzs,List.length_map]
 have hat:∀(k n:Nat),l[k]?=some n->zs[k]?=some (n:Int):=λk n e=>by rw[hzs,Aj,e];rfl
 rw[<-hzs];refine zt Tryz.func52 Tryz.ntmps52 Tryz.results52 λS nx hd=>?_
 refine za (zb ?_);refine za (zb ?_);refine jf 3 9 1 rfl λv3=>?_
 repeat apply za
 refine zb ?_;refine zj (zD (λs:Nat × Nat=>s.1<=zs.length) (λ(k,w)=>[(0,L zs),(3,.sl nx w 1 0 k),(4,I k)]) (λ(k,w)=>[.cells w 9 ((uf (l.take k)).flatMap Enc.enc)]) (λs=>zs.length-s.1) (0,v3) [] (by simp) (by simp) (by simp[uf]) ?_);rintro⟨k,w⟩ hk;simp only at hk ⊢
 repeat apply za
 refine zb ?_;refine zv rfl (λhc=>?_) (λhc=>?_)
 ·simp at hc;obtain⟨n,hn1⟩:∃n,l[k]?=some n:=⟨_,Ad (by omega)⟩;obtain⟨z,tl,b1,b2,b3,f0⟩:=zF rfl zs k hc;obtain rfl:z=(n:Int):=by have:=hat k n hn1;rw[b1]at this;exact Option.some.inj this
  have hdec:=Zhb n (hn n (Ab hn1));have hnx:uf (l.take (k+1))=uf (l.take k)++[bs (z8 n)]:=by rw[AN,hn1];simp[uf]
  have hf:(uf (l.take k)).length=k:=by simp[uf];omega
  have hf2:((uf (l.take k)).flatMap Enc.enc:List PV).take k=(uf (l.take k)).flatMap Enc.enc:=Af (by rw[Zab];omega);generalize uf (l.take k)=ws at *;refine zh (za (zj (ze [] (zo f0 hc) ?_)));refine qt [] hdec (zo hf hf2) ?_;refine⟨by omega,?_⟩;refine zb ?_;exact zq (k+1,w+1) [] hc (by simp;omega) (by simp[zu k (by omega)]) rfl (by simp[hnx])
 ·simp at hc;obtain rfl:k=zs.length:=by omega
  refine zy (yb 0 rfl ?_);refine za (zb ?_);exact zg (zi hd (by simp;rfl) (by rw[hzl,Ao];simp[zp,uf]))
theorem Zp8(ws:List (List UInt8))(w:List UInt8):yf (ws++[w])=(if ws=[] then [] else yf ws++[32])++w:=by
 cases ws with
 | nil=>rfl
 | cons v vs=>rw[Zg6,if_neg (by simp)];simp
theorem Zp9(ws:List (List UInt8))(hl:ws.length<=1048576)(hw:(yf ws).length<=1099511627776)(hp:∀k,(yf (ws.take k)).length<=1099511627776):Pure prog 42 [L (ws.map bs)] (T (bs (yf ws++[10]))):=by
 refine zt Tryz.func42 Tryz.ntmps42 Tryz.results42 λS nx hd=>?_
 refine za (zb ?_);refine za (zb ?_)
 repeat apply za
 refine zb ?_;refine zj (zD (λk:Nat=>k<=ws.length) (λk=>[(0,L (ws.map bs)),(3,T (bs (yf (ws.take k)))),(4,I k)]) (λ_=>[]) (λk=>ws.length-k) 0 [] (by simp) (by simp[yf]) (by simp) ?_);rintro k hk
 repeat apply za
 refine zb ?_;refine zv rfl (λhc=>?_) (λhc=>?_)
 ·simp at hc;obtain⟨w,tl,b1,b2,b3,f0⟩:=zF rfl (ws.map bs) k (by simpa using hc);obtain⟨u,hu,rfl⟩:∃u,ws[k]?=some u/\bs u=w:=by rw[Aj]at b1;simpa using b1
  have hnx:yf (ws.take (k+1))=(if ws.take k=[] then [] else yf (ws.take k)++[32])++u:=by rw[AN,hu];exact Zp8 _ _
  have hpk:=hp k;have hpk1:=hp (k+1);have hul:u.length<=(yf (ws.take (k+1))).length:=by rw[hnx,Ar];omega
  have hkl:k<ws.length:=by simpa using hc
  refine zh (za (zj ?_))
  by_cases h0:0<k
  ·have e:¬ws.take k=[]:=by intro h;have:=congrArg List.length h;rw[Ay,Ah]at this;omega
   rw[if_neg e]at hnx;have hlen:=congrArg List.length hnx;simp only[Ar,Bs]at hlen;have s1:=Jj (yf (ws.take k)) [32] (by simp only[Bs];omega);have s2:=Jj (yf (ws.take k)++[32]) u (by simp only[Ar,Bs];omega);generalize yf (ws.take k)=J0 at *
   repeat apply za
   refine ze [] h0 ?_;refine zn (by simp[h0]) ?_;refine ze [] s1 ?_;refine ze [] (zE f0 hkl s2) ?_;refine zb ?_;exact zq (k+1) [] hkl (by omega) (by simp[zu k (by omega),hnx]) rfl (by simp)
  ·have e:ws.take k=[]:=by rw[show k=0 by omega];rfl
   rw[if_pos e]at hnx;rw[e,show yf ([]:List (List UInt8))=[] from rfl];have s2:=Jj [] u (by simp only[Ah];omega);rw[AS]at hnx s2
   repeat apply za
   refine ze [] h0 ?_;refine zm (by simp[h0]) ?_;refine zh (ze [] (zE f0 hkl s2) ?_);refine zb ?_;exact zq (k+1) [] hkl (by omega) (by simp[zu k (by omega),hnx]) rfl (by simp)
 ·simp at hc;obtain rfl:k=ws.length:=by omega
  have hs:=Jj (yf ws) [10] (by simp only[Bs];omega);refine zy (XZ (λ_=>.inl rfl) ?_);rw[Ao];refine za (ze [] hs ?_);exact zg (zi hd (by simp;rfl) rfl)
open Go Go.Proofs
def xk(c:UInt8):List UInt8->Option (List UInt8 × List UInt8)
 | []=>none
 | x :: xs=>if x=c then some ([],xs) else (xk c xs).map λp=>(x :: p.1,p.2)
theorem Xj{c:UInt8}{l a b:List UInt8}(h:xk c l=some (a,b)):l=a++c :: b/\c ∉ a:=by
 induction l generalizing a b with
 | nil=>cases h
 | cons x xs ih =>
  unfold xk at h;split at h
  ·rename_i e;cases h;exact⟨by rw[e];rfl,by simp⟩
  ·rename_i e;obtain⟨⟨p,q⟩,hp,hq⟩:=Ap.1 h;cases hq;obtain⟨h1,h2⟩:=ih hp;exact⟨by rw[h1];rfl,by rw[Aq];exact λh9=>h9.elim (λe2=>e e2.symm) (λe2=>h2 e2)⟩
theorem ZcB{c:UInt8}{l:List UInt8}(h:xk c l=none):c ∉ l:=by
 induction l with
 | nil=>simp
 | cons x xs ih =>
  unfold xk at h;split at h
  ·cases h
  ·rename_i e;have:=ih (Option.map_eq_none_iff.1 h);rw[Aq];exact λh9=>h9.elim (λe2=>e e2.symm) (λe2=>this e2)
theorem Zqa{c:UInt8}{a:List UInt8}(b:List UInt8)(h:c ∉ a):xk c (a++c :: b)=some (a,b):=by
 induction a with
 | nil=>simp[xk]
 | cons x a ih =>
  rw[Aq,not_or]at h;simp only[List.cons_append,xk,if_neg (λe=>h.1 e.symm:¬x=c),ih h.2];rfl
theorem Zhc{c:UInt8}{l a b:List UInt8}(h:xk c l=some (a,b)):b.length<l.length:=by
 rw[(Xj h).1];simp;omega
def yI(c:UInt8):List UInt8->List (List UInt8)
 | []=>[[]]
 | x :: xs=>if x=c then [] :: yI c xs else match yI c xs with
  | []=>[[x]]
  | h :: t=>(x :: h) :: t
theorem ZcC(c x:UInt8)(xs:List UInt8):yI c (x :: xs)=if x=c then [] :: yI c xs else match yI c xs with
  | []=>[[x]]
  | h :: t=>(x :: h) :: t:=rfl
theorem Zac(c:UInt8)(l:List UInt8):yI c l≠[]:=by
 cases l with
 | nil=>simp[yI]
 | cons x xs =>
  unfold yI;split
  ·simp
  ·split<;>simp
theorem Zhd{c:UInt8}{a:List UInt8}(h:c ∉ a):yI c a=[a]:=by
 induction a with
 | nil=>rfl
 | cons x a ih =>
  rw[Aq,not_or]at h;rw[ZcC,if_neg (λe=>h.1 e.symm),ih h.2]
theorem Zhe{c:UInt8}{a:List UInt8}(b:List UInt8)(h:c ∉ a):yI c (a++c :: b)=a :: yI c b:=by
 induction a with
 | nil=>simp[yI]
 | cons x a ih =>
  rw[Aq,not_or]at h;rw[List.cons_append,ZcC,if_neg (λe=>h.1 e.symm),ih h.2]
theorem Zqb(c:UInt8)(l:List UInt8):yI c l=match xk c l with
  | none=>[l]
  | some (a,b)=>a :: yI c b:=by
 cases h:xk c l with
 | none=>exact Zhd (ZcB h)
 | some p=>obtain⟨a,b⟩:=p;obtain⟨h1,h2⟩:=Xj h;rw[h1];exact Zhe b h2
theorem Zqc(c:UInt8)(l:List UInt8):(yI c l).length<=l.length+1:=by
 induction l with
 | nil=>simp[yI]
 | cons x xs ih =>
  unfold yI;split
  ·simp;exact ih
  ·split
   ·simp
   ·rename_i h;rw[h]at ih;simp at ih ⊢;omega
theorem Zqd(c:UInt8)(l:List UInt8):∀w∈yI c l,w.length<=l.length:=by
 induction l with
 | nil=>simp[yI]
 | cons x xs ih =>
  unfold yI;split
  ·intro w hw;rcases Aq.1 hw with rfl | hw
   ·simp
   ·have:=ih w hw;simp;omega
  ·split
   ·simp
   ·rename_i h t e;intro w hw;rw[e]at ih;rcases Aq.1 hw with rfl | hw
    ·have:=ih h (by simp);simp;omega
    ·have:=ih w (by simp[hw]);simp;omega
theorem Zqe{ws:List (List UInt8)}(hne:ws≠[])(hw:∀w∈ws,(32:UInt8) ∉ w):yI 32 (yf ws)=ws:=by
 induction ws with
 | nil=>exact absurd rfl hne
 | cons w ws ih =>
  cases ws with
  | nil=>exact Zhd (hw w (by simp))
  | cons v ws =>
   rw[Qt,Zhe _ (hw w (by simp)),ih (by simp) λu hu=>hw u (by simp[hu])]
def Zy(w:List UInt8):Bool:=decide (w≠[]) && w.all λc=>decide (33<=c.toNat/\c.toNat<=126)
theorem Zad(w:List UInt8):Zy w=true<->Zx w:=by
 simp[Zy,Zx]
theorem Zhf{w:List UInt8}{k:Nat}{c:UInt8}(h:w[k]?=some c)(hc:¬(33<=c.toNat/\c.toNat<=126)):Zy w=false:=by
 have:(w.all λc=>decide (33<=c.toNat/\c.toNat<=126))=false:=by
  rw[Bu];exact⟨c,Ab h,by simpa using hc⟩
 unfold Zy;rw[this];simp
def xS(t:List UInt8):Option (List (List (List UInt8))) :=
 if t=[] then some [] else
  match h:xk 10 t with
  | none=>none
  | some (a,b)=>if (yI 32 a).all Zy=true then (xS b).map (yI 32 a :: ·) else none
termination_by t.length
decreasing_by exact Zhc h
theorem Wv:xS []=some []:=by rw[xS,if_pos rfl]
theorem Zhg{t:List UInt8}(h0:t≠[])(h:xk 10 t=none):xS t=none:=by
 rw[xS,if_neg h0];split
 ·rfl
 ·rename_i h2;rw[h]at h2;cases h2
theorem Zae{t a b:List UInt8}(h:xk 10 t=some (a,b)):xS t=if (yI 32 a).all Zy=true then (xS b).map (yI 32 a :: ·) else none:=by
 rw[xS,if_neg (by rintro rfl;cases h)];split
 ·rename_i h2;rw[h]at h2;cases h2
 ·rename_i h2;rw[h]at h2;cases h2;rfl
theorem Zqf{t a b:List UInt8}(h:xk 10 t=some (a,b)){k:Nat}{w:List UInt8}(hw:(yI 32 a)[k]?=some w)(hb:Zy w=false):xS t=none:=by
 rw[Zae h,if_neg];rw[DC,Bu];exact⟨w,Ab hw,by simp[hb]⟩
theorem Zqg{w:List UInt8}(h:Zx w):(32:UInt8) ∉ w/\(10:UInt8) ∉ w :=
 ⟨λhc=>by have:=(h.2 32 hc).1;simp at this,λhc=>by have:=(h.2 10 hc).1;simp at this⟩
theorem Zqh{ls:List (List (List UInt8))}(h0:∀l∈ls,l≠[])(h:∀l∈ls,∀w∈l,Zx w):xS (qm ls)=some ls:=by
 induction ls with
 | nil=>exact Wv
 | cons l ls ih =>
  have hl:=h l (by simp);have hc:xk 10 (qm (l :: ls))=some (yf l,qm ls):=by
   rw[Wu];exact Zqa _ (Zp4 hl)
  have hs:=Zqe (h0 l (by simp)) λw hw=>(Zqg (hl w hw)).1
  rw[Zae hc,hs,if_pos (As.2 λw hw=>(Zad w).2 (hl w hw)),ih (λm hm=>h0 m (by simp[hm])) λm hm=>h m (by simp[hm])];rfl
theorem Zqi(l:List UInt8):yf (yI 32 l)=l:=by
 induction l with
 | nil=>rfl
 | cons x xs ih =>
  unfold yI;split
  ·rename_i e;cases h:yI 32 xs with
   | nil=>exact absurd h (Zac _ _)
   | cons v vs=>rw[Qt,<-h,ih,e];rfl
  ·cases h:yI 32 xs with
   | nil=>exact absurd h (Zac _ _)
   | cons v vs =>
    rw[h]at ih;cases vs with
    | nil=>simp only[yf]at ih ⊢;rw[ih]
    | cons u us=>simp only[Qt,List.cons_append]at ih ⊢;rw[ih]
theorem Zqj(n:Nat):∀{t:List UInt8} {ls:List (List (List UInt8))},t.length<=n->xS t=some ls->qm ls=t/\(∀l∈ls,l≠[])/\(∀l∈ls,∀w∈l,Zx w):=by
 induction n with
 | zero =>
  intro t ls hn h;obtain rfl:=Aw (Nat.le_zero.1 hn);rw[Wv]at h;cases h;exact⟨rfl,by simp,by simp⟩
 | succ n ih =>
  intro t ls hn h
  by_cases h0:t=[]
  ·subst h0;rw[Wv]at h;cases h;exact⟨rfl,by simp,by simp⟩
  ·cases hc:xk 10 t with
   | none=>rw[Zhg h0 hc]at h;cases h
   | some p =>
    obtain⟨a,b⟩:=p;rw[Zae hc]at h;split at h
    ·rename_i hw;obtain⟨ms,hm,rfl⟩:=Ap.1 h;have:=Zhc hc;obtain⟨i1,i2,i3⟩:=ih (by omega) hm;obtain⟨c1,c2⟩:=Xj hc;refine⟨by rw[Wu,Zqi,i1,c1],?_,?_⟩
     ·intro l hl;rcases Aq.1 hl with rfl | hl
      ·exact Zac _ _
      ·exact i2 l hl
     ·intro l hl w hwl;rcases Aq.1 hl with rfl | hl
      ·exact(Zad w).1 (As.1 hw w hwl)
      ·exact i3 l hl w hwl
    ·cases h
theorem Zhh{α:Type}{p:List α->Prop}(h0:p [])(h1:∀l a,p l->p (l++[a]))(l:List α):p l:=by
 have:∀m:List α,p m.reverse:=by
  intro m
  induction m with
  | nil=>exact h0
  | cons a m ih=>rw[Du];exact h1 _ _ ih
 have:=this l.reverse
 rwa[List.reverse_reverse]at this
def wF(l:List UInt8):Nat:=l.foldl (λn c=>if 100000000000000000<=n then 1000000000000000000 else 10*n+(c.toNat-48)) 0
theorem ZcD(l:List UInt8)(c:UInt8):wF (l++[c])=if 100000000000000000<=wF l then 1000000000000000000 else 10*wF l+(c.toNat-48):=by
 unfold wF;rw[Bk];rfl
def YO(w:List UInt8):Bool:=w.all λc=>decide (48<=c.toNat/\c.toNat<=57)
theorem Zhi{w:List UInt8}{k:Nat}{c:UInt8}(h:w[k]?=some c)(hc:¬(48<=c.toNat/\c.toNat<=57)):YO w=false:=by
 unfold YO;rw[Bu];exact⟨c,Ab h,by simpa using hc⟩
def Jk(w:List UInt8):Bool:=match w with
 | []=>true
 | c :: l=>decide (c.toNat=48) && decide (l≠[])
def jV(w:List UInt8):Option Nat:=if Jk w=true then none else if YO w=true then some (wF w) else none
theorem Zhj(l:List UInt8)(h:∀c∈l,c.toNat<=57):wF l<=1000000000000000000:=by
 revert h;refine Zhh (p:=λl:List UInt8=>(∀c∈l,c.toNat<=57)->wF l<=1000000000000000000) (λ_=>by decide) (λl c ih h=>?_) l;rw[ZcD];have:=h c (by simp);split<;>omega
theorem Zqk(w:List UInt8)(h:YM w<100000000000000000):wF w=YM w:=by
 revert h;refine Zhh (p:=λw:List UInt8=>YM w<100000000000000000->wF w=YM w) (λ_=>rfl) (λl c ih h=>?_) w;rw[Zg3]at h ⊢;have:=ih (by omega);rw[ZcD,this,if_neg (by omega)]
theorem Zhk(n:Nat)(hn:n<100000000000000000):jV (z8 n)=some n:=by
 have h1:Jk (z8 n)=false:=by
  rcases Bf 1 (z8 n).length with h | h
  ·obtain⟨c,l,e,hc⟩:=Zp2 n h;rw[e];simp[Jk,hc]
  ·rcases hd:z8 n with _ | ⟨c,_ | ⟨d,l⟩⟩
   ·exact absurd hd (Zcy n)
   ·simp[Jk]
   ·rw[hd]at h;simp at h
 have h2:YO (z8 n)=true:=by unfold YO;rw[As];intro c hc;simpa using Zg5 n c hc
 unfold jV;rw[if_neg (by rw[h1];decide),if_pos h2,Zqk _ (by rw[Zg4];exact hn),Zg4]
theorem Zql{w:List UInt8}{n:Nat}(h:jV w=some n):n<=1000000000000000000:=by
 unfold jV at h;split at h
 ·cases h
 ·split at h
  ·rename_i h2;cases h;refine Zhj w λc hc=>?_
   unfold YO at h2;have:=As.1 h2 c hc;simp at this;omega
  ·cases h
open Go Go.Proofs
theorem Zhl(l:List UInt8)(k:Nat):(bs l)[k]?=l[k]?:=by
 by_cases h:k<l.length
 ·rw[Ad h,getElem?_pos (bs l) k (by rw[wE];exact h)];rfl
 ·rw[Ai (by omega),getElem?_neg (bs l) k (by rw[wE];omega)]
theorem ZcE{a b:ByteArray}(h:a.toList=b.toList):a=b:=by
 rw[Lib.toList_data,Lib.toList_data]at h;cases a;cases b;simp at h;congr
theorem ZcF{a b:ByteArray}(h:a≠b):jQ .eql a b=some (.bool false):=by
 have h2:¬a.toList=b.toList:=λe=>h (ZcE e)
 simp[jQ,h2]
theorem Zhm{w:List UInt8}:bs w=bs []<->w=[]:=by
 constructor
 ·intro h;have:=congrArg ByteArray.size h;rw[wE,wE]at this;exact Aw (by simpa using this)
 ·rintro rfl;rfl
theorem Zqm(w:List UInt8)(hl:w.length<=1099511627776):Pure prog 138 [T (bs w)] (B (Zy w)):=by
 have hsz:=wE w;refine zt Tryz.func138 Tryz.ntmps138 Tryz.results138 λS nx hd=>?_
 refine za (zb ?_)
 repeat apply za
 refine ze [] hsz ?_;refine zj (zD (λk:Nat=>k<=w.length/\∀c∈w.take k,33<=c.toNat/\c.toNat<=126) (λk=>[(0,T (bs w)),(5,I w.length),(6,I k)]) (λ_=>[]) (λk=>w.length-k) 0 [] (by simp) (by simp) (by simp) ?_);rintro k ⟨hk,ha⟩;refine za (zb ?_);refine za (zv rfl (λhc=>?_) (λhc=>?_))
 ·simp at hc;obtain⟨c,hc1⟩:∃c,w[k]?=some c:=⟨_,Ad hc⟩;have hg:=(Zhl w k).trans hc1;refine zh (za (zj (za (zb ?_))))
  by_cases h3:c.toNat<33
  ·have h3':(c.toNat:Int)<33:=by omega
   refine za (ze [(4,13)] (zS hg h3 h3' zH) ?_);refine zn (by simp[*]) ?_;refine za (zb ?_);exact zg (zi hd (by simp;rfl) (by rw[Zhf hc1 (by omega)];rfl))
  have h3':¬(c.toNat:Int)<33:=by omega
  by_cases h4:126<c.toNat
  ·have h4':126<(c.toNat:Int):=by omega
   refine za (ze [(4,13)] (yG hg h3 h4 h3' h4') ?_);refine zn (by simp[*]) ?_;refine za (zb ?_);exact zg (zi hd (by simp;rfl) (by rw[Zhf hc1 (by omega)];rfl))
  have h4':¬126<(c.toNat:Int):=by omega
  refine za (ze [(4,13)] (yG hg h3 h4 h3' h4') ?_);refine zm (by simp[*]) ?_;refine zh (zb ?_);have hnx:w.take (k+1)=w.take k++[c]:=by rw[AN,hc1];rfl
  exact zq (k+1) [] ⟨hc,by rw[hnx];intro d hd;rw[AC,AV]at hd;exact hd.elim (ha d) (λe=>by subst e;omega)⟩ (by omega) (by simp[zu k (by omega)]) rfl (by simp)
 ·simp at hc;obtain rfl:k=w.length:=by omega
  rw[Ao]at ha;refine zy (XZ (λ_=>.inl rfl) ?_)
  by_cases h0:w=[]
  ·subst h0;refine za (xl [] (by rfl) (by rfl) λK Gc Gh hK hGc hGh X hX0 hX=>?_);simp -implicitDefEqProofs [hX0,hX,jQ]
   try clear hX0 hX X
   refine hK _ _ _ ?_;clear hK hGc hGh;clear K Gc Gh;exact zg (zi hd (by simp;rfl) rfl)
  ·have hne:bs w≠bs []:=λe=>h0 (Zhm.1 e)
   have hq:jQ .neq (bs w) ⟨#[]⟩=some (.bool true):=by
    have h2:¬(bs w).toList=(bs []).toList:=λe=>hne (ZcE e)
    have h3:((bs w).toList == (bs []).toList)=false:=by simpa using h2
    show some (Value.bool (!((bs w).toList == (bs []).toList)))=_
    rw[h3];rfl
   have hw:Zy w=true:=(Zad w).2 ⟨h0,ha⟩;refine za (ze [] hq ?_);exact zg (zi hd (by simp;rfl) (by simp[zp,hw]))
def Xk(o:Option Nat):PV:=match o with
 | none=>.tup [I 0,B false]
 | some n=>.tup [I n,B true]
theorem Zhn(w:List UInt8)(hl:w.length<=1099511627776):Pure prog 109 [T (bs w)] (Xk (jV w)):=by
 rcases w with _ | ⟨c0,wt⟩
 ·refine zt Tryz.func109 Tryz.ntmps109 Tryz.results109 λS nx hd=>?_
  refine za (zb ?_)
  repeat apply za
  refine xl [(2,8),(6,12)] (by rfl) (by rfl) λK Gc Gh hK hGc hGh X hX0 hX=>?_
  simp -implicitDefEqProofs [hX0,hX,jQ,undef]
  try clear hX0 hX X
  refine hK _ _ _ ?_;clear hK hGc hGh;clear K Gc Gh;refine zn (by simp) ?_;refine za (zb ?_);exact zg (zi hd (by simp;rfl) rfl)
 obtain⟨w,hw⟩:∃w,w=c0 :: wt:=⟨_,rfl⟩;have hc0:w[0]?=some c0:=by rw[hw];rfl
 have hne:w≠[]:=by rw[hw];simp
 have hod:Jk w=(decide (c0.toNat=48) && decide (1<w.length)):=by rw[hw];cases wt<;>simp[Jk]
 rw[<-hw]at hl ⊢;clear hw wt;obtain⟨B,hB⟩:∃B,B=bs w:=⟨_,rfl⟩;have hsz:B.size=w.length:=by rw[hB,wE]
 have hg:∀k,B[k]?=w[k]?:=λk=>by rw[hB];exact Zhl w k
 have hg0:=(hg 0).trans hc0;have he:jQ .eql B ⟨#[]⟩=some (.bool false):=by
  have:B≠⟨#[]⟩:=by intro h;have:=congrArg ByteArray.size h;rw[hsz]at this;exact hne (Aw (by simpa[ByteArray.size] using this))
  exact ZcF this
 rw[<-hB]
 by_cases hodd:Jk w=true
 ·have hr:jV w=none:=by unfold jV;rw[if_pos hodd]
  rw[hr];rw[hod]at hodd;simp only[Au,decide_eq_true_eq]at hodd;obtain⟨q1,q2⟩:=hodd;have h3:(c0.toNat:Int)=48:=by omega
  refine zt Tryz.func109 Tryz.ntmps109 Tryz.results109 λS nx hd=>?_
  refine za (zb ?_)
  repeat apply za
  refine ze [(2,8),(6,12)] (yl hsz hg0 he h3 q1 (zo q2 zH)) ?_;refine zn (by simp;omega) ?_;refine za (zb ?_);exact zg (zi hd (by simp;rfl) rfl)
 have hcond:(c0.toNat=48/\¬1<w.length)\/¬c0.toNat=48:=by
  rw[hod]at hodd;simp only[Au,decide_eq_true_eq,not_and]at hodd
  by_cases h1:c0.toNat=48
  ·exact .inl ⟨h1,hodd h1⟩
  ·exact .inr h1
 have hnum:jV w=if YO w=true then some (wF w) else none:=by unfold jV;rw[if_neg hodd]
 rw[hnum];clear hnum hodd hod;refine zt Tryz.func109 Tryz.ntmps109 Tryz.results109 λS nx hd=>?_
 refine za (zb ?_);rcases hcond with ⟨h1,h2⟩ | h1
 have h3:(c0.toNat:Int)=48:=by omega
 repeat apply za
 refine ze [(2,8),(6,12)] (yl hsz hg0 he h3 h2 zH) ?_;refine zm (by simp;omega) ?_
 rotate_left
 have h3:¬(c0.toNat:Int)=48:=by omega
 repeat apply za
 refine ze [(2,8),(6,12)] (yG hsz hg0 he h3 zH) ?_;refine zm (by simp[*]) ?_
 all_goals
  clear h1 h3 he hg0 hc0;refine zh (za (zb ?_))
  repeat apply za
  refine ze [] hsz ?_;refine zj (zD (λk:Nat=>k<=w.length/\∀c∈w.take k,48<=c.toNat/\c.toNat<=57) (λk=>[(0,T B),(4,I (wF (w.take k))),(19,I w.length),(20,I k)]) (λ_=>[]) (λk=>w.length-k) 0 [] (by simp) (by simp[wF]) (by simp) ?_);rintro k ⟨hk,ha⟩;refine za (zb ?_);refine za (zv rfl (λhc=>?_) (λhc=>?_))
  ·simp at hc;obtain⟨c,hc1⟩:∃c,w[k]?=some c:=⟨_,Ad hc⟩;have hgk:=(hg k).trans hc1;have hs57:=Zhj (w.take k) λc hc=>(ha c hc).2
   refine zh (za (zj (za (zb ?_))))
   by_cases h3:c.toNat<48
   ·have h3':(c.toNat:Int)<48:=by omega
    repeat apply za
    refine ze [(4,27)] (zS hgk h3 h3' zH) ?_;refine zn (by simp[*]) ?_;refine za (zb ?_);exact zg (zi hd (by simp;rfl) (by rw[Zhi hc1 (by omega)];rfl))
   have h3':¬(c.toNat:Int)<48:=by omega
   by_cases h4:57<c.toNat
   ·have h4':57<(c.toNat:Int):=by omega
    repeat apply za
    refine ze [(4,27)] (yG hgk h3 h3' h4 h4') ?_;refine zn (by simp[*]) ?_;refine za (zb ?_);exact zg (zi hd (by simp;rfl) (by rw[Zhi hc1 (by omega)];rfl))
   have h4':¬57<(c.toNat:Int):=by omega
   repeat apply za
   refine ze [(4,27)] (yG hgk h3 h3' h4 h4') ?_;refine zm (by simp[*]) ?_;refine zh ?_;have htk:w.take (k+1)=w.take k++[c]:=by rw[AN,hc1];rfl
   have hnx:wF (w.take (k+1))=if 100000000000000000<=wF (w.take k) then 1000000000000000000 else 10*wF (w.take k)+(c.toNat-48):=by rw[htk];exact ZcD _ _
   have ha':∀d∈w.take (k+1),48<=d.toNat/\d.toNat<=57:=by rw[htk];intro d hd;rw[AC,AV]at hd;exact hd.elim (ha d) (λe=>by subst e;omega)
   obtain⟨d1,hd1⟩:∃d1,wF (w.take (k+1))=d1:=⟨_,rfl⟩;rw[hd1]at hnx;generalize wF (w.take k)=d0 at *
   by_cases w5:100000000000000000<=d0
   ·rw[if_pos w5]at hnx;have w5':100000000000000000<=(d0:Int):=by omega
    refine za (ze [] (zo w5 w5') ?_);refine zn (by simp[*]) ?_;refine zb ?_;refine zb ?_;exact zq (k+1) [] ⟨hc,ha'⟩ (by omega) (by simp[zu k (by omega),hd1,hnx]) rfl (by simp)
   ·rw[if_neg w5]at hnx;have w5':¬100000000000000000<=(d0:Int):=by omega
    have w1:W ((d0:Int)*10)=(d0:Int)*10:=by simp only[W,AI];omega
    have w2:IntKind.u8.wrap ((c.toNat:Int)-48)=(c.toNat:Int)-48:=by
     have e:IntKind.u8.wrap ((c.toNat:Int)-48)=((c.toNat:Int)-48) % 256:=by simp[IntKind.wrap,IntKind.bits,IntKind.signed]
     rw[e];omega
    have w3:W ((c.toNat:Int)-48)=(c.toNat:Int)-48:=by simp only[W,AI];omega
    have w4:W ((d0:Int)*10+((c.toNat:Int)-48))=d1:=by simp only[W,AI];omega
    refine za (ze [] (zo w5 w5') ?_);refine zm (by simp[*]) ?_;refine ze [] (yG hgk w1 w2 w3 w4) ?_;refine zb ?_;exact zq (k+1) [] ⟨hc,ha'⟩ (by omega) (by simp[zu k (by omega),hd1]) rfl (by simp)
  ·simp at hc;obtain rfl:k=w.length:=by omega
   refine zy (XZ (λ_=>.inl rfl) ?_);rw[Ao]at ha ⊢;have hdg:YO w=true:=by unfold YO;rw[As];intro c hc;simpa using ha c hc
   refine za (zb ?_);exact zg (zi hd (by simp;rfl) (by simp[zp,hdg,Xk]))
open Go
def Qs(q:List Int):Prop:=∀z∈q,0<=z/\z<=2147483648
structure GoodV (n:Nat) (v:List Visit):Prop where
 len:v.length<=64
 ok:∀s∈v,(0<=s.d/\s.d<n)/\1<=s.q/\s.q<=2147483648
 nd:(v.map (·.d)).Nodup
def qa:Nat->List Int->List Visit
 | _,[]=>[]
 | i,z :: l=>if 0<z then ⟨i,z⟩ :: qa (i+1) l else qa (i+1) l
theorem Zaf:∀(l:List Int) (i:Nat),(qa i l).length<=l.length
 | [],_=>by simp[qa]
 | z :: l,i=>by
  have:=Zaf l (i+1);simp only[qa];split<;>simp<;>omega
theorem Zag:∀(l:List Int) (i:Nat),Qs l->∀s∈qa i l,((i:Int)<=s.d/\s.d<(i+l.length:Nat))/\1<=s.q/\s.q<=2147483648
 | [],_,_=>by intro s hs;cases hs
 | z :: l,i,h=>by
  have ih:=Zag l (i+1) λx hx=>h x (by simp[hx])
  have hz:=h z (by simp);intro s hs;simp only[qa]at hs;split at hs
  ·rcases Aq.1 hs with rfl | hs
   ·simp only[Ae];omega
   ·have:=ih s hs;simp only[Ae];omega
  ·have:=ih s hs;simp only[Ae];omega
theorem Zho:∀(l:List Int) (i:Nat),∀s∈qa i l,(i:Int)<=s.d
 | [],_=>by intro s hs;cases hs
 | z :: l,i=>by
  have ih:=Zho l (i+1);intro s hs;simp only[qa]at hs;split at hs
  ·rcases Aq.1 hs with rfl | hs
   ·exact Cu _
   ·have:=ih s hs;omega
  ·have:=ih s hs;omega
theorem Zhp:∀(l:List Int) (i:Nat),((qa i l).map (·.d)).Nodup
 | [],_=>by simp[qa]
 | z :: l,i=>by
  have ih:=Zhp l (i+1);simp only[qa];split
  ·rw[Ax,CA];refine⟨λh=>?_,ih⟩;obtain⟨s,hs,e⟩:=An.1 h;have:=Zho l (i+1) s hs;simp only at e;omega
  ·exact ih
theorem Zqn(n a k:Nat):(yD n a k).Nodup:=by
 unfold yD;refine List.Pairwise.map _ (λx y (h:x≠y)=>?_) (List.Pairwise.filter _ List.nodup_range);intro e;apply h;omega
theorem Zhq{q:List Int}{n:Nat}(hq:Qs q)(hl:q.length<=n)(hn:n<=64):GoodV n (qa 0 q):=by
 refine⟨AB (Zaf q 0) (by omega),λs hs=>?_,Zhp q 0⟩;have:=Zag q 0 hq s hs;omega
def Qu(c:Cust)(p:Nat):List Visit:=(yD p 0 64).map λd=>⟨d,c.demand⟩
open Go
structure CustMade (c:Cust) (n:Nat):Prop where
 fits:CustFits c
 pats:∀p∈c.pats,p<2 ^ 64
 npats:c.pats.length<=1048576
 per:c.kind=1->(∀p∈c.pats,∀d∈yD p 0 64,d<n)/\1<=c.demand/\c.demand<=2147483648
open Go
theorem ZcG{α:Type}[Enc α](h1:Enc.sz α=1)(l:List α)(k:Nat)(v:α)(h:k<l.length):yc (l.flatMap Enc.enc) k (Enc.enc v)=(l.set k v).flatMap Enc.enc:=by
 have e1:(l.flatMap Enc.enc).take k=(l.take k).flatMap Enc.enc:=by
  have:=QS (α:=α) Enc.enc (Enc.sz α) Enc.len l k;rwa[h1,BT]at this
 have e2:(l.flatMap Enc.enc).drop (k+1)=(l.drop (k+1)).flatMap Enc.enc:=by
  have:=JG (α:=α) Enc.enc (Enc.sz α) Enc.len l (k+1);rwa[h1,BT]at this
 rw[yc,Enc.len,h1,e1,e2,AH,if_pos h];simp
open Go Go.Proofs Hp
def RowOf(S:Store)(pl:PV)(l:List Int):Prop:=pl=L l\/∃id ver,pl=.sl id ver 1 0 l.length/\S id=.cells ver 3 (l.flatMap Enc.enc)
theorem RowOf.ext{S:Store}{pl:PV}{l:List Int}(h:RowOf S pl l){nx:Nat}(hd:zT nx S)(obs:List Ob):RowOf (ext S nx obs) pl l:=by
 rcases h with h | ⟨id,ver,h1,h2⟩
 ·exact .inl h
 ·exact .inr ⟨id,ver,h1,(zA (yZ hd h2 (by simp))).trans h2⟩
theorem Zhr{S:Store}{nx id ver:Nat}(hd:zT nx S)(x:Inst)(v p f pr:PV)(b:Int)(fn:FuncId)(fs:List PV)(n:Nat)(hn:x.days=n)(hn2:n<=1000)(hS:S id=.cells ver 235 (xy x v b p f pr))(Pk:Nat->Store->Prop)(h0:Pk 0 S)
  (hPd:∀k T,Pk k T->zT nx T) (hstep:∀k,k<n->∀T,Pk k T->Spec prog fn (fs++[I k]) T (λ_ S'=>Pk (k+1) S')) :
  Spec prog 173 [.ptr id ver 0,.fn (.func fn) fs []] S (λ_ S'=>Pk n S'):=by
 refine ut hd Tryz.func173 Tryz.ntmps173 Tryz.results173 ?_;have hlt:id<nx:=yZ hd hS (by simp);have xw:=λobs=>(zA (S:=S) (obs:=obs) hlt).trans hS
 refine za (ze [] (zo xw hn) ?_);refine zj (jr (σ:=Nat × Store) (λs=>s.1<=n/\Pk s.1 s.2) (λs=>[(1,.fn (.func fn) fs []),(9,I n),(10,I s.1)]) (λs=>s.2) (λ_=>[]) (λs=>n-s.1) (zY (0,S) [] ⟨by simp,h0⟩ (by simp) rfl (by simp)) ?_);rintro⟨k,T⟩ ⟨hk,hP⟩;simp only at hk hP ⊢;refine za (zb ?_);refine za (zv rfl (λhc=>?_) (λhc=>?_))
 ·simp at hc;refine zh (za (zj (za (zb ?_))));refine zb ?_;refine λhsuf=>(Spec.mono (by rw[qB (hPd k T hP)];simpa using hstep k hc T hP) ?_).v
  rintro _ T' hP';refine⟨T',[],(qB (hPd _ _ hP')).symm,zL hsuf ?_⟩;refine zb ?_;exact zq (k+1,T') [] ⟨hc,hP'⟩ (by simp;omega) (by simp[zu k (by omega)]) rfl (by simp)
 ·simp at hc;obtain rfl:k=n:=by omega
  refine zy ?_;exact⟨_,T,rfl,hP,zN (hPd _ _ hP)⟩
def Zz(x:Inst)(j:Nat):Int:=W (yC x [(j:Int)])
def jz(x:Inst)(k i:Nat):List (List Int):=(List.range x.cust.length).map λj=>List.replicate (if j<i then k+1 else k) (Zz x j)
theorem Yb(x:Inst)(k i:Nat):(jz x k i).length=x.cust.length:=by simp[jz]
theorem Zhs(x:Inst)(k i j:Nat)(h:j<x.cust.length):(jz x k i).getD j []=List.replicate (if j<i then k+1 else k) (Zz x j):=by
 rw[Aa];simp[jz,h]
theorem Zqo(x:Inst)(k:Nat):jz x k x.cust.length=jz x (k+1) 0:=by
 unfold jz;refine AK λj hj=>?_
 rw[if_pos (AJ.1 hj),if_neg (by omega)]
theorem Zqp(x:Inst)(k i:Nat)(h:i<x.cust.length):(jz x k i).set i (List.replicate (k+1) (Zz x i))=jz x k (i+1):=by
 apply A7;intro j;rw[AZ,Yb]
 by_cases hij:i=j
 ·subst hij;rw[if_pos rfl,if_pos h];simp[jz,h]
 ·rw[if_neg hij]
  by_cases hj:j<x.cust.length
  ·simp only[jz,Aj,AQ hj,A3];congr 2
   by_cases h1:j<i
   ·rw[if_pos h1,if_pos (by omega)]
   ·rw[if_neg h1,if_neg (by omega)]
  ·rw[Ai (by rw[Yb];omega),Ai (by rw[Yb];omega)]
theorem Zqq{S:Store}{id ver A va base:Nat}{ws:Nat->Nat}{x:Inst}{v p f:PV}{b:Int}(k:Nat)(hx:x.cust.length<=1000)(hk:k<=1000)(hid:id<base)(hidA:id≠A)(hS:S id=.cells ver 235 (xy x v b p f (.sl A va 1 0 x.cust.length)))
  (hR:RowsAt S A va 26 base 3 1 ws (jz x k 0)) :
  Spec prog 174 [.ptr id ver 0,I k] S (λ_ S'=>(∃ws',RowsAt S' A va 26 base 3 1 ws' (jz x (k+1) 0))/\∀o,o≠A->(o<base\/base+x.cust.length<=o)->S' o=S o):=by
 refine yh Tryz.func174 Tryz.ntmps174 Tryz.results174 λnx hd=>?_
 have hlt:id<nx:=yZ hd hS (by simp);have hltA:A<nx:=yZ hd hR.arr (by simp);have hltR:∀i,i<x.cust.length->base+i<nx:=λi hi=>yZ hd (hR.row i (by rw[Yb];exact hi)) (by simp)
 have xw:=λobs=>(zA (S:=S) (obs:=obs) hlt).trans hS
 refine za (ze [] xw ?_);refine zj (jr (σ:=Nat × Store × (Nat->Nat)) (λs=>s.1<=x.cust.length/\RowsAt s.2.1 A va 26 base 3 1 s.2.2 (jz x k s.1)/\∀o,o≠A->(o<base\/base+x.cust.length<=o)->s.2.1 o=S o)
  (λs=>[(0,.ptr id ver 0),(10,I x.cust.length),(11,I s.1)]) (λs=>s.2.1) (λ_=>[]) (λs=>x.cust.length-s.1) (zY (0,S,ws) [] ⟨by simp,hR,λ_ _ _=>rfl⟩ (by simp) rfl (by simp)) ?_)
 clear hR;rintro⟨i,T,ws⟩ ⟨hi,hR,hT⟩;simp only at hi hR hT ⊢;refine za (zb ?_);refine za (zv rfl (λhc=>?_) (λhc=>?_))
 ·simp at hc;have hTw:T id=.cells ver 235 (xy x v b p f (.sl A va 1 0 x.cust.length)):=(hT id hidA (.inl hid)).trans hS;have hAb:=hR.out;have hri:=hR.row i (by rw[Yb];exact hc);rw[Zhs x k i i hc,if_neg (CP i)]at hri;have hlti:=hltR i hc;have xw:=λobs=>(zA (S:=T) (obs:=obs) hlt).trans hTw
  have xa:=λobs=>(zA (S:=T) (obs:=obs) hltA).trans hR.arr
  have xr:=λobs=>(zA (S:=T) (obs:=obs) hlti).trans hri
  have ya:=λ(o:Ob) obs=>(zA (S:=T.set (base+i) o) (obs:=obs) hltA).trans ((q10 _ _ _ _ (by omega)).trans hR.arr)
  have yw:=λ(o:Ob) obs=>(zA (S:=T.set (base+i) o) (obs:=obs) hlt).trans ((q10 _ _ _ _ (by omega)).trans hTw)
  have zw:=λ(o o':Ob) obs=>(zA (S:=(T.set (base+i) o).set A o') (obs:=obs) hlt).trans ((q10 _ _ _ _ hidA).trans ((q10 _ _ _ _ (by omega)).trans hTw))
  have g1:¬nx<=base+i:=by omega
  have g2:¬nx<=A:=by omega
  obtain⟨tl,hdr⟩:=Zcx base 1 ws (jz x k i) i (by rw[Yb];exact hc);rw[Zhs x k i i hc,if_neg (CP i),BH]at hdr;have hcl:(vI base 1 ws (jz x k i)).length=x.cust.length:=by rw[Xi,Yb]
  have hsp:=ZbI (vI base 1 ws (jz x k i)) i (.sl (base+i) (ws i+1) 1 0 (k+1)) (by omega);have hway:=ZeE x [(i:Int)] (by simp) (λc hc=>by rw[AV.1 hc];unfold qe;omega);have hfe:∀m:Nat,((List.replicate m (Zz x i)).flatMap Enc.enc).length=m:=λm=>by rw[j4];simp[Enc.sz]
  refine zh (za (zj (za (zb ?_))));refine zz (some [id]) (Row.pures [0,1,2,3,4,5,6,7,8,9,10,12,13,14,15,16,17,18,19] (.alt 11 (.alt 20 (Row.pures [21] (.alt 22 (.done) .stop)) .stop) .stop)) mixed (yl xw xa xr ya yw (zo (yl zw hdr g1 g2 hsp hcl) hc)) ?_;refine zJ (hway) (yl xw xa xr ya yw (zo (yl zw hdr g1 g2 hsp hcl) hc)) ?_;refine⟨by omega,by omega,?_⟩;obtain⟨T',hT'⟩:∃T',T'=(T.set (base+i) (.cells (ws i+1) 3 ((List.replicate (k+1) (Zz x i)).flatMap Enc.enc))).set A (.cells va 26 ((vI base 1 ws (jz x k i)).set i (.sl (base+i) (ws i+1) 1 0 (List.replicate (k+1) (Zz x i)).length))):=⟨_,rfl⟩;have hnew:=hR.turn (i:=i) (by rw[Yb];exact hc) (T':=T') (ws i+1) (List.replicate (k+1) (Zz x i)) (by rw[hT'];exact q11 _ _ _) (by rw[hT',q10 _ _ _ _ (by omega),q11]) (λo o1 o2=>by rw[hT',q10 _ _ _ _ o1,q10 _ _ _ _ o2]);rw[Zqp x k i hc]at hnew;refine zb ?_;refine zq (i+1,T',_) [] ⟨hc,hnew,λo ho hob=>?_⟩ (by simp;omega) (by simp[zu i (by omega)]) ?_ (by simp)
  ·dsimp only;rw[hT',q10 _ _ _ _ ho,q10 _ _ _ _ (by omega)];exact hT o ho hob
  ·dsimp only;rw[hT'];have htk:((List.replicate k (Zz x i)).flatMap Enc.enc).take k=(List.replicate k (Zz x i)).flatMap Enc.enc:=Af (by rw[hfe];exact Ag _);simp only[BH,List.replicate_succ',Av];unfold Zz at htk;simp[Zz,htk]
 ·simp at hc;obtain rfl:i=x.cust.length:=by omega
  rw[Zqo]at hR;refine zy ?_;have hdT:zT nx T:=λo ho=>by
   have h1:o≠A:=by omega
   by_cases h2:o<base\/base+x.cust.length<=o
   ·rw[hT o h1 h2];exact hd o ho
   ·have:=hltR (o-base) (by omega);omega
  exact⟨_,T,rfl,⟨⟨ws,hR⟩,hT⟩,zN hdT⟩
def Yc(k:Nat)(l:List Int):List Int:=l.set k (W (W (2*l.getD k 0)+1))
def vJ(pr:List (List Int))(k i:Nat):List (List Int):=(List.range pr.length).map λj=>if j<i then Yc k (pr.getD j []) else pr.getD j []
def Xl(fs:List Int)(pr:List (List Int))(k:Nat):List (List Int):=if fs.getD k 0=14 then pr.map (Yc k) else pr
def Xm(fs:List Int)(pr:List (List Int)):Nat->List (List Int)
 | 0=>pr
 | k+1=>Xl fs (Xm fs pr k) k
theorem Zht(k:Nat)(l:List Int):(Yc k l).length=l.length:=by simp[Yc]
theorem Qv(pr:List (List Int))(k i:Nat):(vJ pr k i).length=pr.length:=by simp[vJ]
theorem ZcH(pr:List (List Int))(k i j:Nat)(h:j<pr.length):(vJ pr k i).getD j []=if j<i then Yc k (pr.getD j []) else pr.getD j []:=by
 rw[Aa,vJ];simp[h]
theorem Zqr(pr:List (List Int))(k:Nat):vJ pr k 0=pr:=by
 apply A7;intro j;simp only[vJ,DN,if_false,Aj]
 by_cases h:j<pr.length
 ·rw[AQ h];simp[h]
 ·rw[Ai (by simp;omega),Ai (by omega)];rfl
theorem Zqs(pr:List (List Int))(k:Nat):vJ pr k pr.length=pr.map (Yc k):=by
 apply A7;intro j;simp only[vJ,Aj]
 by_cases h:j<pr.length
 ·rw[AQ h];simp[h]
 ·rw[Ai (by simp;omega),Ai (by omega)];rfl
theorem Zqt(pr:List (List Int))(k i:Nat)(h:i<pr.length):(vJ pr k i).set i (Yc k (pr.getD i []))=vJ pr k (i+1):=by
 apply A7;intro j;rw[AZ,Qv]
 by_cases hij:i=j
 ·subst hij;rw[if_pos rfl,if_pos h];simp[vJ,h]
 ·rw[if_neg hij]
  by_cases hj:j<pr.length
  ·simp only[vJ,Aj,AQ hj,A3];congr 1
   by_cases h1:j<i
   ·rw[if_pos h1,if_pos (by omega)]
   ·rw[if_neg h1,if_neg (by omega)]
  ·rw[Ai (by rw[Qv];omega),Ai (by rw[Qv];omega)]
def uW(m n:Nat)(pr:List (List Int)):Prop:=pr.length=m/\∀l∈pr,l.length=n/\∀z∈l,zM z
theorem ZcI(x:Int):zM (W x):=by
 have key:∀m:Int,0<=m->m<2 ^ 64->zM (if (true && decide (m>=2 ^ (64-1)))=true then m-2 ^ 64 else m):=by
  intro m h1 h2;unfold zM
  by_cases h:m>=2 ^ (64-1)
  ·simp[h];omega
  ·simp[h];omega
 exact key _ (Int.emod_nonneg x (by decide)) (Int.emod_lt_of_pos x (by decide))
theorem Zqu{m n:Nat}{pr:List (List Int)}(fs:List Int)(k:Nat)(h:uW m n pr):uW m n (Xl fs pr k):=by
 unfold Xl;split
 ·refine⟨by simp[h.1],λl hl=>?_⟩;obtain⟨l',hl',rfl⟩:=An.1 hl;rw[Zht];refine⟨(h.2 l' hl').1,λz hz=>?_⟩;rcases BC hz with hz | rfl
  ·exact(h.2 l' hl').2 z hz
  ·exact ZcI _
 ·exact h
theorem Ww{m n:Nat}{pr:List (List Int)}(fs:List Int)(h:uW m n pr):∀k,uW m n (Xm fs pr k)
 | 0=>h
 | k+1=>Zqu fs k (Ww fs h k)
theorem Zhu(x:Inst)(n:Nat):uW x.cust.length n (jz x n 0):=by
 refine⟨Yb x n 0,λl hl=>?_⟩;obtain⟨j,_,rfl⟩:=An.1 hl;refine⟨by simp,λz hz=>?_⟩;rw[(List.mem_replicate.1 hz).2];exact ZcI _
theorem Zqv{S:Store}{id ver A va base idF vF:Nat}{ws:Nat->Nat}{x:Inst}{v p:PV}{b:Int}{m n:Nat}{pr:List (List Int)}{fs:List Int}(k:Nat)(hm:m<=1000)(hn:n<=1000)(hkn:k<n)(hid:id<base)(hidA:id≠A)(hF:S idF=.cells vF 47 (fs.flatMap Enc.enc))(hfl:fs.length=n)
  (hS:S id=.cells ver 235 (xy x v b p (.sl idF vF 1 0 fs.length) (.sl A va 1 0 m))) (hP:uW m n pr) (hR:RowsAt S A va 26 base 3 1 ws pr) :
  Spec prog 179 [.ptr id ver 0,I k] S (λ_ S'=>RowsAt S' A va 26 base 3 1 ws (Xl fs pr k)/\∀o,(o<base\/base+m<=o)->S' o=S o):=by
 obtain⟨hPl,hPr⟩:=hP;refine yh Tryz.func179 Tryz.ntmps179 Tryz.results179 λnx hd=>?_
 have hlt:id<nx:=yZ hd hS (by simp);have hltF:idF<nx:=yZ hd hF (by simp);have hltA:A<nx:=yZ hd hR.arr (by simp);have hltR:∀i,i<m->base+i<nx:=λi hi=>yZ hd (hR.row i (by omega)) (by simp)
 have xw:=λobs=>(zA (S:=S) (obs:=obs) hlt).trans hS
 have xf:=λobs=>(zA (S:=S) (obs:=obs) hltF).trans hF
 obtain⟨e,tl0,e1,-,-,e0⟩:=zF rfl fs k (by omega);have hkf:k<fs.length:=by omega
 have hge:fs.getD k 0=e:=by rw[Aa,e1];rfl
 repeat apply za
 refine ze [] (zS xw xf e0 hkf) ?_
 by_cases he:e=14
 case neg =>
  refine zn (by simp[he]) ?_;exact zg ⟨_,S,rfl,⟨by unfold Xl;rw[hge,if_neg he];exact hR,λ_ _=>rfl⟩,zN hd⟩
 refine zm (by simp[he]) ?_;refine zh (za (ze [] xw ?_));have hkill:∀T:Store,(∀o,(o<base\/base+m<=o)->T o=S o)->zT nx T:=λT hT o ho=>by
  by_cases h2:o<base\/base+m<=o
  ·rw[hT o h2];exact hd o ho
  ·have:=hltR (o-base) (by omega);omega
 refine zj (jr (σ:=Nat × Store) (λs=>s.1<=m/\RowsAt s.2 A va 26 base 3 1 ws (vJ pr k s.1)/\∀o,(o<base\/base+m<=o)->s.2 o=S o)
  (λs=>[(0,.ptr id ver 0),(1,I k),(17,I m),(18,I s.1)]) (λs=>s.2) (λ_=>[]) (λs=>m-s.1) (zY (0,S) [] ⟨by simp,by simpa only [Zqr] using hR,λ_ _=>rfl⟩ (by simp) rfl (by simp)) ?_)
 have hAb0:=hR.out;clear hR;rintro⟨i,T⟩ ⟨hi,hR,hT⟩;simp only at hi hR hT ⊢;refine za (zb ?_);refine za (zv rfl (λhc=>?_) (λhc=>?_))
 ·simp at hc;have hil:i<pr.length:=by omega
  have hTw:T id=.cells ver 235 (xy x v b p (.sl idF vF 1 0 fs.length) (.sl A va 1 0 m)):=(hT id (.inl hid)).trans hS;have hri:=hR.row i (by rw[Qv];exact hil);rw[ZcH pr k i i hil,if_neg (CP i)]at hri;obtain⟨tl,hdr⟩:=Zcx base 1 ws (vJ pr k i) i (by rw[Qv];exact hil);rw[ZcH pr k i i hil,if_neg (CP i)]at hdr;have hcl:(vI base 1 ws (vJ pr k i)).length=m:=by rw[Xi,Qv,hPl]
  have hgl:(pr.getD i []).length=n:=by
   rw[Aa,Ad hil];exact(hPr _ (Bh hil)).1
  generalize hrow:pr.getD i []=row at hri hdr hgl;obtain⟨z,tl2,z1,-,-,z0⟩:=zF rfl row k (by omega);have hgz:row.getD k 0=z:=by rw[Aa,z1];rfl
  have hkr:k<row.length:=by omega
  have hlti:=hltR i hc;have xw:=λobs=>(zA (S:=T) (obs:=obs) hlt).trans hTw
  have xa:=λobs=>(zA (S:=T) (obs:=obs) hltA).trans hR.arr
  have xr:=λobs=>(zA (S:=T) (obs:=obs) hlti).trans hri
  have yw:=λ(o:Ob) obs=>(zA (S:=T.set (base+i) o) (obs:=obs) hlt).trans ((q10 _ _ _ _ (by omega)).trans hTw)
  have ya:=λ(o:Ob) obs=>(zA (S:=T.set (base+i) o) (obs:=obs) hltA).trans ((q10 _ _ _ _ (by omega)).trans hR.arr)
  have g1:¬nx<=base+i:=by omega
  have hsp:=ZcG (α:=Int) rfl row k (W (W (2*z)+1)) hkr;have hsp':yc (row.flatMap Enc.enc) k [I (W (W (2*z)+1))]=(row.set k (W (W (2*z)+1))).flatMap Enc.enc:=by simpa using hsp
  have hrl:(row.flatMap Enc.enc).length=n:=by rw[j4,hgl];simp[Enc.sz]
  refine zh (za (zj (za (zb ?_))));refine zz (some [id,A]) (Row.pures [0,1,2,3,4,5,6,7,8,9,10,11,12,13,15] (.alt 14 (Row.pures [16] (.alt 17 (Row.pures [18,19,20] (.alt 21 (.done) .stop)) .stop)) .stop)) mixed (yl xw xa xr yw ya (zo (yl hdr g1 hcl hc z0 hkr) (zS hsp' hrl hgl hkn))) ?_;refine⟨by omega,?_⟩;obtain⟨T',hT'⟩:∃T',T'=T.set (base+i) (.cells (ws i) 3 ((Yc k row).flatMap Enc.enc)):=⟨_,rfl⟩;have hnew:=hR.turn (i:=i) (by rw[Qv];exact hil) (T':=T') (ws i) (Yc k row) (by
   rw[hT',q10 _ _ _ _ (by omega),hR.arr];congr 1;refine(A7 λj=>?_).symm;rw[AZ];split
   ·rename_i hij;subst hij;rw[if_pos (by omega),Wt _ _ _ _ _ (by rw[Qv];exact hil),ZcH pr k i i hil,if_neg (CP i),hrow,Zht]
   ·rfl) (by rw[hT'];exact q11 _ _ _) (λo o1 o2=>by rw[hT'];exact q10 _ _ _ _ o2)
  have hws:(λk=>if k=i then ws i else ws k)=ws:=by funext j;split<;>simp_all
  rw[hws,<-hrow,Zqt pr k i hil]at hnew;refine zb ?_;refine zq (i+1,T') [] ⟨hc,hnew,λo hob=>?_⟩ (by simp;omega) (by simp[zu i (by omega)]) ?_ (by simp)
  ·dsimp only;rw[hT',q10 _ _ _ _ (by omega)];exact hT o hob
  ·dsimp only;rw[hT'];simp only[Yc,hgz]
 ·simp at hc;obtain rfl:i=m:=by omega
  rw[<-hPl,Zqs]at hR;refine zy ?_;exact⟨_,T,rfl,⟨by unfold Xl;rw[hge,if_pos he];exact hR,hT⟩,zN (hkill T hT)⟩
def Yd(e:Int):Bool:=decide (e≠0) && decide (e≠14)
theorem Zqw(e:Int):Pure prog 178 [I e] (B (Yd e)):=by
 unfold Yd;refine zt Tryz.func178 Tryz.ntmps178 Tryz.results178 λS nx hd=>?_
 refine za (zb ?_)
 by_cases h1:e=0
 ·refine za (ze [(2,5)] (zo h1 zH) ?_);exact zg (zi hd rfl (by simp[zp,h1]))
 ·by_cases h2:e=14
  ·refine za (ze [(2,5)] (zE h1 h2 zH) ?_);exact zg (zi hd rfl (by simp[zp,h2]))
  ·refine za (ze [(2,5)] (zE h1 h2 zH) ?_);exact zg (zi hd rfl (by simp[zp,h1,h2]))
theorem Zqx{S:Store}{idF vF:Nat}(fs:List Int)(hF:S idF=.cells vF 47 (fs.flatMap Enc.enc))(hl:fs.length<=1000):
  Spec prog 213 [.sl idF vF 1 0 fs.length,.fn (.func 178) [] []] S (λq S'=>(∃z:Int,q=I z/\(fs.any Yd=decide (0<=z)))/\S'=S):=by
 refine yh Tryz.func213 Tryz.ntmps213 Tryz.results213 λnx hd=>?_
 have hltF:idF<nx:=yZ hd hF (by simp);have xf:=λobs=>(zA (S:=S) (obs:=obs) hltF).trans hF
 refine za (zb ?_)
 repeat apply za
 refine zb ?_;refine zj (zD (λk:Nat=>k<=fs.length/\∀e∈fs.take k,Yd e=false) (λk=>[(0,.sl idF vF 1 0 fs.length),(1,.fn (.func 178) [] []),(7,I fs.length),(8,I k)]) (λ_=>[]) (λk=>fs.length-k) 0 [] (by simp) (by simp) (by simp) ?_);rintro k ⟨hk,h0⟩;refine za (zb ?_);refine za (zv rfl (λhc=>?_) (λhc=>?_))
 ·simp at hc;obtain⟨e,tl,a1,a2,a3,e0⟩:=zF rfl fs k hc;refine zh (za (zj (za (zb ?_))));refine za (ze [] (zE xf e0 hc) ?_);refine zr (Zqw e) ?_;cases hb:Yd e with
  | true =>
   refine zn rfl (za (zb ?_));exact zg ⟨_,S,rfl,⟨⟨k,by simp[zp],by rw[BY.2 ⟨e,Ab a1,hb⟩];simp⟩,rfl⟩,zN hd⟩
  | false =>
   refine zm rfl (zh (zb ?_));exact zq (k+1) [] ⟨hc,λy hy=>by rw[a3]at hy;rcases AC.1 hy with h | h;exact h0 y h;rw[AV.1 h];exact hb⟩ (by omega) (by simp[zu k (by omega)]) rfl (by simp)
 ·simp at hc;obtain rfl:k=fs.length:=by omega
  rw[Ao]at h0;refine zy (za (zb ?_));exact zg ⟨_,S,rfl,⟨⟨-1,by simp[zp],by rw[Cp.2 λe he=>by rw[h0 e he];simp];rfl⟩,rfl⟩,zN hd⟩
theorem Zqy{S:Store}{idF vF:Nat}(fs:List Int)(hF:S idF=.cells vF 47 (fs.flatMap Enc.enc))(hl:fs.length<=1000):
  Spec prog 177 [.sl idF vF 1 0 fs.length,.fn (.func 178) [] []] S (λq S'=>q=B (fs.any Yd)/\S'=S):=by
 refine yh Tryz.func177 Tryz.ntmps177 Tryz.results177 λnx hd=>?_
 have hltF:idF<nx:=yZ hd hF (by simp);refine za (zb ?_);refine za (zb ?_);refine λhsuf=>((Zqx fs ((zA hltF).trans hF) hl).mono ?_).v
 rintro _ _ ⟨⟨z,rfl,hz⟩,rfl⟩;refine⟨_,_,rfl,zL hsuf ?_⟩;exact zg ⟨_,S,rfl,⟨by simp[zp,hz],rfl⟩,zN hd⟩
def uX(x:Inst)(sol:Cust->List Int->List Visit × Bool)(pr:List (List Int))(k:Nat):List (List Visit × Bool):=(List.range k).map λi=>sol (x.cust.getD i default) (pr.getD i [])
def qD(x:Inst)(sol:Cust->List Int->List Visit × Bool)(pr:List (List Int)):List (List Visit) × Int:=if (uX x sol pr x.cust.length).all (·.2)=true then ((uX x sol pr x.cust.length).map (·.1),0) else ([],15)
theorem Zqz(x:Inst)(sol:Cust->List Int->List Visit × Bool)(pr:List (List Int))(k:Nat):uX x sol pr (k+1)=uX x sol pr k++[sol (x.cust.getD k default) (pr.getD k [])]:=by simp[uX,AO]
theorem Zhv(x:Inst)(sol:Cust->List Int->List Visit × Bool)(pr:List (List Int)){k m:Nat}(h:k<m):sol (x.cust.getD k default) (pr.getD k [])∈uX x sol pr m:=An.2 ⟨k,AJ.2 h,rfl⟩
def ZcJ(x:Inst)(n:Nat)(sol:Cust->List Int->List Visit × Bool):Prop :=
 ∀c∈x.cust,∀(l:List Int),l.length=n->(∀z∈l,zM z)->∀(S:Store) (pl:PV),RowOf S pl l->Spec prog 207 [.agg (ye c),I x.days,I x.cap,pl] S (λq S'=>q=.tup [L (sol c l).1,B (sol c l).2]/\S'=S)
theorem ZqA{S:Store}{A va base:Nat}{ws:Nat->Nat}{x:Inst}{n:Nat}{pr:List (List Int)}{sol:Cust->List Int->List Visit × Bool}(hx:x.cust.length<=1000)(hP:uW x.cust.length n pr)(hR:RowsAt S A va 26 base 3 1 ws pr)(hs:ZcJ x n sol):
  Spec prog 175 [.agg (zx x),.sl A va 1 0 x.cust.length] S (λq S'=>q=.tup [L (qD x sol pr).1,I (qD x sol pr).2]/\S'=S):=by
 obtain⟨hPl,hPr⟩:=hP;refine yh Tryz.func175 Tryz.ntmps175 Tryz.results175 λnx hd=>?_
 have hltA:A<nx:=yZ hd hR.arr (by simp);have xa:=λobs=>(zA (S:=S) (obs:=obs) hltA).trans hR.arr
 refine za (zb ?_);intro v0;refine za (zb ?_);refine za (jf 6 101 1 rfl λv1=>?_);refine za (zb ?_);refine zj (zD (λs:Nat × List (List Visit) × Nat=>s.1<=x.cust.length/\s.2.1=(uX x sol pr s.1).map (·.1)/\(uX x sol pr s.1).all (·.2)=true) (λ(i,out,w)=>[(1,.sl A va 1 0 x.cust.length),(2,.ptr nx v0 0),(4,.sc (.slice none 0 0)),(6,.sl (nx+1) w 1 0 out.length),(13,L x.cust),(14,I x.cust.length),(15,I i)]) (λ(i,out,w)=>[.cells v0 25 (zx x),.cells w 101 (out.flatMap Enc.enc)]) (λs=>x.cust.length-s.1) (0,[],v1) [] (by simp[uX]) (by simp) (by simp) ?_);rintro⟨i,out,w⟩ ⟨hi,ho,hall⟩;simp only at hi ho hall ⊢;have hol:out.length=i:=by rw[ho];simp[uX]
 refine za (zb ?_);refine za (zv rfl (λhc=>?_) (λhc=>?_))
 ·simp at hc;obtain⟨c,tl,a1,a2,a3,e1,e0⟩:=el 8 rfl x.cust i hc;have hcm:=Ab a1;have hgc:x.cust.getD i default=c:=by rw[Aa,a1];rfl
  have hil:i<pr.length:=by omega
  obtain⟨tl2,hdr⟩:=Zcx base 1 ws pr i hil;obtain⟨hgl,hgi⟩:(pr.getD i []).length=n/\∀z∈pr.getD i [],zM z:=by
   rw[Aa,Ad hil];exact hPr _ (Bh hil)
  have hrow:RowOf S (.sl (base+i) (ws i) 1 0 (pr.getD i []).length) (pr.getD i []):=.inr ⟨_,_,rfl,hR.row i hil⟩;have hsol:=hs c hcm (pr.getD i []) hgl hgi;have hch:=Zqz x sol pr i;have hcm2:=Zhv x sol pr (k:=i) hc;rw[hgc]at hch hcm2;generalize pr.getD i []=row at hdr hgl hgi hrow hsol hch hcm2;generalize hr:sol c row=r at hsol hch hcm2;obtain⟨vv,ok⟩:=r;simp only at hsol hch;refine zh (za (zj (za (ze [] (zo e0 hc) ?_))));intro v2;refine za (zb ?_)
  repeat apply za
  refine zb ?_;refine zn (by simp[hc]) ?_;refine ze [] (zE xa hdr hc) ?_;refine za (zb ?_);refine λhsuf=>((hsol _ _ (hrow.ext hd _)).mono ?_).v
  rintro _ _ ⟨rfl,rfl⟩;refine⟨_,_,rfl,zL hsuf ?_⟩
  repeat apply za
  refine zb ?_;cases ok with
  | false =>
   have hno:qD x sol pr=([],15):=by
    unfold qD;rw[if_neg];intro q;have:=As.1 q _ hcm2;cases this
   rw[hno];refine zn rfl (za (zb ?_));refine ZU 4 rfl ?_;exact zg ⟨_,S,rfl,⟨by simp[zp],rfl⟩,zN hd⟩
  | true =>
   refine zm rfl (zh (zb ?_));refine⟨by omega,?_⟩;refine zb ?_;exact zq (i+1,out++[vv],w+1) [_] ⟨hc,by rw[hch,List.map_append,ho];rfl,by rw[hch,CN,hall];rfl⟩ (by simp;omega) (by simp[zu i (by omega)]) rfl (by simp;rfl)
 ·simp at hc;obtain rfl:i=x.cust.length:=by omega
  have hyes:qD x sol pr=(out,0):=by unfold qD;rw[if_pos hall,<-ho]
  rw[hyes];refine zy (yb 1 rfl ?_);refine za (zb ?_);exact zg ⟨_,S,(by simp;rfl),⟨by simp[zp],rfl⟩,zN hd⟩
open Go
def Xn(x:Inst)(p:zC)(i:Nat):Int :=
 match x.cust[i]? with
 | none=>0
 | some c=>if c.kind=2 then Jf c (jK c (yJ (y9 i (told 0 p)) x.days)).1 else 0
def wG(x:Inst)(p:zC)(k:Nat):Int:=((List.range k).map (Xn x p)).sum
theorem ZqB(x:Inst)(p:zC)(k:Nat):wG x p (k+1)=wG x p k+Xn x p k:=by simp[wG,AO]
theorem Zhw(c:Cust)(q:List Int)(hq:q.length<=1048576):(jK c q).1.length<=1048576:=by
 unfold jK;split
 ·simp
 ·cases h:xQ c.size c.rate c.start q with
  | none=>simp
  | some l=>simp[Zpj h];exact hq
theorem Zah(v:List Visit)(n:Int):(yJ v n).length<=1048576:=by rw[Zcq];omega
theorem Zhx(x:Inst)(p:zC)(h:Serves x p)(hx:x.cust.length<=1048576)(hf:∀c∈x.cust,CustFits c):Pure prog 69 [.agg (zx x),.agg [L p]] (I (W (wG x p x.cust.length))):=by
 refine zt Tryz.func69 Tryz.ntmps69 Tryz.results69 λS nx hd=>?_
 refine za (zb ?_);intro v0 v1;refine za (zb ?_)
 repeat apply za
 refine zb ?_;refine zj (zD (λs:Nat=>s<=x.cust.length) (λk=>[(2,.ptr nx v0 0),(3,.ptr (nx+1) v1 0),(5,I (W (wG x p k))),(11,L x.cust),(12,I x.cust.length),(13,I k)]) (λ_=>[.cells v0 25 (zx x),.cells v1 30 [L p]]) (λs=>x.cust.length-s) 0 [] (by simp) (by simp[wG]) (by simp) ?_);rintro k hk;refine za (zb ?_);refine za (zv rfl (λhc=>?_) (λhc=>?_))
 ·simp at hc;obtain⟨c,tl,a1,a2,a3,_,e0⟩:=el 8 rfl x.cust k hc;have hfc:=hf c (Ab a1);have hs:=ZqB x p k;refine zh (za (zj (za (ze [] (zo hc e0) ?_))));intro v2;refine za (zb ?_)
  by_cases hk2:c.kind=2
  ·have hb:=ZgV x p k h;have hn:=Zco c (yJ (y9 k (told 0 p)) x.days) hfc (Zah _ _);have hh:=Zcp c (jK c (yJ (y9 k (told 0 p)) x.days)).1 (Zhw _ _ (Zah _ _));have hC:Xn x p k=Jf c (jK c (yJ (y9 k (told 0 p)) x.days)).1:=by simp only[Xn,a1,if_pos hk2]
   rw[hC]at hs;generalize Jf c (jK c (yJ (y9 k (told 0 p)) x.days)).1=z at *;generalize jK c (yJ (y9 k (told 0 p)) x.days)=ne at *;generalize yJ (y9 k (told 0 p)) x.days=q at *;obtain⟨ns,er⟩:=ne;simp only at hn hh;refine zn (by simp[hk2]) ?_;refine za (zz (some [nx,nx+1,nx+2]) (Row.pures [0,1,2,3,4,5,6,7,8,9,10,11] .done) mixed trivial ?_);refine zJ (hb) trivial ?_;refine zJ (hn) trivial ?_;refine zb ?_;refine zr hh ?_;have hw:W (W (wG x p k)+z)=W (wG x p (k+1)):=by rw[hs,Zi]
   refine zb ?_;exact zq (k+1) [_] hc (by omega) (by simp[zu k (by omega)];exact hw) rfl rfl
  ·have hC:Xn x p k=0:=by simp only[Xn,a1,if_neg hk2]
   rw[hC,Int.add_zero]at hs;refine zm (by simp[hk2]) ?_;refine zh (zb ?_);exact zq (k+1) [_] hc (by omega) (by simp[zu k (by omega),hs]) rfl rfl
 ·simp at hc;obtain rfl:k=x.cust.length:=by omega
  refine zy (za (zb ?_));exact zg (zi hd (by simp;rfl) rfl)
def xT(x:Inst)(p:zC):List Int:=p.map λd=>W (yq x d)
theorem ZqC(x:Inst)(p:zC)(hp:p.length<=1048576)(hd':∀d∈p,DayOk d)(S:Store)(nx:Nat)(hd:zT nx S):
  Spec prog 71 [.agg (zx x),.agg [L p]] S (λq S'=>∃v,q=.sl (nx+2) v 1 0 p.length/\S'=S.set (nx+2) (.cells v 3 ((xT x p).flatMap Enc.enc))):=by
 refine ut hd Tryz.func71 Tryz.ntmps71 Tryz.results71 ?_;refine za (zb ?_);intro v0 v1;refine za (zb ?_);refine za (jf 5 3 1 rfl λv2=>?_);refine za (zb ?_);refine zj (zD (λs:Nat × List Int × Nat=>s.1<=p.length/\s.2.1=xT x (p.take s.1)) (λ(k,out,v2)=>[(2,.ptr nx v0 0),(3,.ptr (nx+1) v1 0),(5,.sl (nx+2) v2 1 0 out.length),(9,L p),(10,I p.length),(11,I k)]) (λ(k,out,v2)=>[.cells v0 25 (zx x),.cells v1 30 [L p],.cells v2 3 (out.flatMap Enc.enc)]) (λs=>p.length-s.1) (0,[],v2) [] (by simp[xT]) (by simp) (by simp) ?_);rintro⟨k,out,v2⟩ ⟨hk,ho⟩;simp only at hk ho ⊢;have hol:out.length=k:=by rw[ho];simp[xT];omega
 refine za (zb ?_);refine za (zv rfl (λhc=>?_) (λhc=>?_))
 ·simp at hc;obtain⟨d,tl,a1,a2,a3,e0⟩:=zF rfl p k hc;refine zh (za (zj (za (ze [] (zo hc e0) ?_))));intro v3;refine zb ?_;refine zr (JZ x d (hd' d (Ab a1))) ?_;refine⟨by omega,?_⟩;refine zb ?_;exact zq (k+1,out++[W (yq x d)],v2+1) [_] ⟨hc,by rw[a3,ho];simp[xT]⟩ (by simp;omega) (by simp[zu k (by omega)]) rfl (by simp;rfl)
 ·simp at hc;obtain rfl:k=p.length:=by omega
  rw[Ao]at ho;refine zy (za (zb ?_));refine zg ⟨_,_,rfl,⟨v2,by simp[zp,hol],rfl⟩,Y7 (j:=2) hd (by simp[ho])⟩
theorem Zhy(x:Inst)(p:zC)(hp:p.length<=1048576)(hd':∀d∈p,DayOk d):Pure prog 71 [.agg (zx x),.agg [L p]] (L (xT x p)):=by
 have hl:(xT x p).length=p.length:=by simp[xT]
 have:=Vw 2 (λS nx hd=>ZqC x p hp hd' S nx hd) (by rw[jG,hl];omega);rw[<-hl]at this;exact this
def xU(x:Inst)(p:zC):Int:=W (wG x p x.cust.length+(p.map (yq x)).sum)
theorem ZqD(a:Int)(l:List Int):W (a+(l.map W).sum)=W (a+l.sum):=by
 induction l generalizing a with
 | nil=>rfl
 | cons b l ih =>
  simp only[Ax,BP];have e1:a+(W b+(l.map W).sum)=(a+W b)+(l.map W).sum:=by omega
  rw[e1,ih,show a+W b+l.sum=(a+l.sum)+W b by omega,Za9,show a+l.sum+b=a+(b+l.sum) by omega]
theorem ZqE(x:Inst)(p:zC):W (W (wG x p x.cust.length)+(xT x p).sum)=xU x p:=by
 have:xT x p=(p.map (yq x)).map W:=by simp[xT]
 rw[this,Zi,ZqD,xU]
theorem ZqF(x:Inst)(p:zC)(h:Serves x p)(hx:x.cust.length<=1048576)(hf:∀c∈x.cust,CustFits c)(hd':∀d∈p,DayOk d):Pure prog 68 [.agg (zx x),.agg [L p]] (I (xU x p)):=by
 have hres:=ZqE x p;have hl:(xT x p).length=p.length:=by simp[xT]
 have hpn:=h.sz.n;have hdy:=Zhy x p hpn hd';rw[<-hres];generalize xT x p=ds at hl hdy;refine zt Tryz.func68 Tryz.ntmps68 Tryz.results68 λS nx hd=>?_
 refine za (zb ?_);intro v0 v1;refine za (zb ?_);refine zr (Zhx x p h hx hf) ?_
 repeat apply za
 refine zb ?_;refine zr hdy ?_;refine zj (zD (λs:Nat=>s<=ds.length) (λk=>[(5,I (W (W (wG x p x.cust.length)+(ds.take k).sum))),(13,L ds),(14,I ds.length),(15,I k)]) (λ_=>[]) (λs=>ds.length-s) 0 [_,_] (by simp) (by simp[W_W]) rfl ?_);rintro k hk;refine za (zb ?_);refine za (zv rfl (λhc=>?_) (λhc=>?_))
 ·simp at hc;obtain⟨z,tl,a1,a2,a3,e0⟩:=zF rfl ds k hc;have hw:W (W (W (wG x p x.cust.length)+(ds.take k).sum)+z)=W (W (wG x p x.cust.length)+(ds.take (k+1)).sum):=by rw[a3,ZgL,Zi];congr 1;omega
  refine zh (za (zj (za (ze [] (zo hc e0) ?_))));refine zb ?_;refine zb ?_;exact zq (k+1) [] hc (by omega) (by simp[zu k (by omega)];exact hw) rfl (by simp)
 ·simp at hc;obtain rfl:k=ds.length:=by omega
  rw[Ao];refine zy (za (zb ?_));exact zg (zi hd (by simp;rfl) rfl)
open Go
def Xo(p:zC):Nat:=(p.map λd=>d.flatten.length).sum
theorem Zhz:∀(p:zC) (i:Nat),(told i p).length=Xo p
 | [],_=>rfl
 | d :: p,i=>by
  have:=Zhz p (i+1);simp only[told,Ar,List.length_map,Xo,Ax,BP]at this ⊢;omega
theorem ZhA:∀(d:zk),(∀t∈d,t≠[])->d.length<=d.flatten.length
 | [],_=>by simp
 | t :: d,h=>by
  have h1:=ZhA d λu hu=>h u (by simp[hu])
  have h2:=B5.2 (h t (by simp));simp only[Bp,Ae,Ar];omega
theorem Zai:∀(d:zk) (t:zK),t∈d->t.length<=d.flatten.length
 | [],_,h=>by cases h
 | u :: d,t,h=>by
  simp only[Bp,Ar];rcases Aq.1 h with rfl | h
  ·omega
  ·have:=Zai d t h;omega
open Go
def lx:Inst:=⟨1,1,9,9,[],[[0]]⟩
def ly:Inst:=⟨1,1,9,9,[⟨1,1,[1],0,0,0,0,0⟩],[[0,3],[4,0]]⟩
def lp:zC:=[[]]
theorem ZqG:∀i:Nat,yF 1 i=1<->i=0:=by
 intro i;cases i with
 | zero=>simp[yF]
 | succ i=>simp[yF,Nat.div_eq_of_lt (show 1<2 ^ (i+1) from Nat.one_lt_two_pow (by omega))]
open Go
theorem ZhB(p:Nat):∀k:Nat,k<=64->∀i:Nat,yF (j5 p k) i=1->i<k
 | 0,_,i,h=>by simp[j5,yF]at h
 | k+1,hk,i,h=>by
  have ih:=ZhB p k (by omega) i;unfold j5 at h;split at h
  ·rw[ZpG _ _ (VE p k) (by omega)]at h;have h2:((j5 p k ||| 2 ^ k).testBit i)=true:=by
    rw[Xg];unfold qC at h;rw[if_pos (by omega),AT]at h;simp[h]
   rw[Do,CJ,B7]at h2;rcases h2 with h2 | h2
   ·rw[Xg]at h2;have:=ih (by simpa using h2);omega
   ·have:k=i:=by simpa using h2
    omega
  ·have:=ih h;omega
theorem Wx{p a k:Nat}{d:Int}(h:d∈yD p a k):∃i:Nat,d=i/\i<k/\yF p i=1:=by
 simp only[yD,An,Bd,AJ,Au,decide_eq_true_eq]at h;obtain⟨i,⟨h1,_,h3⟩,rfl⟩:=h;exact⟨i,rfl,h1,h3⟩
theorem ZhC(c:Cust)(days:Int)(h1:1<=days)(h7:days<=7):CustMade (jt c days) days.toNat:=by
 unfold jt;split
 ·have a:=xp c.rate 0 9 (by omega);have b:=xp c.size 1 30 (by omega);have d:=xp c.start 0 (yB c.size 1 30) (by omega);exact⟨⟨by dsimp only;omega,by dsimp only;omega,by dsimp only;omega⟩,by simp,by simp,λh=>by simp at h⟩
 ·have a:=xp c.demand 1 15 (by omega);refine⟨⟨by simp,by simp,by simp⟩,?_,?_,λ_=>⟨?_,by dsimp only;omega,by dsimp only;omega⟩⟩
  ·intro p hp;simp only[Zk]at hp;split at hp
   ·simp only[AV]at hp;omega
   ·obtain⟨q,_,rfl⟩:=An.1 hp;exact VE q _
  ·simp only[Zk];split
   ·simp
   ·simp;omega
  ·intro p hp d hd;obtain⟨i,rfl,_,hb⟩:=Wx hd;simp only[Zk]at hp;split at hp
   ·simp only[AV]at hp;subst hp;have:=(ZqG i).1 hb;omega
   ·obtain⟨q,_,rfl⟩:=An.1 hp;have:=ZhB q days.toNat (by omega) i hb;omega
theorem Wy(x:Inst):1<=(yo x).days/\(yo x).days<=7:=xp x.days 1 7 (by omega)
theorem ZqH(x:Inst):0<=(yo x).cap/\(yo x).cap<=40:=xp x.cap 0 40 (by omega)
theorem ZqI(x:Inst):0<=(yo x).veh/\(yo x).veh<=5:=xp x.veh 0 5 (by omega)
theorem ZqJ(x:Inst):0<=(yo x).len/\(yo x).len<=300:=xp x.len 0 300 (by omega)
theorem ZqK(x:Inst):(yo x).cust.length<=6:=by simp[yo];omega
theorem ZcK(x:Inst){c:Cust}(h:c∈(yo x).cust):∃c0,c=jt c0 (yo x).days:=by
 simp only[yo,An]at h;obtain⟨c0,_,rfl⟩:=h;exact⟨c0,rfl⟩
def ZqL(x:Inst)(v c l:Int):Inst:=⟨(yo x).days,v,c,l,(yo x).cust,(yo x).dist⟩
theorem ZqM{d:zk}{t:zK}(ht:t∈d){s:Stop}(hs:s∈t):s∈d.flatten:=BO.2 ⟨t,ht,hs⟩
theorem ZhD{m:Nat}:∀(l:List Int),l.Nodup->(∀c∈l,0<=c/\c<m)->l.length<=m:=by
 intro l hn hl;have h1:(l.map Int.toNat).Nodup:=by
  refine List.Pairwise.map _ ?_ (List.Pairwise.and_mem.1 hn);rintro a b ⟨ha,hb,hab⟩ e;have:=hl a ha;have:=hl b hb;exact hab (by omega)
 have h2:∀c∈l.map Int.toNat,c∈List.range m:=by
  intro c hc;obtain⟨z,hz,rfl⟩:=An.1 hc;have:=hl z hz;exact AJ.2 (by omega)
 have:=h1.length_le_of_subset h2;simpa using this
open Go Go.Proofs Hp
theorem ZcL(p:Nat)(hp:p<2 ^ 64):Pure prog 305 [U p] (L (yD p 0 64)):=by
 have h:=ZgO p 0 hp (by decide);refine zt Tryz.func305 Tryz.ntmps305 Tryz.results305 λS nx hd=>?_
 refine za (zb ?_);refine za (zb ?_);refine zr h ?_;exact zg (zi hd rfl rfl)
theorem ZqN(c:Cust)(p:Nat)(hp:p<2 ^ 64):Pure prog 277 [.agg (ye c),U p] (L (Qu c p)):=by
 have hall:=ZcL p hp;have hln:=Xf p 0 64;unfold Qu;generalize yD p 0 64=l at hall hln;refine zt Tryz.func277 Tryz.ntmps277 Tryz.results277 λS nx hd=>?_
 refine za (zb ?_);intro v0;refine za (zb ?_);refine za (jf 5 104 2 rfl λv1=>?_);refine za (zb ?_);refine zr hall ?_;refine zj (zD (λs:Nat × List Visit × Nat=>s.1<=l.length/\s.2.1=(l.take s.1).map λd=>⟨d,c.demand⟩) (λ(k,out,v1)=>[(2,.ptr nx v0 0),(5,.sl (nx+1) v1 2 0 out.length),(9,L l),(10,I l.length),(11,I k)]) (λ(k,out,v1)=>[.cells v0 87 (ye c),.cells v1 104 (out.flatMap Enc.enc)]) (λs=>l.length-s.1) (0,[],v1) [] (by simp) (by simp) (by simp) ?_);rintro⟨k,out,v1⟩ ⟨hk,ho⟩;simp only at hk ho ⊢;have hol:out.length=k:=by rw[ho];simp;omega
 refine za (zb ?_);refine za (zv rfl (λhc=>?_) (λhc=>?_))
 ·simp at hc;obtain⟨d,tl,a1,a2,a3,e0⟩:=zF rfl l k hc;refine zh (za (zj (za (ze [] (zo e0 hc) ?_))));refine zb ?_;refine⟨by omega,?_⟩;refine zb ?_;exact zq (k+1,out++[⟨d,c.demand⟩],v1+1) [] ⟨hc,by rw[a3,ho];simp⟩ (by simp;omega) (by simp[zu k (by omega)]) rfl (by simp)
 ·simp at hc;obtain rfl:k=l.length:=by omega
  rw[Ao]at ho;refine zy (yb 1 rfl ?_);refine za (zb ?_);exact zg (zi hd (by simp;rfl) (by simp[zp,ho]))
def vK(price:List Int)(ds:List Int):Int:=ds.foldl (λ(s d:Int)=>if d<price.length then w8 s (price.getD d.toNat 0) else s) 0
def Wz(price:List Int)(p:Nat):Int:=vK price (yD p 0 64)
def jL(price:List Int)(l:List Nat):Nat->Int × Int
 | 0=>(-1,0)
 | k+1=>if (jL price l k).1<0\/Wz price (l.getD k 0)<(jL price l k).2 then (k,Wz price (l.getD k 0)) else jL price l k
theorem ZcM(price:List Int)(l:List Nat):∀k:Nat,(jL price l k).1<k/\-1<=(jL price l k).1/\(0<k->0<=(jL price l k).1)
 | 0=>by simp[jL]
 | k+1=>by
  have:=ZcM price l k;unfold jL;split
  ·dsimp only;omega
  ·rename_i h;omega
theorem ZqO(a b:Int)(ha:zM a)(hb:zM b):zM (w8 a b):=by
 unfold zM w8 at *;split
 ·omega
 ·split<;>omega
theorem ZqP(price ds:List Int)(d:Int):vK price (ds++[d])=if d<price.length then w8 (vK price ds) (price.getD d.toNat 0) else vK price ds:=by simp[vK]
theorem ZqQ(price:List Int)(hp:∀z∈price,zM z)(ds:List Int):zM (vK price ds):=by
 unfold vK;have:∀(ds:List Int) (s:Int),zM s->zM (ds.foldl (λ(s d:Int)=>if d<price.length then w8 s (price.getD d.toNat 0) else s) s):=by
  intro ds
  induction ds with
  | nil=>intro s h;exact h
  | cons d ds ih =>
   intro s h;rw[A8];apply ih;split
   ·refine ZqO _ _ h ?_;rw[Aa];cases hq:price[d.toNat]? with
    | none=>unfold zM;simp
    | some z=>exact hp z (Ab hq)
   ·exact h
 exact this ds 0 (by unfold zM;omega)
theorem ZqR{S:Store}{pl:PV}{price:List Int}(l:List Nat)(hR:RowOf S pl price)(hp:∀z∈price,zM z)(hpl:price.length<=1000)(hl:l.length<=1000)(h64:∀p∈l,p<2 ^ 64):
  Spec prog 276 [L l,pl] S (λq S'=>q=.tup [I (jL price l l.length).1,I (jL price l l.length).2]/\S'=S):=by
 refine yh Tryz.func276 Tryz.ntmps276 Tryz.results276 λnx hd=>?_
 refine za (zb ?_);refine za (zb ?_)
 repeat apply za
 refine zb ?_;refine zj (zD (λk:Nat=>k<=l.length) (λk=>[(1,pl),(6,I (jL price l k).1),(7,I (jL price l k).2),(13,L l),(14,I l.length),(15,I k)]) (λ_=>[]) (λk=>l.length-k) 0 [] (by simp) (by simp[jL]) (by simp) ?_);rintro k hk;have hb:jL price l (k+1)=if (jL price l k).1<0\/Wz price (l.getD k 0)<(jL price l k).2 then (↑k,Wz price (l.getD k 0)) else jL price l k:=rfl
 generalize hst:jL price l k=st at hb ⊢;obtain⟨place,least⟩:=st;simp only at hb ⊢;refine za (zb ?_);refine za (zv rfl (λhc=>?_) (λhc=>?_))
 ·simp at hc;obtain⟨p,tl,a1,a2,a3,e0⟩:=zF rfl l k hc;have hall:=ZcL p (h64 p (Ab a1));have hgp:l.getD k 0=p:=by rw[Aa,a1];rfl
  rw[hgp]at hb;have hds:∀d∈yD p 0 64,∃i:Nat,d=i:=λd hd=>by obtain⟨i,h,_⟩:=Wx hd;exact⟨i,h⟩
  have hdl:=Xf p 0 64;rw[show Wz price p=vK price (yD p 0 64) from rfl]at hb;generalize yD p 0 64=ds at hall hds hdl hb;refine zh (za (zj (za (ze [] (zo e0 hc) ?_))));refine za (zb ?_)
  repeat apply za
  refine zb ?_;refine zr hall ?_;refine zj (zD (λj:Nat=>j<=ds.length) (λj=>[(1,pl),(6,I place),(7,I least),(8,I k),(10,I (vK price (ds.take j))),(13,L l),(14,I l.length),(15,I k),(21,L ds),(22,I ds.length),(23,I j)]) (λ_=>[]) (λj=>ds.length-j) 0 [] (by simp) (by simp[vK]) (by simp) ?_);rintro j hj;refine za (zb ?_);refine za (zv rfl (λhc2=>?_) (λhc2=>?_))
  ·simp at hc2;obtain⟨d,tl2,b1,b2,b3,f0⟩:=zF rfl ds j hc2;obtain⟨i,rfl⟩:=hds d (Ab b1);have hsn:=ZqP price (ds.take j) (i:Int);rw[<-b3,AT]at hsn;have hsi:=ZqQ price hp (ds.take j);refine zh (za (zj (za (ze [] (zo f0 hc2) ?_))))
   by_cases hi:i<price.length
   ·obtain⟨z,tl3,c1,-,-,g0⟩:=zF rfl price i hi;have hgz:price.getD i 0=z:=by rw[Aa,c1];rfl
    rw[if_pos (by omega),hgz]at hsn;have hsat:=V7 (vK price (ds.take j)) z hsi (hp z (Ab c1));rw[<-hsn]at hsat;rcases hR with rfl | ⟨id,ver,rfl,hS⟩
    ·refine za (ze [] hi ?_);refine zn rfl (ze [] (zo g0 hi) ?_);refine zr hsat ?_;refine zb ?_;exact zq (j+1) [] hc2 (by omega) (by simp[zu j (by omega)]) rfl (by simp)
    ·have hlt:id<nx:=yZ hd hS (by simp);have xr:=λobs=>(zA (S:=S) (obs:=obs) hlt).trans hS
     refine za (ze [] hi ?_);refine zn rfl (ze [] (zE xr g0 hi) ?_);refine zr hsat ?_;refine zb ?_;exact zq (j+1) [] hc2 (by omega) (by simp[zu j (by omega)]) rfl (by simp)
   ·rw[if_neg (by omega)]at hsn;rcases hR with rfl | ⟨id,ver,rfl,hS⟩
    ·refine za (ze [] hi ?_);refine zm rfl (zh (zb ?_));exact zq (j+1) [] hc2 (by omega) (by simp[zu j (by omega),hsn]) rfl (by simp)
    ·refine za (ze [] hi ?_);refine zm rfl (zh (zb ?_));exact zq (j+1) [] hc2 (by omega) (by simp[zu j (by omega),hsn]) rfl (by simp)
  ·simp at hc2;obtain rfl:j=ds.length:=by omega
   rw[Ao];refine zy (za (qY (nx:=nx) (σ:=Bool) (λt=>t=decide (place<0\/vK price ds<least)) (λt=>[(1,pl),(6,I place),(7,I least),(8,I k),(10,I (vK price ds)),(13,L l),(14,I l.length),(15,I k),(44,B t)]) (λ_=>S) (λ_=>[]) ?_ ?_))
   ·by_cases h1:place<0
    ·repeat apply za
     refine ze [(2,40)] (zo h1 zH) ?_;exact zY true [] (by simp[h1]) (by simp) rfl (by simp)
    ·repeat apply za
     refine ze [(2,40)] h1 ?_;exact zY (decide (vK price ds<least)) [] (by simp[h1]) (by simp) rfl (by simp)
   rintro t rfl
   by_cases h:place<0\/vK price ds<least
   ·rw[decide_eq_true h];rw[if_pos h]at hb;refine zn rfl (zb ?_);refine zb ?_;exact zq (k+1) [] hc (by omega) (by simp[zu k (by omega),hb]) rfl (by simp)
   ·rw[decide_eq_false h];rw[if_neg h]at hb;refine zm rfl (zh (zb ?_));exact zq (k+1) [] hc (by omega) (by simp[zu k (by omega),hb]) rfl (by simp)
 ·simp at hc;obtain rfl:k=l.length:=by omega
  refine zy (za (zb ?_));exact zg ⟨_,S,rfl,⟨by simp[zp,hst],rfl⟩,zN hd⟩
def xG(c:Cust)(cap:Int):List Nat:=c.pats.filter λp=>decide (p=0) || decide (c.demand<=cap)
theorem ZqS(c:Cust)(cap:Int)(hl:c.pats.length<=1000):Pure prog 275 [.agg (ye c),I cap] (L (xG c cap)):=by
 unfold xG;refine zt Tryz.func275 Tryz.ntmps275 Tryz.results275 λS nx hd=>?_
 refine za (zb ?_);intro v0;refine za (zb ?_);refine za (jf 5 98 1 rfl λv1=>?_);refine za (zb ?_);refine zj (zD (λs:Nat × List Nat × Nat=>s.1<=c.pats.length/\s.2.1=(c.pats.take s.1).filter (λp=>decide (p=0) || decide (c.demand<=cap))/\s.2.1.length<=s.1) (λ(k,out,w)=>[(1,I cap),(2,.ptr nx v0 0),(5,.sl (nx+1) w 1 0 out.length),(9,L c.pats),(10,I c.pats.length),(11,I k)]) (λ(k,out,w)=>[.cells v0 87 (ye c),.cells w 98 (out.flatMap Enc.enc)]) (λs=>c.pats.length-s.1) (0,[],v1) [] (by simp) (by simp) (by simp) ?_);rintro⟨k,out,w⟩ ⟨hk,ho,hol⟩;simp only at hk ho hol ⊢;refine za (zb ?_);refine za (zv rfl (λhc=>?_) (λhc=>?_))
 ·simp at hc;obtain⟨p,tl,a1,a2,a3,e0⟩:=zF rfl c.pats k hc;refine zh (za (zj (za (ze [] (zo e0 hc) ?_))));refine za (qY (nx:=nx) (σ:=Bool × Nat) (λs=>s.1=(decide (p=0) || decide (c.demand<=cap))) (λ(t,w)=>[(1,I cap),(2,.ptr nx v0 0),(5,.sl (nx+1) w 1 0 out.length),(7,U p),(9,L c.pats),(10,I c.pats.length),(11,I k),(22,B t)]) (λ_=>S) (λ(t,w)=>[.cells v0 87 (ye c),.cells w 98 (out.flatMap Enc.enc)]) ?_ ?_)
  ·by_cases h1:p=0
   ·repeat apply za
    refine ze [(2,17)] (zo h1 zH) ?_;exact zY (true,w) [] (by simp[h1]) (by simp[h1]) rfl (by simp)
   ·repeat apply za
    refine ze [(2,17)] h1 ?_;exact zY (decide (c.demand<=cap),w) [] (by simp[h1]) (by simp) rfl (by simp)
  rintro⟨t,w⟩ ht;simp only at ht ⊢;subst ht;have hstep:(c.pats.take (k+1)).filter (λp=>decide (p=0) || decide (c.demand<=cap))=out++(if (decide (p=0) || decide (c.demand<=cap))=true then [p] else []):=by
   rw[a3,BU,ho];congr 1;simp only[Cd,List.filter_nil]
  cases ht:(decide (p=0) || decide (c.demand<=cap)) with
  | true =>
   rw[ht,if_pos rfl]at hstep;refine zn rfl (zb ?_);refine⟨by omega,?_⟩;refine zb ?_;exact zq (k+1,out++[p],w+1) [] ⟨hc,hstep.symm,by simp;omega⟩ (by simp;omega) (by simp[zu k (by omega)]) rfl (by simp)
  | false =>
   rw[ht,if_neg (by decide),AF]at hstep;refine zm rfl (zh (zb ?_));exact zq (k+1,out,w) [] ⟨hc,hstep.symm,by dsimp only;omega⟩ (by simp;omega) (by simp[zu k (by omega)]) rfl (by simp)
 ·simp at hc;obtain rfl:k=c.pats.length:=by omega
  rw[Ao]at ho;refine zy (yb 1 rfl ?_);refine za (zb ?_);exact zg (zi hd (by simp;rfl) (by simp[zp,ho]))
def ZA(c:Cust)(cap:Int)(price:List Int):List Visit × Bool :=
 if (jL price (xG c cap) (xG c cap).length).1<0 then ([],false) else (Qu c ((xG c cap).getD (jL price (xG c cap) (xG c cap).length).1.toNat 0),true)
theorem ZqT{S:Store}{pl:PV}{price:List Int}(c:Cust)(cap:Int)(hR:RowOf S pl price)(hp:∀z∈price,zM z)(hpl:price.length<=1000)(hl:c.pats.length<=1000)(h64:∀p∈c.pats,p<2 ^ 64):
  Spec prog 246 [.agg (ye c),I cap,pl] S (λq S'=>q=.tup [L (ZA c cap price).1,B (ZA c cap price).2]/\S'=S):=by
 have hca:=ZqS c cap hl;have hsub:∀p∈xG c cap,p<2 ^ 64:=λp hp=>h64 p (Bd.1 hp).1
 have hcl:(xG c cap).length<=1000:=AB (By _ _) hl;unfold ZA;generalize xG c cap=l at *;have hb:=λS (hR:RowOf S pl price)=>ZqR l hR hp hpl hcl hsub
 obtain⟨b1,b2,b3⟩:=ZcM price l l.length;generalize jL price l l.length=r at *;obtain⟨place,least⟩:=r;simp only at hb b1 b2 b3 ⊢;refine yh Tryz.func246 Tryz.ntmps246 Tryz.results246 λnx hd=>?_
 refine za (zb ?_);intro v0;refine za (zb ?_);refine zr hca ?_;refine za (zb ?_);refine λhsuf=>((hb _ (hR.ext hd _)).mono ?_).v
 rintro _ _ ⟨rfl,rfl⟩;refine⟨_,_,rfl,zL hsuf ?_⟩
 repeat apply za
 refine zb ?_
 by_cases h:place<0
 ·rw[if_pos h];refine zn (by simp[h]) ?_;refine za (zb ?_);refine ZU 6 rfl ?_;exact zg ⟨_,S,rfl,⟨by simp[zp],rfl⟩,zN hd⟩
 ·rw[if_neg h];obtain⟨i,rfl⟩:=Az (show 0<=place by omega);have hil:i<l.length:=by omega
  obtain⟨p,tl,a1,a2,a3,e0⟩:=zF rfl l i hil;have hgp:l.getD (i:Int).toNat 0=p:=by rw[AT,Aa,a1];rfl
  rw[hgp];have hon:=ZqN c p (hsub p (Ab a1));refine zm (by simp) ?_;refine zh (za (zz (some [nx]) (Row.pures [0,1,2,3,4,5,6,7] .done) mixed (zo e0 hil) ?_));refine zJ (hon) (zo e0 hil) ?_;exact zg ⟨_,S,(by simp;rfl),⟨by simp[zp],rfl⟩,zN hd⟩
theorem ZqU{S:Store}{pl:PV}{price:List Int}(c:Cust)(n cap:Int)(hk:c.kind=1)(hR:RowOf S pl price)(hp:∀z∈price,zM z)(hpl:price.length<=1000)(hl:c.pats.length<=1000)(h64:∀p∈c.pats,p<2 ^ 64):
  Spec prog 207 [.agg (ye c),I n,I cap,pl] S (λq S'=>q=.tup [L (ZA c cap price).1,B (ZA c cap price).2]/\S'=S):=by
 have hs:=λS (hR:RowOf S pl price)=>ZqT c cap hR hp hpl hl h64
 generalize ZA c cap price=r at *;obtain⟨v,ok⟩:=r;simp only at hs ⊢;refine yh Tryz.func207 Tryz.ntmps207 Tryz.results207 λnx hd=>?_
 refine za (zb ?_);intro v0;refine za (zj (za (ze [] hk ?_)));refine zn rfl (za (zb ?_));refine λhsuf=>((hs _ (hR.ext hd _)).mono ?_).v
 rintro _ _ ⟨rfl,rfl⟩;refine⟨_,_,rfl,zL hsuf ?_⟩;exact zg ⟨_,S,(by simp;rfl),⟨by simp[zp],rfl⟩,zN hd⟩
open Go Go.Proofs Hp
def vM(c:Cust)(there cap:Int):Int:=if c.size-there<1\/cap<0 then 0 else if c.size-there<=cap then c.size-there else if c.rule=1 then 0 else cap
theorem ZhE{c:Cust}{there cap:Int}(hc:0<=c.size/\c.size<=2147483648)(ht:0<=there):0<=vM c there cap/\vM c there cap<=2147483648:=by
 unfold vM;split
 ·omega
 ·split
  ·omega
  ·split<;>omega
theorem ZcN(c:Cust)(there cap:Int)(hc:0<=c.size/\c.size<=2147483648)(ht:-4611686018427387904<=there/\there<=4611686018427387904):Pure prog 279 [.agg (ye c),I there,I cap] (I (vM c there cap)):=by
 have w1:IntKind.i64.wrap (c.size-there)=c.size-there:=wr _ (by omega) (by omega);unfold vM;generalize hf:c.size-there=f at w1 ⊢;refine zt Tryz.func279 Tryz.ntmps279 Tryz.results279 λS nx hd=>?_
 refine za (zb ?_);intro v0;refine za (ze [] (zo hf w1) ?_);refine za (zj ?_)
 by_cases h:f<1\/cap<0
 ·rw[if_pos h]
  by_cases h1:f<1
  ·refine za (ze [(2,15)] (zo h1 zH) ?_);refine zn rfl (za (zb ?_));exact zg (zi hd rfl rfl)
  ·have h2:cap<0:=by omega
   refine za (ze [(2,15)] (zo h1 h2) ?_);refine zn rfl (za (zb ?_));exact zg (zi hd rfl rfl)
 ·rw[if_neg h];have h1:¬f<1:=by omega
  have h2:¬cap<0:=by omega
  refine za (ze [(2,15)] (zo h1 h2) ?_);refine zm rfl (za (zb ?_))
  by_cases h3:f<=cap
  ·rw[if_pos h3];refine zn (by simp[h3]) ?_;refine za (zb ?_);exact zg (zi hd rfl rfl)
  ·rw[if_neg h3];refine zm (by simp;omega) ?_;refine za (zb ?_)
   by_cases h4:c.rule=1
   ·rw[if_pos h4];refine zn (by simp[h4]) ?_;refine za (zb ?_);exact zg (zi hd rfl rfl)
   ·rw[if_neg h4];refine zm (by simp[h4]) ?_;refine zh (za (zb ?_));exact zg (zi hd rfl rfl)
def YP(price:List Int)(d:Int):Int:=if d<0\/(price.length:Int)<=d then 0 else price.getD d.toNat 0
theorem ZcO{S:Store}{pl:PV}{price:List Int}(d:Int)(hR:RowOf S pl price):
  Spec prog 209 [pl,I d] S (λq S'=>q=I (YP price d)/\S'=S):=by
 unfold YP;rcases hR with rfl | ⟨id,ver,rfl,hS⟩
 ·refine yh Tryz.func209 Tryz.ntmps209 Tryz.results209 λnx hd=>?_
  refine za (zb ?_)
  by_cases h:d<0
  ·rw[if_pos (.inl h)]
   repeat apply za
   refine ze [(2,7)] (zo h zH) ?_;refine zn rfl (za (zb ?_));exact zg ⟨_,S,rfl,⟨by simp[zp],rfl⟩,zN hd⟩
  by_cases h2:(price.length:Int)<=d
  ·rw[if_pos (.inr h2)]
   repeat apply za
   refine ze [(2,7)] (zo h h2) ?_;refine zn rfl (za (zb ?_));exact zg ⟨_,S,rfl,⟨by simp[zp],rfl⟩,zN hd⟩
  rw[if_neg (by omega)];obtain⟨i,rfl⟩:=Az (show 0<=d by omega);have hi:i<price.length:=by omega
  obtain⟨z,tl,a1,-,-,e0⟩:=zF rfl price i hi;have hg:price.getD (i:Int).toNat 0=z:=by rw[AT,Aa,a1];rfl
  rw[hg];have h2':¬price.length<=i:=by omega
  repeat apply za
  refine ze [(2,7)] (zE h h2 h2') ?_;refine zm rfl (zh (za (ze [] (zo e0 hi) ?_)));exact zg ⟨_,S,rfl,⟨by simp[zp],rfl⟩,zN hd⟩
 ·refine yh Tryz.func209 Tryz.ntmps209 Tryz.results209 λnx hd=>?_
  have hlt:id<nx:=yZ hd hS (by simp);have xr:=λobs=>(zA (S:=S) (obs:=obs) hlt).trans hS
  refine za (zb ?_)
  by_cases h:d<0
  ·rw[if_pos (.inl h)]
   repeat apply za
   refine ze [(2,7)] (zo h zH) ?_;refine zn rfl (za (zb ?_));exact zg ⟨_,S,rfl,⟨by simp[zp],rfl⟩,zN hd⟩
  by_cases h2:(price.length:Int)<=d
  ·rw[if_pos (.inr h2)]
   repeat apply za
   refine ze [(2,7)] (zo h h2) ?_;refine zn rfl (za (zb ?_));exact zg ⟨_,S,rfl,⟨by simp[zp],rfl⟩,zN hd⟩
  rw[if_neg (by omega)];obtain⟨i,rfl⟩:=Az (show 0<=d by omega);have hi:i<price.length:=by omega
  obtain⟨z,tl,a1,-,-,e0⟩:=zF rfl price i hi;have hg:price.getD (i:Int).toNat 0=z:=by rw[AT,Aa,a1];rfl
  rw[hg];have h2':¬price.length<=i:=by omega
  repeat apply za
  refine ze [(2,7)] (zE h h2 h2') ?_;refine zm rfl (zh (za (ze [] (zE xr e0 hi) ?_)));exact zg ⟨_,S,rfl,⟨by simp[zp],rfl⟩,zN hd⟩
theorem ZhF:∀(l m:List Int) (i:Nat),qa i (l++m)=qa i l++qa (i+l.length) m
 | [],m,i=>by simp[qa]
 | z :: l,m,i=>by
  have ih:=ZhF l m (i+1);simp only[List.cons_append,qa,Ae,ih,show i+1+l.length=i+(l.length+1) from by omega];split<;>simp
theorem ZhG(q:List Int)(hq:q.length<=1048576):Pure prog 282 [L q] (L (qa 0 q)):=by
 refine zt Tryz.func282 Tryz.ntmps282 Tryz.results282 λS nx hd=>?_
 refine za (zb ?_);refine za (zb ?_);refine za (jf 3 104 2 rfl λv1=>?_);refine za (zb ?_);refine zj (zD (λs:Nat × List Visit × Nat=>s.1<=q.length/\s.2.1=qa 0 (q.take s.1)) (λ(k,out,w)=>[(3,.sl nx w 2 0 out.length),(6,L q),(7,I q.length),(8,I k)]) (λ(k,out,w)=>[.cells w 104 (out.flatMap Enc.enc)]) (λs=>q.length-s.1) (0,[],v1) [] (by simp[qa]) (by simp) (by simp) ?_);rintro⟨k,out,w⟩ ⟨hk,ho⟩;simp only at hk ho ⊢;have hol:out.length<=k:=by rw[ho];exact AB (Zaf _ _) (by simp;omega)
 refine za (zb ?_);refine za (zv rfl (λhc=>?_) (λhc=>?_))
 ·simp at hc;obtain⟨z,tl,a1,a2,a3,e0⟩:=zF rfl q k hc;have hst:qa 0 (q.take (k+1))=out++(if 0<z then [⟨k,z⟩] else []):=by
   rw[a3,ZhF,<-ho,Ay,Bc hk];simp only[qa,AR]
  refine zh (za (zj (za (ze [] (zo e0 hc) ?_))));refine za (zb ?_)
  by_cases h:0<z
  ·rw[if_pos h]at hst;refine zn (by simp[h]) ?_;refine zb ?_;refine⟨by omega,?_⟩;refine zb ?_;exact zq (k+1,out++[⟨k,z⟩],w+1) [] ⟨hc,hst.symm⟩ (by simp;omega) (by simp[zu k (by omega)]) rfl (by simp)
  ·rw[if_neg h,AF]at hst;refine zm (by simp;omega) ?_;refine zh (zb ?_);exact zq (k+1,out,w) [] ⟨hc,hst.symm⟩ (by simp;omega) (by simp[zu k (by omega)]) rfl (by simp)
 ·simp at hc;obtain rfl:k=q.length:=by omega
  rw[Ao]at ho;refine zy (yb 0 rfl ?_);refine za (zb ?_);exact zg (zi hd (by simp;rfl) (by simp[zp,ho]))
def qn(c:Cust)(f:Int->Int):Nat->List Int × Int
 | 0=>([],c.start)
 | k+1=>((qn c f k).1++[f (qn c f k).2],(qn c f k).2+(f (qn c f k).2-c.rate))
def Qw(c:Cust)(cap:Int)(t:Int):Int:=vM c (max t 0) cap
def YR(c:Cust)(cap:Int)(t:Int):Int:=if c.rate<=t then 0 else vM c (max t 0) cap
theorem Xp(c:Cust)(f:Int->Int):∀k,(qn c f k).1.length=k
 | 0=>rfl
 | k+1=>by simp[qn,Xp c f k]
theorem ZcP{c:Cust}(hc:CustFits c)(cap t:Int):0<=Qw c cap t/\Qw c cap t<=2147483648:=ZhE hc.size (by omega)
theorem ZcQ{c:Cust}(hc:CustFits c)(cap t:Int):0<=YR c cap t/\YR c cap t<=2147483648:=by
 unfold YR;split
 ·omega
 ·exact ZhE hc.size (by omega)
theorem Xq{c:Cust}(hc:CustFits c){f:Int->Int}(hf:∀t,0<=f t/\f t<=2147483648):∀k:Nat,(-4294967296*((k:Int)+1)<=(qn c f k).2/\(qn c f k).2<=4294967296*((k:Int)+1))/\Qs (qn c f k).1
 | 0=>by
  have:=hc.start;refine⟨by simp only[qn];omega,by intro z hz;cases hz⟩
 | k+1=>by
  obtain⟨h1,h2⟩:=Xq hc hf k;have h3:=hf (qn c f k).2;have h4:=hc.rate;refine⟨by simp only[qn];push_cast;omega,λz hz=>?_⟩;simp only[qn]at hz;rcases AC.1 hz with hz | hz
  ·exact h2 z hz
  ·rw[AV.1 hz];exact h3
theorem ZqV(c:Cust)(cap t:Int)(hc:CustFits c)(ht:-4611686018427387904<=t/\t<=4611686018427387904):Pure prog 307 [I t,.ip (ye c),.ip [I cap]] (I (Qw c cap t)):=by
 have hm:qS t 0=max t 0:=by unfold qS;split<;>omega
 have hmo:=ZcN c (max t 0) cap hc.size (by omega);unfold Qw;generalize max t 0=m at hm hmo ⊢;generalize vM c m cap=z at hmo ⊢;refine zt Tryz.func307 Tryz.ntmps307 Tryz.results307 λS nx hd=>?_
 refine za (zb ?_);refine za (ze [] hm ?_);refine qt [] hmo hm ?_;exact zg (zi hd rfl rfl)
theorem ZqW(c:Cust)(cap t:Int)(hc:CustFits c)(ht:-4611686018427387904<=t/\t<=4611686018427387904):Pure prog 308 [I t,.ip (ye c),.ip [I cap]] (I (YR c cap t)):=by
 have hm:qS t 0=max t 0:=by unfold qS;split<;>omega
 have hmo:=ZcN c (max t 0) cap hc.size (by omega);unfold YR;generalize max t 0=m at hm hmo ⊢;generalize vM c m cap=z at hmo ⊢;refine zt Tryz.func308 Tryz.ntmps308 Tryz.results308 λS nx hd=>?_
 refine za (zb ?_)
 repeat apply za
 refine zb ?_
 by_cases h:c.rate<=t
 ·rw[if_pos h];refine zn (by simp[h]) ?_;refine za (zb ?_);exact zg (zi hd rfl rfl)
 ·rw[if_neg h];refine zm (by simp;omega) ?_;refine zh (za (ze [] hm ?_));refine qt [] hmo hm ?_;exact zg (zi hd rfl rfl)
theorem ZhH(c:Cust)(n:Nat)(fn:FuncId)(caps:List PV)(f:Int->Int)(hc:CustFits c)(hn:n<=1000)(hf:∀t,0<=f t/\f t<=2147483648)(hfn:∀t,(-4611686018427387904<=t/\t<=4611686018427387904)->Pure prog fn ([I t]++caps) (I (f t))):
  Pure prog 306 [.agg (ye c),I n,.fn (.func fn) [] caps] (.tup [L (qn c f n).1,B (decide (Zt c (qn c f n).1=0))]):=by
 have hr:=hc.rate;refine zt Tryz.func306 Tryz.ntmps306 Tryz.results306 λS nx hd=>?_
 refine za (zb ?_);intro v0;refine za (zb ?_);refine za (jf 8 3 1 rfl λv1=>?_);refine zb ?_
 repeat apply za
 refine zb ?_;refine zj (zD (λs:Nat × Nat=>s.1<=n) (λ(k,w)=>[(2,.fn (.func fn) [] caps),(3,.ptr nx v0 0),(8,.sl (nx+1) w 1 0 (qn c f k).1.length),(9,I (qn c f k).2),(13,I n),(14,I k)]) (λ(k,w)=>[.cells v0 87 (ye c),.cells w 3 ((qn c f k).1.flatMap Enc.enc)]) (λs=>n-s.1) (0,v1) [] (by simp) (by simp[qn]) (by simp[qn]) ?_);rintro⟨k,w⟩ hk;simp only at hk ⊢;obtain⟨hbd,-⟩:=Xq hc hf k;have hl:=Xp c f k;have hsucc:qn c f (k+1)=((qn c f k).1++[f (qn c f k).2],(qn c f k).2+(f (qn c f k).2-c.rate)):=rfl;generalize hst:qn c f k=st at hbd hl hsucc ⊢;obtain⟨q,t⟩:=st;simp only at hbd hl hsucc ⊢;refine za (zb ?_);refine za (zv rfl (λhc1=>?_) (λhc1=>?_))
 ·simp at hc1;have hft:=hf t;have hcall:=hfn t (by omega);have w1:IntKind.i64.wrap (f t-c.rate)=f t-c.rate:=wr _ (by omega) (by omega);have w2:IntKind.i64.wrap (t+(f t-c.rate))=t+(f t-c.rate):=wr _ (by omega) (by omega);generalize f t=z at *;refine zh (za (zj (za (zb ?_))));refine zr hcall ?_;refine za (zb ?_);refine⟨by omega,?_⟩;refine ze [] (zo w1 w2) ?_;refine zb ?_;exact zq (k+1,w+1) [] (by omega) (by simp;omega) (by simp[zu k (by omega),hsucc]) rfl (by simp[hsucc])
 ·simp at hc1;obtain rfl:k=n:=by omega
  refine zy (yb 1 rfl ?_);have hh:=ZgM c q hc (by omega);refine za (zb ?_);refine zr hh ?_;exact zg (zi hd (by simp;rfl) (by simp[zp,hst]))
def ZB(c:Cust)(n:Nat)(cap:Int):List Int × Bool:=((qn c (Qw c cap) n).1,decide (Zt c (qn c (Qw c cap) n).1=0))
def Ye(c:Cust)(n:Nat)(cap:Int):List Int × Bool:=((qn c (YR c cap) n).1,decide (Zt c (qn c (YR c cap) n).1=0))
theorem ZqX(c:Cust)(n:Nat)(cap:Int)(hc:CustFits c)(hn:n<=1000):Pure prog 281 [.agg (ye c),I n,I cap] (.tup [L (ZB c n cap).1,B (ZB c n cap).2]):=by
 have h:=ZhH c n 307 [.ip (ye c),.ip [I cap]] (Qw c cap) hc hn (ZcP hc cap) (λt ht=>ZqV c cap t hc ht);unfold ZB;generalize qn c (Qw c cap) n=r at h ⊢;refine zt Tryz.func281 Tryz.ntmps281 Tryz.results281 λS nx hd=>?_
 refine za (zb ?_);intro v0 v1;refine xM 0 rfl ?_;refine xM 1 rfl ?_;refine za (zb ?_);refine zr h ?_;exact zg (zi hd (by simp;rfl) rfl)
theorem ZqY(c:Cust)(n:Nat)(cap:Int)(hc:CustFits c)(hn:n<=1000):Pure prog 283 [.agg (ye c),I n,I cap] (.tup [L (Ye c n cap).1,B (Ye c n cap).2]):=by
 have h:=ZhH c n 308 [.ip (ye c),.ip [I cap]] (YR c cap) hc hn (ZcQ hc cap) (λt ht=>ZqW c cap t hc ht);unfold Ye;generalize qn c (YR c cap) n=r at h ⊢;refine zt Tryz.func283 Tryz.ntmps283 Tryz.results283 λS nx hd=>?_
 refine za (zb ?_);intro v0 v1;refine xM 0 rfl ?_;refine xM 1 rfl ?_;refine za (zb ?_);refine zr h ?_;exact zg (zi hd (by simp;rfl) rfl)
def Qx(price:List Int)(v:List Visit):Int:=v.foldl (λs w=>W (s+YP price w.d)) 0
theorem ZqZ(price:List Int)(v:List Visit)(w:Visit):Qx price (v++[w])=W (Qx price v+YP price w.d):=by simp[Qx]
def Yf(c:Cust)(n:Int)(price:List Int)(v:List Visit):Int:=if c.kind=1 then Qx price v else W (Qx price v+Jf c (jK c (yJ v n)).1)
theorem ZcR{S:Store}{pl:PV}{price:List Int}(c:Cust)(n:Int)(v:List Visit)(hR:RowOf S pl price)(hc:CustFits c)(hv:VisOk v):
  Spec prog 208 [.agg (ye c),I n,pl,L v] S (λq S'=>q=I (Yf c n price v)/\S'=S):=by
 have hvn:=hv.n;have hp:=λS (h:RowOf S pl price) d=>ZcO d h
 unfold Yf;refine yh Tryz.func208 Tryz.ntmps208 Tryz.results208 λnx hd=>?_
 refine za (zb ?_);intro v0;refine za (zb ?_)
 repeat apply za
 refine zb ?_;refine zj (zD (λk:Nat=>k<=v.length) (λk=>[(1,I n),(3,L v),(4,.ptr nx v0 0),(9,I (Qx price (v.take k))),(2,pl),(14,L v),(15,I v.length),(16,I k)]) (λ_=>[.cells v0 87 (ye c)]) (λk=>v.length-k) 0 [] (by simp) (by simp[Qx]) (by simp) ?_);rintro k hk;refine za (zb ?_);refine za (zv rfl (λhc1=>?_) (λhc1=>?_))
 ·simp at hc1;obtain⟨w,tl,a1,a2,a3,e1,e0⟩:=el 2 rfl v k hc1;have hsn:=ZqZ price (v.take k) w;rw[<-a3]at hsn;refine zh (za (zj (za (ze [] (zo e0 hc1) ?_))));intro v2;refine zb ?_;refine λhsuf=>((hp _ (hR.ext hd _) _).mono ?_).v
  rintro _ _ ⟨rfl,rfl⟩;refine⟨_,_,rfl,zL hsuf ?_⟩;refine zb ?_;exact zq (k+1) [_] hc1 (by omega) (by simp[zu k (by omega),hsn]) rfl (by simp;rfl)
 ·simp at hc1;obtain rfl:k=v.length:=by omega
  rw[Ao];refine zy ?_
  repeat apply za
  refine zb ?_
  by_cases hk1:c.kind=1
  ·rw[if_pos hk1];refine zn (by simp[hk1]) ?_;refine za (zb ?_);exact zg ⟨_,S,rfl,⟨by simp[zp],rfl⟩,zN hd⟩
  ·rw[if_neg hk1];have hb:=ZgN v n hv;have hn:=Zco c (yJ v n) hc (Zah _ _);have hh:=Zcp c _ (Zhw c (yJ v n) (Zah _ _));generalize jK c (yJ v n)=ns at hn hh ⊢;obtain⟨nl,ne⟩:=ns;simp only at hn hh ⊢;refine zm (by simp[hk1]) ?_;refine zh (za (zz (some [nx]) (Row.pures [0,1,2,3,4,5,6,7,8,9] .done) mixed trivial ?_));refine zJ (hb) trivial ?_;refine zJ (hn) trivial ?_;refine za (zb ?_);refine zr hh ?_;exact zg ⟨_,S,rfl,⟨by simp[zp],rfl⟩,zN hd⟩
def Jl(c:Cust)(n:Nat)(cap:Int)(price:List Int):List Visit × Bool :=
 if (Ye c n cap).2=true/\((ZB c n cap).2=false\/Yf c n price (qa 0 (Ye c n cap).1)<=Yf c n price (qa 0 (ZB c n cap).1)) then (qa 0 (Ye c n cap).1,true)
 else if (ZB c n cap).2=true then (qa 0 (ZB c n cap).1,true) else ([],false)
theorem ZhI{q:List Int}{n:Nat}(hq:Qs q)(hl:q.length=n)(hn:n<=1000):VisOk (qa 0 q):=by
 refine⟨AB (Zaf _ _) (by omega),λs hs=>?_,λs hs=>?_⟩
 ·have:=Zag q 0 hq s hs;omega
 ·have:=Zag q 0 hq s hs;unfold zM;omega
theorem Zq0{S:Store}{pl:PV}{price:List Int}(c:Cust)(n:Nat)(cap:Int)(hR:RowOf S pl price)(hc:CustFits c)(hn:n<=1000):
  Spec prog 248 [.agg (ye c),I n,I cap,pl] S (λq S'=>q=.tup [L (Jl c n cap price).1,B (Jl c n cap price).2]/\S'=S):=by
 have hD:=ZqX c n cap hc hn;have hL:=ZqY c n cap hc hn;have lD:(ZB c n cap).1.length=n:=Xp _ _ _;have lL:(Ye c n cap).1.length=n:=Xp _ _ _;have vD:VisOk (qa 0 (ZB c n cap).1):=ZhI (Xq hc (ZcP hc cap) n).2 lD hn;have vL:VisOk (qa 0 (Ye c n cap).1):=ZhI (Xq hc (ZcQ hc cap) n).2 lL hn;unfold Jl;generalize ZB c n cap=rd at *;generalize Ye c n cap=rl at *;obtain⟨qd,od⟩:=rd;obtain⟨ql,ol⟩:=rl;simp only at hD hL lD lL vD vL ⊢;have hVd:=ZhG qd (by omega);have hVl:=ZhG ql (by omega);have hcd:=λS (h:RowOf S pl price)=>ZcR (S:=S) c n (qa 0 qd) h hc vD
 have hcl:=λS (h:RowOf S pl price)=>ZcR (S:=S) c n (qa 0 ql) h hc vL
 generalize qa 0 qd=vd at *;generalize qa 0 ql=vl at *;generalize Yf c n price vd=zd at *;generalize Yf c n price vl=zl at *;refine yh Tryz.func248 Tryz.ntmps248 Tryz.results248 λnx hd=>?_
 refine za (zb ?_);intro v0;refine za (zb ?_);refine zr hD ?_;refine za (zb ?_);refine zr hVd ?_
 repeat apply za
 refine zb ?_;refine zr hL ?_;refine za (zb ?_);cases ol with
 | true =>
  refine zn rfl (za (zb ?_));refine zr hVl ?_;cases od with
  | false =>
   rw[if_pos ⟨rfl,.inl rfl⟩];refine za (zz (some [nx]) (Row.pures [0,1,2,3,4,5,6,7,8,9,10,11,12,13,14] .done) mixed zH ?_);refine zn rfl (za (zb ?_));exact zg ⟨_,S,(by simp;rfl),⟨by simp[zp],rfl⟩,zN hd⟩
  | true =>
   by_cases hle:zl<=zd
   ·rw[if_pos ⟨rfl,.inr hle⟩];refine za (zz (some [nx]) (Row.pures [0,1,2,3,4,5,6,8,9,10,11] (.alt 7 (.alt 12 (Row.pures [13,14] .done) .stop) .stop)) mixed zH ?_);refine(((hcl _ (hR.ext hd _)).mono ?_).v);rintro _ _ ⟨rfl,rfl⟩;refine⟨by simp[yE],js zH ?_⟩;refine(((hcd _ (hR.ext hd _)).mono ?_).v);rintro _ _ ⟨rfl,rfl⟩;refine⟨by simp[yE],js zH ?_⟩;refine zn (by simp[hle]) ?_;refine za (zb ?_);exact zg ⟨_,S,(by simp;rfl),⟨by simp[zp],rfl⟩,zN hd⟩
   ·rw[if_neg (by rintro⟨-,q | q⟩;cases q;exact hle q),if_pos rfl];refine za (zz (some [nx]) (Row.pures [0,1,2,3,4,5,6,8,9,10,11] (.alt 7 (.alt 12 (Row.pures [13,14] .done) .stop) .stop)) mixed zH ?_);refine(((hcl _ (hR.ext hd _)).mono ?_).v);rintro _ _ ⟨rfl,rfl⟩;refine⟨by simp[yE],js zH ?_⟩;refine(((hcd _ (hR.ext hd _)).mono ?_).v);rintro _ _ ⟨rfl,rfl⟩;refine⟨by simp[yE],js zH ?_⟩;refine zm (by simp;omega) ?_;refine zh ?_
    repeat apply za
    refine zb ?_;refine zm rfl (zh (za (zb ?_)));exact zg ⟨_,S,(by simp;rfl),⟨by simp[zp],rfl⟩,zN hd⟩
 | false =>
  rw[if_neg (by rintro⟨q,-⟩;cases q)];refine zm rfl (zh ?_)
  repeat apply za
  refine zb ?_;cases od with
  | false =>
   rw[if_neg (by decide)];refine zn rfl (za (zb ?_));refine ZU 8 rfl ?_;exact zg ⟨_,S,rfl,⟨by simp[zp],rfl⟩,zN hd⟩
  | true =>
   rw[if_pos rfl];refine zm rfl (zh (za (zb ?_)));exact zg ⟨_,S,(by simp;rfl),⟨by simp[zp],rfl⟩,zN hd⟩
open Go Go.Proofs Hp
def qP(c:Cust)(last d:Int):Int × Int :=
 ((if last<0 then c.start else c.size)-c.rate*((if last<0 then d else d-last).toNat:Int),
  Jf c ((List.range (if last<0 then d else d-last).toNat).map λ(i:Nat)=>(if last<0 then c.start else c.size)-c.rate*((i:Int)+1)))
theorem ZhJ(c:Cust)(last d:Int)(hc:CustFits c)(hl:-1<=last/\last<=64)(hd0:0<=d/\d<=64):Pure prog 278 [.agg (ye c),I last,I d] (.tup [I (qP c last d).1,I (qP c last d).2]):=by
 have h1:=hc.rate;have h2:=hc.size;have h3:=hc.start;have w0:IntKind.i64.wrap (d-last)=d-last:=wr _ (by omega) (by omega);have key:qP c last d=(let t0:=if last<0 then c.start else c.size;let m:=if last<0 then d else d-last;(t0-c.rate*(m.toNat:Int),Jf c ((List.range m.toNat).map λ(i:Nat)=>t0-c.rate*((i:Int)+1)))):=rfl;rw[key];obtain⟨t0,ht0⟩:∃t0,t0=if last<0 then c.start else c.size:=⟨_,rfl⟩
 obtain⟨m,hm⟩:∃m,m=if last<0 then d else d-last:=⟨_,rfl⟩
 have hb0:0<=t0/\t0<=2147483648:=by rw[ht0];split<;>omega
 have hmb:-64<=m/\m<=65:=by rw[hm];split<;>omega
 rw[<-ht0,<-hm];clear key;simp only;refine zt Tryz.func278 Tryz.ntmps278 Tryz.results278 λS nx hd=>?_
 refine za (zb ?_);intro v0;refine za (ze [] w0 ?_);refine za (qY (nx:=nx) (σ:=Unit) (λ_=>True) (λ_=>[(3,.ptr nx v0 0),(8,I t0),(9,I m)]) (λ_=>S) (λ_=>[.cells v0 87 (ye c)]) ?_ ?_)
 ·refine za (zb ?_)
  by_cases h:last<0
  ·rw[if_pos h]at ht0 hm;refine zn (by simp[h]) ?_;refine zb ?_;exact zY () [] trivial (by simp[ht0,hm]) rfl (by simp)
  ·rw[if_neg h]at ht0 hm;refine zm (by simp;omega) ?_;exact zh (zY () [] trivial (by simp[ht0,hm]) rfl (by simp))
 intro _ _;refine za (zb ?_);refine za (jf 10 3 1 rfl λv1=>?_);refine za (zb ?_);have hprod:∀k:Nat,k<=65->0<=c.rate*(k:Int)/\c.rate*(k:Int)<=2147483648*65:=λk hk=>⟨Int.mul_nonneg h1.1 (by omega),Int.mul_le_mul h1.2 (by omega) (by omega) (by omega)⟩
 refine zj (zD (λs:Nat × Nat=>s.1<=m.toNat) (λ(k,w)=>[(3,.ptr nx v0 0),(8,I (t0-c.rate*(k:Int))),(10,.sl (nx+1) w 1 0 ((List.range k).map λ(i:Nat)=>t0-c.rate*((i:Int)+1)).length),(21,I m),(22,I k)]) (λ(k,w)=>[.cells v0 87 (ye c),.cells w 3 (((List.range k).map λ(i:Nat)=>t0-c.rate*((i:Int)+1)).flatMap Enc.enc)]) (λs=>m.toNat-s.1) (0,v1) [] (by simp) (by simp) (by simp) ?_);rintro⟨k,w⟩ hk;simp only at hk ⊢;have hp:=hprod k (by omega);have hp1:=hprod (k+1);have hmul:c.rate*((k:Int)+1)=c.rate*(k:Int)+c.rate:=by rw[Int.mul_add,Int.mul_one]
 have hrs:((List.range (k+1)).map λ(i:Nat)=>t0-c.rate*((i:Int)+1))=((List.range k).map λ(i:Nat)=>t0-c.rate*((i:Int)+1))++[t0-c.rate*((k:Int)+1)]:=by simp[AO]
 have hl0:((List.range k).map λ(i:Nat)=>t0-c.rate*((i:Int)+1)).length=k:=by simp
 generalize hls:((List.range k).map λ(i:Nat)=>t0-c.rate*((i:Int)+1))=ls at *
 by_cases hc1:(k:Int)<m
 ·have w1:IntKind.i64.wrap (t0-c.rate*(k:Int)-c.rate)=t0-c.rate*((k:Int)+1):=by rw[wr _ (by omega) (by omega)];omega
  refine za (zb ?_);refine za (zn (by simp[hc1]) ?_);refine zh (za (zj (za (ze [] w1 ?_))));refine zb ?_;refine⟨by omega,?_⟩;refine zb ?_;exact zq (k+1,w+1) [] (by simp;omega) (by simp;omega) (by simp[zu k (by omega),hrs];) rfl (by simp[hrs])
 ·refine za (zb ?_);refine za (zm (by simp;omega) ?_);obtain rfl:k=m.toNat:=by omega
  refine zy (yb 1 rfl ?_);refine za (zb ?_);refine zr (Zcp c ls (by omega)) ?_;exact zg (zi hd (by simp;rfl) (by simp[zp,hls]))
def YS(c:Cust)(st:List Visit × Int)(d:Int):List Visit × Int:=(st.1++[⟨d,W (c.size-(qP c st.2 d).1)⟩],d)
def jM(c:Cust)(ds:List Int):List Visit × Int:=ds.foldl (YS c) ([],-1)
theorem Zaj(c:Cust)(ds:List Int)(d:Int):jM c (ds++[d])=YS c (jM c ds) d:=by simp[jM]
theorem ZhK(c:Cust):∀ds:List Int,(jM c ds).1.length=ds.length:=by
 have:∀(ds:List Int) (st:List Visit × Int),(ds.foldl (YS c) st).1.length=st.1.length+ds.length:=by
  intro ds
  induction ds with
  | nil=>intro st;simp
  | cons d ds ih=>intro st;rw[A8,ih];simp[YS];omega
 intro ds;unfold jM;rw[this];simp
theorem Zq1(c:Cust)(p:Nat)(hp:p<2 ^ 64)(hc:CustFits c):Pure prog 280 [.agg (ye c),U p] (L (jM c (yD p 0 64)).1):=by
 have hall:=ZcL p hp;have hln:=Xf p 0 64;have hds:∀d∈yD p 0 64,0<=d/\d<64:=λd hd=>by obtain⟨i,h,h2,_⟩:=Wx hd;omega
 generalize yD p 0 64=ds at hall hln hds ⊢;refine zt Tryz.func280 Tryz.ntmps280 Tryz.results280 λS nx hd=>?_
 refine za (zb ?_);intro v0;refine za (zb ?_);refine za (jf 5 104 2 rfl λv1=>?_);refine zb ?_
 repeat apply za
 refine zb ?_;refine zr hall ?_;have hlast:∀k,-1<=(jM c (ds.take k)).2/\(jM c (ds.take k)).2<=64:=by
  intro k
  induction k with
  | zero=>simp[jM]
  | succ k ih =>
   by_cases h:k<ds.length
   ·rw[AU h,Zaj];have:=hds ds[k] (Bh h);simp only[YS];omega
   ·rw[Af (by omega)]at ih ⊢;exact ih
 refine zj (zD (λs:Nat × Nat=>s.1<=ds.length) (λ(k,w)=>[(2,.ptr nx v0 0),(5,.sl (nx+1) w 2 0 (jM c (ds.take k)).1.length),(6,I (jM c (ds.take k)).2),(12,L ds),(13,I ds.length),(14,I k)]) (λ(k,w)=>[.cells v0 87 (ye c),.cells w 104 ((jM c (ds.take k)).1.flatMap Enc.enc)]) (λs=>ds.length-s.1) (0,v1) [] (by simp) (by simp[jM]) (by simp[jM]) ?_);rintro⟨k,w⟩ hk;simp only at hk ⊢;have hl1:=hlast k;have hfl:(jM c (ds.take k)).1.length=k:=by rw[ZhK];simp;omega
 refine za (zb ?_);refine za (zv rfl (λhc1=>?_) (λhc1=>?_))
 ·simp at hc1;obtain⟨d,tl,a1,a2,a3,e0⟩:=zF rfl ds k hc1;have hd1:=hds d (Ab a1);have hsn:=Zaj c (ds.take k) d;rw[<-a3]at hsn;generalize jM c (ds.take k)=st at *;obtain⟨out,last⟩:=st;simp only[YS]at hl1 hfl hsn ⊢;have hr:=ZhJ c last d hc hl1 (by omega);generalize qP c last d=r at hr hsn;obtain⟨th,he⟩:=r;simp only at hr hsn;refine zh (za (zj (za (ze [] (zo e0 hc1) ?_))));refine za (zb ?_);refine zr hr ?_;refine za (zb ?_);refine⟨by omega,?_⟩;refine zb ?_;refine zb ?_;exact zq (k+1,w+1) [] hc1 (by simp;omega) (by simp[zu k (by omega),hsn]) rfl (by simp[hsn])
 ·simp at hc1;obtain rfl:k=ds.length:=by omega
  rw[Ao];refine zy (yb 1 rfl ?_);refine za (zb ?_);exact zg (zi hd (by simp;rfl) rfl)
structure Stp where
 r:Bool
 k:Int
 l:Int
 deriving DecidableEq
instance:Inhabited Stp:=⟨⟨false,0,0⟩⟩
instance:Enc Stp:=⟨λs=>[B s.r,I s.k,I s.l],3,λ_=>rfl,λ_=>rfl⟩
@[simp] theorem Zx2(s:Stp):Enc.enc s=[B s.r,I s.k,I s.l]:=rfl
@[simp high] theorem Zq2(l:List Stp):(l.flatMap Enc.enc).length=l.length*3:=j4 l
@[simp high] theorem Zx3(l:List Stp):(l.flatMap Enc.enc).take (l.length*3)=l.flatMap Enc.enc:=YA l
def zs:Stp:=⟨false,0,0⟩
def Jm(c:Cust)(n:Nat)(cap:Int)(price:List Int)(tab:List Stp)(d:Nat)(last:Int):Int :=
 let k1:=if 0<=last then W ((qP c last d).2+(tab.getD last.toNat zs).k) else (qP c last d).2
 if d<n then W (k1+YP price d) else k1
def Qy(c:Cust)(n:Nat)(cap:Int)(tab:List Stp)(d:Nat)(last:Int):Prop :=
 ¬(0<=last/\tab.getD last.toNat zs=zs)/\¬((qP c last d).1<0\/(d<n/\vM c (qP c last d).1 cap=0))
instance (c:Cust) (n:Nat) (cap:Int) (tab:List Stp) (d:Nat) (last:Int):Decidable (Qy c n cap tab d last):=by unfold Qy;exact inferInstance
def WA(c:Cust)(n:Nat)(cap:Int)(price:List Int)(tab:List Stp)(d:Nat)(best:Stp)(last:Int):Stp :=
 if Qy c n cap tab d last then (if best=zs\/Jm c n cap price tab d last<best.k then ⟨true,Jm c n cap price tab d last,last⟩ else best) else best
def xH(c:Cust)(n:Nat)(cap:Int)(price:List Int)(tab:List Stp)(d:Nat)(j:Nat):Stp:=(List.range j).foldl (λb (i:Nat)=>WA c n cap price tab d b ((i:Int)-1)) zs
theorem ZhL(c:Cust)(n:Nat)(cap:Int)(price:List Int)(tab:List Stp)(d:Nat)(j:Nat):xH c n cap price tab d (j+1)=WA c n cap price tab d (xH c n cap price tab d j) ((j:Int)-1):=by simp[xH,AO]
def jA(c:Cust)(n:Nat)(cap:Int)(price:List Int):Nat->List Stp
 | 0=>[]
 | k+1=>jA c n cap price k++[xH c n cap price (jA c n cap price k) k (k+1)]
theorem WB(c:Cust)(n:Nat)(cap:Int)(price:List Int):∀k,(jA c n cap price k).length=k
 | 0=>rfl
 | k+1=>by simp[jA,WB c n cap price k]
def ug(tab:List Stp):Nat->Nat->Int->Nat
 | 0,s,_=>s
 | f+1,s,d=>if d<0 then s else ug tab f (qC s d) (tab.getD d.toNat zs).l
def YT(c:Cust)(n:Nat)(cap:Int)(price:List Int):List Visit × Bool :=
 if (jA c n cap price (n+1)).getD n zs=zs then ([],false)
 else ((jM c (yD (ug (jA c n cap price (n+1)) 65 0 ((jA c n cap price (n+1)).getD n zs).l) 0 64)).1,true)
def Zq3(tab:List Stp):Prop:=∀(d:Nat) (e:Stp),tab[d]?=some e->e=zs\/(e.r=true/\-1<=e.l/\e.l<d/\(0<=e.l->tab.getD e.l.toNat zs≠zs))
theorem Zak(c:Cust)(n:Nat)(cap:Int)(price:List Int)(tab:List Stp)(d:Nat):∀j:Nat,xH c n cap price tab d j=zs\/((xH c n cap price tab d j).r=true/\-1<=(xH c n cap price tab d j).l/\(xH c n cap price tab d j).l+1<j/\Qy c n cap tab d (xH c n cap price tab d j).l)
 | 0=>.inl rfl
 | j+1=>by
  have ih:=Zak c n cap price tab d j;rw[ZhL];unfold WA;split
  ·rename_i hok;split
   ·exact .inr ⟨rfl,by dsimp only;omega,by dsimp only;omega,hok⟩
   ·rcases ih with ih | ⟨h1,h2,h3,h4⟩
    ·exact .inl ih
    ·exact .inr ⟨h1,h2,by omega,h4⟩
  ·rcases ih with ih | ⟨h1,h2,h3,h4⟩
   ·exact .inl ih
   ·exact .inr ⟨h1,h2,by omega,h4⟩
theorem ZcS(c:Cust)(n:Nat)(cap:Int)(price:List Int):∀k,Zq3 (jA c n cap price k)
 | 0=>by intro d e h;cases h
 | k+1=>by
  have ih:=ZcS c n cap price k;have hl:=WB c n cap price k;have he:=Zak c n cap price (jA c n cap price k) k (k+1);intro d e h;simp only[jA]at h ⊢;have hget:∀(i:Nat),i<k->(jA c n cap price k++[xH c n cap price (jA c n cap price k) k (k+1)]).getD i zs=(jA c n cap price k).getD i zs:=by
   intro i hi;rw[Aa,Aa,Al (by omega)]
  by_cases hd:d<k
  ·rw[Al (by omega)]at h;rcases ih d e h with q | ⟨q1,q2,q3,q4⟩
   ·exact .inl q
   ·refine .inr ⟨q1,q2,q3,λq=>?_⟩;rw[hget _ (by omega)];exact q4 q
  ·rw[Ak (by omega),hl]at h;obtain rfl:d=k:=by
    rcases Bf (d-k) 1 with q | q
    ·omega
    ·rw[Ai (by simpa using q)]at h;cases h
   rw[Bw]at h;simp only[A9,Option.some.injEq]at h;subst h;rcases he with q | ⟨q1,q2,q3,q4⟩
   ·exact .inl q
   ·refine .inr ⟨q1,q2,by omega,λq=>?_⟩;rw[hget _ (by omega)];exact λhz=>q4.1 ⟨q,hz⟩
open Go Go.Proofs Hp
def qx(tab:List Stp)(b:Stp):List Stp:=tab++b :: List.replicate (64-tab.length) zs
theorem ZhM(tab:List Stp)(b:Stp)(h:tab.length<=64):(qx tab b).length=65:=by simp[qx];omega
theorem Zal(tab:List Stp)(b:Stp)(i:Nat)(h:i<tab.length):(qx tab b)[i]?=some (tab.getD i zs):=by
 unfold qx;rw[Al h,Aa,Ad h];rfl
theorem Zq4(tab:List Stp)(b:Stp):(qx tab b)[tab.length]?=some b:=by
 unfold qx;rw[Ak (Ag _)];simp
theorem Zq5(tab:List Stp)(b e:Stp):(qx tab b).set tab.length e=qx tab e:=by
 unfold qx;rw[Bx _ _ (Ag _)];simp
theorem Zq6(tab:List Stp)(b:Stp)(h:tab.length<64):qx tab b=qx (tab++[b]) zs:=by
 unfold qx;rw[List.append_assoc,Ar,Bs,show 64-tab.length=(64-(tab.length+1))+1 from by omega,BG];rfl
@[simp] theorem Zx4:Program.zeroOf prog 325=some (.agg #[.bool false,.int .i64 0,.int .i64 0,.bool false,.int .i64 0,.int .i64 0,.bool false,.int .i64 0,.int .i64 0,.bool false,.int .i64 0,.int .i64 0,.bool false,.int .i64 0,.int .i64 0,.bool false,.int .i64 0,.int .i64 0,.bool false,.int .i64 0,.int .i64 0,.bool false,.int .i64 0,.int .i64 0,.bool false,.int .i64 0,.int .i64 0,.bool false,.int .i64 0,.int .i64 0,.bool false,.int .i64 0,.int .i64 0,.bool false,.int .i64 0,.int .i64 0,.bool false,.int .i64 0,.int .i64 0,.bool false,.int .i64 0,.int .i64 0,.bool false,.int .i64 0,.int .i64 0,.bool false,.int .i64 0,.int .i64 0,.bool false,.int .i64 0,.int .i64 0,.bool false,.int .i64 0,.int .i64 0,.bool false,.int .i64 0,.int .i64 0,.bool false,.int .i64 0,.int .i64 0,.bool false,.int .i64 0,.int .i64 0,.bool false,.int .i64 0,.int .i64 0,.bool false,.int .i64 0,.int .i64 0,.bool false,.int .i64 0,.int .i64 0,.bool false,.int .i64 0,.int .i64 0,.bool false,.int .i64 0,.int .i64 0,.bool false,.int .i64 0,.int .i64 0,.bool false,.int .i64 0,.int .i64 0,.bool false,.int .i64 0,.int .i64 0,.bool false,.int .i64 0,.int .i64 0,.bool false,.int .i64 0,.int .i64 0,.bool false,.int .i64 0,.int .i64 0,.bool false,.int .i64 0,.int .i64 0,.bool false,.int .i64 0,.int .i64 0,.bool false,.int .i64 0,.int .i64 0,.bool false,.int .i64 0,.int .i64 0,.bool false,.int .i64 0,.int .i64 0,.bool false,.int .i64 0,.int .i64 0,.bool false,.int .i64 0,.int .i64 0,.bool false,.int .i64 0,.int .i64 0,.bool false,.int .i64 0,.int .i64 0,.bool false,.int .i64 0,.int .i64 0,.bool false,.int .i64 0,.int .i64 0,.bool false,.int .i64 0,.int .i64 0,.bool false,.int .i64 0,.int .i64 0,.bool false,.int .i64 0,.int .i64 0,.bool false,.int .i64 0,.int .i64 0,.bool false,.int .i64 0,.int .i64 0,.bool false,.int .i64 0,.int .i64 0,.bool false,.int .i64 0,.int .i64 0,.bool false,.int .i64 0,.int .i64 0,.bool false,.int .i64 0,.int .i64 0,.bool false,.int .i64 0,.int .i64 0,.bool false,.int .i64 0,.int .i64 0,.bool false,.int .i64 0,.int .i64 0,.bool false,.int .i64 0,.int .i64 0,.bool false,.int .i64 0,.int .i64 0,.bool false,.int .i64 0,.int .i64 0,.bool false,.int .i64 0,.int .i64 0,.bool false,.int .i64 0,.int .i64 0,.bool false,.int .i64 0,.int .i64 0,.bool false,.int .i64 0,.int .i64 0,.bool false,.int .i64 0,.int .i64 0,.bool false,.int .i64 0,.int .i64 0,.bool false,.int .i64 0,.int .i64 0]):=by kernel_rfl
theorem ZhN{α:Type}[Enc α]:∀(l:List α) (k:Nat),(l.flatMap Enc.enc).take (k*Enc.sz α)=(l.take k).flatMap Enc.enc
 | [],k=>by simp
 | a :: l,0=>by simp
 | a :: l,k+1=>by
  have ih:=ZhN l k;rw[AA,Dc,AA,Nat.add_mul,DW,List.take_append,Enc.len,<-ih,Cc,Af (by rw[Enc.len];omega)]
theorem Zq7{α:Type}[Enc α](n:Nat)(hn:Enc.sz α=n)(l:List α)(k:Nat)(v:α)(h:k<l.length):yc (l.flatMap Enc.enc) (k*n) (Enc.enc v)=(l.set k v).flatMap Enc.enc:=by
 subst hn;have h1:=Za8 h;have h2:(l.flatMap Enc.enc).drop (k*Enc.sz α+Enc.sz α)=(l.drop (k+1)).flatMap Enc.enc:=by
  rw[<-List.drop_drop,h1,CG,Bg (by rw[Enc.len];exact Ag _),Enc.len,Bw];simp
 rw[yc,Enc.len,ZhN,h2,AH,if_pos h];simp
theorem ZhO(tab:List Stp):∀(f s:Nat) (d:Int),s<2 ^ 64->ug tab f s d<2 ^ 64
 | 0,_,_,h=>h
 | f+1,s,d,h=>by
  unfold ug;split
  ·exact h
  ·exact ZhO tab f _ _ (V6 _ _ h)
theorem Zq8(tab:List Stp)(f s:Nat){d:Int}(h:d<0):ug tab f s d=s:=by
 cases f with
 | zero=>rfl
 | succ f=>unfold ug;rw[if_pos h]
theorem Zq9{S:Store}{pl:PV}{price:List Int}(c:Cust)(n:Nat)(cap:Int)(hR:RowOf S pl price)(hc:CustFits c)(hn:n<=60):
  Spec prog 247 [.agg (ye c),I n,I cap,pl] S (λq S'=>q=.tup [L (YT c n cap price).1,B (YT c n cap price).2]/\S'=S):=by
 have hmin:jR (n:Int) 64=n:=by unfold jR;split<;>omega
 have hmax:qS (n:Int) 0=n:=by unfold qS;split<;>omega
 have hpr:=λS (h:RowOf S pl price) d=>ZcO d h
 have hrest:=λ(last d:Int) (h1:-1<=last/\last<=64) (h2:0<=d/\d<=64)=>ZhJ c last d hc h1 h2
 have hmost:=λ(th:Int) (h:-4611686018427387904<=th/\th<=4611686018427387904)=>ZcN c th cap hc.size h
 unfold YT;refine yh Tryz.func247 Tryz.ntmps247 Tryz.results247 λnx hd=>?_
 refine za (zb ?_);intro v0;refine za (ze [] (zo hmin hmax) ?_);refine za (zb ?_);intro v1;have hw:IntKind.i64.wrap ((n:Int)+1)=((n+1:Nat):Int):=zu n (by omega)
 repeat apply za
 refine ze [] hw ?_;refine zj (zD (λd:Nat=>d<=n+1) (λd=>[(1,I n),(2,I cap),(3,pl),(4,.ptr nx v0 0),(10,.ptr (nx+1) v1 0),(22,I (n+1:Nat)),(23,I d)]) (λd=>[.cells v0 87 (ye c),.cells v1 325 ((qx (jA c n cap price d) zs).flatMap Enc.enc)]) (λd=>n+1-d) 0 [] (by simp) (by simp) (by simp[jA];rfl) ?_);rintro d hd1;have htl:=WB c n cap price d;have htok:=ZcS c n cap price d;have htn:jA c n cap price (d+1)=jA c n cap price d++[xH c n cap price (jA c n cap price d) d (d+1)]:=rfl
 by_cases hdn:d<n+1
 case neg =>
  obtain rfl:d=n+1:=by omega
  clear htn;generalize jA c n cap price (n+1)=tab at *;have hml:=ZhM tab zs (by omega);obtain⟨s,tl,a1,-,-,e1,e0⟩:=el 3 rfl (qx tab zs) n (by omega);have hs:tab.getD n zs=s:=by have:=Zal tab zs n (by omega);rw[a1]at this;exact(Option.some.inj this).symm
  have hs2:tab[n]?=some s:=by rw[<-hs,Aa,Ad (by omega)];rfl
  have e12:=e1 2 (by omega);have hn65:(n:Int)<65:=by omega
  have z1:3<=195-n*3:=by omega
  have z2:1<=195-(n*3+2):=by omega
  rw[hs];refine za (zb ?_);refine za (zm (by simp) ?_);refine zy ?_;rcases htok n s hs2 with q | ⟨hr,hl1,hl2,hl3⟩
  ·subst q;rw[if_pos rfl];have e0':((qx tab zs).flatMap Enc.enc).drop (n*3)=[B false,I 0,I 0]++tl:=e0
   repeat apply za
   refine ze [] (zS e0' hn65 hml z1) ?_;refine zn rfl (za (zb ?_));refine ZU 8 rfl ?_;exact zg ⟨_,S,rfl,⟨by simp[zp],rfl⟩,zN hd⟩
  ·have hne:s≠zs:=λe=>by rw[e]at hr;cases hr
   rw[if_neg hne];obtain⟨sr,sk,sl⟩:=s;simp only at hr hl1 hl2 hl3 ⊢;subst hr
   repeat apply za
   refine ze [] (zS e0 hn65 hml z1) ?_;refine zm rfl (zh (za (zb ?_)))
   repeat apply za
   refine ze [] (zS e12 hn65 hml z2) ?_;generalize hres:ug tab 65 0 sl=res;have hrlt:res<2 ^ 64:=hres ▸ ZhO tab 65 0 sl (by decide);have hfil:=Zq1 c res hrlt hc;generalize (jM c (yD res 0 64)).1=vv at hfil ⊢;refine zj (zD (λst:Nat × Nat × Int=>ug tab st.1 st.2.1 st.2.2=res/\-1<=st.2.2/\st.2.2<st.1/\st.2.2<n/\st.2.1<2 ^ 64/\(0<=st.2.2->tab.getD st.2.2.toNat zs≠zs)) (λ(f,s,l)=>[(4,.ptr nx v0 0),(10,.ptr (nx+1) v1 0),(16,U s),(17,I l)]) (λ_=>[.cells v0 87 (ye c),.cells v1 325 ((qx tab zs).flatMap Enc.enc)]) (λst=>st.1) (65,0,sl) [] ⟨hres,hl1,by dsimp only;omega,by dsimp only;omega,by show (0:Nat)<2 ^ 64;decide,hl3⟩ (by simp) (by simp) ?_);rintro⟨f,s,l⟩ ⟨p1,p2,p3,p4,p5,p6⟩;simp only at p1 p2 p3 p4 p5 p6 ⊢
   by_cases hl:l<0
   ·have hl':¬0<=l:=by omega
    rw[Zq8 tab f s hl]at p1;subst p1
    repeat apply za
    refine ze [] hl' ?_;refine zm rfl (zy (za (zb ?_)));refine zr hfil ?_;exact zg ⟨_,S,(by simp;rfl),⟨by simp[zp],rfl⟩,zN hd⟩
   ·have hl':0<=l:=by omega
    obtain⟨i,rfl⟩:=Az hl';obtain⟨f,rfl⟩:∃g,f=g+1:=⟨f-1,by omega⟩;have p6:=p6 hl';rw[AT]at p6;have hi:i<tab.length:=by omega
    obtain⟨e,tl2,b1,-,-,f1,f0⟩:=el 3 rfl (qx tab zs) i (by omega);have he:tab.getD i zs=e:=by have:=Zal tab zs i hi;rw[b1]at this;exact(Option.some.inj this).symm
    have he2:tab[i]?=some e:=by rw[<-he,Aa,Ad hi];rfl
    have f12:=f1 2 (by omega);have hi65:(i:Int)<65:=by omega
    have y2:1<=195-(i*3+2):=by omega
    rw[he]at p6;rcases htok i e he2 with q | ⟨er,el1',el2',el3'⟩
    ·exact absurd q p6
    have p1':ug tab f (qC s i) e.l=res:=by
     rw[<-p1];unfold ug;rw[if_neg (by omega),AT,he];cases f<;>rfl
    repeat apply za
    refine ze [] hl' ?_;refine zn rfl (zh (za (zj (zb ?_))));refine zr (ZgI s i p5) ?_;refine ze [] (zS f12 hi65 hml y2) ?_;exact zq (f,qC s i,e.l) [] ⟨p1',el1',by dsimp only;omega,by dsimp only;omega,V6 _ _ p5,el3'⟩ (by simp) (by simp) rfl (by simp)
 generalize jA c n cap price d=tab at *;refine za (zb ?_);refine za (zn (by simp;omega) ?_);refine zh (za (zj (za (zb ?_))));refine za (zb ?_);refine zj (zD (λj:Nat=>j<=d+1) (λj=>[(1,I n),(2,I cap),(3,pl),(4,.ptr nx v0 0),(10,.ptr (nx+1) v1 0),(11,I d),(12,I ((j:Int)-1)),(22,I (n+1:Nat)),(23,I d)]) (λj=>[.cells v0 87 (ye c),.cells v1 325 ((qx tab (xH c n cap price tab d j)).flatMap Enc.enc)]) (λj=>d+1-j) 0 [] (by simp) (by simp) (by simp[xH]) ?_);rintro j hj;have hesucc:=ZhL c n cap price tab d j;have heok:=Zak c n cap price tab d j;have hdd:xH c n cap price tab d (d+1)=xH c n cap price tab d (d+1):=rfl
 by_cases hjd:j<d+1
 case neg =>
  obtain rfl:j=d+1:=by omega
  repeat apply za
  refine zb ?_;refine zm (by simp) ?_;refine zy (zb ?_);exact zq (d+1) [] hdn (by omega) (by simp[zu d (by omega)]) rfl (by rw[htn,<-Zq6 tab _ (by omega)];simp)
 clear hdd htn;generalize xH c n cap price tab d j=b at *;obtain⟨last,hlast⟩:∃last:Int,last=(j:Int)-1:=⟨_,rfl⟩;rw[<-hlast]at hesucc ⊢;have hwl:IntKind.i64.wrap (last+1)=((j+1:Nat):Int)-1:=by rw[wr _ (by omega) (by omega)];omega
 have hml:=ZhM tab b (by omega);have hd65:(d:Int)<65:=by omega
 have zd3:3<=195-d*3:=by omega
 have zd1:1<=195-(d*3+1):=by omega
 have hr:=hrest last d (by omega) (by omega);have hrbd:-4611686018427387904<=(qP c last d).1/\(qP c last d).1<=4611686018427387904:=by
  have h1:=hc.rate;have h2:=hc.size;have h3:=hc.start;unfold qP;simp only;have hp:0<=c.rate*((if last<0 then (d:Int) else d-last).toNat:Int)/\c.rate*((if last<0 then (d:Int) else d-last).toNat:Int)<=2147483648*65 :=
   ⟨Int.mul_nonneg h1.1 (by omega),Int.mul_le_mul h1.2 (by split<;>omega) (by omega) (by omega)⟩
  generalize c.rate*((if last<0 then (d:Int) else d-last).toNat:Int)=pp at hp ⊢;split<;>omega
 have hm:=hmost _ hrbd;have hks:∀(k1:Int),k1=(if 0<=last then W ((qP c last d).2+(tab.getD last.toNat zs).k) else (qP c last d).2)->Jm c n cap price tab d last=if d<n then W (k1+YP price d) else k1:=λk1 h=>by unfold Jm;rw[h]
 have hokd:Qy c n cap tab d last=(¬(0<=last/\tab.getD last.toNat zs=zs)/\¬((qP c last d).1<0\/(d<n/\vM c (qP c last d).1 cap=0))):=rfl;have hstay:¬Qy c n cap tab d last->xH c n cap price tab d (j+1)=b:=λh=>by rw[hesucc];unfold WA;rw[if_neg h]
 have hgo:Qy c n cap tab d last->xH c n cap price tab d (j+1)=if b=zs\/Jm c n cap price tab d last<b.k then ⟨true,Jm c n cap price tab d last,last⟩ else b:=λh=>by rw[hesucc];unfold WA;rw[if_pos h]
 clear hesucc;generalize qP c last d=rr at hr hm hks hokd;obtain⟨th,he⟩:=rr;simp only at hr hm hks hokd;generalize vM c th cap=mo at hm hokd;generalize Qy c n cap tab d last=OK at hokd hstay hgo;generalize Jm c n cap price tab d last=kk at hks hgo;generalize hb'e:xH c n cap price tab d (j+1)=b' at hstay hgo;subst hokd
 repeat apply za
 refine zb ?_;refine zn (by simp;omega) ?_;refine zh (za (zj (za (qY (nx:=nx) (σ:=Unit) (λ_=>¬(0<=last/\tab.getD last.toNat zs=zs)) (λ_=>[(1,I n),(2,I cap),(3,pl),(4,.ptr nx v0 0),(10,.ptr (nx+1) v1 0),(11,I d),(12,I last),(22,I (n+1:Nat)),(23,I d)]) (λ_=>S) (λ_=>[.cells v0 87 (ye c),.cells v1 325 ((qx tab b).flatMap Enc.enc)]) ?_ ?_))))
 ·by_cases hl:0<=last
  ·obtain⟨i,hi⟩:=Az hl;have hit:i<tab.length:=by omega
   obtain⟨e,tl2,b1,-,-,-,f0⟩:=el 3 rfl (qx tab b) i (by omega);have hee:tab.getD i zs=e:=by have:=Zal tab b i hit;rw[b1]at this;exact(Option.some.inj this).symm
   have he2:tab[i]?=some e:=by rw[<-hee,Aa,Ad hit];rfl
   have hi65:(i:Int)<65:=by omega
   have y3:3<=195-i*3:=by omega
   have hlt:last.toNat=i:=by omega
   rcases htok i e he2 with q | ⟨er,-,-,-⟩
   ·subst q;have f0':((qx tab b).flatMap Enc.enc).drop (i*3)=[B false,I 0,I 0]++tl2:=f0;have hb':=hstay λh=>h.1 ⟨hl,by rw[hlt];exact hee⟩
    subst hb';subst hi;refine za (ze [(2,33)] (yG hl f0' hi65 hml y3) ?_);refine zn rfl (zy (ze [] hwl ?_));exact zq (j+1) [] (by omega) (by omega) (by simp) rfl (by simp[hb'e])
   ·obtain⟨r1,r2,r3⟩:=e;simp only at er;subst er;subst hi;refine za (ze [(2,33)] (yG hl f0 hi65 hml y3) ?_);exact zm rfl (zh (zY () [] (by rw[hlt,hee];rintro⟨-,q⟩;cases q) (by simp) rfl (by simp)))
  ·refine za (ze [(2,33)] (zo hl zH) ?_);exact zm rfl (zh (zY () [] (λq=>hl q.1) (by simp) rfl (by simp)))
 intro _ hA;refine za (zb ?_);refine zr hr ?_;refine za (qY (nx:=nx) (σ:=Unit) (λ_=>¬(th<0\/(d<n/\mo=0))) (λ_=>[(1,I n),(2,I cap),(3,pl),(4,.ptr nx v0 0),(10,.ptr (nx+1) v1 0),(11,I d),(12,I last),(14,I he),(22,I (n+1:Nat)),(23,I d)]) (λ_=>S) (λ_=>[.cells v0 87 (ye c),.cells v1 325 ((qx tab b).flatMap Enc.enc)]) ?_ ?_)
 ·by_cases h1:th<0
  ·have hb':=hstay λh=>h.2 (.inl h1)
   subst hb';refine za (ze [(2,49),(6,53)] (zo h1 zH) ?_);refine zn rfl (zy (ze [] hwl ?_));exact zq (j+1) [] (by omega) (by omega) (by simp) rfl (by simp[hb'e])
  ·by_cases h2:d<n
   ·by_cases h3:mo=0
    ·have hb':=hstay λh=>h.2 (.inr ⟨h2,h3⟩)
     subst hb';refine za (ze [(2,49),(6,53)] (zE h1 h2 h3) ?_);refine qt [(2,49),(6,53)] hm (zE h1 h2 h3) ?_;refine zn rfl (zy (ze [] hwl ?_));exact zq (j+1) [] (by omega) (by omega) (by simp) rfl (by simp[hb'e])
    ·refine za (ze [(2,49),(6,53)] (zE h1 h2 h3) ?_);refine qt [(2,49),(6,53)] hm (zE h1 h2 h3) ?_;exact zm rfl (zh (zY () [] (by omega) (by simp) rfl (by simp)))
   ·refine za (ze [(2,49),(6,53)] (zE h1 h2 zH) ?_);exact zm rfl (zh (zY () [] (by omega) (by simp) rfl (by simp)))
 intro _ hB;have hgo:=hgo ⟨hA,hB⟩;clear hstay hm hr;refine za (zb ?_);intro v2;obtain⟨k1,hk1⟩:∃k1,k1=(if 0<=last then W (he+(tab.getD last.toNat zs).k) else he):=⟨_,rfl⟩;have hks:=hks k1 hk1;refine za (qY (nx:=nx) (σ:=Unit) (λ_=>True) (λ_=>[(1,I n),(2,I cap),(3,pl),(4,.ptr nx v0 0),(10,.ptr (nx+1) v1 0),(11,I d),(12,I last),(15,.ptr (nx+2) v2 0),(22,I (n+1:Nat)),(23,I d)]) (λ_=>S) (λ_=>[.cells v0 87 (ye c),.cells v1 325 ((qx tab b).flatMap Enc.enc),.cells v2 324 [B true,I k1,I last]]) ?_ ?_)
 ·refine za (zb ?_)
  by_cases hl:0<=last
  ·rw[if_pos hl]at hk1;obtain⟨i,hi⟩:=Az hl;have hit:i<tab.length:=by omega
   obtain⟨e,tl2,b1,-,-,f1,f0⟩:=el 3 rfl (qx tab b) i (by omega);have hee:tab.getD i zs=e:=by have:=Zal tab b i hit;rw[b1]at this;exact(Option.some.inj this).symm
   have f11:=f1 1 (by omega);have hi65:(i:Int)<65:=by omega
   have y1:1<=195-(i*3+1):=by omega
   have hlt:last.toNat=i:=by omega
   rw[hlt,hee]at hk1;subst hi;refine zn (by simp) ?_;refine zz (some [nx+1]) (Row.pures [0,2,3,4,5] (.alt 1 (Row.pures [6,7] (.alt 8 (.done) .stop)) .stop)) mixed (zS f11 hi65 hml y1) ?_;exact zY () [] trivial (by simp) rfl (by simp[hk1])
  ·rw[if_neg hl]at hk1;refine zm (by simp;omega) ?_;exact zh (zY () [] trivial (by simp) rfl (by simp[hk1]))
 intro _ _;clear hk1;refine za (qY (nx:=nx) (σ:=Unit) (λ_=>True) (λ_=>[(1,I n),(2,I cap),(3,pl),(4,.ptr nx v0 0),(10,.ptr (nx+1) v1 0),(11,I d),(12,I last),(15,.ptr (nx+2) v2 0),(22,I (n+1:Nat)),(23,I d)]) (λ_=>S) (λ_=>[.cells v0 87 (ye c),.cells v1 325 ((qx tab b).flatMap Enc.enc),.cells v2 324 [B true,I kk,I last]]) ?_ ?_)
 ·refine za (zb ?_)
  by_cases h2:d<n
  ·rw[if_pos h2]at hks;refine zn (by simp[h2]) ?_;refine zz (some [nx+1]) (Row.pures [0,2,3] (.alt 1 (.alt 4 (Row.pures [5,6] (.alt 7 (.done) .stop)) .stop) (.alt 4 (.alt 1 (Row.pures [5,6] (.alt 7 (.done) .stop)) .stop) .stop))) mixed trivial ?_;refine⟨?_,?_⟩
   ·refine(((hpr _ (hR.ext hd _) _).mono ?_).v);rintro _ _ ⟨rfl,rfl⟩;refine⟨by simp[yE],js trivial ?_⟩;exact zY () [] trivial (by simp) rfl (by simp[hks])
   ·refine(((hpr _ (hR.ext hd _) _).mono ?_).v);rintro _ _ ⟨rfl,rfl⟩;refine⟨by simp[yE],js trivial ?_⟩;exact zY () [] trivial (by simp) rfl (by simp[hks])
  ·rw[if_neg h2]at hks;refine zm (by simp;omega) ?_;exact zh (zY () [] trivial (by simp) rfl (by simp[hks]))
 intro _ _;clear hks;obtain⟨e,tl2,b1,-,-,f1,f0⟩:=el 3 rfl (qx tab b) d (by omega);have hee:b=e:=by have:=Zq4 tab b;rw[htl,b1]at this;exact(Option.some.inj this).symm
 subst hee;have f11:=f1 1 (by omega);have hsp:=Zq7 3 rfl (qx tab b) d ⟨true,kk,last⟩ (by omega);have hms:=Zq5 tab b ⟨true,kk,last⟩;rw[htl]at hms;rw[hms]at hsp;have hsp':yc ((qx tab b).flatMap Enc.enc) (d*3) [B true,I kk,I last]=(qx tab ⟨true,kk,last⟩).flatMap Enc.enc:=hsp;clear hsp hms;have hmf:((qx tab b).flatMap Enc.enc:List PV).length=195:=by rw[Zq2,hml]
 rcases heok with q | ⟨hbr,-,-,-⟩
 ·subst q;rw[if_pos (.inl rfl)]at hgo;subst hgo;have f0':((qx tab zs).flatMap Enc.enc).drop (d*3)=[B false,I 0,I 0]++tl2:=f0;refine za (zz none (Row.pures [0,1,2,3,4,5,6,7,8,9,10,11,12,13] .done) mixed (yG f0' hd65 hml zd3 zH) ?_);refine zn rfl (ze [] (zS hd65 hmf hsp' hml) ?_);refine⟨by omega,?_⟩;refine ze [] hwl ?_;exact zq (j+1) [_] (by omega) (by omega) (by simp) rfl (by simp[hb'e];rfl)
 ·obtain⟨r1,r2,r3⟩:=b;simp only at hbr;subst hbr;have hnz:¬((⟨true,r2,r3⟩:Stp)=zs):=λe=>by cases e
  by_cases hlt:kk<r2
  ·rw[if_pos (.inr hlt)]at hgo;subst hgo;refine za (zz none (Row.pures [0,1,2,3,4,5,6,7,8,9,10,11,12,13] .done) mixed (yl f0 f11 hd65 hml zd3 (zo zd1 hlt)) ?_);refine zn rfl (ze [] (zS hd65 hmf hsp' hml) ?_);refine⟨by omega,?_⟩;refine ze [] hwl ?_;exact zq (j+1) [_] (by omega) (by omega) (by simp) rfl (by simp[hb'e];rfl)
  ·rw[if_neg (by rintro(q | q);exact hnz q;exact hlt q)]at hgo;subst hgo;refine za (zz none (Row.pures [0,1,2,3,4,5,6,7,8,9,10,11,12,13] .done) mixed (yl f0 f11 hd65 hml zd3 (zo zd1 hlt)) ?_);refine zm rfl (zh (ze [] hwl ?_));exact zq (j+1) [_] (by omega) (by omega) (by simp) rfl (by simp[hb'e];rfl)
open Go Go.Proofs Hp
section
variable {P:Program} {r:Rd} {n N:Nat} {Q:Exit->(Nat->PV)->Store->Prop} {F:Nat->PV} {c:Code}
theorem Zra{S:Store}{nx:Nat}{obs:List Ob}(j:Nat){ver e:Nat}{cs:List PV}(hj:obs[j]?=some (.cells ver e cs)){id v e2:Nat}{ds:List PV}(hlt:id<nx)(hs:S id=.cells v e2 ds)
  (h:PW P r n N c Q F (ext (S.set id (.cells v e2 (ds.map (qi (nx+j) ver cs)))) nx (obs.set j .dead))):PW P r n N c Q F (ext S nx obs):=by
 have hjl:j<obs.length:=(Ac.1 hj).1;refine ZpT (id:=nx+j) (ver:=ver) (e:=e) (cs:=cs) (G:=F) (by rw[zU,Aa,hj];rfl) (by rw[zU,Aa,AX hjl];rfl) (λo=>?_) (λ_=>.inl rfl) h
 by_cases ho:o<nx
 ·rw[zA ho,zA ho]
  by_cases hoi:o=id
  ·subst hoi;rw[q11,hs];exact .inr (.inr rfl)
  ·rw[q10 _ _ _ _ hoi];exact .inr (.inl rfl)
 ·simp only[ext];rw[if_neg ho,if_neg ho,Aa,Aa,AZ];split
  ·simp[hjl]
  ·exact .inr (.inl rfl)
theorem Zam{S T:Store}{nx nz:Nat}{obs:List Ob}(hd:zT nx S)(hle:nx<=nz)(h:∀o,o<nx->T o=S o)(o:Nat):S o=ext T nz obs o\/S o=.dead:=by
 by_cases ho:o<nx
 ·rw[zA (by omega),h o ho];exact .inl rfl
 ·exact .inr (hd o (by omega))
end
def ZC(x:Inst)(sol:Cust->List Int->List Visit × Bool)(b:Int)(n:Nat):Nat->List (List Int)->zC × Int
 | 0,_=>([],15)
 | k+1,pr =>
  if (qD x sol pr).2≠0 then ([],15)
  else if jy (jm x (qD x sol pr).1 b n)=0 then (xR x (qD x sol pr).1 b n,0)
  else if (jm x (qD x sol pr).1 b n).any Yd=true then ([],15)
  else ZC x sol b n k (Xm (jm x (qD x sol pr).1 b n) pr n)
def WC(x:Inst)(sol:Cust->List Int->List Visit × Bool)(b:Int)(n:Nat):zC × Int:=ZC x sol b n 8 (jz x n 0)
def ZhP(x:Inst)(n:Nat)(sol:Cust->List Int->List Visit × Bool):Prop:=∀pr,uW x.cust.length n pr->(qD x sol pr).2=0->VsOk x.cust.length n (qD x sol pr).1
theorem Zrb{x:Inst}{sol:Cust->List Int->List Visit × Bool}{b:Int}{n:Nat}(hx:InstH x)(hn:x.days=n)(hn2:n<=1000)(hs:ZcJ x n sol)(hv:ZhP x n sol)(hb:b<=9223372036854775807):
  Pure prog 128 [.agg (zx x),I b] (.tup [.agg [L (WC x sol b n).1],I (WC x sol b n).2]):=by
 have hm:=hx.cust;unfold WC;have hPo:=Zhu x n;refine zt Tryz.func128 Tryz.ntmps128 Tryz.results128 λS nx hd=>?_
 refine za (zb ?_);intro v0 v1;refine za (zz (some [nx]) (Row.pures [0,1,2,3,4] (.alt 5 (Row.pures [6] (.alt 7 (Row.pures [8] .done) .stop)) .stop)) mixed trivial ?_);refine⟨by omega,?_⟩;intro v2 v3;rw[Zp0];refine ZpV (α:=Int) (nx+2) v2 26 (nx+4) 3 1 x.cust.length (by simp) (jF (obs:=[_,_,_,_])) λT ws hR hT hdT=>?_
 have hT0:T nx=.cells v0 25 (zx x):=by rw[hT nx (by omega) (by omega)];simp
 have hT1:T (nx+1)=.cells v1 30 [.sc (.slice none 0 0)]:=by rw[hT (nx+1) (by omega) (by omega)];simp
 have hT3:T (nx+3)=.cells v3 235 (xy x (.sc (.slice none 0 0)) b (.sc (.slice none 0 0)) (.sc (.slice none 0 0)) (.sl (nx+2) v2 1 0 x.cust.length)):=by rw[hT (nx+3) (by omega) (by omega)];simp
 have hTS:∀o,o<nx->T o=S o:=λo ho=>by rw[hT o (by omega) (by omega),zA ho]
 clear hT;obtain⟨nz,hnz⟩:∃nz,nz=nx+4+x.cust.length:=⟨_,rfl⟩;rw[<-hnz]at hdT;rw[show List.replicate x.cust.length ([]:List Int)=jz x 0 0 from (A7 λj=>by
  by_cases h:j<x.cust.length
  ·simp[jz,h]
  ·rw[Ai (by simp;omega),Ai (by rw[Yb];omega)])]at hR
 rw[<-qB hdT];refine za (xl [] (by rfl) (by rfl) λK Gc Gh hK hGc hGh X hX0 hX=>?_);simp -implicitDefEqProofs [hX0,hX]
 try clear hX0 hX X
 refine hGc _ _ _ _ _ _ _ λhsuf=>(Spec.mono (Zhr (nx:=nz) (by rw[qB hdT];exact hdT) x _ _ _ _ _ _ _ n hn hn2 (by rw[qB hdT];exact hT3)
  (λk T'=>(∃ws',RowsAt T' (nx+2) v2 26 (nx+4) 3 1 ws' (jz x k 0))/\(∀o,o≠nx+2->(o<nx+4\/nx+4+x.cust.length<=o)->T' o=T o)) ⟨⟨ws,by rw[qB hdT];exact hR⟩,λo _ _=>by rw[qB hdT]⟩
  (λk T' h o ho=>by rw[h.2 o (by omega) (.inr (by omega))];exact hdT o ho) (λk hk T' h=>?_)) ?_).v
 ·obtain⟨⟨ws',h1⟩,h2⟩:=h;refine(Zqq k hm (by omega) (by omega) (by omega) ((h2 (nx+3) (by omega) (.inl (by omega))).trans hT3) h1).mono ?_;rintro _ T2 ⟨g1,g2⟩;exact⟨g1,λo o1 o2=>(g2 o o1 o2).trans (h2 o o1 o2)⟩
 rintro _ T' ⟨⟨ws',hR'⟩,hT'⟩;have hdT':zT nz T':=λo ho=>by rw[hT' o (by omega) (.inr (by omega))];exact hdT o ho
 refine⟨T',[],(qB hdT').symm,?_⟩;clear hGc hGh;clear Gc Gh;refine xL hsuf (D:=[]) (by rfl) λGc Gh hGc hGh X hX0 hX=>?_
 simp -implicitDefEqProofs [hX0,hX];clear hX0 hX X;refine hK _ _ _ ?_;clear hK hGc hGh;clear K Gc Gh
 replace hT0:=(hT' nx (by omega) (.inl (by omega))).trans hT0
 replace hT1:=(hT' (nx+1) (by omega) (.inl (by omega))).trans hT1
 replace hT3:=(hT' (nx+3) (by omega) (.inl (by omega))).trans hT3
 replace hTS:∀o,o<nx->T' o=S o:=λo ho=>(hT' o (by omega) (.inl (by omega))).trans (hTS o ho)
 clear hT' hR hdT;generalize jz x n 0=pr0 at *
 repeat apply za
 refine zb ?_;refine zj (jr (σ:=Nat × Store × List (List Int)) (λs=>s.1<=8/\uW x.cust.length n s.2.2/\ZC x sol b n 8 pr0=ZC x sol b n (8-s.1) s.2.2/\(∃ws',RowsAt s.2.1 (nx+2) v2 26 (nx+4) 3 1 ws' s.2.2)/\s.2.1 nx=.cells v0 25 (zx x)/\s.2.1 (nx+1)=.cells v1 30 [.sc (.slice none 0 0)] /\
  (∃vP pP fP,s.2.1 (nx+3)=.cells v3 235 (xy x vP b pP fP (.sl (nx+2) v2 1 0 x.cust.length)))/\(∀o,o<nx->s.2.1 o=S o)/\zT nz s.2.1)
  (λs=>[(2,.ptr nx v0 0),(4,.ptr (nx+1) v1 0),(6,.ptr (nx+3) v3 0),(21,I s.1)]) (λs=>s.2.1) (λ_=>[]) (λs=>8-s.1) (zY (0,T',pr0) [] ⟨by simp,hPo,rfl,⟨ws',hR'⟩,hT0,hT1,⟨_,_,_,hT3⟩,hTS,hdT'⟩ (by simp) rfl (by simp)) ?_)
 clear hR' hT0 hT1 hT3 hTS hdT' hPo T';rintro⟨k,T,pr⟩ ⟨hk,hP,hst,⟨ws,hR⟩,hT0,hT1,⟨vP,pP,fP,hT3⟩,hTS,hdT⟩;simp only at hk hP hst hR hT0 hT1 hT3 hTS hdT ⊢;have x0:=λobs=>(zA (S:=T) (nx:=nz) (obs:=obs) (i:=nx) (by omega)).trans hT0
 have x3:=λobs=>(zA (S:=T) (nx:=nz) (obs:=obs) (i:=nx+3) (by omega)).trans hT3
 have g1:¬nz<=nx+1:=by omega
 have x1:=λobs=>(zA (S:=T) (nx:=nz) (obs:=obs) (i:=nx+1) (by omega)).trans hT1
 refine za (zb ?_);refine za (zv rfl (λhc=>?_) (λhc=>?_))
 ·simp at hc;rw[show 8-k=(7-k)+1 from by omega]at hst;have hvs:=hv pr hP;have hch:=ZqA (S:=T) hm hP hR hs;rw[show ZC x sol b n (7-k+1) pr=(if (qD x sol pr).2≠0 then ([],15) else if jy (jm x (qD x sol pr).1 b n)=0 then (xR x (qD x sol pr).1 b n,0) else if (jm x (qD x sol pr).1 b n).any Yd=true then ([],15) else ZC x sol b n (7-k) (Xm (jm x (qD x sol pr).1 b n) pr n)) from rfl]at hst;generalize qD x sol pr=cz at hst hvs hch;obtain⟨v,e⟩:=cz;simp only at hst hvs hch;refine zh (za (zj (za (Zkb none (Row.pures [0,1,2,3,4] (.alt 5 (Row.pures [6,7,8,9,10] .done) .stop)) mixed (by rfl) (by rfl) (by rfl) λK Gp Gc Gh hK hGp hGc hGh X hX0 hX1 hX2 hX=>?_))));simp -implicitDefEqProofs [hX0,hX1,hX2,hX,x0,x3]
  try clear hX0 hX1 hX2 hX X
  refine hGc _ _ _ _ _ _ _ (Spec.mono (by rw[qB hdT];exact hch) ?_).v;rintro _ S2 ⟨rfl,hS2⟩;have hS3:S2=ext T nz []:=hS2.trans (qB hdT).symm;subst hS3;clear hS2;refine⟨by simp[yE],?_⟩;clear hGp hGc hGh;clear Gp Gc Gh;refine Zea λGp Gc Gh hGp hGc hGh X hX0 hX1 hX2 hX=>?_
  simp -implicitDefEqProofs [hX0,hX1,hX2,hX]
  try clear hX0 hX1 hX2 hX X
  refine hK _ _ _ ?_;clear hK hGp hGc hGh;clear K Gp Gc Gh
  repeat apply za
  refine zb ?_
  by_cases he:e=0
  case neg =>
   rw[if_pos he]at hst;rw[hst];refine zn (by simp[he]) ?_;refine za (ze [] (zE x0 x1 g1) ?_)
   show PW _ _ _ _ _ _ _ (ext _ _ _)
   refine VP (o:=nx+1) 0 (by rw[zA (by omega)];first | exact q11 _ _ _ | exact hT1) rfl ?_;rw[qc _ (by omega)]
   try rw[Store.set_set]
   refine zg ⟨_,S,(by simp[zA (show nx+1<nz from by omega),q11];rfl),⟨by simp[zp],rfl⟩,?_⟩;exact Zam hd (by omega) λo ho=>by rw[q10 _ _ _ _ (by omega)];exact hTS o ho
  rw[if_neg (by simpa using he)]at hst;have hvs:=hvs he;refine zm (by simp[he]) ?_;refine zh ?_
  repeat apply za
  refine xl [] (by rfl) (by rfl) λK Gc Gh hK hGc hGh X hX0 hX=>?_
  simp -implicitDefEqProofs [hX0,hX]
  try clear hX0 hX X
  refine hGc _ _ _ _ _ _ _ λhsuf=>(Spec.mono (ZpZ (nx:=nz) (n:=n) (by rw[qB hdT];exact hdT) (by rw[qB hdT];exact hT3) hx hn hn2 hvs hb) ?_).v
  rintro _ _ ⟨rfl,vD,vF,rfl⟩;rw[qB hdT];refine⟨_,_,rfl,?_⟩;clear hGc hGh;clear Gc Gh;refine xL hsuf (D:=[]) (by rfl) λGc Gh hGc hGh X hX0 hX=>?_
  simp -implicitDefEqProofs [hX0,hX];clear hX0 hX X;refine hK _ _ _ ?_;clear hK hGc hGh;clear K Gc Gh;have hfl:=Zg0 x v b n;have hpl:=Zcw x v b n;generalize jm x v b n=fs at *;generalize xR x v b n=pl at *
  by_cases hf:jy fs=0
  ·rw[if_pos hf]at hst;rw[hst];refine zn (by simp[hf]) ?_
   show PW _ _ _ _ _ _ _ (ext _ _ _)
   refine Zra 0 (id:=nx+3) rfl (by omega) (q11 _ _ _) ?_;rw[Store.set_set];have hfz:([I x.days,I x.veh,I x.cap,I x.len,L x.cust,L x.dist,L v,I b,.sl nz vD 1 0 pl.length,.sl (nz+1) vF 1 0 fs.length,.sl (nx+2) v2 1 0 x.cust.length]:List PV).map (qi (nz+0) vD (pl.flatMap Enc.enc))=xy x (L v) b (L pl) (.sl (nz+1) vF 1 0 fs.length) (.sl (nx+2) v2 1 0 x.cust.length):=by
    simp[qi];omega
   rw[hfz];have y3:=λ(o:Ob) obs=>(zA (S:=T.set (nx+3) o) (nx:=nz) (obs:=obs) (i:=nx+3) (by omega)).trans (q11 _ _ _)
   have y1:=λ(o:Ob) obs=>(zA (S:=T.set (nx+3) o) (nx:=nz) (obs:=obs) (i:=nx+1) (by omega)).trans ((q10 _ _ _ _ (by omega)).trans hT1)
   refine za (ze [] (zE y3 y1 g1) ?_);refine zg ⟨_,S,(by simp[zA (show nx+1<nz from by omega),q11];rfl),⟨by simp[zp],rfl⟩,?_⟩;exact Zam hd (by omega) λo ho=>by rw[q10 _ _ _ _ (by omega),q10 _ _ _ _ (by omega)];exact hTS o ho
  rw[if_neg hf]at hst;refine zm (by simp[hf]) ?_;refine zh ?_;have y3:=λ(o:Ob) obs=>(zA (S:=T.set (nx+3) o) (nx:=nz) (obs:=obs) (i:=nx+3) (by omega)).trans (q11 _ _ _)
  have y1:=λ(o:Ob) obs=>(zA (S:=T.set (nx+3) o) (nx:=nz) (obs:=obs) (i:=nx+1) (by omega)).trans ((q10 _ _ _ _ (by omega)).trans hT1)
  repeat apply za
  refine xl [] (by rfl) (by rfl) λK Gc Gh hK hGc hGh X hX0 hX=>?_
  simp -implicitDefEqProofs [hX0,hX,y3]
  try clear hX0 hX X
  refine hGc _ _ _ _ _ _ _ λhsuf=>((Zqy (idF:=nz+1) (vF:=vF) fs (by rw[zU];rfl) (by omega)).mono ?_).v
  rintro _ _ ⟨rfl,rfl⟩;refine⟨_,_,rfl,?_⟩;clear hGc hGh;clear Gc Gh;refine xL hsuf (D:=[]) (by rfl) λGc Gh hGc hGh X hX0 hX=>?_
  simp -implicitDefEqProofs [hX0,hX];clear hX0 hX X;refine hK _ _ _ ?_;clear hK hGc hGh;clear K Gc Gh;cases hbad:fs.any Yd with
  | true =>
   rw[if_pos hbad]at hst;rw[hst];refine zn rfl (za (ze [] (zo y1 g1) ?_))
   show PW _ _ _ _ _ _ _ (ext _ _ _)
   refine VP (o:=nx+1) 0 (by rw[zA (by omega)];first | exact q11 _ _ _ | exact(q10 _ _ _ _ (by omega)).trans hT1) rfl ?_;rw[qc _ (by omega)]
   try rw[Store.set_set]
   refine zg ⟨_,S,(by simp[zA (show nx+1<nz from by omega),q11];rfl),⟨by simp[zp],rfl⟩,?_⟩;exact Zam hd (by omega) λo ho=>by rw[q10 _ _ _ _ (by omega),q10 _ _ _ _ (by omega)];exact hTS o ho
  | false =>
   rw[if_neg (by rw[hbad];decide)]at hst;refine zm rfl (zh ?_);generalize hT2:ext (T.set (nx+3) (.cells v3 235 (xy x (L v) b (.sl nz vD 1 0 pl.length) (.sl (nz+1) vF 1 0 fs.length) (.sl (nx+2) v2 1 0 x.cust.length)))) nz [.cells vD 39 (pl.flatMap Enc.enc),.cells vF 47 (fs.flatMap Enc.enc)]=T2;have q3:T2 (nx+3)=.cells v3 235 (xy x (L v) b (.sl nz vD 1 0 pl.length) (.sl (nz+1) vF 1 0 fs.length) (.sl (nx+2) v2 1 0 x.cust.length)):=by rw[<-hT2,zA (by omega),q11]
   have qF:T2 (nz+1)=.cells vF 47 (fs.flatMap Enc.enc):=by rw[<-hT2,zU];rfl
   have qo:∀o,o<nz->o≠nx+3->T2 o=T o:=λo h1 h2=>by rw[<-hT2,zA h1,q10 _ _ _ _ h2]
   have qd:zT (nz+2) T2:=by rw[<-hT2];exact jF (obs:=[_,_])
   have qR:RowsAt T2 (nx+2) v2 26 (nx+4) 3 1 ws pr:=hR.other λo ho=>by
    rw[hP.1]at ho;exact qo o (by omega) (by omega)
   clear hT2;rw[<-qB qd];refine xl [] (by rfl) (by rfl) λK Gc Gh hK hGc hGh X hX0 hX=>?_
   simp -implicitDefEqProofs [hX0,hX]
   try clear hX0 hX X
   refine hGc _ _ _ _ _ _ _ λhsuf=>(Spec.mono (Zhr (nx:=nz+2) (by rw[qB qd];exact qd) x _ _ _ _ _ _ _ n hn hn2 (by rw[qB qd];exact q3)
    (λk T'=>RowsAt T' (nx+2) v2 26 (nx+4) 3 1 ws (Xm fs pr k)/\(∀o,(o<nx+4\/nx+4+x.cust.length<=o)->T' o=T2 o)) ⟨by rw[qB qd];exact qR,λo _=>by rw[qB qd]⟩
    (λk T' h o ho=>by rw[h.2 o (.inr (by omega))];exact qd o ho) (λj hj T' h=>?_)) ?_).v
   ·obtain⟨h1,h2⟩:=h;refine(Zqv (n:=n) j hm hn2 hj (by omega) (by omega) ((h2 (nz+1) (.inr (by omega))).trans qF) hfl ((h2 (nx+3) (.inl (by omega))).trans q3) (Ww fs hP j) h1).mono ?_;rintro _ T3 ⟨r1,r2⟩;exact⟨r1,λo o1=>(r2 o o1).trans (h2 o o1)⟩
   rintro _ T3 ⟨hR3,hT3'⟩;have hd3:zT (nz+2) T3:=λo ho=>by rw[hT3' o (.inr (by omega))];exact qd o ho
   refine⟨T3,[],(qB hd3).symm,?_⟩;clear hGc hGh;clear Gc Gh;refine xL hsuf (D:=[]) (by rfl) λGc Gh hGc hGh X hX0 hX=>?_
   simp -implicitDefEqProofs [hX0,hX];clear hX0 hX X;refine hK _ _ _ ?_;clear hK hGc hGh;clear K Gc Gh;rw[qB hd3];refine XZ (T':=λo=>if o<nz then T3 o else .dead) (λo=>by by_cases ho:o<nz<;>simp[ho]) ?_;generalize hT4:(λo=>if o<nz then T3 o else Ob.dead)=T4;have q4:∀o,o<nz->T4 o=T3 o:=λo ho=>by rw[<-hT4];simp[ho]
   have qd4:zT nz T4:=λo ho=>by rw[<-hT4];simp;omega
   clear hT4;rw[<-qB qd4];refine zb ?_;refine zq (k+1,T4,Xm fs pr n) [] ⟨by dsimp only;omega,Ww fs hP n,by rw[hst,show 8-(k+1)=7-k from by omega],⟨ws,hR3.other λo ho=>q4 o (by rw[(Ww fs hP n).1]at ho;omega)⟩,?_,?_,⟨L v,.sl nz vD 1 0 pl.length,.sl (nz+1) vF 1 0 fs.length,?_⟩,λo ho=>?_,qd4⟩ (by simp;omega) (by simp[zu k (by omega)]) rfl (by simp)
   ·dsimp only;rw[q4 _ (by omega),hT3' _ (.inl (by omega)),qo _ (by omega) (by omega)];exact hT0
   ·dsimp only;rw[q4 _ (by omega),hT3' _ (.inl (by omega)),qo _ (by omega) (by omega)];exact hT1
   ·dsimp only;rw[q4 _ (by omega),hT3' _ (.inl (by omega))];exact q3
   ·dsimp only;rw[q4 _ (by omega),hT3' _ (.inl (by omega)),qo _ (by omega) (by omega)];exact hTS o ho
 ·simp at hc;obtain rfl:k=8:=by omega
  rw[hst];refine zy (za (ze [] (zo x1 g1) ?_))
  show PW _ _ _ _ _ _ _ (ext _ _ _)
  refine VP (o:=nx+1) 0 (by rw[zA (by omega)];first | exact q11 _ _ _ | exact hT1) rfl ?_;rw[qc _ (by omega)]
  try rw[Store.set_set]
  refine zg ⟨_,S,(by simp[zA (show nx+1<nz from by omega),q11];rfl),⟨by simp[zp,ZC],rfl⟩,?_⟩;exact Zam hd (by omega) λo ho=>by rw[q10 _ _ _ _ (by omega)];exact hTS o ho
open Go Go.Proofs Hp
def Qz:List Int->Int
 | []=>-1
 | d :: ds=>(d :: ds).getLast (by simp)
theorem ZcT(ds:List Int)(d:Int):Qz (ds++[d])=d:=by
 cases ds with
 | nil=>rfl
 | cons a ds=>show (a :: (ds++[d])).getLast _=d;rw[List.getLast_cons (by simp),List.getLast_append_of_ne_nil _ (by simp)];rfl
def ZhQ(c:Cust)(cap:Int)(last d:Int):Prop:=0<=(qP c last d).1/\vM c (qP c last d).1 cap≠0
inductive FilS (c:Cust) (cap:Int) (n:Nat):List Int->Prop where
 | nil:FilS c cap n []
 | snoc {ds:List Int} {d:Int} (h:FilS c cap n ds) (h1:Qz ds<d) (h2:d<n) (h3:ZhQ c cap (Qz ds) d):FilS c cap n (ds++[d])
theorem FilS.lo{c:Cust}{cap:Int}{n:Nat}{ds:List Int}(h:FilS c cap n ds):-1<=Qz ds/\(∀d∈ds,0<=d/\d<n/\d<=Qz ds):=by
 induction h with
 | nil=>exact⟨by decide,by simp⟩
 | snoc h h1 h2 h3 ih =>
  rw[ZcT];refine⟨by omega,λd hd=>?_⟩;rcases AC.1 hd with hd | hd
  ·have:=ih.2 d hd;omega
  ·rw[AV.1 hd];omega
theorem FilS.inc{c:Cust}{cap:Int}{n:Nat}{ds:List Int}(h:FilS c cap n ds):ds.Pairwise (· < ·):=by
 induction h with
 | nil=>exact .nil
 | snoc h h1 h2 h3 ih =>
  rw[List.pairwise_append];refine⟨ih,by simp,λa ha b hb=>?_⟩;rw[AV.1 hb];have:=h.lo.2 a ha;omega
theorem Zrc(c:Cust)(ds:List Int):(jM c ds).2=Qz ds:=by
 rcases List.eq_nil_or_concat ds with rfl | ⟨l,d,rfl⟩
 ·rfl
 ·rw[List.concat_eq_append,Zaj,ZcT];rfl
theorem Zrd(c:Cust):∀ds:List Int,(jM c ds).1.map (·.d)=ds:=by
 have:∀(ds:List Int) (st:List Visit × Int),(ds.foldl (YS c) st).1.map (·.d)=st.1.map (·.d)++ds:=by
  intro ds
  induction ds with
  | nil=>intro st;simp
  | cons d ds ih=>intro st;rw[A8,ih];simp[YS]
 intro ds;unfold jM;rw[this];simp
theorem Zre{c:Cust}(hc:CustFits c){cap last d:Int}(h:ZhQ c cap last d):W (c.size-(qP c last d).1)=c.size-(qP c last d).1/\1<=c.size-(qP c last d).1/\c.size-(qP c last d).1<=2147483648/\(c.rule=1->c.size-(qP c last d).1<=cap):=by
 obtain⟨h1,h2⟩:=h;have hs:=hc.size;generalize (qP c last d).1=th at *;unfold vM at h2;split at h2
 ·exact absurd rfl h2
 rename_i h3;refine⟨wr _ (by omega) (by omega),by omega,by omega,λhr=>?_⟩;split at h2
 ·assumption
 ·first | exact absurd rfl h2 | exact absurd hr (by assumption) | (rw[if_pos hr]at h2;exact absurd rfl h2)
theorem Zrf{c:Cust}(hc:CustFits c){cap:Int}{n:Nat}(hn:n<=60){ds:List Int}(h:FilS c cap n ds):GoodV n (jM c ds).1:=by
 have hlen:ds.length<=64:=by
  have h1:=ZhD (m:=n) ds (h.inc.imp λh=>DO h) (λd hd=>by have:=h.lo.2 d hd;omega);omega
 refine⟨by rw[ZhK];exact hlen,?_,by rw[Zrd];exact h.inc.imp λh=>DO h⟩
 induction h with
 | nil=>intro s hs;cases hs
 | @snoc ds d h h1 h2 h3 ih =>
  intro s hs;rw[Zaj]at hs;simp only[YS]at hs;rcases AC.1 hs with hs | hs
  ·exact ih (by simp at hlen;omega) s hs
  ·rw[AV.1 hs];rw[Zrc];obtain⟨q1,q2,q3,-⟩:=Zre hc h3;have:=h.lo.1;refine⟨by dsimp only;omega,?_⟩;dsimp only;rw[q1];omega
def QA(tab:List Stp):Nat->Int->List Int
 | 0,_=>[]
 | f+1,d=>if d<0 then [] else d :: QA tab f (tab.getD d.toNat zs).l
def Zan(c:Cust)(n:Nat)(cap:Int)(tab:List Stp):Prop:=∀(d:Nat) (e:Stp),tab[d]?=some e->e≠zs->-1<=e.l/\e.l<d/\(0<=e.l->tab.getD e.l.toNat zs≠zs)/\0<=(qP c e.l d).1/\(d<n->vM c (qP c e.l d).1 cap≠0)
theorem ZhR(c:Cust)(n:Nat)(cap:Int)(price:List Int):∀k,Zan c n cap (jA c n cap price k)
 | 0=>by intro d e h;cases h
 | k+1=>by
  have ih:=ZhR c n cap price k;have hl:=WB c n cap price k;have he:=Zak c n cap price (jA c n cap price k) k (k+1);have hok:=ZcS c n cap price (k+1);intro d e h hne;have hok:=hok d e h;simp only[jA]at h hok ⊢;rcases hok with q | ⟨-,q2,q3,q4⟩
  ·exact absurd q hne
  refine⟨q2,q3,q4,?_⟩
  by_cases hd:d<k
  ·rw[Al (by omega)]at h;exact(ih d e h hne).2.2.2
  ·rw[Ak (by omega),hl]at h;obtain rfl:d=k:=by
    rcases Bf (d-k) 1 with q | q
    ·omega
    ·rw[Ai (by simpa using q)]at h;cases h
   rw[Bw]at h;simp only[A9,Option.some.injEq]at h;subst h;rcases he with q | ⟨-,-,-,p4⟩
   ·exact absurd q hne
   ·have:=p4.2;exact⟨by omega,λhdn hm=>this (.inr ⟨hdn,hm⟩)⟩
theorem ZcU{c:Cust}{n:Nat}{cap:Int}{tab:List Stp}(h:Zan c n cap tab):∀(f:Nat) (d:Int),-1<=d->d<f->d<n->(0<=d->tab.getD d.toNat zs≠zs)->FilS c cap n (QA tab f d).reverse/\Qz (QA tab f d).reverse=d
 | 0,d,h1,h2,_,_=>by
  obtain rfl:d=-1:=by omega
  exact⟨.nil,rfl⟩
 | f+1,d,h1,h2,h3,h4=>by
  unfold QA
  by_cases hd:d<0
  ·rw[if_pos hd];obtain rfl:d=-1:=by omega
   exact⟨.nil,rfl⟩
  ·rw[if_neg hd,Du];have h4:=h4 (by omega);obtain⟨i,rfl⟩:=Az (show 0<=d by omega);rw[AT]at h4 ⊢;have he:∃e,tab[i]?=some e/\tab.getD i zs=e:=by
    cases hq:tab[i]? with
    | none=>exfalso;apply h4;rw[Aa,hq];rfl
    | some e=>exact⟨e,rfl,by rw[Aa,hq];rfl⟩
   obtain⟨e,he1,he2⟩:=he;rw[he2]at h4 ⊢;obtain⟨g1,g2,g3,g4,g5⟩:=h i e he1 h4;obtain⟨p1,p2⟩:=ZcU h f e.l g1 (by omega) (by omega) g3;exact⟨.snoc p1 (by rw[p2];exact g2) h3 (by rw[p2];exact⟨g4,g5 (by omega)⟩),ZcT _ _⟩
theorem Zrg(s:Nat)(d i:Nat)(hd:d<64):yF (qC s d) i=1<->yF s i=1\/i=d:=by
 have h:((qC s d).testBit i)=(s.testBit i || decide (d=i)):=by
  unfold qC;rw[if_pos (by omega),AT,Do,CJ]
 rw[Xg,Xg]at h;have h2:decide (yF (qC s d) i=1)=(decide (yF s i=1) || decide (d=i)):=by simpa using h
 constructor
 ·intro q;rw[decide_eq_true q]at h2;have:=h2.symm;rw[B7,decide_eq_true_eq,decide_eq_true_eq]at this;omega
 ·intro q;have:(decide (yF s i=1) || decide (d=i))=true:=by
   rw[B7,decide_eq_true_eq,decide_eq_true_eq];omega
  rw[this]at h2;exact of_decide_eq_true h2
theorem ZhS{c:Cust}{n:Nat}{cap:Int}{tab:List Stp}(h:Zan c n cap tab)(hn:n<=60):∀(f s:Nat) (d:Int),-1<=d->d<n->(0<=d->tab.getD d.toNat zs≠zs)->∀i:Nat,yF (ug tab f s d) i=1<->yF s i=1\/(i:Int)∈QA tab f d
 | 0,s,d,_,_,_=>λi=>by simp[ug,QA]
 | f+1,s,d,h1,h3,h4=>λi=>by
  unfold ug QA
  by_cases hd:d<0
  ·rw[if_pos hd,if_pos hd];simp
  ·rw[if_neg hd,if_neg hd];have h4:=h4 (by omega);obtain⟨k,rfl⟩:=Az (show 0<=d by omega);rw[AT]at h4 ⊢;have he:∃e,tab[k]?=some e/\tab.getD k zs=e:=by
    cases hq:tab[k]? with
    | none=>exfalso;apply h4;rw[Aa,hq];rfl
    | some e=>exact⟨e,rfl,by rw[Aa,hq];rfl⟩
   obtain⟨e,he1,he2⟩:=he;rw[he2]at h4 ⊢;obtain⟨g1,g2,g3,-⟩:=h k e he1 h4;rw[ZhS h hn f _ e.l g1 (by omega) g3 i,Zrg s k i (by omega),Aq,Int.natCast_inj,or_assoc]
theorem Zrh:∀{a b:List Int},a.Pairwise (· < ·)->b.Pairwise (· < ·)->(∀z,z∈a<->z∈b)->a=b:=by
 intro a b ha hb h;have hp:a.Perm b:=(Df (ha.imp λh=>DO h) (hb.imp λh=>DO h)).2 h;exact ZfS hp (ha.imp λh=>D1 h) (hb.imp λh=>D1 h)
theorem Zri(s a k:Nat):(yD s a k).Pairwise (· < ·):=by
 unfold yD;rw[CX];have h:(List.range k).Pairwise (· < ·):=List.pairwise_lt_range;exact(h.sublist List.filter_sublist).imp λh=>by omega
theorem Zrj{c:Cust}{n:Nat}{cap:Int}{tab:List Stp}(h:Zan c n cap tab)(hn:n<=60){d:Int}(h1:-1<=d)(h3:d<n)(h4:0<=d->tab.getD d.toNat zs≠zs):yD (ug tab 65 0 d) 0 64=(QA tab 65 d).reverse:=by
 obtain⟨hf,-⟩:=ZcU h 65 d h1 (by omega) h3 h4;refine Zrh (Zri _ _ _) hf.inc λz=>?_
 have hb:=ZhS h hn 65 0 d h1 h3 h4;have h0:∀i,¬yF 0 i=1:=by intro i;simp[yF]
 rw[List.mem_reverse];constructor
 ·intro hz;obtain⟨i,rfl,_,hi⟩:=Wx hz;exact((hb i).1 hi).resolve_left (h0 i)
 ·intro hz;have hlo:=hf.lo.2 z (List.mem_reverse.2 hz);obtain⟨i,rfl⟩:=Az hlo.1;simp only[yD,An,Bd,AJ,Au,decide_eq_true_eq];exact⟨i,⟨by omega,by omega,(hb i).2 (.inr hz)⟩,rfl⟩
theorem Zrk{c:Cust}{n:Nat}(hn:n<=60){cap:Int}{price:List Int}(h:(YT c n cap price).2=true):∃ds,FilS c cap n ds/\0<=(qP c (Qz ds) n).1/\(YT c n cap price).1=(jM c ds).1:=by
 have hfit:=ZhR c n cap price (n+1);have hl:=WB c n cap price (n+1);unfold YT at h ⊢;generalize jA c n cap price (n+1)=tab at *;split at h
 ·cases h
 rename_i hne;rw[if_neg hne];have he:∃e,tab[n]?=some e/\tab.getD n zs=e:=⟨_,Ad (by omega),by rw[Aa,Ad (by omega)];rfl⟩;obtain⟨e,he1,he2⟩:=he;rw[he2]at hne ⊢;obtain⟨g1,g2,g3,g4,-⟩:=hfit n e he1 hne;obtain⟨p1,p2⟩:=ZcU hfit 65 e.l g1 (by omega) g2 g3;exact⟨_,p1,by rw[p2];exact g4,by rw[Zrj hfit hn g1 g2 g3]⟩
def qy(n:Nat)(cap:Int)(c:Cust)(price:List Int):List Visit × Bool :=
 if c.kind=1 then ZA c cap price else if c.rule=1 then YT c n cap price else Jl c n cap price
theorem ZcV{S:Store}{pl:PV}{price:List Int}(c:Cust)(n:Nat)(cap:Int)(hR:RowOf S pl price)(hp:∀z∈price,zM z)(hpl:price.length<=1000)(hm:CustMade c n)(hpc:c.pats.length<=1000)(hn:n<=60):
  Spec prog 207 [.agg (ye c),I n,I cap,pl] S (λq S'=>q=.tup [L (qy n cap c price).1,B (qy n cap c price).2]/\S'=S):=by
 unfold qy
 by_cases hk:c.kind=1
 ·rw[if_pos hk];exact ZqU c n cap hk hR hp hpl hpc hm.pats
 rw[if_neg hk]
 by_cases hr:c.rule=1
 ·rw[if_pos hr];have hs:=λS (hR:RowOf S pl price)=>Zq9 c n cap hR hm.fits hn
  generalize YT c n cap price=r at *;obtain⟨v,ok⟩:=r;simp only at hs ⊢;refine yh Tryz.func207 Tryz.ntmps207 Tryz.results207 λnx hd=>?_
  refine za (zb ?_);intro v0;refine za (zj (za (ze [] hk ?_)));refine zm (by simp[hk]) ?_;refine za (ze [] hr ?_);refine zn (by simp[hr]) ?_;refine za (zb ?_);refine λhsuf=>((hs _ (hR.ext hd _)).mono ?_).v
  rintro _ _ ⟨rfl,rfl⟩;refine⟨_,_,rfl,zL hsuf ?_⟩;exact zg ⟨_,S,(by simp;rfl),⟨by simp[zp],rfl⟩,zN hd⟩
 ·rw[if_neg hr];have hs:=λS (hR:RowOf S pl price)=>Zq0 c n cap hR hm.fits (by omega)
  generalize Jl c n cap price=r at *;obtain⟨v,ok⟩:=r;simp only at hs ⊢;refine yh Tryz.func207 Tryz.ntmps207 Tryz.results207 λnx hd=>?_
  refine za (zb ?_);intro v0;refine za (zj (za (ze [] hk ?_)));refine zm (by simp[hk]) ?_;refine za (ze [] hr ?_);refine zm (by simp[hr]) ?_;refine zh (za (zb ?_));refine λhsuf=>((hs _ (hR.ext hd _)).mono ?_).v
  rintro _ _ ⟨rfl,rfl⟩;refine⟨_,_,rfl,zL hsuf ?_⟩;exact zg ⟨_,S,(by simp;rfl),⟨by simp[zp],rfl⟩,zN hd⟩
theorem Zrl{c:Cust}{n:Nat}(hm:CustMade c n)(hk:c.kind=1){p:Nat}(hp:p∈c.pats):GoodV n (Qu c p):=by
 obtain⟨h1,h2⟩:=hm.per hk;refine⟨by simp only[Qu,List.length_map];exact Xf _ _ _,λs hs=>?_,by simp only[Qu,BW];exact(by simpa[Function.comp_def] using Zqn p 0 64)⟩;simp only[Qu,An]at hs;obtain⟨d,hd,rfl⟩:=hs;have h0:0<=d:=by
  simp only[yD,An]at hd;obtain⟨i,_,rfl⟩:=hd;omega
 exact⟨⟨h0,h1 p hp d hd⟩,h2⟩
theorem Zrm{c:Cust}{cap:Int}{price:List Int}(h:(ZA c cap price).2=true):∃p∈c.pats,(p=0\/c.demand<=cap)/\(ZA c cap price).1=Qu c p:=by
 unfold ZA at h ⊢;split at h
 ·cases h
 rename_i hn;rw[if_neg hn];have hb:=ZcM price (xG c cap) (xG c cap).length;have hlt:(jL price (xG c cap) (xG c cap).length).1.toNat<(xG c cap).length:=by omega
 have hm:(xG c cap).getD (jL price (xG c cap) (xG c cap).length).1.toNat 0∈xG c cap:=by
  rw[Aa,Ad hlt];exact Bh hlt
 obtain⟨h1,h2⟩:=Bd.1 hm;exact⟨_,h1,by simpa using h2,rfl⟩
theorem Zao{c:Cust}{n:Nat}(hm:CustMade c n)(hn:n<=60)(cap:Int)(price:List Int)(h:(qy n cap c price).2=true):GoodV n (qy n cap c price).1:=by
 unfold qy at h ⊢
 by_cases hk:c.kind=1
 ·rw[if_pos hk]at h ⊢;obtain⟨p,hp,-,e⟩:=Zrm h;rw[e];exact Zrl hm hk hp
 rw[if_neg hk]at h ⊢
 by_cases hr:c.rule=1
 ·rw[if_pos hr]at h ⊢;obtain⟨ds,h1,-,e⟩:=Zrk hn h;rw[e];exact Zrf hm.fits hn h1
 ·rw[if_neg hr]at h ⊢;have hD:GoodV n (qa 0 (ZB c n cap).1):=Zhq (Xq hm.fits (ZcP hm.fits cap) n).2 (Cz (Xp _ _ _)) (by omega);have hL:GoodV n (qa 0 (Ye c n cap).1):=Zhq (Xq hm.fits (ZcQ hm.fits cap) n).2 (Cz (Xp _ _ _)) (by omega);unfold Jl at h ⊢;split
  ·exact hL
  ·rename_i h1;rw[if_neg h1]at h;split
   ·exact hD
   ·rename_i h2;rw[if_neg h2]at h;cases h
structure InstA (x:Inst) (n:Nat):Prop where
 h:InstH x
 days:x.days=n
 n60:n<=60
 made:∀c∈x.cust,CustMade c n
 pats:∀c∈x.cust,c.pats.length<=1000
theorem Zrn{x:Inst}{n:Nat}(h:InstA x n):ZcJ x n (qy n x.cap):=by
 intro c hc l hl hi S pl hR;rw[h.days];have:=h.n60;exact ZcV c n x.cap hR hi (by omega) (h.made c hc) (h.pats c hc) h.n60
theorem ZhT{x:Inst}{sol:Cust->List Int->List Visit × Bool}{pr:List (List Int)}(h:(qD x sol pr).2=0):(qD x sol pr).1.length=x.cust.length/\∀i c,x.cust[i]?=some c->(qD x sol pr).1[i]?=some (sol c (pr.getD i [])).1/\(sol c (pr.getD i [])).2=true:=by
 unfold qD at h ⊢;split at h
 ·rename_i hall;rw[if_pos hall];refine⟨by simp[uX],λi c hc=>?_⟩;have hi:=(Ac.1 hc).1;have hg:x.cust.getD i default=c:=by rw[Aa,hc];rfl
  refine⟨by simp only[uX,BW,Aj,AQ hi,A3,Function.comp_apply,hg],?_⟩;have:=As.1 hall _ (Zhv x sol pr hi);rw[hg]at this;exact this
 ·cases h
theorem ZhU{x:Inst}{n:Nat}(h:InstA x n):ZhP x n (qy n x.cap):=by
 intro pr hP h0;obtain⟨h1,h2⟩:=ZhT h0;have key:∀l∈(qD x (qy n x.cap) pr).1,GoodV n l:=by
  intro l hl;obtain⟨i,hi,rfl⟩:=List.getElem_of_mem hl;have hic:i<x.cust.length:=by omega
  obtain⟨e1,e2⟩:=h2 i _ (Ad hic);rw[Ad hi]at e1;rw[Option.some.inj e1];exact Zao (h.made _ (Bh hic)) h.n60 _ _ e2
 exact⟨h1,λl hl w hw=>(key l hl).ok w hw,λl hl=>(key l hl).nd,λl hl=>by have:=(key l hl).len;omega⟩
def jN(x:Inst)(b:Int):zC × Int:=WC x (qy x.days.toNat x.cap) b x.days.toNat
theorem Zro{x:Inst}{n:Nat}(h:InstA x n){b:Int}(hb:b<=9223372036854775807):Pure prog 128 [.agg (zx x),I b] (.tup [.agg [L (jN x b).1],I (jN x b).2]):=by
 have hd:x.days.toNat=n:=by rw[h.days];rfl
 unfold jN;rw[hd];exact Zrb h.h h.days (by have:=h.n60;omega) (Zrn h) (ZhU h) hb
theorem Zrp(x:Inst)(c l:Int):InstA (ZqL x 6 c l) (yo x).days.toNat:=by
 have hd:=Wy x;refine⟨⟨AB (ZbP x) (by decide),ZgA x,Zgt x,by show (0:Int)<=6;decide⟩,?_,by omega,λc hc=>?_,λc hc=>?_⟩
 ·show (yo x).days=_;omega
 ·obtain⟨c0,rfl⟩:=ZcK x hc;exact ZhC c0 _ hd.1 hd.2
 ·obtain⟨c0,rfl⟩:=ZcK x hc;unfold jt;split
  ·simp
  ·simp only[Zk];split
   ·simp
   ·simp;omega
theorem Zrq(x:Inst):InstA (yo x) (yo x).days.toNat:=by
 have hd:=Wy x;have h:=Zrp x (yo x).cap (yo x).len;exact⟨⟨AB (ZbP x) (by decide),ZgA x,Zgt x,ZoT x⟩,by omega,h.n60,h.made,h.pats⟩
open Go Go.Proofs Hp
def Jn(c:Int)(p:zC):zC:=p.map (j8 c)
theorem Zrr(p:zC)(c:Int)(hp:p.length<=1000)(hd0:∀d∈p,d.length<=1048576)(ht:∀d∈p,∀t∈d,t.length<=1048576):Pure prog 287 [.agg [L p],I c] (.agg [L (Jn c p)]):=by
 unfold Jn;refine zt Tryz.func287 Tryz.ntmps287 Tryz.results287 λS nx hd=>?_
 refine za (zb ?_);intro v0 v1;refine za (zb ?_);intro v2;refine jg 2 0 39 1 rfl rfl λv3=>?_
 repeat apply za
 refine zb ?_;refine zj (zD (λs:Nat × zC × Nat=>s.1<=p.length/\s.2.1=(p.take s.1).map (j8 c)) (λ(k,q,w)=>[(1,I c),(4,.ptr (nx+1) v1 0),(5,.ptr (nx+2) v2 0),(11,L p),(12,I p.length),(13,I k)]) (λ(k,q,w)=>[.cells v0 30 [L p],.cells v1 30 [yp],.cells v2 30 [.sl (nx+3) w 1 0 q.length],.cells w 39 (q.flatMap Enc.enc)]) (λs=>p.length-s.1) (0,[],v3) [] (by simp) (by simp) (by simp) ?_);rintro⟨k,q,w⟩ ⟨hk,hq⟩;simp only at hk hq ⊢;have hql:q.length=k:=by rw[hq];simp;omega
 refine za (zb ?_);refine za (zv rfl (λhc=>?_) (λhc=>?_))
 ·simp at hc;obtain⟨d,tl,a1,a2,a3,e0⟩:=zF rfl p k hc;have hdm:=Ab a1;have hr:=Zn2 d c (hd0 d hdm) (ht d hdm);generalize hrd:j8 c d=rd at hr;have hk1:1<=p.length-k:=by omega
  have hqf:(q.flatMap Enc.enc:List PV).length=q.length:=jT q;have hqt:(q.flatMap Enc.enc:List PV).take q.length=q.flatMap Enc.enc:=Af (by omega);refine zh (za (zj (za (ze [] (zE hc e0 hk1) ?_))));intro v4;refine za (zb ?_);refine zr hr ?_;intro v5;refine ze [] (zo hqf hqt) ?_;refine⟨by omega,?_⟩;refine zb ?_;exact zq (k+1,q++[rd],w+1) [_,_] ⟨hc,by rw[a3,List.map_append,hq,<-hrd];rfl⟩ (by simp;omega) (by simp[zu k (by omega)]) rfl (by simp;exact⟨rfl,rfl⟩)
 ·simp at hc;obtain rfl:k=p.length:=by omega
  rw[Ao]at hq;refine zy (yb 3 rfl ?_);refine za (zb ?_);exact zg (zi hd (by simp;rfl) (by simp[zp,hq]))
open Go Go.Proofs Hp
def vN(x:Inst)(c:Nat):Stop:=⟨c,if (x.cust.getD c default).kind=1 then (x.cust.getD c default).demand else 1⟩
def w9(x:Inst)(s:Stop)(d:zk):Int:=if (yL x d s).2=true then max 0 (W (W (yq x (yL x d s).1)-W (yq x d))) else 4294967296
theorem ZhV(x:Inst)(c:Int):Pure prog 286 [.agg (zx x),I c] (B (decide (0<=c) && decide (c<x.cust.length))):=by
 refine zt Tryz.func286 Tryz.ntmps286 Tryz.results286 λS nx hd=>?_
 refine za (zb ?_);intro v0
 by_cases h:0<=c
 ·by_cases h2:c<x.cust.length
  ·refine za (ze [(2,7)] (zo h h2) ?_);exact zg (zi hd rfl (by simp[zp,h,h2]))
  ·refine za (ze [(2,7)] (zo h h2) ?_);exact zg (zi hd rfl (by simp[zp,h,h2]))
 ·refine za (ze [(2,7)] (zo h zH) ?_);exact zg (zi hd rfl (by simp[zp,h]))
open Go Go.Proofs Hp
theorem Zap{x:Inst}(hx:x.cust.length<=900){d:zk}(h:yr x d=0):d.flatten.length<=x.cust.length/\d.length<=x.cust.length/\RgOk x d [⟨0,0⟩]:=by
 obtain⟨h1,h2,h3⟩:=(vB x d).1 h;have hg:=Zcu h;have hl:=ZhD (m:=x.cust.length) _ h2 (λc hc=>by
  obtain⟨s,hs,rfl⟩:=An.1 hc;have:=hg s hs;simp[ju]at this;omega)
 rw[List.length_map]at hl;have hn:=ZfP h;have hd:=ZhA d hn;refine⟨hl,by omega,⟨by omega,λt ht=>?_,λt ht s hs=>?_⟩,h,by rw[Bs];omega⟩
 ·have:=Zai d t ht;omega
 ·have:=hg s (ZqM ht hs);simp[ju]at this;unfold qe;omega
theorem ZhW{x:Inst}(hx:x.cust.length<=900)(ha:qU x)(hv:0<=x.veh){d:zk}(h:yr x d=0):SOk x d.flatten/\SG x d.flatten d:=by
 obtain⟨h1,h2,h3⟩:=(vB x d).1 h;obtain⟨g1,g2,g3⟩:=Zap hx h;refine⟨⟨by omega,ha,hv,by omega,λs hs=>?_,h2⟩,⟨h1,.refl _⟩⟩;obtain⟨t,ht,hst⟩:=BO.1 hs;exact g3.ok.s t ht s hst
theorem Zrs(c:Int)(d:zk):(j8 c d).flatten=d.flatten.filter λs=>decide (s.c≠c):=by
 unfold j8;have:∀l:zk,(l.filter λt=>!t.isEmpty).flatten=l.flatten:=by
  intro l
  induction l with
  | nil=>rfl
  | cons t l ih=>cases t<;>simp[Cd,ih]
 rw[this]
 induction d with
 | nil=>rfl
 | cons t d ih=>simp only[Ax,Bp,BU,ih];rfl
open Go Go.Proofs Hp
theorem ZhX{x:Inst}{sol:Cust->List Int->List Visit × Bool}{b:Int}{n:Nat}:∀(k:Nat) (pr:List (List Int)),uW x.cust.length n pr->(ZC x sol b n k pr).2=0->∃pr',uW x.cust.length n pr'/\(qD x sol pr').2=0/\jy (jm x (qD x sol pr').1 b n)=0/\(ZC x sol b n k pr).1=xR x (qD x sol pr').1 b n
 | 0,_,_,h=>by simp[ZC]at h
 | k+1,pr,hp,h=>by
  unfold ZC at h ⊢
  by_cases h1:(qD x sol pr).2≠0
  ·rw[if_pos h1]at h;cases h
  rw[if_neg h1]at h ⊢
  by_cases h2:jy (jm x (qD x sol pr).1 b n)=0
  ·rw[if_pos h2]at h ⊢;exact⟨pr,hp,by simpa using h1,h2,rfl⟩
  rw[if_neg h2]at h ⊢
  by_cases h3:(jm x (qD x sol pr).1 b n).any Yd=true
  ·rw[if_pos h3]at h;cases h
  rw[if_neg h3]at h ⊢;exact ZhX k _ (Ww _ hp n) h
open Go Go.Proofs Hp
theorem Zrt{x:Inst}{n:Nat}(h:InstA x n){b:Int}(h0:(jN x b).2=0):∃v pr,VsOk x.cust.length n v/\uW x.cust.length n pr/\(jN x b).1=xR x v b n/\(∀d:Nat,d<n->(uE x b (xh v d x.cust.length)).2=0)/\∀i c,x.cust[i]?=some c->v[i]?=some (qy n x.cap c (pr.getD i [])).1/\(qy n x.cap c (pr.getD i [])).2=true:=by
 have hd:x.days.toNat=n:=by rw[h.days];rfl
 unfold jN WC at h0 ⊢;rw[hd]at h0 ⊢;obtain⟨pr,hp,e1,e2,e3⟩:=ZhX 8 _ (Zhu x n) h0;have hv:=ZhU h pr hp e1;obtain⟨c1,c2⟩:=ZhT e1;refine⟨_,pr,hv,hp,e3,λd hdn=>?_,c2⟩;refine(ZpH _).1 e2 _ (An.2 ⟨_,An.2 ⟨d,AJ.2 hdn,rfl⟩,rfl⟩)
open Go Go.Proofs Hp
theorem Zru(c:Cust)(d:Int)(h1:1<=d)(h7:d<=7):xF (jt c d) d=true:=by
 have hm:=ZhC c d h1 h7
 by_cases hk:c.kind.tmod 2=0
 ·have e:jt c d=⟨2,0,[],yB c.rate 0 9,yB c.size 1 30,yB c.start 0 (yB c.size 1 30),yB c.rule 1 2,yB c.hold 0 4⟩:=by unfold jt;rw[if_pos hk]
  have a:=xp c.rate 0 9 (by omega);have b:=xp c.size 1 30 (by omega);have s:=xp c.start 0 (yB c.size 1 30) (by omega);have r:=xp c.rule 1 2 (by omega);have h:=xp c.hold 0 4 (by omega);rw[e];simp[xF,yu,Qp,YJ];omega
 ·have e:jt c d=⟨1,yB c.demand 1 15,Zk c.pats d,0,0,0,0,0⟩:=by unfold jt;rw[if_neg hk]
  have a:=xp c.demand 1 15 (by omega);rw[e]at hm ⊢;obtain⟨hp,-⟩:=hm.per rfl;have hl:1<=(Zk c.pats d).length/\(Zk c.pats d).length<=64:=by
   unfold Zk;split
   ·simp
   ·rename_i hn;have:0<c.pats.length:=B5.2 hn;simp only[List.length_map,Ay];omega
  simp only[xF,if_true,Au,yu,decide_eq_true_eq,uV,Zu,As];refine⟨⟨by omega,λp hpm=>?_,by omega⟩,by simp⟩;unfold Z9;have:yD p d.toNat 64=[]:=by
   rw[ZgQ,Cy];intro z hz;have:=hp p hpm z hz;simp;omega
  rw[this];decide
theorem ZhY(n:Nat)(row:Nat->List Int)(h:∀a,a<n->(row a).length=n/\(row a).getD a 0=0/\∀z∈row a,0<=z/\z<=2147483648):∀k a:Nat,a+k<=n->Zv n a ((List.range' a k).map row)=true
 | 0,_,_=>rfl
 | k+1,a,ha=>by
  obtain⟨h1,h2,h3⟩:=h a (by omega);rw[List.range'_succ,Ax];simp only[Zv,ZhY n row h k (a+1) (by omega),DX,h1,h2,decide_true,Dx,As,yu,decide_eq_true_eq];exact h3
theorem Zrv(x:Inst):qV (yo x)=true:=by
 have h1:=Wy x;have h2:=ZqH x;have h3:=ZqI x;have h4:=ZqJ x;have h5:=ZqK x;unfold qV;simp only[Au,As,decide_eq_true_eq,yu];refine⟨⟨⟨⟨⟨⟨by omega,by omega⟩,by omega⟩,by omega⟩,by omega⟩,λc hc=>?_⟩,?_⟩
 ·obtain⟨c0,rfl⟩:=ZcK x hc;exact Zru c0 _ h1.1 h1.2
 ·have e:(yo x).cust.length=(x.cust.take 6).length:=by simp[yo]
  rw[e];unfold Zw;have e2:(yo x).dist=(List.range' 0 ((x.cust.take 6).length+1)).map λa=>wu x (x.cust.take 6).length a:=by rw[<-List.range_eq_range'];rfl
  rw[e2,ZhY _ _ (λa ha=>?_) _ _ (by omega)]
  ·simp
  ·refine⟨by simp[wu],?_,λz hz=>?_⟩
   ·unfold wu;rw[Aa,Aj,AQ ha];simp
   ·unfold wu at hz;obtain⟨b,-,rfl⟩:=An.1 hz;split
    ·have:=xp (arc x a b) 0 60 (by omega);omega
    ·omega
open Go Go.Proofs Hp
theorem Zrw(s:Nat)(d:Int)(i:Nat)(h:0<=d/\d<64):(qC s d).testBit i=(s.testBit i || decide (d=(i:Int))):=by
 obtain⟨k,rfl⟩:=Az h.1;unfold qC;rw[if_pos (by omega),AT,Do,CJ];congr 1;rw[decide_eq_decide];omega
def Zrx(c:Cust):Prop:=(c.kind=1/\c.rule=0)\/(c.kind=2/\(c.rule=1\/c.rule=2))
open Go Go.Proofs
abbrev Wd:=List UInt8
abbrev Ln:=List Wd
abbrev xV:Wd:=[116,114,97,110,116,101,114]
abbrev xW:Wd:=[100,97,121,115]
abbrev xX:Wd:=[118,101,104,105,99,108,101,115]
abbrev xY:Wd:=[99,97,112,97,99,105,116,121]
abbrev xZ:Wd:=[108,101,110,103,116,104]
abbrev x7:Wd:=[99,117,115,116,111,109,101,114,115]
abbrev vO:Wd:=[118,105,115,105,116]
abbrev QB:Wd:=[116,97,110,107]
abbrev uh:Wd:=[102,105,108,108]
abbrev uH:Wd:=[97,110,121]
abbrev jo:Wd:=[100,105,115,116,97,110,99,101,115]
def yQ(w:Wd):Int:=((jV w).getD 0:Nat)
def jB(l:Ln):Option (List Int):=if l.all (λw=>(jV w).isSome)=true then some (l.map yQ) else none
theorem Zry{l:Ln}{k:Nat}{w:Wd}(h:l[k]?=some w)(hw:jV w=none):jB l=none:=by
 unfold jB;rw[if_neg];rw[DC,Bu];exact⟨w,Ab h,by simp[hw]⟩
theorem WD{l:Ln}(h:∀w∈l,(jV w).isSome=true):jB l=some (l.map yQ):=by
 unfold jB;rw[if_pos (As.2 h)]
theorem ZhZ{l:Ln}{z:List Int}(h:jB l=some z):z.length=l.length:=by
 unfold jB at h;split at h<;>cases h;simp
def xz(l:Ln)(n:Nat):Ln:=(List.range n).map λi=>l.getD (2*i+1) []
def Jo(l names:Ln):Bool:=decide (l.length=2*names.length) && (List.range names.length).all λi=>decide (l.getD (2*i) []=names.getD i [])
def yV(l names:Ln):Option (List Int):=if Jo l names=true then jB (xz l names.length) else none
def xI(w:Wd):Nat->Nat
 | 0=>0
 | k+1=>if w.getD k 0=49 then qC (xI w k) k else xI w k
def wH(w:Wd):Bool:=decide (w≠[]) && w.all λc=>decide (c.toNat=48\/c.toNat=49)
def jW(w:Wd):Nat:=if 64<w.length then 0 else xI w w.length
def Yg(d:Wd)(ps:Ln):Cust:=⟨1,yQ d,ps.map jW,0,0,0,0,0⟩
def QC(n:Int)(l:Ln):Option (Cust × Bool):=match l with
 | []=>none
 | d :: ps=>if (jV d).isSome=true/\ps.all wH=true then some (Yg d ps,ps.all λw=>decide ((w.length:Int)=n)) else none
theorem ZcW(n:Int)(d:Wd)(ps:Ln):QC n (d :: ps)=if (jV d).isSome=true/\ps.all wH=true then some (Yg d ps,ps.all λw=>decide ((w.length:Int)=n)) else none:=rfl
def Xr(w:Wd):Int:=if w=uh then 1 else 2
def YU(l:Ln):Option Cust:=match l with
 | [a,b,c,r,h]=>if (jB [a,b,c,h]).isSome=true/\(r=uh\/r=uH) then some ⟨2,0,[],yQ a,yQ b,yQ c,Xr r,yQ h⟩ else none
 | _=>none
theorem ZcX(a b c r h:Wd):YU [a,b,c,r,h]=if (jB [a,b,c,h]).isSome=true/\(r=uh\/r=uH) then some ⟨2,0,[],yQ a,yQ b,yQ c,Xr r,yQ h⟩ else none:=rfl
def x8(n:Int)(l:Ln):Option (Cust × Bool):=match l with
 | []=>none
 | w :: l=>if w=vO then QC n l else if w=QB then (YU l).map (·,true) else none
instance:Inhabited (Cust × Bool):=⟨(default,false)⟩
def vf(n:Int)(l:Ln):Cust × Bool:=(x8 n l).getD default
def vg(m:Nat)(l:Ln):Bool:=(jB l).isSome && decide (l.length=m)
def zO(ls:List Ln)(k:Nat):Ln:=ls.getD k []
def yW(ls:List Ln)(k n:Nat):List Ln:=(List.range n).map λi=>zO ls (k+i)
def YV(ls:List Ln):Option (Inst × Bool) :=
 if zO ls 0=[xV,[49]] then
  match yV (zO ls 1) [xW,xX,xY,xZ] with
  | some [d,v,c,l] =>
   match yV (zO ls 2) [x7] with
   | some [m] =>
    if (yW ls 3 m.toNat).all (λl=>(x8 d l).isSome)=true/\zO ls (3+m.toNat)=[jo]/\(yW ls (4+m.toNat) (m.toNat+1)).all (vg (m.toNat+1))=true/\ls.length=5+2*m.toNat then
     some (⟨d,v,c,l,(yW ls 3 m.toNat).map λl=>(vf d l).1,(yW ls (4+m.toNat) (m.toNat+1)).map λl=>l.map yQ⟩,(yW ls 3 m.toNat).all λl=>(vf d l).2)
    else none
   | _=>none
  | _=>none
 else none
def zI:Inst:=⟨0,0,0,0,[],[]⟩
def qp(t:List UInt8):Inst × Int:=match xS t with
 | none=>(zI,2)
 | some ls=>match YV ls with
  | none=>(zI,2)
  | some (x,ok)=>if ok=true/\qV x=true then (x,0) else (zI,3)
def zV(z:Int):Wd:=z8 z.toNat
theorem ZD{z:Int}(h0:0<=z)(h1:z<100000000000000000):(jV (zV z)).isSome=true/\yQ (zV z)=z:=by
 have h:=Zhk z.toNat (by omega);unfold yQ zV;rw[h];exact⟨rfl,by simp;omega⟩
def qq(n:Nat)(p:Nat):Wd:=(List.range n).map λi=>UInt8.ofNat (48+yF p i)
def qr(n:Nat)(c:Cust):Ln:=if c.kind=1 then vO :: zV c.demand :: c.pats.map (qq n) else [QB,zV c.rate,zV c.size,zV c.start,if c.rule=2 then uH else uh,zV c.hold]
def jC(x:Inst):List Ln :=
 [xV,[49]] :: [xW,zV x.days,xX,zV x.veh,xY,zV x.cap,xZ,zV x.len] :: [x7,z8 x.cust.length] :: (x.cust.map (qr x.days.toNat)++[jo] :: x.dist.map (λr:List Int=>r.map zV))
def ZE(z:Int):Prop:=0<=z/\z<100000000000000000
structure CustT (n:Nat) (c:Cust):Prop where
 kind:(c.kind=1/\ZE c.demand/\(∀p∈c.pats,p<2 ^ n)/\c.rate=0/\c.size=0/\c.start=0/\c.rule=0/\c.hold=0)\/(c.kind=2/\c.demand=0/\c.pats=[]/\ZE c.rate/\ZE c.size/\ZE c.start/\(c.rule=1\/c.rule=2)/\ZE c.hold)
structure InstT (x:Inst) (n:Nat):Prop where
 days:x.days=n
 n1:1<=n
 n64:n<=64
 nums:ZE x.veh/\ZE x.cap/\ZE x.len
 ncust:x.cust.length<100000000000000000
 cust:∀c∈x.cust,CustT n c
 rows:x.dist.length=x.cust.length+1
 row:∀r∈x.dist,r.length=x.cust.length+1/\∀z∈r,ZE z
theorem Zaq(w:Wd)(i:Nat):∀k,(xI w k).testBit i=(decide (i<k/\i<64) && decide (w.getD i 0=49))
 | 0=>by simp[xI]
 | k+1=>by
  unfold xI;split
  ·rename_i h
   by_cases hk:k<64
   ·rw[Zrw _ _ _ ⟨by omega,by omega⟩,Zaq w i k]
    by_cases e:i=k
    ·subst e;have h':w.getD i 0=49:=h;have q1:decide (i<i+1/\i<64)=true:=by simp;exact hk
     rw[q1,h'];simp
    ·have e1:decide ((k:Int)=(i:Int))=false:=by simp;omega
     have e2:decide (i<k+1/\i<64)=decide (i<k/\i<64):=by rw[decide_eq_decide];omega
     rw[e1,e2];simp
   ·have:qC (xI w k) k=xI w k:=by unfold qC;rw[if_neg (by omega)]
    have e2:decide (i<k+1/\i<64)=decide (i<k/\i<64):=by rw[decide_eq_decide];omega
    rw[this,Zaq w i k,e2]
  ·rename_i h;rw[Zaq w i k]
   by_cases e:i=k
   ·subst e;have q1:decide (w.getD i 0=49)=false:=decide_eq_false h;rw[q1];simp
   ·have e2:decide (i<k+1/\i<64)=decide (i<k/\i<64):=by rw[decide_eq_decide];omega
    rw[e2]
theorem Zar(w:Wd):∀k,xI w k<2 ^ 64
 | 0=>by show 0<2 ^ 64;decide
 | k+1=>by
  unfold xI;split
  ·exact V6 _ _ (Zar w k)
  ·exact Zar w k
theorem WE(n p:Nat):(qq n p).length=n:=by simp[qq]
theorem Zrz(n p i:Nat)(h:i<n):(qq n p).getD i 0=UInt8.ofNat (48+yF p i):=by
 rw[Aa,qq,Aj,AQ h];rfl
theorem Zh0(n p:Nat)(h:1<=n):wH (qq n p)=true:=by
 unfold wH;have h1:qq n p≠[]:=by intro e;have:=WE n p;rw[e]at this;simp at this;omega
 have h2:(qq n p).all (λc=>decide (c.toNat=48\/c.toNat=49))=true:=by
  rw[As];intro c hc;obtain⟨i,_,rfl⟩:=An.1 hc;have:=VC p i;simp only[decide_eq_true_eq];rw[YN (by omega)];omega
 rw[h2];simp[h1]
theorem ZrA(n p:Nat)(h1:1<=n)(hn:n<=64)(hp:p<2 ^ n):jW (qq n p)=p:=by
 unfold jW;rw[WE,if_neg (by omega)];apply Nat.eq_of_testBit_eq;intro i;rw[Zaq]
 by_cases hi:i<n
 ·rw[Zrz n p i hi];have hb:=VC p i;have e:(UInt8.ofNat (48+yF p i)=49)<->yF p i=1:=by
   constructor
   ·intro e;have:=congrArg UInt8.toNat e;rw[YN (by omega)]at this;have h49:(49:UInt8).toNat=49:=rfl;omega
   ·intro e;rw[e];rfl
  have hd:decide (i<n/\i<64)=true:=by simp;omega
  rw[hd,Dx,CR];unfold yF at e ⊢;simp only[e]
 ·have hd:decide (i<n/\i<64)=false:=by simp;omega
  rw[hd,C5,CV (Bq hp (Cn (by decide) (by omega)))]
theorem ZrB{n:Nat}{c:Cust}(h1:1<=n)(hn:n<=64)(h:CustT n c):x8 n (qr n c)=some (c,true):=by
 obtain⟨k,dm,ps,ra,si,st,ru,ho⟩:=c;rcases h.kind with ⟨k1,k2,k3,k4,k5,k6,k7,k8⟩ | ⟨k1,k2,k3,k4,k5,k6,k7,k8⟩
 ·simp only at k1 k2 k3 k4 k5 k6 k7 k8;subst k1 k4 k5 k6 k7 k8;obtain⟨d1,d2⟩:=ZD k2.1 k2.2;have e1:(ps.map (qq n)).all wH=true:=by
   rw[As];intro w hw;obtain⟨p,hp,rfl⟩:=An.1 hw;exact Zh0 n p h1
  have e2:((ps.map (qq n)).all λw=>decide ((w.length:Int)=n))=true:=by
   rw[As];intro w hw;obtain⟨p,hp,rfl⟩:=An.1 hw;simp[WE]
  have e3:(ps.map (qq n)).map jW=ps:=by
   rw[BW];refine(AK λp hp=>?_).trans (C4 _);exact ZrA n p h1 hn (k3 p hp)
  unfold qr;rw[if_pos rfl]
  show QC n (zV dm :: ps.map (qq n))=_
  rw[ZcW,if_pos ⟨d1,e1⟩,e2];simp only[Yg,e3,d2]
 ·simp only at k1 k2 k3 k4 k5 k6 k7 k8;subst k1 k2 k3;obtain⟨a1,a2⟩:=ZD k4.1 k4.2;obtain⟨b1,b2⟩:=ZD k5.1 k5.2;obtain⟨c1,c2⟩:=ZD k6.1 k6.2;obtain⟨d1,d2⟩:=ZD k8.1 k8.2;have e1:(jB [zV ra,zV si,zV st,zV ho]).isSome=true:=by
   rw[WD (by intro w hw;simp only[Aq,A4,or_false]at hw;rcases hw with rfl | rfl | rfl | rfl<;>assumption)];rfl
  have hcw:x8 n (qr n ⟨2,0,[],ra,si,st,ru,ho⟩)=(YU [zV ra,zV si,zV st,if ru=2 then uH else uh,zV ho]).map (·,true):=rfl;rw[hcw,ZcX];rcases k7 with k7 | k7
  ·subst k7;rw[if_pos ⟨e1,.inl (if_neg (by decide))⟩,show (if (1:Int)=2 then uH else uh)=uh from rfl];simp only[A3,a2,b2,c2,d2];rfl
  ·subst k7;rw[if_pos ⟨e1,.inr (if_pos rfl)⟩,show (if (2:Int)=2 then uH else uh)=uH from rfl];simp only[A3,a2,b2,c2,d2];rfl
theorem Xs{α:Type}(a b:List α)(d:α)(k:Nat)(h:a.length=k)(i:Nat):(a++b).getD (k+i) d=b.getD i d:=by
 rw[Aa,Ak (by omega),Aa,show k+i-a.length=i by omega]
theorem Zh1{α:Type}(l m:List α)(d:α):(List.range l.length).map (λi=>(l++m).getD i d)=l:=by
 apply Bb
 ·simp
 ·intro i h1 h2;simp[Aa,Al h2,Ad h2]
theorem ZrC{x:Inst}{n:Nat}(h:InstT x n):YV (jC x)=some (x,true):=by
 obtain⟨dy,ve,ca,le,cu,di⟩:=x;obtain⟨h1,h2,h3,⟨h4,h5,h6⟩,h7,h8,h9,h10⟩:=h;simp only at h1 h4 h5 h6 h7 h8 h9 h10;subst h1;obtain⟨d1,d2⟩:=ZD (z:=(n:Int)) (by omega) (by omega);obtain⟨v1,v2⟩:=ZD h4.1 h4.2;obtain⟨c1,c2⟩:=ZD h5.1 h5.2;obtain⟨l1,l2⟩:=ZD h6.1 h6.2;have m1:=Zhk cu.length h7;have hW:jC ⟨n,ve,ca,le,cu,di⟩=[xV,[49]] :: [xW,zV n,xX,zV ve,xY,zV ca,xZ,zV le] :: [x7,z8 cu.length] :: (cu.map (qr n)++[jo] :: di.map (λr:List Int=>r.map zV)):=rfl;rw[hW];generalize hls:[xV,[49]] :: [xW,zV n,xX,zV ve,xY,zV ca,xZ,zV le] :: [x7,z8 cu.length] :: (cu.map (qr n)++[jo] :: di.map (λr:List Int=>r.map zV))=ls;have hls3:ls=[[xV,[49]],[xW,zV n,xX,zV ve,xY,zV ca,xZ,zV le],[x7,z8 cu.length]]++(cu.map (qr n)++[jo] :: di.map (λr:List Int=>r.map zV)):=by rw[<-hls];rfl
 have q0:zO ls 0=[xV,[49]]:=by rw[<-hls];rfl
 have q1:zO ls 1=[xW,zV n,xX,zV ve,xY,zV ca,xZ,zV le]:=by rw[<-hls];rfl
 have q2:zO ls 2=[x7,z8 cu.length]:=by rw[<-hls];rfl
 have q3:yW ls 3 cu.length=cu.map (qr n):=by
  unfold yW zO;rw[hls3];have:(List.range cu.length).map (λi=>([[xV,[49]],[xW,zV n,xX,zV ve,xY,zV ca,xZ,zV le],[x7,z8 cu.length]]++(cu.map (qr n)++[jo] :: di.map (λr:List Int=>r.map zV))).getD (3+i) [])=(List.range (cu.map (qr n)).length).map λi=>(cu.map (qr n)++[jo] :: di.map (λr:List Int=>r.map zV)).getD i []:=by
   rw[List.length_map];refine AK λi _=>?_
   exact Xs _ _ _ 3 rfl i
  rw[this,Zh1]
 have q4:zO ls (3+cu.length)=[jo]:=by
  unfold zO;rw[hls3,Xs _ _ _ 3 rfl];have:=Xs (cu.map (qr n)) ([jo] :: di.map (λr:List Int=>r.map zV)) [] cu.length (by simp) 0;rw[Bm]at this;rw[this];rfl
 have q5:yW ls (4+cu.length) (cu.length+1)=di.map (λr:List Int=>r.map zV):=by
  unfold yW zO;have:(List.range (cu.length+1)).map (λi=>ls.getD (4+cu.length+i) [])=(List.range (di.map (λr:List Int=>r.map zV)).length).map λi=>(di.map (λr:List Int=>r.map zV)++[]).getD i []:=by
   rw[List.length_map,h9];refine AK λi _=>?_
   rw[hls3,show 4+cu.length+i=3+(cu.length+(1+i)) by omega,Xs _ _ _ 3 rfl,Xs _ _ _ cu.length (by simp),AF];have:=Xs [[jo]] (di.map (λr:List Int=>r.map zV)) [] 1 rfl i;exact this
  rw[this,Zh1]
 have q6:ls.length=5+2*cu.length:=by rw[hls3];simp;omega
 have n1:yV (zO ls 1) [xW,xX,xY,xZ]=some [(n:Int),ve,ca,le]:=by
  rw[q1];unfold yV;rw[if_pos (by simp[Jo,AO]),WD (by intro w hw;simp[xz,AO]at hw;rcases hw with rfl | rfl | rfl | rfl<;>assumption)];simp[xz,AO,d2,v2,c2,l2]
 have n2:yV (zO ls 2) [x7]=some [(cu.length:Int)]:=by
  rw[q2];unfold yV;rw[if_pos (by simp[Jo,AO]),WD (by intro w hw;simp[xz,AO]at hw;rw[hw,m1];rfl)];simp[xz,AO,yQ,m1]
 have hc:∀c∈cu,x8 n (qr n c)=some (c,true):=λc hc=>ZrB h2 h3 (h8 c hc)
 have r1:(cu.map (qr n)).all (λl=>(x8 n l).isSome)=true:=by
  rw[As];intro l hl;obtain⟨c,hcm,rfl⟩:=An.1 hl;rw[hc c hcm];rfl
 have hrow:∀r∈di,(jB (r.map zV)).isSome=true/\(r.map zV).map yQ=r:=by
  intro r hr;have hz:=(h10 r hr).2;refine⟨?_,?_⟩
  ·rw[WD];rfl;intro w hw;obtain⟨z,hzm,rfl⟩:=An.1 hw;exact(ZD (hz z hzm).1 (hz z hzm).2).1
  ·rw[BW];refine(AK λz hzm=>?_).trans (C4 _);exact(ZD (hz z hzm).1 (hz z hzm).2).2
 have r2:(di.map (λr:List Int=>r.map zV)).all (vg (cu.length+1))=true:=by
  rw[As];intro l hl;obtain⟨r,hr,rfl⟩:=An.1 hl;simp[vg,(hrow r hr).1,(h10 r hr).1]
 have tn:((cu.length:Nat):Int).toNat=cu.length:=by simp
 unfold YV;rw[if_pos q0,n1];simp only;rw[n2];simp only[tn,q3,q5,q4];rw[if_pos ⟨r1,trivial,r2,q6⟩];have e1:(cu.map (qr n)).map (λl=>(vf n l).1)=cu:=by
  rw[BW];refine(AK λc hcm=>?_).trans (C4 _);simp only[Function.comp_apply,vf,hc c hcm];rfl
 have e2:(di.map (λr:List Int=>r.map zV)).map (λl=>l.map yQ)=di:=by
  rw[BW];refine(AK λr hr=>?_).trans (C4 _);exact(hrow r hr).2
 have e3:((cu.map (qr n)).all λl=>(vf n l).2)=true:=by
  rw[As];intro l hl;obtain⟨c,hcm,rfl⟩:=An.1 hl;simp only[vf,hc c hcm];rfl
 rw[e1,e2,e3]
theorem ZrD:∀w∈[xV,xW,xX,xY,xZ,x7,vO,QB,uh,uH,jo,[49]],Zx w:=by
 intro w hw;rw[<-Zad];revert w;decide
theorem ZrE(n p:Nat)(h:1<=n):Zx (qq n p):=by
 have:=Zh0 n p h;simp only[wH,Au,decide_eq_true_eq,As]at this;exact⟨this.1,λc hc=>by have:=this.2 c hc;omega⟩
theorem ZrF{x:Inst}{n:Nat}(h:InstT x n):(∀l∈jC x,l≠[])/\∀l∈jC x,∀w∈l,Zx w:=by
 have A:∀w,w∈[xV,xW,xX,xY,xZ,x7,vO,QB,uh,uH,jo,[49]]->Zx w:=ZrD;have hn1:=h.n1;have hnd:x.days.toNat=n:=by have:=h.days;omega
 constructor
 ·intro l hl;simp only[jC,Aq,AC,An]at hl;rcases hl with rfl | rfl | rfl | ⟨c,hc,rfl⟩ | rfl | ⟨r,hr,rfl⟩
  ·simp
  ·simp
  ·simp
  ·unfold qr;split<;>simp
  ·simp
  ·intro e;have:=(h.row r hr).1;rw[List.map_eq_nil_iff]at e;rw[e]at this;simp at this
 ·intro l hl w hw;simp only[jC,Aq,AC,An]at hl;rcases hl with rfl | rfl | rfl | ⟨c,hc,rfl⟩ | rfl | ⟨r,hr,rfl⟩
  ·exact A w (by simp only[Aq,A4,or_false]at hw;rcases hw with rfl | rfl<;>simp)
  ·simp only[Aq,A4,or_false]at hw;rcases hw with rfl | rfl | rfl | rfl | rfl | rfl | rfl | rfl
   all_goals first | exact Qr _ | exact A _ (by simp)
  ·simp only[Aq,A4,or_false]at hw;rcases hw with rfl | rfl
   ·exact A _ (by simp)
   ·exact Qr _
  ·unfold qr at hw;split at hw
   ·simp only[Aq,An]at hw;rcases hw with rfl | rfl | ⟨p,hp,rfl⟩
    ·exact A _ (by simp)
    ·exact Qr _
    ·rw[hnd];exact ZrE n p hn1
   ·simp only[Aq,A4,or_false]at hw;rcases hw with rfl | rfl | rfl | rfl | rfl | rfl
    ·exact A _ (by simp)
    ·exact Qr _
    ·exact Qr _
    ·exact Qr _
    ·split
     ·exact A _ (by simp)
     ·exact A _ (by simp)
    ·exact Qr _
  ·simp only[Aq,A4,or_false]at hw;rw[hw];exact A _ (by simp)
  ·obtain⟨z,_,rfl⟩:=An.1 hw;exact Qr _
theorem ZrG{x:Inst}{n:Nat}(h:InstT x n)(hm:qV x=true):qp (qm (jC x))=(x,0):=by
 obtain⟨h1,h2⟩:=ZrF h;unfold qp;rw[Zqh h1 h2];simp only;rw[ZrC h];simp only;rw[if_pos ⟨trivial,hm⟩]
open Go Go.Proofs
abbrev vk:PV:=.sc (.slice none 0 0)
def vn(o:Option (List Int)):PV:=match o with
 | none=>.tup [vk,B false]
 | some l=>.tup [L l,B true]
theorem ZrH(l:List (List UInt8))(hl:l.length<=1048576)(hw:∀w∈l,w.length<=1099511627776):Pure prog 192 [L (l.map bs),.fn (.func 109) [] []] (vn (jB l)):=by
 obtain⟨zs,hzs⟩:∃zs:List Int,zs=l.map yQ:=⟨_,rfl⟩;have hzl:zs.length=l.length:=by rw[hzs,List.length_map]
 have hwl:(l.map bs).length=l.length:=by simp
 have hat:∀(k:Nat) (w:List UInt8),l[k]?=some w->zs[k]?=some (yQ w)/\(l.map bs)[k]?=some (bs w):=λk n e=>⟨by rw[hzs,Aj,e];rfl,by rw[Aj,e];rfl⟩
 have hres:(∀w∈l,(jV w).isSome=true)->jB l=some zs:=λh=>by rw[WD h,hzs]
 generalize l.map bs=ws at *;refine zt Tryz.func192 Tryz.ntmps192 Tryz.results192 λS nx hd=>?_
 refine za (zb ?_);refine za (zb ?_);refine⟨by omega,λv0=>?_⟩
 repeat apply za
 refine zb ?_;refine zj (zD (λs:Nat × Nat × List PV=>(s.1<=zs.length/\∀w∈l.take s.1,(jV w).isSome=true)/\s.2.2.take s.1=(zs.take s.1).flatMap Enc.enc/\s.1<=s.2.2.length/\(0<s.1->s.2.2.length=s.1)/\(zs.length=0->s.2.2=[])) (λ(k,w,cs)=>[(1,.fn (.func 109) [] []),(6,.sl nx w 1 0 k),(14,L ws),(15,I ws.length),(16,I k)]) (λ(k,w,cs)=>[.cells w 3 cs]) (λs=>zs.length-s.1) (0,v0,_) [] ⟨⟨by simp,by simp⟩,by simp,by simp,λh=>absurd h (CP _),?_⟩ (by simp) rfl ?_)
 ·intro h;have:ws.length=0:=by omega
  simp[this,yY]
 rintro⟨k,w,cs⟩ ⟨⟨hk,hso⟩,hcs,hkl,hk1,hk0⟩;simp only at hk hso hcs hkl hk1 hk0 ⊢;refine za (zb ?_);refine za (zv rfl (λhc=>?_) (λhc=>?_))
 ·simp at hc;obtain⟨u,hu1⟩:∃u,l[k]?=some u:=⟨_,Ad (by omega)⟩;obtain⟨g1,g2⟩:=hat k u hu1;obtain⟨t,tl,b1,b2,b3,f0⟩:=zF rfl ws k hc;obtain rfl:t=bs u:=by rw[b1]at g2;exact Option.some.inj g2
  have hnum:=Zhn u (hw u (Ab hu1));refine zh (za (zj (za (ze [] (zo f0 hc) ?_))));cases hz:jV u with
  | none =>
   rw[hz]at hnum;simp only[Xk]at hnum;refine za (zb ?_);refine zr hnum ?_
   repeat apply za
   refine zb ?_;refine zn (by simp) ?_;refine za (zb ?_);exact zg (zi hd (by simp;rfl) (by rw[Zry hu1 hz];rfl))
  | some n =>
   rw[hz]at hnum;simp only[Xk]at hnum;have hnv:yQ u=n:=by unfold yQ;rw[hz];rfl
   rw[hnv]at g1;have hnx:(zs.take (k+1)).flatMap Enc.enc=cs.take k++[I n]:=by rw[hcs,AN,g1,Av];rfl
   have hso':∀w∈l.take (k+1),(jV w).isSome=true:=by
    rw[AN,hu1];intro w hw;rw[AC]at hw;rcases hw with hw | hw
    ·exact hso w hw
    ·obtain rfl:w=u:=by simpa using hw
     rw[hz];rfl
   refine za (zb ?_);refine zr hnum ?_
   repeat apply za
   refine zb ?_;refine zm rfl (zh (ze [] hkl ?_));refine⟨by omega,?_⟩;refine zb ?_;exact zq (k+1,w+1,cs.take k++[I n]) [] ⟨⟨by simp;omega,hso'⟩,by rw[hnx];exact Af (by simp;omega),by simp;omega,λ_=>by simp;omega,λh=>by omega⟩ (by simp;omega) (by simp[zu k (by omega)]) rfl (by simp)
 ·simp at hc;obtain rfl:k=zs.length:=by omega
  rw[Af (by omega)]at hso;have hcl:cs.length=zs.length:=by
   rcases BR zs.length with h | h
   ·rw[hk0 h,h];rfl
   ·exact hk1 h
  have hcz:cs=zs.flatMap Enc.enc:=by
   rw[Ao,Af (by omega)]at hcs;exact hcs
  refine zy (yb 0 rfl ?_);refine za (ze [] hcl ?_);exact zg (zi hd (by simp;rfl) (by simp[zp,hcz,hres hso,vn]))
theorem ZcY(l:List (List UInt8))(hl:l.length<=1048576)(hw:∀w∈l,w.length<=1099511627776):Pure prog 144 [L (l.map bs)] (vn (jB l)):=by
 have h:=ZrH l hl hw;cases hz:jB l with
 | none =>
  rw[hz]at h;simp only[vn]at h ⊢;refine zt Tryz.func144 Tryz.ntmps144 Tryz.results144 λS nx hd=>?_
  refine za (zb ?_);refine za (zb ?_);refine zr h ?_;exact zg (zi hd (by simp;rfl) rfl)
 | some z =>
  rw[hz]at h;simp only[vn]at h ⊢;refine zt Tryz.func144 Tryz.ntmps144 Tryz.results144 λS nx hd=>?_
  refine za (zb ?_);refine za (zb ?_);refine zr h ?_;exact zg (zi hd (by simp;rfl) rfl)
open Go Go.Proofs
theorem ZrI{P:Program}{f:FuncId}{v:Value}(vs:List Value)(hE:qj P f)(h:∀w,Calls P f vs.toArray w λe w'=>e=.returned v/\w'=w):Pure P f (vs.map .sc) (.sc v):=by
 intro S;refine⟨hE,λC w us hS hl hr=>?_⟩;have hus:us=vs.toArray:=by
  apply Array.ext
  ·simpa using hl.symm
  ·intro i h1 h2;have hi:i<vs.length:=by simpa using h2
   have:=hr i (.sc vs[i]) us[i] (by simp[hi]) (AL h1);generalize us[i]=u at this;cases this;simp
 subst hus;refine(h w).mono ?_;rintro e w' ⟨rfl,rfl⟩;exact⟨_,_,S,C,rfl,⟨rfl,rfl⟩,.sc _,hS,.refl _ _ _⟩
theorem Zh2(s:List UInt8)(c:UInt8):Pure prog 222 [T (bs s),T (bs [c])] (I (Lib.indexByte s c)) :=
 ZrI [.string (bs s),.string (bs [c])] ZkL λw=>Tryz.stringslite_Index_one (bs s) c w
theorem Zh3(a b:List UInt8)(c:UInt8)(h:c ∉ a):Lib.indexByte (a++c :: b) c=a.length:=by
 induction a with
 | nil=>simp[Lib.indexByte]
 | cons x a ih =>
  rw[Aq,not_or]at h;have hx:(x == c)=false:=by simpa using λe=>h.1 e.symm
  have hi:=ih h.2;simp only[List.cons_append,Lib.indexByte,hx,hi];have:((a.length:Int) == -1)=false:=by simp
  simp[this]
theorem Zas(l:List UInt8)(i j:Nat):(bs l).extract i j=bs ((l.take j).drop i):=by
 apply ByteArray.ext;simp[bs,ByteArray.data_extract,List.extract_toArray,List.drop_take]
theorem ZrJ(a b:List UInt8)(c:UInt8)(h:c ∉ a)(hl:(a++c :: b).length<=4611686018427387904):Pure prog 189 [T (bs (a++c :: b)),T (bs [c])] (.tup [T (bs a),T (bs b),B true]):=by
 have hI:=Zh2 (a++c :: b) c;rw[Zh3 a b c h]at hI;have hx1:(bs (a++c :: b)).extract 0 a.length=bs a:=by rw[Zas];simp
 have hx2:(bs (a++c :: b)).extract (a.length+1) (bs (a++c :: b)).size=bs b:=by
  rw[Zas,wE,Ao,show a++c :: b=(a++[c])++b by simp,List.drop_left' (by simp)]
 have hsz:(bs (a++c :: b)).size=a.length+1+b.length:=by rw[wE];simp;omega
 have hs1:(bs [c]).size=1:=rfl;rw[hsz]at hx2;have hw:W ((a.length:Int)+1)=((a.length+1:Nat):Int):=zu _ (by simp at hl;omega);generalize bs (a++c :: b)=X at *;generalize bs [c]=Y at *;generalize a.length=n at *;refine zt Tryz.func189 Tryz.ntmps189 Tryz.results189 λS nx hd=>?_
 refine za (zb ?_)
 repeat apply za
 refine zb ?_;refine zr hI ?_;refine za (zb ?_);refine zn (by simp) ?_;have hb1:n<=n+1+b.length:=by omega
 have hb2:n+1<=n+1+b.length:=by omega
 have hb3:(0:Int)<=(n:Int)+1:=by omega
 refine za (zz none (Row.pures [0,1,2,3,4,5,6,7,8,9,10,11] .done) mixed (yl hx1 hx2 hsz hs1 hw (zE hb1 hb2 hb3)) ?_);exact zg (zi hd (by simp;rfl) rfl)
theorem Zh4(a:List UInt8)(c:UInt8)(h:c ∉ a):Lib.indexByte a c=-1:=by
 induction a with
 | nil=>rfl
 | cons x a ih =>
  rw[Aq,not_or]at h;have hx:(x == c)=false:=by simpa using λe=>h.1 e.symm
  simp[Lib.indexByte,hx,ih h.2]
theorem ZrK(a:List UInt8)(c:UInt8)(h:c ∉ a):Pure prog 189 [T (bs a),T (bs [c])] (.tup [T (bs a),T (bs []),B false]):=by
 have hI:=Zh2 a c;rw[Zh4 a c h]at hI;generalize bs a=X at *;generalize bs [c]=Y at *;refine zt Tryz.func189 Tryz.ntmps189 Tryz.results189 λS nx hd=>?_
 refine za (zb ?_)
 repeat apply za
 refine zb ?_;refine zr hI ?_;refine za (zb ?_);refine zm (by simp) ?_;refine zh (za (zb ?_));exact zg (zi hd rfl rfl)
def ZcZ(c:UInt8)(s:List UInt8):PV:=match xk c s with
 | some (a,b)=>.tup [T (bs a),T (bs b),B true]
 | none=>.tup [T (bs s),T (bs []),B false]
theorem ZrL(s:List UInt8)(c:UInt8)(hl:s.length<=4611686018427387904):Pure prog 136 [T (bs s),T (bs [c])] (ZcZ c s):=by
 unfold ZcZ;cases hcw:xk c s with
 | none =>
  have hc:=ZrK s c (ZcB hcw);simp only[];refine zt Tryz.func136 Tryz.ntmps136 Tryz.results136 λS nx hd=>?_
  refine za (zb ?_);refine za (zb ?_);refine zr hc ?_;exact zg (zi hd (by simp;rfl) rfl)
 | some p =>
  obtain⟨a,b⟩:=p;obtain⟨rfl,hna⟩:=Xj hcw;have hc:=ZrJ a b c hna hl;simp only[];clear hcw;refine zt Tryz.func136 Tryz.ntmps136 Tryz.results136 λS nx hd=>?_
  refine za (zb ?_);refine za (zb ?_);refine zr hc ?_;exact zg (zi hd (by simp;rfl) rfl)
theorem Zh5(c:UInt8):∀(k:Nat) (s:List UInt8),s.count c<=k->Lib.splitB (bs [c]) 0 k (bs s)=(yI c s).map bs
 | k,s,hk=>by
  rw[Zqb];cases h:xk c s with
  | none =>
   have hn:Lib.indexB (bs s) (bs [c])=-1:=(Lib.index_one s c).trans (Zh4 s c (ZcB h));rw[Lib.splitB_miss _ _ _ _ hn];rfl
  | some p =>
   obtain⟨a,b⟩:=p;obtain⟨rfl,hna⟩:=Xj h;have hn:Lib.indexB (bs (a++c :: b)) (bs [c])=a.length:=(Lib.index_one _ c).trans (Zh3 a b c hna);rw[CZ,List.count_cons_self]at hk
   match k,hk with
   | k+1,hk =>
   have ih:=Zh5 c k b (by omega);have hs1:(bs [c]).size=1:=rfl;rw[Lib.splitB_hit _ _ _ _ _ hn,hs1,Zas,Zas,wE,Ao,show a++c :: b=(a++[c])++b by simp,List.drop_left' (by simp),ih]
   show bs ((a++[c]++b).take a.length) :: (yI c b).map bs=bs a :: (yI c b).map bs
   rw[List.append_assoc,DI rfl]
theorem ZrM(c:UInt8)(s:List UInt8):(yI c s).length=s.count c+1:=by
 induction s with
 | nil=>rfl
 | cons x s ih =>
  rw[ZcC]
  by_cases e:x=c
  ·subst e;rw[if_pos rfl,Ae,ih,List.count_cons_self]
  ·rw[if_neg e,List.count_cons_of_ne (λh=>e h),<-ih];cases h:yI c s with
   | nil=>exact absurd h (Zac c s)
   | cons a l=>rfl
theorem ZrN(s:List UInt8)(c:UInt8)(hl:s.length<=1048576):Pure prog 190 [T (bs s),T (bs [c]),I 0,I (-1)] (L ((yI c s).map bs)):=by
 intro S;refine⟨ZkI,λC w us hS hl' hr=>?_⟩;obtain⟨u0,u1,u2,u3,rfl⟩:∃a b c d,us=#[a,b,c,d]:=by
  match us,hl' with
  | ⟨[a,b,c,d]⟩,_=>exact⟨a,b,c,d,rfl⟩
 have hsz1:(bs [c]).size=1:=rfl;have r0:=hr 0 _ u0 rfl rfl;have r1:=hr 1 _ u1 rfl rfl;have r2:=hr 2 _ u2 rfl rfl;have r3:=hr 3 _ u3 rfl rfl;cases r0;cases r1;cases r2;cases r3;have hcb:Lib.countB (bs s) (bs [c])=s.count c:=Lib.count_one c s;have hcl:s.count c<=s.length:=List.count_le_length;have main:=Any.strings_genSplit_core Tryz.lays221 (by kernel_rfl) (bs s) (bs [c]) 0 (-1) (s.count c+1) w (by rw[wE];omega) (by rw[hsz1];exact Ag _) (Cs _)
  (λx ce _=>(Tryz.strings_Index_one x c _).mono λe w' h=>⟨by rw[h.1];exact congrArg _ (congrArg _ (Lib.index_one _ c).symm),h.2⟩)
  ((Tryz.strings_Count_one (bs s) c w).mono λe w' h=>⟨by rw[h.1,hcb];rfl,h.2⟩)
  (by decide) (by decide) (by rw[if_pos (by decide),hcb,wE];omega)
 rw[Cc,Zh5 c _ s (Ag _)]at main;refine main.mono ?_;rintro e w' ⟨rfl,rfl⟩;obtain⟨t1,t2,t3⟩:=hS.alloc (.cells (Lib.cellsOf ((yI c s).map bs) (s.count c+1)) (Tryz.lays221_ren.t 9));have hlen:((yI c s).map bs).length=s.count c+1:=by rw[List.length_map];exact ZrM c s
 refine⟨_,_,S,C,rfl,⟨rfl,rfl⟩,?_,t1,t2⟩;clear main hcb;generalize (yI c s).map bs=l at *;generalize hN:s.count c+1=N at *;have hcells:Lib.cellsOf l N=(l.map Value.string).toArray:=by unfold Lib.cellsOf;rw[hlen,Bw];simp
 have hfl:l.flatMap Enc.enc=l.map T:=by
  clear hcells hlen t1 t2
  induction l with
  | nil=>rfl
  | cons x l ih=>rw[AA,ih];rfl
 rw[hcells]at t1 t2 ⊢;unfold L;rw[hfl];refine .lst1 (by omega) (by unfold jq;omega) (Yt w _) t3 (λ_=>by simp) (λi v hi hv=>?_) (λi p v hp hv=>?_)
 ·rw[AD,AR,Aj]at hv;obtain⟨x,_,rfl⟩:=Ap.1 hv;rfl
 ·rw[AD,AR,Aj]at hv;rw[Aj]at hp;obtain⟨x,hx,rfl⟩:=Ap.1 hv;rw[hx]at hp;cases hp;exact .sc _
theorem ZrO(s:List UInt8)(c:UInt8)(hl:s.length<=1048576):Pure prog 137 [T (bs s),T (bs [c])] (L ((yI c s).map bs)):=by
 have h:=ZrN s c hl;refine zt Tryz.func137 Tryz.ntmps137 Tryz.results137 λS nx hd=>?_
 refine za (zb ?_);refine za (zb ?_);refine zr h ?_;exact zg (zi hd (by simp;rfl) rfl)
open Go Go.Proofs
abbrev wl(ls:List (List (List UInt8))):List (List ByteArray):=ls.map (·.map bs)
def Zat(o:Option (List (List (List UInt8)))):PV:=match o with
 | none=>.tup [vk,I 2]
 | some ls=>.tup [L (wl ls),I 0]
theorem Zc0(a:ByteArray):jQ .neq a a=some (.bool false):=by simp[jQ]
theorem Zc1{a b:ByteArray}(h:a≠b):jQ .neq a b=some (.bool true):=by
 have h2:¬a.toList=b.toList:=λe=>h (ZcE e)
 simp[jQ,h2]
theorem ZrP(t:List UInt8)(hl:t.length<=1048576):Pure prog 101 [T (bs t)] (Zat (xS t)):=by
 refine zt Tryz.func101 Tryz.ntmps101 Tryz.results101 λS nx hd=>?_
 refine za (zb ?_);refine za (zb ?_);refine za (jf 4 81 1 rfl λv1=>?_);refine zj (zD (λs:List UInt8 × List (List (List UInt8)) × Nat=>s.1.length<=t.length/\s.2.1.length+s.1.length<=t.length/\xS t=(xS s.1).map (s.2.1++·)) (λ(r,ls,v)=>[(0,T (bs r)),(4,.sl nx v 1 0 ls.length)]) (λ(r,ls,v)=>[.cells v 81 ((wl ls).flatMap Enc.enc)]) (λs=>s.1.length) (t,[],v1) [] ⟨Ag _,by simp,by simp⟩ (by simp) (by simp) ?_);rintro⟨r,ls,v1⟩ ⟨hr,hlr,hz⟩;simp only at hr hlr hz ⊢;have hrl:r.length<=1048576:=by omega
 by_cases h0:r=[]
 ·subst h0
  repeat apply za
  refine ze [] Zc0 ?_;refine zm (by simp) ?_;refine zy (yb 0 rfl ?_);refine za (zb ?_);rw[Wv]at hz;exact zg (zi hd (by simp;rfl) (by simp[zp,hz,Zat]))
 ·have hne:bs r≠bs []:=λh=>h0 (Zhm.1 h)
  have hcut:=ZrL r 10 (by omega);unfold ZcZ at hcut
  repeat apply za
  refine ze [] (Zc1 hne) ?_;refine zn (by simp) ?_;refine zh (zj ?_);cases hcw:xk 10 r with
  | none =>
   rw[hcw]at hcut;simp only[]at hcut;refine za (zb ?_);refine zr hcut ?_
   repeat apply za
   refine zb ?_;refine zn (by simp) ?_;refine za (zb ?_);exact zg (zi hd (by simp;rfl) (by rw[hz,Zhg h0 hcw];rfl))
  | some p =>
   obtain⟨a,b⟩:=p;rw[hcw]at hcut;simp only[]at hcut;have hlz:=Zae hcw;obtain⟨hrab,hna⟩:=Xj hcw;have hab:a.length+b.length+1=r.length:=by rw[hrab];simp;omega
   have hspl:=ZrO a 32 (by omega);have hsl:=Zqc 32 a;have hsw:∀w∈yI 32 a,w.length<=1048576:=λw hw=>by have:=Zqd 32 a w hw;omega
   obtain⟨ws,hws⟩:∃ws,ws=yI 32 a:=⟨_,rfl⟩;rw[<-hws]at hlz hspl hsl hsw;refine za (zb ?_);refine zr hcut ?_
   repeat apply za
   refine zb ?_;refine zm (by simp) ?_;refine zh (za (zb ?_));refine zr hspl ?_
   repeat apply za
   refine zb ?_;refine zj (zD (λk:Nat=>k<=ws.length/\∀w∈ws.take k,Zy w=true) (λk=>[(4,.sl nx v1 1 0 ls.length),(6,T (bs b)),(8,L (ws.map bs)),(23,L (ws.map bs)),(24,I ws.length),(25,I k)]) (λ_=>[.cells v1 81 ((wl ls).flatMap Enc.enc)]) (λk=>ws.length-k) 0 [] (by simp) (by simp) (by simp) ?_);rintro k ⟨hk,hwk⟩;refine za (zb ?_);refine za (zv rfl (λhc=>?_) (λhc=>?_))
   ·simp at hc;obtain⟨t',tl,b1,b2,b3,f0⟩:=zF rfl (ws.map bs) k (by simpa using hc);obtain⟨u,hu,rfl⟩:∃u,ws[k]?=some u/\bs u=t':=by rw[Aj]at b1;simpa using b1
    have hkl:k<ws.length:=by simpa using hc
    have hword:=Zqm u (by have:=hsw u (Ab hu);omega);refine zh (za (zj (za (ze [] (zo f0 hkl) ?_))));refine za (zb ?_);refine zr hword ?_;cases hwb:Zy u with
    | false =>
     refine zn (by simp) ?_;refine za (zb ?_);have hbad:xS r=none:=Zqf hcw (k:=k) (w:=u) (by rw[<-hws];exact hu) hwb;exact zg (zi hd (by simp;rfl) (by rw[hz,hbad];rfl))
    | true =>
     refine zm (by simp) ?_;refine zh (zb ?_);exact zq (k+1) [] ⟨hkl,by
      rw[AN,hu];intro w hw;rw[AC]at hw;rcases hw with hw | hw
      ·exact hwk w hw
      ·obtain rfl:w=u:=by simpa using hw
       exact hwb⟩ (by omega) (by simp[zu k (by omega)]) rfl (by simp)
   ·simp at hc;obtain rfl:k=ws.length:=by omega
    rw[Ao]at hwk;rw[if_pos (As.2 hwk)]at hlz;refine zy ?_;have hwl:(wl ls).length=ls.length:=by simp
    have htk:((wl ls).flatMap Enc.enc).take ls.length=(wl ls).flatMap Enc.enc:=by rw[<-hwl];exact Zko _
    refine za (ze [] hwl ?_);refine⟨by omega,?_⟩;refine zb ?_;rw[htk];have hb1:b.length<r.length:=by omega
    exact zq (b,ls++[ws],v1+1) [] ⟨AB (D0 hb1) hr,by simp;omega,by rw[hz,hlz,Option.map_map];congr 1;funext x;simp⟩ hb1 (by simp) rfl (by simp)
end Go.Proofs.YtcocagkbfpgmiaaGreatDoor.Pv
