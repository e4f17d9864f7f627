/- Part of a proof, packed. -/
import Derived.Test.YtcocagkbfpgmiaaGreatDoorP4
open Go.Proofs.Tryz
set_option maxRecDepth 100000
set_option maxHeartbeats 3200000
namespace Go.Proofs.YtcocagkbfpgmiaaGreatDoor.Pv
open Go
def WG(v:List Visit)(k:Nat):List Int:=(List.range k).map λ(d:Nat)=>((v.filter λs=>decide (s.d=(d:Int))).map (·.q)).sum
theorem ZqR(v:List Visit)(n:Int)(hv:VisOk v):Pure prog 87 [L v,I n] (L (z8 v n)):=by
 have hvn:=hv.n;have hres:z8 v n=WG v (min (max n 0) 64).toNat:=rfl;rw[hres];refine zr func87 ntmps87 results87 λS nx hd=>?_
 refine D7 ?_
 repeat apply za
 refine zb ?_;refine qz (nx:=nx) (σ:=Unit) (λ_=>True) (λ_=>[(0,L v),(1,I (min n 64))]) (λ_=>S) (λ_=>[]) ?_ ?_
 ·by_cases h:(64:Int)<n
  ·refine zm (by simp[h]) ?_;refine zb ?_;exact zT () [] trivial D2 rfl DZ
  ·refine zk D2 ?_;exact zh (zT () [] trivial D2 rfl DZ)
 intro _ _;generalize hm:(min (max n 0) 64).toNat=m;have hm64:m<=64:=DY
 have hcmp:∀k:Nat,((k:Int)<min n 64)=(k<m):=λk=>propext ⟨λh=>by omega,λh=>by omega⟩
 refine D7 ?_;refine qx 5 3 1 rfl λv1=>?_
 repeat apply za
 refine zb ?_;refine zj (zC (λs:Nat × List Int × Nat=>s.1<=m/\s.2.1=WG v s.1) (λ(k,out,v1)=>[(0,L v),(1,I (min n 64)),(5,.sl nx v1 1 0 out.length),(6,I k)]) (λ(k,out,v1)=>[.cells v1 3 (out.flatMap Enc.enc)]) (λs=>m-s.1) (0,[],v1) [] (by simp[WG]) DZ DZ ?_);rintro⟨k,out,v1⟩ ⟨hk,ho⟩;simp only at hk ho ⊢;have hol:out.length=k:=by rw[ho];simp[WG]
 by_cases hc:k<m
 ·repeat apply za
  refine ze [] (zo hcmp hc) ?_;refine zm DZ ?_;refine zh (za (zj (D7 ?_)))
  repeat apply za
  refine zb ?_;refine qz (nx:=nx) (σ:=Nat) (λ_=>True) (λv1=>[(0,L v),(1,I (min n 64)),(5,.sl nx v1 1 0 out.length),(6,I k),(7,I ((v.filter λs=>decide (s.d=(k:Int))).map (·.q)).sum)]) (λ_=>S) (λv1=>[.cells v1 3 (out.flatMap Enc.enc)]) ?_ ?_
  ·refine zj (zC (λs:Nat=>s<=v.length) (λj=>[(0,L v),(1,I (min n 64)),(5,.sl nx v1 1 0 out.length),(6,I k),(7,I (((v.take j).filter λs=>decide (s.d=(k:Int))).map (·.q)).sum),(8,I j)]) (λ_=>[.cells v1 3 (out.flatMap Enc.enc)]) (λs=>v.length-s) 0 [] DZ DZ DZ ?_);rintro j hj
   repeat apply za
   refine zb ?_;refine zv rfl (λhc2=>?_) (λhc2=>?_)
   ·simp at hc2;obtain⟨s,tl,a1,a2,a3,e1,e0⟩:=el 2 rfl v j hc2;have hsq:=hv.q s (Ab a1);have hlj:(v.take j).length<=1048576:=D2
    have hle:=Zhn (v.take j) (λs=>decide (s.d=(k:Int))) (λx hx=>hv.q x (Bq hx));have e11:=e1 1 DY;refine zh (za (zj ?_))
    by_cases h:s.d=(k:Int)
    ·have hsum:(((v.take j).filter λs=>decide (s.d=(k:Int))).map (·.q)).sum+s.q=(((v.take (j+1)).filter λs=>decide (s.d=(k:Int))).map (·.q)).sum:=by rw[a3];simp[h]
     refine za (ze [] (zD e0 hc2 h) ?_);refine zm DZ ?_;refine ze [] (zo e11 hc2) ?_;refine zt (ZqN _ _ hle.1 hsq.1 DY) ?_;refine zb ?_;exact zq (j+1) [] hc2 DY (by simp[zu j (by omega)];exact hsum) rfl DZ
    ·have hsum:(((v.take j).filter λs=>decide (s.d=(k:Int))).map (·.q)).sum=(((v.take (j+1)).filter λs=>decide (s.d=(k:Int))).map (·.q)).sum:=by rw[a3];simp[h]
     refine za (ze [] (zD e0 hc2 h) ?_);refine zk DZ ?_;refine zh (zb ?_);exact zq (j+1) [] hc2 DY (by simp[zu j (by omega)];exact hsum) rfl DZ
   ·simp at hc2;obtain rfl:j=v.length:=DY
    rw[Ai];exact zx (zT v1 [] trivial DZ rfl DZ)
  ·intro v1 _;refine zb ?_;refine⟨by omega,?_⟩;refine zb ?_;exact zq (k+1,out++[((v.filter λs=>decide (s.d=(k:Int))).map (·.q)).sum],v1+1) [] ⟨hc,by rw[ho];simp[WG,AH]⟩ D2 (by simp[zu k (by omega)]) rfl DZ
 ·obtain rfl:k=m:=DY
  repeat apply za
  refine ze [] hcmp ?_;refine zk DZ ?_;refine zx (D7 ?_);refine zX 0 rfl ?_;exact zg (zi hd D0 (by rw[ho];simp[zp]))
theorem ZqS(p:zA)(c:Int)(hp:PlanOk p):Pure prog 55 [.agg [L p],I c] (L (yf c (told 0 p))):=by
 have hlen:=hp.told;have ol:∀pre rest,told 0 p=pre++rest->(yf c pre).length<=1048576:=λpre rest e=>by
  have:=ZcQ c pre;have:=congrArg List.length e;simp at this;omega
 refine zr func55 ntmps55 results55 λS nx hd=>?_
 refine D7 ?_;intro v0;refine D7 ?_;refine za (qx 5 104 2 rfl λv1=>?_);refine D7 ?_;refine zj (zC (λs:Nat × List (Stop × Nat) × Nat=>s.1<=p.length/\told 0 p=s.2.1++told s.1 (p.drop s.1)) (λ(a,pre,v1)=>[(1,I c),(2,.ptr nx v0 0),(5,.sl (nx+1) v1 2 0 (yf c pre).length),(6,I a)]) (λ(a,pre,v1)=>[.cells v0 30 [L p],.cells v1 104 ((yf c pre).flatMap Enc.enc)]) (λs=>p.length-s.1) (0,[],v1) [] DZ (by simp[yf]) (by simp[yf]) ?_);rintro⟨a,pre,v1⟩ ⟨ha,hr⟩;simp only at ha hr ⊢;have hpn:=hp.n
 repeat apply za
 refine zb ?_;refine zv rfl (λhc=>?_) (λhc=>?_)
 ·simp at hc;obtain⟨d,tl,a1,a2,a3,e0⟩:=zF rfl p a hc;have hdm:=Ab a1;have hdl:=hp.d d hdm;rw[a2]at hr;simp only[told]at hr;refine zh (za (zj (D7 ?_)));refine zj (zC (λs:Nat × List (Stop × Nat) × Nat=>s.1<=d.length/\told 0 p=s.2.1++((d.drop s.1).flatten.map (·,a)++told (a+1) (p.drop (a+1)))) (λ(b,pre,v1)=>[(1,I c),(2,.ptr nx v0 0),(5,.sl (nx+1) v1 2 0 (yf c pre).length),(6,I a),(7,I b)]) (λ(b,pre,v1)=>[.cells v0 30 [L p],.cells v1 104 ((yf c pre).flatMap Enc.enc)]) (λs=>d.length-s.1) (0,pre,v1) [] (by simp[hr]) DZ DZ ?_);rintro⟨b,pre,v1⟩ ⟨hb,hr⟩;simp only at hb hr ⊢
  repeat apply za
  refine ze [] (zo e0 hc) ?_;refine zv rfl (λhc2=>?_) (λhc2=>?_)
  ·simp at hc2;obtain⟨t,tl2,b1,b2,b3,e2⟩:=zF rfl d b hc2;have htl:=hp.t d hdm t (Ab b1);rw[b2]at hr;simp only[BJ,List.map_append,List.append_assoc]at hr;refine zh (za (zj (za (ze [] (zN e0 hc e2 hc2) ?_))));refine D7 ?_;refine zj (zC (λs:Nat × List (Stop × Nat) × Nat=>s.1<=t.length/\told 0 p=s.2.1++((t.drop s.1).map (·,a)++((d.drop (b+1)).flatten.map (·,a)++told (a+1) (p.drop (a+1))))) (λ(j,pre,v1)=>[(1,I c),(2,.ptr nx v0 0),(5,.sl (nx+1) v1 2 0 (yf c pre).length),(6,I a),(7,I b),(8,L t),(9,I j)]) (λ(j,pre,v1)=>[.cells v0 30 [L p],.cells v1 104 ((yf c pre).flatMap Enc.enc)]) (λs=>t.length-s.1) (0,pre,v1) [] (by simp[hr]) DZ DZ ?_);rintro⟨j,pre,v1⟩ ⟨hj,hr⟩;simp only at hj hr ⊢
   repeat apply za
   refine zb ?_;refine zv rfl (λhc3=>?_) (λhc3=>?_)
   ·simp at hc3;obtain⟨s,tl3,c1,c2,c3,e4,e3⟩:=el 2 rfl t j hc3;have e31:=e4 1 DY;rw[c2]at hr;simp only[Az,List.cons_append]at hr;have hl:=ol pre _ hr;refine zh (za (zj ?_))
    by_cases h:s.c=c
    ·refine za (ze [] (zD e3 hc3 h) ?_);refine zm DZ ?_;refine ze [] (zo e31 hc3) ?_;refine⟨by omega,?_⟩;refine zb ?_;exact zq (j+1,pre++[(s,a)],v1+1) [] ⟨hc3,by simp[hr]⟩ D2 (by simp[zu j (by omega),QA,Xp,h]) rfl (by simp[QA,Xp,h])
    ·refine za (ze [] (zD e3 hc3 h) ?_);refine zk DZ ?_;refine zh (zb ?_);exact zq (j+1,pre++[(s,a)],v1) [] ⟨hc3,by simp[hr]⟩ D2 (by simp[zu j (by omega),QA,Xp,h]) rfl (by simp[QA,Xp,h])
   ·simp at hc3;obtain rfl:j=t.length:=DY
    simp only[BA,Bo,AK]at hr;refine zx (zb ?_);exact zq (b+1,pre,v1) [] ⟨hc2,hr⟩ D2 (by simp[zu b (by omega)]) rfl DZ
  ·simp at hc2;obtain rfl:b=d.length:=DY
   simp only[BA,List.flatten_nil,Bo,AK]at hr;refine zx (zb ?_);exact zq (a+1,pre,v1) [] ⟨hc,hr⟩ D2 (by simp[zu a (by omega)]) rfl DZ
 ·simp at hc;obtain rfl:a=p.length:=DY
  simp only[BA,told,AC]at hr;refine zx (D7 ?_);refine zX 1 rfl ?_;exact zg (zi hd D0 (by rw[hr];simp[zp]))
open Go
theorem ZqT(n d:Nat):((n:Int).fdiv (2 ^ d))=((n / 2 ^ d:Nat):Int):=by
 have h:(2:Int) ^ d=((2 ^ d:Nat):Int):=DZ
 rw[h,Int.fdiv_eq_ediv_of_nonneg _ (Int.natCast_nonneg _)];rfl
theorem ZqU(n:Nat)(d:Int)(hn:n<2 ^ 64):Pure prog 297 [U n,I d] (B (decide (0<=d/\d<64/\yI n d.toNat=1))):=by
 by_cases h:0<=d/\d<64
 ·have h1:¬d<0:=DY
  have h2:min d.toNat 64=d.toNat:=DY
  have hlt:n / 2 ^ d.toNat<=n:=Nat.div_le_self _ _;have h3:=ZqT n d.toNat;have hb:yI n d.toNat=n / 2 ^ d.toNat % 2:=rfl;generalize n / 2 ^ d.toNat=m at hlt h3 hb;have h4:=and_one_u64 (m:Int) DY DY;have h5:IntKind.u64.wrap (m:Int)=(m:Int):=by
   simp only[IntKind.wrap,IntKind.bits,IntKind.signed];simp;omega
  have h6:((m:Int) % 2=1)=(yI n d.toNat=1):=by rw[hb];exact propext ⟨λq=>by omega,λq=>by omega⟩
  refine zr func297 ntmps297 results297 λS nx hd=>?_
  refine D7 ?_;refine za (xx [(2,7)] D3 D3 λK Gc Gh hK hGc hGh X hX0 hX=>?_);simp -implicitDefEqProofs [hX0,hX]
  try clear hX0 hX X
  refine hGc _ _ _ _ _ _ _ λhsuf=>((ZcS d _).mono ?_).v
  rintro _ _ ⟨rfl,rfl⟩;refine⟨_,_,rfl,?_⟩;clear hGc hGh;clear Gc Gh;refine xZ hsuf (D:=[(2,7)]) D3 λGc Gh hGc hGh X hX0 hX=>?_
  simp -implicitDefEqProofs [hX0,hX,h,h1,h2,h3,h5,h4,IntKind.bits]
  try clear hX0 hX X
  refine hK _ _ _ ?_;clear hK hGc hGh;clear K Gc Gh;exact zg (zi hd D0 (by simp[h,zp,h6]))
 ·refine zr func297 ntmps297 results297 λS nx hd=>?_
  refine D7 ?_;refine za (ze [(2,7)] trivial ?_);refine qt [(2,7)] (ZcS d) (zo h zH) ?_;have h7:¬(0<=d/\d<64/\yI n d.toNat=1):=λq=>h ⟨q.1,q.2.1⟩
  exact zg (zi hd D0 (by simp only[h7,zp,decide_false]))
def yx(n a k:Nat):List Int:=((List.range k).filter λi=>decide (a<=i) && decide (yI n i=1)).map λ(i:Nat)=>(i:Int)
theorem Xs(n a k:Nat):(yx n a k).length<=k:=by
 simp only[yx,List.length_map];exact AD (BI _ _) DZ
theorem ZqV(n a k:Nat)(h:a<=k):yx n a (k+1)=yx n a k++(if yI n k=1 then [(k:Int)] else []):=by
 simp only[yx,AH,Bu,List.map_append]
 by_cases q:yI n k=1<;>simp[q,h]
theorem ZcY(n a k:Nat)(h:k<=a):yx n a k=[]:=by
 simp only[yx,List.map_eq_nil_iff,A8,AL];intro i hi;simp;omega
theorem Zhp(n:Nat)(d:Int)(hn:n<2 ^ 64)(hdl:d<=1000):Pure prog 296 [.fn (.func 297) [U n] [],I d] (L (yx n d.toNat 64)):=by
 have hmax:jm d 0=((d.toNat:Nat):Int):=by unfold jm;split<;>omega
 have h64:yx n d.toNat (max d.toNat 64)=yx n d.toNat 64:=by
  by_cases q:d.toNat<=64
  ·rw[Nat.max_eq_right q]
  ·rw[Nat.max_eq_left DY,ZcY _ _ _ (Ag _),ZcY _ _ _ DY]
 have ha:d.toNat<=1000:=DY
 have main:∀a:Nat,a<=1000->yx n a (max a 64)=yx n d.toNat 64->jm d 0=(a:Int)->Pure prog 296 [.fn (.func 297) [U n] [],I d] (L (yx n d.toNat 64)):=by
  intro a ha h64 hmax;refine zr func296 ntmps296 results296 λS nx hd=>?_
  refine D7 ?_;refine D7 ?_;refine za (qx 5 3 1 rfl λv1=>?_);refine za (ze [] hmax ?_);refine zj (zC (λs:Nat × List Int × Nat=>a<=s.1/\s.1<=max a 64/\s.2.1=yx n a s.1) (λ(k,out,v1)=>[(0,.fn (.func 297) [U n] []),(5,.sl nx v1 1 0 out.length),(6,I k)]) (λ(k,out,v1)=>[.cells v1 3 (out.flatMap Enc.enc)]) (λs=>max a 64-s.1) (a,[],v1) [] (by simp[ZcY];omega) DZ DZ ?_);rintro⟨k,out,v1⟩ ⟨hk0,hk,ho⟩;simp only at hk0 hk ho ⊢;have hol:out.length<=k:=by rw[ho];exact Xs _ _ _
  repeat apply za
  refine zb ?_;refine zv rfl (λhc=>?_) (λhc=>?_)
  ·simp at hc;have hc':k<64:=DY
   refine zh (za (zj (D7 ?_)));refine zt (ZqU n k hn) ?_;have hs:=ZqV n a k hk0;refine zv rfl (λhb=>?_) (λhb=>?_)
   ·simp at hb;refine zb ?_;refine⟨by omega,?_⟩;refine zb ?_;exact zq (k+1,out++[(k:Int)],v1+1) [] ⟨by omega,by omega,by rw[hs,if_pos hb.2,ho]⟩ D2 (by simp[zu k (by omega)]) rfl DZ
   ·have hb':¬yI n k=1:=by simp at hb;exact hb DY
    refine zh (zb ?_);exact zq (k+1,out,v1) [] ⟨by omega,by omega,by rw[hs,if_neg hb',ho];simp⟩ D2 (by simp[zu k (by omega)]) rfl DZ
  ·simp at hc;obtain rfl:k=max a 64:=DY
   refine zx (D7 ?_);refine zX 0 rfl ?_;exact zg (zi hd D0 (by simp[ho,h64,zp]))
 exact main d.toNat ha h64 hmax
def Yd(n:Nat)(d:Int):Int:=(yx n d.toNat 64).headD (-1)
theorem ZqW(n:Nat)(d:Int)(hn:n<2 ^ 64)(hdl:d<=1000):Pure prog 261 [U n,I d] (I (Yd n d)):=by
 have hlen:=Xs n d.toNat 64;refine zr func261 ntmps261 results261 λS nx hd=>?_
 refine D7 ?_;refine D7 ?_;refine zt (Zhp n d hn hdl) ?_;unfold Yd;generalize yx n d.toNat 64=l at hlen ⊢;cases l with
 | nil =>
  repeat apply za
  refine zb ?_;refine zm rfl (D7 ?_);exact D8 hd
 | cons a l =>
  have h1:¬((l.length:Int)+1=0):=DY
  repeat apply za
  refine ze [] h1 ?_;refine zk rfl (zh ?_);have h2:(0:Int)<(l.length:Int)+1:=DY
  refine za (ze [] h2 ?_);exact D8 hd
open Go
def yA(n lo hi:Int):Bool:=decide (lo<=n/\n<=hi)
theorem uQ(n lo hi:Int):Pure prog 145 [I n,I lo,I hi] (B (yA n lo hi)):=by
 refine zr func145 ntmps145 results145 λS nx hd=>?_
 refine D7 ?_
 by_cases h:lo<=n
 ·refine za (ze [(3,10)] h ?_);exact zg (zi hd D0 (by simp[yA,h,zp]))
 ·refine za (ze [(3,10)] (zo h zH) ?_);exact zg (zi hd D0 (by simp[yA,h,zp]))
abbrev uR(c:Cust)(days:Int):List PV:=[I c.kind,I c.demand,L c.pats,I c.rate,I c.size,I c.start,I c.rule,I c.hold,I days]
def ZC(c:Cust)(days:Int):Bool:=(c.pats.all λp=>decide (Yd p days<0)) && yA c.pats.length 1 64
def Zd(c:Cust):Bool:=decide (c.rate=0/\c.size=0/\c.start=0/\c.rule=0/\c.hold=0)
def QF(c:Cust):Bool:=decide (c.rule=1\/c.rule=2)
def YP(c:Cust):Bool:=decide (c.pats.length=0/\c.demand=0)
theorem ZqX(c:Cust)(d:Int):Pure prog 227 [.agg (uR c d)] (B (yA c.demand 1 2147483648)):=by
 refine zr func227 ntmps227 results227 λS nx hd=>?_
 refine D7 ?_;intro v0;refine D7 ?_;refine zt (uQ _ _ _) ?_;exact D8 hd
theorem ZqY(c:Cust)(d:Int):Pure prog 230 [.agg (uR c d)] (B (yA c.rate 0 2147483648)):=by
 refine zr func230 ntmps230 results230 λS nx hd=>?_
 refine D7 ?_;intro v0;refine D7 ?_;refine zt (uQ _ _ _) ?_;exact D8 hd
theorem ZqZ(c:Cust)(d:Int):Pure prog 231 [.agg (uR c d)] (B (yA c.size 1 2147483648)):=by
 refine zr func231 ntmps231 results231 λS nx hd=>?_
 refine D7 ?_;intro v0;refine D7 ?_;refine zt (uQ _ _ _) ?_;exact D8 hd
theorem Zq0(c:Cust)(d:Int):Pure prog 232 [.agg (uR c d)] (B (yA c.start 0 c.size)):=by
 refine zr func232 ntmps232 results232 λS nx hd=>?_
 refine D7 ?_;intro v0;refine D7 ?_;refine zt (uQ _ _ _) ?_;exact D8 hd
theorem Zq1(c:Cust)(d:Int):Pure prog 234 [.agg (uR c d)] (B (yA c.hold 0 1024)):=by
 refine zr func234 ntmps234 results234 λS nx hd=>?_
 refine D7 ?_;intro v0;refine D7 ?_;refine zt (uQ _ _ _) ?_;exact D8 hd
theorem Zq2(c:Cust)(d:Int):Pure prog 233 [.agg (uR c d)] (B (QF c)):=by
 refine zr func233 ntmps233 results233 λS nx hd=>?_
 refine D7 ?_;intro v0
 by_cases h:c.rule=1
 ·refine za (ze [(4,7)] (zo h zH) ?_);exact zg (zi hd D0 (by simp[QF,h,zp]))
 ·refine za (ze [(4,7)] h ?_);exact zg (zi hd D0 (by simp[QF,h,zp]))
theorem Zq3(c:Cust)(d:Int):Pure prog 235 [.agg (uR c d)] (B (YP c)):=by
 refine zr func235 ntmps235 results235 λS nx hd=>?_
 refine D7 ?_;intro v0
 by_cases h:c.pats=[]
 ·refine za (ze [(5,8)] h ?_);exact zg (zi hd D0 (by simp[YP,h,zp]))
 ·refine za (ze [(5,8)] (zo h zH) ?_);exact zg (zi hd D0 (by simp[YP,h,zp]))
theorem Zq4(c:Cust)(d:Int):Pure prog 229 [.agg (uR c d)] (B (Zd c)):=by
 refine zr func229 ntmps229 results229 λS nx hd=>?_
 refine D7 ?_;intro v0
 by_cases h1:c.rate=0
 ·by_cases h2:c.size=0
  ·by_cases h3:c.start=0
   ·by_cases h4:c.rule=0
    ·refine za (ze [(4,7),(10,13),(16,19),(22,25)] (zN h1 h2 h3 h4) ?_);exact zg (zi hd D0 (by simp[Zd,h1,h2,h3,h4,zp]))
    ·refine za (ze [(4,7),(10,13),(16,19),(22,25)] (yF h1 h2 h3 h4 zH) ?_);exact zg (zi hd D0 (by simp[Zd,h4,zp]))
   ·refine za (ze [(4,7),(10,13),(16,19),(22,25)] (zN h1 h2 h3 zH) ?_);exact zg (zi hd D0 (by simp[Zd,h3,zp]))
  ·refine za (ze [(4,7),(10,13),(16,19),(22,25)] (zD h1 h2 zH) ?_);exact zg (zi hd D0 (by simp[Zd,h2,zp]))
 ·refine za (ze [(4,7),(10,13),(16,19),(22,25)] (zo h1 zH) ?_);exact zg (zi hd D0 (by simp[Zd,h1,zp]))
theorem Zq5(c:Cust)(d:Int)(hp:∀p∈c.pats,p<2 ^ 64)(hl:c.pats.length<=9223372036854775807)(hdl:d<=1000):Pure prog 228 [.agg (uR c d)] (B (ZC c d)):=by
 refine zr func228 ntmps228 results228 λS nx hd=>?_
 refine D7 ?_;intro v0
 repeat apply za
 refine zb ?_;refine zj (zC (λs:Nat=>s<=c.pats.length/\∀p∈c.pats.take s,Yd p d<0) (λk=>[(1,.ptr nx v0 0),(7,L c.pats),(8,I c.pats.length),(9,I k)]) (λk=>[.cells v0 207 (uR c d)]) (λs=>c.pats.length-s) 0 [] DZ DZ DZ ?_);rintro k ⟨hk,ho⟩;simp only at hk ho ⊢;refine D7 ?_;refine za (zv rfl (λhc=>?_) (λhc=>?_))
 ·simp at hc;obtain⟨p,tl,a1,a2,a3,e0⟩:=zF rfl c.pats k hc;have hpm:=Ab a1;refine zh (za (zj (za (ze [] (zo e0 hc) ?_))));refine D7 ?_;refine zt (ZqW p d (hp p hpm) hdl) ?_;refine zv rfl (λh=>?_) (λh=>?_)
  ·simp at h;have hres:ZC c d=false:=by
    have:(c.pats.all λp=>decide (Yd p d<0))=false:=by
     rw[BY];exact⟨p,hpm,by simp;omega⟩
    simp[ZC,this]
   refine D7 ?_;exact zg (zi hd D0 (by simp[hres,zp]))
  ·simp at h;refine zh (zb ?_);exact zq (k+1) [] ⟨hc,by rw[a3];intro q hq;rcases AB.1 hq with hq | hq;exact ho q hq;rw[AW.1 hq];exact h⟩ DY (by simp[zu k (by omega)]) rfl DZ
 ·simp at hc;obtain rfl:k=c.pats.length:=DY
  rw[Ai]at ho;have hres:ZC c d=yA c.pats.length 1 64:=by
   have:(c.pats.all λp=>decide (Yd p d<0))=true:=by
    rw[AA];intro p hp;simpa using ho p hp
   simp[ZC,this]
  refine zx (D7 ?_);refine zt (uQ _ _ _) ?_;exact zg (zi hd D0 (by simp[hres,zp]))
structure Must where
 f:FuncId
 b:Bool
instance:Enc Must:=⟨λm=>[.fn (.func m.f) [] []],1,λ_=>rfl,λ_=>rfl⟩
@[simp] theorem ZzC(m:Must):Enc.enc m=[.fn (.func m.f) [] []]:=rfl
@[simp high] theorem ZzD(l:List Must):(l.flatMap Enc.enc).length=l.length:=(xy l).trans (B7 _)
def Ye(c:Cust)(d:Int)(k:Int):List Must :=
 if k=1 then [⟨227,yA c.demand 1 2147483648⟩,⟨228,ZC c d⟩,⟨229,Zd c⟩]
 else if k=2 then [⟨230,yA c.rate 0 2147483648⟩,⟨231,yA c.size 1 2147483648⟩,⟨232,yA c.start 0 c.size⟩,
  ⟨233,QF c⟩,⟨234,yA c.hold 0 1024⟩,⟨235,YP c⟩]
 else []
theorem Zq6(c:Cust)(d k:Int):Pure prog 193 [I k] (L (Ye c d k)):=by
 refine zr func193 ntmps193 results193 λS nx hd=>?_
 refine D7 ?_
 repeat apply za
 refine zb ?_;refine zj (D7 ?_);refine zv rfl (λh=>?_) (λh=>?_)
 ·simp at h;subst h;refine D7 ?_;exact D8 hd
 ·simp at h;refine D7 ?_;refine zv rfl (λh2=>?_) (λh2=>?_)
  ·simp at h2;subst h2;refine D7 ?_;exact D8 hd
  ·simp at h2;refine zh (D7 ?_);refine ue 2 rfl ?_;exact zg (zi hd D0 (by simp[Ye,h,h2,zp]))
theorem Zq7(c:Cust)(d:Int)(hp:∀p∈c.pats,p<2 ^ 64)(hl:c.pats.length<=9223372036854775807)(hdl:d<=1000):∀m∈Ye c d c.kind,Pure prog m.f [.agg (uR c d)] (B m.b):=by
 intro m hm;unfold Ye at hm;split at hm
 ·simp only[As,Bn,or_false]at hm;rcases hm with rfl | rfl | rfl
  ·exact ZqX c d
  ·exact Zq5 c d hp hl hdl
  ·exact Zq4 c d
 ·split at hm
  ·simp only[As,Bn,or_false]at hm;rcases hm with rfl | rfl | rfl | rfl | rfl | rfl
   ·exact ZqY c d
   ·exact ZqZ c d
   ·exact Zq0 c d
   ·exact Zq2 c d
   ·exact Zq1 c d
   ·exact Zq3 c d
  ·cases hm
def xP(c:Cust)(d:Int):Bool :=
 if c.kind=1 then (yA c.demand 1 2147483648 && ZC c d && Zd c)
 else if c.kind=2 then (yA c.rate 0 2147483648 && yA c.size 1 2147483648 && yA c.start 0 c.size && QF c && yA c.hold 0 1024 && YP c) else false
theorem Zq8(c:Cust)(d:Int):xP c d=((Ye c d c.kind).all (·.b) && decide (0<(Ye c d c.kind).length)):=by
 unfold xP Ye;split
 ·simp[Bool.and_assoc]
 ·split
  ·simp[Bool.and_assoc]
  ·simp
theorem Zq9(c:Cust)(d:Int)(hp:∀p∈c.pats,p<2 ^ 64)(hl:c.pats.length<=9223372036854775807)(hdl:d<=1000):Pure prog 146 [.agg (uR c d)] (B (xP c d)):=by
 have hall:=Zq7 c d hp hl hdl;have hmu:=Zq6 c d c.kind;have hln:(Ye c d c.kind).length<=6:=by unfold Ye;split;simp;split<;>simp
 rw[Zq8];generalize Ye c d c.kind=ms at hall hmu hln ⊢;refine zr func146 ntmps146 results146 λS nx hd=>?_
 refine D7 ?_;intro v0;refine D7 ?_;refine zt hmu ?_
 repeat apply za
 refine zb ?_;refine zj (zC (λs:Nat=>s<=ms.length/\(ms.take s).all (·.b)=true) (λk=>[(1,.ptr nx v0 0),(3,L ms),(10,L ms),(11,I ms.length),(12,I k)]) (λk=>[.cells v0 207 (uR c d)]) (λs=>ms.length-s) 0 [] DZ DZ DZ ?_);rintro k ⟨hk,ho⟩;simp only at hk ho ⊢;refine D7 ?_;refine za (zv rfl (λhc=>?_) (λhc=>?_))
 ·simp at hc;obtain⟨m,tl,a1,a2,a3,e0⟩:=zF rfl ms k hc;have hm:=Ab a1;refine zh (za (zj (za (ze [] (zo e0 hc) ?_))));refine D7 ?_;refine zt (hall m hm) ?_;cases hb:m.b with
  | false =>
   have hres:ms.all (·.b)=false:=by rw[BY];exact⟨m,hm,by simp[hb]⟩
   refine zm rfl (D7 ?_);exact zg (zi hd D0 (by simp only[hres,zp,Dm]))
  | true =>
   refine zk rfl (zh (zb ?_));exact zq (k+1) [] ⟨hc,by rw[a3,CJ,ho];simp[hb]⟩ DY (by simp[zu k (by omega)]) rfl DZ
 ·simp at hc;obtain rfl:k=ms.length:=DY
  rw[Ai]at ho;refine zx (D7 ?_);exact zg (zi hd D0 (by simp[ho,zp]))
open Go
def ZD(n:Nat):Nat->List (List Int)->Bool
 | _,[]=>true
 | a,row :: l=>(decide (row.length=n) && decide (row.getD a 0=0) && row.all (yA · 0 2147483648)) && ZD n (a+1) l
def ZE(l:List (List Int))(n:Nat):Bool:=decide (l.length=n) && ZD n 0 l
def qZ(x:Inst):Bool :=
 yA x.days 1 64 && decide (x.cust.length<=2000) && yA x.veh 0 2147483648 && yA x.cap 0 2147483648 && yA x.len 0 2147483648 && x.cust.all (xP · x.days) && ZE x.dist (x.cust.length+1)
theorem Zra(l:List (List Int))(n:Nat)(hn:n<=1048576)(hl:l.length<=9223372036854775807)(hr:∀r∈l,r.length<=9223372036854775807):Pure prog 147 [L l,I n] (B (ZE l n)):=by
 refine zr func147 ntmps147 results147 λS nx hd=>?_
 refine D7 ?_
 by_cases hln:l.length=n
 ·have h1:((l.length:Int)=n):=DY
  repeat apply za
  refine ze [] h1 ?_;refine zk DZ ?_;refine zh ?_
  repeat apply za
  refine zb ?_;refine zj (zC (λs:Nat=>s<=l.length/\ZD n 0 l=ZD n s (l.drop s)) (λk=>[(0,L l),(1,I n),(13,L l),(14,I l.length),(15,I k)]) (λk=>[]) (λs=>l.length-s) 0 [] DZ (by simp[h1]) DZ ?_);rintro k ⟨hk,ho⟩;simp only at hk ho ⊢;refine D7 ?_;refine za (zv rfl (λhc=>?_) (λhc=>?_))
  ·simp at hc;obtain⟨row,tl,a1,a2,a3,e0⟩:=zF rfl l k hc;have hrm:=hr row (Ab a1);rw[a2]at ho;simp only[ZD]at ho;refine zh (za (zj (za (ze [] (zo e0 hc) ?_))));have bad:(row.length=n/\row.getD k 0=0->row.all (yA · 0 2147483648)=false)->ZE l n=false:=by
    intro q;simp only[ZE,ho]
    by_cases q1:row.length=n
    ·by_cases q2:row.getD k 0=0
     ·rw[q ⟨q1,q2⟩];simp
     ·simp only[q2,decide_false,Dn,Dm]
    ·simp only[q1,decide_false,Dn,Dm]
   by_cases h2:row.length=n
   ·have h2':((row.length:Int)=n):=DY
    have h3:k<n:=DY
    obtain⟨d,tl2,b1,b2,b3,e2⟩:=zF rfl row k DY;have hd0:row.getD k 0=d:=by rw[Aa,b1];rfl
    by_cases h4:d=0
    ·repeat apply za
     refine ze [(4,24)] (zN h2' h3 e2 h4) ?_;refine zk DZ ?_;refine zh (D7 ?_);refine zj (zC (λs:Nat=>s<=row.length/\(row.take s).all (yA · 0 2147483648)=true) (λj=>[(0,L l),(1,I n),(13,L l),(14,I l.length),(15,I k),(31,L row),(32,I row.length),(33,I j)]) (λk=>[]) (λs=>row.length-s) 0 [] DZ (by simp[h1,h2']) DZ ?_);rintro j ⟨hj,hoj⟩
     try simp only at hj hoj ⊢
     refine D7 ?_;refine za (zv rfl (λhc2=>?_) (λhc2=>?_))
     ·simp at hc2;obtain⟨e,tl3,c1,c2,c3,e3⟩:=zF rfl row j hc2;refine zh (za (zj (za (ze [] (zo e3 hc2) ?_))));refine D7 ?_;refine zt (uQ _ _ _) ?_;cases hb:yA e 0 2147483648 with
      | false =>
       have hres:=bad (λ_=>by rw[BY];exact⟨e,Ab c1,by simp[hb]⟩);refine zm rfl (D7 ?_);exact zg (zi hd D0 (by simp only[hres,zp]))
      | true =>
       refine zk rfl (zh (zb ?_));exact zq (j+1) [] ⟨hc2,by rw[c3,CJ,hoj];simp[hb]⟩ DY (by simp[zu j (by omega)]) rfl DZ
     ·simp at hc2;obtain rfl:j=row.length:=DY
      rw[Ai]at hoj;refine zx (zb ?_);exact zq (k+1) [] ⟨hc,by rw[ho,hoj,hd0];simp[h2,h4]⟩ DY (by simp[zu k (by omega)]) rfl DZ
    ·have hres:=bad (λq=>absurd (hd0.symm.trans q.2) h4)
     repeat apply za
     refine ze [(4,24)] (zN h2' h3 e2 h4) ?_;refine zm (by simp[h4]) ?_;refine D7 ?_;exact zg (zi hd D0 (by simp only[hres,zp]))
   ·have hres:=bad (λq=>absurd q.1 h2);have h2':((row.length:Int) != (n:Int))=true:=D2
    repeat apply za
    refine ze [(4,24)] (zo h2' zH) ?_;refine zm DZ ?_;refine D7 ?_;exact zg (zi hd D0 (by simp only[hres,zp]))
  ·simp at hc;obtain rfl:k=l.length:=DY
   simp only[BA,ZD]at ho;refine zx (D7 ?_);exact zg (zi hd D0 (by simp[ZE,hln,ho,zp]))
 ·have h1:¬((l.length:Int)=n):=DY
  repeat apply za
  refine ze [] h1 ?_;refine zm (by simp[h1]) ?_;refine D7 ?_;exact zg (zi hd D0 (by simp[ZE,hln,zp]))
theorem Zhq(x:Inst)(hx:InstOk x):Pure prog 108 [.agg (zy x)] (I (if qZ x=true then 0 else 3)):=by
 have hnc:=hx.ncust;refine zr func108 ntmps108 results108 λS nx hd=>?_
 refine D7 ?_;intro v0
 by_cases hd1:yA x.days 1 64=true
 ·have hdr:1<=x.days/\x.days<=64:=by simpa[yA] using hd1
  by_cases hc2:(2000:Int)<x.cust.length
  ·repeat apply za
   refine ze [(4,11)] trivial ?_;refine qt [(4,11)] (uQ _ _ _) (zo hd1 hc2) ?_;refine zm DZ ?_;refine D7 ?_;exact zg (zi hd D0 (by simp[qZ,show ¬x.cust.length<=2000 by omega,zp]))
  ·repeat apply za
   refine ze [(4,11)] trivial ?_;refine qt [(4,11)] (uQ _ _ _) (zo hd1 hc2) ?_;refine zk DZ ?_;refine zh ?_
   repeat apply za
   refine zb ?_;refine zj (zC (λs:Nat=>s<=3/\(1<=s->yA x.veh 0 2147483648=true)/\(2<=s->yA x.cap 0 2147483648=true)/\(3<=s->yA x.len 0 2147483648=true)) (λk=>[(1,.ptr nx v0 0),(23,.lst 3 [I x.veh,I x.cap,I x.len]),(24,I 3),(25,I k)]) (λk=>[.cells v0 25 (zy x)]) (λs=>3-s) 0 [] DZ DZ DZ ?_);rintro k ⟨hk,i1,i2,i3⟩;simp only at hk i1 i2 i3 ⊢
   match k,hk with
   | 0,_ =>
    refine D7 ?_;refine za (zm rfl (zh (za (zj (D7 ?_)))));refine D7 ?_;refine zt (uQ _ _ _) ?_;cases hb:yA x.veh 0 2147483648 with
    | false =>
     refine zm rfl (D7 ?_);exact zg (zi hd D0 (by simp[qZ,hb,zp]))
    | true =>
     refine zk rfl (zh (zb ?_));exact zq 1 [] (by simp[hb]) DZ D0 rfl DZ
   | 1,_ =>
    refine D7 ?_;refine za (zm rfl (zh (za (zj (D7 ?_)))));refine D7 ?_;refine zt (uQ _ _ _) ?_;cases hb:yA x.cap 0 2147483648 with
    | false =>
     refine zm rfl (D7 ?_);exact zg (zi hd D0 (by simp[qZ,hb,zp]))
    | true =>
     refine zk rfl (zh (zb ?_));exact zq 2 [] (by simp[hb,i1 (by omega)]) DZ D0 rfl DZ
   | 2,_ =>
    refine D7 ?_;refine za (zm rfl (zh (za (zj (D7 ?_)))));refine D7 ?_;refine zt (uQ _ _ _) ?_;cases hb:yA x.len 0 2147483648 with
    | false =>
     refine zm rfl (D7 ?_);exact zg (zi hd D0 (by simp[qZ,hb,zp]))
    | true =>
     refine zk rfl (zh (zb ?_));exact zq 3 [] (by simp[hb,i1 (by omega),i2 (by omega)]) DZ D0 rfl DZ
   | 3,_ =>
    have q1:=i1 DY;have q2:=i2 DY;have q3:=i3 DY;refine D7 ?_;refine za (zk rfl (zx ?_))
    repeat apply za
    refine zb ?_;refine zj (zC (λs:Nat=>s<=x.cust.length/\(x.cust.take s).all (xP · x.days)=true) (λk=>[(1,.ptr nx v0 0),(34,L x.cust),(35,I x.cust.length),(36,I k)]) (λk=>[.cells v0 25 (zy x)]) (λs=>x.cust.length-s) 0 [] DZ DZ DZ ?_);rintro k ⟨hk,ho⟩
    try simp only at hk ho ⊢
    refine D7 ?_;refine za (zv rfl (λhc=>?_) (λhc=>?_))
    ·simp at hc;obtain⟨c,tl,a1,a2,a3,_,e0⟩:=el 8 rfl x.cust k hc;have hcm:=Ab a1;have hco:=hx.cust c hcm;refine zh (za (zj (za (ze [] (zo e0 hc) ?_))));intro v1;refine D7 ?_;refine zt (Zq9 c x.days hco.pats hco.npats DY) ?_;cases hb:xP c x.days with
     | false =>
      have hres:x.cust.all (xP · x.days)=false:=by rw[BY];exact⟨c,hcm,by simp[hb]⟩
      refine zm rfl (D7 ?_);exact zg (zi hd D0 (by simp[qZ,hres,zp]))
     | true =>
      refine zk rfl (zh (zb ?_));exact zq (k+1) [_] ⟨hc,by rw[a3,CJ,ho];simp[hb]⟩ DY (by simp[zu k (by omega)]) rfl rfl
    ·simp at hc;obtain rfl:k=x.cust.length:=DY
     rw[Ai]at ho;have w1:=zu x.cust.length DY;refine zx ?_
     repeat apply za
     refine ze [] w1 ?_;refine zt (Zra x.dist (x.cust.length+1) DY hx.ndist (λr hr=>(hx.dist r hr).1)) ?_;cases hb:ZE x.dist (x.cust.length+1) with
     | false =>
      refine zm rfl (D7 ?_);exact zg (zi hd D0 (by simp[qZ,hb,zp]))
     | true =>
      refine zk rfl (zh (D7 ?_));exact zg (zi hd D0 (by simp[qZ,hb,hd1,q1,q2,q3,ho,show x.cust.length<=2000 by omega,zp]))
 ·repeat apply za
  refine ze [(4,11)] trivial ?_;refine qt [(4,11)] (uQ _ _ _) (zo hd1 zH) ?_;refine zm DZ ?_;refine D7 ?_;exact zg (zi hd D0 (by simp[qZ,hd1,zp]))
open Go
theorem Zhr(n:Nat)(d:Int):yx n d.toNat 64=(yx n 0 64).filter λx=>decide (d<=x):=by
 simp only[yx,DK,List.filter_filter,Cr,decide_true,Dv];congr 1;apply CO;intro i _;have:(d.toNat<=i)=(d<=(i:Int)):=propext ⟨λh=>by omega,λh=>by omega⟩;simp only[Function.comp,this]
theorem Zhs(c:Cust)(d:Int)(h:c.kind=1):xP c d=(yA c.demand 1 2147483648 && ZC c d && Zd c):=by simp[xP,h]
theorem Zht(c:Cust)(d:Int)(h:c.kind=2):xP c d=(yA c.rate 0 2147483648 && yA c.size 1 2147483648 && yA c.start 0 c.size && QF c && yA c.hold 0 1024 && YP c):=by simp[xP,h]
theorem Zrb(c:Cust)(d:Int)(h:¬c.kind=1)(h2:¬c.kind=2):xP c d=false:=by simp[xP,h,h2]
open Go
abbrev Zau(x:Inst)(p:zA)(i:Int):List PV:=[I x.days,I x.veh,I x.cap,I x.len,L x.cust,L x.dist,L p,I i]
def Xt(c:Cust)(v:List Visit):Int:=if (v.any λs=>decide (s.q≠c.demand))=true then 9 else if Ya (v.map (·.d))∈c.pats then 0 else 10
def xQ(x:Inst)(p:zA)(i:Nat):Int :=
 match x.cust[i]? with
 | none=>5
 | some c=>if c.kind=2 then uq c (z8 (yf i (told 0 p)) x.days) else Xt c (yf i (told 0 p))
structure Serves (x:Inst) (p:zA):Prop where
 sz:PlanOk p
 q:∀s∈told 0 p,0<=s.1.q/\s.1.q<=2147483648
 days:p.length<=64
theorem Zhu:∀(p:zA) (i:Nat) (x:Stop × Nat),x∈told i p->i<=x.2/\x.2<i+p.length
 | [],_,_,h=>by cases h
 | d :: p,i,x,h=>by
  simp only[told,AB,Am]at h;simp only[Ad];rcases h with ⟨s,_,rfl⟩ | h
  ·simp only;omega
  ·have:=Zhu p (i+1) x h;omega
theorem ZcZ{x:Inst}{p:zA}(h:Serves x p)(c:Int):VisOk (yf c (told 0 p))/\∀s∈yf c (told 0 p),0<=s.d/\s.d<=63:=by
 have hd:∀s∈yf c (told 0 p),(0<=s.q/\s.q<=2147483648)/\0<=s.d/\s.d<=63:=by
  intro s hs;simp only[yf,Am,A7]at hs;obtain⟨y,⟨hy,_⟩,rfl⟩:=hs;have h1:=h.q y hy;have h2:=Zhu p 0 y hy;have h3:=h.days;simp only;omega
 exact⟨⟨AD (ZcQ _ _) h.sz.told,λs hs=>(hd s hs).1,λs hs=>by have:=(hd s hs).2;unfold zM;omega⟩,λs hs=>(hd s hs).2⟩
theorem Zhv(x:Inst)(p:zA)(i:Nat)(h:Serves x p):Pure prog 114 [.agg (Zau x p i)] (L (z8 (yf i (told 0 p)) x.days)):=by
 have h1:=ZcR p i h.sz;have h2:=Zho _ x.days (ZcZ h i).1;generalize z8 (yf i (told 0 p)) x.days=q at h2 ⊢;generalize yf i (told 0 p)=v at h1 h2;refine zr func114 ntmps114 results114 λS nx hd=>?_
 refine D7 ?_;intro v0;refine za (zz (some [nx]) (Row.pures [0,1,2,3,4,5,6,7,8,9] .done) mixed trivial ?_);refine zG (h1) trivial ?_;refine zG (h2) trivial ?_;exact D8 hd
theorem Zrc(x:Inst)(p:zA)(i:Nat)(c:Cust)(h:Serves x p)(hc:x.cust[i]?=some c)(hf:CustFits c):Pure prog 155 [.agg (Zau x p i)] (I (uq c (z8 (yf i (told 0 p)) x.days))):=by
 have h1:=Zhv x p i h;have hil:i<x.cust.length:=(Ac.1 hc).1;obtain⟨c',tl,a1,a2,a3,_,e0⟩:=el 8 rfl x.cust i hil;obtain rfl:c'=c:=by rw[a1]at hc;exact Option.some.inj hc
 have h2:=Zhl c' (z8 (yf i (told 0 p)) x.days) hf (by rw[WF];omega);generalize z8 (yf i (told 0 p)) x.days=q at h1 h2 ⊢;refine zr func155 ntmps155 results155 λS nx hd=>?_
 refine D7 ?_;intro v0;refine za (zz (some [nx]) (Row.pures [0,1,2,3,4,5,6,7,8,9,10] .done) mixed (zo hil e0) ?_);refine zG (h1) trivial ?_;refine zG (h2) trivial ?_;exact D8 hd
theorem Zrd(x:Inst)(p:zA)(i:Nat)(c:Cust)(h:Serves x p)(hc:x.cust[i]?=some c)(hpl:c.pats.length<=1048576):Pure prog 154 [.agg (Zau x p i)] (I (Xt c (yf i (told 0 p)))):=by
 have h1:=ZcR p i h.sz;have h2:=Zqr p i h.sz;have hvl:=(ZcZ h i).1.n;have hil:i<x.cust.length:=(Ac.1 hc).1;obtain⟨c',tl,a1,a2,a3,_,e0⟩:=el 8 rfl x.cust i hil;obtain rfl:c'=c:=by rw[a1]at hc;exact Option.some.inj hc
 generalize yf i (told 0 p)=v at h1 h2 hvl ⊢;have h3:=Zqt (v.map (·.d)) (by simpa using hvl);have h4:=Zqv c'.pats (Ya (v.map (·.d))) hpl;unfold Xt;generalize Ya (v.map (·.d))=set at h3 h4 ⊢;refine zr func154 ntmps154 results154 λS nx hd=>?_
 refine D7 ?_;intro v0;refine za (ze [] (zo hil e0) ?_);intro v1
 repeat apply za
 refine zb ?_;refine zt h1 ?_;refine zj (zC (λs:Nat=>s<=v.length/\((v.take s).any λs=>decide (s.q≠c'.demand))=false) (λk=>[(1,.ptr nx v0 0),(3,.ptr (nx+1) v1 0),(18,L v),(19,I v.length),(20,I k)]) (λ_=>[.cells v0 171 (Zau x p i),.cells v1 87 (yb c')]) (λs=>v.length-s) 0 [] DZ DZ DZ ?_);rintro k ⟨hk,ho⟩;refine D7 ?_;refine za (zv rfl (λhc1=>?_) (λhc1=>?_))
 ·simp at hc1;obtain⟨s,tl2,b1,b2,b3,e1,e2⟩:=el 2 rfl v k hc1;refine zh (za (zj (za (ze [] (zo hc1 e2) ?_))));intro v2
  by_cases hq:s.q=c'.demand
  ·refine za (ze [] hq ?_);refine zk DZ ?_;refine zh (zb ?_);exact zq (k+1) [_] ⟨hc1,by rw[b3,DJ,ho];simp[hq]⟩ DY (by simp[zu k (by omega)]) rfl rfl
  ·have hany:(v.any λs=>decide (s.q≠c'.demand))=true:=by rw[BT];exact⟨s,Ab b1,by simpa using hq⟩
   refine za (ze [] hq ?_);refine zm DZ ?_;refine D7 ?_;exact zg (zi hd D0 (by rw[if_pos hany];rfl))
 ·simp at hc1;obtain rfl:k=v.length:=DY
  rw[Ai]at ho;refine zx (D7 ?_);refine zt h2 ?_;refine zt h3 ?_
  repeat apply za
  refine zb ?_;refine zt h4 ?_
  by_cases hm:set∈c'.pats
  ·repeat apply za
   refine zk (by simp[hm]) ?_;refine zh (D7 ?_);exact zg (zi hd D0 (by rw[ho];simp[hm,zp]))
  ·repeat apply za
   refine zm (by simp[hm]) ?_;refine D7 ?_;exact zg (zi hd D0 (by rw[ho];simp[hm,zp]))
structure CustsOk (x:Inst):Prop where
 n:x.cust.length<=1048576
 kind:∀c∈x.cust,c.kind=1\/c.kind=2
 fits:∀c∈x.cust,CustFits c
 pats:∀c∈x.cust,c.pats.length<=1048576
 wN:∀c∈x.cust,∀p∈c.pats,p<2 ^ 64
theorem Zre(x:Inst)(p:zA)(i:Nat)(h:Serves x p)(hx:CustsOk x)(hi:i<x.cust.length):Pure prog 112 [.agg (zy x),.agg [L p],I i] (I (xQ x p i)):=by
 obtain⟨c,tl,a1,a2,a3,_,e0⟩:=el 8 rfl x.cust i hi;have hcm:=Ab a1;have hres:xQ x p i=if c.kind=2 then uq c (z8 (yf i (told 0 p)) x.days) else Xt c (yf i (told 0 p)):=by simp only[xQ,a1]
 rw[hres];have g0:¬(i:Int)<0:=DY
 have g1:¬(x.cust.length:Int)<=(i:Int):=DY
 refine zr func112 ntmps112 results112 λS nx hd=>?_
 refine D7 ?_;intro v0 v1
 repeat apply za
 refine ze [(2,12)] (zD g0 g1 hi) ?_;refine zk DZ ?_;refine zh (za (xx [] D3 D3 λK Gc Gh hK hGc hGh X hX0 hX=>?_));simp -implicitDefEqProofs [hX0,hX]
 try clear hX0 hX X
 intro v2;refine hGh _ _ _ _ _ λhsuf=>YB (.inr rfl) underlying215 underlying3 rfl (by simp;exact⟨rfl,rfl⟩) D0 D0 (by simp[jd];rfl) ?_
 refine⟨_,_,yl _ DY DZ,?_⟩;clear hGc hGh;clear Gc Gh;refine xZ hsuf (D:=[]) D3 λGc Gh hGc hGh X hX0 hX=>?_
 simp -implicitDefEqProofs [hX0,hX];clear hX0 hX X;refine hGh _ _ _ _ _ λhsuf=>YB (.inr rfl) underlying215 underlying3 rfl (by simp;exact⟨rfl,rfl⟩) D0 D0 (by simp[jd,qS];rfl) ?_
 refine⟨_,_,yl _ DY DZ,?_⟩;clear hGc hGh;clear Gc Gh;refine xZ hsuf (D:=[]) D3 λGc Gh hGc hGh X hX0 hX=>?_
 simp -implicitDefEqProofs [hX0,hX,qS];clear hX0 hX X;refine hK _ _ _ ?_;clear hK hGc hGh;clear K Gc Gh;rcases hx.kind c hcm with hk | hk
 ·refine za (xx [] D3 D3 λK Gc Gh hK hGc hGh X hX0 hX=>?_);simp -implicitDefEqProofs [hX0,hX,hi,e0,hk]
  try clear hX0 hX X
  refine hGh _ _ _ _ _ λhsuf=>Zp rfl underlying215 underlying3 rfl (by simp;exact⟨rfl,rfl⟩) D0 D0 (by simp[jd,qS];rfl) D0 ?_
  refine⟨_,_,rfl,?_⟩;clear hGc hGh;clear Gc Gh;refine xZ hsuf (D:=[]) D3 λGc Gh hGc hGh X hX0 hX=>?_
  simp -implicitDefEqProofs [hX0,hX,ZW];clear hX0 hX X;refine hK _ _ _ ?_;clear hK hGc hGh;clear K Gc Gh
  repeat apply za
  refine zb ?_;refine zk DZ ?_;refine zh (D7 ?_);refine zt (Zrd x p i c h a1 (hx.pats c hcm)) ?_;exact zg (zi hd D0 (by simp[hk,zp]))
 ·refine za (xx [] D3 D3 λK Gc Gh hK hGc hGh X hX0 hX=>?_);simp -implicitDefEqProofs [hX0,hX,hi,e0,hk]
  try clear hX0 hX X
  refine hGh _ _ _ _ _ λhsuf=>Zp rfl underlying215 underlying3 rfl (by simp;exact⟨rfl,rfl⟩) D0 D0 (by simp[jd,qS];rfl) D0 ?_
  refine⟨_,_,rfl,?_⟩;clear hGc hGh;clear Gc Gh;refine xZ hsuf (D:=[]) D3 λGc Gh hGc hGh X hX0 hX=>?_
  simp -implicitDefEqProofs [hX0,hX,ZW];clear hX0 hX X;refine hK _ _ _ ?_;clear hK hGc hGh;clear K Gc Gh
  repeat apply za
  refine zb ?_;refine zk DZ ?_;refine zh (D7 ?_);refine zt (Zrc x p i c h a1 (hx.fits c hcm)) ?_;exact zg (zi hd D0 (by simp[hk,zp]))
open Go
theorem Zhw:∀(l:List Int),(∀b∈l,b=0\/b=1)->∀i:Nat,(xz l).toNat.testBit i=decide (l[i]?=some 1)
 | [],_,i=>by simp[xz]
 | b :: l,h,i=>by
  have hl:∀b∈l,b=0\/b=1:=λx hx=>h x (by simp[hx])
  have h0:=(ZbQ l hl).1;have hb:=h b DZ;have hn:xz (b :: l)=2*xz l+b:=rfl;cases i with
  | zero =>
   rw[Nat.testBit_zero,hn];simp only[Bf,Option.some.injEq];apply decide_eq_decide.2;omega
  | succ i =>
   rw[Nat.testBit_succ,hn];have:(2*xz l+b).toNat / 2=(xz l).toNat:=DY
   rw[this,Zhw l hl i];simp
theorem WH(n i:Nat):n.testBit i=decide (yI n i=1):=by rw[CM];rfl
theorem Zrf(n d:Nat)(hn:n<2 ^ 64)(hd:d<64):J4 n d=qK n d:=by
 have h01:∀b∈(jg n).set d 1,b=0\/b=1:=λb hb=>by
  rcases ZbS hb with h | h
  ·exact ZbP n b h
  ·exact .inr h
 apply C7;intro i;unfold J4 Wj qK;rw[Zhw _ h01,if_pos DY,Do,AO,CF,BB];have hl:=J3 n
 by_cases h:d=i
 ·subst h;simp[hl,hd]
 ·rw[if_neg h]
  by_cases hi:i<64
  ·rw[Ze5 n i hi,WH];simp[h];omega
  ·rw[Ak DY];have:n.testBit i=false:=Cw (Bm hn (Cd D4 DY));simp[this,h]
open Go
def jt:List Int->Int
 | []=>0
 | e :: l=>if e≠0 then e else jt l
theorem Xu{l:List Int}(h:∀e∈l,e=0):jt l=0:=by
 induction l with
 | nil=>rfl
 | cons e l ih=>simp only[jt,h e DZ,ne_eq,not_true,if_false];exact ih λx hx=>h x (by simp[hx])
theorem Zc0{l:List Int}{k:Nat}{e:Int}(h:∀e∈l.take k,e=0)(hk:l[k]?=some e)(he:e≠0):jt l=e:=by
 induction l generalizing k with
 | nil=>cases hk
 | cons a l ih =>
  cases k with
  | zero=>simp at hk;subst hk;simp[jt,he]
  | succ k =>
   simp only[jt,h a DZ,ne_eq,not_true,if_false];exact ih (k:=k) (λx hx=>h x (by rw[Db];simp[hx])) (by simpa using hk)
theorem Zc1(l:List Int):jt l=0<->∀e∈l,e=0:=by
 refine⟨λh=>?_,Xu⟩
 induction l with
 | nil=>intro e he;cases he
 | cons a l ih =>
  simp only[jt]at h;split at h
  ·rename_i hne;exact absurd h hne
  ·rename_i hne;intro e he;rcases As.1 he with rfl | he
   ·simpa using hne
   ·exact ih h e he
def Ze(x:Inst)(p:zA):Int :=
 if qZ x=false then 3 else if (p.length:Int)≠x.days then 1 else if jt (p.map (yr x))≠0 then jt (p.map (yr x)) else jt ((List.range x.cust.length).map (xQ x p))
structure PlanSz (p:zA):Prop where
 ok:PlanOk p
 f:∀d∈p,d.flatten.length<=1048576
theorem Zc2:∀(p:zA) (i:Nat) (x:Stop × Nat),x∈told i p->∃d∈p,x.1∈d.flatten
 | [],_,_,h=>by cases h
 | d :: p,i,x,h=>by
  simp only[told,AB,Am]at h;rcases h with ⟨s,hs,rfl⟩ | h
  ·exact⟨d,by simp,hs⟩
  ·obtain⟨d',h1,h2⟩:=Zc2 p (i+1) x h;exact⟨d',by simp[h1],h2⟩
theorem Zc3{x:Inst}{d:zn}(h:yr x d=0):∀s∈d.flatten,jF x s=true:=by
 intro s hs;obtain⟨t,ht,hst⟩:=BO.1 hs;have hm:zQ x t=0:=by
  unfold yr at h;split at h
  ·rename_i u hu;have:=List.find?_some hu;simp[h]at this
  ·rename_i hn;rw[List.find?_eq_none]at hn;simpa using hn t ht
 have:jh x t=true:=by
  by_cases q:jh x t=true
  ·exact q
  ·simp[zQ,q]at hm
 unfold jh at this;simp only[Aw,AA]at this;exact this.1 s hst
theorem Zrg{x:Inst}{p:zA}(hp:PlanSz p)(hx:InstOk x)(hm:qZ x=true)(hd:(p.length:Int)=x.days)(h0:∀d∈p,yr x d=0):Serves x p:=by
 have hdays:1<=x.days/\x.days<=64:=by
  unfold qZ at hm;simp only[Aw]at hm;have:=hm.1.1.1.1.1.1;simpa[yA] using this
 refine⟨hp.ok,λs hs=>?_,by omega⟩;obtain⟨d,hd,hsd⟩:=Zc2 p 0 s hs;have:=Zc3 (h0 d hd) s.1 hsd;simp[jF]at this;omega
theorem Zrh{x:Inst}(hx:InstOk x)(hm:qZ x=true):CustsOk x:=by
 unfold qZ at hm;simp only[Aw,decide_eq_true_eq,AA]at hm;obtain⟨⟨⟨⟨⟨⟨_,h1⟩,_⟩,_⟩,_⟩,h2⟩,_⟩:=hm;have hk:∀c∈x.cust,c.kind=1\/c.kind=2:=λc hc=>by
  have:=h2 c hc
  by_cases k1:c.kind=1
  ·exact .inl k1
  ·by_cases k2:c.kind=2
   ·exact .inr k2
   ·rw[Zrb c _ k1 k2]at this;cases this
 refine⟨by omega,hk,λc hc=>?_,λc hc=>?_,λc hc=>(hx.cust c hc).pats⟩
 ·have hb:=h2 c hc;rcases hk c hc with k | k
  ·rw[Zhs c _ k]at hb;simp only[Aw,Zd,decide_eq_true_eq]at hb;obtain⟨_,a,b,c,_⟩:=hb;exact⟨by omega,by omega,by omega⟩
  ·rw[Zht c _ k]at hb;simp only[Aw,yA,decide_eq_true_eq]at hb;obtain⟨⟨⟨⟨⟨a,b⟩,c⟩,_⟩,_⟩,_⟩:=hb;exact⟨by omega,by omega,by omega⟩
 ·have hb:=h2 c hc;rcases hk c hc with k | k
  ·rw[Zhs c _ k]at hb;simp only[Aw,ZC,yA,decide_eq_true_eq]at hb;omega
  ·rw[Zht c _ k]at hb;simp only[Aw,YP,decide_eq_true_eq]at hb;omega
theorem Zri(x:Inst)(p:zA)(hx:InstOk x)(hp:PlanSz p):Pure prog 67 [.agg (zy x),.agg [L p]] (I (Ze x p)):=by
 have hpn:=hp.ok.n;refine zr func67 ntmps67 results67 λS nx hd=>?_
 refine D7 ?_;intro v0 v1
 repeat apply za
 refine zb ?_;refine zt (Zhq x hx) ?_;cases hm:qZ x with
 | false =>
  refine zm DZ ?_;refine D7 ?_;exact zg (zi hd D0 (by simp[Ze,hm,zp]))
 | true =>
  have hcs:=Zrh hx hm;have hcn:=hcs.n;refine zk DZ ?_;refine zh ?_
  by_cases hpd:(p.length:Int)=x.days
  case neg =>
   repeat apply za
   refine ze [] hpd ?_;refine zm (by simp[hpd]) ?_;refine D7 ?_;exact zg (zi hd D0 (by simp[Ze,hm,hpd,zp]))
  have hres:Ze x p=if jt (p.map (yr x))≠0 then jt (p.map (yr x)) else jt ((List.range x.cust.length).map (xQ x p)):=by simp[Ze,hm,hpd]
  repeat apply za
  refine ze [] hpd ?_;refine zk (by simp[hpd]) ?_;refine zh ?_
  repeat apply za
  refine zb ?_;refine qz (nx:=nx) (σ:=Unit) (λ_=>∀d∈p,yr x d=0) (λ_=>[(2,.ptr nx v0 0),(3,.ptr (nx+1) v1 0)]) (λ_=>S) (λ_=>[.cells v0 25 (zy x),.cells v1 30 [L p]]) ?_ ?_
  ·refine zj (zC (λs:Nat=>s<=p.length/\∀d∈p.take s,yr x d=0) (λk=>[(2,.ptr nx v0 0),(3,.ptr (nx+1) v1 0),(20,L p),(21,I p.length),(22,I k)]) (λ_=>[.cells v0 25 (zy x),.cells v1 30 [L p]]) (λs=>p.length-s) 0 [] DZ (by simp[hpd]) DZ ?_);rintro k ⟨hk,ho⟩;refine D7 ?_;refine za (zv rfl (λhc=>?_) (λhc=>?_))
   ·simp at hc;obtain⟨d,tl,a1,a2,a3,e0⟩:=zF rfl p k hc;have hdm:=Ab a1;refine zh (za (zj (za (ze [] (zo hc e0) ?_))));intro v2;refine D7 ?_;refine zt (ZbX x d hcn (hp.ok.d d hdm) (hp.ok.t d hdm) (hp.f d hdm)) ?_
    by_cases h0:yr x d=0
    ·refine za (ze [] h0 ?_);refine zk (by simp[h0]) ?_;refine zh (zb ?_);exact zq (k+1) [_] ⟨hc,λe he=>by rw[a3]at he;rcases AB.1 he with he | he;exact ho e he;rw[AW.1 he];exact h0⟩ DY (by simp[zu k (by omega)]) rfl rfl
    ·have hf:jt (p.map (yr x))=yr x d:=Zc0 (k:=k) (λe he=>by rw[<-List.map_take]at he;obtain⟨u,hu,rfl⟩:=Am.1 he;exact ho u hu) (by rw[Aj,a1];rfl) h0;refine za (ze [] h0 ?_);refine zm (by simp[h0]) ?_;refine D7 ?_;exact zg (zi hd D0 (by rw[hres,hf];simp[h0,zp]))
   ·simp at hc;obtain rfl:k=p.length:=DY
    rw[Ai]at ho;exact zx (zT () [] ho DZ rfl DZ)
  intro _ hall;have hsv:=Zrg hp hx hm hpd hall;have hf0:jt (p.map (yr x))=0:=Xu λe he=>by obtain⟨u,hu,rfl⟩:=Am.1 he;exact hall u hu
  rw[hf0]at hres;simp only[ne_eq,not_true,if_false]at hres;rw[hres]
  repeat apply za
  refine zb ?_;refine zj (zC (λs:Nat=>s<=x.cust.length/\∀i<s,xQ x p i=0) (λk=>[(2,.ptr nx v0 0),(3,.ptr (nx+1) v1 0),(35,I x.cust.length),(36,I k)]) (λ_=>[.cells v0 25 (zy x),.cells v1 30 [L p]]) (λs=>x.cust.length-s) 0 [] DZ DZ DZ ?_);rintro k ⟨hk,ho⟩;refine D7 ?_;refine za (zv rfl (λhc=>?_) (λhc=>?_))
  ·simp at hc;refine zh (za (zj (D7 ?_)));refine D7 ?_;refine zt (Zre x p k hsv hcs hc) ?_
   by_cases h0:xQ x p k=0
   ·refine za (ze [] h0 ?_);refine zk (by simp[h0]) ?_;refine zh (zb ?_);exact zq (k+1) [] ⟨hc,λi hi=>by by_cases q:i=k;rw[q];exact h0;exact ho i DY⟩ DY (by simp[zu k (by omega)]) rfl DZ
   ·have hf:jt ((List.range x.cust.length).map (xQ x p))=xQ x p k:=Zc0 (k:=k) (λe he=>by rw[<-List.map_take]at he;obtain⟨u,hu,rfl⟩:=Am.1 he;rw[List.take_range]at hu;have:=AL.1 hu;exact ho u DY) (by rw[Aj,A9 hc];rfl) h0;refine za (ze [] h0 ?_);refine zm (by simp[h0]) ?_;refine D7 ?_;exact zg (zi hd D0 (by rw[hf];rfl))
  ·simp at hc;obtain rfl:k=x.cust.length:=DY
   refine zx (D7 ?_);exact zg (zi hd D0 (by rw[Xu λe he=>by obtain⟨u,hu,rfl⟩:=Am.1 he;exact ho u (AL.1 hu)];rfl))
open Go Go.Proofs Hp
def Jr(l:List Visit)(day:Int)(i k:Nat):List Stop:=((l.take k).filter (λw=>w.d=day)).map λw=>⟨i,w.q⟩
def ur(v:List (List Visit))(day:Int)(i:Nat):List Stop:=((v.getD i []).filter (λw=>w.d=day)).map λw=>⟨i,w.q⟩
def jk(v:List (List Visit))(day:Int)(n:Nat):List Stop:=(List.range n).flatMap (ur v day)
theorem Zc4(v:List (List Visit))(day:Int)(n:Nat):jk v day (n+1)=jk v day n++ur v day n:=by simp[jk,AH]
theorem Zrj(l:List Visit)(day:Int)(i:Nat):Jr l day i 0=[]:=rfl
theorem Zrk(v:List (List Visit))(day:Int)(i:Nat)(l:List Visit)(h:v[i]?=some l):Jr l day i l.length=ur v day i:=by simp_all[Jr,ur]
theorem Zhx{l:List Visit}{k:Nat}{w:Visit}(h:l[k]?=some w)(day:Int)(i:Nat):Jr l day i (k+1)=Jr l day i k++(if w.d=day then [⟨i,w.q⟩] else []):=by grind[Jr,List.take_add_one]
structure VsOk (m n:Nat) (v:List (List Visit)):Prop where
 len:v.length=m
 ok:∀l∈v,∀w∈l,(0<=w.d/\w.d<n)/\1<=w.q/\w.q<=2147483648
 nd:∀l∈v,(l.map (·.d)).Nodup
 few:∀l∈v,l.length<=1000
theorem VsOk.at{m n:Nat}{v:List (List Visit)}(h:VsOk m n v)(i:Nat):(∀w∈v.getD i [],(0<=w.d/\w.d<n)/\1<=w.q/\w.q<=2147483648)/\((v.getD i []).map (·.d)).Nodup:=by
 rw[Aa];cases e:v[i]? with
 | none=>simp
 | some l=>exact⟨h.ok l (Ab e),h.nd l (Ab e)⟩
theorem Zhy{l:List Visit}(h:(l.map (·.d)).Nodup)(day:Int):(l.filter (λw=>w.d=day)).length<=1:=by
 have h1:=(List.filter_sublist (p:=λw:Visit=>decide (w.d=day)) (l:=l)).map (·.d);have h2:=h.sublist h1;have h3:∀w∈l.filter (λw=>w.d=day),w.d=day:=λw hw=>by simp_all
 generalize l.filter (λw=>decide (w.d=day))=m at h2 h3
 match m,h2,h3 with
 | [],_,_=>simp
 | [_],_,_=>simp
 | a :: b :: m,h2,h3 =>
  simp_all
theorem Zhz{m n:Nat}{v:List (List Visit)}(h:VsOk m n v)(day:Int)(i:Nat):(ur v day i).length<=1:=by
 unfold ur;rw[List.length_map];exact Zhy (h.at i).2 day
theorem ZhA{m n:Nat}{v:List (List Visit)}(h:VsOk m n v){day:Int}{i:Nat}{s:Stop}(hs:s∈ur v day i):s.c=i/\1<=s.q/\s.q<=2147483648:=by
 obtain⟨w,hw,rfl⟩:=Am.1 hs;exact⟨rfl,((h.at i).1 w (A7.1 hw).1).2⟩
theorem Zc5{m n:Nat}{v:List (List Visit)}(h:VsOk m n v)(day:Int):∀k:Nat,(jk v day k).length<=k/\(∀s∈jk v day k,(0<=s.c/\s.c<k)/\1<=s.q/\s.q<=2147483648)/\((jk v day k).map (·.c)).Nodup
 | 0=>⟨by simp[jk],by simp[jk],by simp[jk]⟩
 | k+1=>by
  obtain⟨h1,h2,h3⟩:=Zc5 h day k;have h4:=Zhz h day k;have h5:∀s∈ur v day k,s.c=k/\1<=s.q/\s.q<=2147483648:=λs hs=>ZhA h hs
  rw[Zc4];refine⟨by grind,λs hs=>?_,?_⟩
  ·grind
  ·rw[List.map_append];generalize ur v day k=e at h4 h5
   match e,h4,h5 with
   | [],_,_=>simpa using h3
   | [s],_,h5 =>
    grind
   | _ :: _ :: _,h4,_=>simp at h4
structure InstH (x:Inst):Prop where
 cust:x.cust.length<=1000
 diag:arc x 0 0=0
 arc:qX x
 veh:0<=x.veh
theorem Zav{x:Inst}(hx:InstH x){n:Nat}{v:List (List Visit)}(h:VsOk x.cust.length n v)(day:Int):SOk x (jk v day x.cust.length):=by
 obtain⟨h1,h2,h3⟩:=Zc5 h day x.cust.length;have:=hx.cust;exact⟨by omega,hx.arc,hx.veh,by omega,λs hs=>by grind[qe],h3⟩
def Xv(x:Inst)(v:List (List Visit))(b:Int)(n:Nat):List (zn × Int):=(List.range n).map λd:Nat=>xE x b (jk v d x.cust.length)
def xn(x:Inst)(v:List (List Visit))(b:Int)(n:Nat):zA:=(Xv x v b n).map (·.1)
def ju(x:Inst)(v:List (List Visit))(b:Int)(n:Nat):List Int:=(Xv x v b n).map (·.2)
theorem Zaw(x:Inst)(v:List (List Visit))(b:Int)(n:Nat):(xn x v b n).length=n:=by simp[xn,Xv]
theorem ZhB(x:Inst)(v:List (List Visit))(b:Int)(n:Nat):(ju x v b n).length=n:=by simp[ju,Xv]
theorem ZhC(x:Inst)(v:List (List Visit))(b:Int)(n:Nat):xn x v b (n+1)=xn x v b n++[(xE x b (jk v n x.cust.length)).1]:=by simp[xn,Xv,AH]
theorem Zrl(x:Inst)(v:List (List Visit))(b:Int)(n:Nat):ju x v b (n+1)=ju x v b n++[(xE x b (jk v n x.cust.length)).2]:=by simp[ju,Xv,AH]
open Go Go.Proofs Hp
theorem Zrm(x:Inst)(v:List (List Visit))(day:Int)(n:Nat)(hx:x.cust.length<=1000)(hv:VsOk x.cust.length n v):Pure prog 250 [.agg (zy x),L v,I day] (L (jk v day x.cust.length)):=by
 have hvl:=hv.len;have hso:=λk=>(Zc5 hv day k).1
 have hmi:xv (x.cust.length:Int) (x.cust.length:Int)=x.cust.length:=by unfold xv;simp
 refine zr func250 ntmps250 results250 λS nx hd=>?_
 refine D7 ?_;intro v0;refine D7 ?_;refine za (qx 7 100 2 rfl λv1=>?_);refine D7 ?_;refine zj (zC (λs:Nat × List Stop × Nat=>s.1<=x.cust.length/\s.2.1=jk v day s.1) (λ(i,out,w)=>[(1,L v),(2,I day),(7,.sl (nx+1) w 2 0 out.length),(16,I x.cust.length),(17,I i)]) (λ(i,out,w)=>[.cells v0 25 (zy x),.cells w 100 (out.flatMap Enc.enc)]) (λs=>x.cust.length-s.1) (0,[],v1) [] (by simp[jk]) (by simp[hvl,hmi]) DZ ?_);rintro⟨i,out,w⟩ ⟨hi,ho⟩;simp only at hi ho ⊢;refine D7 ?_;refine za (zv rfl (λhc=>?_) (λhc=>?_))
 ·simp at hc;have hiv:i<v.length:=DY
  obtain⟨l,tl,a1,a2,a3,e0⟩:=zF rfl v i hiv;have hll:=hv.few l (Ab a1);have hoi:=hso i;refine zh (za (zj (D7 ?_)));refine za (ze [] (zo e0 hiv) ?_);refine zj (zC (λs:Nat × List Stop × Nat=>s.1<=l.length/\s.2.1=jk v day i++Jr l day i s.1/\s.2.1.length<=i+s.1) (λ(k,out,w)=>[(1,L v),(2,I day),(7,.sl (nx+1) w 2 0 out.length),(8,I i),(16,I x.cust.length),(17,I i),(23,L l),(24,I l.length),(25,I k)]) (λ(k,out,w)=>[.cells v0 25 (zy x),.cells w 100 (out.flatMap Enc.enc)]) (λs=>l.length-s.1) (0,out,w) [] ⟨by simp,by simp[Zrj,ho],by simp[ho];omega⟩ DZ DZ ?_);clear ho;rintro⟨k,out,w⟩ ⟨hk,ho,hol⟩;simp only at hk ho hol ⊢;refine D7 ?_;refine za (zv rfl (λhc2=>?_) (λhc2=>?_))
  ·simp at hc2;obtain⟨s,tl2,b1,b2,b3,e1,e2⟩:=el 2 rfl l k hc2;refine zh (za (zj (za (ze [] (zD e1 e2 hc2) ?_))));intro v2;refine D7 ?_
   by_cases hd:s.d=day
   ·repeat apply za
    refine zm (by simp[hd]) ?_;refine zb ?_;refine⟨by omega,?_⟩;refine zb ?_;exact zq (k+1,out++[⟨i,s.q⟩],w+1) [_] ⟨hc2,by rw[Zhx b1,if_pos hd,ho];simp,by simp;omega⟩ D2 (by simp[zu k (by omega)]) rfl D0
   ·repeat apply za
    refine zk (by simp[hd]) ?_;refine zh (zb ?_);exact zq (k+1,out,w) [_] ⟨hc2,by rw[Zhx b1,if_neg hd,ho];simp,by dsimp only;omega⟩ D2 (by simp[zu k (by omega)]) rfl D0
  ·simp at hc2;obtain rfl:k=l.length:=DY
   rw[Zrk v day i l a1,<-Zc4]at ho;refine zx (zb ?_);exact zq (i+1,out,w) [] ⟨hc,ho⟩ D2 (by simp[zu i (by omega)]) rfl DZ
 ·simp at hc;obtain rfl:i=x.cust.length:=DY
  refine zx (zX 1 rfl ?_);refine D7 ?_;exact zg (zi hd D0 (by simp[zp,ho]))
theorem Zrn(a b:zA)(ha:a.length<=1048576)(hat:∀t∈a,t.length<=1048576)(hau:∀t∈a,∀u∈t,u.length<=1048576):Pure prog 25 [.agg [L a],.agg [L b]] (B (decide (a=b))):=by
 refine zr func25 ntmps25 results25 λS nx hd=>?_
 refine D7 ?_;intro v0 v1
 by_cases hab:a.length=b.length
 case neg =>
  have:a≠b:=λe=>hab (by rw[e])
  repeat apply za
  refine zb ?_;refine zm D2 ?_;refine D7 ?_;exact zg (zi hd rfl (by simp[this]))
 repeat apply za
 refine zb ?_;refine zk D2 ?_;refine zh ?_
 repeat apply za
 refine zb ?_;refine zj (zC (λk:Nat=>k<=a.length/\a.take k=b.take k) (λk=>[(2,.ptr nx v0 0),(3,.ptr (nx+1) v1 0),(5,I k)]) (λ_=>[.cells v0 30 [L a],.cells v1 30 [L b]]) (λk=>a.length-k) 0 [] DZ DZ DZ ?_);rintro k ⟨hk,hkt⟩
 repeat apply za
 refine zb ?_;refine zv rfl (λhc=>?_) (λhc=>?_)
 ·simp at hc;obtain⟨s,ts,a1,-,a3,e1⟩:=zF rfl a k hc;obtain⟨t,tt,b1,-,b3,e2⟩:=zF rfl b k DY;have hcb:k<b.length:=DY
  have h1:1<=a.length-k:=DY
  have h2:1<=b.length-k:=DY
  have hsl:=hat s (Ab a1);have hsu:=hau s (Ab a1);refine zh (za (zj ?_))
  repeat apply za
  refine zz (some [nx,nx+1]) (Row.pures [0,1,2,3,4,5,6,7,8,9,10,11,12,13,14] .done) mixed (yd e1 e2 hc hcb h1 h2) ?_
  by_cases hst:s.length=t.length
  case neg =>
   have:a≠b:=Xf a1 b1 λe=>hst (by rw[e])
   refine zm D2 ?_;refine D7 ?_;exact zg (zi hd rfl (by simp[this]))
  refine zk D2 ?_;refine zh (D7 ?_);refine zj (zC (λj:Nat=>j<=s.length/\s.take j=t.take j) (λj=>[(2,.ptr nx v0 0),(3,.ptr (nx+1) v1 0),(5,I k),(6,I j)]) (λ_=>[.cells v0 30 [L a],.cells v1 30 [L b]]) (λj=>s.length-j) 0 [] DZ DZ DZ ?_);rintro j ⟨hj,hjt⟩
  repeat apply za
  refine ze [] (zD e1 hc h1) ?_;refine zv rfl (λhcj=>?_) (λhcj=>?_)
  ·simp at hcj;obtain⟨p,tp,p1,-,p3,q1⟩:=zF rfl s j hcj;obtain⟨q,tq,c1,-,c3,q2⟩:=zF rfl t j DY;have hjb:j<t.length:=DY
   have g1:1<=s.length-j:=DY
   have g2:1<=t.length-j:=DY
   have hpl:=hsu p (Ab p1);refine zh (za (zj (za (ze [] (yd e1 hc h1 q1 hcj g1) ?_))));refine za (ze [] (yd e2 hcb h2 q2 hjb g2) ?_)
   repeat apply za
   refine zb ?_
   by_cases hpq:p.length=q.length
   case neg =>
    have:a≠b:=Xf a1 b1 (Xf p1 c1 λe=>hpq (by rw[e]));refine zm D2 ?_;refine D7 ?_;exact zg (zi hd rfl (by simp[this]))
   refine zk D2 ?_;refine zh (D7 ?_);refine zj (zC (λi:Nat=>i<=p.length/\p.take i=q.take i) (λi=>[(2,.ptr nx v0 0),(3,.ptr (nx+1) v1 0),(5,I k),(6,I j),(7,L p),(8,L q),(9,I i)]) (λ_=>[.cells v0 30 [L a],.cells v1 30 [L b]]) (λi=>p.length-i) 0 [] DZ DZ DZ ?_);rintro i ⟨hi,hit⟩
   repeat apply za
   refine zb ?_;refine zv rfl (λhci=>?_) (λhci=>?_)
   ·simp at hci;obtain⟨y,ty,y1,-,y3,-,r1⟩:=el 2 rfl p i hci;obtain⟨z,tz,z1,-,z3,-,r2⟩:=el 2 rfl q i DY;have hib:i<q.length:=DY
    refine zh (za (zj (za (zz none (Row.pures [0,1,2,3,4,5,6,7,8] .done) mixed (zN r1 r2 hci hib) ?_))))
    by_cases hyz:y=z
    ·subst hyz;refine zk DZ ?_;refine zh (zb ?_);exact zq (i+1) [] ⟨by omega,by rw[y3,z3,hit]⟩ DY (by simp[zu i (by omega)]) rfl DZ
    ·have hne:¬y.c=z.c\/¬y.q=z.q:=by
      by_cases h1:y.c=z.c
      ·right;intro h2;apply hyz;cases y;cases z;cases h1;cases h2;rfl
      ·exact .inl h1
     have:a≠b:=Xf a1 b1 (Xf p1 c1 (Xf y1 z1 hyz));refine zm (by simp;exact hne) ?_;refine D7 ?_;exact zg (zi hd rfl (by simp[this]))
   ·simp at hci;obtain rfl:i=p.length:=DY
    rw[Ai,hpq,Ai]at hit;refine zx (zb ?_);exact zq (j+1) [] ⟨by omega,by rw[p3,c3,hjt,hit]⟩ DY (by simp[zu j (by omega)]) rfl DZ
  ·simp at hcj;obtain rfl:j=s.length:=DY
   rw[Ai,hst,Ai]at hjt;refine zx (zb ?_);exact zq (k+1) [] ⟨by omega,by rw[a3,b3,hkt,hjt]⟩ DY (by simp[zu k (by omega)]) rfl DZ
 ·simp at hc;obtain rfl:k=a.length:=DY
  rw[Ai,hab,Ai]at hkt;refine zx (D7 ?_);exact zg (zi hd rfl (by simp[hkt]))
open Go
section
variable {P:Program} {r:Rd} {n N:Nat} {Q:Exit->(Nat->PV)->Store->Prop} {F:Nat->PV} {c:Code}
theorem Zro{S1 T:Store}{G:Nat->PV}{id ver e:Nat}{cs:List PV}(hid:S1 id=.cells ver e cs)(hT:T id=.dead)(hat:∀o,T o=.dead\/T o=S1 o\/T o=xN id ver cs (S1 o))
  (hG:∀i,G i=F i\/G i=qy id ver cs (F i)) (h:PW P r n N c Q G T):PW P r n N c Q F S1:=by
 refine Yz (F':=G) (S':=T) (λC w a st=>?_) h;have hver:∀o v,(T o).ver=some v->(S1 o).ver=some v:=by
  intro o v hv;rcases hat o with q | q | q
  ·rw[q]at hv;cases hv
  ·simp_all
  ·grind[ZeO]
 have hne:∀o,T o≠.dead->S1 o≠.dead:=by
  intro o ho hd;rcases hat o with q | q | q
  ·exact ho q
  ·simp_all
  ·simp_all
 have hM:∀b,C.M T b->C.M S1 b:=λb ⟨o,k,ho,hl⟩=>⟨o,k,hne o ho,hl⟩
 have hstep:Step C S1 w C T w:=⟨rfl,⟨rfl,Ag _⟩,rfl,Ag _,Ag _,Ag _,λb _ hb=>⟨rfl,λh=>hb (hM b h)⟩,λo v1 hv=>.inr ⟨v1,hver o v1 hv,Ag _,λ_=>rfl⟩⟩;have hrel:∀{p u},Rel C S1 w p u->Rel C T w (qy id ver cs p) u:=λh=>VK st.sim hid hT hne hstep h
 refine⟨C,⟨⟨λo ho=>st.sim.lt o (hne o ho),λo v hv=>st.sim.clk o v (hver o v hv),λo o' b k k' ho ho'=>st.sim.dist o o' b k k' (hne o ho) (hne o' ho'),?_,?_⟩,st.size,λi=>?_,r.keep hstep st.v⟩,hstep⟩
 ·intro o v e' ds ho;rcases hat o with q | q | q
  ·simp_all
  ·rw[q]at ho;rcases st.sim.cells o v e' ds ho with hn | ⟨b,k,c,h1,h2,h3,h4,h5,h6⟩
   ·exact .inl hn
   ·exact .inr ⟨b,k,c,h1,h2,h3,h4,h5,λi p u hp hu=>(h6 i p u hp hu).mono hstep⟩
  ·rw[q]at ho;cases hs:S1 o with
   | dead=>simp_all
   | map v es=>simp_all
   | cells v2 e2 ds2 =>
    rw[hs]at ho;cases ho;rcases st.sim.cells o _ _ ds2 hs with ⟨h1,h2⟩ | ⟨b,k,c,h1,h2,h3,h4,h5,h6⟩<;>grind
 ·intro o v es ho;have hs:S1 o=.map v es:=by
   rcases hat o with q | q | q
   ·simp_all
   ·simp_all
   ·rw[q]at ho;cases hs:S1 o with
    | dead=>simp_all
    | map v es=>simp_all
    | cells v2 e2 ds2=>simp_all
  obtain⟨b,k,ms,cl,h1,h2,h3,h4⟩:=st.sim.maps o v es hs;exact⟨b,k,ms,cl,h1,h2,h3,λi x m hx hm=>⟨(h4 i x m hx hm).1,(h4 i x m hx hm).2.mono hstep⟩⟩
 ·rcases hG i with q | q
  ·rw[q];exact(st.fr i).mono hstep
  ·rw[q];exact hrel (st.fr i)
def vV{α:Type}(base sz:Nat)(ws:Nat->Nat)(rows:List (List α)):List PV:=(List.range rows.length).map λi=>.sl (base+i) (ws i) sz 0 (rows.getD i []).length
theorem Zc6{α:Type}(base sz:Nat)(ws:Nat->Nat)(rows:List (List α)):(vV base sz ws rows).length=rows.length:=by simp[vV]
theorem ZhD{α:Type}(base sz:Nat)(ws:Nat->Nat)(rows:List (List α))(i:Nat)(h:i<rows.length):(vV base sz ws rows)[i]?=some (.sl (base+i) (ws i) sz 0 (rows.getD i []).length):=by
 simp[vV,h]
theorem Zc7{α:Type}(base sz:Nat)(ws:Nat->Nat)(rows:List (List α))(i:Nat)(h:i<rows.length):∃tl,(vV base sz ws rows).drop i=.sl (base+i) (ws i) sz 0 (rows.getD i []).length :: tl:=by
 refine⟨(vV base sz ws rows).drop (i+1),?_⟩
 grind[vV,List.drop_eq_getElem_cons]
structure RowsAt {α:Type} [Enc α] (T:Store) (A va tA base e sz:Nat) (ws:Nat->Nat) (rows:List (List α)):Prop where
 arr:T A=.cells va tA (vV base sz ws rows)
 row:∀i,i<rows.length->T (base+i)=.cells (ws i) e ((rows.getD i []).flatMap Enc.enc)
 out:A<base
theorem RowsAt.other{α:Type}[Enc α]{T T':Store}{A va tA base e sz:Nat}{ws:Nat->Nat}{rows:List (List α)}(h:RowsAt T A va tA base e sz ws rows)(hT:∀o,o=A\/(base<=o/\o<base+rows.length)->T' o=T o):RowsAt T' A va tA base e sz ws rows :=
 ⟨(hT A (.inl rfl)).trans h.arr,λi hi=>(hT _ (.inr ⟨by omega,by omega⟩)).trans (h.row i hi),h.out⟩
theorem RowsAt.turn{α:Type}[Enc α]{T T':Store}{A va tA base e sz:Nat}{ws:Nat->Nat}{rows:List (List α)}(h:RowsAt T A va tA base e sz ws rows){i:Nat}(hi:i<rows.length)(w:Nat)(l:List α)
  (hA:T' A=.cells va tA ((vV base sz ws rows).set i (.sl (base+i) w sz 0 l.length))) (hB:T' (base+i)=.cells w e (l.flatMap Enc.enc)) (hT:∀o,o≠A->o≠base+i->T' o=T o):RowsAt T' A va tA base e sz (λk=>if k=i then w else ws k) (rows.set i l):=by
 have hout:=h.out;refine⟨?_,λk hk=>?_,h.out⟩
 ·rw[hA];congr 1;apply AY
  grind[Zc6,ZhD]
 ·rw[Bt]at hk
  by_cases hki:k=i
  ·simp_all
  ·rw[hT _ DY DY,h.row k hk,if_neg hki]
   grind
theorem Zrp{α:Type}(base sz:Nat)(ws:Nat->Nat)(m:Nat):vV (α:=α) base sz ws (List.replicate m [])=(List.range m).map λi=>.sl (base+i) (ws i) sz 0 0:=by simp_all[vV]
theorem ZhE{α:Type}[Enc α](A va tA base e sz m:Nat)(hAb:A<base):∀(j k:Nat) (T:Store) (ws:Nat->Nat),k+j=m->T A=.cells va tA ((List.range k).map (λi=>.sl (base+i) (ws i) sz 0 0)++List.replicate j (.sc (.slice none 0 0))) ->
  (∀i,i<k->T (base+i)=.cells (ws i) e [])->zS (base+k) T ->
  (∀(T':Store) (ws':Nat->Nat),RowsAt T' A va tA base e sz ws' (List.replicate m ([]:List α))->(∀o,o≠A->o<base->T' o=T o)->zS (base+m) T'->PW P r n N c Q F T')->PW P r n N c Q F T
 | 0,k,T,ws,hk,hA,hrow,hd,h=>by
  obtain rfl:k=m:=DY
  refine h T ws ⟨by rw[hA,Zrp];simp,λi hi=>?_,hAb⟩ (λ_ _ _=>rfl) hd
  simp_all
 | j+1,k,T,ws,hk,hA,hrow,hd,h=>by
  have hget:((List.range k).map (λi=>PV.sl (base+i) (ws i) sz 0 0)++List.replicate (j+1) (.sc (.slice none 0 0)))[k]?=some (.sc (.slice none 0 0)):=by
   rw[Al DZ];simp
  refine Zbz (o:=A) k e sz hA hget (ZT (X:=λid v=>PW P r n N c Q F ((T.set id (.cells v e [])).set A (.cells va tA (((List.range k).map (λi=>PV.sl (base+i) (ws i) sz 0 0)++List.replicate (j+1) (PV.sc (.slice none 0 0))).set k (.sl id v sz 0 0))))) (base+k) (hd _ (Ag _)) λv=>?_);refine ZhE A va tA base e sz m hAb j (k+1) _ (λi=>if i=k then v else ws i) DY ?_ ?_ ?_ λT' ws' hR hT' hd'=>h T' ws' hR (λo ho hob=>?_) hd'
  ·rw[q11];congr 1;rw[BH _ _ DZ,AH,List.map_append];simp only[List.length_map,List.length_range,Bv,Bh,Bc,Az,Bo,if_true];rw[List.append_assoc];congr 1;refine AN λi hi=>?_
   have:=AL.1 hi;rw[if_neg DY]
  ·intro i hi;rw[q10 _ _ _ _ DY]
   by_cases hik:i=k
   ·subst hik;rw[q11,if_pos rfl]
   ·rw[q10 _ _ _ _ DY,if_neg hik];exact hrow i DY
  ·intro i hi;rw[q10 _ _ _ _ DY,q10 _ _ _ _ DY];exact hd i DY
  grind[q10]
theorem Zrq{α:Type}[Enc α](A va tA base e sz m:Nat){T:Store}(hA:T A=.cells va tA (List.replicate m (.sc (.slice none 0 0))))(hd:zS base T)
  (h:∀(T':Store) (ws:Nat->Nat),RowsAt T' A va tA base e sz ws (List.replicate m ([]:List α))->(∀o,o≠A->o<base->T' o=T o)->zS (base+m) T'->PW P r n N c Q F T'):PW P r n N c Q F T:=by
 have hAb:A<base:=by
  rcases Bi A base with q | q
  ·exact q
  ·rw[hd A q]at hA;cases hA
 exact ZhE A va tA base e sz m hAb m 0 T (λ_=>0) DY (by simpa using hA) (λi hi=>by omega) DY h
theorem ZhF{nx:Nat}{S:Store}{obs:List Ob}{id ver e0:Nat}{cs:List PV}(i e sz:Nat)(hlt:id<nx)(hs:S id=.cells ver e0 cs)(hi:cs[i]?=some (.sc (.slice none 0 0)))
  (h:∀v,PW P r n N c Q F (ext (S.set id (.cells ver e0 (cs.set i (.sl (nx+obs.length) v sz 0 0)))) nx (obs++[.cells v e []]))):PW P r n N c Q F (ext S nx obs) :=
 Zbz (o:=id) i e sz (by simp_all[zB]) hi (ZT (X:=λid' v=>PW P r n N c Q F (((ext S nx obs).set id' (.cells v e [])).set id (.cells ver e0 (cs.set i (.sl id' v sz 0 0))))) _ uZ λv=>by
  rw[qV,qc _ hlt];exact h v)
end
open Go Go.Proofs
instance:Enc Mv:=⟨λm=>Zc m,5,λ_=>rfl,λ_=>rfl⟩
@[simp] theorem ZzE(m:Mv):Enc.enc m=Zc m:=rfl
@[simp high] theorem ZzF(l:List Mv):(l.flatMap Enc.enc).length=l.length*5:=xy l
@[simp high] theorem ZzG(l:List Mv):(l.flatMap Enc.enc).take (l.length*5)=l.flatMap Enc.enc:=YE l
open Go Go.Proofs Hp
abbrev xG(x:Inst)(v:PV)(b:Int)(p f pr:PV):List PV:=[I x.days,I x.veh,I x.cap,I x.len,L x.cust,L x.dist,v,I b,p,f,pr]
theorem Zrr{S:Store}{id ver idF vF:Nat}(x:Inst)(v p pr:PV)(b:Int)(fs:List Int)(hS:S id=.cells ver 235 (xG x v b p (.sl idF vF 1 0 fs.length) pr))(hF:S idF=.cells vF 47 (fs.flatMap Enc.enc))(hl:fs.length<=1000):
  Spec prog 212 [.ptr id ver 0] S (λq S'=>q=I (jt fs)/\S'=S):=by
 refine yn func212 ntmps212 results212 λnx hd=>?_
 have hlt:id<nx:=yX hd hS DZ;have hltF:idF<nx:=yX hd hF DZ;have xw:=λobs=>zB (S:=S) (obs:=obs) hlt
 have xf:=λobs=>zB (S:=S) (obs:=obs) hltF
 refine D7 ?_
 repeat apply za
 refine ze [] (zo xw hS) ?_;refine zj (zC (λk:Nat=>k<=fs.length/\∀e∈fs.take k,e=0) (λk=>[(8,.sl idF vF 1 0 fs.length),(9,I fs.length),(10,I k)]) (λ_=>[]) (λk=>fs.length-k) 0 [] DZ DZ DZ ?_);rintro k ⟨hk,h0⟩;refine D7 ?_;refine za (zv rfl (λhc=>?_) (λhc=>?_))
 ·simp at hc;obtain⟨e,tl,a1,a2,a3,e0⟩:=zF rfl fs k hc;refine zh (za (zj (za (ze [] (zN xf hF e0 hc) ?_))));refine D7 ?_
  by_cases he:e=0
  ·repeat apply za
   refine zk (by simp[he]) ?_;refine zh (zb ?_);exact zq (k+1) [] ⟨hc,λy hy=>by rw[a3]at hy;rcases AB.1 hy with h | h;exact h0 y h;rw[AW.1 h];exact he⟩ DY (by simp[zu k (by omega)]) rfl DZ
  ·repeat apply za
   refine zm (by simp[he]) ?_;refine D7 ?_;exact zg ⟨_,S,rfl,⟨by simp[zp,Zc0 h0 a1 he],rfl⟩,zO hd⟩
 ·simp at hc;obtain rfl:k=fs.length:=DY
  rw[Ai]at h0;refine zx (D7 ?_);exact zg ⟨_,S,rfl,⟨by simp[zp,Xu h0],rfl⟩,zO hd⟩
theorem Zrs{S:Store}{id ver idD vD idF vF:Nat}{x:Inst}{v:List (List Visit)}{b:Int}{pr:PV}{ds:zA}{fs:List Int}{n:Nat}(k:Nat)(hS:S id=.cells ver 235 (xG x (L v) b (.sl idD vD 1 0 ds.length) (.sl idF vF 1 0 fs.length) pr))
  (hD:S idD=.cells vD 39 (ds.flatMap Enc.enc)) (hF:S idF=.cells vF 47 (fs.flatMap Enc.enc)) (d1:id≠idD) (d2:id≠idF) (d3:idD≠idF) (hx:InstH x) (hv:VsOk x.cust.length n v) (hb:b<=9223372036854775807) (hdl:ds.length<=1000) (hfl:fs.length<=1000) :
  Spec prog 211 [.ptr id ver 0,I k] S (λ_ S'=>S'=((S.set id (.cells ver 235 (xG x (L v) b (.sl idD (vD+1) 1 0 (ds.length+1)) (.sl idF (vF+1) 1 0 (fs.length+1)) pr))).set idD (.cells (vD+1) 39 ((ds++[(xE x b (jk v k x.cust.length)).1]).flatMap Enc.enc))).set idF
   (.cells (vF+1) 47 ((fs++[(xE x b (jk v k x.cust.length)).2]).flatMap Enc.enc))):=by
 have hst:=Zrm x v k n hx.cust hv;have hso:=Zqk (Zav hx hv k) hx.diag hb;generalize jk v k x.cust.length=st at hst hso ⊢;generalize xE x b st=r at hso ⊢;obtain⟨d,e⟩:=r;simp only at hso ⊢;refine yn func211 ntmps211 results211 λnx hd=>?_
 have hlt:id<nx:=yX hd hS DZ;have hltD:idD<nx:=yX hd hD DZ;have hltF:idF<nx:=yX hd hF DZ;have xw:=λobs=>(zB (S:=S) (obs:=obs) hlt).trans hS
 have xd:=λobs=>(zB (S:=S) (obs:=obs) hltD).trans hD
 have xf:=λobs=>(zB (S:=S) (obs:=obs) hltF).trans hF
 have g1:¬nx<=id:=DY
 have g2:¬nx<=idD:=DY
 have g3:¬nx<=idF:=DY
 have yw:=λ(o:Ob) obs=>(zB (S:=S.set idD o) (obs:=obs) hlt).trans ((q10 _ _ _ _ d1).trans hS)
 have zw:=λ(o o':Ob) obs=>(zB (S:=(S.set idD o).set id o') (obs:=obs) hlt).trans (q11 _ _ _)
 have zf:=λ(o o':Ob) obs=>(zB (S:=(S.set idD o).set id o') (obs:=obs) hltF).trans ((q10 _ _ _ _ d2.symm).trans ((q10 _ _ _ _ d3.symm).trans hF))
 have uw:=λ(o o' o'':Ob) obs=>(zB (S:=((S.set idD o).set id o').set idF o'') (obs:=obs) hlt).trans ((q10 _ _ _ _ d2).trans (q11 _ _ _))
 refine za (zz (some [id]) (Row.pures [0,1,2,3,4,5,6,7,8,9,10,11,12,13,14,15,16,17,18,19,20,21] (.alt 22 (.alt 23 (Row.pures [24] .done) .stop) .stop)) mixed xw ?_);refine zG (hst) xw ?_;refine zG (hso) xw ?_;intro v2;refine za (zz (some [nx]) (Row.pures [0,1,2,3,4,6,7] (.alt 5 (.alt 8 (Row.pures [9,10,11] (.alt 12 (.done) .stop)) .stop) .stop)) mixed (yF xw xd yw g1 g2) ?_);refine⟨by omega,?_⟩;refine ze [] (yF zw zf uw g1 g3) ?_;refine⟨by omega,?_⟩;have e1:∀(a b c d:Ob),(((S.set idD a).set id b).set idF c).set id d=((S.set id d).set idD a).set idF c:=by
  intro a b c d;funext i;simp only[Store.set]
  by_cases h1:i=id
  ·subst h1;simp[d1,d2]
  ·simp only[h1,if_false]
 have hdd:∀(a b c:Ob),zS nx (((S.set id a).set idD b).set idF c):=by
  intro a b c i hi;rw[q10 _ _ _ _ DY,q10 _ _ _ _ DY,q10 _ _ _ _ DY];exact hd i hi
 rw[e1];exact⟨_,_,rfl,by simp,zO (hdd _ _ _)⟩
theorem Zrt{S:Store}{id ver:Nat}(x:Inst)(v p f pr:PV)(b:Int)(fn:FuncId)(fs:List PV)(n:Nat)(hn:x.days=n)(hn2:n<=1000)(hS:S id=.cells ver 235 (xG x v b p f pr))(St:Nat->Store)(h0:St 0=S)
  (hSt:∀nx,zS nx S->∀k,k<=n->zS nx (St k)) (hstep:∀k,k<n->Spec prog fn (fs++[I k]) (St k) (λ_ S'=>S'=St (k+1))) :
  Spec prog 173 [.ptr id ver 0,.fn (.func fn) fs []] S (λ_ S'=>S'=St n):=by
 refine yn func173 ntmps173 results173 λnx hd=>?_
 have hlt:id<nx:=yX hd hS DZ;have xw:=λobs=>(zB (S:=S) (obs:=obs) hlt).trans hS
 have hSt:=hSt nx hd;refine za (ze [] (zo xw hn) ?_);refine zj (jC (σ:=Nat) (λk=>k<=n) (λk=>[(1,.fn (.func fn) fs []),(9,I n),(10,I k)]) (λk=>St k) (λ_=>[]) (λk=>n-k) (zT 0 [] DZ DZ h0 DZ) ?_);rintro k hk;refine D7 ?_;refine za (zv rfl (λhc=>?_) (λhc=>?_))
 ·simp at hc;refine zh (za (zj (D7 ?_)));refine zb ?_;refine λhsuf=>(Spec.mono (by rw[qI (hSt k hk)];simpa using hstep k hc) ?_).v
  rintro _ _ rfl;refine⟨St (k+1),[],(qI (hSt (k+1) hc)).symm,zL hsuf ?_⟩;refine zb ?_;exact zq (k+1) [] hc DY (by simp[zu k (by omega)]) rfl DZ
 ·simp at hc;obtain rfl:k=n:=DY
  refine zx ?_;exact⟨_,_,rfl,rfl,zO (hSt k (Ag _))⟩
theorem Zru{S:Store}{nx id ver:Nat}(hd:zS nx S){x:Inst}{v:List (List Visit)}{v0 p0 f0 pr:PV}{b:Int}{n:Nat}(hS:S id=.cells ver 235 (xG x v0 b p0 f0 pr))(hx:InstH x)(hn:x.days=n)(hn2:n<=1000)(hv:VsOk x.cust.length n v)(hb:b<=9223372036854775807):
  Spec prog 176 [.ptr id ver 0,L v] S (λq S'=>q=I (jt (ju x v b n))/\∃vD vF,S'=ext (S.set id (.cells ver 235 (xG x (L v) b (.sl nx vD 1 0 (xn x v b n).length) (.sl (nx+1) vF 1 0 (ju x v b n).length) pr))) nx
   [.cells vD 39 ((xn x v b n).flatMap Enc.enc),.cells vF 47 ((ju x v b n).flatMap Enc.enc)]):=by
 have hpl:=Zaw x v b;have hfl:=ZhB x v b;refine u6 hd func176 ntmps176 results176 ?_;have hlt:id<nx:=yX hd hS DZ;have g1:¬nx<=id:=DY
 have xw:=λobs=>(zB (S:=S) (obs:=obs) hlt).trans hS
 have yw:=λ(o:Ob) obs=>(zB (S:=S.set id o) (obs:=obs) hlt).trans (q11 _ _ _)
 refine D7 ?_;refine za (ze [] (zN xw yw g1 Store.set_set) ?_);refine ZhF (id:=id) 8 39 1 hlt (q11 _ _ _) rfl λvD=>?_
 rw[Store.set_set];refine ZhF (id:=id) 9 47 1 hlt (q11 _ _ _) rfl λvF=>?_
 rw[Store.set_set];simp only[AX,Bc,Ad,Ah,List.cons_append,AK,BF,AQ];generalize hSt:(λk:Nat=>ext (S.set id (.cells ver 235 (xG x (L v) b (.sl nx (vD+k) 1 0 (xn x v b k).length) (.sl (nx+1) (vF+k) 1 0 (ju x v b k).length) pr))) nx
   [.cells (vD+k) 39 ((xn x v b k).flatMap Enc.enc),.cells (vF+k) 47 ((ju x v b k).flatMap Enc.enc)])=St
 have hSk:∀k,St k=ext (S.set id (.cells ver 235 (xG x (L v) b (.sl nx (vD+k) 1 0 (xn x v b k).length) (.sl (nx+1) (vF+k) 1 0 (ju x v b k).length) pr))) nx
   [.cells (vD+k) 39 ((xn x v b k).flatMap Enc.enc),.cells (vF+k) 47 ((ju x v b k).flatMap Enc.enc)]:=λk=>by rw[<-hSt]
 have h0:St 0=ext (S.set id (.cells ver 235 (xG x (L v) b (.sl nx vD 1 0 0) (.sl (nx+1) vF 1 0 0) pr))) nx [.cells vD 39 [],.cells vF 47 []]:=hSk 0;have hid:∀k,St k id=.cells ver 235 (xG x (L v) b (.sl nx (vD+k) 1 0 (xn x v b k).length) (.sl (nx+1) (vF+k) 1 0 (ju x v b k).length) pr):=λk=>by rw[hSk k,zB hlt,q11]
 have hstep:∀k,k<n->Spec prog 211 ([.ptr id ver 0]++[I k]) (St k) (λ_ S'=>S'=St (k+1)):=by
  intro k hk;have h1:=hpl k;have h2:=hfl k;refine(Zrs (idD:=nx) (idF:=nx+1) (n:=n) k (hid k) (by rw[hSk k];simp) (by rw[hSk k];simp) DY DY DY hx hv hb DY DY).mono ?_;rintro _ _ rfl;rw[hSk k,hSk (k+1),qc _ hlt,Store.set_set,yl _ DY DZ,yl _ DY DZ,ZhC,Zrl];simp[Nat.add_assoc]
 have hdead:∀m,zS m (St 0)->∀k,k<=n->zS m (St k):=by
  intro m hm k _ i hi;have hge:nx+1<m:=by
   rcases Bi (nx+1) m with q | q
   ·exact q
   ·have:=hm (nx+1) q;rw[hSk 0]at this;simp at this
  rw[hSk k];simp only[ext];rw[if_neg DY,Aa,Ak D2];rfl
 rw[<-h0];have hn0:=hid 0;have hnx2:nx+2=nx+[Ob.cells (vD+0) 39 ((xn x v b 0).flatMap Enc.enc),.cells (vF+0) 47 ((ju x v b 0).flatMap Enc.enc)].length:=rfl;have hb0:∀k,St k=ext (St k) (nx+2) []:=λk=>by
  refine(qI ?_).symm;rw[hSk k];exact jU (obs:=[_,_])
 rw[hb0 0];refine D7 ?_;refine λhsuf=>((Zrt x (L v) _ _ pr b _ _ n hn hn2 (by rw[<-hb0 0];exact hn0) St (hb0 0) (λm hm k hk=>hdead m (by rw[hb0 0];exact hm) k hk) hstep).mono ?_).v
 rintro _ _ rfl;refine⟨_,_,hb0 n,zL hsuf ?_⟩;refine D7 ?_;refine λhsuf=>((Zrr (idF:=nx+1) x _ _ _ _ (ju x v b n) (by rw[<-hb0 n];exact hid n) (by rw[<-hb0 n,hSk n];simp) (by rw[hfl];exact hn2)).mono ?_).v
 rintro _ _ ⟨rfl,rfl⟩;refine⟨_,_,rfl,zL hsuf ?_⟩;refine zg ⟨_,St n,rfl,⟨by simp[zp],vD+n,vF+n,hSk n⟩,λo=>.inl ?_⟩;rw[<-hb0 n]
open Go Go.Proofs Hp
theorem Zrv(n:Nat):qb n (.slice none 0 0)=List.replicate n (.sc (.slice none 0 0)):=by
 induction n with
 | zero=>simp
 | succ n ih=>rw[Qe,ih];rfl
open Go
abbrev T(s:ByteArray):PV:=.sc (.string s)
instance:Enc ByteArray:=⟨λx=>[T x],1,λ_=>rfl,λ_=>rfl⟩
@[simp] theorem ZzH(x:ByteArray):Enc.enc x=[T x]:=rfl
@[simp high] theorem Zax(l:List ByteArray):(l.flatMap Enc.enc).length=l.length:=(xy l).trans (B7 _)
abbrev bs(l:List UInt8):ByteArray:=⟨l.toArray⟩
theorem Zrw(a b:List UInt8):bs a++bs b=bs (a++b):=by
 apply ByteArray.ext;simp
theorem vw(l:List UInt8):(bs l).size=l.length:=by simp[ByteArray.size]
def yc(n:Nat):List UInt8:=if h:n<10 then [UInt8.ofNat (48+n)] else yc (n / 10)++[UInt8.ofNat (48+n % 10)]
termination_by n
decreasing_by omega
theorem Js{n:Nat}(h:n<10):yc n=[UInt8.ofNat (48+n)]:=by simp_all[yc]
theorem Xw{n:Nat}(h:¬n<10):yc n=yc (n / 10)++[UInt8.ofNat (48+n % 10)]:=by rw[yc,dif_neg h]
def YR(l:List UInt8):Nat:=l.foldl (λa c=>10*a+(c.toNat-48)) 0
theorem ZhG(l:List UInt8)(c:UInt8):YR (l++[c])=10*YR l+(c.toNat-48):=by simp[YR]
theorem YS{k:Nat}(h:k<10):(UInt8.ofNat (48+k)).toNat=48+k:=by grind[UInt8.toNat_ofNat']
theorem Zrx(n:Nat):YR (yc n)=n:=by
 induction n using Nat.strongRecOn with
 | _ n ih =>
  by_cases h:n<10
  ·rw[Js h];simp only[YR,A4,List.foldl_nil,YS h];omega
  grind[Xw,ZhG,YS]
theorem ZhH(n:Nat):∀c∈yc n,48<=c.toNat/\c.toNat<=57:=by
 induction n using Nat.strongRecOn with
 | _ n ih =>
  intro c hc
  by_cases h:n<10
  ·grind[Js,YS]
  ·rw[Xw h,AB,AW]at hc
   grind[YS]
theorem ZhI(n:Nat):yc n≠[]:=by by_cases h:n<10<;>simp_all[Js,Xw]
theorem Zry(n:Nat)(h:1<(yc n).length):∃c l,yc n=c :: l/\c.toNat≠48:=by
 induction n using Nat.strongRecOn with
 | _ n ih =>
  by_cases h0:n<10
  ·rw[Js h0]at h;simp at h
  grind[Xw,Js,YS]
theorem Zc8(n:Nat):∀k,n<10 ^ (k+1)->(yc n).length<=k+1:=by
 induction n using Nat.strongRecOn with
 | _ n ih =>
  intro k hk
  by_cases h:n<10
  ·simp_all[Js]
  ·rw[Xw h,Ar,Br];cases k with
   | zero=>omega
   | succ k =>
    have:=ih (n / 10) DY k DY;omega
def ZF(w:List UInt8):Prop:=w≠[]/\∀c∈w,33<=c.toNat/\c.toNat<=126
theorem QG(n:Nat):ZF (yc n):=⟨ZhI n,λc hc=>by grind[ZhH]⟩
def yi:List (List UInt8)->List UInt8
 | []=>[]
 | [w]=>w
 | w :: v :: ws=>w++32 :: yi (v :: ws)
theorem Xx(w v:List UInt8)(ws:List (List UInt8)):yi (w :: v :: ws)=w++32 :: yi (v :: ws):=rfl
theorem ZhJ(ws:List (List UInt8))(w v:List UInt8):yi (v :: ws++[w])=yi (v :: ws)++32 :: w:=by
 induction ws generalizing v with
 | nil=>rfl
 | cons u us ih =>
  simp_all[Xx]
def qL(ls:List (List (List UInt8))):List UInt8:=ls.flatMap λws=>yi ws++[10]
theorem WI(ws:List (List UInt8))(ls:List (List (List UInt8))):qL (ws :: ls)=yi ws++10 :: qL ls:=by simp[qL]
theorem ZhK(ls:List (List (List UInt8)))(ws:List (List UInt8)):qL (ls++[ws])=qL ls++(yi ws++[10]):=by simp[qL]
theorem Zrz{ws:List (List UInt8)}{c:UInt8}(h:c∈yi ws):c=32\/∃w∈ws,c∈w:=by
 induction ws with
 | nil=>simp[yi]at h
 | cons w ws ih =>
  cases ws with
  | nil=>exact .inr ⟨w,by simp,h⟩
  | cons v ws =>
   grind[Xx]
theorem ZrA{ws:List (List UInt8)}(hw:∀w∈ws,ZF w):(10:UInt8) ∉ yi ws:=by
 intro h;rcases Zrz h with h | ⟨w,hm,hc⟩
 ·cases h
 ·have:=(hw w hm).2 10 hc;simp at this
open Go Go.Proofs
abbrev U8(b:UInt8):PV:=.sc (.int .u8 (b.toNat:Int))
theorem ZrB(l:List UInt8):strOfNums (l.map λb=>(b.toNat:Int))=bs l:=by simp[strOfNums,AN]
theorem Jt(a b:List UInt8)(h:a.length+b.length<=9223372036854775807):jT .add (bs a) (bs b)=some (.string (bs (a++b))):=by simp_all[jT,vw,Zrw]
theorem ZhL{P:Program}{w:World}{src dst e b off len cap:Nat}{l:List UInt8}(hs:P.underlying src=some (.slice e))(he:P.underlying e=some (.int .u8))(hd:P.underlying dst=some .string)(hlen:l.length=len)
  (hcell:∀(i:Nat) (u:UInt8),l[i]?=some u->w.cell? ⟨b,off+i,none⟩=some (.int .u8 (u.toNat:Int))):(convert src dst (.slice (some ⟨b,off,none⟩) len cap)).run P w=.ok (.string (bs l)) w:=by
 have:=run_convert_bytes_arg (P:=P) w src e hs he b off len cap (l.map λb=>(b.toNat:Int)) (by simpa using hlen) (λi hi=>by
  have hil:i<l.length:=DY
  rw[hcell i l[i] (Ae hil)];simp[Aa,Ae hil]) dst hd
 simp_all[ZrB]
theorem ZhM{P:Program}{o:Oper}{src dst:TypeId}{x:Operand}{a:Act}{w:World}{v:Value}(ho:o.op=.convert src dst x)(h:(convert src dst (a.eval x)).run P w=.ok v w):(execOp a.eval o).run P w=.ok (.value v) w:=by simp_all[execOp]
theorem ZrC{P:Program}{n:Nat}{F:Nat->PV}{S:Store}{o:Oper}{src dst e:TypeId}{x:Operand}{l:List UInt8}{K:PV->Store->Prop}(ho:o.op=.convert src dst x)(hs:P.underlying src=some (.slice e))(he:P.underlying e=some (.int .u8))(hd:P.underlying dst=some .string)
  (hx:ev F x=.lst l.length (l.map U8)) (hK:K (T (bs l)) S):PO P wK n o F S K:=by
 intro G hG C w a N st next Q' hnext;have e1:=st.ev x;rw[(hG x (by simp[ho,Op.operands])).trans hx]at e1;have hnd:∀c,o.op≠.defer c:=by intro c hc;rw[ho]at hc;cases hc
 have hrun:(convert src dst (a.eval x)).run P w=.ok (.string (bs l)) w:=by
  generalize a.eval x=v at e1;generalize hm:l.length=m at e1;generalize hcs:l.map U8=cs at e1;cases e1 with
  | lst0 =>
   rename_i cap ad;obtain rfl:l=[]:=Av hm;cases ad with
   | none=>exact run_convert_bytes_nil w src e hs he 0 cap dst hd
   | some ad =>
    have:=run_bytesToString (P:=P) w ad 0 cap [] (by simp[loadCells,loadCellsFrom]);rw[run_convert_bytes_string w src dst e _ 0 cap hs he hd,this];rfl
  | lst1 hn hmx hb hM hsz h1 hr =>
   rename_i cap b off c et fz;refine ZhL hs he hd hm λi u hu=>?_
   have hi:i<l.length:=(Ac.1 hu).1;have hp:cs[i]?=some (U8 u):=by rw[<-hcs,Aj,hu];rfl
   have hcl:cs.length=l.length:=by rw[<-hcs,List.length_map]
   have hsz':=hsz (by intro h;rw[h]at hcl;simp at hcl;omega);have hv:=hr i _ _ hp (A5 DY);generalize hq:c[off+i]' DY=q at hv;cases hv
   grind[World.cell?]
 exact qj hnd (ZhM ho hrun) (hnext _ _ _ _ _ hK (.sc _) st.sim (Step.refl _ _ _))
theorem ZrD{P:Program}{n:Nat}{F:Nat->PV}{S:Store}{o:Oper}{src dst e:TypeId}{x:Operand}{l:List UInt8}{id ver et off:Nat}{cs:List PV}{K:PV->Store->Prop}(ho:o.op=.convert src dst x)(hs:P.underlying src=some (.slice e))(he:P.underlying e=some (.int .u8))(hd:P.underlying dst=some .string)
  (hx:ev F x=.sl id ver 1 off l.length) (hid:S id=.cells ver et cs) (hl:∀(i:Nat) (u:UInt8),l[i]?=some u->cs[off+i]?=some (U8 u)) (h0:0<l.length) (hK:K (T (bs l)) S):PO P wK n o F S K:=by
 intro G hG C w a N st next Q' hnext;have e1:=st.ev x;rw[(hG x (by simp[ho,Op.operands])).trans hx]at e1;have hnd:∀c,o.op≠.defer c:=by intro c hc;rw[ho]at hc;cases hc
 have hrun:(convert src dst (a.eval x)).run P w=.ok (.string (bs l)) w:=by
  generalize a.eval x=v at e1;generalize hm:l.length=m at e1;cases e1 with
  | sl h1 h2 h3 =>
   rcases (h3 ver (by rw[hid];rfl)).2 rfl with ⟨_,z2,_,_⟩ | ⟨b,k,ad,cap,z1,z2,z3,z4⟩
   ·omega
   ·obtain rfl:=z4 DY;subst z2;rcases st.sim.cells id ver et cs hid with ⟨hn,_⟩ | ⟨b2,k2,c,g1,g2,g3,g4,g5,g6⟩
    ·rw[hn]at z1;cases z1
    ·rw[g1]at z1;cases z1;refine ZhL hs he hd hm λi u hu=>?_
     have hp:=hl i u hu;have hi:off+i<cs.length:=(Ac.1 hp).1;have hv:=g6 (off+i) _ _ hp (A5 DY);generalize hq:c[off+i]' DY=q at hv;cases hv
     grind[World.cell?]
 exact qj hnd (ZhM ho hrun) (hnext _ _ _ _ _ hK (.sc _) st.sim (Step.refl _ _ _))
open Go Go.Proofs
theorem ZhN(k:Nat)(h:k<256):IntKind.u8.wrap (k:Int)=k:=by
 have e:IntKind.u8.wrap (k:Int)=(k:Int) % 256:=by simp[IntKind.wrap,IntKind.bits,IntKind.signed]
 rw[e];omega
theorem ZhO(n:Nat)(hn:n<=9223372036854775807):Pure prog 53 [I n] (T (bs (yc n))):=by
 induction n using Nat.strongRecOn with
 | _ n ih =>
  have hr:((n:Int)).tmod 10=((n % 10:Nat):Int):=by rw[Bj DY];omega
  have hq:((n:Int)).tdiv 10=((n / 10:Nat):Int):=by rw[Cj DY];omega
  have hs1:n<10->yc n=[UInt8.ofNat (48+n % 10)]:=λh=>by rw[Js h,Dx h]
  have hs2:¬n<10->yc n=yc (n / 10)++[UInt8.ofNat (48+n % 10)]:=Xw;have hu:=YS (k:=n % 10) DY;have hr9:n % 10<10:=DY
  have hm9:n / 10<=n/\(¬n<10->n / 10<n):=DY
  generalize UInt8.ofNat (48+n % 10)=u at *;generalize n % 10=r at *;generalize n / 10=m at *;have hw:W (m:Int)=m:=by simp only[W,AG];omega
  have hw2:W (48+(r:Int))=(u.toNat:Int):=by rw[hu];simp only[W,AG];omega
  have hw3:=ZhN u.toNat DY;have h0:¬(n:Int)<0:=DY
  refine zr func53 ntmps53 results53 λS nx hd=>?_
  refine D7 ?_
  repeat apply za
  refine ze [] h0 ?_;refine zk DZ ?_;refine zh (za (ze [] (zD hr hw2 hw3) ?_));refine λhsuf=>ZrC (e:=5) (l:=[u]) rfl DZ DZ DZ DZ ?_
  refine⟨_,_,rfl,zL hsuf ?_⟩
  repeat apply za
  refine zb ?_;refine zv rfl (λh=>?_) (λh=>?_)
  ·simp at h;have hdec:=ih m (hm9.2 DY) DY;have hsz:=Jt (yc m) [u] (by have:=Zc8 m 18 (by omega);simp;omega);refine za (ze [] (zo hq hw) ?_);refine qt [] hdec hsz ?_;exact zg (zi hd D0 (by rw[hs2 (by omega)];rfl))
  ·simp at h;refine zh (D7 ?_);exact zg (zi hd D0 (by rw[hs1 (by omega)];rfl))
def ut(l:List Nat):List ByteArray:=l.map λn=>bs (yc n)
theorem Zc9(l:List Nat)(hl:l.length<=1048576)(hn:∀n∈l,n<=9223372036854775807):Pure prog 52 [L (l.map λn:Nat=>(n:Int))] (L (ut l)):=by
 obtain⟨zs,hzs⟩:∃zs:List Int,zs=l.map λn:Nat=>(n:Int):=⟨_,rfl⟩
 have hzl:zs.length=l.length:=by rw[hzs,List.length_map]
 have hat:∀(k n:Nat),l[k]?=some n->zs[k]?=some (n:Int):=λk n e=>by rw[hzs,Aj,e];rfl
 rw[<-hzs];refine zr func52 ntmps52 results52 λS nx hd=>?_
 refine D7 ?_;refine D7 ?_;refine qx 3 9 1 rfl λv3=>?_
 repeat apply za
 refine zb ?_;refine zj (zC (λs:Nat × Nat=>s.1<=zs.length) (λ(k,w)=>[(0,L zs),(3,.sl nx w 1 0 k),(4,I k)]) (λ(k,w)=>[.cells w 9 ((ut (l.take k)).flatMap Enc.enc)]) (λs=>zs.length-s.1) (0,v3) [] DZ DZ (by simp[ut]) ?_);rintro⟨k,w⟩ hk;simp only at hk ⊢
 repeat apply za
 refine zb ?_;refine zv rfl (λhc=>?_) (λhc=>?_)
 ·simp at hc;obtain⟨n,hn1⟩:∃n,l[k]?=some n:=⟨_,Ae DY⟩;obtain⟨z,tl,b1,b2,b3,f0⟩:=zF rfl zs k hc;obtain rfl:z=(n:Int):=by have:=hat k n hn1;rw[b1]at this;exact Option.some.inj this
  have hdec:=ZhO n (hn n (Ab hn1));have hnx:ut (l.take (k+1))=ut (l.take k)++[bs (yc n)]:=by rw[AJ,hn1];simp[ut]
  have hf:(ut (l.take k)).length=k:=by simp[ut];omega
  have hf2:((ut (l.take k)).flatMap Enc.enc:List PV).take k=(ut (l.take k)).flatMap Enc.enc:=Af (by rw[Zax];omega);generalize ut (l.take k)=ws at *;refine zh (za (zj (ze [] (zo f0 hc) ?_)));refine qt [] hdec (zo hf hf2) ?_;refine⟨by omega,?_⟩;refine zb ?_;exact zq (k+1,w+1) [] hc D2 (by simp[zu k (by omega)]) rfl (by simp[hnx])
 ·simp at hc;obtain rfl:k=zs.length:=DY
  refine zx (zX 0 rfl ?_);refine D7 ?_;exact zg (zi hd D0 (by rw[hzl,Ai];simp[zp,ut]))
theorem ZrE(ws:List (List UInt8))(w:List UInt8):yi (ws++[w])=(if ws=[] then [] else yi ws++[32])++w:=by
 cases ws with
 | nil=>rfl
 | cons v vs=>rw[ZhJ,if_neg DZ];simp
theorem ZrF(ws:List (List UInt8))(hl:ws.length<=1048576)(hw:(yi ws).length<=1099511627776)(hp:∀k,(yi (ws.take k)).length<=1099511627776):Pure prog 42 [L (ws.map bs)] (T (bs (yi ws++[10]))):=by
 refine zr func42 ntmps42 results42 λS nx hd=>?_
 refine D7 ?_;refine D7 ?_
 repeat apply za
 refine zb ?_;refine zj (zC (λk:Nat=>k<=ws.length) (λk=>[(0,L (ws.map bs)),(3,T (bs (yi (ws.take k)))),(4,I k)]) (λ_=>[]) (λk=>ws.length-k) 0 [] DZ (by simp[yi]) DZ ?_);rintro k hk
 repeat apply za
 refine zb ?_;refine zv rfl (λhc=>?_) (λhc=>?_)
 ·simp at hc;obtain⟨w,tl,b1,b2,b3,f0⟩:=zF rfl (ws.map bs) k (by simpa using hc);obtain⟨u,hu,rfl⟩:∃u,ws[k]?=some u/\bs u=w:=by rw[Aj]at b1;simpa using b1
  have hnx:yi (ws.take (k+1))=(if ws.take k=[] then [] else yi (ws.take k)++[32])++u:=by rw[AJ,hu];exact ZrE _ _
  have hpk:=hp k;have hpk1:=hp (k+1);have hul:u.length<=(yi (ws.take (k+1))).length:=by rw[hnx,Ar];omega
  have hkl:k<ws.length:=by simpa using hc
  refine zh (za (zj ?_))
  by_cases h0:0<k
  ·have e:¬ws.take k=[]:=by intro h;have:=congrArg List.length h;rw[Ay,Ah]at this;omega
   rw[if_neg e]at hnx;have hlen:=congrArg List.length hnx;simp only[Ar,Br]at hlen;have s1:=Jt (yi (ws.take k)) [32] (by simp only[Br];omega);have s2:=Jt (yi (ws.take k)++[32]) u (by simp only[Ar,Br];omega);generalize yi (ws.take k)=J0 at *
   repeat apply za
   refine ze [] h0 ?_;refine zm (by simp[h0]) ?_;refine ze [] s1 ?_;refine ze [] (zD f0 hkl s2) ?_;refine zb ?_;exact zq (k+1) [] hkl DY (by simp[zu k (by omega),hnx]) rfl DZ
  ·have e:ws.take k=[]:=by rw[show k=0 by omega];rfl
   rw[if_pos e]at hnx;rw[e,show yi ([]:List (List UInt8))=[] from rfl];have s2:=Jt [] u (by simp only[Ah];omega);rw[AK]at hnx s2
   repeat apply za
   refine ze [] h0 ?_;refine zk (by simp[h0]) ?_;refine zh (ze [] (zD f0 hkl s2) ?_);refine zb ?_;exact zq (k+1) [] hkl DY (by simp[zu k (by omega),hnx]) rfl DZ
 ·simp at hc;obtain rfl:k=ws.length:=DY
  have hs:=Jt (yi ws) [10] (by simp only[Br];omega);refine zx (We (λ_=>.inl rfl) ?_);rw[Ai];refine za (ze [] hs ?_);exact D8 hd
open Go Go.Proofs
def xH(c:UInt8):List UInt8->Option (List UInt8 × List UInt8)
 | []=>none
 | x :: xs=>if x=c then some ([],xs) else (xH c xs).map λp=>(x :: p.1,p.2)
theorem Xy{c:UInt8}{l a b:List UInt8}(h:xH c l=some (a,b)):l=a++c :: b/\c ∉ a:=by induction l generalizing a b<;>grind[xH,Option.map_eq_some_iff]
theorem Zda{c:UInt8}{l:List UInt8}(h:xH c l=none):c ∉ l:=by induction l<;>grind[xH,Option.map_eq_none_iff]
theorem ZrG{c:UInt8}{a:List UInt8}(b:List UInt8)(h:c ∉ a):xH c (a++c :: b)=some (a,b):=by induction a<;>grind[xH]
theorem ZhP{c:UInt8}{l a b:List UInt8}(h:xH c l=some (a,b)):b.length<l.length:=by
 rw[(Xy h).1];simp;omega
def y8(c:UInt8):List UInt8->List (List UInt8)
 | []=>[[]]
 | x :: xs=>if x=c then [] :: y8 c xs else match y8 c xs with
  | []=>[[x]]
  | h :: t=>(x :: h) :: t
theorem ZhQ(c x:UInt8)(xs:List UInt8):y8 c (x :: xs)=if x=c then [] :: y8 c xs else match y8 c xs with
  | []=>[[x]]
  | h :: t=>(x :: h) :: t:=rfl
theorem Zdb(c:UInt8)(l:List UInt8):y8 c l≠[]:=by cases l<;>grind[y8]
theorem ZhR{c:UInt8}{a:List UInt8}(h:c ∉ a):y8 c a=[a]:=by
 induction a with
 | nil=>rfl
 | cons x a ih =>
  grind[ZhQ]
theorem ZhS{c:UInt8}{a:List UInt8}(b:List UInt8)(h:c ∉ a):y8 c (a++c :: b)=a :: y8 c b:=by induction a<;>grind[ZhQ]
theorem ZrH(c:UInt8)(l:List UInt8):y8 c l=match xH c l with
  | none=>[l]
  | some (a,b)=>a :: y8 c b:=by
 cases h:xH c l with
 | none=>simp_all[ZhR,Zda]
 | some p=>obtain⟨a,b⟩:=p;obtain⟨h1,h2⟩:=Xy h;simp_all[ZhS]
theorem ZrI(c:UInt8)(l:List UInt8):(y8 c l).length<=l.length+1:=by induction l<;>grind[y8]
theorem ZrJ(c:UInt8)(l:List UInt8):∀w∈y8 c l,w.length<=l.length:=by induction l<;>grind[y8]
theorem ZrK{ws:List (List UInt8)}(hne:ws≠[])(hw:∀w∈ws,(32:UInt8) ∉ w):y8 32 (yi ws)=ws:=by
 induction ws with
 | nil=>simp_all
 | cons w ws ih =>
  cases ws with
  | nil=>exact ZhR (hw w DZ)
  | cons v ws =>
   simp_all[Xx,ZhS]
def ZG(w:List UInt8):Bool:=decide (w≠[]) && w.all λc=>decide (33<=c.toNat/\c.toNat<=126)
theorem Zay(w:List UInt8):ZG w=true<->ZF w:=by simp[ZG,ZF]
theorem ZhT{w:List UInt8}{k:Nat}{c:UInt8}(h:w[k]?=some c)(hc:¬(33<=c.toNat/\c.toNat<=126)):ZG w=false:=by grind[ZG]
def wu(t:List UInt8):Option (List (List (List UInt8))) :=
 if t=[] then some [] else
  match h:xH 10 t with
  | none=>none
  | some (a,b)=>if (y8 32 a).all ZG=true then (wu b).map (y8 32 a :: ·) else none
termination_by t.length
decreasing_by exact ZhP h
theorem Zaz:wu []=some []:=by rw[wu,if_pos rfl]
theorem ZhU{t:List UInt8}(h0:t≠[])(h:xH 10 t=none):wu t=none:=by grind[wu]
theorem ZaA{t a b:List UInt8}(h:xH 10 t=some (a,b)):wu t=if (y8 32 a).all ZG=true then (wu b).map (y8 32 a :: ·) else none:=by
 rw[wu,if_neg (by rintro rfl;cases h)]
 grind
theorem ZrL{t a b:List UInt8}(h:xH 10 t=some (a,b)){k:Nat}{w:List UInt8}(hw:(y8 32 a)[k]?=some w)(hb:ZG w=false):wu t=none:=by
 rw[ZaA h,if_neg]
 grind
theorem ZrM{w:List UInt8}(h:ZF w):(32:UInt8) ∉ w/\(10:UInt8) ∉ w :=
 ⟨λhc=>by have:=(h.2 32 hc).1;simp at this,λhc=>by have:=(h.2 10 hc).1;simp at this⟩
theorem ZrN{ls:List (List (List UInt8))}(h0:∀l∈ls,l≠[])(h:∀l∈ls,∀w∈l,ZF w):wu (qL ls)=some ls:=by
 induction ls with
 | nil=>exact Zaz
 | cons l ls ih =>
  have hl:=h l DZ;have hc:xH 10 (qL (l :: ls))=some (yi l,qL ls):=by
   rw[WI];exact ZrG _ (ZrA hl)
  grind[ZrK,ZrM,ZaA,Zay]
theorem ZrO(l:List UInt8):yi (y8 32 l)=l:=by
 induction l with
 | nil=>rfl
 | cons x xs ih =>
  unfold y8;split
  ·rename_i e;cases h:y8 32 xs<;>simp_all[Zdb,Xx]
  ·cases h:y8 32 xs with
   | nil=>simp_all[Zdb]
   | cons v vs =>
    rw[h]at ih;cases vs<;>simp_all[yi]
theorem ZrP(n:Nat):∀{t:List UInt8} {ls:List (List (List UInt8))},t.length<=n->wu t=some ls->qL ls=t/\(∀l∈ls,l≠[])/\(∀l∈ls,∀w∈l,ZF w):=by
 induction n with
 | zero =>
  intro t ls hn h;obtain rfl:=Av (Nat.le_zero.1 hn);rw[Zaz]at h;cases h;exact⟨rfl,by simp,by simp⟩
 | succ n ih =>
  intro t ls hn h
  by_cases h0:t=[]
  ·grind
  ·cases hc:xH 10 t with
   | none=>simp_all[ZhU]
   | some p =>
    obtain⟨a,b⟩:=p;rw[ZaA hc]at h;split at h
    ·rename_i hw;obtain⟨ms,hm,rfl⟩:=Ao.1 h;have:=ZhP hc
     grind[Xy,WI,ZrO,Zdb,Zay]
    ·cases h
theorem ZhV{α:Type}{p:List α->Prop}(h0:p [])(h1:∀l a,p l->p (l++[a]))(l:List α):p l:=by
 have:∀m:List α,p m.reverse:=by
  intro m
  induction m with
  | nil=>exact h0
  | cons a m ih=>rw[Cz];exact h1 _ _ ih
 have:=this l.reverse
 simp_all
def wR(l:List UInt8):Nat:=l.foldl (λn c=>if 100000000000000000<=n then 1000000000000000000 else 10*n+(c.toNat-48)) 0
theorem Zdc(l:List UInt8)(c:UInt8):wR (l++[c])=if 100000000000000000<=wR l then 1000000000000000000 else 10*wR l+(c.toNat-48):=by grind[wR]
def YT(w:List UInt8):Bool:=w.all λc=>decide (48<=c.toNat/\c.toNat<=57)
theorem ZhW{w:List UInt8}{k:Nat}{c:UInt8}(h:w[k]?=some c)(hc:¬(48<=c.toNat/\c.toNat<=57)):YT w=false:=by grind[YT]
def Ju(w:List UInt8):Bool:=match w with
 | []=>true
 | c :: l=>decide (c.toNat=48) && decide (l≠[])
def jZ(w:List UInt8):Option Nat:=if Ju w=true then none else if YT w=true then some (wR w) else none
theorem ZhX(l:List UInt8)(h:∀c∈l,c.toNat<=57):wR l<=1000000000000000000:=by
 revert h;refine ZhV (p:=λl:List UInt8=>(∀c∈l,c.toNat<=57)->wR l<=1000000000000000000) (λ_=>by decide) (λl c ih h=>?_) l
 grind[Zdc]
theorem ZrQ(w:List UInt8)(h:YR w<100000000000000000):wR w=YR w:=by
 revert h;refine ZhV (p:=λw:List UInt8=>YR w<100000000000000000->wR w=YR w) (λ_=>rfl) (λl c ih h=>?_) w
 grind[ZhG,Zdc]
theorem ZhY(n:Nat)(hn:n<100000000000000000):jZ (yc n)=some n:=by
 have h1:Ju (yc n)=false:=by
  rcases Bi 1 (yc n).length with h | h
  ·obtain⟨c,l,e,hc⟩:=Zry n h;rw[e];simp[Ju,hc]
  ·rcases hd:yc n with _ | ⟨c,_ | ⟨d,l⟩⟩
   ·exact absurd hd (ZhI n)
   ·simp[Ju]
   ·rw[hd]at h;simp at h
 have h2:YT (yc n)=true:=by unfold YT;rw[AA];intro c hc;simpa using ZhH n c hc
 simp_all[jZ,ZrQ,Zrx]
theorem ZrR{w:List UInt8}{n:Nat}(h:jZ w=some n):n<=1000000000000000000:=by grind[jZ,ZhX,YT]
open Go Go.Proofs
theorem ZhZ(l:List UInt8)(k:Nat):(bs l)[k]?=l[k]?:=by
 by_cases h:k<l.length
 ·rw[Ae h,getElem?_pos (bs l) k (by rw[vw];exact h)];rfl
 ·rw[Ak DY,getElem?_neg (bs l) k (by rw[vw];omega)]
theorem Zdd{a b:ByteArray}(h:a.toList=b.toList):a=b:=by
 rw[Lib.toList_data,Lib.toList_data]at h;cases a;cases b;simp at h;congr
theorem Zde{a b:ByteArray}(h:a≠b):jT .eql a b=some (.bool false):=by
 have h2:¬a.toList=b.toList:=λe=>h (Zdd e)
 simp[jT,h2]
theorem Zh0{w:List UInt8}:bs w=bs []<->w=[]:=by
 constructor
 ·intro h;have:=congrArg ByteArray.size h;rw[vw,vw]at this;exact Av (by simpa using this)
 ·rintro rfl;rfl
theorem ZrS(w:List UInt8)(hl:w.length<=1099511627776):Pure prog 138 [T (bs w)] (B (ZG w)):=by
 have hsz:=vw w;refine zr func138 ntmps138 results138 λS nx hd=>?_
 refine D7 ?_
 repeat apply za
 refine ze [] hsz ?_;refine zj (zC (λk:Nat=>k<=w.length/\∀c∈w.take k,33<=c.toNat/\c.toNat<=126) (λk=>[(0,T (bs w)),(5,I w.length),(6,I k)]) (λ_=>[]) (λk=>w.length-k) 0 [] DZ DZ DZ ?_);rintro k ⟨hk,ha⟩;refine D7 ?_;refine za (zv rfl (λhc=>?_) (λhc=>?_))
 ·simp at hc;obtain⟨c,hc1⟩:∃c,w[k]?=some c:=⟨_,Ae hc⟩;have hg:=(ZhZ w k).trans hc1;refine zh (za (zj (D7 ?_)))
  by_cases h3:c.toNat<33
  ·have h3':(c.toNat:Int)<33:=DY
   refine za (ze [(4,13)] (zN hg h3 h3' zH) ?_);refine zm (by simp[*]) ?_;refine D7 ?_;exact zg (zi hd D0 (by rw[ZhT hc1 (by omega)];rfl))
  have h3':¬(c.toNat:Int)<33:=DY
  by_cases h4:126<c.toNat
  ·have h4':126<(c.toNat:Int):=DY
   refine za (ze [(4,13)] (yF hg h3 h4 h3' h4') ?_);refine zm (by simp[*]) ?_;refine D7 ?_;exact zg (zi hd D0 (by rw[ZhT hc1 (by omega)];rfl))
  have h4':¬126<(c.toNat:Int):=DY
  refine za (ze [(4,13)] (yF hg h3 h4 h3' h4') ?_);refine zk (by simp[*]) ?_;refine zh (zb ?_);have hnx:w.take (k+1)=w.take k++[c]:=by rw[AJ,hc1];rfl
  exact zq (k+1) [] ⟨hc,by rw[hnx];intro d hd;rw[AB,AW]at hd;exact hd.elim (ha d) (λe=>by subst e;omega)⟩ DY (by simp[zu k (by omega)]) rfl DZ
 ·simp at hc;obtain rfl:k=w.length:=DY
  rw[Ai]at ha;refine zx (We (λ_=>.inl rfl) ?_)
  by_cases h0:w=[]
  ·subst h0;refine za (xx [] D3 D3 λK Gc Gh hK hGc hGh X hX0 hX=>?_);simp -implicitDefEqProofs [hX0,hX,jT]
   try clear hX0 hX X
   refine hK _ _ _ ?_;clear hK hGc hGh;clear K Gc Gh;exact D8 hd
  ·have hne:bs w≠bs []:=λe=>h0 (Zh0.1 e)
   have hq:jT .neq (bs w) ⟨#[]⟩=some (.bool true):=by
    have h2:¬(bs w).toList=(bs []).toList:=λe=>hne (Zdd e)
    have h3:((bs w).toList == (bs []).toList)=false:=by simpa using h2
    show some (Value.bool (!((bs w).toList == (bs []).toList)))=_
    rw[h3];rfl
   have hw:ZG w=true:=(Zay w).2 ⟨h0,ha⟩;refine za (ze [] hq ?_);exact zg (zi hd D0 (by simp[zp,hw]))
def Xz(o:Option Nat):PV:=match o with
 | none=>.tup [I 0,B false]
 | some n=>.tup [I n,B true]
theorem Zh1(w:List UInt8)(hl:w.length<=1099511627776):Pure prog 109 [T (bs w)] (Xz (jZ w)):=by
 rcases w with _ | ⟨c0,wt⟩
 ·refine zr func109 ntmps109 results109 λS nx hd=>?_
  refine D7 ?_
  repeat apply za
  refine xx [(2,8),(6,12)] D3 D3 λK Gc Gh hK hGc hGh X hX0 hX=>?_
  simp -implicitDefEqProofs [hX0,hX,jT,undef]
  try clear hX0 hX X
  refine hK _ _ _ ?_;clear hK hGc hGh;clear K Gc Gh;refine zm DZ ?_;refine D7 ?_;exact D8 hd
 obtain⟨w,hw⟩:∃w,w=c0 :: wt:=⟨_,rfl⟩;have hc0:w[0]?=some c0:=by rw[hw];rfl
 have hne:w≠[]:=by rw[hw];simp
 have hod:Ju w=(decide (c0.toNat=48) && decide (1<w.length)):=by rw[hw];cases wt<;>simp[Ju]
 rw[<-hw]at hl ⊢;clear hw wt;obtain⟨B,hB⟩:∃B,B=bs w:=⟨_,rfl⟩;have hsz:B.size=w.length:=by rw[hB,vw]
 have hg:∀k,B[k]?=w[k]?:=λk=>by rw[hB];exact ZhZ w k
 have hg0:=(hg 0).trans hc0;have he:jT .eql B ⟨#[]⟩=some (.bool false):=by
  have:B≠⟨#[]⟩:=by intro h;have:=congrArg ByteArray.size h;rw[hsz]at this;exact hne (Av (by simpa[ByteArray.size] using this))
  exact Zde this
 rw[<-hB]
 by_cases hodd:Ju w=true
 ·have hr:jZ w=none:=by unfold jZ;rw[if_pos hodd]
  rw[hr];rw[hod]at hodd;simp only[Aw,decide_eq_true_eq]at hodd;obtain⟨q1,q2⟩:=hodd;have h3:(c0.toNat:Int)=48:=DY
  refine zr func109 ntmps109 results109 λS nx hd=>?_
  refine D7 ?_
  repeat apply za
  refine ze [(2,8),(6,12)] (yd hsz hg0 he h3 q1 (zo q2 zH)) ?_;refine zm D2 ?_;refine D7 ?_;exact D8 hd
 have hcond:(c0.toNat=48/\¬1<w.length)\/¬c0.toNat=48:=by
  rw[hod]at hodd;simp only[Aw,decide_eq_true_eq,not_and]at hodd
  by_cases h1:c0.toNat=48
  ·exact .inl ⟨h1,hodd h1⟩
  ·exact .inr h1
 have hnum:jZ w=if YT w=true then some (wR w) else none:=by unfold jZ;rw[if_neg hodd]
 rw[hnum];clear hnum hodd hod;refine zr func109 ntmps109 results109 λS nx hd=>?_
 refine D7 ?_;rcases hcond with ⟨h1,h2⟩ | h1
 have h3:(c0.toNat:Int)=48:=DY
 repeat apply za
 refine ze [(2,8),(6,12)] (yd hsz hg0 he h3 h2 zH) ?_;refine zk D2 ?_
 rotate_left
 have h3:¬(c0.toNat:Int)=48:=DY
 repeat apply za
 refine ze [(2,8),(6,12)] (yF hsz hg0 he h3 zH) ?_;refine zk (by simp[*]) ?_
 all_goals
  clear h1 h3 he hg0 hc0;refine zh (D7 ?_)
  repeat apply za
  refine ze [] hsz ?_;refine zj (zC (λk:Nat=>k<=w.length/\∀c∈w.take k,48<=c.toNat/\c.toNat<=57) (λk=>[(0,T B),(4,I (wR (w.take k))),(19,I w.length),(20,I k)]) (λ_=>[]) (λk=>w.length-k) 0 [] DZ (by simp[wR]) DZ ?_);rintro k ⟨hk,ha⟩;refine D7 ?_;refine za (zv rfl (λhc=>?_) (λhc=>?_))
  ·simp at hc;obtain⟨c,hc1⟩:∃c,w[k]?=some c:=⟨_,Ae hc⟩;have hgk:=(hg k).trans hc1;have hs57:=ZhX (w.take k) λc hc=>(ha c hc).2
   refine zh (za (zj (D7 ?_)))
   by_cases h3:c.toNat<48
   ·have h3':(c.toNat:Int)<48:=DY
    repeat apply za
    refine ze [(4,27)] (zN hgk h3 h3' zH) ?_;refine zm (by simp[*]) ?_;refine D7 ?_;exact zg (zi hd D0 (by rw[ZhW hc1 (by omega)];rfl))
   have h3':¬(c.toNat:Int)<48:=DY
   by_cases h4:57<c.toNat
   ·have h4':57<(c.toNat:Int):=DY
    repeat apply za
    refine ze [(4,27)] (yF hgk h3 h3' h4 h4') ?_;refine zm (by simp[*]) ?_;refine D7 ?_;exact zg (zi hd D0 (by rw[ZhW hc1 (by omega)];rfl))
   have h4':¬57<(c.toNat:Int):=DY
   repeat apply za
   refine ze [(4,27)] (yF hgk h3 h3' h4 h4') ?_;refine zk (by simp[*]) ?_;refine zh ?_;have htk:w.take (k+1)=w.take k++[c]:=by rw[AJ,hc1];rfl
   have hnx:wR (w.take (k+1))=if 100000000000000000<=wR (w.take k) then 1000000000000000000 else 10*wR (w.take k)+(c.toNat-48):=by rw[htk];exact Zdc _ _
   have ha':∀d∈w.take (k+1),48<=d.toNat/\d.toNat<=57:=by rw[htk];intro d hd;rw[AB,AW]at hd;exact hd.elim (ha d) (λe=>by subst e;omega)
   obtain⟨d1,hd1⟩:∃d1,wR (w.take (k+1))=d1:=⟨_,rfl⟩;rw[hd1]at hnx;generalize wR (w.take k)=d0 at *
   by_cases w5:100000000000000000<=d0
   ·rw[if_pos w5]at hnx;have w5':100000000000000000<=(d0:Int):=DY
    refine za (ze [] (zo w5 w5') ?_);refine zm (by simp[*]) ?_;refine zb ?_;refine zb ?_;exact zq (k+1) [] ⟨hc,ha'⟩ DY (by simp[zu k (by omega),hd1,hnx]) rfl DZ
   ·rw[if_neg w5]at hnx;have w5':¬100000000000000000<=(d0:Int):=DY
    have w1:W ((d0:Int)*10)=(d0:Int)*10:=by simp only[W,AG];omega
    have w2:IntKind.u8.wrap ((c.toNat:Int)-48)=(c.toNat:Int)-48:=by
     have e:IntKind.u8.wrap ((c.toNat:Int)-48)=((c.toNat:Int)-48) % 256:=by simp[IntKind.wrap,IntKind.bits,IntKind.signed]
     rw[e];omega
    have w3:W ((c.toNat:Int)-48)=(c.toNat:Int)-48:=by simp only[W,AG];omega
    have w4:W ((d0:Int)*10+((c.toNat:Int)-48))=d1:=by simp only[W,AG];omega
    refine za (ze [] (zo w5 w5') ?_);refine zk (by simp[*]) ?_;refine ze [] (yF hgk w1 w2 w3 w4) ?_;refine zb ?_;exact zq (k+1) [] ⟨hc,ha'⟩ DY (by simp[zu k (by omega),hd1]) rfl DZ
  ·simp at hc;obtain rfl:k=w.length:=DY
   refine zx (We (λ_=>.inl rfl) ?_);rw[Ai]at ha ⊢;have hdg:YT w=true:=by unfold YT;rw[AA];intro c hc;simpa using ha c hc
   refine D7 ?_;exact zg (zi hd D0 (by simp[zp,hdg,Xz]))
open Go
def Qs(q:List Int):Prop:=∀z∈q,0<=z/\z<=2147483648
structure GoodV (n:Nat) (v:List Visit):Prop where
 len:v.length<=64
 ok:∀s∈v,(0<=s.d/\s.d<n)/\1<=s.q/\s.q<=2147483648
 nd:(v.map (·.d)).Nodup
def yy:Nat->List Int->List Visit
 | _,[]=>[]
 | i,z :: l=>if 0<z then ⟨i,z⟩ :: yy (i+1) l else yy (i+1) l
theorem ZaB:∀(l:List Int) (i:Nat),(yy i l).length<=l.length
 | [],_=>by simp[yy]
 | z :: l,i=>by
  have:=ZaB l (i+1);simp only[yy];split<;>simp<;>omega
theorem ZaC:∀(l:List Int) (i:Nat),Qs l->∀s∈yy i l,((i:Int)<=s.d/\s.d<(i+l.length:Nat))/\1<=s.q/\s.q<=2147483648
 | [],_,_=>by intro s hs;cases hs
 | z :: l,i,h=>by
  have ih:=ZaC l (i+1) λx hx=>h x (by simp[hx])
  have hz:=h z DZ;intro s hs;simp only[yy]at hs;split at hs
  ·rcases As.1 hs with rfl | hs
   ·simp only[Ad];omega
   ·have:=ih s hs;simp only[Ad];omega
  ·have:=ih s hs;simp only[Ad];omega
theorem ZaD:∀(l:List Int) (i:Nat),∀s∈yy i l,(i:Int)<=s.d
 | [],_=>by intro s hs;cases hs
 | z :: l,i=>by
  have ih:=ZaD l (i+1);intro s hs;simp only[yy]at hs;split at hs
  ·rcases As.1 hs with rfl | hs
   ·exact De _
   ·have:=ih s hs;omega
  ·have:=ih s hs;omega
theorem Zh2:∀(l:List Int) (i:Nat),((yy i l).map (·.d)).Nodup
 | [],_=>by simp[yy]
 | z :: l,i=>by
  have ih:=Zh2 l (i+1);simp only[yy];split
  ·rw[Az,Cq];refine⟨λh=>?_,ih⟩;obtain⟨s,hs,e⟩:=Am.1 h;have:=ZaD l (i+1) s hs;simp only at e;omega
  ·exact ih
theorem ZrT(n a k:Nat):(yx n a k).Nodup:=by
 unfold yx;refine List.Pairwise.map _ (λx y (h:x≠y)=>?_) (List.Pairwise.filter _ List.nodup_range);intro e;apply h;omega
theorem Zh3{q:List Int}{n:Nat}(hq:Qs q)(hl:q.length<=n)(hn:n<=64):GoodV n (yy 0 q):=by
 refine⟨AD (ZaB q 0) DY,λs hs=>?_,Zh2 q 0⟩;have:=ZaC q 0 hq s hs;omega
def wv(c:Cust)(p:Nat):List Visit:=(yx p 0 64).map λd=>⟨d,c.demand⟩
open Go
structure CustMade (c:Cust) (n:Nat):Prop where
 fits:CustFits c
 pats:∀p∈c.pats,p<2 ^ 64
 npats:c.pats.length<=1048576
 per:c.kind=1->(∀p∈c.pats,∀d∈yx p 0 64,d<n)/\1<=c.demand/\c.demand<=2147483648
open Go
theorem Zdf{α:Type}[Enc α](h1:Enc.sz α=1)(l:List α)(k:Nat)(v:α)(h:k<l.length):yg (l.flatMap Enc.enc) k (Enc.enc v)=(l.set k v).flatMap Enc.enc:=by
 have e1:(l.flatMap Enc.enc).take k=(l.take k).flatMap Enc.enc:=by
  have:=Qf (α:=α) Enc.enc (Enc.sz α) Enc.len l k;rwa[h1,B7]at this
 have e2:(l.flatMap Enc.enc).drop (k+1)=(l.drop (k+1)).flatMap Enc.enc:=by
  have:=JQ (α:=α) Enc.enc (Enc.sz α) Enc.len l (k+1);rwa[h1,B7]at this
 rw[yg,Enc.len,h1,e1,e2,AF,if_pos h];simp
open Go Go.Proofs Hp
def RowOf(S:Store)(pl:PV)(l:List Int):Prop:=pl=L l\/∃id ver,pl=.sl id ver 1 0 l.length/\S id=.cells ver 3 (l.flatMap Enc.enc)
theorem RowOf.ext{S:Store}{pl:PV}{l:List Int}(h:RowOf S pl l){nx:Nat}(hd:zS nx S)(obs:List Ob):RowOf (ext S nx obs) pl l:=by
 rcases h with h | ⟨id,ver,h1,h2⟩
 ·exact .inl h
 ·exact .inr ⟨id,ver,h1,(zB (yX hd h2 DZ)).trans h2⟩
theorem Zh4{S:Store}{nx id ver:Nat}(hd:zS nx S)(x:Inst)(v p f pr:PV)(b:Int)(fn:FuncId)(fs:List PV)(n:Nat)(hn:x.days=n)(hn2:n<=1000)(hS:S id=.cells ver 235 (xG x v b p f pr))(Pk:Nat->Store->Prop)(h0:Pk 0 S)
  (hPd:∀k T,Pk k T->zS nx T) (hstep:∀k,k<n->∀T,Pk k T->Spec prog fn (fs++[I k]) T (λ_ S'=>Pk (k+1) S')) :
  Spec prog 173 [.ptr id ver 0,.fn (.func fn) fs []] S (λ_ S'=>Pk n S'):=by
 refine u6 hd func173 ntmps173 results173 ?_;have hlt:id<nx:=yX hd hS DZ;have xw:=λobs=>(zB (S:=S) (obs:=obs) hlt).trans hS
 refine za (ze [] (zo xw hn) ?_);refine zj (jC (σ:=Nat × Store) (λs=>s.1<=n/\Pk s.1 s.2) (λs=>[(1,.fn (.func fn) fs []),(9,I n),(10,I s.1)]) (λs=>s.2) (λ_=>[]) (λs=>n-s.1) (zT (0,S) [] ⟨by simp,h0⟩ DZ rfl DZ) ?_);rintro⟨k,T⟩ ⟨hk,hP⟩;simp only at hk hP ⊢;refine D7 ?_;refine za (zv rfl (λhc=>?_) (λhc=>?_))
 ·simp at hc;refine zh (za (zj (D7 ?_)));refine zb ?_;refine λhsuf=>(Spec.mono (by rw[qI (hPd k T hP)];simpa using hstep k hc T hP) ?_).v
  rintro _ T' hP';refine⟨T',[],(qI (hPd _ _ hP')).symm,zL hsuf ?_⟩;refine zb ?_;exact zq (k+1,T') [] ⟨hc,hP'⟩ DY (by simp[zu k (by omega)]) rfl DZ
 ·simp at hc;obtain rfl:k=n:=DY
  refine zx ?_;exact⟨_,T,rfl,hP,zO (hPd _ _ hP)⟩
def Yf(x:Inst)(j:Nat):Int:=W (yE x [(j:Int)])
def jQ(x:Inst)(k i:Nat):List (List Int):=(List.range x.cust.length).map λj=>List.replicate (if j<i then k+1 else k) (Yf x j)
theorem Jv(x:Inst)(k i:Nat):(jQ x k i).length=x.cust.length:=by simp[jQ]
theorem Zh5(x:Inst)(k i j:Nat)(h:j<x.cust.length):(jQ x k i).getD j []=List.replicate (if j<i then k+1 else k) (Yf x j):=by simp_all[jQ]
theorem ZrU(x:Inst)(k:Nat):jQ x k x.cust.length=jQ x (k+1) 0:=by simp[jQ]
theorem ZrV(x:Inst)(k i:Nat)(h:i<x.cust.length):(jQ x k i).set i (List.replicate (k+1) (Yf x i))=jQ x k (i+1):=by
 apply AY
 grind[jQ]
theorem ZrW{S:Store}{id ver A va base:Nat}{ws:Nat->Nat}{x:Inst}{v p f:PV}{b:Int}(k:Nat)(hx:x.cust.length<=1000)(hk:k<=1000)(hid:id<base)(hidA:id≠A)(hS:S id=.cells ver 235 (xG x v b p f (.sl A va 1 0 x.cust.length)))
  (hR:RowsAt S A va 26 base 3 1 ws (jQ x k 0)) :
  Spec prog 174 [.ptr id ver 0,I k] S (λ_ S'=>(∃ws',RowsAt S' A va 26 base 3 1 ws' (jQ x (k+1) 0))/\∀o,o≠A->(o<base\/base+x.cust.length<=o)->S' o=S o):=by
 refine yn func174 ntmps174 results174 λnx hd=>?_
 have hlt:id<nx:=yX hd hS DZ;have hltA:A<nx:=yX hd hR.arr DZ;have hltR:∀i,i<x.cust.length->base+i<nx:=λi hi=>yX hd (hR.row i (by simp_all[Jv])) DZ
 have xw:=λobs=>(zB (S:=S) (obs:=obs) hlt).trans hS
 refine za (ze [] xw ?_);refine zj (jC (σ:=Nat × Store × (Nat->Nat)) (λs=>s.1<=x.cust.length/\RowsAt s.2.1 A va 26 base 3 1 s.2.2 (jQ x k s.1)/\∀o,o≠A->(o<base\/base+x.cust.length<=o)->s.2.1 o=S o)
  (λs=>[(0,.ptr id ver 0),(10,I x.cust.length),(11,I s.1)]) (λs=>s.2.1) (λ_=>[]) (λs=>x.cust.length-s.1) (zT (0,S,ws) [] ⟨by simp,hR,λ_ _ _=>rfl⟩ DZ rfl DZ) ?_)
 clear hR;rintro⟨i,T,ws⟩ ⟨hi,hR,hT⟩;simp only at hi hR hT ⊢;refine D7 ?_;refine za (zv rfl (λhc=>?_) (λhc=>?_))
 ·simp at hc;have hTw:T id=.cells ver 235 (xG x v b p f (.sl A va 1 0 x.cust.length)):=(hT id hidA (.inl hid)).trans hS;have hAb:=hR.out;have hri:=hR.row i (by simp_all[Jv]);rw[Zh5 x k i i hc,if_neg (CL i)]at hri;have hlti:=hltR i hc;have xw:=λobs=>(zB (S:=T) (obs:=obs) hlt).trans hTw
  have xa:=λobs=>(zB (S:=T) (obs:=obs) hltA).trans hR.arr
  have xr:=λobs=>(zB (S:=T) (obs:=obs) hlti).trans hri
  have ya:=λ(o:Ob) obs=>(zB (S:=T.set (base+i) o) (obs:=obs) hltA).trans ((q10 _ _ _ _ DY).trans hR.arr)
  have yw:=λ(o:Ob) obs=>(zB (S:=T.set (base+i) o) (obs:=obs) hlt).trans ((q10 _ _ _ _ DY).trans hTw)
  have zw:=λ(o o':Ob) obs=>(zB (S:=(T.set (base+i) o).set A o') (obs:=obs) hlt).trans ((q10 _ _ _ _ hidA).trans ((q10 _ _ _ _ DY).trans hTw))
  have g1:¬nx<=base+i:=DY
  have g2:¬nx<=A:=DY
  obtain⟨tl,hdr⟩:=Zc7 base 1 ws (jQ x k i) i (by simp_all[Jv]);rw[Zh5 x k i i hc,if_neg (CL i),Cm]at hdr;have hcl:(vV base 1 ws (jQ x k i)).length=x.cust.length:=by rw[Zc6,Jv]
  have hsp:=Zce (vV base 1 ws (jQ x k i)) i (.sl (base+i) (ws i+1) 1 0 (k+1)) DY;have hway:=Zfc x [(i:Int)] DZ (λc hc=>by grind[qe]);have hfe:∀m:Nat,((List.replicate m (Yf x i)).flatMap Enc.enc).length=m:=λm=>by simp
  refine zh (za (zj (D7 ?_)));refine zz (some [id]) (Row.pures [0,1,2,3,4,5,6,7,8,9,10,12,13,14,15,16,17,18,19] (.alt 11 (.alt 20 (Row.pures [21] (.alt 22 (.done) .stop)) .stop) .stop)) mixed (yd xw xa xr ya yw (zo (yd zw hdr g1 g2 hsp hcl) hc)) ?_;refine zG (hway) (yd xw xa xr ya yw (zo (yd zw hdr g1 g2 hsp hcl) hc)) ?_;refine⟨by omega,by omega,?_⟩;obtain⟨T',hT'⟩:∃T',T'=(T.set (base+i) (.cells (ws i+1) 3 ((List.replicate (k+1) (Yf x i)).flatMap Enc.enc))).set A (.cells va 26 ((vV base 1 ws (jQ x k i)).set i (.sl (base+i) (ws i+1) 1 0 (List.replicate (k+1) (Yf x i)).length))):=⟨_,rfl⟩;have hnew:=hR.turn (i:=i) (by simp_all[Jv]) (T':=T') (ws i+1) (List.replicate (k+1) (Yf x i)) D6 (by rw[hT',q10 _ _ _ _ (by omega),q11]) (λo o1 o2=>by simp_all[q10]);rw[ZrV x k i hc]at hnew;refine zb ?_;refine zq (i+1,T',_) [] ⟨hc,hnew,λo ho hob=>?_⟩ DY (by simp[zu i (by omega)]) ?_ DZ
  ·dsimp only;rw[hT',q10 _ _ _ _ ho,q10 _ _ _ _ DY];exact hT o ho hob
  ·dsimp only;rw[hT'];have htk:((List.replicate k (Yf x i)).flatMap Enc.enc).take k=(List.replicate k (Yf x i)).flatMap Enc.enc:=Af (by rw[hfe];exact Ag _)
   simp_all[List.replicate_succ',Yf]
 ·simp at hc;obtain rfl:i=x.cust.length:=DY
  rw[ZrU]at hR;refine zx ?_;have hdT:zS nx T:=λo ho=>by
   have h1:o≠A:=DY
   by_cases h2:o<base\/base+x.cust.length<=o
   ·rw[hT o h1 h2];exact hd o ho
   ·have:=hltR (o-base) DY;omega
  exact⟨_,T,rfl,⟨⟨ws,hR⟩,hT⟩,zO hdT⟩
def Yg(k:Nat)(l:List Int):List Int:=l.set k (W (W (2*l.getD k 0)+1))
def uu(pr:List (List Int))(k i:Nat):List (List Int):=(List.range pr.length).map λj=>if j<i then Yg k (pr.getD j []) else pr.getD j []
def XA(fs:List Int)(pr:List (List Int))(k:Nat):List (List Int):=if fs.getD k 0=14 then pr.map (Yg k) else pr
def XB(fs:List Int)(pr:List (List Int)):Nat->List (List Int)
 | 0=>pr
 | k+1=>XA fs (XB fs pr k) k
theorem Zh6(k:Nat)(l:List Int):(Yg k l).length=l.length:=by simp[Yg]
theorem WJ(pr:List (List Int))(k i:Nat):(uu pr k i).length=pr.length:=by simp[uu]
theorem Zdg(pr:List (List Int))(k i j:Nat)(h:j<pr.length):(uu pr k i).getD j []=if j<i then Yg k (pr.getD j []) else pr.getD j []:=by simp_all[uu]
theorem ZrX(pr:List (List Int))(k:Nat):uu pr k 0=pr:=by
 apply AY
 grind[uu]
theorem ZrY(pr:List (List Int))(k:Nat):uu pr k pr.length=pr.map (Yg k):=by
 apply AY
 grind[uu]
theorem ZrZ(pr:List (List Int))(k i:Nat)(h:i<pr.length):(uu pr k i).set i (Yg k (pr.getD i []))=uu pr k (i+1):=by
 apply AY
 grind[uu]
def Zf(m n:Nat)(pr:List (List Int)):Prop:=pr.length=m/\∀l∈pr,l.length=n/\∀z∈l,zM z
theorem Zdh(x:Int):zM (W x):=by
 have key:∀m:Int,0<=m->m<2 ^ 64->zM (if (true && decide (m>=2 ^ (64-1)))=true then m-2 ^ 64 else m):=by
  intro m h1 h2;unfold zM
  by_cases h:m>=2 ^ (64-1)
  ·simp[h];omega
  ·simp[h];omega
 exact key _ (Int.emod_nonneg x D4) (Int.emod_lt_of_pos x D4)
theorem Zr0{m n:Nat}{pr:List (List Int)}(fs:List Int)(k:Nat)(h:Zf m n pr):Zf m n (XA fs pr k):=by
 unfold XA;split
 ·refine⟨by simp[h.1],λl hl=>?_⟩;obtain⟨l',hl',rfl⟩:=Am.1 hl;rw[Zh6];refine⟨(h.2 l' hl').1,λz hz=>?_⟩;rcases BC hz with hz | rfl
  ·exact(h.2 l' hl').2 z hz
  ·exact Zdh _
 omega
theorem WK{m n:Nat}{pr:List (List Int)}(fs:List Int)(h:Zf m n pr):∀k,Zf m n (XB fs pr k)
 | 0=>h
 | k+1=>Zr0 fs k (WK fs h k)
theorem Zh7(x:Inst)(n:Nat):Zf x.cust.length n (jQ x n 0):=by
 refine⟨Jv x n 0,λl hl=>?_⟩;obtain⟨j,_,rfl⟩:=Am.1 hl;refine⟨by simp,λz hz=>?_⟩;rw[(List.mem_replicate.1 hz).2];exact Zdh _
theorem Zr1{S:Store}{id ver A va base idF vF:Nat}{ws:Nat->Nat}{x:Inst}{v p:PV}{b:Int}{m n:Nat}{pr:List (List Int)}{fs:List Int}(k:Nat)(hm:m<=1000)(hn:n<=1000)(hkn:k<n)(hid:id<base)(hidA:id≠A)(hF:S idF=.cells vF 47 (fs.flatMap Enc.enc))(hfl:fs.length=n)
  (hS:S id=.cells ver 235 (xG x v b p (.sl idF vF 1 0 fs.length) (.sl A va 1 0 m))) (hP:Zf m n pr) (hR:RowsAt S A va 26 base 3 1 ws pr) :
  Spec prog 179 [.ptr id ver 0,I k] S (λ_ S'=>RowsAt S' A va 26 base 3 1 ws (XA fs pr k)/\∀o,(o<base\/base+m<=o)->S' o=S o):=by
 obtain⟨hPl,hPr⟩:=hP;refine yn func179 ntmps179 results179 λnx hd=>?_
 have hlt:id<nx:=yX hd hS DZ;have hltF:idF<nx:=yX hd hF DZ;have hltA:A<nx:=yX hd hR.arr DZ;have hltR:∀i,i<m->base+i<nx:=λi hi=>yX hd (hR.row i DY) DZ
 have xw:=λobs=>(zB (S:=S) (obs:=obs) hlt).trans hS
 have xf:=λobs=>(zB (S:=S) (obs:=obs) hltF).trans hF
 obtain⟨e,tl0,e1,-,-,e0⟩:=zF rfl fs k DY;have hkf:k<fs.length:=DY
 have hge:fs.getD k 0=e:=by rw[Aa,e1];rfl
 repeat apply za
 refine ze [] (zN xw xf e0 hkf) ?_
 by_cases he:e=14
 case neg =>
  refine zm (by simp[he]) ?_;exact zg ⟨_,S,rfl,⟨by simp_all[XA],λ_ _=>rfl⟩,zO hd⟩
 refine zk (by simp[he]) ?_;refine zh (za (ze [] xw ?_));have hkill:∀T:Store,(∀o,(o<base\/base+m<=o)->T o=S o)->zS nx T:=λT hT o ho=>by
  by_cases h2:o<base\/base+m<=o
  ·rw[hT o h2];exact hd o ho
  ·have:=hltR (o-base) DY;omega
 refine zj (jC (σ:=Nat × Store) (λs=>s.1<=m/\RowsAt s.2 A va 26 base 3 1 ws (uu pr k s.1)/\∀o,(o<base\/base+m<=o)->s.2 o=S o)
  (λs=>[(0,.ptr id ver 0),(1,I k),(17,I m),(18,I s.1)]) (λs=>s.2) (λ_=>[]) (λs=>m-s.1) (zT (0,S) [] ⟨by simp,by simp_all[ZrX],λ_ _=>rfl⟩ DZ rfl DZ) ?_)
 have hAb0:=hR.out;clear hR;rintro⟨i,T⟩ ⟨hi,hR,hT⟩;simp only at hi hR hT ⊢;refine D7 ?_;refine za (zv rfl (λhc=>?_) (λhc=>?_))
 ·simp at hc;have hil:i<pr.length:=DY
  have hTw:T id=.cells ver 235 (xG x v b p (.sl idF vF 1 0 fs.length) (.sl A va 1 0 m)):=(hT id (.inl hid)).trans hS;have hri:=hR.row i (by simp_all[WJ]);rw[Zdg pr k i i hil,if_neg (CL i)]at hri;obtain⟨tl,hdr⟩:=Zc7 base 1 ws (uu pr k i) i (by simp_all[WJ]);rw[Zdg pr k i i hil,if_neg (CL i)]at hdr;have hcl:(vV base 1 ws (uu pr k i)).length=m:=by rw[Zc6,WJ,hPl]
  have hgl:(pr.getD i []).length=n:=by
   rw[Aa,Ae hil];exact(hPr _ (A6 hil)).1
  generalize hrow:pr.getD i []=row at hri hdr hgl;obtain⟨z,tl2,z1,-,-,z0⟩:=zF rfl row k DY;have hgz:row.getD k 0=z:=by rw[Aa,z1];rfl
  have hkr:k<row.length:=DY
  have hlti:=hltR i hc;have xw:=λobs=>(zB (S:=T) (obs:=obs) hlt).trans hTw
  have xa:=λobs=>(zB (S:=T) (obs:=obs) hltA).trans hR.arr
  have xr:=λobs=>(zB (S:=T) (obs:=obs) hlti).trans hri
  have yw:=λ(o:Ob) obs=>(zB (S:=T.set (base+i) o) (obs:=obs) hlt).trans ((q10 _ _ _ _ DY).trans hTw)
  have ya:=λ(o:Ob) obs=>(zB (S:=T.set (base+i) o) (obs:=obs) hltA).trans ((q10 _ _ _ _ DY).trans hR.arr)
  have g1:¬nx<=base+i:=DY
  have hsp:=Zdf (α:=Int) rfl row k (W (W (2*z)+1)) hkr;have hsp':yg (row.flatMap Enc.enc) k [I (W (W (2*z)+1))]=(row.set k (W (W (2*z)+1))).flatMap Enc.enc:=by simpa using hsp
  have hrl:(row.flatMap Enc.enc).length=n:=by rw[xy,hgl];simp[Enc.sz]
  refine zh (za (zj (D7 ?_)));refine zz (some [id,A]) (Row.pures [0,1,2,3,4,5,6,7,8,9,10,11,12,13,15] (.alt 14 (Row.pures [16] (.alt 17 (Row.pures [18,19,20] (.alt 21 (.done) .stop)) .stop)) .stop)) mixed (yd xw xa xr yw ya (zo (yd hdr g1 hcl hc z0 hkr) (zN hsp' hrl hgl hkn))) ?_;refine⟨by omega,?_⟩;obtain⟨T',hT'⟩:∃T',T'=T.set (base+i) (.cells (ws i) 3 ((Yg k row).flatMap Enc.enc)):=⟨_,rfl⟩;have hnew:=hR.turn (i:=i) (by rw[WJ];omega) (T':=T') (ws i) (Yg k row) (by
   rw[hT',q10 _ _ _ _ DY,hR.arr];congr 1;refine(AY λj=>?_).symm;rw[BB];split
   ·rename_i hij;subst hij;rw[if_pos DY,ZhD _ _ _ _ _ (by rw[WJ];omega),Zdg pr k i i hil,if_neg (CL i),hrow,Zh6]
   ·rfl) (by rw[hT'];simp) (λo o1 o2=>by rw[hT'];exact q10 _ _ _ _ o2)
  have hws:(λk=>if k=i then ws i else ws k)=ws:=by funext j;split<;>simp_all
  rw[hws,<-hrow,ZrZ pr k i hil]at hnew;refine zb ?_;refine zq (i+1,T') [] ⟨hc,hnew,λo hob=>?_⟩ DY (by simp[zu i (by omega)]) ?_ DZ
  ·dsimp only;rw[hT',q10 _ _ _ _ DY];exact hT o hob
  ·dsimp only;rw[hT'];simp only[Yg,hgz]
 ·simp at hc;obtain rfl:i=m:=DY
  rw[<-hPl,ZrY]at hR;refine zx ?_;exact⟨_,T,rfl,⟨by simp_all[XA],hT⟩,zO (hkill T hT)⟩
def Yh(e:Int):Bool:=decide (e≠0) && decide (e≠14)
theorem Zr2(e:Int):Pure prog 178 [I e] (B (Yh e)):=by
 unfold Yh;refine zr func178 ntmps178 results178 λS nx hd=>?_
 refine D7 ?_
 by_cases h1:e=0
 ·refine za (ze [(2,5)] (zo h1 zH) ?_);exact zg (zi hd rfl (by simp[zp,h1]))
 ·by_cases h2:e=14
  ·refine za (ze [(2,5)] (zD h1 h2 zH) ?_);exact zg (zi hd rfl (by simp[zp,h2]))
  ·refine za (ze [(2,5)] (zD h1 h2 zH) ?_);exact zg (zi hd rfl D6)
theorem Zr3{S:Store}{idF vF:Nat}(fs:List Int)(hF:S idF=.cells vF 47 (fs.flatMap Enc.enc))(hl:fs.length<=1000):
  Spec prog 213 [.sl idF vF 1 0 fs.length,.fn (.func 178) [] []] S (λq S'=>(∃z:Int,q=I z/\(fs.any Yh=decide (0<=z)))/\S'=S):=by
 refine yn func213 ntmps213 results213 λnx hd=>?_
 have hltF:idF<nx:=yX hd hF DZ;have xf:=λobs=>(zB (S:=S) (obs:=obs) hltF).trans hF
 refine D7 ?_
 repeat apply za
 refine zb ?_;refine zj (zC (λk:Nat=>k<=fs.length/\∀e∈fs.take k,Yh e=false) (λk=>[(0,.sl idF vF 1 0 fs.length),(1,.fn (.func 178) [] []),(7,I fs.length),(8,I k)]) (λ_=>[]) (λk=>fs.length-k) 0 [] DZ DZ DZ ?_);rintro k ⟨hk,h0⟩;refine D7 ?_;refine za (zv rfl (λhc=>?_) (λhc=>?_))
 ·simp at hc;obtain⟨e,tl,a1,a2,a3,e0⟩:=zF rfl fs k hc;refine zh (za (zj (D7 ?_)));refine za (ze [] (zD xf e0 hc) ?_);refine zt (Zr2 e) ?_;cases hb:Yh e with
  | true =>
   refine zm rfl (D7 ?_);exact zg ⟨_,S,rfl,⟨⟨k,by simp,by grind⟩,rfl⟩,zO hd⟩
  | false =>
   refine zk rfl (zh (zb ?_));exact zq (k+1) [] ⟨hc,λy hy=>by grind⟩ DY (by simp[zu k (by omega)]) rfl DZ
 ·simp at hc;obtain rfl:k=fs.length:=DY
  rw[Ai]at h0;refine zx (D7 ?_);exact zg ⟨_,S,rfl,⟨⟨-1,by simp,by simp_all⟩,rfl⟩,zO hd⟩
theorem Zr4{S:Store}{idF vF:Nat}(fs:List Int)(hF:S idF=.cells vF 47 (fs.flatMap Enc.enc))(hl:fs.length<=1000):
  Spec prog 177 [.sl idF vF 1 0 fs.length,.fn (.func 178) [] []] S (λq S'=>q=B (fs.any Yh)/\S'=S):=by
 refine yn func177 ntmps177 results177 λnx hd=>?_
 have hltF:idF<nx:=yX hd hF DZ;refine D7 ?_;refine D7 ?_;refine λhsuf=>((Zr3 fs ((zB hltF).trans hF) hl).mono ?_).v
 rintro _ _ ⟨⟨z,rfl,hz⟩,rfl⟩;refine⟨_,_,rfl,zL hsuf ?_⟩;exact zg ⟨_,S,rfl,⟨by simp[zp,hz],rfl⟩,zO hd⟩
def Zg(x:Inst)(sol:Cust->List Int->List Visit × Bool)(pr:List (List Int))(k:Nat):List (List Visit × Bool):=(List.range k).map λi=>sol (x.cust.getD i default) (pr.getD i [])
def qM(x:Inst)(sol:Cust->List Int->List Visit × Bool)(pr:List (List Int)):List (List Visit) × Int:=if (Zg x sol pr x.cust.length).all (·.2)=true then ((Zg x sol pr x.cust.length).map (·.1),0) else ([],15)
theorem Zr5(x:Inst)(sol:Cust->List Int->List Visit × Bool)(pr:List (List Int))(k:Nat):Zg x sol pr (k+1)=Zg x sol pr k++[sol (x.cust.getD k default) (pr.getD k [])]:=by simp[Zg,AH]
theorem Zh8(x:Inst)(sol:Cust->List Int->List Visit × Bool)(pr:List (List Int)){k m:Nat}(h:k<m):sol (x.cust.getD k default) (pr.getD k [])∈Zg x sol pr m:=Am.2 ⟨k,AL.2 h,rfl⟩
def Zdi(x:Inst)(n:Nat)(sol:Cust->List Int->List Visit × Bool):Prop :=
 ∀c∈x.cust,∀(l:List Int),l.length=n->(∀z∈l,zM z)->∀(S:Store) (pl:PV),RowOf S pl l->Spec prog 207 [.agg (yb c),I x.days,I x.cap,pl] S (λq S'=>q=.tup [L (sol c l).1,B (sol c l).2]/\S'=S)
theorem Zr6{S:Store}{A va base:Nat}{ws:Nat->Nat}{x:Inst}{n:Nat}{pr:List (List Int)}{sol:Cust->List Int->List Visit × Bool}(hx:x.cust.length<=1000)(hP:Zf x.cust.length n pr)(hR:RowsAt S A va 26 base 3 1 ws pr)(hs:Zdi x n sol):
  Spec prog 175 [.agg (zy x),.sl A va 1 0 x.cust.length] S (λq S'=>q=.tup [L (qM x sol pr).1,I (qM x sol pr).2]/\S'=S):=by
 obtain⟨hPl,hPr⟩:=hP;refine yn func175 ntmps175 results175 λnx hd=>?_
 have hltA:A<nx:=yX hd hR.arr DZ;have xa:=λobs=>(zB (S:=S) (obs:=obs) hltA).trans hR.arr
 refine D7 ?_;intro v0;refine D7 ?_;refine za (qx 6 101 1 rfl λv1=>?_);refine D7 ?_;refine zj (zC (λs:Nat × List (List Visit) × Nat=>s.1<=x.cust.length/\s.2.1=(Zg x sol pr s.1).map (·.1)/\(Zg x sol pr s.1).all (·.2)=true) (λ(i,out,w)=>[(1,.sl A va 1 0 x.cust.length),(2,.ptr nx v0 0),(4,.sc (.slice none 0 0)),(6,.sl (nx+1) w 1 0 out.length),(13,L x.cust),(14,I x.cust.length),(15,I i)]) (λ(i,out,w)=>[.cells v0 25 (zy x),.cells w 101 (out.flatMap Enc.enc)]) (λs=>x.cust.length-s.1) (0,[],v1) [] (by simp[Zg]) DZ DZ ?_);rintro⟨i,out,w⟩ ⟨hi,ho,hall⟩;simp only at hi ho hall ⊢;have hol:out.length=i:=by rw[ho];simp[Zg]
 refine D7 ?_;refine za (zv rfl (λhc=>?_) (λhc=>?_))
 ·simp at hc;obtain⟨c,tl,a1,a2,a3,e1,e0⟩:=el 8 rfl x.cust i hc;have hcm:=Ab a1;have hgc:x.cust.getD i default=c:=by rw[Aa,a1];rfl
  have hil:i<pr.length:=DY
  obtain⟨tl2,hdr⟩:=Zc7 base 1 ws pr i hil;obtain⟨hgl,hgi⟩:(pr.getD i []).length=n/\∀z∈pr.getD i [],zM z:=by
   rw[Aa,Ae hil];exact hPr _ (A6 hil)
  have hrow:RowOf S (.sl (base+i) (ws i) 1 0 (pr.getD i []).length) (pr.getD i []):=.inr ⟨_,_,rfl,hR.row i hil⟩;have hsol:=hs c hcm (pr.getD i []) hgl hgi;have hch:=Zr5 x sol pr i;have hcm2:=Zh8 x sol pr (k:=i) hc;rw[hgc]at hch hcm2;generalize pr.getD i []=row at hdr hgl hgi hrow hsol hch hcm2;generalize hr:sol c row=r at hsol hch hcm2;obtain⟨vv,ok⟩:=r;simp only at hsol hch;refine zh (za (zj (za (ze [] (zo e0 hc) ?_))));intro v2;refine D7 ?_
  repeat apply za
  refine zb ?_;refine zm (by simp[hc]) ?_;refine ze [] (zD xa hdr hc) ?_;refine D7 ?_;refine λhsuf=>((hsol _ _ (hrow.ext hd _)).mono ?_).v
  rintro _ _ ⟨rfl,rfl⟩;refine⟨_,_,rfl,zL hsuf ?_⟩
  repeat apply za
  refine zb ?_;cases ok with
  | false =>
   have hno:qM x sol pr=([],15):=by
    unfold qM;rw[if_neg];intro q;have:=AA.1 q _ hcm2;cases this
   rw[hno];refine zm rfl (D7 ?_);refine ue 4 rfl ?_;exact zg ⟨_,S,rfl,⟨by simp[zp],rfl⟩,zO hd⟩
  | true =>
   refine zk rfl (zh (zb ?_));refine⟨by omega,?_⟩;refine zb ?_;exact zq (i+1,out++[vv],w+1) [_] ⟨hc,by rw[hch,List.map_append,ho];rfl,by rw[hch,CJ,hall];rfl⟩ D2 (by simp[zu i (by omega)]) rfl D0
 ·simp at hc;obtain rfl:i=x.cust.length:=DY
  have hyes:qM x sol pr=(out,0):=by unfold qM;rw[if_pos hall,<-ho]
  rw[hyes];refine zx (zX 1 rfl ?_);refine D7 ?_;exact zg ⟨_,S,D0,⟨by simp[zp],rfl⟩,zO hd⟩
open Go
def Yi(x:Inst)(p:zA)(i:Nat):Int :=
 match x.cust[i]? with
 | none=>0
 | some c=>if c.kind=2 then Yb c (yZ c (z8 (yf i (told 0 p)) x.days)).1 else 0
def q8(x:Inst)(p:zA)(k:Nat):Int:=((List.range k).map (Yi x p)).sum
theorem Zh9(x:Inst)(p:zA)(k:Nat):q8 x p (k+1)=q8 x p k+Yi x p k:=by simp[q8,AH]
theorem Zdj(c:Cust)(q:List Int)(hq:q.length<=1048576):(yZ c q).1.length<=1048576:=by
 unfold yZ;split
 ·simp
 ·cases h:yN c.size c.rate c.start q with
  | none=>simp
  | some l=>simp[ZqQ h];exact hq
theorem XC(v:List Visit)(n:Int):(z8 v n).length<=1048576:=by rw[WF];omega
theorem Zia(x:Inst)(p:zA)(h:Serves x p)(hx:x.cust.length<=1048576)(hf:∀c∈x.cust,CustFits c):Pure prog 69 [.agg (zy x),.agg [L p]] (I (W (q8 x p x.cust.length))):=by
 refine zr func69 ntmps69 results69 λS nx hd=>?_
 refine D7 ?_;intro v0 v1;refine D7 ?_
 repeat apply za
 refine zb ?_;refine zj (zC (λs:Nat=>s<=x.cust.length) (λk=>[(2,.ptr nx v0 0),(3,.ptr (nx+1) v1 0),(5,I (W (q8 x p k))),(11,L x.cust),(12,I x.cust.length),(13,I k)]) (λ_=>[.cells v0 25 (zy x),.cells v1 30 [L p]]) (λs=>x.cust.length-s) 0 [] DZ (by simp[q8]) DZ ?_);rintro k hk;refine D7 ?_;refine za (zv rfl (λhc=>?_) (λhc=>?_))
 ·simp at hc;obtain⟨c,tl,a1,a2,a3,_,e0⟩:=el 8 rfl x.cust k hc;have hfc:=hf c (Ab a1);have hs:=Zh9 x p k;refine zh (za (zj (za (ze [] (zo hc e0) ?_))));intro v2;refine D7 ?_
  by_cases hk2:c.kind=2
  ·have hb:=Zhv x p k h;have hn:=ZcT c (z8 (yf k (told 0 p)) x.days) hfc (XC _ _);have hh:=ZcU c (yZ c (z8 (yf k (told 0 p)) x.days)).1 (Zdj _ _ (XC _ _));have hC:Yi x p k=Yb c (yZ c (z8 (yf k (told 0 p)) x.days)).1:=by simp only[Yi,a1,if_pos hk2]
   rw[hC]at hs;generalize Yb c (yZ c (z8 (yf k (told 0 p)) x.days)).1=z at *;generalize yZ c (z8 (yf k (told 0 p)) x.days)=ne at *;generalize z8 (yf k (told 0 p)) x.days=q at *;obtain⟨ns,er⟩:=ne;simp only at hn hh;refine zm (by simp[hk2]) ?_;refine za (zz (some [nx,nx+1,nx+2]) (Row.pures [0,1,2,3,4,5,6,7,8,9,10,11] .done) mixed trivial ?_);refine zG (hb) trivial ?_;refine zG (hn) trivial ?_;refine zb ?_;refine zt hh ?_;have hw:W (W (q8 x p k)+z)=W (q8 x p (k+1)):=by rw[hs,vK]
   refine zb ?_;exact zq (k+1) [_] hc DY (by simp[zu k (by omega)];exact hw) rfl rfl
  ·have hC:Yi x p k=0:=by simp only[Yi,a1,if_neg hk2]
   rw[hC,CZ]at hs;refine zk (by simp[hk2]) ?_;refine zh (zb ?_);exact zq (k+1) [_] hc DY (by simp[zu k (by omega),hs]) rfl rfl
 ·simp at hc;obtain rfl:k=x.cust.length:=DY
  refine zx (D7 ?_);exact D8 hd
theorem Zib(x:Inst)(p:zA)(h:Serves x p)(hx:x.cust.length<=1048576)(hf:∀c∈x.cust,CustFits c):Pure prog 37 [.agg (zy x),.agg [L p]] (I (W (q8 x p x.cust.length))):=by
 refine zr func37 ntmps37 results37 λS nx hd=>?_
 refine D7 ?_;intro v0 v1;refine D7 ?_
 repeat apply za
 refine zb ?_;refine zj (zC (λs:Nat=>s<=x.cust.length) (λk=>[(2,.ptr nx v0 0),(3,.ptr (nx+1) v1 0),(5,I (W (q8 x p k))),(6,I k)]) (λ_=>[.cells v0 25 (zy x),.cells v1 30 [L p]]) (λs=>x.cust.length-s) 0 [] DZ (by simp[q8]) DZ ?_);rintro k hk
 repeat apply za
 refine zb ?_;refine zv rfl (λhc=>?_) (λhc=>?_)
 ·simp at hc;obtain⟨c,tl,a1,a2,a3,_,e0⟩:=el 8 rfl x.cust k hc;have hfc:=hf c (Ab a1);have hs:=Zh9 x p k;refine zh (za (zj (za (ze [] (zo hc e0) ?_))));intro v2;refine D7 ?_
  by_cases hk2:c.kind=2
  ·have hvi:=ZqS p k h.sz;have hb:=ZqR (yf k (told 0 p)) x.days (ZcZ h k).1;have hn:=ZqP c (z8 (yf k (told 0 p)) x.days) hfc (XC _ _);have hh:=ZqO c (yZ c (z8 (yf k (told 0 p)) x.days)).1 (Zdj _ _ (XC _ _));have hC:Yi x p k=Yb c (yZ c (z8 (yf k (told 0 p)) x.days)).1:=by simp only[Yi,a1,if_pos hk2]
   rw[hC]at hs;generalize Yb c (yZ c (z8 (yf k (told 0 p)) x.days)).1=z at *;generalize yZ c (z8 (yf k (told 0 p)) x.days)=ne at *;generalize z8 (yf k (told 0 p)) x.days=q at *;generalize yf (k:Int) (told 0 p)=v at *;obtain⟨ns,er⟩:=ne;simp only at hn hh;refine zm (by simp[hk2]) ?_;refine za (zz (some [nx,nx+1,nx+2]) (Row.pures [0,1,2,3,4,5,6,7,8,9,10,11,12] .done) mixed trivial ?_);refine zG (hvi) trivial ?_;refine zG (hb) trivial ?_;refine zG (hn) trivial ?_;refine zb ?_;refine zt hh ?_;have hw:W (W (q8 x p k)+z)=W (q8 x p (k+1)):=by rw[hs,vK]
   refine zb ?_;exact zq (k+1) [_] hc DY (by simp[zu k (by omega)];exact hw) rfl rfl
  ·have hC:Yi x p k=0:=by simp only[Yi,a1,if_neg hk2]
   rw[hC,CZ]at hs;refine zk (by simp[hk2]) ?_;refine zh (zb ?_);exact zq (k+1) [_] hc DY (by simp[zu k (by omega),hs]) rfl rfl
 ·simp at hc;obtain rfl:k=x.cust.length:=DY
  refine zx (D7 ?_);exact D8 hd
def q9(x:Inst)(p:zA):List Int:=p.map λd=>W (yk x d)
theorem Zr7(x:Inst)(p:zA)(hp:p.length<=1048576)(hd':∀d∈p,DayOk d)(S:Store)(nx:Nat)(hd:zS nx S):
  Spec prog 71 [.agg (zy x),.agg [L p]] S (λq S'=>∃v,q=.sl (nx+2) v 1 0 p.length/\S'=S.set (nx+2) (.cells v 3 ((q9 x p).flatMap Enc.enc))):=by
 refine u6 hd func71 ntmps71 results71 ?_;refine D7 ?_;intro v0 v1;refine D7 ?_;refine za (qx 5 3 1 rfl λv2=>?_);refine D7 ?_;refine zj (zC (λs:Nat × List Int × Nat=>s.1<=p.length/\s.2.1=q9 x (p.take s.1)) (λ(k,out,v2)=>[(2,.ptr nx v0 0),(3,.ptr (nx+1) v1 0),(5,.sl (nx+2) v2 1 0 out.length),(9,L p),(10,I p.length),(11,I k)]) (λ(k,out,v2)=>[.cells v0 25 (zy x),.cells v1 30 [L p],.cells v2 3 (out.flatMap Enc.enc)]) (λs=>p.length-s.1) (0,[],v2) [] (by simp[q9]) DZ DZ ?_);rintro⟨k,out,v2⟩ ⟨hk,ho⟩;simp only at hk ho ⊢;have hol:out.length=k:=by rw[ho];simp[q9];omega
 refine D7 ?_;refine za (zv rfl (λhc=>?_) (λhc=>?_))
 ·simp at hc;obtain⟨d,tl,a1,a2,a3,e0⟩:=zF rfl p k hc;refine zh (za (zj (za (ze [] (zo hc e0) ?_))));intro v3;refine zb ?_;refine zt (J8 x d (hd' d (Ab a1))) ?_;refine⟨by omega,?_⟩;refine zb ?_;exact zq (k+1,out++[W (yk x d)],v2+1) [_] ⟨hc,by rw[a3,ho];simp[q9]⟩ D2 (by simp[zu k (by omega)]) rfl D0
 ·simp at hc;obtain rfl:k=p.length:=DY
  rw[Ai]at ho;refine zx (D7 ?_);refine zg ⟨_,_,rfl,⟨v2,by simp[zp,hol],rfl⟩,Q8 (j:=2) hd (by simp[ho])⟩
theorem Zic(x:Inst)(p:zA)(hp:p.length<=1048576)(hd':∀d∈p,DayOk d):Pure prog 71 [.agg (zy x),.agg [L p]] (L (q9 x p)):=by
 have hl:(q9 x p).length=p.length:=by simp[q9]
 have:=VM 2 (λS nx hd=>Zr7 x p hp hd' S nx hd) (by rw[jf,hl];omega);rw[<-hl]at this;exact this
def jR(x:Inst)(p:zA):Int:=W (q8 x p x.cust.length+(p.map (yk x)).sum)
theorem Zr8(a:Int)(l:List Int):W (a+(l.map W).sum)=W (a+l.sum):=by
 induction l generalizing a with
 | nil=>rfl
 | cons b l ih =>
  simp only[Az,BP];have e1:a+(W b+(l.map W).sum)=(a+W b)+(l.map W).sum:=DY
  rw[e1,ih,show a+W b+l.sum=(a+l.sum)+W b by omega,VL,show a+l.sum+b=a+(b+l.sum) by omega]
theorem Zr9(x:Inst)(p:zA):W (W (q8 x p x.cust.length)+(q9 x p).sum)=jR x p:=by
 have:q9 x p=(p.map (yk x)).map W:=by simp[q9]
 rw[this,vK,Zr8,jR]
theorem Zsa(x:Inst)(p:zA)(h:Serves x p)(hx:x.cust.length<=1048576)(hf:∀c∈x.cust,CustFits c)(hd':∀d∈p,DayOk d):Pure prog 68 [.agg (zy x),.agg [L p]] (I (jR x p)):=by
 have hres:=Zr9 x p;have hl:(q9 x p).length=p.length:=by simp[q9]
 have hpn:=h.sz.n;have hdy:=Zic x p hpn hd';rw[<-hres];generalize q9 x p=ds at hl hdy;refine zr func68 ntmps68 results68 λS nx hd=>?_
 refine D7 ?_;intro v0 v1;refine D7 ?_;refine zt (Zia x p h hx hf) ?_
 repeat apply za
 refine zb ?_;refine zt hdy ?_;refine zj (zC (λs:Nat=>s<=ds.length) (λk=>[(5,I (W (W (q8 x p x.cust.length)+(ds.take k).sum))),(13,L ds),(14,I ds.length),(15,I k)]) (λ_=>[]) (λs=>ds.length-s) 0 [_,_] DZ (by simp[W_W]) rfl ?_);rintro k hk;refine D7 ?_;refine za (zv rfl (λhc=>?_) (λhc=>?_))
 ·simp at hc;obtain⟨z,tl,a1,a2,a3,e0⟩:=zF rfl ds k hc;have hw:W (W (W (q8 x p x.cust.length)+(ds.take k).sum)+z)=W (W (q8 x p x.cust.length)+(ds.take (k+1)).sum):=by rw[a3,Xq,vK];congr 1;omega
  refine zh (za (zj (za (ze [] (zo hc e0) ?_))));refine zb ?_;refine zb ?_;exact zq (k+1) [] hc DY (by simp[zu k (by omega)];exact hw) rfl DZ
 ·simp at hc;obtain rfl:k=ds.length:=DY
  rw[Ai];refine zx (D7 ?_);exact D8 hd
theorem Zsb(x:Inst)(p:zA)(h:Serves x p)(hx:x.cust.length<=1048576)(hf:∀c∈x.cust,CustFits c)(hd':∀d∈p,DayOk d):Pure prog 26 [.agg (zy x),.agg [L p]] (I (jR x p)):=by
 have hpn:=h.sz.n;refine zr func26 ntmps26 results26 λS nx hd=>?_
 refine D7 ?_;intro v0 v1;refine D7 ?_;refine zt (Zib x p h hx hf) ?_
 repeat apply za
 refine zb ?_;refine zj (zC (λs:Nat=>s<=p.length) (λk=>[(2,.ptr nx v0 0),(3,.ptr (nx+1) v1 0),(5,I (W (q8 x p x.cust.length+((p.take k).map (yk x)).sum))),(6,I k)]) (λ_=>[.cells v0 25 (zy x),.cells v1 30 [L p]]) (λs=>p.length-s) 0 [] DZ DZ DZ ?_);rintro k hk
 repeat apply za
 refine zb ?_;refine zv rfl (λhc=>?_) (λhc=>?_)
 ·simp at hc;obtain⟨d,tl,a1,a2,a3,e0⟩:=zF rfl p k hc;have hw:W (W (q8 x p x.cust.length+((p.take k).map (yk x)).sum)+W (yk x d))=W (q8 x p x.cust.length+((p.take (k+1)).map (yk x)).sum):=by rw[a3,List.map_append,Dc,vK,VL];simp;congr 1;omega
  refine zh (za (zj (zz (some [nx,nx+1]) (Row.pures [0,1,2,3,4,5,6,7,8,9] .done) mixed (zo hc e0) ?_)));refine zG (Zfv x d (hd' d (Ab a1))) trivial ?_;refine zb ?_;exact zq (k+1) [] hc DY (by rw[<-hw];simp[zu k (by omega)]) rfl DZ
 ·simp at hc;obtain rfl:k=p.length:=DY
  have htl:(p.map (yk x)).take p.length=p.map (yk x):=Af DZ;refine zx (D7 ?_);exact zg (zi hd D0 (by simp[htl,jR,zp]))
open Go
def XE(p:zA):Nat:=(p.map λd=>d.flatten.length).sum
theorem Zid:∀(p:zA) (i:Nat),(told i p).length=XE p
 | [],_=>rfl
 | d :: p,i=>by
  have:=Zid p (i+1);simp only[told,Ar,List.length_map,XE,Az,BP]at this ⊢;omega
theorem Zie:∀(d:zn),(∀t∈d,t≠[])->d.length<=d.flatten.length
 | [],_=>by simp
 | t :: d,h=>by
  have h1:=Zie d λu hu=>h u (by simp[hu])
  have h2:=Cg.2 (h t DZ);simp only[BJ,Ad,Ar];omega
theorem ZaE:∀(d:zn) (t:zK),t∈d->t.length<=d.flatten.length
 | [],_,h=>by cases h
 | u :: d,t,h=>by
  simp only[BJ,Ar];rcases As.1 h with rfl | h
  ·omega
  ·have:=ZaE d t h;omega
open Go
def lx:Inst:=⟨1,1,9,9,[],[[0]]⟩
def ly:Inst:=⟨1,1,9,9,[⟨1,1,[1],0,0,0,0,0⟩],[[0,3],[4,0]]⟩
def lp:zA:=[[]]
theorem Zsc:∀i:Nat,yI 1 i=1<->i=0:=by
 intro i;cases i with
 | zero=>simp[yI]
 | succ i=>simp[yI,Nat.div_eq_of_lt (show 1<2 ^ (i+1) from Nat.one_lt_two_pow DY)]
open Go
theorem Zif(p:Nat):∀k:Nat,k<=64->∀i:Nat,yI (j9 p k) i=1->i<k
 | 0,_,i,h=>by simp[j9,yI]at h
 | k+1,hk,i,h=>by
  have ih:=Zif p k DY i;unfold j9 at h;split at h
  ·rw[Zrf _ _ (VT p k) DY]at h;have h2:((j9 p k ||| 2 ^ k).testBit i)=true:=by
    rw[WH];unfold qK at h;rw[if_pos DY,AO]at h;simp[h]
   rw[Do,CF,Da]at h2;rcases h2 with h2 | h2
   ·rw[WH]at h2;have:=ih (by simpa using h2);omega
   ·have:k=i:=by simpa using h2
    omega
  ·have:=ih h;omega
theorem QH{p a k:Nat}{d:Int}(h:d∈yx p a k):∃i:Nat,d=i/\i<k/\yI p i=1:=by
 simp only[yx,Am,A7,AL,Aw,decide_eq_true_eq]at h;obtain⟨i,⟨h1,_,h3⟩,rfl⟩:=h;exact⟨i,rfl,h1,h3⟩
theorem Zig(c:Cust)(days:Int)(h1:1<=days)(h7:days<=7):CustMade (jE c days) days.toNat:=by
 unfold jE;split
 ·have a:=xA c.rate 0 9 DY;have b:=xA c.size 1 30 DY;have d:=xA c.start 0 (yD c.size 1 30) DY;exact⟨⟨by dsimp only;omega,by dsimp only;omega,by dsimp only;omega⟩,by simp,by simp,λh=>by simp at h⟩
 ·have a:=xA c.demand 1 15 DY;refine⟨⟨by simp,by simp,by simp⟩,?_,?_,λ_=>⟨?_,by dsimp only;omega,by dsimp only;omega⟩⟩
  ·intro p hp;simp only[Zs]at hp;split at hp
   ·simp only[AW]at hp;omega
   ·obtain⟨q,_,rfl⟩:=Am.1 hp;exact VT q _
  ·simp only[Zs];split
   ·simp
   ·simp;omega
  ·intro p hp d hd;obtain⟨i,rfl,_,hb⟩:=QH hd;simp only[Zs]at hp;split at hp
   ·simp only[AW]at hp;subst hp;have:=(Zsc i).1 hb;omega
   ·obtain⟨q,_,rfl⟩:=Am.1 hp;have:=Zif q days.toNat DY i hb;omega
theorem WL(x:Inst):1<=(yG x).days/\(yG x).days<=7:=xA x.days 1 7 DY
theorem Zsd(x:Inst):0<=(yG x).cap/\(yG x).cap<=40:=xA x.cap 0 40 DY
theorem Zse(x:Inst):0<=(yG x).veh/\(yG x).veh<=5:=xA x.veh 0 5 DY
theorem Zsf(x:Inst):0<=(yG x).len/\(yG x).len<=300:=xA x.len 0 300 DY
theorem Zsg(x:Inst):(yG x).cust.length<=6:=by simp[yG];omega
theorem Zdk(x:Inst){c:Cust}(h:c∈(yG x).cust):∃c0,c=jE c0 (yG x).days:=by
 simp only[yG,Am]at h;obtain⟨c0,_,rfl⟩:=h;exact⟨c0,rfl⟩
def Zsh(x:Inst)(v c l:Int):Inst:=⟨(yG x).days,v,c,l,(yG x).cust,(yG x).dist⟩
theorem Zsi{d:zn}{t:zK}(ht:t∈d){s:Stop}(hs:s∈t):s∈d.flatten:=BO.2 ⟨t,ht,hs⟩
theorem Zih{m:Nat}:∀(l:List Int),l.Nodup->(∀c∈l,0<=c/\c<m)->l.length<=m:=by
 intro l hn hl;have h1:(l.map Int.toNat).Nodup:=by
  refine List.Pairwise.map _ ?_ (List.Pairwise.and_mem.1 hn);rintro a b ⟨ha,hb,hab⟩ e;have:=hl a ha;have:=hl b hb;exact hab DY
 have h2:∀c∈l.map Int.toNat,c∈List.range m:=by
  intro c hc;obtain⟨z,hz,rfl⟩:=Am.1 hc;have:=hl z hz;exact AL.2 DY
 have:=h1.length_le_of_subset h2;simpa using this
open Go Go.Proofs Hp
theorem Zdl(p:Nat)(hp:p<2 ^ 64):Pure prog 305 [U p] (L (yx p 0 64)):=by
 have h:=Zhp p 0 hp D4;refine zr func305 ntmps305 results305 λS nx hd=>?_
 refine D7 ?_;refine D7 ?_;refine zt h ?_;exact zg (zi hd rfl rfl)
theorem Zsj(c:Cust)(p:Nat)(hp:p<2 ^ 64):Pure prog 277 [.agg (yb c),U p] (L (wv c p)):=by
 have hall:=Zdl p hp;have hln:=Xs p 0 64;unfold wv;generalize yx p 0 64=l at hall hln;refine zr func277 ntmps277 results277 λS nx hd=>?_
 refine D7 ?_;intro v0;refine D7 ?_;refine za (qx 5 104 2 rfl λv1=>?_);refine D7 ?_;refine zt hall ?_;refine zj (zC (λs:Nat × List Visit × Nat=>s.1<=l.length/\s.2.1=(l.take s.1).map λd=>⟨d,c.demand⟩) (λ(k,out,v1)=>[(2,.ptr nx v0 0),(5,.sl (nx+1) v1 2 0 out.length),(9,L l),(10,I l.length),(11,I k)]) (λ(k,out,v1)=>[.cells v0 87 (yb c),.cells v1 104 (out.flatMap Enc.enc)]) (λs=>l.length-s.1) (0,[],v1) [] DZ DZ DZ ?_);rintro⟨k,out,v1⟩ ⟨hk,ho⟩;simp only at hk ho ⊢;have hol:out.length=k:=by rw[ho];simp;omega
 refine D7 ?_;refine za (zv rfl (λhc=>?_) (λhc=>?_))
 ·simp at hc;obtain⟨d,tl,a1,a2,a3,e0⟩:=zF rfl l k hc;refine zh (za (zj (za (ze [] (zo e0 hc) ?_))));refine zb ?_;refine⟨by omega,?_⟩;refine zb ?_;exact zq (k+1,out++[⟨d,c.demand⟩],v1+1) [] ⟨hc,by rw[a3,ho];simp⟩ D2 (by simp[zu k (by omega)]) rfl DZ
 ·simp at hc;obtain rfl:k=l.length:=DY
  rw[Ai]at ho;refine zx (zX 1 rfl ?_);refine D7 ?_;exact zg (zi hd D0 (by simp[zp,ho]))
def vW(price:List Int)(ds:List Int):Int:=ds.foldl (λ(s d:Int)=>if d<price.length then vu s (price.getD d.toNat 0) else s) 0
def WM(price:List Int)(p:Nat):Int:=vW price (yx p 0 64)
def xp(price:List Int)(l:List Nat):Nat->Int × Int
 | 0=>(-1,0)
 | k+1=>if (xp price l k).1<0\/WM price (l.getD k 0)<(xp price l k).2 then (k,WM price (l.getD k 0)) else xp price l k
theorem Zdm(price:List Int)(l:List Nat):∀k:Nat,(xp price l k).1<k/\-1<=(xp price l k).1/\(0<k->0<=(xp price l k).1)
 | 0=>by simp[xp]
 | k+1=>by
  have:=Zdm price l k;unfold xp;split
  ·dsimp only;omega
  ·rename_i h;omega
theorem Zsk(a b:Int)(ha:zM a)(hb:zM b):zM (vu a b):=by
 unfold zM vu at *;split
 ·omega
 ·split<;>omega
theorem Zsl(price ds:List Int)(d:Int):vW price (ds++[d])=if d<price.length then vu (vW price ds) (price.getD d.toNat 0) else vW price ds:=by simp[vW]
theorem Zsm(price:List Int)(hp:∀z∈price,zM z)(ds:List Int):zM (vW price ds):=by
 unfold vW;have:∀(ds:List Int) (s:Int),zM s->zM (ds.foldl (λ(s d:Int)=>if d<price.length then vu s (price.getD d.toNat 0) else s) s):=by
  intro ds
  induction ds with
  | nil=>intro s h;exact h
  | cons d ds ih =>
   intro s h;rw[A4];apply ih;split
   ·refine Zsk _ _ h ?_;rw[Aa];cases hq:price[d.toNat]? with
    | none=>unfold zM;simp
    | some z=>exact hp z (Ab hq)
   ·exact h
 exact this ds 0 (by unfold zM;omega)
theorem Zsn{S:Store}{pl:PV}{price:List Int}(l:List Nat)(hR:RowOf S pl price)(hp:∀z∈price,zM z)(hpl:price.length<=1000)(hl:l.length<=1000)(h64:∀p∈l,p<2 ^ 64):
  Spec prog 276 [L l,pl] S (λq S'=>q=.tup [I (xp price l l.length).1,I (xp price l l.length).2]/\S'=S):=by
 refine yn func276 ntmps276 results276 λnx hd=>?_
 refine D7 ?_;refine D7 ?_
 repeat apply za
 refine zb ?_;refine zj (zC (λk:Nat=>k<=l.length) (λk=>[(1,pl),(6,I (xp price l k).1),(7,I (xp price l k).2),(13,L l),(14,I l.length),(15,I k)]) (λ_=>[]) (λk=>l.length-k) 0 [] DZ (by simp[xp]) DZ ?_);rintro k hk;have hb:xp price l (k+1)=if (xp price l k).1<0\/WM price (l.getD k 0)<(xp price l k).2 then (↑k,WM price (l.getD k 0)) else xp price l k:=rfl
 generalize hst:xp price l k=st at hb ⊢;obtain⟨place,least⟩:=st;simp only at hb ⊢;refine D7 ?_;refine za (zv rfl (λhc=>?_) (λhc=>?_))
 ·simp at hc;obtain⟨p,tl,a1,a2,a3,e0⟩:=zF rfl l k hc;have hall:=Zdl p (h64 p (Ab a1));have hgp:l.getD k 0=p:=by rw[Aa,a1];rfl
  rw[hgp]at hb;have hds:∀d∈yx p 0 64,∃i:Nat,d=i:=λd hd=>by obtain⟨i,h,_⟩:=QH hd;exact⟨i,h⟩
  have hdl:=Xs p 0 64;rw[show WM price p=vW price (yx p 0 64) from rfl]at hb;generalize yx p 0 64=ds at hall hds hdl hb;refine zh (za (zj (za (ze [] (zo e0 hc) ?_))));refine D7 ?_
  repeat apply za
  refine zb ?_;refine zt hall ?_;refine zj (zC (λj:Nat=>j<=ds.length) (λj=>[(1,pl),(6,I place),(7,I least),(8,I k),(10,I (vW price (ds.take j))),(13,L l),(14,I l.length),(15,I k),(21,L ds),(22,I ds.length),(23,I j)]) (λ_=>[]) (λj=>ds.length-j) 0 [] DZ (by simp[vW]) DZ ?_);rintro j hj;refine D7 ?_;refine za (zv rfl (λhc2=>?_) (λhc2=>?_))
  ·simp at hc2;obtain⟨d,tl2,b1,b2,b3,f0⟩:=zF rfl ds j hc2;obtain⟨i,rfl⟩:=hds d (Ab b1);have hsn:=Zsl price (ds.take j) (i:Int);rw[<-b3,AO]at hsn;have hsi:=Zsm price hp (ds.take j);refine zh (za (zj (za (ze [] (zo f0 hc2) ?_))))
   by_cases hi:i<price.length
   ·obtain⟨z,tl3,c1,-,-,g0⟩:=zF rfl price i hi;have hgz:price.getD i 0=z:=by rw[Aa,c1];rfl
    rw[if_pos DY,hgz]at hsn;have hsat:=Zap (vW price (ds.take j)) z hsi (hp z (Ab c1));rw[<-hsn]at hsat;rcases hR with rfl | ⟨id,ver,rfl,hS⟩
    ·refine za (ze [] hi ?_);refine zm rfl (ze [] (zo g0 hi) ?_);refine zt hsat ?_;refine zb ?_;exact zq (j+1) [] hc2 DY (by simp[zu j (by omega)]) rfl DZ
    ·have hlt:id<nx:=yX hd hS DZ;have xr:=λobs=>(zB (S:=S) (obs:=obs) hlt).trans hS
     refine za (ze [] hi ?_);refine zm rfl (ze [] (zD xr g0 hi) ?_);refine zt hsat ?_;refine zb ?_;exact zq (j+1) [] hc2 DY (by simp[zu j (by omega)]) rfl DZ
   ·rw[if_neg DY]at hsn;rcases hR with rfl | ⟨id,ver,rfl,hS⟩
    ·refine za (ze [] hi ?_);refine zk rfl (zh (zb ?_));exact zq (j+1) [] hc2 DY (by simp[zu j (by omega),hsn]) rfl DZ
    ·refine za (ze [] hi ?_);refine zk rfl (zh (zb ?_));exact zq (j+1) [] hc2 DY (by simp[zu j (by omega),hsn]) rfl DZ
  ·simp at hc2;obtain rfl:j=ds.length:=DY
   rw[Ai];refine zx (za (qz (nx:=nx) (σ:=Bool) (λt=>t=decide (place<0\/vW price ds<least)) (λt=>[(1,pl),(6,I place),(7,I least),(8,I k),(10,I (vW price ds)),(13,L l),(14,I l.length),(15,I k),(44,B t)]) (λ_=>S) (λ_=>[]) ?_ ?_))
   ·by_cases h1:place<0
    ·repeat apply za
     refine ze [(2,40)] (zo h1 zH) ?_;exact zT true [] (by simp[h1]) DZ rfl DZ
    ·repeat apply za
     refine ze [(2,40)] h1 ?_;exact zT (decide (vW price ds<least)) [] (by simp[h1]) DZ rfl DZ
   rintro t rfl
   by_cases h:place<0\/vW price ds<least
   ·rw[decide_eq_true h];rw[if_pos h]at hb;refine zm rfl (zb ?_);refine zb ?_;exact zq (k+1) [] hc DY (by simp[zu k (by omega),hb]) rfl DZ
   ·rw[decide_eq_false h];rw[if_neg h]at hb;refine zk rfl (zh (zb ?_));exact zq (k+1) [] hc DY (by simp[zu k (by omega),hb]) rfl DZ
 ·simp at hc;obtain rfl:k=l.length:=DY
  refine zx (D7 ?_);exact zg ⟨_,S,rfl,⟨by simp[zp,hst],rfl⟩,zO hd⟩
def uS(c:Cust)(cap:Int):List Nat:=c.pats.filter λp=>decide (p=0) || decide (c.demand<=cap)
theorem Zso(c:Cust)(cap:Int)(hl:c.pats.length<=1000):Pure prog 275 [.agg (yb c),I cap] (L (uS c cap)):=by
 unfold uS;refine zr func275 ntmps275 results275 λS nx hd=>?_
 refine D7 ?_;intro v0;refine D7 ?_;refine za (qx 5 98 1 rfl λv1=>?_);refine D7 ?_;refine zj (zC (λs:Nat × List Nat × Nat=>s.1<=c.pats.length/\s.2.1=(c.pats.take s.1).filter (λp=>decide (p=0) || decide (c.demand<=cap))/\s.2.1.length<=s.1) (λ(k,out,w)=>[(1,I cap),(2,.ptr nx v0 0),(5,.sl (nx+1) w 1 0 out.length),(9,L c.pats),(10,I c.pats.length),(11,I k)]) (λ(k,out,w)=>[.cells v0 87 (yb c),.cells w 98 (out.flatMap Enc.enc)]) (λs=>c.pats.length-s.1) (0,[],v1) [] DZ DZ DZ ?_);rintro⟨k,out,w⟩ ⟨hk,ho,hol⟩;simp only at hk ho hol ⊢;refine D7 ?_;refine za (zv rfl (λhc=>?_) (λhc=>?_))
 ·simp at hc;obtain⟨p,tl,a1,a2,a3,e0⟩:=zF rfl c.pats k hc;refine zh (za (zj (za (ze [] (zo e0 hc) ?_))));refine za (qz (nx:=nx) (σ:=Bool × Nat) (λs=>s.1=(decide (p=0) || decide (c.demand<=cap))) (λ(t,w)=>[(1,I cap),(2,.ptr nx v0 0),(5,.sl (nx+1) w 1 0 out.length),(7,U p),(9,L c.pats),(10,I c.pats.length),(11,I k),(22,B t)]) (λ_=>S) (λ(t,w)=>[.cells v0 87 (yb c),.cells w 98 (out.flatMap Enc.enc)]) ?_ ?_)
  ·by_cases h1:p=0
   ·repeat apply za
    refine ze [(2,17)] (zo h1 zH) ?_;exact zT (true,w) [] (by simp[h1]) (by simp[h1]) rfl DZ
   ·repeat apply za
    refine ze [(2,17)] h1 ?_;exact zT (decide (c.demand<=cap),w) [] (by simp[h1]) DZ rfl DZ
  rintro⟨t,w⟩ ht;simp only at ht ⊢;subst ht;have hstep:(c.pats.take (k+1)).filter (λp=>decide (p=0) || decide (c.demand<=cap))=out++(if (decide (p=0) || decide (c.demand<=cap))=true then [p] else []):=by
   rw[a3,Bu,ho];congr 1;simp only[BN,List.filter_nil]
  cases ht:(decide (p=0) || decide (c.demand<=cap)) with
  | true =>
   rw[ht,if_pos rfl]at hstep;refine zm rfl (zb ?_);refine⟨by omega,?_⟩;refine zb ?_;exact zq (k+1,out++[p],w+1) [] ⟨hc,hstep.symm,by simp;omega⟩ D2 (by simp[zu k (by omega)]) rfl DZ
  | false =>
   rw[ht,if_neg D4,AC]at hstep;refine zk rfl (zh (zb ?_));exact zq (k+1,out,w) [] ⟨hc,hstep.symm,by dsimp only;omega⟩ D2 (by simp[zu k (by omega)]) rfl DZ
 ·simp at hc;obtain rfl:k=c.pats.length:=DY
  rw[Ai]at ho;refine zx (zX 1 rfl ?_);refine D7 ?_;exact zg (zi hd D0 (by simp[zp,ho]))
def uv(c:Cust)(cap:Int)(price:List Int):List Visit × Bool :=
 if (xp price (uS c cap) (uS c cap).length).1<0 then ([],false) else (wv c ((uS c cap).getD (xp price (uS c cap) (uS c cap).length).1.toNat 0),true)
theorem Zsp{S:Store}{pl:PV}{price:List Int}(c:Cust)(cap:Int)(hR:RowOf S pl price)(hp:∀z∈price,zM z)(hpl:price.length<=1000)(hl:c.pats.length<=1000)(h64:∀p∈c.pats,p<2 ^ 64):
  Spec prog 246 [.agg (yb c),I cap,pl] S (λq S'=>q=.tup [L (uv c cap price).1,B (uv c cap price).2]/\S'=S):=by
 have hca:=Zso c cap hl;have hsub:∀p∈uS c cap,p<2 ^ 64:=λp hp=>h64 p (A7.1 hp).1
 have hcl:(uS c cap).length<=1000:=AD (BI _ _) hl;unfold uv;generalize uS c cap=l at *;have hb:=λS (hR:RowOf S pl price)=>Zsn l hR hp hpl hcl hsub
 obtain⟨b1,b2,b3⟩:=Zdm price l l.length;generalize xp price l l.length=r at *;obtain⟨place,least⟩:=r;simp only at hb b1 b2 b3 ⊢;refine yn func246 ntmps246 results246 λnx hd=>?_
 refine D7 ?_;intro v0;refine D7 ?_;refine zt hca ?_;refine D7 ?_;refine λhsuf=>((hb _ (hR.ext hd _)).mono ?_).v
 rintro _ _ ⟨rfl,rfl⟩;refine⟨_,_,rfl,zL hsuf ?_⟩
 repeat apply za
 refine zb ?_
 by_cases h:place<0
 ·rw[if_pos h];refine zm (by simp[h]) ?_;refine D7 ?_;refine ue 6 rfl ?_;exact zg ⟨_,S,rfl,⟨by simp[zp],rfl⟩,zO hd⟩
 ·rw[if_neg h];obtain⟨i,rfl⟩:=Au (show 0<=place by omega);have hil:i<l.length:=DY
  obtain⟨p,tl,a1,a2,a3,e0⟩:=zF rfl l i hil;have hgp:l.getD (i:Int).toNat 0=p:=by rw[AO,Aa,a1];rfl
  rw[hgp];have hon:=Zsj c p (hsub p (Ab a1));refine zk DZ ?_;refine zh (za (zz (some [nx]) (Row.pures [0,1,2,3,4,5,6,7] .done) mixed (zo e0 hil) ?_));refine zG (hon) (zo e0 hil) ?_;exact zg ⟨_,S,D0,⟨by simp[zp],rfl⟩,zO hd⟩
theorem Zsq{S:Store}{pl:PV}{price:List Int}(c:Cust)(n cap:Int)(hk:c.kind=1)(hR:RowOf S pl price)(hp:∀z∈price,zM z)(hpl:price.length<=1000)(hl:c.pats.length<=1000)(h64:∀p∈c.pats,p<2 ^ 64):
  Spec prog 207 [.agg (yb c),I n,I cap,pl] S (λq S'=>q=.tup [L (uv c cap price).1,B (uv c cap price).2]/\S'=S):=by
 have hs:=λS (hR:RowOf S pl price)=>Zsp c cap hR hp hpl hl h64
 generalize uv c cap price=r at *;obtain⟨v,ok⟩:=r;simp only at hs ⊢;refine yn func207 ntmps207 results207 λnx hd=>?_
 refine D7 ?_;intro v0;refine za (zj (za (ze [] hk ?_)));refine zm rfl (D7 ?_);refine λhsuf=>((hs _ (hR.ext hd _)).mono ?_).v
 rintro _ _ ⟨rfl,rfl⟩;refine⟨_,_,rfl,zL hsuf ?_⟩;exact zg ⟨_,S,D0,⟨by simp[zp],rfl⟩,zO hd⟩
open Go Go.Proofs Hp
def ww(c:Cust)(there cap:Int):Int:=if c.size-there<1\/cap<0 then 0 else if c.size-there<=cap then c.size-there else if c.rule=1 then 0 else cap
theorem Zii{c:Cust}{there cap:Int}(hc:0<=c.size/\c.size<=2147483648)(ht:0<=there):0<=ww c there cap/\ww c there cap<=2147483648:=by
 unfold ww;split
 ·omega
 ·split
  ·omega
  ·split<;>omega
theorem Zdn(c:Cust)(there cap:Int)(hc:0<=c.size/\c.size<=2147483648)(ht:-4611686018427387904<=there/\there<=4611686018427387904):Pure prog 279 [.agg (yb c),I there,I cap] (I (ww c there cap)):=by
 have w1:IntKind.i64.wrap (c.size-there)=c.size-there:=wr _ DY DY;unfold ww;generalize hf:c.size-there=f at w1 ⊢;refine zr func279 ntmps279 results279 λS nx hd=>?_
 refine D7 ?_;intro v0;refine za (ze [] (zo hf w1) ?_);refine za (zj ?_)
 by_cases h:f<1\/cap<0
 ·rw[if_pos h]
  by_cases h1:f<1
  ·refine za (ze [(2,15)] (zo h1 zH) ?_);refine zm rfl (D7 ?_);exact zg (zi hd rfl rfl)
  ·have h2:cap<0:=DY
   refine za (ze [(2,15)] (zo h1 h2) ?_);refine zm rfl (D7 ?_);exact zg (zi hd rfl rfl)
 ·rw[if_neg h];have h1:¬f<1:=DY
  have h2:¬cap<0:=DY
  refine za (ze [(2,15)] (zo h1 h2) ?_);refine zk rfl (D7 ?_)
  by_cases h3:f<=cap
  ·rw[if_pos h3];refine zm (by simp[h3]) ?_;refine D7 ?_;exact zg (zi hd rfl rfl)
  ·rw[if_neg h3];refine zk D2 ?_;refine D7 ?_
   by_cases h4:c.rule=1
   ·rw[if_pos h4];refine zm (by simp[h4]) ?_;refine D7 ?_;exact zg (zi hd rfl rfl)
   ·rw[if_neg h4];refine zk (by simp[h4]) ?_;refine zh (D7 ?_);exact zg (zi hd rfl rfl)
def YU(price:List Int)(d:Int):Int:=if d<0\/(price.length:Int)<=d then 0 else price.getD d.toNat 0
theorem Zdo{S:Store}{pl:PV}{price:List Int}(d:Int)(hR:RowOf S pl price):
  Spec prog 209 [pl,I d] S (λq S'=>q=I (YU price d)/\S'=S):=by
 unfold YU;rcases hR with rfl | ⟨id,ver,rfl,hS⟩
 ·refine yn func209 ntmps209 results209 λnx hd=>?_
  refine D7 ?_
  by_cases h:d<0
  ·rw[if_pos (.inl h)]
   repeat apply za
   refine ze [(2,7)] (zo h zH) ?_;refine zm rfl (D7 ?_);exact zg ⟨_,S,rfl,⟨by simp[zp],rfl⟩,zO hd⟩
  by_cases h2:(price.length:Int)<=d
  ·rw[if_pos (.inr h2)]
   repeat apply za
   refine ze [(2,7)] (zo h h2) ?_;refine zm rfl (D7 ?_);exact zg ⟨_,S,rfl,⟨by simp[zp],rfl⟩,zO hd⟩
  rw[if_neg DY];obtain⟨i,rfl⟩:=Au (show 0<=d by omega);have hi:i<price.length:=DY
  obtain⟨z,tl,a1,-,-,e0⟩:=zF rfl price i hi;have hg:price.getD (i:Int).toNat 0=z:=by rw[AO,Aa,a1];rfl
  rw[hg];have h2':¬price.length<=i:=DY
  repeat apply za
  refine ze [(2,7)] (zD h h2 h2') ?_;refine zk rfl (zh (za (ze [] (zo e0 hi) ?_)));exact zg ⟨_,S,rfl,⟨by simp[zp],rfl⟩,zO hd⟩
 ·refine yn func209 ntmps209 results209 λnx hd=>?_
  have hlt:id<nx:=yX hd hS DZ;have xr:=λobs=>(zB (S:=S) (obs:=obs) hlt).trans hS
  refine D7 ?_
  by_cases h:d<0
  ·rw[if_pos (.inl h)]
   repeat apply za
   refine ze [(2,7)] (zo h zH) ?_;refine zm rfl (D7 ?_);exact zg ⟨_,S,rfl,⟨by simp[zp],rfl⟩,zO hd⟩
  by_cases h2:(price.length:Int)<=d
  ·rw[if_pos (.inr h2)]
   repeat apply za
   refine ze [(2,7)] (zo h h2) ?_;refine zm rfl (D7 ?_);exact zg ⟨_,S,rfl,⟨by simp[zp],rfl⟩,zO hd⟩
  rw[if_neg DY];obtain⟨i,rfl⟩:=Au (show 0<=d by omega);have hi:i<price.length:=DY
  obtain⟨z,tl,a1,-,-,e0⟩:=zF rfl price i hi;have hg:price.getD (i:Int).toNat 0=z:=by rw[AO,Aa,a1];rfl
  rw[hg];have h2':¬price.length<=i:=DY
  repeat apply za
  refine ze [(2,7)] (zD h h2 h2') ?_;refine zk rfl (zh (za (ze [] (zD xr e0 hi) ?_)));exact zg ⟨_,S,rfl,⟨by simp[zp],rfl⟩,zO hd⟩
theorem Zij:∀(l m:List Int) (i:Nat),yy i (l++m)=yy i l++yy (i+l.length) m
 | [],m,i=>by simp[yy]
 | z :: l,m,i=>by
  have ih:=Zij l m (i+1);simp only[List.cons_append,yy,Ad,ih,show i+1+l.length=i+(l.length+1) from by omega];split<;>simp
theorem Zik(q:List Int)(hq:q.length<=1048576):Pure prog 282 [L q] (L (yy 0 q)):=by
 refine zr func282 ntmps282 results282 λS nx hd=>?_
 refine D7 ?_;refine D7 ?_;refine za (qx 3 104 2 rfl λv1=>?_);refine D7 ?_;refine zj (zC (λs:Nat × List Visit × Nat=>s.1<=q.length/\s.2.1=yy 0 (q.take s.1)) (λ(k,out,w)=>[(3,.sl nx w 2 0 out.length),(6,L q),(7,I q.length),(8,I k)]) (λ(k,out,w)=>[.cells w 104 (out.flatMap Enc.enc)]) (λs=>q.length-s.1) (0,[],v1) [] (by simp[yy]) DZ DZ ?_);rintro⟨k,out,w⟩ ⟨hk,ho⟩;simp only at hk ho ⊢;have hol:out.length<=k:=by rw[ho];exact AD (ZaB _ _) D2
 refine D7 ?_;refine za (zv rfl (λhc=>?_) (λhc=>?_))
 ·simp at hc;obtain⟨z,tl,a1,a2,a3,e0⟩:=zF rfl q k hc;have hst:yy 0 (q.take (k+1))=out++(if 0<z then [⟨k,z⟩] else []):=by
   rw[a3,Zij,<-ho,Ay,Bk hk];simp only[yy,AQ]
  refine zh (za (zj (za (ze [] (zo e0 hc) ?_))));refine D7 ?_
  by_cases h:0<z
  ·rw[if_pos h]at hst;refine zm (by simp[h]) ?_;refine zb ?_;refine⟨by omega,?_⟩;refine zb ?_;exact zq (k+1,out++[⟨k,z⟩],w+1) [] ⟨hc,hst.symm⟩ D2 (by simp[zu k (by omega)]) rfl DZ
  ·rw[if_neg h,AC]at hst;refine zk D2 ?_;refine zh (zb ?_);exact zq (k+1,out,w) [] ⟨hc,hst.symm⟩ D2 (by simp[zu k (by omega)]) rfl DZ
 ·simp at hc;obtain rfl:k=q.length:=DY
  rw[Ai]at ho;refine zx (zX 0 rfl ?_);refine D7 ?_;exact zg (zi hd D0 (by simp[zp,ho]))
def y9(c:Cust)(f:Int->Int):Nat->List Int × Int
 | 0=>([],c.start)
 | k+1=>((y9 c f k).1++[f (y9 c f k).2],(y9 c f k).2+(f (y9 c f k).2-c.rate))
def QI(c:Cust)(cap:Int)(t:Int):Int:=ww c (max t 0) cap
def Yj(c:Cust)(cap:Int)(t:Int):Int:=if c.rate<=t then 0 else ww c (max t 0) cap
theorem Jw(c:Cust)(f:Int->Int):∀k,(y9 c f k).1.length=k
 | 0=>rfl
 | k+1=>by simp[y9,Jw c f k]
theorem ZaF{c:Cust}(hc:CustFits c)(cap t:Int):0<=QI c cap t/\QI c cap t<=2147483648:=Zii hc.size DY
theorem ZaG{c:Cust}(hc:CustFits c)(cap t:Int):0<=Yj c cap t/\Yj c cap t<=2147483648:=by
 unfold Yj;split
 ·omega
 ·exact Zii hc.size DY
theorem Jx{c:Cust}(hc:CustFits c){f:Int->Int}(hf:∀t,0<=f t/\f t<=2147483648):∀k:Nat,(-4294967296*((k:Int)+1)<=(y9 c f k).2/\(y9 c f k).2<=4294967296*((k:Int)+1))/\Qs (y9 c f k).1
 | 0=>by
  have:=hc.start;refine⟨by simp only[y9];omega,by intro z hz;cases hz⟩
 | k+1=>by
  obtain⟨h1,h2⟩:=Jx hc hf k;have h3:=hf (y9 c f k).2;have h4:=hc.rate;refine⟨by simp only[y9];push_cast;omega,λz hz=>?_⟩;simp only[y9]at hz;rcases AB.1 hz with hz | hz
  ·exact h2 z hz
  ·rw[AW.1 hz];exact h3
theorem Zsr(c:Cust)(cap t:Int)(hc:CustFits c)(ht:-4611686018427387904<=t/\t<=4611686018427387904):Pure prog 307 [I t,.ip (yb c),.ip [I cap]] (I (QI c cap t)):=by
 have hm:jm t 0=max t 0:=by unfold jm;split<;>omega
 have hmo:=Zdn c (max t 0) cap hc.size DY;unfold QI;generalize max t 0=m at hm hmo ⊢;generalize ww c m cap=z at hmo ⊢;refine zr func307 ntmps307 results307 λS nx hd=>?_
 refine D7 ?_;refine za (ze [] hm ?_);refine qt [] hmo hm ?_;exact zg (zi hd rfl rfl)
theorem Zss(c:Cust)(cap t:Int)(hc:CustFits c)(ht:-4611686018427387904<=t/\t<=4611686018427387904):Pure prog 308 [I t,.ip (yb c),.ip [I cap]] (I (Yj c cap t)):=by
 have hm:jm t 0=max t 0:=by unfold jm;split<;>omega
 have hmo:=Zdn c (max t 0) cap hc.size DY;unfold Yj;generalize max t 0=m at hm hmo ⊢;generalize ww c m cap=z at hmo ⊢;refine zr func308 ntmps308 results308 λS nx hd=>?_
 refine D7 ?_
 repeat apply za
 refine zb ?_
 by_cases h:c.rate<=t
 ·rw[if_pos h];refine zm (by simp[h]) ?_;refine D7 ?_;exact zg (zi hd rfl rfl)
 ·rw[if_neg h];refine zk D2 ?_;refine zh (za (ze [] hm ?_));refine qt [] hmo hm ?_;exact zg (zi hd rfl rfl)
theorem Zil(c:Cust)(n:Nat)(fn:FuncId)(caps:List PV)(f:Int->Int)(hc:CustFits c)(hn:n<=1000)(hf:∀t,0<=f t/\f t<=2147483648)(hfn:∀t,(-4611686018427387904<=t/\t<=4611686018427387904)->Pure prog fn ([I t]++caps) (I (f t))):
  Pure prog 306 [.agg (yb c),I n,.fn (.func fn) [] caps] (.tup [L (y9 c f n).1,B (decide (uq c (y9 c f n).1=0))]):=by
 have hr:=hc.rate;refine zr func306 ntmps306 results306 λS nx hd=>?_
 refine D7 ?_;intro v0;refine D7 ?_;refine za (qx 8 3 1 rfl λv1=>?_);refine zb ?_
 repeat apply za
 refine zb ?_;refine zj (zC (λs:Nat × Nat=>s.1<=n) (λ(k,w)=>[(2,.fn (.func fn) [] caps),(3,.ptr nx v0 0),(8,.sl (nx+1) w 1 0 (y9 c f k).1.length),(9,I (y9 c f k).2),(13,I n),(14,I k)]) (λ(k,w)=>[.cells v0 87 (yb c),.cells w 3 ((y9 c f k).1.flatMap Enc.enc)]) (λs=>n-s.1) (0,v1) [] DZ (by simp[y9]) (by simp[y9]) ?_);rintro⟨k,w⟩ hk;simp only at hk ⊢;obtain⟨hbd,-⟩:=Jx hc hf k;have hl:=Jw c f k;have hsucc:y9 c f (k+1)=((y9 c f k).1++[f (y9 c f k).2],(y9 c f k).2+(f (y9 c f k).2-c.rate)):=rfl;generalize hst:y9 c f k=st at hbd hl hsucc ⊢;obtain⟨q,t⟩:=st;simp only at hbd hl hsucc ⊢;refine D7 ?_;refine za (zv rfl (λhc1=>?_) (λhc1=>?_))
 ·simp at hc1;have hft:=hf t;have hcall:=hfn t DY;have w1:IntKind.i64.wrap (f t-c.rate)=f t-c.rate:=wr _ DY DY;have w2:IntKind.i64.wrap (t+(f t-c.rate))=t+(f t-c.rate):=wr _ DY DY;generalize f t=z at *;refine zh (za (zj (D7 ?_)));refine zt hcall ?_;refine D7 ?_;refine⟨by omega,?_⟩;refine ze [] (zo w1 w2) ?_;refine zb ?_;exact zq (k+1,w+1) [] DY D2 (by simp[zu k (by omega),hsucc]) rfl (by simp[hsucc])
 ·simp at hc1;obtain rfl:k=n:=DY
  refine zx (zX 1 rfl ?_);have hh:=Zhl c q hc DY;refine D7 ?_;refine zt hh ?_;exact zg (zi hd D0 (by simp[zp,hst]))
def Zh(c:Cust)(n:Nat)(cap:Int):List Int × Bool:=((y9 c (QI c cap) n).1,decide (uq c (y9 c (QI c cap) n).1=0))
def ZH(c:Cust)(n:Nat)(cap:Int):List Int × Bool:=((y9 c (Yj c cap) n).1,decide (uq c (y9 c (Yj c cap) n).1=0))
theorem Zst(c:Cust)(n:Nat)(cap:Int)(hc:CustFits c)(hn:n<=1000):Pure prog 281 [.agg (yb c),I n,I cap] (.tup [L (Zh c n cap).1,B (Zh c n cap).2]):=by
 have h:=Zil c n 307 [.ip (yb c),.ip [I cap]] (QI c cap) hc hn (ZaF hc cap) (λt ht=>Zsr c cap t hc ht);unfold Zh;generalize y9 c (QI c cap) n=r at h ⊢;refine zr func281 ntmps281 results281 λS nx hd=>?_
 refine D7 ?_;intro v0 v1;refine x7 0 rfl ?_;refine x7 1 rfl ?_;refine D7 ?_;refine zt h ?_;exact D8 hd
theorem Zsu(c:Cust)(n:Nat)(cap:Int)(hc:CustFits c)(hn:n<=1000):Pure prog 283 [.agg (yb c),I n,I cap] (.tup [L (ZH c n cap).1,B (ZH c n cap).2]):=by
 have h:=Zil c n 308 [.ip (yb c),.ip [I cap]] (Yj c cap) hc hn (ZaG hc cap) (λt ht=>Zss c cap t hc ht);unfold ZH;generalize y9 c (Yj c cap) n=r at h ⊢;refine zr func283 ntmps283 results283 λS nx hd=>?_
 refine D7 ?_;intro v0 v1;refine x7 0 rfl ?_;refine x7 1 rfl ?_;refine D7 ?_;refine zt h ?_;exact D8 hd
def QJ(price:List Int)(v:List Visit):Int:=v.foldl (λs w=>W (s+YU price w.d)) 0
theorem Zsv(price:List Int)(v:List Visit)(w:Visit):QJ price (v++[w])=W (QJ price v+YU price w.d):=by simp[QJ]
def Yk(c:Cust)(n:Int)(price:List Int)(v:List Visit):Int:=if c.kind=1 then QJ price v else W (QJ price v+Yb c (yZ c (z8 v n)).1)
theorem Zdp{S:Store}{pl:PV}{price:List Int}(c:Cust)(n:Int)(v:List Visit)(hR:RowOf S pl price)(hc:CustFits c)(hv:VisOk v):
  Spec prog 208 [.agg (yb c),I n,pl,L v] S (λq S'=>q=I (Yk c n price v)/\S'=S):=by
 have hvn:=hv.n;have hp:=λS (h:RowOf S pl price) d=>Zdo d h
 unfold Yk;refine yn func208 ntmps208 results208 λnx hd=>?_
 refine D7 ?_;intro v0;refine D7 ?_
 repeat apply za
 refine zb ?_;refine zj (zC (λk:Nat=>k<=v.length) (λk=>[(1,I n),(3,L v),(4,.ptr nx v0 0),(9,I (QJ price (v.take k))),(2,pl),(14,L v),(15,I v.length),(16,I k)]) (λ_=>[.cells v0 87 (yb c)]) (λk=>v.length-k) 0 [] DZ (by simp[QJ]) DZ ?_);rintro k hk;refine D7 ?_;refine za (zv rfl (λhc1=>?_) (λhc1=>?_))
 ·simp at hc1;obtain⟨w,tl,a1,a2,a3,e1,e0⟩:=el 2 rfl v k hc1;have hsn:=Zsv price (v.take k) w;rw[<-a3]at hsn;refine zh (za (zj (za (ze [] (zo e0 hc1) ?_))));intro v2;refine zb ?_;refine λhsuf=>((hp _ (hR.ext hd _) _).mono ?_).v
  rintro _ _ ⟨rfl,rfl⟩;refine⟨_,_,rfl,zL hsuf ?_⟩;refine zb ?_;exact zq (k+1) [_] hc1 DY (by simp[zu k (by omega),hsn]) rfl D0
 ·simp at hc1;obtain rfl:k=v.length:=DY
  rw[Ai];refine zx ?_
  repeat apply za
  refine zb ?_
  by_cases hk1:c.kind=1
  ·rw[if_pos hk1];refine zm (by simp[hk1]) ?_;refine D7 ?_;exact zg ⟨_,S,rfl,⟨by simp[zp],rfl⟩,zO hd⟩
  ·rw[if_neg hk1];have hb:=Zho v n hv;have hn:=ZcT c (z8 v n) hc (XC _ _);have hh:=ZcU c _ (Zdj c (z8 v n) (XC _ _));generalize yZ c (z8 v n)=ns at hn hh ⊢;obtain⟨nl,ne⟩:=ns;simp only at hn hh ⊢;refine zk (by simp[hk1]) ?_;refine zh (za (zz (some [nx]) (Row.pures [0,1,2,3,4,5,6,7,8,9] .done) mixed trivial ?_));refine zG (hb) trivial ?_;refine zG (hn) trivial ?_;refine D7 ?_;refine zt hh ?_;exact zg ⟨_,S,rfl,⟨by simp[zp],rfl⟩,zO hd⟩
def QK(c:Cust)(n:Nat)(cap:Int)(price:List Int):List Visit × Bool :=
 if (ZH c n cap).2=true/\((Zh c n cap).2=false\/Yk c n price (yy 0 (ZH c n cap).1)<=Yk c n price (yy 0 (Zh c n cap).1)) then (yy 0 (ZH c n cap).1,true)
 else if (Zh c n cap).2=true then (yy 0 (Zh c n cap).1,true) else ([],false)
theorem Zim{q:List Int}{n:Nat}(hq:Qs q)(hl:q.length=n)(hn:n<=1000):VisOk (yy 0 q):=by
 refine⟨AD (ZaB _ _) DY,λs hs=>?_,λs hs=>?_⟩
 ·have:=ZaC q 0 hq s hs;omega
 ·have:=ZaC q 0 hq s hs;unfold zM;omega
theorem Zsw{S:Store}{pl:PV}{price:List Int}(c:Cust)(n:Nat)(cap:Int)(hR:RowOf S pl price)(hc:CustFits c)(hn:n<=1000):
  Spec prog 248 [.agg (yb c),I n,I cap,pl] S (λq S'=>q=.tup [L (QK c n cap price).1,B (QK c n cap price).2]/\S'=S):=by
 have hD:=Zst c n cap hc hn;have hL:=Zsu c n cap hc hn;have lD:(Zh c n cap).1.length=n:=Jw _ _ _;have lL:(ZH c n cap).1.length=n:=Jw _ _ _;have vD:VisOk (yy 0 (Zh c n cap).1):=Zim (Jx hc (ZaF hc cap) n).2 lD hn;have vL:VisOk (yy 0 (ZH c n cap).1):=Zim (Jx hc (ZaG hc cap) n).2 lL hn;unfold QK;generalize Zh c n cap=rd at *;generalize ZH c n cap=rl at *;obtain⟨qd,od⟩:=rd;obtain⟨ql,ol⟩:=rl;simp only at hD hL lD lL vD vL ⊢;have hVd:=Zik qd DY;have hVl:=Zik ql DY;have hcd:=λS (h:RowOf S pl price)=>Zdp (S:=S) c n (yy 0 qd) h hc vD
 have hcl:=λS (h:RowOf S pl price)=>Zdp (S:=S) c n (yy 0 ql) h hc vL
 generalize yy 0 qd=vd at *;generalize yy 0 ql=vl at *;generalize Yk c n price vd=zd at *;generalize Yk c n price vl=zl at *;refine yn func248 ntmps248 results248 λnx hd=>?_
 refine D7 ?_;intro v0;refine D7 ?_;refine zt hD ?_;refine D7 ?_;refine zt hVd ?_
 repeat apply za
 refine zb ?_;refine zt hL ?_;refine D7 ?_;cases ol with
 | true =>
  refine zm rfl (D7 ?_);refine zt hVl ?_;cases od with
  | false =>
   rw[if_pos ⟨rfl,.inl rfl⟩];refine za (zz (some [nx]) (Row.pures [0,1,2,3,4,5,6,7,8,9,10,11,12,13,14] .done) mixed zH ?_);refine zm rfl (D7 ?_);exact zg ⟨_,S,D0,⟨by simp[zp],rfl⟩,zO hd⟩
  | true =>
   by_cases hle:zl<=zd
   ·rw[if_pos ⟨rfl,.inr hle⟩];refine za (zz (some [nx]) (Row.pures [0,1,2,3,4,5,6,8,9,10,11] (.alt 7 (.alt 12 (Row.pures [13,14] .done) .stop) .stop)) mixed zH ?_);refine(((hcl _ (hR.ext hd _)).mono ?_).v);rintro _ _ ⟨rfl,rfl⟩;refine⟨by simp[yM],jD zH ?_⟩;refine(((hcd _ (hR.ext hd _)).mono ?_).v);rintro _ _ ⟨rfl,rfl⟩;refine⟨by simp[yM],jD zH ?_⟩;refine zm (by simp[hle]) ?_;refine D7 ?_;exact zg ⟨_,S,D0,⟨by simp[zp],rfl⟩,zO hd⟩
   ·rw[if_neg (by rintro⟨-,q | q⟩;cases q;exact hle q),if_pos rfl];refine za (zz (some [nx]) (Row.pures [0,1,2,3,4,5,6,8,9,10,11] (.alt 7 (.alt 12 (Row.pures [13,14] .done) .stop) .stop)) mixed zH ?_);refine(((hcl _ (hR.ext hd _)).mono ?_).v);rintro _ _ ⟨rfl,rfl⟩;refine⟨by simp[yM],jD zH ?_⟩;refine(((hcd _ (hR.ext hd _)).mono ?_).v);rintro _ _ ⟨rfl,rfl⟩;refine⟨by simp[yM],jD zH ?_⟩;refine zk D2 ?_;refine zh ?_
    repeat apply za
    refine zb ?_;refine zk rfl (zh (D7 ?_));exact zg ⟨_,S,D0,⟨by simp[zp],rfl⟩,zO hd⟩
 | false =>
  rw[if_neg (by rintro⟨q,-⟩;cases q)];refine zk rfl (zh ?_)
  repeat apply za
  refine zb ?_;cases od with
  | false =>
   rw[if_neg D4];refine zm rfl (D7 ?_);refine ue 8 rfl ?_;exact zg ⟨_,S,rfl,⟨by simp[zp],rfl⟩,zO hd⟩
  | true =>
   rw[if_pos rfl];refine zk rfl (zh (D7 ?_));exact zg ⟨_,S,D0,⟨by simp[zp],rfl⟩,zO hd⟩
open Go Go.Proofs Hp
def qh(c:Cust)(last d:Int):Int × Int :=
 ((if last<0 then c.start else c.size)-c.rate*((if last<0 then d else d-last).toNat:Int),
  Yb c ((List.range (if last<0 then d else d-last).toNat).map λ(i:Nat)=>(if last<0 then c.start else c.size)-c.rate*((i:Int)+1)))
theorem Zin(c:Cust)(last d:Int)(hc:CustFits c)(hl:-1<=last/\last<=64)(hd0:0<=d/\d<=64):Pure prog 278 [.agg (yb c),I last,I d] (.tup [I (qh c last d).1,I (qh c last d).2]):=by
 have h1:=hc.rate;have h2:=hc.size;have h3:=hc.start;have w0:IntKind.i64.wrap (d-last)=d-last:=wr _ DY DY;have key:qh c last d=(let t0:=if last<0 then c.start else c.size;let m:=if last<0 then d else d-last;(t0-c.rate*(m.toNat:Int),Yb c ((List.range m.toNat).map λ(i:Nat)=>t0-c.rate*((i:Int)+1)))):=rfl;rw[key];obtain⟨t0,ht0⟩:∃t0,t0=if last<0 then c.start else c.size:=⟨_,rfl⟩
 obtain⟨m,hm⟩:∃m,m=if last<0 then d else d-last:=⟨_,rfl⟩
 have hb0:0<=t0/\t0<=2147483648:=by rw[ht0];split<;>omega
 have hmb:-64<=m/\m<=65:=by rw[hm];split<;>omega
 rw[<-ht0,<-hm];clear key;simp only;refine zr func278 ntmps278 results278 λS nx hd=>?_
 refine D7 ?_;intro v0;refine za (ze [] w0 ?_);refine za (qz (nx:=nx) (σ:=Unit) (λ_=>True) (λ_=>[(3,.ptr nx v0 0),(8,I t0),(9,I m)]) (λ_=>S) (λ_=>[.cells v0 87 (yb c)]) ?_ ?_)
 ·refine D7 ?_
  by_cases h:last<0
  ·rw[if_pos h]at ht0 hm;refine zm (by simp[h]) ?_;refine zb ?_;exact zT () [] trivial (by simp[ht0,hm]) rfl DZ
  ·rw[if_neg h]at ht0 hm;refine zk D2 ?_;exact zh (zT () [] trivial (by simp[ht0,hm]) rfl DZ)
 intro _ _;refine D7 ?_;refine za (qx 10 3 1 rfl λv1=>?_);refine D7 ?_;have hprod:∀k:Nat,k<=65->0<=c.rate*(k:Int)/\c.rate*(k:Int)<=2147483648*65:=λk hk=>⟨CW h1.1 DY,DM h1.2 DY DY DY⟩
 refine zj (zC (λs:Nat × Nat=>s.1<=m.toNat) (λ(k,w)=>[(3,.ptr nx v0 0),(8,I (t0-c.rate*(k:Int))),(10,.sl (nx+1) w 1 0 ((List.range k).map λ(i:Nat)=>t0-c.rate*((i:Int)+1)).length),(21,I m),(22,I k)]) (λ(k,w)=>[.cells v0 87 (yb c),.cells w 3 (((List.range k).map λ(i:Nat)=>t0-c.rate*((i:Int)+1)).flatMap Enc.enc)]) (λs=>m.toNat-s.1) (0,v1) [] DZ DZ DZ ?_);rintro⟨k,w⟩ hk;simp only at hk ⊢;have hp:=hprod k DY;have hp1:=hprod (k+1);have hmul:c.rate*((k:Int)+1)=c.rate*(k:Int)+c.rate:=by rw[Df,Int.mul_one]
 have hrs:((List.range (k+1)).map λ(i:Nat)=>t0-c.rate*((i:Int)+1))=((List.range k).map λ(i:Nat)=>t0-c.rate*((i:Int)+1))++[t0-c.rate*((k:Int)+1)]:=by simp[AH]
 have hl0:((List.range k).map λ(i:Nat)=>t0-c.rate*((i:Int)+1)).length=k:=DZ
 generalize hls:((List.range k).map λ(i:Nat)=>t0-c.rate*((i:Int)+1))=ls at *
 by_cases hc1:(k:Int)<m
 ·have w1:IntKind.i64.wrap (t0-c.rate*(k:Int)-c.rate)=t0-c.rate*((k:Int)+1):=by rw[wr _ DY DY];omega
  refine D7 ?_;refine za (zm (by simp[hc1]) ?_);refine zh (za (zj (za (ze [] w1 ?_))));refine zb ?_;refine⟨by omega,?_⟩;refine zb ?_;exact zq (k+1,w+1) [] D2 D2 (by simp[zu k (by omega),hrs];) rfl (by simp[hrs])
 ·refine D7 ?_;refine za (zk D2 ?_);obtain rfl:k=m.toNat:=DY
  refine zx (zX 1 rfl ?_);refine D7 ?_;refine zt (ZcU c ls DY) ?_;exact zg (zi hd D0 (by simp[zp,hls]))
def ZI(c:Cust)(st:List Visit × Int)(d:Int):List Visit × Int:=(st.1++[⟨d,W (c.size-(qh c st.2 d).1)⟩],d)
def yP(c:Cust)(ds:List Int):List Visit × Int:=ds.foldl (ZI c) ([],-1)
theorem XF(c:Cust)(ds:List Int)(d:Int):yP c (ds++[d])=ZI c (yP c ds) d:=by simp[yP]
theorem Zio(c:Cust):∀ds:List Int,(yP c ds).1.length=ds.length:=by
 have:∀(ds:List Int) (st:List Visit × Int),(ds.foldl (ZI c) st).1.length=st.1.length+ds.length:=by
  intro ds
  induction ds with
  | nil=>intro st;simp
  | cons d ds ih=>intro st;rw[A4,ih];simp[ZI];omega
 intro ds;unfold yP;rw[this];simp
theorem Zsx(c:Cust)(p:Nat)(hp:p<2 ^ 64)(hc:CustFits c):Pure prog 280 [.agg (yb c),U p] (L (yP c (yx p 0 64)).1):=by
 have hall:=Zdl p hp;have hln:=Xs p 0 64;have hds:∀d∈yx p 0 64,0<=d/\d<64:=λd hd=>by obtain⟨i,h,h2,_⟩:=QH hd;omega
 generalize yx p 0 64=ds at hall hln hds ⊢;refine zr func280 ntmps280 results280 λS nx hd=>?_
 refine D7 ?_;intro v0;refine D7 ?_;refine za (qx 5 104 2 rfl λv1=>?_);refine zb ?_
 repeat apply za
 refine zb ?_;refine zt hall ?_;have hlast:∀k,-1<=(yP c (ds.take k)).2/\(yP c (ds.take k)).2<=64:=by
  intro k
  induction k with
  | zero=>simp[yP]
  | succ k ih =>
   by_cases h:k<ds.length
   ·rw[AP h,XF];have:=hds ds[k] (A6 h);simp only[ZI];omega
   ·rw[Af DY]at ih ⊢;exact ih
 refine zj (zC (λs:Nat × Nat=>s.1<=ds.length) (λ(k,w)=>[(2,.ptr nx v0 0),(5,.sl (nx+1) w 2 0 (yP c (ds.take k)).1.length),(6,I (yP c (ds.take k)).2),(12,L ds),(13,I ds.length),(14,I k)]) (λ(k,w)=>[.cells v0 87 (yb c),.cells w 104 ((yP c (ds.take k)).1.flatMap Enc.enc)]) (λs=>ds.length-s.1) (0,v1) [] DZ (by simp[yP]) (by simp[yP]) ?_);rintro⟨k,w⟩ hk;simp only at hk ⊢;have hl1:=hlast k;have hfl:(yP c (ds.take k)).1.length=k:=by rw[Zio];simp;omega
 refine D7 ?_;refine za (zv rfl (λhc1=>?_) (λhc1=>?_))
 ·simp at hc1;obtain⟨d,tl,a1,a2,a3,e0⟩:=zF rfl ds k hc1;have hd1:=hds d (Ab a1);have hsn:=XF c (ds.take k) d;rw[<-a3]at hsn;generalize yP c (ds.take k)=st at *;obtain⟨out,last⟩:=st;simp only[ZI]at hl1 hfl hsn ⊢;have hr:=Zin c last d hc hl1 DY;generalize qh c last d=r at hr hsn;obtain⟨th,he⟩:=r;simp only at hr hsn;refine zh (za (zj (za (ze [] (zo e0 hc1) ?_))));refine D7 ?_;refine zt hr ?_;refine D7 ?_;refine⟨by omega,?_⟩;refine zb ?_;refine zb ?_;exact zq (k+1,w+1) [] hc1 D2 (by simp[zu k (by omega),hsn]) rfl (by simp[hsn])
 ·simp at hc1;obtain rfl:k=ds.length:=DY
  rw[Ai];refine zx (zX 1 rfl ?_);refine D7 ?_;exact D8 hd
structure Stp where
 r:Bool
 k:Int
 l:Int
 deriving DecidableEq
instance:Inhabited Stp:=⟨⟨false,0,0⟩⟩
instance:Enc Stp:=⟨λs=>[B s.r,I s.k,I s.l],3,λ_=>rfl,λ_=>rfl⟩
@[simp] theorem ZzI(s:Stp):Enc.enc s=[B s.r,I s.k,I s.l]:=rfl
@[simp high] theorem Zsy(l:List Stp):(l.flatMap Enc.enc).length=l.length*3:=xy l
@[simp high] theorem ZzJ(l:List Stp):(l.flatMap Enc.enc).take (l.length*3)=l.flatMap Enc.enc:=YE l
def zs:Stp:=⟨false,0,0⟩
def Jy(c:Cust)(n:Nat)(cap:Int)(price:List Int)(tab:List Stp)(d:Nat)(last:Int):Int :=
 let k1:=if 0<=last then W ((qh c last d).2+(tab.getD last.toNat zs).k) else (qh c last d).2
 if d<n then W (k1+YU price d) else k1
def QL(c:Cust)(n:Nat)(cap:Int)(tab:List Stp)(d:Nat)(last:Int):Prop :=
 ¬(0<=last/\tab.getD last.toNat zs=zs)/\¬((qh c last d).1<0\/(d<n/\ww c (qh c last d).1 cap=0))
instance (c:Cust) (n:Nat) (cap:Int) (tab:List Stp) (d:Nat) (last:Int):Decidable (QL c n cap tab d last):=by unfold QL;exact inferInstance
def WN(c:Cust)(n:Nat)(cap:Int)(price:List Int)(tab:List Stp)(d:Nat)(best:Stp)(last:Int):Stp :=
 if QL c n cap tab d last then (if best=zs\/Jy c n cap price tab d last<best.k then ⟨true,Jy c n cap price tab d last,last⟩ else best) else best
def xR(c:Cust)(n:Nat)(cap:Int)(price:List Int)(tab:List Stp)(d:Nat)(j:Nat):Stp:=(List.range j).foldl (λb (i:Nat)=>WN c n cap price tab d b ((i:Int)-1)) zs
theorem Zip(c:Cust)(n:Nat)(cap:Int)(price:List Int)(tab:List Stp)(d:Nat)(j:Nat):xR c n cap price tab d (j+1)=WN c n cap price tab d (xR c n cap price tab d j) ((j:Int)-1):=by simp[xR,AH]
def jH(c:Cust)(n:Nat)(cap:Int)(price:List Int):Nat->List Stp
 | 0=>[]
 | k+1=>jH c n cap price k++[xR c n cap price (jH c n cap price k) k (k+1)]
theorem WO(c:Cust)(n:Nat)(cap:Int)(price:List Int):∀k,(jH c n cap price k).length=k
 | 0=>rfl
 | k+1=>by simp[jH,WO c n cap price k]
def ux(tab:List Stp):Nat->Nat->Int->Nat
 | 0,s,_=>s
 | f+1,s,d=>if d<0 then s else ux tab f (qK s d) (tab.getD d.toNat zs).l
def YV(c:Cust)(n:Nat)(cap:Int)(price:List Int):List Visit × Bool :=
 if (jH c n cap price (n+1)).getD n zs=zs then ([],false)
 else ((yP c (yx (ux (jH c n cap price (n+1)) 65 0 ((jH c n cap price (n+1)).getD n zs).l) 0 64)).1,true)
def Zsz(tab:List Stp):Prop:=∀(d:Nat) (e:Stp),tab[d]?=some e->e=zs\/(e.r=true/\-1<=e.l/\e.l<d/\(0<=e.l->tab.getD e.l.toNat zs≠zs))
theorem ZaH(c:Cust)(n:Nat)(cap:Int)(price:List Int)(tab:List Stp)(d:Nat):∀j:Nat,xR c n cap price tab d j=zs\/((xR c n cap price tab d j).r=true/\-1<=(xR c n cap price tab d j).l/\(xR c n cap price tab d j).l+1<j/\QL c n cap tab d (xR c n cap price tab d j).l)
 | 0=>.inl rfl
 | j+1=>by
  have ih:=ZaH c n cap price tab d j;rw[Zip];unfold WN;split
  ·rename_i hok;split
   ·exact .inr ⟨rfl,by dsimp only;omega,by dsimp only;omega,hok⟩
   ·rcases ih with ih | ⟨h1,h2,h3,h4⟩
    ·exact .inl ih
    ·exact .inr ⟨h1,h2,by omega,h4⟩
  ·rcases ih with ih | ⟨h1,h2,h3,h4⟩
   ·exact .inl ih
   ·exact .inr ⟨h1,h2,by omega,h4⟩
theorem Zdq(c:Cust)(n:Nat)(cap:Int)(price:List Int):∀k,Zsz (jH c n cap price k)
 | 0=>by intro d e h;cases h
 | k+1=>by
  have ih:=Zdq c n cap price k;have hl:=WO c n cap price k;have he:=ZaH c n cap price (jH c n cap price k) k (k+1);intro d e h;simp only[jH]at h ⊢;have hget:∀(i:Nat),i<k->(jH c n cap price k++[xR c n cap price (jH c n cap price k) k (k+1)]).getD i zs=(jH c n cap price k).getD i zs:=by
   intro i hi;rw[Aa,Aa,Aq DY]
  by_cases hd:d<k
  ·rw[Aq DY]at h;rcases ih d e h with q | ⟨q1,q2,q3,q4⟩
   ·exact .inl q
   ·refine .inr ⟨q1,q2,q3,λq=>?_⟩;rw[hget _ DY];exact q4 q
  ·rw[Al DY,hl]at h;obtain rfl:d=k:=by
    rcases Bi (d-k) 1 with q | q
    ·omega
    ·rw[Ak (by simpa using q)]at h;cases h
   rw[Bv]at h;simp only[Bf,Option.some.injEq]at h;subst h;rcases he with q | ⟨q1,q2,q3,q4⟩
   ·exact .inl q
   ·refine .inr ⟨q1,q2,by omega,λq=>?_⟩;rw[hget _ DY];exact λhz=>q4.1 ⟨q,hz⟩
open Go Go.Proofs Hp
def qD(tab:List Stp)(b:Stp):List Stp:=tab++b :: List.replicate (64-tab.length) zs
theorem Ziq(tab:List Stp)(b:Stp)(h:tab.length<=64):(qD tab b).length=65:=by simp[qD];omega
theorem ZaI(tab:List Stp)(b:Stp)(i:Nat)(h:i<tab.length):(qD tab b)[i]?=some (tab.getD i zs):=by
 unfold qD;rw[Aq h,Aa,Ae h];rfl
theorem ZsA(tab:List Stp)(b:Stp):(qD tab b)[tab.length]?=some b:=by
 unfold qD;rw[Al (Ag _)];simp
theorem ZsB(tab:List Stp)(b e:Stp):(qD tab b).set tab.length e=qD tab e:=by
 unfold qD;rw[BH _ _ (Ag _)];simp
theorem ZsC(tab:List Stp)(b:Stp)(h:tab.length<64):qD tab b=qD (tab++[b]) zs:=by
 unfold qD;rw[List.append_assoc,Ar,Br,show 64-tab.length=(64-(tab.length+1))+1 from by omega,Bh];rfl
@[simp] theorem ZzK:Program.zeroOf prog 325=some (.agg #[.bool false,.int .i64 0,.int .i64 0,.bool false,.int .i64 0,.int .i64 0,.bool false,.int .i64 0,.int .i64 0,.bool false,.int .i64 0,.int .i64 0,.bool false,.int .i64 0,.int .i64 0,.bool false,.int .i64 0,.int .i64 0,.bool false,.int .i64 0,.int .i64 0,.bool false,.int .i64 0,.int .i64 0,.bool false,.int .i64 0,.int .i64 0,.bool false,.int .i64 0,.int .i64 0,.bool false,.int .i64 0,.int .i64 0,.bool false,.int .i64 0,.int .i64 0,.bool false,.int .i64 0,.int .i64 0,.bool false,.int .i64 0,.int .i64 0,.bool false,.int .i64 0,.int .i64 0,.bool false,.int .i64 0,.int .i64 0,.bool false,.int .i64 0,.int .i64 0,.bool false,.int .i64 0,.int .i64 0,.bool false,.int .i64 0,.int .i64 0,.bool false,.int .i64 0,.int .i64 0,.bool false,.int .i64 0,.int .i64 0,.bool false,.int .i64 0,.int .i64 0,.bool false,.int .i64 0,.int .i64 0,.bool false,.int .i64 0,.int .i64 0,.bool false,.int .i64 0,.int .i64 0,.bool false,.int .i64 0,.int .i64 0,.bool false,.int .i64 0,.int .i64 0,.bool false,.int .i64 0,.int .i64 0,.bool false,.int .i64 0,.int .i64 0,.bool false,.int .i64 0,.int .i64 0,.bool false,.int .i64 0,.int .i64 0,.bool false,.int .i64 0,.int .i64 0,.bool false,.int .i64 0,.int .i64 0,.bool false,.int .i64 0,.int .i64 0,.bool false,.int .i64 0,.int .i64 0,.bool false,.int .i64 0,.int .i64 0,.bool false,.int .i64 0,.int .i64 0,.bool false,.int .i64 0,.int .i64 0,.bool false,.int .i64 0,.int .i64 0,.bool false,.int .i64 0,.int .i64 0,.bool false,.int .i64 0,.int .i64 0,.bool false,.int .i64 0,.int .i64 0,.bool false,.int .i64 0,.int .i64 0,.bool false,.int .i64 0,.int .i64 0,.bool false,.int .i64 0,.int .i64 0,.bool false,.int .i64 0,.int .i64 0,.bool false,.int .i64 0,.int .i64 0,.bool false,.int .i64 0,.int .i64 0,.bool false,.int .i64 0,.int .i64 0,.bool false,.int .i64 0,.int .i64 0,.bool false,.int .i64 0,.int .i64 0,.bool false,.int .i64 0,.int .i64 0,.bool false,.int .i64 0,.int .i64 0,.bool false,.int .i64 0,.int .i64 0,.bool false,.int .i64 0,.int .i64 0,.bool false,.int .i64 0,.int .i64 0,.bool false,.int .i64 0,.int .i64 0,.bool false,.int .i64 0,.int .i64 0,.bool false,.int .i64 0,.int .i64 0,.bool false,.int .i64 0,.int .i64 0,.bool false,.int .i64 0,.int .i64 0,.bool false,.int .i64 0,.int .i64 0,.bool false,.int .i64 0,.int .i64 0,.bool false,.int .i64 0,.int .i64 0,.bool false,.int .i64 0,.int .i64 0]):=D1
theorem Zir{α:Type}[Enc α]:∀(l:List α) (k:Nat),(l.flatMap Enc.enc).take (k*Enc.sz α)=(l.take k).flatMap Enc.enc
 | [],k=>by simp
 | a :: l,0=>by simp
 | a :: l,k+1=>by
  have ih:=Zir l k;rw[Ax,Db,Ax,Nat.add_mul,DP,List.take_append,Enc.len,<-ih,B5,Af (by rw[Enc.len];omega)]
theorem ZsD{α:Type}[Enc α](n:Nat)(hn:Enc.sz α=n)(l:List α)(k:Nat)(v:α)(h:k<l.length):yg (l.flatMap Enc.enc) (k*n) (Enc.enc v)=(l.set k v).flatMap Enc.enc:=by
 subst hn;have h1:=ZbE h;have h2:(l.flatMap Enc.enc).drop (k*Enc.sz α+Enc.sz α)=(l.drop (k+1)).flatMap Enc.enc:=by
  rw[<-List.drop_drop,h1,CD,AZ (by rw[Enc.len];exact Ag _),Enc.len,Bv];simp
 rw[yg,Enc.len,Zir,h2,AF,if_pos h];simp
theorem Zis(tab:List Stp):∀(f s:Nat) (d:Int),s<2 ^ 64->ux tab f s d<2 ^ 64
 | 0,_,_,h=>h
 | f+1,s,d,h=>by
  unfold ux;split
  ·exact h
  ·exact Zis tab f _ _ (Zao _ _ h)
theorem ZsE(tab:List Stp)(f s:Nat){d:Int}(h:d<0):ux tab f s d=s:=by
 cases f with
 | zero=>rfl
 | succ f=>unfold ux;rw[if_pos h]
theorem ZsF{S:Store}{pl:PV}{price:List Int}(c:Cust)(n:Nat)(cap:Int)(hR:RowOf S pl price)(hc:CustFits c)(hn:n<=60):
  Spec prog 247 [.agg (yb c),I n,I cap,pl] S (λq S'=>q=.tup [L (YV c n cap price).1,B (YV c n cap price).2]/\S'=S):=by
 have hmin:xv (n:Int) 64=n:=by unfold xv;split<;>omega
 have hmax:jm (n:Int) 0=n:=by unfold jm;split<;>omega
 have hpr:=λS (h:RowOf S pl price) d=>Zdo d h
 have hrest:=λ(last d:Int) (h1:-1<=last/\last<=64) (h2:0<=d/\d<=64)=>Zin c last d hc h1 h2
 have hmost:=λ(th:Int) (h:-4611686018427387904<=th/\th<=4611686018427387904)=>Zdn c th cap hc.size h
 unfold YV;refine yn func247 ntmps247 results247 λnx hd=>?_
 refine D7 ?_;intro v0;refine za (ze [] (zo hmin hmax) ?_);refine D7 ?_;intro v1;have hw:IntKind.i64.wrap ((n:Int)+1)=((n+1:Nat):Int):=zu n DY
 repeat apply za
 refine ze [] hw ?_;refine zj (zC (λd:Nat=>d<=n+1) (λd=>[(1,I n),(2,I cap),(3,pl),(4,.ptr nx v0 0),(10,.ptr (nx+1) v1 0),(22,I (n+1:Nat)),(23,I d)]) (λd=>[.cells v0 87 (yb c),.cells v1 325 ((qD (jH c n cap price d) zs).flatMap Enc.enc)]) (λd=>n+1-d) 0 [] DZ DZ (by simp[jH];rfl) ?_);rintro d hd1;have htl:=WO c n cap price d;have htok:=Zdq c n cap price d;have htn:jH c n cap price (d+1)=jH c n cap price d++[xR c n cap price (jH c n cap price d) d (d+1)]:=rfl
 by_cases hdn:d<n+1
 case neg =>
  obtain rfl:d=n+1:=DY
  clear htn;generalize jH c n cap price (n+1)=tab at *;have hml:=Ziq tab zs DY;obtain⟨s,tl,a1,-,-,e1,e0⟩:=el 3 rfl (qD tab zs) n DY;have hs:tab.getD n zs=s:=by have:=ZaI tab zs n DY;rw[a1]at this;exact(Option.some.inj this).symm
  have hs2:tab[n]?=some s:=by rw[<-hs,Aa,Ae DY];rfl
  have e12:=e1 2 DY;have hn65:(n:Int)<65:=DY
  have z1:3<=195-n*3:=DY
  have z2:1<=195-(n*3+2):=DY
  rw[hs];refine D7 ?_;refine za (zk DZ ?_);refine zx ?_;rcases htok n s hs2 with q | ⟨hr,hl1,hl2,hl3⟩
  ·subst q;rw[if_pos rfl];have e0':((qD tab zs).flatMap Enc.enc).drop (n*3)=[B false,I 0,I 0]++tl:=e0
   repeat apply za
   refine ze [] (zN e0' hn65 hml z1) ?_;refine zm rfl (D7 ?_);refine ue 8 rfl ?_;exact zg ⟨_,S,rfl,⟨by simp[zp],rfl⟩,zO hd⟩
  ·have hne:s≠zs:=λe=>by rw[e]at hr;cases hr
   rw[if_neg hne];obtain⟨sr,sk,sl⟩:=s;simp only at hr hl1 hl2 hl3 ⊢;subst hr
   repeat apply za
   refine ze [] (zN e0 hn65 hml z1) ?_;refine zk rfl (zh (D7 ?_))
   repeat apply za
   refine ze [] (zN e12 hn65 hml z2) ?_;generalize hres:ux tab 65 0 sl=res;have hrlt:res<2 ^ 64:=hres ▸ Zis tab 65 0 sl D4;have hfil:=Zsx c res hrlt hc;generalize (yP c (yx res 0 64)).1=vv at hfil ⊢;refine zj (zC (λst:Nat × Nat × Int=>ux tab st.1 st.2.1 st.2.2=res/\-1<=st.2.2/\st.2.2<st.1/\st.2.2<n/\st.2.1<2 ^ 64/\(0<=st.2.2->tab.getD st.2.2.toNat zs≠zs)) (λ(f,s,l)=>[(4,.ptr nx v0 0),(10,.ptr (nx+1) v1 0),(16,U s),(17,I l)]) (λ_=>[.cells v0 87 (yb c),.cells v1 325 ((qD tab zs).flatMap Enc.enc)]) (λst=>st.1) (65,0,sl) [] ⟨hres,hl1,by dsimp only;omega,by dsimp only;omega,by show (0:Nat)<2 ^ 64;decide,hl3⟩ DZ DZ ?_);rintro⟨f,s,l⟩ ⟨p1,p2,p3,p4,p5,p6⟩;simp only at p1 p2 p3 p4 p5 p6 ⊢
   by_cases hl:l<0
   ·have hl':¬0<=l:=DY
    rw[ZsE tab f s hl]at p1;subst p1
    repeat apply za
    refine ze [] hl' ?_;refine zk rfl (zx (D7 ?_));refine zt hfil ?_;exact zg ⟨_,S,D0,⟨by simp[zp],rfl⟩,zO hd⟩
   ·have hl':0<=l:=DY
    obtain⟨i,rfl⟩:=Au hl';obtain⟨f,rfl⟩:∃g,f=g+1:=⟨f-1,by omega⟩;have p6:=p6 hl';rw[AO]at p6;have hi:i<tab.length:=DY
    obtain⟨e,tl2,b1,-,-,f1,f0⟩:=el 3 rfl (qD tab zs) i DY;have he:tab.getD i zs=e:=by have:=ZaI tab zs i hi;rw[b1]at this;exact(Option.some.inj this).symm
    have he2:tab[i]?=some e:=by rw[<-he,Aa,Ae hi];rfl
    have f12:=f1 2 DY;have hi65:(i:Int)<65:=DY
    have y2:1<=195-(i*3+2):=DY
    rw[he]at p6;rcases htok i e he2 with q | ⟨er,el1',el2',el3'⟩
    ·exact absurd q p6
    have p1':ux tab f (qK s i) e.l=res:=by
     rw[<-p1];unfold ux;rw[if_neg DY,AO,he];cases f<;>rfl
    repeat apply za
    refine ze [] hl' ?_;refine zm rfl (zh (za (zj (zb ?_))));refine zt (Zhh s i p5) ?_;refine ze [] (zN f12 hi65 hml y2) ?_;exact zq (f,qK s i,e.l) [] ⟨p1',el1',by dsimp only;omega,by dsimp only;omega,Zao _ _ p5,el3'⟩ DZ DZ rfl DZ
 generalize jH c n cap price d=tab at *;refine D7 ?_;refine za (zm D2 ?_);refine zh (za (zj (D7 ?_)));refine D7 ?_;refine zj (zC (λj:Nat=>j<=d+1) (λj=>[(1,I n),(2,I cap),(3,pl),(4,.ptr nx v0 0),(10,.ptr (nx+1) v1 0),(11,I d),(12,I ((j:Int)-1)),(22,I (n+1:Nat)),(23,I d)]) (λj=>[.cells v0 87 (yb c),.cells v1 325 ((qD tab (xR c n cap price tab d j)).flatMap Enc.enc)]) (λj=>d+1-j) 0 [] DZ DZ (by simp[xR]) ?_);rintro j hj;have hesucc:=Zip c n cap price tab d j;have heok:=ZaH c n cap price tab d j;have hdd:xR c n cap price tab d (d+1)=xR c n cap price tab d (d+1):=rfl
 by_cases hjd:j<d+1
 case neg =>
  obtain rfl:j=d+1:=DY
  repeat apply za
  refine zb ?_;refine zk DZ ?_;refine zx (zb ?_);exact zq (d+1) [] hdn DY (by simp[zu d (by omega)]) rfl (by rw[htn,<-ZsC tab _ (by omega)];simp)
 clear hdd htn;generalize xR c n cap price tab d j=b at *;obtain⟨last,hlast⟩:∃last:Int,last=(j:Int)-1:=⟨_,rfl⟩;rw[<-hlast]at hesucc ⊢;have hwl:IntKind.i64.wrap (last+1)=((j+1:Nat):Int)-1:=by rw[wr _ DY DY];omega
 have hml:=Ziq tab b DY;have hd65:(d:Int)<65:=DY
 have zd3:3<=195-d*3:=DY
 have zd1:1<=195-(d*3+1):=DY
 have hr:=hrest last d DY DY;have hrbd:-4611686018427387904<=(qh c last d).1/\(qh c last d).1<=4611686018427387904:=by
  have h1:=hc.rate;have h2:=hc.size;have h3:=hc.start;unfold qh;simp only;have hp:0<=c.rate*((if last<0 then (d:Int) else d-last).toNat:Int)/\c.rate*((if last<0 then (d:Int) else d-last).toNat:Int)<=2147483648*65 :=
   ⟨CW h1.1 DY,DM h1.2 (by split<;>omega) DY DY⟩
  generalize c.rate*((if last<0 then (d:Int) else d-last).toNat:Int)=pp at hp ⊢;split<;>omega
 have hm:=hmost _ hrbd;have hks:∀(k1:Int),k1=(if 0<=last then W ((qh c last d).2+(tab.getD last.toNat zs).k) else (qh c last d).2)->Jy c n cap price tab d last=if d<n then W (k1+YU price d) else k1:=λk1 h=>by unfold Jy;rw[h]
 have hokd:QL c n cap tab d last=(¬(0<=last/\tab.getD last.toNat zs=zs)/\¬((qh c last d).1<0\/(d<n/\ww c (qh c last d).1 cap=0))):=rfl;have hstay:¬QL c n cap tab d last->xR c n cap price tab d (j+1)=b:=λh=>by rw[hesucc];unfold WN;rw[if_neg h]
 have hgo:QL c n cap tab d last->xR c n cap price tab d (j+1)=if b=zs\/Jy c n cap price tab d last<b.k then ⟨true,Jy c n cap price tab d last,last⟩ else b:=λh=>by rw[hesucc];unfold WN;rw[if_pos h]
 clear hesucc;generalize qh c last d=rr at hr hm hks hokd;obtain⟨th,he⟩:=rr;simp only at hr hm hks hokd;generalize ww c th cap=mo at hm hokd;generalize QL c n cap tab d last=OK at hokd hstay hgo;generalize Jy c n cap price tab d last=kk at hks hgo;generalize hb'e:xR c n cap price tab d (j+1)=b' at hstay hgo;subst hokd
 repeat apply za
 refine zb ?_;refine zm D2 ?_;refine zh (za (zj (za (qz (nx:=nx) (σ:=Unit) (λ_=>¬(0<=last/\tab.getD last.toNat zs=zs)) (λ_=>[(1,I n),(2,I cap),(3,pl),(4,.ptr nx v0 0),(10,.ptr (nx+1) v1 0),(11,I d),(12,I last),(22,I (n+1:Nat)),(23,I d)]) (λ_=>S) (λ_=>[.cells v0 87 (yb c),.cells v1 325 ((qD tab b).flatMap Enc.enc)]) ?_ ?_))))
 ·by_cases hl:0<=last
  ·obtain⟨i,hi⟩:=Au hl;have hit:i<tab.length:=DY
   obtain⟨e,tl2,b1,-,-,-,f0⟩:=el 3 rfl (qD tab b) i DY;have hee:tab.getD i zs=e:=by have:=ZaI tab b i hit;rw[b1]at this;exact(Option.some.inj this).symm
   have he2:tab[i]?=some e:=by rw[<-hee,Aa,Ae hit];rfl
   have hi65:(i:Int)<65:=DY
   have y3:3<=195-i*3:=DY
   have hlt:last.toNat=i:=DY
   rcases htok i e he2 with q | ⟨er,-,-,-⟩
   ·subst q;have f0':((qD tab b).flatMap Enc.enc).drop (i*3)=[B false,I 0,I 0]++tl2:=f0;have hb':=hstay λh=>h.1 ⟨hl,by rw[hlt];exact hee⟩
    subst hb';subst hi;refine za (ze [(2,33)] (yF hl f0' hi65 hml y3) ?_);refine zm rfl (zx (ze [] hwl ?_));exact zq (j+1) [] DY DY DZ rfl (by simp[hb'e])
   ·obtain⟨r1,r2,r3⟩:=e;simp only at er;subst er;subst hi;refine za (ze [(2,33)] (yF hl f0 hi65 hml y3) ?_);exact zk rfl (zh (zT () [] (by rw[hlt,hee];rintro⟨-,q⟩;cases q) DZ rfl DZ))
  ·refine za (ze [(2,33)] (zo hl zH) ?_);exact zk rfl (zh (zT () [] (λq=>hl q.1) DZ rfl DZ))
 intro _ hA;refine D7 ?_;refine zt hr ?_;refine za (qz (nx:=nx) (σ:=Unit) (λ_=>¬(th<0\/(d<n/\mo=0))) (λ_=>[(1,I n),(2,I cap),(3,pl),(4,.ptr nx v0 0),(10,.ptr (nx+1) v1 0),(11,I d),(12,I last),(14,I he),(22,I (n+1:Nat)),(23,I d)]) (λ_=>S) (λ_=>[.cells v0 87 (yb c),.cells v1 325 ((qD tab b).flatMap Enc.enc)]) ?_ ?_)
 ·by_cases h1:th<0
  ·have hb':=hstay λh=>h.2 (.inl h1)
   subst hb';refine za (ze [(2,49),(6,53)] (zo h1 zH) ?_);refine zm rfl (zx (ze [] hwl ?_));exact zq (j+1) [] DY DY DZ rfl (by simp[hb'e])
  ·by_cases h2:d<n
   ·by_cases h3:mo=0
    ·have hb':=hstay λh=>h.2 (.inr ⟨h2,h3⟩)
     subst hb';refine za (ze [(2,49),(6,53)] (zD h1 h2 h3) ?_);refine qt [(2,49),(6,53)] hm (zD h1 h2 h3) ?_;refine zm rfl (zx (ze [] hwl ?_));exact zq (j+1) [] DY DY DZ rfl (by simp[hb'e])
    ·refine za (ze [(2,49),(6,53)] (zD h1 h2 h3) ?_);refine qt [(2,49),(6,53)] hm (zD h1 h2 h3) ?_;exact zk rfl (zh (zT () [] DY DZ rfl DZ))
   ·refine za (ze [(2,49),(6,53)] (zD h1 h2 zH) ?_);exact zk rfl (zh (zT () [] DY DZ rfl DZ))
 intro _ hB;have hgo:=hgo ⟨hA,hB⟩;clear hstay hm hr;refine D7 ?_;intro v2;obtain⟨k1,hk1⟩:∃k1,k1=(if 0<=last then W (he+(tab.getD last.toNat zs).k) else he):=⟨_,rfl⟩;have hks:=hks k1 hk1;refine za (qz (nx:=nx) (σ:=Unit) (λ_=>True) (λ_=>[(1,I n),(2,I cap),(3,pl),(4,.ptr nx v0 0),(10,.ptr (nx+1) v1 0),(11,I d),(12,I last),(15,.ptr (nx+2) v2 0),(22,I (n+1:Nat)),(23,I d)]) (λ_=>S) (λ_=>[.cells v0 87 (yb c),.cells v1 325 ((qD tab b).flatMap Enc.enc),.cells v2 324 [B true,I k1,I last]]) ?_ ?_)
 ·refine D7 ?_
  by_cases hl:0<=last
  ·rw[if_pos hl]at hk1;obtain⟨i,hi⟩:=Au hl;have hit:i<tab.length:=DY
   obtain⟨e,tl2,b1,-,-,f1,f0⟩:=el 3 rfl (qD tab b) i DY;have hee:tab.getD i zs=e:=by have:=ZaI tab b i hit;rw[b1]at this;exact(Option.some.inj this).symm
   have f11:=f1 1 DY;have hi65:(i:Int)<65:=DY
   have y1:1<=195-(i*3+1):=DY
   have hlt:last.toNat=i:=DY
   rw[hlt,hee]at hk1;subst hi;refine zm DZ ?_;refine zz (some [nx+1]) (Row.pures [0,2,3,4,5] (.alt 1 (Row.pures [6,7] (.alt 8 (.done) .stop)) .stop)) mixed (zN f11 hi65 hml y1) ?_;exact zT () [] trivial DZ rfl (by simp[hk1])
  ·rw[if_neg hl]at hk1;refine zk D2 ?_;exact zh (zT () [] trivial DZ rfl (by simp[hk1]))
 intro _ _;clear hk1;refine za (qz (nx:=nx) (σ:=Unit) (λ_=>True) (λ_=>[(1,I n),(2,I cap),(3,pl),(4,.ptr nx v0 0),(10,.ptr (nx+1) v1 0),(11,I d),(12,I last),(15,.ptr (nx+2) v2 0),(22,I (n+1:Nat)),(23,I d)]) (λ_=>S) (λ_=>[.cells v0 87 (yb c),.cells v1 325 ((qD tab b).flatMap Enc.enc),.cells v2 324 [B true,I kk,I last]]) ?_ ?_)
 ·refine D7 ?_
  by_cases h2:d<n
  ·rw[if_pos h2]at hks;refine zm (by simp[h2]) ?_;refine zz (some [nx+1]) (Row.pures [0,2,3] (.alt 1 (.alt 4 (Row.pures [5,6] (.alt 7 (.done) .stop)) .stop) (.alt 4 (.alt 1 (Row.pures [5,6] (.alt 7 (.done) .stop)) .stop) .stop))) mixed trivial ?_;refine⟨?_,?_⟩
   ·refine(((hpr _ (hR.ext hd _) _).mono ?_).v);rintro _ _ ⟨rfl,rfl⟩;refine⟨by simp[yM],jD trivial ?_⟩;exact zT () [] trivial DZ rfl (by simp[hks])
   ·refine(((hpr _ (hR.ext hd _) _).mono ?_).v);rintro _ _ ⟨rfl,rfl⟩;refine⟨by simp[yM],jD trivial ?_⟩;exact zT () [] trivial DZ rfl (by simp[hks])
  ·rw[if_neg h2]at hks;refine zk D2 ?_;exact zh (zT () [] trivial DZ rfl (by simp[hks]))
 intro _ _;clear hks;obtain⟨e,tl2,b1,-,-,f1,f0⟩:=el 3 rfl (qD tab b) d DY;have hee:b=e:=by have:=ZsA tab b;rw[htl,b1]at this;exact(Option.some.inj this).symm
 subst hee;have f11:=f1 1 DY;have hsp:=ZsD 3 rfl (qD tab b) d ⟨true,kk,last⟩ DY;have hms:=ZsB tab b ⟨true,kk,last⟩;rw[htl]at hms;rw[hms]at hsp;have hsp':yg ((qD tab b).flatMap Enc.enc) (d*3) [B true,I kk,I last]=(qD tab ⟨true,kk,last⟩).flatMap Enc.enc:=hsp;clear hsp hms;have hmf:((qD tab b).flatMap Enc.enc:List PV).length=195:=by rw[Zsy,hml]
 rcases heok with q | ⟨hbr,-,-,-⟩
 ·subst q;rw[if_pos (.inl rfl)]at hgo;subst hgo;have f0':((qD tab zs).flatMap Enc.enc).drop (d*3)=[B false,I 0,I 0]++tl2:=f0;refine za (zz none (Row.pures [0,1,2,3,4,5,6,7,8,9,10,11,12,13] .done) mixed (yF f0' hd65 hml zd3 zH) ?_);refine zm rfl (ze [] (zN hd65 hmf hsp' hml) ?_);refine⟨by omega,?_⟩;refine ze [] hwl ?_;exact zq (j+1) [_] DY DY DZ rfl (by simp[hb'e];rfl)
 ·obtain⟨r1,r2,r3⟩:=b;simp only at hbr;subst hbr;have hnz:¬((⟨true,r2,r3⟩:Stp)=zs):=λe=>by cases e
  by_cases hlt:kk<r2
  ·rw[if_pos (.inr hlt)]at hgo;subst hgo;refine za (zz none (Row.pures [0,1,2,3,4,5,6,7,8,9,10,11,12,13] .done) mixed (yd f0 f11 hd65 hml zd3 (zo zd1 hlt)) ?_);refine zm rfl (ze [] (zN hd65 hmf hsp' hml) ?_);refine⟨by omega,?_⟩;refine ze [] hwl ?_;exact zq (j+1) [_] DY DY DZ rfl (by simp[hb'e];rfl)
  ·rw[if_neg (by rintro(q | q);exact hnz q;exact hlt q)]at hgo;subst hgo;refine za (zz none (Row.pures [0,1,2,3,4,5,6,7,8,9,10,11,12,13] .done) mixed (yd f0 f11 hd65 hml zd3 (zo zd1 hlt)) ?_);refine zk rfl (zh (ze [] hwl ?_));exact zq (j+1) [_] DY DY DZ rfl (by simp[hb'e];rfl)
open Go Go.Proofs Hp
section
variable {P:Program} {r:Rd} {n N:Nat} {Q:Exit->(Nat->PV)->Store->Prop} {F:Nat->PV} {c:Code}
theorem ZsG{S:Store}{nx:Nat}{obs:List Ob}(j:Nat){ver e:Nat}{cs:List PV}(hj:obs[j]?=some (.cells ver e cs)){id v e2:Nat}{ds:List PV}(hlt:id<nx)(hs:S id=.cells v e2 ds)
  (h:PW P r n N c Q F (ext (S.set id (.cells v e2 (ds.map (qy (nx+j) ver cs)))) nx (obs.set j .dead))):PW P r n N c Q F (ext S nx obs):=by
 have hjl:j<obs.length:=(Ac.1 hj).1;refine Zro (id:=nx+j) (ver:=ver) (e:=e) (cs:=cs) (G:=F) (by rw[zZ,Aa,hj];rfl) (by rw[zZ,Aa,AT hjl];rfl) (λo=>?_) (λ_=>.inl rfl) h
 by_cases ho:o<nx
 ·rw[zB ho,zB ho]
  by_cases hoi:o=id
  ·subst hoi;rw[q11,hs];exact .inr (.inr rfl)
  ·rw[q10 _ _ _ _ hoi];exact .inr (.inl rfl)
 ·simp only[ext];rw[if_neg ho,if_neg ho,Aa,Aa,BB];split
  ·simp[hjl]
  ·exact .inr (.inl rfl)
theorem ZaJ{S T:Store}{nx nz:Nat}{obs:List Ob}(hd:zS nx S)(hle:nx<=nz)(h:∀o,o<nx->T o=S o)(o:Nat):S o=ext T nz obs o\/S o=.dead:=by
 by_cases ho:o<nx
 ·rw[zB DY,h o ho];exact .inl rfl
 ·exact .inr (hd o DY)
end
def ZJ(x:Inst)(sol:Cust->List Int->List Visit × Bool)(b:Int)(n:Nat):Nat->List (List Int)->zA × Int
 | 0,_=>([],15)
 | k+1,pr =>
  if (qM x sol pr).2≠0 then ([],15)
  else if jt (ju x (qM x sol pr).1 b n)=0 then (xn x (qM x sol pr).1 b n,0)
  else if (ju x (qM x sol pr).1 b n).any Yh=true then ([],15)
  else ZJ x sol b n k (XB (ju x (qM x sol pr).1 b n) pr n)
def WP(x:Inst)(sol:Cust->List Int->List Visit × Bool)(b:Int)(n:Nat):zA × Int:=ZJ x sol b n 8 (jQ x n 0)
def Zit(x:Inst)(n:Nat)(sol:Cust->List Int->List Visit × Bool):Prop:=∀pr,Zf x.cust.length n pr->(qM x sol pr).2=0->VsOk x.cust.length n (qM x sol pr).1
theorem ZsH{x:Inst}{sol:Cust->List Int->List Visit × Bool}{b:Int}{n:Nat}(hx:InstH x)(hn:x.days=n)(hn2:n<=1000)(hs:Zdi x n sol)(hv:Zit x n sol)(hb:b<=9223372036854775807):
  Pure prog 128 [.agg (zy x),I b] (.tup [.agg [L (WP x sol b n).1],I (WP x sol b n).2]):=by
 have hm:=hx.cust;unfold WP;have hPo:=Zh7 x n;refine zr func128 ntmps128 results128 λS nx hd=>?_
 refine D7 ?_;intro v0 v1;refine za (zz (some [nx]) (Row.pures [0,1,2,3,4] (.alt 5 (Row.pures [6] (.alt 7 (Row.pures [8] .done) .stop)) .stop)) mixed trivial ?_);refine⟨by omega,?_⟩;intro v2 v3;rw[Zrv];refine Zrq (α:=Int) (nx+2) v2 26 (nx+4) 3 1 x.cust.length DZ (jU (obs:=[_,_,_,_])) λT ws hR hT hdT=>?_
 have hT0:T nx=.cells v0 25 (zy x):=by rw[hT nx DY DY];simp
 have hT1:T (nx+1)=.cells v1 30 [.sc (.slice none 0 0)]:=by rw[hT (nx+1) DY DY];simp
 have hT3:T (nx+3)=.cells v3 235 (xG x (.sc (.slice none 0 0)) b (.sc (.slice none 0 0)) (.sc (.slice none 0 0)) (.sl (nx+2) v2 1 0 x.cust.length)):=by rw[hT (nx+3) DY DY];simp
 have hTS:∀o,o<nx->T o=S o:=λo ho=>by rw[hT o DY DY,zB ho]
 clear hT;obtain⟨nz,hnz⟩:∃nz,nz=nx+4+x.cust.length:=⟨_,rfl⟩;rw[<-hnz]at hdT;rw[show List.replicate x.cust.length ([]:List Int)=jQ x 0 0 from (AY λj=>by
  by_cases h:j<x.cust.length
  ·simp[jQ,h]
  ·rw[Ak D2,Ak (by rw[Jv];omega)])]at hR
 rw[<-qI hdT];refine za (xx [] D3 D3 λK Gc Gh hK hGc hGh X hX0 hX=>?_);simp -implicitDefEqProofs [hX0,hX]
 try clear hX0 hX X
 refine hGc _ _ _ _ _ _ _ λhsuf=>(Spec.mono (Zh4 (nx:=nz) (by rw[qI hdT];exact hdT) x _ _ _ _ _ _ _ n hn hn2 (by rw[qI hdT];exact hT3)
  (λk T'=>(∃ws',RowsAt T' (nx+2) v2 26 (nx+4) 3 1 ws' (jQ x k 0))/\(∀o,o≠nx+2->(o<nx+4\/nx+4+x.cust.length<=o)->T' o=T o)) ⟨⟨ws,by rw[qI hdT];exact hR⟩,λo _ _=>by rw[qI hdT]⟩
  (λk T' h o ho=>by rw[h.2 o DY (.inr DY)];exact hdT o ho) (λk hk T' h=>?_)) ?_).v
 ·obtain⟨⟨ws',h1⟩,h2⟩:=h;refine(ZrW k hm DY DY DY ((h2 (nx+3) DY (.inl DY)).trans hT3) h1).mono ?_;rintro _ T2 ⟨g1,g2⟩;exact⟨g1,λo o1 o2=>(g2 o o1 o2).trans (h2 o o1 o2)⟩
 rintro _ T' ⟨⟨ws',hR'⟩,hT'⟩;have hdT':zS nz T':=λo ho=>by rw[hT' o DY (.inr DY)];exact hdT o ho
 refine⟨T',[],(qI hdT').symm,?_⟩;clear hGc hGh;clear Gc Gh;refine xZ hsuf (D:=[]) D3 λGc Gh hGc hGh X hX0 hX=>?_
 simp -implicitDefEqProofs [hX0,hX];clear hX0 hX X;refine hK _ _ _ ?_;clear hK hGc hGh;clear K Gc Gh
 replace hT0:=(hT' nx DY (.inl DY)).trans hT0
 replace hT1:=(hT' (nx+1) DY (.inl DY)).trans hT1
 replace hT3:=(hT' (nx+3) DY (.inl DY)).trans hT3
 replace hTS:∀o,o<nx->T' o=S o:=λo ho=>(hT' o DY (.inl DY)).trans (hTS o ho)
 clear hT' hR hdT;generalize jQ x n 0=pr0 at *
 repeat apply za
 refine zb ?_;refine zj (jC (σ:=Nat × Store × List (List Int)) (λs=>s.1<=8/\Zf x.cust.length n s.2.2/\ZJ x sol b n 8 pr0=ZJ x sol b n (8-s.1) s.2.2/\(∃ws',RowsAt s.2.1 (nx+2) v2 26 (nx+4) 3 1 ws' s.2.2)/\s.2.1 nx=.cells v0 25 (zy x)/\s.2.1 (nx+1)=.cells v1 30 [.sc (.slice none 0 0)] /\
  (∃vP pP fP,s.2.1 (nx+3)=.cells v3 235 (xG x vP b pP fP (.sl (nx+2) v2 1 0 x.cust.length)))/\(∀o,o<nx->s.2.1 o=S o)/\zS nz s.2.1)
  (λs=>[(2,.ptr nx v0 0),(4,.ptr (nx+1) v1 0),(6,.ptr (nx+3) v3 0),(21,I s.1)]) (λs=>s.2.1) (λ_=>[]) (λs=>8-s.1) (zT (0,T',pr0) [] ⟨by simp,hPo,rfl,⟨ws',hR'⟩,hT0,hT1,⟨_,_,_,hT3⟩,hTS,hdT'⟩ DZ rfl DZ) ?_)
 clear hR' hT0 hT1 hT3 hTS hdT' hPo T';rintro⟨k,T,pr⟩ ⟨hk,hP,hst,⟨ws,hR⟩,hT0,hT1,⟨vP,pP,fP,hT3⟩,hTS,hdT⟩;simp only at hk hP hst hR hT0 hT1 hT3 hTS hdT ⊢;have x0:=λobs=>(zB (S:=T) (nx:=nz) (obs:=obs) (i:=nx) DY).trans hT0
 have x3:=λobs=>(zB (S:=T) (nx:=nz) (obs:=obs) (i:=nx+3) DY).trans hT3
 have g1:¬nz<=nx+1:=DY
 have x1:=λobs=>(zB (S:=T) (nx:=nz) (obs:=obs) (i:=nx+1) DY).trans hT1
 refine D7 ?_;refine za (zv rfl (λhc=>?_) (λhc=>?_))
 ·simp at hc;rw[show 8-k=(7-k)+1 from by omega]at hst;have hvs:=hv pr hP;have hch:=Zr6 (S:=T) hm hP hR hs;rw[show ZJ x sol b n (7-k+1) pr=(if (qM x sol pr).2≠0 then ([],15) else if jt (ju x (qM x sol pr).1 b n)=0 then (xn x (qM x sol pr).1 b n,0) else if (ju x (qM x sol pr).1 b n).any Yh=true then ([],15) else ZJ x sol b n (7-k) (XB (ju x (qM x sol pr).1 b n) pr n)) from rfl]at hst;generalize qM x sol pr=cz at hst hvs hch;obtain⟨v,e⟩:=cz;simp only at hst hvs hch;refine zh (za (zj (za (Zlp none (Row.pures [0,1,2,3,4] (.alt 5 (Row.pures [6,7,8,9,10] .done) .stop)) mixed D3 D3 D3 λK Gp Gc Gh hK hGp hGc hGh X hX0 hX1 hX2 hX=>?_))));simp -implicitDefEqProofs [hX0,hX1,hX2,hX,x0,x3]
  try clear hX0 hX1 hX2 hX X
  refine hGc _ _ _ _ _ _ _ (Spec.mono (by rw[qI hdT];exact hch) ?_).v;rintro _ S2 ⟨rfl,hS2⟩;have hS3:S2=ext T nz []:=hS2.trans (qI hdT).symm;subst hS3;clear hS2;refine⟨by simp[yM],?_⟩;clear hGp hGc hGh;clear Gp Gc Gh;refine ZeJ λGp Gc Gh hGp hGc hGh X hX0 hX1 hX2 hX=>?_
  simp -implicitDefEqProofs [hX0,hX1,hX2,hX]
  try clear hX0 hX1 hX2 hX X
  refine hK _ _ _ ?_;clear hK hGp hGc hGh;clear K Gp Gc Gh
  repeat apply za
  refine zb ?_
  by_cases he:e=0
  case neg =>
   rw[if_pos he]at hst;rw[hst];refine zm (by simp[he]) ?_;refine za (ze [] (zD x0 x1 g1) ?_)
   show PW _ _ _ _ _ _ _ (ext _ _ _)
   refine V6 (o:=nx+1) 0 (by rw[zB (by omega)];first | exact q11 _ _ _ | exact hT1) rfl ?_;rw[qc _ DY]
   try rw[Store.set_set]
   refine zg ⟨_,S,(by simp[zB (show nx+1<nz from by omega),q11];rfl),⟨by simp[zp],rfl⟩,?_⟩;exact ZaJ hd DY λo ho=>by rw[q10 _ _ _ _ DY];exact hTS o ho
  rw[if_neg (by simpa using he)]at hst;have hvs:=hvs he;refine zk (by simp[he]) ?_;refine zh ?_
  repeat apply za
  refine xx [] D3 D3 λK Gc Gh hK hGc hGh X hX0 hX=>?_
  simp -implicitDefEqProofs [hX0,hX]
  try clear hX0 hX X
  refine hGc _ _ _ _ _ _ _ λhsuf=>(Spec.mono (Zru (nx:=nz) (n:=n) (by rw[qI hdT];exact hdT) (by rw[qI hdT];exact hT3) hx hn hn2 hvs hb) ?_).v
  rintro _ _ ⟨rfl,vD,vF,rfl⟩;rw[qI hdT];refine⟨_,_,rfl,?_⟩;clear hGc hGh;clear Gc Gh;refine xZ hsuf (D:=[]) D3 λGc Gh hGc hGh X hX0 hX=>?_
  simp -implicitDefEqProofs [hX0,hX];clear hX0 hX X;refine hK _ _ _ ?_;clear hK hGc hGh;clear K Gc Gh;have hfl:=ZhB x v b n;have hpl:=Zaw x v b n;generalize ju x v b n=fs at *;generalize xn x v b n=pl at *
  by_cases hf:jt fs=0
  ·rw[if_pos hf]at hst;rw[hst];refine zm (by simp[hf]) ?_
   show PW _ _ _ _ _ _ _ (ext _ _ _)
   refine ZsG 0 (id:=nx+3) rfl DY (q11 _ _ _) ?_;rw[Store.set_set];have hfz:([I x.days,I x.veh,I x.cap,I x.len,L x.cust,L x.dist,L v,I b,.sl nz vD 1 0 pl.length,.sl (nz+1) vF 1 0 fs.length,.sl (nx+2) v2 1 0 x.cust.length]:List PV).map (qy (nz+0) vD (pl.flatMap Enc.enc))=xG x (L v) b (L pl) (.sl (nz+1) vF 1 0 fs.length) (.sl (nx+2) v2 1 0 x.cust.length):=by
    simp[qy];omega
   rw[hfz];have y3:=λ(o:Ob) obs=>(zB (S:=T.set (nx+3) o) (nx:=nz) (obs:=obs) (i:=nx+3) DY).trans (q11 _ _ _)
   have y1:=λ(o:Ob) obs=>(zB (S:=T.set (nx+3) o) (nx:=nz) (obs:=obs) (i:=nx+1) DY).trans ((q10 _ _ _ _ DY).trans hT1)
   refine za (ze [] (zD y3 y1 g1) ?_);refine zg ⟨_,S,(by simp[zB (show nx+1<nz from by omega),q11];rfl),⟨by simp[zp],rfl⟩,?_⟩;exact ZaJ hd DY λo ho=>by rw[q10 _ _ _ _ DY,q10 _ _ _ _ DY];exact hTS o ho
  rw[if_neg hf]at hst;refine zk (by simp[hf]) ?_;refine zh ?_;have y3:=λ(o:Ob) obs=>(zB (S:=T.set (nx+3) o) (nx:=nz) (obs:=obs) (i:=nx+3) DY).trans (q11 _ _ _)
  have y1:=λ(o:Ob) obs=>(zB (S:=T.set (nx+3) o) (nx:=nz) (obs:=obs) (i:=nx+1) DY).trans ((q10 _ _ _ _ DY).trans hT1)
  repeat apply za
  refine xx [] D3 D3 λK Gc Gh hK hGc hGh X hX0 hX=>?_
  simp -implicitDefEqProofs [hX0,hX,y3]
  try clear hX0 hX X
  refine hGc _ _ _ _ _ _ _ λhsuf=>((Zr4 (idF:=nz+1) (vF:=vF) fs (by rw[zZ];rfl) DY).mono ?_).v
  rintro _ _ ⟨rfl,rfl⟩;refine⟨_,_,rfl,?_⟩;clear hGc hGh;clear Gc Gh;refine xZ hsuf (D:=[]) D3 λGc Gh hGc hGh X hX0 hX=>?_
  simp -implicitDefEqProofs [hX0,hX];clear hX0 hX X;refine hK _ _ _ ?_;clear hK hGc hGh;clear K Gc Gh;cases hbad:fs.any Yh with
  | true =>
   rw[if_pos hbad]at hst;rw[hst];refine zm rfl (za (ze [] (zo y1 g1) ?_))
   show PW _ _ _ _ _ _ _ (ext _ _ _)
   refine V6 (o:=nx+1) 0 (by rw[zB DY];first | exact q11 _ _ _ | exact(q10 _ _ _ _ DY).trans hT1) rfl ?_;rw[qc _ DY]
   try rw[Store.set_set]
   refine zg ⟨_,S,(by simp[zB (show nx+1<nz from by omega),q11];rfl),⟨by simp[zp],rfl⟩,?_⟩;exact ZaJ hd DY λo ho=>by rw[q10 _ _ _ _ DY,q10 _ _ _ _ DY];exact hTS o ho
  | false =>
   rw[if_neg (by rw[hbad];decide)]at hst;refine zk rfl (zh ?_);generalize hT2:ext (T.set (nx+3) (.cells v3 235 (xG x (L v) b (.sl nz vD 1 0 pl.length) (.sl (nz+1) vF 1 0 fs.length) (.sl (nx+2) v2 1 0 x.cust.length)))) nz [.cells vD 39 (pl.flatMap Enc.enc),.cells vF 47 (fs.flatMap Enc.enc)]=T2;have q3:T2 (nx+3)=.cells v3 235 (xG x (L v) b (.sl nz vD 1 0 pl.length) (.sl (nz+1) vF 1 0 fs.length) (.sl (nx+2) v2 1 0 x.cust.length)):=by rw[<-hT2,zB DY,q11]
   have qF:T2 (nz+1)=.cells vF 47 (fs.flatMap Enc.enc):=by rw[<-hT2,zZ];rfl
   have qo:∀o,o<nz->o≠nx+3->T2 o=T o:=λo h1 h2=>by rw[<-hT2,zB h1,q10 _ _ _ _ h2]
   have qd:zS (nz+2) T2:=by rw[<-hT2];exact jU (obs:=[_,_])
   have qR:RowsAt T2 (nx+2) v2 26 (nx+4) 3 1 ws pr:=hR.other λo ho=>by
    rw[hP.1]at ho;exact qo o DY DY
   clear hT2;rw[<-qI qd];refine xx [] D3 D3 λK Gc Gh hK hGc hGh X hX0 hX=>?_
   simp -implicitDefEqProofs [hX0,hX]
   try clear hX0 hX X
   refine hGc _ _ _ _ _ _ _ λhsuf=>(Spec.mono (Zh4 (nx:=nz+2) (by rw[qI qd];exact qd) x _ _ _ _ _ _ _ n hn hn2 (by rw[qI qd];exact q3)
    (λk T'=>RowsAt T' (nx+2) v2 26 (nx+4) 3 1 ws (XB fs pr k)/\(∀o,(o<nx+4\/nx+4+x.cust.length<=o)->T' o=T2 o)) ⟨by rw[qI qd];exact qR,λo _=>by rw[qI qd]⟩
    (λk T' h o ho=>by rw[h.2 o (.inr DY)];exact qd o ho) (λj hj T' h=>?_)) ?_).v
   ·obtain⟨h1,h2⟩:=h;refine(Zr1 (n:=n) j hm hn2 hj DY DY ((h2 (nz+1) (.inr DY)).trans qF) hfl ((h2 (nx+3) (.inl DY)).trans q3) (WK fs hP j) h1).mono ?_;rintro _ T3 ⟨r1,r2⟩;exact⟨r1,λo o1=>(r2 o o1).trans (h2 o o1)⟩
   rintro _ T3 ⟨hR3,hT3'⟩;have hd3:zS (nz+2) T3:=λo ho=>by rw[hT3' o (.inr DY)];exact qd o ho
   refine⟨T3,[],(qI hd3).symm,?_⟩;clear hGc hGh;clear Gc Gh;refine xZ hsuf (D:=[]) D3 λGc Gh hGc hGh X hX0 hX=>?_
   simp -implicitDefEqProofs [hX0,hX];clear hX0 hX X;refine hK _ _ _ ?_;clear hK hGc hGh;clear K Gc Gh;rw[qI hd3];refine We (T':=λo=>if o<nz then T3 o else .dead) (λo=>by by_cases ho:o<nz<;>simp[ho]) ?_;generalize hT4:(λo=>if o<nz then T3 o else Ob.dead)=T4;have q4:∀o,o<nz->T4 o=T3 o:=λo ho=>by rw[<-hT4];simp[ho]
   have qd4:zS nz T4:=λo ho=>by rw[<-hT4];simp;omega
   clear hT4;rw[<-qI qd4];refine zb ?_;refine zq (k+1,T4,XB fs pr n) [] ⟨by dsimp only;omega,WK fs hP n,by rw[hst,show 8-(k+1)=7-k from by omega],⟨ws,hR3.other λo ho=>q4 o (by rw[(WK fs hP n).1]at ho;omega)⟩,?_,?_,⟨L v,.sl nz vD 1 0 pl.length,.sl (nz+1) vF 1 0 fs.length,?_⟩,λo ho=>?_,qd4⟩ D2 (by simp[zu k (by omega)]) rfl DZ
   ·dsimp only;rw[q4 _ DY,hT3' _ (.inl DY),qo _ DY DY];exact hT0
   ·dsimp only;rw[q4 _ DY,hT3' _ (.inl DY),qo _ DY DY];exact hT1
   ·dsimp only;rw[q4 _ DY,hT3' _ (.inl DY)];exact q3
   ·dsimp only;rw[q4 _ DY,hT3' _ (.inl DY),qo _ DY DY];exact hTS o ho
 ·simp at hc;obtain rfl:k=8:=DY
  rw[hst];refine zx (za (ze [] (zo x1 g1) ?_))
  show PW _ _ _ _ _ _ _ (ext _ _ _)
  refine V6 (o:=nx+1) 0 (by rw[zB (by omega)];first | exact q11 _ _ _ | exact hT1) rfl ?_;rw[qc _ DY]
  try rw[Store.set_set]
  refine zg ⟨_,S,(by simp[zB (show nx+1<nz from by omega),q11];rfl),⟨by simp[zp,ZJ],rfl⟩,?_⟩;exact ZaJ hd DY λo ho=>by rw[q10 _ _ _ _ DY];exact hTS o ho
open Go Go.Proofs Hp
def wy:List Int->Int
 | []=>-1
 | d :: ds=>(d :: ds).getLast DZ
theorem WQ(ds:List Int)(d:Int):wy (ds++[d])=d:=by
 cases ds with
 | nil=>rfl
 | cons a ds=>show (a :: (ds++[d])).getLast _=d;grind
def Ziu(c:Cust)(cap:Int)(last d:Int):Prop:=0<=(qh c last d).1/\ww c (qh c last d).1 cap≠0
inductive FilS (c:Cust) (cap:Int) (n:Nat):List Int->Prop where
 | nil:FilS c cap n []
 | snoc {ds:List Int} {d:Int} (h:FilS c cap n ds) (h1:wy ds<d) (h2:d<n) (h3:Ziu c cap (wy ds) d):FilS c cap n (ds++[d])
theorem FilS.lo{c:Cust}{cap:Int}{n:Nat}{ds:List Int}(h:FilS c cap n ds):-1<=wy ds/\(∀d∈ds,0<=d/\d<n/\d<=wy ds):=by
 induction h with
 | nil=>exact⟨by decide,by simp⟩
 | snoc h h1 h2 h3 ih =>
  grind[WQ]
theorem FilS.inc{c:Cust}{cap:Int}{n:Nat}{ds:List Int}(h:FilS c cap n ds):ds.Pairwise (· < ·):=by
 induction h with
 | nil=>simp
 | snoc h h1 h2 h3 ih =>
  rw[List.pairwise_append];refine⟨ih,by simp,λa ha b hb=>?_⟩;rw[AW.1 hb];have:=h.lo.2 a ha;omega
theorem Zdr(c:Cust)(ds:List Int):(yP c ds).2=wy ds:=by
 rcases List.eq_nil_or_concat ds with rfl | ⟨l,d,rfl⟩
 ·rfl
 ·rw[List.concat_eq_append,XF,WQ];rfl
theorem Zds(c:Cust):∀ds:List Int,(yP c ds).1.map (·.d)=ds:=by
 have:∀(ds:List Int) (st:List Visit × Int),(ds.foldl (ZI c) st).1.map (·.d)=st.1.map (·.d)++ds:=by
  intro ds
  induction ds with
  | nil=>intro st;simp
  | cons d ds ih=>intro st;rw[A4,ih];simp[ZI]
 simp_all[yP]
theorem Zdt{c:Cust}(hc:CustFits c){cap last d:Int}(h:Ziu c cap last d):W (c.size-(qh c last d).1)=c.size-(qh c last d).1/\1<=c.size-(qh c last d).1/\c.size-(qh c last d).1<=2147483648/\(c.rule=1->c.size-(qh c last d).1<=cap):=by
 obtain⟨h1,h2⟩:=h;have hs:=hc.size
 grind[ww,wr]
theorem Ziv{c:Cust}(hc:CustFits c){cap:Int}{n:Nat}(hn:n<=60){ds:List Int}(h:FilS c cap n ds):GoodV n (yP c ds).1:=by
 have hlen:ds.length<=64:=by
  have h1:=Zih (m:=n) ds (h.inc.imp λh=>Di h) (λd hd=>by have:=h.lo.2 d hd;omega);omega
 refine⟨by simp_all[Zio],?_,by rw[Zds];exact h.inc.imp λh=>Di h⟩
 induction h with
 | nil=>intro s hs;cases hs
 | @snoc ds d h h1 h2 h3 ih =>
  intro s hs;rw[XF]at hs;simp only[ZI]at hs;rcases AB.1 hs with hs | hs
  ·grind
  ·rw[AW.1 hs];rw[Zdr];obtain⟨q1,q2,q3,-⟩:=Zdt hc h3;have:=h.lo.1
   grind
def QM(tab:List Stp):Nat->Int->List Int
 | 0,_=>[]
 | f+1,d=>if d<0 then [] else d :: QM tab f (tab.getD d.toNat zs).l
def ZaK(c:Cust)(n:Nat)(cap:Int)(tab:List Stp):Prop:=∀(d:Nat) (e:Stp),tab[d]?=some e->e≠zs->-1<=e.l/\e.l<d/\(0<=e.l->tab.getD e.l.toNat zs≠zs)/\0<=(qh c e.l d).1/\(d<n->ww c (qh c e.l d).1 cap≠0)
theorem Ziw(c:Cust)(n:Nat)(cap:Int)(price:List Int):∀k,ZaK c n cap (jH c n cap price k)
 | 0=>by intro d e h;cases h
 | k+1=>by
  have ih:=Ziw c n cap price k;have hl:=WO c n cap price k;have he:=ZaH c n cap price (jH c n cap price k) k (k+1);have hok:=Zdq c n cap price (k+1);intro d e h hne;have hok:=hok d e h;simp only[jH]at h hok ⊢;rcases hok with q | ⟨-,q2,q3,q4⟩
  ·simp_all
  refine⟨q2,q3,q4,?_⟩
  by_cases hd:d<k
  ·rw[Aq DY]at h;exact(ih d e h hne).2.2.2
  ·rw[Al DY,hl]at h;obtain rfl:d=k:=D5
   rw[Bv]at h;simp only[Bf,Option.some.injEq]at h;subst h;rcases he with q | ⟨-,-,-,p4⟩
   ·simp_all
   ·have:=p4.2;omega
theorem Zdu{c:Cust}{n:Nat}{cap:Int}{tab:List Stp}(h:ZaK c n cap tab):∀(f:Nat) (d:Int),-1<=d->d<f->d<n->(0<=d->tab.getD d.toNat zs≠zs)->FilS c cap n (QM tab f d).reverse/\wy (QM tab f d).reverse=d
 | 0,d,h1,h2,_,_=>by
  obtain rfl:d=-1:=DY
  exact⟨.nil,rfl⟩
 | f+1,d,h1,h2,h3,h4=>by
  unfold QM
  by_cases hd:d<0
  ·rw[if_pos hd];obtain rfl:d=-1:=DY
   exact⟨.nil,rfl⟩
  ·rw[if_neg hd,Cz];have h4:=h4 DY;obtain⟨i,rfl⟩:=Au (show 0<=d by omega);rw[AO]at h4 ⊢;have he:∃e,tab[i]?=some e/\tab.getD i zs=e:=by
    cases hq:tab[i]? with
    | none=>simp_all
    | some e=>simp_all
   obtain⟨e,he1,he2⟩:=he;rw[he2]at h4 ⊢;obtain⟨g1,g2,g3,g4,g5⟩:=h i e he1 h4;obtain⟨p1,p2⟩:=Zdu h f e.l g1 DY DY g3;exact⟨.snoc p1 DY h3 (by rw[p2];exact⟨g4,g5 (by omega)⟩),WQ _ _⟩
theorem ZsI(s:Nat)(d i:Nat)(hd:d<64):yI (qK s d) i=1<->yI s i=1\/i=d:=by
 have h:((qK s d).testBit i)=(s.testBit i || decide (d=i)):=by
  unfold qK;rw[if_pos DY,AO,Do,CF]
 grind[yI]
theorem Zix{c:Cust}{n:Nat}{cap:Int}{tab:List Stp}(h:ZaK c n cap tab)(hn:n<=60):∀(f s:Nat) (d:Int),-1<=d->d<n->(0<=d->tab.getD d.toNat zs≠zs)->∀i:Nat,yI (ux tab f s d) i=1<->yI s i=1\/(i:Int)∈QM tab f d
 | 0,s,d,_,_,_=>λi=>by simp[ux,QM]
 | f+1,s,d,h1,h3,h4=>λi=>by
  unfold ux QM
  by_cases hd:d<0
  ·simp_all
  ·rw[if_neg hd,if_neg hd];have h4:=h4 DY;obtain⟨k,rfl⟩:=Au (show 0<=d by omega);rw[AO]at h4 ⊢;have he:∃e,tab[k]?=some e/\tab.getD k zs=e:=by
    cases hq:tab[k]? with
    | none=>simp_all
    | some e=>simp_all
   obtain⟨e,he1,he2⟩:=he;rw[he2]at h4 ⊢;obtain⟨g1,g2,g3,-⟩:=h k e he1 h4;rw[Zix h hn f _ e.l g1 DY g3 i,ZsI s k i DY,As,Int.natCast_inj,or_assoc]
theorem ZsJ:∀{a b:List Int},a.Pairwise (· < ·)->b.Pairwise (· < ·)->(∀z,z∈a<->z∈b)->a=b:=by
 intro a b ha hb h;have hp:a.Perm b:=(Dg (ha.imp λh=>Di h) (hb.imp λh=>Di h)).2 h;exact Zgr hp (ha.imp λh=>Int.le_of_lt h) (hb.imp λh=>Int.le_of_lt h)
theorem Ziy(s a k:Nat):(yx s a k).Pairwise (· < ·):=by
 unfold yx;rw[CP];have h:(List.range k).Pairwise (· < ·):=List.pairwise_lt_range;exact(h.sublist List.filter_sublist).imp λh=>by omega
theorem ZsK{c:Cust}{n:Nat}{cap:Int}{tab:List Stp}(h:ZaK c n cap tab)(hn:n<=60){d:Int}(h1:-1<=d)(h3:d<n)(h4:0<=d->tab.getD d.toNat zs≠zs):yx (ux tab 65 0 d) 0 64=(QM tab 65 d).reverse:=by
 obtain⟨hf,-⟩:=Zdu h 65 d h1 DY h3 h4;refine ZsJ (Ziy _ _ _) hf.inc λz=>?_
 have hb:=Zix h hn 65 0 d h1 h3 h4;have h0:∀i,¬yI 0 i=1:=by intro i;simp[yI]
 rw[List.mem_reverse];constructor
 ·grind[QH]
 ·intro hz;have hlo:=hf.lo.2 z (List.mem_reverse.2 hz)
  grind[Int.eq_ofNat_of_zero_le,yx]
theorem Ziz{c:Cust}{n:Nat}(hn:n<=60){cap:Int}{price:List Int}(h:(YV c n cap price).2=true):∃ds,FilS c cap n ds/\0<=(qh c (wy ds) n).1/\(YV c n cap price).1=(yP c ds).1:=by
 have hfit:=Ziw c n cap price (n+1);have hl:=WO c n cap price (n+1);unfold YV at h ⊢;generalize jH c n cap price (n+1)=tab at *;split at h
 ·cases h
 rename_i hne;rw[if_neg hne];have he:∃e,tab[n]?=some e/\tab.getD n zs=e:=⟨_,Ae DY,by rw[Aa,Ae DY];rfl⟩;obtain⟨e,he1,he2⟩:=he;rw[he2]at hne ⊢;obtain⟨g1,g2,g3,g4,-⟩:=hfit n e he1 hne
 grind[Zdu,ZsK]
def qa(n:Nat)(cap:Int)(c:Cust)(price:List Int):List Visit × Bool :=
 if c.kind=1 then uv c cap price else if c.rule=1 then YV c n cap price else QK c n cap price
theorem Zdv{S:Store}{pl:PV}{price:List Int}(c:Cust)(n:Nat)(cap:Int)(hR:RowOf S pl price)(hp:∀z∈price,zM z)(hpl:price.length<=1000)(hm:CustMade c n)(hpc:c.pats.length<=1000)(hn:n<=60):
  Spec prog 207 [.agg (yb c),I n,I cap,pl] S (λq S'=>q=.tup [L (qa n cap c price).1,B (qa n cap c price).2]/\S'=S):=by
 unfold qa
 by_cases hk:c.kind=1
 ·rw[if_pos hk];exact Zsq c n cap hk hR hp hpl hpc hm.pats
 rw[if_neg hk]
 by_cases hr:c.rule=1
 ·rw[if_pos hr];have hs:=λS (hR:RowOf S pl price)=>ZsF c n cap hR hm.fits hn
  generalize YV c n cap price=r at *;obtain⟨v,ok⟩:=r;simp only at hs ⊢;refine yn func207 ntmps207 results207 λnx hd=>?_
  refine D7 ?_;intro v0;refine za (zj (za (ze [] hk ?_)));refine zk DZ ?_;refine za (ze [] hr ?_);refine zm DZ ?_;refine D7 ?_;refine λhsuf=>((hs _ (hR.ext hd _)).mono ?_).v
  rintro _ _ ⟨rfl,rfl⟩;refine⟨_,_,rfl,zL hsuf ?_⟩;exact zg ⟨_,S,D0,⟨by simp,rfl⟩,zO hd⟩
 ·rw[if_neg hr];have hs:=λS (hR:RowOf S pl price)=>Zsw c n cap hR hm.fits DY
  generalize QK c n cap price=r at *;obtain⟨v,ok⟩:=r;simp only at hs ⊢;refine yn func207 ntmps207 results207 λnx hd=>?_
  refine D7 ?_;intro v0;refine za (zj (za (ze [] hk ?_)));refine zk DZ ?_;refine za (ze [] hr ?_);refine zk DZ ?_;refine zh (D7 ?_);refine λhsuf=>((hs _ (hR.ext hd _)).mono ?_).v
  rintro _ _ ⟨rfl,rfl⟩;refine⟨_,_,rfl,zL hsuf ?_⟩;exact zg ⟨_,S,D0,⟨by simp,rfl⟩,zO hd⟩
theorem ZsL{c:Cust}{n:Nat}(hm:CustMade c n)(hk:c.kind=1){p:Nat}(hp:p∈c.pats):GoodV n (wv c p):=by
 obtain⟨h1,h2⟩:=hm.per hk;refine⟨by simp only[wv,List.length_map];exact Xs _ _ _,λs hs=>?_,by simp only[wv,BL];exact(by simpa[Function.comp_def] using ZrT p 0 64)⟩
 grind[wv,yx]
theorem ZiA{c:Cust}{cap:Int}{price:List Int}(h:(uv c cap price).2=true):∃p∈c.pats,(p=0\/c.demand<=cap)/\(uv c cap price).1=wv c p:=by
 unfold uv at h ⊢;split at h
 ·cases h
 rename_i hn;rw[if_neg hn];have hb:=Zdm price (uS c cap) (uS c cap).length
 grind[uS,List.getElem_mem]
theorem WR{c:Cust}{n:Nat}(hm:CustMade c n)(hn:n<=60)(cap:Int)(price:List Int)(h:(qa n cap c price).2=true):GoodV n (qa n cap c price).1:=by
 unfold qa at h ⊢
 by_cases hk:c.kind=1
 ·grind[ZiA,ZsL]
 rw[if_neg hk]at h ⊢
 by_cases hr:c.rule=1
 ·rw[if_pos hr]at h ⊢;obtain⟨ds,h1,-,e⟩:=Ziz hn h;rw[e];exact Ziv hm.fits hn h1
 ·rw[if_neg hr]at h ⊢;have hD:GoodV n (yy 0 (Zh c n cap).1):=Zh3 (Jx hm.fits (ZaF hm.fits cap) n).2 (Cx (Jw _ _ _)) DY;have hL:GoodV n (yy 0 (ZH c n cap).1):=Zh3 (Jx hm.fits (ZaG hm.fits cap) n).2 (Cx (Jw _ _ _)) DY
  grind[QK]
structure InstA (x:Inst) (n:Nat):Prop where
 h:InstH x
 days:x.days=n
 n60:n<=60
 made:∀c∈x.cust,CustMade c n
 pats:∀c∈x.cust,c.pats.length<=1000
theorem ZsM{x:Inst}{n:Nat}(h:InstA x n):Zdi x n (qa n x.cap):=by
 intro c hc l hl hi S pl hR;rw[h.days];have:=h.n60;exact Zdv c n x.cap hR hi DY (h.made c hc) (h.pats c hc) h.n60
theorem ZiB{x:Inst}{sol:Cust->List Int->List Visit × Bool}{pr:List (List Int)}(h:(qM x sol pr).2=0):(qM x sol pr).1.length=x.cust.length/\∀i c,x.cust[i]?=some c->(qM x sol pr).1[i]?=some (sol c (pr.getD i [])).1/\(sol c (pr.getD i [])).2=true:=by
 unfold qM at h ⊢;split at h
 ·rename_i hall;rw[if_pos hall];refine⟨by simp[Zg],λi c hc=>?_⟩;have hi:=(Ac.1 hc).1;have hg:x.cust.getD i default=c:=by rw[Aa,hc];rfl
  refine⟨by simp only[Zg,BL,Aj,A9 hi,A3,Function.comp_apply,hg],?_⟩;have:=AA.1 hall _ (Zh8 x sol pr hi);rw[hg]at this;exact this
 omega
theorem ZiC{x:Inst}{n:Nat}(h:InstA x n):Zit x n (qa n x.cap):=by
 intro pr hP h0;obtain⟨h1,h2⟩:=ZiB h0;have key:∀l∈(qM x (qa n x.cap) pr).1,GoodV n l:=by
  intro l hl;obtain⟨i,hi,rfl⟩:=List.getElem_of_mem hl;have hic:i<x.cust.length:=DY
  obtain⟨e1,e2⟩:=h2 i _ (Ae hic);rw[Ae hi]at e1;rw[Option.some.inj e1];exact WR (h.made _ (A6 hic)) h.n60 _ _ e2
 exact⟨h1,λl hl w hw=>(key l hl).ok w hw,λl hl=>(key l hl).nd,λl hl=>by have:=(key l hl).len;omega⟩
def jx(x:Inst)(b:Int):zA × Int:=WP x (qa x.days.toNat x.cap) b x.days.toNat
theorem ZsN{x:Inst}{n:Nat}(h:InstA x n){b:Int}(hb:b<=9223372036854775807):Pure prog 128 [.agg (zy x),I b] (.tup [.agg [L (jx x b).1],I (jx x b).2]):=by
 have hd:x.days.toNat=n:=by rw[h.days];rfl
 unfold jx;rw[hd];exact ZsH h.h h.days (by have:=h.n60;omega) (ZsM h) (ZiC h) hb
theorem ZsO(x:Inst)(c l:Int):InstA (Zsh x 6 c l) (yG x).days.toNat:=by
 have hd:=WL x;refine⟨⟨AD (Zcl x) D4,Zha x,Zg3 x,by show (0:Int)<=6;decide⟩,?_,by omega,λc hc=>?_,λc hc=>?_⟩
 ·show (yG x).days=_;omega
 ·obtain⟨c0,rfl⟩:=Zdk x hc
  simp_all[Zig]
 ·obtain⟨c0,rfl⟩:=Zdk x hc
  grind[jE,Zs]
theorem ZsP(x:Inst):InstA (yG x) (yG x).days.toNat:=by
 have hd:=WL x;have h:=ZsO x (yG x).cap (yG x).len;exact⟨⟨AD (Zcl x) D4,Zha x,Zg3 x,Zqd x⟩,by omega,h.n60,h.made,h.pats⟩
open Go Go.Proofs Hp
def Zi(c:Int)(p:zA):zA:=p.map (jP c)
theorem ZsQ(p:zA)(c:Int)(hp:p.length<=1000)(hd0:∀d∈p,d.length<=1048576)(ht:∀d∈p,∀t∈d,t.length<=1048576):Pure prog 287 [.agg [L p],I c] (.agg [L (Zi c p)]):=by
 unfold Zi;refine zr func287 ntmps287 results287 λS nx hd=>?_
 refine D7 ?_;intro v0 v1;refine D7 ?_;intro v2;refine je 2 0 39 1 rfl rfl λv3=>?_
 repeat apply za
 refine zb ?_;refine zj (zC (λs:Nat × zA × Nat=>s.1<=p.length/\s.2.1=(p.take s.1).map (jP c)) (λ(k,q,w)=>[(1,I c),(4,.ptr (nx+1) v1 0),(5,.ptr (nx+2) v2 0),(11,L p),(12,I p.length),(13,I k)]) (λ(k,q,w)=>[.cells v0 30 [L p],.cells v1 30 [yu],.cells v2 30 [.sl (nx+3) w 1 0 q.length],.cells w 39 (q.flatMap Enc.enc)]) (λs=>p.length-s.1) (0,[],v3) [] DZ DZ DZ ?_);rintro⟨k,q,w⟩ ⟨hk,hq⟩;simp only at hk hq ⊢;have hql:q.length=k:=by rw[hq];simp;omega
 refine D7 ?_;refine za (zv rfl (λhc=>?_) (λhc=>?_))
 ·simp at hc;obtain⟨d,tl,a1,a2,a3,e0⟩:=zF rfl p k hc;have hdm:=Ab a1;have hr:=Zpm d c (hd0 d hdm) (ht d hdm);generalize hrd:jP c d=rd at hr;have hk1:1<=p.length-k:=DY
  have hqf:(q.flatMap Enc.enc:List PV).length=q.length:=jW q;have hqt:(q.flatMap Enc.enc:List PV).take q.length=q.flatMap Enc.enc:=Af DY;refine zh (za (zj (za (ze [] (zD hc e0 hk1) ?_))));intro v4;refine D7 ?_;refine zt hr ?_;intro v5;refine ze [] (zo hqf hqt) ?_;refine⟨by omega,?_⟩;refine zb ?_;exact zq (k+1,q++[rd],w+1) [_,_] ⟨hc,by rw[a3,List.map_append,hq,<-hrd];rfl⟩ D2 (by simp[zu k (by omega)]) rfl (by simp;exact⟨rfl,rfl⟩)
 ·simp at hc;obtain rfl:k=p.length:=DY
  rw[Ai]at hq;refine zx (zX 3 rfl ?_);refine D7 ?_;exact zg (zi hd D0 (by simp[zp,hq]))
open Go Go.Proofs Hp
theorem ZsR{x:Inst}(hx:InstH x){v:List (List Visit)}{n:Nat}(hv:VsOk x.cust.length n v)(b:Int):∀d∈xn x v b n,DayOk d/\d.length<=1000/\d.flatten.length<=1000:=by
 intro d hd;obtain⟨r,hr,rfl⟩:=Am.1 hd;obtain⟨k,-,rfl⟩:=Am.1 hr;exact Zqo (Zav hx hv k) hx.diag b
open Go Go.Proofs Hp
structure SuitsP (c:Cust) (n:Nat) (cap:Int) (v:List Visit):Prop where
 cap:∀w∈v,w.q<=cap
 per:c.kind=1->∃p∈c.pats,v=wv c p
 tank:c.kind≠1->v=yy 0 (z8 v n)/\uq c (z8 v n)=0
open Go Go.Proofs Hp
def vx(x:Inst)(c:Nat):Stop:=⟨c,if (x.cust.getD c default).kind=1 then (x.cust.getD c default).demand else 1⟩
def wS(x:Inst)(s:Stop)(d:zn):Int:=if (yL x d s).2=true then max 0 (W (W (yk x (yL x d s).1)-W (yk x d))) else 4294967296
theorem ZiD(x:Inst)(c:Int):Pure prog 286 [.agg (zy x),I c] (B (decide (0<=c) && decide (c<x.cust.length))):=by
 refine zr func286 ntmps286 results286 λS nx hd=>?_
 refine D7 ?_;intro v0
 by_cases h:0<=c
 ·by_cases h2:c<x.cust.length
  ·refine za (ze [(2,7)] (zo h h2) ?_);exact zg (zi hd rfl (by simp[zp,h,h2]))
  ·refine za (ze [(2,7)] (zo h h2) ?_);exact zg (zi hd rfl (by simp[zp,h,h2]))
 ·refine za (ze [(2,7)] (zo h zH) ?_);exact zg (zi hd rfl (by simp[zp,h]))
open Go Go.Proofs Hp
theorem ZsS{x:Inst}{p:zA}(h:Ze x p=0):qZ x=true/\(p.length:Int)=x.days/\(∀d∈p,yr x d=0)/\∀i,i<x.cust.length->xQ x p i=0:=by
 unfold Ze at h;split at h
 ·cases h
 split at h
 ·cases h
 rename_i h1 h2;split at h
 ·rename_i h3;exact absurd h h3
 rename_i h3;refine⟨by simpa using h1,Classical.not_not.1 h2,λd hd=>(Zc1 _).1 (Classical.not_not.1 h3) _ (Am.2 ⟨d,hd,rfl⟩),λi hi=>(Zc1 _).1 h _ (Am.2 ⟨i,AL.2 hi,rfl⟩)⟩
theorem ZiE{x:Inst}{p:zA}(h1:qZ x=true)(h2:(p.length:Int)=x.days)(h3:∀d∈p,yr x d=0)(h4:∀i,i<x.cust.length->xQ x p i=0):Ze x p=0:=by
 unfold Ze;rw[if_neg (by simp[h1]),if_neg (by simp[h2])];have e:jt (p.map (yr x))=0:=Xu λe he=>by obtain⟨d,hd,rfl⟩:=Am.1 he;exact h3 d hd
 rw[if_neg (by simp[e])];exact Xu λe he=>by obtain⟨i,hi,rfl⟩:=Am.1 he;exact h4 i (AL.1 hi)
theorem ZaL{x:Inst}(hx:x.cust.length<=900){d:zn}(h:yr x d=0):d.flatten.length<=x.cust.length/\d.length<=x.cust.length/\RgOk x d [⟨0,0⟩]:=by
 obtain⟨h1,h2,h3⟩:=(vn x d).1 h;have hg:=Zc3 h;have hl:=Zih (m:=x.cust.length) _ h2 (λc hc=>by
  obtain⟨s,hs,rfl⟩:=Am.1 hc;have:=hg s hs;simp[jF]at this;omega)
 rw[List.length_map]at hl;have hn:=Zgo h;have hd:=Zie d hn;refine⟨hl,by omega,⟨by omega,λt ht=>?_,λt ht s hs=>?_⟩,h,by rw[Br];omega⟩
 ·have:=ZaE d t ht;omega
 ·have:=hg s (Zsi ht hs);simp[jF]at this;unfold qe;omega
theorem ZiF{x:Inst}(hx:x.cust.length<=900)(ha:qX x)(hv:0<=x.veh){d:zn}(h:yr x d=0):SOk x d.flatten/\SG x d.flatten d:=by
 obtain⟨h1,h2,h3⟩:=(vn x d).1 h;obtain⟨g1,g2,g3⟩:=ZaL hx h;refine⟨⟨by omega,ha,hv,by omega,λs hs=>?_,h2⟩,⟨h1,.refl _⟩⟩;obtain⟨t,ht,hst⟩:=BO.1 hs;exact g3.ok.s t ht s hst
theorem ZiG(c:Int)(d:zn):(jP c d).flatten=d.flatten.filter λs=>decide (s.c≠c):=by
 unfold jP;have:∀l:zn,(l.filter λt=>!t.isEmpty).flatten=l.flatten:=by
  intro l
  induction l with
  | nil=>rfl
  | cons t l ih=>cases t<;>simp[BN,ih]
 rw[this]
 induction d with
 | nil=>rfl
 | cons t d ih=>simp only[Az,BJ,Bu,ih];rfl
open Go Go.Proofs Hp
theorem ZiH{x:Inst}{sol:Cust->List Int->List Visit × Bool}{b:Int}{n:Nat}:∀(k:Nat) (pr:List (List Int)),Zf x.cust.length n pr->(ZJ x sol b n k pr).2=0->∃pr',Zf x.cust.length n pr'/\(qM x sol pr').2=0/\jt (ju x (qM x sol pr').1 b n)=0/\(ZJ x sol b n k pr).1=xn x (qM x sol pr').1 b n
 | 0,_,_,h=>by simp[ZJ]at h
 | k+1,pr,hp,h=>by
  unfold ZJ at h ⊢
  by_cases h1:(qM x sol pr).2≠0
  ·rw[if_pos h1]at h;cases h
  rw[if_neg h1]at h ⊢
  by_cases h2:jt (ju x (qM x sol pr).1 b n)=0
  ·rw[if_pos h2]at h ⊢;exact⟨pr,hp,by simpa using h1,h2,rfl⟩
  rw[if_neg h2]at h ⊢
  by_cases h3:(ju x (qM x sol pr).1 b n).any Yh=true
  ·rw[if_pos h3]at h;cases h
  rw[if_neg h3]at h ⊢;exact ZiH k _ (WK _ hp n) h
def xS(v:List Visit):Prop:=(v.map (·.d)).Pairwise (· < ·)
theorem Zdw:∀(v:List Visit),xS v->∀k:Nat,(v.filter λw=>decide (w.d<((k+1:Nat):Int)))=(v.filter λw=>decide (w.d<(k:Int)))++(v.filter λw=>decide (w.d=(k:Int)))
 | [],_,_=>rfl
 | w :: v,h,k=>by
  have h':xS v:=by unfold xS at h ⊢;rw[Az,Bb]at h;exact h.2
  have h1:∀u∈v,w.d<u.d:=by
   unfold xS at h;rw[Az,Bb]at h;exact λu hu=>h.1 _ (Cu hu)
  have ih:=Zdw v h' k
  by_cases c1:w.d<(k:Int)
  ·have c2:w.d<((k+1:Nat):Int):=DY
   have c3:¬w.d=(k:Int):=DY
   rw[BS (by simpa using c2),BS (by simpa using c1),By (by simpa using c3),ih];rfl
  ·have e0:(v.filter λw=>decide (w.d<(k:Int)))=[]:=by
    rw[A8];intro u hu;have:=h1 u hu;simp;omega
   rw[e0]at ih
   by_cases c3:w.d=(k:Int)
   ·have c2:w.d<((k+1:Nat):Int):=DY
    rw[BS (by simpa using c2),By (by simpa using c1),BS (by simpa using c3),ih,e0];rfl
   ·have c2:¬w.d<((k+1:Nat):Int):=DY
    rw[By (by simpa using c2),By (by simpa using c1),By (by simpa using c3),ih,e0]
theorem ZiI{v:List Visit}(h:xS v)(h0:∀w∈v,0<=w.d):∀k:Nat,(List.range k).flatMap (λd:Nat=>v.filter λw=>decide (w.d=(d:Int)))=v.filter λw=>decide (w.d<(k:Int))
 | 0=>by
  symm;rw[List.range_zero,B9,A8];intro u hu;have:=h0 u hu;simp;omega
 | k+1=>by rw[AH,Ap,ZiI h h0 k,Zdw v h k];simp
theorem ZiJ{v:List Visit}{n:Nat}(h:xS v)(h0:∀w∈v,0<=w.d/\w.d<n):(List.range n).flatMap (λd:Nat=>v.filter λw=>decide (w.d=(d:Int)))=v:=by
 rw[ZiI h λw hw=>(h0 w hw).1];rw[Ci];intro w hw;simpa using (h0 w hw).2
theorem ZaM{v:List Visit}(h:xS v)(d:Int):(v.filter λw=>decide (w.d=d))=[]\/∃w,w.d=d/\(v.filter λw=>decide (w.d=d))=[w]:=by
 have h1:=Zhy (l:=v) (h.imp λh=>Di h) d;generalize he:(v.filter λw=>decide (w.d=d))=m at *
 match m,h1,he with
 | [],_,_=>exact .inl rfl
 | [w],_,he =>
  refine .inr ⟨w,?_,rfl⟩;have:w∈v.filter λw=>decide (w.d=d):=by rw[he];simp
  simpa using (A7.1 this).2
 | _ :: _ :: _,h1,_=>simp at h1
theorem ZiK(f:Nat->Int):∀(k i:Nat),yy i ((List.range' i k).map f)=(List.range' i k).flatMap λd=>if 0<f d then [⟨(d:Int),f d⟩] else []
 | 0,i=>by simp[yy]
 | k+1,i=>by
  rw[List.range'_succ,Az,Ax,<-ZiK f k (i+1)];simp only[yy];split<;>rfl
theorem ZsT(f:Nat->Int)(k:Nat):yy 0 ((List.range k).map f)=(List.range k).flatMap λd=>if 0<f d then [⟨(d:Int),f d⟩] else []:=by
 rw[List.range_eq_range'];exact ZiK f k 0
theorem ZsU{v:List Visit}{n:Nat}(hg:GoodV n v)(hn:n<=60)(h:xS v):yy 0 (z8 v n)=v:=by
 unfold z8;have e:(min (max (n:Int) 0) 64).toNat=n:=DY
 rw[e,ZsT]
 conv=>rhs;rw[<-ZiJ h λw hw=>(hg.ok w hw).1]
 have key:∀d:Nat,(if 0<((v.filter λs=>decide (s.d=(d:Int))).map (·.q)).sum then [(⟨(d:Int),((v.filter λs=>decide (s.d=(d:Int))).map (·.q)).sum⟩:Visit)] else [])=v.filter λw=>decide (w.d=(d:Int)):=by
  intro d;rcases ZaM h d with q | ⟨w,q1,q2⟩
  ·rw[q];rfl
  ·have hw:w∈v:=by
    have:w∈v.filter λw=>decide (w.d=(d:Int)):=by rw[q2];simp
    exact(A7.1 this).1
   have:=(hg.ok w hw).2;rw[q2];simp only[Az,Bo,BP,List.sum_nil,CZ];rw[if_pos DY,<-q1]
 have ef:(λd:Nat=>if 0<((v.filter λs=>decide (s.d=(d:Int))).map (·.q)).sum then [(⟨(d:Int),((v.filter λs=>decide (s.d=(d:Int))).map (·.q)).sum⟩:Visit)] else [])=λd:Nat=>v.filter λw=>decide (w.d=(d:Int)):=funext key
 rw[ef]
theorem Zdx:∀(l:List Int) (i:Nat),xS (yy i l)
 | [],_=>.nil
 | z :: l,i=>by
  have ih:=Zdx l (i+1);simp only[yy];split
  ·unfold xS at ih ⊢;rw[Az,Bb];refine⟨λd hd=>?_,ih⟩;obtain⟨s,hs,rfl⟩:=Am.1 hd;have:=ZaD l (i+1) s hs
   show (i:Int)<s.d
   omega
  ·exact ih
theorem ZiL:∀(l:List Int) (i d:Nat),Qs l->(((yy i l).filter λs=>decide (s.d=((i+d:Nat):Int))).map (·.q)).sum=l.getD d 0
 | [],i,d,_=>by simp[yy]
 | z :: l,i,d,h=>by
  have hz:=h z DZ;have hge:=ZaD l (i+1);have ih:=λd=>ZiL l (i+1) d λx hx=>h x (by simp[hx])
  cases d with
  | zero =>
   have e:((yy (i+1) l).filter λs=>decide (s.d=((i+0:Nat):Int)))=[]:=by
    rw[A8];intro s hs;have:=hge s hs;simp;omega
   simp only[yy];split
   ·rw[BS DZ,e];simp
   ·rw[e];simp;omega
  | succ d =>
   have ih:=ih d;rw[show i+1+d=i+(d+1) by omega]at ih;simp only[yy];split
   ·rw[By D2,ih];simp
   ·rw[ih];simp
theorem ZsV{l:List Int}{n:Nat}(hl:l.length=n)(hn:n<=60)(h:Qs l):z8 (yy 0 l) n=l:=by
 apply AY;intro d;have e:(min (max (n:Int) 0) 64).toNat=n:=DY
 by_cases hd:d<n
 ·have:=ZiL l 0 d h;rw[AQ]at this;unfold z8;rw[Aj,e,A9 hd,A3,this,Aa,Ae DY];rfl
 ·rw[Ak (by rw[WF];omega),Ak DY]
theorem ZiM:∀(p:zA) (i:Nat) (d:zn),told i (p++[d])=told i p++d.flatten.map (·,i+p.length)
 | [],i,d=>by simp[told]
 | e :: p,i,d=>by
  rw[List.cons_append,told,ZiM p (i+1) d,told,List.append_assoc,Ad,show i+1+p.length=i+(p.length+1) by omega]
theorem ZiN{m n:Nat}{v:List (List Visit)}(h:VsOk m n v)(day:Int)(i:Nat):∀k:Nat,(jk v day k).filter (λs=>decide (s.c=(i:Int)))=if i<k then ur v day i else []
 | 0=>by simp[jk]
 | k+1=>by
  rw[Zc4,Bu,ZiN h day i k];have hm:∀s∈ur v day k,s.c=k:=λs hs=>(ZhA h hs).1
  by_cases hik:i=k
  ·subst hik;rw[if_neg DY,if_pos DY,AK,Ci];intro s hs;simpa using hm s hs
  ·have:(ur v day k).filter (λs=>decide (s.c=(i:Int)))=[]:=by
    rw[A8];intro s hs;have:=hm s hs;simp;omega
   rw[this,AC]
   by_cases h1:i<k
   ·rw[if_pos h1,if_pos DY]
   ·rw[if_neg h1,if_neg DY]
theorem ZsW{α:Type}{a b:List α}(h:a.Perm b)(hb:b.length<=1):a=b:=by
 match b,hb,h with
 | [],_,h=>exact List.perm_nil.1 h
 | [s],_,h=>exact List.perm_singleton.1 h
 | _ :: _ :: _,hb,_=>simp at hb
theorem ZsX{m n:Nat}{v:List (List Visit)}(h:VsOk m n v){d:zn}{k i:Nat}(hd:d.flatten.Perm (jk v k m))(hi:i<m):yf i (d.flatten.map (·,k))=(v.getD i []).filter λw=>decide (w.d=(k:Int)):=by
 have h1:(d.flatten.filter λs=>decide (s.c=(i:Int)))=ur v k i:=by
  have:=hd.filter λs=>decide (s.c=(i:Int))
  rw[ZiN h k i m,if_pos hi]at this;exact ZsW this (Zhz h k i)
 unfold yf;rw[DK,BL];have e2:((λx:Stop × Nat=>decide (x.1.c=(i:Int))) ∘ λx:Stop=>(x,k))=λs:Stop=>decide (s.c=(i:Int)):=rfl
 rw[e2,h1];unfold ur;rw[BL]
 conv=>rhs;rw[<-List.map_id (List.filter _ _)]
 apply AN;intro w hw;have:=(A7.1 hw).2;simp only[decide_eq_true_eq]at this
 show (⟨(k:Int),w.q⟩:Visit)=w
 rw[<-this]
theorem ZiO{x:Inst}(hx:InstH x){v:List (List Visit)}{b:Int}{n:Nat}(h:VsOk x.cust.length n v){i:Nat}(hi:i<x.cust.length):∀k:Nat,(∀d<k,(xE x b (jk v (d:Nat) x.cust.length)).2=0)->yf i (told 0 (xn x v b k))=(List.range k).flatMap λd:Nat=>(v.getD i []).filter λw=>decide (w.d=(d:Int))
 | 0,_=>rfl
 | k+1,h0=>by
  have hk:=h0 k DY;obtain⟨-,-,hp,-⟩:=Zhf (Zav hx h k) hx.diag b hk;rw[ZhC,ZiM,QA,ZiO hx h hi k λd hd=>h0 d DY,AQ,Zaw,ZsX h hp hi,AH,Ap];simp
end Go.Proofs.YtcocagkbfpgmiaaGreatDoor.Pv
