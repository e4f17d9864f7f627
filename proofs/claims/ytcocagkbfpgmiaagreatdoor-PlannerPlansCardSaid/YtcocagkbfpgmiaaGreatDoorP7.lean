/- Part of a proof, packed. -/
import Derived.Test.YtcocagkbfpgmiaaGreatDoorP6
open Go.Proofs.Tryz
set_option maxRecDepth 100000
set_option maxHeartbeats 3200000
namespace Go.Proofs.YtcocagkbfpgmiaaGreatDoor.Pv
open Go Go.Proofs
def XT(a b:Int):Int:=if a.tmod b≠0/\¬a<0 then W (W (a.tdiv b)+1) else W (a.tdiv b)
def JD(c:Cust)(n:Int):Int:=jm (W (W (c.rate*n)-c.start)) 0
theorem ZjL(c:Cust)(n:Int):Pure prog 205 [.agg (yb c),I n] (I (JD c n)):=by
 refine zr func205 ntmps205 results205 λS nx hd=>?_
 refine D7 ?_;intro v0;refine D7 ?_;exact zg (zi hd D0 (by simp[zp,JD]))
def JE(c:Cust):Nat->Int × Int
 | 0=>(0,c.start)
 | k+1=>(W ((JE c k).1+jm (W ((JE c k).2-c.rate)) 0),W ((JE c k).2-c.rate))
def Za2(c:Cust)(n:Nat):Int:=W (c.hold*(JE c n).1)
theorem ZuR(c:Cust)(n:Nat)(hn:n<=1000):Pure prog 210 [.agg (yb c),I n] (I (Za2 c n)):=by
 refine zr func210 ntmps210 results210 λS nx hd=>?_
 refine D7 ?_;intro v0;refine za (zz (some [nx]) (Row.pures [0,1,2,3] .done) mixed trivial ?_)
 repeat apply za
 refine zb ?_;refine zj (zC (λs:Nat × Int × Int=>s.1<=n/\s.2=JE c s.1) (λ(k,a,b)=>[(1,I n),(2,.ptr nx v0 0),(5,I a),(6,I b),(9,I n),(10,I k)]) (λ_=>[.cells v0 87 (yb c)]) (λs=>n-s.1) (0,0,c.start) [] ⟨by simp,rfl⟩ DZ DZ ?_);rintro⟨k,a,b⟩ ⟨hk,hs⟩;simp only at hk hs ⊢;have ha:a=(JE c k).1:=congrArg Prod.fst hs;have hb:b=(JE c k).2:=congrArg Prod.snd hs;refine D7 ?_;refine za (zv rfl (λhc=>?_) (λhc=>?_))
 ·simp at hc;refine zh (za (zj (D7 ?_)));refine zb ?_;refine zb ?_;exact zq (k+1,W (a+jm (W (b-c.rate)) 0),W (b-c.rate)) [] ⟨hc,by rw[ha,hb];rfl⟩ D2 (by simp[zu k (by omega)]) rfl DZ
 ·simp at hc;obtain rfl:k=n:=DY
  refine zx (D7 ?_);exact zg (zi hd D0 (by simp[zp,Za2,ha]))
theorem ZjM(a b:Int)(hb:0<b):Pure prog 165 [I a,I b] (.tup [I (XT a b),B true]):=by
 have h0:¬b=0:=DY
 have h1:¬b=-1:=DY
 have h2:¬b<0:=DY
 have e1:XT a b=if a.tmod b≠0/\¬a<0 then W (W (a.tdiv b)+1) else W (a.tdiv b):=rfl
 rw[e1];refine zr func165 ntmps165 results165 λS nx hd=>?_
 refine D7 ?_;obtain⟨q,hm⟩:∃q:Prop,(a=-9223372036854775808)=q:=⟨_,rfl⟩
 by_cases hq:q
 all_goals
  repeat apply za
  refine ze [(2,9),(5,12)] (yF h0 h1 hm hq zH) ?_;refine zk DZ ?_;refine zh (za (ze [] h0 ?_))
  by_cases h3:a.tmod b=0
  ·rw[if_neg (by simp[h3])]
   repeat apply za
   refine ze [(4,24)] (zD h0 h3 zH) ?_;refine zk DZ ?_;refine zh (D7 ?_);exact D8 hd
  ·by_cases h4:a<0
   ·rw[if_neg (by simp[h4])]
    repeat apply za
    refine ze [(4,24)] (zN h0 h3 h4 h2) ?_;refine zk DZ ?_;refine zh (D7 ?_);exact D8 hd
   ·rw[if_pos ⟨h3,h4⟩]
    repeat apply za
    refine ze [(4,24)] (zN h0 h3 h4 h2) ?_;refine zm DZ ?_;refine zb ?_;refine D7 ?_;exact D8 hd
def Y2(a b:Int):Int × Bool:=if a=0\/b=0 then (0,true) else if ¬W ((W (a*b)).tdiv b)=a\/(a=-9223372036854775808/\b=-1) then (0,false) else (W (a*b),true)
theorem ZuS(a b:Int):Pure prog 121 [I a,I b] (.tup [I (Y2 a b).1,B (Y2 a b).2]):=by
 unfold Y2
 by_cases h0:a=0
 ·rw[if_pos (.inl h0)];refine zr func121 ntmps121 results121 λS nx hd=>?_
  refine D7 ?_
  repeat apply za
  refine ze [(2,9)] (zo h0 zH) ?_;refine zm DZ ?_;refine D7 ?_;exact D8 hd
 by_cases h1:b=0
 ·rw[if_pos (.inr h1)];refine zr func121 ntmps121 results121 λS nx hd=>?_
  refine D7 ?_
  repeat apply za
  refine ze [(2,9)] (zo h0 h1) ?_;refine zm DZ ?_;refine D7 ?_;exact D8 hd
 rw[if_neg (by simp[h0,h1])]
 by_cases h2:W ((W (a*b)).tdiv b)=a
 ·by_cases h3:a=-9223372036854775808
  ·by_cases h4:b=-1
   ·rw[if_pos (.inr ⟨h3,h4⟩)];refine zr func121 ntmps121 results121 λS nx hd=>?_
    refine D7 ?_
    repeat apply za
    refine ze [(2,9)] (zo h0 h1) ?_;refine zk DZ ?_;refine zh (D7 ?_)
    repeat apply za
    refine ze [(5,21),(8,24)] (zN h1 h2 (eq_true h3) (eq_true h4)) ?_;refine zm DZ ?_;refine D7 ?_;exact D8 hd
   ·rw[if_neg (by simp[h2,h4])];refine zr func121 ntmps121 results121 λS nx hd=>?_
    refine D7 ?_
    repeat apply za
    refine ze [(2,9)] (zo h0 h1) ?_;refine zk DZ ?_;refine zh (D7 ?_)
    repeat apply za
    refine ze [(5,21),(8,24)] (zN h1 h2 (eq_true h3) h4) ?_;refine zk DZ ?_;refine zh (D7 ?_);exact D8 hd
  ·rw[if_neg (by simp[h2,h3])];refine zr func121 ntmps121 results121 λS nx hd=>?_
   refine D7 ?_
   repeat apply za
   refine ze [(2,9)] (zo h0 h1) ?_;refine zk DZ ?_;refine zh (D7 ?_)
   repeat apply za
   refine ze [(5,21),(8,24)] (zN h1 h2 h3 zH) ?_;refine zk DZ ?_;refine zh (D7 ?_);exact D8 hd
 ·rw[if_pos (.inl h2)];refine zr func121 ntmps121 results121 λS nx hd=>?_
  refine D7 ?_
  repeat apply za
  refine ze [(2,9)] (zo h0 h1) ?_;refine zk DZ ?_;refine zh (D7 ?_)
  repeat apply za
  refine ze [(5,21),(8,24)] (zD h1 h2 zH) ?_;refine zm DZ ?_;refine D7 ?_;exact D8 hd
def XU(x:Int):Int :=
 let u:=IntKind.u64.wrap
 let a:=bits BinOp.and IntKind.u64
 let x1:=u (a (x.fdiv (2 ^ 1)) 6148914691236517205+a x 6148914691236517205)
 let x2:=u (a (x1.fdiv (2 ^ 2)) 3689348814741910323+a x1 3689348814741910323)
 let x3:=a (u (x2.fdiv (2 ^ 4)+x2)) 1085102592571150095
 let x4:=u (x3+x3.fdiv (2 ^ 8))
 let x5:=u (x4+x4.fdiv (2 ^ 16))
 let x6:=u (x5+x5.fdiv (2 ^ 32))
 bits BinOp.and IntKind.i64 (W x6) 127
theorem ZuT(n:Nat):Pure prog 304 [U n] (I (XU n)):=by
 refine zr func304 ntmps304 results304 λS nx hd=>?_
 refine D7 ?_;refine D7 ?_;refine D7 ?_;refine D7 ?_;refine D7 ?_;refine D7 ?_;refine D7 ?_;refine D7 ?_;exact zg (zi hd D0 (by simp[zp,XU,IntKind.bits]))
theorem ZuU(n:Nat):Pure prog 274 [U n] (I (XU n)):=by
 have h:=ZuT n;refine zr func274 ntmps274 results274 λS nx hd=>?_
 refine D7 ?_;refine D7 ?_;refine zt h ?_;exact D8 hd
def ZdT(i:Nat)(least:Int)(p:Nat):Int:=if i=0\/XU p<least then XU p else least
def Y3(ps:List Nat):Nat->Int
 | 0=>0
 | k+1=>ZdT k (Y3 ps k) (ps.getD k 0)
theorem ZuV(ps:List Nat)(hl:ps.length<=1048576):Pure prog 243 [L ps] (I (Y3 ps ps.length)):=by
 refine zr func243 ntmps243 results243 λS nx hd=>?_
 refine D7 ?_;refine D7 ?_
 repeat apply za
 refine zb ?_;refine zj (zC (λk:Nat=>k<=ps.length) (λk=>[(3,I (Y3 ps k)),(7,L ps),(8,I ps.length),(9,I k)]) (λ_=>[]) (λk=>ps.length-k) 0 [] DZ (by simp[Y3]) DZ ?_);rintro k hk;refine D7 ?_;refine za (zv rfl (λhc=>?_) (λhc=>?_))
 ·simp at hc;obtain⟨p,tl,a1,a2,a3,e0⟩:=zF rfl ps k hc;have hg:ps.getD k 0=p:=by rw[Aa,a1];rfl
  have hnx:Y3 ps (k+1)=ZdT k (Y3 ps k) p:=by rw[<-hg];rfl
  have hlen:=ZuU p;refine zh (za (zj (za (ze [] (zo e0 hc) ?_))));refine D7 ?_;refine zt hlen ?_;unfold ZdT at hnx;generalize Y3 ps k=f0 at *;generalize XU p=o at *
  by_cases h0:k=0
  ·rw[if_pos (.inl h0)]at hnx;refine za (ze [(2,18)] (zo (eq_true h0) zH) ?_);refine zm DZ ?_;refine zb ?_;refine zb ?_;exact zq (k+1) [] hc DY (by simp[zu k (by omega),hnx]) rfl DZ
  by_cases h1:o<f0
  ·rw[if_pos (.inr h1)]at hnx;refine za (ze [(2,18)] (zo h0 h1) ?_);refine zm DZ ?_;refine zb ?_;refine zb ?_;exact zq (k+1) [] hc DY (by simp[zu k (by omega),hnx]) rfl DZ
  ·rw[if_neg (by simp only[not_or];exact⟨h0,h1⟩)]at hnx;refine za (ze [(2,18)] (zo h0 h1) ?_);refine zk DZ ?_;refine zh (zb ?_);exact zq (k+1) [] hc DY (by simp[zu k (by omega),hnx]) rfl DZ
 ·simp at hc;obtain rfl:k=ps.length:=DY
  refine zx (D7 ?_);exact D8 hd
def ZQ(c:Cust)(n cap:Int):Int :=
 if c.kind=1 then Y3 c.pats c.pats.length else if JD c n=0 then 0 else if xv cap c.size<1 then n else xv (XT (JD c n) (xv cap c.size)) n
theorem ZjN(c:Cust)(n cap:Int)(hp:c.pats.length<=1048576):Pure prog 204 [.agg (yb c),I n,I cap] (I (ZQ c n cap)):=by
 have hf:=ZuV c.pats hp;have hw:=ZjL c n;unfold ZQ;generalize Y3 c.pats c.pats.length=fz at *;generalize JD c n=wz at *
 by_cases hk:c.kind=1
 ·rw[if_pos hk];refine zr func204 ntmps204 results204 λS nx hd=>?_
  refine D7 ?_;intro v0
  repeat apply za
  refine ze [] hk ?_;refine zm (by simp[hk]) ?_;refine D7 ?_;refine zt hf ?_;exact D8 hd
 rw[if_neg hk]
 by_cases h0:wz=0
 ·rw[if_pos h0];refine zr func204 ntmps204 results204 λS nx hd=>?_
  refine D7 ?_;intro v0
  repeat apply za
  refine ze [] hk ?_;refine zk (by simp[hk]) ?_;refine zh (D7 ?_);refine zt hw ?_
  repeat apply za
  refine ze [] h0 ?_;refine zm (by simp[h0]) ?_;refine D7 ?_;exact D8 hd
 rw[if_neg h0]
 by_cases h1:xv cap c.size<1
 ·rw[if_pos h1];refine zr func204 ntmps204 results204 λS nx hd=>?_
  refine D7 ?_;intro v0
  repeat apply za
  refine ze [] hk ?_;refine zk (by simp[hk]) ?_;refine zh (D7 ?_);refine zt hw ?_
  repeat apply za
  refine ze [] h0 ?_;refine zk (by simp[h0]) ?_;refine zh (D7 ?_)
  repeat apply za
  refine ze [] h1 ?_;refine zm (by simp[h1]) ?_;refine D7 ?_;exact D8 hd
 ·rw[if_neg h1];have hc:=ZjM wz (xv cap c.size) DY;generalize XT wz (xv cap c.size)=q at *;refine zr func204 ntmps204 results204 λS nx hd=>?_
  refine D7 ?_;intro v0
  repeat apply za
  refine ze [] hk ?_;refine zk (by simp[hk]) ?_;refine zh (D7 ?_);refine zt hw ?_
  repeat apply za
  refine ze [] h0 ?_;refine zk (by simp[h0]) ?_;refine zh (D7 ?_)
  repeat apply za
  refine ze [] h1 ?_;refine zk (by simp[h1]) ?_;refine zh (D7 ?_);refine zt hc ?_;refine D7 ?_;exact D8 hd
open Go Go.Proofs
def uc(f:Nat->Int):Nat->Int
 | 0=>0
 | k+1=>vu (uc f k) (f k)
theorem ZuW(a b:Int):zM (vu a b):=by unfold vu zM;split<;>(try split)<;>omega
theorem ZjO(f:Nat->Int)(k:Nat):zM (uc f k):=by
 cases k with
 | zero=>show zM 0;exact⟨by decide,by decide⟩
 | succ k=>exact ZuW _ _
theorem ZdU{S:Store}(x:Inst)(g:FuncId)(ps:List PV)(f:Nat->Int)(hx:x.cust.length<=1048576)(hf:∀k,zM (f k))
  (h:∀k,k<x.cust.length->∀T:Store,(∀o,S o≠.dead->T o=S o)->Spec prog g (ps++[I k]) T (λq S'=>q=I (f k)/\S'=T)) :
  Spec prog 124 [.agg (zy x),.fn (.func g) ps []] S (λq S'=>q=I (uc f x.cust.length)/\S'=S):=by
 refine yn func124 ntmps124 results124 λnx hd=>?_
 have hT:∀obs o,S o≠.dead->ext S nx obs o=S o:=λobs o ho=>by
  apply zB;rcases Bi o nx with q | q
  ·exact q
  ·exact absurd (hd o q) ho
 refine D7 ?_;intro v0;refine D7 ?_
 repeat apply za
 refine zb ?_;refine zj (zC (λs:Nat × Nat=>s.1<=x.cust.length) (λ(k,v)=>[(1,.fn (.func g) ps []),(2,.ptr nx v 0),(5,I (uc f k)),(9,I x.cust.length),(10,I k)]) (λ(k,v)=>[.cells v 25 (zy x)]) (λs=>x.cust.length-s.1) (0,v0) [] DZ (by simp[uc]) DZ ?_);rintro⟨k,v⟩ hk;simp only at hk ⊢;refine D7 ?_;refine za (zv rfl (λhc=>?_) (λhc=>?_))
 ·simp at hc;have hsat:=Zap (uc f k) (f k) (ZjO f k) (hf k);refine zh (za (zj (D7 ?_)));refine zb ?_;refine λhsuf=>((h k hc _ (hT _)).mono ?_).v
  rintro _ _ ⟨rfl,rfl⟩;refine⟨_,_,rfl,zL hsuf ?_⟩;refine λhsuf=>((hsat _).mono ?_).v
  rintro _ _ ⟨rfl,rfl⟩;refine⟨_,_,rfl,zL hsuf ?_⟩;refine zb ?_;exact zq (k+1,v) [] hc D2 (by simp[zu k (by omega)];rfl) rfl DZ
 ·simp at hc;obtain rfl:k=x.cust.length:=DY
  refine zx (D7 ?_);exact D8 hd
abbrev Zj(x:Inst)(pa pb ch:PV):List PV:=[I x.days,I x.veh,I x.cap,I x.len,L x.cust,L x.dist,pa,pb,ch]
theorem ZdV{S:Store}{id ver:Nat}(x:Inst)(pa pb ch:PV)(k:Nat){c:Cust}(hS:S id=.cells ver 182 (Zj x pa pb ch))(hx:x.cust.length<=1048576)(hc:x.cust[k]?=some c)(hp:c.pats.length<=1048576):
  Spec prog 164 [.ptr id ver 0,I k] S (λq S'=>q=I (ZQ c x.days x.cap)/\S'=S):=by
 have hfo:=ZjN c x.days x.cap hp;have hk:k<x.cust.length:=(Ac.1 hc).1;obtain⟨t,tl,b1,b2,b3,f0,f1⟩:=el 8 rfl x.cust k hk;obtain rfl:t=c:=by rw[hc]at b1;exact(Option.some.inj b1).symm
 refine yn func164 ntmps164 results164 λnx hd=>?_
 have hlt:id<nx:=qN hd hS DZ;have x1:∀obs,ext S nx obs id=.cells ver 182 (Zj x pa pb ch):=λobs=>(zB hlt).trans hS
 refine D7 ?_;refine za (zz (some [id]) (Row.pures [0,1,2,3,4,5,6,7,8,9,10,11,12,13,14,15,16,17,18,19] .done) mixed (zN x1 hk f0 f1) ?_);refine zG (hfo) trivial ?_;exact D8 hd
theorem ZuX{S:Store}{id ver:Nat}(x:Inst)(pa pb:PV)(ch:List Int)(k:Nat){c:Cust}{a:Int}(hS:S id=.cells ver 182 (Zj x pa pb (L ch)))(hx:x.cust.length<=1048576)(hc:x.cust[k]?=some c)(hp:c.pats.length<=1048576)(ha:ch[k]?=some a):
  Spec prog 172 [.ptr id ver 0,I k] S (λq S'=>q=I (W (a*ZQ c x.days x.cap))/\S'=S):=by
 have hfo:=λS (h:S id=_)=>ZdV (S:=S) (id:=id) (ver:=ver) x pa pb (L ch) k h hx hc hp
 have hk:k<ch.length:=(Ac.1 ha).1;obtain⟨t,tl,b1,b2,b3,f0⟩:=zF rfl ch k hk;obtain rfl:t=a:=by rw[ha]at b1;exact(Option.some.inj b1).symm
 refine yn func172 ntmps172 results172 λnx hd=>?_
 have hlt:id<nx:=qN hd hS DZ;have x1:∀obs,ext S nx obs id=.cells ver 182 (Zj x pa pb (L ch)):=λobs=>(zB hlt).trans hS
 refine D7 ?_;refine za (zz (some [id]) (Row.pures [0,1,2,3,4,5,6,7,8] (.alt 9 (Row.pures [10,11] .done) .stop)) mixed (zD x1 hk f0) ?_);refine(Spec.mono (hfo _ (x1 [])) ?_).v;rintro _ _ ⟨rfl,rfl⟩;refine⟨by simp[yM],jD trivial ?_⟩;exact D8 hd
def ZR(c:Cust)(n cap:Int):Int:=if c.kind=1 then W (ZQ c n cap*c.demand) else JD c n
theorem ZuY{S:Store}{id ver:Nat}(x:Inst)(pa pb ch:PV)(k:Nat){c:Cust}(hS:S id=.cells ver 182 (Zj x pa pb ch))(hx:x.cust.length<=1048576)(hc:x.cust[k]?=some c)(hp:c.pats.length<=1048576):
  Spec prog 166 [.ptr id ver 0,I k] S (λq S'=>q=I (ZR c x.days x.cap)/\S'=S):=by
 have hfo:=λS (h:S id=_)=>ZdV (S:=S) (id:=id) (ver:=ver) x pa pb ch k h hx hc hp
 have hwa:=ZjL c x.days;have hk:k<x.cust.length:=(Ac.1 hc).1;obtain⟨t,tl,b1,b2,b3,f0,f1⟩:=el 8 rfl x.cust k hk;obtain rfl:t=c:=by rw[hc]at b1;exact(Option.some.inj b1).symm
 refine yn func166 ntmps166 results166 λnx hd=>?_
 have hlt:id<nx:=qN hd hS DZ;have x1:∀obs,ext S nx obs id=.cells ver 182 (Zj x pa pb ch):=λobs=>(zB hlt).trans hS
 refine D7 ?_;refine za (ze [] (zN x1 hk f0 f1) ?_);intros
 repeat apply za
 refine zb ?_
 by_cases hk1:t.kind=1
 ·repeat apply za
  refine zm (by simp[hk1]) ?_;refine za (zz (some [id,nx]) (Row.pures [0,1,3,4] (.alt 2 (Row.pures [5,6] .done) .stop)) mixed x1 ?_);refine(Spec.mono (hfo _ (x1 _)) ?_).v;rintro _ _ ⟨rfl,rfl⟩;refine⟨by simp[yM],jD trivial ?_⟩
  trace_state
  exact zg (zi hd D0 (by simp[ZR,hk1,zp]))
 ·repeat apply za
  refine zk (by simp[hk1]) ?_;refine zh (za (zz (some [id,nx]) (Row.pures [0,1,2,3,4,5,6,7] .done) mixed x1 ?_));refine zG (hwa) trivial ?_;exact zg (zi hd D0 (by simp[ZR,hk1,zp]))
open Go Go.Proofs
def JF(price:List Int):Nat->Int
 | 0=>YU price 0
 | k+1=>xv (JF price k) (YU price k)
def Za3(n:Nat)(cap:Int)(c:Cust)(price:List Int):Int :=
 if c.kind=2 then W (W (ZQ c n cap*JF price n)+Za2 c n) else W (ZQ c n cap*JF price n)
def QT(n:Nat)(cap:Int)(c:Cust)(price:List Int):Int :=
 if (c.kind=1\/c.rule=1)/\(qa n cap c price).2=true then Yk c n price (qa n cap c price).1 else Za3 n cap c price
theorem ZuZ{S:Store}{pl:PV}{price:List Int}(c:Cust)(n:Nat)(cap:Int)(hR:RowOf S pl price)(hp:∀z∈price,zM z)(hpl:price.length<=1000)(hm:CustMade c n)(hpc:c.pats.length<=1000)(hn:n<=60)(hcf:CustFits c)(hv:VisOk (qa n cap c price).1):
  Spec prog 170 [.agg (yb c),I n,I cap,pl] S (λq S'=>q=I (QT n cap c price)/\S'=S):=by
 have hfo:=ZjN c n cap DY;have hke:=ZuR c n DY;have hso:=λS (hR:RowOf S pl price)=>Zdv (S:=S) c n cap hR hp hpl hm hpc hn
 have hco:=λS (hR:RowOf S pl price)=>Zdp (S:=S) c n (qa n cap c price).1 hR hcf hv
 have hpr:=λS (hR:RowOf S pl price) (d:Int)=>Zdo (S:=S) d hR
 obtain⟨res,hres⟩:∃res,res=QT n cap c price:=⟨_,rfl⟩;rw[<-hres];unfold QT at hres;generalize qa n cap c price=az at *;obtain⟨av,aok⟩:=az;simp only at hres hso hco;have hsame:(c.kind=1\/c.rule=1)->aok=true->res=Yk c n price av:=λh1 h2=>by rw[hres,if_pos ⟨h1,h2⟩]
 have hlow:¬((c.kind=1\/c.rule=1)/\aok=true)->res=Za3 n cap c price:=λh=>by rw[hres,if_neg h]
 clear hres;unfold Za3 at hlow;generalize Yk c n price av=cv at *;generalize ZQ c n cap=fo at *;generalize Za2 c n=ke at *;refine yn func170 ntmps170 results170 λnx hd=>?_
 have hRx:=λobs=>hR.ext hd obs
 refine D7 ?_;intro v0;refine za (qz (nx:=nx) (σ:=Unit) (λ_=>¬((c.kind=1\/c.rule=1)/\aok=true)) (λ_=>[(1,I n),(2,I cap),(3,pl),(4,.ptr nx v0 0)]) (λ_=>S) (λ_=>[.cells v0 87 (yb c)]) ?_ ?_)
 ·by_cases hk:c.kind=1
  ·refine za (ze [(3,17)] (zo hk zH) ?_);refine zm DZ ?_;refine D7 ?_;refine λhsuf=>((hso _ (hRx _)).mono ?_).v
   rintro _ _ ⟨rfl,rfl⟩;refine⟨_,_,rfl,zL hsuf ?_⟩;refine D7 ?_;cases aok with
   | true =>
    refine zm DZ ?_;refine D7 ?_;refine λhsuf=>((hco _ (hRx _)).mono ?_).v
    rintro _ _ ⟨rfl,rfl⟩;refine⟨_,_,rfl,zL hsuf ?_⟩;exact zg (zi hd D0 (by rw[hsame (.inl hk) rfl];rfl))
   | false =>
    refine zk DZ ?_;exact zh (zT () [] DZ DZ rfl DZ)
  ·by_cases hru:c.rule=1
   ·refine za (ze [(3,17)] (zo hk hru) ?_);refine zm DZ ?_;refine D7 ?_;refine λhsuf=>((hso _ (hRx _)).mono ?_).v
    rintro _ _ ⟨rfl,rfl⟩;refine⟨_,_,rfl,zL hsuf ?_⟩;refine D7 ?_;cases aok with
    | true =>
     refine zm DZ ?_;refine D7 ?_;refine λhsuf=>((hco _ (hRx _)).mono ?_).v
     rintro _ _ ⟨rfl,rfl⟩;refine⟨_,_,rfl,zL hsuf ?_⟩;exact zg (zi hd D0 (by rw[hsame (.inr hru) rfl];rfl))
    | false =>
     refine zk DZ ?_;exact zh (zT () [] DZ DZ rfl DZ)
   ·refine za (ze [(3,17)] (zo hk hru) ?_);refine zk DZ ?_;exact zh (zT () [] (λh=>h.1.elim hk hru) DZ rfl DZ)
 ·rintro _ hl;have hr:=hlow hl;refine D7 ?_;refine λhsuf=>((hpr _ (hRx _) 0).mono ?_).v
  rintro _ _ ⟨rfl,rfl⟩;refine⟨_,_,rfl,zL hsuf ?_⟩
  repeat apply za
  refine zb ?_;refine zj (zC (λs:Nat × Nat=>s.1<=n) (λ(k,v)=>[(1,I n),(2,I cap),(3,pl),(4,.ptr nx v 0),(11,I (JF price k)),(38,I n),(39,I k)]) (λ(k,v)=>[.cells v 87 (yb c)]) (λs=>n-s.1) (0,v0) [] DZ (by simp[JF]) DZ ?_);rintro⟨k,v⟩ hk;simp only at hk ⊢;refine D7 ?_;refine za (zv rfl (λhc=>?_) (λhc=>?_))
  ·simp at hc;refine zh (za (zj (D7 ?_)));refine zb ?_;refine λhsuf=>((hpr _ (hRx _) k).mono ?_).v
   rintro _ _ ⟨rfl,rfl⟩;refine⟨_,_,rfl,zL hsuf ?_⟩;refine zb ?_;exact zq (k+1,v) [] hc D2 (by simp[zu k (by omega),JF]) rfl DZ
  ·simp at hc;obtain rfl:k=n:=DY
   generalize JF price k=lp at *;refine zx (D7 ?_);refine zt hfo ?_
   repeat apply za
   refine zb ?_
   by_cases hk2:c.kind=2
   ·rw[if_pos hk2]at hr;refine zm (by simp[hk2]) ?_;refine zb ?_;refine zt hke ?_;refine D7 ?_;exact zg (zi hd D0 (by rw[hr];rfl))
   ·rw[if_neg hk2]at hr;refine zk (by simp[hk2]) ?_;refine zh (D7 ?_);exact zg (zi hd D0 (by rw[hr];rfl))
open Go Go.Proofs
theorem Zu0(x:Inst)(a b:List Int)(k:Nat)(hk:k<x.cust.length)(hn:x.cust.length<=1048576)(ha:a.length=x.cust.length+1)(hb:b.length=x.cust.length+1):
  Pure prog 169 [.agg (zy x),.agg [L a,L b],I k] (I (W (a.getD (k+1) 0+b.getD (k+1) 0))):=by
 obtain⟨t,tl,b1,b2,b3,f0⟩:=zF rfl a (k+1) DY;obtain⟨u,tl2,c1,c2,c3,f1⟩:=zF rfl b (k+1) DY;have e1:a.getD (k+1) 0=t:=by rw[Aa,b1];rfl
 have e2:b.getD (k+1) 0=u:=by rw[Aa,c1];rfl
 rw[e1,e2];have hka:k+1<a.length:=DY
 have hkb:k+1<b.length:=DY
 have h0:¬(k:Int)<0:=DY
 have h1:¬(x.cust.length:Int)<=k:=DY
 have w1:IntKind.i64.wrap ((k:Int)+1)=((k+1:Nat):Int):=zu k DY;obtain⟨k1,hk1⟩:∃m,m=k+1:=⟨_,rfl⟩;rw[<-hk1]at f0 f1 hka hkb w1;refine zr func169 ntmps169 results169 λS nx hd=>?_
 refine D7 ?_;intro v0 v1
 repeat apply za
 refine ze [(2,9)] (zo h0 h1) ?_;refine zk DZ ?_;refine zh (za (zz (some [nx,nx+1]) (Row.pures [0,1,2,3,4,5,6,7,8,9,10,11,12,13] .done) mixed (yF w1 f0 f1 hka hkb) ?_));exact D8 hd
def Y4(x:Inst)(c:Nat):Nat->Int
 | 0=>arc x 0 c
 | k+1=>if k≠c then xv (Y4 x c k) (arc x k c) else Y4 x c k
def Y5(x:Inst)(c:Nat):Nat->Int
 | 0=>arc x c 0
 | k+1=>if k≠c then xv (Y5 x c k) (arc x c k) else Y5 x c k
def ud(x:Inst):List Int:=(List.range x.cust.length).map λi=>Y4 x (i+1) (x.cust.length+1)
def JG(x:Inst):List Int:=(List.range x.cust.length).map λi=>Y5 x (i+1) (x.cust.length+1)
theorem Zu1(x:Inst)(k:Nat)(h:k<x.cust.length):(ud x).take (k+1)=(ud x).take k++[Y4 x (k+1) (x.cust.length+1)]:=by
 rw[AJ];congr 1;unfold ud;rw[Aj,A9 h];rfl
theorem Zu2(x:Inst)(k:Nat)(h:k<x.cust.length):(JG x).take (k+1)=(JG x).take k++[Y5 x (k+1) (x.cust.length+1)]:=by
 rw[AJ];congr 1;unfold JG;rw[Aj,A9 h];rfl
theorem Zu3(x:Inst)(hn:x.cust.length<=1048576):Pure prog 171 [.agg (zy x)] (.tup [L (ud x),L (JG x)]):=by
 have harc:=w8 x;have hA:=Zu1 x;have hB:=Zu2 x;have hAl:(ud x).length=x.cust.length:=by simp[ud]
 have hBl:(JG x).length=x.cust.length:=by simp[JG]
 generalize ud x=A at *;generalize JG x=B at *;refine zr func171 ntmps171 results171 λS nx hd=>?_
 refine D7 ?_;intro v0;refine D7 ?_;refine qx 4 3 1 rfl λv1=>?_
 refine qx 5 3 1 rfl λv2=>?_
 repeat apply za
 refine zb ?_;refine zj (zC (λs:Nat × Nat × Nat × Nat=>s.1<=x.cust.length) (λ(k,v,w1,w2)=>[(1,.ptr nx v 0),(4,.sl (nx+1) w1 1 0 k),(5,.sl (nx+2) w2 1 0 k),(13,I x.cust.length),(14,I k)]) (λ(k,v,w1,w2)=>[.cells v 25 (zy x),.cells w1 3 ((A.take k).flatMap Enc.enc),.cells w2 3 ((B.take k).flatMap Enc.enc)]) (λs=>x.cust.length-s.1) (0,v0,v1,v2) [] DZ DZ DZ ?_);rintro⟨k,v,w1,w2⟩ hk;simp only at hk ⊢;refine D7 ?_;refine za (zv rfl (λhc=>?_) (λhc=>?_))
 ·simp at hc;have wk:IntKind.i64.wrap ((k:Int)+1)=((k+1:Nat):Int):=zu k DY;obtain⟨at_,hat⟩:∃m,m=k+1:=⟨_,rfl⟩;rw[<-hat]at wk;have hA1:=hA k hc;have hB1:=hB k hc;rw[<-hat]at hA1 hB1;refine zh (za (zj (D7 ?_)));refine za (ze [] wk ?_);refine za (zz (some [nx]) (Row.pures [0,1,2,3,4,5,6,7] .done) mixed trivial ?_);refine zG (harc 0 at_) trivial ?_;refine zG (harc at_ 0) trivial ?_;have wn:IntKind.i64.wrap ((x.cust.length:Int)+1)=(x.cust.length:Int)+1:=by rw[AG];omega
  repeat apply za
  refine ze [] wn ?_;refine zj (zC (λs:Nat × Nat=>s.1<=x.cust.length+1) (λ(j,v)=>[(1,.ptr nx v 0),(4,.sl (nx+1) w1 1 0 k),(5,.sl (nx+2) w2 1 0 k),(7,I at_),(8,I (Y4 x at_ j)),(9,I (Y5 x at_ j)),(13,I x.cust.length),(14,I k),(28,I ((x.cust.length:Int)+1)),(29,I j)]) (λ(j,v)=>[.cells v 25 (zy x),.cells w1 3 ((A.take k).flatMap Enc.enc),.cells w2 3 ((B.take k).flatMap Enc.enc)]) (λs=>x.cust.length+1-s.1) (0,v) [] DZ (by simp[Y4,Y5]) DZ ?_);rintro⟨j,v⟩ hj;simp only at hj ⊢;refine D7 ?_
  by_cases hjn:j<x.cust.length+1
  ·have hji:(j:Int)<(x.cust.length:Int)+1:=DY
   refine za (zm D2 ?_);refine zh (za (zj (D7 ?_)));refine D7 ?_
   by_cases hja:j=at_
   ·have wja:IntKind.i64.wrap ((at_:Int)+1)=(at_:Int)+1:=by rw[AG];omega
    refine zk (by simp[hja]) ?_;refine zh (zb ?_);exact zq (j+1,v) [] D2 D2 (by simp[wja,Y4,Y5,hja]) rfl DZ
   ·repeat apply za
    refine zm D2 ?_;refine D7 ?_;refine zt (harc j at_) ?_;refine zb ?_;refine zt (harc at_ j) ?_;refine zb ?_;exact zq (j+1,v) [] D2 D2 (by simp[zu j (by omega),Y4,Y5,hja]) rfl DZ
  ·obtain rfl:j=x.cust.length+1:=DY
   refine za (zk DZ ?_);refine zx ?_;have hAk:((A.take k).flatMap Enc.enc).length=k:=by rw[jf];simp;omega
   have hBk:((B.take k).flatMap Enc.enc).length=k:=by rw[jf];simp;omega
   have htA:List.take k ((A.take k).flatMap Enc.enc)=(A.take k).flatMap Enc.enc:=Af (by rw[hAk];exact Ag _);have htB:List.take k ((B.take k).flatMap Enc.enc)=(B.take k).flatMap Enc.enc:=Af (by rw[hBk];exact Ag _);have hAn:(A.take (k+1)).flatMap Enc.enc=(A.take k).flatMap Enc.enc++[I (Y4 x at_ (x.cust.length+1))]:=by rw[<-hat,hA1,Ap];rfl
   have hBn:(B.take (k+1)).flatMap Enc.enc=(B.take k).flatMap Enc.enc++[I (Y5 x at_ (x.cust.length+1))]:=by rw[<-hat,hB1,Ap];rfl
   refine ze [] (zo htA htB) ?_;refine⟨by omega,by omega,?_⟩;refine zb ?_;exact zq (k+1,v,w1+1,w2+1) [] hc D2 (by simp[zu k (by omega)]) rfl (by simp only[hAn,hBn,AC])
 ·simp at hc;obtain rfl:k=x.cust.length:=DY
  rw[show A.take x.cust.length=A from Af DY,show B.take x.cust.length=B from Af DY];refine zx (zX 1 rfl ?_);refine zX 2 rfl ?_;refine za (ze [] (zo hAl hBl) ?_);exact zg (zi hd D0 (by simp[zp,hAl,hBl]))
open Go Go.Proofs
theorem ZdW{P:Program}{n:Nat}{F:Nat->PV}{S:Store}{o:Oper}{s x:Operand}{t e m id ver et:Nat}{cs l:List PV}{K:PV->Store->Prop}(ho:o.op=.call { callee:=.builtin .copy,args:=#[s,x],argTypes:=#[t,t] })(ht:P.underlying t=some (.slice e))(hz:(P.info? e).map (·.size)=some 1)
  (hs:ev F s=.sl id ver 1 0 m) (hx:ev F x=.lst l.length l) (hid:S id=.cells ver et cs) (hm:cs.length=m) (hm0:0<m)
  (hK:K (I (min l.length m:Nat)) (S.set id (.cells ver et (l.take m++cs.drop (min l.length m))))):PO P wK n o F S K:=by
 intro G hG C w a N st next Q' hnext;have e1:=st.ev s;rw[(hG s (by grind[Op.operands,Call.operands])).trans hs]at e1;have e2:=st.ev x;rw[(hG x (by grind[Op.operands,Call.operands])).trans hx]at e2;have hnd:∀c,o.op≠.defer c:=by intro c hc;rw[ho]at hc;cases hc
 generalize hv:a.eval s=v at e1;generalize hu:a.eval x=u at e2;cases e1 with
 | sl i1 i2 i3 =>
  rcases (i3 ver (by rw[hid];rfl)).2 rfl with ⟨_,q,_,_⟩ | ⟨b,k,ad,dcap,hl,rfl,hq0,_⟩
  ·omega
  obtain⟨rfl,hq1⟩:=hq0 rfl;rcases st.sim.cells id ver et cs hid with ⟨hn,_⟩ | ⟨b',k',c,g1,g2,g3,g4,g5,g6⟩
  ·simp_all
  rw[hl]at g1;cases g1;have main:∀(vs:List Value) (a':Addr) (cap:Nat),u=.slice (some a') l.length cap->vs.length=min l.length m->(∀j v,vs[j]?=some v->w.cell? (a'.add j)=some v)->(∀v∈vs,v.oneCell'=true)->(∀(i:Nat) (p:PV) (v:Value),(l.take m)[i]?=some p->vs[i]?=some v->Rel C S w p v)->o.wpIn (Fe wK) n P a w next Q':=by
   intro vs a' cap hu' hvl hcell hone hrel;have hrun0:=run_copy_row P w t t o.type e b 0 m dcap a' l.length cap c et vs ht hz g2 (by rw[hvl]) hcell DY hone;have hrun:=W3 (P:=P) (a:=a) (w:=w) ho (by rw[hv,hu,hu'];exact hrun0);simp only[CV,AK,AQ]at hrun;generalize hw':w.setRow b (vs++c.toList.drop vs.length).toArray=w' at hrun;have hheap:w'.heap[b]?=some (.cells (vs++c.toList.drop vs.length).toArray et (0,0)):=by rw[<-hw'];exact setRow_heap w b c _ et _ g2
   have hgr:w.grownBy w' (some b)/\w.drawn<=w'.drawn:=by
    rw[<-hw'];exact⟨⟨rfl,rfl,rfl,by simp,λj hj hne=>setRow_other w b j _ (λe=>hne (by rw[e]))⟩,Ag _⟩
   have hsize:(vs++c.toList.drop vs.length).toArray.size=k:=D2
   have htl:(l.take m).length=vs.length:=by rw[Ay,hvl];omega
   obtain⟨t1,t2⟩:=st.sim.turn (l:=C.loc id) (ver':=ver) (cs':=l.take m++cs.drop (min l.length m)) hid (Ag _) (λ_=>rfl) (by rw[hl];exact hgr)
    (.inr ⟨b,k,_,hl,.inr (by rw[hl];rfl),hheap,hsize,by rw[Ar,Bs,htl];omega,λi z hi hz=>by
      rw[AE]at hz
      by_cases q1:i<vs.length
      ·rw[Aq q1]at hz;exact hone z (Ab hz)
      ·rw[Al DY,AR]at hz;rw[Ar,Bs,htl]at hi;have e9:vs.length+(i-vs.length)=i:=DY
       rw[e9]at hz;exact g5 i z DY (by rw[<-Array.getElem?_toList];exact hz),
     λi p z hp hz=>by
      rw[AE]at hz
      by_cases q1:i<vs.length
      ·rw[Aq q1]at hz;rw[Aq DY]at hp;exact hrel i p z hp hz
      ·rw[Al DY,AR]at hz;rw[Al DY,AR,htl,<-hvl]at hp;have e9:vs.length+(i-vs.length)=i:=DY
       rw[e9]at hz hp;exact g6 i p z hp (by rw[<-Array.getElem?_toList];exact hz)⟩)
   have hres:goInt vs.length=Value.int .i64 ((min l.length m:Nat):Int):=by rw[hvl];rfl
   exact qj hnd hrun (hnext _ _ _ _ _ hK (by rw[hres];exact .sc _) t1 t2)
  generalize hk:l.length=kk at e2;cases e2 with
  | lst0 =>
   rename_i cap a';have hrun0:(Builtin.copy_ #[t,t] o.type #[a.eval s,a.eval x]).run P w=.ok (goInt 0) w:=by
    rw[hv,hu];cases hq:P.info? e with
    | none=>simp[hq]at hz
    | some i =>
     cases a'<;>simp[Builtin.copy_,run_underlying ht,Builtin.lenOf,Builtin.firstCells,sizeOf,typeInfo,hq,storeCells,loadCells,loadCellsFrom]
   have hrun:=W3 (P:=P) (a:=a) (w:=w) ho hrun0;have eS:S.set id (.cells ver et cs)=S:=by
    funext i
    by_cases hi:i=id
    ·subst hi;grind[q11]
    ·exact q10 _ _ _ _ hi
   simp only[Ah,Nat.zero_min,Du,DN,AK,eS]at hK;exact qj hnd hrun (hnext _ _ _ _ _ hK (.sc _) st.sim (Step.refl _ _ _))
  | lst1 hn hmx hb hM hs1 h1 h2 =>
   rename_i cap b' o' c' e' fz;subst hk;have hadd:∀j,(⟨b',o',none⟩:Addr).add j=⟨b',o'+j,none⟩:=by intro j;unfold Addr.add;split<;>simp_all
   have hat:∀(j:Nat) (v:Value),((c'.toList.drop o').take (min l.length m))[j]?=some v->j<min l.length m/\c'[o'+j]?=some v:=λj v hj=>by
    rw[BK]at hj;split at hj
    ·rename_i hlt;rw[AR,Array.getElem?_toList]at hj;exact⟨hlt,hj⟩
    ·cases hj
   refine main ((c'.toList.drop o').take (min l.length m)) ⟨b',o',none⟩ cap rfl ?_ ?_ ?_ ?_
   ·rw[Ay,Bs];have e9:c'.toList.length=c'.size:=Array.length_toList
    by_cases hl0:l=[]
    ·subst hl0;simp
    ·have:=hs1 hl0;omega
   ·intro j v hj;obtain⟨q1,q2⟩:=hat j v hj;rw[hadd];simp[World.cell?,hb,q2]
   ·intro v hv';obtain⟨j,hj⟩:=Cc hv';obtain⟨q1,q2⟩:=hat j v hj;exact h1 j v DY q2
   ·intro i p v hp hvi;obtain⟨q1,q2⟩:=hat i v hvi;rw[AM DY]at hp;exact h2 i p v hp q2
open Go
def xK(id ver id2 v2:Nat)(p:PV):PV :=
 match p with
 | .sl o v sz off k=>if o=id/\v=ver then .sl id2 v2 sz off k else .sl o v sz off k
 | .ptr o v off=>if o=id/\v=ver then .ptr id2 v2 off else .ptr o v off
 | p=>p
def Y6(id ver id2 v2:Nat)(x:Ob):Ob :=
 match x with
 | .cells v e ds=>.cells v e (ds.map (xK id ver id2 v2))
 | x=>x
theorem Zu4{C C':Ctx}{S T:Store}{w:World}{id ver e id2 v2 e2:Nat}{cs cs2:List PV}(hid:S id=.cells ver e cs)(st:Step C S w C' T w)(hn:T id2=.cells v2 e2 cs2)(hl:C'.loc id2=C.loc id)(hlt:id2<C'.next/\v2<C'.clock){p:PV}{u:Value}
  (h:Rel C S w p u):Rel C' T w (xK id ver id2 v2 p) u:=by
 unfold xK;split
 ·split
  ·rename_i hc;obtain⟨rfl,rfl⟩:=hc;cases h with
   | sl h1 h2 h3 =>
    refine .sl h1 hlt λv0 hv0=>?_
    rw[hn]at hv0;cases hv0;refine⟨Ag _,λ_=>?_⟩;rw[hl];exact(h3 _ (by rw[hid];rfl)).2 rfl
  ·exact h.mono st
 ·split
  ·rename_i hc;obtain⟨rfl,rfl⟩:=hc;cases h with
   | ptr h1 h2 h3 =>
    refine .ptr h1 hlt λv0 hv0=>?_
    rw[hn]at hv0;cases hv0;refine⟨Ag _,λ_=>?_⟩;rw[hl];exact(h3 _ (by rw[hid];rfl)).2 rfl
  ·exact h.mono st
 ·exact h.mono st
theorem Yq{P:Program}{r:Rd}{n nx N:Nat}{Q:Exit->(Nat->PV)->Store->Prop}{F:Nat->PV}{S:Store}{obs:List Ob}{c:Code}(j:Nat){ver e:Nat}{cs:List PV}(hj:obs[j]?=some (.cells ver e cs))
  (h:∀v2,PW P r n N c Q (λi=>xK (nx+j) ver (nx+obs.length) v2 (F i)) (ext S nx ((obs.map (Y6 (nx+j) ver (nx+obs.length) v2)).set j .dead++[.cells v2 e (cs.map (xK (nx+j) ver (nx+obs.length) v2))]))):PW P r n N c Q F (ext S nx obs):=by
 intro C w a st;have hjl:j<obs.length:=(Ac.1 hj).1;have h:=h C.clock;have hid:ext S nx obs (nx+j)=.cells ver e cs:=by rw[zZ,Aa,hj];rfl
 have hdn:ext S nx obs (nx+obs.length)=.dead:=uZ;have hTn:ext S nx ((obs.map (Y6 (nx+j) ver (nx+obs.length) C.clock)).set j .dead++[.cells C.clock e (cs.map (xK (nx+j) ver (nx+obs.length) C.clock))]) (nx+obs.length)=.cells C.clock e (cs.map (xK (nx+j) ver (nx+obs.length) C.clock)):=by
  rw[zZ,Aa,Al DZ];simp
 have hTj:ext S nx ((obs.map (Y6 (nx+j) ver (nx+obs.length) C.clock)).set j .dead++[.cells C.clock e (cs.map (xK (nx+j) ver (nx+obs.length) C.clock))]) (nx+j)=.dead:=by
  rw[zZ,Aa,Aq (by simpa using hjl),AT (by simpa using hjl)];rfl
 have hat:∀o,o≠nx+j->o≠nx+obs.length->ext S nx ((obs.map (Y6 (nx+j) ver (nx+obs.length) C.clock)).set j .dead++[.cells C.clock e (cs.map (xK (nx+j) ver (nx+obs.length) C.clock))]) o=ext S nx obs o \/
   ext S nx ((obs.map (Y6 (nx+j) ver (nx+obs.length) C.clock)).set j .dead++[.cells C.clock e (cs.map (xK (nx+j) ver (nx+obs.length) C.clock))]) o=Y6 (nx+j) ver (nx+obs.length) C.clock (ext S nx obs o):=by
  intro o h1 h2
  by_cases ho:o<nx
  ·simp_all[zB]
  ·right;simp only[ext];rw[if_neg ho,if_neg ho,Aa,Aa]
   by_cases hlo:o-nx<obs.length
   ·grind
   ·rw[Ak D2,Ak DY];rfl
 generalize hTT:ext S nx ((obs.map (Y6 (nx+j) ver (nx+obs.length) C.clock)).set j .dead++[.cells C.clock e (cs.map (xK (nx+j) ver (nx+obs.length) C.clock))])=T at *;generalize hSS:ext S nx obs=S1 at *;generalize hi2:nx+obs.length=id2 at *;generalize hi1:nx+j=id at *;clear hTT hSS hi2 hi1 hj hjl;have hS:=st.sim;have hne:id≠id2:=by intro e2;rw[e2,hdn]at hid;cases hid
 have hdead:∀o,o≠id2->T o≠.dead->S1 o≠.dead/\o≠id:=by
  intro o h2 hT
  by_cases h1:o=id
  ·simp_all
  ·refine⟨λhs=>?_,h1⟩;rcases hat o h1 h2 with q | q
   ·simp_all
   ·rw[q,hs]at hT;exact hT rfl
 have hver:∀o v,o≠id2->(T o).ver=some v->(S1 o).ver=some v:=by
  intro o v h2 hv
  by_cases h1:o=id
  ·subst h1;rw[hTj]at hv;cases hv
  ·rcases hat o h1 h2 with q | q
   ·simp_all
   ·rw[q]at hv;cases hs:S1 o with
    | dead=>rw[hs]at hv;cases hv
    | cells v0 e0 ds=>rw[hs]at hv;exact hv
    | map v0 es=>rw[hs]at hv;exact hv
 obtain⟨C',hC'⟩:∃C':Ctx,C'={ loc:=λo=>if o=id2 then C.loc id else C.loc o,next:=max C.next (id2+1),clock:=C.clock+1 }:=⟨_,rfl⟩;have hl2:C'.loc id2=C.loc id:=by rw[hC'];simp
 have hlo:∀o,o≠id2->C'.loc o=C.loc o:=λo ho=>by simp_all
 have hnx:C'.next=max C.next (id2+1):=by rw[hC']
 have hck:C'.clock=C.clock+1:=by rw[hC']
 clear hC';have step:Step C S1 w C' T w:=by
  refine⟨rfl,⟨rfl,Ag _⟩,rfl,Ag _,by omega,by omega,λb hlt hM=>⟨rfl,?_⟩,λo v1 hv=>?_⟩
  ·rintro⟨o,k,ho,hl⟩
   by_cases h2:o=id2
   ·subst h2;rw[hl2]at hl;exact hM ⟨id,k,by rw[hid];simp,hl⟩
   ·rw[hlo o h2]at hl;exact hM ⟨o,k,(hdead o h2 ho).1,hl⟩
  ·by_cases h2:o=id2
   ·subst h2;rw[hTn]at hv;cases hv;exact .inl (.inr (Ag _))
   simp_all
 have mv:∀{p:PV} {u:Value},Rel C S1 w p u->Rel C' T w (xK id ver id2 C.clock p) u:=λhr=>Zu4 hid step hTn hl2 ⟨by omega,by omega⟩ hr
 have mvl:∀{ds:List PV} {i:Nat} {p:PV},(ds.map (xK id ver id2 C.clock))[i]?=some p->∃q,ds[i]?=some q/\p=xK id ver id2 C.clock q:=by
  intro ds i p hp;rw[Aj,Ao]at hp;obtain⟨q,h1,h2⟩:=hp;exact⟨q,h1,h2.symm⟩
 have sim:Sim C' T w:=by
  refine⟨λo ho=>?_,λo v hv=>?_,λo o' b k k' h1 h2 h3 h4=>?_,λo v0 e0 ds ho=>?_,λo v0 es ho=>?_⟩
  ·by_cases h2:o=id2
   ·omega
   ·have:=hS.lt o (hdead o h2 ho).1;omega
  ·by_cases h2:o=id2
   ·subst h2;rw[hTn]at hv;cases hv;omega
   ·have:=hS.clk o v (hver o v h2 hv);omega
  ·by_cases q1:o=id2<;>by_cases q2:o'=id2
   ·omega
   ·subst q1;rw[hl2]at h3;rw[hlo o' q2]at h4;obtain⟨d1,d2⟩:=hdead o' q2 h2;exact absurd (hS.dist id o' b k k' (by rw[hid];simp) d1 h3 h4).symm d2
   ·subst q2;rw[hl2]at h4;rw[hlo o q1]at h3;obtain⟨d1,d2⟩:=hdead o q1 h1;exact absurd (hS.dist o id b k k' d1 (by rw[hid];simp) h3 h4) d2
   ·rw[hlo o q1]at h3;rw[hlo o' q2]at h4;exact hS.dist o o' b k k' (hdead o q1 h1).1 (hdead o' q2 h2).1 h3 h4
  ·by_cases h2:o=id2
   ·subst h2;rw[hTn]at ho;cases ho;rw[hl2];rcases hS.cells id ver e cs hid with ⟨q1,q2⟩ | ⟨b,k,cc,g1,g2,g3,g4,g5,g6⟩
    ·exact .inl ⟨q1,by rw[q2];rfl⟩
    grind
   ·have h1:=(hdead o h2 (by rw[ho];simp)).2;rw[hlo o h2];rcases hat o h1 h2 with q | q
    ·rw[q]at ho;rcases hS.cells o v0 e0 ds ho with hn | ⟨b,k,cc,g1,g2,g3,g4,g5,g6⟩
     ·exact .inl hn
     ·exact .inr ⟨b,k,cc,g1,g2,g3,g4,g5,λi p v hp hv=>(g6 i p v hp hv).mono step⟩
    ·rw[q]at ho;cases hs:S1 o with
     | dead=>simp_all
     | map v1 es=>rw[hs]at ho;cases ho
     | cells v1 e1 ds1 =>
      rw[hs]at ho;cases ho;rcases hS.cells o _ _ ds1 hs with ⟨q1,q2⟩ | ⟨b,k,cc,g1,g2,g3,g4,g5,g6⟩
      ·exact .inl ⟨q1,by rw[q2];rfl⟩
      grind
  ·have h2:o≠id2:=by rintro rfl;rw[hTn]at ho;cases ho
   have h1:=(hdead o h2 (by rw[ho];simp)).2;have hs:S1 o=.map v0 es:=by
    rcases hat o h1 h2 with q | q
    ·simp_all
    ·cases hs:S1 o with
     | dead=>simp_all
     | map v1 es1=>rw[q,hs]at ho;exact ho
     | cells v1 e1 ds1=>rw[q,hs]at ho;cases ho
   obtain⟨b,k,ms,cl,g1,g2,g3,g4⟩:=hS.maps o v0 es hs;exact⟨b,k,ms,cl,by simp_all,g2,g3,λi x m he hm=>⟨(g4 i x m he hm).1,(g4 i x m he hm).2.mono step⟩⟩
 refine wpIn_mono (h C' w a ⟨sim,st.size,λi=>mv (st.fr i),r.keep step st.v⟩) ?_;rintro e a' w' ⟨F2,S2,C2,h1,h2,h3,h4⟩;exact⟨F2,S2,C2,h1,h2,h3,step.trans h4⟩
open Go Go.Proofs
def uz(f:Nat->Int)(p:Nat):Nat->Option Int
 | 0=>none
 | k+1=>if k=p then uz f p k else match uz f p k with
  | none=>some (f k)
  | some b=>some (if f k<b then f k else b)
def Zk(f:Nat->Int)(p k:Nat):Int:=(uz f p k).getD 0
theorem ZjP(f:Nat->Int)(p:Nat):uz f p (p+1)=uz f p p:=if_pos rfl
theorem ZjQ{f:Nat->Int}{p k:Nat}(h:k≠p)(hn:uz f p k=none):uz f p (k+1)=some (f k):=by
 show (if k=p then _ else _)=_
 rw[if_neg h,hn]
theorem ZjR{f:Nat->Int}{p k:Nat}{b:Int}(h:k≠p)(hn:uz f p k=some b):uz f p (k+1)=some (if f k<b then f k else b):=by
 show (if k=p then _ else _)=_
 rw[if_neg h,hn]
theorem ZjS{S:Store}(n p:Nat)(hn:n<=2097152)(hp:p<=2097152)(g:FuncId)(ps:List PV)(f:Nat->Int)
  (h:∀k,k<n->k≠p->∀T:Store,(∀o,S o≠.dead->T o=S o)->Spec prog g (ps++[I p,I k]) T (λq S'=>q=I (f k)/\S'=T)) :
  Spec prog 161 [I n,I p,.fn (.func g) ps []] S (λq S'=>q=I (Zk f p n)/\S'=S):=by
 have hsk:=ZjP f p;have hno:=@ZjQ f p;have hso:=@ZjR f p;unfold Zk;have h0:uz f p 0=none:=rfl;generalize uz f p=lo at *;refine yn func161 ntmps161 results161 λnx hd=>?_
 have hT:∀obs o,S o≠.dead->ext S nx obs o=S o:=λobs o ho=>by
  apply zB;rcases Bi o nx with q | q
  ·exact q
  ·exact absurd (hd o q) ho
 refine D7 ?_;refine D7 ?_
 repeat apply za
 refine zb ?_;refine zj (zC (λk:Nat=>k<=n) (λk=>[(1,I p),(2,.fn (.func g) ps []),(7,I ((lo k).getD 0)),(8,B (lo k).isSome),(11,I n),(12,I k)]) (λ_=>[]) (λk=>n-k) 0 [] DZ (by simp[h0]) DZ ?_);rintro k hk;refine D7 ?_;refine za (zv rfl (λhc=>?_) (λhc=>?_))
 ·simp at hc;refine zh (za (zj (D7 ?_)))
  repeat apply za
  refine zb ?_
  by_cases hkp:k=p
  ·subst hkp;refine zm DZ ?_;refine zx (zb ?_);exact zq (k+1) [] hc DY (by simp[zu k (by omega),hsk]) rfl DZ
  ·have hki:¬(k:Int)=p:=DY
   have hno:=hno hkp;have hso:=@hso k;refine zk D2 ?_;refine zh (D7 ?_);refine λhsuf=>((h k hc hkp _ (hT _)).mono ?_).v
   rintro _ _ ⟨rfl,rfl⟩;refine⟨_,_,rfl,zL hsuf ?_⟩;cases hl:lo k with
   | none =>
    have hn1:=hno hl;refine za (ze [(2,24)] zH ?_);refine zm DZ ?_;refine zb ?_;refine zb ?_;exact zq (k+1) [] hc DY (by simp[zu k (by omega),hn1]) rfl DZ
   | some b =>
    have hs1:=hso hkp hl;refine za (ze [(2,24)] trivial ?_)
    by_cases hlt:f k<b
    ·rw[if_pos hlt]at hs1;refine zm (by simp[hlt]) ?_;refine zb ?_;refine zb ?_;exact zq (k+1) [] hc DY (by simp[zu k (by omega),hs1]) rfl DZ
    ·rw[if_neg hlt]at hs1;refine zk (by simp[hlt]) ?_;refine zh (zb ?_);exact zq (k+1) [] hc DY (by simp[zu k (by omega),hs1]) rfl DZ
 ·simp at hc;obtain rfl:k=n:=DY
  refine zx (D7 ?_);exact D8 hd
abbrev QU(x:Inst)(s:PV):List PV:=[I x.days,I x.veh,I x.cap,I x.len,L x.cust,L x.dist,s]
theorem Zu5{S:Store}{id ver:Nat}(x:Inst)(s:PV)(b a:Nat)(hS:S id=.cells ver 223 (QU x s)):
  Spec prog 162 [.ptr id ver 0,I b,I a] S (λq S'=>q=I (arc x a b)/\S'=S):=by
 have harc:=w8 x a b;refine yn func162 ntmps162 results162 λnx hd=>?_
 have hlt:id<nx:=qN hd hS DZ;have x1:∀obs,ext S nx obs id=.cells ver 223 (QU x s):=λobs=>(zB hlt).trans hS
 refine D7 ?_;refine za (ze [] x1 ?_);refine qt [] harc x1 ?_;exact D8 hd
theorem Zu6{S:Store}{id ver ib w:Nat}(x:Inst)(l:List Int)(a b:Nat){z:Int}(hS:S id=.cells ver 223 (QU x (.sl ib w 1 0 l.length)))(hB:S ib=.cells w 3 (l.flatMap Enc.enc))(hb:l[b]?=some z):
  Spec prog 163 [.ptr id ver 0,I a,I b] S (λq S'=>q=I (W (arc x a b-z))/\S'=S):=by
 have harc:=w8 x a b;have hk:b<l.length:=(Ac.1 hb).1;obtain⟨t,tl,b1,b2,b3,f0⟩:=zF rfl l b hk;obtain rfl:t=z:=by rw[hb]at b1;exact(Option.some.inj b1).symm
 refine yn func163 ntmps163 results163 λnx hd=>?_
 have hlt:id<nx:=qN hd hS DZ;have hlt2:ib<nx:=qN hd hB DZ;have x1:∀obs,ext S nx obs id=.cells ver 223 (QU x (.sl ib w 1 0 l.length)):=λobs=>(zB hlt).trans hS
 have x2:∀obs,ext S nx obs ib=.cells w 3 (l.flatMap Enc.enc):=λobs=>(zB hlt2).trans hB
 refine D7 ?_;refine za (zz (some [id,ib]) (Row.pures [0,1,2,3,4,5,6,7,8,9,10,11,12,13,14,15] .done) mixed (zN x1 x2 f0 hk) ?_);refine zG (harc) (zN x1 x2 f0 hk) ?_;exact D8 hd
theorem Za4(x:Inst)(hx:x.cust.length<=1048576):Pure prog 119 [.agg (zy x)] (I ((x.cust.length+1:Nat):Int)):=by
 have w1:IntKind.i64.wrap ((x.cust.length:Int)+1)=(x.cust.length:Int)+1:=by rw[AG];omega
 refine zr func119 ntmps119 results119 λS nx hd=>?_
 refine D7 ?_;intro v0;refine za (ze [] w1 ?_);exact zg (zi hd D0 (by simp[zp]))
open Go Go.Proofs
@[simp] theorem ZzL(a b c d:Nat)(v:Value):xK a b c d (.sc v)=.sc v:=rfl
@[simp] theorem ZzM(a b c d:Nat)(k:Nat)(l:List PV):xK a b c d (.lst k l)=.lst k l:=rfl
@[simp] theorem ZzN(a b c d:Nat)(l:List PV):xK a b c d (.agg l)=.agg l:=rfl
@[simp] theorem ZzO(a b c d o v sz off k:Nat):xK a b c d (.sl o v sz off k)=if o=a/\v=b then .sl c d sz off k else .sl o v sz off k:=rfl
@[simp] theorem ZzP(a b c d o v off:Nat):xK a b c d (.ptr o v off)=if o=a/\v=b then .ptr c d off else .ptr o v off:=rfl
@[simp] theorem ZzQ(a b c d v e:Nat)(l:List PV):Y6 a b c d (.cells v e l)=.cells v e (l.map (xK a b c d)):=rfl
@[simp] theorem ZzR(a b c d:Nat):Y6 a b c d .dead=.dead:=rfl
theorem ZdX(n:Nat):qb n (.int .i64 0)=List.replicate n (I 0):=by apply Bd<;>simp_all[qb,Nat.mod_one]
theorem ZjT{S:Store}{nx:Nat}{obs:List Ob}(hd:zS nx S){j k:Nat}{x y:Ob}(hj:obs[j]?=some x)(hk:obs[k]?=some y)(o:Nat):((S.set (nx+j) x).set (nx+k) y) o=ext S nx obs o\/((S.set (nx+j) x).set (nx+k) y) o=.dead:=by grind[q11,zZ,q10,Q8]
theorem Zu7{S:Store}{nx:Nat}(hd:zS nx S)(x:Inst)(hx:x.cust.length<=1048576):
  Spec prog 160 [.agg (zy x)] S (λq S'=>∃v w,q=.agg [.sl (nx+4) v 1 0 (x.cust.length+1),.sl (nx+5) w 1 0 (x.cust.length+1)] /\
   S'=(S.set (nx+4) (.cells v 3 (List.replicate (x.cust.length+1) (I 0)))).set (nx+5) (.cells w 3 (List.replicate (x.cust.length+1) (I 0)))):=by
 have hpl:=Za4 x hx;obtain⟨n,hn⟩:∃n,n=x.cust.length+1:=⟨_,rfl⟩;rw[<-hn]at hpl ⊢;have hn1:n<=1048577:=DY
 have hzr:=ZdX n;refine u6 hd func160 ntmps160 results160 ?_;refine D7 ?_;intro v0 v1;refine D7 ?_;refine zt hpl ?_;refine za (zz (some []) (Row.pures [0,2] (.alt 1 (.alt 3 (Row.pures [4] (.alt 5 (.done) .stop)) .stop) (.alt 3 (.alt 1 (Row.pures [4] (.alt 5 (.done) .stop)) .stop) .stop))) mixed trivial ?_);have hk:(n:Int)<=140737488355328/\n*8<=281474976710656:=DY
 refine⟨⟨hk,λv=>⟨hk,λw=>?_⟩⟩,⟨hk,λv=>⟨hk,λw=>?_⟩⟩⟩
 ·refine Yq 2 rfl λa=>?_
  refine Yq 3 rfl λb=>?_
  exact zg ⟨_,_,by simp;rfl,⟨a,b,by simp[zp],rfl⟩,λo=>ZjT (j:=4) (k:=5) hd (by simp[hzr]) (by simp[hzr]) o⟩
 ·refine Yq 3 rfl λa=>?_
  refine Yq 2 rfl λb=>?_
  exact zg ⟨_,_,by simp;rfl,⟨a,b,by simp[zp],rfl⟩,λo=>ZjT (j:=4) (k:=5) hd (by simp[hzr]) (by simp[hzr]) o⟩
theorem Zu8{S:Store}{nx:Nat}{obs:List Ob}(x:Inst)(hx:x.cust.length<=1048576):
  Spec prog 160 [.agg (zy x)] (ext S nx obs) (λq S'=>∃v w,q=.agg [.sl (nx+(obs.length+4)) v 1 0 (x.cust.length+1),.sl (nx+(obs.length+5)) w 1 0 (x.cust.length+1)] /\
   S'=ext S nx (obs++[.dead,.dead,.dead,.dead,.cells v 3 (List.replicate (x.cust.length+1) (I 0)),.cells w 3 (List.replicate (x.cust.length+1) (I 0))])):=by
 refine(Zu7 jU x hx).mono ?_;rintro _ _ ⟨v,w,rfl,rfl⟩;refine⟨v,w,by rw[Nat.add_assoc,Nat.add_assoc],?_⟩;rw[Wh 4];have e2:=qV (S:=S) (nx:=nx) (obs:=obs++List.replicate 4 .dead++[.cells v 3 (List.replicate (x.cust.length+1) (I 0))]) (.cells w 3 (List.replicate (x.cust.length+1) (I 0)));rw[show nx+obs.length+5=nx+(obs++List.replicate 4 Ob.dead++[Ob.cells v 3 (List.replicate (x.cust.length+1) (I 0))]).length by simp;omega,e2];simp[List.replicate]
def xX(x:Inst)(l:List Int):List Int:=(List.range (x.cust.length+1)).map λb:Nat=>min (max (l.getD b 0) 0) (Zk (λa=>arc x a b) b (x.cust.length+1))
def xL(x:Inst)(i:List Int):List Int:=(List.range (x.cust.length+1)).map λa:Nat=>Zk (λb=>W (arc x a b-i.getD b 0)) a (x.cust.length+1)
theorem Za5(x:Inst)(l:List Int):(xX x l).length=x.cust.length+1:=by simp[xX]
theorem ZdY(x:Inst)(i:List Int):(xL x i).length=x.cust.length+1:=by simp[xL]
theorem Zu9{f:Nat->Int}{p:Nat}{lo hi:Int}(h0:lo<=0)(h1:0<=hi)(h:∀k:Nat,lo<=f k/\f k<=hi)(n:Nat):lo<=Zk f p n/\Zk f p n<=hi:=by
 have:∀n,∀b,uz f p n=some b->lo<=b/\b<=hi:=by
  intro n
  induction n with
  | zero=>intro b hb;cases hb
  | succ n ih =>
   intro b hb
   by_cases hp:n=p
   ·subst hp;rw[ZjP]at hb;exact ih b hb
   ·cases ho:uz f p n with
    | none=>rw[ZjQ hp ho]at hb;cases hb;exact h n
    | some c =>
     rw[ZjR hp ho]at hb;cases hb;split
     ·exact h n
     ·exact ih c ho
 unfold Zk;cases e:uz f p n with
 | none=>exact⟨h0,h1⟩
 | some b=>exact this n b e
theorem ZdZ(cs:List PV)(k:Nat)(v:PV)(h:k<cs.length):yg cs k [v]=cs.set k v:=by
 unfold yg;rw[AF,if_pos h];simp
theorem ZjU{l m:List Int}{k:Nat}{z:Int}(hk:k<m.length)(hl:l.length=m.length)(h:m[k]?=some z):yg ((m.take k++l.drop k).flatMap Enc.enc) k [I z]=(m.take (k+1)++l.drop (k+1)).flatMap Enc.enc:=by
 have e:∀l:List Int,l.flatMap Enc.enc=l.map I:=λl=>by
  induction l with
  | nil=>rfl
  | cons a l ih=>rw[Ax,ih];rfl
 rw[ZdZ _ _ _ (by rw[e];simp;omega),e,e,<-List.map_set];congr 1;rw[AJ,h,BH _ _ D2,Ay,Bk DY,Bv,List.append_assoc];congr 1;rw[AS DY];rfl
theorem ZjV(x:Inst)(l:List Int)(hx:x.cust.length<=1048576)(hl:l.length=x.cust.length+1):Pure prog 120 [.agg (zy x),L l] (.agg [L (xL x (xX x l)),L (xX x l)]):=by
 have hpl:=Za4 x hx;have hz:=λ(S:Store) nx obs=>Zu8 (S:=S) (nx:=nx) (obs:=obs) x hx
 have hIl:=Za5 x l;have hIa:∀k,k<x.cust.length+1->(xX x l)[k]?=some (min (max (l.getD k 0) 0) (Zk (λa=>arc x a k) k (x.cust.length+1))):=λk hk=>by unfold xX;rw[Aj,A9 hk];rfl
 generalize xX x l=i at *;have hOl:=ZdY x i;have hOa:∀k,k<x.cust.length+1->(xL x i)[k]?=some (Zk (λb=>W (arc x k b-i.getD b 0)) k (x.cust.length+1)):=λk hk=>by unfold xL;rw[Aj,A9 hk];rfl
 generalize xL x i=o at *;obtain⟨n,hn⟩:∃n,n=x.cust.length+1:=⟨_,rfl⟩;rw[<-hn]at hpl hz hl hIl hIa hOl hOa;have hn1:n<=1048577:=DY
 have hfl:∀l:List Int,l.flatMap Enc.enc=l.map I:=λl=>by
  induction l with
  | nil=>rfl
  | cons a l ih=>rw[Ax,ih];rfl
 have hll:(l.flatMap Enc.enc:List PV).length=n:=by rw[hfl];simpa using hl
 have hLl:L l=.lst (l.flatMap Enc.enc:List PV).length (l.flatMap Enc.enc):=by
  show PV.lst l.length _=_
  rw[hll,hl]
 rw[hLl];obtain⟨M,hM⟩:∃M:Nat->List Int,M=λk=>i.take k++l.drop k:=⟨_,rfl⟩
 have hMz:M 0=l:=by rw[hM];simp
 have hMn:M n=i:=by rw[hM];show i.take n++l.drop n=i;rw[Af DY,AZ DY,AC]
 have hMl:∀k,k<=n->(M k).length=n:=λk hk=>by rw[hM];simp;omega
 have hMa:∀k,k<n->(M k)[k]?=some (l.getD k 0):=λk hk=>by
  rw[hM]
  show (i.take k++l.drop k)[k]?=_
  rw[Al D2,Ay,Bk DY,Bv,AR,BF,Aa,Ae DY];rfl
 have hMs:∀k z,k<n->i[k]?=some z->yg ((M k).flatMap Enc.enc) k [I z]=(M (k+1)).flatMap Enc.enc:=λk z hk hz=>by rw[hM];exact ZjU DY DY hz
 clear hM;refine zr func120 ntmps120 results120 λS nx hd=>?_
 refine D7 ?_;intro v0 v1;refine za (zz (some [nx]) (Row.pures [0,2] (.alt 1 (Row.pures [3] (.alt 4 (.alt 5 (Row.pures [6] .done) .stop) .stop)) (.alt 4 (.alt 1 (Row.pures [3] (.alt 5 (Row.pures [6] .done) .stop)) .stop) .stop))) mixed trivial ?_);refine⟨?_,λv2=>?_⟩
 all_goals
  refine((hz S nx _).mono ?_).v;rintro _ _ ⟨vo,vi,rfl,rfl⟩;simp only[Ad,Ah,Nat.reduceAdd,List.cons_append,AK];refine⟨by simp[yM],jD trivial ?_⟩;refine zG (hpl) trivial ?_;intros
 all_goals first
  | (refine Yq 6 rfl λwo=>?_;refine Yq 7 rfl λwi=>?_;refine Yq 8 rfl λwp=>?_)
  | (refine Yq 7 rfl λwo=>?_;refine Yq 8 rfl λwi=>?_;refine Yq 2 rfl λwp=>?_)
 all_goals
  refine D7 ?_;refine λhsuf=>ZdW (id:=nx+10) (ver:=wi) (e:=3) (l:=l.flatMap Enc.enc) rfl underlying26 D1 (m:=n) rfl (by show PV.lst l.length _=_;rw[hll,hl]) (by rw[zZ];rfl) DZ DY ?_
  rw[hll,Nat.min_self,Af DY,AZ DZ,AC];refine⟨_,_,yl _ DY DZ,zL hsuf ?_⟩;refine D7 ?_;intro v3
  repeat apply za
  refine zb ?_;have hM0:l.flatMap Enc.enc=(M 0).flatMap Enc.enc:=by rw[hMz]
  refine zj (zC (λk:Nat=>k<=n) (λk=>[(4,.ptr (nx+1) v1 0),(5,.ptr (nx+11) wp 0),(6,I n),(7,.ptr (nx+12) v3 0),(23,I n),(24,I k)]) (λk=>[.cells v0 25 (zy x),.cells v1 68 [.sc (.slice none 0 0),.sc (.slice none 0 0)],.dead,.dead,.dead,.dead,.dead,.dead,.dead,.cells wo 3 (List.replicate n (I 0)),.cells wi 3 ((M k).flatMap Enc.enc),.cells wp 68 [.sl (nx+9) wo 1 0 n,.sl (nx+10) wi 1 0 n],.cells v3 223 (QU x (.sl (nx+10) wi 1 0 n))]) (λk=>n-k) 0 [] DZ DZ (by simp[hM0]) ?_);rintro k hk;refine D7 ?_
  by_cases hc:k<n
  ·have hci:(k:Int)<n:=DY
   refine za (zm D2 ?_);refine zh (za (zj ?_));have hik:=hIa k hc;have hml:=hMl k hk;have hma:=hMa k hc;have hms:=λz h=>hMs k z hc h
   have hle:=λ(T0:Store) (h0:T0 (nx+12)=.cells v3 223 (QU x (.sl (nx+10) wi 1 0 n)))=>ZjS (S:=T0) n k DY DY 162 [.ptr (nx+12) v3 0] (λa=>arc x a k) (λa _ _ T hT=>Zu5 x (.sl (nx+10) wi 1 0 n) k a (by rw[hT _ (by rw[h0];simp),h0]))
   have hcl:=Xr (l.getD k 0) 0 (Zk (λa=>arc x a k) k n);generalize Zk (λa=>arc x a k) k n=lv at *;generalize l.getD k 0=t at *;generalize min (max t 0) lv=z at *;have hms:=hms z hik;generalize hmk1:M (k+1)=mk1 at *;generalize M k=mk at *;obtain⟨t',tl,b1,b2,b3,f0⟩:=zF rfl mk k DY;obtain rfl:t'=t:=by rw[hma]at b1;exact(Option.some.inj b1).symm
   have hkm:k<mk.length:=DY
   refine D7 ?_;refine zz (some [nx+11]) (Row.pures [0,1,2,3,4,5,6,8,9,10,11] (.alt 7 (.alt 12 (Row.pures [13,14] (.alt 15 (.done) .stop)) .stop) (.alt 12 (.alt 7 (Row.pures [13,14] (.alt 15 (.done) .stop)) .stop) .stop))) mixed (zN f0 hkm hc hml) ?_;refine⟨?_,?_⟩
   all_goals
    refine((hle _ (by rw[zZ];rfl)).mono ?_).v;rintro _ _ ⟨rfl,rfl⟩;refine⟨by simp[yM],jD (zN f0 hkm hc hml) ?_⟩;refine zG (hcl) (zN f0 hkm hc hml) ?_;refine⟨by omega,?_⟩;refine zb ?_;exact zq (k+1) [] DY DY (by simp[zu k (by omega)]) rfl (by simp[hms,hmk1])
  ·obtain rfl:k=n:=DY
   refine za (zk DZ ?_);refine zx ?_;rw[hMn];obtain⟨U,hU⟩:∃U:Nat->List Int,U=λj=>o.take j++(List.replicate k (0:Int)).drop j:=⟨_,rfl⟩
   have hU0:List.replicate k (I 0)=(U 0).flatMap Enc.enc:=by rw[hU,hfl];simp
   have hUn:U k=o:=by rw[hU];show o.take k++(List.replicate k (0:Int)).drop k=o;rw[Af DY,AZ DZ,AC]
   have hUl:∀j,j<=k->(U j).length=k:=λj hj=>by rw[hU];simp;omega
   have hUs:∀j z,j<k->o[j]?=some z->yg ((U j).flatMap Enc.enc) j [I z]=(U (j+1)).flatMap Enc.enc:=λj z hj hz=>by rw[hU];exact ZjU DY D2 hz
   clear hU
   repeat apply za
   refine zb ?_;refine zj (zC (λj:Nat=>j<=k) (λj=>[(4,.ptr (nx+1) v1 0),(5,.ptr (nx+11) wp 0),(6,I k),(7,.ptr (nx+12) v3 0),(43,I k),(44,I j)]) (λj=>[.cells v0 25 (zy x),.cells v1 68 [.sc (.slice none 0 0),.sc (.slice none 0 0)],.dead,.dead,.dead,.dead,.dead,.dead,.dead,.cells wo 3 ((U j).flatMap Enc.enc),.cells wi 3 (i.flatMap Enc.enc),.cells wp 68 [.sl (nx+9) wo 1 0 k,.sl (nx+10) wi 1 0 k],.cells v3 223 (QU x (.sl (nx+10) wi 1 0 k))]) (λj=>k-j) 0 [] DZ DZ (by simp[hU0]) ?_);rintro j hj;refine D7 ?_
   by_cases hc:j<k
   ·have hci:(j:Int)<k:=DY
    refine za (zm D2 ?_);refine zh (za (zj ?_));have hoj:=hOa j hc;have hul:=hUl j hj;have hus:=λz h=>hUs j z hc h
    have hle:=λ(T0:Store) (h0:T0 (nx+12)=.cells v3 223 (QU x (.sl (nx+10) wi 1 0 k))) (h1:T0 (nx+10)=.cells wi 3 (i.flatMap Enc.enc))=>ZjS (S:=T0) k j DY DY 163 [.ptr (nx+12) v3 0] (λb=>W (arc x j b-i.getD b 0)) (λb hb _ T hT=>Zu6 x i j b (by rw[hT _ (by rw[h0];simp),h0,hIl]) (by rw[hT _ (by rw[h1];simp),h1]) (by rw[Aa,Ae (by omega)];rfl))
    generalize Zk (λb=>W (arc x j b-i.getD b 0)) j k=lv at *;have hus:=hus lv hoj;generalize hu1:U (j+1)=u1 at *;generalize U j=uj at *;have hkm:j<uj.length:=DY
    have hkl:j<(uj.flatMap Enc.enc:List PV).length:=by rw[hfl];simpa using hkm
    refine D7 ?_;refine zz (some [nx+11]) (Row.pures [0,1,2,3,4,5,6] (.alt 7 (Row.pures [8] (.alt 9 (.done) .stop)) .stop)) mixed (zN hkm hkl hc hul) ?_;refine((hle _ (by rw[zZ];rfl) (by rw[zZ];rfl)).mono ?_).v;rintro _ _ ⟨rfl,rfl⟩;refine⟨by simp[yM],jD (zN hkm hkl hc hul) ?_⟩;refine⟨by omega,?_⟩;refine zb ?_;exact zq (j+1) [] DY DY (by simp[zu j (by omega)]) rfl (by simp[hus,hu1])
   ·obtain rfl:j=k:=DY
    refine za (zk DZ ?_);refine zx ?_;rw[hUn];refine zX 9 rfl ?_;refine zX 10 rfl ?_;refine D7 ?_;exact zg (zi hd D0 (by simp[zp,hOl,hIl]))
theorem Zva(n:Nat)(z:Int):L (List.replicate n z)=.lst n (List.replicate n (I z)):=by
 show PV.lst _ _=_
 rw[Cm];congr 1
 induction n with
 | zero=>rfl
 | succ n ih=>rw[Bh,Ax,ih];rfl
theorem Zvb(x:Inst)(hx:x.cust.length<=1048576):Pure prog 77 [.agg (zy x)] (.agg [L (xL x (xX x (List.replicate (x.cust.length+1) 2147483648))),L (xX x (List.replicate (x.cust.length+1) 2147483648))]):=by
 have hpl:=Za4 x hx;have hfit:=ZjV x (List.replicate (x.cust.length+1) 2147483648) hx DZ;rw[Zva]at hfit;generalize xX x (List.replicate (x.cust.length+1) 2147483648)=i at *;generalize xL x i=o at *;obtain⟨n,hn⟩:∃n,n=x.cust.length+1:=⟨_,rfl⟩;rw[<-hn]at hpl hfit;have hn1:n<=1048577:=DY
 have hzr:=ZdX n;have hk0:(n:Int)<=140737488355328/\n*8<=281474976710656:=DY
 refine zr func77 ntmps77 results77 λS nx hd=>?_
 refine D7 ?_;intro v0 v1;refine D7 ?_;refine zt hpl ?_;refine⟨hk0,λv2=>?_⟩
 repeat apply za
 refine zb ?_;have hset:∀k,k<n->yg (List.replicate k (I 2147483648)++List.replicate (n-k) (I 0)) k [I 2147483648]=List.replicate (k+1) (I 2147483648)++List.replicate (n-(k+1)) (I 0):=λk hk=>by
  rw[ZdZ _ _ _ D2,BH _ _ DZ,Cm,Bv,show n-k=(n-(k+1))+1 by omega,Bh,Bc,List.replicate_succ'];simp
 refine zj (zC (λk:Nat=>k<=n) (λk=>[(1,.ptr nx v0 0),(2,.ptr (nx+1) v1 0),(3,.sl (nx+2) v2 1 0 n),(9,I n),(10,I k)]) (λk=>[.cells v0 25 (zy x),.cells v1 68 [.sc (.slice none 0 0),.sc (.slice none 0 0)],.cells v2 3 (List.replicate k (I 2147483648)++List.replicate (n-k) (I 0))]) (λk=>n-k) 0 [] DZ DZ (by simp[hzr]) ?_);rintro k hk;refine D7 ?_
 by_cases hc:k<n
 ·refine za (zm D2 ?_);refine zh (za (zj ?_));have hs:=hset k hc;have hl:(List.replicate k (I 2147483648)++List.replicate (n-k) (I 0)).length=n:=D2
  generalize hc1:List.replicate (k+1) (I 2147483648)++List.replicate (n-(k+1)) (I 0)=c1 at *;generalize List.replicate k (I 2147483648)++List.replicate (n-k) (I 0)=c0 at *;have hkl:k<c0.length:=DY
  refine D7 ?_;refine ze [] (zo hc hkl) ?_;refine⟨by omega,?_⟩;refine zb ?_;exact zq (k+1) [] DY DY (by simp[zu k (by omega)]) rfl (by simp only[hs,hc1,AC])
 ·obtain rfl:k=n:=DY
  refine za (zk DZ ?_);refine zx ?_;rw[Bv,List.replicate_zero,AC];refine zX 2 rfl ?_;refine D7 ?_;refine zt hfit ?_;exact D8 hd
theorem Zvc(x:Inst)(a b:List Int)(pl:Nat)(d:Int)(hx:x.cust.length<=1048576)(hb:b.length=x.cust.length+1)(hp:pl<x.cust.length+1):
  Pure prog 82 [.agg (zy x),.agg [L a,L b],I pl,I d] (.agg [L (xL x (xX x (b.set pl (W (b.getD pl 0-d))))),L (xX x (b.set pl (W (b.getD pl 0-d))))]):=by
 have hpl:=Za4 x hx;have hfit:=ZjV x (b.set pl (W (b.getD pl 0-d))) hx (by simpa using hb);generalize xX x (b.set pl (W (b.getD pl 0-d)))=i at *;generalize xL x i=o at *;obtain⟨t,tl,b1,b2,b3,f0⟩:=zF rfl b pl DY;have e1:b.getD pl 0=t:=by rw[Aa,b1];rfl
 rw[e1]at hfit;have hfl:∀l:List Int,l.flatMap Enc.enc=l.map I:=λl=>by
  induction l with
  | nil=>rfl
  | cons a l ih=>rw[Ax,ih];rfl
 have hset:yg (b.flatMap Enc.enc) pl [I (W (t-d))]=(b.set pl (W (t-d))).flatMap Enc.enc:=by rw[ZdZ _ _ _ (by rw[hfl];simp;omega),hfl,hfl,List.map_set]
 have hsl:(b.set pl (W (t-d))).length=b.length:=Bt;have hLs:L (b.set pl (W (t-d)))=.lst b.length ((b.set pl (W (t-d))).flatMap Enc.enc):=by show PV.lst _ _=_;rw[hsl]
 rw[hLs]at hfit;obtain⟨n,hn⟩:∃n,n=x.cust.length+1:=⟨_,rfl⟩;rw[<-hn]at hpl hp hb;have hn1:n<=1048577:=DY
 have hzr:=ZdX n;have hk0:(n:Int)<=140737488355328/\n*8<=281474976710656:=DY
 have hll:(b.flatMap Enc.enc:List PV).length=n:=by rw[hfl];simpa using hb
 have c1:¬(pl:Int)<0:=DY
 have hpb:pl<b.length:=DY
 rw[hb]at hfit;refine zr func82 ntmps82 results82 λS nx hd=>?_
 refine D7 ?_;intro v0 v1 v2;refine D7 ?_;refine zt hpl ?_;refine⟨hk0,λv3=>?_⟩;refine D7 ?_;refine λhsuf=>ZdW (id:=nx+3) (ver:=v3) (e:=3) (l:=b.flatMap Enc.enc) rfl underlying26 D1 (m:=n) rfl (by show PV.lst b.length _=_;rw[hll,hb]) (by rw[zZ];rfl) (by simp[qb]) DY ?_
 rw[hll,Nat.min_self,Af DY,AZ (by simp[qb]),AC];refine⟨_,_,yl _ DY DZ,zL hsuf ?_⟩
 repeat apply za
 refine ze [(2,19)] (zo c1 hp) ?_;refine zm DZ ?_;refine ze [] (zD f0 hpb hp) ?_;refine⟨by omega,?_⟩;rw[hset];refine zX 3 rfl ?_;refine za (ze [] hb ?_);refine qt [] hfit hb ?_;exact D8 hd
open Go Go.Proofs Hp
theorem Zd0{α β:Type}{l:List α}{f g:α->List β}(h:∀a∈l,f a=g a):l.flatMap f=l.flatMap g:=by
 induction l with
 | nil=>rfl
 | cons a l ih=>rw[Ax,Ax,h a DZ,ih λb hb=>h b (by simp[hb])]
def xu(c:Int)(d:zn):List Stop:=d.flatten.filter λs=>decide (s.c=c)
theorem Zd1{α:Type}{l m:List α}(h:l.Perm m)(h1:m.length<=1):l=m:=by
 match m,h1 with
 | [],_=>exact List.Perm.eq_nil h
 | [a],_=>exact List.perm_singleton.1 h
theorem Za6(c:Int):∀(p:zA) (k:Nat),yf c (told k p)=(List.range p.length).flatMap λi=>(xu c (p.getD i [])).map λs=>(⟨((k+i:Nat):Int),s.q⟩:Visit)
 | [],_=>rfl
 | d :: p,k=>by
  have ih:=Za6 c p (k+1);simp only[told,QA,ih,Ad,Cv,Ax,List.flatMap_map];congr 1
  ·simp[yf,xu,DK,Function.comp_def]
  ·refine Zd0 λi _=>?_
   simp[Nat.add_assoc,Nat.add_comm 1 i]
def Za7(c:Int)(q p:zA):Prop:=∀k,xu c (q.getD k [])=xu c (p.getD k [])
def Zd2(c:Int)(p:zA):Prop:=∀k,(xu c (p.getD k [])).length<=1
theorem ZjW{c:Int}{q p:zA}(hl:q.length=p.length)(h:Za7 c q p):yf c (told 0 q)=yf c (told 0 p):=by
 rw[Za6,Za6,hl];refine Zd0 λi _=>?_
 rw[h i]
theorem ZjX{x:Inst}{q p:zA}{i:Nat}(hl:q.length=p.length)(h:Za7 i q p):xQ x q i=xQ x p i:=by
 unfold xQ;rw[ZjW hl h]
theorem Zvd{c:Int}{d e:zn}(h:d.flatten.Perm e.flatten):(xu c d).Perm (xu c e):=h.filter _
theorem ZjY{c:Int}:∀{l:List Stop},(l.map (·.c)).Nodup->(l.filter λs=>decide (s.c=c)).length<=1
 | [],_=>by simp
 | s :: l,h=>by
  rw[Az,Cq]at h;have ih:=ZjY (c:=c) h.2;rw[BN];split
  ·rename_i hs;have hs':s.c=c:=by simpa using hs
   have:(l.filter λs=>decide (s.c=c))=[]:=by
    rw[A8];intro u hu;simp only[decide_eq_true_eq];intro e;exact h.1 (by rw[hs',<-e];exact Cu hu)
   rw[this];simp
  ·exact ih
theorem ZjZ{x:Inst}{p:zA}(h:∀d∈p,yr x d=0)(c:Int):Zd2 c p:=by
 intro k
 by_cases hk:k<p.length
 ·have:p.getD k []∈p:=by rw[Aa,Ae hk];exact A6 hk
  exact ZjY ((vn x _).1 (h _ this)).2.1
 ·have:p.getD k []=[]:=by rw[Aa,Ak DY];rfl
  rw[this];simp[xu]
theorem Zve(i c:Int)(d:zn):xu i (jP c d)=if i=c then [] else xu i d:=by
 unfold xu;rw[ZiG,List.filter_filter];split
 ·rename_i e;rw[A8];intro s _;simp only[Aw,decide_eq_true_eq];omega
 ·rename_i e;refine CO λs _=>?_
  by_cases h:s.c=i
  ·have:s.c≠c:=DY
   simp[h,this];omega
  ·simp[h]
theorem Zvf(c:Int)(p:zA)(k:Nat):(Zi c p).getD k []=jP c (p.getD k []):=by
 unfold Zi;rw[Aa,Aa,Aj];cases p[k]?<;>rfl
theorem Za8(i:Int):∀(cs:List Nat) (p:zA),(xq cs p).length=p.length/\∀k,xu i ((xq cs p).getD k [])=if (∃c∈cs,i=(c:Int)) then [] else xu i (p.getD k [])
 | [],p=>⟨rfl,λk=>by simp[xq]⟩
 | c :: cs,p=>by
  obtain⟨h1,h2⟩:=Za8 i cs (Zi c p);have e:xq (c :: cs) p=xq cs (Zi c p):=rfl;rw[e];refine⟨by rw[h1];simp[Zi],λk=>?_⟩;rw[h2 k,Zvf,Zve]
  by_cases hc:i=(c:Int)
  ·rw[if_pos hc,if_pos (⟨c,by simp,hc⟩:∃c'∈c :: cs,i=(c':Int))];split<;>rfl
  ·rw[if_neg hc]
   by_cases hq:∃c∈cs,i=(c:Int)
   ·obtain⟨a,ha,hb⟩:=hq;rw[if_pos ⟨a,ha,hb⟩,if_pos (⟨a,by simp[ha],hb⟩:∃c'∈c :: cs,i=(c':Int))]
   ·rw[if_neg hq,if_neg (by rintro⟨a,ha,hb⟩;exact(As.1 ha).elim (λe=>hc (e ▸ hb)) (λha=>hq ⟨a,ha,hb⟩))]
theorem Zj0{x:Inst}{c:Nat}:∀(v:List Visit) (p:zA),(∀w∈v,w.d.toNat<p.length)->(v.foldl (xU x c) (p,true)).2=true ->
  (v.foldl (xU x c) (p,true)).1.length=p.length/\∀k,((v.foldl (xU x c) (p,true)).1.getD k []).flatten.Perm (((v.filter λw=>decide (w.d.toNat=k)).map λw=>(⟨c,w.q⟩:Stop))++(p.getD k []).flatten)
 | [],p,_,_=>⟨rfl,λk=>by simp⟩
 | w :: v,p,hd,h=>by
  have hw:=hd w DZ;rw[A4]at h ⊢
  by_cases hi:(yL x (p.getD w.d.toNat []) ⟨c,w.q⟩).2=true
  ·have e:xU x c (p,true) w=(p.set w.d.toNat (yL x (p.getD w.d.toNat []) ⟨c,w.q⟩).1,true):=by
    unfold xU;rw[if_pos rfl,if_pos hi]
   rw[e]at h ⊢;obtain⟨g1,g2⟩:=Zj0 v _ (λu hu=>by rw[Bt];exact hd u (by simp[hu])) h;refine⟨by rw[g1,Bt],λk=>(g2 k).trans ?_⟩;have hp:=Zae hi
   by_cases hk:k=w.d.toNat
   ·subst hk;have e1:(p.set w.d.toNat (yL x (p.getD w.d.toNat []) ⟨c,w.q⟩).1).getD w.d.toNat []=(yL x (p.getD w.d.toNat []) ⟨c,w.q⟩).1:=by
     rw[Aa,AT hw];rfl
    rw[e1,BN,if_pos DZ,Az];exact(List.Perm.append_left _ hp).trans Dz
   ·have e1:(p.set w.d.toNat (yL x (p.getD w.d.toNat []) ⟨c,w.q⟩).1).getD k []=p.getD k []:=by
     rw[Aa,AU (λe=>hk e.symm),Aa]
    rw[e1,BN,if_neg (by simp only[decide_eq_true_eq];exact λe=>hk e.symm)]
  ·have e:xU x c (p,true) w=([],false):=by
    unfold xU;rw[if_pos rfl,if_neg hi]
   rw[e,ZaW]at h;cases h
theorem Zj1{v:List Visit}(hr:xS v)(h0:∀w∈v,0<=w.d):∀m:Nat,(List.range m).flatMap (λk=>v.filter λw=>decide (w.d=((k:Nat):Int)))=v.filter λw=>decide (w.d<(m:Int))
 | 0=>by
  symm;simp only[List.range_zero,B9];rw[A8];intro w hw;have:=h0 w hw;simp;omega
 | m+1=>by rw[AH,Ap,Zj1 hr h0 m,Zdw v hr m];simp
theorem Zvg{x:Inst}{n:Nat}{q:zA}{c:Nat}{cc:Cust}(h:InstA x n)(hq:q.length=n)(hc:x.cust[c]?=some cc)(hst:cc.start<=cc.size)(h0:∀k,xu c (q.getD k [])=[])(ht:(jJ x n q c).2=true):
  (jJ x n q c).1.length=n/\(∀i:Nat,i≠c->∀k,(xu i ((jJ x n q c).1.getD k [])).Perm (xu i (q.getD k [])))/\Zd2 c (jJ x n q c).1/\SuitsP cc n x.cap (yf c (told 0 (jJ x n q c).1)):=by
 have hcm:=Ab hc;have hg:x.cust.getD c default=cc:=by rw[Aa,hc];rfl
 unfold jJ at ht ⊢;rw[hg]at ht ⊢;generalize q.map (wS x (vx x c))=pr at *;split at ht
 ·rename_i hs;rw[if_pos hs];obtain⟨s1,s2⟩:=ZiY (h.made cc hcm) hst h.n60 x.cap pr hs;have hgv:=WR (h.made cc hcm) h.n60 x.cap pr hs;generalize (qa n x.cap cc pr).1=v at *;obtain⟨p1,p2⟩:=Zj0 v q (λw hw=>by have:=(hgv.ok w hw).1;rw[hq];omega) ht;generalize (v.foldl (xU x c) (q,true)).1=r at *;have hfd:∀k:Nat,(v.filter λw=>decide (w.d.toNat=k))=v.filter λw=>decide (w.d=(k:Int)):=λk =>
   CO λw hw=>by have:=(hgv.ok w hw).1;rw[decide_eq_decide];omega
  have hat:∀k,xu c (r.getD k [])=(v.filter λw=>decide (w.d=(k:Int))).map λw=>(⟨c,w.q⟩:Stop):=by
   intro k;have a1:=(p2 k).filter (λs=>decide (s.c=(c:Int)));rw[Bu]at a1;have a2:(((v.filter λw=>decide (w.d.toNat=k)).map λw=>(⟨c,w.q⟩:Stop)).filter λs=>decide (s.c=(c:Int)))=(v.filter λw=>decide (w.d.toNat=k)).map λw=>(⟨c,w.q⟩:Stop):=by
    rw[Ci];intro s hs;obtain⟨w,_,rfl⟩:=Am.1 hs;simp
   have a3:((q.getD k []).flatten.filter λs=>decide (s.c=(c:Int)))=[]:=h0 k;rw[a2,a3,AC,hfd k]at a1;refine Zd1 a1 ?_;rw[List.length_map];rcases ZaM s2 k with e | ⟨w,_,e⟩<;>rw[e]<;>simp
  refine⟨by rw[p1,hq],λi hi k=>?_,λk=>?_,?_⟩
  ·have a1:=(p2 k).filter (λs=>decide (s.c=(i:Int)));rw[Bu]at a1;have a2:(((v.filter λw=>decide (w.d.toNat=k)).map λw=>(⟨c,w.q⟩:Stop)).filter λs=>decide (s.c=(i:Int)))=[]:=by
    rw[A8];intro s hs;obtain⟨w,_,rfl⟩:=Am.1 hs;simp;omega
   rw[a2,AK]at a1;exact a1
  ·rw[hat k,List.length_map];rcases ZaM s2 k with e | ⟨w,_,e⟩<;>rw[e]<;>simp
  ·have:yf c (told 0 r)=v:=by
    rw[Za6,p1,hq];have e1:((List.range n).flatMap λi=>(xu (c:Int) (r.getD i [])).map λs=>(⟨((0+i:Nat):Int),s.q⟩:Visit))=(List.range n).flatMap λk=>v.filter λw=>decide (w.d=((k:Nat):Int)):=by
     refine Zd0 λk _=>?_
     rw[hat k,BL];refine(AN λw hw=>?_).trans (List.map_id _);have:=(A7.1 hw).2;simp only[decide_eq_true_eq]at this
     show (⟨((0+k:Nat):Int),w.q⟩:Visit)=w
     rw[AQ,<-this]
    rw[e1,Zj1 s2 (λw hw=>(hgv.ok w hw).1.1) n,Ci];intro w hw;simpa using (hgv.ok w hw).1.2
   rw[this];exact s1
 ·cases ht
theorem Zj2{x:Inst}{n:Nat}(h:InstA x n)(hst:∀c∈x.cust,c.start<=c.size):∀(cs:List Nat) (q:zA),q.length=n->cs.Nodup->(∀c∈cs,c<x.cust.length)->(∀c∈cs,∀k,xu (c:Int) (q.getD k [])=[])->(j6 x n cs q).2=true ->
  (j6 x n cs q).1.length=n/\(∀i:Nat,i ∉ cs->Zd2 i q->Za7 i (j6 x n cs q).1 q)/\∀c∈cs,∀cc,x.cust[c]?=some cc->SuitsP cc n x.cap (yf c (told 0 (j6 x n cs q).1))
 | [],q,hq,_,_,_,_=>⟨hq,λi _ _ k=>rfl,λc hc=>by cases hc⟩
 | c :: cs,q,hq,hnd,hlt,h0,ht=>by
  rw[Cq]at hnd;have e:j6 x n (c :: cs) q=cs.foldl (XP x n) (jJ x n q c):=rfl;rw[e]at ht ⊢;obtain⟨q1,b1,hz⟩:∃q1 b1,jJ x n q c=(q1,b1):=⟨_,_,rfl⟩;cases b1 with
  | false=>rw[hz,ZaX]at ht;cases ht
  | true =>
   have hcl:=hlt c DZ;have hcc:=Ae hcl;obtain⟨g1,g2,g3,g4⟩:=Zvg h hq hcc (hst _ (A6 hcl)) (h0 c DZ) (by rw[hz]);rw[hz]at g1 g2 g3 g4 ht ⊢;change q1.length=n at g1;obtain⟨i1,i2,i3⟩:=Zj2 h hst cs q1 g1 hnd.2 (λd hd=>hlt d (by simp[hd])) (λd hd k=>by
    have:=g2 d (λe=>hnd.1 (e ▸ hd)) k;rw[h0 d (by simp[hd]) k]at this;exact List.Perm.eq_nil this) ht
   refine⟨i1,λi hi ho=>?_,λd hd cc hdc=>?_⟩
   ·rw[As,not_or]at hi;have s1:Za7 i q1 q:=λk=>Zd1 (g2 i hi.1 k) (ho k)
    have s2:=i2 i hi.2 (λk=>by rw[s1 k];exact ho k);exact λk=>(s2 k).trans (s1 k)
   ·rcases As.1 hd with rfl | hd
    ·rw[hcc]at hdc;cases hdc;have s2:=i2 d hnd.1 g3;have hvs:=ZjW (c:=d) (q:=(j6 x n cs q1).1) (p:=q1) (by rw[i1,g1]) s2
     show SuitsP _ n x.cap (yf d (told 0 (j6 x n cs q1).1))
     rw[hvs];exact g4
    ·exact i3 d hd cc hdc
theorem Zj3{x:Inst}{n:Nat}{p:zA}{i:Nat}{c:Cust}(h:InstA x n)(hk:Zi2 c)(hc:x.cust[i]?=some c)(hs:SuitsP c n x.cap (yf i (told 0 p))):xQ x p i=0:=by
 have hcm:=Ab hc;unfold xQ;rw[hc];simp only;rcases hk with ⟨k1,k2⟩ | ⟨k1,k2⟩
 ·rw[if_neg DY];obtain⟨p,hp,e⟩:=hs.per k1;rw[e];exact Ztc hp ((h.made _ hcm).pats p hp)
 ·rw[if_pos k1,h.days];exact(hs.tank DY).2
structure InstK (x:Inst) (n:Nat):Prop where
 a:InstA x n
 kind:∀c∈x.cust,Zi2 c
 start:∀c∈x.cust,c.start<=c.size
def QV(x:Inst)(p:zA):Prop:=∀i,i<x.cust.length->xQ x p i=0
theorem Zj4{x:Inst}{n:Nat}{p:zA}(hK:InstK x n)(h:PlanG x n p)(hS:QV x p)(cs:List Nat)(hn:cs.Nodup)(hcs:∀c∈cs,c<x.cust.length):QV x (xV x n p cs).1:=by
 unfold xV;split
 ·rename_i h1;split
  ·intro i hi;have w0:=(Za8 0 cs p).1;obtain⟨g1,g2,g3⟩:=Zj2 hK.a hK.start cs (xq cs p) (by rw[w0];exact h.len) hn hcs (λc hc k=>by
    rw[(Za8 c cs p).2 k,if_pos ⟨c,hc,rfl⟩]) h1
   by_cases hic:i∈cs
   ·have hcc:=Ae hi;exact Zj3 hK.a (hK.kind _ (A6 hi)) hcc (g3 i hic _ hcc)
   ·have w1:∀k,xu (i:Int) ((xq cs p).getD k [])=xu i (p.getD k []):=λk=>by
     rw[(Za8 i cs p).2 k,if_neg];rintro⟨c,hc,e⟩;exact hic (by rw[show i=c by omega];exact hc)
    have s1:=g2 i hic (λk=>by rw[w1 k];exact ZjZ h.may i k)
    show xQ x (j6 x n cs (xq cs p)).1 i=0
    rw[ZjX (p:=p) (by rw[g1,h.len]) λk=>(s1 k).trans (w1 k)];exact hS i hi
  ·exact hS
 ·exact hS
theorem Zvh{x:Inst}{n:Nat}{p:zA}(h:PlanG x n p)(hS:QV x p)(d:Nat)(b:Int):QV x (wV x p d b).1:=by
 unfold wV;split
 ·exact hS
 ·split
  ·exact hS
  ·rename_i h1 h2;have hlt:(d:Int).toNat<p.length:=DY
   have hm:p.getD (d:Int).toNat []∈p:=by rw[Aa,Ae hlt];exact A6 hlt
   obtain⟨-,hp,-⟩:=ZdP (by have:=h.six;omega) h.a.h (h.may _ hm) b;intro i hi
   show xQ x (p.set _ _) i=0
   rw[ZjX (p:=p) (by rw[Bt]) ?_]
   ·exact hS i hi
   ·intro k
    by_cases hk:k=(d:Int).toNat
    ·rw[hk];have e1:(p.set (d:Int).toNat (wg x b (p.getD (d:Int).toNat []))).getD (d:Int).toNat []=wg x b (p.getD (d:Int).toNat []):=by
      rw[Aa,AT hlt];rfl
     rw[e1];exact Zd1 (Zvd hp) (ZjZ h.may i _)
    ·rw[Aa,AU (λe=>hk e.symm),Aa]
theorem Zvi{x:Inst}{n:Nat}{p:zA}(hK:InstK x n)(h:PlanG x n p)(hS:QV x p)(s b:Int):QV x (ZP x n p s b):=by
 unfold ZP;split
 ·exact hS
 ·rename_i h0;have ha:=YZ s (n:=x.cust.length) DY;have ho:=YZ (yK s) (n:=x.cust.length) DY;have g1:=(ZaY h [jA s x.cust.length] DZ (by simpa using ha)).1;have s1:=Zj4 hK h hS [jA s x.cust.length] DZ (by simpa using ha);have g2:=(ZdR g1 _ _ ha ho).1;refine Zvh g2 ?_ _ _;unfold uV;split
  ·exact s1
  ·rename_i hne;exact Zj4 hK g1 s1 _ (by simpa using hne) (by simpa using ⟨ha,ho⟩)
theorem Zj5{x:Inst}{n:Nat}{p:zA}(hK:InstK x n)(h:PlanG x n p)(hS:QV x p)(b s:Int):∀k,QV x (xW x n b p s k).1
 | 0=>hS
 | k+1=>Zvi hK (ZaZ h b s k) (Zj5 hK h hS b s k) _ _
open Go Go.Proofs Hp
structure MayP (x:Inst):Prop where
 days:1<=x.days/\x.days<=64
 cust:x.cust.length<=2000
 veh:0<=x.veh/\x.veh<=2147483648
 cap:0<=x.cap/\x.cap<=2147483648
 len:0<=x.len/\x.len<=2147483648
 custs:∀c∈x.cust,xP c x.days=true
 dist:ZE x.dist (x.cust.length+1)=true
theorem Za9{x:Inst}(h:qZ x=true):MayP x:=by
 unfold qZ at h;simp only[Aw,AA,decide_eq_true_eq,yA]at h;obtain⟨⟨⟨⟨⟨⟨h1,h2⟩,h3⟩,h4⟩,h5⟩,h6⟩,h7⟩:=h;exact⟨h1,h2,h3,h4,h5,h6,h7⟩
def Zvj(c:Cust)(d:Int):Prop:=c.kind=1/\(1<=c.demand/\c.demand<=2147483648)/\(∀p∈c.pats,Yd p d<0)/\(1<=c.pats.length/\c.pats.length<=64)/\c.rate=0/\c.size=0/\c.start=0/\c.rule=0/\c.hold=0
def Zvk(c:Cust):Prop:=c.kind=2/\(0<=c.rate/\c.rate<=2147483648)/\(1<=c.size/\c.size<=2147483648)/\(0<=c.start/\c.start<=c.size)/\(c.rule=1\/c.rule=2)/\(0<=c.hold/\c.hold<=1024)/\c.pats=[]/\c.demand=0
theorem Zd3{c:Cust}{d:Int}(h:xP c d=true):Zvj c d\/Zvk c:=by
 unfold xP at h;split at h
 ·rename_i hk;simp only[Aw,yA,decide_eq_true_eq,Zd,ZC,AA]at h;obtain⟨⟨h1,h2,h3⟩,h4⟩:=h;exact .inl ⟨hk,h1,h2,by omega,h4⟩
 ·split at h
  ·rename_i hk;simp only[Aw,yA,decide_eq_true_eq,QF,YP]at h;obtain⟨⟨⟨⟨⟨h1,h2⟩,h3⟩,h4⟩,h5⟩,h6,h7⟩:=h;exact .inr ⟨hk,h1,h2,h3,h4,h5,Av h6,h7⟩
  ·cases h
theorem Zj6{p n:Nat}(h:Yd p n<0):∀d∈yx p 0 64,d<n:=by
 have h0:yx p (n:Int).toNat 64=[]:=by
  unfold Yd at h;cases e:yx p (n:Int).toNat 64 with
  | nil=>rfl
  | cons a l =>
   rw[e]at h;obtain⟨k,rfl,-⟩:=QH (p:=p) (a:=(n:Int).toNat) (k:=64) (d:=a) (by rw[e];simp);simp only[List.headD_cons]at h;omega
 grind[Zhr,List.filter_eq_nil_iff]
theorem Zvl{p n:Nat}(hp:p<2 ^ 64)(h:∀d∈yx p 0 64,d<(n:Int)):p<2 ^ n:=by
 apply Nat.lt_pow_two_of_testBit;intro i hi
 by_cases h64:i<64
 ·rw[WH,decide_eq_false_iff_not];intro hb;have:(i:Int)∈yx p 0 64:=by
   simp only[yx,Am,A7,AL,Aw,decide_eq_true_eq];exact⟨i,⟨h64,by omega,hb⟩,rfl⟩
  grind
 ·exact Cw (Bm hp (Cd D4 DY))
theorem Zj7(n:Nat):∀(l:List (List Int)) (a:Nat),ZD n a l=true->∀r∈l,r.length=n/\∀z∈r,0<=z/\z<=2147483648
 | [],_,_=>by simp
 | row :: l,a,h=>by
  simp only[ZD,Aw,decide_eq_true_eq,AA,yA]at h;obtain⟨⟨⟨h1,h2⟩,h3⟩,h4⟩:=h;intro r hr;rcases As.1 hr with rfl | hr
  ·simp_all
  ·exact Zj7 n l (a+1) h4 r hr
theorem Zd4{x:Inst}(h:ZE x.dist (x.cust.length+1)=true):x.dist.length=x.cust.length+1/\(∀r∈x.dist,r.length=x.cust.length+1/\∀z∈r,0<=z/\z<=2147483648)/\qX x/\arc x 0 0=0:=by
 unfold ZE at h;simp only[Aw,decide_eq_true_eq]at h;have hr:=Zj7 _ _ _ h.2;refine⟨h.1,hr,λa b=>?_,?_⟩
 ·unfold arc;split
  ·omega
  ·rw[Aa,Aa];cases e:x.dist[a.toNat]? with
   | none=>simp
   | some r =>
    rw[Option.getD_some];cases e2:r[b.toNat]? with
    | none=>simp
    | some z=>exact(hr r (Ab e)).2 z (Ab e2)
 ·obtain⟨h1,h2⟩:=h;cases e:x.dist<;>simp_all[ZD,arc]
structure InstQ (x:Inst) (n:Nat):Prop where
 k:InstK x n
 m:qZ x=true
 t:InstT x n
 six:x.cust.length<=6
 n7:n<=7
theorem Zvm{x:Inst}{n:Nat}(h:qZ x=true)(hp:∀c∈x.cust,∀p∈c.pats,p<2 ^ 64)(hn:x.days=n)(h7:n<=7)(h6:x.cust.length<=6):InstQ x n:=by
 have hm:=Za9 h;obtain⟨d1,d2,d3,d4⟩:=Zd4 hm.dist;have hc:=λc hc=>Zd3 (hm.custs c hc)
 rw[hn]at hc;have hmade:∀c∈x.cust,CustMade c n:=λc hcm=>by
  rcases hc c hcm with ⟨k,a,b,l,r1,r2,r3,r4,r5⟩ | ⟨k,r,s,t,ru,ho,e,dm⟩
  ·exact⟨⟨by omega,by omega,by omega⟩,hp c hcm,by omega,λ_=>⟨λp hpm=>Zj6 (b p hpm),by omega,by omega⟩⟩
  ·exact⟨⟨by omega,by omega,by omega⟩,hp c hcm,by rw[e];simp,λh=>by omega⟩
 have nm:∀z:Int,0<=z->z<=2147483648->ZL z:=λz a b=>⟨a,by omega⟩
 refine⟨⟨⟨⟨by omega,d4,d3,hm.veh.1⟩,hn,by omega,hmade,λc hcm=>?_⟩,λc hcm=>?_,λc hcm=>?_⟩,h,⟨hn,by have:=hm.days;omega,by omega,⟨nm _ hm.veh.1 hm.veh.2,nm _ hm.cap.1 hm.cap.2,nm _ hm.len.1 hm.len.2⟩,by omega,λc hcm=>?_,d1,λr hr=>⟨(d2 r hr).1,λz hz=>nm z ((d2 r hr).2 z hz).1 ((d2 r hr).2 z hz).2⟩⟩,h6,h7⟩
 ·rcases hc c hcm with ⟨k,a,b,l,r1,r2,r3,r4,r5⟩ | ⟨k,r,s,t,ru,ho,e,dm⟩<;>grind
 ·rcases hc c hcm with ⟨k,a,b,l,r1,r2,r3,r4,r5⟩ | ⟨k,r,s,t,ru,ho,e,dm⟩
  ·exact .inl ⟨k,r4⟩
  ·exact .inr ⟨k,ru⟩
 ·rcases hc c hcm with ⟨k,a,b,l,r1,r2,r3,r4,r5⟩ | ⟨k,r,s,t,ru,ho,e,dm⟩<;>omega
 ·rcases hc c hcm with ⟨k,a,b,l,r1,r2,r3,r4,r5⟩ | ⟨k,r,s,t,ru,ho,e,dm⟩
  ·exact⟨.inl ⟨k,nm _ DY DY,λp hpm=>Zvl (hp c hcm p hpm) (Zj6 (b p hpm)),r1,r2,r3,r4,r5⟩⟩
  ·exact⟨.inr ⟨k,dm,e,nm _ DY DY,nm _ DY DY,nm _ DY DY,ru,nm _ DY DY⟩⟩
theorem Zvn(x:Inst):∀c∈(yG x).cust,∀p∈c.pats,p<2 ^ 64:=λc hc=>((ZsP x).made c hc).pats
theorem Zvo(x:Inst){n:Nat}(hn:(yG x).days=n):InstQ (yG x) n:=Zvm (Zta x) (Zvn x) hn (by have:=WL x;omega) (Zcl x)
theorem Zj8{x:Inst}{n:Nat}(h:InstQ x n)(b:Int)(h0:(jx x b).2=0):Ze x (jx x b).1=0/\PlanG x n (jx x b).1:=by
 have hA:=h.k.a;obtain⟨v,pr,hv,hp,e,hd,hc⟩:=Zs7 hA h0;have hsz:=ZsR hA.h hv b;have hpl:=Zaw x v b n;have hdt:∀d∈(jx x b).1,yr x d=0:=by
  rw[e];intro d hd';obtain⟨r,hr,rfl⟩:=Am.1 hd';obtain⟨k,hk,rfl⟩:=Am.1 hr;exact(Zhf (Zav hA.h hv k) hA.h.diag b (hd k (AL.1 hk))).2.1
 refine⟨ZiE h.m (by rw[e,hpl,hA.days]) hdt ?_,⟨hA,h.six,by rw[e,hpl],hdt⟩⟩;intro i hi;have hic:=Ae hi;obtain⟨q1,q2⟩:=hc i _ hic;have hcm:=Ab hic;obtain⟨s1,s2⟩:=ZiY (hA.made _ hcm) (h.k.start _ hcm) hA.n60 x.cap _ q2;refine Zj3 hA (h.k.kind _ hcm) hic ?_
 grind[Zs8]
theorem Zj9{x:Inst}{n:Nat}(h:InstQ x n)(seed:Int)(r:Nat)(b:Int)(h0:(Y0 x n seed r b).2=0):PlanG x n (Y0 x n seed r b).1/\Ze x (Y0 x n seed r b).1=0:=by
 unfold Y0 at h0 ⊢;split at h0
 ·rename_i hs;rw[if_pos hs];obtain⟨g1,g2⟩:=Zj8 h b hs;have hp:=ZsS g1;have g3:=ZaZ g2 b (IntKind.u64.wrap seed) r;refine⟨g3,ZiE h.m (by rw[g3.len,h.k.a.days]) g3.may (Zj5 h.k g2 hp.2.2.2 b _ r)⟩
 omega
open Go Go.Proofs
theorem QW(a:Int):zM (W a):=by
 show -9223372036854775808<=IntKind.i64.wrap a/\IntKind.i64.wrap a<=9223372036854775807
 rw[AG];omega
def W4(x:Inst):Int:=uc (λk=>W ((ud x).getD k 0*ZQ (x.cust.getD k default) x.days x.cap)) x.cust.length
theorem Zvp(x:Inst)(hn:x.cust.length<=1048576)(hp:∀c∈x.cust,c.pats.length<=1048576):Pure prog 127 [.agg (zy x)] (I (W4 x)):=by
 have hch:=Zu3 x hn;have hAl:(ud x).length=x.cust.length:=by simp[ud]
 obtain⟨f,hf⟩:∃f:Nat->Int,f=λk=>W ((ud x).getD k 0*ZQ (x.cust.getD k default) x.days x.cap):=⟨_,rfl⟩
 have hbz:W4 x=uc f x.cust.length:=by rw[hf];rfl
 have hf64:∀k,zM (f k):=λk=>by rw[hf];exact QW _
 rw[hbz];refine zr func127 ntmps127 results127 λS nx hd=>?_
 refine D7 ?_;intro v0;refine D7 ?_;intro v1;refine D7 ?_;refine zt hch ?_;have hsum:=ZdU (S:=ext S nx [.cells v0 25 (zy x),.cells v1 182 (Zj x yu yu (L (ud x)))]) x 172 [.ptr (nx+1) v1 0] f hn hf64 (λk hk T hT=>by
  have hc:x.cust[k]?=some (x.cust.getD k default):=by rw[Aa,Ae hk];rfl
  have ha:(ud x)[k]?=some ((ud x).getD k 0):=by rw[Aa,Ae DY];rfl
  have:=ZuX (S:=T) (id:=nx+1) (ver:=v1) x yu yu (ud x) k (by rw[hT _ (by rw[zZ];simp),zZ];rfl) hn hc (hp _ (Ab hc)) ha;rw[hf];exact this)
 refine D7 ?_;refine λhsuf=>(hsum.mono ?_).v
 rintro _ _ ⟨rfl,rfl⟩;refine⟨_,_,rfl,zL hsuf ?_⟩;exact D8 hd
def Y7(x:Inst):Nat->Int
 | 0=>0
 | k+1=>jm (Y7 x k) (ZQ (x.cust.getD k default) x.days x.cap)
def Zba(x:Inst):Int:=uc (λk=>ZR (x.cust.getD k default) x.days x.cap) x.cust.length
def Y8(x:Inst):Int:=if 0<x.cap then jm (Y7 x x.cust.length) (XT (Zba x) x.cap) else Y7 x x.cust.length
theorem Zvq(x:Inst)(hn:x.cust.length<=1048576)(hp:∀c∈x.cust,c.pats.length<=1048576)(h64:∀k,zM (ZR (x.cust.getD k default) x.days x.cap)):Pure prog 122 [.agg (zy x)] (I (Y8 x)):=by
 have hat:∀k,k<x.cust.length->x.cust[k]?=some (x.cust.getD k default):=λk hk=>by rw[Aa,Ae hk];rfl
 refine zr func122 ntmps122 results122 λS nx hd=>?_
 refine D7 ?_;intro v0;refine D7 ?_;intro v1;refine D7 ?_
 repeat apply za
 refine zb ?_;refine zj (zC (λs:Nat × Nat × Nat=>s.1<=x.cust.length) (λ(k,v,w)=>[(1,.ptr nx v 0),(3,.ptr (nx+1) w 0),(4,I (Y7 x k)),(13,I x.cust.length),(14,I k)]) (λ(k,v,w)=>[.cells v 25 (zy x),.cells w 182 (Zj x yu yu yu)]) (λs=>x.cust.length-s.1) (0,v0,v1) [] DZ (by simp[Y7]) DZ ?_);rintro⟨k,v,w⟩ hk;simp only at hk ⊢;refine D7 ?_;refine za (zv rfl (λhc=>?_) (λhc=>?_))
 ·simp at hc;refine zh (za (zj (D7 ?_)));refine zb ?_;refine λhsuf=>((ZdV x yu yu yu k (by rw[zZ];rfl) hn (hat k hc) (hp _ (Ab (hat k hc)))).mono ?_).v
  rintro _ _ ⟨rfl,rfl⟩;refine⟨_,_,rfl,zL hsuf ?_⟩;refine zb ?_;exact zq (k+1,v,w) [] hc D2 (by simp[zu k (by omega),Y7]) rfl DZ
 ·simp at hc;obtain rfl:k=x.cust.length:=DY
  refine zx ?_
  repeat apply za
  refine zb ?_;have hsum:=λv w=>ZdU (S:=ext S nx [.cells v 25 (zy x),.cells w 182 (Zj x yu yu yu)]) x 166 [.ptr (nx+1) w 0] (λk=>ZR (x.cust.getD k default) x.days x.cap) hn h64 (λk hk T hT =>
   ZuY (S:=T) (id:=nx+1) (ver:=w) x yu yu yu k (by rw[hT _ (by rw[zZ];simp),zZ];rfl) hn (hat k hk) (hp _ (Ab (hat k hk))))
  have hsv:=hsum v w;rw[show uc (λk=>ZR (x.cust.getD k default) x.days x.cap) x.cust.length=Zba x from rfl]at hsv;have hres:Y8 x=if 0<x.cap then jm (Y7 x x.cust.length) (XT (Zba x) x.cap) else Y7 x x.cust.length:=rfl
  generalize Y8 x=res at *;generalize Y7 x x.cust.length=mo at *;generalize Zba x=ne at *
  by_cases hcap:0<x.cap
  ·rw[if_pos hcap]at hres;have hceil:=ZjM ne x.cap hcap;refine zm (by simp[hcap]) ?_;refine za (zz (some [nx]) (Row.pures [0,1,2,4,5] (.alt 3 (Row.pures [6,7,8,9,10,11] .done) .stop)) mixed trivial ?_);refine(hsv.mono ?_).v;rintro _ _ ⟨rfl,rfl⟩;refine⟨by simp[yM],jD trivial ?_⟩;refine zG (hceil) trivial ?_;refine zb ?_;refine D7 ?_;exact zg (zi hd D0 (by rw[hres];rfl))
  ·rw[if_neg hcap]at hres;refine zk D2 ?_;refine zh (D7 ?_);exact zg (zi hd D0 (by rw[hres];rfl))
open Go Go.Proofs
theorem Zka{α:Type}(l:List α)(a q i:Nat)(h:a+q<=l.length):(l.take a++(l.take q++l.drop (a+q)))[i]?=l[if i<a then i else if i<a+q then i-a else i]?:=by
 by_cases h1:i<a
 ·grind
 ·rw[if_neg h1,Al D2,Ay,Bk DY]
  grind
theorem Zvr{P:Program}{n:Nat}{F:Nat->PV}{S:Store}{o:Oper}{s x:Operand}{t e m k0 off id ver et:Nat}{cs:List PV}{K:PV->Store->Prop}(ho:o.op=.call { callee:=.builtin .copy,args:=#[s,x],argTypes:=#[t,t] })(ht:P.underlying t=some (.slice e))(hz:(P.info? e).map (·.size)=some 1)
  (hs:ev F s=.sl id ver 1 off m) (hx:ev F x=.sl id ver 1 0 k0) (hid:S id=.cells ver et cs) (hm:off+m=cs.length) (hm0:0<m) (hk:k0<=cs.length) (hk0:0<k0)
  (hK:K (I (min k0 m:Nat)) (S.set id (.cells ver et (cs.take off++(cs.take (min k0 m)++cs.drop (off+min k0 m)))))):PO P wK n o F S K:=by
 intro G hG C w a N st next Q' hnext;have e1:=st.ev s;rw[(hG s (by grind[Op.operands,Call.operands])).trans hs]at e1;have e2:=st.ev x;rw[(hG x (by grind[Op.operands,Call.operands])).trans hx]at e2;have hnd:∀c,o.op≠.defer c:=by intro c hc;rw[ho]at hc;cases hc
 generalize hv:a.eval s=v at e1;generalize hu:a.eval x=u at e2;cases e1 with
 | sl i1 i2 i3 =>
  rcases (i3 ver (by rw[hid];rfl)).2 rfl with ⟨_,q,_,_⟩ | ⟨b,k,ad,dcap,hl,rfl,_,hq0⟩
  ·omega
  obtain rfl:=hq0 DY;cases e2 with
  | sl j1 j2 j3 =>
   rcases (j3 ver (by rw[hid];rfl)).2 rfl with ⟨_,q,_,_⟩ | ⟨b2,k2,ad2,scap,hl2,rfl,_,hq2⟩
   ·omega
   rw[hl]at hl2;cases hl2;obtain rfl:=hq2 DY;rcases st.sim.cells id ver et cs hid with ⟨hn,_⟩ | ⟨b',k',c,g1,g2,g3,g4,g5,g6⟩
   ·simp_all
   rw[hl]at g1;cases g1;obtain⟨vs,hvs⟩:∃vs,vs=c.toList.take (min k0 m):=⟨_,rfl⟩;have hcs:c.toList.length=c.size:=Array.length_toList;have hvl:vs.length=min k0 m:=by rw[hvs,Ay];omega
   have hat:∀(j:Nat) (v:Value),vs[j]?=some v->j<min k0 m/\c[j]?=some v:=λj v hj=>by
    rw[hvs,BK]at hj;split at hj
    ·rename_i hlt;rw[Array.getElem?_toList]at hj;exact⟨hlt,hj⟩
    ·cases hj
   have hcell:∀j v,vs[j]?=some v->w.cell? ((⟨b,0,none⟩:Addr).add j)=some v:=λj v hj=>by
    obtain⟨q1,q2⟩:=hat j v hj;rw[Addr.add_plain];simp[World.cell?,g2,q2]
   have hone:∀v∈vs,v.oneCell'=true:=λv hv'=>by
    obtain⟨j,hj⟩:=Cc hv';obtain⟨q1,q2⟩:=hat j v hj;exact g5 j v DY q2
   have hrun0:=run_copy_row P w t t o.type e b off m dcap ⟨b,0,none⟩ k0 scap c et vs ht hz g2 (by rw[hvl]) hcell DY hone;have hrun:=W3 (P:=P) (a:=a) (w:=w) ho (by rw[hv,hu];exact hrun0);rw[hvl,List.append_assoc,hvs]at hrun;generalize hw':w.setRow b (c.toList.take off++(c.toList.take (min k0 m)++c.toList.drop (off+min k0 m))).toArray=w' at hrun;have hheap:w'.heap[b]?=some (.cells (c.toList.take off++(c.toList.take (min k0 m)++c.toList.drop (off+min k0 m))).toArray et (0,0)):=by rw[<-hw'];exact setRow_heap w b c _ et _ g2
   have hgr:w.grownBy w' (some b)/\w.drawn<=w'.drawn:=by
    rw[<-hw'];exact⟨⟨rfl,rfl,rfl,by simp,λj hj hne=>setRow_other w b j _ (λe=>hne (by rw[e]))⟩,Ag _⟩
   have hV:=λi=>Zka c.toList off (min k0 m) i DY
   have hP:=λi=>Zka cs off (min k0 m) i DY
   have hVl:(c.toList.take off++(c.toList.take (min k0 m)++c.toList.drop (off+min k0 m))).length=c.size:=D2
   have hPl:(cs.take off++(cs.take (min k0 m)++cs.drop (off+min k0 m))).length=cs.length:=D2
   generalize c.toList.take off++(c.toList.take (min k0 m)++c.toList.drop (off+min k0 m))=V at *;generalize cs.take off++(cs.take (min k0 m)++cs.drop (off+min k0 m))=cs' at *;have hphi:∀i,i<cs.length->(if i<off then i else if i<off+min k0 m then i-off else i)<cs.length:=λi hi=>by split<;>(try split)<;>omega
   obtain⟨t1,t2⟩:=st.sim.turn (l:=C.loc id) (ver':=ver) (cs':=cs') hid (Ag _) (λ_=>rfl) (by rw[hl];exact hgr)
    (.inr ⟨b,k,_,hl,.inr (by rw[hl];rfl),hheap,by simp;omega,by omega,λi z hi hz=>by
      rw[AE,hV i,Array.getElem?_toList]at hz;exact g5 _ z (hphi i DY) hz,
     λi p z hp hz=>by
      rw[AE,hV i,Array.getElem?_toList]at hz;rw[hP i]at hp;exact g6 _ p z hp hz⟩)
   exact qj hnd hrun (hnext _ _ _ _ _ hK (.sc _) t1 t2)
open Go Go.Proofs
theorem Zvs(n:Nat)(hn:n<=1048576):Pure prog 206 [U 1,U n] (.tup [U 0,U n]):=by
 intro S;refine⟨Zl0,λC w us hS hl' hr=>?_⟩;obtain⟨u0,u1,rfl⟩:=Zja hl';have r0:=hr 0 _ u0 rfl rfl;have r1:=hr 1 _ u1 rfl rfl;cases r0;cases r1;have h1:1*n / 18446744073709551616=0:=DY
 have h2:1*n % 18446744073709551616=n:=DY
 have hm:=bits_Mul 1 n DY DY w;rw[h1,h2]at hm;refine hm.mono ?_;rintro _ _ ⟨rfl,rfl⟩;refine⟨_,_,S,C,rfl,⟨rfl,rfl⟩,.tup rfl λj c v h1 h2=>?_,hS,.refl _ _ _⟩
 match j,h1,h2 with
 | 0,h1,h2=>cases h1;cases h2;exact .sc _
 | 1,h1,h2=>cases h1;cases h2;exact .sc _
theorem Zvt(p:Int)(m:Nat):(List.replicate m p).flatMap Enc.enc=List.replicate m (I p):=by
 induction m with
 | zero=>rfl
 | succ m ih=>rw[Bh,Ax,ih];rfl
theorem Zvu(p:Int)(n:Nat)(h1:1<=n)(hn:n<=1000):Pure prog 168 [L [p],I n] (L (List.replicate n p)):=by
 have hmul:=Zvs n DY;have c0:¬(n:Int)<0:=DY
 have w1:IntKind.u64.wrap (n:Int)=n:=by simp only[IntKind.wrap,IntKind.bits,IntKind.signed];simp;omega
 have w2:IntKind.i64.wrap (n:Int)=n:=by rw[AG];omega
 have c1:¬(9223372036854775807:Int)<n:=DY
 refine zr func168 ntmps168 results168 λS nx hd=>?_
 refine D7 ?_
 repeat apply za
 refine ze [] c0 ?_;refine zk DZ ?_;refine zh ?_;have w3:IntKind.u64.wrap 1=1:=D4
 refine za (ze [] (zo w1 w3) ?_);refine zt hmul ?_
 repeat apply za
 refine ze [(2,23)] c1 ?_;refine zk DZ ?_;refine zh (za (ze [] w2 ?_));refine⟨by omega,λv0=>?_⟩;refine D7 ?_;refine λhsuf=>ZdW (id:=nx) (ver:=v0) (e:=3) (l:=[I p]) rfl underlying26 D1 (m:=n) rfl rfl (by rw[Zq];rfl) (by simp[qb]) h1 ?_
 have hrow:List.take n [I p]++List.drop (min [I p].length n) (qb n (.int .i64 0))=List.replicate 1 (I p)++List.replicate (n-1) (I 0):=by
  rw[Af D2];have:min [I p].length n=1:=D2
  have hz:qb n (.int .i64 0)=List.replicate n (I 0):=by
   apply Bd
   ·simp[qb]
   ·intro i q1 q2;simp[qb,Nat.mod_one]
  rw[this,hz,List.drop_replicate];rfl
 have hmin:min [I p].length n=1:=D2
 rw[hrow,hmin];refine⟨_,_,yl _ (Ag _) DZ,zL hsuf ?_⟩;refine za (zj (zC (λm:Nat=>1<=m/\m<=n) (λm=>[(7,.sl nx v0 1 0 n),(8,I m)]) (λm=>[.cells v0 3 (List.replicate m (I p)++List.replicate (n-m) (I 0))]) (λm=>n-m) 1 [] ⟨Ag _,h1⟩ DZ DZ ?_));rintro m ⟨hm1,hmn⟩
 repeat apply za
 refine zb ?_
 by_cases hc:m<n
 ·repeat apply za
  refine zm D2 ?_;refine zh (zj ?_);have hlen:(List.replicate m (I p)++List.replicate (n-m) (I 0):List PV).length=n:=D2
  obtain⟨q,hq⟩:∃q,q=min m (n-m):=⟨_,rfl⟩;have hrow2:(List.replicate m (I p)++List.replicate (n-m) (I 0):List PV).take m++((List.replicate m (I p)++List.replicate (n-m) (I 0):List PV).take q++(List.replicate m (I p)++List.replicate (n-m) (I 0):List PV).drop (m+q))=List.replicate (m+q) (I p)++List.replicate (n-(m+q)) (I 0):=by
   have e1:(List.replicate m (I p)++List.replicate (n-m) (I 0):List PV).take m=List.replicate m (I p):=List.take_left' DZ;have e2:(List.replicate m (I p)++List.replicate (n-m) (I 0):List PV).take q=List.replicate q (I p):=by rw[Bz D2,List.take_replicate,Bk DY]
   have e3:(List.replicate m (I p)++List.replicate (n-m) (I 0):List PV).drop (m+q)=List.replicate (n-(m+q)) (I 0):=by rw[CD,AZ DZ,AK,Cm,List.drop_replicate];congr 1;omega
   rw[e1,e2,e3,<-List.append_assoc,List.replicate_append_replicate]
  have hq1:1<=q:=DY
  have hqn:m+q<=n:=DY
  have wq:IntKind.i64.wrap ((m:Int)+q)=((m+q:Nat):Int):=by rw[AG];omega
  refine zz (some []) (Row.pures [0,1,2,3,4,5,6] (.alt 7 (Row.pures [8,9] .done) .stop)) mixed hmn ?_;refine⟨by rfl,(Zvr (id:=nx) (ver:=v0) (off:=m) (m:=n-m) (k0:=m) (e:=3) rfl underlying26 D1 rfl rfl (by rw[Zq];rfl) (by rw[hlen];omega) DY (by rw[hlen];omega) DY ?_)⟩;rw[<-hq,hrow2,yl _ (Ag _) DZ];refine⟨by simp[yM],jD wq ?_⟩;exact zq (m+q) [] ⟨by omega,hqn⟩ DY DZ rfl DZ
 ·obtain rfl:m=n:=DY
  refine zk DZ ?_;refine zx (zX 0 rfl ?_);rw[Bv,List.replicate_zero,AC];have hfl:=Zvt p m;refine D7 ?_;exact zg (zi hd D0 (by simp[zp,hfl]))
open Go Go.Proofs
def Yr(x:Inst)(n:Nat)(a b:List Int)(k:Nat):Int:=QT n x.cap (x.cust.getD k default) (List.replicate n (W (a.getD (k+1) 0+b.getD (k+1) 0)))
structure BndOk (x:Inst) (n:Nat):Prop where
 days:x.days=n
 n1:1<=n
 n60:n<=60
 ncust:x.cust.length<=1048576
 pats:∀c∈x.cust,c.pats.length<=1000
 made:∀c∈x.cust,CustMade c n
 fits:∀c∈x.cust,CustFits c
 vis:∀c∈x.cust,∀price:List Int,price.length<=1000->(∀z∈price,zM z)->VisOk (qa n x.cap c price).1
theorem Zvv{S:Store}{id ver:Nat}(x:Inst)(n:Nat)(a b:List Int)(ch:PV)(k:Nat)(hx:BndOk x n)(hk:k<x.cust.length)(ha:a.length=x.cust.length+1)(hb:b.length=x.cust.length+1)(hS:S id=.cells ver 182 (Zj x (L a) (L b) ch)):
  Spec prog 125 [.ptr id ver 0,I k] S (λq S'=>q=I (Yr x n a b k)/\S'=S):=by
 have hpr:=Zu0 x a b k hk hx.ncust ha hb;unfold Yr;have hc:x.cust[k]?=some (x.cust.getD k default):=by rw[Aa,Ae hk];rfl
 have hm:=Ab hc;obtain⟨t,tl,b1,b2,b3,f0,f1⟩:=el 8 rfl x.cust k hk;obtain rfl:t=x.cust.getD k default:=by rw[hc]at b1;exact(Option.some.inj b1).symm
 have hp64:=QW (a.getD (k+1) 0+b.getD (k+1) 0);generalize W (a.getD (k+1) 0+b.getD (k+1) 0)=p at *;generalize x.cust.getD k default=c at *;have hrep:=Zvu p n hx.n1 (by have:=hx.n60;omega);have hr64:∀z∈List.replicate n p,zM z:=λz hz=>by rw[(List.mem_replicate.1 hz).2];exact hp64
 have hrl:(List.replicate n p).length<=1000:=by rw[Cm];have:=hx.n60;omega
 have hbd:Pure prog 170 [.agg (yb c),I n,I x.cap,L (List.replicate n p)] (I (QT n x.cap c (List.replicate n p))):=λS=>ZuZ c n x.cap (.inl rfl) hr64 hrl (hx.made c hm) (hx.pats c hm) hx.n60 (hx.fits c hm) (hx.vis c hm _ hrl hr64)
 generalize QT n x.cap c (List.replicate n p)=res at *;have hdays:=hx.days;generalize List.replicate n p=pl at *;rw[<-hdays]at hrep hbd;refine yn func125 ntmps125 results125 λnx hd=>?_
 have hlt:id<nx:=qN hd hS DZ;have x1:∀obs,ext S nx obs id=.cells ver 182 (Zj x (L a) (L b) ch):=λobs=>(zB hlt).trans hS
 refine D7 ?_;refine za (zz (some [id]) (Row.pures [0,1,2,3,4,5,6,7,8,9,10,11,12,13,14,15,16,17] .done) mixed x1 ?_);refine zG (hpr) x1 ?_;refine zG (hrep) x1 ?_;refine za (zz (some [id]) (Row.pures [0,1,2,3,4,5,6,7,8,9,10,11,12,13,14,15,16,17,18,19,20] .done) mixed (zN x1 hk f0 f1) ?_);refine zG (hbd) trivial ?_;exact D8 hd
def Y9(x:Inst)(a b:List Int):Int:=if (Y2 (W (a.getD 0 0+b.getD 0 0)) (Y8 x)).2=true then (Y2 (W (a.getD 0 0+b.getD 0 0)) (Y8 x)).1 else 9223372036854775807
def JH(x:Inst)(n:Nat)(a b:List Int):Int:=vu (uc (Yr x n a b) x.cust.length) (Y9 x a b)
theorem Zkb(x:Inst)(n:Nat)(a b:List Int)(hx:BndOk x n)(h64:∀k,zM (ZR (x.cust.getD k default) x.days x.cap))(hal:∀k,zM (Yr x n a b k))(hcar:zM (Y9 x a b))(ha:a.length=x.cust.length+1)(hb:b.length=x.cust.length+1):
  Pure prog 79 [.agg (zy x),.agg [L a,L b]] (I (JH x n a b)):=by
 have hle:=Zvq x hx.ncust (λc hc=>by have:=hx.pats c hc;omega) h64;have hmu:=ZuS (W (a.getD 0 0+b.getD 0 0)) (Y8 x);have hsat:=Zap (uc (Yr x n a b) x.cust.length) (Y9 x a b) (ZjO _ _) hcar;have hv:JH x n a b=vu (uc (Yr x n a b) x.cust.length) (Y9 x a b):=rfl;rw[hv];have hcz:Y9 x a b=if (Y2 (W (a.getD 0 0+b.getD 0 0)) (Y8 x)).2=true then (Y2 (W (a.getD 0 0+b.getD 0 0)) (Y8 x)).1 else 9223372036854775807:=rfl
 obtain⟨t,tl,b1,b2,b3,f0⟩:=zF rfl a 0 DY;obtain⟨u,tl2,c1,c2,c3,f1⟩:=zF rfl b 0 DY;have e1:a.getD 0 0=t:=by rw[Aa,b1];rfl
 have e2:b.getD 0 0=u:=by rw[Aa,c1];rfl
 rw[e1,e2]at hmu hcz;have hka:0<a.length:=DY
 have hkb:0<b.length:=DY
 have hsumv:∀(S:Store) (id ver:Nat),S id=.cells ver 182 (Zj x (L a) (L b) yu)->Spec prog 124 [.agg (zy x),.fn (.func 125) [.ptr id ver 0] []] S (λq S'=>q=I (uc (Yr x n a b) x.cust.length)/\S'=S):=λS id ver hS =>
  ZdU (S:=S) x 125 [.ptr id ver 0] (Yr x n a b) hx.ncust hal (λk hk T hT=>Zvv (S:=T) (id:=id) (ver:=ver) x n a b yu k hx hk ha hb (by rw[hT _ (by rw[hS];simp),hS]))
 generalize uc (Yr x n a b) x.cust.length=su at *;generalize Y8 x=le at *;generalize Y9 x a b=ca at *;generalize Y2 (W (t+u)) le=mz at *;obtain⟨mv,mok⟩:=mz;simp only at hmu hcz;refine zr func79 ntmps79 results79 λS nx hd=>?_
 refine D7 ?_;intro v0 v1;refine D7 ?_;intro v2;refine za (zz (some [nx,nx+1]) (Row.pures [0,1,2,3,4,5,6,7,8,9,10,11,12,13,14,15,16] .done) mixed (zN f0 f1 hka hkb) ?_);refine zG (hle) (zN f0 f1 hka hkb) ?_;refine zG (hmu) (zN f0 f1 hka hkb) ?_
 repeat apply za
 refine zb ?_;cases mok with
 | true =>
  obtain rfl:ca=mv:=by rw[hcz];exact if_pos rfl
  refine zk DZ ?_;refine zh (D7 ?_);refine λhsuf=>((hsumv _ (nx+2) v2 (by rw[zZ];rfl)).mono ?_).v
  rintro _ _ ⟨rfl,rfl⟩;refine⟨_,_,rfl,zL hsuf ?_⟩;refine λhsuf=>((hsat _).mono ?_).v
  rintro _ _ ⟨rfl,rfl⟩;refine⟨_,_,rfl,zL hsuf ?_⟩;exact D8 hd
 | false =>
  obtain rfl:ca=9223372036854775807:=by rw[hcz];exact if_neg DZ
  refine zm DZ ?_;refine zb ?_;refine D7 ?_;refine λhsuf=>((hsumv _ (nx+2) v2 (by rw[zZ];rfl)).mono ?_).v
  rintro _ _ ⟨rfl,rfl⟩;refine⟨_,_,rfl,zL hsuf ?_⟩;refine λhsuf=>((hsat _).mono ?_).v
  rintro _ _ ⟨rfl,rfl⟩;refine⟨_,_,rfl,zL hsuf ?_⟩;exact D8 hd
def W5(x:Inst)(n:Nat)(a b:List Int):Int:=jm (JH x n a b) (W4 x)
theorem Zvw(x:Inst)(n:Nat)(a b:List Int)(hx:BndOk x n)(h64:∀k,zM (ZR (x.cust.getD k default) x.days x.cap))(hal:∀k,zM (Yr x n a b k))(hcar:zM (Y9 x a b))(ha:a.length=x.cust.length+1)(hb:b.length=x.cust.length+1):
  Pure prog 83 [.agg (zy x),.agg [L a,L b]] (I (W5 x n a b)):=by
 have hva:=Zkb x n a b hx h64 hal hcar ha hb;have hba:=Zvp x hx.ncust (λc hc=>by have:=hx.pats c hc;omega);have hz:W5 x n a b=jm (JH x n a b) (W4 x):=rfl;generalize W5 x n a b=z at *;generalize JH x n a b=va at *;generalize W4 x=ba at *;refine zr func83 ntmps83 results83 λS nx hd=>?_
 refine D7 ?_;intro v0 v1;refine za (zz (some [nx,nx+1]) (Row.pures [0,1,2,3,4,5,6] .done) mixed trivial ?_);refine zG (hva) trivial ?_;refine zG (hba) trivial ?_;exact zg (zi hd D0 (by rw[hz];rfl))
open Go Go.Proofs Hp
theorem Zvx{n:Nat}{cap:Int}{c:Cust}{price:List Int}(h:(qa n cap c price).2=false):(qa n cap c price).1=[]:=by
 unfold qa at h ⊢;split at h
 ·rename_i hk;rw[if_pos hk];unfold uv at h ⊢;split at h
  ·rename_i h1;rw[if_pos h1]
  ·cases h
 ·rename_i hk;rw[if_neg hk];split at h
  ·rename_i hr;rw[if_pos hr];unfold YV at h ⊢;split at h
   ·rename_i h1;rw[if_pos h1]
   ·cases h
  ·rename_i hr;rw[if_neg hr];unfold QK at h ⊢;split at h
   ·cases h
   ·rename_i h1;rw[if_neg h1];split at h
    ·cases h
    ·rename_i h2;rw[if_neg h2]
theorem Zvy{c:Cust}{n:Nat}(hm:CustMade c n)(hn:n<=60)(cap:Int)(price:List Int):VisOk (qa n cap c price).1:=by
 cases h:(qa n cap c price).2 with
 | false=>rw[Zvx h];exact⟨by simp,by simp,by simp⟩
 | true =>
  have hg:=WR hm hn cap price h;exact⟨by have:=hg.len;omega,λs hs=>by have:=hg.ok s hs;omega,λs hs=>by have:=hg.ok s hs;unfold zM;omega⟩
theorem Zvz{x:Inst}{n:Nat}(h:InstQ x n):BndOk x n :=
 ⟨h.k.a.days,h.t.n1,h.k.a.n60,by have:=h.six;omega,h.k.a.pats,h.k.a.made,λc hc=>(h.k.a.made c hc).fits,λc hc price _ _=>Zvy (h.k.a.made c hc) h.k.a.n60 _ _⟩
theorem Zbb:zM 0:=⟨by decide,by decide⟩
theorem Zkc(c:Cust)(n cap:Int):zM (ZR c n cap):=by
 unfold ZR;split
 ·exact QW _
 ·unfold JD jm;split
  ·exact Zbb
  ·exact QW _
theorem ZvA(price:List Int)(v:List Visit):zM (QJ price v):=by
 have:∀(v:List Visit) (s:Int),zM s->zM (v.foldl (λs w=>W (s+YU price w.d)) s):=by
  intro v
  induction v with
  | nil=>intro s h;exact h
  | cons w v ih=>intro s _;exact ih _ (QW _)
 exact this v 0 Zbb
theorem Zkd(n:Nat)(cap:Int)(c:Cust)(price:List Int):zM (QT n cap c price):=by
 unfold QT;split
 ·unfold Yk;split
  ·exact ZvA _ _
  ·exact QW _
 ·unfold Za3;split<;>exact QW _
theorem Zke(x:Inst)(a b:List Int):zM (Y9 x a b):=by
 unfold Y9;split
 ·unfold Y2;split
  ·exact Zbb
  ·split
   ·exact Zbb
   ·exact QW _
 ·exact⟨by decide,by decide⟩
theorem ZvB{x:Inst}{n:Nat}(h:BndOk x n)(a b:List Int)(ha:a.length=x.cust.length+1)(hb:b.length=x.cust.length+1):
  Pure prog 79 [.agg (zy x),.agg [L a,L b]] (I (JH x n a b)) :=
 Zkb x n a b h (λk=>Zkc _ _ _) (λk=>Zkd _ _ _ _) (Zke x a b) ha hb
theorem ZvC{x:Inst}{n:Nat}(h:BndOk x n)(a b:List Int)(ha:a.length=x.cust.length+1)(hb:b.length=x.cust.length+1):
  Pure prog 83 [.agg (zy x),.agg [L a,L b]] (I (W5 x n a b)) :=
 Zvw x n a b h (λk=>Zkc _ _ _) (λk=>Zkd _ _ _ _) (Zke x a b) ha hb
open Go Go.Proofs
structure Clm where
 i:List Int
 m:Int
 s:Int
def Zl(x:Inst)(c:Clm):Nat:=jA c.s (x.cust.length+1)
def XV(x:Inst)(c:Clm):Nat:=jA (yK c.s) ((c.i.getD (Zl x c) 0).toNat+1)
def Qa(x:Inst)(c:Clm):List Int:=xX x (c.i.set (Zl x c) (W (c.i.getD (Zl x c) 0-XV x c)))
def Qb(x:Inst)(n:Nat)(i:List Int):Int:=JH x n (xL x i) i
def W6(x:Inst)(n:Nat)(c:Clm):Clm:=if c.m<Qb x n (Qa x c) then ⟨Qa x c,Qb x n (Qa x c),yK (yK c.s)⟩ else ⟨c.i,c.m,yK (yK c.s)⟩
def XW(x:Inst):List Int:=xX x (List.replicate (x.cust.length+1) 2147483648)
def wH(x:Inst)(n:Nat)(s:Int):Nat->Clm
 | 0=>⟨XW x,Qb x n (XW x),IntKind.u64.wrap s⟩
 | k+1=>W6 x n (wH x n s k)
def W7(x:Inst)(n:Nat)(s:Int)(k:Nat):Int:=W5 x n (xL x (wH x n s k).i) (wH x n s k).i
def Zbc(x:Inst)(i:List Int):Prop:=i.length=x.cust.length+1/\∀z∈i,0<=z/\z<=2147483648
theorem Zkf{x:Inst}(ha:qX x)(l:List Int):Zbc x (xX x l):=by
 refine⟨Za5 x l,λz hz=>?_⟩;unfold xX at hz;obtain⟨b,-,rfl⟩:=Am.1 hz;have:=Zu9 (f:=λa=>arc x a b) (p:=b) (lo:=0) (hi:=2147483648) D4 D4 (λk=>ha k b) (x.cust.length+1);omega
theorem ZvD{x:Inst}(ha:qX x){n:Nat}{c:Clm}(h:Zbc x c.i):Zbc x (W6 x n c).i:=by
 unfold W6;split
 ·exact Zkf ha _
 ·exact h
theorem Zd5{x:Inst}(ha:qX x)(n:Nat)(s:Int):∀k,Zbc x (wH x n s k).i
 | 0=>Zkf ha _
 | k+1=>ZvD ha (Zd5 ha n s k)
theorem ZvE{x:Inst}{n:Nat}(hx:BndOk x n)(ha:qX x)(s:Int)(b:Nat)(hb:b<=1000):
  ∃pa pb,Pure prog 34 [.agg (zy x),I s,I b] (.tup [.agg [pa,pb],I (W7 x n s b)]):=by
 refine⟨L (xL x (wH x n s b).i),L (wH x n s b).i,?_⟩;have hn:=hx.ncust;have e0:wH x n s 0=⟨XW x,Qb x n (XW x),IntKind.u64.wrap s⟩:=rfl;have hval:∀i:List Int,i.length=x.cust.length+1->Pure prog 79 [.agg (zy x),.agg [L (xL x i),L i]] (I (Qb x n i)):=λi hi=>by unfold Qb;exact ZvB hx (xL x i) i (ZdY x i) hi
 have hfi:Pure prog 77 [.agg (zy x)] (.agg [L (xL x (wH x n s 0).i),L (wH x n s 0).i]):=by rw[e0];dsimp only;unfold XW;exact Zvb x hn
 have hv0:Pure prog 79 [.agg (zy x),.agg [L (xL x (wH x n s 0).i),L (wH x n s 0).i]] (I (wH x n s 0).m):=by rw[e0];dsimp only;exact hval _ (by unfold XW;exact Za5 x _)
 have hbest:Pure prog 83 [.agg (zy x),.agg [L (xL x (wH x n s b).i),L (wH x n s b).i]] (I (W7 x n s b)):=by unfold W7;exact ZvC hx _ _ (ZdY x _) (Zd5 ha n s b).1
 have hclip:Pure prog 80 [I b,I 0,I 1000] (I b):=by
  have:=Xr b 0 1000
  rwa[show min (max (b:Int) 0) 1000=b by omega]at this
 have hs0:(wH x n s 0).s=IntKind.u64.wrap s:=by rw[e0]
 clear e0;have hstep:∀k,wH x n s (k+1)=W6 x n (wH x n s k):=λ_=>rfl
 have hok:=Zd5 ha n s;have hlow:=λ(b:List Int) (pl:Nat) (d:Int) hb hp=>Zvc x (xL x b) b pl d hn hb hp
 have hfo:∀l,(xX x l).length=x.cust.length+1:=Za5 x;generalize W7 x n s b=res at *;generalize wH x n s=C at *;generalize xL x=O at *;refine zr func34 ntmps34 results34 λS nx hd=>?_
 refine D7 ?_;intro v0 v1;refine D7 ?_;refine zt hfi ?_;refine λhsuf=>((ZjB s jU).mono ?_).v
 rintro _ _ ⟨v2,rfl,rfl⟩;refine⟨_,_,qV _,zL hsuf ?_⟩;intro v3;rw[<-hs0];refine D7 ?_;refine zt hv0 ?_
 repeat apply za
 refine zb ?_;refine zt hclip ?_;refine zj (zC (λk:Nat=>k<=b) (λk=>[(3,.ptr nx v0 0),(6,.ptr (nx+1) v1 0),(8,.ptr (nx+3) v3 0),(9,.ptr (nx+2) v2 0),(10,I (C k).m),(23,I b),(24,I k)]) (λk=>[.cells v0 25 (zy x),.cells v1 68 [.sc (.slice none 0 0),.sc (.slice none 0 0)],.cells v2 179 (j7 (C k).s),.cells v3 68 [L (O (C k).i),L (C k).i]]) (λk=>b-k) 0 [] DZ DZ DZ ?_);rintro k hk;refine D7 ?_;refine za (zv rfl (λhc=>?_) (λhc=>?_))
 ·simp at hc;have hst:=hstep k;obtain⟨hl,hbd⟩:=hok k;generalize hCk:C k=c at *;refine zh (za (zj ?_));have hpl:Zl x c<x.cust.length+1:=YZ _ DY;have hb1:=λ(S:Store) hS=>WZ c.s (x.cust.length+1) DY DY (S:=S) (id:=nx+2) (v:=v2) hS
  have hpe:jA c.s (x.cust.length+1)=Zl x c:=rfl;rw[hpe]at hb1;have w1:IntKind.i64.wrap ((x.cust.length:Int)+1)=((x.cust.length+1:Nat):Int):=by rw[AG];omega
  obtain⟨t,tl,b1,b2,b3,f0⟩:=zF rfl c.i (Zl x c) DY;have hte:c.i.getD (Zl x c) 0=t:=by rw[Aa,b1];rfl
  have htb:=hbd t (Ab b1);obtain⟨t1,ht1⟩:∃t1:Nat,(t1:Int)=t+1:=⟨(t+1).toNat,by omega⟩;have hb2:=λ(S:Store) hS=>WZ (yK c.s) t1 DY DY (S:=S) (id:=nx+2) (v:=v2) hS
  have hoe:jA (yK c.s) t1=XV x c:=by unfold XV;rw[hte,show t.toNat+1=t1 by omega]
  rw[hoe]at hb2;have w2:IntKind.i64.wrap (t+1)=(t1:Int):=by rw[AG];omega
  have hlo:=hlow c.i (Zl x c) (XV x c) hl hpl;have htr:xX x (c.i.set (Zl x c) (W (c.i.getD (Zl x c) 0-XV x c)))=Qa x c:=rfl;rw[htr]at hlo;have hv:=hval (Qa x c) (hfo _);have hst2:C (k+1)=if c.m<Qb x n (Qa x c) then ⟨Qa x c,Qb x n (Qa x c),yK (yK c.s)⟩ else ⟨c.i,c.m,yK (yK c.s)⟩:=by rw[hst];unfold W6;rfl
  have hpi:Zl x c<c.i.length:=DY
  generalize Zl x c=pl at *;generalize XV x c=off at *;generalize Qa x c=tr at *;generalize Qb x n tr=va at *;generalize yK c.s=s1 at *;generalize yK s1=s2 at *;obtain⟨ci,cm,cs⟩:=c;simp only at *;refine za (ze [] w1 ?_);refine λhsuf=>((hb1 _ (by rw[zZ];rfl)).mono ?_).v
  rintro _ _ ⟨rfl,rfl⟩;refine⟨_,_,yl _ DY DZ,zL hsuf ?_⟩;obtain⟨lc,hlc⟩:∃lc,lc=L ci:=⟨_,rfl⟩;rw[<-hlc];have hip:QX prog 26 lc (I pl)=some (.ip (I t :: tl)):=by rw[hlc];simp -implicitDefEqProofs [QX,hpi,f0]
  clear f0 hpi;refine za (xx [] D3 D3 λK Gc Gh hK hGc hGh X hX0 hX=>?_);simp -implicitDefEqProofs [hX0,hX,hip,w2,-QX]
  try clear hX0 hX X
  refine hGc _ _ _ _ _ _ _ λhsuf=>((hb2 _ (by rw[zZ];rfl)).mono ?_).v
  rintro _ _ ⟨rfl,rfl⟩;refine⟨_,_,yl _ DY DZ,?_⟩;clear hGc hGh;clear Gc Gh;refine xZ hsuf (D:=[]) D3 λGc Gh hGc hGh X hX0 hX=>?_
  simp -implicitDefEqProofs [hX0,hX];clear hX0 hX X;refine hK _ _ _ ?_;clear hK hGc hGh;clear K Gc Gh;subst hlc;refine D7 ?_;refine zt hlo ?_;intro v4;refine D7 ?_;refine zt hv ?_;refine D7 ?_
  by_cases hlt:cm<va
  ·rw[if_pos hlt]at hst2;refine zm (by simp[hlt]) ?_;refine zb ?_;refine zb ?_;exact zq (k+1) [_] hc DY (by simp[zu k (by omega),hst2]) rfl (by simp[hst2];rfl)
  ·rw[if_neg hlt]at hst2;refine zk (by simp[hlt]) ?_;refine zh (zb ?_);exact zq (k+1) [_] hc DY (by simp[zu k (by omega),hst2]) rfl (by simp[hst2];rfl)
 ·simp at hc;obtain rfl:k=b:=DY
  refine zx (za (zz (some [nx,nx+3]) (Row.pures [0,1,2,3] (.alt 4 (Row.pures [5] .done) .stop)) mixed trivial ?_));refine zG (hbest) trivial ?_;exact zg (zi hd D0 (by simp[zp]))
open Go Go.Proofs
theorem ZvF(n p k:Nat)(h:k<n):(qE n p).take (k+1)=(qE n p).take k++[UInt8.ofNat (48+yI p k)]:=by
 rw[AJ];congr 1;unfold qE;rw[Aj,A9 h];rfl
theorem ZvG(p n:Nat)(h1:1<=n)(hn:n<=64)(hp:p<2 ^ 64):Pure prog 54 [U p,I n] (T (bs (qE n p))):=by
 have hbits:=Ze4 p hp;have hbl:(jg p).length=64:=by simp[jg]
 have hbat:∀k,k<64->(jg p)[k]?=some ((yI p k:Nat):Int):=λk h=>by unfold jg;rw[Aj,A9 h];rfl
 have hpl:=WT n p;have hsucc:=ZvF n p;have hb01:∀k,yI p k<=1:=VR p;generalize jg p=B at *;generalize qE n p=P at *;have c1:¬(n:Int)<1:=DY
 have c2:¬(64:Int)<n:=DY
 refine zr func54 ntmps54 results54 λS nx hd=>?_
 refine D7 ?_
 repeat apply za
 refine ze [(2,10)] (zo c1 c2) ?_;refine zk DZ ?_;refine zh (D7 ?_);refine za (qx 5 5 1 rfl λv1=>?_);refine zb ?_;refine zt hbits ?_
 repeat apply za
 refine zb ?_;refine zj (zC (λs:Nat × Nat=>s.1<=n) (λ(k,v)=>[(1,I n),(5,.sl nx v 1 0 k),(6,L B),(7,I k)]) (λ(k,v)=>[.cells v 5 ((P.map U8).take k)]) (λs=>n-s.1) (0,v1) [] DZ DZ DZ ?_);rintro⟨k,v⟩ hk;simp only at hk ⊢
 repeat apply za
 refine zb ?_;refine zv rfl (λhc=>?_) (λhc=>?_)
 ·simp at hc;obtain⟨z,tl,b1,b2,b3,f0⟩:=zF rfl B k DY;obtain rfl:z=((yI p k:Nat):Int):=by have:=hbat k DY;rw[b1]at this;exact Option.some.inj this
  have hb:=hb01 k;have hk64:k<B.length:=DY
  have hs:=hsucc k hc;have hu:=YS (k:=yI p k) DY;generalize UInt8.ofNat (48+yI p k)=u at *;generalize yI p k=b at *;have w1:IntKind.i64.wrap (48+(b:Int))=(u.toNat:Int):=by rw[hu,AG];omega
  have w2:=ZhN u.toNat DY;have hl:((P.map U8).take k).length=k:=D2
  have htk:List.take k ((P.map U8).take k)=(P.map U8).take k:=Af (by rw[hl];exact Ag _);have hnx:(P.map U8).take (k+1)=(P.map U8).take k++[U8 u]:=by rw[<-List.map_take,hs,List.map_append,List.map_take];rfl
  generalize (P.map U8).take k=cs at *;refine zh (za (zj (ze [] (yF f0 hk64 w1 w2 htk) ?_)));refine⟨by omega,?_⟩;refine zb ?_;exact zq (k+1,v+1) [] hc DY (by simp[zu k (by omega)]) rfl (by simp only[hnx,AC])
 ·simp at hc;obtain rfl:k=n:=DY
  rw[show List.take k (P.map U8)=P.map U8 from Af D2];refine zx (D7 ?_);refine λhsuf=>ZrD (e:=5) (l:=P) (off:=0) (id:=nx) (ver:=v) rfl DZ DZ DZ (by simp[hpl]) (by rw[Zq];rfl) (λi u h=>by rw[AQ,Aj,h];rfl) DY ?_
  refine⟨_,_,rfl,zL hsuf ?_⟩;exact D8 hd
open Go Go.Proofs
theorem yQ(a b:List UInt8)(h:a.length+b.length<=1099511627776):∃s,s=a++b/\s.length=a.length+b.length/\jT .add (bs a) (bs b)=some (.string (bs s)):=⟨_,rfl,by simp,Jt a b DY⟩
structure InstS (x:Inst) (n:Nat):Prop where
 t:InstT x n
 n7:n<=60
 cust:x.cust.length<=1000
 pats:∀c∈x.cust,c.pats.length<=1000
theorem Zkg{x:Inst}{n:Nat}(h:InstQ x n):InstS x n:=⟨h.t,by have:=h.n7;omega,by have:=h.six;omega,h.k.a.pats⟩
theorem JJ{z:Int}(h:ZL z):(zV z).length<=20:=Zjr (by obtain⟨a,b⟩:=h;unfold zM;omega)
theorem Zkh(n p:Nat)(h:n<=60):(qE n p).length<=60:=by simp_all[WT]
theorem Zki{x:Inst}{n:Nat}(h:InstS x n){c:Cust}(hc:c∈x.cust):(∀w∈qv n c,w.length<=60)/\(qv n c).length<=1006:=by
 have hp:=h.pats c hc;unfold qv;rcases (h.t.cust c hc).kind with ⟨k,d,-⟩ | ⟨k,-,-,a,b,s,-,ho⟩
 ·rw[if_pos k];refine⟨λw hw=>?_,by simp;omega⟩;simp only[As,Am]at hw;rcases hw with rfl | rfl | ⟨p,-,rfl⟩
  ·decide
  ·have:=JJ d;omega
  ·exact Zkh n p h.n7
 grind[JJ]
theorem Zkj{x:Inst}{n K:Nat}(h:InstS x n)(h8:8<=K)(h1:x.cust.length+1<=K)(h2:∀c∈x.cust,c.pats.length+2<=K):∀l∈j5 x,(yi l).length+1<=61*K+1:=by
 have hn:x.days.toNat=n:=by have:=h.t.days;omega
 have hd:(zV x.days).length<=20:=Zjr (by have:=h.t.days;have:=h.n7;unfold zM;omega);have hv:=JJ h.t.nums.1;have hc:=JJ h.t.nums.2.1;have hl:=JJ h.t.nums.2.2;have hcu:=ZO (n:=x.cust.length) (by have:=h.cust;omega);have key:∀l:Ln,(∀w∈l,w.length<=60)->l.length<=K->(yi l).length+1<=61*K+1:=λl a b=>by have:=ZdM a;omega
 intro l hlm;simp only[j5,As,AB,Am]at hlm;rcases hlm with rfl | rfl | rfl | ⟨c,hcm,rfl⟩ | rfl | ⟨r,hr,rfl⟩
 ·exact key _ DZ D2
 ·refine key _ (λw hw=>?_) DY;simp only[As,Bn,or_false]at hw;rcases hw with rfl | rfl | rfl | rfl | rfl | rfl | rfl | rfl
  all_goals first | omega | decide
 ·refine key _ (λw hw=>?_) D2;simp only[As,Bn,or_false]at hw;rcases hw with rfl | rfl
  ·decide
  ·omega
 ·grind[Zki,qv]
 ·exact key _ DZ D2
 ·refine key _ (λw hw=>?_) (by simp;have:=(h.t.row r hr).1;omega);obtain⟨z,hz,rfl⟩:=Am.1 hw;have:=JJ ((h.t.row r hr).2 z hz);omega
theorem Zkk{x:Inst}{n:Nat}(h:InstS x n):∀l∈j5 x,(yi l).length+1<=61367:=λl hl=>by
 have:=Zkj (K:=1002) h DY (by have:=h.cust;omega) (λc hc=>by have:=h.pats c hc;omega) l hl;omega
theorem ZvH{x:Inst}{n:Nat}(h:InstS x n)(ls:List Ln)(hs:∀l∈ls,l∈j5 x)(hl:ls.length<=3000):(qL ls).length<=184101000:=by
 have:=Zju (ls:=ls) λl hm=>Zkk h l (hs l hm)
 omega
def Ys(x:Inst):List Ln:=[[wA,[49]],[wB,zV x.days,wC,zV x.veh,wD,zV x.cap,wE,zV x.len],[wF,yc x.cust.length]]
theorem Zd6(x:Inst):j5 x=Ys x++(x.cust.map (qv x.days.toNat)++[jy] :: x.dist.map (λr:List Int=>r.map zV)):=rfl
theorem ZvI{x:Inst}{n:Nat}(h:InstS x n):Pure prog 13 [.agg (zy x)] (T (bs (qL (j5 x)))):=by
 have hd0:=h.t.days;have hnt:x.days.toNat=n:=DY
 have hn60:=h.n7;have hn1:=h.t.n1;obtain⟨⟨vh0,vh1⟩,⟨ca0,ca1⟩,⟨le0,le1⟩⟩:=h.t.nums;obtain⟨ve,hve⟩:=Au vh0;obtain⟨ca,hca⟩:=Au ca0;obtain⟨le,hle⟩:=Au le0;have hcl:=h.cust;have hdl:=h.t.rows;have hwds:Pure prog 52 [.lst 5 [I n,I ve,I ca,I le,I x.cust.length]] (.lst 5 [T (bs (yc n)),T (bs (yc ve)),T (bs (yc ca)),T (bs (yc le)),T (bs (yc x.cust.length))]) :=
  Zc9 [n,ve,ca,le,x.cust.length] DZ (by intro m hm;simp only[As,Bn,or_false]at hm;rcases hm with rfl | rfl | rfl | rfl | rfl<;>omega)
 have hb:=ZvH h;have hline:=Zkk h;have hhead:qL (Ys x)=[116,114,97,110,116,101,114,32,49,10,100,97,121,115,32]++yc n++[32,118,101,104,105,99,108,101,115,32]++yc ve++[32,99,97,112,97,99,105,116,121,32]++yc ca++[32,108,101,110,103,116,104,32]++yc le++[10,99,117,115,116,111,109,101,114,115,32]++yc x.cust.length++[10]:=by
  simp[Ys,qL,yi,zV,hd0,hve,hca,hle]
 obtain⟨P,hP⟩:∃P:Nat->List UInt8,P=λk=>qL (Ys x++(x.cust.take k).map (qv n)):=⟨_,rfl⟩
 have hP0:P 0=qL (Ys x):=by rw[hP];simp
 have hPs:∀k c,x.cust[k]?=some c->P (k+1)=P k++(yi (qv n c)++[10]):=λk c hc=>by
  rw[hP]
  show qL (Ys x++(x.cust.take (k+1)).map (qv n))=_
  rw[AJ,hc,List.map_append,<-List.append_assoc];exact ZhK _ _
 have hPb:∀k,(P k).length<=184101000:=λk=>by
  rw[hP];refine hb _ (λl hl=>?_) (by simp[Ys];omega);rw[Zd6,hnt,AB,AB];rcases AB.1 hl with hl | hl
  ·exact .inl hl
  ·obtain⟨c,hc,rfl⟩:=Am.1 hl;exact .inr (.inl (Cu (Bq hc)))
 obtain⟨D,hD⟩:∃D:Nat->List UInt8,D=λk=>qL (Ys x++(x.cust.map (qv n)++[jy] :: (x.dist.take k).map (λr:List Int=>r.map zV))):=⟨_,rfl⟩
 have hD0:D 0=P x.cust.length++[100,105,115,116,97,110,99,101,115,10]:=by
  rw[hD,hP];simp[qL,yi]
 have hDs:∀k r,x.dist[k]?=some r->D (k+1)=D k++(yi (r.map zV)++[10]):=λk r hr=>by
  rw[hD]
  show qL (Ys x++(x.cust.map (qv n)++[jy] :: (x.dist.take (k+1)).map (λr:List Int=>r.map zV)))=_
  rw[AJ,hr,List.map_append,<-List.cons_append,<-List.append_assoc,<-List.append_assoc];exact ZhK _ _
 have hDn:D x.dist.length=qL (j5 x):=by rw[hD,Zd6,hnt];simp
 have hDb:∀k,(D k).length<=184101000:=λk=>by
  rw[hD];refine hb _ (λl hl=>?_) (by simp[Ys];omega);rw[Zd6,hnt,AB,AB];rcases AB.1 hl with hl | hl
  ·exact .inl hl
  ·rcases AB.1 hl with hl | hl
   ·exact .inr (.inl hl)
   ·rcases As.1 hl with rfl | hl
    ·exact .inr (.inr DZ)
    ·obtain⟨r,hr,rfl⟩:=Am.1 hl;exact .inr (.inr (CA _ (Cu (Bq hr))))
 rw[<-hDn];clear hb hP hD hDn;have q0:=ZO (n:=n) DY;have q1:=ZO (n:=ve) DY;have q2:=ZO (n:=ca) DY;have q3:=ZO (n:=le) DY;have q4:=ZO (n:=x.cust.length) DY;generalize yc n=w0 at *;generalize yc ve=w1 at *;generalize yc ca=w2 at *;generalize yc le=w3 at *;generalize hw4:yc x.cust.length=w4 at *;obtain⟨s1,hs1,ls1,es1⟩:=yQ [116,114,97,110,116,101,114,32,49,10,100,97,121,115,32] w0 (by (try simp only[Ad,Ah]);omega);have bs1:s1.length<=35:=by rw[ls1];(try simp only[Ad,Ah]);omega
 obtain⟨s2,hs2,ls2,es2⟩:=yQ s1 [32,118,101,104,105,99,108,101,115,32] (by (try simp only[Ad,Ah]);omega);have bs2:s2.length<=45:=by rw[ls2];(try simp only[Ad,Ah]);omega
 obtain⟨s3,hs3,ls3,es3⟩:=yQ s2 w1 (by (try simp only[Ad,Ah]);omega);have bs3:s3.length<=65:=by rw[ls3];(try simp only[Ad,Ah]);omega
 obtain⟨s4,hs4,ls4,es4⟩:=yQ s3 [32,99,97,112,97,99,105,116,121,32] (by (try simp only[Ad,Ah]);omega);have bs4:s4.length<=75:=by rw[ls4];(try simp only[Ad,Ah]);omega
 obtain⟨s5,hs5,ls5,es5⟩:=yQ s4 w2 (by (try simp only[Ad,Ah]);omega);have bs5:s5.length<=95:=by rw[ls5];(try simp only[Ad,Ah]);omega
 obtain⟨s6,hs6,ls6,es6⟩:=yQ s5 [32,108,101,110,103,116,104,32] (by (try simp only[Ad,Ah]);omega);have bs6:s6.length<=103:=by rw[ls6];(try simp only[Ad,Ah]);omega
 obtain⟨s7,hs7,ls7,es7⟩:=yQ s6 w3 (by (try simp only[Ad,Ah]);omega);have bs7:s7.length<=123:=by rw[ls7];(try simp only[Ad,Ah]);omega
 obtain⟨s8,hs8,ls8,es8⟩:=yQ s7 [10,99,117,115,116,111,109,101,114,115,32] (by (try simp only[Ad,Ah]);omega);have bs8:s8.length<=134:=by rw[ls8];(try simp only[Ad,Ah]);omega
 obtain⟨s9,hs9,ls9,es9⟩:=yQ s8 w4 (by (try simp only[Ad,Ah]);omega);have bs9:s9.length<=154:=by rw[ls9];(try simp only[Ad,Ah]);omega
 obtain⟨s10,hs10,ls10,es10⟩:=yQ s9 [10] (by (try simp only[Ad,Ah]);omega);have bs10:s10.length<=155:=by rw[ls10];(try simp only[Ad,Ah]);omega
 have hPe:P 0=s10:=by rw[hP0,hhead,hs10,hs9,hs8,hs7,hs6,hs5,hs4,hs3,hs2,hs1]
 refine zr func13 ntmps13 results13 λS nx hd=>?_
 refine D7 ?_;intro v0;refine za (ze [] (zN hd0 hve hca hle) ?_);refine qt [] hwds (zN hd0 hve hca hle) ?_;refine za (zz none (Row.pures [0,1,2,3,4,5,6,7,8,9,10,11,12,13,14,15,16,17,18,19,20,21,22,23,24,25] .done) mixed (yd es1 es2 es3 es4 es5 (yF es6 es7 es8 es9 es10)) ?_)
 repeat apply za
 refine zb ?_;rw[<-hPe];refine zj (zC (λk:Nat=>k<=x.cust.length) (λk=>[(1,.ptr nx v0 0),(4,T (bs (P k))),(5,I k)]) (λ_=>[.cells v0 25 (zy x)]) (λk=>x.cust.length-k) 0 [] DZ DZ DZ ?_);rintro k hk
 repeat apply za
 refine zb ?_;refine zv rfl (λhc=>?_) (λhc=>?_)
 ·simp at hc;obtain⟨c,tl,a1,a2,a3,f0,f1⟩:=el 8 rfl x.cust k hc;have hPk:=hPs k c a1;have hcm:=Ab a1;have hct:=(h.t.cust c hcm).kind;have hcp:=h.pats c hcm;have hcw:=Zki h hcm;have hsb:=hPb k;generalize P k=ss at *;refine zh (za (zj ?_));obtain⟨kd,dm,ps,ra,si,st,ru,ho⟩:=c;simp only at hct hcp;refine za (ze [] (zD f0 f1 hc) ?_);intro v2
  repeat apply za
  refine zb ?_;rcases hct with ⟨hk1,hdm,hpp,-⟩ | ⟨hk2,-,-,hra,hsi,hst,hru,hho⟩
  ·subst hk1;obtain⟨dn,rfl⟩:=Au hdm.1;have hdn:=hdm.2;have hdd:=ZhO dn DY;have hdq:=ZO (n:=dn) DY;have hcW:qv n ⟨1,dn,ps,ra,si,st,ru,ho⟩=vX :: yc dn :: ps.map (qE n):=by simp[qv,zV]
   rw[hcW]at hPk hcw;obtain⟨V,hV⟩:∃V:Nat->List UInt8,V=λj=>ss++yi (vX :: yc dn :: (ps.take j).map (qE n)):=⟨_,rfl⟩
   have hV0:V 0=ss++[118,105,115,105,116,32]++yc dn:=by rw[hV];simp[yi]
   have hVs:∀j p,ps[j]?=some p->V (j+1)=V j++[32]++qE n p:=λj p hp=>by
    rw[hV]
    show ss++yi (vX :: yc dn :: (ps.take (j+1)).map (qE n))=_
    rw[AJ,hp,List.map_append];have:=ZhJ (yc dn :: (ps.take j).map (qE n)) (qE n p) vX;simp only[List.cons_append]at this
    show ss++yi (vX :: yc dn :: ((ps.take j).map (qE n)++[qE n p]))=_
    rw[this];simp
   have hVn:P (k+1)=V ps.length++[10]:=by rw[hPk,hV];simp
   have hVb:∀j,(V j).length<=184201000:=λj=>by
    rw[hV];have:=ZdM (ws:=vX :: yc dn :: (ps.take j).map (qE n)) (m:=60) (λw hw=>hcw.1 w (by
     simp only[As,Am]at hw ⊢;rcases hw with r | r | ⟨p,hp,r⟩
     ·exact .inl r
     ·exact .inr (.inl r)
     ·exact .inr (.inr ⟨p,Bq hp,r⟩)))
    have hl:(vX :: yc dn :: (ps.take j).map (qE n)).length<=1002:=D2
    simp only[Ar];have:61*(vX :: yc dn :: (ps.take j).map (qE n)).length<=61*1002:=Cs _ hl;omega
   clear hV hPk;generalize yc dn=dw at *;obtain⟨m1,hm1,lm1,em1⟩:=yQ ss [118,105,115,105,116,32] (by simp only[Ad,Ah];omega);obtain⟨m2,hm2,lm2,em2⟩:=yQ m1 dw (by rw[lm1];simp only[Ad,Ah];omega);have hV0':V 0=m2:=by rw[hV0,hm2,hm1]
   refine zm DZ ?_;refine za (ze [] (zo em1 em2) ?_);refine qt [] hdd (zo em1 em2) ?_;rw[<-hV0'];refine D7 ?_;refine zj (zC (λj:Nat=>j<=ps.length) (λj=>[(1,.ptr nx v0 0),(4,T (bs (V j))),(5,I k),(6,.ptr (nx+1) v2 0),(7,I j)]) (λ_=>[.cells v0 25 (zy x),.cells v2 87 [I 1,I dn,L ps,I ra,I si,I st,I ru,I ho]]) (λj=>ps.length-j) 0 [] DZ DZ DZ ?_);rintro j hj
   repeat apply za
   refine zb ?_;refine zv rfl (λhcj=>?_) (λhcj=>?_)
   ·simp at hcj;obtain⟨p,tl2,b1,b2,b3,g0⟩:=zF rfl ps j hcj;have hpm:=Ab b1;have hplt:p<2 ^ 64:=Bm (hpp p hpm) (Cd D4 DY);have htx:=ZvG p n DY DY hplt;have hpl:=Zkh n p hn60;have hvs:=hVs j p b1;have hvb:=hVb j;generalize qE n p=pw at *;generalize hvj:V (j+1)=vj1 at *;generalize V j=vj at *;obtain⟨y1,hy1,ly1,ey1⟩:=yQ vj [32] (by simp only[Ad,Ah];omega);obtain⟨y2,hy2,ly2,ey2⟩:=yQ y1 pw (by rw[ly1];simp only[Ad,Ah];omega);obtain rfl:vj1=y2:=by rw[hvs,hy2,hy1]
    refine zh (za (zj (zz (some [nx,nx+1]) (Row.pures [0,1,2,3,4,5,6,7,8,9,10,11] .done) mixed (yF g0 hcj ey1 ey2 hd0) ?_)));refine zG (htx) (yF g0 hcj ey1 ey2 hd0) ?_;refine zb ?_;exact zq (j+1) [] hcj DY (by simp[zu j (by omega),hvj]) rfl DZ
   ·simp at hcj;obtain rfl:j=ps.length:=DY
    have hvb:=hVb ps.length;obtain⟨y1,hy1,ly1,ey1⟩:=yQ (V ps.length) [10] (by simp only[Ad,Ah];omega);have hfin:P (k+1)=y1:=by rw[hVn,hy1]
    refine zx (ze [] ey1 ?_);refine zb ?_;exact zq (k+1) [_] hc DY (by simp[zu k (by omega),hfin]) rfl D0
  ·subst hk2;obtain⟨ra,rfl⟩:=Au hra.1;obtain⟨si,rfl⟩:=Au hsi.1;obtain⟨st,rfl⟩:=Au hst.1;obtain⟨ho,rfl⟩:=Au hho.1;obtain⟨-,hra⟩:=hra;obtain⟨-,hsi⟩:=hsi;obtain⟨-,hst⟩:=hst;obtain⟨-,hho⟩:=hho;have hwd4:Pure prog 52 [.lst 4 [I ra,I si,I st,I ho]] (.lst 4 [T (bs (yc ra)),T (bs (yc si)),T (bs (yc st)),T (bs (yc ho))]) :=
    Zc9 [ra,si,st,ho] DZ (by intro m hm;simp only[As,Bn,or_false]at hm;rcases hm with rfl | rfl | rfl | rfl<;>omega)
   have p0:=ZO (n:=ra) DY;have p1:=ZO (n:=si) DY;have p2:=ZO (n:=st) DY;have p3:=ZO (n:=ho) DY;have hcW:qv n ⟨2,dm,ps,ra,si,st,ru,ho⟩=[QO,yc ra,yc si,yc st,if ru=2 then uT else uy,yc ho]:=by simp[qv,zV]
   rw[hcW]at hPk;generalize yc ra=u0 at *;generalize yc si=u1 at *;generalize yc st=u2 at *;generalize yc ho=u3 at *;refine zk DZ ?_;refine D7 ?_;refine zt hwd4 ?_;refine D7 ?_
   repeat apply za
   refine zb ?_
   by_cases hr2:ru=2
   ·subst hr2;rw[if_pos rfl]at hPk;refine zm DZ ?_;refine zb ?_;obtain⟨t1,ht1,lt1,et1⟩:=yQ ss [116,97,110,107,32] (by (try simp only[Ad,Ah]);omega);have bt1:t1.length<=184101005:=by rw[lt1];(try simp only[Ad,Ah]);omega
    obtain⟨t2,ht2,lt2,et2⟩:=yQ t1 u0 (by (try simp only[Ad,Ah]);omega);have bt2:t2.length<=184101025:=by rw[lt2];(try simp only[Ad,Ah]);omega
    obtain⟨t3,ht3,lt3,et3⟩:=yQ t2 [32] (by (try simp only[Ad,Ah]);omega);have bt3:t3.length<=184101026:=by rw[lt3];(try simp only[Ad,Ah]);omega
    obtain⟨t4,ht4,lt4,et4⟩:=yQ t3 u1 (by (try simp only[Ad,Ah]);omega);have bt4:t4.length<=184101046:=by rw[lt4];(try simp only[Ad,Ah]);omega
    obtain⟨t5,ht5,lt5,et5⟩:=yQ t4 [32] (by (try simp only[Ad,Ah]);omega);have bt5:t5.length<=184101047:=by rw[lt5];(try simp only[Ad,Ah]);omega
    obtain⟨t6,ht6,lt6,et6⟩:=yQ t5 u2 (by (try simp only[Ad,Ah]);omega);have bt6:t6.length<=184101067:=by rw[lt6];(try simp only[Ad,Ah]);omega
    obtain⟨t7,ht7,lt7,et7⟩:=yQ t6 [32] (by (try simp only[Ad,Ah]);omega);have bt7:t7.length<=184101068:=by rw[lt7];(try simp only[Ad,Ah]);omega
    obtain⟨t8,ht8,lt8,et8⟩:=yQ t7 [97,110,121] (by (try simp only[Ad,Ah]);omega);have bt8:t8.length<=184101071:=by rw[lt8];(try simp only[Ad,Ah]);omega
    obtain⟨t9,ht9,lt9,et9⟩:=yQ t8 [32] (by (try simp only[Ad,Ah]);omega);have bt9:t9.length<=184101072:=by rw[lt9];(try simp only[Ad,Ah]);omega
    obtain⟨t10,ht10,lt10,et10⟩:=yQ t9 u3 (by (try simp only[Ad,Ah]);omega);have bt10:t10.length<=184101092:=by rw[lt10];(try simp only[Ad,Ah]);omega
    obtain⟨t11,ht11,lt11,et11⟩:=yQ t10 [10] (by (try simp only[Ad,Ah]);omega);have bt11:t11.length<=184101093:=by rw[lt11];(try simp only[Ad,Ah]);omega
    have hfin:P (k+1)=t11:=by rw[hPk,ht11,ht10,ht9,ht8,ht7,ht6,ht5,ht4,ht3,ht2,ht1];simp[yi]
    refine zz none (Row.pures [0,1,2,3,4,5,6,7,8,9,10,11,12,13,14,15,16,17,18,19,20,21,22,23,24] .done) mixed (yd et1 et2 et3 et4 et5 (yd et6 et7 et8 et9 et10 et11)) ?_;refine ze [] et11 ?_;refine zb ?_;exact zq (k+1) [_] hc DY (by simp[zu k (by omega),hfin]) rfl D0
   ·rw[if_neg hr2]at hPk;refine zk (by simp[hr2]) ?_;refine zh ?_;obtain⟨t1,ht1,lt1,et1⟩:=yQ ss [116,97,110,107,32] (by (try simp only[Ad,Ah]);omega);have bt1:t1.length<=184101005:=by rw[lt1];(try simp only[Ad,Ah]);omega
    obtain⟨t2,ht2,lt2,et2⟩:=yQ t1 u0 (by (try simp only[Ad,Ah]);omega);have bt2:t2.length<=184101025:=by rw[lt2];(try simp only[Ad,Ah]);omega
    obtain⟨t3,ht3,lt3,et3⟩:=yQ t2 [32] (by (try simp only[Ad,Ah]);omega);have bt3:t3.length<=184101026:=by rw[lt3];(try simp only[Ad,Ah]);omega
    obtain⟨t4,ht4,lt4,et4⟩:=yQ t3 u1 (by (try simp only[Ad,Ah]);omega);have bt4:t4.length<=184101046:=by rw[lt4];(try simp only[Ad,Ah]);omega
    obtain⟨t5,ht5,lt5,et5⟩:=yQ t4 [32] (by (try simp only[Ad,Ah]);omega);have bt5:t5.length<=184101047:=by rw[lt5];(try simp only[Ad,Ah]);omega
    obtain⟨t6,ht6,lt6,et6⟩:=yQ t5 u2 (by (try simp only[Ad,Ah]);omega);have bt6:t6.length<=184101067:=by rw[lt6];(try simp only[Ad,Ah]);omega
    obtain⟨t7,ht7,lt7,et7⟩:=yQ t6 [32] (by (try simp only[Ad,Ah]);omega);have bt7:t7.length<=184101068:=by rw[lt7];(try simp only[Ad,Ah]);omega
    obtain⟨t8,ht8,lt8,et8⟩:=yQ t7 [102,105,108,108] (by (try simp only[Ad,Ah]);omega);have bt8:t8.length<=184101072:=by rw[lt8];(try simp only[Ad,Ah]);omega
    obtain⟨t9,ht9,lt9,et9⟩:=yQ t8 [32] (by (try simp only[Ad,Ah]);omega);have bt9:t9.length<=184101073:=by rw[lt9];(try simp only[Ad,Ah]);omega
    obtain⟨t10,ht10,lt10,et10⟩:=yQ t9 u3 (by (try simp only[Ad,Ah]);omega);have bt10:t10.length<=184101093:=by rw[lt10];(try simp only[Ad,Ah]);omega
    obtain⟨t11,ht11,lt11,et11⟩:=yQ t10 [10] (by (try simp only[Ad,Ah]);omega);have bt11:t11.length<=184101094:=by rw[lt11];(try simp only[Ad,Ah]);omega
    have hfin:P (k+1)=t11:=by rw[hPk,ht11,ht10,ht9,ht8,ht7,ht6,ht5,ht4,ht3,ht2,ht1];simp[yi]
    refine zz none (Row.pures [0,1,2,3,4,5,6,7,8,9,10,11,12,13,14,15,16,17,18,19,20,21,22,23,24] .done) mixed (yd et1 et2 et3 et4 et5 (yd et6 et7 et8 et9 et10 et11)) ?_;refine ze [] et11 ?_;refine zb ?_;exact zq (k+1) [_] hc DY (by simp[zu k (by omega),hfin]) rfl D0
 ·simp at hc;obtain rfl:k=x.cust.length:=DY
  refine zx ?_;have hpb:=hPb x.cust.length;obtain⟨y1,hy1,ly1,ey1⟩:=yQ (P x.cust.length) [100,105,115,116,97,110,99,101,115,10] (by simp only[Ad,Ah];omega);obtain rfl:D 0=y1:=by rw[hD0,hy1]
  refine za (ze [] ey1 ?_)
  repeat apply za
  refine zb ?_;refine zj (zC (λk:Nat=>k<=x.dist.length) (λk=>[(1,.ptr nx v0 0),(4,T (bs (D k))),(10,I k)]) (λ_=>[.cells v0 25 (zy x)]) (λk=>x.dist.length-k) 0 [] DZ DZ DZ ?_);rintro k hk
  repeat apply za
  refine zb ?_;refine zv rfl (λhc=>?_) (λhc=>?_)
  ·simp at hc;obtain⟨r,tl,a1,a2,a3,f0⟩:=zF rfl x.dist k hc;have hr:=h.t.row r (Ab a1);have hds:=hDs k r a1;have hdb:=hDb k;have hwl:∀ws:Ln,(∀w∈ws,w∈r.map zV)->ws.length<=1001->(yi ws).length<=61061:=λws hs hl=>by
    have:=ZdM (ws:=ws) (m:=60) (λw hw=>by
     obtain⟨z,hz,rfl⟩:=Am.1 (hs w hw);have:=JJ (hr.2 z hz);omega)
    have:61*ws.length<=61*1001:=Cs _ hl;omega
   have hrl:r.length<=1001:=by have:=hr.1;omega
   have hwj:=hwl (r.map zV) (λw hw=>hw) (by simpa using hrl);have hro:Pure prog 52 [L r] (L ((r.map zV).map bs)):=by
    have e1:(r.map Int.toNat).map (λm:Nat=>(m:Int))=r:=by
     rw[BL];refine(AN λz hz=>?_).trans (List.map_id _);have:=(hr.2 z hz).1;simp;omega
    have:=Zc9 (r.map Int.toNat) D2 (λm hm=>by
     obtain⟨z,hz,rfl⟩:=Am.1 hm;have:=(hr.2 z hz).2;omega)
    rw[e1]at this;have e2:ut (r.map Int.toNat)=(r.map zV).map bs:=by simp[ut,zV,Function.comp_def]
    rwa[e2]at this
   have hli:=ZrF (r.map zV) D2 DY (λj=>by have:=hwl ((r.map zV).take j) (λw hw=>Bq hw) D2;omega);generalize (r.map zV).map bs=wl at *;generalize hdk:D (k+1)=dk1 at *;generalize yi (r.map zV)=jw at *;obtain⟨y2,hy2,ly2,ey2⟩:=yQ (D k) (jw++[10]) (by simp only[Ar,Ad,Ah];omega);obtain rfl:dk1=y2:=by rw[hds,hy2]
   generalize jw++[10]=jn at *;generalize D k=dk at *;refine zh (za (zj (ze [] (zo f0 hc) ?_)));refine qt [] hro (zD f0 hc ey2) ?_;refine qt [] hli (zD f0 hc ey2) ?_;refine zb ?_;exact zq (k+1) [] hc DY (by simp[zu k (by omega),hdk]) rfl DZ
  ·simp at hc;obtain rfl:k=x.dist.length:=DY
   refine zx (D7 ?_);exact D8 hd
open Go Go.Proofs Hp
theorem ZvJ{x:Inst}{n:Nat}(h:InstQ x n):InstOk x:=by
 have hm:=Za9 h.m;obtain⟨d1,d2,d3,d4⟩:=Zd4 hm.dist;have h6:=h.six;have r:∀z:Int,0<=z->z<=2147483648->zM z:=λz a b=>by unfold zM;omega
 refine⟨by have:=hm.days;unfold zM;omega,r _ hm.veh.1 hm.veh.2,r _ hm.cap.1 hm.cap.2,r _ hm.len.1 hm.len.2,by omega,λc hc=>?_,by omega,λrow hr=>⟨by have:=(d2 row hr).1;omega,λz hz=>r z ((d2 row hr).2 z hz).1 ((d2 row hr).2 z hz).2⟩⟩;have hp:=(h.k.a.made c hc).pats;rcases Zd3 (hm.custs c hc) with ⟨k,a,b,l,r1,r2,r3,r4,r5⟩ | ⟨k,q,s,t,ru,ho,e,dm⟩
 ·exact⟨r _ DY DY,r _ DY DY,hp,by omega,r _ DY DY,r _ DY DY,r _ DY DY,r _ DY DY,r _ DY DY⟩
 ·exact⟨r _ DY DY,r _ DY DY,hp,by rw[e];simp,r _ DY DY,r _ DY DY,r _ DY DY,r _ DY DY,r _ DY DY⟩
theorem ZvK{x:Inst}{n:Nat}{p:zA}(h:PlanG x n p):PlanSz p:=⟨h.serves.sz,λd hd=>by have:=(h.s.ok d hd).2.1;omega⟩
def XX(x:Inst)(n:Nat)(l:List Int):Int:=W7 x n (jB l) (zR l 3).toNat
def vE(x:Inst)(n:Nat)(l:List Int):zA × Int:=Y0 x n (jB l) (zR l 1).toNat (zR l 2)
theorem Zkl{x:Inst}{n:Nat}(h:InstQ x n)(l:List Int):Below21 x l (XX x n l) (vE x n l).1 (vE x n l).2 0:=by
 have t1:=Y1 l 1;have t2:=Y1 l 2;have t3:=Y1 l 3;have hn1:=h.t.n1;have hA:=h.k.a;obtain⟨-,-,d3,-⟩:=Zd4 (Za9 h.m).dist;have e1:((zR l 1).toNat:Int)=zR l 1:=DY
 have e3:((zR l 3).toNat:Int)=zR l 3:=DY
 have hc:=ZvE (Zvz h) d3 (jB l) (zR l 3).toNat DY;rw[e3]at hc;have hr:=ZuI hA DY (λb h0=>(Zj8 h b h0).2) (jB l) (zR l 1).toNat DY (zR l 2) DY (zR l 3);rw[e1]at hr;have hm:=Zj9 h (jB l) (zR l 1).toNat (zR l 2);have hf:∀e:Int,uU e 0=0->e=0:=λe he=>by unfold uU at he;split at he<;>assumption
 have h6:=h.six;refine⟨hc,hr,λh0=>?_,λh0=>?_,λh0=>?_,λh0=>?_⟩
 ·obtain⟨g1,g2⟩:=hm h0;have:=Zri x (vE x n l).1 (ZvJ h) (ZvK g1)
  rwa[show Ze x (vE x n l).1=0 from g2]at this
 ·exact(hm (hf _ h0)).1.cost
 ·exact Zia x _ (hm (hf _ h0)).1.serves DY λc hc=>(hA.made c hc).fits
 ·obtain⟨g1,-⟩:=hm (hf _ h0);exact Zic x _ g1.serves.sz.n λd hd=>(g1.s.ok d hd).1
def Zd7(x:Inst)(n:Nat)(l:List Int):Rep:=Za1 x (XX x n l) (vE x n l).1 (vE x n l).2 0
theorem ZvL{x:Inst}{n:Nat}(h:InstQ x n):(qL (j5 x)).length<=1048576:=by
 have hm:=Za9 h.m;have h6:=h.six;have hl:=Zju (ls:=j5 x) (Zkj (K:=66) (Zkg h) DY DY λc hc=>by
  rcases Zd3 (hm.custs c hc) with ⟨k,a,b,l,-⟩ | ⟨k,q,s,t,ru,ho,e,-⟩
  ·omega
  ·rw[e];simp)
 have hk:(j5 x).length<=18:=by simp[j5];have:=h.t.rows;omega
 have:4027*(j5 x).length<=4027*18:=Cs _ hk;omega
theorem ZvM{x:Inst}{n:Nat}(h:InstQ x n)(l:List Int):Pure prog 12 [T (bs (qL (j5 x))),L l] (.agg (ZdL (Zd7 x n l))):=by
 have hz:=Ztl h.t h.m;have:=ZuQ (qL (j5 x)) (ZvL h) l (bd:=XX x n l) (p:=(vE x n l).1) (e:=(vE x n l).2) (c:=0) (by rw[hz]) (by rw[hz];exact Zkl h l);rw[hz]at this;exact this
theorem Zkm:qu []=(zI,2):=by unfold qu;rw[Zaz];rfl
abbrev Zbd:Wd:=[111,117,116,99,111,109,101,32,109,97,108,102,111,114,109,101,100,10]
theorem ZvN:Pure prog 21 [.agg [I 1,I 0,I 0,I 0,L ([]:List Int),L ([]:zA)]] (T (bs Zbd)):=by
 have hl:Pure prog 59 [.lst 2 [T (bs Zjs),T (bs Zjt)]] (T (bs Zbd)):=ZtR [Zjs,Zjt] DZ D4;refine zr func21 ntmps21 results21 λS nx hd=>?_
 refine D7 ?_;intro v0
 repeat apply za
 refine zb ?_;refine zj (D7 ?_);refine zm DZ ?_;refine D7 ?_;refine zt hl ?_;exact D8 hd
theorem ZvO:Pure prog 39 [T (bs []),L ([]:List Int)] (T (bs Zbd)):=by
 have h1:=ZuP [] DZ [] (by rw[Zkm];decide);rw[Zkm]at h1;have h2:=ZvN;have h3:Pure prog 12 [T (bs []),L ([]:List Int)] (.agg [I 1,I 0,I 0,I 0,L ([]:List Int),L ([]:zA)]):=h1;refine zr func39 ntmps39 results39 λS nx hd=>?_
 refine D7 ?_;refine D7 ?_;refine zt h3 ?_;refine zt h2 ?_;exact D8 hd
theorem ZvP:Pure prog 31 [] (B true):=by
 have hr:Pure prog 39 [T (bs []),.sc (.slice none 0 0)] (T (bs Zbd)):=λS=>Zlw (.cons Wk.rfl (.cons Wk.nil .nil)) (ZvO S)
 refine zr func31 ntmps31 results31 λS nx hd=>?_
 refine D7 ?_;refine D7 ?_;refine zt hr ?_;exact D8 hd
def wI(l:List Int):List Int:=[jB l,zR l 1 % 9,zR l 2 % 21,zR l 3 % 13]
theorem ZvQ(l:List Int):Pure prog 32 [L l] (L (wI l)):=by
 have hs:=ZjI l;unfold wI;generalize jB l=s at *;generalize zR l 1 % 9=a at *;generalize zR l 2 % 21=b at *;generalize zR l 3 % 13=c at *;refine zr func32 ntmps32 results32 λS nx hd=>?_
 refine D7 ?_;refine D7 ?_;refine zt hs ?_;intro v0;refine D7 ?_;exact D8 hd
open Go Go.Proofs Hp
theorem Zkn(l:List Int):jB (wI l)=jB l:=rfl
theorem ZvR(l:List Int):zR (wI l) 1=zR l 1 % 9:=by
 have:=Y1 l 1
 show (if 1000<zR l 1 % 9 then 1000 else if zR l 1 % 9<0 then 0 else zR l 1 % 9)=_
 rw[if_neg DY,if_neg DY]
theorem ZvS(l:List Int):zR (wI l) 2=zR l 2 % 21:=by
 have:=Y1 l 2
 show (if 1000<zR l 2 % 21 then 1000 else if zR l 2 % 21<0 then 0 else zR l 2 % 21)=_
 rw[if_neg DY,if_neg DY]
theorem Zko(l:List Int):zR (wI l) 3=zR l 3 % 13:=by
 have:=Y1 l 3
 show (if 1000<zR l 3 % 13 then 1000 else if zR l 3 % 13<0 then 0 else zR l 3 % 13)=_
 rw[if_neg DY,if_neg DY]
theorem ZvT(x:Inst)(n:Nat)(l:List Int):Zd7 x n l=if (vE x n l).2=0 then ⟨4,XX x n l,jR x (vE x n l).1,W (q8 x (vE x n l).1 x.cust.length),q9 x (vE x n l).1,(vE x n l).1⟩ else ⟨3,XX x n l,0,0,[],[]⟩:=by
 unfold Zd7 Za1 uU
 by_cases h:(vE x n l).2=0
 ·rw[if_pos h,if_pos h];rfl
 ·rw[if_neg h,if_neg h]
theorem ZvU(x:Inst)(l:List Int)(hx:InstOk x):Pure prog 6 [.agg (zy x),L l] (B true):=by
 have hlv:=ZvP;have hG:=Zmo x hx;have hSm:=ZjI l;have hNu:=ZvQ l;obtain⟨n,hn⟩:∃n:Nat,(yG x).days=n:=⟨(yG x).days.toNat,by have:=WL x;omega⟩;have hQ:=Zvo x hn;have hPr:=ZvI (Zkg hQ);have hPl:=ZvM hQ (wI l);have hB:=Zkl hQ (wI l);rw[ZvT]at hPl;have hm:=λh0=>(Zj9 hQ (jB (wI l)) (zR (wI l) 1).toNat (zR (wI l) 2) h0).1
 have hrq:Y0 (yG x) n (jB (wI l)) (zR (wI l) 1).toNat (zR (wI l) 2)=vE (yG x) n (wI l):=rfl;rw[hrq]at hm;obtain⟨⟨A,Bp,b1⟩,b2,-,-,-,-⟩:=hB;rw[Zkn,Zko]at b1;rw[Zkn,ZvR,ZvS,Zko]at b2;have h6:=hQ.six;generalize XX (yG x) n (wI l)=bd at *;generalize vE (yG x) n (wI l)=pe at *;obtain⟨p,e⟩:=pe;simp only at hPl hm b2;generalize wI l=ls at *;generalize jB l=sd at *;generalize zR l 1 % 9=ta at *;generalize zR l 2 % 21=tb at *;generalize zR l 3 % 13=tc at *;generalize qL (j5 (yG x))=tx at *;generalize yG x=y at *;clear hQ hrq hn hx
 by_cases he:e=0
 ·subst he;rw[if_pos rfl]at hPl;have g:=hm rfl;have hsame:=g.same;have hco:=g.refCost;have hho:=Zib y p g.serves DY λc hc=>(g.a.made c hc).fits
  have hdok:∀d∈p,DayOk d:=λd hd=>(g.s.ok d hd).1
  have hpl:p.length<=1000:=by have:=g.len;have:=g.a.n60;omega
  have hdl:(q9 y p).length=p.length:=by simp[q9]
  have hds:=Zmx (q9 y p) (q9 y p) DY DY;have hdt:∀k d,p[k]?=some d->(q9 y p).take (k+1)=(q9 y p).take k++[W (yk y d)]:=λk d hk=>by
   unfold q9;rw[AJ,Aj,hk];rfl
  clear hm g;generalize hdy:q9 y p=dy at *;generalize jR y p=co at *;generalize W (q8 y p y.cust.length)=ho at *;refine zr func6 ntmps6 results6 λS nx hd=>?_
  refine D7 ?_;intro v0;refine D7 ?_;refine zt hG ?_;intro v1;refine D7 ?_;refine zt hSm ?_;intro v2;refine D7 ?_;refine zt hPr ?_;refine zt hNu ?_;refine zt hPl ?_;intro v3;refine D7 ?_;refine zt b1 ?_;intro v4;refine D7 ?_;refine zt b2 ?_;intro v5
  repeat apply za
  refine zb ?_;refine zk DZ ?_;refine zh ?_
  repeat apply za
  refine zb ?_;refine zk DZ ?_;refine zh (D7 ?_);refine qx 12 3 1 rfl λw0=>?_
  repeat apply za
  refine zb ?_;refine zj (zC (λs:Nat × Nat=>s.1<=p.length) (λ(k,w)=>[(5,.ptr (nx+1) v1 0),(7,.ptr (nx+3) v3 0),(10,.ptr (nx+5) v5 0),(12,.sl (nx+6) w 1 0 k),(13,I k)]) (λ(k,w)=>[.cells v0 25 (zy x),.cells v1 25 (zy y),.cells v2 65 (QS sd ta tb tc),.cells v3 32 [I 4,I bd,I co,I ho,L dy,L p],.cells v4 68 [A,Bp],.cells v5 30 [L p],.cells w 3 ((dy.take k).flatMap Enc.enc)]) (λs=>p.length-s.1) (0,w0) [] DZ DZ DZ ?_);rintro⟨k,w⟩ hk;simp only at hk ⊢
  repeat apply za
  refine zb ?_;refine zv rfl (λhc=>?_) (λhc=>?_)
  ·simp at hc;obtain⟨d,tl,a1,a2,a3,f0⟩:=zF rfl p k hc;have hcd:=Zfv y d (hdok d (Ab a1));have hst:=hdt k d a1;generalize W (yk y d)=z at *;have hlk:((dy.take k).flatMap Enc.enc:List PV).length=k:=by rw[jf];simp;omega
   have htk:List.take k ((dy.take k).flatMap Enc.enc:List PV)=(dy.take k).flatMap Enc.enc:=Af (by rw[hlk];exact Ag _);have hnx:(dy.take (k+1)).flatMap Enc.enc=(dy.take k).flatMap Enc.enc++[I z]:=by rw[hst,Ap];rfl
   refine zh (za (zj (zz (some [nx+1,nx+5]) (Row.pures [0,1,2,3,4,5,6,7,8] (.alt 9 (Row.pures [10] .done) .stop)) mixed (zD f0 hc htk) ?_)));refine zG (hcd) (zD f0 hc htk) ?_;refine⟨by omega,?_⟩;refine zb ?_;exact zq (k+1,w+1) [] hc D2 (by simp[zu k (by omega)]) rfl (by simp only[hnx,AC])
  ·simp at hc;obtain rfl:k=p.length:=DY
   rw[show dy.take p.length=dy from Af DY];refine zx (zX 6 rfl ?_);rw[show L dy=.lst p.length (dy.flatMap Enc.enc) from by show PV.lst _ _=_;rw[hdl]]at hds ⊢;refine za (zz (some [nx+1,nx+3,nx+5]) (Row.pures [0,1,2,3,4,5,6,7,8,9,10,11,12,13,14,15,16,17,18,19,20,21,22,23,24,25,26,27,28,29,30,31,32,33,34] .done) mixed hdl ?_);refine zG (hsame) hdl ?_;refine zG (hco) hdl ?_;refine zG (hho) hdl ?_;refine zG (hds) hdl ?_;refine zG (hlv) hdl ?_;exact D8 hd
 ·rw[if_neg he]at hPl;refine zr func6 ntmps6 results6 λS nx hd=>?_
  refine D7 ?_;intro v0;refine D7 ?_;refine zt hG ?_;intro v1;refine D7 ?_;refine zt hSm ?_;intro v2;refine D7 ?_;refine zt hPr ?_;refine zt hNu ?_;refine zt hPl ?_;intro v3;refine D7 ?_;refine zt b1 ?_;intro v4;refine D7 ?_;refine zt b2 ?_;intro v5
  repeat apply za
  refine zb ?_;refine zk DZ ?_;refine zh ?_
  repeat apply za
  refine zb ?_;refine zm (by simp[he]) ?_;refine za (ze [(3,47),(8,52),(15,59)] trivial ?_);refine qt [(3,47),(8,52),(15,59)] hlv trivial ?_;exact D8 hd
end Go.Proofs.YtcocagkbfpgmiaaGreatDoor.Pv
