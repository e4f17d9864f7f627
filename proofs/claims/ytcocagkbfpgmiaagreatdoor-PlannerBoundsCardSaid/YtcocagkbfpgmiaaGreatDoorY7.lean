/- Part of a proof, packed. -/
import Derived.Test.YtcocagkbfpgmiaaGreatDoorY6
open Go.Proofs.Tryz (prog)
set_option maxRecDepth 100000
set_option maxHeartbeats 3200000
namespace Go.Proofs.YtcocagkbfpgmiaaGreatDoor.Pv
open Go Go.Proofs
def uk(f:Nat->Int)(p:Nat):Nat->Option Int
 | 0=>none
 | k+1=>if k=p then uk f p k else match uk f p k with
  | none=>some (f k)
  | some b=>some (if f k<b then f k else b)
def u6(f:Nat->Int)(p k:Nat):Int:=(uk f p k).getD 0
theorem ZiN(f:Nat->Int)(p:Nat):uk f p (p+1)=uk f p p:=if_pos rfl
theorem ZiO{f:Nat->Int}{p k:Nat}(h:k≠p)(hn:uk f p k=none):uk f p (k+1)=some (f k):=by
 show (if k=p then _ else _)=_
 rw[if_neg h,hn]
theorem ZiP{f:Nat->Int}{p k:Nat}{b:Int}(h:k≠p)(hn:uk f p k=some b):uk f p (k+1)=some (if f k<b then f k else b):=by
 show (if k=p then _ else _)=_
 rw[if_neg h,hn]
theorem ZiQ{S:Store}(n p:Nat)(hn:n<=2097152)(hp:p<=2097152)(g:FuncId)(ps:List PV)(f:Nat->Int)
  (h:∀k,k<n->k≠p->∀T:Store,(∀o,S o≠.dead->T o=S o)->Spec prog g (ps++[I p,I k]) T (λq S'=>q=I (f k)/\S'=T)) :
  Spec prog 161 [I n,I p,.fn (.func g) ps []] S (λq S'=>q=I (u6 f p n)/\S'=S):=by
 have hsk:=ZiN f p;have hno:=@ZiO f p;have hso:=@ZiP f p;unfold u6;have h0:uk f p 0=none:=rfl;generalize uk f p=lo at *;refine yh Tryz.func161 Tryz.ntmps161 Tryz.results161 λnx hd=>?_
 have hT:∀obs o,S o≠.dead->ext S nx obs o=S o:=λobs o ho=>by
  apply zA;rcases Bf o nx with q | q
  ·exact q
  ·exact absurd (hd o q) ho
 refine za (zb ?_);refine za (zb ?_)
 repeat apply za
 refine zb ?_;refine zj (zD (λk:Nat=>k<=n) (λk=>[(1,I p),(2,.fn (.func g) ps []),(7,I ((lo k).getD 0)),(8,B (lo k).isSome),(11,I n),(12,I k)]) (λ_=>[]) (λk=>n-k) 0 [] (by simp) (by simp[h0]) (by simp) ?_);rintro k hk;refine za (zb ?_);refine za (zv rfl (λhc=>?_) (λhc=>?_))
 ·simp at hc;refine zh (za (zj (za (zb ?_))))
  repeat apply za
  refine zb ?_
  by_cases hkp:k=p
  ·subst hkp;refine zn (by simp) ?_;refine zy (zb ?_);exact zq (k+1) [] hc (by omega) (by simp[zu k (by omega),hsk]) rfl (by simp)
  ·have hki:¬(k:Int)=p:=by omega
   have hno:=hno hkp;have hso:=@hso k;refine zm (by simp;omega) ?_;refine zh (za (zb ?_));refine λhsuf=>((h k hc hkp _ (hT _)).mono ?_).v
   rintro _ _ ⟨rfl,rfl⟩;refine⟨_,_,rfl,zL hsuf ?_⟩;cases hl:lo k with
   | none =>
    have hn1:=hno hl;refine za (ze [(2,24)] zH ?_);refine zn (by simp) ?_;refine zb ?_;refine zb ?_;exact zq (k+1) [] hc (by omega) (by simp[zu k (by omega),hn1]) rfl (by simp)
   | some b =>
    have hs1:=hso hkp hl;refine za (ze [(2,24)] trivial ?_)
    by_cases hlt:f k<b
    ·rw[if_pos hlt]at hs1;refine zn (by simp[hlt]) ?_;refine zb ?_;refine zb ?_;exact zq (k+1) [] hc (by omega) (by simp[zu k (by omega),hs1]) rfl (by simp)
    ·rw[if_neg hlt]at hs1;refine zm (by simp[hlt]) ?_;refine zh (zb ?_);exact zq (k+1) [] hc (by omega) (by simp[zu k (by omega),hs1]) rfl (by simp)
 ·simp at hc;obtain rfl:k=n:=by omega
  refine zy (za (zb ?_));exact zg (zi hd (by simp;rfl) rfl)
abbrev QG(x:Inst)(s:PV):List PV:=[I x.days,I x.veh,I x.cap,I x.len,L x.cust,L x.dist,s]
theorem Ztq{S:Store}{id ver:Nat}(x:Inst)(s:PV)(b a:Nat)(hS:S id=.cells ver 223 (QG x s)):
  Spec prog 162 [.ptr id ver 0,I b,I a] S (λq S'=>q=I (arc x a b)/\S'=S):=by
 have harc:=wO x a b;refine yh Tryz.func162 Tryz.ntmps162 Tryz.results162 λnx hd=>?_
 have hlt:id<nx:=qE hd hS (by simp);have x1:∀obs,ext S nx obs id=.cells ver 223 (QG x s):=λobs=>(zA hlt).trans hS
 refine za (zb ?_);refine za (ze [] x1 ?_);refine qt [] harc x1 ?_;exact zg (zi hd (by simp;rfl) rfl)
theorem Ztr{S:Store}{id ver ib w:Nat}(x:Inst)(l:List Int)(a b:Nat){z:Int}(hS:S id=.cells ver 223 (QG x (.sl ib w 1 0 l.length)))(hB:S ib=.cells w 3 (l.flatMap Enc.enc))(hb:l[b]?=some z):
  Spec prog 163 [.ptr id ver 0,I a,I b] S (λq S'=>q=I (W (arc x a b-z))/\S'=S):=by
 have harc:=wO x a b;have hk:b<l.length:=(Ac.1 hb).1;obtain⟨t,tl,b1,b2,b3,f0⟩:=zF rfl l b hk;obtain rfl:t=z:=by rw[hb]at b1;exact(Option.some.inj b1).symm
 refine yh Tryz.func163 Tryz.ntmps163 Tryz.results163 λnx hd=>?_
 have hlt:id<nx:=qE hd hS (by simp);have hlt2:ib<nx:=qE hd hB (by simp);have x1:∀obs,ext S nx obs id=.cells ver 223 (QG x (.sl ib w 1 0 l.length)):=λobs=>(zA hlt).trans hS
 have x2:∀obs,ext S nx obs ib=.cells w 3 (l.flatMap Enc.enc):=λobs=>(zA hlt2).trans hB
 refine za (zb ?_);refine za (zz (some [id,ib]) (Row.pures [0,1,2,3,4,5,6,7,8,9,10,11,12,13,14,15] .done) mixed (zS x1 x2 f0 hk) ?_);refine zJ (harc) (zS x1 x2 f0 hk) ?_;exact zg (zi hd (by simp;rfl) rfl)
theorem ZaC(x:Inst)(hx:x.cust.length<=1048576):Pure prog 119 [.agg (zx x)] (I ((x.cust.length+1:Nat):Int)):=by
 have w1:IntKind.i64.wrap ((x.cust.length:Int)+1)=(x.cust.length:Int)+1:=by rw[AI];omega
 refine zt Tryz.func119 Tryz.ntmps119 Tryz.results119 λS nx hd=>?_
 refine za (zb ?_);intro v0;refine za (ze [] w1 ?_);exact zg (zi hd (by simp;rfl) (by simp[zp]))
open Go Go.Proofs
@[simp] theorem Zx5(a b c d:Nat)(v:Value):xB a b c d (.sc v)=.sc v:=rfl
@[simp] theorem Zx6(a b c d:Nat)(k:Nat)(l:List PV):xB a b c d (.lst k l)=.lst k l:=rfl
@[simp] theorem Zx7(a b c d:Nat)(l:List PV):xB a b c d (.agg l)=.agg l:=rfl
@[simp] theorem Zx8(a b c d o v sz off k:Nat):xB a b c d (.sl o v sz off k)=if o=a/\v=b then .sl c d sz off k else .sl o v sz off k:=rfl
@[simp] theorem Zx9(a b c d o v off:Nat):xB a b c d (.ptr o v off)=if o=a/\v=b then .ptr c d off else .ptr o v off:=rfl
@[simp] theorem Zya(a b c d v e:Nat)(l:List PV):Y1 a b c d (.cells v e l)=.cells v e (l.map (xB a b c d)):=rfl
@[simp] theorem Zyb(a b c d:Nat):Y1 a b c d .dead=.dead:=rfl
theorem Zdk(n:Nat):yY n (.int .i64 0)=List.replicate n (I 0):=by
 apply Bb
 ·simp[yY]
 ·intro i q1 q2;simp[yY,Nat.mod_one]
theorem ZiR{S:Store}{nx:Nat}{obs:List Ob}(hd:zT nx S){j k:Nat}{x y:Ob}(hj:obs[j]?=some x)(hk:obs[k]?=some y)(o:Nat):((S.set (nx+j) x).set (nx+k) y) o=ext S nx obs o\/((S.set (nx+j) x).set (nx+k) y) o=.dead:=by
 by_cases ho:o=nx+k
 ·subst ho;rw[q11,zU,Aa,hk];exact .inl rfl
 ·rw[q10 _ _ _ _ ho];exact Y7 hd hj o
theorem Zts{S:Store}{nx:Nat}(hd:zT nx S)(x:Inst)(hx:x.cust.length<=1048576):
  Spec prog 160 [.agg (zx x)] S (λq S'=>∃v w,q=.agg [.sl (nx+4) v 1 0 (x.cust.length+1),.sl (nx+5) w 1 0 (x.cust.length+1)] /\
   S'=(S.set (nx+4) (.cells v 3 (List.replicate (x.cust.length+1) (I 0)))).set (nx+5) (.cells w 3 (List.replicate (x.cust.length+1) (I 0)))):=by
 have hpl:=ZaC x hx;obtain⟨n,hn⟩:∃n,n=x.cust.length+1:=⟨_,rfl⟩;rw[<-hn]at hpl ⊢;have hn1:n<=1048577:=by omega
 have hzr:=Zdk n;refine ut hd Tryz.func160 Tryz.ntmps160 Tryz.results160 ?_;refine za (zb ?_);intro v0 v1;refine za (zb ?_);refine zr hpl ?_;refine za (zz (some []) (Row.pures [0,2] (.alt 1 (.alt 3 (Row.pures [4] (.alt 5 (.done) .stop)) .stop) (.alt 3 (.alt 1 (Row.pures [4] (.alt 5 (.done) .stop)) .stop) .stop))) mixed trivial ?_);have hk:(n:Int)<=140737488355328/\n*8<=281474976710656:=by omega
 refine⟨⟨hk,λv=>⟨hk,λw=>?_⟩⟩,⟨hk,λv=>⟨hk,λw=>?_⟩⟩⟩
 ·refine Yl 2 rfl λa=>?_
  refine Yl 3 rfl λb=>?_
  exact zg ⟨_,_,by simp;rfl,⟨a,b,by simp[zp],rfl⟩,λo=>ZiR (j:=4) (k:=5) hd (by simp[hzr]) (by simp[hzr]) o⟩
 ·refine Yl 3 rfl λa=>?_
  refine Yl 2 rfl λb=>?_
  exact zg ⟨_,_,by simp;rfl,⟨a,b,by simp[zp],rfl⟩,λo=>ZiR (j:=4) (k:=5) hd (by simp[hzr]) (by simp[hzr]) o⟩
theorem Ztt{S:Store}{nx:Nat}{obs:List Ob}(x:Inst)(hx:x.cust.length<=1048576):
  Spec prog 160 [.agg (zx x)] (ext S nx obs) (λq S'=>∃v w,q=.agg [.sl (nx+(obs.length+4)) v 1 0 (x.cust.length+1),.sl (nx+(obs.length+5)) w 1 0 (x.cust.length+1)] /\
   S'=ext S nx (obs++[.dead,.dead,.dead,.dead,.cells v 3 (List.replicate (x.cust.length+1) (I 0)),.cells w 3 (List.replicate (x.cust.length+1) (I 0))])):=by
 refine(Zts jF x hx).mono ?_;rintro _ _ ⟨v,w,rfl,rfl⟩;refine⟨v,w,by rw[Nat.add_assoc,Nat.add_assoc],?_⟩;rw[JT 4];have e2:=qN (S:=S) (nx:=nx) (obs:=obs++List.replicate 4 .dead++[.cells v 3 (List.replicate (x.cust.length+1) (I 0))]) (.cells w 3 (List.replicate (x.cust.length+1) (I 0)));rw[show nx+obs.length+5=nx+(obs++List.replicate 4 Ob.dead++[Ob.cells v 3 (List.replicate (x.cust.length+1) (I 0))]).length by simp;omega,e2];simp[List.replicate]
def xJ(x:Inst)(l:List Int):List Int:=(List.range (x.cust.length+1)).map λb:Nat=>min (max (l.getD b 0) 0) (u6 (λa=>arc x a b) b (x.cust.length+1))
def jY(x:Inst)(i:List Int):List Int:=(List.range (x.cust.length+1)).map λa:Nat=>u6 (λb=>W (arc x a b-i.getD b 0)) a (x.cust.length+1)
theorem ZaD(x:Inst)(l:List Int):(xJ x l).length=x.cust.length+1:=by simp[xJ]
theorem Zdl(x:Inst)(i:List Int):(jY x i).length=x.cust.length+1:=by simp[jY]
theorem Ztu{f:Nat->Int}{p:Nat}{lo hi:Int}(h0:lo<=0)(h1:0<=hi)(h:∀k:Nat,lo<=f k/\f k<=hi)(n:Nat):lo<=u6 f p n/\u6 f p n<=hi:=by
 have:∀n,∀b,uk f p n=some b->lo<=b/\b<=hi:=by
  intro n
  induction n with
  | zero=>intro b hb;cases hb
  | succ n ih =>
   intro b hb
   by_cases hp:n=p
   ·subst hp;rw[ZiN]at hb;exact ih b hb
   ·cases ho:uk f p n with
    | none=>rw[ZiO hp ho]at hb;cases hb;exact h n
    | some c =>
     rw[ZiP hp ho]at hb;cases hb;split
     ·exact h n
     ·exact ih c ho
 unfold u6;cases e:uk f p n with
 | none=>exact⟨h0,h1⟩
 | some b=>exact this n b e
theorem Zdm(cs:List PV)(k:Nat)(v:PV)(h:k<cs.length):yc cs k [v]=cs.set k v:=by
 unfold yc;rw[AH,if_pos h];simp
theorem ZiS{l m:List Int}{k:Nat}{z:Int}(hk:k<m.length)(hl:l.length=m.length)(h:m[k]?=some z):yc ((m.take k++l.drop k).flatMap Enc.enc) k [I z]=(m.take (k+1)++l.drop (k+1)).flatMap Enc.enc:=by
 have e:∀l:List Int,l.flatMap Enc.enc=l.map I:=λl=>by
  induction l with
  | nil=>rfl
  | cons a l ih=>rw[AA,ih];rfl
 rw[Zdm _ _ _ (by rw[e];simp;omega),e,e,<-List.map_set];congr 1;rw[AN,h,Bx _ _ (by simp;omega),Ay,Bc (by omega),Bw,List.append_assoc];congr 1;rw[List.drop_eq_getElem_cons (by omega)];rfl
theorem ZiT(x:Inst)(l:List Int)(hx:x.cust.length<=1048576)(hl:l.length=x.cust.length+1):Pure prog 120 [.agg (zx x),L l] (.agg [L (jY x (xJ x l)),L (xJ x l)]):=by
 have hpl:=ZaC x hx;have hz:=λ(S:Store) nx obs=>Ztt (S:=S) (nx:=nx) (obs:=obs) x hx
 have hIl:=ZaD x l;have hIa:∀k,k<x.cust.length+1->(xJ x l)[k]?=some (min (max (l.getD k 0) 0) (u6 (λa=>arc x a k) k (x.cust.length+1))):=λk hk=>by unfold xJ;rw[Aj,AQ hk];rfl
 generalize xJ x l=i at *;have hOl:=Zdl x i;have hOa:∀k,k<x.cust.length+1->(jY x i)[k]?=some (u6 (λb=>W (arc x k b-i.getD b 0)) k (x.cust.length+1)):=λk hk=>by unfold jY;rw[Aj,AQ hk];rfl
 generalize jY x i=o at *;obtain⟨n,hn⟩:∃n,n=x.cust.length+1:=⟨_,rfl⟩;rw[<-hn]at hpl hz hl hIl hIa hOl hOa;have hn1:n<=1048577:=by omega
 have hfl:∀l:List Int,l.flatMap Enc.enc=l.map I:=λl=>by
  induction l with
  | nil=>rfl
  | cons a l ih=>rw[AA,ih];rfl
 have hll:(l.flatMap Enc.enc:List PV).length=n:=by rw[hfl];simpa using hl
 have hLl:L l=.lst (l.flatMap Enc.enc:List PV).length (l.flatMap Enc.enc):=by
  show PV.lst l.length _=_
  rw[hll,hl]
 rw[hLl];obtain⟨M,hM⟩:∃M:Nat->List Int,M=λk=>i.take k++l.drop k:=⟨_,rfl⟩
 have hMz:M 0=l:=by rw[hM];simp
 have hMn:M n=i:=by rw[hM];show i.take n++l.drop n=i;rw[Af (by omega),Bg (by omega),AF]
 have hMl:∀k,k<=n->(M k).length=n:=λk hk=>by rw[hM];simp;omega
 have hMa:∀k,k<n->(M k)[k]?=some (l.getD k 0):=λk hk=>by
  rw[hM]
  show (i.take k++l.drop k)[k]?=_
  rw[Ak (by simp;omega),Ay,Bc (by omega),Bw,AM,Bm,Aa,Ad (by omega)];rfl
 have hMs:∀k z,k<n->i[k]?=some z->yc ((M k).flatMap Enc.enc) k [I z]=(M (k+1)).flatMap Enc.enc:=λk z hk hz=>by rw[hM];exact ZiS (by omega) (by omega) hz
 clear hM;refine zt Tryz.func120 Tryz.ntmps120 Tryz.results120 λS nx hd=>?_
 refine za (zb ?_);intro v0 v1;refine za (zz (some [nx]) (Row.pures [0,2] (.alt 1 (Row.pures [3] (.alt 4 (.alt 5 (Row.pures [6] .done) .stop) .stop)) (.alt 4 (.alt 1 (Row.pures [3] (.alt 5 (Row.pures [6] .done) .stop)) .stop) .stop))) mixed trivial ?_);refine⟨?_,λv2=>?_⟩
 all_goals
  refine((hz S nx _).mono ?_).v;rintro _ _ ⟨vo,vi,rfl,rfl⟩;simp only[Ae,Ah,Nat.reduceAdd,List.cons_append,AS];refine⟨by simp[yE],js trivial ?_⟩;refine zJ (hpl) trivial ?_;intros
 all_goals first
  | (refine Yl 6 rfl λwo=>?_;refine Yl 7 rfl λwi=>?_;refine Yl 8 rfl λwp=>?_)
  | (refine Yl 7 rfl λwo=>?_;refine Yl 8 rfl λwi=>?_;refine Yl 2 rfl λwp=>?_)
 all_goals
  refine za (zb ?_);refine λhsuf=>Zdj (id:=nx+10) (ver:=wi) (e:=3) (l:=l.flatMap Enc.enc) rfl Tryz.underlying26 (by kernel_rfl) (m:=n) rfl (by show PV.lst l.length _=_;rw[hll,hl]) (by rw[zU];rfl) (by simp) (by omega) ?_
  rw[hll,Nat.min_self,Af (by omega),Bg (by simp),AF];refine⟨_,_,yg _ (by omega) (by simp),zL hsuf ?_⟩;refine za (zb ?_);intro v3
  repeat apply za
  refine zb ?_;have hM0:l.flatMap Enc.enc=(M 0).flatMap Enc.enc:=by rw[hMz]
  refine zj (zD (λk:Nat=>k<=n) (λk=>[(4,.ptr (nx+1) v1 0),(5,.ptr (nx+11) wp 0),(6,I n),(7,.ptr (nx+12) v3 0),(23,I n),(24,I k)]) (λk=>[.cells v0 25 (zx x),.cells v1 68 [.sc (.slice none 0 0),.sc (.slice none 0 0)],.dead,.dead,.dead,.dead,.dead,.dead,.dead,.cells wo 3 (List.replicate n (I 0)),.cells wi 3 ((M k).flatMap Enc.enc),.cells wp 68 [.sl (nx+9) wo 1 0 n,.sl (nx+10) wi 1 0 n],.cells v3 223 (QG x (.sl (nx+10) wi 1 0 n))]) (λk=>n-k) 0 [] (by simp) (by simp) (by simp[hM0]) ?_);rintro k hk;refine za (zb ?_)
  by_cases hc:k<n
  ·have hci:(k:Int)<n:=by omega
   refine za (zn (by simp;omega) ?_);refine zh (za (zj ?_));have hik:=hIa k hc;have hml:=hMl k hk;have hma:=hMa k hc;have hms:=λz h=>hMs k z hc h
   have hle:=λ(T0:Store) (h0:T0 (nx+12)=.cells v3 223 (QG x (.sl (nx+10) wi 1 0 n)))=>ZiQ (S:=T0) n k (by omega) (by omega) 162 [.ptr (nx+12) v3 0] (λa=>arc x a k) (λa _ _ T hT=>Ztq x (.sl (nx+10) wi 1 0 n) k a (by rw[hT _ (by rw[h0];simp),h0]))
   have hcl:=Xe (l.getD k 0) 0 (u6 (λa=>arc x a k) k n);generalize u6 (λa=>arc x a k) k n=lv at *;generalize l.getD k 0=t at *;generalize min (max t 0) lv=z at *;have hms:=hms z hik;generalize hmk1:M (k+1)=mk1 at *;generalize M k=mk at *;obtain⟨t',tl,b1,b2,b3,f0⟩:=zF rfl mk k (by omega);obtain rfl:t'=t:=by rw[hma]at b1;exact(Option.some.inj b1).symm
   have hkm:k<mk.length:=by omega
   refine za (zb ?_);refine zz (some [nx+11]) (Row.pures [0,1,2,3,4,5,6,8,9,10,11] (.alt 7 (.alt 12 (Row.pures [13,14] (.alt 15 (.done) .stop)) .stop) (.alt 12 (.alt 7 (Row.pures [13,14] (.alt 15 (.done) .stop)) .stop) .stop))) mixed (zS f0 hkm hc hml) ?_;refine⟨?_,?_⟩
   all_goals
    refine((hle _ (by rw[zU];rfl)).mono ?_).v;rintro _ _ ⟨rfl,rfl⟩;refine⟨by simp[yE],js (zS f0 hkm hc hml) ?_⟩;refine zJ (hcl) (zS f0 hkm hc hml) ?_;refine⟨by omega,?_⟩;refine zb ?_;exact zq (k+1) [] (by omega) (by omega) (by simp[zu k (by omega)]) rfl (by simp[hms,hmk1])
  ·obtain rfl:k=n:=by omega
   refine za (zm (by simp) ?_);refine zy ?_;rw[hMn];obtain⟨U,hU⟩:∃U:Nat->List Int,U=λj=>o.take j++(List.replicate k (0:Int)).drop j:=⟨_,rfl⟩
   have hU0:List.replicate k (I 0)=(U 0).flatMap Enc.enc:=by rw[hU,hfl];simp
   have hUn:U k=o:=by rw[hU];show o.take k++(List.replicate k (0:Int)).drop k=o;rw[Af (by omega),Bg (by simp),AF]
   have hUl:∀j,j<=k->(U j).length=k:=λj hj=>by rw[hU];simp;omega
   have hUs:∀j z,j<k->o[j]?=some z->yc ((U j).flatMap Enc.enc) j [I z]=(U (j+1)).flatMap Enc.enc:=λj z hj hz=>by rw[hU];exact ZiS (by omega) (by simp;omega) hz
   clear hU
   repeat apply za
   refine zb ?_;refine zj (zD (λj:Nat=>j<=k) (λj=>[(4,.ptr (nx+1) v1 0),(5,.ptr (nx+11) wp 0),(6,I k),(7,.ptr (nx+12) v3 0),(43,I k),(44,I j)]) (λj=>[.cells v0 25 (zx x),.cells v1 68 [.sc (.slice none 0 0),.sc (.slice none 0 0)],.dead,.dead,.dead,.dead,.dead,.dead,.dead,.cells wo 3 ((U j).flatMap Enc.enc),.cells wi 3 (i.flatMap Enc.enc),.cells wp 68 [.sl (nx+9) wo 1 0 k,.sl (nx+10) wi 1 0 k],.cells v3 223 (QG x (.sl (nx+10) wi 1 0 k))]) (λj=>k-j) 0 [] (by simp) (by simp) (by simp[hU0]) ?_);rintro j hj;refine za (zb ?_)
   by_cases hc:j<k
   ·have hci:(j:Int)<k:=by omega
    refine za (zn (by simp;omega) ?_);refine zh (za (zj ?_));have hoj:=hOa j hc;have hul:=hUl j hj;have hus:=λz h=>hUs j z hc h
    have hle:=λ(T0:Store) (h0:T0 (nx+12)=.cells v3 223 (QG x (.sl (nx+10) wi 1 0 k))) (h1:T0 (nx+10)=.cells wi 3 (i.flatMap Enc.enc))=>ZiQ (S:=T0) k j (by omega) (by omega) 163 [.ptr (nx+12) v3 0] (λb=>W (arc x j b-i.getD b 0)) (λb hb _ T hT=>Ztr x i j b (by rw[hT _ (by rw[h0];simp),h0,hIl]) (by rw[hT _ (by rw[h1];simp),h1]) (by rw[Aa,Ad (by omega)];rfl))
    generalize u6 (λb=>W (arc x j b-i.getD b 0)) j k=lv at *;have hus:=hus lv hoj;generalize hu1:U (j+1)=u1 at *;generalize U j=uj at *;have hkm:j<uj.length:=by omega
    have hkl:j<(uj.flatMap Enc.enc:List PV).length:=by rw[hfl];simpa using hkm
    refine za (zb ?_);refine zz (some [nx+11]) (Row.pures [0,1,2,3,4,5,6] (.alt 7 (Row.pures [8] (.alt 9 (.done) .stop)) .stop)) mixed (zS hkm hkl hc hul) ?_;refine((hle _ (by rw[zU];rfl) (by rw[zU];rfl)).mono ?_).v;rintro _ _ ⟨rfl,rfl⟩;refine⟨by simp[yE],js (zS hkm hkl hc hul) ?_⟩;refine⟨by omega,?_⟩;refine zb ?_;exact zq (j+1) [] (by omega) (by omega) (by simp[zu j (by omega)]) rfl (by simp[hus,hu1])
   ·obtain rfl:j=k:=by omega
    refine za (zm (by simp) ?_);refine zy ?_;rw[hUn];refine yb 9 rfl ?_;refine yb 10 rfl ?_;refine za (zb ?_);exact zg (zi hd (by simp;rfl) (by simp[zp,hOl,hIl]))
theorem Ztv(n:Nat)(z:Int):L (List.replicate n z)=.lst n (List.replicate n (I z)):=by
 show PV.lst _ _=_
 rw[BH];congr 1
 induction n with
 | zero=>rfl
 | succ n ih=>rw[BG,AA,ih];rfl
theorem Ztw(x:Inst)(hx:x.cust.length<=1048576):Pure prog 77 [.agg (zx x)] (.agg [L (jY x (xJ x (List.replicate (x.cust.length+1) 2147483648))),L (xJ x (List.replicate (x.cust.length+1) 2147483648))]):=by
 have hpl:=ZaC x hx;have hfit:=ZiT x (List.replicate (x.cust.length+1) 2147483648) hx (by simp);rw[Ztv]at hfit;generalize xJ x (List.replicate (x.cust.length+1) 2147483648)=i at *;generalize jY x i=o at *;obtain⟨n,hn⟩:∃n,n=x.cust.length+1:=⟨_,rfl⟩;rw[<-hn]at hpl hfit;have hn1:n<=1048577:=by omega
 have hzr:=Zdk n;have hk0:(n:Int)<=140737488355328/\n*8<=281474976710656:=by omega
 refine zt Tryz.func77 Tryz.ntmps77 Tryz.results77 λS nx hd=>?_
 refine za (zb ?_);intro v0 v1;refine za (zb ?_);refine zr hpl ?_;refine⟨hk0,λv2=>?_⟩
 repeat apply za
 refine zb ?_;have hset:∀k,k<n->yc (List.replicate k (I 2147483648)++List.replicate (n-k) (I 0)) k [I 2147483648]=List.replicate (k+1) (I 2147483648)++List.replicate (n-(k+1)) (I 0):=λk hk=>by
  rw[Zdm _ _ _ (by simp;omega),Bx _ _ (by simp),BH,Bw,show n-k=(n-(k+1))+1 by omega,BG,Ba,List.replicate_succ'];simp
 refine zj (zD (λk:Nat=>k<=n) (λk=>[(1,.ptr nx v0 0),(2,.ptr (nx+1) v1 0),(3,.sl (nx+2) v2 1 0 n),(9,I n),(10,I k)]) (λk=>[.cells v0 25 (zx x),.cells v1 68 [.sc (.slice none 0 0),.sc (.slice none 0 0)],.cells v2 3 (List.replicate k (I 2147483648)++List.replicate (n-k) (I 0))]) (λk=>n-k) 0 [] (by simp) (by simp) (by simp[hzr]) ?_);rintro k hk;refine za (zb ?_)
 by_cases hc:k<n
 ·refine za (zn (by simp;omega) ?_);refine zh (za (zj ?_));have hs:=hset k hc;have hl:(List.replicate k (I 2147483648)++List.replicate (n-k) (I 0)).length=n:=by simp;omega
  generalize hc1:List.replicate (k+1) (I 2147483648)++List.replicate (n-(k+1)) (I 0)=c1 at *;generalize List.replicate k (I 2147483648)++List.replicate (n-k) (I 0)=c0 at *;have hkl:k<c0.length:=by omega
  refine za (zb ?_);refine ze [] (zo hc hkl) ?_;refine⟨by omega,?_⟩;refine zb ?_;exact zq (k+1) [] (by omega) (by omega) (by simp[zu k (by omega)]) rfl (by simp only[hs,hc1,AF])
 ·obtain rfl:k=n:=by omega
  refine za (zm (by simp) ?_);refine zy ?_;rw[Bw,List.replicate_zero,AF];refine yb 2 rfl ?_;refine za (zb ?_);refine zr hfit ?_;exact zg (zi hd (by simp;rfl) rfl)
theorem Ztx(x:Inst)(a b:List Int)(pl:Nat)(d:Int)(hx:x.cust.length<=1048576)(hb:b.length=x.cust.length+1)(hp:pl<x.cust.length+1):
  Pure prog 82 [.agg (zx x),.agg [L a,L b],I pl,I d] (.agg [L (jY x (xJ x (b.set pl (W (b.getD pl 0-d))))),L (xJ x (b.set pl (W (b.getD pl 0-d))))]):=by
 have hpl:=ZaC x hx;have hfit:=ZiT x (b.set pl (W (b.getD pl 0-d))) hx (by simpa using hb);generalize xJ x (b.set pl (W (b.getD pl 0-d)))=i at *;generalize jY x i=o at *;obtain⟨t,tl,b1,b2,b3,f0⟩:=zF rfl b pl (by omega);have e1:b.getD pl 0=t:=by rw[Aa,b1];rfl
 rw[e1]at hfit;have hfl:∀l:List Int,l.flatMap Enc.enc=l.map I:=λl=>by
  induction l with
  | nil=>rfl
  | cons a l ih=>rw[AA,ih];rfl
 have hset:yc (b.flatMap Enc.enc) pl [I (W (t-d))]=(b.set pl (W (t-d))).flatMap Enc.enc:=by rw[Zdm _ _ _ (by rw[hfl];simp;omega),hfl,hfl,List.map_set]
 have hsl:(b.set pl (W (t-d))).length=b.length:=Bz;have hLs:L (b.set pl (W (t-d)))=.lst b.length ((b.set pl (W (t-d))).flatMap Enc.enc):=by show PV.lst _ _=_;rw[hsl]
 rw[hLs]at hfit;obtain⟨n,hn⟩:∃n,n=x.cust.length+1:=⟨_,rfl⟩;rw[<-hn]at hpl hp hb;have hn1:n<=1048577:=by omega
 have hzr:=Zdk n;have hk0:(n:Int)<=140737488355328/\n*8<=281474976710656:=by omega
 have hll:(b.flatMap Enc.enc:List PV).length=n:=by rw[hfl];simpa using hb
 have c1:¬(pl:Int)<0:=by omega
 have hpb:pl<b.length:=by omega
 rw[hb]at hfit;refine zt Tryz.func82 Tryz.ntmps82 Tryz.results82 λS nx hd=>?_
 refine za (zb ?_);intro v0 v1 v2;refine za (zb ?_);refine zr hpl ?_;refine⟨hk0,λv3=>?_⟩;refine za (zb ?_);refine λhsuf=>Zdj (id:=nx+3) (ver:=v3) (e:=3) (l:=b.flatMap Enc.enc) rfl Tryz.underlying26 (by kernel_rfl) (m:=n) rfl (by show PV.lst b.length _=_;rw[hll,hb]) (by rw[zU];rfl) (by simp[yY]) (by omega) ?_
 rw[hll,Nat.min_self,Af (by omega),Bg (by simp[yY]),AF];refine⟨_,_,yg _ (by omega) (by simp),zL hsuf ?_⟩
 repeat apply za
 refine ze [(2,19)] (zo c1 hp) ?_;refine zn (by simp) ?_;refine ze [] (zE f0 hpb hp) ?_;refine⟨by omega,?_⟩;rw[hset];refine yb 3 rfl ?_;refine za (ze [] hb ?_);refine qt [] hfit hb ?_;exact zg (zi hd (by simp;rfl) rfl)
open Go Go.Proofs Hp
structure InstK (x:Inst) (n:Nat):Prop where
 a:InstA x n
 kind:∀c∈x.cust,Zrx c
 start:∀c∈x.cust,c.start<=c.size
open Go Go.Proofs Hp
structure MayP (x:Inst):Prop where
 days:1<=x.days/\x.days<=64
 cust:x.cust.length<=2000
 veh:0<=x.veh/\x.veh<=2147483648
 cap:0<=x.cap/\x.cap<=2147483648
 len:0<=x.len/\x.len<=2147483648
 custs:∀c∈x.cust,xF c x.days=true
 dist:Zw x.dist (x.cust.length+1)=true
theorem WN{x:Inst}(h:qV x=true):MayP x:=by
 unfold qV at h;simp only[Au,As,decide_eq_true_eq,yu]at h;obtain⟨⟨⟨⟨⟨⟨h1,h2⟩,h3⟩,h4⟩,h5⟩,h6⟩,h7⟩:=h;exact⟨h1,h2,h3,h4,h5,h6,h7⟩
theorem Zty{x:Inst}(h:MayP x):qV x=true:=by
 unfold qV;simp only[Au,As,decide_eq_true_eq,yu];exact⟨⟨⟨⟨⟨⟨h.days,h.cust⟩,h.veh⟩,h.cap⟩,h.len⟩,h.custs⟩,h.dist⟩
def Ztz(c:Cust)(d:Int):Prop:=c.kind=1/\(1<=c.demand/\c.demand<=2147483648)/\(∀p∈c.pats,Z9 p d<0)/\(1<=c.pats.length/\c.pats.length<=64)/\c.rate=0/\c.size=0/\c.start=0/\c.rule=0/\c.hold=0
def ZtA(c:Cust):Prop:=c.kind=2/\(0<=c.rate/\c.rate<=2147483648)/\(1<=c.size/\c.size<=2147483648)/\(0<=c.start/\c.start<=c.size)/\(c.rule=1\/c.rule=2)/\(0<=c.hold/\c.hold<=1024)/\c.pats=[]/\c.demand=0
theorem Zdn{c:Cust}{d:Int}(h:xF c d=true):Ztz c d\/ZtA c:=by
 unfold xF at h;split at h
 ·rename_i hk;simp only[Au,yu,decide_eq_true_eq,uV,Zu,As]at h;obtain⟨⟨h1,h2,h3⟩,h4⟩:=h;exact .inl ⟨hk,h1,h2,by omega,h4⟩
 ·split at h
  ·rename_i hk;simp only[Au,yu,decide_eq_true_eq,Qp,YJ]at h;obtain⟨⟨⟨⟨⟨h1,h2⟩,h3⟩,h4⟩,h5⟩,h6,h7⟩:=h;exact .inr ⟨hk,h1,h2,h3,h4,h5,Aw h6,h7⟩
  ·cases h
theorem ZiU{p n:Nat}(h:Z9 p n<0):∀d∈yD p 0 64,d<n:=by
 have h0:yD p (n:Int).toNat 64=[]:=by
  unfold Z9 at h;cases e:yD p (n:Int).toNat 64 with
  | nil=>rfl
  | cons a l =>
   rw[e]at h;obtain⟨k,rfl,-⟩:=Wx (p:=p) (a:=(n:Int).toNat) (k:=64) (d:=a) (by rw[e];simp);simp only[List.headD_cons]at h;omega
 rw[ZgQ,Cy]at h0;intro d hd;have:=h0 d hd;simp at this;omega
theorem ZtB{p n:Nat}(hp:p<2 ^ 64)(h:∀d∈yD p 0 64,d<(n:Int)):p<2 ^ n:=by
 apply Nat.lt_pow_two_of_testBit;intro i hi
 by_cases h64:i<64
 ·rw[Xg,decide_eq_false_iff_not];intro hb;have:(i:Int)∈yD p 0 64:=by
   simp only[yD,An,Bd,AJ,Au,decide_eq_true_eq];exact⟨i,⟨h64,by omega,hb⟩,rfl⟩
  have:=h _ this;omega
 ·exact CV (Bq hp (Cn (by decide) (by omega)))
theorem ZiV(n:Nat):∀(l:List (List Int)) (a:Nat),Zv n a l=true->∀r∈l,r.length=n/\∀z∈r,0<=z/\z<=2147483648
 | [],_,_=>by simp
 | row :: l,a,h=>by
  simp only[Zv,Au,decide_eq_true_eq,As,yu]at h;obtain⟨⟨⟨h1,h2⟩,h3⟩,h4⟩:=h;intro r hr;rcases Aq.1 hr with rfl | hr
  ·exact⟨h1,h3⟩
  ·exact ZiV n l (a+1) h4 r hr
theorem Zdo{x:Inst}(h:Zw x.dist (x.cust.length+1)=true):x.dist.length=x.cust.length+1/\(∀r∈x.dist,r.length=x.cust.length+1/\∀z∈r,0<=z/\z<=2147483648)/\qU x/\arc x 0 0=0:=by
 unfold Zw at h;simp only[Au,decide_eq_true_eq]at h;have hr:=ZiV _ _ _ h.2;refine⟨h.1,hr,λa b=>?_,?_⟩
 ·unfold arc;split
  ·omega
  ·rw[Aa,Aa];cases e:x.dist[a.toNat]? with
   | none=>simp
   | some r =>
    rw[Option.getD_some];cases e2:r[b.toNat]? with
    | none=>simp
    | some z=>exact(hr r (Ab e)).2 z (Ab e2)
 ·obtain⟨h1,h2⟩:=h;cases e:x.dist with
  | nil=>rw[e]at h1;simp at h1
  | cons row l =>
   rw[e]at h2;simp only[Zv,Au,decide_eq_true_eq]at h2;have:=h2.1.1.2;unfold arc;rw[if_neg (by omega),e];exact this
structure InstQ (x:Inst) (n:Nat):Prop where
 k:InstK x n
 m:qV x=true
 t:InstT x n
 six:x.cust.length<=6
 n7:n<=7
theorem ZiW{x:Inst}{n:Nat}(h:qV x=true)(hp:∀c∈x.cust,∀p∈c.pats,p<2 ^ 64)(hn:x.days=n)(h7:n<=7)(h6:x.cust.length<=6):InstQ x n:=by
 have hm:=WN h;obtain⟨d1,d2,d3,d4⟩:=Zdo hm.dist;have hc:=λc hc=>Zdn (hm.custs c hc)
 rw[hn]at hc;have hmade:∀c∈x.cust,CustMade c n:=λc hcm=>by
  rcases hc c hcm with ⟨k,a,b,l,r1,r2,r3,r4,r5⟩ | ⟨k,r,s,t,ru,ho,e,dm⟩
  ·exact⟨⟨by omega,by omega,by omega⟩,hp c hcm,by omega,λ_=>⟨λp hpm=>ZiU (b p hpm),by omega,by omega⟩⟩
  ·exact⟨⟨by omega,by omega,by omega⟩,hp c hcm,by rw[e];simp,λh=>by omega⟩
 have nm:∀z:Int,0<=z->z<=2147483648->ZE z:=λz a b=>⟨a,by omega⟩
 refine⟨⟨⟨⟨by omega,d4,d3,hm.veh.1⟩,hn,by omega,hmade,λc hcm=>?_⟩,λc hcm=>?_,λc hcm=>?_⟩,h,⟨hn,by have:=hm.days;omega,by omega,⟨nm _ hm.veh.1 hm.veh.2,nm _ hm.cap.1 hm.cap.2,nm _ hm.len.1 hm.len.2⟩,by omega,λc hcm=>?_,d1,λr hr=>⟨(d2 r hr).1,λz hz=>nm z ((d2 r hr).2 z hz).1 ((d2 r hr).2 z hz).2⟩⟩,h6,h7⟩
 ·rcases hc c hcm with ⟨k,a,b,l,r1,r2,r3,r4,r5⟩ | ⟨k,r,s,t,ru,ho,e,dm⟩
  ·omega
  ·rw[e];simp
 ·rcases hc c hcm with ⟨k,a,b,l,r1,r2,r3,r4,r5⟩ | ⟨k,r,s,t,ru,ho,e,dm⟩
  ·exact .inl ⟨k,r4⟩
  ·exact .inr ⟨k,ru⟩
 ·rcases hc c hcm with ⟨k,a,b,l,r1,r2,r3,r4,r5⟩ | ⟨k,r,s,t,ru,ho,e,dm⟩
  ·omega
  ·exact t.2
 ·rcases hc c hcm with ⟨k,a,b,l,r1,r2,r3,r4,r5⟩ | ⟨k,r,s,t,ru,ho,e,dm⟩
  ·exact⟨.inl ⟨k,nm _ (by omega) (by omega),λp hpm=>ZtB (hp c hcm p hpm) (ZiU (b p hpm)),r1,r2,r3,r4,r5⟩⟩
  ·exact⟨.inr ⟨k,dm,e,nm _ (by omega) (by omega),nm _ (by omega) (by omega),nm _ (by omega) (by omega),ru,nm _ (by omega) (by omega)⟩⟩
theorem ZtC(x:Inst):∀c∈(yo x).cust,∀p∈c.pats,p<2 ^ 64:=λc hc=>((Zrq x).made c hc).pats
theorem ZtD(x:Inst){n:Nat}(hn:(yo x).days=n):InstQ (yo x) n:=ZiW (Zrv x) (ZtC x) hn (by have:=Wy x;omega) (ZbP x)
def qQ(x:Inst):Inst:={ x with veh:=0 }
theorem ZtE{x:Inst}{n:Nat}(h:InstQ x n):InstQ (qQ x) n:=by
 have hm:=WN h.m;exact ZiW (Zty ⟨hm.days,hm.cust,by show (0:Int)<=0/\(0:Int)<=_;omega,hm.cap,hm.len,hm.custs,hm.dist⟩) (λc hc=>(h.k.a.made c hc).pats) h.k.a.days h.n7 h.six
open Go Go.Proofs
theorem QH(a:Int):zM (W a):=by
 show -9223372036854775808<=IntKind.i64.wrap a/\IntKind.i64.wrap a<=9223372036854775807
 rw[AI];omega
def XE(x:Inst):Int:=vT (λk=>W ((wd x).getD k 0*ZJ (x.cust.getD k default) x.days x.cap)) x.cust.length
theorem ZtF(x:Inst)(hn:x.cust.length<=1048576)(hp:∀c∈x.cust,c.pats.length<=1048576):Pure prog 127 [.agg (zx x)] (I (XE x)):=by
 have hch:=Zto x hn;have hAl:(wd x).length=x.cust.length:=by simp[wd]
 obtain⟨f,hf⟩:∃f:Nat->Int,f=λk=>W ((wd x).getD k 0*ZJ (x.cust.getD k default) x.days x.cap):=⟨_,rfl⟩
 have hbz:XE x=vT f x.cust.length:=by rw[hf];rfl
 have hf64:∀k,zM (f k):=λk=>by rw[hf];exact QH _
 rw[hbz];refine zt Tryz.func127 Tryz.ntmps127 Tryz.results127 λS nx hd=>?_
 refine za (zb ?_);intro v0;refine za (zb ?_);intro v1;refine za (zb ?_);refine zr hch ?_;have hsum:=Zdh (S:=ext S nx [.cells v0 25 (zx x),.cells v1 182 (u5 x yp yp (L (wd x)))]) x 172 [.ptr (nx+1) v1 0] f hn hf64 (λk hk T hT=>by
  have hc:x.cust[k]?=some (x.cust.getD k default):=by rw[Aa,Ad hk];rfl
  have ha:(wd x)[k]?=some ((wd x).getD k 0):=by rw[Aa,Ad (by omega)];rfl
  have:=Zti (S:=T) (id:=nx+1) (ver:=v1) x yp yp (wd x) k (by rw[hT _ (by rw[zU];simp),zU];rfl) hn hc (hp _ (Ab hc)) ha;rw[hf];exact this)
 refine za (zb ?_);refine λhsuf=>(hsum.mono ?_).v
 rintro _ _ ⟨rfl,rfl⟩;refine⟨_,_,rfl,zL hsuf ?_⟩;exact zg (zi hd (by simp;rfl) rfl)
def uJ(x:Inst):Nat->Int
 | 0=>0
 | k+1=>qS (uJ x k) (ZJ (x.cust.getD k default) x.days x.cap)
def XF(x:Inst):Int:=vT (λk=>ZK (x.cust.getD k default) x.days x.cap) x.cust.length
def u7(x:Inst):Int:=if 0<x.cap then qS (uJ x x.cust.length) (XB (XF x) x.cap) else uJ x x.cust.length
theorem ZtG(x:Inst)(hn:x.cust.length<=1048576)(hp:∀c∈x.cust,c.pats.length<=1048576)(h64:∀k,zM (ZK (x.cust.getD k default) x.days x.cap)):Pure prog 122 [.agg (zx x)] (I (u7 x)):=by
 have hat:∀k,k<x.cust.length->x.cust[k]?=some (x.cust.getD k default):=λk hk=>by rw[Aa,Ad hk];rfl
 refine zt Tryz.func122 Tryz.ntmps122 Tryz.results122 λS nx hd=>?_
 refine za (zb ?_);intro v0;refine za (zb ?_);intro v1;refine za (zb ?_)
 repeat apply za
 refine zb ?_;refine zj (zD (λs:Nat × Nat × Nat=>s.1<=x.cust.length) (λ(k,v,w)=>[(1,.ptr nx v 0),(3,.ptr (nx+1) w 0),(4,I (uJ x k)),(13,I x.cust.length),(14,I k)]) (λ(k,v,w)=>[.cells v 25 (zx x),.cells w 182 (u5 x yp yp yp)]) (λs=>x.cust.length-s.1) (0,v0,v1) [] (by simp) (by simp[uJ]) (by simp) ?_);rintro⟨k,v,w⟩ hk;simp only at hk ⊢;refine za (zb ?_);refine za (zv rfl (λhc=>?_) (λhc=>?_))
 ·simp at hc;refine zh (za (zj (za (zb ?_))));refine zb ?_;refine λhsuf=>((Zdi x yp yp yp k (by rw[zU];rfl) hn (hat k hc) (hp _ (Ab (hat k hc)))).mono ?_).v
  rintro _ _ ⟨rfl,rfl⟩;refine⟨_,_,rfl,zL hsuf ?_⟩;refine zb ?_;exact zq (k+1,v,w) [] hc (by simp;omega) (by simp[zu k (by omega),uJ]) rfl (by simp)
 ·simp at hc;obtain rfl:k=x.cust.length:=by omega
  refine zy ?_
  repeat apply za
  refine zb ?_;have hsum:=λv w=>Zdh (S:=ext S nx [.cells v 25 (zx x),.cells w 182 (u5 x yp yp yp)]) x 166 [.ptr (nx+1) w 0] (λk=>ZK (x.cust.getD k default) x.days x.cap) hn h64 (λk hk T hT =>
   Ztj (S:=T) (id:=nx+1) (ver:=w) x yp yp yp k (by rw[hT _ (by rw[zU];simp),zU];rfl) hn (hat k hk) (hp _ (Ab (hat k hk))))
  have hsv:=hsum v w;rw[show vT (λk=>ZK (x.cust.getD k default) x.days x.cap) x.cust.length=XF x from rfl]at hsv;have hres:u7 x=if 0<x.cap then qS (uJ x x.cust.length) (XB (XF x) x.cap) else uJ x x.cust.length:=rfl
  generalize u7 x=res at *;generalize uJ x x.cust.length=mo at *;generalize XF x=ne at *
  by_cases hcap:0<x.cap
  ·rw[if_pos hcap]at hres;have hceil:=ZiK ne x.cap hcap;refine zn (by simp[hcap]) ?_;refine za (zz (some [nx]) (Row.pures [0,1,2,4,5] (.alt 3 (Row.pures [6,7,8,9,10,11] .done) .stop)) mixed trivial ?_);refine(hsv.mono ?_).v;rintro _ _ ⟨rfl,rfl⟩;refine⟨by simp[yE],js trivial ?_⟩;refine zJ (hceil) trivial ?_;refine zb ?_;refine za (zb ?_);exact zg (zi hd (by simp;rfl) (by rw[hres];rfl))
  ·rw[if_neg hcap]at hres;refine zm (by simp;omega) ?_;refine zh (za (zb ?_));exact zg (zi hd (by simp;rfl) (by rw[hres];rfl))
open Go Go.Proofs
theorem ZiX{α:Type}(l:List α)(a q i:Nat)(h:a+q<=l.length):(l.take a++(l.take q++l.drop (a+q)))[i]?=l[if i<a then i else if i<a+q then i-a else i]?:=by
 by_cases h1:i<a
 ·rw[if_pos h1,Al (by simp;omega),AE h1]
 ·rw[if_neg h1,Ak (by simp;omega),Ay,Bc (by omega)]
  by_cases h2:i<a+q
  ·rw[if_pos h2,Al (by simp;omega),AE (by omega)]
  ·rw[if_neg h2,Ak (by simp;omega),Ay,Bc (by omega),AM];congr 1;omega
theorem ZtH{P:Program}{n:Nat}{F:Nat->PV}{S:Store}{o:Oper}{s x:Operand}{t e m k0 off id ver et:Nat}{cs:List PV}{K:PV->Store->Prop}(ho:o.op=.call { callee:=.builtin .copy,args:=#[s,x],argTypes:=#[t,t] })(ht:P.underlying t=some (.slice e))(hz:(P.info? e).map (·.size)=some 1)
  (hs:ev F s=.sl id ver 1 off m) (hx:ev F x=.sl id ver 1 0 k0) (hid:S id=.cells ver et cs) (hm:off+m=cs.length) (hm0:0<m) (hk:k0<=cs.length) (hk0:0<k0)
  (hK:K (I (min k0 m:Nat)) (S.set id (.cells ver et (cs.take off++(cs.take (min k0 m)++cs.drop (off+min k0 m)))))):PO P jd n o F S K:=by
 intro G hG C w a N st next Q' hnext;have e1:=st.ev s;rw[(hG s (by simp[ho,Op.operands,Call.operands])).trans hs]at e1;have e2:=st.ev x;rw[(hG x (by simp[ho,Op.operands,Call.operands])).trans hx]at e2;have hnd:∀c,o.op≠.defer c:=by intro c hc;rw[ho]at hc;cases hc
 generalize hv:a.eval s=v at e1;generalize hu:a.eval x=u at e2;cases e1 with
 | sl i1 i2 i3 =>
  rcases (i3 ver (by rw[hid];rfl)).2 rfl with ⟨_,q,_,_⟩ | ⟨b,k,ad,dcap,hl,rfl,_,hq0⟩
  ·omega
  obtain rfl:=hq0 (by omega);cases e2 with
  | sl j1 j2 j3 =>
   rcases (j3 ver (by rw[hid];rfl)).2 rfl with ⟨_,q,_,_⟩ | ⟨b2,k2,ad2,scap,hl2,rfl,_,hq2⟩
   ·omega
   rw[hl]at hl2;cases hl2;obtain rfl:=hq2 (by omega);rcases st.sim.cells id ver et cs hid with ⟨hn,_⟩ | ⟨b',k',c,g1,g2,g3,g4,g5,g6⟩
   ·rw[hn]at hl;cases hl
   rw[hl]at g1;cases g1;obtain⟨vs,hvs⟩:∃vs,vs=c.toList.take (min k0 m):=⟨_,rfl⟩;have hcs:c.toList.length=c.size:=Array.length_toList;have hvl:vs.length=min k0 m:=by rw[hvs,Ay];omega
   have hat:∀(j:Nat) (v:Value),vs[j]?=some v->j<min k0 m/\c[j]?=some v:=λj v hj=>by
    rw[hvs,BL]at hj;split at hj
    ·rename_i hlt;rw[Array.getElem?_toList]at hj;exact⟨hlt,hj⟩
    ·cases hj
   have hcell:∀j v,vs[j]?=some v->w.cell? ((⟨b,0,none⟩:Addr).add j)=some v:=λj v hj=>by
    obtain⟨q1,q2⟩:=hat j v hj;rw[Addr.add_plain];simp[World.cell?,g2,q2]
   have hone:∀v∈vs,v.oneCell'=true:=λv hv'=>by
    obtain⟨j,hj⟩:=Cg hv';obtain⟨q1,q2⟩:=hat j v hj;exact g5 j v (by omega) q2
   have hrun0:=run_copy_row P w t t o.type e b off m dcap ⟨b,0,none⟩ k0 scap c et vs ht hz g2 (by rw[hvl]) hcell (by omega) hone;have hrun:=WM (P:=P) (a:=a) (w:=w) ho (by rw[hv,hu];exact hrun0);rw[hvl,List.append_assoc,hvs]at hrun;generalize hw':w.setRow b (c.toList.take off++(c.toList.take (min k0 m)++c.toList.drop (off+min k0 m))).toArray=w' at hrun;have hheap:w'.heap[b]?=some (.cells (c.toList.take off++(c.toList.take (min k0 m)++c.toList.drop (off+min k0 m))).toArray et (0,0)):=by rw[<-hw'];exact setRow_heap w b c _ et _ g2
   have hgr:w.grownBy w' (some b)/\w.drawn<=w'.drawn:=by
    rw[<-hw'];exact⟨⟨rfl,rfl,rfl,by simp[World.setRow],λj hj hne=>setRow_other w b j _ (λe=>hne (by rw[e]))⟩,Ag _⟩
   have hV:=λi=>ZiX c.toList off (min k0 m) i (by omega)
   have hP:=λi=>ZiX cs off (min k0 m) i (by omega)
   have hVl:(c.toList.take off++(c.toList.take (min k0 m)++c.toList.drop (off+min k0 m))).length=c.size:=by simp;omega
   have hPl:(cs.take off++(cs.take (min k0 m)++cs.drop (off+min k0 m))).length=cs.length:=by simp;omega
   generalize c.toList.take off++(c.toList.take (min k0 m)++c.toList.drop (off+min k0 m))=V at *;generalize cs.take off++(cs.take (min k0 m)++cs.drop (off+min k0 m))=cs' at *;have hphi:∀i,i<cs.length->(if i<off then i else if i<off+min k0 m then i-off else i)<cs.length:=λi hi=>by split<;>(try split)<;>omega
   obtain⟨t1,t2⟩:=st.sim.turn (l:=C.loc id) (ver':=ver) (cs':=cs') hid (Ag _) (λ_=>rfl) (by rw[hl];exact hgr)
    (.inr ⟨b,k,_,hl,.inr (by rw[hl];rfl),hheap,by simp;omega,by omega,λi z hi hz=>by
      rw[AD,hV i,Array.getElem?_toList]at hz;exact g5 _ z (hphi i (by omega)) hz,
     λi p z hp hz=>by
      rw[AD,hV i,Array.getElem?_toList]at hz;rw[hP i]at hp;exact g6 _ p z hp hz⟩)
   exact qb hnd hrun (hnext _ _ _ _ _ hK (.sc _) t1 t2)
open Go Go.Proofs
theorem ZtI(n:Nat)(hn:n<=1048576):Pure prog 206 [U 1,U n] (.tup [U 0,U n]):=by
 intro S;refine⟨ZkK,λC w us hS hl' hr=>?_⟩;obtain⟨u0,u1,rfl⟩:=Zh6 hl';have r0:=hr 0 _ u0 rfl rfl;have r1:=hr 1 _ u1 rfl rfl;cases r0;cases r1;have h1:1*n / 18446744073709551616=0:=by omega
 have h2:1*n % 18446744073709551616=n:=by omega
 have hm:=Tryz.bits_Mul 1 n (by omega) (by omega) w;rw[h1,h2]at hm;refine hm.mono ?_;rintro _ _ ⟨rfl,rfl⟩;refine⟨_,_,S,C,rfl,⟨rfl,rfl⟩,.tup rfl λj c v h1 h2=>?_,hS,.refl _ _ _⟩
 match j,h1,h2 with
 | 0,h1,h2=>cases h1;cases h2;exact .sc _
 | 1,h1,h2=>cases h1;cases h2;exact .sc _
theorem ZtJ(p:Int)(m:Nat):(List.replicate m p).flatMap Enc.enc=List.replicate m (I p):=by
 induction m with
 | zero=>rfl
 | succ m ih=>rw[BG,AA,ih];rfl
theorem ZtK(p:Int)(n:Nat)(h1:1<=n)(hn:n<=1000):Pure prog 168 [L [p],I n] (L (List.replicate n p)):=by
 have hmul:=ZtI n (by omega);have c0:¬(n:Int)<0:=by omega
 have w1:IntKind.u64.wrap (n:Int)=n:=by simp only[IntKind.wrap,IntKind.bits,IntKind.signed];simp;omega
 have w2:IntKind.i64.wrap (n:Int)=n:=by rw[AI];omega
 have c1:¬(9223372036854775807:Int)<n:=by omega
 refine zt Tryz.func168 Tryz.ntmps168 Tryz.results168 λS nx hd=>?_
 refine za (zb ?_)
 repeat apply za
 refine ze [] c0 ?_;refine zm (by simp) ?_;refine zh ?_;have w3:IntKind.u64.wrap 1=1:=by decide
 refine za (ze [] (zo w1 w3) ?_);refine zr hmul ?_
 repeat apply za
 refine ze [(2,23)] c1 ?_;refine zm (by simp) ?_;refine zh (za (ze [] w2 ?_));refine⟨by omega,λv0=>?_⟩;refine za (zb ?_);refine λhsuf=>Zdj (id:=nx) (ver:=v0) (e:=3) (l:=[I p]) rfl Tryz.underlying26 (by kernel_rfl) (m:=n) rfl rfl (by rw[vw];rfl) (by simp[yY]) h1 ?_
 have hrow:List.take n [I p]++List.drop (min [I p].length n) (yY n (.int .i64 0))=List.replicate 1 (I p)++List.replicate (n-1) (I 0):=by
  rw[Af (by simp;omega)];have:min [I p].length n=1:=by simp;omega
  have hz:yY n (.int .i64 0)=List.replicate n (I 0):=by
   apply Bb
   ·simp[yY]
   ·intro i q1 q2;simp[yY,Nat.mod_one]
  rw[this,hz,List.drop_replicate];rfl
 have hmin:min [I p].length n=1:=by simp;omega
 rw[hrow,hmin];refine⟨_,_,yg _ (Ag _) (by simp),zL hsuf ?_⟩;refine za (zj (zD (λm:Nat=>1<=m/\m<=n) (λm=>[(7,.sl nx v0 1 0 n),(8,I m)]) (λm=>[.cells v0 3 (List.replicate m (I p)++List.replicate (n-m) (I 0))]) (λm=>n-m) 1 [] ⟨Ag _,h1⟩ (by simp) (by simp) ?_));rintro m ⟨hm1,hmn⟩
 repeat apply za
 refine zb ?_
 by_cases hc:m<n
 ·repeat apply za
  refine zn (by simp;omega) ?_;refine zh (zj ?_);have hlen:(List.replicate m (I p)++List.replicate (n-m) (I 0):List PV).length=n:=by simp;omega
  obtain⟨q,hq⟩:∃q,q=min m (n-m):=⟨_,rfl⟩;have hrow2:(List.replicate m (I p)++List.replicate (n-m) (I 0):List PV).take m++((List.replicate m (I p)++List.replicate (n-m) (I 0):List PV).take q++(List.replicate m (I p)++List.replicate (n-m) (I 0):List PV).drop (m+q))=List.replicate (m+q) (I p)++List.replicate (n-(m+q)) (I 0):=by
   have e1:(List.replicate m (I p)++List.replicate (n-m) (I 0):List PV).take m=List.replicate m (I p):=DI (by simp);have e2:(List.replicate m (I p)++List.replicate (n-m) (I 0):List PV).take q=List.replicate q (I p):=by rw[BA (by simp;omega),List.take_replicate,Bc (by omega)]
   have e3:(List.replicate m (I p)++List.replicate (n-m) (I 0):List PV).drop (m+q)=List.replicate (n-(m+q)) (I 0):=by rw[CG,Bg (by simp),AS,BH,List.drop_replicate];congr 1;omega
   rw[e1,e2,e3,<-List.append_assoc,List.replicate_append_replicate]
  have hq1:1<=q:=by omega
  have hqn:m+q<=n:=by omega
  have wq:IntKind.i64.wrap ((m:Int)+q)=((m+q:Nat):Int):=by rw[AI];omega
  refine zz (some []) (Row.pures [0,1,2,3,4,5,6] (.alt 7 (Row.pures [8,9] .done) .stop)) mixed hmn ?_;refine⟨by rfl,(ZtH (id:=nx) (ver:=v0) (off:=m) (m:=n-m) (k0:=m) (e:=3) rfl Tryz.underlying26 (by kernel_rfl) rfl rfl (by rw[vw];rfl) (by rw[hlen];omega) (by omega) (by rw[hlen];omega) (by omega) ?_)⟩;rw[<-hq,hrow2,yg _ (Ag _) (by simp)];refine⟨by simp[yE],js wq ?_⟩;exact zq (m+q) [] ⟨by omega,hqn⟩ (by omega) (by simp) rfl (by simp)
 ·obtain rfl:m=n:=by omega
  refine zm (by simp) ?_;refine zy (yb 0 rfl ?_);rw[Bw,List.replicate_zero,AF];have hfl:=ZtJ p m;refine za (zb ?_);exact zg (zi hd (by simp;rfl) (by simp[zp,hfl]))
open Go Go.Proofs
def u9(x:Inst)(n:Nat)(a b:List Int)(k:Nat):Int:=QF n x.cap (x.cust.getD k default) (List.replicate n (W (a.getD (k+1) 0+b.getD (k+1) 0)))
structure BndOk (x:Inst) (n:Nat):Prop where
 days:x.days=n
 n1:1<=n
 n60:n<=60
 ncust:x.cust.length<=1048576
 pats:∀c∈x.cust,c.pats.length<=1000
 made:∀c∈x.cust,CustMade c n
 fits:∀c∈x.cust,CustFits c
 vis:∀c∈x.cust,∀price:List Int,price.length<=1000->(∀z∈price,zM z)->VisOk (qy n x.cap c price).1
theorem ZtL{S:Store}{id ver:Nat}(x:Inst)(n:Nat)(a b:List Int)(ch:PV)(k:Nat)(hx:BndOk x n)(hk:k<x.cust.length)(ha:a.length=x.cust.length+1)(hb:b.length=x.cust.length+1)(hS:S id=.cells ver 182 (u5 x (L a) (L b) ch)):
  Spec prog 125 [.ptr id ver 0,I k] S (λq S'=>q=I (u9 x n a b k)/\S'=S):=by
 have hpr:=Ztl x a b k hk hx.ncust ha hb;unfold u9;have hc:x.cust[k]?=some (x.cust.getD k default):=by rw[Aa,Ad hk];rfl
 have hm:=Ab hc;obtain⟨t,tl,b1,b2,b3,f0,f1⟩:=el 8 rfl x.cust k hk;obtain rfl:t=x.cust.getD k default:=by rw[hc]at b1;exact(Option.some.inj b1).symm
 have hp64:=QH (a.getD (k+1) 0+b.getD (k+1) 0);generalize W (a.getD (k+1) 0+b.getD (k+1) 0)=p at *;generalize x.cust.getD k default=c at *;have hrep:=ZtK p n hx.n1 (by have:=hx.n60;omega);have hr64:∀z∈List.replicate n p,zM z:=λz hz=>by rw[(List.mem_replicate.1 hz).2];exact hp64
 have hrl:(List.replicate n p).length<=1000:=by rw[BH];have:=hx.n60;omega
 have hbd:Pure prog 170 [.agg (ye c),I n,I x.cap,L (List.replicate n p)] (I (QF n x.cap c (List.replicate n p))):=λS=>Ztk c n x.cap (.inl rfl) hr64 hrl (hx.made c hm) (hx.pats c hm) hx.n60 (hx.fits c hm) (hx.vis c hm _ hrl hr64)
 generalize QF n x.cap c (List.replicate n p)=res at *;have hdays:=hx.days;generalize List.replicate n p=pl at *;rw[<-hdays]at hrep hbd;refine yh Tryz.func125 Tryz.ntmps125 Tryz.results125 λnx hd=>?_
 have hlt:id<nx:=qE hd hS (by simp);have x1:∀obs,ext S nx obs id=.cells ver 182 (u5 x (L a) (L b) ch):=λobs=>(zA hlt).trans hS
 refine za (zb ?_);refine za (zz (some [id]) (Row.pures [0,1,2,3,4,5,6,7,8,9,10,11,12,13,14,15,16,17] .done) mixed x1 ?_);refine zJ (hpr) x1 ?_;refine zJ (hrep) x1 ?_;refine za (zz (some [id]) (Row.pures [0,1,2,3,4,5,6,7,8,9,10,11,12,13,14,15,16,17,18,19,20] .done) mixed (zS x1 hk f0 f1) ?_);refine zJ (hbd) trivial ?_;exact zg (zi hd (by simp;rfl) rfl)
def Ym(x:Inst)(a b:List Int):Int:=if (YY (W (a.getD 0 0+b.getD 0 0)) (u7 x)).2=true then (YY (W (a.getD 0 0+b.getD 0 0)) (u7 x)).1 else 9223372036854775807
def Yn(x:Inst)(n:Nat)(a b:List Int):Int:=w8 (vT (u9 x n a b) x.cust.length) (Ym x a b)
theorem ZiY(x:Inst)(n:Nat)(a b:List Int)(hx:BndOk x n)(h64:∀k,zM (ZK (x.cust.getD k default) x.days x.cap))(hal:∀k,zM (u9 x n a b k))(hcar:zM (Ym x a b))(ha:a.length=x.cust.length+1)(hb:b.length=x.cust.length+1):
  Pure prog 79 [.agg (zx x),.agg [L a,L b]] (I (Yn x n a b)):=by
 have hle:=ZtG x hx.ncust (λc hc=>by have:=hx.pats c hc;omega) h64;have hmu:=Ztd (W (a.getD 0 0+b.getD 0 0)) (u7 x);have hsat:=V7 (vT (u9 x n a b) x.cust.length) (Ym x a b) (ZiM _ _) hcar;have hv:Yn x n a b=w8 (vT (u9 x n a b) x.cust.length) (Ym x a b):=rfl;rw[hv];have hcz:Ym x a b=if (YY (W (a.getD 0 0+b.getD 0 0)) (u7 x)).2=true then (YY (W (a.getD 0 0+b.getD 0 0)) (u7 x)).1 else 9223372036854775807:=rfl
 obtain⟨t,tl,b1,b2,b3,f0⟩:=zF rfl a 0 (by omega);obtain⟨u,tl2,c1,c2,c3,f1⟩:=zF rfl b 0 (by omega);have e1:a.getD 0 0=t:=by rw[Aa,b1];rfl
 have e2:b.getD 0 0=u:=by rw[Aa,c1];rfl
 rw[e1,e2]at hmu hcz;have hka:0<a.length:=by omega
 have hkb:0<b.length:=by omega
 have hsumv:∀(S:Store) (id ver:Nat),S id=.cells ver 182 (u5 x (L a) (L b) yp)->Spec prog 124 [.agg (zx x),.fn (.func 125) [.ptr id ver 0] []] S (λq S'=>q=I (vT (u9 x n a b) x.cust.length)/\S'=S):=λS id ver hS =>
  Zdh (S:=S) x 125 [.ptr id ver 0] (u9 x n a b) hx.ncust hal (λk hk T hT=>ZtL (S:=T) (id:=id) (ver:=ver) x n a b yp k hx hk ha hb (by rw[hT _ (by rw[hS];simp),hS]))
 generalize vT (u9 x n a b) x.cust.length=su at *;generalize u7 x=le at *;generalize Ym x a b=ca at *;generalize YY (W (t+u)) le=mz at *;obtain⟨mv,mok⟩:=mz;simp only at hmu hcz;refine zt Tryz.func79 Tryz.ntmps79 Tryz.results79 λS nx hd=>?_
 refine za (zb ?_);intro v0 v1;refine za (zb ?_);intro v2;refine za (zz (some [nx,nx+1]) (Row.pures [0,1,2,3,4,5,6,7,8,9,10,11,12,13,14,15,16] .done) mixed (zS f0 f1 hka hkb) ?_);refine zJ (hle) (zS f0 f1 hka hkb) ?_;refine zJ (hmu) (zS f0 f1 hka hkb) ?_
 repeat apply za
 refine zb ?_;cases mok with
 | true =>
  obtain rfl:ca=mv:=by rw[hcz];exact if_pos rfl
  refine zm (by simp) ?_;refine zh (za (zb ?_));refine λhsuf=>((hsumv _ (nx+2) v2 (by rw[zU];rfl)).mono ?_).v
  rintro _ _ ⟨rfl,rfl⟩;refine⟨_,_,rfl,zL hsuf ?_⟩;refine λhsuf=>((hsat _).mono ?_).v
  rintro _ _ ⟨rfl,rfl⟩;refine⟨_,_,rfl,zL hsuf ?_⟩;exact zg (zi hd (by simp;rfl) rfl)
 | false =>
  obtain rfl:ca=9223372036854775807:=by rw[hcz];exact if_neg (by simp)
  refine zn (by simp) ?_;refine zb ?_;refine za (zb ?_);refine λhsuf=>((hsumv _ (nx+2) v2 (by rw[zU];rfl)).mono ?_).v
  rintro _ _ ⟨rfl,rfl⟩;refine⟨_,_,rfl,zL hsuf ?_⟩;refine λhsuf=>((hsat _).mono ?_).v
  rintro _ _ ⟨rfl,rfl⟩;refine⟨_,_,rfl,zL hsuf ?_⟩;exact zg (zi hd (by simp;rfl) rfl)
def QI(x:Inst)(n:Nat)(a b:List Int):Int:=qS (Yn x n a b) (XE x)
theorem ZtM(x:Inst)(n:Nat)(a b:List Int)(hx:BndOk x n)(h64:∀k,zM (ZK (x.cust.getD k default) x.days x.cap))(hal:∀k,zM (u9 x n a b k))(hcar:zM (Ym x a b))(ha:a.length=x.cust.length+1)(hb:b.length=x.cust.length+1):
  Pure prog 83 [.agg (zx x),.agg [L a,L b]] (I (QI x n a b)):=by
 have hva:=ZiY x n a b hx h64 hal hcar ha hb;have hba:=ZtF x hx.ncust (λc hc=>by have:=hx.pats c hc;omega);have hz:QI x n a b=qS (Yn x n a b) (XE x):=rfl;generalize QI x n a b=z at *;generalize Yn x n a b=va at *;generalize XE x=ba at *;refine zt Tryz.func83 Tryz.ntmps83 Tryz.results83 λS nx hd=>?_
 refine za (zb ?_);intro v0 v1;refine za (zz (some [nx,nx+1]) (Row.pures [0,1,2,3,4,5,6] .done) mixed trivial ?_);refine zJ (hva) trivial ?_;refine zJ (hba) trivial ?_;exact zg (zi hd (by simp;rfl) (by rw[hz];rfl))
open Go Go.Proofs Hp
theorem ZtN{n:Nat}{cap:Int}{c:Cust}{price:List Int}(h:(qy n cap c price).2=false):(qy n cap c price).1=[]:=by
 unfold qy at h ⊢;split at h
 ·rename_i hk;rw[if_pos hk];unfold ZA at h ⊢;split at h
  ·rename_i h1;rw[if_pos h1]
  ·cases h
 ·rename_i hk;rw[if_neg hk];split at h
  ·rename_i hr;rw[if_pos hr];unfold YT at h ⊢;split at h
   ·rename_i h1;rw[if_pos h1]
   ·cases h
  ·rename_i hr;rw[if_neg hr];unfold Jl at h ⊢;split at h
   ·cases h
   ·rename_i h1;rw[if_neg h1];split at h
    ·cases h
    ·rename_i h2;rw[if_neg h2]
theorem ZtO{c:Cust}{n:Nat}(hm:CustMade c n)(hn:n<=60)(cap:Int)(price:List Int):VisOk (qy n cap c price).1:=by
 cases h:(qy n cap c price).2 with
 | false=>rw[ZtN h];exact⟨by simp,by simp,by simp⟩
 | true =>
  have hg:=Zao hm hn cap price h;exact⟨by have:=hg.len;omega,λs hs=>by have:=hg.ok s hs;omega,λs hs=>by have:=hg.ok s hs;unfold zM;omega⟩
theorem ZtP{x:Inst}{n:Nat}(h:InstQ x n):BndOk x n :=
 ⟨h.k.a.days,h.t.n1,h.k.a.n60,by have:=h.six;omega,h.k.a.pats,h.k.a.made,λc hc=>(h.k.a.made c hc).fits,λc hc price _ _=>ZtO (h.k.a.made c hc) h.k.a.n60 _ _⟩
theorem ZaE:zM 0:=⟨by decide,by decide⟩
theorem ZiZ(c:Cust)(n cap:Int):zM (ZK c n cap):=by
 unfold ZK;split
 ·exact QH _
 ·unfold Jv qS;split
  ·exact ZaE
  ·exact QH _
theorem ZtQ(price:List Int)(v:List Visit):zM (Qx price v):=by
 have:∀(v:List Visit) (s:Int),zM s->zM (v.foldl (λs w=>W (s+YP price w.d)) s):=by
  intro v
  induction v with
  | nil=>intro s h;exact h
  | cons w v ih=>intro s _;exact ih _ (QH _)
 exact this v 0 ZaE
theorem Zi0(n:Nat)(cap:Int)(c:Cust)(price:List Int):zM (QF n cap c price):=by
 unfold QF;split
 ·unfold Yf;split
  ·exact ZtQ _ _
  ·exact QH _
 ·unfold ZaB;split<;>exact QH _
theorem Zi1(x:Inst)(a b:List Int):zM (Ym x a b):=by
 unfold Ym;split
 ·unfold YY;split
  ·exact ZaE
  ·split
   ·exact ZaE
   ·exact QH _
 ·exact⟨by decide,by decide⟩
theorem ZtR{x:Inst}{n:Nat}(h:BndOk x n)(a b:List Int)(ha:a.length=x.cust.length+1)(hb:b.length=x.cust.length+1):
  Pure prog 79 [.agg (zx x),.agg [L a,L b]] (I (Yn x n a b)) :=
 ZiY x n a b h (λk=>ZiZ _ _ _) (λk=>Zi0 _ _ _ _) (Zi1 x a b) ha hb
theorem ZtS{x:Inst}{n:Nat}(h:BndOk x n)(a b:List Int)(ha:a.length=x.cust.length+1)(hb:b.length=x.cust.length+1):
  Pure prog 83 [.agg (zx x),.agg [L a,L b]] (I (QI x n a b)) :=
 ZtM x n a b h (λk=>ZiZ _ _ _) (λk=>Zi0 _ _ _ _) (Zi1 x a b) ha hb
open Go Go.Proofs
structure Clm where
 i:List Int
 m:Int
 s:Int
def Za(x:Inst)(c:Clm):Nat:=jP c.s (x.cust.length+1)
def XG(x:Inst)(c:Clm):Nat:=jP (yH c.s) ((c.i.getD (Za x c) 0).toNat+1)
def ZL(x:Inst)(c:Clm):List Int:=xJ x (c.i.set (Za x c) (W (c.i.getD (Za x c) 0-XG x c)))
def vU(x:Inst)(n:Nat)(i:List Int):Int:=Yn x n (jY x i) i
def Yo(x:Inst)(n:Nat)(c:Clm):Clm:=if c.m<vU x n (ZL x c) then ⟨ZL x c,vU x n (ZL x c),yH (yH c.s)⟩ else ⟨c.i,c.m,yH (yH c.s)⟩
def Zb(x:Inst):List Int:=xJ x (List.replicate (x.cust.length+1) 2147483648)
def jZ(x:Inst)(n:Nat)(s:Int):Nat->Clm
 | 0=>⟨Zb x,vU x n (Zb x),IntKind.u64.wrap s⟩
 | k+1=>Yo x n (jZ x n s k)
def XH(x:Inst)(n:Nat)(s:Int)(k:Nat):Int:=QI x n (jY x (jZ x n s k).i) (jZ x n s k).i
def ZaF(x:Inst)(i:List Int):Prop:=i.length=x.cust.length+1/\∀z∈i,0<=z/\z<=2147483648
theorem Zi2{x:Inst}(ha:qU x)(l:List Int):ZaF x (xJ x l):=by
 refine⟨ZaD x l,λz hz=>?_⟩;unfold xJ at hz;obtain⟨b,-,rfl⟩:=An.1 hz;have:=Ztu (f:=λa=>arc x a b) (p:=b) (lo:=0) (hi:=2147483648) (by decide) (by decide) (λk=>ha k b) (x.cust.length+1);omega
theorem ZtT{x:Inst}(ha:qU x){n:Nat}{c:Clm}(h:ZaF x c.i):ZaF x (Yo x n c).i:=by
 unfold Yo;split
 ·exact Zi2 ha _
 ·exact h
theorem Zdp{x:Inst}(ha:qU x)(n:Nat)(s:Int):∀k,ZaF x (jZ x n s k).i
 | 0=>Zi2 ha _
 | k+1=>ZtT ha (Zdp ha n s k)
theorem ZtU{x:Inst}{n:Nat}(hx:BndOk x n)(ha:qU x)(s:Int)(b:Nat)(hb:b<=1000):
  ∃pa pb,Pure prog 34 [.agg (zx x),I s,I b] (.tup [.agg [pa,pb],I (XH x n s b)]):=by
 refine⟨L (jY x (jZ x n s b).i),L (jZ x n s b).i,?_⟩;have hn:=hx.ncust;have e0:jZ x n s 0=⟨Zb x,vU x n (Zb x),IntKind.u64.wrap s⟩:=rfl;have hval:∀i:List Int,i.length=x.cust.length+1->Pure prog 79 [.agg (zx x),.agg [L (jY x i),L i]] (I (vU x n i)):=λi hi=>by unfold vU;exact ZtR hx (jY x i) i (Zdl x i) hi
 have hfi:Pure prog 77 [.agg (zx x)] (.agg [L (jY x (jZ x n s 0).i),L (jZ x n s 0).i]):=by rw[e0];dsimp only;unfold Zb;exact Ztw x hn
 have hv0:Pure prog 79 [.agg (zx x),.agg [L (jY x (jZ x n s 0).i),L (jZ x n s 0).i]] (I (jZ x n s 0).m):=by rw[e0];dsimp only;exact hval _ (by unfold Zb;exact ZaD x _)
 have hbest:Pure prog 83 [.agg (zx x),.agg [L (jY x (jZ x n s b).i),L (jZ x n s b).i]] (I (XH x n s b)):=by unfold XH;exact ZtS hx _ _ (Zdl x _) (Zdp ha n s b).1
 have hclip:Pure prog 80 [I b,I 0,I 1000] (I b):=by
  have:=Xe b 0 1000
  rwa[show min (max (b:Int) 0) 1000=b by omega]at this
 have hs0:(jZ x n s 0).s=IntKind.u64.wrap s:=by rw[e0]
 clear e0;have hstep:∀k,jZ x n s (k+1)=Yo x n (jZ x n s k):=λ_=>rfl
 have hok:=Zdp ha n s;have hlow:=λ(b:List Int) (pl:Nat) (d:Int) hb hp=>Ztx x (jY x b) b pl d hn hb hp
 have hfo:∀l,(xJ x l).length=x.cust.length+1:=ZaD x;generalize XH x n s b=res at *;generalize jZ x n s=C at *;generalize jY x=O at *;refine zt Tryz.func34 Tryz.ntmps34 Tryz.results34 λS nx hd=>?_
 refine za (zb ?_);intro v0 v1;refine za (zb ?_);refine zr hfi ?_;refine λhsuf=>((Ziz s jF).mono ?_).v
 rintro _ _ ⟨v2,rfl,rfl⟩;refine⟨_,_,qN _,zL hsuf ?_⟩;intro v3;rw[<-hs0];refine za (zb ?_);refine zr hv0 ?_
 repeat apply za
 refine zb ?_;refine zr hclip ?_;refine zj (zD (λk:Nat=>k<=b) (λk=>[(3,.ptr nx v0 0),(6,.ptr (nx+1) v1 0),(8,.ptr (nx+3) v3 0),(9,.ptr (nx+2) v2 0),(10,I (C k).m),(23,I b),(24,I k)]) (λk=>[.cells v0 25 (zx x),.cells v1 68 [.sc (.slice none 0 0),.sc (.slice none 0 0)],.cells v2 179 (jX (C k).s),.cells v3 68 [L (O (C k).i),L (C k).i]]) (λk=>b-k) 0 [] (by simp) (by simp) (by simp) ?_);rintro k hk;refine za (zb ?_);refine za (zv rfl (λhc=>?_) (λhc=>?_))
 ·simp at hc;have hst:=hstep k;obtain⟨hl,hbd⟩:=hok k;generalize hCk:C k=c at *;refine zh (za (zj ?_));have hpl:Za x c<x.cust.length+1:=Jq _ (by omega);have hb1:=λ(S:Store) hS=>WK c.s (x.cust.length+1) (by omega) (by omega) (S:=S) (id:=nx+2) (v:=v2) hS
  have hpe:jP c.s (x.cust.length+1)=Za x c:=rfl;rw[hpe]at hb1;have w1:IntKind.i64.wrap ((x.cust.length:Int)+1)=((x.cust.length+1:Nat):Int):=by rw[AI];omega
  obtain⟨t,tl,b1,b2,b3,f0⟩:=zF rfl c.i (Za x c) (by omega);have hte:c.i.getD (Za x c) 0=t:=by rw[Aa,b1];rfl
  have htb:=hbd t (Ab b1);obtain⟨t1,ht1⟩:∃t1:Nat,(t1:Int)=t+1:=⟨(t+1).toNat,by omega⟩;have hb2:=λ(S:Store) hS=>WK (yH c.s) t1 (by omega) (by omega) (S:=S) (id:=nx+2) (v:=v2) hS
  have hoe:jP (yH c.s) t1=XG x c:=by unfold XG;rw[hte,show t.toNat+1=t1 by omega]
  rw[hoe]at hb2;have w2:IntKind.i64.wrap (t+1)=(t1:Int):=by rw[AI];omega
  have hlo:=hlow c.i (Za x c) (XG x c) hl hpl;have htr:xJ x (c.i.set (Za x c) (W (c.i.getD (Za x c) 0-XG x c)))=ZL x c:=rfl;rw[htr]at hlo;have hv:=hval (ZL x c) (hfo _);have hst2:C (k+1)=if c.m<vU x n (ZL x c) then ⟨ZL x c,vU x n (ZL x c),yH (yH c.s)⟩ else ⟨c.i,c.m,yH (yH c.s)⟩:=by rw[hst];unfold Yo;rfl
  have hpi:Za x c<c.i.length:=by omega
  generalize Za x c=pl at *;generalize XG x c=off at *;generalize ZL x c=tr at *;generalize vU x n tr=va at *;generalize yH c.s=s1 at *;generalize yH s1=s2 at *;obtain⟨ci,cm,cs⟩:=c;simp only at *;refine za (ze [] w1 ?_);refine λhsuf=>((hb1 _ (by rw[zU];rfl)).mono ?_).v
  rintro _ _ ⟨rfl,rfl⟩;refine⟨_,_,yg _ (by omega) (by simp),zL hsuf ?_⟩;obtain⟨lc,hlc⟩:∃lc,lc=L ci:=⟨_,rfl⟩;rw[<-hlc];have hip:QJ prog 26 lc (I pl)=some (.ip (I t :: tl)):=by rw[hlc];simp -implicitDefEqProofs [QJ,hpi,f0]
  clear f0 hpi;refine za (xl [] (by rfl) (by rfl) λK Gc Gh hK hGc hGh X hX0 hX=>?_);simp -implicitDefEqProofs [hX0,hX,hip,w2,-QJ]
  try clear hX0 hX X
  refine hGc _ _ _ _ _ _ _ λhsuf=>((hb2 _ (by rw[zU];rfl)).mono ?_).v
  rintro _ _ ⟨rfl,rfl⟩;refine⟨_,_,yg _ (by omega) (by simp),?_⟩;clear hGc hGh;clear Gc Gh;refine xL hsuf (D:=[]) (by rfl) λGc Gh hGc hGh X hX0 hX=>?_
  simp -implicitDefEqProofs [hX0,hX];clear hX0 hX X;refine hK _ _ _ ?_;clear hK hGc hGh;clear K Gc Gh;subst hlc;refine za (zb ?_);refine zr hlo ?_;intro v4;refine za (zb ?_);refine zr hv ?_;refine za (zb ?_)
  by_cases hlt:cm<va
  ·rw[if_pos hlt]at hst2;refine zn (by simp[hlt]) ?_;refine zb ?_;refine zb ?_;exact zq (k+1) [_] hc (by omega) (by simp[zu k (by omega),hst2]) rfl (by simp[hst2];rfl)
  ·rw[if_neg hlt]at hst2;refine zm (by simp[hlt]) ?_;refine zh (zb ?_);exact zq (k+1) [_] hc (by omega) (by simp[zu k (by omega),hst2]) rfl (by simp[hst2];rfl)
 ·simp at hc;obtain rfl:k=b:=by omega
  refine zy (za (zz (some [nx,nx+3]) (Row.pures [0,1,2,3] (.alt 4 (Row.pures [5] .done) .stop)) mixed trivial ?_));refine zJ (hbest) trivial ?_;exact zg (zi hd (by simp;rfl) (by simp[zp]))
open Go Go.Proofs
theorem ZtV(n p k:Nat)(h:k<n):(qq n p).take (k+1)=(qq n p).take k++[UInt8.ofNat (48+yF p k)]:=by
 rw[AN];congr 1;unfold qq;rw[Aj,AQ h];rfl
theorem ZtW(p n:Nat)(h1:1<=n)(hn:n<=64)(hp:p<2 ^ 64):Pure prog 54 [U p,I n] (T (bs (qq n p))):=by
 have hbits:=Zew p hp;have hbl:(qZ p).length=64:=by simp[qZ]
 have hbat:∀k,k<64->(qZ p)[k]?=some ((yF p k:Nat):Int):=λk h=>by unfold qZ;rw[Aj,AQ h];rfl
 have hpl:=WE n p;have hsucc:=ZtV n p;have hb01:∀k,yF p k<=1:=VC p;generalize qZ p=B at *;generalize qq n p=P at *;have c1:¬(n:Int)<1:=by omega
 have c2:¬(64:Int)<n:=by omega
 refine zt Tryz.func54 Tryz.ntmps54 Tryz.results54 λS nx hd=>?_
 refine za (zb ?_)
 repeat apply za
 refine ze [(2,10)] (zo c1 c2) ?_;refine zm (by simp) ?_;refine zh (za (zb ?_));refine za (jf 5 5 1 rfl λv1=>?_);refine zb ?_;refine zr hbits ?_
 repeat apply za
 refine zb ?_;refine zj (zD (λs:Nat × Nat=>s.1<=n) (λ(k,v)=>[(1,I n),(5,.sl nx v 1 0 k),(6,L B),(7,I k)]) (λ(k,v)=>[.cells v 5 ((P.map U8).take k)]) (λs=>n-s.1) (0,v1) [] (by simp) (by simp) (by simp) ?_);rintro⟨k,v⟩ hk;simp only at hk ⊢
 repeat apply za
 refine zb ?_;refine zv rfl (λhc=>?_) (λhc=>?_)
 ·simp at hc;obtain⟨z,tl,b1,b2,b3,f0⟩:=zF rfl B k (by omega);obtain rfl:z=((yF p k:Nat):Int):=by have:=hbat k (by omega);rw[b1]at this;exact Option.some.inj this
  have hb:=hb01 k;have hk64:k<B.length:=by omega
  have hs:=hsucc k hc;have hu:=YN (k:=yF p k) (by omega);generalize UInt8.ofNat (48+yF p k)=u at *;generalize yF p k=b at *;have w1:IntKind.i64.wrap (48+(b:Int))=(u.toNat:Int):=by rw[hu,AI];omega
  have w2:=Zha u.toNat (by omega);have hl:((P.map U8).take k).length=k:=by simp;omega
  have htk:List.take k ((P.map U8).take k)=(P.map U8).take k:=Af (by rw[hl];exact Ag _);have hnx:(P.map U8).take (k+1)=(P.map U8).take k++[U8 u]:=by rw[<-List.map_take,hs,List.map_append,List.map_take];rfl
  generalize (P.map U8).take k=cs at *;refine zh (za (zj (ze [] (yG f0 hk64 w1 w2 htk) ?_)));refine⟨by omega,?_⟩;refine zb ?_;exact zq (k+1,v+1) [] hc (by omega) (by simp[zu k (by omega)]) rfl (by simp only[hnx,AF])
 ·simp at hc;obtain rfl:k=n:=by omega
  rw[show List.take k (P.map U8)=P.map U8 from Af (by simp;omega)];refine zy (za (zb ?_));refine λhsuf=>Zp7 (e:=5) (l:=P) (off:=0) (id:=nx) (ver:=v) rfl (by simp) (by simp) (by simp) (by simp[hpl]) (by rw[vw];rfl) (λi u h=>by rw[AR,Aj,h];rfl) (by omega) ?_
  refine⟨_,_,rfl,zL hsuf ?_⟩;exact zg (zi hd (by simp;rfl) rfl)
open Go Go.Proofs
theorem yN(a b:List UInt8)(h:a.length+b.length<=1099511627776):∃s,s=a++b/\s.length=a.length+b.length/\jQ .add (bs a) (bs b)=some (.string (bs s)):=⟨_,rfl,by simp,Jj a b (by omega)⟩
structure InstS (x:Inst) (n:Nat):Prop where
 t:InstT x n
 n7:n<=60
 cust:x.cust.length<=1000
 pats:∀c∈x.cust,c.pats.length<=1000
theorem Zdq{x:Inst}{n:Nat}(h:InstQ x n):InstS x n:=⟨h.t,by have:=h.n7;omega,by have:=h.six;omega,h.k.a.pats⟩
theorem Yp{z:Int}(h:ZE z):(zV z).length<=20:=Zin (by obtain⟨a,b⟩:=h;unfold zM;omega)
theorem Zi3(n p:Nat)(h:n<=60):(qq n p).length<=60:=by rw[WE];exact h
theorem Zi4{x:Inst}{n:Nat}(h:InstS x n){c:Cust}(hc:c∈x.cust):(∀w∈qr n c,w.length<=60)/\(qr n c).length<=1006:=by
 have hp:=h.pats c hc;unfold qr;rcases (h.t.cust c hc).kind with ⟨k,d,-⟩ | ⟨k,-,-,a,b,s,-,ho⟩
 ·rw[if_pos k];refine⟨λw hw=>?_,by simp;omega⟩;simp only[Aq,An]at hw;rcases hw with rfl | rfl | ⟨p,-,rfl⟩
  ·decide
  ·have:=Yp d;omega
  ·exact Zi3 n p h.n7
 ·rw[if_neg (by omega)];refine⟨λw hw=>?_,by simp⟩;have a1:=Yp a;have a2:=Yp b;have a3:=Yp s;have a4:=Yp ho;simp only[Aq,A4,or_false]at hw;rcases hw with rfl | rfl | rfl | rfl | rfl | rfl
  ·decide
  ·omega
  ·omega
  ·omega
  ·split<;>decide
  ·omega
theorem Zi5{x:Inst}{n K:Nat}(h:InstS x n)(h8:8<=K)(h1:x.cust.length+1<=K)(h2:∀c∈x.cust,c.pats.length+2<=K):∀l∈jC x,(yf l).length+1<=61*K+1:=by
 have hn:x.days.toNat=n:=by have:=h.t.days;omega
 have hd:(zV x.days).length<=20:=Zin (by have:=h.t.days;have:=h.n7;unfold zM;omega);have hv:=Yp h.t.nums.1;have hc:=Yp h.t.nums.2.1;have hl:=Yp h.t.nums.2.2;have hcu:=ZH (n:=x.cust.length) (by have:=h.cust;omega);have key:∀l:Ln,(∀w∈l,w.length<=60)->l.length<=K->(yf l).length+1<=61*K+1:=λl a b=>by have:=Zc7 a;have:61*l.length<=61*K:=B4 _ b;omega
 intro l hlm;simp only[jC,Aq,AC,An]at hlm;rcases hlm with rfl | rfl | rfl | ⟨c,hcm,rfl⟩ | rfl | ⟨r,hr,rfl⟩
 ·exact key _ (by intro w hw;simp only[Aq,A4,or_false]at hw;rcases hw with rfl | rfl<;>decide) (by simp;omega)
 ·refine key _ (λw hw=>?_) (by simp;omega);simp only[Aq,A4,or_false]at hw;rcases hw with rfl | rfl | rfl | rfl | rfl | rfl | rfl | rfl
  all_goals first | omega | decide
 ·refine key _ (λw hw=>?_) (by simp;omega);simp only[Aq,A4,or_false]at hw;rcases hw with rfl | rfl
  ·decide
  ·omega
 ·rw[hn];exact key _ (Zi4 h hcm).1 (by have:=h2 c hcm;unfold qr;split<;>simp<;>omega)
 ·exact key _ (by intro w hw;simp only[Aq,A4,or_false]at hw;rw[hw];decide) (by simp;omega)
 ·refine key _ (λw hw=>?_) (by simp;have:=(h.t.row r hr).1;omega);obtain⟨z,hz,rfl⟩:=An.1 hw;have:=Yp ((h.t.row r hr).2 z hz);omega
theorem Zi6{x:Inst}{n:Nat}(h:InstS x n):∀l∈jC x,(yf l).length+1<=61367:=λl hl=>by
 have:=Zi5 (K:=1002) h (by omega) (by have:=h.cust;omega) (λc hc=>by have:=h.pats c hc;omega) l hl;omega
theorem ZtX{x:Inst}{n:Nat}(h:InstS x n)(ls:List Ln)(hs:∀l∈ls,l∈jC x)(hl:ls.length<=3000):(qm ls).length<=184101000:=by
 have:=Ziq (ls:=ls) λl hm=>Zi6 h l (hs l hm)
 have:61367*ls.length<=61367*3000:=B4 _ hl;omega
def Yq(x:Inst):List Ln:=[[xV,[49]],[xW,zV x.days,xX,zV x.veh,xY,zV x.cap,xZ,zV x.len],[x7,z8 x.cust.length]]
theorem Zdr(x:Inst):jC x=Yq x++(x.cust.map (qr x.days.toNat)++[jo] :: x.dist.map (λr:List Int=>r.map zV)):=rfl
theorem Zi7{x:Inst}{n:Nat}(h:InstS x n):Pure prog 13 [.agg (zx x)] (T (bs (qm (jC x)))):=by
 have hd0:=h.t.days;have hnt:x.days.toNat=n:=by omega
 have hn60:=h.n7;have hn1:=h.t.n1;obtain⟨⟨vh0,vh1⟩,⟨ca0,ca1⟩,⟨le0,le1⟩⟩:=h.t.nums;obtain⟨ve,hve⟩:=Az vh0;obtain⟨ca,hca⟩:=Az ca0;obtain⟨le,hle⟩:=Az le0;have hcl:=h.cust;have hdl:=h.t.rows;have hwds:Pure prog 52 [.lst 5 [I n,I ve,I ca,I le,I x.cust.length]] (.lst 5 [T (bs (z8 n)),T (bs (z8 ve)),T (bs (z8 ca)),T (bs (z8 le)),T (bs (z8 x.cust.length))]) :=
  ZcA [n,ve,ca,le,x.cust.length] (by simp) (by intro m hm;simp only[Aq,A4,or_false]at hm;rcases hm with rfl | rfl | rfl | rfl | rfl<;>omega)
 have hb:=ZtX h;have hline:=Zi6 h;have hhead:qm (Yq x)=[116,114,97,110,116,101,114,32,49,10,100,97,121,115,32]++z8 n++[32,118,101,104,105,99,108,101,115,32]++z8 ve++[32,99,97,112,97,99,105,116,121,32]++z8 ca++[32,108,101,110,103,116,104,32]++z8 le++[10,99,117,115,116,111,109,101,114,115,32]++z8 x.cust.length++[10]:=by
  simp[Yq,qm,yf,zV,hd0,hve,hca,hle]
 obtain⟨P,hP⟩:∃P:Nat->List UInt8,P=λk=>qm (Yq x++(x.cust.take k).map (qr n)):=⟨_,rfl⟩
 have hP0:P 0=qm (Yq x):=by rw[hP];simp
 have hPs:∀k c,x.cust[k]?=some c->P (k+1)=P k++(yf (qr n c)++[10]):=λk c hc=>by
  rw[hP]
  show qm (Yq x++(x.cust.take (k+1)).map (qr n))=_
  rw[AN,hc,List.map_append,<-List.append_assoc];exact Zg7 _ _
 have hPb:∀k,(P k).length<=184101000:=λk=>by
  rw[hP];refine hb _ (λl hl=>?_) (by simp[Yq];omega);rw[Zdr,hnt,AC,AC];rcases AC.1 hl with hl | hl
  ·exact .inl hl
  ·obtain⟨c,hc,rfl⟩:=An.1 hl;exact .inr (.inl (List.mem_map_of_mem (BK hc)))
 obtain⟨D,hD⟩:∃D:Nat->List UInt8,D=λk=>qm (Yq x++(x.cust.map (qr n)++[jo] :: (x.dist.take k).map (λr:List Int=>r.map zV))):=⟨_,rfl⟩
 have hD0:D 0=P x.cust.length++[100,105,115,116,97,110,99,101,115,10]:=by
  rw[hD,hP];simp[qm,yf]
 have hDs:∀k r,x.dist[k]?=some r->D (k+1)=D k++(yf (r.map zV)++[10]):=λk r hr=>by
  rw[hD]
  show qm (Yq x++(x.cust.map (qr n)++[jo] :: (x.dist.take (k+1)).map (λr:List Int=>r.map zV)))=_
  rw[AN,hr,List.map_append,<-List.cons_append,<-List.append_assoc,<-List.append_assoc];exact Zg7 _ _
 have hDn:D x.dist.length=qm (jC x):=by rw[hD,Zdr,hnt];simp
 have hDb:∀k,(D k).length<=184101000:=λk=>by
  rw[hD];refine hb _ (λl hl=>?_) (by simp[Yq];omega);rw[Zdr,hnt,AC,AC];rcases AC.1 hl with hl | hl
  ·exact .inl hl
  ·rcases AC.1 hl with hl | hl
   ·exact .inr (.inl hl)
   ·rcases Aq.1 hl with rfl | hl
    ·exact .inr (.inr (by simp))
    ·obtain⟨r,hr,rfl⟩:=An.1 hl;exact .inr (.inr (CD _ (List.mem_map_of_mem (BK hr))))
 rw[<-hDn];clear hb hP hD hDn;have q0:=ZH (n:=n) (by omega);have q1:=ZH (n:=ve) (by omega);have q2:=ZH (n:=ca) (by omega);have q3:=ZH (n:=le) (by omega);have q4:=ZH (n:=x.cust.length) (by omega);generalize z8 n=w0 at *;generalize z8 ve=w1 at *;generalize z8 ca=w2 at *;generalize z8 le=w3 at *;generalize hw4:z8 x.cust.length=w4 at *;obtain⟨s1,hs1,ls1,es1⟩:=yN [116,114,97,110,116,101,114,32,49,10,100,97,121,115,32] w0 (by (try simp only[Ae,Ah]);omega);have bs1:s1.length<=35:=by rw[ls1];(try simp only[Ae,Ah]);omega
 obtain⟨s2,hs2,ls2,es2⟩:=yN s1 [32,118,101,104,105,99,108,101,115,32] (by (try simp only[Ae,Ah]);omega);have bs2:s2.length<=45:=by rw[ls2];(try simp only[Ae,Ah]);omega
 obtain⟨s3,hs3,ls3,es3⟩:=yN s2 w1 (by (try simp only[Ae,Ah]);omega);have bs3:s3.length<=65:=by rw[ls3];(try simp only[Ae,Ah]);omega
 obtain⟨s4,hs4,ls4,es4⟩:=yN s3 [32,99,97,112,97,99,105,116,121,32] (by (try simp only[Ae,Ah]);omega);have bs4:s4.length<=75:=by rw[ls4];(try simp only[Ae,Ah]);omega
 obtain⟨s5,hs5,ls5,es5⟩:=yN s4 w2 (by (try simp only[Ae,Ah]);omega);have bs5:s5.length<=95:=by rw[ls5];(try simp only[Ae,Ah]);omega
 obtain⟨s6,hs6,ls6,es6⟩:=yN s5 [32,108,101,110,103,116,104,32] (by (try simp only[Ae,Ah]);omega);have bs6:s6.length<=103:=by rw[ls6];(try simp only[Ae,Ah]);omega
 obtain⟨s7,hs7,ls7,es7⟩:=yN s6 w3 (by (try simp only[Ae,Ah]);omega);have bs7:s7.length<=123:=by rw[ls7];(try simp only[Ae,Ah]);omega
 obtain⟨s8,hs8,ls8,es8⟩:=yN s7 [10,99,117,115,116,111,109,101,114,115,32] (by (try simp only[Ae,Ah]);omega);have bs8:s8.length<=134:=by rw[ls8];(try simp only[Ae,Ah]);omega
 obtain⟨s9,hs9,ls9,es9⟩:=yN s8 w4 (by (try simp only[Ae,Ah]);omega);have bs9:s9.length<=154:=by rw[ls9];(try simp only[Ae,Ah]);omega
 obtain⟨s10,hs10,ls10,es10⟩:=yN s9 [10] (by (try simp only[Ae,Ah]);omega);have bs10:s10.length<=155:=by rw[ls10];(try simp only[Ae,Ah]);omega
 have hPe:P 0=s10:=by rw[hP0,hhead,hs10,hs9,hs8,hs7,hs6,hs5,hs4,hs3,hs2,hs1]
 refine zt Tryz.func13 Tryz.ntmps13 Tryz.results13 λS nx hd=>?_
 refine za (zb ?_);intro v0;refine za (ze [] (zS hd0 hve hca hle) ?_);refine qt [] hwds (zS hd0 hve hca hle) ?_;refine za (zz none (Row.pures [0,1,2,3,4,5,6,7,8,9,10,11,12,13,14,15,16,17,18,19,20,21,22,23,24,25] .done) mixed (yl es1 es2 es3 es4 es5 (yG es6 es7 es8 es9 es10)) ?_)
 repeat apply za
 refine zb ?_;rw[<-hPe];refine zj (zD (λk:Nat=>k<=x.cust.length) (λk=>[(1,.ptr nx v0 0),(4,T (bs (P k))),(5,I k)]) (λ_=>[.cells v0 25 (zx x)]) (λk=>x.cust.length-k) 0 [] (by simp) (by simp) (by simp) ?_);rintro k hk
 repeat apply za
 refine zb ?_;refine zv rfl (λhc=>?_) (λhc=>?_)
 ·simp at hc;obtain⟨c,tl,a1,a2,a3,f0,f1⟩:=el 8 rfl x.cust k hc;have hPk:=hPs k c a1;have hcm:=Ab a1;have hct:=(h.t.cust c hcm).kind;have hcp:=h.pats c hcm;have hcw:=Zi4 h hcm;have hsb:=hPb k;generalize P k=ss at *;refine zh (za (zj ?_));obtain⟨kd,dm,ps,ra,si,st,ru,ho⟩:=c;simp only at hct hcp;refine za (ze [] (zE f0 f1 hc) ?_);intro v2
  repeat apply za
  refine zb ?_;rcases hct with ⟨hk1,hdm,hpp,-⟩ | ⟨hk2,-,-,hra,hsi,hst,hru,hho⟩
  ·subst hk1;obtain⟨dn,rfl⟩:=Az hdm.1;have hdn:=hdm.2;have hdd:=Zhb dn (by omega);have hdq:=ZH (n:=dn) (by omega);have hcW:qr n ⟨1,dn,ps,ra,si,st,ru,ho⟩=vO :: z8 dn :: ps.map (qq n):=by simp[qr,zV]
   rw[hcW]at hPk hcw;obtain⟨V,hV⟩:∃V:Nat->List UInt8,V=λj=>ss++yf (vO :: z8 dn :: (ps.take j).map (qq n)):=⟨_,rfl⟩
   have hV0:V 0=ss++[118,105,115,105,116,32]++z8 dn:=by rw[hV];simp[yf]
   have hVs:∀j p,ps[j]?=some p->V (j+1)=V j++[32]++qq n p:=λj p hp=>by
    rw[hV]
    show ss++yf (vO :: z8 dn :: (ps.take (j+1)).map (qq n))=_
    rw[AN,hp,List.map_append];have:=Zg6 (z8 dn :: (ps.take j).map (qq n)) (qq n p) vO;simp only[List.cons_append]at this
    show ss++yf (vO :: z8 dn :: ((ps.take j).map (qq n)++[qq n p]))=_
    rw[this];simp
   have hVn:P (k+1)=V ps.length++[10]:=by rw[hPk,hV];simp
   have hVb:∀j,(V j).length<=184201000:=λj=>by
    rw[hV];have:=Zc7 (ws:=vO :: z8 dn :: (ps.take j).map (qq n)) (m:=60) (λw hw=>hcw.1 w (by
     simp only[Aq,An]at hw ⊢;rcases hw with r | r | ⟨p,hp,r⟩
     ·exact .inl r
     ·exact .inr (.inl r)
     ·exact .inr (.inr ⟨p,BK hp,r⟩)))
    have hl:(vO :: z8 dn :: (ps.take j).map (qq n)).length<=1002:=by simp;omega
    simp only[Ar];have:61*(vO :: z8 dn :: (ps.take j).map (qq n)).length<=61*1002:=B4 _ hl;omega
   clear hV hPk;generalize z8 dn=dw at *;obtain⟨m1,hm1,lm1,em1⟩:=yN ss [118,105,115,105,116,32] (by simp only[Ae,Ah];omega);obtain⟨m2,hm2,lm2,em2⟩:=yN m1 dw (by rw[lm1];simp only[Ae,Ah];omega);have hV0':V 0=m2:=by rw[hV0,hm2,hm1]
   refine zn (by simp) ?_;refine za (ze [] (zo em1 em2) ?_);refine qt [] hdd (zo em1 em2) ?_;rw[<-hV0'];refine za (zb ?_);refine zj (zD (λj:Nat=>j<=ps.length) (λj=>[(1,.ptr nx v0 0),(4,T (bs (V j))),(5,I k),(6,.ptr (nx+1) v2 0),(7,I j)]) (λ_=>[.cells v0 25 (zx x),.cells v2 87 [I 1,I dn,L ps,I ra,I si,I st,I ru,I ho]]) (λj=>ps.length-j) 0 [] (by simp) (by simp) (by simp) ?_);rintro j hj
   repeat apply za
   refine zb ?_;refine zv rfl (λhcj=>?_) (λhcj=>?_)
   ·simp at hcj;obtain⟨p,tl2,b1,b2,b3,g0⟩:=zF rfl ps j hcj;have hpm:=Ab b1;have hplt:p<2 ^ 64:=Bq (hpp p hpm) (Cn (by decide) (by omega));have htx:=ZtW p n (by omega) (by omega) hplt;have hpl:=Zi3 n p hn60;have hvs:=hVs j p b1;have hvb:=hVb j;generalize qq n p=pw at *;generalize hvj:V (j+1)=vj1 at *;generalize V j=vj at *;obtain⟨y1,hy1,ly1,ey1⟩:=yN vj [32] (by simp only[Ae,Ah];omega);obtain⟨y2,hy2,ly2,ey2⟩:=yN y1 pw (by rw[ly1];simp only[Ae,Ah];omega);obtain rfl:vj1=y2:=by rw[hvs,hy2,hy1]
    refine zh (za (zj (zz (some [nx,nx+1]) (Row.pures [0,1,2,3,4,5,6,7,8,9,10,11] .done) mixed (yG g0 hcj ey1 ey2 hd0) ?_)));refine zJ (htx) (yG g0 hcj ey1 ey2 hd0) ?_;refine zb ?_;exact zq (j+1) [] hcj (by omega) (by simp[zu j (by omega),hvj]) rfl (by simp)
   ·simp at hcj;obtain rfl:j=ps.length:=by omega
    have hvb:=hVb ps.length;obtain⟨y1,hy1,ly1,ey1⟩:=yN (V ps.length) [10] (by simp only[Ae,Ah];omega);have hfin:P (k+1)=y1:=by rw[hVn,hy1]
    refine zy (ze [] ey1 ?_);refine zb ?_;exact zq (k+1) [_] hc (by omega) (by simp[zu k (by omega),hfin]) rfl (by simp;rfl)
  ·subst hk2;obtain⟨ra,rfl⟩:=Az hra.1;obtain⟨si,rfl⟩:=Az hsi.1;obtain⟨st,rfl⟩:=Az hst.1;obtain⟨ho,rfl⟩:=Az hho.1;obtain⟨-,hra⟩:=hra;obtain⟨-,hsi⟩:=hsi;obtain⟨-,hst⟩:=hst;obtain⟨-,hho⟩:=hho;have hwd4:Pure prog 52 [.lst 4 [I ra,I si,I st,I ho]] (.lst 4 [T (bs (z8 ra)),T (bs (z8 si)),T (bs (z8 st)),T (bs (z8 ho))]) :=
    ZcA [ra,si,st,ho] (by simp) (by intro m hm;simp only[Aq,A4,or_false]at hm;rcases hm with rfl | rfl | rfl | rfl<;>omega)
   have p0:=ZH (n:=ra) (by omega);have p1:=ZH (n:=si) (by omega);have p2:=ZH (n:=st) (by omega);have p3:=ZH (n:=ho) (by omega);have hcW:qr n ⟨2,dm,ps,ra,si,st,ru,ho⟩=[QB,z8 ra,z8 si,z8 st,if ru=2 then uH else uh,z8 ho]:=by simp[qr,zV]
   rw[hcW]at hPk;generalize z8 ra=u0 at *;generalize z8 si=u1 at *;generalize z8 st=u2 at *;generalize z8 ho=u3 at *;refine zm (by simp) ?_;refine za (zb ?_);refine zr hwd4 ?_;refine za (zb ?_)
   repeat apply za
   refine zb ?_
   by_cases hr2:ru=2
   ·subst hr2;rw[if_pos rfl]at hPk;refine zn (by simp) ?_;refine zb ?_;obtain⟨t1,ht1,lt1,et1⟩:=yN ss [116,97,110,107,32] (by (try simp only[Ae,Ah]);omega);have bt1:t1.length<=184101005:=by rw[lt1];(try simp only[Ae,Ah]);omega
    obtain⟨t2,ht2,lt2,et2⟩:=yN t1 u0 (by (try simp only[Ae,Ah]);omega);have bt2:t2.length<=184101025:=by rw[lt2];(try simp only[Ae,Ah]);omega
    obtain⟨t3,ht3,lt3,et3⟩:=yN t2 [32] (by (try simp only[Ae,Ah]);omega);have bt3:t3.length<=184101026:=by rw[lt3];(try simp only[Ae,Ah]);omega
    obtain⟨t4,ht4,lt4,et4⟩:=yN t3 u1 (by (try simp only[Ae,Ah]);omega);have bt4:t4.length<=184101046:=by rw[lt4];(try simp only[Ae,Ah]);omega
    obtain⟨t5,ht5,lt5,et5⟩:=yN t4 [32] (by (try simp only[Ae,Ah]);omega);have bt5:t5.length<=184101047:=by rw[lt5];(try simp only[Ae,Ah]);omega
    obtain⟨t6,ht6,lt6,et6⟩:=yN t5 u2 (by (try simp only[Ae,Ah]);omega);have bt6:t6.length<=184101067:=by rw[lt6];(try simp only[Ae,Ah]);omega
    obtain⟨t7,ht7,lt7,et7⟩:=yN t6 [32] (by (try simp only[Ae,Ah]);omega);have bt7:t7.length<=184101068:=by rw[lt7];(try simp only[Ae,Ah]);omega
    obtain⟨t8,ht8,lt8,et8⟩:=yN t7 [97,110,121] (by (try simp only[Ae,Ah]);omega);have bt8:t8.length<=184101071:=by rw[lt8];(try simp only[Ae,Ah]);omega
    obtain⟨t9,ht9,lt9,et9⟩:=yN t8 [32] (by (try simp only[Ae,Ah]);omega);have bt9:t9.length<=184101072:=by rw[lt9];(try simp only[Ae,Ah]);omega
    obtain⟨t10,ht10,lt10,et10⟩:=yN t9 u3 (by (try simp only[Ae,Ah]);omega);have bt10:t10.length<=184101092:=by rw[lt10];(try simp only[Ae,Ah]);omega
    obtain⟨t11,ht11,lt11,et11⟩:=yN t10 [10] (by (try simp only[Ae,Ah]);omega);have bt11:t11.length<=184101093:=by rw[lt11];(try simp only[Ae,Ah]);omega
    have hfin:P (k+1)=t11:=by rw[hPk,ht11,ht10,ht9,ht8,ht7,ht6,ht5,ht4,ht3,ht2,ht1];simp[yf]
    refine zz none (Row.pures [0,1,2,3,4,5,6,7,8,9,10,11,12,13,14,15,16,17,18,19,20,21,22,23,24] .done) mixed (yl et1 et2 et3 et4 et5 (yl et6 et7 et8 et9 et10 et11)) ?_;refine ze [] et11 ?_;refine zb ?_;exact zq (k+1) [_] hc (by omega) (by simp[zu k (by omega),hfin]) rfl (by simp;rfl)
   ·rw[if_neg hr2]at hPk;refine zm (by simp[hr2]) ?_;refine zh ?_;obtain⟨t1,ht1,lt1,et1⟩:=yN ss [116,97,110,107,32] (by (try simp only[Ae,Ah]);omega);have bt1:t1.length<=184101005:=by rw[lt1];(try simp only[Ae,Ah]);omega
    obtain⟨t2,ht2,lt2,et2⟩:=yN t1 u0 (by (try simp only[Ae,Ah]);omega);have bt2:t2.length<=184101025:=by rw[lt2];(try simp only[Ae,Ah]);omega
    obtain⟨t3,ht3,lt3,et3⟩:=yN t2 [32] (by (try simp only[Ae,Ah]);omega);have bt3:t3.length<=184101026:=by rw[lt3];(try simp only[Ae,Ah]);omega
    obtain⟨t4,ht4,lt4,et4⟩:=yN t3 u1 (by (try simp only[Ae,Ah]);omega);have bt4:t4.length<=184101046:=by rw[lt4];(try simp only[Ae,Ah]);omega
    obtain⟨t5,ht5,lt5,et5⟩:=yN t4 [32] (by (try simp only[Ae,Ah]);omega);have bt5:t5.length<=184101047:=by rw[lt5];(try simp only[Ae,Ah]);omega
    obtain⟨t6,ht6,lt6,et6⟩:=yN t5 u2 (by (try simp only[Ae,Ah]);omega);have bt6:t6.length<=184101067:=by rw[lt6];(try simp only[Ae,Ah]);omega
    obtain⟨t7,ht7,lt7,et7⟩:=yN t6 [32] (by (try simp only[Ae,Ah]);omega);have bt7:t7.length<=184101068:=by rw[lt7];(try simp only[Ae,Ah]);omega
    obtain⟨t8,ht8,lt8,et8⟩:=yN t7 [102,105,108,108] (by (try simp only[Ae,Ah]);omega);have bt8:t8.length<=184101072:=by rw[lt8];(try simp only[Ae,Ah]);omega
    obtain⟨t9,ht9,lt9,et9⟩:=yN t8 [32] (by (try simp only[Ae,Ah]);omega);have bt9:t9.length<=184101073:=by rw[lt9];(try simp only[Ae,Ah]);omega
    obtain⟨t10,ht10,lt10,et10⟩:=yN t9 u3 (by (try simp only[Ae,Ah]);omega);have bt10:t10.length<=184101093:=by rw[lt10];(try simp only[Ae,Ah]);omega
    obtain⟨t11,ht11,lt11,et11⟩:=yN t10 [10] (by (try simp only[Ae,Ah]);omega);have bt11:t11.length<=184101094:=by rw[lt11];(try simp only[Ae,Ah]);omega
    have hfin:P (k+1)=t11:=by rw[hPk,ht11,ht10,ht9,ht8,ht7,ht6,ht5,ht4,ht3,ht2,ht1];simp[yf]
    refine zz none (Row.pures [0,1,2,3,4,5,6,7,8,9,10,11,12,13,14,15,16,17,18,19,20,21,22,23,24] .done) mixed (yl et1 et2 et3 et4 et5 (yl et6 et7 et8 et9 et10 et11)) ?_;refine ze [] et11 ?_;refine zb ?_;exact zq (k+1) [_] hc (by omega) (by simp[zu k (by omega),hfin]) rfl (by simp;rfl)
 ·simp at hc;obtain rfl:k=x.cust.length:=by omega
  refine zy ?_;have hpb:=hPb x.cust.length;obtain⟨y1,hy1,ly1,ey1⟩:=yN (P x.cust.length) [100,105,115,116,97,110,99,101,115,10] (by simp only[Ae,Ah];omega);obtain rfl:D 0=y1:=by rw[hD0,hy1]
  refine za (ze [] ey1 ?_)
  repeat apply za
  refine zb ?_;refine zj (zD (λk:Nat=>k<=x.dist.length) (λk=>[(1,.ptr nx v0 0),(4,T (bs (D k))),(10,I k)]) (λ_=>[.cells v0 25 (zx x)]) (λk=>x.dist.length-k) 0 [] (by simp) (by simp) (by simp) ?_);rintro k hk
  repeat apply za
  refine zb ?_;refine zv rfl (λhc=>?_) (λhc=>?_)
  ·simp at hc;obtain⟨r,tl,a1,a2,a3,f0⟩:=zF rfl x.dist k hc;have hr:=h.t.row r (Ab a1);have hds:=hDs k r a1;have hdb:=hDb k;have hwl:∀ws:Ln,(∀w∈ws,w∈r.map zV)->ws.length<=1001->(yf ws).length<=61061:=λws hs hl=>by
    have:=Zc7 (ws:=ws) (m:=60) (λw hw=>by
     obtain⟨z,hz,rfl⟩:=An.1 (hs w hw);have:=Yp (hr.2 z hz);omega)
    have:61*ws.length<=61*1001:=B4 _ hl;omega
   have hrl:r.length<=1001:=by have:=hr.1;omega
   have hwj:=hwl (r.map zV) (λw hw=>hw) (by simpa using hrl);have hro:Pure prog 52 [L r] (L ((r.map zV).map bs)):=by
    have e1:(r.map Int.toNat).map (λm:Nat=>(m:Int))=r:=by
     rw[BW];refine(AK λz hz=>?_).trans (C4 _);have:=(hr.2 z hz).1;simp;omega
    have:=ZcA (r.map Int.toNat) (by simp;omega) (λm hm=>by
     obtain⟨z,hz,rfl⟩:=An.1 hm;have:=(hr.2 z hz).2;omega)
    rw[e1]at this;have e2:uf (r.map Int.toNat)=(r.map zV).map bs:=by simp[uf,zV,Function.comp_def]
    rwa[e2]at this
   have hli:=Zp9 (r.map zV) (by simp;omega) (by omega) (λj=>by have:=hwl ((r.map zV).take j) (λw hw=>BK hw) (by simp;omega);omega);generalize (r.map zV).map bs=wl at *;generalize hdk:D (k+1)=dk1 at *;generalize yf (r.map zV)=jw at *;obtain⟨y2,hy2,ly2,ey2⟩:=yN (D k) (jw++[10]) (by simp only[Ar,Ae,Ah];omega);obtain rfl:dk1=y2:=by rw[hds,hy2]
   generalize jw++[10]=jn at *;generalize D k=dk at *;refine zh (za (zj (ze [] (zo f0 hc) ?_)));refine qt [] hro (zE f0 hc ey2) ?_;refine qt [] hli (zE f0 hc ey2) ?_;refine zb ?_;exact zq (k+1) [] hc (by omega) (by simp[zu k (by omega),hdk]) rfl (by simp)
  ·simp at hc;obtain rfl:k=x.dist.length:=by omega
   refine zy (za (zb ?_));exact zg (zi hd (by simp;rfl) rfl)
open Go Go.Proofs Hp
theorem ZtY{x:Inst}{n:Nat}(h:InstQ x n):InstOk x:=by
 have hm:=WN h.m;obtain⟨d1,d2,d3,d4⟩:=Zdo hm.dist;have h6:=h.six;have r:∀z:Int,0<=z->z<=2147483648->zM z:=λz a b=>by unfold zM;omega
 refine⟨by have:=hm.days;unfold zM;omega,r _ hm.veh.1 hm.veh.2,r _ hm.cap.1 hm.cap.2,r _ hm.len.1 hm.len.2,by omega,λc hc=>?_,by omega,λrow hr=>⟨by have:=(d2 row hr).1;omega,λz hz=>r z ((d2 row hr).2 z hz).1 ((d2 row hr).2 z hz).2⟩⟩;have hp:=(h.k.a.made c hc).pats;rcases Zdn (hm.custs c hc) with ⟨k,a,b,l,r1,r2,r3,r4,r5⟩ | ⟨k,q,s,t,ru,ho,e,dm⟩
 ·exact⟨r _ (by omega) (by omega),r _ (by omega) (by omega),hp,by omega,r _ (by omega) (by omega),r _ (by omega) (by omega),r _ (by omega) (by omega),r _ (by omega) (by omega),r _ (by omega) (by omega)⟩
 ·exact⟨r _ (by omega) (by omega),r _ (by omega) (by omega),hp,by rw[e];simp,r _ (by omega) (by omega),r _ (by omega) (by omega),r _ (by omega) (by omega),r _ (by omega) (by omega),r _ (by omega) (by omega)⟩
theorem ZtZ{x:Inst}{n:Nat}{p:zC}(h:PlanG x n p):PlanSz p:=⟨h.serves.sz,λd hd=>by have:=(h.s.ok d hd).2.1;omega⟩
def ul(x:Inst)(n:Nat)(l:List Int):Int:=XH x n (qL l) (zR l 3).toNat
def Yr(x:Inst)(n:Nat)(l:List Int):zC × Int:=Ju x n (qL l) (zR l 1).toNat (zR l 2)
theorem Zt0{x:Inst}{n:Nat}(h:InstQ x n):(qm (jC x)).length<=1048576:=by
 have hm:=WN h.m;have h6:=h.six;have hl:=Ziq (ls:=jC x) (Zi5 (K:=66) (Zdq h) (by omega) (by omega) λc hc=>by
  rcases Zdn (hm.custs c hc) with ⟨k,a,b,l,-⟩ | ⟨k,q,s,t,ru,ho,e,-⟩
  ·omega
  ·rw[e];simp)
 have hk:(jC x).length<=18:=by simp[jC];have:=h.t.rows;omega
 have:4027*(jC x).length<=4027*18:=B4 _ hk;omega
theorem Zi8:qp []=(zI,2):=by unfold qp;rw[Wv];rfl
abbrev ZaG:Wd:=[111,117,116,99,111,109,101,32,109,97,108,102,111,114,109,101,100,10]
theorem Zt1:Pure prog 21 [.agg [I 1,I 0,I 0,I 0,L ([]:List Int),L ([]:zC)]] (T (bs ZaG)):=by
 have hl:Pure prog 59 [.lst 2 [T (bs Zio),T (bs Zip)]] (T (bs ZaG)):=Zsc [Zio,Zip] (by simp) (by decide);refine zt Tryz.func21 Tryz.ntmps21 Tryz.results21 λS nx hd=>?_
 refine za (zb ?_);intro v0
 repeat apply za
 refine zb ?_;refine zj (za (zb ?_));refine zn (by simp) ?_;refine za (zb ?_);refine zr hl ?_;exact zg (zi hd (by simp;rfl) rfl)
theorem Zt2:Pure prog 39 [T (bs []),L ([]:List Int)] (T (bs ZaG)):=by
 have h1:=Zta [] (by simp) [] (by rw[Zi8];decide);rw[Zi8]at h1;have h2:=Zt1;have h3:Pure prog 12 [T (bs []),L ([]:List Int)] (.agg [I 1,I 0,I 0,I 0,L ([]:List Int),L ([]:zC)]):=h1;refine zt Tryz.func39 Tryz.ntmps39 Tryz.results39 λS nx hd=>?_
 refine za (zb ?_);refine za (zb ?_);refine zr h3 ?_;refine zr h2 ?_;exact zg (zi hd (by simp;rfl) rfl)
theorem Zt3:Pure prog 31 [] (B true):=by
 have hr:Pure prog 39 [T (bs []),.sc (.slice none 0 0)] (T (bs ZaG)):=λS=>Zkh (.cons Wk.rfl (.cons Wk.nil .nil)) (Zt2 S)
 refine zt Tryz.func31 Tryz.ntmps31 Tryz.results31 λS nx hd=>?_
 refine za (zb ?_);refine za (zb ?_);refine zr hr ?_;exact zg (zi hd (by simp;rfl) rfl)
def um(l:List Int):List Int:=[qL l,zR l 1 % 9,zR l 2 % 21,zR l 3 % 13]
theorem Zt4(l:List Int):Pure prog 32 [L l] (L (um l)):=by
 have hs:=ZiG l;unfold um;generalize qL l=s at *;generalize zR l 1 % 9=a at *;generalize zR l 2 % 21=b at *;generalize zR l 3 % 13=c at *;refine zt Tryz.func32 Tryz.ntmps32 Tryz.results32 λS nx hd=>?_
 refine za (zb ?_);refine za (zb ?_);refine zr hs ?_;intro v0;refine za (zb ?_);exact zg (zi hd (by simp;rfl) rfl)
open Go Go.Proofs
theorem Zt5{P:Program}{n:Nat}{F:Nat->PV}{S:Store}{o:Oper}{t e len:Nat}{parts:Array (Nat × Operand)}{cs:List PV}{K:PV->Store->Prop}(id:Nat)(hid:S id=.dead)(ho:o.op=.buildSlice t len parts)(ht:P.underlying t=some (.slice e))(hz:P.cellsOf e=1)(h0:0<len)(h64:len<=64)
  (h:Zd P e len (parts.toList.map λx=>(x.1,ev F x.2))=some cs) (hcl:cs.length=len) (hK:∀v,K (.sl id v 1 0 len) (S.set id (.cells v e cs))):PO P jd n o F S K:=by
 intro G hG C w a N st next Q' hnext;have hnd:∀c,o.op≠.defer c:=by intro c hc;rw[ho]at hc;cases hc
 have hpg:(parts.toList.map λx=>(x.1,ev G x.2))=parts.toList.map λx=>(x.1,ev F x.2):=by
  refine AK λx hx=>?_
  rw[hG x.2 (by simp only[ho,Op.operands];simp;exact⟨x.1,by simpa using hx⟩)]
 rw[<-hpg]at h;obtain⟨vs,hrun,hrel,hvs⟩:=ZaL (C:=C) (S:=S) (w:=w) ht (λx=>ev G x) a.eval (λx=>st.ev x) h;have hlen:vs.size=len:=by rw[hvs,hz,BT]
 obtain⟨a1,a2⟩:=st.sim.object' (o:=id) (ver:=C.clock) (.clock C hid) e vs cs (by omega) (λi u _ hu=>hrel.2.1 i u hu) (λi p u hp hu=>hrel.2.2 i p u hp hu);have hrun2:(execOp a.eval o).run P w=.ok (.value (.slice (some ⟨w.heap.size,0,none⟩) len len)) (w.alloc (.cells vs e)):=by
  unfold execOp;simp only[ho,Sem.run_bind];have e1:(parts.map λx=>(x.1,a.eval x.2))=(parts.toList.map λx=>(x.1,a.eval x.2)).toArray:=Array.ext' (by simp);rw[e1,hrun];rfl
 refine qb hnd hrun2 (hnext _ _ _ _ _ (hK C.clock) ?_ a1 a2);have hb1:id<(C.put id C.clock (some (w.heap.size,vs.size))).next/\C.clock<(C.put id C.clock (some (w.heap.size,vs.size))).clock:=by simp only[Ctx.put];omega
 refine .sl ⟨_,_,rfl,Ag _,by unfold jq;omega,by unfold maxLen;omega,λh=>⟨_,_,rfl⟩⟩ hb1 λv0 hv0=>?_
 rw[q11]at hv0;cases hv0;exact⟨Ag _,λ_=>.inr ⟨w.heap.size,vs.size,_,_,by simp[Ctx.put],rfl,λ_=>⟨rfl,by omega⟩,λ_=>rfl⟩⟩
theorem ZaH{P:Program}{n nx:Nat}{ops:Array Oper}{K:KT}{F:Nat->PV}{S:Store}{obs:List Ob}{o:Oper}{os:List Oper}{p:PV}(h:qG P F (ext S nx obs) o=some (p,ext S nx obs))(hK:XS P jd n nx ops K os (zX F o.dst p) S obs)(hg:o.guard=none:=by rfl):XS P jd n nx ops K (o :: os) F S obs:=by
 unfold XS;simp only[gd,hg];exact JC h ⟨S,obs,rfl,hK⟩
theorem WO{P:Program}{n nx:Nat}{ops:Array Oper}{K:KT}{F:Nat->PV}{S:Store}{obs:List Ob}{o:Oper}{os:List Oper}{p:PV}(h:wg P F o=some p)(hK:XS P jd n nx ops K os (zX F o.dst p) S obs)(hg:o.guard=none:=by rfl):XS P jd n nx ops K (o :: os) F S obs:=by
 unfold XS;simp only[gd,hg];exact Ve h ⟨S,obs,rfl,hK⟩
theorem Zt6{P:Program}{n nx:Nat}{ops:Array Oper}{K:KT}{F:Nat->PV}{S:Store}{obs:List Ob}{o:Oper}{os:List Oper}(h:PO P jd n o F (ext S nx obs) (λp S'=>∃S1 obs1,S'=ext S1 nx obs1/\XS P jd n nx ops K os (zX F o.dst p) S1 obs1))(hg:o.guard=none:=by rfl):XS P jd n nx ops K (o :: os) F S obs:=by
 unfold XS;simp only[gd,hg];exact h
theorem Zt7{S:Store}{nx:Nat}(hd:zT nx S)(l:List Int):Spec prog 32 [L l] S (λq S'=>∃v,q=.sl (nx+1) v 1 0 4/\S'=S.set (nx+1) (.cells v 3 ((um l).flatMap Enc.enc))):=by
 have hs:=ZiG l;unfold um;generalize qL l=s at *;generalize zR l 1 % 9=a at *;generalize zR l 2 % 21=b at *;generalize zR l 3 % 13=c at *;refine ut hd Tryz.func32 Tryz.ntmps32 Tryz.results32 ?_;refine za (zb ?_);refine za (zb ?_);refine zr hs ?_;intro v0;refine za (Vz (by rfl) ?_);simp only[];refine WO (by simp;rfl) ?_;refine ZaH (p:=I s) (by simp[vw,zU]) ?_;refine WO (by simp;rfl) ?_;refine ZaH (p:=I a) (by simp[vw,zU]) ?_;refine WO (by simp;rfl) ?_;refine ZaH (p:=I b) (by simp[vw,zU]) ?_;refine WO (by simp;rfl) ?_;refine ZaH (p:=I c) (by simp[vw,zU]) ?_;refine Zt6 (Zt5 (nx+1) (by rw[zU];rfl) rfl Tryz.underlying26 (by simp) (by omega) (by omega) (cs:=[I s,I a,I b,I c]) (by simp[Zd,ZN]) rfl λv=>⟨S,_,qN _,?_⟩);refine WO (by simp;rfl) ?_;refine zg ⟨_,_,by simp;rfl,⟨v,by simp[zp],rfl⟩,Y7 (j:=1) hd (by simp)⟩
open Go Go.Proofs Hp
theorem Zi9{x:Inst}{n:Nat}(h:InstQ x n)(b:Int)(h0:(jN x b).2=0):PlanG x n (jN x b).1:=by
 have hA:=h.k.a;obtain⟨v,pr,hv,hp,e,hd,hc⟩:=Zrt hA h0;have hpl:=Zcw x v b n;refine⟨hA,h.six,by rw[e,hpl],?_⟩;rw[e];intro d hd';obtain⟨r,hr,rfl⟩:=An.1 hd';obtain⟨k,hk,rfl⟩:=An.1 hr;exact(Zo4 (ZgZ hA.h hv k) hA.h.diag b (hd k (AJ.1 hk))).2.1
theorem Zt8{x:Inst}{n:Nat}(h:InstQ x n)(seed:Int)(r:Nat)(b:Int)(h0:(Ju x n seed r b).2=0):PlanG x n (Ju x n seed r b).1:=by
 unfold Ju at h0 ⊢;split at h0
 ·rename_i hs;rw[if_pos hs];exact Zde (Zi9 h b hs) b (IntKind.u64.wrap seed) r
 ·rename_i hs;exact absurd h0 hs
theorem Zt9{x:Inst}{n:Nat}(h:InstQ x n)(l:List Int):Below21 x l (ul x n l) (Yr x n l).1 (Yr x n l).2 (Qq x (Yr x n l).1):=by
 have t1:=XA l 1;have t2:=XA l 2;have t3:=XA l 3;have hn1:=h.t.n1;have hA:=h.k.a;obtain⟨-,-,d3,-⟩:=Zdo (WN h.m).dist;have e1:((zR l 1).toNat:Int)=zR l 1:=by omega
 have e3:((zR l 3).toNat:Int)=zR l 3:=by omega
 have hc:=ZtU (ZtP h) d3 (qL l) (zR l 3).toNat (by omega);rw[e3]at hc;have hr:=Zs3 hA (by omega) (λb h0=>Zi9 h b h0) (qL l) (zR l 1).toNat (by omega) (zR l 2) (by omega) (zR l 3);rw[e1]at hr;have hm:=Zt8 h (qL l) (zR l 1).toNat (zR l 2);have hf:∀e c:Int,uY e c=0->e=0:=λe c he=>by
  unfold uY at he;split at he
  ·assumption
  ·rename_i q;exact absurd he q
 have h6:=h.six;refine⟨hc,hr,λh0=>?_,λh0=>?_,λh0=>?_,λh0=>?_⟩
 ·exact ZpK x (Yr x n l).1 (ZtY h) (ZtZ (hm h0))
 ·exact(hm (hf _ _ h0)).cost
 ·exact Zhx x _ (hm (hf _ _ h0)).serves (by omega) λc hc=>(hA.made c hc).fits
 ·have g1:=hm (hf _ _ h0);exact Zhy x _ g1.serves.sz.n λd hd=>(g1.s.ok d hd).1
def Zds(x:Inst)(n:Nat)(l:List Int):Rep:=Zaz x (ul x n l) (Yr x n l).1 (Yr x n l).2 (Qq x (Yr x n l).1)
theorem Zua{x:Inst}{n:Nat}(h:InstQ x n)(l:List Int):Pure prog 12 [T (bs (qm (jC x))),L l] (.agg (Zc6 (Zds x n l))):=by
 have hz:=ZrG h.t h.m;have:=Ztb (qm (jC x)) (Zt0 h) l (bd:=ul x n l) (p:=(Yr x n l).1) (e:=(Yr x n l).2) (c:=Qq x (Yr x n l).1) (by rw[hz]) (by rw[hz];exact Zt9 h l);rw[hz]at this;exact this
theorem Zub(x:Inst)(n:Nat)(l:List Int):(Zds x n l).bound=ul x n l:=by
 unfold Zds Zaz;split<;>rfl
theorem Zdt{x:Inst}{n:Nat}(h:InstQ x n)(l:List Int):∃o c ho ds p,Pure prog 12 [T (bs (qm (jC x))),L l] (.agg [I o,I (ul x n l),I c,I ho,L (ds:List Int),L (p:zC)]):=by
 have:=Zua h l;rw[<-Zub];exact⟨_,_,_,_,_,this⟩
theorem Zdu(y:Inst)(l:List Int):jY (qQ y) l=jY y l:=rfl
theorem Zja(y:Inst):∀k,uJ (qQ y) k=uJ y k
 | 0=>rfl
 | k+1=>by
  show qS (uJ (qQ y) k) _=qS (uJ y k) _
  rw[Zja y k];rfl
theorem Zuc(y:Inst):u7 (qQ y)=u7 y:=by
 have e1:XF (qQ y)=XF y:=rfl;unfold u7;rw[Zja,e1];rfl
theorem Zdv(y:Inst)(n:Nat)(a b:List Int):Yn (qQ y) n a b=Yn y n a b:=by
 have e1:u9 (qQ y) n a b=u9 y n a b:=rfl;unfold Yn Ym;rw[Zuc,e1];rfl
theorem Zjb(y:Inst)(c:Nat):∀k,vq (qQ y) c k=vq y c k
 | 0=>rfl
 | k+1=>by
  show (if k≠c then jR (vq (qQ y) c k) _ else vq (qQ y) c k)=if k≠c then jR (vq y c k) _ else vq y c k
  rw[Zjb y c k];rfl
theorem Zud(y:Inst):wd (qQ y)=wd y:=by
 unfold wd
 show (List.range y.cust.length).map (λi=>vq (qQ y) (i+1) (y.cust.length+1))=_
 simp only[Zjb]
theorem Zue(y:Inst)(n:Nat)(a b:List Int):QI (qQ y) n a b=QI y n a b:=by
 unfold QI XE;rw[Zdv,Zud];rfl
theorem Zuf(y:Inst)(n:Nat)(c:Clm):Yo (qQ y) n c=Yo y n c:=by
 have e1:ZL (qQ y) c=ZL y c:=rfl;have e2:∀i,vU (qQ y) n i=vU y n i:=λi=>by unfold vU;rw[Zdu,Zdv]
 unfold Yo;rw[e1,e2]
theorem Zjc(y:Inst)(n:Nat)(s:Int):∀k,jZ (qQ y) n s k=jZ y n s k
 | 0=>by
  show (⟨Zb (qQ y),vU (qQ y) n (Zb (qQ y)),_⟩:Clm)=⟨Zb y,vU y n (Zb y),_⟩
  have e1:Zb (qQ y)=Zb y:=rfl;rw[e1];unfold vU;rw[Zdu,Zdv]
 | k+1=>by
  show Yo (qQ y) n (jZ (qQ y) n s k)=Yo y n (jZ y n s k)
  rw[Zjc y n s k,Zuf]
theorem Zug(y:Inst)(n:Nat)(l:List Int):ul (qQ y) n l=ul y n l:=by
 unfold ul XH;rw[Zjc,Zdu,Zue]
theorem Zuh(x:Inst)(l m:List Int)(hx:InstOk x):Pure prog 9 [.agg (zx x),L l,L m] (B true):=by
 have hlv:=Zt3;have hG:=Zk8 x hx;have hNu:=Zt4 l;have hNo:=λS nx obs=>Zt7 (S:=ext S nx obs) (nx:=nx+obs.length) jF m
 obtain⟨n,hn⟩:∃n:Nat,(yo x).days=n:=⟨(yo x).days.toNat,by have:=Wy x;omega⟩;have hQ:=ZtD x hn;have hQ0:=ZtE hQ;have hPr:=Zi7 (Zdq hQ);have hPr0:=Zi7 (Zdq hQ0);obtain⟨lb,hlb⟩:∃lb,lb=[qL l,zR m 1 % 9,zR m 2 % 21,zR l 3 % 13]:=⟨_,rfl⟩;obtain⟨o1,c1,h1,d1,p1,hP1⟩:=Zdt hQ (um l);obtain⟨o2,c2,h2,d2,p2,hP2⟩:=Zdt hQ lb;obtain⟨o3,c3,h3,d3,p3,hP3⟩:=Zdt hQ0 (um l);have hbl:ul (yo x) n lb=ul (yo x) n (um l):=by
  have e1:qL lb=qL (um l):=by rw[hlb];rfl
  have e3:zR lb 3=zR (um l) 3:=by rw[hlb];rfl
  unfold ul;rw[e1,e3]
 have hb0:ul (qQ (yo x)) n (um l)=ul (yo x) n (um l):=Zug _ _ _;rw[hbl]at hP2;rw[hb0]at hP3;have hlb4:L lb=.lst 4 [I (qL l),I (zR m 1 % 9),I (zR m 2 % 21),I (zR l 3 % 13)]:=by rw[hlb];rfl
 rw[hlb4]at hP2;have hsl:L (um l)=.lst 4 [I (qL l),I (zR l 1 % 9),I (zR l 2 % 21),I (zR l 3 % 13)]:=rfl;rw[hsl]at hP1 hP3 hNu;have hsm:(um m).flatMap Enc.enc=[I (qL m),I (zR m 1 % 9),I (zR m 2 % 21),I (zR m 3 % 13)]:=rfl;rw[hsm]at hNo;have hn0:zx (qQ (yo x))=[I (yo x).days,I 0,I (yo x).cap,I (yo x).len,L (yo x).cust,L (yo x).dist]:=rfl;rw[hn0]at hPr0;clear hbl hb0 hlb hlb4 hsl hsm hn0;generalize ul (yo x) n (um l)=bd at *;generalize qm (jC (yo x))=tx at *;generalize qm (jC (qQ (yo x)))=tx0 at *;generalize yo x=y at *;generalize qL l=s0 at *;generalize qL m=s1 at *;generalize zR l 1 % 9=a1 at *;generalize zR l 2 % 21=a2 at *;generalize zR l 3 % 13=a3 at *;generalize zR m 1 % 9=b1 at *;generalize zR m 2 % 21=b2 at *;generalize zR m 3 % 13=b3 at *;clear hQ hQ0 hn hx;refine zt Tryz.func9 Tryz.ntmps9 Tryz.results9 λS nx hd=>?_
 refine za (zb ?_);intro v0;refine za (zb ?_);refine zr hG ?_;intro v1;refine za (zb ?_);refine zr hPr ?_;refine za (zb ?_);refine zr hNu ?_;refine za (zb ?_);refine λhsuf=>((hNo S nx _).mono ?_).v
 rintro _ _ ⟨v2,rfl,rfl⟩;refine⟨S,_,JT 1 _,?_⟩;simp only[Ae,Ah,Nat.reduceAdd,Nat.add_assoc,List.replicate,List.cons_append,AS];refine zL hsuf ?_;refine za (zb ?_);refine za (zb ?_);refine yb 3 rfl ?_;refine za (zb ?_);refine zr hP1 ?_;intro v3;refine za (zb ?_);refine zr hP2 ?_;intro v4;refine za (zb ?_);refine za (zb ?_);refine zr hPr0 ?_;refine zr hP3 ?_;intro v5;refine za (ze [(5,48),(12,55)] trivial ?_);refine qt [(5,48),(12,55)] hlv trivial ?_;exact zg (zi hd (by simp;rfl) rfl)
end Go.Proofs.YtcocagkbfpgmiaaGreatDoor.Pv
