/- Part of a proof, packed. -/
import Derived.Test.YtcocagkbfpgmiaaGreatDoorB2
open Go.Proofs.Tryz
set_option maxRecDepth 100000
set_option maxHeartbeats 3200000
namespace Go.Proofs.YtcocagkbfpgmiaaGreatDoor.Pv
open Go
def yy(l:List Stop):List Value:=l.flatMap λs=>[.int .i64 s.c,.int .i64 s.q]
theorem ZfQ(l:List Stop):l.flatMap Enc.enc=(yy l).map PV.sc:=by
 unfold yy
 induction l<;>simp_all
theorem XG(l:List Stop):(yy l).length=l.length*2:=by
 unfold yy
 induction l<;>grind
theorem Zcw(l m:List Stop):yy (l++m)=yy l++yy m:=by simp[yy]
theorem ZfR(l:List Stop)(i:Nat)(h:i<=l.length):(yy l).take (i*2)=yy (l.take i):=by grind[List.take_append_drop,yy,XG]
theorem ZfS(l:List Stop)(i:Nat)(h:i<=l.length):(yy l).drop (i*2)=yy (l.drop i):=by
 conv=>lhs;rw[<-List.take_append_drop i l,Zcw]
 grind[XG]
theorem XH(l:List Stop):∀v∈yy l,v.oneCell'=true:=by
 intro v hv;obtain⟨s,_,hs⟩:=BL.1 hv;simp at hs;rcases hs with rfl | rfl<;>rfl
theorem ZmA{V vs cur:List Value}{i n:Nat}(hi:i<n)(a:V.length=n*2)(hv:vs.length=2)(hc:cur.take (n*2)=V)(hl:n*2+2<=cur.length):
  ((cur.take ((i+1)*2)++V.drop (i*2)++cur.drop ((i+1)*2+(V.drop (i*2)).length)).take (i*2)++vs++(cur.take ((i+1)*2)++V.drop (i*2)++cur.drop ((i+1)*2+(V.drop (i*2)).length)).drop (i*2+2)) =
   V.take (i*2)++vs++V.drop (i*2)++cur.drop ((i+1)*2+(V.drop (i*2)).length):=by
 have h1:(cur.take ((i+1)*2)).length=i*2+2:=DT
 have h2:(cur.take ((i+1)*2)++V.drop (i*2)++cur.drop ((i+1)*2+(V.drop (i*2)).length)).take (i*2)=V.take (i*2):=by
  rw[List.append_assoc,BM DO,DI,Bf DO,<-hc,DI,Bf DO]
 simp_all
theorem ZmB{V vs ROW:List Value}{i n:Nat}(hi:i<n)(a:V.length=n*2)(hv:vs.length=2)(hc:ROW.take (i*2)=V.take (i*2)):
  ((ROW.take (i*2)++vs++ROW.drop (i*2+2)).take ((i+1)*2)++V.drop (i*2)++(ROW.take (i*2)++vs++ROW.drop (i*2+2)).drop ((i+1)*2+(V.drop (i*2)).length)) =
   V.take (i*2)++vs++V.drop (i*2)++(ROW.take (i*2)++vs++ROW.drop (i*2+2)).drop ((i+1)*2+(V.drop (i*2)).length):=by
 have h1:(ROW.take (i*2)++vs).length=(i+1)*2:=by rw[hc];simp;omega
 grind
theorem ZfT{vs:Array Value}(h:3=vs.size):∃u v x,vs=#[u,v,x]:=by
 match vs,h with
 | ⟨[u,v,x]⟩,_=>simp
theorem Zcx{C:Ctx}{S:Store}{w:World}{R:Array Value}{V rest:List Value}(h:R.toList=V++rest)(h1:∀v∈V,v.oneCell'=true):
  (∀(i:Nat) (v:Value),i<(V.map PV.sc).length->R[i]?=some v->v.oneCell'=true)/\∀(i:Nat) (p:PV) (v:Value),(V.map PV.sc)[i]?=some p->R[i]?=some v->Rel C S w p v:=by
 have a:∀(i:Nat) (v:Value),i<V.length->R[i]?=some v->V[i]?=some v:=by
  intro i v hi hv;rw[<-Array.getElem?_toList,h,As hi]at hv;exact hv
 refine⟨λi v hi hv=>h1 v (Ab (a i v (by simpa using hi) hv)),λi p v b hv=>?_⟩;rw[Aj]at b;obtain⟨u,c,rfl⟩:=Ap.1 b;have:=a i v (Ad.1 c).1 hv;rw[c]at this;cases this;exact .sc _
theorem ZmC{S:Store}{id ver:Nat}(cs:List Stop)(i:Nat)(s:Stop)(hi:i<cs.length)(hn:cs.length<=1000000)(hid:S id=.cells ver 100 (cs.flatMap Enc.enc)):
  Spec prog 338 [.sl id ver 2 0 cs.length,I i,L [s]] S (λp S'=>p=.sl id (ver+1) 2 0 (cs.length+1)/\S'=S.set id (.cells (ver+1) 100 ((cs.take i++s :: cs.drop i).flatMap Enc.enc))):=by
 refine⟨qx func338 DU rfl,?_⟩;intro C w vs hS hl hr;obtain⟨u,v,x,rfl⟩:=ZfT hl;obtain rfl:=JJ (hr 1 _ v rfl rfl);have hu:=hr 0 _ u rfl rfl;have hx:Rel C S w (.lst 1 [I s.c,I s.q]) x:=hr 2 _ x rfl rfl;have d:(yy cs).length=cs.length*2:=XG cs;rw[ZfQ]at hid ⊢;obtain⟨i0,a6⟩:=B4.1 Zcn;have hz:=ZfC;have hc:=Zcm;have hb:=ZfB;simp only[Program.zeroOf,Program.cellsOf,Program.bytesOf',a6,Du,A4,Option.getD_some,Option.some.injEq]at hz hc hb;cases hu with
 | sl h1 h2 h3 =>
  obtain⟨ad,cap,rfl,q1,q2,q3,q4⟩:=h1;have a9:=(h3 ver (by rw[hid];rfl)).2 rfl;rcases hS.cells id ver _ _ hid with ⟨e5,b7⟩ | ⟨b,k,c,g1,g2,g3,g4,g5,g6⟩
  ·have:=congrArg List.length b7;simp[d]at this;exfalso;omega
  rcases a9 with ⟨z1,_⟩ | ⟨b',k',e6,a,z1,z2,z3,z4⟩
  ·rw[g1]at z1;cases z1
  rw[g1]at z1;cases z1;cases z2;obtain⟨rfl,b8⟩:=z3 rfl;rw[List.length_map,d]at g4
  -- what stands in the block
  have m:∀(j:Nat) v,(yy cs)[j]?=some v->c[j]?=some v:=by
   intro j v g;have c6:=(Ad.1 g).1;have e2:c[j]?=some c[j]:=AY DO;have:=g6 j (.sc v) _ (by rw[Aj,g];rfl) e2;rw[e2];generalize c[j]=y at this;cases this;rfl
  have c7:c.toList.take (cs.length*2)=yy cs:=by
   apply A8;intro j
   by_cases g:j<cs.length*2
   ·rw[AL g,Array.getElem?_toList];have e:(yy cs)[j]?=some (yy cs)[j]:=Ac DO;rw[e,m j _ e]
   ·rw[Ao DT,Ao DO]
  have n:∀(j:Nat) v,(yy cs)[j]?=some v->w.cell? ⟨b,j,none⟩=some v:=λj v g=>by
   simp only[World.cell?,g2];exact m j v g
  have a4:yy (cs.take i++s :: cs.drop i)=(yy cs).take (i*2)++[.int .i64 s.c,.int .i64 s.q]++(yy cs).drop (i*2):=by
   rw[ZfR cs i DO,ZfS cs i DO,Zcw];simp[yy]
  have a3:(yy (cs.take i++s :: cs.drop i)).length=(cs.length+1)*2:=by rw[XG];simp;omega
  cases hx with
  | lst1 y1 y2 y3 y4 y5 y6 y7 =>
   rename_i vc vb vo cv ev fz;have d4:=y5 DP;simp only[Ae,Ah]at d4;have o:∀(j:Nat) v,([.int .i64 s.c,.int .i64 s.q]:List Value)[j]?=some v->w.cell? ⟨vb,vo+j,none⟩=some v:=by
    intro j v g;have c6:=(Ad.1 g).1;simp at c6;simp only[World.cell?,y3];have e2:cv[vo+j]?=some (cv[vo+j]' DO):=AY DO;have:=y7 j (.sc v) _ (by
     match j,g with
     | 0,g=>cases g;rfl
     | 1,g=>cases g;rfl) e2
    rw[if_neg DP,e2];generalize cv[vo+j]' DO=y at this;cases this;rfl
   have d5:vb≠b:=by
    rintro rfl;exact y4 ⟨id,k,by rw[hid];simp,g1⟩
   have t:∀(w':World) (b' a:Nat),cs.length+1<=a->a<=maxLen ->
     Rel (C.at id (ver+1) (some (b',a*2))) (S.set id (.cells (ver+1) 100 ((yy (cs.take i++s :: cs.drop i)).map .sc))) w' (.sl id (ver+1) 2 0 (cs.length+1)) (.slice (some ⟨b',0,none⟩) (cs.length+1) a):=by
    intro w' b' a d6 d7;refine .sl ⟨_,_,rfl,d6,by unfold xk;omega,d7,λ_=>⟨_,_,rfl⟩⟩ ⟨h2.1,by simp only[Ctx.at];omega⟩ λv0 c8=>?_
    rw[q11]at c8;cases c8;exact⟨Ag _,λ_=>.inr ⟨b',_,_,_,by simp[Ctx.at],rfl,λ_=>⟨rfl,rfl⟩,λ_=>rfl⟩⟩
   have d0:∀v∈([.int .i64 s.c,.int .i64 s.q]:List Value),v.oneCell'=true:=by
    intro v hv;simp at hv;rcases hv with rfl | rfl<;>rfl
   by_cases z:cs.length+1<=cap
   ·obtain⟨R1,r⟩:∃R1:Array Value,R1=(c.toList.take ((i+1)*2)++(yy cs).drop (i*2)++c.toList.drop ((i+1)*2+((yy cs).drop (i*2)).length)).toArray:=⟨_,rfl⟩;obtain⟨R2,a0⟩:∃R2:Array Value,R2=(R1.toList.take (i*2)++([.int .i64 s.c,.int .i64 s.q]:List Value)++R1.toList.drop (i*2+2)).toArray:=⟨_,rfl⟩;have a5:c.size=cap*2:=g3.trans b8.symm;have e4:c.toList.length=cap*2:=by simpa using a5
    have f:R2.toList=yy (cs.take i++s :: cs.drop i)++c.toList.drop ((i+1)*2+((yy cs).drop (i*2)).length):=by
     rw[a0,r,a4];simp only[];exact ZmA hi d rfl c7 DO
    have a1:R2.size=cap*2:=by
     rw[<-Array.length_toList,f];simp[a3,d];omega
    refine(ZkC b cs.length cap i vb vo vc (yy cs) [.int .i64 s.c,.int .i64 s.q] w (by rw[a6];simp[hc]) c g2 a5 hi z (by unfold maxLen at q3;omega) DO d rfl d5 n o (XH cs) d0 ev (cv.size-1) (by unfold World.shape?;rw[y3];simp;omega) R1 R2 r a0).mono ?_;rintro e w' ⟨rfl,rfl⟩;obtain⟨r1,r2⟩:=Zcx (C:=C) (S:=S) (w:=w) f (XH _);have a7:=setRow_heap w.drew b c R1 _ _ g2;obtain⟨t1,t2⟩:=hS.turn (l:=some (b,cap*2)) (ver':=ver+1) (cs':=(yy (cs.take i++s :: cs.drop i)).map .sc) hid DO (λh=>absurd h DO) (w':=(w.drew.setRow b R1).setRow b R2)
     (by
      rw[g1];refine⟨⟨rfl,rfl,rfl,by simp[World.setRow],λj g d8=>?_⟩,CO _⟩;have d1:j≠b:=λe=>d8 (by rw[e];rfl)
      rw[setRow_other _ _ _ _ d1,setRow_other _ _ _ _ d1];rfl)
     (.inr ⟨b,cap*2,R2,rfl,.inr (by rw[g1];rfl),setRow_heap _ _ _ _ _ _ a7,a1,by rw[List.length_map,a3];omega,r1,r2⟩)
    exact⟨_,_,_,_,rfl,⟨rfl,rfl⟩,t _ b cap z q3,t1,t2⟩
   ·obtain⟨G,hG⟩:∃G,G=grownCap w (cs.length+1) cap 100:=⟨_,rfl⟩;have d9:cs.length+1<=G:=by rw[hG];exact grownCap_ge w _ _ _
    have e0:G<=maxLen:=by rw[hG];exact grownCap_le_maxLen w _ _ _ (by unfold maxLen;omega)
    obtain⟨ROW,a2⟩:∃ROW:Array Value,ROW=((yy cs).take (i*2)).toArray++Builtin.zeroCells (Value.agg #[.int .i64 0,.int .i64 0]).cells (cs.length+1-i)++Builtin.zeroCells (Value.agg #[.int .i64 0,.int .i64 0]).cells (G-(cs.length+1)):=⟨_,rfl⟩;obtain⟨R1,r⟩:∃R1:Array Value,R1=(ROW.toList.take (i*2)++([.int .i64 s.c,.int .i64 s.q]:List Value)++ROW.toList.drop (i*2+2)).toArray:=⟨_,rfl⟩;obtain⟨R2,a0⟩:∃R2:Array Value,R2=(R1.toList.take ((i+1)*2)++(yy cs).drop (i*2)++R1.toList.drop ((i+1)*2+((yy cs).drop (i*2)).length)).toArray:=⟨_,rfl⟩;have d2:((yy cs).take (i*2)).length=i*2:=DT
    have e1:ROW.size=G*2:=by
     rw[a2];simp only[Cn,size_zeroCells,BP,d2];simp[Value.cells];omega
    have a8:ROW.toList.take (i*2)=(yy cs).take (i*2):=by
     rw[a2];simp only[Array.toList_append];rw[List.append_assoc];exact DD d2
    have d3:R1.size=G*2:=by rw[r];simp;omega
    have f:R2.toList=yy (cs.take i++s :: cs.drop i)++R1.toList.drop ((i+1)*2+((yy cs).drop (i*2)).length):=by
     rw[a0,r,a4];simp only[];exact ZmB hi d rfl a8
    have a1:R2.size=G*2:=by
     rw[<-Array.length_toList,f];simp[a3,d,d3];omega
    refine(ZkB b cs.length cap i vb vo vc (yy cs) [.int .i64 s.c,.int .i64 s.q] w i0 _ a6 hz DO hb rfl hi q1 DO DO d rfl n o (XH cs) d0 G hG ROW a2 R1 R2 r a0).mono ?_;rintro e w' ⟨rfl,rfl⟩;obtain⟨r1,r2⟩:=Zcx (C:=C) (S:=S) (w:=w) f (XH _);have e3:=YY w.drew (.cells ROW 100);have a7:=setRow_heap (w.drew.alloc (.cells ROW 100)) w.heap.size ROW R1 _ _ e3;obtain⟨t1,t2⟩:=hS.turn (l:=some (w.heap.size,G*2)) (ver':=ver+1) (cs':=(yy (cs.take i++s :: cs.drop i)).map .sc) hid DO (λh=>absurd h DO) (w':=((w.drew.alloc (.cells ROW 100)).setRow w.heap.size R1).drew.setRow w.heap.size R2)
     ⟨⟨rfl,rfl,rfl,by simp[World.setRow],λj g _=>by
      rw[setRow_other _ _ _ _ DO]
      show ((w.drew.alloc (.cells ROW 100)).setRow w.heap.size R1).heap[j]?=_
      rw[setRow_other _ _ _ _ DO];exact Zr w.drew _ j g⟩,Co (CO _)⟩
     (.inr ⟨w.heap.size,G*2,R2,rfl,.inl (Ag _),setRow_heap _ _ _ _ _ _ a7,a1,by rw[List.length_map,a3];omega,r1,r2⟩)
    exact⟨_,_,_,_,rfl,⟨rfl,rfl⟩,t _ w.heap.size G d9 e0,t1,t2⟩
open Go
def ye(t:List Stop):Int:=(t.map (·.q)).sum
theorem Zaz(t:List Stop)(s:Stop):ye (t++[s])=ye t+s.q:=by simp[ye]
theorem ZmD(l:List Int)(c:Int)(h:l.Nodup)(hc:c ∉ l):(l++[c]).Nodup:=by
 rw[Dq];exact⟨h,by simp,λa d b hb e=>by simp at hb;subst hb;subst e;exact hc d⟩
theorem ZfU{l:List Int}{i k:Nat}{c:Int}(hi:l[i]?=some c)(a:l[k]?=some c)(h:k<i):¬l.Nodup:=by
 intro hn;have:=(List.getElem?_inj (Ad.1 hi).1 hn).1 (hi.trans a.symm);omega
open Go
theorem WS(t:List Stop)(g:t.length<=1048576)(S:Store)(nx:Nat)(d:yd nx S):Spec prog 152 [.agg [L t]] S (λp S'=>∃v,p=.sl (nx+1) v 1 0 t.length/\S'=S.set (nx+1) (.cells v 3 ((t.map (·.c)).flatMap Enc.enc))):=by
 refine Zv d func152 ntmps152 results152 ?_;refine DY ?_;intro v0;refine DY ?_;refine ze (q9 3 3 1 rfl λv1=>?_);refine DY ?_;refine zn (zK (λs:Nat × List Int × Nat × Nat=>s.1<=t.length/\s.2.1=(t.take s.1).map (·.c)) (λ(k,out,v,a)=>[(3,.sl (nx+1) a 1 0 out.length),(7,L t),(8,I t.length),(9,I k)]) (λ(k,out,v,a)=>[.cells v 42 [L t],.cells a 3 (out.flatMap Enc.enc)]) (λs=>t.length-s.1) (0,[],v0,v1) [] DP DP DP ?_);rintro⟨k,out,v1,a⟩ ⟨e,ho⟩;simp only at e ho ⊢;refine DY ?_;refine ze (zA rfl (λhc=>?_) (λhc=>?_))
 ·simp at hc;obtain⟨s,tl,h,i,a3,j,f⟩:=el 2 rfl t k hc;refine zk (ze (zn (ze (zi [] (zq hc f) ?_))));intros;have hl:out.length=k:=by rw[ho];simp;omega
  refine zg ?_;refine⟨by omega,?_⟩;refine zg ?_;exact zu (k+1,out++[s.c],v1,a+1) [_] (by simp[a3,ho];omega) DT (by simp[zy k (by omega)]) rfl DQ
 ·simp at hc;have b:k=t.length:=DO
  subst b;refine zC (DY ?_);refine zj ⟨_,_,rfl,⟨a,by simp[ho],rfl⟩,JD d (by simp[ho])⟩
theorem ZmE(t:List Stop)(a:t.length<=1048576):Pure prog 152 [.agg [L t]] (L (t.map (·.c))):=by
 have:=Zan 1 (λS nx b=>WS t a S nx b) DP;rw[<-List.length_map (f:=(·.c))]at this;exact this
theorem ZfV(t:List Stop)(e:t.length<=1048576):Pure prog 262 [.agg [L t]] (I (W (ye t))):=by
 refine zx func262 ntmps262 results262 λS nx b=>?_
 refine DY ?_;intro v0;refine DY ?_
 repeat apply ze
 refine zg ?_;refine zn (zK (λs:Nat × Nat=>s.1<=t.length) (λ(k,v)=>[(3,I (W (ye (t.take k)))),(7,L t),(8,I t.length),(9,I k)]) (λ(k,v)=>[.cells v 42 [L t]]) (λs=>t.length-s.1) (0,v0) [] DP (by simp[ye]) DP ?_);rintro⟨k,v1⟩ c;simp only at c ⊢;refine DY ?_;refine ze (zA rfl (λhc=>?_) (λhc=>?_))
 ·simp at hc;obtain⟨s,tl,f,g,a3,h,d⟩:=el 2 rfl t k hc;refine zk (ze (zn (ze (zi [] (zq hc d) ?_))));intros;refine zg ?_;refine zg ?_;exact zu (k+1,v1) [_] hc DT (by simp[zy k (by omega),a3,Zaz,Yq]) rfl DQ
 ·simp at hc;have a:k=t.length:=DO
  subst a;refine zC (DY ?_);exact zj (zm b rfl DP)
theorem WT(x:Inst)(t:List Stop)(a:t.length<=1048576)(hs:∀s∈t,qv s.c):Pure prog 159 [.agg (zE x),.agg [L t]] (I (W (yN x (t.map (·.c))))):=by
 refine zx func159 ntmps159 results159 λS nx b=>?_
 refine DY ?_;intros;refine ze (zD none (Row.pures [0,1,2,3,4] .done) mixed trivial ?_);refine zO (ZmE _ a) trivial ?_;refine zO (ZfN _ _ (by simpa using a) (by simpa using hs)) trivial ?_;exact zj (zm b rfl rfl)
def yx(x:Inst)(d:zt):Int:=(d.map λt=>yN x (t.map (·.c))).sum
theorem ZmF(x:Inst)(d:zt)(t:zU):yx x (d++[t])=yx x d+yN x (t.map (·.c)):=by simp[yx]
structure DayOk (d:zt):Prop where
 n:d.length<=1048576
 t:∀t∈d,t.length<=1048576
 s:∀t∈d,∀s∈t,qv s.c
theorem XI(x:Inst)(d:zt)(a:DayOk d):Pure prog 116 [.agg (zE x),.agg [L d]] (I (W (yx x d))):=by
 have hn:=a.n;refine zx func116 ntmps116 results116 λS nx f=>?_
 refine DY ?_;intro v0 v1;refine DY ?_
 repeat apply ze
 refine zg ?_;refine zn (zK (λs:Nat × Nat × Nat=>s.1<=d.length) (λ(k,v,e)=>[(2,.ptr nx v 0),(5,I (W (yx x (d.take k)))),(9,L d),(10,I d.length),(11,I k)]) (λ(k,v,e)=>[.cells v 25 (zE x),.cells e 39 [L d]]) (λs=>d.length-s.1) (0,v0,v1) [] DP (by simp[yx]) DP ?_);rintro⟨k,v1,g⟩ h;simp only at h ⊢;refine DY ?_;refine ze (zA rfl (λhc=>?_) (λhc=>?_))
 ·simp at hc;obtain⟨t,tl,i,l,a3,j⟩:=zN rfl d k hc;have b:=Ab i;refine zk (ze (zn (ze (zi [] (zq hc j) ?_))));intros;refine zg ?_;refine zv (WT _ _ (a.t t b) (a.s t b)) ?_;refine zg ?_;exact zu (k+1,v1,g) [_] hc DT (by simp[zy k (by omega),a3,ZmF,Yq,Zfp]) rfl DQ
 ·simp at hc;have c:k=d.length:=DO
  subst c;refine zC (DY ?_);exact zj (zm f rfl DP)
theorem ZfW(d:zt)(hn:d.length<=1048576)(hf:d.flatten.length<=1048576):Pure prog 153 [.agg [L d]] (L d.flatten):=by
 refine zx func153 ntmps153 results153 λS nx c=>?_
 refine DY ?_;intro v0;refine DY ?_;refine ze (q9 3 100 2 rfl λv1=>?_);refine DY ?_;refine zn (zK (λs:Nat × List Stop × Nat × Nat=>s.1<=d.length/\s.2.1=(d.take s.1).flatten) (λ(k,out,v,a)=>[(3,.sl (nx+1) a 2 0 out.length),(7,L d),(8,I d.length),(9,I k)]) (λ(k,out,v,a)=>[.cells v 39 [L d],.cells a 100 (out.flatMap Enc.enc)]) (λs=>d.length-s.1) (0,[],v0,v1) [] DP DP DP ?_);rintro⟨k,out,v1,a⟩ ⟨f,ho⟩;simp only at f ho ⊢;refine DY ?_;refine ze (zA rfl (λhc=>?_) (λhc=>?_))
 ·simp at hc;obtain⟨t,tl,h,i,a3,g⟩:=zN rfl d k hc;refine zk (ze (zn (ze (zi [] (zq hc g) ?_))));intros;have hl:out.length+t.length<=1048576:=by
   have:(out++t).length<=d.flatten.length:=by
    have e:d.flatten=(d.take (k+1)).flatten++(d.drop (k+1)).flatten:=by rw[<-List.flatten_append,List.take_append_drop]
    rw[e,a3];simp[ho]
   simp only[Am]at this;omega
  refine zg ?_;refine⟨by omega,?_⟩;refine zg ?_;exact zu (k+1,out++t,v1,a+1) [_] (by simp[a3,ho];omega) DT (by simp[zy k (by omega)]) rfl DQ
 ·simp at hc;have b:k=d.length:=DO
  subst b;refine zC (DY ?_);refine yh 1 rfl ?_;exact zj (zm c rfl (by simp[ho]))
open Go
def jM(x:Inst)(s:Stop):Bool:=decide (0<=s.c/\s.c<x.cust.length/\1<=s.q/\s.q<=2147483648)
def jD(x:Inst)(t:zU):Bool:=t.all (jM x) && !t.isEmpty
def yc(x:Inst)(t:zU):Int :=
 if jD x t=false then 1 else if ¬(t.map (·.c)).Nodup then 11 else if x.cap<W (ye t) then 12 else if x.len<W (yN x (t.map (·.c))) then 13 else 0
theorem ZmG{x:Inst}{t:zU}{k:Nat}{s:Stop}(h:(t.take k).all (jM x)=true)(a:t.take (k+1)=t.take k++[s])(hs:0<=s.c/\s.c<x.cust.length/\1<=s.q/\s.q<=2147483648):(t.take (k+1)).all (jM x)=true:=by
 rw[a,BD,h];simp[jM];omega
theorem ZmH{x:Inst}{t:zU}(hx:x.cust.length<=1048576)(h:t.all (jM x)=true):∀s∈t,qv s.c:=by
 intro s hs;have:=Aw.1 h s hs;simp[jM]at this;unfold qv;omega
open Go
theorem WU(l:List Int):(qe l).Pairwise (·<=·):=by
 have:=CG (le:=λx y:Int=>decide (x<=y)) (λa b c h1 h2=>by simp at *;omega) (λa b=>by simp;omega) l;simpa using this
theorem ZfX(l:List Int):(qe l).Perm l:=Cc l _
theorem Zcy(l:List Int):(qe l).Nodup<->l.Nodup:=(ZfX l).nodup_iff
theorem ZfY{z:List Int}{j:Nat}{p c:Int}(b:z.Pairwise (·<=·))(hn:(z.take (j+1)).Nodup)(h1:z.take (j+1)=z.take j++[p])(h2:z.take (j+1+1)=z.take (j+1)++[c])(a:p≠c):(z.take (j+1+1)).Nodup:=by
 rw[h2];refine ZmD _ _ hn λhc=>?_
 have hs:(z.take (j+1+1)).Pairwise (·<=·):=b.sublist (List.take_sublist _ _);rw[h2,h1,List.append_assoc,List.pairwise_append]at hs;rw[h1,AB]at hc;rcases hc with hc | hc
 ·have d:=hs.2.2 c hc p DP;have e:=(Bk.1 hs.2.1).1 c DP;omega
 ·simp at hc;exact a hc.symm
theorem ZfZ{S:Store}{id ver:Nat}(zs:List Int)(hid:S id=.cells ver 3 (zs.flatMap Enc.enc))(hn:zs.length<=1048576):
  Spec prog 151 [.sl id ver 1 0 zs.length] S (λp S'=>p=B (decide zs.Nodup)/\S'=S.set id .dead):=by
 refine yt func151 ntmps151 results151 λnx x=>?_
 have f:id<nx:=by
  rcases Bh id nx with h | h
  ·exact h
  ·rw[x id h]at hid;cases hid
 refine DY ?_;refine ze (xL [] DU DU λK Gc Gh y b g X a k=>?_);simp -implicitDefEqProofs [a,k]
 try clear a k X
 refine b _ _ _ _ _ _ _ λl=>((Zay zs (by rw[zJ f];exact hid) hn).mono ?_).v
 rintro p _ rfl;refine⟨S.set id (.cells ver 3 ((qe zs).flatMap Enc.enc)),[],qq _ f,?_⟩;clear b g;clear Gc Gh;refine wK l (D:=[]) DU λGc Gh b g X a k=>?_
 simp -implicitDefEqProofs [a,k];clear a k X;refine y _ _ _ ?_;clear y b g;clear K Gc Gh;generalize q:qe zs=z;have r:zs.length=z.length:=by rw[<-q,QO]
 have s:z.Pairwise (·<=·):=by rw[<-q];exact WU zs
 have d:∀o,S.set id .dead o=ext (S.set id (.cells ver 3 (z.flatMap Enc.enc))) nx [] o\/S.set id .dead o=.dead:=by
  intro o
  by_cases ho:o=id
  ·subst ho;exact .inr (q11 _ _ _)
  ·rw[q10 _ _ _ _ ho]
   by_cases h2:o<nx
   ·rw[zJ h2,q10 _ _ _ _ ho];exact .inl rfl
   ·exact .inr (x o DO)
 have t:(S.set id (.cells ver 3 (z.flatMap Enc.enc))) id=.cells ver 3 (z.flatMap Enc.enc):=q11 _ _ _;have m:decide zs.Nodup=decide z.Nodup:=by rw[<-q,decide_eq_decide,Zcy]
 rw[m];have a0:z.length<=1048576:=DO
 rw[r];generalize S.set id (.cells ver 3 (z.flatMap Enc.enc))=S1 at *;have u:=zJ (S:=S1) (obs:=[]) f
 repeat apply ze
 refine zg ?_;refine zn (zK (λj:Nat=>(j=0\/j+1<=z.length)/\(z.take (j+1)).Nodup) (λj=>[(0,.sl id ver 1 0 z.length),(3,I ((j+1:Nat):Int))]) (λ_=>[]) (λj=>z.length-j) 0 [] (by cases z<;>simp) DP DP ?_);rintro j ⟨hj,i⟩
 repeat apply ze
 refine zg ?_;refine zA rfl (λhc=>?_) (λhc=>?_)
 ·simp at hc;have w:j+1<z.length:=DO
  obtain⟨c,a1,b1,b2,b3,e1⟩:=zN rfl z (j+1) w;obtain⟨p,a2,d1,d2,d3,e2⟩:=zN rfl z j DO;have wj:IntKind.i64.wrap (j:Int)=j:=wr _ DO DO;have g1:(j:Int)<z.length:=DO
  have g2:(j:Int)+1<z.length:=DO
  have g3:0<=(j:Int)+1:=DO
  refine zk (ze (zn (ze (zD none (Row.pures [0,1,2,3,4,5,6,7,8,9] .done) mixed (zW u t wj e1 e2 (zF g1 g2 g3)) ?_))));refine zA rfl (λn=>?_) (λn=>?_)
  ·simp at n;refine DY ?_;exact zj ⟨_,_,rfl,⟨by simp;exact ZfU b1 (by rw[d1,n]) DO,rfl⟩,d⟩
  ·simp at n;refine zk (zg ?_);have w2:IntKind.i64.wrap ((j:Int)+1+1)=((j+1+1:Nat):Int):=by rw[wr _ DO DO];omega
   exact zu (j+1) [] ⟨by omega,ZfY s i d3 b3 (λe=>n e.symm)⟩ DO (by simp[w2]) rfl DP
 ·simp at hc;refine zC (DY ?_);rw[Af DO]at i;exact zj ⟨_,_,rfl,⟨by simp[i],rfl⟩,d⟩
open Go
abbrev WV(x:Inst)(t:zU):List PV:=[I x.days,I x.veh,I x.cap,I x.len,L x.cust,L x.dist,L t]
theorem ZmI(x:Inst)(t:zU)(l:t.length<=1048576):Pure prog 236 [.agg (WV x t)] (B (jD x t)):=by
 have bad:∀{k:Nat} {s:Stop},t[k]?=some s->¬(0<=s.c/\s.c<x.cust.length/\1<=s.q/\s.q<=2147483648)->jD x t=false:=by
  intro k s h hb;unfold jD;have:t.all (jM x)=false:=by
   rw[Bm];exact⟨s,Ab h,by simp[jM];omega⟩
  rw[this];rfl
 refine zx func236 ntmps236 results236 λS nx b=>?_
 refine DY ?_;intro v0
 repeat apply ze
 refine zg ?_;refine zn (zK (λs:Nat × Nat=>s.1<=t.length/\(t.take s.1).all (jM x)=true) (λ(k,v)=>[(1,.ptr nx v 0),(7,L t),(8,I t.length),(9,I k)]) (λ(k,v)=>[.cells v 267 (WV x t)]) (λs=>t.length-s.1) (0,v0) [] DP DP DP ?_);rintro⟨k,v0⟩ ⟨i,d⟩;simp only at i d ⊢;refine DY ?_;refine ze (zA rfl (λhc=>?_) (λhc=>?_))
 ·simp at hc;obtain⟨s,tl,e,m,a3,n,j⟩:=el 2 rfl t k hc;refine zk (ze (zn (ze (zi [] (zq hc j) ?_))));intros
  by_cases h1:s.c<0
  ·repeat apply ze
   refine zi [(3,16)] (zq h1 zB) ?_;refine zo rfl (DY ?_);exact zj (zm b rfl (by rw[bad e (by omega)];rfl))
  by_cases h2:(x.cust.length:Int)<=s.c
  ·repeat apply ze
   refine zi [(3,16)] (zF h2 h1 zB) ?_;refine zo rfl (DY ?_);exact zj (zm b rfl (by rw[bad e (by omega)];rfl))
  repeat apply ze
  refine zi [(3,16)] (zq h1 h2) ?_;refine zp rfl (zk ?_)
  by_cases h3:s.q<1
  ·refine ze (zi [(3,28)] (zq h3 zB) ?_);refine zo rfl (DY ?_);exact zj (zm b rfl (by rw[bad e (by omega)];rfl))
  by_cases g:2147483648<s.q
  ·refine ze (zi [(3,28)] (zF g h3 zB) ?_);refine zo rfl (DY ?_);exact zj (zm b rfl (by rw[bad e (by omega)];rfl))
  refine ze (zi [(3,28)] (zq h3 g) ?_);refine zp rfl (zk (zg ?_));exact zu (k+1,v0) [_] ⟨hc,ZmG d a3 DO⟩ DT (by simp[zy k (by omega)]) rfl DQ
 ·simp at hc;have f:k=t.length:=DO
  subst f;rw[Ai]at d;refine zC (DY ?_);exact zj (zm b rfl (by cases t with | nil=>rfl | cons a t=>simp[jD,d]))
theorem ZmJ(x:Inst)(t:zU)(b:t.length<=1048576):Pure prog 237 [.agg (WV x t)] (B (decide (t.map (·.c)).Nodup)):=by
 refine zx func237 ntmps237 results237 λS nx d=>?_
 refine DY ?_;intro v0;refine DY ?_;refine λa=>((WS t b _ _ xB).mono ?_).v
 rintro _ _ ⟨v1,rfl,rfl⟩;refine⟨_,_,Xz _,xl [] Nat.add_assoc a ?_⟩;rw[<-List.length_map (f:=λs:Stop=>s.c)];refine λa=>((ZfZ _ DP (by simpa using b)).mono ?_).v
 rintro _ _ ⟨rfl,rfl⟩;refine⟨_,_,yl _ DP DP,zR a ?_⟩;exact zj (zm d rfl rfl)
theorem ZmK(x:Inst)(t:zU)(a:t.length<=1048576):Pure prog 238 [.agg (WV x t)] (B (decide (W (ye t)<=x.cap))):=by
 refine zx func238 ntmps238 results238 λS nx b=>?_
 refine DY ?_;intro v0;refine ze (zD none (Row.pures [0,1,2,3,4,5,6,7] .done) mixed trivial ?_);refine zO (ZfV _ a) trivial ?_;exact zj (zm b rfl rfl)
theorem ZmL(x:Inst)(t:zU)(a:t.length<=1048576)(hs:∀s∈t,qv s.c):Pure prog 239 [.agg (WV x t)] (B (decide (W (yN x (t.map (·.c)))<=x.len))):=by
 refine zx func239 ntmps239 results239 λS nx b=>?_
 refine DY ?_;intro v0;refine ze (zD none (Row.pures [0,1,2,3,4,5,6,7,8,9] .done) mixed trivial ?_);refine zO (WT _ _ a hs) trivial ?_;exact zj (zm b rfl rfl)
abbrev Zf0:List PV:=[.fn (.func 236) [] [],I 1,.fn (.func 237) [] [],I 11,.fn (.func 238) [] [],I 12,.fn (.func 239) [] [],I 13]
theorem ZmM:Pure prog 195 [] (.lst 4 Zf0):=by
 refine zx func195 ntmps195 results195 λS nx a=>?_
 refine DY ?_;refine DY ?_;exact zj (zm a rfl rfl)
theorem WX(x:Inst)(t:zU)(hx:x.cust.length<=1048576)(b:t.length<=1048576):Pure prog 150 [.agg (zE x),.agg [L t]] (I (yc x t)):=by
 refine zx func150 ntmps150 results150 λS nx a=>?_
 refine DY ?_;intro v0 v1
 repeat apply ze
 refine zg ?_;refine zv ZmM ?_;refine zn (zK (λs:Nat × Nat × Nat=>s.1<=4/\(1<=s.1->jD x t=true)/\(2<=s.1->(t.map (·.c)).Nodup)/\(3<=s.1->W (ye t)<=x.cap)/\(4<=s.1->W (yN x (t.map (·.c)))<=x.len)) (λ(k,v,d)=>[(2,.ptr nx v 0),(3,.ptr (nx+1) d 0),(7,.lst 4 Zf0),(8,I 4),(9,I k)]) (λ(k,v,d)=>[.cells v 25 (zE x),.cells d 42 [L t]]) (λs=>4-s.1) (0,v0,v1) [] DP DP DP ?_);rintro⟨k,v0,v1⟩ ⟨f,i1,i2,i3,i4⟩;simp only at f i1 i2 i3 i4 ⊢;have e:1<=k->∀s∈t,qv s.c:=λh=>ZmH hx (by have:=i1 h;unfold jD at this;simp only[Ar]at this;exact this.1)
 match k,f with
 | 0,_ =>
  refine DY ?_;refine ze (zo rfl (zk (ze (zn (DY ?_)))));intros;refine DY ?_;refine zv (ZmI x t b) ?_;refine zA rfl (λh1=>?_) (λh1=>?_)
  ·simp at h1;refine DY ?_;exact zj (zm a rfl (by simp[yc,h1]))
  ·simp at h1;refine zk (zg ?_);exact zu (1,v0,v1) [_] (by simp[h1]) DP DQ rfl DQ
 | 1,_ =>
  refine DY ?_;refine ze (zo rfl (zk (ze (zn (DY ?_)))));intros;refine DY ?_;refine zv (ZmJ x t b) ?_;refine zA rfl (λh1=>?_) (λh1=>?_)
  ·simp at h1;refine DY ?_;exact zj (zm a rfl (by simp[yc,h1,i1 (by omega)]))
  ·simp at h1;refine zk (zg ?_);exact zu (2,v0,v1) [_] (by simp[h1,i1 (by omega)]) DP DQ rfl DQ
 | 2,_ =>
  refine DY ?_;refine ze (zo rfl (zk (ze (zn (DY ?_)))));intros;refine DY ?_;refine zv (ZmK x t b) ?_;refine zA rfl (λh1=>?_) (λh1=>?_)
  ·simp at h1;refine DY ?_;exact zj (zm a rfl (by simp[yc,h1,i1 (by omega),i2 (by omega)]))
  ·simp at h1;refine zk (zg ?_);exact zu (3,v0,v1) [_] (by simp[h1,i1 (by omega),i2 (by omega)]) DP DQ rfl DQ
 | 3,_ =>
  refine DY ?_;refine ze (zo rfl (zk (ze (zn (DY ?_)))));intros;refine DY ?_;refine zv (ZmL x t b (e DO)) ?_;have h3:=DL.2 (i3 DO);refine zA rfl (λh1=>?_) (λh1=>?_)
  ·simp at h1;refine DY ?_;exact zj (zm a rfl (by simp[yc,h1,i1 (by omega),i2 (by omega),h3]))
  ·simp at h1;refine zk (zg ?_);exact zu (4,v0,v1) [_] (by simp[h1,i1 (by omega),i2 (by omega),i3 (by omega)]) DP DQ rfl DQ
 | 4,_ =>
  refine DY ?_;refine ze (zp rfl (zC (DY ?_)));exact zj (zm a rfl (by simp[yc,i1 DO,i2 DO,DL.2 (i3 DO),DL.2 (i4 DO)]))
open Go
def yE(x:Inst)(d:zt):Int :=
 match d.find? (λt=>yc x t != 0) with
 | some t=>yc x t
 | none=>if ¬(d.flatten.map (·.c)).Nodup then 11 else if x.veh<d.length then 14 else 0
theorem Zf1{α:Type}{p:α->Bool}{l:List α}{k:Nat}{a:α}(h:(l.take k).find? p=none)(b:l.take (k+1)=l.take k++[a])(c:p a=false):(l.take (k+1)).find? p=none:=by
 rw[b,List.find?_append,h];simp[c]
theorem Zf2{α:Type}{p:α->Bool}{l:List α}{k:Nat}{a:α}(h:(l.take k).find? p=none)(b:l.drop k=a :: l.drop (k+1))(c:p a=true):l.find? p=some a:=by
 have e:l=l.take k++a :: l.drop (k+1):=by rw[<-b,List.take_append_drop]
 rw[e,List.find?_append,h];simp[c]
theorem Zcz(x:Inst)(d:zt)(hx:x.cust.length<=1048576)(hn:d.length<=1048576)(l:∀t∈d,t.length<=1048576)(hf:d.flatten.length<=1048576):Pure prog 111 [.agg (zE x),.agg [L d]] (I (yE x d)):=by
 refine zx func111 ntmps111 results111 λS nx g=>?_
 refine DY ?_;intro v0 v1
 repeat apply ze
 refine zg ?_;refine zn (zK (λs:Nat × Nat × Nat=>s.1<=d.length/\(d.take s.1).find? (λt=>yc x t != 0)=none) (λ(k,v,h)=>[(2,.ptr nx v 0),(3,.ptr (nx+1) h 0),(9,L d),(10,I d.length),(11,I k)]) (λ(k,v,h)=>[.cells v 25 (zE x),.cells h 39 [L d]]) (λs=>d.length-s.1) (0,v0,v1) [] DP DP DP ?_);rintro⟨k,v0,v1⟩ ⟨m,e⟩;simp only at m e ⊢;refine DY ?_;refine ze (zA rfl (λhc=>?_) (λhc=>?_))
 ·simp at hc;obtain⟨t,tl,n,o,a3,p⟩:=zN rfl d k hc;refine zk (ze (zn (ze (zi [] (zq hc p) ?_))));intros;refine DY ?_;refine zv (WX x t hx (l t (Ab n))) ?_;refine DY ?_;refine zA rfl (λh1=>?_) (λh1=>?_)
  ·simp at h1;refine DY ?_;exact zj (zm g rfl (by simp only[yE,Zf2 e o (by simpa using h1)];simp))
  ·simp at h1;refine zk (zg ?_);exact zu (k+1,v0,v1) [_] ⟨hc,Zf1 e a3 (by simpa using h1)⟩ DT (by simp[zy k (by omega)]) rfl DQ
 ·simp at hc;have i:k=d.length:=DO
  subst i;rw[Ai]at e;have j:=ZfW d hn hf;have a:yE x d=if ¬(d.flatten.map (·.c)).Nodup then 11 else if x.veh<d.length then 14 else 0:=by unfold yE;rw[e]
  generalize d.flatten=fl at *;refine zC ?_
  repeat apply ze
  refine zg ?_;refine zv j ?_;refine λb=>((WS fl hf _ _ xB).mono ?_).v
  rintro _ _ ⟨q,rfl,rfl⟩;refine⟨_,_,Xz _,xl [] Nat.add_assoc b ?_⟩;rw[<-List.length_map (f:=λs:Stop=>s.c)];refine λb=>((ZfZ _ DP (by simpa using hf)).mono ?_).v
  rintro _ _ ⟨rfl,rfl⟩;refine⟨_,_,yl _ DP DP,zR b ?_⟩;refine zA rfl (λh2=>?_) (λh2=>?_)
  ·simp at h2;refine DY ?_;exact zj (zm g rfl (by simp[a,h2]))
  ·simp at h2;refine zk ?_
   repeat apply ze
   refine zg ?_;refine zA rfl (λh3=>?_) (λh3=>?_)
   ·simp at h3;refine DY ?_;exact zj (zm g rfl (by simp[a,h2,h3]))
   ·simp at h3;refine zk (DY ?_);exact zj (zm g rfl (by simp[a,h2,DL.2 h3]))
def jk(l:List Stop):zt:=l.map λs=>[s]
theorem ZmN(l:List Stop)(hl:l.length<=1048576):Pure prog 314 [L l] (.agg [L (jk l)]):=by
 refine zx func314 ntmps314 results314 λS nx d=>?_
 refine DY ?_;intro v0;refine DY ?_;intro v1;refine ze (jd 1 0 42 1 rfl rfl λa=>?_);refine DY ?_;refine zn (zK (λs:Nat × zt × Nat × Nat × Nat=>s.1<=l.length/\s.2.1=jk (l.take s.1)) (λ(k,out,v,b,a)=>[(2,.ptr nx v 0),(3,.ptr (nx+1) b 0),(6,L l),(7,I l.length),(8,I k)]) (λ(k,out,v,b,a)=>[.cells v 39 [.sc (.slice none 0 0)],.cells b 39 [.sl (nx+2) a 1 0 out.length],.cells a 42 (out.flatMap Enc.enc)]) (λs=>l.length-s.1) (0,[],v0,v1,a) [] (by simp[jk]) DP DP ?_);rintro⟨k,out,v0,v1,a⟩ ⟨e,ho⟩;simp only at e ho ⊢;refine DY ?_;refine ze (zA rfl (λhc=>?_) (λhc=>?_))
 ·simp at hc;obtain⟨s,tl,h,i,a3,j,f⟩:=el 2 rfl l k hc;refine zk (ze (zn (ze (zi [] (zq hc f) ?_))));intros;have g:out.length=k:=by rw[ho];simp[jk];omega
  refine zg ?_;refine⟨by omega,?_⟩;refine zg ?_;exact zu (k+1,out++[[s]],v0,v1,a+1) [_] (by simp[a3,ho,jk];omega) DT (by simp[zy k (by omega)]) rfl DQ
 ·simp at hc;have c:k=l.length:=DO
  subst c;refine zC (DY ?_);refine yh 2 rfl ?_;exact zj (zm d DQ (by simp[ho]))
open Go
theorem ZcA(s:Stop):Pure prog 309 [.agg [I s.c,I s.q]] (.agg [L [s]]):=by
 refine zx func309 ntmps309 results309 λS nx a=>?_
 refine DY ?_;intro v0 v1;refine DY ?_;exact DZ a
theorem Zf3(l:List Int)(hl:l.length<=1048576)(hs:l.Pairwise (·<=·)):Pure prog 310 [L l] (B (decide (¬l.Nodup))):=by
 refine zx func310 ntmps310 results310 λS nx f=>?_
 refine DY ?_
 repeat apply ze
 refine zg ?_;refine zn (zK (λj:Nat=>(j=0\/j+1<=l.length)/\(l.take (j+1)).Nodup) (λj=>[(0,L l),(3,I ((j+1:Nat):Int))]) (λ_=>[]) (λj=>l.length-j) 0 [] (by cases l<;>simp) DP DP ?_);rintro j ⟨q,a⟩
 repeat apply ze
 refine zg ?_;refine zA rfl (λhc=>?_) (λhc=>?_)
 ·simp at hc;have d:j+1<l.length:=DO
  obtain⟨c,g,b1,b2,b3,h⟩:=zN rfl l (j+1) d;obtain⟨p,i,k,r,m,e2⟩:=zN rfl l j DO;have n:IntKind.i64.wrap (j:Int)=j:=wr _ DO DO;have g1:(j:Int)<l.length:=DO
  have o:(j:Int)+1<l.length:=DO
  have g3:0<=(j:Int)+1:=DO
  refine zk (ze (zn (ze (zD none (Row.pures [0,1,2,3,4,5,6,7,8,9] .done) mixed (zW n h e2 g1 o g3) ?_))));refine zA rfl (λb=>?_) (λb=>?_)
  ·simp at b;refine DY ?_;exact zj (zm f rfl (by simp;exact ZfU b1 (by rw[k,b]) (by omega)))
  ·simp at b;refine zk (zg ?_);have w2:IntKind.i64.wrap ((j:Int)+1+1)=((j+1+1:Nat):Int):=by rw[wr _ DO DO];omega
   exact zu (j+1) [] ⟨by omega,ZfY hs a m b3 (λe=>b e.symm)⟩ DO (by simp[w2]) rfl DP
 ·simp at hc;refine zC (DY ?_);rw[Af DO]at a;exact zj (zm f rfl (by simp[a]))
theorem Zf4(ss:List Stop)(e:ss.length<=1048576):Pure prog 311 [L ss] (L (qe (ss.map (·.c)))):=by
 have a:=λS nx f=>WS ss e S nx f
 obtain⟨zs,d⟩:∃zs,zs=ss.map (·.c):=⟨_,rfl⟩;have g:ss.length=zs.length:=by rw[d];simp
 rw[<-d,g]at a;rw[<-d];have h:=QO zs;refine zx func311 ntmps311 results311 λS nx f=>?_
 refine DY ?_;refine DY ?_;refine λb=>((a _ _ xB).mono ?_).v
 rintro _ _ ⟨v1,rfl,rfl⟩;refine⟨_,_,Xz _,xl [] Nat.add_assoc b ?_⟩;refine DY ?_;refine λb=>((Zay zs DP DO).mono ?_).v
 rintro _ _ rfl;refine⟨_,_,yl _ DP DP,zR b ?_⟩;generalize qe zs=c at *;rw[<-h];refine yh 1 rfl ?_;refine DY ?_;exact DZ f
def wW(x:Inst)(l:List Stop):Int :=
 match l.find? (λs=>yc x [s] != 0) with
 | some s=>yc x [s]
 | none=>if ¬(l.map (·.c)).Nodup then 11 else 0
theorem ZmO(x:Inst)(l:List Stop)(hx:x.cust.length<=1048576)(hl:l.length<=1048576):Pure prog 284 [.agg (zE x),L l] (I (wW x l)):=by
 have e:=Zf4 l hl;have b:=Zf3 (qe (l.map (·.c))) (by rw[QO];simpa using hl) (WU _);have f:decide (¬(qe (l.map (·.c))).Nodup)=decide (¬(l.map (·.c)).Nodup):=by rw[decide_eq_decide,Zcy]
 rw[f]at b;refine zx func284 ntmps284 results284 λS nx g=>?_
 refine DY ?_;intro v0
 repeat apply ze
 refine zg ?_;refine zn (zK (λk:Nat=>k<=l.length/\(l.take k).find? (λs=>yc x [s] != 0)=none) (λk=>[(1,L l),(2,.ptr nx v0 0),(8,L l),(9,I l.length),(10,I k)]) (λ_=>[.cells v0 25 (zE x)]) (λk=>l.length-k) 0 [] DP DP DP ?_);rintro k ⟨m,d⟩;refine DY ?_;refine ze (zA rfl (λhc=>?_) (λhc=>?_))
 ·simp at hc;obtain⟨s,tl,n,h,a3,i,j⟩:=el 2 rfl l k hc;refine zk (ze (zn (ze (zi [] (zF hc i j) ?_))));intro v1;refine ze (zD none (Row.pures [0,1,2,3,4] .done) mixed trivial ?_);refine zO (ZcA s) trivial ?_;refine zO (WX x [s] hx DP) trivial ?_;refine DY ?_;refine zA rfl (λh1=>?_) (λh1=>?_)
  ·simp at h1;refine DY ?_;exact zj (zm g rfl (by simp only[wW,Zf2 d h (by simpa using h1)];simp))
  ·simp at h1;refine zk (zg ?_);exact zu (k+1) [_] ⟨hc,Zf1 d a3 (by simpa using h1)⟩ DO (by simp[zy k (by omega)]) rfl DQ
 ·simp at hc;obtain rfl:k=l.length:=DO
  rw[Ai]at d;have a:wW x l=if ¬(l.map (·.c)).Nodup then 11 else 0:=by unfold wW;rw[d]
  refine zC ?_
  repeat apply ze
  refine zg ?_;refine zv e ?_;refine zv b ?_
  by_cases h2:(l.map (·.c)).Nodup
  ·repeat apply ze
   refine zp (by simp[h2]) ?_;refine zk (DY ?_);exact zj (zm g DQ (by simp[a,h2,zr]))
  ·repeat apply ze
   refine zo (by simp[h2]) ?_;refine DY ?_;exact zj (zm g DQ (by simp[a,h2,zr]))
open Go
structure KeyOk {α:Type} [DecidableEq α] (d:TypeDesc) (key:α->Value):Prop where
 same:∀a b,Instr.sameNow d (key a) (key b)=some (decide (a=b))
theorem JK(k:IntKind):KeyOk (.int k) (λi:Int=>Value.int k i):=⟨λa b=>by simp[Instr.sameNow]⟩
def MapIs{α β:Type}(key:α->Value)(enc:β->PV)(es:List (Value × PV))(g:α->Option β):Prop :=
 ∃l:List (α × β),es=l.map (λx=>(key x.1,enc x.2))/\(l.map (·.1)).Nodup/\(∀a b,(a,b)∈l<->g a=some b)
def jt{α β:Type}[DecidableEq α](g:α->Option β)(a:α)(v:Option β):α->Option β:=λx=>if x=a then v else g x
theorem Zf5{α β:Type}(key:α->Value)(enc:β->PV):MapIs key enc [] (λ_=>none):=⟨[],rfl,by simp,by simp⟩
theorem Zf6{α β:Type}[DecidableEq α]{d:TypeDesc}{key:α->Value}{enc:β->PV}(b:KeyOk d key)(a:α):∀(l:List (α × β)) (i:Nat),a ∉ l.map (·.1)->jC d (key a) (l.map λx=>(key x.1,enc x.2)) i=some none
 | [],_,_=>rfl
 | x :: l,i,h=>by
  simp only[AD,Au,not_or]at h;simp only[AD,jC,b.same,decide_eq_false h.1];exact Zf6 b a l (i+1) h.2
theorem Zf7{α β:Type}[DecidableEq α]{d:TypeDesc}{key:α->Value}{enc:β->PV}(c:KeyOk d key)(a:α)(b:β):∀(l:List (α × β)) (i:Nat),(l.map (·.1)).Nodup->(a,b)∈l ->
  ∃j,l[j]?=some (a,b)/\jC d (key a) (l.map λx=>(key x.1,enc x.2)) i=some (some (i+j,enc b))
 | [],_,_,h=>by cases h
 | x :: l,i,hn,h=>by
  simp only[AD,CH]at hn
  by_cases e:a=x.1
  ·have hx:x=(a,b):=by
    rcases Au.1 h with h | h
    ·exact h.symm
    ·simp_all
   subst hx;exact⟨0,rfl,by simp[jC,c.same]⟩
  ·have hm:(a,b)∈l:=by
    rcases Au.1 h with h | h
    ·grind
    ·exact h
   obtain⟨j,h1,h2⟩:=Zf7 c a b l (i+1) hn.2 hm;refine⟨j+1,by simpa using h1,?_⟩;simp only[AD,jC,c.same,decide_eq_false e];rw[h2,show i+1+j=i+(j+1) by omega]
theorem MapIs.find{α β:Type}[DecidableEq α]{d:TypeDesc}{key:α->Value}{enc:β->PV}{es:List (Value × PV)}{g:α->Option β}(p:KeyOk d key)(h:MapIs key enc es g)(a:α):
  ∃c,jC d (key a) es 0=some c/\(g a=none->c=none)/\(∀b,g a=some b->∃j,c=some (j,enc b))/\(∀b,MapIs key enc (jq (key a) (enc b) es c) (jt g a (some b)))/\MapIs key enc (WK es c) (jt g a none):=by
 obtain⟨l,rfl,hn,m⟩:=h;cases f:g a with
 | none =>
  have n:a ∉ l.map (·.1):=by
   intro hm;obtain⟨x,hx,rfl⟩:=Al.1 hm;have:=(m x.1 x.2).1 hx;rw[f]at this;cases this
  have s:∀b,MapIs key enc (jq (key a) (enc b) (l.map λx=>(key x.1,enc x.2)) none) (jt g a (some b)):=λb=>by
   refine⟨l++[(a,b)],by simp[jq],?_,λk b'=>?_⟩
   rotate_left
   focus
    unfold jt
    by_cases e:k=a
    ·subst e;simp only[if_pos,AB,AU,m,f];simp[eq_comm]
    ·simp[AB,m,e]
   rw[List.map_append,Dq];refine⟨hn,by simp,λx hx y q=>?_⟩;simp at q;subst q;exact λe=>n (e ▸ hx)
  refine⟨none,Zf6 p a l 0 n,(by intro _;rfl),(by intro b hb;cases hb),s,l,by simp[WK],hn,λk b'=>?_⟩
  grind[jt]
 | some b0 =>
  obtain⟨j,h1,h2⟩:=Zf7 (enc:=enc) p a b0 l 0 hn ((m a b0).2 f);have w:j<l.length:=(Ad.1 h1).1;have t:l[j]=(a,b0):=(Ad.1 h1).2;have o:∀(i:Nat) (hi:i<l.length),l[i].1=a->i=j:=by
   intro i hi z;have hp:=Bw.1 hn;rcases Nat.lt_trichotomy i j with h | h | h
   ·grind
   ·exact h
   ·grind
  suffices r:(∀b,MapIs key enc (jq (key a) (enc b) (l.map λx=>(key x.1,enc x.2)) (some (0+j,enc b0))) (jt g a (some b)))/\MapIs key enc (WK (l.map λx=>(key x.1,enc x.2)) (some (0+j,enc b0))) (jt g a none) from
   ⟨some (0+j,enc b0),h2,DP,DP,r.1,r.2⟩
  refine⟨λb=>⟨l.set j (a,b),?_,?_,λk b'=>?_⟩,l.eraseIdx j,?_,?_,λk b'=>?_⟩
  ·simp[jq]
  ·grind[List.map_set]
  ·unfold jt;rw[Bi];constructor
   ·grind
   ·intro h
    by_cases e:k=a
    ·rw[if_pos e]at h;cases h;exact⟨j,by simp_all⟩
    ·rw[if_neg e]at h;obtain⟨i,hi⟩:=Bi.1 ((m k b').2 h);refine⟨i,?_⟩
     grind
  ·simp only[WK,AS];apply A8
   grind
  ·grind
  ·unfold jt
   by_cases e:k=a
   ·rw[if_pos e];refine⟨λh=>?_,λh=>by cases h⟩;obtain⟨i,hi⟩:=Bi.1 h
    grind
   ·rw[if_neg e,<-m];refine⟨λh=>(List.eraseIdx_sublist l j).subset h,λh=>?_⟩;obtain⟨i,hi⟩:=Bi.1 h;have u:i≠j:=by rintro rfl;rw[h1]at hi;cases hi;exact e rfl
    rw[Bi]
    by_cases v:i<j
    ·exact⟨i,by grind⟩
    ·refine⟨i-1,?_⟩
     grind
open Go Hp
abbrev qw:Int->Int->Bool:=λa b=>decide (a<b)
theorem ZT:Str qw:=⟨λa=>by simp,λa b c h1 h2=>by simp at *;omega,λa b h1 h2=>by simp at *;omega⟩
def yu(x:Int × Int):List PV:=[.sc (.int .i64 x.1),.sc (.int .i64 x.2)]
theorem QP(x:Int × Int):(yu x).length=2:=rfl
abbrev jl(x:Int):Value:=.int .i64 x
structure PosOk (g:Int->Option Nat) (l:zV Int):Prop where
 here:∀i,i<l.length->g (zL l i).1=some i
 gone:∀id,(∀i,i<l.length->(zL l i).1≠id)->g id=none
abbrev ZcB(i:Nat):PV:=.sc (.int .i64 (i:Int))
def RowIs(cs:List PV)(l:zV Int):Prop:=∃rest,cs=l.flatMap yu++rest
theorem RowIs.at{cs:List PV}{l:zV Int}(h:RowIs cs l)(i:Nat)(hi:i<l.length):∃tl,cs.drop (i*2)=.sc (.int .i64 (zL l i).1) :: .sc (.int .i64 (zL l i).2) :: tl:=by
 obtain⟨rest,rfl⟩:=h;refine⟨(l.drop (i+1)).flatMap yu++rest,?_⟩;rw[B7 (by rw[Xr yu 2 QP];omega),Zfd yu 2 QP l i hi];have:zL l i=l[i]:=by unfold zL;simp[hi]
 rw[this];rfl
theorem RowIs.big{cs:List PV}{l:zV Int}(h:RowIs cs l):l.length*2<=cs.length:=by
 obtain⟨rest,rfl⟩:=h;rw[Am,Xr yu 2 QP];omega
theorem RowIs.put{cs:List PV}{l:zV Int}(h:RowIs cs l)(i:Nat)(hi:i<l.length)(x:Int × Int):RowIs (yk cs (i*2) [.sc (.int .i64 x.1),.sc (.int .i64 x.2)]) (l.set i x):=by
 obtain⟨rest,rfl⟩:=h;refine⟨rest,?_⟩;have hl:(l.flatMap yu).length=l.length*2:=Xr yu 2 QP l
 show List.take (i*2) (l.flatMap yu++rest)++yu x++List.drop (i*2+2) (l.flatMap yu++rest)=_
 rw[BM DO,JC yu 2 QP,show i*2+2=(i+1)*2 by omega,B7 DO,Xq yu 2 QP]
 simp_all[AE]
theorem RowIs.take{cs:List PV}{l:zV Int}(h:RowIs cs l):cs.take (l.length*2)=l.flatMap yu:=by
 obtain⟨rest,rfl⟩:=h;rw[BM (by rw[Xr yu 2 QP];omega),JC yu 2 QP,Ai]
structure HS (S:Store) (hid hv rid mid mv:Nat) (l:zV Int) (g:Int->Option Nat):Prop where
 h:∃ver,S hid=.cells hv 445 [.sl rid ver 2 0 l.length,.mp mid mv]/\∃cs,S rid=.cells ver 449 cs/\RowIs cs l
 m:∃es,S mid=.map mv es/\MapIs jl ZcB es g
 ne:hid≠rid/\hid≠mid/\rid≠mid
 len:l.length<=2147483648
def Offd(S:Store)(ids:List Nat)(S':Store):Prop:=∀o,o ∉ ids->S' o=S o\/S o=.dead
def Off(S:Store)(ids:List Nat)(S':Store):Prop:=∀o,o ∉ ids->S' o=S o
theorem Offd.refl(S:Store)(ids:List Nat):Offd S ids S:=λ_ _=>.inl rfl
theorem Offd.set{S T:Store}{ids:List Nat}(h:Offd S ids T){o:Nat}(ho:o∈ids\/S o=.dead)(x:Ob):Offd S ids (T.set o x):=by
 intro i hi
 by_cases e:i=o
 ·simp_all
 ·rw[jK _ _ _ _ e];exact h i hi
theorem Off.offd{S T:Store}{ids:List Nat}(h:Off S ids T):Offd S ids T:=λo ho=>.inl (h o ho)
theorem Off.trans{S T U:Store}{ids:List Nat}(h:Off S ids T)(k:Off T ids U):Off S ids U:=λo ho=>(k o ho).trans (h o ho)
def cut(S:Store)(ids:List Nat)(S':Store):Store:=λo=>if o∈ids then S' o else S o
theorem Ys(S:Store)(ids:List Nat)(S':Store):Off S ids (cut S ids S'):=λo ho=>by simp[cut,ho]
theorem ZmP(S:Store)(ids:List Nat)(S':Store){o:Nat}(h:o∈ids):cut S ids S' o=S' o:=by simp[cut,h]
theorem Yt{S S':Store}{ids:List Nat}(h:Offd S ids S'):∀o,cut S ids S' o=S' o\/cut S ids S' o=.dead:=by
 intro o;unfold cut;split
 ·simp
 ·rename_i ho;rcases h o ho with h | h<;>simp_all
theorem HS.congr{S T:Store}{hid hv rid mid mv:Nat}{l:zV Int}{g:Int->Option Nat}(h:HS S hid hv rid mid mv l g)(e:∀o∈[hid,rid,mid],T o=S o):HS T hid hv rid mid mv l g:=by
 obtain⟨ver,h1,cs,h2,a⟩:=h.h;obtain⟨es,h3⟩:=h.m;exact⟨⟨ver,by simp_all,cs,by simp_all,a⟩,⟨es,by simp_all⟩,h.ne,h.len⟩
theorem HS.cut{S T:Store}{hid hv rid mid mv:Nat}{l:zV Int}{g:Int->Option Nat}(h:HS T hid hv rid mid mv l g):HS (cut S [hid,rid,mid] T) hid hv rid mid mv l g:=h.congr λ_ ho=>ZmP _ _ _ ho
theorem vz(S:Store)(o:Nat)(x:Ob)(i:Nat):S.set o x i=if i=o then x else S i:=by grind[q11,jK]
theorem Zf8{S:Store}{o i:Nat}{x:Ob}(h:S.set o x i=.dead)(hx:x≠.dead):i≠o/\S i=.dead:=by grind[vz]
theorem uA{S:Store}{o i:Nat}{x:Ob}(h:S o=x)(hx:x≠.dead)(d:S i=.dead):o≠i:=DW
theorem ZmQ{S:Store}{hid hv rid mid mv:Nat}{l:zV Int}{g:Int->Option Nat}(hs:HS S hid hv rid mid mv l g):
  PCalls prog 413 [.ptr hid hv 0] S (λp S'=>p=yf l.length/\S'=S):=by
 obtain⟨ver,h1,cs,h2,b⟩:=hs.h;refine vU func413 rfl ntmps413 (congrArg Array.toList results413) DP ?_;refine ze (qY DU DQ (ze (qb [] DU λK a=>?_)));simp[h1];refine a _ _ (zj ?_);simp[ZO,yf]
theorem ZmR{S:Store}{hid hv rid mid mv:Nat}{l:zV Int}{g:Int->Option Nat}(hs:HS S hid hv rid mid mv l g)(i j:Nat)(hi:i<l.length)(v:j<l.length):
  PCalls prog 414 [.ptr hid hv 0,yf i,yf j] S (λp S'=>p=vx (il qw (zL l i) (zL l j))/\S'=S):=by
 obtain⟨ver,h1,cs,h2,w⟩:=hs.h;obtain⟨x,y⟩:=w.at i hi;obtain⟨z,e2⟩:=w.at j v;refine vU func414 rfl ntmps414 (congrArg Array.toList results414) DP ?_;refine ze (qY DU DQ (ze ?_));refine JA (some [hid,rid]) (Row.pures [0,1,2,3,4,5,6,7,8,9,10,11,12,13] (.alt 14 (.alt 15 (.alt 16 (.alt 17 (.done) .stop) .stop) .stop) (.alt 15 (.alt 14 (.alt 16 (.alt 17 (.done) .stop) .stop) .stop) .stop))) mixed DU DU DU λK hK=>?_
 have z1:hid≠rid:=hs.ne.1;have tail:∀(F:Nat->PV) (T:Store) (a b:Nat),F 7=.ptr a 0 0->F 8=.ptr b 0 0->T a=.cells 0 449 (yu (zL l i))->T b=.cells 0 449 (yu (zL l j))->Offd S [] T->K F T:=by
  intro F T a b n q ta r f;have k:∀o,S o=T o\/S o=.dead:=λo=>(f o DP).imp Eq.symm id
  refine hK _ _ ?_;refine ze (ze (qb [] DU λK' s=>?_));simp[n,q,ta,r,yu];refine s _ _ (zA rfl (λhc=>?_) (λhc=>?_))
  ·refine ze (qb [] DU λK2 d=>?_);simp[n,q,ta,r,yu];refine d _ _ (zj ⟨_,S,rfl,⟨?_,rfl⟩,k⟩);simp at hc;simp[il,hc,vx]
  ·refine zk (ze (qb [] DU λK2 d=>?_));simp[n,q,ta,r,yu];refine d _ _ (zj ⟨_,S,rfl,⟨?_,rfl⟩,k⟩);simp at hc;simp[il,hc,vx]
 simp[h1,h2,hi,v,y,e2,yf];constructor
 ·refine JB rfl DQ DP λa e=>?_
  have n1:=uA h1 DP e;have m:=uA h2 DP e;simp[h1,h2,vz,n1,m];refine JB rfl DQ DP λb hb=>?_
  have c:=Zf8 hb DP;have t:=uA h1 DP c.2;have u:=uA h2 DP c.2;simp[h1,h2,vz,n1,m,c,t,u,c.1.symm];exact tail _ _ a b rfl rfl (by simp[vz,c.1,c.1.symm,yu]) (by simp[vz,c.1,c.1.symm,yu]) (by repeat (first | exact Offd.refl _ _ | refine Offd.set ?_ (by first | exact .inr e | exact .inr c.2) _))
 ·refine JB rfl DQ DP λa e=>?_
  have n1:=uA h1 DP e;have m:=uA h2 DP e;simp[h1,h2,vz,n1,m];refine JB rfl DQ DP λb hb=>?_
  have c:=Zf8 hb DP;have t:=uA h1 DP c.2;have u:=uA h2 DP c.2;simp[h1,h2,vz,n1,m,c,t,u,c.1.symm];exact tail _ _ b a rfl rfl (by simp[vz,c.1,c.1.symm,yu]) (by simp[vz,c.1,c.1.symm,yu]) (by repeat (first | exact Offd.refl _ _ | refine Offd.set ?_ (by first | exact .inr e | exact .inr c.2) _))
theorem ZmS{S:Store}{hid hv rid mid mv:Nat}{l:zV Int}{g:Int->Option Nat}(hs:HS S hid hv rid mid mv l g)(i j:Nat)(hi:i<l.length)(c:j<l.length):
  PCalls prog 417 [.ptr hid hv 0,yf i,yf j] S (λ_ S'=>Off S [hid,rid,mid] S'/\HS S' hid hv rid mid mv (swp l i j) (jt (jt g (zL (swp l i j) i).1 (some i)) (zL (swp l i j) j).1 (some j))):=by
 obtain⟨ver,h1,cs,h2,e⟩:=hs.h;obtain⟨es,h3,h4⟩:=hs.m;obtain⟨z1,z2,z3⟩:=hs.ne;obtain⟨q,f⟩:=e.at i hi;obtain⟨r,e2⟩:=e.at j c;have b0:=e.big;have b1:i*2+2<=cs.length:=DO
 have b2:j*2+2<=cs.length:=DO
 refine vU func417 rfl ntmps417 (congrArg Array.toList results417) DP ?_;refine ze (JA (some [hid]) (Row.pures [0,1,2,3,4,5,6,7,8,9,10,11,12,13,14,15,17,18,19,20,21,22] (.alt 16 (.alt 23 (Row.pures [24] (.alt 25 (Row.pures [26] (.alt 27 (.done) .stop)) .stop)) .stop) (.alt 23 (.alt 16 (Row.pures [24] (.alt 25 (Row.pures [26] (.alt 27 (.done) .stop)) .stop)) .stop) .stop))) mixed DU DU DU λK b=>?_);have r1:=(e.put i hi (zL l j)).put j (by simpa using c) (zL l i);have s:(l.set i (zL l j)).set j (zL l i)=swp l i j:=rfl;rw[s]at r1;have d:(swp l i j).length=l.length:=Zq l i j;have tail:∀(F:Nat->PV),F 0=.ptr hid hv 0->F 1=yf i->F 2=yf j->K F (S.set rid (.cells ver 449 (yk (yk cs (i*2) [.sc (.int .i64 (zL l j).1),.sc (.int .i64 (zL l j).2)]) (j*2) [.sc (.int .i64 (zL l i).1),.sc (.int .i64 (zL l i).2)]))):=by
  intro F t u v;refine b _ _ ?_;generalize w:yk (yk cs (i*2) [.sc (.int .i64 (zL l j).1),.sc (.int .i64 (zL l j).2)]) (j*2) [.sc (.int .i64 (zL l i).1),.sc (.int .i64 (zL l i).2)]=cs' at r1;obtain⟨q,f⟩:=r1.at i DO;obtain⟨r,e2⟩:=r1.at j DO;have b0:=r1.big;have b1:i*2+2<=cs'.length:=DO
  have b2:j*2+2<=cs'.length:=DO
  have x:Offd S [hid,rid,mid] (S.set rid (.cells ver 449 cs')):=(Offd.refl _ _).set (.inl DP) _;have k:S.set rid (.cells ver 449 cs') hid=_:=(jK _ _ _ _ z1).trans h1;have n:S.set rid (.cells ver 449 cs') rid=_:=q11 _ _ _;have t3:S.set rid (.cells ver 449 cs') mid=_:=(jK _ _ _ _ (Ne.symm z3)).trans h3;generalize S.set rid (.cells ver 449 cs')=T at x k n t3;obtain⟨a,m1,_,_,m2,_⟩:=h4.find (JK .i64) (zL (swp l i j) i).1;refine ze (JA (some [hid,rid]) (Row.pures [0,1,2,3,4,5,6,7,8,9,10,11,12] (.alt 13 (.done) .stop)) mixed DU DU DU λK b=>?_);simp -implicitDefEqProofs [t,u,v,k,n,hi,c,f,e2,yf,b1,b2];refine Y3 (.inl rfl) underlying384 underlying3 rfl rfl rfl t3 m1 ?_;simp -implicitDefEqProofs [jK,z2,z3,k,n];refine b _ _ ?_;clear b;have o:T.set mid (.map mv (jq (jl (zL (swp l i j) i).1) (yf i) es a)) hid=_:=(jK _ _ _ _ z2).trans k;have p:T.set mid (.map mv (jq (jl (zL (swp l i j) i).1) (yf i) es a)) rid=_:=(jK _ _ _ _ z3).trans n;have y:T.set mid (.map mv (jq (jl (zL (swp l i j) i).1) (yf i) es a)) mid=_:=q11 _ _ _;have z:Offd S [hid,rid,mid] (T.set mid (.map mv (jq (jl (zL (swp l i j) i).1) (yf i) es a))):=x.set (.inl DP) _;have m3:=m2 i;obtain⟨a0,m4,_,_,m5,_⟩:=m3.find (JK .i64) (zL (swp l i j) j).1
  show PW _ _ _ _ _ _ _ (T.set mid (.map mv (jq (jl (zL (swp l i j) i).1) (yf i) es a)))
  change MapIs jl ZcB (jq (jl (zL (swp l i j) i).1) (yf i) es a) _ at m3;generalize T.set mid (.map mv (jq (jl (zL (swp l i j) i).1) (yf i) es a))=U at o p y z;refine JA (some [hid,rid]) (Row.pures [0,1,2,3,4,5,6,7,8,9,10,11,12] (.alt 13 (.done) .stop)) mixed DU DU DU λK b=>?_
  simp -implicitDefEqProofs [t,u,v,o,p,hi,c,f,e2,yf,b1,b2];refine Y3 (.inl rfl) underlying384 underlying3 rfl rfl rfl y m4 ?_;simp -implicitDefEqProofs [jK,z2,z3,o,p];refine b _ _ ⟨_,_,rfl,⟨Ys _ _ _,HS.cut ⟨⟨ver,?_,cs',?_,r1⟩,⟨_,?_,m5 j⟩,⟨z1,z2,z3⟩,?_⟩⟩,Yt (z.set (.inl DP) _)⟩
  ·rw[jK _ _ _ _ z2,o,d]
  ·rw[jK _ _ _ _ z3,p]
  ·exact q11 _ _ _
  ·rw[d];exact hs.len
 simp -implicitDefEqProofs [h1,h2,hi,c,f,e2,yf,b1,b2,vz,z1];exact⟨tail _ rfl rfl rfl,tail _ rfl rfl rfl⟩
theorem ZmT:ElemOk prog 441 449 (.agg #[.int .i64 0,.int .i64 0]) 16 :=
 ⟨underlying441,by simp,by simp,by simp,by simp,by omega⟩
theorem ZmU{S:Store}{hid hv rid mid mv:Nat}{l:zV Int}{g:Int->Option Nat}(hs:HS S hid hv rid mid mv l g)(x:Int × Int)(hn:l.length+1<=2147483648):
  PCalls prog 416 [.ptr hid hv 0,.ifc 449 (.agg (yu x))] S (λ_ S'=>Off S [hid,rid,mid] S'/\HS S' hid hv rid mid mv (l++[x]) (jt g x.1 (some l.length))):=by
 obtain⟨ver,h1,cs,h2,k⟩:=hs.h;obtain⟨es,h3,v⟩:=hs.m;obtain⟨z1,z2,z3⟩:=hs.ne;have b0:=k.big;refine vU func416 rfl ntmps416 (congrArg Array.toList results416) DP ?_;refine ze (qb [] DU λK c=>?_);simp -implicitDefEqProofs [yu];refine Zlr rfl underlying449 (by intro ms;simp) DQ (p:=.tup [.agg (yu x),.sc (.bool true)]) (by simp[Zb9,yu]) ?_;simp -implicitDefEqProofs [yu];refine JB rfl DQ DP λa d=>?_
 simp -implicitDefEqProofs [yu];have n1:=uA h1 DP d;have n:=uA h2 DP d;have f:=uA h3 DP d;refine c _ _ ?_;clear c;have o:Offd S [hid,rid,mid] (S.set a (.cells 0 449 (yu x))):=(Offd.refl _ _).set (.inr d) _;have e:S.set a (.cells 0 449 (yu x)) hid=_:=(jK _ _ _ _ n1).trans h1;have q:S.set a (.cells 0 449 (yu x)) rid=_:=(jK _ _ _ _ n).trans h2;have t3:S.set a (.cells 0 449 (yu x)) mid=_:=(jK _ _ _ _ f).trans h3;have t4:S.set a (.cells 0 449 (yu x)) a=_:=q11 _ _ _
 show PW _ _ _ _ _ _ _ (S.set a (.cells 0 449 (yu x)))
 generalize S.set a (.cells 0 449 (yu x))=T at o e q t3 t4;refine ze (qY DU DQ (zA rfl (λ_=>?_) (λh=>by simp at h)));obtain⟨b,w,_,_,y,_⟩:=v.find (JK .i64) x.1;refine ze (JA (some [hid,a]) (Row.pures [0,1,2,3,4,5,6,7,8,9,10] (.alt 11 (.done) .stop)) mixed DU DU DU λK c=>?_);simp -implicitDefEqProofs [e,t4,yu];refine Y3 (.inl rfl) underlying384 underlying3 rfl rfl rfl t3 w ?_;simp -implicitDefEqProofs [jK,z2,f.symm,e,t4,yu];refine c _ _ ?_;clear c;have r:=y l.length;have i:T.set mid (.map mv (jq (jl x.1) (yf l.length) es b)) hid=_:=(jK _ _ _ _ z2).trans e;have s:T.set mid (.map mv (jq (jl x.1) (yf l.length) es b)) rid=_:=(jK _ _ _ _ z3).trans q;have t:T.set mid (.map mv (jq (jl x.1) (yf l.length) es b)) mid=_:=q11 _ _ _;have j:T.set mid (.map mv (jq (jl x.1) (yf l.length) es b)) a=_:=(jK _ _ _ _ f.symm).trans t4;have u:Offd S [hid,rid,mid] (T.set mid (.map mv (jq (jl x.1) (yf l.length) es b))):=o.set (.inl DP) _
 show PW _ _ _ _ _ _ _ (T.set mid (.map mv (jq (jl x.1) (yf l.length) es b)))
 change MapIs jl ZcB (jq (jl x.1) (yf l.length) es b) _ at r;generalize T.set mid (.map mv (jq (jl x.1) (yf l.length) es b))=U at i s t j u;refine JA (some [a]) (Row.pures [0,1,2,3,5,6] (.alt 4 (.alt 7 (Row.pures [8,9] (.alt 10 (.done) .stop)) .stop) .stop)) mixed DU DU DU λK c=>?_
 simp -implicitDefEqProofs [i,j,yu];refine Zll rfl ZmT DQ s (by simpa using b0) (m:=1) (ds:=yu x) (by simp[yu]) DO DO ?_;simp -implicitDefEqProofs [vz,z1,n1.symm,n.symm,i,j,yu];have r1:RowIs (cs.take (l.length*2)++yu x) (l++[x]):=⟨[],by rw[k.take];simp⟩;refine c _ _ ⟨_,_,rfl,⟨Ys _ _ _,HS.cut ⟨⟨ver+1,?_,_,?_,r1⟩,⟨_,?_,r⟩,⟨z1,z2,z3⟩,?_⟩⟩,Yt ((u.set (.inl DP) _).set (.inl DP) _)⟩
 ·rw[Zb8];simp
 ·rw[jK _ _ _ _ z1.symm,Zb8];simp[yu]
 ·rw[jK _ _ _ _ z2.symm,jK _ _ _ _ z3.symm,t]
 ·simp;omega
theorem ZmV{S:Store}{hid hv rid mid mv:Nat}{l:zV Int}{g:Int->Option Nat}(x:Int × Int)(hs:HS S hid hv rid mid mv (l++[x]) g):
  PCalls prog 415 [.ptr hid hv 0] S (λp S'=>p=.ifc 449 (.agg (yu x))/\Off S [hid,rid,mid] S'/\HS S' hid hv rid mid mv l (jt g x.1 none)):=by
 obtain⟨ver,h1,cs,h2,i⟩:=hs.h;obtain⟨es,h3,s⟩:=hs.m;obtain⟨z1,z2,z3⟩:=hs.ne;have b0:=i.big;have e:=hs.len;simp only[Am,Ae,Ah,AS]at h1 b0 e;refine vU func415 rfl ntmps415 (congrArg Array.toList results415) DP ?_;have t:IntKind.i64.wrap (l.length:Int)=l.length:=Ym _ DO DO;obtain⟨tl,n⟩:=i.at l.length DP;have d:zL (l++[x]) l.length=x:=by simp[zL]
 rw[d]at n;refine ze (qY DU DQ (ze (qb [] DU λK b=>?_)));simp -implicitDefEqProofs [h1,t];refine b _ _ ?_;clear b;refine ze (qb [] DU λK b=>?_);have c:(l.length:Int)<l.length+1:=DO
 have b1:l.length*2+2<=cs.length:=DO
 simp -implicitDefEqProofs [h1,h2,n,c];refine JB rfl DQ DP λa d=>?_
 have n1:=uA h1 DP d;have j:=uA h2 DP d;have k:=uA h3 DP d;simp -implicitDefEqProofs;refine b _ _ ?_;clear b;refine ze (qb [] DU λK b=>?_);simp -implicitDefEqProofs [vz,n1,j,h1,h2,c,b1];refine b _ _ ?_;clear b;refine ze (qb [] DU λK b=>?_);simp -implicitDefEqProofs [vz,n1,j,z1,h1,h2,c,b1];refine b _ _ ?_;clear b;have r1:RowIs (yk cs (l.length*2) [.sc (.int .i64 0),.sc (.int .i64 0)]) l:=by
  obtain⟨rest,q⟩:=i.put l.length DP (0,0);exact⟨yu (0,0)++rest,by rw[q,BE _ _ (Ag _)];simp⟩
 have o:Offd S [hid,rid,mid] (((S.set a (.cells 0 449 (yu x))).set rid (.cells ver 449 (yk cs (l.length*2) [.sc (.int .i64 0),.sc (.int .i64 0)]))).set hid (.cells hv 445 [.sl rid ver 2 0 l.length,.mp mid mv])) :=
  (((Offd.refl _ _).set (.inr d) _).set (.inl DP) _).set (.inl DP) _
 have f:(((S.set a (.cells 0 449 (yu x))).set rid (.cells ver 449 (yk cs (l.length*2) [.sc (.int .i64 0),.sc (.int .i64 0)]))).set hid (.cells hv 445 [.sl rid ver 2 0 l.length,.mp mid mv])) hid=.cells hv 445 [.sl rid ver 2 0 l.length,.mp mid mv]:=DP
 have r:(((S.set a (.cells 0 449 (yu x))).set rid (.cells ver 449 (yk cs (l.length*2) [.sc (.int .i64 0),.sc (.int .i64 0)]))).set hid (.cells hv 445 [.sl rid ver 2 0 l.length,.mp mid mv])) rid=.cells ver 449 (yk cs (l.length*2) [.sc (.int .i64 0),.sc (.int .i64 0)]):=by simp[vz,z1.symm]
 have t3:(((S.set a (.cells 0 449 (yu x))).set rid (.cells ver 449 (yk cs (l.length*2) [.sc (.int .i64 0),.sc (.int .i64 0)]))).set hid (.cells hv 445 [.sl rid ver 2 0 l.length,.mp mid mv])) mid=.map mv es:=by simp[vz,z2.symm,z3.symm,k,h3]
 have t4:(((S.set a (.cells 0 449 (yu x))).set rid (.cells ver 449 (yk cs (l.length*2) [.sc (.int .i64 0),.sc (.int .i64 0)]))).set hid (.cells hv 445 [.sl rid ver 2 0 l.length,.mp mid mv])) a=.cells 0 449 (yu x):=by simp[vz,n1.symm,j.symm]
 show PW _ _ _ _ _ _ _ (((S.set a (.cells 0 449 (yu x))).set rid (.cells ver 449 (yk cs (l.length*2) [.sc (.int .i64 0),.sc (.int .i64 0)]))).set hid (.cells hv 445 [.sl rid ver 2 0 l.length,.mp mid mv]))
 generalize (((S.set a (.cells 0 449 (yu x))).set rid (.cells ver 449 (yk cs (l.length*2) [.sc (.int .i64 0),.sc (.int .i64 0)]))).set hid (.cells hv 445 [.sl rid ver 2 0 l.length,.mp mid mv]))=T at o f r t3 t4;obtain⟨u,v,_,_,_,w⟩:=s.find (JK .i64) x.1;refine ze (JA (some [hid,a]) (Row.pures [0,1,2,3,4,5] (.alt 6 (.done) .stop)) mixed DU DU DU λK b=>?_);simp -implicitDefEqProofs [f,t4,yu];refine Zlp rfl rfl underlying384 underlying3 rfl rfl rfl t3 v ?_;simp -implicitDefEqProofs [jK,z2,k.symm,f,t4,yu];refine b _ _ ?_;clear b;refine ze (qb [] DU λK b=>?_);simp -implicitDefEqProofs [jK,z2,k.symm,f,t4,yu];refine b _ _ (zj ⟨_,_,rfl,⟨rfl,Ys _ _ _,HS.cut ⟨⟨ver,?_,_,?_,r1⟩,⟨_,?_,w⟩,⟨z1,z2,z3⟩,?_⟩⟩,Yt (o.set (.inl DP) _)⟩)
 ·rw[jK _ _ _ _ z2,f]
 ·rw[jK _ _ _ _ z3,r]
 ·exact Zb8 _ _ _
 ·omega
open Go Hp
def HP(S:Store)(hid hv rid mid mv:Nat)(l:zV Int):Prop:=∃g,HS S hid hv rid mid mv l g/\PosOk g l
theorem PosOk.inj{g:Int->Option Nat}{l:zV Int}(h:PosOk g l){i j:Nat}(hi:i<l.length)(a:j<l.length)(e:(zL l i).1=(zL l j).1):i=j:=by
 have h1:=h.here i hi;rw[e,h.here j a]at h1
 simp_all
theorem PosOk.swp{g:Int->Option Nat}{l:zV Int}(h:PosOk g l)(i j:Nat)(hi:i<l.length)(d:j<l.length):PosOk (jt (jt g (zL (swp l i j) i).1 (some i)) (zL (swp l i j) j).1 (some j)) (swp l i j):=by
 have a:=λk=>Wy l i j k hi d
 have f:(zL (Hp.swp l i j) i).1=(zL l j).1:=by
  rw[a i]
  by_cases e:i=j
  ·rw[if_pos e,e]
  ·simp_all
 have m:(zL (Hp.swp l i j) j).1=(zL l i).1:=by rw[a j,if_pos rfl]
 rw[f,m];refine⟨λk b=>?_,λid hid=>?_⟩
 ·rw[Zq]at b;rw[a k];unfold jt
  by_cases k1:k=j
  ·simp_all
  ·rw[if_neg k1]
   by_cases c:k=i
   ·rw[if_pos c];rw[if_neg (λe=>k1 (by rw[c];exact(h.inj d hi e).symm)),if_pos rfl,c]
   ·rw[if_neg c,if_neg (λe=>c (h.inj b hi e)),if_neg (λe=>k1 (h.inj b d e))];exact h.here k b
 ·unfold jt;have n:=hid i (by rw[Zq];exact hi);have o:=hid j (by rw[Zq];exact d);rw[f]at n;rw[m]at o;rw[if_neg (Ne.symm o),if_neg (Ne.symm n)];refine h.gone id λk b e=>?_
  grind[Zq]
theorem WY(l:zV Int)(x:Int × Int)(k:Nat)(a:k<l.length):zL (l++[x]) k=zL l k:=by simp_all[zL,As]
theorem ZaA(l:zV Int)(x:Int × Int):zL (l++[x]) l.length=x:=by simp[zL]
theorem PosOk.push{g:Int->Option Nat}{l:zV Int}(h:PosOk g l)(x:Int × Int)(hx:g x.1=none):PosOk (jt g x.1 (some l.length)) (l++[x]):=by
 refine⟨λk b=>?_,λid hid=>?_⟩
 ·simp only[Am,Ae,Ah,AS]at b;unfold jt
  by_cases k1:k=l.length
  ·simp_all[ZaA]
  ·have a:k<l.length:=DO
   rw[WY l x k a,if_neg]
   ·exact h.here k a
   ·intro e;have:=h.here k a
    simp_all
 ·have q:=hid l.length DP;rw[ZaA]at q;unfold jt;rw[if_neg (Ne.symm q)];refine h.gone id λk b=>?_
  have:=hid k DT
  simp_all[WY]
theorem PosOk.pop{g:Int->Option Nat}{l:zV Int}(x:Int × Int)(h:PosOk g (l++[x])):PosOk (jt g x.1 none) l:=by
 have hl:l.length<(l++[x]).length:=DP
 refine⟨λk b=>?_,λid hid=>?_⟩
 ·have a:k<(l++[x]).length:=DT
  have:=h.here k a;rw[WY l x k b]at this;unfold jt;rw[if_neg]
  ·omega
  ·intro e;have:=h.inj a hl (by simp_all[WY,ZaA]);omega
 ·unfold jt
  by_cases e:id=x.1
  ·rw[if_pos e]
  ·rw[if_neg e];refine h.gone id λk b=>?_
   grind[ZaA,WY]
theorem Zf9 : Xt prog 447 "Len" 413 := by intro v w; kernel_rfl
theorem ZcC : Xt prog 447 "Less" 414 := by intro v w; kernel_rfl
theorem ZcD : Xt prog 447 "Swap" 417 := by intro v w; kernel_rfl
theorem ZmW : Xt prog 447 "Push" 416 := by intro v w; kernel_rfl
theorem ZmX : Xt prog 447 "Pop" 415 := by intro v w; kernel_rfl
abbrev hI(hid hv:Nat):PV:=.ifc 447 (.ptr hid hv 0)
theorem HP.len{S:Store}{hid hv rid mid mv:Nat}{l:zV Int}(h:HP S hid hv rid mid mv l):l.length<=2147483648:=by obtain⟨g,h,_⟩:=h;exact h.len
theorem HP.cut{S T:Store}{hid hv rid mid mv:Nat}{l:zV Int}(h:HP T hid hv rid mid mv l):HP (cut S [hid,rid,mid] T) hid hv rid mid mv l:=by obtain⟨g,h,k⟩:=h;exact⟨g,h.cut,k⟩
theorem Zga{S:Store}{hid hv rid mid mv:Nat}{l:zV Int}(h:HP S hid hv rid mid mv l):PCalls prog 413 [.ptr hid hv 0] S (λp S'=>p=yf l.length/\S'=S):=by
 obtain⟨g,h,_⟩:=h;exact ZmQ h
theorem ZcE{S:Store}{hid hv rid mid mv:Nat}{l:zV Int}(h:HP S hid hv rid mid mv l)(i j:Nat)(hi:i<l.length)(a:j<l.length):PCalls prog 414 [.ptr hid hv 0,yf i,yf j] S (λp S'=>p=vx (il qw (zL l i) (zL l j))/\S'=S):=by
 obtain⟨g,h,_⟩:=h;grind[ZmR]
theorem ZcF{S:Store}{hid hv rid mid mv:Nat}{l:zV Int}(h:HP S hid hv rid mid mv l)(i j:Nat)(hi:i<l.length)(a:j<l.length):PCalls prog 417 [.ptr hid hv 0,yf i,yf j] S (λ_ S'=>Off S [hid,rid,mid] S'/\HP S' hid hv rid mid mv (swp l i j)):=by
 obtain⟨g,h,k⟩:=h;exact(ZmS h i j hi a).mono λp S' q=>⟨q.1,_,q.2,k.swp i j hi a⟩
theorem ZmY{S:Store}{hid hv rid mid mv:Nat}{l:zV Int}(h:HP S hid hv rid mid mv l)(x:Int × Int)(hx:∀i,i<l.length->(zL l i).1≠x.1)(hn:l.length+1<=2147483648):PCalls prog 416 [.ptr hid hv 0,.ifc 449 (.agg (yu x))] S (λ_ S'=>Off S [hid,rid,mid] S'/\HP S' hid hv rid mid mv (l++[x])):=by
 obtain⟨g,h,k⟩:=h;exact(ZmU h x hn).mono λp S' q=>⟨q.1,_,q.2,k.push x (k.gone _ hx)⟩
theorem ZmZ{S:Store}{hid hv rid mid mv:Nat}{l:zV Int}(x:Int × Int)(h:HP S hid hv rid mid mv (l++[x])):PCalls prog 415 [.ptr hid hv 0] S (λp S'=>p=.ifc 449 (.agg (yu x))/\Off S [hid,rid,mid] S'/\HP S' hid hv rid mid mv l):=by
 obtain⟨g,h,k⟩:=h;exact(ZmV x h).mono λp S' q=>⟨q.1,q.2.1,_,q.2.2,k.pop x⟩
theorem Zm0(j:Nat):((j:Int)-1).tdiv 2=(yp j:Nat):=by grind[yp]
theorem Zgb{S:Store}{hid hv rid mid mv:Nat}{l:zV Int}(h:HP S hid hv rid mid mv l)(j:Nat)(u:j<l.length):
  PCalls prog 377 [hI hid hv,yf j] S (λ_ S'=>Off S [hid,rid,mid] S'/\HP S' hid hv rid mid mv (vr qw (j+1) l j)):=by
 refine vU func377 rfl ntmps377 (congrArg Array.toList results377) DP ?_;refine zn (ZbX (λF S' m=>∃(c:zV Int) (jc:Nat),m=jc/\jc<c.length/\F 0=hI hid hv/\F 1=yf jc/\Off S [hid,rid,mid] S'/\HP S' hid hv rid mid mv c/\vr qw (jc+1) c jc=vr qw (j+1) l j) j ⟨l,j,rfl,u,rfl,rfl,λ_ _=>rfl,h,rfl⟩ ?_);rintro jc F T ⟨c,_,rfl,d,e,i,a,f,g⟩;have s:=f.len;have v:IntKind.i64.wrap ((jc:Int)-1)=(jc:Int)-1:=Ym _ DO DO;have t:yp jc<=jc:=by unfold yp;omega
 have w2:IntKind.i64.wrap (yp jc:Int)=yp jc:=Ym _ DO DO;refine zn (ze (qb [] DU λK b=>?_));simp -implicitDefEqProofs [e,i,yf,v,Zm0,w2];refine b _ _ ?_;clear b
 by_cases hc:yp jc=jc
 ·refine ze (ze (qb [] DU λK b=>?_));simp -implicitDefEqProofs [e,i,yf,hc];refine b _ _ (zA rfl (λ_=>zC ?_) (λq=>by simp at q));refine⟨_,_,rfl,⟨Ys _ _ _,?_⟩,Yt a.offd⟩;rw[<-g];unfold vr;rw[if_pos (.inl hc)];exact f.cut
 ·refine ze (ze (qb [] DU λK b=>?_));have k:¬((yp jc:Nat):Int)=jc:=DO
  simp -implicitDefEqProofs [e,i,yf,hc,k];refine Yo rfl rfl rfl ZcC Zco (by exact ZcE f jc (yp jc) d (by omega)) λp S' n=>?_
  obtain⟨rfl,rfl⟩:=n;simp -implicitDefEqProofs [vx];refine b _ _ ?_;clear b;cases hl:il qw (zL c jc) (zL c (yp jc)) with
  | false =>
   refine zA rfl (λ_=>zC ?_) (λq=>by simp at q);refine⟨_,_,rfl,⟨Ys _ _ _,?_⟩,Yt a.offd⟩;rw[<-g];unfold vr;rw[if_pos (.inr hl)];exact f.cut
  | true =>
   refine zA rfl (λq=>by simp at q) (λ_=>zk (ze (qb [] DU λK b=>?_)));simp -implicitDefEqProofs [e,i,yf];refine Yo rfl rfl rfl ZcD Zcp (by exact ZcF f (yp jc) jc (by omega) d) λp S' n=>?_
   obtain⟨o,r⟩:=n;refine b _ _ ?_;clear b;refine qY DU DQ ?_;refine⟨yp jc,⟨swp c (yp jc) jc,yp jc,rfl,by rw[Zq];omega,e,by rfl,a.trans o,r,?_⟩,by omega⟩
   grind[vr,ZkE]
theorem Zm1{S:Store}{hid hv rid mid mv:Nat}{l:zV Int}(h:HP S hid hv rid mid mv l)(i n:Nat)(hi:i<n)(hn:n<=l.length):
  PCalls prog 380 [hI hid hv,yf i,yf n] S (λp S'=>p=vx (decide (i<(qB qw n l i n).2))/\Off S [hid,rid,mid] S'/\HP S' hid hv rid mid mv (qB qw n l i n).1):=by
 refine vU func380 rfl ntmps380 (congrArg Array.toList results380) DP ?_;refine ze (qY DU DQ (ze (qY DU DQ (ze ?_))));refine WE (Q:=λe F T=>e=.normal/\F 1=yf i/\F 7=yf (qB qw n l i n).2/\Off S [hid,rid,mid] T/\HP T hid hv rid mid mv (qB qw n l i n).1) (zn (ZbX (λF S' m=>∃(b:zV Int) (a:Nat),m=n-a/\a<n/\n<=b.length/\F 0=hI hid hv/\F 1=yf i/\F 2=yf n/\F 7=yf a/\Off S [hid,rid,mid] S'/\HP S' hid hv rid mid mv b/\qB qw n b a n=qB qw n l i n) (n-i) ⟨l,i,rfl,hi,hn,rfl,rfl,rfl,rfl,λ_ _=>rfl,h,rfl⟩ ?_)) ?_
 rotate_left
 ·rintro e F T ⟨rfl,f,g,k,w⟩;refine ze (qb [] DU λK c=>?_);simp -implicitDefEqProofs [f,g,yf];refine c _ _ (zj ⟨_,_,rfl,⟨?_,Ys _ _ _,w.cut⟩,Yt k.offd⟩);simp[vx]
 rintro _ F T ⟨b,a,rfl,a5,a6,j,f,o,g,k,w,r⟩;have a4:=w.len;have w1:IntKind.i64.wrap (2*(a:Int))=2*(a:Int):=Ym _ DO DO;have w2:IntKind.i64.wrap (2*(a:Int)+1)=((2*a+1:Nat):Int):=by rw[Ym _ DO DO];omega
 have z:IntKind.i64.wrap (((2*a+1:Nat):Int)+1)=((2*a+2:Nat):Int):=by rw[Ym _ DO DO];omega
 refine zn (ze (qb [] DU λK c=>?_));simp -implicitDefEqProofs only [j,f,g,yf,w1,w2];generalize s:2*a+1=k1 at w2 z;simp -implicitDefEqProofs [j,f,g,yf,w1,w2];refine c _ _ ?_;clear c
 by_cases hc:n<=k1
 ·refine ze (ze (qb [] DU λK c=>?_));have t:(n:Int)<=k1:=DO
  simp -implicitDefEqProofs [j,f,o,g,yf,hc,t];refine c _ _ (zA rfl (λ_=>zC ?_) (λq=>by simp at q));have hd:qB qw n b a n=(b,a):=by
   cases n with
   | zero=>omega
   | succ n=>unfold qB;rw[if_pos DO]
  rw[r]at hd
  simp_all
 ·refine ze (ze (qb [] DU λK c=>?_));have t:¬(n:Int)<=k1:=DO
  have a0:¬(k1:Int)<0:=DO
  simp -implicitDefEqProofs [j,f,o,g,yf,t,a0];refine c _ _ (zA rfl (λq=>by simp at q) (λ_=>zk ?_));clear c;refine ze (qY DU DQ ?_);obtain⟨c1,c2,c3,c4,c5⟩:=ZeL ZT b a n DO;have a1:xh qw b a n<b.length:=DO
  refine ze (WE (Q:=λe F' T'=>e=.normal/\T'=T/\F' 0=hI hid hv/\F' 1=yf i/\F' 2=yf n/\F' 7=yf a/\F' 9=yf (xh qw b a n)) ?_ ?_)
  ·generalize u:2*a+2=x at z;refine ze (qb [] DU λK c=>?_);simp -implicitDefEqProofs [j,f,o,g,yf,z];refine c _ _ ?_;clear c
   by_cases h2:x<n
   ·refine ze (qb [] DU λK c=>?_);have v:(x:Int)<n:=DO
    simp -implicitDefEqProofs [j,f,o,g,yf,h2,v];refine Yo rfl rfl rfl ZcC Zco (by exact ZcE w x k1 (by omega) (by omega)) λp S' y=>?_
    obtain⟨rfl,rfl⟩:=y;simp -implicitDefEqProofs [vx];refine c _ _ ?_;clear c;cases hl:il qw (zL b x) (zL b k1) with
    | true =>
     refine zA rfl (λ_=>qY DU DQ ?_) (λq=>by simp at q);refine⟨rfl,rfl,j,f,o,g,?_⟩;unfold xh;rw[s,u,if_pos ⟨h2,hl⟩];rfl
    | false =>
     refine zA rfl (λq=>by simp at q) (λ_=>zk ⟨rfl,rfl,j,f,o,g,?_⟩);unfold xh;rw[s,u,if_neg (by rw[hl];simp)];rfl
   ·refine ze (qb [] DU λK c=>?_);have v:¬(x:Int)<n:=DO
    simp -implicitDefEqProofs [j,f,o,g,yf,h2,v];refine c _ _ (zA rfl (λq=>by simp at q) (λ_=>zk ⟨rfl,rfl,j,f,o,g,?_⟩));unfold xh;rw[s,u,if_neg (λq=>h2 q.1)];rfl
  ·clear j f o g F;rintro e F S' ⟨rfl,rfl,j,f,o,g,f9⟩;have d:qB qw n b a n=if il qw (zL b (xh qw b a n)) (zL b a)=false then (b,a) else qB qw n (swp b a (xh qw b a n)) (xh qw b a n) n:=by
    cases n with
    | zero=>omega
    | succ n =>
     grind[qB,ZkG]
   rw[r]at d;generalize a7:xh qw b a n=kk at *;refine ze (ze (qb [] DU λK c=>?_));simp -implicitDefEqProofs [j,f,o,g,f9,yf];refine Yo rfl rfl rfl ZcC Zco (by exact ZcE w kk a (by omega) (by omega)) λp S' y=>?_
   obtain⟨rfl,rfl⟩:=y;simp -implicitDefEqProofs [vx];refine c _ _ ?_;clear c;cases hl:il qw (zL b kk) (zL b a) with
   | false =>
    rw[if_pos hl]at d;refine zA rfl (λ_=>zC ⟨rfl,f,?_,k,?_⟩) (λq=>by simp at q)<;>simp_all
   | true =>
    rw[if_neg (by rw[hl];simp)]at d;refine zA rfl (λq=>by simp at q) (λ_=>zk (ze (qb [] DU λK c=>?_)));simp -implicitDefEqProofs [j,f,o,g,f9,yf];refine Yo rfl rfl rfl ZcD Zcp (by exact ZcF w a kk (by omega) a1) λp S' y=>?_
    obtain⟨a2,a3⟩:=y;refine c _ _ ?_;clear c;refine qY DU (by simp[f9];rfl) ?_;refine⟨n-kk,⟨swp b a kk,kk,rfl,c2,by simp_all[Zq],j,f,o,rfl,k.trans a2,a3,d.symm⟩,by omega⟩
end Go.Proofs.YtcocagkbfpgmiaaGreatDoor.Pv
namespace Go.Proofs.YtcocagkbfpgmiaaGreatDoor.Hp
section
variable {α:Type} [DecidableEq α] [Inhabited α] {lt:α->α->Bool}
def Yu(lt:α->α->Bool)(l:zV α)(i n:Nat):zV α:=if i<(qB lt n l i n).2 then (qB lt n l i n).1 else vr lt (i+1) (qB lt n l i n).1 i
theorem Zm2(h:Str lt)(l:zV α)(i n:Nat)(hn:n<=l.length)(hi:i<n)(a:DownInv lt l n i):ZL lt (Yu lt l i n) n/\(Yu lt l i n).Perm l/\(Yu lt l i n).length=l.length/\∀k,n<=k->zL (Yu lt l i n) k=zL l k:=by
 obtain⟨b,c,d,f,g,e,q7⟩:=ZeM h n l n i hn hi DO a;unfold Yu;split
 ·rename_i hm;exact⟨e hm,b,c,d⟩
 ·rename_i hm;obtain⟨r1,r2⟩:=q7 DO;rw[r1];exact ZeK h (i+1) l n i hn hi DO ⟨r2,a.kids⟩
theorem Zm3{l:zV α}(x:Int × α)(h:ZL lt l l.length):UpInv lt (l++[x]) (l.length+1) l.length:=by
 have a:∀k,k<l.length->zL (l++[x]) k=zL l k:=λk b=>by
  unfold zL;rw[Aa,Aa,As b]
 refine⟨λk k0 c d=>?_,λk k0 c e f=>?_⟩
 ·have:=uT k0;rw[a k DO,a (yp k) DO];exact h k k0 DO
 ·have:=uT k0;omega
theorem Zm4(hs:Str lt){l:zV α}(i n:Nat)(hi:i<n)(hn:n+1=l.length)(h:ZL lt l l.length):DownInv lt (swp l i n) n i:=by
 have a:=λk=>Wy l i n k DO DO
 refine⟨λk k0 d b e=>?_,λk k0 d b i0=>?_⟩
 ·have:=uT k0;rw[a k,a (yp k),if_neg DO,if_neg e,if_neg DO,if_neg b];exact h k k0 DO
 ·have:=uT k0;have:=uT i0;rw[a k,a (yp i),if_neg DO,if_neg DO,if_neg DO,if_neg DO];have c:=h k k0 DO;rw[b]at c;exact Wz hs c (h i i0 DO)
theorem Zm5{l:zV α}(n:Nat)(h:ZL lt l n):ZL lt (l.take n) n:=by
 intro k k0 a;have:=uT k0;have e:∀j,j<n->zL (l.take n) j=zL l j:=λj b=>by
  unfold zL;rw[Aa,Aa,BI,if_pos b]
 rw[e k a,e (yp k) DO];exact h k k0 a
end
theorem Zm6{α:Type}[Inhabited α](l:zV α)(n:Nat)(hn:n+1=l.length):l=l.take n++[zL l n]:=by
 apply A8;intro k;rw[List.getElem?_append]
 by_cases h1:k<n
 ·rw[if_pos DT,BI,if_pos h1]
 ·rw[if_neg DT]
  by_cases h2:k=n
  ·subst h2;have:k<l.length:=DO
   simp[zL,this,Bf (DE this)]
  ·rw[Ao DO,Ao DT]
end Go.Proofs.YtcocagkbfpgmiaaGreatDoor.Hp
namespace Go.Proofs.YtcocagkbfpgmiaaGreatDoor.Pv
open Go Hp
def HH(S:Store)(hid hv rid mid mv:Nat)(l:zV Int):Prop:=HP S hid hv rid mid mv l/\ZL qw l l.length
theorem HH.cut{S T:Store}{hid hv rid mid mv:Nat}{l:zV Int}(h:HH T hid hv rid mid mv l):HH (cut S [hid,rid,mid] T) hid hv rid mid mv l:=⟨h.1.cut,h.2⟩
theorem Zm7{S:Store}{hid hv rid mid mv:Nat}{l:zV Int}(h:HH S hid hv rid mid mv l)(x:Int × Int)(hx:∀i,i<l.length->(zL l i).1≠x.1)(hn:l.length+1<=2147483648):
  PCalls prog 367 [hI hid hv,.ifc 449 (.agg (yu x))] S (λ_ S'=>Off S [hid,rid,mid] S'/\∃l',HH S' hid hv rid mid mv l'/\l'.Perm (x :: l)):=by
 obtain⟨d,e⟩:=h;refine vU func367 rfl ntmps367 (congrArg Array.toList results367) DP ?_;refine ze (qb [] DU λK b=>?_);simp -implicitDefEqProofs;refine Yo rfl rfl rfl ZmW Zmj (by exact ZmY d x hx hn) λp S1 a=>?_
 obtain⟨f,c⟩:=a;refine b _ _ ?_;clear b;refine qb [] DU λK b=>?_
 simp -implicitDefEqProofs;refine Yo rfl rfl rfl Zf9 ZfE (by exact Zga c) λp S2 a=>?_
 obtain⟨rfl,rfl⟩:=a;have g:IntKind.i64.wrap (l.length:Int)=l.length:=Ym _ DO DO;simp -implicitDefEqProofs [yf,g];obtain⟨j,k,m,_⟩:=ZeK ZT (l.length+1) (l++[x]) (l.length+1) l.length DP DO DO (Zm3 x e);refine QH rfl rfl rfl ZfD (by exact Zgb c l.length (by simp)) λp S3 a=>?_
 obtain⟨n,o⟩:=a;refine b _ _ ⟨_,_,rfl,⟨Ys _ _ _,_,HH.cut ⟨o,?_⟩,k.trans (CZ (l₁:=l) (l₂:=[x]))⟩,Yt (f.trans n).offd⟩;rw[m];simpa using j
theorem Zm8{S:Store}{hid hv rid mid mv:Nat}{l:zV Int}(h:HH S hid hv rid mid mv l)(i:Nat)(hi:i<l.length):
  PCalls prog 378 [hI hid hv,yf i] S (λp S'=>p=.ifc 449 (.agg (yu (zL l i)))/\Off S [hid,rid,mid] S'/\∃l',HH S' hid hv rid mid mv l'/\(zL l i :: l').Perm l):=by
 obtain⟨r,w⟩:=h;have x:=r.len;obtain⟨n,hn⟩:∃n,n+1=l.length:=⟨l.length-1,by omega⟩;refine vU func378 rfl ntmps378 (congrArg Array.toList results378) DP ?_;refine ze (qY DU DQ (ze (qb [] DU λK a=>?_)));simp -implicitDefEqProofs;refine Yo rfl rfl rfl Zf9 ZfE (by exact Zga r) λp S2 d=>?_
 obtain⟨rfl,rfl⟩:=d;have w1:IntKind.i64.wrap ((l.length:Int)-1)=n:=by rw[Ym _ DO DO];omega
 simp -implicitDefEqProofs [yf,w1];refine a _ _ ?_;clear a;refine ze (WE (Q:=λe F' T'=>e=.normal/\F' 0=hI hid hv/\Off S2 [hid,rid,mid] T'/\∃b:zV Int,HP T' hid hv rid mid mv b/\ZL qw b n/\b.Perm l/\b.length=l.length/\zL b n=zL l i) ?_ ?_)
 ·refine ze (qY DU (by simp[yf];rfl) ?_)
  by_cases hc:n=i
  ·refine zA rfl (λq=>by simp[hc]at q) (λ_=>zk ⟨rfl,rfl,λ_ _=>rfl,l,r,λk k0 kn=>w k k0 DO,.refl _,rfl,by rw[hc]⟩)
  ·have v:¬(n:Int)=i:=DO
   refine zA rfl (λ_=>?_) (λq=>by simp[v]at q);refine ze (qb [] DU λK a=>?_);simp -implicitDefEqProofs [yf];refine Yo rfl rfl rfl ZcD Zcp (by exact ZcF r i n (by omega) (by omega)) λp S3 d=>?_
   obtain⟨y,s⟩:=d;refine a _ _ ?_;clear a;have j:=Zm4 ZT i n DO hn w;have f:=Zq l i n;obtain⟨s1,s2,s3,s4⟩:=Zm2 ZT (swp l i n) i n DO DO j;have c:zL (Yu qw (swp l i n) i n) n=zL l i:=by rw[s4 n (Ag _),Wy l i n n hi DO,if_pos rfl]
   refine ze (qb [] DU λK a=>?_);simp -implicitDefEqProofs [yf];refine QH rfl rfl rfl Zmh (by exact Zm1 s i n (by omega) (by omega)) λp S4 d=>?_
   obtain⟨rfl,t,u⟩:=d;simp -implicitDefEqProofs [vx];refine a _ _ ?_;clear a
   by_cases hm:i<(qB qw n (swp l i n) i n).2
   ·refine zA rfl (λq=>by simp at q;omega) (λ_=>zk ⟨rfl,rfl,y.trans t,Yu qw (swp l i n) i n,?_,s1,s2.trans (VJ l _ _ hi DO),s3.trans f,c⟩);unfold Yu;rw[if_pos hm];exact u
   ·refine zA rfl (λ_=>?_) (λq=>by simp at q;omega);refine qb [] DU λK a=>?_
    simp -implicitDefEqProofs [yf];have a0:(qB qw n (swp l i n) i n).1.length=l.length:=((ZeM ZT n (swp l i n) n i DO DO DO j).2.1).trans f;refine QH rfl rfl rfl ZfD (by exact Zgb u i (by omega)) λp S5 d=>?_
    obtain⟨o5,p5⟩:=d;refine a _ _ ⟨rfl,rfl,(y.trans t).trans o5,Yu qw (swp l i n) i n,?_,s1,s2.trans (VJ l _ _ hi DO),s3.trans f,c⟩;unfold Yu;rw[if_neg hm];exact p5
 ·rintro e F T ⟨rfl,f0,m,b,s,h3,z,a1,hx⟩;have o:=Zm6 b n DO;rw[hx]at o;rw[o]at s z;refine ze (qb [] DU λK a=>?_);simp -implicitDefEqProofs [f0];refine Yo rfl rfl rfl ZmX Zmi (by exact ZmZ _ s) λp S4 d=>?_
  obtain⟨rfl,t,u⟩:=d;have g:ZL qw (b.take n) (b.take n).length:=by
   have e:(b.take n).length=n:=DT
   rw[e];exact Zm5 n h3
  refine a _ _ (zj ⟨_,_,rfl,⟨rfl,Ys _ _ _,_,HH.cut ⟨u,g⟩,?_⟩,Yt (m.trans t).offd⟩);exact(CZ (l₁:=[zL l i]) (l₂:=b.take n)).trans z
open Go Hp
abbrev uB(a b:Int × Int):Bool:=il qw a b
def uC(r:zV Int):Prop:=r.Pairwise (λa b=>uB a b=true)
def Yv(x:Int × Int):zV Int->zV Int
 | []=>[x]
 | y :: r=>if uB x y=true then x :: y :: r else y :: Yv x r
def Y7(id:Int)(r:zV Int):zV Int:=r.filter λx=>decide (x.1≠id)
def xN(id:Int)(r:zV Int):Bool:=r.any λx=>decide (x.1=id)
theorem WZ(x:Int × Int):∀r,(Yv x r).Perm (x :: r)
 | []=>.refl _
 | y :: r=>by
  unfold Yv;split
  ·exact .refl _
  ·exact((WZ x r).cons y).trans (.swap x y r)
theorem Zm9{a b c:Int × Int}(h1:uB a b=true)(h2:uB b c=true):uB a c=true:=(YX ZT).tr _ _ _ h1 h2
theorem Zna{a b:Int × Int}(h:uB a b=false)(c:a.1≠b.1):uB b a=true:=by
 cases d:uB b a with
 | true=>rfl
 | false=>exact absurd (congrArg Prod.fst ((YX ZT).tot _ _ h d)) c
theorem Zgc(x:Int × Int):∀r,uC r->(∀y∈r,y.1≠x.1)->uC (Yv x r)
 | [],_,_=>by simp[Yv,uC]
 | y :: r,h,hx=>by
  unfold Yv;have h':=Bk.1 h;split
  ·rename_i hl;refine Bk.2 ⟨λz a=>?_,h⟩;rcases Au.1 a with rfl | a
   ·exact hl
   ·exact Zm9 hl (h'.1 z a)
  ·rename_i hl;have b:uB x y=false:=by simpa using hl
   refine Bk.2 ⟨λz a=>?_,Zgc x r h'.2 λz a=>hx z (Cy _ a)⟩;rcases Au.1 ((WZ x r).subset a) with rfl | a
   ·exact Zna b (Ne.symm (hx y DP))
   ·exact h'.1 z a
theorem Znb(id:Int)(r:zV Int)(h:uC r):uC (Y7 id r):=List.Pairwise.filter _ h
def HM(S:Store)(hid hv rid mid mv:Nat)(r:zV Int):Prop:=∃l,HH S hid hv rid mid mv l/\l.Perm r/\uC r
theorem HM.cut{S T:Store}{hid hv rid mid mv:Nat}{r:zV Int}(h:HM T hid hv rid mid mv r):HM (cut S [hid,rid,mid] T) hid hv rid mid mv r:=by obtain⟨l,h,k⟩:=h;exact⟨l,h.cut,k⟩
theorem ZcG{l:zV Int}{i:Nat}(hi:i<l.length):zL l i∈l:=by
 have:zL l i=l[i]:=by unfold zL;simp[hi]
 rw[this];exact Bc hi
theorem ZcH{l:zV Int}{x:Int × Int}(h:x∈l):∃i,i<l.length/\zL l i=x:=by
 obtain⟨i,hi,rfl⟩:=List.getElem_of_mem h;exact⟨i,hi,by unfold zL;simp[hi]⟩
theorem HS.look{S:Store}{hid hv rid mid mv:Nat}{l:zV Int}{g:Int->Option Nat}(h:HS S hid hv rid mid mv l g)(k:PosOk g l)(id:Int):∃es a,S mid=.map mv es/\jC (.int .i64) (jl id) es 0=some a /\
  ((xN id l=false/\Yn true (.int .i64 0) a=.tup [yf 0,.sc (.bool false)])\/(xN id l=true/\∃i,i<l.length/\(zL l i).1=id/\Yn true (.int .i64 0) a=.tup [yf i,.sc (.bool true)])):=by
 obtain⟨es,h3,c⟩:=h.m;obtain⟨a,d,f,n,_,_⟩:=c.find (JK .i64) id;refine⟨es,a,h3,d,?_⟩
 by_cases hi:∃i,i<l.length/\(zL l i).1=id
 ·obtain⟨i,hi,e⟩:=hi;refine .inr ⟨?_,i,hi,e,?_⟩
  ·simp only[xN,B8];exact⟨_,ZcG hi,by simpa using e⟩
  ·obtain⟨j,rfl⟩:=n i (by rw[<-e];exact k.here i hi);rfl
 ·refine .inl ⟨?_,?_⟩
  ·simp only[xN,CP];intro x hx;obtain⟨i,b,rfl⟩:=ZcH hx;simp;exact λe=>hi ⟨i,b,e⟩
  ·have:=f (k.gone id λi b e=>hi ⟨i,b,e⟩);subst this;rfl
theorem ZcI{id:Int}{l r:zV Int}(h:l.Perm r):xN id l=xN id r:=by
 unfold xN;rw[DF,B8,B8];exact⟨λ⟨x,hx,e⟩=>⟨x,h.subset hx,e⟩,λ⟨x,hx,e⟩=>⟨x,h.symm.subset hx,e⟩⟩
theorem Znc{S:Store}{hid hv rid mid mv:Nat}{r:zV Int}(h:HM S hid hv rid mid mv r)(id w:Int)(hn:r.length+1<=2147483648):
  PCalls prog 348 [.ptr hid hv 0,yf id,yf w] S (λp S'=>p=vx (!xN id r)/\Off S [hid,rid,mid] S'/\HM S' hid hv rid mid mv (bif xN id r then r else Yv (id,w) r)):=by
 obtain⟨l,⟨d,s⟩,b,hs⟩:=h;have f:=d;obtain⟨g,t,u⟩:=f;obtain⟨ver,h1,cs,h2,hR⟩:=t.h;obtain⟨es,v,h3,x,c⟩:=t.look u id;refine vU func348 rfl ntmps348 (congrArg Array.toList results348) DP ?_;refine ze (qY DU DQ (ze (ze (qb [] DU λK a=>?_))));simp -implicitDefEqProofs [h1];refine ZP rfl underlying384 underlying3 rfl rfl rfl h3 x DQ ?_;rcases c with ⟨c,k⟩ | ⟨c,i,hi,hid,k⟩
 ·rw[k];simp -implicitDefEqProofs;refine a _ _ ?_;clear a;refine ze (qY DU DQ (zA rfl (λq=>by simp at q) (λ_=>zk ?_)));refine ze (qb [] DU λK a=>?_);simp -implicitDefEqProofs [yf];have hx:∀i,i<l.length->(zL l i).1≠id:=by
   intro i hi e;have:xN id l=true:=by
    simp only[xN,B8];exact⟨_,ZcG hi,by simpa using e⟩
   rw[c]at this;cases this
  refine QH rfl rfl rfl Zmd (by exact Zm7 ⟨d,s⟩ (id,w) hx (by rw[b.length_eq];exact hn)) λp S3 z=>?_
  obtain⟨o3,l',m,n⟩:=z;refine a _ _ ?_;clear a;refine ze (qY DU DQ (zj ?_));rw[<-ZcI b,c];refine⟨_,_,rfl,⟨rfl,Ys _ _ _,HM.cut ⟨l',m,n.trans (((List.Perm.cons _ b)).trans (WZ _ _).symm),Zgc _ _ hs λy hy e=>?_⟩⟩,Yt o3.offd⟩;obtain⟨j,hj,rfl⟩:=ZcH (b.symm.subset hy);exact hx j hj e
 ·rw[k];simp -implicitDefEqProofs;refine a _ _ ?_;clear a;refine ze (qY DU DQ (zA rfl (λ_=>?_) (λq=>by simp at q)));refine ze (qY DU DQ (zj ?_));rw[<-ZcI b,c];exact⟨_,_,rfl,⟨rfl,λ_ _=>rfl,⟨l,⟨d,s⟩,b,hs⟩⟩,λo=>.inl rfl⟩
open Go Hp
def Once(r:zV Int):Prop:=(r.map (·.1)).Nodup
theorem HP.once{S:Store}{hid hv rid mid mv:Nat}{l:zV Int}(h:HP S hid hv rid mid mv l):Once l:=by
 obtain⟨g,_,k⟩:=h;unfold Once;refine Bw.2 λi j hi a b e=>?_
 simp only[List.length_map]at hi a;simp only[Cd]at e;have q:∀i (hi:i<l.length),zL l i=l[i]:=λi hi=>by unfold zL;simp[hi]
 have:=k.inj hi a (by rw[q i hi,q j a];exact e);omega
theorem Once.perm{l r:zV Int}(h:l.Perm r)(k:Once l):Once r:=(List.Perm.nodup_iff (h.map λx:Int × Int=>x.1)).1 k
theorem HM.once{S:Store}{hid hv rid mid mv:Nat}{r:zV Int}(h:HM S hid hv rid mid mv r):Once r:=by
 obtain⟨l,⟨a,_⟩,b,_⟩:=h;exact a.once.perm b
theorem Zgd{x:Int × Int}{l:zV Int}(h:Once (x :: l)):Y7 x.1 (x :: l)=l:=by
 unfold Y7;rw[Cf,if_neg DP,List.filter_eq_self];intro y a;simp only[decide_eq_true_eq];intro e;have:=(CH.1 (show (x.1 :: l.map (·.1)).Nodup from h)).1;exact this (Al.2 ⟨y,a,e⟩)
theorem Znd{l r:zV Int}(id:Int)(h:l.Perm r):(Y7 id l).Perm (Y7 id r):=h.filter _
theorem Zne{id:Int}{l:zV Int}(h:xN id l=false):Y7 id l=l:=by
 unfold Y7;rw[List.filter_eq_self];intro y a;simp only[xN,CP]at h;simpa using h y a
theorem Znf{S:Store}{hid hv rid mid mv:Nat}{r:zV Int}(h:HM S hid hv rid mid mv r)(id:Int):
  PCalls prog 369 [.ptr hid hv 0,yf id] S (λp S'=>p=vx (xN id r)/\Off S [hid,rid,mid] S'/\HM S' hid hv rid mid mv (Y7 id r)):=by
 have hM:=h;obtain⟨l,⟨d,n⟩,k,hs⟩:=h;have e:=d;obtain⟨g,m,s⟩:=e;obtain⟨ver,h1,cs,h2,y⟩:=m.h;obtain⟨es,t,h3,u,a⟩:=m.look s id;refine vU func369 rfl ntmps369 (congrArg Array.toList results369) DP ?_;refine ze (qY DU DQ (ze (qb [] DU λK b=>?_)));simp -implicitDefEqProofs [h1];refine ZP rfl underlying384 underlying3 rfl rfl rfl h3 u DQ ?_;rw[ZcI k]at a;rcases a with ⟨a,f⟩ | ⟨a,i,hi,hid,f⟩
 ·rw[f];simp -implicitDefEqProofs;refine b _ _ ?_;clear b;refine ze (ze (qY DU DQ (zA rfl (λ_=>?_) (λq=>by simp at q))));refine ze (qY DU DQ (zj ?_));rw[a,Zne a];exact⟨_,_,rfl,⟨rfl,λ_ _=>rfl,hM⟩,λo=>.inl rfl⟩
 ·rw[f];simp -implicitDefEqProofs [yf];refine b _ _ ?_;clear b;refine ze (ze (qY DU DQ (zA rfl (λq=>by simp at q) (λ_=>zk ?_))));refine ze (qb [] DU λK b=>?_);simp -implicitDefEqProofs;refine QH rfl rfl rfl Zmg (by exact Zm8 ⟨d,n⟩ i hi) λp S3 v=>?_
  obtain⟨_,w,l',j,c⟩:=v;refine b _ _ ?_;clear b;refine ze (qY DU DQ (zj ?_));rw[a];have x:Y7 id (zL l i :: l')=l':=by rw[<-hid];exact Zgd (Once.perm c.symm d.once)
  refine⟨_,_,rfl,⟨rfl,Ys _ _ _,HM.cut ⟨l',j,?_,Znb id r hs⟩⟩,Yt w.offd⟩;have:=Znd id (c.trans k);rw[x]at this;exact this
end Go.Proofs.YtcocagkbfpgmiaaGreatDoor.Pv
namespace Go.Proofs.YtcocagkbfpgmiaaGreatDoor.Hp
section
variable {α:Type} [DecidableEq α] [Inhabited α] {lt:α->α->Bool}
theorem Zng(hs:Str lt){l:zV α}(h:ZL lt l l.length):∀k,k<l.length->il lt (zL l k) (zL l 0)=false:=by
 intro k
 induction k using Nat.strongRecOn with
 | _ k a =>
  intro b;rcases B1 k with e | e
  ·subst e;exact(YX hs).irr _
  ·have:=uT e;exact Wz hs (h k e b) (a (yp k) this DO)
end
end Go.Proofs.YtcocagkbfpgmiaaGreatDoor.Hp
namespace Go.Proofs.YtcocagkbfpgmiaaGreatDoor.Pv
open Go Hp
theorem HM.root{S:Store}{hid hv rid mid mv:Nat}{x:Int × Int}{r:zV Int}{l:zV Int}(h:HH S hid hv rid mid mv l)(a:l.Perm (x :: r))(hs:uC (x :: r)):zL l 0=x:=by
 have hl:0<l.length:=by rw[a.length_eq];simp
 obtain⟨k,b,e⟩:=ZcH (a.symm.subset (Ci));have h1:=Zng ZT h.2 k b;rw[e]at h1;rcases Au.1 (a.subset (ZcG hl)) with h2 | h2
 ·exact h2
 ·have:=(Bk.1 hs).1 _ h2;rw[show uB x (zL l 0)=false from h1]at this;cases this
def JL:zV Int->PV
 | []=>.tup [yf 0,yf 0,vx false]
 | x :: _=>.tup [yf x.1,yf x.2,vx true]
theorem Znh{S:Store}{hid hv rid mid mv:Nat}{r:zV Int}(h:HM S hid hv rid mid mv r):
  PCalls prog 368 [.ptr hid hv 0] S (λp S'=>p=JL r/\S'=S):=by
 obtain⟨l,i,c,hs⟩:=h;have j:=i.1;obtain⟨g,k,s⟩:=j;obtain⟨ver,h1,cs,h2,m⟩:=k.h;refine vU func368 rfl ntmps368 (congrArg Array.toList results368) DP ?_;refine ze (qY DU DQ (ze (ze (qb [] DU λK b=>?_))));simp -implicitDefEqProofs [h1];refine b _ _ ?_;clear b;cases r with
 | nil =>
  have hl:l.length=0:=by rw[c.length_eq];rfl
  refine zA rfl (λ_=>?_) (λq=>by simp at q;exact absurd (Av hl) q);refine ze (qY DU DQ (ze (qY DU DQ (zj ?_))));exact⟨_,S,rfl,⟨rfl,rfl⟩,λo=>.inl rfl⟩
 | cons x r =>
  have hl:0<l.length:=by rw[c.length_eq];simp
  have hx:=HM.root i c hs;obtain⟨tl,d⟩:=m.at 0 hl;rw[hx]at d;simp at d;refine zA rfl (λq=>by simp at q;subst q;simp at hl) (λ_=>zk ?_);refine ze (qb [] DU λK b=>?_);have f:0<l.length:=hl;simp -implicitDefEqProofs [h1,h2,f,d];refine JB rfl DQ DP λa n=>?_
  simp -implicitDefEqProofs;refine b _ _ ?_;clear b;refine ze (Zlf mixed DU DU DU DQ (zj ?_));refine⟨_,S,rfl,⟨rfl,rfl⟩,λo=>?_⟩
  by_cases e:o=a
  ·exact .inr (e ▸ n)
  ·exact .inl (by rw[jK _ _ _ _ e])
theorem Zni{S:Store}{hid hv rid mid mv:Nat}{r:zV Int}(h:HM S hid hv rid mid mv r):
  PCalls prog 349 [.ptr hid hv 0] S (λp S'=>p=JL r/\Off S [hid,rid,mid] S'/\HM S' hid hv rid mid mv r.tail):=by
 refine vU func349 rfl ntmps349 (congrArg Array.toList results349) DP ?_;refine ze (qY DU DQ (ze (qb [] DU λK a=>?_)));simp -implicitDefEqProofs;refine QH rfl rfl rfl Zme (by exact Znh h) λp S2 b=>?_
 obtain⟨rfl,rfl⟩:=b;cases r with
 | nil =>
  simp -implicitDefEqProofs [JL];refine a _ _ ?_;clear a;refine ze (ze (qY DU DQ (zA rfl (λq=>by simp at q) (λ_=>zk ?_))));refine ze (qY DU DQ (zj ?_));exact⟨_,S2,rfl,⟨rfl,λ_ _=>rfl,h⟩,λo=>.inl rfl⟩
 | cons x r =>
  simp -implicitDefEqProofs [JL];refine a _ _ ?_;clear a;refine ze (ze (qY DU DQ (zA rfl (λ_=>?_) (λq=>by simp at q))));refine qb [] DU λK a=>?_
  simp -implicitDefEqProofs;refine QH rfl rfl rfl Zmf (by exact Znf h x.1) λp S3 b=>?_
  obtain⟨_,c,h3⟩:=b;refine a _ _ ?_;clear a;refine ze (qY DU DQ (zj ?_));rw[Zgd h.once]at h3;exact⟨_,S3,rfl,⟨rfl,c,h3⟩,λo=>.inl rfl⟩
open Go Hp
theorem HM.congr{S T:Store}{hid hv rid mid mv:Nat}{r:zV Int}(h:HM S hid hv rid mid mv r)(e:∀o∈[hid,rid,mid],T o=S o):HM T hid hv rid mid mv r:=by
 obtain⟨l,⟨⟨g,h,k⟩,a⟩,b,hs⟩:=h;exact⟨l,⟨⟨g,h.congr e,k⟩,a⟩,b,hs⟩
def HX(o:Ob × Ob × Ob)(a hv mv:Nat)(r:zV Int):Prop:=∀S:Store,S a=o.1->S (a+1)=o.2.1->S (a+2)=o.2.2->HM S (a+1) hv (a+2) a mv r
def Yw(obs:List Ob)(j:Nat)(o:Ob × Ob × Ob):List Ob:=((obs.set j o.1).set (j+1) o.2.1).set (j+2) o.2.2
theorem HM.hx{S:Store}{a hv mv:Nat}{r:zV Int}(h:HM S (a+1) hv (a+2) a mv r):HX (S a,S (a+1),S (a+2)) a hv mv r:=by
 intro T h1 h2 h3;refine h.congr λo ho=>?_
 simp at ho;rcases ho with rfl | rfl | rfl
 ·exact h2
 ·exact h3
 ·exact h1
theorem HX.hm{S:Store}{nx j hv mv:Nat}{obs:List Ob}{o:Ob × Ob × Ob}{r:zV Int}(h:HX o (nx+j) hv mv r)(h1:obs[j]?=some o.1)(h2:obs[j+1]?=some o.2.1)(h3:obs[j+2]?=some o.2.2):HM (ext S nx obs) (nx+j+1) hv (nx+j+2) (nx+j) mv r:=by
 refine h _ ?_ ?_ ?_
 ·rw[zY,Aa,h1];rfl
 ·rw[Nat.add_assoc,zY,Aa,h2];rfl
 ·rw[Nat.add_assoc,zY,Aa,h3];rfl
theorem Znj{S T:Store}{nx j:Nat}{obs:List Ob}(h:Off (ext S nx obs) [nx+j+1,nx+j+2,nx+j] T)(hl:j+2<obs.length):T=ext S nx (Yw obs j (T (nx+j),T (nx+j+1),T (nx+j+2))):=by
 funext i
 by_cases h1:i=nx+j
 ·subst h1;rw[zY,Aa,Yw,AZ DO,AZ DO,AW DO];rfl
 by_cases h2:i=nx+j+1
 ·subst h2;rw[Nat.add_assoc,zY,Aa,Yw,AZ DO,AW DT];rfl
 by_cases h3:i=nx+j+2
 ·subst h3;rw[Nat.add_assoc,zY,Aa,Yw,AW DT];rfl
 rw[h i DT];simp only[ext];split
 ·rfl
 ·rw[Aa,Aa,Yw,AZ DO,AZ DO,AZ DO]
section
variable {S:Store} {nx j hv mv:Nat} {obs:List Ob} {o:Ob × Ob × Ob} {r:zV Int}
theorem Zge{f:FuncId}{args:List PV}{q:PV}{a:zV Int}(b:qC prog f)(hl:j+2<obs.length)
  (h:PCalls prog f args (ext S nx obs) (λp T=>p=q/\Off (ext S nx obs) [nx+j+1,nx+j+2,nx+j] T/\HM T (nx+j+1) hv (nx+j+2) (nx+j) mv a)) :
  Spec prog f args (ext S nx obs) (λp T=>p=q/\∃o',HX o' (nx+j) hv mv a/\T=ext S nx (Yw obs j o')):=by
 refine⟨b,h.mono ?_⟩;rintro p T ⟨h1,h2,h3⟩;exact⟨h1,_,h3.hx,Znj h2 hl⟩
variable (h:HX o (nx+j) hv mv r) (h1:obs[j]?=some o.1) (h2:obs[j+1]?=some o.2.1) (h3:obs[j+2]?=some o.2.2)
include h h1 h2 h3
theorem Zgf(id w:Int)(hn:r.length+1<=2147483648):Spec prog 348 [.ptr (nx+j+1) hv 0,I id,I w] (ext S nx obs) (λp T=>p=B (!xN id r)/\∃o',HX o' (nx+j) hv mv (bif xN id r then r else Yv (id,w) r)/\T=ext S nx (Yw obs j o')) :=
 Zge Zmb (Ad.1 h3).1 (Znc (h.hm h1 h2 h3) id w hn)
theorem Znk:Spec prog 349 [.ptr (nx+j+1) hv 0] (ext S nx obs) (λp T=>p=JL r/\∃o',HX o' (nx+j) hv mv r.tail/\T=ext S nx (Yw obs j o')) :=
 Zge Zmc (Ad.1 h3).1 (Zni (h.hm h1 h2 h3))
end
theorem Znl{S:Store}{nx:Nat}{obs:List Ob}:Spec prog 346 [] (ext S nx obs) (λp T=>∃hv mv o,p=.ptr (nx+obs.length+1) hv 0/\HX o (nx+obs.length) hv mv []/\T=ext S nx (obs++[o.1,o.2.1,o.2.2])):=by
 have b:=xB (S:=S) (nx:=nx) (obs:=obs);have e:∀o:Ob × Ob × Ob,ext S nx (obs++[o.1,o.2.1,o.2.2])=ext (ext S nx obs) (nx+obs.length) [o.1,o.2.1,o.2.2]:=by
  intro o;have c:=jr (S:=S) (nx:=nx) (obs:=obs) o.1;have d:=jr (S:=S) (nx:=nx) (obs:=obs++[o.1]) o.2.1;have f:=jr (S:=S) (nx:=nx) (obs:=obs++[o.1]++[o.2.1]) o.2.2;have l:=qZ b;have g:=jr (S:=ext S nx obs) (nx:=nx+obs.length) (obs:=[]) o.1;have h:=jr (S:=ext S nx obs) (nx:=nx+obs.length) (obs:=[o.1]) o.2.1;have j:=jr (S:=ext S nx obs) (nx:=nx+obs.length) (obs:=[o.1,o.2.1]) o.2.2;simp only[Am,Ae,Ah,List.append_assoc,List.cons_append,AQ,By,AS]at c d f g h j;rw[<-f,<-d,<-c,<-j,<-h,<-g,l];simp only[Nat.add_assoc]
 generalize ext S nx obs=S1 at *;generalize nx+obs.length=m at *;refine Zv b func346 ntmps346 results346 ?_;refine DY ?_;refine DY ?_;intro mv hv;refine jd 1 0 449 2 rfl rfl λa=>?_
 refine zj ⟨_,_,rfl,⟨hv,mv,(.map mv [],.cells hv 445 [.sl (m+2) a 2 0 0,.mp m mv],.cells a 449 []),rfl,?_,(e _).symm⟩,λo=>.inl DP⟩;intro T h1 h2 h3;refine⟨[],⟨⟨λ_=>none,⟨⟨a,h2,[],h3,[],rfl⟩,⟨[],h1,Zf5 _ _⟩,⟨by omega,by omega,by omega⟩,by simp⟩,⟨λi hi=>by simp at hi,λ_ _=>rfl⟩⟩,λk k0 n=>by simp at n⟩,.refl _,by simp[uC]⟩
open Go Hp
@[simp] theorem ZzH(a b c:Ob)(l:List Ob)(o:Ob × Ob × Ob):Yw (a :: b :: c :: l) 0 o=o.1 :: o.2.1 :: o.2.2 :: l:=rfl
open Go Hp
instance:Enc (Int × Int):=⟨λx=>[I x.1,I x.2],2,λ_=>rfl,λ_=>rfl⟩
@[simp] theorem ZzI(s:Int × Int):Enc.enc s=[I s.1,I s.2]:=rfl
@[simp high] theorem ZzJ(l:zV Int):(l.flatMap Enc.enc).length=l.length*2:=js l
@[simp high] theorem ZzK(l:zV Int):(l.flatMap Enc.enc).take (l.length*2)=l.flatMap Enc.enc:=Y6 l
open Go Hp
structure Deed where
 kind:Int
 id:Int
 w:Int
instance:Enc Deed:=⟨λd=>[I d.kind,I d.id,I d.w],3,λ_=>rfl,λ_=>rfl⟩
@[simp] theorem ZzL(d:Deed):Enc.enc d=[I d.kind,I d.id,I d.w]:=rfl
@[simp high] theorem ZzM(l:List Deed):(l.flatMap Enc.enc).length=l.length*3:=js l
@[simp high] theorem ZzN(l:List Deed):(l.flatMap Enc.enc).take (l.length*3)=l.flatMap Enc.enc:=Y6 l
open Go Hp Go.Sort
def uZ(a b:Int):Int:=if a<b then -1 else if b<a then 1 else 0
def vW(l:List Int)(i:Nat):Int × Int:=((i:Int),l.getD i 0)
def vA(l:List Int)(i j:Fin l.length):Int:=if uZ (l.getD i 0) (l.getD j 0)=0 then uZ (i.val:Int) j.val else uZ (l.getD i 0) (l.getD j 0)
theorem W0(l:List Int)(i j:Fin l.length):ltOf (vA l) i j=uB (vW l i) (vW l j):=by grind[ltOf,vA,uZ,il,vW]
theorem ZaB(l:List Int):SWO (ltOf (vA l)):=by
 have H:=YX ZT;refine⟨λx=>?_,λx y z h1 h2=>?_,λx y z h1 h2=>?_⟩
 ·rw[W0];exact H.irr _
 ·rw[W0]at *;exact H.tr _ _ _ h1 h2
 ·rw[W0]at *;cases h:uB (vW l x) (vW l z) with
  | false=>rfl
  | true =>
   exfalso;cases h3:uB (vW l y) (vW l x) with
   | true=>have a:uB (vW l y) (vW l z)=true:=H.tr _ _ _ h3 h;simp_all
   | false =>
    have e:=H.tot _ _ h1 h3
    simp_all
theorem Zgg(l:List Int):∀x y,ltOf (vA l) x y=false->ltOf (vA l) y x=false->x=y:=by
 intro x y h1 h2;rw[W0]at h1 h2;have:=(YX ZT).tot _ _ h1 h2;have:(x.val:Int)=y.val:=congrArg Prod.fst this;omega
def JM(l:List Int):List (Fin l.length):=(List.finRange l.length).mergeSort λx y=>!(ltOf (vA l)) y x
theorem ZcJ(l:List Int):(JM l).Perm (List.finRange l.length):=Cc _ _
theorem Znm(l:List Int):((JM l).map λi:Fin l.length=>vW l i.val).Perm ((List.range l.length).map (vW l)):=by
 refine((ZcJ l).map _).trans ?_;have e:(List.finRange l.length).map (λi:Fin l.length=>vW l i.val)=(List.range l.length).map (vW l):=by
  apply A3
  ·simp
  ·simp
 rw[e]
theorem Znn(l:List Int):(JM l).Nodup:=(ZcJ l).nodup_iff.2 (List.nodup_finRange _)
theorem Zno(l:List Int):uC ((JM l).map λi:Fin l.length=>vW l i.val):=by
 have H:=YX ZT;have h1:(JM l).Pairwise λa b=>(!(ltOf (vA l)) b a)=true:=by
  refine CG ?_ ?_ _
  ·intro a b c h1 h2;simp only[Cm]at *;exact(ZaB l).ntrans c b a h2 h1
  ·intro a b;simp only[Dc,Cm];cases h:ltOf (vA l) b a with
   | false=>exact .inl rfl
   | true =>
    refine .inr ?_;cases h2:ltOf (vA l) a b with
    | false=>rfl
    | true=>have:=(ZaB l).trans _ _ _ h h2;rw[(ZaB l).irrefl]at this;cases this
 have h2:=List.Pairwise.and h1 (Znn l);unfold uC;refine List.Pairwise.map _ ?_ h2;rintro a b ⟨h3,e⟩;have d:ltOf (vA l) b a=false:=by simpa using h3
 rw[<-W0];cases h:ltOf (vA l) a b with
 | true=>rfl
 | false=>exact absurd (Zgg l a b h d) e
def uD(l:List Int):List Int:=(JM l).map λi=>(i.val:Int)
theorem ZcK(l:List Int):(uD l).length=l.length:=by
 unfold uD;rw[List.length_map,(ZcJ l).length_eq];simp
theorem Znp{l:List Int}{z:Int}(h:z∈uD l):0<=z/\z<l.length:=by
 obtain⟨i,_,rfl⟩:=Al.1 h;have:=i.isLt;omega
end Go.Proofs.YtcocagkbfpgmiaaGreatDoor.Pv
namespace Go.Proofs.YtcocagkbfpgmiaaGreatDoor.Hp
section
variable {α:Type} {lt:α->α->Bool}
def Sd(lt:α->α->Bool)(l:List α):Prop:=l.Pairwise λa b=>lt a b=true
theorem Znq(rows:List (List α))(i:Nat)(y:α)(tl:List α)(h:rows[i]?=some (y :: tl)):rows.flatten.Perm (y :: (rows.set i tl).flatten):=by
 induction rows generalizing i with
 | nil=>simp at h
 | cons r rows a =>
  cases i with
  | zero =>
   simp_all
  | succ i =>
   simp only[Bg]at h;have:=a i h;simp only[BG,AV];exact(this.append_left r).trans List.perm_middle
theorem Znr(H:Str lt){P:List α}(u:Sd lt P){rows:List (List α)}(o:∀r∈rows,Sd lt r){k:Nat}(n:rows.flatten.Perm (P.drop k)){i:Nat}{y:α}{tl:List α}(hi:rows[i]?=some (y :: tl))
  (d:∀(j:Nat) z tz,rows[j]?=some (z :: tz)->j≠i->lt y z=true) :
  P[k]?=some y/\(rows.set i tl).flatten.Perm (P.drop (k+1))/\∀r∈rows.set i tl,Sd lt r:=by
 have f:=Znq rows i y tl hi;have g:Sd lt (y :: tl):=o _ (Ab hi)
 -- y is the least of what is left
 have p:∀z∈rows.flatten,z=y\/lt y z=true:=by
  intro z v;obtain⟨r,b,c⟩:=Bt.1 v;obtain⟨j,q⟩:=Bi.1 b
  by_cases e:j=i
  ·subst e;rw[hi]at q;cases q;rcases Au.1 c with e | e
   ·exact .inl e
   ·exact .inr ((Bk.1 g).1 z e)
  ·cases r with
   | nil=>cases c
   | cons a w =>
    have h1:=d j a w q e;rcases Au.1 c with e2 | e2
    ·simp_all
    ·exact .inr (H.tr _ _ _ h1 ((Bk.1 (o _ b)).1 z e2))
 have l:y∈P.drop k:=n.subset (f.symm.subset Ci);cases m:P.drop k with
 | nil=>simp_all
 | cons x rest =>
  have s:Sd lt (x :: rest):=by rw[<-m];exact List.Pairwise.sublist (List.drop_sublist k P) u
  have hx:x=y:=by
   rw[m]at l;rcases Au.1 l with e | e
   ·exact e.symm
   ·have h1:=(Bk.1 s).1 y e;rcases p x (n.symm.subset DX) with h | h
    ·exact h
    ·have:=H.tr _ _ _ h1 h;rw[H.irr]at this;cases this
  subst hx;have hk:P[k]?=some x:=by
   have:(P.drop k)[0]?=some x:=by rw[m];rfl
   rwa[AP,By]at this
  have t:P.drop (k+1)=rest:=by
   have:P.drop (k+1)=(P.drop k).drop 1:=by rw[List.drop_drop]
   rw[this,m];rfl
  refine⟨hk,?_,λr b=>?_⟩
  ·rw[t];rw[m]at n;exact List.Perm.cons_inv (f.symm.trans n)
  ·rcases Bv b with h | h
   ·exact o r h
   ·rw[h];exact(Bk.1 g).2
theorem Zns{P:List α}{rows:List (List α)}{k:Nat}(a:rows.flatten.Perm (P.drop k))(b:k<=P.length)(h0:∀r∈rows,r=[]):k=P.length:=by
 have:rows.flatten=[]:=List.flatten_eq_nil_iff.2 h0;rw[this]at a;have:=a.length_eq;simp at this;omega
theorem Zgh(H:Str lt):∀{a b:List α},a.Perm b->Sd lt a->Sd lt b->a=b
 | [],b,h,_,_=>by simp_all
 | x :: a,[],h,_,_=>by simp_all
 | x :: a,y :: b,h,f,hb=>by
  have c:=Bk.1 f;have d:=Bk.1 hb;have e:x=y:=by
   rcases Au.1 (h.subset (Ci)) with e | hx
   ·exact e
   ·rcases Au.1 (h.symm.subset (Ci)) with e | g
    ·exact e.symm
    ·have:=H.tr _ _ _ (c.1 y g) (d.1 x hx);rw[H.irr]at this;cases this
  subst e;rw[Zgh H (List.Perm.cons_inv h) c.2 d.2]
theorem Znt(H:Str lt)(l:List α)(hn:l.Nodup):Sd lt (l.mergeSort λx y=>!lt y x):=by
 have h1:(l.mergeSort λx y=>!lt y x).Pairwise λa b=>(!lt b a)=true:=by
  refine CG ?_ ?_ _
  ·intro a b c h1 h2;simp only[Cm]at *;cases e:lt c a with
   | false=>rfl
   | true =>
    exfalso;cases e2:lt b c with
    | true=>have:=H.tr _ _ _ e2 e;simp_all
    | false=>have f:=H.tot _ _ e2 h2;simp_all
  ·intro a b;simp only[Dc,Cm];cases e:lt b a with
   | false=>simp
   | true =>
    refine .inr ?_;cases e2:lt a b with
    | false=>rfl
    | true=>have:=H.tr _ _ _ e e2;rw[H.irr]at this;cases this
 have h2:=List.Pairwise.and h1 ((Cc l _).nodup_iff.2 hn);refine List.Pairwise.imp ?_ h2;rintro a b ⟨h3,d⟩;cases e:lt a b with
 | true=>rfl
 | false=>exact absurd (H.tot _ _ e (by simpa using h3)) d
end
end Go.Proofs.YtcocagkbfpgmiaaGreatDoor.Hp
namespace Go.Proofs.YtcocagkbfpgmiaaGreatDoor.Pv
open Go Hp
def u5(x:Inst)(a b:Int):Int:=arc x (a+1) 0+arc x 0 (b+1)-arc x (a+1) (b+1)
structure Pr where
 a:Int
 b:Int
 s:Int
deriving DecidableEq
def wX(p q:Pr):Bool:=if p.s=q.s then (if p.a=q.a then decide (p.b<q.b) else decide (p.a<q.a)) else decide (q.s<p.s)
theorem ZcL:Str wX:=by
 refine⟨λa=>by simp[wX],λa b c h1 h2=>?_,λa b h1 h2=>?_⟩
 ·grind[wX]
 ·obtain⟨d,e,a3⟩:=a;obtain⟨b1,b2,b3⟩:=b
  grind[wX]
def xE(x:Inst)(c:List Int)(a:Int):List Pr:=(c.filter λb=>decide (b≠a)).map λb=>⟨a,b,u5 x a b⟩
def Zx(x:Inst)(c:List Int):List Pr:=c.flatMap (xE x c)
def jz(x:Inst)(c:List Int):List Pr:=(Zx x c).mergeSort λp q=>!wX q p
theorem ZaC{x:Inst}{c:List Int}{p:Pr}:p∈Zx x c<->p.a∈c/\p.b∈c/\p.b≠p.a/\p.s=u5 x p.a p.b:=by
 unfold Zx xE;simp only[BL,Al,Bn,decide_eq_true_eq];constructor
 ·grind
 ·rintro⟨e,hb,d,hs⟩;exact⟨p.a,e,p.b,⟨hb,d⟩,by rw[<-hs]⟩
theorem Zgi{x:Inst}{c:List Int}(h:c.Nodup):(Zx x c).Nodup:=by
 unfold Zx;unfold List.Nodup;rw[List.pairwise_flatMap]
 grind[xE,List.Pairwise.imp]
theorem ZcM{x:Inst}{c:List Int}(h:c.Nodup):Sd wX (jz x c):=Znt ZcL _ (Zgi h)
theorem JN(x:Inst)(c:List Int):(jz x c).Perm (Zx x c):=Cc _ _
theorem Znu{x:Inst}{c:List Int}(h:c.Nodup):(jz x c).length=c.length*(c.length-1):=by
 rw[(JN x c).length_eq];unfold Zx;rw[List.length_flatMap];have:c.map (λa=>(xE x c a).length)=c.map λ_=>c.length-1:=by
  refine AM λa d=>?_
  unfold xE;rw[List.length_map];have:=List.Nodup.erase_eq_filter h a;have h2:=Do d;rw[this]at h2;rw[<-h2];congr 1;refine List.filter_congr λb _=>?_
  by_cases e:b=a<;>simp[e]
 simp_all[List.map_const']
theorem Znv{x:Inst}{c:List Int}(h:c.Nodup){l:List Pr}(a:l.Perm (Zx x c))(hs:Sd wX l):l=jz x c :=
 Zgh ZcL (a.trans (JN x c).symm) hs (ZcM h)
theorem Znw{x:Inst}{c d:List Int}(hc:c.Nodup)(a:d.Nodup)(h:c.Perm d):(Zx x c).Perm (Zx x d):=by simp_all[Dg,Zgi,ZaC]
theorem Znx{x:Inst}{c d:List Int}(hc:c.Nodup)(a:d.Nodup)(h:c.Perm d):jz x c=jz x d :=
 Znv a ((JN x c).trans (Znw hc a h)) (ZcM hc)
open Go Hp
def qc:Nat->List (List Pr)->zV Int
 | _,[]=>[]
 | i,[] :: rows=>qc (i+1) rows
 | i,(p :: _) :: rows=>((i:Int),-p.s) :: qc (i+1) rows
theorem XJ:∀(rows:List (List Pr)) (i:Nat) (x:Int × Int),x∈qc i rows<->∃(k:Nat) (p:Pr) (tl:List Pr),rows[k]?=some (p :: tl)/\x=(((i+k:Nat):Int),-p.s)
 | [],i,x=>by simp[qc]
 | [] :: rows,i,x=>by
  rw[qc,XJ rows (i+1) x];constructor
  ·rintro⟨k,p,tl,h,rfl⟩;exact⟨k+1,p,tl,by simpa using h,by rw[show i+1+k=i+(k+1) by omega]⟩
  grind
 | (q :: a) :: rows,i,x=>by
  rw[qc,Au,XJ rows (i+1) x];constructor
  ·rintro(rfl | ⟨k,p,tl,h,rfl⟩)
   ·exact⟨0,q,a,rfl,rfl⟩
   ·exact⟨k+1,p,tl,by simpa using h,by rw[show i+1+k=i+(k+1) by omega]⟩
  grind
theorem ZaD:∀(rows:List (List Pr)) (i k:Nat) (p:Pr) (tl:List Pr),k<rows.length->(qc i (rows.set k (p :: tl))).Perm ((((i+k:Nat):Int),-p.s) :: qc i (rows.set k []))
 | [],_,_,_,_,h=>by simp at h
 | r :: rows,i,0,p,tl,_=>by simp[qc]
 | [] :: rows,i,k+1,p,tl,h=>by
  have:=ZaD rows (i+1) k p tl (by simpa using h)
  grind[qc]
 | (q :: a) :: rows,i,k+1,p,tl,h=>by
  have:=ZaD rows (i+1) k p tl (by simpa using h)
  grind[qc]
theorem Zny{rows:List (List Pr)}{k:Nat}{p:Pr}{tl:List Pr}(h:rows[k]?=some (p :: tl)):(qc 0 rows).Perm ((((k:Nat):Int),-p.s) :: qc 0 (rows.set k [])):=by grind[ZaD,List.set_getElem_self]
theorem ZaE:∀(rows:List (List Pr)) (i:Nat),(qc i rows).length<=rows.length
 | [],_=>by simp[qc]
 | [] :: rows,i=>by have:=ZaE rows (i+1);grind[qc]
 | (q :: a) :: rows,i=>by have:=ZaE rows (i+1);simp_all[qc]
structure Rows' (c:List Int) (rows:List (List Pr)):Prop where
 len:rows.length=c.length
 a:∀(i:Nat) r,rows[i]?=some r->∀p∈r,c[i]?=some p.a
theorem Znz{c:List Int}(hc:c.Pairwise (· < ·)){rows:List (List Pr)}(f:Rows' c rows){x:Int × Int}{r:zV Int}(hs:uC (x :: r))(b:(qc 0 rows).Perm (x :: r)):
  ∃(i:Nat) (y:Pr) (tl:List Pr),x=((i:Int),-y.s)/\rows[i]?=some (y :: tl)/\r.Perm (qc 0 (rows.set i []))/\∀(j:Nat) z d,rows[j]?=some (z :: d)->j≠i->wX y z=true:=by
 obtain⟨i,y,tl,hi,g⟩:=(XJ rows 0 x).1 (b.symm.subset Ci);rw[AS]at g;subst g;refine⟨i,y,tl,rfl,hi,(List.Perm.cons_inv ((Zny hi).symm.trans b)).symm,λj z d h k=>?_⟩;have l:(((j:Nat):Int),-z.s)∈qc 0 rows:=(XJ rows 0 _).2 ⟨j,z,d,h,by simp⟩;rcases Au.1 (b.subset l) with e | e
 ·grind
 ·have h1:=(Bk.1 hs).1 _ e;have m:=f.a i _ hi y DP;have n:=f.a j _ h z DP
  grind[il,wX,List.pairwise_iff_getElem]
open Go Hp
def jm(l:List Pr):List Int:=l.map λp=>-p.s
def uE(l:List Pr)(i:Int):Pr:=l.getD i.toNat ⟨0,0,0⟩
def wY(x:Inst)(c:List Int)(a:Int):List Pr:=(uD (jm (xE x c a))).map (uE (xE x c a))
theorem ZnA(l:List Int):(uD l).Perm ((List.range l.length).map λi:Nat=>(i:Int)):=by
 have h:=(Znm l).map (·.1);rw[BX,BX]at h;exact h
theorem ZnB(l:List Pr):((uD (jm l)).map (uE l)).Perm l:=by
 refine((ZnA _).map _).trans ?_;have:((List.range (jm l).length).map λi:Nat=>(i:Int)).map (uE l)=l:=by
  rw[BX];apply A3
  ·simp[jm]
  ·simp_all[uE]
 rw[this]
theorem ZnC{l:List Pr}(h:∀(i j:Nat) p q,i<j->l[i]?=some p->l[j]?=some q->p.a=q.a/\p.b<q.b):Sd wX ((uD (jm l)).map (uE l)):=by
 have hs:=Zno (jm l);unfold uD;rw[BX];unfold uC at hs;rw[CR]at hs;unfold Sd;rw[CR];refine List.Pairwise.imp ?_ hs;intro i j d;have hn:(jm l).length=l.length:=by simp[jm]
 have hi:i.val<l.length:=by have:=i.isLt;omega
 have c:j.val<l.length:=by have:=j.isLt;omega
 have e:l[i.val]?=some l[i.val]:=Ac hi;have f:l[j.val]?=some l[j.val]:=Ac c;have g:(jm l).getD i.val 0=-(l[i.val]).s:=by simp[jm,Aa,hi]
 have k:(jm l).getD j.val 0=-(l[j.val]).s:=by simp[jm,Aa,c]
 have m:uE l (i.val:Int)=l[i.val]:=by simp[uE,Aa,hi]
 have n:uE l (j.val:Int)=l[j.val]:=by simp[uE,Aa,c]
 grind[il,vW,wX]
theorem ZnD{x:Inst}{c:List Int}(hc:c.Pairwise (· < ·))(a:Int):∀(i j:Nat) p q,i<j->(xE x c a)[i]?=some p->(xE x c a)[j]?=some q->p.a=q.a/\p.b<q.b:=by
 have h:(xE x c a).Pairwise λp q=>p.a=q.a/\p.b<q.b:=by
  unfold xE;rw[CR];exact List.Pairwise.imp (λh=>⟨rfl,h⟩) (List.Pairwise.filter _ hc)
 grind[List.pairwise_iff_getElem]
theorem ZcN(x:Inst)(c:List Int)(a:Int):(wY x c a).Perm (xE x c a):=ZnB _
theorem ZnE{x:Inst}{c:List Int}(hc:c.Pairwise (· < ·))(a:Int):Sd wX (wY x c a):=ZnC (ZnD hc a)
theorem ZnF{x:Inst}{c:List Int}(hc:c.Pairwise (· < ·)):Rows' c (c.map (wY x c))/\(∀r∈c.map (wY x c),Sd wX r)/\(c.map (wY x c)).flatten.Perm (jz x c):=by
 refine⟨⟨by simp,λi r d p e=>?_⟩,λr d=>?_,?_⟩
 ·grind[ZcN,xE]
 ·grind[ZnE]
 ·refine List.Perm.trans ?_ (JN x c).symm;unfold Zx;rw[<-List.flatMap_def];have b:∀l:List Int,(l.flatMap (wY x c)).Perm (l.flatMap (xE x c)):=by
   intro l
   induction l with
   | nil=>simp
   | cons a l f=>grind[ZcN]
  exact b c
theorem ZnG{x:Inst}{c:List Int}(hc:c.Pairwise (· < ·)){rows:List (List Pr)}{k:Nat}(h1:Rows' c rows)(h2:∀r∈rows,Sd wX r)(h3:rows.flatten.Perm ((jz x c).drop k)){f:Int × Int}{r:zV Int}(hs:uC (f :: r))(g:(qc 0 rows).Perm (f :: r)):
  ∃(i:Nat) (y:Pr) (tl:List Pr),f=((i:Int),-y.s)/\rows[i]?=some (y :: tl)/\r.Perm (qc 0 (rows.set i []))/\(jz x c)[k]?=some y/\Rows' c (rows.set i tl)/\(∀r∈rows.set i tl,Sd wX r)/\(rows.set i tl).flatten.Perm ((jz x c).drop (k+1)):=by
 have hn:c.Nodup:=List.Pairwise.imp (λh e=>by omega) hc;obtain⟨i,y,tl,l,e2,m,n⟩:=Znz hc h1 hs g;obtain⟨o,q,t⟩:=Znr ZcL (ZcM hn) h2 h3 e2 n;refine⟨i,y,tl,l,e2,m,o,⟨by rw[BJ];exact h1.len,λj r b p d=>?_⟩,t,q⟩;rw[Bu]at b;split at b
 ·rename_i e;subst e;split at b
  ·cases b;exact h1.a i _ e2 p (Cy _ d)
  ·cases b
 ·exact h1.a j r b p d
open Go Hp
instance:Inhabited Pr:=⟨⟨0,0,0⟩⟩
instance:Enc Pr:=⟨λp=>[I p.a,I p.b,I p.s],3,λ_=>rfl,λ_=>rfl⟩
@[simp] theorem ZzO(p:Pr):Enc.enc p=[I p.a,I p.b,I p.s]:=rfl
@[simp high] theorem ZzP(l:List Pr):(l.flatMap Enc.enc).length=l.length*3:=js l
@[simp high] theorem ZzQ(l:List Pr):(l.flatMap Enc.enc).take (l.length*3)=l.flatMap Enc.enc:=Y6 l
def qQ(x:Inst):Prop:=∀a b,0<=arc x a b/\arc x a b<=2147483648
theorem ZcO{x:Inst}(h:qQ x)(a b:Int):-2147483648<=u5 x a b/\u5 x a b<=4294967296:=by
 have h1:=h (a+1) 0;have h2:=h 0 (b+1);have h3:=h (a+1) (b+1);unfold u5;omega
theorem ZnH(x:Inst)(a b:Int)(hx:qQ x)(f:qv a)(hb:qv b):Pure prog 365 [.agg (zE x),I a,I b] (I (u5 x a b)):=by
 have c:=JH f;have w2:=JH hb;have h1:=hx (a+1) 0;have h2:=hx 0 (b+1);have h3:=hx (a+1) (b+1);have d:IntKind.i64.wrap (arc x (a+1) 0+arc x 0 (b+1))=arc x (a+1) 0+arc x 0 (b+1):=wr _ DO DO;have e:IntKind.i64.wrap (arc x (a+1) 0+arc x 0 (b+1)-arc x (a+1) (b+1))=u5 x a b:=wr _ DO DO;refine zx func365 ntmps365 results365 λS nx g=>?_
 refine DY ?_;intro v0;refine ze (zD none (Row.pures [0,1,2,3,4,5,6,7,8,9,10,11,12,13,14,15,16] .done) mixed (zS c w2 d e) ?_);refine zO (vy _ _ _) (zS c w2 d e) ?_;refine zO (vy _ _ _) (zS c w2 d e) ?_;refine zO (vy _ _ _) (zS c w2 d e) ?_;exact zj (zm g rfl rfl)
open Go
theorem Zgj{vs:Array Value}(h:2=vs.size):∃u v,vs=#[u,v]:=by
 match vs,h with
 | ⟨[u,v]⟩,_=>simp
theorem ZnI{C:Ctx}{S:Store}{w:World}{v:Value}(h:Rel C S w (.sc (.slice none 0 0)) v):v=.slice none 0 0:=by cases h;rfl
theorem ZnJ(n:Nat)(h0:0<n)(hn:n<=1048576)(S:Store)(nx:Nat)(g:yd nx S):
  Spec prog 370 [.sc (.slice none 0 0),I n] S (λp S'=>∃v,p=.sl nx v 2 0 0/\S'=S.set nx (.cells v 100 [])):=by
 refine⟨qx func370 DU rfl,?_⟩;intro C w vs h hl d;obtain⟨u,v,rfl⟩:=Zgj hl;obtain rfl:=ZnI (d 0 _ u rfl rfl);obtain rfl:=JJ (d 1 _ v rfl rfl);obtain⟨i0,a⟩:=B4.1 Zcn;have f:=ZfC;have hc:=Zcm;have hb:=ZfB;simp only[Program.zeroOf,Program.cellsOf,Program.bytesOf',a,Du,A4,Option.getD_some,Option.some.injEq]at f hc hb;refine(slices_Grow_stop i0 _ a f DO n w h0 (by rw[hb];omega) DO).mono ?_;rintro e w' ⟨rfl,rfl⟩;have b:Fresh C S nx C.clock:=.clock C (g nx (Ag _));obtain⟨j,k⟩:=h.drew;obtain⟨l,m⟩:=j.object' b 100 ((#[]:Array Value)++Builtin.zeroCells (Value.agg #[.int .i64 0,.int .i64 0]).cells (0+n-0)++Builtin.zeroCells (Value.agg #[.int .i64 0,.int .i64 0]).cells (grownCap w (0+n) 0 100-(0+n))) [] DP (λi v hi=>by simp at hi) (λi p v o=>by simp at o);have c:=grownCap_ge w (0+n) 0 100;simp only[AS]at c;refine⟨_,_,_,_,rfl,⟨C.clock,rfl,rfl⟩,WI C S w _ _ _ _ _ _ _ _ rfl (Cj _) (Cj _) (grownCap_le_maxLen w _ _ _ (by unfold maxLen;omega)) ?_,l,k.trans m⟩
 grind[size_zeroCells,Value.cells]
theorem ZnK(ls:List (List Stop))(g:ls.length<=1048576)(h0:0<ls.flatten.length)(hn:ls.flatten.length<=1048576):Pure prog 350 [L ls] (L ls.flatten):=by
 refine zx func350 ntmps350 results350 λS nx h=>?_
 refine DY ?_;refine DY ?_
 repeat apply ze
 refine zg ?_;refine zn (zK (λs:Nat × Nat=>s.1<=ls.length/\s.2=(ls.take s.1).flatten.length) (λ(k,n)=>[(0,L ls),(3,I (n:Int)),(9,L ls),(10,I ls.length),(11,I k)]) (λ_=>[]) (λs=>ls.length-s.1) (0,0) [] ⟨by simp,by simp⟩ DP DP ?_);rintro⟨k,n⟩ ⟨d,ho⟩;simp only at d ho ⊢;refine DY ?_;refine ze (zA rfl (λhc=>?_) (λhc=>?_))
 ·simp at hc;obtain⟨t,tl,i,j,a3,e⟩:=zN rfl ls k hc;have a:(ls.take (k+1)).flatten.length=n+t.length:=by rw[a3,ho];simp
  have b:(ls.take (k+1)).flatten.length<=ls.flatten.length:=by
   conv=>rhs;rw[<-List.take_append_drop (k+1) ls,List.flatten_append,Am]
   omega
  have l:IntKind.i64.wrap ((n:Int)+(t.length:Nat))=(n:Int)+(t.length:Nat):=wr _ DO DO;have w2:¬((n:Int)+(t.length:Nat)<0):=DO
  refine zk (ze (zn (ze (zi [] (zq e hc) ?_))));refine ze (zi [] l ?_);refine ze (zi [] w2 ?_);refine zp rfl (zk (zg ?_));exact zu (k+1,n+t.length) [] ⟨hc,a.symm⟩ DO (by simp[zy k (by omega)]) rfl DP
 ·simp at hc;obtain rfl:k=ls.length:=DO
  rw[Ai]at ho;rw[<-ho]at h0;have f:n<=1048576:=DO
  clear ho;refine zC (DY ?_);refine λc=>((ZnJ n h0 f _ _ xB).mono ?_).v
  rintro _ _ ⟨v1,rfl,rfl⟩;refine⟨_,_,jr _,zR c ?_⟩
  repeat apply ze
  refine zg ?_;refine zn (zK (λs:Nat × List Stop × Nat=>s.1<=ls.length/\s.2.1=(ls.take s.1).flatten) (λ(k,out,v)=>[(6,.sl nx v 2 0 out.length),(25,L ls),(26,I ls.length),(27,I k)]) (λ(k,out,v)=>[.cells v 100 (out.flatMap Enc.enc)]) (λs=>ls.length-s.1) (0,[],v1) [] ⟨by simp,by simp⟩ DP DP ?_);rintro⟨k,out,v⟩ ⟨d,ho⟩;simp only at d ho ⊢;refine DY ?_;refine ze (zA rfl (λhc=>?_) (λhc=>?_))
  ·simp at hc;obtain⟨t,tl,i,j,a3,e⟩:=zN rfl ls k hc;have a:(ls.take (k+1)).flatten=out++t:=by rw[a3,ho];simp
   have b:(ls.take (k+1)).flatten.length<=ls.flatten.length:=by
    conv=>rhs;rw[<-List.take_append_drop (k+1) ls,List.flatten_append,Am]
    omega
   rw[a]at b;simp only[Am]at b;refine zk (ze (zn (ze (zi [] (zq e hc) ?_))));refine zg ?_;refine⟨by omega,?_⟩;refine zg ?_;exact zu (k+1,out++t,v+1) [] ⟨hc,a.symm⟩ DO (by simp[zy k (by omega)]) rfl DP
  ·simp at hc;obtain rfl:k=ls.length:=DO
   rw[Ai]at ho;refine zC (yh 0 rfl ?_);refine DY ?_;exact zj (zm h DQ (by simp[zr,ho]))
open Go Hp
def Zy(T:zt)(c:Int):Nat:=T.findIdx λt=>t.any λs=>decide (s.c=c)
def QQ(a:zU):Option Int:=a[a.length-1]?.map (·.c)
def JO(b:zU):Option Int:=b[0]?.map (·.c)
def qS(x:Inst)(num:Int)(p:Pr)(i k:Nat)(a b:zU):Bool :=
 decide (i≠k) && decide (QQ a=some p.a) && decide (JO b=some p.b) && !(decide (p.s<=0) && decide (num<=x.veh)) && decide (yc x (a++b)=0)
def W3(x:Inst)(st:zt × Int)(p:Pr)(i k:Nat):zt × Int :=
 bif qS x st.2 p i k (st.1.getD i []) (st.1.getD k []) then ((st.1.set i (st.1.getD i []++st.1.getD k [])).set k [],st.2-1) else st
def jE(x:Inst)(st:zt × Int)(p:Pr):zt × Int:=W3 x st p (Zy st.1 p.a) (Zy st.1 p.b)
def ZcP(x:Inst)(ss:List Stop):zt × Int:=(jz x (ss.map (·.c))).foldl (jE x) (ss.map λs=>[s],(ss.length:Int))
def vB(x:Inst)(ss:List Stop):zt:=(ZcP x ss).1.filter λt=>!t.isEmpty
structure JI (ss:List Stop) (T:zt) (g:Int->Option Int):Prop where
 len:T.length=ss.length
 perm:T.flatten.Perm ss
 g:∀(i:Nat) t s,T[i]?=some t->s∈t->g s.c=some (i:Int)
theorem JI.place{ss:List Stop}{T:zt}{g:Int->Option Int}(h:JI ss T g){i:Nat}{t:zU}{s:Stop}(hi:T[i]?=some t)(hs:s∈t):Zy T s.c=i:=by
 have b:∃t∈T,(t.any λs'=>decide (s'.c=s.c))=true:=⟨t,Ab hi,B8.2 ⟨s,hs,by simp⟩⟩;have a:Zy T s.c<T.length:=List.findIdx_lt_length_of_exists b;have d:=List.findIdx_getElem (w:=a);obtain⟨s',h1,h2⟩:=B8.1 d;have e:s'.c=s.c:=by simpa using h2
 have f:=h.g (Zy T s.c) _ s' (Ac a) h1;have e2:=h.g i t s hi hs
 grind
theorem JI.there{ss:List Stop}{T:zt}{g:Int->Option Int}(h:JI ss T g){c:Int}(hc:c∈ss.map (·.c)):∃(i:Nat) (t:zU) (s:Stop),T[i]?=some t/\s∈t/\s.c=c/\g c=some (i:Int)/\Zy T c=i:=by
 obtain⟨s,hs,rfl⟩:=Al.1 hc;obtain⟨t,b,a⟩:=Bt.1 (h.perm.symm.subset hs);obtain⟨i,hi⟩:=Bi.1 b;exact⟨i,t,s,hi,a,rfl,h.g i t s hi a,h.place hi a⟩
theorem W4{T:zt}:∀{i:Nat} {a:zU},T[i]?=some a->T.flatten.Perm (a++(T.set i []).flatten):=by
 induction T with
 | nil=>simp
 | cons t T b =>
  intro i a h;cases i<;>grind
theorem ZnL{T:zt}{i:Nat}(b:zU)(h:i<T.length):(T.set i b).flatten.Perm (b++(T.set i []).flatten):=by
 have:=W4 (T:=T.set i b) (i:=i) (a:=b) (by simp[h])
 simp_all
theorem ZnM{T:zt}{i k:Nat}{a b:zU}(hi:T[i]?=some a)(f:T[k]?=some b)(c:i≠k):((T.set i (a++b)).set k []).flatten.Perm T.flatten:=by
 have d:=(Ad.1 hi).1;rw[List.set_comm _ _ c];have h1:=ZnL (T:=T.set k []) (i:=i) (a++b) (by simpa using d);have h2:=W4 f;have h3:=W4 (T:=T.set k []) (i:=i) (a:=a) (by rw[AZ (λe=>c e.symm)];exact hi)
 grind
def QR(g:Int->Option Int)(b:zU)(i:Nat)(j:Nat):Int->Option Int:=λc=>if c∈(b.take j).map (·.c) then some (i:Int) else g c
theorem ZnN(g:Int->Option Int)(b:zU)(i:Nat):QR g b i 0=g:=by funext c;simp[QR]
theorem ZnO{g:Int->Option Int}{b:zU}{i j:Nat}{s:Stop}(h:b.take (j+1)=b.take j++[s]):jt (QR g b i j) s.c (some (i:Int))=QR g b i (j+1):=by grind[jt,QR]
theorem JI.join{ss:List Stop}{T:zt}{g:Int->Option Int}(h:JI ss T g){i k:Nat}{a b:zU}(hi:T[i]?=some a)(f:T[k]?=some b)(j:i≠k):JI ss ((T.set i (a++b)).set k []) (QR g b i b.length):=by
 have l:=(Ad.1 hi).1;have o:=(Ad.1 f).1;refine⟨by simp[h.len],(ZnM hi f j).trans h.perm,λm t s d hs=>?_⟩;unfold QR;rw[Ai]
 by_cases p:k=m
 ·simp_all
 ·rw[AZ p]at d
  by_cases e2:i=m
  ·subst e2;rw[AW l]at d;cases d
   by_cases e:s.c∈b.map (·.c)
   ·rw[if_pos e]
   ·rw[if_neg e];rcases AB.1 hs with hs | hs
    ·exact h.g i a s hi hs
    grind
  ·rw[AZ e2]at d;have h1:=h.g m t s d hs;rw[if_neg]
   ·exact h1
   ·intro e;obtain⟨s',n,q⟩:=Al.1 e;have h2:=h.g k b s' f n
    grind
theorem JI.nil:JI [] [] (λ_=>none):=⟨rfl,.refl _,λi t s h=>by simp at h⟩
theorem JI.snoc{ss:List Stop}{T:zt}{g:Int->Option Int}(h:JI ss T g)(s:Stop)(hs:s.c ∉ ss.map (·.c)):JI (ss++[s]) (T++[[s]]) (jt g s.c (some (ss.length:Int))):=by
 refine⟨by simp[h.len],by simpa using h.perm.append_right [s],λi t s' b a=>?_⟩;unfold jt;rcases Bh i T.length with hl | hl
 ·rw[As hl]at b;have h1:s'∈ss:=h.perm.subset (Bt.2 ⟨t,Ab b,a⟩);rw[if_neg]
  ·exact h.g i t s' b a
  simp_all
 ·rw[Ak hl]at b;have hi:i-T.length=0:=by
   have:=(Ad.1 b).1;simp at this;omega
  rw[hi]at b;simp at b;subst b;simp at a;subst a;rw[if_pos rfl,<-h.len]
  grind
open Go Hp
theorem ZaF{P:Program}{r:Rd}{n N:Nat}{Q:Exit->(Nat->PV)->Store->Prop}{F:Nat->PV}{c:Code}{T:Store}{o ver d:Nat}{cs:List PV}(i:Nat)(hs:T o=.cells ver d cs)(hi:cs[i]?=some (.sc (.slice none 0 0)))
  (h:PW P r n N c Q F (T.set o (.cells ver d (cs.set i (.lst 0 []))))):PW P r n N c Q F T:=by
 refine Y1 (F':=F) (S':=T.set o (.cells ver d (cs.set i (.lst 0 [])))) (λC w a st=>?_) h;have:=st.sim.relabel (cs':=cs.set i (.lst 0 [])) hs DP (by
  intro k f b;rw[Bu]at b;split at b
  ·rename_i e;subst e;split at b
   ·cases b;refine .inr ⟨_,hi,λv hv=>?_⟩;cases hv;exact .lst0
   ·cases b
  ·exact .inl b)
 exact⟨C,⟨this.1,st.size,λk=>(st.fr k).mono this.2,r.keep this.2 st.v⟩,this.2⟩
abbrev XK(x:Inst)(tid tv n:Nat)(num:Int)(mid mv:Nat):List PV:=[I x.days,I x.veh,I x.cap,I x.len,L x.cust,L x.dist,.sl tid tv 1 0 n,I num,.mp mid mv]
theorem ZcQ(cs:List PV)(k:Nat)(x:PV)(h:k<cs.length):yk cs k [x]=cs.set k x:=by simp_all[yk,AE]
theorem Zgk(T:zt):T.flatMap Enc.enc=T.map λt=>L t:=by induction T<;>simp_all
theorem qi{S:Store}{nx id:Nat}{o:Ob}(a:yd nx S)(h:S id=o)(b:o≠.dead):id<nx:=by
 rcases Bh id nx with q | q
 ·exact q
 ·rw[a id q]at h;simp_all
theorem ZnP(x:Inst)(ss:List Stop)(T:zt)(g:Int->Option Int)(d:Int)(es:List (Value × PV)){S:Store}{jid jv tid tv mid mv:Nat}(hx:x.cust.length<=1048576)(i6:ss.length<=1000)(h6:-1048576<=d/\d<=1048576)(hI:JI ss T g)(hm:MapIs jl I es g)
  (hj:S jid=.cells jv 387 (XK x tid tv ss.length d mid mv)) (ht:S tid=.cells tv 40 (T.flatMap Enc.enc)) (f:S mid=.map mv es) (d1:jid≠tid) (d2:jid≠mid) (d3:tid≠mid)
  (p:Pr) (e8:p.a∈ss.map (·.c)) (e9:p.b∈ss.map (·.c)) :
  Spec prog 332 [.ptr jid jv 0,.agg [I p.a,I p.b,I p.s]] S (λ_ S'=>∃es' g',MapIs jl I es' g'/\JI ss (jE x (T,d) p).1 g' /\
   S'=((S.set jid (.cells jv 387 (XK x tid tv ss.length (jE x (T,d) p).2 mid mv))).set tid (.cells tv 40 ((jE x (T,d) p).1.flatMap Enc.enc))).set mid (.map mv es')):=by
 obtain⟨i,a,sa,n,f0,h7,f2,f3⟩:=hI.there e8;obtain⟨k,b,sb,r,d8,h8,f5,f6⟩:=hI.there e9;have t:KeyOk (.int .i64) jl:=JK .i64;obtain⟨ra,d9,i7,f7,i8,j0⟩:=hm.find t p.a;obtain⟨rb,e2,j1,f8,j2,j3⟩:=hm.find t p.b;obtain⟨ja,rfl⟩:=f7 _ f2;obtain⟨jb,rfl⟩:=f8 _ f5;refine yt func332 ntmps332 results332 λnx hd=>?_
 have b8:jid<nx:=qi hd hj DP;have a0:tid<nx:=qi hd ht DP;have c6:mid<nx:=qi hd f DP;have xj:=λobs=>zJ (S:=S) (obs:=obs) b8
 have xt:=λobs=>zJ (S:=S) (obs:=obs) a0
 have xm:=λobs=>zJ (S:=S) (obs:=obs) c6
 refine DY ?_;intro v0;have f9:=(Ad.1 n).1;have g0:=(Ad.1 r).1;have g1:T.getD i []=a:=by rw[Aa,n];rfl
 have g2:T.getD k []=b:=by rw[Aa,r];rfl
 have a5:jE x (T,d) p=bif qS x d p i k a b then ((T.set i (a++b)).set k [],d-1) else (T,d):=by
  unfold jE W3;simp only[f3,f6,g1,g2]
 have h:qS x d p i k a b=false->∃es' g',MapIs jl I es' g'/\JI ss (jE x (T,d) p).1 g' /\
   S=((S.set jid (.cells jv 387 (XK x tid tv ss.length (jE x (T,d) p).2 mid mv))).set tid (.cells tv 40 ((jE x (T,d) p).1.flatMap Enc.enc))).set mid (.map mv es'):=by
  intro hc;rw[a5,hc];refine⟨es,g,hm,hI,?_⟩;simp only[cond_false];rw[XF S jid _ hj,XF S tid _ ht,XF S mid _ f]
 have h9:a.length<=1000:=by
  have h1:=(W4 n).length_eq;have h2:=hI.perm.length_eq;rw[Am]at h1;omega
 have i5:b.length<=1000:=by
  have h1:=(W4 r).length_eq;have h2:=hI.perm.length_eq;rw[Am]at h1;omega
 obtain⟨m,u⟩:∃m,a.length=m+1:=⟨a.length-1,by cases a with | nil=>cases f0 | cons _ _=>simp⟩;have j4:0<b.length:=by cases b with | nil=>cases d8 | cons _ _=>simp
 obtain⟨la,k4,g3,k5,k6,c7,c8⟩:=el 2 rfl a m DO;obtain⟨fb,b',a4⟩:∃fb b',b=fb :: b':=by cases b with | nil=>cases d8 | cons x y=>simp
 have a6:QQ a=some la.c:=by unfold QQ;rw[u,B5,g3];rfl
 have v:JO b=some fb.c:=by rw[a4];rfl
 obtain⟨ai,k7,i1,i2,i3,i0⟩:=zN rfl T i f9;rw[n]at i1;cases i1;obtain⟨bk,k8,k1,k2,k3,k0⟩:=zN rfl T k g0;rw[r]at k1;cases k1;have d0:=hI.len;have a7:i<ss.length:=DO
 have a8:k<ss.length:=DO
 refine ze (qy (nx:=nx) (σ:=Unit) (λ_=>True) (λ_=>[(0,.ptr jid jv 0),(3,.ptr nx v0 0),(4,I i),(5,I k)]) (λ_=>S) (λ_=>[.cells v0 392 [I p.a,I p.b,I p.s]]) ?_ ?_)
 ·repeat apply ze
  refine zD none (Row.pures [0,1,2,3,4,5,7,8,9,10,11,12] (.alt 6 (Row.pures [14] (.alt 13 (Row.pures [15] .done) .stop)) (.alt 13 (.alt 6 (Row.pures [14,15] .done) .stop) .stop))) mixed (zW xj xt xm hj ht f) ?_;refine⟨?_,?_⟩
  ·refine⟨by rfl,(ZP rfl underlying384 underlying3 rfl rfl rfl ((xm _).trans f) d9 z3 ?_)⟩;refine⟨by simp,jY trivial ?_⟩;refine⟨by rfl,(ZP rfl underlying384 underlying3 rfl rfl rfl ((xm _).trans f) e2 z3 ?_)⟩;refine⟨by simp,jY trivial ?_⟩;exact zZ () [] trivial (by simp[Yn]) rfl DP
  ·refine⟨by rfl,(ZP rfl underlying384 underlying3 rfl rfl rfl ((xm _).trans f) e2 z3 ?_)⟩;refine⟨by simp,jY trivial ?_⟩;refine⟨by rfl,(ZP rfl underlying384 underlying3 rfl rfl rfl ((xm _).trans f) d9 z3 ?_)⟩;refine⟨by simp,jY trivial ?_⟩;exact zZ () [] trivial (by simp[Yn]) rfl DP
 intro _ _;refine ze (zD none (Row.pures [0,1,2,3,4,5,6,7,8,9,10,11,12,13,14,15] .done) mixed (zW xj xt hj ht i0 (zS k0 a7 a8 d0)) ?_);have wm:IntKind.i64.wrap (m:Int)=m:=wr _ DO DO;have k9:m<a.length:=DO
 refine ze (qy (nx:=nx) (σ:=Unit) (λ_=>¬i=k/\la.c=p.a/\fb.c=p.b) (λ_=>[(0,.ptr jid jv 0),(3,.ptr nx v0 0),(4,I i),(5,I k),(6,L a),(7,L b)]) (λ_=>S) (λ_=>[.cells v0 392 [I p.a,I p.b,I p.s]]) ?_ ?_)
 ·by_cases h1:i=k
  ·have hc:qS x d p i k a b=false:=by simp[qS,h1]
   refine ze (zD none (Row.pures [0,1,2,3,4,5,6,7,8,9,10,11,12,13,14,15,16,17,18,19,20,21,22,23] .done) mixed (zq h1 zB) ?_);exact zo rfl (zj ⟨_,S,rfl,h hc,yb hd⟩)
  have d4:¬(i:Int)=(k:Int):=DO
  have d5:(m:Int)<(m:Int)+1:=DO
  by_cases h2:la.c=p.a
  case neg =>
   have hc:qS x d p i k a b=false:=by simp[qS,a6,h2]
   refine ze (zD none (Row.pures [0,1,2,3,4,5,6,7,8,9,10,11,12,13,14,15,16,17,18,19,20,21,22,23] .done) mixed (zW d4 h2 u wm d5 (zF c7 c8 zB)) ?_);exact zo rfl (zj ⟨_,S,rfl,h hc,yb hd⟩)
  by_cases h3:fb.c=p.b
  case neg =>
   have hc:qS x d p i k a b=false:=by simp[qS,v,h3]
   refine ze (zD none (Row.pures [0,1,2,3,4,5,6,7,8,9,10,11,12,13,14,15,16,17,18,19,20,21,22,23] .done) mixed (zW d4 h2 h3 u wm (yr d5 c7 c8 a4 zB)) ?_);exact zo rfl (zj ⟨_,S,rfl,h hc,yb hd⟩)
  refine ze (zD none (Row.pures [0,1,2,3,4,5,6,7,8,9,10,11,12,13,14,15,16,17,18,19,20,21,22,23] .done) mixed (zW d4 h2 h3 u wm (yr d5 c7 c8 a4 zB)) ?_);exact zp rfl (zk (zZ () [] ⟨h1,h2,h3⟩ (by simp[u,a4]) rfl DP))
 rintro _ ⟨h1,h2,h3⟩;have l0:-9223372036854775808<=d:=DO
 refine ze (qy (nx:=nx) (σ:=Unit) (λ_=>¬(p.s<=0/\d<=x.veh)) (λ_=>[(0,.ptr jid jv 0),(3,.ptr nx v0 0),(4,I i),(5,I k),(6,L a),(7,L b)]) (λ_=>S) (λ_=>[.cells v0 392 [I p.a,I p.b,I p.s]]) ?_ ?_)
 ·by_cases h4:p.s<=0
  ·by_cases z:d<=x.veh
   ·have hc:qS x d p i k a b=false:=by simp[qS,h4,z]
    refine ze (zD none (Row.pures [0,1,2,3,4,5,6,7,8,9,10,11,12,13,14] .done) mixed (yr xj hj h4 z zB) ?_);exact zo rfl (zj ⟨_,S,rfl,h hc,yb hd⟩)
   ·refine ze (zD none (Row.pures [0,1,2,3,4,5,6,7,8,9,10,11,12,13,14] .done) mixed (yr xj hj h4 z zB) ?_);exact zp rfl (zk (zZ () [] DO DP rfl DP))
  ·refine ze (zD none (Row.pures [0,1,2,3,4,5,6,7,8,9,10,11,12,13,14] .done) mixed (zq h4 zB) ?_);exact zp rfl (zk (zZ () [] DO DP rfl DP))
 intro _ h4;have a9:=ZnK [a,b] DP DT DT;rw[show [a,b].flatten=a++b from by simp]at a9;refine DY ?_;refine zv a9 ?_;refine ze (qy (nx:=nx) (σ:=Unit) (λ_=>yc x (a++b)=0) (λ_=>[(0,.ptr jid jv 0),(3,.ptr nx v0 0),(4,I i),(5,I k),(6,L a),(7,L b),(8,L (a++b))]) (λ_=>S) (λ_=>[.cells v0 392 [I p.a,I p.b,I p.s]]) ?_ ?_)
 ·refine ze (zi [] (zq xj hj) ?_);refine zv (WX x (a++b) hx DT) ?_
  by_cases z:yc x (a++b)=0
  ·repeat apply ze
   refine zp (by simp[z]) ?_;exact zk (zZ () [] z DP rfl DP)
  ·have hc:qS x d p i k a b=false:=by simp[qS,z]
   refine zo (by simp[z]) ?_;exact zj ⟨_,S,rfl,h hc,yb hd⟩
 intro _ z;have g4:(decide (p.s<=0) && decide (d<=x.veh))=false:=Bool.eq_false_iff.2 λq=>h4 (by simpa using q)
 have d6:qS x d p i k a b=true:=by unfold qS;rw[g4,a6,v,h2,h3,z];simp[h1]
 rw[a5,d6];simp only[cond_true];have yj:=λ(o:Ob) obs=>(zJ (S:=S.set mid o) (obs:=obs) b8).trans ((q10 _ _ _ _ d2).trans hj)
 have ym:=λ(o:Ob) obs=>(zJ (S:=S.set mid o) (obs:=obs) c6).trans (q11 _ _ _)
 repeat apply ze
 refine zg ?_;refine zn (jX (σ:=Nat × List (Value × PV)) (λs=>s.1<=b.length/\MapIs jl I s.2 (QR g b i s.1)) (λs=>[(0,.ptr jid jv 0),(4,I i),(5,I k),(8,L (a++b)),(90,L b),(91,I b.length),(92,I s.1)]) (λs=>S.set mid (.map mv s.2)) (λ_=>[.cells v0 392 [I p.a,I p.b,I p.s]]) (λs=>b.length-s.1) (zZ (0,es) [] ⟨by simp,by rw[ZnN];exact hm⟩ DP (XF S mid _ f) DP) ?_);rintro⟨j,e3⟩ ⟨g5,w⟩;simp only at g5 w ⊢;refine DY ?_;refine ze (zA rfl (λhq=>?_) (λhq=>?_))
 ·simp at hq;obtain⟨s,tl,a1,a2,a3,e1,e0⟩:=el 2 rfl b j hq;obtain⟨rs,f1,_,_,f4,_⟩:=w.find t s.c;have b7:=f4 (i:Int);rw[ZnO a3]at b7;refine zk (ze (zn (ze (zi [] (zF e1 e0 hq) ?_))));intro v1;refine zD (some [jid,nx+1]) (Row.pures [0,1,2,3,4,5,6] (.alt 7 (.done) .stop)) mixed yj ?_;refine⟨by rfl,(Y3 (.inl rfl) underlying384 underlying3 rfl rfl rfl (ym _ _) f1 ?_)⟩;rw[qq _ c6,Store.set_set];refine⟨by simp[yR,yj],jY trivial ?_⟩;refine zg ?_;exact zu (j+1,jq (jl s.c) (I i) e3 rs) [_] ⟨hq,b7⟩ DO (by simp[zy j (by omega)]) rfl DQ
 ·simp at hq;obtain rfl:j=b.length:=DO
  refine zC ?_;have g6:=λ(o:Ob) obs=>(zJ (S:=S.set mid o) (obs:=obs) a0).trans ((q10 _ _ _ _ d3).trans ht)
  have e4:=λ(o o':Ob) obs=>(zJ (S:=(S.set mid o).set tid o') (obs:=obs) a0).trans (q11 _ _ _)
  have e5:=λ(o o':Ob) obs=>(zJ (S:=(S.set mid o).set tid o') (obs:=obs) b8).trans ((q10 _ _ _ _ d1).trans ((q10 _ _ _ _ d2).trans hj))
  have d7:(T.flatMap Enc.enc).length=ss.length:=by rw[xD,d0]
  have g7:=ZcQ (T.flatMap Enc.enc) i (L (a++b)) DO;have g8:=ZcQ ((T.flatMap Enc.enc).set i (L (a++b))) k (.sc (.slice none 0 0)) DT;have e6:¬nx<=tid:=DO
  have e7:¬nx<=jid:=DO
  have wn:IntKind.i64.wrap (d-1)=d-1:=wr _ DO DO;refine ze (zD (some [jid]) (Row.pures [0,1,2,3,4,5,6,7,8,9,10,11] (.alt 12 (Row.pures [13] (.alt 14 (.done) .stop)) .stop)) mixed (zW yj g6 e4 e5 g7 (zW g8 a7 a8 d7 e6 d0)) ?_);refine⟨by omega,by omega,?_⟩;have g9:((((T.flatMap Enc.enc).set i (L (a++b))).set k (.sc (.slice none 0 0))).set k (.lst 0 []))=((T.set i (a++b)).set k []).flatMap Enc.enc:=by
   rw[List.set_set,Zgk,Zgk,List.map_set,List.map_set];rfl
  refine ZaF (o:=tid) k (e4 _ _ _) (by rw[AW (by simp;omega)]) ?_;rw[qq _ a0,Store.set_set,g9];generalize ((T.set i (a++b)).set k []).flatMap Enc.enc=cs' at *;refine zi [] (zF e5 e7 wn) ?_;have e1:∀(o o' l:Ob),((S.set mid o).set tid o').set jid l=((S.set jid l).set tid o').set mid o:=by
   intro o o' l;rw[Store.set_comm _ jid tid _ _ (λe=>d1 e.symm),Store.set_comm _ jid mid _ _ (λe=>d2 e.symm),Store.set_comm _ tid mid _ _ (λe=>d3 e.symm)]
  rw[e1];have h0:∀(o o' l:Ob),yd nx (((S.set jid l).set tid o').set mid o):=by
   intro o o' l q hq;rw[q10 _ _ _ _ DO,q10 _ _ _ _ DO,q10 _ _ _ _ DO];exact hd q hq
  exact⟨_,_,rfl,⟨e3,_,w,hI.join n r h1,rfl⟩,yb (h0 _ _ _)⟩
open Go Go.Shelf Go.RowKit Go.Lib Go.Sort
def Se:Store:=λ_=>.dead
def Ce:Ctx:=⟨λ_=>none,0,0⟩
theorem ZnQ(w:World):Sim Ce Se w :=
 ⟨λ_ h=>absurd rfl h,(λ_ _ h=>by cases h),λ_ _ _ _ _ h=>absurd rfl h,(λ_ _ _ _ h=>by cases h),(λ_ _ _ h=>by cases h)⟩
theorem ZcR(b:Nat):¬Ce.M Se b:=by rintro⟨o,k,h,_⟩;exact h rfl
inductive Fz:PV->Prop where
 | junk:Fz .junk
 | sc (v:Value):Fz (.sc v)
 | agg {cs:List PV} (h:∀p∈cs,Fz p):Fz (.agg cs)
 | lst {n:Nat} {cs:List PV} (h:∀p∈cs,Fz p):Fz (.lst n cs)
 | ip {cs:List PV} (h:∀p∈cs,Fz p):Fz (.ip cs)
theorem ZnR{C:Ctx}{S:Store}{w:World}{p:PV}{v:Value}(h:Rel C S w p v):Fz p->Rel Ce Se w p v:=by
 induction h with
 | junk v=>intro _;exact .junk v
 | sc v=>intro _;exact .sc v
 | agg hl h1 _ b=>intro a;cases a with | agg a=>exact .agg hl h1 λi c v hc hv=>b i c v hc hv (a c (Ab hc))
 | tup hl _ b=>intro a;cases a
 | lst0=>intro _;exact .lst0
 | lst1 hn hm hb hM hs h1 _ b=>intro a;cases a with | lst a=>exact .lst1 hn hm hb (ZcR _) hs h1 λi c v hc hv=>b i c v hc hv (a c (Ab hc))
 | ip hb hM hs h1 _ b=>intro a;cases a with | ip a=>exact .ip hb (ZcR _) hs h1 λi c v hc hv=>b i c v hc hv (a c (Ab hc))
 | nl0=>intro a;cases a
 | nl _ _ _ _ _ _ _=>intro a;cases a
 | ptr _ _ _=>intro a;cases a
 | sl _ _ _=>intro a;cases a
 | fn _ _ _ _ _ _=>intro a;cases a
 | ifc _ _=>intro a;cases a
 | mp _ _ _=>intro a;cases a
theorem ZnS{W w':World}{C':Ctx}{S':Store}(h:Step Ce Se W C' S' w'):∃q os',w'=grow (W.drewN q) os':=by
 obtain⟨p,a⟩:=regrown_of_below (w:=W) (w':=w') ⟨h.os,h.tape.1,h.output,h.size,λb hb=>(h.blocks b hb (ZcR b)).1⟩;have c:=h.tape.2;rw[a]at c;refine⟨p.d-W.drawn,p.os,?_⟩
 simp_all[grow,redrawn,World.drewN]
section
variable {P:Program} {α:Type} [Inhabited α] {val:α->Int}
theorem ZnT{C:Ctx}{S:Store}{w:World}{x:Int}{v:Value}(h:Rel C S w (I x) v):v=.int .i64 x:=by cases h;rfl
abbrev vE(val:α->Int)(x:α):Value:=.int .i64 (val x)
theorem ZnU{g:Nat}{a:List PV}{j:α->α->Int}(k:∀x y:α,Pure P g (I (val x) :: I (val y) :: a) (I (j x y)))(f:Array Value)(hl:a.length=f.size){w:World}{b size:Nat}
  (n:∀(m:Nat) (os:Array Obj) (h:Array α),h.size=size->∀(i:Nat) (c:PV) (v:Value),a[i]?=some c->f[i]?=some v->Rel Ce Se (sortWorld (vE val) w b 0 m h os) c v):CmpLays1 P g f (vE val) j b 0 size w:=by
 intro m os h hs x y;refine((k x y Se).2 Ce (sortWorld (vE val) w b 0 m h os) (#[vE val x,vE val y]++f) (ZnQ _) DT ?_).mono ?_
 ·intro i c v hc hv
  match i with
  | 0=>rw[Bq DP]at hv;cases hc;cases hv;exact .sc _
  | 1=>rw[Bq DP]at hv;cases hc;cases hv;exact .sc _
  | i+2 =>
   grind
 ·rintro e w' ⟨p,v,S',C',rfl,⟨rfl,rfl⟩,d,_,l⟩;cases d
  grind[ZnS]
theorem Zgl{C:Ctx}{S:Store}{w:World}(r:Sim C S w){id ver e b k:Nat}{g:List PV}{c:Array Value}(hid:S id=.cells ver e g)(g1:C.loc id=some (b,k))(o:w.heap[b]?=some (.cells c e (0,0)))(g3:c.size=k)(a:Array α)(h:a.size<=k)(q:Nat)(os:Array Obj):
  Sim (C.at id ver (C.loc id)) (S.set id (.cells ver e (a.toList.map λx=>I (val x)))) (sortWorld (vE val) w b 0 q a os) /\
  Step C S w (C.at id ver (C.loc id)) (S.set id (.cells ver e (a.toList.map λx=>I (val x)))) (sortWorld (vE val) w b 0 q a os):=by
 have hb:b<w.heap.size:=qN o;have s:(sortWorld (vE val) w b 0 q a os).heap[b]?=some (.cells (putCells (vE val) 0 a c) e (0,0)):=by
  unfold sortWorld;rw[heap_grow_old _ _ (by simpa using hb)];simp[putRow,mapBlock,Sort.ahead,BB,o,onCells]
 have t:w.grownBy (sortWorld (vE val) w b 0 q a os) (some b):=by
  refine⟨rfl,rfl,rfl,by simp[sortWorld],λj u m=>?_⟩;unfold sortWorld;rw[heap_grow_old _ _ (by simpa using u)];have:b≠j:=λe=>m (by rw[e])
  simp[putRow,mapBlock,Sort.ahead,BB,this]
 have d:∀i,i<a.size->∀v,(putCells (vE val) 0 a c)[i]?=some v->v=vE val a[i]!:=by
  intro i hi v hv;have n:i<c.size:=DO
  simp[putCells,hi,n]at hv;rw[<-hv,getElem!_pos a i hi]
 refine r.turn (l:=C.loc id) (ver':=ver) (cs':=a.toList.map λx=>I (val x)) hid (Ag _) (λ_=>rfl) ⟨by simp_all,C8 _ _⟩
  (.inr ⟨b,k,_,g1,.inr (by rw[g1];rfl),s,by simp_all[putCells],by simpa using h,λi v hi hv=>?_,λi p v f hv=>?_⟩)
 ·rw[d i (by simpa using hi) v hv];rfl
 ·have hi:i<a.size:=by have:=(Ad.1 f).1;simpa using this
  rw[d i hi v hv];rw[Aj,Array.getElem?_toList,AY hi]at f;simp only[A4,Option.some.injEq]at f;rw[<-f,getElem!_pos a i hi];exact .sc _
theorem ZnV{ρ:Ren}(L:SlLaysF.n6 P ρ)(d:qC P (ρ.f 6)){S:Store}{id ver:Nat}{f:PV}:Spec P (ρ.f 6) [.sl id ver 1 0 0,f] S (λp S'=>S'=S):=by
 refine⟨d,?_⟩;intro C w vs g hl h;obtain⟨v0,v1,rfl⟩:∃v0 v1,vs=#[v0,v1]:=by
  match vs,hl with
  | ⟨[a,b]⟩,_=>simp
 have c:=h 0 _ v0 rfl rfl;cases c with
 | sl h1 h2 h3 =>
  obtain⟨a,cap,rfl,i,j,k,l⟩:=h1;refine(AnyF.slices_SortFunc_none { L with } a cap _ w).mono ?_;rintro e w' ⟨rfl,rfl⟩;exact⟨.junk,_,S,C,rfl,rfl,.junk _,g,.refl _ _ _⟩
theorem ZnW{ρ:Ren}(L:SlLaysF.n6 P ρ)(hE:qC P (ρ.f 6)){S:Store}{id ver e:Nat}(zs:List α)(hid:S id=.cells ver e (zs.map λx=>I (val x)))(hn:zs.length<=1048576)
  {g:Nat} (hG:qC P g) {d:List PV} (hz:∀p∈d,Fz p) (l:α->α->Int) (hO:SWO (ltOf l)) (hT:∀x y,(ltOf l) x y=false->(ltOf l) y x=false->x=y)
  (hg:∀x y:α,Pure P g (I (val x) :: I (val y) :: d) (I (l x y))) :
  Spec P (ρ.f 6) [.sl id ver 1 0 zs.length,.fn (.func g) [] d] S (λp S'=>S'=S.set id (.cells ver e ((zs.mergeSort λx y=>!(ltOf l) y x).map λx=>I (val x)))):=by
 refine⟨hE,?_⟩;intro C w vs q hl z;obtain⟨v0,v1,rfl⟩:∃v0 v1,vs=#[v0,v1]:=by
  match vs,hl with
  | ⟨[a,b]⟩,_=>simp
 have s:=z 0 _ v0 rfl rfl;have t:=z 1 _ v1 rfl rfl;cases t with
 | @fn _ _ _ fv cv hf hc a2 o =>
 obtain rfl:fv=#[]:=DW
 cases s with
 | sl h1 h2 h3 =>
  obtain⟨a,cap,rfl,q1,q2,q3,q4⟩:=h1
  by_cases h0:zs=[]
  ·subst h0;refine(AnyF.slices_SortFunc_none { L with } a cap _ w).mono ?_;rintro e w' ⟨rfl,rfl⟩;refine⟨.junk,_,S,C,rfl,?_,.junk _,q,.refl _ _ _⟩
   grind[Store.set,List.mergeSort_nil]
  ·have a0:0<zs.length:=Bs.2 h0;rcases q.cells id ver _ _ hid with ⟨a3,a1⟩ | ⟨b,k,c,g1,r,g3,g4,g5,g6⟩
   ·simp_all
   ·have ha:a=some ⟨b,0,none⟩:=by
     rcases (h3 ver (by rw[hid];rfl)).2 rfl with ⟨z1,_⟩ | ⟨b',k',a',cap',z1,z2,z3,z4⟩
     ·omega
     ·grind
    subst ha;rw[List.length_map]at g4 g5;have h:∀i (hi:i<zs.length),c[i]?=some (vE val zs[i]):=by
     intro i hi;have a4:i<c.size:=DO
     have e1:(zs.map λx=>I (val x))[i]?=some (I (val zs[i])):=by simp[hi]
     have e2:c[i]?=some c[i]:=DP
     rw[e2,ZnT (g6 i _ _ e1 e2)]
    have hH:Holds (vE val) w b 0 zs.toArray:=by
     intro j hj;have u:j<zs.length:=by simpa using hj
     refine⟨?_,by grind[World.frozen?]⟩;simp only[World.cell?,r,AS,CI,AT,if_false];rw[h j u,getElem!_pos zs.toArray j hj];simp
    have n:CmpLays1 P g cv (vE val) l b 0 zs.toArray.size w:=by
     refine ZnU hg cv DO λm os dk hs i p v hp hv=>?_
     obtain⟨_,st⟩:=Zgl (val:=val) q hid g1 r g3 dk (by rw[hs];omega) m os;exact ZnR ((o i p v hp hv).mono st) (hz p (Ab hp))
    have hk:=Any.slices_SortFunc_total L (vE val) (λ_=>rfl) l hO g cv b 0 cap zs.toArray w hG n hH (qN r) DT hT;simp only[BP]at hk;refine hk.mono ?_;rintro e w' ⟨rfl,m,os,rfl⟩;obtain⟨t1,t2⟩:=Zgl (val:=val) q hid g1 r g3 (zs.mergeSort λx y=>!(ltOf l) y x).toArray (by simpa using g4) m os;exact⟨.junk,_,_,_,rfl,rfl,.junk _,t1,t2⟩
end
open Go
theorem Zgm(x:Int):Pure prog 303 [I x] (B false):=by
 refine zx func303 ntmps303 results303 λS nx a=>?_
 refine DY ?_;refine DY ?_;exact DZ a
theorem Zgn(x y:Int):Pure prog 376 [I x,I y] (I (uZ x y)):=by
 refine zx func376 ntmps376 results376 λS nx a=>?_
 refine DY ?_;refine DY ?_;refine zv (Zgm x) ?_;refine DY ?_;refine zv (Zgm y) ?_
 repeat apply ze
 refine zg ?_;refine zp DP ?_;refine zk ?_
 repeat apply ze
 refine zg ?_;refine zp DP ?_;refine zk ?_
 by_cases h1:x<y
 ·repeat apply ze
  refine zi [] h1 ?_;refine zo (by simp[h1]) ?_;refine DY ?_;exact zj (zm a DQ (by simp[uZ,h1,zr]))
 repeat apply ze
 refine zi [] h1 ?_;refine zp (by simp[h1]) ?_;refine zk ?_
 by_cases h2:y<x
 ·repeat apply ze
  refine zi [] h2 ?_;refine zo (by simp[h2]) ?_;refine DY ?_;exact zj (zm a DQ (by simp[uZ,h1,h2,zr]))
 repeat apply ze
 refine zi [] h2 ?_;refine zp (by simp[h2]) ?_;refine zk (DY ?_);exact zj (zm a DQ (by simp[uZ,h1,h2,zr]))
theorem ZnX(x y:Int):Pure prog 375 [.lst 2 [I x,I y]] (I (if x=0 then y else x)):=by
 refine zx func375 ntmps375 results375 λS nx d=>?_
 refine DY ?_;refine DY ?_
 repeat apply ze
 refine zg ?_;refine zn (zK (λs:Nat=>s<=2/\(0<s->x=0)/\(1<s->y=0)) (λk=>[(3,I 0),(6,.lst 2 [I x,I y]),(7,I 2),(8,I k)]) (λ_=>[]) (λs=>2-s) 0 [] DP DP DP ?_);rintro k ⟨e,a,b⟩
 match k,e,a,b with
 | 0,_,_,_ =>
  refine DY ?_;refine ze (zo DP ?_);refine zk (ze (zn (DY ?_)))
  by_cases hx:x=0
  ·refine ze (zi [] hx ?_);refine zp (by simp[hx]) ?_;refine zk (zg ?_);exact zu 1 [] ⟨by omega,λ_=>hx,by omega⟩ DO (by simp[hx];rfl) rfl DP
  ·refine ze (zi [] hx ?_);refine zo (by simp[hx]) ?_;refine DY ?_;exact zj (zm d DQ (by simp[hx,zr]))
 | 1,_,a,_ =>
  have hx:=a DO;refine DY ?_;refine ze (zo DP ?_);refine zk (ze (zn (DY ?_)))
  by_cases c:y=0
  ·refine ze (zi [] c ?_);refine zp (by simp[c]) ?_;refine zk (zg ?_);exact zu 2 [] ⟨by omega,λ_=>hx,λ_=>c⟩ DO (by simp[c];rfl) rfl DP
  ·refine ze (zi [] c ?_);refine zo (by simp[c]) ?_;refine DY ?_;exact zj (zm d DQ (by simp[hx,zr]))
 | 2,_,a,b =>
  refine DY ?_;refine ze (zp DP ?_);refine zC (DY ?_);exact zj (zm d DQ (by simp[a (by omega),b (by omega),zr]))
theorem ZnY(l:List Int)(i j:Fin l.length)(hn:l.length<=1048576):Pure prog 374 [I i.val,I j.val,.ip [L l]] (I (vA l i j)):=by
 obtain⟨a,tl,h,o,a3,e⟩:=zN rfl l i.val i.isLt;obtain⟨b,k,b1,b2,b3,f⟩:=zN rfl l j.val j.isLt;have hi:=i.isLt;have g:=j.isLt;have m:l.getD i.val 0=a:=by rw[Aa,h];rfl
 have hb:l.getD j.val 0=b:=by rw[Aa,b1];rfl
 have d:=ZnX (uZ a b) (uZ i.val j.val);have c:vA l i j=if uZ a b=0 then uZ (i.val:Int) j.val else uZ a b:=by unfold vA;rw[m,hb]
 rw[c];refine zx func374 ntmps374 results374 λS nx n=>?_
 refine DY ?_;refine ze (zD none (Row.pures [0,1,2,3,4,5,6,7,8,9,10,11,12,13,14] .done) mixed (zS hi g e f) ?_);refine zO (Zgn a b) (zS hi g e f) ?_;refine zO (Zgn i.val j.val) trivial ?_;refine zO (d) trivial ?_;exact DZ n
theorem ZcS(l:List Int):l.flatMap Enc.enc=l.map I:=by induction l<;>simp_all
theorem ZnZ(l:List Int):∀p∈[PV.ip [L l]],Fz p:=by
 intro p a;simp only[AU]at a;subst a;refine .ip λq b=>?_
 simp only[AU]at b;subst b;refine .lst λr c=>?_
 rw[ZcS]at c;obtain⟨x,_,rfl⟩:=Al.1 c;exact .sc _
def vX(n k:Nat):List Int:=(List.range n).map λi=>if i<k then (i:Int) else 0
theorem Zn0(n k:Nat):(vX n k).length=n:=by simp[vX]
theorem Zn1(n:Nat):vX n 0=List.replicate n 0:=by
 apply A3
 ·simp[vX]
 ·intro i h1 h2;simp[vX]
theorem Zn2(n k:Nat)(h:k<n):(vX n k).set k (k:Int)=vX n (k+1):=by
 apply A3
 ·simp[vX]
 ·intro i h1 h2;rw[CB];simp only[vX,Cd,Ch]
  by_cases e:k=i
  ·subst e;rw[if_pos rfl,if_pos DO]
  ·rw[if_neg e]
   by_cases h3:i<k
   ·rw[if_pos h3,if_pos DO]
   ·rw[if_neg h3,if_neg DO]
theorem Zn3(n:Nat):vX n n=(List.finRange n).map λx=>(x.val:Int):=by
 apply A3
 ·simp[vX]
 ·intro i h1 h2;have:i<n:=by simpa[vX] using h1
  simp[vX,this]
theorem Zgo{α:Type}(l:List α)(f:α->Int):(l.map f).flatMap Enc.enc=l.map λx=>I (f x):=by induction l<;>simp_all
theorem Zn4(n:Nat):qa n (.int .i64 0)=(List.replicate n (0:Int)).flatMap Enc.enc:=by
 induction n with
 | zero=>simp
 | succ n a=>rw[QI,a,BC];simp[jI,Value.cells]
theorem Zn5(l:List Int)(k:Nat)(v:Int)(h:k<l.length):yk (l.flatMap Enc.enc) k [I v]=(l.set k v).flatMap Enc.enc:=by
 rw[ZcS,ZcS,yk,List.map_set,AE,if_pos (by simpa using h)];simp
theorem Zn6(l:List Int)(hn:l.length<=1048576):Pure prog 366 [L l] (L (uD l)):=by
 have h:qC prog 373:=qx func373 DU rfl;have m:qC prog 374:=qx func374 DU rfl;refine zx func366 ntmps366 results366 λS nx j=>?_
 refine DY ?_;intro v0;refine DY ?_;refine⟨by omega,λv1=>?_⟩
 repeat apply ze
 refine zg ?_;refine zn (zK (λs:Nat=>s<=l.length) (λk=>[(1,.ptr nx v0 0),(3,.sl (nx+1) v1 1 0 l.length),(9,I l.length),(10,I k)]) (λk=>[.cells v0 26 [L l],.cells v1 3 ((vX l.length k).flatMap Enc.enc)]) (λs=>l.length-s) 0 [] DP DP (by simp[Zn1,Zn4]) ?_);rintro k n;refine DY ?_;refine ze (zA rfl (λhc=>?_) (λhc=>?_))
 ·simp at hc;have d:=Zn0 l.length k;have b:=Zn5 (vX l.length k) k k DO;rw[Zn2 _ _ hc]at b;refine zk (ze (zn (DY ?_)));refine zi [] (zF hc d b) ?_;refine⟨by omega,?_⟩;refine zg ?_;exact zu (k+1) [] hc DO (by simp[zy k (by omega)]) rfl DP
 ·simp at hc;obtain rfl:k=l.length:=DO
  refine zC ?_;rw[Zn3,Zgo];refine wL 0 rfl ?_;refine DY ?_
  by_cases h0:l.length=0
  ·obtain rfl:l=[]:=Av h0;refine λa=>((ZnV laysSlF6_f373 h).mono ?_).v
   rintro _ _ rfl;refine⟨_,_,rfl,zR a ?_⟩;refine yh 1 rfl ?_;refine DY ?_;have f:uD []=[]:=Av (ZcK []);exact zj (zm j DQ (by rw[f];rfl))
  ·haveI:Inhabited (Fin l.length):=⟨⟨0,by omega⟩⟩
   have hs:=λS id ver hid=>ZnW (S:=S) (id:=id) (ver:=ver) (e:=3) (val:=λi:Fin l.length=>(i.val:Int)) laysSlF6_f373 h (List.finRange l.length) hid DT m (ZnZ l) (vA l) (ZaB l) (Zgg l) (λx y=>ZnY l x y hn)
   rw[List.length_finRange]at hs;have g:=Zgo (JM l) (λi=>(i.val:Int));have c:=ZcK l;refine λa=>((hs _ (nx+1) v1 (by rw[zY];rfl)).mono ?_).v
   rintro _ _ rfl;refine⟨_,_,yl _ DO DP,?_⟩;rw[show (((List.finRange l.length).mergeSort λx y=>!(ltOf (vA l)) y x).map λx=>I (x.val:Int))=(uD l).flatMap Enc.enc from g.symm];refine xl [] (show nx+1-nx=1 from by omega) a ?_;refine yh 1 rfl ?_;refine ze (zi [] c ?_);exact zj (zm j DQ (by simp[zr,c]))
open Go Hp
theorem Zn7(x:Inst)(c:List Int)(a b:Int):xE x (c++[b]) a=xE x c a++(if b≠a then [⟨a,b,u5 x a b⟩] else []):=by
 unfold xE
 by_cases h:b=a<;>simp[h]
theorem Zn8(x:Inst)(c:List Int)(a:Int):(xE x c a).length<=c.length:=by
 unfold xE;rw[List.length_map];exact BF _ _
theorem Zn9(l:List Pr)(p:Pr):jm (l++[p])=jm l++[-p.s]:=by simp[jm]
theorem Zoa(l:List Pr):(jm l).length=l.length:=by simp[jm]
theorem Zob(x:Inst)(c:List Int)(a:Int)(hx:qQ x)(hc:c.length<=1048576)(hs:∀b∈c,qv b)(ha:qv a):Pure prog 347 [.agg (zE x),L c,I a] (L (wY x c a)):=by
 refine zx func347 ntmps347 results347 λS nx hd=>?_
 refine DY ?_;intro v0;refine DY ?_;refine ze (q9 7 392 3 rfl λv1=>?_);refine zg ?_;refine ze (q9 8 3 1 rfl λn=>?_);refine DY ?_;refine zn (zK (λs:Nat × List Pr × Nat × Nat=>s.1<=c.length/\s.2.1=xE x (c.take s.1) a) (λ(k,ps,v1,n)=>[(1,L c),(2,I a),(3,.ptr nx v0 0),(7,.sl (nx+1) v1 3 0 ps.length),(8,.sl (nx+2) n 1 0 ps.length),(15,L c),(16,I c.length),(17,I k)]) (λ(k,ps,v1,n)=>[.cells v0 25 (zE x),.cells v1 392 (ps.flatMap Enc.enc),.cells n 3 ((jm ps).flatMap Enc.enc)]) (λs=>c.length-s.1) (0,[],v1,n) [] (by simp[xE]) DP (by simp[jm]) ?_);rintro⟨k,ps,v1,n⟩ ⟨q,ho⟩;simp only at q ho ⊢;have a4:ps.length<=k:=by rw[ho];refine AF (Zn8 _ _ _) ?_;simp;omega
 have e:=Zoa ps;refine DY ?_;refine ze (zA rfl (λd=>?_) (λd=>?_))
 ·simp at d;obtain⟨b,tl,r,a2,a3,t⟩:=zN rfl c k d;have hb:=hs b (Ab r);have a5:=ZcO hx a b;have w5:IntKind.i64.wrap (-u5 x a b)=-u5 x a b:=wr _ DO DO;have f:=Zn7 x (c.take k) a b;rw[<-a3,<-ho]at f;refine zk (ze (zn (ze (zi [] (zq t d) ?_))));refine DY ?_;refine zA rfl (λg=>?_) (λg=>?_)
  ·simp at g;rw[if_pos g]at f;refine DY ?_;refine zv (ZnH x a b hx ha hb) ?_;intro v3;refine DY ?_;refine⟨by omega,?_⟩;have u:List.take ps.length ((jm ps).flatMap Enc.enc)=(jm ps).flatMap Enc.enc:=by rw[<-e];exact ZlD _
   have w:((jm ps).flatMap Enc.enc).length=ps.length:=by rw[jL,e]
   refine zi [] (zF w5 u w) ?_;refine⟨by omega,?_⟩;refine zg ?_;exact zu (k+1,ps++[⟨a,b,u5 x a b⟩],v1+1,n+1) [_] ⟨d,f.symm⟩ DT (by simp[zy k (by omega)]) rfl (by simp[Zn9];rfl)
  ·simp at g;rw[if_neg (by simp[g]),AH]at f;refine zk (zg ?_);exact zu (k+1,ps,v1,n) [] ⟨d,f.symm⟩ DT (by simp[zy k (by omega)]) rfl DP
 ·simp at d;obtain rfl:k=c.length:=DO
  rw[Ai]at ho;refine zC (yh 1 rfl ?_);refine yh 2 rfl ?_;refine DY ?_;refine ze (q9 12 392 3 rfl λv3=>?_);have y:wY x c a=(uD (jm ps)).map (uE ps):=by rw[ho];rfl
  rw[y];have a6:=ZcK (jm ps);have o:∀z∈uD (jm ps),0<=z/\z<ps.length:=λz h=>by have:=Znp h;omega
  have l:=Zn6 (jm ps) DO;rw[show L (jm ps)=PV.lst ps.length ((jm ps).flatMap Enc.enc) from by rw[<-e]]at l;generalize jm ps=ns at *;refine ze (zi [] e ?_);refine zv l ?_;generalize uD ns=is at *;refine zn (zK (λs:Nat × List Pr × Nat=>s.1<=is.length/\s.2.1=(is.take s.1).map (uE ps)) (λ(k,os,v)=>[(7,L ps),(12,.sl (nx+3) v 3 0 os.length),(43,L is),(44,I is.length),(45,I k)]) (λ(k,os,v)=>[.cells v0 25 (zE x),.dead,.dead,.cells v 392 (os.flatMap Enc.enc)]) (λs=>is.length-s.1) (0,[],v3) [] DP (by simp[e]) DP ?_);rintro⟨k,os,v⟩ ⟨q,m⟩;simp only at q m ⊢;refine DY ?_;refine ze (zA rfl (λd=>?_) (λd=>?_))
  ·simp at d;obtain⟨i,tl,r,a2,a3,t⟩:=zN rfl is k d;obtain⟨q1,q2⟩:=o i (Ab r);obtain⟨j,rfl⟩:∃j:Nat,i=j:=⟨i.toNat,by omega⟩;have hj:j<ps.length:=DO
   obtain⟨p,tp,b1,b2,b3,e1,e2⟩:=el 3 rfl ps j hj;have hg:uE ps (j:Int)=p:=by simp[uE,Aa,b1]
   have a0:(is.take (k+1)).map (uE ps)=os++[p]:=by rw[a3,m];simp[hg]
   have a7:os.length=k:=by rw[m];simp;omega
   refine zk (ze (zn (ze (zi [] (zq t d) ?_))));refine zi [] (zF e1 e2 hj) ?_;refine⟨by omega,?_⟩;refine zg ?_;exact zu (k+1,os++[p],v+1) [] ⟨d,a0.symm⟩ DT (by simp[zy k (by omega)]) rfl DP
  ·simp at d;obtain rfl:k=is.length:=DO
   rw[Ai]at m;refine zC (yh 3 rfl ?_);refine DY ?_;exact zj (zm hd DQ (by simp[zr,m]))
open Go Hp
@[simp] theorem ZzR(d e a b c:Ob)(l:List Ob)(o:Ob × Ob × Ob):Yw (d :: e :: a :: b :: c :: l) 2 o=d :: e :: o.1 :: o.2.1 :: o.2.2 :: l:=rfl
theorem HX.srt{o:Ob × Ob × Ob}{a hv mv:Nat}{r:zV Int}(h:HX o a hv mv r):uC r:=by
 obtain⟨_,_,_,h⟩:=h (λi=>if i=a then o.1 else if i=a+1 then o.2.1 else o.2.2) DP DP DP;exact h
theorem Zoc{id:Int}{r:zV Int}(h:∀x∈r,x.1≠id):xN id r=false:=by grind[xN]
def W5(p:Pr):List PV:=[.agg [I p.a,I p.b,I p.s]]
def xO(x:Inst)(c:List Int)(k:Nat):List (List Pr):=(c.take k).map (wY x c)
theorem Zgp(x:Inst)(c:List Int):xO x c 0=[]:=by simp[xO]
theorem Zod{x:Inst}{c:List Int}{k:Nat}{a:Int}(h:c.take (k+1)=c.take k++[a]):xO x c (k+1)=xO x c k++[wY x c a]:=by simp[xO,h]
theorem Zoe(x:Inst)(c:List Int):xO x c c.length=c.map (wY x c):=by simp[xO]
theorem Zgq(x:Inst)(c:List Int)(k:Nat)(h:k<=c.length):(xO x c k).length=k:=by simp_all[xO]
def u6(rows:List (List Pr))(n:Nat):List PV:=rows.flatMap Enc.enc++List.replicate (n-rows.length) (.sc (.slice none 0 0))
theorem Zgr(rows:List (List Pr))(n:Nat)(h:rows.length<=n):(u6 rows n).length=n:=by simp_all[u6]
theorem Zof(n:Nat):u6 [] n=qa n (.slice none 0 0):=by
 unfold u6;simp only[Ct,AQ,Ah,DM]
 induction n<;>simp_all[QI,BC]
theorem Zog(rows:List (List Pr)):u6 rows rows.length=rows.flatMap Enc.enc:=by simp[u6]
theorem Zoh(rows:List (List Pr))(n:Nat)(r:List Pr)(h:rows.length<n):yk (u6 rows n) rows.length [L r]=u6 (rows++[r]) n:=by
 unfold u6 yk;have h1:(rows.flatMap Enc.enc).length=rows.length:=xD rows;obtain⟨m,hm⟩:∃m,n-rows.length=m+1:=⟨n-rows.length-1,by omega⟩;rw[hm,BC];rw[BM DO,Af DO];rw[Cs,AX DP];simp[h1,show n-(rows.length+1)=m by omega]
theorem Zoi(rows:List (List Pr))(n:Nat)(r:List Pr):(u6 (rows++[r]) n)[rows.length]?=some (L r):=by
 unfold u6;rw[Aq,List.append_assoc,Ak (by rw[xD];exact Ag _),xD];simp
theorem Zoj(rows:List (List Pr))(k:Nat)(r:List Pr)(h:k<rows.length):yk (rows.flatMap Enc.enc) k [L r]=(rows.set k r).flatMap Enc.enc:=by
 have e:∀l:List (List Pr),l.flatMap Enc.enc=l.map λr=>L r:=λl=>by induction l<;>simp_all
 rw[e,e,yk,List.map_set,AE,if_pos (by simpa using h)];simp
theorem ZaG:∀(rows:List (List Pr)) (i:Nat) (r:List Pr),qc i (rows++[r])=qc i rows++qc (i+rows.length) [r]
 | [],i,r=>by simp[qc]
 | [] :: rows,i,r=>by
  simp only[List.cons_append,qc,Ae];rw[ZaG rows (i+1) r,show i+1+rows.length=i+(rows.length+1) by omega]
 | (p :: l) :: rows,i,r=>by
  simp only[List.cons_append,qc,Ae];rw[ZaG rows (i+1) r,show i+1+rows.length=i+(rows.length+1) by omega]
theorem Zok(rows:List (List Pr)):qc 0 (rows++[[]])=qc 0 rows:=by rw[ZaG];simp[qc]
theorem Zol(rows:List (List Pr))(p:Pr)(tl:List Pr):(qc 0 (rows++[p :: tl])).Perm (((rows.length:Int),-p.s) :: qc 0 rows):=by
 rw[ZaG];simp only[qc,AS];exact CZ
theorem Zgs{rows:List (List Pr)}{k:Nat}(h:rows.getD k []=[]){r:zV Int}(a:r.Perm (qc 0 rows)):xN (k:Int) r=false:=by
 refine Zoc λx hx e=>?_
 obtain⟨j,p,tl,b,rfl⟩:=(XJ rows 0 x).1 (a.subset hx);simp only[AS]at e;have:j=k:=DO
 subst this;rw[Aa,b]at h;cases h
theorem Zom(x:Inst)(ss:List Stop):Pure prog 331 [.agg (zE x),L ss] (.fn (.func 345) [] [.ip [L ss],.ip (zE x)]):=by
 refine zx func331 ntmps331 results331 λS nx a=>?_
 refine DY ?_;intro v0 v1;refine DY ?_;refine wL 0 rfl ?_;refine wL 1 rfl ?_;exact DZ a
theorem Zon(x:Inst)(ss:List Stop)(hx:qQ x)(f8:ss.length<=1048576)(hs:∀s∈ss,qv s.c)(b7:(ss.map (·.c)).Nodup):QL prog 345 [.ip [L ss],.ip (zE x)] ((jz x (ss.map (·.c))).map W5):=by
 have a5:=λS nx hd=>WS ss f8 S nx hd
 obtain⟨zs,n⟩:∃zs,zs=ss.map (·.c):=⟨_,rfl⟩;have f9:ss.length=zs.length:=by rw[n];simp
 rw[<-n,f9]at a5;rw[<-n]at b7 ⊢;have d2:∀b∈zs,qv b:=by
  intro b hb;rw[n]at hb;obtain⟨s,h1,rfl⟩:=Al.1 hb;exact hs s h1
 have d3:=WU zs;have d4:=ZfX zs;have d5:=(Zcy zs).2 b7;have g0:=QO zs;have d6:jz x zs=jz x (qe zs):=Znx b7 d5 d4.symm;have d7:(qe zs).Pairwise (· < ·):=(List.Pairwise.and d3 d5).imp λ⟨h1,h2⟩=>by omega
 have g1:zs.length<=1048576:=DO
 have a7:∀b∈qe zs,qv b:=λb hb=>d2 b (d4.subset hb)
 have b8:=λ(S:Store) (id ver:Nat) (hid:S id=.cells ver 3 (zs.flatMap Enc.enc))=>Zay zs hid g1
 rw[d6];generalize qe zs=c at *;clear n d3 d6;refine WM func345 DU rfl ntmps345 (congrArg Array.toList results345) DP λl V keep nx J g2 hY A0 g3=>?_
 refine DY ?_;refine λd=>((a5 _ _ xB).mono ?_).v
 rintro _ _ ⟨v1,rfl,rfl⟩;refine⟨_,_,Xz _,xl [] Nat.add_assoc d ?_⟩;refine DY ?_;refine λd=>((b8 _ _ _ DP).mono ?_).v
 rintro _ _ rfl;refine⟨_,_,yl _ DP DP,zR d ?_⟩;rw[<-g0];refine yh 1 rfl ?_;refine DY ?_;refine λd=>(Znl.mono ?_).v
 rintro p _ ⟨hv,mv,o1,rfl,m1,rfl⟩;refine⟨_,_,rfl,zR d ?_⟩;simp at m1;refine DY ?_;refine⟨by omega,λv0=>?_⟩
 repeat apply ze
 refine zg ?_;have g4:∀(row:List Pr) (a:Int),row=wY x c a->∀p∈row,IntKind.i64.wrap (-p.s)=-p.s:=by
  intro row a e p hp;rw[e]at hp;have h1:=(ZcN x c a).subset hp;unfold xE at h1;obtain⟨b,_,rfl⟩:=Al.1 h1;have:=ZcO hx a b
  show IntKind.i64.wrap (-u5 x a b)=-u5 x a b
  exact wr _ DO DO
 refine zn (zK (λs:Nat × zV Int × (Ob × Ob × Ob) × Nat=>s.1<=c.length/\s.2.1.Perm (qc 0 (xO x c s.1))/\HX s.2.2.1 (nx+2) hv mv s.2.1) (λ(k,f,o,v)=>[(0,xC l),(2,.ip (zE x)),(4,L c),(5,.ptr (nx+3) hv 0),(6,.sl (nx+5) v 1 0 c.length),(21,L c),(22,I c.length),(23,I k)]) (λ(k,f,o,v)=>[.dead,.dead,o.1,o.2.1,o.2.2,.cells v 429 (u6 (xO x c k) c.length)]) (λs=>c.length-s.1) (0,[],o1,v0) [] ⟨by simp,by simp[Zgp,qc],m1⟩ DP (by simp[Zgp,Zof]) ?_);rintro⟨k,f,o,v⟩ ⟨hk,hp,hm⟩;simp only at hk hp hm ⊢;refine DY ?_;refine ze (zA rfl (λhq=>?_) (λhq=>?_))
 ·simp at hq;obtain⟨a,tl,a1,a2,a3,e0⟩:=zN rfl c k hq;have d8:=Zgq x c k DO;have a6:=Zod (x:=x) a3;have a8:=Zoh (xO x c k) c.length (wY x c a) DO;have d9:=Zoi (xO x c k) c.length (wY x c a);have t:=Zgr (xO x c k) c.length DO;have g:=Zgr (xO x c k++[wY x c a]) c.length DT;rw[d8]at a8 d9;have c6:xN (k:Int) f=false:=Zgs (k:=k) (rows:=xO x c k) (by rw[Aa,Ao (by omega)];rfl) hp;have c7:f.length<=k:=by rw[hp.length_eq];exact AF (ZaE _ _) DO
  refine zk (ze (zn (ze (zi [] (zq e0 hq) ?_))));refine DY ?_;refine yW [] (Zob x c a hx DO a7 (a7 a (Ab a1))) (zF a8 t hq) ?_;refine⟨by omega,?_⟩;have hw:=g4 (wY x c a) a rfl;have g5:=Zol (xO x c k);have e8:=Zok (xO x c k);generalize h6:wY x c a=row at *;have a9:∀h,(u6 (xO x c k++[row]) c.length)[k]'h=L row:=λh=>(Ad.1 d9).2
  refine ze (zi [] (zF a9 hq g) ?_);cases row with
  | nil =>
   refine zp rfl (zk (zg ?_));refine zu (k+1,f,o,v) [] ⟨hq,?_,hm⟩ DT (by simp[zy k (by omega)]) rfl (by simp[a6]);simp only[a6,e8];exact hp
  | cons p rl =>
   have g6:=hw p DP;refine zo DP ?_;refine zi [] (zS a9 hq g g6) ?_;refine λd=>((Zgf (j:=2) hm rfl rfl rfl (k:Int) (-p.s) DO).mono ?_).v
   rintro _ T ⟨rfl,o2,m2,rfl⟩;refine⟨_,_,rfl,?_⟩;rw[c6]at m2;simp only[cond_false]at m2;refine zR d ?_;refine zg ?_;refine zu (k+1,Yv ((k:Int),-p.s) f,o2,v) [] ⟨hq,?_,m2⟩ DT (by simp[zy k (by omega)]) rfl (by simp[a6]);simp only[a6];have:=g5 p rl;rw[d8]at this;exact(WZ _ _).trans ((hp.cons _).trans this.symm)
 ·simp at hq;obtain rfl:k=c.length:=DO
  obtain⟨e9,f0,f1⟩:=ZnF (x:=x) d7;rw[<-Zoe]at e9 f0 f1;have t:=Zgq x c c.length (Ag _);have f2:=Zog (xO x c c.length);rw[t]at f2;rw[f2];generalize xO x c c.length=rows at *;refine zC (zn (jX (σ:=Nat × Store × List (List Pr) × zV Int × (Ob × Ob × Ob) × Nat) (λs=>s.1<=(jz x c).length/\J s.1 s.2.1/\Rows' c s.2.2.1/\(∀r∈s.2.2.1,Sd wX r)/\s.2.2.1.flatten.Perm ((jz x c).drop s.1)/\s.2.2.2.1.Perm (qc 0 s.2.2.1)/\HX s.2.2.2.2.1 (nx+2) hv mv s.2.2.2.1) (λs=>[(0,xC l),(5,.ptr (nx+3) hv 0),(6,.sl (nx+5) s.2.2.2.2.2 1 0 c.length)]) (λs=>s.2.1) (λs=>[.dead,.dead,s.2.2.2.2.1.1,s.2.2.2.2.1.2.1,s.2.2.2.2.1.2.2,.cells s.2.2.2.2.2 429 (s.2.2.1.flatMap Enc.enc)]) (λs=>(jz x c).length-s.1) (zZ (0,A0,rows,f,o,v) [] ⟨by simp,g3,e9,f0,by simpa using f1,hp,hm⟩ DP rfl DP) ?_));rintro⟨i,A,rows,f,o,v⟩ ⟨hi,hJ,c8,f3,d0,hp,hm⟩;simp only at hi hJ c8 f3 d0 hp hm ⊢;have t:rows.length=c.length:=c8.len;have hs:=hm.srt;refine zn (ze (xL [] DU DU λK Gc Gh hK u a0 X m hX=>?_));simp -implicitDefEqProofs [m,hX]
  try clear m hX X
  refine u _ _ _ _ _ _ _ λd=>((Znk (j:=2) hm rfl rfl rfl).mono ?_).v
  rintro _ T ⟨rfl,o2,m2,rfl⟩;refine⟨_,_,rfl,?_⟩;cases f with
  | nil =>
   clear u a0;clear Gc Gh;refine wK d (D:=[]) DU λGc Gh u a0 X m hX=>?_
   simp -implicitDefEqProofs [m,hX,JL,yf,vx];clear m hX X;refine hK _ _ _ ?_;clear hK u a0;clear K Gc Gh;have h0:∀r∈rows,r=[]:=by
    intro r hr;cases r with
    | nil=>rfl
    | cons p tl =>
     obtain⟨j,hj⟩:=Bi.1 hr;have:=(XJ rows 0 ((j:Int),-p.s)).2 ⟨j,p,tl,hj,by rw[AS]⟩;rw[List.nil_perm.1 hp]at this;cases this
   have f4:=Zns d0 hi h0
   repeat apply ze
   refine zi [(2,61)] zB ?_;exact zo rfl (zj (Zu (g2 _ _ hJ) rfl (by simpa[f4] using hJ)))
  | cons it r =>
   obtain⟨q,y,tl,e1,e2,e3,e4,e5,e6,e7⟩:=ZnG d7 c8 f3 d0 hs hp.symm;subst e1;have a4:=(Ad.1 e2).1;have w:q<c.length:=DO
   obtain⟨y',tr,a1,a2,a3,e0⟩:=zN rfl rows q a4;rw[e2]at a1;cases a1;have c7:=(Ad.1 e4).1;have g7:((jz x c).map W5)[i]?=some (W5 y):=by rw[Aj,e4];rfl
   clear u a0;clear Gc Gh;refine wK d (D:=[]) DU λGc Gh u a0 X m hX=>?_
   simp -implicitDefEqProofs [m,hX,JL,yf,vx];clear m hX X;refine hK _ _ _ ?_;clear hK u a0;clear K Gc Gh
   repeat apply ze
   refine zi [(2,61)] (zS e0 w t zB) ?_;refine λd=>XA rfl rfl rfl (hY _ _ _ _ g7 hJ) ?_
   rintro _ ⟨A',f5,rfl⟩;refine⟨_,_,rfl,xl [(2,61)] trivial d ?_⟩;refine zp rfl (zk ?_);have g8:=Zoj rows q tl a4;have g:(rows.set q tl).length=c.length:=by simp[t]
   have f6:q<(rows.set q tl).length:=DO
   obtain⟨y',h8,a1,a2,a3,f7⟩:=zN rfl (rows.set q tl) q f6;rw[AW a4]at a1;cases a1;have c6:xN (q:Int) r=false:=Zgs (rows:=rows.set q []) (by rw[Aa,AW a4];rfl) e3;have h7:r.length<=1048576:=by rw[e3.length_eq];exact AF (ZaE _ _) DT
   have d1:=λp tz=>ZaD rows 0 q p tz a4
   refine ze (zi [] (zS e0 w t g8) ?_);refine⟨by omega,?_⟩;refine ze (zi [] (zF f7 w g) ?_);cases tl with
   | nil =>
    exact zp rfl (zk (zu (i+1,A',rows.set q [],r,o2,v) [] ⟨c7,f5,e5,e6,e7,e3,m2⟩ DT DP rfl DP))
   | cons z tz =>
    have g9:z∈(rows.set q (z :: tz)).flatten:=Bt.2 ⟨z :: tz,Ab (AW a4),by simp⟩;have h4:z∈Zx x c:=(JN x c).subset (Ck (e7.subset g9));have n:=(ZaC.1 h4).2.2.2;have h5:IntKind.i64.wrap (-z.s)=-z.s:=by
     rw[n];have:=ZcO hx z.a z.b;exact wr _ DO DO
    refine zo DP ?_;refine zi [] (zS f7 w g h5) ?_;refine λd=>((Zgf (j:=2) m2 rfl rfl rfl (q:Int) (-z.s) DT).mono ?_).v
    rintro _ T ⟨rfl,o3,m3,rfl⟩;refine⟨_,_,rfl,?_⟩;simp only[List.tail_cons]at m3;rw[c6]at m3;simp only[cond_false]at m3;refine zR d ?_;refine zu (i+1,A',rows.set q (z :: tz),Yv ((q:Int),-z.s) r,o3,v) [] ⟨c7,f5,e5,e6,e7,?_,m3⟩ DT DP rfl DP;have:=d1 z tz;rw[AS]at this;exact(WZ _ _).trans ((e3.cons _).trans this.symm)
open Go Hp
theorem Zoo{x:Inst}{c:List Int}(h:c.Nodup)(hc:c.length<=1000):(jz x c).length<=1000000:=by
 rw[Znu h];exact AF (Nat.mul_le_mul hc (Nat.sub_le _ _)) (Cb 1000 hc)
open Go Hp
open Go Hp
def QS(x:Inst)(ss:List Stop)(i:Nat):zt × Int:=((jz x (ss.map (·.c))).take i).foldl (jE x) (ss.map λs=>[s],(ss.length:Int))
theorem Zop(x:Inst)(ss:List Stop):QS x ss 0=(ss.map λs=>[s],(ss.length:Int)):=by simp[QS]
theorem Zoq{x:Inst}{ss:List Stop}{i:Nat}{p:Pr}(h:(jz x (ss.map (·.c)))[i]?=some p):QS x ss (i+1)=jE x (QS x ss i) p:=by
 unfold QS;obtain⟨h1,e⟩:=Ad.1 h;rw[AR h1,e,Bx];rfl
theorem Zor(x:Inst)(ss:List Stop):QS x ss (jz x (ss.map (·.c))).length=ZcP x ss:=by simp[QS,ZcP]
theorem Zos(x:Inst)(T:zt)(c:Int)(p:Pr):c-1<=(jE x (T,c) p).2/\(jE x (T,c) p).2<=c:=by
 unfold jE W3;cases qS x (T,c).2 p (Zy (T,c).1 p.a) (Zy (T,c).1 p.b) ((T,c).1.getD (Zy (T,c).1 p.a) []) ((T,c).1.getD (Zy (T,c).1 p.b) [])<;>simp<;>omega
theorem Zot(x:Inst)(ss:List Stop)(hx:qQ x)(a8:x.cust.length<=1048576)(z:ss.length<=1000)(hs:∀s∈ss,qv s.c)(q:(ss.map (·.c)).Nodup):Pure prog 316 [.agg (zE x),L ss] (.agg [L (vB x ss)]):=by
 have d5:=Zoo (x:=x) q (by simpa using z);have a0:KeyOk (.int .i64) jl:=JK .i64;have r:∀k s,ss[k]?=some s->s.c ∉ (ss.take k).map (·.c):=by
  intro k s h hm;obtain⟨s',h1,h2⟩:=Al.1 hm;obtain⟨j,hj⟩:=Bi.1 h1;rw[BI]at hj;split at hj
  ·rename_i a9;have e1:(ss.map (·.c))[j]?=some s.c:=by rw[Aj,hj,<-h2];rfl
   have e2:(ss.map (·.c))[k]?=some s.c:=by rw[Aj,h];rfl
   obtain⟨g1,g2⟩:=Ad.1 e1;obtain⟨g3,g4⟩:=Ad.1 e2;exact Bw.1 q j k g1 g3 a9 (g2.trans g4.symm)
  ·cases hj
 refine zx func316 ntmps316 results316 λS nx hd=>?_
 refine DY ?_;intro v0 v1;refine DY ?_;intro w v3 v4;refine jd 3 6 40 1 rfl rfl λv5=>?_
 repeat apply ze
 refine zg ?_;refine zn (zK (λs:Nat × zt × List (Value × PV) × (Int->Option Int) × Nat=>s.1<=ss.length/\s.2.1=(ss.take s.1).map (λs=>[s])/\MapIs jl I s.2.2.1 s.2.2.2.1/\JI (ss.take s.1) s.2.1 s.2.2.2.1) (λ(k,T,es,g,v5)=>[(1,L ss),(2,.ptr nx v0 0),(4,.ptr (nx+1) v1 0),(5,.ptr (nx+4) v4 0),(18,L ss),(19,I ss.length),(20,I k)])
  (λ(k,T,es,g,v5)=>[.cells v0 25 (zE x),.cells v1 39 [.sc (.slice none 0 0)],.map w es,.cells v3 387 (XK x (nx+5) v5 k ss.length (nx+2) w),.cells v4 383 [.ptr (nx+3) v3 0],.cells v5 40 (T.flatMap Enc.enc)]) (λs=>ss.length-s.1) (0,[],[],λ_=>none,v5) [] ⟨by simp,by simp,Zf5 _ _,by simpa using JI.nil⟩ DP DP ?_)
 rintro⟨k,T,es,g,v5⟩ ⟨hk,u,hm,hI⟩;simp only at hk u hm hI ⊢;have d:T.length=k:=by rw[u];simp;omega
 refine DY ?_;refine ze (zA rfl (λe=>?_) (λe=>?_))
 ·simp at e;obtain⟨s,tl,a1,a2,a3,e1,e0⟩:=el 2 rfl ss k e;obtain⟨rs,f1,_,_,f4,_⟩:=hm.find a0 s.c;have a4:=f4 (k:Int);have a5:=hI.snoc s (r k s a1);have b7:(ss.take k).length=k:=DT
  rw[b7,<-a3]at a5;have b8:T++[[s]]=(ss.take (k+1)).map λs=>[s]:=by rw[a3,u];simp
  have c6:(T.flatMap Enc.enc).take k=T.flatMap Enc.enc:=Af (by rw[xD];omega);have c7:(T.flatMap Enc.enc).length=k:=by rw[xD,d]
  refine zk (ze (zn (ze (zi [] (zF e1 e0 e) ?_))));intro v6;refine ze (zD (some [nx+4,nx+6]) (Row.pures [0,1,2,3,5,6,7] (.alt 4 (.alt 8 (Row.pures [9,10] (.alt 11 (.done) .stop)) .stop) .stop)) mixed (zq c6 c7) ?_);refine⟨⟨by omega,by omega⟩,?_⟩;refine zD (some [nx+3,nx+4,nx+6]) (Row.pures [0,1,2,3,4,5,6] (.alt 7 (.done) .stop)) mixed trivial ?_;refine⟨by rfl,(Y3 (.inl rfl) underlying384 underlying3 rfl rfl rfl DP f1 ?_)⟩;rw[yl _ DO DP,show nx+2-nx=2 from by omega];refine⟨by simp[yR],jY trivial ?_⟩;refine zg ?_;exact zu (k+1,T++[[s]],jq (jl s.c) (I k) es rs,jt g s.c (some (k:Int)),v5+1) [_] ⟨e,b8,a4,a5⟩ DT (by simp[zy k (by omega)]) rfl DQ
 ·simp at e;obtain rfl:k=ss.length:=DO
  rw[Ai]at u hI;refine zC ?_
  repeat apply ze
  refine zg ?_;refine zv (Zom x ss) ?_;refine zn (JE (xs:=(jz x (ss.map (·.c))).map W5) (σ:=zt × Int × List (Value × PV) × (Int->Option Int)) (λi s=>(s.1,s.2.1)=QS x ss i/\i<=(jz x (ss.map (·.c))).length/\MapIs jl I s.2.2.1 s.2.2.2/\JI ss s.1 s.2.2.2/\(ss.length:Int)-i<=s.2.1/\s.2.1<=ss.length) [(4,.ptr (nx+1) v1 0),(5,.ptr (nx+4) v4 0)] (λ_=>S)
   (λ(T,a,es,g)=>[.cells v0 25 (zE x),.cells v1 39 [.sc (.slice none 0 0)],.map w es,.cells v3 387 (XK x (nx+5) v5 ss.length a (nx+2) w),.cells v4 383 [.ptr (nx+3) v3 0],.cells v5 40 (T.flatMap Enc.enc)]) (T,(ss.length:Int),es,g)
   (Zon x ss hx DO hs q) rfl (by intro x hx;obtain⟨y,_,rfl⟩:=Al.1 hx;rfl) DV DP ⟨by rw[Zop,u],by simp,hm,hI,by simp,by simp⟩ rfl DP DP ?_ ?_)
  ·clear hm hI u d;rintro l i ⟨T,a,es,g⟩ more y ⟨b,hi,hm,hI,c8,d0⟩ hy;simp only at b hi hm hI c8 d0 ⊢;rw[Aj]at hy;obtain⟨p,hp,rfl⟩:=Ap.1 hy;obtain⟨d6,d7⟩:=Ad.1 hp;have n:=ZaC.1 ((JN x _).subset (Ab hp));have f:=Zoq hp;rw[<-b]at f;obtain⟨d8,d9⟩:=Zos x T a p;refine xL [] DU DU λK Gc Gh hK d1 d2 X a6 hX=>?_
   simp -implicitDefEqProofs [a6,hX,W5]
   try clear a6 hX X
   intro v6;refine hK _ _ _ ?_;clear hK d1 d2;clear K Gc Gh;refine zn (zg ?_);refine λa7=>((ZnP x ss T g a es a8 z DO hI hm (jid:=nx+3) (tid:=nx+5) (mid:=nx+2) (by rw[zY];rfl) (by rw[zY];rfl) (by rw[zY];rfl) DO DO DO p n.1 n.2.1).mono ?_).v
   rintro _ _ ⟨d3,g2,m2,i2,rfl⟩;refine⟨_,_,(by rw[yl _ (by omega) (by simp),yl _ (by omega) (by simp),yl _ (by omega) (by simp)]),xl [] (zF (show nx+3-nx=3 from by omega) (show nx+5-nx=5 from by omega) (show nx+2-nx=2 from by omega)) a7 ?_⟩;simp only[jW];exact wU ((jE x (T,a) p).1,(jE x (T,a) p).2,d3,g2) [_] ⟨f.symm,by omega,m2,i2,by simp only;omega,by simp only;omega⟩ rfl DQ
  ·clear hm hI u d;rintro⟨T,a,es,g⟩ ⟨b,-,hm,hI,-,-⟩;simp only[List.length_map]at b hI ⊢;rw[Zor]at b;have d:=hI.len;have d4:vB x ss=T.filter λt=>!t.isEmpty:=by unfold vB;rw[<-b]
   rw[d4];refine DY ?_;intro v6;refine jd 6 0 42 1 rfl rfl λo=>?_
   repeat apply ze
   refine zg ?_;refine zn (zK (λs:Nat × zt × Nat=>s.1<=T.length/\s.2.1=(T.take s.1).filter λt=>!t.isEmpty) (λ(k,out,o)=>[(4,.ptr (nx+1) v1 0),(9,.ptr (nx+6) v6 0),(54,.sl (nx+5) v5 1 0 ss.length),(55,I ss.length),(56,I k)]) (λ(k,out,o)=>[.cells v0 25 (zE x),.cells v1 39 [.sc (.slice none 0 0)],.map w es,.cells v3 387 (XK x (nx+5) v5 ss.length a (nx+2) w),.cells v4 383 [.ptr (nx+3) v3 0],.cells v5 40 (T.flatMap Enc.enc),.cells v6 39 [.sl (nx+7) o 1 0 out.length],.cells o 42 (out.flatMap Enc.enc)]) (λs=>T.length-s.1) (0,[],o) [] ⟨by simp,by simp⟩ DP DP ?_);rintro⟨k,out,o⟩ ⟨hk,ho⟩;simp only at hk ho ⊢;have e3:out.length<=k:=by rw[ho];exact AF (BF _ _) DT
   refine DY ?_;refine ze (zA rfl (λe=>?_) (λe=>?_))
   ·simp at e;obtain⟨t,tl,a1,a2,a3,e0⟩:=zN rfl T k DO;have m:(T.take (k+1)).filter (λt=>!t.isEmpty)=out++(if t=[] then [] else [t]):=by
     rw[a3,B6,<-ho];cases t<;>simp
    refine zk (ze (zn (ze (zi [] (zF e0 e d) ?_))));refine DY ?_;cases t with
    | nil =>
     rw[if_pos rfl,AH]at m;refine zp DP ?_;refine zk (zg ?_);exact zu (k+1,out,o) [] ⟨by omega,m.symm⟩ DT (by simp[zy k (by omega)]) rfl DP
    | cons s t =>
     rw[if_neg DP]at m;refine zo DP ?_;refine zg ?_;refine⟨by omega,?_⟩;refine zg ?_;exact zu (k+1,out++[s :: t],o+1) [] ⟨by omega,m.symm⟩ DT (by simp[zy k (by omega)]) rfl DP
   ·simp at e;obtain rfl:k=T.length:=DO
    rw[Ai]at ho;refine zC (yh 7 rfl ?_);refine DY ?_;exact zj (zm hd DQ (by simp[zr,ho]))
open Go Hp
abbrev yD:PV:=.sc (.slice none 0 0)
open Go Hp
def JP(pl:PV):Prop:=pl=yD\/∃n cs,pl=.lst n cs
theorem JQ(l:List Stop):JP (L l):=.inr ⟨_,_,rfl⟩
abbrev XL(x:Inst)(b:Int):PV:=.fn (.func 312) [] [.ip (zE x),.ip [I b]]
abbrev fsL(x:Inst)(pl:PV)(b:Int):List PV:=[.fn (.func 313) [] [.ip [pl]],.fn (.func 315) [] [.ip [XL x b],.ip (zE x),.ip [pl]],.fn (.func 317) [] [.ip [XL x b],.ip [pl]],.fn (.func 318) [] [.ip (zE x),.ip [pl],.ip [XL x b]]]
theorem Zou(x:Inst)(a:PV)(b:Int)(c:JP a):Pure prog 285 [.agg (zE x),a,I b] (.fn (.func 320) [] [.ip [.lst 4 (fsL x a b)]]):=by
 rcases c with rfl | ⟨n,cs,rfl⟩
 all_goals
  refine zx func285 ntmps285 results285 λS nx d=>?_
  refine DY ?_;intro v0 v1 e;refine wL 0 rfl ?_;refine wL 1 rfl ?_;refine wL 2 rfl ?_;refine DY ?_;intro v3;refine wL 3 rfl ?_;refine DY ?_;intro v4;refine wL 4 rfl ?_;refine DY ?_;exact DZ d
theorem Zov(a:PV)(d:zt)(b:JP a)(c:Pure prog 314 [a] (.agg [L d])):Pure prog 313 [.ip [a]] (.tup [.agg [L d],B true]):=by
 rcases b with rfl | ⟨n,cs,rfl⟩
 all_goals
  refine zx func313 ntmps313 results313 λS nx e=>?_
  refine DY ?_;intro v0;refine DY ?_;refine zv c ?_;exact DZ e
theorem ZcU(x:Inst)(b:Int)(d e:zt)(n:Int)(hI:Pure prog 252 [.agg (zE x),.agg [L d],I b] (.tup [.agg [L e],I n])):Pure prog 312 [.agg [L d],.ip (zE x),.ip [I b]] (.agg [L e]):=by
 refine zx func312 ntmps312 results312 λS nx a=>?_
 refine DY ?_;intro v0 v1;refine DY ?_;refine zv hI ?_;refine DY ?_;exact DZ a
theorem Zow(x:Inst)(a:PV)(b:Int)(d e:zt)(n:Int)(c:JP a)(f:Pure prog 316 [.agg (zE x),a] (.agg [L d]))(hI:Pure prog 252 [.agg (zE x),.agg [L d],I b] (.tup [.agg [L e],I n])):Pure prog 315 [.ip [XL x b],.ip (zE x),.ip [a]] (.tup [.agg [L e],B true]):=by
 have g:=ZcU x b d e n hI;rcases c with rfl | ⟨n,cs,rfl⟩
 all_goals
  refine zx func315 ntmps315 results315 λS nx h=>?_
  refine DY ?_;intro v0;refine ze (zD (some []) (Row.pures [0,1,2,3,4] (.alt 5 (Row.pures [6] .done) .stop)) mixed trivial ?_);refine zO (f) trivial ?_;refine zO (g) trivial ?_;exact DZ h
theorem Zox(x:Inst)(a:PV)(b:Int)(d e:zt)(n:Int)(c:JP a)(f:Pure prog 314 [a] (.agg [L d]))(hI:Pure prog 252 [.agg (zE x),.agg [L d],I b] (.tup [.agg [L e],I n])):Pure prog 317 [.ip [XL x b],.ip [a]] (.tup [.agg [L e],B true]):=by
 have g:=ZcU x b d e n hI;rcases c with rfl | ⟨n,cs,rfl⟩
 all_goals
  refine zx func317 ntmps317 results317 λS nx h=>?_
  refine DY ?_;intro v0;refine ze (zD (some []) (Row.pures [0,1,2,3] (.alt 4 (Row.pures [5] .done) .stop)) mixed trivial ?_);refine zO (f) trivial ?_;refine zO (g) trivial ?_;exact DZ h
theorem Zgt(x:Inst)(a:PV)(b:Int)(d e:zt)(ok:Bool)(n:Int)(g:JP a)(f:Pure prog 319 [.agg (zE x),a] (.tup [.agg [L d],B ok]))(hI:ok=true->Pure prog 252 [.agg (zE x),.agg [L d],I b] (.tup [.agg [L e],I n])):
  Pure prog 318 [.ip (zE x),.ip [a],.ip [XL x b]] (.tup [.agg [bif ok then L e else yD],B ok]):=by
 rcases g with rfl | ⟨n,cs,rfl⟩
 all_goals
  cases ok with
  | false =>
   refine zx func318 ntmps318 results318 λS nx c=>?_
   refine DY ?_;intro v0;refine DY ?_;refine zv f ?_;intro v1
   repeat apply ze
   refine zg ?_;refine zo rfl (DY ?_);exact DZ c
  | true =>
   have h:=ZcU x b d e _ (hI rfl);refine zx func318 ntmps318 results318 λS nx c=>?_
   refine DY ?_;intro v0;refine DY ?_;refine zv f ?_;intro v1
   repeat apply ze
   refine zg ?_;refine zp rfl (zk (DY ?_));refine zv h ?_;exact DZ c
theorem Zoy(fs:List PV)(rs:List (Option zt))(hl:rs.length=fs.length)(hn:fs.length<=1000)
  (h:∀(k:Nat) f,fs[k]?=some f->∃n a p,f=.fn (.func n) [] a/\Pure prog n a (.tup [.agg [p],B (rs.getD k none).isSome])/\∀d,rs.getD k none=some d->p=L d) :
  QL prog 320 [.ip [.lst fs.length fs]] ((rs.filterMap id).map λd=>[.agg [L d]]):=by
 refine WM func320 DU rfl ntmps320 (congrArg Array.toList results320) DP λl V keep nx J o v A0 q=>?_
 refine DY ?_;refine zn (jX (σ:=Nat × Store) (λs=>s.1<=fs.length/\J ((rs.take s.1).filterMap id).length s.2) (λs=>[(0,xC l),(7,.lst fs.length fs),(8,I fs.length),(9,I s.1)]) (λs=>s.2) (λs=>[]) (λs=>fs.length-s.1) (zZ (0,A0) [] (by simp[q]) DP rfl DP) ?_);rintro⟨k,A⟩ ⟨w,i⟩;simp only at w i ⊢;refine DY ?_;refine ze (zA rfl (λhc=>?_) (λhc=>?_))
 ·simp at hc;have t:fs.drop k=fs[k] :: fs.drop (k+1):=AJ hc;obtain⟨n,a,p,hf,e,u⟩:=h k fs[k] (Ac hc);rw[hf]at t;have g:k<rs.length:=DO
  have c:rs.take (k+1)=rs.take k++[rs[k]]:=AR g;have x:rs.getD k none=rs[k]:=by rw[Aa,Ac g];rfl
  rw[x]at e u;refine zk (ze (zn (ze (zi [] (zq t hc) ?_))));cases m:rs[k] with
  | none =>
   rw[m]at e c;simp only[CI]at e;have b:((rs.take (k+1)).filterMap id).length=((rs.take k).filterMap id).length:=by rw[c];simp
   refine DY ?_;refine zv e ?_;intro v0;refine ze (zi [(1,19)] zB ?_);refine zp rfl (zk (zg ?_));exact zu (k+1,A) [_] ⟨hc,by rw[b];exact i⟩ DT (by simp[zy k (by omega)]) rfl DQ
  | some d =>
   obtain rfl:=u d m;rw[m]at e c;simp only[Option.isSome_some]at e;have b:((rs.take (k+1)).filterMap id).length=((rs.take k).filterMap id).length+1:=by rw[c];simp
   have hx:((rs.filterMap id).map λd=>[PV.agg [L d]])[((rs.take k).filterMap id).length]?=some [PV.agg [L d]]:=by
    have y:rs.filterMap id=(rs.take k).filterMap id++(d :: (rs.drop (k+1)).filterMap id):=by
     conv=>lhs;rw[<-List.take_append_drop k rs,AJ g,m]
     simp
    rw[Aj,y,Ak (Ag _),Bz];rfl
   refine DY ?_;refine zv e ?_;intro v0;refine ze (zi [(1,19)] trivial ?_);refine λj=>XA rfl rfl rfl (v _ _ _ _ hx i) ?_
   rintro _ ⟨A',r,rfl⟩;refine⟨_,_,rfl,xl [(1,19)] trivial j ?_⟩;refine zp rfl (zk (zg ?_));exact zu (k+1,A') [_] ⟨hc,by rw[b];exact r⟩ DT (by simp[zy k (by omega)]) rfl DQ
 ·simp at hc;obtain rfl:k=fs.length:=DO
  rw[<-hl,Ai]at i;refine zC (Zu (o _ _ i) rfl ?_);simpa using i
def vY(x:Inst)(st:zt × Int × Bool)(d:zt):zt × Int × Bool:=if yE x d=0 then (if st.2.2=false\/W (yx x d)<st.2.1 then (d,W (yx x d),true) else st) else st
def QT(x:Inst)(ds:List zt):zt × Int × Bool:=ds.foldl (vY x) ([],0,false)
open Go Hp
theorem Zoz{K:(Nat->PV)->Store->Prop}{Q:Exit->(Nat->PV)->Store->Prop}{i:Nat}{F:Nat->PV}{S:Store}(h:Q (.exit i) F S):YZ K Q (.exit i) F S:=h
theorem ZoA{Q:Exit->(Nat->PV)->Store->Prop}{i:Nat}{F:Nat->PV}{S:Store}(h:Q .normal F S):jW i Q (.exit i) F S:=by simp[jW,h]
def vZ(x:Inst)(e:Int)(ds:List zt):zt × Int:=if e=0 then (bif (QT x ds).2.2 then ((QT x ds).1,0) else ([],14)) else ([],e)
theorem Zgu(x:Inst)(o:PV)(b e:Int)(ds:List zt)(hp:JP o)(hx:x.cust.length<=1048576)(hF:Pure prog 284 [.agg (zE x),o] (I e))
  (hit:e=0->QL prog 320 [.ip [.lst 4 (fsL x o b)]] (ds.map λd=>[.agg [L d]])) (k:e=0->∀d∈ds,DayOk d/\d.flatten.length<=1048576) :
  Pure prog 249 [.agg (zE x),o,I b] (.tup [.agg [L (vZ x e ds).1],I (vZ x e ds).2]):=by
 have hT:=Zou x o b hp;refine zx func249 ntmps249 results249 λS nx r=>?_
 refine DY ?_;intro v0 v1
 repeat apply ze
 refine zg ?_;refine zv hF ?_
 by_cases t:e=0
 case neg =>
  refine DY ?_;refine zo (by simp[t]) ?_;refine DY ?_;refine yn 1 0 rfl rfl ?_;exact zj (zm r DQ (by simp[vZ,t,zr]))
 subst t;have hit:=hit rfl;have k:=k rfl;refine DY ?_;refine zp DP ?_;refine zk (DY ?_);intro z v3 v4;refine yn 2 0 rfl rfl ?_
 repeat apply ze
 refine zg ?_;refine zv hT ?_;refine zn (JE (xs:=ds.map λd=>[PV.agg [L d]]) (σ:=zt × Int × Bool) (λi s=>s=(ds.take i).foldl (vY x) ([],0,false)/\i<=ds.length) [(3,.ptr nx v0 0),(6,.ptr (nx+1) v1 0),(7,I 0),(9,.ptr (nx+2) z 0),(10,.ptr (nx+3) v3 0),(11,.ptr (nx+4) v4 0)] (λ_=>S)
  (λ(h,f,g)=>[.cells v0 25 (zE x),.cells v1 39 [yD],.cells z 39 [L h],.cells v3 3 [I f],.cells v4 4 [B g]]) ([],0,false)
  hit rfl (by intro x hx;obtain⟨y,_,rfl⟩:=Al.1 hx;rfl) DV DP ⟨by simp,by simp⟩ rfl DP DP ?_ ?_)
 ·rintro l i ⟨h,f,g⟩ more y ⟨j,hi⟩ hy;simp only at j hi ⊢;rw[Aj]at hy;obtain⟨d,p,rfl⟩:=Ap.1 hy;obtain⟨u,v⟩:=Ad.1 p;obtain⟨m,w⟩:=k d (Ab p);have q:=Zcz x d hx m.1 m.2 w;have n:=XI x d m;have a:(ds.take (i+1)).foldl (vY x) ([],0,false)=vY x (h,f,g) d:=by
   rw[AR u,v,Bx,<-j];rfl
  unfold vY at a;simp only at a;refine zg ?_;intro v5;refine zn ?_
  repeat apply ze
  refine zg ?_;refine zv q ?_
  by_cases h1:yE x d=0
  ·rw[if_pos h1]at a;refine zp (by simp[h1]) ?_;refine zk (DY ?_);refine zv n ?_;generalize W (yx x d)=c at *;cases g with
   | false =>
    rw[if_pos (.inl rfl)]at a;refine ze (zi [(2,36)] zB ?_);refine zo rfl (zg ?_);simp only[jW];exact wU (d,c,true) [_] ⟨a.symm,by omega⟩ rfl DQ
   | true =>
    by_cases h2:c<f
    ·rw[if_pos (.inr h2)]at a;refine ze (zi [(2,36)] (zq h2 zB) ?_);refine zo rfl (zg ?_);simp only[jW];exact wU (d,c,true) [_] ⟨a.symm,by omega⟩ rfl DQ
    ·rw[if_neg (by simp[h2])]at a;refine ze (zi [(2,36)] (zq h2 zB) ?_);refine zp rfl (zk ?_);simp only[jW];exact wU (h,f,true) [_] ⟨a.symm,by omega⟩ rfl DQ
  ·rw[if_neg h1]at a;refine zo (by simp[h1]) ?_;refine zC (Zoz (ZoA ?_));exact wU (h,f,g) [_] ⟨a.symm,by omega⟩ rfl DQ
 ·rintro⟨h,f,g⟩ ⟨j,-⟩;simp only[List.length_map,Ai]at j ⊢;have hz:QT x ds=(h,f,g):=j.symm;cases g with
  | false =>
   repeat apply ze
   refine zg ?_;refine zo rfl (DY ?_);refine yn 1 0 rfl rfl ?_;exact zj (zm r DQ (by simp[vZ,hz,zr]))
  | true =>
   repeat apply ze
   refine zg ?_;refine zp rfl (zk (DY ?_));exact zj (zm r DQ (by simp[vZ,hz,zr]))
open Go Hp
theorem Zgv(a:List PV)(s:Stop)(hl:a.length=13):Pure prog 336 [.agg a,.agg [I s.c,I s.q]] (.fn (.func 352) [] [.ip [I s.c,I s.q],.ip a]):=by
 refine zx func336 ntmps336 results336 λS nx b=>?_
 refine ze (zi [] hl ?_);intro v0 v1;refine DY ?_;refine wL 0 rfl ?_;refine wL 1 rfl ?_;exact DZ b
open Go Go.Lib Go.Proofs
theorem JR:ElemOk prog 40 100 (.agg #[.int .i64 0,.int .i64 0]) 16 :=
 ⟨underlying40,by simp,by simp,by simp,by simp,by omega⟩
theorem Zgw(a:Addr)(n c:Nat)(w W2:World)(u:Value)(b:∀ty,(Builtin.append_ #[40,40] ty #[.slice (some ⟨w.heap.size,0,none⟩) 0 0,.slice (some a) n c]).run prog (w.alloc (.cells #[] 100))=.ok u W2):
  Calls prog 290 #[.slice (some a) n c] w λe w'=>e=.returned u/\w'=W2:=by
 have mixed:prog.follows .mixedOrders=true:=DR
 have g:∀(w:World) (a:Option Addr) (n c d f:Nat),(binOp .eql 40 (.slice a n c) (.slice none d f)).run prog w=.ok (.bool a.isNone) w:=λw a n c d f=>Lib.run_eql_slice_nil w _ _ a n c d f underlying40
 go_enter func290,ntmps290
 go_wp2_with (at_builtin;refine Lib.wpList_append_run _ rfl _ _ _ _ rfl _ _ rfl rfl _ _ (b _) ?_)
 go_wp2
 go_ret
 exact⟨rfl,rfl⟩
theorem ZoB(n c:Nat)(w:World):
  Calls prog 290 #[.slice none n c] w λe w'=>e=.returned (.slice none 0 0)/\w'=w:=by
 have mixed:prog.follows .mixedOrders=true:=DR
 have f:∀(w:World) (a:Option Addr) (n c b d:Nat),(binOp .eql 40 (.slice a n c) (.slice none b d)).run prog w=.ok (.bool a.isNone) w:=λw a n c b d=>Lib.run_eql_slice_nil w _ _ a n c b d underlying40
 go_enter func290,ntmps290
 go_wp2
 go_ret
 exact⟨rfl,rfl⟩
theorem ZcV(l:List Stop)(h0:0<l.length)(hn:l.length<=1048576)(S:Store)(nx:Nat)(t:S nx=.dead):
  Spec prog 290 [L l] S (λp S'=>∃v,p=.sl nx v 2 0 l.length/\S'=S.set nx (.cells v 100 (l.flatMap Enc.enc))):=by
 refine⟨qx func290 DU rfl,?_⟩;intro C w vs x hl y;obtain⟨u,rfl⟩:=Zcv hl;have j:Rel C S w (.lst l.length (l.flatMap Enc.enc)) u:=y 0 _ u rfl rfl;obtain⟨a,cap,rfl⟩:∃a cap,u=.slice (some a) l.length cap:=by
  generalize hq:l.flatMap Enc.enc=cs at j;generalize l.length=n at *;cases j with
  | lst0=>omega
  | lst1=>exact⟨_,_,rfl⟩
 obtain⟨k1,r,m1⟩:=x.alloc (.cells #[] 100);have hc:prog.cellsOf 100=2:=DP
 obtain⟨news,c,h,_⟩:=Zae (P:=prog) (sz:=2) (m:=l.length) (ds:=l.flatMap Enc.enc) k1 (by simp[Yl]) (j.mono r);rw[<-hc]at c;have f:=λty=>Zad (P:=prog) (ty:=ty) (b:=some ⟨w.heap.size,0,none⟩) (k:=0) (cap:=0) (olds:=[]) JR.ty JR.pos JR.zero JR.bytes c (run_firstCells_some _ _ 0 ⟨w.heap.size,0,none⟩ 0 0 [] DP DP) DO DO JR.bpos
 simp only[AS]at f;refine(Zgw a l.length cap w _ _ f).mono ?_;rintro e w' ⟨rfl,rfl⟩;have o:=grownCap_ge (w.alloc (.cells #[] 100)) l.length 0 100;obtain⟨z,s⟩:=k1.drew;have q:Fresh C S nx C.clock:=.clock C t;have d:=Xo (cs:=[]) (vs:=[]) (by simp[RelL]) h (Builtin.zeroCells (Value.agg #[.int .i64 0,.int .i64 0]).cells (grownCap (w.alloc (.cells #[] 100)) l.length 0 100-l.length)).toList;simp only[AQ]at d;have g:∀i:Nat,(([]:List Value).toArray++news.toArray++Builtin.zeroCells (Value.agg #[.int .i64 0,.int .i64 0]).cells (grownCap (w.alloc (.cells #[] 100)) l.length 0 100-l.length):Array Value)[i]?=(news++(Builtin.zeroCells (Value.agg #[.int .i64 0,.int .i64 0]).cells (grownCap (w.alloc (.cells #[] 100)) l.length 0 100-l.length)).toList)[i]?:=by
  intro i;rw[<-Array.getElem?_toList];simp
 obtain⟨t1,t2⟩:=z.object' q 100 (([]:List Value).toArray++news.toArray++Builtin.zeroCells (Value.agg #[.int .i64 0,.int .i64 0]).cells (grownCap (w.alloc (.cells #[] 100)) l.length 0 100-l.length)) (l.flatMap Enc.enc) (by have:=d.1;simp at this ⊢;omega) (λi v hi hv=>d.2.1 i v hi (by rw[<-g];exact hv)) (λi p v hp hv=>(d.2.2 i p v hp (by rw[<-g];exact hv)).mono s);refine⟨_,_,_,_,rfl,⟨C.clock,rfl,rfl⟩,WI C S _ _ _ _ _ _ _ _ _ rfl o (AF hn (by unfold xk;omega)) (grownCap_le_maxLen _ _ _ _ (by unfold maxLen;omega)) ?_,t1,r.trans (s.trans t2)⟩;have:=c.size;simp only[Cn,size_zeroCells,BP,this,hc];simp[Value.cells];omega
theorem ZaH(l:List Stop)(hn:l.length<=1048576):Pure prog 290 [L l] (L l):=by
 by_cases h0:0<l.length
 ·exact Zan 0 (λS nx n=>ZcV l h0 hn S nx (n nx (Ag _))) DP
 ·obtain rfl:l=[]:=Av DO;intro S;refine⟨qx func290 DU rfl,?_⟩;intro C w vs g hl o;obtain⟨u,rfl⟩:=Zcv hl;have h:Rel C S w (.lst 0 []) u:=o 0 _ u rfl rfl;obtain⟨a,cap,rfl⟩:∃a cap,u=.slice a 0 cap:=by
   cases h with
   | lst0=>exact⟨_,_,rfl⟩
   | lst1=>exact⟨_,_,rfl⟩
  cases a with
  | none =>
   refine(ZoB 0 cap w).mono ?_;rintro e w' ⟨rfl,rfl⟩;exact⟨_,_,_,_,rfl,⟨rfl,rfl⟩,.lst0,g,.refl _ _ _⟩
  | some a =>
   obtain⟨k1,i,p⟩:=g.alloc (.cells #[] 100);have hc:prog.cellsOf 100=2:=DP
   obtain⟨news,c,j,_⟩:=Zae (P:=prog) (sz:=2) (m:=0) (ds:=[]) k1 (by simp[Yl]) (h.mono i);have f:news=[]:=Av (by rw[c.size,CY]);subst f;rw[<-hc]at c;have d:=λty=>Zb5 (P:=prog) (ty:=ty) (b:=some ⟨w.heap.size,0,none⟩) (k:=0) (cap:=0) JR.ty JR.pos c (Ag 0)
   refine(Zgw a 0 cap w _ _ d).mono ?_;rintro e w' ⟨rfl,rfl⟩;exact⟨_,_,_,_,rfl,⟨rfl,rfl⟩,.lst0,k1,i⟩
theorem ZoC{S:Store}{id ver:Nat}(cs:List Stop)(s:Stop)(hn:cs.length<=1000000)(hid:S id=.cells ver 100 (cs.flatMap Enc.enc)):
  Spec prog 338 [.sl id ver 2 0 cs.length,I cs.length,L [s]] S (λp S'=>p=.sl id (ver+1) 2 0 (cs.length+1)/\S'=S.set id (.cells (ver+1) 100 ((cs++[s]).flatMap Enc.enc))):=by
 refine yt func338 ntmps338 results338 λnx d=>?_
 have b:id<nx:=by
  rcases Bh id nx with h | h
  ·exact h
  ·have:=d id h;rw[hid]at this;cases this
 have hx:=λobs=>(zJ (S:=S) (obs:=obs) b).trans hid
 have a:¬nx<=id:=DO
 refine ze (zi [] hx ?_);refine ze (zi [] hx ?_);refine ze (zi [] hx ?_)
 repeat apply ze
 refine zi [] hx ?_;refine zp rfl (zk (ze (zi [] hx ?_)))
 repeat apply ze
 refine zi [] hx ?_;refine zo rfl (ze (zi [] (zq hx a) ?_));refine⟨by omega,?_⟩;have c:∀(o:Ob),yd nx (S.set id o):=by
  intro o q e;rw[q10 _ _ _ _ DO];exact d q e
 exact zj ⟨_,_,by simp;rfl,⟨by simp[zr],by simp⟩,yb (c _)⟩
theorem ZoD{S:Store}{id ver:Nat}(cs:List Stop)(i:Nat)(s:Stop)(hi:i<=cs.length)(hn:cs.length<=1000000)(hid:S id=.cells ver 100 (cs.flatMap Enc.enc)):
  Spec prog 338 [.sl id ver 2 0 cs.length,I i,L [s]] S (λp S'=>p=.sl id (ver+1) 2 0 (cs.length+1)/\S'=S.set id (.cells (ver+1) 100 ((cs.take i++s :: cs.drop i).flatMap Enc.enc))):=by
 by_cases h:i=cs.length
 ·subst h;rw[Ai,BN];exact ZoC cs s hn hid
 ·exact ZmC cs i s DO hn hid
open Go Go.Proofs
def JS(d:zt)(t nx:Nat)(k:Nat)(ts:List PV)(ob:Ob):Prop :=
 ts.length=k/\(k<=t->ts=(d.take k).flatMap Enc.enc/\ob=.dead) /\
 (t<k->∃v l,d[t]?=some l/\ts=((d.take k).flatMap Enc.enc).set t (.sl (nx+4) v 2 0 l.length)/\ob=.cells v 100 (l.flatMap Enc.enc))
theorem ZoE{d:zt}{t nx k:Nat}{g:List PV}{ob:Ob}(h:JS d t nx k g ob)(i:k<d.length)(j:k≠t):JS d t nx (k+1) (g++[L d[k]]) ob:=by
 obtain⟨h1,h2,h3⟩:=h;have e:d.take (k+1)=d.take k++[d[k]]:=AR i;refine⟨by simp[h1],λf=>?_,λf=>?_⟩
 ·obtain⟨a,b⟩:=h2 DO;exact⟨by rw[e,a,Aq];rfl,b⟩
 ·obtain⟨v,l,a,b,c⟩:=h3 DO;refine⟨v,l,a,?_,c⟩;rw[b,e,Aq,List.set_append_left _ _ (by rw[xD];simp;omega)];rfl
theorem ZoF{d:zt}{t nx:Nat}{b:List PV}{ob:Ob}(h:JS d t nx t b ob)(c:t<d.length)(v:Nat):JS d t nx (t+1) (b++[.sl (nx+4) v 2 0 d[t].length]) (.cells v 100 (d[t].flatMap Enc.enc)):=by
 obtain⟨h1,h2,h3⟩:=h;have e:d.take (t+1)=d.take t++[d[t]]:=AR c;refine⟨by simp[h1],λf=>by omega,λ_=>⟨v,d[t],Ac c,?_,rfl⟩⟩;obtain⟨a,-⟩:=h2 (Ag _);have hl:((d.take t).flatMap Enc.enc).length=t:=by rw[xD];simp;omega
 rw[a,e,Aq,BE _ _ DO,hl,Bz];rfl
theorem ZcW(d:zt)(t:Nat)(r:d.length<=1048576)(h:∀l∈d,l.length<=1048576)(u:∀l,d[t]?=some l->0<l.length)(S:Store)(nx:Nat)(n:yd nx S):
  Spec prog 337 [.agg [L d]] S (λp S'=>∃v a ob,JS d t nx d.length a ob/\p=.agg [.sl (nx+3) v 1 0 d.length]/\S'=(S.set (nx+3) (.cells v 42 a)).set (nx+4) ob):=by
 refine Zv n func337 ntmps337 results337 ?_;refine DY ?_;intro v0 v1;refine DY ?_;intro f;refine jd 2 0 42 1 rfl rfl λv3=>?_
 repeat apply ze
 refine zg ?_
 show PW _ _ _ _ _ _ _ (ext _ _ _)
 rw[Zfu 1];refine zn (zK (λ(s:Nat × List PV × Ob × Nat × Nat)=>s.1<=d.length/\JS d t nx s.1 s.2.1 s.2.2.1) (λ(k,a,ob,f,v3)=>[(2,.ptr (nx+1) v1 0),(3,.ptr (nx+2) f 0),(7,L d),(8,I d.length),(9,I k)]) (λ(k,a,ob,f,v3)=>[.cells v0 39 [L d],.cells v1 39 [yD],.cells f 39 [.sl (nx+3) v3 1 0 k],.cells v3 42 a,ob]) (λs=>d.length-s.1) (0,[],.dead,f,v3) [] ⟨by simp,by simp[JS]⟩ DP DP ?_);rintro⟨k,a,ob,f,v3⟩ ⟨w,hI⟩;simp only at w hI ⊢;have b:=hI.1;have c:a.take k=a:=Af DO;refine DY ?_;refine ze (zA rfl (λhc=>?_) (λhc=>?_))
 ·simp at hc;obtain⟨l,tl,q,y,a3,x⟩:=zN rfl d k hc;obtain⟨e,rfl⟩:=Ad.1 q;have j:1<=d.length-k:=DO
  refine zk (ze (zn (ze (zi [] (zF hc x j) ?_))));intro v5
  by_cases i:k=t
  ·subst i;have g:=ZcV d[k] (u _ q) (h _ (Bc e));obtain rfl:=(hI.2.1 (Ag _)).2;refine zD (some [nx+5]) (Row.pures [0,2,3] (.alt 1 (.alt 4 (Row.pures [5,6] (.alt 7 (Row.pures [8] (.alt 9 (.done) .stop)) .stop)) .stop) (.alt 4 (Row.pures [5,6] (.alt 1 (.alt 7 (Row.pures [8] (.alt 9 (.done) .stop)) .stop) .stop)) .stop))) mixed (zq b c) ?_;refine⟨?_,?_⟩
   all_goals
    skip
    refine((g _ (nx+4) DP).mono ?_).v;rintro _ _ ⟨v4,rfl,rfl⟩;rw[yl _ DO DP,AI];refine⟨by simp[yR],jY (zq b c) ?_⟩;refine⟨by omega,?_⟩;refine zg ?_;exact zu (k+1,_,_,f,v3+1) [_] ⟨hc,ZoF hI e v4⟩ DT (by simp[zy k (by omega)]) rfl DQ
  ·have g:=ZaH d[k] (h _ (Bc e));refine zD (some [nx+5]) (Row.pures [0,2,3,4,5,6] (.alt 1 (.alt 7 (Row.pures [8] (.alt 9 (.done) .stop)) .stop) .stop)) mixed (zq b c) ?_;refine zO (g) (zq b c) ?_;refine⟨by omega,?_⟩;refine zg ?_;exact zu (k+1,_,_,f,v3+1) [_] ⟨hc,ZoE hI e i⟩ DT (by simp[zy k (by omega)]) rfl DQ
 ·simp at hc;obtain rfl:k=d.length:=DO
  refine zC (DY ?_);refine zj ⟨_,(S.set (nx+3) (.cells v3 42 a)).set (nx+4) ob,by simp;rfl,⟨v3,a,ob,hI,rfl,rfl⟩,?_⟩;intro o
  by_cases m:o=nx+4
  ·subst m;exact .inl (by rw[q11];simp)
  by_cases h3:o=nx+3
  ·subst h3;exact .inl (by rw[q10 _ _ _ _ m,q11];simp)
  rw[q10 _ _ _ _ m,q10 _ _ _ _ h3];exact yb n o
theorem ZoG(d:zt)(a:d.length<=1048576)(b:∀l∈d,l.length<=1048576):Pure prog 337 [.agg [L d]] (.agg [L d]):=by
 refine Zft (k:=d.length) (sz:=1) (e:=42) (cs:=d.flatMap Enc.enc) 3 (λS nx c=>(ZcW d d.length a b DP S nx c).mono ?_) DP;rintro _ _ ⟨v,g,ob,⟨h1,h2,-⟩,rfl,rfl⟩;obtain⟨rfl,rfl⟩:=h2 (Ag _);rw[Ai];refine⟨v,rfl,?_⟩;funext o
 by_cases f:o=nx+4
 ·subst f;rw[q11,q10 _ _ _ _ DO,c _ DO]
 ·rw[q10 _ _ _ _ f]
theorem ZoH(d:zt)(t:Nat)(l:zU)(a:d.length<=1048576)(b:∀l∈d,l.length<=1048576)(c:d[t]?=some l)(hl:0<l.length)(S:Store)(nx:Nat)(e:yd nx S):
  Spec prog 337 [.agg [L d]] S (λp S'=>∃v w,p=.agg [.sl (nx+3) v 1 0 d.length] /\
   S'=(S.set (nx+3) (.cells v 42 ((d.flatMap Enc.enc).set t (.sl (nx+4) w 2 0 l.length)))).set (nx+4) (.cells w 100 (l.flatMap Enc.enc))):=by
 refine(ZcW d t a b (λm hm=>by rw[c]at hm;cases hm;exact hl) S nx e).mono ?_;rintro _ _ ⟨v,f,ob,⟨h1,-,h3⟩,rfl,rfl⟩;obtain⟨w,m,hm,rfl,rfl⟩:=h3 (Ad.1 c).1;rw[c]at hm;cases hm;rw[Ai];exact⟨v,w,rfl,rfl⟩
open Go Go.Proofs
def j6(x:Inst)(t:zU):Int:=W (yN x (t.map (·.c)))
def jN(t:zU):Int:=W (ye t)
def qj(x:Inst)(d:zt):Nat:=(d.filter λt=>decide (yc x t≠0)).length
theorem ZoI(x:Inst)(d e:zt):qj x (d++e)=qj x d+qj x e:=by simp[qj]
theorem ZoJ(x:Inst)(t:zU):qj x [t]=if yc x t=0 then 0 else 1:=by
 by_cases h:yc x t=0<;>simp[qj,h]
theorem Zgx(x:Inst)(d:zt):qj x d<=d.length:=BF _ _
abbrev ZU(x:Inst)(d:zt):List PV:=[I x.days,I x.veh,I x.cap,I x.len,L x.cust,L x.dist,L d,L (qe (d.flatten.map (·.c))),B (decide (¬(qe (d.flatten.map (·.c))).Nodup)),L (d.map (yc x)),I (qj x d),L (d.map jN),L (d.map (j6 x))]
theorem Zgy(x:Inst)(d:zt)(hx:x.cust.length<=1048576)(a:DayOk d)(hf:d.flatten.length<=1048576):Pure prog 333 [.agg (zE x),.agg [L d]] (.agg (ZU x d)):=by
 have h1:=ZfW d a.1 hf;have h2:=Zf4 d.flatten hf;have h3:=Zf3 (qe (d.flatten.map (·.c))) (by rw[QO,List.length_map];exact hf) (WU _);generalize i:qe (d.flatten.map (·.c))=on at *;generalize j:decide (¬on.Nodup)=tw at *;refine zx func333 ntmps333 results333 λS nx r=>?_
 refine DY ?_;intro v0 v1 g;refine ze (zD (some [nx,nx+1]) (Row.pures [0,1,2,3,4,5] (.alt 6 (.alt 7 (.done) .stop) .stop)) mixed trivial ?_);refine zO (h1) trivial ?_;refine zO (h2) trivial ?_;intro v3;refine DY ?_;refine zv h3 ?_
 repeat apply ze
 refine zg ?_;refine jd 3 9 47 1 rfl rfl λv4=>?_
 refine jd 3 11 3 1 rfl rfl λv5=>?_
 refine jd 3 12 3 1 rfl rfl λb=>?_
 refine zn (zK (λ(k,v4,v5,b)=>k<=d.length) (λ(k,v4,v5,b)=>[(2,.ptr nx v0 0),(4,.ptr (nx+2) g 0),(5,.ptr (nx+3) v3 0),(20,L d),(21,I d.length),(22,I k)])
  (λ(k,v4,v5,b)=>[.cells v0 25 (zE x),.cells v1 39 [L d],.cells g 395 [I 0,I 0,I 0,I 0,yD,yD,yD,yD,B false,yD,I 0,yD,yD],
   .cells v3 395 [I x.days,I x.veh,I x.cap,I x.len,L x.cust,L x.dist,L d,L on,B tw,.sl (nx+4) v4 1 0 k,I (qj x (d.take k)),.sl (nx+5) v5 1 0 k,.sl (nx+6) b 1 0 k],
   .cells v4 47 (((d.map (yc x)).take k).flatMap Enc.enc),.cells v5 3 (((d.map jN).take k).flatMap Enc.enc),.cells b 3 (((d.map (j6 x)).take k).flatMap Enc.enc)]) (λs=>d.length-s.1) (0,v4,v5,b) [] DP DP (by simp[qj]) ?_)
 rintro⟨k,v4,v5,b⟩ u;simp only at u ⊢;refine DY ?_;refine ze (zA rfl (λhc=>?_) (λhc=>?_))
 ·simp at hc;obtain⟨t,tl,v,a2,a3,w⟩:=zN rfl d k hc;have l:1<=d.length-k:=DO
  have e:=Ab v;have hm:=WX x t hx (a.t t e);have hl:=ZfV t (a.t t e);have y:=WT x t (a.t t e) (a.s t e);have b1:qj x (d.take (k+1))=qj x (d.take k)+if yc x t=0 then 0 else 1:=by rw[a3,ZoI,ZoJ]
  have b2:=Zgx x (d.take k);rw[Ax]at b2;have b3:=a.n;have b4:=Nat.min_le_left k d.length;have z:(((d.map (yc x)).take (k+1)).flatMap Enc.enc:List PV)=((d.map (yc x)).take k).flatMap Enc.enc++[I (yc x t)]:=by rw[<-List.map_take,<-List.map_take,a3];simp
  have f2:(((d.map jN).take (k+1)).flatMap Enc.enc:List PV)=((d.map jN).take k).flatMap Enc.enc++[I (W (ye t))]:=by rw[<-List.map_take,<-List.map_take,a3];simp[jN]
  have f3:(((d.map (j6 x)).take (k+1)).flatMap Enc.enc:List PV)=((d.map (j6 x)).take k).flatMap Enc.enc++[I (W (yN x (t.map (·.c))))]:=by rw[<-List.map_take,<-List.map_take,a3];simp[j6]
  have l1:(((d.map (yc x)).take k).flatMap Enc.enc:List PV).length=k:=by rw[jL,Ax,List.length_map];omega
  have m:(((d.map jN).take k).flatMap Enc.enc:List PV).length=k:=by rw[jL,Ax,List.length_map];omega
  have o:(((d.map (j6 x)).take k).flatMap Enc.enc:List PV).length=k:=by rw[jL,Ax,List.length_map];omega
  generalize ((d.map (yc x)).take k).flatMap Enc.enc=c1 at *;generalize ((d.map jN).take k).flatMap Enc.enc=c2 at *;generalize ((d.map (j6 x)).take k).flatMap Enc.enc=c3 at *;have t1:c1.take k=c1:=Af DO;have p:c2.take k=c2:=Af DO;have t3:c3.take k=c3:=Af DO;generalize qj x (d.take k)=h at *;have wb:IntKind.i64.wrap ((h:Int)+1)=((h+1:Nat):Int):=zy h DO;generalize yc x t=mt at *;generalize W (ye t)=lt at *;generalize W (yN x (t.map (·.c)))=wt at *;refine zk (ze (zn (ze (zi [] (zF hc w l) ?_))));intro q;refine DY ?_;refine zv hm ?_
  repeat apply ze
  refine zg ?_;refine qy (nx:=nx) (λ_:Unit=>True) (λ_=>[(2,.ptr nx v0 0),(4,.ptr (nx+2) g 0),(5,.ptr (nx+3) v3 0),(7,.ptr (nx+7) q 0),(8,I mt),(20,L d),(21,I d.length),(22,I k)]) (λ_=>S) (λ_=>[.cells v0 25 (zE x),.cells v1 39 [L d],.cells g 395 [I 0,I 0,I 0,I 0,yD,yD,yD,yD,B false,yD,I 0,yD,yD],
   .cells v3 395 [I x.days,I x.veh,I x.cap,I x.len,L x.cust,L x.dist,L d,L on,B tw,.sl (nx+4) v4 1 0 k,I (h+(if mt=0 then 0 else 1):Nat),.sl (nx+5) v5 1 0 k,.sl (nx+6) b 1 0 k],
   .cells v4 47 c1,.cells v5 3 c2,.cells b 3 c3,.cells q 42 [L t]]) ?_ ?_
  ·repeat apply ze
   refine zA rfl (λf=>?_) (λf=>?_)
   ·simp at f;rw[if_neg f];refine zi [] wb ?_;exact zZ () [] trivial DP rfl DP
   ·simp at f;rw[if_pos f];exact zk (zZ () [] trivial DP rfl DP)
  ·rintro⟨⟩ -;refine ze (zi [] (zq t1 l1) ?_);refine⟨by omega,?_⟩;refine ze (zD (some [nx+7]) (Row.pures [0,2,3,4] (.alt 1 (.alt 5 (Row.pures [6] (.alt 7 (.done) .stop)) .stop) .stop)) mixed (zq p m) ?_);refine zO (hl) (zq p m) ?_;refine⟨by omega,?_⟩;refine zD (some [nx,nx+7]) (Row.pures [0,2,3,4,5] (.alt 1 (.alt 6 (Row.pures [7] (.alt 8 (.done) .stop)) .stop) .stop)) mixed (zq t3 o) ?_;refine zO (y) (zq t3 o) ?_;refine⟨by omega,?_⟩;refine zg ?_;exact zu (k+1,v4+1,v5+1,b+1) [_] DT DT (by simp[zy k (by omega)]) rfl (by simp only[z,f2,f3,b1];simp;rfl)
 ·simp at hc;obtain rfl:k=d.length:=DO
  refine zC (DY ?_);refine yh 6 rfl ?_;refine yh 5 rfl ?_;refine yh 4 rfl ?_;have g1:(d.map (yc x)).take d.length=d.map (yc x):=Af DP;have g2:(d.map jN).take d.length=d.map jN:=Af DP;have g3:(d.map (j6 x)).take d.length=d.map (j6 x):=Af DP;exact zj (zm r DQ (by simp[zr,g1,g2,g3];simp[<-i,<-j]))
open Go Go.Proofs
def ZaI(P:Program)(k:FuncId)(args:Nat->List PV)(xs:List (List PV))(ret:PV):Prop :=
 qC P k/\∀(l:Nat) (V:Ctx->Store->World->Prop) (_:∀{C C':Ctx} {S S':Store} {w w':World},Step C S w C' S' w'->V C S w->V C' S' w') (m:Nat) (J:Nat->Store->Prop),(∀i A,J i A->yd m A) ->
  (∀i A obs x,xs[i]?=some x->J i A->PYield P V l x (ext A m obs) (λT=>∃A',J (i+1) A'/\T=ext A' m obs)) ->
  ∀A,J 0 A->PCallsV P V k (args l) A (λp T=>p=ret/\J xs.length T)
theorem Zgz {P : Program} {N : Nat} {f : FuncId} {fn : Func} {c : Code} {rs : List ResultVar} {args : Nat → List PV} {xs : List (List PV)} {ret : PV} (hf : P.funcs[f]? = some fn) (hname : (fn.name == "runtime.NumGoroutine") = false) (hb : fn.body = some c) (hN : fn.ntmps = N) (hrs : fn.results.toList = rs) (hargs : ∀ l, (args l).length ≤ N)
  (h:∀(l:Nat) (V:Ctx->Store->World->Prop) (keep:∀{C C':Ctx} {S S':Store} {w w':World},Step C S w C' S' w'->V C S w->V C' S' w') (nx:Nat) (J:Nat->Store->Prop),(∀i A,J i A->yd nx A) ->
   (∀i A obs x,xs[i]?=some x->J i A->PYield P V l x (ext A nx obs) (λT=>∃A',J (i+1) A'/\T=ext A' nx obs)) ->
   ∀A,J 0 A->PW P ⟨none,V,keep⟩ 0 N c (ZO P rs (λp T=>p=ret/\J xs.length T)) (uW (args l)) (ext A nx [])):ZaI P f args xs ret:=by
 refine⟨qx hf hname hb,λl V keep m J a d A b=>?_⟩;have:=h l V keep m J a d A b;rw[qZ (a 0 A b)]at this;exact Zb1 hf hb hN hrs (hargs l) this
theorem PYield.mono{P:Program}{V:Ctx->Store->World->Prop}{l:Nat}{args:List PV}{S:Store}{Q Q':Store->Prop}(h:PYield P V l args S Q)(d:∀T,Q T->Q' T):PYield P V l args S Q':=by
 intro C w vs h1 h2 h3 f;obtain⟨fn,tmps,assign,body,g,i⟩:=h C w vs h1 h2 h3 f;refine⟨fn,tmps,assign,body,g,i.mono ?_⟩;rintro e w' ⟨S',C',a,b,c⟩;exact⟨S',C',a,d _ b,c⟩
theorem ZgA{P:Program}{k:FuncId}{args:Nat->List PV}{xs:List (List PV)}{ret:PV}(h:ZaI P k args xs ret){V:Ctx->Store->World->Prop}(keep:∀{C C':Ctx} {S S':Store} {w w':World},Step C S w C' S' w'->V C S w->V C' S' w')
  {l nx:Nat} {J:Nat->Store->Prop} {d:List (List PV)} (e:∀i A obs x,d[i]?=some x->J i A->PYield P V l x (ext A nx obs) (λT=>∃A',J (i+1) A'/\T=ext A' nx obs))
  (off:Nat) (b:∀i x,xs[i]?=some x->d[off+i]?=some x) {A:Store} (f:J off A) (obs:List Ob) :
  SpecV P V k (args l) (ext A nx obs) (λp T=>∃A',p=ret/\J (off+xs.length) A'/\T=ext A' nx obs):=by
 refine⟨h.1,(h.2 l V keep (nx+obs.length) (λi T=>∃A',J (off+i) A'/\T=ext A' nx obs) ?_ ?_ (ext A nx obs) ⟨A,f,rfl⟩).mono ?_⟩
 ·rintro i T ⟨A',_,rfl⟩;exact xB
 ·rintro i T more x hx ⟨A1,c,rfl⟩;rw[Zap _ _ rfl];refine(e (off+i) A1 (obs++more) x (b i x hx) c).mono ?_;rintro T ⟨A',a,rfl⟩;exact⟨ext A' nx obs,⟨A',a,rfl⟩,(Zap _ _ rfl).symm⟩
 ·rintro p T ⟨rfl,A',a,rfl⟩;exact⟨A',rfl,a,rfl⟩
theorem ZaJ{P:Program}{nx:Nat}{F:Nat->PV}{obs:List Ob}{rs:List ResultVar}{ps:List PV}{J:Store->Prop}{A:Store}{ret:PV}(a:yd nx A)(h1:wT P F (ext A nx obs) rs=some ps)(h2:zr ps=ret)(b:J A):
  ∃ps S',wT P F (ext A nx obs) rs=some ps/\(zr ps=ret/\J S')/\∀o,S' o=ext A nx obs o\/S' o=.dead:=⟨ps,A,h1,⟨h2,b⟩,yb a⟩
theorem ZgB{α:Type}{f:Nat->Option α}{n k:Nat}{v:α}(a:k<n)(hf:f k=some v):((List.range n).filterMap f)[((List.range k).filterMap f).length]?=some v:=by
 obtain⟨m,rfl⟩:∃m,n=k+(m+1):=⟨n-k-1,by omega⟩;rw[Dj,BY,Ak (Ag _),Bz,CM];simp[hf]
theorem ZgC{α:Type}{f:Nat->Option α}{k:Nat}(hf:f k=none):((List.range (k+1)).filterMap f).length=((List.range k).filterMap f).length:=by
 rw[AO,BY];simp[hf]
theorem ZgD{α:Type}{f:Nat->Option α}{k:Nat}{v:α}(hf:f k=some v):((List.range (k+1)).filterMap f).length=((List.range k).filterMap f).length+1:=by
 rw[AO,BY];simp[hf]
structure Spot where
 t:Nat
 p:Nat
 m:Int
abbrev ZV(s:Spot):List PV:=[.agg [I s.t,I s.p,I s.m]]
def uc(l:zU)(i:Nat):Int:=if i=0 then 0 else (l.getD (i-1) default).c+1
def u7(l:zU)(i:Nat):Int:=if i<l.length then (l.getD i default).c+1 else 0
def u9(x:Inst)(l:zU)(s:Stop)(i:Nat):Int:=W (W (arc x (uc l i) (s.c+1)+arc x (s.c+1) (u7 l i))-arc x (uc l i) (u7 l i))
def Za(x:Inst)(t:Nat)(l:zU)(w:Int)(s:Stop)(i:Nat):Option Spot:=if W (w+u9 x l s i)<=x.len then some ⟨t,i,u9 x l s i⟩ else none
def Zz(x:Inst)(t:Nat)(l:zU)(fl bad ll w:Int)(s:Stop):List Spot :=
 if 0<bad-(if fl=13 then 1 else 0)\/x.cap<W (ll+s.q) then [] else (List.range (l.length+1)).filterMap (Za x t l w s)
abbrev Zb(x:Inst)(d:zt)(on:List Int)(tw:Bool)(fs:List Int)(bad:Int)(ls ws:List Int):List PV:=[I x.days,I x.veh,I x.cap,I x.len,L x.cust,L x.dist,L d,L on,B tw,L fs,I bad,L ls,L ws]
theorem ZoK(x:Inst)(d:zt)(on:List Int)(tw:Bool)(fs:List Int)(bad:Nat)(ls ws:List Int)(t:Nat)(l:zU)(s:Stop)(r u w:Int)(d3:bad<=1048576)(d4:d.length<=1048576)(hd:d[t]?=some l)(b7:fs[t]?=some r)(b8:ls[t]?=some u)(c6:ws[t]?=some w)
  (d5:fs.length=d.length) (d6:ls.length=d.length) (d7:ws.length=d.length) (hb:r=13->0<bad) (d8:l.length<=1048576) (a7:∀s∈l,qv s.c) (a8:qv s.c) :
  ZaI prog 354 (λy=>[.agg (Zb x d on tw fs bad ls ws),I t,.agg [I s.c,I s.q],xC y]) ((Zz x t l r bad u w s).map ZV) (B true):=by
 refine Zgz func354 DU rfl ntmps354 (congrArg Array.toList results354) DP λy V keep nx J v hY A0 g=>?_
 have ht:t<d.length:=(Ad.1 hd).1;obtain⟨c7,tf,a1,-,-,ef⟩:=zN rfl fs t DO;obtain⟨c8,tl,a2,-,-,a9⟩:=zN rfl ls t DO;obtain⟨w',d9,a3,-,-,ew⟩:=zN rfl ws t DO;obtain⟨l',td,a4,-,-,ed⟩:=zN rfl d t ht;obtain rfl:r=c7:=by rw[b7]at a1;exact Option.some.inj a1
 obtain rfl:u=c8:=by rw[b8]at a2;exact Option.some.inj a2
 obtain rfl:w=w':=by rw[c6]at a3;exact Option.some.inj a3
 obtain rfl:l=l':=by rw[hd]at a4;exact Option.some.inj a4
 have h1:1<=fs.length-t:=DO
 have h2:1<=ls.length-t:=DO
 have h3:1<=ws.length-t:=DO
 have h4:1<=d.length-t:=DO
 have g1:t<fs.length:=DO
 have g2:t<ls.length:=DO
 have g3:t<ws.length:=DO
 refine DY ?_;intro v0 v1;refine DY ?_
 repeat apply ze
 refine zi [] (zF ef h1 g1) ?_;obtain⟨e,b⟩:∃e:Int,e=bad-(if r=13 then 1 else 0):=⟨_,rfl⟩;refine qy (nx:=nx) (λ_:Unit=>True) (λ_=>[(1,I t),(3,xC y),(4,.ptr nx v0 0),(6,.ptr (nx+1) v1 0),(9,I e)]) (λ_=>A0) (λ_=>[.cells v0 395 (Zb x d on tw fs bad ls ws),.cells v1 100 [I s.c,I s.q]]) ?_ ?_
 ·repeat apply ze
  refine zA rfl (λhq=>?_) (λhq=>?_)
  ·simp at hq;have e0:=hb hq;rw[if_pos hq]at b;have wb:IntKind.i64.wrap ((bad:Int)-1)=e:=by rw[b,wr _ DO DO]
   refine zi [] wb ?_;exact zZ () [] trivial DP rfl DP
  ·simp at hq;rw[if_neg hq]at b;obtain rfl:e=bad:=DO
   exact zk (zZ () [] trivial DP rfl DP)
 ·rintro⟨⟩ -;have i:∀(h:0<e\/x.cap<W (u+s.q)),Zz x t l r bad u w s=[]:=λh=>by unfold Zz;rw[if_pos (by rw[b]at h;exact h)]
  by_cases ho:0<e
  ·rw[i (.inl ho)]at hY ⊢
   repeat apply ze
   refine zD (some [nx,nx+1]) (Row.pures [0,1,2,3,4,5,6,7,8,9,10,11,12,13,14,15] .done) mixed (zq ho zB) ?_;refine zo rfl (DY ?_);exact zj (ZaJ (v _ _ g) DQ (by simp[zr]) g)
  by_cases f:x.cap<W (u+s.q)
  ·rw[i (.inr f)]at hY ⊢
   repeat apply ze
   refine zD (some [nx,nx+1]) (Row.pures [0,1,2,3,4,5,6,7,8,9,10,11,12,13,14,15] .done) mixed (zW ho f a9 h2 g2 zB) ?_;refine zo rfl (DY ?_);exact zj (ZaJ (v _ _ g) DQ (by simp[zr]) g)
  have hz:Zz x t l r bad u w s=(List.range (l.length+1)).filterMap (Za x t l w s):=by unfold Zz;rw[if_neg (by rw[<-b];simp[ho,f])]
  clear i;rw[hz]at hY ⊢
  repeat apply ze
  refine zD (some [nx,nx+1]) (Row.pures [0,1,2,3,4,5,6,7,8,9,10,11,12,13,14,15] .done) mixed (yr ho f a9 h2 g2) ?_;refine zp rfl (zk ?_);have wc:IntKind.i64.wrap (s.c+1)=s.c+1:=wr _ (by unfold qv at a8;omega) (by unfold qv at a8;omega);refine ze (zD (some [nx,nx+1]) (Row.pures [0,1,2,3,4,5,6,7,8,9,10,11] .done) mixed (zS ed h4 ht wc) ?_);have wl:IntKind.i64.wrap ((l.length:Int)+1)=((l.length+1:Nat):Int):=zy _ DO
  repeat apply ze
  refine zi [] wl ?_;refine zn (jX (σ:=Nat × Store) (λs'=>s'.1<=l.length+1/\J ((List.range s'.1).filterMap (Za x t l w s)).length s'.2) (λs'=>[(1,I t),(3,xC y),(4,.ptr nx v0 0),(6,.ptr (nx+1) v1 0),(10,L l),(11,I (s.c+1)),(54,I ((l.length+1:Nat):Int)),(55,I s'.1)]) (λs'=>s'.2)
   (λ_=>[.cells v0 395 (Zb x d on tw fs bad ls ws),.cells v1 100 [I s.c,I s.q]]) (λs'=>l.length+1-s'.1) (zZ (0,A0) [] (by simpa using g) DP rfl DP) ?_)
  rintro⟨k,A⟩ ⟨hk,hJ⟩;simp only at hk hJ ⊢;refine DY ?_;refine ze (zA rfl (λhc=>?_) (λhc=>?_))
  ·simp at hc;refine zk (ze (zn (DY ?_)));refine DY ?_
   repeat apply ze
   refine zg ?_;refine qy (nx:=nx) (λ_:Unit=>True) (λ_=>[(1,I t),(3,xC y),(4,.ptr nx v0 0),(6,.ptr (nx+1) v1 0),(10,L l),(11,I (s.c+1)),(12,I k),(13,I (uc l k)),(14,I 0),(54,I ((l.length+1:Nat):Int)),(55,I k)]) (λ_=>A) (λ_=>[.cells v0 395 (Zb x d on tw fs bad ls ws),.cells v1 100 [I s.c,I s.q]]) ?_ ?_
   ·repeat apply ze
    refine zA rfl (λa=>?_) (λa=>?_)
    ·simp at a;obtain⟨j,rfl⟩:∃j,k=j+1:=⟨k-1,by omega⟩;obtain⟨p,tp,p1,-,-,-,ep⟩:=el 2 rfl l j DO;have wj:IntKind.i64.wrap (j:Int)=(j:Int):=wr _ DO DO;have d0:j<l.length:=DO
     have z:2<=l.length*2-j*2:=DO
     have m:=a7 p (Ab p1);have wp:IntKind.i64.wrap (p.c+1)=p.c+1:=wr _ (by unfold qv at m;omega) (by unfold qv at m;omega);have a0:uc l (j+1)=p.c+1:=by unfold uc;rw[if_neg DO,B5,Aa,p1];rfl
     refine zi [] (yr wj ep wp d0 z) ?_;exact zZ () [] trivial (by simp[a0]) rfl DP
    ·simp at a;subst a;exact zk (zZ () [] trivial (by simp[uc]) rfl DP)
   ·rintro⟨⟩ -
    repeat apply ze
    refine zg ?_;refine qy (nx:=nx) (λ_:Unit=>True) (λ_=>[(1,I t),(3,xC y),(4,.ptr nx v0 0),(6,.ptr (nx+1) v1 0),(10,L l),(11,I (s.c+1)),(12,I k),(13,I (uc l k)),(14,I (u7 l k)),(54,I ((l.length+1:Nat):Int)),(55,I k)]) (λ_=>A) (λ_=>[.cells v0 395 (Zb x d on tw fs bad ls ws),.cells v1 100 [I s.c,I s.q]]) ?_ ?_
    ·repeat apply ze
     refine zA rfl (λa=>?_) (λa=>?_)
     ·simp at a;obtain⟨p,tp,p1,-,-,-,ep⟩:=el 2 rfl l k a;have z:2<=l.length*2-k*2:=DO
      have m:=a7 p (Ab p1);have wp:IntKind.i64.wrap (p.c+1)=p.c+1:=wr _ (by unfold qv at m;omega) (by unfold qv at m;omega);have a0:u7 l k=p.c+1:=by unfold u7;rw[if_pos a,Aa,p1];rfl
      refine zi [] (zS ep wp a z) ?_;exact zZ () [] trivial (by simp[a0]) rfl DP
     ·simp at a;exact zk (zZ () [] trivial (by simp[u7];omega) rfl DP)
    ·rintro⟨⟩ -;have q1:=vy x (uc l k) (s.c+1);have q2:=vy x (s.c+1) (u7 l k);have q3:=vy x (uc l k) (u7 l k);have a5:W (W (arc x (uc l k) (s.c+1)+arc x (s.c+1) (u7 l k))-arc x (uc l k) (u7 l k))=u9 x l s k:=rfl;refine ze (zD (some [nx,nx+1]) (Row.pures [0,1,2,3,4,5,6,7,8,9,10,11,12,13,14,15,16,17] .done) mixed trivial ?_);refine zO (q1) trivial ?_;refine zO (q2) trivial ?_;refine zO (q3) a5 ?_
     by_cases hf:W (w+u9 x l s k)<=x.len
     ·have o:Za x t l w s k=some ⟨t,k,u9 x l s k⟩:=by unfold Za;rw[if_pos hf]
      have d1:=ZgB (n:=l.length+1) DO o;have a6:=ZgD o;have hy:(((List.range (l.length+1)).filterMap (Za x t l w s)).map ZV)[((List.range k).filterMap (Za x t l w s)).length]?=some (ZV ⟨t,k,u9 x l s k⟩):=by rw[Aj,d1];rfl
      refine ze (zD (some [nx,nx+1]) (Row.pures [0,1,2,3,4,5,6,7,8,9,10,11,12,13,14,15,16] (.alt 17 (Row.pures [18,19] .done) .stop)) mixed (yr a5 ew h3 g3 hf) ?_);refine⟨by rfl,(XA rfl rfl rfl (hY _ _ _ _ hy hJ) ?_)⟩;rintro _ ⟨A',d2,rfl⟩;refine⟨by simp[yR],jY trivial ?_⟩;refine zp rfl (zk (zg ?_));exact zu (k+1,A') [] ⟨by show k+1<=_;omega,by rw[a6];exact d2⟩ DT (by simp[zy k (by omega)]) rfl DP
     ·have o:Za x t l w s k=none:=by unfold Za;rw[if_neg hf]
      have a6:=ZgC o;refine ze (zD (some [nx,nx+1]) (Row.pures [0,1,2,3,4,5,6,7,8,9,10,11,12,13,14,15,16,17,18,19] .done) mixed (zW a5 ew h3 g3 hf zB) ?_);refine zp rfl (zk (zg ?_));exact zu (k+1,A) [] ⟨by show k+1<=_;omega,by rw[a6];exact hJ⟩ DT (by simp[zy k (by omega)]) rfl DP
  ·simp at hc;obtain rfl:k=l.length+1:=DO
   refine zC (DY ?_);exact zj (ZaJ (v _ _ hJ) DQ (by simp[zr]) (by simpa using hJ))
open Go
theorem ZcX(x:Inst):(yO x).cust.length<=6:=by simp[yO];omega
theorem ZaK:∀(d:zt),(∀t∈d,t≠[])->d.length<=d.flatten.length
 | [],_=>by simp
 | t :: d,h=>by
  have:=ZaK d λt a=>h t (by simp[a])
  have h1:t.length≠0:=by simpa using h t DP
  rw[BG,Am,Ae];omega
theorem Y8{d:zt}{t:zU}(h:t∈d):t.Sublist d.flatten:=by
 obtain⟨a,b,rfl⟩:=List.append_of_mem h;rw[List.flatten_append,BG];exact(List.sublist_append_left t b.flatten).trans (List.sublist_append_right a.flatten _)
theorem ZoL{a b:List Int}(h:a.Perm b):a.sum=b.sum:=by
 induction h with
 | nil=>rfl
 | cons x _ e=>simp[e]
 | swap x y l=>simp;omega
 | trans _ _ c d=>exact c.trans d
theorem ud(x:Inst)(d:zt):yE x d=0<->(∀t∈d,yc x t=0)/\(d.flatten.map (·.c)).Nodup/\(d.length:Int)<=x.veh:=by
 unfold yE;cases hf:d.find? (λt=>yc x t != 0) with
 | some t =>
  have h1:=List.find?_some hf;have h2:=List.mem_of_find?_eq_some hf;simp only;constructor
  ·intro e;simp[e]at h1
  ·rintro⟨h,_⟩;exact h t h2
 | none =>
  rw[List.find?_eq_none]at hf;simp only;constructor
  ·intro e;refine⟨λt a=>by simpa using hf t a,?_⟩;split at e
   ·cases e
   ·split at e
    ·cases e
    ·rename_i h1 h2;exact⟨by simpa using h1,by omega⟩
  ·rintro⟨_,h1,h2⟩;rw[if_neg (by simpa using h1),if_neg DO]
theorem XM(x:Inst)(t:zU):yc x t=0<->jD x t=true/\(t.map (·.c)).Nodup/\W (ye t)<=x.cap/\W (yN x (t.map (·.c)))<=x.len:=by
 unfold yc;constructor
 ·intro e;split at e
  ·cases e
  ·split at e
   ·cases e
   ·split at e
    ·cases e
    ·split at e
     ·cases e
     ·rename_i h1 h2 h3 a;exact⟨by simpa using h1,by simpa using h2,by omega,by omega⟩
 ·rintro⟨h1,h2,h3,a⟩;rw[if_neg (by simp[h1]),if_neg (by simpa using h2),if_neg DO,if_neg DO]
theorem ZcY{t:zU}(h:∀s∈t,0<=s.q/\s.q<=2147483648):0<=ye t/\ye t<=2147483648*t.length:=by
 induction t with
 | nil=>simp[ye]
 | cons s t b =>
  have:=b λa c=>h a (by simp[c])
  have:=h s DP;simp only[ye,AD,BR,Ae]at *;omega
theorem ZoM(a b:zU):ye (a++b)=ye a+ye b:=by simp[ye]
open Go Go.Proofs
def qz(x:Inst)(d:zt)(s:Stop):List Spot :=
 if yc x [s]=1\/s.c∈d.flatten.map (·.c)\/¬(d.flatten.map (·.c)).Nodup\/x.veh<d.length then []
 else ((List.range d.length).flatMap λt=>Zz x t (d.getD t []) (yc x (d.getD t [])) (qj x d) (jN (d.getD t [])) (j6 x (d.getD t [])) s) ++
  (if qj x d=0/\yc x [s]=0/\(d.length:Int)<x.veh then [⟨d.length,0,W (yN x [s.c])⟩] else [])
def Y9(st:Spot × Bool)(b:Spot):Spot × Bool:=if st.2=false\/b.m<st.1.m then (b,true) else st
def ZW(l:List Spot):Spot × Bool:=l.foldl Y9 (⟨0,0,0⟩,false)
def xP(l:zU)(i:Nat)(s:Stop):zU:=l.take i++s :: l.drop i
def xn(d:zt)(b:Spot)(s:Stop):zt:=if b.t=d.length then d++[[s]] else d.set b.t (xP (d.getD b.t []) b.p s)
def yZ(x:Inst)(d:zt)(s:Stop):zt × Bool:=bif (ZW (qz x d s)).2 then (xn d (ZW (qz x d s)).1 s,true) else (d,false)
theorem ZgE:∀(l:List Spot) (st:Spot × Bool),(l.foldl Y9 st).2=true->(l.foldl Y9 st)=st\/(l.foldl Y9 st).1∈l
 | [],st,_=>.inl rfl
 | b :: l,st,h=>by
  rw[A5]at h ⊢;rcases ZgE l _ h with e | e
  ·by_cases a:st.2=false\/b.m<st.1.m
   ·right;rw[e];unfold Y9;rw[if_pos a];simp
   ·left;rw[e];unfold Y9;rw[if_neg a]
  simp_all
theorem ZaL{l:List Spot}(h:(ZW l).2=true):(ZW l).1∈l:=by grind[ZgE,ZW]
theorem ZoN{x:Inst}{t:Nat}{l:zU}{a bad c w:Int}{s:Stop}{b:Spot}(h:b∈Zz x t l a bad c w s):¬(0<bad-(if a=13 then 1 else 0))/\W (c+s.q)<=x.cap/\b∈(List.range (l.length+1)).filterMap (Za x t l w s):=by simp_all[Zz]
theorem W6{x:Inst}{d:zt}{s:Stop}{b:Spot}(h:b∈qz x d s):
  yc x [s]≠1/\s.c ∉ d.flatten.map (·.c)/\(d.flatten.map (·.c)).Nodup/\(d.length:Int)<=x.veh /\
  ((∃l,d[b.t]?=some l/\b.p<=l.length/\¬(0<(qj x d:Int)-(if yc x l=13 then 1 else 0))/\W (jN l+s.q)<=x.cap/\b.m=u9 x l s b.p/\W (j6 x l+b.m)<=x.len) \/
   (b=⟨d.length,0,W (yN x [s.c])⟩/\qj x d=0/\yc x [s]=0/\(d.length:Int)<x.veh)):=by
 unfold qz at h;split at h
 ·cases h
 ·rename_i g;have k:yc x [s]≠1:=λe=>g (.inl e)
  have n:s.c ∉ d.flatten.map (·.c):=λe=>g (.inr (.inl e))
  have o:(d.flatten.map (·.c)).Nodup:=Classical.byContradiction λe=>g (.inr (.inr (.inl e)))
  have r:(d.length:Int)<=x.veh:=by
   rcases Int.lt_or_le x.veh d.length with e | e
   ·exact absurd (.inr (.inr (.inr e))) g
   ·exact e
  refine⟨k,n,o,r,?_⟩;rw[AB]at h;rcases h with h | h
  ·left;obtain⟨t,j,hb⟩:=BL.1 h;rw[AK]at j;have u:d[t]?=some (d.getD t []):=by rw[Aa,Ac j];rfl
   obtain⟨v,w2,hb⟩:=ZoN hb;obtain⟨i,hi,f⟩:=Cg.1 hb;rw[AK]at hi;unfold Za at f
   by_cases a:W (j6 x (d.getD t [])+u9 x (d.getD t []) s i)<=x.len
   ·rw[if_pos a]at f;cases f;exact⟨_,u,by simp only;omega,v,w2,rfl,a⟩
   ·rw[if_neg a]at f;cases f
  simp_all
def qr(a:Int):List Int->Int
 | []=>a
 | c :: l=>qr (c+1) l
def ZaM:List Int->Int
 | []=>0
 | c :: _=>c+1
theorem ZgF(x:Inst)(c:Int)(r:List Int):∀(p:List Int) (a:Int),wV x a (p++c :: r)=wV x a (p++r)+(arc x (qr a p) (c+1)+arc x (c+1) (ZaM r)-arc x (qr a p) (ZaM r))
 | [],a=>by cases r<;>grind[wV,qr,ZaM]
 | e :: p,a=>by
  simp only[List.cons_append,wV,qr];rw[ZgF x c r p (e+1)];omega
theorem ZgG:∀(p:List Int) (a:Int),qr a p=if p.length=0 then a else (p.getD (p.length-1) 0)+1
 | [],a=>by simp[qr]
 | [c],a=>by simp[qr]
 | c :: e :: p,a=>by
  simp only[qr];rw[show qr (e+1) p=qr (c+1) (e :: p) from rfl,ZgG (e :: p) (c+1)];simp
theorem ZoO(l:zU)(i:Nat)(h:i<l.length):(l.map (·.c)).getD i 0=(l.getD i default).c:=DX
theorem ZoP(x:Inst)(l:zU)(s:Stop)(i:Nat)(h0:l≠[])(hi:i<=l.length):
  yN x ((xP l i s).map (·.c))=yN x (l.map (·.c))+(arc x (uc l i) (s.c+1)+arc x (s.c+1) (u7 l i)-arc x (uc l i) (u7 l i)):=by
 unfold yN xP;rw[if_neg DP,if_neg (by simpa using h0)];rw[List.map_append,AD,ZgF,<-List.map_append,List.take_append_drop];have b:qr 0 ((l.take i).map (·.c))=uc l i:=by
  rw[ZgG];unfold uc;rw[List.length_map,Ax]
  by_cases a:i=0
  ·rw[if_pos DO,if_pos a]
  ·rw[if_neg DO,if_neg a,ZoO _ _ (by rw[Ax];omega)];rw[Aa,Aa,AL DO,show min i l.length-1=i-1 from by omega]
 grind[ZaM,u7,List.drop_eq_getElem_cons]
theorem ZgH(x:Inst)(l:zU)(s:Stop)(i:Nat)(h0:l≠[])(hi:i<=l.length):j6 x (xP l i s)=W (j6 x l+u9 x l s i):=by
 unfold j6 u9
 grind[ZoP,IntKind.wrap_i64]
theorem ZgI(l:zU)(s:Stop)(i:Nat):jN (xP l i s)=W (jN l+s.q):=by grind[jN,Yq,ye,xP,List.take_append_drop]
theorem W7(l:zU)(s:Stop)(i:Nat):(xP l i s).Perm (s :: l):=by grind[xP,List.take_append_drop]
theorem ZcZ{α:Type}:∀(d:List (List α)) (t:Nat) (l m:List α) (s:α),d[t]?=some l->m.Perm (s :: l)->(d.set t m).flatten.Perm (s :: d.flatten)
 | [],t,l,m,s,h,_=>by simp at h
 | a :: d,0,l,m,s,h,hm=>by
  simp at h;subst h;simp only[A7,BG];exact(hm.append_right _)
 | a :: d,t+1,l,m,s,h,hm=>by
  simp only[Bg]at h;simp only[AV,BG];exact((ZcZ d t l m s h hm).append_left a).trans List.perm_middle
theorem Zc0{x:Inst}{d:zt}{s:Stop}{b:Spot}(h:b∈qz x d s):(xn d b s).flatten.Perm (s :: d.flatten):=by
 obtain⟨-,-,-,-,h⟩:=W6 h;unfold xn
 grind[ZcZ,W7]
theorem Zc1{x:Inst}{d:zt}{s:Stop}(h:(yZ x d s).2=true):(yZ x d s).1.flatten.Perm (s :: d.flatten):=by grind[yZ,Zc0,ZaL]
theorem ZgJ{x:Inst}{d:zt}{s:Stop}(h:(yZ x d s).2=false):(yZ x d s).1=d:=by grind[yZ]
theorem ZoQ{x:Inst}{a b:zU}(h:a.Perm b):jD x a=jD x b:=by
 unfold jD;have h1:a.all (jM x)=b.all (jM x):=by
  rw[DF,Aw,Aw];exact⟨λq s hs=>q s (h.symm.subset hs),λq s hs=>q s (h.subset hs)⟩
 have h2:a.isEmpty=b.isEmpty:=by
  cases a with
  | nil=>simp_all
  | cons a l =>
   grind
 rw[h1,h2]
theorem ZaN{x:Inst}{t:zU}(h:jD x t=true):t≠[]:=by simp_all[jD]
theorem Zc2{x:Inst}{t:zU}(h:jD x t=false):yc x t=1:=by simp_all[yc]
theorem ZgK{x:Inst}{s:Stop}(h:yc x [s]≠1):jM x s=true:=by grind[jD,Zc2]
theorem QU{x:Inst}{d:zt}:qj x d=0<->∀t∈d,yc x t=0:=by simp[qj]
theorem Zc3{x:Inst}{d:zt}{s:Stop}{b:Spot}(h:b∈qz x d s):yE x (xn d b s)=0:=by
 have hp:=Zc0 h;obtain⟨q1,q2,q3,q4,h⟩:=W6 h;rw[ud];have hg:=ZgK q1;have hn:((xn d b s).flatten.map (·.c)).Nodup:=by
  rw[(hp.map _).nodup_iff,AD,CH];exact⟨q2,q3⟩
 refine⟨?_,hn,?_⟩
 ·rcases h with ⟨l,hl,hi,ho,r,hm,u⟩ | ⟨rfl,hb,hs,hv⟩
  ·obtain⟨v,a2⟩:=Ad.1 hl;have w:xn d b s=d.set b.t (xP l b.p s):=by unfold xn;rw[if_neg DO,Aa,hl];rfl
   -- the other tours
   have y:∀j m,j≠b.t->d[j]?=some m->yc x m=0:=by
    intro j m q k;refine Classical.byContradiction λf=>?_
    have a3:0<qj x d:=by
     rcases B1 (qj x d) with e | e
     ·exact absurd (QU.1 e m (Ab k)) f
     ·exact e
    by_cases hf:yc x l=13
    ·rw[if_pos hf]at ho;have h2:2<=qj x d:=by
      unfold qj;obtain⟨a0,a4⟩:=Ad.1 k;have key:∀(i j:Nat),i<j->∀(a c:zU),d[i]?=some a->d[j]?=some c->yc x a≠0->yc x c≠0->2<=(d.filter λt=>decide (yc x t≠0)).length:=by
       intro i j a5 a c ha hc na nc;obtain⟨a6,rfl⟩:=Ad.1 ha;obtain⟨a0,rfl⟩:=Ad.1 hc;have e:d=d.take (i+1)++d.drop (i+1):=(List.take_append_drop _ _).symm;rw[e,B6,Am];have m1:d[i]∈(d.take (i+1)).filter λt=>decide (yc x t≠0):=Bn.2 ⟨Ab (i:=i) (by rw[AL (by omega)];exact ha),by simp[na]⟩
       have m2:d[j]∈(d.drop (i+1)).filter λt=>decide (yc x t≠0):=Bn.2 ⟨Ab (i:=j-(i+1)) (by rw[AP,show i+1+(j-(i+1))=j from by omega];exact hc),by simp[nc]⟩
       have:=DA m1;have:=DA m2;omega
      have nl:yc x l≠0:=by rw[hf];decide
      rcases Bh j b.t with h3 | h3
      ·exact key j b.t h3 m l k hl f nl
      ·exact key b.t j DO l m hl k nl f
     omega
    ·rw[if_neg hf]at ho;omega
   -- the tour itself
   have g:yc x l=0\/yc x l=13:=by
    by_cases hf:yc x l=13
    ·exact .inr hf
    ·rw[if_neg hf]at ho;exact .inl (QU.1 DO l (Ab hl))
   have n:jD x l=true:=by
    cases e:jD x l with
    | true=>rfl
    | false=>rw[Zc2 e]at g;rcases g with h | h<;>cases h
   have a1:=ZaN n;intro t ht;rw[w]at ht;obtain⟨j,q⟩:=Bi.1 ht;rw[Bu]at q
   by_cases o:b.t=j
   ·rw[if_pos o,if_pos v]at q;cases q;rw[XM];refine⟨?_,?_,?_,?_⟩
    ·rw[ZoQ (W7 l s b.p)];unfold jD at n ⊢;simp only[Cp,List.isEmpty_cons,Ar]at n ⊢;exact⟨⟨hg,n.1⟩,rfl⟩
    ·have z:(xP l b.p s).Sublist (xn d b s).flatten:=by rw[w];exact Y8 ht
     exact hn.sublist (z.map _)
    ·have:=ZgI l s b.p;unfold jN at this;rw[this];exact r
    ·have:=ZgH x l s b.p a1 hi;unfold j6 at this;rw[this,<-hm];exact u
   ·rw[if_neg o]at q;exact y j t (λe=>o e.symm) q
  grind[xn,QU]
 ·rcases h with ⟨l,hl,-⟩ | ⟨rfl,-,-,hv⟩
  ·have v:=(Ad.1 hl).1;unfold xn;rw[if_neg DO,BJ];exact q4
  grind[xn]
def wM(c:Int)(t:zU):zU:=t.filter λs=>decide (s.c≠c)
def xQ(c:Int)(d:zt):zt:=(d.map (wM c)).filter λt=>!t.isEmpty
def ZgL(c:Int)(d:zt):Int:=W ((d.flatten.filter λs=>decide (s.c=c)).map (·.q)).sum
theorem ZoR(c:Int)(a b:zt):xQ c (a++b)=xQ c a++xQ c b:=by simp[xQ]
open Go Hp
theorem JI.begin:∀(l pre:List Stop) (T:zt) (g:Int->Option Int),JI pre T g->((pre++l).map (·.c)).Nodup->∃g',JI (pre++l) (T++l.map λs=>[s]) g'
 | [],pre,T,g,h,_=>⟨g,by simpa using h⟩
 | s :: l,pre,T,g,h,hn=>by
  have hs:s.c ∉ pre.map (·.c):=by
   rw[List.map_append,Dq]at hn;exact λhm=>hn.2.2 _ hm s.c DP rfl
  obtain⟨g',h'⟩:=JI.begin l (pre++[s]) (T++[[s]]) _ (h.snoc s hs) (by simpa using hn);exact⟨g',by simpa using h'⟩
theorem Zc4{α:Type}(f:α->Int):∀(T:List α) (i:Nat) (a b:α),T[i]?=some a->((T.set i b).map f).sum=(T.map f).sum-f a+f b
 | [],i,a,b,h=>by simp at h
 | t :: T,0,a,b,h=>by simp at h;subst h;simp;omega
 | t :: T,i+1,a,b,h=>by
  simp only[Bg]at h;simp only[AV,AD,BR];rw[Zc4 f T i a b h];omega
open Go Go.Proofs
theorem ZgM{x:Inst}(h:qQ x):∀(l:List Int) (a:Int),0<=wV x a l/\wV x a l<=2147483648*((l.length:Int)+1)
 | [],a=>by
  have:=h a 0
  simp_all[wV]
 | c :: l,a=>by
  have h1:=h a (c+1);have h2:=ZgM h l (c+1)
  grind[wV]
theorem XN{x:Inst}(h:qQ x)(l:List Int):0<=yN x l/\yN x l<=2147483648*((l.length:Int)+1):=by
 unfold yN;split<;>simp_all[ZgM]
theorem Zc5{x:Inst}(h:qQ x):∀d:zt,0<=yx x d/\yx x d<=2147483648*((d.flatten.length:Int)+d.length)
 | []=>by simp[yx]
 | t :: d=>by
  have h1:=XN h (t.map (·.c));have h2:=Zc5 h d
  grind[yx]
def QV(d:zt):List (Nat × Nat):=(List.range (d.length+1)).flatMap λt=>(List.range ((d.getD t []).length+1)).map λp=>(t,p)
def Yx(d:zt)(s:Stop)(c:Nat × Nat):zt:=xn d ⟨c.1,c.2,0⟩ s
def Zc6(x:Inst)(d:zt)(s:Stop)(c:Nat × Nat):Int:=if c.1=d.length then W (yN x [s.c]) else u9 x (d.getD c.1 []) s c.2
def JT(x:Inst)(d:zt)(s:Stop)(c:Nat × Nat):Option Spot:=if yE x (Yx d s c)=0 then some ⟨c.1,c.2,Zc6 x d s c⟩ else none
theorem ZgN(d:zt)(s:Stop)(b:Spot):xn d b s=Yx d s (b.t,b.p):=rfl
theorem ZgO{d:zt}{c:Nat × Nat}:c∈QV d<->c.1<=d.length/\c.2<=(d.getD c.1 []).length:=by grind[QV]
abbrev ZaO(x:Inst)(d:zt)(s:Stop):Prop:=yc x [s]=1\/s.c∈d.flatten.map (·.c)\/¬(d.flatten.map (·.c)).Nodup\/x.veh<d.length
theorem ZgP{d:zt}{s:Stop}{t p:Nat}{l:zU}(hl:d[t]?=some l):Yx d s (t,p)=d.set t (xP l p s):=by grind[Yx,xn]
theorem ZgQ(d:zt)(s:Stop)(p:Nat):Yx d s (d.length,p)=d++[[s]]:=by simp[Yx,xn]
theorem ZoS{d:zt}{s:Stop}{c:Nat × Nat}(hc:c∈QV d):(Yx d s c).flatten.Perm (s :: d.flatten):=by
 obtain⟨t,p⟩:=c;obtain⟨h1,h2⟩:=ZgO.1 hc;simp only at h1 h2
 by_cases a:t=d.length
 ·simp_all[ZgQ]
 ·have hl:d[t]?=some (d.getD t []):=by rw[Aa,Ac DO];rfl
  rw[ZgP hl]
  grind[ZcZ,W7]
theorem ZoT{x:Inst}{d:zt}{s:Stop}(f:yE x d=0){c:Nat × Nat}(hc:c∈QV d)(h:yE x (Yx d s c)=0):¬ZaO x d s:=by
 have b:=ZoS (s:=s) hc;obtain⟨g1,e,g3⟩:=(ud x _).1 h;obtain⟨i,e2,j⟩:=(ud x _).1 f;rw[(b.map _).nodup_iff,AD,CH]at e;rintro(q | q | q | q)
 ·obtain⟨u,k,g⟩:=Bt.1 (b.symm.subset (Ci (a:=s)))
  grind[jD,yc]
 ·exact e.1 q
 ·exact q e2
 ·omega
theorem ZgR{x:Inst}{d:zt}{s:Stop}(m:yE x d=0)(ho:¬ZaO x d s){t p:Nat}{l:zU}(hl:d[t]?=some l)(n:p<=l.length):
  yE x (Yx d s (t,p))=0<->W (jN l+s.q)<=x.cap/\W (j6 x l+u9 x l s p)<=x.len:=by
 obtain⟨k,e2,r⟩:=(ud x _).1 m;have g:=Ab hl;have c:=(Ad.1 hl).1;have e:=k l g;have j:l≠[]:=ZaN ((XM x l).1 e).1;have hb:qj x d=0:=QU.2 k;have o:d.getD t []=l:=by rw[Aa,hl];rfl
 constructor
 ·intro h;obtain⟨g1,-,-⟩:=(ud x _).1 h;rw[ZgP hl]at g1;have:=g1 (xP l p s) (Ab (i:=t) (by simp[c]));obtain⟨-,-,a,b⟩:=(XM x _).1 this;have u:=ZgI l s p;have v:=ZgH x l s p j n
  simp_all[jN,j6]
 ·rintro⟨a,b⟩;have f:(⟨t,p,u9 x l s p⟩:Spot)∈qz x d s:=by
   unfold qz;rw[if_neg ho];refine List.mem_append_left _ (BL.2 ⟨t,AK.2 c,?_⟩);rw[o,hb,e];unfold Zz;rw[if_neg DT];refine Cg.2 ⟨p,AK.2 DO,?_⟩;unfold Za;rw[if_pos b]
  have:=Zc3 f
  simp_all[ZgN]
theorem ZoU{x:Inst}{d:zt}{s:Stop}(f:yE x d=0)(ho:¬ZaO x d s):yE x (Yx d s (d.length,0))=0<->yc x [s]=0/\(d.length:Int)<x.veh:=by
 obtain⟨g,e2,h⟩:=(ud x _).1 f;have hb:qj x d=0:=QU.2 g;constructor
 ·grind[ud,ZgQ]
 ·rintro⟨a,b⟩;have e:(⟨d.length,0,W (yN x [s.c])⟩:Spot)∈qz x d s:=by
   unfold qz;rw[if_neg ho,if_pos ⟨hb,a,b⟩];exact List.mem_append_right _ DP
  have:=Zc3 e
  simp_all[ZgN]
theorem ZgS{α β:Type}{f:α->Option β}{l:List α}(h:∀a∈l,f a=none):l.filterMap f=[]:=DX
theorem ZgT{α β:Type}{f g:α->List β}:∀{l:List α},(∀a∈l,f a=g a)->l.flatMap f=l.flatMap g
 | [],_=>rfl
 | a :: l,h=>by rw[Az,Az,h a DP,ZgT λb hb=>h b (by simp[hb])]
theorem ZgU{α β:Type}{f g:α->Option β}:∀{l:List α},(∀a∈l,f a=g a)->l.filterMap f=l.filterMap g
 | [],_=>rfl
 | a :: l,h=>by
  have c:=ZgU (f:=f) (g:=g) (l:=l) λb hb=>h b (by simp[hb])
  grind
def Qa(x:Inst)(d:zt)(s:Stop)(t:Nat):List Spot:=((List.range ((d.getD t []).length+1)).map λp=>(t,p)).filterMap (JT x d s)
theorem ZgV{x:Inst}{d:zt}{s:Stop}(b:yE x d=0):qz x d s=(List.range (d.length+1)).flatMap (Qa x d s):=by
 by_cases ho:ZaO x d s
 ·unfold qz;rw[if_pos ho];symm;rw[List.flatMap_eq_nil_iff];intro t e;rw[AK]at e;refine ZgS λc hc=>?_
  obtain⟨p,f,rfl⟩:=Al.1 hc;rw[AK]at f;unfold JT;rw[if_neg];intro h;exact ZoT b (ZgO.2 ⟨by omega,by simp only;omega⟩) h ho
 ·unfold qz;obtain⟨i,e2,j⟩:=(ud x _).1 b;have hb:qj x d=0:=QU.2 i;rw[if_neg ho,AO,Aq];congr 1
  ·refine ZgT λt e=>?_
   rw[AK]at e;have hl:d[t]?=some (d.getD t []):=by rw[Aa,Ac e];rfl
   have g:=i _ (Ab hl);unfold Qa Zz;rw[g,hb,List.filterMap_map]
   by_cases a:x.cap<W (jN (d.getD t [])+s.q)
   ·rw[if_pos (.inr a)];symm;refine ZgS λp f=>?_
    rw[AK]at f;simp only[Function.comp_apply];unfold JT;rw[if_neg];rw[ZgR b ho hl DO];omega
   ·rw[if_neg (show ¬(0<((0:Nat):Int)-(if (0:Int)=13 then 1 else 0)\/x.cap<W (jN (d.getD t [])+s.q)) from by rintro(q | q);exact absurd q DV;exact a q)];refine ZgU λp f=>?_
    grind[ZgR,JT,Za,Zc6]
  ·have hi:=ZoU b ho;simp only[Az,Ct,AH];unfold Qa;rw[show d.getD d.length []=([]:zU) from by rw[Aa,Ao (Ag _)];rfl]
   grind[JT,Zc6]
theorem ZgW{α β γ:Type}(f:α->List β)(g:β->Option γ):∀l:List α,(l.flatMap f).filterMap g=l.flatMap λa=>(f a).filterMap g
 | []=>rfl
 | a :: l=>by rw[Az,BY,ZgW f g l,Az]
theorem ZoV{x:Inst}{d:zt}{s:Stop}(a:yE x d=0):qz x d s=(QV d).filterMap (JT x d s):=by
 rw[ZgV a];unfold QV;rw[ZgW];rfl
theorem ZgX{x:Inst}{d:zt}(h:yE x d=0):∀t∈d,t≠[]:=λt a=>ZaN ((XM x t).1 (((ud x d).1 h).1 t a)).1
def QW(st:Int × Bool)(m:Int):Int × Bool:=if st.2=false\/m<st.1 then (m,true) else st
def QX(l:List Int):Int × Bool:=l.foldl QW (0,false)
def XO(x:Inst)(d:zt)(s:Stop)(n:Nat):List Int:=(List.range n).filterMap λt=>bif (QX ((Qa x d s t).map (·.m))).2 then some (QX ((Qa x d s t).map (·.m))).1 else none
def XP(x:Inst)(d:zt)(s:Stop):List Int:=qe (XO x d s (d.length+1))
theorem Zc7:∀(l:List Int) (m:Int),(l.foldl QW (m,true)).2=true
 | [],_=>rfl
 | a :: l,m=>by
  rw[A5];unfold QW;split
  ·exact Zc7 l a
  ·exact Zc7 l m
theorem ZoW:QX []=(0,false):=rfl
theorem ZoX(a:Int)(l:List Int):QX (a :: l)=l.foldl QW (a,true):=by simp[QX,QW]
def vG(st:List Int × Int)(p:Spot):List Int × Int :=
 if (p.t:Int)≠st.2 then (st.1++[p.m],(p.t:Int)) else (st.1.set (st.1.length-1) (if p.m<st.1.getD (st.1.length-1) 0 then p.m else st.1.getD (st.1.length-1) 0),st.2)
theorem ZgY(t:Nat):∀(g:List Spot) (l:List Int) (m:Int),(∀p∈g,p.t=t)->g.foldl vG (l++[m],(t:Int))=(l++[((g.map (·.m)).foldl QW (m,true)).1],(t:Int))
 | [],l,m,_=>rfl
 | p :: g,l,m,h=>by
  have a:=h p DP;have hs:vG (l++[m],(t:Int)) p=(l++[if p.m<m then p.m else m],(t:Int)):=by
   unfold vG;rw[a,if_neg DP];simp
  have hm:QW (m,true) p.m=(if p.m<m then p.m else m,true):=by
   unfold QW
   by_cases q:p.m<m<;>simp[q]
  rw[A5,hs,AD,A5,hm];exact ZgY t g l _ λq b=>h q (by simp[b])
theorem ZoY{t:Nat}{g:List Spot}(b:∀p∈g,p.t=t)(l:List Int)(a:Int)(hl:a<t):
  g.foldl vG (l,a)=(l++(bif (QX (g.map (·.m))).2 then [(QX (g.map (·.m))).1] else []),if g=[] then a else (t:Int)):=by cases g<;>grind[ZoW,vG,ZgY,ZoX,Zc7]
theorem ZoZ{x:Inst}{d:zt}{s:Stop}{t:Nat}:∀p∈Qa x d s t,p.t=t:=by grind[Qa,JT]
theorem ZgZ(x:Inst)(d:zt)(s:Stop):∀n:Nat,∃a:Int,a<n/\((List.range n).flatMap (Qa x d s)).foldl vG ([],-1)=(XO x d s n,a)
 | 0=>⟨-1,by omega,rfl⟩
 | n+1=>by
  obtain⟨a,h1,h2⟩:=ZgZ x d s n;rw[AO,Aq,Bx,h2];simp only[Az,Ct,AH];rw[ZoY ZoZ _ _ h1];refine⟨_,?_,by
   congr 1;unfold XO;rw[AO,BY];congr 1;cases hm:(QX ((Qa x d s n).map (·.m))).2<;>simp[hm]⟩
  omega
theorem Zo0{x:Inst}{d:zt}{s:Stop}(b:yE x d=0):((qz x d s).foldl vG ([],-1)).1=XO x d s (d.length+1):=by
 rw[ZgV b];obtain⟨a,-,h⟩:=ZgZ x d s (d.length+1);rw[h]
theorem Zg0:∀{a b:List Int},a.Perm b->a.Pairwise (·<=·)->b.Pairwise (·<=·)->a=b
 | [],b,h,_,_=>(List.nil_perm.1 h).symm
 | x :: a,[],h,_,_=>absurd h.symm DP
 | x :: a,y :: b,h,c,hb=>by
  rw[Bk]at c hb;have d:x=y:=by
   have h1:x∈y :: b:=h.subset DP;have h2:y∈x :: a:=h.symm.subset DP;have f:y<=x:=by
    rcases Au.1 h1 with e | e
    ·omega
    ·exact hb.1 x e
   have g:x<=y:=by
    rcases Au.1 h2 with e | e
    ·omega
    ·exact c.1 y e
   omega
  subst d;rw[Zg0 ((List.perm_cons x).1 h) c.2 hb.2]
open Go Go.Proofs
theorem Zo1(x:Inst)(d:zt)(s:Stop)(t:Nat):(XO x d s t).length<=t:=by
 unfold XO;exact AF (CD _ _) DP
end Go.Proofs.YtcocagkbfpgmiaaGreatDoor.Pv
