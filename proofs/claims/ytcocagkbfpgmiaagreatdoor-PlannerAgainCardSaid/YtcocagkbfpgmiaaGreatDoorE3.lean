/- Part of a proof, packed. -/
import Derived.Test.YtcocagkbfpgmiaaGreatDoorE2
open Go.Proofs.Tryz
set_option maxRecDepth 100000
set_option maxHeartbeats 3200000
namespace Go.Proofs.YtcocagkbfpgmiaaGreatDoor.Pv
open Go
def yo(l:List Stop):List Value:=l.flatMap λs=>[.int .i64 s.c,.int .i64 s.q]
theorem Ze2(l:List Stop):l.flatMap Enc.enc=(yo l).map PV.sc:=by
 unfold yo
 induction l<;>simp_all
theorem Xf(l:List Stop):(yo l).length=l.length*2:=by
 unfold yo
 induction l<;>grind
theorem ZbM(l m:List Stop):yo (l++m)=yo l++yo m:=by simp[yo]
theorem Ze3(l:List Stop)(i:Nat)(h:i<=l.length):(yo l).take (i*2)=yo (l.take i):=by grind[List.take_append_drop,yo,Xf]
theorem Ze4(l:List Stop)(i:Nat)(h:i<=l.length):(yo l).drop (i*2)=yo (l.drop i):=by
 conv=>lhs;rw[<-List.take_append_drop i l,ZbM]
 grind[Xf]
theorem Xg(l:List Stop):∀v∈yo l,v.oneCell'=true:=by
 intro v hv;obtain⟨s,_,hs⟩:=BG.1 hv;simp at hs;rcases hs with rfl | rfl<;>rfl
theorem ZlO{V vs cur:List Value}{i n:Nat}(hi:i<n)(hV:V.length=n*2)(hv:vs.length=2)(hc:cur.take (n*2)=V)(hl:n*2+2<=cur.length):
  ((cur.take ((i+1)*2)++V.drop (i*2)++cur.drop ((i+1)*2+(V.drop (i*2)).length)).take (i*2)++vs++(cur.take ((i+1)*2)++V.drop (i*2)++cur.drop ((i+1)*2+(V.drop (i*2)).length)).drop (i*2+2)) =
   V.take (i*2)++vs++V.drop (i*2)++cur.drop ((i+1)*2+(V.drop (i*2)).length):=by
 have h1:(cur.take ((i+1)*2)).length=i*2+2:=DL
 have h2:(cur.take ((i+1)*2)++V.drop (i*2)++cur.drop ((i+1)*2+(V.drop (i*2)).length)).take (i*2)=V.take (i*2):=by
  rw[List.append_assoc,BH DH,DA,Bf DH,<-hc,DA,Bf DH]
 simp_all
theorem ZlP{V vs ROW:List Value}{i n:Nat}(hi:i<n)(hV:V.length=n*2)(hv:vs.length=2)(hc:ROW.take (i*2)=V.take (i*2)):
  ((ROW.take (i*2)++vs++ROW.drop (i*2+2)).take ((i+1)*2)++V.drop (i*2)++(ROW.take (i*2)++vs++ROW.drop (i*2+2)).drop ((i+1)*2+(V.drop (i*2)).length)) =
   V.take (i*2)++vs++V.drop (i*2)++(ROW.take (i*2)++vs++ROW.drop (i*2+2)).drop ((i+1)*2+(V.drop (i*2)).length):=by
 have h1:(ROW.take (i*2)++vs).length=(i+1)*2:=by rw[hc];simp;omega
 grind
theorem Ze5{vs:Array Value}(h:3=vs.size):∃u v x,vs=#[u,v,x]:=by
 match vs,h with
 | ⟨[u,v,x]⟩,_=>simp
theorem ZbN{C:Ctx}{S:Store}{w:World}{R:Array Value}{V rest:List Value}(h:R.toList=V++rest)(h1:∀v∈V,v.oneCell'=true):
  (∀(i:Nat) (v:Value),i<(V.map PV.sc).length->R[i]?=some v->v.oneCell'=true)/\∀(i:Nat) (p:PV) (v:Value),(V.map PV.sc)[i]?=some p->R[i]?=some v->Rel C S w p v:=by
 have hat:∀(i:Nat) (v:Value),i<V.length->R[i]?=some v->V[i]?=some v:=by
  intro i v hi hv;rw[<-Array.getElem?_toList,h,Ap hi]at hv;exact hv
 refine⟨λi v hi hv=>h1 v (Ab (hat i v (by simpa using hi) hv)),λi p v hp hv=>?_⟩;rw[Ai]at hp;obtain⟨u,hu,rfl⟩:=Ao.1 hp;have:=hat i v (Ac.1 hu).1 hv;rw[hu]at this;cases this;exact .sc _
theorem ZlQ{S:Store}{id ver:Nat}(cs:List Stop)(i:Nat)(s:Stop)(hi:i<cs.length)(hn:cs.length<=1000000)(hid:S id=.cells ver 100 (cs.flatMap Enc.enc)):
  Spec prog 338 [.sl id ver 2 0 cs.length,I i,L [s]] S (λp S'=>p=.sl id (ver+1) 2 0 (cs.length+1)/\S'=S.set id (.cells (ver+1) 100 ((cs.take i++s :: cs.drop i).flatMap Enc.enc))):=by
 refine⟨qe func338 DM rfl,?_⟩;intro C w vs hS hl hr;obtain⟨u,v,x,rfl⟩:=Ze5 hl;obtain rfl:=Je (hr 1 _ v rfl rfl);have hu:=hr 0 _ u rfl rfl;have hx:Rel C S w (.lst 1 [I s.c,I s.q]) x:=hr 2 _ x rfl rfl;have hvl:(yo cs).length=cs.length*2:=Xf cs;rw[Ze2]at hid ⊢;obtain⟨i0,hi0⟩:=B0.1 ZbE;have hz:=ZeN;have hc:=ZbD;have hb:=ZeM;simp only[Program.zeroOf,Program.cellsOf,Program.bytesOf',hi0,Dn,A9,Option.getD_some,Option.some.injEq]at hz hc hb;cases hu with
 | sl h1 h2 h3 =>
  obtain⟨ad,cap,rfl,q1,q2,q3,q4⟩:=h1;have hloc:=(h3 ver (by rw[hid];rfl)).2 rfl;rcases hS.cells id ver _ _ hid with ⟨hno,hnil⟩ | ⟨b,k,c,g1,g2,g3,g4,g5,g6⟩
  ·have:=congrArg List.length hnil;simp[hvl]at this;exfalso;omega
  rcases hloc with ⟨z1,_⟩ | ⟨b',k',ad',cap',z1,z2,z3,z4⟩
  ·rw[g1]at z1;cases z1
  rw[g1]at z1;cases z1;cases z2;obtain⟨rfl,hcap⟩:=z3 rfl;rw[List.length_map,hvl]at g4
  -- what stands in the block
  have hcells:∀(j:Nat) v,(yo cs)[j]?=some v->c[j]?=some v:=by
   intro j v hj;have hjl:=(Ac.1 hj).1;have e2:c[j]?=some c[j]:=AK DH;have:=g6 j (.sc v) _ (by rw[Ai,hj];rfl) e2;rw[e2];generalize c[j]=y at this;cases this;rfl
  have hcur:c.toList.take (cs.length*2)=yo cs:=by
   apply A5;intro j
   by_cases hj:j<cs.length*2
   ·rw[AJ hj,Array.getElem?_toList];have e:(yo cs)[j]?=some (yo cs)[j]:=Ae DH;rw[e,hcells j _ e]
   ·rw[An DL,An DH]
  have hccell:∀(j:Nat) v,(yo cs)[j]?=some v->w.cell? ⟨b,j,none⟩=some v:=λj v hj=>by
   simp only[World.cell?,g2];exact hcells j v hj
  have hnew:yo (cs.take i++s :: cs.drop i)=(yo cs).take (i*2)++[.int .i64 s.c,.int .i64 s.q]++(yo cs).drop (i*2):=by
   rw[Ze3 cs i DH,Ze4 cs i DH,ZbM];simp[yo]
  have hnl:(yo (cs.take i++s :: cs.drop i)).length=(cs.length+1)*2:=by rw[Xf];simp;omega
  cases hx with
  | lst1 y1 y2 y3 y4 y5 y6 y7 =>
   rename_i vc vb vo cv ev fz;have y5':=y5 DI;simp only[Ad,Ah]at y5';have hvcell:∀(j:Nat) v,([.int .i64 s.c,.int .i64 s.q]:List Value)[j]?=some v->w.cell? ⟨vb,vo+j,none⟩=some v:=by
    intro j v hj;have hjl:=(Ac.1 hj).1;simp at hjl;simp only[World.cell?,y3];have e2:cv[vo+j]?=some (cv[vo+j]' DH):=AK DH;have:=y7 j (.sc v) _ (by
     match j,hj with
     | 0,hj=>cases hj;rfl
     | 1,hj=>cases hj;rfl) e2
    rw[if_neg DI,e2];generalize cv[vo+j]' DH=y at this;cases this;rfl
   have hvb:vb≠b:=by
    rintro rfl;exact y4 ⟨id,k,by rw[hid];simp,g1⟩
   have newsl:∀(w':World) (b' cap':Nat),cs.length+1<=cap'->cap'<=maxLen ->
     Rel (C.at id (ver+1) (some (b',cap'*2))) (S.set id (.cells (ver+1) 100 ((yo (cs.take i++s :: cs.drop i)).map .sc))) w' (.sl id (ver+1) 2 0 (cs.length+1)) (.slice (some ⟨b',0,none⟩) (cs.length+1) cap'):=by
    intro w' b' cap' hkm hcl;refine .sl ⟨_,_,rfl,hkm,by unfold jE;omega,hcl,λ_=>⟨_,_,rfl⟩⟩ ⟨h2.1,by simp only[Ctx.at];omega⟩ λv0 hv0=>?_
    rw[q11]at hv0;cases hv0;exact⟨Ag _,λ_=>.inr ⟨b',_,_,_,by simp[Ctx.at],rfl,λ_=>⟨rfl,rfl⟩,λ_=>rfl⟩⟩
   have hsv:∀v∈([.int .i64 s.c,.int .i64 s.q]:List Value),v.oneCell'=true:=by
    intro v hv;simp at hv;rcases hv with rfl | rfl<;>rfl
   by_cases hroom:cs.length+1<=cap
   ·obtain⟨R1,hR1⟩:∃R1:Array Value,R1=(c.toList.take ((i+1)*2)++(yo cs).drop (i*2)++c.toList.drop ((i+1)*2+((yo cs).drop (i*2)).length)).toArray:=⟨_,rfl⟩;obtain⟨R2,hR2⟩:∃R2:Array Value,R2=(R1.toList.take (i*2)++([.int .i64 s.c,.int .i64 s.q]:List Value)++R1.toList.drop (i*2+2)).toArray:=⟨_,rfl⟩;have hcsz:c.size=cap*2:=g3.trans hcap.symm;have hctl:c.toList.length=cap*2:=by simpa using hcsz
    have hR2l:R2.toList=yo (cs.take i++s :: cs.drop i)++c.toList.drop ((i+1)*2+((yo cs).drop (i*2)).length):=by
     rw[hR2,hR1,hnew];simp only[];exact ZlO hi hvl rfl hcur DH
    have hR2s:R2.size=cap*2:=by
     rw[<-Array.length_toList,hR2l];simp[hnl,hvl];omega
    refine(ZjQ b cs.length cap i vb vo vc (yo cs) [.int .i64 s.c,.int .i64 s.q] w (by rw[hi0];simp[hc]) c g2 hcsz hi hroom (by unfold maxLen at q3;omega) DH hvl rfl hvb hccell hvcell (Xg cs) hsv ev (cv.size-1) (by unfold World.shape?;rw[y3];simp;omega) R1 R2 hR1 hR2).mono ?_;rintro e w' ⟨rfl,rfl⟩;obtain⟨r1,r2⟩:=ZbN (C:=C) (S:=S) (w:=w) hR2l (Xg _);have hb1:=setRow_heap w.drew b c R1 _ _ g2;obtain⟨t1,t2⟩:=hS.turn (l:=some (b,cap*2)) (ver':=ver+1) (cs':=(yo (cs.take i++s :: cs.drop i)).map .sc) hid DH (λh=>absurd h DH) (w':=(w.drew.setRow b R1).setRow b R2)
     (by
      rw[g1];refine⟨⟨rfl,rfl,rfl,by simp[World.setRow],λj hj hne=>?_⟩,CF _⟩;have hjb:j≠b:=λe=>hne (by rw[e];rfl)
      rw[setRow_other _ _ _ _ hjb,setRow_other _ _ _ _ hjb];rfl)
     (.inr ⟨b,cap*2,R2,rfl,.inr (by rw[g1];rfl),setRow_heap _ _ _ _ _ _ hb1,hR2s,by rw[List.length_map,hnl];omega,r1,r2⟩)
    exact⟨_,_,_,_,rfl,⟨rfl,rfl⟩,newsl _ b cap hroom q3,t1,t2⟩
   ·obtain⟨G,hG⟩:∃G,G=grownCap w (cs.length+1) cap 100:=⟨_,rfl⟩;have hGn:cs.length+1<=G:=by rw[hG];exact grownCap_ge w _ _ _
    have hGm:G<=maxLen:=by rw[hG];exact grownCap_le_maxLen w _ _ _ (by unfold maxLen;omega)
    obtain⟨ROW,hROW⟩:∃ROW:Array Value,ROW=((yo cs).take (i*2)).toArray++Builtin.zeroCells (Value.agg #[.int .i64 0,.int .i64 0]).cells (cs.length+1-i)++Builtin.zeroCells (Value.agg #[.int .i64 0,.int .i64 0]).cells (G-(cs.length+1)):=⟨_,rfl⟩;obtain⟨R1,hR1⟩:∃R1:Array Value,R1=(ROW.toList.take (i*2)++([.int .i64 s.c,.int .i64 s.q]:List Value)++ROW.toList.drop (i*2+2)).toArray:=⟨_,rfl⟩;obtain⟨R2,hR2⟩:∃R2:Array Value,R2=(R1.toList.take ((i+1)*2)++(yo cs).drop (i*2)++R1.toList.drop ((i+1)*2+((yo cs).drop (i*2)).length)).toArray:=⟨_,rfl⟩;have htl:((yo cs).take (i*2)).length=i*2:=DL
    have hROWs:ROW.size=G*2:=by
     rw[hROW];simp only[Ci,size_zeroCells,BJ,htl];simp[Value.cells];omega
    have hROWt:ROW.toList.take (i*2)=(yo cs).take (i*2):=by
     rw[hROW];simp only[Array.toList_append];rw[List.append_assoc];exact Dv htl
    have hR1s:R1.size=G*2:=by rw[hR1];simp;omega
    have hR2l:R2.toList=yo (cs.take i++s :: cs.drop i)++R1.toList.drop ((i+1)*2+((yo cs).drop (i*2)).length):=by
     rw[hR2,hR1,hnew];simp only[];exact ZlP hi hvl rfl hROWt
    have hR2s:R2.size=G*2:=by
     rw[<-Array.length_toList,hR2l];simp[hnl,hvl,hR1s];omega
    refine(ZjP b cs.length cap i vb vo vc (yo cs) [.int .i64 s.c,.int .i64 s.q] w i0 _ hi0 hz DH hb rfl hi q1 DH DH hvl rfl hccell hvcell (Xg cs) hsv G hG ROW hROW R1 R2 hR1 hR2).mono ?_;rintro e w' ⟨rfl,rfl⟩;obtain⟨r1,r2⟩:=ZbN (C:=C) (S:=S) (w:=w) hR2l (Xg _);have hb0:=Yt w.drew (.cells ROW 100);have hb1:=setRow_heap (w.drew.alloc (.cells ROW 100)) w.heap.size ROW R1 _ _ hb0;obtain⟨t1,t2⟩:=hS.turn (l:=some (w.heap.size,G*2)) (ver':=ver+1) (cs':=(yo (cs.take i++s :: cs.drop i)).map .sc) hid DH (λh=>absurd h DH) (w':=((w.drew.alloc (.cells ROW 100)).setRow w.heap.size R1).drew.setRow w.heap.size R2)
     ⟨⟨rfl,rfl,rfl,by simp[World.setRow],λj hj _=>by
      rw[setRow_other _ _ _ _ DH]
      show ((w.drew.alloc (.cells ROW 100)).setRow w.heap.size R1).heap[j]?=_
      rw[setRow_other _ _ _ _ DH];exact uR w.drew _ j hj⟩,Nat.le_succ_of_le (CF _)⟩
     (.inr ⟨w.heap.size,G*2,R2,rfl,.inl (Ag _),setRow_heap _ _ _ _ _ _ hb1,hR2s,by rw[List.length_map,hnl];omega,r1,r2⟩)
    exact⟨_,_,_,_,rfl,⟨rfl,rfl⟩,newsl _ w.heap.size G hGn hGm,t1,t2⟩
open Go
def zX(t:List Stop):Int:=(t.map (·.q)).sum
theorem VZ(t:List Stop)(s:Stop):zX (t++[s])=zX t+s.q:=by simp[zX]
theorem ZlR(l:List Int)(c:Int)(h:l.Nodup)(hc:c ∉ l):(l++[c]).Nodup:=by
 rw[Di];exact⟨h,by simp,λa ha b hb e=>by simp at hb;subst hb;subst e;exact hc ha⟩
theorem Ze6{l:List Int}{i k:Nat}{c:Int}(hi:l[i]?=some c)(hk:l[k]?=some c)(h:k<i):¬l.Nodup:=by
 intro hn;have:=(List.getElem?_inj (Ac.1 hi).1 hn).1 (hi.trans hk.symm);omega
open Go
theorem Wq(t:List Stop)(ht:t.length<=1048576)(S:Store)(nx:Nat)(hd:zW nx S):Spec prog 152 [.agg [L t]] S (λp S'=>∃v,p=.sl (nx+1) v 1 0 t.length/\S'=S.set (nx+1) (.cells v 3 ((t.map (·.c)).flatMap Enc.enc))):=by
 refine ut hd func152 ntmps152 results152 ?_;refine DQ ?_;intro v0;refine DQ ?_;refine za (jg 3 3 1 rfl λv1=>?_);refine DQ ?_;refine zj (zD (λs:Nat × List Int × Nat × Nat=>s.1<=t.length/\s.2.1=(t.take s.1).map (·.c)) (λ(k,out,v,v2)=>[(3,.sl (nx+1) v2 1 0 out.length),(7,L t),(8,I t.length),(9,I k)]) (λ(k,out,v,v2)=>[.cells v 42 [L t],.cells v2 3 (out.flatMap Enc.enc)]) (λs=>t.length-s.1) (0,[],v0,v1) [] DI DI DI ?_);rintro⟨k,out,v1,v2⟩ ⟨hk,ho⟩;simp only at hk ho ⊢;refine DQ ?_;refine za (zv rfl (λhc=>?_) (λhc=>?_))
 ·simp at hc;obtain⟨s,tl,a1,a2,a3,e1,e0⟩:=el 2 rfl t k hc;refine zh (za (zj (za (ze [] (zo hc e0) ?_))));intros;have hl:out.length=k:=by rw[ho];simp;omega
  refine zb ?_;refine⟨by omega,?_⟩;refine zb ?_;exact zq (k+1,out++[s.c],v1,v2+1) [_] (by simp[a3,ho];omega) DL (by simp[zu k (by omega)]) rfl DJ
 ·simp at hc;have hk':k=t.length:=DH
  subst hk';refine zx (DQ ?_);refine zg ⟨_,_,rfl,⟨v2,by simp[ho],rfl⟩,Qj hd (by simp[ho])⟩
theorem ZlS(t:List Stop)(ht:t.length<=1048576):Pure prog 152 [.agg [L t]] (L (t.map (·.c))):=by
 have:=VN 1 (λS nx hd=>Wq t ht S nx hd) DI;rw[<-List.length_map (f:=(·.c))]at this;exact this
theorem Ze7(t:List Stop)(ht:t.length<=1048576):Pure prog 262 [.agg [L t]] (I (W (zX t))):=by
 refine zt func262 ntmps262 results262 λS nx hd=>?_
 refine DQ ?_;intro v0;refine DQ ?_
 repeat apply za
 refine zb ?_;refine zj (zD (λs:Nat × Nat=>s.1<=t.length) (λ(k,v)=>[(3,I (W (zX (t.take k)))),(7,L t),(8,I t.length),(9,I k)]) (λ(k,v)=>[.cells v 42 [L t]]) (λs=>t.length-s.1) (0,v0) [] DI (by simp[zX]) DI ?_);rintro⟨k,v1⟩ hk;simp only at hk ⊢;refine DQ ?_;refine za (zv rfl (λhc=>?_) (λhc=>?_))
 ·simp at hc;obtain⟨s,tl,a1,a2,a3,e1,e0⟩:=el 2 rfl t k hc;refine zh (za (zj (za (ze [] (zo hc e0) ?_))));intros;refine zb ?_;refine zb ?_;exact zq (k+1,v1) [_] hc DL (by simp[zu k (by omega),a3,VZ,ZT]) rfl DJ
 ·simp at hc;have hk':k=t.length:=DH
  subst hk';refine zx (DQ ?_);exact zg (zi hd rfl DI)
theorem Wr(x:Inst)(t:List Stop)(ht:t.length<=1048576)(hs:∀s∈t,qb s.c):Pure prog 159 [.agg (zy x),.agg [L t]] (I (W (yB x (t.map (·.c))))):=by
 refine zt func159 ntmps159 results159 λS nx hd=>?_
 refine DQ ?_;intros;refine za (zz none (Row.pures [0,1,2,3,4] .done) mixed trivial ?_);refine zK (ZlS _ ht) trivial ?_;refine zK (ZeZ _ _ (by simpa using ht) (by simpa using hs)) trivial ?_;exact zg (zi hd rfl rfl)
def yn(x:Inst)(d:zk):Int:=(d.map λt=>yB x (t.map (·.c))).sum
theorem ZlT(x:Inst)(d:zk)(t:zL):yn x (d++[t])=yn x d+yB x (t.map (·.c)):=by simp[yn]
structure DayOk (d:zk):Prop where
 n:d.length<=1048576
 t:∀t∈d,t.length<=1048576
 s:∀t∈d,∀s∈t,qb s.c
theorem Xh(x:Inst)(d:zk)(hd':DayOk d):Pure prog 116 [.agg (zy x),.agg [L d]] (I (W (yn x d))):=by
 have hn:=hd'.n;refine zt func116 ntmps116 results116 λS nx hd=>?_
 refine DQ ?_;intro v0 v1;refine DQ ?_
 repeat apply za
 refine zb ?_;refine zj (zD (λs:Nat × Nat × Nat=>s.1<=d.length) (λ(k,v,v')=>[(2,.ptr nx v 0),(5,I (W (yn x (d.take k)))),(9,L d),(10,I d.length),(11,I k)]) (λ(k,v,v')=>[.cells v 25 (zy x),.cells v' 39 [L d]]) (λs=>d.length-s.1) (0,v0,v1) [] DI (by simp[yn]) DI ?_);rintro⟨k,v1,v2⟩ hk;simp only at hk ⊢;refine DQ ?_;refine za (zv rfl (λhc=>?_) (λhc=>?_))
 ·simp at hc;obtain⟨t,tl,a1,a2,a3,e0⟩:=zJ rfl d k hc;have htd:=Ab a1;refine zh (za (zj (za (ze [] (zo hc e0) ?_))));intros;refine zb ?_;refine zr (Wr _ _ (hd'.t t htd) (hd'.s t htd)) ?_;refine zb ?_;exact zq (k+1,v1,v2) [_] hc DL (by simp[zu k (by omega),a3,ZlT,ZT,ZeA]) rfl DJ
 ·simp at hc;have hk':k=d.length:=DH
  subst hk';refine zx (DQ ?_);exact zg (zi hd rfl DI)
theorem Ze8(d:zk)(hn:d.length<=1048576)(hf:d.flatten.length<=1048576):Pure prog 153 [.agg [L d]] (L d.flatten):=by
 refine zt func153 ntmps153 results153 λS nx hd=>?_
 refine DQ ?_;intro v0;refine DQ ?_;refine za (jg 3 100 2 rfl λv1=>?_);refine DQ ?_;refine zj (zD (λs:Nat × List Stop × Nat × Nat=>s.1<=d.length/\s.2.1=(d.take s.1).flatten) (λ(k,out,v,v2)=>[(3,.sl (nx+1) v2 2 0 out.length),(7,L d),(8,I d.length),(9,I k)]) (λ(k,out,v,v2)=>[.cells v 39 [L d],.cells v2 100 (out.flatMap Enc.enc)]) (λs=>d.length-s.1) (0,[],v0,v1) [] DI DI DI ?_);rintro⟨k,out,v1,v2⟩ ⟨hk,ho⟩;simp only at hk ho ⊢;refine DQ ?_;refine za (zv rfl (λhc=>?_) (λhc=>?_))
 ·simp at hc;obtain⟨t,tl,a1,a2,a3,e0⟩:=zJ rfl d k hc;refine zh (za (zj (za (ze [] (zo hc e0) ?_))));intros;have hl:out.length+t.length<=1048576:=by
   have:(out++t).length<=d.flatten.length:=by
    have e:d.flatten=(d.take (k+1)).flatten++(d.drop (k+1)).flatten:=by rw[<-List.flatten_append,List.take_append_drop]
    rw[e,a3];simp[ho]
   simp only[Aq]at this;omega
  refine zb ?_;refine⟨by omega,?_⟩;refine zb ?_;exact zq (k+1,out++t,v1,v2+1) [_] (by simp[a3,ho];omega) DL (by simp[zu k (by omega)]) rfl DJ
 ·simp at hc;have hk':k=d.length:=DH
  subst hk';refine zx (DQ ?_);refine yb 1 rfl ?_;exact zg (zi hd rfl (by simp[ho]))
open Go
def jh(x:Inst)(s:Stop):Bool:=decide (0<=s.c/\s.c<x.cust.length/\1<=s.q/\s.q<=2147483648)
def qZ(x:Inst)(t:zL):Bool:=t.all (jh x) && !t.isEmpty
def zT(x:Inst)(t:zL):Int :=
 if qZ x t=false then 1 else if ¬(t.map (·.c)).Nodup then 11 else if x.cap<W (zX t) then 12 else if x.len<W (yB x (t.map (·.c))) then 13 else 0
theorem ZlU{x:Inst}{t:zL}{k:Nat}{s:Stop}(h:(t.take k).all (jh x)=true)(ht:t.take (k+1)=t.take k++[s])(hs:0<=s.c/\s.c<x.cust.length/\1<=s.q/\s.q<=2147483648):(t.take (k+1)).all (jh x)=true:=by
 rw[ht,Cx,h];simp[jh];omega
theorem ZlV{x:Inst}{t:zL}(hx:x.cust.length<=1048576)(h:t.all (jh x)=true):∀s∈t,qb s.c:=by
 intro s hs;have:=Ay.1 h s hs;simp[jh]at this;unfold qb;omega
open Go
theorem Ws(l:List Int):(yP l).Pairwise (·<=·):=by
 have:=Cy (le:=λx y:Int=>decide (x<=y)) (λa b c h1 h2=>by simp at *;omega) (λa b=>by simp;omega) l;simpa using this
theorem Ze9(l:List Int):(yP l).Perm l:=B9 l _
theorem ZbO(l:List Int):(yP l).Nodup<->l.Nodup:=(Ze9 l).nodup_iff
theorem Zfa{z:List Int}{j:Nat}{p c:Int}(hz:z.Pairwise (·<=·))(hn:(z.take (j+1)).Nodup)(h1:z.take (j+1)=z.take j++[p])(h2:z.take (j+1+1)=z.take (j+1)++[c])(hpc:p≠c):(z.take (j+1+1)).Nodup:=by
 rw[h2];refine ZlR _ _ hn λhc=>?_
 have hs:(z.take (j+1+1)).Pairwise (·<=·):=hz.sublist (List.take_sublist _ _);rw[h2,h1,List.append_assoc,List.pairwise_append]at hs;rw[h1,AB]at hc;rcases hc with hc | hc
 ·have a1:=hs.2.2 c hc p DI;have a2:=(Bj.1 hs.2.1).1 c DI;omega
 ·simp at hc;exact hpc hc.symm
theorem Zfb{S:Store}{id ver:Nat}(zs:List Int)(hid:S id=.cells ver 3 (zs.flatMap Enc.enc))(hn:zs.length<=1048576):
  Spec prog 151 [.sl id ver 1 0 zs.length] S (λp S'=>p=B (decide zs.Nodup)/\S'=S.set id .dead):=by
 refine yi func151 ntmps151 results151 λnx hd=>?_
 have hlt:id<nx:=by
  rcases Bh id nx with h | h
  ·exact h
  ·rw[hd id h]at hid;cases hid
 refine DQ ?_;refine za (jP [] DM DM λK Gc Gh hK hGc hGh X hX0 hX=>?_);simp -implicitDefEqProofs [hX0,hX]
 try clear hX0 hX X
 refine hGc _ _ _ _ _ _ _ λhsuf=>((VY zs (by rw[zB hlt];exact hid) hn).mono ?_).v
 rintro p _ rfl;refine⟨S.set id (.cells ver 3 ((yP zs).flatMap Enc.enc)),[],yZ _ hlt,?_⟩;clear hGc hGh;clear Gc Gh;refine jZ hsuf (D:=[]) DM λGc Gh hGc hGh X hX0 hX=>?_
 simp -implicitDefEqProofs [hX0,hX];clear hX0 hX X;refine hK _ _ _ ?_;clear hK hGc hGh;clear K Gc Gh;generalize hz:yP zs=z;have hzl:zs.length=z.length:=by rw[<-hz,Qm]
 have hzs:z.Pairwise (·<=·):=by rw[<-hz];exact Ws zs
 have hfin:∀o,S.set id .dead o=ext (S.set id (.cells ver 3 (z.flatMap Enc.enc))) nx [] o\/S.set id .dead o=.dead:=by
  intro o
  by_cases ho:o=id
  ·subst ho;exact .inr (q11 _ _ _)
  ·rw[q10 _ _ _ _ ho]
   by_cases h2:o<nx
   ·rw[zB h2,q10 _ _ _ _ ho];exact .inl rfl
   ·exact .inr (hd o DH)
 have hS1:(S.set id (.cells ver 3 (z.flatMap Enc.enc))) id=.cells ver 3 (z.flatMap Enc.enc):=q11 _ _ _;have hres:decide zs.Nodup=decide z.Nodup:=by rw[<-hz,decide_eq_decide,ZbO]
 rw[hres];have hzn:z.length<=1048576:=DH
 rw[hzl];generalize S.set id (.cells ver 3 (z.flatMap Enc.enc))=S1 at *;have hx1:=zB (S:=S1) (obs:=[]) hlt
 repeat apply za
 refine zb ?_;refine zj (zD (λj:Nat=>(j=0\/j+1<=z.length)/\(z.take (j+1)).Nodup) (λj=>[(0,.sl id ver 1 0 z.length),(3,I ((j+1:Nat):Int))]) (λ_=>[]) (λj=>z.length-j) 0 [] (by cases z<;>simp) DI DI ?_);rintro j ⟨hj,hjn⟩
 repeat apply za
 refine zb ?_;refine zv rfl (λhc=>?_) (λhc=>?_)
 ·simp at hc;have hc':j+1<z.length:=DH
  obtain⟨c,tl1,b1,b2,b3,e1⟩:=zJ rfl z (j+1) hc';obtain⟨p,tl2,d1,d2,d3,e2⟩:=zJ rfl z j DH;have wj:IntKind.i64.wrap (j:Int)=j:=wr _ DH DH;have g1:(j:Int)<z.length:=DH
  have g2:(j:Int)+1<z.length:=DH
  have g3:0<=(j:Int)+1:=DH
  refine zh (za (zj (za (zz none (Row.pures [0,1,2,3,4,5,6,7,8,9] .done) mixed (yl hx1 hS1 wj e1 e2 (zF g1 g2 g3)) ?_))));refine zv rfl (λhq=>?_) (λhq=>?_)
  ·simp at hq;refine DQ ?_;exact zg ⟨_,_,rfl,⟨by simp;exact Ze6 b1 (by rw[d1,hq]) DH,rfl⟩,hfin⟩
  ·simp at hq;refine zh (zb ?_);have w2:IntKind.i64.wrap ((j:Int)+1+1)=((j+1+1:Nat):Int):=by rw[wr _ DH DH];omega
   exact zq (j+1) [] ⟨by omega,Zfa hzs hjn d3 b3 (λe=>hq e.symm)⟩ DH (by simp[w2]) rfl DI
 ·simp at hc;refine zx (DQ ?_);rw[Af DH]at hjn;exact zg ⟨_,_,rfl,⟨by simp[hjn],rfl⟩,hfin⟩
open Go
abbrev Wt(x:Inst)(t:zL):List PV:=[I x.days,I x.veh,I x.cap,I x.len,L x.cust,L x.dist,L t]
theorem ZlW(x:Inst)(t:zL)(ht:t.length<=1048576):Pure prog 236 [.agg (Wt x t)] (B (qZ x t)):=by
 have bad:∀{k:Nat} {s:Stop},t[k]?=some s->¬(0<=s.c/\s.c<x.cust.length/\1<=s.q/\s.q<=2147483648)->qZ x t=false:=by
  intro k s h hb;unfold qZ;have:t.all (jh x)=false:=by
   rw[BT];exact⟨s,Ab h,by simp[jh];omega⟩
  rw[this];rfl
 refine zt func236 ntmps236 results236 λS nx hd=>?_
 refine DQ ?_;intro v0
 repeat apply za
 refine zb ?_;refine zj (zD (λs:Nat × Nat=>s.1<=t.length/\(t.take s.1).all (jh x)=true) (λ(k,v)=>[(1,.ptr nx v 0),(7,L t),(8,I t.length),(9,I k)]) (λ(k,v)=>[.cells v 267 (Wt x t)]) (λs=>t.length-s.1) (0,v0) [] DI DI DI ?_);rintro⟨k,v0⟩ ⟨hk,ha⟩;simp only at hk ha ⊢;refine DQ ?_;refine za (zv rfl (λhc=>?_) (λhc=>?_))
 ·simp at hc;obtain⟨s,tl,a1,a2,a3,e1,e0⟩:=el 2 rfl t k hc;refine zh (za (zj (za (ze [] (zo hc e0) ?_))));intros
  by_cases h1:s.c<0
  ·repeat apply za
   refine ze [(3,16)] (zo h1 zN) ?_;refine zn rfl (DQ ?_);exact zg (zi hd rfl (by rw[bad a1 (by omega)];rfl))
  by_cases h2:(x.cust.length:Int)<=s.c
  ·repeat apply za
   refine ze [(3,16)] (zF h2 h1 zN) ?_;refine zn rfl (DQ ?_);exact zg (zi hd rfl (by rw[bad a1 (by omega)];rfl))
  repeat apply za
  refine ze [(3,16)] (zo h1 h2) ?_;refine zm rfl (zh ?_)
  by_cases h3:s.q<1
  ·refine za (ze [(3,28)] (zo h3 zN) ?_);refine zn rfl (DQ ?_);exact zg (zi hd rfl (by rw[bad a1 (by omega)];rfl))
  by_cases h4:2147483648<s.q
  ·refine za (ze [(3,28)] (zF h4 h3 zN) ?_);refine zn rfl (DQ ?_);exact zg (zi hd rfl (by rw[bad a1 (by omega)];rfl))
  refine za (ze [(3,28)] (zo h3 h4) ?_);refine zm rfl (zh (zb ?_));exact zq (k+1,v0) [_] ⟨hc,ZlU ha a3 DH⟩ DL (by simp[zu k (by omega)]) rfl DJ
 ·simp at hc;have hk':k=t.length:=DH
  subst hk';rw[Ak]at ha;refine zx (DQ ?_);exact zg (zi hd rfl (by cases t with | nil=>rfl | cons a t=>simp[qZ,ha]))
theorem ZlX(x:Inst)(t:zL)(ht:t.length<=1048576):Pure prog 237 [.agg (Wt x t)] (B (decide (t.map (·.c)).Nodup)):=by
 refine zt func237 ntmps237 results237 λS nx hd=>?_
 refine DQ ?_;intro v0;refine DQ ?_;refine λhsuf=>((Wq t ht _ _ jF).mono ?_).v
 rintro _ _ ⟨v1,rfl,rfl⟩;refine⟨_,_,J8 _,jH [] Nat.add_assoc hsuf ?_⟩;rw[<-List.length_map (f:=λs:Stop=>s.c)];refine λhsuf=>((Zfb _ DI (by simpa using ht)).mono ?_).v
 rintro _ _ ⟨rfl,rfl⟩;refine⟨_,_,yc _ DI DI,zG hsuf ?_⟩;exact zg (zi hd rfl rfl)
theorem ZlY(x:Inst)(t:zL)(ht:t.length<=1048576):Pure prog 238 [.agg (Wt x t)] (B (decide (W (zX t)<=x.cap))):=by
 refine zt func238 ntmps238 results238 λS nx hd=>?_
 refine DQ ?_;intro v0;refine za (zz none (Row.pures [0,1,2,3,4,5,6,7] .done) mixed trivial ?_);refine zK (Ze7 _ ht) trivial ?_;exact zg (zi hd rfl rfl)
theorem ZlZ(x:Inst)(t:zL)(ht:t.length<=1048576)(hs:∀s∈t,qb s.c):Pure prog 239 [.agg (Wt x t)] (B (decide (W (yB x (t.map (·.c)))<=x.len))):=by
 refine zt func239 ntmps239 results239 λS nx hd=>?_
 refine DQ ?_;intro v0;refine za (zz none (Row.pures [0,1,2,3,4,5,6,7,8,9] .done) mixed trivial ?_);refine zK (Wr _ _ ht hs) trivial ?_;exact zg (zi hd rfl rfl)
abbrev Zfc:List PV:=[.fn (.func 236) [] [],I 1,.fn (.func 237) [] [],I 11,.fn (.func 238) [] [],I 12,.fn (.func 239) [] [],I 13]
theorem Zl0:Pure prog 195 [] (.lst 4 Zfc):=by
 refine zt func195 ntmps195 results195 λS nx hd=>?_
 refine DQ ?_;refine DQ ?_;exact zg (zi hd rfl rfl)
theorem Wu(x:Inst)(t:zL)(hx:x.cust.length<=1048576)(ht:t.length<=1048576):Pure prog 150 [.agg (zy x),.agg [L t]] (I (zT x t)):=by
 refine zt func150 ntmps150 results150 λS nx hd=>?_
 refine DQ ?_;intro v0 v1
 repeat apply za
 refine zb ?_;refine zr Zl0 ?_;refine zj (zD (λs:Nat × Nat × Nat=>s.1<=4/\(1<=s.1->qZ x t=true)/\(2<=s.1->(t.map (·.c)).Nodup)/\(3<=s.1->W (zX t)<=x.cap)/\(4<=s.1->W (yB x (t.map (·.c)))<=x.len)) (λ(k,v,v')=>[(2,.ptr nx v 0),(3,.ptr (nx+1) v' 0),(7,.lst 4 Zfc),(8,I 4),(9,I k)]) (λ(k,v,v')=>[.cells v 25 (zy x),.cells v' 42 [L t]]) (λs=>4-s.1) (0,v0,v1) [] DI DI DI ?_);rintro⟨k,v0,v1⟩ ⟨hk,i1,i2,i3,i4⟩;simp only at hk i1 i2 i3 i4 ⊢;have hsm:1<=k->∀s∈t,qb s.c:=λh=>ZlV hx (by have:=i1 h;unfold qZ at this;simp only[Aw]at this;exact this.1)
 match k,hk with
 | 0,_ =>
  refine DQ ?_;refine za (zn rfl (zh (za (zj (DQ ?_)))));intros;refine DQ ?_;refine zr (ZlW x t ht) ?_;refine zv rfl (λh1=>?_) (λh1=>?_)
  ·simp at h1;refine DQ ?_;exact zg (zi hd rfl (by simp[zT,h1]))
  ·simp at h1;refine zh (zb ?_);exact zq (1,v0,v1) [_] (by simp[h1]) DI DJ rfl DJ
 | 1,_ =>
  refine DQ ?_;refine za (zn rfl (zh (za (zj (DQ ?_)))));intros;refine DQ ?_;refine zr (ZlX x t ht) ?_;refine zv rfl (λh1=>?_) (λh1=>?_)
  ·simp at h1;refine DQ ?_;exact zg (zi hd rfl (by simp[zT,h1,i1 (by omega)]))
  ·simp at h1;refine zh (zb ?_);exact zq (2,v0,v1) [_] (by simp[h1,i1 (by omega)]) DI DJ rfl DJ
 | 2,_ =>
  refine DQ ?_;refine za (zn rfl (zh (za (zj (DQ ?_)))));intros;refine DQ ?_;refine zr (ZlY x t ht) ?_;refine zv rfl (λh1=>?_) (λh1=>?_)
  ·simp at h1;refine DQ ?_;exact zg (zi hd rfl (by simp[zT,h1,i1 (by omega),i2 (by omega)]))
  ·simp at h1;refine zh (zb ?_);exact zq (3,v0,v1) [_] (by simp[h1,i1 (by omega),i2 (by omega)]) DI DJ rfl DJ
 | 3,_ =>
  refine DQ ?_;refine za (zn rfl (zh (za (zj (DQ ?_)))));intros;refine DQ ?_;refine zr (ZlZ x t ht (hsm DH)) ?_;have h3:=DF.2 (i3 DH);refine zv rfl (λh1=>?_) (λh1=>?_)
  ·simp at h1;refine DQ ?_;exact zg (zi hd rfl (by simp[zT,h1,i1 (by omega),i2 (by omega),h3]))
  ·simp at h1;refine zh (zb ?_);exact zq (4,v0,v1) [_] (by simp[h1,i1 (by omega),i2 (by omega),i3 (by omega)]) DI DJ rfl DJ
 | 4,_ =>
  refine DQ ?_;refine za (zm rfl (zx (DQ ?_)));exact zg (zi hd rfl (by simp[zT,i1 DH,i2 DH,DF.2 (i3 DH),DF.2 (i4 DH)]))
open Go
def yr(x:Inst)(d:zk):Int :=
 match d.find? (λt=>zT x t != 0) with
 | some t=>zT x t
 | none=>if ¬(d.flatten.map (·.c)).Nodup then 11 else if x.veh<d.length then 14 else 0
theorem Zfd{α:Type}{p:α->Bool}{l:List α}{k:Nat}{a:α}(h:(l.take k).find? p=none)(ht:l.take (k+1)=l.take k++[a])(ha:p a=false):(l.take (k+1)).find? p=none:=by
 rw[ht,List.find?_append,h];simp[ha]
theorem Zfe{α:Type}{p:α->Bool}{l:List α}{k:Nat}{a:α}(h:(l.take k).find? p=none)(hd:l.drop k=a :: l.drop (k+1))(ha:p a=true):l.find? p=some a:=by
 have e:l=l.take k++a :: l.drop (k+1):=by rw[<-hd,List.take_append_drop]
 rw[e,List.find?_append,h];simp[ha]
theorem ZbP(x:Inst)(d:zk)(hx:x.cust.length<=1048576)(hn:d.length<=1048576)(ht:∀t∈d,t.length<=1048576)(hf:d.flatten.length<=1048576):Pure prog 111 [.agg (zy x),.agg [L d]] (I (yr x d)):=by
 refine zt func111 ntmps111 results111 λS nx hd=>?_
 refine DQ ?_;intro v0 v1
 repeat apply za
 refine zb ?_;refine zj (zD (λs:Nat × Nat × Nat=>s.1<=d.length/\(d.take s.1).find? (λt=>zT x t != 0)=none) (λ(k,v,v')=>[(2,.ptr nx v 0),(3,.ptr (nx+1) v' 0),(9,L d),(10,I d.length),(11,I k)]) (λ(k,v,v')=>[.cells v 25 (zy x),.cells v' 39 [L d]]) (λs=>d.length-s.1) (0,v0,v1) [] DI DI DI ?_);rintro⟨k,v0,v1⟩ ⟨hk,ha⟩;simp only at hk ha ⊢;refine DQ ?_;refine za (zv rfl (λhc=>?_) (λhc=>?_))
 ·simp at hc;obtain⟨t,tl,a1,a2,a3,e0⟩:=zJ rfl d k hc;refine zh (za (zj (za (ze [] (zo hc e0) ?_))));intros;refine DQ ?_;refine zr (Wu x t hx (ht t (Ab a1))) ?_;refine DQ ?_;refine zv rfl (λh1=>?_) (λh1=>?_)
  ·simp at h1;refine DQ ?_;exact zg (zi hd rfl (by simp only[yr,Zfe ha a2 (by simpa using h1)];simp))
  ·simp at h1;refine zh (zb ?_);exact zq (k+1,v0,v1) [_] ⟨hc,Zfd ha a3 (by simpa using h1)⟩ DL (by simp[zu k (by omega)]) rfl DJ
 ·simp at hc;have hk':k=d.length:=DH
  subst hk';rw[Ak]at ha;have hst:=Ze8 d hn hf;have hres:yr x d=if ¬(d.flatten.map (·.c)).Nodup then 11 else if x.veh<d.length then 14 else 0:=by unfold yr;rw[ha]
  generalize d.flatten=fl at *;refine zx ?_
  repeat apply za
  refine zb ?_;refine zr hst ?_;refine λhsuf=>((Wq fl hf _ _ jF).mono ?_).v
  rintro _ _ ⟨v2,rfl,rfl⟩;refine⟨_,_,J8 _,jH [] Nat.add_assoc hsuf ?_⟩;rw[<-List.length_map (f:=λs:Stop=>s.c)];refine λhsuf=>((Zfb _ DI (by simpa using hf)).mono ?_).v
  rintro _ _ ⟨rfl,rfl⟩;refine⟨_,_,yc _ DI DI,zG hsuf ?_⟩;refine zv rfl (λh2=>?_) (λh2=>?_)
  ·simp at h2;refine DQ ?_;exact zg (zi hd rfl (by simp[hres,h2]))
  ·simp at h2;refine zh ?_
   repeat apply za
   refine zb ?_;refine zv rfl (λh3=>?_) (λh3=>?_)
   ·simp at h3;refine DQ ?_;exact zg (zi hd rfl (by simp[hres,h2,h3]))
   ·simp at h3;refine zh (DQ ?_);exact zg (zi hd rfl (by simp[hres,h2,DF.2 h3]))
def qH(l:List Stop):zk:=l.map λs=>[s]
theorem Zl1(l:List Stop)(hl:l.length<=1048576):Pure prog 314 [L l] (.agg [L (qH l)]):=by
 refine zt func314 ntmps314 results314 λS nx hd=>?_
 refine DQ ?_;intro v0;refine DQ ?_;intro v1;refine za (qQ 1 0 42 1 rfl rfl λv2=>?_);refine DQ ?_;refine zj (zD (λs:Nat × zk × Nat × Nat × Nat=>s.1<=l.length/\s.2.1=qH (l.take s.1)) (λ(k,out,v,v',v2)=>[(2,.ptr nx v 0),(3,.ptr (nx+1) v' 0),(6,L l),(7,I l.length),(8,I k)]) (λ(k,out,v,v',v2)=>[.cells v 39 [.sc (.slice none 0 0)],.cells v' 39 [.sl (nx+2) v2 1 0 out.length],.cells v2 42 (out.flatMap Enc.enc)]) (λs=>l.length-s.1) (0,[],v0,v1,v2) [] (by simp[qH]) DI DI ?_);rintro⟨k,out,v0,v1,v2⟩ ⟨hk,ho⟩;simp only at hk ho ⊢;refine DQ ?_;refine za (zv rfl (λhc=>?_) (λhc=>?_))
 ·simp at hc;obtain⟨s,tl,a1,a2,a3,e1,e0⟩:=el 2 rfl l k hc;refine zh (za (zj (za (ze [] (zo hc e0) ?_))));intros;have hol:out.length=k:=by rw[ho];simp[qH];omega
  refine zb ?_;refine⟨by omega,?_⟩;refine zb ?_;exact zq (k+1,out++[[s]],v0,v1,v2+1) [_] (by simp[a3,ho,qH];omega) DL (by simp[zu k (by omega)]) rfl DJ
 ·simp at hc;have hk':k=l.length:=DH
  subst hk';refine zx (DQ ?_);refine yb 2 rfl ?_;exact zg (zi hd DJ (by simp[ho]))
open Go
theorem ZbQ(s:Stop):Pure prog 309 [.agg [I s.c,I s.q]] (.agg [L [s]]):=by
 refine zt func309 ntmps309 results309 λS nx hd=>?_
 refine DQ ?_;intro v0 v1;refine DQ ?_;exact DR hd
theorem Zff(l:List Int)(hl:l.length<=1048576)(hs:l.Pairwise (·<=·)):Pure prog 310 [L l] (B (decide (¬l.Nodup))):=by
 refine zt func310 ntmps310 results310 λS nx hd=>?_
 refine DQ ?_
 repeat apply za
 refine zb ?_;refine zj (zD (λj:Nat=>(j=0\/j+1<=l.length)/\(l.take (j+1)).Nodup) (λj=>[(0,L l),(3,I ((j+1:Nat):Int))]) (λ_=>[]) (λj=>l.length-j) 0 [] (by cases l<;>simp) DI DI ?_);rintro j ⟨hj,hjn⟩
 repeat apply za
 refine zb ?_;refine zv rfl (λhc=>?_) (λhc=>?_)
 ·simp at hc;have hc':j+1<l.length:=DH
  obtain⟨c,tl1,b1,b2,b3,e1⟩:=zJ rfl l (j+1) hc';obtain⟨p,tl2,d1,d2,d3,e2⟩:=zJ rfl l j DH;have wj:IntKind.i64.wrap (j:Int)=j:=wr _ DH DH;have g1:(j:Int)<l.length:=DH
  have g2:(j:Int)+1<l.length:=DH
  have g3:0<=(j:Int)+1:=DH
  refine zh (za (zj (za (zz none (Row.pures [0,1,2,3,4,5,6,7,8,9] .done) mixed (yl wj e1 e2 g1 g2 g3) ?_))));refine zv rfl (λhq=>?_) (λhq=>?_)
  ·simp at hq;refine DQ ?_;exact zg (zi hd rfl (by simp;exact Ze6 b1 (by rw[d1,hq]) (by omega)))
  ·simp at hq;refine zh (zb ?_);have w2:IntKind.i64.wrap ((j:Int)+1+1)=((j+1+1:Nat):Int):=by rw[wr _ DH DH];omega
   exact zq (j+1) [] ⟨by omega,Zfa hs hjn d3 b3 (λe=>hq e.symm)⟩ DH (by simp[w2]) rfl DI
 ·simp at hc;refine zx (DQ ?_);rw[Af DH]at hjn;exact zg (zi hd rfl (by simp[hjn]))
theorem Zfg(ss:List Stop)(hss:ss.length<=1048576):Pure prog 311 [L ss] (L (yP (ss.map (·.c)))):=by
 have hcust:=λS nx hd=>Wq ss hss S nx hd
 obtain⟨zs,hzs⟩:∃zs,zs=ss.map (·.c):=⟨_,rfl⟩;have hzl:ss.length=zs.length:=by rw[hzs];simp
 rw[<-hzs,hzl]at hcust;rw[<-hzs];have hz4:=Qm zs;refine zt func311 ntmps311 results311 λS nx hd=>?_
 refine DQ ?_;refine DQ ?_;refine λhsuf=>((hcust _ _ jF).mono ?_).v
 rintro _ _ ⟨v1,rfl,rfl⟩;refine⟨_,_,J8 _,jH [] Nat.add_assoc hsuf ?_⟩;refine DQ ?_;refine λhsuf=>((VY zs DI DH).mono ?_).v
 rintro _ _ rfl;refine⟨_,_,yc _ DI DI,zG hsuf ?_⟩;generalize yP zs=c at *;rw[<-hz4];refine yb 1 rfl ?_;refine DQ ?_;exact DR hd
def wA(x:Inst)(l:List Stop):Int :=
 match l.find? (λs=>zT x [s] != 0) with
 | some s=>zT x [s]
 | none=>if ¬(l.map (·.c)).Nodup then 11 else 0
theorem Zl2(x:Inst)(l:List Stop)(hx:x.cust.length<=1048576)(hl:l.length<=1048576):Pure prog 284 [.agg (zy x),L l] (I (wA x l)):=by
 have hcu:=Zfg l hl;have hdo:=Zff (yP (l.map (·.c))) (by rw[Qm];simpa using hl) (Ws _);have hdd:decide (¬(yP (l.map (·.c))).Nodup)=decide (¬(l.map (·.c)).Nodup):=by rw[decide_eq_decide,ZbO]
 rw[hdd]at hdo;refine zt func284 ntmps284 results284 λS nx hd=>?_
 refine DQ ?_;intro v0
 repeat apply za
 refine zb ?_;refine zj (zD (λk:Nat=>k<=l.length/\(l.take k).find? (λs=>zT x [s] != 0)=none) (λk=>[(1,L l),(2,.ptr nx v0 0),(8,L l),(9,I l.length),(10,I k)]) (λ_=>[.cells v0 25 (zy x)]) (λk=>l.length-k) 0 [] DI DI DI ?_);rintro k ⟨hk,ha⟩;refine DQ ?_;refine za (zv rfl (λhc=>?_) (λhc=>?_))
 ·simp at hc;obtain⟨s,tl,a1,a2,a3,e1,e0⟩:=el 2 rfl l k hc;refine zh (za (zj (za (ze [] (zF hc e1 e0) ?_))));intro v1;refine za (zz none (Row.pures [0,1,2,3,4] .done) mixed trivial ?_);refine zK (ZbQ s) trivial ?_;refine zK (Wu x [s] hx DI) trivial ?_;refine DQ ?_;refine zv rfl (λh1=>?_) (λh1=>?_)
  ·simp at h1;refine DQ ?_;exact zg (zi hd rfl (by simp only[wA,Zfe ha a2 (by simpa using h1)];simp))
  ·simp at h1;refine zh (zb ?_);exact zq (k+1) [_] ⟨hc,Zfd ha a3 (by simpa using h1)⟩ DH (by simp[zu k (by omega)]) rfl DJ
 ·simp at hc;obtain rfl:k=l.length:=DH
  rw[Ak]at ha;have hres:wA x l=if ¬(l.map (·.c)).Nodup then 11 else 0:=by unfold wA;rw[ha]
  refine zx ?_
  repeat apply za
  refine zb ?_;refine zr hcu ?_;refine zr hdo ?_
  by_cases h2:(l.map (·.c)).Nodup
  ·repeat apply za
   refine zm (by simp[h2]) ?_;refine zh (DQ ?_);exact zg (zi hd DJ (by simp[hres,h2,zp]))
  ·repeat apply za
   refine zn (by simp[h2]) ?_;refine DQ ?_;exact zg (zi hd DJ (by simp[hres,h2,zp]))
open Go
structure KeyOk {α:Type} [DecidableEq α] (d:TypeDesc) (key:α->Value):Prop where
 same:∀a b,Instr.sameNow d (key a) (key b)=some (decide (a=b))
theorem Jf(k:IntKind):KeyOk (.int k) (λi:Int=>Value.int k i):=⟨λa b=>by simp[Instr.sameNow]⟩
def MapIs{α β:Type}(key:α->Value)(enc:β->PV)(es:List (Value × PV))(g:α->Option β):Prop :=
 ∃l:List (α × β),es=l.map (λx=>(key x.1,enc x.2))/\(l.map (·.1)).Nodup/\(∀a b,(a,b)∈l<->g a=some b)
def qN{α β:Type}[DecidableEq α](g:α->Option β)(a:α)(v:Option β):α->Option β:=λx=>if x=a then v else g x
theorem Zfh{α β:Type}(key:α->Value)(enc:β->PV):MapIs key enc [] (λ_=>none):=⟨[],rfl,by simp,by simp⟩
theorem Zfi{α β:Type}[DecidableEq α]{d:TypeDesc}{key:α->Value}{enc:β->PV}(hk:KeyOk d key)(a:α):∀(l:List (α × β)) (i:Nat),a ∉ l.map (·.1)->qX d (key a) (l.map λx=>(key x.1,enc x.2)) i=some none
 | [],_,_=>rfl
 | x :: l,i,h=>by
  simp only[AA,As,not_or]at h;simp only[AA,qX,hk.same,decide_eq_false h.1];exact Zfi hk a l (i+1) h.2
theorem Zfj{α β:Type}[DecidableEq α]{d:TypeDesc}{key:α->Value}{enc:β->PV}(hk:KeyOk d key)(a:α)(b:β):∀(l:List (α × β)) (i:Nat),(l.map (·.1)).Nodup->(a,b)∈l ->
  ∃j,l[j]?=some (a,b)/\qX d (key a) (l.map λx=>(key x.1,enc x.2)) i=some (some (i+j,enc b))
 | [],_,_,h=>by cases h
 | x :: l,i,hn,h=>by
  simp only[AA,Cz]at hn
  by_cases e:a=x.1
  ·have hx:x=(a,b):=by
    rcases As.1 h with h | h
    ·exact h.symm
    ·simp_all
   subst hx;exact⟨0,rfl,by simp[qX,hk.same]⟩
  ·have hm:(a,b)∈l:=by
    rcases As.1 h with h | h
    ·grind
    ·exact h
   obtain⟨j,h1,h2⟩:=Zfj hk a b l (i+1) hn.2 hm;refine⟨j+1,by simpa using h1,?_⟩;simp only[AA,qX,hk.same,decide_eq_false e];rw[h2,show i+1+j=i+(j+1) by omega]
theorem MapIs.find{α β:Type}[DecidableEq α]{d:TypeDesc}{key:α->Value}{enc:β->PV}{es:List (Value × PV)}{g:α->Option β}(hk:KeyOk d key)(h:MapIs key enc es g)(a:α):
  ∃res,qX d (key a) es 0=some res/\(g a=none->res=none)/\(∀b,g a=some b->∃j,res=some (j,enc b))/\(∀b,MapIs key enc (qM (key a) (enc b) es res) (qN g a (some b)))/\MapIs key enc (Wg es res) (qN g a none):=by
 obtain⟨l,rfl,hn,hg⟩:=h;cases hga:g a with
 | none =>
  have hna:a ∉ l.map (·.1):=by
   intro hm;obtain⟨x,hx,rfl⟩:=Al.1 hm;have:=(hg x.1 x.2).1 hx;rw[hga]at this;cases this
  have q1:∀b,MapIs key enc (qM (key a) (enc b) (l.map λx=>(key x.1,enc x.2)) none) (qN g a (some b)):=λb=>by
   refine⟨l++[(a,b)],by simp[qM],?_,λa' b'=>?_⟩
   rotate_left
   focus
    unfold qN
    by_cases e:a'=a
    ·subst e;simp only[if_pos,AB,A3,hg,hga];simp[eq_comm]
    ·simp[AB,hg,e]
   rw[List.map_append,Di];refine⟨hn,by simp,λx hx y hy=>?_⟩;simp at hy;subst hy;exact λe=>hna (e ▸ hx)
  refine⟨none,Zfi hk a l 0 hna,(by intro _;rfl),(by intro b hb;cases hb),q1,l,by simp[Wg],hn,λa' b'=>?_⟩
  grind[qN]
 | some b0 =>
  obtain⟨j,h1,h2⟩:=Zfj (enc:=enc) hk a b0 l 0 hn ((hg a b0).2 hga);have hj:j<l.length:=(Ac.1 h1).1;have hja:l[j]=(a,b0):=(Ac.1 h1).2;have huniq:∀(i:Nat) (hi:i<l.length),l[i].1=a->i=j:=by
   intro i hi he;have hp:=Bv.1 hn;rcases Nat.lt_trichotomy i j with h | h | h
   ·grind
   ·exact h
   ·grind
  suffices hh:(∀b,MapIs key enc (qM (key a) (enc b) (l.map λx=>(key x.1,enc x.2)) (some (0+j,enc b0))) (qN g a (some b)))/\MapIs key enc (Wg (l.map λx=>(key x.1,enc x.2)) (some (0+j,enc b0))) (qN g a none) from
   ⟨some (0+j,enc b0),h2,DI,DI,hh.1,hh.2⟩
  refine⟨λb=>⟨l.set j (a,b),?_,?_,λa' b'=>?_⟩,l.eraseIdx j,?_,?_,λa' b'=>?_⟩
  ·simp[qM]
  ·grind[List.map_set]
  ·unfold qN;rw[Bi];constructor
   ·grind
   ·intro h
    by_cases e:a'=a
    ·rw[if_pos e]at h;cases h;exact⟨j,by simp_all⟩
    ·rw[if_neg e]at h;obtain⟨i,hi⟩:=Bi.1 ((hg a' b').2 h);refine⟨i,?_⟩
     grind
  ·simp only[Wg,AS];apply A5
   grind
  ·grind
  ·unfold qN
   by_cases e:a'=a
   ·rw[if_pos e];refine⟨λh=>?_,λh=>by cases h⟩;obtain⟨i,hi⟩:=Bi.1 h
    grind
   ·rw[if_neg e,<-hg];refine⟨λh=>(List.eraseIdx_sublist l j).subset h,λh=>?_⟩;obtain⟨i,hi⟩:=Bi.1 h;have hij:i≠j:=by rintro rfl;rw[h1]at hi;cases hi;exact e rfl
    rw[Bi]
    by_cases hlt:i<j
    ·exact⟨i,by grind⟩
    ·refine⟨i-1,?_⟩
     grind
open Go Hp
abbrev qc:Int->Int->Bool:=λa b=>decide (a<b)
theorem Zm:Str qc:=⟨λa=>by simp,λa b c h1 h2=>by simp at *;omega,λa b h1 h2=>by simp at *;omega⟩
def yk(x:Int × Int):List PV:=[.sc (.int .i64 x.1),.sc (.int .i64 x.2)]
theorem Qn(x:Int × Int):(yk x).length=2:=rfl
abbrev qI(x:Int):Value:=.int .i64 x
structure PosOk (g:Int->Option Nat) (l:zM Int):Prop where
 here:∀i,i<l.length->g (zC l i).1=some i
 gone:∀id,(∀i,i<l.length->(zC l i).1≠id)->g id=none
abbrev ZbR(i:Nat):PV:=.sc (.int .i64 (i:Int))
def RowIs(cs:List PV)(l:zM Int):Prop:=∃rest,cs=l.flatMap yk++rest
theorem RowIs.at{cs:List PV}{l:zM Int}(h:RowIs cs l)(i:Nat)(hi:i<l.length):∃tl,cs.drop (i*2)=.sc (.int .i64 (zC l i).1) :: .sc (.int .i64 (zC l i).2) :: tl:=by
 obtain⟨rest,rfl⟩:=h;refine⟨(l.drop (i+1)).flatMap yk++rest,?_⟩;rw[Cm (by rw[J1 yk 2 Qn];omega),Zen yk 2 Qn l i hi];have:zC l i=l[i]:=by unfold zC;simp[hi]
 rw[this];rfl
theorem RowIs.big{cs:List PV}{l:zM Int}(h:RowIs cs l):l.length*2<=cs.length:=by
 obtain⟨rest,rfl⟩:=h;rw[Aq,J1 yk 2 Qn];omega
theorem RowIs.put{cs:List PV}{l:zM Int}(h:RowIs cs l)(i:Nat)(hi:i<l.length)(x:Int × Int):RowIs (ye cs (i*2) [.sc (.int .i64 x.1),.sc (.int .i64 x.2)]) (l.set i x):=by
 obtain⟨rest,rfl⟩:=h;refine⟨rest,?_⟩;have hl:(l.flatMap yk).length=l.length*2:=J1 yk 2 Qn l
 show List.take (i*2) (l.flatMap yk++rest)++yk x++List.drop (i*2+2) (l.flatMap yk++rest)=_
 rw[BH DH,Q9 yk 2 Qn,show i*2+2=(i+1)*2 by omega,Cm DH,JZ yk 2 Qn]
 simp_all[AF]
theorem RowIs.take{cs:List PV}{l:zM Int}(h:RowIs cs l):cs.take (l.length*2)=l.flatMap yk:=by
 obtain⟨rest,rfl⟩:=h;rw[BH (by rw[J1 yk 2 Qn];omega),Q9 yk 2 Qn,Ak]
structure HS (S:Store) (hid hv rid mid mv:Nat) (l:zM Int) (g:Int->Option Nat):Prop where
 h:∃ver,S hid=.cells hv 445 [.sl rid ver 2 0 l.length,.mp mid mv]/\∃cs,S rid=.cells ver 449 cs/\RowIs cs l
 m:∃es,S mid=.map mv es/\MapIs qI ZbR es g
 ne:hid≠rid/\hid≠mid/\rid≠mid
 len:l.length<=2147483648
def Offd(S:Store)(ids:List Nat)(S':Store):Prop:=∀o,o ∉ ids->S' o=S o\/S o=.dead
def Off(S:Store)(ids:List Nat)(S':Store):Prop:=∀o,o ∉ ids->S' o=S o
theorem Offd.refl(S:Store)(ids:List Nat):Offd S ids S:=λ_ _=>.inl rfl
theorem Offd.set{S T:Store}{ids:List Nat}(h:Offd S ids T){o:Nat}(ho:o∈ids\/S o=.dead)(x:Ob):Offd S ids (T.set o x):=by
 intro i hi
 by_cases e:i=o
 ·simp_all
 ·rw[jf _ _ _ _ e];exact h i hi
theorem Off.offd{S T:Store}{ids:List Nat}(h:Off S ids T):Offd S ids T:=λo ho=>.inl (h o ho)
theorem Off.trans{S T U:Store}{ids:List Nat}(h:Off S ids T)(k:Off T ids U):Off S ids U:=λo ho=>(k o ho).trans (h o ho)
def cut(S:Store)(ids:List Nat)(S':Store):Store:=λo=>if o∈ids then S' o else S o
theorem ZW(S:Store)(ids:List Nat)(S':Store):Off S ids (cut S ids S'):=λo ho=>by simp[cut,ho]
theorem Zl3(S:Store)(ids:List Nat)(S':Store){o:Nat}(h:o∈ids):cut S ids S' o=S' o:=by simp[cut,h]
theorem ZX{S S':Store}{ids:List Nat}(h:Offd S ids S'):∀o,cut S ids S' o=S' o\/cut S ids S' o=.dead:=by
 intro o;unfold cut;split
 ·simp
 ·rename_i ho;rcases h o ho with h | h<;>simp_all
theorem HS.congr{S T:Store}{hid hv rid mid mv:Nat}{l:zM Int}{g:Int->Option Nat}(h:HS S hid hv rid mid mv l g)(e:∀o∈[hid,rid,mid],T o=S o):HS T hid hv rid mid mv l g:=by
 obtain⟨ver,h1,cs,h2,hR⟩:=h.h;obtain⟨es,h3⟩:=h.m;exact⟨⟨ver,by simp_all,cs,by simp_all,hR⟩,⟨es,by simp_all⟩,h.ne,h.len⟩
theorem HS.cut{S T:Store}{hid hv rid mid mv:Nat}{l:zM Int}{g:Int->Option Nat}(h:HS T hid hv rid mid mv l g):HS (cut S [hid,rid,mid] T) hid hv rid mid mv l g:=h.congr λ_ ho=>Zl3 _ _ _ ho
theorem wQ(S:Store)(o:Nat)(x:Ob)(i:Nat):S.set o x i=if i=o then x else S i:=by grind[q11,jf]
theorem Zfk{S:Store}{o i:Nat}{x:Ob}(h:S.set o x i=.dead)(hx:x≠.dead):i≠o/\S i=.dead:=by grind[wQ]
theorem vV{S:Store}{o i:Nat}{x:Ob}(h:S o=x)(hx:x≠.dead)(d:S i=.dead):o≠i:=DO
theorem Zl4{S:Store}{hid hv rid mid mv:Nat}{l:zM Int}{g:Int->Option Nat}(hs:HS S hid hv rid mid mv l g):
  PCalls prog 413 [.ptr hid hv 0] S (λp S'=>p=zY l.length/\S'=S):=by
 obtain⟨ver,h1,cs,h2,hR⟩:=hs.h;refine vt func413 rfl ntmps413 (congrArg Array.toList results413) DI ?_;refine za (qA DM DJ (za (yM [] DM λK hK=>?_)));simp[h1];refine hK _ _ (zg ?_);simp[Zi,zY]
theorem Zl5{S:Store}{hid hv rid mid mv:Nat}{l:zM Int}{g:Int->Option Nat}(hs:HS S hid hv rid mid mv l g)(i j:Nat)(hi:i<l.length)(hj:j<l.length):
  PCalls prog 414 [.ptr hid hv 0,zY i,zY j] S (λp S'=>p=wO (il qc (zC l i) (zC l j))/\S'=S):=by
 obtain⟨ver,h1,cs,h2,hR⟩:=hs.h;obtain⟨tl1,e1⟩:=hR.at i hi;obtain⟨tl2,e2⟩:=hR.at j hj;refine vt func414 rfl ntmps414 (congrArg Array.toList results414) DI ?_;refine za (qA DM DJ (za ?_));refine Q7 (some [hid,rid]) (Row.pures [0,1,2,3,4,5,6,7,8,9,10,11,12,13] (.alt 14 (.alt 15 (.alt 16 (.alt 17 (.done) .stop) .stop) .stop) (.alt 15 (.alt 14 (.alt 16 (.alt 17 (.done) .stop) .stop) .stop) .stop))) mixed DM DM DM λK hK=>?_
 have z1:hid≠rid:=hs.ne.1;have tail:∀(F:Nat->PV) (T:Store) (a b:Nat),F 7=.ptr a 0 0->F 8=.ptr b 0 0->T a=.cells 0 449 (yk (zC l i))->T b=.cells 0 449 (yk (zC l j))->Offd S [] T->K F T:=by
  intro F T a b f7 f8 ta tb hoff;have fin:∀o,S o=T o\/S o=.dead:=λo=>(hoff o DI).imp Eq.symm id
  refine hK _ _ ?_;refine za (za (yM [] DM λK' hK'=>?_));simp[f7,f8,ta,tb,yk];refine hK' _ _ (zv rfl (λhc=>?_) (λhc=>?_))
  ·refine za (yM [] DM λK2 hK2=>?_);simp[f7,f8,ta,tb,yk];refine hK2 _ _ (zg ⟨_,S,rfl,⟨?_,rfl⟩,fin⟩);simp at hc;simp[il,hc,wO]
  ·refine zh (za (yM [] DM λK2 hK2=>?_));simp[f7,f8,ta,tb,yk];refine hK2 _ _ (zg ⟨_,S,rfl,⟨?_,rfl⟩,fin⟩);simp at hc;simp[il,hc,wO]
 simp[h1,h2,hi,hj,e1,e2,zY];constructor
 ·refine Q8 rfl DJ DI λa ha=>?_
  have n1:=vV h1 DI ha;have n2:=vV h2 DI ha;simp[h1,h2,wQ,n1,n2];refine Q8 rfl DJ DI λb hb=>?_
  have n3:=Zfk hb DI;have n4:=vV h1 DI n3.2;have n5:=vV h2 DI n3.2;simp[h1,h2,wQ,n1,n2,n3,n4,n5,n3.1.symm];exact tail _ _ a b rfl rfl (by simp[wQ,n3.1,n3.1.symm,yk]) (by simp[wQ,n3.1,n3.1.symm,yk]) (by repeat (first | exact Offd.refl _ _ | refine Offd.set ?_ (by first | exact .inr ha | exact .inr n3.2) _))
 ·refine Q8 rfl DJ DI λa ha=>?_
  have n1:=vV h1 DI ha;have n2:=vV h2 DI ha;simp[h1,h2,wQ,n1,n2];refine Q8 rfl DJ DI λb hb=>?_
  have n3:=Zfk hb DI;have n4:=vV h1 DI n3.2;have n5:=vV h2 DI n3.2;simp[h1,h2,wQ,n1,n2,n3,n4,n5,n3.1.symm];exact tail _ _ b a rfl rfl (by simp[wQ,n3.1,n3.1.symm,yk]) (by simp[wQ,n3.1,n3.1.symm,yk]) (by repeat (first | exact Offd.refl _ _ | refine Offd.set ?_ (by first | exact .inr ha | exact .inr n3.2) _))
theorem Zl6{S:Store}{hid hv rid mid mv:Nat}{l:zM Int}{g:Int->Option Nat}(hs:HS S hid hv rid mid mv l g)(i j:Nat)(hi:i<l.length)(hj:j<l.length):
  PCalls prog 417 [.ptr hid hv 0,zY i,zY j] S (λ_ S'=>Off S [hid,rid,mid] S'/\HS S' hid hv rid mid mv (swp l i j) (qN (qN g (zC (swp l i j) i).1 (some i)) (zC (swp l i j) j).1 (some j))):=by
 obtain⟨ver,h1,cs,h2,hR⟩:=hs.h;obtain⟨es,h3,h4⟩:=hs.m;obtain⟨z1,z2,z3⟩:=hs.ne;obtain⟨tl1,e1⟩:=hR.at i hi;obtain⟨tl2,e2⟩:=hR.at j hj;have b0:=hR.big;have b1:i*2+2<=cs.length:=DH
 have b2:j*2+2<=cs.length:=DH
 refine vt func417 rfl ntmps417 (congrArg Array.toList results417) DI ?_;refine za (Q7 (some [hid]) (Row.pures [0,1,2,3,4,5,6,7,8,9,10,11,12,13,14,15,17,18,19,20,21,22] (.alt 16 (.alt 23 (Row.pures [24] (.alt 25 (Row.pures [26] (.alt 27 (.done) .stop)) .stop)) .stop) (.alt 23 (.alt 16 (Row.pures [24] (.alt 25 (Row.pures [26] (.alt 27 (.done) .stop)) .stop)) .stop) .stop))) mixed DM DM DM λK hK=>?_);have r1:=(hR.put i hi (zC l j)).put j (by simpa using hj) (zC l i);have hsw:(l.set i (zC l j)).set j (zC l i)=swp l i j:=rfl;rw[hsw]at r1;have hsl:(swp l i j).length=l.length:=uQ l i j;have tail:∀(F:Nat->PV),F 0=.ptr hid hv 0->F 1=zY i->F 2=zY j->K F (S.set rid (.cells ver 449 (ye (ye cs (i*2) [.sc (.int .i64 (zC l j).1),.sc (.int .i64 (zC l j).2)]) (j*2) [.sc (.int .i64 (zC l i).1),.sc (.int .i64 (zC l i).2)]))):=by
  intro F f0 f1 f2;refine hK _ _ ?_;generalize hcs':ye (ye cs (i*2) [.sc (.int .i64 (zC l j).1),.sc (.int .i64 (zC l j).2)]) (j*2) [.sc (.int .i64 (zC l i).1),.sc (.int .i64 (zC l i).2)]=cs' at r1;obtain⟨tl1,e1⟩:=r1.at i DH;obtain⟨tl2,e2⟩:=r1.at j DH;have b0:=r1.big;have b1:i*2+2<=cs'.length:=DH
  have b2:j*2+2<=cs'.length:=DH
  have hT:Offd S [hid,rid,mid] (S.set rid (.cells ver 449 cs')):=(Offd.refl _ _).set (.inl DI) _;have t1:S.set rid (.cells ver 449 cs') hid=_:=(jf _ _ _ _ z1).trans h1;have t2:S.set rid (.cells ver 449 cs') rid=_:=q11 _ _ _;have t3:S.set rid (.cells ver 449 cs') mid=_:=(jf _ _ _ _ (Ne.symm z3)).trans h3;generalize S.set rid (.cells ver 449 cs')=T at hT t1 t2 t3;obtain⟨res,m1,_,_,m2,_⟩:=h4.find (Jf .i64) (zC (swp l i j) i).1;refine za (Q7 (some [hid,rid]) (Row.pures [0,1,2,3,4,5,6,7,8,9,10,11,12] (.alt 13 (.done) .stop)) mixed DM DM DM λK hK=>?_);simp -implicitDefEqProofs [f0,f1,f2,t1,t2,hi,hj,e1,e2,zY,b1,b2];refine Yy (.inl rfl) underlying384 underlying3 rfl rfl rfl t3 m1 ?_;simp -implicitDefEqProofs [jf,z2,z3,t1,t2];refine hK _ _ ?_;clear hK;have u1:T.set mid (.map mv (qM (qI (zC (swp l i j) i).1) (zY i) es res)) hid=_:=(jf _ _ _ _ z2).trans t1;have u2:T.set mid (.map mv (qM (qI (zC (swp l i j) i).1) (zY i) es res)) rid=_:=(jf _ _ _ _ z3).trans t2;have u3:T.set mid (.map mv (qM (qI (zC (swp l i j) i).1) (zY i) es res)) mid=_:=q11 _ _ _;have hU:Offd S [hid,rid,mid] (T.set mid (.map mv (qM (qI (zC (swp l i j) i).1) (zY i) es res))):=hT.set (.inl DI) _;have m3:=m2 i;obtain⟨res2,m4,_,_,m5,_⟩:=m3.find (Jf .i64) (zC (swp l i j) j).1
  show PW _ _ _ _ _ _ _ (T.set mid (.map mv (qM (qI (zC (swp l i j) i).1) (zY i) es res)))
  change MapIs qI ZbR (qM (qI (zC (swp l i j) i).1) (zY i) es res) _ at m3;generalize T.set mid (.map mv (qM (qI (zC (swp l i j) i).1) (zY i) es res))=U at u1 u2 u3 hU;refine Q7 (some [hid,rid]) (Row.pures [0,1,2,3,4,5,6,7,8,9,10,11,12] (.alt 13 (.done) .stop)) mixed DM DM DM λK hK=>?_
  simp -implicitDefEqProofs [f0,f1,f2,u1,u2,hi,hj,e1,e2,zY,b1,b2];refine Yy (.inl rfl) underlying384 underlying3 rfl rfl rfl u3 m4 ?_;simp -implicitDefEqProofs [jf,z2,z3,u1,u2];refine hK _ _ ⟨_,_,rfl,⟨ZW _ _ _,HS.cut ⟨⟨ver,?_,cs',?_,r1⟩,⟨_,?_,m5 j⟩,⟨z1,z2,z3⟩,?_⟩⟩,ZX (hU.set (.inl DI) _)⟩
  ·rw[jf _ _ _ _ z2,u1,hsl]
  ·rw[jf _ _ _ _ z3,u2]
  ·exact q11 _ _ _
  ·rw[hsl];exact hs.len
 simp -implicitDefEqProofs [h1,h2,hi,hj,e1,e2,zY,b1,b2,wQ,z1];exact⟨tail _ rfl rfl rfl,tail _ rfl rfl rfl⟩
theorem Zl7:ElemOk prog 441 449 (.agg #[.int .i64 0,.int .i64 0]) 16 :=
 ⟨underlying441,by simp,by simp,by simp,by simp,by omega⟩
theorem Zl8{S:Store}{hid hv rid mid mv:Nat}{l:zM Int}{g:Int->Option Nat}(hs:HS S hid hv rid mid mv l g)(x:Int × Int)(hn:l.length+1<=2147483648):
  PCalls prog 416 [.ptr hid hv 0,.ifc 449 (.agg (yk x))] S (λ_ S'=>Off S [hid,rid,mid] S'/\HS S' hid hv rid mid mv (l++[x]) (qN g x.1 (some l.length))):=by
 obtain⟨ver,h1,cs,h2,hR⟩:=hs.h;obtain⟨es,h3,h4⟩:=hs.m;obtain⟨z1,z2,z3⟩:=hs.ne;have b0:=hR.big;refine vt func416 rfl ntmps416 (congrArg Array.toList results416) DI ?_;refine za (yM [] DM λK hK=>?_);simp -implicitDefEqProofs [yk];refine ZkF rfl underlying449 (by intro ms;simp) DJ (p:=.tup [.agg (yk x),.sc (.bool true)]) (by simp[Zbr,yk]) ?_;simp -implicitDefEqProofs [yk];refine Q8 rfl DJ DI λa ha=>?_
 simp -implicitDefEqProofs [yk];have n1:=vV h1 DI ha;have n2:=vV h2 DI ha;have n3:=vV h3 DI ha;refine hK _ _ ?_;clear hK;have hT:Offd S [hid,rid,mid] (S.set a (.cells 0 449 (yk x))):=(Offd.refl _ _).set (.inr ha) _;have t1:S.set a (.cells 0 449 (yk x)) hid=_:=(jf _ _ _ _ n1).trans h1;have t2:S.set a (.cells 0 449 (yk x)) rid=_:=(jf _ _ _ _ n2).trans h2;have t3:S.set a (.cells 0 449 (yk x)) mid=_:=(jf _ _ _ _ n3).trans h3;have t4:S.set a (.cells 0 449 (yk x)) a=_:=q11 _ _ _
 show PW _ _ _ _ _ _ _ (S.set a (.cells 0 449 (yk x)))
 generalize S.set a (.cells 0 449 (yk x))=T at hT t1 t2 t3 t4;refine za (qA DM DJ (zv rfl (λ_=>?_) (λh=>by simp at h)));obtain⟨res,m1,_,_,m2,_⟩:=h4.find (Jf .i64) x.1;refine za (Q7 (some [hid,a]) (Row.pures [0,1,2,3,4,5,6,7,8,9,10] (.alt 11 (.done) .stop)) mixed DM DM DM λK hK=>?_);simp -implicitDefEqProofs [t1,t4,yk];refine Yy (.inl rfl) underlying384 underlying3 rfl rfl rfl t3 m1 ?_;simp -implicitDefEqProofs [jf,z2,n3.symm,t1,t4,yk];refine hK _ _ ?_;clear hK;have m3:=m2 l.length;have u1:T.set mid (.map mv (qM (qI x.1) (zY l.length) es res)) hid=_:=(jf _ _ _ _ z2).trans t1;have u2:T.set mid (.map mv (qM (qI x.1) (zY l.length) es res)) rid=_:=(jf _ _ _ _ z3).trans t2;have u3:T.set mid (.map mv (qM (qI x.1) (zY l.length) es res)) mid=_:=q11 _ _ _;have u4:T.set mid (.map mv (qM (qI x.1) (zY l.length) es res)) a=_:=(jf _ _ _ _ n3.symm).trans t4;have hU:Offd S [hid,rid,mid] (T.set mid (.map mv (qM (qI x.1) (zY l.length) es res))):=hT.set (.inl DI) _
 show PW _ _ _ _ _ _ _ (T.set mid (.map mv (qM (qI x.1) (zY l.length) es res)))
 change MapIs qI ZbR (qM (qI x.1) (zY l.length) es res) _ at m3;generalize T.set mid (.map mv (qM (qI x.1) (zY l.length) es res))=U at u1 u2 u3 u4 hU;refine Q7 (some [a]) (Row.pures [0,1,2,3,5,6] (.alt 4 (.alt 7 (Row.pures [8,9] (.alt 10 (.done) .stop)) .stop) .stop)) mixed DM DM DM λK hK=>?_
 simp -implicitDefEqProofs [u1,u4,yk];refine Zkz rfl Zl7 DJ u2 (by simpa using b0) (m:=1) (ds:=yk x) (by simp[yk]) DH DH ?_;simp -implicitDefEqProofs [wQ,z1,n1.symm,n2.symm,u1,u4,yk];have r1:RowIs (cs.take (l.length*2)++yk x) (l++[x]):=⟨[],by rw[hR.take];simp⟩;refine hK _ _ ⟨_,_,rfl,⟨ZW _ _ _,HS.cut ⟨⟨ver+1,?_,_,?_,r1⟩,⟨_,?_,m3⟩,⟨z1,z2,z3⟩,?_⟩⟩,ZX ((hU.set (.inl DI) _).set (.inl DI) _)⟩
 ·rw[Zbq];simp
 ·rw[jf _ _ _ _ z1.symm,Zbq];simp[yk]
 ·rw[jf _ _ _ _ z2.symm,jf _ _ _ _ z3.symm,u3]
 ·simp;omega
theorem Zl9{S:Store}{hid hv rid mid mv:Nat}{l:zM Int}{g:Int->Option Nat}(x:Int × Int)(hs:HS S hid hv rid mid mv (l++[x]) g):
  PCalls prog 415 [.ptr hid hv 0] S (λp S'=>p=.ifc 449 (.agg (yk x))/\Off S [hid,rid,mid] S'/\HS S' hid hv rid mid mv l (qN g x.1 none)):=by
 obtain⟨ver,h1,cs,h2,hR⟩:=hs.h;obtain⟨es,h3,h4⟩:=hs.m;obtain⟨z1,z2,z3⟩:=hs.ne;have b0:=hR.big;have hlen:=hs.len;simp only[Aq,Ad,Ah,AS]at h1 b0 hlen;refine vt func415 rfl ntmps415 (congrArg Array.toList results415) DI ?_;have hw:IntKind.i64.wrap (l.length:Int)=l.length:=ZP _ DH DH;obtain⟨tl,e1⟩:=hR.at l.length DI;have ha:zC (l++[x]) l.length=x:=by simp[zC]
 rw[ha]at e1;refine za (qA DM DJ (za (yM [] DM λK hK=>?_)));simp -implicitDefEqProofs [h1,hw];refine hK _ _ ?_;clear hK;refine za (yM [] DM λK hK=>?_);have hlt:(l.length:Int)<l.length+1:=DH
 have b1:l.length*2+2<=cs.length:=DH
 simp -implicitDefEqProofs [h1,h2,e1,hlt];refine Q8 rfl DJ DI λa ha=>?_
 have n1:=vV h1 DI ha;have n2:=vV h2 DI ha;have n3:=vV h3 DI ha;simp -implicitDefEqProofs;refine hK _ _ ?_;clear hK;refine za (yM [] DM λK hK=>?_);simp -implicitDefEqProofs [wQ,n1,n2,h1,h2,hlt,b1];refine hK _ _ ?_;clear hK;refine za (yM [] DM λK hK=>?_);simp -implicitDefEqProofs [wQ,n1,n2,z1,h1,h2,hlt,b1];refine hK _ _ ?_;clear hK;have r1:RowIs (ye cs (l.length*2) [.sc (.int .i64 0),.sc (.int .i64 0)]) l:=by
  obtain⟨rest,q⟩:=hR.put l.length DI (0,0);exact⟨yk (0,0)++rest,by rw[q,BB _ _ (Ag _)];simp⟩
 have hT:Offd S [hid,rid,mid] (((S.set a (.cells 0 449 (yk x))).set rid (.cells ver 449 (ye cs (l.length*2) [.sc (.int .i64 0),.sc (.int .i64 0)]))).set hid (.cells hv 445 [.sl rid ver 2 0 l.length,.mp mid mv])) :=
  (((Offd.refl _ _).set (.inr ha) _).set (.inl DI) _).set (.inl DI) _
 have t1:(((S.set a (.cells 0 449 (yk x))).set rid (.cells ver 449 (ye cs (l.length*2) [.sc (.int .i64 0),.sc (.int .i64 0)]))).set hid (.cells hv 445 [.sl rid ver 2 0 l.length,.mp mid mv])) hid=.cells hv 445 [.sl rid ver 2 0 l.length,.mp mid mv]:=DI
 have t2:(((S.set a (.cells 0 449 (yk x))).set rid (.cells ver 449 (ye cs (l.length*2) [.sc (.int .i64 0),.sc (.int .i64 0)]))).set hid (.cells hv 445 [.sl rid ver 2 0 l.length,.mp mid mv])) rid=.cells ver 449 (ye cs (l.length*2) [.sc (.int .i64 0),.sc (.int .i64 0)]):=by simp[wQ,z1.symm]
 have t3:(((S.set a (.cells 0 449 (yk x))).set rid (.cells ver 449 (ye cs (l.length*2) [.sc (.int .i64 0),.sc (.int .i64 0)]))).set hid (.cells hv 445 [.sl rid ver 2 0 l.length,.mp mid mv])) mid=.map mv es:=by simp[wQ,z2.symm,z3.symm,n3,h3]
 have t4:(((S.set a (.cells 0 449 (yk x))).set rid (.cells ver 449 (ye cs (l.length*2) [.sc (.int .i64 0),.sc (.int .i64 0)]))).set hid (.cells hv 445 [.sl rid ver 2 0 l.length,.mp mid mv])) a=.cells 0 449 (yk x):=by simp[wQ,n1.symm,n2.symm]
 show PW _ _ _ _ _ _ _ (((S.set a (.cells 0 449 (yk x))).set rid (.cells ver 449 (ye cs (l.length*2) [.sc (.int .i64 0),.sc (.int .i64 0)]))).set hid (.cells hv 445 [.sl rid ver 2 0 l.length,.mp mid mv]))
 generalize (((S.set a (.cells 0 449 (yk x))).set rid (.cells ver 449 (ye cs (l.length*2) [.sc (.int .i64 0),.sc (.int .i64 0)]))).set hid (.cells hv 445 [.sl rid ver 2 0 l.length,.mp mid mv]))=T at hT t1 t2 t3 t4;obtain⟨res,m1,_,_,_,m2⟩:=h4.find (Jf .i64) x.1;refine za (Q7 (some [hid,a]) (Row.pures [0,1,2,3,4,5] (.alt 6 (.done) .stop)) mixed DM DM DM λK hK=>?_);simp -implicitDefEqProofs [t1,t4,yk];refine ZkD rfl rfl underlying384 underlying3 rfl rfl rfl t3 m1 ?_;simp -implicitDefEqProofs [jf,z2,n3.symm,t1,t4,yk];refine hK _ _ ?_;clear hK;refine za (yM [] DM λK hK=>?_);simp -implicitDefEqProofs [jf,z2,n3.symm,t1,t4,yk];refine hK _ _ (zg ⟨_,_,rfl,⟨rfl,ZW _ _ _,HS.cut ⟨⟨ver,?_,_,?_,r1⟩,⟨_,?_,m2⟩,⟨z1,z2,z3⟩,?_⟩⟩,ZX (hT.set (.inl DI) _)⟩)
 ·rw[jf _ _ _ _ z2,t1]
 ·rw[jf _ _ _ _ z3,t2]
 ·exact Zbq _ _ _
 ·omega
open Go Hp
def HP(S:Store)(hid hv rid mid mv:Nat)(l:zM Int):Prop:=∃g,HS S hid hv rid mid mv l g/\PosOk g l
theorem PosOk.inj{g:Int->Option Nat}{l:zM Int}(h:PosOk g l){i j:Nat}(hi:i<l.length)(hj:j<l.length)(e:(zC l i).1=(zC l j).1):i=j:=by
 have h1:=h.here i hi;rw[e,h.here j hj]at h1
 simp_all
theorem PosOk.swp{g:Int->Option Nat}{l:zM Int}(h:PosOk g l)(i j:Nat)(hi:i<l.length)(hj:j<l.length):PosOk (qN (qN g (zC (swp l i j) i).1 (some i)) (zC (swp l i j) j).1 (some j)) (swp l i j):=by
 have at':=λk=>X4 l i j k hi hj
 have ei:(zC (Hp.swp l i j) i).1=(zC l j).1:=by
  rw[at' i]
  by_cases e:i=j
  ·rw[if_pos e,e]
  ·simp_all
 have ej:(zC (Hp.swp l i j) j).1=(zC l i).1:=by rw[at' j,if_pos rfl]
 rw[ei,ej];refine⟨λk hk=>?_,λid hid=>?_⟩
 ·rw[uQ]at hk;rw[at' k];unfold qN
  by_cases k1:k=j
  ·simp_all
  ·rw[if_neg k1]
   by_cases k2:k=i
   ·rw[if_pos k2];rw[if_neg (λe=>k1 (by rw[k2];exact(h.inj hj hi e).symm)),if_pos rfl,k2]
   ·rw[if_neg k2,if_neg (λe=>k2 (h.inj hk hi e)),if_neg (λe=>k1 (h.inj hk hj e))];exact h.here k hk
 ·unfold qN;have q1:=hid i (by rw[uQ];exact hi);have q2:=hid j (by rw[uQ];exact hj);rw[ei]at q1;rw[ej]at q2;rw[if_neg (Ne.symm q2),if_neg (Ne.symm q1)];refine h.gone id λk hk e=>?_
  grind[uQ]
theorem Wv(l:zM Int)(x:Int × Int)(k:Nat)(hk:k<l.length):zC (l++[x]) k=zC l k:=by simp_all[zC,Ap]
theorem V1(l:zM Int)(x:Int × Int):zC (l++[x]) l.length=x:=by simp[zC]
theorem PosOk.push{g:Int->Option Nat}{l:zM Int}(h:PosOk g l)(x:Int × Int)(hx:g x.1=none):PosOk (qN g x.1 (some l.length)) (l++[x]):=by
 refine⟨λk hk=>?_,λid hid=>?_⟩
 ·simp only[Aq,Ad,Ah,AS]at hk;unfold qN
  by_cases k1:k=l.length
  ·simp_all[V1]
  ·have hk':k<l.length:=DH
   rw[Wv l x k hk',if_neg]
   ·exact h.here k hk'
   ·intro e;have:=h.here k hk'
    simp_all
 ·have q:=hid l.length DI;rw[V1]at q;unfold qN;rw[if_neg (Ne.symm q)];refine h.gone id λk hk=>?_
  have:=hid k DL
  simp_all[Wv]
theorem PosOk.pop{g:Int->Option Nat}{l:zM Int}(x:Int × Int)(h:PosOk g (l++[x])):PosOk (qN g x.1 none) l:=by
 have hl:l.length<(l++[x]).length:=DI
 refine⟨λk hk=>?_,λid hid=>?_⟩
 ·have hk':k<(l++[x]).length:=DL
  have:=h.here k hk';rw[Wv l x k hk]at this;unfold qN;rw[if_neg]
  ·omega
  ·intro e;have:=h.inj hk' hl (by simp_all[Wv,V1]);omega
 ·unfold qN
  by_cases e:id=x.1
  ·rw[if_pos e]
  ·rw[if_neg e];refine h.gone id λk hk=>?_
   grind[V1,Wv]
theorem Zfl : J3 prog 447 "Len" 413 := by intro v w; kernel_rfl
theorem ZbS : J3 prog 447 "Less" 414 := by intro v w; kernel_rfl
theorem ZbT : J3 prog 447 "Swap" 417 := by intro v w; kernel_rfl
theorem Zma : J3 prog 447 "Push" 416 := by intro v w; kernel_rfl
theorem Zmb : J3 prog 447 "Pop" 415 := by intro v w; kernel_rfl
abbrev hI(hid hv:Nat):PV:=.ifc 447 (.ptr hid hv 0)
theorem HP.len{S:Store}{hid hv rid mid mv:Nat}{l:zM Int}(h:HP S hid hv rid mid mv l):l.length<=2147483648:=by obtain⟨g,h,_⟩:=h;exact h.len
theorem HP.cut{S T:Store}{hid hv rid mid mv:Nat}{l:zM Int}(h:HP T hid hv rid mid mv l):HP (cut S [hid,rid,mid] T) hid hv rid mid mv l:=by obtain⟨g,h,k⟩:=h;exact⟨g,h.cut,k⟩
theorem Zfm{S:Store}{hid hv rid mid mv:Nat}{l:zM Int}(h:HP S hid hv rid mid mv l):PCalls prog 413 [.ptr hid hv 0] S (λp S'=>p=zY l.length/\S'=S):=by
 obtain⟨g,h,_⟩:=h;exact Zl4 h
theorem ZbU{S:Store}{hid hv rid mid mv:Nat}{l:zM Int}(h:HP S hid hv rid mid mv l)(i j:Nat)(hi:i<l.length)(hj:j<l.length):PCalls prog 414 [.ptr hid hv 0,zY i,zY j] S (λp S'=>p=wO (il qc (zC l i) (zC l j))/\S'=S):=by
 obtain⟨g,h,_⟩:=h;grind[Zl5]
theorem ZbV{S:Store}{hid hv rid mid mv:Nat}{l:zM Int}(h:HP S hid hv rid mid mv l)(i j:Nat)(hi:i<l.length)(hj:j<l.length):PCalls prog 417 [.ptr hid hv 0,zY i,zY j] S (λ_ S'=>Off S [hid,rid,mid] S'/\HP S' hid hv rid mid mv (swp l i j)):=by
 obtain⟨g,h,k⟩:=h;exact(Zl6 h i j hi hj).mono λp S' q=>⟨q.1,_,q.2,k.swp i j hi hj⟩
theorem Zmc{S:Store}{hid hv rid mid mv:Nat}{l:zM Int}(h:HP S hid hv rid mid mv l)(x:Int × Int)(hx:∀i,i<l.length->(zC l i).1≠x.1)(hn:l.length+1<=2147483648):PCalls prog 416 [.ptr hid hv 0,.ifc 449 (.agg (yk x))] S (λ_ S'=>Off S [hid,rid,mid] S'/\HP S' hid hv rid mid mv (l++[x])):=by
 obtain⟨g,h,k⟩:=h;exact(Zl8 h x hn).mono λp S' q=>⟨q.1,_,q.2,k.push x (k.gone _ hx)⟩
theorem Zmd{S:Store}{hid hv rid mid mv:Nat}{l:zM Int}(x:Int × Int)(h:HP S hid hv rid mid mv (l++[x])):PCalls prog 415 [.ptr hid hv 0] S (λp S'=>p=.ifc 449 (.agg (yk x))/\Off S [hid,rid,mid] S'/\HP S' hid hv rid mid mv l):=by
 obtain⟨g,h,k⟩:=h;exact(Zl9 x h).mono λp S' q=>⟨q.1,q.2.1,_,q.2.2,k.pop x⟩
theorem Zme(j:Nat):((j:Int)-1).tdiv 2=(yf j:Nat):=by grind[yf]
theorem Zfn{S:Store}{hid hv rid mid mv:Nat}{l:zM Int}(h:HP S hid hv rid mid mv l)(j:Nat)(hj:j<l.length):
  PCalls prog 377 [hI hid hv,zY j] S (λ_ S'=>Off S [hid,rid,mid] S'/\HP S' hid hv rid mid mv (wK qc (j+1) l j)):=by
 refine vt func377 rfl ntmps377 (congrArg Array.toList results377) DI ?_;refine zj (Zbf (λF S' m=>∃(lc:zM Int) (jc:Nat),m=jc/\jc<lc.length/\F 0=hI hid hv/\F 1=zY jc/\Off S [hid,rid,mid] S'/\HP S' hid hv rid mid mv lc/\wK qc (jc+1) lc jc=wK qc (j+1) l j) j ⟨l,j,rfl,hj,rfl,rfl,λ_ _=>rfl,h,rfl⟩ ?_);rintro jc F T ⟨lc,_,rfl,hjc,f0,f1,hoff,hp,hup⟩;have hlen:=hp.len;have w1:IntKind.i64.wrap ((jc:Int)-1)=(jc:Int)-1:=ZP _ DH DH;have hpar:yf jc<=jc:=by unfold yf;omega
 have w2:IntKind.i64.wrap (yf jc:Int)=yf jc:=ZP _ DH DH;refine zj (za (yM [] DM λK hK=>?_));simp -implicitDefEqProofs [f0,f1,zY,w1,Zme,w2];refine hK _ _ ?_;clear hK
 by_cases hc:yf jc=jc
 ·refine za (za (yM [] DM λK hK=>?_));simp -implicitDefEqProofs [f0,f1,zY,hc];refine hK _ _ (zv rfl (λ_=>zx ?_) (λq=>by simp at q));refine⟨_,_,rfl,⟨ZW _ _ _,?_⟩,ZX hoff.offd⟩;rw[<-hup];unfold wK;rw[if_pos (.inl hc)];exact hp.cut
 ·refine za (za (yM [] DM λK hK=>?_));have hc':¬((yf jc:Nat):Int)=jc:=DH
  simp -implicitDefEqProofs [f0,f1,zY,hc,hc'];refine ZR rfl rfl rfl ZbS ZbF (by exact ZbU hp jc (yf jc) hjc (by omega)) λp S' hq=>?_
  obtain⟨rfl,rfl⟩:=hq;simp -implicitDefEqProofs [wO];refine hK _ _ ?_;clear hK;cases hl:il qc (zC lc jc) (zC lc (yf jc)) with
  | false =>
   refine zv rfl (λ_=>zx ?_) (λq=>by simp at q);refine⟨_,_,rfl,⟨ZW _ _ _,?_⟩,ZX hoff.offd⟩;rw[<-hup];unfold wK;rw[if_pos (.inr hl)];exact hp.cut
  | true =>
   refine zv rfl (λq=>by simp at q) (λ_=>zh (za (yM [] DM λK hK=>?_)));simp -implicitDefEqProofs [f0,f1,zY];refine ZR rfl rfl rfl ZbT ZbG (by exact ZbV hp (yf jc) jc (by omega) hjc) λp S' hq=>?_
   obtain⟨hq1,hq2⟩:=hq;refine hK _ _ ?_;clear hK;refine qA DM DJ ?_;refine⟨yf jc,⟨swp lc (yf jc) jc,yf jc,rfl,by rw[uQ];omega,f0,by rfl,hoff.trans hq1,hq2,?_⟩,by omega⟩
   grind[wK,ZjS]
theorem Zmf{S:Store}{hid hv rid mid mv:Nat}{l:zM Int}(h:HP S hid hv rid mid mv l)(i n:Nat)(hi:i<n)(hn:n<=l.length):
  PCalls prog 380 [hI hid hv,zY i,zY n] S (λp S'=>p=wO (decide (i<(qh qc n l i n).2))/\Off S [hid,rid,mid] S'/\HP S' hid hv rid mid mv (qh qc n l i n).1):=by
 refine vt func380 rfl ntmps380 (congrArg Array.toList results380) DI ?_;refine za (qA DM DJ (za (qA DM DJ (za ?_))));refine X9 (Q:=λe F T=>e=.normal/\F 1=zY i/\F 7=zY (qh qc n l i n).2/\Off S [hid,rid,mid] T/\HP T hid hv rid mid mv (qh qc n l i n).1) (zj (Zbf (λF S' m=>∃(lc:zM Int) (ic:Nat),m=n-ic/\ic<n/\n<=lc.length/\F 0=hI hid hv/\F 1=zY i/\F 2=zY n/\F 7=zY ic/\Off S [hid,rid,mid] S'/\HP S' hid hv rid mid mv lc/\qh qc n lc ic n=qh qc n l i n) (n-i) ⟨l,i,rfl,hi,hn,rfl,rfl,rfl,rfl,λ_ _=>rfl,h,rfl⟩ ?_)) ?_
 rotate_left
 ·rintro e F T ⟨rfl,f1,f7,hoff,hp⟩;refine za (yM [] DM λK hK=>?_);simp -implicitDefEqProofs [f1,f7,zY];refine hK _ _ (zg ⟨_,_,rfl,⟨?_,ZW _ _ _,hp.cut⟩,ZX hoff.offd⟩);simp[wO]
 rintro _ F T ⟨lc,ic,rfl,hic,hnl,f0,f1,f2,f7,hoff,hp,hdown⟩;have hlen:=hp.len;have w1:IntKind.i64.wrap (2*(ic:Int))=2*(ic:Int):=ZP _ DH DH;have w2:IntKind.i64.wrap (2*(ic:Int)+1)=((2*ic+1:Nat):Int):=by rw[ZP _ DH DH];omega
 have w3:IntKind.i64.wrap (((2*ic+1:Nat):Int)+1)=((2*ic+2:Nat):Int):=by rw[ZP _ DH DH];omega
 refine zj (za (yM [] DM λK hK=>?_));simp -implicitDefEqProofs only [f0,f1,f7,zY,w1,w2];generalize hk1:2*ic+1=k1 at w2 w3;simp -implicitDefEqProofs [f0,f1,f7,zY,w1,w2];refine hK _ _ ?_;clear hK
 by_cases hc:n<=k1
 ·refine za (za (yM [] DM λK hK=>?_));have hc':(n:Int)<=k1:=DH
  simp -implicitDefEqProofs [f0,f1,f2,f7,zY,hc,hc'];refine hK _ _ (zv rfl (λ_=>zx ?_) (λq=>by simp at q));have hd:qh qc n lc ic n=(lc,ic):=by
   cases n with
   | zero=>omega
   | succ n=>unfold qh;rw[if_pos DH]
  rw[hdown]at hd
  simp_all
 ·refine za (za (yM [] DM λK hK=>?_));have hc':¬(n:Int)<=k1:=DH
  have hc2:¬(k1:Int)<0:=DH
  simp -implicitDefEqProofs [f0,f1,f2,f7,zY,hc',hc2];refine hK _ _ (zv rfl (λq=>by simp at q) (λ_=>zh ?_));clear hK;refine za (qA DM DJ ?_);obtain⟨c1,c2,c3,c4,c5⟩:=ZdV Zm lc ic n DH;have hkd:jD qc lc ic n<lc.length:=DH
  refine za (X9 (Q:=λe F' T'=>e=.normal/\T'=T/\F' 0=hI hid hv/\F' 1=zY i/\F' 2=zY n/\F' 7=zY ic/\F' 9=zY (jD qc lc ic n)) ?_ ?_)
  ·generalize hk2:2*ic+2=k2 at w3;refine za (yM [] DM λK hK=>?_);simp -implicitDefEqProofs [f0,f1,f2,f7,zY,w3];refine hK _ _ ?_;clear hK
   by_cases h2:k2<n
   ·refine za (yM [] DM λK hK=>?_);have h2':(k2:Int)<n:=DH
    simp -implicitDefEqProofs [f0,f1,f2,f7,zY,h2,h2'];refine ZR rfl rfl rfl ZbS ZbF (by exact ZbU hp k2 k1 (by omega) (by omega)) λp S' hq=>?_
    obtain⟨rfl,rfl⟩:=hq;simp -implicitDefEqProofs [wO];refine hK _ _ ?_;clear hK;cases hl:il qc (zC lc k2) (zC lc k1) with
    | true =>
     refine zv rfl (λ_=>qA DM DJ ?_) (λq=>by simp at q);refine⟨rfl,rfl,f0,f1,f2,f7,?_⟩;unfold jD;rw[hk1,hk2,if_pos ⟨h2,hl⟩];rfl
    | false =>
     refine zv rfl (λq=>by simp at q) (λ_=>zh ⟨rfl,rfl,f0,f1,f2,f7,?_⟩);unfold jD;rw[hk1,hk2,if_neg (by rw[hl];simp)];rfl
   ·refine za (yM [] DM λK hK=>?_);have h2':¬(k2:Int)<n:=DH
    simp -implicitDefEqProofs [f0,f1,f2,f7,zY,h2,h2'];refine hK _ _ (zv rfl (λq=>by simp at q) (λ_=>zh ⟨rfl,rfl,f0,f1,f2,f7,?_⟩));unfold jD;rw[hk1,hk2,if_neg (λq=>h2 q.1)];rfl
  ·clear f0 f1 f2 f7 F;rintro e F S' ⟨rfl,rfl,f0,f1,f2,f7,f9⟩;have hstep:qh qc n lc ic n=if il qc (zC lc (jD qc lc ic n)) (zC lc ic)=false then (lc,ic) else qh qc n (swp lc ic (jD qc lc ic n)) (jD qc lc ic n) n:=by
    cases n with
    | zero=>omega
    | succ n =>
     grind[qh,ZjU]
   rw[hdown]at hstep;generalize hkk:jD qc lc ic n=kk at *;refine za (za (yM [] DM λK hK=>?_));simp -implicitDefEqProofs [f0,f1,f2,f7,f9,zY];refine ZR rfl rfl rfl ZbS ZbF (by exact ZbU hp kk ic (by omega) (by omega)) λp S' hq=>?_
   obtain⟨rfl,rfl⟩:=hq;simp -implicitDefEqProofs [wO];refine hK _ _ ?_;clear hK;cases hl:il qc (zC lc kk) (zC lc ic) with
   | false =>
    rw[if_pos hl]at hstep;refine zv rfl (λ_=>zx ⟨rfl,f1,?_,hoff,?_⟩) (λq=>by simp at q)<;>simp_all
   | true =>
    rw[if_neg (by rw[hl];simp)]at hstep;refine zv rfl (λq=>by simp at q) (λ_=>zh (za (yM [] DM λK hK=>?_)));simp -implicitDefEqProofs [f0,f1,f2,f7,f9,zY];refine ZR rfl rfl rfl ZbT ZbG (by exact ZbV hp ic kk (by omega) hkd) λp S' hq=>?_
    obtain⟨hq1,hq2⟩:=hq;refine hK _ _ ?_;clear hK;refine qA DM (by simp[f9];rfl) ?_;refine⟨n-kk,⟨swp lc ic kk,kk,rfl,c2,by simp_all[uQ],f0,f1,f2,rfl,hoff.trans hq1,hq2,hstep.symm⟩,by omega⟩
end Go.Proofs.YtcocagkbfpgmiaaGreatDoor.Pv
namespace Go.Proofs.YtcocagkbfpgmiaaGreatDoor.Hp
section
variable {α:Type} [DecidableEq α] [Inhabited α] {lt:α->α->Bool}
def ZY(lt:α->α->Bool)(l:zM α)(i n:Nat):zM α:=if i<(qh lt n l i n).2 then (qh lt n l i n).1 else wK lt (i+1) (qh lt n l i n).1 i
theorem Zmg(h:Str lt)(l:zM α)(i n:Nat)(hn:n<=l.length)(hi:i<n)(inv:DownInv lt l n i):Zf lt (ZY lt l i n) n/\(ZY lt l i n).Perm l/\(ZY lt l i n).length=l.length/\∀k,n<=k->zC (ZY lt l i n) k=zC l k:=by
 obtain⟨q1,q2,q3,q4,q5,q6,q7⟩:=ZdW h n l n i hn hi DH inv;unfold ZY;split
 ·rename_i hm;exact⟨q6 hm,q1,q2,q3⟩
 ·rename_i hm;obtain⟨r1,r2⟩:=q7 DH;rw[r1];exact ZdU h (i+1) l n i hn hi DH ⟨r2,inv.kids⟩
theorem Zmh{l:zM α}(x:Int × α)(h:Zf lt l l.length):UpInv lt (l++[x]) (l.length+1) l.length:=by
 have ap:∀k,k<l.length->zC (l++[x]) k=zC l k:=λk hk=>by
  unfold zC;rw[Aa,Aa,Ap hk]
 refine⟨λk k0 kn kj=>?_,λk k0 kn kp j0=>?_⟩
 ·have:=un k0;rw[ap k DH,ap (yf k) DH];exact h k k0 DH
 ·have:=un k0;omega
theorem Zmi(hs:Str lt){l:zM α}(i n:Nat)(hi:i<n)(hn:n+1=l.length)(h:Zf lt l l.length):DownInv lt (swp l i n) n i:=by
 have at':=λk=>X4 l i n k DH DH
 refine⟨λk k0 kn kp ki=>?_,λk k0 kn kp i0=>?_⟩
 ·have:=un k0;rw[at' k,at' (yf k),if_neg DH,if_neg ki,if_neg DH,if_neg kp];exact h k k0 DH
 ·have:=un k0;have:=un i0;rw[at' k,at' (yf i),if_neg DH,if_neg DH,if_neg DH,if_neg DH];have e1:=h k k0 DH;rw[kp]at e1;exact X5 hs e1 (h i i0 DH)
theorem Zmj{l:zM α}(n:Nat)(h:Zf lt l n):Zf lt (l.take n) n:=by
 intro k k0 kn;have:=un k0;have e:∀j,j<n->zC (l.take n) j=zC l j:=λj hj=>by
  unfold zC;rw[Aa,Aa,By,if_pos hj]
 rw[e k kn,e (yf k) DH];exact h k k0 kn
end
theorem Zmk{α:Type}[Inhabited α](l:zM α)(n:Nat)(hn:n+1=l.length):l=l.take n++[zC l n]:=by
 apply A5;intro k;rw[List.getElem?_append]
 by_cases h1:k<n
 ·rw[if_pos DL,By,if_pos h1]
 ·rw[if_neg DL]
  by_cases h2:k=n
  ·subst h2;have:k<l.length:=DH
   simp[zC,this,Bf (Dw this)]
  ·rw[An DH,An DL]
end Go.Proofs.YtcocagkbfpgmiaaGreatDoor.Hp
namespace Go.Proofs.YtcocagkbfpgmiaaGreatDoor.Pv
open Go Hp
def HH(S:Store)(hid hv rid mid mv:Nat)(l:zM Int):Prop:=HP S hid hv rid mid mv l/\Zf qc l l.length
theorem HH.cut{S T:Store}{hid hv rid mid mv:Nat}{l:zM Int}(h:HH T hid hv rid mid mv l):HH (cut S [hid,rid,mid] T) hid hv rid mid mv l:=⟨h.1.cut,h.2⟩
theorem Zml{S:Store}{hid hv rid mid mv:Nat}{l:zM Int}(h:HH S hid hv rid mid mv l)(x:Int × Int)(hx:∀i,i<l.length->(zC l i).1≠x.1)(hn:l.length+1<=2147483648):
  PCalls prog 367 [hI hid hv,.ifc 449 (.agg (yk x))] S (λ_ S'=>Off S [hid,rid,mid] S'/\∃l',HH S' hid hv rid mid mv l'/\l'.Perm (x :: l)):=by
 obtain⟨hp,hh⟩:=h;refine vt func367 rfl ntmps367 (congrArg Array.toList results367) DI ?_;refine za (yM [] DM λK hK=>?_);simp -implicitDefEqProofs;refine ZR rfl rfl rfl Zma Zlw (by exact Zmc hp x hx hn) λp S1 hq=>?_
 obtain⟨o1,p1⟩:=hq;refine hK _ _ ?_;clear hK;refine yM [] DM λK hK=>?_
 simp -implicitDefEqProofs;refine ZR rfl rfl rfl Zfl ZeP (by exact Zfm p1) λp S2 hq=>?_
 obtain⟨rfl,rfl⟩:=hq;have w1:IntKind.i64.wrap (l.length:Int)=l.length:=ZP _ DH DH;simp -implicitDefEqProofs [zY,w1];obtain⟨q1,q2,q3,_⟩:=ZdU Zm (l.length+1) (l++[x]) (l.length+1) l.length DI DH DH (Zmh x hh);refine Qf rfl rfl rfl ZeO (by exact Zfn p1 l.length (by simp)) λp S3 hq=>?_
 obtain⟨o3,p3⟩:=hq;refine hK _ _ ⟨_,_,rfl,⟨ZW _ _ _,_,HH.cut ⟨p3,?_⟩,q2.trans (CN (l₁:=l) (l₂:=[x]))⟩,ZX (o1.trans o3).offd⟩;rw[q3];simpa using q1
theorem Zmm{S:Store}{hid hv rid mid mv:Nat}{l:zM Int}(h:HH S hid hv rid mid mv l)(i:Nat)(hi:i<l.length):
  PCalls prog 378 [hI hid hv,zY i] S (λp S'=>p=.ifc 449 (.agg (yk (zC l i)))/\Off S [hid,rid,mid] S'/\∃l',HH S' hid hv rid mid mv l'/\(zC l i :: l').Perm l):=by
 obtain⟨hp,hh⟩:=h;have hlen:=hp.len;obtain⟨n,hn⟩:∃n,n+1=l.length:=⟨l.length-1,by omega⟩;refine vt func378 rfl ntmps378 (congrArg Array.toList results378) DI ?_;refine za (qA DM DJ (za (yM [] DM λK hK=>?_)));simp -implicitDefEqProofs;refine ZR rfl rfl rfl Zfl ZeP (by exact Zfm hp) λp S2 hq=>?_
 obtain⟨rfl,rfl⟩:=hq;have w1:IntKind.i64.wrap ((l.length:Int)-1)=n:=by rw[ZP _ DH DH];omega
 simp -implicitDefEqProofs [zY,w1];refine hK _ _ ?_;clear hK;refine za (X9 (Q:=λe F' T'=>e=.normal/\F' 0=hI hid hv/\Off S2 [hid,rid,mid] T'/\∃l3:zM Int,HP T' hid hv rid mid mv l3/\Zf qc l3 n/\l3.Perm l/\l3.length=l.length/\zC l3 n=zC l i) ?_ ?_)
 ·refine za (qA DM (by simp[zY];rfl) ?_)
  by_cases hc:n=i
  ·refine zv rfl (λq=>by simp[hc]at q) (λ_=>zh ⟨rfl,rfl,λ_ _=>rfl,l,hp,λk k0 kn=>hh k k0 DH,.refl _,rfl,by rw[hc]⟩)
  ·have hc':¬(n:Int)=i:=DH
   refine zv rfl (λ_=>?_) (λq=>by simp[hc']at q);refine za (yM [] DM λK hK=>?_);simp -implicitDefEqProofs [zY];refine ZR rfl rfl rfl ZbT ZbG (by exact ZbV hp i n (by omega) (by omega)) λp S3 hq=>?_
   obtain⟨o3,p3⟩:=hq;refine hK _ _ ?_;clear hK;have inv:=Zmi Zm i n DH hn hh;have hsl:=uQ l i n;obtain⟨s1,s2,s3,s4⟩:=Zmg Zm (swp l i n) i n DH DH inv;have hlast:zC (ZY qc (swp l i n) i n) n=zC l i:=by rw[s4 n (Ag _),X4 l i n n hi DH,if_pos rfl]
   refine za (yM [] DM λK hK=>?_);simp -implicitDefEqProofs [zY];refine Qf rfl rfl rfl Zlu (by exact Zmf p3 i n (by omega) (by omega)) λp S4 hq=>?_
   obtain⟨rfl,o4,p4⟩:=hq;simp -implicitDefEqProofs [wO];refine hK _ _ ?_;clear hK
   by_cases hm:i<(qh qc n (swp l i n) i n).2
   ·refine zv rfl (λq=>by simp at q;omega) (λ_=>zh ⟨rfl,rfl,o3.trans o4,ZY qc (swp l i n) i n,?_,s1,s2.trans (Va l _ _ hi DH),s3.trans hsl,hlast⟩);unfold ZY;rw[if_pos hm];exact p4
   ·refine zv rfl (λ_=>?_) (λq=>by simp at q;omega);refine yM [] DM λK hK=>?_
    simp -implicitDefEqProofs [zY];have hdl:(qh qc n (swp l i n) i n).1.length=l.length:=((ZdW Zm n (swp l i n) n i DH DH DH inv).2.1).trans hsl;refine Qf rfl rfl rfl ZeO (by exact Zfn p4 i (by omega)) λp S5 hq=>?_
    obtain⟨o5,p5⟩:=hq;refine hK _ _ ⟨rfl,rfl,(o3.trans o4).trans o5,ZY qc (swp l i n) i n,?_,s1,s2.trans (Va l _ _ hi DH),s3.trans hsl,hlast⟩;unfold ZY;rw[if_neg hm];exact p5
 ·rintro e F T ⟨rfl,f0,hoff,l3,p3,h3,pm,hl3,hx⟩;have hsp:=Zmk l3 n DH;rw[hx]at hsp;rw[hsp]at p3 pm;refine za (yM [] DM λK hK=>?_);simp -implicitDefEqProofs [f0];refine ZR rfl rfl rfl Zmb Zlv (by exact Zmd _ p3) λp S4 hq=>?_
  obtain⟨rfl,o4,p4⟩:=hq;have hheap:Zf qc (l3.take n) (l3.take n).length:=by
   have e:(l3.take n).length=n:=DL
   rw[e];exact Zmj n h3
  refine hK _ _ (zg ⟨_,_,rfl,⟨rfl,ZW _ _ _,_,HH.cut ⟨p4,hheap⟩,?_⟩,ZX (hoff.trans o4).offd⟩);exact(CN (l₁:=[zC l i]) (l₂:=l3.take n)).trans pm
open Go Hp
abbrev vW(a b:Int × Int):Bool:=il qc a b
def vX(r:zM Int):Prop:=r.Pairwise (λa b=>vW a b=true)
def ZZ(x:Int × Int):zM Int->zM Int
 | []=>[x]
 | y :: r=>if vW x y=true then x :: y :: r else y :: ZZ x r
def YC(id:Int)(r:zM Int):zM Int:=r.filter λx=>decide (x.1≠id)
def j6(id:Int)(r:zM Int):Bool:=r.any λx=>decide (x.1=id)
theorem Ww(x:Int × Int):∀r,(ZZ x r).Perm (x :: r)
 | []=>.refl _
 | y :: r=>by
  unfold ZZ;split
  ·exact .refl _
  ·exact((Ww x r).cons y).trans (.swap x y r)
theorem Zmn{a b c:Int × Int}(h1:vW a b=true)(h2:vW b c=true):vW a c=true:=(Ys Zm).tr _ _ _ h1 h2
theorem Zmo{a b:Int × Int}(h:vW a b=false)(hne:a.1≠b.1):vW b a=true:=by
 cases hq:vW b a with
 | true=>rfl
 | false=>exact absurd (congrArg Prod.fst ((Ys Zm).tot _ _ h hq)) hne
theorem Zfo(x:Int × Int):∀r,vX r->(∀y∈r,y.1≠x.1)->vX (ZZ x r)
 | [],_,_=>by simp[ZZ,vX]
 | y :: r,h,hx=>by
  unfold ZZ;have h':=Bj.1 h;split
  ·rename_i hl;refine Bj.2 ⟨λz hz=>?_,h⟩;rcases As.1 hz with rfl | hz
   ·exact hl
   ·exact Zmn hl (h'.1 z hz)
  ·rename_i hl;have hl':vW x y=false:=by simpa using hl
   refine Bj.2 ⟨λz hz=>?_,Zfo x r h'.2 λz hz=>hx z (Cq _ hz)⟩;rcases As.1 ((Ww x r).subset hz) with rfl | hz
   ·exact Zmo hl' (Ne.symm (hx y DI))
   ·exact h'.1 z hz
theorem Zmp(id:Int)(r:zM Int)(h:vX r):vX (YC id r):=List.Pairwise.filter _ h
def HM(S:Store)(hid hv rid mid mv:Nat)(r:zM Int):Prop:=∃l,HH S hid hv rid mid mv l/\l.Perm r/\vX r
theorem HM.cut{S T:Store}{hid hv rid mid mv:Nat}{r:zM Int}(h:HM T hid hv rid mid mv r):HM (cut S [hid,rid,mid] T) hid hv rid mid mv r:=by obtain⟨l,h,k⟩:=h;exact⟨l,h.cut,k⟩
theorem ZbW{l:zM Int}{i:Nat}(hi:i<l.length):zC l i∈l:=by
 have:zC l i=l[i]:=by unfold zC;simp[hi]
 rw[this];exact Bd hi
theorem ZbX{l:zM Int}{x:Int × Int}(h:x∈l):∃i,i<l.length/\zC l i=x:=by
 obtain⟨i,hi,rfl⟩:=List.getElem_of_mem h;exact⟨i,hi,by unfold zC;simp[hi]⟩
theorem HS.look{S:Store}{hid hv rid mid mv:Nat}{l:zM Int}{g:Int->Option Nat}(h:HS S hid hv rid mid mv l g)(k:PosOk g l)(id:Int):∃es res,S mid=.map mv es/\qX (.int .i64) (qI id) es 0=some res /\
  ((j6 id l=false/\ZQ true (.int .i64 0) res=.tup [zY 0,.sc (.bool false)])\/(j6 id l=true/\∃i,i<l.length/\(zC l i).1=id/\ZQ true (.int .i64 0) res=.tup [zY i,.sc (.bool true)])):=by
 obtain⟨es,h3,h4⟩:=h.m;obtain⟨res,m1,m2,m3,_,_⟩:=h4.find (Jf .i64) id;refine⟨es,res,h3,m1,?_⟩
 by_cases hi:∃i,i<l.length/\(zC l i).1=id
 ·obtain⟨i,hi,e⟩:=hi;refine .inr ⟨?_,i,hi,e,?_⟩
  ·simp only[j6,B4];exact⟨_,ZbW hi,by simpa using e⟩
  ·obtain⟨j,rfl⟩:=m3 i (by rw[<-e];exact k.here i hi);rfl
 ·refine .inl ⟨?_,?_⟩
  ·simp only[j6,CG];intro x hx;obtain⟨i,hi',rfl⟩:=ZbX hx;simp;exact λe=>hi ⟨i,hi',e⟩
  ·have:=m2 (k.gone id λi hi' e=>hi ⟨i,hi',e⟩);subst this;rfl
theorem ZbY{id:Int}{l r:zM Int}(h:l.Perm r):j6 id l=j6 id r:=by
 unfold j6;rw[Dx,B4,B4];exact⟨λ⟨x,hx,e⟩=>⟨x,h.subset hx,e⟩,λ⟨x,hx,e⟩=>⟨x,h.symm.subset hx,e⟩⟩
theorem Zmq{S:Store}{hid hv rid mid mv:Nat}{r:zM Int}(h:HM S hid hv rid mid mv r)(id w:Int)(hn:r.length+1<=2147483648):
  PCalls prog 348 [.ptr hid hv 0,zY id,zY w] S (λp S'=>p=wO (!j6 id r)/\Off S [hid,rid,mid] S'/\HM S' hid hv rid mid mv (bif j6 id r then r else ZZ (id,w) r)):=by
 obtain⟨l,⟨hp,hh⟩,pm,hs⟩:=h;have hp0:=hp;obtain⟨g,hS,hk⟩:=hp0;obtain⟨ver,h1,cs,h2,hR⟩:=hS.h;obtain⟨es,res,h3,h4,h5⟩:=hS.look hk id;refine vt func348 rfl ntmps348 (congrArg Array.toList results348) DI ?_;refine za (qA DM DJ (za (za (yM [] DM λK hK=>?_))));simp -implicitDefEqProofs [h1];refine Zj rfl underlying384 underlying3 rfl rfl rfl h3 h4 DJ ?_;rcases h5 with ⟨h5,h6⟩ | ⟨h5,i,hi,hid,h6⟩
 ·rw[h6];simp -implicitDefEqProofs;refine hK _ _ ?_;clear hK;refine za (qA DM DJ (zv rfl (λq=>by simp at q) (λ_=>zh ?_)));refine za (yM [] DM λK hK=>?_);simp -implicitDefEqProofs [zY];have hx:∀i,i<l.length->(zC l i).1≠id:=by
   intro i hi e;have:j6 id l=true:=by
    simp only[j6,B4];exact⟨_,ZbW hi,by simpa using e⟩
   rw[h5]at this;cases this
  refine Qf rfl rfl rfl Zlq (by exact Zml ⟨hp,hh⟩ (id,w) hx (by rw[pm.length_eq];exact hn)) λp S3 hq=>?_
  obtain⟨o3,l',hh',pm'⟩:=hq;refine hK _ _ ?_;clear hK;refine za (qA DM DJ (zg ?_));rw[<-ZbY pm,h5];refine⟨_,_,rfl,⟨rfl,ZW _ _ _,HM.cut ⟨l',hh',pm'.trans (((List.Perm.cons _ pm)).trans (Ww _ _).symm),Zfo _ _ hs λy hy e=>?_⟩⟩,ZX o3.offd⟩;obtain⟨j,hj,rfl⟩:=ZbX (pm.symm.subset hy);exact hx j hj e
 ·rw[h6];simp -implicitDefEqProofs;refine hK _ _ ?_;clear hK;refine za (qA DM DJ (zv rfl (λ_=>?_) (λq=>by simp at q)));refine za (qA DM DJ (zg ?_));rw[<-ZbY pm,h5];exact⟨_,_,rfl,⟨rfl,λ_ _=>rfl,⟨l,⟨hp,hh⟩,pm,hs⟩⟩,λo=>.inl rfl⟩
open Go Hp
def Once(r:zM Int):Prop:=(r.map (·.1)).Nodup
theorem HP.once{S:Store}{hid hv rid mid mv:Nat}{l:zM Int}(h:HP S hid hv rid mid mv l):Once l:=by
 obtain⟨g,_,k⟩:=h;unfold Once;refine Bv.2 λi j hi hj hij e=>?_
 simp only[List.length_map]at hi hj;simp only[Cs]at e;have q:∀i (hi:i<l.length),zC l i=l[i]:=λi hi=>by unfold zC;simp[hi]
 have:=k.inj hi hj (by rw[q i hi,q j hj];exact e);omega
theorem Once.perm{l r:zM Int}(h:l.Perm r)(k:Once l):Once r:=(List.Perm.nodup_iff (h.map λx:Int × Int=>x.1)).1 k
theorem HM.once{S:Store}{hid hv rid mid mv:Nat}{r:zM Int}(h:HM S hid hv rid mid mv r):Once r:=by
 obtain⟨l,⟨hp,_⟩,pm,_⟩:=h;exact hp.once.perm pm
theorem Zfp{x:Int × Int}{l:zM Int}(h:Once (x :: l)):YC x.1 (x :: l)=l:=by
 unfold YC;rw[Ca,if_neg DI,List.filter_eq_self];intro y hy;simp only[decide_eq_true_eq];intro e;have:=(Cz.1 (show (x.1 :: l.map (·.1)).Nodup from h)).1;exact this (Al.2 ⟨y,hy,e⟩)
theorem Zmr{l r:zM Int}(id:Int)(h:l.Perm r):(YC id l).Perm (YC id r):=h.filter _
theorem Zms{id:Int}{l:zM Int}(h:j6 id l=false):YC id l=l:=by
 unfold YC;rw[List.filter_eq_self];intro y hy;simp only[j6,CG]at h;simpa using h y hy
theorem Zmt{S:Store}{hid hv rid mid mv:Nat}{r:zM Int}(h:HM S hid hv rid mid mv r)(id:Int):
  PCalls prog 369 [.ptr hid hv 0,zY id] S (λp S'=>p=wO (j6 id r)/\Off S [hid,rid,mid] S'/\HM S' hid hv rid mid mv (YC id r)):=by
 have hM:=h;obtain⟨l,⟨hp,hh⟩,pm,hs⟩:=h;have hp0:=hp;obtain⟨g,hS,hk⟩:=hp0;obtain⟨ver,h1,cs,h2,hR⟩:=hS.h;obtain⟨es,res,h3,h4,h5⟩:=hS.look hk id;refine vt func369 rfl ntmps369 (congrArg Array.toList results369) DI ?_;refine za (qA DM DJ (za (yM [] DM λK hK=>?_)));simp -implicitDefEqProofs [h1];refine Zj rfl underlying384 underlying3 rfl rfl rfl h3 h4 DJ ?_;rw[ZbY pm]at h5;rcases h5 with ⟨h5,h6⟩ | ⟨h5,i,hi,hid,h6⟩
 ·rw[h6];simp -implicitDefEqProofs;refine hK _ _ ?_;clear hK;refine za (za (qA DM DJ (zv rfl (λ_=>?_) (λq=>by simp at q))));refine za (qA DM DJ (zg ?_));rw[h5,Zms h5];exact⟨_,_,rfl,⟨rfl,λ_ _=>rfl,hM⟩,λo=>.inl rfl⟩
 ·rw[h6];simp -implicitDefEqProofs [zY];refine hK _ _ ?_;clear hK;refine za (za (qA DM DJ (zv rfl (λq=>by simp at q) (λ_=>zh ?_))));refine za (yM [] DM λK hK=>?_);simp -implicitDefEqProofs;refine Qf rfl rfl rfl Zlt (by exact Zmm ⟨hp,hh⟩ i hi) λp S3 hq=>?_
  obtain⟨_,o3,l',hh',pm'⟩:=hq;refine hK _ _ ?_;clear hK;refine za (qA DM DJ (zg ?_));rw[h5];have e1:YC id (zC l i :: l')=l':=by rw[<-hid];exact Zfp (Once.perm pm'.symm hp.once)
  refine⟨_,_,rfl,⟨rfl,ZW _ _ _,HM.cut ⟨l',hh',?_,Zmp id r hs⟩⟩,ZX o3.offd⟩;have:=Zmr id (pm'.trans pm);rw[e1]at this;exact this
end Go.Proofs.YtcocagkbfpgmiaaGreatDoor.Pv
namespace Go.Proofs.YtcocagkbfpgmiaaGreatDoor.Hp
section
variable {α:Type} [DecidableEq α] [Inhabited α] {lt:α->α->Bool}
theorem Zmu(hs:Str lt){l:zM α}(h:Zf lt l l.length):∀k,k<l.length->il lt (zC l k) (zC l 0)=false:=by
 intro k
 induction k using Nat.strongRecOn with
 | _ k ih =>
  intro hk;rcases BY k with e | e
  ·subst e;exact(Ys hs).irr _
  ·have:=un e;exact X5 hs (h k e hk) (ih (yf k) this DH)
end
end Go.Proofs.YtcocagkbfpgmiaaGreatDoor.Hp
namespace Go.Proofs.YtcocagkbfpgmiaaGreatDoor.Pv
open Go Hp
theorem HM.root{S:Store}{hid hv rid mid mv:Nat}{x:Int × Int}{r:zM Int}{l:zM Int}(h:HH S hid hv rid mid mv l)(pm:l.Perm (x :: r))(hs:vX (x :: r)):zC l 0=x:=by
 have hl:0<l.length:=by rw[pm.length_eq];simp
 obtain⟨k,hk,e⟩:=ZbX (pm.symm.subset (Cc));have h1:=Zmu Zm h.2 k hk;rw[e]at h1;rcases As.1 (pm.subset (ZbW hl)) with h2 | h2
 ·exact h2
 ·have:=(Bj.1 hs).1 _ h2;rw[show vW x (zC l 0)=false from h1]at this;cases this
def Jg:zM Int->PV
 | []=>.tup [zY 0,zY 0,wO false]
 | x :: _=>.tup [zY x.1,zY x.2,wO true]
theorem Zmv{S:Store}{hid hv rid mid mv:Nat}{r:zM Int}(h:HM S hid hv rid mid mv r):
  PCalls prog 368 [.ptr hid hv 0] S (λp S'=>p=Jg r/\S'=S):=by
 obtain⟨l,hh,pm,hs⟩:=h;have hp:=hh.1;obtain⟨g,hS,hk⟩:=hp;obtain⟨ver,h1,cs,h2,hR⟩:=hS.h;refine vt func368 rfl ntmps368 (congrArg Array.toList results368) DI ?_;refine za (qA DM DJ (za (za (yM [] DM λK hK=>?_))));simp -implicitDefEqProofs [h1];refine hK _ _ ?_;clear hK;cases r with
 | nil =>
  have hl:l.length=0:=by rw[pm.length_eq];rfl
  refine zv rfl (λ_=>?_) (λq=>by simp at q;exact absurd (Au hl) q);refine za (qA DM DJ (za (qA DM DJ (zg ?_))));exact⟨_,S,rfl,⟨rfl,rfl⟩,λo=>.inl rfl⟩
 | cons x r =>
  have hl:0<l.length:=by rw[pm.length_eq];simp
  have hx:=HM.root hh pm hs;obtain⟨tl,e1⟩:=hR.at 0 hl;rw[hx]at e1;simp at e1;refine zv rfl (λq=>by simp at q;subst q;simp at hl) (λ_=>zh ?_);refine za (yM [] DM λK hK=>?_);have hl':0<l.length:=hl;simp -implicitDefEqProofs [h1,h2,hl',e1];refine Q8 rfl DJ DI λa ha=>?_
  simp -implicitDefEqProofs;refine hK _ _ ?_;clear hK;refine za (Zkt mixed DM DM DM DJ (zg ?_));refine⟨_,S,rfl,⟨rfl,rfl⟩,λo=>?_⟩
  by_cases e:o=a
  ·exact .inr (e ▸ ha)
  ·exact .inl (by rw[jf _ _ _ _ e])
theorem Zmw{S:Store}{hid hv rid mid mv:Nat}{r:zM Int}(h:HM S hid hv rid mid mv r):
  PCalls prog 349 [.ptr hid hv 0] S (λp S'=>p=Jg r/\Off S [hid,rid,mid] S'/\HM S' hid hv rid mid mv r.tail):=by
 refine vt func349 rfl ntmps349 (congrArg Array.toList results349) DI ?_;refine za (qA DM DJ (za (yM [] DM λK hK=>?_)));simp -implicitDefEqProofs;refine Qf rfl rfl rfl Zlr (by exact Zmv h) λp S2 hq=>?_
 obtain⟨rfl,rfl⟩:=hq;cases r with
 | nil =>
  simp -implicitDefEqProofs [Jg];refine hK _ _ ?_;clear hK;refine za (za (qA DM DJ (zv rfl (λq=>by simp at q) (λ_=>zh ?_))));refine za (qA DM DJ (zg ?_));exact⟨_,S2,rfl,⟨rfl,λ_ _=>rfl,h⟩,λo=>.inl rfl⟩
 | cons x r =>
  simp -implicitDefEqProofs [Jg];refine hK _ _ ?_;clear hK;refine za (za (qA DM DJ (zv rfl (λ_=>?_) (λq=>by simp at q))));refine yM [] DM λK hK=>?_
  simp -implicitDefEqProofs;refine Qf rfl rfl rfl Zls (by exact Zmt h x.1) λp S3 hq=>?_
  obtain⟨_,o3,h3⟩:=hq;refine hK _ _ ?_;clear hK;refine za (qA DM DJ (zg ?_));rw[Zfp h.once]at h3;exact⟨_,S3,rfl,⟨rfl,o3,h3⟩,λo=>.inl rfl⟩
open Go Hp
theorem HM.congr{S T:Store}{hid hv rid mid mv:Nat}{r:zM Int}(h:HM S hid hv rid mid mv r)(e:∀o∈[hid,rid,mid],T o=S o):HM T hid hv rid mid mv r:=by
 obtain⟨l,⟨⟨g,h,k⟩,hh⟩,pm,hs⟩:=h;exact⟨l,⟨⟨g,h.congr e,k⟩,hh⟩,pm,hs⟩
def HX(o:Ob × Ob × Ob)(a hv mv:Nat)(r:zM Int):Prop:=∀S:Store,S a=o.1->S (a+1)=o.2.1->S (a+2)=o.2.2->HM S (a+1) hv (a+2) a mv r
def Z0(obs:List Ob)(j:Nat)(o:Ob × Ob × Ob):List Ob:=((obs.set j o.1).set (j+1) o.2.1).set (j+2) o.2.2
theorem HM.hx{S:Store}{a hv mv:Nat}{r:zM Int}(h:HM S (a+1) hv (a+2) a mv r):HX (S a,S (a+1),S (a+2)) a hv mv r:=by
 intro T h1 h2 h3;refine h.congr λo ho=>?_
 simp at ho;rcases ho with rfl | rfl | rfl
 ·exact h2
 ·exact h3
 ·exact h1
theorem HX.hm{S:Store}{nx j hv mv:Nat}{obs:List Ob}{o:Ob × Ob × Ob}{r:zM Int}(h:HX o (nx+j) hv mv r)(h1:obs[j]?=some o.1)(h2:obs[j+1]?=some o.2.1)(h3:obs[j+2]?=some o.2.2):HM (ext S nx obs) (nx+j+1) hv (nx+j+2) (nx+j) mv r:=by
 refine h _ ?_ ?_ ?_
 ·rw[zQ,Aa,h1];rfl
 ·rw[Nat.add_assoc,zQ,Aa,h2];rfl
 ·rw[Nat.add_assoc,zQ,Aa,h3];rfl
theorem Zmx{S T:Store}{nx j:Nat}{obs:List Ob}(h:Off (ext S nx obs) [nx+j+1,nx+j+2,nx+j] T)(hl:j+2<obs.length):T=ext S nx (Z0 obs j (T (nx+j),T (nx+j+1),T (nx+j+2))):=by
 funext i
 by_cases h1:i=nx+j
 ·subst h1;rw[zQ,Aa,Z0,AX DH,AX DH,AW DH];rfl
 by_cases h2:i=nx+j+1
 ·subst h2;rw[Nat.add_assoc,zQ,Aa,Z0,AX DH,AW DL];rfl
 by_cases h3:i=nx+j+2
 ·subst h3;rw[Nat.add_assoc,zQ,Aa,Z0,AW DL];rfl
 rw[h i DL];simp only[ext];split
 ·rfl
 ·rw[Aa,Aa,Z0,AX DH,AX DH,AX DH]
section
variable {S:Store} {nx j hv mv:Nat} {obs:List Ob} {o:Ob × Ob × Ob} {r:zM Int}
theorem Zfq{f:FuncId}{args:List PV}{q:PV}{r':zM Int}(he:qj prog f)(hl:j+2<obs.length)
  (h:PCalls prog f args (ext S nx obs) (λp T=>p=q/\Off (ext S nx obs) [nx+j+1,nx+j+2,nx+j] T/\HM T (nx+j+1) hv (nx+j+2) (nx+j) mv r')) :
  Spec prog f args (ext S nx obs) (λp T=>p=q/\∃o',HX o' (nx+j) hv mv r'/\T=ext S nx (Z0 obs j o')):=by
 refine⟨he,h.mono ?_⟩;rintro p T ⟨h1,h2,h3⟩;exact⟨h1,_,h3.hx,Zmx h2 hl⟩
variable (h:HX o (nx+j) hv mv r) (h1:obs[j]?=some o.1) (h2:obs[j+1]?=some o.2.1) (h3:obs[j+2]?=some o.2.2)
include h h1 h2 h3
theorem Zfr(id w:Int)(hn:r.length+1<=2147483648):Spec prog 348 [.ptr (nx+j+1) hv 0,I id,I w] (ext S nx obs) (λp T=>p=B (!j6 id r)/\∃o',HX o' (nx+j) hv mv (bif j6 id r then r else ZZ (id,w) r)/\T=ext S nx (Z0 obs j o')) :=
 Zfq Zlo (Ac.1 h3).1 (Zmq (h.hm h1 h2 h3) id w hn)
theorem Zmy:Spec prog 349 [.ptr (nx+j+1) hv 0] (ext S nx obs) (λp T=>p=Jg r/\∃o',HX o' (nx+j) hv mv r.tail/\T=ext S nx (Z0 obs j o')) :=
 Zfq Zlp (Ac.1 h3).1 (Zmw (h.hm h1 h2 h3))
end
theorem Zmz{S:Store}{nx:Nat}{obs:List Ob}:Spec prog 346 [] (ext S nx obs) (λp T=>∃hv mv o,p=.ptr (nx+obs.length+1) hv 0/\HX o (nx+obs.length) hv mv []/\T=ext S nx (obs++[o.1,o.2.1,o.2.2])):=by
 have hd:=jF (S:=S) (nx:=nx) (obs:=obs);have e:∀o:Ob × Ob × Ob,ext S nx (obs++[o.1,o.2.1,o.2.2])=ext (ext S nx obs) (nx+obs.length) [o.1,o.2.1,o.2.2]:=by
  intro o;have p1:=qG (S:=S) (nx:=nx) (obs:=obs) o.1;have p2:=qG (S:=S) (nx:=nx) (obs:=obs++[o.1]) o.2.1;have p3:=qG (S:=S) (nx:=nx) (obs:=obs++[o.1]++[o.2.1]) o.2.2;have q0:=qB hd;have q1:=qG (S:=ext S nx obs) (nx:=nx+obs.length) (obs:=[]) o.1;have q2:=qG (S:=ext S nx obs) (nx:=nx+obs.length) (obs:=[o.1]) o.2.1;have q3:=qG (S:=ext S nx obs) (nx:=nx+obs.length) (obs:=[o.1,o.2.1]) o.2.2;simp only[Aq,Ad,Ah,List.append_assoc,List.cons_append,AT,Bx,AS]at p1 p2 p3 q1 q2 q3;rw[<-p3,<-p2,<-p1,<-q3,<-q2,<-q1,q0];simp only[Nat.add_assoc]
 generalize ext S nx obs=S1 at *;generalize nx+obs.length=m at *;refine ut hd func346 ntmps346 results346 ?_;refine DQ ?_;refine DQ ?_;intro mv hv;refine qQ 1 0 449 2 rfl rfl λrv=>?_
 refine zg ⟨_,_,rfl,⟨hv,mv,(.map mv [],.cells hv 445 [.sl (m+2) rv 2 0 0,.mp m mv],.cells rv 449 []),rfl,?_,(e _).symm⟩,λo=>.inl DI⟩;intro T h1 h2 h3;refine⟨[],⟨⟨λ_=>none,⟨⟨rv,h2,[],h3,[],rfl⟩,⟨[],h1,Zfh _ _⟩,⟨by omega,by omega,by omega⟩,by simp⟩,⟨λi hi=>by simp at hi,λ_ _=>rfl⟩⟩,λk k0 kn=>by simp at kn⟩,.refl _,by simp[vX]⟩
open Go Hp
@[simp] theorem Zyw(a b c:Ob)(l:List Ob)(o:Ob × Ob × Ob):Z0 (a :: b :: c :: l) 0 o=o.1 :: o.2.1 :: o.2.2 :: l:=rfl
open Go Hp
instance:Enc (Int × Int):=⟨λx=>[I x.1,I x.2],2,λ_=>rfl,λ_=>rfl⟩
@[simp] theorem Zyx(s:Int × Int):Enc.enc s=[I s.1,I s.2]:=rfl
@[simp high] theorem Zyy(l:zM Int):(l.flatMap Enc.enc).length=l.length*2:=j4 l
@[simp high] theorem Zyz(l:zM Int):(l.flatMap Enc.enc).take (l.length*2)=l.flatMap Enc.enc:=YB l
open Go Hp
structure Deed where
 kind:Int
 id:Int
 w:Int
instance:Enc Deed:=⟨λd=>[I d.kind,I d.id,I d.w],3,λ_=>rfl,λ_=>rfl⟩
@[simp] theorem ZyA(d:Deed):Enc.enc d=[I d.kind,I d.id,I d.w]:=rfl
@[simp high] theorem ZyB(l:List Deed):(l.flatMap Enc.enc).length=l.length*3:=j4 l
@[simp high] theorem ZyC(l:List Deed):(l.flatMap Enc.enc).take (l.length*3)=l.flatMap Enc.enc:=YB l
open Go Hp Go.Sort
def uu(a b:Int):Int:=if a<b then -1 else if b<a then 1 else 0
def vw(l:List Int)(i:Nat):Int × Int:=((i:Int),l.getD i 0)
def wR(l:List Int)(i j:Fin l.length):Int:=if uu (l.getD i 0) (l.getD j 0)=0 then uu (i.val:Int) j.val else uu (l.getD i 0) (l.getD j 0)
theorem Wx(l:List Int)(i j:Fin l.length):ltOf (wR l) i j=vW (vw l i) (vw l j):=by grind[ltOf,wR,uu,il,vw]
theorem V2(l:List Int):SWO (ltOf (wR l)):=by
 have H:=Ys Zm;refine⟨λx=>?_,λx y z h1 h2=>?_,λx y z h1 h2=>?_⟩
 ·rw[Wx];exact H.irr _
 ·rw[Wx]at *;exact H.tr _ _ _ h1 h2
 ·rw[Wx]at *;cases h:vW (vw l x) (vw l z) with
  | false=>rfl
  | true =>
   exfalso;cases h3:vW (vw l y) (vw l x) with
   | true=>have hh:vW (vw l y) (vw l z)=true:=H.tr _ _ _ h3 h;simp_all
   | false =>
    have e:=H.tot _ _ h1 h3
    simp_all
theorem Zfs(l:List Int):∀x y,ltOf (wR l) x y=false->ltOf (wR l) y x=false->x=y:=by
 intro x y h1 h2;rw[Wx]at h1 h2;have:=(Ys Zm).tot _ _ h1 h2;have:(x.val:Int)=y.val:=congrArg Prod.fst this;omega
def Jh(l:List Int):List (Fin l.length):=(List.finRange l.length).mergeSort λx y=>!(ltOf (wR l)) y x
theorem ZbZ(l:List Int):(Jh l).Perm (List.finRange l.length):=B9 _ _
theorem ZmA(l:List Int):((Jh l).map λi:Fin l.length=>vw l i.val).Perm ((List.range l.length).map (vw l)):=by
 refine((ZbZ l).map _).trans ?_;have e:(List.finRange l.length).map (λi:Fin l.length=>vw l i.val)=(List.range l.length).map (vw l):=by
  apply A6
  ·simp
  ·simp
 rw[e]
theorem ZmB(l:List Int):(Jh l).Nodup:=(ZbZ l).nodup_iff.2 (List.nodup_finRange _)
theorem ZmC(l:List Int):vX ((Jh l).map λi:Fin l.length=>vw l i.val):=by
 have H:=Ys Zm;have h1:(Jh l).Pairwise λa b=>(!(ltOf (wR l)) b a)=true:=by
  refine Cy ?_ ?_ _
  ·intro a b c h1 h2;simp only[Ch]at *;exact(V2 l).ntrans c b a h2 h1
  ·intro a b;simp only[CX,Ch];cases h:ltOf (wR l) b a with
   | false=>exact .inl rfl
   | true =>
    refine .inr ?_;cases h2:ltOf (wR l) a b with
    | false=>rfl
    | true=>have:=(V2 l).trans _ _ _ h h2;rw[(V2 l).irrefl]at this;cases this
 have h2:=List.Pairwise.and h1 (ZmB l);unfold vX;refine List.Pairwise.map _ ?_ h2;rintro a b ⟨h3,h4⟩;have h3':ltOf (wR l) b a=false:=by simpa using h3
 rw[<-Wx];cases h:ltOf (wR l) a b with
 | true=>rfl
 | false=>exact absurd (Zfs l a b h h3') h4
def vY(l:List Int):List Int:=(Jh l).map λi=>(i.val:Int)
theorem Zb0(l:List Int):(vY l).length=l.length:=by
 unfold vY;rw[List.length_map,(ZbZ l).length_eq];simp
theorem ZmD{l:List Int}{z:Int}(h:z∈vY l):0<=z/\z<l.length:=by
 obtain⟨i,_,rfl⟩:=Al.1 h;have:=i.isLt;omega
end Go.Proofs.YtcocagkbfpgmiaaGreatDoor.Pv
namespace Go.Proofs.YtcocagkbfpgmiaaGreatDoor.Hp
section
variable {α:Type} {lt:α->α->Bool}
def Sd(lt:α->α->Bool)(l:List α):Prop:=l.Pairwise λa b=>lt a b=true
theorem ZmE(rows:List (List α))(i:Nat)(y:α)(tl:List α)(h:rows[i]?=some (y :: tl)):rows.flatten.Perm (y :: (rows.set i tl).flatten):=by
 induction rows generalizing i with
 | nil=>simp at h
 | cons r rows ih =>
  cases i with
  | zero =>
   simp_all
  | succ i =>
   simp only[Bg]at h;have:=ih i h;simp only[BK,AV];exact(this.append_left r).trans List.perm_middle
theorem ZmF(H:Str lt){P:List α}(hP:Sd lt P){rows:List (List α)}(hr:∀r∈rows,Sd lt r){k:Nat}(hp:rows.flatten.Perm (P.drop k)){i:Nat}{y:α}{tl:List α}(hi:rows[i]?=some (y :: tl))
  (hmin:∀(j:Nat) z tz,rows[j]?=some (z :: tz)->j≠i->lt y z=true) :
  P[k]?=some y/\(rows.set i tl).flatten.Perm (P.drop (k+1))/\∀r∈rows.set i tl,Sd lt r:=by
 have hfs:=ZmE rows i y tl hi;have hsi:Sd lt (y :: tl):=hr _ (Ab hi)
 -- y is the least of what is left
 have hle:∀z∈rows.flatten,z=y\/lt y z=true:=by
  intro z hz;obtain⟨r,hrm,hzr⟩:=Bs.1 hz;obtain⟨j,hj⟩:=Bi.1 hrm
  by_cases e:j=i
  ·subst e;rw[hi]at hj;cases hj;rcases As.1 hzr with e | e
   ·exact .inl e
   ·exact .inr ((Bj.1 hsi).1 z e)
  ·cases r with
   | nil=>cases hzr
   | cons a ar =>
    have h1:=hmin j a ar hj e;rcases As.1 hzr with e2 | e2
    ·simp_all
    ·exact .inr (H.tr _ _ _ h1 ((Bj.1 (hr _ hrm)).1 z e2))
 have hyP:y∈P.drop k:=hp.subset (hfs.symm.subset Cc);cases hd:P.drop k with
 | nil=>simp_all
 | cons x rest =>
  have hPd:Sd lt (x :: rest):=by rw[<-hd];exact List.Pairwise.sublist (List.drop_sublist k P) hP
  have hx:x=y:=by
   rw[hd]at hyP;rcases As.1 hyP with e | e
   ·exact e.symm
   ·have h1:=(Bj.1 hPd).1 y e;rcases hle x (hp.symm.subset DP) with h | h
    ·exact h
    ·have:=H.tr _ _ _ h1 h;rw[H.irr]at this;cases this
  subst hx;have hk:P[k]?=some x:=by
   have:(P.drop k)[0]?=some x:=by rw[hd];rfl
   rwa[AQ,Bx]at this
  have hd1:P.drop (k+1)=rest:=by
   have:P.drop (k+1)=(P.drop k).drop 1:=by rw[List.drop_drop]
   rw[this,hd];rfl
  refine⟨hk,?_,λr hrm=>?_⟩
  ·rw[hd1];rw[hd]at hp;exact List.Perm.cons_inv (hfs.symm.trans hp)
  ·rcases Bu hrm with h | h
   ·exact hr r h
   ·rw[h];exact(Bj.1 hsi).2
theorem ZmG{P:List α}{rows:List (List α)}{k:Nat}(hp:rows.flatten.Perm (P.drop k))(hk:k<=P.length)(h0:∀r∈rows,r=[]):k=P.length:=by
 have:rows.flatten=[]:=List.flatten_eq_nil_iff.2 h0;rw[this]at hp;have:=hp.length_eq;simp at this;omega
theorem Zft(H:Str lt):∀{a b:List α},a.Perm b->Sd lt a->Sd lt b->a=b
 | [],b,h,_,_=>by simp_all
 | x :: a,[],h,_,_=>by simp_all
 | x :: a,y :: b,h,ha,hb=>by
  have ha':=Bj.1 ha;have hb':=Bj.1 hb;have e:x=y:=by
   rcases As.1 (h.subset (Cc)) with e | hx
   ·exact e
   ·rcases As.1 (h.symm.subset (Cc)) with e | hy
    ·exact e.symm
    ·have:=H.tr _ _ _ (ha'.1 y hy) (hb'.1 x hx);rw[H.irr]at this;cases this
  subst e;rw[Zft H (List.Perm.cons_inv h) ha'.2 hb'.2]
theorem ZmH(H:Str lt)(l:List α)(hn:l.Nodup):Sd lt (l.mergeSort λx y=>!lt y x):=by
 have h1:(l.mergeSort λx y=>!lt y x).Pairwise λa b=>(!lt b a)=true:=by
  refine Cy ?_ ?_ _
  ·intro a b c h1 h2;simp only[Ch]at *;cases e:lt c a with
   | false=>rfl
   | true =>
    exfalso;cases e2:lt b c with
    | true=>have:=H.tr _ _ _ e2 e;simp_all
    | false=>have e3:=H.tot _ _ e2 h2;simp_all
  ·intro a b;simp only[CX,Ch];cases e:lt b a with
   | false=>simp
   | true =>
    refine .inr ?_;cases e2:lt a b with
    | false=>rfl
    | true=>have:=H.tr _ _ _ e e2;rw[H.irr]at this;cases this
 have h2:=List.Pairwise.and h1 ((B9 l _).nodup_iff.2 hn);refine List.Pairwise.imp ?_ h2;rintro a b ⟨h3,h4⟩;cases e:lt a b with
 | true=>rfl
 | false=>exact absurd (H.tot _ _ e (by simpa using h3)) h4
end
end Go.Proofs.YtcocagkbfpgmiaaGreatDoor.Hp
namespace Go.Proofs.YtcocagkbfpgmiaaGreatDoor.Pv
open Go Hp
def uv(x:Inst)(a b:Int):Int:=arc x (a+1) 0+arc x 0 (b+1)-arc x (a+1) (b+1)
structure Pr where
 a:Int
 b:Int
 s:Int
deriving DecidableEq
def wB(p q:Pr):Bool:=if p.s=q.s then (if p.a=q.a then decide (p.b<q.b) else decide (p.a<q.a)) else decide (q.s<p.s)
theorem Zb1:Str wB:=by
 refine⟨λa=>by simp[wB],λa b c h1 h2=>?_,λa b h1 h2=>?_⟩
 ·grind[wB]
 ·obtain⟨a1,a2,a3⟩:=a;obtain⟨b1,b2,b3⟩:=b
  grind[wB]
def jS(x:Inst)(c:List Int)(a:Int):List Pr:=(c.filter λb=>decide (b≠a)).map λb=>⟨a,b,uv x a b⟩
def uX(x:Inst)(c:List Int):List Pr:=c.flatMap (jS x c)
def qT(x:Inst)(c:List Int):List Pr:=(uX x c).mergeSort λp q=>!wB q p
theorem V3{x:Inst}{c:List Int}{p:Pr}:p∈uX x c<->p.a∈c/\p.b∈c/\p.b≠p.a/\p.s=uv x p.a p.b:=by
 unfold uX jS;simp only[BG,Al,Bl,decide_eq_true_eq];constructor
 ·grind
 ·rintro⟨ha,hb,hne,hs⟩;exact⟨p.a,ha,p.b,⟨hb,hne⟩,by rw[<-hs]⟩
theorem Zfu{x:Inst}{c:List Int}(h:c.Nodup):(uX x c).Nodup:=by
 unfold uX;unfold List.Nodup;rw[List.pairwise_flatMap]
 grind[jS,List.Pairwise.imp]
theorem Zb2{x:Inst}{c:List Int}(h:c.Nodup):Sd wB (qT x c):=ZmH Zb1 _ (Zfu h)
theorem Ji(x:Inst)(c:List Int):(qT x c).Perm (uX x c):=B9 _ _
theorem ZmI{x:Inst}{c:List Int}(h:c.Nodup):(qT x c).length=c.length*(c.length-1):=by
 rw[(Ji x c).length_eq];unfold uX;rw[List.length_flatMap];have:c.map (λa=>(jS x c a).length)=c.map λ_=>c.length-1:=by
  refine AO λa ha=>?_
  unfold jS;rw[List.length_map];have:=List.Nodup.erase_eq_filter h a;have h2:=Dg ha;rw[this]at h2;rw[<-h2];congr 1;refine List.filter_congr λb _=>?_
  by_cases e:b=a<;>simp[e]
 simp_all[List.map_const']
theorem ZmJ{x:Inst}{c:List Int}(h:c.Nodup){l:List Pr}(hp:l.Perm (uX x c))(hs:Sd wB l):l=qT x c :=
 Zft Zb1 (hp.trans (Ji x c).symm) hs (Zb2 h)
theorem ZmK{x:Inst}{c d:List Int}(hc:c.Nodup)(hd:d.Nodup)(h:c.Perm d):(uX x c).Perm (uX x d):=by simp_all[C6,Zfu,V3]
theorem ZmL{x:Inst}{c d:List Int}(hc:c.Nodup)(hd:d.Nodup)(h:c.Perm d):qT x c=qT x d :=
 ZmJ hd ((Ji x c).trans (ZmK hc hd h)) (Zb2 hc)
open Go Hp
def yN:Nat->List (List Pr)->zM Int
 | _,[]=>[]
 | i,[] :: rows=>yN (i+1) rows
 | i,(p :: _) :: rows=>((i:Int),-p.s) :: yN (i+1) rows
theorem Xi:∀(rows:List (List Pr)) (i:Nat) (x:Int × Int),x∈yN i rows<->∃(k:Nat) (p:Pr) (tl:List Pr),rows[k]?=some (p :: tl)/\x=(((i+k:Nat):Int),-p.s)
 | [],i,x=>by simp[yN]
 | [] :: rows,i,x=>by
  rw[yN,Xi rows (i+1) x];constructor
  ·rintro⟨k,p,tl,h,rfl⟩;exact⟨k+1,p,tl,by simpa using h,by rw[show i+1+k=i+(k+1) by omega]⟩
  grind
 | (q :: ql) :: rows,i,x=>by
  rw[yN,As,Xi rows (i+1) x];constructor
  ·rintro(rfl | ⟨k,p,tl,h,rfl⟩)
   ·exact⟨0,q,ql,rfl,rfl⟩
   ·exact⟨k+1,p,tl,by simpa using h,by rw[show i+1+k=i+(k+1) by omega]⟩
  grind
theorem V4:∀(rows:List (List Pr)) (i k:Nat) (p:Pr) (tl:List Pr),k<rows.length->(yN i (rows.set k (p :: tl))).Perm ((((i+k:Nat):Int),-p.s) :: yN i (rows.set k []))
 | [],_,_,_,_,h=>by simp at h
 | r :: rows,i,0,p,tl,_=>by simp[yN]
 | [] :: rows,i,k+1,p,tl,h=>by
  have:=V4 rows (i+1) k p tl (by simpa using h)
  grind[yN]
 | (q :: ql) :: rows,i,k+1,p,tl,h=>by
  have:=V4 rows (i+1) k p tl (by simpa using h)
  grind[yN]
theorem ZmM{rows:List (List Pr)}{k:Nat}{p:Pr}{tl:List Pr}(h:rows[k]?=some (p :: tl)):(yN 0 rows).Perm ((((k:Nat):Int),-p.s) :: yN 0 (rows.set k [])):=by grind[V4,List.set_getElem_self]
theorem V5:∀(rows:List (List Pr)) (i:Nat),(yN i rows).length<=rows.length
 | [],_=>by simp[yN]
 | [] :: rows,i=>by have:=V5 rows (i+1);grind[yN]
 | (q :: ql) :: rows,i=>by have:=V5 rows (i+1);simp_all[yN]
structure Rows' (c:List Int) (rows:List (List Pr)):Prop where
 len:rows.length=c.length
 a:∀(i:Nat) r,rows[i]?=some r->∀p∈r,c[i]?=some p.a
theorem ZmN{c:List Int}(hc:c.Pairwise (· < ·)){rows:List (List Pr)}(hr:Rows' c rows){x:Int × Int}{r:zM Int}(hs:vX (x :: r))(hp:(yN 0 rows).Perm (x :: r)):
  ∃(i:Nat) (y:Pr) (tl:List Pr),x=((i:Int),-y.s)/\rows[i]?=some (y :: tl)/\r.Perm (yN 0 (rows.set i []))/\∀(j:Nat) z tz,rows[j]?=some (z :: tz)->j≠i->wB y z=true:=by
 obtain⟨i,y,tl,hi,ex⟩:=(Xi rows 0 x).1 (hp.symm.subset Cc);rw[AS]at ex;subst ex;refine⟨i,y,tl,rfl,hi,(List.Perm.cons_inv ((ZmM hi).symm.trans hp)).symm,λj z tz hj hne=>?_⟩;have hz:(((j:Nat):Int),-z.s)∈yN 0 rows:=(Xi rows 0 _).2 ⟨j,z,tz,hj,by simp⟩;rcases As.1 (hp.subset hz) with e | e
 ·grind
 ·have h1:=(Bj.1 hs).1 _ e;have ay:=hr.a i _ hi y DI;have az:=hr.a j _ hj z DI
  grind[il,wB,List.pairwise_iff_getElem]
open Go Hp
def qJ(l:List Pr):List Int:=l.map λp=>-p.s
def vZ(l:List Pr)(i:Int):Pr:=l.getD i.toNat ⟨0,0,0⟩
def wC(x:Inst)(c:List Int)(a:Int):List Pr:=(vY (qJ (jS x c a))).map (vZ (jS x c a))
theorem ZmO(l:List Int):(vY l).Perm ((List.range l.length).map λi:Nat=>(i:Int)):=by
 have h:=(ZmA l).map (·.1);rw[BU,BU]at h;exact h
theorem ZmP(l:List Pr):((vY (qJ l)).map (vZ l)).Perm l:=by
 refine((ZmO _).map _).trans ?_;have:((List.range (qJ l).length).map λi:Nat=>(i:Int)).map (vZ l)=l:=by
  rw[BU];apply A6
  ·simp[qJ]
  ·simp_all[vZ]
 rw[this]
theorem ZmQ{l:List Pr}(h:∀(i j:Nat) p q,i<j->l[i]?=some p->l[j]?=some q->p.a=q.a/\p.b<q.b):Sd wB ((vY (qJ l)).map (vZ l)):=by
 have hs:=ZmC (qJ l);unfold vY;rw[BU];unfold vX at hs;rw[CH]at hs;unfold Sd;rw[CH];refine List.Pairwise.imp ?_ hs;intro i j hij;have hn:(qJ l).length=l.length:=by simp[qJ]
 have hi:i.val<l.length:=by have:=i.isLt;omega
 have hj:j.val<l.length:=by have:=j.isLt;omega
 have gi:l[i.val]?=some l[i.val]:=Ae hi;have gj:l[j.val]?=some l[j.val]:=Ae hj;have wi:(qJ l).getD i.val 0=-(l[i.val]).s:=by simp[qJ,Aa,hi]
 have wj:(qJ l).getD j.val 0=-(l[j.val]).s:=by simp[qJ,Aa,hj]
 have pi:vZ l (i.val:Int)=l[i.val]:=by simp[vZ,Aa,hi]
 have pj:vZ l (j.val:Int)=l[j.val]:=by simp[vZ,Aa,hj]
 grind[il,vw,wB]
theorem ZmR{x:Inst}{c:List Int}(hc:c.Pairwise (· < ·))(a:Int):∀(i j:Nat) p q,i<j->(jS x c a)[i]?=some p->(jS x c a)[j]?=some q->p.a=q.a/\p.b<q.b:=by
 have h:(jS x c a).Pairwise λp q=>p.a=q.a/\p.b<q.b:=by
  unfold jS;rw[CH];exact List.Pairwise.imp (λh=>⟨rfl,h⟩) (List.Pairwise.filter _ hc)
 grind[List.pairwise_iff_getElem]
theorem Zb3(x:Inst)(c:List Int)(a:Int):(wC x c a).Perm (jS x c a):=ZmP _
theorem ZmS{x:Inst}{c:List Int}(hc:c.Pairwise (· < ·))(a:Int):Sd wB (wC x c a):=ZmQ (ZmR hc a)
theorem ZmT{x:Inst}{c:List Int}(hc:c.Pairwise (· < ·)):Rows' c (c.map (wC x c))/\(∀r∈c.map (wC x c),Sd wB r)/\(c.map (wC x c)).flatten.Perm (qT x c):=by
 refine⟨⟨by simp,λi r hr p hp=>?_⟩,λr hr=>?_,?_⟩
 ·grind[Zb3,jS]
 ·grind[ZmS]
 ·refine List.Perm.trans ?_ (Ji x c).symm;unfold uX;rw[<-List.flatMap_def];have main:∀l:List Int,(l.flatMap (wC x c)).Perm (l.flatMap (jS x c)):=by
   intro l
   induction l with
   | nil=>simp
   | cons a l ih=>grind[Zb3]
  exact main c
theorem ZmU{x:Inst}{c:List Int}(hc:c.Pairwise (· < ·)){rows:List (List Pr)}{k:Nat}(h1:Rows' c rows)(h2:∀r∈rows,Sd wB r)(h3:rows.flatten.Perm ((qT x c).drop k)){it:Int × Int}{r:zM Int}(hs:vX (it :: r))(hp:(yN 0 rows).Perm (it :: r)):
  ∃(i:Nat) (y:Pr) (tl:List Pr),it=((i:Int),-y.s)/\rows[i]?=some (y :: tl)/\r.Perm (yN 0 (rows.set i []))/\(qT x c)[k]?=some y/\Rows' c (rows.set i tl)/\(∀r∈rows.set i tl,Sd wB r)/\(rows.set i tl).flatten.Perm ((qT x c).drop (k+1)):=by
 have hn:c.Nodup:=List.Pairwise.imp (λh e=>by omega) hc;obtain⟨i,y,tl,e1,e2,e3,e4⟩:=ZmN hc h1 hs hp;obtain⟨m1,m2,m3⟩:=ZmF Zb1 (Zb2 hn) h2 h3 e2 e4;refine⟨i,y,tl,e1,e2,e3,m1,⟨by rw[BE];exact h1.len,λj r hr p hpr=>?_⟩,m3,m2⟩;rw[Bt]at hr;split at hr
 ·rename_i e;subst e;split at hr
  ·cases hr;exact h1.a i _ e2 p (Cq _ hpr)
  ·cases hr
 ·exact h1.a j r hr p hpr
open Go Hp
instance:Inhabited Pr:=⟨⟨0,0,0⟩⟩
instance:Enc Pr:=⟨λp=>[I p.a,I p.b,I p.s],3,λ_=>rfl,λ_=>rfl⟩
@[simp] theorem ZyD(p:Pr):Enc.enc p=[I p.a,I p.b,I p.s]:=rfl
@[simp high] theorem ZyE(l:List Pr):(l.flatMap Enc.enc).length=l.length*3:=j4 l
@[simp high] theorem ZyF(l:List Pr):(l.flatMap Enc.enc).take (l.length*3)=l.flatMap Enc.enc:=YB l
def qt(x:Inst):Prop:=∀a b,0<=arc x a b/\arc x a b<=2147483648
theorem Zb4{x:Inst}(h:qt x)(a b:Int):-2147483648<=uv x a b/\uv x a b<=4294967296:=by
 have h1:=h (a+1) 0;have h2:=h 0 (b+1);have h3:=h (a+1) (b+1);unfold uv;omega
theorem ZmV(x:Inst)(a b:Int)(hx:qt x)(ha:qb a)(hb:qb b):Pure prog 365 [.agg (zy x),I a,I b] (I (uv x a b)):=by
 have w1:=Jd ha;have w2:=Jd hb;have h1:=hx (a+1) 0;have h2:=hx 0 (b+1);have h3:=hx (a+1) (b+1);have w3:IntKind.i64.wrap (arc x (a+1) 0+arc x 0 (b+1))=arc x (a+1) 0+arc x 0 (b+1):=wr _ DH DH;have w4:IntKind.i64.wrap (arc x (a+1) 0+arc x 0 (b+1)-arc x (a+1) (b+1))=uv x a b:=wr _ DH DH;refine zt func365 ntmps365 results365 λS nx hd=>?_
 refine DQ ?_;intro v0;refine za (zz none (Row.pures [0,1,2,3,4,5,6,7,8,9,10,11,12,13,14,15,16] .done) mixed (zV w1 w2 w3 w4) ?_);refine zK (wP _ _ _) (zV w1 w2 w3 w4) ?_;refine zK (wP _ _ _) (zV w1 w2 w3 w4) ?_;refine zK (wP _ _ _) (zV w1 w2 w3 w4) ?_;exact zg (zi hd rfl rfl)
open Go
theorem Zfv{vs:Array Value}(h:2=vs.size):∃u v,vs=#[u,v]:=by
 match vs,h with
 | ⟨[u,v]⟩,_=>simp
theorem ZmW{C:Ctx}{S:Store}{w:World}{v:Value}(h:Rel C S w (.sc (.slice none 0 0)) v):v=.slice none 0 0:=by cases h;rfl
theorem ZmX(n:Nat)(h0:0<n)(hn:n<=1048576)(S:Store)(nx:Nat)(hd:zW nx S):
  Spec prog 370 [.sc (.slice none 0 0),I n] S (λp S'=>∃v,p=.sl nx v 2 0 0/\S'=S.set nx (.cells v 100 [])):=by
 refine⟨qe func370 DM rfl,?_⟩;intro C w vs hS hl hr;obtain⟨u,v,rfl⟩:=Zfv hl;obtain rfl:=ZmW (hr 0 _ u rfl rfl);obtain rfl:=Je (hr 1 _ v rfl rfl);obtain⟨i0,hi0⟩:=B0.1 ZbE;have hz:=ZeN;have hc:=ZbD;have hb:=ZeM;simp only[Program.zeroOf,Program.cellsOf,Program.bytesOf',hi0,Dn,A9,Option.getD_some,Option.some.injEq]at hz hc hb;refine(slices_Grow_stop i0 _ hi0 hz DH n w h0 (by rw[hb];omega) DH).mono ?_;rintro e w' ⟨rfl,rfl⟩;have hfr:Fresh C S nx C.clock:=.clock C (hd nx (Ag _));obtain⟨d1,d2⟩:=hS.drew;obtain⟨t1,t2⟩:=d1.object' hfr 100 ((#[]:Array Value)++Builtin.zeroCells (Value.agg #[.int .i64 0,.int .i64 0]).cells (0+n-0)++Builtin.zeroCells (Value.agg #[.int .i64 0,.int .i64 0]).cells (grownCap w (0+n) 0 100-(0+n))) [] DI (λi v hi=>by simp at hi) (λi p v hp=>by simp at hp);have hge:=grownCap_ge w (0+n) 0 100;simp only[AS]at hge;refine⟨_,_,_,_,rfl,⟨C.clock,rfl,rfl⟩,We C S w _ _ _ _ _ _ _ _ rfl (Cj _) (Cj _) (grownCap_le_maxLen w _ _ _ (by unfold maxLen;omega)) ?_,t1,d2.trans t2⟩
 grind[size_zeroCells,Value.cells]
theorem ZmY(ls:List (List Stop))(hls:ls.length<=1048576)(h0:0<ls.flatten.length)(hn:ls.flatten.length<=1048576):Pure prog 350 [L ls] (L ls.flatten):=by
 refine zt func350 ntmps350 results350 λS nx hd=>?_
 refine DQ ?_;refine DQ ?_
 repeat apply za
 refine zb ?_;refine zj (zD (λs:Nat × Nat=>s.1<=ls.length/\s.2=(ls.take s.1).flatten.length) (λ(k,n)=>[(0,L ls),(3,I (n:Int)),(9,L ls),(10,I ls.length),(11,I k)]) (λ_=>[]) (λs=>ls.length-s.1) (0,0) [] ⟨by simp,by simp⟩ DI DI ?_);rintro⟨k,n⟩ ⟨hk,ho⟩;simp only at hk ho ⊢;refine DQ ?_;refine za (zv rfl (λhc=>?_) (λhc=>?_))
 ·simp at hc;obtain⟨t,tl,a1,a2,a3,e0⟩:=zJ rfl ls k hc;have hs1:(ls.take (k+1)).flatten.length=n+t.length:=by rw[a3,ho];simp
  have hs2:(ls.take (k+1)).flatten.length<=ls.flatten.length:=by
   conv=>rhs;rw[<-List.take_append_drop (k+1) ls,List.flatten_append,Aq]
   omega
  have w1:IntKind.i64.wrap ((n:Int)+(t.length:Nat))=(n:Int)+(t.length:Nat):=wr _ DH DH;have w2:¬((n:Int)+(t.length:Nat)<0):=DH
  refine zh (za (zj (za (ze [] (zo e0 hc) ?_))));refine za (ze [] w1 ?_);refine za (ze [] w2 ?_);refine zm rfl (zh (zb ?_));exact zq (k+1,n+t.length) [] ⟨hc,hs1.symm⟩ DH (by simp[zu k (by omega)]) rfl DI
 ·simp at hc;obtain rfl:k=ls.length:=DH
  rw[Ak]at ho;rw[<-ho]at h0;have hn':n<=1048576:=DH
  clear ho;refine zx (DQ ?_);refine λhsuf=>((ZmX n h0 hn' _ _ jF).mono ?_).v
  rintro _ _ ⟨v1,rfl,rfl⟩;refine⟨_,_,qG _,zG hsuf ?_⟩
  repeat apply za
  refine zb ?_;refine zj (zD (λs:Nat × List Stop × Nat=>s.1<=ls.length/\s.2.1=(ls.take s.1).flatten) (λ(k,out,v)=>[(6,.sl nx v 2 0 out.length),(25,L ls),(26,I ls.length),(27,I k)]) (λ(k,out,v)=>[.cells v 100 (out.flatMap Enc.enc)]) (λs=>ls.length-s.1) (0,[],v1) [] ⟨by simp,by simp⟩ DI DI ?_);rintro⟨k,out,v⟩ ⟨hk,ho⟩;simp only at hk ho ⊢;refine DQ ?_;refine za (zv rfl (λhc=>?_) (λhc=>?_))
  ·simp at hc;obtain⟨t,tl,a1,a2,a3,e0⟩:=zJ rfl ls k hc;have hs1:(ls.take (k+1)).flatten=out++t:=by rw[a3,ho];simp
   have hs2:(ls.take (k+1)).flatten.length<=ls.flatten.length:=by
    conv=>rhs;rw[<-List.take_append_drop (k+1) ls,List.flatten_append,Aq]
    omega
   rw[hs1]at hs2;simp only[Aq]at hs2;refine zh (za (zj (za (ze [] (zo e0 hc) ?_))));refine zb ?_;refine⟨by omega,?_⟩;refine zb ?_;exact zq (k+1,out++t,v+1) [] ⟨hc,hs1.symm⟩ DH (by simp[zu k (by omega)]) rfl DI
  ·simp at hc;obtain rfl:k=ls.length:=DH
   rw[Ak]at ho;refine zx (yb 0 rfl ?_);refine DQ ?_;exact zg (zi hd DJ (by simp[zp,ho]))
open Go Hp
def uY(T:zk)(c:Int):Nat:=T.findIdx λt=>t.any λs=>decide (s.c=c)
def Qo(a:zL):Option Int:=a[a.length-1]?.map (·.c)
def Jj(b:zL):Option Int:=b[0]?.map (·.c)
def qu(x:Inst)(num:Int)(p:Pr)(i k:Nat)(a b:zL):Bool :=
 decide (i≠k) && decide (Qo a=some p.a) && decide (Jj b=some p.b) && !(decide (p.s<=0) && decide (num<=x.veh)) && decide (zT x (a++b)=0)
def Wy(x:Inst)(st:zk × Int)(p:Pr)(i k:Nat):zk × Int :=
 bif qu x st.2 p i k (st.1.getD i []) (st.1.getD k []) then ((st.1.set i (st.1.getD i []++st.1.getD k [])).set k [],st.2-1) else st
def q8(x:Inst)(st:zk × Int)(p:Pr):zk × Int:=Wy x st p (uY st.1 p.a) (uY st.1 p.b)
def Zb5(x:Inst)(ss:List Stop):zk × Int:=(qT x (ss.map (·.c))).foldl (q8 x) (ss.map λs=>[s],(ss.length:Int))
def wS(x:Inst)(ss:List Stop):zk:=(Zb5 x ss).1.filter λt=>!t.isEmpty
structure JI (ss:List Stop) (T:zk) (g:Int->Option Int):Prop where
 len:T.length=ss.length
 perm:T.flatten.Perm ss
 g:∀(i:Nat) t s,T[i]?=some t->s∈t->g s.c=some (i:Int)
theorem JI.place{ss:List Stop}{T:zk}{g:Int->Option Int}(h:JI ss T g){i:Nat}{t:zL}{s:Stop}(hi:T[i]?=some t)(hs:s∈t):uY T s.c=i:=by
 have hex:∃t∈T,(t.any λs'=>decide (s'.c=s.c))=true:=⟨t,Ab hi,B4.2 ⟨s,hs,by simp⟩⟩;have hlt:uY T s.c<T.length:=List.findIdx_lt_length_of_exists hex;have hq:=List.findIdx_getElem (w:=hlt);obtain⟨s',h1,h2⟩:=B4.1 hq;have h2':s'.c=s.c:=by simpa using h2
 have e1:=h.g (uY T s.c) _ s' (Ae hlt) h1;have e2:=h.g i t s hi hs
 grind
theorem JI.there{ss:List Stop}{T:zk}{g:Int->Option Int}(h:JI ss T g){c:Int}(hc:c∈ss.map (·.c)):∃(i:Nat) (t:zL) (s:Stop),T[i]?=some t/\s∈t/\s.c=c/\g c=some (i:Int)/\uY T c=i:=by
 obtain⟨s,hs,rfl⟩:=Al.1 hc;obtain⟨t,ht,hst⟩:=Bs.1 (h.perm.symm.subset hs);obtain⟨i,hi⟩:=Bi.1 ht;exact⟨i,t,s,hi,hst,rfl,h.g i t s hi hst,h.place hi hst⟩
theorem Wz{T:zk}:∀{i:Nat} {a:zL},T[i]?=some a->T.flatten.Perm (a++(T.set i []).flatten):=by
 induction T with
 | nil=>simp
 | cons t T ih =>
  intro i a h;cases i<;>grind
theorem ZmZ{T:zk}{i:Nat}(b:zL)(h:i<T.length):(T.set i b).flatten.Perm (b++(T.set i []).flatten):=by
 have:=Wz (T:=T.set i b) (i:=i) (a:=b) (by simp[h])
 simp_all
theorem Zm0{T:zk}{i k:Nat}{a b:zL}(hi:T[i]?=some a)(hk:T[k]?=some b)(hne:i≠k):((T.set i (a++b)).set k []).flatten.Perm T.flatten:=by
 have hil:=(Ac.1 hi).1;rw[List.set_comm _ _ hne];have h1:=ZmZ (T:=T.set k []) (i:=i) (a++b) (by simpa using hil);have h2:=Wz hk;have h3:=Wz (T:=T.set k []) (i:=i) (a:=a) (by rw[AX (λe=>hne e.symm)];exact hi)
 grind
def Qp(g:Int->Option Int)(b:zL)(i:Nat)(j:Nat):Int->Option Int:=λc=>if c∈(b.take j).map (·.c) then some (i:Int) else g c
theorem Zm1(g:Int->Option Int)(b:zL)(i:Nat):Qp g b i 0=g:=by funext c;simp[Qp]
theorem Zm2{g:Int->Option Int}{b:zL}{i j:Nat}{s:Stop}(h:b.take (j+1)=b.take j++[s]):qN (Qp g b i j) s.c (some (i:Int))=Qp g b i (j+1):=by grind[qN,Qp]
theorem JI.join{ss:List Stop}{T:zk}{g:Int->Option Int}(h:JI ss T g){i k:Nat}{a b:zL}(hi:T[i]?=some a)(hk:T[k]?=some b)(hne:i≠k):JI ss ((T.set i (a++b)).set k []) (Qp g b i b.length):=by
 have hil:=(Ac.1 hi).1;have hkl:=(Ac.1 hk).1;refine⟨by simp[h.len],(Zm0 hi hk hne).trans h.perm,λi' t s ht hs=>?_⟩;unfold Qp;rw[Ak]
 by_cases e1:k=i'
 ·simp_all
 ·rw[AX e1]at ht
  by_cases e2:i=i'
  ·subst e2;rw[AW hil]at ht;cases ht
   by_cases e3:s.c∈b.map (·.c)
   ·rw[if_pos e3]
   ·rw[if_neg e3];rcases AB.1 hs with hs | hs
    ·exact h.g i a s hi hs
    grind
  ·rw[AX e2]at ht;have h1:=h.g i' t s ht hs;rw[if_neg]
   ·exact h1
   ·intro e3;obtain⟨s',hs',e4⟩:=Al.1 e3;have h2:=h.g k b s' hk hs'
    grind
theorem JI.nil:JI [] [] (λ_=>none):=⟨rfl,.refl _,λi t s h=>by simp at h⟩
theorem JI.snoc{ss:List Stop}{T:zk}{g:Int->Option Int}(h:JI ss T g)(s:Stop)(hs:s.c ∉ ss.map (·.c)):JI (ss++[s]) (T++[[s]]) (qN g s.c (some (ss.length:Int))):=by
 refine⟨by simp[h.len],by simpa using h.perm.append_right [s],λi t s' ht hst=>?_⟩;unfold qN;rcases Bh i T.length with hl | hl
 ·rw[Ap hl]at ht;have h1:s'∈ss:=h.perm.subset (Bs.2 ⟨t,Ab ht,hst⟩);rw[if_neg]
  ·exact h.g i t s' ht hst
  simp_all
 ·rw[Aj hl]at ht;have hi:i-T.length=0:=by
   have:=(Ac.1 ht).1;simp at this;omega
  rw[hi]at ht;simp at ht;subst ht;simp at hst;subst hst;rw[if_pos rfl,<-h.len]
  grind
open Go Hp
theorem V6{P:Program}{r:Rd}{n N:Nat}{Q:Exit->(Nat->PV)->Store->Prop}{F:Nat->PV}{c:Code}{T:Store}{o ver e0:Nat}{cs:List PV}(i:Nat)(hs:T o=.cells ver e0 cs)(hi:cs[i]?=some (.sc (.slice none 0 0)))
  (h:PW P r n N c Q F (T.set o (.cells ver e0 (cs.set i (.lst 0 []))))):PW P r n N c Q F T:=by
 refine Yw (F':=F) (S':=T.set o (.cells ver e0 (cs.set i (.lst 0 [])))) (λC w a st=>?_) h;have:=st.sim.relabel (cs':=cs.set i (.lst 0 [])) hs DI (by
  intro k p' hp';rw[Bt]at hp';split at hp'
  ·rename_i hij;subst hij;split at hp'
   ·cases hp';refine .inr ⟨_,hi,λv hv=>?_⟩;cases hv;exact .lst0
   ·cases hp'
  ·exact .inl hp')
 exact⟨C,⟨this.1,st.size,λk=>(st.fr k).mono this.2,r.keep this.2 st.v⟩,this.2⟩
abbrev Xj(x:Inst)(tid tv n:Nat)(num:Int)(mid mv:Nat):List PV:=[I x.days,I x.veh,I x.cap,I x.len,L x.cust,L x.dist,.sl tid tv 1 0 n,I num,.mp mid mv]
theorem Zb6(cs:List PV)(k:Nat)(x:PV)(h:k<cs.length):ye cs k [x]=cs.set k x:=by simp_all[ye,AF]
theorem Zfw(T:zk):T.flatMap Enc.enc=T.map λt=>L t:=by induction T<;>simp_all
theorem yU{S:Store}{nx id:Nat}{o:Ob}(hd:zW nx S)(h:S id=o)(hne:o≠.dead):id<nx:=by
 rcases Bh id nx with q | q
 ·exact q
 ·rw[hd id q]at h;simp_all
theorem Zm3(x:Inst)(ss:List Stop)(T:zk)(g:Int->Option Int)(num:Int)(es:List (Value × PV)){S:Store}{jid jv tid tv mid mv:Nat}(hx:x.cust.length<=1048576)(hss:ss.length<=1000)(hnum:-1048576<=num/\num<=1048576)(hI:JI ss T g)(hm:MapIs qI I es g)
  (hj:S jid=.cells jv 387 (Xj x tid tv ss.length num mid mv)) (ht:S tid=.cells tv 40 (T.flatMap Enc.enc)) (hmid:S mid=.map mv es) (d1:jid≠tid) (d2:jid≠mid) (d3:tid≠mid)
  (p:Pr) (hpa:p.a∈ss.map (·.c)) (hpb:p.b∈ss.map (·.c)) :
  Spec prog 332 [.ptr jid jv 0,.agg [I p.a,I p.b,I p.s]] S (λ_ S'=>∃es' g',MapIs qI I es' g'/\JI ss (q8 x (T,num) p).1 g' /\
   S'=((S.set jid (.cells jv 387 (Xj x tid tv ss.length (q8 x (T,num) p).2 mid mv))).set tid (.cells tv 40 ((q8 x (T,num) p).1.flatMap Enc.enc))).set mid (.map mv es')):=by
 obtain⟨i,a,sa,hia,hsa,hsac,hga,hpi⟩:=hI.there hpa;obtain⟨k,b,sb,hkb,hsb,hsbc,hgb,hpk⟩:=hI.there hpb;have hkey:KeyOk (.int .i64) qI:=Jf .i64;obtain⟨ra,fa1,fa2,fa3,fa4,fa5⟩:=hm.find hkey p.a;obtain⟨rb,fb1,fb2,fb3,fb4,fb5⟩:=hm.find hkey p.b;obtain⟨ja,rfl⟩:=fa3 _ hga;obtain⟨jb,rfl⟩:=fb3 _ hgb;refine yi func332 ntmps332 results332 λnx hd=>?_
 have hlj:jid<nx:=yU hd hj DI;have hlt:tid<nx:=yU hd ht DI;have hlm:mid<nx:=yU hd hmid DI;have xj:=λobs=>zB (S:=S) (obs:=obs) hlj
 have xt:=λobs=>zB (S:=S) (obs:=obs) hlt
 have xm:=λobs=>zB (S:=S) (obs:=obs) hlm
 refine DQ ?_;intro v0;have hil:=(Ac.1 hia).1;have hkl:=(Ac.1 hkb).1;have hgi:T.getD i []=a:=by rw[Aa,hia];rfl
 have hgk:T.getD k []=b:=by rw[Aa,hkb];rfl
 have hdef:q8 x (T,num) p=bif qu x num p i k a b then ((T.set i (a++b)).set k [],num-1) else (T,num):=by
  unfold q8 Wy;simp only[hpi,hpk,hgi,hgk]
 have hstay:qu x num p i k a b=false->∃es' g',MapIs qI I es' g'/\JI ss (q8 x (T,num) p).1 g' /\
   S=((S.set jid (.cells jv 387 (Xj x tid tv ss.length (q8 x (T,num) p).2 mid mv))).set tid (.cells tv 40 ((q8 x (T,num) p).1.flatMap Enc.enc))).set mid (.map mv es'):=by
  intro hc;rw[hdef,hc];refine⟨es,g,hm,hI,?_⟩;simp only[cond_false];rw[Xe S jid _ hj,Xe S tid _ ht,Xe S mid _ hmid]
 have hal2:a.length<=1000:=by
  have h1:=(Wz hia).length_eq;have h2:=hI.perm.length_eq;rw[Aq]at h1;omega
 have hbl2:b.length<=1000:=by
  have h1:=(Wz hkb).length_eq;have h2:=hI.perm.length_eq;rw[Aq]at h1;omega
 obtain⟨m,hal⟩:∃m,a.length=m+1:=⟨a.length-1,by cases a with | nil=>cases hsa | cons _ _=>simp⟩;have hb0:0<b.length:=by cases b with | nil=>cases hsb | cons _ _=>simp
 obtain⟨la,tla,la1,la2,la3,la4,la5⟩:=el 2 rfl a m DH;obtain⟨fb,b',hbc⟩:∃fb b',b=fb :: b':=by cases b with | nil=>cases hsb | cons x y=>simp
 have hend:Qo a=some la.c:=by unfold Qo;rw[hal,B1,la1];rfl
 have hhead:Jj b=some fb.c:=by rw[hbc];rfl
 obtain⟨ai,tai,i1,i2,i3,i0⟩:=zJ rfl T i hil;rw[hia]at i1;cases i1;obtain⟨bk,tbk,k1,k2,k3,k0⟩:=zJ rfl T k hkl;rw[hkb]at k1;cases k1;have hTl:=hI.len;have hil2:i<ss.length:=DH
 have hkl2:k<ss.length:=DH
 refine za (qS (nx:=nx) (σ:=Unit) (λ_=>True) (λ_=>[(0,.ptr jid jv 0),(3,.ptr nx v0 0),(4,I i),(5,I k)]) (λ_=>S) (λ_=>[.cells v0 392 [I p.a,I p.b,I p.s]]) ?_ ?_)
 ·repeat apply za
  refine zz none (Row.pures [0,1,2,3,4,5,7,8,9,10,11,12] (.alt 6 (Row.pures [14] (.alt 13 (Row.pures [15] .done) .stop)) (.alt 13 (.alt 6 (Row.pures [14,15] .done) .stop) .stop))) mixed (yl xj xt xm hj ht hmid) ?_;refine⟨?_,?_⟩
  ·refine⟨by rfl,(Zj rfl underlying384 underlying3 rfl rfl rfl ((xm _).trans hmid) fa1 z3 ?_)⟩;refine⟨by simp,ju trivial ?_⟩;refine⟨by rfl,(Zj rfl underlying384 underlying3 rfl rfl rfl ((xm _).trans hmid) fb1 z3 ?_)⟩;refine⟨by simp,ju trivial ?_⟩;exact z8 () [] trivial (by simp[ZQ]) rfl DI
  ·refine⟨by rfl,(Zj rfl underlying384 underlying3 rfl rfl rfl ((xm _).trans hmid) fb1 z3 ?_)⟩;refine⟨by simp,ju trivial ?_⟩;refine⟨by rfl,(Zj rfl underlying384 underlying3 rfl rfl rfl ((xm _).trans hmid) fa1 z3 ?_)⟩;refine⟨by simp,ju trivial ?_⟩;exact z8 () [] trivial (by simp[ZQ]) rfl DI
 intro _ _;refine za (zz none (Row.pures [0,1,2,3,4,5,6,7,8,9,10,11,12,13,14,15] .done) mixed (yl xj xt hj ht i0 (zV k0 hil2 hkl2 hTl)) ?_);have wm:IntKind.i64.wrap (m:Int)=m:=wr _ DH DH;have hm1:m<a.length:=DH
 refine za (qS (nx:=nx) (σ:=Unit) (λ_=>¬i=k/\la.c=p.a/\fb.c=p.b) (λ_=>[(0,.ptr jid jv 0),(3,.ptr nx v0 0),(4,I i),(5,I k),(6,L a),(7,L b)]) (λ_=>S) (λ_=>[.cells v0 392 [I p.a,I p.b,I p.s]]) ?_ ?_)
 ·by_cases h1:i=k
  ·have hc:qu x num p i k a b=false:=by simp[qu,h1]
   refine za (zz none (Row.pures [0,1,2,3,4,5,6,7,8,9,10,11,12,13,14,15,16,17,18,19,20,21,22,23] .done) mixed (zo h1 zN) ?_);exact zn rfl (zg ⟨_,S,rfl,hstay hc,zR hd⟩)
  have h1':¬(i:Int)=(k:Int):=DH
  have hm2:(m:Int)<(m:Int)+1:=DH
  by_cases h2:la.c=p.a
  case neg =>
   have hc:qu x num p i k a b=false:=by simp[qu,hend,h2]
   refine za (zz none (Row.pures [0,1,2,3,4,5,6,7,8,9,10,11,12,13,14,15,16,17,18,19,20,21,22,23] .done) mixed (yl h1' h2 hal wm hm2 (zF la4 la5 zN)) ?_);exact zn rfl (zg ⟨_,S,rfl,hstay hc,zR hd⟩)
  by_cases h3:fb.c=p.b
  case neg =>
   have hc:qu x num p i k a b=false:=by simp[qu,hhead,h3]
   refine za (zz none (Row.pures [0,1,2,3,4,5,6,7,8,9,10,11,12,13,14,15,16,17,18,19,20,21,22,23] .done) mixed (yl h1' h2 h3 hal wm (yE hm2 la4 la5 hbc zN)) ?_);exact zn rfl (zg ⟨_,S,rfl,hstay hc,zR hd⟩)
  refine za (zz none (Row.pures [0,1,2,3,4,5,6,7,8,9,10,11,12,13,14,15,16,17,18,19,20,21,22,23] .done) mixed (yl h1' h2 h3 hal wm (yE hm2 la4 la5 hbc zN)) ?_);exact zm rfl (zh (z8 () [] ⟨h1,h2,h3⟩ (by simp[hal,hbc]) rfl DI))
 rintro _ ⟨h1,h2,h3⟩;have hN0:-9223372036854775808<=num:=DH
 refine za (qS (nx:=nx) (σ:=Unit) (λ_=>¬(p.s<=0/\num<=x.veh)) (λ_=>[(0,.ptr jid jv 0),(3,.ptr nx v0 0),(4,I i),(5,I k),(6,L a),(7,L b)]) (λ_=>S) (λ_=>[.cells v0 392 [I p.a,I p.b,I p.s]]) ?_ ?_)
 ·by_cases h4:p.s<=0
  ·by_cases h5:num<=x.veh
   ·have hc:qu x num p i k a b=false:=by simp[qu,h4,h5]
    refine za (zz none (Row.pures [0,1,2,3,4,5,6,7,8,9,10,11,12,13,14] .done) mixed (yE xj hj h4 h5 zN) ?_);exact zn rfl (zg ⟨_,S,rfl,hstay hc,zR hd⟩)
   ·refine za (zz none (Row.pures [0,1,2,3,4,5,6,7,8,9,10,11,12,13,14] .done) mixed (yE xj hj h4 h5 zN) ?_);exact zm rfl (zh (z8 () [] DH DI rfl DI))
  ·refine za (zz none (Row.pures [0,1,2,3,4,5,6,7,8,9,10,11,12,13,14] .done) mixed (zo h4 zN) ?_);exact zm rfl (zh (z8 () [] DH DI rfl DI))
 intro _ h4;have hcon:=ZmY [a,b] DI DL DL;rw[show [a,b].flatten=a++b from by simp]at hcon;refine DQ ?_;refine zr hcon ?_;refine za (qS (nx:=nx) (σ:=Unit) (λ_=>zT x (a++b)=0) (λ_=>[(0,.ptr jid jv 0),(3,.ptr nx v0 0),(4,I i),(5,I k),(6,L a),(7,L b),(8,L (a++b))]) (λ_=>S) (λ_=>[.cells v0 392 [I p.a,I p.b,I p.s]]) ?_ ?_)
 ·refine za (ze [] (zo xj hj) ?_);refine zr (Wu x (a++b) hx DL) ?_
  by_cases h5:zT x (a++b)=0
  ·repeat apply za
   refine zm (by simp[h5]) ?_;exact zh (z8 () [] h5 DI rfl DI)
  ·have hc:qu x num p i k a b=false:=by simp[qu,h5]
   refine zn (by simp[h5]) ?_;exact zg ⟨_,S,rfl,hstay hc,zR hd⟩
 intro _ h5;have h4':(decide (p.s<=0) && decide (num<=x.veh))=false:=Bool.eq_false_iff.2 λq=>h4 (by simpa using q)
 have hjoin:qu x num p i k a b=true:=by unfold qu;rw[h4',hend,hhead,h2,h3,h5];simp[h1]
 rw[hdef,hjoin];simp only[cond_true];have yj:=λ(o:Ob) obs=>(zB (S:=S.set mid o) (obs:=obs) hlj).trans ((q10 _ _ _ _ d2).trans hj)
 have ym:=λ(o:Ob) obs=>(zB (S:=S.set mid o) (obs:=obs) hlm).trans (q11 _ _ _)
 repeat apply za
 refine zb ?_;refine zj (jt (σ:=Nat × List (Value × PV)) (λs=>s.1<=b.length/\MapIs qI I s.2 (Qp g b i s.1)) (λs=>[(0,.ptr jid jv 0),(4,I i),(5,I k),(8,L (a++b)),(90,L b),(91,I b.length),(92,I s.1)]) (λs=>S.set mid (.map mv s.2)) (λ_=>[.cells v0 392 [I p.a,I p.b,I p.s]]) (λs=>b.length-s.1) (z8 (0,es) [] ⟨by simp,by rw[Zm1];exact hm⟩ DI (Xe S mid _ hmid) DI) ?_);rintro⟨j,es2⟩ ⟨hjl,hm2'⟩;simp only at hjl hm2' ⊢;refine DQ ?_;refine za (zv rfl (λhq=>?_) (λhq=>?_))
 ·simp at hq;obtain⟨s,tl,a1,a2,a3,e1,e0⟩:=el 2 rfl b j hq;obtain⟨rs,f1,_,_,f4,_⟩:=hm2'.find hkey s.c;have hnew:=f4 (i:Int);rw[Zm2 a3]at hnew;refine zh (za (zj (za (ze [] (zF e1 e0 hq) ?_))));intro v1;refine zz (some [jid,nx+1]) (Row.pures [0,1,2,3,4,5,6] (.alt 7 (.done) .stop)) mixed yj ?_;refine⟨by rfl,(Yy (.inl rfl) underlying384 underlying3 rfl rfl rfl (ym _ _) f1 ?_)⟩;rw[yZ _ hlm,Store.set_set];refine⟨by simp[yH,yj],ju trivial ?_⟩;refine zb ?_;exact zq (j+1,qM (qI s.c) (I i) es2 rs) [_] ⟨hq,hnew⟩ DH (by simp[zu j (by omega)]) rfl DJ
 ·simp at hq;obtain rfl:j=b.length:=DH
  refine zx ?_;have yt1:=λ(o:Ob) obs=>(zB (S:=S.set mid o) (obs:=obs) hlt).trans ((q10 _ _ _ _ d3).trans ht)
  have yt2:=λ(o o':Ob) obs=>(zB (S:=(S.set mid o).set tid o') (obs:=obs) hlt).trans (q11 _ _ _)
  have yj2:=λ(o o':Ob) obs=>(zB (S:=(S.set mid o).set tid o') (obs:=obs) hlj).trans ((q10 _ _ _ _ d1).trans ((q10 _ _ _ _ d2).trans hj))
  have hlen1:(T.flatMap Enc.enc).length=ss.length:=by rw[jR,hTl]
  have hs1:=Zb6 (T.flatMap Enc.enc) i (L (a++b)) DH;have hs2:=Zb6 ((T.flatMap Enc.enc).set i (L (a++b))) k (.sc (.slice none 0 0)) DL;have hlt1:¬nx<=tid:=DH
  have hlj1:¬nx<=jid:=DH
  have wn:IntKind.i64.wrap (num-1)=num-1:=wr _ DH DH;refine za (zz (some [jid]) (Row.pures [0,1,2,3,4,5,6,7,8,9,10,11] (.alt 12 (Row.pures [13] (.alt 14 (.done) .stop)) .stop)) mixed (yl yj yt1 yt2 yj2 hs1 (yl hs2 hil2 hkl2 hlen1 hlt1 hTl)) ?_);refine⟨by omega,by omega,?_⟩;have hcs:((((T.flatMap Enc.enc).set i (L (a++b))).set k (.sc (.slice none 0 0))).set k (.lst 0 []))=((T.set i (a++b)).set k []).flatMap Enc.enc:=by
   rw[List.set_set,Zfw,Zfw,List.map_set,List.map_set];rfl
  refine V6 (o:=tid) k (yt2 _ _ _) (by rw[AW (by simp;omega)]) ?_;rw[yZ _ hlt,Store.set_set,hcs];generalize ((T.set i (a++b)).set k []).flatMap Enc.enc=cs' at *;refine ze [] (zF yj2 hlj1 wn) ?_;have e1:∀(o o' o'':Ob),((S.set mid o).set tid o').set jid o''=((S.set jid o'').set tid o').set mid o:=by
   intro o o' o'';rw[Store.set_comm _ jid tid _ _ (λe=>d1 e.symm),Store.set_comm _ jid mid _ _ (λe=>d2 e.symm),Store.set_comm _ tid mid _ _ (λe=>d3 e.symm)]
  rw[e1];have hdd:∀(o o' o'':Ob),zW nx (((S.set jid o'').set tid o').set mid o):=by
   intro o o' o'' q hq;rw[q10 _ _ _ _ DH,q10 _ _ _ _ DH,q10 _ _ _ _ DH];exact hd q hq
  exact⟨_,_,rfl,⟨es2,_,hm2',hI.join hia hkb h1,rfl⟩,zR (hdd _ _ _)⟩
open Go Go.Shelf Go.RowKit Go.Lib Go.Sort
def Se:Store:=λ_=>.dead
def Ce:Ctx:=⟨λ_=>none,0,0⟩
theorem Zm4(w:World):Sim Ce Se w :=
 ⟨λ_ h=>absurd rfl h,(λ_ _ h=>by cases h),λ_ _ _ _ _ h=>absurd rfl h,(λ_ _ _ _ h=>by cases h),(λ_ _ _ h=>by cases h)⟩
theorem Zb7(b:Nat):¬Ce.M Se b:=by rintro⟨o,k,h,_⟩;exact h rfl
inductive Fz:PV->Prop where
 | junk:Fz .junk
 | sc (v:Value):Fz (.sc v)
 | agg {cs:List PV} (h:∀p∈cs,Fz p):Fz (.agg cs)
 | lst {n:Nat} {cs:List PV} (h:∀p∈cs,Fz p):Fz (.lst n cs)
 | ip {cs:List PV} (h:∀p∈cs,Fz p):Fz (.ip cs)
theorem Zm5{C:Ctx}{S:Store}{w:World}{p:PV}{v:Value}(h:Rel C S w p v):Fz p->Rel Ce Se w p v:=by
 induction h with
 | junk v=>intro _;exact .junk v
 | sc v=>intro _;exact .sc v
 | agg hl h1 _ ih=>intro hz;cases hz with | agg hz=>exact .agg hl h1 λi c v hc hv=>ih i c v hc hv (hz c (Ab hc))
 | tup hl _ ih=>intro hz;cases hz
 | lst0=>intro _;exact .lst0
 | lst1 hn hm hb hM hs h1 _ ih=>intro hz;cases hz with | lst hz=>exact .lst1 hn hm hb (Zb7 _) hs h1 λi c v hc hv=>ih i c v hc hv (hz c (Ab hc))
 | ip hb hM hs h1 _ ih=>intro hz;cases hz with | ip hz=>exact .ip hb (Zb7 _) hs h1 λi c v hc hv=>ih i c v hc hv (hz c (Ab hc))
 | nl0=>intro hz;cases hz
 | nl _ _ _ _ _ _ _=>intro hz;cases hz
 | ptr _ _ _=>intro hz;cases hz
 | sl _ _ _=>intro hz;cases hz
 | fn _ _ _ _ _ _=>intro hz;cases hz
 | ifc _ _=>intro hz;cases hz
 | mp _ _ _=>intro hz;cases hz
theorem Zm6{W w':World}{C':Ctx}{S':Store}(h:Step Ce Se W C' S' w'):∃q os',w'=grow (W.drewN q) os':=by
 obtain⟨p,hp⟩:=regrown_of_below (w:=W) (w':=w') ⟨h.os,h.tape.1,h.output,h.size,λb hb=>(h.blocks b hb (Zb7 b)).1⟩;have hd:=h.tape.2;rw[hp]at hd;refine⟨p.d-W.drawn,p.os,?_⟩
 simp_all[grow,redrawn,World.drewN]
section
variable {P:Program} {α:Type} [Inhabited α] {val:α->Int}
theorem Zm7{C:Ctx}{S:Store}{w:World}{x:Int}{v:Value}(h:Rel C S w (I x) v):v=.int .i64 x:=by cases h;rfl
abbrev wT(val:α->Int)(x:α):Value:=.int .i64 (val x)
theorem Zm8{g:Nat}{caps:List PV}{cf:α->α->Int}(hg:∀x y:α,Pure P g (I (val x) :: I (val y) :: caps) (I (cf x y)))(cb:Array Value)(hl:caps.length=cb.size){w:World}{blk size:Nat}
  (hr:∀(m:Nat) (os:Array Obj) (dk:Array α),dk.size=size->∀(i:Nat) (c:PV) (v:Value),caps[i]?=some c->cb[i]?=some v->Rel Ce Se (sortWorld (wT val) w blk 0 m dk os) c v):CmpLays1 P g cb (wT val) cf blk 0 size w:=by
 intro m os dk hs x y;refine((hg x y Se).2 Ce (sortWorld (wT val) w blk 0 m dk os) (#[wT val x,wT val y]++cb) (Zm4 _) DL ?_).mono ?_
 ·intro i c v hc hv
  match i with
  | 0=>rw[Bq DI]at hv;cases hc;cases hv;exact .sc _
  | 1=>rw[Bq DI]at hv;cases hc;cases hv;exact .sc _
  | i+2 =>
   grind
 ·rintro e w' ⟨p,v,S',C',rfl,⟨rfl,rfl⟩,hrel,_,hst⟩;cases hrel
  grind[Zm6]
theorem Zfx{C:Ctx}{S:Store}{w:World}(hS:Sim C S w){id ver e b k:Nat}{cs0:List PV}{c:Array Value}(hid:S id=.cells ver e cs0)(g1:C.loc id=some (b,k))(g2:w.heap[b]?=some (.cells c e (0,0)))(g3:c.size=k)(dk:Array α)(hdk:dk.size<=k)(q:Nat)(os:Array Obj):
  Sim (C.at id ver (C.loc id)) (S.set id (.cells ver e (dk.toList.map λx=>I (val x)))) (sortWorld (wT val) w b 0 q dk os) /\
  Step C S w (C.at id ver (C.loc id)) (S.set id (.cells ver e (dk.toList.map λx=>I (val x)))) (sortWorld (wT val) w b 0 q dk os):=by
 have hb:b<w.heap.size:=qi g2;have hh:(sortWorld (wT val) w b 0 q dk os).heap[b]?=some (.cells (putCells (wT val) 0 dk c) e (0,0)):=by
  unfold sortWorld;rw[heap_grow_old _ _ (by simpa using hb)];simp[putRow,mapBlock,Sort.ahead,Bz,g2,onCells]
 have hgr:w.grownBy (sortWorld (wT val) w b 0 q dk os) (some b):=by
  refine⟨rfl,rfl,rfl,by simp[sortWorld],λj hj hne=>?_⟩;unfold sortWorld;rw[heap_grow_old _ _ (by simpa using hj)];have:b≠j:=λe=>hne (by rw[e])
  simp[putRow,mapBlock,Sort.ahead,Bz,this]
 have hcell:∀i,i<dk.size->∀v,(putCells (wT val) 0 dk c)[i]?=some v->v=wT val dk[i]!:=by
  intro i hi v hv;have hic:i<c.size:=DH
  simp[putCells,hi,hic]at hv;rw[<-hv,getElem!_pos dk i hi]
 refine hS.turn (l:=C.loc id) (ver':=ver) (cs':=dk.toList.map λx=>I (val x)) hid (Ag _) (λ_=>rfl) ⟨by simp_all,CU _ _⟩
  (.inr ⟨b,k,_,g1,.inr (by rw[g1];rfl),hh,by simp_all[putCells],by simpa using hdk,λi v hi hv=>?_,λi p v hp hv=>?_⟩)
 ·rw[hcell i (by simpa using hi) v hv];rfl
 ·have hi:i<dk.size:=by have:=(Ac.1 hp).1;simpa using this
  rw[hcell i hi v hv];rw[Ai,Array.getElem?_toList,AK hi]at hp;simp only[A9,Option.some.injEq]at hp;rw[<-hp,getElem!_pos dk i hi];exact .sc _
theorem Zm9{ρ:Ren}(L:SlLaysF.n6 P ρ)(hE:qj P (ρ.f 6)){S:Store}{id ver:Nat}{f:PV}:Spec P (ρ.f 6) [.sl id ver 1 0 0,f] S (λp S'=>S'=S):=by
 refine⟨hE,?_⟩;intro C w vs hS hl hr;obtain⟨v0,v1,rfl⟩:∃v0 v1,vs=#[v0,v1]:=by
  match vs,hl with
  | ⟨[a,b]⟩,_=>simp
 have hv0:=hr 0 _ v0 rfl rfl;cases hv0 with
 | sl h1 h2 h3 =>
  obtain⟨a,cap,rfl,q1,q2,q3,q4⟩:=h1;refine(AnyF.slices_SortFunc_none { L with } a cap _ w).mono ?_;rintro e w' ⟨rfl,rfl⟩;exact⟨.junk,_,S,C,rfl,rfl,.junk _,hS,.refl _ _ _⟩
theorem Zna{ρ:Ren}(L:SlLaysF.n6 P ρ)(hE:qj P (ρ.f 6)){S:Store}{id ver e:Nat}(zs:List α)(hid:S id=.cells ver e (zs.map λx=>I (val x)))(hn:zs.length<=1048576)
  {g:Nat} (hG:qj P g) {caps:List PV} (hz:∀p∈caps,Fz p) (cf:α->α->Int) (hO:SWO (ltOf cf)) (hT:∀x y,(ltOf cf) x y=false->(ltOf cf) y x=false->x=y)
  (hg:∀x y:α,Pure P g (I (val x) :: I (val y) :: caps) (I (cf x y))) :
  Spec P (ρ.f 6) [.sl id ver 1 0 zs.length,.fn (.func g) [] caps] S (λp S'=>S'=S.set id (.cells ver e ((zs.mergeSort λx y=>!(ltOf cf) y x).map λx=>I (val x)))):=by
 refine⟨hE,?_⟩;intro C w vs hS hl hr;obtain⟨v0,v1,rfl⟩:∃v0 v1,vs=#[v0,v1]:=by
  match vs,hl with
  | ⟨[a,b]⟩,_=>simp
 have hv0:=hr 0 _ v0 rfl rfl;have hv1:=hr 1 _ v1 rfl rfl;cases hv1 with
 | @fn _ _ _ fv cv hf hc hh' hcap =>
 obtain rfl:fv=#[]:=DO
 cases hv0 with
 | sl h1 h2 h3 =>
  obtain⟨a,cap,rfl,q1,q2,q3,q4⟩:=h1
  by_cases h0:zs=[]
  ·subst h0;refine(AnyF.slices_SortFunc_none { L with } a cap _ w).mono ?_;rintro e w' ⟨rfl,rfl⟩;refine⟨.junk,_,S,C,rfl,?_,.junk _,hS,.refl _ _ _⟩
   grind[Store.set,List.mergeSort_nil]
  ·have hpos:0<zs.length:=BI.2 h0;rcases hS.cells id ver _ _ hid with ⟨hn',hnil⟩ | ⟨b,k,c,g1,g2,g3,g4,g5,g6⟩
   ·simp_all
   ·have ha:a=some ⟨b,0,none⟩:=by
     rcases (h3 ver (by rw[hid];rfl)).2 rfl with ⟨z1,_⟩ | ⟨b',k',a',cap',z1,z2,z3,z4⟩
     ·omega
     ·grind
    subst ha;rw[List.length_map]at g4 g5;have hcells:∀i (hi:i<zs.length),c[i]?=some (wT val zs[i]):=by
     intro i hi;have hi':i<c.size:=DH
     have e1:(zs.map λx=>I (val x))[i]?=some (I (val zs[i])):=by simp[hi]
     have e2:c[i]?=some c[i]:=DI
     rw[e2,Zm7 (g6 i _ _ e1 e2)]
    have hH:Holds (wT val) w b 0 zs.toArray:=by
     intro j hj;have hj':j<zs.length:=by simpa using hj
     refine⟨?_,by grind[World.frozen?]⟩;simp only[World.cell?,g2,AS,C7,AU,if_false];rw[hcells j hj',getElem!_pos zs.toArray j hj];simp
    have hlays:CmpLays1 P g cv (wT val) cf b 0 zs.toArray.size w:=by
     refine Zm8 hg cv DH λm os dk hs i p v hp hv=>?_
     obtain⟨_,st⟩:=Zfx (val:=val) hS hid g1 g2 g3 dk (by rw[hs];omega) m os;exact Zm5 ((hcap i p v hp hv).mono st) (hz p (Ab hp))
    have hk:=Any.slices_SortFunc_total L (wT val) (λ_=>rfl) cf hO g cv b 0 cap zs.toArray w hG hlays hH (qi g2) DL hT;simp only[BJ]at hk;refine hk.mono ?_;rintro e w' ⟨rfl,m,os,rfl⟩;obtain⟨t1,t2⟩:=Zfx (val:=val) hS hid g1 g2 g3 (zs.mergeSort λx y=>!(ltOf cf) y x).toArray (by simpa using g4) m os;exact⟨.junk,_,_,_,rfl,rfl,.junk _,t1,t2⟩
end
open Go
theorem Zfy(x:Int):Pure prog 303 [I x] (B false):=by
 refine zt func303 ntmps303 results303 λS nx hd=>?_
 refine DQ ?_;refine DQ ?_;exact DR hd
theorem Zfz(x y:Int):Pure prog 376 [I x,I y] (I (uu x y)):=by
 refine zt func376 ntmps376 results376 λS nx hd=>?_
 refine DQ ?_;refine DQ ?_;refine zr (Zfy x) ?_;refine DQ ?_;refine zr (Zfy y) ?_
 repeat apply za
 refine zb ?_;refine zm DI ?_;refine zh ?_
 repeat apply za
 refine zb ?_;refine zm DI ?_;refine zh ?_
 by_cases h1:x<y
 ·repeat apply za
  refine ze [] h1 ?_;refine zn (by simp[h1]) ?_;refine DQ ?_;exact zg (zi hd DJ (by simp[uu,h1,zp]))
 repeat apply za
 refine ze [] h1 ?_;refine zm (by simp[h1]) ?_;refine zh ?_
 by_cases h2:y<x
 ·repeat apply za
  refine ze [] h2 ?_;refine zn (by simp[h2]) ?_;refine DQ ?_;exact zg (zi hd DJ (by simp[uu,h1,h2,zp]))
 repeat apply za
 refine ze [] h2 ?_;refine zm (by simp[h2]) ?_;refine zh (DQ ?_);exact zg (zi hd DJ (by simp[uu,h1,h2,zp]))
theorem Znb(x y:Int):Pure prog 375 [.lst 2 [I x,I y]] (I (if x=0 then y else x)):=by
 refine zt func375 ntmps375 results375 λS nx hd=>?_
 refine DQ ?_;refine DQ ?_
 repeat apply za
 refine zb ?_;refine zj (zD (λs:Nat=>s<=2/\(0<s->x=0)/\(1<s->y=0)) (λk=>[(3,I 0),(6,.lst 2 [I x,I y]),(7,I 2),(8,I k)]) (λ_=>[]) (λs=>2-s) 0 [] DI DI DI ?_);rintro k ⟨hk,hk1,hk2⟩
 match k,hk,hk1,hk2 with
 | 0,_,_,_ =>
  refine DQ ?_;refine za (zn DI ?_);refine zh (za (zj (DQ ?_)))
  by_cases hx:x=0
  ·refine za (ze [] hx ?_);refine zm (by simp[hx]) ?_;refine zh (zb ?_);exact zq 1 [] ⟨by omega,λ_=>hx,by omega⟩ DH (by simp[hx];rfl) rfl DI
  ·refine za (ze [] hx ?_);refine zn (by simp[hx]) ?_;refine DQ ?_;exact zg (zi hd DJ (by simp[hx,zp]))
 | 1,_,hk1,_ =>
  have hx:=hk1 DH;refine DQ ?_;refine za (zn DI ?_);refine zh (za (zj (DQ ?_)))
  by_cases hy:y=0
  ·refine za (ze [] hy ?_);refine zm (by simp[hy]) ?_;refine zh (zb ?_);exact zq 2 [] ⟨by omega,λ_=>hx,λ_=>hy⟩ DH (by simp[hy];rfl) rfl DI
  ·refine za (ze [] hy ?_);refine zn (by simp[hy]) ?_;refine DQ ?_;exact zg (zi hd DJ (by simp[hx,zp]))
 | 2,_,hk1,hk2 =>
  refine DQ ?_;refine za (zm DI ?_);refine zx (DQ ?_);exact zg (zi hd DJ (by simp[hk1 (by omega),hk2 (by omega),zp]))
theorem Znc(l:List Int)(i j:Fin l.length)(hn:l.length<=1048576):Pure prog 374 [I i.val,I j.val,.ip [L l]] (I (wR l i j)):=by
 obtain⟨a,tl,a1,a2,a3,e0⟩:=zJ rfl l i.val i.isLt;obtain⟨b,tl2,b1,b2,b3,e1⟩:=zJ rfl l j.val j.isLt;have hi:=i.isLt;have hj:=j.isLt;have ha:l.getD i.val 0=a:=by rw[Aa,a1];rfl
 have hb:l.getD j.val 0=b:=by rw[Aa,b1];rfl
 have hor:=Znb (uu a b) (uu i.val j.val);have hres:wR l i j=if uu a b=0 then uu (i.val:Int) j.val else uu a b:=by unfold wR;rw[ha,hb]
 rw[hres];refine zt func374 ntmps374 results374 λS nx hd=>?_
 refine DQ ?_;refine za (zz none (Row.pures [0,1,2,3,4,5,6,7,8,9,10,11,12,13,14] .done) mixed (zV hi hj e0 e1) ?_);refine zK (Zfz a b) (zV hi hj e0 e1) ?_;refine zK (Zfz i.val j.val) trivial ?_;refine zK (hor) trivial ?_;exact DR hd
theorem Zb8(l:List Int):l.flatMap Enc.enc=l.map I:=by induction l<;>simp_all
theorem Znd(l:List Int):∀p∈[PV.ip [L l]],Fz p:=by
 intro p hp;simp only[A3]at hp;subst hp;refine .ip λq hq=>?_
 simp only[A3]at hq;subst hq;refine .lst λr hr=>?_
 rw[Zb8]at hr;obtain⟨x,_,rfl⟩:=Al.1 hr;exact .sc _
def vx(n k:Nat):List Int:=(List.range n).map λi=>if i<k then (i:Int) else 0
theorem Zne(n k:Nat):(vx n k).length=n:=by simp[vx]
theorem Znf(n:Nat):vx n 0=List.replicate n 0:=by
 apply A6
 ·simp[vx]
 ·intro i h1 h2;simp[vx]
theorem Zng(n k:Nat)(h:k<n):(vx n k).set k (k:Int)=vx n (k+1):=by
 apply A6
 ·simp[vx]
 ·intro i h1 h2;rw[CR];simp only[vx,Cs,Cw]
  by_cases e:k=i
  ·subst e;rw[if_pos rfl,if_pos DH]
  ·rw[if_neg e]
   by_cases h3:i<k
   ·rw[if_pos h3,if_pos DH]
   ·rw[if_neg h3,if_neg DH]
theorem Znh(n:Nat):vx n n=(List.finRange n).map λx=>(x.val:Int):=by
 apply A6
 ·simp[vx]
 ·intro i h1 h2;have:i<n:=by simpa[vx] using h1
  simp[vx,this]
theorem ZfA{α:Type}(l:List α)(f:α->Int):(l.map f).flatMap Enc.enc=l.map λx=>I (f x):=by induction l<;>simp_all
theorem Zni(n:Nat):yS n (.int .i64 0)=(List.replicate n (0:Int)).flatMap Enc.enc:=by
 induction n with
 | zero=>simp
 | succ n ih=>rw[Qg,ih,BA];simp[jd,Value.cells]
theorem Znj(l:List Int)(k:Nat)(v:Int)(h:k<l.length):ye (l.flatMap Enc.enc) k [I v]=(l.set k v).flatMap Enc.enc:=by
 rw[Zb8,Zb8,ye,List.map_set,AF,if_pos (by simpa using h)];simp
theorem Znk(l:List Int)(hn:l.length<=1048576):Pure prog 366 [L l] (L (vY l)):=by
 have hE:qj prog 373:=qe func373 DM rfl;have hG:qj prog 374:=qe func374 DM rfl;refine zt func366 ntmps366 results366 λS nx hd=>?_
 refine DQ ?_;intro v0;refine DQ ?_;refine⟨by omega,λv1=>?_⟩
 repeat apply za
 refine zb ?_;refine zj (zD (λs:Nat=>s<=l.length) (λk=>[(1,.ptr nx v0 0),(3,.sl (nx+1) v1 1 0 l.length),(9,I l.length),(10,I k)]) (λk=>[.cells v0 26 [L l],.cells v1 3 ((vx l.length k).flatMap Enc.enc)]) (λs=>l.length-s) 0 [] DI DI (by simp[Znf,Zni]) ?_);rintro k hk;refine DQ ?_;refine za (zv rfl (λhc=>?_) (λhc=>?_))
 ·simp at hc;have hl1:=Zne l.length k;have hsp:=Znj (vx l.length k) k k DH;rw[Zng _ _ hc]at hsp;refine zh (za (zj (DQ ?_)));refine ze [] (zF hc hl1 hsp) ?_;refine⟨by omega,?_⟩;refine zb ?_;exact zq (k+1) [] hc DH (by simp[zu k (by omega)]) rfl DI
 ·simp at hc;obtain rfl:k=l.length:=DH
  refine zx ?_;rw[Znh,ZfA];refine xR 0 rfl ?_;refine DQ ?_
  by_cases h0:l.length=0
  ·obtain rfl:l=[]:=Au h0;refine λhsuf=>((Zm9 laysSlF6_f373 hE).mono ?_).v
   rintro _ _ rfl;refine⟨_,_,rfl,zG hsuf ?_⟩;refine yb 1 rfl ?_;refine DQ ?_;have hs0:vY []=[]:=Au (Zb0 []);exact zg (zi hd DJ (by rw[hs0];rfl))
  ·haveI:Inhabited (Fin l.length):=⟨⟨0,by omega⟩⟩
   have hs:=λS id ver hid=>Zna (S:=S) (id:=id) (ver:=ver) (e:=3) (val:=λi:Fin l.length=>(i.val:Int)) laysSlF6_f373 hE (List.finRange l.length) hid DL hG (Znd l) (wR l) (V2 l) (Zfs l) (λx y=>Znc l x y hn)
   rw[List.length_finRange]at hs;have hfl:=ZfA (Jh l) (λi=>(i.val:Int));have hsl:=Zb0 l;refine λhsuf=>((hs _ (nx+1) v1 (by rw[zQ];rfl)).mono ?_).v
   rintro _ _ rfl;refine⟨_,_,yc _ DH DI,?_⟩;rw[show (((List.finRange l.length).mergeSort λx y=>!(ltOf (wR l)) y x).map λx=>I (x.val:Int))=(vY l).flatMap Enc.enc from hfl.symm];refine jH [] (show nx+1-nx=1 from by omega) hsuf ?_;refine yb 1 rfl ?_;refine za (ze [] hsl ?_);exact zg (zi hd DJ (by simp[zp,hsl]))
open Go Hp
theorem Znl(x:Inst)(c:List Int)(a b:Int):jS x (c++[b]) a=jS x c a++(if b≠a then [⟨a,b,uv x a b⟩] else []):=by
 unfold jS
 by_cases h:b=a<;>simp[h]
theorem Znm(x:Inst)(c:List Int)(a:Int):(jS x c a).length<=c.length:=by
 unfold jS;rw[List.length_map];exact BC _ _
theorem Znn(l:List Pr)(p:Pr):qJ (l++[p])=qJ l++[-p.s]:=by simp[qJ]
theorem Zno(l:List Pr):(qJ l).length=l.length:=by simp[qJ]
theorem Znp(x:Inst)(c:List Int)(a:Int)(hx:qt x)(hc:c.length<=1048576)(hs:∀b∈c,qb b)(ha:qb a):Pure prog 347 [.agg (zy x),L c,I a] (L (wC x c a)):=by
 refine zt func347 ntmps347 results347 λS nx hd=>?_
 refine DQ ?_;intro v0;refine DQ ?_;refine za (jg 7 392 3 rfl λv1=>?_);refine zb ?_;refine za (jg 8 3 1 rfl λv2=>?_);refine DQ ?_;refine zj (zD (λs:Nat × List Pr × Nat × Nat=>s.1<=c.length/\s.2.1=jS x (c.take s.1) a) (λ(k,ps,v1,v2)=>[(1,L c),(2,I a),(3,.ptr nx v0 0),(7,.sl (nx+1) v1 3 0 ps.length),(8,.sl (nx+2) v2 1 0 ps.length),(15,L c),(16,I c.length),(17,I k)]) (λ(k,ps,v1,v2)=>[.cells v0 25 (zy x),.cells v1 392 (ps.flatMap Enc.enc),.cells v2 3 ((qJ ps).flatMap Enc.enc)]) (λs=>c.length-s.1) (0,[],v1,v2) [] (by simp[jS]) DI (by simp[qJ]) ?_);rintro⟨k,ps,v1,v2⟩ ⟨hk,ho⟩;simp only at hk ho ⊢;have hpl:ps.length<=k:=by rw[ho];refine AD (Znm _ _ _) ?_;simp;omega
 have hnl:=Zno ps;refine DQ ?_;refine za (zv rfl (λhq=>?_) (λhq=>?_))
 ·simp at hq;obtain⟨b,tl,a1,a2,a3,e0⟩:=zJ rfl c k hq;have hb:=hs b (Ab a1);have hsv:=Zb4 hx a b;have w5:IntKind.i64.wrap (-uv x a b)=-uv x a b:=wr _ DH DH;have hsn:=Znl x (c.take k) a b;rw[<-a3,<-ho]at hsn;refine zh (za (zj (za (ze [] (zo e0 hq) ?_))));refine DQ ?_;refine zv rfl (λhne=>?_) (λhne=>?_)
  ·simp at hne;rw[if_pos hne]at hsn;refine DQ ?_;refine zr (ZmV x a b hx ha hb) ?_;intro v3;refine DQ ?_;refine⟨by omega,?_⟩;have htk:List.take ps.length ((qJ ps).flatMap Enc.enc)=(qJ ps).flatMap Enc.enc:=by rw[<-hnl];exact ZkR _
   have hnf:((qJ ps).flatMap Enc.enc).length=ps.length:=by rw[jG,hnl]
   refine ze [] (zF w5 htk hnf) ?_;refine⟨by omega,?_⟩;refine zb ?_;exact zq (k+1,ps++[⟨a,b,uv x a b⟩],v1+1,v2+1) [_] ⟨hq,hsn.symm⟩ DL (by simp[zu k (by omega)]) rfl (by simp[Znn];rfl)
  ·simp at hne;rw[if_neg (by simp[hne]),AH]at hsn;refine zh (zb ?_);exact zq (k+1,ps,v1,v2) [] ⟨hq,hsn.symm⟩ DL (by simp[zu k (by omega)]) rfl DI
 ·simp at hq;obtain rfl:k=c.length:=DH
  rw[Ak]at ho;refine zx (yb 1 rfl ?_);refine yb 2 rfl ?_;refine DQ ?_;refine za (jg 12 392 3 rfl λv3=>?_);have hrw:wC x c a=(vY (qJ ps)).map (vZ ps):=by rw[ho];rfl
  rw[hrw];have hsl:=Zb0 (qJ ps);have hmem:∀z∈vY (qJ ps),0<=z/\z<ps.length:=λz h=>by have:=ZmD h;omega
  have hcall:=Znk (qJ ps) DH;rw[show L (qJ ps)=PV.lst ps.length ((qJ ps).flatMap Enc.enc) from by rw[<-hnl]]at hcall;generalize qJ ps=ns at *;refine za (ze [] hnl ?_);refine zr hcall ?_;generalize vY ns=is at *;refine zj (zD (λs:Nat × List Pr × Nat=>s.1<=is.length/\s.2.1=(is.take s.1).map (vZ ps)) (λ(k,os,v)=>[(7,L ps),(12,.sl (nx+3) v 3 0 os.length),(43,L is),(44,I is.length),(45,I k)]) (λ(k,os,v)=>[.cells v0 25 (zy x),.dead,.dead,.cells v 392 (os.flatMap Enc.enc)]) (λs=>is.length-s.1) (0,[],v3) [] DI (by simp[hnl]) DI ?_);rintro⟨k,os,v⟩ ⟨hk,ho2⟩;simp only at hk ho2 ⊢;refine DQ ?_;refine za (zv rfl (λhq=>?_) (λhq=>?_))
  ·simp at hq;obtain⟨i,tl,a1,a2,a3,e0⟩:=zJ rfl is k hq;obtain⟨q1,q2⟩:=hmem i (Ab a1);obtain⟨j,rfl⟩:∃j:Nat,i=j:=⟨i.toNat,by omega⟩;have hj:j<ps.length:=DH
   obtain⟨p,tp,b1,b2,b3,e1,e2⟩:=el 3 rfl ps j hj;have hg:vZ ps (j:Int)=p:=by simp[vZ,Aa,b1]
   have hgs:(is.take (k+1)).map (vZ ps)=os++[p]:=by rw[a3,ho2];simp[hg]
   have hgl:os.length=k:=by rw[ho2];simp;omega
   refine zh (za (zj (za (ze [] (zo e0 hq) ?_))));refine ze [] (zF e1 e2 hj) ?_;refine⟨by omega,?_⟩;refine zb ?_;exact zq (k+1,os++[p],v+1) [] ⟨hq,hgs.symm⟩ DL (by simp[zu k (by omega)]) rfl DI
  ·simp at hq;obtain rfl:k=is.length:=DH
   rw[Ak]at ho2;refine zx (yb 3 rfl ?_);refine DQ ?_;exact zg (zi hd DJ (by simp[zp,ho2]))
open Go Hp
@[simp] theorem ZyG(d1 d2 a b c:Ob)(l:List Ob)(o:Ob × Ob × Ob):Z0 (d1 :: d2 :: a :: b :: c :: l) 2 o=d1 :: d2 :: o.1 :: o.2.1 :: o.2.2 :: l:=rfl
theorem HX.srt{o:Ob × Ob × Ob}{a hv mv:Nat}{r:zM Int}(h:HX o a hv mv r):vX r:=by
 obtain⟨_,_,_,h⟩:=h (λi=>if i=a then o.1 else if i=a+1 then o.2.1 else o.2.2) DI DI DI;exact h
theorem Znq{id:Int}{r:zM Int}(h:∀x∈r,x.1≠id):j6 id r=false:=by grind[j6]
def WA(p:Pr):List PV:=[.agg [I p.a,I p.b,I p.s]]
def j7(x:Inst)(c:List Int)(k:Nat):List (List Pr):=(c.take k).map (wC x c)
theorem ZfB(x:Inst)(c:List Int):j7 x c 0=[]:=by simp[j7]
theorem Znr{x:Inst}{c:List Int}{k:Nat}{a:Int}(h:c.take (k+1)=c.take k++[a]):j7 x c (k+1)=j7 x c k++[wC x c a]:=by simp[j7,h]
theorem Zns(x:Inst)(c:List Int):j7 x c c.length=c.map (wC x c):=by simp[j7]
theorem ZfC(x:Inst)(c:List Int)(k:Nat)(h:k<=c.length):(j7 x c k).length=k:=by simp_all[j7]
def ux(rows:List (List Pr))(n:Nat):List PV:=rows.flatMap Enc.enc++List.replicate (n-rows.length) (.sc (.slice none 0 0))
theorem ZfD(rows:List (List Pr))(n:Nat)(h:rows.length<=n):(ux rows n).length=n:=by simp_all[ux]
theorem Znt(n:Nat):ux [] n=yS n (.slice none 0 0):=by
 unfold ux;simp only[Cn,AT,Ah,DG]
 induction n<;>simp_all[Qg,BA]
theorem Znu(rows:List (List Pr)):ux rows rows.length=rows.flatMap Enc.enc:=by simp[ux]
theorem Znv(rows:List (List Pr))(n:Nat)(r:List Pr)(h:rows.length<n):ye (ux rows n) rows.length [L r]=ux (rows++[r]) n:=by
 unfold ux ye;have h1:(rows.flatMap Enc.enc).length=rows.length:=jR rows;obtain⟨m,hm⟩:∃m,n-rows.length=m+1:=⟨n-rows.length-1,by omega⟩;rw[hm,BA];rw[BH DH,Af DH];rw[Cl,Ba DI];simp[h1,show n-(rows.length+1)=m by omega]
theorem Znw(rows:List (List Pr))(n:Nat)(r:List Pr):(ux (rows++[r]) n)[rows.length]?=some (L r):=by
 unfold ux;rw[Ar,List.append_assoc,Aj (by rw[jR];exact Ag _),jR];simp
theorem Znx(rows:List (List Pr))(k:Nat)(r:List Pr)(h:k<rows.length):ye (rows.flatMap Enc.enc) k [L r]=(rows.set k r).flatMap Enc.enc:=by
 have e:∀l:List (List Pr),l.flatMap Enc.enc=l.map λr=>L r:=λl=>by induction l<;>simp_all
 rw[e,e,ye,List.map_set,AF,if_pos (by simpa using h)];simp
theorem V7:∀(rows:List (List Pr)) (i:Nat) (r:List Pr),yN i (rows++[r])=yN i rows++yN (i+rows.length) [r]
 | [],i,r=>by simp[yN]
 | [] :: rows,i,r=>by
  simp only[List.cons_append,yN,Ad];rw[V7 rows (i+1) r,show i+1+rows.length=i+(rows.length+1) by omega]
 | (p :: l) :: rows,i,r=>by
  simp only[List.cons_append,yN,Ad];rw[V7 rows (i+1) r,show i+1+rows.length=i+(rows.length+1) by omega]
theorem Zny(rows:List (List Pr)):yN 0 (rows++[[]])=yN 0 rows:=by rw[V7];simp[yN]
theorem Znz(rows:List (List Pr))(p:Pr)(tl:List Pr):(yN 0 (rows++[p :: tl])).Perm (((rows.length:Int),-p.s) :: yN 0 rows):=by
 rw[V7];simp only[yN,AS];exact CN
theorem ZfE{rows:List (List Pr)}{k:Nat}(h:rows.getD k []=[]){r:zM Int}(hp:r.Perm (yN 0 rows)):j6 (k:Int) r=false:=by
 refine Znq λx hx e=>?_
 obtain⟨j,p,tl,hj,rfl⟩:=(Xi rows 0 x).1 (hp.subset hx);simp only[AS]at e;have:j=k:=DH
 subst this;rw[Aa,hj]at h;cases h
theorem ZnA(x:Inst)(ss:List Stop):Pure prog 331 [.agg (zy x),L ss] (.fn (.func 345) [] [.ip [L ss],.ip (zy x)]):=by
 refine zt func331 ntmps331 results331 λS nx hd=>?_
 refine DQ ?_;intro v0 v1;refine DQ ?_;refine xR 0 rfl ?_;refine xR 1 rfl ?_;exact DR hd
theorem ZnB(x:Inst)(ss:List Stop)(hx:qt x)(hss:ss.length<=1048576)(hs:∀s∈ss,qb s.c)(hnd:(ss.map (·.c)).Nodup):Qk prog 345 [.ip [L ss],.ip (zy x)] ((qT x (ss.map (·.c))).map WA):=by
 have hcust:=λS nx hd=>Wq ss hss S nx hd
 obtain⟨zs,hzs⟩:∃zs,zs=ss.map (·.c):=⟨_,rfl⟩;have hzl:ss.length=zs.length:=by rw[hzs];simp
 rw[<-hzs,hzl]at hcust;rw[<-hzs]at hnd ⊢;have hzsm:∀b∈zs,qb b:=by
  intro b hb;rw[hzs]at hb;obtain⟨s,h1,rfl⟩:=Al.1 hb;exact hs s h1
 have hz1:=Ws zs;have hz2:=Ze9 zs;have hz3:=(ZbO zs).2 hnd;have hz4:=Qm zs;have hz5:qT x zs=qT x (yP zs):=ZmL hnd hz3 hz2.symm;have hz6:(yP zs).Pairwise (· < ·):=(List.Pairwise.and hz1 hz3).imp λ⟨h1,h2⟩=>by omega
 have hzn:zs.length<=1048576:=DH
 have hcsm:∀b∈yP zs,qb b:=λb hb=>hzsm b (hz2.subset hb)
 have hsort:=λ(S:Store) (id ver:Nat) (hid:S id=.cells ver 3 (zs.flatMap Enc.enc))=>VY zs hid hzn
 rw[hz5];generalize yP zs=c at *;clear hzs hz1 hz5;refine Wl func345 DM rfl ntmps345 (congrArg Array.toList results345) DI λl V keep nx J hJd hY A0 hA0=>?_
 refine DQ ?_;refine λhsuf=>((hcust _ _ jF).mono ?_).v
 rintro _ _ ⟨v1,rfl,rfl⟩;refine⟨_,_,J8 _,jH [] Nat.add_assoc hsuf ?_⟩;refine DQ ?_;refine λhsuf=>((hsort _ _ _ DI).mono ?_).v
 rintro _ _ rfl;refine⟨_,_,yc _ DI DI,zG hsuf ?_⟩;rw[<-hz4];refine yb 1 rfl ?_;refine DQ ?_;refine λhsuf=>(Zmz.mono ?_).v
 rintro p _ ⟨hv,mv,o1,rfl,m1,rfl⟩;refine⟨_,_,rfl,zG hsuf ?_⟩;simp at m1;refine DQ ?_;refine⟨by omega,λv0=>?_⟩
 repeat apply za
 refine zb ?_;have hpw:∀(row:List Pr) (a:Int),row=wC x c a->∀p∈row,IntKind.i64.wrap (-p.s)=-p.s:=by
  intro row a e p hp;rw[e]at hp;have h1:=(Zb3 x c a).subset hp;unfold jS at h1;obtain⟨b,_,rfl⟩:=Al.1 h1;have:=Zb4 hx a b
  show IntKind.i64.wrap (-uv x a b)=-uv x a b
  exact wr _ DH DH
 refine zj (zD (λs:Nat × zM Int × (Ob × Ob × Ob) × Nat=>s.1<=c.length/\s.2.1.Perm (yN 0 (j7 x c s.1))/\HX s.2.2.1 (nx+2) hv mv s.2.1) (λ(k,its,o,v)=>[(0,jQ l),(2,.ip (zy x)),(4,L c),(5,.ptr (nx+3) hv 0),(6,.sl (nx+5) v 1 0 c.length),(21,L c),(22,I c.length),(23,I k)]) (λ(k,its,o,v)=>[.dead,.dead,o.1,o.2.1,o.2.2,.cells v 429 (ux (j7 x c k) c.length)]) (λs=>c.length-s.1) (0,[],o1,v0) [] ⟨by simp,by simp[ZfB,yN],m1⟩ DI (by simp[ZfB,Znt]) ?_);rintro⟨k,its,o,v⟩ ⟨hk,hp,hm⟩;simp only at hk hp hm ⊢;refine DQ ?_;refine za (zv rfl (λhq=>?_) (λhq=>?_))
 ·simp at hq;obtain⟨a,tl,a1,a2,a3,e0⟩:=zJ rfl c k hq;have hkl:=ZfC x c k DH;have hks:=Znr (x:=x) a3;have hput:=Znv (j7 x c k) c.length (wC x c a) DH;have hat:=Znw (j7 x c k) c.length (wC x c a);have hrl:=ZfD (j7 x c k) c.length DH;have hrl2:=ZfD (j7 x c k++[wC x c a]) c.length DL;rw[hkl]at hput hat;have hno:j6 (k:Int) its=false:=ZfE (k:=k) (rows:=j7 x c k) (by rw[Aa,An (by omega)];rfl) hp;have hil:its.length<=k:=by rw[hp.length_eq];exact AD (V5 _ _) DH
  refine zh (za (zj (za (ze [] (zo e0 hq) ?_))));refine DQ ?_;refine qm [] (Znp x c a hx DH hcsm (hcsm a (Ab a1))) (zF hput hrl hq) ?_;refine⟨by omega,?_⟩;have hw:=hpw (wC x c a) a rfl;have hsn:=Znz (j7 x c k);have hsn0:=Zny (j7 x c k);generalize hrow:wC x c a=row at *;have hat2:∀h,(ux (j7 x c k++[row]) c.length)[k]'h=L row:=λh=>(Ac.1 hat).2
  refine za (ze [] (zF hat2 hq hrl2) ?_);cases row with
  | nil =>
   refine zm rfl (zh (zb ?_));refine zq (k+1,its,o,v) [] ⟨hq,?_,hm⟩ DL (by simp[zu k (by omega)]) rfl (by simp[hks]);simp only[hks,hsn0];exact hp
  | cons p rl =>
   have hwp:=hw p DI;refine zn DI ?_;refine ze [] (zV hat2 hq hrl2 hwp) ?_;refine λhsuf=>((Zfr (j:=2) hm rfl rfl rfl (k:Int) (-p.s) DH).mono ?_).v
   rintro _ T ⟨rfl,o2,m2,rfl⟩;refine⟨_,_,rfl,?_⟩;rw[hno]at m2;simp only[cond_false]at m2;refine zG hsuf ?_;refine zb ?_;refine zq (k+1,ZZ ((k:Int),-p.s) its,o2,v) [] ⟨hq,?_,m2⟩ DL (by simp[zu k (by omega)]) rfl (by simp[hks]);simp only[hks];have:=hsn p rl;rw[hkl]at this;exact(Ww _ _).trans ((hp.cons _).trans this.symm)
 ·simp at hq;obtain rfl:k=c.length:=DH
  obtain⟨hb1,hb2,hb3⟩:=ZmT (x:=x) hz6;rw[<-Zns]at hb1 hb2 hb3;have hrl:=ZfC x c c.length (Ag _);have hrc:=Znu (j7 x c c.length);rw[hrl]at hrc;rw[hrc];generalize j7 x c c.length=rows at *;refine zx (zj (jt (σ:=Nat × Store × List (List Pr) × zM Int × (Ob × Ob × Ob) × Nat) (λs=>s.1<=(qT x c).length/\J s.1 s.2.1/\Rows' c s.2.2.1/\(∀r∈s.2.2.1,Sd wB r)/\s.2.2.1.flatten.Perm ((qT x c).drop s.1)/\s.2.2.2.1.Perm (yN 0 s.2.2.1)/\HX s.2.2.2.2.1 (nx+2) hv mv s.2.2.2.1) (λs=>[(0,jQ l),(5,.ptr (nx+3) hv 0),(6,.sl (nx+5) s.2.2.2.2.2 1 0 c.length)]) (λs=>s.2.1) (λs=>[.dead,.dead,s.2.2.2.2.1.1,s.2.2.2.2.1.2.1,s.2.2.2.2.1.2.2,.cells s.2.2.2.2.2 429 (s.2.2.1.flatMap Enc.enc)]) (λs=>(qT x c).length-s.1) (z8 (0,A0,rows,its,o,v) [] ⟨by simp,hA0,hb1,hb2,by simpa using hb3,hp,hm⟩ DI rfl DI) ?_));rintro⟨i,A,rows,its,o,v⟩ ⟨hi,hJ,hr1,hr2,hr3,hp,hm⟩;simp only at hi hJ hr1 hr2 hr3 hp hm ⊢;have hrl:rows.length=c.length:=hr1.len;have hs:=hm.srt;refine zj (za (jP [] DM DM λK Gc Gh hK hGc hGh X hX0 hX=>?_));simp -implicitDefEqProofs [hX0,hX]
  try clear hX0 hX X
  refine hGc _ _ _ _ _ _ _ λhsuf=>((Zmy (j:=2) hm rfl rfl rfl).mono ?_).v
  rintro _ T ⟨rfl,o2,m2,rfl⟩;refine⟨_,_,rfl,?_⟩;cases its with
  | nil =>
   clear hGc hGh;clear Gc Gh;refine jZ hsuf (D:=[]) DM λGc Gh hGc hGh X hX0 hX=>?_
   simp -implicitDefEqProofs [hX0,hX,Jg,zY,wO];clear hX0 hX X;refine hK _ _ _ ?_;clear hK hGc hGh;clear K Gc Gh;have h0:∀r∈rows,r=[]:=by
    intro r hr;cases r with
    | nil=>rfl
    | cons p tl =>
     obtain⟨j,hj⟩:=Bi.1 hr;have:=(Xi rows 0 ((j:Int),-p.s)).2 ⟨j,p,tl,hj,by rw[AS]⟩;rw[List.nil_perm.1 hp]at this;cases this
   have hfin:=ZmG hr3 hi h0
   repeat apply za
   refine ze [(2,61)] zN ?_;exact zn rfl (zg (uV (hJd _ _ hJ) rfl (by simpa[hfin] using hJ)))
  | cons it r =>
   obtain⟨q,y,tl,e1,e2,e3,e4,e5,e6,e7⟩:=ZmU hz6 hr1 hr2 hr3 hs hp.symm;subst e1;have hql:=(Ac.1 e2).1;have hql2:q<c.length:=DH
   obtain⟨y',tr,a1,a2,a3,e0⟩:=zJ rfl rows q hql;rw[e2]at a1;cases a1;have hil:=(Ac.1 e4).1;have hyx:((qT x c).map WA)[i]?=some (WA y):=by rw[Ai,e4];rfl
   clear hGc hGh;clear Gc Gh;refine jZ hsuf (D:=[]) DM λGc Gh hGc hGh X hX0 hX=>?_
   simp -implicitDefEqProofs [hX0,hX,Jg,zY,wO];clear hX0 hX X;refine hK _ _ _ ?_;clear hK hGc hGh;clear K Gc Gh
   repeat apply za
   refine ze [(2,61)] (zV e0 hql2 hrl zN) ?_;refine λhsuf=>J9 rfl rfl rfl (hY _ _ _ _ hyx hJ) ?_
   rintro _ ⟨A',hJ',rfl⟩;refine⟨_,_,rfl,jH [(2,61)] trivial hsuf ?_⟩;refine zm rfl (zh ?_);have hsp:=Znx rows q tl hql;have hrl2:(rows.set q tl).length=c.length:=by simp[hrl]
   have hql3:q<(rows.set q tl).length:=DH
   obtain⟨y',tr',a1,a2,a3,e0'⟩:=zJ rfl (rows.set q tl) q hql3;rw[AW hql]at a1;cases a1;have hno:j6 (q:Int) r=false:=ZfE (rows:=rows.set q []) (by rw[Aa,AW hql];rfl) e3;have hlen:r.length<=1048576:=by rw[e3.length_eq];exact AD (V5 _ _) DL
   have hperm:=λp tz=>V4 rows 0 q p tz hql
   refine za (ze [] (zV e0 hql2 hrl hsp) ?_);refine⟨by omega,?_⟩;refine za (ze [] (zF e0' hql2 hrl2) ?_);cases tl with
   | nil =>
    exact zm rfl (zh (zq (i+1,A',rows.set q [],r,o2,v) [] ⟨hil,hJ',e5,e6,e7,e3,m2⟩ DL DI rfl DI))
   | cons z tz =>
    have hzm:z∈(rows.set q (z :: tz)).flatten:=Bs.2 ⟨z :: tz,Ab (AW hql),by simp⟩;have hzp:z∈uX x c:=(Ji x c).subset (Cd (e7.subset hzm));have hzs:=(V3.1 hzp).2.2.2;have hwz:IntKind.i64.wrap (-z.s)=-z.s:=by
     rw[hzs];have:=Zb4 hx z.a z.b;exact wr _ DH DH
    refine zn DI ?_;refine ze [] (zV e0' hql2 hrl2 hwz) ?_;refine λhsuf=>((Zfr (j:=2) m2 rfl rfl rfl (q:Int) (-z.s) DL).mono ?_).v
    rintro _ T ⟨rfl,o3,m3,rfl⟩;refine⟨_,_,rfl,?_⟩;simp only[List.tail_cons]at m3;rw[hno]at m3;simp only[cond_false]at m3;refine zG hsuf ?_;refine zq (i+1,A',rows.set q (z :: tz),ZZ ((q:Int),-z.s) r,o3,v) [] ⟨hil,hJ',e5,e6,e7,?_,m3⟩ DL DI rfl DI;have:=hperm z tz;rw[AS]at this;exact(Ww _ _).trans ((e3.cons _).trans this.symm)
open Go Hp
theorem ZnC{x:Inst}{c:List Int}(h:c.Nodup)(hc:c.length<=1000):(qT x c).length<=1000000:=by
 rw[ZmI h];exact AD (Nat.mul_le_mul hc (Nat.sub_le _ _)) (B8 1000 hc)
open Go Hp
open Go Hp
def Qq(x:Inst)(ss:List Stop)(i:Nat):zk × Int:=((qT x (ss.map (·.c))).take i).foldl (q8 x) (ss.map λs=>[s],(ss.length:Int))
theorem ZnD(x:Inst)(ss:List Stop):Qq x ss 0=(ss.map λs=>[s],(ss.length:Int)):=by simp[Qq]
theorem ZnE{x:Inst}{ss:List Stop}{i:Nat}{p:Pr}(h:(qT x (ss.map (·.c)))[i]?=some p):Qq x ss (i+1)=q8 x (Qq x ss i) p:=by
 unfold Qq;obtain⟨h1,e⟩:=Ac.1 h;rw[AR h1,e,Bw];rfl
theorem ZnF(x:Inst)(ss:List Stop):Qq x ss (qT x (ss.map (·.c))).length=Zb5 x ss:=by simp[Qq,Zb5]
theorem ZnG(x:Inst)(T:zk)(num:Int)(p:Pr):num-1<=(q8 x (T,num) p).2/\(q8 x (T,num) p).2<=num:=by
 unfold q8 Wy;cases qu x (T,num).2 p (uY (T,num).1 p.a) (uY (T,num).1 p.b) ((T,num).1.getD (uY (T,num).1 p.a) []) ((T,num).1.getD (uY (T,num).1 p.b) [])<;>simp<;>omega
theorem ZnH(x:Inst)(ss:List Stop)(hx:qt x)(hxc:x.cust.length<=1048576)(hss:ss.length<=1000)(hs:∀s∈ss,qb s.c)(hnd:(ss.map (·.c)).Nodup):Pure prog 316 [.agg (zy x),L ss] (.agg [L (wS x ss)]):=by
 have hpl:=ZnC (x:=x) hnd (by simpa using hss);have hkey:KeyOk (.int .i64) qI:=Jf .i64;have hdist:∀k s,ss[k]?=some s->s.c ∉ (ss.take k).map (·.c):=by
  intro k s h hm;obtain⟨s',h1,h2⟩:=Al.1 hm;obtain⟨j,hj⟩:=Bi.1 h1;rw[By]at hj;split at hj
  ·rename_i hjk;have e1:(ss.map (·.c))[j]?=some s.c:=by rw[Ai,hj,<-h2];rfl
   have e2:(ss.map (·.c))[k]?=some s.c:=by rw[Ai,h];rfl
   obtain⟨g1,g2⟩:=Ac.1 e1;obtain⟨g3,g4⟩:=Ac.1 e2;exact Bv.1 hnd j k g1 g3 hjk (g2.trans g4.symm)
  ·cases hj
 refine zt func316 ntmps316 results316 λS nx hd=>?_
 refine DQ ?_;intro v0 v1;refine DQ ?_;intro v2 v3 v4;refine qQ 3 6 40 1 rfl rfl λv5=>?_
 repeat apply za
 refine zb ?_;refine zj (zD (λs:Nat × zk × List (Value × PV) × (Int->Option Int) × Nat=>s.1<=ss.length/\s.2.1=(ss.take s.1).map (λs=>[s])/\MapIs qI I s.2.2.1 s.2.2.2.1/\JI (ss.take s.1) s.2.1 s.2.2.2.1) (λ(k,T,es,g,v5)=>[(1,L ss),(2,.ptr nx v0 0),(4,.ptr (nx+1) v1 0),(5,.ptr (nx+4) v4 0),(18,L ss),(19,I ss.length),(20,I k)])
  (λ(k,T,es,g,v5)=>[.cells v0 25 (zy x),.cells v1 39 [.sc (.slice none 0 0)],.map v2 es,.cells v3 387 (Xj x (nx+5) v5 k ss.length (nx+2) v2),.cells v4 383 [.ptr (nx+3) v3 0],.cells v5 40 (T.flatMap Enc.enc)]) (λs=>ss.length-s.1) (0,[],[],λ_=>none,v5) [] ⟨by simp,by simp,Zfh _ _,by simpa using JI.nil⟩ DI DI ?_)
 rintro⟨k,T,es,g,v5⟩ ⟨hk,hT,hm,hI⟩;simp only at hk hT hm hI ⊢;have hTl:T.length=k:=by rw[hT];simp;omega
 refine DQ ?_;refine za (zv rfl (λhq=>?_) (λhq=>?_))
 ·simp at hq;obtain⟨s,tl,a1,a2,a3,e1,e0⟩:=el 2 rfl ss k hq;obtain⟨rs,f1,_,_,f4,_⟩:=hm.find hkey s.c;have hnew:=f4 (k:Int);have hIn:=hI.snoc s (hdist k s a1);have hkl:(ss.take k).length=k:=DL
  rw[hkl,<-a3]at hIn;have hTs:T++[[s]]=(ss.take (k+1)).map λs=>[s]:=by rw[a3,hT];simp
  have htf:(T.flatMap Enc.enc).take k=T.flatMap Enc.enc:=Af (by rw[jR];omega);have htl:(T.flatMap Enc.enc).length=k:=by rw[jR,hTl]
  refine zh (za (zj (za (ze [] (zF e1 e0 hq) ?_))));intro v6;refine za (zz (some [nx+4,nx+6]) (Row.pures [0,1,2,3,5,6,7] (.alt 4 (.alt 8 (Row.pures [9,10] (.alt 11 (.done) .stop)) .stop) .stop)) mixed (zo htf htl) ?_);refine⟨⟨by omega,by omega⟩,?_⟩;refine zz (some [nx+3,nx+4,nx+6]) (Row.pures [0,1,2,3,4,5,6] (.alt 7 (.done) .stop)) mixed trivial ?_;refine⟨by rfl,(Yy (.inl rfl) underlying384 underlying3 rfl rfl rfl DI f1 ?_)⟩;rw[yc _ DH DI,show nx+2-nx=2 from by omega];refine⟨by simp[yH],ju trivial ?_⟩;refine zb ?_;exact zq (k+1,T++[[s]],qM (qI s.c) (I k) es rs,qN g s.c (some (k:Int)),v5+1) [_] ⟨hq,hTs,hnew,hIn⟩ DL (by simp[zu k (by omega)]) rfl DJ
 ·simp at hq;obtain rfl:k=ss.length:=DH
  rw[Ak]at hT hI;refine zx ?_
  repeat apply za
  refine zb ?_;refine zr (ZnA x ss) ?_;refine zj (Ja (xs:=(qT x (ss.map (·.c))).map WA) (σ:=zk × Int × List (Value × PV) × (Int->Option Int)) (λi s=>(s.1,s.2.1)=Qq x ss i/\i<=(qT x (ss.map (·.c))).length/\MapIs qI I s.2.2.1 s.2.2.2/\JI ss s.1 s.2.2.2/\(ss.length:Int)-i<=s.2.1/\s.2.1<=ss.length) [(4,.ptr (nx+1) v1 0),(5,.ptr (nx+4) v4 0)] (λ_=>S)
   (λ(T,num,es,g)=>[.cells v0 25 (zy x),.cells v1 39 [.sc (.slice none 0 0)],.map v2 es,.cells v3 387 (Xj x (nx+5) v5 ss.length num (nx+2) v2),.cells v4 383 [.ptr (nx+3) v3 0],.cells v5 40 (T.flatMap Enc.enc)]) (T,(ss.length:Int),es,g)
   (ZnB x ss hx DH hs hnd) rfl (by intro x hx;obtain⟨y,_,rfl⟩:=Al.1 hx;rfl) DN DI ⟨by rw[ZnD,hT],by simp,hm,hI,by simp,by simp⟩ rfl DI DI ?_ ?_)
  ·clear hm hI hT hTl;rintro l i ⟨T,num,es,g⟩ more y ⟨hst,hi,hm,hI,hn1,hn2⟩ hy;simp only at hst hi hm hI hn1 hn2 ⊢;rw[Ai]at hy;obtain⟨p,hp,rfl⟩:=Ao.1 hy;obtain⟨hil,hpi⟩:=Ac.1 hp;have hmem:=V3.1 ((Ji x _).subset (Ab hp));have hsucc:=ZnE hp;rw[<-hst]at hsucc;obtain⟨nb1,nb2⟩:=ZnG x T num p;refine jP [] DM DM λK Gc Gh hK hGc hGh X hX0 hX=>?_
   simp -implicitDefEqProofs [hX0,hX,WA]
   try clear hX0 hX X
   intro v6;refine hK _ _ _ ?_;clear hK hGc hGh;clear K Gc Gh;refine zj (zb ?_);refine λhsuf=>((Zm3 x ss T g num es hxc hss DH hI hm (jid:=nx+3) (tid:=nx+5) (mid:=nx+2) (by rw[zQ];rfl) (by rw[zQ];rfl) (by rw[zQ];rfl) DH DH DH p hmem.1 hmem.2.1).mono ?_).v
   rintro _ _ ⟨es2,g2,m2,i2,rfl⟩;refine⟨_,_,(by rw[yc _ (by omega) (by simp),yc _ (by omega) (by simp),yc _ (by omega) (by simp)]),jH [] (zF (show nx+3-nx=3 from by omega) (show nx+5-nx=5 from by omega) (show nx+2-nx=2 from by omega)) hsuf ?_⟩;simp only[js];exact ww ((q8 x (T,num) p).1,(q8 x (T,num) p).2,es2,g2) [_] ⟨hsucc.symm,by omega,m2,i2,by simp only;omega,by simp only;omega⟩ rfl DJ
  ·clear hm hI hT hTl;rintro⟨T,num,es,g⟩ ⟨hst,-,hm,hI,-,-⟩;simp only[List.length_map]at hst hI ⊢;rw[ZnF]at hst;have hTl:=hI.len;have hjp:wS x ss=T.filter λt=>!t.isEmpty:=by unfold wS;rw[<-hst]
   rw[hjp];refine DQ ?_;intro v6;refine qQ 6 0 42 1 rfl rfl λv7=>?_
   repeat apply za
   refine zb ?_;refine zj (zD (λs:Nat × zk × Nat=>s.1<=T.length/\s.2.1=(T.take s.1).filter λt=>!t.isEmpty) (λ(k,out,v7)=>[(4,.ptr (nx+1) v1 0),(9,.ptr (nx+6) v6 0),(54,.sl (nx+5) v5 1 0 ss.length),(55,I ss.length),(56,I k)]) (λ(k,out,v7)=>[.cells v0 25 (zy x),.cells v1 39 [.sc (.slice none 0 0)],.map v2 es,.cells v3 387 (Xj x (nx+5) v5 ss.length num (nx+2) v2),.cells v4 383 [.ptr (nx+3) v3 0],.cells v5 40 (T.flatMap Enc.enc),.cells v6 39 [.sl (nx+7) v7 1 0 out.length],.cells v7 42 (out.flatMap Enc.enc)]) (λs=>T.length-s.1) (0,[],v7) [] ⟨by simp,by simp⟩ DI DI ?_);rintro⟨k,out,v7⟩ ⟨hk,ho⟩;simp only at hk ho ⊢;have hol:out.length<=k:=by rw[ho];exact AD (BC _ _) DL
   refine DQ ?_;refine za (zv rfl (λhq=>?_) (λhq=>?_))
   ·simp at hq;obtain⟨t,tl,a1,a2,a3,e0⟩:=zJ rfl T k DH;have hfs:(T.take (k+1)).filter (λt=>!t.isEmpty)=out++(if t=[] then [] else [t]):=by
     rw[a3,B3,<-ho];cases t<;>simp
    refine zh (za (zj (za (ze [] (zF e0 hq hTl) ?_))));refine DQ ?_;cases t with
    | nil =>
     rw[if_pos rfl,AH]at hfs;refine zm DI ?_;refine zh (zb ?_);exact zq (k+1,out,v7) [] ⟨by omega,hfs.symm⟩ DL (by simp[zu k (by omega)]) rfl DI
    | cons s t =>
     rw[if_neg DI]at hfs;refine zn DI ?_;refine zb ?_;refine⟨by omega,?_⟩;refine zb ?_;exact zq (k+1,out++[s :: t],v7+1) [] ⟨by omega,hfs.symm⟩ DL (by simp[zu k (by omega)]) rfl DI
   ·simp at hq;obtain rfl:k=T.length:=DH
    rw[Ak]at ho;refine zx (yb 7 rfl ?_);refine DQ ?_;exact zg (zi hd DJ (by simp[zp,ho]))
open Go Hp
abbrev yq:PV:=.sc (.slice none 0 0)
open Go Hp
def Jk(pl:PV):Prop:=pl=yq\/∃n cs,pl=.lst n cs
theorem Jl(l:List Stop):Jk (L l):=.inr ⟨_,_,rfl⟩
abbrev Xk(x:Inst)(b:Int):PV:=.fn (.func 312) [] [.ip (zy x),.ip [I b]]
abbrev fsL(x:Inst)(pl:PV)(b:Int):List PV:=[.fn (.func 313) [] [.ip [pl]],.fn (.func 315) [] [.ip [Xk x b],.ip (zy x),.ip [pl]],.fn (.func 317) [] [.ip [Xk x b],.ip [pl]],.fn (.func 318) [] [.ip (zy x),.ip [pl],.ip [Xk x b]]]
theorem ZnI(x:Inst)(pl:PV)(b:Int)(hp:Jk pl):Pure prog 285 [.agg (zy x),pl,I b] (.fn (.func 320) [] [.ip [.lst 4 (fsL x pl b)]]):=by
 rcases hp with rfl | ⟨n,cs,rfl⟩
 all_goals
  refine zt func285 ntmps285 results285 λS nx hd=>?_
  refine DQ ?_;intro v0 v1 v2;refine xR 0 rfl ?_;refine xR 1 rfl ?_;refine xR 2 rfl ?_;refine DQ ?_;intro v3;refine xR 3 rfl ?_;refine DQ ?_;intro v4;refine xR 4 rfl ?_;refine DQ ?_;exact DR hd
theorem ZnJ(pl:PV)(d:zk)(hp:Jk pl)(hA:Pure prog 314 [pl] (.agg [L d])):Pure prog 313 [.ip [pl]] (.tup [.agg [L d],B true]):=by
 rcases hp with rfl | ⟨n,cs,rfl⟩
 all_goals
  refine zt func313 ntmps313 results313 λS nx hd=>?_
  refine DQ ?_;intro v0;refine DQ ?_;refine zr hA ?_;exact DR hd
theorem Zca(x:Inst)(b:Int)(d e:zk)(n:Int)(hI:Pure prog 252 [.agg (zy x),.agg [L d],I b] (.tup [.agg [L e],I n])):Pure prog 312 [.agg [L d],.ip (zy x),.ip [I b]] (.agg [L e]):=by
 refine zt func312 ntmps312 results312 λS nx hd=>?_
 refine DQ ?_;intro v0 v1;refine DQ ?_;refine zr hI ?_;refine DQ ?_;exact DR hd
theorem ZnK(x:Inst)(pl:PV)(b:Int)(d e:zk)(n:Int)(hp:Jk pl)(hJ:Pure prog 316 [.agg (zy x),pl] (.agg [L d]))(hI:Pure prog 252 [.agg (zy x),.agg [L d],I b] (.tup [.agg [L e],I n])):Pure prog 315 [.ip [Xk x b],.ip (zy x),.ip [pl]] (.tup [.agg [L e],B true]):=by
 have hF:=Zca x b d e n hI;rcases hp with rfl | ⟨n,cs,rfl⟩
 all_goals
  refine zt func315 ntmps315 results315 λS nx hd=>?_
  refine DQ ?_;intro v0;refine za (zz (some []) (Row.pures [0,1,2,3,4] (.alt 5 (Row.pures [6] .done) .stop)) mixed trivial ?_);refine zK (hJ) trivial ?_;refine zK (hF) trivial ?_;exact DR hd
theorem ZnL(x:Inst)(pl:PV)(b:Int)(d e:zk)(n:Int)(hp:Jk pl)(hA:Pure prog 314 [pl] (.agg [L d]))(hI:Pure prog 252 [.agg (zy x),.agg [L d],I b] (.tup [.agg [L e],I n])):Pure prog 317 [.ip [Xk x b],.ip [pl]] (.tup [.agg [L e],B true]):=by
 have hF:=Zca x b d e n hI;rcases hp with rfl | ⟨n,cs,rfl⟩
 all_goals
  refine zt func317 ntmps317 results317 λS nx hd=>?_
  refine DQ ?_;intro v0;refine za (zz (some []) (Row.pures [0,1,2,3] (.alt 4 (Row.pures [5] .done) .stop)) mixed trivial ?_);refine zK (hA) trivial ?_;refine zK (hF) trivial ?_;exact DR hd
theorem ZfF(x:Inst)(pl:PV)(b:Int)(d e:zk)(ok:Bool)(n:Int)(hp:Jk pl)(hR:Pure prog 319 [.agg (zy x),pl] (.tup [.agg [L d],B ok]))(hI:ok=true->Pure prog 252 [.agg (zy x),.agg [L d],I b] (.tup [.agg [L e],I n])):
  Pure prog 318 [.ip (zy x),.ip [pl],.ip [Xk x b]] (.tup [.agg [bif ok then L e else yq],B ok]):=by
 rcases hp with rfl | ⟨n,cs,rfl⟩
 all_goals
  cases ok with
  | false =>
   refine zt func318 ntmps318 results318 λS nx hd=>?_
   refine DQ ?_;intro v0;refine DQ ?_;refine zr hR ?_;intro v1
   repeat apply za
   refine zb ?_;refine zn rfl (DQ ?_);exact DR hd
  | true =>
   have hF:=Zca x b d e _ (hI rfl);refine zt func318 ntmps318 results318 λS nx hd=>?_
   refine DQ ?_;intro v0;refine DQ ?_;refine zr hR ?_;intro v1
   repeat apply za
   refine zb ?_;refine zm rfl (zh (DQ ?_));refine zr hF ?_;exact DR hd
theorem ZnM(fs:List PV)(rs:List (Option zk))(hl:rs.length=fs.length)(hn:fs.length<=1000)
  (h:∀(k:Nat) f,fs[k]?=some f->∃fk caps p,f=.fn (.func fk) [] caps/\Pure prog fk caps (.tup [.agg [p],B (rs.getD k none).isSome])/\∀d,rs.getD k none=some d->p=L d) :
  Qk prog 320 [.ip [.lst fs.length fs]] ((rs.filterMap id).map λd=>[.agg [L d]]):=by
 refine Wl func320 DM rfl ntmps320 (congrArg Array.toList results320) DI λl V keep nx J hJd hY A0 hA0=>?_
 refine DQ ?_;refine zj (jt (σ:=Nat × Store) (λs=>s.1<=fs.length/\J ((rs.take s.1).filterMap id).length s.2) (λs=>[(0,jQ l),(7,.lst fs.length fs),(8,I fs.length),(9,I s.1)]) (λs=>s.2) (λs=>[]) (λs=>fs.length-s.1) (z8 (0,A0) [] (by simp[hA0]) DI rfl DI) ?_);rintro⟨k,A⟩ ⟨hk,hJ⟩;simp only at hk hJ ⊢;refine DQ ?_;refine za (zv rfl (λhc=>?_) (λhc=>?_))
 ·simp at hc;have e0:fs.drop k=fs[k] :: fs.drop (k+1):=AM hc;obtain⟨fk,caps,p,hf,hP,hd⟩:=h k fs[k] (Ae hc);rw[hf]at e0;have hkr:k<rs.length:=DH
  have htk:rs.take (k+1)=rs.take k++[rs[k]]:=AR hkr;have hg:rs.getD k none=rs[k]:=by rw[Aa,Ae hkr];rfl
  rw[hg]at hP hd;refine zh (za (zj (za (ze [] (zo e0 hc) ?_))));cases hr:rs[k] with
  | none =>
   rw[hr]at hP htk;simp only[C7]at hP;have hlen:((rs.take (k+1)).filterMap id).length=((rs.take k).filterMap id).length:=by rw[htk];simp
   refine DQ ?_;refine zr hP ?_;intro v0;refine za (ze [(1,19)] zN ?_);refine zm rfl (zh (zb ?_));exact zq (k+1,A) [_] ⟨hc,by rw[hlen];exact hJ⟩ DL (by simp[zu k (by omega)]) rfl DJ
  | some d =>
   obtain rfl:=hd d hr;rw[hr]at hP htk;simp only[Option.isSome_some]at hP;have hlen:((rs.take (k+1)).filterMap id).length=((rs.take k).filterMap id).length+1:=by rw[htk];simp
   have hx:((rs.filterMap id).map λd=>[PV.agg [L d]])[((rs.take k).filterMap id).length]?=some [PV.agg [L d]]:=by
    have e1:rs.filterMap id=(rs.take k).filterMap id++(d :: (rs.drop (k+1)).filterMap id):=by
     conv=>lhs;rw[<-List.take_append_drop k rs,AM hkr,hr]
     simp
    rw[Ai,e1,Aj (Ag _),Bp];rfl
   refine DQ ?_;refine zr hP ?_;intro v0;refine za (ze [(1,19)] trivial ?_);refine λhsuf=>J9 rfl rfl rfl (hY _ _ _ _ hx hJ) ?_
   rintro _ ⟨A',hJ',rfl⟩;refine⟨_,_,rfl,jH [(1,19)] trivial hsuf ?_⟩;refine zm rfl (zh (zb ?_));exact zq (k+1,A') [_] ⟨hc,by rw[hlen];exact hJ'⟩ DL (by simp[zu k (by omega)]) rfl DJ
 ·simp at hc;obtain rfl:k=fs.length:=DH
  rw[<-hl,Ak]at hJ;refine zx (uV (hJd _ _ hJ) rfl ?_);simpa using hJ
def vy(x:Inst)(st:zk × Int × Bool)(d:zk):zk × Int × Bool:=if yr x d=0 then (if st.2.2=false\/W (yn x d)<st.2.1 then (d,W (yn x d),true) else st) else st
def Qr(x:Inst)(ds:List zk):zk × Int × Bool:=ds.foldl (vy x) ([],0,false)
open Go Hp
theorem ZnN{K:(Nat->PV)->Store->Prop}{Q:Exit->(Nat->PV)->Store->Prop}{i:Nat}{F:Nat->PV}{S:Store}(h:Q (.exit i) F S):Yu K Q (.exit i) F S:=h
theorem ZnO{Q:Exit->(Nat->PV)->Store->Prop}{i:Nat}{F:Nat->PV}{S:Store}(h:Q .normal F S):js i Q (.exit i) F S:=by simp[js,h]
def vz(x:Inst)(e:Int)(ds:List zk):zk × Int:=if e=0 then (bif (Qr x ds).2.2 then ((Qr x ds).1,0) else ([],14)) else ([],e)
theorem ZfG(x:Inst)(pl:PV)(b e:Int)(ds:List zk)(hp:Jk pl)(hx:x.cust.length<=1048576)(hF:Pure prog 284 [.agg (zy x),pl] (I e))
  (hit:e=0->Qk prog 320 [.ip [.lst 4 (fsL x pl b)]] (ds.map λd=>[.agg [L d]])) (hds:e=0->∀d∈ds,DayOk d/\d.flatten.length<=1048576) :
  Pure prog 249 [.agg (zy x),pl,I b] (.tup [.agg [L (vz x e ds).1],I (vz x e ds).2]):=by
 have hT:=ZnI x pl b hp;refine zt func249 ntmps249 results249 λS nx hd=>?_
 refine DQ ?_;intro v0 v1
 repeat apply za
 refine zb ?_;refine zr hF ?_
 by_cases he:e=0
 case neg =>
  refine DQ ?_;refine zn (by simp[he]) ?_;refine DQ ?_;refine qk 1 0 rfl rfl ?_;exact zg (zi hd DJ (by simp[vz,he,zp]))
 subst he;have hit:=hit rfl;have hds:=hds rfl;refine DQ ?_;refine zm DI ?_;refine zh (DQ ?_);intro v2 v3 v4;refine qk 2 0 rfl rfl ?_
 repeat apply za
 refine zb ?_;refine zr hT ?_;refine zj (Ja (xs:=ds.map λd=>[PV.agg [L d]]) (σ:=zk × Int × Bool) (λi s=>s=(ds.take i).foldl (vy x) ([],0,false)/\i<=ds.length) [(3,.ptr nx v0 0),(6,.ptr (nx+1) v1 0),(7,I 0),(9,.ptr (nx+2) v2 0),(10,.ptr (nx+3) v3 0),(11,.ptr (nx+4) v4 0)] (λ_=>S)
  (λ(best,least,found)=>[.cells v0 25 (zy x),.cells v1 39 [yq],.cells v2 39 [L best],.cells v3 3 [I least],.cells v4 4 [B found]]) ([],0,false)
  hit rfl (by intro x hx;obtain⟨y,_,rfl⟩:=Al.1 hx;rfl) DN DI ⟨by simp,by simp⟩ rfl DI DI ?_ ?_)
 ·rintro l i ⟨best,least,found⟩ more y ⟨hst,hi⟩ hy;simp only at hst hi ⊢;rw[Ai]at hy;obtain⟨d,hd',rfl⟩:=Ao.1 hy;obtain⟨hil,hdi⟩:=Ac.1 hd';obtain⟨hdo,hdf⟩:=hds d (Ab hd');have hday:=ZbP x d hx hdo.1 hdo.2 hdf;have hcost:=Xh x d hdo;have hsucc:(ds.take (i+1)).foldl (vy x) ([],0,false)=vy x (best,least,found) d:=by
   rw[AR hil,hdi,Bw,<-hst];rfl
  unfold vy at hsucc;simp only at hsucc;refine zb ?_;intro v5;refine zj ?_
  repeat apply za
  refine zb ?_;refine zr hday ?_
  by_cases h1:yr x d=0
  ·rw[if_pos h1]at hsucc;refine zm (by simp[h1]) ?_;refine zh (DQ ?_);refine zr hcost ?_;generalize W (yn x d)=c at *;cases found with
   | false =>
    rw[if_pos (.inl rfl)]at hsucc;refine za (ze [(2,36)] zN ?_);refine zn rfl (zb ?_);simp only[js];exact ww (d,c,true) [_] ⟨hsucc.symm,by omega⟩ rfl DJ
   | true =>
    by_cases h2:c<least
    ·rw[if_pos (.inr h2)]at hsucc;refine za (ze [(2,36)] (zo h2 zN) ?_);refine zn rfl (zb ?_);simp only[js];exact ww (d,c,true) [_] ⟨hsucc.symm,by omega⟩ rfl DJ
    ·rw[if_neg (by simp[h2])]at hsucc;refine za (ze [(2,36)] (zo h2 zN) ?_);refine zm rfl (zh ?_);simp only[js];exact ww (best,least,true) [_] ⟨hsucc.symm,by omega⟩ rfl DJ
  ·rw[if_neg h1]at hsucc;refine zn (by simp[h1]) ?_;refine zx (ZnN (ZnO ?_));exact ww (best,least,found) [_] ⟨hsucc.symm,by omega⟩ rfl DJ
 ·rintro⟨best,least,found⟩ ⟨hst,-⟩;simp only[List.length_map,Ak]at hst ⊢;have hz:Qr x ds=(best,least,found):=hst.symm;cases found with
  | false =>
   repeat apply za
   refine zb ?_;refine zn rfl (DQ ?_);refine qk 1 0 rfl rfl ?_;exact zg (zi hd DJ (by simp[vz,hz,zp]))
  | true =>
   repeat apply za
   refine zb ?_;refine zm rfl (zh (DQ ?_));exact zg (zi hd DJ (by simp[vz,hz,zp]))
open Go Hp
theorem ZfH(lk:List PV)(s:Stop)(hl:lk.length=13):Pure prog 336 [.agg lk,.agg [I s.c,I s.q]] (.fn (.func 352) [] [.ip [I s.c,I s.q],.ip lk]):=by
 refine zt func336 ntmps336 results336 λS nx hd=>?_
 refine za (ze [] hl ?_);intro v0 v1;refine DQ ?_;refine xR 0 rfl ?_;refine xR 1 rfl ?_;exact DR hd
open Go Go.Lib Go.Proofs
theorem Jm:ElemOk prog 40 100 (.agg #[.int .i64 0,.int .i64 0]) 16 :=
 ⟨underlying40,by simp,by simp,by simp,by simp,by omega⟩
theorem ZfI(a:Addr)(n c:Nat)(w W2:World)(u:Value)(hrz:∀ty,(Builtin.append_ #[40,40] ty #[.slice (some ⟨w.heap.size,0,none⟩) 0 0,.slice (some a) n c]).run prog (w.alloc (.cells #[] 100))=.ok u W2):
  Calls prog 290 #[.slice (some a) n c] w λe w'=>e=.returned u/\w'=W2:=by
 have mixed:prog.follows .mixedOrders=true:=DK
 have q22:∀(w:World) (a:Option Addr) (n c n' c':Nat),(binOp .eql 40 (.slice a n c) (.slice none n' c')).run prog w=.ok (.bool a.isNone) w:=λw a n c n' c'=>Lib.run_eql_slice_nil w _ _ a n c n' c' underlying40
 go_enter func290,ntmps290
 go_wp2_with (at_builtin;refine Lib.wpList_append_run _ rfl _ _ _ _ rfl _ _ rfl rfl _ _ (hrz _) ?_)
 go_wp2
 go_ret
 exact⟨rfl,rfl⟩
theorem ZnP(n c:Nat)(w:World):
  Calls prog 290 #[.slice none n c] w λe w'=>e=.returned (.slice none 0 0)/\w'=w:=by
 have mixed:prog.follows .mixedOrders=true:=DK
 have q22:∀(w:World) (a:Option Addr) (n c n' c':Nat),(binOp .eql 40 (.slice a n c) (.slice none n' c')).run prog w=.ok (.bool a.isNone) w:=λw a n c n' c'=>Lib.run_eql_slice_nil w _ _ a n c n' c' underlying40
 go_enter func290,ntmps290
 go_wp2
 go_ret
 exact⟨rfl,rfl⟩
theorem Zcb(l:List Stop)(h0:0<l.length)(hn:l.length<=1048576)(S:Store)(nx:Nat)(hd:S nx=.dead):
  Spec prog 290 [L l] S (λp S'=>∃v,p=.sl nx v 2 0 l.length/\S'=S.set nx (.cells v 100 (l.flatMap Enc.enc))):=by
 refine⟨qe func290 DM rfl,?_⟩;intro C w vs hS hl hr;obtain⟨u,rfl⟩:=ZbL hl;have hu:Rel C S w (.lst l.length (l.flatMap Enc.enc)) u:=hr 0 _ u rfl rfl;obtain⟨a,cap,rfl⟩:∃a cap,u=.slice (some a) l.length cap:=by
  generalize hq:l.flatMap Enc.enc=cs at hu;generalize l.length=n at *;cases hu with
  | lst0=>omega
  | lst1=>exact⟨_,_,rfl⟩
 obtain⟨k1,j1,m1⟩:=hS.alloc (.cells #[] 100);have hc:prog.cellsOf 100=2:=DI
 obtain⟨news,hsrc,hrel,_⟩:=VF (P:=prog) (sz:=2) (m:=l.length) (ds:=l.flatMap Enc.enc) k1 (by simp[ZO]) (hu.mono j1);rw[<-hc]at hsrc;have hrun:=λty=>VE (P:=prog) (ty:=ty) (b:=some ⟨w.heap.size,0,none⟩) (k:=0) (cap:=0) (olds:=[]) Jm.ty Jm.pos Jm.zero Jm.bytes hsrc (run_firstCells_some _ _ 0 ⟨w.heap.size,0,none⟩ 0 0 [] DI DI) DH DH Jm.bpos
 simp only[AS]at hrun;refine(ZfI a l.length cap w _ _ hrun).mono ?_;rintro e w' ⟨rfl,rfl⟩;have hge:=grownCap_ge (w.alloc (.cells #[] 100)) l.length 0 100;obtain⟨d1,d2⟩:=k1.drew;have hfr:Fresh C S nx C.clock:=.clock C hd;have hra:=JX (cs:=[]) (vs:=[]) (by simp[RelL]) hrel (Builtin.zeroCells (Value.agg #[.int .i64 0,.int .i64 0]).cells (grownCap (w.alloc (.cells #[] 100)) l.length 0 100-l.length)).toList;simp only[AT]at hra;have hget:∀i:Nat,(([]:List Value).toArray++news.toArray++Builtin.zeroCells (Value.agg #[.int .i64 0,.int .i64 0]).cells (grownCap (w.alloc (.cells #[] 100)) l.length 0 100-l.length):Array Value)[i]?=(news++(Builtin.zeroCells (Value.agg #[.int .i64 0,.int .i64 0]).cells (grownCap (w.alloc (.cells #[] 100)) l.length 0 100-l.length)).toList)[i]?:=by
  intro i;rw[<-Array.getElem?_toList];simp
 obtain⟨t1,t2⟩:=d1.object' hfr 100 (([]:List Value).toArray++news.toArray++Builtin.zeroCells (Value.agg #[.int .i64 0,.int .i64 0]).cells (grownCap (w.alloc (.cells #[] 100)) l.length 0 100-l.length)) (l.flatMap Enc.enc) (by have:=hra.1;simp at this ⊢;omega) (λi v hi hv=>hra.2.1 i v hi (by rw[<-hget];exact hv)) (λi p v hp hv=>(hra.2.2 i p v hp (by rw[<-hget];exact hv)).mono d2);refine⟨_,_,_,_,rfl,⟨C.clock,rfl,rfl⟩,We C S _ _ _ _ _ _ _ _ _ rfl hge (AD hn (by unfold jE;omega)) (grownCap_le_maxLen _ _ _ _ (by unfold maxLen;omega)) ?_,t1,j1.trans (d2.trans t2)⟩;have:=hsrc.size;simp only[Ci,size_zeroCells,BJ,this,hc];simp[Value.cells];omega
theorem V8(l:List Stop)(hn:l.length<=1048576):Pure prog 290 [L l] (L l):=by
 by_cases h0:0<l.length
 ·exact VN 0 (λS nx hd=>Zcb l h0 hn S nx (hd nx (Ag _))) DI
 ·obtain rfl:l=[]:=Au DH;intro S;refine⟨qe func290 DM rfl,?_⟩;intro C w vs hS hl hr;obtain⟨u,rfl⟩:=ZbL hl;have hu:Rel C S w (.lst 0 []) u:=hr 0 _ u rfl rfl;obtain⟨a,cap,rfl⟩:∃a cap,u=.slice a 0 cap:=by
   cases hu with
   | lst0=>exact⟨_,_,rfl⟩
   | lst1=>exact⟨_,_,rfl⟩
  cases a with
  | none =>
   refine(ZnP 0 cap w).mono ?_;rintro e w' ⟨rfl,rfl⟩;exact⟨_,_,_,_,rfl,⟨rfl,rfl⟩,.lst0,hS,.refl _ _ _⟩
  | some a =>
   obtain⟨k1,j1,m1⟩:=hS.alloc (.cells #[] 100);have hc:prog.cellsOf 100=2:=DI
   obtain⟨news,hsrc,hrel,_⟩:=VF (P:=prog) (sz:=2) (m:=0) (ds:=[]) k1 (by simp[ZO]) (hu.mono j1);have hne:news=[]:=Au (by rw[hsrc.size,CM]);subst hne;rw[<-hc]at hsrc;have hrun:=λty=>Zbn (P:=prog) (ty:=ty) (b:=some ⟨w.heap.size,0,none⟩) (k:=0) (cap:=0) Jm.ty Jm.pos hsrc (Ag 0)
   refine(ZfI a 0 cap w _ _ hrun).mono ?_;rintro e w' ⟨rfl,rfl⟩;exact⟨_,_,_,_,rfl,⟨rfl,rfl⟩,.lst0,k1,j1⟩
theorem ZnQ{S:Store}{id ver:Nat}(cs:List Stop)(s:Stop)(hn:cs.length<=1000000)(hid:S id=.cells ver 100 (cs.flatMap Enc.enc)):
  Spec prog 338 [.sl id ver 2 0 cs.length,I cs.length,L [s]] S (λp S'=>p=.sl id (ver+1) 2 0 (cs.length+1)/\S'=S.set id (.cells (ver+1) 100 ((cs++[s]).flatMap Enc.enc))):=by
 refine yi func338 ntmps338 results338 λnx hd=>?_
 have hlt:id<nx:=by
  rcases Bh id nx with h | h
  ·exact h
  ·have:=hd id h;rw[hid]at this;cases this
 have hx:=λobs=>(zB (S:=S) (obs:=obs) hlt).trans hid
 have hlt1:¬nx<=id:=DH
 refine za (ze [] hx ?_);refine za (ze [] hx ?_);refine za (ze [] hx ?_)
 repeat apply za
 refine ze [] hx ?_;refine zm rfl (zh (za (ze [] hx ?_)))
 repeat apply za
 refine ze [] hx ?_;refine zn rfl (za (ze [] (zo hx hlt1) ?_));refine⟨by omega,?_⟩;have hdd:∀(o:Ob),zW nx (S.set id o):=by
  intro o q hq;rw[q10 _ _ _ _ DH];exact hd q hq
 exact zg ⟨_,_,by simp;rfl,⟨by simp[zp],by simp⟩,zR (hdd _)⟩
theorem ZnR{S:Store}{id ver:Nat}(cs:List Stop)(i:Nat)(s:Stop)(hi:i<=cs.length)(hn:cs.length<=1000000)(hid:S id=.cells ver 100 (cs.flatMap Enc.enc)):
  Spec prog 338 [.sl id ver 2 0 cs.length,I i,L [s]] S (λp S'=>p=.sl id (ver+1) 2 0 (cs.length+1)/\S'=S.set id (.cells (ver+1) 100 ((cs.take i++s :: cs.drop i).flatMap Enc.enc))):=by
 by_cases h:i=cs.length
 ·subst h;rw[Ak,B5];exact ZnQ cs s hn hid
 ·exact ZlQ cs i s DH hn hid
open Go Go.Proofs
def Jn(d:zk)(t nx:Nat)(k:Nat)(ts:List PV)(ob:Ob):Prop :=
 ts.length=k/\(k<=t->ts=(d.take k).flatMap Enc.enc/\ob=.dead) /\
 (t<k->∃v l,d[t]?=some l/\ts=((d.take k).flatMap Enc.enc).set t (.sl (nx+4) v 2 0 l.length)/\ob=.cells v 100 (l.flatMap Enc.enc))
theorem ZnS{d:zk}{t nx k:Nat}{ts:List PV}{ob:Ob}(h:Jn d t nx k ts ob)(hk:k<d.length)(ht:k≠t):Jn d t nx (k+1) (ts++[L d[k]]) ob:=by
 obtain⟨h1,h2,h3⟩:=h;have e:d.take (k+1)=d.take k++[d[k]]:=AR hk;refine⟨by simp[h1],λhkt=>?_,λhkt=>?_⟩
 ·obtain⟨a,b⟩:=h2 DH;exact⟨by rw[e,a,Ar];rfl,b⟩
 ·obtain⟨v,l,a,b,c⟩:=h3 DH;refine⟨v,l,a,?_,c⟩;rw[b,e,Ar,List.set_append_left _ _ (by rw[jR];simp;omega)];rfl
theorem ZnT{d:zk}{t nx:Nat}{ts:List PV}{ob:Ob}(h:Jn d t nx t ts ob)(hk:t<d.length)(v:Nat):Jn d t nx (t+1) (ts++[.sl (nx+4) v 2 0 d[t].length]) (.cells v 100 (d[t].flatMap Enc.enc)):=by
 obtain⟨h1,h2,h3⟩:=h;have e:d.take (t+1)=d.take t++[d[t]]:=AR hk;refine⟨by simp[h1],λhkt=>by omega,λ_=>⟨v,d[t],Ae hk,?_,rfl⟩⟩;obtain⟨a,-⟩:=h2 (Ag _);have hl:((d.take t).flatMap Enc.enc).length=t:=by rw[jR];simp;omega
 rw[a,e,Ar,BB _ _ DH,hl,Bp];rfl
theorem Zcc(d:zk)(t:Nat)(hd0:d.length<=1048576)(hd1:∀l∈d,l.length<=1048576)(ht:∀l,d[t]?=some l->0<l.length)(S:Store)(nx:Nat)(hd:zW nx S):
  Spec prog 337 [.agg [L d]] S (λp S'=>∃v ts ob,Jn d t nx d.length ts ob/\p=.agg [.sl (nx+3) v 1 0 d.length]/\S'=(S.set (nx+3) (.cells v 42 ts)).set (nx+4) ob):=by
 refine ut hd func337 ntmps337 results337 ?_;refine DQ ?_;intro v0 v1;refine DQ ?_;intro v2;refine qQ 2 0 42 1 rfl rfl λv3=>?_
 repeat apply za
 refine zb ?_
 show PW _ _ _ _ _ _ _ (ext _ _ _)
 rw[ZeF 1];refine zj (zD (λ(s:Nat × List PV × Ob × Nat × Nat)=>s.1<=d.length/\Jn d t nx s.1 s.2.1 s.2.2.1) (λ(k,ts,ob,v2,v3)=>[(2,.ptr (nx+1) v1 0),(3,.ptr (nx+2) v2 0),(7,L d),(8,I d.length),(9,I k)]) (λ(k,ts,ob,v2,v3)=>[.cells v0 39 [L d],.cells v1 39 [yq],.cells v2 39 [.sl (nx+3) v3 1 0 k],.cells v3 42 ts,ob]) (λs=>d.length-s.1) (0,[],.dead,v2,v3) [] ⟨by simp,by simp[Jn]⟩ DI DI ?_);rintro⟨k,ts,ob,v2,v3⟩ ⟨hk,hI⟩;simp only at hk hI ⊢;have htl:=hI.1;have htk:ts.take k=ts:=Af DH;refine DQ ?_;refine za (zv rfl (λhc=>?_) (λhc=>?_))
 ·simp at hc;obtain⟨l,tl,a1,a2,a3,e0⟩:=zJ rfl d k hc;obtain⟨hkl,rfl⟩:=Ac.1 a1;have hk1:1<=d.length-k:=DH
  refine zh (za (zj (za (ze [] (zF hc e0 hk1) ?_))));intro v5
  by_cases hkt:k=t
  ·subst hkt;have hcl:=Zcb d[k] (ht _ a1) (hd1 _ (Bd hkl));obtain rfl:=(hI.2.1 (Ag _)).2;refine zz (some [nx+5]) (Row.pures [0,2,3] (.alt 1 (.alt 4 (Row.pures [5,6] (.alt 7 (Row.pures [8] (.alt 9 (.done) .stop)) .stop)) .stop) (.alt 4 (Row.pures [5,6] (.alt 1 (.alt 7 (Row.pures [8] (.alt 9 (.done) .stop)) .stop) .stop)) .stop))) mixed (zo htl htk) ?_;refine⟨?_,?_⟩
   all_goals
    skip
    refine((hcl _ (nx+4) DI).mono ?_).v;rintro _ _ ⟨v4,rfl,rfl⟩;rw[yc _ DH DI,AG];refine⟨by simp[yH],ju (zo htl htk) ?_⟩;refine⟨by omega,?_⟩;refine zb ?_;exact zq (k+1,_,_,v2,v3+1) [_] ⟨hc,ZnT hI hkl v4⟩ DL (by simp[zu k (by omega)]) rfl DJ
  ·have hcl:=V8 d[k] (hd1 _ (Bd hkl));refine zz (some [nx+5]) (Row.pures [0,2,3,4,5,6] (.alt 1 (.alt 7 (Row.pures [8] (.alt 9 (.done) .stop)) .stop) .stop)) mixed (zo htl htk) ?_;refine zK (hcl) (zo htl htk) ?_;refine⟨by omega,?_⟩;refine zb ?_;exact zq (k+1,_,_,v2,v3+1) [_] ⟨hc,ZnS hI hkl hkt⟩ DL (by simp[zu k (by omega)]) rfl DJ
 ·simp at hc;obtain rfl:k=d.length:=DH
  refine zx (DQ ?_);refine zg ⟨_,(S.set (nx+3) (.cells v3 42 ts)).set (nx+4) ob,by simp;rfl,⟨v3,ts,ob,hI,rfl,rfl⟩,?_⟩;intro o
  by_cases h4:o=nx+4
  ·subst h4;exact .inl (by rw[q11];simp)
  by_cases h3:o=nx+3
  ·subst h3;exact .inl (by rw[q10 _ _ _ _ h4,q11];simp)
  rw[q10 _ _ _ _ h4,q10 _ _ _ _ h3];exact zR hd o
theorem ZnU(d:zk)(hd0:d.length<=1048576)(hd1:∀l∈d,l.length<=1048576):Pure prog 337 [.agg [L d]] (.agg [L d]):=by
 refine ZeE (k:=d.length) (sz:=1) (e:=42) (cs:=d.flatMap Enc.enc) 3 (λS nx hd=>(Zcc d d.length hd0 hd1 DI S nx hd).mono ?_) DI;rintro _ _ ⟨v,ts,ob,⟨h1,h2,-⟩,rfl,rfl⟩;obtain⟨rfl,rfl⟩:=h2 (Ag _);rw[Ak];refine⟨v,rfl,?_⟩;funext o
 by_cases h4:o=nx+4
 ·subst h4;rw[q11,q10 _ _ _ _ DH,hd _ DH]
 ·rw[q10 _ _ _ _ h4]
theorem ZnV(d:zk)(t:Nat)(l:zL)(hd0:d.length<=1048576)(hd1:∀l∈d,l.length<=1048576)(ht:d[t]?=some l)(hl:0<l.length)(S:Store)(nx:Nat)(hd:zW nx S):
  Spec prog 337 [.agg [L d]] S (λp S'=>∃v w,p=.agg [.sl (nx+3) v 1 0 d.length] /\
   S'=(S.set (nx+3) (.cells v 42 ((d.flatMap Enc.enc).set t (.sl (nx+4) w 2 0 l.length)))).set (nx+4) (.cells w 100 (l.flatMap Enc.enc))):=by
 refine(Zcc d t hd0 hd1 (λm hm=>by rw[ht]at hm;cases hm;exact hl) S nx hd).mono ?_;rintro _ _ ⟨v,ts,ob,⟨h1,-,h3⟩,rfl,rfl⟩;obtain⟨w,m,hm,rfl,rfl⟩:=h3 (Ac.1 ht).1;rw[ht]at hm;cases hm;rw[Ak];exact⟨v,w,rfl,rfl⟩
open Go Go.Proofs
def jy(x:Inst)(t:zL):Int:=W (yB x (t.map (·.c)))
def ji(t:zL):Int:=W (zX t)
def yV(x:Inst)(d:zk):Nat:=(d.filter λt=>decide (zT x t≠0)).length
theorem ZnW(x:Inst)(d e:zk):yV x (d++e)=yV x d+yV x e:=by simp[yV]
theorem ZnX(x:Inst)(t:zL):yV x [t]=if zT x t=0 then 0 else 1:=by
 by_cases h:zT x t=0<;>simp[yV,h]
theorem ZfJ(x:Inst)(d:zk):yV x d<=d.length:=BC _ _
abbrev Zn(x:Inst)(d:zk):List PV:=[I x.days,I x.veh,I x.cap,I x.len,L x.cust,L x.dist,L d,L (yP (d.flatten.map (·.c))),B (decide (¬(yP (d.flatten.map (·.c))).Nodup)),L (d.map (zT x)),I (yV x d),L (d.map ji),L (d.map (jy x))]
theorem ZfK(x:Inst)(d:zk)(hx:x.cust.length<=1048576)(hdo:DayOk d)(hf:d.flatten.length<=1048576):Pure prog 333 [.agg (zy x),.agg [L d]] (.agg (Zn x d)):=by
 have h1:=Ze8 d hdo.1 hf;have h2:=Zfg d.flatten hf;have h3:=Zff (yP (d.flatten.map (·.c))) (by rw[Qm,List.length_map];exact hf) (Ws _);generalize hon:yP (d.flatten.map (·.c))=on at *;generalize htw:decide (¬on.Nodup)=tw at *;refine zt func333 ntmps333 results333 λS nx hd=>?_
 refine DQ ?_;intro v0 v1 v2;refine za (zz (some [nx,nx+1]) (Row.pures [0,1,2,3,4,5] (.alt 6 (.alt 7 (.done) .stop) .stop)) mixed trivial ?_);refine zK (h1) trivial ?_;refine zK (h2) trivial ?_;intro v3;refine DQ ?_;refine zr h3 ?_
 repeat apply za
 refine zb ?_;refine qQ 3 9 47 1 rfl rfl λv4=>?_
 refine qQ 3 11 3 1 rfl rfl λv5=>?_
 refine qQ 3 12 3 1 rfl rfl λv6=>?_
 refine zj (zD (λ(k,v4,v5,v6)=>k<=d.length) (λ(k,v4,v5,v6)=>[(2,.ptr nx v0 0),(4,.ptr (nx+2) v2 0),(5,.ptr (nx+3) v3 0),(20,L d),(21,I d.length),(22,I k)])
  (λ(k,v4,v5,v6)=>[.cells v0 25 (zy x),.cells v1 39 [L d],.cells v2 395 [I 0,I 0,I 0,I 0,yq,yq,yq,yq,B false,yq,I 0,yq,yq],
   .cells v3 395 [I x.days,I x.veh,I x.cap,I x.len,L x.cust,L x.dist,L d,L on,B tw,.sl (nx+4) v4 1 0 k,I (yV x (d.take k)),.sl (nx+5) v5 1 0 k,.sl (nx+6) v6 1 0 k],
   .cells v4 47 (((d.map (zT x)).take k).flatMap Enc.enc),.cells v5 3 (((d.map ji).take k).flatMap Enc.enc),.cells v6 3 (((d.map (jy x)).take k).flatMap Enc.enc)]) (λs=>d.length-s.1) (0,v4,v5,v6) [] DI DI (by simp[yV]) ?_)
 rintro⟨k,v4,v5,v6⟩ hk;simp only at hk ⊢;refine DQ ?_;refine za (zv rfl (λhc=>?_) (λhc=>?_))
 ·simp at hc;obtain⟨t,tl,a1,a2,a3,e0⟩:=zJ rfl d k hc;have hk1:1<=d.length-k:=DH
  have htm:=Ab a1;have hm:=Wu x t hx (hdo.t t htm);have hl:=Ze7 t (hdo.t t htm);have hw:=Wr x t (hdo.t t htm) (hdo.s t htm);have b1:yV x (d.take (k+1))=yV x (d.take k)+if zT x t=0 then 0 else 1:=by rw[a3,ZnW,ZnX]
  have b2:=ZfJ x (d.take k);rw[Ax]at b2;have b3:=hdo.n;have b4:=Nat.min_le_left k d.length;have f1:(((d.map (zT x)).take (k+1)).flatMap Enc.enc:List PV)=((d.map (zT x)).take k).flatMap Enc.enc++[I (zT x t)]:=by rw[<-List.map_take,<-List.map_take,a3];simp
  have f2:(((d.map ji).take (k+1)).flatMap Enc.enc:List PV)=((d.map ji).take k).flatMap Enc.enc++[I (W (zX t))]:=by rw[<-List.map_take,<-List.map_take,a3];simp[ji]
  have f3:(((d.map (jy x)).take (k+1)).flatMap Enc.enc:List PV)=((d.map (jy x)).take k).flatMap Enc.enc++[I (W (yB x (t.map (·.c))))]:=by rw[<-List.map_take,<-List.map_take,a3];simp[jy]
  have l1:(((d.map (zT x)).take k).flatMap Enc.enc:List PV).length=k:=by rw[jG,Ax,List.length_map];omega
  have l2:(((d.map ji).take k).flatMap Enc.enc:List PV).length=k:=by rw[jG,Ax,List.length_map];omega
  have l3:(((d.map (jy x)).take k).flatMap Enc.enc:List PV).length=k:=by rw[jG,Ax,List.length_map];omega
  generalize ((d.map (zT x)).take k).flatMap Enc.enc=c1 at *;generalize ((d.map ji).take k).flatMap Enc.enc=c2 at *;generalize ((d.map (jy x)).take k).flatMap Enc.enc=c3 at *;have t1:c1.take k=c1:=Af DH;have t2:c2.take k=c2:=Af DH;have t3:c3.take k=c3:=Af DH;generalize yV x (d.take k)=bn at *;have wb:IntKind.i64.wrap ((bn:Int)+1)=((bn+1:Nat):Int):=zu bn DH;generalize zT x t=mt at *;generalize W (zX t)=lt at *;generalize W (yB x (t.map (·.c)))=wt at *;refine zh (za (zj (za (ze [] (zF hc e0 hk1) ?_))));intro v7;refine DQ ?_;refine zr hm ?_
  repeat apply za
  refine zb ?_;refine qS (nx:=nx) (λ_:Unit=>True) (λ_=>[(2,.ptr nx v0 0),(4,.ptr (nx+2) v2 0),(5,.ptr (nx+3) v3 0),(7,.ptr (nx+7) v7 0),(8,I mt),(20,L d),(21,I d.length),(22,I k)]) (λ_=>S) (λ_=>[.cells v0 25 (zy x),.cells v1 39 [L d],.cells v2 395 [I 0,I 0,I 0,I 0,yq,yq,yq,yq,B false,yq,I 0,yq,yq],
   .cells v3 395 [I x.days,I x.veh,I x.cap,I x.len,L x.cust,L x.dist,L d,L on,B tw,.sl (nx+4) v4 1 0 k,I (bn+(if mt=0 then 0 else 1):Nat),.sl (nx+5) v5 1 0 k,.sl (nx+6) v6 1 0 k],
   .cells v4 47 c1,.cells v5 3 c2,.cells v6 3 c3,.cells v7 42 [L t]]) ?_ ?_
  ·repeat apply za
   refine zv rfl (λhq=>?_) (λhq=>?_)
   ·simp at hq;rw[if_neg hq];refine ze [] wb ?_;exact z8 () [] trivial DI rfl DI
   ·simp at hq;rw[if_pos hq];exact zh (z8 () [] trivial DI rfl DI)
  ·rintro⟨⟩ -;refine za (ze [] (zo t1 l1) ?_);refine⟨by omega,?_⟩;refine za (zz (some [nx+7]) (Row.pures [0,2,3,4] (.alt 1 (.alt 5 (Row.pures [6] (.alt 7 (.done) .stop)) .stop) .stop)) mixed (zo t2 l2) ?_);refine zK (hl) (zo t2 l2) ?_;refine⟨by omega,?_⟩;refine zz (some [nx,nx+7]) (Row.pures [0,2,3,4,5] (.alt 1 (.alt 6 (Row.pures [7] (.alt 8 (.done) .stop)) .stop) .stop)) mixed (zo t3 l3) ?_;refine zK (hw) (zo t3 l3) ?_;refine⟨by omega,?_⟩;refine zb ?_;exact zq (k+1,v4+1,v5+1,v6+1) [_] DL DL (by simp[zu k (by omega)]) rfl (by simp only[f1,f2,f3,b1];simp;rfl)
 ·simp at hc;obtain rfl:k=d.length:=DH
  refine zx (DQ ?_);refine yb 6 rfl ?_;refine yb 5 rfl ?_;refine yb 4 rfl ?_;have g1:(d.map (zT x)).take d.length=d.map (zT x):=Af DI;have g2:(d.map ji).take d.length=d.map ji:=Af DI;have g3:(d.map (jy x)).take d.length=d.map (jy x):=Af DI;exact zg (zi hd DJ (by simp[zp,g1,g2,g3];simp[<-hon,<-htw]))
open Go Go.Proofs
def V9(P:Program)(k:FuncId)(args:Nat->List PV)(xs:List (List PV))(ret:PV):Prop :=
 qj P k/\∀(l:Nat) (V:Ctx->Store->World->Prop) (_:∀{C C':Ctx} {S S':Store} {w w':World},Step C S w C' S' w'->V C S w->V C' S' w') (m:Nat) (J:Nat->Store->Prop),(∀i A,J i A->zW m A) ->
  (∀i A obs x,xs[i]?=some x->J i A->PYield P V l x (ext A m obs) (λT=>∃A',J (i+1) A'/\T=ext A' m obs)) ->
  ∀A,J 0 A->PCallsV P V k (args l) A (λp T=>p=ret/\J xs.length T)
theorem ZfL {P : Program} {N : Nat} {f : FuncId} {fn : Func} {c : Code} {rs : List ResultVar} {args : Nat → List PV} {xs : List (List PV)} {ret : PV} (hf : P.funcs[f]? = some fn) (hname : (fn.name == "runtime.NumGoroutine") = false) (hb : fn.body = some c) (hN : fn.ntmps = N) (hrs : fn.results.toList = rs) (hargs : ∀ l, (args l).length ≤ N)
  (h:∀(l:Nat) (V:Ctx->Store->World->Prop) (keep:∀{C C':Ctx} {S S':Store} {w w':World},Step C S w C' S' w'->V C S w->V C' S' w') (nx:Nat) (J:Nat->Store->Prop),(∀i A,J i A->zW nx A) ->
   (∀i A obs x,xs[i]?=some x->J i A->PYield P V l x (ext A nx obs) (λT=>∃A',J (i+1) A'/\T=ext A' nx obs)) ->
   ∀A,J 0 A->PW P ⟨none,V,keep⟩ 0 N c (Zi P rs (λp T=>p=ret/\J xs.length T)) (uq (args l)) (ext A nx [])):V9 P f args xs ret:=by
 refine⟨qe hf hname hb,λl V keep m J hJ hY A hA=>?_⟩;have:=h l V keep m J hJ hY A hA;rw[qB (hJ 0 A hA)]at this;exact Zbj hf hb hN hrs (hargs l) this
theorem PYield.mono{P:Program}{V:Ctx->Store->World->Prop}{l:Nat}{args:List PV}{S:Store}{Q Q':Store->Prop}(h:PYield P V l args S Q)(hq:∀T,Q T->Q' T):PYield P V l args S Q':=by
 intro C w vs h1 h2 h3 h4;obtain⟨fn,tmps,assign,body,hy,hR⟩:=h C w vs h1 h2 h3 h4;refine⟨fn,tmps,assign,body,hy,hR.mono ?_⟩;rintro e w' ⟨S',C',a,b,c⟩;exact⟨S',C',a,hq _ b,c⟩
theorem ZfM{P:Program}{k:FuncId}{args:Nat->List PV}{xs:List (List PV)}{ret:PV}(h:V9 P k args xs ret){V:Ctx->Store->World->Prop}(keep:∀{C C':Ctx} {S S':Store} {w w':World},Step C S w C' S' w'->V C S w->V C' S' w')
  {l nx:Nat} {J:Nat->Store->Prop} {ys:List (List PV)} (hY:∀i A obs x,ys[i]?=some x->J i A->PYield P V l x (ext A nx obs) (λT=>∃A',J (i+1) A'/\T=ext A' nx obs))
  (off:Nat) (hxs:∀i x,xs[i]?=some x->ys[off+i]?=some x) {A:Store} (hJ:J off A) (obs:List Ob) :
  SpecV P V k (args l) (ext A nx obs) (λp T=>∃A',p=ret/\J (off+xs.length) A'/\T=ext A' nx obs):=by
 refine⟨h.1,(h.2 l V keep (nx+obs.length) (λi T=>∃A',J (off+i) A'/\T=ext A' nx obs) ?_ ?_ (ext A nx obs) ⟨A,hJ,rfl⟩).mono ?_⟩
 ·rintro i T ⟨A',_,rfl⟩;exact jF
 ·rintro i T more x hx ⟨A1,hJ1,rfl⟩;rw[VP _ _ rfl];refine(hY (off+i) A1 (obs++more) x (hxs i x hx) hJ1).mono ?_;rintro T ⟨A',hA',rfl⟩;exact⟨ext A' nx obs,⟨A',hA',rfl⟩,(VP _ _ rfl).symm⟩
 ·rintro p T ⟨rfl,A',hA',rfl⟩;exact⟨A',rfl,hA',rfl⟩
theorem Zaa{P:Program}{nx:Nat}{F:Nat->PV}{obs:List Ob}{rs:List ResultVar}{ps:List PV}{J:Store->Prop}{A:Store}{ret:PV}(hd:zW nx A)(h1:wv P F (ext A nx obs) rs=some ps)(h2:zp ps=ret)(hJ:J A):
  ∃ps S',wv P F (ext A nx obs) rs=some ps/\(zp ps=ret/\J S')/\∀o,S' o=ext A nx obs o\/S' o=.dead:=⟨ps,A,h1,⟨h2,hJ⟩,zR hd⟩
theorem ZfN{α:Type}{f:Nat->Option α}{n k:Nat}{v:α}(hk:k<n)(hf:f k=some v):((List.range n).filterMap f)[((List.range k).filterMap f).length]?=some v:=by
 obtain⟨m,rfl⟩:∃m,n=k+(m+1):=⟨n-k-1,by omega⟩;rw[Da,BV,Aj (Ag _),Bp,CC];simp[hf]
theorem ZfO{α:Type}{f:Nat->Option α}{k:Nat}(hf:f k=none):((List.range (k+1)).filterMap f).length=((List.range k).filterMap f).length:=by
 rw[AL,BV];simp[hf]
theorem ZfP{α:Type}{f:Nat->Option α}{k:Nat}{v:α}(hf:f k=some v):((List.range (k+1)).filterMap f).length=((List.range k).filterMap f).length+1:=by
 rw[AL,BV];simp[hf]
structure Spot where
 t:Nat
 p:Nat
 m:Int
abbrev Zo(s:Spot):List PV:=[.agg [I s.t,I s.p,I s.m]]
def vA(l:zL)(i:Nat):Int:=if i=0 then 0 else (l.getD (i-1) default).c+1
def uy(l:zL)(i:Nat):Int:=if i<l.length then (l.getD i default).c+1 else 0
def uz(x:Inst)(l:zL)(s:Stop)(i:Nat):Int:=W (W (arc x (vA l i) (s.c+1)+arc x (s.c+1) (uy l i))-arc x (vA l i) (uy l i))
def uA(x:Inst)(t:Nat)(l:zL)(w:Int)(s:Stop)(i:Nat):Option Spot:=if W (w+uz x l s i)<=x.len then some ⟨t,i,uz x l s i⟩ else none
def uZ(x:Inst)(t:Nat)(l:zL)(fl bad ll w:Int)(s:Stop):List Spot :=
 if 0<bad-(if fl=13 then 1 else 0)\/x.cap<W (ll+s.q) then [] else (List.range (l.length+1)).filterMap (uA x t l w s)
abbrev uB(x:Inst)(d:zk)(on:List Int)(tw:Bool)(fs:List Int)(bad:Int)(ls ws:List Int):List PV:=[I x.days,I x.veh,I x.cap,I x.len,L x.cust,L x.dist,L d,L on,B tw,L fs,I bad,L ls,L ws]
theorem ZnY(x:Inst)(d:zk)(on:List Int)(tw:Bool)(fs:List Int)(bad:Nat)(ls ws:List Int)(t:Nat)(l:zL)(s:Stop)(fl ll w:Int)(hbad:bad<=1048576)(hdn:d.length<=1048576)(hd:d[t]?=some l)(hfs:fs[t]?=some fl)(hls:ls[t]?=some ll)(hws:ws[t]?=some w)
  (hfn:fs.length=d.length) (hln:ls.length=d.length) (hwn:ws.length=d.length) (hb:fl=13->0<bad) (hll:l.length<=1048576) (hsl:∀s∈l,qb s.c) (hss:qb s.c) :
  V9 prog 354 (λy=>[.agg (uB x d on tw fs bad ls ws),I t,.agg [I s.c,I s.q],jQ y]) ((uZ x t l fl bad ll w s).map Zo) (B true):=by
 refine ZfL func354 DM rfl ntmps354 (congrArg Array.toList results354) DI λy V keep nx J hJd hY A0 hA0=>?_
 have ht:t<d.length:=(Ac.1 hd).1;obtain⟨fl',tf,a1,-,-,ef⟩:=zJ rfl fs t DH;obtain⟨ll',tl,a2,-,-,elo⟩:=zJ rfl ls t DH;obtain⟨w',tw',a3,-,-,ew⟩:=zJ rfl ws t DH;obtain⟨l',td,a4,-,-,ed⟩:=zJ rfl d t ht;obtain rfl:fl=fl':=by rw[hfs]at a1;exact Option.some.inj a1
 obtain rfl:ll=ll':=by rw[hls]at a2;exact Option.some.inj a2
 obtain rfl:w=w':=by rw[hws]at a3;exact Option.some.inj a3
 obtain rfl:l=l':=by rw[hd]at a4;exact Option.some.inj a4
 have h1:1<=fs.length-t:=DH
 have h2:1<=ls.length-t:=DH
 have h3:1<=ws.length-t:=DH
 have h4:1<=d.length-t:=DH
 have g1:t<fs.length:=DH
 have g2:t<ls.length:=DH
 have g3:t<ws.length:=DH
 refine DQ ?_;intro v0 v1;refine DQ ?_
 repeat apply za
 refine ze [] (zF ef h1 g1) ?_;obtain⟨oth,hoth⟩:∃oth:Int,oth=bad-(if fl=13 then 1 else 0):=⟨_,rfl⟩;refine qS (nx:=nx) (λ_:Unit=>True) (λ_=>[(1,I t),(3,jQ y),(4,.ptr nx v0 0),(6,.ptr (nx+1) v1 0),(9,I oth)]) (λ_=>A0) (λ_=>[.cells v0 395 (uB x d on tw fs bad ls ws),.cells v1 100 [I s.c,I s.q]]) ?_ ?_
 ·repeat apply za
  refine zv rfl (λhq=>?_) (λhq=>?_)
  ·simp at hq;have hb':=hb hq;rw[if_pos hq]at hoth;have wb:IntKind.i64.wrap ((bad:Int)-1)=oth:=by rw[hoth,wr _ DH DH]
   refine ze [] wb ?_;exact z8 () [] trivial DI rfl DI
  ·simp at hq;rw[if_neg hq]at hoth;obtain rfl:oth=bad:=DH
   exact zh (z8 () [] trivial DI rfl DI)
 ·rintro⟨⟩ -;have hout:∀(h:0<oth\/x.cap<W (ll+s.q)),uZ x t l fl bad ll w s=[]:=λh=>by unfold uZ;rw[if_pos (by rw[hoth]at h;exact h)]
  by_cases ho:0<oth
  ·rw[hout (.inl ho)]at hY ⊢
   repeat apply za
   refine zz (some [nx,nx+1]) (Row.pures [0,1,2,3,4,5,6,7,8,9,10,11,12,13,14,15] .done) mixed (zo ho zN) ?_;refine zn rfl (DQ ?_);exact zg (Zaa (hJd _ _ hA0) DJ (by simp[zp]) hA0)
  by_cases hcap:x.cap<W (ll+s.q)
  ·rw[hout (.inr hcap)]at hY ⊢
   repeat apply za
   refine zz (some [nx,nx+1]) (Row.pures [0,1,2,3,4,5,6,7,8,9,10,11,12,13,14,15] .done) mixed (yl ho hcap elo h2 g2 zN) ?_;refine zn rfl (DQ ?_);exact zg (Zaa (hJd _ _ hA0) DJ (by simp[zp]) hA0)
  have hz:uZ x t l fl bad ll w s=(List.range (l.length+1)).filterMap (uA x t l w s):=by unfold uZ;rw[if_neg (by rw[<-hoth];simp[ho,hcap])]
  clear hout;rw[hz]at hY ⊢
  repeat apply za
  refine zz (some [nx,nx+1]) (Row.pures [0,1,2,3,4,5,6,7,8,9,10,11,12,13,14,15] .done) mixed (yE ho hcap elo h2 g2) ?_;refine zm rfl (zh ?_);have wc:IntKind.i64.wrap (s.c+1)=s.c+1:=wr _ (by unfold qb at hss;omega) (by unfold qb at hss;omega);refine za (zz (some [nx,nx+1]) (Row.pures [0,1,2,3,4,5,6,7,8,9,10,11] .done) mixed (zV ed h4 ht wc) ?_);have wl:IntKind.i64.wrap ((l.length:Int)+1)=((l.length+1:Nat):Int):=zu _ DH
  repeat apply za
  refine ze [] wl ?_;refine zj (jt (σ:=Nat × Store) (λs'=>s'.1<=l.length+1/\J ((List.range s'.1).filterMap (uA x t l w s)).length s'.2) (λs'=>[(1,I t),(3,jQ y),(4,.ptr nx v0 0),(6,.ptr (nx+1) v1 0),(10,L l),(11,I (s.c+1)),(54,I ((l.length+1:Nat):Int)),(55,I s'.1)]) (λs'=>s'.2)
   (λ_=>[.cells v0 395 (uB x d on tw fs bad ls ws),.cells v1 100 [I s.c,I s.q]]) (λs'=>l.length+1-s'.1) (z8 (0,A0) [] (by simpa using hA0) DI rfl DI) ?_)
  rintro⟨k,A⟩ ⟨hk,hJ⟩;simp only at hk hJ ⊢;refine DQ ?_;refine za (zv rfl (λhc=>?_) (λhc=>?_))
  ·simp at hc;refine zh (za (zj (DQ ?_)));refine DQ ?_
   repeat apply za
   refine zb ?_;refine qS (nx:=nx) (λ_:Unit=>True) (λ_=>[(1,I t),(3,jQ y),(4,.ptr nx v0 0),(6,.ptr (nx+1) v1 0),(10,L l),(11,I (s.c+1)),(12,I k),(13,I (vA l k)),(14,I 0),(54,I ((l.length+1:Nat):Int)),(55,I k)]) (λ_=>A) (λ_=>[.cells v0 395 (uB x d on tw fs bad ls ws),.cells v1 100 [I s.c,I s.q]]) ?_ ?_
   ·repeat apply za
    refine zv rfl (λhk0=>?_) (λhk0=>?_)
    ·simp at hk0;obtain⟨j,rfl⟩:∃j,k=j+1:=⟨k-1,by omega⟩;obtain⟨p,tp,p1,-,-,-,ep⟩:=el 2 rfl l j DH;have wj:IntKind.i64.wrap (j:Int)=(j:Int):=wr _ DH DH;have hjl:j<l.length:=DH
     have hj2:2<=l.length*2-j*2:=DH
     have hsm:=hsl p (Ab p1);have wp:IntKind.i64.wrap (p.c+1)=p.c+1:=wr _ (by unfold qb at hsm;omega) (by unfold qb at hsm;omega);have hah:vA l (j+1)=p.c+1:=by unfold vA;rw[if_neg DH,B1,Aa,p1];rfl
     refine ze [] (yE wj ep wp hjl hj2) ?_;exact z8 () [] trivial (by simp[hah]) rfl DI
    ·simp at hk0;subst hk0;exact zh (z8 () [] trivial (by simp[vA]) rfl DI)
   ·rintro⟨⟩ -
    repeat apply za
    refine zb ?_;refine qS (nx:=nx) (λ_:Unit=>True) (λ_=>[(1,I t),(3,jQ y),(4,.ptr nx v0 0),(6,.ptr (nx+1) v1 0),(10,L l),(11,I (s.c+1)),(12,I k),(13,I (vA l k)),(14,I (uy l k)),(54,I ((l.length+1:Nat):Int)),(55,I k)]) (λ_=>A) (λ_=>[.cells v0 395 (uB x d on tw fs bad ls ws),.cells v1 100 [I s.c,I s.q]]) ?_ ?_
    ·repeat apply za
     refine zv rfl (λhk0=>?_) (λhk0=>?_)
     ·simp at hk0;obtain⟨p,tp,p1,-,-,-,ep⟩:=el 2 rfl l k hk0;have hj2:2<=l.length*2-k*2:=DH
      have hsm:=hsl p (Ab p1);have wp:IntKind.i64.wrap (p.c+1)=p.c+1:=wr _ (by unfold qb at hsm;omega) (by unfold qb at hsm;omega);have hah:uy l k=p.c+1:=by unfold uy;rw[if_pos hk0,Aa,p1];rfl
      refine ze [] (zV ep wp hk0 hj2) ?_;exact z8 () [] trivial (by simp[hah]) rfl DI
     ·simp at hk0;exact zh (z8 () [] trivial (by simp[uy];omega) rfl DI)
    ·rintro⟨⟩ -;have q1:=wP x (vA l k) (s.c+1);have q2:=wP x (s.c+1) (uy l k);have q3:=wP x (vA l k) (uy l k);have hmo:W (W (arc x (vA l k) (s.c+1)+arc x (s.c+1) (uy l k))-arc x (vA l k) (uy l k))=uz x l s k:=rfl;refine za (zz (some [nx,nx+1]) (Row.pures [0,1,2,3,4,5,6,7,8,9,10,11,12,13,14,15,16,17] .done) mixed trivial ?_);refine zK (q1) trivial ?_;refine zK (q2) trivial ?_;refine zK (q3) hmo ?_
     by_cases hf:W (w+uz x l s k)<=x.len
     ·have hsp:uA x t l w s k=some ⟨t,k,uz x l s k⟩:=by unfold uA;rw[if_pos hf]
      have hat:=ZfN (n:=l.length+1) DH hsp;have hnx:=ZfP hsp;have hy:(((List.range (l.length+1)).filterMap (uA x t l w s)).map Zo)[((List.range k).filterMap (uA x t l w s)).length]?=some (Zo ⟨t,k,uz x l s k⟩):=by rw[Ai,hat];rfl
      refine za (zz (some [nx,nx+1]) (Row.pures [0,1,2,3,4,5,6,7,8,9,10,11,12,13,14,15,16] (.alt 17 (Row.pures [18,19] .done) .stop)) mixed (yE hmo ew h3 g3 hf) ?_);refine⟨by rfl,(J9 rfl rfl rfl (hY _ _ _ _ hy hJ) ?_)⟩;rintro _ ⟨A',hJ',rfl⟩;refine⟨by simp[yH],ju trivial ?_⟩;refine zm rfl (zh (zb ?_));exact zq (k+1,A') [] ⟨by show k+1<=_;omega,by rw[hnx];exact hJ'⟩ DL (by simp[zu k (by omega)]) rfl DI
     ·have hsp:uA x t l w s k=none:=by unfold uA;rw[if_neg hf]
      have hnx:=ZfO hsp;refine za (zz (some [nx,nx+1]) (Row.pures [0,1,2,3,4,5,6,7,8,9,10,11,12,13,14,15,16,17,18,19] .done) mixed (yl hmo ew h3 g3 hf zN) ?_);refine zm rfl (zh (zb ?_));exact zq (k+1,A) [] ⟨by show k+1<=_;omega,by rw[hnx];exact hJ⟩ DL (by simp[zu k (by omega)]) rfl DI
  ·simp at hc;obtain rfl:k=l.length+1:=DH
   refine zx (DQ ?_);exact zg (Zaa (hJd _ _ hJ) DJ (by simp[zp]) (by simpa using hJ))
open Go
theorem Zcd(x:Inst):(yF x).cust.length<=6:=by simp[yF];omega
theorem Zab:∀(d:zk),(∀t∈d,t≠[])->d.length<=d.flatten.length
 | [],_=>by simp
 | t :: d,h=>by
  have:=Zab d λt ht=>h t (by simp[ht])
  have h1:t.length≠0:=by simpa using h t DI
  rw[BK,Aq,Ad];omega
theorem YD{d:zk}{t:zL}(h:t∈d):t.Sublist d.flatten:=by
 obtain⟨a,b,rfl⟩:=List.append_of_mem h;rw[List.flatten_append,BK];exact(List.sublist_append_left t b.flatten).trans (List.sublist_append_right a.flatten _)
theorem ZnZ{a b:List Int}(h:a.Perm b):a.sum=b.sum:=by
 induction h with
 | nil=>rfl
 | cons x _ ih=>simp[ih]
 | swap x y l=>simp;omega
 | trans _ _ ih1 ih2=>exact ih1.trans ih2
theorem vB(x:Inst)(d:zk):yr x d=0<->(∀t∈d,zT x t=0)/\(d.flatten.map (·.c)).Nodup/\(d.length:Int)<=x.veh:=by
 unfold yr;cases hf:d.find? (λt=>zT x t != 0) with
 | some t =>
  have h1:=List.find?_some hf;have h2:=List.mem_of_find?_eq_some hf;simp only;constructor
  ·intro e;simp[e]at h1
  ·rintro⟨h,_⟩;exact h t h2
 | none =>
  rw[List.find?_eq_none]at hf;simp only;constructor
  ·intro e;refine⟨λt ht=>by simpa using hf t ht,?_⟩;split at e
   ·cases e
   ·split at e
    ·cases e
    ·rename_i h1 h2;exact⟨by simpa using h1,by omega⟩
  ·rintro⟨_,h1,h2⟩;rw[if_neg (by simpa using h1),if_neg DH]
theorem Xl(x:Inst)(t:zL):zT x t=0<->qZ x t=true/\(t.map (·.c)).Nodup/\W (zX t)<=x.cap/\W (yB x (t.map (·.c)))<=x.len:=by
 unfold zT;constructor
 ·intro e;split at e
  ·cases e
  ·split at e
   ·cases e
   ·split at e
    ·cases e
    ·split at e
     ·cases e
     ·rename_i h1 h2 h3 h4;exact⟨by simpa using h1,by simpa using h2,by omega,by omega⟩
 ·rintro⟨h1,h2,h3,h4⟩;rw[if_neg (by simp[h1]),if_neg (by simpa using h2),if_neg DH,if_neg DH]
theorem Zce{t:zL}(h:∀s∈t,0<=s.q/\s.q<=2147483648):0<=zX t/\zX t<=2147483648*t.length:=by
 induction t with
 | nil=>simp[zX]
 | cons s t ih =>
  have:=ih λa ha=>h a (by simp[ha])
  have:=h s DI;simp only[zX,AA,BM,Ad]at *;omega
theorem Zn0(a b:zL):zX (a++b)=zX a+zX b:=by simp[zX]
open Go Go.Proofs
def qg(x:Inst)(d:zk)(s:Stop):List Spot :=
 if zT x [s]=1\/s.c∈d.flatten.map (·.c)\/¬(d.flatten.map (·.c)).Nodup\/x.veh<d.length then []
 else ((List.range d.length).flatMap λt=>uZ x t (d.getD t []) (zT x (d.getD t [])) (yV x d) (ji (d.getD t [])) (jy x (d.getD t [])) s) ++
  (if yV x d=0/\zT x [s]=0/\(d.length:Int)<x.veh then [⟨d.length,0,W (yB x [s.c])⟩] else [])
def YE(st:Spot × Bool)(b:Spot):Spot × Bool:=if st.2=false\/b.m<st.1.m then (b,true) else st
def Zp(l:List Spot):Spot × Bool:=l.foldl YE (⟨0,0,0⟩,false)
def j8(l:zL)(i:Nat)(s:Stop):zL:=l.take i++s :: l.drop i
def jI(d:zk)(b:Spot)(s:Stop):zk:=if b.t=d.length then d++[[s]] else d.set b.t (j8 (d.getD b.t []) b.p s)
def yK(x:Inst)(d:zk)(s:Stop):zk × Bool:=bif (Zp (qg x d s)).2 then (jI d (Zp (qg x d s)).1 s,true) else (d,false)
theorem ZfQ:∀(l:List Spot) (st:Spot × Bool),(l.foldl YE st).2=true->(l.foldl YE st)=st\/(l.foldl YE st).1∈l
 | [],st,_=>.inl rfl
 | b :: l,st,h=>by
  rw[AY]at h ⊢;rcases ZfQ l _ h with e | e
  ·by_cases hq:st.2=false\/b.m<st.1.m
   ·right;rw[e];unfold YE;rw[if_pos hq];simp
   ·left;rw[e];unfold YE;rw[if_neg hq]
  simp_all
theorem Zac{l:List Spot}(h:(Zp l).2=true):(Zp l).1∈l:=by grind[ZfQ,Zp]
theorem Zn1{x:Inst}{t:Nat}{l:zL}{fl bad ll w:Int}{s:Stop}{b:Spot}(h:b∈uZ x t l fl bad ll w s):¬(0<bad-(if fl=13 then 1 else 0))/\W (ll+s.q)<=x.cap/\b∈(List.range (l.length+1)).filterMap (uA x t l w s):=by simp_all[uZ]
theorem WB{x:Inst}{d:zk}{s:Stop}{b:Spot}(h:b∈qg x d s):
  zT x [s]≠1/\s.c ∉ d.flatten.map (·.c)/\(d.flatten.map (·.c)).Nodup/\(d.length:Int)<=x.veh /\
  ((∃l,d[b.t]?=some l/\b.p<=l.length/\¬(0<(yV x d:Int)-(if zT x l=13 then 1 else 0))/\W (ji l+s.q)<=x.cap/\b.m=uz x l s b.p/\W (jy x l+b.m)<=x.len) \/
   (b=⟨d.length,0,W (yB x [s.c])⟩/\yV x d=0/\zT x [s]=0/\(d.length:Int)<x.veh)):=by
 unfold qg at h;split at h
 ·cases h
 ·rename_i hq;have q1:zT x [s]≠1:=λe=>hq (.inl e)
  have q2:s.c ∉ d.flatten.map (·.c):=λe=>hq (.inr (.inl e))
  have q3:(d.flatten.map (·.c)).Nodup:=Classical.byContradiction λe=>hq (.inr (.inr (.inl e)))
  have q4:(d.length:Int)<=x.veh:=by
   rcases Int.lt_or_le x.veh d.length with e | e
   ·exact absurd (.inr (.inr (.inr e))) hq
   ·exact e
  refine⟨q1,q2,q3,q4,?_⟩;rw[AB]at h;rcases h with h | h
  ·left;obtain⟨t,ht,hb⟩:=BG.1 h;rw[AP]at ht;have hd:d[t]?=some (d.getD t []):=by rw[Aa,Ae ht];rfl
   obtain⟨w1,w2,hb⟩:=Zn1 hb;obtain⟨i,hi,he⟩:=Cb.1 hb;rw[AP]at hi;unfold uA at he
   by_cases hlen:W (jy x (d.getD t [])+uz x (d.getD t []) s i)<=x.len
   ·rw[if_pos hlen]at he;cases he;exact⟨_,hd,by simp only;omega,w1,w2,rfl,hlen⟩
   ·rw[if_neg hlen]at he;cases he
  simp_all
def y8(a:Int):List Int->Int
 | []=>a
 | c :: l=>y8 (c+1) l
def Zad:List Int->Int
 | []=>0
 | c :: _=>c+1
theorem ZfR(x:Inst)(c:Int)(r:List Int):∀(p:List Int) (a:Int),wy x a (p++c :: r)=wy x a (p++r)+(arc x (y8 a p) (c+1)+arc x (c+1) (Zad r)-arc x (y8 a p) (Zad r))
 | [],a=>by cases r<;>grind[wy,y8,Zad]
 | e :: p,a=>by
  simp only[List.cons_append,wy,y8];rw[ZfR x c r p (e+1)];omega
theorem ZfS:∀(p:List Int) (a:Int),y8 a p=if p.length=0 then a else (p.getD (p.length-1) 0)+1
 | [],a=>by simp[y8]
 | [c],a=>by simp[y8]
 | c :: e :: p,a=>by
  simp only[y8];rw[show y8 (e+1) p=y8 (c+1) (e :: p) from rfl,ZfS (e :: p) (c+1)];simp
theorem Zn2(l:zL)(i:Nat)(h:i<l.length):(l.map (·.c)).getD i 0=(l.getD i default).c:=DP
theorem Zn3(x:Inst)(l:zL)(s:Stop)(i:Nat)(h0:l≠[])(hi:i<=l.length):
  yB x ((j8 l i s).map (·.c))=yB x (l.map (·.c))+(arc x (vA l i) (s.c+1)+arc x (s.c+1) (uy l i)-arc x (vA l i) (uy l i)):=by
 unfold yB j8;rw[if_neg DI,if_neg (by simpa using h0)];rw[List.map_append,AA,ZfR,<-List.map_append,List.take_append_drop];have e1:y8 0 ((l.take i).map (·.c))=vA l i:=by
  rw[ZfS];unfold vA;rw[List.length_map,Ax]
  by_cases hz:i=0
  ·rw[if_pos DH,if_pos hz]
  ·rw[if_neg DH,if_neg hz,Zn2 _ _ (by rw[Ax];omega)];rw[Aa,Aa,AJ DH,show min i l.length-1=i-1 from by omega]
 grind[Zad,uy,List.drop_eq_getElem_cons]
theorem ZfT(x:Inst)(l:zL)(s:Stop)(i:Nat)(h0:l≠[])(hi:i<=l.length):jy x (j8 l i s)=W (jy x l+uz x l s i):=by
 unfold jy uz
 grind[Zn3,IntKind.wrap_i64]
theorem ZfU(l:zL)(s:Stop)(i:Nat):ji (j8 l i s)=W (ji l+s.q):=by grind[ji,ZT,zX,j8,List.take_append_drop]
theorem WC(l:zL)(s:Stop)(i:Nat):(j8 l i s).Perm (s :: l):=by grind[j8,List.take_append_drop]
theorem Zcf{α:Type}:∀(d:List (List α)) (t:Nat) (l m:List α) (s:α),d[t]?=some l->m.Perm (s :: l)->(d.set t m).flatten.Perm (s :: d.flatten)
 | [],t,l,m,s,h,_=>by simp at h
 | a :: d,0,l,m,s,h,hm=>by
  simp at h;subst h;simp only[A4,BK];exact(hm.append_right _)
 | a :: d,t+1,l,m,s,h,hm=>by
  simp only[Bg]at h;simp only[AV,BK];exact((Zcf d t l m s h hm).append_left a).trans List.perm_middle
theorem Zcg{x:Inst}{d:zk}{s:Stop}{b:Spot}(h:b∈qg x d s):(jI d b s).flatten.Perm (s :: d.flatten):=by
 obtain⟨-,-,-,-,h⟩:=WB h;unfold jI
 grind[Zcf,WC]
theorem Zch{x:Inst}{d:zk}{s:Stop}(h:(yK x d s).2=true):(yK x d s).1.flatten.Perm (s :: d.flatten):=by grind[yK,Zcg,Zac]
theorem ZfV{x:Inst}{d:zk}{s:Stop}(h:(yK x d s).2=false):(yK x d s).1=d:=by grind[yK]
theorem Zn4{x:Inst}{a b:zL}(h:a.Perm b):qZ x a=qZ x b:=by
 unfold qZ;have h1:a.all (jh x)=b.all (jh x):=by
  rw[Dx,Ay,Ay];exact⟨λq s hs=>q s (h.symm.subset hs),λq s hs=>q s (h.subset hs)⟩
 have h2:a.isEmpty=b.isEmpty:=by
  cases a with
  | nil=>simp_all
  | cons a l =>
   grind
 rw[h1,h2]
theorem Zae{x:Inst}{t:zL}(h:qZ x t=true):t≠[]:=by simp_all[qZ]
theorem Zci{x:Inst}{t:zL}(h:qZ x t=false):zT x t=1:=by simp_all[zT]
theorem ZfW{x:Inst}{s:Stop}(h:zT x [s]≠1):jh x s=true:=by grind[qZ,Zci]
theorem Qt{x:Inst}{d:zk}:yV x d=0<->∀t∈d,zT x t=0:=by simp[yV]
theorem Zcj{x:Inst}{d:zk}{s:Stop}{b:Spot}(h:b∈qg x d s):yr x (jI d b s)=0:=by
 have hp:=Zcg h;obtain⟨q1,q2,q3,q4,h⟩:=WB h;rw[vB];have hg:=ZfW q1;have hn:((jI d b s).flatten.map (·.c)).Nodup:=by
  rw[(hp.map _).nodup_iff,AA,Cz];exact⟨q2,q3⟩
 refine⟨?_,hn,?_⟩
 ·rcases h with ⟨l,hl,hi,ho,hcap,hm,hlen⟩ | ⟨rfl,hb,hs,hv⟩
  ·obtain⟨hlt,hle⟩:=Ac.1 hl;have hpd:jI d b s=d.set b.t (j8 l b.p s):=by unfold jI;rw[if_neg DH,Aa,hl];rfl
   -- the other tours
   have hoth:∀j m,j≠b.t->d[j]?=some m->zT x m=0:=by
    intro j m hj hm';refine Classical.byContradiction λhbad=>?_
    have h13:0<yV x d:=by
     rcases BY (yV x d) with e | e
     ·exact absurd (Qt.1 e m (Ab hm')) hbad
     ·exact e
    by_cases hf:zT x l=13
    ·rw[if_pos hf]at ho;have h2:2<=yV x d:=by
      unfold yV;obtain⟨hjl,hje⟩:=Ac.1 hm';have key:∀(i j:Nat),i<j->∀(a c:zL),d[i]?=some a->d[j]?=some c->zT x a≠0->zT x c≠0->2<=(d.filter λt=>decide (zT x t≠0)).length:=by
       intro i j hij a c ha hc na nc;obtain⟨hil,rfl⟩:=Ac.1 ha;obtain⟨hjl,rfl⟩:=Ac.1 hc;have e:d=d.take (i+1)++d.drop (i+1):=(List.take_append_drop _ _).symm;rw[e,B3,Aq];have m1:d[i]∈(d.take (i+1)).filter λt=>decide (zT x t≠0):=Bl.2 ⟨Ab (i:=i) (by rw[AJ (by omega)];exact ha),by simp[na]⟩
       have m2:d[j]∈(d.drop (i+1)).filter λt=>decide (zT x t≠0):=Bl.2 ⟨Ab (i:=j-(i+1)) (by rw[AQ,show i+1+(j-(i+1))=j from by omega];exact hc),by simp[nc]⟩
       have:=Dt m1;have:=Dt m2;omega
      have nl:zT x l≠0:=by rw[hf];decide
      rcases Bh j b.t with h3 | h3
      ·exact key j b.t h3 m l hm' hl hbad nl
      ·exact key b.t j DH l m hl hm' nl hbad
     omega
    ·rw[if_neg hf]at ho;omega
   -- the tour itself
   have hself:zT x l=0\/zT x l=13:=by
    by_cases hf:zT x l=13
    ·exact .inr hf
    ·rw[if_neg hf]at ho;exact .inl (Qt.1 DH l (Ab hl))
   have hst:qZ x l=true:=by
    cases e:qZ x l with
    | true=>rfl
    | false=>rw[Zci e]at hself;rcases hself with h | h<;>cases h
   have hne:=Zae hst;intro t ht;rw[hpd]at ht;obtain⟨j,hj⟩:=Bi.1 ht;rw[Bt]at hj
   by_cases hjb:b.t=j
   ·rw[if_pos hjb,if_pos hlt]at hj;cases hj;rw[Xl];refine⟨?_,?_,?_,?_⟩
    ·rw[Zn4 (WC l s b.p)];unfold qZ at hst ⊢;simp only[List.all_cons,List.isEmpty_cons,Aw]at hst ⊢;exact⟨⟨hg,hst.1⟩,rfl⟩
    ·have hsub:(j8 l b.p s).Sublist (jI d b s).flatten:=by rw[hpd];exact YD ht
     exact hn.sublist (hsub.map _)
    ·have:=ZfU l s b.p;unfold ji at this;rw[this];exact hcap
    ·have:=ZfT x l s b.p hne hi;unfold jy at this;rw[this,<-hm];exact hlen
   ·rw[if_neg hjb]at hj;exact hoth j t (λe=>hjb e.symm) hj
  grind[jI,Qt]
 ·rcases h with ⟨l,hl,-⟩ | ⟨rfl,-,-,hv⟩
  ·have hlt:=(Ac.1 hl).1;unfold jI;rw[if_neg DH,BE];exact q4
  grind[jI]
def xS(c:Int)(t:zL):zL:=t.filter λs=>decide (s.c≠c)
def j9(c:Int)(d:zk):zk:=(d.map (xS c)).filter λt=>!t.isEmpty
def ZfX(c:Int)(d:zk):Int:=W ((d.flatten.filter λs=>decide (s.c=c)).map (·.q)).sum
theorem Zn5(c:Int)(a b:zk):j9 c (a++b)=j9 c a++j9 c b:=by simp[j9]
open Go Hp
theorem JI.begin:∀(l pre:List Stop) (T:zk) (g:Int->Option Int),JI pre T g->((pre++l).map (·.c)).Nodup->∃g',JI (pre++l) (T++l.map λs=>[s]) g'
 | [],pre,T,g,h,_=>⟨g,by simpa using h⟩
 | s :: l,pre,T,g,h,hn=>by
  have hs:s.c ∉ pre.map (·.c):=by
   rw[List.map_append,Di]at hn;exact λhm=>hn.2.2 _ hm s.c DI rfl
  obtain⟨g',h'⟩:=JI.begin l (pre++[s]) (T++[[s]]) _ (h.snoc s hs) (by simpa using hn);exact⟨g',by simpa using h'⟩
theorem Zck{α:Type}(f:α->Int):∀(T:List α) (i:Nat) (a b:α),T[i]?=some a->((T.set i b).map f).sum=(T.map f).sum-f a+f b
 | [],i,a,b,h=>by simp at h
 | t :: T,0,a,b,h=>by simp at h;subst h;simp;omega
 | t :: T,i+1,a,b,h=>by
  simp only[Bg]at h;simp only[AV,AA,BM];rw[Zck f T i a b h];omega
open Go Go.Proofs
theorem ZfY{x:Inst}(h:qt x):∀(l:List Int) (a:Int),0<=wy x a l/\wy x a l<=2147483648*((l.length:Int)+1)
 | [],a=>by
  have:=h a 0
  simp_all[wy]
 | c :: l,a=>by
  have h1:=h a (c+1);have h2:=ZfY h l (c+1)
  grind[wy]
theorem Xm{x:Inst}(h:qt x)(l:List Int):0<=yB x l/\yB x l<=2147483648*((l.length:Int)+1):=by
 unfold yB;split<;>simp_all[ZfY]
theorem Zcl{x:Inst}(h:qt x):∀d:zk,0<=yn x d/\yn x d<=2147483648*((d.flatten.length:Int)+d.length)
 | []=>by simp[yn]
 | t :: d=>by
  have h1:=Xm h (t.map (·.c));have h2:=Zcl h d
  grind[yn]
def Qu(d:zk):List (Nat × Nat):=(List.range (d.length+1)).flatMap λt=>(List.range ((d.getD t []).length+1)).map λp=>(t,p)
def Z1(d:zk)(s:Stop)(c:Nat × Nat):zk:=jI d ⟨c.1,c.2,0⟩ s
def Zcm(x:Inst)(d:zk)(s:Stop)(c:Nat × Nat):Int:=if c.1=d.length then W (yB x [s.c]) else uz x (d.getD c.1 []) s c.2
def Jo(x:Inst)(d:zk)(s:Stop)(c:Nat × Nat):Option Spot:=if yr x (Z1 d s c)=0 then some ⟨c.1,c.2,Zcm x d s c⟩ else none
theorem ZfZ(d:zk)(s:Stop)(b:Spot):jI d b s=Z1 d s (b.t,b.p):=rfl
theorem Zf0{d:zk}{c:Nat × Nat}:c∈Qu d<->c.1<=d.length/\c.2<=(d.getD c.1 []).length:=by grind[Qu]
abbrev Zaf(x:Inst)(d:zk)(s:Stop):Prop:=zT x [s]=1\/s.c∈d.flatten.map (·.c)\/¬(d.flatten.map (·.c)).Nodup\/x.veh<d.length
theorem Zf1{d:zk}{s:Stop}{t p:Nat}{l:zL}(hl:d[t]?=some l):Z1 d s (t,p)=d.set t (j8 l p s):=by grind[Z1,jI]
theorem Zf2(d:zk)(s:Stop)(p:Nat):Z1 d s (d.length,p)=d++[[s]]:=by simp[Z1,jI]
theorem Zn6{d:zk}{s:Stop}{c:Nat × Nat}(hc:c∈Qu d):(Z1 d s c).flatten.Perm (s :: d.flatten):=by
 obtain⟨t,p⟩:=c;obtain⟨h1,h2⟩:=Zf0.1 hc;simp only at h1 h2
 by_cases ht:t=d.length
 ·simp_all[Zf2]
 ·have hl:d[t]?=some (d.getD t []):=by rw[Aa,Ae DH];rfl
  rw[Zf1 hl]
  grind[Zcf,WC]
theorem Zn7{x:Inst}{d:zk}{s:Stop}(hd:yr x d=0){c:Nat × Nat}(hc:c∈Qu d)(h:yr x (Z1 d s c)=0):¬Zaf x d s:=by
 have hp:=Zn6 (s:=s) hc;obtain⟨g1,g2,g3⟩:=(vB x _).1 h;obtain⟨e1,e2,e3⟩:=(vB x _).1 hd;rw[(hp.map _).nodup_iff,AA,Cz]at g2;rintro(q | q | q | q)
 ·obtain⟨u,hu,hsu⟩:=Bs.1 (hp.symm.subset (Cc (a:=s)))
  grind[qZ,zT]
 ·exact g2.1 q
 ·exact q e2
 ·omega
theorem Zf3{x:Inst}{d:zk}{s:Stop}(hd:yr x d=0)(ho:¬Zaf x d s){t p:Nat}{l:zL}(hl:d[t]?=some l)(hp:p<=l.length):
  yr x (Z1 d s (t,p))=0<->W (ji l+s.q)<=x.cap/\W (jy x l+uz x l s p)<=x.len:=by
 obtain⟨e1,e2,e3⟩:=(vB x _).1 hd;have hlm:=Ab hl;have hlt:=(Ac.1 hl).1;have hm0:=e1 l hlm;have hne:l≠[]:=Zae ((Xl x l).1 hm0).1;have hb:yV x d=0:=Qt.2 e1;have hg:d.getD t []=l:=by rw[Aa,hl];rfl
 constructor
 ·intro h;obtain⟨g1,-,-⟩:=(vB x _).1 h;rw[Zf1 hl]at g1;have:=g1 (j8 l p s) (Ab (i:=t) (by simp[hlt]));obtain⟨-,-,a,b⟩:=(Xl x _).1 this;have ha:=ZfU l s p;have hw:=ZfT x l s p hne hp
  simp_all[ji,jy]
 ·rintro⟨a,b⟩;have hmem:(⟨t,p,uz x l s p⟩:Spot)∈qg x d s:=by
   unfold qg;rw[if_neg ho];refine List.mem_append_left _ (BG.2 ⟨t,AP.2 hlt,?_⟩);rw[hg,hb,hm0];unfold uZ;rw[if_neg DL];refine Cb.2 ⟨p,AP.2 DH,?_⟩;unfold uA;rw[if_pos b]
  have:=Zcj hmem
  simp_all[ZfZ]
theorem Zn8{x:Inst}{d:zk}{s:Stop}(hd:yr x d=0)(ho:¬Zaf x d s):yr x (Z1 d s (d.length,0))=0<->zT x [s]=0/\(d.length:Int)<x.veh:=by
 obtain⟨e1,e2,e3⟩:=(vB x _).1 hd;have hb:yV x d=0:=Qt.2 e1;constructor
 ·grind[vB,Zf2]
 ·rintro⟨a,b⟩;have hmem:(⟨d.length,0,W (yB x [s.c])⟩:Spot)∈qg x d s:=by
   unfold qg;rw[if_neg ho,if_pos ⟨hb,a,b⟩];exact List.mem_append_right _ DI
  have:=Zcj hmem
  simp_all[ZfZ]
theorem Zf4{α β:Type}{f:α->Option β}{l:List α}(h:∀a∈l,f a=none):l.filterMap f=[]:=DP
theorem Zf5{α β:Type}{f g:α->List β}:∀{l:List α},(∀a∈l,f a=g a)->l.flatMap f=l.flatMap g
 | [],_=>rfl
 | a :: l,h=>by rw[Az,Az,h a DI,Zf5 λb hb=>h b (by simp[hb])]
theorem Zf6{α β:Type}{f g:α->Option β}:∀{l:List α},(∀a∈l,f a=g a)->l.filterMap f=l.filterMap g
 | [],_=>rfl
 | a :: l,h=>by
  have ih:=Zf6 (f:=f) (g:=g) (l:=l) λb hb=>h b (by simp[hb])
  grind
def YF(x:Inst)(d:zk)(s:Stop)(t:Nat):List Spot:=((List.range ((d.getD t []).length+1)).map λp=>(t,p)).filterMap (Jo x d s)
theorem Zf7{x:Inst}{d:zk}{s:Stop}(hd:yr x d=0):qg x d s=(List.range (d.length+1)).flatMap (YF x d s):=by
 by_cases ho:Zaf x d s
 ·unfold qg;rw[if_pos ho];symm;rw[List.flatMap_eq_nil_iff];intro t ht;rw[AP]at ht;refine Zf4 λc hc=>?_
  obtain⟨p,hp,rfl⟩:=Al.1 hc;rw[AP]at hp;unfold Jo;rw[if_neg];intro h;exact Zn7 hd (Zf0.2 ⟨by omega,by simp only;omega⟩) h ho
 ·unfold qg;obtain⟨e1,e2,e3⟩:=(vB x _).1 hd;have hb:yV x d=0:=Qt.2 e1;rw[if_neg ho,AL,Ar];congr 1
  ·refine Zf5 λt ht=>?_
   rw[AP]at ht;have hl:d[t]?=some (d.getD t []):=by rw[Aa,Ae ht];rfl
   have hm0:=e1 _ (Ab hl);unfold YF uZ;rw[hm0,hb,List.filterMap_map]
   by_cases hcap:x.cap<W (ji (d.getD t [])+s.q)
   ·rw[if_pos (.inr hcap)];symm;refine Zf4 λp hp=>?_
    rw[AP]at hp;simp only[Function.comp_apply];unfold Jo;rw[if_neg];rw[Zf3 hd ho hl DH];omega
   ·rw[if_neg (show ¬(0<((0:Nat):Int)-(if (0:Int)=13 then 1 else 0)\/x.cap<W (ji (d.getD t [])+s.q)) from by rintro(q | q);exact absurd q DN;exact hcap q)];refine Zf6 λp hp=>?_
    grind[Zf3,Jo,uA,Zcm]
  ·have hi:=Zn8 hd ho;simp only[Az,Cn,AH];unfold YF;rw[show d.getD d.length []=([]:zL) from by rw[Aa,An (Ag _)];rfl]
   grind[Jo,Zcm]
theorem Zf8{α β γ:Type}(f:α->List β)(g:β->Option γ):∀l:List α,(l.flatMap f).filterMap g=l.flatMap λa=>(f a).filterMap g
 | []=>rfl
 | a :: l=>by rw[Az,BV,Zf8 f g l,Az]
theorem Zn9{x:Inst}{d:zk}{s:Stop}(hd:yr x d=0):qg x d s=(Qu d).filterMap (Jo x d s):=by
 rw[Zf7 hd];unfold Qu;rw[Zf8];rfl
theorem Zf9{x:Inst}{d:zk}(h:yr x d=0):∀t∈d,t≠[]:=λt ht=>Zae ((Xl x t).1 (((vB x d).1 h).1 t ht)).1
def Qv(st:Int × Bool)(m:Int):Int × Bool:=if st.2=false\/m<st.1 then (m,true) else st
def Qw(l:List Int):Int × Bool:=l.foldl Qv (0,false)
def Xn(x:Inst)(d:zk)(s:Stop)(n:Nat):List Int:=(List.range n).filterMap λt=>bif (Qw ((YF x d s t).map (·.m))).2 then some (Qw ((YF x d s t).map (·.m))).1 else none
def Xo(x:Inst)(d:zk)(s:Stop):List Int:=yP (Xn x d s (d.length+1))
theorem Zcn:∀(l:List Int) (m:Int),(l.foldl Qv (m,true)).2=true
 | [],_=>rfl
 | a :: l,m=>by
  rw[AY];unfold Qv;split
  ·exact Zcn l a
  ·exact Zcn l m
theorem Zoa:Qw []=(0,false):=rfl
theorem Zob(a:Int)(l:List Int):Qw (a :: l)=l.foldl Qv (a,true):=by simp[Qw,Qv]
def wU(st:List Int × Int)(p:Spot):List Int × Int :=
 if (p.t:Int)≠st.2 then (st.1++[p.m],(p.t:Int)) else (st.1.set (st.1.length-1) (if p.m<st.1.getD (st.1.length-1) 0 then p.m else st.1.getD (st.1.length-1) 0),st.2)
theorem Zga(t:Nat):∀(g:List Spot) (l:List Int) (m:Int),(∀p∈g,p.t=t)->g.foldl wU (l++[m],(t:Int))=(l++[((g.map (·.m)).foldl Qv (m,true)).1],(t:Int))
 | [],l,m,_=>rfl
 | p :: g,l,m,h=>by
  have hp:=h p DI;have hs:wU (l++[m],(t:Int)) p=(l++[if p.m<m then p.m else m],(t:Int)):=by
   unfold wU;rw[hp,if_neg DI];simp
  have hm:Qv (m,true) p.m=(if p.m<m then p.m else m,true):=by
   unfold Qv
   by_cases q:p.m<m<;>simp[q]
  rw[AY,hs,AA,AY,hm];exact Zga t g l _ λq hq=>h q (by simp[hq])
theorem Zoc{t:Nat}{g:List Spot}(hg:∀p∈g,p.t=t)(l:List Int)(last:Int)(hl:last<t):
  g.foldl wU (l,last)=(l++(bif (Qw (g.map (·.m))).2 then [(Qw (g.map (·.m))).1] else []),if g=[] then last else (t:Int)):=by cases g<;>grind[Zoa,wU,Zga,Zob,Zcn]
theorem Zod{x:Inst}{d:zk}{s:Stop}{t:Nat}:∀p∈YF x d s t,p.t=t:=by grind[YF,Jo]
theorem Zgb(x:Inst)(d:zk)(s:Stop):∀n:Nat,∃last:Int,last<n/\((List.range n).flatMap (YF x d s)).foldl wU ([],-1)=(Xn x d s n,last)
 | 0=>⟨-1,by omega,rfl⟩
 | n+1=>by
  obtain⟨last,h1,h2⟩:=Zgb x d s n;rw[AL,Ar,Bw,h2];simp only[Az,Cn,AH];rw[Zoc Zod _ _ h1];refine⟨_,?_,by
   congr 1;unfold Xn;rw[AL,BV];congr 1;cases hm:(Qw ((YF x d s n).map (·.m))).2<;>simp[hm]⟩
  omega
theorem Zoe{x:Inst}{d:zk}{s:Stop}(hd:yr x d=0):((qg x d s).foldl wU ([],-1)).1=Xn x d s (d.length+1):=by
 rw[Zf7 hd];obtain⟨last,-,h⟩:=Zgb x d s (d.length+1);rw[h]
theorem Zgc:∀{a b:List Int},a.Perm b->a.Pairwise (·<=·)->b.Pairwise (·<=·)->a=b
 | [],b,h,_,_=>(List.nil_perm.1 h).symm
 | x :: a,[],h,_,_=>absurd h.symm DI
 | x :: a,y :: b,h,ha,hb=>by
  rw[Bj]at ha hb;have hxy:x=y:=by
   have h1:x∈y :: b:=h.subset DI;have h2:y∈x :: a:=h.symm.subset DI;have q1:y<=x:=by
    rcases As.1 h1 with e | e
    ·omega
    ·exact hb.1 x e
   have q2:x<=y:=by
    rcases As.1 h2 with e | e
    ·omega
    ·exact ha.1 y e
   omega
  subst hxy;rw[Zgc ((List.perm_cons x).1 h) ha.2 hb.2]
open Go Go.Proofs
theorem Zof(x:Inst)(d:zk)(s:Stop)(t:Nat):(Xn x d s t).length<=t:=by
 unfold Xn;exact AD (Cu _ _) DI
end Go.Proofs.YtcocagkbfpgmiaaGreatDoor.Pv
