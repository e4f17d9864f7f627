/- Part of a proof, packed. -/
import Derived.Test.YtcocagkbfpgmiaaGreatDoorD2
open Go.Proofs.Tryz
set_option maxRecDepth 100000
set_option maxHeartbeats 3200000
namespace Go.Proofs.YtcocagkbfpgmiaaGreatDoor.Pv
open Go
def yq(l:List Stop):List Value:=l.flatMap λs=>[.int .i64 s.c,.int .i64 s.q]
theorem Ze3(l:List Stop):l.flatMap Enc.enc=(yq l).map PV.sc:=by
 unfold yq
 induction l<;>simp_all
theorem J2(l:List Stop):(yq l).length=l.length*2:=by
 unfold yq
 induction l<;>grind
theorem ZbI(l m:List Stop):yq (l++m)=yq l++yq m:=by simp[yq]
theorem Ze4(l:List Stop)(i:Nat)(h:i<=l.length):(yq l).take (i*2)=yq (l.take i):=by grind[List.take_append_drop,yq,J2]
theorem Ze5(l:List Stop)(i:Nat)(h:i<=l.length):(yq l).drop (i*2)=yq (l.drop i):=by
 conv=>lhs;rw[<-List.take_append_drop i l,ZbI]
 grind[J2]
theorem J3(l:List Stop):∀v∈yq l,v.oneCell'=true:=by
 intro v hv;obtain⟨s,_,hs⟩:=B3.1 hv;simp at hs;rcases hs with rfl | rfl<;>rfl
theorem ZlN{V vs cur:List Value}{i n:Nat}(hi:i<n)(hV:V.length=n*2)(hv:vs.length=2)(hc:cur.take (n*2)=V)(hl:n*2+2<=cur.length):
  ((cur.take ((i+1)*2)++V.drop (i*2)++cur.drop ((i+1)*2+(V.drop (i*2)).length)).take (i*2)++vs++(cur.take ((i+1)*2)++V.drop (i*2)++cur.drop ((i+1)*2+(V.drop (i*2)).length)).drop (i*2+2)) =
   V.take (i*2)++vs++V.drop (i*2)++cur.drop ((i+1)*2+(V.drop (i*2)).length):=by
 have h1:(cur.take ((i+1)*2)).length=i*2+2:=DV
 have h2:(cur.take ((i+1)*2)++V.drop (i*2)++cur.drop ((i+1)*2+(V.drop (i*2)).length)).take (i*2)=V.take (i*2):=by
  rw[List.append_assoc,Bu DQ,Dd,Be DQ,<-hc,Dd,Be DQ]
 simp_all
theorem ZlO{V vs ROW:List Value}{i n:Nat}(hi:i<n)(hV:V.length=n*2)(hv:vs.length=2)(hc:ROW.take (i*2)=V.take (i*2)):
  ((ROW.take (i*2)++vs++ROW.drop (i*2+2)).take ((i+1)*2)++V.drop (i*2)++(ROW.take (i*2)++vs++ROW.drop (i*2+2)).drop ((i+1)*2+(V.drop (i*2)).length)) =
   V.take (i*2)++vs++V.drop (i*2)++(ROW.take (i*2)++vs++ROW.drop (i*2+2)).drop ((i+1)*2+(V.drop (i*2)).length):=by
 have h1:(ROW.take (i*2)++vs).length=(i+1)*2:=by rw[hc];simp;omega
 grind
theorem Ze6{vs:Array Value}(h:3=vs.size):∃u v x,vs=#[u,v,x]:=by
 match vs,h with
 | ⟨[u,v,x]⟩,_=>simp
theorem ZbJ{C:Ctx}{S:Store}{w:World}{R:Array Value}{V rest:List Value}(h:R.toList=V++rest)(h1:∀v∈V,v.oneCell'=true):
  (∀(i:Nat) (v:Value),i<(V.map PV.sc).length->R[i]?=some v->v.oneCell'=true)/\∀(i:Nat) (p:PV) (v:Value),(V.map PV.sc)[i]?=some p->R[i]?=some v->Rel C S w p v:=by
 have hat:∀(i:Nat) (v:Value),i<V.length->R[i]?=some v->V[i]?=some v:=by
  intro i v hi hv;rw[<-Array.getElem?_toList,h,Ap hi]at hv;exact hv
 refine⟨λi v hi hv=>h1 v (Ab (hat i v (by simpa using hi) hv)),λi p v hp hv=>?_⟩;rw[Aj]at hp;obtain⟨u,hu,rfl⟩:=Ao.1 hp;have:=hat i v (Ac.1 hu).1 hv;rw[hu]at this;cases this;exact .sc _
theorem ZlP{S:Store}{id ver:Nat}(cs:List Stop)(i:Nat)(s:Stop)(hi:i<cs.length)(hn:cs.length<=1000000)(hid:S id=.cells ver 100 (cs.flatMap Enc.enc)):
  Spec prog 338 [.sl id ver 2 0 cs.length,I i,L [s]] S (λp S'=>p=.sl id (ver+1) 2 0 (cs.length+1)/\S'=S.set id (.cells (ver+1) 100 ((cs.take i++s :: cs.drop i).flatMap Enc.enc))):=by
 refine⟨qn func338 DW rfl,?_⟩;intro C w vs hS hl hr;obtain⟨u,v,x,rfl⟩:=Ze6 hl;obtain rfl:=Q0 (hr 1 _ v rfl rfl);have hu:=hr 0 _ u rfl rfl;have hx:Rel C S w (.lst 1 [I s.c,I s.q]) x:=hr 2 _ x rfl rfl;have hvl:(yq cs).length=cs.length*2:=J2 cs;rw[Ze3]at hid ⊢;obtain⟨i0,hi0⟩:=BZ.1 Zbx;have hz:=ZeP;have hc:=Zbw;have hb:=ZeO;simp only[Program.zeroOf,Program.cellsOf,Program.bytesOf',hi0,Do,AZ,Option.getD_some,Option.some.injEq]at hz hc hb;cases hu with
 | sl h1 h2 h3 =>
  obtain⟨ad,cap,rfl,q1,q2,q3,q4⟩:=h1;have hloc:=(h3 ver (by rw[hid];rfl)).2 rfl;rcases hS.cells id ver _ _ hid with ⟨hno,hnil⟩ | ⟨b,k,c,g1,g2,g3,g4,g5,g6⟩
  ·have:=congrArg List.length hnil;simp[hvl]at this;exfalso;omega
  rcases hloc with ⟨z1,_⟩ | ⟨b',k',ad',cap',z1,z2,z3,z4⟩
  ·rw[g1]at z1;cases z1
  rw[g1]at z1;cases z1;cases z2;obtain⟨rfl,hcap⟩:=z3 rfl;rw[List.length_map,hvl]at g4
  -- what stands in the block
  have hcells:∀(j:Nat) v,(yq cs)[j]?=some v->c[j]?=some v:=by
   intro j v hj;have hjl:=(Ac.1 hj).1;have e2:c[j]?=some c[j]:=AW DQ;have:=g6 j (.sc v) _ (by rw[Aj,hj];rfl) e2;rw[e2];generalize c[j]=y at this;cases this;rfl
  have hcur:c.toList.take (cs.length*2)=yq cs:=by
   apply A6;intro j
   by_cases hj:j<cs.length*2
   ·rw[AM hj,Array.getElem?_toList];have e:(yq cs)[j]?=some (yq cs)[j]:=Af DQ;rw[e,hcells j _ e]
   ·rw[Ak DV,Ak DQ]
  have hccell:∀(j:Nat) v,(yq cs)[j]?=some v->w.cell? ⟨b,j,none⟩=some v:=λj v hj=>by
   simp only[World.cell?,g2];exact hcells j v hj
  have hnew:yq (cs.take i++s :: cs.drop i)=(yq cs).take (i*2)++[.int .i64 s.c,.int .i64 s.q]++(yq cs).drop (i*2):=by
   rw[Ze4 cs i DQ,Ze5 cs i DQ,ZbI];simp[yq]
  have hnl:(yq (cs.take i++s :: cs.drop i)).length=(cs.length+1)*2:=by rw[J2];simp;omega
  cases hx with
  | lst1 y1 y2 y3 y4 y5 y6 y7 =>
   rename_i vc vb vo cv ev fz;have y5':=y5 DR;simp only[Ad,Ah]at y5';have hvcell:∀(j:Nat) v,([.int .i64 s.c,.int .i64 s.q]:List Value)[j]?=some v->w.cell? ⟨vb,vo+j,none⟩=some v:=by
    intro j v hj;have hjl:=(Ac.1 hj).1;simp at hjl;simp only[World.cell?,y3];have e2:cv[vo+j]?=some (cv[vo+j]' DQ):=AW DQ;have:=y7 j (.sc v) _ (by
     match j,hj with
     | 0,hj=>cases hj;rfl
     | 1,hj=>cases hj;rfl) e2
    rw[if_neg DR,e2];generalize cv[vo+j]' DQ=y at this;cases this;rfl
   have hvb:vb≠b:=by
    rintro rfl;exact y4 ⟨id,k,by rw[hid];simp,g1⟩
   have newsl:∀(w':World) (b' cap':Nat),cs.length+1<=cap'->cap'<=maxLen ->
     Rel (C.at id (ver+1) (some (b',cap'*2))) (S.set id (.cells (ver+1) 100 ((yq (cs.take i++s :: cs.drop i)).map .sc))) w' (.sl id (ver+1) 2 0 (cs.length+1)) (.slice (some ⟨b',0,none⟩) (cs.length+1) cap'):=by
    intro w' b' cap' hkm hcl;refine .sl ⟨_,_,rfl,hkm,by unfold jY;omega,hcl,λ_=>⟨_,_,rfl⟩⟩ ⟨h2.1,by simp only[Ctx.at];omega⟩ λv0 hv0=>?_
    rw[q11]at hv0;cases hv0;exact⟨Ag _,λ_=>.inr ⟨b',_,_,_,by simp[Ctx.at],rfl,λ_=>⟨rfl,rfl⟩,λ_=>rfl⟩⟩
   have hsv:∀v∈([.int .i64 s.c,.int .i64 s.q]:List Value),v.oneCell'=true:=by
    intro v hv;simp at hv;rcases hv with rfl | rfl<;>rfl
   by_cases hroom:cs.length+1<=cap
   ·obtain⟨R1,hR1⟩:∃R1:Array Value,R1=(c.toList.take ((i+1)*2)++(yq cs).drop (i*2)++c.toList.drop ((i+1)*2+((yq cs).drop (i*2)).length)).toArray:=⟨_,rfl⟩;obtain⟨R2,hR2⟩:∃R2:Array Value,R2=(R1.toList.take (i*2)++([.int .i64 s.c,.int .i64 s.q]:List Value)++R1.toList.drop (i*2+2)).toArray:=⟨_,rfl⟩;have hcsz:c.size=cap*2:=g3.trans hcap.symm;have hctl:c.toList.length=cap*2:=by simpa using hcsz
    have hR2l:R2.toList=yq (cs.take i++s :: cs.drop i)++c.toList.drop ((i+1)*2+((yq cs).drop (i*2)).length):=by
     rw[hR2,hR1,hnew];simp only[];exact ZlN hi hvl rfl hcur DQ
    have hR2s:R2.size=cap*2:=by
     rw[<-Array.length_toList,hR2l];simp[hnl,hvl];omega
    refine(ZjP b cs.length cap i vb vo vc (yq cs) [.int .i64 s.c,.int .i64 s.q] w (by rw[hi0];simp[hc]) c g2 hcsz hi hroom (by unfold maxLen at q3;omega) DQ hvl rfl hvb hccell hvcell (J3 cs) hsv ev (cv.size-1) (by unfold World.shape?;rw[y3];simp;omega) R1 R2 hR1 hR2).mono ?_;rintro e w' ⟨rfl,rfl⟩;obtain⟨r1,r2⟩:=ZbJ (C:=C) (S:=S) (w:=w) hR2l (J3 _);have hb1:=setRow_heap w.drew b c R1 _ _ g2;obtain⟨t1,t2⟩:=hS.turn (l:=some (b,cap*2)) (ver':=ver+1) (cs':=(yq (cs.take i++s :: cs.drop i)).map .sc) hid DQ (λh=>absurd h DQ) (w':=(w.drew.setRow b R1).setRow b R2)
     (by
      rw[g1];refine⟨⟨rfl,rfl,rfl,by simp[World.setRow],λj hj hne=>?_⟩,CI _⟩;have hjb:j≠b:=λe=>hne (by rw[e];rfl)
      rw[setRow_other _ _ _ _ hjb,setRow_other _ _ _ _ hjb];rfl)
     (.inr ⟨b,cap*2,R2,rfl,.inr (by rw[g1];rfl),setRow_heap _ _ _ _ _ _ hb1,hR2s,by rw[List.length_map,hnl];omega,r1,r2⟩)
    exact⟨_,_,_,_,rfl,⟨rfl,rfl⟩,newsl _ b cap hroom q3,t1,t2⟩
   ·obtain⟨G,hG⟩:∃G,G=grownCap w (cs.length+1) cap 100:=⟨_,rfl⟩;have hGn:cs.length+1<=G:=by rw[hG];exact grownCap_ge w _ _ _
    have hGm:G<=maxLen:=by rw[hG];exact grownCap_le_maxLen w _ _ _ (by unfold maxLen;omega)
    obtain⟨ROW,hROW⟩:∃ROW:Array Value,ROW=((yq cs).take (i*2)).toArray++Builtin.zeroCells (Value.agg #[.int .i64 0,.int .i64 0]).cells (cs.length+1-i)++Builtin.zeroCells (Value.agg #[.int .i64 0,.int .i64 0]).cells (G-(cs.length+1)):=⟨_,rfl⟩;obtain⟨R1,hR1⟩:∃R1:Array Value,R1=(ROW.toList.take (i*2)++([.int .i64 s.c,.int .i64 s.q]:List Value)++ROW.toList.drop (i*2+2)).toArray:=⟨_,rfl⟩;obtain⟨R2,hR2⟩:∃R2:Array Value,R2=(R1.toList.take ((i+1)*2)++(yq cs).drop (i*2)++R1.toList.drop ((i+1)*2+((yq cs).drop (i*2)).length)).toArray:=⟨_,rfl⟩;have htl:((yq cs).take (i*2)).length=i*2:=DV
    have hROWs:ROW.size=G*2:=by
     rw[hROW];simp only[Cl,size_zeroCells,BL,htl];simp[Value.cells];omega
    have hROWt:ROW.toList.take (i*2)=(yq cs).take (i*2):=by
     rw[hROW];simp only[Array.toList_append];rw[List.append_assoc];exact List.take_left' htl
    have hR1s:R1.size=G*2:=by rw[hR1];simp;omega
    have hR2l:R2.toList=yq (cs.take i++s :: cs.drop i)++R1.toList.drop ((i+1)*2+((yq cs).drop (i*2)).length):=by
     rw[hR2,hR1,hnew];simp only[];exact ZlO hi hvl rfl hROWt
    have hR2s:R2.size=G*2:=by
     rw[<-Array.length_toList,hR2l];simp[hnl,hvl,hR1s];omega
    refine(ZjO b cs.length cap i vb vo vc (yq cs) [.int .i64 s.c,.int .i64 s.q] w i0 _ hi0 hz DQ hb rfl hi q1 DQ DQ hvl rfl hccell hvcell (J3 cs) hsv G hG ROW hROW R1 R2 hR1 hR2).mono ?_;rintro e w' ⟨rfl,rfl⟩;obtain⟨r1,r2⟩:=ZbJ (C:=C) (S:=S) (w:=w) hR2l (J3 _);have hb0:=Ym w.drew (.cells ROW 100);have hb1:=setRow_heap (w.drew.alloc (.cells ROW 100)) w.heap.size ROW R1 _ _ hb0;obtain⟨t1,t2⟩:=hS.turn (l:=some (w.heap.size,G*2)) (ver':=ver+1) (cs':=(yq (cs.take i++s :: cs.drop i)).map .sc) hid DQ (λh=>absurd h DQ) (w':=((w.drew.alloc (.cells ROW 100)).setRow w.heap.size R1).drew.setRow w.heap.size R2)
     ⟨⟨rfl,rfl,rfl,by simp[World.setRow],λj hj _=>by
      rw[setRow_other _ _ _ _ DQ]
      show ((w.drew.alloc (.cells ROW 100)).setRow w.heap.size R1).heap[j]?=_
      rw[setRow_other _ _ _ _ DQ];exact uW w.drew _ j hj⟩,Nat.le_succ_of_le (CI _)⟩
     (.inr ⟨w.heap.size,G*2,R2,rfl,.inl (Ag _),setRow_heap _ _ _ _ _ _ hb1,hR2s,by rw[List.length_map,hnl];omega,r1,r2⟩)
    exact⟨_,_,_,_,rfl,⟨rfl,rfl⟩,newsl _ w.heap.size G hGn hGm,t1,t2⟩
open Go
def zU(t:List Stop):Int:=(t.map (·.q)).sum
theorem X9(t:List Stop)(s:Stop):zU (t++[s])=zU t+s.q:=by simp[zU]
theorem ZbK(t:List Stop)(ht:t.length<=1048576):Pure prog 18 [.agg [L t]] (L (t.map (·.c))):=by
 refine zr func18 ntmps18 results18 λS nx hd=>?_
 refine D0 ?_;intro v0;refine D0 ?_;refine za (qt 3 3 1 rfl λv1=>?_);refine D0 ?_;refine zj (zC (λs:Nat × List Int × Nat × Nat=>s.1<=t.length/\s.2.1=(t.take s.1).map (·.c)) (λ(k,out,v,v2)=>[(1,.ptr nx v 0),(3,.sl (nx+1) v2 1 0 out.length),(4,I k)]) (λ(k,out,v,v2)=>[.cells v 42 [L t],.cells v2 3 (out.flatMap Enc.enc)]) (λs=>t.length-s.1) (0,[],v0,v1) [] DR DR DR ?_);rintro⟨k,out,v1,v2⟩ ⟨hk,ho⟩;simp only at hk ho ⊢
 repeat apply za
 refine zb ?_;refine zv rfl (λhc=>?_) (λhc=>?_)
 ·simp at hc;obtain⟨s,tl,a1,a2,a3,e1,e0⟩:=el 2 rfl t k hc;refine zh (za (zj (ze [] (zo hc e0) ?_)));have hl:out.length=k:=by rw[ho];simp;omega
  refine⟨by omega,?_⟩;refine zb ?_;exact zq (k+1,out++[s.c],v1,v2+1) [] (by simp[a3,ho];omega) DV (by simp[zu k (by omega)]) rfl DR
 ·simp at hc;have hk':k=t.length:=DQ
  subst hk';refine zx (D0 ?_);refine zZ 1 rfl ?_;exact zg (zi hd rfl (by simp[ho]))
theorem Ze7(t:List Stop)(ht:t.length<=1048576):Pure prog 16 [.agg [L t]] (I (W (zU t))):=by
 refine zr func16 ntmps16 results16 λS nx hd=>?_
 refine D0 ?_;intro v0;refine D0 ?_
 repeat apply za
 refine zb ?_;refine zj (zC (λs:Nat × Nat=>s.1<=t.length) (λ(k,v)=>[(1,.ptr nx v 0),(3,I (W (zU (t.take k)))),(4,I k)]) (λ(k,v)=>[.cells v 42 [L t]]) (λs=>t.length-s.1) (0,v0) [] DR (by simp[zU]) DR ?_);rintro⟨k,v1⟩ hk;simp only at hk ⊢
 repeat apply za
 refine zb ?_;refine zv rfl (λhc=>?_) (λhc=>?_)
 ·simp at hc;obtain⟨s,tl,a1,a2,a3,e1,e0⟩:=el 2 rfl t k hc;refine zh (za (zj (ze [] (zo hc e1) ?_)));refine zb ?_;exact zq (k+1,v1) [] hc DV (by simp[zu k (by omega),a3,X9,uZ]) rfl DR
 ·simp at hc;have hk':k=t.length:=DQ
  subst hk';refine zx (D0 ?_);exact zg (zi hd rfl DR)
theorem Ze8(l:List Int)(c:Int)(h:l.Nodup)(hc:c ∉ l):(l++[c]).Nodup:=by
 rw[Dj];exact⟨h,by simp,λa ha b hb e=>by simp at hb;subst hb;subst e;exact hc ha⟩
theorem ZbL{l:List Int}{i k:Nat}{c:Int}(hi:l[i]?=some c)(hk:l[k]?=some c)(h:k<i):¬l.Nodup:=by
 intro hn;have:=(List.getElem?_inj (Ac.1 hi).1 hn).1 (hi.trans hk.symm);omega
theorem Ze9(l:List Int)(hl:l.length<=1048576):Pure prog 95 [L l] (B (decide (¬l.Nodup))):=by
 refine zr func95 ntmps95 results95 λS nx hd=>?_
 refine D0 ?_
 repeat apply za
 refine zb ?_;refine zj (zC (λi:Nat=>i<=l.length/\(l.take i).Nodup) (λi=>[(0,L l),(3,I i)]) (λ_=>[]) (λi=>l.length-i) 0 [] DR DR DR ?_);rintro i ⟨hi,hn⟩
 repeat apply za
 refine zb ?_;refine zv rfl (λhc=>?_) (λhc=>?_)
 ·simp at hc;obtain⟨c,tl,a1,a2,a3,e0⟩:=zE rfl l i hc;refine zh (za (zj (D0 ?_)));refine zj (zC (λk:Nat=>k<=i/\c ∉ l.take k) (λk=>[(0,L l),(3,I i),(4,I k)]) (λ_=>[]) (λk=>i-k) 0 [] DR DR DR ?_);rintro k ⟨hk,hkn⟩
  repeat apply za
  refine zb ?_;refine zv rfl (λhc2=>?_) (λhc2=>?_)
  ·simp at hc2;obtain⟨c',tl',b1,b2,b3,e1⟩:=zE rfl l k DQ;have hkl:k<l.length:=DQ
   refine zh (za (zj (za (zz none (Row.pures [0,1,2,3,4,5,6,7,8] .done) mixed (zJ e0 e1 hc hkl) ?_))));refine zv rfl (λhq=>?_) (λhq=>?_)
   ·simp at hq;subst hq;refine D0 ?_;exact zg (zi hd rfl (by simp[ZbL a1 b1 hc2]))
   ·simp at hq;refine zh (zb ?_);exact zq (k+1) [] ⟨hc2,by rw[b3];simp[hkn,hq]⟩ DQ (by simp[zu k (by omega)]) rfl DR
  ·simp at hc2;have:k=i:=DQ
   subst this;refine zx (zb ?_);exact zq (k+1) [] ⟨hc,by rw[a3];exact Ze8 _ _ hn hkn⟩ DQ (by simp[zu k (by omega)]) rfl DR
 ·simp at hc;refine zx (D0 ?_);rw[Ae hc]at hn;exact zg (zi hd rfl (by simp[hn]))
open Go
theorem Wa(t:List Stop)(ht:t.length<=1048576)(S:Store)(nx:Nat)(hd:zW nx S):Spec prog 152 [.agg [L t]] S (λp S'=>∃v,p=.sl (nx+1) v 1 0 t.length/\S'=S.set (nx+1) (.cells v 3 ((t.map (·.c)).flatMap Enc.enc))):=by
 refine u6 hd func152 ntmps152 results152 ?_;refine D0 ?_;intro v0;refine D0 ?_;refine za (qt 3 3 1 rfl λv1=>?_);refine D0 ?_;refine zj (zC (λs:Nat × List Int × Nat × Nat=>s.1<=t.length/\s.2.1=(t.take s.1).map (·.c)) (λ(k,out,v,v2)=>[(3,.sl (nx+1) v2 1 0 out.length),(7,L t),(8,I t.length),(9,I k)]) (λ(k,out,v,v2)=>[.cells v 42 [L t],.cells v2 3 (out.flatMap Enc.enc)]) (λs=>t.length-s.1) (0,[],v0,v1) [] DR DR DR ?_);rintro⟨k,out,v1,v2⟩ ⟨hk,ho⟩;simp only at hk ho ⊢;refine D0 ?_;refine za (zv rfl (λhc=>?_) (λhc=>?_))
 ·simp at hc;obtain⟨s,tl,a1,a2,a3,e1,e0⟩:=el 2 rfl t k hc;refine zh (za (zj (za (ze [] (zo hc e0) ?_))));intros;have hl:out.length=k:=by rw[ho];simp;omega
  refine zb ?_;refine⟨by omega,?_⟩;refine zb ?_;exact zq (k+1,out++[s.c],v1,v2+1) [_] (by simp[a3,ho];omega) DV (by simp[zu k (by omega)]) rfl DT
 ·simp at hc;have hk':k=t.length:=DQ
  subst hk';refine zx (D0 ?_);refine zg ⟨_,_,rfl,⟨v2,by simp[ho],rfl⟩,QW hd (by simp[ho])⟩
theorem ZlQ(t:List Stop)(ht:t.length<=1048576):Pure prog 152 [.agg [L t]] (L (t.map (·.c))):=by
 have:=VH 1 (λS nx hd=>Wa t ht S nx hd) DR;rw[<-List.length_map (f:=(·.c))]at this;exact this
theorem Zfa(t:List Stop)(ht:t.length<=1048576):Pure prog 262 [.agg [L t]] (I (W (zU t))):=by
 refine zr func262 ntmps262 results262 λS nx hd=>?_
 refine D0 ?_;intro v0;refine D0 ?_
 repeat apply za
 refine zb ?_;refine zj (zC (λs:Nat × Nat=>s.1<=t.length) (λ(k,v)=>[(3,I (W (zU (t.take k)))),(7,L t),(8,I t.length),(9,I k)]) (λ(k,v)=>[.cells v 42 [L t]]) (λs=>t.length-s.1) (0,v0) [] DR (by simp[zU]) DR ?_);rintro⟨k,v1⟩ hk;simp only at hk ⊢;refine D0 ?_;refine za (zv rfl (λhc=>?_) (λhc=>?_))
 ·simp at hc;obtain⟨s,tl,a1,a2,a3,e1,e0⟩:=el 2 rfl t k hc;refine zh (za (zj (za (ze [] (zo hc e0) ?_))));intros;refine zb ?_;refine zb ?_;exact zq (k+1,v1) [_] hc DV (by simp[zu k (by omega),a3,X9,uZ]) rfl DT
 ·simp at hc;have hk':k=t.length:=DQ
  subst hk';refine zx (D0 ?_);exact zg (zi hd rfl DR)
theorem Wb(x:Inst)(t:List Stop)(ht:t.length<=1048576)(hs:∀s∈t,qb s.c):Pure prog 159 [.agg (zy x),.agg [L t]] (I (W (yE x (t.map (·.c))))):=by
 refine zr func159 ntmps159 results159 λS nx hd=>?_
 refine D0 ?_;intros;refine za (zz none (Row.pures [0,1,2,3,4] .done) mixed trivial ?_);refine zH (ZlQ _ ht) trivial ?_;refine zH (ZeZ _ _ (by simpa using ht) (by simpa using hs)) trivial ?_;exact zg (zi hd rfl rfl)
def yA(x:Inst)(d:zp):Int:=(d.map λt=>yE x (t.map (·.c))).sum
theorem ZlR(x:Inst)(d:zp)(t:zL):yA x (d++[t])=yA x d+yE x (t.map (·.c)):=by simp[yA]
structure DayOk (d:zp):Prop where
 n:d.length<=1048576
 t:∀t∈d,t.length<=1048576
 s:∀t∈d,∀s∈t,qb s.c
theorem J4(x:Inst)(d:zp)(hd':DayOk d):Pure prog 116 [.agg (zy x),.agg [L d]] (I (W (yA x d))):=by
 have hn:=hd'.n;refine zr func116 ntmps116 results116 λS nx hd=>?_
 refine D0 ?_;intro v0 v1;refine D0 ?_
 repeat apply za
 refine zb ?_;refine zj (zC (λs:Nat × Nat × Nat=>s.1<=d.length) (λ(k,v,v')=>[(2,.ptr nx v 0),(5,I (W (yA x (d.take k)))),(9,L d),(10,I d.length),(11,I k)]) (λ(k,v,v')=>[.cells v 25 (zy x),.cells v' 39 [L d]]) (λs=>d.length-s.1) (0,v0,v1) [] DR (by simp[yA]) DR ?_);rintro⟨k,v1,v2⟩ hk;simp only at hk ⊢;refine D0 ?_;refine za (zv rfl (λhc=>?_) (λhc=>?_))
 ·simp at hc;obtain⟨t,tl,a1,a2,a3,e0⟩:=zE rfl d k hc;have htd:=Ab a1;refine zh (za (zj (za (ze [] (zo hc e0) ?_))));intros;refine zb ?_;refine zt (Wb _ _ (hd'.t t htd) (hd'.s t htd)) ?_;refine zb ?_;exact zq (k+1,v1,v2) [_] hc DV (by simp[zu k (by omega),a3,ZlR,uZ,ZeD]) rfl DT
 ·simp at hc;have hk':k=d.length:=DQ
  subst hk';refine zx (D0 ?_);exact zg (zi hd rfl DR)
theorem Zfb(d:zp)(hn:d.length<=1048576)(hf:d.flatten.length<=1048576):Pure prog 153 [.agg [L d]] (L d.flatten):=by
 refine zr func153 ntmps153 results153 λS nx hd=>?_
 refine D0 ?_;intro v0;refine D0 ?_;refine za (qt 3 100 2 rfl λv1=>?_);refine D0 ?_;refine zj (zC (λs:Nat × List Stop × Nat × Nat=>s.1<=d.length/\s.2.1=(d.take s.1).flatten) (λ(k,out,v,v2)=>[(3,.sl (nx+1) v2 2 0 out.length),(7,L d),(8,I d.length),(9,I k)]) (λ(k,out,v,v2)=>[.cells v 39 [L d],.cells v2 100 (out.flatMap Enc.enc)]) (λs=>d.length-s.1) (0,[],v0,v1) [] DR DR DR ?_);rintro⟨k,out,v1,v2⟩ ⟨hk,ho⟩;simp only at hk ho ⊢;refine D0 ?_;refine za (zv rfl (λhc=>?_) (λhc=>?_))
 ·simp at hc;obtain⟨t,tl,a1,a2,a3,e0⟩:=zE rfl d k hc;refine zh (za (zj (za (ze [] (zo hc e0) ?_))));intros;have hl:out.length+t.length<=1048576:=by
   have:(out++t).length<=d.flatten.length:=by
    have e:d.flatten=(d.take (k+1)).flatten++(d.drop (k+1)).flatten:=by rw[<-List.flatten_append,List.take_append_drop]
    rw[e,a3];simp[ho]
   simp only[List.length_append]at this;omega
  refine zb ?_;refine⟨by omega,?_⟩;refine zb ?_;exact zq (k+1,out++t,v1,v2+1) [_] (by simp[a3,ho];omega) DV (by simp[zu k (by omega)]) rfl DT
 ·simp at hc;have hk':k=d.length:=DQ
  subst hk';refine zx (D0 ?_);refine zZ 1 rfl ?_;exact zg (zi hd rfl (by simp[ho]))
open Go
def qZ(x:Inst)(s:Stop):Bool:=decide (0<=s.c/\s.c<x.cust.length/\1<=s.q/\s.q<=2147483648)
def qP(x:Inst)(t:zL):Bool:=t.all (qZ x) && !t.isEmpty
def zQ(x:Inst)(t:zL):Int :=
 if qP x t=false then 1 else if ¬(t.map (·.c)).Nodup then 11 else if x.cap<W (zU t) then 12 else if x.len<W (yE x (t.map (·.c))) then 13 else 0
theorem VU{x:Inst}{t:zL}{s:Stop}{k:Nat}(h:t[k]?=some s)(hb:¬(0<=s.c/\s.c<x.cust.length/\1<=s.q/\s.q<=2147483648)):zQ x t=1:=by
 unfold zQ;rw[if_pos];unfold qP;have:t.all (qZ x)=false:=by
  rw[Bm];exact⟨s,Ab h,by simp[qZ];omega⟩
 rw[this];rfl
theorem Zfc{x:Inst}{t:zL}{k:Nat}{s:Stop}(h:(t.take k).all (qZ x)=true)(ht:t.take (k+1)=t.take k++[s])(hs:0<=s.c/\s.c<x.cust.length/\1<=s.q/\s.q<=2147483648):(t.take (k+1)).all (qZ x)=true:=by
 rw[ht,BU,h];simp[qZ];omega
theorem Zfd{x:Inst}{t:zL}(hx:x.cust.length<=1048576)(h:t.all (qZ x)=true):∀s∈t,qb s.c:=by
 intro s hs;have:=Ax.1 h s hs;simp[qZ]at this;unfold qb;omega
theorem ZlS(x:Inst)(t:zL)(hx:x.cust.length<=1048576)(ht:t.length<=1048576):Pure prog 94 [.agg (zy x),.agg [L t]] (I (zQ x t)):=by
 refine zr func94 ntmps94 results94 λS nx hd=>?_
 refine D0 ?_;intro v0 v1
 by_cases he:t=[]
 ·subst he
  repeat apply za
  refine zb ?_;refine zk rfl (D0 ?_);exact zg (zi hd rfl rfl)
 have he':¬t.length=0:=by simpa using he
 repeat apply za
 refine ze [] (zo he he') ?_;refine zm rfl (zh ?_)
 repeat apply za
 refine zb ?_;refine zj (zC (λs:Nat × Nat × Nat=>s.1<=t.length/\(t.take s.1).all (qZ x)=true) (λ(k,v,v')=>[(2,.ptr nx v 0),(3,.ptr (nx+1) v' 0),(5,I k)]) (λ(k,v,v')=>[.cells v 25 (zy x),.cells v' 42 [L t]]) (λs=>t.length-s.1) (0,v0,v1) [] DR DR DR ?_);rintro⟨k,v0,v1⟩ ⟨hk,ha⟩;simp only at hk ha ⊢
 repeat apply za
 refine zb ?_;refine zv rfl (λhc=>?_) (λhc=>?_)
 ·simp at hc;obtain⟨s,tl,a1,a2,a3,e1,e0⟩:=el 2 rfl t k hc;refine zh (za (zj (za (ze [] (zo hc e0) ?_))));intros
  by_cases h1:s.c<0
  ·refine za (ze [(3,27),(11,35),(16,40)] (zo h1 zB) ?_);refine zk rfl (D0 ?_);exact zg (zi hd rfl (by rw[VU a1 (by omega)];rfl))
  by_cases h2:(x.cust.length:Int)<=s.c
  ·refine za (ze [(3,27),(11,35),(16,40)] (zA h2 h1 zB) ?_);refine zk rfl (D0 ?_);exact zg (zi hd rfl (by rw[VU a1 (by omega)];rfl))
  by_cases h3:s.q<1
  ·refine za (ze [(3,27),(11,35),(16,40)] (zJ h3 h1 h2 zB) ?_);refine zk rfl (D0 ?_);exact zg (zi hd rfl (by rw[VU a1 (by omega)];rfl))
  by_cases h4:2147483648<s.q
  ·refine za (ze [(3,27),(11,35),(16,40)] (yv h4 h1 h2 h3 zB) ?_);refine zk rfl (D0 ?_);exact zg (zi hd rfl (by rw[VU a1 (by omega)];rfl))
  refine za (ze [(3,27),(11,35),(16,40)] (zJ h1 h2 h3 h4) ?_);refine zm rfl (zh (zb ?_));exact zq (k+1,v0,v1) [_] ⟨hc,Zfc ha a3 DQ⟩ DV (by simp[zu k (by omega)]) rfl DT
 ·simp at hc;have hk':k=t.length:=DQ
  subst hk';rw[Ai]at ha;have hst:qP x t=true:=by unfold qP;rw[ha];simp[he]
  refine zx (D0 ?_);refine zt (ZbK _ ht) ?_
  repeat apply za
  refine zb ?_;refine zt (Ze9 _ (by simpa using ht)) ?_
  by_cases hn:(t.map (·.c)).Nodup
  ·refine zm (by simp[hn]) ?_;refine zh ?_
   repeat apply za
   refine zz none (Row.pures [0,1,2,3,4] .done) mixed trivial ?_;refine zH (Ze7 _ ht) trivial ?_;refine zv rfl (λh5=>?_) (λh5=>?_)
   ·simp at h5;refine D0 ?_;exact zg (zi hd rfl (by simp[zQ,hst,hn,h5]))
   ·simp at h5;refine zh ?_
    repeat apply za
    refine zz none (Row.pures [0,1,2,3,4,5] .done) mixed trivial ?_;refine zH (Ze0 _ _ (by simpa using ht) (by simpa using Zfd hx ha)) trivial ?_;refine zv rfl (λh6=>?_) (λh6=>?_)
    ·simp at h6;refine D0 ?_;exact zg (zi hd rfl (by simp[zQ,hst,hn,h6,CZ.2 h5]))
    ·simp at h6;refine zh (D0 ?_);exact zg (zi hd rfl (by simp[zQ,hst,hn,CZ.2 h6,CZ.2 h5]))
  ·refine zk (by simp[hn]) ?_;refine D0 ?_;exact zg (zi hd rfl (by simp[zQ,hst,hn]))
open Go
theorem Wc(l:List Int):(yT l).Pairwise (·<=·):=by
 have:=CD (le:=λx y:Int=>decide (x<=y)) (λa b c h1 h2=>by simp at *;omega) (λa b=>by simp;omega) l;simpa using this
theorem Zfe(l:List Int):(yT l).Perm l:=B9 l _
theorem ZbM(l:List Int):(yT l).Nodup<->l.Nodup:=(Zfe l).nodup_iff
theorem Zff{z:List Int}{j:Nat}{p c:Int}(hz:z.Pairwise (·<=·))(hn:(z.take (j+1)).Nodup)(h1:z.take (j+1)=z.take j++[p])(h2:z.take (j+1+1)=z.take (j+1)++[c])(hpc:p≠c):(z.take (j+1+1)).Nodup:=by
 rw[h2];refine Ze8 _ _ hn λhc=>?_
 have hs:(z.take (j+1+1)).Pairwise (·<=·):=hz.sublist (List.take_sublist _ _);rw[h2,h1,List.append_assoc,List.pairwise_append]at hs;rw[h1,Ay]at hc;rcases hc with hc | hc
 ·have a1:=hs.2.2 c hc p DR;have a2:=(Bh.1 hs.2.1).1 c DR;omega
 ·simp at hc;exact hpc hc.symm
theorem Zfg{S:Store}{id ver:Nat}(zs:List Int)(hid:S id=.cells ver 3 (zs.flatMap Enc.enc))(hn:zs.length<=1048576):
  Spec prog 151 [.sl id ver 1 0 zs.length] S (λp S'=>p=B (decide zs.Nodup)/\S'=S.set id .dead):=by
 refine yl func151 ntmps151 results151 λnx hd=>?_
 have hlt:id<nx:=by
  rcases Bb id nx with h | h
  ·exact h
  ·rw[hd id h]at hid;cases hid
 refine D0 ?_;refine za (xk [] DW DW λK Gc Gh hK hGc hGh X hX0 hX=>?_);simp -implicitDefEqProofs [hX0,hX]
 try clear hX0 hX X
 refine hGc _ _ _ _ _ _ _ λhsuf=>((VT zs (by rw[zD hlt];exact hid) hn).mono ?_).v
 rintro p _ rfl;refine⟨S.set id (.cells ver 3 ((yT zs).flatMap Enc.enc)),[],y9 _ hlt,?_⟩;clear hGc hGh;clear Gc Gh;refine xN hsuf (D:=[]) DW λGc Gh hGc hGh X hX0 hX=>?_
 simp -implicitDefEqProofs [hX0,hX];clear hX0 hX X;refine hK _ _ _ ?_;clear hK hGc hGh;clear K Gc Gh;generalize hz:yT zs=z;have hzl:zs.length=z.length:=by rw[<-hz,Qc]
 have hzs:z.Pairwise (·<=·):=by rw[<-hz];exact Wc zs
 have hfin:∀o,S.set id .dead o=ext (S.set id (.cells ver 3 (z.flatMap Enc.enc))) nx [] o\/S.set id .dead o=.dead:=by
  intro o
  by_cases ho:o=id
  ·subst ho;exact .inr (q11 _ _ _)
  ·rw[q10 _ _ _ _ ho]
   by_cases h2:o<nx
   ·rw[zD h2,q10 _ _ _ _ ho];exact .inl rfl
   ·exact .inr (hd o DQ)
 have hS1:(S.set id (.cells ver 3 (z.flatMap Enc.enc))) id=.cells ver 3 (z.flatMap Enc.enc):=q11 _ _ _;have hres:decide zs.Nodup=decide z.Nodup:=by rw[<-hz,decide_eq_decide,ZbM]
 rw[hres];have hzn:z.length<=1048576:=DQ
 rw[hzl];generalize S.set id (.cells ver 3 (z.flatMap Enc.enc))=S1 at *;have hx1:=zD (S:=S1) (obs:=[]) hlt
 repeat apply za
 refine zb ?_;refine zj (zC (λj:Nat=>(j=0\/j+1<=z.length)/\(z.take (j+1)).Nodup) (λj=>[(0,.sl id ver 1 0 z.length),(3,I ((j+1:Nat):Int))]) (λ_=>[]) (λj=>z.length-j) 0 [] (by cases z<;>simp) DR DR ?_);rintro j ⟨hj,hjn⟩
 repeat apply za
 refine zb ?_;refine zv rfl (λhc=>?_) (λhc=>?_)
 ·simp at hc;have hc':j+1<z.length:=DQ
  obtain⟨c,tl1,b1,b2,b3,e1⟩:=zE rfl z (j+1) hc';obtain⟨p,tl2,d1,d2,d3,e2⟩:=zE rfl z j DQ;have wj:IntKind.i64.wrap (j:Int)=j:=wr _ DQ DQ;have g1:(j:Int)<z.length:=DQ
  have g2:(j:Int)+1<z.length:=DQ
  have g3:0<=(j:Int)+1:=DQ
  refine zh (za (zj (za (zz none (Row.pures [0,1,2,3,4,5,6,7,8,9] .done) mixed (zP hx1 hS1 wj e1 e2 (zA g1 g2 g3)) ?_))));refine zv rfl (λhq=>?_) (λhq=>?_)
  ·simp at hq;refine D0 ?_;exact zg ⟨_,_,rfl,⟨by simp;exact ZbL b1 (by rw[d1,hq]) DQ,rfl⟩,hfin⟩
  ·simp at hq;refine zh (zb ?_);have w2:IntKind.i64.wrap ((j:Int)+1+1)=((j+1+1:Nat):Int):=by rw[wr _ DQ DQ];omega
   exact zq (j+1) [] ⟨by omega,Zff hzs hjn d3 b3 (λe=>hq e.symm)⟩ DQ (by simp[w2]) rfl DR
 ·simp at hc;refine zx (D0 ?_);rw[Ae DQ]at hjn;exact zg ⟨_,_,rfl,⟨by simp[hjn],rfl⟩,hfin⟩
open Go
abbrev We(x:Inst)(t:zL):List PV:=[I x.days,I x.veh,I x.cap,I x.len,L x.cust,L x.dist,L t]
theorem ZlT(x:Inst)(t:zL)(ht:t.length<=1048576):Pure prog 236 [.agg (We x t)] (B (qP x t)):=by
 have bad:∀{k:Nat} {s:Stop},t[k]?=some s->¬(0<=s.c/\s.c<x.cust.length/\1<=s.q/\s.q<=2147483648)->qP x t=false:=by
  intro k s h hb;unfold qP;have:t.all (qZ x)=false:=by
   rw[Bm];exact⟨s,Ab h,by simp[qZ];omega⟩
  rw[this];rfl
 refine zr func236 ntmps236 results236 λS nx hd=>?_
 refine D0 ?_;intro v0
 repeat apply za
 refine zb ?_;refine zj (zC (λs:Nat × Nat=>s.1<=t.length/\(t.take s.1).all (qZ x)=true) (λ(k,v)=>[(1,.ptr nx v 0),(7,L t),(8,I t.length),(9,I k)]) (λ(k,v)=>[.cells v 267 (We x t)]) (λs=>t.length-s.1) (0,v0) [] DR DR DR ?_);rintro⟨k,v0⟩ ⟨hk,ha⟩;simp only at hk ha ⊢;refine D0 ?_;refine za (zv rfl (λhc=>?_) (λhc=>?_))
 ·simp at hc;obtain⟨s,tl,a1,a2,a3,e1,e0⟩:=el 2 rfl t k hc;refine zh (za (zj (za (ze [] (zo hc e0) ?_))));intros
  by_cases h1:s.c<0
  ·repeat apply za
   refine ze [(3,16)] (zo h1 zB) ?_;refine zk rfl (D0 ?_);exact zg (zi hd rfl (by rw[bad a1 (by omega)];rfl))
  by_cases h2:(x.cust.length:Int)<=s.c
  ·repeat apply za
   refine ze [(3,16)] (zA h2 h1 zB) ?_;refine zk rfl (D0 ?_);exact zg (zi hd rfl (by rw[bad a1 (by omega)];rfl))
  repeat apply za
  refine ze [(3,16)] (zo h1 h2) ?_;refine zm rfl (zh ?_)
  by_cases h3:s.q<1
  ·refine za (ze [(3,28)] (zo h3 zB) ?_);refine zk rfl (D0 ?_);exact zg (zi hd rfl (by rw[bad a1 (by omega)];rfl))
  by_cases h4:2147483648<s.q
  ·refine za (ze [(3,28)] (zA h4 h3 zB) ?_);refine zk rfl (D0 ?_);exact zg (zi hd rfl (by rw[bad a1 (by omega)];rfl))
  refine za (ze [(3,28)] (zo h3 h4) ?_);refine zm rfl (zh (zb ?_));exact zq (k+1,v0) [_] ⟨hc,Zfc ha a3 DQ⟩ DV (by simp[zu k (by omega)]) rfl DT
 ·simp at hc;have hk':k=t.length:=DQ
  subst hk';rw[Ai]at ha;refine zx (D0 ?_);exact zg (zi hd rfl (by cases t with | nil=>rfl | cons a t=>simp[qP,ha]))
theorem ZlU(x:Inst)(t:zL)(ht:t.length<=1048576):Pure prog 237 [.agg (We x t)] (B (decide (t.map (·.c)).Nodup)):=by
 refine zr func237 ntmps237 results237 λS nx hd=>?_
 refine D0 ?_;intro v0;refine D0 ?_;refine λhsuf=>((Wa t ht _ _ jP).mono ?_).v
 rintro _ _ ⟨v1,rfl,rfl⟩;refine⟨_,_,JV _,jG [] Nat.add_assoc hsuf ?_⟩;rw[<-List.length_map (f:=λs:Stop=>s.c)];refine λhsuf=>((Zfg _ DR (by simpa using ht)).mono ?_).v
 rintro _ _ ⟨rfl,rfl⟩;refine⟨_,_,yk _ DR DR,zN hsuf ?_⟩;exact zg (zi hd rfl rfl)
theorem ZlV(x:Inst)(t:zL)(ht:t.length<=1048576):Pure prog 238 [.agg (We x t)] (B (decide (W (zU t)<=x.cap))):=by
 refine zr func238 ntmps238 results238 λS nx hd=>?_
 refine D0 ?_;intro v0;refine za (zz none (Row.pures [0,1,2,3,4,5,6,7] .done) mixed trivial ?_);refine zH (Zfa _ ht) trivial ?_;exact zg (zi hd rfl rfl)
theorem ZlW(x:Inst)(t:zL)(ht:t.length<=1048576)(hs:∀s∈t,qb s.c):Pure prog 239 [.agg (We x t)] (B (decide (W (yE x (t.map (·.c)))<=x.len))):=by
 refine zr func239 ntmps239 results239 λS nx hd=>?_
 refine D0 ?_;intro v0;refine za (zz none (Row.pures [0,1,2,3,4,5,6,7,8,9] .done) mixed trivial ?_);refine zH (Wb _ _ ht hs) trivial ?_;exact zg (zi hd rfl rfl)
abbrev Zfh:List PV:=[.fn (.func 236) [] [],I 1,.fn (.func 237) [] [],I 11,.fn (.func 238) [] [],I 12,.fn (.func 239) [] [],I 13]
theorem ZlX:Pure prog 195 [] (.lst 4 Zfh):=by
 refine zr func195 ntmps195 results195 λS nx hd=>?_
 refine D0 ?_;refine D0 ?_;exact zg (zi hd rfl rfl)
theorem Wf(x:Inst)(t:zL)(hx:x.cust.length<=1048576)(ht:t.length<=1048576):Pure prog 150 [.agg (zy x),.agg [L t]] (I (zQ x t)):=by
 refine zr func150 ntmps150 results150 λS nx hd=>?_
 refine D0 ?_;intro v0 v1
 repeat apply za
 refine zb ?_;refine zt ZlX ?_;refine zj (zC (λs:Nat × Nat × Nat=>s.1<=4/\(1<=s.1->qP x t=true)/\(2<=s.1->(t.map (·.c)).Nodup)/\(3<=s.1->W (zU t)<=x.cap)/\(4<=s.1->W (yE x (t.map (·.c)))<=x.len)) (λ(k,v,v')=>[(2,.ptr nx v 0),(3,.ptr (nx+1) v' 0),(7,.lst 4 Zfh),(8,I 4),(9,I k)]) (λ(k,v,v')=>[.cells v 25 (zy x),.cells v' 42 [L t]]) (λs=>4-s.1) (0,v0,v1) [] DR DR DR ?_);rintro⟨k,v0,v1⟩ ⟨hk,i1,i2,i3,i4⟩;simp only at hk i1 i2 i3 i4 ⊢;have hsm:1<=k->∀s∈t,qb s.c:=λh=>Zfd hx (by have:=i1 h;unfold qP at this;simp only[Av]at this;exact this.1)
 match k,hk with
 | 0,_ =>
  refine D0 ?_;refine za (zk rfl (zh (za (zj (D0 ?_)))));intros;refine D0 ?_;refine zt (ZlT x t ht) ?_;refine zv rfl (λh1=>?_) (λh1=>?_)
  ·simp at h1;refine D0 ?_;exact zg (zi hd rfl (by simp[zQ,h1]))
  ·simp at h1;refine zh (zb ?_);exact zq (1,v0,v1) [_] (by simp[h1]) DR DT rfl DT
 | 1,_ =>
  refine D0 ?_;refine za (zk rfl (zh (za (zj (D0 ?_)))));intros;refine D0 ?_;refine zt (ZlU x t ht) ?_;refine zv rfl (λh1=>?_) (λh1=>?_)
  ·simp at h1;refine D0 ?_;exact zg (zi hd rfl (by simp[zQ,h1,i1 (by omega)]))
  ·simp at h1;refine zh (zb ?_);exact zq (2,v0,v1) [_] (by simp[h1,i1 (by omega)]) DR DT rfl DT
 | 2,_ =>
  refine D0 ?_;refine za (zk rfl (zh (za (zj (D0 ?_)))));intros;refine D0 ?_;refine zt (ZlV x t ht) ?_;refine zv rfl (λh1=>?_) (λh1=>?_)
  ·simp at h1;refine D0 ?_;exact zg (zi hd rfl (by simp[zQ,h1,i1 (by omega),i2 (by omega)]))
  ·simp at h1;refine zh (zb ?_);exact zq (3,v0,v1) [_] (by simp[h1,i1 (by omega),i2 (by omega)]) DR DT rfl DT
 | 3,_ =>
  refine D0 ?_;refine za (zk rfl (zh (za (zj (D0 ?_)))));intros;refine D0 ?_;refine zt (ZlW x t ht (hsm DQ)) ?_;have h3:=CZ.2 (i3 DQ);refine zv rfl (λh1=>?_) (λh1=>?_)
  ·simp at h1;refine D0 ?_;exact zg (zi hd rfl (by simp[zQ,h1,i1 (by omega),i2 (by omega),h3]))
  ·simp at h1;refine zh (zb ?_);exact zq (4,v0,v1) [_] (by simp[h1,i1 (by omega),i2 (by omega),i3 (by omega)]) DR DT rfl DT
 | 4,_ =>
  refine D0 ?_;refine za (zm rfl (zx (D0 ?_)));exact zg (zi hd rfl (by simp[zQ,i1 DQ,i2 DQ,CZ.2 (i3 DQ),CZ.2 (i4 DQ)]))
open Go
def yg(x:Inst)(d:zp):Int :=
 match d.find? (λt=>zQ x t != 0) with
 | some t=>zQ x t
 | none=>if ¬(d.flatten.map (·.c)).Nodup then 11 else if x.veh<d.length then 14 else 0
theorem Zfi{α:Type}{p:α->Bool}{l:List α}{k:Nat}{a:α}(h:(l.take k).find? p=none)(ht:l.take (k+1)=l.take k++[a])(ha:p a=false):(l.take (k+1)).find? p=none:=by
 rw[ht,Dk,h];simp[ha]
theorem ZbN{α:Type}{p:α->Bool}{l:List α}{k:Nat}{a:α}(h:(l.take k).find? p=none)(hd:l.drop k=a :: l.drop (k+1))(ha:p a=true):l.find? p=some a:=by
 have e:l=l.take k++a :: l.drop (k+1):=by rw[<-hd,List.take_append_drop]
 rw[e,Dk,h];simp[ha]
theorem ZbO(x:Inst)(d:zp)(hx:x.cust.length<=1048576)(hn:d.length<=1048576)(ht:∀t∈d,t.length<=1048576)(hf:d.flatten.length<=1048576):Pure prog 111 [.agg (zy x),.agg [L d]] (I (yg x d)):=by
 refine zr func111 ntmps111 results111 λS nx hd=>?_
 refine D0 ?_;intro v0 v1
 repeat apply za
 refine zb ?_;refine zj (zC (λs:Nat × Nat × Nat=>s.1<=d.length/\(d.take s.1).find? (λt=>zQ x t != 0)=none) (λ(k,v,v')=>[(2,.ptr nx v 0),(3,.ptr (nx+1) v' 0),(9,L d),(10,I d.length),(11,I k)]) (λ(k,v,v')=>[.cells v 25 (zy x),.cells v' 39 [L d]]) (λs=>d.length-s.1) (0,v0,v1) [] DR DR DR ?_);rintro⟨k,v0,v1⟩ ⟨hk,ha⟩;simp only at hk ha ⊢;refine D0 ?_;refine za (zv rfl (λhc=>?_) (λhc=>?_))
 ·simp at hc;obtain⟨t,tl,a1,a2,a3,e0⟩:=zE rfl d k hc;refine zh (za (zj (za (ze [] (zo hc e0) ?_))));intros;refine D0 ?_;refine zt (Wf x t hx (ht t (Ab a1))) ?_;refine D0 ?_;refine zv rfl (λh1=>?_) (λh1=>?_)
  ·simp at h1;refine D0 ?_;exact zg (zi hd rfl (by simp only[yg,ZbN ha a2 (by simpa using h1)];simp))
  ·simp at h1;refine zh (zb ?_);exact zq (k+1,v0,v1) [_] ⟨hc,Zfi ha a3 (by simpa using h1)⟩ DV (by simp[zu k (by omega)]) rfl DT
 ·simp at hc;have hk':k=d.length:=DQ
  subst hk';rw[Ai]at ha;have hst:=Zfb d hn hf;have hres:yg x d=if ¬(d.flatten.map (·.c)).Nodup then 11 else if x.veh<d.length then 14 else 0:=by unfold yg;rw[ha]
  generalize d.flatten=fl at *;refine zx ?_
  repeat apply za
  refine zb ?_;refine zt hst ?_;refine λhsuf=>((Wa fl hf _ _ jP).mono ?_).v
  rintro _ _ ⟨v2,rfl,rfl⟩;refine⟨_,_,JV _,jG [] Nat.add_assoc hsuf ?_⟩;rw[<-List.length_map (f:=λs:Stop=>s.c)];refine λhsuf=>((Zfg _ DR (by simpa using hf)).mono ?_).v
  rintro _ _ ⟨rfl,rfl⟩;refine⟨_,_,yk _ DR DR,zN hsuf ?_⟩;refine zv rfl (λh2=>?_) (λh2=>?_)
  ·simp at h2;refine D0 ?_;exact zg (zi hd rfl (by simp[hres,h2]))
  ·simp at h2;refine zh ?_
   repeat apply za
   refine zb ?_;refine zv rfl (λh3=>?_) (λh3=>?_)
   ·simp at h3;refine D0 ?_;exact zg (zi hd rfl (by simp[hres,h2,h3]))
   ·simp at h3;refine zh (D0 ?_);exact zg (zi hd rfl (by simp[hres,h2,CZ.2 h3]))
def qQ(l:List Stop):zp:=l.map λs=>[s]
theorem ZlY(l:List Stop)(hl:l.length<=1048576):Pure prog 314 [L l] (.agg [L (qQ l)]):=by
 refine zr func314 ntmps314 results314 λS nx hd=>?_
 refine D0 ?_;intro v0;refine D0 ?_;intro v1;refine za (jg 1 0 42 1 rfl rfl λv2=>?_);refine D0 ?_;refine zj (zC (λs:Nat × zp × Nat × Nat × Nat=>s.1<=l.length/\s.2.1=qQ (l.take s.1)) (λ(k,out,v,v',v2)=>[(2,.ptr nx v 0),(3,.ptr (nx+1) v' 0),(6,L l),(7,I l.length),(8,I k)]) (λ(k,out,v,v',v2)=>[.cells v 39 [.sc (.slice none 0 0)],.cells v' 39 [.sl (nx+2) v2 1 0 out.length],.cells v2 42 (out.flatMap Enc.enc)]) (λs=>l.length-s.1) (0,[],v0,v1,v2) [] (by simp[qQ]) DR DR ?_);rintro⟨k,out,v0,v1,v2⟩ ⟨hk,ho⟩;simp only at hk ho ⊢;refine D0 ?_;refine za (zv rfl (λhc=>?_) (λhc=>?_))
 ·simp at hc;obtain⟨s,tl,a1,a2,a3,e1,e0⟩:=el 2 rfl l k hc;refine zh (za (zj (za (ze [] (zo hc e0) ?_))));intros;have hol:out.length=k:=by rw[ho];simp[qQ];omega
  refine zb ?_;refine⟨by omega,?_⟩;refine zb ?_;exact zq (k+1,out++[[s]],v0,v1,v2+1) [_] (by simp[a3,ho,qQ];omega) DV (by simp[zu k (by omega)]) rfl DT
 ·simp at hc;have hk':k=l.length:=DQ
  subst hk';refine zx (D0 ?_);refine zZ 2 rfl ?_;exact zg (zi hd DT (by simp[ho]))
open Go
theorem ZbP(s:Stop):Pure prog 309 [.agg [I s.c,I s.q]] (.agg [L [s]]):=by
 refine zr func309 ntmps309 results309 λS nx hd=>?_
 refine D0 ?_;intro v0 v1;refine D0 ?_;exact D1 hd
theorem Zfj(l:List Int)(hl:l.length<=1048576)(hs:l.Pairwise (·<=·)):Pure prog 310 [L l] (B (decide (¬l.Nodup))):=by
 refine zr func310 ntmps310 results310 λS nx hd=>?_
 refine D0 ?_
 repeat apply za
 refine zb ?_;refine zj (zC (λj:Nat=>(j=0\/j+1<=l.length)/\(l.take (j+1)).Nodup) (λj=>[(0,L l),(3,I ((j+1:Nat):Int))]) (λ_=>[]) (λj=>l.length-j) 0 [] (by cases l<;>simp) DR DR ?_);rintro j ⟨hj,hjn⟩
 repeat apply za
 refine zb ?_;refine zv rfl (λhc=>?_) (λhc=>?_)
 ·simp at hc;have hc':j+1<l.length:=DQ
  obtain⟨c,tl1,b1,b2,b3,e1⟩:=zE rfl l (j+1) hc';obtain⟨p,tl2,d1,d2,d3,e2⟩:=zE rfl l j DQ;have wj:IntKind.i64.wrap (j:Int)=j:=wr _ DQ DQ;have g1:(j:Int)<l.length:=DQ
  have g2:(j:Int)+1<l.length:=DQ
  have g3:0<=(j:Int)+1:=DQ
  refine zh (za (zj (za (zz none (Row.pures [0,1,2,3,4,5,6,7,8,9] .done) mixed (zP wj e1 e2 g1 g2 g3) ?_))));refine zv rfl (λhq=>?_) (λhq=>?_)
  ·simp at hq;refine D0 ?_;exact zg (zi hd rfl (by simp;exact ZbL b1 (by rw[d1,hq]) (by omega)))
  ·simp at hq;refine zh (zb ?_);have w2:IntKind.i64.wrap ((j:Int)+1+1)=((j+1+1:Nat):Int):=by rw[wr _ DQ DQ];omega
   exact zq (j+1) [] ⟨by omega,Zff hs hjn d3 b3 (λe=>hq e.symm)⟩ DQ (by simp[w2]) rfl DR
 ·simp at hc;refine zx (D0 ?_);rw[Ae DQ]at hjn;exact zg (zi hd rfl (by simp[hjn]))
theorem Zfk(ss:List Stop)(hss:ss.length<=1048576):Pure prog 311 [L ss] (L (yT (ss.map (·.c)))):=by
 have hcust:=λS nx hd=>Wa ss hss S nx hd
 obtain⟨zs,hzs⟩:∃zs,zs=ss.map (·.c):=⟨_,rfl⟩;have hzl:ss.length=zs.length:=by rw[hzs];simp
 rw[<-hzs,hzl]at hcust;rw[<-hzs];have hz4:=Qc zs;refine zr func311 ntmps311 results311 λS nx hd=>?_
 refine D0 ?_;refine D0 ?_;refine λhsuf=>((hcust _ _ jP).mono ?_).v
 rintro _ _ ⟨v1,rfl,rfl⟩;refine⟨_,_,JV _,jG [] Nat.add_assoc hsuf ?_⟩;refine D0 ?_;refine λhsuf=>((VT zs DR DQ).mono ?_).v
 rintro _ _ rfl;refine⟨_,_,yk _ DR DR,zN hsuf ?_⟩;generalize yT zs=c at *;rw[<-hz4];refine zZ 1 rfl ?_;refine D0 ?_;exact D1 hd
def wy(x:Inst)(l:List Stop):Int :=
 match l.find? (λs=>zQ x [s] != 0) with
 | some s=>zQ x [s]
 | none=>if ¬(l.map (·.c)).Nodup then 11 else 0
theorem ZlZ(x:Inst)(l:List Stop)(hx:x.cust.length<=1048576)(hl:l.length<=1048576):Pure prog 284 [.agg (zy x),L l] (I (wy x l)):=by
 have hcu:=Zfk l hl;have hdo:=Zfj (yT (l.map (·.c))) (by rw[Qc];simpa using hl) (Wc _);have hdd:decide (¬(yT (l.map (·.c))).Nodup)=decide (¬(l.map (·.c)).Nodup):=by rw[decide_eq_decide,ZbM]
 rw[hdd]at hdo;refine zr func284 ntmps284 results284 λS nx hd=>?_
 refine D0 ?_;intro v0
 repeat apply za
 refine zb ?_;refine zj (zC (λk:Nat=>k<=l.length/\(l.take k).find? (λs=>zQ x [s] != 0)=none) (λk=>[(1,L l),(2,.ptr nx v0 0),(8,L l),(9,I l.length),(10,I k)]) (λ_=>[.cells v0 25 (zy x)]) (λk=>l.length-k) 0 [] DR DR DR ?_);rintro k ⟨hk,ha⟩;refine D0 ?_;refine za (zv rfl (λhc=>?_) (λhc=>?_))
 ·simp at hc;obtain⟨s,tl,a1,a2,a3,e1,e0⟩:=el 2 rfl l k hc;refine zh (za (zj (za (ze [] (zA hc e1 e0) ?_))));intro v1;refine za (zz none (Row.pures [0,1,2,3,4] .done) mixed trivial ?_);refine zH (ZbP s) trivial ?_;refine zH (Wf x [s] hx DR) trivial ?_;refine D0 ?_;refine zv rfl (λh1=>?_) (λh1=>?_)
  ·simp at h1;refine D0 ?_;exact zg (zi hd rfl (by simp only[wy,ZbN ha a2 (by simpa using h1)];simp))
  ·simp at h1;refine zh (zb ?_);exact zq (k+1) [_] ⟨hc,Zfi ha a3 (by simpa using h1)⟩ DQ (by simp[zu k (by omega)]) rfl DT
 ·simp at hc;obtain rfl:k=l.length:=DQ
  rw[Ai]at ha;have hres:wy x l=if ¬(l.map (·.c)).Nodup then 11 else 0:=by unfold wy;rw[ha]
  refine zx ?_
  repeat apply za
  refine zb ?_;refine zt hcu ?_;refine zt hdo ?_
  by_cases h2:(l.map (·.c)).Nodup
  ·repeat apply za
   refine zm (by simp[h2]) ?_;refine zh (D0 ?_);exact zg (zi hd DT (by simp[hres,h2,zn]))
  ·repeat apply za
   refine zk (by simp[h2]) ?_;refine D0 ?_;exact zg (zi hd DT (by simp[hres,h2,zn]))
theorem Zl0(x:Inst)(d:zp)(hx:x.cust.length<=1048576)(hn:d.length<=1048576)(ht:∀t∈d,t.length<=1048576)(hf:d.flatten.length<=1048576):Pure prog 57 [.agg (zy x),.agg [L d]] (I (yg x d)):=by
 refine zr func57 ntmps57 results57 λS nx hd=>?_
 refine D0 ?_;intro v0 v1;refine D0 ?_;refine za (qt 5 3 1 rfl λv2=>?_);refine D0 ?_;refine zj (zC (λs:Nat × List Int × Nat=>s.1<=d.length/\s.2.1=(d.take s.1).flatten.map (·.c)/\(d.take s.1).find? (λt=>zQ x t != 0)=none) (λ(k,out,v2)=>[(2,.ptr nx v0 0),(3,.ptr (nx+1) v1 0),(5,.sl (nx+2) v2 1 0 out.length),(6,I k)]) (λ(k,out,v2)=>[.cells v0 25 (zy x),.cells v1 39 [L d],.cells v2 3 (out.flatMap Enc.enc)]) (λs=>d.length-s.1) (0,[],v2) [] DR DR DR ?_);rintro⟨k,out,v2⟩ ⟨hk,ho,ha⟩;simp only at hk ho ha ⊢;have hol:out.length=(d.take k).flatten.length:=by rw[ho,List.length_map]
 repeat apply za
 refine zb ?_;refine zv rfl (λhc=>?_) (λhc=>?_)
 ·simp at hc;obtain⟨t,tl,a1,a2,a3,e0⟩:=zE rfl d k hc;have htl:=ht t (Ab a1);have hlen:(d.take (k+1)).flatten.length<=1048576:=by
   have:(d.take (k+1)).flatten.length+(d.drop (k+1)).flatten.length=d.flatten.length:=by rw[<-List.length_append,<-List.flatten_append,List.take_append_drop]
   omega
  rw[a3,List.flatten_append,List.length_append,Bx,Dr,AD]at hlen;have hol2:out.length+t.length<=1048576:=by rw[hol];exact hlen
  refine zh (za (zj (za (zz (some [nx,nx+1]) (Row.pures [0,1,2,3,4,5,6,7] .done) mixed (zo hc e0) ?_))));refine zH (ZlS x t hx htl) trivial ?_
  by_cases hm:zQ x t=0
  ·repeat apply za
   refine ze [] hm ?_;refine zm DR ?_;refine zh (ze [] (zo hc e0) ?_);refine zt (ZbK t htl) ?_;refine⟨by omega,?_⟩;refine zb ?_;exact zq (k+1,out++t.map (·.c),v2+1) [] ⟨hc,by rw[a3,ho];simp,by rw[a3,Dk,ha];simp[hm]⟩ DV (by simp[zu k (by omega)]) rfl DR
  ·have hfi:=ZbN ha a2 (by simpa using hm)
   repeat apply za
   refine ze [] hm ?_;refine zk (by simp[hm]) ?_;refine D0 ?_;exact zg (zi hd DT (by simp only[yg,hfi,zn]))
 ·simp at hc;obtain rfl:k=d.length:=DQ
  rw[Ai]at ho ha hol;have hres:yg x d=if ¬(d.flatten.map (·.c)).Nodup then 11 else if x.veh<d.length then 14 else 0:=by unfold yg;rw[ha]
  have htw:=Ze9 out DQ;rw[<-ho]at hres;clear ho;refine zx (zZ 2 rfl ?_)
  repeat apply za
  refine zb ?_;refine zt htw ?_
  by_cases h2:out.Nodup
  ·repeat apply za
   refine zm (by simp[h2]) ?_;refine zh ?_
   repeat apply za
   refine zb ?_
   by_cases h3:x.veh<d.length
   ·repeat apply za
    refine zk (by simp[h3]) ?_;refine D0 ?_;exact zg (zi hd DT (by rw[hres];simp[h2,h3,zn]))
   ·repeat apply za
    refine zm DV ?_;refine zh (D0 ?_);exact zg (zi hd DT (by rw[hres];simp[h2,h3,zn]))
  ·repeat apply za
   refine zk (by simp[h2]) ?_;refine D0 ?_;exact zg (zi hd DT (by rw[hres];simp[h2,zn]))
open Go
structure KeyOk {α:Type} [DecidableEq α] (d:TypeDesc) (key:α->Value):Prop where
 same:∀a b,Instr.sameNow d (key a) (key b)=some (decide (a=b))
theorem Q1(k:IntKind):KeyOk (.int k) (λi:Int=>Value.int k i):=⟨λa b=>by simp[Instr.sameNow]⟩
def MapIs{α β:Type}(key:α->Value)(enc:β->PV)(es:List (Value × PV))(g:α->Option β):Prop :=
 ∃l:List (α × β),es=l.map (λx=>(key x.1,enc x.2))/\(l.map (·.1)).Nodup/\(∀a b,(a,b)∈l<->g a=some b)
def qW{α β:Type}[DecidableEq α](g:α->Option β)(a:α)(v:Option β):α->Option β:=λx=>if x=a then v else g x
theorem Zfl{α β:Type}(key:α->Value)(enc:β->PV):MapIs key enc [] (λ_=>none):=⟨[],rfl,by simp,by simp⟩
theorem Zfm{α β:Type}[DecidableEq α]{d:TypeDesc}{key:α->Value}{enc:β->PV}(hk:KeyOk d key)(a:α):∀(l:List (α × β)) (i:Nat),a ∉ l.map (·.1)->jf d (key a) (l.map λx=>(key x.1,enc x.2)) i=some none
 | [],_,_=>rfl
 | x :: l,i,h=>by
  simp only[AA,As,not_or]at h;simp only[AA,jf,hk.same,decide_eq_false h.1];exact Zfm hk a l (i+1) h.2
theorem Zfn{α β:Type}[DecidableEq α]{d:TypeDesc}{key:α->Value}{enc:β->PV}(hk:KeyOk d key)(a:α)(b:β):∀(l:List (α × β)) (i:Nat),(l.map (·.1)).Nodup->(a,b)∈l ->
  ∃j,l[j]?=some (a,b)/\jf d (key a) (l.map λx=>(key x.1,enc x.2)) i=some (some (i+j,enc b))
 | [],_,_,h=>by cases h
 | x :: l,i,hn,h=>by
  simp only[AA,Cr]at hn
  by_cases e:a=x.1
  ·have hx:x=(a,b):=by
    rcases As.1 h with h | h
    ·exact h.symm
    ·simp_all
   subst hx;exact⟨0,rfl,by simp[jf,hk.same]⟩
  ·have hm:(a,b)∈l:=by
    rcases As.1 h with h | h
    ·grind
    ·exact h
   obtain⟨j,h1,h2⟩:=Zfn hk a b l (i+1) hn.2 hm;refine⟨j+1,by simpa using h1,?_⟩;simp only[AA,jf,hk.same,decide_eq_false e];rw[h2,show i+1+j=i+(j+1) by omega]
theorem MapIs.find{α β:Type}[DecidableEq α]{d:TypeDesc}{key:α->Value}{enc:β->PV}{es:List (Value × PV)}{g:α->Option β}(hk:KeyOk d key)(h:MapIs key enc es g)(a:α):
  ∃res,jf d (key a) es 0=some res/\(g a=none->res=none)/\(∀b,g a=some b->∃j,res=some (j,enc b))/\(∀b,MapIs key enc (qU (key a) (enc b) es res) (qW g a (some b)))/\MapIs key enc (X1 es res) (qW g a none):=by
 obtain⟨l,rfl,hn,hg⟩:=h;cases hga:g a with
 | none =>
  have hna:a ∉ l.map (·.1):=by
   intro hm;obtain⟨x,hx,rfl⟩:=Al.1 hm;have:=(hg x.1 x.2).1 hx;rw[hga]at this;cases this
  have q1:∀b,MapIs key enc (qU (key a) (enc b) (l.map λx=>(key x.1,enc x.2)) none) (qW g a (some b)):=λb=>by
   refine⟨l++[(a,b)],by simp[qU],?_,λa' b'=>?_⟩
   rotate_left
   focus
    unfold qW
    by_cases e:a'=a
    ·subst e;simp only[if_pos,Ay,AY,hg,hga];simp[eq_comm]
    ·simp[Ay,hg,e]
   rw[List.map_append,Dj];refine⟨hn,by simp,λx hx y hy=>?_⟩;simp at hy;subst hy;exact λe=>hna (e ▸ hx)
  refine⟨none,Zfm hk a l 0 hna,(by intro _;rfl),(by intro b hb;cases hb),q1,l,by simp[X1],hn,λa' b'=>?_⟩
  grind[qW]
 | some b0 =>
  obtain⟨j,h1,h2⟩:=Zfn (enc:=enc) hk a b0 l 0 hn ((hg a b0).2 hga);have hj:j<l.length:=(Ac.1 h1).1;have hja:l[j]=(a,b0):=(Ac.1 h1).2;have huniq:∀(i:Nat) (hi:i<l.length),l[i].1=a->i=j:=by
   intro i hi he;have hp:=By.1 hn;rcases Nat.lt_trichotomy i j with h | h | h
   ·grind
   ·exact h
   ·grind
  suffices hh:(∀b,MapIs key enc (qU (key a) (enc b) (l.map λx=>(key x.1,enc x.2)) (some (0+j,enc b0))) (qW g a (some b)))/\MapIs key enc (X1 (l.map λx=>(key x.1,enc x.2)) (some (0+j,enc b0))) (qW g a none) from
   ⟨some (0+j,enc b0),h2,DR,DR,hh.1,hh.2⟩
  refine⟨λb=>⟨l.set j (a,b),?_,?_,λa' b'=>?_⟩,l.eraseIdx j,?_,?_,λa' b'=>?_⟩
  ·simp[qU]
  ·grind[List.map_set]
  ·unfold qW;rw[Bg];constructor
   ·grind
   ·intro h
    by_cases e:a'=a
    ·rw[if_pos e]at h;cases h;exact⟨j,by simp_all⟩
    ·rw[if_neg e]at h;obtain⟨i,hi⟩:=Bg.1 ((hg a' b').2 h);refine⟨i,?_⟩
     grind
  ·simp only[X1,AR];apply A6
   grind
  ·grind
  ·unfold qW
   by_cases e:a'=a
   ·rw[if_pos e];refine⟨λh=>?_,λh=>by cases h⟩;obtain⟨i,hi⟩:=Bg.1 h
    grind
   ·rw[if_neg e,<-hg];refine⟨λh=>(List.eraseIdx_sublist l j).subset h,λh=>?_⟩;obtain⟨i,hi⟩:=Bg.1 h;have hij:i≠j:=by rintro rfl;rw[h1]at hi;cases hi;exact e rfl
    rw[Bg]
    by_cases hlt:i<j
    ·exact⟨i,by grind⟩
    ·refine⟨i-1,?_⟩
     grind
open Go Hp
abbrev qj:Int->Int->Bool:=λa b=>decide (a<b)
theorem Zr:Str qj:=⟨λa=>by simp,λa b c h1 h2=>by simp at *;omega,λa b h1 h2=>by simp at *;omega⟩
def yn(x:Int × Int):List PV:=[.sc (.int .i64 x.1),.sc (.int .i64 x.2)]
theorem Qd(x:Int × Int):(yn x).length=2:=rfl
abbrev qS(x:Int):Value:=.int .i64 x
structure PosOk (g:Int->Option Nat) (l:zK Int):Prop where
 here:∀i,i<l.length->g (zG l i).1=some i
 gone:∀id,(∀i,i<l.length->(zG l i).1≠id)->g id=none
abbrev ZbQ(i:Nat):PV:=.sc (.int .i64 (i:Int))
def RowIs(cs:List PV)(l:zK Int):Prop:=∃rest,cs=l.flatMap yn++rest
theorem RowIs.at{cs:List PV}{l:zK Int}(h:RowIs cs l)(i:Nat)(hi:i<l.length):∃tl,cs.drop (i*2)=.sc (.int .i64 (zG l i).1) :: .sc (.int .i64 (zG l i).2) :: tl:=by
 obtain⟨rest,rfl⟩:=h;refine⟨(l.drop (i+1)).flatMap yn++rest,?_⟩;rw[B4 (by rw[JO yn 2 Qd];omega),Zeq yn 2 Qd l i hi];have:zG l i=l[i]:=by unfold zG;simp[hi]
 rw[this];rfl
theorem RowIs.big{cs:List PV}{l:zK Int}(h:RowIs cs l):l.length*2<=cs.length:=by
 obtain⟨rest,rfl⟩:=h;rw[List.length_append,JO yn 2 Qd];omega
theorem RowIs.put{cs:List PV}{l:zK Int}(h:RowIs cs l)(i:Nat)(hi:i<l.length)(x:Int × Int):RowIs (yf cs (i*2) [.sc (.int .i64 x.1),.sc (.int .i64 x.2)]) (l.set i x):=by
 obtain⟨rest,rfl⟩:=h;refine⟨rest,?_⟩;have hl:(l.flatMap yn).length=l.length*2:=JO yn 2 Qd l
 show List.take (i*2) (l.flatMap yn++rest)++yn x++List.drop (i*2+2) (l.flatMap yn++rest)=_
 rw[Bu DQ,Y7 yn 2 Qd,show i*2+2=(i+1)*2 by omega,B4 DQ,JN yn 2 Qd]
 simp_all[AE]
theorem RowIs.take{cs:List PV}{l:zK Int}(h:RowIs cs l):cs.take (l.length*2)=l.flatMap yn:=by
 obtain⟨rest,rfl⟩:=h;rw[Bu (by rw[JO yn 2 Qd];omega),Y7 yn 2 Qd,Ai]
structure HS (S:Store) (hid hv rid mid mv:Nat) (l:zK Int) (g:Int->Option Nat):Prop where
 h:∃ver,S hid=.cells hv 445 [.sl rid ver 2 0 l.length,.mp mid mv]/\∃cs,S rid=.cells ver 449 cs/\RowIs cs l
 m:∃es,S mid=.map mv es/\MapIs qS ZbQ es g
 ne:hid≠rid/\hid≠mid/\rid≠mid
 len:l.length<=2147483648
def Offd(S:Store)(ids:List Nat)(S':Store):Prop:=∀o,o ∉ ids->S' o=S o\/S o=.dead
def Off(S:Store)(ids:List Nat)(S':Store):Prop:=∀o,o ∉ ids->S' o=S o
theorem Offd.refl(S:Store)(ids:List Nat):Offd S ids S:=λ_ _=>.inl rfl
theorem Offd.set{S T:Store}{ids:List Nat}(h:Offd S ids T){o:Nat}(ho:o∈ids\/S o=.dead)(x:Ob):Offd S ids (T.set o x):=by
 intro i hi
 by_cases e:i=o
 ·simp_all
 ·rw[jl _ _ _ _ e];exact h i hi
theorem Off.offd{S T:Store}{ids:List Nat}(h:Off S ids T):Offd S ids T:=λo ho=>.inl (h o ho)
theorem Off.trans{S T U:Store}{ids:List Nat}(h:Off S ids T)(k:Off T ids U):Off S ids U:=λo ho=>(k o ho).trans (h o ho)
def cut(S:Store)(ids:List Nat)(S':Store):Store:=λo=>if o∈ids then S' o else S o
theorem ZU(S:Store)(ids:List Nat)(S':Store):Off S ids (cut S ids S'):=λo ho=>by simp[cut,ho]
theorem Zl1(S:Store)(ids:List Nat)(S':Store){o:Nat}(h:o∈ids):cut S ids S' o=S' o:=by simp[cut,h]
theorem ZV{S S':Store}{ids:List Nat}(h:Offd S ids S'):∀o,cut S ids S' o=S' o\/cut S ids S' o=.dead:=by
 intro o;unfold cut;split
 ·simp
 ·rename_i ho;rcases h o ho with h | h<;>simp_all
theorem HS.congr{S T:Store}{hid hv rid mid mv:Nat}{l:zK Int}{g:Int->Option Nat}(h:HS S hid hv rid mid mv l g)(e:∀o∈[hid,rid,mid],T o=S o):HS T hid hv rid mid mv l g:=by
 obtain⟨ver,h1,cs,h2,hR⟩:=h.h;obtain⟨es,h3⟩:=h.m;exact⟨⟨ver,by simp_all,cs,by simp_all,hR⟩,⟨es,by simp_all⟩,h.ne,h.len⟩
theorem HS.cut{S T:Store}{hid hv rid mid mv:Nat}{l:zK Int}{g:Int->Option Nat}(h:HS T hid hv rid mid mv l g):HS (cut S [hid,rid,mid] T) hid hv rid mid mv l g:=h.congr λ_ ho=>Zl1 _ _ _ ho
theorem wU(S:Store)(o:Nat)(x:Ob)(i:Nat):S.set o x i=if i=o then x else S i:=by grind[q11,jl]
theorem Zfo{S:Store}{o i:Nat}{x:Ob}(h:S.set o x i=.dead)(hx:x≠.dead):i≠o/\S i=.dead:=by grind[wU]
theorem ue{S:Store}{o i:Nat}{x:Ob}(h:S o=x)(hx:x≠.dead)(d:S i=.dead):o≠i:=DY
theorem Zl2{S:Store}{hid hv rid mid mv:Nat}{l:zK Int}{g:Int->Option Nat}(hs:HS S hid hv rid mid mv l g):
  PCalls prog 413 [.ptr hid hv 0] S (λp S'=>p=zY l.length/\S'=S):=by
 obtain⟨ver,h1,cs,h2,hR⟩:=hs.h;refine vz func413 rfl ntmps413 (congrArg Array.toList results413) DR ?_;refine za (qI DW DT (za (yP [] DW λK hK=>?_)));simp[h1];refine hK _ _ (zg ?_);simp[Zl,zY]
theorem Zl3{S:Store}{hid hv rid mid mv:Nat}{l:zK Int}{g:Int->Option Nat}(hs:HS S hid hv rid mid mv l g)(i j:Nat)(hi:i<l.length)(hj:j<l.length):
  PCalls prog 414 [.ptr hid hv 0,zY i,zY j] S (λp S'=>p=wR (il qj (zG l i) (zG l j))/\S'=S):=by
 obtain⟨ver,h1,cs,h2,hR⟩:=hs.h;obtain⟨tl1,e1⟩:=hR.at i hi;obtain⟨tl2,e2⟩:=hR.at j hj;refine vz func414 rfl ntmps414 (congrArg Array.toList results414) DR ?_;refine za (qI DW DT (za ?_));refine QU (some [hid,rid]) (Row.pures [0,1,2,3,4,5,6,7,8,9,10,11,12,13] (.alt 14 (.alt 15 (.alt 16 (.alt 17 (.done) .stop) .stop) .stop) (.alt 15 (.alt 14 (.alt 16 (.alt 17 (.done) .stop) .stop) .stop) .stop))) mixed DW DW DW λK hK=>?_
 have z1:hid≠rid:=hs.ne.1;have tail:∀(F:Nat->PV) (T:Store) (a b:Nat),F 7=.ptr a 0 0->F 8=.ptr b 0 0->T a=.cells 0 449 (yn (zG l i))->T b=.cells 0 449 (yn (zG l j))->Offd S [] T->K F T:=by
  intro F T a b f7 f8 ta tb hoff;have fin:∀o,S o=T o\/S o=.dead:=λo=>(hoff o DR).imp Eq.symm id
  refine hK _ _ ?_;refine za (za (yP [] DW λK' hK'=>?_));simp[f7,f8,ta,tb,yn];refine hK' _ _ (zv rfl (λhc=>?_) (λhc=>?_))
  ·refine za (yP [] DW λK2 hK2=>?_);simp[f7,f8,ta,tb,yn];refine hK2 _ _ (zg ⟨_,S,rfl,⟨?_,rfl⟩,fin⟩);simp at hc;simp[il,hc,wR]
  ·refine zh (za (yP [] DW λK2 hK2=>?_));simp[f7,f8,ta,tb,yn];refine hK2 _ _ (zg ⟨_,S,rfl,⟨?_,rfl⟩,fin⟩);simp at hc;simp[il,hc,wR]
 simp[h1,h2,hi,hj,e1,e2,zY];constructor
 ·refine QV rfl DT DR λa ha=>?_
  have n1:=ue h1 DR ha;have n2:=ue h2 DR ha;simp[h1,h2,wU,n1,n2];refine QV rfl DT DR λb hb=>?_
  have n3:=Zfo hb DR;have n4:=ue h1 DR n3.2;have n5:=ue h2 DR n3.2;simp[h1,h2,wU,n1,n2,n3,n4,n5,n3.1.symm];exact tail _ _ a b rfl rfl (by simp[wU,n3.1,n3.1.symm,yn]) (by simp[wU,n3.1,n3.1.symm,yn]) (by repeat (first | exact Offd.refl _ _ | refine Offd.set ?_ (by first | exact .inr ha | exact .inr n3.2) _))
 ·refine QV rfl DT DR λa ha=>?_
  have n1:=ue h1 DR ha;have n2:=ue h2 DR ha;simp[h1,h2,wU,n1,n2];refine QV rfl DT DR λb hb=>?_
  have n3:=Zfo hb DR;have n4:=ue h1 DR n3.2;have n5:=ue h2 DR n3.2;simp[h1,h2,wU,n1,n2,n3,n4,n5,n3.1.symm];exact tail _ _ b a rfl rfl (by simp[wU,n3.1,n3.1.symm,yn]) (by simp[wU,n3.1,n3.1.symm,yn]) (by repeat (first | exact Offd.refl _ _ | refine Offd.set ?_ (by first | exact .inr ha | exact .inr n3.2) _))
theorem Zl4{S:Store}{hid hv rid mid mv:Nat}{l:zK Int}{g:Int->Option Nat}(hs:HS S hid hv rid mid mv l g)(i j:Nat)(hi:i<l.length)(hj:j<l.length):
  PCalls prog 417 [.ptr hid hv 0,zY i,zY j] S (λ_ S'=>Off S [hid,rid,mid] S'/\HS S' hid hv rid mid mv (swp l i j) (qW (qW g (zG (swp l i j) i).1 (some i)) (zG (swp l i j) j).1 (some j))):=by
 obtain⟨ver,h1,cs,h2,hR⟩:=hs.h;obtain⟨es,h3,h4⟩:=hs.m;obtain⟨z1,z2,z3⟩:=hs.ne;obtain⟨tl1,e1⟩:=hR.at i hi;obtain⟨tl2,e2⟩:=hR.at j hj;have b0:=hR.big;have b1:i*2+2<=cs.length:=DQ
 have b2:j*2+2<=cs.length:=DQ
 refine vz func417 rfl ntmps417 (congrArg Array.toList results417) DR ?_;refine za (QU (some [hid]) (Row.pures [0,1,2,3,4,5,6,7,8,9,10,11,12,13,14,15,17,18,19,20,21,22] (.alt 16 (.alt 23 (Row.pures [24] (.alt 25 (Row.pures [26] (.alt 27 (.done) .stop)) .stop)) .stop) (.alt 23 (.alt 16 (Row.pures [24] (.alt 25 (Row.pures [26] (.alt 27 (.done) .stop)) .stop)) .stop) .stop))) mixed DW DW DW λK hK=>?_);have r1:=(hR.put i hi (zG l j)).put j (by simpa using hj) (zG l i);have hsw:(l.set i (zG l j)).set j (zG l i)=swp l i j:=rfl;rw[hsw]at r1;have hsl:(swp l i j).length=l.length:=uV l i j;have tail:∀(F:Nat->PV),F 0=.ptr hid hv 0->F 1=zY i->F 2=zY j->K F (S.set rid (.cells ver 449 (yf (yf cs (i*2) [.sc (.int .i64 (zG l j).1),.sc (.int .i64 (zG l j).2)]) (j*2) [.sc (.int .i64 (zG l i).1),.sc (.int .i64 (zG l i).2)]))):=by
  intro F f0 f1 f2;refine hK _ _ ?_;generalize hcs':yf (yf cs (i*2) [.sc (.int .i64 (zG l j).1),.sc (.int .i64 (zG l j).2)]) (j*2) [.sc (.int .i64 (zG l i).1),.sc (.int .i64 (zG l i).2)]=cs' at r1;obtain⟨tl1,e1⟩:=r1.at i DQ;obtain⟨tl2,e2⟩:=r1.at j DQ;have b0:=r1.big;have b1:i*2+2<=cs'.length:=DQ
  have b2:j*2+2<=cs'.length:=DQ
  have hT:Offd S [hid,rid,mid] (S.set rid (.cells ver 449 cs')):=(Offd.refl _ _).set (.inl DR) _;have t1:S.set rid (.cells ver 449 cs') hid=_:=(jl _ _ _ _ z1).trans h1;have t2:S.set rid (.cells ver 449 cs') rid=_:=q11 _ _ _;have t3:S.set rid (.cells ver 449 cs') mid=_:=(jl _ _ _ _ (Ne.symm z3)).trans h3;generalize S.set rid (.cells ver 449 cs')=T at hT t1 t2 t3;obtain⟨res,m1,_,_,m2,_⟩:=h4.find (Q1 .i64) (zG (swp l i j) i).1;refine za (QU (some [hid,rid]) (Row.pures [0,1,2,3,4,5,6,7,8,9,10,11,12] (.alt 13 (.done) .stop)) mixed DW DW DW λK hK=>?_);simp -implicitDefEqProofs [f0,f1,f2,t1,t2,hi,hj,e1,e2,zY,b1,b2];refine Yt (.inl rfl) underlying384 underlying3 rfl rfl rfl t3 m1 ?_;simp -implicitDefEqProofs [jl,z2,z3,t1,t2];refine hK _ _ ?_;clear hK;have u1:T.set mid (.map mv (qU (qS (zG (swp l i j) i).1) (zY i) es res)) hid=_:=(jl _ _ _ _ z2).trans t1;have u2:T.set mid (.map mv (qU (qS (zG (swp l i j) i).1) (zY i) es res)) rid=_:=(jl _ _ _ _ z3).trans t2;have u3:T.set mid (.map mv (qU (qS (zG (swp l i j) i).1) (zY i) es res)) mid=_:=q11 _ _ _;have hU:Offd S [hid,rid,mid] (T.set mid (.map mv (qU (qS (zG (swp l i j) i).1) (zY i) es res))):=hT.set (.inl DR) _;have m3:=m2 i;obtain⟨res2,m4,_,_,m5,_⟩:=m3.find (Q1 .i64) (zG (swp l i j) j).1
  show PW _ _ _ _ _ _ _ (T.set mid (.map mv (qU (qS (zG (swp l i j) i).1) (zY i) es res)))
  change MapIs qS ZbQ (qU (qS (zG (swp l i j) i).1) (zY i) es res) _ at m3;generalize T.set mid (.map mv (qU (qS (zG (swp l i j) i).1) (zY i) es res))=U at u1 u2 u3 hU;refine QU (some [hid,rid]) (Row.pures [0,1,2,3,4,5,6,7,8,9,10,11,12] (.alt 13 (.done) .stop)) mixed DW DW DW λK hK=>?_
  simp -implicitDefEqProofs [f0,f1,f2,u1,u2,hi,hj,e1,e2,zY,b1,b2];refine Yt (.inl rfl) underlying384 underlying3 rfl rfl rfl u3 m4 ?_;simp -implicitDefEqProofs [jl,z2,z3,u1,u2];refine hK _ _ ⟨_,_,rfl,⟨ZU _ _ _,HS.cut ⟨⟨ver,?_,cs',?_,r1⟩,⟨_,?_,m5 j⟩,⟨z1,z2,z3⟩,?_⟩⟩,ZV (hU.set (.inl DR) _)⟩
  ·rw[jl _ _ _ _ z2,u1,hsl]
  ·rw[jl _ _ _ _ z3,u2]
  ·exact q11 _ _ _
  ·rw[hsl];exact hs.len
 simp -implicitDefEqProofs [h1,h2,hi,hj,e1,e2,zY,b1,b2,wU,z1];exact⟨tail _ rfl rfl rfl,tail _ rfl rfl rfl⟩
theorem Zl5:ElemOk prog 441 449 (.agg #[.int .i64 0,.int .i64 0]) 16 :=
 ⟨underlying441,by simp,by simp,by simp,by simp,by omega⟩
theorem Zl6{S:Store}{hid hv rid mid mv:Nat}{l:zK Int}{g:Int->Option Nat}(hs:HS S hid hv rid mid mv l g)(x:Int × Int)(hn:l.length+1<=2147483648):
  PCalls prog 416 [.ptr hid hv 0,.ifc 449 (.agg (yn x))] S (λ_ S'=>Off S [hid,rid,mid] S'/\HS S' hid hv rid mid mv (l++[x]) (qW g x.1 (some l.length))):=by
 obtain⟨ver,h1,cs,h2,hR⟩:=hs.h;obtain⟨es,h3,h4⟩:=hs.m;obtain⟨z1,z2,z3⟩:=hs.ne;have b0:=hR.big;refine vz func416 rfl ntmps416 (congrArg Array.toList results416) DR ?_;refine za (yP [] DW λK hK=>?_);simp -implicitDefEqProofs [yn];refine ZkE rfl underlying449 (by intro ms;simp) DT (p:=.tup [.agg (yn x),.sc (.bool true)]) (by simp[Zbj,yn]) ?_;simp -implicitDefEqProofs [yn];refine QV rfl DT DR λa ha=>?_
 simp -implicitDefEqProofs [yn];have n1:=ue h1 DR ha;have n2:=ue h2 DR ha;have n3:=ue h3 DR ha;refine hK _ _ ?_;clear hK;have hT:Offd S [hid,rid,mid] (S.set a (.cells 0 449 (yn x))):=(Offd.refl _ _).set (.inr ha) _;have t1:S.set a (.cells 0 449 (yn x)) hid=_:=(jl _ _ _ _ n1).trans h1;have t2:S.set a (.cells 0 449 (yn x)) rid=_:=(jl _ _ _ _ n2).trans h2;have t3:S.set a (.cells 0 449 (yn x)) mid=_:=(jl _ _ _ _ n3).trans h3;have t4:S.set a (.cells 0 449 (yn x)) a=_:=q11 _ _ _
 show PW _ _ _ _ _ _ _ (S.set a (.cells 0 449 (yn x)))
 generalize S.set a (.cells 0 449 (yn x))=T at hT t1 t2 t3 t4;refine za (qI DW DT (zv rfl (λ_=>?_) (λh=>by simp at h)));obtain⟨res,m1,_,_,m2,_⟩:=h4.find (Q1 .i64) x.1;refine za (QU (some [hid,a]) (Row.pures [0,1,2,3,4,5,6,7,8,9,10] (.alt 11 (.done) .stop)) mixed DW DW DW λK hK=>?_);simp -implicitDefEqProofs [t1,t4,yn];refine Yt (.inl rfl) underlying384 underlying3 rfl rfl rfl t3 m1 ?_;simp -implicitDefEqProofs [jl,z2,n3.symm,t1,t4,yn];refine hK _ _ ?_;clear hK;have m3:=m2 l.length;have u1:T.set mid (.map mv (qU (qS x.1) (zY l.length) es res)) hid=_:=(jl _ _ _ _ z2).trans t1;have u2:T.set mid (.map mv (qU (qS x.1) (zY l.length) es res)) rid=_:=(jl _ _ _ _ z3).trans t2;have u3:T.set mid (.map mv (qU (qS x.1) (zY l.length) es res)) mid=_:=q11 _ _ _;have u4:T.set mid (.map mv (qU (qS x.1) (zY l.length) es res)) a=_:=(jl _ _ _ _ n3.symm).trans t4;have hU:Offd S [hid,rid,mid] (T.set mid (.map mv (qU (qS x.1) (zY l.length) es res))):=hT.set (.inl DR) _
 show PW _ _ _ _ _ _ _ (T.set mid (.map mv (qU (qS x.1) (zY l.length) es res)))
 change MapIs qS ZbQ (qU (qS x.1) (zY l.length) es res) _ at m3;generalize T.set mid (.map mv (qU (qS x.1) (zY l.length) es res))=U at u1 u2 u3 u4 hU;refine QU (some [a]) (Row.pures [0,1,2,3,5,6] (.alt 4 (.alt 7 (Row.pures [8,9] (.alt 10 (.done) .stop)) .stop) .stop)) mixed DW DW DW λK hK=>?_
 simp -implicitDefEqProofs [u1,u4,yn];refine Zky rfl Zl5 DT u2 (by simpa using b0) (m:=1) (ds:=yn x) (by simp[yn]) DQ DQ ?_;simp -implicitDefEqProofs [wU,z1,n1.symm,n2.symm,u1,u4,yn];have r1:RowIs (cs.take (l.length*2)++yn x) (l++[x]):=⟨[],by rw[hR.take];simp⟩;refine hK _ _ ⟨_,_,rfl,⟨ZU _ _ _,HS.cut ⟨⟨ver+1,?_,_,?_,r1⟩,⟨_,?_,m3⟩,⟨z1,z2,z3⟩,?_⟩⟩,ZV ((hU.set (.inl DR) _).set (.inl DR) _)⟩
 ·rw[Zbi];simp
 ·rw[jl _ _ _ _ z1.symm,Zbi];simp[yn]
 ·rw[jl _ _ _ _ z2.symm,jl _ _ _ _ z3.symm,u3]
 ·simp;omega
theorem Zl7{S:Store}{hid hv rid mid mv:Nat}{l:zK Int}{g:Int->Option Nat}(x:Int × Int)(hs:HS S hid hv rid mid mv (l++[x]) g):
  PCalls prog 415 [.ptr hid hv 0] S (λp S'=>p=.ifc 449 (.agg (yn x))/\Off S [hid,rid,mid] S'/\HS S' hid hv rid mid mv l (qW g x.1 none)):=by
 obtain⟨ver,h1,cs,h2,hR⟩:=hs.h;obtain⟨es,h3,h4⟩:=hs.m;obtain⟨z1,z2,z3⟩:=hs.ne;have b0:=hR.big;have hlen:=hs.len;simp only[List.length_append,Ad,Ah,AR]at h1 b0 hlen;refine vz func415 rfl ntmps415 (congrArg Array.toList results415) DR ?_;have hw:IntKind.i64.wrap (l.length:Int)=l.length:=ZQ _ DQ DQ;obtain⟨tl,e1⟩:=hR.at l.length DR;have ha:zG (l++[x]) l.length=x:=by simp[zG]
 rw[ha]at e1;refine za (qI DW DT (za (yP [] DW λK hK=>?_)));simp -implicitDefEqProofs [h1,hw];refine hK _ _ ?_;clear hK;refine za (yP [] DW λK hK=>?_);have hlt:(l.length:Int)<l.length+1:=DQ
 have b1:l.length*2+2<=cs.length:=DQ
 simp -implicitDefEqProofs [h1,h2,e1,hlt];refine QV rfl DT DR λa ha=>?_
 have n1:=ue h1 DR ha;have n2:=ue h2 DR ha;have n3:=ue h3 DR ha;simp -implicitDefEqProofs;refine hK _ _ ?_;clear hK;refine za (yP [] DW λK hK=>?_);simp -implicitDefEqProofs [wU,n1,n2,h1,h2,hlt,b1];refine hK _ _ ?_;clear hK;refine za (yP [] DW λK hK=>?_);simp -implicitDefEqProofs [wU,n1,n2,z1,h1,h2,hlt,b1];refine hK _ _ ?_;clear hK;have r1:RowIs (yf cs (l.length*2) [.sc (.int .i64 0),.sc (.int .i64 0)]) l:=by
  obtain⟨rest,q⟩:=hR.put l.length DR (0,0);exact⟨yn (0,0)++rest,by rw[q,BD _ _ (Ag _)];simp⟩
 have hT:Offd S [hid,rid,mid] (((S.set a (.cells 0 449 (yn x))).set rid (.cells ver 449 (yf cs (l.length*2) [.sc (.int .i64 0),.sc (.int .i64 0)]))).set hid (.cells hv 445 [.sl rid ver 2 0 l.length,.mp mid mv])) :=
  (((Offd.refl _ _).set (.inr ha) _).set (.inl DR) _).set (.inl DR) _
 have t1:(((S.set a (.cells 0 449 (yn x))).set rid (.cells ver 449 (yf cs (l.length*2) [.sc (.int .i64 0),.sc (.int .i64 0)]))).set hid (.cells hv 445 [.sl rid ver 2 0 l.length,.mp mid mv])) hid=.cells hv 445 [.sl rid ver 2 0 l.length,.mp mid mv]:=DR
 have t2:(((S.set a (.cells 0 449 (yn x))).set rid (.cells ver 449 (yf cs (l.length*2) [.sc (.int .i64 0),.sc (.int .i64 0)]))).set hid (.cells hv 445 [.sl rid ver 2 0 l.length,.mp mid mv])) rid=.cells ver 449 (yf cs (l.length*2) [.sc (.int .i64 0),.sc (.int .i64 0)]):=by simp[wU,z1.symm]
 have t3:(((S.set a (.cells 0 449 (yn x))).set rid (.cells ver 449 (yf cs (l.length*2) [.sc (.int .i64 0),.sc (.int .i64 0)]))).set hid (.cells hv 445 [.sl rid ver 2 0 l.length,.mp mid mv])) mid=.map mv es:=by simp[wU,z2.symm,z3.symm,n3,h3]
 have t4:(((S.set a (.cells 0 449 (yn x))).set rid (.cells ver 449 (yf cs (l.length*2) [.sc (.int .i64 0),.sc (.int .i64 0)]))).set hid (.cells hv 445 [.sl rid ver 2 0 l.length,.mp mid mv])) a=.cells 0 449 (yn x):=by simp[wU,n1.symm,n2.symm]
 show PW _ _ _ _ _ _ _ (((S.set a (.cells 0 449 (yn x))).set rid (.cells ver 449 (yf cs (l.length*2) [.sc (.int .i64 0),.sc (.int .i64 0)]))).set hid (.cells hv 445 [.sl rid ver 2 0 l.length,.mp mid mv]))
 generalize (((S.set a (.cells 0 449 (yn x))).set rid (.cells ver 449 (yf cs (l.length*2) [.sc (.int .i64 0),.sc (.int .i64 0)]))).set hid (.cells hv 445 [.sl rid ver 2 0 l.length,.mp mid mv]))=T at hT t1 t2 t3 t4;obtain⟨res,m1,_,_,_,m2⟩:=h4.find (Q1 .i64) x.1;refine za (QU (some [hid,a]) (Row.pures [0,1,2,3,4,5] (.alt 6 (.done) .stop)) mixed DW DW DW λK hK=>?_);simp -implicitDefEqProofs [t1,t4,yn];refine ZkC rfl rfl underlying384 underlying3 rfl rfl rfl t3 m1 ?_;simp -implicitDefEqProofs [jl,z2,n3.symm,t1,t4,yn];refine hK _ _ ?_;clear hK;refine za (yP [] DW λK hK=>?_);simp -implicitDefEqProofs [jl,z2,n3.symm,t1,t4,yn];refine hK _ _ (zg ⟨_,_,rfl,⟨rfl,ZU _ _ _,HS.cut ⟨⟨ver,?_,_,?_,r1⟩,⟨_,?_,m2⟩,⟨z1,z2,z3⟩,?_⟩⟩,ZV (hT.set (.inl DR) _)⟩)
 ·rw[jl _ _ _ _ z2,t1]
 ·rw[jl _ _ _ _ z3,t2]
 ·exact Zbi _ _ _
 ·omega
open Go Hp
def HP(S:Store)(hid hv rid mid mv:Nat)(l:zK Int):Prop:=∃g,HS S hid hv rid mid mv l g/\PosOk g l
theorem PosOk.inj{g:Int->Option Nat}{l:zK Int}(h:PosOk g l){i j:Nat}(hi:i<l.length)(hj:j<l.length)(e:(zG l i).1=(zG l j).1):i=j:=by
 have h1:=h.here i hi;rw[e,h.here j hj]at h1
 simp_all
theorem PosOk.swp{g:Int->Option Nat}{l:zK Int}(h:PosOk g l)(i j:Nat)(hi:i<l.length)(hj:j<l.length):PosOk (qW (qW g (zG (swp l i j) i).1 (some i)) (zG (swp l i j) j).1 (some j)) (swp l i j):=by
 have at':=λk=>XM l i j k hi hj
 have ei:(zG (Hp.swp l i j) i).1=(zG l j).1:=by
  rw[at' i]
  by_cases e:i=j
  ·rw[if_pos e,e]
  ·simp_all
 have ej:(zG (Hp.swp l i j) j).1=(zG l i).1:=by rw[at' j,if_pos rfl]
 rw[ei,ej];refine⟨λk hk=>?_,λid hid=>?_⟩
 ·rw[uV]at hk;rw[at' k];unfold qW
  by_cases k1:k=j
  ·simp_all
  ·rw[if_neg k1]
   by_cases k2:k=i
   ·rw[if_pos k2];rw[if_neg (λe=>k1 (by rw[k2];exact(h.inj hj hi e).symm)),if_pos rfl,k2]
   ·rw[if_neg k2,if_neg (λe=>k2 (h.inj hk hi e)),if_neg (λe=>k1 (h.inj hk hj e))];exact h.here k hk
 ·unfold qW;have q1:=hid i (by rw[uV];exact hi);have q2:=hid j (by rw[uV];exact hj);rw[ei]at q1;rw[ej]at q2;rw[if_neg (Ne.symm q2),if_neg (Ne.symm q1)];refine h.gone id λk hk e=>?_
  grind[uV]
theorem Wg(l:zK Int)(x:Int × Int)(k:Nat)(hk:k<l.length):zG (l++[x]) k=zG l k:=by simp_all[zG,Ap]
theorem VV(l:zK Int)(x:Int × Int):zG (l++[x]) l.length=x:=by simp[zG]
theorem PosOk.push{g:Int->Option Nat}{l:zK Int}(h:PosOk g l)(x:Int × Int)(hx:g x.1=none):PosOk (qW g x.1 (some l.length)) (l++[x]):=by
 refine⟨λk hk=>?_,λid hid=>?_⟩
 ·simp only[List.length_append,Ad,Ah,AR]at hk;unfold qW
  by_cases k1:k=l.length
  ·simp_all[VV]
  ·have hk':k<l.length:=DQ
   rw[Wg l x k hk',if_neg]
   ·exact h.here k hk'
   ·intro e;have:=h.here k hk'
    simp_all
 ·have q:=hid l.length DR;rw[VV]at q;unfold qW;rw[if_neg (Ne.symm q)];refine h.gone id λk hk=>?_
  have:=hid k DV
  simp_all[Wg]
theorem PosOk.pop{g:Int->Option Nat}{l:zK Int}(x:Int × Int)(h:PosOk g (l++[x])):PosOk (qW g x.1 none) l:=by
 have hl:l.length<(l++[x]).length:=DR
 refine⟨λk hk=>?_,λid hid=>?_⟩
 ·have hk':k<(l++[x]).length:=DV
  have:=h.here k hk';rw[Wg l x k hk]at this;unfold qW;rw[if_neg]
  ·omega
  ·intro e;have:=h.inj hk' hl (by simp_all[Wg,VV]);omega
 ·unfold qW
  by_cases e:id=x.1
  ·rw[if_pos e]
  ·rw[if_neg e];refine h.gone id λk hk=>?_
   grind[VV,Wg]
theorem Zfp : JQ prog 447 "Len" 413 := by intro v w; kernel_rfl
theorem ZbR : JQ prog 447 "Less" 414 := by intro v w; kernel_rfl
theorem ZbS : JQ prog 447 "Swap" 417 := by intro v w; kernel_rfl
theorem Zl8 : JQ prog 447 "Push" 416 := by intro v w; kernel_rfl
theorem Zl9 : JQ prog 447 "Pop" 415 := by intro v w; kernel_rfl
abbrev hI(hid hv:Nat):PV:=.ifc 447 (.ptr hid hv 0)
theorem HP.len{S:Store}{hid hv rid mid mv:Nat}{l:zK Int}(h:HP S hid hv rid mid mv l):l.length<=2147483648:=by obtain⟨g,h,_⟩:=h;exact h.len
theorem HP.cut{S T:Store}{hid hv rid mid mv:Nat}{l:zK Int}(h:HP T hid hv rid mid mv l):HP (cut S [hid,rid,mid] T) hid hv rid mid mv l:=by obtain⟨g,h,k⟩:=h;exact⟨g,h.cut,k⟩
theorem Zfq{S:Store}{hid hv rid mid mv:Nat}{l:zK Int}(h:HP S hid hv rid mid mv l):PCalls prog 413 [.ptr hid hv 0] S (λp S'=>p=zY l.length/\S'=S):=by
 obtain⟨g,h,_⟩:=h;exact Zl2 h
theorem ZbT{S:Store}{hid hv rid mid mv:Nat}{l:zK Int}(h:HP S hid hv rid mid mv l)(i j:Nat)(hi:i<l.length)(hj:j<l.length):PCalls prog 414 [.ptr hid hv 0,zY i,zY j] S (λp S'=>p=wR (il qj (zG l i) (zG l j))/\S'=S):=by
 obtain⟨g,h,_⟩:=h;grind[Zl3]
theorem ZbU{S:Store}{hid hv rid mid mv:Nat}{l:zK Int}(h:HP S hid hv rid mid mv l)(i j:Nat)(hi:i<l.length)(hj:j<l.length):PCalls prog 417 [.ptr hid hv 0,zY i,zY j] S (λ_ S'=>Off S [hid,rid,mid] S'/\HP S' hid hv rid mid mv (swp l i j)):=by
 obtain⟨g,h,k⟩:=h;exact(Zl4 h i j hi hj).mono λp S' q=>⟨q.1,_,q.2,k.swp i j hi hj⟩
theorem Zma{S:Store}{hid hv rid mid mv:Nat}{l:zK Int}(h:HP S hid hv rid mid mv l)(x:Int × Int)(hx:∀i,i<l.length->(zG l i).1≠x.1)(hn:l.length+1<=2147483648):PCalls prog 416 [.ptr hid hv 0,.ifc 449 (.agg (yn x))] S (λ_ S'=>Off S [hid,rid,mid] S'/\HP S' hid hv rid mid mv (l++[x])):=by
 obtain⟨g,h,k⟩:=h;exact(Zl6 h x hn).mono λp S' q=>⟨q.1,_,q.2,k.push x (k.gone _ hx)⟩
theorem Zmb{S:Store}{hid hv rid mid mv:Nat}{l:zK Int}(x:Int × Int)(h:HP S hid hv rid mid mv (l++[x])):PCalls prog 415 [.ptr hid hv 0] S (λp S'=>p=.ifc 449 (.agg (yn x))/\Off S [hid,rid,mid] S'/\HP S' hid hv rid mid mv l):=by
 obtain⟨g,h,k⟩:=h;exact(Zl7 x h).mono λp S' q=>⟨q.1,q.2.1,_,q.2.2,k.pop x⟩
theorem Zmc(j:Nat):((j:Int)-1).tdiv 2=(ye j:Nat):=by grind[ye]
theorem Zfr{S:Store}{hid hv rid mid mv:Nat}{l:zK Int}(h:HP S hid hv rid mid mv l)(j:Nat)(hj:j<l.length):
  PCalls prog 377 [hI hid hv,zY j] S (λ_ S'=>Off S [hid,rid,mid] S'/\HP S' hid hv rid mid mv (wP qj (j+1) l j)):=by
 refine vz func377 rfl ntmps377 (congrArg Array.toList results377) DR ?_;refine zj (Za7 (λF S' m=>∃(lc:zK Int) (jc:Nat),m=jc/\jc<lc.length/\F 0=hI hid hv/\F 1=zY jc/\Off S [hid,rid,mid] S'/\HP S' hid hv rid mid mv lc/\wP qj (jc+1) lc jc=wP qj (j+1) l j) j ⟨l,j,rfl,hj,rfl,rfl,λ_ _=>rfl,h,rfl⟩ ?_);rintro jc F T ⟨lc,_,rfl,hjc,f0,f1,hoff,hp,hup⟩;have hlen:=hp.len;have w1:IntKind.i64.wrap ((jc:Int)-1)=(jc:Int)-1:=ZQ _ DQ DQ;have hpar:ye jc<=jc:=by unfold ye;omega
 have w2:IntKind.i64.wrap (ye jc:Int)=ye jc:=ZQ _ DQ DQ;refine zj (za (yP [] DW λK hK=>?_));simp -implicitDefEqProofs [f0,f1,zY,w1,Zmc,w2];refine hK _ _ ?_;clear hK
 by_cases hc:ye jc=jc
 ·refine za (za (yP [] DW λK hK=>?_));simp -implicitDefEqProofs [f0,f1,zY,hc];refine hK _ _ (zv rfl (λ_=>zx ?_) (λq=>by simp at q));refine⟨_,_,rfl,⟨ZU _ _ _,?_⟩,ZV hoff.offd⟩;rw[<-hup];unfold wP;rw[if_pos (.inl hc)];exact hp.cut
 ·refine za (za (yP [] DW λK hK=>?_));have hc':¬((ye jc:Nat):Int)=jc:=DQ
  simp -implicitDefEqProofs [f0,f1,zY,hc,hc'];refine ZS rfl rfl rfl ZbR Zby (by exact ZbT hp jc (ye jc) hjc (by omega)) λp S' hq=>?_
  obtain⟨rfl,rfl⟩:=hq;simp -implicitDefEqProofs [wR];refine hK _ _ ?_;clear hK;cases hl:il qj (zG lc jc) (zG lc (ye jc)) with
  | false =>
   refine zv rfl (λ_=>zx ?_) (λq=>by simp at q);refine⟨_,_,rfl,⟨ZU _ _ _,?_⟩,ZV hoff.offd⟩;rw[<-hup];unfold wP;rw[if_pos (.inr hl)];exact hp.cut
  | true =>
   refine zv rfl (λq=>by simp at q) (λ_=>zh (za (yP [] DW λK hK=>?_)));simp -implicitDefEqProofs [f0,f1,zY];refine ZS rfl rfl rfl ZbS Zbz (by exact ZbU hp (ye jc) jc (by omega) hjc) λp S' hq=>?_
   obtain⟨hq1,hq2⟩:=hq;refine hK _ _ ?_;clear hK;refine qI DW DT ?_;refine⟨ye jc,⟨swp lc (ye jc) jc,ye jc,rfl,by rw[uV];omega,f0,by rfl,hoff.trans hq1,hq2,?_⟩,by omega⟩
   grind[wP,ZjR]
theorem Zmd{S:Store}{hid hv rid mid mv:Nat}{l:zK Int}(h:HP S hid hv rid mid mv l)(i n:Nat)(hi:i<n)(hn:n<=l.length):
  PCalls prog 380 [hI hid hv,zY i,zY n] S (λp S'=>p=wR (decide (i<(qq qj n l i n).2))/\Off S [hid,rid,mid] S'/\HP S' hid hv rid mid mv (qq qj n l i n).1):=by
 refine vz func380 rfl ntmps380 (congrArg Array.toList results380) DR ?_;refine za (qI DW DT (za (qI DW DT (za ?_))));refine XV (Q:=λe F T=>e=.normal/\F 1=zY i/\F 7=zY (qq qj n l i n).2/\Off S [hid,rid,mid] T/\HP T hid hv rid mid mv (qq qj n l i n).1) (zj (Za7 (λF S' m=>∃(lc:zK Int) (ic:Nat),m=n-ic/\ic<n/\n<=lc.length/\F 0=hI hid hv/\F 1=zY i/\F 2=zY n/\F 7=zY ic/\Off S [hid,rid,mid] S'/\HP S' hid hv rid mid mv lc/\qq qj n lc ic n=qq qj n l i n) (n-i) ⟨l,i,rfl,hi,hn,rfl,rfl,rfl,rfl,λ_ _=>rfl,h,rfl⟩ ?_)) ?_
 rotate_left
 ·rintro e F T ⟨rfl,f1,f7,hoff,hp⟩;refine za (yP [] DW λK hK=>?_);simp -implicitDefEqProofs [f1,f7,zY];refine hK _ _ (zg ⟨_,_,rfl,⟨?_,ZU _ _ _,hp.cut⟩,ZV hoff.offd⟩);simp[wR]
 rintro _ F T ⟨lc,ic,rfl,hic,hnl,f0,f1,f2,f7,hoff,hp,hdown⟩;have hlen:=hp.len;have w1:IntKind.i64.wrap (2*(ic:Int))=2*(ic:Int):=ZQ _ DQ DQ;have w2:IntKind.i64.wrap (2*(ic:Int)+1)=((2*ic+1:Nat):Int):=by rw[ZQ _ DQ DQ];omega
 have w3:IntKind.i64.wrap (((2*ic+1:Nat):Int)+1)=((2*ic+2:Nat):Int):=by rw[ZQ _ DQ DQ];omega
 refine zj (za (yP [] DW λK hK=>?_));simp -implicitDefEqProofs only [f0,f1,f7,zY,w1,w2];generalize hk1:2*ic+1=k1 at w2 w3;simp -implicitDefEqProofs [f0,f1,f7,zY,w1,w2];refine hK _ _ ?_;clear hK
 by_cases hc:n<=k1
 ·refine za (za (yP [] DW λK hK=>?_));have hc':(n:Int)<=k1:=DQ
  simp -implicitDefEqProofs [f0,f1,f2,f7,zY,hc,hc'];refine hK _ _ (zv rfl (λ_=>zx ?_) (λq=>by simp at q));have hd:qq qj n lc ic n=(lc,ic):=by
   cases n with
   | zero=>omega
   | succ n=>unfold qq;rw[if_pos DQ]
  rw[hdown]at hd
  simp_all
 ·refine za (za (yP [] DW λK hK=>?_));have hc':¬(n:Int)<=k1:=DQ
  have hc2:¬(k1:Int)<0:=DQ
  simp -implicitDefEqProofs [f0,f1,f2,f7,zY,hc',hc2];refine hK _ _ (zv rfl (λq=>by simp at q) (λ_=>zh ?_));clear hK;refine za (qI DW DT ?_);obtain⟨c1,c2,c3,c4,c5⟩:=ZdX Zr lc ic n DQ;have hkd:jE qj lc ic n<lc.length:=DQ
  refine za (XV (Q:=λe F' T'=>e=.normal/\T'=T/\F' 0=hI hid hv/\F' 1=zY i/\F' 2=zY n/\F' 7=zY ic/\F' 9=zY (jE qj lc ic n)) ?_ ?_)
  ·generalize hk2:2*ic+2=k2 at w3;refine za (yP [] DW λK hK=>?_);simp -implicitDefEqProofs [f0,f1,f2,f7,zY,w3];refine hK _ _ ?_;clear hK
   by_cases h2:k2<n
   ·refine za (yP [] DW λK hK=>?_);have h2':(k2:Int)<n:=DQ
    simp -implicitDefEqProofs [f0,f1,f2,f7,zY,h2,h2'];refine ZS rfl rfl rfl ZbR Zby (by exact ZbT hp k2 k1 (by omega) (by omega)) λp S' hq=>?_
    obtain⟨rfl,rfl⟩:=hq;simp -implicitDefEqProofs [wR];refine hK _ _ ?_;clear hK;cases hl:il qj (zG lc k2) (zG lc k1) with
    | true =>
     refine zv rfl (λ_=>qI DW DT ?_) (λq=>by simp at q);refine⟨rfl,rfl,f0,f1,f2,f7,?_⟩;unfold jE;rw[hk1,hk2,if_pos ⟨h2,hl⟩];rfl
    | false =>
     refine zv rfl (λq=>by simp at q) (λ_=>zh ⟨rfl,rfl,f0,f1,f2,f7,?_⟩);unfold jE;rw[hk1,hk2,if_neg (by rw[hl];simp)];rfl
   ·refine za (yP [] DW λK hK=>?_);have h2':¬(k2:Int)<n:=DQ
    simp -implicitDefEqProofs [f0,f1,f2,f7,zY,h2,h2'];refine hK _ _ (zv rfl (λq=>by simp at q) (λ_=>zh ⟨rfl,rfl,f0,f1,f2,f7,?_⟩));unfold jE;rw[hk1,hk2,if_neg (λq=>h2 q.1)];rfl
  ·clear f0 f1 f2 f7 F;rintro e F S' ⟨rfl,rfl,f0,f1,f2,f7,f9⟩;have hstep:qq qj n lc ic n=if il qj (zG lc (jE qj lc ic n)) (zG lc ic)=false then (lc,ic) else qq qj n (swp lc ic (jE qj lc ic n)) (jE qj lc ic n) n:=by
    cases n with
    | zero=>omega
    | succ n =>
     grind[qq,ZjT]
   rw[hdown]at hstep;generalize hkk:jE qj lc ic n=kk at *;refine za (za (yP [] DW λK hK=>?_));simp -implicitDefEqProofs [f0,f1,f2,f7,f9,zY];refine ZS rfl rfl rfl ZbR Zby (by exact ZbT hp kk ic (by omega) (by omega)) λp S' hq=>?_
   obtain⟨rfl,rfl⟩:=hq;simp -implicitDefEqProofs [wR];refine hK _ _ ?_;clear hK;cases hl:il qj (zG lc kk) (zG lc ic) with
   | false =>
    rw[if_pos hl]at hstep;refine zv rfl (λ_=>zx ⟨rfl,f1,?_,hoff,?_⟩) (λq=>by simp at q)<;>simp_all
   | true =>
    rw[if_neg (by rw[hl];simp)]at hstep;refine zv rfl (λq=>by simp at q) (λ_=>zh (za (yP [] DW λK hK=>?_)));simp -implicitDefEqProofs [f0,f1,f2,f7,f9,zY];refine ZS rfl rfl rfl ZbS Zbz (by exact ZbU hp ic kk (by omega) hkd) λp S' hq=>?_
    obtain⟨hq1,hq2⟩:=hq;refine hK _ _ ?_;clear hK;refine qI DW (by simp[f9];rfl) ?_;refine⟨n-kk,⟨swp lc ic kk,kk,rfl,c2,by simp_all[uV],f0,f1,f2,rfl,hoff.trans hq1,hq2,hstep.symm⟩,by omega⟩
end Go.Proofs.YtcocagkbfpgmiaaGreatDoor.Pv
namespace Go.Proofs.YtcocagkbfpgmiaaGreatDoor.Hp
section
variable {α:Type} [DecidableEq α] [Inhabited α] {lt:α->α->Bool}
def ZW(lt:α->α->Bool)(l:zK α)(i n:Nat):zK α:=if i<(qq lt n l i n).2 then (qq lt n l i n).1 else wP lt (i+1) (qq lt n l i n).1 i
theorem Zme(h:Str lt)(l:zK α)(i n:Nat)(hn:n<=l.length)(hi:i<n)(inv:DownInv lt l n i):Zj lt (ZW lt l i n) n/\(ZW lt l i n).Perm l/\(ZW lt l i n).length=l.length/\∀k,n<=k->zG (ZW lt l i n) k=zG l k:=by
 obtain⟨q1,q2,q3,q4,q5,q6,q7⟩:=ZdY h n l n i hn hi DQ inv;unfold ZW;split
 ·rename_i hm;exact⟨q6 hm,q1,q2,q3⟩
 ·rename_i hm;obtain⟨r1,r2⟩:=q7 DQ;rw[r1];exact ZdW h (i+1) l n i hn hi DQ ⟨r2,inv.kids⟩
theorem Zmf{l:zK α}(x:Int × α)(h:Zj lt l l.length):UpInv lt (l++[x]) (l.length+1) l.length:=by
 have ap:∀k,k<l.length->zG (l++[x]) k=zG l k:=λk hk=>by
  unfold zG;rw[Aa,Aa,Ap hk]
 refine⟨λk k0 kn kj=>?_,λk k0 kn kp j0=>?_⟩
 ·have:=ux k0;rw[ap k DQ,ap (ye k) DQ];exact h k k0 DQ
 ·have:=ux k0;omega
theorem Zmg(hs:Str lt){l:zK α}(i n:Nat)(hi:i<n)(hn:n+1=l.length)(h:Zj lt l l.length):DownInv lt (swp l i n) n i:=by
 have at':=λk=>XM l i n k DQ DQ
 refine⟨λk k0 kn kp ki=>?_,λk k0 kn kp i0=>?_⟩
 ·have:=ux k0;rw[at' k,at' (ye k),if_neg DQ,if_neg ki,if_neg DQ,if_neg kp];exact h k k0 DQ
 ·have:=ux k0;have:=ux i0;rw[at' k,at' (ye i),if_neg DQ,if_neg DQ,if_neg DQ,if_neg DQ];have e1:=h k k0 DQ;rw[kp]at e1;exact XN hs e1 (h i i0 DQ)
theorem Zmh{l:zK α}(n:Nat)(h:Zj lt l n):Zj lt (l.take n) n:=by
 intro k k0 kn;have:=ux k0;have e:∀j,j<n->zG (l.take n) j=zG l j:=λj hj=>by
  unfold zG;rw[Aa,Aa,BG,if_pos hj]
 rw[e k kn,e (ye k) DQ];exact h k k0 kn
end
theorem Zmi{α:Type}[Inhabited α](l:zK α)(n:Nat)(hn:n+1=l.length):l=l.take n++[zG l n]:=by
 apply A6;intro k;rw[List.getElem?_append]
 by_cases h1:k<n
 ·rw[if_pos DV,BG,if_pos h1]
 ·rw[if_neg DV]
  by_cases h2:k=n
  ·subst h2;have:k<l.length:=DQ
   simp[zG,this,Be (DP this)]
  ·rw[Ak DQ,Ak DV]
end Go.Proofs.YtcocagkbfpgmiaaGreatDoor.Hp
namespace Go.Proofs.YtcocagkbfpgmiaaGreatDoor.Pv
open Go Hp
def HH(S:Store)(hid hv rid mid mv:Nat)(l:zK Int):Prop:=HP S hid hv rid mid mv l/\Zj qj l l.length
theorem HH.cut{S T:Store}{hid hv rid mid mv:Nat}{l:zK Int}(h:HH T hid hv rid mid mv l):HH (cut S [hid,rid,mid] T) hid hv rid mid mv l:=⟨h.1.cut,h.2⟩
theorem Zmj{S:Store}{hid hv rid mid mv:Nat}{l:zK Int}(h:HH S hid hv rid mid mv l)(x:Int × Int)(hx:∀i,i<l.length->(zG l i).1≠x.1)(hn:l.length+1<=2147483648):
  PCalls prog 367 [hI hid hv,.ifc 449 (.agg (yn x))] S (λ_ S'=>Off S [hid,rid,mid] S'/\∃l',HH S' hid hv rid mid mv l'/\l'.Perm (x :: l)):=by
 obtain⟨hp,hh⟩:=h;refine vz func367 rfl ntmps367 (congrArg Array.toList results367) DR ?_;refine za (yP [] DW λK hK=>?_);simp -implicitDefEqProofs;refine ZS rfl rfl rfl Zl8 Zlx (by exact Zma hp x hx hn) λp S1 hq=>?_
 obtain⟨o1,p1⟩:=hq;refine hK _ _ ?_;clear hK;refine yP [] DW λK hK=>?_
 simp -implicitDefEqProofs;refine ZS rfl rfl rfl Zfp ZeR (by exact Zfq p1) λp S2 hq=>?_
 obtain⟨rfl,rfl⟩:=hq;have w1:IntKind.i64.wrap (l.length:Int)=l.length:=ZQ _ DQ DQ;simp -implicitDefEqProofs [zY,w1];obtain⟨q1,q2,q3,_⟩:=ZdW Zr (l.length+1) (l++[x]) (l.length+1) l.length DR DQ DQ (Zmf x hh);refine QS rfl rfl rfl ZeQ (by exact Zfr p1 l.length (by simp)) λp S3 hq=>?_
 obtain⟨o3,p3⟩:=hq;refine hK _ _ ⟨_,_,rfl,⟨ZU _ _ _,_,HH.cut ⟨p3,?_⟩,q2.trans (CP (l₁:=l) (l₂:=[x]))⟩,ZV (o1.trans o3).offd⟩;rw[q3];simpa using q1
theorem Zmk{S:Store}{hid hv rid mid mv:Nat}{l:zK Int}(h:HH S hid hv rid mid mv l)(i:Nat)(hi:i<l.length):
  PCalls prog 378 [hI hid hv,zY i] S (λp S'=>p=.ifc 449 (.agg (yn (zG l i)))/\Off S [hid,rid,mid] S'/\∃l',HH S' hid hv rid mid mv l'/\(zG l i :: l').Perm l):=by
 obtain⟨hp,hh⟩:=h;have hlen:=hp.len;obtain⟨n,hn⟩:∃n,n+1=l.length:=⟨l.length-1,by omega⟩;refine vz func378 rfl ntmps378 (congrArg Array.toList results378) DR ?_;refine za (qI DW DT (za (yP [] DW λK hK=>?_)));simp -implicitDefEqProofs;refine ZS rfl rfl rfl Zfp ZeR (by exact Zfq hp) λp S2 hq=>?_
 obtain⟨rfl,rfl⟩:=hq;have w1:IntKind.i64.wrap ((l.length:Int)-1)=n:=by rw[ZQ _ DQ DQ];omega
 simp -implicitDefEqProofs [zY,w1];refine hK _ _ ?_;clear hK;refine za (XV (Q:=λe F' T'=>e=.normal/\F' 0=hI hid hv/\Off S2 [hid,rid,mid] T'/\∃l3:zK Int,HP T' hid hv rid mid mv l3/\Zj qj l3 n/\l3.Perm l/\l3.length=l.length/\zG l3 n=zG l i) ?_ ?_)
 ·refine za (qI DW (by simp[zY];rfl) ?_)
  by_cases hc:n=i
  ·refine zv rfl (λq=>by simp[hc]at q) (λ_=>zh ⟨rfl,rfl,λ_ _=>rfl,l,hp,λk k0 kn=>hh k k0 DQ,.refl _,rfl,by rw[hc]⟩)
  ·have hc':¬(n:Int)=i:=DQ
   refine zv rfl (λ_=>?_) (λq=>by simp[hc']at q);refine za (yP [] DW λK hK=>?_);simp -implicitDefEqProofs [zY];refine ZS rfl rfl rfl ZbS Zbz (by exact ZbU hp i n (by omega) (by omega)) λp S3 hq=>?_
   obtain⟨o3,p3⟩:=hq;refine hK _ _ ?_;clear hK;have inv:=Zmg Zr i n DQ hn hh;have hsl:=uV l i n;obtain⟨s1,s2,s3,s4⟩:=Zme Zr (swp l i n) i n DQ DQ inv;have hlast:zG (ZW qj (swp l i n) i n) n=zG l i:=by rw[s4 n (Ag _),XM l i n n hi DQ,if_pos rfl]
   refine za (yP [] DW λK hK=>?_);simp -implicitDefEqProofs [zY];refine QS rfl rfl rfl Zlv (by exact Zmd p3 i n (by omega) (by omega)) λp S4 hq=>?_
   obtain⟨rfl,o4,p4⟩:=hq;simp -implicitDefEqProofs [wR];refine hK _ _ ?_;clear hK
   by_cases hm:i<(qq qj n (swp l i n) i n).2
   ·refine zv rfl (λq=>by simp at q;omega) (λ_=>zh ⟨rfl,rfl,o3.trans o4,ZW qj (swp l i n) i n,?_,s1,s2.trans (W4 l _ _ hi DQ),s3.trans hsl,hlast⟩);unfold ZW;rw[if_pos hm];exact p4
   ·refine zv rfl (λ_=>?_) (λq=>by simp at q;omega);refine yP [] DW λK hK=>?_
    simp -implicitDefEqProofs [zY];have hdl:(qq qj n (swp l i n) i n).1.length=l.length:=((ZdY Zr n (swp l i n) n i DQ DQ DQ inv).2.1).trans hsl;refine QS rfl rfl rfl ZeQ (by exact Zfr p4 i (by omega)) λp S5 hq=>?_
    obtain⟨o5,p5⟩:=hq;refine hK _ _ ⟨rfl,rfl,(o3.trans o4).trans o5,ZW qj (swp l i n) i n,?_,s1,s2.trans (W4 l _ _ hi DQ),s3.trans hsl,hlast⟩;unfold ZW;rw[if_neg hm];exact p5
 ·rintro e F T ⟨rfl,f0,hoff,l3,p3,h3,pm,hl3,hx⟩;have hsp:=Zmi l3 n DQ;rw[hx]at hsp;rw[hsp]at p3 pm;refine za (yP [] DW λK hK=>?_);simp -implicitDefEqProofs [f0];refine ZS rfl rfl rfl Zl9 Zlw (by exact Zmb _ p3) λp S4 hq=>?_
  obtain⟨rfl,o4,p4⟩:=hq;have hheap:Zj qj (l3.take n) (l3.take n).length:=by
   have e:(l3.take n).length=n:=DV
   rw[e];exact Zmh n h3
  refine hK _ _ (zg ⟨_,_,rfl,⟨rfl,ZU _ _ _,_,HH.cut ⟨p4,hheap⟩,?_⟩,ZV (hoff.trans o4).offd⟩);exact(CP (l₁:=[zG l i]) (l₂:=l3.take n)).trans pm
open Go Hp
abbrev uf(a b:Int × Int):Bool:=il qj a b
def ug(r:zK Int):Prop:=r.Pairwise (λa b=>uf a b=true)
def ZX(x:Int × Int):zK Int->zK Int
 | []=>[x]
 | y :: r=>if uf x y=true then x :: y :: r else y :: ZX x r
def Yy(id:Int)(r:zK Int):zK Int:=r.filter λx=>decide (x.1≠id)
def j4(id:Int)(r:zK Int):Bool:=r.any λx=>decide (x.1=id)
theorem Wh(x:Int × Int):∀r,(ZX x r).Perm (x :: r)
 | []=>.refl _
 | y :: r=>by
  unfold ZX;split
  ·exact .refl _
  ·exact((Wh x r).cons y).trans (.swap x y r)
theorem Zml{a b c:Int × Int}(h1:uf a b=true)(h2:uf b c=true):uf a c=true:=(Yl Zr).tr _ _ _ h1 h2
theorem Zmm{a b:Int × Int}(h:uf a b=false)(hne:a.1≠b.1):uf b a=true:=by
 cases hq:uf b a with
 | true=>rfl
 | false=>exact absurd (congrArg Prod.fst ((Yl Zr).tot _ _ h hq)) hne
theorem Zfs(x:Int × Int):∀r,ug r->(∀y∈r,y.1≠x.1)->ug (ZX x r)
 | [],_,_=>by simp[ZX,ug]
 | y :: r,h,hx=>by
  unfold ZX;have h':=Bh.1 h;split
  ·rename_i hl;refine Bh.2 ⟨λz hz=>?_,h⟩;rcases As.1 hz with rfl | hz
   ·exact hl
   ·exact Zml hl (h'.1 z hz)
  ·rename_i hl;have hl':uf x y=false:=by simpa using hl
   refine Bh.2 ⟨λz hz=>?_,Zfs x r h'.2 λz hz=>hx z (Cv _ hz)⟩;rcases As.1 ((Wh x r).subset hz) with rfl | hz
   ·exact Zmm hl' (Ne.symm (hx y DR))
   ·exact h'.1 z hz
theorem Zmn(id:Int)(r:zK Int)(h:ug r):ug (Yy id r):=List.Pairwise.filter _ h
def HM(S:Store)(hid hv rid mid mv:Nat)(r:zK Int):Prop:=∃l,HH S hid hv rid mid mv l/\l.Perm r/\ug r
theorem HM.cut{S T:Store}{hid hv rid mid mv:Nat}{r:zK Int}(h:HM T hid hv rid mid mv r):HM (cut S [hid,rid,mid] T) hid hv rid mid mv r:=by obtain⟨l,h,k⟩:=h;exact⟨l,h.cut,k⟩
theorem ZbV{l:zK Int}{i:Nat}(hi:i<l.length):zG l i∈l:=by
 have:zG l i=l[i]:=by unfold zG;simp[hi]
 rw[this];exact A9 hi
theorem ZbW{l:zK Int}{x:Int × Int}(h:x∈l):∃i,i<l.length/\zG l i=x:=by
 obtain⟨i,hi,rfl⟩:=List.getElem_of_mem h;exact⟨i,hi,by unfold zG;simp[hi]⟩
theorem HS.look{S:Store}{hid hv rid mid mv:Nat}{l:zK Int}{g:Int->Option Nat}(h:HS S hid hv rid mid mv l g)(k:PosOk g l)(id:Int):∃es res,S mid=.map mv es/\jf (.int .i64) (qS id) es 0=some res /\
  ((j4 id l=false/\ZR true (.int .i64 0) res=.tup [zY 0,.sc (.bool false)])\/(j4 id l=true/\∃i,i<l.length/\(zG l i).1=id/\ZR true (.int .i64 0) res=.tup [zY i,.sc (.bool true)])):=by
 obtain⟨es,h3,h4⟩:=h.m;obtain⟨res,m1,m2,m3,_,_⟩:=h4.find (Q1 .i64) id;refine⟨es,res,h3,m1,?_⟩
 by_cases hi:∃i,i<l.length/\(zG l i).1=id
 ·obtain⟨i,hi,e⟩:=hi;refine .inr ⟨?_,i,hi,e,?_⟩
  ·simp only[j4,BF];exact⟨_,ZbV hi,by simpa using e⟩
  ·obtain⟨j,rfl⟩:=m3 i (by rw[<-e];exact k.here i hi);rfl
 ·refine .inl ⟨?_,?_⟩
  ·simp only[j4,Ct];intro x hx;obtain⟨i,hi',rfl⟩:=ZbW hx;simp;exact λe=>hi ⟨i,hi',e⟩
  ·have:=m2 (k.gone id λi hi' e=>hi ⟨i,hi',e⟩);subst this;rfl
theorem ZbX{id:Int}{l r:zK Int}(h:l.Perm r):j4 id l=j4 id r:=by
 unfold j4;rw[DB,BF,BF];exact⟨λ⟨x,hx,e⟩=>⟨x,h.subset hx,e⟩,λ⟨x,hx,e⟩=>⟨x,h.symm.subset hx,e⟩⟩
theorem Zmo{S:Store}{hid hv rid mid mv:Nat}{r:zK Int}(h:HM S hid hv rid mid mv r)(id w:Int)(hn:r.length+1<=2147483648):
  PCalls prog 348 [.ptr hid hv 0,zY id,zY w] S (λp S'=>p=wR (!j4 id r)/\Off S [hid,rid,mid] S'/\HM S' hid hv rid mid mv (bif j4 id r then r else ZX (id,w) r)):=by
 obtain⟨l,⟨hp,hh⟩,pm,hs⟩:=h;have hp0:=hp;obtain⟨g,hS,hk⟩:=hp0;obtain⟨ver,h1,cs,h2,hR⟩:=hS.h;obtain⟨es,res,h3,h4,h5⟩:=hS.look hk id;refine vz func348 rfl ntmps348 (congrArg Array.toList results348) DR ?_;refine za (qI DW DT (za (za (yP [] DW λK hK=>?_))));simp -implicitDefEqProofs [h1];refine Zm rfl underlying384 underlying3 rfl rfl rfl h3 h4 DT ?_;rcases h5 with ⟨h5,h6⟩ | ⟨h5,i,hi,hid,h6⟩
 ·rw[h6];simp -implicitDefEqProofs;refine hK _ _ ?_;clear hK;refine za (qI DW DT (zv rfl (λq=>by simp at q) (λ_=>zh ?_)));refine za (yP [] DW λK hK=>?_);simp -implicitDefEqProofs [zY];have hx:∀i,i<l.length->(zG l i).1≠id:=by
   intro i hi e;have:j4 id l=true:=by
    simp only[j4,BF];exact⟨_,ZbV hi,by simpa using e⟩
   rw[h5]at this;cases this
  refine QS rfl rfl rfl Zlr (by exact Zmj ⟨hp,hh⟩ (id,w) hx (by rw[pm.length_eq];exact hn)) λp S3 hq=>?_
  obtain⟨o3,l',hh',pm'⟩:=hq;refine hK _ _ ?_;clear hK;refine za (qI DW DT (zg ?_));rw[<-ZbX pm,h5];refine⟨_,_,rfl,⟨rfl,ZU _ _ _,HM.cut ⟨l',hh',pm'.trans (((List.Perm.cons _ pm)).trans (Wh _ _).symm),Zfs _ _ hs λy hy e=>?_⟩⟩,ZV o3.offd⟩;obtain⟨j,hj,rfl⟩:=ZbW (pm.symm.subset hy);exact hx j hj e
 ·rw[h6];simp -implicitDefEqProofs;refine hK _ _ ?_;clear hK;refine za (qI DW DT (zv rfl (λ_=>?_) (λq=>by simp at q)));refine za (qI DW DT (zg ?_));rw[<-ZbX pm,h5];exact⟨_,_,rfl,⟨rfl,λ_ _=>rfl,⟨l,⟨hp,hh⟩,pm,hs⟩⟩,λo=>.inl rfl⟩
open Go Hp
def Once(r:zK Int):Prop:=(r.map (·.1)).Nodup
theorem HP.once{S:Store}{hid hv rid mid mv:Nat}{l:zK Int}(h:HP S hid hv rid mid mv l):Once l:=by
 obtain⟨g,_,k⟩:=h;unfold Once;refine By.2 λi j hi hj hij e=>?_
 simp only[List.length_map]at hi hj;simp only[Cy]at e;have q:∀i (hi:i<l.length),zG l i=l[i]:=λi hi=>by unfold zG;simp[hi]
 have:=k.inj hi hj (by rw[q i hi,q j hj];exact e);omega
theorem Once.perm{l r:zK Int}(h:l.Perm r)(k:Once l):Once r:=(List.Perm.nodup_iff (h.map λx:Int × Int=>x.1)).1 k
theorem HM.once{S:Store}{hid hv rid mid mv:Nat}{r:zK Int}(h:HM S hid hv rid mid mv r):Once r:=by
 obtain⟨l,⟨hp,_⟩,pm,_⟩:=h;exact hp.once.perm pm
theorem Zft{x:Int × Int}{l:zK Int}(h:Once (x :: l)):Yy x.1 (x :: l)=l:=by
 unfold Yy;rw[Cc,if_neg DR,List.filter_eq_self];intro y hy;simp only[decide_eq_true_eq];intro e;have:=(Cr.1 (show (x.1 :: l.map (·.1)).Nodup from h)).1;exact this (Al.2 ⟨y,hy,e⟩)
theorem Zmp{l r:zK Int}(id:Int)(h:l.Perm r):(Yy id l).Perm (Yy id r):=h.filter _
theorem Zmq{id:Int}{l:zK Int}(h:j4 id l=false):Yy id l=l:=by
 unfold Yy;rw[List.filter_eq_self];intro y hy;simp only[j4,Ct]at h;simpa using h y hy
theorem Zmr{S:Store}{hid hv rid mid mv:Nat}{r:zK Int}(h:HM S hid hv rid mid mv r)(id:Int):
  PCalls prog 369 [.ptr hid hv 0,zY id] S (λp S'=>p=wR (j4 id r)/\Off S [hid,rid,mid] S'/\HM S' hid hv rid mid mv (Yy id r)):=by
 have hM:=h;obtain⟨l,⟨hp,hh⟩,pm,hs⟩:=h;have hp0:=hp;obtain⟨g,hS,hk⟩:=hp0;obtain⟨ver,h1,cs,h2,hR⟩:=hS.h;obtain⟨es,res,h3,h4,h5⟩:=hS.look hk id;refine vz func369 rfl ntmps369 (congrArg Array.toList results369) DR ?_;refine za (qI DW DT (za (yP [] DW λK hK=>?_)));simp -implicitDefEqProofs [h1];refine Zm rfl underlying384 underlying3 rfl rfl rfl h3 h4 DT ?_;rw[ZbX pm]at h5;rcases h5 with ⟨h5,h6⟩ | ⟨h5,i,hi,hid,h6⟩
 ·rw[h6];simp -implicitDefEqProofs;refine hK _ _ ?_;clear hK;refine za (za (qI DW DT (zv rfl (λ_=>?_) (λq=>by simp at q))));refine za (qI DW DT (zg ?_));rw[h5,Zmq h5];exact⟨_,_,rfl,⟨rfl,λ_ _=>rfl,hM⟩,λo=>.inl rfl⟩
 ·rw[h6];simp -implicitDefEqProofs [zY];refine hK _ _ ?_;clear hK;refine za (za (qI DW DT (zv rfl (λq=>by simp at q) (λ_=>zh ?_))));refine za (yP [] DW λK hK=>?_);simp -implicitDefEqProofs;refine QS rfl rfl rfl Zlu (by exact Zmk ⟨hp,hh⟩ i hi) λp S3 hq=>?_
  obtain⟨_,o3,l',hh',pm'⟩:=hq;refine hK _ _ ?_;clear hK;refine za (qI DW DT (zg ?_));rw[h5];have e1:Yy id (zG l i :: l')=l':=by rw[<-hid];exact Zft (Once.perm pm'.symm hp.once)
  refine⟨_,_,rfl,⟨rfl,ZU _ _ _,HM.cut ⟨l',hh',?_,Zmn id r hs⟩⟩,ZV o3.offd⟩;have:=Zmp id (pm'.trans pm);rw[e1]at this;exact this
end Go.Proofs.YtcocagkbfpgmiaaGreatDoor.Pv
namespace Go.Proofs.YtcocagkbfpgmiaaGreatDoor.Hp
section
variable {α:Type} [DecidableEq α] [Inhabited α] {lt:α->α->Bool}
theorem Zms(hs:Str lt){l:zK α}(h:Zj lt l l.length):∀k,k<l.length->il lt (zG l k) (zG l 0)=false:=by
 intro k
 induction k using Nat.strongRecOn with
 | _ k ih =>
  intro hk;rcases BX k with e | e
  ·subst e;exact(Yl hs).irr _
  ·have:=ux e;exact XN hs (h k e hk) (ih (ye k) this DQ)
end
end Go.Proofs.YtcocagkbfpgmiaaGreatDoor.Hp
namespace Go.Proofs.YtcocagkbfpgmiaaGreatDoor.Pv
open Go Hp
theorem HM.root{S:Store}{hid hv rid mid mv:Nat}{x:Int × Int}{r:zK Int}{l:zK Int}(h:HH S hid hv rid mid mv l)(pm:l.Perm (x :: r))(hs:ug (x :: r)):zG l 0=x:=by
 have hl:0<l.length:=by rw[pm.length_eq];simp
 obtain⟨k,hk,e⟩:=ZbW (pm.symm.subset (Cf));have h1:=Zms Zr h.2 k hk;rw[e]at h1;rcases As.1 (pm.subset (ZbV hl)) with h2 | h2
 ·exact h2
 ·have:=(Bh.1 hs).1 _ h2;rw[show uf x (zG l 0)=false from h1]at this;cases this
def Q3:zK Int->PV
 | []=>.tup [zY 0,zY 0,wR false]
 | x :: _=>.tup [zY x.1,zY x.2,wR true]
theorem Zmt{S:Store}{hid hv rid mid mv:Nat}{r:zK Int}(h:HM S hid hv rid mid mv r):
  PCalls prog 368 [.ptr hid hv 0] S (λp S'=>p=Q3 r/\S'=S):=by
 obtain⟨l,hh,pm,hs⟩:=h;have hp:=hh.1;obtain⟨g,hS,hk⟩:=hp;obtain⟨ver,h1,cs,h2,hR⟩:=hS.h;refine vz func368 rfl ntmps368 (congrArg Array.toList results368) DR ?_;refine za (qI DW DT (za (za (yP [] DW λK hK=>?_))));simp -implicitDefEqProofs [h1];refine hK _ _ ?_;clear hK;cases r with
 | nil =>
  have hl:l.length=0:=by rw[pm.length_eq];rfl
  refine zv rfl (λ_=>?_) (λq=>by simp at q;exact absurd (Aq hl) q);refine za (qI DW DT (za (qI DW DT (zg ?_))));exact⟨_,S,rfl,⟨rfl,rfl⟩,λo=>.inl rfl⟩
 | cons x r =>
  have hl:0<l.length:=by rw[pm.length_eq];simp
  have hx:=HM.root hh pm hs;obtain⟨tl,e1⟩:=hR.at 0 hl;rw[hx]at e1;simp at e1;refine zv rfl (λq=>by simp at q;subst q;simp at hl) (λ_=>zh ?_);refine za (yP [] DW λK hK=>?_);have hl':0<l.length:=hl;simp -implicitDefEqProofs [h1,h2,hl',e1];refine QV rfl DT DR λa ha=>?_
  simp -implicitDefEqProofs;refine hK _ _ ?_;clear hK;refine za (Zks mixed DW DW DW DT (zg ?_));refine⟨_,S,rfl,⟨rfl,rfl⟩,λo=>?_⟩
  by_cases e:o=a
  ·exact .inr (e ▸ ha)
  ·exact .inl (by rw[jl _ _ _ _ e])
theorem Zmu{S:Store}{hid hv rid mid mv:Nat}{r:zK Int}(h:HM S hid hv rid mid mv r):
  PCalls prog 349 [.ptr hid hv 0] S (λp S'=>p=Q3 r/\Off S [hid,rid,mid] S'/\HM S' hid hv rid mid mv r.tail):=by
 refine vz func349 rfl ntmps349 (congrArg Array.toList results349) DR ?_;refine za (qI DW DT (za (yP [] DW λK hK=>?_)));simp -implicitDefEqProofs;refine QS rfl rfl rfl Zls (by exact Zmt h) λp S2 hq=>?_
 obtain⟨rfl,rfl⟩:=hq;cases r with
 | nil =>
  simp -implicitDefEqProofs [Q3];refine hK _ _ ?_;clear hK;refine za (za (qI DW DT (zv rfl (λq=>by simp at q) (λ_=>zh ?_))));refine za (qI DW DT (zg ?_));exact⟨_,S2,rfl,⟨rfl,λ_ _=>rfl,h⟩,λo=>.inl rfl⟩
 | cons x r =>
  simp -implicitDefEqProofs [Q3];refine hK _ _ ?_;clear hK;refine za (za (qI DW DT (zv rfl (λ_=>?_) (λq=>by simp at q))));refine yP [] DW λK hK=>?_
  simp -implicitDefEqProofs;refine QS rfl rfl rfl Zlt (by exact Zmr h x.1) λp S3 hq=>?_
  obtain⟨_,o3,h3⟩:=hq;refine hK _ _ ?_;clear hK;refine za (qI DW DT (zg ?_));rw[Zft h.once]at h3;exact⟨_,S3,rfl,⟨rfl,o3,h3⟩,λo=>.inl rfl⟩
open Go Hp
theorem HM.congr{S T:Store}{hid hv rid mid mv:Nat}{r:zK Int}(h:HM S hid hv rid mid mv r)(e:∀o∈[hid,rid,mid],T o=S o):HM T hid hv rid mid mv r:=by
 obtain⟨l,⟨⟨g,h,k⟩,hh⟩,pm,hs⟩:=h;exact⟨l,⟨⟨g,h.congr e,k⟩,hh⟩,pm,hs⟩
def HX(o:Ob × Ob × Ob)(a hv mv:Nat)(r:zK Int):Prop:=∀S:Store,S a=o.1->S (a+1)=o.2.1->S (a+2)=o.2.2->HM S (a+1) hv (a+2) a mv r
def ZY(obs:List Ob)(j:Nat)(o:Ob × Ob × Ob):List Ob:=((obs.set j o.1).set (j+1) o.2.1).set (j+2) o.2.2
theorem HM.hx{S:Store}{a hv mv:Nat}{r:zK Int}(h:HM S (a+1) hv (a+2) a mv r):HX (S a,S (a+1),S (a+2)) a hv mv r:=by
 intro T h1 h2 h3;refine h.congr λo ho=>?_
 simp at ho;rcases ho with rfl | rfl | rfl
 ·exact h2
 ·exact h3
 ·exact h1
theorem HX.hm{S:Store}{nx j hv mv:Nat}{obs:List Ob}{o:Ob × Ob × Ob}{r:zK Int}(h:HX o (nx+j) hv mv r)(h1:obs[j]?=some o.1)(h2:obs[j+1]?=some o.2.1)(h3:obs[j+2]?=some o.2.2):HM (ext S nx obs) (nx+j+1) hv (nx+j+2) (nx+j) mv r:=by
 refine h _ ?_ ?_ ?_
 ·rw[yb,Aa,h1];rfl
 ·rw[Nat.add_assoc,yb,Aa,h2];rfl
 ·rw[Nat.add_assoc,yb,Aa,h3];rfl
theorem Zmv{S T:Store}{nx j:Nat}{obs:List Ob}(h:Off (ext S nx obs) [nx+j+1,nx+j+2,nx+j] T)(hl:j+2<obs.length):T=ext S nx (ZY obs j (T (nx+j),T (nx+j+1),T (nx+j+2))):=by
 funext i
 by_cases h1:i=nx+j
 ·subst h1;rw[yb,Aa,ZY,AX DQ,AX DQ,AV DQ];rfl
 by_cases h2:i=nx+j+1
 ·subst h2;rw[Nat.add_assoc,yb,Aa,ZY,AX DQ,AV DV];rfl
 by_cases h3:i=nx+j+2
 ·subst h3;rw[Nat.add_assoc,yb,Aa,ZY,AV DV];rfl
 rw[h i DV];simp only[ext];split
 ·rfl
 ·rw[Aa,Aa,ZY,AX DQ,AX DQ,AX DQ]
section
variable {S:Store} {nx j hv mv:Nat} {obs:List Ob} {o:Ob × Ob × Ob} {r:zK Int}
theorem Zfu{f:FuncId}{args:List PV}{q:PV}{r':zK Int}(he:qr prog f)(hl:j+2<obs.length)
  (h:PCalls prog f args (ext S nx obs) (λp T=>p=q/\Off (ext S nx obs) [nx+j+1,nx+j+2,nx+j] T/\HM T (nx+j+1) hv (nx+j+2) (nx+j) mv r')) :
  Spec prog f args (ext S nx obs) (λp T=>p=q/\∃o',HX o' (nx+j) hv mv r'/\T=ext S nx (ZY obs j o')):=by
 refine⟨he,h.mono ?_⟩;rintro p T ⟨h1,h2,h3⟩;exact⟨h1,_,h3.hx,Zmv h2 hl⟩
variable (h:HX o (nx+j) hv mv r) (h1:obs[j]?=some o.1) (h2:obs[j+1]?=some o.2.1) (h3:obs[j+2]?=some o.2.2)
include h h1 h2 h3
theorem Zfv(id w:Int)(hn:r.length+1<=2147483648):Spec prog 348 [.ptr (nx+j+1) hv 0,I id,I w] (ext S nx obs) (λp T=>p=B (!j4 id r)/\∃o',HX o' (nx+j) hv mv (bif j4 id r then r else ZX (id,w) r)/\T=ext S nx (ZY obs j o')) :=
 Zfu Zlp (Ac.1 h3).1 (Zmo (h.hm h1 h2 h3) id w hn)
theorem Zmw:Spec prog 349 [.ptr (nx+j+1) hv 0] (ext S nx obs) (λp T=>p=Q3 r/\∃o',HX o' (nx+j) hv mv r.tail/\T=ext S nx (ZY obs j o')) :=
 Zfu Zlq (Ac.1 h3).1 (Zmu (h.hm h1 h2 h3))
end
theorem Zmx{S:Store}{nx:Nat}{obs:List Ob}:Spec prog 346 [] (ext S nx obs) (λp T=>∃hv mv o,p=.ptr (nx+obs.length+1) hv 0/\HX o (nx+obs.length) hv mv []/\T=ext S nx (obs++[o.1,o.2.1,o.2.2])):=by
 have hd:=jP (S:=S) (nx:=nx) (obs:=obs);have e:∀o:Ob × Ob × Ob,ext S nx (obs++[o.1,o.2.1,o.2.2])=ext (ext S nx obs) (nx+obs.length) [o.1,o.2.1,o.2.2]:=by
  intro o;have p1:=qY (S:=S) (nx:=nx) (obs:=obs) o.1;have p2:=qY (S:=S) (nx:=nx) (obs:=obs++[o.1]) o.2.1;have p3:=qY (S:=S) (nx:=nx) (obs:=obs++[o.1]++[o.2.1]) o.2.2;have q0:=qJ hd;have q1:=qY (S:=ext S nx obs) (nx:=nx+obs.length) (obs:=[]) o.1;have q2:=qY (S:=ext S nx obs) (nx:=nx+obs.length) (obs:=[o.1]) o.2.1;have q3:=qY (S:=ext S nx obs) (nx:=nx+obs.length) (obs:=[o.1,o.2.1]) o.2.2;simp only[List.length_append,Ad,Ah,List.append_assoc,List.cons_append,AN,Bz,AR]at p1 p2 p3 q1 q2 q3;rw[<-p3,<-p2,<-p1,<-q3,<-q2,<-q1,q0];simp only[Nat.add_assoc]
 generalize ext S nx obs=S1 at *;generalize nx+obs.length=m at *;refine u6 hd func346 ntmps346 results346 ?_;refine D0 ?_;refine D0 ?_;intro mv hv;refine jg 1 0 449 2 rfl rfl λrv=>?_
 refine zg ⟨_,_,rfl,⟨hv,mv,(.map mv [],.cells hv 445 [.sl (m+2) rv 2 0 0,.mp m mv],.cells rv 449 []),rfl,?_,(e _).symm⟩,λo=>.inl DR⟩;intro T h1 h2 h3;refine⟨[],⟨⟨λ_=>none,⟨⟨rv,h2,[],h3,[],rfl⟩,⟨[],h1,Zfl _ _⟩,⟨by omega,by omega,by omega⟩,by simp⟩,⟨λi hi=>by simp at hi,λ_ _=>rfl⟩⟩,λk k0 kn=>by simp at kn⟩,.refl _,by simp[ug]⟩
open Go Hp
@[simp] theorem ZyE(a b c:Ob)(l:List Ob)(o:Ob × Ob × Ob):ZY (a :: b :: c :: l) 0 o=o.1 :: o.2.1 :: o.2.2 :: l:=rfl
open Go Hp
instance:Enc (Int × Int):=⟨λx=>[I x.1,I x.2],2,λ_=>rfl,λ_=>rfl⟩
@[simp] theorem ZyF(s:Int × Int):Enc.enc s=[I s.1,I s.2]:=rfl
@[simp high] theorem ZyG(l:zK Int):(l.flatMap Enc.enc).length=l.length*2:=xl l
@[simp high] theorem ZyH(l:zK Int):(l.flatMap Enc.enc).take (l.length*2)=l.flatMap Enc.enc:=Yw l
open Go Hp
structure Deed where
 kind:Int
 id:Int
 w:Int
instance:Enc Deed:=⟨λd=>[I d.kind,I d.id,I d.w],3,λ_=>rfl,λ_=>rfl⟩
@[simp] theorem ZyI(d:Deed):Enc.enc d=[I d.kind,I d.id,I d.w]:=rfl
@[simp high] theorem ZyJ(l:List Deed):(l.flatMap Enc.enc).length=l.length*3:=xl l
@[simp high] theorem ZyK(l:List Deed):(l.flatMap Enc.enc).take (l.length*3)=l.flatMap Enc.enc:=Yw l
open Go Hp Go.Sort
def uD(a b:Int):Int:=if a<b then -1 else if b<a then 1 else 0
def vB(l:List Int)(i:Nat):Int × Int:=((i:Int),l.getD i 0)
def wV(l:List Int)(i j:Fin l.length):Int:=if uD (l.getD i 0) (l.getD j 0)=0 then uD (i.val:Int) j.val else uD (l.getD i 0) (l.getD j 0)
theorem Wi(l:List Int)(i j:Fin l.length):ltOf (wV l) i j=uf (vB l i) (vB l j):=by grind[ltOf,wV,uD,il,vB]
theorem VW(l:List Int):SWO (ltOf (wV l)):=by
 have H:=Yl Zr;refine⟨λx=>?_,λx y z h1 h2=>?_,λx y z h1 h2=>?_⟩
 ·rw[Wi];exact H.irr _
 ·rw[Wi]at *;exact H.tr _ _ _ h1 h2
 ·rw[Wi]at *;cases h:uf (vB l x) (vB l z) with
  | false=>rfl
  | true =>
   exfalso;cases h3:uf (vB l y) (vB l x) with
   | true=>have hh:uf (vB l y) (vB l z)=true:=H.tr _ _ _ h3 h;simp_all
   | false =>
    have e:=H.tot _ _ h1 h3
    simp_all
theorem Zfw(l:List Int):∀x y,ltOf (wV l) x y=false->ltOf (wV l) y x=false->x=y:=by
 intro x y h1 h2;rw[Wi]at h1 h2;have:=(Yl Zr).tot _ _ h1 h2;have:(x.val:Int)=y.val:=congrArg Prod.fst this;omega
def Q4(l:List Int):List (Fin l.length):=(List.finRange l.length).mergeSort λx y=>!(ltOf (wV l)) y x
theorem ZbY(l:List Int):(Q4 l).Perm (List.finRange l.length):=B9 _ _
theorem Zmy(l:List Int):((Q4 l).map λi:Fin l.length=>vB l i.val).Perm ((List.range l.length).map (vB l)):=by
 refine((ZbY l).map _).trans ?_;have e:(List.finRange l.length).map (λi:Fin l.length=>vB l i.val)=(List.range l.length).map (vB l):=by
  apply A7
  ·simp
  ·simp
 rw[e]
theorem Zmz(l:List Int):(Q4 l).Nodup:=(ZbY l).nodup_iff.2 (List.nodup_finRange _)
theorem ZmA(l:List Int):ug ((Q4 l).map λi:Fin l.length=>vB l i.val):=by
 have H:=Yl Zr;have h1:(Q4 l).Pairwise λa b=>(!(ltOf (wV l)) b a)=true:=by
  refine CD ?_ ?_ _
  ·intro a b c h1 h2;simp only[Ck]at *;exact(VW l).ntrans c b a h2 h1
  ·intro a b;simp only[C4,Ck];cases h:ltOf (wV l) b a with
   | false=>exact .inl rfl
   | true =>
    refine .inr ?_;cases h2:ltOf (wV l) a b with
    | false=>rfl
    | true=>have:=(VW l).trans _ _ _ h h2;rw[(VW l).irrefl]at this;cases this
 have h2:=List.Pairwise.and h1 (Zmz l);unfold ug;refine List.Pairwise.map _ ?_ h2;rintro a b ⟨h3,h4⟩;have h3':ltOf (wV l) b a=false:=by simpa using h3
 rw[<-Wi];cases h:ltOf (wV l) a b with
 | true=>rfl
 | false=>exact absurd (Zfw l a b h h3') h4
def uh(l:List Int):List Int:=(Q4 l).map λi=>(i.val:Int)
theorem ZbZ(l:List Int):(uh l).length=l.length:=by
 unfold uh;rw[List.length_map,(ZbY l).length_eq];simp
theorem ZmB{l:List Int}{z:Int}(h:z∈uh l):0<=z/\z<l.length:=by
 obtain⟨i,_,rfl⟩:=Al.1 h;have:=i.isLt;omega
end Go.Proofs.YtcocagkbfpgmiaaGreatDoor.Pv
namespace Go.Proofs.YtcocagkbfpgmiaaGreatDoor.Hp
section
variable {α:Type} {lt:α->α->Bool}
def Sd(lt:α->α->Bool)(l:List α):Prop:=l.Pairwise λa b=>lt a b=true
theorem ZmC(rows:List (List α))(i:Nat)(y:α)(tl:List α)(h:rows[i]?=some (y :: tl)):rows.flatten.Perm (y :: (rows.set i tl).flatten):=by
 induction rows generalizing i with
 | nil=>simp at h
 | cons r rows ih =>
  cases i with
  | zero =>
   simp_all
  | succ i =>
   simp only[Bf]at h;have:=ih i h;simp only[Bx,AU];exact(this.append_left r).trans List.perm_middle
theorem ZmD(H:Str lt){P:List α}(hP:Sd lt P){rows:List (List α)}(hr:∀r∈rows,Sd lt r){k:Nat}(hp:rows.flatten.Perm (P.drop k)){i:Nat}{y:α}{tl:List α}(hi:rows[i]?=some (y :: tl))
  (hmin:∀(j:Nat) z tz,rows[j]?=some (z :: tz)->j≠i->lt y z=true) :
  P[k]?=some y/\(rows.set i tl).flatten.Perm (P.drop (k+1))/\∀r∈rows.set i tl,Sd lt r:=by
 have hfs:=ZmC rows i y tl hi;have hsi:Sd lt (y :: tl):=hr _ (Ab hi)
 -- y is the least of what is left
 have hle:∀z∈rows.flatten,z=y\/lt y z=true:=by
  intro z hz;obtain⟨r,hrm,hzr⟩:=BJ.1 hz;obtain⟨j,hj⟩:=Bg.1 hrm
  by_cases e:j=i
  ·subst e;rw[hi]at hj;cases hj;rcases As.1 hzr with e | e
   ·exact .inl e
   ·exact .inr ((Bh.1 hsi).1 z e)
  ·cases r with
   | nil=>cases hzr
   | cons a ar =>
    have h1:=hmin j a ar hj e;rcases As.1 hzr with e2 | e2
    ·simp_all
    ·exact .inr (H.tr _ _ _ h1 ((Bh.1 (hr _ hrm)).1 z e2))
 have hyP:y∈P.drop k:=hp.subset (hfs.symm.subset Cf);cases hd:P.drop k with
 | nil=>simp_all
 | cons x rest =>
  have hPd:Sd lt (x :: rest):=by rw[<-hd];exact List.Pairwise.sublist (List.drop_sublist k P) hP
  have hx:x=y:=by
   rw[hd]at hyP;rcases As.1 hyP with e | e
   ·exact e.symm
   ·have h1:=(Bh.1 hPd).1 y e;rcases hle x (hp.symm.subset DZ) with h | h
    ·exact h
    ·have:=H.tr _ _ _ h1 h;rw[H.irr]at this;cases this
  subst hx;have hk:P[k]?=some x:=by
   have:(P.drop k)[0]?=some x:=by rw[hd];rfl
   rwa[AP,Bz]at this
  have hd1:P.drop (k+1)=rest:=by
   have:P.drop (k+1)=(P.drop k).drop 1:=by rw[List.drop_drop]
   rw[this,hd];rfl
  refine⟨hk,?_,λr hrm=>?_⟩
  ·rw[hd1];rw[hd]at hp;exact List.Perm.cons_inv (hfs.symm.trans hp)
  ·rcases Bw hrm with h | h
   ·exact hr r h
   ·rw[h];exact(Bh.1 hsi).2
theorem ZmE{P:List α}{rows:List (List α)}{k:Nat}(hp:rows.flatten.Perm (P.drop k))(hk:k<=P.length)(h0:∀r∈rows,r=[]):k=P.length:=by
 have:rows.flatten=[]:=List.flatten_eq_nil_iff.2 h0;rw[this]at hp;have:=hp.length_eq;simp at this;omega
theorem Zfx(H:Str lt):∀{a b:List α},a.Perm b->Sd lt a->Sd lt b->a=b
 | [],b,h,_,_=>by simp_all
 | x :: a,[],h,_,_=>by simp_all
 | x :: a,y :: b,h,ha,hb=>by
  have ha':=Bh.1 ha;have hb':=Bh.1 hb;have e:x=y:=by
   rcases As.1 (h.subset (Cf)) with e | hx
   ·exact e
   ·rcases As.1 (h.symm.subset (Cf)) with e | hy
    ·exact e.symm
    ·have:=H.tr _ _ _ (ha'.1 y hy) (hb'.1 x hx);rw[H.irr]at this;cases this
  subst e;rw[Zfx H (List.Perm.cons_inv h) ha'.2 hb'.2]
theorem ZmF(H:Str lt)(l:List α)(hn:l.Nodup):Sd lt (l.mergeSort λx y=>!lt y x):=by
 have h1:(l.mergeSort λx y=>!lt y x).Pairwise λa b=>(!lt b a)=true:=by
  refine CD ?_ ?_ _
  ·intro a b c h1 h2;simp only[Ck]at *;cases e:lt c a with
   | false=>rfl
   | true =>
    exfalso;cases e2:lt b c with
    | true=>have:=H.tr _ _ _ e2 e;simp_all
    | false=>have e3:=H.tot _ _ e2 h2;simp_all
  ·intro a b;simp only[C4,Ck];cases e:lt b a with
   | false=>simp
   | true =>
    refine .inr ?_;cases e2:lt a b with
    | false=>rfl
    | true=>have:=H.tr _ _ _ e e2;rw[H.irr]at this;cases this
 have h2:=List.Pairwise.and h1 ((B9 l _).nodup_iff.2 hn);refine List.Pairwise.imp ?_ h2;rintro a b ⟨h3,h4⟩;cases e:lt a b with
 | true=>rfl
 | false=>exact absurd (H.tot _ _ e (by simpa using h3)) h4
end
end Go.Proofs.YtcocagkbfpgmiaaGreatDoor.Hp
namespace Go.Proofs.YtcocagkbfpgmiaaGreatDoor.Pv
open Go Hp
def uE(x:Inst)(a b:Int):Int:=arc x (a+1) 0+arc x 0 (b+1)-arc x (a+1) (b+1)
structure Pr where
 a:Int
 b:Int
 s:Int
deriving DecidableEq
def wA(p q:Pr):Bool:=if p.s=q.s then (if p.a=q.a then decide (p.b<q.b) else decide (p.a<q.a)) else decide (q.s<p.s)
theorem Zb0:Str wA:=by
 refine⟨λa=>by simp[wA],λa b c h1 h2=>?_,λa b h1 h2=>?_⟩
 ·grind[wA]
 ·obtain⟨a1,a2,a3⟩:=a;obtain⟨b1,b2,b3⟩:=b
  grind[wA]
def jS(x:Inst)(c:List Int)(a:Int):List Pr:=(c.filter λb=>decide (b≠a)).map λb=>⟨a,b,uE x a b⟩
def u9(x:Inst)(c:List Int):List Pr:=c.flatMap (jS x c)
def q8(x:Inst)(c:List Int):List Pr:=(u9 x c).mergeSort λp q=>!wA q p
theorem VX{x:Inst}{c:List Int}{p:Pr}:p∈u9 x c<->p.a∈c/\p.b∈c/\p.b≠p.a/\p.s=uE x p.a p.b:=by
 unfold u9 jS;simp only[B3,Al,Bj,decide_eq_true_eq];constructor
 ·grind
 ·rintro⟨ha,hb,hne,hs⟩;exact⟨p.a,ha,p.b,⟨hb,hne⟩,by rw[<-hs]⟩
theorem Zfy{x:Inst}{c:List Int}(h:c.Nodup):(u9 x c).Nodup:=by
 unfold u9;unfold List.Nodup;rw[List.pairwise_flatMap]
 grind[jS,List.Pairwise.imp]
theorem Zb1{x:Inst}{c:List Int}(h:c.Nodup):Sd wA (q8 x c):=ZmF Zb0 _ (Zfy h)
theorem Q5(x:Inst)(c:List Int):(q8 x c).Perm (u9 x c):=B9 _ _
theorem ZmG{x:Inst}{c:List Int}(h:c.Nodup):(q8 x c).length=c.length*(c.length-1):=by
 rw[(Q5 x c).length_eq];unfold u9;rw[List.length_flatMap];have:c.map (λa=>(jS x c a).length)=c.map λ_=>c.length-1:=by
  refine AQ λa ha=>?_
  unfold jS;rw[List.length_map];have:=List.Nodup.erase_eq_filter h a;have h2:=Dh ha;rw[this]at h2;rw[<-h2];congr 1;refine List.filter_congr λb _=>?_
  by_cases e:b=a<;>simp[e]
 simp_all[List.map_const']
theorem ZmH{x:Inst}{c:List Int}(h:c.Nodup){l:List Pr}(hp:l.Perm (u9 x c))(hs:Sd wA l):l=q8 x c :=
 Zfx Zb0 (hp.trans (Q5 x c).symm) hs (Zb1 h)
theorem ZmI{x:Inst}{c d:List Int}(hc:c.Nodup)(hd:d.Nodup)(h:c.Perm d):(u9 x c).Perm (u9 x d):=by simp_all[C9,Zfy,VX]
theorem ZmJ{x:Inst}{c d:List Int}(hc:c.Nodup)(hd:d.Nodup)(h:c.Perm d):q8 x c=q8 x d :=
 ZmH hd ((Q5 x c).trans (ZmI hc hd h)) (Zb1 hc)
open Go Hp
def yQ:Nat->List (List Pr)->zK Int
 | _,[]=>[]
 | i,[] :: rows=>yQ (i+1) rows
 | i,(p :: _) :: rows=>((i:Int),-p.s) :: yQ (i+1) rows
theorem J5:∀(rows:List (List Pr)) (i:Nat) (x:Int × Int),x∈yQ i rows<->∃(k:Nat) (p:Pr) (tl:List Pr),rows[k]?=some (p :: tl)/\x=(((i+k:Nat):Int),-p.s)
 | [],i,x=>by simp[yQ]
 | [] :: rows,i,x=>by
  rw[yQ,J5 rows (i+1) x];constructor
  ·rintro⟨k,p,tl,h,rfl⟩;exact⟨k+1,p,tl,by simpa using h,by rw[show i+1+k=i+(k+1) by omega]⟩
  grind
 | (q :: ql) :: rows,i,x=>by
  rw[yQ,As,J5 rows (i+1) x];constructor
  ·rintro(rfl | ⟨k,p,tl,h,rfl⟩)
   ·exact⟨0,q,ql,rfl,rfl⟩
   ·exact⟨k+1,p,tl,by simpa using h,by rw[show i+1+k=i+(k+1) by omega]⟩
  grind
theorem VY:∀(rows:List (List Pr)) (i k:Nat) (p:Pr) (tl:List Pr),k<rows.length->(yQ i (rows.set k (p :: tl))).Perm ((((i+k:Nat):Int),-p.s) :: yQ i (rows.set k []))
 | [],_,_,_,_,h=>by simp at h
 | r :: rows,i,0,p,tl,_=>by simp[yQ]
 | [] :: rows,i,k+1,p,tl,h=>by
  have:=VY rows (i+1) k p tl (by simpa using h)
  grind[yQ]
 | (q :: ql) :: rows,i,k+1,p,tl,h=>by
  have:=VY rows (i+1) k p tl (by simpa using h)
  grind[yQ]
theorem ZmK{rows:List (List Pr)}{k:Nat}{p:Pr}{tl:List Pr}(h:rows[k]?=some (p :: tl)):(yQ 0 rows).Perm ((((k:Nat):Int),-p.s) :: yQ 0 (rows.set k [])):=by grind[VY,List.set_getElem_self]
theorem VZ:∀(rows:List (List Pr)) (i:Nat),(yQ i rows).length<=rows.length
 | [],_=>by simp[yQ]
 | [] :: rows,i=>by have:=VZ rows (i+1);grind[yQ]
 | (q :: ql) :: rows,i=>by have:=VZ rows (i+1);simp_all[yQ]
structure Rows' (c:List Int) (rows:List (List Pr)):Prop where
 len:rows.length=c.length
 a:∀(i:Nat) r,rows[i]?=some r->∀p∈r,c[i]?=some p.a
theorem ZmL{c:List Int}(hc:c.Pairwise (· < ·)){rows:List (List Pr)}(hr:Rows' c rows){x:Int × Int}{r:zK Int}(hs:ug (x :: r))(hp:(yQ 0 rows).Perm (x :: r)):
  ∃(i:Nat) (y:Pr) (tl:List Pr),x=((i:Int),-y.s)/\rows[i]?=some (y :: tl)/\r.Perm (yQ 0 (rows.set i []))/\∀(j:Nat) z tz,rows[j]?=some (z :: tz)->j≠i->wA y z=true:=by
 obtain⟨i,y,tl,hi,ex⟩:=(J5 rows 0 x).1 (hp.symm.subset Cf);rw[AR]at ex;subst ex;refine⟨i,y,tl,rfl,hi,(List.Perm.cons_inv ((ZmK hi).symm.trans hp)).symm,λj z tz hj hne=>?_⟩;have hz:(((j:Nat):Int),-z.s)∈yQ 0 rows:=(J5 rows 0 _).2 ⟨j,z,tz,hj,by simp⟩;rcases As.1 (hp.subset hz) with e | e
 ·grind
 ·have h1:=(Bh.1 hs).1 _ e;have ay:=hr.a i _ hi y DR;have az:=hr.a j _ hj z DR
  grind[il,wA,List.pairwise_iff_getElem]
open Go Hp
def qT(l:List Pr):List Int:=l.map λp=>-p.s
def ui(l:List Pr)(i:Int):Pr:=l.getD i.toNat ⟨0,0,0⟩
def wB(x:Inst)(c:List Int)(a:Int):List Pr:=(uh (qT (jS x c a))).map (ui (jS x c a))
theorem ZmM(l:List Int):(uh l).Perm ((List.range l.length).map λi:Nat=>(i:Int)):=by
 have h:=(Zmy l).map (·.1);rw[BT,BT]at h;exact h
theorem ZmN(l:List Pr):((uh (qT l)).map (ui l)).Perm l:=by
 refine((ZmM _).map _).trans ?_;have:((List.range (qT l).length).map λi:Nat=>(i:Int)).map (ui l)=l:=by
  rw[BT];apply A7
  ·simp[qT]
  ·simp_all[ui]
 rw[this]
theorem ZmO{l:List Pr}(h:∀(i j:Nat) p q,i<j->l[i]?=some p->l[j]?=some q->p.a=q.a/\p.b<q.b):Sd wA ((uh (qT l)).map (ui l)):=by
 have hs:=ZmA (qT l);unfold uh;rw[BT];unfold ug at hs;rw[CJ]at hs;unfold Sd;rw[CJ];refine List.Pairwise.imp ?_ hs;intro i j hij;have hn:(qT l).length=l.length:=by simp[qT]
 have hi:i.val<l.length:=by have:=i.isLt;omega
 have hj:j.val<l.length:=by have:=j.isLt;omega
 have gi:l[i.val]?=some l[i.val]:=Af hi;have gj:l[j.val]?=some l[j.val]:=Af hj;have wi:(qT l).getD i.val 0=-(l[i.val]).s:=by simp[qT,Aa,hi]
 have wj:(qT l).getD j.val 0=-(l[j.val]).s:=by simp[qT,Aa,hj]
 have pi:ui l (i.val:Int)=l[i.val]:=by simp[ui,Aa,hi]
 have pj:ui l (j.val:Int)=l[j.val]:=by simp[ui,Aa,hj]
 grind[il,vB,wA]
theorem ZmP{x:Inst}{c:List Int}(hc:c.Pairwise (· < ·))(a:Int):∀(i j:Nat) p q,i<j->(jS x c a)[i]?=some p->(jS x c a)[j]?=some q->p.a=q.a/\p.b<q.b:=by
 have h:(jS x c a).Pairwise λp q=>p.a=q.a/\p.b<q.b:=by
  unfold jS;rw[CJ];exact List.Pairwise.imp (λh=>⟨rfl,h⟩) (List.Pairwise.filter _ hc)
 grind[List.pairwise_iff_getElem]
theorem Zb2(x:Inst)(c:List Int)(a:Int):(wB x c a).Perm (jS x c a):=ZmN _
theorem ZmQ{x:Inst}{c:List Int}(hc:c.Pairwise (· < ·))(a:Int):Sd wA (wB x c a):=ZmO (ZmP hc a)
theorem ZmR{x:Inst}{c:List Int}(hc:c.Pairwise (· < ·)):Rows' c (c.map (wB x c))/\(∀r∈c.map (wB x c),Sd wA r)/\(c.map (wB x c)).flatten.Perm (q8 x c):=by
 refine⟨⟨by simp,λi r hr p hp=>?_⟩,λr hr=>?_,?_⟩
 ·grind[Zb2,jS]
 ·grind[ZmQ]
 ·refine List.Perm.trans ?_ (Q5 x c).symm;unfold u9;rw[<-List.flatMap_def];have main:∀l:List Int,(l.flatMap (wB x c)).Perm (l.flatMap (jS x c)):=by
   intro l
   induction l with
   | nil=>simp
   | cons a l ih=>grind[Zb2]
  exact main c
theorem ZmS{x:Inst}{c:List Int}(hc:c.Pairwise (· < ·)){rows:List (List Pr)}{k:Nat}(h1:Rows' c rows)(h2:∀r∈rows,Sd wA r)(h3:rows.flatten.Perm ((q8 x c).drop k)){it:Int × Int}{r:zK Int}(hs:ug (it :: r))(hp:(yQ 0 rows).Perm (it :: r)):
  ∃(i:Nat) (y:Pr) (tl:List Pr),it=((i:Int),-y.s)/\rows[i]?=some (y :: tl)/\r.Perm (yQ 0 (rows.set i []))/\(q8 x c)[k]?=some y/\Rows' c (rows.set i tl)/\(∀r∈rows.set i tl,Sd wA r)/\(rows.set i tl).flatten.Perm ((q8 x c).drop (k+1)):=by
 have hn:c.Nodup:=List.Pairwise.imp (λh e=>by omega) hc;obtain⟨i,y,tl,e1,e2,e3,e4⟩:=ZmL hc h1 hs hp;obtain⟨m1,m2,m3⟩:=ZmD Zb0 (Zb1 hn) h2 h3 e2 e4;refine⟨i,y,tl,e1,e2,e3,m1,⟨by rw[BH];exact h1.len,λj r hr p hpr=>?_⟩,m3,m2⟩;rw[Bv]at hr;split at hr
 ·rename_i e;subst e;split at hr
  ·cases hr;exact h1.a i _ e2 p (Cv _ hpr)
  ·cases hr
 ·exact h1.a j r hr p hpr
open Go Hp
instance:Inhabited Pr:=⟨⟨0,0,0⟩⟩
instance:Enc Pr:=⟨λp=>[I p.a,I p.b,I p.s],3,λ_=>rfl,λ_=>rfl⟩
@[simp] theorem ZyL(p:Pr):Enc.enc p=[I p.a,I p.b,I p.s]:=rfl
@[simp high] theorem ZyM(l:List Pr):(l.flatMap Enc.enc).length=l.length*3:=xl l
@[simp high] theorem ZyN(l:List Pr):(l.flatMap Enc.enc).take (l.length*3)=l.flatMap Enc.enc:=Yw l
def q9(x:Inst):Prop:=∀a b,0<=arc x a b/\arc x a b<=2147483648
theorem Zb3{x:Inst}(h:q9 x)(a b:Int):-2147483648<=uE x a b/\uE x a b<=4294967296:=by
 have h1:=h (a+1) 0;have h2:=h 0 (b+1);have h3:=h (a+1) (b+1);unfold uE;omega
theorem ZmT(x:Inst)(a b:Int)(hx:q9 x)(ha:qb a)(hb:qb b):Pure prog 365 [.agg (zy x),I a,I b] (I (uE x a b)):=by
 have w1:=Zq ha;have w2:=Zq hb;have h1:=hx (a+1) 0;have h2:=hx 0 (b+1);have h3:=hx (a+1) (b+1);have w3:IntKind.i64.wrap (arc x (a+1) 0+arc x 0 (b+1))=arc x (a+1) 0+arc x 0 (b+1):=wr _ DQ DQ;have w4:IntKind.i64.wrap (arc x (a+1) 0+arc x 0 (b+1)-arc x (a+1) (b+1))=uE x a b:=wr _ DQ DQ;refine zr func365 ntmps365 results365 λS nx hd=>?_
 refine D0 ?_;intro v0;refine za (zz none (Row.pures [0,1,2,3,4,5,6,7,8,9,10,11,12,13,14,15,16] .done) mixed (zJ w1 w2 w3 w4) ?_);refine zH (wT _ _ _) (zJ w1 w2 w3 w4) ?_;refine zH (wT _ _ _) (zJ w1 w2 w3 w4) ?_;refine zH (wT _ _ _) (zJ w1 w2 w3 w4) ?_;exact zg (zi hd rfl rfl)
open Go
theorem Zfz{vs:Array Value}(h:2=vs.size):∃u v,vs=#[u,v]:=by
 match vs,h with
 | ⟨[u,v]⟩,_=>simp
theorem ZmU{C:Ctx}{S:Store}{w:World}{v:Value}(h:Rel C S w (.sc (.slice none 0 0)) v):v=.slice none 0 0:=by cases h;rfl
theorem ZmV(n:Nat)(h0:0<n)(hn:n<=1048576)(S:Store)(nx:Nat)(hd:zW nx S):
  Spec prog 370 [.sc (.slice none 0 0),I n] S (λp S'=>∃v,p=.sl nx v 2 0 0/\S'=S.set nx (.cells v 100 [])):=by
 refine⟨qn func370 DW rfl,?_⟩;intro C w vs hS hl hr;obtain⟨u,v,rfl⟩:=Zfz hl;obtain rfl:=ZmU (hr 0 _ u rfl rfl);obtain rfl:=Q0 (hr 1 _ v rfl rfl);obtain⟨i0,hi0⟩:=BZ.1 Zbx;have hz:=ZeP;have hc:=Zbw;have hb:=ZeO;simp only[Program.zeroOf,Program.cellsOf,Program.bytesOf',hi0,Do,AZ,Option.getD_some,Option.some.injEq]at hz hc hb;refine(slices_Grow_stop i0 _ hi0 hz DQ n w h0 (by rw[hb];omega) DQ).mono ?_;rintro e w' ⟨rfl,rfl⟩;have hfr:Fresh C S nx C.clock:=.clock C (hd nx (Ag _));obtain⟨d1,d2⟩:=hS.drew;obtain⟨t1,t2⟩:=d1.object' hfr 100 ((#[]:Array Value)++Builtin.zeroCells (Value.agg #[.int .i64 0,.int .i64 0]).cells (0+n-0)++Builtin.zeroCells (Value.agg #[.int .i64 0,.int .i64 0]).cells (grownCap w (0+n) 0 100-(0+n))) [] DR (λi v hi=>by simp at hi) (λi p v hp=>by simp at hp);have hge:=grownCap_ge w (0+n) 0 100;simp only[AR]at hge;refine⟨_,_,_,_,rfl,⟨C.clock,rfl,rfl⟩,XZ C S w _ _ _ _ _ _ _ _ rfl (BK _) (BK _) (grownCap_le_maxLen w _ _ _ (by unfold maxLen;omega)) ?_,t1,d2.trans t2⟩
 grind[size_zeroCells,Value.cells]
theorem ZmW(ls:List (List Stop))(hls:ls.length<=1048576)(h0:0<ls.flatten.length)(hn:ls.flatten.length<=1048576):Pure prog 350 [L ls] (L ls.flatten):=by
 refine zr func350 ntmps350 results350 λS nx hd=>?_
 refine D0 ?_;refine D0 ?_
 repeat apply za
 refine zb ?_;refine zj (zC (λs:Nat × Nat=>s.1<=ls.length/\s.2=(ls.take s.1).flatten.length) (λ(k,n)=>[(0,L ls),(3,I (n:Int)),(9,L ls),(10,I ls.length),(11,I k)]) (λ_=>[]) (λs=>ls.length-s.1) (0,0) [] ⟨by simp,by simp⟩ DR DR ?_);rintro⟨k,n⟩ ⟨hk,ho⟩;simp only at hk ho ⊢;refine D0 ?_;refine za (zv rfl (λhc=>?_) (λhc=>?_))
 ·simp at hc;obtain⟨t,tl,a1,a2,a3,e0⟩:=zE rfl ls k hc;have hs1:(ls.take (k+1)).flatten.length=n+t.length:=by rw[a3,ho];simp
  have hs2:(ls.take (k+1)).flatten.length<=ls.flatten.length:=by
   conv=>rhs;rw[<-List.take_append_drop (k+1) ls,List.flatten_append,List.length_append]
   omega
  have w1:IntKind.i64.wrap ((n:Int)+(t.length:Nat))=(n:Int)+(t.length:Nat):=wr _ DQ DQ;have w2:¬((n:Int)+(t.length:Nat)<0):=DQ
  refine zh (za (zj (za (ze [] (zo e0 hc) ?_))));refine za (ze [] w1 ?_);refine za (ze [] w2 ?_);refine zm rfl (zh (zb ?_));exact zq (k+1,n+t.length) [] ⟨hc,hs1.symm⟩ DQ (by simp[zu k (by omega)]) rfl DR
 ·simp at hc;obtain rfl:k=ls.length:=DQ
  rw[Ai]at ho;rw[<-ho]at h0;have hn':n<=1048576:=DQ
  clear ho;refine zx (D0 ?_);refine λhsuf=>((ZmV n h0 hn' _ _ jP).mono ?_).v
  rintro _ _ ⟨v1,rfl,rfl⟩;refine⟨_,_,qY _,zN hsuf ?_⟩
  repeat apply za
  refine zb ?_;refine zj (zC (λs:Nat × List Stop × Nat=>s.1<=ls.length/\s.2.1=(ls.take s.1).flatten) (λ(k,out,v)=>[(6,.sl nx v 2 0 out.length),(25,L ls),(26,I ls.length),(27,I k)]) (λ(k,out,v)=>[.cells v 100 (out.flatMap Enc.enc)]) (λs=>ls.length-s.1) (0,[],v1) [] ⟨by simp,by simp⟩ DR DR ?_);rintro⟨k,out,v⟩ ⟨hk,ho⟩;simp only at hk ho ⊢;refine D0 ?_;refine za (zv rfl (λhc=>?_) (λhc=>?_))
  ·simp at hc;obtain⟨t,tl,a1,a2,a3,e0⟩:=zE rfl ls k hc;have hs1:(ls.take (k+1)).flatten=out++t:=by rw[a3,ho];simp
   have hs2:(ls.take (k+1)).flatten.length<=ls.flatten.length:=by
    conv=>rhs;rw[<-List.take_append_drop (k+1) ls,List.flatten_append,List.length_append]
    omega
   rw[hs1]at hs2;simp only[List.length_append]at hs2;refine zh (za (zj (za (ze [] (zo e0 hc) ?_))));refine zb ?_;refine⟨by omega,?_⟩;refine zb ?_;exact zq (k+1,out++t,v+1) [] ⟨hc,hs1.symm⟩ DQ (by simp[zu k (by omega)]) rfl DR
  ·simp at hc;obtain rfl:k=ls.length:=DQ
   rw[Ai]at ho;refine zx (zZ 0 rfl ?_);refine D0 ?_;exact zg (zi hd DT (by simp[zn,ho]))
open Go Hp
def Za(T:zp)(c:Int):Nat:=T.findIdx λt=>t.any λs=>decide (s.c=c)
def Qe(a:zL):Option Int:=a[a.length-1]?.map (·.c)
def Q6(b:zL):Option Int:=b[0]?.map (·.c)
def qB(x:Inst)(num:Int)(p:Pr)(i k:Nat)(a b:zL):Bool :=
 decide (i≠k) && decide (Qe a=some p.a) && decide (Q6 b=some p.b) && !(decide (p.s<=0) && decide (num<=x.veh)) && decide (zQ x (a++b)=0)
def Wj(x:Inst)(st:zp × Int)(p:Pr)(i k:Nat):zp × Int :=
 bif qB x st.2 p i k (st.1.getD i []) (st.1.getD k []) then ((st.1.set i (st.1.getD i []++st.1.getD k [])).set k [],st.2-1) else st
def jh(x:Inst)(st:zp × Int)(p:Pr):zp × Int:=Wj x st p (Za st.1 p.a) (Za st.1 p.b)
def Zb4(x:Inst)(ss:List Stop):zp × Int:=(q8 x (ss.map (·.c))).foldl (jh x) (ss.map λs=>[s],(ss.length:Int))
def wW(x:Inst)(ss:List Stop):zp:=(Zb4 x ss).1.filter λt=>!t.isEmpty
structure JI (ss:List Stop) (T:zp) (g:Int->Option Int):Prop where
 len:T.length=ss.length
 perm:T.flatten.Perm ss
 g:∀(i:Nat) t s,T[i]?=some t->s∈t->g s.c=some (i:Int)
theorem JI.place{ss:List Stop}{T:zp}{g:Int->Option Int}(h:JI ss T g){i:Nat}{t:zL}{s:Stop}(hi:T[i]?=some t)(hs:s∈t):Za T s.c=i:=by
 have hex:∃t∈T,(t.any λs'=>decide (s'.c=s.c))=true:=⟨t,Ab hi,BF.2 ⟨s,hs,by simp⟩⟩;have hlt:Za T s.c<T.length:=List.findIdx_lt_length_of_exists hex;have hq:=List.findIdx_getElem (w:=hlt);obtain⟨s',h1,h2⟩:=BF.1 hq;have h2':s'.c=s.c:=by simpa using h2
 have e1:=h.g (Za T s.c) _ s' (Af hlt) h1;have e2:=h.g i t s hi hs
 grind
theorem JI.there{ss:List Stop}{T:zp}{g:Int->Option Int}(h:JI ss T g){c:Int}(hc:c∈ss.map (·.c)):∃(i:Nat) (t:zL) (s:Stop),T[i]?=some t/\s∈t/\s.c=c/\g c=some (i:Int)/\Za T c=i:=by
 obtain⟨s,hs,rfl⟩:=Al.1 hc;obtain⟨t,ht,hst⟩:=BJ.1 (h.perm.symm.subset hs);obtain⟨i,hi⟩:=Bg.1 ht;exact⟨i,t,s,hi,hst,rfl,h.g i t s hi hst,h.place hi hst⟩
theorem Wl{T:zp}:∀{i:Nat} {a:zL},T[i]?=some a->T.flatten.Perm (a++(T.set i []).flatten):=by
 induction T with
 | nil=>simp
 | cons t T ih =>
  intro i a h;cases i<;>grind
theorem ZmX{T:zp}{i:Nat}(b:zL)(h:i<T.length):(T.set i b).flatten.Perm (b++(T.set i []).flatten):=by
 have:=Wl (T:=T.set i b) (i:=i) (a:=b) (by simp[h])
 simp_all
theorem ZmY{T:zp}{i k:Nat}{a b:zL}(hi:T[i]?=some a)(hk:T[k]?=some b)(hne:i≠k):((T.set i (a++b)).set k []).flatten.Perm T.flatten:=by
 have hil:=(Ac.1 hi).1;rw[List.set_comm _ _ hne];have h1:=ZmX (T:=T.set k []) (i:=i) (a++b) (by simpa using hil);have h2:=Wl hk;have h3:=Wl (T:=T.set k []) (i:=i) (a:=a) (by rw[AX (λe=>hne e.symm)];exact hi)
 grind
def Qf(g:Int->Option Int)(b:zL)(i:Nat)(j:Nat):Int->Option Int:=λc=>if c∈(b.take j).map (·.c) then some (i:Int) else g c
theorem ZmZ(g:Int->Option Int)(b:zL)(i:Nat):Qf g b i 0=g:=by funext c;simp[Qf]
theorem Zm0{g:Int->Option Int}{b:zL}{i j:Nat}{s:Stop}(h:b.take (j+1)=b.take j++[s]):qW (Qf g b i j) s.c (some (i:Int))=Qf g b i (j+1):=by grind[qW,Qf]
theorem JI.join{ss:List Stop}{T:zp}{g:Int->Option Int}(h:JI ss T g){i k:Nat}{a b:zL}(hi:T[i]?=some a)(hk:T[k]?=some b)(hne:i≠k):JI ss ((T.set i (a++b)).set k []) (Qf g b i b.length):=by
 have hil:=(Ac.1 hi).1;have hkl:=(Ac.1 hk).1;refine⟨by simp[h.len],(ZmY hi hk hne).trans h.perm,λi' t s ht hs=>?_⟩;unfold Qf;rw[Ai]
 by_cases e1:k=i'
 ·simp_all
 ·rw[AX e1]at ht
  by_cases e2:i=i'
  ·subst e2;rw[AV hil]at ht;cases ht
   by_cases e3:s.c∈b.map (·.c)
   ·rw[if_pos e3]
   ·rw[if_neg e3];rcases Ay.1 hs with hs | hs
    ·exact h.g i a s hi hs
    grind
  ·rw[AX e2]at ht;have h1:=h.g i' t s ht hs;rw[if_neg]
   ·exact h1
   ·intro e3;obtain⟨s',hs',e4⟩:=Al.1 e3;have h2:=h.g k b s' hk hs'
    grind
theorem JI.nil:JI [] [] (λ_=>none):=⟨rfl,.refl _,λi t s h=>by simp at h⟩
theorem JI.snoc{ss:List Stop}{T:zp}{g:Int->Option Int}(h:JI ss T g)(s:Stop)(hs:s.c ∉ ss.map (·.c)):JI (ss++[s]) (T++[[s]]) (qW g s.c (some (ss.length:Int))):=by
 refine⟨by simp[h.len],by simpa using h.perm.append_right [s],λi t s' ht hst=>?_⟩;unfold qW;rcases Bb i T.length with hl | hl
 ·rw[Ap hl]at ht;have h1:s'∈ss:=h.perm.subset (BJ.2 ⟨t,Ab ht,hst⟩);rw[if_neg]
  ·exact h.g i t s' ht hst
  simp_all
 ·rw[Am hl]at ht;have hi:i-T.length=0:=by
   have:=(Ac.1 ht).1;simp at this;omega
  rw[hi]at ht;simp at ht;subst ht;simp at hst;subst hst;rw[if_pos rfl,<-h.len]
  grind
open Go Hp
theorem V1{P:Program}{r:Rd}{n N:Nat}{Q:Exit->(Nat->PV)->Store->Prop}{F:Nat->PV}{c:Code}{T:Store}{o ver e0:Nat}{cs:List PV}(i:Nat)(hs:T o=.cells ver e0 cs)(hi:cs[i]?=some (.sc (.slice none 0 0)))
  (h:PW P r n N c Q F (T.set o (.cells ver e0 (cs.set i (.lst 0 []))))):PW P r n N c Q F T:=by
 refine Yr (F':=F) (S':=T.set o (.cells ver e0 (cs.set i (.lst 0 [])))) (λC w a st=>?_) h;have:=st.sim.relabel (cs':=cs.set i (.lst 0 [])) hs DR (by
  intro k p' hp';rw[Bv]at hp';split at hp'
  ·rename_i hij;subst hij;split at hp'
   ·cases hp';refine .inr ⟨_,hi,λv hv=>?_⟩;cases hv;exact .lst0
   ·cases hp'
  ·exact .inl hp')
 exact⟨C,⟨this.1,st.size,λk=>(st.fr k).mono this.2,r.keep this.2 st.v⟩,this.2⟩
abbrev J6(x:Inst)(tid tv n:Nat)(num:Int)(mid mv:Nat):List PV:=[I x.days,I x.veh,I x.cap,I x.len,L x.cust,L x.dist,.sl tid tv 1 0 n,I num,.mp mid mv]
theorem Zb5(cs:List PV)(k:Nat)(x:PV)(h:k<cs.length):yf cs k [x]=cs.set k x:=by simp_all[yf,AE]
theorem ZfA(T:zp):T.flatMap Enc.enc=T.map λt=>L t:=by induction T<;>simp_all
theorem yW{S:Store}{nx id:Nat}{o:Ob}(hd:zW nx S)(h:S id=o)(hne:o≠.dead):id<nx:=by
 rcases Bb id nx with q | q
 ·exact q
 ·rw[hd id q]at h;simp_all
theorem Zm1(x:Inst)(ss:List Stop)(T:zp)(g:Int->Option Int)(num:Int)(es:List (Value × PV)){S:Store}{jid jv tid tv mid mv:Nat}(hx:x.cust.length<=1048576)(hss:ss.length<=1000)(hnum:-1048576<=num/\num<=1048576)(hI:JI ss T g)(hm:MapIs qS I es g)
  (hj:S jid=.cells jv 387 (J6 x tid tv ss.length num mid mv)) (ht:S tid=.cells tv 40 (T.flatMap Enc.enc)) (hmid:S mid=.map mv es) (d1:jid≠tid) (d2:jid≠mid) (d3:tid≠mid)
  (p:Pr) (hpa:p.a∈ss.map (·.c)) (hpb:p.b∈ss.map (·.c)) :
  Spec prog 332 [.ptr jid jv 0,.agg [I p.a,I p.b,I p.s]] S (λ_ S'=>∃es' g',MapIs qS I es' g'/\JI ss (jh x (T,num) p).1 g' /\
   S'=((S.set jid (.cells jv 387 (J6 x tid tv ss.length (jh x (T,num) p).2 mid mv))).set tid (.cells tv 40 ((jh x (T,num) p).1.flatMap Enc.enc))).set mid (.map mv es')):=by
 obtain⟨i,a,sa,hia,hsa,hsac,hga,hpi⟩:=hI.there hpa;obtain⟨k,b,sb,hkb,hsb,hsbc,hgb,hpk⟩:=hI.there hpb;have hkey:KeyOk (.int .i64) qS:=Q1 .i64;obtain⟨ra,fa1,fa2,fa3,fa4,fa5⟩:=hm.find hkey p.a;obtain⟨rb,fb1,fb2,fb3,fb4,fb5⟩:=hm.find hkey p.b;obtain⟨ja,rfl⟩:=fa3 _ hga;obtain⟨jb,rfl⟩:=fb3 _ hgb;refine yl func332 ntmps332 results332 λnx hd=>?_
 have hlj:jid<nx:=yW hd hj DR;have hlt:tid<nx:=yW hd ht DR;have hlm:mid<nx:=yW hd hmid DR;have xj:=λobs=>zD (S:=S) (obs:=obs) hlj
 have xt:=λobs=>zD (S:=S) (obs:=obs) hlt
 have xm:=λobs=>zD (S:=S) (obs:=obs) hlm
 refine D0 ?_;intro v0;have hil:=(Ac.1 hia).1;have hkl:=(Ac.1 hkb).1;have hgi:T.getD i []=a:=by rw[Aa,hia];rfl
 have hgk:T.getD k []=b:=by rw[Aa,hkb];rfl
 have hdef:jh x (T,num) p=bif qB x num p i k a b then ((T.set i (a++b)).set k [],num-1) else (T,num):=by
  unfold jh Wj;simp only[hpi,hpk,hgi,hgk]
 have hstay:qB x num p i k a b=false->∃es' g',MapIs qS I es' g'/\JI ss (jh x (T,num) p).1 g' /\
   S=((S.set jid (.cells jv 387 (J6 x tid tv ss.length (jh x (T,num) p).2 mid mv))).set tid (.cells tv 40 ((jh x (T,num) p).1.flatMap Enc.enc))).set mid (.map mv es'):=by
  intro hc;rw[hdef,hc];refine⟨es,g,hm,hI,?_⟩;simp only[cond_false];rw[J1 S jid _ hj,J1 S tid _ ht,J1 S mid _ hmid]
 have hal2:a.length<=1000:=by
  have h1:=(Wl hia).length_eq;have h2:=hI.perm.length_eq;rw[List.length_append]at h1;omega
 have hbl2:b.length<=1000:=by
  have h1:=(Wl hkb).length_eq;have h2:=hI.perm.length_eq;rw[List.length_append]at h1;omega
 obtain⟨m,hal⟩:∃m,a.length=m+1:=⟨a.length-1,by cases a with | nil=>cases hsa | cons _ _=>simp⟩;have hb0:0<b.length:=by cases b with | nil=>cases hsb | cons _ _=>simp
 obtain⟨la,tla,la1,la2,la3,la4,la5⟩:=el 2 rfl a m DQ;obtain⟨fb,b',hbc⟩:∃fb b',b=fb :: b':=by cases b with | nil=>cases hsb | cons x y=>simp
 have hend:Qe a=some la.c:=by unfold Qe;rw[hal,B0,la1];rfl
 have hhead:Q6 b=some fb.c:=by rw[hbc];rfl
 obtain⟨ai,tai,i1,i2,i3,i0⟩:=zE rfl T i hil;rw[hia]at i1;cases i1;obtain⟨bk,tbk,k1,k2,k3,k0⟩:=zE rfl T k hkl;rw[hkb]at k1;cases k1;have hTl:=hI.len;have hil2:i<ss.length:=DQ
 have hkl2:k<ss.length:=DQ
 refine za (qa (nx:=nx) (σ:=Unit) (λ_=>True) (λ_=>[(0,.ptr jid jv 0),(3,.ptr nx v0 0),(4,I i),(5,I k)]) (λ_=>S) (λ_=>[.cells v0 392 [I p.a,I p.b,I p.s]]) ?_ ?_)
 ·repeat apply za
  refine zz none (Row.pures [0,1,2,3,4,5,7,8,9,10,11,12] (.alt 6 (Row.pures [14] (.alt 13 (Row.pures [15] .done) .stop)) (.alt 13 (.alt 6 (Row.pures [14,15] .done) .stop) .stop))) mixed (zP xj xt xm hj ht hmid) ?_;refine⟨?_,?_⟩
  ·refine⟨by rfl,(Zm rfl underlying384 underlying3 rfl rfl rfl ((xm _).trans hmid) fa1 z3 ?_)⟩;refine⟨by simp,jy trivial ?_⟩;refine⟨by rfl,(Zm rfl underlying384 underlying3 rfl rfl rfl ((xm _).trans hmid) fb1 z3 ?_)⟩;refine⟨by simp,jy trivial ?_⟩;exact zS () [] trivial (by simp[ZR]) rfl DR
  ·refine⟨by rfl,(Zm rfl underlying384 underlying3 rfl rfl rfl ((xm _).trans hmid) fb1 z3 ?_)⟩;refine⟨by simp,jy trivial ?_⟩;refine⟨by rfl,(Zm rfl underlying384 underlying3 rfl rfl rfl ((xm _).trans hmid) fa1 z3 ?_)⟩;refine⟨by simp,jy trivial ?_⟩;exact zS () [] trivial (by simp[ZR]) rfl DR
 intro _ _;refine za (zz none (Row.pures [0,1,2,3,4,5,6,7,8,9,10,11,12,13,14,15] .done) mixed (zP xj xt hj ht i0 (zJ k0 hil2 hkl2 hTl)) ?_);have wm:IntKind.i64.wrap (m:Int)=m:=wr _ DQ DQ;have hm1:m<a.length:=DQ
 refine za (qa (nx:=nx) (σ:=Unit) (λ_=>¬i=k/\la.c=p.a/\fb.c=p.b) (λ_=>[(0,.ptr jid jv 0),(3,.ptr nx v0 0),(4,I i),(5,I k),(6,L a),(7,L b)]) (λ_=>S) (λ_=>[.cells v0 392 [I p.a,I p.b,I p.s]]) ?_ ?_)
 ·by_cases h1:i=k
  ·have hc:qB x num p i k a b=false:=by simp[qB,h1]
   refine za (zz none (Row.pures [0,1,2,3,4,5,6,7,8,9,10,11,12,13,14,15,16,17,18,19,20,21,22,23] .done) mixed (zo h1 zB) ?_);exact zk rfl (zg ⟨_,S,rfl,hstay hc,zR hd⟩)
  have h1':¬(i:Int)=(k:Int):=DQ
  have hm2:(m:Int)<(m:Int)+1:=DQ
  by_cases h2:la.c=p.a
  case neg =>
   have hc:qB x num p i k a b=false:=by simp[qB,hend,h2]
   refine za (zz none (Row.pures [0,1,2,3,4,5,6,7,8,9,10,11,12,13,14,15,16,17,18,19,20,21,22,23] .done) mixed (zP h1' h2 hal wm hm2 (zA la4 la5 zB)) ?_);exact zk rfl (zg ⟨_,S,rfl,hstay hc,zR hd⟩)
  by_cases h3:fb.c=p.b
  case neg =>
   have hc:qB x num p i k a b=false:=by simp[qB,hhead,h3]
   refine za (zz none (Row.pures [0,1,2,3,4,5,6,7,8,9,10,11,12,13,14,15,16,17,18,19,20,21,22,23] .done) mixed (zP h1' h2 h3 hal wm (yv hm2 la4 la5 hbc zB)) ?_);exact zk rfl (zg ⟨_,S,rfl,hstay hc,zR hd⟩)
  refine za (zz none (Row.pures [0,1,2,3,4,5,6,7,8,9,10,11,12,13,14,15,16,17,18,19,20,21,22,23] .done) mixed (zP h1' h2 h3 hal wm (yv hm2 la4 la5 hbc zB)) ?_);exact zm rfl (zh (zS () [] ⟨h1,h2,h3⟩ (by simp[hal,hbc]) rfl DR))
 rintro _ ⟨h1,h2,h3⟩;have hN0:-9223372036854775808<=num:=DQ
 refine za (qa (nx:=nx) (σ:=Unit) (λ_=>¬(p.s<=0/\num<=x.veh)) (λ_=>[(0,.ptr jid jv 0),(3,.ptr nx v0 0),(4,I i),(5,I k),(6,L a),(7,L b)]) (λ_=>S) (λ_=>[.cells v0 392 [I p.a,I p.b,I p.s]]) ?_ ?_)
 ·by_cases h4:p.s<=0
  ·by_cases h5:num<=x.veh
   ·have hc:qB x num p i k a b=false:=by simp[qB,h4,h5]
    refine za (zz none (Row.pures [0,1,2,3,4,5,6,7,8,9,10,11,12,13,14] .done) mixed (yv xj hj h4 h5 zB) ?_);exact zk rfl (zg ⟨_,S,rfl,hstay hc,zR hd⟩)
   ·refine za (zz none (Row.pures [0,1,2,3,4,5,6,7,8,9,10,11,12,13,14] .done) mixed (yv xj hj h4 h5 zB) ?_);exact zm rfl (zh (zS () [] DQ DR rfl DR))
  ·refine za (zz none (Row.pures [0,1,2,3,4,5,6,7,8,9,10,11,12,13,14] .done) mixed (zo h4 zB) ?_);exact zm rfl (zh (zS () [] DQ DR rfl DR))
 intro _ h4;have hcon:=ZmW [a,b] DR DV DV;rw[show [a,b].flatten=a++b from by simp]at hcon;refine D0 ?_;refine zt hcon ?_;refine za (qa (nx:=nx) (σ:=Unit) (λ_=>zQ x (a++b)=0) (λ_=>[(0,.ptr jid jv 0),(3,.ptr nx v0 0),(4,I i),(5,I k),(6,L a),(7,L b),(8,L (a++b))]) (λ_=>S) (λ_=>[.cells v0 392 [I p.a,I p.b,I p.s]]) ?_ ?_)
 ·refine za (ze [] (zo xj hj) ?_);refine zt (Wf x (a++b) hx DV) ?_
  by_cases h5:zQ x (a++b)=0
  ·repeat apply za
   refine zm (by simp[h5]) ?_;exact zh (zS () [] h5 DR rfl DR)
  ·have hc:qB x num p i k a b=false:=by simp[qB,h5]
   refine zk (by simp[h5]) ?_;exact zg ⟨_,S,rfl,hstay hc,zR hd⟩
 intro _ h5;have h4':(decide (p.s<=0) && decide (num<=x.veh))=false:=Bool.eq_false_iff.2 λq=>h4 (by simpa using q)
 have hjoin:qB x num p i k a b=true:=by unfold qB;rw[h4',hend,hhead,h2,h3,h5];simp[h1]
 rw[hdef,hjoin];simp only[cond_true];have yj:=λ(o:Ob) obs=>(zD (S:=S.set mid o) (obs:=obs) hlj).trans ((q10 _ _ _ _ d2).trans hj)
 have ym:=λ(o:Ob) obs=>(zD (S:=S.set mid o) (obs:=obs) hlm).trans (q11 _ _ _)
 repeat apply za
 refine zb ?_;refine zj (jx (σ:=Nat × List (Value × PV)) (λs=>s.1<=b.length/\MapIs qS I s.2 (Qf g b i s.1)) (λs=>[(0,.ptr jid jv 0),(4,I i),(5,I k),(8,L (a++b)),(90,L b),(91,I b.length),(92,I s.1)]) (λs=>S.set mid (.map mv s.2)) (λ_=>[.cells v0 392 [I p.a,I p.b,I p.s]]) (λs=>b.length-s.1) (zS (0,es) [] ⟨by simp,by rw[ZmZ];exact hm⟩ DR (J1 S mid _ hmid) DR) ?_);rintro⟨j,es2⟩ ⟨hjl,hm2'⟩;simp only at hjl hm2' ⊢;refine D0 ?_;refine za (zv rfl (λhq=>?_) (λhq=>?_))
 ·simp at hq;obtain⟨s,tl,a1,a2,a3,e1,e0⟩:=el 2 rfl b j hq;obtain⟨rs,f1,_,_,f4,_⟩:=hm2'.find hkey s.c;have hnew:=f4 (i:Int);rw[Zm0 a3]at hnew;refine zh (za (zj (za (ze [] (zA e1 e0 hq) ?_))));intro v1;refine zz (some [jid,nx+1]) (Row.pures [0,1,2,3,4,5,6] (.alt 7 (.done) .stop)) mixed yj ?_;refine⟨by rfl,(Yt (.inl rfl) underlying384 underlying3 rfl rfl rfl (ym _ _) f1 ?_)⟩;rw[y9 _ hlm,Store.set_set];refine⟨by simp[yK,yj],jy trivial ?_⟩;refine zb ?_;exact zq (j+1,qU (qS s.c) (I i) es2 rs) [_] ⟨hq,hnew⟩ DQ (by simp[zu j (by omega)]) rfl DT
 ·simp at hq;obtain rfl:j=b.length:=DQ
  refine zx ?_;have yt1:=λ(o:Ob) obs=>(zD (S:=S.set mid o) (obs:=obs) hlt).trans ((q10 _ _ _ _ d3).trans ht)
  have yt2:=λ(o o':Ob) obs=>(zD (S:=(S.set mid o).set tid o') (obs:=obs) hlt).trans (q11 _ _ _)
  have yj2:=λ(o o':Ob) obs=>(zD (S:=(S.set mid o).set tid o') (obs:=obs) hlj).trans ((q10 _ _ _ _ d1).trans ((q10 _ _ _ _ d2).trans hj))
  have hlen1:(T.flatMap Enc.enc).length=ss.length:=by rw[jR,hTl]
  have hs1:=Zb5 (T.flatMap Enc.enc) i (L (a++b)) DQ;have hs2:=Zb5 ((T.flatMap Enc.enc).set i (L (a++b))) k (.sc (.slice none 0 0)) DV;have hlt1:¬nx<=tid:=DQ
  have hlj1:¬nx<=jid:=DQ
  have wn:IntKind.i64.wrap (num-1)=num-1:=wr _ DQ DQ;refine za (zz (some [jid]) (Row.pures [0,1,2,3,4,5,6,7,8,9,10,11] (.alt 12 (Row.pures [13] (.alt 14 (.done) .stop)) .stop)) mixed (zP yj yt1 yt2 yj2 hs1 (zP hs2 hil2 hkl2 hlen1 hlt1 hTl)) ?_);refine⟨by omega,by omega,?_⟩;have hcs:((((T.flatMap Enc.enc).set i (L (a++b))).set k (.sc (.slice none 0 0))).set k (.lst 0 []))=((T.set i (a++b)).set k []).flatMap Enc.enc:=by
   rw[List.set_set,ZfA,ZfA,List.map_set,List.map_set];rfl
  refine V1 (o:=tid) k (yt2 _ _ _) (by rw[AV (by simp;omega)]) ?_;rw[y9 _ hlt,Store.set_set,hcs];generalize ((T.set i (a++b)).set k []).flatMap Enc.enc=cs' at *;refine ze [] (zA yj2 hlj1 wn) ?_;have e1:∀(o o' o'':Ob),((S.set mid o).set tid o').set jid o''=((S.set jid o'').set tid o').set mid o:=by
   intro o o' o'';rw[Store.set_comm _ jid tid _ _ (λe=>d1 e.symm),Store.set_comm _ jid mid _ _ (λe=>d2 e.symm),Store.set_comm _ tid mid _ _ (λe=>d3 e.symm)]
  rw[e1];have hdd:∀(o o' o'':Ob),zW nx (((S.set jid o'').set tid o').set mid o):=by
   intro o o' o'' q hq;rw[q10 _ _ _ _ DQ,q10 _ _ _ _ DQ,q10 _ _ _ _ DQ];exact hd q hq
  exact⟨_,_,rfl,⟨es2,_,hm2',hI.join hia hkb h1,rfl⟩,zR (hdd _ _ _)⟩
open Go Go.Shelf Go.RowKit Go.Lib Go.Sort
def Se:Store:=λ_=>.dead
def Ce:Ctx:=⟨λ_=>none,0,0⟩
theorem Zm2(w:World):Sim Ce Se w :=
 ⟨λ_ h=>absurd rfl h,(λ_ _ h=>by cases h),λ_ _ _ _ _ h=>absurd rfl h,(λ_ _ _ _ h=>by cases h),(λ_ _ _ h=>by cases h)⟩
theorem Zb6(b:Nat):¬Ce.M Se b:=by rintro⟨o,k,h,_⟩;exact h rfl
inductive Fz:PV->Prop where
 | junk:Fz .junk
 | sc (v:Value):Fz (.sc v)
 | agg {cs:List PV} (h:∀p∈cs,Fz p):Fz (.agg cs)
 | lst {n:Nat} {cs:List PV} (h:∀p∈cs,Fz p):Fz (.lst n cs)
 | ip {cs:List PV} (h:∀p∈cs,Fz p):Fz (.ip cs)
theorem Zm3{C:Ctx}{S:Store}{w:World}{p:PV}{v:Value}(h:Rel C S w p v):Fz p->Rel Ce Se w p v:=by
 induction h with
 | junk v=>intro _;exact .junk v
 | sc v=>intro _;exact .sc v
 | agg hl h1 _ ih=>intro hz;cases hz with | agg hz=>exact .agg hl h1 λi c v hc hv=>ih i c v hc hv (hz c (Ab hc))
 | tup hl _ ih=>intro hz;cases hz
 | lst0=>intro _;exact .lst0
 | lst1 hn hm hb hM hs h1 _ ih=>intro hz;cases hz with | lst hz=>exact .lst1 hn hm hb (Zb6 _) hs h1 λi c v hc hv=>ih i c v hc hv (hz c (Ab hc))
 | ip hb hM hs h1 _ ih=>intro hz;cases hz with | ip hz=>exact .ip hb (Zb6 _) hs h1 λi c v hc hv=>ih i c v hc hv (hz c (Ab hc))
 | nl0=>intro hz;cases hz
 | nl _ _ _ _ _ _ _=>intro hz;cases hz
 | ptr _ _ _=>intro hz;cases hz
 | sl _ _ _=>intro hz;cases hz
 | fn _ _ _ _ _ _=>intro hz;cases hz
 | ifc _ _=>intro hz;cases hz
 | mp _ _ _=>intro hz;cases hz
theorem Zm4{W w':World}{C':Ctx}{S':Store}(h:Step Ce Se W C' S' w'):∃q os',w'=grow (W.drewN q) os':=by
 obtain⟨p,hp⟩:=regrown_of_below (w:=W) (w':=w') ⟨h.os,h.tape.1,h.output,h.size,λb hb=>(h.blocks b hb (Zb6 b)).1⟩;have hd:=h.tape.2;rw[hp]at hd;refine⟨p.d-W.drawn,p.os,?_⟩
 simp_all[grow,redrawn,World.drewN]
section
variable {P:Program} {α:Type} [Inhabited α] {val:α->Int}
theorem Zm5{C:Ctx}{S:Store}{w:World}{x:Int}{v:Value}(h:Rel C S w (I x) v):v=.int .i64 x:=by cases h;rfl
abbrev wX(val:α->Int)(x:α):Value:=.int .i64 (val x)
theorem Zm6{g:Nat}{caps:List PV}{cf:α->α->Int}(hg:∀x y:α,Pure P g (I (val x) :: I (val y) :: caps) (I (cf x y)))(cb:Array Value)(hl:caps.length=cb.size){w:World}{blk size:Nat}
  (hr:∀(m:Nat) (os:Array Obj) (dk:Array α),dk.size=size->∀(i:Nat) (c:PV) (v:Value),caps[i]?=some c->cb[i]?=some v->Rel Ce Se (sortWorld (wX val) w blk 0 m dk os) c v):CmpLays1 P g cb (wX val) cf blk 0 size w:=by
 intro m os dk hs x y;refine((hg x y Se).2 Ce (sortWorld (wX val) w blk 0 m dk os) (#[wX val x,wX val y]++cb) (Zm2 _) DV ?_).mono ?_
 ·intro i c v hc hv
  match i with
  | 0=>rw[Bs DR]at hv;cases hc;cases hv;exact .sc _
  | 1=>rw[Bs DR]at hv;cases hc;cases hv;exact .sc _
  | i+2 =>
   grind
 ·rintro e w' ⟨p,v,S',C',rfl,⟨rfl,rfl⟩,hrel,_,hst⟩;cases hrel
  grind[Zm4]
theorem ZfB{C:Ctx}{S:Store}{w:World}(hS:Sim C S w){id ver e b k:Nat}{cs0:List PV}{c:Array Value}(hid:S id=.cells ver e cs0)(g1:C.loc id=some (b,k))(g2:w.heap[b]?=some (.cells c e (0,0)))(g3:c.size=k)(dk:Array α)(hdk:dk.size<=k)(q:Nat)(os:Array Obj):
  Sim (C.at id ver (C.loc id)) (S.set id (.cells ver e (dk.toList.map λx=>I (val x)))) (sortWorld (wX val) w b 0 q dk os) /\
  Step C S w (C.at id ver (C.loc id)) (S.set id (.cells ver e (dk.toList.map λx=>I (val x)))) (sortWorld (wX val) w b 0 q dk os):=by
 have hb:b<w.heap.size:=qy g2;have hh:(sortWorld (wX val) w b 0 q dk os).heap[b]?=some (.cells (putCells (wX val) 0 dk c) e (0,0)):=by
  unfold sortWorld;rw[heap_grow_old _ _ (by simpa using hb)];simp[putRow,mapBlock,Sort.ahead,BB,g2,onCells]
 have hgr:w.grownBy (sortWorld (wX val) w b 0 q dk os) (some b):=by
  refine⟨rfl,rfl,rfl,by simp[sortWorld],λj hj hne=>?_⟩;unfold sortWorld;rw[heap_grow_old _ _ (by simpa using hj)];have:b≠j:=λe=>hne (by rw[e])
  simp[putRow,mapBlock,Sort.ahead,BB,this]
 have hcell:∀i,i<dk.size->∀v,(putCells (wX val) 0 dk c)[i]?=some v->v=wX val dk[i]!:=by
  intro i hi v hv;have hic:i<c.size:=DQ
  simp[putCells,hi,hic]at hv;rw[<-hv,getElem!_pos dk i hi]
 refine hS.turn (l:=C.loc id) (ver':=ver) (cs':=dk.toList.map λx=>I (val x)) hid (Ag _) (λ_=>rfl) ⟨by simp_all,CV _ _⟩
  (.inr ⟨b,k,_,g1,.inr (by rw[g1];rfl),hh,by simp_all[putCells],by simpa using hdk,λi v hi hv=>?_,λi p v hp hv=>?_⟩)
 ·rw[hcell i (by simpa using hi) v hv];rfl
 ·have hi:i<dk.size:=by have:=(Ac.1 hp).1;simpa using this
  rw[hcell i hi v hv];rw[Aj,Array.getElem?_toList,AW hi]at hp;simp only[AZ,Option.some.injEq]at hp;rw[<-hp,getElem!_pos dk i hi];exact .sc _
theorem Zm7{ρ:Ren}(L:SlLaysF.n6 P ρ)(hE:qr P (ρ.f 6)){S:Store}{id ver:Nat}{f:PV}:Spec P (ρ.f 6) [.sl id ver 1 0 0,f] S (λp S'=>S'=S):=by
 refine⟨hE,?_⟩;intro C w vs hS hl hr;obtain⟨v0,v1,rfl⟩:∃v0 v1,vs=#[v0,v1]:=by
  match vs,hl with
  | ⟨[a,b]⟩,_=>simp
 have hv0:=hr 0 _ v0 rfl rfl;cases hv0 with
 | sl h1 h2 h3 =>
  obtain⟨a,cap,rfl,q1,q2,q3,q4⟩:=h1;refine(AnyF.slices_SortFunc_none { L with } a cap _ w).mono ?_;rintro e w' ⟨rfl,rfl⟩;exact⟨.junk,_,S,C,rfl,rfl,.junk _,hS,.refl _ _ _⟩
theorem Zm8{ρ:Ren}(L:SlLaysF.n6 P ρ)(hE:qr P (ρ.f 6)){S:Store}{id ver e:Nat}(zs:List α)(hid:S id=.cells ver e (zs.map λx=>I (val x)))(hn:zs.length<=1048576)
  {g:Nat} (hG:qr P g) {caps:List PV} (hz:∀p∈caps,Fz p) (cf:α->α->Int) (hO:SWO (ltOf cf)) (hT:∀x y,(ltOf cf) x y=false->(ltOf cf) y x=false->x=y)
  (hg:∀x y:α,Pure P g (I (val x) :: I (val y) :: caps) (I (cf x y))) :
  Spec P (ρ.f 6) [.sl id ver 1 0 zs.length,.fn (.func g) [] caps] S (λp S'=>S'=S.set id (.cells ver e ((zs.mergeSort λx y=>!(ltOf cf) y x).map λx=>I (val x)))):=by
 refine⟨hE,?_⟩;intro C w vs hS hl hr;obtain⟨v0,v1,rfl⟩:∃v0 v1,vs=#[v0,v1]:=by
  match vs,hl with
  | ⟨[a,b]⟩,_=>simp
 have hv0:=hr 0 _ v0 rfl rfl;have hv1:=hr 1 _ v1 rfl rfl;cases hv1 with
 | @fn _ _ _ fv cv hf hc hh' hcap =>
 obtain rfl:fv=#[]:=DY
 cases hv0 with
 | sl h1 h2 h3 =>
  obtain⟨a,cap,rfl,q1,q2,q3,q4⟩:=h1
  by_cases h0:zs=[]
  ·subst h0;refine(AnyF.slices_SortFunc_none { L with } a cap _ w).mono ?_;rintro e w' ⟨rfl,rfl⟩;refine⟨.junk,_,S,C,rfl,?_,.junk _,hS,.refl _ _ _⟩
   grind[Store.set,List.mergeSort_nil]
  ·have hpos:0<zs.length:=BS.2 h0;rcases hS.cells id ver _ _ hid with ⟨hn',hnil⟩ | ⟨b,k,c,g1,g2,g3,g4,g5,g6⟩
   ·simp_all
   ·have ha:a=some ⟨b,0,none⟩:=by
     rcases (h3 ver (by rw[hid];rfl)).2 rfl with ⟨z1,_⟩ | ⟨b',k',a',cap',z1,z2,z3,z4⟩
     ·omega
     ·grind
    subst ha;rw[List.length_map]at g4 g5;have hcells:∀i (hi:i<zs.length),c[i]?=some (wX val zs[i]):=by
     intro i hi;have hi':i<c.size:=DQ
     have e1:(zs.map λx=>I (val x))[i]?=some (I (val zs[i])):=by simp[hi]
     have e2:c[i]?=some c[i]:=DR
     rw[e2,Zm5 (g6 i _ _ e1 e2)]
    have hH:Holds (wX val) w b 0 zs.toArray:=by
     intro j hj;have hj':j<zs.length:=by simpa using hj
     refine⟨?_,by grind[World.frozen?]⟩;simp only[World.cell?,g2,AR,Da,AT,if_false];rw[hcells j hj',getElem!_pos zs.toArray j hj];simp
    have hlays:CmpLays1 P g cv (wX val) cf b 0 zs.toArray.size w:=by
     refine Zm6 hg cv DQ λm os dk hs i p v hp hv=>?_
     obtain⟨_,st⟩:=ZfB (val:=val) hS hid g1 g2 g3 dk (by rw[hs];omega) m os;exact Zm3 ((hcap i p v hp hv).mono st) (hz p (Ab hp))
    have hk:=Any.slices_SortFunc_total L (wX val) (λ_=>rfl) cf hO g cv b 0 cap zs.toArray w hG hlays hH (qy g2) DV hT;simp only[BL]at hk;refine hk.mono ?_;rintro e w' ⟨rfl,m,os,rfl⟩;obtain⟨t1,t2⟩:=ZfB (val:=val) hS hid g1 g2 g3 (zs.mergeSort λx y=>!(ltOf cf) y x).toArray (by simpa using g4) m os;exact⟨.junk,_,_,_,rfl,rfl,.junk _,t1,t2⟩
end
open Go
theorem ZfC(x:Int):Pure prog 303 [I x] (B false):=by
 refine zr func303 ntmps303 results303 λS nx hd=>?_
 refine D0 ?_;refine D0 ?_;exact D1 hd
theorem ZfD(x y:Int):Pure prog 376 [I x,I y] (I (uD x y)):=by
 refine zr func376 ntmps376 results376 λS nx hd=>?_
 refine D0 ?_;refine D0 ?_;refine zt (ZfC x) ?_;refine D0 ?_;refine zt (ZfC y) ?_
 repeat apply za
 refine zb ?_;refine zm DR ?_;refine zh ?_
 repeat apply za
 refine zb ?_;refine zm DR ?_;refine zh ?_
 by_cases h1:x<y
 ·repeat apply za
  refine ze [] h1 ?_;refine zk (by simp[h1]) ?_;refine D0 ?_;exact zg (zi hd DT (by simp[uD,h1,zn]))
 repeat apply za
 refine ze [] h1 ?_;refine zm (by simp[h1]) ?_;refine zh ?_
 by_cases h2:y<x
 ·repeat apply za
  refine ze [] h2 ?_;refine zk (by simp[h2]) ?_;refine D0 ?_;exact zg (zi hd DT (by simp[uD,h1,h2,zn]))
 repeat apply za
 refine ze [] h2 ?_;refine zm (by simp[h2]) ?_;refine zh (D0 ?_);exact zg (zi hd DT (by simp[uD,h1,h2,zn]))
theorem Zm9(x y:Int):Pure prog 375 [.lst 2 [I x,I y]] (I (if x=0 then y else x)):=by
 refine zr func375 ntmps375 results375 λS nx hd=>?_
 refine D0 ?_;refine D0 ?_
 repeat apply za
 refine zb ?_;refine zj (zC (λs:Nat=>s<=2/\(0<s->x=0)/\(1<s->y=0)) (λk=>[(3,I 0),(6,.lst 2 [I x,I y]),(7,I 2),(8,I k)]) (λ_=>[]) (λs=>2-s) 0 [] DR DR DR ?_);rintro k ⟨hk,hk1,hk2⟩
 match k,hk,hk1,hk2 with
 | 0,_,_,_ =>
  refine D0 ?_;refine za (zk DR ?_);refine zh (za (zj (D0 ?_)))
  by_cases hx:x=0
  ·refine za (ze [] hx ?_);refine zm (by simp[hx]) ?_;refine zh (zb ?_);exact zq 1 [] ⟨by omega,λ_=>hx,by omega⟩ DQ (by simp[hx];rfl) rfl DR
  ·refine za (ze [] hx ?_);refine zk (by simp[hx]) ?_;refine D0 ?_;exact zg (zi hd DT (by simp[hx,zn]))
 | 1,_,hk1,_ =>
  have hx:=hk1 DQ;refine D0 ?_;refine za (zk DR ?_);refine zh (za (zj (D0 ?_)))
  by_cases hy:y=0
  ·refine za (ze [] hy ?_);refine zm (by simp[hy]) ?_;refine zh (zb ?_);exact zq 2 [] ⟨by omega,λ_=>hx,λ_=>hy⟩ DQ (by simp[hy];rfl) rfl DR
  ·refine za (ze [] hy ?_);refine zk (by simp[hy]) ?_;refine D0 ?_;exact zg (zi hd DT (by simp[hx,zn]))
 | 2,_,hk1,hk2 =>
  refine D0 ?_;refine za (zm DR ?_);refine zx (D0 ?_);exact zg (zi hd DT (by simp[hk1 (by omega),hk2 (by omega),zn]))
theorem Zna(l:List Int)(i j:Fin l.length)(hn:l.length<=1048576):Pure prog 374 [I i.val,I j.val,.ip [L l]] (I (wV l i j)):=by
 obtain⟨a,tl,a1,a2,a3,e0⟩:=zE rfl l i.val i.isLt;obtain⟨b,tl2,b1,b2,b3,e1⟩:=zE rfl l j.val j.isLt;have hi:=i.isLt;have hj:=j.isLt;have ha:l.getD i.val 0=a:=by rw[Aa,a1];rfl
 have hb:l.getD j.val 0=b:=by rw[Aa,b1];rfl
 have hor:=Zm9 (uD a b) (uD i.val j.val);have hres:wV l i j=if uD a b=0 then uD (i.val:Int) j.val else uD a b:=by unfold wV;rw[ha,hb]
 rw[hres];refine zr func374 ntmps374 results374 λS nx hd=>?_
 refine D0 ?_;refine za (zz none (Row.pures [0,1,2,3,4,5,6,7,8,9,10,11,12,13,14] .done) mixed (zJ hi hj e0 e1) ?_);refine zH (ZfD a b) (zJ hi hj e0 e1) ?_;refine zH (ZfD i.val j.val) trivial ?_;refine zH (hor) trivial ?_;exact D1 hd
theorem Zb7(l:List Int):l.flatMap Enc.enc=l.map I:=by induction l<;>simp_all
theorem Znb(l:List Int):∀p∈[PV.ip [L l]],Fz p:=by
 intro p hp;simp only[AY]at hp;subst hp;refine .ip λq hq=>?_
 simp only[AY]at hq;subst hq;refine .lst λr hr=>?_
 rw[Zb7]at hr;obtain⟨x,_,rfl⟩:=Al.1 hr;exact .sc _
def vE(n k:Nat):List Int:=(List.range n).map λi=>if i<k then (i:Int) else 0
theorem Znc(n k:Nat):(vE n k).length=n:=by simp[vE]
theorem Znd(n:Nat):vE n 0=List.replicate n 0:=by
 apply A7
 ·simp[vE]
 ·intro i h1 h2;simp[vE]
theorem Zne(n k:Nat)(h:k<n):(vE n k).set k (k:Int)=vE n (k+1):=by
 apply A7
 ·simp[vE]
 ·intro i h1 h2;rw[CU];simp only[vE,Cy,CC]
  by_cases e:k=i
  ·subst e;rw[if_pos rfl,if_pos DQ]
  ·rw[if_neg e]
   by_cases h3:i<k
   ·rw[if_pos h3,if_pos DQ]
   ·rw[if_neg h3,if_neg DQ]
theorem Znf(n:Nat):vE n n=(List.finRange n).map λx=>(x.val:Int):=by
 apply A7
 ·simp[vE]
 ·intro i h1 h2;have:i<n:=by simpa[vE] using h1
  simp[vE,this]
theorem ZfE{α:Type}(l:List α)(f:α->Int):(l.map f).flatMap Enc.enc=l.map λx=>I (f x):=by induction l<;>simp_all
theorem Zng(n:Nat):y8 n (.int .i64 0)=(List.replicate n (0:Int)).flatMap Enc.enc:=by
 induction n with
 | zero=>simp
 | succ n ih=>rw[Y6,ih,BC];simp[ji,Value.cells]
theorem Znh(l:List Int)(k:Nat)(v:Int)(h:k<l.length):yf (l.flatMap Enc.enc) k [I v]=(l.set k v).flatMap Enc.enc:=by
 rw[Zb7,Zb7,yf,List.map_set,AE,if_pos (by simpa using h)];simp
theorem Zni(l:List Int)(hn:l.length<=1048576):Pure prog 366 [L l] (L (uh l)):=by
 have hE:qr prog 373:=qn func373 DW rfl;have hG:qr prog 374:=qn func374 DW rfl;refine zr func366 ntmps366 results366 λS nx hd=>?_
 refine D0 ?_;intro v0;refine D0 ?_;refine⟨by omega,λv1=>?_⟩
 repeat apply za
 refine zb ?_;refine zj (zC (λs:Nat=>s<=l.length) (λk=>[(1,.ptr nx v0 0),(3,.sl (nx+1) v1 1 0 l.length),(9,I l.length),(10,I k)]) (λk=>[.cells v0 26 [L l],.cells v1 3 ((vE l.length k).flatMap Enc.enc)]) (λs=>l.length-s) 0 [] DR DR (by simp[Znd,Zng]) ?_);rintro k hk;refine D0 ?_;refine za (zv rfl (λhc=>?_) (λhc=>?_))
 ·simp at hc;have hl1:=Znc l.length k;have hsp:=Znh (vE l.length k) k k DQ;rw[Zne _ _ hc]at hsp;refine zh (za (zj (D0 ?_)));refine ze [] (zA hc hl1 hsp) ?_;refine⟨by omega,?_⟩;refine zb ?_;exact zq (k+1) [] hc DQ (by simp[zu k (by omega)]) rfl DR
 ·simp at hc;obtain rfl:k=l.length:=DQ
  refine zx ?_;rw[Znf,ZfE];refine xO 0 rfl ?_;refine D0 ?_
  by_cases h0:l.length=0
  ·obtain rfl:l=[]:=Aq h0;refine λhsuf=>((Zm7 laysSlF6_f373 hE).mono ?_).v
   rintro _ _ rfl;refine⟨_,_,rfl,zN hsuf ?_⟩;refine zZ 1 rfl ?_;refine D0 ?_;have hs0:uh []=[]:=Aq (ZbZ []);exact zg (zi hd DT (by rw[hs0];rfl))
  ·haveI:Inhabited (Fin l.length):=⟨⟨0,by omega⟩⟩
   have hs:=λS id ver hid=>Zm8 (S:=S) (id:=id) (ver:=ver) (e:=3) (val:=λi:Fin l.length=>(i.val:Int)) laysSlF6_f373 hE (List.finRange l.length) hid DV hG (Znb l) (wV l) (VW l) (Zfw l) (λx y=>Zna l x y hn)
   rw[List.length_finRange]at hs;have hfl:=ZfE (Q4 l) (λi=>(i.val:Int));have hsl:=ZbZ l;refine λhsuf=>((hs _ (nx+1) v1 (by rw[yb];rfl)).mono ?_).v
   rintro _ _ rfl;refine⟨_,_,yk _ DQ DR,?_⟩;rw[show (((List.finRange l.length).mergeSort λx y=>!(ltOf (wV l)) y x).map λx=>I (x.val:Int))=(uh l).flatMap Enc.enc from hfl.symm];refine jG [] (show nx+1-nx=1 from by omega) hsuf ?_;refine zZ 1 rfl ?_;refine za (ze [] hsl ?_);exact zg (zi hd DT (by simp[zn,hsl]))
open Go Hp
theorem Znj(x:Inst)(c:List Int)(a b:Int):jS x (c++[b]) a=jS x c a++(if b≠a then [⟨a,b,uE x a b⟩] else []):=by
 unfold jS
 by_cases h:b=a<;>simp[h]
theorem Znk(x:Inst)(c:List Int)(a:Int):(jS x c a).length<=c.length:=by
 unfold jS;rw[List.length_map];exact BE _ _
theorem Znl(l:List Pr)(p:Pr):qT (l++[p])=qT l++[-p.s]:=by simp[qT]
theorem Znm(l:List Pr):(qT l).length=l.length:=by simp[qT]
theorem Znn(x:Inst)(c:List Int)(a:Int)(hx:q9 x)(hc:c.length<=1048576)(hs:∀b∈c,qb b)(ha:qb a):Pure prog 347 [.agg (zy x),L c,I a] (L (wB x c a)):=by
 refine zr func347 ntmps347 results347 λS nx hd=>?_
 refine D0 ?_;intro v0;refine D0 ?_;refine za (qt 7 392 3 rfl λv1=>?_);refine zb ?_;refine za (qt 8 3 1 rfl λv2=>?_);refine D0 ?_;refine zj (zC (λs:Nat × List Pr × Nat × Nat=>s.1<=c.length/\s.2.1=jS x (c.take s.1) a) (λ(k,ps,v1,v2)=>[(1,L c),(2,I a),(3,.ptr nx v0 0),(7,.sl (nx+1) v1 3 0 ps.length),(8,.sl (nx+2) v2 1 0 ps.length),(15,L c),(16,I c.length),(17,I k)]) (λ(k,ps,v1,v2)=>[.cells v0 25 (zy x),.cells v1 392 (ps.flatMap Enc.enc),.cells v2 3 ((qT ps).flatMap Enc.enc)]) (λs=>c.length-s.1) (0,[],v1,v2) [] (by simp[jS]) DR (by simp[qT]) ?_);rintro⟨k,ps,v1,v2⟩ ⟨hk,ho⟩;simp only at hk ho ⊢;have hpl:ps.length<=k:=by rw[ho];refine AB (Znk _ _ _) ?_;simp;omega
 have hnl:=Znm ps;refine D0 ?_;refine za (zv rfl (λhq=>?_) (λhq=>?_))
 ·simp at hq;obtain⟨b,tl,a1,a2,a3,e0⟩:=zE rfl c k hq;have hb:=hs b (Ab a1);have hsv:=Zb3 hx a b;have w5:IntKind.i64.wrap (-uE x a b)=-uE x a b:=wr _ DQ DQ;have hsn:=Znj x (c.take k) a b;rw[<-a3,<-ho]at hsn;refine zh (za (zj (za (ze [] (zo e0 hq) ?_))));refine D0 ?_;refine zv rfl (λhne=>?_) (λhne=>?_)
  ·simp at hne;rw[if_pos hne]at hsn;refine D0 ?_;refine zt (ZmT x a b hx ha hb) ?_;intro v3;refine D0 ?_;refine⟨by omega,?_⟩;have htk:List.take ps.length ((qT ps).flatMap Enc.enc)=(qT ps).flatMap Enc.enc:=by rw[<-hnl];exact ZkR _
   have hnf:((qT ps).flatMap Enc.enc).length=ps.length:=by rw[jm,hnl]
   refine ze [] (zA w5 htk hnf) ?_;refine⟨by omega,?_⟩;refine zb ?_;exact zq (k+1,ps++[⟨a,b,uE x a b⟩],v1+1,v2+1) [_] ⟨hq,hsn.symm⟩ DV (by simp[zu k (by omega)]) rfl (by simp[Znl];rfl)
  ·simp at hne;rw[if_neg (by simp[hne]),AD]at hsn;refine zh (zb ?_);exact zq (k+1,ps,v1,v2) [] ⟨hq,hsn.symm⟩ DV (by simp[zu k (by omega)]) rfl DR
 ·simp at hq;obtain rfl:k=c.length:=DQ
  rw[Ai]at ho;refine zx (zZ 1 rfl ?_);refine zZ 2 rfl ?_;refine D0 ?_;refine za (qt 12 392 3 rfl λv3=>?_);have hrw:wB x c a=(uh (qT ps)).map (ui ps):=by rw[ho];rfl
  rw[hrw];have hsl:=ZbZ (qT ps);have hmem:∀z∈uh (qT ps),0<=z/\z<ps.length:=λz h=>by have:=ZmB h;omega
  have hcall:=Zni (qT ps) DQ;rw[show L (qT ps)=PV.lst ps.length ((qT ps).flatMap Enc.enc) from by rw[<-hnl]]at hcall;generalize qT ps=ns at *;refine za (ze [] hnl ?_);refine zt hcall ?_;generalize uh ns=is at *;refine zj (zC (λs:Nat × List Pr × Nat=>s.1<=is.length/\s.2.1=(is.take s.1).map (ui ps)) (λ(k,os,v)=>[(7,L ps),(12,.sl (nx+3) v 3 0 os.length),(43,L is),(44,I is.length),(45,I k)]) (λ(k,os,v)=>[.cells v0 25 (zy x),.dead,.dead,.cells v 392 (os.flatMap Enc.enc)]) (λs=>is.length-s.1) (0,[],v3) [] DR (by simp[hnl]) DR ?_);rintro⟨k,os,v⟩ ⟨hk,ho2⟩;simp only at hk ho2 ⊢;refine D0 ?_;refine za (zv rfl (λhq=>?_) (λhq=>?_))
  ·simp at hq;obtain⟨i,tl,a1,a2,a3,e0⟩:=zE rfl is k hq;obtain⟨q1,q2⟩:=hmem i (Ab a1);obtain⟨j,rfl⟩:∃j:Nat,i=j:=⟨i.toNat,by omega⟩;have hj:j<ps.length:=DQ
   obtain⟨p,tp,b1,b2,b3,e1,e2⟩:=el 3 rfl ps j hj;have hg:ui ps (j:Int)=p:=by simp[ui,Aa,b1]
   have hgs:(is.take (k+1)).map (ui ps)=os++[p]:=by rw[a3,ho2];simp[hg]
   have hgl:os.length=k:=by rw[ho2];simp;omega
   refine zh (za (zj (za (ze [] (zo e0 hq) ?_))));refine ze [] (zA e1 e2 hj) ?_;refine⟨by omega,?_⟩;refine zb ?_;exact zq (k+1,os++[p],v+1) [] ⟨hq,hgs.symm⟩ DV (by simp[zu k (by omega)]) rfl DR
  ·simp at hq;obtain rfl:k=is.length:=DQ
   rw[Ai]at ho2;refine zx (zZ 3 rfl ?_);refine D0 ?_;exact zg (zi hd DT (by simp[zn,ho2]))
open Go Hp
@[simp] theorem ZyO(d1 d2 a b c:Ob)(l:List Ob)(o:Ob × Ob × Ob):ZY (d1 :: d2 :: a :: b :: c :: l) 2 o=d1 :: d2 :: o.1 :: o.2.1 :: o.2.2 :: l:=rfl
theorem HX.srt{o:Ob × Ob × Ob}{a hv mv:Nat}{r:zK Int}(h:HX o a hv mv r):ug r:=by
 obtain⟨_,_,_,h⟩:=h (λi=>if i=a then o.1 else if i=a+1 then o.2.1 else o.2.2) DR DR DR;exact h
theorem Zno{id:Int}{r:zK Int}(h:∀x∈r,x.1≠id):j4 id r=false:=by grind[j4]
def Wm(p:Pr):List PV:=[.agg [I p.a,I p.b,I p.s]]
def j5(x:Inst)(c:List Int)(k:Nat):List (List Pr):=(c.take k).map (wB x c)
theorem ZfF(x:Inst)(c:List Int):j5 x c 0=[]:=by simp[j5]
theorem Znp{x:Inst}{c:List Int}{k:Nat}{a:Int}(h:c.take (k+1)=c.take k++[a]):j5 x c (k+1)=j5 x c k++[wB x c a]:=by simp[j5,h]
theorem Znq(x:Inst)(c:List Int):j5 x c c.length=c.map (wB x c):=by simp[j5]
theorem ZfG(x:Inst)(c:List Int)(k:Nat)(h:k<=c.length):(j5 x c k).length=k:=by simp_all[j5]
def uF(rows:List (List Pr))(n:Nat):List PV:=rows.flatMap Enc.enc++List.replicate (n-rows.length) (.sc (.slice none 0 0))
theorem ZfH(rows:List (List Pr))(n:Nat)(h:rows.length<=n):(uF rows n).length=n:=by simp_all[uF]
theorem Znr(n:Nat):uF [] n=y8 n (.slice none 0 0):=by
 unfold uF;simp only[Co,AN,Ah,DM]
 induction n<;>simp_all[Y6,BC]
theorem Zns(rows:List (List Pr)):uF rows rows.length=rows.flatMap Enc.enc:=by simp[uF]
theorem Znt(rows:List (List Pr))(n:Nat)(r:List Pr)(h:rows.length<n):yf (uF rows n) rows.length [L r]=uF (rows++[r]) n:=by
 unfold uF yf;have h1:(rows.flatMap Enc.enc).length=rows.length:=jR rows;obtain⟨m,hm⟩:∃m,n-rows.length=m+1:=⟨n-rows.length-1,by omega⟩;rw[hm,BC];rw[Bu DQ,Ae DQ];rw[Cx,AS DR];simp[h1,show n-(rows.length+1)=m by omega]
theorem Znu(rows:List (List Pr))(n:Nat)(r:List Pr):(uF (rows++[r]) n)[rows.length]?=some (L r):=by
 unfold uF;rw[Ar,List.append_assoc,Am (by rw[jR];exact Ag _),jR];simp
theorem Znv(rows:List (List Pr))(k:Nat)(r:List Pr)(h:k<rows.length):yf (rows.flatMap Enc.enc) k [L r]=(rows.set k r).flatMap Enc.enc:=by
 have e:∀l:List (List Pr),l.flatMap Enc.enc=l.map λr=>L r:=λl=>by induction l<;>simp_all
 rw[e,e,yf,List.map_set,AE,if_pos (by simpa using h)];simp
theorem V2:∀(rows:List (List Pr)) (i:Nat) (r:List Pr),yQ i (rows++[r])=yQ i rows++yQ (i+rows.length) [r]
 | [],i,r=>by simp[yQ]
 | [] :: rows,i,r=>by
  simp only[List.cons_append,yQ,Ad];rw[V2 rows (i+1) r,show i+1+rows.length=i+(rows.length+1) by omega]
 | (p :: l) :: rows,i,r=>by
  simp only[List.cons_append,yQ,Ad];rw[V2 rows (i+1) r,show i+1+rows.length=i+(rows.length+1) by omega]
theorem Znw(rows:List (List Pr)):yQ 0 (rows++[[]])=yQ 0 rows:=by rw[V2];simp[yQ]
theorem Znx(rows:List (List Pr))(p:Pr)(tl:List Pr):(yQ 0 (rows++[p :: tl])).Perm (((rows.length:Int),-p.s) :: yQ 0 rows):=by
 rw[V2];simp only[yQ,AR];exact CP
theorem ZfI{rows:List (List Pr)}{k:Nat}(h:rows.getD k []=[]){r:zK Int}(hp:r.Perm (yQ 0 rows)):j4 (k:Int) r=false:=by
 refine Zno λx hx e=>?_
 obtain⟨j,p,tl,hj,rfl⟩:=(J5 rows 0 x).1 (hp.subset hx);simp only[AR]at e;have:j=k:=DQ
 subst this;rw[Aa,hj]at h;cases h
theorem Zny(x:Inst)(ss:List Stop):Pure prog 331 [.agg (zy x),L ss] (.fn (.func 345) [] [.ip [L ss],.ip (zy x)]):=by
 refine zr func331 ntmps331 results331 λS nx hd=>?_
 refine D0 ?_;intro v0 v1;refine D0 ?_;refine xO 0 rfl ?_;refine xO 1 rfl ?_;exact D1 hd
theorem Znz(x:Inst)(ss:List Stop)(hx:q9 x)(hss:ss.length<=1048576)(hs:∀s∈ss,qb s.c)(hnd:(ss.map (·.c)).Nodup):Qa prog 345 [.ip [L ss],.ip (zy x)] ((q8 x (ss.map (·.c))).map Wm):=by
 have hcust:=λS nx hd=>Wa ss hss S nx hd
 obtain⟨zs,hzs⟩:∃zs,zs=ss.map (·.c):=⟨_,rfl⟩;have hzl:ss.length=zs.length:=by rw[hzs];simp
 rw[<-hzs,hzl]at hcust;rw[<-hzs]at hnd ⊢;have hzsm:∀b∈zs,qb b:=by
  intro b hb;rw[hzs]at hb;obtain⟨s,h1,rfl⟩:=Al.1 hb;exact hs s h1
 have hz1:=Wc zs;have hz2:=Zfe zs;have hz3:=(ZbM zs).2 hnd;have hz4:=Qc zs;have hz5:q8 x zs=q8 x (yT zs):=ZmJ hnd hz3 hz2.symm;have hz6:(yT zs).Pairwise (· < ·):=(List.Pairwise.and hz1 hz3).imp λ⟨h1,h2⟩=>by omega
 have hzn:zs.length<=1048576:=DQ
 have hcsm:∀b∈yT zs,qb b:=λb hb=>hzsm b (hz2.subset hb)
 have hsort:=λ(S:Store) (id ver:Nat) (hid:S id=.cells ver 3 (zs.flatMap Enc.enc))=>VT zs hid hzn
 rw[hz5];generalize yT zs=c at *;clear hzs hz1 hz5;refine X4 func345 DW rfl ntmps345 (congrArg Array.toList results345) DR λl V keep nx J hJd hY A0 hA0=>?_
 refine D0 ?_;refine λhsuf=>((hcust _ _ jP).mono ?_).v
 rintro _ _ ⟨v1,rfl,rfl⟩;refine⟨_,_,JV _,jG [] Nat.add_assoc hsuf ?_⟩;refine D0 ?_;refine λhsuf=>((hsort _ _ _ DR).mono ?_).v
 rintro _ _ rfl;refine⟨_,_,yk _ DR DR,zN hsuf ?_⟩;rw[<-hz4];refine zZ 1 rfl ?_;refine D0 ?_;refine λhsuf=>(Zmx.mono ?_).v
 rintro p _ ⟨hv,mv,o1,rfl,m1,rfl⟩;refine⟨_,_,rfl,zN hsuf ?_⟩;simp at m1;refine D0 ?_;refine⟨by omega,λv0=>?_⟩
 repeat apply za
 refine zb ?_;have hpw:∀(row:List Pr) (a:Int),row=wB x c a->∀p∈row,IntKind.i64.wrap (-p.s)=-p.s:=by
  intro row a e p hp;rw[e]at hp;have h1:=(Zb2 x c a).subset hp;unfold jS at h1;obtain⟨b,_,rfl⟩:=Al.1 h1;have:=Zb3 hx a b
  show IntKind.i64.wrap (-uE x a b)=-uE x a b
  exact wr _ DQ DQ
 refine zj (zC (λs:Nat × zK Int × (Ob × Ob × Ob) × Nat=>s.1<=c.length/\s.2.1.Perm (yQ 0 (j5 x c s.1))/\HX s.2.2.1 (nx+2) hv mv s.2.1) (λ(k,its,o,v)=>[(0,jQ l),(2,.ip (zy x)),(4,L c),(5,.ptr (nx+3) hv 0),(6,.sl (nx+5) v 1 0 c.length),(21,L c),(22,I c.length),(23,I k)]) (λ(k,its,o,v)=>[.dead,.dead,o.1,o.2.1,o.2.2,.cells v 429 (uF (j5 x c k) c.length)]) (λs=>c.length-s.1) (0,[],o1,v0) [] ⟨by simp,by simp[ZfF,yQ],m1⟩ DR (by simp[ZfF,Znr]) ?_);rintro⟨k,its,o,v⟩ ⟨hk,hp,hm⟩;simp only at hk hp hm ⊢;refine D0 ?_;refine za (zv rfl (λhq=>?_) (λhq=>?_))
 ·simp at hq;obtain⟨a,tl,a1,a2,a3,e0⟩:=zE rfl c k hq;have hkl:=ZfG x c k DQ;have hks:=Znp (x:=x) a3;have hput:=Znt (j5 x c k) c.length (wB x c a) DQ;have hat:=Znu (j5 x c k) c.length (wB x c a);have hrl:=ZfH (j5 x c k) c.length DQ;have hrl2:=ZfH (j5 x c k++[wB x c a]) c.length DV;rw[hkl]at hput hat;have hno:j4 (k:Int) its=false:=ZfI (k:=k) (rows:=j5 x c k) (by rw[Aa,Ak (by omega)];rfl) hp;have hil:its.length<=k:=by rw[hp.length_eq];exact AB (VZ _ _) DQ
  refine zh (za (zj (za (ze [] (zo e0 hq) ?_))));refine D0 ?_;refine qi [] (Znn x c a hx DQ hcsm (hcsm a (Ab a1))) (zA hput hrl hq) ?_;refine⟨by omega,?_⟩;have hw:=hpw (wB x c a) a rfl;have hsn:=Znx (j5 x c k);have hsn0:=Znw (j5 x c k);generalize hrow:wB x c a=row at *;have hat2:∀h,(uF (j5 x c k++[row]) c.length)[k]'h=L row:=λh=>(Ac.1 hat).2
  refine za (ze [] (zA hat2 hq hrl2) ?_);cases row with
  | nil =>
   refine zm rfl (zh (zb ?_));refine zq (k+1,its,o,v) [] ⟨hq,?_,hm⟩ DV (by simp[zu k (by omega)]) rfl (by simp[hks]);simp only[hks,hsn0];exact hp
  | cons p rl =>
   have hwp:=hw p DR;refine zk DR ?_;refine ze [] (zJ hat2 hq hrl2 hwp) ?_;refine λhsuf=>((Zfv (j:=2) hm rfl rfl rfl (k:Int) (-p.s) DQ).mono ?_).v
   rintro _ T ⟨rfl,o2,m2,rfl⟩;refine⟨_,_,rfl,?_⟩;rw[hno]at m2;simp only[cond_false]at m2;refine zN hsuf ?_;refine zb ?_;refine zq (k+1,ZX ((k:Int),-p.s) its,o2,v) [] ⟨hq,?_,m2⟩ DV (by simp[zu k (by omega)]) rfl (by simp[hks]);simp only[hks];have:=hsn p rl;rw[hkl]at this;exact(Wh _ _).trans ((hp.cons _).trans this.symm)
 ·simp at hq;obtain rfl:k=c.length:=DQ
  obtain⟨hb1,hb2,hb3⟩:=ZmR (x:=x) hz6;rw[<-Znq]at hb1 hb2 hb3;have hrl:=ZfG x c c.length (Ag _);have hrc:=Zns (j5 x c c.length);rw[hrl]at hrc;rw[hrc];generalize j5 x c c.length=rows at *;refine zx (zj (jx (σ:=Nat × Store × List (List Pr) × zK Int × (Ob × Ob × Ob) × Nat) (λs=>s.1<=(q8 x c).length/\J s.1 s.2.1/\Rows' c s.2.2.1/\(∀r∈s.2.2.1,Sd wA r)/\s.2.2.1.flatten.Perm ((q8 x c).drop s.1)/\s.2.2.2.1.Perm (yQ 0 s.2.2.1)/\HX s.2.2.2.2.1 (nx+2) hv mv s.2.2.2.1) (λs=>[(0,jQ l),(5,.ptr (nx+3) hv 0),(6,.sl (nx+5) s.2.2.2.2.2 1 0 c.length)]) (λs=>s.2.1) (λs=>[.dead,.dead,s.2.2.2.2.1.1,s.2.2.2.2.1.2.1,s.2.2.2.2.1.2.2,.cells s.2.2.2.2.2 429 (s.2.2.1.flatMap Enc.enc)]) (λs=>(q8 x c).length-s.1) (zS (0,A0,rows,its,o,v) [] ⟨by simp,hA0,hb1,hb2,by simpa using hb3,hp,hm⟩ DR rfl DR) ?_));rintro⟨i,A,rows,its,o,v⟩ ⟨hi,hJ,hr1,hr2,hr3,hp,hm⟩;simp only at hi hJ hr1 hr2 hr3 hp hm ⊢;have hrl:rows.length=c.length:=hr1.len;have hs:=hm.srt;refine zj (za (xk [] DW DW λK Gc Gh hK hGc hGh X hX0 hX=>?_));simp -implicitDefEqProofs [hX0,hX]
  try clear hX0 hX X
  refine hGc _ _ _ _ _ _ _ λhsuf=>((Zmw (j:=2) hm rfl rfl rfl).mono ?_).v
  rintro _ T ⟨rfl,o2,m2,rfl⟩;refine⟨_,_,rfl,?_⟩;cases its with
  | nil =>
   clear hGc hGh;clear Gc Gh;refine xN hsuf (D:=[]) DW λGc Gh hGc hGh X hX0 hX=>?_
   simp -implicitDefEqProofs [hX0,hX,Q3,zY,wR];clear hX0 hX X;refine hK _ _ _ ?_;clear hK hGc hGh;clear K Gc Gh;have h0:∀r∈rows,r=[]:=by
    intro r hr;cases r with
    | nil=>rfl
    | cons p tl =>
     obtain⟨j,hj⟩:=Bg.1 hr;have:=(J5 rows 0 ((j:Int),-p.s)).2 ⟨j,p,tl,hj,by rw[AR]⟩;rw[List.nil_perm.1 hp]at this;cases this
   have hfin:=ZmE hr3 hi h0
   repeat apply za
   refine ze [(2,61)] zB ?_;exact zk rfl (zg (u5 (hJd _ _ hJ) rfl (by simpa[hfin] using hJ)))
  | cons it r =>
   obtain⟨q,y,tl,e1,e2,e3,e4,e5,e6,e7⟩:=ZmS hz6 hr1 hr2 hr3 hs hp.symm;subst e1;have hql:=(Ac.1 e2).1;have hql2:q<c.length:=DQ
   obtain⟨y',tr,a1,a2,a3,e0⟩:=zE rfl rows q hql;rw[e2]at a1;cases a1;have hil:=(Ac.1 e4).1;have hyx:((q8 x c).map Wm)[i]?=some (Wm y):=by rw[Aj,e4];rfl
   clear hGc hGh;clear Gc Gh;refine xN hsuf (D:=[]) DW λGc Gh hGc hGh X hX0 hX=>?_
   simp -implicitDefEqProofs [hX0,hX,Q3,zY,wR];clear hX0 hX X;refine hK _ _ _ ?_;clear hK hGc hGh;clear K Gc Gh
   repeat apply za
   refine ze [(2,61)] (zJ e0 hql2 hrl zB) ?_;refine λhsuf=>JW rfl rfl rfl (hY _ _ _ _ hyx hJ) ?_
   rintro _ ⟨A',hJ',rfl⟩;refine⟨_,_,rfl,jG [(2,61)] trivial hsuf ?_⟩;refine zm rfl (zh ?_);have hsp:=Znv rows q tl hql;have hrl2:(rows.set q tl).length=c.length:=by simp[hrl]
   have hql3:q<(rows.set q tl).length:=DQ
   obtain⟨y',tr',a1,a2,a3,e0'⟩:=zE rfl (rows.set q tl) q hql3;rw[AV hql]at a1;cases a1;have hno:j4 (q:Int) r=false:=ZfI (rows:=rows.set q []) (by rw[Aa,AV hql];rfl) e3;have hlen:r.length<=1048576:=by rw[e3.length_eq];exact AB (VZ _ _) DV
   have hperm:=λp tz=>VY rows 0 q p tz hql
   refine za (ze [] (zJ e0 hql2 hrl hsp) ?_);refine⟨by omega,?_⟩;refine za (ze [] (zA e0' hql2 hrl2) ?_);cases tl with
   | nil =>
    exact zm rfl (zh (zq (i+1,A',rows.set q [],r,o2,v) [] ⟨hil,hJ',e5,e6,e7,e3,m2⟩ DV DR rfl DR))
   | cons z tz =>
    have hzm:z∈(rows.set q (z :: tz)).flatten:=BJ.2 ⟨z :: tz,Ab (AV hql),by simp⟩;have hzp:z∈u9 x c:=(Q5 x c).subset (B5 (e7.subset hzm));have hzs:=(VX.1 hzp).2.2.2;have hwz:IntKind.i64.wrap (-z.s)=-z.s:=by
     rw[hzs];have:=Zb3 hx z.a z.b;exact wr _ DQ DQ
    refine zk DR ?_;refine ze [] (zJ e0' hql2 hrl2 hwz) ?_;refine λhsuf=>((Zfv (j:=2) m2 rfl rfl rfl (q:Int) (-z.s) DV).mono ?_).v
    rintro _ T ⟨rfl,o3,m3,rfl⟩;refine⟨_,_,rfl,?_⟩;simp only[List.tail_cons]at m3;rw[hno]at m3;simp only[cond_false]at m3;refine zN hsuf ?_;refine zq (i+1,A',rows.set q (z :: tz),ZX ((q:Int),-z.s) r,o3,v) [] ⟨hil,hJ',e5,e6,e7,?_,m3⟩ DV DR rfl DR;have:=hperm z tz;rw[AR]at this;exact(Wh _ _).trans ((e3.cons _).trans this.symm)
open Go Hp
theorem ZnA{x:Inst}{c:List Int}(h:c.Nodup)(hc:c.length<=1000):(q8 x c).length<=1000000:=by
 rw[ZmG h];exact AB (Nat.mul_le_mul hc (Nat.sub_le _ _)) (Cm 1000 hc)
open Go Hp
open Go Hp
def Qg(x:Inst)(ss:List Stop)(i:Nat):zp × Int:=((q8 x (ss.map (·.c))).take i).foldl (jh x) (ss.map λs=>[s],(ss.length:Int))
theorem ZnB(x:Inst)(ss:List Stop):Qg x ss 0=(ss.map λs=>[s],(ss.length:Int)):=by simp[Qg]
theorem ZnC{x:Inst}{ss:List Stop}{i:Nat}{p:Pr}(h:(q8 x (ss.map (·.c)))[i]?=some p):Qg x ss (i+1)=jh x (Qg x ss i) p:=by
 unfold Qg;obtain⟨h1,e⟩:=Ac.1 h;rw[AO h1,e,Br];rfl
theorem ZnD(x:Inst)(ss:List Stop):Qg x ss (q8 x (ss.map (·.c))).length=Zb4 x ss:=by simp[Qg,Zb4]
theorem ZnE(x:Inst)(T:zp)(num:Int)(p:Pr):num-1<=(jh x (T,num) p).2/\(jh x (T,num) p).2<=num:=by
 unfold jh Wj;cases qB x (T,num).2 p (Za (T,num).1 p.a) (Za (T,num).1 p.b) ((T,num).1.getD (Za (T,num).1 p.a) []) ((T,num).1.getD (Za (T,num).1 p.b) [])<;>simp<;>omega
theorem ZnF(x:Inst)(ss:List Stop)(hx:q9 x)(hxc:x.cust.length<=1048576)(hss:ss.length<=1000)(hs:∀s∈ss,qb s.c)(hnd:(ss.map (·.c)).Nodup):Pure prog 316 [.agg (zy x),L ss] (.agg [L (wW x ss)]):=by
 have hpl:=ZnA (x:=x) hnd (by simpa using hss);have hkey:KeyOk (.int .i64) qS:=Q1 .i64;have hdist:∀k s,ss[k]?=some s->s.c ∉ (ss.take k).map (·.c):=by
  intro k s h hm;obtain⟨s',h1,h2⟩:=Al.1 hm;obtain⟨j,hj⟩:=Bg.1 h1;rw[BG]at hj;split at hj
  ·rename_i hjk;have e1:(ss.map (·.c))[j]?=some s.c:=by rw[Aj,hj,<-h2];rfl
   have e2:(ss.map (·.c))[k]?=some s.c:=by rw[Aj,h];rfl
   obtain⟨g1,g2⟩:=Ac.1 e1;obtain⟨g3,g4⟩:=Ac.1 e2;exact By.1 hnd j k g1 g3 hjk (g2.trans g4.symm)
  ·cases hj
 refine zr func316 ntmps316 results316 λS nx hd=>?_
 refine D0 ?_;intro v0 v1;refine D0 ?_;intro v2 v3 v4;refine jg 3 6 40 1 rfl rfl λv5=>?_
 repeat apply za
 refine zb ?_;refine zj (zC (λs:Nat × zp × List (Value × PV) × (Int->Option Int) × Nat=>s.1<=ss.length/\s.2.1=(ss.take s.1).map (λs=>[s])/\MapIs qS I s.2.2.1 s.2.2.2.1/\JI (ss.take s.1) s.2.1 s.2.2.2.1) (λ(k,T,es,g,v5)=>[(1,L ss),(2,.ptr nx v0 0),(4,.ptr (nx+1) v1 0),(5,.ptr (nx+4) v4 0),(18,L ss),(19,I ss.length),(20,I k)])
  (λ(k,T,es,g,v5)=>[.cells v0 25 (zy x),.cells v1 39 [.sc (.slice none 0 0)],.map v2 es,.cells v3 387 (J6 x (nx+5) v5 k ss.length (nx+2) v2),.cells v4 383 [.ptr (nx+3) v3 0],.cells v5 40 (T.flatMap Enc.enc)]) (λs=>ss.length-s.1) (0,[],[],λ_=>none,v5) [] ⟨by simp,by simp,Zfl _ _,by simpa using JI.nil⟩ DR DR ?_)
 rintro⟨k,T,es,g,v5⟩ ⟨hk,hT,hm,hI⟩;simp only at hk hT hm hI ⊢;have hTl:T.length=k:=by rw[hT];simp;omega
 refine D0 ?_;refine za (zv rfl (λhq=>?_) (λhq=>?_))
 ·simp at hq;obtain⟨s,tl,a1,a2,a3,e1,e0⟩:=el 2 rfl ss k hq;obtain⟨rs,f1,_,_,f4,_⟩:=hm.find hkey s.c;have hnew:=f4 (k:Int);have hIn:=hI.snoc s (hdist k s a1);have hkl:(ss.take k).length=k:=DV
  rw[hkl,<-a3]at hIn;have hTs:T++[[s]]=(ss.take (k+1)).map λs=>[s]:=by rw[a3,hT];simp
  have htf:(T.flatMap Enc.enc).take k=T.flatMap Enc.enc:=Ae (by rw[jR];omega);have htl:(T.flatMap Enc.enc).length=k:=by rw[jR,hTl]
  refine zh (za (zj (za (ze [] (zA e1 e0 hq) ?_))));intro v6;refine za (zz (some [nx+4,nx+6]) (Row.pures [0,1,2,3,5,6,7] (.alt 4 (.alt 8 (Row.pures [9,10] (.alt 11 (.done) .stop)) .stop) .stop)) mixed (zo htf htl) ?_);refine⟨⟨by omega,by omega⟩,?_⟩;refine zz (some [nx+3,nx+4,nx+6]) (Row.pures [0,1,2,3,4,5,6] (.alt 7 (.done) .stop)) mixed trivial ?_;refine⟨by rfl,(Yt (.inl rfl) underlying384 underlying3 rfl rfl rfl DR f1 ?_)⟩;rw[yk _ DQ DR,show nx+2-nx=2 from by omega];refine⟨by simp[yK],jy trivial ?_⟩;refine zb ?_;exact zq (k+1,T++[[s]],qU (qS s.c) (I k) es rs,qW g s.c (some (k:Int)),v5+1) [_] ⟨hq,hTs,hnew,hIn⟩ DV (by simp[zu k (by omega)]) rfl DT
 ·simp at hq;obtain rfl:k=ss.length:=DQ
  rw[Ai]at hT hI;refine zx ?_
  repeat apply za
  refine zb ?_;refine zt (Zny x ss) ?_;refine zj (JX (xs:=(q8 x (ss.map (·.c))).map Wm) (σ:=zp × Int × List (Value × PV) × (Int->Option Int)) (λi s=>(s.1,s.2.1)=Qg x ss i/\i<=(q8 x (ss.map (·.c))).length/\MapIs qS I s.2.2.1 s.2.2.2/\JI ss s.1 s.2.2.2/\(ss.length:Int)-i<=s.2.1/\s.2.1<=ss.length) [(4,.ptr (nx+1) v1 0),(5,.ptr (nx+4) v4 0)] (λ_=>S)
   (λ(T,num,es,g)=>[.cells v0 25 (zy x),.cells v1 39 [.sc (.slice none 0 0)],.map v2 es,.cells v3 387 (J6 x (nx+5) v5 ss.length num (nx+2) v2),.cells v4 383 [.ptr (nx+3) v3 0],.cells v5 40 (T.flatMap Enc.enc)]) (T,(ss.length:Int),es,g)
   (Znz x ss hx DQ hs hnd) rfl (by intro x hx;obtain⟨y,_,rfl⟩:=Al.1 hx;rfl) DX DR ⟨by rw[ZnB,hT],by simp,hm,hI,by simp,by simp⟩ rfl DR DR ?_ ?_)
  ·clear hm hI hT hTl;rintro l i ⟨T,num,es,g⟩ more y ⟨hst,hi,hm,hI,hn1,hn2⟩ hy;simp only at hst hi hm hI hn1 hn2 ⊢;rw[Aj]at hy;obtain⟨p,hp,rfl⟩:=Ao.1 hy;obtain⟨hil,hpi⟩:=Ac.1 hp;have hmem:=VX.1 ((Q5 x _).subset (Ab hp));have hsucc:=ZnC hp;rw[<-hst]at hsucc;obtain⟨nb1,nb2⟩:=ZnE x T num p;refine xk [] DW DW λK Gc Gh hK hGc hGh X hX0 hX=>?_
   simp -implicitDefEqProofs [hX0,hX,Wm]
   try clear hX0 hX X
   intro v6;refine hK _ _ _ ?_;clear hK hGc hGh;clear K Gc Gh;refine zj (zb ?_);refine λhsuf=>((Zm1 x ss T g num es hxc hss DQ hI hm (jid:=nx+3) (tid:=nx+5) (mid:=nx+2) (by rw[yb];rfl) (by rw[yb];rfl) (by rw[yb];rfl) DQ DQ DQ p hmem.1 hmem.2.1).mono ?_).v
   rintro _ _ ⟨es2,g2,m2,i2,rfl⟩;refine⟨_,_,(by rw[yk _ (by omega) (by simp),yk _ (by omega) (by simp),yk _ (by omega) (by simp)]),jG [] (zA (show nx+3-nx=3 from by omega) (show nx+5-nx=5 from by omega) (show nx+2-nx=2 from by omega)) hsuf ?_⟩;simp only[jF];exact wS ((jh x (T,num) p).1,(jh x (T,num) p).2,es2,g2) [_] ⟨hsucc.symm,by omega,m2,i2,by simp only;omega,by simp only;omega⟩ rfl DT
  ·clear hm hI hT hTl;rintro⟨T,num,es,g⟩ ⟨hst,-,hm,hI,-,-⟩;simp only[List.length_map]at hst hI ⊢;rw[ZnD]at hst;have hTl:=hI.len;have hjp:wW x ss=T.filter λt=>!t.isEmpty:=by unfold wW;rw[<-hst]
   rw[hjp];refine D0 ?_;intro v6;refine jg 6 0 42 1 rfl rfl λv7=>?_
   repeat apply za
   refine zb ?_;refine zj (zC (λs:Nat × zp × Nat=>s.1<=T.length/\s.2.1=(T.take s.1).filter λt=>!t.isEmpty) (λ(k,out,v7)=>[(4,.ptr (nx+1) v1 0),(9,.ptr (nx+6) v6 0),(54,.sl (nx+5) v5 1 0 ss.length),(55,I ss.length),(56,I k)]) (λ(k,out,v7)=>[.cells v0 25 (zy x),.cells v1 39 [.sc (.slice none 0 0)],.map v2 es,.cells v3 387 (J6 x (nx+5) v5 ss.length num (nx+2) v2),.cells v4 383 [.ptr (nx+3) v3 0],.cells v5 40 (T.flatMap Enc.enc),.cells v6 39 [.sl (nx+7) v7 1 0 out.length],.cells v7 42 (out.flatMap Enc.enc)]) (λs=>T.length-s.1) (0,[],v7) [] ⟨by simp,by simp⟩ DR DR ?_);rintro⟨k,out,v7⟩ ⟨hk,ho⟩;simp only at hk ho ⊢;have hol:out.length<=k:=by rw[ho];exact AB (BE _ _) DV
   refine D0 ?_;refine za (zv rfl (λhq=>?_) (λhq=>?_))
   ·simp at hq;obtain⟨t,tl,a1,a2,a3,e0⟩:=zE rfl T k DQ;have hfs:(T.take (k+1)).filter (λt=>!t.isEmpty)=out++(if t=[] then [] else [t]):=by
     rw[a3,B1,<-ho];cases t<;>simp
    refine zh (za (zj (za (ze [] (zA e0 hq hTl) ?_))));refine D0 ?_;cases t with
    | nil =>
     rw[if_pos rfl,AD]at hfs;refine zm DR ?_;refine zh (zb ?_);exact zq (k+1,out,v7) [] ⟨by omega,hfs.symm⟩ DV (by simp[zu k (by omega)]) rfl DR
    | cons s t =>
     rw[if_neg DR]at hfs;refine zk DR ?_;refine zb ?_;refine⟨by omega,?_⟩;refine zb ?_;exact zq (k+1,out++[s :: t],v7+1) [] ⟨by omega,hfs.symm⟩ DV (by simp[zu k (by omega)]) rfl DR
   ·simp at hq;obtain rfl:k=T.length:=DQ
    rw[Ai]at ho;refine zx (zZ 7 rfl ?_);refine D0 ?_;exact zg (zi hd DT (by simp[zn,ho]))
open Go Hp
abbrev yu:PV:=.sc (.slice none 0 0)
open Go Hp
def Q7(pl:PV):Prop:=pl=yu\/∃n cs,pl=.lst n cs
theorem Q8(l:List Stop):Q7 (L l):=.inr ⟨_,_,rfl⟩
abbrev J7(x:Inst)(b:Int):PV:=.fn (.func 312) [] [.ip (zy x),.ip [I b]]
abbrev fsL(x:Inst)(pl:PV)(b:Int):List PV:=[.fn (.func 313) [] [.ip [pl]],.fn (.func 315) [] [.ip [J7 x b],.ip (zy x),.ip [pl]],.fn (.func 317) [] [.ip [J7 x b],.ip [pl]],.fn (.func 318) [] [.ip (zy x),.ip [pl],.ip [J7 x b]]]
theorem ZnG(x:Inst)(pl:PV)(b:Int)(hp:Q7 pl):Pure prog 285 [.agg (zy x),pl,I b] (.fn (.func 320) [] [.ip [.lst 4 (fsL x pl b)]]):=by
 rcases hp with rfl | ⟨n,cs,rfl⟩
 all_goals
  refine zr func285 ntmps285 results285 λS nx hd=>?_
  refine D0 ?_;intro v0 v1 v2;refine xO 0 rfl ?_;refine xO 1 rfl ?_;refine xO 2 rfl ?_;refine D0 ?_;intro v3;refine xO 3 rfl ?_;refine D0 ?_;intro v4;refine xO 4 rfl ?_;refine D0 ?_;exact D1 hd
theorem ZnH(pl:PV)(d:zp)(hp:Q7 pl)(hA:Pure prog 314 [pl] (.agg [L d])):Pure prog 313 [.ip [pl]] (.tup [.agg [L d],B true]):=by
 rcases hp with rfl | ⟨n,cs,rfl⟩
 all_goals
  refine zr func313 ntmps313 results313 λS nx hd=>?_
  refine D0 ?_;intro v0;refine D0 ?_;refine zt hA ?_;exact D1 hd
theorem Zb9(x:Inst)(b:Int)(d e:zp)(n:Int)(hI:Pure prog 252 [.agg (zy x),.agg [L d],I b] (.tup [.agg [L e],I n])):Pure prog 312 [.agg [L d],.ip (zy x),.ip [I b]] (.agg [L e]):=by
 refine zr func312 ntmps312 results312 λS nx hd=>?_
 refine D0 ?_;intro v0 v1;refine D0 ?_;refine zt hI ?_;refine D0 ?_;exact D1 hd
theorem ZnI(x:Inst)(pl:PV)(b:Int)(d e:zp)(n:Int)(hp:Q7 pl)(hJ:Pure prog 316 [.agg (zy x),pl] (.agg [L d]))(hI:Pure prog 252 [.agg (zy x),.agg [L d],I b] (.tup [.agg [L e],I n])):Pure prog 315 [.ip [J7 x b],.ip (zy x),.ip [pl]] (.tup [.agg [L e],B true]):=by
 have hF:=Zb9 x b d e n hI;rcases hp with rfl | ⟨n,cs,rfl⟩
 all_goals
  refine zr func315 ntmps315 results315 λS nx hd=>?_
  refine D0 ?_;intro v0;refine za (zz (some []) (Row.pures [0,1,2,3,4] (.alt 5 (Row.pures [6] .done) .stop)) mixed trivial ?_);refine zH (hJ) trivial ?_;refine zH (hF) trivial ?_;exact D1 hd
theorem ZnJ(x:Inst)(pl:PV)(b:Int)(d e:zp)(n:Int)(hp:Q7 pl)(hA:Pure prog 314 [pl] (.agg [L d]))(hI:Pure prog 252 [.agg (zy x),.agg [L d],I b] (.tup [.agg [L e],I n])):Pure prog 317 [.ip [J7 x b],.ip [pl]] (.tup [.agg [L e],B true]):=by
 have hF:=Zb9 x b d e n hI;rcases hp with rfl | ⟨n,cs,rfl⟩
 all_goals
  refine zr func317 ntmps317 results317 λS nx hd=>?_
  refine D0 ?_;intro v0;refine za (zz (some []) (Row.pures [0,1,2,3] (.alt 4 (Row.pures [5] .done) .stop)) mixed trivial ?_);refine zH (hA) trivial ?_;refine zH (hF) trivial ?_;exact D1 hd
theorem ZfJ(x:Inst)(pl:PV)(b:Int)(d e:zp)(ok:Bool)(n:Int)(hp:Q7 pl)(hR:Pure prog 319 [.agg (zy x),pl] (.tup [.agg [L d],B ok]))(hI:ok=true->Pure prog 252 [.agg (zy x),.agg [L d],I b] (.tup [.agg [L e],I n])):
  Pure prog 318 [.ip (zy x),.ip [pl],.ip [J7 x b]] (.tup [.agg [bif ok then L e else yu],B ok]):=by
 rcases hp with rfl | ⟨n,cs,rfl⟩
 all_goals
  cases ok with
  | false =>
   refine zr func318 ntmps318 results318 λS nx hd=>?_
   refine D0 ?_;intro v0;refine D0 ?_;refine zt hR ?_;intro v1
   repeat apply za
   refine zb ?_;refine zk rfl (D0 ?_);exact D1 hd
  | true =>
   have hF:=Zb9 x b d e _ (hI rfl);refine zr func318 ntmps318 results318 λS nx hd=>?_
   refine D0 ?_;intro v0;refine D0 ?_;refine zt hR ?_;intro v1
   repeat apply za
   refine zb ?_;refine zm rfl (zh (D0 ?_));refine zt hF ?_;exact D1 hd
theorem ZnK(fs:List PV)(rs:List (Option zp))(hl:rs.length=fs.length)(hn:fs.length<=1000)
  (h:∀(k:Nat) f,fs[k]?=some f->∃fk caps p,f=.fn (.func fk) [] caps/\Pure prog fk caps (.tup [.agg [p],B (rs.getD k none).isSome])/\∀d,rs.getD k none=some d->p=L d) :
  Qa prog 320 [.ip [.lst fs.length fs]] ((rs.filterMap id).map λd=>[.agg [L d]]):=by
 refine X4 func320 DW rfl ntmps320 (congrArg Array.toList results320) DR λl V keep nx J hJd hY A0 hA0=>?_
 refine D0 ?_;refine zj (jx (σ:=Nat × Store) (λs=>s.1<=fs.length/\J ((rs.take s.1).filterMap id).length s.2) (λs=>[(0,jQ l),(7,.lst fs.length fs),(8,I fs.length),(9,I s.1)]) (λs=>s.2) (λs=>[]) (λs=>fs.length-s.1) (zS (0,A0) [] (by simp[hA0]) DR rfl DR) ?_);rintro⟨k,A⟩ ⟨hk,hJ⟩;simp only at hk hJ ⊢;refine D0 ?_;refine za (zv rfl (λhc=>?_) (λhc=>?_))
 ·simp at hc;have e0:fs.drop k=fs[k] :: fs.drop (k+1):=AI hc;obtain⟨fk,caps,p,hf,hP,hd⟩:=h k fs[k] (Af hc);rw[hf]at e0;have hkr:k<rs.length:=DQ
  have htk:rs.take (k+1)=rs.take k++[rs[k]]:=AO hkr;have hg:rs.getD k none=rs[k]:=by rw[Aa,Af hkr];rfl
  rw[hg]at hP hd;refine zh (za (zj (za (ze [] (zo e0 hc) ?_))));cases hr:rs[k] with
  | none =>
   rw[hr]at hP htk;simp only[Da]at hP;have hlen:((rs.take (k+1)).filterMap id).length=((rs.take k).filterMap id).length:=by rw[htk];simp
   refine D0 ?_;refine zt hP ?_;intro v0;refine za (ze [(1,19)] zB ?_);refine zm rfl (zh (zb ?_));exact zq (k+1,A) [_] ⟨hc,by rw[hlen];exact hJ⟩ DV (by simp[zu k (by omega)]) rfl DT
  | some d =>
   obtain rfl:=hd d hr;rw[hr]at hP htk;simp only[Option.isSome_some]at hP;have hlen:((rs.take (k+1)).filterMap id).length=((rs.take k).filterMap id).length+1:=by rw[htk];simp
   have hx:((rs.filterMap id).map λd=>[PV.agg [L d]])[((rs.take k).filterMap id).length]?=some [PV.agg [L d]]:=by
    have e1:rs.filterMap id=(rs.take k).filterMap id++(d :: (rs.drop (k+1)).filterMap id):=by
     conv=>lhs;rw[<-List.take_append_drop k rs,AI hkr,hr]
     simp
    rw[Aj,e1,Am (Ag _),BA];rfl
   refine D0 ?_;refine zt hP ?_;intro v0;refine za (ze [(1,19)] trivial ?_);refine λhsuf=>JW rfl rfl rfl (hY _ _ _ _ hx hJ) ?_
   rintro _ ⟨A',hJ',rfl⟩;refine⟨_,_,rfl,jG [(1,19)] trivial hsuf ?_⟩;refine zm rfl (zh (zb ?_));exact zq (k+1,A') [_] ⟨hc,by rw[hlen];exact hJ'⟩ DV (by simp[zu k (by omega)]) rfl DT
 ·simp at hc;obtain rfl:k=fs.length:=DQ
  rw[<-hl,Ai]at hJ;refine zx (u5 (hJd _ _ hJ) rfl ?_);simpa using hJ
def vG(x:Inst)(st:zp × Int × Bool)(d:zp):zp × Int × Bool:=if yg x d=0 then (if st.2.2=false\/W (yA x d)<st.2.1 then (d,W (yA x d),true) else st) else st
def Qh(x:Inst)(ds:List zp):zp × Int × Bool:=ds.foldl (vG x) ([],0,false)
open Go Hp
theorem ZnL{K:(Nat->PV)->Store->Prop}{Q:Exit->(Nat->PV)->Store->Prop}{i:Nat}{F:Nat->PV}{S:Store}(h:Q (.exit i) F S):Yp K Q (.exit i) F S:=h
theorem ZnM{Q:Exit->(Nat->PV)->Store->Prop}{i:Nat}{F:Nat->PV}{S:Store}(h:Q .normal F S):jF i Q (.exit i) F S:=by simp[jF,h]
def vH(x:Inst)(e:Int)(ds:List zp):zp × Int:=if e=0 then (bif (Qh x ds).2.2 then ((Qh x ds).1,0) else ([],14)) else ([],e)
theorem ZfK(x:Inst)(pl:PV)(b e:Int)(ds:List zp)(hp:Q7 pl)(hx:x.cust.length<=1048576)(hF:Pure prog 284 [.agg (zy x),pl] (I e))
  (hit:e=0->Qa prog 320 [.ip [.lst 4 (fsL x pl b)]] (ds.map λd=>[.agg [L d]])) (hds:e=0->∀d∈ds,DayOk d/\d.flatten.length<=1048576) :
  Pure prog 249 [.agg (zy x),pl,I b] (.tup [.agg [L (vH x e ds).1],I (vH x e ds).2]):=by
 have hT:=ZnG x pl b hp;refine zr func249 ntmps249 results249 λS nx hd=>?_
 refine D0 ?_;intro v0 v1
 repeat apply za
 refine zb ?_;refine zt hF ?_
 by_cases he:e=0
 case neg =>
  refine D0 ?_;refine zk (by simp[he]) ?_;refine D0 ?_;refine qu 1 0 rfl rfl ?_;exact zg (zi hd DT (by simp[vH,he,zn]))
 subst he;have hit:=hit rfl;have hds:=hds rfl;refine D0 ?_;refine zm DR ?_;refine zh (D0 ?_);intro v2 v3 v4;refine qu 2 0 rfl rfl ?_
 repeat apply za
 refine zb ?_;refine zt hT ?_;refine zj (JX (xs:=ds.map λd=>[PV.agg [L d]]) (σ:=zp × Int × Bool) (λi s=>s=(ds.take i).foldl (vG x) ([],0,false)/\i<=ds.length) [(3,.ptr nx v0 0),(6,.ptr (nx+1) v1 0),(7,I 0),(9,.ptr (nx+2) v2 0),(10,.ptr (nx+3) v3 0),(11,.ptr (nx+4) v4 0)] (λ_=>S)
  (λ(best,least,found)=>[.cells v0 25 (zy x),.cells v1 39 [yu],.cells v2 39 [L best],.cells v3 3 [I least],.cells v4 4 [B found]]) ([],0,false)
  hit rfl (by intro x hx;obtain⟨y,_,rfl⟩:=Al.1 hx;rfl) DX DR ⟨by simp,by simp⟩ rfl DR DR ?_ ?_)
 ·rintro l i ⟨best,least,found⟩ more y ⟨hst,hi⟩ hy;simp only at hst hi ⊢;rw[Aj]at hy;obtain⟨d,hd',rfl⟩:=Ao.1 hy;obtain⟨hil,hdi⟩:=Ac.1 hd';obtain⟨hdo,hdf⟩:=hds d (Ab hd');have hday:=ZbO x d hx hdo.1 hdo.2 hdf;have hcost:=J4 x d hdo;have hsucc:(ds.take (i+1)).foldl (vG x) ([],0,false)=vG x (best,least,found) d:=by
   rw[AO hil,hdi,Br,<-hst];rfl
  unfold vG at hsucc;simp only at hsucc;refine zb ?_;intro v5;refine zj ?_
  repeat apply za
  refine zb ?_;refine zt hday ?_
  by_cases h1:yg x d=0
  ·rw[if_pos h1]at hsucc;refine zm (by simp[h1]) ?_;refine zh (D0 ?_);refine zt hcost ?_;generalize W (yA x d)=c at *;cases found with
   | false =>
    rw[if_pos (.inl rfl)]at hsucc;refine za (ze [(2,36)] zB ?_);refine zk rfl (zb ?_);simp only[jF];exact wS (d,c,true) [_] ⟨hsucc.symm,by omega⟩ rfl DT
   | true =>
    by_cases h2:c<least
    ·rw[if_pos (.inr h2)]at hsucc;refine za (ze [(2,36)] (zo h2 zB) ?_);refine zk rfl (zb ?_);simp only[jF];exact wS (d,c,true) [_] ⟨hsucc.symm,by omega⟩ rfl DT
    ·rw[if_neg (by simp[h2])]at hsucc;refine za (ze [(2,36)] (zo h2 zB) ?_);refine zm rfl (zh ?_);simp only[jF];exact wS (best,least,true) [_] ⟨hsucc.symm,by omega⟩ rfl DT
  ·rw[if_neg h1]at hsucc;refine zk (by simp[h1]) ?_;refine zx (ZnL (ZnM ?_));exact wS (best,least,found) [_] ⟨hsucc.symm,by omega⟩ rfl DT
 ·rintro⟨best,least,found⟩ ⟨hst,-⟩;simp only[List.length_map,Ai]at hst ⊢;have hz:Qh x ds=(best,least,found):=hst.symm;cases found with
  | false =>
   repeat apply za
   refine zb ?_;refine zk rfl (D0 ?_);refine qu 1 0 rfl rfl ?_;exact zg (zi hd DT (by simp[vH,hz,zn]))
  | true =>
   repeat apply za
   refine zb ?_;refine zm rfl (zh (D0 ?_));exact zg (zi hd DT (by simp[vH,hz,zn]))
open Go Hp
theorem ZfL(lk:List PV)(s:Stop)(hl:lk.length=13):Pure prog 336 [.agg lk,.agg [I s.c,I s.q]] (.fn (.func 352) [] [.ip [I s.c,I s.q],.ip lk]):=by
 refine zr func336 ntmps336 results336 λS nx hd=>?_
 refine za (ze [] hl ?_);intro v0 v1;refine D0 ?_;refine xO 0 rfl ?_;refine xO 1 rfl ?_;exact D1 hd
open Go Go.Lib Go.Proofs
theorem Q9:ElemOk prog 40 100 (.agg #[.int .i64 0,.int .i64 0]) 16 :=
 ⟨underlying40,by simp,by simp,by simp,by simp,by omega⟩
theorem ZfM(a:Addr)(n c:Nat)(w W2:World)(u:Value)(hrz:∀ty,(Builtin.append_ #[40,40] ty #[.slice (some ⟨w.heap.size,0,none⟩) 0 0,.slice (some a) n c]).run prog (w.alloc (.cells #[] 100))=.ok u W2):
  Calls prog 290 #[.slice (some a) n c] w λe w'=>e=.returned u/\w'=W2:=by
 have mixed:prog.follows .mixedOrders=true:=DU
 have q22:∀(w:World) (a:Option Addr) (n c n' c':Nat),(binOp .eql 40 (.slice a n c) (.slice none n' c')).run prog w=.ok (.bool a.isNone) w:=λw a n c n' c'=>Lib.run_eql_slice_nil w _ _ a n c n' c' underlying40
 go_enter func290,ntmps290
 go_wp2_with (at_builtin;refine Lib.wpList_append_run _ rfl _ _ _ _ rfl _ _ rfl rfl _ _ (hrz _) ?_)
 go_wp2
 go_ret
 exact⟨rfl,rfl⟩
theorem ZnN(n c:Nat)(w:World):
  Calls prog 290 #[.slice none n c] w λe w'=>e=.returned (.slice none 0 0)/\w'=w:=by
 have mixed:prog.follows .mixedOrders=true:=DU
 have q22:∀(w:World) (a:Option Addr) (n c n' c':Nat),(binOp .eql 40 (.slice a n c) (.slice none n' c')).run prog w=.ok (.bool a.isNone) w:=λw a n c n' c'=>Lib.run_eql_slice_nil w _ _ a n c n' c' underlying40
 go_enter func290,ntmps290
 go_wp2
 go_ret
 exact⟨rfl,rfl⟩
theorem Zca(l:List Stop)(h0:0<l.length)(hn:l.length<=1048576)(S:Store)(nx:Nat)(hd:S nx=.dead):
  Spec prog 290 [L l] S (λp S'=>∃v,p=.sl nx v 2 0 l.length/\S'=S.set nx (.cells v 100 (l.flatMap Enc.enc))):=by
 refine⟨qn func290 DW rfl,?_⟩;intro C w vs hS hl hr;obtain⟨u,rfl⟩:=ZbH hl;have hu:Rel C S w (.lst l.length (l.flatMap Enc.enc)) u:=hr 0 _ u rfl rfl;obtain⟨a,cap,rfl⟩:∃a cap,u=.slice (some a) l.length cap:=by
  generalize hq:l.flatMap Enc.enc=cs at hu;generalize l.length=n at *;cases hu with
  | lst0=>omega
  | lst1=>exact⟨_,_,rfl⟩
 obtain⟨k1,j1,m1⟩:=hS.alloc (.cells #[] 100);have hc:prog.cellsOf 100=2:=DR
 obtain⟨news,hsrc,hrel,_⟩:=Vy (P:=prog) (sz:=2) (m:=l.length) (ds:=l.flatMap Enc.enc) k1 (by simp[ZP]) (hu.mono j1);rw[<-hc]at hsrc;have hrun:=λty=>Vx (P:=prog) (ty:=ty) (b:=some ⟨w.heap.size,0,none⟩) (k:=0) (cap:=0) (olds:=[]) Q9.ty Q9.pos Q9.zero Q9.bytes hsrc (run_firstCells_some _ _ 0 ⟨w.heap.size,0,none⟩ 0 0 [] DR DR) DQ DQ Q9.bpos
 simp only[AR]at hrun;refine(ZfM a l.length cap w _ _ hrun).mono ?_;rintro e w' ⟨rfl,rfl⟩;have hge:=grownCap_ge (w.alloc (.cells #[] 100)) l.length 0 100;obtain⟨d1,d2⟩:=k1.drew;have hfr:Fresh C S nx C.clock:=.clock C hd;have hra:=JL (cs:=[]) (vs:=[]) (by simp[RelL]) hrel (Builtin.zeroCells (Value.agg #[.int .i64 0,.int .i64 0]).cells (grownCap (w.alloc (.cells #[] 100)) l.length 0 100-l.length)).toList;simp only[AN]at hra;have hget:∀i:Nat,(([]:List Value).toArray++news.toArray++Builtin.zeroCells (Value.agg #[.int .i64 0,.int .i64 0]).cells (grownCap (w.alloc (.cells #[] 100)) l.length 0 100-l.length):Array Value)[i]?=(news++(Builtin.zeroCells (Value.agg #[.int .i64 0,.int .i64 0]).cells (grownCap (w.alloc (.cells #[] 100)) l.length 0 100-l.length)).toList)[i]?:=by
  intro i;rw[<-Array.getElem?_toList];simp
 obtain⟨t1,t2⟩:=d1.object' hfr 100 (([]:List Value).toArray++news.toArray++Builtin.zeroCells (Value.agg #[.int .i64 0,.int .i64 0]).cells (grownCap (w.alloc (.cells #[] 100)) l.length 0 100-l.length)) (l.flatMap Enc.enc) (by have:=hra.1;simp at this ⊢;omega) (λi v hi hv=>hra.2.1 i v hi (by rw[<-hget];exact hv)) (λi p v hp hv=>(hra.2.2 i p v hp (by rw[<-hget];exact hv)).mono d2);refine⟨_,_,_,_,rfl,⟨C.clock,rfl,rfl⟩,XZ C S _ _ _ _ _ _ _ _ _ rfl hge (AB hn (by unfold jY;omega)) (grownCap_le_maxLen _ _ _ _ (by unfold maxLen;omega)) ?_,t1,j1.trans (d2.trans t2)⟩;have:=hsrc.size;simp only[Cl,size_zeroCells,BL,this,hc];simp[Value.cells];omega
theorem V3(l:List Stop)(hn:l.length<=1048576):Pure prog 290 [L l] (L l):=by
 by_cases h0:0<l.length
 ·exact VH 0 (λS nx hd=>Zca l h0 hn S nx (hd nx (Ag _))) DR
 ·obtain rfl:l=[]:=Aq DQ;intro S;refine⟨qn func290 DW rfl,?_⟩;intro C w vs hS hl hr;obtain⟨u,rfl⟩:=ZbH hl;have hu:Rel C S w (.lst 0 []) u:=hr 0 _ u rfl rfl;obtain⟨a,cap,rfl⟩:∃a cap,u=.slice a 0 cap:=by
   cases hu with
   | lst0=>exact⟨_,_,rfl⟩
   | lst1=>exact⟨_,_,rfl⟩
  cases a with
  | none =>
   refine(ZnN 0 cap w).mono ?_;rintro e w' ⟨rfl,rfl⟩;exact⟨_,_,_,_,rfl,⟨rfl,rfl⟩,.lst0,hS,.refl _ _ _⟩
  | some a =>
   obtain⟨k1,j1,m1⟩:=hS.alloc (.cells #[] 100);have hc:prog.cellsOf 100=2:=DR
   obtain⟨news,hsrc,hrel,_⟩:=Vy (P:=prog) (sz:=2) (m:=0) (ds:=[]) k1 (by simp[ZP]) (hu.mono j1);have hne:news=[]:=Aq (by rw[hsrc.size,CO]);subst hne;rw[<-hc]at hsrc;have hrun:=λty=>Zbf (P:=prog) (ty:=ty) (b:=some ⟨w.heap.size,0,none⟩) (k:=0) (cap:=0) Q9.ty Q9.pos hsrc (Ag 0)
   refine(ZfM a 0 cap w _ _ hrun).mono ?_;rintro e w' ⟨rfl,rfl⟩;exact⟨_,_,_,_,rfl,⟨rfl,rfl⟩,.lst0,k1,j1⟩
theorem ZnO{S:Store}{id ver:Nat}(cs:List Stop)(s:Stop)(hn:cs.length<=1000000)(hid:S id=.cells ver 100 (cs.flatMap Enc.enc)):
  Spec prog 338 [.sl id ver 2 0 cs.length,I cs.length,L [s]] S (λp S'=>p=.sl id (ver+1) 2 0 (cs.length+1)/\S'=S.set id (.cells (ver+1) 100 ((cs++[s]).flatMap Enc.enc))):=by
 refine yl func338 ntmps338 results338 λnx hd=>?_
 have hlt:id<nx:=by
  rcases Bb id nx with h | h
  ·exact h
  ·have:=hd id h;rw[hid]at this;cases this
 have hx:=λobs=>(zD (S:=S) (obs:=obs) hlt).trans hid
 have hlt1:¬nx<=id:=DQ
 refine za (ze [] hx ?_);refine za (ze [] hx ?_);refine za (ze [] hx ?_)
 repeat apply za
 refine ze [] hx ?_;refine zm rfl (zh (za (ze [] hx ?_)))
 repeat apply za
 refine ze [] hx ?_;refine zk rfl (za (ze [] (zo hx hlt1) ?_));refine⟨by omega,?_⟩;have hdd:∀(o:Ob),zW nx (S.set id o):=by
  intro o q hq;rw[q10 _ _ _ _ DQ];exact hd q hq
 exact zg ⟨_,_,by simp;rfl,⟨by simp[zn],by simp⟩,zR (hdd _)⟩
theorem ZnP{S:Store}{id ver:Nat}(cs:List Stop)(i:Nat)(s:Stop)(hi:i<=cs.length)(hn:cs.length<=1000000)(hid:S id=.cells ver 100 (cs.flatMap Enc.enc)):
  Spec prog 338 [.sl id ver 2 0 cs.length,I i,L [s]] S (λp S'=>p=.sl id (ver+1) 2 0 (cs.length+1)/\S'=S.set id (.cells (ver+1) 100 ((cs.take i++s :: cs.drop i).flatMap Enc.enc))):=by
 by_cases h:i=cs.length
 ·subst h;rw[Ai,Bn];exact ZnO cs s hn hid
 ·exact ZlP cs i s DQ hn hid
open Go Go.Proofs
def Ja(d:zp)(t nx:Nat)(k:Nat)(ts:List PV)(ob:Ob):Prop :=
 ts.length=k/\(k<=t->ts=(d.take k).flatMap Enc.enc/\ob=.dead) /\
 (t<k->∃v l,d[t]?=some l/\ts=((d.take k).flatMap Enc.enc).set t (.sl (nx+4) v 2 0 l.length)/\ob=.cells v 100 (l.flatMap Enc.enc))
theorem ZnQ{d:zp}{t nx k:Nat}{ts:List PV}{ob:Ob}(h:Ja d t nx k ts ob)(hk:k<d.length)(ht:k≠t):Ja d t nx (k+1) (ts++[L d[k]]) ob:=by
 obtain⟨h1,h2,h3⟩:=h;have e:d.take (k+1)=d.take k++[d[k]]:=AO hk;refine⟨by simp[h1],λhkt=>?_,λhkt=>?_⟩
 ·obtain⟨a,b⟩:=h2 DQ;exact⟨by rw[e,a,Ar];rfl,b⟩
 ·obtain⟨v,l,a,b,c⟩:=h3 DQ;refine⟨v,l,a,?_,c⟩;rw[b,e,Ar,List.set_append_left _ _ (by rw[jR];simp;omega)];rfl
theorem ZnR{d:zp}{t nx:Nat}{ts:List PV}{ob:Ob}(h:Ja d t nx t ts ob)(hk:t<d.length)(v:Nat):Ja d t nx (t+1) (ts++[.sl (nx+4) v 2 0 d[t].length]) (.cells v 100 (d[t].flatMap Enc.enc)):=by
 obtain⟨h1,h2,h3⟩:=h;have e:d.take (t+1)=d.take t++[d[t]]:=AO hk;refine⟨by simp[h1],λhkt=>by omega,λ_=>⟨v,d[t],Af hk,?_,rfl⟩⟩;obtain⟨a,-⟩:=h2 (Ag _);have hl:((d.take t).flatMap Enc.enc).length=t:=by rw[jR];simp;omega
 rw[a,e,Ar,BD _ _ DQ,hl,BA];rfl
theorem Zcb(d:zp)(t:Nat)(hd0:d.length<=1048576)(hd1:∀l∈d,l.length<=1048576)(ht:∀l,d[t]?=some l->0<l.length)(S:Store)(nx:Nat)(hd:zW nx S):
  Spec prog 337 [.agg [L d]] S (λp S'=>∃v ts ob,Ja d t nx d.length ts ob/\p=.agg [.sl (nx+3) v 1 0 d.length]/\S'=(S.set (nx+3) (.cells v 42 ts)).set (nx+4) ob):=by
 refine u6 hd func337 ntmps337 results337 ?_;refine D0 ?_;intro v0 v1;refine D0 ?_;intro v2;refine jg 2 0 42 1 rfl rfl λv3=>?_
 repeat apply za
 refine zb ?_
 show PW _ _ _ _ _ _ _ (ext _ _ _)
 rw[ZeI 1];refine zj (zC (λ(s:Nat × List PV × Ob × Nat × Nat)=>s.1<=d.length/\Ja d t nx s.1 s.2.1 s.2.2.1) (λ(k,ts,ob,v2,v3)=>[(2,.ptr (nx+1) v1 0),(3,.ptr (nx+2) v2 0),(7,L d),(8,I d.length),(9,I k)]) (λ(k,ts,ob,v2,v3)=>[.cells v0 39 [L d],.cells v1 39 [yu],.cells v2 39 [.sl (nx+3) v3 1 0 k],.cells v3 42 ts,ob]) (λs=>d.length-s.1) (0,[],.dead,v2,v3) [] ⟨by simp,by simp[Ja]⟩ DR DR ?_);rintro⟨k,ts,ob,v2,v3⟩ ⟨hk,hI⟩;simp only at hk hI ⊢;have htl:=hI.1;have htk:ts.take k=ts:=Ae DQ;refine D0 ?_;refine za (zv rfl (λhc=>?_) (λhc=>?_))
 ·simp at hc;obtain⟨l,tl,a1,a2,a3,e0⟩:=zE rfl d k hc;obtain⟨hkl,rfl⟩:=Ac.1 a1;have hk1:1<=d.length-k:=DQ
  refine zh (za (zj (za (ze [] (zA hc e0 hk1) ?_))));intro v5
  by_cases hkt:k=t
  ·subst hkt;have hcl:=Zca d[k] (ht _ a1) (hd1 _ (A9 hkl));obtain rfl:=(hI.2.1 (Ag _)).2;refine zz (some [nx+5]) (Row.pures [0,2,3] (.alt 1 (.alt 4 (Row.pures [5,6] (.alt 7 (Row.pures [8] (.alt 9 (.done) .stop)) .stop)) .stop) (.alt 4 (Row.pures [5,6] (.alt 1 (.alt 7 (Row.pures [8] (.alt 9 (.done) .stop)) .stop) .stop)) .stop))) mixed (zo htl htk) ?_;refine⟨?_,?_⟩
   all_goals
    skip
    refine((hcl _ (nx+4) DR).mono ?_).v;rintro _ _ ⟨v4,rfl,rfl⟩;rw[yk _ DQ DR,AH];refine⟨by simp[yK],jy (zo htl htk) ?_⟩;refine⟨by omega,?_⟩;refine zb ?_;exact zq (k+1,_,_,v2,v3+1) [_] ⟨hc,ZnR hI hkl v4⟩ DV (by simp[zu k (by omega)]) rfl DT
  ·have hcl:=V3 d[k] (hd1 _ (A9 hkl));refine zz (some [nx+5]) (Row.pures [0,2,3,4,5,6] (.alt 1 (.alt 7 (Row.pures [8] (.alt 9 (.done) .stop)) .stop) .stop)) mixed (zo htl htk) ?_;refine zH (hcl) (zo htl htk) ?_;refine⟨by omega,?_⟩;refine zb ?_;exact zq (k+1,_,_,v2,v3+1) [_] ⟨hc,ZnQ hI hkl hkt⟩ DV (by simp[zu k (by omega)]) rfl DT
 ·simp at hc;obtain rfl:k=d.length:=DQ
  refine zx (D0 ?_);refine zg ⟨_,(S.set (nx+3) (.cells v3 42 ts)).set (nx+4) ob,by simp;rfl,⟨v3,ts,ob,hI,rfl,rfl⟩,?_⟩;intro o
  by_cases h4:o=nx+4
  ·subst h4;exact .inl (by rw[q11];simp)
  by_cases h3:o=nx+3
  ·subst h3;exact .inl (by rw[q10 _ _ _ _ h4,q11];simp)
  rw[q10 _ _ _ _ h4,q10 _ _ _ _ h3];exact zR hd o
theorem ZnS(d:zp)(hd0:d.length<=1048576)(hd1:∀l∈d,l.length<=1048576):Pure prog 337 [.agg [L d]] (.agg [L d]):=by
 refine ZeH (k:=d.length) (sz:=1) (e:=42) (cs:=d.flatMap Enc.enc) 3 (λS nx hd=>(Zcb d d.length hd0 hd1 DR S nx hd).mono ?_) DR;rintro _ _ ⟨v,ts,ob,⟨h1,h2,-⟩,rfl,rfl⟩;obtain⟨rfl,rfl⟩:=h2 (Ag _);rw[Ai];refine⟨v,rfl,?_⟩;funext o
 by_cases h4:o=nx+4
 ·subst h4;rw[q11,q10 _ _ _ _ DQ,hd _ DQ]
 ·rw[q10 _ _ _ _ h4]
theorem ZnT(d:zp)(t:Nat)(l:zL)(hd0:d.length<=1048576)(hd1:∀l∈d,l.length<=1048576)(ht:d[t]?=some l)(hl:0<l.length)(S:Store)(nx:Nat)(hd:zW nx S):
  Spec prog 337 [.agg [L d]] S (λp S'=>∃v w,p=.agg [.sl (nx+3) v 1 0 d.length] /\
   S'=(S.set (nx+3) (.cells v 42 ((d.flatMap Enc.enc).set t (.sl (nx+4) w 2 0 l.length)))).set (nx+4) (.cells w 100 (l.flatMap Enc.enc))):=by
 refine(Zcb d t hd0 hd1 (λm hm=>by rw[ht]at hm;cases hm;exact hl) S nx hd).mono ?_;rintro _ _ ⟨v,ts,ob,⟨h1,-,h3⟩,rfl,rfl⟩;obtain⟨w,m,hm,rfl,rfl⟩:=h3 (Ac.1 ht).1;rw[ht]at hm;cases hm;rw[Ai];exact⟨v,w,rfl,rfl⟩
open Go Go.Proofs
def jA(x:Inst)(t:zL):Int:=W (yE x (t.map (·.c)))
def jo(t:zL):Int:=W (zU t)
def yX(x:Inst)(d:zp):Nat:=(d.filter λt=>decide (zQ x t≠0)).length
theorem ZnU(x:Inst)(d e:zp):yX x (d++e)=yX x d+yX x e:=by simp[yX]
theorem ZnV(x:Inst)(t:zL):yX x [t]=if zQ x t=0 then 0 else 1:=by
 by_cases h:zQ x t=0<;>simp[yX,h]
theorem ZfN(x:Inst)(d:zp):yX x d<=d.length:=BE _ _
abbrev Zs(x:Inst)(d:zp):List PV:=[I x.days,I x.veh,I x.cap,I x.len,L x.cust,L x.dist,L d,L (yT (d.flatten.map (·.c))),B (decide (¬(yT (d.flatten.map (·.c))).Nodup)),L (d.map (zQ x)),I (yX x d),L (d.map jo),L (d.map (jA x))]
theorem ZfO(x:Inst)(d:zp)(hx:x.cust.length<=1048576)(hdo:DayOk d)(hf:d.flatten.length<=1048576):Pure prog 333 [.agg (zy x),.agg [L d]] (.agg (Zs x d)):=by
 have h1:=Zfb d hdo.1 hf;have h2:=Zfk d.flatten hf;have h3:=Zfj (yT (d.flatten.map (·.c))) (by rw[Qc,List.length_map];exact hf) (Wc _);generalize hon:yT (d.flatten.map (·.c))=on at *;generalize htw:decide (¬on.Nodup)=tw at *;refine zr func333 ntmps333 results333 λS nx hd=>?_
 refine D0 ?_;intro v0 v1 v2;refine za (zz (some [nx,nx+1]) (Row.pures [0,1,2,3,4,5] (.alt 6 (.alt 7 (.done) .stop) .stop)) mixed trivial ?_);refine zH (h1) trivial ?_;refine zH (h2) trivial ?_;intro v3;refine D0 ?_;refine zt h3 ?_
 repeat apply za
 refine zb ?_;refine jg 3 9 47 1 rfl rfl λv4=>?_
 refine jg 3 11 3 1 rfl rfl λv5=>?_
 refine jg 3 12 3 1 rfl rfl λv6=>?_
 refine zj (zC (λ(k,v4,v5,v6)=>k<=d.length) (λ(k,v4,v5,v6)=>[(2,.ptr nx v0 0),(4,.ptr (nx+2) v2 0),(5,.ptr (nx+3) v3 0),(20,L d),(21,I d.length),(22,I k)])
  (λ(k,v4,v5,v6)=>[.cells v0 25 (zy x),.cells v1 39 [L d],.cells v2 395 [I 0,I 0,I 0,I 0,yu,yu,yu,yu,B false,yu,I 0,yu,yu],
   .cells v3 395 [I x.days,I x.veh,I x.cap,I x.len,L x.cust,L x.dist,L d,L on,B tw,.sl (nx+4) v4 1 0 k,I (yX x (d.take k)),.sl (nx+5) v5 1 0 k,.sl (nx+6) v6 1 0 k],
   .cells v4 47 (((d.map (zQ x)).take k).flatMap Enc.enc),.cells v5 3 (((d.map jo).take k).flatMap Enc.enc),.cells v6 3 (((d.map (jA x)).take k).flatMap Enc.enc)]) (λs=>d.length-s.1) (0,v4,v5,v6) [] DR DR (by simp[yX]) ?_)
 rintro⟨k,v4,v5,v6⟩ hk;simp only at hk ⊢;refine D0 ?_;refine za (zv rfl (λhc=>?_) (λhc=>?_))
 ·simp at hc;obtain⟨t,tl,a1,a2,a3,e0⟩:=zE rfl d k hc;have hk1:1<=d.length-k:=DQ
  have htm:=Ab a1;have hm:=Wf x t hx (hdo.t t htm);have hl:=Zfa t (hdo.t t htm);have hw:=Wb x t (hdo.t t htm) (hdo.s t htm);have b1:yX x (d.take (k+1))=yX x (d.take k)+if zQ x t=0 then 0 else 1:=by rw[a3,ZnU,ZnV]
  have b2:=ZfN x (d.take k);rw[Aw]at b2;have b3:=hdo.n;have b4:=Nat.min_le_left k d.length;have f1:(((d.map (zQ x)).take (k+1)).flatMap Enc.enc:List PV)=((d.map (zQ x)).take k).flatMap Enc.enc++[I (zQ x t)]:=by rw[<-List.map_take,<-List.map_take,a3];simp
  have f2:(((d.map jo).take (k+1)).flatMap Enc.enc:List PV)=((d.map jo).take k).flatMap Enc.enc++[I (W (zU t))]:=by rw[<-List.map_take,<-List.map_take,a3];simp[jo]
  have f3:(((d.map (jA x)).take (k+1)).flatMap Enc.enc:List PV)=((d.map (jA x)).take k).flatMap Enc.enc++[I (W (yE x (t.map (·.c))))]:=by rw[<-List.map_take,<-List.map_take,a3];simp[jA]
  have l1:(((d.map (zQ x)).take k).flatMap Enc.enc:List PV).length=k:=by rw[jm,Aw,List.length_map];omega
  have l2:(((d.map jo).take k).flatMap Enc.enc:List PV).length=k:=by rw[jm,Aw,List.length_map];omega
  have l3:(((d.map (jA x)).take k).flatMap Enc.enc:List PV).length=k:=by rw[jm,Aw,List.length_map];omega
  generalize ((d.map (zQ x)).take k).flatMap Enc.enc=c1 at *;generalize ((d.map jo).take k).flatMap Enc.enc=c2 at *;generalize ((d.map (jA x)).take k).flatMap Enc.enc=c3 at *;have t1:c1.take k=c1:=Ae DQ;have t2:c2.take k=c2:=Ae DQ;have t3:c3.take k=c3:=Ae DQ;generalize yX x (d.take k)=bn at *;have wb:IntKind.i64.wrap ((bn:Int)+1)=((bn+1:Nat):Int):=zu bn DQ;generalize zQ x t=mt at *;generalize W (zU t)=lt at *;generalize W (yE x (t.map (·.c)))=wt at *;refine zh (za (zj (za (ze [] (zA hc e0 hk1) ?_))));intro v7;refine D0 ?_;refine zt hm ?_
  repeat apply za
  refine zb ?_;refine qa (nx:=nx) (λ_:Unit=>True) (λ_=>[(2,.ptr nx v0 0),(4,.ptr (nx+2) v2 0),(5,.ptr (nx+3) v3 0),(7,.ptr (nx+7) v7 0),(8,I mt),(20,L d),(21,I d.length),(22,I k)]) (λ_=>S) (λ_=>[.cells v0 25 (zy x),.cells v1 39 [L d],.cells v2 395 [I 0,I 0,I 0,I 0,yu,yu,yu,yu,B false,yu,I 0,yu,yu],
   .cells v3 395 [I x.days,I x.veh,I x.cap,I x.len,L x.cust,L x.dist,L d,L on,B tw,.sl (nx+4) v4 1 0 k,I (bn+(if mt=0 then 0 else 1):Nat),.sl (nx+5) v5 1 0 k,.sl (nx+6) v6 1 0 k],
   .cells v4 47 c1,.cells v5 3 c2,.cells v6 3 c3,.cells v7 42 [L t]]) ?_ ?_
  ·repeat apply za
   refine zv rfl (λhq=>?_) (λhq=>?_)
   ·simp at hq;rw[if_neg hq];refine ze [] wb ?_;exact zS () [] trivial DR rfl DR
   ·simp at hq;rw[if_pos hq];exact zh (zS () [] trivial DR rfl DR)
  ·rintro⟨⟩ -;refine za (ze [] (zo t1 l1) ?_);refine⟨by omega,?_⟩;refine za (zz (some [nx+7]) (Row.pures [0,2,3,4] (.alt 1 (.alt 5 (Row.pures [6] (.alt 7 (.done) .stop)) .stop) .stop)) mixed (zo t2 l2) ?_);refine zH (hl) (zo t2 l2) ?_;refine⟨by omega,?_⟩;refine zz (some [nx,nx+7]) (Row.pures [0,2,3,4,5] (.alt 1 (.alt 6 (Row.pures [7] (.alt 8 (.done) .stop)) .stop) .stop)) mixed (zo t3 l3) ?_;refine zH (hw) (zo t3 l3) ?_;refine⟨by omega,?_⟩;refine zb ?_;exact zq (k+1,v4+1,v5+1,v6+1) [_] DV DV (by simp[zu k (by omega)]) rfl (by simp only[f1,f2,f3,b1];simp;rfl)
 ·simp at hc;obtain rfl:k=d.length:=DQ
  refine zx (D0 ?_);refine zZ 6 rfl ?_;refine zZ 5 rfl ?_;refine zZ 4 rfl ?_;have g1:(d.map (zQ x)).take d.length=d.map (zQ x):=Ae DR;have g2:(d.map jo).take d.length=d.map jo:=Ae DR;have g3:(d.map (jA x)).take d.length=d.map (jA x):=Ae DR;exact zg (zi hd DT (by simp[zn,g1,g2,g3];simp[<-hon,<-htw]))
open Go Go.Proofs
def V4(P:Program)(k:FuncId)(args:Nat->List PV)(xs:List (List PV))(ret:PV):Prop :=
 qr P k/\∀(l:Nat) (V:Ctx->Store->World->Prop) (_:∀{C C':Ctx} {S S':Store} {w w':World},Step C S w C' S' w'->V C S w->V C' S' w') (m:Nat) (J:Nat->Store->Prop),(∀i A,J i A->zW m A) ->
  (∀i A obs x,xs[i]?=some x->J i A->PYield P V l x (ext A m obs) (λT=>∃A',J (i+1) A'/\T=ext A' m obs)) ->
  ∀A,J 0 A->PCallsV P V k (args l) A (λp T=>p=ret/\J xs.length T)
theorem ZfP {P : Program} {N : Nat} {f : FuncId} {fn : Func} {c : Code} {rs : List ResultVar} {args : Nat → List PV} {xs : List (List PV)} {ret : PV} (hf : P.funcs[f]? = some fn) (hname : (fn.name == "runtime.NumGoroutine") = false) (hb : fn.body = some c) (hN : fn.ntmps = N) (hrs : fn.results.toList = rs) (hargs : ∀ l, (args l).length ≤ N)
  (h:∀(l:Nat) (V:Ctx->Store->World->Prop) (keep:∀{C C':Ctx} {S S':Store} {w w':World},Step C S w C' S' w'->V C S w->V C' S' w') (nx:Nat) (J:Nat->Store->Prop),(∀i A,J i A->zW nx A) ->
   (∀i A obs x,xs[i]?=some x->J i A->PYield P V l x (ext A nx obs) (λT=>∃A',J (i+1) A'/\T=ext A' nx obs)) ->
   ∀A,J 0 A->PW P ⟨none,V,keep⟩ 0 N c (Zl P rs (λp T=>p=ret/\J xs.length T)) (uA (args l)) (ext A nx [])):V4 P f args xs ret:=by
 refine⟨qn hf hname hb,λl V keep m J hJ hY A hA=>?_⟩;have:=h l V keep m J hJ hY A hA;rw[qJ (hJ 0 A hA)]at this;exact Zbb hf hb hN hrs (hargs l) this
theorem PYield.mono{P:Program}{V:Ctx->Store->World->Prop}{l:Nat}{args:List PV}{S:Store}{Q Q':Store->Prop}(h:PYield P V l args S Q)(hq:∀T,Q T->Q' T):PYield P V l args S Q':=by
 intro C w vs h1 h2 h3 h4;obtain⟨fn,tmps,assign,body,hy,hR⟩:=h C w vs h1 h2 h3 h4;refine⟨fn,tmps,assign,body,hy,hR.mono ?_⟩;rintro e w' ⟨S',C',a,b,c⟩;exact⟨S',C',a,hq _ b,c⟩
theorem ZfQ{P:Program}{k:FuncId}{args:Nat->List PV}{xs:List (List PV)}{ret:PV}(h:V4 P k args xs ret){V:Ctx->Store->World->Prop}(keep:∀{C C':Ctx} {S S':Store} {w w':World},Step C S w C' S' w'->V C S w->V C' S' w')
  {l nx:Nat} {J:Nat->Store->Prop} {ys:List (List PV)} (hY:∀i A obs x,ys[i]?=some x->J i A->PYield P V l x (ext A nx obs) (λT=>∃A',J (i+1) A'/\T=ext A' nx obs))
  (off:Nat) (hxs:∀i x,xs[i]?=some x->ys[off+i]?=some x) {A:Store} (hJ:J off A) (obs:List Ob) :
  SpecV P V k (args l) (ext A nx obs) (λp T=>∃A',p=ret/\J (off+xs.length) A'/\T=ext A' nx obs):=by
 refine⟨h.1,(h.2 l V keep (nx+obs.length) (λi T=>∃A',J (off+i) A'/\T=ext A' nx obs) ?_ ?_ (ext A nx obs) ⟨A,hJ,rfl⟩).mono ?_⟩
 ·rintro i T ⟨A',_,rfl⟩;exact jP
 ·rintro i T more x hx ⟨A1,hJ1,rfl⟩;rw[VJ _ _ rfl];refine(hY (off+i) A1 (obs++more) x (hxs i x hx) hJ1).mono ?_;rintro T ⟨A',hA',rfl⟩;exact⟨ext A' nx obs,⟨A',hA',rfl⟩,(VJ _ _ rfl).symm⟩
 ·rintro p T ⟨rfl,A',hA',rfl⟩;exact⟨A',rfl,hA',rfl⟩
theorem V5{P:Program}{nx:Nat}{F:Nat->PV}{obs:List Ob}{rs:List ResultVar}{ps:List PV}{J:Store->Prop}{A:Store}{ret:PV}(hd:zW nx A)(h1:ww P F (ext A nx obs) rs=some ps)(h2:zn ps=ret)(hJ:J A):
  ∃ps S',ww P F (ext A nx obs) rs=some ps/\(zn ps=ret/\J S')/\∀o,S' o=ext A nx obs o\/S' o=.dead:=⟨ps,A,h1,⟨h2,hJ⟩,zR hd⟩
theorem ZfR{α:Type}{f:Nat->Option α}{n k:Nat}{v:α}(hk:k<n)(hf:f k=some v):((List.range n).filterMap f)[((List.range k).filterMap f).length]?=some v:=by
 obtain⟨m,rfl⟩:∃m,n=k+(m+1):=⟨n-k-1,by omega⟩;rw[Dc,BV,Am (Ag _),BA,CG];simp[hf]
theorem ZfS{α:Type}{f:Nat->Option α}{k:Nat}(hf:f k=none):((List.range (k+1)).filterMap f).length=((List.range k).filterMap f).length:=by
 rw[AK,BV];simp[hf]
theorem ZfT{α:Type}{f:Nat->Option α}{k:Nat}{v:α}(hf:f k=some v):((List.range (k+1)).filterMap f).length=((List.range k).filterMap f).length+1:=by
 rw[AK,BV];simp[hf]
structure Spot where
 t:Nat
 p:Nat
 m:Int
abbrev Zt(s:Spot):List PV:=[.agg [I s.t,I s.p,I s.m]]
def vI(l:zL)(i:Nat):Int:=if i=0 then 0 else (l.getD (i-1) default).c+1
def uG(l:zL)(i:Nat):Int:=if i<l.length then (l.getD i default).c+1 else 0
def uH(x:Inst)(l:zL)(s:Stop)(i:Nat):Int:=W (W (arc x (vI l i) (s.c+1)+arc x (s.c+1) (uG l i))-arc x (vI l i) (uG l i))
def uI(x:Inst)(t:Nat)(l:zL)(w:Int)(s:Stop)(i:Nat):Option Spot:=if W (w+uH x l s i)<=x.len then some ⟨t,i,uH x l s i⟩ else none
def Zb(x:Inst)(t:Nat)(l:zL)(fl bad ll w:Int)(s:Stop):List Spot :=
 if 0<bad-(if fl=13 then 1 else 0)\/x.cap<W (ll+s.q) then [] else (List.range (l.length+1)).filterMap (uI x t l w s)
abbrev uJ(x:Inst)(d:zp)(on:List Int)(tw:Bool)(fs:List Int)(bad:Int)(ls ws:List Int):List PV:=[I x.days,I x.veh,I x.cap,I x.len,L x.cust,L x.dist,L d,L on,B tw,L fs,I bad,L ls,L ws]
theorem ZnW(x:Inst)(d:zp)(on:List Int)(tw:Bool)(fs:List Int)(bad:Nat)(ls ws:List Int)(t:Nat)(l:zL)(s:Stop)(fl ll w:Int)(hbad:bad<=1048576)(hdn:d.length<=1048576)(hd:d[t]?=some l)(hfs:fs[t]?=some fl)(hls:ls[t]?=some ll)(hws:ws[t]?=some w)
  (hfn:fs.length=d.length) (hln:ls.length=d.length) (hwn:ws.length=d.length) (hb:fl=13->0<bad) (hll:l.length<=1048576) (hsl:∀s∈l,qb s.c) (hss:qb s.c) :
  V4 prog 354 (λy=>[.agg (uJ x d on tw fs bad ls ws),I t,.agg [I s.c,I s.q],jQ y]) ((Zb x t l fl bad ll w s).map Zt) (B true):=by
 refine ZfP func354 DW rfl ntmps354 (congrArg Array.toList results354) DR λy V keep nx J hJd hY A0 hA0=>?_
 have ht:t<d.length:=(Ac.1 hd).1;obtain⟨fl',tf,a1,-,-,ef⟩:=zE rfl fs t DQ;obtain⟨ll',tl,a2,-,-,elo⟩:=zE rfl ls t DQ;obtain⟨w',tw',a3,-,-,ew⟩:=zE rfl ws t DQ;obtain⟨l',td,a4,-,-,ed⟩:=zE rfl d t ht;obtain rfl:fl=fl':=by rw[hfs]at a1;exact Option.some.inj a1
 obtain rfl:ll=ll':=by rw[hls]at a2;exact Option.some.inj a2
 obtain rfl:w=w':=by rw[hws]at a3;exact Option.some.inj a3
 obtain rfl:l=l':=by rw[hd]at a4;exact Option.some.inj a4
 have h1:1<=fs.length-t:=DQ
 have h2:1<=ls.length-t:=DQ
 have h3:1<=ws.length-t:=DQ
 have h4:1<=d.length-t:=DQ
 have g1:t<fs.length:=DQ
 have g2:t<ls.length:=DQ
 have g3:t<ws.length:=DQ
 refine D0 ?_;intro v0 v1;refine D0 ?_
 repeat apply za
 refine ze [] (zA ef h1 g1) ?_;obtain⟨oth,hoth⟩:∃oth:Int,oth=bad-(if fl=13 then 1 else 0):=⟨_,rfl⟩;refine qa (nx:=nx) (λ_:Unit=>True) (λ_=>[(1,I t),(3,jQ y),(4,.ptr nx v0 0),(6,.ptr (nx+1) v1 0),(9,I oth)]) (λ_=>A0) (λ_=>[.cells v0 395 (uJ x d on tw fs bad ls ws),.cells v1 100 [I s.c,I s.q]]) ?_ ?_
 ·repeat apply za
  refine zv rfl (λhq=>?_) (λhq=>?_)
  ·simp at hq;have hb':=hb hq;rw[if_pos hq]at hoth;have wb:IntKind.i64.wrap ((bad:Int)-1)=oth:=by rw[hoth,wr _ DQ DQ]
   refine ze [] wb ?_;exact zS () [] trivial DR rfl DR
  ·simp at hq;rw[if_neg hq]at hoth;obtain rfl:oth=bad:=DQ
   exact zh (zS () [] trivial DR rfl DR)
 ·rintro⟨⟩ -;have hout:∀(h:0<oth\/x.cap<W (ll+s.q)),Zb x t l fl bad ll w s=[]:=λh=>by unfold Zb;rw[if_pos (by rw[hoth]at h;exact h)]
  by_cases ho:0<oth
  ·rw[hout (.inl ho)]at hY ⊢
   repeat apply za
   refine zz (some [nx,nx+1]) (Row.pures [0,1,2,3,4,5,6,7,8,9,10,11,12,13,14,15] .done) mixed (zo ho zB) ?_;refine zk rfl (D0 ?_);exact zg (V5 (hJd _ _ hA0) DT (by simp[zn]) hA0)
  by_cases hcap:x.cap<W (ll+s.q)
  ·rw[hout (.inr hcap)]at hY ⊢
   repeat apply za
   refine zz (some [nx,nx+1]) (Row.pures [0,1,2,3,4,5,6,7,8,9,10,11,12,13,14,15] .done) mixed (zP ho hcap elo h2 g2 zB) ?_;refine zk rfl (D0 ?_);exact zg (V5 (hJd _ _ hA0) DT (by simp[zn]) hA0)
  have hz:Zb x t l fl bad ll w s=(List.range (l.length+1)).filterMap (uI x t l w s):=by unfold Zb;rw[if_neg (by rw[<-hoth];simp[ho,hcap])]
  clear hout;rw[hz]at hY ⊢
  repeat apply za
  refine zz (some [nx,nx+1]) (Row.pures [0,1,2,3,4,5,6,7,8,9,10,11,12,13,14,15] .done) mixed (yv ho hcap elo h2 g2) ?_;refine zm rfl (zh ?_);have wc:IntKind.i64.wrap (s.c+1)=s.c+1:=wr _ (by unfold qb at hss;omega) (by unfold qb at hss;omega);refine za (zz (some [nx,nx+1]) (Row.pures [0,1,2,3,4,5,6,7,8,9,10,11] .done) mixed (zJ ed h4 ht wc) ?_);have wl:IntKind.i64.wrap ((l.length:Int)+1)=((l.length+1:Nat):Int):=zu _ DQ
  repeat apply za
  refine ze [] wl ?_;refine zj (jx (σ:=Nat × Store) (λs'=>s'.1<=l.length+1/\J ((List.range s'.1).filterMap (uI x t l w s)).length s'.2) (λs'=>[(1,I t),(3,jQ y),(4,.ptr nx v0 0),(6,.ptr (nx+1) v1 0),(10,L l),(11,I (s.c+1)),(54,I ((l.length+1:Nat):Int)),(55,I s'.1)]) (λs'=>s'.2)
   (λ_=>[.cells v0 395 (uJ x d on tw fs bad ls ws),.cells v1 100 [I s.c,I s.q]]) (λs'=>l.length+1-s'.1) (zS (0,A0) [] (by simpa using hA0) DR rfl DR) ?_)
  rintro⟨k,A⟩ ⟨hk,hJ⟩;simp only at hk hJ ⊢;refine D0 ?_;refine za (zv rfl (λhc=>?_) (λhc=>?_))
  ·simp at hc;refine zh (za (zj (D0 ?_)));refine D0 ?_
   repeat apply za
   refine zb ?_;refine qa (nx:=nx) (λ_:Unit=>True) (λ_=>[(1,I t),(3,jQ y),(4,.ptr nx v0 0),(6,.ptr (nx+1) v1 0),(10,L l),(11,I (s.c+1)),(12,I k),(13,I (vI l k)),(14,I 0),(54,I ((l.length+1:Nat):Int)),(55,I k)]) (λ_=>A) (λ_=>[.cells v0 395 (uJ x d on tw fs bad ls ws),.cells v1 100 [I s.c,I s.q]]) ?_ ?_
   ·repeat apply za
    refine zv rfl (λhk0=>?_) (λhk0=>?_)
    ·simp at hk0;obtain⟨j,rfl⟩:∃j,k=j+1:=⟨k-1,by omega⟩;obtain⟨p,tp,p1,-,-,-,ep⟩:=el 2 rfl l j DQ;have wj:IntKind.i64.wrap (j:Int)=(j:Int):=wr _ DQ DQ;have hjl:j<l.length:=DQ
     have hj2:2<=l.length*2-j*2:=DQ
     have hsm:=hsl p (Ab p1);have wp:IntKind.i64.wrap (p.c+1)=p.c+1:=wr _ (by unfold qb at hsm;omega) (by unfold qb at hsm;omega);have hah:vI l (j+1)=p.c+1:=by unfold vI;rw[if_neg DQ,B0,Aa,p1];rfl
     refine ze [] (yv wj ep wp hjl hj2) ?_;exact zS () [] trivial (by simp[hah]) rfl DR
    ·simp at hk0;subst hk0;exact zh (zS () [] trivial (by simp[vI]) rfl DR)
   ·rintro⟨⟩ -
    repeat apply za
    refine zb ?_;refine qa (nx:=nx) (λ_:Unit=>True) (λ_=>[(1,I t),(3,jQ y),(4,.ptr nx v0 0),(6,.ptr (nx+1) v1 0),(10,L l),(11,I (s.c+1)),(12,I k),(13,I (vI l k)),(14,I (uG l k)),(54,I ((l.length+1:Nat):Int)),(55,I k)]) (λ_=>A) (λ_=>[.cells v0 395 (uJ x d on tw fs bad ls ws),.cells v1 100 [I s.c,I s.q]]) ?_ ?_
    ·repeat apply za
     refine zv rfl (λhk0=>?_) (λhk0=>?_)
     ·simp at hk0;obtain⟨p,tp,p1,-,-,-,ep⟩:=el 2 rfl l k hk0;have hj2:2<=l.length*2-k*2:=DQ
      have hsm:=hsl p (Ab p1);have wp:IntKind.i64.wrap (p.c+1)=p.c+1:=wr _ (by unfold qb at hsm;omega) (by unfold qb at hsm;omega);have hah:uG l k=p.c+1:=by unfold uG;rw[if_pos hk0,Aa,p1];rfl
      refine ze [] (zJ ep wp hk0 hj2) ?_;exact zS () [] trivial (by simp[hah]) rfl DR
     ·simp at hk0;exact zh (zS () [] trivial (by simp[uG];omega) rfl DR)
    ·rintro⟨⟩ -;have q1:=wT x (vI l k) (s.c+1);have q2:=wT x (s.c+1) (uG l k);have q3:=wT x (vI l k) (uG l k);have hmo:W (W (arc x (vI l k) (s.c+1)+arc x (s.c+1) (uG l k))-arc x (vI l k) (uG l k))=uH x l s k:=rfl;refine za (zz (some [nx,nx+1]) (Row.pures [0,1,2,3,4,5,6,7,8,9,10,11,12,13,14,15,16,17] .done) mixed trivial ?_);refine zH (q1) trivial ?_;refine zH (q2) trivial ?_;refine zH (q3) hmo ?_
     by_cases hf:W (w+uH x l s k)<=x.len
     ·have hsp:uI x t l w s k=some ⟨t,k,uH x l s k⟩:=by unfold uI;rw[if_pos hf]
      have hat:=ZfR (n:=l.length+1) DQ hsp;have hnx:=ZfT hsp;have hy:(((List.range (l.length+1)).filterMap (uI x t l w s)).map Zt)[((List.range k).filterMap (uI x t l w s)).length]?=some (Zt ⟨t,k,uH x l s k⟩):=by rw[Aj,hat];rfl
      refine za (zz (some [nx,nx+1]) (Row.pures [0,1,2,3,4,5,6,7,8,9,10,11,12,13,14,15,16] (.alt 17 (Row.pures [18,19] .done) .stop)) mixed (yv hmo ew h3 g3 hf) ?_);refine⟨by rfl,(JW rfl rfl rfl (hY _ _ _ _ hy hJ) ?_)⟩;rintro _ ⟨A',hJ',rfl⟩;refine⟨by simp[yK],jy trivial ?_⟩;refine zm rfl (zh (zb ?_));exact zq (k+1,A') [] ⟨by show k+1<=_;omega,by rw[hnx];exact hJ'⟩ DV (by simp[zu k (by omega)]) rfl DR
     ·have hsp:uI x t l w s k=none:=by unfold uI;rw[if_neg hf]
      have hnx:=ZfS hsp;refine za (zz (some [nx,nx+1]) (Row.pures [0,1,2,3,4,5,6,7,8,9,10,11,12,13,14,15,16,17,18,19] .done) mixed (zP hmo ew h3 g3 hf zB) ?_);refine zm rfl (zh (zb ?_));exact zq (k+1,A) [] ⟨by show k+1<=_;omega,by rw[hnx];exact hJ⟩ DV (by simp[zu k (by omega)]) rfl DR
  ·simp at hc;obtain rfl:k=l.length+1:=DQ
   refine zx (D0 ?_);exact zg (V5 (hJd _ _ hJ) DT (by simp[zn]) (by simpa using hJ))
open Go
theorem Zcc(x:Inst):(yI x).cust.length<=6:=by simp[yI];omega
theorem V6:∀(d:zp),(∀t∈d,t≠[])->d.length<=d.flatten.length
 | [],_=>by simp
 | t :: d,h=>by
  have:=V6 d λt ht=>h t (by simp[ht])
  have h1:t.length≠0:=by simpa using h t DR
  rw[Bx,List.length_append,Ad];omega
theorem Yz{d:zp}{t:zL}(h:t∈d):t.Sublist d.flatten:=by
 obtain⟨a,b,rfl⟩:=List.append_of_mem h;rw[List.flatten_append,Bx];exact(List.sublist_append_left t b.flatten).trans (List.sublist_append_right a.flatten _)
theorem ZnX{a b:List Int}(h:a.Perm b):a.sum=b.sum:=by
 induction h with
 | nil=>rfl
 | cons x _ ih=>simp[ih]
 | swap x y l=>simp;omega
 | trans _ _ ih1 ih2=>exact ih1.trans ih2
theorem wC(x:Inst)(d:zp):yg x d=0<->(∀t∈d,zQ x t=0)/\(d.flatten.map (·.c)).Nodup/\(d.length:Int)<=x.veh:=by
 unfold yg;cases hf:d.find? (λt=>zQ x t != 0) with
 | some t =>
  have h1:=List.find?_some hf;have h2:=List.mem_of_find?_eq_some hf;simp only;constructor
  ·intro e;simp[e]at h1
  ·rintro⟨h,_⟩;exact h t h2
 | none =>
  rw[List.find?_eq_none]at hf;simp only;constructor
  ·intro e;refine⟨λt ht=>by simpa using hf t ht,?_⟩;split at e
   ·cases e
   ·split at e
    ·cases e
    ·rename_i h1 h2;exact⟨by simpa using h1,by omega⟩
  ·rintro⟨_,h1,h2⟩;rw[if_neg (by simpa using h1),if_neg DQ]
theorem Jb(x:Inst)(t:zL):zQ x t=0<->qP x t=true/\(t.map (·.c)).Nodup/\W (zU t)<=x.cap/\W (yE x (t.map (·.c)))<=x.len:=by
 unfold zQ;constructor
 ·intro e;split at e
  ·cases e
  ·split at e
   ·cases e
   ·split at e
    ·cases e
    ·split at e
     ·cases e
     ·rename_i h1 h2 h3 h4;exact⟨by simpa using h1,by simpa using h2,by omega,by omega⟩
 ·rintro⟨h1,h2,h3,h4⟩;rw[if_neg (by simp[h1]),if_neg (by simpa using h2),if_neg DQ,if_neg DQ]
theorem Zcd{t:zL}(h:∀s∈t,0<=s.q/\s.q<=2147483648):0<=zU t/\zU t<=2147483648*t.length:=by
 induction t with
 | nil=>simp[zU]
 | cons s t ih =>
  have:=ih λa ha=>h a (by simp[ha])
  have:=h s DR;simp only[zU,AA,Cg,Ad]at *;omega
theorem ZnY(a b:zL):zU (a++b)=zU a+zU b:=by simp[zU]
open Go Go.Proofs
def qp(x:Inst)(d:zp)(s:Stop):List Spot :=
 if zQ x [s]=1\/s.c∈d.flatten.map (·.c)\/¬(d.flatten.map (·.c)).Nodup\/x.veh<d.length then []
 else ((List.range d.length).flatMap λt=>Zb x t (d.getD t []) (zQ x (d.getD t [])) (yX x d) (jo (d.getD t [])) (jA x (d.getD t [])) s) ++
  (if yX x d=0/\zQ x [s]=0/\(d.length:Int)<x.veh then [⟨d.length,0,W (yE x [s.c])⟩] else [])
def YA(st:Spot × Bool)(b:Spot):Spot × Bool:=if st.2=false\/b.m<st.1.m then (b,true) else st
def Zu(l:List Spot):Spot × Bool:=l.foldl YA (⟨0,0,0⟩,false)
def j6(l:zL)(i:Nat)(s:Stop):zL:=l.take i++s :: l.drop i
def jI(d:zp)(b:Spot)(s:Stop):zp:=if b.t=d.length then d++[[s]] else d.set b.t (j6 (d.getD b.t []) b.p s)
def yN(x:Inst)(d:zp)(s:Stop):zp × Bool:=bif (Zu (qp x d s)).2 then (jI d (Zu (qp x d s)).1 s,true) else (d,false)
theorem ZfU:∀(l:List Spot) (st:Spot × Bool),(l.foldl YA st).2=true->(l.foldl YA st)=st\/(l.foldl YA st).1∈l
 | [],st,_=>.inl rfl
 | b :: l,st,h=>by
  rw[A3]at h ⊢;rcases ZfU l _ h with e | e
  ·by_cases hq:st.2=false\/b.m<st.1.m
   ·right;rw[e];unfold YA;rw[if_pos hq];simp
   ·left;rw[e];unfold YA;rw[if_neg hq]
  simp_all
theorem V7{l:List Spot}(h:(Zu l).2=true):(Zu l).1∈l:=by grind[ZfU,Zu]
theorem ZnZ{x:Inst}{t:Nat}{l:zL}{fl bad ll w:Int}{s:Stop}{b:Spot}(h:b∈Zb x t l fl bad ll w s):¬(0<bad-(if fl=13 then 1 else 0))/\W (ll+s.q)<=x.cap/\b∈(List.range (l.length+1)).filterMap (uI x t l w s):=by simp_all[Zb]
theorem Wn{x:Inst}{d:zp}{s:Stop}{b:Spot}(h:b∈qp x d s):
  zQ x [s]≠1/\s.c ∉ d.flatten.map (·.c)/\(d.flatten.map (·.c)).Nodup/\(d.length:Int)<=x.veh /\
  ((∃l,d[b.t]?=some l/\b.p<=l.length/\¬(0<(yX x d:Int)-(if zQ x l=13 then 1 else 0))/\W (jo l+s.q)<=x.cap/\b.m=uH x l s b.p/\W (jA x l+b.m)<=x.len) \/
   (b=⟨d.length,0,W (yE x [s.c])⟩/\yX x d=0/\zQ x [s]=0/\(d.length:Int)<x.veh)):=by
 unfold qp at h;split at h
 ·cases h
 ·rename_i hq;have q1:zQ x [s]≠1:=λe=>hq (.inl e)
  have q2:s.c ∉ d.flatten.map (·.c):=λe=>hq (.inr (.inl e))
  have q3:(d.flatten.map (·.c)).Nodup:=Classical.byContradiction λe=>hq (.inr (.inr (.inl e)))
  have q4:(d.length:Int)<=x.veh:=by
   rcases Int.lt_or_le x.veh d.length with e | e
   ·exact absurd (.inr (.inr (.inr e))) hq
   ·exact e
  refine⟨q1,q2,q3,q4,?_⟩;rw[Ay]at h;rcases h with h | h
  ·left;obtain⟨t,ht,hb⟩:=B3.1 h;rw[AL]at ht;have hd:d[t]?=some (d.getD t []):=by rw[Aa,Af ht];rfl
   obtain⟨w1,w2,hb⟩:=ZnZ hb;obtain⟨i,hi,he⟩:=Cd.1 hb;rw[AL]at hi;unfold uI at he
   by_cases hlen:W (jA x (d.getD t [])+uH x (d.getD t []) s i)<=x.len
   ·rw[if_pos hlen]at he;cases he;exact⟨_,hd,by simp only;omega,w1,w2,rfl,hlen⟩
   ·rw[if_neg hlen]at he;cases he
  simp_all
def qc(a:Int):List Int->Int
 | []=>a
 | c :: l=>qc (c+1) l
def V8:List Int->Int
 | []=>0
 | c :: _=>c+1
theorem ZfV(x:Inst)(c:Int)(r:List Int):∀(p:List Int) (a:Int),jH x a (p++c :: r)=jH x a (p++r)+(arc x (qc a p) (c+1)+arc x (c+1) (V8 r)-arc x (qc a p) (V8 r))
 | [],a=>by cases r<;>grind[jH,qc,V8]
 | e :: p,a=>by
  simp only[List.cons_append,jH,qc];rw[ZfV x c r p (e+1)];omega
theorem ZfW:∀(p:List Int) (a:Int),qc a p=if p.length=0 then a else (p.getD (p.length-1) 0)+1
 | [],a=>by simp[qc]
 | [c],a=>by simp[qc]
 | c :: e :: p,a=>by
  simp only[qc];rw[show qc (e+1) p=qc (c+1) (e :: p) from rfl,ZfW (e :: p) (c+1)];simp
theorem Zn0(l:zL)(i:Nat)(h:i<l.length):(l.map (·.c)).getD i 0=(l.getD i default).c:=DZ
theorem Zn1(x:Inst)(l:zL)(s:Stop)(i:Nat)(h0:l≠[])(hi:i<=l.length):
  yE x ((j6 l i s).map (·.c))=yE x (l.map (·.c))+(arc x (vI l i) (s.c+1)+arc x (s.c+1) (uG l i)-arc x (vI l i) (uG l i)):=by
 unfold yE j6;rw[if_neg DR,if_neg (by simpa using h0)];rw[List.map_append,AA,ZfV,<-List.map_append,List.take_append_drop];have e1:qc 0 ((l.take i).map (·.c))=vI l i:=by
  rw[ZfW];unfold vI;rw[List.length_map,Aw]
  by_cases hz:i=0
  ·rw[if_pos DQ,if_pos hz]
  ·rw[if_neg DQ,if_neg hz,Zn0 _ _ (by rw[Aw];omega)];rw[Aa,Aa,AM DQ,show min i l.length-1=i-1 from by omega]
 grind[V8,uG,List.drop_eq_getElem_cons]
theorem ZfX(x:Inst)(l:zL)(s:Stop)(i:Nat)(h0:l≠[])(hi:i<=l.length):jA x (j6 l i s)=W (jA x l+uH x l s i):=by
 unfold jA uH
 grind[Zn1,IntKind.wrap_i64]
theorem ZfY(l:zL)(s:Stop)(i:Nat):jo (j6 l i s)=W (jo l+s.q):=by grind[jo,uZ,zU,j6,List.take_append_drop]
theorem Wo(l:zL)(s:Stop)(i:Nat):(j6 l i s).Perm (s :: l):=by grind[j6,List.take_append_drop]
theorem Zce{α:Type}:∀(d:List (List α)) (t:Nat) (l m:List α) (s:α),d[t]?=some l->m.Perm (s :: l)->(d.set t m).flatten.Perm (s :: d.flatten)
 | [],t,l,m,s,h,_=>by simp at h
 | a :: d,0,l,m,s,h,hm=>by
  simp at h;subst h;simp only[A5,Bx];exact(hm.append_right _)
 | a :: d,t+1,l,m,s,h,hm=>by
  simp only[Bf]at h;simp only[AU,Bx];exact((Zce d t l m s h hm).append_left a).trans List.perm_middle
theorem Zcf{x:Inst}{d:zp}{s:Stop}{b:Spot}(h:b∈qp x d s):(jI d b s).flatten.Perm (s :: d.flatten):=by
 obtain⟨-,-,-,-,h⟩:=Wn h;unfold jI
 grind[Zce,Wo]
theorem Zcg{x:Inst}{d:zp}{s:Stop}(h:(yN x d s).2=true):(yN x d s).1.flatten.Perm (s :: d.flatten):=by grind[yN,Zcf,V7]
theorem ZfZ{x:Inst}{d:zp}{s:Stop}(h:(yN x d s).2=false):(yN x d s).1=d:=by grind[yN]
theorem Zn2{x:Inst}{a b:zL}(h:a.Perm b):qP x a=qP x b:=by
 unfold qP;have h1:a.all (qZ x)=b.all (qZ x):=by
  rw[DB,Ax,Ax];exact⟨λq s hs=>q s (h.symm.subset hs),λq s hs=>q s (h.subset hs)⟩
 have h2:a.isEmpty=b.isEmpty:=by
  cases a with
  | nil=>simp_all
  | cons a l =>
   grind
 rw[h1,h2]
theorem Wp{x:Inst}{t:zL}(h:qP x t=true):t≠[]:=by simp_all[qP]
theorem Zch{x:Inst}{t:zL}(h:qP x t=false):zQ x t=1:=by simp_all[zQ]
theorem Zf0{x:Inst}{s:Stop}(h:zQ x [s]≠1):qZ x s=true:=by grind[qP,Zch]
theorem Qi{x:Inst}{d:zp}:yX x d=0<->∀t∈d,zQ x t=0:=by simp[yX]
theorem Zci{x:Inst}{d:zp}{s:Stop}{b:Spot}(h:b∈qp x d s):yg x (jI d b s)=0:=by
 have hp:=Zcf h;obtain⟨q1,q2,q3,q4,h⟩:=Wn h;rw[wC];have hg:=Zf0 q1;have hn:((jI d b s).flatten.map (·.c)).Nodup:=by
  rw[(hp.map _).nodup_iff,AA,Cr];exact⟨q2,q3⟩
 refine⟨?_,hn,?_⟩
 ·rcases h with ⟨l,hl,hi,ho,hcap,hm,hlen⟩ | ⟨rfl,hb,hs,hv⟩
  ·obtain⟨hlt,hle⟩:=Ac.1 hl;have hpd:jI d b s=d.set b.t (j6 l b.p s):=by unfold jI;rw[if_neg DQ,Aa,hl];rfl
   -- the other tours
   have hoth:∀j m,j≠b.t->d[j]?=some m->zQ x m=0:=by
    intro j m hj hm';refine Classical.byContradiction λhbad=>?_
    have h13:0<yX x d:=by
     rcases BX (yX x d) with e | e
     ·exact absurd (Qi.1 e m (Ab hm')) hbad
     ·exact e
    by_cases hf:zQ x l=13
    ·rw[if_pos hf]at ho;have h2:2<=yX x d:=by
      unfold yX;obtain⟨hjl,hje⟩:=Ac.1 hm';have key:∀(i j:Nat),i<j->∀(a c:zL),d[i]?=some a->d[j]?=some c->zQ x a≠0->zQ x c≠0->2<=(d.filter λt=>decide (zQ x t≠0)).length:=by
       intro i j hij a c ha hc na nc;obtain⟨hil,rfl⟩:=Ac.1 ha;obtain⟨hjl,rfl⟩:=Ac.1 hc;have e:d=d.take (i+1)++d.drop (i+1):=(List.take_append_drop _ _).symm;rw[e,B1,List.length_append];have m1:d[i]∈(d.take (i+1)).filter λt=>decide (zQ x t≠0):=Bj.2 ⟨Ab (i:=i) (by rw[AM (by omega)];exact ha),by simp[na]⟩
       have m2:d[j]∈(d.drop (i+1)).filter λt=>decide (zQ x t≠0):=Bj.2 ⟨Ab (i:=j-(i+1)) (by rw[AP,show i+1+(j-(i+1))=j from by omega];exact hc),by simp[nc]⟩
       have:=Dx m1;have:=Dx m2;omega
      have nl:zQ x l≠0:=by rw[hf];decide
      rcases Bb j b.t with h3 | h3
      ·exact key j b.t h3 m l hm' hl hbad nl
      ·exact key b.t j DQ l m hl hm' nl hbad
     omega
    ·rw[if_neg hf]at ho;omega
   -- the tour itself
   have hself:zQ x l=0\/zQ x l=13:=by
    by_cases hf:zQ x l=13
    ·exact .inr hf
    ·rw[if_neg hf]at ho;exact .inl (Qi.1 DQ l (Ab hl))
   have hst:qP x l=true:=by
    cases e:qP x l with
    | true=>rfl
    | false=>rw[Zch e]at hself;rcases hself with h | h<;>cases h
   have hne:=Wp hst;intro t ht;rw[hpd]at ht;obtain⟨j,hj⟩:=Bg.1 ht;rw[Bv]at hj
   by_cases hjb:b.t=j
   ·rw[if_pos hjb,if_pos hlt]at hj;cases hj;rw[Jb];refine⟨?_,?_,?_,?_⟩
    ·rw[Zn2 (Wo l s b.p)];unfold qP at hst ⊢;simp only[List.all_cons,List.isEmpty_cons,Av]at hst ⊢;exact⟨⟨hg,hst.1⟩,rfl⟩
    ·have hsub:(j6 l b.p s).Sublist (jI d b s).flatten:=by rw[hpd];exact Yz ht
     exact hn.sublist (hsub.map _)
    ·have:=ZfY l s b.p;unfold jo at this;rw[this];exact hcap
    ·have:=ZfX x l s b.p hne hi;unfold jA at this;rw[this,<-hm];exact hlen
   ·rw[if_neg hjb]at hj;exact hoth j t (λe=>hjb e.symm) hj
  grind[jI,Qi]
 ·rcases h with ⟨l,hl,-⟩ | ⟨rfl,-,-,hv⟩
  ·have hlt:=(Ac.1 hl).1;unfold jI;rw[if_neg DQ,BH];exact q4
  grind[jI]
def xP(c:Int)(t:zL):zL:=t.filter λs=>decide (s.c≠c)
def j7(c:Int)(d:zp):zp:=(d.map (xP c)).filter λt=>!t.isEmpty
def Zf1(c:Int)(d:zp):Int:=W ((d.flatten.filter λs=>decide (s.c=c)).map (·.q)).sum
theorem Zn3(c:Int)(a b:zp):j7 c (a++b)=j7 c a++j7 c b:=by simp[j7]
open Go Hp
theorem JI.begin:∀(l pre:List Stop) (T:zp) (g:Int->Option Int),JI pre T g->((pre++l).map (·.c)).Nodup->∃g',JI (pre++l) (T++l.map λs=>[s]) g'
 | [],pre,T,g,h,_=>⟨g,by simpa using h⟩
 | s :: l,pre,T,g,h,hn=>by
  have hs:s.c ∉ pre.map (·.c):=by
   rw[List.map_append,Dj]at hn;exact λhm=>hn.2.2 _ hm s.c DR rfl
  obtain⟨g',h'⟩:=JI.begin l (pre++[s]) (T++[[s]]) _ (h.snoc s hs) (by simpa using hn);exact⟨g',by simpa using h'⟩
theorem Zcj{α:Type}(f:α->Int):∀(T:List α) (i:Nat) (a b:α),T[i]?=some a->((T.set i b).map f).sum=(T.map f).sum-f a+f b
 | [],i,a,b,h=>by simp at h
 | t :: T,0,a,b,h=>by simp at h;subst h;simp;omega
 | t :: T,i+1,a,b,h=>by
  simp only[Bf]at h;simp only[AU,AA,Cg];rw[Zcj f T i a b h];omega
end Go.Proofs.YtcocagkbfpgmiaaGreatDoor.Pv
