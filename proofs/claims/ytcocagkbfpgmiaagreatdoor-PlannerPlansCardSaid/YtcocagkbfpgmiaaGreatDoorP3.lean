/- Part of a proof, packed. -/
import Derived.Test.YtcocagkbfpgmiaaGreatDoorP2
open Go.Proofs.Tryz
set_option maxRecDepth 100000
set_option maxHeartbeats 3200000
namespace Go.Proofs.YtcocagkbfpgmiaaGreatDoor.Pv
open Go
def yq(l:List Stop):List Value:=l.flatMap λs=>[.int .i64 s.c,.int .i64 s.q]
theorem Zff(l:List Stop):l.flatMap Enc.enc=(yq l).map PV.sc:=by
 unfold yq
 induction l<;>simp_all
theorem J6(l:List Stop):(yq l).length=l.length*2:=by
 unfold yq
 induction l<;>grind
theorem ZbU(l m:List Stop):yq (l++m)=yq l++yq m:=by simp[yq]
theorem Zfg(l:List Stop)(i:Nat)(h:i<=l.length):(yq l).take (i*2)=yq (l.take i):=by grind[List.take_append_drop,yq,J6]
theorem Zfh(l:List Stop)(i:Nat)(h:i<=l.length):(yq l).drop (i*2)=yq (l.drop i):=by
 conv=>lhs;rw[<-List.take_append_drop i l,ZbU]
 grind[J6]
theorem J7(l:List Stop):∀v∈yq l,v.oneCell'=true:=by
 intro v hv;obtain⟨s,_,hs⟩:=B6.1 hv;simp at hs;rcases hs with rfl | rfl<;>rfl
theorem Zms{V vs cur:List Value}{i n:Nat}(hi:i<n)(hV:V.length=n*2)(hv:vs.length=2)(hc:cur.take (n*2)=V)(hl:n*2+2<=cur.length):
  ((cur.take ((i+1)*2)++V.drop (i*2)++cur.drop ((i+1)*2+(V.drop (i*2)).length)).take (i*2)++vs++(cur.take ((i+1)*2)++V.drop (i*2)++cur.drop ((i+1)*2+(V.drop (i*2)).length)).drop (i*2+2)) =
   V.take (i*2)++vs++V.drop (i*2)++cur.drop ((i+1)*2+(V.drop (i*2)).length):=by
 have h1:(cur.take ((i+1)*2)).length=i*2+2:=D2
 have h2:(cur.take ((i+1)*2)++V.drop (i*2)++cur.drop ((i+1)*2+(V.drop (i*2)).length)).take (i*2)=V.take (i*2):=by
  rw[List.append_assoc,Bz DY,Dl,Bk DY,<-hc,Dl,Bk DY]
 simp_all
theorem Zmt{V vs ROW:List Value}{i n:Nat}(hi:i<n)(hV:V.length=n*2)(hv:vs.length=2)(hc:ROW.take (i*2)=V.take (i*2)):
  ((ROW.take (i*2)++vs++ROW.drop (i*2+2)).take ((i+1)*2)++V.drop (i*2)++(ROW.take (i*2)++vs++ROW.drop (i*2+2)).drop ((i+1)*2+(V.drop (i*2)).length)) =
   V.take (i*2)++vs++V.drop (i*2)++(ROW.take (i*2)++vs++ROW.drop (i*2+2)).drop ((i+1)*2+(V.drop (i*2)).length):=by
 have h1:(ROW.take (i*2)++vs).length=(i+1)*2:=by rw[hc];simp;omega
 grind
theorem Zfi{vs:Array Value}(h:3=vs.size):∃u v x,vs=#[u,v,x]:=by
 match vs,h with
 | ⟨[u,v,x]⟩,_=>simp
theorem ZbV{C:Ctx}{S:Store}{w:World}{R:Array Value}{V rest:List Value}(h:R.toList=V++rest)(h1:∀v∈V,v.oneCell'=true):
  (∀(i:Nat) (v:Value),i<(V.map PV.sc).length->R[i]?=some v->v.oneCell'=true)/\∀(i:Nat) (p:PV) (v:Value),(V.map PV.sc)[i]?=some p->R[i]?=some v->Rel C S w p v:=by
 have hat:∀(i:Nat) (v:Value),i<V.length->R[i]?=some v->V[i]?=some v:=by
  intro i v hi hv;rw[<-Array.getElem?_toList,h,Aq hi]at hv;exact hv
 refine⟨λi v hi hv=>h1 v (Ab (hat i v (by simpa using hi) hv)),λi p v hp hv=>?_⟩;rw[Aj]at hp;obtain⟨u,hu,rfl⟩:=Ao.1 hp;have:=hat i v (Ac.1 hu).1 hv;rw[hu]at this;cases this;exact .sc _
theorem Zmu{S:Store}{id ver:Nat}(cs:List Stop)(i:Nat)(s:Stop)(hi:i<cs.length)(hn:cs.length<=1000000)(hid:S id=.cells ver 100 (cs.flatMap Enc.enc)):
  Spec prog 338 [.sl id ver 2 0 cs.length,I i,L [s]] S (λp S'=>p=.sl id (ver+1) 2 0 (cs.length+1)/\S'=S.set id (.cells (ver+1) 100 ((cs.take i++s :: cs.drop i).flatMap Enc.enc))):=by
 refine⟨qm func338 D3 rfl,?_⟩;intro C w vs hS hl hr;obtain⟨u,v,x,rfl⟩:=Zfi hl;obtain rfl:=Jb (hr 1 _ v rfl rfl);have hu:=hr 0 _ u rfl rfl;have hx:Rel C S w (.lst 1 [I s.c,I s.q]) x:=hr 2 _ x rfl rfl;have hvl:(yq cs).length=cs.length*2:=J6 cs;rw[Zff]at hid ⊢;obtain⟨i0,hi0⟩:=B4.1 ZbM;have hz:=Ze0;have hc:=ZbL;have hb:=ZeZ;simp only[Program.zeroOf,Program.cellsOf,Program.bytesOf',hi0,CC,A3,Option.getD_some,Option.some.injEq]at hz hc hb;cases hu with
 | sl h1 h2 h3 =>
  obtain⟨ad,cap,rfl,q1,q2,q3,q4⟩:=h1;have hloc:=(h3 ver (by rw[hid];rfl)).2 rfl;rcases hS.cells id ver _ _ hid with ⟨hno,hnil⟩ | ⟨b,k,c,g1,g2,g3,g4,g5,g6⟩
  ·have:=congrArg List.length hnil;simp[hvl]at this;exfalso;omega
  rcases hloc with ⟨z1,_⟩ | ⟨b',k',ad',cap',z1,z2,z3,z4⟩
  ·rw[g1]at z1;cases z1
  rw[g1]at z1;cases z1;cases z2;obtain⟨rfl,hcap⟩:=z3 rfl;rw[List.length_map,hvl]at g4
  -- what stands in the block
  have hcells:∀(j:Nat) v,(yq cs)[j]?=some v->c[j]?=some v:=by
   intro j v hj;have hjl:=(Ac.1 hj).1;have e2:c[j]?=some c[j]:=A5 DY;have:=g6 j (.sc v) _ (by rw[Aj,hj];rfl) e2;rw[e2];generalize c[j]=y at this;cases this;rfl
  have hcur:c.toList.take (cs.length*2)=yq cs:=by
   apply AY;intro j
   by_cases hj:j<cs.length*2
   ·rw[AM hj,Array.getElem?_toList];have e:(yq cs)[j]?=some (yq cs)[j]:=Ae DY;rw[e,hcells j _ e]
   ·rw[Ak D2,Ak DY]
  have hccell:∀(j:Nat) v,(yq cs)[j]?=some v->w.cell? ⟨b,j,none⟩=some v:=λj v hj=>by
   simp only[World.cell?,g2];exact hcells j v hj
  have hnew:yq (cs.take i++s :: cs.drop i)=(yq cs).take (i*2)++[.int .i64 s.c,.int .i64 s.q]++(yq cs).drop (i*2):=by
   rw[Zfg cs i DY,Zfh cs i DY,ZbU];simp[yq]
  have hnl:(yq (cs.take i++s :: cs.drop i)).length=(cs.length+1)*2:=by rw[J6];simp;omega
  cases hx with
  | lst1 y1 y2 y3 y4 y5 y6 y7 =>
   rename_i vc vb vo cv ev fz;have y5':=y5 DZ;simp only[Ad,Ah]at y5';have hvcell:∀(j:Nat) v,([.int .i64 s.c,.int .i64 s.q]:List Value)[j]?=some v->w.cell? ⟨vb,vo+j,none⟩=some v:=by
    intro j v hj;have hjl:=(Ac.1 hj).1;simp at hjl;simp only[World.cell?,y3];have e2:cv[vo+j]?=some (cv[vo+j]' DY):=A5 DY;have:=y7 j (.sc v) _ (by
     match j,hj with
     | 0,hj=>cases hj;rfl
     | 1,hj=>cases hj;rfl) e2
    rw[if_neg DZ,e2];generalize cv[vo+j]' DY=y at this;cases this;rfl
   have hvb:vb≠b:=by
    rintro rfl;exact y4 ⟨id,k,by rw[hid];simp,g1⟩
   have newsl:∀(w':World) (b' cap':Nat),cs.length+1<=cap'->cap'<=maxLen ->
     Rel (C.at id (ver+1) (some (b',cap'*2))) (S.set id (.cells (ver+1) 100 ((yq (cs.take i++s :: cs.drop i)).map .sc))) w' (.sl id (ver+1) 2 0 (cs.length+1)) (.slice (some ⟨b',0,none⟩) (cs.length+1) cap'):=by
    intro w' b' cap' hkm hcl;refine .sl ⟨_,_,rfl,hkm,by unfold j8;omega,hcl,λ_=>⟨_,_,rfl⟩⟩ ⟨h2.1,by simp only[Ctx.at];omega⟩ λv0 hv0=>?_
    rw[q11]at hv0;cases hv0;exact⟨Ag _,λ_=>.inr ⟨b',_,_,_,by simp[Ctx.at],rfl,λ_=>⟨rfl,rfl⟩,λ_=>rfl⟩⟩
   have hsv:∀v∈([.int .i64 s.c,.int .i64 s.q]:List Value),v.oneCell'=true:=by
    intro v hv;simp at hv;rcases hv with rfl | rfl<;>rfl
   by_cases hroom:cs.length+1<=cap
   ·obtain⟨R1,hR1⟩:∃R1:Array Value,R1=(c.toList.take ((i+1)*2)++(yq cs).drop (i*2)++c.toList.drop ((i+1)*2+((yq cs).drop (i*2)).length)).toArray:=⟨_,rfl⟩;obtain⟨R2,hR2⟩:∃R2:Array Value,R2=(R1.toList.take (i*2)++([.int .i64 s.c,.int .i64 s.q]:List Value)++R1.toList.drop (i*2+2)).toArray:=⟨_,rfl⟩;have hcsz:c.size=cap*2:=g3.trans hcap.symm;have hctl:c.toList.length=cap*2:=by simpa using hcsz
    have hR2l:R2.toList=yq (cs.take i++s :: cs.drop i)++c.toList.drop ((i+1)*2+((yq cs).drop (i*2)).length):=by
     rw[hR2,hR1,hnew];simp only[];exact Zms hi hvl rfl hcur DY
    have hR2s:R2.size=cap*2:=by
     rw[<-Array.length_toList,hR2l];simp[hnl,hvl];omega
    refine(Zks b cs.length cap i vb vo vc (yq cs) [.int .i64 s.c,.int .i64 s.q] w (by rw[hi0];simp[hc]) c g2 hcsz hi hroom (by unfold maxLen at q3;omega) DY hvl rfl hvb hccell hvcell (J7 cs) hsv ev (cv.size-1) (by unfold World.shape?;rw[y3];simp;omega) R1 R2 hR1 hR2).mono ?_;rintro e w' ⟨rfl,rfl⟩;obtain⟨r1,r2⟩:=ZbV (C:=C) (S:=S) (w:=w) hR2l (J7 _);have hb1:=setRow_heap w.drew b c R1 _ _ g2;obtain⟨t1,t2⟩:=hS.turn (l:=some (b,cap*2)) (ver':=ver+1) (cs':=(yq (cs.take i++s :: cs.drop i)).map .sc) hid DY (λh=>absurd h DY) (w':=(w.drew.setRow b R1).setRow b R2)
     (by
      rw[g1];refine⟨⟨rfl,rfl,rfl,by simp[World.setRow],λj hj hne=>?_⟩,CN _⟩;have hjb:j≠b:=λe=>hne (by rw[e];rfl)
      rw[setRow_other _ _ _ _ hjb,setRow_other _ _ _ _ hjb];rfl)
     (.inr ⟨b,cap*2,R2,rfl,.inr (by rw[g1];rfl),setRow_heap _ _ _ _ _ _ hb1,hR2s,by rw[List.length_map,hnl];omega,r1,r2⟩)
    exact⟨_,_,_,_,rfl,⟨rfl,rfl⟩,newsl _ b cap hroom q3,t1,t2⟩
   ·obtain⟨G,hG⟩:∃G,G=grownCap w (cs.length+1) cap 100:=⟨_,rfl⟩;have hGn:cs.length+1<=G:=by rw[hG];exact grownCap_ge w _ _ _
    have hGm:G<=maxLen:=by rw[hG];exact grownCap_le_maxLen w _ _ _ (by unfold maxLen;omega)
    obtain⟨ROW,hROW⟩:∃ROW:Array Value,ROW=((yq cs).take (i*2)).toArray++Builtin.zeroCells (Value.agg #[.int .i64 0,.int .i64 0]).cells (cs.length+1-i)++Builtin.zeroCells (Value.agg #[.int .i64 0,.int .i64 0]).cells (G-(cs.length+1)):=⟨_,rfl⟩;obtain⟨R1,hR1⟩:∃R1:Array Value,R1=(ROW.toList.take (i*2)++([.int .i64 s.c,.int .i64 s.q]:List Value)++ROW.toList.drop (i*2+2)).toArray:=⟨_,rfl⟩;obtain⟨R2,hR2⟩:∃R2:Array Value,R2=(R1.toList.take ((i+1)*2)++(yq cs).drop (i*2)++R1.toList.drop ((i+1)*2+((yq cs).drop (i*2)).length)).toArray:=⟨_,rfl⟩;have htl:((yq cs).take (i*2)).length=i*2:=D2
    have hROWs:ROW.size=G*2:=by
     rw[hROW];simp only[Cp,size_zeroCells,BQ,htl];simp[Value.cells];omega
    have hROWt:ROW.toList.take (i*2)=(yq cs).take (i*2):=by
     rw[hROW];simp only[Array.toList_append];rw[List.append_assoc];exact List.take_left' htl
    have hR1s:R1.size=G*2:=by rw[hR1];simp;omega
    have hR2l:R2.toList=yq (cs.take i++s :: cs.drop i)++R1.toList.drop ((i+1)*2+((yq cs).drop (i*2)).length):=by
     rw[hR2,hR1,hnew];simp only[];exact Zmt hi hvl rfl hROWt
    have hR2s:R2.size=G*2:=by
     rw[<-Array.length_toList,hR2l];simp[hnl,hvl,hR1s];omega
    refine(Zkr b cs.length cap i vb vo vc (yq cs) [.int .i64 s.c,.int .i64 s.q] w i0 _ hi0 hz DY hb rfl hi q1 DY DY hvl rfl hccell hvcell (J7 cs) hsv G hG ROW hROW R1 R2 hR1 hR2).mono ?_;rintro e w' ⟨rfl,rfl⟩;obtain⟨r1,r2⟩:=ZbV (C:=C) (S:=S) (w:=w) hR2l (J7 _);have hb0:=Yu w.drew (.cells ROW 100);have hb1:=setRow_heap (w.drew.alloc (.cells ROW 100)) w.heap.size ROW R1 _ _ hb0;obtain⟨t1,t2⟩:=hS.turn (l:=some (w.heap.size,G*2)) (ver':=ver+1) (cs':=(yq (cs.take i++s :: cs.drop i)).map .sc) hid DY (λh=>absurd h DY) (w':=((w.drew.alloc (.cells ROW 100)).setRow w.heap.size R1).drew.setRow w.heap.size R2)
     ⟨⟨rfl,rfl,rfl,by simp[World.setRow],λj hj _=>by
      rw[setRow_other _ _ _ _ DY]
      show ((w.drew.alloc (.cells ROW 100)).setRow w.heap.size R1).heap[j]?=_
      rw[setRow_other _ _ _ _ DY];exact uX w.drew _ j hj⟩,Nat.le_succ_of_le (CN _)⟩
     (.inr ⟨w.heap.size,G*2,R2,rfl,.inl (Ag _),setRow_heap _ _ _ _ _ _ hb1,hR2s,by rw[List.length_map,hnl];omega,r1,r2⟩)
    exact⟨_,_,_,_,rfl,⟨rfl,rfl⟩,newsl _ w.heap.size G hGn hGm,t1,t2⟩
open Go
def zU(t:List Stop):Int:=(t.map (·.q)).sum
theorem VZ(t:List Stop)(s:Stop):zU (t++[s])=zU t+s.q:=by simp[zU]
theorem Zmv(t:List Stop)(ht:t.length<=1048576):Pure prog 18 [.agg [L t]] (L (t.map (·.c))):=by
 refine zr func18 ntmps18 results18 λS nx hd=>?_
 refine D7 ?_;intro v0;refine D7 ?_;refine za (qx 3 3 1 rfl λv1=>?_);refine D7 ?_;refine zj (zC (λs:Nat × List Int × Nat × Nat=>s.1<=t.length/\s.2.1=(t.take s.1).map (·.c)) (λ(k,out,v,v2)=>[(1,.ptr nx v 0),(3,.sl (nx+1) v2 1 0 out.length),(4,I k)]) (λ(k,out,v,v2)=>[.cells v 42 [L t],.cells v2 3 (out.flatMap Enc.enc)]) (λs=>t.length-s.1) (0,[],v0,v1) [] DZ DZ DZ ?_);rintro⟨k,out,v1,v2⟩ ⟨hk,ho⟩;simp only at hk ho ⊢
 repeat apply za
 refine zb ?_;refine zv rfl (λhc=>?_) (λhc=>?_)
 ·simp at hc;obtain⟨s,tl,a1,a2,a3,e1,e0⟩:=el 2 rfl t k hc;refine zh (za (zj (ze [] (zo hc e0) ?_)));have hl:out.length=k:=by rw[ho];simp;omega
  refine⟨by omega,?_⟩;refine zb ?_;exact zq (k+1,out++[s.c],v1,v2+1) [] (by simp[a3,ho];omega) D2 (by simp[zu k (by omega)]) rfl DZ
 ·simp at hc;have hk':k=t.length:=DY
  subst hk';refine zx (D7 ?_);refine zX 1 rfl ?_;exact zg (zi hd rfl (by simp[ho]))
theorem Zmw(l:List Int)(c:Int)(h:l.Nodup)(hc:c ∉ l):(l++[c]).Nodup:=by
 rw[Dt];exact⟨h,by simp,λa ha b hb e=>by simp at hb;subst hb;subst e;exact hc ha⟩
theorem Zfj{l:List Int}{i k:Nat}{c:Int}(hi:l[i]?=some c)(hk:l[k]?=some c)(h:k<i):¬l.Nodup:=by
 intro hn;have:=(List.getElem?_inj (Ac.1 hi).1 hn).1 (hi.trans hk.symm);omega
theorem Zmx(l m:List Int)(hl:l.length<=1048576)(hm:m.length<=1048576):Pure prog 38 [L l,L m] (B (decide (l=m))):=by
 refine zr func38 ntmps38 results38 λS nx hd=>?_
 refine D7 ?_
 by_cases h:l.length=m.length
 ·repeat apply za
  refine ze [] h ?_;refine zk rfl (zh ?_)
  repeat apply za
  refine zb ?_;refine zj (zC (λi:Nat=>i<=l.length/\l.take i=m.take i) (λi=>[(0,L l),(1,L m),(5,I i)]) (λ_=>[]) (λi=>l.length-i) 0 [] DZ DZ DZ ?_);rintro i ⟨hi,hn⟩
  repeat apply za
  refine zb ?_;refine zv rfl (λhc=>?_) (λhc=>?_)
  ·simp at hc;have hc':i<m.length:=DY
   obtain⟨c,tl,a1,a2,a3,e0⟩:=zF rfl l i hc;obtain⟨c',tl',b1,b2,b3,e1⟩:=zF rfl m i hc';refine zh (za (zj (za (zz none (Row.pures [0,1,2,3,4,5,6,7,8] .done) mixed (zN e0 e1 hc hc') ?_))));refine zv rfl (λhq=>?_) (λhq=>?_)
   ·simp at hq;refine D7 ?_;exact zg (zi hd rfl (by simp;rintro rfl;rw[a1]at b1;cases b1;exact hq rfl))
   ·simp at hq;refine zh (zb ?_);exact zq (i+1) [] ⟨hc,by rw[a3,b3,hn,hq]⟩ DY (by simp[zu i (by omega)]) rfl DZ
  ·simp at hc;refine zx (D7 ?_);rw[Af hc,Af DY]at hn;exact zg (zi hd rfl (by simp[hn]))
 ·have h':((l.length:Int) != m.length)=true:=D2
  repeat apply za
  refine ze [] h' ?_;refine zm rfl (D7 ?_);exact zg (zi hd rfl (by simp;rintro rfl;exact h rfl))
open Go
theorem Wl(t:List Stop)(ht:t.length<=1048576)(S:Store)(nx:Nat)(hd:zS nx S):Spec prog 152 [.agg [L t]] S (λp S'=>∃v,p=.sl (nx+1) v 1 0 t.length/\S'=S.set (nx+1) (.cells v 3 ((t.map (·.c)).flatMap Enc.enc))):=by
 refine u6 hd func152 ntmps152 results152 ?_;refine D7 ?_;intro v0;refine D7 ?_;refine za (qx 3 3 1 rfl λv1=>?_);refine D7 ?_;refine zj (zC (λs:Nat × List Int × Nat × Nat=>s.1<=t.length/\s.2.1=(t.take s.1).map (·.c)) (λ(k,out,v,v2)=>[(3,.sl (nx+1) v2 1 0 out.length),(7,L t),(8,I t.length),(9,I k)]) (λ(k,out,v,v2)=>[.cells v 42 [L t],.cells v2 3 (out.flatMap Enc.enc)]) (λs=>t.length-s.1) (0,[],v0,v1) [] DZ DZ DZ ?_);rintro⟨k,out,v1,v2⟩ ⟨hk,ho⟩;simp only at hk ho ⊢;refine D7 ?_;refine za (zv rfl (λhc=>?_) (λhc=>?_))
 ·simp at hc;obtain⟨s,tl,a1,a2,a3,e1,e0⟩:=el 2 rfl t k hc;refine zh (za (zj (za (ze [] (zo hc e0) ?_))));intros;have hl:out.length=k:=by rw[ho];simp;omega
  refine zb ?_;refine⟨by omega,?_⟩;refine zb ?_;exact zq (k+1,out++[s.c],v1,v2+1) [_] (by simp[a3,ho];omega) D2 (by simp[zu k (by omega)]) rfl D0
 ·simp at hc;have hk':k=t.length:=DY
  subst hk';refine zx (D7 ?_);refine zg ⟨_,_,rfl,⟨v2,by simp[ho],rfl⟩,Q8 hd (by simp[ho])⟩
theorem Zmy(t:List Stop)(ht:t.length<=1048576):Pure prog 152 [.agg [L t]] (L (t.map (·.c))):=by
 have:=VM 1 (λS nx hd=>Wl t ht S nx hd) DZ;rw[<-List.length_map (f:=(·.c))]at this;exact this
theorem Zfk(t:List Stop)(ht:t.length<=1048576):Pure prog 262 [.agg [L t]] (I (W (zU t))):=by
 refine zr func262 ntmps262 results262 λS nx hd=>?_
 refine D7 ?_;intro v0;refine D7 ?_
 repeat apply za
 refine zb ?_;refine zj (zC (λs:Nat × Nat=>s.1<=t.length) (λ(k,v)=>[(3,I (W (zU (t.take k)))),(7,L t),(8,I t.length),(9,I k)]) (λ(k,v)=>[.cells v 42 [L t]]) (λs=>t.length-s.1) (0,v0) [] DZ (by simp[zU]) DZ ?_);rintro⟨k,v1⟩ hk;simp only at hk ⊢;refine D7 ?_;refine za (zv rfl (λhc=>?_) (λhc=>?_))
 ·simp at hc;obtain⟨s,tl,a1,a2,a3,e1,e0⟩:=el 2 rfl t k hc;refine zh (za (zj (za (ze [] (zo hc e0) ?_))));intros;refine zb ?_;refine zb ?_;exact zq (k+1,v1) [_] hc D2 (by simp[zu k (by omega),a3,VZ,vK]) rfl D0
 ·simp at hc;have hk':k=t.length:=DY
  subst hk';refine zx (D7 ?_);exact zg (zi hd rfl DZ)
theorem Wm(x:Inst)(t:List Stop)(ht:t.length<=1048576)(hs:∀s∈t,qe s.c):Pure prog 159 [.agg (zy x),.agg [L t]] (I (W (yE x (t.map (·.c))))):=by
 refine zr func159 ntmps159 results159 λS nx hd=>?_
 refine D7 ?_;intros;refine za (zz none (Row.pures [0,1,2,3,4] .done) mixed trivial ?_);refine zG (Zmy _ ht) trivial ?_;refine zG (Zfc _ _ (by simpa using ht) (by simpa using hs)) trivial ?_;exact zg (zi hd rfl rfl)
def yk(x:Inst)(d:zn):Int:=(d.map λt=>yE x (t.map (·.c))).sum
theorem Zfl(x:Inst)(d:zn)(t:zK):yk x (d++[t])=yk x d+yE x (t.map (·.c)):=by simp[yk]
structure DayOk (d:zn):Prop where
 n:d.length<=1048576
 t:∀t∈d,t.length<=1048576
 s:∀t∈d,∀s∈t,qe s.c
theorem J8(x:Inst)(d:zn)(hd':DayOk d):Pure prog 116 [.agg (zy x),.agg [L d]] (I (W (yk x d))):=by
 have hn:=hd'.n;refine zr func116 ntmps116 results116 λS nx hd=>?_
 refine D7 ?_;intro v0 v1;refine D7 ?_
 repeat apply za
 refine zb ?_;refine zj (zC (λs:Nat × Nat × Nat=>s.1<=d.length) (λ(k,v,v')=>[(2,.ptr nx v 0),(5,I (W (yk x (d.take k)))),(9,L d),(10,I d.length),(11,I k)]) (λ(k,v,v')=>[.cells v 25 (zy x),.cells v' 39 [L d]]) (λs=>d.length-s.1) (0,v0,v1) [] DZ (by simp[yk]) DZ ?_);rintro⟨k,v1,v2⟩ hk;simp only at hk ⊢;refine D7 ?_;refine za (zv rfl (λhc=>?_) (λhc=>?_))
 ·simp at hc;obtain⟨t,tl,a1,a2,a3,e0⟩:=zF rfl d k hc;have htd:=Ab a1;refine zh (za (zj (za (ze [] (zo hc e0) ?_))));intros;refine zb ?_;refine zt (Wm _ _ (hd'.t t htd) (hd'.s t htd)) ?_;refine zb ?_;exact zq (k+1,v1,v2) [_] hc D2 (by simp[zu k (by omega),a3,Zfl,vK,VL]) rfl D0
 ·simp at hc;have hk':k=d.length:=DY
  subst hk';refine zx (D7 ?_);exact zg (zi hd rfl DZ)
theorem Zfm(d:zn)(hn:d.length<=1048576)(hf:d.flatten.length<=1048576):Pure prog 153 [.agg [L d]] (L d.flatten):=by
 refine zr func153 ntmps153 results153 λS nx hd=>?_
 refine D7 ?_;intro v0;refine D7 ?_;refine za (qx 3 100 2 rfl λv1=>?_);refine D7 ?_;refine zj (zC (λs:Nat × List Stop × Nat × Nat=>s.1<=d.length/\s.2.1=(d.take s.1).flatten) (λ(k,out,v,v2)=>[(3,.sl (nx+1) v2 2 0 out.length),(7,L d),(8,I d.length),(9,I k)]) (λ(k,out,v,v2)=>[.cells v 39 [L d],.cells v2 100 (out.flatMap Enc.enc)]) (λs=>d.length-s.1) (0,[],v0,v1) [] DZ DZ DZ ?_);rintro⟨k,out,v1,v2⟩ ⟨hk,ho⟩;simp only at hk ho ⊢;refine D7 ?_;refine za (zv rfl (λhc=>?_) (λhc=>?_))
 ·simp at hc;obtain⟨t,tl,a1,a2,a3,e0⟩:=zF rfl d k hc;refine zh (za (zj (za (ze [] (zo hc e0) ?_))));intros;have hl:out.length+t.length<=1048576:=by
   have:(out++t).length<=d.flatten.length:=by
    have e:d.flatten=(d.take (k+1)).flatten++(d.drop (k+1)).flatten:=by rw[<-List.flatten_append,List.take_append_drop]
    rw[e,a3];simp[ho]
   simp only[Ar]at this;omega
  refine zb ?_;refine⟨by omega,?_⟩;refine zb ?_;exact zq (k+1,out++t,v1,v2+1) [_] (by simp[a3,ho];omega) D2 (by simp[zu k (by omega)]) rfl D0
 ·simp at hc;have hk':k=d.length:=DY
  subst hk';refine zx (D7 ?_);refine zX 1 rfl ?_;exact zg (zi hd rfl (by simp[ho]))
open Go
def jF(x:Inst)(s:Stop):Bool:=decide (0<=s.c/\s.c<x.cust.length/\1<=s.q/\s.q<=2147483648)
def jh(x:Inst)(t:zK):Bool:=t.all (jF x) && !t.isEmpty
def zQ(x:Inst)(t:zK):Int :=
 if jh x t=false then 1 else if ¬(t.map (·.c)).Nodup then 11 else if x.cap<W (zU t) then 12 else if x.len<W (yE x (t.map (·.c))) then 13 else 0
theorem Zmz{x:Inst}{t:zK}{k:Nat}{s:Stop}(h:(t.take k).all (jF x)=true)(ht:t.take (k+1)=t.take k++[s])(hs:0<=s.c/\s.c<x.cust.length/\1<=s.q/\s.q<=2147483648):(t.take (k+1)).all (jF x)=true:=by
 rw[ht,CJ,h];simp[jF];omega
theorem ZmA{x:Inst}{t:zK}(hx:x.cust.length<=1048576)(h:t.all (jF x)=true):∀s∈t,qe s.c:=by
 intro s hs;have:=AA.1 h s hs;simp[jF]at this;unfold qe;omega
open Go
theorem Wn(l:List Int):(yU l).Pairwise (·<=·):=by
 have:=CK (le:=λx y:Int=>decide (x<=y)) (λa b c h1 h2=>by simp at *;omega) (λa b=>by simp;omega) l;simpa using this
theorem Zfn(l:List Int):(yU l).Perm l:=Ch l _
theorem ZbW(l:List Int):(yU l).Nodup<->l.Nodup:=(Zfn l).nodup_iff
theorem Zfo{z:List Int}{j:Nat}{p c:Int}(hz:z.Pairwise (·<=·))(hn:(z.take (j+1)).Nodup)(h1:z.take (j+1)=z.take j++[p])(h2:z.take (j+1+1)=z.take (j+1)++[c])(hpc:p≠c):(z.take (j+1+1)).Nodup:=by
 rw[h2];refine Zmw _ _ hn λhc=>?_
 have hs:(z.take (j+1+1)).Pairwise (·<=·):=hz.sublist (List.take_sublist _ _);rw[h2,h1,List.append_assoc,List.pairwise_append]at hs;rw[h1,AB]at hc;rcases hc with hc | hc
 ·have a1:=hs.2.2 c hc p DZ;have a2:=(Bb.1 hs.2.1).1 c DZ;omega
 ·simp at hc;exact hpc hc.symm
theorem Zfp{S:Store}{id ver:Nat}(zs:List Int)(hid:S id=.cells ver 3 (zs.flatMap Enc.enc))(hn:zs.length<=1048576):
  Spec prog 151 [.sl id ver 1 0 zs.length] S (λp S'=>p=B (decide zs.Nodup)/\S'=S.set id .dead):=by
 refine yn func151 ntmps151 results151 λnx hd=>?_
 have hlt:id<nx:=by
  rcases Bi id nx with h | h
  ·exact h
  ·rw[hd id h]at hid;cases hid
 refine D7 ?_;refine za (xx [] D3 D3 λK Gc Gh hK hGc hGh X hX0 hX=>?_);simp -implicitDefEqProofs [hX0,hX]
 try clear hX0 hX X
 refine hGc _ _ _ _ _ _ _ λhsuf=>((VY zs (by rw[zB hlt];exact hid) hn).mono ?_).v
 rintro p _ rfl;refine⟨S.set id (.cells ver 3 ((yU zs).flatMap Enc.enc)),[],qc _ hlt,?_⟩;clear hGc hGh;clear Gc Gh;refine xZ hsuf (D:=[]) D3 λGc Gh hGc hGh X hX0 hX=>?_
 simp -implicitDefEqProofs [hX0,hX];clear hX0 hX X;refine hK _ _ _ ?_;clear hK hGc hGh;clear K Gc Gh;generalize hz:yU zs=z;have hzl:zs.length=z.length:=by rw[<-hz,Qk]
 have hzs:z.Pairwise (·<=·):=by rw[<-hz];exact Wn zs
 have hfin:∀o,S.set id .dead o=ext (S.set id (.cells ver 3 (z.flatMap Enc.enc))) nx [] o\/S.set id .dead o=.dead:=by
  intro o
  by_cases ho:o=id
  ·subst ho;exact .inr (q11 _ _ _)
  ·rw[q10 _ _ _ _ ho]
   by_cases h2:o<nx
   ·rw[zB h2,q10 _ _ _ _ ho];exact .inl rfl
   ·exact .inr (hd o DY)
 have hS1:(S.set id (.cells ver 3 (z.flatMap Enc.enc))) id=.cells ver 3 (z.flatMap Enc.enc):=q11 _ _ _;have hres:decide zs.Nodup=decide z.Nodup:=by rw[<-hz,decide_eq_decide,ZbW]
 rw[hres];have hzn:z.length<=1048576:=DY
 rw[hzl];generalize S.set id (.cells ver 3 (z.flatMap Enc.enc))=S1 at *;have hx1:=zB (S:=S1) (obs:=[]) hlt
 repeat apply za
 refine zb ?_;refine zj (zC (λj:Nat=>(j=0\/j+1<=z.length)/\(z.take (j+1)).Nodup) (λj=>[(0,.sl id ver 1 0 z.length),(3,I ((j+1:Nat):Int))]) (λ_=>[]) (λj=>z.length-j) 0 [] (by cases z<;>simp) DZ DZ ?_);rintro j ⟨hj,hjn⟩
 repeat apply za
 refine zb ?_;refine zv rfl (λhc=>?_) (λhc=>?_)
 ·simp at hc;have hc':j+1<z.length:=DY
  obtain⟨c,tl1,b1,b2,b3,e1⟩:=zF rfl z (j+1) hc';obtain⟨p,tl2,d1,d2,d3,e2⟩:=zF rfl z j DY;have wj:IntKind.i64.wrap (j:Int)=j:=wr _ DY DY;have g1:(j:Int)<z.length:=DY
  have g2:(j:Int)+1<z.length:=DY
  have g3:0<=(j:Int)+1:=DY
  refine zh (za (zj (za (zz none (Row.pures [0,1,2,3,4,5,6,7,8,9] .done) mixed (yd hx1 hS1 wj e1 e2 (zD g1 g2 g3)) ?_))));refine zv rfl (λhq=>?_) (λhq=>?_)
  ·simp at hq;refine D7 ?_;exact zg ⟨_,_,rfl,⟨by simp;exact Zfj b1 (by rw[d1,hq]) DY,rfl⟩,hfin⟩
  ·simp at hq;refine zh (zb ?_);have w2:IntKind.i64.wrap ((j:Int)+1+1)=((j+1+1:Nat):Int):=by rw[wr _ DY DY];omega
   exact zq (j+1) [] ⟨by omega,Zfo hzs hjn d3 b3 (λe=>hq e.symm)⟩ DY (by simp[w2]) rfl DZ
 ·simp at hc;refine zx (D7 ?_);rw[Af DY]at hjn;exact zg ⟨_,_,rfl,⟨by simp[hjn],rfl⟩,hfin⟩
open Go
abbrev Wo(x:Inst)(t:zK):List PV:=[I x.days,I x.veh,I x.cap,I x.len,L x.cust,L x.dist,L t]
theorem ZmB(x:Inst)(t:zK)(ht:t.length<=1048576):Pure prog 236 [.agg (Wo x t)] (B (jh x t)):=by
 have bad:∀{k:Nat} {s:Stop},t[k]?=some s->¬(0<=s.c/\s.c<x.cust.length/\1<=s.q/\s.q<=2147483648)->jh x t=false:=by
  intro k s h hb;unfold jh;have:t.all (jF x)=false:=by
   rw[BY];exact⟨s,Ab h,by simp[jF];omega⟩
  rw[this];rfl
 refine zr func236 ntmps236 results236 λS nx hd=>?_
 refine D7 ?_;intro v0
 repeat apply za
 refine zb ?_;refine zj (zC (λs:Nat × Nat=>s.1<=t.length/\(t.take s.1).all (jF x)=true) (λ(k,v)=>[(1,.ptr nx v 0),(7,L t),(8,I t.length),(9,I k)]) (λ(k,v)=>[.cells v 267 (Wo x t)]) (λs=>t.length-s.1) (0,v0) [] DZ DZ DZ ?_);rintro⟨k,v0⟩ ⟨hk,ha⟩;simp only at hk ha ⊢;refine D7 ?_;refine za (zv rfl (λhc=>?_) (λhc=>?_))
 ·simp at hc;obtain⟨s,tl,a1,a2,a3,e1,e0⟩:=el 2 rfl t k hc;refine zh (za (zj (za (ze [] (zo hc e0) ?_))));intros
  by_cases h1:s.c<0
  ·repeat apply za
   refine ze [(3,16)] (zo h1 zH) ?_;refine zm rfl (D7 ?_);exact zg (zi hd rfl (by rw[bad a1 (by omega)];rfl))
  by_cases h2:(x.cust.length:Int)<=s.c
  ·repeat apply za
   refine ze [(3,16)] (zD h2 h1 zH) ?_;refine zm rfl (D7 ?_);exact zg (zi hd rfl (by rw[bad a1 (by omega)];rfl))
  repeat apply za
  refine ze [(3,16)] (zo h1 h2) ?_;refine zk rfl (zh ?_)
  by_cases h3:s.q<1
  ·refine za (ze [(3,28)] (zo h3 zH) ?_);refine zm rfl (D7 ?_);exact zg (zi hd rfl (by rw[bad a1 (by omega)];rfl))
  by_cases h4:2147483648<s.q
  ·refine za (ze [(3,28)] (zD h4 h3 zH) ?_);refine zm rfl (D7 ?_);exact zg (zi hd rfl (by rw[bad a1 (by omega)];rfl))
  refine za (ze [(3,28)] (zo h3 h4) ?_);refine zk rfl (zh (zb ?_));exact zq (k+1,v0) [_] ⟨hc,Zmz ha a3 DY⟩ D2 (by simp[zu k (by omega)]) rfl D0
 ·simp at hc;have hk':k=t.length:=DY
  subst hk';rw[Ai]at ha;refine zx (D7 ?_);exact zg (zi hd rfl (by cases t with | nil=>rfl | cons a t=>simp[jh,ha]))
theorem ZmC(x:Inst)(t:zK)(ht:t.length<=1048576):Pure prog 237 [.agg (Wo x t)] (B (decide (t.map (·.c)).Nodup)):=by
 refine zr func237 ntmps237 results237 λS nx hd=>?_
 refine D7 ?_;intro v0;refine D7 ?_;refine λhsuf=>((Wl t ht _ _ jU).mono ?_).v
 rintro _ _ ⟨v1,rfl,rfl⟩;refine⟨_,_,JY _,jM [] Nat.add_assoc hsuf ?_⟩;rw[<-List.length_map (f:=λs:Stop=>s.c)];refine λhsuf=>((Zfp _ DZ (by simpa using ht)).mono ?_).v
 rintro _ _ ⟨rfl,rfl⟩;refine⟨_,_,yl _ DZ DZ,zL hsuf ?_⟩;exact zg (zi hd rfl rfl)
theorem ZmD(x:Inst)(t:zK)(ht:t.length<=1048576):Pure prog 238 [.agg (Wo x t)] (B (decide (W (zU t)<=x.cap))):=by
 refine zr func238 ntmps238 results238 λS nx hd=>?_
 refine D7 ?_;intro v0;refine za (zz none (Row.pures [0,1,2,3,4,5,6,7] .done) mixed trivial ?_);refine zG (Zfk _ ht) trivial ?_;exact zg (zi hd rfl rfl)
theorem ZmE(x:Inst)(t:zK)(ht:t.length<=1048576)(hs:∀s∈t,qe s.c):Pure prog 239 [.agg (Wo x t)] (B (decide (W (yE x (t.map (·.c)))<=x.len))):=by
 refine zr func239 ntmps239 results239 λS nx hd=>?_
 refine D7 ?_;intro v0;refine za (zz none (Row.pures [0,1,2,3,4,5,6,7,8,9] .done) mixed trivial ?_);refine zG (Wm _ _ ht hs) trivial ?_;exact zg (zi hd rfl rfl)
abbrev Zfq:List PV:=[.fn (.func 236) [] [],I 1,.fn (.func 237) [] [],I 11,.fn (.func 238) [] [],I 12,.fn (.func 239) [] [],I 13]
theorem ZmF:Pure prog 195 [] (.lst 4 Zfq):=by
 refine zr func195 ntmps195 results195 λS nx hd=>?_
 refine D7 ?_;refine D7 ?_;exact zg (zi hd rfl rfl)
theorem Wp(x:Inst)(t:zK)(hx:x.cust.length<=1048576)(ht:t.length<=1048576):Pure prog 150 [.agg (zy x),.agg [L t]] (I (zQ x t)):=by
 refine zr func150 ntmps150 results150 λS nx hd=>?_
 refine D7 ?_;intro v0 v1
 repeat apply za
 refine zb ?_;refine zt ZmF ?_;refine zj (zC (λs:Nat × Nat × Nat=>s.1<=4/\(1<=s.1->jh x t=true)/\(2<=s.1->(t.map (·.c)).Nodup)/\(3<=s.1->W (zU t)<=x.cap)/\(4<=s.1->W (yE x (t.map (·.c)))<=x.len)) (λ(k,v,v')=>[(2,.ptr nx v 0),(3,.ptr (nx+1) v' 0),(7,.lst 4 Zfq),(8,I 4),(9,I k)]) (λ(k,v,v')=>[.cells v 25 (zy x),.cells v' 42 [L t]]) (λs=>4-s.1) (0,v0,v1) [] DZ DZ DZ ?_);rintro⟨k,v0,v1⟩ ⟨hk,i1,i2,i3,i4⟩;simp only at hk i1 i2 i3 i4 ⊢;have hsm:1<=k->∀s∈t,qe s.c:=λh=>ZmA hx (by have:=i1 h;unfold jh at this;simp only[Aw]at this;exact this.1)
 match k,hk with
 | 0,_ =>
  refine D7 ?_;refine za (zm rfl (zh (za (zj (D7 ?_)))));intros;refine D7 ?_;refine zt (ZmB x t ht) ?_;refine zv rfl (λh1=>?_) (λh1=>?_)
  ·simp at h1;refine D7 ?_;exact zg (zi hd rfl (by simp[zQ,h1]))
  ·simp at h1;refine zh (zb ?_);exact zq (1,v0,v1) [_] (by simp[h1]) DZ D0 rfl D0
 | 1,_ =>
  refine D7 ?_;refine za (zm rfl (zh (za (zj (D7 ?_)))));intros;refine D7 ?_;refine zt (ZmC x t ht) ?_;refine zv rfl (λh1=>?_) (λh1=>?_)
  ·simp at h1;refine D7 ?_;exact zg (zi hd rfl (by simp[zQ,h1,i1 (by omega)]))
  ·simp at h1;refine zh (zb ?_);exact zq (2,v0,v1) [_] (by simp[h1,i1 (by omega)]) DZ D0 rfl D0
 | 2,_ =>
  refine D7 ?_;refine za (zm rfl (zh (za (zj (D7 ?_)))));intros;refine D7 ?_;refine zt (ZmD x t ht) ?_;refine zv rfl (λh1=>?_) (λh1=>?_)
  ·simp at h1;refine D7 ?_;exact zg (zi hd rfl (by simp[zQ,h1,i1 (by omega),i2 (by omega)]))
  ·simp at h1;refine zh (zb ?_);exact zq (3,v0,v1) [_] (by simp[h1,i1 (by omega),i2 (by omega)]) DZ D0 rfl D0
 | 3,_ =>
  refine D7 ?_;refine za (zm rfl (zh (za (zj (D7 ?_)))));intros;refine D7 ?_;refine zt (ZmE x t ht (hsm DY)) ?_;have h3:=DT.2 (i3 DY);refine zv rfl (λh1=>?_) (λh1=>?_)
  ·simp at h1;refine D7 ?_;exact zg (zi hd rfl (by simp[zQ,h1,i1 (by omega),i2 (by omega),h3]))
  ·simp at h1;refine zh (zb ?_);exact zq (4,v0,v1) [_] (by simp[h1,i1 (by omega),i2 (by omega),i3 (by omega)]) DZ D0 rfl D0
 | 4,_ =>
  refine D7 ?_;refine za (zk rfl (zx (D7 ?_)));exact zg (zi hd rfl (by simp[zQ,i1 DY,i2 DY,DT.2 (i3 DY),DT.2 (i4 DY)]))
open Go
def yr(x:Inst)(d:zn):Int :=
 match d.find? (λt=>zQ x t != 0) with
 | some t=>zQ x t
 | none=>if ¬(d.flatten.map (·.c)).Nodup then 11 else if x.veh<d.length then 14 else 0
theorem Zfr{α:Type}{p:α->Bool}{l:List α}{k:Nat}{a:α}(h:(l.take k).find? p=none)(ht:l.take (k+1)=l.take k++[a])(ha:p a=false):(l.take (k+1)).find? p=none:=by
 rw[ht,List.find?_append,h];simp[ha]
theorem Zfs{α:Type}{p:α->Bool}{l:List α}{k:Nat}{a:α}(h:(l.take k).find? p=none)(hd:l.drop k=a :: l.drop (k+1))(ha:p a=true):l.find? p=some a:=by
 have e:l=l.take k++a :: l.drop (k+1):=by rw[<-hd,List.take_append_drop]
 rw[e,List.find?_append,h];simp[ha]
theorem ZbX(x:Inst)(d:zn)(hx:x.cust.length<=1048576)(hn:d.length<=1048576)(ht:∀t∈d,t.length<=1048576)(hf:d.flatten.length<=1048576):Pure prog 111 [.agg (zy x),.agg [L d]] (I (yr x d)):=by
 refine zr func111 ntmps111 results111 λS nx hd=>?_
 refine D7 ?_;intro v0 v1
 repeat apply za
 refine zb ?_;refine zj (zC (λs:Nat × Nat × Nat=>s.1<=d.length/\(d.take s.1).find? (λt=>zQ x t != 0)=none) (λ(k,v,v')=>[(2,.ptr nx v 0),(3,.ptr (nx+1) v' 0),(9,L d),(10,I d.length),(11,I k)]) (λ(k,v,v')=>[.cells v 25 (zy x),.cells v' 39 [L d]]) (λs=>d.length-s.1) (0,v0,v1) [] DZ DZ DZ ?_);rintro⟨k,v0,v1⟩ ⟨hk,ha⟩;simp only at hk ha ⊢;refine D7 ?_;refine za (zv rfl (λhc=>?_) (λhc=>?_))
 ·simp at hc;obtain⟨t,tl,a1,a2,a3,e0⟩:=zF rfl d k hc;refine zh (za (zj (za (ze [] (zo hc e0) ?_))));intros;refine D7 ?_;refine zt (Wp x t hx (ht t (Ab a1))) ?_;refine D7 ?_;refine zv rfl (λh1=>?_) (λh1=>?_)
  ·simp at h1;refine D7 ?_;exact zg (zi hd rfl (by simp only[yr,Zfs ha a2 (by simpa using h1)];simp))
  ·simp at h1;refine zh (zb ?_);exact zq (k+1,v0,v1) [_] ⟨hc,Zfr ha a3 (by simpa using h1)⟩ D2 (by simp[zu k (by omega)]) rfl D0
 ·simp at hc;have hk':k=d.length:=DY
  subst hk';rw[Ai]at ha;have hst:=Zfm d hn hf;have hres:yr x d=if ¬(d.flatten.map (·.c)).Nodup then 11 else if x.veh<d.length then 14 else 0:=by unfold yr;rw[ha]
  generalize d.flatten=fl at *;refine zx ?_
  repeat apply za
  refine zb ?_;refine zt hst ?_;refine λhsuf=>((Wl fl hf _ _ jU).mono ?_).v
  rintro _ _ ⟨v2,rfl,rfl⟩;refine⟨_,_,JY _,jM [] Nat.add_assoc hsuf ?_⟩;rw[<-List.length_map (f:=λs:Stop=>s.c)];refine λhsuf=>((Zfp _ DZ (by simpa using hf)).mono ?_).v
  rintro _ _ ⟨rfl,rfl⟩;refine⟨_,_,yl _ DZ DZ,zL hsuf ?_⟩;refine zv rfl (λh2=>?_) (λh2=>?_)
  ·simp at h2;refine D7 ?_;exact zg (zi hd rfl (by simp[hres,h2]))
  ·simp at h2;refine zh ?_
   repeat apply za
   refine zb ?_;refine zv rfl (λh3=>?_) (λh3=>?_)
   ·simp at h3;refine D7 ?_;exact zg (zi hd rfl (by simp[hres,h2,h3]))
   ·simp at h3;refine zh (D7 ?_);exact zg (zi hd rfl (by simp[hres,h2,DT.2 h3]))
def qO(l:List Stop):zn:=l.map λs=>[s]
theorem ZmG(l:List Stop)(hl:l.length<=1048576):Pure prog 314 [L l] (.agg [L (qO l)]):=by
 refine zr func314 ntmps314 results314 λS nx hd=>?_
 refine D7 ?_;intro v0;refine D7 ?_;intro v1;refine za (je 1 0 42 1 rfl rfl λv2=>?_);refine D7 ?_;refine zj (zC (λs:Nat × zn × Nat × Nat × Nat=>s.1<=l.length/\s.2.1=qO (l.take s.1)) (λ(k,out,v,v',v2)=>[(2,.ptr nx v 0),(3,.ptr (nx+1) v' 0),(6,L l),(7,I l.length),(8,I k)]) (λ(k,out,v,v',v2)=>[.cells v 39 [.sc (.slice none 0 0)],.cells v' 39 [.sl (nx+2) v2 1 0 out.length],.cells v2 42 (out.flatMap Enc.enc)]) (λs=>l.length-s.1) (0,[],v0,v1,v2) [] (by simp[qO]) DZ DZ ?_);rintro⟨k,out,v0,v1,v2⟩ ⟨hk,ho⟩;simp only at hk ho ⊢;refine D7 ?_;refine za (zv rfl (λhc=>?_) (λhc=>?_))
 ·simp at hc;obtain⟨s,tl,a1,a2,a3,e1,e0⟩:=el 2 rfl l k hc;refine zh (za (zj (za (ze [] (zo hc e0) ?_))));intros;have hol:out.length=k:=by rw[ho];simp[qO];omega
  refine zb ?_;refine⟨by omega,?_⟩;refine zb ?_;exact zq (k+1,out++[[s]],v0,v1,v2+1) [_] (by simp[a3,ho,qO];omega) D2 (by simp[zu k (by omega)]) rfl D0
 ·simp at hc;have hk':k=l.length:=DY
  subst hk';refine zx (D7 ?_);refine zX 2 rfl ?_;exact zg (zi hd D0 (by simp[ho]))
open Go
theorem ZbY(s:Stop):Pure prog 309 [.agg [I s.c,I s.q]] (.agg [L [s]]):=by
 refine zr func309 ntmps309 results309 λS nx hd=>?_
 refine D7 ?_;intro v0 v1;refine D7 ?_;exact D8 hd
theorem Zft(l:List Int)(hl:l.length<=1048576)(hs:l.Pairwise (·<=·)):Pure prog 310 [L l] (B (decide (¬l.Nodup))):=by
 refine zr func310 ntmps310 results310 λS nx hd=>?_
 refine D7 ?_
 repeat apply za
 refine zb ?_;refine zj (zC (λj:Nat=>(j=0\/j+1<=l.length)/\(l.take (j+1)).Nodup) (λj=>[(0,L l),(3,I ((j+1:Nat):Int))]) (λ_=>[]) (λj=>l.length-j) 0 [] (by cases l<;>simp) DZ DZ ?_);rintro j ⟨hj,hjn⟩
 repeat apply za
 refine zb ?_;refine zv rfl (λhc=>?_) (λhc=>?_)
 ·simp at hc;have hc':j+1<l.length:=DY
  obtain⟨c,tl1,b1,b2,b3,e1⟩:=zF rfl l (j+1) hc';obtain⟨p,tl2,d1,d2,d3,e2⟩:=zF rfl l j DY;have wj:IntKind.i64.wrap (j:Int)=j:=wr _ DY DY;have g1:(j:Int)<l.length:=DY
  have g2:(j:Int)+1<l.length:=DY
  have g3:0<=(j:Int)+1:=DY
  refine zh (za (zj (za (zz none (Row.pures [0,1,2,3,4,5,6,7,8,9] .done) mixed (yd wj e1 e2 g1 g2 g3) ?_))));refine zv rfl (λhq=>?_) (λhq=>?_)
  ·simp at hq;refine D7 ?_;exact zg (zi hd rfl (by simp;exact Zfj b1 (by rw[d1,hq]) (by omega)))
  ·simp at hq;refine zh (zb ?_);have w2:IntKind.i64.wrap ((j:Int)+1+1)=((j+1+1:Nat):Int):=by rw[wr _ DY DY];omega
   exact zq (j+1) [] ⟨by omega,Zfo hs hjn d3 b3 (λe=>hq e.symm)⟩ DY (by simp[w2]) rfl DZ
 ·simp at hc;refine zx (D7 ?_);rw[Af DY]at hjn;exact zg (zi hd rfl (by simp[hjn]))
theorem Zfu(ss:List Stop)(hss:ss.length<=1048576):Pure prog 311 [L ss] (L (yU (ss.map (·.c)))):=by
 have hcust:=λS nx hd=>Wl ss hss S nx hd
 obtain⟨zs,hzs⟩:∃zs,zs=ss.map (·.c):=⟨_,rfl⟩;have hzl:ss.length=zs.length:=by rw[hzs];simp
 rw[<-hzs,hzl]at hcust;rw[<-hzs];have hz4:=Qk zs;refine zr func311 ntmps311 results311 λS nx hd=>?_
 refine D7 ?_;refine D7 ?_;refine λhsuf=>((hcust _ _ jU).mono ?_).v
 rintro _ _ ⟨v1,rfl,rfl⟩;refine⟨_,_,JY _,jM [] Nat.add_assoc hsuf ?_⟩;refine D7 ?_;refine λhsuf=>((VY zs DZ DY).mono ?_).v
 rintro _ _ rfl;refine⟨_,_,yl _ DZ DZ,zL hsuf ?_⟩;generalize yU zs=c at *;rw[<-hz4];refine zX 1 rfl ?_;refine D7 ?_;exact D8 hd
def wM(x:Inst)(l:List Stop):Int :=
 match l.find? (λs=>zQ x [s] != 0) with
 | some s=>zQ x [s]
 | none=>if ¬(l.map (·.c)).Nodup then 11 else 0
theorem ZmH(x:Inst)(l:List Stop)(hx:x.cust.length<=1048576)(hl:l.length<=1048576):Pure prog 284 [.agg (zy x),L l] (I (wM x l)):=by
 have hcu:=Zfu l hl;have hdo:=Zft (yU (l.map (·.c))) (by rw[Qk];simpa using hl) (Wn _);have hdd:decide (¬(yU (l.map (·.c))).Nodup)=decide (¬(l.map (·.c)).Nodup):=by rw[decide_eq_decide,ZbW]
 rw[hdd]at hdo;refine zr func284 ntmps284 results284 λS nx hd=>?_
 refine D7 ?_;intro v0
 repeat apply za
 refine zb ?_;refine zj (zC (λk:Nat=>k<=l.length/\(l.take k).find? (λs=>zQ x [s] != 0)=none) (λk=>[(1,L l),(2,.ptr nx v0 0),(8,L l),(9,I l.length),(10,I k)]) (λ_=>[.cells v0 25 (zy x)]) (λk=>l.length-k) 0 [] DZ DZ DZ ?_);rintro k ⟨hk,ha⟩;refine D7 ?_;refine za (zv rfl (λhc=>?_) (λhc=>?_))
 ·simp at hc;obtain⟨s,tl,a1,a2,a3,e1,e0⟩:=el 2 rfl l k hc;refine zh (za (zj (za (ze [] (zD hc e1 e0) ?_))));intro v1;refine za (zz none (Row.pures [0,1,2,3,4] .done) mixed trivial ?_);refine zG (ZbY s) trivial ?_;refine zG (Wp x [s] hx DZ) trivial ?_;refine D7 ?_;refine zv rfl (λh1=>?_) (λh1=>?_)
  ·simp at h1;refine D7 ?_;exact zg (zi hd rfl (by simp only[wM,Zfs ha a2 (by simpa using h1)];simp))
  ·simp at h1;refine zh (zb ?_);exact zq (k+1) [_] ⟨hc,Zfr ha a3 (by simpa using h1)⟩ DY (by simp[zu k (by omega)]) rfl D0
 ·simp at hc;obtain rfl:k=l.length:=DY
  rw[Ai]at ha;have hres:wM x l=if ¬(l.map (·.c)).Nodup then 11 else 0:=by unfold wM;rw[ha]
  refine zx ?_
  repeat apply za
  refine zb ?_;refine zt hcu ?_;refine zt hdo ?_
  by_cases h2:(l.map (·.c)).Nodup
  ·repeat apply za
   refine zk (by simp[h2]) ?_;refine zh (D7 ?_);exact zg (zi hd D0 (by simp[hres,h2,zp]))
  ·repeat apply za
   refine zm (by simp[h2]) ?_;refine D7 ?_;exact zg (zi hd D0 (by simp[hres,h2,zp]))
theorem Zfv(x:Inst)(d:zn)(hd':DayOk d):Pure prog 36 [.agg (zy x),.agg [L d]] (I (W (yk x d))):=by
 have hdn:=hd'.1;refine zr func36 ntmps36 results36 λS nx hd=>?_
 refine D7 ?_;intro v0 v1;refine D7 ?_
 repeat apply za
 refine zb ?_;refine zj (zC (λs:Nat=>s<=d.length) (λk=>[(2,.ptr nx v0 0),(3,.ptr (nx+1) v1 0),(5,I (W (yk x (d.take k)))),(6,I k)]) (λ_=>[.cells v0 25 (zy x),.cells v1 39 [L d]]) (λs=>d.length-s) 0 [] DZ (by simp[yk]) DZ ?_);rintro k hk
 repeat apply za
 refine zb ?_;refine zv rfl (λhc=>?_) (λhc=>?_)
 ·simp at hc;obtain⟨t,tl,a1,a2,a3,e0⟩:=zF rfl d k hc;have htm:=Ab a1;have htl:=hd'.2 t htm;have hsm:=hd'.3 t htm;refine zh (za (zj (zz none (Row.pures [0,1,2,3,4,5,6,7,8,9,10] .done) mixed (zo hc e0) ?_)));refine zG (Zmv t htl) trivial ?_;refine zG (Zmj x (t.map (·.c)) (by simpa using htl) (by simpa using hsm)) trivial ?_;have hw:W (W (yk x (d.take k))+W (yE x (t.map (·.c))))=W (yk x (d.take (k+1))):=by rw[a3,Zfl,vK,VL]
  refine zb ?_;exact zq (k+1) [] hc DY (by simp[zu k (by omega)];exact hw) rfl DZ
 ·simp at hc;obtain rfl:k=d.length:=DY
  rw[Ai];refine zx (D7 ?_);exact D8 hd
open Go
structure KeyOk {α:Type} [DecidableEq α] (d:TypeDesc) (key:α->Value):Prop where
 same:∀a b,Instr.sameNow d (key a) (key b)=some (decide (a=b))
theorem Jc(k:IntKind):KeyOk (.int k) (λi:Int=>Value.int k i):=⟨λa b=>by simp[Instr.sameNow]⟩
def MapIs{α β:Type}(key:α->Value)(enc:β->PV)(es:List (Value × PV))(g:α->Option β):Prop :=
 ∃l:List (α × β),es=l.map (λx=>(key x.1,enc x.2))/\(l.map (·.1)).Nodup/\(∀a b,(a,b)∈l<->g a=some b)
def qT{α β:Type}[DecidableEq α](g:α->Option β)(a:α)(v:Option β):α->Option β:=λx=>if x=a then v else g x
theorem Zfw{α β:Type}(key:α->Value)(enc:β->PV):MapIs key enc [] (λ_=>none):=⟨[],rfl,by simp,by simp⟩
theorem Zfx{α β:Type}[DecidableEq α]{d:TypeDesc}{key:α->Value}{enc:β->PV}(hk:KeyOk d key)(a:α):∀(l:List (α × β)) (i:Nat),a ∉ l.map (·.1)->jd d (key a) (l.map λx=>(key x.1,enc x.2)) i=some none
 | [],_,_=>rfl
 | x :: l,i,h=>by
  simp only[Az,As,not_or]at h;simp only[Az,jd,hk.same,decide_eq_false h.1];exact Zfx hk a l (i+1) h.2
theorem Zfy{α β:Type}[DecidableEq α]{d:TypeDesc}{key:α->Value}{enc:β->PV}(hk:KeyOk d key)(a:α)(b:β):∀(l:List (α × β)) (i:Nat),(l.map (·.1)).Nodup->(a,b)∈l ->
  ∃j,l[j]?=some (a,b)/\jd d (key a) (l.map λx=>(key x.1,enc x.2)) i=some (some (i+j,enc b))
 | [],_,_,h=>by cases h
 | x :: l,i,hn,h=>by
  simp only[Az,Cq]at hn
  by_cases e:a=x.1
  ·have hx:x=(a,b):=by
    rcases As.1 h with h | h
    ·exact h.symm
    ·simp_all
   subst hx;exact⟨0,rfl,by simp[jd,hk.same]⟩
  ·have hm:(a,b)∈l:=by
    rcases As.1 h with h | h
    ·grind
    ·exact h
   obtain⟨j,h1,h2⟩:=Zfy hk a b l (i+1) hn.2 hm;refine⟨j+1,by simpa using h1,?_⟩;simp only[Az,jd,hk.same,decide_eq_false e];rw[h2,show i+1+j=i+(j+1) by omega]
theorem MapIs.find{α β:Type}[DecidableEq α]{d:TypeDesc}{key:α->Value}{enc:β->PV}{es:List (Value × PV)}{g:α->Option β}(hk:KeyOk d key)(h:MapIs key enc es g)(a:α):
  ∃res,jd d (key a) es 0=some res/\(g a=none->res=none)/\(∀b,g a=some b->∃j,res=some (j,enc b))/\(∀b,MapIs key enc (qS (key a) (enc b) es res) (qT g a (some b)))/\MapIs key enc (Wb es res) (qT g a none):=by
 obtain⟨l,rfl,hn,hg⟩:=h;cases hga:g a with
 | none =>
  have hna:a ∉ l.map (·.1):=by
   intro hm;obtain⟨x,hx,rfl⟩:=Am.1 hm;have:=(hg x.1 x.2).1 hx;rw[hga]at this;cases this
  have q1:∀b,MapIs key enc (qS (key a) (enc b) (l.map λx=>(key x.1,enc x.2)) none) (qT g a (some b)):=λb=>by
   refine⟨l++[(a,b)],by simp[qS],?_,λa' b'=>?_⟩
   rotate_left
   focus
    unfold qT
    by_cases e:a'=a
    ·subst e;simp only[if_pos,AB,AW,hg,hga];simp[eq_comm]
    ·simp[AB,hg,e]
   rw[List.map_append,Dt];refine⟨hn,by simp,λx hx y hy=>?_⟩;simp at hy;subst hy;exact λe=>hna (e ▸ hx)
  refine⟨none,Zfx hk a l 0 hna,(by intro _;rfl),(by intro b hb;cases hb),q1,l,by simp[Wb],hn,λa' b'=>?_⟩
  grind[qT]
 | some b0 =>
  obtain⟨j,h1,h2⟩:=Zfy (enc:=enc) hk a b0 l 0 hn ((hg a b0).2 hga);have hj:j<l.length:=(Ac.1 h1).1;have hja:l[j]=(a,b0):=(Ac.1 h1).2;have huniq:∀(i:Nat) (hi:i<l.length),l[i].1=a->i=j:=by
   intro i hi he;have hp:=BD.1 hn;rcases Nat.lt_trichotomy i j with h | h | h
   ·grind
   ·exact h
   ·grind
  suffices hh:(∀b,MapIs key enc (qS (key a) (enc b) (l.map λx=>(key x.1,enc x.2)) (some (0+j,enc b0))) (qT g a (some b)))/\MapIs key enc (Wb (l.map λx=>(key x.1,enc x.2)) (some (0+j,enc b0))) (qT g a none) from
   ⟨some (0+j,enc b0),h2,DZ,DZ,hh.1,hh.2⟩
  refine⟨λb=>⟨l.set j (a,b),?_,?_,λa' b'=>?_⟩,l.eraseIdx j,?_,?_,λa' b'=>?_⟩
  ·simp[qS]
  ·grind[List.map_set]
  ·unfold qT;rw[Bl];constructor
   ·grind
   ·intro h
    by_cases e:a'=a
    ·rw[if_pos e]at h;cases h;exact⟨j,by simp_all⟩
    ·rw[if_neg e]at h;obtain⟨i,hi⟩:=Bl.1 ((hg a' b').2 h);refine⟨i,?_⟩
     grind
  ·simp only[Wb,AQ];apply AY
   grind
  ·grind
  ·unfold qT
   by_cases e:a'=a
   ·rw[if_pos e];refine⟨λh=>?_,λh=>by cases h⟩;obtain⟨i,hi⟩:=Bl.1 h
    grind
   ·rw[if_neg e,<-hg];refine⟨λh=>(List.eraseIdx_sublist l j).subset h,λh=>?_⟩;obtain⟨i,hi⟩:=Bl.1 h;have hij:i≠j:=by rintro rfl;rw[h1]at hi;cases hi;exact e rfl
    rw[Bl]
    by_cases hlt:i<j
    ·exact⟨i,by grind⟩
    ·refine⟨i-1,?_⟩
     grind
open Go Hp
abbrev qk:Int->Int->Bool:=λa b=>decide (a<b)
theorem Zu:Str qk:=⟨λa=>by simp,λa b c h1 h2=>by simp at *;omega,λa b h1 h2=>by simp at *;omega⟩
def yo(x:Int × Int):List PV:=[.sc (.int .i64 x.1),.sc (.int .i64 x.2)]
theorem Ql(x:Int × Int):(yo x).length=2:=rfl
abbrev qP(x:Int):Value:=.int .i64 x
structure PosOk (g:Int->Option Nat) (l:zJ Int):Prop where
 here:∀i,i<l.length->g (zE l i).1=some i
 gone:∀id,(∀i,i<l.length->(zE l i).1≠id)->g id=none
abbrev ZbZ(i:Nat):PV:=.sc (.int .i64 (i:Int))
def RowIs(cs:List PV)(l:zJ Int):Prop:=∃rest,cs=l.flatMap yo++rest
theorem RowIs.at{cs:List PV}{l:zJ Int}(h:RowIs cs l)(i:Nat)(hi:i<l.length):∃tl,cs.drop (i*2)=.sc (.int .i64 (zE l i).1) :: .sc (.int .i64 (zE l i).2) :: tl:=by
 obtain⟨rest,rfl⟩:=h;refine⟨(l.drop (i+1)).flatMap yo++rest,?_⟩;rw[B8 (by rw[JR yo 2 Ql];omega),ZeC yo 2 Ql l i hi];have:zE l i=l[i]:=by unfold zE;simp[hi]
 rw[this];rfl
theorem RowIs.big{cs:List PV}{l:zJ Int}(h:RowIs cs l):l.length*2<=cs.length:=by
 obtain⟨rest,rfl⟩:=h;rw[Ar,JR yo 2 Ql];omega
theorem RowIs.put{cs:List PV}{l:zJ Int}(h:RowIs cs l)(i:Nat)(hi:i<l.length)(x:Int × Int):RowIs (yg cs (i*2) [.sc (.int .i64 x.1),.sc (.int .i64 x.2)]) (l.set i x):=by
 obtain⟨rest,rfl⟩:=h;refine⟨rest,?_⟩;have hl:(l.flatMap yo).length=l.length*2:=JR yo 2 Ql l
 show List.take (i*2) (l.flatMap yo++rest)++yo x++List.drop (i*2+2) (l.flatMap yo++rest)=_
 rw[Bz DY,Qf yo 2 Ql,show i*2+2=(i+1)*2 by omega,B8 DY,JQ yo 2 Ql]
 simp_all[AF]
theorem RowIs.take{cs:List PV}{l:zJ Int}(h:RowIs cs l):cs.take (l.length*2)=l.flatMap yo:=by
 obtain⟨rest,rfl⟩:=h;rw[Bz (by rw[JR yo 2 Ql];omega),Qf yo 2 Ql,Ai]
structure HS (S:Store) (hid hv rid mid mv:Nat) (l:zJ Int) (g:Int->Option Nat):Prop where
 h:∃ver,S hid=.cells hv 445 [.sl rid ver 2 0 l.length,.mp mid mv]/\∃cs,S rid=.cells ver 449 cs/\RowIs cs l
 m:∃es,S mid=.map mv es/\MapIs qP ZbZ es g
 ne:hid≠rid/\hid≠mid/\rid≠mid
 len:l.length<=2147483648
def Offd(S:Store)(ids:List Nat)(S':Store):Prop:=∀o,o ∉ ids->S' o=S o\/S o=.dead
def Off(S:Store)(ids:List Nat)(S':Store):Prop:=∀o,o ∉ ids->S' o=S o
theorem Offd.refl(S:Store)(ids:List Nat):Offd S ids S:=λ_ _=>.inl rfl
theorem Offd.set{S T:Store}{ids:List Nat}(h:Offd S ids T){o:Nat}(ho:o∈ids\/S o=.dead)(x:Ob):Offd S ids (T.set o x):=by
 intro i hi
 by_cases e:i=o
 ·simp_all
 ·rw[jo _ _ _ _ e];exact h i hi
theorem Off.offd{S T:Store}{ids:List Nat}(h:Off S ids T):Offd S ids T:=λo ho=>.inl (h o ho)
theorem Off.trans{S T U:Store}{ids:List Nat}(h:Off S ids T)(k:Off T ids U):Off S ids U:=λo ho=>(k o ho).trans (h o ho)
def cut(S:Store)(ids:List Nat)(S':Store):Store:=λo=>if o∈ids then S' o else S o
theorem ZZ(S:Store)(ids:List Nat)(S':Store):Off S ids (cut S ids S'):=λo ho=>by simp[cut,ho]
theorem ZmI(S:Store)(ids:List Nat)(S':Store){o:Nat}(h:o∈ids):cut S ids S' o=S' o:=by simp[cut,h]
theorem Z0{S S':Store}{ids:List Nat}(h:Offd S ids S'):∀o,cut S ids S' o=S' o\/cut S ids S' o=.dead:=by
 intro o;unfold cut;split
 ·simp
 ·rename_i ho;rcases h o ho with h | h<;>simp_all
theorem HS.congr{S T:Store}{hid hv rid mid mv:Nat}{l:zJ Int}{g:Int->Option Nat}(h:HS S hid hv rid mid mv l g)(e:∀o∈[hid,rid,mid],T o=S o):HS T hid hv rid mid mv l g:=by
 obtain⟨ver,h1,cs,h2,hR⟩:=h.h;obtain⟨es,h3⟩:=h.m;exact⟨⟨ver,by simp_all,cs,by simp_all,hR⟩,⟨es,by simp_all⟩,h.ne,h.len⟩
theorem HS.cut{S T:Store}{hid hv rid mid mv:Nat}{l:zJ Int}{g:Int->Option Nat}(h:HS T hid hv rid mid mv l g):HS (cut S [hid,rid,mid] T) hid hv rid mid mv l g:=h.congr λ_ ho=>ZmI _ _ _ ho
theorem w9(S:Store)(o:Nat)(x:Ob)(i:Nat):S.set o x i=if i=o then x else S i:=by grind[q11,jo]
theorem Zfz{S:Store}{o i:Nat}{x:Ob}(h:S.set o x i=.dead)(hx:x≠.dead):i≠o/\S i=.dead:=by grind[w9]
theorem ug{S:Store}{o i:Nat}{x:Ob}(h:S o=x)(hx:x≠.dead)(d:S i=.dead):o≠i:=D5
theorem ZmJ{S:Store}{hid hv rid mid mv:Nat}{l:zJ Int}{g:Int->Option Nat}(hs:HS S hid hv rid mid mv l g):
  PCalls prog 413 [.ptr hid hv 0] S (λp S'=>p=zW l.length/\S'=S):=by
 obtain⟨ver,h1,cs,h2,hR⟩:=hs.h;refine vJ func413 rfl ntmps413 (congrArg Array.toList results413) DZ ?_;refine za (qH D3 D0 (za (yR [] D3 λK hK=>?_)));simp[h1];refine hK _ _ (zg ?_);simp[Zo,zW]
theorem ZmK{S:Store}{hid hv rid mid mv:Nat}{l:zJ Int}{g:Int->Option Nat}(hs:HS S hid hv rid mid mv l g)(i j:Nat)(hi:i<l.length)(hj:j<l.length):
  PCalls prog 414 [.ptr hid hv 0,zW i,zW j] S (λp S'=>p=wY (il qk (zE l i) (zE l j))/\S'=S):=by
 obtain⟨ver,h1,cs,h2,hR⟩:=hs.h;obtain⟨tl1,e1⟩:=hR.at i hi;obtain⟨tl2,e2⟩:=hR.at j hj;refine vJ func414 rfl ntmps414 (congrArg Array.toList results414) DZ ?_;refine za (qH D3 D0 (za ?_));refine Q6 (some [hid,rid]) (Row.pures [0,1,2,3,4,5,6,7,8,9,10,11,12,13] (.alt 14 (.alt 15 (.alt 16 (.alt 17 (.done) .stop) .stop) .stop) (.alt 15 (.alt 14 (.alt 16 (.alt 17 (.done) .stop) .stop) .stop) .stop))) mixed D3 D3 D3 λK hK=>?_
 have z1:hid≠rid:=hs.ne.1;have tail:∀(F:Nat->PV) (T:Store) (a b:Nat),F 7=.ptr a 0 0->F 8=.ptr b 0 0->T a=.cells 0 449 (yo (zE l i))->T b=.cells 0 449 (yo (zE l j))->Offd S [] T->K F T:=by
  intro F T a b f7 f8 ta tb hoff;have fin:∀o,S o=T o\/S o=.dead:=λo=>(hoff o DZ).imp Eq.symm id
  refine hK _ _ ?_;refine za (za (yR [] D3 λK' hK'=>?_));simp[f7,f8,ta,tb,yo];refine hK' _ _ (zv rfl (λhc=>?_) (λhc=>?_))
  ·refine za (yR [] D3 λK2 hK2=>?_);simp[f7,f8,ta,tb,yo];refine hK2 _ _ (zg ⟨_,S,rfl,⟨?_,rfl⟩,fin⟩);simp at hc;simp[il,hc,wY]
  ·refine zh (za (yR [] D3 λK2 hK2=>?_));simp[f7,f8,ta,tb,yo];refine hK2 _ _ (zg ⟨_,S,rfl,⟨?_,rfl⟩,fin⟩);simp at hc;simp[il,hc,wY]
 simp[h1,h2,hi,hj,e1,e2,zW];constructor
 ·refine Q7 rfl D0 DZ λa ha=>?_
  have n1:=ug h1 DZ ha;have n2:=ug h2 DZ ha;simp[h1,h2,w9,n1,n2];refine Q7 rfl D0 DZ λb hb=>?_
  have n3:=Zfz hb DZ;have n4:=ug h1 DZ n3.2;have n5:=ug h2 DZ n3.2;simp[h1,h2,w9,n1,n2,n3,n4,n5,n3.1.symm];exact tail _ _ a b rfl rfl (by simp[w9,n3.1,n3.1.symm,yo]) (by simp[w9,n3.1,n3.1.symm,yo]) (by repeat (first | exact Offd.refl _ _ | refine Offd.set ?_ (by first | exact .inr ha | exact .inr n3.2) _))
 ·refine Q7 rfl D0 DZ λa ha=>?_
  have n1:=ug h1 DZ ha;have n2:=ug h2 DZ ha;simp[h1,h2,w9,n1,n2];refine Q7 rfl D0 DZ λb hb=>?_
  have n3:=Zfz hb DZ;have n4:=ug h1 DZ n3.2;have n5:=ug h2 DZ n3.2;simp[h1,h2,w9,n1,n2,n3,n4,n5,n3.1.symm];exact tail _ _ b a rfl rfl (by simp[w9,n3.1,n3.1.symm,yo]) (by simp[w9,n3.1,n3.1.symm,yo]) (by repeat (first | exact Offd.refl _ _ | refine Offd.set ?_ (by first | exact .inr ha | exact .inr n3.2) _))
theorem ZmL{S:Store}{hid hv rid mid mv:Nat}{l:zJ Int}{g:Int->Option Nat}(hs:HS S hid hv rid mid mv l g)(i j:Nat)(hi:i<l.length)(hj:j<l.length):
  PCalls prog 417 [.ptr hid hv 0,zW i,zW j] S (λ_ S'=>Off S [hid,rid,mid] S'/\HS S' hid hv rid mid mv (swp l i j) (qT (qT g (zE (swp l i j) i).1 (some i)) (zE (swp l i j) j).1 (some j))):=by
 obtain⟨ver,h1,cs,h2,hR⟩:=hs.h;obtain⟨es,h3,h4⟩:=hs.m;obtain⟨z1,z2,z3⟩:=hs.ne;obtain⟨tl1,e1⟩:=hR.at i hi;obtain⟨tl2,e2⟩:=hR.at j hj;have b0:=hR.big;have b1:i*2+2<=cs.length:=DY
 have b2:j*2+2<=cs.length:=DY
 refine vJ func417 rfl ntmps417 (congrArg Array.toList results417) DZ ?_;refine za (Q6 (some [hid]) (Row.pures [0,1,2,3,4,5,6,7,8,9,10,11,12,13,14,15,17,18,19,20,21,22] (.alt 16 (.alt 23 (Row.pures [24] (.alt 25 (Row.pures [26] (.alt 27 (.done) .stop)) .stop)) .stop) (.alt 23 (.alt 16 (Row.pures [24] (.alt 25 (Row.pures [26] (.alt 27 (.done) .stop)) .stop)) .stop) .stop))) mixed D3 D3 D3 λK hK=>?_);have r1:=(hR.put i hi (zE l j)).put j (by simpa using hj) (zE l i);have hsw:(l.set i (zE l j)).set j (zE l i)=swp l i j:=rfl;rw[hsw]at r1;have hsl:(swp l i j).length=l.length:=uW l i j;have tail:∀(F:Nat->PV),F 0=.ptr hid hv 0->F 1=zW i->F 2=zW j->K F (S.set rid (.cells ver 449 (yg (yg cs (i*2) [.sc (.int .i64 (zE l j).1),.sc (.int .i64 (zE l j).2)]) (j*2) [.sc (.int .i64 (zE l i).1),.sc (.int .i64 (zE l i).2)]))):=by
  intro F f0 f1 f2;refine hK _ _ ?_;generalize hcs':yg (yg cs (i*2) [.sc (.int .i64 (zE l j).1),.sc (.int .i64 (zE l j).2)]) (j*2) [.sc (.int .i64 (zE l i).1),.sc (.int .i64 (zE l i).2)]=cs' at r1;obtain⟨tl1,e1⟩:=r1.at i DY;obtain⟨tl2,e2⟩:=r1.at j DY;have b0:=r1.big;have b1:i*2+2<=cs'.length:=DY
  have b2:j*2+2<=cs'.length:=DY
  have hT:Offd S [hid,rid,mid] (S.set rid (.cells ver 449 cs')):=(Offd.refl _ _).set (.inl DZ) _;have t1:S.set rid (.cells ver 449 cs') hid=_:=(jo _ _ _ _ z1).trans h1;have t2:S.set rid (.cells ver 449 cs') rid=_:=q11 _ _ _;have t3:S.set rid (.cells ver 449 cs') mid=_:=(jo _ _ _ _ (Ne.symm z3)).trans h3;generalize S.set rid (.cells ver 449 cs')=T at hT t1 t2 t3;obtain⟨res,m1,_,_,m2,_⟩:=h4.find (Jc .i64) (zE (swp l i j) i).1;refine za (Q6 (some [hid,rid]) (Row.pures [0,1,2,3,4,5,6,7,8,9,10,11,12] (.alt 13 (.done) .stop)) mixed D3 D3 D3 λK hK=>?_);simp -implicitDefEqProofs [f0,f1,f2,t1,t2,hi,hj,e1,e2,zW,b1,b2];refine YB (.inl rfl) underlying384 underlying3 rfl rfl rfl t3 m1 ?_;simp -implicitDefEqProofs [jo,z2,z3,t1,t2];refine hK _ _ ?_;clear hK;have u1:T.set mid (.map mv (qS (qP (zE (swp l i j) i).1) (zW i) es res)) hid=_:=(jo _ _ _ _ z2).trans t1;have u2:T.set mid (.map mv (qS (qP (zE (swp l i j) i).1) (zW i) es res)) rid=_:=(jo _ _ _ _ z3).trans t2;have u3:T.set mid (.map mv (qS (qP (zE (swp l i j) i).1) (zW i) es res)) mid=_:=q11 _ _ _;have hU:Offd S [hid,rid,mid] (T.set mid (.map mv (qS (qP (zE (swp l i j) i).1) (zW i) es res))):=hT.set (.inl DZ) _;have m3:=m2 i;obtain⟨res2,m4,_,_,m5,_⟩:=m3.find (Jc .i64) (zE (swp l i j) j).1
  show PW _ _ _ _ _ _ _ (T.set mid (.map mv (qS (qP (zE (swp l i j) i).1) (zW i) es res)))
  change MapIs qP ZbZ (qS (qP (zE (swp l i j) i).1) (zW i) es res) _ at m3;generalize T.set mid (.map mv (qS (qP (zE (swp l i j) i).1) (zW i) es res))=U at u1 u2 u3 hU;refine Q6 (some [hid,rid]) (Row.pures [0,1,2,3,4,5,6,7,8,9,10,11,12] (.alt 13 (.done) .stop)) mixed D3 D3 D3 λK hK=>?_
  simp -implicitDefEqProofs [f0,f1,f2,u1,u2,hi,hj,e1,e2,zW,b1,b2];refine YB (.inl rfl) underlying384 underlying3 rfl rfl rfl u3 m4 ?_;simp -implicitDefEqProofs [jo,z2,z3,u1,u2];refine hK _ _ ⟨_,_,rfl,⟨ZZ _ _ _,HS.cut ⟨⟨ver,?_,cs',?_,r1⟩,⟨_,?_,m5 j⟩,⟨z1,z2,z3⟩,?_⟩⟩,Z0 (hU.set (.inl DZ) _)⟩
  ·rw[jo _ _ _ _ z2,u1,hsl]
  ·rw[jo _ _ _ _ z3,u2]
  ·exact q11 _ _ _
  ·rw[hsl];exact hs.len
 simp -implicitDefEqProofs [h1,h2,hi,hj,e1,e2,zW,b1,b2,w9,z1];exact⟨tail _ rfl rfl rfl,tail _ rfl rfl rfl⟩
theorem ZmM:ElemOk prog 441 449 (.agg #[.int .i64 0,.int .i64 0]) 16 :=
 ⟨underlying441,by simp,by simp,by simp,by simp,by omega⟩
theorem ZmN{S:Store}{hid hv rid mid mv:Nat}{l:zJ Int}{g:Int->Option Nat}(hs:HS S hid hv rid mid mv l g)(x:Int × Int)(hn:l.length+1<=2147483648):
  PCalls prog 416 [.ptr hid hv 0,.ifc 449 (.agg (yo x))] S (λ_ S'=>Off S [hid,rid,mid] S'/\HS S' hid hv rid mid mv (l++[x]) (qT g x.1 (some l.length))):=by
 obtain⟨ver,h1,cs,h2,hR⟩:=hs.h;obtain⟨es,h3,h4⟩:=hs.m;obtain⟨z1,z2,z3⟩:=hs.ne;have b0:=hR.big;refine vJ func416 rfl ntmps416 (congrArg Array.toList results416) DZ ?_;refine za (yR [] D3 λK hK=>?_);simp -implicitDefEqProofs [yo];refine Zlh rfl underlying449 (by intro ms;simp) D0 (p:=.tup [.agg (yo x),.sc (.bool true)]) (by simp[Zby,yo]) ?_;simp -implicitDefEqProofs [yo];refine Q7 rfl D0 DZ λa ha=>?_
 simp -implicitDefEqProofs [yo];have n1:=ug h1 DZ ha;have n2:=ug h2 DZ ha;have n3:=ug h3 DZ ha;refine hK _ _ ?_;clear hK;have hT:Offd S [hid,rid,mid] (S.set a (.cells 0 449 (yo x))):=(Offd.refl _ _).set (.inr ha) _;have t1:S.set a (.cells 0 449 (yo x)) hid=_:=(jo _ _ _ _ n1).trans h1;have t2:S.set a (.cells 0 449 (yo x)) rid=_:=(jo _ _ _ _ n2).trans h2;have t3:S.set a (.cells 0 449 (yo x)) mid=_:=(jo _ _ _ _ n3).trans h3;have t4:S.set a (.cells 0 449 (yo x)) a=_:=q11 _ _ _
 show PW _ _ _ _ _ _ _ (S.set a (.cells 0 449 (yo x)))
 generalize S.set a (.cells 0 449 (yo x))=T at hT t1 t2 t3 t4;refine za (qH D3 D0 (zv rfl (λ_=>?_) (λh=>by simp at h)));obtain⟨res,m1,_,_,m2,_⟩:=h4.find (Jc .i64) x.1;refine za (Q6 (some [hid,a]) (Row.pures [0,1,2,3,4,5,6,7,8,9,10] (.alt 11 (.done) .stop)) mixed D3 D3 D3 λK hK=>?_);simp -implicitDefEqProofs [t1,t4,yo];refine YB (.inl rfl) underlying384 underlying3 rfl rfl rfl t3 m1 ?_;simp -implicitDefEqProofs [jo,z2,n3.symm,t1,t4,yo];refine hK _ _ ?_;clear hK;have m3:=m2 l.length;have u1:T.set mid (.map mv (qS (qP x.1) (zW l.length) es res)) hid=_:=(jo _ _ _ _ z2).trans t1;have u2:T.set mid (.map mv (qS (qP x.1) (zW l.length) es res)) rid=_:=(jo _ _ _ _ z3).trans t2;have u3:T.set mid (.map mv (qS (qP x.1) (zW l.length) es res)) mid=_:=q11 _ _ _;have u4:T.set mid (.map mv (qS (qP x.1) (zW l.length) es res)) a=_:=(jo _ _ _ _ n3.symm).trans t4;have hU:Offd S [hid,rid,mid] (T.set mid (.map mv (qS (qP x.1) (zW l.length) es res))):=hT.set (.inl DZ) _
 show PW _ _ _ _ _ _ _ (T.set mid (.map mv (qS (qP x.1) (zW l.length) es res)))
 change MapIs qP ZbZ (qS (qP x.1) (zW l.length) es res) _ at m3;generalize T.set mid (.map mv (qS (qP x.1) (zW l.length) es res))=U at u1 u2 u3 u4 hU;refine Q6 (some [a]) (Row.pures [0,1,2,3,5,6] (.alt 4 (.alt 7 (Row.pures [8,9] (.alt 10 (.done) .stop)) .stop) .stop)) mixed D3 D3 D3 λK hK=>?_
 simp -implicitDefEqProofs [u1,u4,yo];refine Zlb rfl ZmM D0 u2 (by simpa using b0) (m:=1) (ds:=yo x) (by simp[yo]) DY DY ?_;simp -implicitDefEqProofs [w9,z1,n1.symm,n2.symm,u1,u4,yo];have r1:RowIs (cs.take (l.length*2)++yo x) (l++[x]):=⟨[],by rw[hR.take];simp⟩;refine hK _ _ ⟨_,_,rfl,⟨ZZ _ _ _,HS.cut ⟨⟨ver+1,?_,_,?_,r1⟩,⟨_,?_,m3⟩,⟨z1,z2,z3⟩,?_⟩⟩,Z0 ((hU.set (.inl DZ) _).set (.inl DZ) _)⟩
 ·rw[Zbx];simp
 ·rw[jo _ _ _ _ z1.symm,Zbx];simp[yo]
 ·rw[jo _ _ _ _ z2.symm,jo _ _ _ _ z3.symm,u3]
 ·simp;omega
theorem ZmO{S:Store}{hid hv rid mid mv:Nat}{l:zJ Int}{g:Int->Option Nat}(x:Int × Int)(hs:HS S hid hv rid mid mv (l++[x]) g):
  PCalls prog 415 [.ptr hid hv 0] S (λp S'=>p=.ifc 449 (.agg (yo x))/\Off S [hid,rid,mid] S'/\HS S' hid hv rid mid mv l (qT g x.1 none)):=by
 obtain⟨ver,h1,cs,h2,hR⟩:=hs.h;obtain⟨es,h3,h4⟩:=hs.m;obtain⟨z1,z2,z3⟩:=hs.ne;have b0:=hR.big;have hlen:=hs.len;simp only[Ar,Ad,Ah,AQ]at h1 b0 hlen;refine vJ func415 rfl ntmps415 (congrArg Array.toList results415) DZ ?_;have hw:IntKind.i64.wrap (l.length:Int)=l.length:=ZV _ DY DY;obtain⟨tl,e1⟩:=hR.at l.length DZ;have ha:zE (l++[x]) l.length=x:=by simp[zE]
 rw[ha]at e1;refine za (qH D3 D0 (za (yR [] D3 λK hK=>?_)));simp -implicitDefEqProofs [h1,hw];refine hK _ _ ?_;clear hK;refine za (yR [] D3 λK hK=>?_);have hlt:(l.length:Int)<l.length+1:=DY
 have b1:l.length*2+2<=cs.length:=DY
 simp -implicitDefEqProofs [h1,h2,e1,hlt];refine Q7 rfl D0 DZ λa ha=>?_
 have n1:=ug h1 DZ ha;have n2:=ug h2 DZ ha;have n3:=ug h3 DZ ha;simp -implicitDefEqProofs;refine hK _ _ ?_;clear hK;refine za (yR [] D3 λK hK=>?_);simp -implicitDefEqProofs [w9,n1,n2,h1,h2,hlt,b1];refine hK _ _ ?_;clear hK;refine za (yR [] D3 λK hK=>?_);simp -implicitDefEqProofs [w9,n1,n2,z1,h1,h2,hlt,b1];refine hK _ _ ?_;clear hK;have r1:RowIs (yg cs (l.length*2) [.sc (.int .i64 0),.sc (.int .i64 0)]) l:=by
  obtain⟨rest,q⟩:=hR.put l.length DZ (0,0);exact⟨yo (0,0)++rest,by rw[q,BH _ _ (Ag _)];simp⟩
 have hT:Offd S [hid,rid,mid] (((S.set a (.cells 0 449 (yo x))).set rid (.cells ver 449 (yg cs (l.length*2) [.sc (.int .i64 0),.sc (.int .i64 0)]))).set hid (.cells hv 445 [.sl rid ver 2 0 l.length,.mp mid mv])) :=
  (((Offd.refl _ _).set (.inr ha) _).set (.inl DZ) _).set (.inl DZ) _
 have t1:(((S.set a (.cells 0 449 (yo x))).set rid (.cells ver 449 (yg cs (l.length*2) [.sc (.int .i64 0),.sc (.int .i64 0)]))).set hid (.cells hv 445 [.sl rid ver 2 0 l.length,.mp mid mv])) hid=.cells hv 445 [.sl rid ver 2 0 l.length,.mp mid mv]:=DZ
 have t2:(((S.set a (.cells 0 449 (yo x))).set rid (.cells ver 449 (yg cs (l.length*2) [.sc (.int .i64 0),.sc (.int .i64 0)]))).set hid (.cells hv 445 [.sl rid ver 2 0 l.length,.mp mid mv])) rid=.cells ver 449 (yg cs (l.length*2) [.sc (.int .i64 0),.sc (.int .i64 0)]):=by simp[w9,z1.symm]
 have t3:(((S.set a (.cells 0 449 (yo x))).set rid (.cells ver 449 (yg cs (l.length*2) [.sc (.int .i64 0),.sc (.int .i64 0)]))).set hid (.cells hv 445 [.sl rid ver 2 0 l.length,.mp mid mv])) mid=.map mv es:=by simp[w9,z2.symm,z3.symm,n3,h3]
 have t4:(((S.set a (.cells 0 449 (yo x))).set rid (.cells ver 449 (yg cs (l.length*2) [.sc (.int .i64 0),.sc (.int .i64 0)]))).set hid (.cells hv 445 [.sl rid ver 2 0 l.length,.mp mid mv])) a=.cells 0 449 (yo x):=by simp[w9,n1.symm,n2.symm]
 show PW _ _ _ _ _ _ _ (((S.set a (.cells 0 449 (yo x))).set rid (.cells ver 449 (yg cs (l.length*2) [.sc (.int .i64 0),.sc (.int .i64 0)]))).set hid (.cells hv 445 [.sl rid ver 2 0 l.length,.mp mid mv]))
 generalize (((S.set a (.cells 0 449 (yo x))).set rid (.cells ver 449 (yg cs (l.length*2) [.sc (.int .i64 0),.sc (.int .i64 0)]))).set hid (.cells hv 445 [.sl rid ver 2 0 l.length,.mp mid mv]))=T at hT t1 t2 t3 t4;obtain⟨res,m1,_,_,_,m2⟩:=h4.find (Jc .i64) x.1;refine za (Q6 (some [hid,a]) (Row.pures [0,1,2,3,4,5] (.alt 6 (.done) .stop)) mixed D3 D3 D3 λK hK=>?_);simp -implicitDefEqProofs [t1,t4,yo];refine Zlf rfl rfl underlying384 underlying3 rfl rfl rfl t3 m1 ?_;simp -implicitDefEqProofs [jo,z2,n3.symm,t1,t4,yo];refine hK _ _ ?_;clear hK;refine za (yR [] D3 λK hK=>?_);simp -implicitDefEqProofs [jo,z2,n3.symm,t1,t4,yo];refine hK _ _ (zg ⟨_,_,rfl,⟨rfl,ZZ _ _ _,HS.cut ⟨⟨ver,?_,_,?_,r1⟩,⟨_,?_,m2⟩,⟨z1,z2,z3⟩,?_⟩⟩,Z0 (hT.set (.inl DZ) _)⟩)
 ·rw[jo _ _ _ _ z2,t1]
 ·rw[jo _ _ _ _ z3,t2]
 ·exact Zbx _ _ _
 ·omega
open Go Hp
def HP(S:Store)(hid hv rid mid mv:Nat)(l:zJ Int):Prop:=∃g,HS S hid hv rid mid mv l g/\PosOk g l
theorem PosOk.inj{g:Int->Option Nat}{l:zJ Int}(h:PosOk g l){i j:Nat}(hi:i<l.length)(hj:j<l.length)(e:(zE l i).1=(zE l j).1):i=j:=by
 have h1:=h.here i hi;rw[e,h.here j hj]at h1
 simp_all
theorem PosOk.swp{g:Int->Option Nat}{l:zJ Int}(h:PosOk g l)(i j:Nat)(hi:i<l.length)(hj:j<l.length):PosOk (qT (qT g (zE (swp l i j) i).1 (some i)) (zE (swp l i j) j).1 (some j)) (swp l i j):=by
 have at':=λk=>XY l i j k hi hj
 have ei:(zE (Hp.swp l i j) i).1=(zE l j).1:=by
  rw[at' i]
  by_cases e:i=j
  ·rw[if_pos e,e]
  ·simp_all
 have ej:(zE (Hp.swp l i j) j).1=(zE l i).1:=by rw[at' j,if_pos rfl]
 rw[ei,ej];refine⟨λk hk=>?_,λid hid=>?_⟩
 ·rw[uW]at hk;rw[at' k];unfold qT
  by_cases k1:k=j
  ·simp_all
  ·rw[if_neg k1]
   by_cases k2:k=i
   ·rw[if_pos k2];rw[if_neg (λe=>k1 (by rw[k2];exact(h.inj hj hi e).symm)),if_pos rfl,k2]
   ·rw[if_neg k2,if_neg (λe=>k2 (h.inj hk hi e)),if_neg (λe=>k1 (h.inj hk hj e))];exact h.here k hk
 ·unfold qT;have q1:=hid i (by rw[uW];exact hi);have q2:=hid j (by rw[uW];exact hj);rw[ei]at q1;rw[ej]at q2;rw[if_neg (Ne.symm q2),if_neg (Ne.symm q1)];refine h.gone id λk hk e=>?_
  grind[uW]
theorem Wq(l:zJ Int)(x:Int × Int)(k:Nat)(hk:k<l.length):zE (l++[x]) k=zE l k:=by simp_all[zE,Aq]
theorem V1(l:zJ Int)(x:Int × Int):zE (l++[x]) l.length=x:=by simp[zE]
theorem PosOk.push{g:Int->Option Nat}{l:zJ Int}(h:PosOk g l)(x:Int × Int)(hx:g x.1=none):PosOk (qT g x.1 (some l.length)) (l++[x]):=by
 refine⟨λk hk=>?_,λid hid=>?_⟩
 ·simp only[Ar,Ad,Ah,AQ]at hk;unfold qT
  by_cases k1:k=l.length
  ·simp_all[V1]
  ·have hk':k<l.length:=DY
   rw[Wq l x k hk',if_neg]
   ·exact h.here k hk'
   ·intro e;have:=h.here k hk'
    simp_all
 ·have q:=hid l.length DZ;rw[V1]at q;unfold qT;rw[if_neg (Ne.symm q)];refine h.gone id λk hk=>?_
  have:=hid k D2
  simp_all[Wq]
theorem PosOk.pop{g:Int->Option Nat}{l:zJ Int}(x:Int × Int)(h:PosOk g (l++[x])):PosOk (qT g x.1 none) l:=by
 have hl:l.length<(l++[x]).length:=DZ
 refine⟨λk hk=>?_,λid hid=>?_⟩
 ·have hk':k<(l++[x]).length:=D2
  have:=h.here k hk';rw[Wq l x k hk]at this;unfold qT;rw[if_neg]
  ·omega
  ·intro e;have:=h.inj hk' hl (by simp_all[Wq,V1]);omega
 ·unfold qT
  by_cases e:id=x.1
  ·rw[if_pos e]
  ·rw[if_neg e];refine h.gone id λk hk=>?_
   grind[V1,Wq]
theorem ZfA : JT prog 447 "Len" 413 := by intro v w; kernel_rfl
theorem Zb0 : JT prog 447 "Less" 414 := by intro v w; kernel_rfl
theorem Zb1 : JT prog 447 "Swap" 417 := by intro v w; kernel_rfl
theorem ZmP : JT prog 447 "Push" 416 := by intro v w; kernel_rfl
theorem ZmQ : JT prog 447 "Pop" 415 := by intro v w; kernel_rfl
abbrev hI(hid hv:Nat):PV:=.ifc 447 (.ptr hid hv 0)
theorem HP.len{S:Store}{hid hv rid mid mv:Nat}{l:zJ Int}(h:HP S hid hv rid mid mv l):l.length<=2147483648:=by obtain⟨g,h,_⟩:=h;exact h.len
theorem HP.cut{S T:Store}{hid hv rid mid mv:Nat}{l:zJ Int}(h:HP T hid hv rid mid mv l):HP (cut S [hid,rid,mid] T) hid hv rid mid mv l:=by obtain⟨g,h,k⟩:=h;exact⟨g,h.cut,k⟩
theorem ZfB{S:Store}{hid hv rid mid mv:Nat}{l:zJ Int}(h:HP S hid hv rid mid mv l):PCalls prog 413 [.ptr hid hv 0] S (λp S'=>p=zW l.length/\S'=S):=by
 obtain⟨g,h,_⟩:=h;exact ZmJ h
theorem Zb2{S:Store}{hid hv rid mid mv:Nat}{l:zJ Int}(h:HP S hid hv rid mid mv l)(i j:Nat)(hi:i<l.length)(hj:j<l.length):PCalls prog 414 [.ptr hid hv 0,zW i,zW j] S (λp S'=>p=wY (il qk (zE l i) (zE l j))/\S'=S):=by
 obtain⟨g,h,_⟩:=h;grind[ZmK]
theorem Zb3{S:Store}{hid hv rid mid mv:Nat}{l:zJ Int}(h:HP S hid hv rid mid mv l)(i j:Nat)(hi:i<l.length)(hj:j<l.length):PCalls prog 417 [.ptr hid hv 0,zW i,zW j] S (λ_ S'=>Off S [hid,rid,mid] S'/\HP S' hid hv rid mid mv (swp l i j)):=by
 obtain⟨g,h,k⟩:=h;exact(ZmL h i j hi hj).mono λp S' q=>⟨q.1,_,q.2,k.swp i j hi hj⟩
theorem ZmR{S:Store}{hid hv rid mid mv:Nat}{l:zJ Int}(h:HP S hid hv rid mid mv l)(x:Int × Int)(hx:∀i,i<l.length->(zE l i).1≠x.1)(hn:l.length+1<=2147483648):PCalls prog 416 [.ptr hid hv 0,.ifc 449 (.agg (yo x))] S (λ_ S'=>Off S [hid,rid,mid] S'/\HP S' hid hv rid mid mv (l++[x])):=by
 obtain⟨g,h,k⟩:=h;exact(ZmN h x hn).mono λp S' q=>⟨q.1,_,q.2,k.push x (k.gone _ hx)⟩
theorem ZmS{S:Store}{hid hv rid mid mv:Nat}{l:zJ Int}(x:Int × Int)(h:HP S hid hv rid mid mv (l++[x])):PCalls prog 415 [.ptr hid hv 0] S (λp S'=>p=.ifc 449 (.agg (yo x))/\Off S [hid,rid,mid] S'/\HP S' hid hv rid mid mv l):=by
 obtain⟨g,h,k⟩:=h;exact(ZmO x h).mono λp S' q=>⟨q.1,q.2.1,_,q.2.2,k.pop x⟩
theorem ZmT(j:Nat):((j:Int)-1).tdiv 2=(ye j:Nat):=by grind[ye]
theorem ZfC{S:Store}{hid hv rid mid mv:Nat}{l:zJ Int}(h:HP S hid hv rid mid mv l)(j:Nat)(hj:j<l.length):
  PCalls prog 377 [hI hid hv,zW j] S (λ_ S'=>Off S [hid,rid,mid] S'/\HP S' hid hv rid mid mv (wW qk (j+1) l j)):=by
 refine vJ func377 rfl ntmps377 (congrArg Array.toList results377) DZ ?_;refine zj (Zbm (λF S' m=>∃(lc:zJ Int) (jc:Nat),m=jc/\jc<lc.length/\F 0=hI hid hv/\F 1=zW jc/\Off S [hid,rid,mid] S'/\HP S' hid hv rid mid mv lc/\wW qk (jc+1) lc jc=wW qk (j+1) l j) j ⟨l,j,rfl,hj,rfl,rfl,λ_ _=>rfl,h,rfl⟩ ?_);rintro jc F T ⟨lc,_,rfl,hjc,f0,f1,hoff,hp,hup⟩;have hlen:=hp.len;have w1:IntKind.i64.wrap ((jc:Int)-1)=(jc:Int)-1:=ZV _ DY DY;have hpar:ye jc<=jc:=by unfold ye;omega
 have w2:IntKind.i64.wrap (ye jc:Int)=ye jc:=ZV _ DY DY;refine zj (za (yR [] D3 λK hK=>?_));simp -implicitDefEqProofs [f0,f1,zW,w1,ZmT,w2];refine hK _ _ ?_;clear hK
 by_cases hc:ye jc=jc
 ·refine za (za (yR [] D3 λK hK=>?_));simp -implicitDefEqProofs [f0,f1,zW,hc];refine hK _ _ (zv rfl (λ_=>zx ?_) (λq=>by simp at q));refine⟨_,_,rfl,⟨ZZ _ _ _,?_⟩,Z0 hoff.offd⟩;rw[<-hup];unfold wW;rw[if_pos (.inl hc)];exact hp.cut
 ·refine za (za (yR [] D3 λK hK=>?_));have hc':¬((ye jc:Nat):Int)=jc:=DY
  simp -implicitDefEqProofs [f0,f1,zW,hc,hc'];refine ZX rfl rfl rfl Zb0 ZbN (by exact Zb2 hp jc (ye jc) hjc (by omega)) λp S' hq=>?_
  obtain⟨rfl,rfl⟩:=hq;simp -implicitDefEqProofs [wY];refine hK _ _ ?_;clear hK;cases hl:il qk (zE lc jc) (zE lc (ye jc)) with
  | false =>
   refine zv rfl (λ_=>zx ?_) (λq=>by simp at q);refine⟨_,_,rfl,⟨ZZ _ _ _,?_⟩,Z0 hoff.offd⟩;rw[<-hup];unfold wW;rw[if_pos (.inr hl)];exact hp.cut
  | true =>
   refine zv rfl (λq=>by simp at q) (λ_=>zh (za (yR [] D3 λK hK=>?_)));simp -implicitDefEqProofs [f0,f1,zW];refine ZX rfl rfl rfl Zb1 ZbO (by exact Zb3 hp (ye jc) jc (by omega) hjc) λp S' hq=>?_
   obtain⟨hq1,hq2⟩:=hq;refine hK _ _ ?_;clear hK;refine qH D3 D0 ?_;refine⟨ye jc,⟨swp lc (ye jc) jc,ye jc,rfl,by rw[uW];omega,f0,by rfl,hoff.trans hq1,hq2,?_⟩,by omega⟩
   grind[wW,Zku]
theorem ZmU{S:Store}{hid hv rid mid mv:Nat}{l:zJ Int}(h:HP S hid hv rid mid mv l)(i n:Nat)(hi:i<n)(hn:n<=l.length):
  PCalls prog 380 [hI hid hv,zW i,zW n] S (λp S'=>p=wY (decide (i<(qp qk n l i n).2))/\Off S [hid,rid,mid] S'/\HP S' hid hv rid mid mv (qp qk n l i n).1):=by
 refine vJ func380 rfl ntmps380 (congrArg Array.toList results380) DZ ?_;refine za (qH D3 D0 (za (qH D3 D0 (za ?_))));refine X5 (Q:=λe F T=>e=.normal/\F 1=zW i/\F 7=zW (qp qk n l i n).2/\Off S [hid,rid,mid] T/\HP T hid hv rid mid mv (qp qk n l i n).1) (zj (Zbm (λF S' m=>∃(lc:zJ Int) (ic:Nat),m=n-ic/\ic<n/\n<=lc.length/\F 0=hI hid hv/\F 1=zW i/\F 2=zW n/\F 7=zW ic/\Off S [hid,rid,mid] S'/\HP S' hid hv rid mid mv lc/\qp qk n lc ic n=qp qk n l i n) (n-i) ⟨l,i,rfl,hi,hn,rfl,rfl,rfl,rfl,λ_ _=>rfl,h,rfl⟩ ?_)) ?_
 rotate_left
 ·rintro e F T ⟨rfl,f1,f7,hoff,hp⟩;refine za (yR [] D3 λK hK=>?_);simp -implicitDefEqProofs [f1,f7,zW];refine hK _ _ (zg ⟨_,_,rfl,⟨?_,ZZ _ _ _,hp.cut⟩,Z0 hoff.offd⟩);simp[wY]
 rintro _ F T ⟨lc,ic,rfl,hic,hnl,f0,f1,f2,f7,hoff,hp,hdown⟩;have hlen:=hp.len;have w1:IntKind.i64.wrap (2*(ic:Int))=2*(ic:Int):=ZV _ DY DY;have w2:IntKind.i64.wrap (2*(ic:Int)+1)=((2*ic+1:Nat):Int):=by rw[ZV _ DY DY];omega
 have w3:IntKind.i64.wrap (((2*ic+1:Nat):Int)+1)=((2*ic+2:Nat):Int):=by rw[ZV _ DY DY];omega
 refine zj (za (yR [] D3 λK hK=>?_));simp -implicitDefEqProofs only [f0,f1,f7,zW,w1,w2];generalize hk1:2*ic+1=k1 at w2 w3;simp -implicitDefEqProofs [f0,f1,f7,zW,w1,w2];refine hK _ _ ?_;clear hK
 by_cases hc:n<=k1
 ·refine za (za (yR [] D3 λK hK=>?_));have hc':(n:Int)<=k1:=DY
  simp -implicitDefEqProofs [f0,f1,f2,f7,zW,hc,hc'];refine hK _ _ (zv rfl (λ_=>zx ?_) (λq=>by simp at q));have hd:qp qk n lc ic n=(lc,ic):=by
   cases n with
   | zero=>omega
   | succ n=>unfold qp;rw[if_pos DY]
  rw[hdown]at hd
  simp_all
 ·refine za (za (yR [] D3 λK hK=>?_));have hc':¬(n:Int)<=k1:=DY
  have hc2:¬(k1:Int)<0:=DY
  simp -implicitDefEqProofs [f0,f1,f2,f7,zW,hc',hc2];refine hK _ _ (zv rfl (λq=>by simp at q) (λ_=>zh ?_));clear hK;refine za (qH D3 D0 ?_);obtain⟨c1,c2,c3,c4,c5⟩:=Zd9 Zu lc ic n DY;have hkd:jK qk lc ic n<lc.length:=DY
  refine za (X5 (Q:=λe F' T'=>e=.normal/\T'=T/\F' 0=hI hid hv/\F' 1=zW i/\F' 2=zW n/\F' 7=zW ic/\F' 9=zW (jK qk lc ic n)) ?_ ?_)
  ·generalize hk2:2*ic+2=k2 at w3;refine za (yR [] D3 λK hK=>?_);simp -implicitDefEqProofs [f0,f1,f2,f7,zW,w3];refine hK _ _ ?_;clear hK
   by_cases h2:k2<n
   ·refine za (yR [] D3 λK hK=>?_);have h2':(k2:Int)<n:=DY
    simp -implicitDefEqProofs [f0,f1,f2,f7,zW,h2,h2'];refine ZX rfl rfl rfl Zb0 ZbN (by exact Zb2 hp k2 k1 (by omega) (by omega)) λp S' hq=>?_
    obtain⟨rfl,rfl⟩:=hq;simp -implicitDefEqProofs [wY];refine hK _ _ ?_;clear hK;cases hl:il qk (zE lc k2) (zE lc k1) with
    | true =>
     refine zv rfl (λ_=>qH D3 D0 ?_) (λq=>by simp at q);refine⟨rfl,rfl,f0,f1,f2,f7,?_⟩;unfold jK;rw[hk1,hk2,if_pos ⟨h2,hl⟩];rfl
    | false =>
     refine zv rfl (λq=>by simp at q) (λ_=>zh ⟨rfl,rfl,f0,f1,f2,f7,?_⟩);unfold jK;rw[hk1,hk2,if_neg (by rw[hl];simp)];rfl
   ·refine za (yR [] D3 λK hK=>?_);have h2':¬(k2:Int)<n:=DY
    simp -implicitDefEqProofs [f0,f1,f2,f7,zW,h2,h2'];refine hK _ _ (zv rfl (λq=>by simp at q) (λ_=>zh ⟨rfl,rfl,f0,f1,f2,f7,?_⟩));unfold jK;rw[hk1,hk2,if_neg (λq=>h2 q.1)];rfl
  ·clear f0 f1 f2 f7 F;rintro e F S' ⟨rfl,rfl,f0,f1,f2,f7,f9⟩;have hstep:qp qk n lc ic n=if il qk (zE lc (jK qk lc ic n)) (zE lc ic)=false then (lc,ic) else qp qk n (swp lc ic (jK qk lc ic n)) (jK qk lc ic n) n:=by
    cases n with
    | zero=>omega
    | succ n =>
     grind[qp,Zkw]
   rw[hdown]at hstep;generalize hkk:jK qk lc ic n=kk at *;refine za (za (yR [] D3 λK hK=>?_));simp -implicitDefEqProofs [f0,f1,f2,f7,f9,zW];refine ZX rfl rfl rfl Zb0 ZbN (by exact Zb2 hp kk ic (by omega) (by omega)) λp S' hq=>?_
   obtain⟨rfl,rfl⟩:=hq;simp -implicitDefEqProofs [wY];refine hK _ _ ?_;clear hK;cases hl:il qk (zE lc kk) (zE lc ic) with
   | false =>
    rw[if_pos hl]at hstep;refine zv rfl (λ_=>zx ⟨rfl,f1,?_,hoff,?_⟩) (λq=>by simp at q)<;>simp_all
   | true =>
    rw[if_neg (by rw[hl];simp)]at hstep;refine zv rfl (λq=>by simp at q) (λ_=>zh (za (yR [] D3 λK hK=>?_)));simp -implicitDefEqProofs [f0,f1,f2,f7,f9,zW];refine ZX rfl rfl rfl Zb1 ZbO (by exact Zb3 hp ic kk (by omega) hkd) λp S' hq=>?_
    obtain⟨hq1,hq2⟩:=hq;refine hK _ _ ?_;clear hK;refine qH D3 (by simp[f9];rfl) ?_;refine⟨n-kk,⟨swp lc ic kk,kk,rfl,c2,by simp_all[uW],f0,f1,f2,rfl,hoff.trans hq1,hq2,hstep.symm⟩,by omega⟩
end Go.Proofs.YtcocagkbfpgmiaaGreatDoor.Pv
namespace Go.Proofs.YtcocagkbfpgmiaaGreatDoor.Hp
section
variable {α:Type} [DecidableEq α] [Inhabited α] {lt:α->α->Bool}
def Z1(lt:α->α->Bool)(l:zJ α)(i n:Nat):zJ α:=if i<(qp lt n l i n).2 then (qp lt n l i n).1 else wW lt (i+1) (qp lt n l i n).1 i
theorem ZmV(h:Str lt)(l:zJ α)(i n:Nat)(hn:n<=l.length)(hi:i<n)(inv:DownInv lt l n i):Zm lt (Z1 lt l i n) n/\(Z1 lt l i n).Perm l/\(Z1 lt l i n).length=l.length/\∀k,n<=k->zE (Z1 lt l i n) k=zE l k:=by
 obtain⟨q1,q2,q3,q4,q5,q6,q7⟩:=Zea h n l n i hn hi DY inv;unfold Z1;split
 ·rename_i hm;exact⟨q6 hm,q1,q2,q3⟩
 ·rename_i hm;obtain⟨r1,r2⟩:=q7 DY;rw[r1];exact Zd8 h (i+1) l n i hn hi DY ⟨r2,inv.kids⟩
theorem ZmW{l:zJ α}(x:Int × α)(h:Zm lt l l.length):UpInv lt (l++[x]) (l.length+1) l.length:=by
 have ap:∀k,k<l.length->zE (l++[x]) k=zE l k:=λk hk=>by
  unfold zE;rw[Aa,Aa,Aq hk]
 refine⟨λk k0 kn kj=>?_,λk k0 kn kp j0=>?_⟩
 ·have:=uA k0;rw[ap k DY,ap (ye k) DY];exact h k k0 DY
 ·have:=uA k0;omega
theorem ZmX(hs:Str lt){l:zJ α}(i n:Nat)(hi:i<n)(hn:n+1=l.length)(h:Zm lt l l.length):DownInv lt (swp l i n) n i:=by
 have at':=λk=>XY l i n k DY DY
 refine⟨λk k0 kn kp ki=>?_,λk k0 kn kp i0=>?_⟩
 ·have:=uA k0;rw[at' k,at' (ye k),if_neg DY,if_neg ki,if_neg DY,if_neg kp];exact h k k0 DY
 ·have:=uA k0;have:=uA i0;rw[at' k,at' (ye i),if_neg DY,if_neg DY,if_neg DY,if_neg DY];have e1:=h k k0 DY;rw[kp]at e1;exact XZ hs e1 (h i i0 DY)
theorem ZmY{l:zJ α}(n:Nat)(h:Zm lt l n):Zm lt (l.take n) n:=by
 intro k k0 kn;have:=uA k0;have e:∀j,j<n->zE (l.take n) j=zE l j:=λj hj=>by
  unfold zE;rw[Aa,Aa,BK,if_pos hj]
 rw[e k kn,e (ye k) DY];exact h k k0 kn
end
theorem ZmZ{α:Type}[Inhabited α](l:zJ α)(n:Nat)(hn:n+1=l.length):l=l.take n++[zE l n]:=by
 apply AY;intro k;rw[List.getElem?_append]
 by_cases h1:k<n
 ·rw[if_pos D2,BK,if_pos h1]
 ·rw[if_neg D2]
  by_cases h2:k=n
  ·subst h2;have:k<l.length:=DY
   simp[zE,this,Bk (DX this)]
  ·rw[Ak DY,Ak D2]
end Go.Proofs.YtcocagkbfpgmiaaGreatDoor.Hp
namespace Go.Proofs.YtcocagkbfpgmiaaGreatDoor.Pv
open Go Hp
def HH(S:Store)(hid hv rid mid mv:Nat)(l:zJ Int):Prop:=HP S hid hv rid mid mv l/\Zm qk l l.length
theorem HH.cut{S T:Store}{hid hv rid mid mv:Nat}{l:zJ Int}(h:HH T hid hv rid mid mv l):HH (cut S [hid,rid,mid] T) hid hv rid mid mv l:=⟨h.1.cut,h.2⟩
theorem Zm0{S:Store}{hid hv rid mid mv:Nat}{l:zJ Int}(h:HH S hid hv rid mid mv l)(x:Int × Int)(hx:∀i,i<l.length->(zE l i).1≠x.1)(hn:l.length+1<=2147483648):
  PCalls prog 367 [hI hid hv,.ifc 449 (.agg (yo x))] S (λ_ S'=>Off S [hid,rid,mid] S'/\∃l',HH S' hid hv rid mid mv l'/\l'.Perm (x :: l)):=by
 obtain⟨hp,hh⟩:=h;refine vJ func367 rfl ntmps367 (congrArg Array.toList results367) DZ ?_;refine za (yR [] D3 λK hK=>?_);simp -implicitDefEqProofs;refine ZX rfl rfl rfl ZmP Zma (by exact ZmR hp x hx hn) λp S1 hq=>?_
 obtain⟨o1,p1⟩:=hq;refine hK _ _ ?_;clear hK;refine yR [] D3 λK hK=>?_
 simp -implicitDefEqProofs;refine ZX rfl rfl rfl ZfA Ze2 (by exact ZfB p1) λp S2 hq=>?_
 obtain⟨rfl,rfl⟩:=hq;have w1:IntKind.i64.wrap (l.length:Int)=l.length:=ZV _ DY DY;simp -implicitDefEqProofs [zW,w1];obtain⟨q1,q2,q3,_⟩:=Zd8 Zu (l.length+1) (l++[x]) (l.length+1) l.length DZ DY DY (ZmW x hh);refine Q4 rfl rfl rfl Ze1 (by exact ZfC p1 l.length (by simp)) λp S3 hq=>?_
 obtain⟨o3,p3⟩:=hq;refine hK _ _ ⟨_,_,rfl,⟨ZZ _ _ _,_,HH.cut ⟨p3,?_⟩,q2.trans (CY (l₁:=l) (l₂:=[x]))⟩,Z0 (o1.trans o3).offd⟩;rw[q3];simpa using q1
theorem Zm1{S:Store}{hid hv rid mid mv:Nat}{l:zJ Int}(h:HH S hid hv rid mid mv l)(i:Nat)(hi:i<l.length):
  PCalls prog 378 [hI hid hv,zW i] S (λp S'=>p=.ifc 449 (.agg (yo (zE l i)))/\Off S [hid,rid,mid] S'/\∃l',HH S' hid hv rid mid mv l'/\(zE l i :: l').Perm l):=by
 obtain⟨hp,hh⟩:=h;have hlen:=hp.len;obtain⟨n,hn⟩:∃n,n+1=l.length:=⟨l.length-1,by omega⟩;refine vJ func378 rfl ntmps378 (congrArg Array.toList results378) DZ ?_;refine za (qH D3 D0 (za (yR [] D3 λK hK=>?_)));simp -implicitDefEqProofs;refine ZX rfl rfl rfl ZfA Ze2 (by exact ZfB hp) λp S2 hq=>?_
 obtain⟨rfl,rfl⟩:=hq;have w1:IntKind.i64.wrap ((l.length:Int)-1)=n:=by rw[ZV _ DY DY];omega
 simp -implicitDefEqProofs [zW,w1];refine hK _ _ ?_;clear hK;refine za (X5 (Q:=λe F' T'=>e=.normal/\F' 0=hI hid hv/\Off S2 [hid,rid,mid] T'/\∃l3:zJ Int,HP T' hid hv rid mid mv l3/\Zm qk l3 n/\l3.Perm l/\l3.length=l.length/\zE l3 n=zE l i) ?_ ?_)
 ·refine za (qH D3 (by simp[zW];rfl) ?_)
  by_cases hc:n=i
  ·refine zv rfl (λq=>by simp[hc]at q) (λ_=>zh ⟨rfl,rfl,λ_ _=>rfl,l,hp,λk k0 kn=>hh k k0 DY,.refl _,rfl,by rw[hc]⟩)
  ·have hc':¬(n:Int)=i:=DY
   refine zv rfl (λ_=>?_) (λq=>by simp[hc']at q);refine za (yR [] D3 λK hK=>?_);simp -implicitDefEqProofs [zW];refine ZX rfl rfl rfl Zb1 ZbO (by exact Zb3 hp i n (by omega) (by omega)) λp S3 hq=>?_
   obtain⟨o3,p3⟩:=hq;refine hK _ _ ?_;clear hK;have inv:=ZmX Zu i n DY hn hh;have hsl:=uW l i n;obtain⟨s1,s2,s3,s4⟩:=ZmV Zu (swp l i n) i n DY DY inv;have hlast:zE (Z1 qk (swp l i n) i n) n=zE l i:=by rw[s4 n (Ag _),XY l i n n hi DY,if_pos rfl]
   refine za (yR [] D3 λK hK=>?_);simp -implicitDefEqProofs [zW];refine Q4 rfl rfl rfl Zl8 (by exact ZmU p3 i n (by omega) (by omega)) λp S4 hq=>?_
   obtain⟨rfl,o4,p4⟩:=hq;simp -implicitDefEqProofs [wY];refine hK _ _ ?_;clear hK
   by_cases hm:i<(qp qk n (swp l i n) i n).2
   ·refine zv rfl (λq=>by simp at q;omega) (λ_=>zh ⟨rfl,rfl,o3.trans o4,Z1 qk (swp l i n) i n,?_,s1,s2.trans (W9 l _ _ hi DY),s3.trans hsl,hlast⟩);unfold Z1;rw[if_pos hm];exact p4
   ·refine zv rfl (λ_=>?_) (λq=>by simp at q;omega);refine yR [] D3 λK hK=>?_
    simp -implicitDefEqProofs [zW];have hdl:(qp qk n (swp l i n) i n).1.length=l.length:=((Zea Zu n (swp l i n) n i DY DY DY inv).2.1).trans hsl;refine Q4 rfl rfl rfl Ze1 (by exact ZfC p4 i (by omega)) λp S5 hq=>?_
    obtain⟨o5,p5⟩:=hq;refine hK _ _ ⟨rfl,rfl,(o3.trans o4).trans o5,Z1 qk (swp l i n) i n,?_,s1,s2.trans (W9 l _ _ hi DY),s3.trans hsl,hlast⟩;unfold Z1;rw[if_neg hm];exact p5
 ·rintro e F T ⟨rfl,f0,hoff,l3,p3,h3,pm,hl3,hx⟩;have hsp:=ZmZ l3 n DY;rw[hx]at hsp;rw[hsp]at p3 pm;refine za (yR [] D3 λK hK=>?_);simp -implicitDefEqProofs [f0];refine ZX rfl rfl rfl ZmQ Zl9 (by exact ZmS _ p3) λp S4 hq=>?_
  obtain⟨rfl,o4,p4⟩:=hq;have hheap:Zm qk (l3.take n) (l3.take n).length:=by
   have e:(l3.take n).length=n:=D2
   rw[e];exact ZmY n h3
  refine hK _ _ (zg ⟨_,_,rfl,⟨rfl,ZZ _ _ _,_,HH.cut ⟨p4,hheap⟩,?_⟩,Z0 (hoff.trans o4).offd⟩);exact(CY (l₁:=[zE l i]) (l₂:=l3.take n)).trans pm
open Go Hp
abbrev uh(a b:Int × Int):Bool:=il qk a b
def ui(r:zJ Int):Prop:=r.Pairwise (λa b=>uh a b=true)
def Z2(x:Int × Int):zJ Int->zJ Int
 | []=>[x]
 | y :: r=>if uh x y=true then x :: y :: r else y :: Z2 x r
def YG(id:Int)(r:zJ Int):zJ Int:=r.filter λx=>decide (x.1≠id)
def xe(id:Int)(r:zJ Int):Bool:=r.any λx=>decide (x.1=id)
theorem Wr(x:Int × Int):∀r,(Z2 x r).Perm (x :: r)
 | []=>.refl _
 | y :: r=>by
  unfold Z2;split
  ·exact .refl _
  ·exact((Wr x r).cons y).trans (.swap x y r)
theorem Zm2{a b c:Int × Int}(h1:uh a b=true)(h2:uh b c=true):uh a c=true:=(Yt Zu).tr _ _ _ h1 h2
theorem Zm3{a b:Int × Int}(h:uh a b=false)(hne:a.1≠b.1):uh b a=true:=by
 cases hq:uh b a with
 | true=>rfl
 | false=>exact absurd (congrArg Prod.fst ((Yt Zu).tot _ _ h hq)) hne
theorem ZfD(x:Int × Int):∀r,ui r->(∀y∈r,y.1≠x.1)->ui (Z2 x r)
 | [],_,_=>by simp[Z2,ui]
 | y :: r,h,hx=>by
  unfold Z2;have h':=Bb.1 h;split
  ·rename_i hl;refine Bb.2 ⟨λz hz=>?_,h⟩;rcases As.1 hz with rfl | hz
   ·exact hl
   ·exact Zm2 hl (h'.1 z hz)
  ·rename_i hl;have hl':uh x y=false:=by simpa using hl
   refine Bb.2 ⟨λz hz=>?_,ZfD x r h'.2 λz hz=>hx z (CA _ hz)⟩;rcases As.1 ((Wr x r).subset hz) with rfl | hz
   ·exact Zm3 hl' (Ne.symm (hx y DZ))
   ·exact h'.1 z hz
theorem Zm4(id:Int)(r:zJ Int)(h:ui r):ui (YG id r):=List.Pairwise.filter _ h
def HM(S:Store)(hid hv rid mid mv:Nat)(r:zJ Int):Prop:=∃l,HH S hid hv rid mid mv l/\l.Perm r/\ui r
theorem HM.cut{S T:Store}{hid hv rid mid mv:Nat}{r:zJ Int}(h:HM T hid hv rid mid mv r):HM (cut S [hid,rid,mid] T) hid hv rid mid mv r:=by obtain⟨l,h,k⟩:=h;exact⟨l,h.cut,k⟩
theorem Zb4{l:zJ Int}{i:Nat}(hi:i<l.length):zE l i∈l:=by
 have:zE l i=l[i]:=by unfold zE;simp[hi]
 rw[this];exact A6 hi
theorem Zb5{l:zJ Int}{x:Int × Int}(h:x∈l):∃i,i<l.length/\zE l i=x:=by
 obtain⟨i,hi,rfl⟩:=List.getElem_of_mem h;exact⟨i,hi,by unfold zE;simp[hi]⟩
theorem HS.look{S:Store}{hid hv rid mid mv:Nat}{l:zJ Int}{g:Int->Option Nat}(h:HS S hid hv rid mid mv l g)(k:PosOk g l)(id:Int):∃es res,S mid=.map mv es/\jd (.int .i64) (qP id) es 0=some res /\
  ((xe id l=false/\ZW true (.int .i64 0) res=.tup [zW 0,.sc (.bool false)])\/(xe id l=true/\∃i,i<l.length/\(zE l i).1=id/\ZW true (.int .i64 0) res=.tup [zW i,.sc (.bool true)])):=by
 obtain⟨es,h3,h4⟩:=h.m;obtain⟨res,m1,m2,m3,_,_⟩:=h4.find (Jc .i64) id;refine⟨es,res,h3,m1,?_⟩
 by_cases hi:∃i,i<l.length/\(zE l i).1=id
 ·obtain⟨i,hi,e⟩:=hi;refine .inr ⟨?_,i,hi,e,?_⟩
  ·simp only[xe,BT];exact⟨_,Zb4 hi,by simpa using e⟩
  ·obtain⟨j,rfl⟩:=m3 i (by rw[<-e];exact k.here i hi);rfl
 ·refine .inl ⟨?_,?_⟩
  ·simp only[xe,Cf];intro x hx;obtain⟨i,hi',rfl⟩:=Zb5 hx;simp;exact λe=>hi ⟨i,hi',e⟩
  ·have:=m2 (k.gone id λi hi' e=>hi ⟨i,hi',e⟩);subst this;rfl
theorem Zb6{id:Int}{l r:zJ Int}(h:l.Perm r):xe id l=xe id r:=by
 unfold xe;rw[DI,BT,BT];exact⟨λ⟨x,hx,e⟩=>⟨x,h.subset hx,e⟩,λ⟨x,hx,e⟩=>⟨x,h.symm.subset hx,e⟩⟩
theorem Zm5{S:Store}{hid hv rid mid mv:Nat}{r:zJ Int}(h:HM S hid hv rid mid mv r)(id w:Int)(hn:r.length+1<=2147483648):
  PCalls prog 348 [.ptr hid hv 0,zW id,zW w] S (λp S'=>p=wY (!xe id r)/\Off S [hid,rid,mid] S'/\HM S' hid hv rid mid mv (bif xe id r then r else Z2 (id,w) r)):=by
 obtain⟨l,⟨hp,hh⟩,pm,hs⟩:=h;have hp0:=hp;obtain⟨g,hS,hk⟩:=hp0;obtain⟨ver,h1,cs,h2,hR⟩:=hS.h;obtain⟨es,res,h3,h4,h5⟩:=hS.look hk id;refine vJ func348 rfl ntmps348 (congrArg Array.toList results348) DZ ?_;refine za (qH D3 D0 (za (za (yR [] D3 λK hK=>?_))));simp -implicitDefEqProofs [h1];refine Zp rfl underlying384 underlying3 rfl rfl rfl h3 h4 D0 ?_;rcases h5 with ⟨h5,h6⟩ | ⟨h5,i,hi,hid,h6⟩
 ·rw[h6];simp -implicitDefEqProofs;refine hK _ _ ?_;clear hK;refine za (qH D3 D0 (zv rfl (λq=>by simp at q) (λ_=>zh ?_)));refine za (yR [] D3 λK hK=>?_);simp -implicitDefEqProofs [zW];have hx:∀i,i<l.length->(zE l i).1≠id:=by
   intro i hi e;have:xe id l=true:=by
    simp only[xe,BT];exact⟨_,Zb4 hi,by simpa using e⟩
   rw[h5]at this;cases this
  refine Q4 rfl rfl rfl Zl4 (by exact Zm0 ⟨hp,hh⟩ (id,w) hx (by rw[pm.length_eq];exact hn)) λp S3 hq=>?_
  obtain⟨o3,l',hh',pm'⟩:=hq;refine hK _ _ ?_;clear hK;refine za (qH D3 D0 (zg ?_));rw[<-Zb6 pm,h5];refine⟨_,_,rfl,⟨rfl,ZZ _ _ _,HM.cut ⟨l',hh',pm'.trans (((List.Perm.cons _ pm)).trans (Wr _ _).symm),ZfD _ _ hs λy hy e=>?_⟩⟩,Z0 o3.offd⟩;obtain⟨j,hj,rfl⟩:=Zb5 (pm.symm.subset hy);exact hx j hj e
 ·rw[h6];simp -implicitDefEqProofs;refine hK _ _ ?_;clear hK;refine za (qH D3 D0 (zv rfl (λ_=>?_) (λq=>by simp at q)));refine za (qH D3 D0 (zg ?_));rw[<-Zb6 pm,h5];exact⟨_,_,rfl,⟨rfl,λ_ _=>rfl,⟨l,⟨hp,hh⟩,pm,hs⟩⟩,λo=>.inl rfl⟩
open Go Hp
def Once(r:zJ Int):Prop:=(r.map (·.1)).Nodup
theorem HP.once{S:Store}{hid hv rid mid mv:Nat}{l:zJ Int}(h:HP S hid hv rid mid mv l):Once l:=by
 obtain⟨g,_,k⟩:=h;unfold Once;refine BD.2 λi j hi hj hij e=>?_
 simp only[List.length_map]at hi hj;simp only[CE]at e;have q:∀i (hi:i<l.length),zE l i=l[i]:=λi hi=>by unfold zE;simp[hi]
 have:=k.inj hi hj (by rw[q i hi,q j hj];exact e);omega
theorem Once.perm{l r:zJ Int}(h:l.Perm r)(k:Once l):Once r:=(List.Perm.nodup_iff (h.map λx:Int × Int=>x.1)).1 k
theorem HM.once{S:Store}{hid hv rid mid mv:Nat}{r:zJ Int}(h:HM S hid hv rid mid mv r):Once r:=by
 obtain⟨l,⟨hp,_⟩,pm,_⟩:=h;exact hp.once.perm pm
theorem ZfE{x:Int × Int}{l:zJ Int}(h:Once (x :: l)):YG x.1 (x :: l)=l:=by
 unfold YG;rw[BN,if_neg DZ,Ci];intro y hy;simp only[decide_eq_true_eq];intro e;have:=(Cq.1 (show (x.1 :: l.map (·.1)).Nodup from h)).1;exact this (Am.2 ⟨y,hy,e⟩)
theorem Zm6{l r:zJ Int}(id:Int)(h:l.Perm r):(YG id l).Perm (YG id r):=h.filter _
theorem Zm7{id:Int}{l:zJ Int}(h:xe id l=false):YG id l=l:=by
 unfold YG;rw[Ci];intro y hy;simp only[xe,Cf]at h;simpa using h y hy
theorem Zm8{S:Store}{hid hv rid mid mv:Nat}{r:zJ Int}(h:HM S hid hv rid mid mv r)(id:Int):
  PCalls prog 369 [.ptr hid hv 0,zW id] S (λp S'=>p=wY (xe id r)/\Off S [hid,rid,mid] S'/\HM S' hid hv rid mid mv (YG id r)):=by
 have hM:=h;obtain⟨l,⟨hp,hh⟩,pm,hs⟩:=h;have hp0:=hp;obtain⟨g,hS,hk⟩:=hp0;obtain⟨ver,h1,cs,h2,hR⟩:=hS.h;obtain⟨es,res,h3,h4,h5⟩:=hS.look hk id;refine vJ func369 rfl ntmps369 (congrArg Array.toList results369) DZ ?_;refine za (qH D3 D0 (za (yR [] D3 λK hK=>?_)));simp -implicitDefEqProofs [h1];refine Zp rfl underlying384 underlying3 rfl rfl rfl h3 h4 D0 ?_;rw[Zb6 pm]at h5;rcases h5 with ⟨h5,h6⟩ | ⟨h5,i,hi,hid,h6⟩
 ·rw[h6];simp -implicitDefEqProofs;refine hK _ _ ?_;clear hK;refine za (za (qH D3 D0 (zv rfl (λ_=>?_) (λq=>by simp at q))));refine za (qH D3 D0 (zg ?_));rw[h5,Zm7 h5];exact⟨_,_,rfl,⟨rfl,λ_ _=>rfl,hM⟩,λo=>.inl rfl⟩
 ·rw[h6];simp -implicitDefEqProofs [zW];refine hK _ _ ?_;clear hK;refine za (za (qH D3 D0 (zv rfl (λq=>by simp at q) (λ_=>zh ?_))));refine za (yR [] D3 λK hK=>?_);simp -implicitDefEqProofs;refine Q4 rfl rfl rfl Zl7 (by exact Zm1 ⟨hp,hh⟩ i hi) λp S3 hq=>?_
  obtain⟨_,o3,l',hh',pm'⟩:=hq;refine hK _ _ ?_;clear hK;refine za (qH D3 D0 (zg ?_));rw[h5];have e1:YG id (zE l i :: l')=l':=by rw[<-hid];exact ZfE (Once.perm pm'.symm hp.once)
  refine⟨_,_,rfl,⟨rfl,ZZ _ _ _,HM.cut ⟨l',hh',?_,Zm4 id r hs⟩⟩,Z0 o3.offd⟩;have:=Zm6 id (pm'.trans pm);rw[e1]at this;exact this
end Go.Proofs.YtcocagkbfpgmiaaGreatDoor.Pv
namespace Go.Proofs.YtcocagkbfpgmiaaGreatDoor.Hp
section
variable {α:Type} [DecidableEq α] [Inhabited α] {lt:α->α->Bool}
theorem Zm9(hs:Str lt){l:zJ α}(h:Zm lt l l.length):∀k,k<l.length->il lt (zE l k) (zE l 0)=false:=by
 intro k
 induction k using Nat.strongRecOn with
 | _ k ih =>
  intro hk;rcases B1 k with e | e
  ·subst e;exact(Yt hs).irr _
  ·have:=uA e;exact XZ hs (h k e hk) (ih (ye k) this DY)
end
end Go.Proofs.YtcocagkbfpgmiaaGreatDoor.Hp
namespace Go.Proofs.YtcocagkbfpgmiaaGreatDoor.Pv
open Go Hp
theorem HM.root{S:Store}{hid hv rid mid mv:Nat}{x:Int × Int}{r:zJ Int}{l:zJ Int}(h:HH S hid hv rid mid mv l)(pm:l.Perm (x :: r))(hs:ui (x :: r)):zE l 0=x:=by
 have hl:0<l.length:=by rw[pm.length_eq];simp
 obtain⟨k,hk,e⟩:=Zb5 (pm.symm.subset (Cl));have h1:=Zm9 Zu h.2 k hk;rw[e]at h1;rcases As.1 (pm.subset (Zb4 hl)) with h2 | h2
 ·exact h2
 ·have:=(Bb.1 hs).1 _ h2;rw[show uh x (zE l 0)=false from h1]at this;cases this
def Jd:zJ Int->PV
 | []=>.tup [zW 0,zW 0,wY false]
 | x :: _=>.tup [zW x.1,zW x.2,wY true]
theorem Zna{S:Store}{hid hv rid mid mv:Nat}{r:zJ Int}(h:HM S hid hv rid mid mv r):
  PCalls prog 368 [.ptr hid hv 0] S (λp S'=>p=Jd r/\S'=S):=by
 obtain⟨l,hh,pm,hs⟩:=h;have hp:=hh.1;obtain⟨g,hS,hk⟩:=hp;obtain⟨ver,h1,cs,h2,hR⟩:=hS.h;refine vJ func368 rfl ntmps368 (congrArg Array.toList results368) DZ ?_;refine za (qH D3 D0 (za (za (yR [] D3 λK hK=>?_))));simp -implicitDefEqProofs [h1];refine hK _ _ ?_;clear hK;cases r with
 | nil =>
  have hl:l.length=0:=by rw[pm.length_eq];rfl
  refine zv rfl (λ_=>?_) (λq=>by simp at q;exact absurd (Av hl) q);refine za (qH D3 D0 (za (qH D3 D0 (zg ?_))));exact⟨_,S,rfl,⟨rfl,rfl⟩,λo=>.inl rfl⟩
 | cons x r =>
  have hl:0<l.length:=by rw[pm.length_eq];simp
  have hx:=HM.root hh pm hs;obtain⟨tl,e1⟩:=hR.at 0 hl;rw[hx]at e1;simp at e1;refine zv rfl (λq=>by simp at q;subst q;simp at hl) (λ_=>zh ?_);refine za (yR [] D3 λK hK=>?_);have hl':0<l.length:=hl;simp -implicitDefEqProofs [h1,h2,hl',e1];refine Q7 rfl D0 DZ λa ha=>?_
  simp -implicitDefEqProofs;refine hK _ _ ?_;clear hK;refine za (Zk5 mixed D3 D3 D3 D0 (zg ?_));refine⟨_,S,rfl,⟨rfl,rfl⟩,λo=>?_⟩
  by_cases e:o=a
  ·exact .inr (e ▸ ha)
  ·exact .inl (by rw[jo _ _ _ _ e])
theorem Znb{S:Store}{hid hv rid mid mv:Nat}{r:zJ Int}(h:HM S hid hv rid mid mv r):
  PCalls prog 349 [.ptr hid hv 0] S (λp S'=>p=Jd r/\Off S [hid,rid,mid] S'/\HM S' hid hv rid mid mv r.tail):=by
 refine vJ func349 rfl ntmps349 (congrArg Array.toList results349) DZ ?_;refine za (qH D3 D0 (za (yR [] D3 λK hK=>?_)));simp -implicitDefEqProofs;refine Q4 rfl rfl rfl Zl5 (by exact Zna h) λp S2 hq=>?_
 obtain⟨rfl,rfl⟩:=hq;cases r with
 | nil =>
  simp -implicitDefEqProofs [Jd];refine hK _ _ ?_;clear hK;refine za (za (qH D3 D0 (zv rfl (λq=>by simp at q) (λ_=>zh ?_))));refine za (qH D3 D0 (zg ?_));exact⟨_,S2,rfl,⟨rfl,λ_ _=>rfl,h⟩,λo=>.inl rfl⟩
 | cons x r =>
  simp -implicitDefEqProofs [Jd];refine hK _ _ ?_;clear hK;refine za (za (qH D3 D0 (zv rfl (λ_=>?_) (λq=>by simp at q))));refine yR [] D3 λK hK=>?_
  simp -implicitDefEqProofs;refine Q4 rfl rfl rfl Zl6 (by exact Zm8 h x.1) λp S3 hq=>?_
  obtain⟨_,o3,h3⟩:=hq;refine hK _ _ ?_;clear hK;refine za (qH D3 D0 (zg ?_));rw[ZfE h.once]at h3;exact⟨_,S3,rfl,⟨rfl,o3,h3⟩,λo=>.inl rfl⟩
open Go Hp
theorem HM.congr{S T:Store}{hid hv rid mid mv:Nat}{r:zJ Int}(h:HM S hid hv rid mid mv r)(e:∀o∈[hid,rid,mid],T o=S o):HM T hid hv rid mid mv r:=by
 obtain⟨l,⟨⟨g,h,k⟩,hh⟩,pm,hs⟩:=h;exact⟨l,⟨⟨g,h.congr e,k⟩,hh⟩,pm,hs⟩
def HX(o:Ob × Ob × Ob)(a hv mv:Nat)(r:zJ Int):Prop:=∀S:Store,S a=o.1->S (a+1)=o.2.1->S (a+2)=o.2.2->HM S (a+1) hv (a+2) a mv r
def Z3(obs:List Ob)(j:Nat)(o:Ob × Ob × Ob):List Ob:=((obs.set j o.1).set (j+1) o.2.1).set (j+2) o.2.2
theorem HM.hx{S:Store}{a hv mv:Nat}{r:zJ Int}(h:HM S (a+1) hv (a+2) a mv r):HX (S a,S (a+1),S (a+2)) a hv mv r:=by
 intro T h1 h2 h3;refine h.congr λo ho=>?_
 simp at ho;rcases ho with rfl | rfl | rfl
 ·exact h2
 ·exact h3
 ·exact h1
theorem HX.hm{S:Store}{nx j hv mv:Nat}{obs:List Ob}{o:Ob × Ob × Ob}{r:zJ Int}(h:HX o (nx+j) hv mv r)(h1:obs[j]?=some o.1)(h2:obs[j+1]?=some o.2.1)(h3:obs[j+2]?=some o.2.2):HM (ext S nx obs) (nx+j+1) hv (nx+j+2) (nx+j) mv r:=by
 refine h _ ?_ ?_ ?_
 ·rw[zZ,Aa,h1];rfl
 ·rw[Nat.add_assoc,zZ,Aa,h2];rfl
 ·rw[Nat.add_assoc,zZ,Aa,h3];rfl
theorem Znc{S T:Store}{nx j:Nat}{obs:List Ob}(h:Off (ext S nx obs) [nx+j+1,nx+j+2,nx+j] T)(hl:j+2<obs.length):T=ext S nx (Z3 obs j (T (nx+j),T (nx+j+1),T (nx+j+2))):=by
 funext i
 by_cases h1:i=nx+j
 ·subst h1;rw[zZ,Aa,Z3,AU DY,AU DY,AT DY];rfl
 by_cases h2:i=nx+j+1
 ·subst h2;rw[Nat.add_assoc,zZ,Aa,Z3,AU DY,AT D2];rfl
 by_cases h3:i=nx+j+2
 ·subst h3;rw[Nat.add_assoc,zZ,Aa,Z3,AT D2];rfl
 rw[h i D2];simp only[ext];split
 ·rfl
 ·rw[Aa,Aa,Z3,AU DY,AU DY,AU DY]
section
variable {S:Store} {nx j hv mv:Nat} {obs:List Ob} {o:Ob × Ob × Ob} {r:zJ Int}
theorem ZfF{f:FuncId}{args:List PV}{q:PV}{r':zJ Int}(he:qq prog f)(hl:j+2<obs.length)
  (h:PCalls prog f args (ext S nx obs) (λp T=>p=q/\Off (ext S nx obs) [nx+j+1,nx+j+2,nx+j] T/\HM T (nx+j+1) hv (nx+j+2) (nx+j) mv r')) :
  Spec prog f args (ext S nx obs) (λp T=>p=q/\∃o',HX o' (nx+j) hv mv r'/\T=ext S nx (Z3 obs j o')):=by
 refine⟨he,h.mono ?_⟩;rintro p T ⟨h1,h2,h3⟩;exact⟨h1,_,h3.hx,Znc h2 hl⟩
variable (h:HX o (nx+j) hv mv r) (h1:obs[j]?=some o.1) (h2:obs[j+1]?=some o.2.1) (h3:obs[j+2]?=some o.2.2)
include h h1 h2 h3
theorem ZfG(id w:Int)(hn:r.length+1<=2147483648):Spec prog 348 [.ptr (nx+j+1) hv 0,I id,I w] (ext S nx obs) (λp T=>p=B (!xe id r)/\∃o',HX o' (nx+j) hv mv (bif xe id r then r else Z2 (id,w) r)/\T=ext S nx (Z3 obs j o')) :=
 ZfF Zl2 (Ac.1 h3).1 (Zm5 (h.hm h1 h2 h3) id w hn)
theorem Znd:Spec prog 349 [.ptr (nx+j+1) hv 0] (ext S nx obs) (λp T=>p=Jd r/\∃o',HX o' (nx+j) hv mv r.tail/\T=ext S nx (Z3 obs j o')) :=
 ZfF Zl3 (Ac.1 h3).1 (Znb (h.hm h1 h2 h3))
end
theorem Zne{S:Store}{nx:Nat}{obs:List Ob}:Spec prog 346 [] (ext S nx obs) (λp T=>∃hv mv o,p=.ptr (nx+obs.length+1) hv 0/\HX o (nx+obs.length) hv mv []/\T=ext S nx (obs++[o.1,o.2.1,o.2.2])):=by
 have hd:=jU (S:=S) (nx:=nx) (obs:=obs);have e:∀o:Ob × Ob × Ob,ext S nx (obs++[o.1,o.2.1,o.2.2])=ext (ext S nx obs) (nx+obs.length) [o.1,o.2.1,o.2.2]:=by
  intro o;have p1:=qV (S:=S) (nx:=nx) (obs:=obs) o.1;have p2:=qV (S:=S) (nx:=nx) (obs:=obs++[o.1]) o.2.1;have p3:=qV (S:=S) (nx:=nx) (obs:=obs++[o.1]++[o.2.1]) o.2.2;have q0:=qI hd;have q1:=qV (S:=ext S nx obs) (nx:=nx+obs.length) (obs:=[]) o.1;have q2:=qV (S:=ext S nx obs) (nx:=nx+obs.length) (obs:=[o.1]) o.2.1;have q3:=qV (S:=ext S nx obs) (nx:=nx+obs.length) (obs:=[o.1,o.2.1]) o.2.2;simp only[Ar,Ad,Ah,List.append_assoc,List.cons_append,AK,BF,AQ]at p1 p2 p3 q1 q2 q3;rw[<-p3,<-p2,<-p1,<-q3,<-q2,<-q1,q0];simp only[Nat.add_assoc]
 generalize ext S nx obs=S1 at *;generalize nx+obs.length=m at *;refine u6 hd func346 ntmps346 results346 ?_;refine D7 ?_;refine D7 ?_;intro mv hv;refine je 1 0 449 2 rfl rfl λrv=>?_
 refine zg ⟨_,_,rfl,⟨hv,mv,(.map mv [],.cells hv 445 [.sl (m+2) rv 2 0 0,.mp m mv],.cells rv 449 []),rfl,?_,(e _).symm⟩,λo=>.inl DZ⟩;intro T h1 h2 h3;refine⟨[],⟨⟨λ_=>none,⟨⟨rv,h2,[],h3,[],rfl⟩,⟨[],h1,Zfw _ _⟩,⟨by omega,by omega,by omega⟩,by simp⟩,⟨λi hi=>by simp at hi,λ_ _=>rfl⟩⟩,λk k0 kn=>by simp at kn⟩,.refl _,by simp[ui]⟩
open Go Hp
@[simp] theorem Zzm(a b c:Ob)(l:List Ob)(o:Ob × Ob × Ob):Z3 (a :: b :: c :: l) 0 o=o.1 :: o.2.1 :: o.2.2 :: l:=rfl
open Go Hp
instance:Enc (Int × Int):=⟨λx=>[I x.1,I x.2],2,λ_=>rfl,λ_=>rfl⟩
@[simp] theorem Zzn(s:Int × Int):Enc.enc s=[I s.1,I s.2]:=rfl
@[simp high] theorem Zzo(l:zJ Int):(l.flatMap Enc.enc).length=l.length*2:=xy l
@[simp high] theorem Zzp(l:zJ Int):(l.flatMap Enc.enc).take (l.length*2)=l.flatMap Enc.enc:=YE l
open Go Hp
structure Deed where
 kind:Int
 id:Int
 w:Int
instance:Enc Deed:=⟨λd=>[I d.kind,I d.id,I d.w],3,λ_=>rfl,λ_=>rfl⟩
@[simp] theorem Zzq(d:Deed):Enc.enc d=[I d.kind,I d.id,I d.w]:=rfl
@[simp high] theorem Zzr(l:List Deed):(l.flatMap Enc.enc).length=l.length*3:=xy l
@[simp high] theorem Zzs(l:List Deed):(l.flatMap Enc.enc).take (l.length*3)=l.flatMap Enc.enc:=YE l
open Go Hp Go.Sort
def uG(a b:Int):Int:=if a<b then -1 else if b<a then 1 else 0
def vN(l:List Int)(i:Nat):Int × Int:=((i:Int),l.getD i 0)
def vf(l:List Int)(i j:Fin l.length):Int:=if uG (l.getD i 0) (l.getD j 0)=0 then uG (i.val:Int) j.val else uG (l.getD i 0) (l.getD j 0)
theorem Ws(l:List Int)(i j:Fin l.length):ltOf (vf l) i j=uh (vN l i) (vN l j):=by grind[ltOf,vf,uG,il,vN]
theorem V2(l:List Int):SWO (ltOf (vf l)):=by
 have H:=Yt Zu;refine⟨λx=>?_,λx y z h1 h2=>?_,λx y z h1 h2=>?_⟩
 ·rw[Ws];exact H.irr _
 ·rw[Ws]at *;exact H.tr _ _ _ h1 h2
 ·rw[Ws]at *;cases h:uh (vN l x) (vN l z) with
  | false=>rfl
  | true =>
   exfalso;cases h3:uh (vN l y) (vN l x) with
   | true=>have hh:uh (vN l y) (vN l z)=true:=H.tr _ _ _ h3 h;simp_all
   | false =>
    have e:=H.tot _ _ h1 h3
    simp_all
theorem ZfH(l:List Int):∀x y,ltOf (vf l) x y=false->ltOf (vf l) y x=false->x=y:=by
 intro x y h1 h2;rw[Ws]at h1 h2;have:=(Yt Zu).tot _ _ h1 h2;have:(x.val:Int)=y.val:=congrArg Prod.fst this;omega
def Je(l:List Int):List (Fin l.length):=(List.finRange l.length).mergeSort λx y=>!(ltOf (vf l)) y x
theorem Zb7(l:List Int):(Je l).Perm (List.finRange l.length):=Ch _ _
theorem Znf(l:List Int):((Je l).map λi:Fin l.length=>vN l i.val).Perm ((List.range l.length).map (vN l)):=by
 refine((Zb7 l).map _).trans ?_;have e:(List.finRange l.length).map (λi:Fin l.length=>vN l i.val)=(List.range l.length).map (vN l):=by
  apply Bd
  ·simp
  ·simp
 rw[e]
theorem Zng(l:List Int):(Je l).Nodup:=(Zb7 l).nodup_iff.2 (List.nodup_finRange _)
theorem Znh(l:List Int):ui ((Je l).map λi:Fin l.length=>vN l i.val):=by
 have H:=Yt Zu;have h1:(Je l).Pairwise λa b=>(!(ltOf (vf l)) b a)=true:=by
  refine CK ?_ ?_ _
  ·intro a b c h1 h2;simp only[Co]at *;exact(V2 l).ntrans c b a h2 h1
  ·intro a b;simp only[Da,Co];cases h:ltOf (vf l) b a with
   | false=>exact .inl rfl
   | true =>
    refine .inr ?_;cases h2:ltOf (vf l) a b with
    | false=>rfl
    | true=>have:=(V2 l).trans _ _ _ h h2;rw[(V2 l).irrefl]at this;cases this
 have h2:=List.Pairwise.and h1 (Zng l);unfold ui;refine List.Pairwise.map _ ?_ h2;rintro a b ⟨h3,h4⟩;have h3':ltOf (vf l) b a=false:=by simpa using h3
 rw[<-Ws];cases h:ltOf (vf l) a b with
 | true=>rfl
 | false=>exact absurd (ZfH l a b h h3') h4
def uk(l:List Int):List Int:=(Je l).map λi=>(i.val:Int)
theorem Zb8(l:List Int):(uk l).length=l.length:=by
 unfold uk;rw[List.length_map,(Zb7 l).length_eq];simp
theorem Zni{l:List Int}{z:Int}(h:z∈uk l):0<=z/\z<l.length:=by
 obtain⟨i,_,rfl⟩:=Am.1 h;have:=i.isLt;omega
end Go.Proofs.YtcocagkbfpgmiaaGreatDoor.Pv
namespace Go.Proofs.YtcocagkbfpgmiaaGreatDoor.Hp
section
variable {α:Type} {lt:α->α->Bool}
def Sd(lt:α->α->Bool)(l:List α):Prop:=l.Pairwise λa b=>lt a b=true
theorem Znj(rows:List (List α))(i:Nat)(y:α)(tl:List α)(h:rows[i]?=some (y :: tl)):rows.flatten.Perm (y :: (rows.set i tl).flatten):=by
 induction rows generalizing i with
 | nil=>simp at h
 | cons r rows ih =>
  cases i with
  | zero =>
   simp_all
  | succ i =>
   simp only[Bg]at h;have:=ih i h;simp only[BJ,AX];exact(this.append_left r).trans Dz
theorem Znk(H:Str lt){P:List α}(hP:Sd lt P){rows:List (List α)}(hr:∀r∈rows,Sd lt r){k:Nat}(hp:rows.flatten.Perm (P.drop k)){i:Nat}{y:α}{tl:List α}(hi:rows[i]?=some (y :: tl))
  (hmin:∀(j:Nat) z tz,rows[j]?=some (z :: tz)->j≠i->lt y z=true) :
  P[k]?=some y/\(rows.set i tl).flatten.Perm (P.drop (k+1))/\∀r∈rows.set i tl,Sd lt r:=by
 have hfs:=Znj rows i y tl hi;have hsi:Sd lt (y :: tl):=hr _ (Ab hi)
 -- y is the least of what is left
 have hle:∀z∈rows.flatten,z=y\/lt y z=true:=by
  intro z hz;obtain⟨r,hrm,hzr⟩:=BO.1 hz;obtain⟨j,hj⟩:=Bl.1 hrm
  by_cases e:j=i
  ·subst e;rw[hi]at hj;cases hj;rcases As.1 hzr with e | e
   ·exact .inl e
   ·exact .inr ((Bb.1 hsi).1 z e)
  ·cases r with
   | nil=>cases hzr
   | cons a ar =>
    have h1:=hmin j a ar hj e;rcases As.1 hzr with e2 | e2
    ·simp_all
    ·exact .inr (H.tr _ _ _ h1 ((Bb.1 (hr _ hrm)).1 z e2))
 have hyP:y∈P.drop k:=hp.subset (hfs.symm.subset Cl);cases hd:P.drop k with
 | nil=>simp_all
 | cons x rest =>
  have hPd:Sd lt (x :: rest):=by rw[<-hd];exact List.Pairwise.sublist (List.drop_sublist k P) hP
  have hx:x=y:=by
   rw[hd]at hyP;rcases As.1 hyP with e | e
   ·exact e.symm
   ·have h1:=(Bb.1 hPd).1 y e;rcases hle x (hp.symm.subset D6) with h | h
    ·exact h
    ·have:=H.tr _ _ _ h1 h;rw[H.irr]at this;cases this
  subst hx;have hk:P[k]?=some x:=by
   have:(P.drop k)[0]?=some x:=by rw[hd];rfl
   rwa[AR,BF]at this
  have hd1:P.drop (k+1)=rest:=by
   have:P.drop (k+1)=(P.drop k).drop 1:=by rw[List.drop_drop]
   rw[this,hd];rfl
  refine⟨hk,?_,λr hrm=>?_⟩
  ·rw[hd1];rw[hd]at hp;exact List.Perm.cons_inv (hfs.symm.trans hp)
  ·rcases BC hrm with h | h
   ·exact hr r h
   ·rw[h];exact(Bb.1 hsi).2
theorem Znl{P:List α}{rows:List (List α)}{k:Nat}(hp:rows.flatten.Perm (P.drop k))(hk:k<=P.length)(h0:∀r∈rows,r=[]):k=P.length:=by
 have:rows.flatten=[]:=List.flatten_eq_nil_iff.2 h0;rw[this]at hp;have:=hp.length_eq;simp at this;omega
theorem ZfI(H:Str lt):∀{a b:List α},a.Perm b->Sd lt a->Sd lt b->a=b
 | [],b,h,_,_=>by simp_all
 | x :: a,[],h,_,_=>by simp_all
 | x :: a,y :: b,h,ha,hb=>by
  have ha':=Bb.1 ha;have hb':=Bb.1 hb;have e:x=y:=by
   rcases As.1 (h.subset (Cl)) with e | hx
   ·exact e
   ·rcases As.1 (h.symm.subset (Cl)) with e | hy
    ·exact e.symm
    ·have:=H.tr _ _ _ (ha'.1 y hy) (hb'.1 x hx);rw[H.irr]at this;cases this
  subst e;rw[ZfI H (List.Perm.cons_inv h) ha'.2 hb'.2]
theorem Znm(H:Str lt)(l:List α)(hn:l.Nodup):Sd lt (l.mergeSort λx y=>!lt y x):=by
 have h1:(l.mergeSort λx y=>!lt y x).Pairwise λa b=>(!lt b a)=true:=by
  refine CK ?_ ?_ _
  ·intro a b c h1 h2;simp only[Co]at *;cases e:lt c a with
   | false=>rfl
   | true =>
    exfalso;cases e2:lt b c with
    | true=>have:=H.tr _ _ _ e2 e;simp_all
    | false=>have e3:=H.tot _ _ e2 h2;simp_all
  ·intro a b;simp only[Da,Co];cases e:lt b a with
   | false=>simp
   | true =>
    refine .inr ?_;cases e2:lt a b with
    | false=>rfl
    | true=>have:=H.tr _ _ _ e e2;rw[H.irr]at this;cases this
 have h2:=List.Pairwise.and h1 ((Ch l _).nodup_iff.2 hn);refine List.Pairwise.imp ?_ h2;rintro a b ⟨h3,h4⟩;cases e:lt a b with
 | true=>rfl
 | false=>exact absurd (H.tot _ _ e (by simpa using h3)) h4
end
end Go.Proofs.YtcocagkbfpgmiaaGreatDoor.Hp
namespace Go.Proofs.YtcocagkbfpgmiaaGreatDoor.Pv
open Go Hp
def uH(x:Inst)(a b:Int):Int:=arc x (a+1) 0+arc x 0 (b+1)-arc x (a+1) (b+1)
structure Pr where
 a:Int
 b:Int
 s:Int
deriving DecidableEq
def wN(p q:Pr):Bool:=if p.s=q.s then (if p.a=q.a then decide (p.b<q.b) else decide (p.a<q.a)) else decide (q.s<p.s)
theorem Zb9:Str wN:=by
 refine⟨λa=>by simp[wN],λa b c h1 h2=>?_,λa b h1 h2=>?_⟩
 ·grind[wN]
 ·obtain⟨a1,a2,a3⟩:=a;obtain⟨b1,b2,b3⟩:=b
  grind[wN]
def jX(x:Inst)(c:List Int)(a:Int):List Pr:=(c.filter λb=>decide (b≠a)).map λb=>⟨a,b,uH x a b⟩
def u9(x:Inst)(c:List Int):List Pr:=c.flatMap (jX x c)
def qW(x:Inst)(c:List Int):List Pr:=(u9 x c).mergeSort λp q=>!wN q p
theorem V3{x:Inst}{c:List Int}{p:Pr}:p∈u9 x c<->p.a∈c/\p.b∈c/\p.b≠p.a/\p.s=uH x p.a p.b:=by
 unfold u9 jX;simp only[B6,Am,A7,decide_eq_true_eq];constructor
 ·grind
 ·rintro⟨ha,hb,hne,hs⟩;exact⟨p.a,ha,p.b,⟨hb,hne⟩,by rw[<-hs]⟩
theorem ZfJ{x:Inst}{c:List Int}(h:c.Nodup):(u9 x c).Nodup:=by
 unfold u9;unfold List.Nodup;rw[List.pairwise_flatMap]
 grind[jX,List.Pairwise.imp]
theorem Zca{x:Inst}{c:List Int}(h:c.Nodup):Sd wN (qW x c):=Znm Zb9 _ (ZfJ h)
theorem Jf(x:Inst)(c:List Int):(qW x c).Perm (u9 x c):=Ch _ _
theorem Znn{x:Inst}{c:List Int}(h:c.Nodup):(qW x c).length=c.length*(c.length-1):=by
 rw[(Jf x c).length_eq];unfold u9;rw[List.length_flatMap];have:c.map (λa=>(jX x c a).length)=c.map λ_=>c.length-1:=by
  refine AN λa ha=>?_
  unfold jX;rw[List.length_map];have:=List.Nodup.erase_eq_filter h a;have h2:=Dr ha;rw[this]at h2;rw[<-h2];congr 1;refine CO λb _=>?_
  by_cases e:b=a<;>simp[e]
 simp_all[List.map_const']
theorem Zno{x:Inst}{c:List Int}(h:c.Nodup){l:List Pr}(hp:l.Perm (u9 x c))(hs:Sd wN l):l=qW x c :=
 ZfI Zb9 (hp.trans (Jf x c).symm) hs (Zca h)
theorem Znp{x:Inst}{c d:List Int}(hc:c.Nodup)(hd:d.Nodup)(h:c.Perm d):(u9 x c).Perm (u9 x d):=by simp_all[Dg,ZfJ,V3]
theorem Znq{x:Inst}{c d:List Int}(hc:c.Nodup)(hd:d.Nodup)(h:c.Perm d):qW x c=qW x d :=
 Zno hd ((Jf x c).trans (Znp hc hd h)) (Zca hc)
open Go Hp
def yS:Nat->List (List Pr)->zJ Int
 | _,[]=>[]
 | i,[] :: rows=>yS (i+1) rows
 | i,(p :: _) :: rows=>((i:Int),-p.s) :: yS (i+1) rows
theorem J9:∀(rows:List (List Pr)) (i:Nat) (x:Int × Int),x∈yS i rows<->∃(k:Nat) (p:Pr) (tl:List Pr),rows[k]?=some (p :: tl)/\x=(((i+k:Nat):Int),-p.s)
 | [],i,x=>by simp[yS]
 | [] :: rows,i,x=>by
  rw[yS,J9 rows (i+1) x];constructor
  ·rintro⟨k,p,tl,h,rfl⟩;exact⟨k+1,p,tl,by simpa using h,by rw[show i+1+k=i+(k+1) by omega]⟩
  grind
 | (q :: ql) :: rows,i,x=>by
  rw[yS,As,J9 rows (i+1) x];constructor
  ·rintro(rfl | ⟨k,p,tl,h,rfl⟩)
   ·exact⟨0,q,ql,rfl,rfl⟩
   ·exact⟨k+1,p,tl,by simpa using h,by rw[show i+1+k=i+(k+1) by omega]⟩
  grind
theorem V4:∀(rows:List (List Pr)) (i k:Nat) (p:Pr) (tl:List Pr),k<rows.length->(yS i (rows.set k (p :: tl))).Perm ((((i+k:Nat):Int),-p.s) :: yS i (rows.set k []))
 | [],_,_,_,_,h=>by simp at h
 | r :: rows,i,0,p,tl,_=>by simp[yS]
 | [] :: rows,i,k+1,p,tl,h=>by
  have:=V4 rows (i+1) k p tl (by simpa using h)
  grind[yS]
 | (q :: ql) :: rows,i,k+1,p,tl,h=>by
  have:=V4 rows (i+1) k p tl (by simpa using h)
  grind[yS]
theorem Znr{rows:List (List Pr)}{k:Nat}{p:Pr}{tl:List Pr}(h:rows[k]?=some (p :: tl)):(yS 0 rows).Perm ((((k:Nat):Int),-p.s) :: yS 0 (rows.set k [])):=by grind[V4,List.set_getElem_self]
theorem V5:∀(rows:List (List Pr)) (i:Nat),(yS i rows).length<=rows.length
 | [],_=>by simp[yS]
 | [] :: rows,i=>by have:=V5 rows (i+1);grind[yS]
 | (q :: ql) :: rows,i=>by have:=V5 rows (i+1);simp_all[yS]
structure Rows' (c:List Int) (rows:List (List Pr)):Prop where
 len:rows.length=c.length
 a:∀(i:Nat) r,rows[i]?=some r->∀p∈r,c[i]?=some p.a
theorem Zns{c:List Int}(hc:c.Pairwise (· < ·)){rows:List (List Pr)}(hr:Rows' c rows){x:Int × Int}{r:zJ Int}(hs:ui (x :: r))(hp:(yS 0 rows).Perm (x :: r)):
  ∃(i:Nat) (y:Pr) (tl:List Pr),x=((i:Int),-y.s)/\rows[i]?=some (y :: tl)/\r.Perm (yS 0 (rows.set i []))/\∀(j:Nat) z tz,rows[j]?=some (z :: tz)->j≠i->wN y z=true:=by
 obtain⟨i,y,tl,hi,ex⟩:=(J9 rows 0 x).1 (hp.symm.subset Cl);rw[AQ]at ex;subst ex;refine⟨i,y,tl,rfl,hi,(List.Perm.cons_inv ((Znr hi).symm.trans hp)).symm,λj z tz hj hne=>?_⟩;have hz:(((j:Nat):Int),-z.s)∈yS 0 rows:=(J9 rows 0 _).2 ⟨j,z,tz,hj,by simp⟩;rcases As.1 (hp.subset hz) with e | e
 ·grind
 ·have h1:=(Bb.1 hs).1 _ e;have ay:=hr.a i _ hi y DZ;have az:=hr.a j _ hj z DZ
  grind[il,wN,List.pairwise_iff_getElem]
open Go Hp
def qQ(l:List Pr):List Int:=l.map λp=>-p.s
def ul(l:List Pr)(i:Int):Pr:=l.getD i.toNat ⟨0,0,0⟩
def wO(x:Inst)(c:List Int)(a:Int):List Pr:=(uk (qQ (jX x c a))).map (ul (jX x c a))
theorem Znt(l:List Int):(uk l).Perm ((List.range l.length).map λi:Nat=>(i:Int)):=by
 have h:=(Znf l).map (·.1);rw[BL,BL]at h;exact h
theorem Znu(l:List Pr):((uk (qQ l)).map (ul l)).Perm l:=by
 refine((Znt _).map _).trans ?_;have:((List.range (qQ l).length).map λi:Nat=>(i:Int)).map (ul l)=l:=by
  rw[BL];apply Bd
  ·simp[qQ]
  ·simp_all[ul]
 rw[this]
theorem Znv{l:List Pr}(h:∀(i j:Nat) p q,i<j->l[i]?=some p->l[j]?=some q->p.a=q.a/\p.b<q.b):Sd wN ((uk (qQ l)).map (ul l)):=by
 have hs:=Znh (qQ l);unfold uk;rw[BL];unfold ui at hs;rw[CP]at hs;unfold Sd;rw[CP];refine List.Pairwise.imp ?_ hs;intro i j hij;have hn:(qQ l).length=l.length:=by simp[qQ]
 have hi:i.val<l.length:=by have:=i.isLt;omega
 have hj:j.val<l.length:=by have:=j.isLt;omega
 have gi:l[i.val]?=some l[i.val]:=Ae hi;have gj:l[j.val]?=some l[j.val]:=Ae hj;have wi:(qQ l).getD i.val 0=-(l[i.val]).s:=by simp[qQ,Aa,hi]
 have wj:(qQ l).getD j.val 0=-(l[j.val]).s:=by simp[qQ,Aa,hj]
 have pi:ul l (i.val:Int)=l[i.val]:=by simp[ul,Aa,hi]
 have pj:ul l (j.val:Int)=l[j.val]:=by simp[ul,Aa,hj]
 grind[il,vN,wN]
theorem Znw{x:Inst}{c:List Int}(hc:c.Pairwise (· < ·))(a:Int):∀(i j:Nat) p q,i<j->(jX x c a)[i]?=some p->(jX x c a)[j]?=some q->p.a=q.a/\p.b<q.b:=by
 have h:(jX x c a).Pairwise λp q=>p.a=q.a/\p.b<q.b:=by
  unfold jX;rw[CP];exact List.Pairwise.imp (λh=>⟨rfl,h⟩) (List.Pairwise.filter _ hc)
 grind[List.pairwise_iff_getElem]
theorem Zcb(x:Inst)(c:List Int)(a:Int):(wO x c a).Perm (jX x c a):=Znu _
theorem Znx{x:Inst}{c:List Int}(hc:c.Pairwise (· < ·))(a:Int):Sd wN (wO x c a):=Znv (Znw hc a)
theorem Zny{x:Inst}{c:List Int}(hc:c.Pairwise (· < ·)):Rows' c (c.map (wO x c))/\(∀r∈c.map (wO x c),Sd wN r)/\(c.map (wO x c)).flatten.Perm (qW x c):=by
 refine⟨⟨by simp,λi r hr p hp=>?_⟩,λr hr=>?_,?_⟩
 ·grind[Zcb,jX]
 ·grind[Znx]
 ·refine List.Perm.trans ?_ (Jf x c).symm;unfold u9;rw[<-List.flatMap_def];have main:∀l:List Int,(l.flatMap (wO x c)).Perm (l.flatMap (jX x c)):=by
   intro l
   induction l with
   | nil=>simp
   | cons a l ih=>grind[Zcb]
  exact main c
theorem Znz{x:Inst}{c:List Int}(hc:c.Pairwise (· < ·)){rows:List (List Pr)}{k:Nat}(h1:Rows' c rows)(h2:∀r∈rows,Sd wN r)(h3:rows.flatten.Perm ((qW x c).drop k)){it:Int × Int}{r:zJ Int}(hs:ui (it :: r))(hp:(yS 0 rows).Perm (it :: r)):
  ∃(i:Nat) (y:Pr) (tl:List Pr),it=((i:Int),-y.s)/\rows[i]?=some (y :: tl)/\r.Perm (yS 0 (rows.set i []))/\(qW x c)[k]?=some y/\Rows' c (rows.set i tl)/\(∀r∈rows.set i tl,Sd wN r)/\(rows.set i tl).flatten.Perm ((qW x c).drop (k+1)):=by
 have hn:c.Nodup:=List.Pairwise.imp (λh e=>by omega) hc;obtain⟨i,y,tl,e1,e2,e3,e4⟩:=Zns hc h1 hs hp;obtain⟨m1,m2,m3⟩:=Znk Zb9 (Zca hn) h2 h3 e2 e4;refine⟨i,y,tl,e1,e2,e3,m1,⟨by rw[Bt];exact h1.len,λj r hr p hpr=>?_⟩,m3,m2⟩;rw[BB]at hr;split at hr
 ·rename_i e;subst e;split at hr
  ·cases hr;exact h1.a i _ e2 p (CA _ hpr)
  ·cases hr
 ·exact h1.a j r hr p hpr
open Go Hp
instance:Inhabited Pr:=⟨⟨0,0,0⟩⟩
instance:Enc Pr:=⟨λp=>[I p.a,I p.b,I p.s],3,λ_=>rfl,λ_=>rfl⟩
@[simp] theorem Zzt(p:Pr):Enc.enc p=[I p.a,I p.b,I p.s]:=rfl
@[simp high] theorem Zzu(l:List Pr):(l.flatMap Enc.enc).length=l.length*3:=xy l
@[simp high] theorem Zzv(l:List Pr):(l.flatMap Enc.enc).take (l.length*3)=l.flatMap Enc.enc:=YE l
def qX(x:Inst):Prop:=∀a b,0<=arc x a b/\arc x a b<=2147483648
theorem Zcc{x:Inst}(h:qX x)(a b:Int):-2147483648<=uH x a b/\uH x a b<=4294967296:=by
 have h1:=h (a+1) 0;have h2:=h 0 (b+1);have h3:=h (a+1) (b+1);unfold uH;omega
theorem ZnA(x:Inst)(a b:Int)(hx:qX x)(ha:qe a)(hb:qe b):Pure prog 365 [.agg (zy x),I a,I b] (I (uH x a b)):=by
 have w1:=Zt ha;have w2:=Zt hb;have h1:=hx (a+1) 0;have h2:=hx 0 (b+1);have h3:=hx (a+1) (b+1);have w3:IntKind.i64.wrap (arc x (a+1) 0+arc x 0 (b+1))=arc x (a+1) 0+arc x 0 (b+1):=wr _ DY DY;have w4:IntKind.i64.wrap (arc x (a+1) 0+arc x 0 (b+1)-arc x (a+1) (b+1))=uH x a b:=wr _ DY DY;refine zr func365 ntmps365 results365 λS nx hd=>?_
 refine D7 ?_;intro v0;refine za (zz none (Row.pures [0,1,2,3,4,5,6,7,8,9,10,11,12,13,14,15,16] .done) mixed (zN w1 w2 w3 w4) ?_);refine zG (w8 _ _ _) (zN w1 w2 w3 w4) ?_;refine zG (w8 _ _ _) (zN w1 w2 w3 w4) ?_;refine zG (w8 _ _ _) (zN w1 w2 w3 w4) ?_;exact zg (zi hd rfl rfl)
open Go
theorem ZfK{vs:Array Value}(h:2=vs.size):∃u v,vs=#[u,v]:=by
 match vs,h with
 | ⟨[u,v]⟩,_=>simp
theorem ZnB{C:Ctx}{S:Store}{w:World}{v:Value}(h:Rel C S w (.sc (.slice none 0 0)) v):v=.slice none 0 0:=by cases h;rfl
theorem ZnC(n:Nat)(h0:0<n)(hn:n<=1048576)(S:Store)(nx:Nat)(hd:zS nx S):
  Spec prog 370 [.sc (.slice none 0 0),I n] S (λp S'=>∃v,p=.sl nx v 2 0 0/\S'=S.set nx (.cells v 100 [])):=by
 refine⟨qm func370 D3 rfl,?_⟩;intro C w vs hS hl hr;obtain⟨u,v,rfl⟩:=ZfK hl;obtain rfl:=ZnB (hr 0 _ u rfl rfl);obtain rfl:=Jb (hr 1 _ v rfl rfl);obtain⟨i0,hi0⟩:=B4.1 ZbM;have hz:=Ze0;have hc:=ZbL;have hb:=ZeZ;simp only[Program.zeroOf,Program.cellsOf,Program.bytesOf',hi0,CC,A3,Option.getD_some,Option.some.injEq]at hz hc hb;refine(slices_Grow_stop i0 _ hi0 hz DY n w h0 (by rw[hb];omega) DY).mono ?_;rintro e w' ⟨rfl,rfl⟩;have hfr:Fresh C S nx C.clock:=.clock C (hd nx (Ag _));obtain⟨d1,d2⟩:=hS.drew;obtain⟨t1,t2⟩:=d1.object' hfr 100 ((#[]:Array Value)++Builtin.zeroCells (Value.agg #[.int .i64 0,.int .i64 0]).cells (0+n-0)++Builtin.zeroCells (Value.agg #[.int .i64 0,.int .i64 0]).cells (grownCap w (0+n) 0 100-(0+n))) [] DZ (λi v hi=>by simp at hi) (λi p v hp=>by simp at hp);have hge:=grownCap_ge w (0+n) 0 100;simp only[AQ]at hge;refine⟨_,_,_,_,rfl,⟨C.clock,rfl,rfl⟩,X9 C S w _ _ _ _ _ _ _ _ rfl (Cr _) (Cr _) (grownCap_le_maxLen w _ _ _ (by unfold maxLen;omega)) ?_,t1,d2.trans t2⟩
 grind[size_zeroCells,Value.cells]
theorem ZnD(ls:List (List Stop))(hls:ls.length<=1048576)(h0:0<ls.flatten.length)(hn:ls.flatten.length<=1048576):Pure prog 350 [L ls] (L ls.flatten):=by
 refine zr func350 ntmps350 results350 λS nx hd=>?_
 refine D7 ?_;refine D7 ?_
 repeat apply za
 refine zb ?_;refine zj (zC (λs:Nat × Nat=>s.1<=ls.length/\s.2=(ls.take s.1).flatten.length) (λ(k,n)=>[(0,L ls),(3,I (n:Int)),(9,L ls),(10,I ls.length),(11,I k)]) (λ_=>[]) (λs=>ls.length-s.1) (0,0) [] ⟨by simp,by simp⟩ DZ DZ ?_);rintro⟨k,n⟩ ⟨hk,ho⟩;simp only at hk ho ⊢;refine D7 ?_;refine za (zv rfl (λhc=>?_) (λhc=>?_))
 ·simp at hc;obtain⟨t,tl,a1,a2,a3,e0⟩:=zF rfl ls k hc;have hs1:(ls.take (k+1)).flatten.length=n+t.length:=by rw[a3,ho];simp
  have hs2:(ls.take (k+1)).flatten.length<=ls.flatten.length:=by
   conv=>rhs;rw[<-List.take_append_drop (k+1) ls,List.flatten_append,Ar]
   omega
  have w1:IntKind.i64.wrap ((n:Int)+(t.length:Nat))=(n:Int)+(t.length:Nat):=wr _ DY DY;have w2:¬((n:Int)+(t.length:Nat)<0):=DY
  refine zh (za (zj (za (ze [] (zo e0 hc) ?_))));refine za (ze [] w1 ?_);refine za (ze [] w2 ?_);refine zk rfl (zh (zb ?_));exact zq (k+1,n+t.length) [] ⟨hc,hs1.symm⟩ DY (by simp[zu k (by omega)]) rfl DZ
 ·simp at hc;obtain rfl:k=ls.length:=DY
  rw[Ai]at ho;rw[<-ho]at h0;have hn':n<=1048576:=DY
  clear ho;refine zx (D7 ?_);refine λhsuf=>((ZnC n h0 hn' _ _ jU).mono ?_).v
  rintro _ _ ⟨v1,rfl,rfl⟩;refine⟨_,_,qV _,zL hsuf ?_⟩
  repeat apply za
  refine zb ?_;refine zj (zC (λs:Nat × List Stop × Nat=>s.1<=ls.length/\s.2.1=(ls.take s.1).flatten) (λ(k,out,v)=>[(6,.sl nx v 2 0 out.length),(25,L ls),(26,I ls.length),(27,I k)]) (λ(k,out,v)=>[.cells v 100 (out.flatMap Enc.enc)]) (λs=>ls.length-s.1) (0,[],v1) [] ⟨by simp,by simp⟩ DZ DZ ?_);rintro⟨k,out,v⟩ ⟨hk,ho⟩;simp only at hk ho ⊢;refine D7 ?_;refine za (zv rfl (λhc=>?_) (λhc=>?_))
  ·simp at hc;obtain⟨t,tl,a1,a2,a3,e0⟩:=zF rfl ls k hc;have hs1:(ls.take (k+1)).flatten=out++t:=by rw[a3,ho];simp
   have hs2:(ls.take (k+1)).flatten.length<=ls.flatten.length:=by
    conv=>rhs;rw[<-List.take_append_drop (k+1) ls,List.flatten_append,Ar]
    omega
   rw[hs1]at hs2;simp only[Ar]at hs2;refine zh (za (zj (za (ze [] (zo e0 hc) ?_))));refine zb ?_;refine⟨by omega,?_⟩;refine zb ?_;exact zq (k+1,out++t,v+1) [] ⟨hc,hs1.symm⟩ DY (by simp[zu k (by omega)]) rfl DZ
  ·simp at hc;obtain rfl:k=ls.length:=DY
   rw[Ai]at ho;refine zx (zX 0 rfl ?_);refine D7 ?_;exact zg (zi hd D0 (by simp[zp,ho]))
open Go Hp
def Za(T:zn)(c:Int):Nat:=T.findIdx λt=>t.any λs=>decide (s.c=c)
def Qm(a:zK):Option Int:=a[a.length-1]?.map (·.c)
def Jg(b:zK):Option Int:=b[0]?.map (·.c)
def qB(x:Inst)(num:Int)(p:Pr)(i k:Nat)(a b:zK):Bool :=
 decide (i≠k) && decide (Qm a=some p.a) && decide (Jg b=some p.b) && !(decide (p.s<=0) && decide (num<=x.veh)) && decide (zQ x (a++b)=0)
def Wt(x:Inst)(st:zn × Int)(p:Pr)(i k:Nat):zn × Int :=
 bif qB x st.2 p i k (st.1.getD i []) (st.1.getD k []) then ((st.1.set i (st.1.getD i []++st.1.getD k [])).set k [],st.2-1) else st
def ji(x:Inst)(st:zn × Int)(p:Pr):zn × Int:=Wt x st p (Za st.1 p.a) (Za st.1 p.b)
def Zcd(x:Inst)(ss:List Stop):zn × Int:=(qW x (ss.map (·.c))).foldl (ji x) (ss.map λs=>[s],(ss.length:Int))
def vg(x:Inst)(ss:List Stop):zn:=(Zcd x ss).1.filter λt=>!t.isEmpty
structure JI (ss:List Stop) (T:zn) (g:Int->Option Int):Prop where
 len:T.length=ss.length
 perm:T.flatten.Perm ss
 g:∀(i:Nat) t s,T[i]?=some t->s∈t->g s.c=some (i:Int)
theorem JI.place{ss:List Stop}{T:zn}{g:Int->Option Int}(h:JI ss T g){i:Nat}{t:zK}{s:Stop}(hi:T[i]?=some t)(hs:s∈t):Za T s.c=i:=by
 have hex:∃t∈T,(t.any λs'=>decide (s'.c=s.c))=true:=⟨t,Ab hi,BT.2 ⟨s,hs,by simp⟩⟩;have hlt:Za T s.c<T.length:=List.findIdx_lt_length_of_exists hex;have hq:=List.findIdx_getElem (w:=hlt);obtain⟨s',h1,h2⟩:=BT.1 hq;have h2':s'.c=s.c:=by simpa using h2
 have e1:=h.g (Za T s.c) _ s' (Ae hlt) h1;have e2:=h.g i t s hi hs
 grind
theorem JI.there{ss:List Stop}{T:zn}{g:Int->Option Int}(h:JI ss T g){c:Int}(hc:c∈ss.map (·.c)):∃(i:Nat) (t:zK) (s:Stop),T[i]?=some t/\s∈t/\s.c=c/\g c=some (i:Int)/\Za T c=i:=by
 obtain⟨s,hs,rfl⟩:=Am.1 hc;obtain⟨t,ht,hst⟩:=BO.1 (h.perm.symm.subset hs);obtain⟨i,hi⟩:=Bl.1 ht;exact⟨i,t,s,hi,hst,rfl,h.g i t s hi hst,h.place hi hst⟩
theorem Wu{T:zn}:∀{i:Nat} {a:zK},T[i]?=some a->T.flatten.Perm (a++(T.set i []).flatten):=by
 induction T with
 | nil=>simp
 | cons t T ih =>
  intro i a h;cases i<;>grind
theorem ZnE{T:zn}{i:Nat}(b:zK)(h:i<T.length):(T.set i b).flatten.Perm (b++(T.set i []).flatten):=by
 have:=Wu (T:=T.set i b) (i:=i) (a:=b) (by simp[h])
 simp_all
theorem ZnF{T:zn}{i k:Nat}{a b:zK}(hi:T[i]?=some a)(hk:T[k]?=some b)(hne:i≠k):((T.set i (a++b)).set k []).flatten.Perm T.flatten:=by
 have hil:=(Ac.1 hi).1;rw[List.set_comm _ _ hne];have h1:=ZnE (T:=T.set k []) (i:=i) (a++b) (by simpa using hil);have h2:=Wu hk;have h3:=Wu (T:=T.set k []) (i:=i) (a:=a) (by rw[AU (λe=>hne e.symm)];exact hi)
 grind
def Qn(g:Int->Option Int)(b:zK)(i:Nat)(j:Nat):Int->Option Int:=λc=>if c∈(b.take j).map (·.c) then some (i:Int) else g c
theorem ZnG(g:Int->Option Int)(b:zK)(i:Nat):Qn g b i 0=g:=by funext c;simp[Qn]
theorem ZnH{g:Int->Option Int}{b:zK}{i j:Nat}{s:Stop}(h:b.take (j+1)=b.take j++[s]):qT (Qn g b i j) s.c (some (i:Int))=Qn g b i (j+1):=by grind[qT,Qn]
theorem JI.join{ss:List Stop}{T:zn}{g:Int->Option Int}(h:JI ss T g){i k:Nat}{a b:zK}(hi:T[i]?=some a)(hk:T[k]?=some b)(hne:i≠k):JI ss ((T.set i (a++b)).set k []) (Qn g b i b.length):=by
 have hil:=(Ac.1 hi).1;have hkl:=(Ac.1 hk).1;refine⟨by simp[h.len],(ZnF hi hk hne).trans h.perm,λi' t s ht hs=>?_⟩;unfold Qn;rw[Ai]
 by_cases e1:k=i'
 ·simp_all
 ·rw[AU e1]at ht
  by_cases e2:i=i'
  ·subst e2;rw[AT hil]at ht;cases ht
   by_cases e3:s.c∈b.map (·.c)
   ·rw[if_pos e3]
   ·rw[if_neg e3];rcases AB.1 hs with hs | hs
    ·exact h.g i a s hi hs
    grind
  ·rw[AU e2]at ht;have h1:=h.g i' t s ht hs;rw[if_neg]
   ·exact h1
   ·intro e3;obtain⟨s',hs',e4⟩:=Am.1 e3;have h2:=h.g k b s' hk hs'
    grind
theorem JI.nil:JI [] [] (λ_=>none):=⟨rfl,.refl _,λi t s h=>by simp at h⟩
theorem JI.snoc{ss:List Stop}{T:zn}{g:Int->Option Int}(h:JI ss T g)(s:Stop)(hs:s.c ∉ ss.map (·.c)):JI (ss++[s]) (T++[[s]]) (qT g s.c (some (ss.length:Int))):=by
 refine⟨by simp[h.len],by simpa using h.perm.append_right [s],λi t s' ht hst=>?_⟩;unfold qT;rcases Bi i T.length with hl | hl
 ·rw[Aq hl]at ht;have h1:s'∈ss:=h.perm.subset (BO.2 ⟨t,Ab ht,hst⟩);rw[if_neg]
  ·exact h.g i t s' ht hst
  simp_all
 ·rw[Al hl]at ht;have hi:i-T.length=0:=by
   have:=(Ac.1 ht).1;simp at this;omega
  rw[hi]at ht;simp at ht;subst ht;simp at hst;subst hst;rw[if_pos rfl,<-h.len]
  grind
open Go Hp
theorem V6{P:Program}{r:Rd}{n N:Nat}{Q:Exit->(Nat->PV)->Store->Prop}{F:Nat->PV}{c:Code}{T:Store}{o ver e0:Nat}{cs:List PV}(i:Nat)(hs:T o=.cells ver e0 cs)(hi:cs[i]?=some (.sc (.slice none 0 0)))
  (h:PW P r n N c Q F (T.set o (.cells ver e0 (cs.set i (.lst 0 []))))):PW P r n N c Q F T:=by
 refine Yz (F':=F) (S':=T.set o (.cells ver e0 (cs.set i (.lst 0 [])))) (λC w a st=>?_) h;have:=st.sim.relabel (cs':=cs.set i (.lst 0 [])) hs DZ (by
  intro k p' hp';rw[BB]at hp';split at hp'
  ·rename_i hij;subst hij;split at hp'
   ·cases hp';refine .inr ⟨_,hi,λv hv=>?_⟩;cases hv;exact .lst0
   ·cases hp'
  ·exact .inl hp')
 exact⟨C,⟨this.1,st.size,λk=>(st.fr k).mono this.2,r.keep this.2 st.v⟩,this.2⟩
abbrev Xa(x:Inst)(tid tv n:Nat)(num:Int)(mid mv:Nat):List PV:=[I x.days,I x.veh,I x.cap,I x.len,L x.cust,L x.dist,.sl tid tv 1 0 n,I num,.mp mid mv]
theorem Zce(cs:List PV)(k:Nat)(x:PV)(h:k<cs.length):yg cs k [x]=cs.set k x:=by simp_all[yg,AF]
theorem ZfL(T:zn):T.flatMap Enc.enc=T.map λt=>L t:=by induction T<;>simp_all
theorem yX{S:Store}{nx id:Nat}{o:Ob}(hd:zS nx S)(h:S id=o)(hne:o≠.dead):id<nx:=by
 rcases Bi id nx with q | q
 ·exact q
 ·rw[hd id q]at h;simp_all
theorem ZnI(x:Inst)(ss:List Stop)(T:zn)(g:Int->Option Int)(num:Int)(es:List (Value × PV)){S:Store}{jid jv tid tv mid mv:Nat}(hx:x.cust.length<=1048576)(hss:ss.length<=1000)(hnum:-1048576<=num/\num<=1048576)(hI:JI ss T g)(hm:MapIs qP I es g)
  (hj:S jid=.cells jv 387 (Xa x tid tv ss.length num mid mv)) (ht:S tid=.cells tv 40 (T.flatMap Enc.enc)) (hmid:S mid=.map mv es) (d1:jid≠tid) (d2:jid≠mid) (d3:tid≠mid)
  (p:Pr) (hpa:p.a∈ss.map (·.c)) (hpb:p.b∈ss.map (·.c)) :
  Spec prog 332 [.ptr jid jv 0,.agg [I p.a,I p.b,I p.s]] S (λ_ S'=>∃es' g',MapIs qP I es' g'/\JI ss (ji x (T,num) p).1 g' /\
   S'=((S.set jid (.cells jv 387 (Xa x tid tv ss.length (ji x (T,num) p).2 mid mv))).set tid (.cells tv 40 ((ji x (T,num) p).1.flatMap Enc.enc))).set mid (.map mv es')):=by
 obtain⟨i,a,sa,hia,hsa,hsac,hga,hpi⟩:=hI.there hpa;obtain⟨k,b,sb,hkb,hsb,hsbc,hgb,hpk⟩:=hI.there hpb;have hkey:KeyOk (.int .i64) qP:=Jc .i64;obtain⟨ra,fa1,fa2,fa3,fa4,fa5⟩:=hm.find hkey p.a;obtain⟨rb,fb1,fb2,fb3,fb4,fb5⟩:=hm.find hkey p.b;obtain⟨ja,rfl⟩:=fa3 _ hga;obtain⟨jb,rfl⟩:=fb3 _ hgb;refine yn func332 ntmps332 results332 λnx hd=>?_
 have hlj:jid<nx:=yX hd hj DZ;have hlt:tid<nx:=yX hd ht DZ;have hlm:mid<nx:=yX hd hmid DZ;have xj:=λobs=>zB (S:=S) (obs:=obs) hlj
 have xt:=λobs=>zB (S:=S) (obs:=obs) hlt
 have xm:=λobs=>zB (S:=S) (obs:=obs) hlm
 refine D7 ?_;intro v0;have hil:=(Ac.1 hia).1;have hkl:=(Ac.1 hkb).1;have hgi:T.getD i []=a:=by rw[Aa,hia];rfl
 have hgk:T.getD k []=b:=by rw[Aa,hkb];rfl
 have hdef:ji x (T,num) p=bif qB x num p i k a b then ((T.set i (a++b)).set k [],num-1) else (T,num):=by
  unfold ji Wt;simp only[hpi,hpk,hgi,hgk]
 have hstay:qB x num p i k a b=false->∃es' g',MapIs qP I es' g'/\JI ss (ji x (T,num) p).1 g' /\
   S=((S.set jid (.cells jv 387 (Xa x tid tv ss.length (ji x (T,num) p).2 mid mv))).set tid (.cells tv 40 ((ji x (T,num) p).1.flatMap Enc.enc))).set mid (.map mv es'):=by
  intro hc;rw[hdef,hc];refine⟨es,g,hm,hI,?_⟩;simp only[cond_false];rw[J5 S jid _ hj,J5 S tid _ ht,J5 S mid _ hmid]
 have hal2:a.length<=1000:=by
  have h1:=(Wu hia).length_eq;have h2:=hI.perm.length_eq;rw[Ar]at h1;omega
 have hbl2:b.length<=1000:=by
  have h1:=(Wu hkb).length_eq;have h2:=hI.perm.length_eq;rw[Ar]at h1;omega
 obtain⟨m,hal⟩:∃m,a.length=m+1:=⟨a.length-1,by cases a with | nil=>cases hsa | cons _ _=>simp⟩;have hb0:0<b.length:=by cases b with | nil=>cases hsb | cons _ _=>simp
 obtain⟨la,tla,la1,la2,la3,la4,la5⟩:=el 2 rfl a m DY;obtain⟨fb,b',hbc⟩:∃fb b',b=fb :: b':=by cases b with | nil=>cases hsb | cons x y=>simp
 have hend:Qm a=some la.c:=by unfold Qm;rw[hal,B5,la1];rfl
 have hhead:Jg b=some fb.c:=by rw[hbc];rfl
 obtain⟨ai,tai,i1,i2,i3,i0⟩:=zF rfl T i hil;rw[hia]at i1;cases i1;obtain⟨bk,tbk,k1,k2,k3,k0⟩:=zF rfl T k hkl;rw[hkb]at k1;cases k1;have hTl:=hI.len;have hil2:i<ss.length:=DY
 have hkl2:k<ss.length:=DY
 refine za (qz (nx:=nx) (σ:=Unit) (λ_=>True) (λ_=>[(0,.ptr jid jv 0),(3,.ptr nx v0 0),(4,I i),(5,I k)]) (λ_=>S) (λ_=>[.cells v0 392 [I p.a,I p.b,I p.s]]) ?_ ?_)
 ·repeat apply za
  refine zz none (Row.pures [0,1,2,3,4,5,7,8,9,10,11,12] (.alt 6 (Row.pures [14] (.alt 13 (Row.pures [15] .done) .stop)) (.alt 13 (.alt 6 (Row.pures [14,15] .done) .stop) .stop))) mixed (yd xj xt xm hj ht hmid) ?_;refine⟨?_,?_⟩
  ·refine⟨by rfl,(Zp rfl underlying384 underlying3 rfl rfl rfl ((xm _).trans hmid) fa1 z3 ?_)⟩;refine⟨by simp,jD trivial ?_⟩;refine⟨by rfl,(Zp rfl underlying384 underlying3 rfl rfl rfl ((xm _).trans hmid) fb1 z3 ?_)⟩;refine⟨by simp,jD trivial ?_⟩;exact zT () [] trivial (by simp[ZW]) rfl DZ
  ·refine⟨by rfl,(Zp rfl underlying384 underlying3 rfl rfl rfl ((xm _).trans hmid) fb1 z3 ?_)⟩;refine⟨by simp,jD trivial ?_⟩;refine⟨by rfl,(Zp rfl underlying384 underlying3 rfl rfl rfl ((xm _).trans hmid) fa1 z3 ?_)⟩;refine⟨by simp,jD trivial ?_⟩;exact zT () [] trivial (by simp[ZW]) rfl DZ
 intro _ _;refine za (zz none (Row.pures [0,1,2,3,4,5,6,7,8,9,10,11,12,13,14,15] .done) mixed (yd xj xt hj ht i0 (zN k0 hil2 hkl2 hTl)) ?_);have wm:IntKind.i64.wrap (m:Int)=m:=wr _ DY DY;have hm1:m<a.length:=DY
 refine za (qz (nx:=nx) (σ:=Unit) (λ_=>¬i=k/\la.c=p.a/\fb.c=p.b) (λ_=>[(0,.ptr jid jv 0),(3,.ptr nx v0 0),(4,I i),(5,I k),(6,L a),(7,L b)]) (λ_=>S) (λ_=>[.cells v0 392 [I p.a,I p.b,I p.s]]) ?_ ?_)
 ·by_cases h1:i=k
  ·have hc:qB x num p i k a b=false:=by simp[qB,h1]
   refine za (zz none (Row.pures [0,1,2,3,4,5,6,7,8,9,10,11,12,13,14,15,16,17,18,19,20,21,22,23] .done) mixed (zo h1 zH) ?_);exact zm rfl (zg ⟨_,S,rfl,hstay hc,zO hd⟩)
  have h1':¬(i:Int)=(k:Int):=DY
  have hm2:(m:Int)<(m:Int)+1:=DY
  by_cases h2:la.c=p.a
  case neg =>
   have hc:qB x num p i k a b=false:=by simp[qB,hend,h2]
   refine za (zz none (Row.pures [0,1,2,3,4,5,6,7,8,9,10,11,12,13,14,15,16,17,18,19,20,21,22,23] .done) mixed (yd h1' h2 hal wm hm2 (zD la4 la5 zH)) ?_);exact zm rfl (zg ⟨_,S,rfl,hstay hc,zO hd⟩)
  by_cases h3:fb.c=p.b
  case neg =>
   have hc:qB x num p i k a b=false:=by simp[qB,hhead,h3]
   refine za (zz none (Row.pures [0,1,2,3,4,5,6,7,8,9,10,11,12,13,14,15,16,17,18,19,20,21,22,23] .done) mixed (yd h1' h2 h3 hal wm (yF hm2 la4 la5 hbc zH)) ?_);exact zm rfl (zg ⟨_,S,rfl,hstay hc,zO hd⟩)
  refine za (zz none (Row.pures [0,1,2,3,4,5,6,7,8,9,10,11,12,13,14,15,16,17,18,19,20,21,22,23] .done) mixed (yd h1' h2 h3 hal wm (yF hm2 la4 la5 hbc zH)) ?_);exact zk rfl (zh (zT () [] ⟨h1,h2,h3⟩ (by simp[hal,hbc]) rfl DZ))
 rintro _ ⟨h1,h2,h3⟩;have hN0:-9223372036854775808<=num:=DY
 refine za (qz (nx:=nx) (σ:=Unit) (λ_=>¬(p.s<=0/\num<=x.veh)) (λ_=>[(0,.ptr jid jv 0),(3,.ptr nx v0 0),(4,I i),(5,I k),(6,L a),(7,L b)]) (λ_=>S) (λ_=>[.cells v0 392 [I p.a,I p.b,I p.s]]) ?_ ?_)
 ·by_cases h4:p.s<=0
  ·by_cases h5:num<=x.veh
   ·have hc:qB x num p i k a b=false:=by simp[qB,h4,h5]
    refine za (zz none (Row.pures [0,1,2,3,4,5,6,7,8,9,10,11,12,13,14] .done) mixed (yF xj hj h4 h5 zH) ?_);exact zm rfl (zg ⟨_,S,rfl,hstay hc,zO hd⟩)
   ·refine za (zz none (Row.pures [0,1,2,3,4,5,6,7,8,9,10,11,12,13,14] .done) mixed (yF xj hj h4 h5 zH) ?_);exact zk rfl (zh (zT () [] DY DZ rfl DZ))
  ·refine za (zz none (Row.pures [0,1,2,3,4,5,6,7,8,9,10,11,12,13,14] .done) mixed (zo h4 zH) ?_);exact zk rfl (zh (zT () [] DY DZ rfl DZ))
 intro _ h4;have hcon:=ZnD [a,b] DZ D2 D2;rw[show [a,b].flatten=a++b from by simp]at hcon;refine D7 ?_;refine zt hcon ?_;refine za (qz (nx:=nx) (σ:=Unit) (λ_=>zQ x (a++b)=0) (λ_=>[(0,.ptr jid jv 0),(3,.ptr nx v0 0),(4,I i),(5,I k),(6,L a),(7,L b),(8,L (a++b))]) (λ_=>S) (λ_=>[.cells v0 392 [I p.a,I p.b,I p.s]]) ?_ ?_)
 ·refine za (ze [] (zo xj hj) ?_);refine zt (Wp x (a++b) hx D2) ?_
  by_cases h5:zQ x (a++b)=0
  ·repeat apply za
   refine zk (by simp[h5]) ?_;exact zh (zT () [] h5 DZ rfl DZ)
  ·have hc:qB x num p i k a b=false:=by simp[qB,h5]
   refine zm (by simp[h5]) ?_;exact zg ⟨_,S,rfl,hstay hc,zO hd⟩
 intro _ h5;have h4':(decide (p.s<=0) && decide (num<=x.veh))=false:=Bool.eq_false_iff.2 λq=>h4 (by simpa using q)
 have hjoin:qB x num p i k a b=true:=by unfold qB;rw[h4',hend,hhead,h2,h3,h5];simp[h1]
 rw[hdef,hjoin];simp only[cond_true];have yj:=λ(o:Ob) obs=>(zB (S:=S.set mid o) (obs:=obs) hlj).trans ((q10 _ _ _ _ d2).trans hj)
 have ym:=λ(o:Ob) obs=>(zB (S:=S.set mid o) (obs:=obs) hlm).trans (q11 _ _ _)
 repeat apply za
 refine zb ?_;refine zj (jC (σ:=Nat × List (Value × PV)) (λs=>s.1<=b.length/\MapIs qP I s.2 (Qn g b i s.1)) (λs=>[(0,.ptr jid jv 0),(4,I i),(5,I k),(8,L (a++b)),(90,L b),(91,I b.length),(92,I s.1)]) (λs=>S.set mid (.map mv s.2)) (λ_=>[.cells v0 392 [I p.a,I p.b,I p.s]]) (λs=>b.length-s.1) (zT (0,es) [] ⟨by simp,by rw[ZnG];exact hm⟩ DZ (J5 S mid _ hmid) DZ) ?_);rintro⟨j,es2⟩ ⟨hjl,hm2'⟩;simp only at hjl hm2' ⊢;refine D7 ?_;refine za (zv rfl (λhq=>?_) (λhq=>?_))
 ·simp at hq;obtain⟨s,tl,a1,a2,a3,e1,e0⟩:=el 2 rfl b j hq;obtain⟨rs,f1,_,_,f4,_⟩:=hm2'.find hkey s.c;have hnew:=f4 (i:Int);rw[ZnH a3]at hnew;refine zh (za (zj (za (ze [] (zD e1 e0 hq) ?_))));intro v1;refine zz (some [jid,nx+1]) (Row.pures [0,1,2,3,4,5,6] (.alt 7 (.done) .stop)) mixed yj ?_;refine⟨by rfl,(YB (.inl rfl) underlying384 underlying3 rfl rfl rfl (ym _ _) f1 ?_)⟩;rw[qc _ hlm,Store.set_set];refine⟨by simp[yM,yj],jD trivial ?_⟩;refine zb ?_;exact zq (j+1,qS (qP s.c) (I i) es2 rs) [_] ⟨hq,hnew⟩ DY (by simp[zu j (by omega)]) rfl D0
 ·simp at hq;obtain rfl:j=b.length:=DY
  refine zx ?_;have yt1:=λ(o:Ob) obs=>(zB (S:=S.set mid o) (obs:=obs) hlt).trans ((q10 _ _ _ _ d3).trans ht)
  have yt2:=λ(o o':Ob) obs=>(zB (S:=(S.set mid o).set tid o') (obs:=obs) hlt).trans (q11 _ _ _)
  have yj2:=λ(o o':Ob) obs=>(zB (S:=(S.set mid o).set tid o') (obs:=obs) hlj).trans ((q10 _ _ _ _ d1).trans ((q10 _ _ _ _ d2).trans hj))
  have hlen1:(T.flatMap Enc.enc).length=ss.length:=by rw[jW,hTl]
  have hs1:=Zce (T.flatMap Enc.enc) i (L (a++b)) DY;have hs2:=Zce ((T.flatMap Enc.enc).set i (L (a++b))) k (.sc (.slice none 0 0)) D2;have hlt1:¬nx<=tid:=DY
  have hlj1:¬nx<=jid:=DY
  have wn:IntKind.i64.wrap (num-1)=num-1:=wr _ DY DY;refine za (zz (some [jid]) (Row.pures [0,1,2,3,4,5,6,7,8,9,10,11] (.alt 12 (Row.pures [13] (.alt 14 (.done) .stop)) .stop)) mixed (yd yj yt1 yt2 yj2 hs1 (yd hs2 hil2 hkl2 hlen1 hlt1 hTl)) ?_);refine⟨by omega,by omega,?_⟩;have hcs:((((T.flatMap Enc.enc).set i (L (a++b))).set k (.sc (.slice none 0 0))).set k (.lst 0 []))=((T.set i (a++b)).set k []).flatMap Enc.enc:=by
   rw[List.set_set,ZfL,ZfL,List.map_set,List.map_set];rfl
  refine V6 (o:=tid) k (yt2 _ _ _) (by rw[AT (by simp;omega)]) ?_;rw[qc _ hlt,Store.set_set,hcs];generalize ((T.set i (a++b)).set k []).flatMap Enc.enc=cs' at *;refine ze [] (zD yj2 hlj1 wn) ?_;have e1:∀(o o' o'':Ob),((S.set mid o).set tid o').set jid o''=((S.set jid o'').set tid o').set mid o:=by
   intro o o' o'';rw[Store.set_comm _ jid tid _ _ (λe=>d1 e.symm),Store.set_comm _ jid mid _ _ (λe=>d2 e.symm),Store.set_comm _ tid mid _ _ (λe=>d3 e.symm)]
  rw[e1];have hdd:∀(o o' o'':Ob),zS nx (((S.set jid o'').set tid o').set mid o):=by
   intro o o' o'' q hq;rw[q10 _ _ _ _ DY,q10 _ _ _ _ DY,q10 _ _ _ _ DY];exact hd q hq
  exact⟨_,_,rfl,⟨es2,_,hm2',hI.join hia hkb h1,rfl⟩,zO (hdd _ _ _)⟩
open Go Go.Shelf Go.RowKit Go.Lib Go.Sort
def Se:Store:=λ_=>.dead
def Ce:Ctx:=⟨λ_=>none,0,0⟩
theorem ZnJ(w:World):Sim Ce Se w :=
 ⟨λ_ h=>absurd rfl h,(λ_ _ h=>by cases h),λ_ _ _ _ _ h=>absurd rfl h,(λ_ _ _ _ h=>by cases h),(λ_ _ _ h=>by cases h)⟩
theorem Zcf(b:Nat):¬Ce.M Se b:=by rintro⟨o,k,h,_⟩;exact h rfl
inductive Fz:PV->Prop where
 | junk:Fz .junk
 | sc (v:Value):Fz (.sc v)
 | agg {cs:List PV} (h:∀p∈cs,Fz p):Fz (.agg cs)
 | lst {n:Nat} {cs:List PV} (h:∀p∈cs,Fz p):Fz (.lst n cs)
 | ip {cs:List PV} (h:∀p∈cs,Fz p):Fz (.ip cs)
theorem ZnK{C:Ctx}{S:Store}{w:World}{p:PV}{v:Value}(h:Rel C S w p v):Fz p->Rel Ce Se w p v:=by
 induction h with
 | junk v=>intro _;exact .junk v
 | sc v=>intro _;exact .sc v
 | agg hl h1 _ ih=>intro hz;cases hz with | agg hz=>exact .agg hl h1 λi c v hc hv=>ih i c v hc hv (hz c (Ab hc))
 | tup hl _ ih=>intro hz;cases hz
 | lst0=>intro _;exact .lst0
 | lst1 hn hm hb hM hs h1 _ ih=>intro hz;cases hz with | lst hz=>exact .lst1 hn hm hb (Zcf _) hs h1 λi c v hc hv=>ih i c v hc hv (hz c (Ab hc))
 | ip hb hM hs h1 _ ih=>intro hz;cases hz with | ip hz=>exact .ip hb (Zcf _) hs h1 λi c v hc hv=>ih i c v hc hv (hz c (Ab hc))
 | nl0=>intro hz;cases hz
 | nl _ _ _ _ _ _ _=>intro hz;cases hz
 | ptr _ _ _=>intro hz;cases hz
 | sl _ _ _=>intro hz;cases hz
 | fn _ _ _ _ _ _=>intro hz;cases hz
 | ifc _ _=>intro hz;cases hz
 | mp _ _ _=>intro hz;cases hz
theorem ZnL{W w':World}{C':Ctx}{S':Store}(h:Step Ce Se W C' S' w'):∃q os',w'=grow (W.drewN q) os':=by
 obtain⟨p,hp⟩:=regrown_of_below (w:=W) (w':=w') ⟨h.os,h.tape.1,h.output,h.size,λb hb=>(h.blocks b hb (Zcf b)).1⟩;have hd:=h.tape.2;rw[hp]at hd;refine⟨p.d-W.drawn,p.os,?_⟩
 simp_all[grow,redrawn,World.drewN]
section
variable {P:Program} {α:Type} [Inhabited α] {val:α->Int}
theorem ZnM{C:Ctx}{S:Store}{w:World}{x:Int}{v:Value}(h:Rel C S w (I x) v):v=.int .i64 x:=by cases h;rfl
abbrev vk(val:α->Int)(x:α):Value:=.int .i64 (val x)
theorem ZnN{g:Nat}{caps:List PV}{cf:α->α->Int}(hg:∀x y:α,Pure P g (I (val x) :: I (val y) :: caps) (I (cf x y)))(cb:Array Value)(hl:caps.length=cb.size){w:World}{blk size:Nat}
  (hr:∀(m:Nat) (os:Array Obj) (dk:Array α),dk.size=size->∀(i:Nat) (c:PV) (v:Value),caps[i]?=some c->cb[i]?=some v->Rel Ce Se (sortWorld (vk val) w blk 0 m dk os) c v):CmpLays1 P g cb (vk val) cf blk 0 size w:=by
 intro m os dk hs x y;refine((hg x y Se).2 Ce (sortWorld (vk val) w blk 0 m dk os) (#[vk val x,vk val y]++cb) (ZnJ _) D2 ?_).mono ?_
 ·intro i c v hc hv
  match i with
  | 0=>rw[Bw DZ]at hv;cases hc;cases hv;exact .sc _
  | 1=>rw[Bw DZ]at hv;cases hc;cases hv;exact .sc _
  | i+2 =>
   grind
 ·rintro e w' ⟨p,v,S',C',rfl,⟨rfl,rfl⟩,hrel,_,hst⟩;cases hrel
  grind[ZnL]
theorem ZfM{C:Ctx}{S:Store}{w:World}(hS:Sim C S w){id ver e b k:Nat}{cs0:List PV}{c:Array Value}(hid:S id=.cells ver e cs0)(g1:C.loc id=some (b,k))(g2:w.heap[b]?=some (.cells c e (0,0)))(g3:c.size=k)(dk:Array α)(hdk:dk.size<=k)(q:Nat)(os:Array Obj):
  Sim (C.at id ver (C.loc id)) (S.set id (.cells ver e (dk.toList.map λx=>I (val x)))) (sortWorld (vk val) w b 0 q dk os) /\
  Step C S w (C.at id ver (C.loc id)) (S.set id (.cells ver e (dk.toList.map λx=>I (val x)))) (sortWorld (vk val) w b 0 q dk os):=by
 have hb:b<w.heap.size:=qw g2;have hh:(sortWorld (vk val) w b 0 q dk os).heap[b]?=some (.cells (putCells (vk val) 0 dk c) e (0,0)):=by
  unfold sortWorld;rw[heap_grow_old _ _ (by simpa using hb)];simp[putRow,mapBlock,Sort.ahead,BG,g2,onCells]
 have hgr:w.grownBy (sortWorld (vk val) w b 0 q dk os) (some b):=by
  refine⟨rfl,rfl,rfl,by simp[sortWorld],λj hj hne=>?_⟩;unfold sortWorld;rw[heap_grow_old _ _ (by simpa using hj)];have:b≠j:=λe=>hne (by rw[e])
  simp[putRow,mapBlock,Sort.ahead,BG,this]
 have hcell:∀i,i<dk.size->∀v,(putCells (vk val) 0 dk c)[i]?=some v->v=vk val dk[i]!:=by
  intro i hi v hv;have hic:i<c.size:=DY
  simp[putCells,hi,hic]at hv;rw[<-hv,getElem!_pos dk i hi]
 refine hS.turn (l:=C.loc id) (ver':=ver) (cs':=dk.toList.map λx=>I (val x)) hid (Ag _) (λ_=>rfl) ⟨by simp_all,C6 _ _⟩
  (.inr ⟨b,k,_,g1,.inr (by rw[g1];rfl),hh,by simp_all[putCells],by simpa using hdk,λi v hi hv=>?_,λi p v hp hv=>?_⟩)
 ·rw[hcell i (by simpa using hi) v hv];rfl
 ·have hi:i<dk.size:=by have:=(Ac.1 hp).1;simpa using this
  rw[hcell i hi v hv];rw[Aj,Array.getElem?_toList,A5 hi]at hp;simp only[A3,Option.some.injEq]at hp;rw[<-hp,getElem!_pos dk i hi];exact .sc _
theorem ZnO{ρ:Ren}(L:SlLaysF.n6 P ρ)(hE:qq P (ρ.f 6)){S:Store}{id ver:Nat}{f:PV}:Spec P (ρ.f 6) [.sl id ver 1 0 0,f] S (λp S'=>S'=S):=by
 refine⟨hE,?_⟩;intro C w vs hS hl hr;obtain⟨v0,v1,rfl⟩:∃v0 v1,vs=#[v0,v1]:=by
  match vs,hl with
  | ⟨[a,b]⟩,_=>simp
 have hv0:=hr 0 _ v0 rfl rfl;cases hv0 with
 | sl h1 h2 h3 =>
  obtain⟨a,cap,rfl,q1,q2,q3,q4⟩:=h1;refine(AnyF.slices_SortFunc_none { L with } a cap _ w).mono ?_;rintro e w' ⟨rfl,rfl⟩;exact⟨.junk,_,S,C,rfl,rfl,.junk _,hS,.refl _ _ _⟩
theorem ZnP{ρ:Ren}(L:SlLaysF.n6 P ρ)(hE:qq P (ρ.f 6)){S:Store}{id ver e:Nat}(zs:List α)(hid:S id=.cells ver e (zs.map λx=>I (val x)))(hn:zs.length<=1048576)
  {g:Nat} (hG:qq P g) {caps:List PV} (hz:∀p∈caps,Fz p) (cf:α->α->Int) (hO:SWO (ltOf cf)) (hT:∀x y,(ltOf cf) x y=false->(ltOf cf) y x=false->x=y)
  (hg:∀x y:α,Pure P g (I (val x) :: I (val y) :: caps) (I (cf x y))) :
  Spec P (ρ.f 6) [.sl id ver 1 0 zs.length,.fn (.func g) [] caps] S (λp S'=>S'=S.set id (.cells ver e ((zs.mergeSort λx y=>!(ltOf cf) y x).map λx=>I (val x)))):=by
 refine⟨hE,?_⟩;intro C w vs hS hl hr;obtain⟨v0,v1,rfl⟩:∃v0 v1,vs=#[v0,v1]:=by
  match vs,hl with
  | ⟨[a,b]⟩,_=>simp
 have hv0:=hr 0 _ v0 rfl rfl;have hv1:=hr 1 _ v1 rfl rfl;cases hv1 with
 | @fn _ _ _ fv cv hf hc hh' hcap =>
 obtain rfl:fv=#[]:=D5
 cases hv0 with
 | sl h1 h2 h3 =>
  obtain⟨a,cap,rfl,q1,q2,q3,q4⟩:=h1
  by_cases h0:zs=[]
  ·subst h0;refine(AnyF.slices_SortFunc_none { L with } a cap _ w).mono ?_;rintro e w' ⟨rfl,rfl⟩;refine⟨.junk,_,S,C,rfl,?_,.junk _,hS,.refl _ _ _⟩
   grind[Store.set,List.mergeSort_nil]
  ·have hpos:0<zs.length:=Cg.2 h0;rcases hS.cells id ver _ _ hid with ⟨hn',hnil⟩ | ⟨b,k,c,g1,g2,g3,g4,g5,g6⟩
   ·simp_all
   ·have ha:a=some ⟨b,0,none⟩:=by
     rcases (h3 ver (by rw[hid];rfl)).2 rfl with ⟨z1,_⟩ | ⟨b',k',a',cap',z1,z2,z3,z4⟩
     ·omega
     ·grind
    subst ha;rw[List.length_map]at g4 g5;have hcells:∀i (hi:i<zs.length),c[i]?=some (vk val zs[i]):=by
     intro i hi;have hi':i<c.size:=DY
     have e1:(zs.map λx=>I (val x))[i]?=some (I (val zs[i])):=by simp[hi]
     have e2:c[i]?=some c[i]:=DZ
     rw[e2,ZnM (g6 i _ _ e1 e2)]
    have hH:Holds (vk val) w b 0 zs.toArray:=by
     intro j hj;have hj':j<zs.length:=by simpa using hj
     refine⟨?_,by grind[World.frozen?]⟩;simp only[World.cell?,g2,AQ,Dh,AV,if_false];rw[hcells j hj',getElem!_pos zs.toArray j hj];simp
    have hlays:CmpLays1 P g cv (vk val) cf b 0 zs.toArray.size w:=by
     refine ZnN hg cv DY λm os dk hs i p v hp hv=>?_
     obtain⟨_,st⟩:=ZfM (val:=val) hS hid g1 g2 g3 dk (by rw[hs];omega) m os;exact ZnK ((hcap i p v hp hv).mono st) (hz p (Ab hp))
    have hk:=Any.slices_SortFunc_total L (vk val) (λ_=>rfl) cf hO g cv b 0 cap zs.toArray w hG hlays hH (qw g2) D2 hT;simp only[BQ]at hk;refine hk.mono ?_;rintro e w' ⟨rfl,m,os,rfl⟩;obtain⟨t1,t2⟩:=ZfM (val:=val) hS hid g1 g2 g3 (zs.mergeSort λx y=>!(ltOf cf) y x).toArray (by simpa using g4) m os;exact⟨.junk,_,_,_,rfl,rfl,.junk _,t1,t2⟩
end
open Go
theorem ZfN(x:Int):Pure prog 303 [I x] (B false):=by
 refine zr func303 ntmps303 results303 λS nx hd=>?_
 refine D7 ?_;refine D7 ?_;exact D8 hd
theorem ZfO(x y:Int):Pure prog 376 [I x,I y] (I (uG x y)):=by
 refine zr func376 ntmps376 results376 λS nx hd=>?_
 refine D7 ?_;refine D7 ?_;refine zt (ZfN x) ?_;refine D7 ?_;refine zt (ZfN y) ?_
 repeat apply za
 refine zb ?_;refine zk DZ ?_;refine zh ?_
 repeat apply za
 refine zb ?_;refine zk DZ ?_;refine zh ?_
 by_cases h1:x<y
 ·repeat apply za
  refine ze [] h1 ?_;refine zm (by simp[h1]) ?_;refine D7 ?_;exact zg (zi hd D0 (by simp[uG,h1,zp]))
 repeat apply za
 refine ze [] h1 ?_;refine zk (by simp[h1]) ?_;refine zh ?_
 by_cases h2:y<x
 ·repeat apply za
  refine ze [] h2 ?_;refine zm (by simp[h2]) ?_;refine D7 ?_;exact zg (zi hd D0 (by simp[uG,h1,h2,zp]))
 repeat apply za
 refine ze [] h2 ?_;refine zk (by simp[h2]) ?_;refine zh (D7 ?_);exact zg (zi hd D0 (by simp[uG,h1,h2,zp]))
theorem ZnQ(x y:Int):Pure prog 375 [.lst 2 [I x,I y]] (I (if x=0 then y else x)):=by
 refine zr func375 ntmps375 results375 λS nx hd=>?_
 refine D7 ?_;refine D7 ?_
 repeat apply za
 refine zb ?_;refine zj (zC (λs:Nat=>s<=2/\(0<s->x=0)/\(1<s->y=0)) (λk=>[(3,I 0),(6,.lst 2 [I x,I y]),(7,I 2),(8,I k)]) (λ_=>[]) (λs=>2-s) 0 [] DZ DZ DZ ?_);rintro k ⟨hk,hk1,hk2⟩
 match k,hk,hk1,hk2 with
 | 0,_,_,_ =>
  refine D7 ?_;refine za (zm DZ ?_);refine zh (za (zj (D7 ?_)))
  by_cases hx:x=0
  ·refine za (ze [] hx ?_);refine zk (by simp[hx]) ?_;refine zh (zb ?_);exact zq 1 [] ⟨by omega,λ_=>hx,by omega⟩ DY (by simp[hx];rfl) rfl DZ
  ·refine za (ze [] hx ?_);refine zm (by simp[hx]) ?_;refine D7 ?_;exact zg (zi hd D0 (by simp[hx,zp]))
 | 1,_,hk1,_ =>
  have hx:=hk1 DY;refine D7 ?_;refine za (zm DZ ?_);refine zh (za (zj (D7 ?_)))
  by_cases hy:y=0
  ·refine za (ze [] hy ?_);refine zk (by simp[hy]) ?_;refine zh (zb ?_);exact zq 2 [] ⟨by omega,λ_=>hx,λ_=>hy⟩ DY (by simp[hy];rfl) rfl DZ
  ·refine za (ze [] hy ?_);refine zm (by simp[hy]) ?_;refine D7 ?_;exact zg (zi hd D0 (by simp[hx,zp]))
 | 2,_,hk1,hk2 =>
  refine D7 ?_;refine za (zk DZ ?_);refine zx (D7 ?_);exact zg (zi hd D0 (by simp[hk1 (by omega),hk2 (by omega),zp]))
theorem ZnR(l:List Int)(i j:Fin l.length)(hn:l.length<=1048576):Pure prog 374 [I i.val,I j.val,.ip [L l]] (I (vf l i j)):=by
 obtain⟨a,tl,a1,a2,a3,e0⟩:=zF rfl l i.val i.isLt;obtain⟨b,tl2,b1,b2,b3,e1⟩:=zF rfl l j.val j.isLt;have hi:=i.isLt;have hj:=j.isLt;have ha:l.getD i.val 0=a:=by rw[Aa,a1];rfl
 have hb:l.getD j.val 0=b:=by rw[Aa,b1];rfl
 have hor:=ZnQ (uG a b) (uG i.val j.val);have hres:vf l i j=if uG a b=0 then uG (i.val:Int) j.val else uG a b:=by unfold vf;rw[ha,hb]
 rw[hres];refine zr func374 ntmps374 results374 λS nx hd=>?_
 refine D7 ?_;refine za (zz none (Row.pures [0,1,2,3,4,5,6,7,8,9,10,11,12,13,14] .done) mixed (zN hi hj e0 e1) ?_);refine zG (ZfO a b) (zN hi hj e0 e1) ?_;refine zG (ZfO i.val j.val) trivial ?_;refine zG (hor) trivial ?_;exact D8 hd
theorem Zcg(l:List Int):l.flatMap Enc.enc=l.map I:=by induction l<;>simp_all
theorem ZnS(l:List Int):∀p∈[PV.ip [L l]],Fz p:=by
 intro p hp;simp only[AW]at hp;subst hp;refine .ip λq hq=>?_
 simp only[AW]at hq;subst hq;refine .lst λr hr=>?_
 rw[Zcg]at hr;obtain⟨x,_,rfl⟩:=Am.1 hr;exact .sc _
def vO(n k:Nat):List Int:=(List.range n).map λi=>if i<k then (i:Int) else 0
theorem ZnT(n k:Nat):(vO n k).length=n:=by simp[vO]
theorem ZnU(n:Nat):vO n 0=List.replicate n 0:=by
 apply Bd
 ·simp[vO]
 ·intro i h1 h2;simp[vO]
theorem ZnV(n k:Nat)(h:k<n):(vO n k).set k (k:Int)=vO n (k+1):=by
 apply Bd
 ·simp[vO]
 ·intro i h1 h2;rw[C5];simp only[vO,CE,CI]
  by_cases e:k=i
  ·subst e;rw[if_pos rfl,if_pos DY]
  ·rw[if_neg e]
   by_cases h3:i<k
   ·rw[if_pos h3,if_pos DY]
   ·rw[if_neg h3,if_neg DY]
theorem ZnW(n:Nat):vO n n=(List.finRange n).map λx=>(x.val:Int):=by
 apply Bd
 ·simp[vO]
 ·intro i h1 h2;have:i<n:=by simpa[vO] using h1
  simp[vO,this]
theorem ZfP{α:Type}(l:List α)(f:α->Int):(l.map f).flatMap Enc.enc=l.map λx=>I (f x):=by induction l<;>simp_all
theorem ZnX(n:Nat):qb n (.int .i64 0)=(List.replicate n (0:Int)).flatMap Enc.enc:=by
 induction n with
 | zero=>simp
 | succ n ih=>rw[Qe,ih,Bh];simp[jl,Value.cells]
theorem ZnY(l:List Int)(k:Nat)(v:Int)(h:k<l.length):yg (l.flatMap Enc.enc) k [I v]=(l.set k v).flatMap Enc.enc:=by
 rw[Zcg,Zcg,yg,List.map_set,AF,if_pos (by simpa using h)];simp
theorem ZnZ(l:List Int)(hn:l.length<=1048576):Pure prog 366 [L l] (L (uk l)):=by
 have hE:qq prog 373:=qm func373 D3 rfl;have hG:qq prog 374:=qm func374 D3 rfl;refine zr func366 ntmps366 results366 λS nx hd=>?_
 refine D7 ?_;intro v0;refine D7 ?_;refine⟨by omega,λv1=>?_⟩
 repeat apply za
 refine zb ?_;refine zj (zC (λs:Nat=>s<=l.length) (λk=>[(1,.ptr nx v0 0),(3,.sl (nx+1) v1 1 0 l.length),(9,I l.length),(10,I k)]) (λk=>[.cells v0 26 [L l],.cells v1 3 ((vO l.length k).flatMap Enc.enc)]) (λs=>l.length-s) 0 [] DZ DZ (by simp[ZnU,ZnX]) ?_);rintro k hk;refine D7 ?_;refine za (zv rfl (λhc=>?_) (λhc=>?_))
 ·simp at hc;have hl1:=ZnT l.length k;have hsp:=ZnY (vO l.length k) k k DY;rw[ZnV _ _ hc]at hsp;refine zh (za (zj (D7 ?_)));refine ze [] (zD hc hl1 hsp) ?_;refine⟨by omega,?_⟩;refine zb ?_;exact zq (k+1) [] hc DY (by simp[zu k (by omega)]) rfl DZ
 ·simp at hc;obtain rfl:k=l.length:=DY
  refine zx ?_;rw[ZnW,ZfP];refine x7 0 rfl ?_;refine D7 ?_
  by_cases h0:l.length=0
  ·obtain rfl:l=[]:=Av h0;refine λhsuf=>((ZnO laysSlF6_f373 hE).mono ?_).v
   rintro _ _ rfl;refine⟨_,_,rfl,zL hsuf ?_⟩;refine zX 1 rfl ?_;refine D7 ?_;have hs0:uk []=[]:=Av (Zb8 []);exact zg (zi hd D0 (by rw[hs0];rfl))
  ·haveI:Inhabited (Fin l.length):=⟨⟨0,by omega⟩⟩
   have hs:=λS id ver hid=>ZnP (S:=S) (id:=id) (ver:=ver) (e:=3) (val:=λi:Fin l.length=>(i.val:Int)) laysSlF6_f373 hE (List.finRange l.length) hid D2 hG (ZnS l) (vf l) (V2 l) (ZfH l) (λx y=>ZnR l x y hn)
   rw[List.length_finRange]at hs;have hfl:=ZfP (Je l) (λi=>(i.val:Int));have hsl:=Zb8 l;refine λhsuf=>((hs _ (nx+1) v1 (by rw[zZ];rfl)).mono ?_).v
   rintro _ _ rfl;refine⟨_,_,yl _ DY DZ,?_⟩;rw[show (((List.finRange l.length).mergeSort λx y=>!(ltOf (vf l)) y x).map λx=>I (x.val:Int))=(uk l).flatMap Enc.enc from hfl.symm];refine jM [] (show nx+1-nx=1 from by omega) hsuf ?_;refine zX 1 rfl ?_;refine za (ze [] hsl ?_);exact zg (zi hd D0 (by simp[zp,hsl]))
open Go Hp
theorem Zn0(x:Inst)(c:List Int)(a b:Int):jX x (c++[b]) a=jX x c a++(if b≠a then [⟨a,b,uH x a b⟩] else []):=by
 unfold jX
 by_cases h:b=a<;>simp[h]
theorem Zn1(x:Inst)(c:List Int)(a:Int):(jX x c a).length<=c.length:=by
 unfold jX;rw[List.length_map];exact BI _ _
theorem Zn2(l:List Pr)(p:Pr):qQ (l++[p])=qQ l++[-p.s]:=by simp[qQ]
theorem Zn3(l:List Pr):(qQ l).length=l.length:=by simp[qQ]
theorem Zn4(x:Inst)(c:List Int)(a:Int)(hx:qX x)(hc:c.length<=1048576)(hs:∀b∈c,qe b)(ha:qe a):Pure prog 347 [.agg (zy x),L c,I a] (L (wO x c a)):=by
 refine zr func347 ntmps347 results347 λS nx hd=>?_
 refine D7 ?_;intro v0;refine D7 ?_;refine za (qx 7 392 3 rfl λv1=>?_);refine zb ?_;refine za (qx 8 3 1 rfl λv2=>?_);refine D7 ?_;refine zj (zC (λs:Nat × List Pr × Nat × Nat=>s.1<=c.length/\s.2.1=jX x (c.take s.1) a) (λ(k,ps,v1,v2)=>[(1,L c),(2,I a),(3,.ptr nx v0 0),(7,.sl (nx+1) v1 3 0 ps.length),(8,.sl (nx+2) v2 1 0 ps.length),(15,L c),(16,I c.length),(17,I k)]) (λ(k,ps,v1,v2)=>[.cells v0 25 (zy x),.cells v1 392 (ps.flatMap Enc.enc),.cells v2 3 ((qQ ps).flatMap Enc.enc)]) (λs=>c.length-s.1) (0,[],v1,v2) [] (by simp[jX]) DZ (by simp[qQ]) ?_);rintro⟨k,ps,v1,v2⟩ ⟨hk,ho⟩;simp only at hk ho ⊢;have hpl:ps.length<=k:=by rw[ho];refine AD (Zn1 _ _ _) ?_;simp;omega
 have hnl:=Zn3 ps;refine D7 ?_;refine za (zv rfl (λhq=>?_) (λhq=>?_))
 ·simp at hq;obtain⟨b,tl,a1,a2,a3,e0⟩:=zF rfl c k hq;have hb:=hs b (Ab a1);have hsv:=Zcc hx a b;have w5:IntKind.i64.wrap (-uH x a b)=-uH x a b:=wr _ DY DY;have hsn:=Zn0 x (c.take k) a b;rw[<-a3,<-ho]at hsn;refine zh (za (zj (za (ze [] (zo e0 hq) ?_))));refine D7 ?_;refine zv rfl (λhne=>?_) (λhne=>?_)
  ·simp at hne;rw[if_pos hne]at hsn;refine D7 ?_;refine zt (ZnA x a b hx ha hb) ?_;intro v3;refine D7 ?_;refine⟨by omega,?_⟩;have htk:List.take ps.length ((qQ ps).flatMap Enc.enc)=(qQ ps).flatMap Enc.enc:=by rw[<-hnl];exact Zlu _
   have hnf:((qQ ps).flatMap Enc.enc).length=ps.length:=by rw[jf,hnl]
   refine ze [] (zD w5 htk hnf) ?_;refine⟨by omega,?_⟩;refine zb ?_;exact zq (k+1,ps++[⟨a,b,uH x a b⟩],v1+1,v2+1) [_] ⟨hq,hsn.symm⟩ D2 (by simp[zu k (by omega)]) rfl (by simp[Zn2];rfl)
  ·simp at hne;rw[if_neg (by simp[hne]),AC]at hsn;refine zh (zb ?_);exact zq (k+1,ps,v1,v2) [] ⟨hq,hsn.symm⟩ D2 (by simp[zu k (by omega)]) rfl DZ
 ·simp at hq;obtain rfl:k=c.length:=DY
  rw[Ai]at ho;refine zx (zX 1 rfl ?_);refine zX 2 rfl ?_;refine D7 ?_;refine za (qx 12 392 3 rfl λv3=>?_);have hrw:wO x c a=(uk (qQ ps)).map (ul ps):=by rw[ho];rfl
  rw[hrw];have hsl:=Zb8 (qQ ps);have hmem:∀z∈uk (qQ ps),0<=z/\z<ps.length:=λz h=>by have:=Zni h;omega
  have hcall:=ZnZ (qQ ps) DY;rw[show L (qQ ps)=PV.lst ps.length ((qQ ps).flatMap Enc.enc) from by rw[<-hnl]]at hcall;generalize qQ ps=ns at *;refine za (ze [] hnl ?_);refine zt hcall ?_;generalize uk ns=is at *;refine zj (zC (λs:Nat × List Pr × Nat=>s.1<=is.length/\s.2.1=(is.take s.1).map (ul ps)) (λ(k,os,v)=>[(7,L ps),(12,.sl (nx+3) v 3 0 os.length),(43,L is),(44,I is.length),(45,I k)]) (λ(k,os,v)=>[.cells v0 25 (zy x),.dead,.dead,.cells v 392 (os.flatMap Enc.enc)]) (λs=>is.length-s.1) (0,[],v3) [] DZ (by simp[hnl]) DZ ?_);rintro⟨k,os,v⟩ ⟨hk,ho2⟩;simp only at hk ho2 ⊢;refine D7 ?_;refine za (zv rfl (λhq=>?_) (λhq=>?_))
  ·simp at hq;obtain⟨i,tl,a1,a2,a3,e0⟩:=zF rfl is k hq;obtain⟨q1,q2⟩:=hmem i (Ab a1);obtain⟨j,rfl⟩:∃j:Nat,i=j:=⟨i.toNat,by omega⟩;have hj:j<ps.length:=DY
   obtain⟨p,tp,b1,b2,b3,e1,e2⟩:=el 3 rfl ps j hj;have hg:ul ps (j:Int)=p:=by simp[ul,Aa,b1]
   have hgs:(is.take (k+1)).map (ul ps)=os++[p]:=by rw[a3,ho2];simp[hg]
   have hgl:os.length=k:=by rw[ho2];simp;omega
   refine zh (za (zj (za (ze [] (zo e0 hq) ?_))));refine ze [] (zD e1 e2 hj) ?_;refine⟨by omega,?_⟩;refine zb ?_;exact zq (k+1,os++[p],v+1) [] ⟨hq,hgs.symm⟩ D2 (by simp[zu k (by omega)]) rfl DZ
  ·simp at hq;obtain rfl:k=is.length:=DY
   rw[Ai]at ho2;refine zx (zX 3 rfl ?_);refine D7 ?_;exact zg (zi hd D0 (by simp[zp,ho2]))
open Go Hp
@[simp] theorem Zzw(d1 d2 a b c:Ob)(l:List Ob)(o:Ob × Ob × Ob):Z3 (d1 :: d2 :: a :: b :: c :: l) 2 o=d1 :: d2 :: o.1 :: o.2.1 :: o.2.2 :: l:=rfl
theorem HX.srt{o:Ob × Ob × Ob}{a hv mv:Nat}{r:zJ Int}(h:HX o a hv mv r):ui r:=by
 obtain⟨_,_,_,h⟩:=h (λi=>if i=a then o.1 else if i=a+1 then o.2.1 else o.2.2) DZ DZ DZ;exact h
theorem Zn5{id:Int}{r:zJ Int}(h:∀x∈r,x.1≠id):xe id r=false:=by grind[xe]
def Wv(p:Pr):List PV:=[.agg [I p.a,I p.b,I p.s]]
def xg(x:Inst)(c:List Int)(k:Nat):List (List Pr):=(c.take k).map (wO x c)
theorem ZfQ(x:Inst)(c:List Int):xg x c 0=[]:=by simp[xg]
theorem Zn6{x:Inst}{c:List Int}{k:Nat}{a:Int}(h:c.take (k+1)=c.take k++[a]):xg x c (k+1)=xg x c k++[wO x c a]:=by simp[xg,h]
theorem Zn7(x:Inst)(c:List Int):xg x c c.length=c.map (wO x c):=by simp[xg]
theorem ZfR(x:Inst)(c:List Int)(k:Nat)(h:k<=c.length):(xg x c k).length=k:=by simp_all[xg]
def uI(rows:List (List Pr))(n:Nat):List PV:=rows.flatMap Enc.enc++List.replicate (n-rows.length) (.sc (.slice none 0 0))
theorem ZfS(rows:List (List Pr))(n:Nat)(h:rows.length<=n):(uI rows n).length=n:=by simp_all[uI]
theorem Zn8(n:Nat):uI [] n=qb n (.slice none 0 0):=by
 unfold uI;simp only[B9,AK,Ah,DU]
 induction n<;>simp_all[Qe,Bh]
theorem Zn9(rows:List (List Pr)):uI rows rows.length=rows.flatMap Enc.enc:=by simp[uI]
theorem Zoa(rows:List (List Pr))(n:Nat)(r:List Pr)(h:rows.length<n):yg (uI rows n) rows.length [L r]=uI (rows++[r]) n:=by
 unfold uI yg;have h1:(rows.flatMap Enc.enc).length=rows.length:=jW rows;obtain⟨m,hm⟩:∃m,n-rows.length=m+1:=⟨n-rows.length-1,by omega⟩;rw[hm,Bh];rw[Bz DY,Af DY];rw[CD,AZ DZ];simp[h1,show n-(rows.length+1)=m by omega]
theorem Zob(rows:List (List Pr))(n:Nat)(r:List Pr):(uI (rows++[r]) n)[rows.length]?=some (L r):=by
 unfold uI;rw[Ap,List.append_assoc,Al (by rw[jW];exact Ag _),jW];simp
theorem Zoc(rows:List (List Pr))(k:Nat)(r:List Pr)(h:k<rows.length):yg (rows.flatMap Enc.enc) k [L r]=(rows.set k r).flatMap Enc.enc:=by
 have e:∀l:List (List Pr),l.flatMap Enc.enc=l.map λr=>L r:=λl=>by induction l<;>simp_all
 rw[e,e,yg,List.map_set,AF,if_pos (by simpa using h)];simp
theorem V7:∀(rows:List (List Pr)) (i:Nat) (r:List Pr),yS i (rows++[r])=yS i rows++yS (i+rows.length) [r]
 | [],i,r=>by simp[yS]
 | [] :: rows,i,r=>by
  simp only[List.cons_append,yS,Ad];rw[V7 rows (i+1) r,show i+1+rows.length=i+(rows.length+1) by omega]
 | (p :: l) :: rows,i,r=>by
  simp only[List.cons_append,yS,Ad];rw[V7 rows (i+1) r,show i+1+rows.length=i+(rows.length+1) by omega]
theorem Zod(rows:List (List Pr)):yS 0 (rows++[[]])=yS 0 rows:=by rw[V7];simp[yS]
theorem Zoe(rows:List (List Pr))(p:Pr)(tl:List Pr):(yS 0 (rows++[p :: tl])).Perm (((rows.length:Int),-p.s) :: yS 0 rows):=by
 rw[V7];simp only[yS,AQ];exact CY
theorem ZfT{rows:List (List Pr)}{k:Nat}(h:rows.getD k []=[]){r:zJ Int}(hp:r.Perm (yS 0 rows)):xe (k:Int) r=false:=by
 refine Zn5 λx hx e=>?_
 obtain⟨j,p,tl,hj,rfl⟩:=(J9 rows 0 x).1 (hp.subset hx);simp only[AQ]at e;have:j=k:=DY
 subst this;rw[Aa,hj]at h;cases h
theorem Zof(x:Inst)(ss:List Stop):Pure prog 331 [.agg (zy x),L ss] (.fn (.func 345) [] [.ip [L ss],.ip (zy x)]):=by
 refine zr func331 ntmps331 results331 λS nx hd=>?_
 refine D7 ?_;intro v0 v1;refine D7 ?_;refine x7 0 rfl ?_;refine x7 1 rfl ?_;exact D8 hd
theorem Zog(x:Inst)(ss:List Stop)(hx:qX x)(hss:ss.length<=1048576)(hs:∀s∈ss,qe s.c)(hnd:(ss.map (·.c)).Nodup):Qi prog 345 [.ip [L ss],.ip (zy x)] ((qW x (ss.map (·.c))).map Wv):=by
 have hcust:=λS nx hd=>Wl ss hss S nx hd
 obtain⟨zs,hzs⟩:∃zs,zs=ss.map (·.c):=⟨_,rfl⟩;have hzl:ss.length=zs.length:=by rw[hzs];simp
 rw[<-hzs,hzl]at hcust;rw[<-hzs]at hnd ⊢;have hzsm:∀b∈zs,qe b:=by
  intro b hb;rw[hzs]at hb;obtain⟨s,h1,rfl⟩:=Am.1 hb;exact hs s h1
 have hz1:=Wn zs;have hz2:=Zfn zs;have hz3:=(ZbW zs).2 hnd;have hz4:=Qk zs;have hz5:qW x zs=qW x (yU zs):=Znq hnd hz3 hz2.symm;have hz6:(yU zs).Pairwise (· < ·):=(List.Pairwise.and hz1 hz3).imp λ⟨h1,h2⟩=>by omega
 have hzn:zs.length<=1048576:=DY
 have hcsm:∀b∈yU zs,qe b:=λb hb=>hzsm b (hz2.subset hb)
 have hsort:=λ(S:Store) (id ver:Nat) (hid:S id=.cells ver 3 (zs.flatMap Enc.enc))=>VY zs hid hzn
 rw[hz5];generalize yU zs=c at *;clear hzs hz1 hz5;refine Wf func345 D3 rfl ntmps345 (congrArg Array.toList results345) DZ λl V keep nx J hJd hY A0 hA0=>?_
 refine D7 ?_;refine λhsuf=>((hcust _ _ jU).mono ?_).v
 rintro _ _ ⟨v1,rfl,rfl⟩;refine⟨_,_,JY _,jM [] Nat.add_assoc hsuf ?_⟩;refine D7 ?_;refine λhsuf=>((hsort _ _ _ DZ).mono ?_).v
 rintro _ _ rfl;refine⟨_,_,yl _ DZ DZ,zL hsuf ?_⟩;rw[<-hz4];refine zX 1 rfl ?_;refine D7 ?_;refine λhsuf=>(Zne.mono ?_).v
 rintro p _ ⟨hv,mv,o1,rfl,m1,rfl⟩;refine⟨_,_,rfl,zL hsuf ?_⟩;simp at m1;refine D7 ?_;refine⟨by omega,λv0=>?_⟩
 repeat apply za
 refine zb ?_;have hpw:∀(row:List Pr) (a:Int),row=wO x c a->∀p∈row,IntKind.i64.wrap (-p.s)=-p.s:=by
  intro row a e p hp;rw[e]at hp;have h1:=(Zcb x c a).subset hp;unfold jX at h1;obtain⟨b,_,rfl⟩:=Am.1 h1;have:=Zcc hx a b
  show IntKind.i64.wrap (-uH x a b)=-uH x a b
  exact wr _ DY DY
 refine zj (zC (λs:Nat × zJ Int × (Ob × Ob × Ob) × Nat=>s.1<=c.length/\s.2.1.Perm (yS 0 (xg x c s.1))/\HX s.2.2.1 (nx+2) hv mv s.2.1) (λ(k,its,o,v)=>[(0,jV l),(2,.ip (zy x)),(4,L c),(5,.ptr (nx+3) hv 0),(6,.sl (nx+5) v 1 0 c.length),(21,L c),(22,I c.length),(23,I k)]) (λ(k,its,o,v)=>[.dead,.dead,o.1,o.2.1,o.2.2,.cells v 429 (uI (xg x c k) c.length)]) (λs=>c.length-s.1) (0,[],o1,v0) [] ⟨by simp,by simp[ZfQ,yS],m1⟩ DZ (by simp[ZfQ,Zn8]) ?_);rintro⟨k,its,o,v⟩ ⟨hk,hp,hm⟩;simp only at hk hp hm ⊢;refine D7 ?_;refine za (zv rfl (λhq=>?_) (λhq=>?_))
 ·simp at hq;obtain⟨a,tl,a1,a2,a3,e0⟩:=zF rfl c k hq;have hkl:=ZfR x c k DY;have hks:=Zn6 (x:=x) a3;have hput:=Zoa (xg x c k) c.length (wO x c a) DY;have hat:=Zob (xg x c k) c.length (wO x c a);have hrl:=ZfS (xg x c k) c.length DY;have hrl2:=ZfS (xg x c k++[wO x c a]) c.length D2;rw[hkl]at hput hat;have hno:xe (k:Int) its=false:=ZfT (k:=k) (rows:=xg x c k) (by rw[Aa,Ak (by omega)];rfl) hp;have hil:its.length<=k:=by rw[hp.length_eq];exact AD (V5 _ _) DY
  refine zh (za (zj (za (ze [] (zo e0 hq) ?_))));refine D7 ?_;refine qt [] (Zn4 x c a hx DY hcsm (hcsm a (Ab a1))) (zD hput hrl hq) ?_;refine⟨by omega,?_⟩;have hw:=hpw (wO x c a) a rfl;have hsn:=Zoe (xg x c k);have hsn0:=Zod (xg x c k);generalize hrow:wO x c a=row at *;have hat2:∀h,(uI (xg x c k++[row]) c.length)[k]'h=L row:=λh=>(Ac.1 hat).2
  refine za (ze [] (zD hat2 hq hrl2) ?_);cases row with
  | nil =>
   refine zk rfl (zh (zb ?_));refine zq (k+1,its,o,v) [] ⟨hq,?_,hm⟩ D2 (by simp[zu k (by omega)]) rfl (by simp[hks]);simp only[hks,hsn0];exact hp
  | cons p rl =>
   have hwp:=hw p DZ;refine zm DZ ?_;refine ze [] (zN hat2 hq hrl2 hwp) ?_;refine λhsuf=>((ZfG (j:=2) hm rfl rfl rfl (k:Int) (-p.s) DY).mono ?_).v
   rintro _ T ⟨rfl,o2,m2,rfl⟩;refine⟨_,_,rfl,?_⟩;rw[hno]at m2;simp only[cond_false]at m2;refine zL hsuf ?_;refine zb ?_;refine zq (k+1,Z2 ((k:Int),-p.s) its,o2,v) [] ⟨hq,?_,m2⟩ D2 (by simp[zu k (by omega)]) rfl (by simp[hks]);simp only[hks];have:=hsn p rl;rw[hkl]at this;exact(Wr _ _).trans ((hp.cons _).trans this.symm)
 ·simp at hq;obtain rfl:k=c.length:=DY
  obtain⟨hb1,hb2,hb3⟩:=Zny (x:=x) hz6;rw[<-Zn7]at hb1 hb2 hb3;have hrl:=ZfR x c c.length (Ag _);have hrc:=Zn9 (xg x c c.length);rw[hrl]at hrc;rw[hrc];generalize xg x c c.length=rows at *;refine zx (zj (jC (σ:=Nat × Store × List (List Pr) × zJ Int × (Ob × Ob × Ob) × Nat) (λs=>s.1<=(qW x c).length/\J s.1 s.2.1/\Rows' c s.2.2.1/\(∀r∈s.2.2.1,Sd wN r)/\s.2.2.1.flatten.Perm ((qW x c).drop s.1)/\s.2.2.2.1.Perm (yS 0 s.2.2.1)/\HX s.2.2.2.2.1 (nx+2) hv mv s.2.2.2.1) (λs=>[(0,jV l),(5,.ptr (nx+3) hv 0),(6,.sl (nx+5) s.2.2.2.2.2 1 0 c.length)]) (λs=>s.2.1) (λs=>[.dead,.dead,s.2.2.2.2.1.1,s.2.2.2.2.1.2.1,s.2.2.2.2.1.2.2,.cells s.2.2.2.2.2 429 (s.2.2.1.flatMap Enc.enc)]) (λs=>(qW x c).length-s.1) (zT (0,A0,rows,its,o,v) [] ⟨by simp,hA0,hb1,hb2,by simpa using hb3,hp,hm⟩ DZ rfl DZ) ?_));rintro⟨i,A,rows,its,o,v⟩ ⟨hi,hJ,hr1,hr2,hr3,hp,hm⟩;simp only at hi hJ hr1 hr2 hr3 hp hm ⊢;have hrl:rows.length=c.length:=hr1.len;have hs:=hm.srt;refine zj (za (xx [] D3 D3 λK Gc Gh hK hGc hGh X hX0 hX=>?_));simp -implicitDefEqProofs [hX0,hX]
  try clear hX0 hX X
  refine hGc _ _ _ _ _ _ _ λhsuf=>((Znd (j:=2) hm rfl rfl rfl).mono ?_).v
  rintro _ T ⟨rfl,o2,m2,rfl⟩;refine⟨_,_,rfl,?_⟩;cases its with
  | nil =>
   clear hGc hGh;clear Gc Gh;refine xZ hsuf (D:=[]) D3 λGc Gh hGc hGh X hX0 hX=>?_
   simp -implicitDefEqProofs [hX0,hX,Jd,zW,wY];clear hX0 hX X;refine hK _ _ _ ?_;clear hK hGc hGh;clear K Gc Gh;have h0:∀r∈rows,r=[]:=by
    intro r hr;cases r with
    | nil=>rfl
    | cons p tl =>
     obtain⟨j,hj⟩:=Bl.1 hr;have:=(J9 rows 0 ((j:Int),-p.s)).2 ⟨j,p,tl,hj,by rw[AQ]⟩;rw[List.nil_perm.1 hp]at this;cases this
   have hfin:=Znl hr3 hi h0
   repeat apply za
   refine ze [(2,61)] zH ?_;exact zm rfl (zg (u5 (hJd _ _ hJ) rfl (by simpa[hfin] using hJ)))
  | cons it r =>
   obtain⟨q,y,tl,e1,e2,e3,e4,e5,e6,e7⟩:=Znz hz6 hr1 hr2 hr3 hs hp.symm;subst e1;have hql:=(Ac.1 e2).1;have hql2:q<c.length:=DY
   obtain⟨y',tr,a1,a2,a3,e0⟩:=zF rfl rows q hql;rw[e2]at a1;cases a1;have hil:=(Ac.1 e4).1;have hyx:((qW x c).map Wv)[i]?=some (Wv y):=by rw[Aj,e4];rfl
   clear hGc hGh;clear Gc Gh;refine xZ hsuf (D:=[]) D3 λGc Gh hGc hGh X hX0 hX=>?_
   simp -implicitDefEqProofs [hX0,hX,Jd,zW,wY];clear hX0 hX X;refine hK _ _ _ ?_;clear hK hGc hGh;clear K Gc Gh
   repeat apply za
   refine ze [(2,61)] (zN e0 hql2 hrl zH) ?_;refine λhsuf=>JZ rfl rfl rfl (hY _ _ _ _ hyx hJ) ?_
   rintro _ ⟨A',hJ',rfl⟩;refine⟨_,_,rfl,jM [(2,61)] trivial hsuf ?_⟩;refine zk rfl (zh ?_);have hsp:=Zoc rows q tl hql;have hrl2:(rows.set q tl).length=c.length:=by simp[hrl]
   have hql3:q<(rows.set q tl).length:=DY
   obtain⟨y',tr',a1,a2,a3,e0'⟩:=zF rfl (rows.set q tl) q hql3;rw[AT hql]at a1;cases a1;have hno:xe (q:Int) r=false:=ZfT (rows:=rows.set q []) (by rw[Aa,AT hql];rfl) e3;have hlen:r.length<=1048576:=by rw[e3.length_eq];exact AD (V5 _ _) D2
   have hperm:=λp tz=>V4 rows 0 q p tz hql
   refine za (ze [] (zN e0 hql2 hrl hsp) ?_);refine⟨by omega,?_⟩;refine za (ze [] (zD e0' hql2 hrl2) ?_);cases tl with
   | nil =>
    exact zk rfl (zh (zq (i+1,A',rows.set q [],r,o2,v) [] ⟨hil,hJ',e5,e6,e7,e3,m2⟩ D2 DZ rfl DZ))
   | cons z tz =>
    have hzm:z∈(rows.set q (z :: tz)).flatten:=BO.2 ⟨z :: tz,Ab (AT hql),by simp⟩;have hzp:z∈u9 x c:=(Jf x c).subset (Ca (e7.subset hzm));have hzs:=(V3.1 hzp).2.2.2;have hwz:IntKind.i64.wrap (-z.s)=-z.s:=by
     rw[hzs];have:=Zcc hx z.a z.b;exact wr _ DY DY
    refine zm DZ ?_;refine ze [] (zN e0' hql2 hrl2 hwz) ?_;refine λhsuf=>((ZfG (j:=2) m2 rfl rfl rfl (q:Int) (-z.s) D2).mono ?_).v
    rintro _ T ⟨rfl,o3,m3,rfl⟩;refine⟨_,_,rfl,?_⟩;simp only[List.tail_cons]at m3;rw[hno]at m3;simp only[cond_false]at m3;refine zL hsuf ?_;refine zq (i+1,A',rows.set q (z :: tz),Z2 ((q:Int),-z.s) r,o3,v) [] ⟨hil,hJ',e5,e6,e7,?_,m3⟩ D2 DZ rfl DZ;have:=hperm z tz;rw[AQ]at this;exact(Wr _ _).trans ((e3.cons _).trans this.symm)
open Go Hp
theorem Zoh{x:Inst}{c:List Int}(h:c.Nodup)(hc:c.length<=1000):(qW x c).length<=1000000:=by
 rw[Znn h];exact AD (Nat.mul_le_mul hc (Nat.sub_le _ _)) (Cs 1000 hc)
open Go Hp
open Go Hp
def Qo(x:Inst)(ss:List Stop)(i:Nat):zn × Int:=((qW x (ss.map (·.c))).take i).foldl (ji x) (ss.map λs=>[s],(ss.length:Int))
theorem Zoi(x:Inst)(ss:List Stop):Qo x ss 0=(ss.map λs=>[s],(ss.length:Int)):=by simp[Qo]
theorem Zoj{x:Inst}{ss:List Stop}{i:Nat}{p:Pr}(h:(qW x (ss.map (·.c)))[i]?=some p):Qo x ss (i+1)=ji x (Qo x ss i) p:=by
 unfold Qo;obtain⟨h1,e⟩:=Ac.1 h;rw[AP h1,e,BE];rfl
theorem Zok(x:Inst)(ss:List Stop):Qo x ss (qW x (ss.map (·.c))).length=Zcd x ss:=by simp[Qo,Zcd]
theorem Zol(x:Inst)(T:zn)(num:Int)(p:Pr):num-1<=(ji x (T,num) p).2/\(ji x (T,num) p).2<=num:=by
 unfold ji Wt;cases qB x (T,num).2 p (Za (T,num).1 p.a) (Za (T,num).1 p.b) ((T,num).1.getD (Za (T,num).1 p.a) []) ((T,num).1.getD (Za (T,num).1 p.b) [])<;>simp<;>omega
theorem Zom(x:Inst)(ss:List Stop)(hx:qX x)(hxc:x.cust.length<=1048576)(hss:ss.length<=1000)(hs:∀s∈ss,qe s.c)(hnd:(ss.map (·.c)).Nodup):Pure prog 316 [.agg (zy x),L ss] (.agg [L (vg x ss)]):=by
 have hpl:=Zoh (x:=x) hnd (by simpa using hss);have hkey:KeyOk (.int .i64) qP:=Jc .i64;have hdist:∀k s,ss[k]?=some s->s.c ∉ (ss.take k).map (·.c):=by
  intro k s h hm;obtain⟨s',h1,h2⟩:=Am.1 hm;obtain⟨j,hj⟩:=Bl.1 h1;rw[BK]at hj;split at hj
  ·rename_i hjk;have e1:(ss.map (·.c))[j]?=some s.c:=by rw[Aj,hj,<-h2];rfl
   have e2:(ss.map (·.c))[k]?=some s.c:=by rw[Aj,h];rfl
   obtain⟨g1,g2⟩:=Ac.1 e1;obtain⟨g3,g4⟩:=Ac.1 e2;exact BD.1 hnd j k g1 g3 hjk (g2.trans g4.symm)
  ·cases hj
 refine zr func316 ntmps316 results316 λS nx hd=>?_
 refine D7 ?_;intro v0 v1;refine D7 ?_;intro v2 v3 v4;refine je 3 6 40 1 rfl rfl λv5=>?_
 repeat apply za
 refine zb ?_;refine zj (zC (λs:Nat × zn × List (Value × PV) × (Int->Option Int) × Nat=>s.1<=ss.length/\s.2.1=(ss.take s.1).map (λs=>[s])/\MapIs qP I s.2.2.1 s.2.2.2.1/\JI (ss.take s.1) s.2.1 s.2.2.2.1) (λ(k,T,es,g,v5)=>[(1,L ss),(2,.ptr nx v0 0),(4,.ptr (nx+1) v1 0),(5,.ptr (nx+4) v4 0),(18,L ss),(19,I ss.length),(20,I k)])
  (λ(k,T,es,g,v5)=>[.cells v0 25 (zy x),.cells v1 39 [.sc (.slice none 0 0)],.map v2 es,.cells v3 387 (Xa x (nx+5) v5 k ss.length (nx+2) v2),.cells v4 383 [.ptr (nx+3) v3 0],.cells v5 40 (T.flatMap Enc.enc)]) (λs=>ss.length-s.1) (0,[],[],λ_=>none,v5) [] ⟨by simp,by simp,Zfw _ _,by simpa using JI.nil⟩ DZ DZ ?_)
 rintro⟨k,T,es,g,v5⟩ ⟨hk,hT,hm,hI⟩;simp only at hk hT hm hI ⊢;have hTl:T.length=k:=by rw[hT];simp;omega
 refine D7 ?_;refine za (zv rfl (λhq=>?_) (λhq=>?_))
 ·simp at hq;obtain⟨s,tl,a1,a2,a3,e1,e0⟩:=el 2 rfl ss k hq;obtain⟨rs,f1,_,_,f4,_⟩:=hm.find hkey s.c;have hnew:=f4 (k:Int);have hIn:=hI.snoc s (hdist k s a1);have hkl:(ss.take k).length=k:=D2
  rw[hkl,<-a3]at hIn;have hTs:T++[[s]]=(ss.take (k+1)).map λs=>[s]:=by rw[a3,hT];simp
  have htf:(T.flatMap Enc.enc).take k=T.flatMap Enc.enc:=Af (by rw[jW];omega);have htl:(T.flatMap Enc.enc).length=k:=by rw[jW,hTl]
  refine zh (za (zj (za (ze [] (zD e1 e0 hq) ?_))));intro v6;refine za (zz (some [nx+4,nx+6]) (Row.pures [0,1,2,3,5,6,7] (.alt 4 (.alt 8 (Row.pures [9,10] (.alt 11 (.done) .stop)) .stop) .stop)) mixed (zo htf htl) ?_);refine⟨⟨by omega,by omega⟩,?_⟩;refine zz (some [nx+3,nx+4,nx+6]) (Row.pures [0,1,2,3,4,5,6] (.alt 7 (.done) .stop)) mixed trivial ?_;refine⟨by rfl,(YB (.inl rfl) underlying384 underlying3 rfl rfl rfl DZ f1 ?_)⟩;rw[yl _ DY DZ,show nx+2-nx=2 from by omega];refine⟨by simp[yM],jD trivial ?_⟩;refine zb ?_;exact zq (k+1,T++[[s]],qS (qP s.c) (I k) es rs,qT g s.c (some (k:Int)),v5+1) [_] ⟨hq,hTs,hnew,hIn⟩ D2 (by simp[zu k (by omega)]) rfl D0
 ·simp at hq;obtain rfl:k=ss.length:=DY
  rw[Ai]at hT hI;refine zx ?_
  repeat apply za
  refine zb ?_;refine zt (Zof x ss) ?_;refine zj (J1 (xs:=(qW x (ss.map (·.c))).map Wv) (σ:=zn × Int × List (Value × PV) × (Int->Option Int)) (λi s=>(s.1,s.2.1)=Qo x ss i/\i<=(qW x (ss.map (·.c))).length/\MapIs qP I s.2.2.1 s.2.2.2/\JI ss s.1 s.2.2.2/\(ss.length:Int)-i<=s.2.1/\s.2.1<=ss.length) [(4,.ptr (nx+1) v1 0),(5,.ptr (nx+4) v4 0)] (λ_=>S)
   (λ(T,num,es,g)=>[.cells v0 25 (zy x),.cells v1 39 [.sc (.slice none 0 0)],.map v2 es,.cells v3 387 (Xa x (nx+5) v5 ss.length num (nx+2) v2),.cells v4 383 [.ptr (nx+3) v3 0],.cells v5 40 (T.flatMap Enc.enc)]) (T,(ss.length:Int),es,g)
   (Zog x ss hx DY hs hnd) rfl (by intro x hx;obtain⟨y,_,rfl⟩:=Am.1 hx;rfl) D4 DZ ⟨by rw[Zoi,hT],by simp,hm,hI,by simp,by simp⟩ rfl DZ DZ ?_ ?_)
  ·clear hm hI hT hTl;rintro l i ⟨T,num,es,g⟩ more y ⟨hst,hi,hm,hI,hn1,hn2⟩ hy;simp only at hst hi hm hI hn1 hn2 ⊢;rw[Aj]at hy;obtain⟨p,hp,rfl⟩:=Ao.1 hy;obtain⟨hil,hpi⟩:=Ac.1 hp;have hmem:=V3.1 ((Jf x _).subset (Ab hp));have hsucc:=Zoj hp;rw[<-hst]at hsucc;obtain⟨nb1,nb2⟩:=Zol x T num p;refine xx [] D3 D3 λK Gc Gh hK hGc hGh X hX0 hX=>?_
   simp -implicitDefEqProofs [hX0,hX,Wv]
   try clear hX0 hX X
   intro v6;refine hK _ _ _ ?_;clear hK hGc hGh;clear K Gc Gh;refine zj (zb ?_);refine λhsuf=>((ZnI x ss T g num es hxc hss DY hI hm (jid:=nx+3) (tid:=nx+5) (mid:=nx+2) (by rw[zZ];rfl) (by rw[zZ];rfl) (by rw[zZ];rfl) DY DY DY p hmem.1 hmem.2.1).mono ?_).v
   rintro _ _ ⟨es2,g2,m2,i2,rfl⟩;refine⟨_,_,(by rw[yl _ (by omega) (by simp),yl _ (by omega) (by simp),yl _ (by omega) (by simp)]),jM [] (zD (show nx+3-nx=3 from by omega) (show nx+5-nx=5 from by omega) (show nx+2-nx=2 from by omega)) hsuf ?_⟩;simp only[jL];exact wZ ((ji x (T,num) p).1,(ji x (T,num) p).2,es2,g2) [_] ⟨hsucc.symm,by omega,m2,i2,by simp only;omega,by simp only;omega⟩ rfl D0
  ·clear hm hI hT hTl;rintro⟨T,num,es,g⟩ ⟨hst,-,hm,hI,-,-⟩;simp only[List.length_map]at hst hI ⊢;rw[Zok]at hst;have hTl:=hI.len;have hjp:vg x ss=T.filter λt=>!t.isEmpty:=by unfold vg;rw[<-hst]
   rw[hjp];refine D7 ?_;intro v6;refine je 6 0 42 1 rfl rfl λv7=>?_
   repeat apply za
   refine zb ?_;refine zj (zC (λs:Nat × zn × Nat=>s.1<=T.length/\s.2.1=(T.take s.1).filter λt=>!t.isEmpty) (λ(k,out,v7)=>[(4,.ptr (nx+1) v1 0),(9,.ptr (nx+6) v6 0),(54,.sl (nx+5) v5 1 0 ss.length),(55,I ss.length),(56,I k)]) (λ(k,out,v7)=>[.cells v0 25 (zy x),.cells v1 39 [.sc (.slice none 0 0)],.map v2 es,.cells v3 387 (Xa x (nx+5) v5 ss.length num (nx+2) v2),.cells v4 383 [.ptr (nx+3) v3 0],.cells v5 40 (T.flatMap Enc.enc),.cells v6 39 [.sl (nx+7) v7 1 0 out.length],.cells v7 42 (out.flatMap Enc.enc)]) (λs=>T.length-s.1) (0,[],v7) [] ⟨by simp,by simp⟩ DZ DZ ?_);rintro⟨k,out,v7⟩ ⟨hk,ho⟩;simp only at hk ho ⊢;have hol:out.length<=k:=by rw[ho];exact AD (BI _ _) D2
   refine D7 ?_;refine za (zv rfl (λhq=>?_) (λhq=>?_))
   ·simp at hq;obtain⟨t,tl,a1,a2,a3,e0⟩:=zF rfl T k DY;have hfs:(T.take (k+1)).filter (λt=>!t.isEmpty)=out++(if t=[] then [] else [t]):=by
     rw[a3,Bu,<-ho];cases t<;>simp
    refine zh (za (zj (za (ze [] (zD e0 hq hTl) ?_))));refine D7 ?_;cases t with
    | nil =>
     rw[if_pos rfl,AC]at hfs;refine zk DZ ?_;refine zh (zb ?_);exact zq (k+1,out,v7) [] ⟨by omega,hfs.symm⟩ D2 (by simp[zu k (by omega)]) rfl DZ
    | cons s t =>
     rw[if_neg DZ]at hfs;refine zm DZ ?_;refine zb ?_;refine⟨by omega,?_⟩;refine zb ?_;exact zq (k+1,out++[s :: t],v7+1) [] ⟨by omega,hfs.symm⟩ D2 (by simp[zu k (by omega)]) rfl DZ
   ·simp at hq;obtain rfl:k=T.length:=DY
    rw[Ai]at ho;refine zx (zX 7 rfl ?_);refine D7 ?_;exact zg (zi hd D0 (by simp[zp,ho]))
open Go Hp
abbrev yu:PV:=.sc (.slice none 0 0)
open Go Hp
def Jh(pl:PV):Prop:=pl=yu\/∃n cs,pl=.lst n cs
theorem Ji(l:List Stop):Jh (L l):=.inr ⟨_,_,rfl⟩
abbrev Xb(x:Inst)(b:Int):PV:=.fn (.func 312) [] [.ip (zy x),.ip [I b]]
abbrev fsL(x:Inst)(pl:PV)(b:Int):List PV:=[.fn (.func 313) [] [.ip [pl]],.fn (.func 315) [] [.ip [Xb x b],.ip (zy x),.ip [pl]],.fn (.func 317) [] [.ip [Xb x b],.ip [pl]],.fn (.func 318) [] [.ip (zy x),.ip [pl],.ip [Xb x b]]]
theorem Zon(x:Inst)(pl:PV)(b:Int)(hp:Jh pl):Pure prog 285 [.agg (zy x),pl,I b] (.fn (.func 320) [] [.ip [.lst 4 (fsL x pl b)]]):=by
 rcases hp with rfl | ⟨n,cs,rfl⟩
 all_goals
  refine zr func285 ntmps285 results285 λS nx hd=>?_
  refine D7 ?_;intro v0 v1 v2;refine x7 0 rfl ?_;refine x7 1 rfl ?_;refine x7 2 rfl ?_;refine D7 ?_;intro v3;refine x7 3 rfl ?_;refine D7 ?_;intro v4;refine x7 4 rfl ?_;refine D7 ?_;exact D8 hd
theorem Zoo(pl:PV)(d:zn)(hp:Jh pl)(hA:Pure prog 314 [pl] (.agg [L d])):Pure prog 313 [.ip [pl]] (.tup [.agg [L d],B true]):=by
 rcases hp with rfl | ⟨n,cs,rfl⟩
 all_goals
  refine zr func313 ntmps313 results313 λS nx hd=>?_
  refine D7 ?_;intro v0;refine D7 ?_;refine zt hA ?_;exact D8 hd
theorem Zci(x:Inst)(b:Int)(d e:zn)(n:Int)(hI:Pure prog 252 [.agg (zy x),.agg [L d],I b] (.tup [.agg [L e],I n])):Pure prog 312 [.agg [L d],.ip (zy x),.ip [I b]] (.agg [L e]):=by
 refine zr func312 ntmps312 results312 λS nx hd=>?_
 refine D7 ?_;intro v0 v1;refine D7 ?_;refine zt hI ?_;refine D7 ?_;exact D8 hd
theorem Zop(x:Inst)(pl:PV)(b:Int)(d e:zn)(n:Int)(hp:Jh pl)(hJ:Pure prog 316 [.agg (zy x),pl] (.agg [L d]))(hI:Pure prog 252 [.agg (zy x),.agg [L d],I b] (.tup [.agg [L e],I n])):Pure prog 315 [.ip [Xb x b],.ip (zy x),.ip [pl]] (.tup [.agg [L e],B true]):=by
 have hF:=Zci x b d e n hI;rcases hp with rfl | ⟨n,cs,rfl⟩
 all_goals
  refine zr func315 ntmps315 results315 λS nx hd=>?_
  refine D7 ?_;intro v0;refine za (zz (some []) (Row.pures [0,1,2,3,4] (.alt 5 (Row.pures [6] .done) .stop)) mixed trivial ?_);refine zG (hJ) trivial ?_;refine zG (hF) trivial ?_;exact D8 hd
theorem Zoq(x:Inst)(pl:PV)(b:Int)(d e:zn)(n:Int)(hp:Jh pl)(hA:Pure prog 314 [pl] (.agg [L d]))(hI:Pure prog 252 [.agg (zy x),.agg [L d],I b] (.tup [.agg [L e],I n])):Pure prog 317 [.ip [Xb x b],.ip [pl]] (.tup [.agg [L e],B true]):=by
 have hF:=Zci x b d e n hI;rcases hp with rfl | ⟨n,cs,rfl⟩
 all_goals
  refine zr func317 ntmps317 results317 λS nx hd=>?_
  refine D7 ?_;intro v0;refine za (zz (some []) (Row.pures [0,1,2,3] (.alt 4 (Row.pures [5] .done) .stop)) mixed trivial ?_);refine zG (hA) trivial ?_;refine zG (hF) trivial ?_;exact D8 hd
theorem ZfU(x:Inst)(pl:PV)(b:Int)(d e:zn)(ok:Bool)(n:Int)(hp:Jh pl)(hR:Pure prog 319 [.agg (zy x),pl] (.tup [.agg [L d],B ok]))(hI:ok=true->Pure prog 252 [.agg (zy x),.agg [L d],I b] (.tup [.agg [L e],I n])):
  Pure prog 318 [.ip (zy x),.ip [pl],.ip [Xb x b]] (.tup [.agg [bif ok then L e else yu],B ok]):=by
 rcases hp with rfl | ⟨n,cs,rfl⟩
 all_goals
  cases ok with
  | false =>
   refine zr func318 ntmps318 results318 λS nx hd=>?_
   refine D7 ?_;intro v0;refine D7 ?_;refine zt hR ?_;intro v1
   repeat apply za
   refine zb ?_;refine zm rfl (D7 ?_);exact D8 hd
  | true =>
   have hF:=Zci x b d e _ (hI rfl);refine zr func318 ntmps318 results318 λS nx hd=>?_
   refine D7 ?_;intro v0;refine D7 ?_;refine zt hR ?_;intro v1
   repeat apply za
   refine zb ?_;refine zk rfl (zh (D7 ?_));refine zt hF ?_;exact D8 hd
theorem Zor(fs:List PV)(rs:List (Option zn))(hl:rs.length=fs.length)(hn:fs.length<=1000)
  (h:∀(k:Nat) f,fs[k]?=some f->∃fk caps p,f=.fn (.func fk) [] caps/\Pure prog fk caps (.tup [.agg [p],B (rs.getD k none).isSome])/\∀d,rs.getD k none=some d->p=L d) :
  Qi prog 320 [.ip [.lst fs.length fs]] ((rs.filterMap id).map λd=>[.agg [L d]]):=by
 refine Wf func320 D3 rfl ntmps320 (congrArg Array.toList results320) DZ λl V keep nx J hJd hY A0 hA0=>?_
 refine D7 ?_;refine zj (jC (σ:=Nat × Store) (λs=>s.1<=fs.length/\J ((rs.take s.1).filterMap id).length s.2) (λs=>[(0,jV l),(7,.lst fs.length fs),(8,I fs.length),(9,I s.1)]) (λs=>s.2) (λs=>[]) (λs=>fs.length-s.1) (zT (0,A0) [] (by simp[hA0]) DZ rfl DZ) ?_);rintro⟨k,A⟩ ⟨hk,hJ⟩;simp only at hk hJ ⊢;refine D7 ?_;refine za (zv rfl (λhc=>?_) (λhc=>?_))
 ·simp at hc;have e0:fs.drop k=fs[k] :: fs.drop (k+1):=AS hc;obtain⟨fk,caps,p,hf,hP,hd⟩:=h k fs[k] (Ae hc);rw[hf]at e0;have hkr:k<rs.length:=DY
  have htk:rs.take (k+1)=rs.take k++[rs[k]]:=AP hkr;have hg:rs.getD k none=rs[k]:=by rw[Aa,Ae hkr];rfl
  rw[hg]at hP hd;refine zh (za (zj (za (ze [] (zo e0 hc) ?_))));cases hr:rs[k] with
  | none =>
   rw[hr]at hP htk;simp only[Dh]at hP;have hlen:((rs.take (k+1)).filterMap id).length=((rs.take k).filterMap id).length:=by rw[htk];simp
   refine D7 ?_;refine zt hP ?_;intro v0;refine za (ze [(1,19)] zH ?_);refine zk rfl (zh (zb ?_));exact zq (k+1,A) [_] ⟨hc,by rw[hlen];exact hJ⟩ D2 (by simp[zu k (by omega)]) rfl D0
  | some d =>
   obtain rfl:=hd d hr;rw[hr]at hP htk;simp only[Option.isSome_some]at hP;have hlen:((rs.take (k+1)).filterMap id).length=((rs.take k).filterMap id).length+1:=by rw[htk];simp
   have hx:((rs.filterMap id).map λd=>[PV.agg [L d]])[((rs.take k).filterMap id).length]?=some [PV.agg [L d]]:=by
    have e1:rs.filterMap id=(rs.take k).filterMap id++(d :: (rs.drop (k+1)).filterMap id):=by
     conv=>lhs;rw[<-List.take_append_drop k rs,AS hkr,hr]
     simp
    rw[Aj,e1,Al (Ag _),Bv];rfl
   refine D7 ?_;refine zt hP ?_;intro v0;refine za (ze [(1,19)] trivial ?_);refine λhsuf=>JZ rfl rfl rfl (hY _ _ _ _ hx hJ) ?_
   rintro _ ⟨A',hJ',rfl⟩;refine⟨_,_,rfl,jM [(1,19)] trivial hsuf ?_⟩;refine zk rfl (zh (zb ?_));exact zq (k+1,A') [_] ⟨hc,by rw[hlen];exact hJ'⟩ D2 (by simp[zu k (by omega)]) rfl D0
 ·simp at hc;obtain rfl:k=fs.length:=DY
  rw[<-hl,Ai]at hJ;refine zx (u5 (hJd _ _ hJ) rfl ?_);simpa using hJ
def vQ(x:Inst)(st:zn × Int × Bool)(d:zn):zn × Int × Bool:=if yr x d=0 then (if st.2.2=false\/W (yk x d)<st.2.1 then (d,W (yk x d),true) else st) else st
def Qp(x:Inst)(ds:List zn):zn × Int × Bool:=ds.foldl (vQ x) ([],0,false)
open Go Hp
theorem Zos{K:(Nat->PV)->Store->Prop}{Q:Exit->(Nat->PV)->Store->Prop}{i:Nat}{F:Nat->PV}{S:Store}(h:Q (.exit i) F S):Yx K Q (.exit i) F S:=h
theorem Zot{Q:Exit->(Nat->PV)->Store->Prop}{i:Nat}{F:Nat->PV}{S:Store}(h:Q .normal F S):jL i Q (.exit i) F S:=by simp[jL,h]
def x8(x:Inst)(e:Int)(ds:List zn):zn × Int:=if e=0 then (bif (Qp x ds).2.2 then ((Qp x ds).1,0) else ([],14)) else ([],e)
theorem ZfV(x:Inst)(pl:PV)(b e:Int)(ds:List zn)(hp:Jh pl)(hx:x.cust.length<=1048576)(hF:Pure prog 284 [.agg (zy x),pl] (I e))
  (hit:e=0->Qi prog 320 [.ip [.lst 4 (fsL x pl b)]] (ds.map λd=>[.agg [L d]])) (hds:e=0->∀d∈ds,DayOk d/\d.flatten.length<=1048576) :
  Pure prog 249 [.agg (zy x),pl,I b] (.tup [.agg [L (x8 x e ds).1],I (x8 x e ds).2]):=by
 have hT:=Zon x pl b hp;refine zr func249 ntmps249 results249 λS nx hd=>?_
 refine D7 ?_;intro v0 v1
 repeat apply za
 refine zb ?_;refine zt hF ?_
 by_cases he:e=0
 case neg =>
  refine D7 ?_;refine zm (by simp[he]) ?_;refine D7 ?_;refine qr 1 0 rfl rfl ?_;exact zg (zi hd D0 (by simp[x8,he,zp]))
 subst he;have hit:=hit rfl;have hds:=hds rfl;refine D7 ?_;refine zk DZ ?_;refine zh (D7 ?_);intro v2 v3 v4;refine qr 2 0 rfl rfl ?_
 repeat apply za
 refine zb ?_;refine zt hT ?_;refine zj (J1 (xs:=ds.map λd=>[PV.agg [L d]]) (σ:=zn × Int × Bool) (λi s=>s=(ds.take i).foldl (vQ x) ([],0,false)/\i<=ds.length) [(3,.ptr nx v0 0),(6,.ptr (nx+1) v1 0),(7,I 0),(9,.ptr (nx+2) v2 0),(10,.ptr (nx+3) v3 0),(11,.ptr (nx+4) v4 0)] (λ_=>S)
  (λ(best,least,found)=>[.cells v0 25 (zy x),.cells v1 39 [yu],.cells v2 39 [L best],.cells v3 3 [I least],.cells v4 4 [B found]]) ([],0,false)
  hit rfl (by intro x hx;obtain⟨y,_,rfl⟩:=Am.1 hx;rfl) D4 DZ ⟨by simp,by simp⟩ rfl DZ DZ ?_ ?_)
 ·rintro l i ⟨best,least,found⟩ more y ⟨hst,hi⟩ hy;simp only at hst hi ⊢;rw[Aj]at hy;obtain⟨d,hd',rfl⟩:=Ao.1 hy;obtain⟨hil,hdi⟩:=Ac.1 hd';obtain⟨hdo,hdf⟩:=hds d (Ab hd');have hday:=ZbX x d hx hdo.1 hdo.2 hdf;have hcost:=J8 x d hdo;have hsucc:(ds.take (i+1)).foldl (vQ x) ([],0,false)=vQ x (best,least,found) d:=by
   rw[AP hil,hdi,BE,<-hst];rfl
  unfold vQ at hsucc;simp only at hsucc;refine zb ?_;intro v5;refine zj ?_
  repeat apply za
  refine zb ?_;refine zt hday ?_
  by_cases h1:yr x d=0
  ·rw[if_pos h1]at hsucc;refine zk (by simp[h1]) ?_;refine zh (D7 ?_);refine zt hcost ?_;generalize W (yk x d)=c at *;cases found with
   | false =>
    rw[if_pos (.inl rfl)]at hsucc;refine za (ze [(2,36)] zH ?_);refine zm rfl (zb ?_);simp only[jL];exact wZ (d,c,true) [_] ⟨hsucc.symm,by omega⟩ rfl D0
   | true =>
    by_cases h2:c<least
    ·rw[if_pos (.inr h2)]at hsucc;refine za (ze [(2,36)] (zo h2 zH) ?_);refine zm rfl (zb ?_);simp only[jL];exact wZ (d,c,true) [_] ⟨hsucc.symm,by omega⟩ rfl D0
    ·rw[if_neg (by simp[h2])]at hsucc;refine za (ze [(2,36)] (zo h2 zH) ?_);refine zk rfl (zh ?_);simp only[jL];exact wZ (best,least,true) [_] ⟨hsucc.symm,by omega⟩ rfl D0
  ·rw[if_neg h1]at hsucc;refine zm (by simp[h1]) ?_;refine zx (Zos (Zot ?_));exact wZ (best,least,found) [_] ⟨hsucc.symm,by omega⟩ rfl D0
 ·rintro⟨best,least,found⟩ ⟨hst,-⟩;simp only[List.length_map,Ai]at hst ⊢;have hz:Qp x ds=(best,least,found):=hst.symm;cases found with
  | false =>
   repeat apply za
   refine zb ?_;refine zm rfl (D7 ?_);refine qr 1 0 rfl rfl ?_;exact zg (zi hd D0 (by simp[x8,hz,zp]))
  | true =>
   repeat apply za
   refine zb ?_;refine zk rfl (zh (D7 ?_));exact zg (zi hd D0 (by simp[x8,hz,zp]))
open Go Hp
theorem ZfW(lk:List PV)(s:Stop)(hl:lk.length=13):Pure prog 336 [.agg lk,.agg [I s.c,I s.q]] (.fn (.func 352) [] [.ip [I s.c,I s.q],.ip lk]):=by
 refine zr func336 ntmps336 results336 λS nx hd=>?_
 refine za (ze [] hl ?_);intro v0 v1;refine D7 ?_;refine x7 0 rfl ?_;refine x7 1 rfl ?_;exact D8 hd
open Go Go.Lib Go.Proofs
theorem Jj:ElemOk prog 40 100 (.agg #[.int .i64 0,.int .i64 0]) 16 :=
 ⟨underlying40,by simp,by simp,by simp,by simp,by omega⟩
theorem ZfX(a:Addr)(n c:Nat)(w W2:World)(u:Value)(hrz:∀ty,(Builtin.append_ #[40,40] ty #[.slice (some ⟨w.heap.size,0,none⟩) 0 0,.slice (some a) n c]).run prog (w.alloc (.cells #[] 100))=.ok u W2):
  Calls prog 290 #[.slice (some a) n c] w λe w'=>e=.returned u/\w'=W2:=by
 have mixed:prog.follows .mixedOrders=true:=D1
 have q22:∀(w:World) (a:Option Addr) (n c n' c':Nat),(binOp .eql 40 (.slice a n c) (.slice none n' c')).run prog w=.ok (.bool a.isNone) w:=λw a n c n' c'=>Lib.run_eql_slice_nil w _ _ a n c n' c' underlying40
 go_enter func290,ntmps290
 go_wp2_with (at_builtin;refine Lib.wpList_append_run _ rfl _ _ _ _ rfl _ _ rfl rfl _ _ (hrz _) ?_)
 go_wp2
 go_ret
 exact⟨rfl,rfl⟩
theorem Zou(n c:Nat)(w:World):
  Calls prog 290 #[.slice none n c] w λe w'=>e=.returned (.slice none 0 0)/\w'=w:=by
 have mixed:prog.follows .mixedOrders=true:=D1
 have q22:∀(w:World) (a:Option Addr) (n c n' c':Nat),(binOp .eql 40 (.slice a n c) (.slice none n' c')).run prog w=.ok (.bool a.isNone) w:=λw a n c n' c'=>Lib.run_eql_slice_nil w _ _ a n c n' c' underlying40
 go_enter func290,ntmps290
 go_wp2
 go_ret
 exact⟨rfl,rfl⟩
theorem Zcj(l:List Stop)(h0:0<l.length)(hn:l.length<=1048576)(S:Store)(nx:Nat)(hd:S nx=.dead):
  Spec prog 290 [L l] S (λp S'=>∃v,p=.sl nx v 2 0 l.length/\S'=S.set nx (.cells v 100 (l.flatMap Enc.enc))):=by
 refine⟨qm func290 D3 rfl,?_⟩;intro C w vs hS hl hr;obtain⟨u,rfl⟩:=ZbT hl;have hu:Rel C S w (.lst l.length (l.flatMap Enc.enc)) u:=hr 0 _ u rfl rfl;obtain⟨a,cap,rfl⟩:∃a cap,u=.slice (some a) l.length cap:=by
  generalize hq:l.flatMap Enc.enc=cs at hu;generalize l.length=n at *;cases hu with
  | lst0=>omega
  | lst1=>exact⟨_,_,rfl⟩
 obtain⟨k1,j1,m1⟩:=hS.alloc (.cells #[] 100);have hc:prog.cellsOf 100=2:=DZ
 obtain⟨news,hsrc,hrel,_⟩:=VC (P:=prog) (sz:=2) (m:=l.length) (ds:=l.flatMap Enc.enc) k1 (by simp[ZU]) (hu.mono j1);rw[<-hc]at hsrc;have hrun:=λty=>VB (P:=prog) (ty:=ty) (b:=some ⟨w.heap.size,0,none⟩) (k:=0) (cap:=0) (olds:=[]) Jj.ty Jj.pos Jj.zero Jj.bytes hsrc (run_firstCells_some _ _ 0 ⟨w.heap.size,0,none⟩ 0 0 [] DZ DZ) DY DY Jj.bpos
 simp only[AQ]at hrun;refine(ZfX a l.length cap w _ _ hrun).mono ?_;rintro e w' ⟨rfl,rfl⟩;have hge:=grownCap_ge (w.alloc (.cells #[] 100)) l.length 0 100;obtain⟨d1,d2⟩:=k1.drew;have hfr:Fresh C S nx C.clock:=.clock C hd;have hra:=JO (cs:=[]) (vs:=[]) (by simp[RelL]) hrel (Builtin.zeroCells (Value.agg #[.int .i64 0,.int .i64 0]).cells (grownCap (w.alloc (.cells #[] 100)) l.length 0 100-l.length)).toList;simp only[AK]at hra;have hget:∀i:Nat,(([]:List Value).toArray++news.toArray++Builtin.zeroCells (Value.agg #[.int .i64 0,.int .i64 0]).cells (grownCap (w.alloc (.cells #[] 100)) l.length 0 100-l.length):Array Value)[i]?=(news++(Builtin.zeroCells (Value.agg #[.int .i64 0,.int .i64 0]).cells (grownCap (w.alloc (.cells #[] 100)) l.length 0 100-l.length)).toList)[i]?:=by
  intro i;rw[<-Array.getElem?_toList];simp
 obtain⟨t1,t2⟩:=d1.object' hfr 100 (([]:List Value).toArray++news.toArray++Builtin.zeroCells (Value.agg #[.int .i64 0,.int .i64 0]).cells (grownCap (w.alloc (.cells #[] 100)) l.length 0 100-l.length)) (l.flatMap Enc.enc) (by have:=hra.1;simp at this ⊢;omega) (λi v hi hv=>hra.2.1 i v hi (by rw[<-hget];exact hv)) (λi p v hp hv=>(hra.2.2 i p v hp (by rw[<-hget];exact hv)).mono d2);refine⟨_,_,_,_,rfl,⟨C.clock,rfl,rfl⟩,X9 C S _ _ _ _ _ _ _ _ _ rfl hge (AD hn (by unfold j8;omega)) (grownCap_le_maxLen _ _ _ _ (by unfold maxLen;omega)) ?_,t1,j1.trans (d2.trans t2)⟩;have:=hsrc.size;simp only[Cp,size_zeroCells,BQ,this,hc];simp[Value.cells];omega
theorem V8(l:List Stop)(hn:l.length<=1048576):Pure prog 290 [L l] (L l):=by
 by_cases h0:0<l.length
 ·exact VM 0 (λS nx hd=>Zcj l h0 hn S nx (hd nx (Ag _))) DZ
 ·obtain rfl:l=[]:=Av DY;intro S;refine⟨qm func290 D3 rfl,?_⟩;intro C w vs hS hl hr;obtain⟨u,rfl⟩:=ZbT hl;have hu:Rel C S w (.lst 0 []) u:=hr 0 _ u rfl rfl;obtain⟨a,cap,rfl⟩:∃a cap,u=.slice a 0 cap:=by
   cases hu with
   | lst0=>exact⟨_,_,rfl⟩
   | lst1=>exact⟨_,_,rfl⟩
  cases a with
  | none =>
   refine(Zou 0 cap w).mono ?_;rintro e w' ⟨rfl,rfl⟩;exact⟨_,_,_,_,rfl,⟨rfl,rfl⟩,.lst0,hS,.refl _ _ _⟩
  | some a =>
   obtain⟨k1,j1,m1⟩:=hS.alloc (.cells #[] 100);have hc:prog.cellsOf 100=2:=DZ
   obtain⟨news,hsrc,hrel,_⟩:=VC (P:=prog) (sz:=2) (m:=0) (ds:=[]) k1 (by simp[ZU]) (hu.mono j1);have hne:news=[]:=Av (by rw[hsrc.size,CX]);subst hne;rw[<-hc]at hsrc;have hrun:=λty=>Zbu (P:=prog) (ty:=ty) (b:=some ⟨w.heap.size,0,none⟩) (k:=0) (cap:=0) Jj.ty Jj.pos hsrc (Ag 0)
   refine(ZfX a 0 cap w _ _ hrun).mono ?_;rintro e w' ⟨rfl,rfl⟩;exact⟨_,_,_,_,rfl,⟨rfl,rfl⟩,.lst0,k1,j1⟩
theorem Zov{S:Store}{id ver:Nat}(cs:List Stop)(s:Stop)(hn:cs.length<=1000000)(hid:S id=.cells ver 100 (cs.flatMap Enc.enc)):
  Spec prog 338 [.sl id ver 2 0 cs.length,I cs.length,L [s]] S (λp S'=>p=.sl id (ver+1) 2 0 (cs.length+1)/\S'=S.set id (.cells (ver+1) 100 ((cs++[s]).flatMap Enc.enc))):=by
 refine yn func338 ntmps338 results338 λnx hd=>?_
 have hlt:id<nx:=by
  rcases Bi id nx with h | h
  ·exact h
  ·have:=hd id h;rw[hid]at this;cases this
 have hx:=λobs=>(zB (S:=S) (obs:=obs) hlt).trans hid
 have hlt1:¬nx<=id:=DY
 refine za (ze [] hx ?_);refine za (ze [] hx ?_);refine za (ze [] hx ?_)
 repeat apply za
 refine ze [] hx ?_;refine zk rfl (zh (za (ze [] hx ?_)))
 repeat apply za
 refine ze [] hx ?_;refine zm rfl (za (ze [] (zo hx hlt1) ?_));refine⟨by omega,?_⟩;have hdd:∀(o:Ob),zS nx (S.set id o):=by
  intro o q hq;rw[q10 _ _ _ _ DY];exact hd q hq
 exact zg ⟨_,_,by simp;rfl,⟨by simp[zp],by simp⟩,zO (hdd _)⟩
theorem Zow{S:Store}{id ver:Nat}(cs:List Stop)(i:Nat)(s:Stop)(hi:i<=cs.length)(hn:cs.length<=1000000)(hid:S id=.cells ver 100 (cs.flatMap Enc.enc)):
  Spec prog 338 [.sl id ver 2 0 cs.length,I i,L [s]] S (λp S'=>p=.sl id (ver+1) 2 0 (cs.length+1)/\S'=S.set id (.cells (ver+1) 100 ((cs.take i++s :: cs.drop i).flatMap Enc.enc))):=by
 by_cases h:i=cs.length
 ·subst h;rw[Ai,BA];exact Zov cs s hn hid
 ·exact Zmu cs i s DY hn hid
open Go Go.Proofs
def Jk(d:zn)(t nx:Nat)(k:Nat)(ts:List PV)(ob:Ob):Prop :=
 ts.length=k/\(k<=t->ts=(d.take k).flatMap Enc.enc/\ob=.dead) /\
 (t<k->∃v l,d[t]?=some l/\ts=((d.take k).flatMap Enc.enc).set t (.sl (nx+4) v 2 0 l.length)/\ob=.cells v 100 (l.flatMap Enc.enc))
theorem Zox{d:zn}{t nx k:Nat}{ts:List PV}{ob:Ob}(h:Jk d t nx k ts ob)(hk:k<d.length)(ht:k≠t):Jk d t nx (k+1) (ts++[L d[k]]) ob:=by
 obtain⟨h1,h2,h3⟩:=h;have e:d.take (k+1)=d.take k++[d[k]]:=AP hk;refine⟨by simp[h1],λhkt=>?_,λhkt=>?_⟩
 ·obtain⟨a,b⟩:=h2 DY;exact⟨by rw[e,a,Ap];rfl,b⟩
 ·obtain⟨v,l,a,b,c⟩:=h3 DY;refine⟨v,l,a,?_,c⟩;rw[b,e,Ap,List.set_append_left _ _ (by rw[jW];simp;omega)];rfl
theorem Zoy{d:zn}{t nx:Nat}{ts:List PV}{ob:Ob}(h:Jk d t nx t ts ob)(hk:t<d.length)(v:Nat):Jk d t nx (t+1) (ts++[.sl (nx+4) v 2 0 d[t].length]) (.cells v 100 (d[t].flatMap Enc.enc)):=by
 obtain⟨h1,h2,h3⟩:=h;have e:d.take (t+1)=d.take t++[d[t]]:=AP hk;refine⟨by simp[h1],λhkt=>by omega,λ_=>⟨v,d[t],Ae hk,?_,rfl⟩⟩;obtain⟨a,-⟩:=h2 (Ag _);have hl:((d.take t).flatMap Enc.enc).length=t:=by rw[jW];simp;omega
 rw[a,e,Ap,BH _ _ DY,hl,Bv];rfl
theorem Zck(d:zn)(t:Nat)(hd0:d.length<=1048576)(hd1:∀l∈d,l.length<=1048576)(ht:∀l,d[t]?=some l->0<l.length)(S:Store)(nx:Nat)(hd:zS nx S):
  Spec prog 337 [.agg [L d]] S (λp S'=>∃v ts ob,Jk d t nx d.length ts ob/\p=.agg [.sl (nx+3) v 1 0 d.length]/\S'=(S.set (nx+3) (.cells v 42 ts)).set (nx+4) ob):=by
 refine u6 hd func337 ntmps337 results337 ?_;refine D7 ?_;intro v0 v1;refine D7 ?_;intro v2;refine je 2 0 42 1 rfl rfl λv3=>?_
 repeat apply za
 refine zb ?_
 show PW _ _ _ _ _ _ _ (ext _ _ _)
 rw[ZeT 1];refine zj (zC (λ(s:Nat × List PV × Ob × Nat × Nat)=>s.1<=d.length/\Jk d t nx s.1 s.2.1 s.2.2.1) (λ(k,ts,ob,v2,v3)=>[(2,.ptr (nx+1) v1 0),(3,.ptr (nx+2) v2 0),(7,L d),(8,I d.length),(9,I k)]) (λ(k,ts,ob,v2,v3)=>[.cells v0 39 [L d],.cells v1 39 [yu],.cells v2 39 [.sl (nx+3) v3 1 0 k],.cells v3 42 ts,ob]) (λs=>d.length-s.1) (0,[],.dead,v2,v3) [] ⟨by simp,by simp[Jk]⟩ DZ DZ ?_);rintro⟨k,ts,ob,v2,v3⟩ ⟨hk,hI⟩;simp only at hk hI ⊢;have htl:=hI.1;have htk:ts.take k=ts:=Af DY;refine D7 ?_;refine za (zv rfl (λhc=>?_) (λhc=>?_))
 ·simp at hc;obtain⟨l,tl,a1,a2,a3,e0⟩:=zF rfl d k hc;obtain⟨hkl,rfl⟩:=Ac.1 a1;have hk1:1<=d.length-k:=DY
  refine zh (za (zj (za (ze [] (zD hc e0 hk1) ?_))));intro v5
  by_cases hkt:k=t
  ·subst hkt;have hcl:=Zcj d[k] (ht _ a1) (hd1 _ (A6 hkl));obtain rfl:=(hI.2.1 (Ag _)).2;refine zz (some [nx+5]) (Row.pures [0,2,3] (.alt 1 (.alt 4 (Row.pures [5,6] (.alt 7 (Row.pures [8] (.alt 9 (.done) .stop)) .stop)) .stop) (.alt 4 (Row.pures [5,6] (.alt 1 (.alt 7 (Row.pures [8] (.alt 9 (.done) .stop)) .stop) .stop)) .stop))) mixed (zo htl htk) ?_;refine⟨?_,?_⟩
   all_goals
    skip
    refine((hcl _ (nx+4) DZ).mono ?_).v;rintro _ _ ⟨v4,rfl,rfl⟩;rw[yl _ DY DZ,AI];refine⟨by simp[yM],jD (zo htl htk) ?_⟩;refine⟨by omega,?_⟩;refine zb ?_;exact zq (k+1,_,_,v2,v3+1) [_] ⟨hc,Zoy hI hkl v4⟩ D2 (by simp[zu k (by omega)]) rfl D0
  ·have hcl:=V8 d[k] (hd1 _ (A6 hkl));refine zz (some [nx+5]) (Row.pures [0,2,3,4,5,6] (.alt 1 (.alt 7 (Row.pures [8] (.alt 9 (.done) .stop)) .stop) .stop)) mixed (zo htl htk) ?_;refine zG (hcl) (zo htl htk) ?_;refine⟨by omega,?_⟩;refine zb ?_;exact zq (k+1,_,_,v2,v3+1) [_] ⟨hc,Zox hI hkl hkt⟩ D2 (by simp[zu k (by omega)]) rfl D0
 ·simp at hc;obtain rfl:k=d.length:=DY
  refine zx (D7 ?_);refine zg ⟨_,(S.set (nx+3) (.cells v3 42 ts)).set (nx+4) ob,by simp;rfl,⟨v3,ts,ob,hI,rfl,rfl⟩,?_⟩;intro o
  by_cases h4:o=nx+4
  ·subst h4;exact .inl (by rw[q11];simp)
  by_cases h3:o=nx+3
  ·subst h3;exact .inl (by rw[q10 _ _ _ _ h4,q11];simp)
  rw[q10 _ _ _ _ h4,q10 _ _ _ _ h3];exact zO hd o
theorem Zoz(d:zn)(hd0:d.length<=1048576)(hd1:∀l∈d,l.length<=1048576):Pure prog 337 [.agg [L d]] (.agg [L d]):=by
 refine ZeS (k:=d.length) (sz:=1) (e:=42) (cs:=d.flatMap Enc.enc) 3 (λS nx hd=>(Zck d d.length hd0 hd1 DZ S nx hd).mono ?_) DZ;rintro _ _ ⟨v,ts,ob,⟨h1,h2,-⟩,rfl,rfl⟩;obtain⟨rfl,rfl⟩:=h2 (Ag _);rw[Ai];refine⟨v,rfl,?_⟩;funext o
 by_cases h4:o=nx+4
 ·subst h4;rw[q11,q10 _ _ _ _ DY,hd _ DY]
 ·rw[q10 _ _ _ _ h4]
theorem ZoA(d:zn)(t:Nat)(l:zK)(hd0:d.length<=1048576)(hd1:∀l∈d,l.length<=1048576)(ht:d[t]?=some l)(hl:0<l.length)(S:Store)(nx:Nat)(hd:zS nx S):
  Spec prog 337 [.agg [L d]] S (λp S'=>∃v w,p=.agg [.sl (nx+3) v 1 0 d.length] /\
   S'=(S.set (nx+3) (.cells v 42 ((d.flatMap Enc.enc).set t (.sl (nx+4) w 2 0 l.length)))).set (nx+4) (.cells w 100 (l.flatMap Enc.enc))):=by
 refine(Zck d t hd0 hd1 (λm hm=>by rw[ht]at hm;cases hm;exact hl) S nx hd).mono ?_;rintro _ _ ⟨v,ts,ob,⟨h1,-,h3⟩,rfl,rfl⟩;obtain⟨w,m,hm,rfl,rfl⟩:=h3 (Ac.1 ht).1;rw[ht]at hm;cases hm;rw[Ai];exact⟨v,w,rfl,rfl⟩
open Go Go.Proofs
def jG(x:Inst)(t:zK):Int:=W (yE x (t.map (·.c)))
def jp(t:zK):Int:=W (zU t)
def yY(x:Inst)(d:zn):Nat:=(d.filter λt=>decide (zQ x t≠0)).length
theorem ZoB(x:Inst)(d e:zn):yY x (d++e)=yY x d+yY x e:=by simp[yY]
theorem ZoC(x:Inst)(t:zK):yY x [t]=if zQ x t=0 then 0 else 1:=by
 by_cases h:zQ x t=0<;>simp[yY,h]
theorem ZfY(x:Inst)(d:zn):yY x d<=d.length:=BI _ _
abbrev Zv(x:Inst)(d:zn):List PV:=[I x.days,I x.veh,I x.cap,I x.len,L x.cust,L x.dist,L d,L (yU (d.flatten.map (·.c))),B (decide (¬(yU (d.flatten.map (·.c))).Nodup)),L (d.map (zQ x)),I (yY x d),L (d.map jp),L (d.map (jG x))]
theorem ZfZ(x:Inst)(d:zn)(hx:x.cust.length<=1048576)(hdo:DayOk d)(hf:d.flatten.length<=1048576):Pure prog 333 [.agg (zy x),.agg [L d]] (.agg (Zv x d)):=by
 have h1:=Zfm d hdo.1 hf;have h2:=Zfu d.flatten hf;have h3:=Zft (yU (d.flatten.map (·.c))) (by rw[Qk,List.length_map];exact hf) (Wn _);generalize hon:yU (d.flatten.map (·.c))=on at *;generalize htw:decide (¬on.Nodup)=tw at *;refine zr func333 ntmps333 results333 λS nx hd=>?_
 refine D7 ?_;intro v0 v1 v2;refine za (zz (some [nx,nx+1]) (Row.pures [0,1,2,3,4,5] (.alt 6 (.alt 7 (.done) .stop) .stop)) mixed trivial ?_);refine zG (h1) trivial ?_;refine zG (h2) trivial ?_;intro v3;refine D7 ?_;refine zt h3 ?_
 repeat apply za
 refine zb ?_;refine je 3 9 47 1 rfl rfl λv4=>?_
 refine je 3 11 3 1 rfl rfl λv5=>?_
 refine je 3 12 3 1 rfl rfl λv6=>?_
 refine zj (zC (λ(k,v4,v5,v6)=>k<=d.length) (λ(k,v4,v5,v6)=>[(2,.ptr nx v0 0),(4,.ptr (nx+2) v2 0),(5,.ptr (nx+3) v3 0),(20,L d),(21,I d.length),(22,I k)])
  (λ(k,v4,v5,v6)=>[.cells v0 25 (zy x),.cells v1 39 [L d],.cells v2 395 [I 0,I 0,I 0,I 0,yu,yu,yu,yu,B false,yu,I 0,yu,yu],
   .cells v3 395 [I x.days,I x.veh,I x.cap,I x.len,L x.cust,L x.dist,L d,L on,B tw,.sl (nx+4) v4 1 0 k,I (yY x (d.take k)),.sl (nx+5) v5 1 0 k,.sl (nx+6) v6 1 0 k],
   .cells v4 47 (((d.map (zQ x)).take k).flatMap Enc.enc),.cells v5 3 (((d.map jp).take k).flatMap Enc.enc),.cells v6 3 (((d.map (jG x)).take k).flatMap Enc.enc)]) (λs=>d.length-s.1) (0,v4,v5,v6) [] DZ DZ (by simp[yY]) ?_)
 rintro⟨k,v4,v5,v6⟩ hk;simp only at hk ⊢;refine D7 ?_;refine za (zv rfl (λhc=>?_) (λhc=>?_))
 ·simp at hc;obtain⟨t,tl,a1,a2,a3,e0⟩:=zF rfl d k hc;have hk1:1<=d.length-k:=DY
  have htm:=Ab a1;have hm:=Wp x t hx (hdo.t t htm);have hl:=Zfk t (hdo.t t htm);have hw:=Wm x t (hdo.t t htm) (hdo.s t htm);have b1:yY x (d.take (k+1))=yY x (d.take k)+if zQ x t=0 then 0 else 1:=by rw[a3,ZoB,ZoC]
  have b2:=ZfY x (d.take k);rw[Ay]at b2;have b3:=hdo.n;have b4:=Nat.min_le_left k d.length;have f1:(((d.map (zQ x)).take (k+1)).flatMap Enc.enc:List PV)=((d.map (zQ x)).take k).flatMap Enc.enc++[I (zQ x t)]:=by rw[<-List.map_take,<-List.map_take,a3];simp
  have f2:(((d.map jp).take (k+1)).flatMap Enc.enc:List PV)=((d.map jp).take k).flatMap Enc.enc++[I (W (zU t))]:=by rw[<-List.map_take,<-List.map_take,a3];simp[jp]
  have f3:(((d.map (jG x)).take (k+1)).flatMap Enc.enc:List PV)=((d.map (jG x)).take k).flatMap Enc.enc++[I (W (yE x (t.map (·.c))))]:=by rw[<-List.map_take,<-List.map_take,a3];simp[jG]
  have l1:(((d.map (zQ x)).take k).flatMap Enc.enc:List PV).length=k:=by rw[jf,Ay,List.length_map];omega
  have l2:(((d.map jp).take k).flatMap Enc.enc:List PV).length=k:=by rw[jf,Ay,List.length_map];omega
  have l3:(((d.map (jG x)).take k).flatMap Enc.enc:List PV).length=k:=by rw[jf,Ay,List.length_map];omega
  generalize ((d.map (zQ x)).take k).flatMap Enc.enc=c1 at *;generalize ((d.map jp).take k).flatMap Enc.enc=c2 at *;generalize ((d.map (jG x)).take k).flatMap Enc.enc=c3 at *;have t1:c1.take k=c1:=Af DY;have t2:c2.take k=c2:=Af DY;have t3:c3.take k=c3:=Af DY;generalize yY x (d.take k)=bn at *;have wb:IntKind.i64.wrap ((bn:Int)+1)=((bn+1:Nat):Int):=zu bn DY;generalize zQ x t=mt at *;generalize W (zU t)=lt at *;generalize W (yE x (t.map (·.c)))=wt at *;refine zh (za (zj (za (ze [] (zD hc e0 hk1) ?_))));intro v7;refine D7 ?_;refine zt hm ?_
  repeat apply za
  refine zb ?_;refine qz (nx:=nx) (λ_:Unit=>True) (λ_=>[(2,.ptr nx v0 0),(4,.ptr (nx+2) v2 0),(5,.ptr (nx+3) v3 0),(7,.ptr (nx+7) v7 0),(8,I mt),(20,L d),(21,I d.length),(22,I k)]) (λ_=>S) (λ_=>[.cells v0 25 (zy x),.cells v1 39 [L d],.cells v2 395 [I 0,I 0,I 0,I 0,yu,yu,yu,yu,B false,yu,I 0,yu,yu],
   .cells v3 395 [I x.days,I x.veh,I x.cap,I x.len,L x.cust,L x.dist,L d,L on,B tw,.sl (nx+4) v4 1 0 k,I (bn+(if mt=0 then 0 else 1):Nat),.sl (nx+5) v5 1 0 k,.sl (nx+6) v6 1 0 k],
   .cells v4 47 c1,.cells v5 3 c2,.cells v6 3 c3,.cells v7 42 [L t]]) ?_ ?_
  ·repeat apply za
   refine zv rfl (λhq=>?_) (λhq=>?_)
   ·simp at hq;rw[if_neg hq];refine ze [] wb ?_;exact zT () [] trivial DZ rfl DZ
   ·simp at hq;rw[if_pos hq];exact zh (zT () [] trivial DZ rfl DZ)
  ·rintro⟨⟩ -;refine za (ze [] (zo t1 l1) ?_);refine⟨by omega,?_⟩;refine za (zz (some [nx+7]) (Row.pures [0,2,3,4] (.alt 1 (.alt 5 (Row.pures [6] (.alt 7 (.done) .stop)) .stop) .stop)) mixed (zo t2 l2) ?_);refine zG (hl) (zo t2 l2) ?_;refine⟨by omega,?_⟩;refine zz (some [nx,nx+7]) (Row.pures [0,2,3,4,5] (.alt 1 (.alt 6 (Row.pures [7] (.alt 8 (.done) .stop)) .stop) .stop)) mixed (zo t3 l3) ?_;refine zG (hw) (zo t3 l3) ?_;refine⟨by omega,?_⟩;refine zb ?_;exact zq (k+1,v4+1,v5+1,v6+1) [_] D2 D2 (by simp[zu k (by omega)]) rfl (by simp only[f1,f2,f3,b1];simp;rfl)
 ·simp at hc;obtain rfl:k=d.length:=DY
  refine zx (D7 ?_);refine zX 6 rfl ?_;refine zX 5 rfl ?_;refine zX 4 rfl ?_;have g1:(d.map (zQ x)).take d.length=d.map (zQ x):=Af DZ;have g2:(d.map jp).take d.length=d.map jp:=Af DZ;have g3:(d.map (jG x)).take d.length=d.map (jG x):=Af DZ;exact zg (zi hd D0 (by simp[zp,g1,g2,g3];simp[<-hon,<-htw]))
open Go Go.Proofs
def V9(P:Program)(k:FuncId)(args:Nat->List PV)(xs:List (List PV))(ret:PV):Prop :=
 qq P k/\∀(l:Nat) (V:Ctx->Store->World->Prop) (_:∀{C C':Ctx} {S S':Store} {w w':World},Step C S w C' S' w'->V C S w->V C' S' w') (m:Nat) (J:Nat->Store->Prop),(∀i A,J i A->zS m A) ->
  (∀i A obs x,xs[i]?=some x->J i A->PYield P V l x (ext A m obs) (λT=>∃A',J (i+1) A'/\T=ext A' m obs)) ->
  ∀A,J 0 A->PCallsV P V k (args l) A (λp T=>p=ret/\J xs.length T)
theorem Zf0 {P : Program} {N : Nat} {f : FuncId} {fn : Func} {c : Code} {rs : List ResultVar} {args : Nat → List PV} {xs : List (List PV)} {ret : PV} (hf : P.funcs[f]? = some fn) (hname : (fn.name == "runtime.NumGoroutine") = false) (hb : fn.body = some c) (hN : fn.ntmps = N) (hrs : fn.results.toList = rs) (hargs : ∀ l, (args l).length ≤ N)
  (h:∀(l:Nat) (V:Ctx->Store->World->Prop) (keep:∀{C C':Ctx} {S S':Store} {w w':World},Step C S w C' S' w'->V C S w->V C' S' w') (nx:Nat) (J:Nat->Store->Prop),(∀i A,J i A->zS nx A) ->
   (∀i A obs x,xs[i]?=some x->J i A->PYield P V l x (ext A nx obs) (λT=>∃A',J (i+1) A'/\T=ext A' nx obs)) ->
   ∀A,J 0 A->PW P ⟨none,V,keep⟩ 0 N c (Zo P rs (λp T=>p=ret/\J xs.length T)) (uD (args l)) (ext A nx [])):V9 P f args xs ret:=by
 refine⟨qm hf hname hb,λl V keep m J hJ hY A hA=>?_⟩;have:=h l V keep m J hJ hY A hA;rw[qI (hJ 0 A hA)]at this;exact Zbq hf hb hN hrs (hargs l) this
theorem PYield.mono{P:Program}{V:Ctx->Store->World->Prop}{l:Nat}{args:List PV}{S:Store}{Q Q':Store->Prop}(h:PYield P V l args S Q)(hq:∀T,Q T->Q' T):PYield P V l args S Q':=by
 intro C w vs h1 h2 h3 h4;obtain⟨fn,tmps,assign,body,hy,hR⟩:=h C w vs h1 h2 h3 h4;refine⟨fn,tmps,assign,body,hy,hR.mono ?_⟩;rintro e w' ⟨S',C',a,b,c⟩;exact⟨S',C',a,hq _ b,c⟩
theorem Zf1{P:Program}{k:FuncId}{args:Nat->List PV}{xs:List (List PV)}{ret:PV}(h:V9 P k args xs ret){V:Ctx->Store->World->Prop}(keep:∀{C C':Ctx} {S S':Store} {w w':World},Step C S w C' S' w'->V C S w->V C' S' w')
  {l nx:Nat} {J:Nat->Store->Prop} {ys:List (List PV)} (hY:∀i A obs x,ys[i]?=some x->J i A->PYield P V l x (ext A nx obs) (λT=>∃A',J (i+1) A'/\T=ext A' nx obs))
  (off:Nat) (hxs:∀i x,xs[i]?=some x->ys[off+i]?=some x) {A:Store} (hJ:J off A) (obs:List Ob) :
  SpecV P V k (args l) (ext A nx obs) (λp T=>∃A',p=ret/\J (off+xs.length) A'/\T=ext A' nx obs):=by
 refine⟨h.1,(h.2 l V keep (nx+obs.length) (λi T=>∃A',J (off+i) A'/\T=ext A' nx obs) ?_ ?_ (ext A nx obs) ⟨A,hJ,rfl⟩).mono ?_⟩
 ·rintro i T ⟨A',_,rfl⟩;exact jU
 ·rintro i T more x hx ⟨A1,hJ1,rfl⟩;rw[VO _ _ rfl];refine(hY (off+i) A1 (obs++more) x (hxs i x hx) hJ1).mono ?_;rintro T ⟨A',hA',rfl⟩;exact⟨ext A' nx obs,⟨A',hA',rfl⟩,(VO _ _ rfl).symm⟩
 ·rintro p T ⟨rfl,A',hA',rfl⟩;exact⟨A',rfl,hA',rfl⟩
theorem Zaa{P:Program}{nx:Nat}{F:Nat->PV}{obs:List Ob}{rs:List ResultVar}{ps:List PV}{J:Store->Prop}{A:Store}{ret:PV}(hd:zS nx A)(h1:wL P F (ext A nx obs) rs=some ps)(h2:zp ps=ret)(hJ:J A):
  ∃ps S',wL P F (ext A nx obs) rs=some ps/\(zp ps=ret/\J S')/\∀o,S' o=ext A nx obs o\/S' o=.dead:=⟨ps,A,h1,⟨h2,hJ⟩,zO hd⟩
theorem Zf2{α:Type}{f:Nat->Option α}{n k:Nat}{v:α}(hk:k<n)(hf:f k=some v):((List.range n).filterMap f)[((List.range k).filterMap f).length]?=some v:=by
 obtain⟨m,rfl⟩:∃m,n=k+(m+1):=⟨n-k-1,by omega⟩;rw[Dk,BZ,Al (Ag _),Bv,Cv];simp[hf]
theorem Zf3{α:Type}{f:Nat->Option α}{k:Nat}(hf:f k=none):((List.range (k+1)).filterMap f).length=((List.range k).filterMap f).length:=by
 rw[AH,BZ];simp[hf]
theorem Zf4{α:Type}{f:Nat->Option α}{k:Nat}{v:α}(hf:f k=some v):((List.range (k+1)).filterMap f).length=((List.range k).filterMap f).length+1:=by
 rw[AH,BZ];simp[hf]
structure Spot where
 t:Nat
 p:Nat
 m:Int
abbrev Zw(s:Spot):List PV:=[.agg [I s.t,I s.p,I s.m]]
def vR(l:zK)(i:Nat):Int:=if i=0 then 0 else (l.getD (i-1) default).c+1
def uJ(l:zK)(i:Nat):Int:=if i<l.length then (l.getD i default).c+1 else 0
def uK(x:Inst)(l:zK)(s:Stop)(i:Nat):Int:=W (W (arc x (vR l i) (s.c+1)+arc x (s.c+1) (uJ l i))-arc x (vR l i) (uJ l i))
def uL(x:Inst)(t:Nat)(l:zK)(w:Int)(s:Stop)(i:Nat):Option Spot:=if W (w+uK x l s i)<=x.len then some ⟨t,i,uK x l s i⟩ else none
def Zb(x:Inst)(t:Nat)(l:zK)(fl bad ll w:Int)(s:Stop):List Spot :=
 if 0<bad-(if fl=13 then 1 else 0)\/x.cap<W (ll+s.q) then [] else (List.range (l.length+1)).filterMap (uL x t l w s)
abbrev uM(x:Inst)(d:zn)(on:List Int)(tw:Bool)(fs:List Int)(bad:Int)(ls ws:List Int):List PV:=[I x.days,I x.veh,I x.cap,I x.len,L x.cust,L x.dist,L d,L on,B tw,L fs,I bad,L ls,L ws]
theorem ZoD(x:Inst)(d:zn)(on:List Int)(tw:Bool)(fs:List Int)(bad:Nat)(ls ws:List Int)(t:Nat)(l:zK)(s:Stop)(fl ll w:Int)(hbad:bad<=1048576)(hdn:d.length<=1048576)(hd:d[t]?=some l)(hfs:fs[t]?=some fl)(hls:ls[t]?=some ll)(hws:ws[t]?=some w)
  (hfn:fs.length=d.length) (hln:ls.length=d.length) (hwn:ws.length=d.length) (hb:fl=13->0<bad) (hll:l.length<=1048576) (hsl:∀s∈l,qe s.c) (hss:qe s.c) :
  V9 prog 354 (λy=>[.agg (uM x d on tw fs bad ls ws),I t,.agg [I s.c,I s.q],jV y]) ((Zb x t l fl bad ll w s).map Zw) (B true):=by
 refine Zf0 func354 D3 rfl ntmps354 (congrArg Array.toList results354) DZ λy V keep nx J hJd hY A0 hA0=>?_
 have ht:t<d.length:=(Ac.1 hd).1;obtain⟨fl',tf,a1,-,-,ef⟩:=zF rfl fs t DY;obtain⟨ll',tl,a2,-,-,elo⟩:=zF rfl ls t DY;obtain⟨w',tw',a3,-,-,ew⟩:=zF rfl ws t DY;obtain⟨l',td,a4,-,-,ed⟩:=zF rfl d t ht;obtain rfl:fl=fl':=by rw[hfs]at a1;exact Option.some.inj a1
 obtain rfl:ll=ll':=by rw[hls]at a2;exact Option.some.inj a2
 obtain rfl:w=w':=by rw[hws]at a3;exact Option.some.inj a3
 obtain rfl:l=l':=by rw[hd]at a4;exact Option.some.inj a4
 have h1:1<=fs.length-t:=DY
 have h2:1<=ls.length-t:=DY
 have h3:1<=ws.length-t:=DY
 have h4:1<=d.length-t:=DY
 have g1:t<fs.length:=DY
 have g2:t<ls.length:=DY
 have g3:t<ws.length:=DY
 refine D7 ?_;intro v0 v1;refine D7 ?_
 repeat apply za
 refine ze [] (zD ef h1 g1) ?_;obtain⟨oth,hoth⟩:∃oth:Int,oth=bad-(if fl=13 then 1 else 0):=⟨_,rfl⟩;refine qz (nx:=nx) (λ_:Unit=>True) (λ_=>[(1,I t),(3,jV y),(4,.ptr nx v0 0),(6,.ptr (nx+1) v1 0),(9,I oth)]) (λ_=>A0) (λ_=>[.cells v0 395 (uM x d on tw fs bad ls ws),.cells v1 100 [I s.c,I s.q]]) ?_ ?_
 ·repeat apply za
  refine zv rfl (λhq=>?_) (λhq=>?_)
  ·simp at hq;have hb':=hb hq;rw[if_pos hq]at hoth;have wb:IntKind.i64.wrap ((bad:Int)-1)=oth:=by rw[hoth,wr _ DY DY]
   refine ze [] wb ?_;exact zT () [] trivial DZ rfl DZ
  ·simp at hq;rw[if_neg hq]at hoth;obtain rfl:oth=bad:=DY
   exact zh (zT () [] trivial DZ rfl DZ)
 ·rintro⟨⟩ -;have hout:∀(h:0<oth\/x.cap<W (ll+s.q)),Zb x t l fl bad ll w s=[]:=λh=>by unfold Zb;rw[if_pos (by rw[hoth]at h;exact h)]
  by_cases ho:0<oth
  ·rw[hout (.inl ho)]at hY ⊢
   repeat apply za
   refine zz (some [nx,nx+1]) (Row.pures [0,1,2,3,4,5,6,7,8,9,10,11,12,13,14,15] .done) mixed (zo ho zH) ?_;refine zm rfl (D7 ?_);exact zg (Zaa (hJd _ _ hA0) D0 (by simp[zp]) hA0)
  by_cases hcap:x.cap<W (ll+s.q)
  ·rw[hout (.inr hcap)]at hY ⊢
   repeat apply za
   refine zz (some [nx,nx+1]) (Row.pures [0,1,2,3,4,5,6,7,8,9,10,11,12,13,14,15] .done) mixed (yd ho hcap elo h2 g2 zH) ?_;refine zm rfl (D7 ?_);exact zg (Zaa (hJd _ _ hA0) D0 (by simp[zp]) hA0)
  have hz:Zb x t l fl bad ll w s=(List.range (l.length+1)).filterMap (uL x t l w s):=by unfold Zb;rw[if_neg (by rw[<-hoth];simp[ho,hcap])]
  clear hout;rw[hz]at hY ⊢
  repeat apply za
  refine zz (some [nx,nx+1]) (Row.pures [0,1,2,3,4,5,6,7,8,9,10,11,12,13,14,15] .done) mixed (yF ho hcap elo h2 g2) ?_;refine zk rfl (zh ?_);have wc:IntKind.i64.wrap (s.c+1)=s.c+1:=wr _ (by unfold qe at hss;omega) (by unfold qe at hss;omega);refine za (zz (some [nx,nx+1]) (Row.pures [0,1,2,3,4,5,6,7,8,9,10,11] .done) mixed (zN ed h4 ht wc) ?_);have wl:IntKind.i64.wrap ((l.length:Int)+1)=((l.length+1:Nat):Int):=zu _ DY
  repeat apply za
  refine ze [] wl ?_;refine zj (jC (σ:=Nat × Store) (λs'=>s'.1<=l.length+1/\J ((List.range s'.1).filterMap (uL x t l w s)).length s'.2) (λs'=>[(1,I t),(3,jV y),(4,.ptr nx v0 0),(6,.ptr (nx+1) v1 0),(10,L l),(11,I (s.c+1)),(54,I ((l.length+1:Nat):Int)),(55,I s'.1)]) (λs'=>s'.2)
   (λ_=>[.cells v0 395 (uM x d on tw fs bad ls ws),.cells v1 100 [I s.c,I s.q]]) (λs'=>l.length+1-s'.1) (zT (0,A0) [] (by simpa using hA0) DZ rfl DZ) ?_)
  rintro⟨k,A⟩ ⟨hk,hJ⟩;simp only at hk hJ ⊢;refine D7 ?_;refine za (zv rfl (λhc=>?_) (λhc=>?_))
  ·simp at hc;refine zh (za (zj (D7 ?_)));refine D7 ?_
   repeat apply za
   refine zb ?_;refine qz (nx:=nx) (λ_:Unit=>True) (λ_=>[(1,I t),(3,jV y),(4,.ptr nx v0 0),(6,.ptr (nx+1) v1 0),(10,L l),(11,I (s.c+1)),(12,I k),(13,I (vR l k)),(14,I 0),(54,I ((l.length+1:Nat):Int)),(55,I k)]) (λ_=>A) (λ_=>[.cells v0 395 (uM x d on tw fs bad ls ws),.cells v1 100 [I s.c,I s.q]]) ?_ ?_
   ·repeat apply za
    refine zv rfl (λhk0=>?_) (λhk0=>?_)
    ·simp at hk0;obtain⟨j,rfl⟩:∃j,k=j+1:=⟨k-1,by omega⟩;obtain⟨p,tp,p1,-,-,-,ep⟩:=el 2 rfl l j DY;have wj:IntKind.i64.wrap (j:Int)=(j:Int):=wr _ DY DY;have hjl:j<l.length:=DY
     have hj2:2<=l.length*2-j*2:=DY
     have hsm:=hsl p (Ab p1);have wp:IntKind.i64.wrap (p.c+1)=p.c+1:=wr _ (by unfold qe at hsm;omega) (by unfold qe at hsm;omega);have hah:vR l (j+1)=p.c+1:=by unfold vR;rw[if_neg DY,B5,Aa,p1];rfl
     refine ze [] (yF wj ep wp hjl hj2) ?_;exact zT () [] trivial (by simp[hah]) rfl DZ
    ·simp at hk0;subst hk0;exact zh (zT () [] trivial (by simp[vR]) rfl DZ)
   ·rintro⟨⟩ -
    repeat apply za
    refine zb ?_;refine qz (nx:=nx) (λ_:Unit=>True) (λ_=>[(1,I t),(3,jV y),(4,.ptr nx v0 0),(6,.ptr (nx+1) v1 0),(10,L l),(11,I (s.c+1)),(12,I k),(13,I (vR l k)),(14,I (uJ l k)),(54,I ((l.length+1:Nat):Int)),(55,I k)]) (λ_=>A) (λ_=>[.cells v0 395 (uM x d on tw fs bad ls ws),.cells v1 100 [I s.c,I s.q]]) ?_ ?_
    ·repeat apply za
     refine zv rfl (λhk0=>?_) (λhk0=>?_)
     ·simp at hk0;obtain⟨p,tp,p1,-,-,-,ep⟩:=el 2 rfl l k hk0;have hj2:2<=l.length*2-k*2:=DY
      have hsm:=hsl p (Ab p1);have wp:IntKind.i64.wrap (p.c+1)=p.c+1:=wr _ (by unfold qe at hsm;omega) (by unfold qe at hsm;omega);have hah:uJ l k=p.c+1:=by unfold uJ;rw[if_pos hk0,Aa,p1];rfl
      refine ze [] (zN ep wp hk0 hj2) ?_;exact zT () [] trivial (by simp[hah]) rfl DZ
     ·simp at hk0;exact zh (zT () [] trivial (by simp[uJ];omega) rfl DZ)
    ·rintro⟨⟩ -;have q1:=w8 x (vR l k) (s.c+1);have q2:=w8 x (s.c+1) (uJ l k);have q3:=w8 x (vR l k) (uJ l k);have hmo:W (W (arc x (vR l k) (s.c+1)+arc x (s.c+1) (uJ l k))-arc x (vR l k) (uJ l k))=uK x l s k:=rfl;refine za (zz (some [nx,nx+1]) (Row.pures [0,1,2,3,4,5,6,7,8,9,10,11,12,13,14,15,16,17] .done) mixed trivial ?_);refine zG (q1) trivial ?_;refine zG (q2) trivial ?_;refine zG (q3) hmo ?_
     by_cases hf:W (w+uK x l s k)<=x.len
     ·have hsp:uL x t l w s k=some ⟨t,k,uK x l s k⟩:=by unfold uL;rw[if_pos hf]
      have hat:=Zf2 (n:=l.length+1) DY hsp;have hnx:=Zf4 hsp;have hy:(((List.range (l.length+1)).filterMap (uL x t l w s)).map Zw)[((List.range k).filterMap (uL x t l w s)).length]?=some (Zw ⟨t,k,uK x l s k⟩):=by rw[Aj,hat];rfl
      refine za (zz (some [nx,nx+1]) (Row.pures [0,1,2,3,4,5,6,7,8,9,10,11,12,13,14,15,16] (.alt 17 (Row.pures [18,19] .done) .stop)) mixed (yF hmo ew h3 g3 hf) ?_);refine⟨by rfl,(JZ rfl rfl rfl (hY _ _ _ _ hy hJ) ?_)⟩;rintro _ ⟨A',hJ',rfl⟩;refine⟨by simp[yM],jD trivial ?_⟩;refine zk rfl (zh (zb ?_));exact zq (k+1,A') [] ⟨by show k+1<=_;omega,by rw[hnx];exact hJ'⟩ D2 (by simp[zu k (by omega)]) rfl DZ
     ·have hsp:uL x t l w s k=none:=by unfold uL;rw[if_neg hf]
      have hnx:=Zf3 hsp;refine za (zz (some [nx,nx+1]) (Row.pures [0,1,2,3,4,5,6,7,8,9,10,11,12,13,14,15,16,17,18,19] .done) mixed (yd hmo ew h3 g3 hf zH) ?_);refine zk rfl (zh (zb ?_));exact zq (k+1,A) [] ⟨by show k+1<=_;omega,by rw[hnx];exact hJ⟩ D2 (by simp[zu k (by omega)]) rfl DZ
  ·simp at hc;obtain rfl:k=l.length+1:=DY
   refine zx (D7 ?_);exact zg (Zaa (hJd _ _ hJ) D0 (by simp[zp]) (by simpa using hJ))
open Go
theorem Zcl(x:Inst):(yG x).cust.length<=6:=by simp[yG];omega
theorem Zab:∀(d:zn),(∀t∈d,t≠[])->d.length<=d.flatten.length
 | [],_=>by simp
 | t :: d,h=>by
  have:=Zab d λt ht=>h t (by simp[ht])
  have h1:t.length≠0:=by simpa using h t DZ
  rw[BJ,Ar,Ad];omega
theorem YH{d:zn}{t:zK}(h:t∈d):t.Sublist d.flatten:=by
 obtain⟨a,b,rfl⟩:=List.append_of_mem h;rw[List.flatten_append,BJ];exact(List.sublist_append_left t b.flatten).trans (List.sublist_append_right a.flatten _)
theorem ZoE{a b:List Int}(h:a.Perm b):a.sum=b.sum:=by
 induction h with
 | nil=>rfl
 | cons x _ ih=>simp[ih]
 | swap x y l=>simp;omega
 | trans _ _ ih1 ih2=>exact ih1.trans ih2
theorem vn(x:Inst)(d:zn):yr x d=0<->(∀t∈d,zQ x t=0)/\(d.flatten.map (·.c)).Nodup/\(d.length:Int)<=x.veh:=by
 unfold yr;cases hf:d.find? (λt=>zQ x t != 0) with
 | some t =>
  have h1:=List.find?_some hf;have h2:=List.mem_of_find?_eq_some hf;simp only;constructor
  ·intro e;simp[e]at h1
  ·rintro⟨h,_⟩;exact h t h2
 | none =>
  rw[List.find?_eq_none]at hf;simp only;constructor
  ·intro e;refine⟨λt ht=>by simpa using hf t ht,?_⟩;split at e
   ·cases e
   ·split at e
    ·cases e
    ·rename_i h1 h2;exact⟨by simpa using h1,by omega⟩
  ·rintro⟨_,h1,h2⟩;rw[if_neg (by simpa using h1),if_neg DY]
theorem Xc(x:Inst)(t:zK):zQ x t=0<->jh x t=true/\(t.map (·.c)).Nodup/\W (zU t)<=x.cap/\W (yE x (t.map (·.c)))<=x.len:=by
 unfold zQ;constructor
 ·intro e;split at e
  ·cases e
  ·split at e
   ·cases e
   ·split at e
    ·cases e
    ·split at e
     ·cases e
     ·rename_i h1 h2 h3 h4;exact⟨by simpa using h1,by simpa using h2,by omega,by omega⟩
 ·rintro⟨h1,h2,h3,h4⟩;rw[if_neg (by simp[h1]),if_neg (by simpa using h2),if_neg DY,if_neg DY]
theorem Zcm{t:zK}(h:∀s∈t,0<=s.q/\s.q<=2147483648):0<=zU t/\zU t<=2147483648*t.length:=by
 induction t with
 | nil=>simp[zU]
 | cons s t ih =>
  have:=ih λa ha=>h a (by simp[ha])
  have:=h s DZ;simp only[zU,Az,BP,Ad]at *;omega
theorem ZoF(a b:zK):zU (a++b)=zU a+zU b:=by simp[zU]
open Go Go.Proofs
def qn(x:Inst)(d:zn)(s:Stop):List Spot :=
 if zQ x [s]=1\/s.c∈d.flatten.map (·.c)\/¬(d.flatten.map (·.c)).Nodup\/x.veh<d.length then []
 else ((List.range d.length).flatMap λt=>Zb x t (d.getD t []) (zQ x (d.getD t [])) (yY x d) (jp (d.getD t [])) (jG x (d.getD t [])) s) ++
  (if yY x d=0/\zQ x [s]=0/\(d.length:Int)<x.veh then [⟨d.length,0,W (yE x [s.c])⟩] else [])
def YI(st:Spot × Bool)(b:Spot):Spot × Bool:=if st.2=false\/b.m<st.1.m then (b,true) else st
def Zx(l:List Spot):Spot × Bool:=l.foldl YI (⟨0,0,0⟩,false)
def xh(l:zK)(i:Nat)(s:Stop):zK:=l.take i++s :: l.drop i
def jO(d:zn)(b:Spot)(s:Stop):zn:=if b.t=d.length then d++[[s]] else d.set b.t (xh (d.getD b.t []) b.p s)
def yL(x:Inst)(d:zn)(s:Stop):zn × Bool:=bif (Zx (qn x d s)).2 then (jO d (Zx (qn x d s)).1 s,true) else (d,false)
theorem Zf5:∀(l:List Spot) (st:Spot × Bool),(l.foldl YI st).2=true->(l.foldl YI st)=st\/(l.foldl YI st).1∈l
 | [],st,_=>.inl rfl
 | b :: l,st,h=>by
  rw[A4]at h ⊢;rcases Zf5 l _ h with e | e
  ·by_cases hq:st.2=false\/b.m<st.1.m
   ·right;rw[e];unfold YI;rw[if_pos hq];simp
   ·left;rw[e];unfold YI;rw[if_neg hq]
  simp_all
theorem Zac{l:List Spot}(h:(Zx l).2=true):(Zx l).1∈l:=by grind[Zf5,Zx]
theorem ZoG{x:Inst}{t:Nat}{l:zK}{fl bad ll w:Int}{s:Stop}{b:Spot}(h:b∈Zb x t l fl bad ll w s):¬(0<bad-(if fl=13 then 1 else 0))/\W (ll+s.q)<=x.cap/\b∈(List.range (l.length+1)).filterMap (uL x t l w s):=by simp_all[Zb]
theorem Ww{x:Inst}{d:zn}{s:Stop}{b:Spot}(h:b∈qn x d s):
  zQ x [s]≠1/\s.c ∉ d.flatten.map (·.c)/\(d.flatten.map (·.c)).Nodup/\(d.length:Int)<=x.veh /\
  ((∃l,d[b.t]?=some l/\b.p<=l.length/\¬(0<(yY x d:Int)-(if zQ x l=13 then 1 else 0))/\W (jp l+s.q)<=x.cap/\b.m=uK x l s b.p/\W (jG x l+b.m)<=x.len) \/
   (b=⟨d.length,0,W (yE x [s.c])⟩/\yY x d=0/\zQ x [s]=0/\(d.length:Int)<x.veh)):=by
 unfold qn at h;split at h
 ·cases h
 ·rename_i hq;have q1:zQ x [s]≠1:=λe=>hq (.inl e)
  have q2:s.c ∉ d.flatten.map (·.c):=λe=>hq (.inr (.inl e))
  have q3:(d.flatten.map (·.c)).Nodup:=Classical.byContradiction λe=>hq (.inr (.inr (.inl e)))
  have q4:(d.length:Int)<=x.veh:=by
   rcases Int.lt_or_le x.veh d.length with e | e
   ·exact absurd (.inr (.inr (.inr e))) hq
   ·exact e
  refine⟨q1,q2,q3,q4,?_⟩;rw[AB]at h;rcases h with h | h
  ·left;obtain⟨t,ht,hb⟩:=B6.1 h;rw[AL]at ht;have hd:d[t]?=some (d.getD t []):=by rw[Aa,Ae ht];rfl
   obtain⟨w1,w2,hb⟩:=ZoG hb;obtain⟨i,hi,he⟩:=Ck.1 hb;rw[AL]at hi;unfold uL at he
   by_cases hlen:W (jG x (d.getD t [])+uK x (d.getD t []) s i)<=x.len
   ·rw[if_pos hlen]at he;cases he;exact⟨_,hd,by simp only;omega,w1,w2,rfl,hlen⟩
   ·rw[if_neg hlen]at he;cases he
  simp_all
def qf(a:Int):List Int->Int
 | []=>a
 | c :: l=>qf (c+1) l
def Zad:List Int->Int
 | []=>0
 | c :: _=>c+1
theorem Zf6(x:Inst)(c:Int)(r:List Int):∀(p:List Int) (a:Int),jN x a (p++c :: r)=jN x a (p++r)+(arc x (qf a p) (c+1)+arc x (c+1) (Zad r)-arc x (qf a p) (Zad r))
 | [],a=>by cases r<;>grind[jN,qf,Zad]
 | e :: p,a=>by
  simp only[List.cons_append,jN,qf];rw[Zf6 x c r p (e+1)];omega
theorem Zf7:∀(p:List Int) (a:Int),qf a p=if p.length=0 then a else (p.getD (p.length-1) 0)+1
 | [],a=>by simp[qf]
 | [c],a=>by simp[qf]
 | c :: e :: p,a=>by
  simp only[qf];rw[show qf (e+1) p=qf (c+1) (e :: p) from rfl,Zf7 (e :: p) (c+1)];simp
theorem ZoH(l:zK)(i:Nat)(h:i<l.length):(l.map (·.c)).getD i 0=(l.getD i default).c:=D6
theorem ZoI(x:Inst)(l:zK)(s:Stop)(i:Nat)(h0:l≠[])(hi:i<=l.length):
  yE x ((xh l i s).map (·.c))=yE x (l.map (·.c))+(arc x (vR l i) (s.c+1)+arc x (s.c+1) (uJ l i)-arc x (vR l i) (uJ l i)):=by
 unfold yE xh;rw[if_neg DZ,if_neg (by simpa using h0)];rw[List.map_append,Az,Zf6,<-List.map_append,List.take_append_drop];have e1:qf 0 ((l.take i).map (·.c))=vR l i:=by
  rw[Zf7];unfold vR;rw[List.length_map,Ay]
  by_cases hz:i=0
  ·rw[if_pos DY,if_pos hz]
  ·rw[if_neg DY,if_neg hz,ZoH _ _ (by rw[Ay];omega)];rw[Aa,Aa,AM DY,show min i l.length-1=i-1 from by omega]
 grind[Zad,uJ,List.drop_eq_getElem_cons]
theorem Zf8(x:Inst)(l:zK)(s:Stop)(i:Nat)(h0:l≠[])(hi:i<=l.length):jG x (xh l i s)=W (jG x l+uK x l s i):=by
 unfold jG uK
 grind[ZoI,IntKind.wrap_i64]
theorem Zf9(l:zK)(s:Stop)(i:Nat):jp (xh l i s)=W (jp l+s.q):=by grind[jp,vK,zU,xh,List.take_append_drop]
theorem Wx(l:zK)(s:Stop)(i:Nat):(xh l i s).Perm (s :: l):=by grind[xh,List.take_append_drop]
theorem Zcn{α:Type}:∀(d:List (List α)) (t:Nat) (l m:List α) (s:α),d[t]?=some l->m.Perm (s :: l)->(d.set t m).flatten.Perm (s :: d.flatten)
 | [],t,l,m,s,h,_=>by simp at h
 | a :: d,0,l,m,s,h,hm=>by
  simp at h;subst h;simp only[Bc,BJ];exact(hm.append_right _)
 | a :: d,t+1,l,m,s,h,hm=>by
  simp only[Bg]at h;simp only[AX,BJ];exact((Zcn d t l m s h hm).append_left a).trans Dz
theorem Zco{x:Inst}{d:zn}{s:Stop}{b:Spot}(h:b∈qn x d s):(jO d b s).flatten.Perm (s :: d.flatten):=by
 obtain⟨-,-,-,-,h⟩:=Ww h;unfold jO
 grind[Zcn,Wx]
theorem Zae{x:Inst}{d:zn}{s:Stop}(h:(yL x d s).2=true):(yL x d s).1.flatten.Perm (s :: d.flatten):=by grind[yL,Zco,Zac]
theorem Zga{x:Inst}{d:zn}{s:Stop}(h:(yL x d s).2=false):(yL x d s).1=d:=by grind[yL]
theorem ZoJ{x:Inst}{a b:zK}(h:a.Perm b):jh x a=jh x b:=by
 unfold jh;have h1:a.all (jF x)=b.all (jF x):=by
  rw[DI,AA,AA];exact⟨λq s hs=>q s (h.symm.subset hs),λq s hs=>q s (h.subset hs)⟩
 have h2:a.isEmpty=b.isEmpty:=by
  cases a with
  | nil=>simp_all
  | cons a l =>
   grind
 rw[h1,h2]
theorem Zaf{x:Inst}{t:zK}(h:jh x t=true):t≠[]:=by simp_all[jh]
theorem Zcp{x:Inst}{t:zK}(h:jh x t=false):zQ x t=1:=by simp_all[zQ]
theorem Zgb{x:Inst}{s:Stop}(h:zQ x [s]≠1):jF x s=true:=by grind[jh,Zcp]
theorem Qq{x:Inst}{d:zn}:yY x d=0<->∀t∈d,zQ x t=0:=by simp[yY]
theorem Zcq{x:Inst}{d:zn}{s:Stop}{b:Spot}(h:b∈qn x d s):yr x (jO d b s)=0:=by
 have hp:=Zco h;obtain⟨q1,q2,q3,q4,h⟩:=Ww h;rw[vn];have hg:=Zgb q1;have hn:((jO d b s).flatten.map (·.c)).Nodup:=by
  rw[(hp.map _).nodup_iff,Az,Cq];exact⟨q2,q3⟩
 refine⟨?_,hn,?_⟩
 ·rcases h with ⟨l,hl,hi,ho,hcap,hm,hlen⟩ | ⟨rfl,hb,hs,hv⟩
  ·obtain⟨hlt,hle⟩:=Ac.1 hl;have hpd:jO d b s=d.set b.t (xh l b.p s):=by unfold jO;rw[if_neg DY,Aa,hl];rfl
   -- the other tours
   have hoth:∀j m,j≠b.t->d[j]?=some m->zQ x m=0:=by
    intro j m hj hm';refine Classical.byContradiction λhbad=>?_
    have h13:0<yY x d:=by
     rcases B1 (yY x d) with e | e
     ·exact absurd (Qq.1 e m (Ab hm')) hbad
     ·exact e
    by_cases hf:zQ x l=13
    ·rw[if_pos hf]at ho;have h2:2<=yY x d:=by
      unfold yY;obtain⟨hjl,hje⟩:=Ac.1 hm';have key:∀(i j:Nat),i<j->∀(a c:zK),d[i]?=some a->d[j]?=some c->zQ x a≠0->zQ x c≠0->2<=(d.filter λt=>decide (zQ x t≠0)).length:=by
       intro i j hij a c ha hc na nc;obtain⟨hil,rfl⟩:=Ac.1 ha;obtain⟨hjl,rfl⟩:=Ac.1 hc;have e:d=d.take (i+1)++d.drop (i+1):=(List.take_append_drop _ _).symm;rw[e,Bu,Ar];have m1:d[i]∈(d.take (i+1)).filter λt=>decide (zQ x t≠0):=A7.2 ⟨Ab (i:=i) (by rw[AM (by omega)];exact ha),by simp[na]⟩
       have m2:d[j]∈(d.drop (i+1)).filter λt=>decide (zQ x t≠0):=A7.2 ⟨Ab (i:=j-(i+1)) (by rw[AR,show i+1+(j-(i+1))=j from by omega];exact hc),by simp[nc]⟩
       have:=DF m1;have:=DF m2;omega
      have nl:zQ x l≠0:=by rw[hf];decide
      rcases Bi j b.t with h3 | h3
      ·exact key j b.t h3 m l hm' hl hbad nl
      ·exact key b.t j DY l m hl hm' nl hbad
     omega
    ·rw[if_neg hf]at ho;omega
   -- the tour itself
   have hself:zQ x l=0\/zQ x l=13:=by
    by_cases hf:zQ x l=13
    ·exact .inr hf
    ·rw[if_neg hf]at ho;exact .inl (Qq.1 DY l (Ab hl))
   have hst:jh x l=true:=by
    cases e:jh x l with
    | true=>rfl
    | false=>rw[Zcp e]at hself;rcases hself with h | h<;>cases h
   have hne:=Zaf hst;intro t ht;rw[hpd]at ht;obtain⟨j,hj⟩:=Bl.1 ht;rw[BB]at hj
   by_cases hjb:b.t=j
   ·rw[if_pos hjb,if_pos hlt]at hj;cases hj;rw[Xc];refine⟨?_,?_,?_,?_⟩
    ·rw[ZoJ (Wx l s b.p)];unfold jh at hst ⊢;simp only[List.all_cons,List.isEmpty_cons,Aw]at hst ⊢;exact⟨⟨hg,hst.1⟩,rfl⟩
    ·have hsub:(xh l b.p s).Sublist (jO d b s).flatten:=by rw[hpd];exact YH ht
     exact hn.sublist (hsub.map _)
    ·have:=Zf9 l s b.p;unfold jp at this;rw[this];exact hcap
    ·have:=Zf8 x l s b.p hne hi;unfold jG at this;rw[this,<-hm];exact hlen
   ·rw[if_neg hjb]at hj;exact hoth j t (λe=>hjb e.symm) hj
  grind[jO,Qq]
 ·rcases h with ⟨l,hl,-⟩ | ⟨rfl,-,-,hv⟩
  ·have hlt:=(Ac.1 hl).1;unfold jO;rw[if_neg DY,Bt];exact q4
  grind[jO]
def x9(c:Int)(t:zK):zK:=t.filter λs=>decide (s.c≠c)
def jP(c:Int)(d:zn):zn:=(d.map (x9 c)).filter λt=>!t.isEmpty
def Zgc(c:Int)(d:zn):Int:=W ((d.flatten.filter λs=>decide (s.c=c)).map (·.q)).sum
theorem ZoK(c:Int)(a b:zn):jP c (a++b)=jP c a++jP c b:=by simp[jP]
open Go Hp
theorem JI.begin:∀(l pre:List Stop) (T:zn) (g:Int->Option Int),JI pre T g->((pre++l).map (·.c)).Nodup->∃g',JI (pre++l) (T++l.map λs=>[s]) g'
 | [],pre,T,g,h,_=>⟨g,by simpa using h⟩
 | s :: l,pre,T,g,h,hn=>by
  have hs:s.c ∉ pre.map (·.c):=by
   rw[List.map_append,Dt]at hn;exact λhm=>hn.2.2 _ hm s.c DZ rfl
  obtain⟨g',h'⟩:=JI.begin l (pre++[s]) (T++[[s]]) _ (h.snoc s hs) (by simpa using hn);exact⟨g',by simpa using h'⟩
theorem Zcr{α:Type}(f:α->Int):∀(T:List α) (i:Nat) (a b:α),T[i]?=some a->((T.set i b).map f).sum=(T.map f).sum-f a+f b
 | [],i,a,b,h=>by simp at h
 | t :: T,0,a,b,h=>by simp at h;subst h;simp;omega
 | t :: T,i+1,a,b,h=>by
  simp only[Bg]at h;simp only[AX,Az,BP];rw[Zcr f T i a b h];omega
open Go Go.Proofs
theorem Zgd{x:Inst}(h:qX x):∀(l:List Int) (a:Int),0<=jN x a l/\jN x a l<=2147483648*((l.length:Int)+1)
 | [],a=>by
  have:=h a 0
  simp_all[jN]
 | c :: l,a=>by
  have h1:=h a (c+1);have h2:=Zgd h l (c+1)
  grind[jN]
theorem Wy{x:Inst}(h:qX x)(l:List Int):0<=yE x l/\yE x l<=2147483648*((l.length:Int)+1):=by
 unfold yE;split<;>simp_all[Zgd]
def Qr(d:zn):List (Nat × Nat):=(List.range (d.length+1)).flatMap λt=>(List.range ((d.getD t []).length+1)).map λp=>(t,p)
def Z4(d:zn)(s:Stop)(c:Nat × Nat):zn:=jO d ⟨c.1,c.2,0⟩ s
def Zcs(x:Inst)(d:zn)(s:Stop)(c:Nat × Nat):Int:=if c.1=d.length then W (yE x [s.c]) else uK x (d.getD c.1 []) s c.2
def Jl(x:Inst)(d:zn)(s:Stop)(c:Nat × Nat):Option Spot:=if yr x (Z4 d s c)=0 then some ⟨c.1,c.2,Zcs x d s c⟩ else none
theorem Zge(d:zn)(s:Stop)(b:Spot):jO d b s=Z4 d s (b.t,b.p):=rfl
theorem Zgf{d:zn}{c:Nat × Nat}:c∈Qr d<->c.1<=d.length/\c.2<=(d.getD c.1 []).length:=by grind[Qr]
abbrev Zag(x:Inst)(d:zn)(s:Stop):Prop:=zQ x [s]=1\/s.c∈d.flatten.map (·.c)\/¬(d.flatten.map (·.c)).Nodup\/x.veh<d.length
theorem Zgg{d:zn}{s:Stop}{t p:Nat}{l:zK}(hl:d[t]?=some l):Z4 d s (t,p)=d.set t (xh l p s):=by grind[Z4,jO]
theorem Zgh(d:zn)(s:Stop)(p:Nat):Z4 d s (d.length,p)=d++[[s]]:=by simp[Z4,jO]
theorem ZoL{d:zn}{s:Stop}{c:Nat × Nat}(hc:c∈Qr d):(Z4 d s c).flatten.Perm (s :: d.flatten):=by
 obtain⟨t,p⟩:=c;obtain⟨h1,h2⟩:=Zgf.1 hc;simp only at h1 h2
 by_cases ht:t=d.length
 ·simp_all[Zgh]
 ·have hl:d[t]?=some (d.getD t []):=by rw[Aa,Ae DY];rfl
  rw[Zgg hl]
  grind[Zcn,Wx]
theorem ZoM{x:Inst}{d:zn}{s:Stop}(hd:yr x d=0){c:Nat × Nat}(hc:c∈Qr d)(h:yr x (Z4 d s c)=0):¬Zag x d s:=by
 have hp:=ZoL (s:=s) hc;obtain⟨g1,g2,g3⟩:=(vn x _).1 h;obtain⟨e1,e2,e3⟩:=(vn x _).1 hd;rw[(hp.map _).nodup_iff,Az,Cq]at g2;rintro(q | q | q | q)
 ·obtain⟨u,hu,hsu⟩:=BO.1 (hp.symm.subset (Cl (a:=s)))
  grind[jh,zQ]
 ·exact g2.1 q
 ·exact q e2
 ·omega
theorem Zgi{x:Inst}{d:zn}{s:Stop}(hd:yr x d=0)(ho:¬Zag x d s){t p:Nat}{l:zK}(hl:d[t]?=some l)(hp:p<=l.length):
  yr x (Z4 d s (t,p))=0<->W (jp l+s.q)<=x.cap/\W (jG x l+uK x l s p)<=x.len:=by
 obtain⟨e1,e2,e3⟩:=(vn x _).1 hd;have hlm:=Ab hl;have hlt:=(Ac.1 hl).1;have hm0:=e1 l hlm;have hne:l≠[]:=Zaf ((Xc x l).1 hm0).1;have hb:yY x d=0:=Qq.2 e1;have hg:d.getD t []=l:=by rw[Aa,hl];rfl
 constructor
 ·intro h;obtain⟨g1,-,-⟩:=(vn x _).1 h;rw[Zgg hl]at g1;have:=g1 (xh l p s) (Ab (i:=t) (by simp[hlt]));obtain⟨-,-,a,b⟩:=(Xc x _).1 this;have ha:=Zf9 l s p;have hw:=Zf8 x l s p hne hp
  simp_all[jp,jG]
 ·rintro⟨a,b⟩;have hmem:(⟨t,p,uK x l s p⟩:Spot)∈qn x d s:=by
   unfold qn;rw[if_neg ho];refine List.mem_append_left _ (B6.2 ⟨t,AL.2 hlt,?_⟩);rw[hg,hb,hm0];unfold Zb;rw[if_neg D2];refine Ck.2 ⟨p,AL.2 DY,?_⟩;unfold uL;rw[if_pos b]
  have:=Zcq hmem
  simp_all[Zge]
theorem ZoN{x:Inst}{d:zn}{s:Stop}(hd:yr x d=0)(ho:¬Zag x d s):yr x (Z4 d s (d.length,0))=0<->zQ x [s]=0/\(d.length:Int)<x.veh:=by
 obtain⟨e1,e2,e3⟩:=(vn x _).1 hd;have hb:yY x d=0:=Qq.2 e1;constructor
 ·grind[vn,Zgh]
 ·rintro⟨a,b⟩;have hmem:(⟨d.length,0,W (yE x [s.c])⟩:Spot)∈qn x d s:=by
   unfold qn;rw[if_neg ho,if_pos ⟨hb,a,b⟩];exact List.mem_append_right _ DZ
  have:=Zcq hmem
  simp_all[Zge]
theorem Zgj{α β:Type}{f:α->Option β}{l:List α}(h:∀a∈l,f a=none):l.filterMap f=[]:=D6
theorem Zgk{α β:Type}{f g:α->List β}:∀{l:List α},(∀a∈l,f a=g a)->l.flatMap f=l.flatMap g
 | [],_=>rfl
 | a :: l,h=>by rw[Ax,Ax,h a DZ,Zgk λb hb=>h b (by simp[hb])]
theorem Zgl{α β:Type}{f g:α->Option β}:∀{l:List α},(∀a∈l,f a=g a)->l.filterMap f=l.filterMap g
 | [],_=>rfl
 | a :: l,h=>by
  have ih:=Zgl (f:=f) (g:=g) (l:=l) λb hb=>h b (by simp[hb])
  grind
def YJ(x:Inst)(d:zn)(s:Stop)(t:Nat):List Spot:=((List.range ((d.getD t []).length+1)).map λp=>(t,p)).filterMap (Jl x d s)
theorem Zgm{x:Inst}{d:zn}{s:Stop}(hd:yr x d=0):qn x d s=(List.range (d.length+1)).flatMap (YJ x d s):=by
 by_cases ho:Zag x d s
 ·unfold qn;rw[if_pos ho];symm;rw[List.flatMap_eq_nil_iff];intro t ht;rw[AL]at ht;refine Zgj λc hc=>?_
  obtain⟨p,hp,rfl⟩:=Am.1 hc;rw[AL]at hp;unfold Jl;rw[if_neg];intro h;exact ZoM hd (Zgf.2 ⟨by omega,by simp only;omega⟩) h ho
 ·unfold qn;obtain⟨e1,e2,e3⟩:=(vn x _).1 hd;have hb:yY x d=0:=Qq.2 e1;rw[if_neg ho,AH,Ap];congr 1
  ·refine Zgk λt ht=>?_
   rw[AL]at ht;have hl:d[t]?=some (d.getD t []):=by rw[Aa,Ae ht];rfl
   have hm0:=e1 _ (Ab hl);unfold YJ Zb;rw[hm0,hb,List.filterMap_map]
   by_cases hcap:x.cap<W (jp (d.getD t [])+s.q)
   ·rw[if_pos (.inr hcap)];symm;refine Zgj λp hp=>?_
    rw[AL]at hp;simp only[Function.comp_apply];unfold Jl;rw[if_neg];rw[Zgi hd ho hl DY];omega
   ·rw[if_neg (show ¬(0<((0:Nat):Int)-(if (0:Int)=13 then 1 else 0)\/x.cap<W (jp (d.getD t [])+s.q)) from by rintro(q | q);exact absurd q D4;exact hcap q)];refine Zgl λp hp=>?_
    grind[Zgi,Jl,uL,Zcs]
  ·have hi:=ZoN hd ho;simp only[Ax,B9,AC];unfold YJ;rw[show d.getD d.length []=([]:zK) from by rw[Aa,Ak (Ag _)];rfl]
   grind[Jl,Zcs]
theorem Zgn{α β γ:Type}(f:α->List β)(g:β->Option γ):∀l:List α,(l.flatMap f).filterMap g=l.flatMap λa=>(f a).filterMap g
 | []=>rfl
 | a :: l=>by rw[Ax,BZ,Zgn f g l,Ax]
theorem ZoO{x:Inst}{d:zn}{s:Stop}(hd:yr x d=0):qn x d s=(Qr d).filterMap (Jl x d s):=by
 rw[Zgm hd];unfold Qr;rw[Zgn];rfl
theorem Zgo{x:Inst}{d:zn}(h:yr x d=0):∀t∈d,t≠[]:=λt ht=>Zaf ((Xc x t).1 (((vn x d).1 h).1 t ht)).1
def Qt(st:Int × Bool)(m:Int):Int × Bool:=if st.2=false\/m<st.1 then (m,true) else st
def Qu(l:List Int):Int × Bool:=l.foldl Qt (0,false)
def Xd(x:Inst)(d:zn)(s:Stop)(n:Nat):List Int:=(List.range n).filterMap λt=>bif (Qu ((YJ x d s t).map (·.m))).2 then some (Qu ((YJ x d s t).map (·.m))).1 else none
def Xe(x:Inst)(d:zn)(s:Stop):List Int:=yU (Xd x d s (d.length+1))
theorem Zct:∀(l:List Int) (m:Int),(l.foldl Qt (m,true)).2=true
 | [],_=>rfl
 | a :: l,m=>by
  rw[A4];unfold Qt;split
  ·exact Zct l a
  ·exact Zct l m
theorem ZoP:Qu []=(0,false):=rfl
theorem ZoQ(a:Int)(l:List Int):Qu (a :: l)=l.foldl Qt (a,true):=by simp[Qu,Qt]
def vp(st:List Int × Int)(p:Spot):List Int × Int :=
 if (p.t:Int)≠st.2 then (st.1++[p.m],(p.t:Int)) else (st.1.set (st.1.length-1) (if p.m<st.1.getD (st.1.length-1) 0 then p.m else st.1.getD (st.1.length-1) 0),st.2)
theorem Zgp(t:Nat):∀(g:List Spot) (l:List Int) (m:Int),(∀p∈g,p.t=t)->g.foldl vp (l++[m],(t:Int))=(l++[((g.map (·.m)).foldl Qt (m,true)).1],(t:Int))
 | [],l,m,_=>rfl
 | p :: g,l,m,h=>by
  have hp:=h p DZ;have hs:vp (l++[m],(t:Int)) p=(l++[if p.m<m then p.m else m],(t:Int)):=by
   unfold vp;rw[hp,if_neg DZ];simp
  have hm:Qt (m,true) p.m=(if p.m<m then p.m else m,true):=by
   unfold Qt
   by_cases q:p.m<m<;>simp[q]
  rw[A4,hs,Az,A4,hm];exact Zgp t g l _ λq hq=>h q (by simp[hq])
theorem ZoR{t:Nat}{g:List Spot}(hg:∀p∈g,p.t=t)(l:List Int)(last:Int)(hl:last<t):
  g.foldl vp (l,last)=(l++(bif (Qu (g.map (·.m))).2 then [(Qu (g.map (·.m))).1] else []),if g=[] then last else (t:Int)):=by cases g<;>grind[ZoP,vp,Zgp,ZoQ,Zct]
theorem ZoS{x:Inst}{d:zn}{s:Stop}{t:Nat}:∀p∈YJ x d s t,p.t=t:=by grind[YJ,Jl]
theorem Zgq(x:Inst)(d:zn)(s:Stop):∀n:Nat,∃last:Int,last<n/\((List.range n).flatMap (YJ x d s)).foldl vp ([],-1)=(Xd x d s n,last)
 | 0=>⟨-1,by omega,rfl⟩
 | n+1=>by
  obtain⟨last,h1,h2⟩:=Zgq x d s n;rw[AH,Ap,BE,h2];simp only[Ax,B9,AC];rw[ZoR ZoS _ _ h1];refine⟨_,?_,by
   congr 1;unfold Xd;rw[AH,BZ];congr 1;cases hm:(Qu ((YJ x d s n).map (·.m))).2<;>simp[hm]⟩
  omega
theorem ZoT{x:Inst}{d:zn}{s:Stop}(hd:yr x d=0):((qn x d s).foldl vp ([],-1)).1=Xd x d s (d.length+1):=by
 rw[Zgm hd];obtain⟨last,-,h⟩:=Zgq x d s (d.length+1);rw[h]
theorem Zgr:∀{a b:List Int},a.Perm b->a.Pairwise (·<=·)->b.Pairwise (·<=·)->a=b
 | [],b,h,_,_=>(List.nil_perm.1 h).symm
 | x :: a,[],h,_,_=>absurd h.symm DZ
 | x :: a,y :: b,h,ha,hb=>by
  rw[Bb]at ha hb;have hxy:x=y:=by
   have h1:x∈y :: b:=h.subset DZ;have h2:y∈x :: a:=h.symm.subset DZ;have q1:y<=x:=by
    rcases As.1 h1 with e | e
    ·omega
    ·exact hb.1 x e
   have q2:x<=y:=by
    rcases As.1 h2 with e | e
    ·omega
    ·exact ha.1 y e
   omega
  subst hxy;rw[Zgr ((List.perm_cons x).1 h) ha.2 hb.2]
open Go Go.Proofs
theorem ZoU(x:Inst)(d:zn)(s:Stop)(t:Nat):(Xd x d s t).length<=t:=by
 unfold Xd;exact AD (CG _ _) DZ
end Go.Proofs.YtcocagkbfpgmiaaGreatDoor.Pv
