/- Part of a proof, packed. -/
import Derived.Test.YtcocagkbfpgmiaaGreatDoorY2
open Go.Proofs.Tryz (prog)
set_option maxRecDepth 100000
set_option maxHeartbeats 3200000
namespace Go.Proofs.YtcocagkbfpgmiaaGreatDoor.Pv
open Go
theorem Zk9(w:World):YB prog w 87 Cust CustOk:=by
 intro H enc fuel cs x h;obtain⟨hl,n,hf⟩:=Zeo Tryz.underlying87 h;simp only[c87]at hl
 match cs,hl with
 | [v0,v1,v2,v3,v4,v5,v6,v7],_ =>
  obtain⟨y0,h0⟩:=hf 0 _ rfl;obtain⟨y1,h1⟩:=hf 1 _ rfl;obtain⟨y2,h2⟩:=hf 2 _ rfl;obtain⟨y3,h3⟩:=hf 3 _ rfl;obtain⟨y4,h4⟩:=hf 4 _ rfl;obtain⟨y5,h5⟩:=hf 5 _ rfl;obtain⟨y6,h6⟩:=hf 6 _ rfl;obtain⟨y7,h7⟩:=hf 7 _ rfl;simp at h0 h1 h2 h3 h4 h5 h6 h7;obtain⟨z0,k0,r0⟩:=uu Tryz.underlying3 H enc n _ _ h0;obtain⟨z1,k1,r1⟩:=uu Tryz.underlying3 H enc n _ _ h1;obtain⟨z2,k2,r2⟩:=X2 (α:=Nat) Tryz.underlying85 (by simp;rfl) (by decide) (Zkr Tryz.underlying98) H enc n _ _ h2;obtain⟨z3,k3,r3⟩:=uu Tryz.underlying3 H enc n _ _ h3;obtain⟨z4,k4,r4⟩:=uu Tryz.underlying3 H enc n _ _ h4;obtain⟨z5,k5,r5⟩:=uu Tryz.underlying3 H enc n _ _ h5;obtain⟨z6,k6,r6⟩:=uu Tryz.underlying3 H enc n _ _ h6;obtain⟨z7,k7,r7⟩:=uu Tryz.underlying3 H enc n _ _ h7;exact⟨⟨z0,z1,z2,z3,z4,z5,z6,z7⟩,⟨k0,k1,k2.2,k2.1,k3,k4,k5,k6,k7⟩,
   uP (vs:=[v0]) r0 (uP (vs:=[v1]) r1 (uP (vs:=[v2]) r2 (uP (vs:=[v3]) r3 (uP (vs:=[v4]) r4 (uP (vs:=[v5]) r5 (uP (vs:=[v6]) (us:=[v7]) r6 r7))))))⟩
instance:Enc Inst:=⟨zx,6,λ_=>rfl,λ_=>rfl⟩
theorem Zla(w:World):YB prog w 25 Inst InstOk:=by
 intro H enc fuel cs x h;obtain⟨hl,n,hf⟩:=Zeo Tryz.underlying25 h;simp only[c25]at hl
 match cs,hl with
 | [v0,v1,v2,v3,v4,v5],_ =>
  obtain⟨y0,h0⟩:=hf 0 _ rfl;obtain⟨y1,h1⟩:=hf 1 _ rfl;obtain⟨y2,h2⟩:=hf 2 _ rfl;obtain⟨y3,h3⟩:=hf 3 _ rfl;obtain⟨y4,h4⟩:=hf 4 _ rfl;obtain⟨y5,h5⟩:=hf 5 _ rfl;simp at h0 h1 h2 h3 h4 h5;obtain⟨z0,k0,r0⟩:=uu Tryz.underlying3 H enc n _ _ h0;obtain⟨z1,k1,r1⟩:=uu Tryz.underlying3 H enc n _ _ h1;obtain⟨z2,k2,r2⟩:=uu Tryz.underlying3 H enc n _ _ h2;obtain⟨z3,k3,r3⟩:=uu Tryz.underlying3 H enc n _ _ h3;obtain⟨z4,k4,r4⟩:=X2 (α:=Cust) Tryz.underlying22 (by simp;rfl) (by decide) (Zk9 w) H enc n _ _ h4;obtain⟨z5,k5,r5⟩:=X2 (α:=List Int) Tryz.underlying23 (by simp;rfl) (by decide) (X2 (α:=Int) Tryz.underlying26 (by simp;rfl) (by decide) (uu Tryz.underlying3)) H enc n _ _ h5;exact⟨⟨z0,z1,z2,z3,z4,z5⟩,⟨k0,k1,k2,k3,k4.1,k4.2,k5.1,k5.2⟩,
   uP (vs:=[v0]) r0 (uP (vs:=[v1]) r1 (uP (vs:=[v2]) r2 (uP (vs:=[v3]) r3 (uP (vs:=[v4]) (us:=[v5]) r4 r5))))⟩
open Go
theorem ZeH(w:World):YB prog w 26 (List Int) (λl=>l.length<=9223372036854775807/\∀z∈l,zM z):=X2 Tryz.underlying26 (by simp;rfl) (by decide) (uu Tryz.underlying3)
open Go
abbrev yR(l:List Int):List Int:=l.mergeSort λx y=>decide (x<=y)
theorem Qa(l:List Int):(yR l).length=l.length:=List.length_mergeSort l
theorem VH(l:List Int):l.flatMap Enc.enc=l.map I:=by induction l<;>simp_all
theorem JW(S:Store)(o:Nat)(x:Ob)(h:S o=x):S.set o x=S:=by
 funext i;simp only[Store.set];split
 ·rename_i e;rw[e,h]
 ·rfl
theorem QW{C:Ctx}{S:Store}{w:World}{x:Int}{v:Value}(h:Rel C S w (I x) v):v=.int .i64 x:=by cases h;rfl
theorem Zbn{vs:Array Value}(h:1=vs.size):∃v,vs=#[v]:=by
 match vs,h with
 | ⟨[v]⟩,_=>exact⟨v,rfl⟩
theorem VI{S:Store}{id ver:Nat}(zs:List Int)(hid:S id=.cells ver 3 (zs.flatMap Enc.enc))(hn:zs.length<=1048576):
  Spec prog 196 [.sl id ver 1 0 zs.length] S (λp S'=>S'=S.set id (.cells ver 3 ((yR zs).flatMap Enc.enc))):=by
 refine⟨qh Tryz.func196 (by rfl) rfl,?_⟩;intro C w vs hS hl hr;obtain⟨v,rfl⟩:=Zbn hl;have hv:=hr 0 _ v rfl rfl;cases hv with
 | sl h1 h2 h3 =>
  obtain⟨a,cap,rfl,q1,q2,q3,q4⟩:=h1
  by_cases h0:zs=[]
  ·subst h0;refine(Tryz.slices_Sort_int_none a cap w).mono ?_;rintro e w' ⟨rfl,rfl⟩;exact⟨.junk,_,S,C,rfl,by rw[show yR []=[] from by simp[yR]];exact(JW S id _ hid).symm,.junk _,hS,.refl _ _ _⟩
  ·have hpos:0<zs.length:=B5.2 h0;rcases hS.cells id ver _ _ hid with ⟨hn',hnil⟩ | ⟨b,k,c,g1,g2,g3,g4,g5,g6⟩
   ·rw[VH]at hnil;simp at hnil;exact absurd hnil h0
   ·have ha:a=some ⟨b,0,none⟩:=by
     rcases (h3 ver (by rw[hid];rfl)).2 rfl with ⟨z1,_⟩ | ⟨b',k',a',cap',z1,z2,z3,z4⟩
     ·rw[g1]at z1;cases z1
     ·rw[g1]at z1;cases z1;cases z2;exact(z3 rfl).1
    subst ha;rw[jG]at g4;have hcells:∀i,i<zs.length->c[i]?=some (.int .i64 (zs.getD i 0)):=by
     intro i hi;have hi':i<c.size:=by omega
     have e1:(zs.flatMap Enc.enc)[i]?=some (I (zs.getD i 0)):=by rw[VH];simp[hi]
     have e2:c[i]?=some c[i]:=by simp
     have:=QW (g6 i _ _ e1 e2);rw[e2,this]
    have htake:c.toList.take zs.length=zs.map (Value.int .i64):=by
     apply A7;intro i
     by_cases hi:i<zs.length
     ·rw[AE hi,Array.getElem?_toList,hcells i hi];simp[hi]
     ·rw[Ai (by simp;omega),Ai (by simp;omega)]
    refine(Tryz.slices_Sort_int b 0 cap zs w (holds_of_blockI g2 htake) (qg g2) (by omega)).mono ?_;rintro e w' ⟨rfl,n,os,rfl⟩;have hb':=heap_sortedI (n:=n) (os:=os) (yR zs).toArray g2;have hlz:=Qa zs;have hcs:∀i,(Sort.putCells (Value.int .i64) 0 (yR zs).toArray c)[i]?=if i<zs.length then some (.int .i64 ((yR zs).getD i 0)) else c[i]?:=by
     intro i
     by_cases hi:i<zs.length
     ·rw[if_pos hi];have:i<c.size:=by omega
      have hi2:i<(yR zs).length:=by omega
      simp[Sort.putCells,hi2,this];intro h;omega
     ·rw[if_neg hi]
      by_cases hc:i<c.size
      ·have hi2:¬i<(yR zs).length:=by omega
       simp[Sort.putCells,hi2,hc];intro h;omega
      ·rw[DF (by simp[Sort.putCells];omega),DF (by omega)]
    obtain⟨t1,t2⟩:=hS.turn (l:=C.loc id) (ver':=ver) (cs':=(yR zs).flatMap Enc.enc) hid (Ag _) (λ_=>rfl) (by rw[g1];exact⟨grownBy_sortedI (n:=n) (os:=os) (yR zs).toArray,Db _ _⟩)
     (.inr ⟨b,k,_,g1,.inr (by rw[g1];rfl),hb',by simp[Sort.putCells,g3],by rw[jG,hlz];exact g4,λi z hi hz=>by
       rw[hcs]at hz;rw[jG,hlz]at hi;rw[if_pos hi]at hz;cases hz;rfl,
      λi p z hp hz=>by
       rw[hcs]at hz;have hi:i<zs.length:=by
        have:=(Ac.1 hp).1;rw[jG,hlz]at this;exact this
       rw[if_pos hi]at hz;cases hz;rw[VH,Aj]at hp;have hi2:i<(yR zs).length:=by omega
       rw[Ad hi2]at hp;cases hp;rw[Aa,Ad hi2];exact .sc _⟩)
    exact⟨.junk,_,_,_,rfl,rfl,.junk _,t1,t2⟩
open Go
def yn(l:List Stop):List Value:=l.flatMap λs=>[.int .i64 s.c,.int .i64 s.q]
theorem ZeI(l:List Stop):l.flatMap Enc.enc=(yn l).map PV.sc:=by
 unfold yn
 induction l<;>simp_all
theorem JX(l:List Stop):(yn l).length=l.length*2:=by
 unfold yn
 induction l with
 | nil=>rfl
 | cons s l ih=>simp at ih ⊢;omega
theorem VJ(l m:List Stop):yn (l++m)=yn l++yn m:=by simp[yn]
theorem ZeJ(l:List Stop)(i:Nat)(h:i<=l.length):(yn l).take (i*2)=yn (l.take i):=by
 conv=>lhs;rw[<-List.take_append_drop i l,VJ]
 have:(yn (l.take i)).length=i*2:=by rw[JX];simp;omega
 rw[<-this,Dm]
theorem ZeK(l:List Stop)(i:Nat)(h:i<=l.length):(yn l).drop (i*2)=yn (l.drop i):=by
 conv=>lhs;rw[<-List.take_append_drop i l,VJ]
 have:(yn (l.take i)).length=i*2:=by rw[JX];simp;omega
 rw[<-this,DR]
theorem JY(l:List Stop):∀v∈yn l,v.oneCell'=true:=by
 intro v hv;obtain⟨s,_,hs⟩:=BV.1 hv;simp at hs;rcases hs with rfl | rfl<;>rfl
theorem Zlb{V vs cur:List Value}{i n:Nat}(hi:i<n)(hV:V.length=n*2)(hv:vs.length=2)(hc:cur.take (n*2)=V)(hl:n*2+2<=cur.length):
  ((cur.take ((i+1)*2)++V.drop (i*2)++cur.drop ((i+1)*2+(V.drop (i*2)).length)).take (i*2)++vs++(cur.take ((i+1)*2)++V.drop (i*2)++cur.drop ((i+1)*2+(V.drop (i*2)).length)).drop (i*2+2)) =
   V.take (i*2)++vs++V.drop (i*2)++cur.drop ((i+1)*2+(V.drop (i*2)).length):=by
 have h1:(cur.take ((i+1)*2)).length=i*2+2:=by simp;omega
 have h2:(cur.take ((i+1)*2)++V.drop (i*2)++cur.drop ((i+1)*2+(V.drop (i*2)).length)).take (i*2)=V.take (i*2):=by
  rw[List.append_assoc,BA (by omega),DT,Bc (by omega),<-hc,DT,Bc (by omega)]
 rw[h2,<-h1,List.append_assoc (cur.take _),DR];simp
theorem Zlc{V vs ROW:List Value}{i n:Nat}(hi:i<n)(hV:V.length=n*2)(hv:vs.length=2)(hc:ROW.take (i*2)=V.take (i*2)):
  ((ROW.take (i*2)++vs++ROW.drop (i*2+2)).take ((i+1)*2)++V.drop (i*2)++(ROW.take (i*2)++vs++ROW.drop (i*2+2)).drop ((i+1)*2+(V.drop (i*2)).length)) =
   V.take (i*2)++vs++V.drop (i*2)++(ROW.take (i*2)++vs++ROW.drop (i*2+2)).drop ((i+1)*2+(V.drop (i*2)).length):=by
 have h1:(ROW.take (i*2)++vs).length=(i+1)*2:=by rw[hc];simp;omega
 have h2:(ROW.take (i*2)++vs++ROW.drop (i*2+2)).take ((i+1)*2)=V.take (i*2)++vs:=by
  rw[<-h1,Dm,hc]
 rw[h2]
theorem ZeL{vs:Array Value}(h:3=vs.size):∃u v x,vs=#[u,v,x]:=by
 match vs,h with
 | ⟨[u,v,x]⟩,_=>exact⟨u,v,x,rfl⟩
theorem Zbo{C:Ctx}{S:Store}{w:World}{R:Array Value}{V rest:List Value}(h:R.toList=V++rest)(h1:∀v∈V,v.oneCell'=true):
  (∀(i:Nat) (v:Value),i<(V.map PV.sc).length->R[i]?=some v->v.oneCell'=true)/\∀(i:Nat) (p:PV) (v:Value),(V.map PV.sc)[i]?=some p->R[i]?=some v->Rel C S w p v:=by
 have hat:∀(i:Nat) (v:Value),i<V.length->R[i]?=some v->V[i]?=some v:=by
  intro i v hi hv;rw[<-Array.getElem?_toList,h,Al hi]at hv;exact hv
 refine⟨λi v hi hv=>h1 v (Ab (hat i v (by simpa using hi) hv)),λi p v hp hv=>?_⟩;rw[Aj]at hp;obtain⟨u,hu,rfl⟩:=Ap.1 hp;have:=hat i v (Ac.1 hu).1 hv;rw[hu]at this;cases this;exact .sc _
theorem Zld{S:Store}{id ver:Nat}(cs:List Stop)(i:Nat)(s:Stop)(hi:i<cs.length)(hn:cs.length<=1000000)(hid:S id=.cells ver 100 (cs.flatMap Enc.enc)):
  Spec prog 338 [.sl id ver 2 0 cs.length,I i,L [s]] S (λp S'=>p=.sl id (ver+1) 2 0 (cs.length+1)/\S'=S.set id (.cells (ver+1) 100 ((cs.take i++s :: cs.drop i).flatMap Enc.enc))):=by
 refine⟨qh Tryz.func338 (by rfl) rfl,?_⟩;intro C w vs hS hl hr;obtain⟨u,v,x,rfl⟩:=ZeL hl;obtain rfl:=QW (hr 1 _ v rfl rfl);have hu:=hr 0 _ u rfl rfl;have hx:Rel C S w (.lst 1 [I s.c,I s.q]) x:=hr 2 _ x rfl rfl;have hvl:(yn cs).length=cs.length*2:=JX cs;rw[ZeI]at hid ⊢;obtain⟨i0,hi0⟩:=Ca.1 Zbg;have hz:=Zes;have hc:=Zbf;have hb:=Zer;simp only[Program.zeroOf,Program.cellsOf,Program.bytesOf',hi0,C9,A3,Option.getD_some,Option.some.injEq]at hz hc hb;cases hu with
 | sl h1 h2 h3 =>
  obtain⟨ad,cap,rfl,q1,q2,q3,q4⟩:=h1;have hloc:=(h3 ver (by rw[hid];rfl)).2 rfl;rcases hS.cells id ver _ _ hid with ⟨hno,hnil⟩ | ⟨b,k,c,g1,g2,g3,g4,g5,g6⟩
  ·have:=congrArg List.length hnil;simp[hvl]at this;exfalso;omega
  rcases hloc with ⟨z1,_⟩ | ⟨b',k',ad',cap',z1,z2,z3,z4⟩
  ·rw[g1]at z1;cases z1
  rw[g1]at z1;cases z1;cases z2;obtain⟨rfl,hcap⟩:=z3 rfl;rw[List.length_map,hvl]at g4
  -- what stands in the block
  have hcells:∀(j:Nat) v,(yn cs)[j]?=some v->c[j]?=some v:=by
   intro j v hj;have hjl:=(Ac.1 hj).1;have e2:c[j]?=some c[j]:=AL (by omega);have:=g6 j (.sc v) _ (by rw[Aj,hj];rfl) e2;rw[e2];generalize c[j]=y at this;cases this;rfl
  have hcur:c.toList.take (cs.length*2)=yn cs:=by
   apply A7;intro j
   by_cases hj:j<cs.length*2
   ·rw[AE hj,Array.getElem?_toList];have e:(yn cs)[j]?=some (yn cs)[j]:=Ad (by omega);rw[e,hcells j _ e]
   ·rw[Ai (by simp;omega),Ai (by omega)]
  have hccell:∀(j:Nat) v,(yn cs)[j]?=some v->w.cell? ⟨b,j,none⟩=some v:=λj v hj=>by
   simp only[World.cell?,g2];exact hcells j v hj
  have hnew:yn (cs.take i++s :: cs.drop i)=(yn cs).take (i*2)++[.int .i64 s.c,.int .i64 s.q]++(yn cs).drop (i*2):=by
   rw[ZeJ cs i (by omega),ZeK cs i (by omega),VJ];simp[yn]
  have hnl:(yn (cs.take i++s :: cs.drop i)).length=(cs.length+1)*2:=by rw[JX];simp;omega
  cases hx with
  | lst1 y1 y2 y3 y4 y5 y6 y7 =>
   rename_i vc vb vo cv ev fz;have y5':=y5 (by simp);simp only[Ae,Ah]at y5';have hvcell:∀(j:Nat) v,([.int .i64 s.c,.int .i64 s.q]:List Value)[j]?=some v->w.cell? ⟨vb,vo+j,none⟩=some v:=by
    intro j v hj;have hjl:=(Ac.1 hj).1;simp at hjl;simp only[World.cell?,y3];have e2:cv[vo+j]?=some (cv[vo+j]'(by omega)):=AL (by omega);have:=y7 j (.sc v) _ (by
     match j,hj with
     | 0,hj=>cases hj;rfl
     | 1,hj=>cases hj;rfl) e2
    rw[if_neg (by simp),e2];generalize cv[vo+j]'(by omega)=y at this;cases this;rfl
   have hvb:vb≠b:=by
    rintro rfl;exact y4 ⟨id,k,by rw[hid];simp,g1⟩
   have newsl:∀(w':World) (b' cap':Nat),cs.length+1<=cap'->cap'<=maxLen ->
     Rel (C.at id (ver+1) (some (b',cap'*2))) (S.set id (.cells (ver+1) 100 ((yn (cs.take i++s :: cs.drop i)).map .sc))) w' (.sl id (ver+1) 2 0 (cs.length+1)) (.slice (some ⟨b',0,none⟩) (cs.length+1) cap'):=by
    intro w' b' cap' hkm hcl;refine .sl ⟨_,_,rfl,hkm,by unfold jq;omega,hcl,λ_=>⟨_,_,rfl⟩⟩ ⟨h2.1,by simp only[Ctx.at];omega⟩ λv0 hv0=>?_
    rw[q11]at hv0;cases hv0;exact⟨Ag _,λ_=>.inr ⟨b',_,_,_,by simp[Ctx.at],rfl,λ_=>⟨rfl,rfl⟩,λ_=>rfl⟩⟩
   have hsv:∀v∈([.int .i64 s.c,.int .i64 s.q]:List Value),v.oneCell'=true:=by
    intro v hv;simp at hv;rcases hv with rfl | rfl<;>rfl
   by_cases hroom:cs.length+1<=cap
   ·obtain⟨R1,hR1⟩:∃R1:Array Value,R1=(c.toList.take ((i+1)*2)++(yn cs).drop (i*2)++c.toList.drop ((i+1)*2+((yn cs).drop (i*2)).length)).toArray:=⟨_,rfl⟩;obtain⟨R2,hR2⟩:∃R2:Array Value,R2=(R1.toList.take (i*2)++([.int .i64 s.c,.int .i64 s.q]:List Value)++R1.toList.drop (i*2+2)).toArray:=⟨_,rfl⟩;have hcsz:c.size=cap*2:=g3.trans hcap.symm;have hctl:c.toList.length=cap*2:=by simpa using hcsz
    have hR2l:R2.toList=yn (cs.take i++s :: cs.drop i)++c.toList.drop ((i+1)*2+((yn cs).drop (i*2)).length):=by
     rw[hR2,hR1,hnew];simp only[];exact Zlb hi hvl rfl hcur (by omega)
    have hR2s:R2.size=cap*2:=by
     rw[<-Array.length_toList,hR2l];simp[hnl,hvl];omega
    refine(Zjg b cs.length cap i vb vo vc (yn cs) [.int .i64 s.c,.int .i64 s.q] w (by rw[hi0];simp[hc]) c g2 hcsz hi hroom (by unfold maxLen at q3;omega) (by omega) hvl rfl hvb hccell hvcell (JY cs) hsv ev (cv.size-1) (by unfold World.shape?;rw[y3];simp;omega) R1 R2 hR1 hR2).mono ?_;rintro e w' ⟨rfl,rfl⟩;obtain⟨r1,r2⟩:=Zbo (C:=C) (S:=S) (w:=w) hR2l (JY _);have hb1:=setRow_heap w.drew b c R1 _ _ g2;obtain⟨t1,t2⟩:=hS.turn (l:=some (b,cap*2)) (ver':=ver+1) (cs':=(yn (cs.take i++s :: cs.drop i)).map .sc) hid (by omega) (λh=>absurd h (by omega)) (w':=(w.drew.setRow b R1).setRow b R2)
     (by
      rw[g1];refine⟨⟨rfl,rfl,rfl,by simp[World.setRow],λj hj hne=>?_⟩,CW _⟩;have hjb:j≠b:=λe=>hne (by rw[e];rfl)
      rw[setRow_other _ _ _ _ hjb,setRow_other _ _ _ _ hjb];rfl)
     (.inr ⟨b,cap*2,R2,rfl,.inr (by rw[g1];rfl),setRow_heap _ _ _ _ _ _ hb1,hR2s,by rw[List.length_map,hnl];omega,r1,r2⟩)
    exact⟨_,_,_,_,rfl,⟨rfl,rfl⟩,newsl _ b cap hroom q3,t1,t2⟩
   ·obtain⟨G,hG⟩:∃G,G=grownCap w (cs.length+1) cap 100:=⟨_,rfl⟩;have hGn:cs.length+1<=G:=by rw[hG];exact grownCap_ge w _ _ _
    have hGm:G<=maxLen:=by rw[hG];exact grownCap_le_maxLen w _ _ _ (by unfold maxLen;omega)
    obtain⟨ROW,hROW⟩:∃ROW:Array Value,ROW=((yn cs).take (i*2)).toArray++Builtin.zeroCells (Value.agg #[.int .i64 0,.int .i64 0]).cells (cs.length+1-i)++Builtin.zeroCells (Value.agg #[.int .i64 0,.int .i64 0]).cells (G-(cs.length+1)):=⟨_,rfl⟩;obtain⟨R1,hR1⟩:∃R1:Array Value,R1=(ROW.toList.take (i*2)++([.int .i64 s.c,.int .i64 s.q]:List Value)++ROW.toList.drop (i*2+2)).toArray:=⟨_,rfl⟩;obtain⟨R2,hR2⟩:∃R2:Array Value,R2=(R1.toList.take ((i+1)*2)++(yn cs).drop (i*2)++R1.toList.drop ((i+1)*2+((yn cs).drop (i*2)).length)).toArray:=⟨_,rfl⟩;have htl:((yn cs).take (i*2)).length=i*2:=by simp;omega
    have hROWs:ROW.size=G*2:=by
     rw[hROW];simp only[B3,size_zeroCells,BB,htl];simp[Value.cells];omega
    have hROWt:ROW.toList.take (i*2)=(yn cs).take (i*2):=by
     rw[hROW];simp only[Array.toList_append];rw[List.append_assoc];exact DI htl
    have hR1s:R1.size=G*2:=by rw[hR1];simp;omega
    have hR2l:R2.toList=yn (cs.take i++s :: cs.drop i)++R1.toList.drop ((i+1)*2+((yn cs).drop (i*2)).length):=by
     rw[hR2,hR1,hnew];simp only[];exact Zlc hi hvl rfl hROWt
    have hR2s:R2.size=G*2:=by
     rw[<-Array.length_toList,hR2l];simp[hnl,hvl,hR1s];omega
    refine(Zjf b cs.length cap i vb vo vc (yn cs) [.int .i64 s.c,.int .i64 s.q] w i0 _ hi0 hz (by omega) hb rfl hi q1 (by omega) (by omega) hvl rfl hccell hvcell (JY cs) hsv G hG ROW hROW R1 R2 hR1 hR2).mono ?_;rintro e w' ⟨rfl,rfl⟩;obtain⟨r1,r2⟩:=Zbo (C:=C) (S:=S) (w:=w) hR2l (JY _);have hb0:=Yt w.drew (.cells ROW 100);have hb1:=setRow_heap (w.drew.alloc (.cells ROW 100)) w.heap.size ROW R1 _ _ hb0;obtain⟨t1,t2⟩:=hS.turn (l:=some (w.heap.size,G*2)) (ver':=ver+1) (cs':=(yn (cs.take i++s :: cs.drop i)).map .sc) hid (by omega) (λh=>absurd h (by omega)) (w':=((w.drew.alloc (.cells ROW 100)).setRow w.heap.size R1).drew.setRow w.heap.size R2)
     ⟨⟨rfl,rfl,rfl,by simp[World.setRow],λj hj _=>by
      rw[setRow_other _ _ _ _ (by omega)]
      show ((w.drew.alloc (.cells ROW 100)).setRow w.heap.size R1).heap[j]?=_
      rw[setRow_other _ _ _ _ (by omega)];exact uL w.drew _ j hj⟩,Nat.le_succ_of_le (CW _)⟩
     (.inr ⟨w.heap.size,G*2,R2,rfl,.inl (Ag _),setRow_heap _ _ _ _ _ _ hb1,hR2s,by rw[List.length_map,hnl];omega,r1,r2⟩)
    exact⟨_,_,_,_,rfl,⟨rfl,rfl⟩,newsl _ w.heap.size G hGn hGm,t1,t2⟩
open Go
def zQ(t:List Stop):Int:=(t.map (·.q)).sum
theorem VK(t:List Stop)(s:Stop):zQ (t++[s])=zQ t+s.q:=by simp[zQ]
theorem ZeM(l:List Int)(c:Int)(h:l.Nodup)(hc:c ∉ l):(l++[c]).Nodup:=by
 rw[Dt];exact⟨h,by simp,λa ha b hb e=>by simp at hb;subst hb;subst e;exact hc ha⟩
theorem ZeN{l:List Int}{i k:Nat}{c:Int}(hi:l[i]?=some c)(hk:l[k]?=some c)(h:k<i):¬l.Nodup:=by
 intro hn;have:=(List.getElem?_inj (Ac.1 hi).1 hn).1 (hi.trans hk.symm);omega
open Go
theorem X4(t:List Stop)(ht:t.length<=1048576)(S:Store)(nx:Nat)(hd:zT nx S):Spec prog 152 [.agg [L t]] S (λp S'=>∃v,p=.sl (nx+1) v 1 0 t.length/\S'=S.set (nx+1) (.cells v 3 ((t.map (·.c)).flatMap Enc.enc))):=by
 refine ut hd Tryz.func152 Tryz.ntmps152 Tryz.results152 ?_;refine za (zb ?_);intro v0;refine za (zb ?_);refine za (jf 3 3 1 rfl λv1=>?_);refine za (zb ?_);refine zj (zD (λs:Nat × List Int × Nat × Nat=>s.1<=t.length/\s.2.1=(t.take s.1).map (·.c)) (λ(k,out,v,v2)=>[(3,.sl (nx+1) v2 1 0 out.length),(7,L t),(8,I t.length),(9,I k)]) (λ(k,out,v,v2)=>[.cells v 42 [L t],.cells v2 3 (out.flatMap Enc.enc)]) (λs=>t.length-s.1) (0,[],v0,v1) [] (by simp) (by simp) (by simp) ?_);rintro⟨k,out,v1,v2⟩ ⟨hk,ho⟩;simp only at hk ho ⊢;refine za (zb ?_);refine za (zv rfl (λhc=>?_) (λhc=>?_))
 ·simp at hc;obtain⟨s,tl,a1,a2,a3,e1,e0⟩:=el 2 rfl t k hc;refine zh (za (zj (za (ze [] (zo hc e0) ?_))));intros;have hl:out.length=k:=by rw[ho];simp;omega
  refine zb ?_;refine⟨by omega,?_⟩;refine zb ?_;exact zq (k+1,out++[s.c],v1,v2+1) [_] (by simp[a3,ho];omega) (by simp;omega) (by simp[zu k (by omega)]) rfl (by simp;rfl)
 ·simp at hc;have hk':k=t.length:=by omega
  subst hk';refine zy (za (zb ?_));refine zg ⟨_,_,rfl,⟨v2,by simp[ho],rfl⟩,Y7 hd (by simp[ho])⟩
theorem Zle(t:List Stop)(ht:t.length<=1048576):Pure prog 152 [.agg [L t]] (L (t.map (·.c))):=by
 have:=Vw 1 (λS nx hd=>X4 t ht S nx hd) (by simp);rw[<-List.length_map (f:=(·.c))]at this;exact this
theorem ZeO(t:List Stop)(ht:t.length<=1048576):Pure prog 262 [.agg [L t]] (I (W (zQ t))):=by
 refine zt Tryz.func262 Tryz.ntmps262 Tryz.results262 λS nx hd=>?_
 refine za (zb ?_);intro v0;refine za (zb ?_)
 repeat apply za
 refine zb ?_;refine zj (zD (λs:Nat × Nat=>s.1<=t.length) (λ(k,v)=>[(3,I (W (zQ (t.take k)))),(7,L t),(8,I t.length),(9,I k)]) (λ(k,v)=>[.cells v 42 [L t]]) (λs=>t.length-s.1) (0,v0) [] (by simp) (by simp[zQ]) (by simp) ?_);rintro⟨k,v1⟩ hk;simp only at hk ⊢;refine za (zb ?_);refine za (zv rfl (λhc=>?_) (λhc=>?_))
 ·simp at hc;obtain⟨s,tl,a1,a2,a3,e1,e0⟩:=el 2 rfl t k hc;refine zh (za (zj (za (ze [] (zo hc e0) ?_))));intros;refine zb ?_;refine zb ?_;exact zq (k+1,v1) [_] hc (by simp;omega) (by simp[zu k (by omega),a3,VK,Zi]) rfl (by simp;rfl)
 ·simp at hc;have hk':k=t.length:=by omega
  subst hk';refine zy (za (zb ?_));exact zg (zi hd rfl (by simp))
theorem X5(x:Inst)(t:List Stop)(ht:t.length<=1048576)(hs:∀s∈t,qe s.c):Pure prog 159 [.agg (zx x),.agg [L t]] (I (W (yC x (t.map (·.c))))):=by
 refine zt Tryz.func159 Tryz.ntmps159 Tryz.results159 λS nx hd=>?_
 refine za (zb ?_);intros;refine za (zz none (Row.pures [0,1,2,3,4] .done) mixed trivial ?_);refine zJ (Zle _ ht) trivial ?_;refine zJ (ZeE _ _ (by simpa using ht) (by simpa using hs)) trivial ?_;exact zg (zi hd rfl rfl)
def yq(x:Inst)(d:zk):Int:=(d.map λt=>yC x (t.map (·.c))).sum
theorem Zlf(x:Inst)(d:zk)(t:zK):yq x (d++[t])=yq x d+yC x (t.map (·.c)):=by simp[yq]
structure DayOk (d:zk):Prop where
 n:d.length<=1048576
 t:∀t∈d,t.length<=1048576
 s:∀t∈d,∀s∈t,qe s.c
theorem JZ(x:Inst)(d:zk)(hd':DayOk d):Pure prog 116 [.agg (zx x),.agg [L d]] (I (W (yq x d))):=by
 have hn:=hd'.n;refine zt Tryz.func116 Tryz.ntmps116 Tryz.results116 λS nx hd=>?_
 refine za (zb ?_);intro v0 v1;refine za (zb ?_)
 repeat apply za
 refine zb ?_;refine zj (zD (λs:Nat × Nat × Nat=>s.1<=d.length) (λ(k,v,v')=>[(2,.ptr nx v 0),(5,I (W (yq x (d.take k)))),(9,L d),(10,I d.length),(11,I k)]) (λ(k,v,v')=>[.cells v 25 (zx x),.cells v' 39 [L d]]) (λs=>d.length-s.1) (0,v0,v1) [] (by simp) (by simp[yq]) (by simp) ?_);rintro⟨k,v1,v2⟩ hk;simp only at hk ⊢;refine za (zb ?_);refine za (zv rfl (λhc=>?_) (λhc=>?_))
 ·simp at hc;obtain⟨t,tl,a1,a2,a3,e0⟩:=zF rfl d k hc;have htd:=Ab a1;refine zh (za (zj (za (ze [] (zo hc e0) ?_))));intros;refine zb ?_;refine zr (X5 _ _ (hd'.t t htd) (hd'.s t htd)) ?_;refine zb ?_;exact zq (k+1,v1,v2) [_] hc (by simp;omega) (by simp[zu k (by omega),a3,Zlf,Zi,Za9]) rfl (by simp;rfl)
 ·simp at hc;have hk':k=d.length:=by omega
  subst hk';refine zy (za (zb ?_));exact zg (zi hd rfl (by simp))
theorem ZeP(d:zk)(hn:d.length<=1048576)(hf:d.flatten.length<=1048576):Pure prog 153 [.agg [L d]] (L d.flatten):=by
 refine zt Tryz.func153 Tryz.ntmps153 Tryz.results153 λS nx hd=>?_
 refine za (zb ?_);intro v0;refine za (zb ?_);refine za (jf 3 100 2 rfl λv1=>?_);refine za (zb ?_);refine zj (zD (λs:Nat × List Stop × Nat × Nat=>s.1<=d.length/\s.2.1=(d.take s.1).flatten) (λ(k,out,v,v2)=>[(3,.sl (nx+1) v2 2 0 out.length),(7,L d),(8,I d.length),(9,I k)]) (λ(k,out,v,v2)=>[.cells v 39 [L d],.cells v2 100 (out.flatMap Enc.enc)]) (λs=>d.length-s.1) (0,[],v0,v1) [] (by simp) (by simp) (by simp) ?_);rintro⟨k,out,v1,v2⟩ ⟨hk,ho⟩;simp only at hk ho ⊢;refine za (zb ?_);refine za (zv rfl (λhc=>?_) (λhc=>?_))
 ·simp at hc;obtain⟨t,tl,a1,a2,a3,e0⟩:=zF rfl d k hc;refine zh (za (zj (za (ze [] (zo hc e0) ?_))));intros;have hl:out.length+t.length<=1048576:=by
   have:(out++t).length<=d.flatten.length:=by
    have e:d.flatten=(d.take (k+1)).flatten++(d.drop (k+1)).flatten:=by rw[<-List.flatten_append,List.take_append_drop]
    rw[e,a3];simp[ho]
   simp only[Ar]at this;omega
  refine zb ?_;refine⟨by omega,?_⟩;refine zb ?_;exact zq (k+1,out++t,v1,v2+1) [_] (by simp[a3,ho];omega) (by simp;omega) (by simp[zu k (by omega)]) rfl (by simp;rfl)
 ·simp at hc;have hk':k=d.length:=by omega
  subst hk';refine zy (za (zb ?_));refine yb 1 rfl ?_;exact zg (zi hd rfl (by simp[ho]))
open Go
def ju(x:Inst)(s:Stop):Bool:=decide (0<=s.c/\s.c<x.cust.length/\1<=s.q/\s.q<=2147483648)
def qH(x:Inst)(t:zK):Bool:=t.all (ju x) && !t.isEmpty
def zP(x:Inst)(t:zK):Int :=
 if qH x t=false then 1 else if ¬(t.map (·.c)).Nodup then 11 else if x.cap<W (zQ t) then 12 else if x.len<W (yC x (t.map (·.c))) then 13 else 0
theorem Zlg{x:Inst}{t:zK}{k:Nat}{s:Stop}(h:(t.take k).all (ju x)=true)(ht:t.take (k+1)=t.take k++[s])(hs:0<=s.c/\s.c<x.cust.length/\1<=s.q/\s.q<=2147483648):(t.take (k+1)).all (ju x)=true:=by
 rw[ht,CN,h];simp[ju];omega
theorem Zlh{x:Inst}{t:zK}(hx:x.cust.length<=1048576)(h:t.all (ju x)=true):∀s∈t,qe s.c:=by
 intro s hs;have:=As.1 h s hs;simp[ju]at this;unfold qe;omega
open Go
theorem X6(l:List Int):(yR l).Pairwise (·<=·):=by
 have:=CO (le:=λx y:Int=>decide (x<=y)) (λa b c h1 h2=>by simp at *;omega) (λa b=>by simp;omega) l;simpa using this
theorem ZeQ(l:List Int):(yR l).Perm l:=Cj l _
theorem Zbp(l:List Int):(yR l).Nodup<->l.Nodup:=(ZeQ l).nodup_iff
theorem ZeR{z:List Int}{j:Nat}{p c:Int}(hz:z.Pairwise (·<=·))(hn:(z.take (j+1)).Nodup)(h1:z.take (j+1)=z.take j++[p])(h2:z.take (j+1+1)=z.take (j+1)++[c])(hpc:p≠c):(z.take (j+1+1)).Nodup:=by
 rw[h2];refine ZeM _ _ hn λhc=>?_
 have hs:(z.take (j+1+1)).Pairwise (·<=·):=hz.sublist (List.take_sublist _ _);rw[h2,h1,List.append_assoc,List.pairwise_append]at hs;rw[h1,AC]at hc;rcases hc with hc | hc
 ·have a1:=hs.2.2 c hc p (by simp);have a2:=(Bl.1 hs.2.1).1 c (by simp);omega
 ·simp at hc;exact hpc hc.symm
theorem ZeS{S:Store}{id ver:Nat}(zs:List Int)(hid:S id=.cells ver 3 (zs.flatMap Enc.enc))(hn:zs.length<=1048576):
  Spec prog 151 [.sl id ver 1 0 zs.length] S (λp S'=>p=B (decide zs.Nodup)/\S'=S.set id .dead):=by
 refine yh Tryz.func151 Tryz.ntmps151 Tryz.results151 λnx hd=>?_
 have hlt:id<nx:=by
  rcases Bf id nx with h | h
  ·exact h
  ·rw[hd id h]at hid;cases hid
 refine za (zb ?_);refine za (xl [] (by rfl) (by rfl) λK Gc Gh hK hGc hGh X hX0 hX=>?_);simp -implicitDefEqProofs [hX0,hX]
 try clear hX0 hX X
 refine hGc _ _ _ _ _ _ _ λhsuf=>((VI zs (by rw[zA hlt];exact hid) hn).mono ?_).v
 rintro p _ rfl;refine⟨S.set id (.cells ver 3 ((yR zs).flatMap Enc.enc)),[],qc _ hlt,?_⟩;clear hGc hGh;clear Gc Gh;refine xL hsuf (D:=[]) (by rfl) λGc Gh hGc hGh X hX0 hX=>?_
 simp -implicitDefEqProofs [hX0,hX];clear hX0 hX X;refine hK _ _ _ ?_;clear hK hGc hGh;clear K Gc Gh;generalize hz:yR zs=z;have hzl:zs.length=z.length:=by rw[<-hz,Qa]
 have hzs:z.Pairwise (·<=·):=by rw[<-hz];exact X6 zs
 have hfin:∀o,S.set id .dead o=ext (S.set id (.cells ver 3 (z.flatMap Enc.enc))) nx [] o\/S.set id .dead o=.dead:=by
  intro o
  by_cases ho:o=id
  ·subst ho;exact .inr (q11 _ _ _)
  ·rw[q10 _ _ _ _ ho]
   by_cases h2:o<nx
   ·rw[zA h2,q10 _ _ _ _ ho];exact .inl rfl
   ·exact .inr (hd o (by omega))
 have hS1:(S.set id (.cells ver 3 (z.flatMap Enc.enc))) id=.cells ver 3 (z.flatMap Enc.enc):=q11 _ _ _;have hres:decide zs.Nodup=decide z.Nodup:=by rw[<-hz,decide_eq_decide,Zbp]
 rw[hres];have hzn:z.length<=1048576:=by omega
 rw[hzl];generalize S.set id (.cells ver 3 (z.flatMap Enc.enc))=S1 at *;have hx1:=zA (S:=S1) (obs:=[]) hlt
 repeat apply za
 refine zb ?_;refine zj (zD (λj:Nat=>(j=0\/j+1<=z.length)/\(z.take (j+1)).Nodup) (λj=>[(0,.sl id ver 1 0 z.length),(3,I ((j+1:Nat):Int))]) (λ_=>[]) (λj=>z.length-j) 0 [] (by cases z<;>simp) (by simp) (by simp) ?_);rintro j ⟨hj,hjn⟩
 repeat apply za
 refine zb ?_;refine zv rfl (λhc=>?_) (λhc=>?_)
 ·simp at hc;have hc':j+1<z.length:=by omega
  obtain⟨c,tl1,b1,b2,b3,e1⟩:=zF rfl z (j+1) hc';obtain⟨p,tl2,d1,d2,d3,e2⟩:=zF rfl z j (by omega);have wj:IntKind.i64.wrap (j:Int)=j:=wr _ (by omega) (by omega);have g1:(j:Int)<z.length:=by omega
  have g2:(j:Int)+1<z.length:=by omega
  have g3:0<=(j:Int)+1:=by omega
  refine zh (za (zj (za (zz none (Row.pures [0,1,2,3,4,5,6,7,8,9] .done) mixed (yl hx1 hS1 wj e1 e2 (zE g1 g2 g3)) ?_))));refine zv rfl (λhq=>?_) (λhq=>?_)
  ·simp at hq;refine za (zb ?_);exact zg ⟨_,_,rfl,⟨by simp;exact ZeN b1 (by rw[d1,hq]) (by omega),rfl⟩,hfin⟩
  ·simp at hq;refine zh (zb ?_);have w2:IntKind.i64.wrap ((j:Int)+1+1)=((j+1+1:Nat):Int):=by rw[wr _ (by omega) (by omega)];omega
   exact zq (j+1) [] ⟨by omega,ZeR hzs hjn d3 b3 (λe=>hq e.symm)⟩ (by omega) (by simp[w2]) rfl (by simp)
 ·simp at hc;refine zy (za (zb ?_));rw[Af (by omega)]at hjn;exact zg ⟨_,_,rfl,⟨by simp[hjn],rfl⟩,hfin⟩
open Go
abbrev X7(x:Inst)(t:zK):List PV:=[I x.days,I x.veh,I x.cap,I x.len,L x.cust,L x.dist,L t]
theorem Zli(x:Inst)(t:zK)(ht:t.length<=1048576):Pure prog 236 [.agg (X7 x t)] (B (qH x t)):=by
 have bad:∀{k:Nat} {s:Stop},t[k]?=some s->¬(0<=s.c/\s.c<x.cust.length/\1<=s.q/\s.q<=2147483648)->qH x t=false:=by
  intro k s h hb;unfold qH;have:t.all (ju x)=false:=by
   rw[Bu];exact⟨s,Ab h,by simp[ju];omega⟩
  rw[this];rfl
 refine zt Tryz.func236 Tryz.ntmps236 Tryz.results236 λS nx hd=>?_
 refine za (zb ?_);intro v0
 repeat apply za
 refine zb ?_;refine zj (zD (λs:Nat × Nat=>s.1<=t.length/\(t.take s.1).all (ju x)=true) (λ(k,v)=>[(1,.ptr nx v 0),(7,L t),(8,I t.length),(9,I k)]) (λ(k,v)=>[.cells v 267 (X7 x t)]) (λs=>t.length-s.1) (0,v0) [] (by simp) (by simp) (by simp) ?_);rintro⟨k,v0⟩ ⟨hk,ha⟩;simp only at hk ha ⊢;refine za (zb ?_);refine za (zv rfl (λhc=>?_) (λhc=>?_))
 ·simp at hc;obtain⟨s,tl,a1,a2,a3,e1,e0⟩:=el 2 rfl t k hc;refine zh (za (zj (za (ze [] (zo hc e0) ?_))));intros
  by_cases h1:s.c<0
  ·repeat apply za
   refine ze [(3,16)] (zo h1 zH) ?_;refine zn rfl (za (zb ?_));exact zg (zi hd rfl (by rw[bad a1 (by omega)];rfl))
  by_cases h2:(x.cust.length:Int)<=s.c
  ·repeat apply za
   refine ze [(3,16)] (zE h2 h1 zH) ?_;refine zn rfl (za (zb ?_));exact zg (zi hd rfl (by rw[bad a1 (by omega)];rfl))
  repeat apply za
  refine ze [(3,16)] (zo h1 h2) ?_;refine zm rfl (zh ?_)
  by_cases h3:s.q<1
  ·refine za (ze [(3,28)] (zo h3 zH) ?_);refine zn rfl (za (zb ?_));exact zg (zi hd rfl (by rw[bad a1 (by omega)];rfl))
  by_cases h4:2147483648<s.q
  ·refine za (ze [(3,28)] (zE h4 h3 zH) ?_);refine zn rfl (za (zb ?_));exact zg (zi hd rfl (by rw[bad a1 (by omega)];rfl))
  refine za (ze [(3,28)] (zo h3 h4) ?_);refine zm rfl (zh (zb ?_));exact zq (k+1,v0) [_] ⟨hc,Zlg ha a3 (by omega)⟩ (by simp;omega) (by simp[zu k (by omega)]) rfl (by simp;rfl)
 ·simp at hc;have hk':k=t.length:=by omega
  subst hk';rw[Ao]at ha;refine zy (za (zb ?_));exact zg (zi hd rfl (by cases t with | nil=>rfl | cons a t=>simp[qH,ha]))
theorem Zlj(x:Inst)(t:zK)(ht:t.length<=1048576):Pure prog 237 [.agg (X7 x t)] (B (decide (t.map (·.c)).Nodup)):=by
 refine zt Tryz.func237 Tryz.ntmps237 Tryz.results237 λS nx hd=>?_
 refine za (zb ?_);intro v0;refine za (zb ?_);refine λhsuf=>((X4 t ht _ _ jF).mono ?_).v
 rintro _ _ ⟨v1,rfl,rfl⟩;refine⟨_,_,JP _,jH [] Nat.add_assoc hsuf ?_⟩;rw[<-List.length_map (f:=λs:Stop=>s.c)];refine λhsuf=>((ZeS _ (by simp) (by simpa using ht)).mono ?_).v
 rintro _ _ ⟨rfl,rfl⟩;refine⟨_,_,yg _ (by simp) (by simp),zL hsuf ?_⟩;exact zg (zi hd rfl rfl)
theorem Zlk(x:Inst)(t:zK)(ht:t.length<=1048576):Pure prog 238 [.agg (X7 x t)] (B (decide (W (zQ t)<=x.cap))):=by
 refine zt Tryz.func238 Tryz.ntmps238 Tryz.results238 λS nx hd=>?_
 refine za (zb ?_);intro v0;refine za (zz none (Row.pures [0,1,2,3,4,5,6,7] .done) mixed trivial ?_);refine zJ (ZeO _ ht) trivial ?_;exact zg (zi hd rfl rfl)
theorem Zll(x:Inst)(t:zK)(ht:t.length<=1048576)(hs:∀s∈t,qe s.c):Pure prog 239 [.agg (X7 x t)] (B (decide (W (yC x (t.map (·.c)))<=x.len))):=by
 refine zt Tryz.func239 Tryz.ntmps239 Tryz.results239 λS nx hd=>?_
 refine za (zb ?_);intro v0;refine za (zz none (Row.pures [0,1,2,3,4,5,6,7,8,9] .done) mixed trivial ?_);refine zJ (X5 _ _ ht hs) trivial ?_;exact zg (zi hd rfl rfl)
abbrev ZeT:List PV:=[.fn (.func 236) [] [],I 1,.fn (.func 237) [] [],I 11,.fn (.func 238) [] [],I 12,.fn (.func 239) [] [],I 13]
theorem Zlm:Pure prog 195 [] (.lst 4 ZeT):=by
 refine zt Tryz.func195 Tryz.ntmps195 Tryz.results195 λS nx hd=>?_
 refine za (zb ?_);refine za (zb ?_);exact zg (zi hd rfl rfl)
theorem X8(x:Inst)(t:zK)(hx:x.cust.length<=1048576)(ht:t.length<=1048576):Pure prog 150 [.agg (zx x),.agg [L t]] (I (zP x t)):=by
 refine zt Tryz.func150 Tryz.ntmps150 Tryz.results150 λS nx hd=>?_
 refine za (zb ?_);intro v0 v1
 repeat apply za
 refine zb ?_;refine zr Zlm ?_;refine zj (zD (λs:Nat × Nat × Nat=>s.1<=4/\(1<=s.1->qH x t=true)/\(2<=s.1->(t.map (·.c)).Nodup)/\(3<=s.1->W (zQ t)<=x.cap)/\(4<=s.1->W (yC x (t.map (·.c)))<=x.len)) (λ(k,v,v')=>[(2,.ptr nx v 0),(3,.ptr (nx+1) v' 0),(7,.lst 4 ZeT),(8,I 4),(9,I k)]) (λ(k,v,v')=>[.cells v 25 (zx x),.cells v' 42 [L t]]) (λs=>4-s.1) (0,v0,v1) [] (by simp) (by simp) (by simp) ?_);rintro⟨k,v0,v1⟩ ⟨hk,i1,i2,i3,i4⟩;simp only at hk i1 i2 i3 i4 ⊢;have hsm:1<=k->∀s∈t,qe s.c:=λh=>Zlh hx (by have:=i1 h;unfold qH at this;simp only[Au]at this;exact this.1)
 match k,hk with
 | 0,_ =>
  refine za (zb ?_);refine za (zn rfl (zh (za (zj (za (zb ?_))))));intros;refine za (zb ?_);refine zr (Zli x t ht) ?_;refine zv rfl (λh1=>?_) (λh1=>?_)
  ·simp at h1;refine za (zb ?_);exact zg (zi hd rfl (by simp[zP,h1]))
  ·simp at h1;refine zh (zb ?_);exact zq (1,v0,v1) [_] (by simp[h1]) (by simp) (by simp;rfl) rfl (by simp;rfl)
 | 1,_ =>
  refine za (zb ?_);refine za (zn rfl (zh (za (zj (za (zb ?_))))));intros;refine za (zb ?_);refine zr (Zlj x t ht) ?_;refine zv rfl (λh1=>?_) (λh1=>?_)
  ·simp at h1;refine za (zb ?_);exact zg (zi hd rfl (by simp[zP,h1,i1 (by omega)]))
  ·simp at h1;refine zh (zb ?_);exact zq (2,v0,v1) [_] (by simp[h1,i1 (by omega)]) (by simp) (by simp;rfl) rfl (by simp;rfl)
 | 2,_ =>
  refine za (zb ?_);refine za (zn rfl (zh (za (zj (za (zb ?_))))));intros;refine za (zb ?_);refine zr (Zlk x t ht) ?_;refine zv rfl (λh1=>?_) (λh1=>?_)
  ·simp at h1;refine za (zb ?_);exact zg (zi hd rfl (by simp[zP,h1,i1 (by omega),i2 (by omega)]))
  ·simp at h1;refine zh (zb ?_);exact zq (3,v0,v1) [_] (by simp[h1,i1 (by omega),i2 (by omega)]) (by simp) (by simp;rfl) rfl (by simp;rfl)
 | 3,_ =>
  refine za (zb ?_);refine za (zn rfl (zh (za (zj (za (zb ?_))))));intros;refine za (zb ?_);refine zr (Zll x t ht (hsm (by omega))) ?_;have h3:=DP.2 (i3 (by omega));refine zv rfl (λh1=>?_) (λh1=>?_)
  ·simp at h1;refine za (zb ?_);exact zg (zi hd rfl (by simp[zP,h1,i1 (by omega),i2 (by omega),h3]))
  ·simp at h1;refine zh (zb ?_);exact zq (4,v0,v1) [_] (by simp[h1,i1 (by omega),i2 (by omega),i3 (by omega)]) (by simp) (by simp;rfl) rfl (by simp;rfl)
 | 4,_ =>
  refine za (zb ?_);refine za (zm rfl (zy (za (zb ?_))));exact zg (zi hd rfl (by simp[zP,i1 (by omega),i2 (by omega),DP.2 (i3 (by omega)),DP.2 (i4 (by omega))]))
open Go
def yr(x:Inst)(d:zk):Int :=
 match d.find? (λt=>zP x t != 0) with
 | some t=>zP x t
 | none=>if ¬(d.flatten.map (·.c)).Nodup then 11 else if x.veh<d.length then 14 else 0
theorem ZeU{α:Type}{p:α->Bool}{l:List α}{k:Nat}{a:α}(h:(l.take k).find? p=none)(ht:l.take (k+1)=l.take k++[a])(ha:p a=false):(l.take (k+1)).find? p=none:=by
 rw[ht,List.find?_append,h];simp[ha]
theorem ZeV{α:Type}{p:α->Bool}{l:List α}{k:Nat}{a:α}(h:(l.take k).find? p=none)(hd:l.drop k=a :: l.drop (k+1))(ha:p a=true):l.find? p=some a:=by
 have e:l=l.take k++a :: l.drop (k+1):=by rw[<-hd,List.take_append_drop]
 rw[e,List.find?_append,h];simp[ha]
theorem Zbq(x:Inst)(d:zk)(hx:x.cust.length<=1048576)(hn:d.length<=1048576)(ht:∀t∈d,t.length<=1048576)(hf:d.flatten.length<=1048576):Pure prog 111 [.agg (zx x),.agg [L d]] (I (yr x d)):=by
 refine zt Tryz.func111 Tryz.ntmps111 Tryz.results111 λS nx hd=>?_
 refine za (zb ?_);intro v0 v1
 repeat apply za
 refine zb ?_;refine zj (zD (λs:Nat × Nat × Nat=>s.1<=d.length/\(d.take s.1).find? (λt=>zP x t != 0)=none) (λ(k,v,v')=>[(2,.ptr nx v 0),(3,.ptr (nx+1) v' 0),(9,L d),(10,I d.length),(11,I k)]) (λ(k,v,v')=>[.cells v 25 (zx x),.cells v' 39 [L d]]) (λs=>d.length-s.1) (0,v0,v1) [] (by simp) (by simp) (by simp) ?_);rintro⟨k,v0,v1⟩ ⟨hk,ha⟩;simp only at hk ha ⊢;refine za (zb ?_);refine za (zv rfl (λhc=>?_) (λhc=>?_))
 ·simp at hc;obtain⟨t,tl,a1,a2,a3,e0⟩:=zF rfl d k hc;refine zh (za (zj (za (ze [] (zo hc e0) ?_))));intros;refine za (zb ?_);refine zr (X8 x t hx (ht t (Ab a1))) ?_;refine za (zb ?_);refine zv rfl (λh1=>?_) (λh1=>?_)
  ·simp at h1;refine za (zb ?_);exact zg (zi hd rfl (by simp only[yr,ZeV ha a2 (by simpa using h1)];simp))
  ·simp at h1;refine zh (zb ?_);exact zq (k+1,v0,v1) [_] ⟨hc,ZeU ha a3 (by simpa using h1)⟩ (by simp;omega) (by simp[zu k (by omega)]) rfl (by simp;rfl)
 ·simp at hc;have hk':k=d.length:=by omega
  subst hk';rw[Ao]at ha;have hst:=ZeP d hn hf;have hres:yr x d=if ¬(d.flatten.map (·.c)).Nodup then 11 else if x.veh<d.length then 14 else 0:=by unfold yr;rw[ha]
  generalize d.flatten=fl at *;refine zy ?_
  repeat apply za
  refine zb ?_;refine zr hst ?_;refine λhsuf=>((X4 fl hf _ _ jF).mono ?_).v
  rintro _ _ ⟨v2,rfl,rfl⟩;refine⟨_,_,JP _,jH [] Nat.add_assoc hsuf ?_⟩;rw[<-List.length_map (f:=λs:Stop=>s.c)];refine λhsuf=>((ZeS _ (by simp) (by simpa using hf)).mono ?_).v
  rintro _ _ ⟨rfl,rfl⟩;refine⟨_,_,yg _ (by simp) (by simp),zL hsuf ?_⟩;refine zv rfl (λh2=>?_) (λh2=>?_)
  ·simp at h2;refine za (zb ?_);exact zg (zi hd rfl (by simp[hres,h2]))
  ·simp at h2;refine zh ?_
   repeat apply za
   refine zb ?_;refine zv rfl (λh3=>?_) (λh3=>?_)
   ·simp at h3;refine za (zb ?_);exact zg (zi hd rfl (by simp[hres,h2,h3]))
   ·simp at h3;refine zh (za (zb ?_));exact zg (zi hd rfl (by simp[hres,h2,DP.2 h3]))
def qI(l:List Stop):zk:=l.map λs=>[s]
theorem Zln(l:List Stop)(hl:l.length<=1048576):Pure prog 314 [L l] (.agg [L (qI l)]):=by
 refine zt Tryz.func314 Tryz.ntmps314 Tryz.results314 λS nx hd=>?_
 refine za (zb ?_);intro v0;refine za (zb ?_);intro v1;refine za (jg 1 0 42 1 rfl rfl λv2=>?_);refine za (zb ?_);refine zj (zD (λs:Nat × zk × Nat × Nat × Nat=>s.1<=l.length/\s.2.1=qI (l.take s.1)) (λ(k,out,v,v',v2)=>[(2,.ptr nx v 0),(3,.ptr (nx+1) v' 0),(6,L l),(7,I l.length),(8,I k)]) (λ(k,out,v,v',v2)=>[.cells v 39 [.sc (.slice none 0 0)],.cells v' 39 [.sl (nx+2) v2 1 0 out.length],.cells v2 42 (out.flatMap Enc.enc)]) (λs=>l.length-s.1) (0,[],v0,v1,v2) [] (by simp[qI]) (by simp) (by simp) ?_);rintro⟨k,out,v0,v1,v2⟩ ⟨hk,ho⟩;simp only at hk ho ⊢;refine za (zb ?_);refine za (zv rfl (λhc=>?_) (λhc=>?_))
 ·simp at hc;obtain⟨s,tl,a1,a2,a3,e1,e0⟩:=el 2 rfl l k hc;refine zh (za (zj (za (ze [] (zo hc e0) ?_))));intros;have hol:out.length=k:=by rw[ho];simp[qI];omega
  refine zb ?_;refine⟨by omega,?_⟩;refine zb ?_;exact zq (k+1,out++[[s]],v0,v1,v2+1) [_] (by simp[a3,ho,qI];omega) (by simp;omega) (by simp[zu k (by omega)]) rfl (by simp;rfl)
 ·simp at hc;have hk':k=l.length:=by omega
  subst hk';refine zy (za (zb ?_));refine yb 2 rfl ?_;exact zg (zi hd (by simp;rfl) (by simp[ho]))
open Go
theorem Zbr(s:Stop):Pure prog 309 [.agg [I s.c,I s.q]] (.agg [L [s]]):=by
 refine zt Tryz.func309 Tryz.ntmps309 Tryz.results309 λS nx hd=>?_
 refine za (zb ?_);intro v0 v1;refine za (zb ?_);exact zg (zi hd (by simp;rfl) rfl)
theorem ZeW(l:List Int)(hl:l.length<=1048576)(hs:l.Pairwise (·<=·)):Pure prog 310 [L l] (B (decide (¬l.Nodup))):=by
 refine zt Tryz.func310 Tryz.ntmps310 Tryz.results310 λS nx hd=>?_
 refine za (zb ?_)
 repeat apply za
 refine zb ?_;refine zj (zD (λj:Nat=>(j=0\/j+1<=l.length)/\(l.take (j+1)).Nodup) (λj=>[(0,L l),(3,I ((j+1:Nat):Int))]) (λ_=>[]) (λj=>l.length-j) 0 [] (by cases l<;>simp) (by simp) (by simp) ?_);rintro j ⟨hj,hjn⟩
 repeat apply za
 refine zb ?_;refine zv rfl (λhc=>?_) (λhc=>?_)
 ·simp at hc;have hc':j+1<l.length:=by omega
  obtain⟨c,tl1,b1,b2,b3,e1⟩:=zF rfl l (j+1) hc';obtain⟨p,tl2,d1,d2,d3,e2⟩:=zF rfl l j (by omega);have wj:IntKind.i64.wrap (j:Int)=j:=wr _ (by omega) (by omega);have g1:(j:Int)<l.length:=by omega
  have g2:(j:Int)+1<l.length:=by omega
  have g3:0<=(j:Int)+1:=by omega
  refine zh (za (zj (za (zz none (Row.pures [0,1,2,3,4,5,6,7,8,9] .done) mixed (yl wj e1 e2 g1 g2 g3) ?_))));refine zv rfl (λhq=>?_) (λhq=>?_)
  ·simp at hq;refine za (zb ?_);exact zg (zi hd rfl (by simp;exact ZeN b1 (by rw[d1,hq]) (by omega)))
  ·simp at hq;refine zh (zb ?_);have w2:IntKind.i64.wrap ((j:Int)+1+1)=((j+1+1:Nat):Int):=by rw[wr _ (by omega) (by omega)];omega
   exact zq (j+1) [] ⟨by omega,ZeR hs hjn d3 b3 (λe=>hq e.symm)⟩ (by omega) (by simp[w2]) rfl (by simp)
 ·simp at hc;refine zy (za (zb ?_));rw[Af (by omega)]at hjn;exact zg (zi hd rfl (by simp[hjn]))
theorem ZeX(ss:List Stop)(hss:ss.length<=1048576):Pure prog 311 [L ss] (L (yR (ss.map (·.c)))):=by
 have hcust:=λS nx hd=>X4 ss hss S nx hd
 obtain⟨zs,hzs⟩:∃zs,zs=ss.map (·.c):=⟨_,rfl⟩;have hzl:ss.length=zs.length:=by rw[hzs];simp
 rw[<-hzs,hzl]at hcust;rw[<-hzs];have hz4:=Qa zs;refine zt Tryz.func311 Tryz.ntmps311 Tryz.results311 λS nx hd=>?_
 refine za (zb ?_);refine za (zb ?_);refine λhsuf=>((hcust _ _ jF).mono ?_).v
 rintro _ _ ⟨v1,rfl,rfl⟩;refine⟨_,_,JP _,jH [] Nat.add_assoc hsuf ?_⟩;refine za (zb ?_);refine λhsuf=>((VI zs (by simp) (by omega)).mono ?_).v
 rintro _ _ rfl;refine⟨_,_,yg _ (by simp) (by simp),zL hsuf ?_⟩;generalize yR zs=c at *;rw[<-hz4];refine yb 1 rfl ?_;refine za (zb ?_);exact zg (zi hd (by simp;rfl) rfl)
def wv(x:Inst)(l:List Stop):Int :=
 match l.find? (λs=>zP x [s] != 0) with
 | some s=>zP x [s]
 | none=>if ¬(l.map (·.c)).Nodup then 11 else 0
theorem Zlo(x:Inst)(l:List Stop)(hx:x.cust.length<=1048576)(hl:l.length<=1048576):Pure prog 284 [.agg (zx x),L l] (I (wv x l)):=by
 have hcu:=ZeX l hl;have hdo:=ZeW (yR (l.map (·.c))) (by rw[Qa];simpa using hl) (X6 _);have hdd:decide (¬(yR (l.map (·.c))).Nodup)=decide (¬(l.map (·.c)).Nodup):=by rw[decide_eq_decide,Zbp]
 rw[hdd]at hdo;refine zt Tryz.func284 Tryz.ntmps284 Tryz.results284 λS nx hd=>?_
 refine za (zb ?_);intro v0
 repeat apply za
 refine zb ?_;refine zj (zD (λk:Nat=>k<=l.length/\(l.take k).find? (λs=>zP x [s] != 0)=none) (λk=>[(1,L l),(2,.ptr nx v0 0),(8,L l),(9,I l.length),(10,I k)]) (λ_=>[.cells v0 25 (zx x)]) (λk=>l.length-k) 0 [] (by simp) (by simp) (by simp) ?_);rintro k ⟨hk,ha⟩;refine za (zb ?_);refine za (zv rfl (λhc=>?_) (λhc=>?_))
 ·simp at hc;obtain⟨s,tl,a1,a2,a3,e1,e0⟩:=el 2 rfl l k hc;refine zh (za (zj (za (ze [] (zE hc e1 e0) ?_))));intro v1;refine za (zz none (Row.pures [0,1,2,3,4] .done) mixed trivial ?_);refine zJ (Zbr s) trivial ?_;refine zJ (X8 x [s] hx (by simp)) trivial ?_;refine za (zb ?_);refine zv rfl (λh1=>?_) (λh1=>?_)
  ·simp at h1;refine za (zb ?_);exact zg (zi hd rfl (by simp only[wv,ZeV ha a2 (by simpa using h1)];simp))
  ·simp at h1;refine zh (zb ?_);exact zq (k+1) [_] ⟨hc,ZeU ha a3 (by simpa using h1)⟩ (by omega) (by simp[zu k (by omega)]) rfl (by simp;rfl)
 ·simp at hc;obtain rfl:k=l.length:=by omega
  rw[Ao]at ha;have hres:wv x l=if ¬(l.map (·.c)).Nodup then 11 else 0:=by unfold wv;rw[ha]
  refine zy ?_
  repeat apply za
  refine zb ?_;refine zr hcu ?_;refine zr hdo ?_
  by_cases h2:(l.map (·.c)).Nodup
  ·repeat apply za
   refine zm (by simp[h2]) ?_;refine zh (za (zb ?_));exact zg (zi hd (by simp;rfl) (by simp[hres,h2,zp]))
  ·repeat apply za
   refine zn (by simp[h2]) ?_;refine za (zb ?_);exact zg (zi hd (by simp;rfl) (by simp[hres,h2,zp]))
open Go
structure KeyOk {α:Type} [DecidableEq α] (d:TypeDesc) (key:α->Value):Prop where
 same:∀a b,Instr.sameNow d (key a) (key b)=some (decide (a=b))
theorem QX(k:IntKind):KeyOk (.int k) (λi:Int=>Value.int k i):=⟨λa b=>by
 simp only[Instr.sameNow]
 by_cases e:a=b<;>simp[e]⟩
def MapIs{α β:Type}(key:α->Value)(enc:β->PV)(es:List (Value × PV))(g:α->Option β):Prop :=
 ∃l:List (α × β),es=l.map (λx=>(key x.1,enc x.2))/\(l.map (·.1)).Nodup/\(∀a b,(a,b)∈l<->g a=some b)
def qO{α β:Type}[DecidableEq α](g:α->Option β)(a:α)(v:Option β):α->Option β:=λx=>if x=a then v else g x
theorem ZeY{α β:Type}(key:α->Value)(enc:β->PV):MapIs key enc [] (λ_=>none):=⟨[],rfl,by simp,by simp⟩
theorem ZeZ{α β:Type}[DecidableEq α]{d:TypeDesc}{key:α->Value}{enc:β->PV}(hk:KeyOk d key)(a:α):∀(l:List (α × β)) (i:Nat),a ∉ l.map (·.1)->qX d (key a) (l.map λx=>(key x.1,enc x.2)) i=some none
 | [],_,_=>rfl
 | x :: l,i,h=>by
  simp only[Ax,Aq,not_or]at h;simp only[Ax,qX,hk.same,decide_eq_false h.1];exact ZeZ hk a l (i+1) h.2
theorem Ze0{α β:Type}[DecidableEq α]{d:TypeDesc}{key:α->Value}{enc:β->PV}(hk:KeyOk d key)(a:α)(b:β):∀(l:List (α × β)) (i:Nat),(l.map (·.1)).Nodup->(a,b)∈l ->
  ∃j,l[j]?=some (a,b)/\qX d (key a) (l.map λx=>(key x.1,enc x.2)) i=some (some (i+j,enc b))
 | [],_,_,h=>by cases h
 | x :: l,i,hn,h=>by
  simp only[Ax,CA]at hn
  by_cases e:a=x.1
  ·have hx:x=(a,b):=by
    rcases Aq.1 h with h | h
    ·exact h.symm
    ·exact absurd (An.2 ⟨_,h,e⟩) hn.1
   subst hx;exact⟨0,rfl,by simp[qX,hk.same]⟩
  ·have hm:(a,b)∈l:=by
    rcases Aq.1 h with h | h
    ·exact absurd (by rw[<-h]) e
    ·exact h
   obtain⟨j,h1,h2⟩:=Ze0 hk a b l (i+1) hn.2 hm;refine⟨j+1,by simpa using h1,?_⟩;simp only[Ax,qX,hk.same,decide_eq_false e];rw[h2,show i+1+j=i+(j+1) by omega]
theorem MapIs.find{α β:Type}[DecidableEq α]{d:TypeDesc}{key:α->Value}{enc:β->PV}{es:List (Value × PV)}{g:α->Option β}(hk:KeyOk d key)(h:MapIs key enc es g)(a:α):
  ∃res,qX d (key a) es 0=some res/\(g a=none->res=none)/\(∀b,g a=some b->∃j,res=some (j,enc b))/\(∀b,MapIs key enc (qM (key a) (enc b) es res) (qO g a (some b)))/\MapIs key enc (XW es res) (qO g a none):=by
 obtain⟨l,rfl,hn,hg⟩:=h;cases hga:g a with
 | none =>
  have hna:a ∉ l.map (·.1):=by
   intro hm;obtain⟨x,hx,rfl⟩:=An.1 hm;have:=(hg x.1 x.2).1 hx;rw[hga]at this;cases this
  have q1:∀b,MapIs key enc (qM (key a) (enc b) (l.map λx=>(key x.1,enc x.2)) none) (qO g a (some b)):=λb=>by
   refine⟨l++[(a,b)],by simp[qM],?_,λa' b'=>?_⟩
   rotate_left
   focus
    unfold qO
    by_cases e:a'=a
    ·subst e;simp only[if_pos,AC,AV,hg,hga];simp[eq_comm]
    ·simp[AC,hg,e]
   rw[List.map_append,Dt];refine⟨hn,by simp,λx hx y hy=>?_⟩;simp at hy;subst hy;exact λe=>hna (e ▸ hx)
  refine⟨none,ZeZ hk a l 0 hna,(by intro _;rfl),(by intro b hb;cases hb),q1,l,by simp[XW],hn,λa' b'=>?_⟩
  ·unfold qO
   by_cases e:a'=a
   ·subst e;simp[hg,hga]
   ·simp[if_neg e,hg]
 | some b0 =>
  obtain⟨j,h1,h2⟩:=Ze0 (enc:=enc) hk a b0 l 0 hn ((hg a b0).2 hga);have hj:j<l.length:=(Ac.1 h1).1;have hja:l[j]=(a,b0):=(Ac.1 h1).2;have huniq:∀(i:Nat) (hi:i<l.length),l[i].1=a->i=j:=by
   intro i hi he;have hp:=BD.1 hn;rcases Nat.lt_trichotomy i j with h | h | h
   ·exact absurd (show (l.map (·.1))[i]'(by simpa using hi)=(l.map (·.1))[j]'(by simpa using hj) by rw[BX,BX,he,hja]) (hp i j (by simpa using hi) (by simpa using hj) h)
   ·exact h
   ·exact absurd (show (l.map (·.1))[j]'(by simpa using hj)=(l.map (·.1))[i]'(by simpa using hi) by rw[BX,BX,he,hja]) (hp j i (by simpa using hj) (by simpa using hi) h)
  suffices hh:(∀b,MapIs key enc (qM (key a) (enc b) (l.map λx=>(key x.1,enc x.2)) (some (0+j,enc b0))) (qO g a (some b)))/\MapIs key enc (XW (l.map λx=>(key x.1,enc x.2)) (some (0+j,enc b0))) (qO g a none) from
   ⟨some (0+j,enc b0),h2,(by intro h;cases h),(by intro b hb;cases hb;exact⟨_,rfl⟩),hh.1,hh.2⟩
  refine⟨λb=>⟨l.set j (a,b),?_,?_,λa' b'=>?_⟩,l.eraseIdx j,?_,?_,λa' b'=>?_⟩
  ·simp[qM,List.map_set]
  ·rw[List.map_set];have:(l.map (·.1)).set j a=l.map (·.1):=by
    apply A7;intro i;rw[AZ];split
    ·rename_i e;subst e;simp[hj,hja]
    ·rfl
   rw[this];exact hn
  ·unfold qO;rw[Bj];constructor
   ·rintro⟨i,hi⟩;rw[AZ]at hi
    by_cases hij:j=i
    ·subst hij;simp[hj]at hi;rw[if_pos hi.1.symm,hi.2]
    ·have hne:=hij;rw[if_neg hij]at hi;have hil:=(Ac.1 hi).1;have hie:=(Ac.1 hi).2
     by_cases e:a'=a
     ·exact absurd (huniq i hil (by rw[hie];exact e)).symm hne
     ·rw[if_neg e];exact(hg a' b').1 (Ab hi)
   ·intro h
    by_cases e:a'=a
    ·rw[if_pos e]at h;cases h;exact⟨j,by rw[AZ];simp[hj,e]⟩
    ·rw[if_neg e]at h;obtain⟨i,hi⟩:=Bj.1 ((hg a' b').2 h);refine⟨i,?_⟩;rw[AZ];rw[if_neg]
     ·exact hi
     ·rintro rfl;rw[h1]at hi;cases hi;exact e rfl
  ·simp only[XW,AR];apply A7;intro i;simp only[B1,Aj];split<;>rfl
  ·refine hn.sublist ?_;exact(DJ l j).map _
  ·unfold qO
   by_cases e:a'=a
   ·rw[if_pos e];refine⟨λh=>?_,λh=>by cases h⟩;obtain⟨i,hi⟩:=Bj.1 h;rw[B1]at hi;split at hi
    ·have hil:=(Ac.1 hi).1;have:=huniq i hil (by rw[(Ac.1 hi).2];exact e);omega
    ·have hil:=(Ac.1 hi).1;have:=huniq (i+1) hil (by rw[(Ac.1 hi).2];exact e);omega
   ·rw[if_neg e,<-hg];refine⟨λh=>(DJ l j).subset h,λh=>?_⟩;obtain⟨i,hi⟩:=Bj.1 h;have hij:i≠j:=by rintro rfl;rw[h1]at hi;cases hi;exact e rfl
    rw[Bj]
    by_cases hlt:i<j
    ·exact⟨i,by rw[B1,if_pos hlt];exact hi⟩
    ·refine⟨i-1,?_⟩;rw[B1,if_neg (by omega)];rw[show i-1+1=i by omega];exact hi
open Go Hp
abbrev yS:Int->Int->Bool:=λa b=>decide (a<b)
theorem Zl:Str yS:=⟨λa=>by simp,λa b c h1 h2=>by simp at *;omega,λa b h1 h2=>by simp at *;omega⟩
def yi(x:Int × Int):List PV:=[.sc (.int .i64 x.1),.sc (.int .i64 x.2)]
theorem Qb(x:Int × Int):(yi x).length=2:=rfl
abbrev qJ(x:Int):Value:=.int .i64 x
structure PosOk (g:Int->Option Nat) (l:zG Int):Prop where
 here:∀i,i<l.length->g (zB l i).1=some i
 gone:∀id,(∀i,i<l.length->(zB l i).1≠id)->g id=none
abbrev Zbs(i:Nat):PV:=.sc (.int .i64 (i:Int))
def RowIs(cs:List PV)(l:zG Int):Prop:=∃rest,cs=l.flatMap yi++rest
theorem RowIs.at{cs:List PV}{l:zG Int}(h:RowIs cs l)(i:Nat)(hi:i<l.length):∃tl,cs.drop (i*2)=.sc (.int .i64 (zB l i).1) :: .sc (.int .i64 (zB l i).2) :: tl:=by
 obtain⟨rest,rfl⟩:=h;refine⟨(l.drop (i+1)).flatMap yi++rest,?_⟩;rw[Cx (by rw[JH yi 2 Qb];omega),Zd2 yi 2 Qb l i hi];have:zB l i=l[i]:=by unfold zB;simp[hi]
 rw[this];rfl
theorem RowIs.big{cs:List PV}{l:zG Int}(h:RowIs cs l):l.length*2<=cs.length:=by
 obtain⟨rest,rfl⟩:=h;rw[Ar,JH yi 2 Qb];omega
theorem RowIs.put{cs:List PV}{l:zG Int}(h:RowIs cs l)(i:Nat)(hi:i<l.length)(x:Int × Int):RowIs (yc cs (i*2) [.sc (.int .i64 x.1),.sc (.int .i64 x.2)]) (l.set i x):=by
 obtain⟨rest,rfl⟩:=h;refine⟨rest,?_⟩;have hl:(l.flatMap yi).length=l.length*2:=JH yi 2 Qb l
 show List.take (i*2) (l.flatMap yi++rest)++yi x++List.drop (i*2+2) (l.flatMap yi++rest)=_
 rw[BA (by omega),QS yi 2 Qb,show i*2+2=(i+1)*2 by omega,Cx (by omega),JG yi 2 Qb];rw[AH,if_pos hi];simp
theorem RowIs.take{cs:List PV}{l:zG Int}(h:RowIs cs l):cs.take (l.length*2)=l.flatMap yi:=by
 obtain⟨rest,rfl⟩:=h;rw[BA (by rw[JH yi 2 Qb];omega),QS yi 2 Qb,Ao]
structure HS (S:Store) (hid hv rid mid mv:Nat) (l:zG Int) (g:Int->Option Nat):Prop where
 h:∃ver,S hid=.cells hv 445 [.sl rid ver 2 0 l.length,.mp mid mv]/\∃cs,S rid=.cells ver 449 cs/\RowIs cs l
 m:∃es,S mid=.map mv es/\MapIs qJ Zbs es g
 ne:hid≠rid/\hid≠mid/\rid≠mid
 len:l.length<=2147483648
def Offd(S:Store)(ids:List Nat)(S':Store):Prop:=∀o,o ∉ ids->S' o=S o\/S o=.dead
def Off(S:Store)(ids:List Nat)(S':Store):Prop:=∀o,o ∉ ids->S' o=S o
theorem Offd.refl(S:Store)(ids:List Nat):Offd S ids S:=λ_ _=>.inl rfl
theorem Offd.set{S T:Store}{ids:List Nat}(h:Offd S ids T){o:Nat}(ho:o∈ids\/S o=.dead)(x:Ob):Offd S ids (T.set o x):=by
 intro i hi
 by_cases e:i=o
 ·subst e;exact .inr (ho.resolve_left hi)
 ·rw[je _ _ _ _ e];exact h i hi
theorem Off.offd{S T:Store}{ids:List Nat}(h:Off S ids T):Offd S ids T:=λo ho=>.inl (h o ho)
theorem Off.trans{S T U:Store}{ids:List Nat}(h:Off S ids T)(k:Off T ids U):Off S ids U:=λo ho=>(k o ho).trans (h o ho)
def cut(S:Store)(ids:List Nat)(S':Store):Store:=λo=>if o∈ids then S' o else S o
theorem ZW(S:Store)(ids:List Nat)(S':Store):Off S ids (cut S ids S'):=λo ho=>by simp[cut,ho]
theorem Zlp(S:Store)(ids:List Nat)(S':Store){o:Nat}(h:o∈ids):cut S ids S' o=S' o:=by simp[cut,h]
theorem ZX{S S':Store}{ids:List Nat}(h:Offd S ids S'):∀o,cut S ids S' o=S' o\/cut S ids S' o=.dead:=by
 intro o;unfold cut;split
 ·exact .inl rfl
 ·rename_i ho;rcases h o ho with h | h
  ·exact .inl h.symm
  ·exact .inr h
theorem HS.congr{S T:Store}{hid hv rid mid mv:Nat}{l:zG Int}{g:Int->Option Nat}(h:HS S hid hv rid mid mv l g)(e:∀o∈[hid,rid,mid],T o=S o):HS T hid hv rid mid mv l g:=by
 obtain⟨ver,h1,cs,h2,hR⟩:=h.h;obtain⟨es,h3⟩:=h.m;exact⟨⟨ver,by rw[e _ (by simp)];exact h1,cs,by rw[e _ (by simp)];exact h2,hR⟩,⟨es,by rw[e _ (by simp)];exact h3⟩,h.ne,h.len⟩
theorem HS.cut{S T:Store}{hid hv rid mid mv:Nat}{l:zG Int}{g:Int->Option Nat}(h:HS T hid hv rid mid mv l g):HS (cut S [hid,rid,mid] T) hid hv rid mid mv l g:=h.congr λ_ ho=>Zlp _ _ _ ho
theorem wP(S:Store)(o:Nat)(x:Ob)(i:Nat):S.set o x i=if i=o then x else S i:=by
 split
 ·rename_i h;subst h;exact q11 ..
 ·rename_i h;exact je _ _ _ _ h
theorem Ze1{S:Store}{o i:Nat}{x:Ob}(h:S.set o x i=.dead)(hx:x≠.dead):i≠o/\S i=.dead:=by
 rw[wP]at h;split at h
 ·exact absurd h hx
 ·rename_i e;exact⟨e,h⟩
theorem vV{S:Store}{o i:Nat}{x:Ob}(h:S o=x)(hx:x≠.dead)(d:S i=.dead):o≠i:=by
 rintro rfl;rw[h]at d;exact hx d
theorem Zlq{S:Store}{hid hv rid mid mv:Nat}{l:zG Int}{g:Int->Option Nat}(hs:HS S hid hv rid mid mv l g):
  PCalls prog 413 [.ptr hid hv 0] S (λp S'=>p=zW l.length/\S'=S):=by
 obtain⟨ver,h1,cs,h2,hR⟩:=hs.h;refine vu Tryz.func413 rfl Tryz.ntmps413 (congrArg Array.toList Tryz.results413) (by simp) ?_;refine za (qA (by rfl) (by simp;rfl) (za (yO [] (by rfl) λK hK=>?_)));simp[h1];refine hK _ _ (zg ?_);simp[Zg,zW]
theorem Zlr{S:Store}{hid hv rid mid mv:Nat}{l:zG Int}{g:Int->Option Nat}(hs:HS S hid hv rid mid mv l g)(i j:Nat)(hi:i<l.length)(hj:j<l.length):
  PCalls prog 414 [.ptr hid hv 0,zW i,zW j] S (λp S'=>p=wM (il yS (zB l i) (zB l j))/\S'=S):=by
 obtain⟨ver,h1,cs,h2,hR⟩:=hs.h;obtain⟨tl1,e1⟩:=hR.at i hi;obtain⟨tl2,e2⟩:=hR.at j hj;refine vu Tryz.func414 rfl Tryz.ntmps414 (congrArg Array.toList Tryz.results414) (by simp) ?_;refine za (qA (by rfl) (by simp;rfl) (za ?_));refine QQ (some [hid,rid]) (Row.pures [0,1,2,3,4,5,6,7,8,9,10,11,12,13] (.alt 14 (.alt 15 (.alt 16 (.alt 17 (.done) .stop) .stop) .stop) (.alt 15 (.alt 14 (.alt 16 (.alt 17 (.done) .stop) .stop) .stop) .stop))) mixed (by rfl) (by rfl) (by rfl) λK hK=>?_
 have z1:hid≠rid:=hs.ne.1;have tail:∀(F:Nat->PV) (T:Store) (a b:Nat),F 7=.ptr a 0 0->F 8=.ptr b 0 0->T a=.cells 0 449 (yi (zB l i))->T b=.cells 0 449 (yi (zB l j))->Offd S [] T->K F T:=by
  intro F T a b f7 f8 ta tb hoff;have fin:∀o,S o=T o\/S o=.dead:=λo=>(hoff o (by simp)).imp Eq.symm id
  refine hK _ _ ?_;refine za (za (yO [] (by rfl) λK' hK'=>?_));simp[f7,f8,ta,tb,yi];refine hK' _ _ (zv rfl (λhc=>?_) (λhc=>?_))
  ·refine za (yO [] (by rfl) λK2 hK2=>?_);simp[f7,f8,ta,tb,yi];refine hK2 _ _ (zg ⟨_,S,rfl,⟨?_,rfl⟩,fin⟩);simp at hc;simp[il,hc,wM]
  ·refine zh (za (yO [] (by rfl) λK2 hK2=>?_));simp[f7,f8,ta,tb,yi];refine hK2 _ _ (zg ⟨_,S,rfl,⟨?_,rfl⟩,fin⟩);simp at hc;simp[il,hc,wM]
 simp[h1,h2,hi,hj,e1,e2,zW];constructor
 ·refine QR rfl (by simp;rfl) (by simp) λa ha=>?_
  have n1:=vV h1 (by simp) ha;have n2:=vV h2 (by simp) ha;simp[h1,h2,wP,n1,n2];refine QR rfl (by simp;rfl) (by simp) λb hb=>?_
  have n3:=Ze1 hb (by simp);have n4:=vV h1 (by simp) n3.2;have n5:=vV h2 (by simp) n3.2;simp[h1,h2,wP,n1,n2,n3,n4,n5,n3.1.symm];exact tail _ _ a b rfl rfl (by simp[wP,n3.1,n3.1.symm,yi]) (by simp[wP,n3.1,n3.1.symm,yi]) (by repeat (first | exact Offd.refl _ _ | refine Offd.set ?_ (by first | exact .inr ha | exact .inr n3.2) _))
 ·refine QR rfl (by simp;rfl) (by simp) λa ha=>?_
  have n1:=vV h1 (by simp) ha;have n2:=vV h2 (by simp) ha;simp[h1,h2,wP,n1,n2];refine QR rfl (by simp;rfl) (by simp) λb hb=>?_
  have n3:=Ze1 hb (by simp);have n4:=vV h1 (by simp) n3.2;have n5:=vV h2 (by simp) n3.2;simp[h1,h2,wP,n1,n2,n3,n4,n5,n3.1.symm];exact tail _ _ b a rfl rfl (by simp[wP,n3.1,n3.1.symm,yi]) (by simp[wP,n3.1,n3.1.symm,yi]) (by repeat (first | exact Offd.refl _ _ | refine Offd.set ?_ (by first | exact .inr ha | exact .inr n3.2) _))
theorem Zls{S:Store}{hid hv rid mid mv:Nat}{l:zG Int}{g:Int->Option Nat}(hs:HS S hid hv rid mid mv l g)(i j:Nat)(hi:i<l.length)(hj:j<l.length):
  PCalls prog 417 [.ptr hid hv 0,zW i,zW j] S (λ_ S'=>Off S [hid,rid,mid] S'/\HS S' hid hv rid mid mv (swp l i j) (qO (qO g (zB (swp l i j) i).1 (some i)) (zB (swp l i j) j).1 (some j))):=by
 obtain⟨ver,h1,cs,h2,hR⟩:=hs.h;obtain⟨es,h3,h4⟩:=hs.m;obtain⟨z1,z2,z3⟩:=hs.ne;obtain⟨tl1,e1⟩:=hR.at i hi;obtain⟨tl2,e2⟩:=hR.at j hj;have b0:=hR.big;have b1:i*2+2<=cs.length:=by omega
 have b2:j*2+2<=cs.length:=by omega
 refine vu Tryz.func417 rfl Tryz.ntmps417 (congrArg Array.toList Tryz.results417) (by simp) ?_;refine za (QQ (some [hid]) (Row.pures [0,1,2,3,4,5,6,7,8,9,10,11,12,13,14,15,17,18,19,20,21,22] (.alt 16 (.alt 23 (Row.pures [24] (.alt 25 (Row.pures [26] (.alt 27 (.done) .stop)) .stop)) .stop) (.alt 23 (.alt 16 (Row.pures [24] (.alt 25 (Row.pures [26] (.alt 27 (.done) .stop)) .stop)) .stop) .stop))) mixed (by rfl) (by rfl) (by rfl) λK hK=>?_);have r1:=(hR.put i hi (zB l j)).put j (by simpa using hj) (zB l i);have hsw:(l.set i (zB l j)).set j (zB l i)=swp l i j:=rfl;rw[hsw]at r1;have hsl:(swp l i j).length=l.length:=uK l i j;have tail:∀(F:Nat->PV),F 0=.ptr hid hv 0->F 1=zW i->F 2=zW j->K F (S.set rid (.cells ver 449 (yc (yc cs (i*2) [.sc (.int .i64 (zB l j).1),.sc (.int .i64 (zB l j).2)]) (j*2) [.sc (.int .i64 (zB l i).1),.sc (.int .i64 (zB l i).2)]))):=by
  intro F f0 f1 f2;refine hK _ _ ?_;generalize hcs':yc (yc cs (i*2) [.sc (.int .i64 (zB l j).1),.sc (.int .i64 (zB l j).2)]) (j*2) [.sc (.int .i64 (zB l i).1),.sc (.int .i64 (zB l i).2)]=cs' at r1;obtain⟨tl1,e1⟩:=r1.at i (by omega);obtain⟨tl2,e2⟩:=r1.at j (by omega);have b0:=r1.big;have b1:i*2+2<=cs'.length:=by omega
  have b2:j*2+2<=cs'.length:=by omega
  have hT:Offd S [hid,rid,mid] (S.set rid (.cells ver 449 cs')):=(Offd.refl _ _).set (.inl (by simp)) _;have t1:S.set rid (.cells ver 449 cs') hid=_:=(je _ _ _ _ z1).trans h1;have t2:S.set rid (.cells ver 449 cs') rid=_:=q11 _ _ _;have t3:S.set rid (.cells ver 449 cs') mid=_:=(je _ _ _ _ (Ne.symm z3)).trans h3;generalize S.set rid (.cells ver 449 cs')=T at hT t1 t2 t3;obtain⟨res,m1,_,_,m2,_⟩:=h4.find (QX .i64) (zB (swp l i j) i).1;refine za (QQ (some [hid,rid]) (Row.pures [0,1,2,3,4,5,6,7,8,9,10,11,12] (.alt 13 (.done) .stop)) mixed (by rfl) (by rfl) (by rfl) λK hK=>?_);simp -implicitDefEqProofs [f0,f1,f2,t1,t2,hi,hj,e1,e2,zW,b1,b2];refine Yy (.inl rfl) Tryz.underlying384 Tryz.underlying3 rfl rfl rfl t3 m1 ?_;simp -implicitDefEqProofs [je,z2,z3,t1,t2];refine hK _ _ ?_;clear hK;have u1:T.set mid (.map mv (qM (qJ (zB (swp l i j) i).1) (zW i) es res)) hid=_:=(je _ _ _ _ z2).trans t1;have u2:T.set mid (.map mv (qM (qJ (zB (swp l i j) i).1) (zW i) es res)) rid=_:=(je _ _ _ _ z3).trans t2;have u3:T.set mid (.map mv (qM (qJ (zB (swp l i j) i).1) (zW i) es res)) mid=_:=q11 _ _ _;have hU:Offd S [hid,rid,mid] (T.set mid (.map mv (qM (qJ (zB (swp l i j) i).1) (zW i) es res))):=hT.set (.inl (by simp)) _;have m3:=m2 i;obtain⟨res2,m4,_,_,m5,_⟩:=m3.find (QX .i64) (zB (swp l i j) j).1
  show PW _ _ _ _ _ _ _ (T.set mid (.map mv (qM (qJ (zB (swp l i j) i).1) (zW i) es res)))
  change MapIs qJ Zbs (qM (qJ (zB (swp l i j) i).1) (zW i) es res) _ at m3;generalize T.set mid (.map mv (qM (qJ (zB (swp l i j) i).1) (zW i) es res))=U at u1 u2 u3 hU;refine QQ (some [hid,rid]) (Row.pures [0,1,2,3,4,5,6,7,8,9,10,11,12] (.alt 13 (.done) .stop)) mixed (by rfl) (by rfl) (by rfl) λK hK=>?_
  simp -implicitDefEqProofs [f0,f1,f2,u1,u2,hi,hj,e1,e2,zW,b1,b2];refine Yy (.inl rfl) Tryz.underlying384 Tryz.underlying3 rfl rfl rfl u3 m4 ?_;simp -implicitDefEqProofs [je,z2,z3,u1,u2];refine hK _ _ ⟨_,_,rfl,⟨ZW _ _ _,HS.cut ⟨⟨ver,?_,cs',?_,r1⟩,⟨_,?_,m5 j⟩,⟨z1,z2,z3⟩,?_⟩⟩,ZX (hU.set (.inl (by simp)) _)⟩
  ·rw[je _ _ _ _ z2,u1,hsl]
  ·rw[je _ _ _ _ z3,u2]
  ·exact q11 _ _ _
  ·rw[hsl];exact hs.len
 simp -implicitDefEqProofs [h1,h2,hi,hj,e1,e2,zW,b1,b2,wP,z1];exact⟨tail _ rfl rfl rfl,tail _ rfl rfl rfl⟩
theorem Zlt:ElemOk prog 441 449 (.agg #[.int .i64 0,.int .i64 0]) 16 :=
 ⟨Tryz.underlying441,by simp,by simp,by simp,by simp,by omega⟩
theorem Zlu{S:Store}{hid hv rid mid mv:Nat}{l:zG Int}{g:Int->Option Nat}(hs:HS S hid hv rid mid mv l g)(x:Int × Int)(hn:l.length+1<=2147483648):
  PCalls prog 416 [.ptr hid hv 0,.ifc 449 (.agg (yi x))] S (λ_ S'=>Off S [hid,rid,mid] S'/\HS S' hid hv rid mid mv (l++[x]) (qO g x.1 (some l.length))):=by
 obtain⟨ver,h1,cs,h2,hR⟩:=hs.h;obtain⟨es,h3,h4⟩:=hs.m;obtain⟨z1,z2,z3⟩:=hs.ne;have b0:=hR.big;refine vu Tryz.func416 rfl Tryz.ntmps416 (congrArg Array.toList Tryz.results416) (by simp) ?_;refine za (yO [] (by rfl) λK hK=>?_);simp -implicitDefEqProofs [yi];refine Zj3 rfl Tryz.underlying449 (by intro ms;simp) (by simp;rfl) (p:=.tup [.agg (yi x),.sc (.bool true)]) (by simp[Za2,yi]) ?_;simp -implicitDefEqProofs [yi];refine QR rfl (by simp;rfl) (by simp) λa ha=>?_
 simp -implicitDefEqProofs [yi];have n1:=vV h1 (by simp) ha;have n2:=vV h2 (by simp) ha;have n3:=vV h3 (by simp) ha;refine hK _ _ ?_;clear hK;have hT:Offd S [hid,rid,mid] (S.set a (.cells 0 449 (yi x))):=(Offd.refl _ _).set (.inr ha) _;have t1:S.set a (.cells 0 449 (yi x)) hid=_:=(je _ _ _ _ n1).trans h1;have t2:S.set a (.cells 0 449 (yi x)) rid=_:=(je _ _ _ _ n2).trans h2;have t3:S.set a (.cells 0 449 (yi x)) mid=_:=(je _ _ _ _ n3).trans h3;have t4:S.set a (.cells 0 449 (yi x)) a=_:=q11 _ _ _
 show PW _ _ _ _ _ _ _ (S.set a (.cells 0 449 (yi x)))
 generalize S.set a (.cells 0 449 (yi x))=T at hT t1 t2 t3 t4;refine za (qA (by rfl) (by simp;rfl) (zv rfl (λ_=>?_) (λh=>by simp at h)));obtain⟨res,m1,_,_,m2,_⟩:=h4.find (QX .i64) x.1;refine za (QQ (some [hid,a]) (Row.pures [0,1,2,3,4,5,6,7,8,9,10] (.alt 11 (.done) .stop)) mixed (by rfl) (by rfl) (by rfl) λK hK=>?_);simp -implicitDefEqProofs [t1,t4,yi];refine Yy (.inl rfl) Tryz.underlying384 Tryz.underlying3 rfl rfl rfl t3 m1 ?_;simp -implicitDefEqProofs [je,z2,n3.symm,t1,t4,yi];refine hK _ _ ?_;clear hK;have m3:=m2 l.length;have u1:T.set mid (.map mv (qM (qJ x.1) (zW l.length) es res)) hid=_:=(je _ _ _ _ z2).trans t1;have u2:T.set mid (.map mv (qM (qJ x.1) (zW l.length) es res)) rid=_:=(je _ _ _ _ z3).trans t2;have u3:T.set mid (.map mv (qM (qJ x.1) (zW l.length) es res)) mid=_:=q11 _ _ _;have u4:T.set mid (.map mv (qM (qJ x.1) (zW l.length) es res)) a=_:=(je _ _ _ _ n3.symm).trans t4;have hU:Offd S [hid,rid,mid] (T.set mid (.map mv (qM (qJ x.1) (zW l.length) es res))):=hT.set (.inl (by simp)) _
 show PW _ _ _ _ _ _ _ (T.set mid (.map mv (qM (qJ x.1) (zW l.length) es res)))
 change MapIs qJ Zbs (qM (qJ x.1) (zW l.length) es res) _ at m3;generalize T.set mid (.map mv (qM (qJ x.1) (zW l.length) es res))=U at u1 u2 u3 u4 hU;refine QQ (some [a]) (Row.pures [0,1,2,3,5,6] (.alt 4 (.alt 7 (Row.pures [8,9] (.alt 10 (.done) .stop)) .stop) .stop)) mixed (by rfl) (by rfl) (by rfl) λK hK=>?_
 simp -implicitDefEqProofs [u1,u4,yi];refine ZjY rfl Zlt (by simp;rfl) u2 (by simpa using b0) (m:=1) (ds:=yi x) (by simp[yi]) (by omega) (by omega) ?_;simp -implicitDefEqProofs [wP,z1,n1.symm,n2.symm,u1,u4,yi];have r1:RowIs (cs.take (l.length*2)++yi x) (l++[x]):=⟨[],by rw[hR.take];simp⟩;refine hK _ _ ⟨_,_,rfl,⟨ZW _ _ _,HS.cut ⟨⟨ver+1,?_,_,?_,r1⟩,⟨_,?_,m3⟩,⟨z1,z2,z3⟩,?_⟩⟩,ZX ((hU.set (.inl (by simp)) _).set (.inl (by simp)) _)⟩
 ·rw[Za1];simp
 ·rw[je _ _ _ _ z1.symm,Za1];simp[yi]
 ·rw[je _ _ _ _ z2.symm,je _ _ _ _ z3.symm,u3]
 ·simp;omega
theorem Zlv{S:Store}{hid hv rid mid mv:Nat}{l:zG Int}{g:Int->Option Nat}(x:Int × Int)(hs:HS S hid hv rid mid mv (l++[x]) g):
  PCalls prog 415 [.ptr hid hv 0] S (λp S'=>p=.ifc 449 (.agg (yi x))/\Off S [hid,rid,mid] S'/\HS S' hid hv rid mid mv l (qO g x.1 none)):=by
 obtain⟨ver,h1,cs,h2,hR⟩:=hs.h;obtain⟨es,h3,h4⟩:=hs.m;obtain⟨z1,z2,z3⟩:=hs.ne;have b0:=hR.big;have hlen:=hs.len;simp only[Ar,Ae,Ah,AR]at h1 b0 hlen;refine vu Tryz.func415 rfl Tryz.ntmps415 (congrArg Array.toList Tryz.results415) (by simp) ?_;have hw:IntKind.i64.wrap (l.length:Int)=l.length:=ZQ _ (by omega) (by omega);obtain⟨tl,e1⟩:=hR.at l.length (by simp);have ha:zB (l++[x]) l.length=x:=by simp[zB]
 rw[ha]at e1;refine za (qA (by rfl) (by simp;rfl) (za (yO [] (by rfl) λK hK=>?_)));simp -implicitDefEqProofs [h1,hw];refine hK _ _ ?_;clear hK;refine za (yO [] (by rfl) λK hK=>?_);have hlt:(l.length:Int)<l.length+1:=by omega
 have b1:l.length*2+2<=cs.length:=by omega
 simp -implicitDefEqProofs [h1,h2,e1,hlt];refine QR rfl (by simp;rfl) (by simp) λa ha=>?_
 have n1:=vV h1 (by simp) ha;have n2:=vV h2 (by simp) ha;have n3:=vV h3 (by simp) ha;simp -implicitDefEqProofs;refine hK _ _ ?_;clear hK;refine za (yO [] (by rfl) λK hK=>?_);simp -implicitDefEqProofs [wP,n1,n2,h1,h2,hlt,b1];refine hK _ _ ?_;clear hK;refine za (yO [] (by rfl) λK hK=>?_);simp -implicitDefEqProofs [wP,n1,n2,z1,h1,h2,hlt,b1];refine hK _ _ ?_;clear hK;have r1:RowIs (yc cs (l.length*2) [.sc (.int .i64 0),.sc (.int .i64 0)]) l:=by
  obtain⟨rest,q⟩:=hR.put l.length (by simp) (0,0);exact⟨yi (0,0)++rest,by rw[q,Bx _ _ (Ag _)];simp⟩
 have hT:Offd S [hid,rid,mid] (((S.set a (.cells 0 449 (yi x))).set rid (.cells ver 449 (yc cs (l.length*2) [.sc (.int .i64 0),.sc (.int .i64 0)]))).set hid (.cells hv 445 [.sl rid ver 2 0 l.length,.mp mid mv])) :=
  (((Offd.refl _ _).set (.inr ha) _).set (.inl (by simp)) _).set (.inl (by simp)) _
 have t1:(((S.set a (.cells 0 449 (yi x))).set rid (.cells ver 449 (yc cs (l.length*2) [.sc (.int .i64 0),.sc (.int .i64 0)]))).set hid (.cells hv 445 [.sl rid ver 2 0 l.length,.mp mid mv])) hid=.cells hv 445 [.sl rid ver 2 0 l.length,.mp mid mv]:=by simp
 have t2:(((S.set a (.cells 0 449 (yi x))).set rid (.cells ver 449 (yc cs (l.length*2) [.sc (.int .i64 0),.sc (.int .i64 0)]))).set hid (.cells hv 445 [.sl rid ver 2 0 l.length,.mp mid mv])) rid=.cells ver 449 (yc cs (l.length*2) [.sc (.int .i64 0),.sc (.int .i64 0)]):=by simp[wP,z1.symm]
 have t3:(((S.set a (.cells 0 449 (yi x))).set rid (.cells ver 449 (yc cs (l.length*2) [.sc (.int .i64 0),.sc (.int .i64 0)]))).set hid (.cells hv 445 [.sl rid ver 2 0 l.length,.mp mid mv])) mid=.map mv es:=by simp[wP,z2.symm,z3.symm,n3,h3]
 have t4:(((S.set a (.cells 0 449 (yi x))).set rid (.cells ver 449 (yc cs (l.length*2) [.sc (.int .i64 0),.sc (.int .i64 0)]))).set hid (.cells hv 445 [.sl rid ver 2 0 l.length,.mp mid mv])) a=.cells 0 449 (yi x):=by simp[wP,n1.symm,n2.symm]
 show PW _ _ _ _ _ _ _ (((S.set a (.cells 0 449 (yi x))).set rid (.cells ver 449 (yc cs (l.length*2) [.sc (.int .i64 0),.sc (.int .i64 0)]))).set hid (.cells hv 445 [.sl rid ver 2 0 l.length,.mp mid mv]))
 generalize (((S.set a (.cells 0 449 (yi x))).set rid (.cells ver 449 (yc cs (l.length*2) [.sc (.int .i64 0),.sc (.int .i64 0)]))).set hid (.cells hv 445 [.sl rid ver 2 0 l.length,.mp mid mv]))=T at hT t1 t2 t3 t4;obtain⟨res,m1,_,_,_,m2⟩:=h4.find (QX .i64) x.1;refine za (QQ (some [hid,a]) (Row.pures [0,1,2,3,4,5] (.alt 6 (.done) .stop)) mixed (by rfl) (by rfl) (by rfl) λK hK=>?_);simp -implicitDefEqProofs [t1,t4,yi];refine Zj1 rfl rfl Tryz.underlying384 Tryz.underlying3 rfl rfl rfl t3 m1 ?_;simp -implicitDefEqProofs [je,z2,n3.symm,t1,t4,yi];refine hK _ _ ?_;clear hK;refine za (yO [] (by rfl) λK hK=>?_);simp -implicitDefEqProofs [je,z2,n3.symm,t1,t4,yi];refine hK _ _ (zg ⟨_,_,rfl,⟨rfl,ZW _ _ _,HS.cut ⟨⟨ver,?_,_,?_,r1⟩,⟨_,?_,m2⟩,⟨z1,z2,z3⟩,?_⟩⟩,ZX (hT.set (.inl (by simp)) _)⟩)
 ·rw[je _ _ _ _ z2,t1]
 ·rw[je _ _ _ _ z3,t2]
 ·exact Za1 _ _ _
 ·omega
open Go Hp
def HP(S:Store)(hid hv rid mid mv:Nat)(l:zG Int):Prop:=∃g,HS S hid hv rid mid mv l g/\PosOk g l
theorem PosOk.inj{g:Int->Option Nat}{l:zG Int}(h:PosOk g l){i j:Nat}(hi:i<l.length)(hj:j<l.length)(e:(zB l i).1=(zB l j).1):i=j:=by
 have h1:=h.here i hi;rw[e,h.here j hj]at h1;exact(Option.some.inj h1).symm
theorem PosOk.swp{g:Int->Option Nat}{l:zG Int}(h:PosOk g l)(i j:Nat)(hi:i<l.length)(hj:j<l.length):PosOk (qO (qO g (zB (swp l i j) i).1 (some i)) (zB (swp l i j) j).1 (some j)) (swp l i j):=by
 have at':=λk=>XI l i j k hi hj
 have ei:(zB (Hp.swp l i j) i).1=(zB l j).1:=by
  rw[at' i]
  by_cases e:i=j
  ·rw[if_pos e,e]
  ·rw[if_neg e,if_pos rfl]
 have ej:(zB (Hp.swp l i j) j).1=(zB l i).1:=by rw[at' j,if_pos rfl]
 rw[ei,ej];refine⟨λk hk=>?_,λid hid=>?_⟩
 ·rw[uK]at hk;rw[at' k];unfold qO
  by_cases k1:k=j
  ·rw[if_pos k1,if_pos rfl,k1]
  ·rw[if_neg k1]
   by_cases k2:k=i
   ·rw[if_pos k2];rw[if_neg (λe=>k1 (by rw[k2];exact(h.inj hj hi e).symm)),if_pos rfl,k2]
   ·rw[if_neg k2,if_neg (λe=>k2 (h.inj hk hi e)),if_neg (λe=>k1 (h.inj hk hj e))];exact h.here k hk
 ·unfold qO;have q1:=hid i (by rw[uK];exact hi);have q2:=hid j (by rw[uK];exact hj);rw[ei]at q1;rw[ej]at q2;rw[if_neg (Ne.symm q2),if_neg (Ne.symm q1)];refine h.gone id λk hk e=>?_
  have q3:=hid k (by rw[uK];exact hk);rw[at' k]at q3
  by_cases k1:k=j
  ·subst k1;exact q1 e
  ·rw[if_neg k1]at q3
   by_cases k2:k=i
   ·subst k2;exact q2 e
   ·rw[if_neg k2]at q3;exact q3 e
theorem X9(l:zG Int)(x:Int × Int)(k:Nat)(hk:k<l.length):zB (l++[x]) k=zB l k:=by
 unfold zB;rw[Aa,Aa,Al hk]
theorem VL(l:zG Int)(x:Int × Int):zB (l++[x]) l.length=x:=by simp[zB]
theorem PosOk.push{g:Int->Option Nat}{l:zG Int}(h:PosOk g l)(x:Int × Int)(hx:g x.1=none):PosOk (qO g x.1 (some l.length)) (l++[x]):=by
 refine⟨λk hk=>?_,λid hid=>?_⟩
 ·simp only[Ar,Ae,Ah,AR]at hk;unfold qO
  by_cases k1:k=l.length
  ·subst k1;rw[VL,if_pos rfl]
  ·have hk':k<l.length:=by omega
   rw[X9 l x k hk',if_neg]
   ·exact h.here k hk'
   ·intro e;have:=h.here k hk';rw[e,hx]at this;cases this
 ·have q:=hid l.length (by simp);rw[VL]at q;unfold qO;rw[if_neg (Ne.symm q)];refine h.gone id λk hk=>?_
  have:=hid k (by simp;omega);rw[X9 l x k hk]at this;exact this
theorem PosOk.pop{g:Int->Option Nat}{l:zG Int}(x:Int × Int)(h:PosOk g (l++[x])):PosOk (qO g x.1 none) l:=by
 have hl:l.length<(l++[x]).length:=by simp
 refine⟨λk hk=>?_,λid hid=>?_⟩
 ·have hk':k<(l++[x]).length:=by simp;omega
  have:=h.here k hk';rw[X9 l x k hk]at this;unfold qO;rw[if_neg]
  ·exact this
  ·intro e;have:=h.inj hk' hl (by rw[X9 l x k hk,VL];exact e);omega
 ·unfold qO
  by_cases e:id=x.1
  ·rw[if_pos e]
  ·rw[if_neg e];refine h.gone id λk hk=>?_
   simp only[Ar,Ae,Ah,AR]at hk
   by_cases k1:k=l.length
   ·subst k1;rw[VL];exact Ne.symm e
   ·have hk':k<l.length:=by omega
    rw[X9 l x k hk'];exact hid k hk'
theorem Ze2 : JK prog 447 "Len" 413 := by intro v w; kernel_rfl
theorem Zbt : JK prog 447 "Less" 414 := by intro v w; kernel_rfl
theorem Zbu : JK prog 447 "Swap" 417 := by intro v w; kernel_rfl
theorem Zlw : JK prog 447 "Push" 416 := by intro v w; kernel_rfl
theorem Zlx : JK prog 447 "Pop" 415 := by intro v w; kernel_rfl
abbrev hI(hid hv:Nat):PV:=.ifc 447 (.ptr hid hv 0)
theorem HP.len{S:Store}{hid hv rid mid mv:Nat}{l:zG Int}(h:HP S hid hv rid mid mv l):l.length<=2147483648:=by obtain⟨g,h,_⟩:=h;exact h.len
theorem HP.cut{S T:Store}{hid hv rid mid mv:Nat}{l:zG Int}(h:HP T hid hv rid mid mv l):HP (cut S [hid,rid,mid] T) hid hv rid mid mv l:=by obtain⟨g,h,k⟩:=h;exact⟨g,h.cut,k⟩
theorem Ze3{S:Store}{hid hv rid mid mv:Nat}{l:zG Int}(h:HP S hid hv rid mid mv l):PCalls prog 413 [.ptr hid hv 0] S (λp S'=>p=zW l.length/\S'=S):=by
 obtain⟨g,h,_⟩:=h;exact Zlq h
theorem Zbv{S:Store}{hid hv rid mid mv:Nat}{l:zG Int}(h:HP S hid hv rid mid mv l)(i j:Nat)(hi:i<l.length)(hj:j<l.length):PCalls prog 414 [.ptr hid hv 0,zW i,zW j] S (λp S'=>p=wM (il yS (zB l i) (zB l j))/\S'=S):=by
 obtain⟨g,h,_⟩:=h;exact Zlr h i j hi hj
theorem Zbw{S:Store}{hid hv rid mid mv:Nat}{l:zG Int}(h:HP S hid hv rid mid mv l)(i j:Nat)(hi:i<l.length)(hj:j<l.length):PCalls prog 417 [.ptr hid hv 0,zW i,zW j] S (λ_ S'=>Off S [hid,rid,mid] S'/\HP S' hid hv rid mid mv (swp l i j)):=by
 obtain⟨g,h,k⟩:=h;exact(Zls h i j hi hj).mono λp S' q=>⟨q.1,_,q.2,k.swp i j hi hj⟩
theorem Zly{S:Store}{hid hv rid mid mv:Nat}{l:zG Int}(h:HP S hid hv rid mid mv l)(x:Int × Int)(hx:∀i,i<l.length->(zB l i).1≠x.1)(hn:l.length+1<=2147483648):PCalls prog 416 [.ptr hid hv 0,.ifc 449 (.agg (yi x))] S (λ_ S'=>Off S [hid,rid,mid] S'/\HP S' hid hv rid mid mv (l++[x])):=by
 obtain⟨g,h,k⟩:=h;exact(Zlu h x hn).mono λp S' q=>⟨q.1,_,q.2,k.push x (k.gone _ hx)⟩
theorem Zlz{S:Store}{hid hv rid mid mv:Nat}{l:zG Int}(x:Int × Int)(h:HP S hid hv rid mid mv (l++[x])):PCalls prog 415 [.ptr hid hv 0] S (λp S'=>p=.ifc 449 (.agg (yi x))/\Off S [hid,rid,mid] S'/\HP S' hid hv rid mid mv l):=by
 obtain⟨g,h,k⟩:=h;exact(Zlv x h).mono λp S' q=>⟨q.1,q.2.1,_,q.2.2,k.pop x⟩
theorem ZlA(j:Nat):((j:Int)-1).tdiv 2=(zZ j:Nat):=by
 unfold zZ;cases j with
 | zero=>rfl
 | succ k=>simp
theorem Ze4{S:Store}{hid hv rid mid mv:Nat}{l:zG Int}(h:HP S hid hv rid mid mv l)(j:Nat)(hj:j<l.length):
  PCalls prog 377 [hI hid hv,zW j] S (λ_ S'=>Off S [hid,rid,mid] S'/\HP S' hid hv rid mid mv (wK yS (j+1) l j)):=by
 refine vu Tryz.func377 rfl Tryz.ntmps377 (congrArg Array.toList Tryz.results377) (by simp) ?_;refine zj (ZaQ (λF S' m=>∃(lc:zG Int) (jc:Nat),m=jc/\jc<lc.length/\F 0=hI hid hv/\F 1=zW jc/\Off S [hid,rid,mid] S'/\HP S' hid hv rid mid mv lc/\wK yS (jc+1) lc jc=wK yS (j+1) l j) j ⟨l,j,rfl,hj,rfl,rfl,λ_ _=>rfl,h,rfl⟩ ?_);rintro jc F T ⟨lc,_,rfl,hjc,f0,f1,hoff,hp,hup⟩;have hlen:=hp.len;have w1:IntKind.i64.wrap ((jc:Int)-1)=(jc:Int)-1:=ZQ _ (by omega) (by omega);have hpar:zZ jc<=jc:=by unfold zZ;omega
 have w2:IntKind.i64.wrap (zZ jc:Int)=zZ jc:=ZQ _ (by omega) (by omega);refine zj (za (yO [] (by rfl) λK hK=>?_));simp -implicitDefEqProofs [f0,f1,zW,w1,ZlA,w2];refine hK _ _ ?_;clear hK
 by_cases hc:zZ jc=jc
 ·refine za (za (yO [] (by rfl) λK hK=>?_));simp -implicitDefEqProofs [f0,f1,zW,hc];refine hK _ _ (zv rfl (λ_=>zy ?_) (λq=>by simp at q));refine⟨_,_,rfl,⟨ZW _ _ _,?_⟩,ZX hoff.offd⟩;rw[<-hup];unfold wK;rw[if_pos (.inl hc)];exact hp.cut
 ·refine za (za (yO [] (by rfl) λK hK=>?_));have hc':¬((zZ jc:Nat):Int)=jc:=by omega
  simp -implicitDefEqProofs [f0,f1,zW,hc,hc'];refine ZS rfl rfl rfl Zbt Zbh (by exact Zbv hp jc (zZ jc) hjc (by omega)) λp S' hq=>?_
  obtain⟨rfl,rfl⟩:=hq;simp -implicitDefEqProofs [wM];refine hK _ _ ?_;clear hK;cases hl:il yS (zB lc jc) (zB lc (zZ jc)) with
  | false =>
   refine zv rfl (λ_=>zy ?_) (λq=>by simp at q);refine⟨_,_,rfl,⟨ZW _ _ _,?_⟩,ZX hoff.offd⟩;rw[<-hup];unfold wK;rw[if_pos (.inr hl)];exact hp.cut
  | true =>
   refine zv rfl (λq=>by simp at q) (λ_=>zh (za (yO [] (by rfl) λK hK=>?_)));simp -implicitDefEqProofs [f0,f1,zW];refine ZS rfl rfl rfl Zbu Zbi (by exact Zbw hp (zZ jc) jc (by omega) hjc) λp S' hq=>?_
   obtain⟨hq1,hq2⟩:=hq;refine hK _ _ ?_;clear hK;refine qA (by rfl) (by simp;rfl) ?_;refine⟨zZ jc,⟨swp lc (zZ jc) jc,zZ jc,rfl,by rw[uK];omega,f0,by rfl,hoff.trans hq1,hq2,?_⟩,by omega⟩;rw[<-hup]
   conv=>rhs;unfold wK
   rw[if_neg (by rintro(e | e);exact hc e;rw[hl]at e;cases e)];exact Zjh _ _ _ _ (by omega) (by unfold zZ at *;omega)
theorem ZlB{S:Store}{hid hv rid mid mv:Nat}{l:zG Int}(h:HP S hid hv rid mid mv l)(i n:Nat)(hi:i<n)(hn:n<=l.length):
  PCalls prog 380 [hI hid hv,zW i,zW n] S (λp S'=>p=wM (decide (i<(qf yS n l i n).2))/\Off S [hid,rid,mid] S'/\HP S' hid hv rid mid mv (qf yS n l i n).1):=by
 refine vu Tryz.func380 rfl Tryz.ntmps380 (congrArg Array.toList Tryz.results380) (by simp) ?_;refine za (qA (by rfl) (by simp;rfl) (za (qA (by rfl) (by simp;rfl) (za ?_))));refine XN (Q:=λe F T=>e=.normal/\F 1=zW i/\F 7=zW (qf yS n l i n).2/\Off S [hid,rid,mid] T/\HP T hid hv rid mid mv (qf yS n l i n).1) (zj (ZaQ (λF S' m=>∃(lc:zG Int) (ic:Nat),m=n-ic/\ic<n/\n<=lc.length/\F 0=hI hid hv/\F 1=zW i/\F 2=zW n/\F 7=zW ic/\Off S [hid,rid,mid] S'/\HP S' hid hv rid mid mv lc/\qf yS n lc ic n=qf yS n l i n) (n-i) ⟨l,i,rfl,hi,hn,rfl,rfl,rfl,rfl,λ_ _=>rfl,h,rfl⟩ ?_)) ?_
 rotate_left
 ·rintro e F T ⟨rfl,f1,f7,hoff,hp⟩;refine za (yO [] (by rfl) λK hK=>?_);simp -implicitDefEqProofs [f1,f7,zW];refine hK _ _ (zg ⟨_,_,rfl,⟨?_,ZW _ _ _,hp.cut⟩,ZX hoff.offd⟩);simp[wM]
 rintro _ F T ⟨lc,ic,rfl,hic,hnl,f0,f1,f2,f7,hoff,hp,hdown⟩;have hlen:=hp.len;have w1:IntKind.i64.wrap (2*(ic:Int))=2*(ic:Int):=ZQ _ (by omega) (by omega);have w2:IntKind.i64.wrap (2*(ic:Int)+1)=((2*ic+1:Nat):Int):=by rw[ZQ _ (by omega) (by omega)];omega
 have w3:IntKind.i64.wrap (((2*ic+1:Nat):Int)+1)=((2*ic+2:Nat):Int):=by rw[ZQ _ (by omega) (by omega)];omega
 refine zj (za (yO [] (by rfl) λK hK=>?_));simp -implicitDefEqProofs only [f0,f1,f7,zW,w1,w2];generalize hk1:2*ic+1=k1 at w2 w3;simp -implicitDefEqProofs [f0,f1,f7,zW,w1,w2];refine hK _ _ ?_;clear hK
 by_cases hc:n<=k1
 ·refine za (za (yO [] (by rfl) λK hK=>?_));have hc':(n:Int)<=k1:=by omega
  simp -implicitDefEqProofs [f0,f1,f2,f7,zW,hc,hc'];refine hK _ _ (zv rfl (λ_=>zy ?_) (λq=>by simp at q));have hd:qf yS n lc ic n=(lc,ic):=by
   cases n with
   | zero=>omega
   | succ n=>unfold qf;rw[if_pos (by omega)]
  rw[hdown]at hd;refine⟨rfl,f1,?_,hoff,?_⟩
  ·rw[hd];exact f7
  ·rw[hd];exact hp
 ·refine za (za (yO [] (by rfl) λK hK=>?_));have hc':¬(n:Int)<=k1:=by omega
  have hc2:¬(k1:Int)<0:=by omega
  simp -implicitDefEqProofs [f0,f1,f2,f7,zW,hc',hc2];refine hK _ _ (zv rfl (λq=>by simp at q) (λ_=>zh ?_));clear hK;refine za (qA (by rfl) (by simp;rfl) ?_);obtain⟨c1,c2,c3,c4,c5⟩:=Zdy Zl lc ic n (by omega);have hkd:jD yS lc ic n<lc.length:=by omega
  refine za (XN (Q:=λe F' T'=>e=.normal/\T'=T/\F' 0=hI hid hv/\F' 1=zW i/\F' 2=zW n/\F' 7=zW ic/\F' 9=zW (jD yS lc ic n)) ?_ ?_)
  ·generalize hk2:2*ic+2=k2 at w3;refine za (yO [] (by rfl) λK hK=>?_);simp -implicitDefEqProofs [f0,f1,f2,f7,zW,w3];refine hK _ _ ?_;clear hK
   by_cases h2:k2<n
   ·refine za (yO [] (by rfl) λK hK=>?_);have h2':(k2:Int)<n:=by omega
    simp -implicitDefEqProofs [f0,f1,f2,f7,zW,h2,h2'];refine ZS rfl rfl rfl Zbt Zbh (by exact Zbv hp k2 k1 (by omega) (by omega)) λp S' hq=>?_
    obtain⟨rfl,rfl⟩:=hq;simp -implicitDefEqProofs [wM];refine hK _ _ ?_;clear hK;cases hl:il yS (zB lc k2) (zB lc k1) with
    | true =>
     refine zv rfl (λ_=>qA (by rfl) (by simp;rfl) ?_) (λq=>by simp at q);refine⟨rfl,rfl,f0,f1,f2,f7,?_⟩;unfold jD;rw[hk1,hk2,if_pos ⟨h2,hl⟩];rfl
    | false =>
     refine zv rfl (λq=>by simp at q) (λ_=>zh ⟨rfl,rfl,f0,f1,f2,f7,?_⟩);unfold jD;rw[hk1,hk2,if_neg (by rw[hl];simp)];rfl
   ·refine za (yO [] (by rfl) λK hK=>?_);have h2':¬(k2:Int)<n:=by omega
    simp -implicitDefEqProofs [f0,f1,f2,f7,zW,h2,h2'];refine hK _ _ (zv rfl (λq=>by simp at q) (λ_=>zh ⟨rfl,rfl,f0,f1,f2,f7,?_⟩));unfold jD;rw[hk1,hk2,if_neg (λq=>h2 q.1)];rfl
  ·clear f0 f1 f2 f7 F;rintro e F S' ⟨rfl,rfl,f0,f1,f2,f7,f9⟩;have hstep:qf yS n lc ic n=if il yS (zB lc (jD yS lc ic n)) (zB lc ic)=false then (lc,ic) else qf yS n (swp lc ic (jD yS lc ic n)) (jD yS lc ic n) n:=by
    cases n with
    | zero=>omega
    | succ n =>
     conv=>lhs;unfold qf
     rw[if_neg (by omega)];split
     ·rfl
     ·exact Zjj _ _ _ _ _ (by omega) (by omega)
   rw[hdown]at hstep;generalize hkk:jD yS lc ic n=kk at *;refine za (za (yO [] (by rfl) λK hK=>?_));simp -implicitDefEqProofs [f0,f1,f2,f7,f9,zW];refine ZS rfl rfl rfl Zbt Zbh (by exact Zbv hp kk ic (by omega) (by omega)) λp S' hq=>?_
   obtain⟨rfl,rfl⟩:=hq;simp -implicitDefEqProofs [wM];refine hK _ _ ?_;clear hK;cases hl:il yS (zB lc kk) (zB lc ic) with
   | false =>
    rw[if_pos hl]at hstep;refine zv rfl (λ_=>zy ⟨rfl,f1,?_,hoff,?_⟩) (λq=>by simp at q)
    ·rw[hstep];exact f7
    ·rw[hstep];exact hp
   | true =>
    rw[if_neg (by rw[hl];simp)]at hstep;refine zv rfl (λq=>by simp at q) (λ_=>zh (za (yO [] (by rfl) λK hK=>?_)));simp -implicitDefEqProofs [f0,f1,f2,f7,f9,zW];refine ZS rfl rfl rfl Zbu Zbi (by exact Zbw hp ic kk (by omega) hkd) λp S' hq=>?_
    obtain⟨hq1,hq2⟩:=hq;refine hK _ _ ?_;clear hK;refine qA (by rfl) (by simp[f9];rfl) ?_;refine⟨n-kk,⟨swp lc ic kk,kk,rfl,c2,by rw[uK];exact hnl,f0,f1,f2,rfl,hoff.trans hq1,hq2,hstep.symm⟩,by omega⟩
end Go.Proofs.YtcocagkbfpgmiaaGreatDoor.Pv
namespace Go.Proofs.YtcocagkbfpgmiaaGreatDoor.Hp
section
variable {α:Type} [DecidableEq α] [Inhabited α] {lt:α->α->Bool}
def ZY(lt:α->α->Bool)(l:zG α)(i n:Nat):zG α:=if i<(qf lt n l i n).2 then (qf lt n l i n).1 else wK lt (i+1) (qf lt n l i n).1 i
theorem ZlC(h:Str lt)(l:zG α)(i n:Nat)(hn:n<=l.length)(hi:i<n)(inv:DownInv lt l n i):Zc lt (ZY lt l i n) n/\(ZY lt l i n).Perm l/\(ZY lt l i n).length=l.length/\∀k,n<=k->zB (ZY lt l i n) k=zB l k:=by
 obtain⟨q1,q2,q3,q4,q5,q6,q7⟩:=Zdz h n l n i hn hi (by omega) inv;unfold ZY;split
 ·rename_i hm;exact⟨q6 hm,q1,q2,q3⟩
 ·rename_i hm;obtain⟨r1,r2⟩:=q7 (by omega);rw[r1];exact Zdx h (i+1) l n i hn hi (by omega) ⟨r2,inv.kids⟩
theorem ZlD{l:zG α}(x:Int × α)(h:Zc lt l l.length):UpInv lt (l++[x]) (l.length+1) l.length:=by
 have ap:∀k,k<l.length->zB (l++[x]) k=zB l k:=λk hk=>by
  unfold zB;rw[Aa,Aa,Al hk]
 refine⟨λk k0 kn kj=>?_,λk k0 kn kp j0=>?_⟩
 ·have:=un k0;rw[ap k (by omega),ap (zZ k) (by omega)];exact h k k0 (by omega)
 ·have:=un k0;omega
theorem ZlE(hs:Str lt){l:zG α}(i n:Nat)(hi:i<n)(hn:n+1=l.length)(h:Zc lt l l.length):DownInv lt (swp l i n) n i:=by
 have at':=λk=>XI l i n k (by omega) (by omega)
 refine⟨λk k0 kn kp ki=>?_,λk k0 kn kp i0=>?_⟩
 ·have:=un k0;rw[at' k,at' (zZ k),if_neg (by omega),if_neg ki,if_neg (by omega),if_neg kp];exact h k k0 (by omega)
 ·have:=un k0;have:=un i0;rw[at' k,at' (zZ i),if_neg (by omega),if_neg (by omega),if_neg (by omega),if_neg (by omega)];have e1:=h k k0 (by omega);rw[kp]at e1;exact XJ hs e1 (h i i0 (by omega))
theorem ZlF{l:zG α}(n:Nat)(h:Zc lt l n):Zc lt (l.take n) n:=by
 intro k k0 kn;have:=un k0;have e:∀j,j<n->zB (l.take n) j=zB l j:=λj hj=>by
  unfold zB;rw[Aa,Aa,BL,if_pos hj]
 rw[e k kn,e (zZ k) (by omega)];exact h k k0 kn
end
theorem ZlG{α:Type}[Inhabited α](l:zG α)(n:Nat)(hn:n+1=l.length):l=l.take n++[zB l n]:=by
 apply A7;intro k;rw[List.getElem?_append]
 by_cases h1:k<n
 ·rw[if_pos (by simp;omega),BL,if_pos h1]
 ·rw[if_neg (by simp;omega)]
  by_cases h2:k=n
  ·subst h2;have:k<l.length:=by omega
   simp[zB,this,Bc (D0 this)]
  ·rw[Ai (by omega),Ai (by simp;omega)]
end Go.Proofs.YtcocagkbfpgmiaaGreatDoor.Hp
namespace Go.Proofs.YtcocagkbfpgmiaaGreatDoor.Pv
open Go Hp
def HH(S:Store)(hid hv rid mid mv:Nat)(l:zG Int):Prop:=HP S hid hv rid mid mv l/\Zc yS l l.length
theorem HH.cut{S T:Store}{hid hv rid mid mv:Nat}{l:zG Int}(h:HH T hid hv rid mid mv l):HH (cut S [hid,rid,mid] T) hid hv rid mid mv l:=⟨h.1.cut,h.2⟩
theorem ZlH{S:Store}{hid hv rid mid mv:Nat}{l:zG Int}(h:HH S hid hv rid mid mv l)(x:Int × Int)(hx:∀i,i<l.length->(zB l i).1≠x.1)(hn:l.length+1<=2147483648):
  PCalls prog 367 [hI hid hv,.ifc 449 (.agg (yi x))] S (λ_ S'=>Off S [hid,rid,mid] S'/\∃l',HH S' hid hv rid mid mv l'/\l'.Perm (x :: l)):=by
 obtain⟨hp,hh⟩:=h;refine vu Tryz.func367 rfl Tryz.ntmps367 (congrArg Array.toList Tryz.results367) (by simp) ?_;refine za (yO [] (by rfl) λK hK=>?_);simp -implicitDefEqProofs;refine ZS rfl rfl rfl Zlw ZkU (by exact Zly hp x hx hn) λp S1 hq=>?_
 obtain⟨o1,p1⟩:=hq;refine hK _ _ ?_;clear hK;refine yO [] (by rfl) λK hK=>?_
 simp -implicitDefEqProofs;refine ZS rfl rfl rfl Ze2 Zeu (by exact Ze3 p1) λp S2 hq=>?_
 obtain⟨rfl,rfl⟩:=hq;have w1:IntKind.i64.wrap (l.length:Int)=l.length:=ZQ _ (by omega) (by omega);simp -implicitDefEqProofs [zW,w1];obtain⟨q1,q2,q3,_⟩:=Zdx Zl (l.length+1) (l++[x]) (l.length+1) l.length (by simp) (by omega) (by omega) (ZlD x hh);refine QO rfl rfl rfl Zet (by exact Ze4 p1 l.length (by simp)) λp S3 hq=>?_
 obtain⟨o3,p3⟩:=hq;refine hK _ _ ⟨_,_,rfl,⟨ZW _ _ _,_,HH.cut ⟨p3,?_⟩,q2.trans (BQ (l₁:=l) (l₂:=[x]))⟩,ZX (o1.trans o3).offd⟩;rw[q3];simpa using q1
theorem ZlI{S:Store}{hid hv rid mid mv:Nat}{l:zG Int}(h:HH S hid hv rid mid mv l)(i:Nat)(hi:i<l.length):
  PCalls prog 378 [hI hid hv,zW i] S (λp S'=>p=.ifc 449 (.agg (yi (zB l i)))/\Off S [hid,rid,mid] S'/\∃l',HH S' hid hv rid mid mv l'/\(zB l i :: l').Perm l):=by
 obtain⟨hp,hh⟩:=h;have hlen:=hp.len;obtain⟨n,hn⟩:∃n,n+1=l.length:=⟨l.length-1,by omega⟩;refine vu Tryz.func378 rfl Tryz.ntmps378 (congrArg Array.toList Tryz.results378) (by simp) ?_;refine za (qA (by rfl) (by simp;rfl) (za (yO [] (by rfl) λK hK=>?_)));simp -implicitDefEqProofs;refine ZS rfl rfl rfl Ze2 Zeu (by exact Ze3 hp) λp S2 hq=>?_
 obtain⟨rfl,rfl⟩:=hq;have w1:IntKind.i64.wrap ((l.length:Int)-1)=n:=by rw[ZQ _ (by omega) (by omega)];omega
 simp -implicitDefEqProofs [zW,w1];refine hK _ _ ?_;clear hK;refine za (XN (Q:=λe F' T'=>e=.normal/\F' 0=hI hid hv/\Off S2 [hid,rid,mid] T'/\∃l3:zG Int,HP T' hid hv rid mid mv l3/\Zc yS l3 n/\l3.Perm l/\l3.length=l.length/\zB l3 n=zB l i) ?_ ?_)
 ·refine za (qA (by rfl) (by simp[zW];rfl) ?_)
  by_cases hc:n=i
  ·refine zv rfl (λq=>by simp[hc]at q) (λ_=>zh ⟨rfl,rfl,λ_ _=>rfl,l,hp,λk k0 kn=>hh k k0 (by omega),.refl _,rfl,by rw[hc]⟩)
  ·have hc':¬(n:Int)=i:=by omega
   refine zv rfl (λ_=>?_) (λq=>by simp[hc']at q);refine za (yO [] (by rfl) λK hK=>?_);simp -implicitDefEqProofs [zW];refine ZS rfl rfl rfl Zbu Zbi (by exact Zbw hp i n (by omega) (by omega)) λp S3 hq=>?_
   obtain⟨o3,p3⟩:=hq;refine hK _ _ ?_;clear hK;have inv:=ZlE Zl i n (by omega) hn hh;have hsl:=uK l i n;obtain⟨s1,s2,s3,s4⟩:=ZlC Zl (swp l i n) i n (by omega) (by omega) inv;have hlast:zB (ZY yS (swp l i n) i n) n=zB l i:=by rw[s4 n (Ag _),XI l i n n hi (by omega),if_pos rfl]
   refine za (yO [] (by rfl) λK hK=>?_);simp -implicitDefEqProofs [zW];refine QO rfl rfl rfl ZkS (by exact ZlB p3 i n (by omega) (by omega)) λp S4 hq=>?_
   obtain⟨rfl,o4,p4⟩:=hq;simp -implicitDefEqProofs [wM];refine hK _ _ ?_;clear hK
   by_cases hm:i<(qf yS n (swp l i n) i n).2
   ·refine zv rfl (λq=>by simp at q;omega) (λ_=>zh ⟨rfl,rfl,o3.trans o4,ZY yS (swp l i n) i n,?_,s1,s2.trans (WQ l _ _ hi (by omega)),s3.trans hsl,hlast⟩);unfold ZY;rw[if_pos hm];exact p4
   ·refine zv rfl (λ_=>?_) (λq=>by simp at q;omega);refine yO [] (by rfl) λK hK=>?_
    simp -implicitDefEqProofs [zW];have hdl:(qf yS n (swp l i n) i n).1.length=l.length:=((Zdz Zl n (swp l i n) n i (by omega) (by omega) (by omega) inv).2.1).trans hsl;refine QO rfl rfl rfl Zet (by exact Ze4 p4 i (by omega)) λp S5 hq=>?_
    obtain⟨o5,p5⟩:=hq;refine hK _ _ ⟨rfl,rfl,(o3.trans o4).trans o5,ZY yS (swp l i n) i n,?_,s1,s2.trans (WQ l _ _ hi (by omega)),s3.trans hsl,hlast⟩;unfold ZY;rw[if_neg hm];exact p5
 ·rintro e F T ⟨rfl,f0,hoff,l3,p3,h3,pm,hl3,hx⟩;have hsp:=ZlG l3 n (by omega);rw[hx]at hsp;rw[hsp]at p3 pm;refine za (yO [] (by rfl) λK hK=>?_);simp -implicitDefEqProofs [f0];refine ZS rfl rfl rfl Zlx ZkT (by exact Zlz _ p3) λp S4 hq=>?_
  obtain⟨rfl,o4,p4⟩:=hq;have hheap:Zc yS (l3.take n) (l3.take n).length:=by
   have e:(l3.take n).length=n:=by simp;omega
   rw[e];exact ZlF n h3
  refine hK _ _ (zg ⟨_,_,rfl,⟨rfl,ZW _ _ _,_,HH.cut ⟨p4,hheap⟩,?_⟩,ZX (hoff.trans o4).offd⟩);exact(BQ (l₁:=[zB l i]) (l₂:=l3.take n)).trans pm
open Go Hp
abbrev ww(a b:Int × Int):Bool:=il yS a b
def vW(r:zG Int):Prop:=r.Pairwise (λa b=>ww a b=true)
def ZZ(x:Int × Int):zG Int->zG Int
 | []=>[x]
 | y :: r=>if ww x y=true then x :: y :: r else y :: ZZ x r
def YC(id:Int)(r:zG Int):zG Int:=r.filter λx=>decide (x.1≠id)
def j6(id:Int)(r:zG Int):Bool:=r.any λx=>decide (x.1=id)
theorem Wa(x:Int × Int):∀r,(ZZ x r).Perm (x :: r)
 | []=>.refl _
 | y :: r=>by
  unfold ZZ;split
  ·exact .refl _
  ·exact((Wa x r).cons y).trans (.swap x y r)
theorem ZlJ{a b c:Int × Int}(h1:ww a b=true)(h2:ww b c=true):ww a c=true:=(Ys Zl).tr _ _ _ h1 h2
theorem ZlK{a b:Int × Int}(h:ww a b=false)(hne:a.1≠b.1):ww b a=true:=by
 cases hq:ww b a with
 | true=>rfl
 | false=>exact absurd (congrArg Prod.fst ((Ys Zl).tot _ _ h hq)) hne
theorem Ze5(x:Int × Int):∀r,vW r->(∀y∈r,y.1≠x.1)->vW (ZZ x r)
 | [],_,_=>by simp[ZZ,vW]
 | y :: r,h,hx=>by
  unfold ZZ;have h':=Bl.1 h;split
  ·rename_i hl;refine Bl.2 ⟨λz hz=>?_,h⟩;rcases Aq.1 hz with rfl | hz
   ·exact hl
   ·exact ZlJ hl (h'.1 z hz)
  ·rename_i hl;have hl':ww x y=false:=by simpa using hl
   refine Bl.2 ⟨λz hz=>?_,Ze5 x r h'.2 λz hz=>hx z (CD _ hz)⟩;rcases Aq.1 ((Wa x r).subset hz) with rfl | hz
   ·exact ZlK hl' (Ne.symm (hx y (by simp)))
   ·exact h'.1 z hz
theorem ZlL(id:Int)(r:zG Int)(h:vW r):vW (YC id r):=List.Pairwise.filter _ h
def HM(S:Store)(hid hv rid mid mv:Nat)(r:zG Int):Prop:=∃l,HH S hid hv rid mid mv l/\l.Perm r/\vW r
theorem HM.cut{S T:Store}{hid hv rid mid mv:Nat}{r:zG Int}(h:HM T hid hv rid mid mv r):HM (cut S [hid,rid,mid] T) hid hv rid mid mv r:=by obtain⟨l,h,k⟩:=h;exact⟨l,h.cut,k⟩
theorem Zbx{l:zG Int}{i:Nat}(hi:i<l.length):zB l i∈l:=by
 have:zB l i=l[i]:=by unfold zB;simp[hi]
 rw[this];exact Bh hi
theorem Zby{l:zG Int}{x:Int × Int}(h:x∈l):∃i,i<l.length/\zB l i=x:=by
 obtain⟨i,hi,rfl⟩:=List.getElem_of_mem h;exact⟨i,hi,by unfold zB;simp[hi]⟩
theorem HS.look{S:Store}{hid hv rid mid mv:Nat}{l:zG Int}{g:Int->Option Nat}(h:HS S hid hv rid mid mv l g)(k:PosOk g l)(id:Int):∃es res,S mid=.map mv es/\qX (.int .i64) (qJ id) es 0=some res /\
  ((j6 id l=false/\ZR true (.int .i64 0) res=.tup [zW 0,.sc (.bool false)])\/(j6 id l=true/\∃i,i<l.length/\(zB l i).1=id/\ZR true (.int .i64 0) res=.tup [zW i,.sc (.bool true)])):=by
 obtain⟨es,h3,h4⟩:=h.m;obtain⟨res,m1,m2,m3,_,_⟩:=h4.find (QX .i64) id;refine⟨es,res,h3,m1,?_⟩
 by_cases hi:∃i,i<l.length/\(zB l i).1=id
 ·obtain⟨i,hi,e⟩:=hi;refine .inr ⟨?_,i,hi,e,?_⟩
  ·simp only[j6,BY];exact⟨_,Zbx hi,by simpa using e⟩
  ·obtain⟨j,rfl⟩:=m3 i (by rw[<-e];exact k.here i hi);rfl
 ·refine .inl ⟨?_,?_⟩
  ·simp only[j6,Cp];intro x hx;obtain⟨i,hi',rfl⟩:=Zby hx;simp;exact λe=>hi ⟨i,hi',e⟩
  ·have:=m2 (k.gone id λi hi' e=>hi ⟨i,hi',e⟩);subst this;rfl
theorem Zbz{id:Int}{l r:zG Int}(h:l.Perm r):j6 id l=j6 id r:=by
 unfold j6;rw[DK,BY,BY];exact⟨λ⟨x,hx,e⟩=>⟨x,h.subset hx,e⟩,λ⟨x,hx,e⟩=>⟨x,h.symm.subset hx,e⟩⟩
theorem ZlM{S:Store}{hid hv rid mid mv:Nat}{r:zG Int}(h:HM S hid hv rid mid mv r)(id w:Int)(hn:r.length+1<=2147483648):
  PCalls prog 348 [.ptr hid hv 0,zW id,zW w] S (λp S'=>p=wM (!j6 id r)/\Off S [hid,rid,mid] S'/\HM S' hid hv rid mid mv (bif j6 id r then r else ZZ (id,w) r)):=by
 obtain⟨l,⟨hp,hh⟩,pm,hs⟩:=h;have hp0:=hp;obtain⟨g,hS,hk⟩:=hp0;obtain⟨ver,h1,cs,h2,hR⟩:=hS.h;obtain⟨es,res,h3,h4,h5⟩:=hS.look hk id;refine vu Tryz.func348 rfl Tryz.ntmps348 (congrArg Array.toList Tryz.results348) (by simp) ?_;refine za (qA (by rfl) (by simp;rfl) (za (za (yO [] (by rfl) λK hK=>?_))));simp -implicitDefEqProofs [h1];refine Zh rfl Tryz.underlying384 Tryz.underlying3 rfl rfl rfl h3 h4 (by simp;rfl) ?_;rcases h5 with ⟨h5,h6⟩ | ⟨h5,i,hi,hid,h6⟩
 ·rw[h6];simp -implicitDefEqProofs;refine hK _ _ ?_;clear hK;refine za (qA (by rfl) (by simp;rfl) (zv rfl (λq=>by simp at q) (λ_=>zh ?_)));refine za (yO [] (by rfl) λK hK=>?_);simp -implicitDefEqProofs [zW];have hx:∀i,i<l.length->(zB l i).1≠id:=by
   intro i hi e;have:j6 id l=true:=by
    simp only[j6,BY];exact⟨_,Zbx hi,by simpa using e⟩
   rw[h5]at this;cases this
  refine QO rfl rfl rfl ZkO (by exact ZlH ⟨hp,hh⟩ (id,w) hx (by rw[pm.length_eq];exact hn)) λp S3 hq=>?_
  obtain⟨o3,l',hh',pm'⟩:=hq;refine hK _ _ ?_;clear hK;refine za (qA (by rfl) (by simp;rfl) (zg ?_));rw[<-Zbz pm,h5];refine⟨_,_,rfl,⟨rfl,ZW _ _ _,HM.cut ⟨l',hh',pm'.trans (((List.Perm.cons _ pm)).trans (Wa _ _).symm),Ze5 _ _ hs λy hy e=>?_⟩⟩,ZX o3.offd⟩;obtain⟨j,hj,rfl⟩:=Zby (pm.symm.subset hy);exact hx j hj e
 ·rw[h6];simp -implicitDefEqProofs;refine hK _ _ ?_;clear hK;refine za (qA (by rfl) (by simp;rfl) (zv rfl (λ_=>?_) (λq=>by simp at q)));refine za (qA (by rfl) (by simp;rfl) (zg ?_));rw[<-Zbz pm,h5];exact⟨_,_,rfl,⟨rfl,λ_ _=>rfl,⟨l,⟨hp,hh⟩,pm,hs⟩⟩,λo=>.inl rfl⟩
open Go Hp
def Once(r:zG Int):Prop:=(r.map (·.1)).Nodup
theorem HP.once{S:Store}{hid hv rid mid mv:Nat}{l:zG Int}(h:HP S hid hv rid mid mv l):Once l:=by
 obtain⟨g,_,k⟩:=h;unfold Once;refine BD.2 λi j hi hj hij e=>?_
 simp only[List.length_map]at hi hj;simp only[BX]at e;have q:∀i (hi:i<l.length),zB l i=l[i]:=λi hi=>by unfold zB;simp[hi]
 have:=k.inj hi hj (by rw[q i hi,q j hj];exact e);omega
theorem Once.perm{l r:zG Int}(h:l.Perm r)(k:Once l):Once r:=(List.Perm.nodup_iff (h.map λx:Int × Int=>x.1)).1 k
theorem HM.once{S:Store}{hid hv rid mid mv:Nat}{r:zG Int}(h:HM S hid hv rid mid mv r):Once r:=by
 obtain⟨l,⟨hp,_⟩,pm,_⟩:=h;exact hp.once.perm pm
theorem Ze6{x:Int × Int}{l:zG Int}(h:Once (x :: l)):YC x.1 (x :: l)=l:=by
 unfold YC;rw[Cd,if_neg (by simp),Dd];intro y hy;simp only[decide_eq_true_eq];intro e;have:=(CA.1 (show (x.1 :: l.map (·.1)).Nodup from h)).1;exact this (An.2 ⟨y,hy,e⟩)
theorem ZlN{l r:zG Int}(id:Int)(h:l.Perm r):(YC id l).Perm (YC id r):=h.filter _
theorem ZlO{id:Int}{l:zG Int}(h:j6 id l=false):YC id l=l:=by
 unfold YC;rw[Dd];intro y hy;simp only[j6,Cp]at h;simpa using h y hy
theorem ZlP{S:Store}{hid hv rid mid mv:Nat}{r:zG Int}(h:HM S hid hv rid mid mv r)(id:Int):
  PCalls prog 369 [.ptr hid hv 0,zW id] S (λp S'=>p=wM (j6 id r)/\Off S [hid,rid,mid] S'/\HM S' hid hv rid mid mv (YC id r)):=by
 have hM:=h;obtain⟨l,⟨hp,hh⟩,pm,hs⟩:=h;have hp0:=hp;obtain⟨g,hS,hk⟩:=hp0;obtain⟨ver,h1,cs,h2,hR⟩:=hS.h;obtain⟨es,res,h3,h4,h5⟩:=hS.look hk id;refine vu Tryz.func369 rfl Tryz.ntmps369 (congrArg Array.toList Tryz.results369) (by simp) ?_;refine za (qA (by rfl) (by simp;rfl) (za (yO [] (by rfl) λK hK=>?_)));simp -implicitDefEqProofs [h1];refine Zh rfl Tryz.underlying384 Tryz.underlying3 rfl rfl rfl h3 h4 (by simp;rfl) ?_;rw[Zbz pm]at h5;rcases h5 with ⟨h5,h6⟩ | ⟨h5,i,hi,hid,h6⟩
 ·rw[h6];simp -implicitDefEqProofs;refine hK _ _ ?_;clear hK;refine za (za (qA (by rfl) (by simp;rfl) (zv rfl (λ_=>?_) (λq=>by simp at q))));refine za (qA (by rfl) (by simp;rfl) (zg ?_));rw[h5,ZlO h5];exact⟨_,_,rfl,⟨rfl,λ_ _=>rfl,hM⟩,λo=>.inl rfl⟩
 ·rw[h6];simp -implicitDefEqProofs [zW];refine hK _ _ ?_;clear hK;refine za (za (qA (by rfl) (by simp;rfl) (zv rfl (λq=>by simp at q) (λ_=>zh ?_))));refine za (yO [] (by rfl) λK hK=>?_);simp -implicitDefEqProofs;refine QO rfl rfl rfl ZkR (by exact ZlI ⟨hp,hh⟩ i hi) λp S3 hq=>?_
  obtain⟨_,o3,l',hh',pm'⟩:=hq;refine hK _ _ ?_;clear hK;refine za (qA (by rfl) (by simp;rfl) (zg ?_));rw[h5];have e1:YC id (zB l i :: l')=l':=by rw[<-hid];exact Ze6 (Once.perm pm'.symm hp.once)
  refine⟨_,_,rfl,⟨rfl,ZW _ _ _,HM.cut ⟨l',hh',?_,ZlL id r hs⟩⟩,ZX o3.offd⟩;have:=ZlN id (pm'.trans pm);rw[e1]at this;exact this
end Go.Proofs.YtcocagkbfpgmiaaGreatDoor.Pv
namespace Go.Proofs.YtcocagkbfpgmiaaGreatDoor.Hp
section
variable {α:Type} [DecidableEq α] [Inhabited α] {lt:α->α->Bool}
theorem ZlQ(hs:Str lt){l:zG α}(h:Zc lt l l.length):∀k,k<l.length->il lt (zB l k) (zB l 0)=false:=by
 intro k
 induction k using Nat.strongRecOn with
 | _ k ih =>
  intro hk;rcases BR k with e | e
  ·subst e;exact(Ys hs).irr _
  ·have:=un e;exact XJ hs (h k e hk) (ih (zZ k) this (by omega))
end
end Go.Proofs.YtcocagkbfpgmiaaGreatDoor.Hp
namespace Go.Proofs.YtcocagkbfpgmiaaGreatDoor.Pv
open Go Hp
theorem HM.root{S:Store}{hid hv rid mid mv:Nat}{x:Int × Int}{r:zG Int}{l:zG Int}(h:HH S hid hv rid mid mv l)(pm:l.Perm (x :: r))(hs:vW (x :: r)):zB l 0=x:=by
 have hl:0<l.length:=by rw[pm.length_eq];simp
 obtain⟨k,hk,e⟩:=Zby (pm.symm.subset (Cb));have h1:=ZlQ Zl h.2 k hk;rw[e]at h1;rcases Aq.1 (pm.subset (Zbx hl)) with h2 | h2
 ·exact h2
 ·have:=(Bl.1 hs).1 _ h2;rw[show ww x (zB l 0)=false from h1]at this;cases this
def QY:zG Int->PV
 | []=>.tup [zW 0,zW 0,wM false]
 | x :: _=>.tup [zW x.1,zW x.2,wM true]
theorem ZlR{S:Store}{hid hv rid mid mv:Nat}{r:zG Int}(h:HM S hid hv rid mid mv r):
  PCalls prog 368 [.ptr hid hv 0] S (λp S'=>p=QY r/\S'=S):=by
 obtain⟨l,hh,pm,hs⟩:=h;have hp:=hh.1;obtain⟨g,hS,hk⟩:=hp;obtain⟨ver,h1,cs,h2,hR⟩:=hS.h;refine vu Tryz.func368 rfl Tryz.ntmps368 (congrArg Array.toList Tryz.results368) (by simp) ?_;refine za (qA (by rfl) (by simp;rfl) (za (za (yO [] (by rfl) λK hK=>?_))));simp -implicitDefEqProofs [h1];refine hK _ _ ?_;clear hK;cases r with
 | nil =>
  have hl:l.length=0:=by rw[pm.length_eq];rfl
  refine zv rfl (λ_=>?_) (λq=>by simp at q;exact absurd (Aw hl) q);refine za (qA (by rfl) (by simp;rfl) (za (qA (by rfl) (by simp;rfl) (zg ?_))));exact⟨_,S,rfl,⟨rfl,rfl⟩,λo=>.inl rfl⟩
 | cons x r =>
  have hl:0<l.length:=by rw[pm.length_eq];simp
  have hx:=HM.root hh pm hs;obtain⟨tl,e1⟩:=hR.at 0 hl;rw[hx]at e1;simp at e1;refine zv rfl (λq=>by simp at q;subst q;simp at hl) (λ_=>zh ?_);refine za (yO [] (by rfl) λK hK=>?_);have hl':0<l.length:=hl;simp -implicitDefEqProofs [h1,h2,hl',e1];refine QR rfl (by simp;rfl) (by simp) λa ha=>?_
  simp -implicitDefEqProofs;refine hK _ _ ?_;clear hK;refine za (ZjS mixed (by rfl) (by rfl) (by rfl) (by simp;rfl) (zg ?_));refine⟨_,S,rfl,⟨rfl,rfl⟩,λo=>?_⟩
  by_cases e:o=a
  ·exact .inr (e ▸ ha)
  ·exact .inl (by rw[je _ _ _ _ e])
theorem ZlS{S:Store}{hid hv rid mid mv:Nat}{r:zG Int}(h:HM S hid hv rid mid mv r):
  PCalls prog 349 [.ptr hid hv 0] S (λp S'=>p=QY r/\Off S [hid,rid,mid] S'/\HM S' hid hv rid mid mv r.tail):=by
 refine vu Tryz.func349 rfl Tryz.ntmps349 (congrArg Array.toList Tryz.results349) (by simp) ?_;refine za (qA (by rfl) (by simp;rfl) (za (yO [] (by rfl) λK hK=>?_)));simp -implicitDefEqProofs;refine QO rfl rfl rfl ZkP (by exact ZlR h) λp S2 hq=>?_
 obtain⟨rfl,rfl⟩:=hq;cases r with
 | nil =>
  simp -implicitDefEqProofs [QY];refine hK _ _ ?_;clear hK;refine za (za (qA (by rfl) (by simp;rfl) (zv rfl (λq=>by simp at q) (λ_=>zh ?_))));refine za (qA (by rfl) (by simp;rfl) (zg ?_));exact⟨_,S2,rfl,⟨rfl,λ_ _=>rfl,h⟩,λo=>.inl rfl⟩
 | cons x r =>
  simp -implicitDefEqProofs [QY];refine hK _ _ ?_;clear hK;refine za (za (qA (by rfl) (by simp;rfl) (zv rfl (λ_=>?_) (λq=>by simp at q))));refine yO [] (by rfl) λK hK=>?_
  simp -implicitDefEqProofs;refine QO rfl rfl rfl ZkQ (by exact ZlP h x.1) λp S3 hq=>?_
  obtain⟨_,o3,h3⟩:=hq;refine hK _ _ ?_;clear hK;refine za (qA (by rfl) (by simp;rfl) (zg ?_));rw[Ze6 h.once]at h3;exact⟨_,S3,rfl,⟨rfl,o3,h3⟩,λo=>.inl rfl⟩
open Go Hp
theorem HM.congr{S T:Store}{hid hv rid mid mv:Nat}{r:zG Int}(h:HM S hid hv rid mid mv r)(e:∀o∈[hid,rid,mid],T o=S o):HM T hid hv rid mid mv r:=by
 obtain⟨l,⟨⟨g,h,k⟩,hh⟩,pm,hs⟩:=h;exact⟨l,⟨⟨g,h.congr e,k⟩,hh⟩,pm,hs⟩
def HX(o:Ob × Ob × Ob)(a hv mv:Nat)(r:zG Int):Prop:=∀S:Store,S a=o.1->S (a+1)=o.2.1->S (a+2)=o.2.2->HM S (a+1) hv (a+2) a mv r
def Z0(obs:List Ob)(j:Nat)(o:Ob × Ob × Ob):List Ob:=((obs.set j o.1).set (j+1) o.2.1).set (j+2) o.2.2
theorem HM.hx{S:Store}{a hv mv:Nat}{r:zG Int}(h:HM S (a+1) hv (a+2) a mv r):HX (S a,S (a+1),S (a+2)) a hv mv r:=by
 intro T h1 h2 h3;refine h.congr λo ho=>?_
 simp at ho;rcases ho with rfl | rfl | rfl
 ·exact h2
 ·exact h3
 ·exact h1
theorem HX.hm{S:Store}{nx j hv mv:Nat}{obs:List Ob}{o:Ob × Ob × Ob}{r:zG Int}(h:HX o (nx+j) hv mv r)(h1:obs[j]?=some o.1)(h2:obs[j+1]?=some o.2.1)(h3:obs[j+2]?=some o.2.2):HM (ext S nx obs) (nx+j+1) hv (nx+j+2) (nx+j) mv r:=by
 refine h _ ?_ ?_ ?_
 ·rw[zU,Aa,h1];rfl
 ·rw[Nat.add_assoc,zU,Aa,h2];rfl
 ·rw[Nat.add_assoc,zU,Aa,h3];rfl
theorem ZlT{S T:Store}{nx j:Nat}{obs:List Ob}(h:Off (ext S nx obs) [nx+j+1,nx+j+2,nx+j] T)(hl:j+2<obs.length):T=ext S nx (Z0 obs j (T (nx+j),T (nx+j+1),T (nx+j+2))):=by
 funext i
 by_cases h1:i=nx+j
 ·subst h1;rw[zU,Aa,Z0,AP (by omega),AP (by omega),AX (by omega)];rfl
 by_cases h2:i=nx+j+1
 ·subst h2;rw[Nat.add_assoc,zU,Aa,Z0,AP (by omega),AX (by simp;omega)];rfl
 by_cases h3:i=nx+j+2
 ·subst h3;rw[Nat.add_assoc,zU,Aa,Z0,AX (by simp;omega)];rfl
 rw[h i (by simp;omega)];simp only[ext];split
 ·rfl
 ·rw[Aa,Aa,Z0,AP (by omega),AP (by omega),AP (by omega)]
section
variable {S:Store} {nx j hv mv:Nat} {obs:List Ob} {o:Ob × Ob × Ob} {r:zG Int}
theorem Ze7{f:FuncId}{args:List PV}{q:PV}{r':zG Int}(he:qj prog f)(hl:j+2<obs.length)
  (h:PCalls prog f args (ext S nx obs) (λp T=>p=q/\Off (ext S nx obs) [nx+j+1,nx+j+2,nx+j] T/\HM T (nx+j+1) hv (nx+j+2) (nx+j) mv r')) :
  Spec prog f args (ext S nx obs) (λp T=>p=q/\∃o',HX o' (nx+j) hv mv r'/\T=ext S nx (Z0 obs j o')):=by
 refine⟨he,h.mono ?_⟩;rintro p T ⟨h1,h2,h3⟩;exact⟨h1,_,h3.hx,ZlT h2 hl⟩
variable (h:HX o (nx+j) hv mv r) (h1:obs[j]?=some o.1) (h2:obs[j+1]?=some o.2.1) (h3:obs[j+2]?=some o.2.2)
include h h1 h2 h3
theorem Ze8(id w:Int)(hn:r.length+1<=2147483648):Spec prog 348 [.ptr (nx+j+1) hv 0,I id,I w] (ext S nx obs) (λp T=>p=B (!j6 id r)/\∃o',HX o' (nx+j) hv mv (bif j6 id r then r else ZZ (id,w) r)/\T=ext S nx (Z0 obs j o')) :=
 Ze7 ZkM (Ac.1 h3).1 (ZlM (h.hm h1 h2 h3) id w hn)
theorem ZlU:Spec prog 349 [.ptr (nx+j+1) hv 0] (ext S nx obs) (λp T=>p=QY r/\∃o',HX o' (nx+j) hv mv r.tail/\T=ext S nx (Z0 obs j o')) :=
 Ze7 ZkN (Ac.1 h3).1 (ZlS (h.hm h1 h2 h3))
end
theorem ZlV{S:Store}{nx:Nat}{obs:List Ob}:Spec prog 346 [] (ext S nx obs) (λp T=>∃hv mv o,p=.ptr (nx+obs.length+1) hv 0/\HX o (nx+obs.length) hv mv []/\T=ext S nx (obs++[o.1,o.2.1,o.2.2])):=by
 have hd:=jF (S:=S) (nx:=nx) (obs:=obs);have e:∀o:Ob × Ob × Ob,ext S nx (obs++[o.1,o.2.1,o.2.2])=ext (ext S nx obs) (nx+obs.length) [o.1,o.2.1,o.2.2]:=by
  intro o;have p1:=qN (S:=S) (nx:=nx) (obs:=obs) o.1;have p2:=qN (S:=S) (nx:=nx) (obs:=obs++[o.1]) o.2.1;have p3:=qN (S:=S) (nx:=nx) (obs:=obs++[o.1]++[o.2.1]) o.2.2;have q0:=qB hd;have q1:=qN (S:=ext S nx obs) (nx:=nx+obs.length) (obs:=[]) o.1;have q2:=qN (S:=ext S nx obs) (nx:=nx+obs.length) (obs:=[o.1]) o.2.1;have q3:=qN (S:=ext S nx obs) (nx:=nx+obs.length) (obs:=[o.1,o.2.1]) o.2.2;simp only[Ar,Ae,Ah,List.append_assoc,List.cons_append,AS,Bm,AR]at p1 p2 p3 q1 q2 q3;rw[<-p3,<-p2,<-p1,<-q3,<-q2,<-q1,q0];simp only[Nat.add_assoc]
 generalize ext S nx obs=S1 at *;generalize nx+obs.length=m at *;refine ut hd Tryz.func346 Tryz.ntmps346 Tryz.results346 ?_;refine za (zb ?_);refine za (zb ?_);intro mv hv;refine jg 1 0 449 2 rfl rfl λrv=>?_
 refine zg ⟨_,_,rfl,⟨hv,mv,(.map mv [],.cells hv 445 [.sl (m+2) rv 2 0 0,.mp m mv],.cells rv 449 []),rfl,?_,(e _).symm⟩,λo=>.inl (by simp)⟩;intro T h1 h2 h3;refine⟨[],⟨⟨λ_=>none,⟨⟨rv,h2,[],h3,[],rfl⟩,⟨[],h1,ZeY _ _⟩,⟨by omega,by omega,by omega⟩,by simp⟩,⟨λi hi=>by simp at hi,λ_ _=>rfl⟩⟩,λk k0 kn=>by simp at kn⟩,.refl _,by simp[vW]⟩
open Go Hp
@[simp] theorem ZxG(a b c:Ob)(l:List Ob)(o:Ob × Ob × Ob):Z0 (a :: b :: c :: l) 0 o=o.1 :: o.2.1 :: o.2.2 :: l:=rfl
open Go Hp
instance:Enc (Int × Int):=⟨λx=>[I x.1,I x.2],2,λ_=>rfl,λ_=>rfl⟩
@[simp] theorem ZxH(s:Int × Int):Enc.enc s=[I s.1,I s.2]:=rfl
@[simp high] theorem ZxI(l:zG Int):(l.flatMap Enc.enc).length=l.length*2:=j4 l
@[simp high] theorem ZxJ(l:zG Int):(l.flatMap Enc.enc).take (l.length*2)=l.flatMap Enc.enc:=YA l
open Go Hp
structure Deed where
 kind:Int
 id:Int
 w:Int
instance:Enc Deed:=⟨λd=>[I d.kind,I d.id,I d.w],3,λ_=>rfl,λ_=>rfl⟩
@[simp] theorem ZxK(d:Deed):Enc.enc d=[I d.kind,I d.id,I d.w]:=rfl
@[simp high] theorem ZxL(l:List Deed):(l.flatMap Enc.enc).length=l.length*3:=j4 l
@[simp high] theorem ZxM(l:List Deed):(l.flatMap Enc.enc).take (l.length*3)=l.flatMap Enc.enc:=YA l
open Go Hp Go.Sort
def uv(a b:Int):Int:=if a<b then -1 else if b<a then 1 else 0
def vy(l:List Int)(i:Nat):Int × Int:=((i:Int),l.getD i 0)
def wQ(l:List Int)(i j:Fin l.length):Int:=if uv (l.getD i 0) (l.getD j 0)=0 then uv (i.val:Int) j.val else uv (l.getD i 0) (l.getD j 0)
theorem Wb(l:List Int)(i j:Fin l.length):ltOf (wQ l) i j=ww (vy l i) (vy l j):=by
 unfold ltOf wQ uv ww il vy yS;simp only;generalize l.getD i.val 0=a;generalize l.getD j.val 0=b
 by_cases h:a=b
 ·subst h;have e1:(if a<a then (-1:Int) else if a<a then 1 else 0)=0:=by rw[if_neg (by omega),if_neg (by omega)]
  rw[e1,if_pos rfl,if_pos rfl]
  by_cases h4:(i.val:Int)<j.val
  ·rw[if_pos h4];simp;omega
  ·rw[if_neg h4]
   by_cases h5:(j.val:Int)<i.val
   ·rw[if_pos h5];simp;omega
   ·rw[if_neg h5];simp;omega
 ·rw[if_neg h]
  by_cases h2:a<b
  ·have e1:(if a<b then (-1:Int) else if b<a then 1 else 0)=-1:=by rw[if_pos h2]
   rw[e1,if_neg (by decide)];simp[h2]
  ·have e1:(if a<b then (-1:Int) else if b<a then 1 else 0)=1:=by rw[if_neg h2,if_pos (by omega)]
   rw[e1,if_neg (by decide)];simp[h2]
theorem VM(l:List Int):SWO (ltOf (wQ l)):=by
 have H:=Ys Zl;refine⟨λx=>?_,λx y z h1 h2=>?_,λx y z h1 h2=>?_⟩
 ·rw[Wb];exact H.irr _
 ·rw[Wb]at *;exact H.tr _ _ _ h1 h2
 ·rw[Wb]at *;cases h:ww (vy l x) (vy l z) with
  | false=>rfl
  | true =>
   exfalso;cases h3:ww (vy l y) (vy l x) with
   | true=>have hh:ww (vy l y) (vy l z)=true:=H.tr _ _ _ h3 h;rw[h2]at hh;cases hh
   | false =>
    have e:=H.tot _ _ h1 h3;rw[e,h2]at h;cases h
theorem Ze9(l:List Int):∀x y,ltOf (wQ l) x y=false->ltOf (wQ l) y x=false->x=y:=by
 intro x y h1 h2;rw[Wb]at h1 h2;have:=(Ys Zl).tot _ _ h1 h2;have:(x.val:Int)=y.val:=congrArg Prod.fst this;exact Fin.ext (by omega)
def QZ(l:List Int):List (Fin l.length):=(List.finRange l.length).mergeSort λx y=>!(ltOf (wQ l)) y x
theorem ZbA(l:List Int):(QZ l).Perm (List.finRange l.length):=Cj _ _
theorem ZlW(l:List Int):((QZ l).map λi:Fin l.length=>vy l i.val).Perm ((List.range l.length).map (vy l)):=by
 refine((ZbA l).map _).trans ?_;have e:(List.finRange l.length).map (λi:Fin l.length=>vy l i.val)=(List.range l.length).map (vy l):=by
  apply Bb
  ·simp
  ·intro i h1 h2;simp
 rw[e]
theorem ZlX(l:List Int):(QZ l).Nodup:=(ZbA l).nodup_iff.2 (List.nodup_finRange _)
theorem ZlY(l:List Int):vW ((QZ l).map λi:Fin l.length=>vy l i.val):=by
 have H:=Ys Zl;have h1:(QZ l).Pairwise λa b=>(!(ltOf (wQ l)) b a)=true:=by
  refine CO ?_ ?_ _
  ·intro a b c h1 h2;simp only[Co]at *;exact(VM l).ntrans c b a h2 h1
  ·intro a b;simp only[B7,Co];cases h:ltOf (wQ l) b a with
   | false=>exact .inl rfl
   | true =>
    refine .inr ?_;cases h2:ltOf (wQ l) a b with
    | false=>rfl
    | true=>have:=(VM l).trans _ _ _ h h2;rw[(VM l).irrefl]at this;cases this
 have h2:=List.Pairwise.and h1 (ZlX l);unfold vW;refine List.Pairwise.map _ ?_ h2;rintro a b ⟨h3,h4⟩;have h3':ltOf (wQ l) b a=false:=by simpa using h3
 rw[<-Wb];cases h:ltOf (wQ l) a b with
 | true=>rfl
 | false=>exact absurd (Ze9 l a b h h3') h4
def vX(l:List Int):List Int:=(QZ l).map λi=>(i.val:Int)
theorem ZbB(l:List Int):(vX l).length=l.length:=by
 unfold vX;rw[List.length_map,(ZbA l).length_eq];simp
theorem ZlZ{l:List Int}{z:Int}(h:z∈vX l):0<=z/\z<l.length:=by
 obtain⟨i,_,rfl⟩:=An.1 h;have:=i.isLt;omega
end Go.Proofs.YtcocagkbfpgmiaaGreatDoor.Pv
namespace Go.Proofs.YtcocagkbfpgmiaaGreatDoor.Hp
section
variable {α:Type} {lt:α->α->Bool}
def Sd(lt:α->α->Bool)(l:List α):Prop:=l.Pairwise λa b=>lt a b=true
theorem Zl0(rows:List (List α))(i:Nat)(y:α)(tl:List α)(h:rows[i]?=some (y :: tl)):rows.flatten.Perm (y :: (rows.set i tl).flatten):=by
 induction rows generalizing i with
 | nil=>simp at h
 | cons r rows ih =>
  cases i with
  | zero =>
   simp at h;subst h;simp
  | succ i =>
   simp only[A5]at h;have:=ih i h;simp only[Bp,AW];exact(this.append_left r).trans CH
theorem Zl1(H:Str lt){P:List α}(hP:Sd lt P){rows:List (List α)}(hr:∀r∈rows,Sd lt r){k:Nat}(hp:rows.flatten.Perm (P.drop k)){i:Nat}{y:α}{tl:List α}(hi:rows[i]?=some (y :: tl))
  (hmin:∀(j:Nat) z tz,rows[j]?=some (z :: tz)->j≠i->lt y z=true) :
  P[k]?=some y/\(rows.set i tl).flatten.Perm (P.drop (k+1))/\∀r∈rows.set i tl,Sd lt r:=by
 have hfs:=Zl0 rows i y tl hi;have hsi:Sd lt (y :: tl):=hr _ (Ab hi)
 -- y is the least of what is left
 have hle:∀z∈rows.flatten,z=y\/lt y z=true:=by
  intro z hz;obtain⟨r,hrm,hzr⟩:=BO.1 hz;obtain⟨j,hj⟩:=Bj.1 hrm
  by_cases e:j=i
  ·subst e;rw[hi]at hj;cases hj;rcases Aq.1 hzr with e | e
   ·exact .inl e
   ·exact .inr ((Bl.1 hsi).1 z e)
  ·cases r with
   | nil=>cases hzr
   | cons a ar =>
    have h1:=hmin j a ar hj e;rcases Aq.1 hzr with e2 | e2
    ·exact .inr (e2 ▸ h1)
    ·exact .inr (H.tr _ _ _ h1 ((Bl.1 (hr _ hrm)).1 z e2))
 have hyP:y∈P.drop k:=hp.subset (hfs.symm.subset Cb);cases hd:P.drop k with
 | nil=>rw[hd]at hyP;cases hyP
 | cons x rest =>
  have hPd:Sd lt (x :: rest):=by rw[<-hd];exact List.Pairwise.sublist (List.drop_sublist k P) hP
  have hx:x=y:=by
   rw[hd]at hyP;rcases Aq.1 hyP with e | e
   ·exact e.symm
   ·have h1:=(Bl.1 hPd).1 y e;rcases hle x (hp.symm.subset (by rw[hd];exact Cb)) with h | h
    ·exact h
    ·have:=H.tr _ _ _ h1 h;rw[H.irr]at this;cases this
  subst hx;have hk:P[k]?=some x:=by
   have:(P.drop k)[0]?=some x:=by rw[hd];rfl
   rwa[AM,Bm]at this
  have hd1:P.drop (k+1)=rest:=by
   have:P.drop (k+1)=(P.drop k).drop 1:=by rw[List.drop_drop]
   rw[this,hd];rfl
  refine⟨hk,?_,λr hrm=>?_⟩
  ·rw[hd1];rw[hd]at hp;exact List.Perm.cons_inv (hfs.symm.trans hp)
  ·rcases BC hrm with h | h
   ·exact hr r h
   ·rw[h];exact(Bl.1 hsi).2
theorem Zl2{P:List α}{rows:List (List α)}{k:Nat}(hp:rows.flatten.Perm (P.drop k))(hk:k<=P.length)(h0:∀r∈rows,r=[]):k=P.length:=by
 have:rows.flatten=[]:=List.flatten_eq_nil_iff.2 h0;rw[this]at hp;have:=hp.length_eq;simp at this;omega
theorem Zfa(H:Str lt):∀{a b:List α},a.Perm b->Sd lt a->Sd lt b->a=b
 | [],b,h,_,_=>by rw[Dw.1 h]
 | x :: a,[],h,_,_=>by cases List.perm_nil.1 h
 | x :: a,y :: b,h,ha,hb=>by
  have ha':=Bl.1 ha;have hb':=Bl.1 hb;have e:x=y:=by
   rcases Aq.1 (h.subset (Cb)) with e | hx
   ·exact e
   ·rcases Aq.1 (h.symm.subset (Cb)) with e | hy
    ·exact e.symm
    ·have:=H.tr _ _ _ (ha'.1 y hy) (hb'.1 x hx);rw[H.irr]at this;cases this
  subst e;rw[Zfa H (List.Perm.cons_inv h) ha'.2 hb'.2]
theorem Zl3(H:Str lt)(l:List α)(hn:l.Nodup):Sd lt (l.mergeSort λx y=>!lt y x):=by
 have h1:(l.mergeSort λx y=>!lt y x).Pairwise λa b=>(!lt b a)=true:=by
  refine CO ?_ ?_ _
  ·intro a b c h1 h2;simp only[Co]at *;cases e:lt c a with
   | false=>rfl
   | true =>
    exfalso;cases e2:lt b c with
    | true=>have:=H.tr _ _ _ e2 e;rw[h1]at this;cases this
    | false=>have e3:=H.tot _ _ e2 h2;rw[<-e3,h1]at e;cases e
  ·intro a b;simp only[B7,Co];cases e:lt b a with
   | false=>exact .inl rfl
   | true =>
    refine .inr ?_;cases e2:lt a b with
    | false=>rfl
    | true=>have:=H.tr _ _ _ e e2;rw[H.irr]at this;cases this
 have h2:=List.Pairwise.and h1 ((Cj l _).nodup_iff.2 hn);refine List.Pairwise.imp ?_ h2;rintro a b ⟨h3,h4⟩;cases e:lt a b with
 | true=>rfl
 | false=>exact absurd (H.tot _ _ e (by simpa using h3)) h4
end
end Go.Proofs.YtcocagkbfpgmiaaGreatDoor.Hp
namespace Go.Proofs.YtcocagkbfpgmiaaGreatDoor.Pv
open Go Hp
def ux(x:Inst)(a b:Int):Int:=arc x (a+1) 0+arc x 0 (b+1)-arc x (a+1) (b+1)
structure Pr where
 a:Int
 b:Int
 s:Int
deriving DecidableEq
def wy(p q:Pr):Bool:=if p.s=q.s then (if p.a=q.a then decide (p.b<q.b) else decide (p.a<q.a)) else decide (q.s<p.s)
theorem ZbC:Str wy:=by
 refine⟨λa=>by simp[wy],λa b c h1 h2=>?_,λa b h1 h2=>?_⟩
 ·unfold wy at *;split at h1<;>split at h2<;>split<;>(try split at h1)<;>(try split at h2)<;>(try split)<;>simp only[decide_eq_true_eq]at *<;>omega
 ·obtain⟨a1,a2,a3⟩:=a;obtain⟨b1,b2,b3⟩:=b;unfold wy at *;simp only at *;split at h1<;>split at h2<;>(try split at h1)<;>(try split at h2)<;>simp only[decide_eq_false_iff_not]at *<;>simp only[Pr.mk.injEq]<;>omega
def jI(x:Inst)(c:List Int)(a:Int):List Pr:=(c.filter λb=>decide (b≠a)).map λb=>⟨a,b,ux x a b⟩
def uQ(x:Inst)(c:List Int):List Pr:=c.flatMap (jI x c)
def qT(x:Inst)(c:List Int):List Pr:=(uQ x c).mergeSort λp q=>!wy q p
theorem Wc{x:Inst}{c:List Int}{p:Pr}:p∈uQ x c<->p.a∈c/\p.b∈c/\p.b≠p.a/\p.s=ux x p.a p.b:=by
 unfold uQ jI;simp only[BV,An,Bd,decide_eq_true_eq];constructor
 ·rintro⟨a,ha,b,⟨hb,hne⟩,rfl⟩;exact⟨ha,hb,hne,rfl⟩
 ·rintro⟨ha,hb,hne,hs⟩;exact⟨p.a,ha,p.b,⟨hb,hne⟩,by rw[<-hs]⟩
theorem ZbD{x:Inst}{c:List Int}(h:c.Nodup):(uQ x c).Nodup:=by
 unfold uQ;unfold List.Nodup;rw[List.pairwise_flatMap];refine⟨λa ha=>?_,?_⟩
 ·unfold jI;refine List.Pairwise.map _ ?_ (List.Pairwise.filter _ h);intro u v huv e;exact huv (congrArg Pr.b e)
 ·refine List.Pairwise.imp ?_ h;intro a b hab;intro p hp q hq e;subst e;unfold jI at hp hq;obtain⟨u,_,rfl⟩:=An.1 hp;obtain⟨v,_,e⟩:=An.1 hq;exact hab (congrArg Pr.a e).symm
theorem ZbE{x:Inst}{c:List Int}(h:c.Nodup):Sd wy (qT x c):=Zl3 ZbC _ (ZbD h)
theorem Q0(x:Inst)(c:List Int):(qT x c).Perm (uQ x c):=Cj _ _
theorem Zl4{x:Inst}{c:List Int}(h:c.Nodup):(qT x c).length=c.length*(c.length-1):=by
 rw[(Q0 x c).length_eq];unfold uQ;rw[List.length_flatMap];have:c.map (λa=>(jI x c a).length)=c.map λ_=>c.length-1:=by
  refine AK λa ha=>?_
  unfold jI;rw[List.length_map];have:=List.Nodup.erase_eq_filter h a;have h2:=Dr ha;rw[this]at h2;rw[<-h2];congr 1;refine List.filter_congr λb _=>?_
  by_cases e:b=a<;>simp[e]
 rw[this,List.map_const',List.sum_replicate_nat]
theorem Zl5{x:Inst}{c:List Int}(h:c.Nodup){l:List Pr}(hp:l.Perm (uQ x c))(hs:Sd wy l):l=qT x c :=
 Zfa ZbC (hp.trans (Q0 x c).symm) hs (ZbE h)
theorem Zl6{x:Inst}{c d:List Int}(hc:c.Nodup)(hd:d.Nodup)(h:c.Perm d):(uQ x c).Perm (uQ x d):=by
 refine(Df (ZbD hc) (ZbD hd)).2 λp=>?_
 rw[Wc,Wc,h.mem_iff,h.mem_iff]
theorem Zl7{x:Inst}{c d:List Int}(hc:c.Nodup)(hd:d.Nodup)(h:c.Perm d):qT x c=qT x d :=
 Zl5 hd ((Q0 x c).trans (Zl6 hc hd h)) (ZbE hc)
open Go Hp
def yP:Nat->List (List Pr)->zG Int
 | _,[]=>[]
 | i,[] :: rows=>yP (i+1) rows
 | i,(p :: _) :: rows=>((i:Int),-p.s) :: yP (i+1) rows
theorem J1:∀(rows:List (List Pr)) (i:Nat) (x:Int × Int),x∈yP i rows<->∃(k:Nat) (p:Pr) (tl:List Pr),rows[k]?=some (p :: tl)/\x=(((i+k:Nat):Int),-p.s)
 | [],i,x=>by simp[yP]
 | [] :: rows,i,x=>by
  rw[yP,J1 rows (i+1) x];constructor
  ·rintro⟨k,p,tl,h,rfl⟩;exact⟨k+1,p,tl,by simpa using h,by rw[show i+1+k=i+(k+1) by omega]⟩
  ·rintro⟨k,p,tl,h,rfl⟩
   match k with
   | 0=>simp at h
   | k+1=>exact⟨k,p,tl,by simpa using h,by rw[show i+1+k=i+(k+1) by omega]⟩
 | (q :: ql) :: rows,i,x=>by
  rw[yP,Aq,J1 rows (i+1) x];constructor
  ·rintro(rfl | ⟨k,p,tl,h,rfl⟩)
   ·exact⟨0,q,ql,rfl,rfl⟩
   ·exact⟨k+1,p,tl,by simpa using h,by rw[show i+1+k=i+(k+1) by omega]⟩
  ·rintro⟨k,p,tl,h,rfl⟩
   match k with
   | 0=>simp at h;obtain⟨rfl,rfl⟩:=h;exact .inl rfl
   | k+1=>exact .inr ⟨k,p,tl,by simpa using h,by rw[show i+1+k=i+(k+1) by omega]⟩
theorem VN:∀(rows:List (List Pr)) (i k:Nat) (p:Pr) (tl:List Pr),k<rows.length->(yP i (rows.set k (p :: tl))).Perm ((((i+k:Nat):Int),-p.s) :: yP i (rows.set k []))
 | [],_,_,_,_,h=>by simp at h
 | r :: rows,i,0,p,tl,_=>by simp[yP]
 | [] :: rows,i,k+1,p,tl,h=>by
  have:=VN rows (i+1) k p tl (by simpa using h);simp only[AW,yP]
  rwa[show i+1+k=i+(k+1) by omega]at this
 | (q :: ql) :: rows,i,k+1,p,tl,h=>by
  have:=VN rows (i+1) k p tl (by simpa using h);simp only[AW,yP];rw[show i+1+k=i+(k+1) by omega]at this;exact(this.cons _).trans (.swap _ _ _)
theorem Zl8{rows:List (List Pr)}{k:Nat}{p:Pr}{tl:List Pr}(h:rows[k]?=some (p :: tl)):(yP 0 rows).Perm ((((k:Nat):Int),-p.s) :: yP 0 (rows.set k [])):=by
 obtain⟨hk,e⟩:=Ac.1 h;have:=VN rows 0 k p tl hk
 rwa[AR,<-e,List.set_getElem_self]at this
theorem VO:∀(rows:List (List Pr)) (i:Nat),(yP i rows).length<=rows.length
 | [],_=>by simp[yP]
 | [] :: rows,i=>by have:=VO rows (i+1);simp only[yP,Ae];omega
 | (q :: ql) :: rows,i=>by have:=VO rows (i+1);simp only[yP,Ae];omega
structure Rows' (c:List Int) (rows:List (List Pr)):Prop where
 len:rows.length=c.length
 a:∀(i:Nat) r,rows[i]?=some r->∀p∈r,c[i]?=some p.a
theorem Zl9{c:List Int}(hc:c.Pairwise (· < ·)){rows:List (List Pr)}(hr:Rows' c rows){x:Int × Int}{r:zG Int}(hs:vW (x :: r))(hp:(yP 0 rows).Perm (x :: r)):
  ∃(i:Nat) (y:Pr) (tl:List Pr),x=((i:Int),-y.s)/\rows[i]?=some (y :: tl)/\r.Perm (yP 0 (rows.set i []))/\∀(j:Nat) z tz,rows[j]?=some (z :: tz)->j≠i->wy y z=true:=by
 obtain⟨i,y,tl,hi,ex⟩:=(J1 rows 0 x).1 (hp.symm.subset Cb);rw[AR]at ex;subst ex;refine⟨i,y,tl,rfl,hi,(List.Perm.cons_inv ((Zl8 hi).symm.trans hp)).symm,λj z tz hj hne=>?_⟩;have hz:(((j:Nat):Int),-z.s)∈yP 0 rows:=(J1 rows 0 _).2 ⟨j,z,tz,hj,by rw[AR]⟩;rcases Aq.1 (hp.subset hz) with e | e
 ·have:(j:Int)=i:=congrArg Prod.fst e;exact absurd (by omega) hne
 ·have h1:=(Bl.1 hs).1 _ e;have ay:=hr.a i _ hi y (by simp);have az:=hr.a j _ hj z (by simp);unfold ww il yS at h1;simp only at h1;unfold wy
  by_cases e2:-y.s=-z.s
  ·rw[if_pos e2]at h1;rw[if_pos (by omega)];have hij:i<j:=by simp at h1;omega
   obtain⟨k1,e3⟩:=Ac.1 ay;obtain⟨k2,e4⟩:=Ac.1 az;have:=BD.1 hc i j k1 k2 hij;rw[e3,e4]at this;rw[if_neg (by omega)];simpa using this
  ·rw[if_neg e2]at h1;rw[if_neg (by omega)];simp at h1;simp;omega
open Go Hp
def qK(l:List Pr):List Int:=l.map λp=>-p.s
def vY(l:List Pr)(i:Int):Pr:=l.getD i.toNat ⟨0,0,0⟩
def wA(x:Inst)(c:List Int)(a:Int):List Pr:=(vX (qK (jI x c a))).map (vY (jI x c a))
theorem Zma(l:List Int):(vX l).Perm ((List.range l.length).map λi:Nat=>(i:Int)):=by
 have h:=(ZlW l).map (·.1);rw[BW,BW]at h;exact h
theorem Zmb(l:List Pr):((vX (qK l)).map (vY l)).Perm l:=by
 refine((Zma _).map _).trans ?_;have:((List.range (qK l).length).map λi:Nat=>(i:Int)).map (vY l)=l:=by
  rw[BW];apply Bb
  ·simp[qK]
  ·intro i h1 h2;simp[vY,Aa,h2]
 rw[this]
theorem Zmc{l:List Pr}(h:∀(i j:Nat) p q,i<j->l[i]?=some p->l[j]?=some q->p.a=q.a/\p.b<q.b):Sd wy ((vX (qK l)).map (vY l)):=by
 have hs:=ZlY (qK l);unfold vX;rw[BW];unfold vW at hs;rw[CX]at hs;unfold Sd;rw[CX];refine List.Pairwise.imp ?_ hs;intro i j hij;have hn:(qK l).length=l.length:=by simp[qK]
 have hi:i.val<l.length:=by have:=i.isLt;omega
 have hj:j.val<l.length:=by have:=j.isLt;omega
 have gi:l[i.val]?=some l[i.val]:=Ad hi;have gj:l[j.val]?=some l[j.val]:=Ad hj;have wi:(qK l).getD i.val 0=-(l[i.val]).s:=by simp[qK,Aa,hi]
 have wj:(qK l).getD j.val 0=-(l[j.val]).s:=by simp[qK,Aa,hj]
 have pi:vY l (i.val:Int)=l[i.val]:=by simp[vY,Aa,hi]
 have pj:vY l (j.val:Int)=l[j.val]:=by simp[vY,Aa,hj]
 simp only[Function.comp,pi,pj];unfold ww il vy yS at hij;rw[wi,wj]at hij;simp only at hij;generalize l[i.val]=p at *;generalize l[j.val]=q at *;unfold wy
 by_cases e:-p.s=-q.s
 ·rw[if_pos e]at hij;have hlt:i.val<j.val:=by simp at hij;omega
  obtain⟨h1,h2⟩:=h i.val j.val p q hlt gi gj;rw[if_pos (by omega),if_pos h1];simpa using h2
 ·rw[if_neg e]at hij;rw[if_neg (by omega)];simp at hij;simp;omega
theorem Zmd{x:Inst}{c:List Int}(hc:c.Pairwise (· < ·))(a:Int):∀(i j:Nat) p q,i<j->(jI x c a)[i]?=some p->(jI x c a)[j]?=some q->p.a=q.a/\p.b<q.b:=by
 have h:(jI x c a).Pairwise λp q=>p.a=q.a/\p.b<q.b:=by
  unfold jI;rw[CX];exact List.Pairwise.imp (λh=>⟨rfl,h⟩) (List.Pairwise.filter _ hc)
 intro i j p q hij hp hq;obtain⟨h1,rfl⟩:=Ac.1 hp;obtain⟨h2,rfl⟩:=Ac.1 hq;exact BD.1 h i j h1 h2 hij
theorem ZbF(x:Inst)(c:List Int)(a:Int):(wA x c a).Perm (jI x c a):=Zmb _
theorem Zme{x:Inst}{c:List Int}(hc:c.Pairwise (· < ·))(a:Int):Sd wy (wA x c a):=Zmc (Zmd hc a)
theorem Zmf{x:Inst}{c:List Int}(hc:c.Pairwise (· < ·)):Rows' c (c.map (wA x c))/\(∀r∈c.map (wA x c),Sd wy r)/\(c.map (wA x c)).flatten.Perm (qT x c):=by
 refine⟨⟨by simp,λi r hr p hp=>?_⟩,λr hr=>?_,?_⟩
 ·rw[Aj]at hr;obtain⟨a,ha,rfl⟩:=Ap.1 hr;have:=(ZbF x c a).subset hp;unfold jI at this;obtain⟨b,_,rfl⟩:=An.1 this;exact ha
 ·obtain⟨a,_,rfl⟩:=An.1 hr;exact Zme hc a
 ·refine List.Perm.trans ?_ (Q0 x c).symm;unfold uQ;rw[<-List.flatMap_def];have main:∀l:List Int,(l.flatMap (wA x c)).Perm (l.flatMap (jI x c)):=by
   intro l
   induction l with
   | nil=>exact .refl _
   | cons a l ih=>simp only[AA];exact(ZbF x c a).append ih
  exact main c
theorem Zmg{x:Inst}{c:List Int}(hc:c.Pairwise (· < ·)){rows:List (List Pr)}{k:Nat}(h1:Rows' c rows)(h2:∀r∈rows,Sd wy r)(h3:rows.flatten.Perm ((qT x c).drop k)){it:Int × Int}{r:zG Int}(hs:vW (it :: r))(hp:(yP 0 rows).Perm (it :: r)):
  ∃(i:Nat) (y:Pr) (tl:List Pr),it=((i:Int),-y.s)/\rows[i]?=some (y :: tl)/\r.Perm (yP 0 (rows.set i []))/\(qT x c)[k]?=some y/\Rows' c (rows.set i tl)/\(∀r∈rows.set i tl,Sd wy r)/\(rows.set i tl).flatten.Perm ((qT x c).drop (k+1)):=by
 have hn:c.Nodup:=List.Pairwise.imp (λh e=>by omega) hc;obtain⟨i,y,tl,e1,e2,e3,e4⟩:=Zl9 hc h1 hs hp;obtain⟨m1,m2,m3⟩:=Zl1 ZbC (ZbE hn) h2 h3 e2 e4;refine⟨i,y,tl,e1,e2,e3,m1,⟨by rw[Bz];exact h1.len,λj r hr p hpr=>?_⟩,m3,m2⟩;rw[AZ]at hr;split at hr
 ·rename_i e;subst e;split at hr
  ·cases hr;exact h1.a i _ e2 p (CD _ hpr)
  ·cases hr
 ·exact h1.a j r hr p hpr
open Go Hp
instance:Inhabited Pr:=⟨⟨0,0,0⟩⟩
instance:Enc Pr:=⟨λp=>[I p.a,I p.b,I p.s],3,λ_=>rfl,λ_=>rfl⟩
@[simp] theorem ZxN(p:Pr):Enc.enc p=[I p.a,I p.b,I p.s]:=rfl
@[simp high] theorem ZxO(l:List Pr):(l.flatMap Enc.enc).length=l.length*3:=j4 l
@[simp high] theorem ZxP(l:List Pr):(l.flatMap Enc.enc).take (l.length*3)=l.flatMap Enc.enc:=YA l
def qU(x:Inst):Prop:=∀a b,0<=arc x a b/\arc x a b<=2147483648
theorem ZbG{x:Inst}(h:qU x)(a b:Int):-2147483648<=ux x a b/\ux x a b<=4294967296:=by
 have h1:=h (a+1) 0;have h2:=h 0 (b+1);have h3:=h (a+1) (b+1);unfold ux;omega
theorem Zmh(x:Inst)(a b:Int)(hx:qU x)(ha:qe a)(hb:qe b):Pure prog 365 [.agg (zx x),I a,I b] (I (ux x a b)):=by
 have w1:=QV ha;have w2:=QV hb;have h1:=hx (a+1) 0;have h2:=hx 0 (b+1);have h3:=hx (a+1) (b+1);have w3:IntKind.i64.wrap (arc x (a+1) 0+arc x 0 (b+1))=arc x (a+1) 0+arc x 0 (b+1):=wr _ (by omega) (by omega);have w4:IntKind.i64.wrap (arc x (a+1) 0+arc x 0 (b+1)-arc x (a+1) (b+1))=ux x a b:=wr _ (by omega) (by omega);refine zt Tryz.func365 Tryz.ntmps365 Tryz.results365 λS nx hd=>?_
 refine za (zb ?_);intro v0;refine za (zz none (Row.pures [0,1,2,3,4,5,6,7,8,9,10,11,12,13,14,15,16] .done) mixed (zS w1 w2 w3 w4) ?_);refine zJ (wO _ _ _) (zS w1 w2 w3 w4) ?_;refine zJ (wO _ _ _) (zS w1 w2 w3 w4) ?_;refine zJ (wO _ _ _) (zS w1 w2 w3 w4) ?_;exact zg (zi hd rfl rfl)
open Go
theorem Zfb{vs:Array Value}(h:2=vs.size):∃u v,vs=#[u,v]:=by
 match vs,h with
 | ⟨[u,v]⟩,_=>exact⟨u,v,rfl⟩
theorem Zmi{C:Ctx}{S:Store}{w:World}{v:Value}(h:Rel C S w (.sc (.slice none 0 0)) v):v=.slice none 0 0:=by cases h;rfl
theorem Zmj(n:Nat)(h0:0<n)(hn:n<=1048576)(S:Store)(nx:Nat)(hd:zT nx S):
  Spec prog 370 [.sc (.slice none 0 0),I n] S (λp S'=>∃v,p=.sl nx v 2 0 0/\S'=S.set nx (.cells v 100 [])):=by
 refine⟨qh Tryz.func370 (by rfl) rfl,?_⟩;intro C w vs hS hl hr;obtain⟨u,v,rfl⟩:=Zfb hl;obtain rfl:=Zmi (hr 0 _ u rfl rfl);obtain rfl:=QW (hr 1 _ v rfl rfl);obtain⟨i0,hi0⟩:=Ca.1 Zbg;have hz:=Zes;have hc:=Zbf;have hb:=Zer;simp only[Program.zeroOf,Program.cellsOf,Program.bytesOf',hi0,C9,A3,Option.getD_some,Option.some.injEq]at hz hc hb;refine(Tryz.slices_Grow_stop i0 _ hi0 hz (by omega) n w h0 (by rw[hb];omega) (by omega)).mono ?_;rintro e w' ⟨rfl,rfl⟩;have hfr:Fresh C S nx C.clock:=.clock C (hd nx (Ag _));obtain⟨d1,d2⟩:=hS.drew;obtain⟨t1,t2⟩:=d1.object' hfr 100 ((#[]:Array Value)++Builtin.zeroCells (Value.agg #[.int .i64 0,.int .i64 0]).cells (0+n-0)++Builtin.zeroCells (Value.agg #[.int .i64 0,.int .i64 0]).cells (grownCap w (0+n) 0 100-(0+n))) [] (by simp) (λi v hi=>by simp at hi) (λi p v hp=>by simp at hp);have hge:=grownCap_ge w (0+n) 0 100;simp only[AR]at hge;refine⟨_,_,_,_,rfl,⟨C.clock,rfl,rfl⟩,XU C S w _ _ _ _ _ _ _ _ rfl (Cs _) (Cs _) (grownCap_le_maxLen w _ _ _ (by unfold maxLen;omega)) ?_,t1,d2.trans t2⟩;simp only[B3,size_zeroCells];simp[Value.cells];omega
theorem Zmk(ls:List (List Stop))(hls:ls.length<=1048576)(h0:0<ls.flatten.length)(hn:ls.flatten.length<=1048576):Pure prog 350 [L ls] (L ls.flatten):=by
 refine zt Tryz.func350 Tryz.ntmps350 Tryz.results350 λS nx hd=>?_
 refine za (zb ?_);refine za (zb ?_)
 repeat apply za
 refine zb ?_;refine zj (zD (λs:Nat × Nat=>s.1<=ls.length/\s.2=(ls.take s.1).flatten.length) (λ(k,n)=>[(0,L ls),(3,I (n:Int)),(9,L ls),(10,I ls.length),(11,I k)]) (λ_=>[]) (λs=>ls.length-s.1) (0,0) [] ⟨by simp,by simp⟩ (by simp) (by simp) ?_);rintro⟨k,n⟩ ⟨hk,ho⟩;simp only at hk ho ⊢;refine za (zb ?_);refine za (zv rfl (λhc=>?_) (λhc=>?_))
 ·simp at hc;obtain⟨t,tl,a1,a2,a3,e0⟩:=zF rfl ls k hc;have hs1:(ls.take (k+1)).flatten.length=n+t.length:=by rw[a3,ho];simp
  have hs2:(ls.take (k+1)).flatten.length<=ls.flatten.length:=by
   conv=>rhs;rw[<-List.take_append_drop (k+1) ls,List.flatten_append,Ar]
   omega
  have w1:IntKind.i64.wrap ((n:Int)+(t.length:Nat))=(n:Int)+(t.length:Nat):=wr _ (by omega) (by omega);have w2:¬((n:Int)+(t.length:Nat)<0):=by omega
  refine zh (za (zj (za (ze [] (zo e0 hc) ?_))));refine za (ze [] w1 ?_);refine za (ze [] w2 ?_);refine zm rfl (zh (zb ?_));exact zq (k+1,n+t.length) [] ⟨hc,hs1.symm⟩ (by simp;omega) (by simp[zu k (by omega)]) rfl (by simp)
 ·simp at hc;obtain rfl:k=ls.length:=by omega
  rw[Ao]at ho;rw[<-ho]at h0;have hn':n<=1048576:=by omega
  clear ho;refine zy (za (zb ?_));refine λhsuf=>((Zmj n h0 hn' _ _ jF).mono ?_).v
  rintro _ _ ⟨v1,rfl,rfl⟩;refine⟨_,_,qN _,zL hsuf ?_⟩
  repeat apply za
  refine zb ?_;refine zj (zD (λs:Nat × List Stop × Nat=>s.1<=ls.length/\s.2.1=(ls.take s.1).flatten) (λ(k,out,v)=>[(6,.sl nx v 2 0 out.length),(25,L ls),(26,I ls.length),(27,I k)]) (λ(k,out,v)=>[.cells v 100 (out.flatMap Enc.enc)]) (λs=>ls.length-s.1) (0,[],v1) [] ⟨by simp,by simp⟩ (by simp) (by simp) ?_);rintro⟨k,out,v⟩ ⟨hk,ho⟩;simp only at hk ho ⊢;refine za (zb ?_);refine za (zv rfl (λhc=>?_) (λhc=>?_))
  ·simp at hc;obtain⟨t,tl,a1,a2,a3,e0⟩:=zF rfl ls k hc;have hs1:(ls.take (k+1)).flatten=out++t:=by rw[a3,ho];simp
   have hs2:(ls.take (k+1)).flatten.length<=ls.flatten.length:=by
    conv=>rhs;rw[<-List.take_append_drop (k+1) ls,List.flatten_append,Ar]
    omega
   rw[hs1]at hs2;simp only[Ar]at hs2;refine zh (za (zj (za (ze [] (zo e0 hc) ?_))));refine zb ?_;refine⟨by omega,?_⟩;refine zb ?_;exact zq (k+1,out++t,v+1) [] ⟨hc,hs1.symm⟩ (by simp;omega) (by simp[zu k (by omega)]) rfl (by simp)
  ·simp at hc;obtain rfl:k=ls.length:=by omega
   rw[Ao]at ho;refine zy (yb 0 rfl ?_);refine za (zb ?_);exact zg (zi hd (by simp;rfl) (by simp[zp,ho]))
open Go Hp
def uR(T:zk)(c:Int):Nat:=T.findIdx λt=>t.any λs=>decide (s.c=c)
def Qc(a:zK):Option Int:=a[a.length-1]?.map (·.c)
def Q1(b:zK):Option Int:=b[0]?.map (·.c)
def qv(x:Inst)(num:Int)(p:Pr)(i k:Nat)(a b:zK):Bool :=
 decide (i≠k) && decide (Qc a=some p.a) && decide (Q1 b=some p.b) && !(decide (p.s<=0) && decide (num<=x.veh)) && decide (zP x (a++b)=0)
def We(x:Inst)(st:zk × Int)(p:Pr)(i k:Nat):zk × Int :=
 bif qv x st.2 p i k (st.1.getD i []) (st.1.getD k []) then ((st.1.set i (st.1.getD i []++st.1.getD k [])).set k [],st.2-1) else st
def q8(x:Inst)(st:zk × Int)(p:Pr):zk × Int:=We x st p (uR st.1 p.a) (uR st.1 p.b)
def ZbH(x:Inst)(ss:List Stop):zk × Int:=(qT x (ss.map (·.c))).foldl (q8 x) (ss.map λs=>[s],(ss.length:Int))
def wR(x:Inst)(ss:List Stop):zk:=(ZbH x ss).1.filter λt=>!t.isEmpty
structure JI (ss:List Stop) (T:zk) (g:Int->Option Int):Prop where
 len:T.length=ss.length
 perm:T.flatten.Perm ss
 g:∀(i:Nat) t s,T[i]?=some t->s∈t->g s.c=some (i:Int)
theorem JI.place{ss:List Stop}{T:zk}{g:Int->Option Int}(h:JI ss T g){i:Nat}{t:zK}{s:Stop}(hi:T[i]?=some t)(hs:s∈t):uR T s.c=i:=by
 have hex:∃t∈T,(t.any λs'=>decide (s'.c=s.c))=true:=⟨t,Ab hi,BY.2 ⟨s,hs,by simp⟩⟩;have hlt:uR T s.c<T.length:=List.findIdx_lt_length_of_exists hex;have hq:=List.findIdx_getElem (w:=hlt);obtain⟨s',h1,h2⟩:=BY.1 hq;have h2':s'.c=s.c:=by simpa using h2
 have e1:=h.g (uR T s.c) _ s' (Ad hlt) h1;have e2:=h.g i t s hi hs;rw[h2',e2]at e1;have:=Option.some.inj e1;omega
theorem JI.there{ss:List Stop}{T:zk}{g:Int->Option Int}(h:JI ss T g){c:Int}(hc:c∈ss.map (·.c)):∃(i:Nat) (t:zK) (s:Stop),T[i]?=some t/\s∈t/\s.c=c/\g c=some (i:Int)/\uR T c=i:=by
 obtain⟨s,hs,rfl⟩:=An.1 hc;obtain⟨t,ht,hst⟩:=BO.1 (h.perm.symm.subset hs);obtain⟨i,hi⟩:=Bj.1 ht;exact⟨i,t,s,hi,hst,rfl,h.g i t s hi hst,h.place hi hst⟩
theorem Wf{T:zk}:∀{i:Nat} {a:zK},T[i]?=some a->T.flatten.Perm (a++(T.set i []).flatten):=by
 induction T with
 | nil=>intro i a h;simp at h
 | cons t T ih =>
  intro i a h;cases i with
  | zero=>simp at h;subst h;simp
  | succ i =>
   simp only[A5]at h;simp only[Bp,AW];refine((ih h).append_left t).trans ?_;rw[<-List.append_assoc,<-List.append_assoc];exact BQ.append_right _
theorem Zml{T:zk}{i:Nat}(b:zK)(h:i<T.length):(T.set i b).flatten.Perm (b++(T.set i []).flatten):=by
 have:=Wf (T:=T.set i b) (i:=i) (a:=b) (by simp[h])
 rwa[DL]at this
theorem Zmm{T:zk}{i k:Nat}{a b:zK}(hi:T[i]?=some a)(hk:T[k]?=some b)(hne:i≠k):((T.set i (a++b)).set k []).flatten.Perm T.flatten:=by
 have hil:=(Ac.1 hi).1;rw[List.set_comm _ _ hne];have h1:=Zml (T:=T.set k []) (i:=i) (a++b) (by simpa using hil);have h2:=Wf hk;have h3:=Wf (T:=T.set k []) (i:=i) (a:=a) (by rw[AP (λe=>hne e.symm)];exact hi);refine h1.trans (List.Perm.symm ?_);refine h2.trans ((h3.append_left b).trans ?_);rw[<-List.append_assoc];exact BQ.append_right _
def Qd(g:Int->Option Int)(b:zK)(i:Nat)(j:Nat):Int->Option Int:=λc=>if c∈(b.take j).map (·.c) then some (i:Int) else g c
theorem Zmn(g:Int->Option Int)(b:zK)(i:Nat):Qd g b i 0=g:=by funext c;simp[Qd]
theorem Zmo{g:Int->Option Int}{b:zK}{i j:Nat}{s:Stop}(h:b.take (j+1)=b.take j++[s]):qO (Qd g b i j) s.c (some (i:Int))=Qd g b i (j+1):=by
 funext c;simp only[qO,Qd,h,List.map_append,AC,Ax,Be,AV]
 by_cases e:c=s.c
 ·simp[e]
 ·simp[e]
theorem JI.join{ss:List Stop}{T:zk}{g:Int->Option Int}(h:JI ss T g){i k:Nat}{a b:zK}(hi:T[i]?=some a)(hk:T[k]?=some b)(hne:i≠k):JI ss ((T.set i (a++b)).set k []) (Qd g b i b.length):=by
 have hil:=(Ac.1 hi).1;have hkl:=(Ac.1 hk).1;refine⟨by simp[h.len],(Zmm hi hk hne).trans h.perm,λi' t s ht hs=>?_⟩;unfold Qd;rw[Ao]
 by_cases e1:k=i'
 ·subst e1;rw[AX (by simpa using hkl)]at ht;cases ht;cases hs
 ·rw[AP e1]at ht
  by_cases e2:i=i'
  ·subst e2;rw[AX hil]at ht;cases ht
   by_cases e3:s.c∈b.map (·.c)
   ·rw[if_pos e3]
   ·rw[if_neg e3];rcases AC.1 hs with hs | hs
    ·exact h.g i a s hi hs
    ·exact absurd (An.2 ⟨s,hs,rfl⟩) e3
  ·rw[AP e2]at ht;have h1:=h.g i' t s ht hs;rw[if_neg]
   ·exact h1
   ·intro e3;obtain⟨s',hs',e4⟩:=An.1 e3;have h2:=h.g k b s' hk hs';rw[e4,h1]at h2;have:=Option.some.inj h2;exact e1 (by omega)
theorem JI.nil:JI [] [] (λ_=>none):=⟨rfl,.refl _,λi t s h=>by simp at h⟩
theorem JI.snoc{ss:List Stop}{T:zk}{g:Int->Option Int}(h:JI ss T g)(s:Stop)(hs:s.c ∉ ss.map (·.c)):JI (ss++[s]) (T++[[s]]) (qO g s.c (some (ss.length:Int))):=by
 refine⟨by simp[h.len],by simpa using h.perm.append_right [s],λi t s' ht hst=>?_⟩;unfold qO;rcases Bf i T.length with hl | hl
 ·rw[Al hl]at ht;have h1:s'∈ss:=h.perm.subset (BO.2 ⟨t,Ab ht,hst⟩);rw[if_neg]
  ·exact h.g i t s' ht hst
  ·intro e;exact hs (e ▸ An.2 ⟨s',h1,rfl⟩)
 ·rw[Ak hl]at ht;have hi:i-T.length=0:=by
   have:=(Ac.1 ht).1;simp at this;omega
  rw[hi]at ht;simp at ht;subst ht;simp at hst;subst hst;rw[if_pos rfl,<-h.len];congr 1;have:i=T.length:=by omega
  rw[this]
open Go Hp
theorem VP{P:Program}{r:Rd}{n N:Nat}{Q:Exit->(Nat->PV)->Store->Prop}{F:Nat->PV}{c:Code}{T:Store}{o ver e0:Nat}{cs:List PV}(i:Nat)(hs:T o=.cells ver e0 cs)(hi:cs[i]?=some (.sc (.slice none 0 0)))
  (h:PW P r n N c Q F (T.set o (.cells ver e0 (cs.set i (.lst 0 []))))):PW P r n N c Q F T:=by
 refine Yw (F':=F) (S':=T.set o (.cells ver e0 (cs.set i (.lst 0 [])))) (λC w a st=>?_) h;have:=st.sim.relabel (cs':=cs.set i (.lst 0 [])) hs (by simp) (by
  intro k p' hp';rw[AZ]at hp';split at hp'
  ·rename_i hij;subst hij;split at hp'
   ·cases hp';refine .inr ⟨_,hi,λv hv=>?_⟩;cases hv;exact .lst0
   ·cases hp'
  ·exact .inl hp')
 exact⟨C,⟨this.1,st.size,λk=>(st.fr k).mono this.2,r.keep this.2 st.v⟩,this.2⟩
abbrev J2(x:Inst)(tid tv n:Nat)(num:Int)(mid mv:Nat):List PV:=[I x.days,I x.veh,I x.cap,I x.len,L x.cust,L x.dist,.sl tid tv 1 0 n,I num,.mp mid mv]
theorem ZbI(cs:List PV)(k:Nat)(x:PV)(h:k<cs.length):yc cs k [x]=cs.set k x:=by
 rw[yc,AH,if_pos h];simp
theorem Zfc(T:zk):T.flatMap Enc.enc=T.map λt=>L t:=by induction T<;>simp_all
theorem yZ{S:Store}{nx id:Nat}{o:Ob}(hd:zT nx S)(h:S id=o)(hne:o≠.dead):id<nx:=by
 rcases Bf id nx with q | q
 ·exact q
 ·rw[hd id q]at h;exact absurd h.symm hne
theorem Zmp(x:Inst)(ss:List Stop)(T:zk)(g:Int->Option Int)(num:Int)(es:List (Value × PV)){S:Store}{jid jv tid tv mid mv:Nat}(hx:x.cust.length<=1048576)(hss:ss.length<=1000)(hnum:-1048576<=num/\num<=1048576)(hI:JI ss T g)(hm:MapIs qJ I es g)
  (hj:S jid=.cells jv 387 (J2 x tid tv ss.length num mid mv)) (ht:S tid=.cells tv 40 (T.flatMap Enc.enc)) (hmid:S mid=.map mv es) (d1:jid≠tid) (d2:jid≠mid) (d3:tid≠mid)
  (p:Pr) (hpa:p.a∈ss.map (·.c)) (hpb:p.b∈ss.map (·.c)) :
  Spec prog 332 [.ptr jid jv 0,.agg [I p.a,I p.b,I p.s]] S (λ_ S'=>∃es' g',MapIs qJ I es' g'/\JI ss (q8 x (T,num) p).1 g' /\
   S'=((S.set jid (.cells jv 387 (J2 x tid tv ss.length (q8 x (T,num) p).2 mid mv))).set tid (.cells tv 40 ((q8 x (T,num) p).1.flatMap Enc.enc))).set mid (.map mv es')):=by
 obtain⟨i,a,sa,hia,hsa,hsac,hga,hpi⟩:=hI.there hpa;obtain⟨k,b,sb,hkb,hsb,hsbc,hgb,hpk⟩:=hI.there hpb;have hkey:KeyOk (.int .i64) qJ:=QX .i64;obtain⟨ra,fa1,fa2,fa3,fa4,fa5⟩:=hm.find hkey p.a;obtain⟨rb,fb1,fb2,fb3,fb4,fb5⟩:=hm.find hkey p.b;obtain⟨ja,rfl⟩:=fa3 _ hga;obtain⟨jb,rfl⟩:=fb3 _ hgb;refine yh Tryz.func332 Tryz.ntmps332 Tryz.results332 λnx hd=>?_
 have hlj:jid<nx:=yZ hd hj (by simp);have hlt:tid<nx:=yZ hd ht (by simp);have hlm:mid<nx:=yZ hd hmid (by simp);have xj:=λobs=>zA (S:=S) (obs:=obs) hlj
 have xt:=λobs=>zA (S:=S) (obs:=obs) hlt
 have xm:=λobs=>zA (S:=S) (obs:=obs) hlm
 refine za (zb ?_);intro v0;have hil:=(Ac.1 hia).1;have hkl:=(Ac.1 hkb).1;have hgi:T.getD i []=a:=by rw[Aa,hia];rfl
 have hgk:T.getD k []=b:=by rw[Aa,hkb];rfl
 have hdef:q8 x (T,num) p=bif qv x num p i k a b then ((T.set i (a++b)).set k [],num-1) else (T,num):=by
  unfold q8 We;simp only[hpi,hpk,hgi,hgk]
 have hstay:qv x num p i k a b=false->∃es' g',MapIs qJ I es' g'/\JI ss (q8 x (T,num) p).1 g' /\
   S=((S.set jid (.cells jv 387 (J2 x tid tv ss.length (q8 x (T,num) p).2 mid mv))).set tid (.cells tv 40 ((q8 x (T,num) p).1.flatMap Enc.enc))).set mid (.map mv es'):=by
  intro hc;rw[hdef,hc];refine⟨es,g,hm,hI,?_⟩;simp only[cond_false];rw[JW S jid _ hj,JW S tid _ ht,JW S mid _ hmid]
 have hal2:a.length<=1000:=by
  have h1:=(Wf hia).length_eq;have h2:=hI.perm.length_eq;rw[Ar]at h1;omega
 have hbl2:b.length<=1000:=by
  have h1:=(Wf hkb).length_eq;have h2:=hI.perm.length_eq;rw[Ar]at h1;omega
 obtain⟨m,hal⟩:∃m,a.length=m+1:=⟨a.length-1,by cases a with | nil=>cases hsa | cons _ _=>simp⟩;have hb0:0<b.length:=by cases b with | nil=>cases hsb | cons _ _=>simp
 obtain⟨la,tla,la1,la2,la3,la4,la5⟩:=el 2 rfl a m (by omega);obtain⟨fb,b',hbc⟩:∃fb b',b=fb :: b':=by cases b with | nil=>cases hsb | cons x y=>exact⟨x,y,rfl⟩
 have hend:Qc a=some la.c:=by unfold Qc;rw[hal,Cc,la1];rfl
 have hhead:Q1 b=some fb.c:=by rw[hbc];rfl
 obtain⟨ai,tai,i1,i2,i3,i0⟩:=zF rfl T i hil;rw[hia]at i1;cases i1;obtain⟨bk,tbk,k1,k2,k3,k0⟩:=zF rfl T k hkl;rw[hkb]at k1;cases k1;have hTl:=hI.len;have hil2:i<ss.length:=by omega
 have hkl2:k<ss.length:=by omega
 refine za (qY (nx:=nx) (σ:=Unit) (λ_=>True) (λ_=>[(0,.ptr jid jv 0),(3,.ptr nx v0 0),(4,I i),(5,I k)]) (λ_=>S) (λ_=>[.cells v0 392 [I p.a,I p.b,I p.s]]) ?_ ?_)
 ·repeat apply za
  refine zz none (Row.pures [0,1,2,3,4,5,7,8,9,10,11,12] (.alt 6 (Row.pures [14] (.alt 13 (Row.pures [15] .done) .stop)) (.alt 13 (.alt 6 (Row.pures [14,15] .done) .stop) .stop))) mixed (yl xj xt xm hj ht hmid) ?_;refine⟨?_,?_⟩
  ·refine⟨by rfl,(Zh rfl Tryz.underlying384 Tryz.underlying3 rfl rfl rfl ((xm _).trans hmid) fa1 z3 ?_)⟩;refine⟨by simp[yE],js trivial ?_⟩;refine⟨by rfl,(Zh rfl Tryz.underlying384 Tryz.underlying3 rfl rfl rfl ((xm _).trans hmid) fb1 z3 ?_)⟩;refine⟨by simp[yE],js trivial ?_⟩;exact zY () [] trivial (by simp[ZR]) rfl (by simp)
  ·refine⟨by rfl,(Zh rfl Tryz.underlying384 Tryz.underlying3 rfl rfl rfl ((xm _).trans hmid) fb1 z3 ?_)⟩;refine⟨by simp[yE],js trivial ?_⟩;refine⟨by rfl,(Zh rfl Tryz.underlying384 Tryz.underlying3 rfl rfl rfl ((xm _).trans hmid) fa1 z3 ?_)⟩;refine⟨by simp[yE],js trivial ?_⟩;exact zY () [] trivial (by simp[ZR]) rfl (by simp)
 intro _ _;refine za (zz none (Row.pures [0,1,2,3,4,5,6,7,8,9,10,11,12,13,14,15] .done) mixed (yl xj xt hj ht i0 (zS k0 hil2 hkl2 hTl)) ?_);have wm:IntKind.i64.wrap (m:Int)=m:=wr _ (by omega) (by omega);have hm1:m<a.length:=by omega
 refine za (qY (nx:=nx) (σ:=Unit) (λ_=>¬i=k/\la.c=p.a/\fb.c=p.b) (λ_=>[(0,.ptr jid jv 0),(3,.ptr nx v0 0),(4,I i),(5,I k),(6,L a),(7,L b)]) (λ_=>S) (λ_=>[.cells v0 392 [I p.a,I p.b,I p.s]]) ?_ ?_)
 ·by_cases h1:i=k
  ·have hc:qv x num p i k a b=false:=by simp[qv,h1]
   refine za (zz none (Row.pures [0,1,2,3,4,5,6,7,8,9,10,11,12,13,14,15,16,17,18,19,20,21,22,23] .done) mixed (zo h1 zH) ?_);exact zn rfl (zg ⟨_,S,rfl,hstay hc,zN hd⟩)
  have h1':¬(i:Int)=(k:Int):=by omega
  have hm2:(m:Int)<(m:Int)+1:=by omega
  by_cases h2:la.c=p.a
  case neg =>
   have hc:qv x num p i k a b=false:=by simp[qv,hend,h2]
   refine za (zz none (Row.pures [0,1,2,3,4,5,6,7,8,9,10,11,12,13,14,15,16,17,18,19,20,21,22,23] .done) mixed (yl h1' h2 hal wm hm2 (zE la4 la5 zH)) ?_);exact zn rfl (zg ⟨_,S,rfl,hstay hc,zN hd⟩)
  by_cases h3:fb.c=p.b
  case neg =>
   have hc:qv x num p i k a b=false:=by simp[qv,hhead,h3]
   refine za (zz none (Row.pures [0,1,2,3,4,5,6,7,8,9,10,11,12,13,14,15,16,17,18,19,20,21,22,23] .done) mixed (yl h1' h2 h3 hal wm (yG hm2 la4 la5 hbc zH)) ?_);exact zn rfl (zg ⟨_,S,rfl,hstay hc,zN hd⟩)
  refine za (zz none (Row.pures [0,1,2,3,4,5,6,7,8,9,10,11,12,13,14,15,16,17,18,19,20,21,22,23] .done) mixed (yl h1' h2 h3 hal wm (yG hm2 la4 la5 hbc zH)) ?_);exact zm rfl (zh (zY () [] ⟨h1,h2,h3⟩ (by simp[hal,hbc]) rfl (by simp)))
 rintro _ ⟨h1,h2,h3⟩;have hN0:-9223372036854775808<=num:=by omega
 refine za (qY (nx:=nx) (σ:=Unit) (λ_=>¬(p.s<=0/\num<=x.veh)) (λ_=>[(0,.ptr jid jv 0),(3,.ptr nx v0 0),(4,I i),(5,I k),(6,L a),(7,L b)]) (λ_=>S) (λ_=>[.cells v0 392 [I p.a,I p.b,I p.s]]) ?_ ?_)
 ·by_cases h4:p.s<=0
  ·by_cases h5:num<=x.veh
   ·have hc:qv x num p i k a b=false:=by simp[qv,h4,h5]
    refine za (zz none (Row.pures [0,1,2,3,4,5,6,7,8,9,10,11,12,13,14] .done) mixed (yG xj hj h4 h5 zH) ?_);exact zn rfl (zg ⟨_,S,rfl,hstay hc,zN hd⟩)
   ·refine za (zz none (Row.pures [0,1,2,3,4,5,6,7,8,9,10,11,12,13,14] .done) mixed (yG xj hj h4 h5 zH) ?_);exact zm rfl (zh (zY () [] (by simp[h5]) (by simp) rfl (by simp)))
  ·refine za (zz none (Row.pures [0,1,2,3,4,5,6,7,8,9,10,11,12,13,14] .done) mixed (zo h4 zH) ?_);exact zm rfl (zh (zY () [] (by simp[h4]) (by simp) rfl (by simp)))
 intro _ h4;have hcon:=Zmk [a,b] (by simp) (by simp;omega) (by simp;omega);rw[show [a,b].flatten=a++b from by simp]at hcon;refine za (zb ?_);refine zr hcon ?_;refine za (qY (nx:=nx) (σ:=Unit) (λ_=>zP x (a++b)=0) (λ_=>[(0,.ptr jid jv 0),(3,.ptr nx v0 0),(4,I i),(5,I k),(6,L a),(7,L b),(8,L (a++b))]) (λ_=>S) (λ_=>[.cells v0 392 [I p.a,I p.b,I p.s]]) ?_ ?_)
 ·refine za (ze [] (zo xj hj) ?_);refine zr (X8 x (a++b) hx (by simp;omega)) ?_
  by_cases h5:zP x (a++b)=0
  ·repeat apply za
   refine zm (by simp[h5]) ?_;exact zh (zY () [] h5 (by simp) rfl (by simp))
  ·have hc:qv x num p i k a b=false:=by simp[qv,h5]
   refine zn (by simp[h5]) ?_;exact zg ⟨_,S,rfl,hstay hc,zN hd⟩
 intro _ h5;have h4':(decide (p.s<=0) && decide (num<=x.veh))=false:=Bool.eq_false_iff.2 λq=>h4 (by simpa using q)
 have hjoin:qv x num p i k a b=true:=by unfold qv;rw[h4',hend,hhead,h2,h3,h5];simp[h1]
 rw[hdef,hjoin];simp only[cond_true];have yj:=λ(o:Ob) obs=>(zA (S:=S.set mid o) (obs:=obs) hlj).trans ((q10 _ _ _ _ d2).trans hj)
 have ym:=λ(o:Ob) obs=>(zA (S:=S.set mid o) (obs:=obs) hlm).trans (q11 _ _ _)
 repeat apply za
 refine zb ?_;refine zj (jr (σ:=Nat × List (Value × PV)) (λs=>s.1<=b.length/\MapIs qJ I s.2 (Qd g b i s.1)) (λs=>[(0,.ptr jid jv 0),(4,I i),(5,I k),(8,L (a++b)),(90,L b),(91,I b.length),(92,I s.1)]) (λs=>S.set mid (.map mv s.2)) (λ_=>[.cells v0 392 [I p.a,I p.b,I p.s]]) (λs=>b.length-s.1) (zY (0,es) [] ⟨by simp,by rw[Zmn];exact hm⟩ (by simp) (JW S mid _ hmid) (by simp)) ?_);rintro⟨j,es2⟩ ⟨hjl,hm2'⟩;simp only at hjl hm2' ⊢;refine za (zb ?_);refine za (zv rfl (λhq=>?_) (λhq=>?_))
 ·simp at hq;obtain⟨s,tl,a1,a2,a3,e1,e0⟩:=el 2 rfl b j hq;obtain⟨rs,f1,_,_,f4,_⟩:=hm2'.find hkey s.c;have hnew:=f4 (i:Int);rw[Zmo a3]at hnew;refine zh (za (zj (za (ze [] (zE e1 e0 hq) ?_))));intro v1;refine zz (some [jid,nx+1]) (Row.pures [0,1,2,3,4,5,6] (.alt 7 (.done) .stop)) mixed yj ?_;refine⟨by rfl,(Yy (.inl rfl) Tryz.underlying384 Tryz.underlying3 rfl rfl rfl (ym _ _) f1 ?_)⟩;rw[qc _ hlm,Store.set_set];refine⟨by simp[yE,yj],js trivial ?_⟩;refine zb ?_;exact zq (j+1,qM (qJ s.c) (I i) es2 rs) [_] ⟨hq,hnew⟩ (by simp;omega) (by simp[zu j (by omega)]) rfl (by simp;rfl)
 ·simp at hq;obtain rfl:j=b.length:=by omega
  refine zy ?_;have yt1:=λ(o:Ob) obs=>(zA (S:=S.set mid o) (obs:=obs) hlt).trans ((q10 _ _ _ _ d3).trans ht)
  have yt2:=λ(o o':Ob) obs=>(zA (S:=(S.set mid o).set tid o') (obs:=obs) hlt).trans (q11 _ _ _)
  have yj2:=λ(o o':Ob) obs=>(zA (S:=(S.set mid o).set tid o') (obs:=obs) hlj).trans ((q10 _ _ _ _ d1).trans ((q10 _ _ _ _ d2).trans hj))
  have hlen1:(T.flatMap Enc.enc).length=ss.length:=by rw[jT,hTl]
  have hs1:=ZbI (T.flatMap Enc.enc) i (L (a++b)) (by omega);have hs2:=ZbI ((T.flatMap Enc.enc).set i (L (a++b))) k (.sc (.slice none 0 0)) (by simp;omega);have hlt1:¬nx<=tid:=by omega
  have hlj1:¬nx<=jid:=by omega
  have wn:IntKind.i64.wrap (num-1)=num-1:=wr _ (by omega) (by omega);refine za (zz (some [jid]) (Row.pures [0,1,2,3,4,5,6,7,8,9,10,11] (.alt 12 (Row.pures [13] (.alt 14 (.done) .stop)) .stop)) mixed (yl yj yt1 yt2 yj2 hs1 (yl hs2 hil2 hkl2 hlen1 hlt1 hTl)) ?_);refine⟨by omega,by omega,?_⟩;have hcs:((((T.flatMap Enc.enc).set i (L (a++b))).set k (.sc (.slice none 0 0))).set k (.lst 0 []))=((T.set i (a++b)).set k []).flatMap Enc.enc:=by
   rw[DL,Zfc,Zfc,List.map_set,List.map_set];rfl
  refine VP (o:=tid) k (yt2 _ _ _) (by rw[AX (by simp;omega)]) ?_;rw[qc _ hlt,Store.set_set,hcs];generalize ((T.set i (a++b)).set k []).flatMap Enc.enc=cs' at *;refine ze [] (zE yj2 hlj1 wn) ?_;have e1:∀(o o' o'':Ob),((S.set mid o).set tid o').set jid o''=((S.set jid o'').set tid o').set mid o:=by
   intro o o' o'';rw[Store.set_comm _ jid tid _ _ (λe=>d1 e.symm),Store.set_comm _ jid mid _ _ (λe=>d2 e.symm),Store.set_comm _ tid mid _ _ (λe=>d3 e.symm)]
  rw[e1];have hdd:∀(o o' o'':Ob),zT nx (((S.set jid o'').set tid o').set mid o):=by
   intro o o' o'' q hq;rw[q10 _ _ _ _ (by omega),q10 _ _ _ _ (by omega),q10 _ _ _ _ (by omega)];exact hd q hq
  exact⟨_,_,rfl,⟨es2,_,hm2',hI.join hia hkb h1,rfl⟩,zN (hdd _ _ _)⟩
open Go Go.Shelf Go.RowKit Go.Lib Go.Sort
def Se:Store:=λ_=>.dead
def Ce:Ctx:=⟨λ_=>none,0,0⟩
theorem Zmq(w:World):Sim Ce Se w :=
 ⟨λ_ h=>absurd rfl h,(λ_ _ h=>by cases h),λ_ _ _ _ _ h=>absurd rfl h,(λ_ _ _ _ h=>by cases h),(λ_ _ _ h=>by cases h)⟩
theorem ZbJ(b:Nat):¬Ce.M Se b:=by rintro⟨o,k,h,_⟩;exact h rfl
inductive Fz:PV->Prop where
 | junk:Fz .junk
 | sc (v:Value):Fz (.sc v)
 | agg {cs:List PV} (h:∀p∈cs,Fz p):Fz (.agg cs)
 | lst {n:Nat} {cs:List PV} (h:∀p∈cs,Fz p):Fz (.lst n cs)
 | ip {cs:List PV} (h:∀p∈cs,Fz p):Fz (.ip cs)
theorem Zmr{C:Ctx}{S:Store}{w:World}{p:PV}{v:Value}(h:Rel C S w p v):Fz p->Rel Ce Se w p v:=by
 induction h with
 | junk v=>intro _;exact .junk v
 | sc v=>intro _;exact .sc v
 | agg hl h1 _ ih=>intro hz;cases hz with | agg hz=>exact .agg hl h1 λi c v hc hv=>ih i c v hc hv (hz c (Ab hc))
 | tup hl _ ih=>intro hz;cases hz
 | lst0=>intro _;exact .lst0
 | lst1 hn hm hb hM hs h1 _ ih=>intro hz;cases hz with | lst hz=>exact .lst1 hn hm hb (ZbJ _) hs h1 λi c v hc hv=>ih i c v hc hv (hz c (Ab hc))
 | ip hb hM hs h1 _ ih=>intro hz;cases hz with | ip hz=>exact .ip hb (ZbJ _) hs h1 λi c v hc hv=>ih i c v hc hv (hz c (Ab hc))
 | nl0=>intro hz;cases hz
 | nl _ _ _ _ _ _ _=>intro hz;cases hz
 | ptr _ _ _=>intro hz;cases hz
 | sl _ _ _=>intro hz;cases hz
 | fn _ _ _ _ _ _=>intro hz;cases hz
 | ifc _ _=>intro hz;cases hz
 | mp _ _ _=>intro hz;cases hz
theorem Zms{W w':World}{C':Ctx}{S':Store}(h:Step Ce Se W C' S' w'):∃q os',w'=grow (W.drewN q) os':=by
 obtain⟨p,hp⟩:=regrown_of_below (w:=W) (w':=w') ⟨h.os,h.tape.1,h.output,h.size,λb hb=>(h.blocks b hb (ZbJ b)).1⟩;have hd:=h.tape.2;rw[hp]at hd;refine⟨p.d-W.drawn,p.os,?_⟩;rw[hp];have hd':W.drawn<=p.d:=hd;have e:W.drawn+(p.d-W.drawn)=p.d:=by omega
 unfold grow redrawn World.drewN;rw[e]
section
variable {P:Program} {α:Type} [Inhabited α] {val:α->Int}
theorem Zmt{C:Ctx}{S:Store}{w:World}{x:Int}{v:Value}(h:Rel C S w (I x) v):v=.int .i64 x:=by cases h;rfl
abbrev wS(val:α->Int)(x:α):Value:=.int .i64 (val x)
theorem Zmu{g:Nat}{caps:List PV}{cf:α->α->Int}(hg:∀x y:α,Pure P g (I (val x) :: I (val y) :: caps) (I (cf x y)))(cb:Array Value)(hl:caps.length=cb.size){w:World}{blk size:Nat}
  (hr:∀(m:Nat) (os:Array Obj) (dk:Array α),dk.size=size->∀(i:Nat) (c:PV) (v:Value),caps[i]?=some c->cb[i]?=some v->Rel Ce Se (sortWorld (wS val) w blk 0 m dk os) c v):CmpLays1 P g cb (wS val) cf blk 0 size w:=by
 intro m os dk hs x y;refine((hg x y Se).2 Ce (sortWorld (wS val) w blk 0 m dk os) (#[wS val x,wS val y]++cb) (Zmq _) (by simp;omega) ?_).mono ?_
 ·intro i c v hc hv
  match i with
  | 0=>rw[Bn (by simp)]at hv;cases hc;cases hv;exact .sc _
  | 1=>rw[Bn (by simp)]at hv;cases hc;cases hv;exact .sc _
  | i+2 =>
   simp only[A5]at hc;rw[BF (by simp)]at hv;exact hr m os dk hs i c v hc (by simpa using hv)
 ·rintro e w' ⟨p,v,S',C',rfl,⟨rfl,rfl⟩,hrel,_,hst⟩;cases hrel;exact⟨rfl,Zms hst⟩
theorem Zfd{C:Ctx}{S:Store}{w:World}(hS:Sim C S w){id ver e b k:Nat}{cs0:List PV}{c:Array Value}(hid:S id=.cells ver e cs0)(g1:C.loc id=some (b,k))(g2:w.heap[b]?=some (.cells c e (0,0)))(g3:c.size=k)(dk:Array α)(hdk:dk.size<=k)(q:Nat)(os:Array Obj):
  Sim (C.at id ver (C.loc id)) (S.set id (.cells ver e (dk.toList.map λx=>I (val x)))) (sortWorld (wS val) w b 0 q dk os) /\
  Step C S w (C.at id ver (C.loc id)) (S.set id (.cells ver e (dk.toList.map λx=>I (val x)))) (sortWorld (wS val) w b 0 q dk os):=by
 have hb:b<w.heap.size:=qg g2;have hh:(sortWorld (wS val) w b 0 q dk os).heap[b]?=some (.cells (putCells (wS val) 0 dk c) e (0,0)):=by
  unfold sortWorld;rw[heap_grow_old _ _ (by simpa using hb)];simp[putRow,mapBlock,Sort.ahead,Bv,g2,onCells]
 have hgr:w.grownBy (sortWorld (wS val) w b 0 q dk os) (some b):=by
  refine⟨rfl,rfl,rfl,by simp[sortWorld],λj hj hne=>?_⟩;unfold sortWorld;rw[heap_grow_old _ _ (by simpa using hj)];have:b≠j:=λe=>hne (by rw[e])
  simp[putRow,mapBlock,Sort.ahead,Bv,this]
 have hcell:∀i,i<dk.size->∀v,(putCells (wS val) 0 dk c)[i]?=some v->v=wS val dk[i]!:=by
  intro i hi v hv;have hic:i<c.size:=by omega
  simp[putCells,hi,hic]at hv;rw[<-hv,getElem!_pos dk i hi]
 refine hS.turn (l:=C.loc id) (ver':=ver) (cs':=dk.toList.map λx=>I (val x)) hid (Ag _) (λ_=>rfl) ⟨by rw[g1];exact hgr,Db _ _⟩
  (.inr ⟨b,k,_,g1,.inr (by rw[g1];rfl),hh,by simp[putCells,g3],by simpa using hdk,λi v hi hv=>?_,λi p v hp hv=>?_⟩)
 ·rw[hcell i (by simpa using hi) v hv];rfl
 ·have hi:i<dk.size:=by have:=(Ac.1 hp).1;simpa using this
  rw[hcell i hi v hv];rw[Aj,Array.getElem?_toList,AL hi]at hp;simp only[A3,Option.some.injEq]at hp;rw[<-hp,getElem!_pos dk i hi];exact .sc _
theorem Zmv{ρ:Ren}(L:SlLaysF.n6 P ρ)(hE:qj P (ρ.f 6)){S:Store}{id ver:Nat}{f:PV}:Spec P (ρ.f 6) [.sl id ver 1 0 0,f] S (λp S'=>S'=S):=by
 refine⟨hE,?_⟩;intro C w vs hS hl hr;obtain⟨v0,v1,rfl⟩:∃v0 v1,vs=#[v0,v1]:=by
  match vs,hl with
  | ⟨[a,b]⟩,_=>exact⟨a,b,rfl⟩
 have hv0:=hr 0 _ v0 rfl rfl;cases hv0 with
 | sl h1 h2 h3 =>
  obtain⟨a,cap,rfl,q1,q2,q3,q4⟩:=h1;refine(AnyF.slices_SortFunc_none { L with } a cap _ w).mono ?_;rintro e w' ⟨rfl,rfl⟩;exact⟨.junk,_,S,C,rfl,rfl,.junk _,hS,.refl _ _ _⟩
theorem Zmw{ρ:Ren}(L:SlLaysF.n6 P ρ)(hE:qj P (ρ.f 6)){S:Store}{id ver e:Nat}(zs:List α)(hid:S id=.cells ver e (zs.map λx=>I (val x)))(hn:zs.length<=1048576)
  {g:Nat} (hG:qj P g) {caps:List PV} (hz:∀p∈caps,Fz p) (cf:α->α->Int) (hO:SWO (ltOf cf)) (hT:∀x y,(ltOf cf) x y=false->(ltOf cf) y x=false->x=y)
  (hg:∀x y:α,Pure P g (I (val x) :: I (val y) :: caps) (I (cf x y))) :
  Spec P (ρ.f 6) [.sl id ver 1 0 zs.length,.fn (.func g) [] caps] S (λp S'=>S'=S.set id (.cells ver e ((zs.mergeSort λx y=>!(ltOf cf) y x).map λx=>I (val x)))):=by
 refine⟨hE,?_⟩;intro C w vs hS hl hr;obtain⟨v0,v1,rfl⟩:∃v0 v1,vs=#[v0,v1]:=by
  match vs,hl with
  | ⟨[a,b]⟩,_=>exact⟨a,b,rfl⟩
 have hv0:=hr 0 _ v0 rfl rfl;have hv1:=hr 1 _ v1 rfl rfl;cases hv1 with
 | @fn _ _ _ fv cv hf hc hh' hcap =>
 obtain rfl:fv=#[]:=by
  have:fv.size=0:=by simpa using hf.symm
  exact Cr this
 cases hv0 with
 | sl h1 h2 h3 =>
  obtain⟨a,cap,rfl,q1,q2,q3,q4⟩:=h1
  by_cases h0:zs=[]
  ·subst h0;refine(AnyF.slices_SortFunc_none { L with } a cap _ w).mono ?_;rintro e w' ⟨rfl,rfl⟩;refine⟨.junk,_,S,C,rfl,?_,.junk _,hS,.refl _ _ _⟩;funext i;simp only[Store.set,List.mergeSort_nil];split
   ·rename_i e;rw[e,hid]
   ·rfl
  ·have hpos:0<zs.length:=B5.2 h0;rcases hS.cells id ver _ _ hid with ⟨hn',hnil⟩ | ⟨b,k,c,g1,g2,g3,g4,g5,g6⟩
   ·simp at hnil;exact absurd hnil h0
   ·have ha:a=some ⟨b,0,none⟩:=by
     rcases (h3 ver (by rw[hid];rfl)).2 rfl with ⟨z1,_⟩ | ⟨b',k',a',cap',z1,z2,z3,z4⟩
     ·rw[g1]at z1;cases z1
     ·rw[g1]at z1;cases z1;cases z2;exact(z3 rfl).1
    subst ha;rw[List.length_map]at g4 g5;have hcells:∀i (hi:i<zs.length),c[i]?=some (wS val zs[i]):=by
     intro i hi;have hi':i<c.size:=by omega
     have e1:(zs.map λx=>I (val x))[i]?=some (I (val zs[i])):=by simp[hi]
     have e2:c[i]?=some c[i]:=by simp
     rw[e2,Zmt (g6 i _ _ e1 e2)]
    have hH:Holds (wS val) w b 0 zs.toArray:=by
     intro j hj;have hj':j<zs.length:=by simpa using hj
     refine⟨?_,by simp[World.frozen?,g2]⟩;simp only[World.cell?,g2,AR,Dh,A6,if_false];rw[hcells j hj',getElem!_pos zs.toArray j hj];simp
    have hlays:CmpLays1 P g cv (wS val) cf b 0 zs.toArray.size w:=by
     refine Zmu hg cv (by simpa using hc) λm os dk hs i p v hp hv=>?_
     obtain⟨_,st⟩:=Zfd (val:=val) hS hid g1 g2 g3 dk (by rw[hs];simpa using g4) m os;exact Zmr ((hcap i p v hp hv).mono st) (hz p (Ab hp))
    have hk:=Any.slices_SortFunc_total L (wS val) (λ_=>rfl) cf hO g cv b 0 cap zs.toArray w hG hlays hH (qg g2) (by simp;omega) hT;simp only[BB]at hk;refine hk.mono ?_;rintro e w' ⟨rfl,m,os,rfl⟩;obtain⟨t1,t2⟩:=Zfd (val:=val) hS hid g1 g2 g3 (zs.mergeSort λx y=>!(ltOf cf) y x).toArray (by simpa using g4) m os;exact⟨.junk,_,_,_,rfl,rfl,.junk _,t1,t2⟩
end
open Go
theorem Zfe(x:Int):Pure prog 303 [I x] (B false):=by
 refine zt Tryz.func303 Tryz.ntmps303 Tryz.results303 λS nx hd=>?_
 refine za (zb ?_);refine za (zb ?_);exact zg (zi hd (by simp;rfl) rfl)
theorem Zff(x y:Int):Pure prog 376 [I x,I y] (I (uv x y)):=by
 refine zt Tryz.func376 Tryz.ntmps376 Tryz.results376 λS nx hd=>?_
 refine za (zb ?_);refine za (zb ?_);refine zr (Zfe x) ?_;refine za (zb ?_);refine zr (Zfe y) ?_
 repeat apply za
 refine zb ?_;refine zm (by simp) ?_;refine zh ?_
 repeat apply za
 refine zb ?_;refine zm (by simp) ?_;refine zh ?_
 by_cases h1:x<y
 ·repeat apply za
  refine ze [] h1 ?_;refine zn (by simp[h1]) ?_;refine za (zb ?_);exact zg (zi hd (by simp;rfl) (by simp[uv,h1,zp]))
 repeat apply za
 refine ze [] h1 ?_;refine zm (by simp[h1]) ?_;refine zh ?_
 by_cases h2:y<x
 ·repeat apply za
  refine ze [] h2 ?_;refine zn (by simp[h2]) ?_;refine za (zb ?_);exact zg (zi hd (by simp;rfl) (by simp[uv,h1,h2,zp]))
 repeat apply za
 refine ze [] h2 ?_;refine zm (by simp[h2]) ?_;refine zh (za (zb ?_));exact zg (zi hd (by simp;rfl) (by simp[uv,h1,h2,zp]))
theorem Zmx(x y:Int):Pure prog 375 [.lst 2 [I x,I y]] (I (if x=0 then y else x)):=by
 refine zt Tryz.func375 Tryz.ntmps375 Tryz.results375 λS nx hd=>?_
 refine za (zb ?_);refine za (zb ?_)
 repeat apply za
 refine zb ?_;refine zj (zD (λs:Nat=>s<=2/\(0<s->x=0)/\(1<s->y=0)) (λk=>[(3,I 0),(6,.lst 2 [I x,I y]),(7,I 2),(8,I k)]) (λ_=>[]) (λs=>2-s) 0 [] (by simp) (by simp) (by simp) ?_);rintro k ⟨hk,hk1,hk2⟩
 match k,hk,hk1,hk2 with
 | 0,_,_,_ =>
  refine za (zb ?_);refine za (zn (by simp) ?_);refine zh (za (zj (za (zb ?_))))
  by_cases hx:x=0
  ·refine za (ze [] hx ?_);refine zm (by simp[hx]) ?_;refine zh (zb ?_);exact zq 1 [] ⟨by omega,λ_=>hx,by omega⟩ (by omega) (by simp[hx];rfl) rfl (by simp)
  ·refine za (ze [] hx ?_);refine zn (by simp[hx]) ?_;refine za (zb ?_);exact zg (zi hd (by simp;rfl) (by simp[hx,zp]))
 | 1,_,hk1,_ =>
  have hx:=hk1 (by omega);refine za (zb ?_);refine za (zn (by simp) ?_);refine zh (za (zj (za (zb ?_))))
  by_cases hy:y=0
  ·refine za (ze [] hy ?_);refine zm (by simp[hy]) ?_;refine zh (zb ?_);exact zq 2 [] ⟨by omega,λ_=>hx,λ_=>hy⟩ (by omega) (by simp[hy];rfl) rfl (by simp)
  ·refine za (ze [] hy ?_);refine zn (by simp[hy]) ?_;refine za (zb ?_);exact zg (zi hd (by simp;rfl) (by simp[hx,zp]))
 | 2,_,hk1,hk2 =>
  refine za (zb ?_);refine za (zm (by simp) ?_);refine zy (za (zb ?_));exact zg (zi hd (by simp;rfl) (by simp[hk1 (by omega),hk2 (by omega),zp]))
theorem Zmy(l:List Int)(i j:Fin l.length)(hn:l.length<=1048576):Pure prog 374 [I i.val,I j.val,.ip [L l]] (I (wQ l i j)):=by
 obtain⟨a,tl,a1,a2,a3,e0⟩:=zF rfl l i.val i.isLt;obtain⟨b,tl2,b1,b2,b3,e1⟩:=zF rfl l j.val j.isLt;have hi:=i.isLt;have hj:=j.isLt;have ha:l.getD i.val 0=a:=by rw[Aa,a1];rfl
 have hb:l.getD j.val 0=b:=by rw[Aa,b1];rfl
 have hor:=Zmx (uv a b) (uv i.val j.val);have hres:wQ l i j=if uv a b=0 then uv (i.val:Int) j.val else uv a b:=by unfold wQ;rw[ha,hb]
 rw[hres];refine zt Tryz.func374 Tryz.ntmps374 Tryz.results374 λS nx hd=>?_
 refine za (zb ?_);refine za (zz none (Row.pures [0,1,2,3,4,5,6,7,8,9,10,11,12,13,14] .done) mixed (zS hi hj e0 e1) ?_);refine zJ (Zff a b) (zS hi hj e0 e1) ?_;refine zJ (Zff i.val j.val) trivial ?_;refine zJ (hor) trivial ?_;exact zg (zi hd (by simp;rfl) rfl)
theorem ZbK(l:List Int):l.flatMap Enc.enc=l.map I:=by induction l<;>simp_all
theorem Zmz(l:List Int):∀p∈[PV.ip [L l]],Fz p:=by
 intro p hp;simp only[AV]at hp;subst hp;refine .ip λq hq=>?_
 simp only[AV]at hq;subst hq;refine .lst λr hr=>?_
 rw[ZbK]at hr;obtain⟨x,_,rfl⟩:=An.1 hr;exact .sc _
def vz(n k:Nat):List Int:=(List.range n).map λi=>if i<k then (i:Int) else 0
theorem ZmA(n k:Nat):(vz n k).length=n:=by simp[vz]
theorem ZmB(n:Nat):vz n 0=List.replicate n 0:=by
 apply Bb
 ·simp[vz]
 ·intro i h1 h2;simp[vz]
theorem ZmC(n k:Nat)(h:k<n):(vz n k).set k (k:Int)=vz n (k+1):=by
 apply Bb
 ·simp[vz]
 ·intro i h1 h2;rw[Da];simp only[vz,BX,CM]
  by_cases e:k=i
  ·subst e;rw[if_pos rfl,if_pos (by omega)]
  ·rw[if_neg e]
   by_cases h3:i<k
   ·rw[if_pos h3,if_pos (by omega)]
   ·rw[if_neg h3,if_neg (by omega)]
theorem ZmD(n:Nat):vz n n=(List.finRange n).map λx=>(x.val:Int):=by
 apply Bb
 ·simp[vz]
 ·intro i h1 h2;have:i<n:=by simpa[vz] using h1
  simp[vz,this]
theorem Zfg{α:Type}(l:List α)(f:α->Int):(l.map f).flatMap Enc.enc=l.map λx=>I (f x):=by induction l<;>simp_all
theorem ZmE(n:Nat):yY n (.int .i64 0)=(List.replicate n (0:Int)).flatMap Enc.enc:=by
 induction n with
 | zero=>simp
 | succ n ih=>rw[Y4,ih,BG];simp[qW,Value.cells]
theorem ZmF(l:List Int)(k:Nat)(v:Int)(h:k<l.length):yc (l.flatMap Enc.enc) k [I v]=(l.set k v).flatMap Enc.enc:=by
 rw[ZbK,ZbK,yc,List.map_set,AH,if_pos (by simpa using h)];simp
theorem ZmG(l:List Int)(hn:l.length<=1048576):Pure prog 366 [L l] (L (vX l)):=by
 have hE:qj prog 373:=qh Tryz.func373 (by rfl) rfl;have hG:qj prog 374:=qh Tryz.func374 (by rfl) rfl;refine zt Tryz.func366 Tryz.ntmps366 Tryz.results366 λS nx hd=>?_
 refine za (zb ?_);intro v0;refine za (zb ?_);refine⟨by omega,λv1=>?_⟩
 repeat apply za
 refine zb ?_;refine zj (zD (λs:Nat=>s<=l.length) (λk=>[(1,.ptr nx v0 0),(3,.sl (nx+1) v1 1 0 l.length),(9,I l.length),(10,I k)]) (λk=>[.cells v0 26 [L l],.cells v1 3 ((vz l.length k).flatMap Enc.enc)]) (λs=>l.length-s) 0 [] (by simp) (by simp) (by simp[ZmB,ZmE]) ?_);rintro k hk;refine za (zb ?_);refine za (zv rfl (λhc=>?_) (λhc=>?_))
 ·simp at hc;have hl1:=ZmA l.length k;have hsp:=ZmF (vz l.length k) k k (by omega);rw[ZmC _ _ hc]at hsp;refine zh (za (zj (za (zb ?_))));refine ze [] (zE hc hl1 hsp) ?_;refine⟨by omega,?_⟩;refine zb ?_;exact zq (k+1) [] hc (by omega) (by simp[zu k (by omega)]) rfl (by simp)
 ·simp at hc;obtain rfl:k=l.length:=by omega
  refine zy ?_;rw[ZmD,Zfg];refine xM 0 rfl ?_;refine za (zb ?_)
  by_cases h0:l.length=0
  ·obtain rfl:l=[]:=Aw h0;refine λhsuf=>((Zmv Tryz.laysSlF6_f373 hE).mono ?_).v
   rintro _ _ rfl;refine⟨_,_,rfl,zL hsuf ?_⟩;refine yb 1 rfl ?_;refine za (zb ?_);have hs0:vX []=[]:=Aw (ZbB []);exact zg (zi hd (by simp;rfl) (by rw[hs0];rfl))
  ·haveI:Inhabited (Fin l.length):=⟨⟨0,by omega⟩⟩
   have hs:=λS id ver hid=>Zmw (S:=S) (id:=id) (ver:=ver) (e:=3) (val:=λi:Fin l.length=>(i.val:Int)) Tryz.laysSlF6_f373 hE (List.finRange l.length) hid (by simp;omega) hG (Zmz l) (wQ l) (VM l) (Ze9 l) (λx y=>Zmy l x y hn)
   rw[List.length_finRange]at hs;have hfl:=Zfg (QZ l) (λi=>(i.val:Int));have hsl:=ZbB l;refine λhsuf=>((hs _ (nx+1) v1 (by rw[zU];rfl)).mono ?_).v
   rintro _ _ rfl;refine⟨_,_,yg _ (by omega) (by simp),?_⟩;rw[show (((List.finRange l.length).mergeSort λx y=>!(ltOf (wQ l)) y x).map λx=>I (x.val:Int))=(vX l).flatMap Enc.enc from hfl.symm];refine jH [] (show nx+1-nx=1 from by omega) hsuf ?_;refine yb 1 rfl ?_;refine za (ze [] hsl ?_);exact zg (zi hd (by simp;rfl) (by simp[zp,hsl]))
open Go Hp
theorem ZmH(x:Inst)(c:List Int)(a b:Int):jI x (c++[b]) a=jI x c a++(if b≠a then [⟨a,b,ux x a b⟩] else []):=by
 unfold jI
 by_cases h:b=a<;>simp[h]
theorem ZmI(x:Inst)(c:List Int)(a:Int):(jI x c a).length<=c.length:=by
 unfold jI;rw[List.length_map];exact By _ _
theorem ZmJ(l:List Pr)(p:Pr):qK (l++[p])=qK l++[-p.s]:=by simp[qK]
theorem ZmK(l:List Pr):(qK l).length=l.length:=by simp[qK]
theorem ZmL(x:Inst)(c:List Int)(a:Int)(hx:qU x)(hc:c.length<=1048576)(hs:∀b∈c,qe b)(ha:qe a):Pure prog 347 [.agg (zx x),L c,I a] (L (wA x c a)):=by
 refine zt Tryz.func347 Tryz.ntmps347 Tryz.results347 λS nx hd=>?_
 refine za (zb ?_);intro v0;refine za (zb ?_);refine za (jf 7 392 3 rfl λv1=>?_);refine zb ?_;refine za (jf 8 3 1 rfl λv2=>?_);refine za (zb ?_);refine zj (zD (λs:Nat × List Pr × Nat × Nat=>s.1<=c.length/\s.2.1=jI x (c.take s.1) a) (λ(k,ps,v1,v2)=>[(1,L c),(2,I a),(3,.ptr nx v0 0),(7,.sl (nx+1) v1 3 0 ps.length),(8,.sl (nx+2) v2 1 0 ps.length),(15,L c),(16,I c.length),(17,I k)]) (λ(k,ps,v1,v2)=>[.cells v0 25 (zx x),.cells v1 392 (ps.flatMap Enc.enc),.cells v2 3 ((qK ps).flatMap Enc.enc)]) (λs=>c.length-s.1) (0,[],v1,v2) [] (by simp[jI]) (by simp) (by simp[qK]) ?_);rintro⟨k,ps,v1,v2⟩ ⟨hk,ho⟩;simp only at hk ho ⊢;have hpl:ps.length<=k:=by rw[ho];refine AB (ZmI _ _ _) ?_;simp;omega
 have hnl:=ZmK ps;refine za (zb ?_);refine za (zv rfl (λhq=>?_) (λhq=>?_))
 ·simp at hq;obtain⟨b,tl,a1,a2,a3,e0⟩:=zF rfl c k hq;have hb:=hs b (Ab a1);have hsv:=ZbG hx a b;have w5:IntKind.i64.wrap (-ux x a b)=-ux x a b:=wr _ (by omega) (by omega);have hsn:=ZmH x (c.take k) a b;rw[<-a3,<-ho]at hsn;refine zh (za (zj (za (ze [] (zo e0 hq) ?_))));refine za (zb ?_);refine zv rfl (λhne=>?_) (λhne=>?_)
  ·simp at hne;rw[if_pos hne]at hsn;refine za (zb ?_);refine zr (Zmh x a b hx ha hb) ?_;intro v3;refine za (zb ?_);refine⟨by omega,?_⟩;have htk:List.take ps.length ((qK ps).flatMap Enc.enc)=(qK ps).flatMap Enc.enc:=by rw[<-hnl];exact Zkf _
   have hnf:((qK ps).flatMap Enc.enc).length=ps.length:=by rw[jG,hnl]
   refine ze [] (zE w5 htk hnf) ?_;refine⟨by omega,?_⟩;refine zb ?_;exact zq (k+1,ps++[⟨a,b,ux x a b⟩],v1+1,v2+1) [_] ⟨hq,hsn.symm⟩ (by simp;omega) (by simp[zu k (by omega)]) rfl (by simp[ZmJ];rfl)
  ·simp at hne;rw[if_neg (by simp[hne]),AF]at hsn;refine zh (zb ?_);exact zq (k+1,ps,v1,v2) [] ⟨hq,hsn.symm⟩ (by simp;omega) (by simp[zu k (by omega)]) rfl (by simp)
 ·simp at hq;obtain rfl:k=c.length:=by omega
  rw[Ao]at ho;refine zy (yb 1 rfl ?_);refine yb 2 rfl ?_;refine za (zb ?_);refine za (jf 12 392 3 rfl λv3=>?_);have hrw:wA x c a=(vX (qK ps)).map (vY ps):=by rw[ho];rfl
  rw[hrw];have hsl:=ZbB (qK ps);have hmem:∀z∈vX (qK ps),0<=z/\z<ps.length:=λz h=>by have:=ZlZ h;omega
  have hcall:=ZmG (qK ps) (by omega);rw[show L (qK ps)=PV.lst ps.length ((qK ps).flatMap Enc.enc) from by rw[<-hnl]]at hcall;generalize qK ps=ns at *;refine za (ze [] hnl ?_);refine zr hcall ?_;generalize vX ns=is at *;refine zj (zD (λs:Nat × List Pr × Nat=>s.1<=is.length/\s.2.1=(is.take s.1).map (vY ps)) (λ(k,os,v)=>[(7,L ps),(12,.sl (nx+3) v 3 0 os.length),(43,L is),(44,I is.length),(45,I k)]) (λ(k,os,v)=>[.cells v0 25 (zx x),.dead,.dead,.cells v 392 (os.flatMap Enc.enc)]) (λs=>is.length-s.1) (0,[],v3) [] (by simp) (by simp[hnl]) (by simp) ?_);rintro⟨k,os,v⟩ ⟨hk,ho2⟩;simp only at hk ho2 ⊢;refine za (zb ?_);refine za (zv rfl (λhq=>?_) (λhq=>?_))
  ·simp at hq;obtain⟨i,tl,a1,a2,a3,e0⟩:=zF rfl is k hq;obtain⟨q1,q2⟩:=hmem i (Ab a1);obtain⟨j,rfl⟩:∃j:Nat,i=j:=⟨i.toNat,by omega⟩;have hj:j<ps.length:=by omega
   obtain⟨p,tp,b1,b2,b3,e1,e2⟩:=el 3 rfl ps j hj;have hg:vY ps (j:Int)=p:=by simp[vY,Aa,b1]
   have hgs:(is.take (k+1)).map (vY ps)=os++[p]:=by rw[a3,ho2];simp[hg]
   have hgl:os.length=k:=by rw[ho2];simp;omega
   refine zh (za (zj (za (ze [] (zo e0 hq) ?_))));refine ze [] (zE e1 e2 hj) ?_;refine⟨by omega,?_⟩;refine zb ?_;exact zq (k+1,os++[p],v+1) [] ⟨hq,hgs.symm⟩ (by simp;omega) (by simp[zu k (by omega)]) rfl (by simp)
  ·simp at hq;obtain rfl:k=is.length:=by omega
   rw[Ao]at ho2;refine zy (yb 3 rfl ?_);refine za (zb ?_);exact zg (zi hd (by simp;rfl) (by simp[zp,ho2]))
open Go Hp
@[simp] theorem ZxQ(d1 d2 a b c:Ob)(l:List Ob)(o:Ob × Ob × Ob):Z0 (d1 :: d2 :: a :: b :: c :: l) 2 o=d1 :: d2 :: o.1 :: o.2.1 :: o.2.2 :: l:=rfl
theorem HX.srt{o:Ob × Ob × Ob}{a hv mv:Nat}{r:zG Int}(h:HX o a hv mv r):vW r:=by
 obtain⟨_,_,_,h⟩:=h (λi=>if i=a then o.1 else if i=a+1 then o.2.1 else o.2.2) (by simp) (by simp) (by simp);exact h
theorem ZmM{id:Int}{r:zG Int}(h:∀x∈r,x.1≠id):j6 id r=false:=by
 simp only[j6,Cp];intro x hx;simpa using h x hx
def Wg(p:Pr):List PV:=[.agg [I p.a,I p.b,I p.s]]
def j7(x:Inst)(c:List Int)(k:Nat):List (List Pr):=(c.take k).map (wA x c)
theorem Zfh(x:Inst)(c:List Int):j7 x c 0=[]:=by simp[j7]
theorem ZmN{x:Inst}{c:List Int}{k:Nat}{a:Int}(h:c.take (k+1)=c.take k++[a]):j7 x c (k+1)=j7 x c k++[wA x c a]:=by simp[j7,h]
theorem ZmO(x:Inst)(c:List Int):j7 x c c.length=c.map (wA x c):=by simp[j7]
theorem Zfi(x:Inst)(c:List Int)(k:Nat)(h:k<=c.length):(j7 x c k).length=k:=by simp[j7];omega
def uy(rows:List (List Pr))(n:Nat):List PV:=rows.flatMap Enc.enc++List.replicate (n-rows.length) (.sc (.slice none 0 0))
theorem Zfj(rows:List (List Pr))(n:Nat)(h:rows.length<=n):(uy rows n).length=n:=by simp[uy];omega
theorem ZmP(n:Nat):uy [] n=yY n (.slice none 0 0):=by
 unfold uy;simp only[Ck,AS,Ah,DY]
 induction n with
 | zero=>simp
 | succ n ih=>rw[Y4,BG,ih];simp[qW,Value.cells]
theorem ZmQ(rows:List (List Pr)):uy rows rows.length=rows.flatMap Enc.enc:=by simp[uy]
theorem ZmR(rows:List (List Pr))(n:Nat)(r:List Pr)(h:rows.length<n):yc (uy rows n) rows.length [L r]=uy (rows++[r]) n:=by
 unfold uy yc;have h1:(rows.flatMap Enc.enc).length=rows.length:=jT rows;obtain⟨m,hm⟩:∃m,n-rows.length=m+1:=⟨n-rows.length-1,by omega⟩;rw[hm,BG];rw[BA (by omega),Af (by omega)];rw[CG,Bg (by simp)];simp[h1,show n-(rows.length+1)=m by omega]
theorem ZmS(rows:List (List Pr))(n:Nat)(r:List Pr):(uy (rows++[r]) n)[rows.length]?=some (L r):=by
 unfold uy;rw[Av,List.append_assoc,Ak (by rw[jT];exact Ag _),jT];simp
theorem ZmT(rows:List (List Pr))(k:Nat)(r:List Pr)(h:k<rows.length):yc (rows.flatMap Enc.enc) k [L r]=(rows.set k r).flatMap Enc.enc:=by
 have e:∀l:List (List Pr),l.flatMap Enc.enc=l.map λr=>L r:=λl=>by induction l<;>simp_all
 rw[e,e,yc,List.map_set,AH,if_pos (by simpa using h)];simp
theorem VQ:∀(rows:List (List Pr)) (i:Nat) (r:List Pr),yP i (rows++[r])=yP i rows++yP (i+rows.length) [r]
 | [],i,r=>by simp[yP]
 | [] :: rows,i,r=>by
  simp only[List.cons_append,yP,Ae];rw[VQ rows (i+1) r,show i+1+rows.length=i+(rows.length+1) by omega]
 | (p :: l) :: rows,i,r=>by
  simp only[List.cons_append,yP,Ae];rw[VQ rows (i+1) r,show i+1+rows.length=i+(rows.length+1) by omega]
theorem ZmU(rows:List (List Pr)):yP 0 (rows++[[]])=yP 0 rows:=by rw[VQ];simp[yP]
theorem ZmV(rows:List (List Pr))(p:Pr)(tl:List Pr):(yP 0 (rows++[p :: tl])).Perm (((rows.length:Int),-p.s) :: yP 0 rows):=by
 rw[VQ];simp only[yP,AR];exact BQ
theorem Zfk{rows:List (List Pr)}{k:Nat}(h:rows.getD k []=[]){r:zG Int}(hp:r.Perm (yP 0 rows)):j6 (k:Int) r=false:=by
 refine ZmM λx hx e=>?_
 obtain⟨j,p,tl,hj,rfl⟩:=(J1 rows 0 x).1 (hp.subset hx);simp only[AR]at e;have:j=k:=by omega
 subst this;rw[Aa,hj]at h;cases h
theorem ZmW(x:Inst)(ss:List Stop):Pure prog 331 [.agg (zx x),L ss] (.fn (.func 345) [] [.ip [L ss],.ip (zx x)]):=by
 refine zt Tryz.func331 Tryz.ntmps331 Tryz.results331 λS nx hd=>?_
 refine za (zb ?_);intro v0 v1;refine za (zb ?_);refine xM 0 rfl ?_;refine xM 1 rfl ?_;exact zg (zi hd (by simp;rfl) rfl)
theorem ZmX(x:Inst)(ss:List Stop)(hx:qU x)(hss:ss.length<=1048576)(hs:∀s∈ss,qe s.c)(hnd:(ss.map (·.c)).Nodup):Y8 prog 345 [.ip [L ss],.ip (zx x)] ((qT x (ss.map (·.c))).map Wg):=by
 have hcust:=λS nx hd=>X4 ss hss S nx hd
 obtain⟨zs,hzs⟩:∃zs,zs=ss.map (·.c):=⟨_,rfl⟩;have hzl:ss.length=zs.length:=by rw[hzs];simp
 rw[<-hzs,hzl]at hcust;rw[<-hzs]at hnd ⊢;have hzsm:∀b∈zs,qe b:=by
  intro b hb;rw[hzs]at hb;obtain⟨s,h1,rfl⟩:=An.1 hb;exact hs s h1
 have hz1:=X6 zs;have hz2:=ZeQ zs;have hz3:=(Zbp zs).2 hnd;have hz4:=Qa zs;have hz5:qT x zs=qT x (yR zs):=Zl7 hnd hz3 hz2.symm;have hz6:(yR zs).Pairwise (· < ·):=(List.Pairwise.and hz1 hz3).imp λ⟨h1,h2⟩=>by omega
 have hzn:zs.length<=1048576:=by omega
 have hcsm:∀b∈yR zs,qe b:=λb hb=>hzsm b (hz2.subset hb)
 have hsort:=λ(S:Store) (id ver:Nat) (hid:S id=.cells ver 3 (zs.flatMap Enc.enc))=>VI zs hid hzn
 rw[hz5];generalize yR zs=c at *;clear hzs hz1 hz5;refine X0 Tryz.func345 (by rfl) rfl Tryz.ntmps345 (congrArg Array.toList Tryz.results345) (by simp) λl V keep nx J hJd hY A0 hA0=>?_
 refine za (zb ?_);refine λhsuf=>((hcust _ _ jF).mono ?_).v
 rintro _ _ ⟨v1,rfl,rfl⟩;refine⟨_,_,JP _,jH [] Nat.add_assoc hsuf ?_⟩;refine za (zb ?_);refine λhsuf=>((hsort _ _ _ (by simp)).mono ?_).v
 rintro _ _ rfl;refine⟨_,_,yg _ (by simp) (by simp),zL hsuf ?_⟩;rw[<-hz4];refine yb 1 rfl ?_;refine za (zb ?_);refine λhsuf=>(ZlV.mono ?_).v
 rintro p _ ⟨hv,mv,o1,rfl,m1,rfl⟩;refine⟨_,_,rfl,zL hsuf ?_⟩;simp at m1;refine za (zb ?_);refine⟨by omega,λv0=>?_⟩
 repeat apply za
 refine zb ?_;have hpw:∀(row:List Pr) (a:Int),row=wA x c a->∀p∈row,IntKind.i64.wrap (-p.s)=-p.s:=by
  intro row a e p hp;rw[e]at hp;have h1:=(ZbF x c a).subset hp;unfold jI at h1;obtain⟨b,_,rfl⟩:=An.1 h1;have:=ZbG hx a b
  show IntKind.i64.wrap (-ux x a b)=-ux x a b
  exact wr _ (by omega) (by omega)
 refine zj (zD (λs:Nat × zG Int × (Ob × Ob × Ob) × Nat=>s.1<=c.length/\s.2.1.Perm (yP 0 (j7 x c s.1))/\HX s.2.2.1 (nx+2) hv mv s.2.1) (λ(k,its,o,v)=>[(0,jS l),(2,.ip (zx x)),(4,L c),(5,.ptr (nx+3) hv 0),(6,.sl (nx+5) v 1 0 c.length),(21,L c),(22,I c.length),(23,I k)]) (λ(k,its,o,v)=>[.dead,.dead,o.1,o.2.1,o.2.2,.cells v 429 (uy (j7 x c k) c.length)]) (λs=>c.length-s.1) (0,[],o1,v0) [] ⟨by simp,by simp[Zfh,yP],m1⟩ (by simp) (by simp[Zfh,ZmP]) ?_);rintro⟨k,its,o,v⟩ ⟨hk,hp,hm⟩;simp only at hk hp hm ⊢;refine za (zb ?_);refine za (zv rfl (λhq=>?_) (λhq=>?_))
 ·simp at hq;obtain⟨a,tl,a1,a2,a3,e0⟩:=zF rfl c k hq;have hkl:=Zfi x c k (by omega);have hks:=ZmN (x:=x) a3;have hput:=ZmR (j7 x c k) c.length (wA x c a) (by omega);have hat:=ZmS (j7 x c k) c.length (wA x c a);have hrl:=Zfj (j7 x c k) c.length (by omega);have hrl2:=Zfj (j7 x c k++[wA x c a]) c.length (by simp;omega);rw[hkl]at hput hat;have hno:j6 (k:Int) its=false:=Zfk (k:=k) (rows:=j7 x c k) (by rw[Aa,Ai (by omega)];rfl) hp;have hil:its.length<=k:=by rw[hp.length_eq];exact AB (VO _ _) (by omega)
  refine zh (za (zj (za (ze [] (zo e0 hq) ?_))));refine za (zb ?_);refine qt [] (ZmL x c a hx (by omega) hcsm (hcsm a (Ab a1))) (zE hput hrl hq) ?_;refine⟨by omega,?_⟩;have hw:=hpw (wA x c a) a rfl;have hsn:=ZmV (j7 x c k);have hsn0:=ZmU (j7 x c k);generalize hrow:wA x c a=row at *;have hat2:∀h,(uy (j7 x c k++[row]) c.length)[k]'h=L row:=λh=>(Ac.1 hat).2
  refine za (ze [] (zE hat2 hq hrl2) ?_);cases row with
  | nil =>
   refine zm rfl (zh (zb ?_));refine zq (k+1,its,o,v) [] ⟨hq,?_,hm⟩ (by simp;omega) (by simp[zu k (by omega)]) rfl (by simp[hks]);simp only[hks,hsn0];exact hp
  | cons p rl =>
   have hwp:=hw p (by simp);refine zn (by simp) ?_;refine ze [] (zS hat2 hq hrl2 hwp) ?_;refine λhsuf=>((Ze8 (j:=2) hm rfl rfl rfl (k:Int) (-p.s) (by omega)).mono ?_).v
   rintro _ T ⟨rfl,o2,m2,rfl⟩;refine⟨_,_,rfl,?_⟩;rw[hno]at m2;simp only[cond_false]at m2;refine zL hsuf ?_;refine zb ?_;refine zq (k+1,ZZ ((k:Int),-p.s) its,o2,v) [] ⟨hq,?_,m2⟩ (by simp;omega) (by simp[zu k (by omega)]) rfl (by simp[hks]);simp only[hks];have:=hsn p rl;rw[hkl]at this;exact(Wa _ _).trans ((hp.cons _).trans this.symm)
 ·simp at hq;obtain rfl:k=c.length:=by omega
  obtain⟨hb1,hb2,hb3⟩:=Zmf (x:=x) hz6;rw[<-ZmO]at hb1 hb2 hb3;have hrl:=Zfi x c c.length (Ag _);have hrc:=ZmQ (j7 x c c.length);rw[hrl]at hrc;rw[hrc];generalize j7 x c c.length=rows at *;refine zy (zj (jr (σ:=Nat × Store × List (List Pr) × zG Int × (Ob × Ob × Ob) × Nat) (λs=>s.1<=(qT x c).length/\J s.1 s.2.1/\Rows' c s.2.2.1/\(∀r∈s.2.2.1,Sd wy r)/\s.2.2.1.flatten.Perm ((qT x c).drop s.1)/\s.2.2.2.1.Perm (yP 0 s.2.2.1)/\HX s.2.2.2.2.1 (nx+2) hv mv s.2.2.2.1) (λs=>[(0,jS l),(5,.ptr (nx+3) hv 0),(6,.sl (nx+5) s.2.2.2.2.2 1 0 c.length)]) (λs=>s.2.1) (λs=>[.dead,.dead,s.2.2.2.2.1.1,s.2.2.2.2.1.2.1,s.2.2.2.2.1.2.2,.cells s.2.2.2.2.2 429 (s.2.2.1.flatMap Enc.enc)]) (λs=>(qT x c).length-s.1) (zY (0,A0,rows,its,o,v) [] ⟨by simp,hA0,hb1,hb2,by simpa using hb3,hp,hm⟩ (by simp) rfl (by simp)) ?_));rintro⟨i,A,rows,its,o,v⟩ ⟨hi,hJ,hr1,hr2,hr3,hp,hm⟩;simp only at hi hJ hr1 hr2 hr3 hp hm ⊢;have hrl:rows.length=c.length:=hr1.len;have hs:=hm.srt;refine zj (za (xl [] (by rfl) (by rfl) λK Gc Gh hK hGc hGh X hX0 hX=>?_));simp -implicitDefEqProofs [hX0,hX]
  try clear hX0 hX X
  refine hGc _ _ _ _ _ _ _ λhsuf=>((ZlU (j:=2) hm rfl rfl rfl).mono ?_).v
  rintro _ T ⟨rfl,o2,m2,rfl⟩;refine⟨_,_,rfl,?_⟩;cases its with
  | nil =>
   clear hGc hGh;clear Gc Gh;refine xL hsuf (D:=[]) (by rfl) λGc Gh hGc hGh X hX0 hX=>?_
   simp -implicitDefEqProofs [hX0,hX,QY,zW,wM];clear hX0 hX X;refine hK _ _ _ ?_;clear hK hGc hGh;clear K Gc Gh;have h0:∀r∈rows,r=[]:=by
    intro r hr;cases r with
    | nil=>rfl
    | cons p tl =>
     obtain⟨j,hj⟩:=Bj.1 hr;have:=(J1 rows 0 ((j:Int),-p.s)).2 ⟨j,p,tl,hj,by rw[AR]⟩;rw[Dw.1 hp]at this;cases this
   have hfin:=Zl2 hr3 hi h0
   repeat apply za
   refine ze [(2,61)] zH ?_;exact zn rfl (zg (uO (hJd _ _ hJ) rfl (by simpa[hfin] using hJ)))
  | cons it r =>
   obtain⟨q,y,tl,e1,e2,e3,e4,e5,e6,e7⟩:=Zmg hz6 hr1 hr2 hr3 hs hp.symm;subst e1;have hql:=(Ac.1 e2).1;have hql2:q<c.length:=by omega
   obtain⟨y',tr,a1,a2,a3,e0⟩:=zF rfl rows q hql;rw[e2]at a1;cases a1;have hil:=(Ac.1 e4).1;have hyx:((qT x c).map Wg)[i]?=some (Wg y):=by rw[Aj,e4];rfl
   clear hGc hGh;clear Gc Gh;refine xL hsuf (D:=[]) (by rfl) λGc Gh hGc hGh X hX0 hX=>?_
   simp -implicitDefEqProofs [hX0,hX,QY,zW,wM];clear hX0 hX X;refine hK _ _ _ ?_;clear hK hGc hGh;clear K Gc Gh
   repeat apply za
   refine ze [(2,61)] (zS e0 hql2 hrl zH) ?_;refine λhsuf=>JQ rfl rfl rfl (hY _ _ _ _ hyx hJ) ?_
   rintro _ ⟨A',hJ',rfl⟩;refine⟨_,_,rfl,jH [(2,61)] trivial hsuf ?_⟩;refine zm rfl (zh ?_);have hsp:=ZmT rows q tl hql;have hrl2:(rows.set q tl).length=c.length:=by simp[hrl]
   have hql3:q<(rows.set q tl).length:=by omega
   obtain⟨y',tr',a1,a2,a3,e0'⟩:=zF rfl (rows.set q tl) q hql3;rw[AX hql]at a1;cases a1;have hno:j6 (q:Int) r=false:=Zfk (rows:=rows.set q []) (by rw[Aa,AX hql];rfl) e3;have hlen:r.length<=1048576:=by rw[e3.length_eq];exact AB (VO _ _) (by simp;omega)
   have hperm:=λp tz=>VN rows 0 q p tz hql
   refine za (ze [] (zS e0 hql2 hrl hsp) ?_);refine⟨by omega,?_⟩;refine za (ze [] (zE e0' hql2 hrl2) ?_);cases tl with
   | nil =>
    exact zm rfl (zh (zq (i+1,A',rows.set q [],r,o2,v) [] ⟨hil,hJ',e5,e6,e7,e3,m2⟩ (by simp;omega) (by simp) rfl (by simp)))
   | cons z tz =>
    have hzm:z∈(rows.set q (z :: tz)).flatten:=BO.2 ⟨z :: tz,Ab (AX hql),by simp⟩;have hzp:z∈uQ x c:=(Q0 x c).subset (Cm (e7.subset hzm));have hzs:=(Wc.1 hzp).2.2.2;have hwz:IntKind.i64.wrap (-z.s)=-z.s:=by
     rw[hzs];have:=ZbG hx z.a z.b;exact wr _ (by omega) (by omega)
    refine zn (by simp) ?_;refine ze [] (zS e0' hql2 hrl2 hwz) ?_;refine λhsuf=>((Ze8 (j:=2) m2 rfl rfl rfl (q:Int) (-z.s) (by simp;omega)).mono ?_).v
    rintro _ T ⟨rfl,o3,m3,rfl⟩;refine⟨_,_,rfl,?_⟩;simp only[List.tail_cons]at m3;rw[hno]at m3;simp only[cond_false]at m3;refine zL hsuf ?_;refine zq (i+1,A',rows.set q (z :: tz),ZZ ((q:Int),-z.s) r,o3,v) [] ⟨hil,hJ',e5,e6,e7,?_,m3⟩ (by simp;omega) (by simp) rfl (by simp);have:=hperm z tz;rw[AR]at this;exact(Wa _ _).trans ((e3.cons _).trans this.symm)
open Go Hp
theorem ZmY{x:Inst}{c:List Int}(h:c.Nodup)(hc:c.length<=1000):(qT x c).length<=1000000:=by
 rw[Zl4 h];exact AB (Nat.mul_le_mul hc (Nat.sub_le _ _)) (B4 1000 hc)
open Go Hp
open Go Hp
def Qe(x:Inst)(ss:List Stop)(i:Nat):zk × Int:=((qT x (ss.map (·.c))).take i).foldl (q8 x) (ss.map λs=>[s],(ss.length:Int))
theorem ZmZ(x:Inst)(ss:List Stop):Qe x ss 0=(ss.map λs=>[s],(ss.length:Int)):=by simp[Qe]
theorem Zm0{x:Inst}{ss:List Stop}{i:Nat}{p:Pr}(h:(qT x (ss.map (·.c)))[i]?=some p):Qe x ss (i+1)=q8 x (Qe x ss i) p:=by
 unfold Qe;obtain⟨h1,e⟩:=Ac.1 h;rw[AU h1,e,Bk];rfl
theorem Zm1(x:Inst)(ss:List Stop):Qe x ss (qT x (ss.map (·.c))).length=ZbH x ss:=by simp[Qe,ZbH]
theorem Zm2(x:Inst)(T:zk)(num:Int)(p:Pr):num-1<=(q8 x (T,num) p).2/\(q8 x (T,num) p).2<=num:=by
 unfold q8 We;cases qv x (T,num).2 p (uR (T,num).1 p.a) (uR (T,num).1 p.b) ((T,num).1.getD (uR (T,num).1 p.a) []) ((T,num).1.getD (uR (T,num).1 p.b) [])<;>simp<;>omega
theorem Zm3(x:Inst)(ss:List Stop)(hx:qU x)(hxc:x.cust.length<=1048576)(hss:ss.length<=1000)(hs:∀s∈ss,qe s.c)(hnd:(ss.map (·.c)).Nodup):Pure prog 316 [.agg (zx x),L ss] (.agg [L (wR x ss)]):=by
 have hpl:=ZmY (x:=x) hnd (by simpa using hss);have hkey:KeyOk (.int .i64) qJ:=QX .i64;have hdist:∀k s,ss[k]?=some s->s.c ∉ (ss.take k).map (·.c):=by
  intro k s h hm;obtain⟨s',h1,h2⟩:=An.1 hm;obtain⟨j,hj⟩:=Bj.1 h1;rw[BL]at hj;split at hj
  ·rename_i hjk;have e1:(ss.map (·.c))[j]?=some s.c:=by rw[Aj,hj,<-h2];rfl
   have e2:(ss.map (·.c))[k]?=some s.c:=by rw[Aj,h];rfl
   obtain⟨g1,g2⟩:=Ac.1 e1;obtain⟨g3,g4⟩:=Ac.1 e2;exact BD.1 hnd j k g1 g3 hjk (g2.trans g4.symm)
  ·cases hj
 refine zt Tryz.func316 Tryz.ntmps316 Tryz.results316 λS nx hd=>?_
 refine za (zb ?_);intro v0 v1;refine za (zb ?_);intro v2 v3 v4;refine jg 3 6 40 1 rfl rfl λv5=>?_
 repeat apply za
 refine zb ?_;refine zj (zD (λs:Nat × zk × List (Value × PV) × (Int->Option Int) × Nat=>s.1<=ss.length/\s.2.1=(ss.take s.1).map (λs=>[s])/\MapIs qJ I s.2.2.1 s.2.2.2.1/\JI (ss.take s.1) s.2.1 s.2.2.2.1) (λ(k,T,es,g,v5)=>[(1,L ss),(2,.ptr nx v0 0),(4,.ptr (nx+1) v1 0),(5,.ptr (nx+4) v4 0),(18,L ss),(19,I ss.length),(20,I k)])
  (λ(k,T,es,g,v5)=>[.cells v0 25 (zx x),.cells v1 39 [.sc (.slice none 0 0)],.map v2 es,.cells v3 387 (J2 x (nx+5) v5 k ss.length (nx+2) v2),.cells v4 383 [.ptr (nx+3) v3 0],.cells v5 40 (T.flatMap Enc.enc)]) (λs=>ss.length-s.1) (0,[],[],λ_=>none,v5) [] ⟨by simp,by simp,ZeY _ _,by simpa using JI.nil⟩ (by simp) (by simp) ?_)
 rintro⟨k,T,es,g,v5⟩ ⟨hk,hT,hm,hI⟩;simp only at hk hT hm hI ⊢;have hTl:T.length=k:=by rw[hT];simp;omega
 refine za (zb ?_);refine za (zv rfl (λhq=>?_) (λhq=>?_))
 ·simp at hq;obtain⟨s,tl,a1,a2,a3,e1,e0⟩:=el 2 rfl ss k hq;obtain⟨rs,f1,_,_,f4,_⟩:=hm.find hkey s.c;have hnew:=f4 (k:Int);have hIn:=hI.snoc s (hdist k s a1);have hkl:(ss.take k).length=k:=by simp;omega
  rw[hkl,<-a3]at hIn;have hTs:T++[[s]]=(ss.take (k+1)).map λs=>[s]:=by rw[a3,hT];simp
  have htf:(T.flatMap Enc.enc).take k=T.flatMap Enc.enc:=Af (by rw[jT];omega);have htl:(T.flatMap Enc.enc).length=k:=by rw[jT,hTl]
  refine zh (za (zj (za (ze [] (zE e1 e0 hq) ?_))));intro v6;refine za (zz (some [nx+4,nx+6]) (Row.pures [0,1,2,3,5,6,7] (.alt 4 (.alt 8 (Row.pures [9,10] (.alt 11 (.done) .stop)) .stop) .stop)) mixed (zo htf htl) ?_);refine⟨⟨by omega,by omega⟩,?_⟩;refine zz (some [nx+3,nx+4,nx+6]) (Row.pures [0,1,2,3,4,5,6] (.alt 7 (.done) .stop)) mixed trivial ?_;refine⟨by rfl,(Yy (.inl rfl) Tryz.underlying384 Tryz.underlying3 rfl rfl rfl (by simp) f1 ?_)⟩;rw[yg _ (by omega) (by simp),show nx+2-nx=2 from by omega];refine⟨by simp[yE],js trivial ?_⟩;refine zb ?_;exact zq (k+1,T++[[s]],qM (qJ s.c) (I k) es rs,qO g s.c (some (k:Int)),v5+1) [_] ⟨hq,hTs,hnew,hIn⟩ (by simp;omega) (by simp[zu k (by omega)]) rfl (by simp;rfl)
 ·simp at hq;obtain rfl:k=ss.length:=by omega
  rw[Ao]at hT hI;refine zy ?_
  repeat apply za
  refine zb ?_;refine zr (ZmW x ss) ?_;refine zj (JR (xs:=(qT x (ss.map (·.c))).map Wg) (σ:=zk × Int × List (Value × PV) × (Int->Option Int)) (λi s=>(s.1,s.2.1)=Qe x ss i/\i<=(qT x (ss.map (·.c))).length/\MapIs qJ I s.2.2.1 s.2.2.2/\JI ss s.1 s.2.2.2/\(ss.length:Int)-i<=s.2.1/\s.2.1<=ss.length) [(4,.ptr (nx+1) v1 0),(5,.ptr (nx+4) v4 0)] (λ_=>S)
   (λ(T,num,es,g)=>[.cells v0 25 (zx x),.cells v1 39 [.sc (.slice none 0 0)],.map v2 es,.cells v3 387 (J2 x (nx+5) v5 ss.length num (nx+2) v2),.cells v4 383 [.ptr (nx+3) v3 0],.cells v5 40 (T.flatMap Enc.enc)]) (T,(ss.length:Int),es,g)
   (ZmX x ss hx (by omega) hs hnd) rfl (by intro x hx;obtain⟨y,_,rfl⟩:=An.1 hx;rfl) (by decide) (by simp) ⟨by rw[ZmZ,hT],by simp,hm,hI,by simp,by simp⟩ rfl (by simp) (by simp) ?_ ?_)
  ·clear hm hI hT hTl;rintro l i ⟨T,num,es,g⟩ more y ⟨hst,hi,hm,hI,hn1,hn2⟩ hy;simp only at hst hi hm hI hn1 hn2 ⊢;rw[Aj]at hy;obtain⟨p,hp,rfl⟩:=Ap.1 hy;obtain⟨hil,hpi⟩:=Ac.1 hp;have hmem:=Wc.1 ((Q0 x _).subset (Ab hp));have hsucc:=Zm0 hp;rw[<-hst]at hsucc;obtain⟨nb1,nb2⟩:=Zm2 x T num p;refine xl [] (by rfl) (by rfl) λK Gc Gh hK hGc hGh X hX0 hX=>?_
   simp -implicitDefEqProofs [hX0,hX,Wg]
   try clear hX0 hX X
   intro v6;refine hK _ _ _ ?_;clear hK hGc hGh;clear K Gc Gh;refine zj (zb ?_);refine λhsuf=>((Zmp x ss T g num es hxc hss (by omega) hI hm (jid:=nx+3) (tid:=nx+5) (mid:=nx+2) (by rw[zU];rfl) (by rw[zU];rfl) (by rw[zU];rfl) (by omega) (by omega) (by omega) p hmem.1 hmem.2.1).mono ?_).v
   rintro _ _ ⟨es2,g2,m2,i2,rfl⟩;refine⟨_,_,(by rw[yg _ (by omega) (by simp),yg _ (by omega) (by simp),yg _ (by omega) (by simp)]),jH [] (zE (show nx+3-nx=3 from by omega) (show nx+5-nx=5 from by omega) (show nx+2-nx=2 from by omega)) hsuf ?_⟩;simp only[jE];exact wN ((q8 x (T,num) p).1,(q8 x (T,num) p).2,es2,g2) [_] ⟨hsucc.symm,by omega,m2,i2,by simp only;omega,by simp only;omega⟩ rfl (by simp;rfl)
  ·clear hm hI hT hTl;rintro⟨T,num,es,g⟩ ⟨hst,-,hm,hI,-,-⟩;simp only[List.length_map]at hst hI ⊢;rw[Zm1]at hst;have hTl:=hI.len;have hjp:wR x ss=T.filter λt=>!t.isEmpty:=by unfold wR;rw[<-hst]
   rw[hjp];refine za (zb ?_);intro v6;refine jg 6 0 42 1 rfl rfl λv7=>?_
   repeat apply za
   refine zb ?_;refine zj (zD (λs:Nat × zk × Nat=>s.1<=T.length/\s.2.1=(T.take s.1).filter λt=>!t.isEmpty) (λ(k,out,v7)=>[(4,.ptr (nx+1) v1 0),(9,.ptr (nx+6) v6 0),(54,.sl (nx+5) v5 1 0 ss.length),(55,I ss.length),(56,I k)]) (λ(k,out,v7)=>[.cells v0 25 (zx x),.cells v1 39 [.sc (.slice none 0 0)],.map v2 es,.cells v3 387 (J2 x (nx+5) v5 ss.length num (nx+2) v2),.cells v4 383 [.ptr (nx+3) v3 0],.cells v5 40 (T.flatMap Enc.enc),.cells v6 39 [.sl (nx+7) v7 1 0 out.length],.cells v7 42 (out.flatMap Enc.enc)]) (λs=>T.length-s.1) (0,[],v7) [] ⟨by simp,by simp⟩ (by simp) (by simp) ?_);rintro⟨k,out,v7⟩ ⟨hk,ho⟩;simp only at hk ho ⊢;have hol:out.length<=k:=by rw[ho];exact AB (By _ _) (by simp;omega)
   refine za (zb ?_);refine za (zv rfl (λhq=>?_) (λhq=>?_))
   ·simp at hq;obtain⟨t,tl,a1,a2,a3,e0⟩:=zF rfl T k (by omega);have hfs:(T.take (k+1)).filter (λt=>!t.isEmpty)=out++(if t=[] then [] else [t]):=by
     rw[a3,BU,<-ho];cases t<;>simp
    refine zh (za (zj (za (ze [] (zE e0 hq hTl) ?_))));refine za (zb ?_);cases t with
    | nil =>
     rw[if_pos rfl,AF]at hfs;refine zm (by simp) ?_;refine zh (zb ?_);exact zq (k+1,out,v7) [] ⟨by omega,hfs.symm⟩ (by simp;omega) (by simp[zu k (by omega)]) rfl (by simp)
    | cons s t =>
     rw[if_neg (by simp)]at hfs;refine zn (by simp) ?_;refine zb ?_;refine⟨by omega,?_⟩;refine zb ?_;exact zq (k+1,out++[s :: t],v7+1) [] ⟨by omega,hfs.symm⟩ (by simp;omega) (by simp[zu k (by omega)]) rfl (by simp)
   ·simp at hq;obtain rfl:k=T.length:=by omega
    rw[Ao]at ho;refine zy (yb 7 rfl ?_);refine za (zb ?_);exact zg (zi hd (by simp;rfl) (by simp[zp,ho]))
open Go Hp
abbrev yp:PV:=.sc (.slice none 0 0)
open Go Hp
def Q3(pl:PV):Prop:=pl=yp\/∃n cs,pl=.lst n cs
theorem Q4(l:List Stop):Q3 (L l):=.inr ⟨_,_,rfl⟩
abbrev J3(x:Inst)(b:Int):PV:=.fn (.func 312) [] [.ip (zx x),.ip [I b]]
abbrev fsL(x:Inst)(pl:PV)(b:Int):List PV:=[.fn (.func 313) [] [.ip [pl]],.fn (.func 315) [] [.ip [J3 x b],.ip (zx x),.ip [pl]],.fn (.func 317) [] [.ip [J3 x b],.ip [pl]],.fn (.func 318) [] [.ip (zx x),.ip [pl],.ip [J3 x b]]]
theorem Zm4(x:Inst)(pl:PV)(b:Int)(hp:Q3 pl):Pure prog 285 [.agg (zx x),pl,I b] (.fn (.func 320) [] [.ip [.lst 4 (fsL x pl b)]]):=by
 rcases hp with rfl | ⟨n,cs,rfl⟩
 all_goals
  refine zt Tryz.func285 Tryz.ntmps285 Tryz.results285 λS nx hd=>?_
  refine za (zb ?_);intro v0 v1 v2;refine xM 0 rfl ?_;refine xM 1 rfl ?_;refine xM 2 rfl ?_;refine za (zb ?_);intro v3;refine xM 3 rfl ?_;refine za (zb ?_);intro v4;refine xM 4 rfl ?_;refine za (zb ?_);exact zg (zi hd (by simp;rfl) rfl)
theorem Zm5(pl:PV)(d:zk)(hp:Q3 pl)(hA:Pure prog 314 [pl] (.agg [L d])):Pure prog 313 [.ip [pl]] (.tup [.agg [L d],B true]):=by
 rcases hp with rfl | ⟨n,cs,rfl⟩
 all_goals
  refine zt Tryz.func313 Tryz.ntmps313 Tryz.results313 λS nx hd=>?_
  refine za (zb ?_);intro v0;refine za (zb ?_);refine zr hA ?_;exact zg (zi hd (by simp;rfl) rfl)
theorem ZbM(x:Inst)(b:Int)(d e:zk)(n:Int)(hI:Pure prog 252 [.agg (zx x),.agg [L d],I b] (.tup [.agg [L e],I n])):Pure prog 312 [.agg [L d],.ip (zx x),.ip [I b]] (.agg [L e]):=by
 refine zt Tryz.func312 Tryz.ntmps312 Tryz.results312 λS nx hd=>?_
 refine za (zb ?_);intro v0 v1;refine za (zb ?_);refine zr hI ?_;refine za (zb ?_);exact zg (zi hd (by simp;rfl) rfl)
theorem Zm6(x:Inst)(pl:PV)(b:Int)(d e:zk)(n:Int)(hp:Q3 pl)(hJ:Pure prog 316 [.agg (zx x),pl] (.agg [L d]))(hI:Pure prog 252 [.agg (zx x),.agg [L d],I b] (.tup [.agg [L e],I n])):Pure prog 315 [.ip [J3 x b],.ip (zx x),.ip [pl]] (.tup [.agg [L e],B true]):=by
 have hF:=ZbM x b d e n hI;rcases hp with rfl | ⟨n,cs,rfl⟩
 all_goals
  refine zt Tryz.func315 Tryz.ntmps315 Tryz.results315 λS nx hd=>?_
  refine za (zb ?_);intro v0;refine za (zz (some []) (Row.pures [0,1,2,3,4] (.alt 5 (Row.pures [6] .done) .stop)) mixed trivial ?_);refine zJ (hJ) trivial ?_;refine zJ (hF) trivial ?_;exact zg (zi hd (by simp;rfl) rfl)
theorem Zm7(x:Inst)(pl:PV)(b:Int)(d e:zk)(n:Int)(hp:Q3 pl)(hA:Pure prog 314 [pl] (.agg [L d]))(hI:Pure prog 252 [.agg (zx x),.agg [L d],I b] (.tup [.agg [L e],I n])):Pure prog 317 [.ip [J3 x b],.ip [pl]] (.tup [.agg [L e],B true]):=by
 have hF:=ZbM x b d e n hI;rcases hp with rfl | ⟨n,cs,rfl⟩
 all_goals
  refine zt Tryz.func317 Tryz.ntmps317 Tryz.results317 λS nx hd=>?_
  refine za (zb ?_);intro v0;refine za (zz (some []) (Row.pures [0,1,2,3] (.alt 4 (Row.pures [5] .done) .stop)) mixed trivial ?_);refine zJ (hA) trivial ?_;refine zJ (hF) trivial ?_;exact zg (zi hd (by simp;rfl) rfl)
theorem Zfl(x:Inst)(pl:PV)(b:Int)(d e:zk)(ok:Bool)(n:Int)(hp:Q3 pl)(hR:Pure prog 319 [.agg (zx x),pl] (.tup [.agg [L d],B ok]))(hI:ok=true->Pure prog 252 [.agg (zx x),.agg [L d],I b] (.tup [.agg [L e],I n])):
  Pure prog 318 [.ip (zx x),.ip [pl],.ip [J3 x b]] (.tup [.agg [bif ok then L e else yp],B ok]):=by
 rcases hp with rfl | ⟨n,cs,rfl⟩
 all_goals
  cases ok with
  | false =>
   refine zt Tryz.func318 Tryz.ntmps318 Tryz.results318 λS nx hd=>?_
   refine za (zb ?_);intro v0;refine za (zb ?_);refine zr hR ?_;intro v1
   repeat apply za
   refine zb ?_;refine zn rfl (za (zb ?_));exact zg (zi hd (by simp;rfl) rfl)
  | true =>
   have hF:=ZbM x b d e _ (hI rfl);refine zt Tryz.func318 Tryz.ntmps318 Tryz.results318 λS nx hd=>?_
   refine za (zb ?_);intro v0;refine za (zb ?_);refine zr hR ?_;intro v1
   repeat apply za
   refine zb ?_;refine zm rfl (zh (za (zb ?_)));refine zr hF ?_;exact zg (zi hd (by simp;rfl) rfl)
theorem Zm8(fs:List PV)(rs:List (Option zk))(hl:rs.length=fs.length)(hn:fs.length<=1000)
  (h:∀(k:Nat) f,fs[k]?=some f->∃fk caps p,f=.fn (.func fk) [] caps/\Pure prog fk caps (.tup [.agg [p],B (rs.getD k none).isSome])/\∀d,rs.getD k none=some d->p=L d) :
  Y8 prog 320 [.ip [.lst fs.length fs]] ((rs.filterMap id).map λd=>[.agg [L d]]):=by
 refine X0 Tryz.func320 (by rfl) rfl Tryz.ntmps320 (congrArg Array.toList Tryz.results320) (by simp) λl V keep nx J hJd hY A0 hA0=>?_
 refine za (zb ?_);refine zj (jr (σ:=Nat × Store) (λs=>s.1<=fs.length/\J ((rs.take s.1).filterMap id).length s.2) (λs=>[(0,jS l),(7,.lst fs.length fs),(8,I fs.length),(9,I s.1)]) (λs=>s.2) (λs=>[]) (λs=>fs.length-s.1) (zY (0,A0) [] (by simp[hA0]) (by simp) rfl (by simp)) ?_);rintro⟨k,A⟩ ⟨hk,hJ⟩;simp only at hk hJ ⊢;refine za (zb ?_);refine za (zv rfl (λhc=>?_) (λhc=>?_))
 ·simp at hc;have e0:fs.drop k=fs[k] :: fs.drop (k+1):=List.drop_eq_getElem_cons hc;obtain⟨fk,caps,p,hf,hP,hd⟩:=h k fs[k] (Ad hc);rw[hf]at e0;have hkr:k<rs.length:=by omega
  have htk:rs.take (k+1)=rs.take k++[rs[k]]:=AU hkr;have hg:rs.getD k none=rs[k]:=by rw[Aa,Ad hkr];rfl
  rw[hg]at hP hd;refine zh (za (zj (za (ze [] (zo e0 hc) ?_))));cases hr:rs[k] with
  | none =>
   rw[hr]at hP htk;simp only[Dh]at hP;have hlen:((rs.take (k+1)).filterMap id).length=((rs.take k).filterMap id).length:=by rw[htk];simp
   refine za (zb ?_);refine zr hP ?_;intro v0;refine za (ze [(1,19)] zH ?_);refine zm rfl (zh (zb ?_));exact zq (k+1,A) [_] ⟨hc,by rw[hlen];exact hJ⟩ (by simp;omega) (by simp[zu k (by omega)]) rfl (by simp;rfl)
  | some d =>
   obtain rfl:=hd d hr;rw[hr]at hP htk;simp only[Option.isSome_some]at hP;have hlen:((rs.take (k+1)).filterMap id).length=((rs.take k).filterMap id).length+1:=by rw[htk];simp
   have hx:((rs.filterMap id).map λd=>[PV.agg [L d]])[((rs.take k).filterMap id).length]?=some [PV.agg [L d]]:=by
    have e1:rs.filterMap id=(rs.take k).filterMap id++(d :: (rs.drop (k+1)).filterMap id):=by
     conv=>lhs;rw[<-List.take_append_drop k rs,List.drop_eq_getElem_cons hkr,hr]
     simp
    rw[Aj,e1,Ak (Ag _),Bw];rfl
   refine za (zb ?_);refine zr hP ?_;intro v0;refine za (ze [(1,19)] trivial ?_);refine λhsuf=>JQ rfl rfl rfl (hY _ _ _ _ hx hJ) ?_
   rintro _ ⟨A',hJ',rfl⟩;refine⟨_,_,rfl,jH [(1,19)] trivial hsuf ?_⟩;refine zm rfl (zh (zb ?_));exact zq (k+1,A') [_] ⟨hc,by rw[hlen];exact hJ'⟩ (by simp;omega) (by simp[zu k (by omega)]) rfl (by simp;rfl)
 ·simp at hc;obtain rfl:k=fs.length:=by omega
  rw[<-hl,Ao]at hJ;refine zy (uO (hJd _ _ hJ) rfl ?_);simpa using hJ
def xq(x:Inst)(st:zk × Int × Bool)(d:zk):zk × Int × Bool:=if yr x d=0 then (if st.2.2=false\/W (yq x d)<st.2.1 then (d,W (yq x d),true) else st) else st
def uS(x:Inst)(ds:List zk):zk × Int × Bool:=ds.foldl (xq x) ([],0,false)
open Go Hp
theorem Zm9{K:(Nat->PV)->Store->Prop}{Q:Exit->(Nat->PV)->Store->Prop}{i:Nat}{F:Nat->PV}{S:Store}(h:Q (.exit i) F S):Yu K Q (.exit i) F S:=h
theorem Zna{Q:Exit->(Nat->PV)->Store->Prop}{i:Nat}{F:Nat->PV}{S:Store}(h:Q .normal F S):jE i Q (.exit i) F S:=by simp[jE,h]
def vA(x:Inst)(e:Int)(ds:List zk):zk × Int:=if e=0 then (bif (uS x ds).2.2 then ((uS x ds).1,0) else ([],14)) else ([],e)
theorem Zfm(x:Inst)(pl:PV)(b e:Int)(ds:List zk)(hp:Q3 pl)(hx:x.cust.length<=1048576)(hF:Pure prog 284 [.agg (zx x),pl] (I e))
  (hit:e=0->Y8 prog 320 [.ip [.lst 4 (fsL x pl b)]] (ds.map λd=>[.agg [L d]])) (hds:e=0->∀d∈ds,DayOk d/\d.flatten.length<=1048576) :
  Pure prog 249 [.agg (zx x),pl,I b] (.tup [.agg [L (vA x e ds).1],I (vA x e ds).2]):=by
 have hT:=Zm4 x pl b hp;refine zt Tryz.func249 Tryz.ntmps249 Tryz.results249 λS nx hd=>?_
 refine za (zb ?_);intro v0 v1
 repeat apply za
 refine zb ?_;refine zr hF ?_
 by_cases he:e=0
 case neg =>
  refine za (zb ?_);refine zn (by simp[he]) ?_;refine za (zb ?_);refine qk 1 0 rfl rfl ?_;exact zg (zi hd (by simp;rfl) (by simp[vA,he,zp]))
 subst he;have hit:=hit rfl;have hds:=hds rfl;refine za (zb ?_);refine zm (by simp) ?_;refine zh (za (zb ?_));intro v2 v3 v4;refine qk 2 0 rfl rfl ?_
 repeat apply za
 refine zb ?_;refine zr hT ?_;refine zj (JR (xs:=ds.map λd=>[PV.agg [L d]]) (σ:=zk × Int × Bool) (λi s=>s=(ds.take i).foldl (xq x) ([],0,false)/\i<=ds.length) [(3,.ptr nx v0 0),(6,.ptr (nx+1) v1 0),(7,I 0),(9,.ptr (nx+2) v2 0),(10,.ptr (nx+3) v3 0),(11,.ptr (nx+4) v4 0)] (λ_=>S)
  (λ(best,least,found)=>[.cells v0 25 (zx x),.cells v1 39 [yp],.cells v2 39 [L best],.cells v3 3 [I least],.cells v4 4 [B found]]) ([],0,false)
  hit rfl (by intro x hx;obtain⟨y,_,rfl⟩:=An.1 hx;rfl) (by decide) (by simp) ⟨by simp,by simp⟩ rfl (by simp) (by simp) ?_ ?_)
 ·rintro l i ⟨best,least,found⟩ more y ⟨hst,hi⟩ hy;simp only at hst hi ⊢;rw[Aj]at hy;obtain⟨d,hd',rfl⟩:=Ap.1 hy;obtain⟨hil,hdi⟩:=Ac.1 hd';obtain⟨hdo,hdf⟩:=hds d (Ab hd');have hday:=Zbq x d hx hdo.1 hdo.2 hdf;have hcost:=JZ x d hdo;have hsucc:(ds.take (i+1)).foldl (xq x) ([],0,false)=xq x (best,least,found) d:=by
   rw[AU hil,hdi,Bk,<-hst];rfl
  unfold xq at hsucc;simp only at hsucc;refine zb ?_;intro v5;refine zj ?_
  repeat apply za
  refine zb ?_;refine zr hday ?_
  by_cases h1:yr x d=0
  ·rw[if_pos h1]at hsucc;refine zm (by simp[h1]) ?_;refine zh (za (zb ?_));refine zr hcost ?_;generalize W (yq x d)=c at *;cases found with
   | false =>
    rw[if_pos (.inl rfl)]at hsucc;refine za (ze [(2,36)] zH ?_);refine zn rfl (zb ?_);simp only[jE];exact wN (d,c,true) [_] ⟨hsucc.symm,by omega⟩ rfl (by simp;rfl)
   | true =>
    by_cases h2:c<least
    ·rw[if_pos (.inr h2)]at hsucc;refine za (ze [(2,36)] (zo h2 zH) ?_);refine zn rfl (zb ?_);simp only[jE];exact wN (d,c,true) [_] ⟨hsucc.symm,by omega⟩ rfl (by simp;rfl)
    ·rw[if_neg (by simp[h2])]at hsucc;refine za (ze [(2,36)] (zo h2 zH) ?_);refine zm rfl (zh ?_);simp only[jE];exact wN (best,least,true) [_] ⟨hsucc.symm,by omega⟩ rfl (by simp;rfl)
  ·rw[if_neg h1]at hsucc;refine zn (by simp[h1]) ?_;refine zy (Zm9 (Zna ?_));exact wN (best,least,found) [_] ⟨hsucc.symm,by omega⟩ rfl (by simp;rfl)
 ·rintro⟨best,least,found⟩ ⟨hst,-⟩;simp only[List.length_map,Ao]at hst ⊢;have hz:uS x ds=(best,least,found):=hst.symm;cases found with
  | false =>
   repeat apply za
   refine zb ?_;refine zn rfl (za (zb ?_));refine qk 1 0 rfl rfl ?_;exact zg (zi hd (by simp;rfl) (by simp[vA,hz,zp]))
  | true =>
   repeat apply za
   refine zb ?_;refine zm rfl (zh (za (zb ?_)));exact zg (zi hd (by simp;rfl) (by simp[vA,hz,zp]))
open Go Hp
theorem Zfn(lk:List PV)(s:Stop)(hl:lk.length=13):Pure prog 336 [.agg lk,.agg [I s.c,I s.q]] (.fn (.func 352) [] [.ip [I s.c,I s.q],.ip lk]):=by
 refine zt Tryz.func336 Tryz.ntmps336 Tryz.results336 λS nx hd=>?_
 refine za (ze [] hl ?_);intro v0 v1;refine za (zb ?_);refine xM 0 rfl ?_;refine xM 1 rfl ?_;exact zg (zi hd (by simp;rfl) rfl)
open Go Go.Lib Go.Proofs
theorem Q5:ElemOk prog 40 100 (.agg #[.int .i64 0,.int .i64 0]) 16 :=
 ⟨Tryz.underlying40,by simp,by simp,by simp,by simp,by omega⟩
theorem Zfo(a:Addr)(n c:Nat)(w W2:World)(u:Value)(hrz:∀ty,(Builtin.append_ #[40,40] ty #[.slice (some ⟨w.heap.size,0,none⟩) 0 0,.slice (some a) n c]).run prog (w.alloc (.cells #[] 100))=.ok u W2):
  Calls prog 290 #[.slice (some a) n c] w λe w'=>e=.returned u/\w'=W2:=by
 have mixed:prog.follows .mixedOrders=true:=by kernel_rfl
 have q22:∀(w:World) (a:Option Addr) (n c n' c':Nat),(binOp .eql 40 (.slice a n c) (.slice none n' c')).run prog w=.ok (.bool a.isNone) w:=λw a n c n' c'=>Lib.run_eql_slice_nil w _ _ a n c n' c' Tryz.underlying40
 go_enter Tryz.func290,Tryz.ntmps290
 go_wp2_with (at_builtin;refine Lib.wpList_append_run _ rfl _ _ _ _ rfl _ _ rfl rfl _ _ (hrz _) ?_)
 go_wp2
 go_ret
 exact⟨rfl,rfl⟩
theorem Znb(n c:Nat)(w:World):
  Calls prog 290 #[.slice none n c] w λe w'=>e=.returned (.slice none 0 0)/\w'=w:=by
 have mixed:prog.follows .mixedOrders=true:=by kernel_rfl
 have q22:∀(w:World) (a:Option Addr) (n c n' c':Nat),(binOp .eql 40 (.slice a n c) (.slice none n' c')).run prog w=.ok (.bool a.isNone) w:=λw a n c n' c'=>Lib.run_eql_slice_nil w _ _ a n c n' c' Tryz.underlying40
 go_enter Tryz.func290,Tryz.ntmps290
 go_wp2
 go_ret
 exact⟨rfl,rfl⟩
theorem ZbN(l:List Stop)(h0:0<l.length)(hn:l.length<=1048576)(S:Store)(nx:Nat)(hd:S nx=.dead):
  Spec prog 290 [L l] S (λp S'=>∃v,p=.sl nx v 2 0 l.length/\S'=S.set nx (.cells v 100 (l.flatMap Enc.enc))):=by
 refine⟨qh Tryz.func290 (by rfl) rfl,?_⟩;intro C w vs hS hl hr;obtain⟨u,rfl⟩:=Zbn hl;have hu:Rel C S w (.lst l.length (l.flatMap Enc.enc)) u:=hr 0 _ u rfl rfl;obtain⟨a,cap,rfl⟩:∃a cap,u=.slice (some a) l.length cap:=by
  generalize hq:l.flatMap Enc.enc=cs at hu;generalize l.length=n at *;cases hu with
  | lst0=>omega
  | lst1=>exact⟨_,_,rfl⟩
 obtain⟨k1,j1,m1⟩:=hS.alloc (.cells #[] 100);have hc:prog.cellsOf 100=2:=by simp
 obtain⟨news,hsrc,hrel,_⟩:=Vo (P:=prog) (sz:=2) (m:=l.length) (ds:=l.flatMap Enc.enc) k1 (by simp[ZP]) (hu.mono j1);rw[<-hc]at hsrc;have hrun:=λty=>Vn (P:=prog) (ty:=ty) (b:=some ⟨w.heap.size,0,none⟩) (k:=0) (cap:=0) (olds:=[]) Q5.ty Q5.pos Q5.zero Q5.bytes hsrc (run_firstCells_some _ _ 0 ⟨w.heap.size,0,none⟩ 0 0 [] (by simp) (by simp)) (by omega) (by omega) Q5.bpos
 simp only[AR]at hrun;refine(Zfo a l.length cap w _ _ hrun).mono ?_;rintro e w' ⟨rfl,rfl⟩;have hge:=grownCap_ge (w.alloc (.cells #[] 100)) l.length 0 100;obtain⟨d1,d2⟩:=k1.drew;have hfr:Fresh C S nx C.clock:=.clock C hd;have hra:=JE (cs:=[]) (vs:=[]) (by simp[RelL]) hrel (Builtin.zeroCells (Value.agg #[.int .i64 0,.int .i64 0]).cells (grownCap (w.alloc (.cells #[] 100)) l.length 0 100-l.length)).toList;simp only[AS]at hra;have hget:∀i:Nat,(([]:List Value).toArray++news.toArray++Builtin.zeroCells (Value.agg #[.int .i64 0,.int .i64 0]).cells (grownCap (w.alloc (.cells #[] 100)) l.length 0 100-l.length):Array Value)[i]?=(news++(Builtin.zeroCells (Value.agg #[.int .i64 0,.int .i64 0]).cells (grownCap (w.alloc (.cells #[] 100)) l.length 0 100-l.length)).toList)[i]?:=by
  intro i;rw[<-Array.getElem?_toList];simp
 obtain⟨t1,t2⟩:=d1.object' hfr 100 (([]:List Value).toArray++news.toArray++Builtin.zeroCells (Value.agg #[.int .i64 0,.int .i64 0]).cells (grownCap (w.alloc (.cells #[] 100)) l.length 0 100-l.length)) (l.flatMap Enc.enc) (by have:=hra.1;simp at this ⊢;omega) (λi v hi hv=>hra.2.1 i v hi (by rw[<-hget];exact hv)) (λi p v hp hv=>(hra.2.2 i p v hp (by rw[<-hget];exact hv)).mono d2);refine⟨_,_,_,_,rfl,⟨C.clock,rfl,rfl⟩,XU C S _ _ _ _ _ _ _ _ _ rfl hge (AB hn (by unfold jq;omega)) (grownCap_le_maxLen _ _ _ _ (by unfold maxLen;omega)) ?_,t1,j1.trans (d2.trans t2)⟩;have:=hsrc.size;simp only[B3,size_zeroCells,BB,this,hc];simp[Value.cells];omega
theorem VR(l:List Stop)(hn:l.length<=1048576):Pure prog 290 [L l] (L l):=by
 by_cases h0:0<l.length
 ·exact Vw 0 (λS nx hd=>ZbN l h0 hn S nx (hd nx (Ag _))) (by simp)
 ·obtain rfl:l=[]:=Aw (by omega);intro S;refine⟨qh Tryz.func290 (by rfl) rfl,?_⟩;intro C w vs hS hl hr;obtain⟨u,rfl⟩:=Zbn hl;have hu:Rel C S w (.lst 0 []) u:=hr 0 _ u rfl rfl;obtain⟨a,cap,rfl⟩:∃a cap,u=.slice a 0 cap:=by
   cases hu with
   | lst0=>exact⟨_,_,rfl⟩
   | lst1=>exact⟨_,_,rfl⟩
  cases a with
  | none =>
   refine(Znb 0 cap w).mono ?_;rintro e w' ⟨rfl,rfl⟩;exact⟨_,_,_,_,rfl,⟨rfl,rfl⟩,.lst0,hS,.refl _ _ _⟩
  | some a =>
   obtain⟨k1,j1,m1⟩:=hS.alloc (.cells #[] 100);have hc:prog.cellsOf 100=2:=by simp
   obtain⟨news,hsrc,hrel,_⟩:=Vo (P:=prog) (sz:=2) (m:=0) (ds:=[]) k1 (by simp[ZP]) (hu.mono j1);have hne:news=[]:=Aw (by rw[hsrc.size,C7]);subst hne;rw[<-hc]at hsrc;have hrun:=λty=>ZaY (P:=prog) (ty:=ty) (b:=some ⟨w.heap.size,0,none⟩) (k:=0) (cap:=0) Q5.ty Q5.pos hsrc (Ag 0)
   refine(Zfo a 0 cap w _ _ hrun).mono ?_;rintro e w' ⟨rfl,rfl⟩;exact⟨_,_,_,_,rfl,⟨rfl,rfl⟩,.lst0,k1,j1⟩
theorem Znc{S:Store}{id ver:Nat}(cs:List Stop)(s:Stop)(hn:cs.length<=1000000)(hid:S id=.cells ver 100 (cs.flatMap Enc.enc)):
  Spec prog 338 [.sl id ver 2 0 cs.length,I cs.length,L [s]] S (λp S'=>p=.sl id (ver+1) 2 0 (cs.length+1)/\S'=S.set id (.cells (ver+1) 100 ((cs++[s]).flatMap Enc.enc))):=by
 refine yh Tryz.func338 Tryz.ntmps338 Tryz.results338 λnx hd=>?_
 have hlt:id<nx:=by
  rcases Bf id nx with h | h
  ·exact h
  ·have:=hd id h;rw[hid]at this;cases this
 have hx:=λobs=>(zA (S:=S) (obs:=obs) hlt).trans hid
 have hlt1:¬nx<=id:=by omega
 refine za (ze [] hx ?_);refine za (ze [] hx ?_);refine za (ze [] hx ?_)
 repeat apply za
 refine ze [] hx ?_;refine zm rfl (zh (za (ze [] hx ?_)))
 repeat apply za
 refine ze [] hx ?_;refine zn rfl (za (ze [] (zo hx hlt1) ?_));refine⟨by omega,?_⟩;have hdd:∀(o:Ob),zT nx (S.set id o):=by
  intro o q hq;rw[q10 _ _ _ _ (by omega)];exact hd q hq
 exact zg ⟨_,_,by simp;rfl,⟨by simp[zp],by simp⟩,zN (hdd _)⟩
theorem Znd{S:Store}{id ver:Nat}(cs:List Stop)(i:Nat)(s:Stop)(hi:i<=cs.length)(hn:cs.length<=1000000)(hid:S id=.cells ver 100 (cs.flatMap Enc.enc)):
  Spec prog 338 [.sl id ver 2 0 cs.length,I i,L [s]] S (λp S'=>p=.sl id (ver+1) 2 0 (cs.length+1)/\S'=S.set id (.cells (ver+1) 100 ((cs.take i++s :: cs.drop i).flatMap Enc.enc))):=by
 by_cases h:i=cs.length
 ·subst h;rw[Ao,Cf];exact Znc cs s hn hid
 ·exact Zld cs i s (by omega) hn hid
open Go Go.Proofs
def Q6(d:zk)(t nx:Nat)(k:Nat)(ts:List PV)(ob:Ob):Prop :=
 ts.length=k/\(k<=t->ts=(d.take k).flatMap Enc.enc/\ob=.dead) /\
 (t<k->∃v l,d[t]?=some l/\ts=((d.take k).flatMap Enc.enc).set t (.sl (nx+4) v 2 0 l.length)/\ob=.cells v 100 (l.flatMap Enc.enc))
theorem Zne{d:zk}{t nx k:Nat}{ts:List PV}{ob:Ob}(h:Q6 d t nx k ts ob)(hk:k<d.length)(ht:k≠t):Q6 d t nx (k+1) (ts++[L d[k]]) ob:=by
 obtain⟨h1,h2,h3⟩:=h;have e:d.take (k+1)=d.take k++[d[k]]:=AU hk;refine⟨by simp[h1],λhkt=>?_,λhkt=>?_⟩
 ·obtain⟨a,b⟩:=h2 (by omega);exact⟨by rw[e,a,Av];rfl,b⟩
 ·obtain⟨v,l,a,b,c⟩:=h3 (by omega);refine⟨v,l,a,?_,c⟩;rw[b,e,Av,List.set_append_left _ _ (by rw[jT];simp;omega)];rfl
theorem Znf{d:zk}{t nx:Nat}{ts:List PV}{ob:Ob}(h:Q6 d t nx t ts ob)(hk:t<d.length)(v:Nat):Q6 d t nx (t+1) (ts++[.sl (nx+4) v 2 0 d[t].length]) (.cells v 100 (d[t].flatMap Enc.enc)):=by
 obtain⟨h1,h2,h3⟩:=h;have e:d.take (t+1)=d.take t++[d[t]]:=AU hk;refine⟨by simp[h1],λhkt=>by omega,λ_=>⟨v,d[t],Ad hk,?_,rfl⟩⟩;obtain⟨a,-⟩:=h2 (Ag _);have hl:((d.take t).flatMap Enc.enc).length=t:=by rw[jT];simp;omega
 rw[a,e,Av,Bx _ _ (by omega),hl,Bw];rfl
theorem ZbO(d:zk)(t:Nat)(hd0:d.length<=1048576)(hd1:∀l∈d,l.length<=1048576)(ht:∀l,d[t]?=some l->0<l.length)(S:Store)(nx:Nat)(hd:zT nx S):
  Spec prog 337 [.agg [L d]] S (λp S'=>∃v ts ob,Q6 d t nx d.length ts ob/\p=.agg [.sl (nx+3) v 1 0 d.length]/\S'=(S.set (nx+3) (.cells v 42 ts)).set (nx+4) ob):=by
 refine ut hd Tryz.func337 Tryz.ntmps337 Tryz.results337 ?_;refine za (zb ?_);intro v0 v1;refine za (zb ?_);intro v2;refine jg 2 0 42 1 rfl rfl λv3=>?_
 repeat apply za
 refine zb ?_
 show PW _ _ _ _ _ _ _ (ext _ _ _)
 rw[Zek 1];refine zj (zD (λ(s:Nat × List PV × Ob × Nat × Nat)=>s.1<=d.length/\Q6 d t nx s.1 s.2.1 s.2.2.1) (λ(k,ts,ob,v2,v3)=>[(2,.ptr (nx+1) v1 0),(3,.ptr (nx+2) v2 0),(7,L d),(8,I d.length),(9,I k)]) (λ(k,ts,ob,v2,v3)=>[.cells v0 39 [L d],.cells v1 39 [yp],.cells v2 39 [.sl (nx+3) v3 1 0 k],.cells v3 42 ts,ob]) (λs=>d.length-s.1) (0,[],.dead,v2,v3) [] ⟨by simp,by simp[Q6]⟩ (by simp) (by simp) ?_);rintro⟨k,ts,ob,v2,v3⟩ ⟨hk,hI⟩;simp only at hk hI ⊢;have htl:=hI.1;have htk:ts.take k=ts:=Af (by omega);refine za (zb ?_);refine za (zv rfl (λhc=>?_) (λhc=>?_))
 ·simp at hc;obtain⟨l,tl,a1,a2,a3,e0⟩:=zF rfl d k hc;obtain⟨hkl,rfl⟩:=Ac.1 a1;have hk1:1<=d.length-k:=by omega
  refine zh (za (zj (za (ze [] (zE hc e0 hk1) ?_))));intro v5
  by_cases hkt:k=t
  ·subst hkt;have hcl:=ZbN d[k] (ht _ a1) (hd1 _ (Bh hkl));obtain rfl:=(hI.2.1 (Ag _)).2;refine zz (some [nx+5]) (Row.pures [0,2,3] (.alt 1 (.alt 4 (Row.pures [5,6] (.alt 7 (Row.pures [8] (.alt 9 (.done) .stop)) .stop)) .stop) (.alt 4 (Row.pures [5,6] (.alt 1 (.alt 7 (Row.pures [8] (.alt 9 (.done) .stop)) .stop) .stop)) .stop))) mixed (zo htl htk) ?_;refine⟨?_,?_⟩
   all_goals
    skip
    refine((hcl _ (nx+4) (by simp)).mono ?_).v;rintro _ _ ⟨v4,rfl,rfl⟩;rw[yg _ (by omega) (by simp),AG];refine⟨by simp[yE],js (zo htl htk) ?_⟩;refine⟨by omega,?_⟩;refine zb ?_;exact zq (k+1,_,_,v2,v3+1) [_] ⟨hc,Znf hI hkl v4⟩ (by simp;omega) (by simp[zu k (by omega)]) rfl (by simp;rfl)
  ·have hcl:=VR d[k] (hd1 _ (Bh hkl));refine zz (some [nx+5]) (Row.pures [0,2,3,4,5,6] (.alt 1 (.alt 7 (Row.pures [8] (.alt 9 (.done) .stop)) .stop) .stop)) mixed (zo htl htk) ?_;refine zJ (hcl) (zo htl htk) ?_;refine⟨by omega,?_⟩;refine zb ?_;exact zq (k+1,_,_,v2,v3+1) [_] ⟨hc,Zne hI hkl hkt⟩ (by simp;omega) (by simp[zu k (by omega)]) rfl (by simp;rfl)
 ·simp at hc;obtain rfl:k=d.length:=by omega
  refine zy (za (zb ?_));refine zg ⟨_,(S.set (nx+3) (.cells v3 42 ts)).set (nx+4) ob,by simp;rfl,⟨v3,ts,ob,hI,rfl,rfl⟩,?_⟩;intro o
  by_cases h4:o=nx+4
  ·subst h4;exact .inl (by rw[q11];simp)
  by_cases h3:o=nx+3
  ·subst h3;exact .inl (by rw[q10 _ _ _ _ h4,q11];simp)
  rw[q10 _ _ _ _ h4,q10 _ _ _ _ h3];exact zN hd o
theorem Zng(d:zk)(hd0:d.length<=1048576)(hd1:∀l∈d,l.length<=1048576):Pure prog 337 [.agg [L d]] (.agg [L d]):=by
 refine Zej (k:=d.length) (sz:=1) (e:=42) (cs:=d.flatMap Enc.enc) 3 (λS nx hd=>(ZbO d d.length hd0 hd1 (by simp) S nx hd).mono ?_) (by simp);rintro _ _ ⟨v,ts,ob,⟨h1,h2,-⟩,rfl,rfl⟩;obtain⟨rfl,rfl⟩:=h2 (Ag _);rw[Ao];refine⟨v,rfl,?_⟩;funext o
 by_cases h4:o=nx+4
 ·subst h4;rw[q11,q10 _ _ _ _ (by omega),hd _ (by omega)]
 ·rw[q10 _ _ _ _ h4]
theorem Znh(d:zk)(t:Nat)(l:zK)(hd0:d.length<=1048576)(hd1:∀l∈d,l.length<=1048576)(ht:d[t]?=some l)(hl:0<l.length)(S:Store)(nx:Nat)(hd:zT nx S):
  Spec prog 337 [.agg [L d]] S (λp S'=>∃v w,p=.agg [.sl (nx+3) v 1 0 d.length] /\
   S'=(S.set (nx+3) (.cells v 42 ((d.flatMap Enc.enc).set t (.sl (nx+4) w 2 0 l.length)))).set (nx+4) (.cells w 100 (l.flatMap Enc.enc))):=by
 refine(ZbO d t hd0 hd1 (λm hm=>by rw[ht]at hm;cases hm;exact hl) S nx hd).mono ?_;rintro _ _ ⟨v,ts,ob,⟨h1,-,h3⟩,rfl,rfl⟩;obtain⟨w,m,hm,rfl,rfl⟩:=h3 (Ac.1 ht).1;rw[ht]at hm;cases hm;rw[Ao];exact⟨v,w,rfl,rfl⟩
open Go Go.Proofs
def jh(x:Inst)(t:zK):Int:=W (yC x (t.map (·.c)))
def ji(t:zK):Int:=W (zQ t)
def y8(x:Inst)(d:zk):Nat:=(d.filter λt=>decide (zP x t≠0)).length
theorem Zni(x:Inst)(d e:zk):y8 x (d++e)=y8 x d+y8 x e:=by simp[y8]
theorem Znj(x:Inst)(t:zK):y8 x [t]=if zP x t=0 then 0 else 1:=by
 by_cases h:zP x t=0<;>simp[y8,h]
theorem Zfp(x:Inst)(d:zk):y8 x d<=d.length:=By _ _
abbrev Zm(x:Inst)(d:zk):List PV:=[I x.days,I x.veh,I x.cap,I x.len,L x.cust,L x.dist,L d,L (yR (d.flatten.map (·.c))),B (decide (¬(yR (d.flatten.map (·.c))).Nodup)),L (d.map (zP x)),I (y8 x d),L (d.map ji),L (d.map (jh x))]
theorem Zfq(x:Inst)(d:zk)(hx:x.cust.length<=1048576)(hdo:DayOk d)(hf:d.flatten.length<=1048576):Pure prog 333 [.agg (zx x),.agg [L d]] (.agg (Zm x d)):=by
 have h1:=ZeP d hdo.1 hf;have h2:=ZeX d.flatten hf;have h3:=ZeW (yR (d.flatten.map (·.c))) (by rw[Qa,List.length_map];exact hf) (X6 _);generalize hon:yR (d.flatten.map (·.c))=on at *;generalize htw:decide (¬on.Nodup)=tw at *;refine zt Tryz.func333 Tryz.ntmps333 Tryz.results333 λS nx hd=>?_
 refine za (zb ?_);intro v0 v1 v2;refine za (zz (some [nx,nx+1]) (Row.pures [0,1,2,3,4,5] (.alt 6 (.alt 7 (.done) .stop) .stop)) mixed trivial ?_);refine zJ (h1) trivial ?_;refine zJ (h2) trivial ?_;intro v3;refine za (zb ?_);refine zr h3 ?_
 repeat apply za
 refine zb ?_;refine jg 3 9 47 1 rfl rfl λv4=>?_
 refine jg 3 11 3 1 rfl rfl λv5=>?_
 refine jg 3 12 3 1 rfl rfl λv6=>?_
 refine zj (zD (λ(k,v4,v5,v6)=>k<=d.length) (λ(k,v4,v5,v6)=>[(2,.ptr nx v0 0),(4,.ptr (nx+2) v2 0),(5,.ptr (nx+3) v3 0),(20,L d),(21,I d.length),(22,I k)])
  (λ(k,v4,v5,v6)=>[.cells v0 25 (zx x),.cells v1 39 [L d],.cells v2 395 [I 0,I 0,I 0,I 0,yp,yp,yp,yp,B false,yp,I 0,yp,yp],
   .cells v3 395 [I x.days,I x.veh,I x.cap,I x.len,L x.cust,L x.dist,L d,L on,B tw,.sl (nx+4) v4 1 0 k,I (y8 x (d.take k)),.sl (nx+5) v5 1 0 k,.sl (nx+6) v6 1 0 k],
   .cells v4 47 (((d.map (zP x)).take k).flatMap Enc.enc),.cells v5 3 (((d.map ji).take k).flatMap Enc.enc),.cells v6 3 (((d.map (jh x)).take k).flatMap Enc.enc)]) (λs=>d.length-s.1) (0,v4,v5,v6) [] (by simp) (by simp) (by simp[y8]) ?_)
 rintro⟨k,v4,v5,v6⟩ hk;simp only at hk ⊢;refine za (zb ?_);refine za (zv rfl (λhc=>?_) (λhc=>?_))
 ·simp at hc;obtain⟨t,tl,a1,a2,a3,e0⟩:=zF rfl d k hc;have hk1:1<=d.length-k:=by omega
  have htm:=Ab a1;have hm:=X8 x t hx (hdo.t t htm);have hl:=ZeO t (hdo.t t htm);have hw:=X5 x t (hdo.t t htm) (hdo.s t htm);have b1:y8 x (d.take (k+1))=y8 x (d.take k)+if zP x t=0 then 0 else 1:=by rw[a3,Zni,Znj]
  have b2:=Zfp x (d.take k);rw[Ay]at b2;have b3:=hdo.n;have b4:=Nat.min_le_left k d.length;have f1:(((d.map (zP x)).take (k+1)).flatMap Enc.enc:List PV)=((d.map (zP x)).take k).flatMap Enc.enc++[I (zP x t)]:=by rw[<-List.map_take,<-List.map_take,a3];simp
  have f2:(((d.map ji).take (k+1)).flatMap Enc.enc:List PV)=((d.map ji).take k).flatMap Enc.enc++[I (W (zQ t))]:=by rw[<-List.map_take,<-List.map_take,a3];simp[ji]
  have f3:(((d.map (jh x)).take (k+1)).flatMap Enc.enc:List PV)=((d.map (jh x)).take k).flatMap Enc.enc++[I (W (yC x (t.map (·.c))))]:=by rw[<-List.map_take,<-List.map_take,a3];simp[jh]
  have l1:(((d.map (zP x)).take k).flatMap Enc.enc:List PV).length=k:=by rw[jG,Ay,List.length_map];omega
  have l2:(((d.map ji).take k).flatMap Enc.enc:List PV).length=k:=by rw[jG,Ay,List.length_map];omega
  have l3:(((d.map (jh x)).take k).flatMap Enc.enc:List PV).length=k:=by rw[jG,Ay,List.length_map];omega
  generalize ((d.map (zP x)).take k).flatMap Enc.enc=c1 at *;generalize ((d.map ji).take k).flatMap Enc.enc=c2 at *;generalize ((d.map (jh x)).take k).flatMap Enc.enc=c3 at *;have t1:c1.take k=c1:=Af (by omega);have t2:c2.take k=c2:=Af (by omega);have t3:c3.take k=c3:=Af (by omega);generalize y8 x (d.take k)=bn at *;have wb:IntKind.i64.wrap ((bn:Int)+1)=((bn+1:Nat):Int):=zu bn (by omega);generalize zP x t=mt at *;generalize W (zQ t)=lt at *;generalize W (yC x (t.map (·.c)))=wt at *;refine zh (za (zj (za (ze [] (zE hc e0 hk1) ?_))));intro v7;refine za (zb ?_);refine zr hm ?_
  repeat apply za
  refine zb ?_;refine qY (nx:=nx) (λ_:Unit=>True) (λ_=>[(2,.ptr nx v0 0),(4,.ptr (nx+2) v2 0),(5,.ptr (nx+3) v3 0),(7,.ptr (nx+7) v7 0),(8,I mt),(20,L d),(21,I d.length),(22,I k)]) (λ_=>S) (λ_=>[.cells v0 25 (zx x),.cells v1 39 [L d],.cells v2 395 [I 0,I 0,I 0,I 0,yp,yp,yp,yp,B false,yp,I 0,yp,yp],
   .cells v3 395 [I x.days,I x.veh,I x.cap,I x.len,L x.cust,L x.dist,L d,L on,B tw,.sl (nx+4) v4 1 0 k,I (bn+(if mt=0 then 0 else 1):Nat),.sl (nx+5) v5 1 0 k,.sl (nx+6) v6 1 0 k],
   .cells v4 47 c1,.cells v5 3 c2,.cells v6 3 c3,.cells v7 42 [L t]]) ?_ ?_
  ·repeat apply za
   refine zv rfl (λhq=>?_) (λhq=>?_)
   ·simp at hq;rw[if_neg hq];refine ze [] wb ?_;exact zY () [] trivial (by simp) rfl (by simp)
   ·simp at hq;rw[if_pos hq];exact zh (zY () [] trivial (by simp) rfl (by simp))
  ·rintro⟨⟩ -;refine za (ze [] (zo t1 l1) ?_);refine⟨by omega,?_⟩;refine za (zz (some [nx+7]) (Row.pures [0,2,3,4] (.alt 1 (.alt 5 (Row.pures [6] (.alt 7 (.done) .stop)) .stop) .stop)) mixed (zo t2 l2) ?_);refine zJ (hl) (zo t2 l2) ?_;refine⟨by omega,?_⟩;refine zz (some [nx,nx+7]) (Row.pures [0,2,3,4,5] (.alt 1 (.alt 6 (Row.pures [7] (.alt 8 (.done) .stop)) .stop) .stop)) mixed (zo t3 l3) ?_;refine zJ (hw) (zo t3 l3) ?_;refine⟨by omega,?_⟩;refine zb ?_;exact zq (k+1,v4+1,v5+1,v6+1) [_] (by simp;omega) (by simp;omega) (by simp[zu k (by omega)]) rfl (by simp only[f1,f2,f3,b1];simp;rfl)
 ·simp at hc;obtain rfl:k=d.length:=by omega
  refine zy (za (zb ?_));refine yb 6 rfl ?_;refine yb 5 rfl ?_;refine yb 4 rfl ?_;have g1:(d.map (zP x)).take d.length=d.map (zP x):=Af (by simp);have g2:(d.map ji).take d.length=d.map ji:=Af (by simp);have g3:(d.map (jh x)).take d.length=d.map (jh x):=Af (by simp);exact zg (zi hd (by simp;rfl) (by simp[zp,g1,g2,g3];simp[<-hon,<-htw]))
open Go Go.Proofs
def VS(P:Program)(k:FuncId)(args:Nat->List PV)(xs:List (List PV))(ret:PV):Prop :=
 qj P k/\∀(l:Nat) (V:Ctx->Store->World->Prop) (_:∀{C C':Ctx} {S S':Store} {w w':World},Step C S w C' S' w'->V C S w->V C' S' w') (m:Nat) (J:Nat->Store->Prop),(∀i A,J i A->zT m A) ->
  (∀i A obs x,xs[i]?=some x->J i A->PYield P V l x (ext A m obs) (λT=>∃A',J (i+1) A'/\T=ext A' m obs)) ->
  ∀A,J 0 A->PCallsV P V k (args l) A (λp T=>p=ret/\J xs.length T)
theorem Zfr {P : Program} {N : Nat} {f : FuncId} {fn : Func} {c : Code} {rs : List ResultVar} {args : Nat → List PV} {xs : List (List PV)} {ret : PV} (hf : P.funcs[f]? = some fn) (hname : (fn.name == "runtime.NumGoroutine") = false) (hb : fn.body = some c) (hN : fn.ntmps = N) (hrs : fn.results.toList = rs) (hargs : ∀ l, (args l).length ≤ N)
  (h:∀(l:Nat) (V:Ctx->Store->World->Prop) (keep:∀{C C':Ctx} {S S':Store} {w w':World},Step C S w C' S' w'->V C S w->V C' S' w') (nx:Nat) (J:Nat->Store->Prop),(∀i A,J i A->zT nx A) ->
   (∀i A obs x,xs[i]?=some x->J i A->PYield P V l x (ext A nx obs) (λT=>∃A',J (i+1) A'/\T=ext A' nx obs)) ->
   ∀A,J 0 A->PW P ⟨none,V,keep⟩ 0 N c (Zg P rs (λp T=>p=ret/\J xs.length T)) (uq (args l)) (ext A nx [])):VS P f args xs ret:=by
 refine⟨qh hf hname hb,λl V keep m J hJ hY A hA=>?_⟩;have:=h l V keep m J hJ hY A hA;rw[qB (hJ 0 A hA)]at this;exact ZaU hf hb hN hrs (hargs l) this
theorem PYield.mono{P:Program}{V:Ctx->Store->World->Prop}{l:Nat}{args:List PV}{S:Store}{Q Q':Store->Prop}(h:PYield P V l args S Q)(hq:∀T,Q T->Q' T):PYield P V l args S Q':=by
 intro C w vs h1 h2 h3 h4;obtain⟨fn,tmps,assign,body,hy,hR⟩:=h C w vs h1 h2 h3 h4;refine⟨fn,tmps,assign,body,hy,hR.mono ?_⟩;rintro e w' ⟨S',C',a,b,c⟩;exact⟨S',C',a,hq _ b,c⟩
theorem Zfs{P:Program}{k:FuncId}{args:Nat->List PV}{xs:List (List PV)}{ret:PV}(h:VS P k args xs ret){V:Ctx->Store->World->Prop}(keep:∀{C C':Ctx} {S S':Store} {w w':World},Step C S w C' S' w'->V C S w->V C' S' w')
  {l nx:Nat} {J:Nat->Store->Prop} {ys:List (List PV)} (hY:∀i A obs x,ys[i]?=some x->J i A->PYield P V l x (ext A nx obs) (λT=>∃A',J (i+1) A'/\T=ext A' nx obs))
  (off:Nat) (hxs:∀i x,xs[i]?=some x->ys[off+i]?=some x) {A:Store} (hJ:J off A) (obs:List Ob) :
  SpecV P V k (args l) (ext A nx obs) (λp T=>∃A',p=ret/\J (off+xs.length) A'/\T=ext A' nx obs):=by
 refine⟨h.1,(h.2 l V keep (nx+obs.length) (λi T=>∃A',J (off+i) A'/\T=ext A' nx obs) ?_ ?_ (ext A nx obs) ⟨A,hJ,rfl⟩).mono ?_⟩
 ·rintro i T ⟨A',_,rfl⟩;exact jF
 ·rintro i T more x hx ⟨A1,hJ1,rfl⟩;rw[Vy _ _ rfl];refine(hY (off+i) A1 (obs++more) x (hxs i x hx) hJ1).mono ?_;rintro T ⟨A',hA',rfl⟩;exact⟨ext A' nx obs,⟨A',hA',rfl⟩,(Vy _ _ rfl).symm⟩
 ·rintro p T ⟨rfl,A',hA',rfl⟩;exact⟨A',rfl,hA',rfl⟩
theorem VT{P:Program}{nx:Nat}{F:Nat->PV}{obs:List Ob}{rs:List ResultVar}{ps:List PV}{J:Store->Prop}{A:Store}{ret:PV}(hd:zT nx A)(h1:wh P F (ext A nx obs) rs=some ps)(h2:zp ps=ret)(hJ:J A):
  ∃ps S',wh P F (ext A nx obs) rs=some ps/\(zp ps=ret/\J S')/\∀o,S' o=ext A nx obs o\/S' o=.dead:=⟨ps,A,h1,⟨h2,hJ⟩,zN hd⟩
theorem Zft{α:Type}{f:Nat->Option α}{n k:Nat}{v:α}(hk:k<n)(hf:f k=some v):((List.range n).filterMap f)[((List.range k).filterMap f).length]?=some v:=by
 obtain⟨m,rfl⟩:∃m,n=k+(m+1):=⟨n-k-1,by omega⟩;rw[Dl,B8,Ak (Ag _),Bw,CU];simp[hf]
theorem Zfu{α:Type}{f:Nat->Option α}{k:Nat}(hf:f k=none):((List.range (k+1)).filterMap f).length=((List.range k).filterMap f).length:=by
 rw[AO,B8];simp[hf]
theorem Zfv{α:Type}{f:Nat->Option α}{k:Nat}{v:α}(hf:f k=some v):((List.range (k+1)).filterMap f).length=((List.range k).filterMap f).length+1:=by
 rw[AO,B8];simp[hf]
structure Spot where
 t:Nat
 p:Nat
 m:Int
abbrev Zn(s:Spot):List PV:=[.agg [I s.t,I s.p,I s.m]]
def wB(l:zK)(i:Nat):Int:=if i=0 then 0 else (l.getD (i-1) default).c+1
def wT(l:zK)(i:Nat):Int:=if i<l.length then (l.getD i default).c+1 else 0
def vZ(x:Inst)(l:zK)(s:Stop)(i:Nat):Int:=W (W (arc x (wB l i) (s.c+1)+arc x (s.c+1) (wT l i))-arc x (wB l i) (wT l i))
def uz(x:Inst)(t:Nat)(l:zK)(w:Int)(s:Stop)(i:Nat):Option Spot:=if W (w+vZ x l s i)<=x.len then some ⟨t,i,vZ x l s i⟩ else none
def uT(x:Inst)(t:Nat)(l:zK)(fl bad ll w:Int)(s:Stop):List Spot :=
 if 0<bad-(if fl=13 then 1 else 0)\/x.cap<W (ll+s.q) then [] else (List.range (l.length+1)).filterMap (uz x t l w s)
abbrev uA(x:Inst)(d:zk)(on:List Int)(tw:Bool)(fs:List Int)(bad:Int)(ls ws:List Int):List PV:=[I x.days,I x.veh,I x.cap,I x.len,L x.cust,L x.dist,L d,L on,B tw,L fs,I bad,L ls,L ws]
theorem Znk(x:Inst)(d:zk)(on:List Int)(tw:Bool)(fs:List Int)(bad:Nat)(ls ws:List Int)(t:Nat)(l:zK)(s:Stop)(fl ll w:Int)(hbad:bad<=1048576)(hdn:d.length<=1048576)(hd:d[t]?=some l)(hfs:fs[t]?=some fl)(hls:ls[t]?=some ll)(hws:ws[t]?=some w)
  (hfn:fs.length=d.length) (hln:ls.length=d.length) (hwn:ws.length=d.length) (hb:fl=13->0<bad) (hll:l.length<=1048576) (hsl:∀s∈l,qe s.c) (hss:qe s.c) :
  VS prog 354 (λy=>[.agg (uA x d on tw fs bad ls ws),I t,.agg [I s.c,I s.q],jS y]) ((uT x t l fl bad ll w s).map Zn) (B true):=by
 refine Zfr Tryz.func354 (by rfl) rfl Tryz.ntmps354 (congrArg Array.toList Tryz.results354) (by simp) λy V keep nx J hJd hY A0 hA0=>?_
 have ht:t<d.length:=(Ac.1 hd).1;obtain⟨fl',tf,a1,-,-,ef⟩:=zF rfl fs t (by omega);obtain⟨ll',tl,a2,-,-,elo⟩:=zF rfl ls t (by omega);obtain⟨w',tw',a3,-,-,ew⟩:=zF rfl ws t (by omega);obtain⟨l',td,a4,-,-,ed⟩:=zF rfl d t ht;obtain rfl:fl=fl':=by rw[hfs]at a1;exact Option.some.inj a1
 obtain rfl:ll=ll':=by rw[hls]at a2;exact Option.some.inj a2
 obtain rfl:w=w':=by rw[hws]at a3;exact Option.some.inj a3
 obtain rfl:l=l':=by rw[hd]at a4;exact Option.some.inj a4
 have h1:1<=fs.length-t:=by omega
 have h2:1<=ls.length-t:=by omega
 have h3:1<=ws.length-t:=by omega
 have h4:1<=d.length-t:=by omega
 have g1:t<fs.length:=by omega
 have g2:t<ls.length:=by omega
 have g3:t<ws.length:=by omega
 refine za (zb ?_);intro v0 v1;refine za (zb ?_)
 repeat apply za
 refine ze [] (zE ef h1 g1) ?_;obtain⟨oth,hoth⟩:∃oth:Int,oth=bad-(if fl=13 then 1 else 0):=⟨_,rfl⟩;refine qY (nx:=nx) (λ_:Unit=>True) (λ_=>[(1,I t),(3,jS y),(4,.ptr nx v0 0),(6,.ptr (nx+1) v1 0),(9,I oth)]) (λ_=>A0) (λ_=>[.cells v0 395 (uA x d on tw fs bad ls ws),.cells v1 100 [I s.c,I s.q]]) ?_ ?_
 ·repeat apply za
  refine zv rfl (λhq=>?_) (λhq=>?_)
  ·simp at hq;have hb':=hb hq;rw[if_pos hq]at hoth;have wb:IntKind.i64.wrap ((bad:Int)-1)=oth:=by rw[hoth,wr _ (by omega) (by omega)]
   refine ze [] wb ?_;exact zY () [] trivial (by simp) rfl (by simp)
  ·simp at hq;rw[if_neg hq]at hoth;obtain rfl:oth=bad:=by omega
   exact zh (zY () [] trivial (by simp) rfl (by simp))
 ·rintro⟨⟩ -;have hout:∀(h:0<oth\/x.cap<W (ll+s.q)),uT x t l fl bad ll w s=[]:=λh=>by unfold uT;rw[if_pos (by rw[hoth]at h;exact h)]
  by_cases ho:0<oth
  ·rw[hout (.inl ho)]at hY ⊢
   repeat apply za
   refine zz (some [nx,nx+1]) (Row.pures [0,1,2,3,4,5,6,7,8,9,10,11,12,13,14,15] .done) mixed (zo ho zH) ?_;refine zn rfl (za (zb ?_));exact zg (VT (hJd _ _ hA0) (by simp;rfl) (by simp[zp]) hA0)
  by_cases hcap:x.cap<W (ll+s.q)
  ·rw[hout (.inr hcap)]at hY ⊢
   repeat apply za
   refine zz (some [nx,nx+1]) (Row.pures [0,1,2,3,4,5,6,7,8,9,10,11,12,13,14,15] .done) mixed (yl ho hcap elo h2 g2 zH) ?_;refine zn rfl (za (zb ?_));exact zg (VT (hJd _ _ hA0) (by simp;rfl) (by simp[zp]) hA0)
  have hz:uT x t l fl bad ll w s=(List.range (l.length+1)).filterMap (uz x t l w s):=by unfold uT;rw[if_neg (by rw[<-hoth];simp[ho,hcap])]
  clear hout;rw[hz]at hY ⊢
  repeat apply za
  refine zz (some [nx,nx+1]) (Row.pures [0,1,2,3,4,5,6,7,8,9,10,11,12,13,14,15] .done) mixed (yG ho hcap elo h2 g2) ?_;refine zm rfl (zh ?_);have wc:IntKind.i64.wrap (s.c+1)=s.c+1:=wr _ (by unfold qe at hss;omega) (by unfold qe at hss;omega);refine za (zz (some [nx,nx+1]) (Row.pures [0,1,2,3,4,5,6,7,8,9,10,11] .done) mixed (zS ed h4 ht wc) ?_);have wl:IntKind.i64.wrap ((l.length:Int)+1)=((l.length+1:Nat):Int):=zu _ (by omega)
  repeat apply za
  refine ze [] wl ?_;refine zj (jr (σ:=Nat × Store) (λs'=>s'.1<=l.length+1/\J ((List.range s'.1).filterMap (uz x t l w s)).length s'.2) (λs'=>[(1,I t),(3,jS y),(4,.ptr nx v0 0),(6,.ptr (nx+1) v1 0),(10,L l),(11,I (s.c+1)),(54,I ((l.length+1:Nat):Int)),(55,I s'.1)]) (λs'=>s'.2)
   (λ_=>[.cells v0 395 (uA x d on tw fs bad ls ws),.cells v1 100 [I s.c,I s.q]]) (λs'=>l.length+1-s'.1) (zY (0,A0) [] (by simpa using hA0) (by simp) rfl (by simp)) ?_)
  rintro⟨k,A⟩ ⟨hk,hJ⟩;simp only at hk hJ ⊢;refine za (zb ?_);refine za (zv rfl (λhc=>?_) (λhc=>?_))
  ·simp at hc;refine zh (za (zj (za (zb ?_))));refine za (zb ?_)
   repeat apply za
   refine zb ?_;refine qY (nx:=nx) (λ_:Unit=>True) (λ_=>[(1,I t),(3,jS y),(4,.ptr nx v0 0),(6,.ptr (nx+1) v1 0),(10,L l),(11,I (s.c+1)),(12,I k),(13,I (wB l k)),(14,I 0),(54,I ((l.length+1:Nat):Int)),(55,I k)]) (λ_=>A) (λ_=>[.cells v0 395 (uA x d on tw fs bad ls ws),.cells v1 100 [I s.c,I s.q]]) ?_ ?_
   ·repeat apply za
    refine zv rfl (λhk0=>?_) (λhk0=>?_)
    ·simp at hk0;obtain⟨j,rfl⟩:∃j,k=j+1:=⟨k-1,by omega⟩;obtain⟨p,tp,p1,-,-,-,ep⟩:=el 2 rfl l j (by omega);have wj:IntKind.i64.wrap (j:Int)=(j:Int):=wr _ (by omega) (by omega);have hjl:j<l.length:=by omega
     have hj2:2<=l.length*2-j*2:=by omega
     have hsm:=hsl p (Ab p1);have wp:IntKind.i64.wrap (p.c+1)=p.c+1:=wr _ (by unfold qe at hsm;omega) (by unfold qe at hsm;omega);have hah:wB l (j+1)=p.c+1:=by unfold wB;rw[if_neg (by omega),Cc,Aa,p1];rfl
     refine ze [] (yG wj ep wp hjl hj2) ?_;exact zY () [] trivial (by simp[hah]) rfl (by simp)
    ·simp at hk0;subst hk0;exact zh (zY () [] trivial (by simp[wB]) rfl (by simp))
   ·rintro⟨⟩ -
    repeat apply za
    refine zb ?_;refine qY (nx:=nx) (λ_:Unit=>True) (λ_=>[(1,I t),(3,jS y),(4,.ptr nx v0 0),(6,.ptr (nx+1) v1 0),(10,L l),(11,I (s.c+1)),(12,I k),(13,I (wB l k)),(14,I (wT l k)),(54,I ((l.length+1:Nat):Int)),(55,I k)]) (λ_=>A) (λ_=>[.cells v0 395 (uA x d on tw fs bad ls ws),.cells v1 100 [I s.c,I s.q]]) ?_ ?_
    ·repeat apply za
     refine zv rfl (λhk0=>?_) (λhk0=>?_)
     ·simp at hk0;obtain⟨p,tp,p1,-,-,-,ep⟩:=el 2 rfl l k hk0;have hj2:2<=l.length*2-k*2:=by omega
      have hsm:=hsl p (Ab p1);have wp:IntKind.i64.wrap (p.c+1)=p.c+1:=wr _ (by unfold qe at hsm;omega) (by unfold qe at hsm;omega);have hah:wT l k=p.c+1:=by unfold wT;rw[if_pos hk0,Aa,p1];rfl
      refine ze [] (zS ep wp hk0 hj2) ?_;exact zY () [] trivial (by simp[hah]) rfl (by simp)
     ·simp at hk0;exact zh (zY () [] trivial (by simp[wT];omega) rfl (by simp))
    ·rintro⟨⟩ -;have q1:=wO x (wB l k) (s.c+1);have q2:=wO x (s.c+1) (wT l k);have q3:=wO x (wB l k) (wT l k);have hmo:W (W (arc x (wB l k) (s.c+1)+arc x (s.c+1) (wT l k))-arc x (wB l k) (wT l k))=vZ x l s k:=rfl;refine za (zz (some [nx,nx+1]) (Row.pures [0,1,2,3,4,5,6,7,8,9,10,11,12,13,14,15,16,17] .done) mixed trivial ?_);refine zJ (q1) trivial ?_;refine zJ (q2) trivial ?_;refine zJ (q3) hmo ?_
     by_cases hf:W (w+vZ x l s k)<=x.len
     ·have hsp:uz x t l w s k=some ⟨t,k,vZ x l s k⟩:=by unfold uz;rw[if_pos hf]
      have hat:=Zft (n:=l.length+1) (by omega) hsp;have hnx:=Zfv hsp;have hy:(((List.range (l.length+1)).filterMap (uz x t l w s)).map Zn)[((List.range k).filterMap (uz x t l w s)).length]?=some (Zn ⟨t,k,vZ x l s k⟩):=by rw[Aj,hat];rfl
      refine za (zz (some [nx,nx+1]) (Row.pures [0,1,2,3,4,5,6,7,8,9,10,11,12,13,14,15,16] (.alt 17 (Row.pures [18,19] .done) .stop)) mixed (yG hmo ew h3 g3 hf) ?_);refine⟨by rfl,(JQ rfl rfl rfl (hY _ _ _ _ hy hJ) ?_)⟩;rintro _ ⟨A',hJ',rfl⟩;refine⟨by simp[yE],js trivial ?_⟩;refine zm rfl (zh (zb ?_));exact zq (k+1,A') [] ⟨by show k+1<=_;omega,by rw[hnx];exact hJ'⟩ (by simp;omega) (by simp[zu k (by omega)]) rfl (by simp)
     ·have hsp:uz x t l w s k=none:=by unfold uz;rw[if_neg hf]
      have hnx:=Zfu hsp;refine za (zz (some [nx,nx+1]) (Row.pures [0,1,2,3,4,5,6,7,8,9,10,11,12,13,14,15,16,17,18,19] .done) mixed (yl hmo ew h3 g3 hf zH) ?_);refine zm rfl (zh (zb ?_));exact zq (k+1,A) [] ⟨by show k+1<=_;omega,by rw[hnx];exact hJ⟩ (by simp;omega) (by simp[zu k (by omega)]) rfl (by simp)
  ·simp at hc;obtain rfl:k=l.length+1:=by omega
   refine zy (za (zb ?_));exact zg (VT (hJd _ _ hJ) (by simp;rfl) (by simp[zp]) (by simpa using hJ))
open Go
theorem ZbP(x:Inst):(yo x).cust.length<=6:=by simp[yo];omega
theorem VU:∀(d:zk),(∀t∈d,t≠[])->d.length<=d.flatten.length
 | [],_=>by simp
 | t :: d,h=>by
  have:=VU d λt ht=>h t (by simp[ht])
  have h1:t.length≠0:=by simpa using h t (by simp)
  rw[Bp,Ar,Ae];omega
theorem YD{d:zk}{t:zK}(h:t∈d):t.Sublist d.flatten:=by
 obtain⟨a,b,rfl⟩:=List.append_of_mem h;rw[List.flatten_append,Bp];exact(List.sublist_append_left t b.flatten).trans (List.sublist_append_right a.flatten _)
theorem Znl{a b:List Int}(h:a.Perm b):a.sum=b.sum:=by
 induction h with
 | nil=>rfl
 | cons x _ ih=>simp[ih]
 | swap x y l=>simp;omega
 | trans _ _ ih1 ih2=>exact ih1.trans ih2
theorem vB(x:Inst)(d:zk):yr x d=0<->(∀t∈d,zP x t=0)/\(d.flatten.map (·.c)).Nodup/\(d.length:Int)<=x.veh:=by
 unfold yr;cases hf:d.find? (λt=>zP x t != 0) with
 | some t =>
  have h1:=DM hf;have h2:=List.mem_of_find?_eq_some hf;simp only;constructor
  ·intro e;simp[e]at h1
  ·rintro⟨h,_⟩;exact h t h2
 | none =>
  rw[Di]at hf;simp only;constructor
  ·intro e;refine⟨λt ht=>by simpa using hf t ht,?_⟩;split at e
   ·cases e
   ·split at e
    ·cases e
    ·rename_i h1 h2;exact⟨by simpa using h1,by omega⟩
  ·rintro⟨_,h1,h2⟩;rw[if_neg (by simpa using h1),if_neg (by omega)]
theorem Q7(x:Inst)(t:zK):zP x t=0<->qH x t=true/\(t.map (·.c)).Nodup/\W (zQ t)<=x.cap/\W (yC x (t.map (·.c)))<=x.len:=by
 unfold zP;constructor
 ·intro e;split at e
  ·cases e
  ·split at e
   ·cases e
   ·split at e
    ·cases e
    ·split at e
     ·cases e
     ·rename_i h1 h2 h3 h4;exact⟨by simpa using h1,by simpa using h2,by omega,by omega⟩
 ·rintro⟨h1,h2,h3,h4⟩;rw[if_neg (by simp[h1]),if_neg (by simpa using h2),if_neg (by omega),if_neg (by omega)]
theorem ZbQ{t:zK}(h:∀s∈t,0<=s.q/\s.q<=2147483648):0<=zQ t/\zQ t<=2147483648*t.length:=by
 induction t with
 | nil=>simp[zQ]
 | cons s t ih =>
  have:=ih λa ha=>h a (by simp[ha])
  have:=h s (by simp);simp only[zQ,Ax,BP,Ae]at *;omega
theorem Znm(a b:zK):zQ (a++b)=zQ a+zQ b:=by simp[zQ]
open Go Go.Proofs
def yT(x:Inst)(d:zk)(s:Stop):List Spot :=
 if zP x [s]=1\/s.c∈d.flatten.map (·.c)\/¬(d.flatten.map (·.c)).Nodup\/x.veh<d.length then []
 else ((List.range d.length).flatMap λt=>uT x t (d.getD t []) (zP x (d.getD t [])) (y8 x d) (ji (d.getD t [])) (jh x (d.getD t [])) s) ++
  (if y8 x d=0/\zP x [s]=0/\(d.length:Int)<x.veh then [⟨d.length,0,W (yC x [s.c])⟩] else [])
def Z1(st:Spot × Bool)(b:Spot):Spot × Bool:=if st.2=false\/b.m<st.1.m then (b,true) else st
def vE(l:List Spot):Spot × Bool:=l.foldl Z1 (⟨0,0,0⟩,false)
def jU(l:zK)(i:Nat)(s:Stop):zK:=l.take i++s :: l.drop i
def jx(d:zk)(b:Spot)(s:Stop):zk:=if b.t=d.length then d++[[s]] else d.set b.t (jU (d.getD b.t []) b.p s)
def yL(x:Inst)(d:zk)(s:Stop):zk × Bool:=bif (vE (yT x d s)).2 then (jx d (vE (yT x d s)).1 s,true) else (d,false)
theorem Zfw:∀(l:List Spot) (st:Spot × Bool),(l.foldl Z1 st).2=true->(l.foldl Z1 st)=st\/(l.foldl Z1 st).1∈l
 | [],st,_=>.inl rfl
 | b :: l,st,h=>by
  rw[A8]at h ⊢;rcases Zfw l _ h with e | e
  ·by_cases hq:st.2=false\/b.m<st.1.m
   ·right;rw[e];unfold Z1;rw[if_pos hq];simp
   ·left;rw[e];unfold Z1;rw[if_neg hq]
  ·exact .inr (by simp[e])
theorem VV{l:List Spot}(h:(vE l).2=true):(vE l).1∈l:=by
 rcases Zfw l _ h with e | e
 ·rw[show l.foldl Z1 (⟨0,0,0⟩,false)=vE l from rfl]at e;rw[e]at h;cases h
 ·exact e
theorem Znn{x:Inst}{t:Nat}{l:zK}{fl bad ll w:Int}{s:Stop}{b:Spot}(h:b∈uT x t l fl bad ll w s):¬(0<bad-(if fl=13 then 1 else 0))/\W (ll+s.q)<=x.cap/\b∈(List.range (l.length+1)).filterMap (uz x t l w s):=by
 unfold uT at h
 by_cases hw:0<bad-(if fl=13 then 1 else 0)\/x.cap<W (ll+s.q)
 ·rw[if_pos hw]at h;cases h
 ·rw[if_neg hw]at h;refine⟨λe=>hw (.inl e),?_,h⟩;rcases Int.lt_or_le x.cap (W (ll+s.q)) with e | e
  ·exact absurd (.inr e) hw
  ·exact e
theorem Wh{x:Inst}{d:zk}{s:Stop}{b:Spot}(h:b∈yT x d s):
  zP x [s]≠1/\s.c ∉ d.flatten.map (·.c)/\(d.flatten.map (·.c)).Nodup/\(d.length:Int)<=x.veh /\
  ((∃l,d[b.t]?=some l/\b.p<=l.length/\¬(0<(y8 x d:Int)-(if zP x l=13 then 1 else 0))/\W (ji l+s.q)<=x.cap/\b.m=vZ x l s b.p/\W (jh x l+b.m)<=x.len) \/
   (b=⟨d.length,0,W (yC x [s.c])⟩/\y8 x d=0/\zP x [s]=0/\(d.length:Int)<x.veh)):=by
 unfold yT at h;split at h
 ·cases h
 ·rename_i hq;have q1:zP x [s]≠1:=λe=>hq (.inl e)
  have q2:s.c ∉ d.flatten.map (·.c):=λe=>hq (.inr (.inl e))
  have q3:(d.flatten.map (·.c)).Nodup:=Classical.byContradiction λe=>hq (.inr (.inr (.inl e)))
  have q4:(d.length:Int)<=x.veh:=by
   rcases Int.lt_or_le x.veh d.length with e | e
   ·exact absurd (.inr (.inr (.inr e))) hq
   ·exact e
  refine⟨q1,q2,q3,q4,?_⟩;rw[AC]at h;rcases h with h | h
  ·left;obtain⟨t,ht,hb⟩:=BV.1 h;rw[AJ]at ht;have hd:d[t]?=some (d.getD t []):=by rw[Aa,Ad ht];rfl
   obtain⟨w1,w2,hb⟩:=Znn hb;obtain⟨i,hi,he⟩:=BS.1 hb;rw[AJ]at hi;unfold uz at he
   by_cases hlen:W (jh x (d.getD t [])+vZ x (d.getD t []) s i)<=x.len
   ·rw[if_pos hlen]at he;cases he;exact⟨_,hd,by simp only;omega,w1,w2,rfl,hlen⟩
   ·rw[if_neg hlen]at he;cases he
  ·right;split at h
   ·rename_i hc;simp at h;exact⟨h,hc⟩
   ·cases h
def yU(a:Int):List Int->Int
 | []=>a
 | c :: l=>yU (c+1) l
def Wi:List Int->Int
 | []=>0
 | c :: _=>c+1
theorem Zfx(x:Inst)(c:Int)(r:List Int):∀(p:List Int) (a:Int),xN x a (p++c :: r)=xN x a (p++r)+(arc x (yU a p) (c+1)+arc x (c+1) (Wi r)-arc x (yU a p) (Wi r))
 | [],a=>by
  cases r with
  | nil=>simp only[AS,xN,yU,Wi];omega
  | cons e r=>simp only[AS,xN,yU,Wi];omega
 | e :: p,a=>by
  simp only[List.cons_append,xN,yU];rw[Zfx x c r p (e+1)];omega
theorem Zfy:∀(p:List Int) (a:Int),yU a p=if p.length=0 then a else (p.getD (p.length-1) 0)+1
 | [],a=>by simp[yU]
 | [c],a=>by simp[yU]
 | c :: e :: p,a=>by
  simp only[yU];rw[show yU (e+1) p=yU (c+1) (e :: p) from rfl,Zfy (e :: p) (c+1)];simp[Aa]
theorem Zno(l:zK)(i:Nat)(h:i<l.length):(l.map (·.c)).getD i 0=(l.getD i default).c:=by
 rw[Aa,Aa,Aj,Ad h];rfl
theorem Znp(x:Inst)(l:zK)(s:Stop)(i:Nat)(h0:l≠[])(hi:i<=l.length):
  yC x ((jU l i s).map (·.c))=yC x (l.map (·.c))+(arc x (wB l i) (s.c+1)+arc x (s.c+1) (wT l i)-arc x (wB l i) (wT l i)):=by
 unfold yC jU;rw[if_neg (by simp),if_neg (by simpa using h0)];rw[List.map_append,Ax,Zfx,<-List.map_append,List.take_append_drop];have e1:yU 0 ((l.take i).map (·.c))=wB l i:=by
  rw[Zfy];unfold wB;rw[List.length_map,Ay]
  by_cases hz:i=0
  ·rw[if_pos (by omega),if_pos hz]
  ·rw[if_neg (by omega),if_neg hz,Zno _ _ (by rw[Ay];omega)];rw[Aa,Aa,AE (by omega),show min i l.length-1=i-1 from by omega]
 have e2:Wi ((l.drop i).map (·.c))=wT l i:=by
  unfold wT
  by_cases hz:i<l.length
  ·rw[if_pos hz,List.drop_eq_getElem_cons hz,Aa,Ad hz];rfl
  ·rw[if_neg hz,BE (by omega)];rfl
 rw[e1,e2]
theorem Zfz(x:Inst)(l:zK)(s:Stop)(i:Nat)(h0:l≠[])(hi:i<=l.length):jh x (jU l i s)=W (jh x l+vZ x l s i):=by
 unfold jh vZ;rw[Znp x l s i h0 hi,Zi,Za9];generalize arc x (wB l i) (s.c+1)+arc x (s.c+1) (wT l i)=p;generalize arc x (wB l i) (wT l i)=q;generalize yC x (l.map (·.c))=r;simp only[W,AI];omega
theorem ZfA(l:zK)(s:Stop)(i:Nat):ji (jU l i s)=W (ji l+s.q):=by
 unfold ji;rw[Zi];have:zQ (jU l i s)=zQ l+s.q:=by
  unfold zQ jU
  conv=>rhs;rw[<-List.take_append_drop i l]
  simp only[List.map_append,Ax,De,BP];omega
 rw[this]
theorem Wj(l:zK)(s:Stop)(i:Nat):(jU l i s).Perm (s :: l):=by
 unfold jU;have:=CH (a:=s) (l₁:=l.take i) (l₂:=l.drop i)
 rwa[List.take_append_drop]at this
theorem ZbR{α:Type}:∀(d:List (List α)) (t:Nat) (l m:List α) (s:α),d[t]?=some l->m.Perm (s :: l)->(d.set t m).flatten.Perm (s :: d.flatten)
 | [],t,l,m,s,h,_=>by simp at h
 | a :: d,0,l,m,s,h,hm=>by
  simp at h;subst h;simp only[Ba,Bp];exact(hm.append_right _)
 | a :: d,t+1,l,m,s,h,hm=>by
  simp only[A5]at h;simp only[AW,Bp];exact((ZbR d t l m s h hm).append_left a).trans CH
theorem ZbS{x:Inst}{d:zk}{s:Stop}{b:Spot}(h:b∈yT x d s):(jx d b s).flatten.Perm (s :: d.flatten):=by
 obtain⟨-,-,-,-,h⟩:=Wh h;unfold jx;rcases h with ⟨l,hl,-⟩ | ⟨rfl,-⟩
 ·have hlt:=(Ac.1 hl).1;rw[if_neg (by omega),Aa,hl];exact ZbR d b.t l _ s hl (Wj l s b.p)
 ·rw[if_pos rfl];simp only[List.flatten_append,Bp,DB,AF];exact BQ
theorem ZbT{x:Inst}{d:zk}{s:Stop}(h:(yL x d s).2=true):(yL x d s).1.flatten.Perm (s :: d.flatten):=by
 unfold yL at h ⊢;cases hb:(vE (yT x d s)).2 with
 | false=>rw[hb]at h;cases h
 | true=>exact ZbS (VV hb)
theorem ZfB{x:Inst}{d:zk}{s:Stop}(h:(yL x d s).2=false):(yL x d s).1=d:=by
 unfold yL at h ⊢;cases hb:(vE (yT x d s)).2 with
 | false=>rfl
 | true=>rw[hb]at h;cases h
theorem Znq{x:Inst}{a b:zK}(h:a.Perm b):qH x a=qH x b:=by
 unfold qH;have h1:a.all (ju x)=b.all (ju x):=by
  rw[DK,As,As];exact⟨λq s hs=>q s (h.symm.subset hs),λq s hs=>q s (h.subset hs)⟩
 have h2:a.isEmpty=b.isEmpty:=by
  cases a with
  | nil=>rw[Dw.1 h]
  | cons a l =>
   cases b with
   | nil=>exact absurd h.symm (by simp)
   | cons=>rfl
 rw[h1,h2]
theorem VW{x:Inst}{t:zK}(h:qH x t=true):t≠[]:=by
 rintro rfl;simp[qH]at h
theorem ZbU{x:Inst}{t:zK}(h:qH x t=false):zP x t=1:=by unfold zP;rw[if_pos h]
theorem ZfC{x:Inst}{s:Stop}(h:zP x [s]≠1):ju x s=true:=by
 cases hs:qH x [s] with
 | false=>exact absurd (ZbU hs) h
 | true=>simpa[qH] using hs
theorem Qf{x:Inst}{d:zk}:y8 x d=0<->∀t∈d,zP x t=0:=by
 unfold y8;rw[BJ,Cy];simp
theorem ZbV{x:Inst}{d:zk}{s:Stop}{b:Spot}(h:b∈yT x d s):yr x (jx d b s)=0:=by
 have hp:=ZbS h;obtain⟨q1,q2,q3,q4,h⟩:=Wh h;rw[vB];have hg:=ZfC q1;have hn:((jx d b s).flatten.map (·.c)).Nodup:=by
  rw[(hp.map _).nodup_iff,Ax,CA];exact⟨q2,q3⟩
 refine⟨?_,hn,?_⟩
 ·rcases h with ⟨l,hl,hi,ho,hcap,hm,hlen⟩ | ⟨rfl,hb,hs,hv⟩
  ·obtain⟨hlt,hle⟩:=Ac.1 hl;have hpd:jx d b s=d.set b.t (jU l b.p s):=by unfold jx;rw[if_neg (by omega),Aa,hl];rfl
   -- the other tours
   have hoth:∀j m,j≠b.t->d[j]?=some m->zP x m=0:=by
    intro j m hj hm';refine Classical.byContradiction λhbad=>?_
    have h13:0<y8 x d:=by
     rcases BR (y8 x d) with e | e
     ·exact absurd (Qf.1 e m (Ab hm')) hbad
     ·exact e
    by_cases hf:zP x l=13
    ·rw[if_pos hf]at ho;have h2:2<=y8 x d:=by
      unfold y8;obtain⟨hjl,hje⟩:=Ac.1 hm';have key:∀(i j:Nat),i<j->∀(a c:zK),d[i]?=some a->d[j]?=some c->zP x a≠0->zP x c≠0->2<=(d.filter λt=>decide (zP x t≠0)).length:=by
       intro i j hij a c ha hc na nc;obtain⟨hil,rfl⟩:=Ac.1 ha;obtain⟨hjl,rfl⟩:=Ac.1 hc;have e:d=d.take (i+1)++d.drop (i+1):=(List.take_append_drop _ _).symm;rw[e,BU,Ar];have m1:d[i]∈(d.take (i+1)).filter λt=>decide (zP x t≠0):=Bd.2 ⟨Ab (i:=i) (by rw[AE (by omega)];exact ha),by simp[na]⟩
       have m2:d[j]∈(d.drop (i+1)).filter λt=>decide (zP x t≠0):=Bd.2 ⟨Ab (i:=j-(i+1)) (by rw[AM,show i+1+(j-(i+1))=j from by omega];exact hc),by simp[nc]⟩
       have:=DG m1;have:=DG m2;omega
      have nl:zP x l≠0:=by rw[hf];decide
      rcases Bf j b.t with h3 | h3
      ·exact key j b.t h3 m l hm' hl hbad nl
      ·exact key b.t j (by omega) l m hl hm' nl hbad
     omega
    ·rw[if_neg hf]at ho;omega
   -- the tour itself
   have hself:zP x l=0\/zP x l=13:=by
    by_cases hf:zP x l=13
    ·exact .inr hf
    ·rw[if_neg hf]at ho;exact .inl (Qf.1 (by omega) l (Ab hl))
   have hst:qH x l=true:=by
    cases e:qH x l with
    | true=>rfl
    | false=>rw[ZbU e]at hself;rcases hself with h | h<;>cases h
   have hne:=VW hst;intro t ht;rw[hpd]at ht;obtain⟨j,hj⟩:=Bj.1 ht;rw[AZ]at hj
   by_cases hjb:b.t=j
   ·rw[if_pos hjb,if_pos hlt]at hj;cases hj;rw[Q7];refine⟨?_,?_,?_,?_⟩
    ·rw[Znq (Wj l s b.p)];unfold qH at hst ⊢;simp only[List.all_cons,List.isEmpty_cons,Au]at hst ⊢;exact⟨⟨hg,hst.1⟩,rfl⟩
    ·have hsub:(jU l b.p s).Sublist (jx d b s).flatten:=by rw[hpd];exact YD ht
     exact hn.sublist (hsub.map _)
    ·have:=ZfA l s b.p;unfold ji at this;rw[this];exact hcap
    ·have:=Zfz x l s b.p hne hi;unfold jh at this;rw[this,<-hm];exact hlen
   ·rw[if_neg hjb]at hj;exact hoth j t (λe=>hjb e.symm) hj
  ·unfold jx;rw[if_pos rfl];intro t ht;rw[AC]at ht;rcases ht with ht | ht
   ·exact Qf.1 hb t ht
   ·simp at ht;subst ht;exact hs
 ·rcases h with ⟨l,hl,-⟩ | ⟨rfl,-,-,hv⟩
  ·have hlt:=(Ac.1 hl).1;unfold jx;rw[if_neg (by omega),Bz];exact q4
  ·unfold jx;rw[if_pos rfl,Ar];simp;omega
def xO(c:Int)(t:zK):zK:=t.filter λs=>decide (s.c≠c)
def j8(c:Int)(d:zk):zk:=(d.map (xO c)).filter λt=>!t.isEmpty
def ZfD(c:Int)(d:zk):Int:=W ((d.flatten.filter λs=>decide (s.c=c)).map (·.q)).sum
theorem Znr(c:Int)(a b:zk):j8 c (a++b)=j8 c a++j8 c b:=by simp[j8]
open Go Hp
theorem JI.begin:∀(l pre:List Stop) (T:zk) (g:Int->Option Int),JI pre T g->((pre++l).map (·.c)).Nodup->∃g',JI (pre++l) (T++l.map λs=>[s]) g'
 | [],pre,T,g,h,_=>⟨g,by simpa using h⟩
 | s :: l,pre,T,g,h,hn=>by
  have hs:s.c ∉ pre.map (·.c):=by
   rw[List.map_append,Dt]at hn;exact λhm=>hn.2.2 _ hm s.c (by simp) rfl
  obtain⟨g',h'⟩:=JI.begin l (pre++[s]) (T++[[s]]) _ (h.snoc s hs) (by simpa using hn);exact⟨g',by simpa using h'⟩
theorem ZbW{α:Type}(f:α->Int):∀(T:List α) (i:Nat) (a b:α),T[i]?=some a->((T.set i b).map f).sum=(T.map f).sum-f a+f b
 | [],i,a,b,h=>by simp at h
 | t :: T,0,a,b,h=>by simp at h;subst h;simp;omega
 | t :: T,i+1,a,b,h=>by
  simp only[A5]at h;simp only[AW,Ax,BP];rw[ZbW f T i a b h];omega
end Go.Proofs.YtcocagkbfpgmiaaGreatDoor.Pv
