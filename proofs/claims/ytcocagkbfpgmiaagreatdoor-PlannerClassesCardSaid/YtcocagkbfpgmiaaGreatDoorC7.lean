/- Part of a proof, packed. -/
import Derived.Test.YtcocagkbfpgmiaaGreatDoorC6
open Go.Proofs.Tryz
set_option maxRecDepth 100000
set_option maxHeartbeats 3200000
namespace Go.Proofs.YtcocagkbfpgmiaaGreatDoor.Pv
open Go Go.Proofs
theorem Zsa(x:Inst)(a b:List Int)(k:Nat)(hk:k<x.cust.length)(hn:x.cust.length<=1048576)(ha:a.length=x.cust.length+1)(hb:b.length=x.cust.length+1):
  Pure prog 169 [.agg (zD x),.agg [L a,L b],I k] (I (W (a.getD (k+1) 0+b.getD (k+1) 0))):=by
 obtain⟨t,tl,b1,b2,b3,f0⟩:=zL rfl a (k+1) DB;obtain⟨u,tl2,c1,c2,c3,f1⟩:=zL rfl b (k+1) DB;have e1:a.getD (k+1) 0=t:=by rw[Aa,b1];rfl
 have e2:b.getD (k+1) 0=u:=by rw[Aa,c1];rfl
 rw[e1,e2];have hka:k+1<a.length:=DB
 have hkb:k+1<b.length:=DB
 have h0:¬(k:Int)<0:=DB
 have h1:¬(x.cust.length:Int)<=k:=DB
 have w1:IntKind.i64.wrap ((k:Int)+1)=((k+1:Nat):Int):=zA k DB;obtain⟨k1,hk1⟩:∃m,m=k+1:=⟨_,rfl⟩;rw[<-hk1]at f0 f1 hka hkb w1;refine zx func169 ntmps169 results169 λS nx hd=>?_
 refine DK ?_;intro v0 v1
 repeat apply ze
 refine zi [(2,9)] (zt h0 h1) ?_;refine zp DC ?_;refine zk (ze (zB (some [nx,nx+1]) (Row.pures [0,1,2,3,4,5,6,7,8,9,10,11,12,13] .done) mixed (yq w1 f0 f1 hka hkb) ?_));exact DL hd
def Yz(x:Inst)(c:Nat):Nat->Int
 | 0=>arc x 0 c
 | k+1=>if k≠c then xh (Yz x c k) (arc x k c) else Yz x c k
def YA(x:Inst)(c:Nat):Nat->Int
 | 0=>arc x c 0
 | k+1=>if k≠c then xh (YA x c k) (arc x c k) else YA x c k
def vB(x:Inst):List Int:=(List.range x.cust.length).map λi=>Yz x (i+1) (x.cust.length+1)
def Jb(x:Inst):List Int:=(List.range x.cust.length).map λi=>YA x (i+1) (x.cust.length+1)
theorem Zsb(x:Inst)(k:Nat)(h:k<x.cust.length):(vB x).take (k+1)=(vB x).take k++[Yz x (k+1) (x.cust.length+1)]:=by
 rw[AC];congr 1;unfold vB;rw[Ah,Bt h];rfl
theorem Zsc(x:Inst)(k:Nat)(h:k<x.cust.length):(Jb x).take (k+1)=(Jb x).take k++[YA x (k+1) (x.cust.length+1)]:=by
 rw[AC];congr 1;unfold Jb;rw[Ah,Bt h];rfl
theorem Zsd(x:Inst)(hn:x.cust.length<=1048576):Pure prog 171 [.agg (zD x)] (.tup [L (vB x),L (Jb x)]):=by
 have harc:=wC x;have hA:=Zsb x;have hB:=Zsc x;have hAl:(vB x).length=x.cust.length:=by simp[vB]
 have hBl:(Jb x).length=x.cust.length:=by simp[Jb]
 generalize vB x=A at *;generalize Jb x=B at *;refine zx func171 ntmps171 results171 λS nx hd=>?_
 refine DK ?_;intro v0;refine DK ?_;refine qL 4 3 1 rfl λv1=>?_
 refine qL 5 3 1 rfl λv2=>?_
 repeat apply ze
 refine zg ?_;refine zn (zJ (λs:Nat × Nat × Nat × Nat=>s.1<=x.cust.length) (λ(k,v,w1,w2)=>[(1,.ptr nx v 0),(4,.sl (nx+1) w1 1 0 k),(5,.sl (nx+2) w2 1 0 k),(13,I x.cust.length),(14,I k)]) (λ(k,v,w1,w2)=>[.cells v 25 (zD x),.cells w1 3 ((A.take k).flatMap Enc.enc),.cells w2 3 ((B.take k).flatMap Enc.enc)]) (λs=>x.cust.length-s.1) (0,v0,v1,v2) [] DC DC DC ?_);rintro⟨k,v,w1,w2⟩ hk;simp only at hk ⊢;refine DK ?_;refine ze (zz rfl (λhc=>?_) (λhc=>?_))
 ·simp at hc;have wk:IntKind.i64.wrap ((k:Int)+1)=((k+1:Nat):Int):=zA k DB;obtain⟨at_,hat⟩:∃m,m=k+1:=⟨_,rfl⟩;rw[<-hat]at wk;have hA1:=hA k hc;have hB1:=hB k hc;rw[<-hat]at hA1 hB1;refine zk (ze (zn (DK ?_)));refine ze (zi [] wk ?_);refine ze (zB (some [nx]) (Row.pures [0,1,2,3,4,5,6,7] .done) mixed trivial ?_);refine zP (harc 0 at_) trivial ?_;refine zP (harc at_ 0) trivial ?_;have wn:IntKind.i64.wrap ((x.cust.length:Int)+1)=(x.cust.length:Int)+1:=by rw[Ay];omega
  repeat apply ze
  refine zi [] wn ?_;refine zn (zJ (λs:Nat × Nat=>s.1<=x.cust.length+1) (λ(j,v)=>[(1,.ptr nx v 0),(4,.sl (nx+1) w1 1 0 k),(5,.sl (nx+2) w2 1 0 k),(7,I at_),(8,I (Yz x at_ j)),(9,I (YA x at_ j)),(13,I x.cust.length),(14,I k),(28,I ((x.cust.length:Int)+1)),(29,I j)]) (λ(j,v)=>[.cells v 25 (zD x),.cells w1 3 ((A.take k).flatMap Enc.enc),.cells w2 3 ((B.take k).flatMap Enc.enc)]) (λs=>x.cust.length+1-s.1) (0,v) [] DC (by simp[Yz,YA]) DC ?_);rintro⟨j,v⟩ hj;simp only at hj ⊢;refine DK ?_
  by_cases hjn:j<x.cust.length+1
  ·have hji:(j:Int)<(x.cust.length:Int)+1:=DB
   refine ze (zo DF ?_);refine zk (ze (zn (DK ?_)));refine DK ?_
   by_cases hja:j=at_
   ·have wja:IntKind.i64.wrap ((at_:Int)+1)=(at_:Int)+1:=by rw[Ay];omega
    refine zp (by simp[hja]) ?_;refine zk (zg ?_);exact zv (j+1,v) [] DF DF (by simp[wja,Yz,YA,hja]) rfl DC
   ·repeat apply ze
    refine zo DF ?_;refine DK ?_;refine zu (harc j at_) ?_;refine zg ?_;refine zu (harc at_ j) ?_;refine zg ?_;exact zv (j+1,v) [] DF DF (by simp[zA j (by omega),Yz,YA,hja]) rfl DC
  ·obtain rfl:j=x.cust.length+1:=DB
   refine ze (zp DC ?_);refine zC ?_;have hAk:((A.take k).flatMap Enc.enc).length=k:=by rw[je];simp;omega
   have hBk:((B.take k).flatMap Enc.enc).length=k:=by rw[je];simp;omega
   have htA:List.take k ((A.take k).flatMap Enc.enc)=(A.take k).flatMap Enc.enc:=Ae (by rw[hAk];exact Af _);have htB:List.take k ((B.take k).flatMap Enc.enc)=(B.take k).flatMap Enc.enc:=Ae (by rw[hBk];exact Af _);have hAn:(A.take (k+1)).flatMap Enc.enc=(A.take k).flatMap Enc.enc++[I (Yz x at_ (x.cust.length+1))]:=by rw[<-hat,hA1,Al];rfl
   have hBn:(B.take (k+1)).flatMap Enc.enc=(B.take k).flatMap Enc.enc++[I (YA x at_ (x.cust.length+1))]:=by rw[<-hat,hB1,Al];rfl
   refine zi [] (zt htA htB) ?_;refine⟨by omega,by omega,?_⟩;refine zg ?_;exact zv (k+1,v,w1+1,w2+1) [] hc DF (by simp[zA k (by omega)]) rfl (by simp only[hAn,hBn,AF])
 ·simp at hc;obtain rfl:k=x.cust.length:=DB
  rw[show A.take x.cust.length=A from Ae DB,show B.take x.cust.length=B from Ae DB];refine zC (yb 1 rfl ?_);refine yb 2 rfl ?_;refine ze (zi [] (zt hAl hBl) ?_);exact zj (zm hd DD (by simp[zq,hAl,hBl]))
open Go Go.Proofs
theorem ZcW{P:Program}{n:Nat}{F:Nat->PV}{S:Store}{o:Oper}{s x:Operand}{t e m id ver et:Nat}{cs l:List PV}{K:PV->Store->Prop}(ho:o.op=.call { callee:=.builtin .copy,args:=#[s,x],argTypes:=#[t,t] })(ht:P.underlying t=some (.slice e))(hz:(P.info? e).map (·.size)=some 1)
  (hs:ev F s=.sl id ver 1 0 m) (hx:ev F x=.lst l.length l) (hid:S id=.cells ver et cs) (hm:cs.length=m) (hm0:0<m)
  (hK:K (I (min l.length m:Nat)) (S.set id (.cells ver et (l.take m++cs.drop (min l.length m))))):PO P wU n o F S K:=by
 intro G hG C w a N st next Q' hnext;have e1:=st.ev s;rw[(hG s (by grind[Op.operands,Call.operands])).trans hs]at e1;have e2:=st.ev x;rw[(hG x (by grind[Op.operands,Call.operands])).trans hx]at e2;have hnd:∀c,o.op≠.defer c:=by intro c hc;rw[ho]at hc;cases hc
 generalize hv:a.eval s=v at e1;generalize hu:a.eval x=u at e2;cases e1 with
 | sl i1 i2 i3 =>
  rcases (i3 ver (by rw[hid];rfl)).2 rfl with ⟨_,q,_,_⟩ | ⟨b,k,ad,dcap,hl,rfl,hq0,_⟩
  ·omega
  obtain⟨rfl,hq1⟩:=hq0 rfl;rcases st.sim.cells id ver et cs hid with ⟨hn,_⟩ | ⟨b',k',c,g1,g2,g3,g4,g5,g6⟩
  ·simp_all
  rw[hl]at g1;cases g1;have main:∀(vs:List Value) (a':Addr) (cap:Nat),u=.slice (some a') l.length cap->vs.length=min l.length m->(∀j v,vs[j]?=some v->w.cell? (a'.add j)=some v)->(∀v∈vs,v.oneCell'=true)->(∀(i:Nat) (p:PV) (v:Value),(l.take m)[i]?=some p->vs[i]?=some v->Rel C S w p v)->o.wpIn (Fe wU) n P a w next Q':=by
   intro vs a' cap hu' hvl hcell hone hrel;have hrun0:=run_copy_row P w t t o.type e b 0 m dcap a' l.length cap c et vs ht hz g2 (by rw[hvl]) hcell DB hone;have hrun:=X7 (P:=P) (a:=a) (w:=w) ho (by rw[hv,hu,hu'];exact hrun0);simp only[CZ,AM,AQ]at hrun;generalize hw':w.setRow b (vs++c.toList.drop vs.length).toArray=w' at hrun;have hheap:w'.heap[b]?=some (.cells (vs++c.toList.drop vs.length).toArray et (0,0)):=by rw[<-hw'];exact setRow_heap w b c _ et _ g2
   have hgr:w.grownBy w' (some b)/\w.drawn<=w'.drawn:=by
    rw[<-hw'];exact⟨⟨rfl,rfl,rfl,by simp,λj hj hne=>setRow_other w b j _ (λe=>hne (by rw[e]))⟩,Af _⟩
   have hsize:(vs++c.toList.drop vs.length).toArray.size=k:=DF
   have htl:(l.take m).length=vs.length:=by rw[As,hvl];omega
   obtain⟨t1,t2⟩:=st.sim.turn (l:=C.loc id) (ver':=ver) (cs':=l.take m++cs.drop (min l.length m)) hid (Af _) (λ_=>rfl) (by rw[hl];exact hgr)
    (.inr ⟨b,k,_,hl,.inr (by rw[hl];rfl),hheap,hsize,by rw[Aq,Bj,htl];omega,λi z hi hz=>by
      rw[AA]at hz
      by_cases q1:i<vs.length
      ·rw[An q1]at hz;exact hone z (Ab hz)
      ·rw[Ai DB,AK]at hz;rw[Aq,Bj,htl]at hi;have e9:vs.length+(i-vs.length)=i:=DB
       rw[e9]at hz;exact g5 i z DB (by rw[<-Array.getElem?_toList];exact hz),
     λi p z hp hz=>by
      rw[AA]at hz
      by_cases q1:i<vs.length
      ·rw[An q1]at hz;rw[An DB]at hp;exact hrel i p z hp hz
      ·rw[Ai DB,AK]at hz;rw[Ai DB,AK,htl,<-hvl]at hp;have e9:vs.length+(i-vs.length)=i:=DB
       rw[e9]at hz hp;exact g6 i p z hp (by rw[<-Array.getElem?_toList];exact hz)⟩)
   have hres:goInt vs.length=Value.int .i64 ((min l.length m:Nat):Int):=by rw[hvl];rfl
   exact qf hnd hrun (hnext _ _ _ _ _ hK (by rw[hres];exact .sc _) t1 t2)
  generalize hk:l.length=kk at e2;cases e2 with
  | lst0 =>
   rename_i cap a';have hrun0:(Builtin.copy_ #[t,t] o.type #[a.eval s,a.eval x]).run P w=.ok (goInt 0) w:=by
    rw[hv,hu];cases hq:P.info? e with
    | none=>simp[hq]at hz
    | some i =>
     cases a'<;>simp[Builtin.copy_,run_underlying ht,Builtin.lenOf,Builtin.firstCells,sizeOf,typeInfo,hq,storeCells,loadCells,loadCellsFrom]
   have hrun:=X7 (P:=P) (a:=a) (w:=w) ho hrun0;have eS:S.set id (.cells ver et cs)=S:=by
    funext i
    by_cases hi:i=id
    ·subst hi;grind[q11]
    ·exact q10 _ _ _ _ hi
   simp only[A6,Nat.zero_min,Dd,C6,AM,eS]at hK;exact qf hnd hrun (hnext _ _ _ _ _ hK (.sc _) st.sim (Step.refl _ _ _))
  | lst1 hn hmx hb hM hs1 h1 h2 =>
   rename_i cap b' o' c' e' fz;subst hk;have hadd:∀j,(⟨b',o',none⟩:Addr).add j=⟨b',o'+j,none⟩:=by intro j;unfold Addr.add;split<;>simp_all
   have hat:∀(j:Nat) (v:Value),((c'.toList.drop o').take (min l.length m))[j]?=some v->j<min l.length m/\c'[o'+j]?=some v:=λj v hj=>by
    rw[BA]at hj;split at hj
    ·rename_i hlt;rw[AK,Array.getElem?_toList]at hj;exact⟨hlt,hj⟩
    ·cases hj
   refine main ((c'.toList.drop o').take (min l.length m)) ⟨b',o',none⟩ cap rfl ?_ ?_ ?_ ?_
   ·rw[As,Bj];have e9:c'.toList.length=c'.size:=Array.length_toList
    by_cases hl0:l=[]
    ·subst hl0;simp
    ·have:=hs1 hl0;omega
   ·intro j v hj;obtain⟨q1,q2⟩:=hat j v hj;rw[hadd];simp[World.cell?,hb,q2]
   ·intro v hv';obtain⟨j,hj⟩:=B3 hv';obtain⟨q1,q2⟩:=hat j v hj;exact h1 j v DB q2
   ·intro i p v hp hvi;obtain⟨q1,q2⟩:=hat i v hvi;rw[AI DB]at hp;exact h2 i p v hp q2
open Go
def xx(id ver id2 v2:Nat)(p:PV):PV :=
 match p with
 | .sl o v sz off k=>if o=id/\v=ver then .sl id2 v2 sz off k else .sl o v sz off k
 | .ptr o v off=>if o=id/\v=ver then .ptr id2 v2 off else .ptr o v off
 | p=>p
def YB(id ver id2 v2:Nat)(x:Ob):Ob :=
 match x with
 | .cells v e ds=>.cells v e (ds.map (xx id ver id2 v2))
 | x=>x
theorem Zse{C C':Ctx}{S T:Store}{w:World}{id ver e id2 v2 e2:Nat}{cs cs2:List PV}(hid:S id=.cells ver e cs)(st:Step C S w C' T w)(hn:T id2=.cells v2 e2 cs2)(hl:C'.loc id2=C.loc id)(hlt:id2<C'.next/\v2<C'.clock){p:PV}{u:Value}
  (h:Rel C S w p u):Rel C' T w (xx id ver id2 v2 p) u:=by
 unfold xx;split
 ·split
  ·rename_i hc;obtain⟨rfl,rfl⟩:=hc;cases h with
   | sl h1 h2 h3 =>
    refine .sl h1 hlt λv0 hv0=>?_
    rw[hn]at hv0;cases hv0;refine⟨Af _,λ_=>?_⟩;rw[hl];exact(h3 _ (by rw[hid];rfl)).2 rfl
  ·exact h.mono st
 ·split
  ·rename_i hc;obtain⟨rfl,rfl⟩:=hc;cases h with
   | ptr h1 h2 h3 =>
    refine .ptr h1 hlt λv0 hv0=>?_
    rw[hn]at hv0;cases hv0;refine⟨Af _,λ_=>?_⟩;rw[hl];exact(h3 _ (by rw[hid];rfl)).2 rfl
  ·exact h.mono st
 ·exact h.mono st
theorem ZZ{P:Program}{r:Rd}{n nx N:Nat}{Q:Exit->(Nat->PV)->Store->Prop}{F:Nat->PV}{S:Store}{obs:List Ob}{c:Code}(j:Nat){ver e:Nat}{cs:List PV}(hj:obs[j]?=some (.cells ver e cs))
  (h:∀v2,PW P r n N c Q (λi=>xx (nx+j) ver (nx+obs.length) v2 (F i)) (ext S nx ((obs.map (YB (nx+j) ver (nx+obs.length) v2)).set j .dead++[.cells v2 e (cs.map (xx (nx+j) ver (nx+obs.length) v2))]))):PW P r n N c Q F (ext S nx obs):=by
 intro C w a st;have hjl:j<obs.length:=(Ac.1 hj).1;have h:=h C.clock;have hid:ext S nx obs (nx+j)=.cells ver e cs:=by rw[z7,Aa,hj];rfl
 have hdn:ext S nx obs (nx+obs.length)=.dead:=uC;have hTn:ext S nx ((obs.map (YB (nx+j) ver (nx+obs.length) C.clock)).set j .dead++[.cells C.clock e (cs.map (xx (nx+j) ver (nx+obs.length) C.clock))]) (nx+obs.length)=.cells C.clock e (cs.map (xx (nx+j) ver (nx+obs.length) C.clock)):=by
  rw[z7,Aa,Ai DC];simp
 have hTj:ext S nx ((obs.map (YB (nx+j) ver (nx+obs.length) C.clock)).set j .dead++[.cells C.clock e (cs.map (xx (nx+j) ver (nx+obs.length) C.clock))]) (nx+j)=.dead:=by
  rw[z7,Aa,An (by simpa using hjl),AS (by simpa using hjl)];rfl
 have hat:∀o,o≠nx+j->o≠nx+obs.length->ext S nx ((obs.map (YB (nx+j) ver (nx+obs.length) C.clock)).set j .dead++[.cells C.clock e (cs.map (xx (nx+j) ver (nx+obs.length) C.clock))]) o=ext S nx obs o \/
   ext S nx ((obs.map (YB (nx+j) ver (nx+obs.length) C.clock)).set j .dead++[.cells C.clock e (cs.map (xx (nx+j) ver (nx+obs.length) C.clock))]) o=YB (nx+j) ver (nx+obs.length) C.clock (ext S nx obs o):=by
  intro o h1 h2
  by_cases ho:o<nx
  ·simp_all[zE]
  ·right;simp only[ext];rw[if_neg ho,if_neg ho,Aa,Aa]
   by_cases hlo:o-nx<obs.length
   ·grind
   ·rw[Ak DF,Ak DB];rfl
 generalize hTT:ext S nx ((obs.map (YB (nx+j) ver (nx+obs.length) C.clock)).set j .dead++[.cells C.clock e (cs.map (xx (nx+j) ver (nx+obs.length) C.clock))])=T at *;generalize hSS:ext S nx obs=S1 at *;generalize hi2:nx+obs.length=id2 at *;generalize hi1:nx+j=id at *;clear hTT hSS hi2 hi1 hj hjl;have hS:=st.sim;have hne:id≠id2:=by intro e2;rw[e2,hdn]at hid;cases hid
 have hdead:∀o,o≠id2->T o≠.dead->S1 o≠.dead/\o≠id:=by
  intro o h2 hT
  by_cases h1:o=id
  ·simp_all
  ·refine⟨λhs=>?_,h1⟩;rcases hat o h1 h2 with q | q
   ·simp_all
   ·rw[q,hs]at hT;exact hT rfl
 have hver:∀o v,o≠id2->(T o).ver=some v->(S1 o).ver=some v:=by
  intro o v h2 hv
  by_cases h1:o=id
  ·subst h1;rw[hTj]at hv;cases hv
  ·rcases hat o h1 h2 with q | q
   ·simp_all
   ·rw[q]at hv;cases hs:S1 o with
    | dead=>rw[hs]at hv;cases hv
    | cells v0 e0 ds=>rw[hs]at hv;exact hv
    | map v0 es=>rw[hs]at hv;exact hv
 obtain⟨C',hC'⟩:∃C':Ctx,C'={ loc:=λo=>if o=id2 then C.loc id else C.loc o,next:=max C.next (id2+1),clock:=C.clock+1 }:=⟨_,rfl⟩;have hl2:C'.loc id2=C.loc id:=by rw[hC'];simp
 have hlo:∀o,o≠id2->C'.loc o=C.loc o:=λo ho=>by simp_all
 have hnx:C'.next=max C.next (id2+1):=by rw[hC']
 have hck:C'.clock=C.clock+1:=by rw[hC']
 clear hC';have step:Step C S1 w C' T w:=by
  refine⟨rfl,⟨rfl,Af _⟩,rfl,Af _,by omega,by omega,λb hlt hM=>⟨rfl,?_⟩,λo v1 hv=>?_⟩
  ·rintro⟨o,k,ho,hl⟩
   by_cases h2:o=id2
   ·subst h2;rw[hl2]at hl;exact hM ⟨id,k,by rw[hid];simp,hl⟩
   ·rw[hlo o h2]at hl;exact hM ⟨o,k,(hdead o h2 ho).1,hl⟩
  ·by_cases h2:o=id2
   ·subst h2;rw[hTn]at hv;cases hv;exact .inl (.inr (Af _))
   simp_all
 have mv:∀{p:PV} {u:Value},Rel C S1 w p u->Rel C' T w (xx id ver id2 C.clock p) u:=λhr=>Zse hid step hTn hl2 ⟨by omega,by omega⟩ hr
 have mvl:∀{ds:List PV} {i:Nat} {p:PV},(ds.map (xx id ver id2 C.clock))[i]?=some p->∃q,ds[i]?=some q/\p=xx id ver id2 C.clock q:=by
  intro ds i p hp;rw[Ah,Am]at hp;obtain⟨q,h1,h2⟩:=hp;exact⟨q,h1,h2.symm⟩
 have sim:Sim C' T w:=by
  refine⟨λo ho=>?_,λo v hv=>?_,λo o' b k k' h1 h2 h3 h4=>?_,λo v0 e0 ds ho=>?_,λo v0 es ho=>?_⟩
  ·by_cases h2:o=id2
   ·omega
   ·have:=hS.lt o (hdead o h2 ho).1;omega
  ·by_cases h2:o=id2
   ·subst h2;rw[hTn]at hv;cases hv;omega
   ·have:=hS.clk o v (hver o v h2 hv);omega
  ·by_cases q1:o=id2<;>by_cases q2:o'=id2
   ·omega
   ·subst q1;rw[hl2]at h3;rw[hlo o' q2]at h4;obtain⟨d1,d2⟩:=hdead o' q2 h2;exact absurd (hS.dist id o' b k k' (by rw[hid];simp) d1 h3 h4).symm d2
   ·subst q2;rw[hl2]at h4;rw[hlo o q1]at h3;obtain⟨d1,d2⟩:=hdead o q1 h1;exact absurd (hS.dist o id b k k' d1 (by rw[hid];simp) h3 h4) d2
   ·rw[hlo o q1]at h3;rw[hlo o' q2]at h4;exact hS.dist o o' b k k' (hdead o q1 h1).1 (hdead o' q2 h2).1 h3 h4
  ·by_cases h2:o=id2
   ·subst h2;rw[hTn]at ho;cases ho;rw[hl2];rcases hS.cells id ver e cs hid with ⟨q1,q2⟩ | ⟨b,k,cc,g1,g2,g3,g4,g5,g6⟩
    ·exact .inl ⟨q1,by rw[q2];rfl⟩
    grind
   ·have h1:=(hdead o h2 (by rw[ho];simp)).2;rw[hlo o h2];rcases hat o h1 h2 with q | q
    ·rw[q]at ho;rcases hS.cells o v0 e0 ds ho with hn | ⟨b,k,cc,g1,g2,g3,g4,g5,g6⟩
     ·exact .inl hn
     ·exact .inr ⟨b,k,cc,g1,g2,g3,g4,g5,λi p v hp hv=>(g6 i p v hp hv).mono step⟩
    ·rw[q]at ho;cases hs:S1 o with
     | dead=>simp_all
     | map v1 es=>rw[hs]at ho;cases ho
     | cells v1 e1 ds1 =>
      rw[hs]at ho;cases ho;rcases hS.cells o _ _ ds1 hs with ⟨q1,q2⟩ | ⟨b,k,cc,g1,g2,g3,g4,g5,g6⟩
      ·exact .inl ⟨q1,by rw[q2];rfl⟩
      grind
  ·have h2:o≠id2:=by rintro rfl;rw[hTn]at ho;cases ho
   have h1:=(hdead o h2 (by rw[ho];simp)).2;have hs:S1 o=.map v0 es:=by
    rcases hat o h1 h2 with q | q
    ·simp_all
    ·cases hs:S1 o with
     | dead=>simp_all
     | map v1 es1=>rw[q,hs]at ho;exact ho
     | cells v1 e1 ds1=>rw[q,hs]at ho;cases ho
   obtain⟨b,k,ms,cl,g1,g2,g3,g4⟩:=hS.maps o v0 es hs;exact⟨b,k,ms,cl,by simp_all,g2,g3,λi x m he hm=>⟨(g4 i x m he hm).1,(g4 i x m he hm).2.mono step⟩⟩
 refine wpIn_mono (h C' w a ⟨sim,st.size,λi=>mv (st.fr i),r.keep step st.v⟩) ?_;rintro e a' w' ⟨F2,S2,C2,h1,h2,h3,h4⟩;exact⟨F2,S2,C2,h1,h2,h3,step.trans h4⟩
open Go Go.Proofs
def vX(f:Nat->Int)(p:Nat):Nat->Option Int
 | 0=>none
 | k+1=>if k=p then vX f p k else match vX f p k with
  | none=>some (f k)
  | some b=>some (if f k<b then f k else b)
def uR(f:Nat->Int)(p k:Nat):Int:=(vX f p k).getD 0
theorem ZhV(f:Nat->Int)(p:Nat):vX f p (p+1)=vX f p p:=if_pos rfl
theorem ZhW{f:Nat->Int}{p k:Nat}(h:k≠p)(hn:vX f p k=none):vX f p (k+1)=some (f k):=by
 show (if k=p then _ else _)=_
 rw[if_neg h,hn]
theorem ZhX{f:Nat->Int}{p k:Nat}{b:Int}(h:k≠p)(hn:vX f p k=some b):vX f p (k+1)=some (if f k<b then f k else b):=by
 show (if k=p then _ else _)=_
 rw[if_neg h,hn]
theorem ZhY{S:Store}(n p:Nat)(hn:n<=2097152)(hp:p<=2097152)(g:FuncId)(ps:List PV)(f:Nat->Int)
  (h:∀k,k<n->k≠p->∀T:Store,(∀o,S o≠.dead->T o=S o)->Spec prog g (ps++[I p,I k]) T (λq S'=>q=I (f k)/\S'=T)) :
  Spec prog 161 [I n,I p,.fn (.func g) ps []] S (λq S'=>q=I (uR f p n)/\S'=S):=by
 have hsk:=ZhV f p;have hno:=@ZhW f p;have hso:=@ZhX f p;unfold uR;have h0:vX f p 0=none:=rfl;generalize vX f p=lo at *;refine yi func161 ntmps161 results161 λnx hd=>?_
 have hT:∀obs o,S o≠.dead->ext S nx obs o=S o:=λobs o ho=>by
  apply zE;rcases Be o nx with q | q
  ·exact q
  ·exact absurd (hd o q) ho
 refine DK ?_;refine DK ?_
 repeat apply ze
 refine zg ?_;refine zn (zJ (λk:Nat=>k<=n) (λk=>[(1,I p),(2,.fn (.func g) ps []),(7,I ((lo k).getD 0)),(8,B (lo k).isSome),(11,I n),(12,I k)]) (λ_=>[]) (λk=>n-k) 0 [] DC (by simp[h0]) DC ?_);rintro k hk;refine DK ?_;refine ze (zz rfl (λhc=>?_) (λhc=>?_))
 ·simp at hc;refine zk (ze (zn (DK ?_)))
  repeat apply ze
  refine zg ?_
  by_cases hkp:k=p
  ·subst hkp;refine zo DC ?_;refine zC (zg ?_);exact zv (k+1) [] hc DB (by simp[zA k (by omega),hsk]) rfl DC
  ·have hki:¬(k:Int)=p:=DB
   have hno:=hno hkp;have hso:=@hso k;refine zp DF ?_;refine zk (DK ?_);refine λhsuf=>((h k hc hkp _ (hT _)).mono ?_).v
   rintro _ _ ⟨rfl,rfl⟩;refine⟨_,_,rfl,zQ hsuf ?_⟩;cases hl:lo k with
   | none =>
    have hn1:=hno hl;refine ze (zi [(2,24)] zy ?_);refine zo DC ?_;refine zg ?_;refine zg ?_;exact zv (k+1) [] hc DB (by simp[zA k (by omega),hn1]) rfl DC
   | some b =>
    have hs1:=hso hkp hl;refine ze (zi [(2,24)] trivial ?_)
    by_cases hlt:f k<b
    ·rw[if_pos hlt]at hs1;refine zo (by simp[hlt]) ?_;refine zg ?_;refine zg ?_;exact zv (k+1) [] hc DB (by simp[zA k (by omega),hs1]) rfl DC
    ·rw[if_neg hlt]at hs1;refine zp (by simp[hlt]) ?_;refine zk (zg ?_);exact zv (k+1) [] hc DB (by simp[zA k (by omega),hs1]) rfl DC
 ·simp at hc;obtain rfl:k=n:=DB
  refine zC (DK ?_);exact DL hd
abbrev Qk(x:Inst)(s:PV):List PV:=[I x.days,I x.veh,I x.cap,I x.len,L x.cust,L x.dist,s]
theorem Zsf{S:Store}{id ver:Nat}(x:Inst)(s:PV)(b a:Nat)(hS:S id=.cells ver 223 (Qk x s)):
  Spec prog 162 [.ptr id ver 0,I b,I a] S (λq S'=>q=I (arc x a b)/\S'=S):=by
 have harc:=wC x a b;refine yi func162 ntmps162 results162 λnx hd=>?_
 have hlt:id<nx:=qC hd hS DC;have x1:∀obs,ext S nx obs id=.cells ver 223 (Qk x s):=λobs=>(zE hlt).trans hS
 refine DK ?_;refine ze (zi [] x1 ?_);refine qP [] harc x1 ?_;exact DL hd
theorem Zsg{S:Store}{id ver ib w:Nat}(x:Inst)(l:List Int)(a b:Nat){z:Int}(hS:S id=.cells ver 223 (Qk x (.sl ib w 1 0 l.length)))(hB:S ib=.cells w 3 (l.flatMap Enc.enc))(hb:l[b]?=some z):
  Spec prog 163 [.ptr id ver 0,I a,I b] S (λq S'=>q=I (W (arc x a b-z))/\S'=S):=by
 have harc:=wC x a b;have hk:b<l.length:=(Ac.1 hb).1;obtain⟨t,tl,b1,b2,b3,f0⟩:=zL rfl l b hk;obtain rfl:t=z:=by rw[hb]at b1;exact(Option.some.inj b1).symm
 refine yi func163 ntmps163 results163 λnx hd=>?_
 have hlt:id<nx:=qC hd hS DC;have hlt2:ib<nx:=qC hd hB DC;have x1:∀obs,ext S nx obs id=.cells ver 223 (Qk x (.sl ib w 1 0 l.length)):=λobs=>(zE hlt).trans hS
 have x2:∀obs,ext S nx obs ib=.cells w 3 (l.flatMap Enc.enc):=λobs=>(zE hlt2).trans hB
 refine DK ?_;refine ze (zB (some [id,ib]) (Row.pures [0,1,2,3,4,5,6,7,8,9,10,11,12,13,14,15] .done) mixed (zN x1 x2 f0 hk) ?_);refine zP (harc) (zN x1 x2 f0 hk) ?_;exact DL hd
theorem V8(x:Inst)(hx:x.cust.length<=1048576):Pure prog 119 [.agg (zD x)] (I ((x.cust.length+1:Nat):Int)):=by
 have w1:IntKind.i64.wrap ((x.cust.length:Int)+1)=(x.cust.length:Int)+1:=by rw[Ay];omega
 refine zx func119 ntmps119 results119 λS nx hd=>?_
 refine DK ?_;intro v0;refine ze (zi [] w1 ?_);exact zj (zm hd DD (by simp[zq]))
open Go Go.Proofs
@[simp] theorem ZwF(a b c d:Nat)(v:Value):xx a b c d (.sc v)=.sc v:=rfl
@[simp] theorem ZwG(a b c d:Nat)(k:Nat)(l:List PV):xx a b c d (.lst k l)=.lst k l:=rfl
@[simp] theorem ZwH(a b c d:Nat)(l:List PV):xx a b c d (.agg l)=.agg l:=rfl
@[simp] theorem ZwI(a b c d o v sz off k:Nat):xx a b c d (.sl o v sz off k)=if o=a/\v=b then .sl c d sz off k else .sl o v sz off k:=rfl
@[simp] theorem ZwJ(a b c d o v off:Nat):xx a b c d (.ptr o v off)=if o=a/\v=b then .ptr c d off else .ptr o v off:=rfl
@[simp] theorem ZwK(a b c d v e:Nat)(l:List PV):YB a b c d (.cells v e l)=.cells v e (l.map (xx a b c d)):=rfl
@[simp] theorem ZwL(a b c d:Nat):YB a b c d .dead=.dead:=rfl
theorem ZcX(n:Nat):yR n (.int .i64 0)=List.replicate n (I 0):=by apply Bg<;>simp_all[yR,Nat.mod_one]
theorem ZhZ{S:Store}{nx:Nat}{obs:List Ob}(hd:zX nx S){j k:Nat}{x y:Ob}(hj:obs[j]?=some x)(hk:obs[k]?=some y)(o:Nat):((S.set (nx+j) x).set (nx+k) y) o=ext S nx obs o\/((S.set (nx+j) x).set (nx+k) y) o=.dead:=by grind[q11,z7,q10,Qy]
theorem Zsh{S:Store}{nx:Nat}(hd:zX nx S)(x:Inst)(hx:x.cust.length<=1048576):
  Spec prog 160 [.agg (zD x)] S (λq S'=>∃v w,q=.agg [.sl (nx+4) v 1 0 (x.cust.length+1),.sl (nx+5) w 1 0 (x.cust.length+1)] /\
   S'=(S.set (nx+4) (.cells v 3 (List.replicate (x.cust.length+1) (I 0)))).set (nx+5) (.cells w 3 (List.replicate (x.cust.length+1) (I 0)))):=by
 have hpl:=V8 x hx;obtain⟨n,hn⟩:∃n,n=x.cust.length+1:=⟨_,rfl⟩;rw[<-hn]at hpl ⊢;have hn1:n<=1048577:=DB
 have hzr:=ZcX n;refine uE hd func160 ntmps160 results160 ?_;refine DK ?_;intro v0 v1;refine DK ?_;refine zu hpl ?_;refine ze (zB (some []) (Row.pures [0,2] (.alt 1 (.alt 3 (Row.pures [4] (.alt 5 (.done) .stop)) .stop) (.alt 3 (.alt 1 (Row.pures [4] (.alt 5 (.done) .stop)) .stop) .stop))) mixed trivial ?_);have hk:(n:Int)<=140737488355328/\n*8<=281474976710656:=DB
 refine⟨⟨hk,λv=>⟨hk,λw=>?_⟩⟩,⟨hk,λv=>⟨hk,λw=>?_⟩⟩⟩
 ·refine ZZ 2 rfl λa=>?_
  refine ZZ 3 rfl λb=>?_
  exact zj ⟨_,_,by simp;rfl,⟨a,b,by simp[zq],rfl⟩,λo=>ZhZ (j:=4) (k:=5) hd (by simp[hzr]) (by simp[hzr]) o⟩
 ·refine ZZ 3 rfl λa=>?_
  refine ZZ 2 rfl λb=>?_
  exact zj ⟨_,_,by simp;rfl,⟨a,b,by simp[zq],rfl⟩,λo=>ZhZ (j:=4) (k:=5) hd (by simp[hzr]) (by simp[hzr]) o⟩
theorem Zsi{S:Store}{nx:Nat}{obs:List Ob}(x:Inst)(hx:x.cust.length<=1048576):
  Spec prog 160 [.agg (zD x)] (ext S nx obs) (λq S'=>∃v w,q=.agg [.sl (nx+(obs.length+4)) v 1 0 (x.cust.length+1),.sl (nx+(obs.length+5)) w 1 0 (x.cust.length+1)] /\
   S'=ext S nx (obs++[.dead,.dead,.dead,.dead,.cells v 3 (List.replicate (x.cust.length+1) (I 0)),.cells w 3 (List.replicate (x.cust.length+1) (I 0))])):=by
 refine(Zsh jU x hx).mono ?_;rintro _ _ ⟨v,w,rfl,rfl⟩;refine⟨v,w,by rw[Nat.add_assoc,Nat.add_assoc],?_⟩;rw[Xq 4];have e2:=qU (S:=S) (nx:=nx) (obs:=obs++List.replicate 4 .dead++[.cells v 3 (List.replicate (x.cust.length+1) (I 0))]) (.cells w 3 (List.replicate (x.cust.length+1) (I 0)));rw[show nx+obs.length+5=nx+(obs++List.replicate 4 Ob.dead++[Ob.cells v 3 (List.replicate (x.cust.length+1) (I 0))]).length by simp;omega,e2];simp[List.replicate]
def xF(x:Inst)(l:List Int):List Int:=(List.range (x.cust.length+1)).map λb:Nat=>min (max (l.getD b 0) 0) (uR (λa=>arc x a b) b (x.cust.length+1))
def xy(x:Inst)(i:List Int):List Int:=(List.range (x.cust.length+1)).map λa:Nat=>uR (λb=>W (arc x a b-i.getD b 0)) a (x.cust.length+1)
theorem V9(x:Inst)(l:List Int):(xF x l).length=x.cust.length+1:=by simp[xF]
theorem ZcY(x:Inst)(i:List Int):(xy x i).length=x.cust.length+1:=by simp[xy]
theorem Zsj{f:Nat->Int}{p:Nat}{lo hi:Int}(h0:lo<=0)(h1:0<=hi)(h:∀k:Nat,lo<=f k/\f k<=hi)(n:Nat):lo<=uR f p n/\uR f p n<=hi:=by
 have:∀n,∀b,vX f p n=some b->lo<=b/\b<=hi:=by
  intro n
  induction n with
  | zero=>intro b hb;cases hb
  | succ n ih =>
   intro b hb
   by_cases hp:n=p
   ·subst hp;rw[ZhV]at hb;exact ih b hb
   ·cases ho:vX f p n with
    | none=>rw[ZhW hp ho]at hb;cases hb;exact h n
    | some c =>
     rw[ZhX hp ho]at hb;cases hb;split
     ·exact h n
     ·exact ih c ho
 unfold uR;cases e:vX f p n with
 | none=>exact⟨h0,h1⟩
 | some b=>exact this n b e
theorem ZcZ(cs:List PV)(k:Nat)(v:PV)(h:k<cs.length):yd cs k [v]=cs.set k v:=by
 unfold yd;rw[Ax,if_pos h];simp
theorem Zh0{l m:List Int}{k:Nat}{z:Int}(hk:k<m.length)(hl:l.length=m.length)(h:m[k]?=some z):yd ((m.take k++l.drop k).flatMap Enc.enc) k [I z]=(m.take (k+1)++l.drop (k+1)).flatMap Enc.enc:=by
 have e:∀l:List Int,l.flatMap Enc.enc=l.map I:=λl=>by
  induction l with
  | nil=>rfl
  | cons a l ih=>rw[Av,ih];rfl
 rw[ZcZ _ _ _ (by rw[e];simp;omega),e,e,<-List.map_set];congr 1;rw[AC,h,Bw _ _ DF,As,A9 DB,Bp,List.append_assoc];congr 1;rw[AJ DB];rfl
theorem Zh1(x:Inst)(l:List Int)(hx:x.cust.length<=1048576)(hl:l.length=x.cust.length+1):Pure prog 120 [.agg (zD x),L l] (.agg [L (xy x (xF x l)),L (xF x l)]):=by
 have hpl:=V8 x hx;have hz:=λ(S:Store) nx obs=>Zsi (S:=S) (nx:=nx) (obs:=obs) x hx
 have hIl:=V9 x l;have hIa:∀k,k<x.cust.length+1->(xF x l)[k]?=some (min (max (l.getD k 0) 0) (uR (λa=>arc x a k) k (x.cust.length+1))):=λk hk=>by unfold xF;rw[Ah,Bt hk];rfl
 generalize xF x l=i at *;have hOl:=ZcY x i;have hOa:∀k,k<x.cust.length+1->(xy x i)[k]?=some (uR (λb=>W (arc x k b-i.getD b 0)) k (x.cust.length+1)):=λk hk=>by unfold xy;rw[Ah,Bt hk];rfl
 generalize xy x i=o at *;obtain⟨n,hn⟩:∃n,n=x.cust.length+1:=⟨_,rfl⟩;rw[<-hn]at hpl hz hl hIl hIa hOl hOa;have hn1:n<=1048577:=DB
 have hfl:∀l:List Int,l.flatMap Enc.enc=l.map I:=λl=>by
  induction l with
  | nil=>rfl
  | cons a l ih=>rw[Av,ih];rfl
 have hll:(l.flatMap Enc.enc:List PV).length=n:=by rw[hfl];simpa using hl
 have hLl:L l=.lst (l.flatMap Enc.enc:List PV).length (l.flatMap Enc.enc):=by
  show PV.lst l.length _=_
  rw[hll,hl]
 rw[hLl];obtain⟨M,hM⟩:∃M:Nat->List Int,M=λk=>i.take k++l.drop k:=⟨_,rfl⟩
 have hMz:M 0=l:=by rw[hM];simp
 have hMn:M n=i:=by rw[hM];show i.take n++l.drop n=i;rw[Ae DB,A7 DB,AF]
 have hMl:∀k,k<=n->(M k).length=n:=λk hk=>by rw[hM];simp;omega
 have hMa:∀k,k<n->(M k)[k]?=some (l.getD k 0):=λk hk=>by
  rw[hM]
  show (i.take k++l.drop k)[k]?=_
  rw[Ai DF,As,A9 DB,Bp,AK,Bs,Aa,Ad DB];rfl
 have hMs:∀k z,k<n->i[k]?=some z->yd ((M k).flatMap Enc.enc) k [I z]=(M (k+1)).flatMap Enc.enc:=λk z hk hz=>by rw[hM];exact Zh0 DB DB hz
 clear hM;refine zx func120 ntmps120 results120 λS nx hd=>?_
 refine DK ?_;intro v0 v1;refine ze (zB (some [nx]) (Row.pures [0,2] (.alt 1 (Row.pures [3] (.alt 4 (.alt 5 (Row.pures [6] .done) .stop) .stop)) (.alt 4 (.alt 1 (Row.pures [3] (.alt 5 (Row.pures [6] .done) .stop)) .stop) .stop))) mixed trivial ?_);refine⟨?_,λv2=>?_⟩
 all_goals
  refine((hz S nx _).mono ?_).v;rintro _ _ ⟨vo,vi,rfl,rfl⟩;simp only[Au,A6,Nat.reduceAdd,List.cons_append,AM];refine⟨by simp[yH],jp trivial ?_⟩;refine zP (hpl) trivial ?_;intros
 all_goals first
  | (refine ZZ 6 rfl λwo=>?_;refine ZZ 7 rfl λwi=>?_;refine ZZ 8 rfl λwp=>?_)
  | (refine ZZ 7 rfl λwo=>?_;refine ZZ 8 rfl λwi=>?_;refine ZZ 2 rfl λwp=>?_)
 all_goals
  refine DK ?_;refine λhsuf=>ZcW (id:=nx+10) (ver:=wi) (e:=3) (l:=l.flatMap Enc.enc) rfl underlying26 DE (m:=n) rfl (by show PV.lst l.length _=_;rw[hll,hl]) (by rw[z7];rfl) DC DB ?_
  rw[hll,Nat.min_self,Ae DB,A7 DC,AF];refine⟨_,_,yh _ DB DC,zQ hsuf ?_⟩;refine DK ?_;intro v3
  repeat apply ze
  refine zg ?_;have hM0:l.flatMap Enc.enc=(M 0).flatMap Enc.enc:=by rw[hMz]
  refine zn (zJ (λk:Nat=>k<=n) (λk=>[(4,.ptr (nx+1) v1 0),(5,.ptr (nx+11) wp 0),(6,I n),(7,.ptr (nx+12) v3 0),(23,I n),(24,I k)]) (λk=>[.cells v0 25 (zD x),.cells v1 68 [.sc (.slice none 0 0),.sc (.slice none 0 0)],.dead,.dead,.dead,.dead,.dead,.dead,.dead,.cells wo 3 (List.replicate n (I 0)),.cells wi 3 ((M k).flatMap Enc.enc),.cells wp 68 [.sl (nx+9) wo 1 0 n,.sl (nx+10) wi 1 0 n],.cells v3 223 (Qk x (.sl (nx+10) wi 1 0 n))]) (λk=>n-k) 0 [] DC DC (by simp[hM0]) ?_);rintro k hk;refine DK ?_
  by_cases hc:k<n
  ·have hci:(k:Int)<n:=DB
   refine ze (zo DF ?_);refine zk (ze (zn ?_));have hik:=hIa k hc;have hml:=hMl k hk;have hma:=hMa k hc;have hms:=λz h=>hMs k z hc h
   have hle:=λ(T0:Store) (h0:T0 (nx+12)=.cells v3 223 (Qk x (.sl (nx+10) wi 1 0 n)))=>ZhY (S:=T0) n k DB DB 162 [.ptr (nx+12) v3 0] (λa=>arc x a k) (λa _ _ T hT=>Zsf x (.sl (nx+10) wi 1 0 n) k a (by rw[hT _ (by rw[h0];simp),h0]))
   have hcl:=JO (l.getD k 0) 0 (uR (λa=>arc x a k) k n);generalize uR (λa=>arc x a k) k n=lv at *;generalize l.getD k 0=t at *;generalize min (max t 0) lv=z at *;have hms:=hms z hik;generalize hmk1:M (k+1)=mk1 at *;generalize M k=mk at *;obtain⟨t',tl,b1,b2,b3,f0⟩:=zL rfl mk k DB;obtain rfl:t'=t:=by rw[hma]at b1;exact(Option.some.inj b1).symm
   have hkm:k<mk.length:=DB
   refine DK ?_;refine zB (some [nx+11]) (Row.pures [0,1,2,3,4,5,6,8,9,10,11] (.alt 7 (.alt 12 (Row.pures [13,14] (.alt 15 (.done) .stop)) .stop) (.alt 12 (.alt 7 (Row.pures [13,14] (.alt 15 (.done) .stop)) .stop) .stop))) mixed (zN f0 hkm hc hml) ?_;refine⟨?_,?_⟩
   all_goals
    refine((hle _ (by rw[z7];rfl)).mono ?_).v;rintro _ _ ⟨rfl,rfl⟩;refine⟨by simp[yH],jp (zN f0 hkm hc hml) ?_⟩;refine zP (hcl) (zN f0 hkm hc hml) ?_;refine⟨by omega,?_⟩;refine zg ?_;exact zv (k+1) [] DB DB (by simp[zA k (by omega)]) rfl (by simp[hms,hmk1])
  ·obtain rfl:k=n:=DB
   refine ze (zp DC ?_);refine zC ?_;rw[hMn];obtain⟨U,hU⟩:∃U:Nat->List Int,U=λj=>o.take j++(List.replicate k (0:Int)).drop j:=⟨_,rfl⟩
   have hU0:List.replicate k (I 0)=(U 0).flatMap Enc.enc:=by rw[hU,hfl];simp
   have hUn:U k=o:=by rw[hU];show o.take k++(List.replicate k (0:Int)).drop k=o;rw[Ae DB,A7 DC,AF]
   have hUl:∀j,j<=k->(U j).length=k:=λj hj=>by rw[hU];simp;omega
   have hUs:∀j z,j<k->o[j]?=some z->yd ((U j).flatMap Enc.enc) j [I z]=(U (j+1)).flatMap Enc.enc:=λj z hj hz=>by rw[hU];exact Zh0 DB DF hz
   clear hU
   repeat apply ze
   refine zg ?_;refine zn (zJ (λj:Nat=>j<=k) (λj=>[(4,.ptr (nx+1) v1 0),(5,.ptr (nx+11) wp 0),(6,I k),(7,.ptr (nx+12) v3 0),(43,I k),(44,I j)]) (λj=>[.cells v0 25 (zD x),.cells v1 68 [.sc (.slice none 0 0),.sc (.slice none 0 0)],.dead,.dead,.dead,.dead,.dead,.dead,.dead,.cells wo 3 ((U j).flatMap Enc.enc),.cells wi 3 (i.flatMap Enc.enc),.cells wp 68 [.sl (nx+9) wo 1 0 k,.sl (nx+10) wi 1 0 k],.cells v3 223 (Qk x (.sl (nx+10) wi 1 0 k))]) (λj=>k-j) 0 [] DC DC (by simp[hU0]) ?_);rintro j hj;refine DK ?_
   by_cases hc:j<k
   ·have hci:(j:Int)<k:=DB
    refine ze (zo DF ?_);refine zk (ze (zn ?_));have hoj:=hOa j hc;have hul:=hUl j hj;have hus:=λz h=>hUs j z hc h
    have hle:=λ(T0:Store) (h0:T0 (nx+12)=.cells v3 223 (Qk x (.sl (nx+10) wi 1 0 k))) (h1:T0 (nx+10)=.cells wi 3 (i.flatMap Enc.enc))=>ZhY (S:=T0) k j DB DB 163 [.ptr (nx+12) v3 0] (λb=>W (arc x j b-i.getD b 0)) (λb hb _ T hT=>Zsg x i j b (by rw[hT _ (by rw[h0];simp),h0,hIl]) (by rw[hT _ (by rw[h1];simp),h1]) (by rw[Aa,Ad (by omega)];rfl))
    generalize uR (λb=>W (arc x j b-i.getD b 0)) j k=lv at *;have hus:=hus lv hoj;generalize hu1:U (j+1)=u1 at *;generalize U j=uj at *;have hkm:j<uj.length:=DB
    have hkl:j<(uj.flatMap Enc.enc:List PV).length:=by rw[hfl];simpa using hkm
    refine DK ?_;refine zB (some [nx+11]) (Row.pures [0,1,2,3,4,5,6] (.alt 7 (Row.pures [8] (.alt 9 (.done) .stop)) .stop)) mixed (zN hkm hkl hc hul) ?_;refine((hle _ (by rw[z7];rfl) (by rw[z7];rfl)).mono ?_).v;rintro _ _ ⟨rfl,rfl⟩;refine⟨by simp[yH],jp (zN hkm hkl hc hul) ?_⟩;refine⟨by omega,?_⟩;refine zg ?_;exact zv (j+1) [] DB DB (by simp[zA j (by omega)]) rfl (by simp[hus,hu1])
   ·obtain rfl:j=k:=DB
    refine ze (zp DC ?_);refine zC ?_;rw[hUn];refine yb 9 rfl ?_;refine yb 10 rfl ?_;refine DK ?_;exact zj (zm hd DD (by simp[zq,hOl,hIl]))
theorem Zsk(n:Nat)(z:Int):L (List.replicate n z)=.lst n (List.replicate n (I z)):=by
 show PV.lst _ _=_
 rw[B9];congr 1
 induction n with
 | zero=>rfl
 | succ n ih=>rw[Bu,Av,ih];rfl
theorem Zsl(x:Inst)(hx:x.cust.length<=1048576):Pure prog 77 [.agg (zD x)] (.agg [L (xy x (xF x (List.replicate (x.cust.length+1) 2147483648))),L (xF x (List.replicate (x.cust.length+1) 2147483648))]):=by
 have hpl:=V8 x hx;have hfit:=Zh1 x (List.replicate (x.cust.length+1) 2147483648) hx DC;rw[Zsk]at hfit;generalize xF x (List.replicate (x.cust.length+1) 2147483648)=i at *;generalize xy x i=o at *;obtain⟨n,hn⟩:∃n,n=x.cust.length+1:=⟨_,rfl⟩;rw[<-hn]at hpl hfit;have hn1:n<=1048577:=DB
 have hzr:=ZcX n;have hk0:(n:Int)<=140737488355328/\n*8<=281474976710656:=DB
 refine zx func77 ntmps77 results77 λS nx hd=>?_
 refine DK ?_;intro v0 v1;refine DK ?_;refine zu hpl ?_;refine⟨hk0,λv2=>?_⟩
 repeat apply ze
 refine zg ?_;have hset:∀k,k<n->yd (List.replicate k (I 2147483648)++List.replicate (n-k) (I 0)) k [I 2147483648]=List.replicate (k+1) (I 2147483648)++List.replicate (n-(k+1)) (I 0):=λk hk=>by
  rw[ZcZ _ _ _ DF,Bw _ _ DC,B9,Bp,show n-k=(n-(k+1))+1 by omega,Bu,AW,List.replicate_succ'];simp
 refine zn (zJ (λk:Nat=>k<=n) (λk=>[(1,.ptr nx v0 0),(2,.ptr (nx+1) v1 0),(3,.sl (nx+2) v2 1 0 n),(9,I n),(10,I k)]) (λk=>[.cells v0 25 (zD x),.cells v1 68 [.sc (.slice none 0 0),.sc (.slice none 0 0)],.cells v2 3 (List.replicate k (I 2147483648)++List.replicate (n-k) (I 0))]) (λk=>n-k) 0 [] DC DC (by simp[hzr]) ?_);rintro k hk;refine DK ?_
 by_cases hc:k<n
 ·refine ze (zo DF ?_);refine zk (ze (zn ?_));have hs:=hset k hc;have hl:(List.replicate k (I 2147483648)++List.replicate (n-k) (I 0)).length=n:=DF
  generalize hc1:List.replicate (k+1) (I 2147483648)++List.replicate (n-(k+1)) (I 0)=c1 at *;generalize List.replicate k (I 2147483648)++List.replicate (n-k) (I 0)=c0 at *;have hkl:k<c0.length:=DB
  refine DK ?_;refine zi [] (zt hc hkl) ?_;refine⟨by omega,?_⟩;refine zg ?_;exact zv (k+1) [] DB DB (by simp[zA k (by omega)]) rfl (by simp only[hs,hc1,AF])
 ·obtain rfl:k=n:=DB
  refine ze (zp DC ?_);refine zC ?_;rw[Bp,List.replicate_zero,AF];refine yb 2 rfl ?_;refine DK ?_;refine zu hfit ?_;exact DL hd
theorem Zsm(x:Inst)(a b:List Int)(pl:Nat)(d:Int)(hx:x.cust.length<=1048576)(hb:b.length=x.cust.length+1)(hp:pl<x.cust.length+1):
  Pure prog 82 [.agg (zD x),.agg [L a,L b],I pl,I d] (.agg [L (xy x (xF x (b.set pl (W (b.getD pl 0-d))))),L (xF x (b.set pl (W (b.getD pl 0-d))))]):=by
 have hpl:=V8 x hx;have hfit:=Zh1 x (b.set pl (W (b.getD pl 0-d))) hx (by simpa using hb);generalize xF x (b.set pl (W (b.getD pl 0-d)))=i at *;generalize xy x i=o at *;obtain⟨t,tl,b1,b2,b3,f0⟩:=zL rfl b pl DB;have e1:b.getD pl 0=t:=by rw[Aa,b1];rfl
 rw[e1]at hfit;have hfl:∀l:List Int,l.flatMap Enc.enc=l.map I:=λl=>by
  induction l with
  | nil=>rfl
  | cons a l ih=>rw[Av,ih];rfl
 have hset:yd (b.flatMap Enc.enc) pl [I (W (t-d))]=(b.set pl (W (t-d))).flatMap Enc.enc:=by rw[ZcZ _ _ _ (by rw[hfl];simp;omega),hfl,hfl,List.map_set]
 have hsl:(b.set pl (W (t-d))).length=b.length:=BJ;have hLs:L (b.set pl (W (t-d)))=.lst b.length ((b.set pl (W (t-d))).flatMap Enc.enc):=by show PV.lst _ _=_;rw[hsl]
 rw[hLs]at hfit;obtain⟨n,hn⟩:∃n,n=x.cust.length+1:=⟨_,rfl⟩;rw[<-hn]at hpl hp hb;have hn1:n<=1048577:=DB
 have hzr:=ZcX n;have hk0:(n:Int)<=140737488355328/\n*8<=281474976710656:=DB
 have hll:(b.flatMap Enc.enc:List PV).length=n:=by rw[hfl];simpa using hb
 have c1:¬(pl:Int)<0:=DB
 have hpb:pl<b.length:=DB
 rw[hb]at hfit;refine zx func82 ntmps82 results82 λS nx hd=>?_
 refine DK ?_;intro v0 v1 v2;refine DK ?_;refine zu hpl ?_;refine⟨hk0,λv3=>?_⟩;refine DK ?_;refine λhsuf=>ZcW (id:=nx+3) (ver:=v3) (e:=3) (l:=b.flatMap Enc.enc) rfl underlying26 DE (m:=n) rfl (by show PV.lst b.length _=_;rw[hll,hb]) (by rw[z7];rfl) (by simp[yR]) DB ?_
 rw[hll,Nat.min_self,Ae DB,A7 (by simp[yR]),AF];refine⟨_,_,yh _ DB DC,zQ hsuf ?_⟩
 repeat apply ze
 refine zi [(2,19)] (zt c1 hp) ?_;refine zo DC ?_;refine zi [] (zF f0 hpb hp) ?_;refine⟨by omega,?_⟩;rw[hset];refine yb 3 rfl ?_;refine ze (zi [] hb ?_);refine qP [] hfit hb ?_;exact DL hd
open Go Go.Proofs
theorem Ql(a:Int):zW (W a):=by
 show -9223372036854775808<=IntKind.i64.wrap a/\IntKind.i64.wrap a<=9223372036854775807
 rw[Ay];omega
def X8(x:Inst):Int:=vA (λk=>W ((vB x).getD k 0*Zm (x.cust.getD k default) x.days x.cap)) x.cust.length
theorem Zsn(x:Inst)(hn:x.cust.length<=1048576)(hp:∀c∈x.cust,c.pats.length<=1048576):Pure prog 127 [.agg (zD x)] (I (X8 x)):=by
 have hch:=Zsd x hn;have hAl:(vB x).length=x.cust.length:=by simp[vB]
 obtain⟨f,hf⟩:∃f:Nat->Int,f=λk=>W ((vB x).getD k 0*Zm (x.cust.getD k default) x.days x.cap):=⟨_,rfl⟩
 have hbz:X8 x=vA f x.cust.length:=by rw[hf];rfl
 have hf64:∀k,zW (f k):=λk=>by rw[hf];exact Ql _
 rw[hbz];refine zx func127 ntmps127 results127 λS nx hd=>?_
 refine DK ?_;intro v0;refine DK ?_;intro v1;refine DK ?_;refine zu hch ?_;have hsum:=ZcU (S:=ext S nx [.cells v0 25 (zD x),.cells v1 182 (uQ x yr yr (L (vB x)))]) x 172 [.ptr (nx+1) v1 0] f hn hf64 (λk hk T hT=>by
  have hc:x.cust[k]?=some (x.cust.getD k default):=by rw[Aa,Ad hk];rfl
  have ha:(vB x)[k]?=some ((vB x).getD k 0):=by rw[Aa,Ad DB];rfl
  have:=Zr7 (S:=T) (id:=nx+1) (ver:=v1) x yr yr (vB x) k (by rw[hT _ (by rw[z7];simp),z7];rfl) hn hc (hp _ (Ab hc)) ha;rw[hf];exact this)
 refine DK ?_;refine λhsuf=>(hsum.mono ?_).v
 rintro _ _ ⟨rfl,rfl⟩;refine⟨_,_,rfl,zQ hsuf ?_⟩;exact DL hd
def YC(x:Inst):Nat->Int
 | 0=>0
 | k+1=>q8 (YC x k) (Zm (x.cust.getD k default) x.days x.cap)
def Zaa(x:Inst):Int:=vA (λk=>Zn (x.cust.getD k default) x.days x.cap) x.cust.length
def YD(x:Inst):Int:=if 0<x.cap then q8 (YC x x.cust.length) (J4 (Zaa x) x.cap) else YC x x.cust.length
theorem Zso(x:Inst)(hn:x.cust.length<=1048576)(hp:∀c∈x.cust,c.pats.length<=1048576)(h64:∀k,zW (Zn (x.cust.getD k default) x.days x.cap)):Pure prog 122 [.agg (zD x)] (I (YD x)):=by
 have hat:∀k,k<x.cust.length->x.cust[k]?=some (x.cust.getD k default):=λk hk=>by rw[Aa,Ad hk];rfl
 refine zx func122 ntmps122 results122 λS nx hd=>?_
 refine DK ?_;intro v0;refine DK ?_;intro v1;refine DK ?_
 repeat apply ze
 refine zg ?_;refine zn (zJ (λs:Nat × Nat × Nat=>s.1<=x.cust.length) (λ(k,v,w)=>[(1,.ptr nx v 0),(3,.ptr (nx+1) w 0),(4,I (YC x k)),(13,I x.cust.length),(14,I k)]) (λ(k,v,w)=>[.cells v 25 (zD x),.cells w 182 (uQ x yr yr yr)]) (λs=>x.cust.length-s.1) (0,v0,v1) [] DC (by simp[YC]) DC ?_);rintro⟨k,v,w⟩ hk;simp only at hk ⊢;refine DK ?_;refine ze (zz rfl (λhc=>?_) (λhc=>?_))
 ·simp at hc;refine zk (ze (zn (DK ?_)));refine zg ?_;refine λhsuf=>((ZcV x yr yr yr k (by rw[z7];rfl) hn (hat k hc) (hp _ (Ab (hat k hc)))).mono ?_).v
  rintro _ _ ⟨rfl,rfl⟩;refine⟨_,_,rfl,zQ hsuf ?_⟩;refine zg ?_;exact zv (k+1,v,w) [] hc DF (by simp[zA k (by omega),YC]) rfl DC
 ·simp at hc;obtain rfl:k=x.cust.length:=DB
  refine zC ?_
  repeat apply ze
  refine zg ?_;have hsum:=λv w=>ZcU (S:=ext S nx [.cells v 25 (zD x),.cells w 182 (uQ x yr yr yr)]) x 166 [.ptr (nx+1) w 0] (λk=>Zn (x.cust.getD k default) x.days x.cap) hn h64 (λk hk T hT =>
   Zr8 (S:=T) (id:=nx+1) (ver:=w) x yr yr yr k (by rw[hT _ (by rw[z7];simp),z7];rfl) hn (hat k hk) (hp _ (Ab (hat k hk))))
  have hsv:=hsum v w;rw[show vA (λk=>Zn (x.cust.getD k default) x.days x.cap) x.cust.length=Zaa x from rfl]at hsv;have hres:YD x=if 0<x.cap then q8 (YC x x.cust.length) (J4 (Zaa x) x.cap) else YC x x.cust.length:=rfl
  generalize YD x=res at *;generalize YC x x.cust.length=mo at *;generalize Zaa x=ne at *
  by_cases hcap:0<x.cap
  ·rw[if_pos hcap]at hres;have hceil:=ZhS ne x.cap hcap;refine zo (by simp[hcap]) ?_;refine ze (zB (some [nx]) (Row.pures [0,1,2,4,5] (.alt 3 (Row.pures [6,7,8,9,10,11] .done) .stop)) mixed trivial ?_);refine(hsv.mono ?_).v;rintro _ _ ⟨rfl,rfl⟩;refine⟨by simp[yH],jp trivial ?_⟩;refine zP (hceil) trivial ?_;refine zg ?_;refine DK ?_;exact zj (zm hd DD (by rw[hres];rfl))
  ·rw[if_neg hcap]at hres;refine zp DF ?_;refine zk (DK ?_);exact zj (zm hd DD (by rw[hres];rfl))
open Go Go.Proofs
theorem Zh2{α:Type}(l:List α)(a q i:Nat)(h:a+q<=l.length):(l.take a++(l.take q++l.drop (a+q)))[i]?=l[if i<a then i else if i<a+q then i-a else i]?:=by
 by_cases h1:i<a
 ·grind
 ·rw[if_neg h1,Ai DF,As,A9 DB]
  grind
theorem Zsp{P:Program}{n:Nat}{F:Nat->PV}{S:Store}{o:Oper}{s x:Operand}{t e m k0 off id ver et:Nat}{cs:List PV}{K:PV->Store->Prop}(ho:o.op=.call { callee:=.builtin .copy,args:=#[s,x],argTypes:=#[t,t] })(ht:P.underlying t=some (.slice e))(hz:(P.info? e).map (·.size)=some 1)
  (hs:ev F s=.sl id ver 1 off m) (hx:ev F x=.sl id ver 1 0 k0) (hid:S id=.cells ver et cs) (hm:off+m=cs.length) (hm0:0<m) (hk:k0<=cs.length) (hk0:0<k0)
  (hK:K (I (min k0 m:Nat)) (S.set id (.cells ver et (cs.take off++(cs.take (min k0 m)++cs.drop (off+min k0 m)))))):PO P wU n o F S K:=by
 intro G hG C w a N st next Q' hnext;have e1:=st.ev s;rw[(hG s (by grind[Op.operands,Call.operands])).trans hs]at e1;have e2:=st.ev x;rw[(hG x (by grind[Op.operands,Call.operands])).trans hx]at e2;have hnd:∀c,o.op≠.defer c:=by intro c hc;rw[ho]at hc;cases hc
 generalize hv:a.eval s=v at e1;generalize hu:a.eval x=u at e2;cases e1 with
 | sl i1 i2 i3 =>
  rcases (i3 ver (by rw[hid];rfl)).2 rfl with ⟨_,q,_,_⟩ | ⟨b,k,ad,dcap,hl,rfl,_,hq0⟩
  ·omega
  obtain rfl:=hq0 DB;cases e2 with
  | sl j1 j2 j3 =>
   rcases (j3 ver (by rw[hid];rfl)).2 rfl with ⟨_,q,_,_⟩ | ⟨b2,k2,ad2,scap,hl2,rfl,_,hq2⟩
   ·omega
   rw[hl]at hl2;cases hl2;obtain rfl:=hq2 DB;rcases st.sim.cells id ver et cs hid with ⟨hn,_⟩ | ⟨b',k',c,g1,g2,g3,g4,g5,g6⟩
   ·simp_all
   rw[hl]at g1;cases g1;obtain⟨vs,hvs⟩:∃vs,vs=c.toList.take (min k0 m):=⟨_,rfl⟩;have hcs:c.toList.length=c.size:=Array.length_toList;have hvl:vs.length=min k0 m:=by rw[hvs,As];omega
   have hat:∀(j:Nat) (v:Value),vs[j]?=some v->j<min k0 m/\c[j]?=some v:=λj v hj=>by
    rw[hvs,BA]at hj;split at hj
    ·rename_i hlt;rw[Array.getElem?_toList]at hj;exact⟨hlt,hj⟩
    ·cases hj
   have hcell:∀j v,vs[j]?=some v->w.cell? ((⟨b,0,none⟩:Addr).add j)=some v:=λj v hj=>by
    obtain⟨q1,q2⟩:=hat j v hj;rw[Addr.add_plain];simp[World.cell?,g2,q2]
   have hone:∀v∈vs,v.oneCell'=true:=λv hv'=>by
    obtain⟨j,hj⟩:=B3 hv';obtain⟨q1,q2⟩:=hat j v hj;exact g5 j v DB q2
   have hrun0:=run_copy_row P w t t o.type e b off m dcap ⟨b,0,none⟩ k0 scap c et vs ht hz g2 (by rw[hvl]) hcell DB hone;have hrun:=X7 (P:=P) (a:=a) (w:=w) ho (by rw[hv,hu];exact hrun0);rw[hvl,List.append_assoc,hvs]at hrun;generalize hw':w.setRow b (c.toList.take off++(c.toList.take (min k0 m)++c.toList.drop (off+min k0 m))).toArray=w' at hrun;have hheap:w'.heap[b]?=some (.cells (c.toList.take off++(c.toList.take (min k0 m)++c.toList.drop (off+min k0 m))).toArray et (0,0)):=by rw[<-hw'];exact setRow_heap w b c _ et _ g2
   have hgr:w.grownBy w' (some b)/\w.drawn<=w'.drawn:=by
    rw[<-hw'];exact⟨⟨rfl,rfl,rfl,by simp,λj hj hne=>setRow_other w b j _ (λe=>hne (by rw[e]))⟩,Af _⟩
   have hV:=λi=>Zh2 c.toList off (min k0 m) i DB
   have hP:=λi=>Zh2 cs off (min k0 m) i DB
   have hVl:(c.toList.take off++(c.toList.take (min k0 m)++c.toList.drop (off+min k0 m))).length=c.size:=DF
   have hPl:(cs.take off++(cs.take (min k0 m)++cs.drop (off+min k0 m))).length=cs.length:=DF
   generalize c.toList.take off++(c.toList.take (min k0 m)++c.toList.drop (off+min k0 m))=V at *;generalize cs.take off++(cs.take (min k0 m)++cs.drop (off+min k0 m))=cs' at *;have hphi:∀i,i<cs.length->(if i<off then i else if i<off+min k0 m then i-off else i)<cs.length:=λi hi=>by split<;>(try split)<;>omega
   obtain⟨t1,t2⟩:=st.sim.turn (l:=C.loc id) (ver':=ver) (cs':=cs') hid (Af _) (λ_=>rfl) (by rw[hl];exact hgr)
    (.inr ⟨b,k,_,hl,.inr (by rw[hl];rfl),hheap,by simp;omega,by omega,λi z hi hz=>by
      rw[AA,hV i,Array.getElem?_toList]at hz;exact g5 _ z (hphi i DB) hz,
     λi p z hp hz=>by
      rw[AA,hV i,Array.getElem?_toList]at hz;rw[hP i]at hp;exact g6 _ p z hp hz⟩)
   exact qf hnd hrun (hnext _ _ _ _ _ hK (.sc _) t1 t2)
open Go Go.Proofs
theorem Zsq(n:Nat)(hn:n<=1048576):Pure prog 206 [U 1,U n] (.tup [U 0,U n]):=by
 intro S;refine⟨ZjK,λC w us hS hl' hr=>?_⟩;obtain⟨u0,u1,rfl⟩:=Zhc hl';have r0:=hr 0 _ u0 rfl rfl;have r1:=hr 1 _ u1 rfl rfl;cases r0;cases r1;have h1:1*n / 18446744073709551616=0:=DB
 have h2:1*n % 18446744073709551616=n:=DB
 have hm:=bits_Mul 1 n DB DB w;rw[h1,h2]at hm;refine hm.mono ?_;rintro _ _ ⟨rfl,rfl⟩;refine⟨_,_,S,C,rfl,⟨rfl,rfl⟩,.tup rfl λj c v h1 h2=>?_,hS,.refl _ _ _⟩
 match j,h1,h2 with
 | 0,h1,h2=>cases h1;cases h2;exact .sc _
 | 1,h1,h2=>cases h1;cases h2;exact .sc _
theorem Zsr(p:Int)(m:Nat):(List.replicate m p).flatMap Enc.enc=List.replicate m (I p):=by
 induction m with
 | zero=>rfl
 | succ m ih=>rw[Bu,Av,ih];rfl
theorem Zss(p:Int)(n:Nat)(h1:1<=n)(hn:n<=1000):Pure prog 168 [L [p],I n] (L (List.replicate n p)):=by
 have hmul:=Zsq n DB;have c0:¬(n:Int)<0:=DB
 have w1:IntKind.u64.wrap (n:Int)=n:=by simp only[IntKind.wrap,IntKind.bits,IntKind.signed];simp;omega
 have w2:IntKind.i64.wrap (n:Int)=n:=by rw[Ay];omega
 have c1:¬(9223372036854775807:Int)<n:=DB
 refine zx func168 ntmps168 results168 λS nx hd=>?_
 refine DK ?_
 repeat apply ze
 refine zi [] c0 ?_;refine zp DC ?_;refine zk ?_;have w3:IntKind.u64.wrap 1=1:=DH
 refine ze (zi [] (zt w1 w3) ?_);refine zu hmul ?_
 repeat apply ze
 refine zi [(2,23)] c1 ?_;refine zp DC ?_;refine zk (ze (zi [] w2 ?_));refine⟨by omega,λv0=>?_⟩;refine DK ?_;refine λhsuf=>ZcW (id:=nx) (ver:=v0) (e:=3) (l:=[I p]) rfl underlying26 DE (m:=n) rfl rfl (by rw[Zu];rfl) (by simp[yR]) h1 ?_
 have hrow:List.take n [I p]++List.drop (min [I p].length n) (yR n (.int .i64 0))=List.replicate 1 (I p)++List.replicate (n-1) (I 0):=by
  rw[Ae DF];have:min [I p].length n=1:=DF
  have hz:yR n (.int .i64 0)=List.replicate n (I 0):=by
   apply Bg
   ·simp[yR]
   ·intro i q1 q2;simp[yR,Nat.mod_one]
  rw[this,hz,List.drop_replicate];rfl
 have hmin:min [I p].length n=1:=DF
 rw[hrow,hmin];refine⟨_,_,yh _ (Af _) DC,zQ hsuf ?_⟩;refine ze (zn (zJ (λm:Nat=>1<=m/\m<=n) (λm=>[(7,.sl nx v0 1 0 n),(8,I m)]) (λm=>[.cells v0 3 (List.replicate m (I p)++List.replicate (n-m) (I 0))]) (λm=>n-m) 1 [] ⟨Af _,h1⟩ DC DC ?_));rintro m ⟨hm1,hmn⟩
 repeat apply ze
 refine zg ?_
 by_cases hc:m<n
 ·repeat apply ze
  refine zo DF ?_;refine zk (zn ?_);have hlen:(List.replicate m (I p)++List.replicate (n-m) (I 0):List PV).length=n:=DF
  obtain⟨q,hq⟩:∃q,q=min m (n-m):=⟨_,rfl⟩;have hrow2:(List.replicate m (I p)++List.replicate (n-m) (I 0):List PV).take m++((List.replicate m (I p)++List.replicate (n-m) (I 0):List PV).take q++(List.replicate m (I p)++List.replicate (n-m) (I 0):List PV).drop (m+q))=List.replicate (m+q) (I p)++List.replicate (n-(m+q)) (I 0):=by
   have e1:(List.replicate m (I p)++List.replicate (n-m) (I 0):List PV).take m=List.replicate m (I p):=List.take_left' DC;have e2:(List.replicate m (I p)++List.replicate (n-m) (I 0):List PV).take q=List.replicate q (I p):=by rw[BD DF,List.take_replicate,A9 DB]
   have e3:(List.replicate m (I p)++List.replicate (n-m) (I 0):List PV).drop (m+q)=List.replicate (n-(m+q)) (I 0):=by rw[Cs,A7 DC,AM,B9,List.drop_replicate];congr 1;omega
   rw[e1,e2,e3,<-List.append_assoc,List.replicate_append_replicate]
  have hq1:1<=q:=DB
  have hqn:m+q<=n:=DB
  have wq:IntKind.i64.wrap ((m:Int)+q)=((m+q:Nat):Int):=by rw[Ay];omega
  refine zB (some []) (Row.pures [0,1,2,3,4,5,6] (.alt 7 (Row.pures [8,9] .done) .stop)) mixed hmn ?_;refine⟨by rfl,(Zsp (id:=nx) (ver:=v0) (off:=m) (m:=n-m) (k0:=m) (e:=3) rfl underlying26 DE rfl rfl (by rw[Zu];rfl) (by rw[hlen];omega) DB (by rw[hlen];omega) DB ?_)⟩;rw[<-hq,hrow2,yh _ (Af _) DC];refine⟨by simp[yH],jp wq ?_⟩;exact zv (m+q) [] ⟨by omega,hqn⟩ DB DC rfl DC
 ·obtain rfl:m=n:=DB
  refine zp DC ?_;refine zC (yb 0 rfl ?_);rw[Bp,List.replicate_zero,AF];have hfl:=Zsr p m;refine DK ?_;exact zj (zm hd DD (by simp[zq,hfl]))
open Go Go.Proofs
def Z0(x:Inst)(n:Nat)(a b:List Int)(k:Nat):Int:=Qj n x.cap (x.cust.getD k default) (List.replicate n (W (a.getD (k+1) 0+b.getD (k+1) 0)))
structure BndOk (x:Inst) (n:Nat):Prop where
 days:x.days=n
 n1:1<=n
 n60:n<=60
 ncust:x.cust.length<=1048576
 pats:∀c∈x.cust,c.pats.length<=1000
 made:∀c∈x.cust,CustMade c n
 fits:∀c∈x.cust,CustFits c
 vis:∀c∈x.cust,∀price:List Int,price.length<=1000->(∀z∈price,zW z)->VisOk (qv n x.cap c price).1
theorem Zst{S:Store}{id ver:Nat}(x:Inst)(n:Nat)(a b:List Int)(ch:PV)(k:Nat)(hx:BndOk x n)(hk:k<x.cust.length)(ha:a.length=x.cust.length+1)(hb:b.length=x.cust.length+1)(hS:S id=.cells ver 182 (uQ x (L a) (L b) ch)):
  Spec prog 125 [.ptr id ver 0,I k] S (λq S'=>q=I (Z0 x n a b k)/\S'=S):=by
 have hpr:=Zsa x a b k hk hx.ncust ha hb;unfold Z0;have hc:x.cust[k]?=some (x.cust.getD k default):=by rw[Aa,Ad hk];rfl
 have hm:=Ab hc;obtain⟨t,tl,b1,b2,b3,f0,f1⟩:=el 8 rfl x.cust k hk;obtain rfl:t=x.cust.getD k default:=by rw[hc]at b1;exact(Option.some.inj b1).symm
 have hp64:=Ql (a.getD (k+1) 0+b.getD (k+1) 0);generalize W (a.getD (k+1) 0+b.getD (k+1) 0)=p at *;generalize x.cust.getD k default=c at *;have hrep:=Zss p n hx.n1 (by have:=hx.n60;omega);have hr64:∀z∈List.replicate n p,zW z:=λz hz=>by rw[(List.mem_replicate.1 hz).2];exact hp64
 have hrl:(List.replicate n p).length<=1000:=by rw[B9];have:=hx.n60;omega
 have hbd:Pure prog 170 [.agg (yc c),I n,I x.cap,L (List.replicate n p)] (I (Qj n x.cap c (List.replicate n p))):=λS=>Zr9 c n x.cap (.inl rfl) hr64 hrl (hx.made c hm) (hx.pats c hm) hx.n60 (hx.fits c hm) (hx.vis c hm _ hrl hr64)
 generalize Qj n x.cap c (List.replicate n p)=res at *;have hdays:=hx.days;generalize List.replicate n p=pl at *;rw[<-hdays]at hrep hbd;refine yi func125 ntmps125 results125 λnx hd=>?_
 have hlt:id<nx:=qC hd hS DC;have x1:∀obs,ext S nx obs id=.cells ver 182 (uQ x (L a) (L b) ch):=λobs=>(zE hlt).trans hS
 refine DK ?_;refine ze (zB (some [id]) (Row.pures [0,1,2,3,4,5,6,7,8,9,10,11,12,13,14,15,16,17] .done) mixed x1 ?_);refine zP (hpr) x1 ?_;refine zP (hrep) x1 ?_;refine ze (zB (some [id]) (Row.pures [0,1,2,3,4,5,6,7,8,9,10,11,12,13,14,15,16,17,18,19,20] .done) mixed (zN x1 hk f0 f1) ?_);refine zP (hbd) trivial ?_;exact DL hd
def YE(x:Inst)(a b:List Int):Int:=if (Yx (W (a.getD 0 0+b.getD 0 0)) (YD x)).2=true then (Yx (W (a.getD 0 0+b.getD 0 0)) (YD x)).1 else 9223372036854775807
def Jc(x:Inst)(n:Nat)(a b:List Int):Int:=wM (vA (Z0 x n a b) x.cust.length) (YE x a b)
theorem Zh3(x:Inst)(n:Nat)(a b:List Int)(hx:BndOk x n)(h64:∀k,zW (Zn (x.cust.getD k default) x.days x.cap))(hal:∀k,zW (Z0 x n a b k))(hcar:zW (YE x a b))(ha:a.length=x.cust.length+1)(hb:b.length=x.cust.length+1):
  Pure prog 79 [.agg (zD x),.agg [L a,L b]] (I (Jc x n a b)):=by
 have hle:=Zso x hx.ncust (λc hc=>by have:=hx.pats c hc;omega) h64;have hmu:=Zr2 (W (a.getD 0 0+b.getD 0 0)) (YD x);have hsat:=Vr (vA (Z0 x n a b) x.cust.length) (YE x a b) (ZhU _ _) hcar;have hv:Jc x n a b=wM (vA (Z0 x n a b) x.cust.length) (YE x a b):=rfl;rw[hv];have hcz:YE x a b=if (Yx (W (a.getD 0 0+b.getD 0 0)) (YD x)).2=true then (Yx (W (a.getD 0 0+b.getD 0 0)) (YD x)).1 else 9223372036854775807:=rfl
 obtain⟨t,tl,b1,b2,b3,f0⟩:=zL rfl a 0 DB;obtain⟨u,tl2,c1,c2,c3,f1⟩:=zL rfl b 0 DB;have e1:a.getD 0 0=t:=by rw[Aa,b1];rfl
 have e2:b.getD 0 0=u:=by rw[Aa,c1];rfl
 rw[e1,e2]at hmu hcz;have hka:0<a.length:=DB
 have hkb:0<b.length:=DB
 have hsumv:∀(S:Store) (id ver:Nat),S id=.cells ver 182 (uQ x (L a) (L b) yr)->Spec prog 124 [.agg (zD x),.fn (.func 125) [.ptr id ver 0] []] S (λq S'=>q=I (vA (Z0 x n a b) x.cust.length)/\S'=S):=λS id ver hS =>
  ZcU (S:=S) x 125 [.ptr id ver 0] (Z0 x n a b) hx.ncust hal (λk hk T hT=>Zst (S:=T) (id:=id) (ver:=ver) x n a b yr k hx hk ha hb (by rw[hT _ (by rw[hS];simp),hS]))
 generalize vA (Z0 x n a b) x.cust.length=su at *;generalize YD x=le at *;generalize YE x a b=ca at *;generalize Yx (W (t+u)) le=mz at *;obtain⟨mv,mok⟩:=mz;simp only at hmu hcz;refine zx func79 ntmps79 results79 λS nx hd=>?_
 refine DK ?_;intro v0 v1;refine DK ?_;intro v2;refine ze (zB (some [nx,nx+1]) (Row.pures [0,1,2,3,4,5,6,7,8,9,10,11,12,13,14,15,16] .done) mixed (zN f0 f1 hka hkb) ?_);refine zP (hle) (zN f0 f1 hka hkb) ?_;refine zP (hmu) (zN f0 f1 hka hkb) ?_
 repeat apply ze
 refine zg ?_;cases mok with
 | true =>
  obtain rfl:ca=mv:=by rw[hcz];exact if_pos rfl
  refine zp DC ?_;refine zk (DK ?_);refine λhsuf=>((hsumv _ (nx+2) v2 (by rw[z7];rfl)).mono ?_).v
  rintro _ _ ⟨rfl,rfl⟩;refine⟨_,_,rfl,zQ hsuf ?_⟩;refine λhsuf=>((hsat _).mono ?_).v
  rintro _ _ ⟨rfl,rfl⟩;refine⟨_,_,rfl,zQ hsuf ?_⟩;exact DL hd
 | false =>
  obtain rfl:ca=9223372036854775807:=by rw[hcz];exact if_neg DC
  refine zo DC ?_;refine zg ?_;refine DK ?_;refine λhsuf=>((hsumv _ (nx+2) v2 (by rw[z7];rfl)).mono ?_).v
  rintro _ _ ⟨rfl,rfl⟩;refine⟨_,_,rfl,zQ hsuf ?_⟩;refine λhsuf=>((hsat _).mono ?_).v
  rintro _ _ ⟨rfl,rfl⟩;refine⟨_,_,rfl,zQ hsuf ?_⟩;exact DL hd
def X9(x:Inst)(n:Nat)(a b:List Int):Int:=q8 (Jc x n a b) (X8 x)
theorem Zsu(x:Inst)(n:Nat)(a b:List Int)(hx:BndOk x n)(h64:∀k,zW (Zn (x.cust.getD k default) x.days x.cap))(hal:∀k,zW (Z0 x n a b k))(hcar:zW (YE x a b))(ha:a.length=x.cust.length+1)(hb:b.length=x.cust.length+1):
  Pure prog 83 [.agg (zD x),.agg [L a,L b]] (I (X9 x n a b)):=by
 have hva:=Zh3 x n a b hx h64 hal hcar ha hb;have hba:=Zsn x hx.ncust (λc hc=>by have:=hx.pats c hc;omega);have hz:X9 x n a b=q8 (Jc x n a b) (X8 x):=rfl;generalize X9 x n a b=z at *;generalize Jc x n a b=va at *;generalize X8 x=ba at *;refine zx func83 ntmps83 results83 λS nx hd=>?_
 refine DK ?_;intro v0 v1;refine ze (zB (some [nx,nx+1]) (Row.pures [0,1,2,3,4,5,6] .done) mixed trivial ?_);refine zP (hva) trivial ?_;refine zP (hba) trivial ?_;exact zj (zm hd DD (by rw[hz];rfl))
open Go Go.Proofs Hp
theorem Zsv{n:Nat}{cap:Int}{c:Cust}{price:List Int}(h:(qv n cap c price).2=false):(qv n cap c price).1=[]:=by
 unfold qv at h ⊢;split at h
 ·rename_i hk;rw[if_pos hk];unfold Zd at h ⊢;split at h
  ·rename_i h1;rw[if_pos h1]
  ·cases h
 ·rename_i hk;rw[if_neg hk];split at h
  ·rename_i hr;rw[if_pos hr];unfold Yt at h ⊢;split at h
   ·rename_i h1;rw[if_pos h1]
   ·cases h
  ·rename_i hr;rw[if_neg hr];unfold QX at h ⊢;split at h
   ·cases h
   ·rename_i h1;rw[if_neg h1];split at h
    ·cases h
    ·rename_i h2;rw[if_neg h2]
theorem Zsw{c:Cust}{n:Nat}(hm:CustMade c n)(hn:n<=60)(cap:Int)(price:List Int):VisOk (qv n cap c price).1:=by
 cases h:(qv n cap c price).2 with
 | false=>rw[Zsv h];exact⟨by simp,by simp,by simp⟩
 | true =>
  have hg:=VM hm hn cap price h;exact⟨by have:=hg.len;omega,λs hs=>by have:=hg.ok s hs;omega,λs hs=>by have:=hg.ok s hs;unfold zW;omega⟩
theorem Zsx{x:Inst}{n:Nat}(h:InstQ x n):BndOk x n :=
 ⟨h.k.a.days,h.t.n1,h.k.a.n60,by have:=h.six;omega,h.k.a.pats,h.k.a.made,λc hc=>(h.k.a.made c hc).fits,λc hc price _ _=>Zsw (h.k.a.made c hc) h.k.a.n60 _ _⟩
theorem Zab:zW 0:=⟨by decide,by decide⟩
theorem Zh4(c:Cust)(n cap:Int):zW (Zn c n cap):=by
 unfold Zn;split
 ·exact Ql _
 ·unfold Q8 q8;split
  ·exact Zab
  ·exact Ql _
theorem Zsy(price:List Int)(v:List Visit):zW (Y9 price v):=by
 have:∀(v:List Visit) (s:Int),zW s->zW (v.foldl (λs w=>W (s+Yq price w.d)) s):=by
  intro v
  induction v with
  | nil=>intro s h;exact h
  | cons w v ih=>intro s _;exact ih _ (Ql _)
 exact this v 0 Zab
theorem Zh5(n:Nat)(cap:Int)(c:Cust)(price:List Int):zW (Qj n cap c price):=by
 unfold Qj;split
 ·unfold ZQ;split
  ·exact Zsy _ _
  ·exact Ql _
 ·unfold V7;split<;>exact Ql _
theorem Zh6(x:Inst)(a b:List Int):zW (YE x a b):=by
 unfold YE;split
 ·unfold Yx;split
  ·exact Zab
  ·split
   ·exact Zab
   ·exact Ql _
 ·exact⟨by decide,by decide⟩
theorem Zsz{x:Inst}{n:Nat}(h:BndOk x n)(a b:List Int)(ha:a.length=x.cust.length+1)(hb:b.length=x.cust.length+1):
  Pure prog 79 [.agg (zD x),.agg [L a,L b]] (I (Jc x n a b)) :=
 Zh3 x n a b h (λk=>Zh4 _ _ _) (λk=>Zh5 _ _ _ _) (Zh6 x a b) ha hb
theorem ZsA{x:Inst}{n:Nat}(h:BndOk x n)(a b:List Int)(ha:a.length=x.cust.length+1)(hb:b.length=x.cust.length+1):
  Pure prog 83 [.agg (zD x),.agg [L a,L b]] (I (X9 x n a b)) :=
 Zsu x n a b h (λk=>Zh4 _ _ _) (λk=>Zh5 _ _ _ _) (Zh6 x a b) ha hb
open Go Go.Proofs
structure Clm where
 i:List Int
 m:Int
 s:Int
def uS(x:Inst)(c:Clm):Nat:=jG c.s (x.cust.length+1)
def J6(x:Inst)(c:Clm):Nat:=jG (yG c.s) ((c.i.getD (uS x c) 0).toNat+1)
def YF(x:Inst)(c:Clm):List Int:=xF x (c.i.set (uS x c) (W (c.i.getD (uS x c) 0-J6 x c)))
def YG(x:Inst)(n:Nat)(i:List Int):Int:=Jc x n (xy x i) i
def Wa(x:Inst)(n:Nat)(c:Clm):Clm:=if c.m<YG x n (YF x c) then ⟨YF x c,YG x n (YF x c),yG (yG c.s)⟩ else ⟨c.i,c.m,yG (yG c.s)⟩
def J7(x:Inst):List Int:=xF x (List.replicate (x.cust.length+1) 2147483648)
def xU(x:Inst)(n:Nat)(s:Int):Nat->Clm
 | 0=>⟨J7 x,YG x n (J7 x),IntKind.u64.wrap s⟩
 | k+1=>Wa x n (xU x n s k)
def Wb(x:Inst)(n:Nat)(s:Int)(k:Nat):Int:=X9 x n (xy x (xU x n s k).i) (xU x n s k).i
def Zac(x:Inst)(i:List Int):Prop:=i.length=x.cust.length+1/\∀z∈i,0<=z/\z<=2147483648
theorem Zh7{x:Inst}(ha:jf x)(l:List Int):Zac x (xF x l):=by
 refine⟨V9 x l,λz hz=>?_⟩;unfold xF at hz;obtain⟨b,-,rfl⟩:=Ar.1 hz;have:=Zsj (f:=λa=>arc x a b) (p:=b) (lo:=0) (hi:=2147483648) DH DH (λk=>ha k b) (x.cust.length+1);omega
theorem ZsB{x:Inst}(ha:jf x){n:Nat}{c:Clm}(h:Zac x c.i):Zac x (Wa x n c).i:=by
 unfold Wa;split
 ·exact Zh7 ha _
 ·exact h
theorem Zc0{x:Inst}(ha:jf x)(n:Nat)(s:Int):∀k,Zac x (xU x n s k).i
 | 0=>Zh7 ha _
 | k+1=>ZsB ha (Zc0 ha n s k)
theorem ZsC{x:Inst}{n:Nat}(hx:BndOk x n)(ha:jf x)(s:Int)(b:Nat)(hb:b<=1000):
  ∃pa pb,Pure prog 34 [.agg (zD x),I s,I b] (.tup [.agg [pa,pb],I (Wb x n s b)]):=by
 refine⟨L (xy x (xU x n s b).i),L (xU x n s b).i,?_⟩;have hn:=hx.ncust;have e0:xU x n s 0=⟨J7 x,YG x n (J7 x),IntKind.u64.wrap s⟩:=rfl;have hval:∀i:List Int,i.length=x.cust.length+1->Pure prog 79 [.agg (zD x),.agg [L (xy x i),L i]] (I (YG x n i)):=λi hi=>by unfold YG;exact Zsz hx (xy x i) i (ZcY x i) hi
 have hfi:Pure prog 77 [.agg (zD x)] (.agg [L (xy x (xU x n s 0).i),L (xU x n s 0).i]):=by rw[e0];dsimp only;unfold J7;exact Zsl x hn
 have hv0:Pure prog 79 [.agg (zD x),.agg [L (xy x (xU x n s 0).i),L (xU x n s 0).i]] (I (xU x n s 0).m):=by rw[e0];dsimp only;exact hval _ (by unfold J7;exact V9 x _)
 have hbest:Pure prog 83 [.agg (zD x),.agg [L (xy x (xU x n s b).i),L (xU x n s b).i]] (I (Wb x n s b)):=by unfold Wb;exact ZsA hx _ _ (ZcY x _) (Zc0 ha n s b).1
 have hclip:Pure prog 80 [I b,I 0,I 1000] (I b):=by
  have:=JO b 0 1000
  rwa[show min (max (b:Int) 0) 1000=b by omega]at this
 have hs0:(xU x n s 0).s=IntKind.u64.wrap s:=by rw[e0]
 clear e0;have hstep:∀k,xU x n s (k+1)=Wa x n (xU x n s k):=λ_=>rfl
 have hok:=Zc0 ha n s;have hlow:=λ(b:List Int) (pl:Nat) (d:Int) hb hp=>Zsm x (xy x b) b pl d hn hb hp
 have hfo:∀l,(xF x l).length=x.cust.length+1:=V9 x;generalize Wb x n s b=res at *;generalize xU x n s=C at *;generalize xy x=O at *;refine zx func34 ntmps34 results34 λS nx hd=>?_
 refine DK ?_;intro v0 v1;refine DK ?_;refine zu hfi ?_;refine λhsuf=>((ZhB s jU).mono ?_).v
 rintro _ _ ⟨v2,rfl,rfl⟩;refine⟨_,_,qU _,zQ hsuf ?_⟩;intro v3;rw[<-hs0];refine DK ?_;refine zu hv0 ?_
 repeat apply ze
 refine zg ?_;refine zu hclip ?_;refine zn (zJ (λk:Nat=>k<=b) (λk=>[(3,.ptr nx v0 0),(6,.ptr (nx+1) v1 0),(8,.ptr (nx+3) v3 0),(9,.ptr (nx+2) v2 0),(10,I (C k).m),(23,I b),(24,I k)]) (λk=>[.cells v0 25 (zD x),.cells v1 68 [.sc (.slice none 0 0),.sc (.slice none 0 0)],.cells v2 179 (jS (C k).s),.cells v3 68 [L (O (C k).i),L (C k).i]]) (λk=>b-k) 0 [] DC DC DC ?_);rintro k hk;refine DK ?_;refine ze (zz rfl (λhc=>?_) (λhc=>?_))
 ·simp at hc;have hst:=hstep k;obtain⟨hl,hbd⟩:=hok k;generalize hCk:C k=c at *;refine zk (ze (zn ?_));have hpl:uS x c<x.cust.length+1:=Q1 _ DB;have hb1:=λ(S:Store) hS=>X4 c.s (x.cust.length+1) DB DB (S:=S) (id:=nx+2) (v:=v2) hS
  have hpe:jG c.s (x.cust.length+1)=uS x c:=rfl;rw[hpe]at hb1;have w1:IntKind.i64.wrap ((x.cust.length:Int)+1)=((x.cust.length+1:Nat):Int):=by rw[Ay];omega
  obtain⟨t,tl,b1,b2,b3,f0⟩:=zL rfl c.i (uS x c) DB;have hte:c.i.getD (uS x c) 0=t:=by rw[Aa,b1];rfl
  have htb:=hbd t (Ab b1);obtain⟨t1,ht1⟩:∃t1:Nat,(t1:Int)=t+1:=⟨(t+1).toNat,by omega⟩;have hb2:=λ(S:Store) hS=>X4 (yG c.s) t1 DB DB (S:=S) (id:=nx+2) (v:=v2) hS
  have hoe:jG (yG c.s) t1=J6 x c:=by unfold J6;rw[hte,show t.toNat+1=t1 by omega]
  rw[hoe]at hb2;have w2:IntKind.i64.wrap (t+1)=(t1:Int):=by rw[Ay];omega
  have hlo:=hlow c.i (uS x c) (J6 x c) hl hpl;have htr:xF x (c.i.set (uS x c) (W (c.i.getD (uS x c) 0-J6 x c)))=YF x c:=rfl;rw[htr]at hlo;have hv:=hval (YF x c) (hfo _);have hst2:C (k+1)=if c.m<YG x n (YF x c) then ⟨YF x c,YG x n (YF x c),yG (yG c.s)⟩ else ⟨c.i,c.m,yG (yG c.s)⟩:=by rw[hst];unfold Wa;rfl
  have hpi:uS x c<c.i.length:=DB
  generalize uS x c=pl at *;generalize J6 x c=off at *;generalize YF x c=tr at *;generalize YG x n tr=va at *;generalize yG c.s=s1 at *;generalize yG s1=s2 at *;obtain⟨ci,cm,cs⟩:=c;simp only at *;refine ze (zi [] w1 ?_);refine λhsuf=>((hb1 _ (by rw[z7];rfl)).mono ?_).v
  rintro _ _ ⟨rfl,rfl⟩;refine⟨_,_,yh _ DB DC,zQ hsuf ?_⟩;obtain⟨lc,hlc⟩:∃lc,lc=L ci:=⟨_,rfl⟩;rw[<-hlc];have hip:Qm prog 26 lc (I pl)=some (.ip (I t :: tl)):=by rw[hlc];simp -implicitDefEqProofs [Qm,hpi,f0]
  clear f0 hpi;refine ze (xk [] DG DG λK Gc Gh hK hGc hGh X hX0 hX=>?_);simp -implicitDefEqProofs [hX0,hX,hip,w2,-Qm]
  try clear hX0 hX X
  refine hGc _ _ _ _ _ _ _ λhsuf=>((hb2 _ (by rw[z7];rfl)).mono ?_).v
  rintro _ _ ⟨rfl,rfl⟩;refine⟨_,_,yh _ DB DC,?_⟩;clear hGc hGh;clear Gc Gh;refine xH hsuf (D:=[]) DG λGc Gh hGc hGh X hX0 hX=>?_
  simp -implicitDefEqProofs [hX0,hX];clear hX0 hX X;refine hK _ _ _ ?_;clear hK hGc hGh;clear K Gc Gh;subst hlc;refine DK ?_;refine zu hlo ?_;intro v4;refine DK ?_;refine zu hv ?_;refine DK ?_
  by_cases hlt:cm<va
  ·rw[if_pos hlt]at hst2;refine zo (by simp[hlt]) ?_;refine zg ?_;refine zg ?_;exact zv (k+1) [_] hc DB (by simp[zA k (by omega),hst2]) rfl (by simp[hst2];rfl)
  ·rw[if_neg hlt]at hst2;refine zp (by simp[hlt]) ?_;refine zk (zg ?_);exact zv (k+1) [_] hc DB (by simp[zA k (by omega),hst2]) rfl (by simp[hst2];rfl)
 ·simp at hc;obtain rfl:k=b:=DB
  refine zC (ze (zB (some [nx,nx+3]) (Row.pures [0,1,2,3] (.alt 4 (Row.pures [5] .done) .stop)) mixed trivial ?_));refine zP (hbest) trivial ?_;exact zj (zm hd DD (by simp[zq]))
open Go Go.Proofs Hp
theorem ZsD{x:Inst}{n:Nat}(h:InstQ x n):InstOk x:=by
 have hm:=X6 h.m;obtain⟨d1,d2,d3,d4⟩:=ZcN hm.dist;have h6:=h.six;have r:∀z:Int,0<=z->z<=2147483648->zW z:=λz a b=>by unfold zW;omega
 refine⟨by have:=hm.days;unfold zW;omega,r _ hm.veh.1 hm.veh.2,r _ hm.cap.1 hm.cap.2,r _ hm.len.1 hm.len.2,by omega,λc hc=>?_,by omega,λrow hr=>⟨by have:=(d2 row hr).1;omega,λz hz=>r z ((d2 row hr).2 z hz).1 ((d2 row hr).2 z hz).2⟩⟩;have hp:=(h.k.a.made c hc).pats;rcases ZhI (hm.custs c hc) with ⟨k,a,b,l,r1,r2,r3,r4,r5⟩ | ⟨k,q,s,t,ru,ho,e,dm⟩
 ·exact⟨r _ DB DB,r _ DB DB,hp,by omega,r _ DB DB,r _ DB DB,r _ DB DB,r _ DB DB,r _ DB DB⟩
 ·exact⟨r _ DB DB,r _ DB DB,hp,by rw[e];simp,r _ DB DB,r _ DB DB,r _ DB DB,r _ DB DB,r _ DB DB⟩
theorem ZsE{x:Inst}{n:Nat}{p:zH}(h:PlanG x n p):PlanSz p:=⟨h.serves.sz,λd hd=>by have:=(h.s.ok d hd).2.1;omega⟩
def Zc1(x:Inst)(n:Nat)(l:List Int):Int:=Wb x n (xv l) (yn l 3).toNat
def Z1(x:Inst)(n:Nat)(l:List Int):zH × Int:=Q6 x n (xv l) (yn l 1).toNat (yn l 2)
theorem Zh8:z8 []=(zI,2):=by unfold z8;rw[XM];rfl
abbrev Zad:Wd:=[111,117,116,99,111,109,101,32,109,97,108,102,111,114,109,101,100,10]
theorem ZsF:Pure prog 21 [.agg [I 1,I 0,I 0,I 0,L ([]:List Int),L ([]:zH)]] (T (bs Zad)):=by
 have hl:Pure prog 59 [.lst 2 [T (bs ZhL),T (bs ZhM)]] (T (bs Zad)):=ZqM [ZhL,ZhM] DC DH;refine zx func21 ntmps21 results21 λS nx hd=>?_
 refine DK ?_;intro v0
 repeat apply ze
 refine zg ?_;refine zn (DK ?_);refine zo DC ?_;refine DK ?_;refine zu hl ?_;exact DL hd
theorem ZsG:Pure prog 39 [T (bs []),L ([]:List Int)] (T (bs Zad)):=by
 have h1:=ZcS [] DC [] (by rw[Zh8];decide);rw[Zh8]at h1;have h2:=ZsF;have h3:Pure prog 12 [T (bs []),L ([]:List Int)] (.agg [I 1,I 0,I 0,I 0,L ([]:List Int),L ([]:zH)]):=h1;refine zx func39 ntmps39 results39 λS nx hd=>?_
 refine DK ?_;refine DK ?_;refine zu h3 ?_;refine zu h2 ?_;exact DL hd
theorem ZsH:Pure prog 31 [] (B true):=by
 have hr:Pure prog 39 [T (bs []),.sc (.slice none 0 0)] (T (bs Zad)):=λS=>Zji (.cons Wk.rfl (.cons Wk.nil .nil)) (ZsG S)
 refine zx func31 ntmps31 results31 λS nx hd=>?_
 refine DK ?_;refine DK ?_;refine zu hr ?_;exact DL hd
def wv(l:List Int):List Int:=[xv l,yn l 1 % 9,yn l 2 % 21,yn l 3 % 13]
theorem ZsI(l:List Int):Pure prog 32 [L l] (L (wv l)):=by
 have hs:=ZrU l;unfold wv;generalize xv l=s at *;generalize yn l 1 % 9=a at *;generalize yn l 2 % 21=b at *;generalize yn l 3 % 13=c at *;refine zx func32 ntmps32 results32 λS nx hd=>?_
 refine DK ?_;refine DK ?_;refine zu hs ?_;intro v0;refine DK ?_;exact DL hd
open Go Go.Proofs Hp
theorem Zh9{x:Inst}{n:Nat}(h:InstQ x n)(b:Int)(h0:(jD x b).2=0):PlanG x n (jD x b).1:=by
 have hA:=h.k.a;obtain⟨v,pr,hv,hp,e,hd,hc⟩:=Zp9 hA h0;have hpl:=Zb0 x v b n;refine⟨hA,h.six,by rw[e,hpl],?_⟩;rw[e];intro d hd';obtain⟨r,hr,rfl⟩:=Ar.1 hd';obtain⟨k,hk,rfl⟩:=Ar.1 hr;exact(Zn1 (Zgi hA.h hv k) hA.h.diag b (hd k (AH.1 hk))).2.1
theorem ZsJ{x:Inst}{n:Nat}(h:InstQ x n)(seed:Int)(r:Nat)(b:Int)(h0:(Q6 x n seed r b).2=0):PlanG x n (Q6 x n seed r b).1:=by grind[Q6,ZcM,Zh9]
theorem ZsK{x:Inst}{n:Nat}(h:InstQ x n)(l:List Int):Below21 x l (Zc1 x n l) (Z1 x n l).1 (Z1 x n l).2 (Y6 x (Z1 x n l).1):=by
 have t1:=J3 l 1;have t2:=J3 l 2;have t3:=J3 l 3;have hn1:=h.t.n1;have hA:=h.k.a;obtain⟨-,-,d3,-⟩:=ZcN (X6 h.m).dist;have e1:((yn l 1).toNat:Int)=yn l 1:=DB
 have e3:((yn l 3).toNat:Int)=yn l 3:=DB
 have hc:=ZsC (Zsx h) d3 (xv l) (yn l 3).toNat DB;rw[e3]at hc;have hr:=ZrH hA DB (λb h0=>Zh9 h b h0) (xv l) (yn l 1).toNat DB (yn l 2) DB (yn l 3);rw[e1]at hr;have hm:=ZsJ h (xv l) (yn l 1).toNat (yn l 2);have hf:∀e c:Int,uP e c=0->e=0:=λe c he=>by grind[uP]
 have h6:=h.six;refine⟨hc,hr,λh0=>?_,λh0=>?_,λh0=>?_,λh0=>?_⟩
 ·exact ZoI x (Z1 x n l).1 (ZsD h) (ZsE (hm h0))
 ·exact(hm (hf _ _ h0)).cost
 ·exact ZgH x _ (hm (hf _ _ h0)).serves DB λc hc=>(hA.made c hc).fits
 ·have g1:=hm (hf _ _ h0);exact ZgI x _ g1.serves.sz.n λd hd=>(g1.s.ok d hd).1
open Go Go.Proofs Hp
theorem ZsL(t:List UInt8):Pure prog 29 [T (bs t)] (T (bs (t.take 600))):=by
 have hsz:=j8 t;have hex:=JX t 0 600;rw[C6]at hex
 by_cases h:600<t.length
 ·have h':(600:Int)<(t.length:Int):=DB
  have h6:600<=t.length:=DB
  refine zx func29 ntmps29 results29 λS nx hd=>?_
  (repeat apply ze);refine zg ?_;intros
  repeat apply ze
  refine zi [] (zF hsz h h') ?_;intros
  repeat apply ze
  refine zo DC ?_
  repeat apply ze
  refine zi [] (zF hsz hex h6) ?_;intros
  repeat apply ze
  exact DL hd
 ·have h':¬(600:Int)<(t.length:Int):=DB
  have ht:t.take 600=t:=Ae DB;rw[ht];refine zx func29 ntmps29 results29 λS nx hd=>?_
  (repeat apply ze);refine zg ?_;intros
  repeat apply ze
  refine zi [] (zF hsz h h') ?_;intros
  repeat apply ze
  refine zp DC ?_;refine zk ?_
  (repeat apply ze);refine zg ?_;intros
  repeat apply ze
  exact DL hd
theorem Zia(u:List UInt8):((z8 u).2=0/\yM (z8 u).1=true/\∃ls b,qJ u=some ls/\vU ls=some ((z8 u).1,b))\/(z8 u).2=2\/(z8 u).2=3:=by
 cases hz:qJ u with
 | none=>right;left;unfold z8;rw[hz]
 | some ls =>
  cases hr:vU ls with
  | none=>right;left;unfold z8;rw[hz];simp only[hr]
  | some p =>
   obtain⟨x,ok⟩:=p
   by_cases hm:ok=true/\yM x=true
   ·have e:z8 u=(x,0):=by unfold z8;rw[hz];simp only[hr];rw[if_pos hm]
    left;rw[e];exact⟨rfl,hm.2,ls,ok,rfl,hr⟩
   ·right;right;unfold z8;rw[hz];simp only[hr];rw[if_neg hm]
theorem ZsM{u:List UInt8}(hl:u.length<=1048576)(h0:(z8 u).2=0)(h6:(z8 u).1.cust.length<=6)(h7:(z8 u).1.days<=7):∃n,InstQ (z8 u).1 n:=by
 rcases Zia u with ⟨-,hm,ls,b,hz,hr⟩ | h | h
 ·have hok:=ZcF hr (ZcE hz hl);obtain⟨h1,h2⟩:=(X6 hm).days;refine⟨(z8 u).1.days.toNat,ZrL hm ?_ DB DB h6⟩;intro c hc;exact(hok.cust c hc).pats
 ·rw[h]at h0;cases h0
 ·rw[h]at h0;cases h0
theorem ZsN(t:List UInt8)(l:List Int):Pure prog 5 [T (bs t),L l] (B true):=by
 have hlv:=ZsH;have hNu:=ZsI l;have hf:=ZsL t;obtain⟨u,hu⟩:∃u,u=t.take 600:=⟨_,rfl⟩;have hul:u.length<=1048576:=by rw[hu,As];omega
 rw[<-hu]at hf;clear hu;have hpr:=ZrQ u hul;rcases Zia u with ⟨h0,hm,-⟩ | h2 | h3
 ·rw[h0]at hpr
  by_cases h6:6<(z8 u).1.cust.length
  ·have h6':(6:Int)<((z8 u).1.cust.length:Int):=DB
   generalize (z8 u).1=x at *;refine zx func5 ntmps5 results5 λS nx hd=>?_
   (repeat apply ze);refine zg ?_;intros
   repeat apply ze
   refine zg ?_;refine zu hf ?_;intros
   repeat apply ze
   refine zg ?_;refine zu hpr ?_;intro v0;intros
   repeat apply ze
   refine zi [(2,18),(7,23)] (zF h6 h6' zy) ?_;intros
   repeat apply ze
   refine zo DC ?_
   repeat apply ze
   refine zg ?_;refine zu hlv ?_;intros
   repeat apply ze
   exact DL hd
  by_cases h7:7<(z8 u).1.days
  ·have h6':¬(6:Int)<((z8 u).1.cust.length:Int):=DB
   generalize (z8 u).1=x at *;refine zx func5 ntmps5 results5 λS nx hd=>?_
   (repeat apply ze);refine zg ?_;intros
   repeat apply ze
   refine zg ?_;refine zu hf ?_;intros
   repeat apply ze
   refine zg ?_;refine zu hpr ?_;intro v0;intros
   repeat apply ze
   refine zi [(2,18),(7,23)] (zF h6 h6' h7) ?_;intros
   repeat apply ze
   refine zo DC ?_
   repeat apply ze
   refine zg ?_;refine zu hlv ?_;intros
   repeat apply ze
   exact DL hd
  obtain⟨n,hQ⟩:=ZsM hul h0 DB DB;have hPl:=Zr0 u hul (wv l) (bd:=Zc1 (z8 u).1 n (wv l)) (p:=(Z1 (z8 u).1 n (wv l)).1) (e:=(Z1 (z8 u).1 n (wv l)).2) (c:=Y6 (z8 u).1 (Z1 (z8 u).1 n (wv l)).1) h0 (ZsK hQ (wv l));obtain⟨o,bd,co,ho,ds,p,hr,h34⟩:∃o bd co ho ds p,V4 (z8 u).1 (Zc1 (z8 u).1 n (wv l)) (Z1 (z8 u).1 n (wv l)).1 (Z1 (z8 u).1 n (wv l)).2 (Y6 (z8 u).1 (Z1 (z8 u).1 n (wv l)).1)=⟨o,bd,co,ho,ds,p⟩/\(o=4\/o=3):=by
   unfold V4;split
   ·exact⟨_,_,_,_,_,_,rfl,.inl rfl⟩
   ·exact⟨_,_,_,_,_,_,rfl,.inr rfl⟩
  rw[hr]at hPl;have h6':¬(6:Int)<((z8 u).1.cust.length:Int):=DB
  clear hr hQ;generalize (z8 u).1=x at *;generalize wv l=sl at *;rcases h34 with rfl | rfl
  all_goals
   refine zx func5 ntmps5 results5 λS nx hd=>?_
   (repeat apply ze);refine zg ?_;intros
   repeat apply ze
   refine zg ?_;refine zu hf ?_;intros
   repeat apply ze
   refine zg ?_;refine zu hpr ?_;intro v0;intros
   repeat apply ze
   refine zi [(2,18),(7,23)] (zF h6 h6' h7) ?_;intros
   repeat apply ze
   refine zp DC ?_;refine zk ?_
   repeat apply ze
   refine zg ?_;refine zu hNu ?_;refine zu hPl ?_;intro v1;intros
   (repeat apply ze);refine zg ?_;intros
   repeat apply ze
   refine zo DC ?_
   repeat apply ze
   refine zi [(3,39),(8,44)] zy ?_;refine qP [(3,39),(8,44)] hlv trivial ?_;intros
   repeat apply ze
   exact DL hd
 ·rw[h2]at hpr;have hPl:=ZcS u hul (wv l) (by rw[h2];decide);rw[h2]at hPl;have hfz:V5 2=⟨1,0,0,0,[],[]⟩:=rfl;rw[hfz]at hPl;generalize (z8 u).1=x at *;generalize wv l=sl at *;refine zx func5 ntmps5 results5 λS nx hd=>?_
  (repeat apply ze);refine zg ?_;intros
  repeat apply ze
  refine zg ?_;refine zu hf ?_;intros
  repeat apply ze
  refine zg ?_;refine zu hpr ?_;intro v0;intros
  repeat apply ze
  refine zi [(2,18),(7,23)] zy ?_;intros
  repeat apply ze
  refine zp DC ?_;refine zk ?_
  repeat apply ze
  refine zg ?_;refine zu hNu ?_;refine zu hPl ?_;intro v1;intros
  (repeat apply ze);refine zg ?_;intros
  repeat apply ze
  refine zp DC ?_;refine zk ?_
  (repeat apply ze);refine zg ?_;intros
  (repeat apply ze);refine zg ?_;intros
  repeat apply ze
  refine zp DC ?_;refine zk ?_
  repeat apply ze
  refine zi [(4,53),(9,58),(14,63),(19,68),(25,74),(32,81)] trivial ?_;refine qP [(4,53),(9,58),(14,63),(19,68),(25,74),(32,81)] hlv trivial ?_;intros
  repeat apply ze
  exact DL hd
 ·rw[h3]at hpr;have hPl:=ZcS u hul (wv l) (by rw[h3];decide);rw[h3]at hPl;have hfz:V5 3=⟨2,0,0,0,[],[]⟩:=rfl;rw[hfz]at hPl;generalize (z8 u).1=x at *;generalize wv l=sl at *;refine zx func5 ntmps5 results5 λS nx hd=>?_
  (repeat apply ze);refine zg ?_;intros
  repeat apply ze
  refine zg ?_;refine zu hf ?_;intros
  repeat apply ze
  refine zg ?_;refine zu hpr ?_;intro v0;intros
  repeat apply ze
  refine zi [(2,18),(7,23)] zy ?_;intros
  repeat apply ze
  refine zp DC ?_;refine zk ?_
  repeat apply ze
  refine zg ?_;refine zu hNu ?_;refine zu hPl ?_;intro v1;intros
  (repeat apply ze);refine zg ?_;intros
  repeat apply ze
  refine zp DC ?_;refine zk ?_
  (repeat apply ze);refine zg ?_;intros
  (repeat apply ze);refine zg ?_;intros
  repeat apply ze
  refine zo DC ?_
  (repeat apply ze);refine zg ?_;intros
  repeat apply ze
  refine zi [(4,53),(9,58),(14,63),(19,68),(25,74),(32,81)] trivial ?_;refine qP [(4,53),(9,58),(14,63),(19,68),(25,74),(32,81)] hlv trivial ?_;intros
  repeat apply ze
  exact DL hd
theorem ZsO(b:ByteArray)(l:List Int):Pure prog 5 [T b,L l] (B true):=ZsN b.data.toList l
end Go.Proofs.YtcocagkbfpgmiaaGreatDoor.Pv
