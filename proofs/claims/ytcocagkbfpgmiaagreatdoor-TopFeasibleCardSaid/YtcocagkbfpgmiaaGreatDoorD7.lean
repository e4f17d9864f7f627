/- Part of a proof, packed. -/
import Derived.Test.YtcocagkbfpgmiaaGreatDoorD6
open Go.Proofs.Tryz
set_option maxRecDepth 100000
set_option maxHeartbeats 3200000
namespace Go.Proofs.YtcocagkbfpgmiaaGreatDoor.Pv
open Go Go.Proofs Hp
def yo(l:List Int)(i:Nat):Int:=if 1000<l.getD i 0 then 1000 else if l.getD i 0<0 then 0 else l.getD i 0
theorem XG(l:List Int)(i:Nat):0<=yo l i/\yo l i<=1000:=by unfold yo;split;omega;split<;>omega
theorem ZdJ(l:List Int)(i:Nat)(hi:i<=100):Pure prog 118 [L l,I i] (I (yo l i)):=by
 refine zr func118 ntmps118 results118 λS nx hd=>?_
 refine D0 ?_
 by_cases h1:i<l.length
 ·obtain⟨z,tl,a1,a2,a3,e0⟩:=zE rfl l i h1;have hz:l.getD i 0=z:=by rw[Aa,a1];rfl
  have hz1:1<=l.length-i:=DQ
  have h1':¬l.length<=i:=DQ
  unfold yo;rw[hz]
  by_cases h2:z<0
  ·rw[if_neg DQ,if_pos h2]
   repeat apply za
   refine ze [(4,9)] (yv e0 h1 h1' hz1 h2) ?_;refine zk rfl (D0 ?_);exact zg (zi hd rfl rfl)
  ·by_cases h3:1000<z
   ·rw[if_pos h3]
    repeat apply za
    refine ze [(4,9)] (yv e0 h1 h1' hz1 h2) ?_;refine zm rfl (zh ?_)
    repeat apply za
    refine ze [] (zA e0 h1 hz1) ?_;refine zk (by simp[h3]) ?_;refine D0 ?_;exact zg (zi hd rfl rfl)
   ·rw[if_neg h3,if_neg h2]
    repeat apply za
    refine ze [(4,9)] (yv e0 h1 h1' hz1 h2) ?_;refine zm rfl (zh ?_)
    repeat apply za
    refine ze [] (zA e0 h1 hz1) ?_;refine zm DV ?_;refine zh (za (ze [] (zA e0 h1 hz1) ?_));exact zg (zi hd rfl rfl)
 ·have hz:l.getD i 0=0:=by rw[Aa,Ak DQ];rfl
  unfold yo;rw[hz,if_neg DX,if_neg DX];have h1':l.length<=i:=DQ
  repeat apply za
  refine ze [(4,9)] (zo h1' zB) ?_;refine zk rfl (D0 ?_);exact zg (zi hd rfl rfl)
def xC(l:List Int):Int:=l.getD 0 0
theorem ZtY(l:List Int):Pure prog 76 [L l] (.agg (Jy (xC l) (yo l 1) (yo l 2) (yo l 3))):=by
 have t1:=ZdJ l 1 DQ;have t2:=ZdJ l 2 DQ;have t3:=ZdJ l 3 DQ;generalize yo l 1=r at *;generalize yo l 2=b at *;generalize yo l 3=c at *;refine zr func76 ntmps76 results76 λS nx hd=>?_
 refine D0 ?_;intro v0;refine D0 ?_;refine zt t1 ?_;refine zt t2 ?_;refine zt t3 ?_;intro v1
 by_cases h:0<l.length
 ·obtain⟨z,tl,a1,a2,a3,e0⟩:=zE rfl l 0 h;have hz:xC l=z:=by unfold xC;rw[Aa,a1];rfl
  have hz1:1<=l.length:=h;rw[DH]at e0;rw[hz]
  repeat apply za
  refine zb ?_;refine zk (by simp[h]) ?_;refine ze [] (zA e0 h hz1) ?_;refine D0 ?_;exact D1 hd
 ·have hz:xC l=0:=by unfold xC;rw[Aa,Ak DQ];rfl
  rw[hz];have hl:l=[]:=Cn.1 DQ;subst hl
  repeat apply za
  refine zb ?_;refine zm DR ?_;refine zh (D0 ?_);exact D1 hd
theorem ZtZ(l:List Int):Pure prog 33 [L l] (.agg (Jy (xC l) (yo l 1 % 9) (yo l 2 % 21) (yo l 3 % 13))):=by
 have hr:=ZtY l;have b1:=XG l 1;have b2:=XG l 2;have b3:=XG l 3;have w1:(yo l 1).tmod 9=yo l 1 % 9:=Bd DQ;have w2:(yo l 2).tmod 21=yo l 2 % 21:=Bd DQ;have w3:(yo l 3).tmod 13=yo l 3 % 13:=Bd DQ;generalize yo l 1=r at *;generalize yo l 2=b at *;generalize yo l 3=c at *;generalize xC l=s at *;refine zr func33 ntmps33 results33 λS nx hd=>?_
 refine D0 ?_;intro v0;refine D0 ?_;refine zt hr ?_;intro v1;refine za (ze [] w1 ?_);refine za (ze [] w2 ?_);refine za (ze [] w3 ?_);refine D0 ?_;exact D1 hd
open Go Go.Proofs Hp
def ZaN(id ver b:Nat):Rd:=⟨none,λC S w=>Rel C S w (.ptr id ver 0) (.pointer (some ⟨b,0,none⟩)),λst h=>Rel.mono st h⟩
theorem Zt0{P:Program}{n N:Nat}{c:Code}{Q:Exit->(Nat->PV)->Store->Prop}{F:Nat->PV}{S:Store}{x id ver e:Nat}{cs:List PV}(hF:F x=.ptr id ver 0)(hs:S id=.cells ver e cs)
  (h:∀b,PW P (ZaN id ver b) n N c Q F S):PW P wv n N c Q F S:=by
 intro C w a st;have e1:=st.fr x;rw[hF]at e1;generalize hv:a.tmps.getD x undef=v at e1;cases e1 with
 | ptr h1 h2 h3 =>
  obtain⟨b,k,hl,rfl⟩:=(h3 ver (by rw[hs];rfl)).2 rfl;have:=h b C w a ⟨st.sim,st.size,st.fr,.ptr h1 h2 h3⟩;exact wpIn_mono this λe a' w' ⟨F',S',C',q1,q2,q3,q4⟩=>⟨F',S',C',q1,⟨q2.sim,q2.size,q2.fr,trivial⟩,q3,q4⟩
theorem Zt1{P:Program}{n:Nat}{F:Nat->PV}{S:Store}{o:Oper}{t e m id ver b et:Nat}{x:Operand}{cs:List PV}{K:PV->Store->Prop}(ho:o.op=.slice t x none none none)(ht:P.underlying t=some (.array m e))(hc:P.cellsOf e≠0)(hx:ev F x=.ptr id ver 0)(hs:S id=.cells ver et cs)
  (hK:K (.sc (.slice (some ⟨b,0,none⟩) m m)) S):PO P (ZaN id ver b) n o F S K:=by
 intro G hG C w a N st next Q' hnext;have e1:=st.ev x;rw[(hG x (by simp[ho,Op.operands])).trans hx]at e1;have e2:Rel C S w (.ptr id ver 0) (.pointer (some ⟨b,0,none⟩)):=st.v;have hnd:∀c,o.op≠.defer c:=by intro c hc;rw[ho]at hc;cases hc
 generalize hv:a.eval x=v at e1;cases e1 with
 | ptr h1 h2 h3 =>
  obtain⟨b1,k1,hl,rfl⟩:=(h3 ver (by rw[hs];rfl)).2 rfl;cases e2 with
  | ptr i1 i2 i3 =>
   obtain⟨b2,k2,hl2,hb⟩:=(i3 ver (by rw[hs];rfl)).2 rfl;rw[hl]at hl2;cases hl2;cases hb;have hrun:(execOp a.eval o).run P w=.ok (.value (.slice (some ⟨b,0,none⟩) m m)) w:=by
    unfold execOp;simp[ho,hv,Instr.sliceAt,run_underlying ht,Instr.sureAddr,Instr.sliceBounds,vw hc];intro _;rfl
   exact qh hnd hrun (hnext _ _ _ _ _ hK (.sc _) st.sim (Step.refl _ _ _))
theorem WS{P:Program}{o:Oper}{s x:Operand}{t:TypeId}{a:Act}{w w':World}{v:Value}(ho:o.op=.call { callee:=.builtin .copy,args:=#[s,x],argTypes:=#[t,t] })
  (h:(Builtin.copy_ #[t,t] o.type #[a.eval s,a.eval x]).run P w=.ok v w'):(execOp a.eval o).run P w=.ok (.value v) w':=by
 unfold execOp
 grind[resolve,invoke,builtin,Sem.run_bind,Sem.run_pure,Result.andThen_ok]
theorem Zt2{P:Program}{n:Nat}{F:Nat->PV}{S:Store}{o:Oper}{s x:Operand}{t e b m id ver et:Nat}{cs l:List PV}{K:PV->Store->Prop}(ho:o.op=.call { callee:=.builtin .copy,args:=#[s,x],argTypes:=#[t,t] })(ht:P.underlying t=some (.slice e))(hz:(P.info? e).map (·.size)=some 1)
  (hs:ev F s=.sc (.slice (some ⟨b,0,none⟩) m m)) (hx:ev F x=.lst l.length l) (hid:S id=.cells ver et cs) (hm:cs.length=m)
  (hK:K (I (min l.length m:Nat)) (S.set id (.cells ver et (l.take m++cs.drop (min l.length m))))):PO P (ZaN id ver b) n o F S K:=by
 intro G hG C w a N st next Q' hnext;have e1:=st.ev s;rw[(hG s (by grind[Op.operands,Call.operands])).trans hs]at e1;have e2:=st.ev x;rw[(hG x (by grind[Op.operands,Call.operands])).trans hx]at e2;have e3:Rel C S w (.ptr id ver 0) (.pointer (some ⟨b,0,none⟩)):=st.v;have hnd:∀c,o.op≠.defer c:=by intro c hc;rw[ho]at hc;cases hc
 generalize hv:a.eval s=v at e1;cases e1;generalize hu:a.eval x=u at e2;cases e3 with
 | ptr i1 i2 i3 =>
  obtain⟨b2,k,hl,hb⟩:=(i3 ver (by rw[hid];rfl)).2 rfl;cases hb;rcases st.sim.cells id ver et cs hid with ⟨hn,_⟩ | ⟨b',k',c,g1,g2,g3,g4,g5,g6⟩
  ·rw[hn]at hl;cases hl
  rw[hl]at g1;cases g1;have main:∀(vs:List Value) (a':Addr) (cap:Nat),u=.slice (some a') l.length cap->vs.length=min l.length m->(∀j v,vs[j]?=some v->w.cell? (a'.add j)=some v)->(∀v∈vs,v.oneCell'=true)->(∀(i:Nat) (p:PV) (v:Value),(l.take m)[i]?=some p->vs[i]?=some v->Rel C S w p v)->o.wpIn (Fe (ZaN id ver b)) n P a w next Q':=by
   intro vs a' cap hu' hvl hcell hone hrel;have hrun0:=run_copy_row P w t t o.type e b 0 m m a' l.length cap c et vs ht hz g2 (by rw[hvl]) hcell DQ hone;have hrun:=WS (P:=P) (a:=a) (w:=w) ho (by rw[hv,hu,hu'];exact hrun0);simp only[CN,AN,AR]at hrun;generalize hw':w.setRow b (vs++c.toList.drop vs.length).toArray=w' at hrun;have hheap:w'.heap[b]?=some (.cells (vs++c.toList.drop vs.length).toArray et (0,0)):=by rw[<-hw'];exact setRow_heap w b c _ et _ g2
   have hgr:w.grownBy w' (some b)/\w.drawn<=w'.drawn:=by
    rw[<-hw'];exact⟨⟨rfl,rfl,rfl,by simp,λj hj hne=>setRow_other w b j _ (λe=>hne (by rw[e]))⟩,Ag _⟩
   have hsize:(vs++c.toList.drop vs.length).toArray.size=k:=DV
   have htl:(l.take m).length=vs.length:=by rw[Aw,hvl];omega
   obtain⟨t1,t2⟩:=st.sim.turn (l:=C.loc id) (ver':=ver) (cs':=l.take m++cs.drop (min l.length m)) hid (Ag _) (λ_=>rfl) (by rw[hl];exact hgr)
    (.inr ⟨b,k,_,hl,.inr (by rw[hl];rfl),hheap,hsize,by rw[List.length_append,Bq,htl];omega,λi z hi hz=>by
      rw[AC]at hz
      by_cases q1:i<vs.length
      ·rw[Ap q1]at hz;exact hone z (Ab hz)
      ·rw[Am DQ,AP]at hz;rw[List.length_append,Bq,htl]at hi;have e9:vs.length+(i-vs.length)=i:=DQ
       rw[e9]at hz;exact g5 i z DQ (by rw[<-Array.getElem?_toList];exact hz),
     λi p z hp hz=>by
      rw[AC]at hz
      by_cases q1:i<vs.length
      ·rw[Ap q1]at hz;rw[Ap DQ]at hp;exact hrel i p z hp hz
      ·rw[Am DQ,AP]at hz;rw[Am DQ,AP,htl,<-hvl]at hp;have e9:vs.length+(i-vs.length)=i:=DQ
       rw[e9]at hz hp;exact g6 i p z hp (by rw[<-Array.getElem?_toList];exact hz)⟩)
   have hres:goInt vs.length=Value.int .i64 ((min l.length m:Nat):Int):=by rw[hvl];rfl
   exact qh hnd hrun (hnext _ _ _ _ _ hK (by rw[hres];exact .sc _) t1 t2)
  generalize hk:l.length=kk at e2;cases e2 with
  | lst0 =>
   rename_i cap a';have hrun0:(Builtin.copy_ #[t,t] o.type #[a.eval s,a.eval x]).run P w=.ok (goInt 0) w:=by
    rw[hv,hu];cases hq:P.info? e with
    | none=>simp[hq]at hz
    | some i =>
     cases a'<;>simp[Builtin.copy_,run_underlying ht,Builtin.lenOf,Builtin.firstCells,sizeOf,typeInfo,hq,storeCells,loadCells,loadCellsFrom]
   have hrun:=WS (P:=P) (a:=a) (w:=w) ho hrun0;have eS:S.set id (.cells ver et cs)=S:=by
    funext i
    by_cases hi:i=id
    ·grind[q11]
    ·grind[q10]
   simp only[Ah,Nat.zero_min,Dl,DH,AN,eS]at hK;exact qh hnd hrun (hnext _ _ _ _ _ hK (.sc _) st.sim (Step.refl _ _ _))
  | lst1 hn hmx hb hM hs1 h1 h2 =>
   rename_i cap b' o' c' e' fz;subst hk;have hadd:∀j,(⟨b',o',none⟩:Addr).add j=⟨b',o'+j,none⟩:=by intro j;unfold Addr.add;split<;>simp_all
   have hat:∀(j:Nat) (v:Value),((c'.toList.drop o').take (min l.length m))[j]?=some v->j<min l.length m/\c'[o'+j]?=some v:=λj v hj=>by
    rw[BG]at hj;split at hj
    ·rename_i hlt;rw[AP,Array.getElem?_toList]at hj;exact⟨hlt,hj⟩
    ·cases hj
   refine main ((c'.toList.drop o').take (min l.length m)) ⟨b',o',none⟩ cap rfl ?_ ?_ ?_ ?_
   ·rw[Aw,Bq];have e9:c'.toList.length=c'.size:=Array.length_toList
    by_cases hl0:l=[]
    ·subst hl0;simp
    ·have:=hs1 hl0;omega
   ·intro j v hj;obtain⟨q1,q2⟩:=hat j v hj;rw[hadd];simp[World.cell?,hb,q2]
   ·intro v hv';obtain⟨j,hj⟩:=B7 hv';obtain⟨q1,q2⟩:=hat j v hj;exact h1 j v DQ q2
   ·intro i p v hp hvi;obtain⟨q1,q2⟩:=hat i v hvi;rw[AM DQ]at hp;exact h2 i p v hp q2
open Go Go.Proofs Hp
theorem Zt3(l:List Int)(i:Nat):min (max (l.getD i 0) 0) 1000=yo l i:=by
 unfold yo;split
 ·omega
 ·split<;>omega
theorem Zt4(l:List Int):(l.flatMap Enc.enc:List PV).take 4++[I 0,I 0,I 0,I 0].drop (min (l.flatMap Enc.enc:List PV).length 4)=[I (l.getD 0 0),I (l.getD 1 0),I (l.getD 2 0),I (l.getD 3 0)]:=by
 match l with
 | []=>rfl
 | [a]=>simp
 | [a,b]=>simp
 | [a,b,c]=>simp
 | a :: b :: c :: d :: r =>
  have:min (((a :: b :: c :: d :: r).flatMap Enc.enc:List PV).length) 4=4:=by rw[xl];simp[Enc.sz]
  rw[this];simp
theorem Zi7(l:List Int):Pure prog 47 [L l] (.agg (Jy (xC l) (yo l 1) (yo l 2) (yo l 3))):=by
 have c1:=Xj (l.getD 1 0) 0 1000;have c2:=Xj (l.getD 2 0) 0 1000;have c3:=Xj (l.getD 3 0) 0 1000;rw[Zt3]at c1 c2 c3;have ha:=Zt4 l;have hL:L l=.lst (l.flatMap Enc.enc:List PV).length (l.flatMap Enc.enc):=by
  show PV.lst l.length _=_
  congr 1;rw[xl];simp[Enc.sz]
 have hsd:xC l=l.getD 0 0:=rfl;rw[hsd,hL];generalize l.getD 0 0=z0 at *;generalize l.getD 1 0=z1 at *;generalize l.getD 2 0=z2 at *;generalize l.getD 3 0=z3 at *;generalize yo l 1=t1 at *;generalize yo l 2=t2 at *;generalize yo l 3=t3 at *;generalize (l.flatMap Enc.enc:List PV)=cs at *;refine zr func47 ntmps47 results47 λS nx hd=>?_
 refine D0 ?_;intro v0;refine D0 ?_;intro v1;refine Zt0 (x:=3) (id:=nx+1) (ver:=v1) rfl (by rw[yb];rfl) λb=>?_
 refine D0 ?_;refine λhsuf=>Zt1 rfl underlying147 DR rfl (by rw[yb];rfl) ?_
 refine⟨_,_,rfl,zN hsuf ?_⟩;refine λhsuf=>Zt2 (id:=nx+1) (ver:=v1) rfl underlying26 DU rfl rfl (by rw[yb];rfl) rfl ?_
 rw[ha];refine⟨_,_,yk _ DQ DR,zN hsuf ?_⟩
 try simp only[AH,AU,A5]
 repeat apply za
 refine zb ?_;refine zj (zC (λk:Nat=>1<=k/\k<=4) (λk=>[(2,.ptr nx v0 0),(3,.ptr (nx+1) v1 0),(4,I k)]) (λk=>[.cells v0 65 [I 0,I 0,I 0,I 0],.cells v1 147 [I z0,I (if 1<k then t1 else z1),I (if 2<k then t2 else z2),I (if 3<k then t3 else z3)]]) (λk=>4-k) 1 [] DR DR DR ?_);rintro k ⟨hk1,hk⟩
 repeat apply za
 refine zb ?_;refine zv rfl (λhc=>?_) (λhc=>?_)
 ·simp at hc;refine zh (za (zj ?_));obtain rfl | rfl | rfl:k=1\/k=2\/k=3:=DQ
  ·repeat apply za
   refine zb ?_;refine zt c1 ?_;refine zb ?_;exact zq 2 [] DQ DQ (by simp;exact wr 2 (by omega) (by omega)) rfl DR
  ·repeat apply za
   refine zb ?_;refine zt c2 ?_;refine zb ?_;exact zq 3 [] DQ DQ (by simp;exact wr 3 (by omega) (by omega)) rfl DR
  ·repeat apply za
   refine zb ?_;refine zt c3 ?_;refine zb ?_;exact zq 4 [] DQ DQ (by simp;exact wr 4 (by omega) (by omega)) rfl DR
 ·simp at hc;obtain rfl:k=4:=DQ
  refine zx (D0 ?_);exact D1 hd
open Go Go.Proofs Hp
def ZaO(x:Inst)(bd:Int)(p:zF)(e c:Int):Rep:=if uT e c=0 then ⟨4,bd,xW x p,W (wL x p x.cust.length),xV x p,p⟩ else ⟨3,bd,0,0,[],[]⟩
def Zi8(e:Int):Rep:=⟨if e=2 then 1 else 2,0,0,0,[],[]⟩
structure Below21 (x:Inst) (l:List Int) (bd:Int) (p:zF) (e c:Int):Prop where
 climb:∃a b,Pure prog 34 [.agg (zy x),I (xC l),I (yo l 3)] (.tup [.agg [a,b],I bd])
 run:Pure prog 35 [.agg (zy x),.agg [I (xC l),I (yo l 1),I (yo l 2),I (yo l 3)]] (.tup [.agg [L p],I e])
 chk:e=0->Pure prog 67 [.agg (zy x),.agg [L p]] (I c)
 cost:uT e c=0->Pure prog 68 [.agg (zy x),.agg [L p]] (I (xW x p))
 hold:uT e c=0->Pure prog 69 [.agg (zy x),.agg [L p]] (I (W (wL x p x.cust.length)))
 days:uT e c=0->Pure prog 71 [.agg (zy x),.agg [L p]] (L (xV x p))
theorem Zt5(u:List UInt8)(hl:u.length<=1048576)(l:List Int)(hz:(qw u).2≠0):Pure prog 12 [T (bs u),L l] (.agg (ZdA (Zi8 (qw u).2))):=by
 have hrd:=Zi7 l;have hpa:=λ(S:Store) (id v:Nat) (s0 s1 s2 s3 x0 x1 x2 x3 x4 x5 r0 r1 r2 r3 r4 r5:PV) hS=>ZiS (S:=S) (id:=id) (v:=v) (s0:=s0) (s1:=s1) (s2:=s2) (s3:=s3) (x0:=x0) (x1:=x1) (x2:=x2) (x3:=x3) (x4:=x4) (x5:=x5) (r0:=r0) (r1:=r1) (r2:=r2) (r3:=r3) (r4:=r4) (r5:=r5) u hl hS
 simp only[if_neg hz]at hpa;have hres:Zi8 (qw u).2=⟨if (qw u).2=2 then 1 else 2,0,0,0,[],[]⟩:=rfl;rw[hres];generalize (if (qw u).2=2 then (1:Int) else 2)=o at *;generalize (qw u).2=e at *;generalize xC l=s0 at *;generalize yo l 1=s1 at *;generalize yo l 2=s2 at *;generalize yo l 3=s3 at *;refine zr func12 ntmps12 results12 λS nx hd=>?_
 refine D0 ?_;intro v0;refine D0 ?_;refine zt hrd ?_;intro v1
 repeat apply za
 refine zb ?_;refine zj (zC (λk:Nat=>k=0) (λ_=>[(4,.ptr nx v0 0),(5,.ptr (nx+1) v1 0),(21,.lst 4 [.fn (.func 48) [.ptr (nx+1) v1 0] [],.fn (.func 49) [.ptr (nx+1) v1 0] [],.fn (.func 50) [.ptr (nx+1) v1 0] [],.fn (.func 51) [.ptr (nx+1) v1 0] []]),(22,I 4),(23,I 0)])
  (λ_=>[.cells v0 32 [I 0,I 0,I 0,I 0,vr,vr],.cells v1 92 [T (bs u),I s0,I s1,I s2,I s3,I 0,I 0,I 0,I 0,vr,vr,I 0,I 0,I 0,I 0,vr,vr]]) (λs=>s) 0 [] rfl (by simp[y8]) DR ?_)
 rintro k rfl;refine D0 ?_;refine za (zk DR ?_);refine zh (za (zj (D0 ?_)));refine D0 ?_;refine λhsuf=>((hpa _ _ _ _ _ _ _ _ _ _ _ _ _ _ _ _ _ _ _ (by rw[yb];rfl)).mono ?_).v
 rintro _ _ ⟨rfl,rfl⟩;refine⟨_,_,yk _ DQ DR,zN hsuf ?_⟩;refine zk (by simp[hz]) ?_;refine zx (D0 ?_);refine qu 0 4 rfl rfl ?_;refine qu 0 5 rfl rfl ?_;exact zg (zi hd DT (by simp[zn]))
theorem Zt6(u:List UInt8)(hl:u.length<=1048576)(l:List Int){bd:Int}{p:zF}{e c:Int}(hz:(qw u).2=0)(hB:Below21 (qw u).1 l bd p e c):Pure prog 12 [T (bs u),L l] (.agg (ZdA (ZaO (qw u).1 bd p e c))):=by
 have hrd:=Zi7 l;have hpa:=λ(S:Store) (id v:Nat) (s0 s1 s2 s3 x0 x1 x2 x3 x4 x5 r0 r1 r2 r3 r4 r5:PV) hS=>ZiS (S:=S) (id:=id) (v:=v) (s0:=s0) (s1:=s1) (s2:=s2) (s3:=s3) (x0:=x0) (x1:=x1) (x2:=x2) (x3:=x3) (x4:=x4) (x5:=x5) (r0:=r0) (r1:=r1) (r2:=r2) (r3:=r3) (r4:=r4) (r5:=r5) u hl hS
 simp only[if_pos hz]at hpa;obtain⟨⟨a,b,b1⟩,b2,b3,b4,b5,b6⟩:=hB;have hfz:ZaO (qw u).1 bd p e c=if uT e c=0 then ⟨4,bd,xW (qw u).1 p,W (wL (qw u).1 p (qw u).1.cust.length),xV (qw u).1 p,p⟩ else ⟨3,bd,0,0,[],[]⟩:=rfl
 rw[hfz];generalize (qw u).2=e0 at *;generalize (qw u).1=y at *;subst hz;generalize xW y p=co at *;generalize W (wL y p y.cust.length)=ho at *;generalize xV y p=ds at *;generalize xC l=s0 at *;generalize yo l 1=s1 at *;generalize yo l 2=s2 at *;generalize yo l 3=s3 at *;refine zr func12 ntmps12 results12 λS nx hd=>?_
 refine D0 ?_;intro v0;refine D0 ?_;refine zt hrd ?_;intro v1
 repeat apply za
 refine zb ?_;refine zj (zC (λk:Nat=>k<=4/\(3<=k->uT e c=0)) (λk=>[(4,.ptr nx v0 0),(5,.ptr (nx+1) v1 0),(21,.lst 4 [.fn (.func 48) [.ptr (nx+1) v1 0] [],.fn (.func 49) [.ptr (nx+1) v1 0] [],.fn (.func 50) [.ptr (nx+1) v1 0] [],.fn (.func 51) [.ptr (nx+1) v1 0] []]),(22,I 4),(23,I k)])
  (λk=>[.cells v0 32 [I 0,I 0,I 0,I 0,vr,vr],.cells v1 92 [T (bs u),I s0,I s1,I s2,I s3,if k=0 then I 0 else I y.days,if k=0 then I 0 else I y.veh,if k=0 then I 0 else I y.cap,if k=0 then I 0 else I y.len,if k=0 then vr else L y.cust,if k=0 then vr else L y.dist,
   if k<=1 then I 0 else if k=2 then I 3 else I 4,if k<=1 then I 0 else I bd,if k<=3 then I 0 else I co,if k<=3 then I 0 else I ho,if k<=3 then vr else L ds,if k<=2 then vr else L p]]) (λs=>4-s) 0 [] DR (by simp[y8]) DR ?_)
 rintro k ⟨hk,hk3⟩;refine D0 ?_;refine za (zv rfl (λhc=>?_) (λhc=>?_))
 ·simp at hc;refine zh (za (zj ?_));obtain rfl | rfl | rfl | rfl:k=0\/k=1\/k=2\/k=3:=DQ
  ·refine D0 ?_;refine D0 ?_;refine λhsuf=>((hpa _ _ _ _ _ _ _ _ _ _ _ _ _ _ _ _ _ _ _ (by rw[yb];rfl)).mono ?_).v
   rintro _ _ ⟨rfl,rfl⟩;refine⟨_,_,yk _ DQ DR,zN hsuf ?_⟩;refine zm DR ?_;refine zh (zb ?_);exact zq 1 [] DR DQ (by simp;exact wr 1 (by omega) (by omega)) rfl DR
  ·refine D0 ?_;refine D0 ?_;refine λhsuf=>((Ztx b1 (by rw[yb];rfl)).mono ?_).v
   rintro _ _ ⟨rfl,rfl⟩;refine⟨_,_,yk _ DQ DR,zN hsuf ?_⟩;refine zm DR ?_;refine zh (zb ?_);exact zq 2 [] DR DQ (by simp;exact wr 2 (by omega) (by omega)) rfl DR
  ·by_cases hf:uT e c=0
   ·refine D0 ?_;refine D0 ?_;refine λhsuf=>((ZiT b2 b3 (by rw[yb];rfl)).mono ?_).v
    rintro _ _ ⟨rfl,rfl⟩;simp only[hf,if_true];refine⟨_,_,yk _ DQ DR,zN hsuf ?_⟩;refine zm DR ?_;refine zh (zb ?_);exact zq 3 [] ⟨by omega,λ_=>by first | exact hf | trivial⟩ DQ (by simp;exact wr 3 (by omega) (by omega)) rfl DR
   ·rw[if_neg hf];refine D0 ?_;refine D0 ?_;refine λhsuf=>((ZiT b2 b3 (by rw[yb];rfl)).mono ?_).v
    rintro _ _ ⟨rfl,rfl⟩;simp only[if_neg hf];refine⟨_,_,yk _ DQ DR,zN hsuf ?_⟩;refine zk (by simp[hf]) ?_;refine zx (D0 ?_);refine qu 0 4 rfl rfl ?_;refine qu 0 5 rfl rfl ?_;exact zg (zi hd DT (by simp[zn]))
  ·have hf:=hk3 DQ;refine D0 ?_;refine D0 ?_;refine λhsuf=>((Zty (b4 hf) (b5 hf) (b6 hf) (by rw[yb];rfl)).mono ?_).v
   rintro _ _ ⟨rfl,rfl⟩;refine⟨_,_,yk _ DQ DR,zN hsuf ?_⟩;refine zm DR ?_;refine zh (zb ?_);exact zq 4 [] ⟨by omega,λ_=>hf⟩ DQ (by simp;exact wr 4 (by omega) (by omega)) rfl DR
 ·simp at hc;obtain rfl:k=4:=DQ
  rw[if_pos (hk3 DQ)];refine zx (D0 ?_);exact zg (zi hd DT (by simp[zn]))
open Go Go.Proofs
def XH(a b:Int):Int:=if a.tmod b≠0/\¬a<0 then W (W (a.tdiv b)+1) else W (a.tdiv b)
def JA(c:Cust)(n:Int):Int:=jk (W (W (c.rate*n)-c.start)) 0
theorem Zi9(c:Cust)(n:Int):Pure prog 205 [.agg (zV c),I n] (I (JA c n)):=by
 refine zr func205 ntmps205 results205 λS nx hd=>?_
 refine D0 ?_;intro v0;refine D0 ?_;exact zg (zi hd DT (by simp[zn,JA]))
def JB(c:Cust):Nat->Int × Int
 | 0=>(0,c.start)
 | k+1=>(W ((JB c k).1+jk (W ((JB c k).2-c.rate)) 0),W ((JB c k).2-c.rate))
def ZaP(c:Cust)(n:Nat):Int:=W (c.hold*(JB c n).1)
theorem Zt7(c:Cust)(n:Nat)(hn:n<=1000):Pure prog 210 [.agg (zV c),I n] (I (ZaP c n)):=by
 refine zr func210 ntmps210 results210 λS nx hd=>?_
 refine D0 ?_;intro v0;refine za (zz (some [nx]) (Row.pures [0,1,2,3] .done) mixed trivial ?_)
 repeat apply za
 refine zb ?_;refine zj (zC (λs:Nat × Int × Int=>s.1<=n/\s.2=JB c s.1) (λ(k,a,b)=>[(1,I n),(2,.ptr nx v0 0),(5,I a),(6,I b),(9,I n),(10,I k)]) (λ_=>[.cells v0 87 (zV c)]) (λs=>n-s.1) (0,0,c.start) [] ⟨by simp,rfl⟩ DR DR ?_);rintro⟨k,a,b⟩ ⟨hk,hs⟩;simp only at hk hs ⊢;have ha:a=(JB c k).1:=congrArg Prod.fst hs;have hb:b=(JB c k).2:=congrArg Prod.snd hs;refine D0 ?_;refine za (zv rfl (λhc=>?_) (λhc=>?_))
 ·simp at hc;refine zh (za (zj (D0 ?_)));refine zb ?_;refine zb ?_;exact zq (k+1,W (a+jk (W (b-c.rate)) 0),W (b-c.rate)) [] ⟨hc,by rw[ha,hb];rfl⟩ DV (by simp[zu k (by omega)]) rfl DR
 ·simp at hc;obtain rfl:k=n:=DQ
  refine zx (D0 ?_);exact zg (zi hd DT (by simp[zn,ZaP,ha]))
theorem Zja(a b:Int)(hb:0<b):Pure prog 165 [I a,I b] (.tup [I (XH a b),B true]):=by
 have h0:¬b=0:=DQ
 have h1:¬b=-1:=DQ
 have h2:¬b<0:=DQ
 have e1:XH a b=if a.tmod b≠0/\¬a<0 then W (W (a.tdiv b)+1) else W (a.tdiv b):=rfl
 rw[e1];refine zr func165 ntmps165 results165 λS nx hd=>?_
 refine D0 ?_;obtain⟨q,hm⟩:∃q:Prop,(a=-9223372036854775808)=q:=⟨_,rfl⟩
 by_cases hq:q
 all_goals
  repeat apply za
  refine ze [(2,9),(5,12)] (yv h0 h1 hm hq zB) ?_;refine zm DR ?_;refine zh (za (ze [] h0 ?_))
  by_cases h3:a.tmod b=0
  ·rw[if_neg (by simp[h3])]
   repeat apply za
   refine ze [(4,24)] (zA h0 h3 zB) ?_;refine zm DR ?_;refine zh (D0 ?_);exact D1 hd
  ·by_cases h4:a<0
   ·rw[if_neg (by simp[h4])]
    repeat apply za
    refine ze [(4,24)] (zJ h0 h3 h4 h2) ?_;refine zm DR ?_;refine zh (D0 ?_);exact D1 hd
   ·rw[if_pos ⟨h3,h4⟩]
    repeat apply za
    refine ze [(4,24)] (zJ h0 h3 h4 h2) ?_;refine zk DR ?_;refine zb ?_;refine D0 ?_;exact D1 hd
def YU(a b:Int):Int × Bool:=if a=0\/b=0 then (0,true) else if ¬W ((W (a*b)).tdiv b)=a\/(a=-9223372036854775808/\b=-1) then (0,false) else (W (a*b),true)
theorem Zt8(a b:Int):Pure prog 121 [I a,I b] (.tup [I (YU a b).1,B (YU a b).2]):=by
 unfold YU
 by_cases h0:a=0
 ·rw[if_pos (.inl h0)];refine zr func121 ntmps121 results121 λS nx hd=>?_
  refine D0 ?_
  repeat apply za
  refine ze [(2,9)] (zo h0 zB) ?_;refine zk DR ?_;refine D0 ?_;exact D1 hd
 by_cases h1:b=0
 ·rw[if_pos (.inr h1)];refine zr func121 ntmps121 results121 λS nx hd=>?_
  refine D0 ?_
  repeat apply za
  refine ze [(2,9)] (zo h0 h1) ?_;refine zk DR ?_;refine D0 ?_;exact D1 hd
 rw[if_neg (by simp[h0,h1])]
 by_cases h2:W ((W (a*b)).tdiv b)=a
 ·by_cases h3:a=-9223372036854775808
  ·by_cases h4:b=-1
   ·rw[if_pos (.inr ⟨h3,h4⟩)];refine zr func121 ntmps121 results121 λS nx hd=>?_
    refine D0 ?_
    repeat apply za
    refine ze [(2,9)] (zo h0 h1) ?_;refine zm DR ?_;refine zh (D0 ?_)
    repeat apply za
    refine ze [(5,21),(8,24)] (zJ h1 h2 (eq_true h3) (eq_true h4)) ?_;refine zk DR ?_;refine D0 ?_;exact D1 hd
   ·rw[if_neg (by simp[h2,h4])];refine zr func121 ntmps121 results121 λS nx hd=>?_
    refine D0 ?_
    repeat apply za
    refine ze [(2,9)] (zo h0 h1) ?_;refine zm DR ?_;refine zh (D0 ?_)
    repeat apply za
    refine ze [(5,21),(8,24)] (zJ h1 h2 (eq_true h3) h4) ?_;refine zm DR ?_;refine zh (D0 ?_);exact D1 hd
  ·rw[if_neg (by simp[h2,h3])];refine zr func121 ntmps121 results121 λS nx hd=>?_
   refine D0 ?_
   repeat apply za
   refine ze [(2,9)] (zo h0 h1) ?_;refine zm DR ?_;refine zh (D0 ?_)
   repeat apply za
   refine ze [(5,21),(8,24)] (zJ h1 h2 h3 zB) ?_;refine zm DR ?_;refine zh (D0 ?_);exact D1 hd
 ·rw[if_pos (.inl h2)];refine zr func121 ntmps121 results121 λS nx hd=>?_
  refine D0 ?_
  repeat apply za
  refine ze [(2,9)] (zo h0 h1) ?_;refine zm DR ?_;refine zh (D0 ?_)
  repeat apply za
  refine ze [(5,21),(8,24)] (zA h1 h2 zB) ?_;refine zk DR ?_;refine D0 ?_;exact D1 hd
def XI(x:Int):Int :=
 let u:=IntKind.u64.wrap
 let a:=bits BinOp.and IntKind.u64
 let x1:=u (a (x.fdiv (2 ^ 1)) 6148914691236517205+a x 6148914691236517205)
 let x2:=u (a (x1.fdiv (2 ^ 2)) 3689348814741910323+a x1 3689348814741910323)
 let x3:=a (u (x2.fdiv (2 ^ 4)+x2)) 1085102592571150095
 let x4:=u (x3+x3.fdiv (2 ^ 8))
 let x5:=u (x4+x4.fdiv (2 ^ 16))
 let x6:=u (x5+x5.fdiv (2 ^ 32))
 bits BinOp.and IntKind.i64 (W x6) 127
theorem Zt9(n:Nat):Pure prog 304 [U n] (I (XI n)):=by
 refine zr func304 ntmps304 results304 λS nx hd=>?_
 refine D0 ?_;refine D0 ?_;refine D0 ?_;refine D0 ?_;refine D0 ?_;refine D0 ?_;refine D0 ?_;refine D0 ?_;exact zg (zi hd DT (by simp[zn,XI,IntKind.bits]))
theorem Zua(n:Nat):Pure prog 274 [U n] (I (XI n)):=by
 have h:=Zt9 n;refine zr func274 ntmps274 results274 λS nx hd=>?_
 refine D0 ?_;refine D0 ?_;refine zt h ?_;exact D1 hd
def ZdK(i:Nat)(least:Int)(p:Nat):Int:=if i=0\/XI p<least then XI p else least
def YV(ps:List Nat):Nat->Int
 | 0=>0
 | k+1=>ZdK k (YV ps k) (ps.getD k 0)
theorem Zub(ps:List Nat)(hl:ps.length<=1048576):Pure prog 243 [L ps] (I (YV ps ps.length)):=by
 refine zr func243 ntmps243 results243 λS nx hd=>?_
 refine D0 ?_;refine D0 ?_
 repeat apply za
 refine zb ?_;refine zj (zC (λk:Nat=>k<=ps.length) (λk=>[(3,I (YV ps k)),(7,L ps),(8,I ps.length),(9,I k)]) (λ_=>[]) (λk=>ps.length-k) 0 [] DR (by simp[YV]) DR ?_);rintro k hk;refine D0 ?_;refine za (zv rfl (λhc=>?_) (λhc=>?_))
 ·simp at hc;obtain⟨p,tl,a1,a2,a3,e0⟩:=zE rfl ps k hc;have hg:ps.getD k 0=p:=by rw[Aa,a1];rfl
  have hnx:YV ps (k+1)=ZdK k (YV ps k) p:=by rw[<-hg];rfl
  have hlen:=Zua p;refine zh (za (zj (za (ze [] (zo e0 hc) ?_))));refine D0 ?_;refine zt hlen ?_;unfold ZdK at hnx;generalize YV ps k=f0 at *;generalize XI p=o at *
  by_cases h0:k=0
  ·rw[if_pos (.inl h0)]at hnx;refine za (ze [(2,18)] (zo (eq_true h0) zB) ?_);refine zk DR ?_;refine zb ?_;refine zb ?_;exact zq (k+1) [] hc DQ (by simp[zu k (by omega),hnx]) rfl DR
  by_cases h1:o<f0
  ·rw[if_pos (.inr h1)]at hnx;refine za (ze [(2,18)] (zo h0 h1) ?_);refine zk DR ?_;refine zb ?_;refine zb ?_;exact zq (k+1) [] hc DQ (by simp[zu k (by omega),hnx]) rfl DR
  ·rw[if_neg (by simp only[not_or];exact⟨h0,h1⟩)]at hnx;refine za (ze [(2,18)] (zo h0 h1) ?_);refine zm DR ?_;refine zh (zb ?_);exact zq (k+1) [] hc DQ (by simp[zu k (by omega),hnx]) rfl DR
 ·simp at hc;obtain rfl:k=ps.length:=DQ
  refine zx (D0 ?_);exact D1 hd
def ZK(c:Cust)(n cap:Int):Int :=
 if c.kind=1 then YV c.pats c.pats.length else if JA c n=0 then 0 else if xh cap c.size<1 then n else xh (XH (JA c n) (xh cap c.size)) n
theorem Zjb(c:Cust)(n cap:Int)(hp:c.pats.length<=1048576):Pure prog 204 [.agg (zV c),I n,I cap] (I (ZK c n cap)):=by
 have hf:=Zub c.pats hp;have hw:=Zi9 c n;unfold ZK;generalize YV c.pats c.pats.length=fz at *;generalize JA c n=wz at *
 by_cases hk:c.kind=1
 ·rw[if_pos hk];refine zr func204 ntmps204 results204 λS nx hd=>?_
  refine D0 ?_;intro v0
  repeat apply za
  refine ze [] hk ?_;refine zk (by simp[hk]) ?_;refine D0 ?_;refine zt hf ?_;exact D1 hd
 rw[if_neg hk]
 by_cases h0:wz=0
 ·rw[if_pos h0];refine zr func204 ntmps204 results204 λS nx hd=>?_
  refine D0 ?_;intro v0
  repeat apply za
  refine ze [] hk ?_;refine zm (by simp[hk]) ?_;refine zh (D0 ?_);refine zt hw ?_
  repeat apply za
  refine ze [] h0 ?_;refine zk (by simp[h0]) ?_;refine D0 ?_;exact D1 hd
 rw[if_neg h0]
 by_cases h1:xh cap c.size<1
 ·rw[if_pos h1];refine zr func204 ntmps204 results204 λS nx hd=>?_
  refine D0 ?_;intro v0
  repeat apply za
  refine ze [] hk ?_;refine zm (by simp[hk]) ?_;refine zh (D0 ?_);refine zt hw ?_
  repeat apply za
  refine ze [] h0 ?_;refine zm (by simp[h0]) ?_;refine zh (D0 ?_)
  repeat apply za
  refine ze [] h1 ?_;refine zk (by simp[h1]) ?_;refine D0 ?_;exact D1 hd
 ·rw[if_neg h1];have hc:=Zja wz (xh cap c.size) DQ;generalize XH wz (xh cap c.size)=q at *;refine zr func204 ntmps204 results204 λS nx hd=>?_
  refine D0 ?_;intro v0
  repeat apply za
  refine ze [] hk ?_;refine zm (by simp[hk]) ?_;refine zh (D0 ?_);refine zt hw ?_
  repeat apply za
  refine ze [] h0 ?_;refine zm (by simp[h0]) ?_;refine zh (D0 ?_)
  repeat apply za
  refine ze [] h1 ?_;refine zm (by simp[h1]) ?_;refine zh (D0 ?_);refine zt hc ?_;refine D0 ?_;exact D1 hd
open Go Go.Proofs
def vY(f:Nat->Int):Nat->Int
 | 0=>0
 | k+1=>vg (vY f k) (f k)
theorem Zuc(a b:Int):zO (vg a b):=by unfold vg zO;split<;>(try split)<;>omega
theorem Zjc(f:Nat->Int)(k:Nat):zO (vY f k):=by
 cases k with
 | zero=>show zO 0;exact⟨by decide,by decide⟩
 | succ k=>exact Zuc _ _
theorem ZdL{S:Store}(x:Inst)(g:FuncId)(ps:List PV)(f:Nat->Int)(hx:x.cust.length<=1048576)(hf:∀k,zO (f k))
  (h:∀k,k<x.cust.length->∀T:Store,(∀o,S o≠.dead->T o=S o)->Spec prog g (ps++[I k]) T (λq S'=>q=I (f k)/\S'=T)) :
  Spec prog 124 [.agg (zy x),.fn (.func g) ps []] S (λq S'=>q=I (vY f x.cust.length)/\S'=S):=by
 refine yl func124 ntmps124 results124 λnx hd=>?_
 have hT:∀obs o,S o≠.dead->ext S nx obs o=S o:=λobs o ho=>by
  apply zD;rcases Bb o nx with q | q
  ·exact q
  ·exact absurd (hd o q) ho
 refine D0 ?_;intro v0;refine D0 ?_
 repeat apply za
 refine zb ?_;refine zj (zC (λs:Nat × Nat=>s.1<=x.cust.length) (λ(k,v)=>[(1,.fn (.func g) ps []),(2,.ptr nx v 0),(5,I (vY f k)),(9,I x.cust.length),(10,I k)]) (λ(k,v)=>[.cells v 25 (zy x)]) (λs=>x.cust.length-s.1) (0,v0) [] DR (by simp[vY]) DR ?_);rintro⟨k,v⟩ hk;simp only at hk ⊢;refine D0 ?_;refine za (zv rfl (λhc=>?_) (λhc=>?_))
 ·simp at hc;have hsat:=Zai (vY f k) (f k) (Zjc f k) (hf k);refine zh (za (zj (D0 ?_)));refine zb ?_;refine λhsuf=>((h k hc _ (hT _)).mono ?_).v
  rintro _ _ ⟨rfl,rfl⟩;refine⟨_,_,rfl,zN hsuf ?_⟩;refine λhsuf=>((hsat _).mono ?_).v
  rintro _ _ ⟨rfl,rfl⟩;refine⟨_,_,rfl,zN hsuf ?_⟩;refine zb ?_;exact zq (k+1,v) [] hc DV (by simp[zu k (by omega)];rfl) rfl DR
 ·simp at hc;obtain rfl:k=x.cust.length:=DQ
  refine zx (D0 ?_);exact D1 hd
abbrev Zg(x:Inst)(pa pb ch:PV):List PV:=[I x.days,I x.veh,I x.cap,I x.len,L x.cust,L x.dist,pa,pb,ch]
theorem ZdM{S:Store}{id ver:Nat}(x:Inst)(pa pb ch:PV)(k:Nat){c:Cust}(hS:S id=.cells ver 182 (Zg x pa pb ch))(hx:x.cust.length<=1048576)(hc:x.cust[k]?=some c)(hp:c.pats.length<=1048576):
  Spec prog 164 [.ptr id ver 0,I k] S (λq S'=>q=I (ZK c x.days x.cap)/\S'=S):=by
 have hfo:=Zjb c x.days x.cap hp;have hk:k<x.cust.length:=(Ac.1 hc).1;obtain⟨t,tl,b1,b2,b3,f0,f1⟩:=el 8 rfl x.cust k hk;obtain rfl:t=c:=by rw[hc]at b1;exact(Option.some.inj b1).symm
 refine yl func164 ntmps164 results164 λnx hd=>?_
 have hlt:id<nx:=qO hd hS DR;have x1:∀obs,ext S nx obs id=.cells ver 182 (Zg x pa pb ch):=λobs=>(zD hlt).trans hS
 refine D0 ?_;refine za (zz (some [id]) (Row.pures [0,1,2,3,4,5,6,7,8,9,10,11,12,13,14,15,16,17,18,19] .done) mixed (zJ x1 hk f0 f1) ?_);refine zH (hfo) trivial ?_;exact D1 hd
theorem Zud{S:Store}{id ver:Nat}(x:Inst)(pa pb:PV)(ch:List Int)(k:Nat){c:Cust}{a:Int}(hS:S id=.cells ver 182 (Zg x pa pb (L ch)))(hx:x.cust.length<=1048576)(hc:x.cust[k]?=some c)(hp:c.pats.length<=1048576)(ha:ch[k]?=some a):
  Spec prog 172 [.ptr id ver 0,I k] S (λq S'=>q=I (W (a*ZK c x.days x.cap))/\S'=S):=by
 have hfo:=λS (h:S id=_)=>ZdM (S:=S) (id:=id) (ver:=ver) x pa pb (L ch) k h hx hc hp
 have hk:k<ch.length:=(Ac.1 ha).1;obtain⟨t,tl,b1,b2,b3,f0⟩:=zE rfl ch k hk;obtain rfl:t=a:=by rw[ha]at b1;exact(Option.some.inj b1).symm
 refine yl func172 ntmps172 results172 λnx hd=>?_
 have hlt:id<nx:=qO hd hS DR;have x1:∀obs,ext S nx obs id=.cells ver 182 (Zg x pa pb (L ch)):=λobs=>(zD hlt).trans hS
 refine D0 ?_;refine za (zz (some [id]) (Row.pures [0,1,2,3,4,5,6,7,8] (.alt 9 (Row.pures [10,11] .done) .stop)) mixed (zA x1 hk f0) ?_);refine(Spec.mono (hfo _ (x1 [])) ?_).v;rintro _ _ ⟨rfl,rfl⟩;refine⟨by simp[yK],jy trivial ?_⟩;exact D1 hd
def ZL(c:Cust)(n cap:Int):Int:=if c.kind=1 then W (ZK c n cap*c.demand) else JA c n
theorem Zue{S:Store}{id ver:Nat}(x:Inst)(pa pb ch:PV)(k:Nat){c:Cust}(hS:S id=.cells ver 182 (Zg x pa pb ch))(hx:x.cust.length<=1048576)(hc:x.cust[k]?=some c)(hp:c.pats.length<=1048576):
  Spec prog 166 [.ptr id ver 0,I k] S (λq S'=>q=I (ZL c x.days x.cap)/\S'=S):=by
 have hfo:=λS (h:S id=_)=>ZdM (S:=S) (id:=id) (ver:=ver) x pa pb ch k h hx hc hp
 have hwa:=Zi9 c x.days;have hk:k<x.cust.length:=(Ac.1 hc).1;obtain⟨t,tl,b1,b2,b3,f0,f1⟩:=el 8 rfl x.cust k hk;obtain rfl:t=c:=by rw[hc]at b1;exact(Option.some.inj b1).symm
 refine yl func166 ntmps166 results166 λnx hd=>?_
 have hlt:id<nx:=qO hd hS DR;have x1:∀obs,ext S nx obs id=.cells ver 182 (Zg x pa pb ch):=λobs=>(zD hlt).trans hS
 refine D0 ?_;refine za (ze [] (zJ x1 hk f0 f1) ?_);intros
 repeat apply za
 refine zb ?_
 by_cases hk1:t.kind=1
 ·repeat apply za
  refine zk (by simp[hk1]) ?_;refine za (zz (some [id,nx]) (Row.pures [0,1,3,4] (.alt 2 (Row.pures [5,6] .done) .stop)) mixed x1 ?_);refine(Spec.mono (hfo _ (x1 _)) ?_).v;rintro _ _ ⟨rfl,rfl⟩;refine⟨by simp[yK],jy trivial ?_⟩
  trace_state
  exact zg (zi hd DT (by simp[ZL,hk1,zn]))
 ·repeat apply za
  refine zm (by simp[hk1]) ?_;refine zh (za (zz (some [id,nx]) (Row.pures [0,1,2,3,4,5,6,7] .done) mixed x1 ?_));refine zH (hwa) trivial ?_;exact zg (zi hd DT (by simp[ZL,hk1,zn]))
open Go Go.Proofs
def JC(price:List Int):Nat->Int
 | 0=>YL price 0
 | k+1=>xh (JC price k) (YL price k)
def ZaQ(n:Nat)(cap:Int)(c:Cust)(price:List Int):Int :=
 if c.kind=2 then W (W (ZK c n cap*JC price n)+ZaP c n) else W (ZK c n cap*JC price n)
def QJ(n:Nat)(cap:Int)(c:Cust)(price:List Int):Int :=
 if (c.kind=1\/c.rule=1)/\(qE n cap c price).2=true then Yb c n price (qE n cap c price).1 else ZaQ n cap c price
theorem Zuf{S:Store}{pl:PV}{price:List Int}(c:Cust)(n:Nat)(cap:Int)(hR:RowOf S pl price)(hp:∀z∈price,zO z)(hpl:price.length<=1000)(hm:CustMade c n)(hpc:c.pats.length<=1000)(hn:n<=60)(hcf:CustFits c)(hv:VisOk (qE n cap c price).1):
  Spec prog 170 [.agg (zV c),I n,I cap,pl] S (λq S'=>q=I (QJ n cap c price)/\S'=S):=by
 have hfo:=Zjb c n cap DQ;have hke:=Zt7 c n DQ;have hso:=λS (hR:RowOf S pl price)=>Zdp (S:=S) c n cap hR hp hpl hm hpc hn
 have hco:=λS (hR:RowOf S pl price)=>Zdl (S:=S) c n (qE n cap c price).1 hR hcf hv
 have hpr:=λS (hR:RowOf S pl price) (d:Int)=>Zdi (S:=S) d hR
 obtain⟨res,hres⟩:∃res,res=QJ n cap c price:=⟨_,rfl⟩;rw[<-hres];unfold QJ at hres;generalize qE n cap c price=az at *;obtain⟨av,aok⟩:=az;simp only at hres hso hco;have hsame:(c.kind=1\/c.rule=1)->aok=true->res=Yb c n price av:=λh1 h2=>by rw[hres,if_pos ⟨h1,h2⟩]
 have hlow:¬((c.kind=1\/c.rule=1)/\aok=true)->res=ZaQ n cap c price:=λh=>by rw[hres,if_neg h]
 clear hres;unfold ZaQ at hlow;generalize Yb c n price av=cv at *;generalize ZK c n cap=fo at *;generalize ZaP c n=ke at *;refine yl func170 ntmps170 results170 λnx hd=>?_
 have hRx:=λobs=>hR.ext hd obs
 refine D0 ?_;intro v0;refine za (qa (nx:=nx) (σ:=Unit) (λ_=>¬((c.kind=1\/c.rule=1)/\aok=true)) (λ_=>[(1,I n),(2,I cap),(3,pl),(4,.ptr nx v0 0)]) (λ_=>S) (λ_=>[.cells v0 87 (zV c)]) ?_ ?_)
 ·by_cases hk:c.kind=1
  ·refine za (ze [(3,17)] (zo hk zB) ?_);refine zk DR ?_;refine D0 ?_;refine λhsuf=>((hso _ (hRx _)).mono ?_).v
   rintro _ _ ⟨rfl,rfl⟩;refine⟨_,_,rfl,zN hsuf ?_⟩;refine D0 ?_;cases aok with
   | true =>
    refine zk DR ?_;refine D0 ?_;refine λhsuf=>((hco _ (hRx _)).mono ?_).v
    rintro _ _ ⟨rfl,rfl⟩;refine⟨_,_,rfl,zN hsuf ?_⟩;exact zg (zi hd DT (by rw[hsame (.inl hk) rfl];rfl))
   | false =>
    refine zm DR ?_;exact zh (zS () [] DR DR rfl DR)
  ·by_cases hru:c.rule=1
   ·refine za (ze [(3,17)] (zo hk hru) ?_);refine zk DR ?_;refine D0 ?_;refine λhsuf=>((hso _ (hRx _)).mono ?_).v
    rintro _ _ ⟨rfl,rfl⟩;refine⟨_,_,rfl,zN hsuf ?_⟩;refine D0 ?_;cases aok with
    | true =>
     refine zk DR ?_;refine D0 ?_;refine λhsuf=>((hco _ (hRx _)).mono ?_).v
     rintro _ _ ⟨rfl,rfl⟩;refine⟨_,_,rfl,zN hsuf ?_⟩;exact zg (zi hd DT (by rw[hsame (.inr hru) rfl];rfl))
    | false =>
     refine zm DR ?_;exact zh (zS () [] DR DR rfl DR)
   ·refine za (ze [(3,17)] (zo hk hru) ?_);refine zm DR ?_;exact zh (zS () [] (λh=>h.1.elim hk hru) DR rfl DR)
 ·rintro _ hl;have hr:=hlow hl;refine D0 ?_;refine λhsuf=>((hpr _ (hRx _) 0).mono ?_).v
  rintro _ _ ⟨rfl,rfl⟩;refine⟨_,_,rfl,zN hsuf ?_⟩
  repeat apply za
  refine zb ?_;refine zj (zC (λs:Nat × Nat=>s.1<=n) (λ(k,v)=>[(1,I n),(2,I cap),(3,pl),(4,.ptr nx v 0),(11,I (JC price k)),(38,I n),(39,I k)]) (λ(k,v)=>[.cells v 87 (zV c)]) (λs=>n-s.1) (0,v0) [] DR (by simp[JC]) DR ?_);rintro⟨k,v⟩ hk;simp only at hk ⊢;refine D0 ?_;refine za (zv rfl (λhc=>?_) (λhc=>?_))
  ·simp at hc;refine zh (za (zj (D0 ?_)));refine zb ?_;refine λhsuf=>((hpr _ (hRx _) k).mono ?_).v
   rintro _ _ ⟨rfl,rfl⟩;refine⟨_,_,rfl,zN hsuf ?_⟩;refine zb ?_;exact zq (k+1,v) [] hc DV (by simp[zu k (by omega),JC]) rfl DR
  ·simp at hc;obtain rfl:k=n:=DQ
   generalize JC price k=lp at *;refine zx (D0 ?_);refine zt hfo ?_
   repeat apply za
   refine zb ?_
   by_cases hk2:c.kind=2
   ·rw[if_pos hk2]at hr;refine zk (by simp[hk2]) ?_;refine zb ?_;refine zt hke ?_;refine D0 ?_;exact zg (zi hd DT (by rw[hr];rfl))
   ·rw[if_neg hk2]at hr;refine zm (by simp[hk2]) ?_;refine zh (D0 ?_);exact zg (zi hd DT (by rw[hr];rfl))
open Go Go.Proofs
theorem Zug(x:Inst)(a b:List Int)(k:Nat)(hk:k<x.cust.length)(hn:x.cust.length<=1048576)(ha:a.length=x.cust.length+1)(hb:b.length=x.cust.length+1):
  Pure prog 169 [.agg (zy x),.agg [L a,L b],I k] (I (W (a.getD (k+1) 0+b.getD (k+1) 0))):=by
 obtain⟨t,tl,b1,b2,b3,f0⟩:=zE rfl a (k+1) DQ;obtain⟨u,tl2,c1,c2,c3,f1⟩:=zE rfl b (k+1) DQ;have e1:a.getD (k+1) 0=t:=by rw[Aa,b1];rfl
 have e2:b.getD (k+1) 0=u:=by rw[Aa,c1];rfl
 rw[e1,e2];have hka:k+1<a.length:=DQ
 have hkb:k+1<b.length:=DQ
 have h0:¬(k:Int)<0:=DQ
 have h1:¬(x.cust.length:Int)<=k:=DQ
 have w1:IntKind.i64.wrap ((k:Int)+1)=((k+1:Nat):Int):=zu k DQ;obtain⟨k1,hk1⟩:∃m,m=k+1:=⟨_,rfl⟩;rw[<-hk1]at f0 f1 hka hkb w1;refine zr func169 ntmps169 results169 λS nx hd=>?_
 refine D0 ?_;intro v0 v1
 repeat apply za
 refine ze [(2,9)] (zo h0 h1) ?_;refine zm DR ?_;refine zh (za (zz (some [nx,nx+1]) (Row.pures [0,1,2,3,4,5,6,7,8,9,10,11,12,13] .done) mixed (yv w1 f0 f1 hka hkb) ?_));exact D1 hd
def YW(x:Inst)(c:Nat):Nat->Int
 | 0=>arc x 0 c
 | k+1=>if k≠c then xh (YW x c k) (arc x k c) else YW x c k
def YX(x:Inst)(c:Nat):Nat->Int
 | 0=>arc x c 0
 | k+1=>if k≠c then xh (YX x c k) (arc x c k) else YX x c k
def vZ(x:Inst):List Int:=(List.range x.cust.length).map λi=>YW x (i+1) (x.cust.length+1)
def JD(x:Inst):List Int:=(List.range x.cust.length).map λi=>YX x (i+1) (x.cust.length+1)
theorem Zuh(x:Inst)(k:Nat)(h:k<x.cust.length):(vZ x).take (k+1)=(vZ x).take k++[YW x (k+1) (x.cust.length+1)]:=by
 rw[AG];congr 1;unfold vZ;rw[Aj,Bc h];rfl
theorem Zui(x:Inst)(k:Nat)(h:k<x.cust.length):(JD x).take (k+1)=(JD x).take k++[YX x (k+1) (x.cust.length+1)]:=by
 rw[AG];congr 1;unfold JD;rw[Aj,Bc h];rfl
theorem Zuj(x:Inst)(hn:x.cust.length<=1048576):Pure prog 171 [.agg (zy x)] (.tup [L (vZ x),L (JD x)]):=by
 have harc:=wT x;have hA:=Zuh x;have hB:=Zui x;have hAl:(vZ x).length=x.cust.length:=by simp[vZ]
 have hBl:(JD x).length=x.cust.length:=by simp[JD]
 generalize vZ x=A at *;generalize JD x=B at *;refine zr func171 ntmps171 results171 λS nx hd=>?_
 refine D0 ?_;intro v0;refine D0 ?_;refine qt 4 3 1 rfl λv1=>?_
 refine qt 5 3 1 rfl λv2=>?_
 repeat apply za
 refine zb ?_;refine zj (zC (λs:Nat × Nat × Nat × Nat=>s.1<=x.cust.length) (λ(k,v,w1,w2)=>[(1,.ptr nx v 0),(4,.sl (nx+1) w1 1 0 k),(5,.sl (nx+2) w2 1 0 k),(13,I x.cust.length),(14,I k)]) (λ(k,v,w1,w2)=>[.cells v 25 (zy x),.cells w1 3 ((A.take k).flatMap Enc.enc),.cells w2 3 ((B.take k).flatMap Enc.enc)]) (λs=>x.cust.length-s.1) (0,v0,v1,v2) [] DR DR DR ?_);rintro⟨k,v,w1,w2⟩ hk;simp only at hk ⊢;refine D0 ?_;refine za (zv rfl (λhc=>?_) (λhc=>?_))
 ·simp at hc;have wk:IntKind.i64.wrap ((k:Int)+1)=((k+1:Nat):Int):=zu k DQ;obtain⟨at_,hat⟩:∃m,m=k+1:=⟨_,rfl⟩;rw[<-hat]at wk;have hA1:=hA k hc;have hB1:=hB k hc;rw[<-hat]at hA1 hB1;refine zh (za (zj (D0 ?_)));refine za (ze [] wk ?_);refine za (zz (some [nx]) (Row.pures [0,1,2,3,4,5,6,7] .done) mixed trivial ?_);refine zH (harc 0 at_) trivial ?_;refine zH (harc at_ 0) trivial ?_;have wn:IntKind.i64.wrap ((x.cust.length:Int)+1)=(x.cust.length:Int)+1:=by rw[AF];omega
  repeat apply za
  refine ze [] wn ?_;refine zj (zC (λs:Nat × Nat=>s.1<=x.cust.length+1) (λ(j,v)=>[(1,.ptr nx v 0),(4,.sl (nx+1) w1 1 0 k),(5,.sl (nx+2) w2 1 0 k),(7,I at_),(8,I (YW x at_ j)),(9,I (YX x at_ j)),(13,I x.cust.length),(14,I k),(28,I ((x.cust.length:Int)+1)),(29,I j)]) (λ(j,v)=>[.cells v 25 (zy x),.cells w1 3 ((A.take k).flatMap Enc.enc),.cells w2 3 ((B.take k).flatMap Enc.enc)]) (λs=>x.cust.length+1-s.1) (0,v) [] DR (by simp[YW,YX]) DR ?_);rintro⟨j,v⟩ hj;simp only at hj ⊢;refine D0 ?_
  by_cases hjn:j<x.cust.length+1
  ·have hji:(j:Int)<(x.cust.length:Int)+1:=DQ
   refine za (zk DV ?_);refine zh (za (zj (D0 ?_)));refine D0 ?_
   by_cases hja:j=at_
   ·have wja:IntKind.i64.wrap ((at_:Int)+1)=(at_:Int)+1:=by rw[AF];omega
    refine zm (by simp[hja]) ?_;refine zh (zb ?_);exact zq (j+1,v) [] DV DV (by simp[wja,YW,YX,hja]) rfl DR
   ·repeat apply za
    refine zk DV ?_;refine D0 ?_;refine zt (harc j at_) ?_;refine zb ?_;refine zt (harc at_ j) ?_;refine zb ?_;exact zq (j+1,v) [] DV DV (by simp[zu j (by omega),YW,YX,hja]) rfl DR
  ·obtain rfl:j=x.cust.length+1:=DQ
   refine za (zm DR ?_);refine zx ?_;have hAk:((A.take k).flatMap Enc.enc).length=k:=by rw[jm];simp;omega
   have hBk:((B.take k).flatMap Enc.enc).length=k:=by rw[jm];simp;omega
   have htA:List.take k ((A.take k).flatMap Enc.enc)=(A.take k).flatMap Enc.enc:=Ae (by rw[hAk];exact Ag _);have htB:List.take k ((B.take k).flatMap Enc.enc)=(B.take k).flatMap Enc.enc:=Ae (by rw[hBk];exact Ag _);have hAn:(A.take (k+1)).flatMap Enc.enc=(A.take k).flatMap Enc.enc++[I (YW x at_ (x.cust.length+1))]:=by rw[<-hat,hA1,Ar];rfl
   have hBn:(B.take (k+1)).flatMap Enc.enc=(B.take k).flatMap Enc.enc++[I (YX x at_ (x.cust.length+1))]:=by rw[<-hat,hB1,Ar];rfl
   refine ze [] (zo htA htB) ?_;refine⟨by omega,by omega,?_⟩;refine zb ?_;exact zq (k+1,v,w1+1,w2+1) [] hc DV (by simp[zu k (by omega)]) rfl (by simp only[hAn,hBn,AD])
 ·simp at hc;obtain rfl:k=x.cust.length:=DQ
  rw[show A.take x.cust.length=A from Ae DQ,show B.take x.cust.length=B from Ae DQ];refine zx (zZ 1 rfl ?_);refine zZ 2 rfl ?_;refine za (ze [] (zo hAl hBl) ?_);exact zg (zi hd DT (by simp[zn,hAl,hBl]))
open Go Go.Proofs
theorem ZdN{P:Program}{n:Nat}{F:Nat->PV}{S:Store}{o:Oper}{s x:Operand}{t e m id ver et:Nat}{cs l:List PV}{K:PV->Store->Prop}(ho:o.op=.call { callee:=.builtin .copy,args:=#[s,x],argTypes:=#[t,t] })(ht:P.underlying t=some (.slice e))(hz:(P.info? e).map (·.size)=some 1)
  (hs:ev F s=.sl id ver 1 0 m) (hx:ev F x=.lst l.length l) (hid:S id=.cells ver et cs) (hm:cs.length=m) (hm0:0<m)
  (hK:K (I (min l.length m:Nat)) (S.set id (.cells ver et (l.take m++cs.drop (min l.length m))))):PO P wv n o F S K:=by
 intro G hG C w a N st next Q' hnext;have e1:=st.ev s;rw[(hG s (by grind[Op.operands,Call.operands])).trans hs]at e1;have e2:=st.ev x;rw[(hG x (by grind[Op.operands,Call.operands])).trans hx]at e2;have hnd:∀c,o.op≠.defer c:=by intro c hc;rw[ho]at hc;cases hc
 generalize hv:a.eval s=v at e1;generalize hu:a.eval x=u at e2;cases e1 with
 | sl i1 i2 i3 =>
  rcases (i3 ver (by rw[hid];rfl)).2 rfl with ⟨_,q,_,_⟩ | ⟨b,k,ad,dcap,hl,rfl,hq0,_⟩
  ·omega
  obtain⟨rfl,hq1⟩:=hq0 rfl;rcases st.sim.cells id ver et cs hid with ⟨hn,_⟩ | ⟨b',k',c,g1,g2,g3,g4,g5,g6⟩
  ·simp_all
  rw[hl]at g1;cases g1;have main:∀(vs:List Value) (a':Addr) (cap:Nat),u=.slice (some a') l.length cap->vs.length=min l.length m->(∀j v,vs[j]?=some v->w.cell? (a'.add j)=some v)->(∀v∈vs,v.oneCell'=true)->(∀(i:Nat) (p:PV) (v:Value),(l.take m)[i]?=some p->vs[i]?=some v->Rel C S w p v)->o.wpIn (Fe wv) n P a w next Q':=by
   intro vs a' cap hu' hvl hcell hone hrel;have hrun0:=run_copy_row P w t t o.type e b 0 m dcap a' l.length cap c et vs ht hz g2 (by rw[hvl]) hcell DQ hone;have hrun:=WS (P:=P) (a:=a) (w:=w) ho (by rw[hv,hu,hu'];exact hrun0);simp only[CN,AN,AR]at hrun;generalize hw':w.setRow b (vs++c.toList.drop vs.length).toArray=w' at hrun;have hheap:w'.heap[b]?=some (.cells (vs++c.toList.drop vs.length).toArray et (0,0)):=by rw[<-hw'];exact setRow_heap w b c _ et _ g2
   have hgr:w.grownBy w' (some b)/\w.drawn<=w'.drawn:=by
    rw[<-hw'];exact⟨⟨rfl,rfl,rfl,by simp,λj hj hne=>setRow_other w b j _ (λe=>hne (by rw[e]))⟩,Ag _⟩
   have hsize:(vs++c.toList.drop vs.length).toArray.size=k:=DV
   have htl:(l.take m).length=vs.length:=by rw[Aw,hvl];omega
   obtain⟨t1,t2⟩:=st.sim.turn (l:=C.loc id) (ver':=ver) (cs':=l.take m++cs.drop (min l.length m)) hid (Ag _) (λ_=>rfl) (by rw[hl];exact hgr)
    (.inr ⟨b,k,_,hl,.inr (by rw[hl];rfl),hheap,hsize,by rw[List.length_append,Bq,htl];omega,λi z hi hz=>by
      rw[AC]at hz
      by_cases q1:i<vs.length
      ·rw[Ap q1]at hz;exact hone z (Ab hz)
      ·rw[Am DQ,AP]at hz;rw[List.length_append,Bq,htl]at hi;have e9:vs.length+(i-vs.length)=i:=DQ
       rw[e9]at hz;exact g5 i z DQ (by rw[<-Array.getElem?_toList];exact hz),
     λi p z hp hz=>by
      rw[AC]at hz
      by_cases q1:i<vs.length
      ·rw[Ap q1]at hz;rw[Ap DQ]at hp;exact hrel i p z hp hz
      ·rw[Am DQ,AP]at hz;rw[Am DQ,AP,htl,<-hvl]at hp;have e9:vs.length+(i-vs.length)=i:=DQ
       rw[e9]at hz hp;exact g6 i p z hp (by rw[<-Array.getElem?_toList];exact hz)⟩)
   have hres:goInt vs.length=Value.int .i64 ((min l.length m:Nat):Int):=by rw[hvl];rfl
   exact qh hnd hrun (hnext _ _ _ _ _ hK (by rw[hres];exact .sc _) t1 t2)
  generalize hk:l.length=kk at e2;cases e2 with
  | lst0 =>
   rename_i cap a';have hrun0:(Builtin.copy_ #[t,t] o.type #[a.eval s,a.eval x]).run P w=.ok (goInt 0) w:=by
    rw[hv,hu];cases hq:P.info? e with
    | none=>simp[hq]at hz
    | some i =>
     cases a'<;>simp[Builtin.copy_,run_underlying ht,Builtin.lenOf,Builtin.firstCells,sizeOf,typeInfo,hq,storeCells,loadCells,loadCellsFrom]
   have hrun:=WS (P:=P) (a:=a) (w:=w) ho hrun0;have eS:S.set id (.cells ver et cs)=S:=by
    funext i
    by_cases hi:i=id
    ·subst hi;grind[q11]
    ·exact q10 _ _ _ _ hi
   simp only[Ah,Nat.zero_min,Dl,DH,AN,eS]at hK;exact qh hnd hrun (hnext _ _ _ _ _ hK (.sc _) st.sim (Step.refl _ _ _))
  | lst1 hn hmx hb hM hs1 h1 h2 =>
   rename_i cap b' o' c' e' fz;subst hk;have hadd:∀j,(⟨b',o',none⟩:Addr).add j=⟨b',o'+j,none⟩:=by intro j;unfold Addr.add;split<;>simp_all
   have hat:∀(j:Nat) (v:Value),((c'.toList.drop o').take (min l.length m))[j]?=some v->j<min l.length m/\c'[o'+j]?=some v:=λj v hj=>by
    rw[BG]at hj;split at hj
    ·rename_i hlt;rw[AP,Array.getElem?_toList]at hj;exact⟨hlt,hj⟩
    ·cases hj
   refine main ((c'.toList.drop o').take (min l.length m)) ⟨b',o',none⟩ cap rfl ?_ ?_ ?_ ?_
   ·rw[Aw,Bq];have e9:c'.toList.length=c'.size:=Array.length_toList
    by_cases hl0:l=[]
    ·subst hl0;simp
    ·have:=hs1 hl0;omega
   ·intro j v hj;obtain⟨q1,q2⟩:=hat j v hj;rw[hadd];simp[World.cell?,hb,q2]
   ·intro v hv';obtain⟨j,hj⟩:=B7 hv';obtain⟨q1,q2⟩:=hat j v hj;exact h1 j v DQ q2
   ·intro i p v hp hvi;obtain⟨q1,q2⟩:=hat i v hvi;rw[AM DQ]at hp;exact h2 i p v hp q2
open Go
def xD(id ver id2 v2:Nat)(p:PV):PV :=
 match p with
 | .sl o v sz off k=>if o=id/\v=ver then .sl id2 v2 sz off k else .sl o v sz off k
 | .ptr o v off=>if o=id/\v=ver then .ptr id2 v2 off else .ptr o v off
 | p=>p
def YY(id ver id2 v2:Nat)(x:Ob):Ob :=
 match x with
 | .cells v e ds=>.cells v e (ds.map (xD id ver id2 v2))
 | x=>x
theorem Zuk{C C':Ctx}{S T:Store}{w:World}{id ver e id2 v2 e2:Nat}{cs cs2:List PV}(hid:S id=.cells ver e cs)(st:Step C S w C' T w)(hn:T id2=.cells v2 e2 cs2)(hl:C'.loc id2=C.loc id)(hlt:id2<C'.next/\v2<C'.clock){p:PV}{u:Value}
  (h:Rel C S w p u):Rel C' T w (xD id ver id2 v2 p) u:=by
 unfold xD;split
 ·split
  ·rename_i hc;obtain⟨rfl,rfl⟩:=hc;cases h with
   | sl h1 h2 h3 =>
    refine .sl h1 hlt λv0 hv0=>?_
    rw[hn]at hv0;cases hv0;refine⟨Ag _,λ_=>?_⟩;rw[hl];exact(h3 _ (by rw[hid];rfl)).2 rfl
  ·exact h.mono st
 ·split
  ·rename_i hc;obtain⟨rfl,rfl⟩:=hc;cases h with
   | ptr h1 h2 h3 =>
    refine .ptr h1 hlt λv0 hv0=>?_
    rw[hn]at hv0;cases hv0;refine⟨Ag _,λ_=>?_⟩;rw[hl];exact(h3 _ (by rw[hid];rfl)).2 rfl
  ·exact h.mono st
 ·exact h.mono st
theorem Yh{P:Program}{r:Rd}{n nx N:Nat}{Q:Exit->(Nat->PV)->Store->Prop}{F:Nat->PV}{S:Store}{obs:List Ob}{c:Code}(j:Nat){ver e:Nat}{cs:List PV}(hj:obs[j]?=some (.cells ver e cs))
  (h:∀v2,PW P r n N c Q (λi=>xD (nx+j) ver (nx+obs.length) v2 (F i)) (ext S nx ((obs.map (YY (nx+j) ver (nx+obs.length) v2)).set j .dead++[.cells v2 e (cs.map (xD (nx+j) ver (nx+obs.length) v2))]))):PW P r n N c Q F (ext S nx obs):=by
 intro C w a st;have hjl:j<obs.length:=(Ac.1 hj).1;have h:=h C.clock;have hid:ext S nx obs (nx+j)=.cells ver e cs:=by rw[yb,Aa,hj];rfl
 have hdn:ext S nx obs (nx+obs.length)=.dead:=uY;have hTn:ext S nx ((obs.map (YY (nx+j) ver (nx+obs.length) C.clock)).set j .dead++[.cells C.clock e (cs.map (xD (nx+j) ver (nx+obs.length) C.clock))]) (nx+obs.length)=.cells C.clock e (cs.map (xD (nx+j) ver (nx+obs.length) C.clock)):=by
  rw[yb,Aa,Am DR];simp
 have hTj:ext S nx ((obs.map (YY (nx+j) ver (nx+obs.length) C.clock)).set j .dead++[.cells C.clock e (cs.map (xD (nx+j) ver (nx+obs.length) C.clock))]) (nx+j)=.dead:=by
  rw[yb,Aa,Ap (by simpa using hjl),AV (by simpa using hjl)];rfl
 have hat:∀o,o≠nx+j->o≠nx+obs.length->ext S nx ((obs.map (YY (nx+j) ver (nx+obs.length) C.clock)).set j .dead++[.cells C.clock e (cs.map (xD (nx+j) ver (nx+obs.length) C.clock))]) o=ext S nx obs o \/
   ext S nx ((obs.map (YY (nx+j) ver (nx+obs.length) C.clock)).set j .dead++[.cells C.clock e (cs.map (xD (nx+j) ver (nx+obs.length) C.clock))]) o=YY (nx+j) ver (nx+obs.length) C.clock (ext S nx obs o):=by
  intro o h1 h2
  by_cases ho:o<nx
  ·simp_all[zD]
  ·right;simp only[ext];rw[if_neg ho,if_neg ho,Aa,Aa]
   by_cases hlo:o-nx<obs.length
   ·grind
   ·rw[Ak DV,Ak DQ];rfl
 generalize hTT:ext S nx ((obs.map (YY (nx+j) ver (nx+obs.length) C.clock)).set j .dead++[.cells C.clock e (cs.map (xD (nx+j) ver (nx+obs.length) C.clock))])=T at *;generalize hSS:ext S nx obs=S1 at *;generalize hi2:nx+obs.length=id2 at *;generalize hi1:nx+j=id at *;clear hTT hSS hi2 hi1 hj hjl;have hS:=st.sim;have hne:id≠id2:=by intro e2;rw[e2,hdn]at hid;cases hid
 have hdead:∀o,o≠id2->T o≠.dead->S1 o≠.dead/\o≠id:=by
  intro o h2 hT
  by_cases h1:o=id
  ·simp_all
  ·refine⟨λhs=>?_,h1⟩;rcases hat o h1 h2 with q | q
   ·simp_all
   ·rw[q,hs]at hT;exact hT rfl
 have hver:∀o v,o≠id2->(T o).ver=some v->(S1 o).ver=some v:=by
  intro o v h2 hv
  by_cases h1:o=id
  ·subst h1;rw[hTj]at hv;cases hv
  ·rcases hat o h1 h2 with q | q
   ·simp_all
   ·rw[q]at hv;cases hs:S1 o with
    | dead=>rw[hs]at hv;cases hv
    | cells v0 e0 ds=>rw[hs]at hv;exact hv
    | map v0 es=>rw[hs]at hv;exact hv
 obtain⟨C',hC'⟩:∃C':Ctx,C'={ loc:=λo=>if o=id2 then C.loc id else C.loc o,next:=max C.next (id2+1),clock:=C.clock+1 }:=⟨_,rfl⟩;have hl2:C'.loc id2=C.loc id:=by rw[hC'];simp
 have hlo:∀o,o≠id2->C'.loc o=C.loc o:=λo ho=>by simp_all
 have hnx:C'.next=max C.next (id2+1):=by rw[hC']
 have hck:C'.clock=C.clock+1:=by rw[hC']
 clear hC';have step:Step C S1 w C' T w:=by
  refine⟨rfl,⟨rfl,Ag _⟩,rfl,Ag _,by omega,by omega,λb hlt hM=>⟨rfl,?_⟩,λo v1 hv=>?_⟩
  ·rintro⟨o,k,ho,hl⟩
   by_cases h2:o=id2
   ·subst h2;rw[hl2]at hl;exact hM ⟨id,k,by rw[hid];simp,hl⟩
   ·rw[hlo o h2]at hl;exact hM ⟨o,k,(hdead o h2 ho).1,hl⟩
  ·by_cases h2:o=id2
   ·subst h2;rw[hTn]at hv;cases hv;exact .inl (.inr (Ag _))
   simp_all
 have mv:∀{p:PV} {u:Value},Rel C S1 w p u->Rel C' T w (xD id ver id2 C.clock p) u:=λhr=>Zuk hid step hTn hl2 ⟨by omega,by omega⟩ hr
 have mvl:∀{ds:List PV} {i:Nat} {p:PV},(ds.map (xD id ver id2 C.clock))[i]?=some p->∃q,ds[i]?=some q/\p=xD id ver id2 C.clock q:=by
  intro ds i p hp;rw[Aj,Ao]at hp;obtain⟨q,h1,h2⟩:=hp;exact⟨q,h1,h2.symm⟩
 have sim:Sim C' T w:=by
  refine⟨λo ho=>?_,λo v hv=>?_,λo o' b k k' h1 h2 h3 h4=>?_,λo v0 e0 ds ho=>?_,λo v0 es ho=>?_⟩
  ·by_cases h2:o=id2
   ·omega
   ·have:=hS.lt o (hdead o h2 ho).1;omega
  ·by_cases h2:o=id2
   ·subst h2;rw[hTn]at hv;cases hv;omega
   ·have:=hS.clk o v (hver o v h2 hv);omega
  ·by_cases q1:o=id2<;>by_cases q2:o'=id2
   ·omega
   ·subst q1;rw[hl2]at h3;rw[hlo o' q2]at h4;obtain⟨d1,d2⟩:=hdead o' q2 h2;exact absurd (hS.dist id o' b k k' (by rw[hid];simp) d1 h3 h4).symm d2
   ·subst q2;rw[hl2]at h4;rw[hlo o q1]at h3;obtain⟨d1,d2⟩:=hdead o q1 h1;exact absurd (hS.dist o id b k k' d1 (by rw[hid];simp) h3 h4) d2
   ·rw[hlo o q1]at h3;rw[hlo o' q2]at h4;exact hS.dist o o' b k k' (hdead o q1 h1).1 (hdead o' q2 h2).1 h3 h4
  ·by_cases h2:o=id2
   ·subst h2;rw[hTn]at ho;cases ho;rw[hl2];rcases hS.cells id ver e cs hid with ⟨q1,q2⟩ | ⟨b,k,cc,g1,g2,g3,g4,g5,g6⟩
    ·exact .inl ⟨q1,by rw[q2];rfl⟩
    grind
   ·have h1:=(hdead o h2 (by rw[ho];simp)).2;rw[hlo o h2];rcases hat o h1 h2 with q | q
    ·rw[q]at ho;rcases hS.cells o v0 e0 ds ho with hn | ⟨b,k,cc,g1,g2,g3,g4,g5,g6⟩
     ·exact .inl hn
     ·exact .inr ⟨b,k,cc,g1,g2,g3,g4,g5,λi p v hp hv=>(g6 i p v hp hv).mono step⟩
    ·rw[q]at ho;cases hs:S1 o with
     | dead=>simp_all
     | map v1 es=>rw[hs]at ho;cases ho
     | cells v1 e1 ds1 =>
      rw[hs]at ho;cases ho;rcases hS.cells o _ _ ds1 hs with ⟨q1,q2⟩ | ⟨b,k,cc,g1,g2,g3,g4,g5,g6⟩
      ·exact .inl ⟨q1,by rw[q2];rfl⟩
      grind
  ·have h2:o≠id2:=by rintro rfl;rw[hTn]at ho;cases ho
   have h1:=(hdead o h2 (by rw[ho];simp)).2;have hs:S1 o=.map v0 es:=by
    rcases hat o h1 h2 with q | q
    ·simp_all
    ·cases hs:S1 o with
     | dead=>simp_all
     | map v1 es1=>rw[q,hs]at ho;exact ho
     | cells v1 e1 ds1=>rw[q,hs]at ho;cases ho
   obtain⟨b,k,ms,cl,g1,g2,g3,g4⟩:=hS.maps o v0 es hs;exact⟨b,k,ms,cl,by simp_all,g2,g3,λi x m he hm=>⟨(g4 i x m he hm).1,(g4 i x m he hm).2.mono step⟩⟩
 refine wpIn_mono (h C' w a ⟨sim,st.size,λi=>mv (st.fr i),r.keep step st.v⟩) ?_;rintro e a' w' ⟨F2,S2,C2,h1,h2,h3,h4⟩;exact⟨F2,S2,C2,h1,h2,h3,step.trans h4⟩
open Go Go.Proofs
def uv(f:Nat->Int)(p:Nat):Nat->Option Int
 | 0=>none
 | k+1=>if k=p then uv f p k else match uv f p k with
  | none=>some (f k)
  | some b=>some (if f k<b then f k else b)
def Zh(f:Nat->Int)(p k:Nat):Int:=(uv f p k).getD 0
theorem Zjd(f:Nat->Int)(p:Nat):uv f p (p+1)=uv f p p:=if_pos rfl
theorem Zje{f:Nat->Int}{p k:Nat}(h:k≠p)(hn:uv f p k=none):uv f p (k+1)=some (f k):=by
 show (if k=p then _ else _)=_
 rw[if_neg h,hn]
theorem Zjf{f:Nat->Int}{p k:Nat}{b:Int}(h:k≠p)(hn:uv f p k=some b):uv f p (k+1)=some (if f k<b then f k else b):=by
 show (if k=p then _ else _)=_
 rw[if_neg h,hn]
theorem Zjg{S:Store}(n p:Nat)(hn:n<=2097152)(hp:p<=2097152)(g:FuncId)(ps:List PV)(f:Nat->Int)
  (h:∀k,k<n->k≠p->∀T:Store,(∀o,S o≠.dead->T o=S o)->Spec prog g (ps++[I p,I k]) T (λq S'=>q=I (f k)/\S'=T)) :
  Spec prog 161 [I n,I p,.fn (.func g) ps []] S (λq S'=>q=I (Zh f p n)/\S'=S):=by
 have hsk:=Zjd f p;have hno:=@Zje f p;have hso:=@Zjf f p;unfold Zh;have h0:uv f p 0=none:=rfl;generalize uv f p=lo at *;refine yl func161 ntmps161 results161 λnx hd=>?_
 have hT:∀obs o,S o≠.dead->ext S nx obs o=S o:=λobs o ho=>by
  apply zD;rcases Bb o nx with q | q
  ·exact q
  ·exact absurd (hd o q) ho
 refine D0 ?_;refine D0 ?_
 repeat apply za
 refine zb ?_;refine zj (zC (λk:Nat=>k<=n) (λk=>[(1,I p),(2,.fn (.func g) ps []),(7,I ((lo k).getD 0)),(8,B (lo k).isSome),(11,I n),(12,I k)]) (λ_=>[]) (λk=>n-k) 0 [] DR (by simp[h0]) DR ?_);rintro k hk;refine D0 ?_;refine za (zv rfl (λhc=>?_) (λhc=>?_))
 ·simp at hc;refine zh (za (zj (D0 ?_)))
  repeat apply za
  refine zb ?_
  by_cases hkp:k=p
  ·subst hkp;refine zk DR ?_;refine zx (zb ?_);exact zq (k+1) [] hc DQ (by simp[zu k (by omega),hsk]) rfl DR
  ·have hki:¬(k:Int)=p:=DQ
   have hno:=hno hkp;have hso:=@hso k;refine zm DV ?_;refine zh (D0 ?_);refine λhsuf=>((h k hc hkp _ (hT _)).mono ?_).v
   rintro _ _ ⟨rfl,rfl⟩;refine⟨_,_,rfl,zN hsuf ?_⟩;cases hl:lo k with
   | none =>
    have hn1:=hno hl;refine za (ze [(2,24)] zB ?_);refine zk DR ?_;refine zb ?_;refine zb ?_;exact zq (k+1) [] hc DQ (by simp[zu k (by omega),hn1]) rfl DR
   | some b =>
    have hs1:=hso hkp hl;refine za (ze [(2,24)] trivial ?_)
    by_cases hlt:f k<b
    ·rw[if_pos hlt]at hs1;refine zk (by simp[hlt]) ?_;refine zb ?_;refine zb ?_;exact zq (k+1) [] hc DQ (by simp[zu k (by omega),hs1]) rfl DR
    ·rw[if_neg hlt]at hs1;refine zm (by simp[hlt]) ?_;refine zh (zb ?_);exact zq (k+1) [] hc DQ (by simp[zu k (by omega),hs1]) rfl DR
 ·simp at hc;obtain rfl:k=n:=DQ
  refine zx (D0 ?_);exact D1 hd
abbrev QK(x:Inst)(s:PV):List PV:=[I x.days,I x.veh,I x.cap,I x.len,L x.cust,L x.dist,s]
theorem Zul{S:Store}{id ver:Nat}(x:Inst)(s:PV)(b a:Nat)(hS:S id=.cells ver 223 (QK x s)):
  Spec prog 162 [.ptr id ver 0,I b,I a] S (λq S'=>q=I (arc x a b)/\S'=S):=by
 have harc:=wT x a b;refine yl func162 ntmps162 results162 λnx hd=>?_
 have hlt:id<nx:=qO hd hS DR;have x1:∀obs,ext S nx obs id=.cells ver 223 (QK x s):=λobs=>(zD hlt).trans hS
 refine D0 ?_;refine za (ze [] x1 ?_);refine qi [] harc x1 ?_;exact D1 hd
theorem Zum{S:Store}{id ver ib w:Nat}(x:Inst)(l:List Int)(a b:Nat){z:Int}(hS:S id=.cells ver 223 (QK x (.sl ib w 1 0 l.length)))(hB:S ib=.cells w 3 (l.flatMap Enc.enc))(hb:l[b]?=some z):
  Spec prog 163 [.ptr id ver 0,I a,I b] S (λq S'=>q=I (W (arc x a b-z))/\S'=S):=by
 have harc:=wT x a b;have hk:b<l.length:=(Ac.1 hb).1;obtain⟨t,tl,b1,b2,b3,f0⟩:=zE rfl l b hk;obtain rfl:t=z:=by rw[hb]at b1;exact(Option.some.inj b1).symm
 refine yl func163 ntmps163 results163 λnx hd=>?_
 have hlt:id<nx:=qO hd hS DR;have hlt2:ib<nx:=qO hd hB DR;have x1:∀obs,ext S nx obs id=.cells ver 223 (QK x (.sl ib w 1 0 l.length)):=λobs=>(zD hlt).trans hS
 have x2:∀obs,ext S nx obs ib=.cells w 3 (l.flatMap Enc.enc):=λobs=>(zD hlt2).trans hB
 refine D0 ?_;refine za (zz (some [id,ib]) (Row.pures [0,1,2,3,4,5,6,7,8,9,10,11,12,13,14,15] .done) mixed (zJ x1 x2 f0 hk) ?_);refine zH (harc) (zJ x1 x2 f0 hk) ?_;exact D1 hd
theorem ZaR(x:Inst)(hx:x.cust.length<=1048576):Pure prog 119 [.agg (zy x)] (I ((x.cust.length+1:Nat):Int)):=by
 have w1:IntKind.i64.wrap ((x.cust.length:Int)+1)=(x.cust.length:Int)+1:=by rw[AF];omega
 refine zr func119 ntmps119 results119 λS nx hd=>?_
 refine D0 ?_;intro v0;refine za (ze [] w1 ?_);exact zg (zi hd DT (by simp[zn]))
open Go Go.Proofs
@[simp] theorem Zy3(a b c d:Nat)(v:Value):xD a b c d (.sc v)=.sc v:=rfl
@[simp] theorem Zy4(a b c d:Nat)(k:Nat)(l:List PV):xD a b c d (.lst k l)=.lst k l:=rfl
@[simp] theorem Zy5(a b c d:Nat)(l:List PV):xD a b c d (.agg l)=.agg l:=rfl
@[simp] theorem Zy6(a b c d o v sz off k:Nat):xD a b c d (.sl o v sz off k)=if o=a/\v=b then .sl c d sz off k else .sl o v sz off k:=rfl
@[simp] theorem Zy7(a b c d o v off:Nat):xD a b c d (.ptr o v off)=if o=a/\v=b then .ptr c d off else .ptr o v off:=rfl
@[simp] theorem Zy8(a b c d v e:Nat)(l:List PV):YY a b c d (.cells v e l)=.cells v e (l.map (xD a b c d)):=rfl
@[simp] theorem Zy9(a b c d:Nat):YY a b c d .dead=.dead:=rfl
theorem ZdO(n:Nat):y8 n (.int .i64 0)=List.replicate n (I 0):=by apply A7<;>simp_all[y8,Nat.mod_one]
theorem Zjh{S:Store}{nx:Nat}{obs:List Ob}(hd:zW nx S){j k:Nat}{x y:Ob}(hj:obs[j]?=some x)(hk:obs[k]?=some y)(o:Nat):((S.set (nx+j) x).set (nx+k) y) o=ext S nx obs o\/((S.set (nx+j) x).set (nx+k) y) o=.dead:=by grind[q11,yb,q10,QW]
theorem Zun{S:Store}{nx:Nat}(hd:zW nx S)(x:Inst)(hx:x.cust.length<=1048576):
  Spec prog 160 [.agg (zy x)] S (λq S'=>∃v w,q=.agg [.sl (nx+4) v 1 0 (x.cust.length+1),.sl (nx+5) w 1 0 (x.cust.length+1)] /\
   S'=(S.set (nx+4) (.cells v 3 (List.replicate (x.cust.length+1) (I 0)))).set (nx+5) (.cells w 3 (List.replicate (x.cust.length+1) (I 0)))):=by
 have hpl:=ZaR x hx;obtain⟨n,hn⟩:∃n,n=x.cust.length+1:=⟨_,rfl⟩;rw[<-hn]at hpl ⊢;have hn1:n<=1048577:=DQ
 have hzr:=ZdO n;refine u6 hd func160 ntmps160 results160 ?_;refine D0 ?_;intro v0 v1;refine D0 ?_;refine zt hpl ?_;refine za (zz (some []) (Row.pures [0,2] (.alt 1 (.alt 3 (Row.pures [4] (.alt 5 (.done) .stop)) .stop) (.alt 3 (.alt 1 (Row.pures [4] (.alt 5 (.done) .stop)) .stop) .stop))) mixed trivial ?_);have hk:(n:Int)<=140737488355328/\n*8<=281474976710656:=DQ
 refine⟨⟨hk,λv=>⟨hk,λw=>?_⟩⟩,⟨hk,λv=>⟨hk,λw=>?_⟩⟩⟩
 ·refine Yh 2 rfl λa=>?_
  refine Yh 3 rfl λb=>?_
  exact zg ⟨_,_,by simp;rfl,⟨a,b,by simp[zn],rfl⟩,λo=>Zjh (j:=4) (k:=5) hd (by simp[hzr]) (by simp[hzr]) o⟩
 ·refine Yh 3 rfl λa=>?_
  refine Yh 2 rfl λb=>?_
  exact zg ⟨_,_,by simp;rfl,⟨a,b,by simp[zn],rfl⟩,λo=>Zjh (j:=4) (k:=5) hd (by simp[hzr]) (by simp[hzr]) o⟩
theorem Zuo{S:Store}{nx:Nat}{obs:List Ob}(x:Inst)(hx:x.cust.length<=1048576):
  Spec prog 160 [.agg (zy x)] (ext S nx obs) (λq S'=>∃v w,q=.agg [.sl (nx+(obs.length+4)) v 1 0 (x.cust.length+1),.sl (nx+(obs.length+5)) w 1 0 (x.cust.length+1)] /\
   S'=ext S nx (obs++[.dead,.dead,.dead,.dead,.cells v 3 (List.replicate (x.cust.length+1) (I 0)),.cells w 3 (List.replicate (x.cust.length+1) (I 0))])):=by
 refine(Zun jP x hx).mono ?_;rintro _ _ ⟨v,w,rfl,rfl⟩;refine⟨v,w,by rw[Nat.add_assoc,Nat.add_assoc],?_⟩;rw[X6 4];have e2:=qY (S:=S) (nx:=nx) (obs:=obs++List.replicate 4 .dead++[.cells v 3 (List.replicate (x.cust.length+1) (I 0))]) (.cells w 3 (List.replicate (x.cust.length+1) (I 0)));rw[show nx+obs.length+5=nx+(obs++List.replicate 4 Ob.dead++[Ob.cells v 3 (List.replicate (x.cust.length+1) (I 0))]).length by simp;omega,e2];simp[List.replicate]
def xL(x:Inst)(l:List Int):List Int:=(List.range (x.cust.length+1)).map λb:Nat=>min (max (l.getD b 0) 0) (Zh (λa=>arc x a b) b (x.cust.length+1))
def xE(x:Inst)(i:List Int):List Int:=(List.range (x.cust.length+1)).map λa:Nat=>Zh (λb=>W (arc x a b-i.getD b 0)) a (x.cust.length+1)
theorem ZaS(x:Inst)(l:List Int):(xL x l).length=x.cust.length+1:=by simp[xL]
theorem ZdP(x:Inst)(i:List Int):(xE x i).length=x.cust.length+1:=by simp[xE]
theorem Zup{f:Nat->Int}{p:Nat}{lo hi:Int}(h0:lo<=0)(h1:0<=hi)(h:∀k:Nat,lo<=f k/\f k<=hi)(n:Nat):lo<=Zh f p n/\Zh f p n<=hi:=by
 have:∀n,∀b,uv f p n=some b->lo<=b/\b<=hi:=by
  intro n
  induction n with
  | zero=>intro b hb;cases hb
  | succ n ih =>
   intro b hb
   by_cases hp:n=p
   ·subst hp;rw[Zjd]at hb;exact ih b hb
   ·cases ho:uv f p n with
    | none=>rw[Zje hp ho]at hb;cases hb;exact h n
    | some c =>
     rw[Zjf hp ho]at hb;cases hb;split
     ·exact h n
     ·exact ih c ho
 unfold Zh;cases e:uv f p n with
 | none=>exact⟨h0,h1⟩
 | some b=>exact this n b e
theorem ZdQ(cs:List PV)(k:Nat)(v:PV)(h:k<cs.length):yf cs k [v]=cs.set k v:=by
 unfold yf;rw[AE,if_pos h];simp
theorem Zji{l m:List Int}{k:Nat}{z:Int}(hk:k<m.length)(hl:l.length=m.length)(h:m[k]?=some z):yf ((m.take k++l.drop k).flatMap Enc.enc) k [I z]=(m.take (k+1)++l.drop (k+1)).flatMap Enc.enc:=by
 have e:∀l:List Int,l.flatMap Enc.enc=l.map I:=λl=>by
  induction l with
  | nil=>rfl
  | cons a l ih=>rw[Az,ih];rfl
 rw[ZdQ _ _ _ (by rw[e];simp;omega),e,e,<-List.map_set];congr 1;rw[AG,h,BD _ _ DV,Aw,Be DQ,BA,List.append_assoc];congr 1;rw[AI DQ];rfl
theorem Zjj(x:Inst)(l:List Int)(hx:x.cust.length<=1048576)(hl:l.length=x.cust.length+1):Pure prog 120 [.agg (zy x),L l] (.agg [L (xE x (xL x l)),L (xL x l)]):=by
 have hpl:=ZaR x hx;have hz:=λ(S:Store) nx obs=>Zuo (S:=S) (nx:=nx) (obs:=obs) x hx
 have hIl:=ZaS x l;have hIa:∀k,k<x.cust.length+1->(xL x l)[k]?=some (min (max (l.getD k 0) 0) (Zh (λa=>arc x a k) k (x.cust.length+1))):=λk hk=>by unfold xL;rw[Aj,Bc hk];rfl
 generalize xL x l=i at *;have hOl:=ZdP x i;have hOa:∀k,k<x.cust.length+1->(xE x i)[k]?=some (Zh (λb=>W (arc x k b-i.getD b 0)) k (x.cust.length+1)):=λk hk=>by unfold xE;rw[Aj,Bc hk];rfl
 generalize xE x i=o at *;obtain⟨n,hn⟩:∃n,n=x.cust.length+1:=⟨_,rfl⟩;rw[<-hn]at hpl hz hl hIl hIa hOl hOa;have hn1:n<=1048577:=DQ
 have hfl:∀l:List Int,l.flatMap Enc.enc=l.map I:=λl=>by
  induction l with
  | nil=>rfl
  | cons a l ih=>rw[Az,ih];rfl
 have hll:(l.flatMap Enc.enc:List PV).length=n:=by rw[hfl];simpa using hl
 have hLl:L l=.lst (l.flatMap Enc.enc:List PV).length (l.flatMap Enc.enc):=by
  show PV.lst l.length _=_
  rw[hll,hl]
 rw[hLl];obtain⟨M,hM⟩:∃M:Nat->List Int,M=λk=>i.take k++l.drop k:=⟨_,rfl⟩
 have hMz:M 0=l:=by rw[hM];simp
 have hMn:M n=i:=by rw[hM];show i.take n++l.drop n=i;rw[Ae DQ,AS DQ,AD]
 have hMl:∀k,k<=n->(M k).length=n:=λk hk=>by rw[hM];simp;omega
 have hMa:∀k,k<n->(M k)[k]?=some (l.getD k 0):=λk hk=>by
  rw[hM]
  show (i.take k++l.drop k)[k]?=_
  rw[Am DV,Aw,Be DQ,BA,AP,Bz,Aa,Af DQ];rfl
 have hMs:∀k z,k<n->i[k]?=some z->yf ((M k).flatMap Enc.enc) k [I z]=(M (k+1)).flatMap Enc.enc:=λk z hk hz=>by rw[hM];exact Zji DQ DQ hz
 clear hM;refine zr func120 ntmps120 results120 λS nx hd=>?_
 refine D0 ?_;intro v0 v1;refine za (zz (some [nx]) (Row.pures [0,2] (.alt 1 (Row.pures [3] (.alt 4 (.alt 5 (Row.pures [6] .done) .stop) .stop)) (.alt 4 (.alt 1 (Row.pures [3] (.alt 5 (Row.pures [6] .done) .stop)) .stop) .stop))) mixed trivial ?_);refine⟨?_,λv2=>?_⟩
 all_goals
  refine((hz S nx _).mono ?_).v;rintro _ _ ⟨vo,vi,rfl,rfl⟩;simp only[Ad,Ah,Nat.reduceAdd,List.cons_append,AN];refine⟨by simp[yK],jy trivial ?_⟩;refine zH (hpl) trivial ?_;intros
 all_goals first
  | (refine Yh 6 rfl λwo=>?_;refine Yh 7 rfl λwi=>?_;refine Yh 8 rfl λwp=>?_)
  | (refine Yh 7 rfl λwo=>?_;refine Yh 8 rfl λwi=>?_;refine Yh 2 rfl λwp=>?_)
 all_goals
  refine D0 ?_;refine λhsuf=>ZdN (id:=nx+10) (ver:=wi) (e:=3) (l:=l.flatMap Enc.enc) rfl underlying26 DU (m:=n) rfl (by show PV.lst l.length _=_;rw[hll,hl]) (by rw[yb];rfl) DR DQ ?_
  rw[hll,Nat.min_self,Ae DQ,AS DR,AD];refine⟨_,_,yk _ DQ DR,zN hsuf ?_⟩;refine D0 ?_;intro v3
  repeat apply za
  refine zb ?_;have hM0:l.flatMap Enc.enc=(M 0).flatMap Enc.enc:=by rw[hMz]
  refine zj (zC (λk:Nat=>k<=n) (λk=>[(4,.ptr (nx+1) v1 0),(5,.ptr (nx+11) wp 0),(6,I n),(7,.ptr (nx+12) v3 0),(23,I n),(24,I k)]) (λk=>[.cells v0 25 (zy x),.cells v1 68 [.sc (.slice none 0 0),.sc (.slice none 0 0)],.dead,.dead,.dead,.dead,.dead,.dead,.dead,.cells wo 3 (List.replicate n (I 0)),.cells wi 3 ((M k).flatMap Enc.enc),.cells wp 68 [.sl (nx+9) wo 1 0 n,.sl (nx+10) wi 1 0 n],.cells v3 223 (QK x (.sl (nx+10) wi 1 0 n))]) (λk=>n-k) 0 [] DR DR (by simp[hM0]) ?_);rintro k hk;refine D0 ?_
  by_cases hc:k<n
  ·have hci:(k:Int)<n:=DQ
   refine za (zk DV ?_);refine zh (za (zj ?_));have hik:=hIa k hc;have hml:=hMl k hk;have hma:=hMa k hc;have hms:=λz h=>hMs k z hc h
   have hle:=λ(T0:Store) (h0:T0 (nx+12)=.cells v3 223 (QK x (.sl (nx+10) wi 1 0 n)))=>Zjg (S:=T0) n k DQ DQ 162 [.ptr (nx+12) v3 0] (λa=>arc x a k) (λa _ _ T hT=>Zul x (.sl (nx+10) wi 1 0 n) k a (by rw[hT _ (by rw[h0];simp),h0]))
   have hcl:=Xj (l.getD k 0) 0 (Zh (λa=>arc x a k) k n);generalize Zh (λa=>arc x a k) k n=lv at *;generalize l.getD k 0=t at *;generalize min (max t 0) lv=z at *;have hms:=hms z hik;generalize hmk1:M (k+1)=mk1 at *;generalize M k=mk at *;obtain⟨t',tl,b1,b2,b3,f0⟩:=zE rfl mk k DQ;obtain rfl:t'=t:=by rw[hma]at b1;exact(Option.some.inj b1).symm
   have hkm:k<mk.length:=DQ
   refine D0 ?_;refine zz (some [nx+11]) (Row.pures [0,1,2,3,4,5,6,8,9,10,11] (.alt 7 (.alt 12 (Row.pures [13,14] (.alt 15 (.done) .stop)) .stop) (.alt 12 (.alt 7 (Row.pures [13,14] (.alt 15 (.done) .stop)) .stop) .stop))) mixed (zJ f0 hkm hc hml) ?_;refine⟨?_,?_⟩
   all_goals
    refine((hle _ (by rw[yb];rfl)).mono ?_).v;rintro _ _ ⟨rfl,rfl⟩;refine⟨by simp[yK],jy (zJ f0 hkm hc hml) ?_⟩;refine zH (hcl) (zJ f0 hkm hc hml) ?_;refine⟨by omega,?_⟩;refine zb ?_;exact zq (k+1) [] DQ DQ (by simp[zu k (by omega)]) rfl (by simp[hms,hmk1])
  ·obtain rfl:k=n:=DQ
   refine za (zm DR ?_);refine zx ?_;rw[hMn];obtain⟨U,hU⟩:∃U:Nat->List Int,U=λj=>o.take j++(List.replicate k (0:Int)).drop j:=⟨_,rfl⟩
   have hU0:List.replicate k (I 0)=(U 0).flatMap Enc.enc:=by rw[hU,hfl];simp
   have hUn:U k=o:=by rw[hU];show o.take k++(List.replicate k (0:Int)).drop k=o;rw[Ae DQ,AS DR,AD]
   have hUl:∀j,j<=k->(U j).length=k:=λj hj=>by rw[hU];simp;omega
   have hUs:∀j z,j<k->o[j]?=some z->yf ((U j).flatMap Enc.enc) j [I z]=(U (j+1)).flatMap Enc.enc:=λj z hj hz=>by rw[hU];exact Zji DQ DV hz
   clear hU
   repeat apply za
   refine zb ?_;refine zj (zC (λj:Nat=>j<=k) (λj=>[(4,.ptr (nx+1) v1 0),(5,.ptr (nx+11) wp 0),(6,I k),(7,.ptr (nx+12) v3 0),(43,I k),(44,I j)]) (λj=>[.cells v0 25 (zy x),.cells v1 68 [.sc (.slice none 0 0),.sc (.slice none 0 0)],.dead,.dead,.dead,.dead,.dead,.dead,.dead,.cells wo 3 ((U j).flatMap Enc.enc),.cells wi 3 (i.flatMap Enc.enc),.cells wp 68 [.sl (nx+9) wo 1 0 k,.sl (nx+10) wi 1 0 k],.cells v3 223 (QK x (.sl (nx+10) wi 1 0 k))]) (λj=>k-j) 0 [] DR DR (by simp[hU0]) ?_);rintro j hj;refine D0 ?_
   by_cases hc:j<k
   ·have hci:(j:Int)<k:=DQ
    refine za (zk DV ?_);refine zh (za (zj ?_));have hoj:=hOa j hc;have hul:=hUl j hj;have hus:=λz h=>hUs j z hc h
    have hle:=λ(T0:Store) (h0:T0 (nx+12)=.cells v3 223 (QK x (.sl (nx+10) wi 1 0 k))) (h1:T0 (nx+10)=.cells wi 3 (i.flatMap Enc.enc))=>Zjg (S:=T0) k j DQ DQ 163 [.ptr (nx+12) v3 0] (λb=>W (arc x j b-i.getD b 0)) (λb hb _ T hT=>Zum x i j b (by rw[hT _ (by rw[h0];simp),h0,hIl]) (by rw[hT _ (by rw[h1];simp),h1]) (by rw[Aa,Af (by omega)];rfl))
    generalize Zh (λb=>W (arc x j b-i.getD b 0)) j k=lv at *;have hus:=hus lv hoj;generalize hu1:U (j+1)=u1 at *;generalize U j=uj at *;have hkm:j<uj.length:=DQ
    have hkl:j<(uj.flatMap Enc.enc:List PV).length:=by rw[hfl];simpa using hkm
    refine D0 ?_;refine zz (some [nx+11]) (Row.pures [0,1,2,3,4,5,6] (.alt 7 (Row.pures [8] (.alt 9 (.done) .stop)) .stop)) mixed (zJ hkm hkl hc hul) ?_;refine((hle _ (by rw[yb];rfl) (by rw[yb];rfl)).mono ?_).v;rintro _ _ ⟨rfl,rfl⟩;refine⟨by simp[yK],jy (zJ hkm hkl hc hul) ?_⟩;refine⟨by omega,?_⟩;refine zb ?_;exact zq (j+1) [] DQ DQ (by simp[zu j (by omega)]) rfl (by simp[hus,hu1])
   ·obtain rfl:j=k:=DQ
    refine za (zm DR ?_);refine zx ?_;rw[hUn];refine zZ 9 rfl ?_;refine zZ 10 rfl ?_;refine D0 ?_;exact zg (zi hd DT (by simp[zn,hOl,hIl]))
theorem Zuq(n:Nat)(z:Int):L (List.replicate n z)=.lst n (List.replicate n (I z)):=by
 show PV.lst _ _=_
 rw[Ch];congr 1
 induction n with
 | zero=>rfl
 | succ n ih=>rw[BC,Az,ih];rfl
theorem Zur(x:Inst)(hx:x.cust.length<=1048576):Pure prog 77 [.agg (zy x)] (.agg [L (xE x (xL x (List.replicate (x.cust.length+1) 2147483648))),L (xL x (List.replicate (x.cust.length+1) 2147483648))]):=by
 have hpl:=ZaR x hx;have hfit:=Zjj x (List.replicate (x.cust.length+1) 2147483648) hx DR;rw[Zuq]at hfit;generalize xL x (List.replicate (x.cust.length+1) 2147483648)=i at *;generalize xE x i=o at *;obtain⟨n,hn⟩:∃n,n=x.cust.length+1:=⟨_,rfl⟩;rw[<-hn]at hpl hfit;have hn1:n<=1048577:=DQ
 have hzr:=ZdO n;have hk0:(n:Int)<=140737488355328/\n*8<=281474976710656:=DQ
 refine zr func77 ntmps77 results77 λS nx hd=>?_
 refine D0 ?_;intro v0 v1;refine D0 ?_;refine zt hpl ?_;refine⟨hk0,λv2=>?_⟩
 repeat apply za
 refine zb ?_;have hset:∀k,k<n->yf (List.replicate k (I 2147483648)++List.replicate (n-k) (I 0)) k [I 2147483648]=List.replicate (k+1) (I 2147483648)++List.replicate (n-(k+1)) (I 0):=λk hk=>by
  rw[ZdQ _ _ _ DV,BD _ _ DR,Ch,BA,show n-k=(n-(k+1))+1 by omega,BC,A5,List.replicate_succ'];simp
 refine zj (zC (λk:Nat=>k<=n) (λk=>[(1,.ptr nx v0 0),(2,.ptr (nx+1) v1 0),(3,.sl (nx+2) v2 1 0 n),(9,I n),(10,I k)]) (λk=>[.cells v0 25 (zy x),.cells v1 68 [.sc (.slice none 0 0),.sc (.slice none 0 0)],.cells v2 3 (List.replicate k (I 2147483648)++List.replicate (n-k) (I 0))]) (λk=>n-k) 0 [] DR DR (by simp[hzr]) ?_);rintro k hk;refine D0 ?_
 by_cases hc:k<n
 ·refine za (zk DV ?_);refine zh (za (zj ?_));have hs:=hset k hc;have hl:(List.replicate k (I 2147483648)++List.replicate (n-k) (I 0)).length=n:=DV
  generalize hc1:List.replicate (k+1) (I 2147483648)++List.replicate (n-(k+1)) (I 0)=c1 at *;generalize List.replicate k (I 2147483648)++List.replicate (n-k) (I 0)=c0 at *;have hkl:k<c0.length:=DQ
  refine D0 ?_;refine ze [] (zo hc hkl) ?_;refine⟨by omega,?_⟩;refine zb ?_;exact zq (k+1) [] DQ DQ (by simp[zu k (by omega)]) rfl (by simp only[hs,hc1,AD])
 ·obtain rfl:k=n:=DQ
  refine za (zm DR ?_);refine zx ?_;rw[BA,List.replicate_zero,AD];refine zZ 2 rfl ?_;refine D0 ?_;refine zt hfit ?_;exact D1 hd
theorem Zus(x:Inst)(a b:List Int)(pl:Nat)(d:Int)(hx:x.cust.length<=1048576)(hb:b.length=x.cust.length+1)(hp:pl<x.cust.length+1):
  Pure prog 82 [.agg (zy x),.agg [L a,L b],I pl,I d] (.agg [L (xE x (xL x (b.set pl (W (b.getD pl 0-d))))),L (xL x (b.set pl (W (b.getD pl 0-d))))]):=by
 have hpl:=ZaR x hx;have hfit:=Zjj x (b.set pl (W (b.getD pl 0-d))) hx (by simpa using hb);generalize xL x (b.set pl (W (b.getD pl 0-d)))=i at *;generalize xE x i=o at *;obtain⟨t,tl,b1,b2,b3,f0⟩:=zE rfl b pl DQ;have e1:b.getD pl 0=t:=by rw[Aa,b1];rfl
 rw[e1]at hfit;have hfl:∀l:List Int,l.flatMap Enc.enc=l.map I:=λl=>by
  induction l with
  | nil=>rfl
  | cons a l ih=>rw[Az,ih];rfl
 have hset:yf (b.flatMap Enc.enc) pl [I (W (t-d))]=(b.set pl (W (t-d))).flatMap Enc.enc:=by rw[ZdQ _ _ _ (by rw[hfl];simp;omega),hfl,hfl,List.map_set]
 have hsl:(b.set pl (W (t-d))).length=b.length:=BH;have hLs:L (b.set pl (W (t-d)))=.lst b.length ((b.set pl (W (t-d))).flatMap Enc.enc):=by show PV.lst _ _=_;rw[hsl]
 rw[hLs]at hfit;obtain⟨n,hn⟩:∃n,n=x.cust.length+1:=⟨_,rfl⟩;rw[<-hn]at hpl hp hb;have hn1:n<=1048577:=DQ
 have hzr:=ZdO n;have hk0:(n:Int)<=140737488355328/\n*8<=281474976710656:=DQ
 have hll:(b.flatMap Enc.enc:List PV).length=n:=by rw[hfl];simpa using hb
 have c1:¬(pl:Int)<0:=DQ
 have hpb:pl<b.length:=DQ
 rw[hb]at hfit;refine zr func82 ntmps82 results82 λS nx hd=>?_
 refine D0 ?_;intro v0 v1 v2;refine D0 ?_;refine zt hpl ?_;refine⟨hk0,λv3=>?_⟩;refine D0 ?_;refine λhsuf=>ZdN (id:=nx+3) (ver:=v3) (e:=3) (l:=b.flatMap Enc.enc) rfl underlying26 DU (m:=n) rfl (by show PV.lst b.length _=_;rw[hll,hb]) (by rw[yb];rfl) (by simp[y8]) DQ ?_
 rw[hll,Nat.min_self,Ae DQ,AS (by simp[y8]),AD];refine⟨_,_,yk _ DQ DR,zN hsuf ?_⟩
 repeat apply za
 refine ze [(2,19)] (zo c1 hp) ?_;refine zk DR ?_;refine ze [] (zA f0 hpb hp) ?_;refine⟨by omega,?_⟩;rw[hset];refine zZ 3 rfl ?_;refine za (ze [] hb ?_);refine qi [] hfit hb ?_;exact D1 hd
open Go Go.Proofs Hp
structure InstK (x:Inst) (n:Nat):Prop where
 a:InstA x n
 kind:∀c∈x.cust,Zsr c
 start:∀c∈x.cust,c.start<=c.size
open Go Go.Proofs Hp
structure MayP (x:Inst):Prop where
 days:1<=x.days/\x.days<=64
 cust:x.cust.length<=2000
 veh:0<=x.veh/\x.veh<=2147483648
 cap:0<=x.cap/\x.cap<=2147483648
 len:0<=x.len/\x.len<=2147483648
 custs:∀c∈x.cust,jB c x.days=true
 dist:uQ x.dist (x.cust.length+1)=true
theorem WT{x:Inst}(h:yM x=true):MayP x:=by
 unfold yM at h;simp only[Av,Ax,decide_eq_true_eq,zM]at h;obtain⟨⟨⟨⟨⟨⟨h1,h2⟩,h3⟩,h4⟩,h5⟩,h6⟩,h7⟩:=h;exact⟨h1,h2,h3,h4,h5,h6,h7⟩
def Zut(c:Cust)(d:Int):Prop:=c.kind=1/\(1<=c.demand/\c.demand<=2147483648)/\(∀p∈c.pats,wH p d<0)/\(1<=c.pats.length/\c.pats.length<=64)/\c.rate=0/\c.size=0/\c.start=0/\c.rule=0/\c.hold=0
def Zuu(c:Cust):Prop:=c.kind=2/\(0<=c.rate/\c.rate<=2147483648)/\(1<=c.size/\c.size<=2147483648)/\(0<=c.start/\c.start<=c.size)/\(c.rule=1\/c.rule=2)/\(0<=c.hold/\c.hold<=1024)/\c.pats=[]/\c.demand=0
theorem ZaT{c:Cust}{d:Int}(h:jB c d=true):Zut c d\/Zuu c:=by
 unfold jB at h;split at h
 ·rename_i hk;simp only[Av,zM,decide_eq_true_eq,xx,vN,Ax]at h;obtain⟨⟨h1,h2,h3⟩,h4⟩:=h;exact .inl ⟨hk,h1,h2,by omega,h4⟩
 ·split at h
  ·rename_i hk;simp only[Av,zM,decide_eq_true_eq,vO,uo]at h;obtain⟨⟨⟨⟨⟨h1,h2⟩,h3⟩,h4⟩,h5⟩,h6,h7⟩:=h;exact .inr ⟨hk,h1,h2,h3,h4,h5,Aq h6,h7⟩
  ·cases h
theorem Zjk{p n:Nat}(h:wH p n<0):∀d∈yy p 0 64,d<n:=by
 have h0:yy p (n:Int).toNat 64=[]:=by
  unfold wH at h;cases e:yy p (n:Int).toNat 64 with
  | nil=>rfl
  | cons a l =>
   rw[e]at h;obtain⟨k,rfl,-⟩:=WD (p:=p) (a:=(n:Int).toNat) (k:=64) (d:=a) (by rw[e];simp);simp only[List.headD_cons]at h;omega
 grind[ZcR,List.filter_eq_nil_iff]
theorem Zuv{p n:Nat}(hp:p<2 ^ 64)(h:∀d∈yy p 0 64,d<(n:Int)):p<2 ^ n:=by
 apply Nat.lt_pow_two_of_testBit;intro i hi
 by_cases h64:i<64
 ·rw[Zap,decide_eq_false_iff_not];intro hb;have:(i:Int)∈yy p 0 64:=by
   simp only[yy,Al,Bj,AL,Av,decide_eq_true_eq];exact⟨i,⟨h64,by omega,hb⟩,rfl⟩
  grind
 ·exact CH (Bo hp (Cj DX DQ))
theorem Zjl(n:Nat):∀(l:List (List Int)) (a:Nat),wI n a l=true->∀r∈l,r.length=n/\∀z∈r,0<=z/\z<=2147483648
 | [],_,_=>by simp
 | row :: l,a,h=>by
  simp only[wI,Av,decide_eq_true_eq,Ax,zM]at h;obtain⟨⟨⟨h1,h2⟩,h3⟩,h4⟩:=h;intro r hr;rcases As.1 hr with rfl | hr
  ·simp_all
  ·exact Zjl n l (a+1) h4 r hr
theorem ZdR{x:Inst}(h:uQ x.dist (x.cust.length+1)=true):x.dist.length=x.cust.length+1/\(∀r∈x.dist,r.length=x.cust.length+1/\∀z∈r,0<=z/\z<=2147483648)/\q9 x/\arc x 0 0=0:=by
 unfold uQ at h;simp only[Av,decide_eq_true_eq]at h;have hr:=Zjl _ _ _ h.2;refine⟨h.1,hr,λa b=>?_,?_⟩
 ·unfold arc;split
  ·omega
  ·rw[Aa,Aa];cases e:x.dist[a.toNat]? with
   | none=>simp
   | some r =>
    rw[Option.getD_some];cases e2:r[b.toNat]? with
    | none=>simp
    | some z=>exact(hr r (Ab e)).2 z (Ab e2)
 ·obtain⟨h1,h2⟩:=h;cases e:x.dist<;>simp_all[wI,arc]
structure InstQ (x:Inst) (n:Nat):Prop where
 k:InstK x n
 m:yM x=true
 t:InstT x n
 six:x.cust.length<=6
 n7:n<=7
theorem Zuw{x:Inst}{n:Nat}(h:yM x=true)(hp:∀c∈x.cust,∀p∈c.pats,p<2 ^ 64)(hn:x.days=n)(h7:n<=7)(h6:x.cust.length<=6):InstQ x n:=by
 have hm:=WT h;obtain⟨d1,d2,d3,d4⟩:=ZdR hm.dist;have hc:=λc hc=>ZaT (hm.custs c hc)
 rw[hn]at hc;have hmade:∀c∈x.cust,CustMade c n:=λc hcm=>by
  rcases hc c hcm with ⟨k,a,b,l,r1,r2,r3,r4,r5⟩ | ⟨k,r,s,t,ru,ho,e,dm⟩
  ·exact⟨⟨by omega,by omega,by omega⟩,hp c hcm,by omega,λ_=>⟨λp hpm=>Zjk (b p hpm),by omega,by omega⟩⟩
  ·exact⟨⟨by omega,by omega,by omega⟩,hp c hcm,by rw[e];simp,λh=>by omega⟩
 have nm:∀z:Int,0<=z->z<=2147483648->ZF z:=λz a b=>⟨a,by omega⟩
 refine⟨⟨⟨⟨by omega,d4,d3,hm.veh.1⟩,hn,by omega,hmade,λc hcm=>?_⟩,λc hcm=>?_,λc hcm=>?_⟩,h,⟨hn,by have:=hm.days;omega,by omega,⟨nm _ hm.veh.1 hm.veh.2,nm _ hm.cap.1 hm.cap.2,nm _ hm.len.1 hm.len.2⟩,by omega,λc hcm=>?_,d1,λr hr=>⟨(d2 r hr).1,λz hz=>nm z ((d2 r hr).2 z hz).1 ((d2 r hr).2 z hz).2⟩⟩,h6,h7⟩
 ·rcases hc c hcm with ⟨k,a,b,l,r1,r2,r3,r4,r5⟩ | ⟨k,r,s,t,ru,ho,e,dm⟩<;>grind
 ·rcases hc c hcm with ⟨k,a,b,l,r1,r2,r3,r4,r5⟩ | ⟨k,r,s,t,ru,ho,e,dm⟩
  ·exact .inl ⟨k,r4⟩
  ·exact .inr ⟨k,ru⟩
 ·rcases hc c hcm with ⟨k,a,b,l,r1,r2,r3,r4,r5⟩ | ⟨k,r,s,t,ru,ho,e,dm⟩<;>omega
 ·rcases hc c hcm with ⟨k,a,b,l,r1,r2,r3,r4,r5⟩ | ⟨k,r,s,t,ru,ho,e,dm⟩
  ·exact⟨.inl ⟨k,nm _ DQ DQ,λp hpm=>Zuv (hp c hcm p hpm) (Zjk (b p hpm)),r1,r2,r3,r4,r5⟩⟩
  ·exact⟨.inr ⟨k,dm,e,nm _ DQ DQ,nm _ DQ DQ,nm _ DQ DQ,ru,nm _ DQ DQ⟩⟩
theorem Zux(x:Inst):∀c∈(yI x).cust,∀p∈c.pats,p<2 ^ 64:=λc hc=>((Zsj x).made c hc).pats
theorem Zuy(x:Inst){n:Nat}(hn:(yI x).days=n):InstQ (yI x) n:=Zuw (Zsp x) (Zux x) hn (by have:=WE x;omega) (Zcc x)
open Go Go.Proofs
theorem QL(a:Int):zO (W a):=by
 show -9223372036854775808<=IntKind.i64.wrap a/\IntKind.i64.wrap a<=9223372036854775807
 rw[AF];omega
def WU(x:Inst):Int:=vY (λk=>W ((vZ x).getD k 0*ZK (x.cust.getD k default) x.days x.cap)) x.cust.length
theorem Zuz(x:Inst)(hn:x.cust.length<=1048576)(hp:∀c∈x.cust,c.pats.length<=1048576):Pure prog 127 [.agg (zy x)] (I (WU x)):=by
 have hch:=Zuj x hn;have hAl:(vZ x).length=x.cust.length:=by simp[vZ]
 obtain⟨f,hf⟩:∃f:Nat->Int,f=λk=>W ((vZ x).getD k 0*ZK (x.cust.getD k default) x.days x.cap):=⟨_,rfl⟩
 have hbz:WU x=vY f x.cust.length:=by rw[hf];rfl
 have hf64:∀k,zO (f k):=λk=>by rw[hf];exact QL _
 rw[hbz];refine zr func127 ntmps127 results127 λS nx hd=>?_
 refine D0 ?_;intro v0;refine D0 ?_;intro v1;refine D0 ?_;refine zt hch ?_;have hsum:=ZdL (S:=ext S nx [.cells v0 25 (zy x),.cells v1 182 (Zg x yu yu (L (vZ x)))]) x 172 [.ptr (nx+1) v1 0] f hn hf64 (λk hk T hT=>by
  have hc:x.cust[k]?=some (x.cust.getD k default):=by rw[Aa,Af hk];rfl
  have ha:(vZ x)[k]?=some ((vZ x).getD k 0):=by rw[Aa,Af DQ];rfl
  have:=Zud (S:=T) (id:=nx+1) (ver:=v1) x yu yu (vZ x) k (by rw[hT _ (by rw[yb];simp),yb];rfl) hn hc (hp _ (Ab hc)) ha;rw[hf];exact this)
 refine D0 ?_;refine λhsuf=>(hsum.mono ?_).v
 rintro _ _ ⟨rfl,rfl⟩;refine⟨_,_,rfl,zN hsuf ?_⟩;exact D1 hd
def YZ(x:Inst):Nat->Int
 | 0=>0
 | k+1=>jk (YZ x k) (ZK (x.cust.getD k default) x.days x.cap)
def ZaU(x:Inst):Int:=vY (λk=>ZL (x.cust.getD k default) x.days x.cap) x.cust.length
def Y0(x:Inst):Int:=if 0<x.cap then jk (YZ x x.cust.length) (XH (ZaU x) x.cap) else YZ x x.cust.length
theorem ZuA(x:Inst)(hn:x.cust.length<=1048576)(hp:∀c∈x.cust,c.pats.length<=1048576)(h64:∀k,zO (ZL (x.cust.getD k default) x.days x.cap)):Pure prog 122 [.agg (zy x)] (I (Y0 x)):=by
 have hat:∀k,k<x.cust.length->x.cust[k]?=some (x.cust.getD k default):=λk hk=>by rw[Aa,Af hk];rfl
 refine zr func122 ntmps122 results122 λS nx hd=>?_
 refine D0 ?_;intro v0;refine D0 ?_;intro v1;refine D0 ?_
 repeat apply za
 refine zb ?_;refine zj (zC (λs:Nat × Nat × Nat=>s.1<=x.cust.length) (λ(k,v,w)=>[(1,.ptr nx v 0),(3,.ptr (nx+1) w 0),(4,I (YZ x k)),(13,I x.cust.length),(14,I k)]) (λ(k,v,w)=>[.cells v 25 (zy x),.cells w 182 (Zg x yu yu yu)]) (λs=>x.cust.length-s.1) (0,v0,v1) [] DR (by simp[YZ]) DR ?_);rintro⟨k,v,w⟩ hk;simp only at hk ⊢;refine D0 ?_;refine za (zv rfl (λhc=>?_) (λhc=>?_))
 ·simp at hc;refine zh (za (zj (D0 ?_)));refine zb ?_;refine λhsuf=>((ZdM x yu yu yu k (by rw[yb];rfl) hn (hat k hc) (hp _ (Ab (hat k hc)))).mono ?_).v
  rintro _ _ ⟨rfl,rfl⟩;refine⟨_,_,rfl,zN hsuf ?_⟩;refine zb ?_;exact zq (k+1,v,w) [] hc DV (by simp[zu k (by omega),YZ]) rfl DR
 ·simp at hc;obtain rfl:k=x.cust.length:=DQ
  refine zx ?_
  repeat apply za
  refine zb ?_;have hsum:=λv w=>ZdL (S:=ext S nx [.cells v 25 (zy x),.cells w 182 (Zg x yu yu yu)]) x 166 [.ptr (nx+1) w 0] (λk=>ZL (x.cust.getD k default) x.days x.cap) hn h64 (λk hk T hT =>
   Zue (S:=T) (id:=nx+1) (ver:=w) x yu yu yu k (by rw[hT _ (by rw[yb];simp),yb];rfl) hn (hat k hk) (hp _ (Ab (hat k hk))))
  have hsv:=hsum v w;rw[show vY (λk=>ZL (x.cust.getD k default) x.days x.cap) x.cust.length=ZaU x from rfl]at hsv;have hres:Y0 x=if 0<x.cap then jk (YZ x x.cust.length) (XH (ZaU x) x.cap) else YZ x x.cust.length:=rfl
  generalize Y0 x=res at *;generalize YZ x x.cust.length=mo at *;generalize ZaU x=ne at *
  by_cases hcap:0<x.cap
  ·rw[if_pos hcap]at hres;have hceil:=Zja ne x.cap hcap;refine zk (by simp[hcap]) ?_;refine za (zz (some [nx]) (Row.pures [0,1,2,4,5] (.alt 3 (Row.pures [6,7,8,9,10,11] .done) .stop)) mixed trivial ?_);refine(hsv.mono ?_).v;rintro _ _ ⟨rfl,rfl⟩;refine⟨by simp[yK],jy trivial ?_⟩;refine zH (hceil) trivial ?_;refine zb ?_;refine D0 ?_;exact zg (zi hd DT (by rw[hres];rfl))
  ·rw[if_neg hcap]at hres;refine zm DV ?_;refine zh (D0 ?_);exact zg (zi hd DT (by rw[hres];rfl))
open Go Go.Proofs
theorem Zjm{α:Type}(l:List α)(a q i:Nat)(h:a+q<=l.length):(l.take a++(l.take q++l.drop (a+q)))[i]?=l[if i<a then i else if i<a+q then i-a else i]?:=by
 by_cases h1:i<a
 ·grind
 ·rw[if_neg h1,Am DV,Aw,Be DQ]
  grind
theorem ZuB{P:Program}{n:Nat}{F:Nat->PV}{S:Store}{o:Oper}{s x:Operand}{t e m k0 off id ver et:Nat}{cs:List PV}{K:PV->Store->Prop}(ho:o.op=.call { callee:=.builtin .copy,args:=#[s,x],argTypes:=#[t,t] })(ht:P.underlying t=some (.slice e))(hz:(P.info? e).map (·.size)=some 1)
  (hs:ev F s=.sl id ver 1 off m) (hx:ev F x=.sl id ver 1 0 k0) (hid:S id=.cells ver et cs) (hm:off+m=cs.length) (hm0:0<m) (hk:k0<=cs.length) (hk0:0<k0)
  (hK:K (I (min k0 m:Nat)) (S.set id (.cells ver et (cs.take off++(cs.take (min k0 m)++cs.drop (off+min k0 m)))))):PO P wv n o F S K:=by
 intro G hG C w a N st next Q' hnext;have e1:=st.ev s;rw[(hG s (by grind[Op.operands,Call.operands])).trans hs]at e1;have e2:=st.ev x;rw[(hG x (by grind[Op.operands,Call.operands])).trans hx]at e2;have hnd:∀c,o.op≠.defer c:=by intro c hc;rw[ho]at hc;cases hc
 generalize hv:a.eval s=v at e1;generalize hu:a.eval x=u at e2;cases e1 with
 | sl i1 i2 i3 =>
  rcases (i3 ver (by rw[hid];rfl)).2 rfl with ⟨_,q,_,_⟩ | ⟨b,k,ad,dcap,hl,rfl,_,hq0⟩
  ·omega
  obtain rfl:=hq0 DQ;cases e2 with
  | sl j1 j2 j3 =>
   rcases (j3 ver (by rw[hid];rfl)).2 rfl with ⟨_,q,_,_⟩ | ⟨b2,k2,ad2,scap,hl2,rfl,_,hq2⟩
   ·omega
   rw[hl]at hl2;cases hl2;obtain rfl:=hq2 DQ;rcases st.sim.cells id ver et cs hid with ⟨hn,_⟩ | ⟨b',k',c,g1,g2,g3,g4,g5,g6⟩
   ·simp_all
   rw[hl]at g1;cases g1;obtain⟨vs,hvs⟩:∃vs,vs=c.toList.take (min k0 m):=⟨_,rfl⟩;have hcs:c.toList.length=c.size:=Array.length_toList;have hvl:vs.length=min k0 m:=by rw[hvs,Aw];omega
   have hat:∀(j:Nat) (v:Value),vs[j]?=some v->j<min k0 m/\c[j]?=some v:=λj v hj=>by
    rw[hvs,BG]at hj;split at hj
    ·rename_i hlt;rw[Array.getElem?_toList]at hj;exact⟨hlt,hj⟩
    ·cases hj
   have hcell:∀j v,vs[j]?=some v->w.cell? ((⟨b,0,none⟩:Addr).add j)=some v:=λj v hj=>by
    obtain⟨q1,q2⟩:=hat j v hj;rw[Addr.add_plain];simp[World.cell?,g2,q2]
   have hone:∀v∈vs,v.oneCell'=true:=λv hv'=>by
    obtain⟨j,hj⟩:=B7 hv';obtain⟨q1,q2⟩:=hat j v hj;exact g5 j v DQ q2
   have hrun0:=run_copy_row P w t t o.type e b off m dcap ⟨b,0,none⟩ k0 scap c et vs ht hz g2 (by rw[hvl]) hcell DQ hone;have hrun:=WS (P:=P) (a:=a) (w:=w) ho (by rw[hv,hu];exact hrun0);rw[hvl,List.append_assoc,hvs]at hrun;generalize hw':w.setRow b (c.toList.take off++(c.toList.take (min k0 m)++c.toList.drop (off+min k0 m))).toArray=w' at hrun;have hheap:w'.heap[b]?=some (.cells (c.toList.take off++(c.toList.take (min k0 m)++c.toList.drop (off+min k0 m))).toArray et (0,0)):=by rw[<-hw'];exact setRow_heap w b c _ et _ g2
   have hgr:w.grownBy w' (some b)/\w.drawn<=w'.drawn:=by
    rw[<-hw'];exact⟨⟨rfl,rfl,rfl,by simp,λj hj hne=>setRow_other w b j _ (λe=>hne (by rw[e]))⟩,Ag _⟩
   have hV:=λi=>Zjm c.toList off (min k0 m) i DQ
   have hP:=λi=>Zjm cs off (min k0 m) i DQ
   have hVl:(c.toList.take off++(c.toList.take (min k0 m)++c.toList.drop (off+min k0 m))).length=c.size:=DV
   have hPl:(cs.take off++(cs.take (min k0 m)++cs.drop (off+min k0 m))).length=cs.length:=DV
   generalize c.toList.take off++(c.toList.take (min k0 m)++c.toList.drop (off+min k0 m))=V at *;generalize cs.take off++(cs.take (min k0 m)++cs.drop (off+min k0 m))=cs' at *;have hphi:∀i,i<cs.length->(if i<off then i else if i<off+min k0 m then i-off else i)<cs.length:=λi hi=>by split<;>(try split)<;>omega
   obtain⟨t1,t2⟩:=st.sim.turn (l:=C.loc id) (ver':=ver) (cs':=cs') hid (Ag _) (λ_=>rfl) (by rw[hl];exact hgr)
    (.inr ⟨b,k,_,hl,.inr (by rw[hl];rfl),hheap,by simp;omega,by omega,λi z hi hz=>by
      rw[AC,hV i,Array.getElem?_toList]at hz;exact g5 _ z (hphi i DQ) hz,
     λi p z hp hz=>by
      rw[AC,hV i,Array.getElem?_toList]at hz;rw[hP i]at hp;exact g6 _ p z hp hz⟩)
   exact qh hnd hrun (hnext _ _ _ _ _ hK (.sc _) t1 t2)
open Go Go.Proofs
theorem ZuC(n:Nat)(hn:n<=1048576):Pure prog 206 [U 1,U n] (.tup [U 0,U n]):=by
 intro S;refine⟨Zln,λC w us hS hl' hr=>?_⟩;obtain⟨u0,u1,rfl⟩:=Zix hl';have r0:=hr 0 _ u0 rfl rfl;have r1:=hr 1 _ u1 rfl rfl;cases r0;cases r1;have h1:1*n / 18446744073709551616=0:=DQ
 have h2:1*n % 18446744073709551616=n:=DQ
 have hm:=bits_Mul 1 n DQ DQ w;rw[h1,h2]at hm;refine hm.mono ?_;rintro _ _ ⟨rfl,rfl⟩;refine⟨_,_,S,C,rfl,⟨rfl,rfl⟩,.tup rfl λj c v h1 h2=>?_,hS,.refl _ _ _⟩
 match j,h1,h2 with
 | 0,h1,h2=>cases h1;cases h2;exact .sc _
 | 1,h1,h2=>cases h1;cases h2;exact .sc _
theorem ZuD(p:Int)(m:Nat):(List.replicate m p).flatMap Enc.enc=List.replicate m (I p):=by
 induction m with
 | zero=>rfl
 | succ m ih=>rw[BC,Az,ih];rfl
theorem ZuE(p:Int)(n:Nat)(h1:1<=n)(hn:n<=1000):Pure prog 168 [L [p],I n] (L (List.replicate n p)):=by
 have hmul:=ZuC n DQ;have c0:¬(n:Int)<0:=DQ
 have w1:IntKind.u64.wrap (n:Int)=n:=by simp only[IntKind.wrap,IntKind.bits,IntKind.signed];simp;omega
 have w2:IntKind.i64.wrap (n:Int)=n:=by rw[AF];omega
 have c1:¬(9223372036854775807:Int)<n:=DQ
 refine zr func168 ntmps168 results168 λS nx hd=>?_
 refine D0 ?_
 repeat apply za
 refine ze [] c0 ?_;refine zm DR ?_;refine zh ?_;have w3:IntKind.u64.wrap 1=1:=DX
 refine za (ze [] (zo w1 w3) ?_);refine zt hmul ?_
 repeat apply za
 refine ze [(2,23)] c1 ?_;refine zm DR ?_;refine zh (za (ze [] w2 ?_));refine⟨by omega,λv0=>?_⟩;refine D0 ?_;refine λhsuf=>ZdN (id:=nx) (ver:=v0) (e:=3) (l:=[I p]) rfl underlying26 DU (m:=n) rfl rfl (by rw[Zn];rfl) (by simp[y8]) h1 ?_
 have hrow:List.take n [I p]++List.drop (min [I p].length n) (y8 n (.int .i64 0))=List.replicate 1 (I p)++List.replicate (n-1) (I 0):=by
  rw[Ae DV];have:min [I p].length n=1:=DV
  have hz:y8 n (.int .i64 0)=List.replicate n (I 0):=by
   apply A7
   ·simp[y8]
   ·intro i q1 q2;simp[y8,Nat.mod_one]
  rw[this,hz,List.drop_replicate];rfl
 have hmin:min [I p].length n=1:=DV
 rw[hrow,hmin];refine⟨_,_,yk _ (Ag _) DR,zN hsuf ?_⟩;refine za (zj (zC (λm:Nat=>1<=m/\m<=n) (λm=>[(7,.sl nx v0 1 0 n),(8,I m)]) (λm=>[.cells v0 3 (List.replicate m (I p)++List.replicate (n-m) (I 0))]) (λm=>n-m) 1 [] ⟨Ag _,h1⟩ DR DR ?_));rintro m ⟨hm1,hmn⟩
 repeat apply za
 refine zb ?_
 by_cases hc:m<n
 ·repeat apply za
  refine zk DV ?_;refine zh (zj ?_);have hlen:(List.replicate m (I p)++List.replicate (n-m) (I 0):List PV).length=n:=DV
  obtain⟨q,hq⟩:∃q,q=min m (n-m):=⟨_,rfl⟩;have hrow2:(List.replicate m (I p)++List.replicate (n-m) (I 0):List PV).take m++((List.replicate m (I p)++List.replicate (n-m) (I 0):List PV).take q++(List.replicate m (I p)++List.replicate (n-m) (I 0):List PV).drop (m+q))=List.replicate (m+q) (I p)++List.replicate (n-(m+q)) (I 0):=by
   have e1:(List.replicate m (I p)++List.replicate (n-m) (I 0):List PV).take m=List.replicate m (I p):=List.take_left' DR;have e2:(List.replicate m (I p)++List.replicate (n-m) (I 0):List PV).take q=List.replicate q (I p):=by rw[Bu DV,List.take_replicate,Be DQ]
   have e3:(List.replicate m (I p)++List.replicate (n-m) (I 0):List PV).drop (m+q)=List.replicate (n-(m+q)) (I 0):=by rw[Cx,AS DR,AN,Ch,List.drop_replicate];congr 1;omega
   rw[e1,e2,e3,<-List.append_assoc,List.replicate_append_replicate]
  have hq1:1<=q:=DQ
  have hqn:m+q<=n:=DQ
  have wq:IntKind.i64.wrap ((m:Int)+q)=((m+q:Nat):Int):=by rw[AF];omega
  refine zz (some []) (Row.pures [0,1,2,3,4,5,6] (.alt 7 (Row.pures [8,9] .done) .stop)) mixed hmn ?_;refine⟨by rfl,(ZuB (id:=nx) (ver:=v0) (off:=m) (m:=n-m) (k0:=m) (e:=3) rfl underlying26 DU rfl rfl (by rw[Zn];rfl) (by rw[hlen];omega) DQ (by rw[hlen];omega) DQ ?_)⟩;rw[<-hq,hrow2,yk _ (Ag _) DR];refine⟨by simp[yK],jy wq ?_⟩;exact zq (m+q) [] ⟨by omega,hqn⟩ DQ DR rfl DR
 ·obtain rfl:m=n:=DQ
  refine zm DR ?_;refine zx (zZ 0 rfl ?_);rw[BA,List.replicate_zero,AD];have hfl:=ZuD p m;refine D0 ?_;exact zg (zi hd DT (by simp[zn,hfl]))
open Go Go.Proofs
def Yi(x:Inst)(n:Nat)(a b:List Int)(k:Nat):Int:=QJ n x.cap (x.cust.getD k default) (List.replicate n (W (a.getD (k+1) 0+b.getD (k+1) 0)))
structure BndOk (x:Inst) (n:Nat):Prop where
 days:x.days=n
 n1:1<=n
 n60:n<=60
 ncust:x.cust.length<=1048576
 pats:∀c∈x.cust,c.pats.length<=1000
 made:∀c∈x.cust,CustMade c n
 fits:∀c∈x.cust,CustFits c
 vis:∀c∈x.cust,∀price:List Int,price.length<=1000->(∀z∈price,zO z)->VisOk (qE n x.cap c price).1
theorem ZuF{S:Store}{id ver:Nat}(x:Inst)(n:Nat)(a b:List Int)(ch:PV)(k:Nat)(hx:BndOk x n)(hk:k<x.cust.length)(ha:a.length=x.cust.length+1)(hb:b.length=x.cust.length+1)(hS:S id=.cells ver 182 (Zg x (L a) (L b) ch)):
  Spec prog 125 [.ptr id ver 0,I k] S (λq S'=>q=I (Yi x n a b k)/\S'=S):=by
 have hpr:=Zug x a b k hk hx.ncust ha hb;unfold Yi;have hc:x.cust[k]?=some (x.cust.getD k default):=by rw[Aa,Af hk];rfl
 have hm:=Ab hc;obtain⟨t,tl,b1,b2,b3,f0,f1⟩:=el 8 rfl x.cust k hk;obtain rfl:t=x.cust.getD k default:=by rw[hc]at b1;exact(Option.some.inj b1).symm
 have hp64:=QL (a.getD (k+1) 0+b.getD (k+1) 0);generalize W (a.getD (k+1) 0+b.getD (k+1) 0)=p at *;generalize x.cust.getD k default=c at *;have hrep:=ZuE p n hx.n1 (by have:=hx.n60;omega);have hr64:∀z∈List.replicate n p,zO z:=λz hz=>by rw[(List.mem_replicate.1 hz).2];exact hp64
 have hrl:(List.replicate n p).length<=1000:=by rw[Ch];have:=hx.n60;omega
 have hbd:Pure prog 170 [.agg (zV c),I n,I x.cap,L (List.replicate n p)] (I (QJ n x.cap c (List.replicate n p))):=λS=>Zuf c n x.cap (.inl rfl) hr64 hrl (hx.made c hm) (hx.pats c hm) hx.n60 (hx.fits c hm) (hx.vis c hm _ hrl hr64)
 generalize QJ n x.cap c (List.replicate n p)=res at *;have hdays:=hx.days;generalize List.replicate n p=pl at *;rw[<-hdays]at hrep hbd;refine yl func125 ntmps125 results125 λnx hd=>?_
 have hlt:id<nx:=qO hd hS DR;have x1:∀obs,ext S nx obs id=.cells ver 182 (Zg x (L a) (L b) ch):=λobs=>(zD hlt).trans hS
 refine D0 ?_;refine za (zz (some [id]) (Row.pures [0,1,2,3,4,5,6,7,8,9,10,11,12,13,14,15,16,17] .done) mixed x1 ?_);refine zH (hpr) x1 ?_;refine zH (hrep) x1 ?_;refine za (zz (some [id]) (Row.pures [0,1,2,3,4,5,6,7,8,9,10,11,12,13,14,15,16,17,18,19,20] .done) mixed (zJ x1 hk f0 f1) ?_);refine zH (hbd) trivial ?_;exact D1 hd
def Y1(x:Inst)(a b:List Int):Int:=if (YU (W (a.getD 0 0+b.getD 0 0)) (Y0 x)).2=true then (YU (W (a.getD 0 0+b.getD 0 0)) (Y0 x)).1 else 9223372036854775807
def JE(x:Inst)(n:Nat)(a b:List Int):Int:=vg (vY (Yi x n a b) x.cust.length) (Y1 x a b)
theorem Zjn(x:Inst)(n:Nat)(a b:List Int)(hx:BndOk x n)(h64:∀k,zO (ZL (x.cust.getD k default) x.days x.cap))(hal:∀k,zO (Yi x n a b k))(hcar:zO (Y1 x a b))(ha:a.length=x.cust.length+1)(hb:b.length=x.cust.length+1):
  Pure prog 79 [.agg (zy x),.agg [L a,L b]] (I (JE x n a b)):=by
 have hle:=ZuA x hx.ncust (λc hc=>by have:=hx.pats c hc;omega) h64;have hmu:=Zt8 (W (a.getD 0 0+b.getD 0 0)) (Y0 x);have hsat:=Zai (vY (Yi x n a b) x.cust.length) (Y1 x a b) (Zjc _ _) hcar;have hv:JE x n a b=vg (vY (Yi x n a b) x.cust.length) (Y1 x a b):=rfl;rw[hv];have hcz:Y1 x a b=if (YU (W (a.getD 0 0+b.getD 0 0)) (Y0 x)).2=true then (YU (W (a.getD 0 0+b.getD 0 0)) (Y0 x)).1 else 9223372036854775807:=rfl
 obtain⟨t,tl,b1,b2,b3,f0⟩:=zE rfl a 0 DQ;obtain⟨u,tl2,c1,c2,c3,f1⟩:=zE rfl b 0 DQ;have e1:a.getD 0 0=t:=by rw[Aa,b1];rfl
 have e2:b.getD 0 0=u:=by rw[Aa,c1];rfl
 rw[e1,e2]at hmu hcz;have hka:0<a.length:=DQ
 have hkb:0<b.length:=DQ
 have hsumv:∀(S:Store) (id ver:Nat),S id=.cells ver 182 (Zg x (L a) (L b) yu)->Spec prog 124 [.agg (zy x),.fn (.func 125) [.ptr id ver 0] []] S (λq S'=>q=I (vY (Yi x n a b) x.cust.length)/\S'=S):=λS id ver hS =>
  ZdL (S:=S) x 125 [.ptr id ver 0] (Yi x n a b) hx.ncust hal (λk hk T hT=>ZuF (S:=T) (id:=id) (ver:=ver) x n a b yu k hx hk ha hb (by rw[hT _ (by rw[hS];simp),hS]))
 generalize vY (Yi x n a b) x.cust.length=su at *;generalize Y0 x=le at *;generalize Y1 x a b=ca at *;generalize YU (W (t+u)) le=mz at *;obtain⟨mv,mok⟩:=mz;simp only at hmu hcz;refine zr func79 ntmps79 results79 λS nx hd=>?_
 refine D0 ?_;intro v0 v1;refine D0 ?_;intro v2;refine za (zz (some [nx,nx+1]) (Row.pures [0,1,2,3,4,5,6,7,8,9,10,11,12,13,14,15,16] .done) mixed (zJ f0 f1 hka hkb) ?_);refine zH (hle) (zJ f0 f1 hka hkb) ?_;refine zH (hmu) (zJ f0 f1 hka hkb) ?_
 repeat apply za
 refine zb ?_;cases mok with
 | true =>
  obtain rfl:ca=mv:=by rw[hcz];exact if_pos rfl
  refine zm DR ?_;refine zh (D0 ?_);refine λhsuf=>((hsumv _ (nx+2) v2 (by rw[yb];rfl)).mono ?_).v
  rintro _ _ ⟨rfl,rfl⟩;refine⟨_,_,rfl,zN hsuf ?_⟩;refine λhsuf=>((hsat _).mono ?_).v
  rintro _ _ ⟨rfl,rfl⟩;refine⟨_,_,rfl,zN hsuf ?_⟩;exact D1 hd
 | false =>
  obtain rfl:ca=9223372036854775807:=by rw[hcz];exact if_neg DR
  refine zk DR ?_;refine zb ?_;refine D0 ?_;refine λhsuf=>((hsumv _ (nx+2) v2 (by rw[yb];rfl)).mono ?_).v
  rintro _ _ ⟨rfl,rfl⟩;refine⟨_,_,rfl,zN hsuf ?_⟩;refine λhsuf=>((hsat _).mono ?_).v
  rintro _ _ ⟨rfl,rfl⟩;refine⟨_,_,rfl,zN hsuf ?_⟩;exact D1 hd
def WV(x:Inst)(n:Nat)(a b:List Int):Int:=jk (JE x n a b) (WU x)
theorem ZuG(x:Inst)(n:Nat)(a b:List Int)(hx:BndOk x n)(h64:∀k,zO (ZL (x.cust.getD k default) x.days x.cap))(hal:∀k,zO (Yi x n a b k))(hcar:zO (Y1 x a b))(ha:a.length=x.cust.length+1)(hb:b.length=x.cust.length+1):
  Pure prog 83 [.agg (zy x),.agg [L a,L b]] (I (WV x n a b)):=by
 have hva:=Zjn x n a b hx h64 hal hcar ha hb;have hba:=Zuz x hx.ncust (λc hc=>by have:=hx.pats c hc;omega);have hz:WV x n a b=jk (JE x n a b) (WU x):=rfl;generalize WV x n a b=z at *;generalize JE x n a b=va at *;generalize WU x=ba at *;refine zr func83 ntmps83 results83 λS nx hd=>?_
 refine D0 ?_;intro v0 v1;refine za (zz (some [nx,nx+1]) (Row.pures [0,1,2,3,4,5,6] .done) mixed trivial ?_);refine zH (hva) trivial ?_;refine zH (hba) trivial ?_;exact zg (zi hd DT (by rw[hz];rfl))
open Go Go.Proofs Hp
theorem ZuH{n:Nat}{cap:Int}{c:Cust}{price:List Int}(h:(qE n cap c price).2=false):(qE n cap c price).1=[]:=by
 unfold qE at h ⊢;split at h
 ·rename_i hk;rw[if_pos hk];unfold ZB at h ⊢;split at h
  ·rename_i h1;rw[if_pos h1]
  ·cases h
 ·rename_i hk;rw[if_neg hk];split at h
  ·rename_i hr;rw[if_pos hr];unfold YO at h ⊢;split at h
   ·rename_i h1;rw[if_pos h1]
   ·cases h
  ·rename_i hr;rw[if_neg hr];unfold Jq at h ⊢;split at h
   ·cases h
   ·rename_i h1;rw[if_neg h1];split at h
    ·cases h
    ·rename_i h2;rw[if_neg h2]
theorem ZuI{c:Cust}{n:Nat}(hm:CustMade c n)(hn:n<=60)(cap:Int)(price:List Int):VisOk (qE n cap c price).1:=by
 cases h:(qE n cap c price).2 with
 | false=>rw[ZuH h];exact⟨by simp,by simp,by simp⟩
 | true =>
  have hg:=ZaD hm hn cap price h;exact⟨by have:=hg.len;omega,λs hs=>by have:=hg.ok s hs;omega,λs hs=>by have:=hg.ok s hs;unfold zO;omega⟩
theorem ZuJ{x:Inst}{n:Nat}(h:InstQ x n):BndOk x n :=
 ⟨h.k.a.days,h.t.n1,h.k.a.n60,by have:=h.six;omega,h.k.a.pats,h.k.a.made,λc hc=>(h.k.a.made c hc).fits,λc hc price _ _=>ZuI (h.k.a.made c hc) h.k.a.n60 _ _⟩
theorem ZaV:zO 0:=⟨by decide,by decide⟩
theorem Zjo(c:Cust)(n cap:Int):zO (ZL c n cap):=by
 unfold ZL;split
 ·exact QL _
 ·unfold JA jk;split
  ·exact ZaV
  ·exact QL _
theorem ZuK(price:List Int)(v:List Visit):zO (QB price v):=by
 have:∀(v:List Visit) (s:Int),zO s->zO (v.foldl (λs w=>W (s+YL price w.d)) s):=by
  intro v
  induction v with
  | nil=>intro s h;exact h
  | cons w v ih=>intro s _;exact ih _ (QL _)
 exact this v 0 ZaV
theorem Zjp(n:Nat)(cap:Int)(c:Cust)(price:List Int):zO (QJ n cap c price):=by
 unfold QJ;split
 ·unfold Yb;split
  ·exact ZuK _ _
  ·exact QL _
 ·unfold ZaQ;split<;>exact QL _
theorem Zjq(x:Inst)(a b:List Int):zO (Y1 x a b):=by
 unfold Y1;split
 ·unfold YU;split
  ·exact ZaV
  ·split
   ·exact ZaV
   ·exact QL _
 ·exact⟨by decide,by decide⟩
theorem ZuL{x:Inst}{n:Nat}(h:BndOk x n)(a b:List Int)(ha:a.length=x.cust.length+1)(hb:b.length=x.cust.length+1):
  Pure prog 79 [.agg (zy x),.agg [L a,L b]] (I (JE x n a b)) :=
 Zjn x n a b h (λk=>Zjo _ _ _) (λk=>Zjp _ _ _ _) (Zjq x a b) ha hb
theorem ZuM{x:Inst}{n:Nat}(h:BndOk x n)(a b:List Int)(ha:a.length=x.cust.length+1)(hb:b.length=x.cust.length+1):
  Pure prog 83 [.agg (zy x),.agg [L a,L b]] (I (WV x n a b)) :=
 ZuG x n a b h (λk=>Zjo _ _ _) (λk=>Zjp _ _ _ _) (Zjq x a b) ha hb
open Go Go.Proofs
structure Clm where
 i:List Int
 m:Int
 s:Int
def Zi(x:Inst)(c:Clm):Nat:=jN c.s (x.cust.length+1)
def XJ(x:Inst)(c:Clm):Nat:=jN (yJ c.s) ((c.i.getD (Zi x c) 0).toNat+1)
def Y2(x:Inst)(c:Clm):List Int:=xL x (c.i.set (Zi x c) (W (c.i.getD (Zi x c) 0-XJ x c)))
def Y3(x:Inst)(n:Nat)(i:List Int):Int:=JE x n (xE x i) i
def WX(x:Inst)(n:Nat)(c:Clm):Clm:=if c.m<Y3 x n (Y2 x c) then ⟨Y2 x c,Y3 x n (Y2 x c),yJ (yJ c.s)⟩ else ⟨c.i,c.m,yJ (yJ c.s)⟩
def XK(x:Inst):List Int:=xL x (List.replicate (x.cust.length+1) 2147483648)
def wg(x:Inst)(n:Nat)(s:Int):Nat->Clm
 | 0=>⟨XK x,Y3 x n (XK x),IntKind.u64.wrap s⟩
 | k+1=>WX x n (wg x n s k)
def WY(x:Inst)(n:Nat)(s:Int)(k:Nat):Int:=WV x n (xE x (wg x n s k).i) (wg x n s k).i
def ZaW(x:Inst)(i:List Int):Prop:=i.length=x.cust.length+1/\∀z∈i,0<=z/\z<=2147483648
theorem Zjr{x:Inst}(ha:q9 x)(l:List Int):ZaW x (xL x l):=by
 refine⟨ZaS x l,λz hz=>?_⟩;unfold xL at hz;obtain⟨b,-,rfl⟩:=Al.1 hz;have:=Zup (f:=λa=>arc x a b) (p:=b) (lo:=0) (hi:=2147483648) DX DX (λk=>ha k b) (x.cust.length+1);omega
theorem ZuN{x:Inst}(ha:q9 x){n:Nat}{c:Clm}(h:ZaW x c.i):ZaW x (WX x n c).i:=by
 unfold WX;split
 ·exact Zjr ha _
 ·exact h
theorem ZdS{x:Inst}(ha:q9 x)(n:Nat)(s:Int):∀k,ZaW x (wg x n s k).i
 | 0=>Zjr ha _
 | k+1=>ZuN ha (ZdS ha n s k)
theorem ZuO{x:Inst}{n:Nat}(hx:BndOk x n)(ha:q9 x)(s:Int)(b:Nat)(hb:b<=1000):
  ∃pa pb,Pure prog 34 [.agg (zy x),I s,I b] (.tup [.agg [pa,pb],I (WY x n s b)]):=by
 refine⟨L (xE x (wg x n s b).i),L (wg x n s b).i,?_⟩;have hn:=hx.ncust;have e0:wg x n s 0=⟨XK x,Y3 x n (XK x),IntKind.u64.wrap s⟩:=rfl;have hval:∀i:List Int,i.length=x.cust.length+1->Pure prog 79 [.agg (zy x),.agg [L (xE x i),L i]] (I (Y3 x n i)):=λi hi=>by unfold Y3;exact ZuL hx (xE x i) i (ZdP x i) hi
 have hfi:Pure prog 77 [.agg (zy x)] (.agg [L (xE x (wg x n s 0).i),L (wg x n s 0).i]):=by rw[e0];dsimp only;unfold XK;exact Zur x hn
 have hv0:Pure prog 79 [.agg (zy x),.agg [L (xE x (wg x n s 0).i),L (wg x n s 0).i]] (I (wg x n s 0).m):=by rw[e0];dsimp only;exact hval _ (by unfold XK;exact ZaS x _)
 have hbest:Pure prog 83 [.agg (zy x),.agg [L (xE x (wg x n s b).i),L (wg x n s b).i]] (I (WY x n s b)):=by unfold WY;exact ZuM hx _ _ (ZdP x _) (ZdS ha n s b).1
 have hclip:Pure prog 80 [I b,I 0,I 1000] (I b):=by
  have:=Xj b 0 1000
  rwa[show min (max (b:Int) 0) 1000=b by omega]at this
 have hs0:(wg x n s 0).s=IntKind.u64.wrap s:=by rw[e0]
 clear e0;have hstep:∀k,wg x n s (k+1)=WX x n (wg x n s k):=λ_=>rfl
 have hok:=ZdS ha n s;have hlow:=λ(b:List Int) (pl:Nat) (d:Int) hb hp=>Zus x (xE x b) b pl d hn hb hp
 have hfo:∀l,(xL x l).length=x.cust.length+1:=ZaS x;generalize WY x n s b=res at *;generalize wg x n s=C at *;generalize xE x=O at *;refine zr func34 ntmps34 results34 λS nx hd=>?_
 refine D0 ?_;intro v0 v1;refine D0 ?_;refine zt hfi ?_;refine λhsuf=>((Zi0 s jP).mono ?_).v
 rintro _ _ ⟨v2,rfl,rfl⟩;refine⟨_,_,qY _,zN hsuf ?_⟩;intro v3;rw[<-hs0];refine D0 ?_;refine zt hv0 ?_
 repeat apply za
 refine zb ?_;refine zt hclip ?_;refine zj (zC (λk:Nat=>k<=b) (λk=>[(3,.ptr nx v0 0),(6,.ptr (nx+1) v1 0),(8,.ptr (nx+3) v3 0),(9,.ptr (nx+2) v2 0),(10,I (C k).m),(23,I b),(24,I k)]) (λk=>[.cells v0 25 (zy x),.cells v1 68 [.sc (.slice none 0 0),.sc (.slice none 0 0)],.cells v2 179 (jX (C k).s),.cells v3 68 [L (O (C k).i),L (C k).i]]) (λk=>b-k) 0 [] DR DR DR ?_);rintro k hk;refine D0 ?_;refine za (zv rfl (λhc=>?_) (λhc=>?_))
 ·simp at hc;have hst:=hstep k;obtain⟨hl,hbd⟩:=hok k;generalize hCk:C k=c at *;refine zh (za (zj ?_));have hpl:Zi x c<x.cust.length+1:=Jv _ DQ;have hb1:=λ(S:Store) hS=>WQ c.s (x.cust.length+1) DQ DQ (S:=S) (id:=nx+2) (v:=v2) hS
  have hpe:jN c.s (x.cust.length+1)=Zi x c:=rfl;rw[hpe]at hb1;have w1:IntKind.i64.wrap ((x.cust.length:Int)+1)=((x.cust.length+1:Nat):Int):=by rw[AF];omega
  obtain⟨t,tl,b1,b2,b3,f0⟩:=zE rfl c.i (Zi x c) DQ;have hte:c.i.getD (Zi x c) 0=t:=by rw[Aa,b1];rfl
  have htb:=hbd t (Ab b1);obtain⟨t1,ht1⟩:∃t1:Nat,(t1:Int)=t+1:=⟨(t+1).toNat,by omega⟩;have hb2:=λ(S:Store) hS=>WQ (yJ c.s) t1 DQ DQ (S:=S) (id:=nx+2) (v:=v2) hS
  have hoe:jN (yJ c.s) t1=XJ x c:=by unfold XJ;rw[hte,show t.toNat+1=t1 by omega]
  rw[hoe]at hb2;have w2:IntKind.i64.wrap (t+1)=(t1:Int):=by rw[AF];omega
  have hlo:=hlow c.i (Zi x c) (XJ x c) hl hpl;have htr:xL x (c.i.set (Zi x c) (W (c.i.getD (Zi x c) 0-XJ x c)))=Y2 x c:=rfl;rw[htr]at hlo;have hv:=hval (Y2 x c) (hfo _);have hst2:C (k+1)=if c.m<Y3 x n (Y2 x c) then ⟨Y2 x c,Y3 x n (Y2 x c),yJ (yJ c.s)⟩ else ⟨c.i,c.m,yJ (yJ c.s)⟩:=by rw[hst];unfold WX;rfl
  have hpi:Zi x c<c.i.length:=DQ
  generalize Zi x c=pl at *;generalize XJ x c=off at *;generalize Y2 x c=tr at *;generalize Y3 x n tr=va at *;generalize yJ c.s=s1 at *;generalize yJ s1=s2 at *;obtain⟨ci,cm,cs⟩:=c;simp only at *;refine za (ze [] w1 ?_);refine λhsuf=>((hb1 _ (by rw[yb];rfl)).mono ?_).v
  rintro _ _ ⟨rfl,rfl⟩;refine⟨_,_,yk _ DQ DR,zN hsuf ?_⟩;obtain⟨lc,hlc⟩:∃lc,lc=L ci:=⟨_,rfl⟩;rw[<-hlc];have hip:QM prog 26 lc (I pl)=some (.ip (I t :: tl)):=by rw[hlc];simp -implicitDefEqProofs [QM,hpi,f0]
  clear f0 hpi;refine za (xk [] DW DW λK Gc Gh hK hGc hGh X hX0 hX=>?_);simp -implicitDefEqProofs [hX0,hX,hip,w2,-QM]
  try clear hX0 hX X
  refine hGc _ _ _ _ _ _ _ λhsuf=>((hb2 _ (by rw[yb];rfl)).mono ?_).v
  rintro _ _ ⟨rfl,rfl⟩;refine⟨_,_,yk _ DQ DR,?_⟩;clear hGc hGh;clear Gc Gh;refine xN hsuf (D:=[]) DW λGc Gh hGc hGh X hX0 hX=>?_
  simp -implicitDefEqProofs [hX0,hX];clear hX0 hX X;refine hK _ _ _ ?_;clear hK hGc hGh;clear K Gc Gh;subst hlc;refine D0 ?_;refine zt hlo ?_;intro v4;refine D0 ?_;refine zt hv ?_;refine D0 ?_
  by_cases hlt:cm<va
  ·rw[if_pos hlt]at hst2;refine zk (by simp[hlt]) ?_;refine zb ?_;refine zb ?_;exact zq (k+1) [_] hc DQ (by simp[zu k (by omega),hst2]) rfl (by simp[hst2];rfl)
  ·rw[if_neg hlt]at hst2;refine zm (by simp[hlt]) ?_;refine zh (zb ?_);exact zq (k+1) [_] hc DQ (by simp[zu k (by omega),hst2]) rfl (by simp[hst2];rfl)
 ·simp at hc;obtain rfl:k=b:=DQ
  refine zx (za (zz (some [nx,nx+3]) (Row.pures [0,1,2,3] (.alt 4 (Row.pures [5] .done) .stop)) mixed trivial ?_));refine zH (hbest) trivial ?_;exact zg (zi hd DT (by simp[zn]))
open Go Go.Proofs
theorem ZuP(n p k:Nat)(h:k<n):(qG n p).take (k+1)=(qG n p).take k++[UInt8.ofNat (48+yF p k)]:=by
 rw[AG];congr 1;unfold qG;rw[Aj,Bc h];rfl
theorem ZuQ(p n:Nat)(h1:1<=n)(hn:n<=64)(hp:p<2 ^ 64):Pure prog 54 [U p,I n] (T (bs (qG n p))):=by
 have hbits:=ZbD p hp;have hbl:(qV p).length=64:=by simp[qV]
 have hbat:∀k,k<64->(qV p)[k]?=some ((yF p k:Nat):Int):=λk h=>by unfold qV;rw[Aj,Bc h];rfl
 have hpl:=WK n p;have hsucc:=ZuP n p;have hb01:∀k,yF p k<=1:=VM p;generalize qV p=B at *;generalize qG n p=P at *;have c1:¬(n:Int)<1:=DQ
 have c2:¬(64:Int)<n:=DQ
 refine zr func54 ntmps54 results54 λS nx hd=>?_
 refine D0 ?_
 repeat apply za
 refine ze [(2,10)] (zo c1 c2) ?_;refine zm DR ?_;refine zh (D0 ?_);refine za (qt 5 5 1 rfl λv1=>?_);refine zb ?_;refine zt hbits ?_
 repeat apply za
 refine zb ?_;refine zj (zC (λs:Nat × Nat=>s.1<=n) (λ(k,v)=>[(1,I n),(5,.sl nx v 1 0 k),(6,L B),(7,I k)]) (λ(k,v)=>[.cells v 5 ((P.map U8).take k)]) (λs=>n-s.1) (0,v1) [] DR DR DR ?_);rintro⟨k,v⟩ hk;simp only at hk ⊢
 repeat apply za
 refine zb ?_;refine zv rfl (λhc=>?_) (λhc=>?_)
 ·simp at hc;obtain⟨z,tl,b1,b2,b3,f0⟩:=zE rfl B k DQ;obtain rfl:z=((yF p k:Nat):Int):=by have:=hbat k DQ;rw[b1]at this;exact Option.some.inj this
  have hb:=hb01 k;have hk64:k<B.length:=DQ
  have hs:=hsucc k hc;have hu:=YJ (k:=yF p k) DQ;generalize UInt8.ofNat (48+yF p k)=u at *;generalize yF p k=b at *;have w1:IntKind.i64.wrap (48+(b:Int))=(u.toNat:Int):=by rw[hu,AF];omega
  have w2:=ZhB u.toNat DQ;have hl:((P.map U8).take k).length=k:=DV
  have htk:List.take k ((P.map U8).take k)=(P.map U8).take k:=Ae (by rw[hl];exact Ag _);have hnx:(P.map U8).take (k+1)=(P.map U8).take k++[U8 u]:=by rw[<-List.map_take,hs,List.map_append,List.map_take];rfl
  generalize (P.map U8).take k=cs at *;refine zh (za (zj (ze [] (yv f0 hk64 w1 w2 htk) ?_)));refine⟨by omega,?_⟩;refine zb ?_;exact zq (k+1,v+1) [] hc DQ (by simp[zu k (by omega)]) rfl (by simp only[hnx,AD])
 ·simp at hc;obtain rfl:k=n:=DQ
  rw[show List.take k (P.map U8)=P.map U8 from Ae DV];refine zx (D0 ?_);refine λhsuf=>Zq0 (e:=5) (l:=P) (off:=0) (id:=nx) (ver:=v) rfl DR DR DR (by simp[hpl]) (by rw[Zn];rfl) (λi u h=>by rw[AR,Aj,h];rfl) DQ ?_
  refine⟨_,_,rfl,zN hsuf ?_⟩;exact D1 hd
open Go Go.Proofs
theorem yO(a b:List UInt8)(h:a.length+b.length<=1099511627776):∃s,s=a++b/\s.length=a.length+b.length/\jO .add (bs a) (bs b)=some (.string (bs s)):=⟨_,rfl,by simp,Jn a b DQ⟩
structure InstS (x:Inst) (n:Nat):Prop where
 t:InstT x n
 n7:n<=60
 cust:x.cust.length<=1000
 pats:∀c∈x.cust,c.pats.length<=1000
theorem Zjs{x:Inst}{n:Nat}(h:InstQ x n):InstS x n:=⟨h.t,by have:=h.n7;omega,by have:=h.six;omega,h.k.a.pats⟩
theorem JF{z:Int}(h:ZF z):(zX z).length<=20:=ZiO (by obtain⟨a,b⟩:=h;unfold zO;omega)
theorem Zjt(n p:Nat)(h:n<=60):(qG n p).length<=60:=by simp_all[WK]
theorem Zju{x:Inst}{n:Nat}(h:InstS x n){c:Cust}(hc:c∈x.cust):(∀w∈qx n c,w.length<=60)/\(qx n c).length<=1006:=by
 have hp:=h.pats c hc;unfold qx;rcases (h.t.cust c hc).kind with ⟨k,d,-⟩ | ⟨k,-,-,a,b,s,-,ho⟩
 ·rw[if_pos k];refine⟨λw hw=>?_,by simp;omega⟩;simp only[As,Al]at hw;rcases hw with rfl | rfl | ⟨p,-,rfl⟩
  ·decide
  ·have:=JF d;omega
  ·exact Zjt n p h.n7
 grind[JF]
theorem Zjv{x:Inst}{n K:Nat}(h:InstS x n)(h8:8<=K)(h1:x.cust.length+1<=K)(h2:∀c∈x.cust,c.pats.length+2<=K):∀l∈jW x,(yi l).length+1<=61*K+1:=by
 have hn:x.days.toNat=n:=by have:=h.t.days;omega
 have hd:(zX x.days).length<=20:=ZiO (by have:=h.t.days;have:=h.n7;unfold zO;omega);have hv:=JF h.t.nums.1;have hc:=JF h.t.nums.2.1;have hl:=JF h.t.nums.2.2;have hcu:=ZI (n:=x.cust.length) (by have:=h.cust;omega);have key:∀l:Ln,(∀w∈l,w.length<=60)->l.length<=K->(yi l).length+1<=61*K+1:=λl a b=>by have:=ZdB a;omega
 intro l hlm;simp only[jW,As,Ay,Al]at hlm;rcases hlm with rfl | rfl | rfl | ⟨c,hcm,rfl⟩ | rfl | ⟨r,hr,rfl⟩
 ·exact key _ DR DV
 ·refine key _ (λw hw=>?_) DQ;simp only[As,Bi,or_false]at hw;rcases hw with rfl | rfl | rfl | rfl | rfl | rfl | rfl | rfl
  all_goals first | omega | decide
 ·refine key _ (λw hw=>?_) DV;simp only[As,Bi,or_false]at hw;rcases hw with rfl | rfl
  ·decide
  ·omega
 ·grind[Zju,qx]
 ·exact key _ DR DV
 ·refine key _ (λw hw=>?_) (by simp;have:=(h.t.row r hr).1;omega);obtain⟨z,hz,rfl⟩:=Al.1 hw;have:=JF ((h.t.row r hr).2 z hz);omega
theorem Zjw{x:Inst}{n:Nat}(h:InstS x n):∀l∈jW x,(yi l).length+1<=61367:=λl hl=>by
 have:=Zjv (K:=1002) h DQ (by have:=h.cust;omega) (λc hc=>by have:=h.pats c hc;omega) l hl;omega
theorem ZuR{x:Inst}{n:Nat}(h:InstS x n)(ls:List Ln)(hs:∀l∈ls,l∈jW x)(hl:ls.length<=3000):(qM ls).length<=184101000:=by
 have:=ZiR (ls:=ls) λl hm=>Zjw h l (hs l hm)
 omega
def Yj(x:Inst):List Ln:=[[xX,[49]],[xY,zX x.days,xZ,zX x.veh,x7,zX x.cap,x8,zX x.len],[x9,yc x.cust.length]]
theorem ZdT(x:Inst):jW x=Yj x++(x.cust.map (qx x.days.toNat)++[jt] :: x.dist.map (λr:List Int=>r.map zX)):=rfl
theorem ZuS{x:Inst}{n:Nat}(h:InstS x n):Pure prog 13 [.agg (zy x)] (T (bs (qM (jW x)))):=by
 have hd0:=h.t.days;have hnt:x.days.toNat=n:=DQ
 have hn60:=h.n7;have hn1:=h.t.n1;obtain⟨⟨vh0,vh1⟩,⟨ca0,ca1⟩,⟨le0,le1⟩⟩:=h.t.nums;obtain⟨ve,hve⟩:=Au vh0;obtain⟨ca,hca⟩:=Au ca0;obtain⟨le,hle⟩:=Au le0;have hcl:=h.cust;have hdl:=h.t.rows;have hwds:Pure prog 52 [.lst 5 [I n,I ve,I ca,I le,I x.cust.length]] (.lst 5 [T (bs (yc n)),T (bs (yc ve)),T (bs (yc ca)),T (bs (yc le)),T (bs (yc x.cust.length))]) :=
  Zc3 [n,ve,ca,le,x.cust.length] DR (by intro m hm;simp only[As,Bi,or_false]at hm;rcases hm with rfl | rfl | rfl | rfl | rfl<;>omega)
 have hb:=ZuR h;have hline:=Zjw h;have hhead:qM (Yj x)=[116,114,97,110,116,101,114,32,49,10,100,97,121,115,32]++yc n++[32,118,101,104,105,99,108,101,115,32]++yc ve++[32,99,97,112,97,99,105,116,121,32]++yc ca++[32,108,101,110,103,116,104,32]++yc le++[10,99,117,115,116,111,109,101,114,115,32]++yc x.cust.length++[10]:=by
  simp[Yj,qM,yi,zX,hd0,hve,hca,hle]
 obtain⟨P,hP⟩:∃P:Nat->List UInt8,P=λk=>qM (Yj x++(x.cust.take k).map (qx n)):=⟨_,rfl⟩
 have hP0:P 0=qM (Yj x):=by rw[hP];simp
 have hPs:∀k c,x.cust[k]?=some c->P (k+1)=P k++(yi (qx n c)++[10]):=λk c hc=>by
  rw[hP]
  show qM (Yj x++(x.cust.take (k+1)).map (qx n))=_
  rw[AG,hc,List.map_append,<-List.append_assoc];exact Zhy _ _
 have hPb:∀k,(P k).length<=184101000:=λk=>by
  rw[hP];refine hb _ (λl hl=>?_) (by simp[Yj];omega);rw[ZdT,hnt,Ay,Ay];rcases Ay.1 hl with hl | hl
  ·exact .inl hl
  ·obtain⟨c,hc,rfl⟩:=Al.1 hl;exact .inr (.inl (List.mem_map_of_mem (Bl hc)))
 obtain⟨D,hD⟩:∃D:Nat->List UInt8,D=λk=>qM (Yj x++(x.cust.map (qx n)++[jt] :: (x.dist.take k).map (λr:List Int=>r.map zX))):=⟨_,rfl⟩
 have hD0:D 0=P x.cust.length++[100,105,115,116,97,110,99,101,115,10]:=by
  rw[hD,hP];simp[qM,yi]
 have hDs:∀k r,x.dist[k]?=some r->D (k+1)=D k++(yi (r.map zX)++[10]):=λk r hr=>by
  rw[hD]
  show qM (Yj x++(x.cust.map (qx n)++[jt] :: (x.dist.take (k+1)).map (λr:List Int=>r.map zX)))=_
  rw[AG,hr,List.map_append,<-List.cons_append,<-List.append_assoc,<-List.append_assoc];exact Zhy _ _
 have hDn:D x.dist.length=qM (jW x):=by rw[hD,ZdT,hnt];simp
 have hDb:∀k,(D k).length<=184101000:=λk=>by
  rw[hD];refine hb _ (λl hl=>?_) (by simp[Yj];omega);rw[ZdT,hnt,Ay,Ay];rcases Ay.1 hl with hl | hl
  ·exact .inl hl
  ·rcases Ay.1 hl with hl | hl
   ·exact .inr (.inl hl)
   ·rcases As.1 hl with rfl | hl
    ·exact .inr (.inr DR)
    ·obtain⟨r,hr,rfl⟩:=Al.1 hl;exact .inr (.inr (Cv _ (List.mem_map_of_mem (Bl hr))))
 rw[<-hDn];clear hb hP hD hDn;have q0:=ZI (n:=n) DQ;have q1:=ZI (n:=ve) DQ;have q2:=ZI (n:=ca) DQ;have q3:=ZI (n:=le) DQ;have q4:=ZI (n:=x.cust.length) DQ;generalize yc n=w0 at *;generalize yc ve=w1 at *;generalize yc ca=w2 at *;generalize yc le=w3 at *;generalize hw4:yc x.cust.length=w4 at *;obtain⟨s1,hs1,ls1,es1⟩:=yO [116,114,97,110,116,101,114,32,49,10,100,97,121,115,32] w0 (by (try simp only[Ad,Ah]);omega);have bs1:s1.length<=35:=by rw[ls1];(try simp only[Ad,Ah]);omega
 obtain⟨s2,hs2,ls2,es2⟩:=yO s1 [32,118,101,104,105,99,108,101,115,32] (by (try simp only[Ad,Ah]);omega);have bs2:s2.length<=45:=by rw[ls2];(try simp only[Ad,Ah]);omega
 obtain⟨s3,hs3,ls3,es3⟩:=yO s2 w1 (by (try simp only[Ad,Ah]);omega);have bs3:s3.length<=65:=by rw[ls3];(try simp only[Ad,Ah]);omega
 obtain⟨s4,hs4,ls4,es4⟩:=yO s3 [32,99,97,112,97,99,105,116,121,32] (by (try simp only[Ad,Ah]);omega);have bs4:s4.length<=75:=by rw[ls4];(try simp only[Ad,Ah]);omega
 obtain⟨s5,hs5,ls5,es5⟩:=yO s4 w2 (by (try simp only[Ad,Ah]);omega);have bs5:s5.length<=95:=by rw[ls5];(try simp only[Ad,Ah]);omega
 obtain⟨s6,hs6,ls6,es6⟩:=yO s5 [32,108,101,110,103,116,104,32] (by (try simp only[Ad,Ah]);omega);have bs6:s6.length<=103:=by rw[ls6];(try simp only[Ad,Ah]);omega
 obtain⟨s7,hs7,ls7,es7⟩:=yO s6 w3 (by (try simp only[Ad,Ah]);omega);have bs7:s7.length<=123:=by rw[ls7];(try simp only[Ad,Ah]);omega
 obtain⟨s8,hs8,ls8,es8⟩:=yO s7 [10,99,117,115,116,111,109,101,114,115,32] (by (try simp only[Ad,Ah]);omega);have bs8:s8.length<=134:=by rw[ls8];(try simp only[Ad,Ah]);omega
 obtain⟨s9,hs9,ls9,es9⟩:=yO s8 w4 (by (try simp only[Ad,Ah]);omega);have bs9:s9.length<=154:=by rw[ls9];(try simp only[Ad,Ah]);omega
 obtain⟨s10,hs10,ls10,es10⟩:=yO s9 [10] (by (try simp only[Ad,Ah]);omega);have bs10:s10.length<=155:=by rw[ls10];(try simp only[Ad,Ah]);omega
 have hPe:P 0=s10:=by rw[hP0,hhead,hs10,hs9,hs8,hs7,hs6,hs5,hs4,hs3,hs2,hs1]
 refine zr func13 ntmps13 results13 λS nx hd=>?_
 refine D0 ?_;intro v0;refine za (ze [] (zJ hd0 hve hca hle) ?_);refine qi [] hwds (zJ hd0 hve hca hle) ?_;refine za (zz none (Row.pures [0,1,2,3,4,5,6,7,8,9,10,11,12,13,14,15,16,17,18,19,20,21,22,23,24,25] .done) mixed (zP es1 es2 es3 es4 es5 (yv es6 es7 es8 es9 es10)) ?_)
 repeat apply za
 refine zb ?_;rw[<-hPe];refine zj (zC (λk:Nat=>k<=x.cust.length) (λk=>[(1,.ptr nx v0 0),(4,T (bs (P k))),(5,I k)]) (λ_=>[.cells v0 25 (zy x)]) (λk=>x.cust.length-k) 0 [] DR DR DR ?_);rintro k hk
 repeat apply za
 refine zb ?_;refine zv rfl (λhc=>?_) (λhc=>?_)
 ·simp at hc;obtain⟨c,tl,a1,a2,a3,f0,f1⟩:=el 8 rfl x.cust k hc;have hPk:=hPs k c a1;have hcm:=Ab a1;have hct:=(h.t.cust c hcm).kind;have hcp:=h.pats c hcm;have hcw:=Zju h hcm;have hsb:=hPb k;generalize P k=ss at *;refine zh (za (zj ?_));obtain⟨kd,dm,ps,ra,si,st,ru,ho⟩:=c;simp only at hct hcp;refine za (ze [] (zA f0 f1 hc) ?_);intro v2
  repeat apply za
  refine zb ?_;rcases hct with ⟨hk1,hdm,hpp,-⟩ | ⟨hk2,-,-,hra,hsi,hst,hru,hho⟩
  ·subst hk1;obtain⟨dn,rfl⟩:=Au hdm.1;have hdn:=hdm.2;have hdd:=ZhC dn DQ;have hdq:=ZI (n:=dn) DQ;have hcW:qx n ⟨1,dn,ps,ra,si,st,ru,ho⟩=vU :: yc dn :: ps.map (qG n):=by simp[qx,zX]
   rw[hcW]at hPk hcw;obtain⟨V,hV⟩:∃V:Nat->List UInt8,V=λj=>ss++yi (vU :: yc dn :: (ps.take j).map (qG n)):=⟨_,rfl⟩
   have hV0:V 0=ss++[118,105,115,105,116,32]++yc dn:=by rw[hV];simp[yi]
   have hVs:∀j p,ps[j]?=some p->V (j+1)=V j++[32]++qG n p:=λj p hp=>by
    rw[hV]
    show ss++yi (vU :: yc dn :: (ps.take (j+1)).map (qG n))=_
    rw[AG,hp,List.map_append];have:=Zhx (yc dn :: (ps.take j).map (qG n)) (qG n p) vU;simp only[List.cons_append]at this
    show ss++yi (vU :: yc dn :: ((ps.take j).map (qG n)++[qG n p]))=_
    rw[this];simp
   have hVn:P (k+1)=V ps.length++[10]:=by rw[hPk,hV];simp
   have hVb:∀j,(V j).length<=184201000:=λj=>by
    rw[hV];have:=ZdB (ws:=vU :: yc dn :: (ps.take j).map (qG n)) (m:=60) (λw hw=>hcw.1 w (by
     simp only[As,Al]at hw ⊢;rcases hw with r | r | ⟨p,hp,r⟩
     ·exact .inl r
     ·exact .inr (.inl r)
     ·exact .inr (.inr ⟨p,Bl hp,r⟩)))
    have hl:(vU :: yc dn :: (ps.take j).map (qG n)).length<=1002:=DV
    simp only[List.length_append];have:61*(vU :: yc dn :: (ps.take j).map (qG n)).length<=61*1002:=Cm _ hl;omega
   clear hV hPk;generalize yc dn=dw at *;obtain⟨m1,hm1,lm1,em1⟩:=yO ss [118,105,115,105,116,32] (by simp only[Ad,Ah];omega);obtain⟨m2,hm2,lm2,em2⟩:=yO m1 dw (by rw[lm1];simp only[Ad,Ah];omega);have hV0':V 0=m2:=by rw[hV0,hm2,hm1]
   refine zk DR ?_;refine za (ze [] (zo em1 em2) ?_);refine qi [] hdd (zo em1 em2) ?_;rw[<-hV0'];refine D0 ?_;refine zj (zC (λj:Nat=>j<=ps.length) (λj=>[(1,.ptr nx v0 0),(4,T (bs (V j))),(5,I k),(6,.ptr (nx+1) v2 0),(7,I j)]) (λ_=>[.cells v0 25 (zy x),.cells v2 87 [I 1,I dn,L ps,I ra,I si,I st,I ru,I ho]]) (λj=>ps.length-j) 0 [] DR DR DR ?_);rintro j hj
   repeat apply za
   refine zb ?_;refine zv rfl (λhcj=>?_) (λhcj=>?_)
   ·simp at hcj;obtain⟨p,tl2,b1,b2,b3,g0⟩:=zE rfl ps j hcj;have hpm:=Ab b1;have hplt:p<2 ^ 64:=Bo (hpp p hpm) (Cj DX DQ);have htx:=ZuQ p n DQ DQ hplt;have hpl:=Zjt n p hn60;have hvs:=hVs j p b1;have hvb:=hVb j;generalize qG n p=pw at *;generalize hvj:V (j+1)=vj1 at *;generalize V j=vj at *;obtain⟨y1,hy1,ly1,ey1⟩:=yO vj [32] (by simp only[Ad,Ah];omega);obtain⟨y2,hy2,ly2,ey2⟩:=yO y1 pw (by rw[ly1];simp only[Ad,Ah];omega);obtain rfl:vj1=y2:=by rw[hvs,hy2,hy1]
    refine zh (za (zj (zz (some [nx,nx+1]) (Row.pures [0,1,2,3,4,5,6,7,8,9,10,11] .done) mixed (yv g0 hcj ey1 ey2 hd0) ?_)));refine zH (htx) (yv g0 hcj ey1 ey2 hd0) ?_;refine zb ?_;exact zq (j+1) [] hcj DQ (by simp[zu j (by omega),hvj]) rfl DR
   ·simp at hcj;obtain rfl:j=ps.length:=DQ
    have hvb:=hVb ps.length;obtain⟨y1,hy1,ly1,ey1⟩:=yO (V ps.length) [10] (by simp only[Ad,Ah];omega);have hfin:P (k+1)=y1:=by rw[hVn,hy1]
    refine zx (ze [] ey1 ?_);refine zb ?_;exact zq (k+1) [_] hc DQ (by simp[zu k (by omega),hfin]) rfl DT
  ·subst hk2;obtain⟨ra,rfl⟩:=Au hra.1;obtain⟨si,rfl⟩:=Au hsi.1;obtain⟨st,rfl⟩:=Au hst.1;obtain⟨ho,rfl⟩:=Au hho.1;obtain⟨-,hra⟩:=hra;obtain⟨-,hsi⟩:=hsi;obtain⟨-,hst⟩:=hst;obtain⟨-,hho⟩:=hho;have hwd4:Pure prog 52 [.lst 4 [I ra,I si,I st,I ho]] (.lst 4 [T (bs (yc ra)),T (bs (yc si)),T (bs (yc st)),T (bs (yc ho))]) :=
    Zc3 [ra,si,st,ho] DR (by intro m hm;simp only[As,Bi,or_false]at hm;rcases hm with rfl | rfl | rfl | rfl<;>omega)
   have p0:=ZI (n:=ra) DQ;have p1:=ZI (n:=si) DQ;have p2:=ZI (n:=st) DQ;have p3:=ZI (n:=ho) DQ;have hcW:qx n ⟨2,dm,ps,ra,si,st,ru,ho⟩=[QF,yc ra,yc si,yc st,if ru=2 then uS else ut,yc ho]:=by simp[qx,zX]
   rw[hcW]at hPk;generalize yc ra=u0 at *;generalize yc si=u1 at *;generalize yc st=u2 at *;generalize yc ho=u3 at *;refine zm DR ?_;refine D0 ?_;refine zt hwd4 ?_;refine D0 ?_
   repeat apply za
   refine zb ?_
   by_cases hr2:ru=2
   ·subst hr2;rw[if_pos rfl]at hPk;refine zk DR ?_;refine zb ?_;obtain⟨t1,ht1,lt1,et1⟩:=yO ss [116,97,110,107,32] (by (try simp only[Ad,Ah]);omega);have bt1:t1.length<=184101005:=by rw[lt1];(try simp only[Ad,Ah]);omega
    obtain⟨t2,ht2,lt2,et2⟩:=yO t1 u0 (by (try simp only[Ad,Ah]);omega);have bt2:t2.length<=184101025:=by rw[lt2];(try simp only[Ad,Ah]);omega
    obtain⟨t3,ht3,lt3,et3⟩:=yO t2 [32] (by (try simp only[Ad,Ah]);omega);have bt3:t3.length<=184101026:=by rw[lt3];(try simp only[Ad,Ah]);omega
    obtain⟨t4,ht4,lt4,et4⟩:=yO t3 u1 (by (try simp only[Ad,Ah]);omega);have bt4:t4.length<=184101046:=by rw[lt4];(try simp only[Ad,Ah]);omega
    obtain⟨t5,ht5,lt5,et5⟩:=yO t4 [32] (by (try simp only[Ad,Ah]);omega);have bt5:t5.length<=184101047:=by rw[lt5];(try simp only[Ad,Ah]);omega
    obtain⟨t6,ht6,lt6,et6⟩:=yO t5 u2 (by (try simp only[Ad,Ah]);omega);have bt6:t6.length<=184101067:=by rw[lt6];(try simp only[Ad,Ah]);omega
    obtain⟨t7,ht7,lt7,et7⟩:=yO t6 [32] (by (try simp only[Ad,Ah]);omega);have bt7:t7.length<=184101068:=by rw[lt7];(try simp only[Ad,Ah]);omega
    obtain⟨t8,ht8,lt8,et8⟩:=yO t7 [97,110,121] (by (try simp only[Ad,Ah]);omega);have bt8:t8.length<=184101071:=by rw[lt8];(try simp only[Ad,Ah]);omega
    obtain⟨t9,ht9,lt9,et9⟩:=yO t8 [32] (by (try simp only[Ad,Ah]);omega);have bt9:t9.length<=184101072:=by rw[lt9];(try simp only[Ad,Ah]);omega
    obtain⟨t10,ht10,lt10,et10⟩:=yO t9 u3 (by (try simp only[Ad,Ah]);omega);have bt10:t10.length<=184101092:=by rw[lt10];(try simp only[Ad,Ah]);omega
    obtain⟨t11,ht11,lt11,et11⟩:=yO t10 [10] (by (try simp only[Ad,Ah]);omega);have bt11:t11.length<=184101093:=by rw[lt11];(try simp only[Ad,Ah]);omega
    have hfin:P (k+1)=t11:=by rw[hPk,ht11,ht10,ht9,ht8,ht7,ht6,ht5,ht4,ht3,ht2,ht1];simp[yi]
    refine zz none (Row.pures [0,1,2,3,4,5,6,7,8,9,10,11,12,13,14,15,16,17,18,19,20,21,22,23,24] .done) mixed (zP et1 et2 et3 et4 et5 (zP et6 et7 et8 et9 et10 et11)) ?_;refine ze [] et11 ?_;refine zb ?_;exact zq (k+1) [_] hc DQ (by simp[zu k (by omega),hfin]) rfl DT
   ·rw[if_neg hr2]at hPk;refine zm (by simp[hr2]) ?_;refine zh ?_;obtain⟨t1,ht1,lt1,et1⟩:=yO ss [116,97,110,107,32] (by (try simp only[Ad,Ah]);omega);have bt1:t1.length<=184101005:=by rw[lt1];(try simp only[Ad,Ah]);omega
    obtain⟨t2,ht2,lt2,et2⟩:=yO t1 u0 (by (try simp only[Ad,Ah]);omega);have bt2:t2.length<=184101025:=by rw[lt2];(try simp only[Ad,Ah]);omega
    obtain⟨t3,ht3,lt3,et3⟩:=yO t2 [32] (by (try simp only[Ad,Ah]);omega);have bt3:t3.length<=184101026:=by rw[lt3];(try simp only[Ad,Ah]);omega
    obtain⟨t4,ht4,lt4,et4⟩:=yO t3 u1 (by (try simp only[Ad,Ah]);omega);have bt4:t4.length<=184101046:=by rw[lt4];(try simp only[Ad,Ah]);omega
    obtain⟨t5,ht5,lt5,et5⟩:=yO t4 [32] (by (try simp only[Ad,Ah]);omega);have bt5:t5.length<=184101047:=by rw[lt5];(try simp only[Ad,Ah]);omega
    obtain⟨t6,ht6,lt6,et6⟩:=yO t5 u2 (by (try simp only[Ad,Ah]);omega);have bt6:t6.length<=184101067:=by rw[lt6];(try simp only[Ad,Ah]);omega
    obtain⟨t7,ht7,lt7,et7⟩:=yO t6 [32] (by (try simp only[Ad,Ah]);omega);have bt7:t7.length<=184101068:=by rw[lt7];(try simp only[Ad,Ah]);omega
    obtain⟨t8,ht8,lt8,et8⟩:=yO t7 [102,105,108,108] (by (try simp only[Ad,Ah]);omega);have bt8:t8.length<=184101072:=by rw[lt8];(try simp only[Ad,Ah]);omega
    obtain⟨t9,ht9,lt9,et9⟩:=yO t8 [32] (by (try simp only[Ad,Ah]);omega);have bt9:t9.length<=184101073:=by rw[lt9];(try simp only[Ad,Ah]);omega
    obtain⟨t10,ht10,lt10,et10⟩:=yO t9 u3 (by (try simp only[Ad,Ah]);omega);have bt10:t10.length<=184101093:=by rw[lt10];(try simp only[Ad,Ah]);omega
    obtain⟨t11,ht11,lt11,et11⟩:=yO t10 [10] (by (try simp only[Ad,Ah]);omega);have bt11:t11.length<=184101094:=by rw[lt11];(try simp only[Ad,Ah]);omega
    have hfin:P (k+1)=t11:=by rw[hPk,ht11,ht10,ht9,ht8,ht7,ht6,ht5,ht4,ht3,ht2,ht1];simp[yi]
    refine zz none (Row.pures [0,1,2,3,4,5,6,7,8,9,10,11,12,13,14,15,16,17,18,19,20,21,22,23,24] .done) mixed (zP et1 et2 et3 et4 et5 (zP et6 et7 et8 et9 et10 et11)) ?_;refine ze [] et11 ?_;refine zb ?_;exact zq (k+1) [_] hc DQ (by simp[zu k (by omega),hfin]) rfl DT
 ·simp at hc;obtain rfl:k=x.cust.length:=DQ
  refine zx ?_;have hpb:=hPb x.cust.length;obtain⟨y1,hy1,ly1,ey1⟩:=yO (P x.cust.length) [100,105,115,116,97,110,99,101,115,10] (by simp only[Ad,Ah];omega);obtain rfl:D 0=y1:=by rw[hD0,hy1]
  refine za (ze [] ey1 ?_)
  repeat apply za
  refine zb ?_;refine zj (zC (λk:Nat=>k<=x.dist.length) (λk=>[(1,.ptr nx v0 0),(4,T (bs (D k))),(10,I k)]) (λ_=>[.cells v0 25 (zy x)]) (λk=>x.dist.length-k) 0 [] DR DR DR ?_);rintro k hk
  repeat apply za
  refine zb ?_;refine zv rfl (λhc=>?_) (λhc=>?_)
  ·simp at hc;obtain⟨r,tl,a1,a2,a3,f0⟩:=zE rfl x.dist k hc;have hr:=h.t.row r (Ab a1);have hds:=hDs k r a1;have hdb:=hDb k;have hwl:∀ws:Ln,(∀w∈ws,w∈r.map zX)->ws.length<=1001->(yi ws).length<=61061:=λws hs hl=>by
    have:=ZdB (ws:=ws) (m:=60) (λw hw=>by
     obtain⟨z,hz,rfl⟩:=Al.1 (hs w hw);have:=JF (hr.2 z hz);omega)
    have:61*ws.length<=61*1001:=Cm _ hl;omega
   have hrl:r.length<=1001:=by have:=hr.1;omega
   have hwj:=hwl (r.map zX) (λw hw=>hw) (by simpa using hrl);have hro:Pure prog 52 [L r] (L ((r.map zX).map bs)):=by
    have e1:(r.map Int.toNat).map (λm:Nat=>(m:Int))=r:=by
     rw[BT];refine(AQ λz hz=>?_).trans (C8 _);have:=(hr.2 z hz).1;simp;omega
    have:=Zc3 (r.map Int.toNat) DV (λm hm=>by
     obtain⟨z,hz,rfl⟩:=Al.1 hm;have:=(hr.2 z hz).2;omega)
    rw[e1]at this;have e2:up (r.map Int.toNat)=(r.map zX).map bs:=by simp[up,zX,Function.comp_def]
    rwa[e2]at this
   have hli:=Zq2 (r.map zX) DV DQ (λj=>by have:=hwl ((r.map zX).take j) (λw hw=>Bl hw) DV;omega);generalize (r.map zX).map bs=wl at *;generalize hdk:D (k+1)=dk1 at *;generalize yi (r.map zX)=jw at *;obtain⟨y2,hy2,ly2,ey2⟩:=yO (D k) (jw++[10]) (by simp only[List.length_append,Ad,Ah];omega);obtain rfl:dk1=y2:=by rw[hds,hy2]
   generalize jw++[10]=jn at *;generalize D k=dk at *;refine zh (za (zj (ze [] (zo f0 hc) ?_)));refine qi [] hro (zA f0 hc ey2) ?_;refine qi [] hli (zA f0 hc ey2) ?_;refine zb ?_;exact zq (k+1) [] hc DQ (by simp[zu k (by omega),hdk]) rfl DR
  ·simp at hc;obtain rfl:k=x.dist.length:=DQ
   refine zx (D0 ?_);exact D1 hd
open Go Go.Proofs Hp
theorem Zjx{x:Inst}{n:Nat}(h:InstQ x n):InstOk x:=by
 have hm:=WT h.m;obtain⟨d1,d2,d3,d4⟩:=ZdR hm.dist;have h6:=h.six;have r:∀z:Int,0<=z->z<=2147483648->zO z:=λz a b=>by unfold zO;omega
 refine⟨by have:=hm.days;unfold zO;omega,r _ hm.veh.1 hm.veh.2,r _ hm.cap.1 hm.cap.2,r _ hm.len.1 hm.len.2,by omega,λc hc=>?_,by omega,λrow hr=>⟨by have:=(d2 row hr).1;omega,λz hz=>r z ((d2 row hr).2 z hz).1 ((d2 row hr).2 z hz).2⟩⟩;have hp:=(h.k.a.made c hc).pats;rcases ZaT (hm.custs c hc) with ⟨k,a,b,l,r1,r2,r3,r4,r5⟩ | ⟨k,q,s,t,ru,ho,e,dm⟩
 ·exact⟨r _ DQ DQ,r _ DQ DQ,hp,by omega,r _ DQ DQ,r _ DQ DQ,r _ DQ DQ,r _ DQ DQ,r _ DQ DQ⟩
 ·exact⟨r _ DQ DQ,r _ DQ DQ,hp,by rw[e];simp,r _ DQ DQ,r _ DQ DQ,r _ DQ DQ,r _ DQ DQ,r _ DQ DQ⟩
theorem ZdU{x:Inst}{n:Nat}{p:zF}(h:PlanG x n p):PlanSz p:=⟨h.serves.sz,λd hd=>by have:=(h.s.ok d hd).2.1;omega⟩
def ZdV(x:Inst)(n:Nat)(l:List Int):Int:=WY x n (xC l) (yo l 3).toNat
def Yk(x:Inst)(n:Nat)(l:List Int):zF × Int:=Jz x n (xC l) (yo l 1).toNat (yo l 2)
theorem ZuT{x:Inst}{n:Nat}(h:InstQ x n):(qM (jW x)).length<=1048576:=by
 have hm:=WT h.m;have h6:=h.six;have hl:=ZiR (ls:=jW x) (Zjv (K:=66) (Zjs h) DQ DQ λc hc=>by
  rcases ZaT (hm.custs c hc) with ⟨k,a,b,l,-⟩ | ⟨k,q,s,t,ru,ho,e,-⟩
  ·omega
  ·rw[e];simp)
 have hk:(jW x).length<=18:=by simp[jW];have:=h.t.rows;omega
 have:4027*(jW x).length<=4027*18:=Cm _ hk;omega
theorem Zjy:qw []=(zI,2):=by unfold qw;rw[Zas];rfl
abbrev ZaX:Wd:=[111,117,116,99,111,109,101,32,109,97,108,102,111,114,109,101,100,10]
theorem ZuU:Pure prog 21 [.agg [I 1,I 0,I 0,I 0,L ([]:List Int),L ([]:zF)]] (T (bs ZaX)):=by
 have hl:Pure prog 59 [.lst 2 [T (bs ZiP),T (bs ZiQ)]] (T (bs ZaX)):=Zs6 [ZiP,ZiQ] DR DX;refine zr func21 ntmps21 results21 λS nx hd=>?_
 refine D0 ?_;intro v0
 repeat apply za
 refine zb ?_;refine zj (D0 ?_);refine zk DR ?_;refine D0 ?_;refine zt hl ?_;exact D1 hd
theorem ZuV:Pure prog 39 [T (bs []),L ([]:List Int)] (T (bs ZaX)):=by
 have h1:=Zt5 [] DR [] (by rw[Zjy];decide);rw[Zjy]at h1;have h2:=ZuU;have h3:Pure prog 12 [T (bs []),L ([]:List Int)] (.agg [I 1,I 0,I 0,I 0,L ([]:List Int),L ([]:zF)]):=h1;refine zr func39 ntmps39 results39 λS nx hd=>?_
 refine D0 ?_;refine D0 ?_;refine zt h3 ?_;refine zt h2 ?_;exact D1 hd
theorem ZuW:Pure prog 15 [] (B true):=by
 have hr:Pure prog 39 [T (bs []),.sc (.slice none 0 0)] (T (bs ZaX)):=λS=>ZkT (.cons Wk.rfl (.cons Wk.nil .nil)) (ZuV S)
 refine zr func15 ntmps15 results15 λS nx hd=>?_
 refine D0 ?_;refine D0 ?_;refine zt hr ?_;exact D1 hd
def XL(l:List Int):List Int:=[xC l,yo l 1 % 9,yo l 2 % 21,yo l 3 % 13]
theorem ZuX(l:List Int):Pure prog 14 [L l] (L (XL l)):=by
 have hs:=ZtZ l;unfold XL;generalize xC l=s at *;generalize yo l 1 % 9=a at *;generalize yo l 2 % 21=b at *;generalize yo l 3 % 13=c at *;refine zr func14 ntmps14 results14 λS nx hd=>?_
 refine D0 ?_;refine D0 ?_;refine zt hs ?_;intro v0;refine D0 ?_;exact D1 hd
open Go Go.Proofs Hp
theorem Zjz{x:Inst}{n:Nat}(h:InstQ x n)(b:Int)(h0:(jL x b).2=0):PlanG x n (jL x b).1:=by
 have hA:=h.k.a;obtain⟨v,pr,hv,hp,e,hd,hc⟩:=Zsn hA h0;have hpl:=ZcZ x v b n;refine⟨hA,h.six,by rw[e,hpl],?_⟩;rw[e];intro d hd';obtain⟨r,hr,rfl⟩:=Al.1 hd';obtain⟨k,hk,rfl⟩:=Al.1 hr;exact(ZpI (Zhp hA.h hv k) hA.h.diag b (hd k (AL.1 hk))).2.1
theorem ZjA{x:Inst}{n:Nat}(h:InstQ x n)(seed:Int)(r:Nat)(b:Int)(h0:(Jz x n seed r b).2=0):PlanG x n (Jz x n seed r b).1:=by grind[Jz,ZdI,Zjz]
theorem ZuY{x:Inst}{n:Nat}(h:InstQ x n)(l:List Int):Below21 x l (ZdV x n l) (Yk x n l).1 (Yk x n l).2 (wJ x (Yk x n l).1):=by
 have t1:=XG l 1;have t2:=XG l 2;have t3:=XG l 3;have hn1:=h.t.n1;have hA:=h.k.a;obtain⟨-,-,d3,-⟩:=ZdR (WT h.m).dist;have e1:((yo l 1).toNat:Int)=yo l 1:=DQ
 have e3:((yo l 3).toNat:Int)=yo l 3:=DQ
 have hc:=ZuO (ZuJ h) d3 (xC l) (yo l 3).toNat DQ;rw[e3]at hc;have hr:=ZtX hA DQ (λb h0=>Zjz h b h0) (xC l) (yo l 1).toNat DQ (yo l 2) DQ (yo l 3);rw[e1]at hr;have hm:=ZjA h (xC l) (yo l 1).toNat (yo l 2);have hf:∀e c:Int,uT e c=0->e=0:=λe c he=>by grind[uT]
 have h6:=h.six;refine⟨hc,hr,λh0=>?_,λh0=>?_,λh0=>?_,λh0=>?_⟩
 ·exact ZqB x (Yk x n l).1 (Zjx h) (ZdU (hm h0))
 ·exact(hm (hf _ _ h0)).cost
 ·exact ZhY x _ (hm (hf _ _ h0)).serves DQ λc hc=>(hA.made c hc).fits
 ·have g1:=hm (hf _ _ h0);exact ZhZ x _ g1.serves.sz.n λd hd=>(g1.s.ok d hd).1
def WZ(x:Inst)(n:Nat)(l:List Int):Rep:=ZaO x (ZdV x n l) (Yk x n l).1 (Yk x n l).2 (wJ x (Yk x n l).1)
theorem ZuZ{x:Inst}{n:Nat}(h:InstQ x n)(l:List Int):Pure prog 12 [T (bs (qM (jW x))),L l] (.agg (ZdA (WZ x n l))):=by
 have hz:=ZsA h.t h.m;have:=Zt6 (qM (jW x)) (ZuT h) l (bd:=ZdV x n l) (p:=(Yk x n l).1) (e:=(Yk x n l).2) (c:=wJ x (Yk x n l).1) (by rw[hz]) (by simp_all[ZuY]);rw[hz]at this;exact this
open Go Go.Proofs Hp
def ZM:Int->List Visit->Prop
 | _,[]=>True
 | a,s :: v=>a<=s.d/\ZM (s.d+1) v
theorem ZjB:∀{v:List Visit} {a:Int},ZM a v->∀s∈v,a<=s.d
 | s :: v,a,h,t,ht=>by
  rcases As.1 ht with rfl | ht
  ·exact h.1
  ·have:=ZjB h.2 t ht;have:=h.1;omega
theorem Zu0{v:List Visit}{a b:Int}(h:ZM b v)(hab:a<=b):ZM a v:=by
 cases v with
 | nil=>trivial
 | cons s v=>exact⟨Int.le_trans hab h.1,h.2⟩
theorem ZjC(c:Int):∀(p:zF) (i:Nat),(∀d∈p,(d.flatten.map (·.c)).Nodup)->ZM i (yd c (told i p))/\∀s∈yd c (told i p),s.d<(i:Int)+p.length
 | [],i,_=>by simp[told,yd,ZM]
 | d :: p,i,h=>by
  obtain⟨h1,h2⟩:=ZjC c p (i+1) λe he=>h e (by simp[he])
  have hd:=h d DR;have key:∀l:List Stop,(l.map (·.c)).Nodup->yd c (l.map (·,i))=[]\/∃s∈l,yd c (l.map (·,i))=[⟨i,s.q⟩]:=by
   intro l
   induction l with
   | nil=>intro _;exact .inl rfl
   | cons s l ih =>
    intro hn;rw[AA,Cr]at hn;have hs:yd c ((s :: l).map (·,i))=yd c [(s,i)]++yd c (l.map (·,i)):=by rw[<-Qr];rfl
    rw[hs,Jh]
    by_cases e:s.c=c
    ·have hno:yd c (l.map (·,i))=[]:=by
      unfold yd;rw[List.map_eq_nil_iff,Ca];intro x hx;obtain⟨t,ht,rfl⟩:=Al.1 hx;simp only[decide_eq_true_eq];intro e2;exact hn.1 (Al.2 ⟨t,ht,by rw[e2,e]⟩)
     rw[hno];exact .inr ⟨s,by simp,by simp[e]⟩
    ·rcases ih hn.2 with q | ⟨t,ht,q⟩
     ·exact .inl (by simp[e,q])
     ·exact .inr ⟨t,by simp[ht],by simp[e,q]⟩
  have hs:yd c (told i (d :: p))=yd c (d.flatten.map (·,i))++yd c (told (i+1) p):=Qr c _ _;rw[hs];rcases key _ hd with q | ⟨s,-,q⟩
  ·rw[q,AN];refine⟨Zu0 h1 DQ,λs hs=>?_⟩;have:=h2 s hs;simp only[Ad];omega
  ·rw[q];refine⟨⟨CL _,by simpa using h1⟩,λt ht=>?_⟩;simp only[Ad];rcases Ay.1 ht with q2 | q2
   ·simp at q2;subst q2;show (i:Int)<_;omega
   ·have:=h2 t q2;omega
def wh(v:List Visit)(d:Int):Int:=((v.filter λs=>decide (s.d=d)).map (·.q)).sum
theorem ZjD{v:List Visit}{d:Int}(h:∀s∈v,s.d≠d):wh v d=0:=by
 unfold wh;rw[Ca.2 λs hs=>by simpa using h s hs];rfl
theorem ZjE(v w:List Visit)(d:Int):wh (v++w) d=wh v d+wh w d:=by simp[wh]
def W0(v:List Visit)(d:Int):Int:=match v with
 | s :: _=>if s.d=d then s.q else 0
 | []=>0
theorem Zu1{v:List Visit}{d:Int}(h:ZM d v):wh v d=W0 v d:=by
 cases v with
 | nil=>rfl
 | cons s v =>
  have h2:wh v d=0:=ZjD λt ht=>by
   have:=ZjB h.2 t ht;have:=h.1;omega
  have:wh (s :: v) d=wh [s] d+wh v d:=ZjE [s] v d;rw[this,h2];unfold W0 wh
  by_cases e:s.d=d<;>simp[e]
theorem Zu2(v:List Visit)(n:Nat)(hn:n<=64):yt v (n:Int)=(List.range n).map λ(d:Nat)=>wh v d:=by
 unfold yt;have:(min (max (n:Int) 0) 64).toNat=n:=DQ
 rw[this];rfl
theorem Zu3(v:List Visit)(n d:Nat)(hn:n<=64)(hd:d<n):(yt v (n:Int)).drop d=wh v d :: (yt v (n:Int)).drop (d+1):=by
 rw[Zu2 v n hn,AI (by simpa using hd)];simp
structure AtDay (v:List Visit) (k d:Nat):Prop where
 le:k<=v.length
 ahead:∀s∈v.take k,0<=s.d/\s.d<d
 rest:ZM d (v.drop k)
theorem ZjF{v:List Visit}(h:ZM 0 v):AtDay v 0 0:=⟨BK _,by simp,by simpa using h⟩
theorem ZjG{v:List Visit}{k d:Nat}(h:AtDay v k d):wh v d=W0 (v.drop k) d:=by
 conv=>lhs;rw[<-List.take_append_drop k v]
 rw[ZjE,ZjD (λs hs=>by have:=(h.ahead s hs).2;omega),Zu1 h.rest,Int.zero_add]
theorem ZjH{v:List Visit}{k d:Nat}(h:AtDay v k d){s:Visit}(hs:v[k]?=some s)(hd:s.d=d):AtDay v (k+1) (d+1)/\wh v d=s.q:=by
 have hk:k<v.length:=(Ac.1 hs).1;have hdr:v.drop k=s :: v.drop (k+1):=by rw[AI hk];rw[Af hk]at hs;cases hs;rfl
 have hr:=h.rest;rw[hdr]at hr;refine⟨⟨hk,λt ht=>?_,?_⟩,?_⟩
 ·rw[AG,hs]at ht;rcases Ay.1 ht with q | q
  ·have:=h.ahead t q;omega
  ·simp at q;subst q;omega
 ·have:=hr.2;rw[hd]at this
  exact_mod_cast this
 ·rw[ZjG h,hdr];simp[W0,hd]
theorem ZaY{v:List Visit}{k d:Nat}(h:AtDay v k d)(hm:∀s,v[k]?=some s->s.d≠d):AtDay v k (d+1)/\wh v d=0:=by
 have hr:=h.rest;refine⟨⟨h.le,λt ht=>by have:=h.ahead t ht;omega,?_⟩,?_⟩
 ·cases e:v.drop k with
  | nil=>trivial
  | cons s w =>
   rw[e]at hr;have hs:v[k]?=some s:=by rw[<-List.head?_drop,e];rfl
   have:=hm s hs;have:=hr.1;exact⟨by omega,hr.2⟩
 ·rw[ZjG h];cases e:v.drop k with
  | nil=>rfl
  | cons s w =>
   have hs:v[k]?=some s:=by rw[<-List.head?_drop,e];rfl
   simp[W0,hm s hs]
theorem ZjI{v:List Visit}{k n:Nat}(h:AtDay v k n)(hv:∀s∈v,s.d<n):k=v.length:=by
 rcases Bb k v.length with q | q
 ·have hr:=h.rest;rw[AI q]at hr;have:=hv v[k] (A9 q);have:=hr.1;omega
 ·have:=h.le;omega
theorem ZjJ(l:List Int)(d:Int):qf (l++[d])=qk (qf l) d:=by unfold qf;rw[Br];rfl
theorem Zu4{d:Nat}(hd:d<=64)(l:List Int):(∀z∈l,0<=z/\z<d)->qf l<2 ^ d:=by
 refine Zc6 (p:=λl:List Int=>(∀z∈l,0<=z/\z<d)->qf l<2 ^ d) (λ_=>Nat.two_pow_pos d) (λl z ih h=>?_) l;have h1:=ih λy hy=>h y (by simp[hy])
 have h2:=h z DR;rw[ZjJ];unfold qk;rw[if_pos DQ];exact Nat.or_lt_two_pow h1 (B8 DX DQ)
theorem Zu5{n d:Nat}(h:n<2 ^ d)(hd:d<64):qk n (d:Int)=n+2 ^ d:=by
 unfold qk;rw[if_pos DQ,AJ];have:=Nat.two_pow_add_eq_or_of_lt h 1;rw[BR]at this;rw[Nat.or_comm,<-this];omega
theorem Zu6{v:List Visit}{k d:Nat}(h:AtDay v k d)(hd:d<64){s:Visit}(hs:v[k]?=some s)(he:s.d=d):qf ((v.take (k+1)).map (·.d))=qf ((v.take k).map (·.d))+2 ^ d/\qf ((v.take k).map (·.d))<2 ^ d:=by
 have h1:qf ((v.take k).map (·.d))<2 ^ d:=Zu4 DQ _ λz hz=>by obtain⟨t,ht,rfl⟩:=Al.1 hz;exact h.ahead t ht
 refine⟨?_,h1⟩;rw[AG,hs];simp only[Option.toList_some,List.map_append,AA,Bk];rw[ZjJ,he];exact Zu5 h1 hd
theorem Zu7{size rate there q:Int}{Q ns:List Int}(h:qm size rate there (q :: Q)=some ns):∃ns',ns=(there+q-rate) :: ns'/\qm size rate (there+q-rate) Q=some ns'/\there+q<=size/\rate<=there+q:=by
 unfold qm at h;split at h
 ·cases h
 ·rename_i hc;obtain⟨ns',h1,rfl⟩:=Ao.1 h;exact⟨ns',rfl,h1,by omega,by omega⟩
theorem ZjK{rate size z n:Int}{Q l:List Int}(h:wE rate size (z :: Q) (n :: l)=false):(0<z->n+rate=size)/\wE rate size Q l=false:=by
 have h':(decide (0<z/\n+rate≠size) || wE rate size Q l)=false:=h;rw[Bool.or_eq_false_iff,decide_eq_false_iff_not]at h';exact⟨λhz=>by
  rcases Int.lt_trichotomy (n+rate) size with q | q | q
  ·exact absurd ⟨hz,by omega⟩ h'.1
  ·exact q
  ·exact absurd ⟨hz,by omega⟩ h'.1,h'.2⟩
open Go Go.Proofs Hp
structure SrvV (c:Cust) (n:Nat) (v:List Visit):Prop where
 n60:n<=60
 len:v.length<=1000
 rise:ZM 0 v
 days:∀s∈v,s.d<n
 qs:∀s∈v,0<=s.q/\s.q<=2147483648
 fits:CustFits c
theorem Zu8(x:Inst)(p:zF)(i:Nat)(c:Cust)(n:Nat)(v:List Visit)(ns:List Int)(hc:x.cust[i]?=some c)(hxl:x.cust.length<=1048576)(hn:x.days=n)(hk:c.kind=2)(hV:Pure prog 55 [.agg [L p],I i] (L v))(h:SrvV c n v)(hrun:qm c.size c.rate c.start (yt v n)=some ns)(hfill:c.rule=1->wE c.rate c.size (yt v n) ns=false):
  Pure prog 19 [.agg (zy x),.agg [L p],I i] (B true):=by
 have hi:i<x.cust.length:=(Ac.1 hc).1;obtain⟨t,tl,b1,b2,b3,f0,f1⟩:=el 8 rfl x.cust i hi;obtain rfl:t=c:=by rw[hc]at b1;exact(Option.some.inj b1).symm
 refine zr func19 ntmps19 results19 λS nx hd=>?_
 repeat apply za
 refine zb ?_;intro v0 v1
 repeat apply za
 refine ze [] (zo f1 hi) ?_;intro v2
 repeat apply za
 refine zb ?_;refine zt hV ?_;intros
 (repeat apply za);refine zb ?_;intros
 (repeat apply za);refine zb ?_;intros
 (repeat apply za);refine zb ?_;intros
 (repeat apply za);refine zb ?_;intros
 (repeat apply za);refine zb ?_;intros
 (repeat apply za);refine zb ?_;intros
 have h60:=h.n60;have hr0:=h.fits.rate;have hs0:=h.fits.size
 repeat apply za
 refine zj (zC (λs:Nat × Nat × Int × List Int × Int × Int × Int × Nat=>s.1<=n/\AtDay v s.2.1 s.1/\(0<=s.2.2.1/\s.2.2.1<=2147483648)/\qm t.size t.rate s.2.2.1 ((yt v n).drop s.1)=some s.2.2.2.1/\(t.rule=1->wE t.rate t.size ((yt v n).drop s.1) s.2.2.2.1=false)/\s.2.2.2.2.1<n) (λ(d,k,th,ns,la,se,bi,w)=>[(2,I i),(3,.ptr nx v0 0),(7,.ptr (nx+2) v2 0),(8,L v),(9,I la),(10,.sc (.int .u64 se)),(11,.sc (.int .u64 bi)),(12,I th),(13,I k),(14,I d)]) (λ_=>[.cells v0 25 (zy x),.cells v1 30 [L p],.cells v2 87 (zV t)]) (λs=>n-s.1) (0,0,t.start,ns,-1,0,1,0) [] ⟨BK _,ZjF h.rise,h.fits.start,by simpa using hrun,by simpa using hfill,by show (-1:Int)<n;omega⟩ DR DR ?_);rintro⟨d,k,th,ns,la,se,bi,w⟩ ⟨hdd,hA,hth,hrn,hfl,hla⟩;simp only at hdd hA hth hrn hfl hla ⊢
 repeat apply za
 refine ze [] hn ?_;intros
 repeat apply za
 refine zv rfl (λhc'=>?_) (λhc'=>?_)
 ·simp at hc';have hdn:d<n:=DQ
  have hbd:=Zu3 v n d DQ hdn;rw[hbd]at hrn hfl;obtain⟨ns',rfl,hrn',hle,hge⟩:=Zu7 hrn;refine zh (za (zj ?_))
  (repeat apply za);refine zb ?_;intros
  refine za (qa (nx:=nx) (σ:=Int × Nat × Int × Int) (λs=>AtDay v s.2.1 (d+1)/\s.1=wh v d/\(0<=s.1/\s.1<=2147483648)/\s.2.2.1<n) (λ(q,k',la',se')=>[(2,I i),(3,.ptr nx v0 0),(7,.ptr (nx+2) v2 0),(8,L v),(9,I la'),(10,.sc (.int .u64 se')),(11,.sc (.int .u64 bi)),(12,I th),(13,I k'),(14,I d),(15,I q)]) (λ_=>S) (λ_=>[.cells v0 25 (zy x),.cells v1 30 [L p],.cells v2 87 (zV t)]) ?_ ?_)
  ·by_cases hkl:k<v.length
   ·obtain⟨s,tl3,s1,s2,s3,s4,g0⟩:=el 2 rfl v k hkl;have g1:=s4 1 DQ;have hkl':(k:Int)<(v.length:Int):=DQ
    have hqs:=h.qs s (Ab s1)
    by_cases hsd:s.d=d
    ·obtain⟨A1,A2⟩:=ZjH hA s1 hsd;have hsd':(s.d=(d:Int))=True:=eq_true hsd
     repeat apply za
     refine ze [(4,37)] (zJ g0 hkl hkl' hsd') ?_;intros
     repeat apply za
     refine zk DR ?_
     repeat apply za
     refine ze [] (zJ g0 g1 hkl hkl') ?_;intros
     (repeat apply za);refine zb ?_;intros
     (repeat apply za);refine zb ?_;intros
     (repeat apply za);refine zb ?_;intros
     exact zS (s.q,k+1,(d:Int),IntKind.u64.wrap (se+bi)) [] ⟨A1,A2.symm,hqs,by show (d:Int)<n;omega⟩ (by simp[zu k (by have:=h.len;omega)]) rfl DR
    ·obtain⟨A1,A2⟩:=ZaY hA λs' hs'=>by rw[s1]at hs';cases hs';exact hsd
     repeat apply za
     refine ze [(4,37)] (zJ g0 hkl hkl' hsd) ?_;intros
     repeat apply za
     refine zm DR ?_;exact zh (zS (0,k,la,se) [] ⟨A1,A2.symm,by simp,hla⟩ DR rfl DR)
   ·obtain⟨A1,A2⟩:=ZaY hA λs' hs'=>absurd (Ac.1 hs').1 hkl
    have hkl':¬(k:Int)<(v.length:Int):=DQ
    repeat apply za
    refine ze [(4,37)] (zA hkl hkl' zB) ?_;intros
    repeat apply za
    refine zm DR ?_;exact zh (zS (0,k,la,se) [] ⟨A1,A2.symm,by simp,hla⟩ DR rfl DR)
  ·rintro⟨q,k',la',se'⟩ ⟨A1,hq,hqb,hla'⟩;simp only at A1 hq hqb hla' ⊢;rw[<-hq]at hrn' hle hge hfl;have u1:W (th+q)=th+q:=wr _ DQ DQ;have u2:W (th+q-t.rate)=th+q-t.rate:=wr _ DQ DQ;have c1:¬t.size<th+q:=DQ
   have c2:¬th+q-t.rate<0:=DQ
   (repeat apply za);refine zb ?_;intros
   (repeat apply za);refine zb ?_;intros
   repeat apply za
   refine zm (by simp[hk]) ?_;refine zh ?_
   repeat apply za
   refine ze [] u1 ?_;intros;have h3:¬t.rule=1\/(t.rule=1/\¬0<q)\/(t.rule=1/\0<q/\th+q=t.size):=by
    by_cases r1:t.rule=1
    ·by_cases r2:0<q
     ·exact .inr (.inr ⟨r1,r2,by have:=(ZjK (hfl r1)).1 r2;omega⟩)
     ·exact .inr (.inl ⟨r1,r2⟩)
    ·exact .inl r1
   rcases h3 with z1 | ⟨z1,z2⟩ | ⟨z1,z2,z3⟩
   repeat apply za
   refine ze [(4,77),(8,81),(12,85)] (zA c1 z1 zB) ?_;intros
   repeat apply za
   refine zm DR ?_
   rotate_left
   have z1':=eq_true z1
   repeat apply za
   refine ze [(4,77),(8,81),(12,85)] (zJ c1 z1' z2 zB) ?_;intros
   repeat apply za
   refine zm DR ?_
   rotate_left
   have z1':=eq_true z1;have z2':=eq_true z2;have z3':=eq_true z3
   repeat apply za
   refine ze [(4,77),(8,81),(12,85)] (zJ c1 z1' z2' z3') ?_;intros
   repeat apply za
   refine zm DR ?_
   all_goals
    refine zh ?_
    repeat apply za
    refine ze [] u2 ?_;intros
    repeat apply za
    refine ze [] c2 ?_;intros
    repeat apply za
    refine zm (by simp[c2]) ?_;refine zh ?_
    (repeat apply za);refine zb ?_;intros
    exact zq (d+1,k',th+q-t.rate,ns',la',se',IntKind.u64.wrap (2*bi),w) [] ⟨hdn,A1,⟨by show 0<=th+q-t.rate;omega,by show th+q-t.rate<=2147483648;omega⟩,hrn',λhr=>(ZjK (hfl hr)).2,hla'⟩ DQ (by simp[zu d (by omega)]) rfl rfl
 ·simp at hc';obtain rfl:n=d:=DQ
  have hkv:=ZjI hA h.days;subst hkv;have hla2:¬(n:Int)<=la:=DQ
  refine zx ?_
  repeat apply za
  refine ze [(4,102)] (zo hn hla2) ?_;intros
  repeat apply za
  refine zm DR ?_;refine zh ?_
  (repeat apply za);refine zb ?_;intros
  repeat apply za
  refine zk (by simp[hk]) ?_
  (repeat apply za);refine zb ?_;intros
  repeat apply za
  exact D1 hd
open Go Go.Proofs Hp
theorem Zu9(x:Inst)(p:zF)(i:Nat)(c:Cust)(n:Nat)(v:List Visit)(hc:x.cust[i]?=some c)(hxl:x.cust.length<=1048576)(hn:x.days=n)(hk:c.kind=1)(hV:Pure prog 55 [.agg [L p],I i] (L v))(h:SrvV c n v)(hdem:∀s∈v,s.q=c.demand)(hset:qf (v.map (·.d))∈c.pats)(hpl:c.pats.length<=1048576):
  Pure prog 19 [.agg (zy x),.agg [L p],I i] (B true):=by
 have hi:i<x.cust.length:=(Ac.1 hc).1;obtain⟨t,tl,b1,b2,b3,f0,f1⟩:=el 8 rfl x.cust i hi;obtain rfl:t=c:=by rw[hc]at b1;exact(Option.some.inj b1).symm
 refine zr func19 ntmps19 results19 λS nx hd=>?_
 repeat apply za
 refine zb ?_;intro v0 v1
 repeat apply za
 refine ze [] (zo f1 hi) ?_;intro v2
 repeat apply za
 refine zb ?_;refine zt hV ?_;intros
 (repeat apply za);refine zb ?_;intros
 (repeat apply za);refine zb ?_;intros
 (repeat apply za);refine zb ?_;intros
 (repeat apply za);refine zb ?_;intros
 (repeat apply za);refine zb ?_;intros
 (repeat apply za);refine zb ?_;intros
 have h60:=h.n60
 repeat apply za
 refine zj (zC (λs:Nat × Nat × Int=>s.1<=n/\AtDay v s.2.1 s.1/\s.2.2<n) (λ(d,k,la)=>[(2,I i),(3,.ptr nx v0 0),(7,.ptr (nx+2) v2 0),(8,L v),(9,I la),(10,.sc (.int .u64 ((qf ((v.map (·.d)).take k):Nat):Int))),(11,.sc (.int .u64 ((2 ^ d:Nat):Int))),(12,I t.start),(13,I k),(14,I d)]) (λ_=>[.cells v0 25 (zy x),.cells v1 30 [L p],.cells v2 87 (zV t)]) (λs=>n-s.1) (0,0,-1) [] ⟨BK _,ZjF h.rise,by show (-1:Int)<n;omega⟩ (by simp[qf]) DR ?_);rintro⟨d,k,la⟩ ⟨hdd,hA,hla⟩;simp only at hdd hA hla ⊢
 repeat apply za
 refine ze [] hn ?_;intros
 repeat apply za
 refine zv rfl (λhc'=>?_) (λhc'=>?_)
 ·simp at hc';have hdn:d<n:=DQ
  have hb1:(2:Nat) ^ d<2 ^ 62:=B8 DX DQ;have hset2:∀s,v[k]?=some s->s.d=d->qf ((v.map (·.d)).take (k+1))=qf ((v.map (·.d)).take k)+2 ^ d/\qf ((v.map (·.d)).take k)<2 ^ d:=λs h1 h2=>by have:=Zu6 hA DQ h1 h2;rwa[List.map_take,List.map_take]at this
  obtain⟨b2,hb2⟩:∃b2,b2=(2:Nat) ^ (d+1):=⟨_,rfl⟩;have hb3:b2=2*2 ^ d:=by rw[hb2,DO,Dz]
  have hb62:(2:Nat) ^ 62=4611686018427387904:=DX
  rw[hb62]at hb1;have hbi:(2:Int) ^ d=(((2:Nat) ^ d:Nat):Int):=DR
  generalize (2:Nat) ^ d=bd at *;obtain⟨se,hse⟩:∃se,se=qf ((v.map (·.d)).take k):=⟨_,rfl⟩;rw[<-hse]at hset2 ⊢;have w1:IntKind.u64.wrap (2*(bd:Int))=(b2:Int):=by rw[IntWalk.u64_in _ DQ];omega
  have hhit:∀s,v[k]?=some s->s.d=d->IntKind.u64.wrap ((se:Int)+(bd:Int))=((qf ((v.map (·.d)).take (k+1)):Nat):Int):=λs h1 h2=>by
   obtain⟨e1,e2⟩:=hset2 s h1 h2;rw[e1,IntWalk.u64_in _ DQ];omega
  refine zh (za (zj ?_))
  (repeat apply za);refine zb ?_;intros
  refine za (qa (nx:=nx) (σ:=Int × Nat × Int) (λs=>AtDay v s.2.1 (d+1)/\(s.1=0\/s.1=t.demand)/\s.2.2<n) (λ(q,k',la')=>[(2,I i),(3,.ptr nx v0 0),(7,.ptr (nx+2) v2 0),(8,L v),(9,I la'),(10,.sc (.int .u64 ((qf ((v.map (·.d)).take k'):Nat):Int))),(11,.sc (.int .u64 (bd:Int))),(12,I t.start),(13,I k'),(14,I d),(15,I q)]) (λ_=>S) (λ_=>[.cells v0 25 (zy x),.cells v1 30 [L p],.cells v2 87 (zV t)]) ?_ ?_)
  ·by_cases hkl:k<v.length
   ·obtain⟨s,tl3,s1,s2,s3,s4,g0⟩:=el 2 rfl v k hkl;have g1:=s4 1 DQ;have hkl':(k:Int)<(v.length:Int):=DQ
    have hdm:=hdem s (Ab s1)
    by_cases hsd:s.d=d
    ·obtain⟨A1,-⟩:=ZjH hA s1 hsd;have hsd':(s.d=(d:Int))=True:=eq_true hsd;have hh:=hhit s s1 hsd
     repeat apply za
     refine ze [(4,37)] (zJ g0 hkl hkl' hsd') ?_;intros
     repeat apply za
     refine zk DR ?_
     repeat apply za
     refine ze [] (zJ g0 g1 hkl hkl') ?_;intros
     repeat apply za
     refine ze [] hh ?_;intros
     (repeat apply za);refine zb ?_;intros
     (repeat apply za);refine zb ?_;intros
     exact zS (s.q,k+1,(d:Int)) [] ⟨A1,.inr hdm,by show (d:Int)<n;omega⟩ (by simp[zu k (by have:=h.len;omega),hbi,hh]) rfl DR
    ·obtain⟨A1,-⟩:=ZaY hA λs' hs'=>by rw[s1]at hs';cases hs';exact hsd
     repeat apply za
     refine ze [(4,37)] (zJ g0 hkl hkl' hsd) ?_;intros
     repeat apply za
     refine zm DR ?_;exact zh (zS (0,k,la) [] ⟨A1,.inl rfl,hla⟩ (by simp[hse,hbi]) rfl DR)
   ·obtain⟨A1,-⟩:=ZaY hA λs' hs'=>absurd (Ac.1 hs').1 hkl
    have hkl':¬(k:Int)<(v.length:Int):=DQ
    repeat apply za
    refine ze [(4,37)] (zA hkl hkl' zB) ?_;intros
    repeat apply za
    refine zm DR ?_;exact zh (zS (0,k,la) [] ⟨A1,.inl rfl,hla⟩ (by simp[hse,hbi]) rfl DR)
  ·rintro⟨q,k',la'⟩ ⟨A1,hq,hla'⟩;simp only at A1 hq hla' ⊢
   repeat apply za
   refine ze [] w1 ?_;intros
   (repeat apply za);refine zb ?_;intros
   repeat apply za
   refine zk (by simp[hk]) ?_;have hq2:q=0\/(¬q=0/\q=t.demand):=by
    rcases hq with e | e
    ·exact .inl e
    ·by_cases e0:q=0
     ·exact .inl e0
     ·exact .inr ⟨e0,e⟩
   rcases hq2 with z1 | ⟨z1,z2⟩
   have z1':=eq_true z1
   repeat apply za
   refine ze [(2,64)] (zo z1' zB) ?_;intros
   repeat apply za
   refine zm DR ?_
   rotate_left
   have z2':=eq_true z2
   repeat apply za
   refine ze [(2,64)] (zo z1 z2') ?_;intros
   repeat apply za
   refine zm DR ?_
   all_goals
    refine zh (zx ?_)
    (repeat apply za);refine zb ?_;intros
    exact zq (d+1,k',la') [] ⟨hdn,A1,hla'⟩ DQ (by simp[zu d (by omega),hb2]) rfl rfl
 ·simp at hc';obtain rfl:n=d:=DQ
  have hkv:=ZjI hA h.days;subst hkv;have hla2:¬(n:Int)<=la:=DQ
  have htk:(v.map (·.d)).take v.length=v.map (·.d):=Ae DR;rw[htk];generalize qf (v.map (·.d))=st at *;refine zx ?_
  repeat apply za
  refine ze [(4,102)] (zo hn hla2) ?_;intros
  repeat apply za
  refine zm DR ?_;refine zh ?_
  (repeat apply za);refine zb ?_;intros
  repeat apply za
  refine zm (by simp[hk]) ?_;refine zh ?_
  (repeat apply za);refine zb ?_;intros
  repeat apply za
  refine zj (zC (λj:Nat=>j<=t.pats.length/\∀z∈t.pats.take j,z≠st) (λj=>[(7,.ptr (nx+2) v2 0),(10,.sc (.int .u64 (st:Int))),(16,I j)]) (λ_=>[.cells v0 25 (zy x),.cells v1 30 [L p],.cells v2 87 (zV t)]) (λj=>t.pats.length-j) 0 [] DR DR DR ?_);rintro j ⟨hj,hno⟩
  (repeat apply za);refine zb ?_;intros
  repeat apply za
  refine zv rfl (λhcj=>?_) (λhcj=>?_)
  ·simp at hcj;obtain⟨z,tl4,e1,e2,e3,g0⟩:=zE rfl t.pats j hcj;refine zh (za (zj ?_))
   by_cases hz:z=st
   ·subst hz
    repeat apply za
    refine ze [] (zo g0 hcj) ?_;intros
    repeat apply za
    refine zk DR ?_
    (repeat apply za);refine zb ?_;intros
    repeat apply za
    exact D1 hd
   ·have hz':¬(z:Int)=(st:Int):=DQ
    repeat apply za
    refine ze [] (zJ g0 hcj hz hz') ?_;intros
    repeat apply za
    refine zm (by simp[hz]) ?_;refine zh ?_
    (repeat apply za);refine zb ?_;intros
    exact zq (j+1) [] ⟨hcj,λy hy=>by rw[e3]at hy;rcases Ay.1 hy with q | q;exact hno y q;simp at q;subst q;exact hz⟩ DQ (by simp[zu j (by omega)]) rfl rfl
  ·simp at hcj;exact absurd rfl (hno st (by rw[Ae hcj];exact hset))
open Go Go.Proofs Hp
theorem ZjL:∀{v:List Visit} {a b:Int},ZM a v->(∀s∈v,s.d<b)->a<=b->a+v.length<=b
 | [],a,b,_,_,h=>by simpa using h
 | s :: v,a,b,h,hb,_=>by
  have h1:=hb s DR;have h2:=ZjL h.2 (λt ht=>hb t (by simp[ht])) DQ;have:=h.1;simp only[Ad];omega
theorem Zva{x:Inst}{n:Nat}{p:zF}(hQ:InstQ x n)(hG:PlanG x n p){i:Nat}{c:Cust}(hc:x.cust[i]?=some c):SrvV c n (yd i (told 0 p)):=by
 have hm:=hG.may;have hr:=ZjC i p 0 λd hd=>((wC x d).1 (hm d hd)).2.1
 have hsv:=hG.serves;refine⟨hG.a.n60,?_,hr.1,λs hs=>?_,λs hs=>?_,(hG.a.made c (Ab hc)).fits⟩
 ·have h1:=ZjL hr.1 hr.2 DR;have:=hG.len;have:=hG.a.n60;simp at h1;omega
 ·have:=hr.2 s hs;have:=hG.len;omega
 ·unfold yd at hs;obtain⟨y,hy,rfl⟩:=Al.1 hs;exact hsv.q y (Bj.1 hy).1
theorem Zvb{x:Inst}{n:Nat}{p:zF}(hQ:InstQ x n)(hG:PlanG x n p)(h0:wJ x p=0){i:Nat}{c:Cust}(hc:x.cust[i]?=some c):Pure prog 19 [.agg (zy x),.agg [L p],I i] (B true):=by
 have hi:i<x.cust.length:=(Ac.1 hc).1;have h6:=hQ.six;have hE:=(Zsl h0).2.2.2 i hi;have hV:=Zhc p i hG.serves.sz;have hS:=Zva hQ hG hc;have hd:=hQ.k.a.days;unfold xI at hE;rw[hc]at hE;simp only at hE;rcases ZaT ((WT hQ.m).custs c (Ab hc)) with ⟨k,-,-,l,-⟩ | ⟨k,-⟩
 ·rw[if_neg DQ]at hE;unfold Jk at hE;split at hE
  ·cases hE
  ·rename_i hq;split at hE
   ·rename_i hm;refine Zu9 x p i c n _ hc DQ hd k hV hS (λs hs=>?_) hm DQ;rcases Decidable.em (s.q=c.demand) with e | e
    ·exact e
    ·exact absurd (BF.2 ⟨s,hs,by simpa using e⟩) hq
   ·cases hE
 ·rw[if_pos k,hd]at hE;unfold wF at hE;split at hE
  ·rename_i hne;exact absurd hE hne
  ·rename_i hz;have hz':(yR c (yt (yd i (told 0 p)) n)).2=0:=by
    rcases Decidable.em ((yR c (yt (yd i (told 0 p)) n)).2=0) with e | e
    ·exact e
    ·exact absurd e hz
   obtain⟨ns,e1,e2⟩:∃ns,qm c.size c.rate c.start (yt (yd i (told 0 p)) n)=some ns/\(yR c (yt (yd i (told 0 p)) n)).1=ns:=by
    unfold yR at hz' ⊢;split at hz'
    ·cases hz'
    ·rename_i hb;rw[if_neg hb];split at hz'
     ·cases hz'
     ·rename_i ns hr;exact⟨ns,hr,rfl⟩
   rw[e2]at hE;refine Zu8 x p i c n _ ns hc DQ hd k hV hS e1 λhr=>?_
   rw[if_neg (by simpa using hr)]at hE;split at hE
   ·cases hE
   ·rename_i hf;simpa using hf
open Go Go.Proofs Hp
theorem Zvc{x:Inst}{n:Nat}(h:InstQ x n)(l:List Int):(∃bd,WZ x n l=⟨3,bd,0,0,[],[]⟩)\/∃bd co ho ds p,WZ x n l=⟨4,bd,co,ho,ds,p⟩/\PlanG x n p/\wJ x p=0:=by
 unfold WZ ZaO;split
 ·rename_i hf;right;unfold uT at hf;split at hf
  ·rename_i he;exact⟨_,_,_,_,_,rfl,ZjA h _ _ _ he,hf⟩
  ·rename_i he;exact absurd hf he
 ·exact .inl ⟨_,rfl⟩
theorem Zvd(x:Inst)(l:List Int)(hx:InstOk x):Pure prog 3 [.agg (zy x),L l] (B true):=by
 have hlv:=ZuW;have hG:=ZlJ x hx;have hNu:=ZuX l;obtain⟨n,hn⟩:∃n:Nat,(yI x).days=n:=⟨(yI x).days.toNat,by have:=WE x;omega⟩;have hQ:=Zuy x hn;have hPr:=ZuS (Zjs hQ);have hPl:=ZuZ hQ (XL l);have hcs:=Zvc hQ (XL l);generalize WZ (yI x) n (XL l)=rp at *;generalize qM (jW (yI x))=tx at *;generalize yI x=y at *;generalize XL l=sl at *;rcases hcs with ⟨bd,rfl⟩ | ⟨bd,co,ho,ds,p,rfl,hGp,h0⟩
 ·clear hQ hn hx;refine zr func3 ntmps3 results3 λS nx hd=>?_
  repeat apply za
  refine zb ?_;intro v0
  repeat apply za
  refine zb ?_;refine zt hG ?_;intro v1;intros
  repeat apply za
  refine zb ?_;refine zt hPr ?_;refine zt hNu ?_;refine zt hPl ?_;intro v2;intros
  (repeat apply za);refine zb ?_;intros
  repeat apply za
  refine zk DR ?_
  repeat apply za
  refine ze [(5,27)] trivial ?_;refine qi [(5,27)] hlv trivial ?_;intros
  repeat apply za
  exact D1 hd
 ·have hRp:=ZqC y p (Zjx hQ) (ZdU hGp);have hDk:=λd hd=>(hGp.s.ok d hd).1.s
  rw[h0]at hRp;have hlen:=hGp.len;have hsv:=λi c (hc:y.cust[i]?=some c)=>Zvb hQ hGp h0 hc
  have hdays:=hQ.k.a.days;refine zr func3 ntmps3 results3 λS nx hd=>?_
  repeat apply za
  refine zb ?_;intro v0
  repeat apply za
  refine zb ?_;refine zt hG ?_;intro v1;intros
  repeat apply za
  refine zb ?_;refine zt hPr ?_;refine zt hNu ?_;refine zt hPl ?_;intro v2;intros
  (repeat apply za);refine zb ?_;intros
  repeat apply za
  refine zm DR ?_;refine zh ?_;have hleni:((p.length:Nat):Int)=y.days:=by rw[hdays,hlen]
  repeat apply za
  refine ze [(3,33)] hleni ?_;intros
  repeat apply za
  refine zm DR ?_;refine zh ?_
  (repeat apply za);refine zb ?_;intros
  repeat apply za
  refine zj (zC (λd:Nat=>d<=n) (λd=>[(5,.ptr (nx+1) v1 0),(6,.ptr (nx+2) v2 0),(7,I d)]) (λ_=>[.cells v0 25 (zy x),.cells v1 25 (zy y),.cells v2 32 [I 4,I bd,I co,I ho,L ds,L p]]) (λd=>n-d) 0 [] (BK _) DR DR ?_);rintro d hd1
  (try simp only at hd1 ⊢)
  (repeat apply za);refine zb ?_;intros
  repeat apply za
  refine zv rfl (λhc=>?_) (λhc=>?_)
  ·simp at hc;have hdn:d<p.length:=DQ
   have hdn':(d:Int)<p.length:=DQ
   obtain⟨dy,tl,a1,a2,a3,f0⟩:=zE rfl p d hdn;have hmd:=(wC y dy).1 (hGp.may dy (Ab a1));have hsz:=(ZdU hGp).ok;have hdl:=hsz.d dy (Ab a1);have hpl:=hsz.n;have hveh:¬y.veh<(dy.length:Int):=by have:=hmd.2.2;omega
   refine zh (za (zj ?_))
   repeat apply za
   refine zz (some [nx+1,nx+2]) (Row.pures [0,1,2,3,4,5,6,7,8,9,10] .done) mixed (zA f0 hdn hdn') ?_;intros
   repeat apply za
   refine zm (by simp[hveh]) ?_;refine zh ?_
   (repeat apply za);refine zb ?_;intros
   repeat apply za
   refine zj (zC (λk:Nat=>k<=dy.length) (λk=>[(5,.ptr (nx+1) v1 0),(6,.ptr (nx+2) v2 0),(7,I d),(8,I k)]) (λ_=>[.cells v0 25 (zy x),.cells v1 25 (zy y),.cells v2 32 [I 4,I bd,I co,I ho,L ds,L p]]) (λk=>dy.length-k) 0 [] (BK _) DR DR ?_);rintro k hk1
   (try simp only at hk1 ⊢)
   repeat apply za
   refine ze [] (zA f0 hdn hdn') ?_;intros
   repeat apply za
   refine zv rfl (λhc2=>?_) (λhc2=>?_)
   ·simp at hc2;obtain⟨t,tl2,c1,c2,c3,f1⟩:=zE rfl dy k hc2;have hc2':(k:Int)<dy.length:=DQ
    have htm:=Ab c1;obtain⟨m1,m2,m3,m4⟩:=(Jb y t).1 (hmd.1 t htm);have htl:=hsz.t dy (Ab a1) t htm;have hld:=Ze7 t htl;have hcu:=ZbK t htl;have hwy:=Ze0 y (t.map (·.c)) (by simpa using htl) (λc hc=>by obtain⟨s,hs,rfl⟩:=Al.1 hc;exact hDk dy (Ab a1) t htm s hs);have hne:¬t.length=0:=by have:=Wp m1;simpa using this
    have n1:¬y.cap<W (zU t):=DQ
    have n2:¬y.len<W (yE y (t.map (·.c))):=DQ
    refine zh (za (zj ?_))
    repeat apply za
    refine ze [] (zP f0 f1 hdn hdn' hc2 hc2') ?_;intro v9
    repeat apply za
    refine zz (some [nx+1,nx+3]) (Row.pures [0,1,2,3,4,5,6,7,8,9,10,11,12,13,14,15,16,17,18,19] .done) mixed (zA n1 n2 hne) ?_;refine zH (hld) (zA n1 n2 hne) ?_;refine zH (hcu) (zA n1 n2 hne) ?_;refine zH (hwy) (zA n1 n2 hne) ?_;intros
    repeat apply za
    refine zm DR ?_;refine zh ?_
    (repeat apply za);refine zb ?_;intros
    exact zq (k+1) [_] hc2 DQ (by simp[zu k (by omega)]) rfl rfl
   ·simp at hc2;refine zx ?_
    (repeat apply za);refine zb ?_;intros
    exact zq (d+1) [] DQ DQ (by simp[zu d (by omega)]) rfl rfl
  ·simp at hc;refine zx ?_
   (repeat apply za);refine zb ?_;intros
   repeat apply za
   refine zj (zC (λi:Nat=>i<=y.cust.length) (λi=>[(5,.ptr (nx+1) v1 0),(6,.ptr (nx+2) v2 0),(10,I i)]) (λ_=>[.cells v0 25 (zy x),.cells v1 25 (zy y),.cells v2 32 [I 4,I bd,I co,I ho,L ds,L p]]) (λi=>y.cust.length-i) 0 [] (BK _) DR DR ?_);rintro i hi1
   (try simp only at hi1 ⊢)
   (repeat apply za);refine zb ?_;intros
   repeat apply za
   refine zv rfl (λhc3=>?_) (λhc3=>?_)
   ·simp at hc3;obtain⟨c,hci⟩:∃c,y.cust[i]?=some c:=⟨_,Af hc3⟩;have hs1:=hsv i c hci;have h6:=hQ.six;refine zh (za (zj ?_))
    repeat apply za
    refine zb ?_;refine zt hs1 ?_;intros
    (repeat apply za);refine zb ?_;intros
    repeat apply za
    refine zm DR ?_;refine zh ?_
    (repeat apply za);refine zb ?_;intros
    exact zq (i+1) [] hc3 DQ (by simp[zu i (by omega)]) rfl rfl
   ·refine zx ?_
    repeat apply za
    refine ze [(5,120)] trivial ?_;refine qi [(5,120)] hRp trivial ?_;refine qi [(5,120)] hlv trivial ?_;intros
    repeat apply za
    exact D1 hd
end Go.Proofs.YtcocagkbfpgmiaaGreatDoor.Pv
