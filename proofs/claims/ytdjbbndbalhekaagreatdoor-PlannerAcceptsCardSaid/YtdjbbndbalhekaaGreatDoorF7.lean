/- Part of a proof, packed. -/
import Derived.Test.YtdjbbndbalhekaaGreatDoorF6
open List (range replicate length_map length_append map_append append_assoc cons_append map_take map_set)
open Option.some (inj injEq)
open Go.Proofs.YtdjbbndbalhekaaGreatDoor.Pv.Enc (enc)
open Go.IntKind (i64)
open Go.Proofs.Tryz
set_option linter.defProp false
set_option maxRecDepth 100000
set_option maxHeartbeats 3200000
namespace Go.Proofs.YtdjbbndbalhekaaGreatDoor.Pv
open Go Go.Proofs
variable {n t:Nat}{F:Nat->PV}{S:Store}{o:Oper}{cs:List PV}{K:PV->Store->Prop}
def kX{P:Program}{s x:Operand}{e m id ver et:Nat}{l:List PV}(ho:o.op=.call { callee:=.builtin .copy,args:=#[s,x],argTypes:=#[t,t] })(ht:P.underlying t=some (.slice e))(f:(P.info? e).map (·.size)=some 1)
  (hs:ev F s=.sl id ver 1 0 m) (hx:ev F x=.lst l.length l) (hid:S id=.cells ver et cs) (hm:cs.length=m) (d5:0<m)
  (hK:K (I (min l.length m:Nat)) (S.set id (.cells ver et (l.take m++cs.drop (min l.length m))))):PO P jM n o F S K:=by
 intro G hG C w a N st next Q' h;have e1:=st.ev s;rw[(hG s (by grind[Op.operands,Call.operands])).trans hs]at e1;have e2:=st.ev x;rw[(hG x (by grind[Op.operands,Call.operands])).trans hx]at e2;have a6:∀c,o.op≠.defer c:=by intro c hc;rw[ho]at hc;cases hc
 generalize hv:a.eval s=v at e1;generalize hu:a.eval x=u at e2;cases e1 with
 |sl i1 i2 i3 =>
 rcases (i3 ver (by rw[hid];rfl)).2 rfl with ⟨_,q,_,_⟩|⟨b,k,ad,dcap,hl,rfl,hq0,_⟩
 omega;obtain⟨rfl,d6⟩:=hq0 rfl;obtain⟨hn,_⟩|⟨b',k',c,g1,g2,g3,g4,g5,g6⟩:=st.sim.cells id ver et cs hid;simp_all;rw[hl]at g1;cases g1;have a7:∀(vs:List Value) (a':Addr) (cap:Nat),u=.slice (some a') l.length cap->vs.length=min l.length m->(∀j v,vs[j]?=some v->w.cell? (a'.add j)=some v)->(∀v∈vs,v.oneCell'=true)->(∀(i:Nat) (p:PV) (v:Value),(l.take m)[i]?=some p->vs[i]?=some v->Rel C S w p v)->o.wpIn (Fe jM) n P a w next Q':=by
  intro vs a' cap c7 y a1 a0 a8;have g:=run_copy_row P w t t o.type e b 0 m dcap a' l.length cap c et vs ht f g2 (by rw[y]) a1 D9 a0;have d:=bo (P:=P) (a:=a) (w:=w) ho (by rw[hv,hu,c7];exact g);simp only[C8,AK,AV]at d;generalize a9:w.setRow b (vs++c.toList.drop vs.length).toArray=w' at d;have a2:w'.heap[b]?=some (.cells (vs++c.toList.drop vs.length).toArray et (0,0)):=by rw[<-a9];exact setRow_heap w b c _ et _ g2
  have c8:w.grownBy w' (some b)/\w.drawn<=w'.drawn:=by rw[<-a9];exact⟨⟨rfl,rfl,rfl,by simp,λj r d0=>setRow_other w b j _ (λe=>d0 (by rw[e]))⟩,Ag _⟩
  have a3:(vs++c.toList.drop vs.length).toArray.size=k:=ED;have a4:(l.take m).length=vs.length:=by rw[AA,y];omega
  obtain⟨t1,t2⟩:=st.sim.turn (l:=C.loc id) (ver':=ver) (cs':=l.take m++cs.drop (min l.length m)) hid (Ag _) (λ_=>rfl) (by rw[hl];exact c8)
   (.inr ⟨b,k,_,hl,.inr (by rw[hl];rfl),a2,a3,by rw[length_append,A7,a4];omega,λi z hi f=>by
     rw[AH]at f;by_cases q1:i<vs.length;rw[Au q1]at f;exact a0 z (Ab f);rw[Ao D9,AL]at f;rw[length_append,A7,a4]at hi;have e9:vs.length+(i-vs.length)=i:=D9;rw[e9]at f;exact g5 i z D9 (by rw[<-Array.getElem?_toList];exact f),
    λi p z hp f=>by rw[AH]at f;by_cases q1:i<vs.length;rw[Au q1]at f;rw[Au D9]at hp;exact a8 i p z hp f;rw[Ao D9,AL]at f;rw[Ao D9,AL,a4,<-y]at hp;have e9:vs.length+(i-vs.length)=i:=D9;rw[e9]at f hp;exact g6 i p z hp (by rw[<-Array.getElem?_toList];exact f)⟩)
  have b7:goInt vs.length=Value.int .i64 ((min l.length m:Nat):Int):=by rw[y];rfl
  exact qx a6 d (h _ _ _ _ _ hK (by rw[b7];exact .sc _) t1 t2)
 generalize hk:l.length=kk at e2;cases e2 with
 |lst0 =>
 rename_i cap a';have g:(Builtin.copy_ #[t,t] o.type #[a.eval s,a.eval x]).run P w=.ok (goInt 0) w:=by
  rw[hv,hu];cases hq:P.info? e with
  |none=>simp[hq]at f
  |some i =>
  cases a'<;>simp[Builtin.copy_,run_underlying ht,Builtin.lenOf,Builtin.firstCells,sizeOf,typeInfo,hq,storeCells,loadCells,loadCellsFrom]
 have d:=bo (P:=P) (a:=a) (w:=w) ho g;have eS:S.set id (.cells ver et cs)=S:=by funext i;by_cases hi:i=id;subst hi;grind[q11];exact q10 _ _ _ _ hi
 simp only[Aj,Nat.zero_min,DJ,DA,AK,eS]at hK;exact qx a6 d (h _ _ _ _ _ hK (.sc _) st.sim (Step.refl _ _ _))
 |lst1 hn d7 hb hM d1 h1 h2 =>
 rename_i cap b' o' c' e' fz;subst hk;have b8:∀j,(⟨b',o',none⟩:Addr).add j=⟨b',o'+j,none⟩:=by intro j;unfold Addr.add;split<;>simp_all
 have a5:∀(j:Nat) (v:Value),((c'.toList.drop o').take (min l.length m))[j]?=some v->j<min l.length m/\c'[o'+j]?=some v:=λj v r=>by rw[BT]at r;split at r;rename_i d2;rw[AL,Array.getElem?_toList]at r;exact⟨d2,r⟩;cases r
 refine a7 ((c'.toList.drop o').take (min l.length m)) ⟨b',o',none⟩ cap rfl ?_ ?_ ?_ ?_;rw[AA,A7];have e9:c'.toList.length=c'.size:=Array.length_toList;by_cases c6:l=[];subst c6;simp;have:=d1 c6;omega;intro j v r;obtain⟨q1,q2⟩:=a5 j v r;rw[b8];simp[World.cell?,hb,q2];intro v d3;obtain⟨j,r⟩:=Cg d3;obtain⟨q1,q2⟩:=a5 j v r;exact h1 j v D9 q2;intro i p v hp d4;obtain⟨q1,q2⟩:=a5 i v d4;rw[AP D9]at hp;exact h2 i p v hp q2
def wX(id ver id2 v2:Nat)(p:PV):PV :=
 match p with
 |.sl o v sz off k=>if o=id/\v=ver then .sl id2 v2 sz off k else .sl o v sz off k
 |.ptr o v off=>if o=id/\v=ver then .ptr id2 v2 off else .ptr o v off
 |p=>p
def Jc(id ver id2 v2:Nat)(x:Ob):Ob :=
 match x with
 |.cells v e ds=>.cells v e (ds.map (wX id ver id2 v2))
 |x=>x
variable {e b d:Nat}{p:PV}
def Zxh{C C':Ctx}{T:Store}{w:World}{id ver:Nat}{f:List PV}(hid:S id=.cells ver e cs)(st:Step C S w C' T w)(hn:T b=.cells d n f)(hl:C'.loc b=C.loc id)(c:b<C'.next/\d<C'.clock){u:Value}
  (h:Rel C S w p u):Rel C' T w (wX id ver b d p) u:=by
 unfold wX;split;split
 .rename_i hc;obtain⟨rfl,rfl⟩:=hc;cases h with
  |sl h1 h2 h3 =>
  refine .sl h1 c λv0 a=>?_;rw[hn]at a;cases a;refine⟨Ag _,λ_=>?_⟩;rw[hl];exact(h3 _ (by rw[hid];rfl)).2 rfl
 exact h.mono st;split
 .rename_i hc;obtain⟨rfl,rfl⟩:=hc;cases h with
  |ptr h1 h2 h3 =>
  refine .ptr h1 c λv0 a=>?_;rw[hn]at a;cases a;refine⟨Ag _,λ_=>?_⟩;rw[hl];exact(h3 _ (by rw[hid];rfl)).2 rfl
 exact h.mono st;exact h.mono st
variable {P:Program}{nx N:Nat}{obs:List Ob}
def QA{r:Rd}{Q:Exit->(Nat->PV)->Store->Prop}{c:Code}(j:Nat){ver:Nat}(hj:obs[j]?=some (.cells ver e cs))
  (h:∀v2,PW P r n N c Q (λi=>wX (nx+j) ver (nx+obs.length) v2 (F i)) (ext S nx ((obs.map (Jc (nx+j) ver (nx+obs.length) v2)).set j .dead++[.cells v2 e (cs.map (wX (nx+j) ver (nx+obs.length) v2))]))):PW P r n N c Q F (ext S nx obs):=by
 intro C w a st;have a0:j<obs.length:=(Af.1 hj).1;have h:=h C.clock;have hid:ext S nx obs (nx+j)=.cells ver e cs:=by rw[zZ,Aa,hj];rfl
 have a3:ext S nx obs (nx+obs.length)=.dead:=Z9;have g:ext S nx ((obs.map (Jc (nx+j) ver (nx+obs.length) C.clock)).set j .dead++[.cells C.clock e (cs.map (wX (nx+j) ver (nx+obs.length) C.clock))]) (nx+obs.length)=.cells C.clock e (cs.map (wX (nx+j) ver (nx+obs.length) C.clock)):=by rw[zZ,Aa,Ao EA];simp
 have a4:ext S nx ((obs.map (Jc (nx+j) ver (nx+obs.length) C.clock)).set j .dead++[.cells C.clock e (cs.map (wX (nx+j) ver (nx+obs.length) C.clock))]) (nx+j)=.dead:=by rw[zZ,Aa,Au (by simpa using a0),A4 (by simpa using a0)];rfl
 have s:∀o,o≠nx+j->o≠nx+obs.length->ext S nx ((obs.map (Jc (nx+j) ver (nx+obs.length) C.clock)).set j .dead++[.cells C.clock e (cs.map (wX (nx+j) ver (nx+obs.length) C.clock))]) o=ext S nx obs o \/
   ext S nx ((obs.map (Jc (nx+j) ver (nx+obs.length) C.clock)).set j .dead++[.cells C.clock e (cs.map (wX (nx+j) ver (nx+obs.length) C.clock))]) o=Jc (nx+j) ver (nx+obs.length) C.clock (ext S nx obs o):=by
  intro o h1 h2;by_cases ho:o<nx;simp_all[zL];right;simp only[ext];rw[if_neg ho,if_neg ho,Aa,Aa];by_cases f:o-nx<obs.length;grind;rw[An ED,An D9];rfl
 generalize a5:ext S nx ((obs.map (Jc (nx+j) ver (nx+obs.length) C.clock)).set j .dead++[.cells C.clock e (cs.map (wX (nx+j) ver (nx+obs.length) C.clock))])=T at *;generalize a6:ext S nx obs=S1 at *;generalize a7:nx+obs.length=id2 at *;generalize a8:nx+j=id at *;clear a5 a6 a7 a8 hj a0;have t:=st.sim;have a9:id≠id2:=by intro e2;rw[e2,a3]at hid;cases hid
 have d:∀o,o≠id2->T o≠.dead->S1 o≠.dead/\o≠id:=by intro o h2 hT;by_cases h1:o=id;simp_all;refine⟨λhs=>?_,h1⟩;obtain q|q:=s o h1 h2;simp_all;rw[q,hs]at hT;exact hT rfl
 have a1:∀o v,o≠id2->(T o).ver=some v->(S1 o).ver=some v:=by
  intro o v h2 hv;by_cases h1:o=id;subst h1;rw[a4]at hv;cases hv;obtain q|q:=s o h1 h2;simp_all;rw[q]at hv;cases hs:S1 o with
  |dead=>rw[hs]at hv;cases hv
  |cells v0 e0 ds=>rw[hs]at hv;exact hv
  |map v0 es=>rw[hs]at hv;exact hv
 obtain⟨C',y⟩:∃C':Ctx,C'={ loc:=λo=>if o=id2 then C.loc id else C.loc o,next:=max C.next (id2+1),clock:=C.clock+1 }:=⟨_,rfl⟩;have l:C'.loc id2=C.loc id:=by rw[y];simp
 have f:∀o,o≠id2->C'.loc o=C.loc o:=λo ho=>by simp_all
 have b7:C'.next=max C.next (id2+1):=by rw[y]
 have b8:C'.clock=C.clock+1:=by rw[y]
 clear y;have step:Step C S1 w C' T w:=by refine⟨rfl,⟨rfl,Ag _⟩,rfl,Ag _,by omega,by omega,λb c6 hM=>⟨rfl,?_⟩,λo v1 hv=>?_⟩;rintro⟨o,k,ho,hl⟩;by_cases h2:o=id2;subst h2;rw[l]at hl;exact hM ⟨id,k,by rw[hid];simp,hl⟩;rw[f o h2]at hl;exact hM ⟨o,k,(d o h2 ho).1,hl⟩;by_cases h2:o=id2;subst h2;rw[g]at hv;cases hv;exact .inl (.inr (Ag _));simp_all
 have mv:∀{p:PV} {u:Value},Rel C S1 w p u->Rel C' T w (wX id ver id2 C.clock p) u:=λhr=>Zxh hid step g l ⟨by omega,by omega⟩ hr;have c7:∀{ds:List PV} {i:Nat} {p:PV},(ds.map (wX id ver id2 C.clock))[i]?=some p->∃q,ds[i]?=some q/\p=wX id ver id2 C.clock q:=by intro ds i p hp;rw[Ai,Al]at hp;obtain⟨q,h1,h2⟩:=hp;exact⟨q,h1,h2.symm⟩
 have sim:Sim C' T w:=by
  refine⟨λo ho=>?_,λo v hv=>?_,λo o' b k k' h1 h2 h3 h4=>?_,λo v0 e0 ds ho=>?_,λo v0 es ho=>?_⟩;by_cases h2:o=id2;omega;have:=t.lt o (d o h2 ho).1;omega;by_cases h2:o=id2;subst h2;rw[g]at hv;cases hv;omega;have:=t.clk o v (a1 o v h2 hv);omega;by_cases z:o=id2<;>by_cases q2:o'=id2;omega;subst z;rw[l]at h3;rw[f o' q2]at h4;obtain⟨d1,d2⟩:=d o' q2 h2;exact absurd (t.J id o' b k k' (by rw[hid];simp) d1 h3 h4).symm d2;subst q2;rw[l]at h4;rw[f o z]at h3;obtain⟨d1,d2⟩:=d o z h1;exact absurd (t.J o id b k k' d1 (by rw[hid];simp) h3 h4) d2;rw[f o z]at h3;rw[f o' q2]at h4;exact t.J o o' b k k' (d o z h1).1 (d o' q2 h2).1 h3 h4
  .by_cases h2:o=id2;subst h2;rw[g]at ho;cases ho;rw[l];obtain⟨z,q2⟩|⟨b,k,cc,g1,g2,g3,g4,g5,g6⟩:=t.cells id ver e cs hid;exact .inl ⟨z,by rw[q2];rfl⟩;grind;have h1:=(d o h2 (by rw[ho];simp)).2;rw[f o h2];obtain q|q:=s o h1 h2;rw[q]at ho;obtain hn|⟨b,k,cc,g1,g2,g3,g4,g5,g6⟩:=t.cells o v0 e0 ds ho;exact .inl hn;exact .inr ⟨b,k,cc,g1,g2,g3,g4,g5,λi p v hp hv=>(g6 i p v hp hv).mono step⟩;rw[q]at ho;cases hs:S1 o with
   |dead=>simp_all
   |map v1 es=>rw[hs]at ho;cases ho
   |cells v1 e1 a2 =>
   rw[hs]at ho;cases ho;obtain⟨z,q2⟩|⟨b,k,cc,g1,g2,g3,g4,g5,g6⟩:=t.cells o _ _ a2 hs;exact .inl ⟨z,by rw[q2];rfl⟩;grind
  have h2:o≠id2:=by rintro rfl;rw[g]at ho;cases ho
  have h1:=(d o h2 (by rw[ho];simp)).2;have hs:S1 o=.map v0 es:=by
   obtain q|q:=s o h1 h2;simp_all;cases hs:S1 o with
   |dead=>simp_all
   |map v1 c8=>rw[q,hs]at ho;exact ho
   |cells v1 e1 a2=>rw[q,hs]at ho;cases ho
  obtain⟨b,k,ms,cl,g1,g2,g3,g4⟩:=t.maps o v0 es hs;exact⟨b,k,ms,cl,by simp_all,g2,g3,λi x m he hm=>⟨(g4 i x m he hm).1,(g4 i x m he hm).2.mono step⟩⟩
 refine wpIn_mono (h C' w a ⟨sim,st.size,λi=>mv (st.fr i),r.keep step st.v⟩) ?_;rintro e a' w' ⟨F2,S2,C2,h1,h2,h3,h4⟩;exact⟨F2,S2,C2,h1,h2,h3,step.trans h4⟩
def ZA(f:Nat->Int)(p:Nat):Nat->Option Int
 |0=>none
 |k+1=>if k=p then ZA f p k else match ZA f p k with
  |none=>some (f k)
  |some b=>some (if f k<b then f k else b)
def Ym(f:Nat->Int)(p k:Nat):Int:=(ZA f p k).getD 0
def EW(f:Nat->Int)(p:Nat):ZA f p (p+1)=ZA f p p:=if_pos rfl
variable {f:Nat->Int}{k:Nat}
def ZlM{p:Nat}(h:k≠p)(hn:ZA f p k=none):ZA f p (k+1)=some (f k):=by show (if k=p then _ else _)=_;rw[if_neg h,hn]
def ZlN{p:Nat}{b:Int}(h:k≠p)(hn:ZA f p k=some b):ZA f p (k+1)=some (if f k<b then f k else b):=by show (if k=p then _ else _)=_;rw[if_neg h,hn]
def EX(n p:Nat)(hn:n<=2097152)(u:p<=2097152)(g:FuncId)(ps:List PV)(f:Nat->Int)
  (h:∀k,k<n->k≠p->∀T:Store,(∀o,S o≠.dead->T o=S o)->Spec prog g (ps++[I p,I k]) T (λq S'=>q=I (f k)/\S'=T)) :
  SP 170 [I n,I p,.fn (.func g) ps []] S (λq S'=>q=I (Ym f p n)/\S'=S):=by
 have l:=EW f p;have e{k:Nat}:=ZlM (f:=f) (p:=p) (k:=k);have i{k:Nat}{b:Int}:=ZlN (f:=f) (p:=p) (k:=k) (b:=b);unfold Ym;have h0:ZA f p 0=none:=rfl;generalize ZA f p=lo at *;refine i' func170 λnx r=>?_;have s:∀obs o,S o≠.dead->ext S nx obs o=S o:=λobs o ho=>by apply zL;obtain q|q:=Bc o nx;exact q;exact absurd (r o q) ho
 refine EJ ?_;refine EJ ?_;refine ze (EJ ?_);refine zn (zF (λk:Nat=>k<=n) (λk=>[(1,I p),(2,.fn (.func g) ps []),(7,I ((lo k).getD 0)),(8,B (lo k).isSome),(11,I n),(12,I k)]) (λ_=>[]) (λk=>n-k) 0 [] EA (by simp[h0]) EA ?_);rintro k w;refine EJ ?_;refine ze (zA rfl (λhc=>?_) (λhc=>?_))
 .simp at hc;refine zk (aA (EJ ?_));refine ze (EJ ?_);by_cases a:k=p;subst a;refine aD ?_;refine zB (zg ?_);exact zv (k+1) [] hc D9 (by simp[zy k D9,l]) rfl EA;have t:¬(k:Int)=p:=D9;have e:=e a;have i:=@i k;refine zp ED ?_;refine zk (EJ ?_);refine λj=>((h k hc a _ (s _)).mono ?_).v;rintro _ _ ⟨rfl,rfl⟩;refine⟨_,_,rfl,zS j ?_⟩;cases hl:lo k with
  |none =>
  have m:=e hl;refine aF [(2,24)] zz ?_;refine aD ?_;refine zg ?_;refine zg ?_;exact zv (k+1) [] hc D9 (by simp[zy k D9,m]) rfl EA
  |some b =>
  have c:=i a hl;refine aF [(2,24)] n' ?_;by_cases d:f k<b;rw[if_pos d]at c;refine zo (by simp[d]) ?_;refine zg ?_;refine zg ?_;exact zv (k+1) [] hc D9 (by simp[zy k D9,c]) rfl EA;rw[if_neg d]at c;refine zp (by simp[d]) ?_;refine zk (zg ?_);exact zv (k+1) [] hc D9 (by simp[zy k D9,c]) rfl EA
 simp at hc;obtain rfl:k=n:=D9;refine zB (EJ ?_);exact EK r
abbrev Xb(x:Inst)(s:PV):List PV:=[I x.days,I x.U,I x.R,I x.len,L x.y,L x.J,s]
def Zxi{id ver:Nat}(x:Inst)(s:PV)(b a:Nat)(e:S id=.cells ver 243 (Xb x s)):
  SP 171 [.ptr id ver 0,I b,I a] S (λq S'=>q=I (arc x a b)/\S'=S):=by
 have c:=ul x a b;refine i' func171 λnx f=>?_;have d:id<nx:=jD f e EA;have x1:∀obs,ext S nx obs id=.cells ver 243 (Xb x s):=λobs=>(zL d).trans e;refine EJ ?_;refine aF [] x1 ?_;refine yK [] c x1 ?_;exact EK f
variable {ib w:Nat}{z:Int}
def Zxj{id ver:Nat}(x:Inst)(l:List Int)(a b:Nat)(h:S id=.cells ver 243 (Xb x (.sl ib w 1 0 l.length)))(i:S ib=.cells w 3 (l.flatMap enc))(hb:l[b]?=some z):
  SP 172 [.ptr id ver 0,I a,I b] S (λq S'=>q=I (W (arc x a b-z))/\S'=S):=by
 have c:=ul x a b;have e:b<l.length:=(Af.1 hb).1;obtain⟨t,tl,b1,b2,b3,j⟩:=zH rfl l b e;obtain rfl:t=z:=by rw[hb]at b1;exact(inj b1).symm
 refine i' func172 λnx f=>?_;have g:id<nx:=jD f h EA;have d:ib<nx:=jD f i EA;have x1:∀obs,ext S nx obs id=.cells ver 243 (Xb x (.sl ib w 1 0 l.length)):=λobs=>(zL g).trans h;have x2:∀obs,ext S nx obs ib=.cells w 3 (l.flatMap enc):=λobs=>(zL d).trans i;refine EJ ?_;refine aG (some [id,ib]) R3 (zM x1 x2 j e) ?_;refine zK (c) (zM x1 x2 j e) ?_;exact EK f
def eB(x:Inst)(hx:x.y.length<=1048576):PP 138 [.agg (zE x)] (I ((x.y.length+1:Nat):Int)):=by
 have a:i64.wrap ((x.y.length:Int)+1)=(x.y.length:Int)+1:=by rw[AD];omega
 refine c9 func138 λS nx b=>?_;intro v0;refine aF [] a ?_;exact zj (zm b EB (by simp[zr]))
@[simp] theorem ZC1(a b c d:Nat)(v:Value):wX a b c d (.sc v)=.sc v:=rfl
@[simp] theorem ZC2(a b c d:Nat)(k:Nat)(l:List PV):wX a b c d (.lst k l)=.lst k l:=rfl
@[simp] theorem ZC3(a b c d:Nat)(l:List PV):wX a b c d (.agg l)=.agg l:=rfl
@[simp] theorem ZC4(a b c d o v sz off k:Nat):wX a b c d (.sl o v sz off k)=if o=a/\v=b then .sl c d sz off k else .sl o v sz off k:=rfl
@[simp] theorem ZC5(a b c d o v off:Nat):wX a b c d (.ptr o v off)=if o=a/\v=b then .ptr c d off else .ptr o v off:=rfl
@[simp] theorem ZC6(a b c d v e:Nat)(l:List PV):Jc a b c d (.cells v e l)=.cells v e (l.map (wX a b c d)):=rfl
@[simp] theorem ZC7(a b c d:Nat):Jc a b c d .dead=.dead:=rfl
def kY(n:Nat):qr n (.int .i64 0)=replicate n (I 0):=by apply A8<;>simp_all[qr,Nat.mod_one]
variable {x y:Ob}
def EY(a:yh nx S){j:Nat}(b:obs[j]?=some x)(c:obs[k]?=some y)(o:Nat):((S.set (nx+j) x).set (nx+k) y) o=ext S nx obs o\/((S.set (nx+j) x).set (nx+k) y) o=.dead:=by grind[q11,zZ,q10,Xo]
def Zxk(f:yh nx S)(x:Inst)(hx:x.y.length<=1048576):
  SP 169 [.agg (zE x)] S (λq S'=>∃v w,q=.agg [.sl (nx+4) v 1 0 (x.y.length+1),.sl (nx+5) w 1 0 (x.y.length+1)] /\
   S'=(S.set (nx+4) (.cells v 3 (replicate (x.y.length+1) (I 0)))).set (nx+5) (.cells w 3 (replicate (x.y.length+1) (I 0)))):=by
 have d:=eB x hx;obtain⟨n,hn⟩:∃n,n=x.y.length+1:=⟨_,rfl⟩;rw[<-hn]at d ⊢;have g:n<=1048577:=D9;have c:=kY n;refine ZI f func169 ntmps169 results169 ?_;refine EJ ?_;intro v0 v1;refine EJ ?_;refine zu d ?_;refine aG (some []) (Row.pures [0,2] (.alt 1 (.alt 3 U2 .stop) (.alt 3 (.alt 1 U2 .stop) .stop))) n' ?_;have e:(n:Int)<=140737488355328/\n*8<=281474976710656:=D9;refine⟨⟨e,λv=>⟨e,λw=>?_⟩⟩,⟨e,λv=>⟨e,λw=>?_⟩⟩⟩;refine QA 2 rfl λa=>?_;refine QA 3 rfl λb=>?_;exact zj ⟨_,_,by simp;rfl,⟨a,b,by simp[zr],rfl⟩,λo=>EY (j:=4) (k:=5) f (by simp[c]) (by simp[c]) o⟩;refine QA 3 rfl λa=>?_;refine QA 2 rfl λb=>?_;exact zj ⟨_,_,by simp;rfl,⟨a,b,by simp[zr],rfl⟩,λo=>EY (j:=4) (k:=5) f (by simp[c]) (by simp[c]) o⟩
def Zxl(x:Inst)(hx:x.y.length<=1048576):
  SP 169 [.agg (zE x)] (ext S nx obs) (λq S'=>∃v w,q=.agg [.sl (nx+(obs.length+4)) v 1 0 (x.y.length+1),.sl (nx+(obs.length+5)) w 1 0 (x.y.length+1)] /\
   S'=ext S nx (obs++[.dead,.dead,.dead,.dead,.cells v 3 (replicate (x.y.length+1) (I 0)),.cells w 3 (replicate (x.y.length+1) (I 0))])):=by
 refine(Zxk xP x hx).mono ?_;rintro _ _ ⟨v,w,rfl,rfl⟩;refine⟨v,w,by rw[Nat.add_assoc,Nat.add_assoc],?_⟩;rw[VT 4];have e2:=jP (S:=S) (nx:=nx) (obs:=obs++replicate 4 .dead++[.cells v 3 (replicate (x.y.length+1) (I 0))]) (.cells w 3 (replicate (x.y.length+1) (I 0)));rw[show nx+obs.length+5=nx+(obs++replicate 4 Ob.dead++[Ob.cells v 3 (replicate (x.y.length+1) (I 0))]).length by simp;omega,e2];simp[replicate]
def vk(x:Inst)(l:List Int):List Int:=(range (x.y.length+1)).map λb:Nat=>min (max (l.getD b 0) 0) (Ym (λa=>arc x a b) b (x.y.length+1))
def wN(x:Inst)(i:List Int):List Int:=(range (x.y.length+1)).map λa:Nat=>Ym (λb=>W (arc x a b-i.getD b 0)) a (x.y.length+1)
def eC(x:Inst)(l:List Int):(vk x l).length=x.y.length+1:=by simp[vk]
def kZ(x:Inst)(i:List Int):(wN x i).length=x.y.length+1:=by simp[wN]
def Zxm{p:Nat}{lo hi:Int}(h0:lo<=0)(h1:0<=hi)(h:∀k:Nat,lo<=f k/\f k<=hi)(n:Nat):lo<=Ym f p n/\Ym f p n<=hi:=by
 have:∀n,∀b,ZA f p n=some b->lo<=b/\b<=hi:=by
  intro n;induction n with
  |zero=>intro b hb;cases hb
  |succ n d =>
  intro b hb;by_cases a:n=p;subst a;rw[EW]at hb;exact d b hb;cases ho:ZA f p n with
  |none=>rw[ZlM a ho]at hb;cases hb;exact h n
  |some c =>
  rw[ZlN a ho]at hb;cases hb;split;exact h n;exact d c ho
 unfold Ym;cases e:ZA f p n with
 |none=>exact⟨h0,h1⟩
 |some b=>exact this n b e
def ld(cs:List PV)(k:Nat)(v:PV)(h:k<cs.length):yr cs k [v]=cs.set k v:=by unfold yr;rw[AE,if_pos h];simp
def EZ{l m:List Int}(c:k<m.length)(hl:l.length=m.length)(h:m[k]?=some z):yr ((m.take k++l.drop k).flatMap enc) k [I z]=(m.take (k+1)++l.drop (k+1)).flatMap enc:=by
 have e:∀l:List Int,l.flatMap enc=l.map I:=λl=>by
  induction l with
  |nil=>rfl
  |cons a l b=>rw[AB,b];rfl
 rw[ld _ _ _ (by rw[e];simp;omega),e,e,<-map_set];congr 1;rw[Ax,h,Bw _ _ ED,AA,Bm D9,Bk,append_assoc];congr 1;rw[AG D9];rfl
def Fa(x:Inst)(l:List Int)(hx:x.y.length<=1048576)(hl:l.length=x.y.length+1):PP 139 [.agg (zE x),L l] (.agg [L (wN x (vk x l)),L (vk x l)]):=by
 have a0:=eB x hx;have y:=λ(S:Store) nx obs=>Zxl (S:=S) (nx:=nx) (obs:=obs) x hx;have g:=eC x l;have a1:∀k,k<x.y.length+1->(vk x l)[k]?=some (min (max (l.getD k 0) 0) (Ym (λa=>arc x a k) k (x.y.length+1))):=λk f=>by unfold vk;rw[Ai,Bg f];rfl
 generalize vk x l=i at *;have a2:=kZ x i;have a3:∀k,k<x.y.length+1->(wN x i)[k]?=some (Ym (λb=>W (arc x k b-i.getD b 0)) k (x.y.length+1)):=λk f=>by unfold wN;rw[Ai,Bg f];rfl
 generalize wN x i=o at *;obtain⟨n,hn⟩:∃n,n=x.y.length+1:=⟨_,rfl⟩;rw[<-hn]at a0 y hl g a1 a2 a3;have e0:n<=1048577:=D9;have p:∀l:List Int,l.flatMap enc=l.map I:=λl=>by
  induction l with
  |nil=>rfl
  |cons a l ih=>rw[AB,ih];rfl
 have q:(l.flatMap enc:List PV).length=n:=by rw[p];simpa using hl
 have a8:L l=.lst (l.flatMap enc:List PV).length (l.flatMap enc):=by show PV.lst l.length _=_;rw[q,hl]
 rw[a8];obtain⟨M,hM⟩:∃M:Nat->List Int,M=λk=>i.take k++l.drop k:=⟨_,rfl⟩;have a9:M 0=l:=by rw[hM];simp
 have b7:M n=i:=by rw[hM];show i.take n++l.drop n=i;rw[Ad D9,AS D9,Ay]
 have b8:∀k,k<=n->(M k).length=n:=λk f=>by rw[hM];simp;omega
 have c6:∀k,k<n->(M k)[k]?=some (l.getD k 0):=λk f=>by rw[hM];show (i.take k++l.drop k)[k]?=_;rw[Ao ED,AA,Bm D9,Bk,AL,BJ,Aa,Ac D9];rfl
 have c7:∀k z,k<n->i[k]?=some z->yr ((M k).flatMap enc) k [I z]=(M (k+1)).flatMap enc:=λk z f y=>by rw[hM];exact EZ D9 D9 y
 clear hM;refine c9 func139 λS nx hd=>?_;intro v0 v1;refine aG (some [nx]) (Row.pures [0,2] (.alt 1 (Row.pures [3] (.alt 4 (.alt 5 RP .stop) .stop)) (.alt 4 (.alt 1 (Row.pures [3] (.alt 5 RP .stop)) .stop) .stop))) n' ?_;refine⟨?_,λv2=>?_⟩;all_goals
  refine((y S nx _).mono ?_).v;rintro _ _ ⟨vo,vi,rfl,rfl⟩;simp only[Ae,Aj,Nat.reduceAdd,cons_append,AK];refine⟨by simp[y8],xE n' ?_⟩;refine zK (a0) n' ?_;intros
 all_goals first
  |(refine QA 6 rfl λwo=>?_;refine QA 7 rfl λd=>?_;refine QA 8 rfl λwp=>?_)
  |(refine QA 7 rfl λwo=>?_;refine QA 8 rfl λd=>?_;refine QA 2 rfl λwp=>?_)
 all_goals
  refine EJ ?_;refine λa4=>kX (id:=nx+10) (ver:=d) (e:=3) (l:=l.flatMap enc) rfl underlying26 EC (m:=n) rfl (by show PV.lst l.length _=_;rw[q,hl]) (by rw[zZ];rfl) EA D9 ?_;rw[q,Nat.min_self,Ad D9,AS EA,Ay];refine⟨_,_,yu _ D9 EA,zS a4 ?_⟩;refine EJ ?_;intro v3;refine ze (EJ ?_);have c8:l.flatMap enc=(M 0).flatMap enc:=by rw[a9]
  refine zn (zF (λk:Nat=>k<=n) (λk=>[(4,.ptr (nx+1) v1 0),(5,.ptr (nx+11) wp 0),(6,I n),(7,.ptr (nx+12) v3 0),(23,I n),(24,I k)]) (λk=>[.cells v0 25 (zE x),.cells v1 113 [.sc (.slice none 0 0),.sc (.slice none 0 0)],.dead,.dead,.dead,.dead,.dead,.dead,.dead,.cells wo 3 (replicate n (I 0)),.cells d 3 ((M k).flatMap enc),.cells wp 113 [.sl (nx+9) wo 1 0 n,.sl (nx+10) d 1 0 n],.cells v3 243 (Xb x (.sl (nx+10) d 1 0 n))]) (λk=>n-k) 0 [] EA EA (by simp[c8]) ?_);rintro k f;refine EJ ?_;by_cases hc:k<n
  .have d0:(k:Int)<n:=D9;refine ze (zo ED ?_);refine zk (aA ?_);have d1:=a1 k hc;have r:=b8 k f;have d2:=c6 k hc;have s:=λz h=>c7 k z hc h;have u:=λ(T0:Store) (h0:T0 (nx+12)=.cells v3 243 (Xb x (.sl (nx+10) d 1 0 n)))=>EX (S:=T0) n k D9 D9 171 [.ptr (nx+12) v3 0] (λa=>arc x a k) (λa _ _ T hT=>Zxi x (.sl (nx+10) d 1 0 n) k a (by rw[hT _ (by rw[h0];simp),h0]));have d3:=WY (l.getD k 0) 0 (Ym (λa=>arc x a k) k n);generalize Ym (λa=>arc x a k) k n=lv at *;generalize l.getD k 0=t at *;generalize min (max t 0) lv=z at *;have s:=s z d1;generalize a5:M (k+1)=mk1 at *;generalize M k=mk at *;obtain⟨t',tl,b1,b2,b3,f0⟩:=zH rfl mk k D9;obtain rfl:t'=t:=by rw[d2]at b1;exact(inj b1).symm
   have c:k<mk.length:=D9;refine EJ ?_;refine zC (some [nx+11]) (Row.pures [0,1,2,3,4,5,6,8,9,10,11] (.alt 7 (.alt 12 RX .stop) (.alt 12 (.alt 7 RX .stop) .stop))) (zM f0 c hc r) ?_;refine⟨?_,?_⟩;all_goals
    refine((u _ (by rw[zZ];rfl)).mono ?_).v;rintro _ _ ⟨rfl,rfl⟩;refine⟨by simp[y8],xE (zM f0 c hc r) ?_⟩;refine zK (d3) (zM f0 c hc r) ?_;refine⟨by omega,?_⟩;refine zg ?_;exact zv (k+1) [] D9 D9 (by simp[zy k D9]) rfl (by simp[s,a5])
  obtain rfl:k=n:=D9;refine ze (aE ?_);refine zB ?_;rw[b7];obtain⟨U,hU⟩:∃U:Nat->List Int,U=λj=>o.take j++(replicate k (0:Int)).drop j:=⟨_,rfl⟩;have d4:replicate k (I 0)=(U 0).flatMap enc:=by rw[hU,p];simp
  have d5:U k=o:=by rw[hU];show o.take k++(replicate k (0:Int)).drop k=o;rw[Ad D9,AS EA,Ay]
  have d6:∀j,j<=k->(U j).length=k:=λj hj=>by rw[hU];simp;omega
  have d7:∀j z,j<k->o[j]?=some z->yr ((U j).flatMap enc) j [I z]=(U (j+1)).flatMap enc:=λj z hj y=>by rw[hU];exact EZ D9 ED y
  clear hU;refine ze (EJ ?_);refine zn (zF (λj:Nat=>j<=k) (λj=>[(4,.ptr (nx+1) v1 0),(5,.ptr (nx+11) wp 0),(6,I k),(7,.ptr (nx+12) v3 0),(43,I k),(44,I j)]) (λj=>[.cells v0 25 (zE x),.cells v1 113 [.sc (.slice none 0 0),.sc (.slice none 0 0)],.dead,.dead,.dead,.dead,.dead,.dead,.dead,.cells wo 3 ((U j).flatMap enc),.cells d 3 (i.flatMap enc),.cells wp 113 [.sl (nx+9) wo 1 0 k,.sl (nx+10) d 1 0 k],.cells v3 243 (Xb x (.sl (nx+10) d 1 0 k))]) (λj=>k-j) 0 [] EA EA (by simp[d4]) ?_);rintro j hj;refine EJ ?_;by_cases hc:j<k;have d0:(j:Int)<k:=D9;refine ze (zo ED ?_);refine zk (aA ?_);have d8:=a3 j hc;have a6:=d6 j hj;have w:=λz h=>d7 j z hc h;have u:=λ(T0:Store) (h0:T0 (nx+12)=.cells v3 243 (Xb x (.sl (nx+10) d 1 0 k))) (h1:T0 (nx+10)=.cells d 3 (i.flatMap enc))=>EX (S:=T0) k j D9 D9 172 [.ptr (nx+12) v3 0] (λb=>W (arc x j b-i.getD b 0)) (λb hb _ T hT=>Zxj x i j b (by rw[hT _ (by rw[h0];simp),h0,g]) (by rw[hT _ (by rw[h1];simp),h1]) (by rw[Aa,Ac D9];rfl));generalize Ym (λb=>W (arc x j b-i.getD b 0)) j k=lv at *;have w:=w lv d8;generalize d9:U (j+1)=u1 at *;generalize U j=uj at *;have c:j<uj.length:=D9;have a7:j<(uj.flatMap enc:List PV).length:=by rw[p];simpa using c
  refine EJ ?_;refine zC (some [nx+11]) (Row.pures [0,1,2,3,4,5,6] (.alt 7 Rq .stop)) (zM c a7 hc a6) ?_;refine((u _ (by rw[zZ];rfl) (by rw[zZ];rfl)).mono ?_).v;rintro _ _ ⟨rfl,rfl⟩;refine⟨by simp[y8],xE (zM c a7 hc a6) ?_⟩;refine⟨by omega,?_⟩;refine zg ?_;exact zv (j+1) [] D9 D9 (by simp[zy j D9]) rfl (by simp[w,d9]);obtain rfl:j=k:=D9;refine ze (aE ?_);refine zB ?_;rw[d5];refine yc 9 rfl ?_;refine yc 10 rfl ?_;refine EJ ?_;exact zj (zm hd EB (by simp[zr,a2,g]))
def Zxn(n:Nat)(z:Int):L (replicate n z)=.lst n (replicate n (I z)):=by
 show PV.lst _ _=_;rw[B8];congr 1;induction n with
 |zero=>rfl
 |succ n a=>rw[BM,AB,a];rfl
def Zxo(x:Inst)(hx:x.y.length<=1048576):PP 96 [.agg (zE x)] (.agg [L (wN x (vk x (replicate (x.y.length+1) 2147483648))),L (vk x (replicate (x.y.length+1) 2147483648))]):=by
 have b:=eB x hx;have a:=Fa x (replicate (x.y.length+1) 2147483648) hx EA;rw[Zxn]at a;generalize vk x (replicate (x.y.length+1) 2147483648)=i at *;generalize wN x i=o at *;obtain⟨n,hn⟩:∃n,n=x.y.length+1:=⟨_,rfl⟩;rw[<-hn]at b a;have j:n<=1048577:=D9;have d:=kY n;have e:(n:Int)<=140737488355328/\n*8<=281474976710656:=D9;refine c9 func96 λS nx l=>?_;intro v0 v1;refine EJ ?_;refine zu b ?_;refine⟨e,λh=>?_⟩;refine ze (EJ ?_);have c:∀k,k<n->yr (replicate k (I 2147483648)++replicate (n-k) (I 0)) k [I 2147483648]=replicate (k+1) (I 2147483648)++replicate (n-(k+1)) (I 0):=λk m=>by rw[ld _ _ _ ED,Bw _ _ EA,B8,Bk,show n-k=(n-(k+1))+1 by omega,BM,AR,Dh];simp
 refine zn (zF (λk:Nat=>k<=n) (λk=>[(1,.ptr nx v0 0),(2,.ptr (nx+1) v1 0),(3,.sl (nx+2) h 1 0 n),(9,I n),(10,I k)]) (λk=>[.cells v0 25 (zE x),.cells v1 113 [.sc (.slice none 0 0),.sc (.slice none 0 0)],.cells h 3 (replicate k (I 2147483648)++replicate (n-k) (I 0))]) (λk=>n-k) 0 [] EA EA (by simp[d]) ?_);rintro k m;refine EJ ?_;by_cases hc:k<n;refine ze (zo ED ?_);refine zk (aA ?_);have hs:=c k hc;have hl:(replicate k (I 2147483648)++replicate (n-k) (I 0)).length=n:=ED;generalize f:replicate (k+1) (I 2147483648)++replicate (n-(k+1)) (I 0)=c1 at *;generalize replicate k (I 2147483648)++replicate (n-k) (I 0)=c0 at *;have g:k<c0.length:=D9;refine EJ ?_;refine zi [] (zq hc g) ?_;refine⟨by omega,?_⟩;refine zg ?_;exact zv (k+1) [] D9 D9 (by simp[zy k D9]) rfl (by simp only[hs,f,Ay]);obtain rfl:k=n:=D9;refine ze (aE ?_);refine zB ?_;rw[Bk,List.replicate_zero,Ay];refine yc 2 rfl ?_;refine EJ ?_;refine zu a ?_;exact EK l
def Zxp(x:Inst)(a b:List Int)(c:Nat)(d:Int)(hx:x.y.length<=1048576)(hb:b.length=x.y.length+1)(q:c<x.y.length+1):
  PP 100 [.agg (zE x),.agg [L a,L b],I c,I d] (.agg [L (wN x (vk x (b.set c (W (b.getD c 0-d))))),L (vk x (b.set c (W (b.getD c 0-d))))]):=by
 have h:=eB x hx;have f:=Fa x (b.set c (W (b.getD c 0-d))) hx (by simpa using hb);generalize vk x (b.set c (W (b.getD c 0-d)))=i at *;generalize wN x i=o at *;obtain⟨t,tl,b1,b2,b3,w⟩:=zH rfl b c D9;have y:b.getD c 0=t:=by rw[Aa,b1];rfl
 rw[y]at f;have g:∀l:List Int,l.flatMap enc=l.map I:=λl=>by
  induction l with
  |nil=>rfl
  |cons a l z=>rw[AB,z];rfl
 have j:yr (b.flatMap enc) c [I (W (t-d))]=(b.set c (W (t-d))).flatMap enc:=by rw[ld _ _ _ (by rw[g];simp;omega),g,g,map_set]
 have r:(b.set c (W (t-d))).length=b.length:=Bv;have s:L (b.set c (W (t-d)))=.lst b.length ((b.set c (W (t-d))).flatMap enc):=by show PV.lst _ _=_;rw[r]
 rw[s]at f;obtain⟨n,hn⟩:∃n,n=x.y.length+1:=⟨_,rfl⟩;rw[<-hn]at h q hb;have a0:n<=1048577:=D9;have a1:=kY n;have u:(n:Int)<=140737488355328/\n*8<=281474976710656:=D9;have k:(b.flatMap enc:List PV).length=n:=by rw[g];simpa using hb
 have c1:¬(c:Int)<0:=D9;have v:c<b.length:=D9;rw[hb]at f;refine c9 func100 λS nx hd=>?_;intro v0 v1 v2;refine EJ ?_;refine zu h ?_;refine⟨u,λv3=>?_⟩;refine EJ ?_;refine λp=>kX (id:=nx+3) (ver:=v3) (e:=3) (l:=b.flatMap enc) rfl underlying26 EC (m:=n) rfl (by show PV.lst b.length _=_;rw[k,hb]) (by rw[zZ];rfl) (by simp[qr]) D9 ?_;rw[k,Nat.min_self,Ad D9,AS (by simp[qr]),Ay];refine⟨_,_,yu _ D9 EA,zS p ?_⟩;refine ze (aF [(2,19)] (zq c1 q) ?_);refine aD ?_;refine zi [] (zD w v q) ?_;refine⟨by omega,?_⟩;rw[j];refine yc 3 rfl ?_;refine aF [] hb ?_;refine yK [] f hb ?_;exact EK hd
open Hp
structure InstK (x:Inst) (n:Nat):Prop where
 a:InstA x n
 kind:∀c∈x.y,Uf c
 Q:∀c∈x.y,c.Q<=c.size
structure MayP (x:Inst):Prop where
 days:1<=x.days/\x.days<=64
 y:x.y.length<=2000
 U:0<=x.U/\x.U<=2147483648
 R:0<=x.R/\x.R<=2147483648
 len:0<=x.len/\x.len<=2147483648
 ai:∀c∈x.y,xI c x.days=true
 J:ZW x.J (x.y.length+1)=true
def Zg{x:Inst}(h:yV x=true):MayP x:=by unfold yV at h;simp only[Ar,Av,decide_eq_true_eq,yb]at h;obtain⟨⟨⟨⟨⟨⟨h1,h2⟩,h3⟩,h4⟩,h5⟩,h6⟩,h7⟩:=h;exact⟨h1,h2,h3,h4,h5,h6,h7⟩
def Zxq(c:Cust)(d:Int):Prop:=c.kind=1/\(1<=c.O/\c.O<=2147483648)/\(∀p∈c.D,vS p d<0)/\(1<=c.D.length/\c.D.length<=64)/\c.H=0/\c.size=0/\c.Q=0/\c.X=0/\c.Y=0
def Zxr(c:Cust):Prop:=c.kind=2/\(0<=c.H/\c.H<=2147483648)/\(1<=c.size/\c.size<=2147483648)/\(0<=c.Q/\c.Q<=c.size)/\(c.X=1\/c.X=2)/\(0<=c.Y/\c.Y<=1024)/\c.D=[]/\c.O=0
def Vr{c:Cust}{d:Int}(h:xI c d=true):Zxq c d\/Zxr c:=by unfold xI at h;split at h;rename_i a;simp only[Ar,yb,decide_eq_true_eq,wT,uT,Av]at h;obtain⟨⟨h1,h2,h3⟩,b⟩:=h;exact .inl ⟨a,h1,h2,by omega,b⟩;split at h;rename_i a;simp only[Ar,yb,decide_eq_true_eq,uU,Zt]at h;obtain⟨⟨⟨⟨⟨h1,h2⟩,h3⟩,b⟩,h5⟩,h6,h7⟩:=h;exact .inr ⟨a,h1,h2,h3,b,h5,As h6,h7⟩;cases h
def Fb{p:Nat}(h:vS p n<0):∀d∈yM p 0 64,d<n:=by
 have h0:yM p (n:Int).toNat 64=[]:=by
  unfold vS at h;cases e:yM p (n:Int).toNat 64 with
  |nil=>rfl
  |cons a l =>
  rw[e]at h;obtain⟨k,rfl,-⟩:=aN (p:=p) (a:=(n:Int).toNat) (k:=64) (d:=a) (by rw[e];simp);simp only[List.headD_cons]at h;omega
 grind[iA,List.filter_eq_nil_iff]
def Zxs{p:Nat}(b:p<2^64)(h:∀d∈yM p 0 64,d<(n:Int)):p<2^n:=by
 apply Nat.lt_pow_two_of_testBit;intro i hi;by_cases a:i<64;rw[W0,decide_eq_false_iff_not];intro hb;have:(i:Int)∈yM p 0 64:=by simp only[yM,Ak,Bu,AI,Ar,decide_eq_true_eq];exact⟨i,⟨a,by omega,hb⟩,rfl⟩
 grind;exact Cw (Br b (BS EG D9))
theorem Fc(n:Nat):∀(l:List (List Int)) (a:Nat),vT n a l=true->∀r∈l,r.length=n/\∀z∈r,0<=z/\z<=2147483648
 |[],_,_=>by simp
 |row::l,a,h=>by simp only[vT,Ar,decide_eq_true_eq,Av,yb]at h;obtain⟨⟨⟨h1,h2⟩,h3⟩,c⟩:=h;intro r b;obtain rfl|b:=Am.1 b;simp_all;exact Fc n l (a+1) c r b
def Vs{x:Inst}(h:ZW x.J (x.y.length+1)=true):x.J.length=x.y.length+1/\(∀r∈x.J,r.length=x.y.length+1/\∀z∈r,0<=z/\z<=2147483648)/\jk x/\arc x 0 0=0:=by
 unfold ZW at h;simp only[Ar,decide_eq_true_eq]at h;have c:=Fc _ _ _ h.2;refine⟨h.1,c,λa b=>?_,?_⟩
 .unfold arc;split;omega;rw[Aa,Aa];cases e:x.J[a.toNat]? with
  |none=>simp
  |some r =>
  rw[Option.getD_some];cases e2:r[b.toNat]? with
  |none=>simp
  |some z=>exact(c r (Ab e)).2 z (Ab e2)
 obtain⟨h1,h2⟩:=h;cases e:x.J<;>simp_all[vT,arc]
structure InstQ (x:Inst) (n:Nat):Prop where
 k:InstK x n
 m:yV x=true
 t:InstT x n
 af:x.y.length<=6
 n7:n<=7
def Zxt{x:Inst}(h:yV x=true)(o:∀c∈x.y,∀p∈c.D,p<2^64)(hn:x.days=n)(w:n<=7)(y:x.y.length<=6):InstQ x n:=by
 have hm:=Zg h;obtain⟨d1,q,d3,d4⟩:=Vs hm.J;have hc:=λc hc=>Vr (hm.ai c hc);rw[hn]at hc;have i:∀c∈x.y,CustMade c n:=λc d=>by obtain⟨k,a,b,l,r1,r2,r3,r4,r5⟩|⟨k,r,s,t,j,ho,e,m⟩:=hc c d;exact⟨⟨by omega,by omega,by omega⟩,o c d,by omega,λ_=>⟨λp f=>Fb (b p f),by omega,by omega⟩⟩;exact⟨⟨by omega,by omega,by omega⟩,o c d,by rw[e];simp,λh=>by omega⟩
 have g:∀z:Int,0<=z->z<=2147483648->YL z:=λz a b=>⟨a,by omega⟩;refine⟨⟨⟨⟨by omega,d4,d3,hm.U.1⟩,hn,by omega,i,λc d=>?_⟩,λc d=>?_,λc d=>?_⟩,h,⟨hn,by have:=hm.days;omega,by omega,⟨g _ hm.U.1 hm.U.2,g _ hm.R.1 hm.R.2,g _ hm.len.1 hm.len.2⟩,by omega,λc d=>?_,d1,λr u=>⟨(q r u).1,λz v=>g z ((q r u).2 z v).1 ((q r u).2 z v).2⟩⟩,y,w⟩;rcases hc c d with ⟨k,a,b,l,r1,r2,r3,r4,r5⟩|⟨k,r,s,t,j,ho,e,m⟩<;>grind
 rcases hc c d with ⟨k,a,b,l,r1,r2,r3,r4,r5⟩|⟨k,r,s,t,j,ho,e,m⟩
 exact .inl ⟨k,r4⟩;exact .inr ⟨k,j⟩;rcases hc c d with ⟨k,a,b,l,r1,r2,r3,r4,r5⟩|⟨k,r,s,t,j,ho,e,m⟩<;>omega
 obtain⟨k,a,b,l,r1,r2,r3,r4,r5⟩|⟨k,r,s,t,j,ho,e,m⟩:=hc c d;exact⟨.inl ⟨k,g _ D9 D9,λp f=>Zxs (o c d p f) (Fb (b p f)),r1,r2,r3,r4,r5⟩⟩;exact⟨.inr ⟨k,m,e,g _ D9 D9,g _ D9 D9,g _ D9 D9,j,g _ D9 D9⟩⟩
def Zxu(x:Inst):∀c∈(yW x).y,∀p∈c.D,p<2^64:=λc hc=>((TU x).aa c hc).D
def Zxv(x:Inst)(hn:(yW x).days=n):InstQ (yW x) n:=Zxt (Ud x) (Zxu x) hn (by have:=aO x;omega) (gC x)
def Jd(a:Int):zU (W a):=by show -9223372036854775808<=i64.wrap a/\i64.wrap a<=9223372036854775807;rw[AD];omega
def Xc(x:Inst):Int:=vE (λk=>W ((wW x).getD k 0*Zf (x.y.getD k default) x.days x.R)) x.y.length
def Zxw(x:Inst)(hn:x.y.length<=1048576)(h:∀c∈x.y,c.D.length<=1048576):PP 146 [.agg (zE x)] (I (Xc x)):=by
 have e:=Zxg x hn;have i:(wW x).length=x.y.length:=by simp[wW]
 obtain⟨f,hf⟩:∃f:Nat->Int,f=λk=>W ((wW x).getD k 0*Zf (x.y.getD k default) x.days x.R):=⟨_,rfl⟩;have g:Xc x=vE f x.y.length:=by rw[hf];rfl
 have a:∀k,zU (f k):=λk=>by rw[hf];exact Jd _
 rw[g];refine c9 func146 λS nx j=>?_;intro v0;refine EJ ?_;intro v1;refine EJ ?_;refine zu e ?_;have b:=kV (S:=ext S nx [.cells v0 25 (zE x),.cells v1 208 (Yl x yI yI (L (wW x)))]) x 181 [.ptr (nx+1) v1 0] f hn a (λk l T m=>by
  have hc:x.y[k]?=some (x.y.getD k default):=by rw[Aa,Ac l];rfl
  have n:(wW x)[k]?=some ((wW x).getD k 0):=by rw[Aa,Ac D9];rfl
  have:=Zxa (S:=T) (id:=nx+1) (ver:=v1) x yI yI (wW x) k (by rw[m _ (by rw[zZ];simp),zZ];rfl) hn hc (h _ (Ab hc)) n;rw[hf];exact this)
 refine EJ ?_;refine λd=>(b.mono ?_).v;rintro _ _ ⟨rfl,rfl⟩;refine⟨_,_,rfl,zS d ?_⟩;exact EK j
def Je(x:Inst):Nat->Int
 |0=>0
 |k+1=>jU (Je x k) (Zf (x.y.getD k default) x.days x.R)
def eD(x:Inst):Int:=vE (λk=>YS (x.y.getD k default) x.days x.R) x.y.length
def Jf(x:Inst):Int:=if 0<x.R then jU (Je x x.y.length) (Q9 (eD x) x.R) else Je x x.y.length
def Zxx(x:Inst)(hn:x.y.length<=1048576)(l:∀c∈x.y,c.D.length<=1048576)(j:∀k,zU (YS (x.y.getD k default) x.days x.R)):PP 141 [.agg (zE x)] (I (Jf x)):=by
 have d:∀k,k<x.y.length->x.y[k]?=some (x.y.getD k default):=λk f=>by rw[Aa,Ac f];rfl
 refine c9 func141 λS nx m=>?_;intro v0;refine EJ ?_;intro v1;refine EJ ?_;refine ze (EJ ?_);refine zn (zF (λs:Nat × Nat × Nat=>s.1<=x.y.length) (λ(k,v,w)=>[(1,.ptr nx v 0),(3,.ptr (nx+1) w 0),(4,I (Je x k)),(13,I x.y.length),(14,I k)]) (λ(k,v,w)=>[.cells v 25 (zE x),.cells w 208 (Yl x yI yI yI)]) (λs=>x.y.length-s.1) (0,v0,v1) [] EA (by simp[Je]) EA ?_);rintro⟨k,v,w⟩ f;simp only at f ⊢;refine EJ ?_;refine ze (zA rfl (λhc=>?_) (λhc=>?_));simp at hc;refine zk (aA (EJ ?_));refine zg ?_;refine λg=>((kW x yI yI yI k (by rw[zZ];rfl) hn (d k hc) (l _ (Ab (d k hc)))).mono ?_).v;rintro _ _ ⟨rfl,rfl⟩;refine⟨_,_,rfl,zS g ?_⟩;refine zg ?_;exact zv (k+1,v,w) [] hc ED (by simp[zy k D9,Je]) rfl EA;simp at hc;obtain rfl:k=x.y.length:=D9;refine zB ?_;refine ze (EJ ?_);have h:=λv w=>kV (S:=ext S nx [.cells v 25 (zE x),.cells w 208 (Yl x yI yI yI)]) x 175 [.ptr (nx+1) w 0] (λk=>YS (x.y.getD k default) x.days x.R) hn j (λk f T n =>
  Zxb (S:=T) (id:=nx+1) (ver:=w) x yI yI yI k (by rw[n _ (by rw[zZ];simp),zZ];rfl) hn (d k f) (l _ (Ab (d k f))))
 have i:=h v w;rw[show vE (λk=>YS (x.y.getD k default) x.days x.R) x.y.length=eD x from rfl]at i;have a:Jf x=if 0<x.R then jU (Je x x.y.length) (Q9 (eD x) x.R) else Je x x.y.length:=rfl;generalize Jf x=res at *;generalize Je x x.y.length=mo at *;generalize eD x=ne at *
 by_cases b:0<x.R;rw[if_pos b]at a;have e:=ET ne x.R b;refine zo (by simp[b]) ?_;refine aG (some [nx]) (Row.pures [0,1,2,4,5] (.alt 3 (Row.pures [6,7,8,9,10,11] .done) .stop)) n' ?_;refine(i.mono ?_).v;rintro _ _ ⟨rfl,rfl⟩;refine⟨by simp[y8],xE n' ?_⟩;refine zK (e) n' ?_;refine zg ?_;refine EJ ?_;exact zj (zm m EB (by rw[a];rfl));rw[if_neg b]at a;refine zp ED ?_;refine zk (EJ ?_);exact zj (zm m EB (by rw[a];rfl))
def Ff{α:Type}(l:List α)(a q i:Nat)(h:a+q<=l.length):(l.take a++(l.take q++l.drop (a+q)))[i]?=l[if i<a then i else if i<a+q then i-a else i]?:=by by_cases h1:i<a;grind;rw[if_neg h1,Ao ED,AA,Bm D9];grind
def Zxy{s x:Operand}{m k0 off id ver:Nat}(ho:o.op=.call { callee:=.builtin .copy,args:=#[s,x],argTypes:=#[t,t] })(ht:P.underlying t=some (.slice e))(g:(P.info? e).map (·.size)=some 1)
  (hs:ev F s=.sl id ver 1 off m) (hx:ev F x=.sl id ver 1 0 k0) (hid:S id=.cells ver nx cs) (hm:off+m=cs.length) (c6:0<m) (hk:k0<=cs.length) (c7:0<k0)
  (hK:K (I (min k0 m:Nat)) (S.set id (.cells ver nx (cs.take off++(cs.take (min k0 m)++cs.drop (off+min k0 m)))))):PO P jM n o F S K:=by
 intro G hG C w a N st next Q' h;have e1:=st.ev s;rw[(hG s (by grind[Op.operands,Call.operands])).trans hs]at e1;have e2:=st.ev x;rw[(hG x (by grind[Op.operands,Call.operands])).trans hx]at e2;have a7:∀c,o.op≠.defer c:=by intro c hc;rw[ho]at hc;cases hc
 generalize hv:a.eval s=v at e1;generalize hu:a.eval x=u at e2;cases e1 with
 |sl i1 i2 i3 =>
 rcases (i3 ver (by rw[hid];rfl)).2 rfl with ⟨_,q,_,_⟩|⟨b,k,ad,dcap,hl,rfl,_,hq0⟩
 omega;obtain rfl:=hq0 D9;cases e2 with
 |sl j1 j2 j3 =>
 rcases (j3 ver (by rw[hid];rfl)).2 rfl with ⟨_,q,_,_⟩|⟨b2,k2,ad2,scap,hl2,rfl,_,hq2⟩
 omega;rw[hl]at hl2;cases hl2;obtain rfl:=hq2 D9;obtain⟨hn,_⟩|⟨b',k',c,g1,g2,g3,g4,g5,g6⟩:=st.sim.cells id ver nx cs hid;simp_all;rw[hl]at g1;cases g1;obtain⟨vs,r⟩:∃vs,vs=c.toList.take (min k0 m):=⟨_,rfl⟩;have c8:c.toList.length=c.size:=Array.length_toList;have a2:vs.length=min k0 m:=by rw[r,AA];omega
 have a3:∀(j:Nat) (v:Value),vs[j]?=some v->j<min k0 m/\c[j]?=some v:=λj v f=>by rw[r,BT]at f;split at f;rename_i a8;rw[Array.getElem?_toList]at f;exact⟨a8,f⟩;cases f
 have y:∀j v,vs[j]?=some v->w.cell? ((⟨b,0,none⟩:Addr).add j)=some v:=λj v f=>by obtain⟨q1,q2⟩:=a3 j v f;rw[Addr.add_plain];simp[World.cell?,g2,q2]
 have a4:∀v∈vs,v.oneCell'=true:=λv a9=>by obtain⟨j,f⟩:=Cg a9;obtain⟨q1,q2⟩:=a3 j v f;exact g5 j v D9 q2
 have a0:=run_copy_row P w t t o.type e b off m dcap ⟨b,0,none⟩ k0 scap c nx vs ht g g2 (by rw[a2]) y D9 a4;have d:=bo (P:=P) (a:=a) (w:=w) ho (by rw[hv,hu];exact a0);rw[a2,append_assoc,r]at d;generalize a5:w.setRow b (c.toList.take off++(c.toList.take (min k0 m)++c.toList.drop (off+min k0 m))).toArray=w' at d;have a1:w'.heap[b]?=some (.cells (c.toList.take off++(c.toList.take (min k0 m)++c.toList.drop (off+min k0 m))).toArray nx (0,0)):=by rw[<-a5];exact setRow_heap w b c _ nx _ g2
 have b7:w.grownBy w' (some b)/\w.drawn<=w'.drawn:=by rw[<-a5];exact⟨⟨rfl,rfl,rfl,by simp,λj f b8=>setRow_other w b j _ (λe=>b8 (by rw[e]))⟩,Ag _⟩
 have hV:=λi=>Ff c.toList off (min k0 m) i D9;have hP:=λi=>Ff cs off (min k0 m) i D9;have d0:(c.toList.take off++(c.toList.take (min k0 m)++c.toList.drop (off+min k0 m))).length=c.size:=ED;have d1:(cs.take off++(cs.take (min k0 m)++cs.drop (off+min k0 m))).length=cs.length:=ED;generalize c.toList.take off++(c.toList.take (min k0 m)++c.toList.drop (off+min k0 m))=V at *;generalize cs.take off++(cs.take (min k0 m)++cs.drop (off+min k0 m))=cs' at *;have a6:∀i,i<cs.length->(if i<off then i else if i<off+min k0 m then i-off else i)<cs.length:=λi hi=>by split<;>(try split)<;>omega
 obtain⟨t1,t2⟩:=st.sim.turn (l:=C.loc id) (ver':=ver) (cs':=cs') hid (Ag _) (λ_=>rfl) (by rw[hl];exact b7)
  (.inr ⟨b,k,_,hl,.inr (by rw[hl];rfl),a1,by simp;omega,by omega,λi z hi g=>by
    rw[AH,hV i,Array.getElem?_toList]at g;exact g5 _ z (a6 i D9) g,
   λi p z hp g=>by rw[AH,hV i,Array.getElem?_toList]at g;rw[hP i]at hp;exact g6 _ p z hp g⟩)
 exact qx a7 d (h _ _ _ _ _ hK (.sc _) t1 t2)
def Zxz(n:Nat)(hn:n<=1048576):PP 223 [U 1,U n] (.tup [U 0,U n]):=by
 intro S;refine⟨Is,λC w us d a b=>?_⟩;obtain⟨e,f,rfl⟩:=tO a;have r0:=b 0 _ e rfl rfl;have r1:=b 1 _ f rfl rfl;cases r0;cases r1;have h1:1*n/18446744073709551616=0:=D9;have h2:1*n%18446744073709551616=n:=D9;have hm:=bits_Mul 1 n D9 D9 w;rw[h1,h2]at hm;refine hm.mono ?_;rintro _ _ ⟨rfl,rfl⟩;refine⟨_,_,S,C,rfl,⟨rfl,rfl⟩,.tup rfl λj c v h1 h2=>?_,d,.refl _ _ _⟩
 match j,h1,h2 with
 |0,h1,h2=>cases h1;cases h2;exact .sc _
 |1,h1,h2=>cases h1;cases h2;exact .sc _
def ZxA(p:Int)(m:Nat):(replicate m p).flatMap enc=replicate m (I p):=by
 induction m with
 |zero=>rfl
 |succ m a=>rw[BM,AB,a];rfl
def ZxB(p:Int)(n:Nat)(h1:1<=n)(hn:n<=1000):PP 177 [L [p],I n] (L (replicate n p)):=by
 have c:=Zxz n D9;have c0:¬(n:Int)<0:=D9;have o:IntKind.u64.wrap (n:Int)=n:=by simp only[IntKind.wrap,IntKind.bits,IntKind.signed];simp;omega
 have w2:i64.wrap (n:Int)=n:=by rw[AD];omega
 have c1:¬(9223372036854775807:Int)<n:=D9;refine c9 func177 λS nx r=>?_;refine ze (aF [] c0 ?_);refine aC ?_;have s:IntKind.u64.wrap 1=1:=EG;refine aF [] (zq o s) ?_;refine zu c ?_;refine ze (aF [(2,23)] c1 ?_);refine aC (aF [] w2 ?_);refine⟨by omega,λv0=>?_⟩;refine EJ ?_;refine λd=>kX (id:=nx) (ver:=v0) (e:=3) (l:=[I p]) rfl underlying26 EC (m:=n) rfl rfl (by rw[ui];rfl) (by simp[qr]) h1 ?_;have f:List.take n [I p]++List.drop (min [I p].length n) (qr n (.int .i64 0))=replicate 1 (I p)++replicate (n-1) (I 0):=by
  rw[Ad ED];have:min [I p].length n=1:=ED;have t:qr n (.int .i64 0)=replicate n (I 0):=by apply A8;simp[qr];intro i q1 q2;simp[qr,Nat.mod_one]
  rw[this,t,List.drop_replicate];rfl
 have g:min [I p].length n=1:=ED;rw[f,g];refine⟨_,_,yu _ (Ag _) EA,zS d ?_⟩;refine aA (zF (λm:Nat=>1<=m/\m<=n) (λm=>[(7,.sl nx v0 1 0 n),(8,I m)]) (λm=>[.cells v0 3 (replicate m (I p)++replicate (n-m) (I 0))]) (λm=>n-m) 1 [] ⟨Ag _,h1⟩ EA EA ?_);rintro m ⟨u,h⟩;refine ze (EJ ?_);by_cases hc:m<n;refine zo ED ?_;refine zk (zn ?_);have a:(replicate m (I p)++replicate (n-m) (I 0):List PV).length=n:=ED;obtain⟨q,v⟩:∃q,q=min m (n-m):=⟨_,rfl⟩;have b:(replicate m (I p)++replicate (n-m) (I 0):List PV).take m++((replicate m (I p)++replicate (n-m) (I 0):List PV).take q++(replicate m (I p)++replicate (n-m) (I 0):List PV).drop (m+q))=replicate (m+q) (I p)++replicate (n-(m+q)) (I 0):=by
  have w:(replicate m (I p)++replicate (n-m) (I 0):List PV).take m=replicate m (I p):=DZ EA;have e2:(replicate m (I p)++replicate (n-m) (I 0):List PV).take q=replicate q (I p):=by rw[BF ED,List.take_replicate,Bm D9]
  have x:(replicate m (I p)++replicate (n-m) (I 0):List PV).drop (m+q)=replicate (n-(m+q)) (I 0):=by rw[Cu,AS EA,AK,B8,List.drop_replicate];congr 1;omega
  rw[w,e2,x,<-append_assoc,List.replicate_append_replicate]
 have y:1<=q:=D9;have j:m+q<=n:=D9;have z:i64.wrap ((m:Int)+q)=((m+q:Nat):Int):=by rw[AD];omega
 refine zC (some []) (Row.pures [0,1,2,3,4,5,6] (.alt 7 (Row.pures [8,9] .done) .stop)) h ?_;refine⟨by rfl,(Zxy (id:=nx) (ver:=v0) (off:=m) (m:=n-m) (k0:=m) (e:=3) rfl underlying26 EC rfl rfl (by rw[ui];rfl) (by rw[a];omega) D9 (by rw[a];omega) D9 ?_)⟩;rw[<-v,b,yu _ (Ag _) EA];refine⟨by simp[y8],xE z ?_⟩;exact zv (m+q) [] ⟨by omega,j⟩ D9 EA rfl EA;obtain rfl:m=n:=D9;refine aE ?_;refine zB (yc 0 rfl ?_);rw[Bk,List.replicate_zero,Ay];have k:=ZxA p m;refine EJ ?_;exact zj (zm r EB (by simp[zr,k]))
def QB(x:Inst)(n:Nat)(a b:List Int)(k:Nat):Int:=Xa n x.R (x.y.getD k default) (replicate n (W (a.getD (k+1) 0+b.getD (k+1) 0)))
structure BndOk (x:Inst) (n:Nat):Prop where
 days:x.days=n
 n1:1<=n
 ae:n<=60
 ah:x.y.length<=1048576
 D:∀c∈x.y,c.D.length<=1000
 aa:∀c∈x.y,CustMade c n
 ad:∀c∈x.y,CustFits c
 vis:∀c∈x.y,∀price:List Int,price.length<=1000->(∀z∈price,zU z)->VisOk (jp n x.R c price).1
def ZxC{id ver:Nat}(x:Inst)(n:Nat)(a b:List Int)(o:PV)(k:Nat)(hx:BndOk x n)(j:k<x.y.length)(u:a.length=x.y.length+1)(hb:b.length=x.y.length+1)(r:S id=.cells ver 208 (Yl x (L a) (L b) o)):
  SP 144 [.ptr id ver 0,I k] S (λq S'=>q=I (QB x n a b k)/\S'=S):=by
 have l:=Zxd x a b k j hx.ah u hb;unfold QB;have hc:x.y[k]?=some (x.y.getD k default):=by rw[Aa,Ac j];rfl
 have hm:=Ab hc;obtain⟨t,tl,b1,b2,b3,v,w⟩:=el 8 rfl x.y k j;obtain rfl:t=x.y.getD k default:=by rw[hc]at b1;exact(inj b1).symm
 have g:=Jd (a.getD (k+1) 0+b.getD (k+1) 0);generalize W (a.getD (k+1) 0+b.getD (k+1) 0)=p at *;generalize x.y.getD k default=c at *;have d:=ZxB p n hx.n1 (by have:=hx.ae;omega);have e:∀z∈replicate n p,zU z:=λz y=>by rw[(List.mem_replicate.1 y).2];exact g
 have h:(replicate n p).length<=1000:=by rw[B8];have:=hx.ae;omega
 have i:PP 179 [.agg (yf c),I n,I x.R,L (replicate n p)] (I (Xa n x.R c (replicate n p))):=λS=>Zxc c n x.R (.inl rfl) e h (hx.aa c hm) (hx.D c hm) hx.ae (hx.ad c hm) (hx.vis c hm _ h e);generalize Xa n x.R c (replicate n p)=res at *;have f:=hx.days;generalize replicate n p=pl at *;rw[<-f]at d i;refine i' func144 λnx s=>?_;have m:id<nx:=jD s r EA;have x1:∀obs,ext S nx obs id=.cells ver 208 (Yl x (L a) (L b) o):=λobs=>(zL m).trans r;refine EJ ?_;refine aG (some [id]) RQ x1 ?_;refine zK (l) x1 ?_;refine zK (d) x1 ?_;refine aG (some [id]) Rn (zM x1 j v w) ?_;refine zK (i) n' ?_;exact EK s
def Jg(x:Inst)(a b:List Int):Int:=if (Ja (W (a.getD 0 0+b.getD 0 0)) (Jf x)).2=true then (Ja (W (a.getD 0 0+b.getD 0 0)) (Jf x)).1 else 9223372036854775807
def Xd(x:Inst)(n:Nat)(a b:List Int):Int:=vQ (vE (QB x n a b) x.y.length) (Jg x a b)
def Fg(x:Inst)(n:Nat)(a b:List Int)(hx:BndOk x n)(m:∀k,zU (YS (x.y.getD k default) x.days x.R))(o:∀k,zU (QB x n a b k))(l:zU (Jg x a b))(ha:a.length=x.y.length+1)(hb:b.length=x.y.length+1):
  PP 98 [.agg (zE x),.agg [L a,L b]] (I (Xd x n a b)):=by
 have p:=Zxx x hx.ah (λc hc=>by have:=hx.D c hc;omega) m;have h:=Zw6 (W (a.getD 0 0+b.getD 0 0)) (Jf x);have g:=dr (vE (QB x n a b) x.y.length) (Jg x a b) (EV _ _) l;have hv:Xd x n a b=vQ (vE (QB x n a b) x.y.length) (Jg x a b):=rfl;rw[hv];have f:Jg x a b=if (Ja (W (a.getD 0 0+b.getD 0 0)) (Jf x)).2=true then (Ja (W (a.getD 0 0+b.getD 0 0)) (Jf x)).1 else 9223372036854775807:=rfl;obtain⟨t,tl,b1,b2,b3,r⟩:=zH rfl a 0 D9;obtain⟨u,a0,c1,c2,c3,s⟩:=zH rfl b 0 D9;have e1:a.getD 0 0=t:=by rw[Aa,b1];rfl
 have e2:b.getD 0 0=u:=by rw[Aa,c1];rfl
 rw[e1,e2]at h f;have i:0<a.length:=D9;have j:0<b.length:=D9;have e:∀(S:Store) (id ver:Nat),S id=.cells ver 208 (Yl x (L a) (L b) yI)->SP 143 [.agg (zE x),.fn (.func 144) [.ptr id ver 0] []] S (λq S'=>q=I (vE (QB x n a b) x.y.length)/\S'=S):=λS id ver y =>
  kV (S:=S) x 144 [.ptr id ver 0] (QB x n a b) hx.ah o (λk hk T hT=>ZxC (S:=T) (id:=id) (ver:=ver) x n a b yI k hx hk ha hb (by rw[hT _ (by rw[y];simp),y]))
 generalize vE (QB x n a b) x.y.length=su at *;generalize Jf x=le at *;generalize Jg x a b=ca at *;generalize Ja (W (t+u)) le=mz at *;obtain⟨mv,w⟩:=mz;simp only at h f;refine c9 func98 λS nx z=>?_;intro v0 v1;refine EJ ?_;intro v2;refine aG (some [nx,nx+1]) RE (zM r s i j) ?_;refine zK (p) (zM r s i j) ?_;refine zK (h) (zM r s i j) ?_;refine ze (EJ ?_);cases w with
 |true =>
 obtain rfl:ca=mv:=by rw[f];exact if_pos rfl
 refine aC (EJ ?_);refine λd=>((e _ (nx+2) v2 (by rw[zZ];rfl)).mono ?_).v;rintro _ _ ⟨rfl,rfl⟩;refine⟨_,_,rfl,zS d ?_⟩;refine λd=>((g _).mono ?_).v;rintro _ _ ⟨rfl,rfl⟩;refine⟨_,_,rfl,zS d ?_⟩;exact EK z
 |false =>
 obtain rfl:ca=9223372036854775807:=by rw[f];exact if_neg EA
 refine aD ?_;refine zg ?_;refine EJ ?_;refine λd=>((e _ (nx+2) v2 (by rw[zZ];rfl)).mono ?_).v;rintro _ _ ⟨rfl,rfl⟩;refine⟨_,_,rfl,zS d ?_⟩;refine λd=>((g _).mono ?_).v;rintro _ _ ⟨rfl,rfl⟩;refine⟨_,_,rfl,zS d ?_⟩;exact EK z
def Vt(x:Inst)(n:Nat)(a b:List Int):Int:=jU (Xd x n a b) (Xc x)
def ZxD(x:Inst)(n:Nat)(a b:List Int)(hx:BndOk x n)(e:∀k,zU (YS (x.y.getD k default) x.days x.R))(f:∀k,zU (QB x n a b k))(d:zU (Jg x a b))(i:a.length=x.y.length+1)(hb:b.length=x.y.length+1):
  PP 101 [.agg (zE x),.agg [L a,L b]] (I (Vt x n a b)):=by
 have g:=Fg x n a b hx e f d i hb;have h:=Zxw x hx.ah (λc hc=>by have:=hx.D c hc;omega);have j:Vt x n a b=jU (Xd x n a b) (Xc x):=rfl;generalize Vt x n a b=z at *;generalize Xd x n a b=va at *;generalize Xc x=ba at *;refine c9 func101 λS nx l=>?_;intro v0 v1;refine aG (some [nx,nx+1]) RJ n' ?_;refine zK (g) n' ?_;refine zK (h) n' ?_;exact zj (zm l EB (by rw[j];rfl))
variable {cap:Int}
def ZxE{c:Cust}{price:List Int}(h:(jp n cap c price).2=false):(jp n cap c price).1=[]:=by unfold jp at h ⊢;split at h;rename_i a;rw[if_pos a];unfold YG at h ⊢;split at h;rename_i h1;rw[if_pos h1];cases h;rename_i a;rw[if_neg a];split at h;rename_i b;rw[if_pos b];unfold Q3 at h ⊢;split at h;rename_i h1;rw[if_pos h1];cases h;rename_i b;rw[if_neg b];unfold XO at h ⊢;split at h;cases h;rename_i h1;rw[if_neg h1];split at h;cases h;rename_i h2;rw[if_neg h2]
def ZxF{c:Cust}(hm:CustMade c n)(hn:n<=60)(cap:Int)(price:List Int):VisOk (jp n cap c price).1:=by
 cases h:(jp n cap c price).2 with
 |false=>rw[ZxE h];exact⟨by simp,by simp,by simp⟩
 |true =>
 have a:=dR hm hn cap price h;exact⟨by have:=a.len;omega,λs hs=>by have:=a.ok s hs;omega,λs hs=>by have:=a.ok s hs;unfold zU;omega⟩
def ZxG{x:Inst}(h:InstQ x n):BndOk x n :=
 ⟨h.k.a.days,h.t.n1,h.k.a.ae,by have:=h.af;omega,h.k.a.D,h.k.a.aa,λc hc=>(h.k.a.aa c hc).ad,λc hc price _ _=>ZxF (h.k.a.aa c hc) h.k.a.ae _ _⟩
def bp:zU 0:=⟨by decide,by decide⟩
def Fh(c:Cust)(n cap:Int):zU (YS c n cap):=by unfold YS;split;exact Jd _;unfold YR jU;split;exact bp;exact Jd _
def ZxH(price:List Int)(v:List Visit):zU (JW price v):=by
 have:∀(v:List Visit) (s:Int),zU s->zU (v.foldl (λs w=>W (s+QZ price w.d)) s):=by
  intro v;induction v with
  |nil=>intro s h;exact h
  |cons w v a=>intro s _;exact a _ (Jd _)
 exact this v 0 bp
def Fi(n:Nat)(cap:Int)(c:Cust)(price:List Int):zU (Xa n cap c price):=by unfold Xa;split;unfold Qp;split;exact ZxH _ _;exact Jd _;unfold eA;split<;>exact Jd _
def Fj(x:Inst)(a b:List Int):zU (Jg x a b):=by unfold Jg;split;unfold Ja;split;exact bp;split;exact bp;exact Jd _;exact⟨by decide,by decide⟩
def ZxI{x:Inst}(h:BndOk x n)(a b:List Int)(c:a.length=x.y.length+1)(hb:b.length=x.y.length+1):
  PP 98 [.agg (zE x),.agg [L a,L b]] (I (Xd x n a b)) :=
 Fg x n a b h (λk=>Fh _ _ _) (λk=>Fi _ _ _ _) (Fj x a b) c hb
def ZxJ{x:Inst}(h:BndOk x n)(a b:List Int)(c:a.length=x.y.length+1)(hb:b.length=x.y.length+1):
  PP 101 [.agg (zE x),.agg [L a,L b]] (I (Vt x n a b)) :=
 ZxD x n a b h (λk=>Fh _ _ _) (λk=>Fi _ _ _ _) (Fj x a b) c hb
structure Clm where
 i:List Int
 m:Int
 s:Int
def Yn(x:Inst)(c:Clm):Nat:=x7 c.s (x.y.length+1)
def Vu(x:Inst)(c:Clm):Nat:=x7 (yZ c.s) ((c.i.getD (Yn x c) 0).toNat+1)
def Jh(x:Inst)(c:Clm):List Int:=vk x (c.i.set (Yn x c) (W (c.i.getD (Yn x c) 0-Vu x c)))
def Ji(x:Inst)(n:Nat)(i:List Int):Int:=Xd x n (wN x i) i
def bq(x:Inst)(n:Nat)(c:Clm):Clm:=if c.m<Ji x n (Jh x c) then ⟨Jh x c,Ji x n (Jh x c),yZ (yZ c.s)⟩ else ⟨c.i,c.m,yZ (yZ c.s)⟩
def Vv(x:Inst):List Int:=vk x (replicate (x.y.length+1) 2147483648)
def vn(x:Inst)(n:Nat)(s:Int):Nat->Clm
 |0=>⟨Vv x,Ji x n (Vv x),IntKind.u64.wrap s⟩
 |k+1=>bq x n (vn x n s k)
def Vw(x:Inst)(n:Nat)(s:Int)(k:Nat):Int:=Vt x n (wN x (vn x n s k).i) (vn x n s k).i
def eE(x:Inst)(i:List Int):Prop:=i.length=x.y.length+1/\∀z∈i,0<=z/\z<=2147483648
def Fk{x:Inst}(d:jk x)(l:List Int):eE x (vk x l):=by refine⟨eC x l,λz c=>?_⟩;unfold vk at c;obtain⟨b,-,rfl⟩:=Ak.1 c;have:=Zxm (f:=λa=>arc x a b) (p:=b) (lo:=0) (hi:=2147483648) EG EG (λk=>d k b) (x.y.length+1);omega
def ZxK{x:Inst}(a:jk x){c:Clm}(h:eE x c.i):eE x (bq x n c).i:=by unfold bq;split;exact Fk a _;exact h
theorem lh{x:Inst}(a:jk x)(n:Nat)(s:Int):∀k,eE x (vn x n s k).i
 |0=>Fk a _
 |k+1=>ZxK a (lh a n s k)
def ZxL{x:Inst}(hx:BndOk x n)(ha:jk x)(s:Int)(b:Nat)(hb:b<=1000):
  ∃pa pb,PP 61 [.agg (zE x),I s,I b] (.tup [.agg [pa,pb],I (Vw x n s b)]):=by
 refine⟨L (wN x (vn x n s b).i),L (vn x n s b).i,?_⟩;have hn:=hx.ah;have e0:vn x n s 0=⟨Vv x,Ji x n (Vv x),IntKind.u64.wrap s⟩:=rfl;have j:∀i:List Int,i.length=x.y.length+1->PP 98 [.agg (zE x),.agg [L (wN x i),L i]] (I (Ji x n i)):=λi hi=>by unfold Ji;exact ZxI hx (wN x i) i (kZ x i) hi
 have a3:PP 96 [.agg (zE x)] (.agg [L (wN x (vn x n s 0).i),L (vn x n s 0).i]):=by rw[e0];dsimp only;unfold Vv;exact Zxo x hn
 have a4:PP 98 [.agg (zE x),.agg [L (wN x (vn x n s 0).i),L (vn x n s 0).i]] (I (vn x n s 0).m):=by rw[e0];dsimp only;exact j _ (by unfold Vv;exact eC x _)
 have o:PP 101 [.agg (zE x),.agg [L (wN x (vn x n s b).i),L (vn x n s b).i]] (I (Vw x n s b)):=by unfold Vw;exact ZxJ hx _ _ (kZ x _) (lh ha n s b).1
 have p:PP 60 [I b,I 0,I 1000] (I b):=by have:=WY b 0 1000;rwa[show min (max (b:Int) 0) 1000=b by omega]at this
 have a5:(vn x n s 0).s=IntKind.u64.wrap s:=by rw[e0]
 clear e0;have q:∀k,vn x n s (k+1)=bq x n (vn x n s k):=λ_=>rfl;have a6:=lh ha n s;have y:=λ(b:List Int) (pl:Nat) (d:Int) hb hp=>Zxp x (wN x b) b pl d hn hb hp;have a7:∀l,(vk x l).length=x.y.length+1:=eC x;generalize Vw x n s b=res at *;generalize vn x n s=C at *;generalize wN x=O at *;refine c9 func61 λS nx hd=>?_;intro v0 v1;refine EJ ?_;refine zu a3 ?_;refine λe=>((Ey s xP).mono ?_).v;rintro _ _ ⟨v2,rfl,rfl⟩;refine⟨_,_,jP _,zS e ?_⟩;intro v3;rw[<-a5];refine EJ ?_;refine zu a4 ?_;refine ze (EJ ?_);refine zu p ?_;refine zn (zF (λk:Nat=>k<=b) (λk=>[(3,.ptr nx v0 0),(6,.ptr (nx+1) v1 0),(8,.ptr (nx+3) v3 0),(9,.ptr (nx+2) v2 0),(10,I (C k).m),(23,I b),(24,I k)]) (λk=>[.cells v0 25 (zE x),.cells v1 113 [.sc (.slice none 0 0),.sc (.slice none 0 0)],.cells v2 205 (wv (C k).s),.cells v3 113 [L (O (C k).i),L (C k).i]]) (λk=>b-k) 0 [] EA EA EA ?_);rintro k hk;refine EJ ?_;refine ze (zA rfl (λhc=>?_) (λhc=>?_));simp at hc;have a8:=q k;obtain⟨hl,a9⟩:=a6 k;generalize d1:C k=c at *;refine zk (aA ?_);have b7:Yn x c<x.y.length+1:=X3 _ D9;have z:=λ(S:Store) hS=>bm c.s (x.y.length+1) D9 D9 (S:=S) (id:=nx+2) (v:=v2) hS;have b8:x7 c.s (x.y.length+1)=Yn x c:=rfl;rw[b8]at z;have w1:i64.wrap ((x.y.length:Int)+1)=((x.y.length+1:Nat):Int):=by rw[AD];omega
 obtain⟨t,tl,b1,b2,b3,f0⟩:=zH rfl c.i (Yn x c) D9;have c6:c.i.getD (Yn x c) 0=t:=by rw[Aa,b1];rfl
 have d2:=a9 t (Ab b1);obtain⟨w,d3⟩:∃w:Nat,(w:Int)=t+1:=⟨(t+1).toNat,by omega⟩;have a0:=λ(S:Store) hS=>bm (yZ c.s) w D9 D9 (S:=S) (id:=nx+2) (v:=v2) hS;have c7:x7 (yZ c.s) w=Vu x c:=by unfold Vu;rw[c6,show t.toNat+1=w by omega]
 rw[c7]at a0;have w2:i64.wrap (t+1)=(w:Int):=by rw[AD];omega
 have a1:=y c.i (Yn x c) (Vu x c) hl b7;have c8:vk x (c.i.set (Yn x c) (W (c.i.getD (Yn x c) 0-Vu x c)))=Jh x c:=rfl;rw[c8]at a1;have hv:=j (Jh x c) (a7 _);have a:C (k+1)=if c.m<Ji x n (Jh x c) then ⟨Jh x c,Ji x n (Jh x c),yZ (yZ c.s)⟩ else ⟨c.i,c.m,yZ (yZ c.s)⟩:=by rw[a8];unfold bq;rfl
 have a2:Yn x c<c.i.length:=D9;generalize Yn x c=pl at *;generalize Vu x c=off at *;generalize Jh x c=tr at *;generalize Ji x n tr=va at *;generalize yZ c.s=s1 at *;generalize yZ s1=s2 at *;obtain⟨ci,cm,cs⟩:=c;simp only at *;refine aF [] w1 ?_;refine λe=>((z _ (by rw[zZ];rfl)).mono ?_).v;rintro _ _ ⟨rfl,rfl⟩;refine⟨_,_,yu _ D9 EA,zS e ?_⟩;obtain⟨lc,r⟩:∃lc,lc=L ci:=⟨_,rfl⟩;rw[<-r];have d0:Xf prog 26 lc (I pl)=some (.ip (I t::tl)):=by rw[r];simp -implicitDefEqProofs [Xf,a2,f0]
 clear f0 a2;refine ze (x8 [] EF EF λK Gc Gh hK g u X f hX=>?_);simp -implicitDefEqProofs [f,hX,d0,w2,-Xf];try clear f hX X
 refine g _ _ _ _ _ _ _ λe=>((a0 _ (by rw[zZ];rfl)).mono ?_).v;rintro _ _ ⟨rfl,rfl⟩;refine⟨_,_,yu _ D9 EA,?_⟩;clear g u;clear Gc Gh;refine vr e (D:=[]) EF λGc Gh g u X f hX=>?_;simp -implicitDefEqProofs [f,hX];clear f hX X;refine hK _ _ _ ?_;clear hK g u;clear K Gc Gh;subst r;refine EJ ?_;refine zu a1 ?_;intro v4;refine EJ ?_;refine zu hv ?_;refine EJ ?_;by_cases h:cm<va;rw[if_pos h]at a;refine zo (by simp[h]) ?_;refine zg ?_;refine zg ?_;exact zv (k+1) [_] hc D9 (by simp[zy k D9,a]) rfl (by simp[a];rfl);rw[if_neg h]at a;refine zp (by simp[h]) ?_;refine zk (zg ?_);exact zv (k+1) [_] hc D9 (by simp[zy k D9,a]) rfl (by simp[a];rfl);simp at hc;obtain rfl:k=b:=D9;refine zB (aG (some [nx,nx+3]) RT n' ?_);refine zK (o) n' ?_;exact zj (zm hd EB (by simp[zr]))
def ZxM(n p k:Nat)(h:k<n):(jq n p).take (k+1)=(jq n p).take k++[UInt8.ofNat (48+yR p k)]:=by rw[Ax];congr 1;unfold jq;rw[Ai,Bg h];rfl
def ZxN(p n:Nat)(h1:1<=n)(hn:n<=64)(r:p<2^64):PP 30 [U p,I n] (T (bs (jq n p))):=by
 have a:=fN p r;have t:(qy p).length=64:=by simp[qy]
 have d:∀k,k<64->(qy p)[k]?=some ((yR p k:Nat):Int):=λk h=>by unfold qy;rw[Ai,Bg h];rfl
 have m:=aX n p;have c:=ZxM n p;have f:∀k,yR p k<=1:=Wy p;generalize qy p=B at *;generalize jq n p=P at *;have c1:¬(n:Int)<1:=D9;have c2:¬(64:Int)<n:=D9;refine c9 func30 λS nx w=>?_;refine ze (aF [(2,10)] (zq c1 c2) ?_);refine aC (EJ ?_);refine ze (qa 5 5 1 rfl λv1=>?_);refine zg ?_;refine zu a ?_;refine ze (EJ ?_);refine zn (zF (λs:Nat × Nat=>s.1<=n) (λ(k,v)=>[(1,I n),(5,.sl nx v 1 0 k),(6,L B),(7,I k)]) (λ(k,v)=>[.cells v 5 ((P.map U8).take k)]) (λs=>n-s.1) (0,v1) [] EA EA EA ?_);rintro⟨k,v⟩ x;simp only at x ⊢;refine ze (EJ ?_);refine zA rfl (λhc=>?_) (λhc=>?_);simp at hc;obtain⟨z,tl,b1,b2,b3,y⟩:=zH rfl B k D9;obtain rfl:z=((yR p k:Nat):Int):=by have:=d k D9;rw[b1]at this;exact inj this
 have hb:=f k;have g:k<B.length:=D9;have hs:=c k hc;have hu:=Qj (k:=yR p k) D9;generalize UInt8.ofNat (48+yR p k)=u at *;generalize yR p k=b at *;have w1:i64.wrap (48+(b:Int))=(u.toNat:Int):=by rw[hu,AD];omega
 have w2:=kv u.toNat D9;have hl:((P.map U8).take k).length=k:=ED;have o:List.take k ((P.map U8).take k)=(P.map U8).take k:=Ad (by rw[hl];exact Ag _);have q:(P.map U8).take (k+1)=(P.map U8).take k++[U8 u]:=by rw[<-map_take,hs,map_append,map_take];rfl
 generalize (P.map U8).take k=cs at *;refine zk (aA (zi [] (yp y g w1 w2 o) ?_));refine⟨by omega,?_⟩;refine zg ?_;exact zv (k+1,v+1) [] hc D9 (by simp[zy k D9]) rfl (by simp only[q,Ay]);simp at hc;obtain rfl:k=n:=D9;rw[show List.take k (P.map U8)=P.map U8 from Ad ED];refine zB (EJ ?_);refine λj=>dV (e:=5) (l:=P) (off:=0) (id:=nx) (ver:=v) rfl EA EA EA (by simp[m]) (by rw[ui];rfl) (λi u h=>by rw[AV,Ai,h];rfl) D9 ?_;refine⟨_,_,rfl,zS j ?_⟩;exact EK w
def qq(a b:List UInt8)(h:a.length+b.length<=1099511627776):∃s,s=a++b/\s.length=a.length+b.length/\yq .add (bs a) (bs b)=some (.string (bs s)):=⟨_,rfl,by simp,Qt a b D9⟩
structure InstS (x:Inst) (n:Nat):Prop where
 t:InstT x n
 n7:n<=60
 y:x.y.length<=1000
 D:∀c∈x.y,c.D.length<=1000
def Fl{x:Inst}(h:InstQ x n):InstS x n:=⟨h.t,by have:=h.n7;omega,by have:=h.af;omega,h.k.a.D⟩
theorem Wa(h:YL z):(zJ z).length<=20:=u9 (by obtain⟨a,b⟩:=h;unfold zU;omega)
def Fm(n p:Nat)(h:n<=60):(jq n p).length<=60:=by simp_all[aX]
theorem Fo{x:Inst}(h:InstS x n){c:Cust}(hc:c∈x.y):(∀w∈jf n c,w.length<=60)/\(jf n c).length<=1006:=by have f:=h.D c hc;unfold jf;obtain⟨k,d,-⟩|⟨k,-,-,a,b,s,-,ho⟩:=(h.t.y c hc).kind;rw[if_pos k];refine⟨λw e=>?_,by simp;omega⟩;simp only[Am,Ak]at e;obtain rfl|rfl|⟨p,-,rfl⟩:=e;decide;have:=Wa d;omega;exact Fm n p h.n7;grind[Wa]
def Fq{x:Inst}{K:Nat}(h:InstS x n)(k:8<=K)(h1:x.y.length+1<=K)(h2:∀c∈x.y,c.D.length+2<=K):∀l∈j8 x,(zW l).length+1<=61*K+1:=by
 have hn:x.days.toNat=n:=by have:=h.t.days;omega
 have m:(zJ x.days).length<=20:=u9 (by have:=h.t.days;have:=h.n7;unfold zU;omega);have hv:=Wa h.t.nums.1;have hc:=Wa h.t.nums.2.1;have hl:=Wa h.t.nums.2.2;have g:=wL (n:=x.y.length) (by have:=h.y;omega);have key:∀l:Ln,(∀w∈l,w.length<=60)->l.length<=K->(zW l).length+1<=61*K+1:=λl a b=>by have:=XV a;omega
 intro l e;simp only[j8,Am,AC,Ak]at e;obtain rfl|rfl|rfl|⟨c,i,rfl⟩|rfl|⟨r,f,rfl⟩:=e;exact key _ EA ED
 .refine key _ (λw d=>?_) D9;simp only[Am,A9,or_false]at d;obtain rfl|rfl|rfl|rfl|rfl|rfl|rfl|rfl:=d;all_goals first|omega|decide
 refine key _ (λw d=>?_) ED;simp only[Am,A9,or_false]at d;obtain rfl|rfl:=d;decide;omega;grind[Fo,jf];exact key _ EA ED;refine key _ (λw d=>?_) (by simp;have:=(h.t.ag r f).1;omega);obtain⟨z,j,rfl⟩:=Ak.1 d;have:=Wa ((h.t.ag r f).2 z j);omega
def Fr{x:Inst}(h:InstS x n):∀l∈j8 x,(zW l).length+1<=61367:=λl hl=>by have:=Fq (K:=1002) h D9 (by have:=h.y;omega) (λc hc=>by have:=h.D c hc;omega) l hl;omega
def ZxO{x:Inst}(h:InstS x n)(ls:List Ln)(hs:∀l∈ls,l∈j8 x)(hl:ls.length<=3000):(zV ls).length<=184101000:=by have:=aZ (ls:=ls) λl hm=>Fr h l (hs l hm);omega
def QC(x:Inst):List Ln:=[[j7,[49]],[qY,zJ x.days,qZ,zJ x.U,q8,zJ x.R,q9,zJ x.len],[jd,zQ x.y.length]]
theorem li(x:Inst):j8 x=QC x++(x.y.map (jf x.days.toNat)++[je]::x.J.map (λr:List Int=>r.map zJ)):=rfl
def ZxP{x:Inst}(h:InstS x n):PP 6 [.agg (zE x)] (T (bs (zV (j8 x)))):=by
 have g:=h.t.days;have a5:x.days.toNat=n:=D9;have g6:=h.n7;have v4:=h.t.n1;obtain⟨⟨k0,v5⟩,⟨k1,v6⟩,⟨k2,v7⟩⟩:=h.t.nums;obtain⟨ve,a6⟩:=Az k0;obtain⟨ca,a7⟩:=Az k1;obtain⟨le,a8⟩:=Az k2;have v8:=h.y;have v9:=h.t.rows;have g7:PP 28 [.lst 5 [I n,I ve,I ca,I le,I x.y.length]] (.lst 5 [T (bs (zQ n)),T (bs (zQ ve)),T (bs (zQ ca)),T (bs (zQ le)),T (bs (zQ x.y.length))]) :=
  kx [n,ve,ca,le,x.y.length] EA (by intro m hm;simp only[Am,A9,or_false]at hm;obtain rfl|rfl|rfl|rfl|rfl:=hm<;>omega)
 have hb:=ZxO h;have k3:=Fr h;have a9:zV (QC x)=[116,114,97,110,116,101,114,32,49,10,100,97,121,115,32]++zQ n++[32,118,101,104,105,99,108,101,115,32]++zQ ve++[32,99,97,112,97,99,105,116,121,32]++zQ ca++[32,108,101,110,103,116,104,32]++zQ le++[10,99,117,115,116,111,109,101,114,115,32]++zQ x.y.length++[10]:=by simp[QC,zV,zW,zJ,g,a6,a7,a8]
 obtain⟨P,hP⟩:∃P:Nat->List UInt8,P=λk=>zV (QC x++(x.y.take k).map (jf n)):=⟨_,rfl⟩;have k4:P 0=zV (QC x):=by rw[hP];simp
 have k5:∀k c,x.y[k]?=some c->P (k+1)=P k++(zW (jf n c)++[10]):=λk c hc=>by rw[hP];show zV (QC x++(x.y.take (k+1)).map (jf n))=_;rw[Ax,hc,map_append,<-append_assoc];exact dE _ _
 have g8:∀k,(P k).length<=184101000:=λk=>by rw[hP];refine hb _ (λl hl=>?_) (by simp[QC];omega);rw[li,a5,AC,AC];obtain hl|hl:=AC.1 hl;exact .inl hl;obtain⟨c,hc,rfl⟩:=Ak.1 hl;exact .inr (.inl (List.mem_map_of_mem (Bn hc)))
 obtain⟨D,hD⟩:∃D:Nat->List UInt8,D=λk=>zV (QC x++(x.y.map (jf n)++[je]::(x.J.take k).map (λr:List Int=>r.map zJ))):=⟨_,rfl⟩;have k6:D 0=P x.y.length++[100,105,115,116,97,110,99,101,115,10]:=by rw[hD,hP];simp[zV,zW]
 have k7:∀k r,x.J[k]?=some r->D (k+1)=D k++(zW (r.map zJ)++[10]):=λk r hr=>by rw[hD];show zV (QC x++(x.y.map (jf n)++[je]::(x.J.take (k+1)).map (λr:List Int=>r.map zJ)))=_;rw[Ax,hr,map_append,<-cons_append,<-append_assoc,<-append_assoc];exact dE _ _
 have g9:D x.J.length=zV (j8 x):=by rw[hD,li,a5];simp
 have k8:∀k,(D k).length<=184101000:=λk=>by rw[hD];refine hb _ (λl hl=>?_) (by simp[QC];omega);rw[li,a5,AC,AC];obtain hl|hl:=AC.1 hl;exact .inl hl;obtain hl|hl:=AC.1 hl;exact .inr (.inl hl);obtain rfl|hl:=Am.1 hl;exact .inr (.inr EA);obtain⟨r,hr,rfl⟩:=Ak.1 hl;exact .inr (.inr (BR _ (List.mem_map_of_mem (Bn hr))))
 rw[<-g9];clear hb hP hD g9;have q0:=wL (n:=n) D9;have q1:=wL (n:=ve) D9;have q2:=wL (n:=ca) D9;have q3:=wL (n:=le) D9;have q4:=wL (n:=x.y.length) D9;generalize zQ n=w0 at *;generalize zQ ve=w1 at *;generalize zQ ca=w2 at *;generalize zQ le=w3 at *;generalize w5:zQ x.y.length=w4 at *;obtain⟨s1,k9,l0,l1⟩:=qq [116,114,97,110,116,101,114,32,49,10,100,97,121,115,32] w0 (by (try simp only[Ae,Aj]);omega);have w6:s1.length<=35:=by rw[l0];(try simp only[Ae,Aj]);omega
 obtain⟨s2,l2,l3,l4⟩:=qq s1 [32,118,101,104,105,99,108,101,115,32] (by (try simp only[Ae,Aj]);omega);have w7:s2.length<=45:=by rw[l3];(try simp only[Ae,Aj]);omega
 obtain⟨s3,l5,l6,l7⟩:=qq s2 w1 (by (try simp only[Ae,Aj]);omega);have w9:s3.length<=65:=by rw[l6];(try simp only[Ae,Aj]);omega
 obtain⟨s4,l8,l9,m0⟩:=qq s3 [32,99,97,112,97,99,105,116,121,32] (by (try simp only[Ae,Aj]);omega);have x0:s4.length<=75:=by rw[l9];(try simp only[Ae,Aj]);omega
 obtain⟨s5,m3,m4,m5⟩:=qq s4 w2 (by (try simp only[Ae,Aj]);omega);have x1:s5.length<=95:=by rw[m4];(try simp only[Ae,Aj]);omega
 obtain⟨s6,m6,m7,m8⟩:=qq s5 [32,108,101,110,103,116,104,32] (by (try simp only[Ae,Aj]);omega);have x2:s6.length<=103:=by rw[m7];(try simp only[Ae,Aj]);omega
 obtain⟨s7,m9,n0,n2⟩:=qq s6 w3 (by (try simp only[Ae,Aj]);omega);have x3:s7.length<=123:=by rw[n0];(try simp only[Ae,Aj]);omega
 obtain⟨s8,n3,n4,n5⟩:=qq s7 [10,99,117,115,116,111,109,101,114,115,32] (by (try simp only[Ae,Aj]);omega);have x4:s8.length<=134:=by rw[n4];(try simp only[Ae,Aj]);omega
 obtain⟨s9,n6,n8,n9⟩:=qq s8 w4 (by (try simp only[Ae,Aj]);omega);have x5:s9.length<=154:=by rw[n8];(try simp only[Ae,Aj]);omega
 obtain⟨h0,h4,h5,h6⟩:=qq s9 [10] (by (try simp only[Ae,Aj]);omega);have v3:h0.length<=155:=by rw[h5];(try simp only[Ae,Aj]);omega
 have o0:P 0=h0:=by rw[k4,a9,h4,n6,n3,m9,m6,m3,l8,l5,l2,k9]
 refine c9 func6 λS nx hd=>?_;intro v0;refine aF [] (zM g a6 a7 a8) ?_;refine yK [] g7 (zM g a6 a7 a8) ?_;refine aG none (Row.pures [0,1,2,3,4,5,6,7,8,9,10,11,12,13,14,15,16,17,18,19,20,21,22,23,24,25] .done) (zN l1 l4 l7 m0 m5 (yp m8 n2 n5 n9 h6)) ?_;refine ze (EJ ?_);rw[<-o0];refine zn (zF (λk:Nat=>k<=x.y.length) (λk=>[(1,.ptr nx v0 0),(4,T (bs (P k))),(5,I k)]) (λ_=>[.cells v0 25 (zE x)]) (λk=>x.y.length-k) 0 [] EA EA EA ?_);rintro k hk;refine ze (EJ ?_);refine zA rfl (λhc=>?_) (λhc=>?_);simp at hc;obtain⟨c,tl,a1,a2,a3,f0,f1⟩:=el 8 rfl x.y k hc;have a:=k5 k c a1;have b7:=Ab a1;have h7:=(h.t.y c b7).kind;have o1:=h.D c b7;have h8:=Fo h b7;have x6:=g8 k;generalize P k=ss at *;refine zk (aA ?_);obtain⟨kd,dm,ps,ra,si,st,ru,ho⟩:=c;simp only at h7 o1;refine aF [] (zD f0 f1 hc) ?_;intro v2;refine ze (EJ ?_);obtain⟨o2,h9,o3,-⟩|⟨o4,-,-,b8,c6,c7,y0,c8⟩:=h7;subst o2;obtain⟨dn,rfl⟩:=Az h9.1;have y3:=h9.2;have o5:=dY dn D9;have y4:=wL (n:=dn) D9;have d0:jf n ⟨1,dn,ps,ra,si,st,ru,ho⟩=qQ::zQ dn::ps.map (jq n):=by simp[jf,zJ]
 rw[d0]at a h8;obtain⟨V,hV⟩:∃V:Nat->List UInt8,V=λj=>ss++zW (qQ::zQ dn::(ps.take j).map (jq n)):=⟨_,rfl⟩;have o6:V 0=ss++[118,105,115,105,116,32]++zQ dn:=by rw[hV];simp[zW]
 have o7:∀j p,ps[j]?=some p->V (j+1)=V j++[32]++jq n p:=λj p hp=>by rw[hV];show ss++zW (qQ::zQ dn::(ps.take (j+1)).map (jq n))=_;rw[Ax,hp,map_append];have:=sA (zQ dn::(ps.take j).map (jq n)) (jq n p) qQ;simp only[cons_append]at this;show ss++zW (qQ::zQ dn::((ps.take j).map (jq n)++[jq n p]))=_;rw[this];simp
 have o8:P (k+1)=V ps.length++[10]:=by rw[a,hV];simp
 have i5:∀j,(V j).length<=184201000:=λj=>by rw[hV];have:=XV (ws:=qQ::zQ dn::(ps.take j).map (jq n)) (m:=60) (λw hw=>h8.1 w (by simp only[Am,Ak]at hw ⊢;obtain r|r|⟨p,hp,r⟩:=hw;exact .inl r;exact .inr (.inl r);exact .inr (.inr ⟨p,Bn hp,r⟩)));have hl:(qQ::zQ dn::(ps.take j).map (jq n)).length<=1002:=ED;simp only[length_append];have:61*(qQ::zQ dn::(ps.take j).map (jq n)).length<=61*1002:=Ch _ hl;omega
 clear hV a;generalize zQ dn=dw at *;obtain⟨m1,o9,p4,i6⟩:=qq ss [118,105,115,105,116,32] (by simp only[Ae,Aj];omega);obtain⟨m2,p5,y5,i7⟩:=qq m1 dw (by rw[p4];simp only[Ae,Aj];omega);have i8:V 0=m2:=by rw[o6,p5,o9]
 refine aD ?_;refine aF [] (zq i6 i7) ?_;refine yK [] o5 (zq i6 i7) ?_;rw[<-i8];refine EJ ?_;refine zn (zF (λj:Nat=>j<=ps.length) (λj=>[(1,.ptr nx v0 0),(4,T (bs (V j))),(5,I k),(6,.ptr (nx+1) v2 0),(7,I j)]) (λ_=>[.cells v0 25 (zE x),.cells v2 59 [I 1,I dn,L ps,I ra,I si,I st,I ru,I ho]]) (λj=>ps.length-j) 0 [] EA EA EA ?_);rintro j hj;refine ze (EJ ?_);refine zA rfl (λe=>?_) (λe=>?_);simp at e;obtain⟨p,y6,b1,b2,b3,g0⟩:=zH rfl ps j e;have p6:=Ab b1;have j0:p<2^64:=Br (o3 p p6) (BS EG D9);have p7:=ZxN p n D9 D9 j0;have y7:=Fm n p g6;have p8:=o7 j p b1;have p9:=i5 j;generalize jq n p=pw at *;generalize q5:V (j+1)=vj1 at *;generalize V j=vj at *;obtain⟨y1,i,d1,f⟩:=qq vj [32] (by simp only[Ae,Aj];omega);obtain⟨y2,d2,q6,o⟩:=qq y1 pw (by rw[d1];simp only[Ae,Aj];omega);obtain rfl:vj1=y2:=by rw[p8,d2,i]
 refine zk (aA (zC (some [nx,nx+1]) Rp (yp g0 e f o g) ?_));refine zK (p7) (yp g0 e f o g) ?_;refine zg ?_;exact zv (j+1) [] e D9 (by simp[zy j D9,q5]) rfl EA;simp at e;obtain rfl:j=ps.length:=D9;have p9:=i5 ps.length;obtain⟨y1,i,d1,f⟩:=qq (V ps.length) [10] (by simp only[Ae,Aj];omega);have b:P (k+1)=y1:=by rw[o8,i]
 refine zB (zi [] f ?_);refine zg ?_;exact zv (k+1) [_] hc D9 (by simp[zy k D9,b]) rfl EB;subst o4;obtain⟨ra,rfl⟩:=Az b8.1;obtain⟨si,rfl⟩:=Az c6.1;obtain⟨st,rfl⟩:=Az c7.1;obtain⟨ho,rfl⟩:=Az c8.1;obtain⟨-,b8⟩:=b8;obtain⟨-,c6⟩:=c6;obtain⟨-,c7⟩:=c7;obtain⟨-,c8⟩:=c8;have j1:PP 28 [.lst 4 [I ra,I si,I st,I ho]] (.lst 4 [T (bs (zQ ra)),T (bs (zQ si)),T (bs (zQ st)),T (bs (zQ ho))]) :=
  kx [ra,si,st,ho] EA (by intro m hm;simp only[Am,A9,or_false]at hm;obtain rfl|rfl|rfl|rfl:=hm<;>omega)
 have p0:=wL (n:=ra) D9;have p1:=wL (n:=si) D9;have p2:=wL (n:=st) D9;have p3:=wL (n:=ho) D9;have d0:jf n ⟨2,dm,ps,ra,si,st,ru,ho⟩=[xx,zQ ra,zQ si,zQ st,if ru=2 then uB else vf,zQ ho]:=by simp[jf,zJ]
 rw[d0]at a;generalize zQ ra=u0 at *;generalize zQ si=u1 at *;generalize zQ st=u2 at *;generalize zQ ho=u3 at *;refine aE ?_;refine EJ ?_;refine zu j1 ?_;refine EJ ?_;refine ze (EJ ?_);by_cases d3:ru=2;subst d3;rw[if_pos rfl]at a;refine aD ?_;refine zg ?_;obtain⟨t1,d4,d5,d6⟩:=qq ss [116,97,110,107,32] (by (try simp only[Ae,Aj]);omega);have r1:t1.length<=184101005:=by rw[d5];(try simp only[Ae,Aj]);omega
 obtain⟨t2,d7,d8,d9⟩:=qq t1 u0 (by (try simp only[Ae,Aj]);omega);have r2:t2.length<=184101025:=by rw[d8];(try simp only[Ae,Aj]);omega
 obtain⟨t3,e0,e3,e4⟩:=qq t2 [32] (by (try simp only[Ae,Aj]);omega);have r3:t3.length<=184101026:=by rw[e3];(try simp only[Ae,Aj]);omega
 obtain⟨t4,e5,e6,e7⟩:=qq t3 u1 (by (try simp only[Ae,Aj]);omega);have r4:t4.length<=184101046:=by rw[e6];(try simp only[Ae,Aj]);omega
 obtain⟨t5,e8,e9,f2⟩:=qq t4 [32] (by (try simp only[Ae,Aj]);omega);have r5:t5.length<=184101047:=by rw[e9];(try simp only[Ae,Aj]);omega
 obtain⟨t6,f3,f4,f5⟩:=qq t5 u2 (by (try simp only[Ae,Aj]);omega);have r6:t6.length<=184101067:=by rw[f4];(try simp only[Ae,Aj]);omega
 obtain⟨t7,f6,f7,f8⟩:=qq t6 [32] (by (try simp only[Ae,Aj]);omega);have r7:t7.length<=184101068:=by rw[f7];(try simp only[Ae,Aj]);omega
 obtain⟨t8,f9,g1,g2⟩:=qq t7 [97,110,121] (by (try simp only[Ae,Aj]);omega);have r8:t8.length<=184101071:=by rw[g1];(try simp only[Ae,Aj]);omega
 obtain⟨t9,g3,g4,g5⟩:=qq t8 [32] (by (try simp only[Ae,Aj]);omega);have r9:t9.length<=184101072:=by rw[g4];(try simp only[Ae,Aj]);omega
 obtain⟨q,s,u,v⟩:=qq t9 u3 (by (try simp only[Ae,Aj]);omega);have j2:q.length<=184101092:=by rw[u];(try simp only[Ae,Aj]);omega
 obtain⟨y,a0,a4,d⟩:=qq q [10] (by (try simp only[Ae,Aj]);omega);have j3:y.length<=184101093:=by rw[a4];(try simp only[Ae,Aj]);omega
 have b:P (k+1)=y:=by rw[a,a0,s,g3,f9,f6,f3,e8,e5,e0,d7,d4];simp[zW]
 refine zC none R7 (zN d6 d9 e4 e7 f2 (zN f5 f8 g2 g5 v d)) ?_;refine zi [] d ?_;refine zg ?_;exact zv (k+1) [_] hc D9 (by simp[zy k D9,b]) rfl EB;rw[if_neg d3]at a;refine zp (by simp[d3]) ?_;refine zk ?_;obtain⟨t1,d4,d5,d6⟩:=qq ss [116,97,110,107,32] (by (try simp only[Ae,Aj]);omega);have r1:t1.length<=184101005:=by rw[d5];(try simp only[Ae,Aj]);omega
 obtain⟨t2,d7,d8,d9⟩:=qq t1 u0 (by (try simp only[Ae,Aj]);omega);have r2:t2.length<=184101025:=by rw[d8];(try simp only[Ae,Aj]);omega
 obtain⟨t3,e0,e3,e4⟩:=qq t2 [32] (by (try simp only[Ae,Aj]);omega);have r3:t3.length<=184101026:=by rw[e3];(try simp only[Ae,Aj]);omega
 obtain⟨t4,e5,e6,e7⟩:=qq t3 u1 (by (try simp only[Ae,Aj]);omega);have r4:t4.length<=184101046:=by rw[e6];(try simp only[Ae,Aj]);omega
 obtain⟨t5,e8,e9,f2⟩:=qq t4 [32] (by (try simp only[Ae,Aj]);omega);have r5:t5.length<=184101047:=by rw[e9];(try simp only[Ae,Aj]);omega
 obtain⟨t6,f3,f4,f5⟩:=qq t5 u2 (by (try simp only[Ae,Aj]);omega);have r6:t6.length<=184101067:=by rw[f4];(try simp only[Ae,Aj]);omega
 obtain⟨t7,f6,f7,f8⟩:=qq t6 [32] (by (try simp only[Ae,Aj]);omega);have r7:t7.length<=184101068:=by rw[f7];(try simp only[Ae,Aj]);omega
 obtain⟨t8,f9,g1,g2⟩:=qq t7 [102,105,108,108] (by (try simp only[Ae,Aj]);omega);have r8:t8.length<=184101072:=by rw[g1];(try simp only[Ae,Aj]);omega
 obtain⟨t9,g3,g4,g5⟩:=qq t8 [32] (by (try simp only[Ae,Aj]);omega);have r9:t9.length<=184101073:=by rw[g4];(try simp only[Ae,Aj]);omega
 obtain⟨q,s,u,v⟩:=qq t9 u3 (by (try simp only[Ae,Aj]);omega);have j2:q.length<=184101093:=by rw[u];(try simp only[Ae,Aj]);omega
 obtain⟨y,a0,a4,d⟩:=qq q [10] (by (try simp only[Ae,Aj]);omega);have j3:y.length<=184101094:=by rw[a4];(try simp only[Ae,Aj]);omega
 have b:P (k+1)=y:=by rw[a,a0,s,g3,f9,f6,f3,e8,e5,e0,d7,d4];simp[zW]
 refine zC none R7 (zN d6 d9 e4 e7 f2 (zN f5 f8 g2 g5 v d)) ?_;refine zi [] d ?_;refine zg ?_;exact zv (k+1) [_] hc D9 (by simp[zy k D9,b]) rfl EB;simp at hc;obtain rfl:k=x.y.length:=D9;refine zB ?_;have z0:=g8 x.y.length;obtain⟨y1,i,d1,f⟩:=qq (P x.y.length) [100,105,115,116,97,110,99,101,115,10] (by simp only[Ae,Aj];omega);obtain rfl:D 0=y1:=by rw[k6,i]
 refine aF [] f ?_;refine ze (EJ ?_);refine zn (zF (λk:Nat=>k<=x.J.length) (λk=>[(1,.ptr nx v0 0),(4,T (bs (D k))),(10,I k)]) (λ_=>[.cells v0 25 (zE x)]) (λk=>x.J.length-k) 0 [] EA EA EA ?_);rintro k hk;refine ze (EJ ?_);refine zA rfl (λhc=>?_) (λhc=>?_);simp at hc;obtain⟨r,tl,a1,a2,a3,f0⟩:=zH rfl x.J k hc;have hr:=h.t.ag r (Ab a1);have s0:=k7 k r a1;have hdb:=k8 k;have j4:∀ws:Ln,(∀w∈ws,w∈r.map zJ)->ws.length<=1001->(zW ws).length<=61061:=λws hs hl=>by have:=XV (ws:=ws) (m:=60) (λw hw=>by obtain⟨z,hz,rfl⟩:=Ak.1 (hs w hw);have:=Wa (hr.2 z hz);omega);have:61*ws.length<=61*1001:=Ch _ hl;omega
 have t0:r.length<=1001:=by have:=hr.1;omega
 have hwj:=j4 (r.map zJ) (λw hw=>hw) (by simpa using t0);have u4:PP 28 [L r] (L ((r.map zJ).map bs)):=by
  have e1:(r.map Int.toNat).map (λm:Nat=>(m:Int))=r:=by rw[B3];refine(AQ λz hz=>?_).trans (Dr _);have:=(hr.2 z hz).1;simp;omega
  have:=kx (r.map Int.toNat) ED (λm hm=>by obtain⟨z,hz,rfl⟩:=Ak.1 hm;have:=(hr.2 z hz).2;omega);rw[e1]at this;have e2:Zx (r.map Int.toNat)=(r.map zJ).map bs:=by simp[Zx,zJ,Function.comp_def]
  rwa[e2]at this
 have u5:=ky (r.map zJ) ED D9 (λj=>by have:=j4 ((r.map zJ).take j) (λw hw=>Bn hw) ED;omega);generalize (r.map zJ).map bs=wl at *;generalize u8:D (k+1)=dk1 at *;generalize zW (r.map zJ)=jw at *;obtain⟨y2,d2,q6,o⟩:=qq (D k) (jw++[10]) (by simp only[length_append,Ae,Aj];omega);obtain rfl:dk1=y2:=by rw[s0,d2]
 generalize jw++[10]=jn at *;generalize D k=dk at *;refine zk (aA (zi [] (zq f0 hc) ?_));refine yK [] u4 (zD f0 hc o) ?_;refine yK [] u5 (zD f0 hc o) ?_;refine zg ?_;exact zv (k+1) [] hc D9 (by simp[zy k D9,u8]) rfl EA;simp at hc;obtain rfl:k=x.J.length:=D9;refine zB (EJ ?_);exact EK hd
def ZxQ{x:Inst}(h:InstQ x n):InstOk x:=by
 have hm:=Zg h.m;obtain⟨j,d,o,p⟩:=Vs hm.J;have u:=h.af;have r:∀z:Int,0<=z->z<=2147483648->zU z:=λz a b=>by unfold zU;omega
 refine⟨by have:=hm.days;unfold zU;omega,r _ hm.U.1 hm.U.2,r _ hm.R.1 hm.R.2,r _ hm.len.1 hm.len.2,by omega,λc hc=>?_,by omega,λrow f=>⟨by have:=(d row f).1;omega,λz g=>r z ((d row f).2 z g).1 ((d row f).2 z g).2⟩⟩;have i:=(h.k.a.aa c hc).D;obtain⟨k,a,b,l,r1,r2,r3,r4,r5⟩|⟨k,q,s,t,v,ho,e,w⟩:=Vr (hm.ai c hc);exact⟨r _ D9 D9,r _ D9 D9,i,by omega,r _ D9 D9,r _ D9 D9,r _ D9 D9,r _ D9 D9,r _ D9 D9⟩;exact⟨r _ D9 D9,r _ D9 D9,i,by rw[e];simp,r _ D9 D9,r _ D9 D9,r _ D9 D9,r _ D9 D9,r _ D9 D9⟩
def ZxR{x:Inst}{p:zG}(h:PlanG x n p):PlanSz p:=⟨h.serves.sz,λd a=>by have:=(h.s.ok d a).2.1;omega⟩
def Jj(x:Inst)(n:Nat)(l:List Int):Int:=Vw x n (ww l) (yA l 3).toNat
def wy(x:Inst)(n:Nat)(l:List Int):zG × Int:=Q8 x n (ww l) (yA l 1).toNat (yA l 2)
def Fs{x:Inst}(h:InstQ x n):(zV (j8 x)).length<=1048576:=by
 have hm:=Zg h.m;have f:=h.af;have hl:=aZ (ls:=j8 x) (Fq (K:=66) (Fl h) D9 D9 λc hc=>by obtain⟨k,a,b,l,-⟩|⟨k,q,s,t,g,ho,e,-⟩:=Vr (hm.ai c hc);omega;rw[e];simp);have d:(j8 x).length<=18:=by simp[j8];have:=h.t.rows;omega
 have:4027*(j8 x).length<=4027*18:=Ch _ d;omega
def Ft:yn []=(zI,2):=by unfold yn;rw[W8];rfl
abbrev eF:Wd:=[111,117,116,99,111,109,101,32,109,97,108,102,111,114,109,101,100,10]
def ZxS:PP 9 [.agg [I 1,I 0,I 0,I 0,L ([]:List Int),L ([]:zG)]] (T (bs eF)):=by have hl:PP 37 [.lst 2 [T (bs jE),T (bs ea)]] (T (bs eF)):=XU [jE,ea] EA EG;refine c9 func9 λS nx a=>?_;intro v0;refine ze (EJ ?_);refine zn (EJ ?_);refine aD ?_;refine EJ ?_;refine zu hl ?_;exact EK a
def ZxT:PP 18 [T (bs []),L ([]:List Int)] (T (bs eF)):=by have h1:=Zw3 [] EA [] (by rw[Ft];decide);rw[Ft]at h1;have h2:=ZxS;have h3:PP 7 [T (bs []),L ([]:List Int)] (.agg [I 1,I 0,I 0,I 0,L ([]:List Int),L ([]:zG)]):=h1;refine c9 func18 λS nx a=>?_;refine EJ ?_;refine zu h3 ?_;refine zu h2 ?_;exact EK a
def ZxU:PP 24 [] (B true):=by have a:PP 18 [T (bs []),.sc (.slice none 0 0)] (T (bs eF)):=λS=>HI (.cons Wk.rfl (.cons Wk.nil .nil)) (ZxT S);refine c9 func24 λS nx b=>?_;refine EJ ?_;refine zu a ?_;exact EK b
def Vx(l:List Int):List Int:=[ww l,yA l 1%9,yA l 2%21,yA l 3%13]
def ZxV(l:List Int):PP 19 [L l] (L (Vx l)):=by have hs:=ZwX l;unfold Vx;generalize ww l=s at *;generalize yA l 1%9=a at *;generalize yA l 2%21=b at *;generalize yA l 3%13=c at *;refine c9 func19 λS nx d=>?_;refine EJ ?_;refine zu hs ?_;intro v0;refine EJ ?_;exact EK d
def ZxW{parts:Array (Nat × Operand)}(id:Nat)(hid:S id=.dead)(ho:o.op=.buildSlice t nx parts)(y:P.underlying t=some (.slice e))(z:P.cellsOf e=1)(h0:0<nx)(a0:nx<=64)
  (h:Yp P e nx (parts.toList.map λx=>(x.1,ev F x.2))=some cs) (a3:cs.length=nx) (hK:∀v,K (.sl id v 1 0 nx) (S.set id (.cells v e cs))):PO P jM n o F S K:=by
 intro G hG C w a N st next Q' d;have k:∀c,o.op≠.defer c:=by intro c hc;rw[ho]at hc;cases hc
 have l:(parts.toList.map λx=>(x.1,ev G x.2))=parts.toList.map λx=>(x.1,ev F x.2):=by refine AQ λx hx=>?_;rw[hG x.2 (by simp only[ho,Op.operands];simp;exact⟨x.1,by simpa using hx⟩)]
 rw[<-l]at h;obtain⟨vs,g,b,m⟩:=eR (C:=C) (S:=S) (w:=w) y (λx=>ev G x) a.eval (λx=>st.ev x) h;have s:vs.size=nx:=by rw[m,z,BK]
 obtain⟨a1,a2⟩:=st.sim.object' (o:=id) (ver:=C.clock) (.clock C hid) e vs cs D9 (λi u _ q=>b.2.1 i u q) (λi p u hp q=>b.2.2 i p u hp q);have f:(execOp a.eval o).run P w=.ok (.value (.slice (some ⟨w.heap.size,0,none⟩) nx nx)) (w.alloc (.cells vs e)):=by unfold execOp;simp only[ho,Sem.run_bind];have e1:(parts.map λx=>(x.1,a.eval x.2))=(parts.toList.map λx=>(x.1,a.eval x.2)).toArray:=Array.ext' EA;rw[e1,g];rfl
 refine qx k f (d _ _ _ _ _ (hK C.clock) ?_ a1 a2);have r:id<(C.put id C.clock (some (w.heap.size,vs.size))).next/\C.clock<(C.put id C.clock (some (w.heap.size,vs.size))).clock:=by simp only[Ctx.put];omega
 refine .sl ⟨_,_,rfl,Ag _,by unfold xO;omega,by unfold maxLen;omega,λh=>⟨_,_,rfl⟩⟩ r λv0 j=>?_;rw[q11]at j;cases j;exact⟨Ag _,λ_=>.inr ⟨w.heap.size,vs.size,_,_,by simp[Ctx.put],rfl,λ_=>⟨rfl,by omega⟩,λ_=>rfl⟩⟩
variable {ops:Array Oper}{os:List Oper}
def ZxX{K:KT}(h:jN P F (ext S nx obs) o=some (p,ext S nx obs))(a:XS P jM n nx ops K os (yo F o.dst p) S obs)(b:o.guard=none:=by rfl):XS P jM n nx ops K (o::os) F S obs:=by unfold XS;simp only[gd,b];exact Wh h ⟨S,obs,rfl,a⟩
def lj{K:KT}(h:uf P F o=some p)(a:XS P jM n nx ops K os (yo F o.dst p) S obs)(b:o.guard=none:=by rfl):XS P jM n nx ops K (o::os) F S obs:=by unfold XS;simp only[gd,b];exact bR h ⟨S,obs,rfl,a⟩
def Fu{K:KT}(h:PO P jM n o F (ext S nx obs) (λp S'=>∃S1 a,S'=ext S1 nx a/\XS P jM n nx ops K os (yo F o.dst p) S1 a))(b:o.guard=none:=by rfl):XS P jM n nx ops K (o::os) F S obs:=by unfold XS;simp only[gd,b];exact h
def Fv(z:Int)(h1:0<=z)(h2:z<=1000000000000000000):PP 67 [I z] (B true):=by refine c9 func67 λS nx a=>?_;refine aF [(2,5)] (zq h1 h2) ?_;exact EK a
def Fw(z:Int)(h0:0<=z)(h:z<=1000000000000000000):PP 40 [I z] (T (bs (zJ z))):=by have:=X2 z.toNat D9;rwa[CM h0]at this
theorem Fx{x:Stop × Nat}:∀{p:zG} {i:Nat},x∈told i p->∃d∈p,∃t∈d,x.1∈t
 |[],_,h=>by simp[told]at h
 |d::p,i,h=>by simp only[told,AC,Ak,BA]at h;obtain⟨s,⟨t,a,hs⟩,rfl⟩|h:=h;exact⟨d,by simp,t,a,hs⟩;obtain⟨b,c,q⟩:=Fx h;exact⟨b,by simp[c],q⟩
def eG{a b c d e A:Ob}:((ext S nx (a::b::c::d::e::obs)).set (nx+4) x).set (nx+3) A=ext S nx (a::b::c::A::x::obs):=by rw[yu _ D9 EA,yu _ D9 EA];simp
def Fy(w:Wd)(a:w.length<=20)(n:Nat)(hn:n<=1000):PP 37 [.lst 2 [T (bs w),T (bs (zQ n))]] (T (bs (zW [w,zQ n]++[10]))):=by have b:=wL (n:=n) D9;exact XU [w,zQ n] EA (by simp[zW];omega)
def ZxY(p:zG)(o:PlanTold p):PP 41 [.agg [L p]] (.tup [T (bs (zV (qS p))),I 0]):=by
 have f3:=tV o;have z:zV (qS p)=(zW [qn,zQ p.length]++[10])++zV (p.flatMap vW):=by unfold qS;rw[ZX];simp
 generalize zV (qS p)=Z at *;have a8:∀x∈told 0 p,(0<=x.1.c/\x.1.c<=1000000000000000000)/\0<=x.1.q/\x.1.q<=1000000000000000000:=λx hx=>by obtain⟨d,hd,t,ht,hs⟩:=Fx hx;exact o.s d hd t ht _ hs
 have hn:=o.n;have a0:∀(S:Store) (nx b wx:Nat) (pp:PV) (l m:List UInt8),l.length+m.length<=Z.length->S (nx+3)=.cells b 79 [pp,.sl (nx+4) wx 1 0 l.length]->(pp=.sc (.pointer none)\/pp=.ptr (nx+3) b 0)->S (nx+4)=.cells wx 5 (l.map U8)->_:=λS nx b wx pp l m hl h1 o h2=>dZ (S:=S) (id:=nx+3) (v:=b) (ib:=nx+4) (w0:=wx) (p:=pp) l m h1 o h2 D9;have d0:=X2 p.length D9;have d1:=Fy qn EG p.length hn;have a9:zW [qn,zQ p.length]++[10]≠[]:=EA;generalize zW [qn,zQ p.length]++[10]=l0 at *;generalize zQ p.length=dp at *;refine c9 func41 λS nx hd=>?_;intro v0 v1 r;refine ze (EJ ?_);refine zu (rC p) ?_;refine zn (Xp (xs:=(told 0 p).map XI) (σ:=Unit) (λi s=>i<=(told 0 p).length) [(1,.ptr nx v0 0),(2,.ptr (nx+1) v1 0),(3,.ptr (nx+2) r 0)] (λ_=>S)
  (λ_=>[.cells v0 31 [L p],.cells v1 9 [T (bs [])],.cells r 49 [I 0]]) ()
  (rD p D9 (λd hd=>by have:=o.d d hd;omega) (λd hd t ht=>by have:=o.t d hd t ht;omega)) rfl (by intro x hx;obtain⟨y,_,rfl⟩:=Ak.1 hx;rfl) EG EA EA rfl EA EA ?_ ?_)
 rintro l i ⟨⟩ more x hi hx;rw[Ai]at hx;obtain⟨y,hy,rfl⟩:=Al.1 hx;obtain⟨s,d⟩:=y;obtain⟨⟨c1,c2⟩,q1,q2⟩:=a8 _ (Ab hy);have d2:i<(told 0 p).length:=(Af.1 hy).1;have hc:=Fv s.c c1 c2;have hq:=Fv s.q q1 q2;refine x8 [] EF EF λK Gc Gh hK d3 d4 X b7 hX=>?_;simp -implicitDefEqProofs [b7,hX,XI];try clear b7 hX X
 intro v4;refine hK _ _ _ ?_;clear hK d3 d4;clear K Gc Gh;refine zn (aF [(5,21)] n' ?_);refine yK [(5,21)] hc n' ?_;refine yK [(5,21)] hq n' ?_;refine aC ?_;simp only[xB];exact vJ () [_] d2 rfl EB;rintro⟨⟩ -;refine EJ ?_;intro b;refine qj 3 1 5 1 rfl rfl λwb=>?_;refine EJ ?_;refine zu d0 ?_;refine zu d1 ?_;refine λa=>((a0 _ nx b wb _ [] l0 (by rw[z];simp) (by rw[zZ];rfl) (.inl rfl) (by rw[zZ];rfl)).mono ?_).v;rintro _ _ ⟨rfl,rfl⟩;refine⟨_,_,eG,zS a ?_⟩;refine ze (EJ ?_);refine zn (zF (λs:Nat × Nat × List UInt8=>s.1<=p.length/\Z=s.2.2++zV ((p.drop s.1).flatMap vW)) (λ(k,w,c)=>[(1,.ptr nx v0 0),(2,.ptr (nx+1) v1 0),(3,.ptr (nx+2) r 0),(5,.ptr (nx+3) b 0),(36,L p),(37,I p.length),(38,I k)]) (λ(k,w,c)=>[.cells v0 31 [L p],.cells v1 9 [T (bs [])],.cells r 49 [I 0],.cells b 79 (Qv (nx+3) b (nx+4) w c.length),.cells w 5 (c.map U8)]) (λs=>p.length-s.1) (0,wb+1,l0) [] (by simp[z]) EA EA ?_);rintro⟨k,w,c⟩ ⟨hk,hZ⟩;simp only at hk hZ ⊢;refine EJ ?_;refine ze (zA rfl (λhc=>?_) (λhc=>?_));simp at hc;obtain⟨d,tl,a1,a2,a3,f0⟩:=zH rfl p k hc;have a4:=Ab a1;have d5:=o.d d a4;have d6:=X2 d.length D9;have d7:=Fy qG EG d.length d5;have g:Z=(c++(zW [qG,zQ d.length]++[10]))++(zV (d.map xY)++zV ((p.drop (k+1)).flatMap vW)):=by rw[hZ,a2,AB,XW];unfold vW;rw[ZX];simp
 generalize zW [qG,zQ d.length]++[10]=l1 at *;generalize zQ d.length=dd at *;obtain⟨R,hR⟩:∃R,R=zV ((p.drop (k+1)).flatMap vW):=⟨_,rfl⟩;rw[<-hR]at g;clear hZ;refine zk (aA (aF [] (zq f0 hc) ?_));intro v7;refine EJ ?_;refine zu d6 ?_;refine zu d7 ?_;refine λa=>((a0 _ nx b w _ c l1 (by rw[g];simp) (by rw[zZ];rfl) (.inr rfl) (by rw[zZ];rfl)).mono ?_).v;rintro _ _ ⟨rfl,rfl⟩;obtain⟨c1,b8⟩:∃c1,c1=c++l1:=⟨_,rfl⟩;rw[<-b8]at g ⊢;refine⟨_,_,eG,zS a ?_⟩;refine EJ ?_;refine zn (zF (λs:Nat × Nat × List UInt8=>s.1<=d.length/\Z=s.2.2++(zV ((d.drop s.1).map xY)++R)) (λ(j,w,c)=>[(1,.ptr nx v0 0),(2,.ptr (nx+1) v1 0),(3,.ptr (nx+2) r 0),(5,.ptr (nx+3) b 0),(36,L p),(37,I p.length),(38,I k),(50,L d),(51,I d.length),(52,I j)]) (λ(j,w,c)=>[.cells v0 31 [L p],.cells v1 9 [T (bs [])],.cells r 49 [I 0],.cells b 79 (Qv (nx+3) b (nx+4) w c.length),.cells w 5 (c.map U8),.cells v7 96 [L d]]) (λs=>d.length-s.1) (0,w+1,c1) [] (by simp[g]) EA EA ?_);clear g b8;rintro⟨j,w,c⟩ ⟨hj,a5⟩;simp only at hj a5 ⊢;refine EJ ?_;refine ze (zA rfl (λe=>?_) (λe=>?_));simp at e;obtain⟨t,f4,b1,b2,b3,e2⟩:=zH rfl d j e;have c6:=Ab b1;have d8:=o.t d a4 t c6;have c7:=o.s d a4 t c6;have c8:=X2 t.length D9;have d9:PP 37 [L ((xY t).map bs)] (T (bs (zW (xY t)++[10]))):=XU (xY t) (by rw[kB];omega) (by have:=tU d8 c7;omega);have a6:Z=(c++(zW (xY t)++[10]))++(zV ((d.drop (j+1)).map xY)++R):=by rw[a5,b2,Aw,ZX];simp
 refine zk (aA (aF [] (zq e2 e) ?_));intro v9;refine ze (cA EF ?_);simp only[];refine lj EB ?_;refine ZxX (p:=L t) (by simp[ui,zZ]) ?_;refine lj EB ?_;refine Fu (Jq (k:=40) (fs:=[]) (cs:=[]) rfl rfl EA (c8 S).1 (by exact(c8 _).2) ?_);rintro _ _ ⟨rfl,rfl⟩;refine⟨_,_,rfl,?_⟩;refine Fu (ZxW (nx+7) (by rw[zZ];rfl) rfl underlying52 EA D9 D9 (cs:=[T (bs wV),T (bs (zQ t.length))]) (by simp[Yp,YV]) rfl λv=>⟨S,_,jP _,?_⟩);refine lj EB ?_;simp only[];refine ze (EJ ?_);refine zn (zF (λs:Nat × Nat × Ln=>s.1<=t.length/\s.2.2.length=2+2*s.1/\xY t=s.2.2++(t.drop s.1).flatMap λs=>[zJ s.c,zJ s.q]) (λ(i,w7,ls)=>[(1,.ptr nx v0 0),(2,.ptr (nx+1) v1 0),(3,.ptr (nx+2) r 0),(5,.ptr (nx+3) b 0),(36,L p),(37,I p.length),(38,I k),(50,L d),(51,I d.length),(52,I j),(10,.sl (nx+7) w7 1 0 ls.length),(62,L t),(63,I t.length),(64,I i)]) (λ(i,w7,ls)=>[.cells v0 31 [L p],.cells v1 9 [T (bs [])],.cells r 49 [I 0],.cells b 79 (Qv (nx+3) b (nx+4) w c.length),.cells w 5 (c.map U8),.cells v7 96 [L d],.cells v9 99 [L t],.cells w7 9 ((ls.map bs).flatMap enc)]) (λs=>t.length-s.1) (0,v,[wV,zQ t.length]) [] (by simp[xY]) EA EA ?_);rintro⟨i,w7,ls⟩ ⟨hi,e0,hT⟩;simp only at hi e0 hT ⊢;refine EJ ?_;refine ze (zA rfl (λf=>?_) (λf=>?_));simp at f;obtain⟨s,f5,s1,s2,s3,-,e3⟩:=el 2 rfl t i f;obtain⟨⟨p1,p2⟩,p3,p4⟩:=c7 s (Ab s1);have e1:=Fw s.c p1 p2;have e4:=Fw s.q p3 p4;have e5:((ls.map bs).flatMap enc:List PV).length=ls.length:=by rw[ju];simp[Enc.sz]
 have a7:List.take ls.length ((ls.map bs).flatMap enc:List PV)=(ls.map bs).flatMap enc:=Ad (by rw[e5];exact Ag _);have e6:((ls++[zJ s.c,zJ s.q]).map bs).flatMap enc=(ls.map bs).flatMap enc++[T (bs (zJ s.c)),T (bs (zJ s.q))]:=by rw[map_append,Ap];rfl
 have u:(ls++[zJ s.c,zJ s.q]).length=ls.length+2:=EA;have e7:xY t=(ls++[zJ s.c,zJ s.q])++(t.drop (i+1)).flatMap λs=>[zJ s.c,zJ s.q]:=by rw[hT,s2];simp
 refine zk (aA (aF [] (zq e3 f) ?_));intro f6;refine zC (some [nx+8]) RO a7 ?_;refine zK (e1) a7 ?_;refine zK (e4) a7 ?_;refine⟨by omega,?_⟩;refine zg ?_;exact zv (i+1,w7+1,ls++[zJ s.c,zJ s.q]) [_] ⟨f,by simp only[u];omega,e7⟩ D9 (by simp[zy i D9,u]) rfl (by simp only[e6];rfl);simp at f;obtain rfl:i=t.length:=D9;have e8:ls=xY t:=by rw[hT];simp
 clear hT;subst e8;refine zB (yc 7 rfl ?_);obtain⟨c2,h⟩:∃c2,c2=c++(zW (xY t)++[10]):=⟨_,rfl⟩;rw[<-h]at a6;generalize xY t=ls at *;have e9:PV.lst ls.length ((ls.map bs).flatMap enc)=L (ls.map bs):=by unfold L;rw[length_map]
 generalize zW ls++[10]=l2 at *;refine zi [] e9 ?_;refine zu d9 ?_;refine λa=>((a0 _ nx b w _ c l2 (by rw[a6,h];simp) (by rw[zZ];rfl) (.inr rfl) (by rw[zZ];rfl)).mono ?_).v;rintro _ _ ⟨rfl,rfl⟩;rw[<-h];refine⟨_,_,eG,zS a ?_⟩;refine zg ?_;exact zv (j+1,w+1,c2) [_,_] ⟨e,a6⟩ D9 (by simp[zy j D9]) rfl rfl;simp at e;obtain rfl:j=d.length:=D9;refine zB (zg ?_);exact zv (k+1,w,c) [_] ⟨hc,by rw[a5,hR];simp[zV]⟩ D9 (by simp[zy k D9]) rfl rfl;simp at hc;obtain rfl:k=p.length:=D9;refine zB ?_;have f1:c=Z:=by rw[hZ];simp[zV]
 subst f1;have f2:c≠[]:=by rw[z];simp[a9]
 refine EJ ?_;refine λa=>((aY (id:=nx+3) (v:=b) (ib:=nx+4) (w0:=w) (p:=.ptr (nx+3) b 0) c (by rw[zZ];rfl) (by rw[zZ];rfl) f2 D9).mono ?_).v;rintro _ _ ⟨rfl,rfl⟩;rw[yu _ D9 EA];refine⟨_,_,rfl,zS a ?_⟩;exact EK hd
structure RepTold (r:Rep):Prop where
 b:0<=r.ac/\r.ac<=9223372036854775807
 c:0<=r.cost/\r.cost<=9223372036854775807
 h:0<=r.Y/\r.Y<=9223372036854775807
 n:r.days.length<=1000
 d:∀z∈r.days,0<=z/\z<=9223372036854775807
 p:PlanTold r.Z
def ZxZ(z:Int)(h0:0<=z/\z<=9223372036854775807):PP 40 [I z] (T (bs (zJ z))):=by have:=X2 z.toNat D9;rwa[CM h0.1]at this
def eH(w:Wd)(a:w.length<=20)(z:Int)(h0:0<=z/\z<=9223372036854775807):PP 38 [T (bs w),I z] (T (bs (zW [w,zJ z]++[10]))):=by have:=Zwx w a z.toNat D9;rwa[CM h0.1]at this
def FA(w v:Wd)(a:w.length<=20)(hv:v.length<=20):PP 37 [.lst 2 [T (bs w),T (bs v)]] (T (bs (zW [w,v]++[10]))) :=
 XU [w,v] EA (by simp[zW];omega)
def Vy{a d e A:Ob}:((ext S nx (a::d::e::obs)).set (nx+2) x).set (nx+1) A=ext S nx (a::A::x::obs):=by rw[yu _ D9 EA,yu _ D9 EA];simp
def Zx0(a b c:Int)(ds:List Int)(p:zG)(e:0<=a/\a<=9223372036854775807):PP 9 [.agg [I 3,I a,I b,I c,L ds,L p]] (T (bs (zV [[jE,Q4],[xX,zJ a]]))):=by
 have hl:=FA jE Q4 EG EG;have hn:=eH xX EG a e;have d:=u9 (z:=a) (by unfold zU;omega);have f:zV [[jE,Q4],[xX,zJ a]]=(zW [jE,Q4]++[10])++(zW [xX,zJ a]++[10]):=by simp[zV]
 have hs:=Qt (zW [jE,Q4]++[10]) (zW [xX,zJ a]++[10]) (by simp[zW];omega);rw[f];generalize zW [jE,Q4]++[10]=z at *;generalize zW [xX,zJ a]++[10]=y at *;refine c9 func9 λS nx g=>?_;intro v0;refine ze (EJ ?_);refine zn (EJ ?_);refine aE ?_;refine EJ ?_;refine aE ?_;refine EJ ?_;refine aD ?_;refine aG (some [nx]) RJ hs ?_;refine zK (hl) hs ?_;refine zK (hn) hs ?_;exact EK g
def FB(r:Rep)(h4:r.out=4)(h:RepTold r):PP 9 [.agg (Vh r)] (T (bs (zV (j9 r)))):=by
 obtain⟨o,bd,g,ho,ds,p⟩:=r;obtain rfl:o=4:=h4;obtain⟨hb,hc,hh,hn,j,x⟩:=h;simp only at hb hc hh hn j x;have f:zV (j9 ⟨4,bd,g,ho,ds,p⟩)=(zW [jE,qn]++[10])++((zW [xX,zJ bd]++[10])++((zW [Za,zJ g]++[10])++((zW [Zb,zJ ho]++[10])++(zV (xA ds)++zV (qS p))))):=by unfold j9;simp[ZX,XW]
 have d2:(zV (j9 ⟨4,bd,g,ho,ds,p⟩)).length<=100000100500:=by
  have e1:=tV x;have e2:=aZ (ls:=xA ds) (m:=64) λl hl=>by
   obtain⟨i,hi,rfl⟩:=Ak.1 hl;have q1:=wL (n:=i) (by have:=AI.1 hi;omega);have q2:=u9 (z:=ds.getD i 0) (by
    rw[Aa];cases e:ds[i]? with
    |none=>simp;unfold zU;omega
    |some z=>have:=j z (Ab e);simp;unfold zU;omega)
   generalize zJ (ds.getD i 0)=u at *;generalize zQ i=v at *;simp[zW];omega
  have e3:(xA ds).length=ds.length:=by simp[xA]
  have b1:=u9 (z:=bd) (by unfold zU;omega);have b2:=u9 (z:=g) (by unfold zU;omega);have b3:=u9 (z:=ho) (by unfold zU;omega);rw[f];simp[zW];omega
 generalize zV (j9 ⟨4,bd,g,ho,ds,p⟩)=Z at *;have a6:=FA jE qn EG EG;have a7:=eH xX EG bd hb;have a8:=eH Za EG g hc;have a9:=eH Zb EG ho hh;have b7:=ZxY p x;have y:zW [jE,qn]++[10]≠[]:=EA;generalize zW [jE,qn]++[10]=l0 at *;generalize zW [xX,zJ bd]++[10]=l1 at *;generalize zW [Za,zJ g]++[10]=l2 at *;generalize zW [Zb,zJ ho]++[10]=l3 at *;generalize zV (qS p)=R at *;obtain⟨c1,e1⟩:∃c,c=l0++l1:=⟨_,rfl⟩;obtain⟨c2,e2⟩:∃c,c=c1++l2:=⟨_,rfl⟩;obtain⟨c3,e3⟩:∃c,c=c2++l3:=⟨_,rfl⟩;have q:Z=c1++(l2++(l3++(zV (xA ds)++R))):=by rw[f,e1];simp
 have t:Z=c2++(l3++(zV (xA ds)++R)):=by rw[q,e2];simp
 have a0:Z=c3++(zV (xA ds)++R):=by rw[t,e3];simp
 have d:∀(S:Store) (nx b wx:Nat) (pp:PV) (l m:List UInt8),l.length+m.length<=Z.length->S (nx+1)=.cells b 79 [pp,.sl (nx+2) wx 1 0 l.length]->(pp=.sc (.pointer none)\/pp=.ptr (nx+1) b 0)->S (nx+2)=.cells wx 5 (l.map U8)->_:=λS nx b wx pp l m hl h1 x h2=>dZ (S:=S) (id:=nx+1) (v:=b) (ib:=nx+2) (w0:=wx) (p:=pp) l m h1 x h2 D9;show Pure _ _ [.agg [I 4,I bd,I g,I ho,L ds,L p]] _;refine c9 func9 λS nx hd=>?_;intro v0;refine ze (EJ ?_);refine zn (EJ ?_);refine aE ?_;refine EJ ?_;refine aE ?_;refine EJ ?_;refine aE ?_;refine EJ ?_;refine aD ?_;refine EJ ?_;intro b;refine qj 1 1 5 1 rfl rfl λwb=>?_;refine EJ ?_;refine zu a6 ?_;refine λa=>((d _ nx b wb _ [] l0 (by rw[f];simp) (by rw[zZ];rfl) (.inl rfl) (by rw[zZ];rfl)).mono ?_).v;rintro _ _ ⟨rfl,rfl⟩;refine⟨_,_,Vy,zS a ?_⟩;refine EJ ?_;refine zu a7 ?_;refine λa=>((d _ nx b (wb+1) _ l0 l1 (by rw[f];simp) (by rw[zZ];rfl) (.inr rfl) (by rw[zZ];rfl)).mono ?_).v;rintro _ _ ⟨rfl,rfl⟩;rw[<-e1];refine⟨_,_,Vy,zS a ?_⟩;refine EJ ?_;refine zu a8 ?_;refine λa=>((d _ nx b (wb+1+1) _ c1 l2 (by rw[q];simp) (by rw[zZ];rfl) (.inr rfl) (by rw[zZ];rfl)).mono ?_).v;rintro _ _ ⟨rfl,rfl⟩;rw[<-e2];refine⟨_,_,Vy,zS a ?_⟩;refine EJ ?_;refine zu a9 ?_;refine λa=>((d _ nx b (wb+1+1+1) _ c2 l3 (by rw[t];simp) (by rw[zZ];rfl) (.inr rfl) (by rw[zZ];rfl)).mono ?_).v;rintro _ _ ⟨rfl,rfl⟩;rw[<-e3];refine⟨_,_,Vy,zS a ?_⟩;refine ze (EJ ?_);have b8:∀k,k<ds.length->((range ds.length).drop k).map (λi=>[qG,zQ i,zJ (ds.getD i 0)])=[qG,zQ k,zJ (ds.getD k 0)]::((range ds.length).drop (k+1)).map (λi=>[qG,zQ i,zJ (ds.getD i 0)]):=λk hk=>by rw[AG (by simpa using hk)];simp
 refine zn (zF (λs:Nat × Nat × List UInt8=>s.1<=ds.length/\Z=s.2.2++(zV (((range ds.length).drop s.1).map (λi=>[qG,zQ i,zJ (ds.getD i 0)]))++R)) (λ(k,w,c)=>[(1,.ptr nx v0 0),(3,.ptr (nx+1) b 0),(44,L ds),(45,I ds.length),(46,I k)]) (λ(k,w,c)=>[.cells v0 33 [I 4,I bd,I g,I ho,L ds,L p],.cells b 79 (Qv (nx+1) b (nx+2) w c.length),.cells w 5 (c.map U8)]) (λs=>ds.length-s.1) (0,wb+1+1+1+1,c3) [] (by simp[a0,xA]) EA EA ?_);clear q t a0 e1 e2 e3;rintro⟨k,w,c⟩ ⟨hk,hZ⟩;simp only at hk hZ ⊢;refine EJ ?_;refine ze (zA rfl (λhc=>?_) (λhc=>?_));simp at hc;obtain⟨z,tl,a1,a2,a3,f0⟩:=zH rfl ds k hc;have hz:=j z (Ab a1);have c6:=X2 k D9;have c7:=ZxZ z hz;have c8:ds.getD k 0=z:=by rw[Aa,a1];rfl
 rw[b8 k hc,c8,ZX]at hZ;have q1:=wL (n:=k) D9;have q2:=u9 (z:=z) (by unfold zU;omega);have d0:PP 37 [.lst 3 [T (bs qG),T (bs (zQ k)),T (bs (zJ z))]] (T (bs (zW [qG,zQ k,zJ z]++[10]))):=XU [qG,zQ k,zJ z] EA (by simp[zW];omega);obtain⟨c',e'⟩:∃c',c'=c++(zW [qG,zQ k,zJ z]++[10]):=⟨_,rfl⟩;have a4:Z=c'++(zV (((range ds.length).drop (k+1)).map (λi=>[qG,zQ i,zJ (ds.getD i 0)]))++R):=by rw[hZ,e'];simp
 generalize zW [qG,zQ k,zJ z]++[10]=ln at *;generalize zQ k=dk at *;generalize zJ z=dz at *;refine zk (aA (aF [] (zq f0 hc) ?_));refine zg ?_;refine zu c6 ?_;refine zu c7 ?_;refine zu d0 ?_;refine λa=>((d _ nx b w _ c ln (by rw[a4,e'];simp) (by rw[zZ];rfl) (.inr rfl) (by rw[zZ];rfl)).mono ?_).v;rintro _ _ ⟨rfl,rfl⟩;rw[<-e'];refine⟨_,_,Vy,zS a ?_⟩;refine zg ?_;exact zv (k+1,w+1,c') [] ⟨hc,a4⟩ D9 (by simp[zy k D9]) rfl rfl;simp at hc;obtain rfl:k=ds.length:=D9;refine zB ?_;have a5:Z=c++R:=by rw[hZ,AS EA];simp[zV]
 clear hZ;have d1:Z≠[]:=by rw[f];simp[y]
 refine EJ ?_;refine zu b7 ?_;refine EJ ?_;refine λa=>((d _ nx b w _ c R (by rw[a5];simp) (by rw[zZ];rfl) (.inr rfl) (by rw[zZ];rfl)).mono ?_).v;rintro _ _ ⟨rfl,rfl⟩;rw[<-a5];refine⟨_,_,Vy,zS a ?_⟩;refine EJ ?_;refine λa=>((aY (id:=nx+1) (v:=b) (ib:=nx+2) (w0:=w+1) (p:=.ptr (nx+1) b 0) Z (by rw[zZ];rfl) (by rw[zZ];rfl) d1 D9).mono ?_).v;rintro _ _ ⟨rfl,rfl⟩;rw[yu _ D9 EA];refine⟨_,_,rfl,zS a ?_⟩;exact EK hd
open Go.RowKit
def Zx1(b:Nat)(c:Array Value)(w:World)(a:w.heap[b]?=some (.cells c 79 (0,0)))(h1:c[1]?=some (.slice none 0 0)):
  Calls prog 42 #[.pointer (some ⟨b,0,none⟩)] w λe w'=>e=.returned (.string (bs []))/\w'=w.drew:=by
 have c1:w.drew.cell? ⟨b,1,none⟩=some (.slice none 0 0):=by have:w.drew.heap[b]?=some (.cells c 79 (0,0)):=a;rw[Lib.cell_of_heap this];exact h1
 have d:(Builtin.unsafeSliceData_ #[77] 126 #[.slice none 0 0]).run prog w.drew=.ok (.pointer none) w.drew:=Lib.run_unsafeSliceData_nil _ _ _ _ _;have f:(Builtin.unsafeString_ #[126,3] 9 #[.pointer none,.int .i64 0]).run prog w.drew=.ok (.string .empty) w.drew:=Lib.run_unsafeString_none _ _ _ _ _;have g:bs []=ByteArray.empty:=rfl;rw[g]
 go_enter func42,ntmps42
 go_wp2
 go_region
 all_goals (go_wp2;go_ret;exact⟨rfl,rfl⟩)
def Zx2{id v:Nat}(d:S id=.cells v 79 [p,yi]):
  SP 42 [.ptr id v 0] S (λq S'=>q=T (bs [])/\S'=S):=by
 refine⟨qN func42 EF rfl,?_⟩;intro C w vs f hl g;obtain⟨u,rfl⟩:=dW hl;have h:=g 0 _ u rfl rfl;cases h with
 |ptr h1 h2 h3 =>
 obtain⟨b,k,a,rfl⟩:=(h3 v (by rw[d];rfl)).2 rfl;obtain⟨b',k',c,c0,c1,g1,i,g3,g4,n,j,r0,r1,o⟩:=dX f d;rw[a]at g1;cases g1;cases r1 with
 |sc _ =>
 refine(Zx1 b c w i j).mono ?_;rintro e w' ⟨rfl,rfl⟩;obtain⟨l,m⟩:=f.drew;exact⟨_,_,_,_,rfl,⟨rfl,rfl⟩,.sc _,l,m⟩
abbrev br:Rep:=⟨0,0,0,0,[],[]⟩
def vG(t:List UInt8):Rep × Bool:=match yO t with
 |none=>(br,false)
 |some ls=>match Zc ls with
  |none=>(br,false)
  |some r=>(r,decide (zV (j9 r)=t))
def LnsSz(ls:List Ln):Prop:=ls.length<=1000/\∀l∈ls,l.length<=2000
theorem FC:∀(l:List Int),(∀s∈wM l,s.c∈l/\s.q∈l)/\2*(wM l).length<=l.length
 |[]=>by simp[wM]
 |[a]=>by simp[wM]
 |a::b::l=>by have h:=FC l;constructor;intro s hs;obtain rfl|hs:=Am.1 hs;simp;have:=h.1 s hs;simp[this];simp only[wM,Ae];omega
def FD(w:Wd):0<=zO w/\zO w<=1000000000000000000:=by
 refine⟨bb w,?_⟩;unfold zO;cases h:yt w with
 |none=>simp
 |some n=>have:=Qk h;simp;omega
def FE{l:Ln}{t:zT}(h:jL l=some t):2*t.length<=l.length/\∀s∈t,(0<=s.c/\s.c<=1000000000000000000)/\0<=s.q/\s.q<=1000000000000000000:=by unfold jL at h;split at h;cases h;rename_i w ws;split at h;split at h;rename_i n ns hn;split at h;cases h;have h1:=FC ns;have h2:=Eg hn;have h3:=aT hn;simp only[Ae]at h3 ⊢;refine⟨by omega,λs hs=>?_⟩;obtain⟨a,b⟩:=h1.1 s hs;exact⟨h2 _ (by simp[a]),h2 _ (by simp[b])⟩;cases h;cases h;cases h
def Zx3:∀{ls r:List Ln} {d:zt},qb n ls=some (r,d)->∀t∈d,∃l∈ls,jL l=some t:=by
 induction n with
 |zero=>intro ls r d h;simp only[qb,injEq,Prod.mk.injEq]at h;obtain⟨rfl,rfl⟩:=h;simp
 |succ n b =>
 intro ls r d h;cases ls with
 |nil=>simp[qb]at h
 |cons l ls =>
 unfold qb at h;split at h;cases h;rename_i t c;obtain⟨p,f,e⟩:=Al.1 h;cases e;intro u a;obtain rfl|a:=Am.1 a;exact⟨l,by simp,c⟩;obtain⟨m,hm,q⟩:=b (r:=p.1) (d:=p.2) f u a;exact⟨m,by simp[hm],q⟩
variable {ls:List Ln}
def Zx4{r:List Ln}{d:zt}(h:wu ls=some (r,d)):d.length<=ls.length/\∀t∈d,∃l∈ls,jL l=some t:=by unfold wu at h;split at h;cases h;split at h;cases h;have h1:=Vl h;refine⟨by simp;omega,λt a=>?_⟩;obtain⟨m,hm,q⟩:=Zx3 h t a;exact⟨m,by simp[hm],q⟩
def Zx5:∀{ls r:List Ln} {p:zG},qp n ls=some (r,p)->∀d∈p,d.length<=ls.length/\∀t∈d,∃l∈ls,jL l=some t:=by
 induction n with
 |zero=>intro ls r d h;simp only[qp,injEq,Prod.mk.injEq]at h;obtain⟨rfl,rfl⟩:=h;simp
 |succ n f =>
 intro ls r p h;unfold qp at h;split at h;cases h;rename_i q b;obtain⟨c,g,e⟩:=Al.1 h;cases e;intro d a;obtain rfl|a:=Am.1 a;exact Zx4 (r:=q.1) b;obtain⟨h1,h2⟩:=f (r:=c.1) (p:=c.2) g d a;obtain⟨s1,s2⟩:=En (r:=q.1) (d:=q.2) b;refine⟨by omega,λt i=>?_⟩;obtain⟨m,hm,e⟩:=h2 t i;exact⟨m,s1 m hm,e⟩
def FF{p:zG}(h:jZ ls=some p)(hs:LnsSz ls):PlanTold p:=by unfold jZ at h;split at h;cases h;rename_i l r;split at h;cases h;rename_i n f;split at h;rename_i q c;cases h;have h1:=vh c;have h2:=Zx5 c;have h3:=hs.1;simp only[Ae,Aj]at h1 h3;refine⟨by omega,λd a=>by have:=(h2 d a).1;omega,λd a t b=>?_,λd a t b=>?_⟩;obtain⟨m,hm,e⟩:=(h2 d a).2 t b;have:=(FE e).1;have:=hs.2 m (by simp[hm]);omega;obtain⟨m,hm,e⟩:=(h2 d a).2 t b;exact(FE e).2;cases h
theorem lm:∀(ls:List Ln),(qH ls).1.length+(qH ls).2.length=ls.length/\(∀l∈(qH ls).2,l∈ls)/\∀z∈(qH ls).1,0<=z/\z<=1000000000000000000
 |[]=>by simp[qH]
 |l::r=>by have h:=lm r;rw[qH];split;refine⟨by simp;omega,λm hm=>BR _ (h.2.1 m hm),λz a=>?_⟩;obtain rfl|a:=Am.1 a;exact FD _;exact h.2.2 z a;simp
variable {q:List Ln}
theorem LnsSz.sub(h:LnsSz ls)(h1:∀l∈q,l∈ls)(h2:q.length<=ls.length):LnsSz q:=⟨by have:=h.1;omega,λl hl=>h.2 l (h1 l hl)⟩
variable {r:Rep}
def FG(h:Zc ls=some r)(hs:LnsSz ls):r.out=4/\RepTold r:=by unfold Zc at h;split at h;cases h;split at h;cases h;rename_i p a;cases h;obtain⟨c,d,e⟩:=lm (ls.drop 4);rw[A7]at c;have h1:=hs.1;have b:=λl:Ln=>FD (l.getD (l.length-1) []);refine⟨rfl,⟨by have:=b (ls.getD 1 []);simp only[vg];omega,by have:=b (ls.getD 2 []);simp only[vg];omega,by have:=b (ls.getD 3 []);simp only[vg];omega,by simp only;omega,λz f=>by have:=e z f;omega,?_⟩⟩;exact FF a (hs.sub (λl hl=>By (d l hl)) D9)
def lq(l:Ln)(a:l≠[])(hl:l.length<=1048576):∃u tl,List.drop (l.length-1) ((l.map bs).flatMap enc)=enc (bs u)++tl/\vg l=zO u/\u∈l/\i64.wrap ((l.length:Int)-1)=(l.length:Int)-1/\((l.length:Int)-1).toNat=l.length-1/\1<=(l.length:Int)/\(l.length:Int)-1<l.length/\l.length-1<l.length:=by have h0:0<l.length:=Bt.2 a;obtain⟨u,tl,b,c⟩:=XZ l (l.length-1) D9;refine⟨u,tl,c,?_,Ab b,wr _ D9 D9,by omega,by omega,by omega,by omega⟩;unfold vg;rw[Aa,b];rfl
theorem FH:∀(ls:List Ln),∃M,ls=M++(qH ls).2
 |[]=>⟨[],rfl⟩
 |l::r=>by obtain⟨M,h⟩:=FH r;rw[qH];split;exact⟨l::M,by simp[<-h]⟩;exact⟨[],rfl⟩
def Zx6(t:List UInt8)(hl:t.length<=1048576)(d0:∀ls,yO t=some ls->LnsSz ls):PP 44 [T (bs t)] (.tup [.agg (Vh (vG t).1),B (vG t).2]):=by
 have f:=kI t hl;cases hz:yO t with
 |none =>
 rw[hz]at f;simp only[vX]at f;have x:vG t=(br,false):=by unfold vG;rw[hz]
 rw[x];refine c9 func44 λS nx hd=>?_;intro v0;refine EJ ?_;refine zu f ?_
 refine ze (aF [(2,23)] zz ?_);refine aD ?_;refine EJ ?_;refine z8 0 4 rfl rfl ?_;refine z8 0 5 rfl rfl ?_;exact zj (zm hd EB (by simp[zr]))
 |some ls =>
 rw[hz]at f;simp only[vX]at f;have h:=eu hz hl;have hs:=d0 ls hz;have a5:=(JT _ (Ag _) hz);have x:vG t=match Zc ls with|none=>(br,false)|some r=>(r,decide (zV (j9 r)=t)):=by simp only[vG,hz]<;>rfl
 by_cases h4:ls.length<4
 .have d1:vG t=(br,false):=by rw[x];unfold Zc;rw[if_pos h4]
  have d2:(ls.length:Int)<4:=D9
  rw[d1];refine c9 func44 λS nx hd=>?_;intro v0;refine EJ ?_;refine zu f ?_
  refine ze (aF [(2,23)] (zq d2 h4) ?_);refine aD ?_;refine EJ ?_;refine z8 0 4 rfl rfl ?_;refine z8 0 5 rfl rfl ?_;exact zj (zm hd EB (by simp[zr]))
 obtain⟨l0,y,l2,z,q0,rfl⟩:∃l0 y l2 z q0,ls=l0::y::l2::z::q0:=by
  rcases ls with _|⟨l0,_|⟨y,_|⟨l2,_|⟨z,q0⟩⟩⟩⟩
  all_goals first|exact⟨_,_,_,_,_,rfl⟩|(simp at h4)
 have a6:=h.tl.tl.tl.tl;have g5:=a6.n;have n4:¬(q0.length:Int)+1+1+1+1<4:=D9
 obtain⟨u1,g6,f1,e1,m1,w1,z1,y1,x1,p1⟩:=lq y (h.ne y EA) (h.l y EA).1;obtain⟨u2,g7,f2,e2,m2,w2,z2,y2,x2,p2⟩:=lq l2 (h.ne l2 EA) (h.l l2 EA).1;obtain⟨u3,g8,f3,e3,m3,w3,z3,y3,x3,p3⟩:=lq z (h.ne z EA) (h.l z EA).1;have d3:=bg u1 ((h.l y EA).2 u1 m1);have d4:=bg u2 ((h.l l2 EA).2 u2 m2);have d5:=bg u3 ((h.l z EA).2 u3 m3);have s1:i64.wrap 1=1:=rfl;have s2:i64.wrap 2=2:=rfl;have s3:i64.wrap 3=3:=rfl;have i1:(1:Int)<(q0.length:Int)+1+1+1+1:=D9
 have i2:(2:Int)<(q0.length:Int)+1+1+1+1:=D9
 have i3:(3:Int)<(q0.length:Int)+1+1+1+1:=D9
 have i4:(4:Int)<=(q0.length:Int)+1+1+1+1:=D9
 have a7:Zc (l0::y::l2::z::q0)=match jZ (qH q0).2 with|none=>none|some p=>some ⟨4,zO u1,zO u2,zO u3,(qH q0).1,p⟩:=by
  unfold Zc;rw[if_neg h4]
  show (match jZ (qH q0).2 with|none=>none|some p=>some (⟨4,vg y,vg l2,vg z,(qH q0).1,p⟩:Rep))=_
  rw[e1,e2,e3]
 rw[a7]at x;have d6:=eh q0;generalize zO u1=b1 at *;generalize zO u2=b2 at *;generalize zO u3=b3 at *;obtain⟨V,d7⟩:∃V,V=vG t:=⟨_,rfl⟩;rw[<-d7]at x ⊢;refine c9 func44 λS nx hd=>?_;intro v0;refine EJ ?_;refine zu f ?_
 refine ze (aF [(2,23)] n4 ?_);refine aC (EJ ?_);intro v1
 refine ze (EJ ?_);refine zn (zF (λk:Nat=>k<=3) (λk=>[(0,T (bs t)),(2,.ptr nx v0 0),(4,L (wl (l0::y::l2::z::q0))),(6,.ptr (nx+1) v1 0),(33,.lst 3 [.ptr (nx+1) v1 1,.ptr (nx+1) v1 2,.ptr (nx+1) v1 3]),(34,I 3),(35,I k)]) (λk=>[.cells v0 33 [I 0,I 0,I 0,I 0,yi,yi],.cells v1 33 [I 4,I (if 0<k then b1 else 0),I (if 1<k then b2 else 0),I (if 2<k then b3 else 0),yi,yi]]) (λk=>3-k) 0 [] EA EA EA ?_);rintro k hk
 (try simp only at hk ⊢)
 have d8:k=0\/k=1\/k=2\/k=3:=D9
 obtain rfl|rfl|rfl|rfl:=d8
 .refine EJ ?_;refine ze (aD ?_);refine zk (aA (EJ ?_));refine aF [] (zq i1 s1) ?_;refine zi [] (zN w1 z1 y1 x1 p1 f1) ?_;refine zu d3 ?_;refine zg ?_;exact zv 1 [] D9 D9 (by simp[s1]) rfl EA
 .refine EJ ?_;refine ze (aD ?_);refine zk (aA (EJ ?_));refine aF [] (zq i2 s2) ?_;refine zi [] (zN w2 z2 y2 x2 p2 f2) ?_;refine zu d4 ?_;refine zg ?_;exact zv 2 [] D9 D9 (by simp[s2]) rfl EA
 .refine EJ ?_;refine ze (aD ?_);refine zk (aA (EJ ?_));refine aF [] (zq i3 s3) ?_;refine zi [] (zN w3 z3 y3 x3 p3 f3) ?_;refine zu d5 ?_;refine zg ?_;exact zv 3 [] D9 D9 (by simp[s3]) rfl EA
 refine EJ ?_;refine ze (aE ?_);refine zB (qj 1 4 3 1 rfl rfl λv2=>?_);simp only[AM,AR,cons_append,AK,Ae,Aj];refine aF [] (zq i4 d6) ?_
 show PW _ _ _ _ _ _ _ (ext _ _ _)
 refine sv (A:=∀(q:List Ln) (ds:List Int) (w:Nat),BkOk q->qH q0=(ds,q)->ds.length<=1048576->PW prog jM 0 119 ?tl ?Q2 (fr [(0,T (bs t)),(2,.ptr nx v0 0),(6,.ptr (nx+1) v1 0),(10,L (wl q))]) (ext S nx [.cells v0 33 [I 0,I 0,I 0,I 0,yi,yi],.cells v1 33 [I 4,I b1,I b2,I b3,.sl (nx+2) w 1 0 ds.length,yi],.cells w 3 (ds.flatMap enc)])) ?h2 ?h1
 case h2 =>
  intro a0;refine aA (zF (λs:List Ln × List Int × Nat=>BkOk s.1/\qH q0=(s.2.1++(qH s.1).1,(qH s.1).2)/\s.2.1.length+s.1.length<=q0.length) (λ(q,ds,w)=>[(0,T (bs t)),(2,.ptr nx v0 0),(6,.ptr (nx+1) v1 0),(10,L (wl q))]) (λ(q,ds,w)=>[.cells v0 33 [I 0,I 0,I 0,I 0,yi,yi],.cells v1 33 [I 4,I b1,I b2,I b3,.sl (nx+2) w 1 0 ds.length,yi],.cells w 3 (ds.flatMap enc)]) (λs=>s.1.length) (q0,[],v2) [] ⟨a6,by simp,by simp⟩ EA EA ?_);rintro⟨q,ds,w⟩ ⟨hq,u,a8⟩;simp only at hq u a8 ⊢;obtain _|⟨l,q⟩:=q
  .repeat apply ze
   refine zi [(3,63),(10,70)] zz ?_;refine aE ?_;refine zB ?_;refine Y2 _ ?_ (a0 [] ds w hq (by rw[u];simp[qH]) D9);simp
  have j0:(0:Int)<(q.length:Int)+1:=D9
  have d9:(l.length=3->l.getD 0 []≠qG)->qH q0=(ds,l::q):=λe=>by
   rw[u,qH,if_neg (λh=>e h.1 h.2)];simp
  have a2:=λe=>a0 (l::q) ds w hq (d9 e) D9
  have e0:=hq.l l EA
  by_cases h3:l.length=3
  .obtain⟨a,b,c,rfl⟩:∃a b c,l=[a,b,c]:=by
    rcases l with _|⟨a,_|⟨b,_|⟨c,_|⟨d,l⟩⟩⟩⟩
    all_goals first|exact⟨_,_,_,rfl⟩|(simp at h3)
   by_cases ha:a=qG
   .subst ha;have k1:yq .eql (bs qG) ⟨#[100,97,121]⟩=some (.bool true):=X0 _;have e4:=bg c (e0.2 c EA);have g1:(0:Int)<=(q.length:Int)+1:=D9
    have g2:(1:Int)<=(q.length:Int)+1:=D9
    have e5:=eh q
    refine ze (aF [(3,63),(10,70)] (zq j0 k1) ?_);refine aD ?_;refine zk (zn (aF [] j0 ?_));refine zu e4 ?_;refine zC (some []) (Row.pures [0,2,3,5,6] (.alt 1 (.alt 4 (Row.pures [7] (.alt 8 U4 .stop)) .stop) .stop)) (zD g1 g2 e5) ?_;refine⟨by omega,?_⟩;exact zv (q,ds++[zO c],w+1) [] ⟨hq.tl,by rw[u,qH,if_pos ⟨rfl,rfl⟩];simp,by simp at a8 ⊢;omega⟩ EA EA rfl EA
   have k1:yq .eql (bs a) ⟨#[100,97,121]⟩=some (.bool false):=Vi (Z2 ha)
   refine ze (aF [(3,63),(10,70)] (zq j0 k1) ?_);refine aE ?_;refine zB ?_;refine Y2 _ ?_ (a2 (λ_=>ha));simp
  have e6:¬(l.length:Int)=3:=D9
  refine ze (aF [(3,63),(10,70)] (zM j0 h3 e6 zz) ?_);refine aE ?_;refine zB ?_;refine Y2 _ ?_ (a2 (λe=>absurd e h3));simp
 case h1 =>
  intro q ds w hq u g9;refine yc 2 rfl ?_;refine EJ ?_;intro v3;rw[u]at x;simp only at x;obtain⟨M,hM⟩:=FH q0;rw[u]at hM;simp only at hM;have e7:t=zV [l0,y,l2,z]++(zV M++zV q):=by rw[<-a5.1,hM,<-XW,<-XW];rfl
  have a9:(zV q).length<=1048576:=by rw[e7]at hl;simp only[length_append]at hl;omega
  have e8:yO (zV q)=some q:=aJ hq.ne (λl e9 w hw=>a5.2.2 l (by rw[hM];simp[e9]) w hw);have i:=Zwv (zV q) a9;rw[e8,CI]at i
  by_cases he:q=[]
  .subst he;have f4:jZ []=none:=rfl;rw[f4]at i x;simp only[Qw,zV]at i x
   refine ze (EJ ?_);refine zn (zF (λk:Nat=>k=0) (λ_=>[(0,T (bs t)),(2,.ptr nx v0 0),(6,.ptr (nx+1) v1 0),(13,.ptr (nx+3) v3 0),(96,I 0),(97,I 0)]) (λ_=>[.cells v0 33 [I 0,I 0,I 0,I 0,yi,yi],.cells v1 33 [I 4,I b1,I b2,I b3,.lst ds.length (ds.flatMap enc),yi],.dead,.cells v3 79 [.sc (.pointer none),yi]]) (λk=>k) 0 [] rfl EA EA ?_);rintro k rfl;refine EJ ?_;refine ze (aE ?_);refine zB ?_
   refine ze (EJ ?_);refine λj=>((Zx2 (id:=nx+3) (v:=v3) (p:=.sc (.pointer none)) (by rw[zZ];rfl)).mono ?_).v
   rintro _ _ ⟨rfl,rfl⟩;refine⟨_,_,rfl,zS j ?_⟩;refine zu i ?_;refine EJ ?_;refine aD ?_;refine EJ ?_;refine z8 0 4 rfl rfl ?_;refine z8 0 5 rfl rfl ?_;exact zj (zm hd EB (by simp[zr,x]))
  have g4:=hq.n;obtain⟨Z,hZ⟩:∃Z,Z=zV q:=⟨_,rfl⟩;rw[<-hZ]at a9 i;have f5:∀(S:Store) (nx vb wx:Nat) (pp:PV) (l m:List UInt8),l.length+m.length<=Z.length->S (nx+3)=.cells vb 79 [pp,.sl (nx+4) wx 1 0 l.length]->(pp=.sc (.pointer none)\/pp=.ptr (nx+3) vb 0)->S (nx+4)=.cells wx 5 (l.map U8)->_:=λS nx vb wx pp l m hl h1 hp h2=>dZ (S:=S) (id:=nx+3) (v:=vb) (ib:=nx+4) (w0:=wx) (p:=pp) l m h1 hp h2 D9
  refine qj 3 1 5 1 rfl rfl λwb=>?_
  refine ze (EJ ?_);refine zn (zF (λs:Nat × Nat × List UInt8 × PV=>s.1<=q.length/\Z=s.2.2.1++zV (q.drop s.1)/\(s.2.2.2=.sc (.pointer none)\/s.2.2.2=.ptr (nx+3) v3 0)) (λ(k,w,c,pp)=>[(0,T (bs t)),(2,.ptr nx v0 0),(6,.ptr (nx+1) v1 0),(13,.ptr (nx+3) v3 0),(95,L (wl q)),(96,I q.length),(97,I k)]) (λ(k,w,c,pp)=>[.cells v0 33 [I 0,I 0,I 0,I 0,yi,yi],.cells v1 33 [I 4,I b1,I b2,I b3,.lst ds.length (ds.flatMap enc),yi],.dead,.cells v3 79 [pp,.sl (nx+4) w 1 0 c.length],.cells w 5 (c.map U8)]) (λs=>q.length-s.1) (0,wb,[],.sc (.pointer none)) [] ⟨Bx _,by simpa using hZ,.inl rfl⟩ EA EA ?_);rintro⟨k,w,c,pp⟩ ⟨hk,hc,b7⟩;simp only at hk hc b7 ⊢;refine EJ ?_;refine ze (zA rfl (λo=>?_) (λo=>?_))
  .simp at o;obtain⟨l,a3⟩:∃l,q[k]?=some l:=⟨_,Ac o⟩;have a4:q.drop k=l::q.drop (k+1):=by rw[AG o];rw[Ac o]at a3;rw[inj a3]
   obtain⟨g,tl,a1,-,-,f0⟩:=zH rfl (wl q) k (by simpa using o);obtain rfl:g=l.map bs:=by rw[Ai,a3]at a1;exact(inj a1).symm
   have b8:=Ab a3;have f6:=bh b8;have f7:=XU l (hq.l l b8).1 (by rw[<-hZ]at f6;omega);have c6:Z=(c++(zW l++[10]))++zV (q.drop (k+1)):=by rw[hc,a4,ZX];simp
   generalize zW l++[10]=l9 at *;have f8:c.length+l9.length<=Z.length:=by rw[c6];simp
   refine zk (aA (aF [] (zq f0 o) ?_));refine zg ?_;refine zu f7 ?_;refine λj=>((f5 _ nx v3 w pp c l9 f8 (by rw[zZ];rfl) b7 (by rw[zZ];rfl)).mono ?_).v
   rintro _ _ ⟨rfl,rfl⟩;refine⟨_,_,eG,zS j ?_⟩;refine zg ?_;exact zv (k+1,w+1,c++l9,.ptr (nx+3) v3 0) [] ⟨o,c6,.inr rfl⟩ D9 (by simp[zy k D9]) rfl EA
  simp at o;obtain rfl:k=q.length:=D9
  rw[Bh]at hc;have f9:c=Z:=by rw[hc];simp[zV]
  subst f9;have c7:c≠[]:=by
   intro e;rw[e]at hZ;obtain _|⟨l,q⟩:=q
   .exact he rfl
   rw[ZX]at hZ;simp at hZ
  refine zB ?_;cases hb:jZ q with
  |none =>
  rw[hb]at i x;simp only[Qw]at i x
  refine ze (EJ ?_);refine λj=>((aY (id:=nx+3) (v:=v3) (ib:=nx+4) (w0:=w) (p:=pp) c (by rw[zZ];rfl) (by rw[zZ];rfl) c7 D9).mono ?_).v
  rintro _ _ ⟨rfl,rfl⟩;rw[yu _ D9 EA];refine⟨_,_,rfl,zS j ?_⟩;refine zu i ?_;refine EJ ?_;refine aD ?_;refine EJ ?_;refine z8 0 4 rfl rfl ?_;refine z8 0 5 rfl rfl ?_;exact zj (zm hd EB (by simp[zr,x]))
  |some p =>
  rw[hb]at i x;simp only[Qw]at i x;have g0:Zc (l0::y::l2::z::q0)=some ⟨4,b1,b2,b3,ds,p⟩:=by rw[a7,u];simp only;rw[hb]
  have g3:PP 9 [.agg [I 4,I b1,I b2,I b3,.lst ds.length (ds.flatMap enc),L p]] (T (bs (zV (j9 ⟨4,b1,b2,b3,ds,p⟩)))):=FB ⟨4,b1,b2,b3,ds,p⟩ rfl (FG g0 hs).2;generalize zV (j9 ⟨4,b1,b2,b3,ds,p⟩)=X at *;have c8:yq .eql (bs X) (bs t)=some (.bool (decide (X=t))):=by
   by_cases e:X=t
   .subst e;rw[X0];simp
   rw[Vi (Z2 e)];simp[e]
  refine ze (EJ ?_);refine λj=>((aY (id:=nx+3) (v:=v3) (ib:=nx+4) (w0:=w) (p:=pp) c (by rw[zZ];rfl) (by rw[zZ];rfl) c7 D9).mono ?_).v
  rintro _ _ ⟨rfl,rfl⟩;rw[yu _ D9 EA];refine⟨_,_,rfl,zS j ?_⟩;refine zu i ?_;refine EJ ?_;refine aC (aG (some [nx+1]) Rs c8 ?_);refine zK (g3) c8 ?_;exact zj (zm hd EB (by simp[zr,x]))
def Jk(x:Inst)(r:Rep):Bool:=decide (xJ x r.Z=0/\r.cost=qW x r.Z/\r.Y=W (qe x r.Z x.y.length)/\r.days=yX x r.Z/\0<=r.ac/\r.ac<=r.cost)
def eI(x:Inst)(ls:List Ln):Bool:=match Zc ls with
 |none=>false
 |some r=>decide (j9 r=ls)&&Jk x r
def Jl(x:Inst)(p:zG)(ls:List Ln)(d:Nat):Bool:=decide (ls.getD (4+d) []=[qG,zQ d,zJ ((yX x p).getD d 0)])
def Wb(x:Inst)(n:Nat)(ls:List Ln):Bool :=
 if ls.length<4+n\/ls.getD 0 []≠[jE,qn] then false else
 match qf xX (ls.getD 1 []),qf Za (ls.getD 2 []),qf Zb (ls.getD 3 []) with
 |some b,some c,some h=>(match jZ (ls.drop (4+n)) with
  |none=>false
  |some p=>decide (xJ x p=0)&&(range n).all (Jl x p ls)&&decide ((b:Int)<=c/\(c:Int)=qW x p/\(h:Int)=W (qe x p x.y.length)))
 |_,_,_=>false
def Zx7(w:Wd):zO w<=1000000000000000000:=by
 unfold zO;cases h:yt w with
 |none=>simp
 |some n=>have:=Qk h;simp;omega
def Jm(ds:List Int):(xA ds).length=ds.length:=by simp[xA]
def FI{ds:List Int}(h:d<ds.length)(r:List Ln):(xA ds++r).getD d []=[qG,zQ d,zJ (ds.getD d 0)]:=by rw[Aa,Au (by rw[Jm];exact h)];simp[xA,h]
def FJ(ds:List Int):∀l∈xA ds,l.length=3/\l.getD 0 []=qG:=by intro l hl;obtain⟨i,-,rfl⟩:=Ak.1 hl;exact⟨rfl,rfl⟩
def Zx8(ds:List Int)(p:zG):(qH (xA ds++qS p)).2=qS p:=by rw[kG _ _ (FJ ds)];show (qH (qS p)).2=_;unfold qS;rw[vL _ rfl]
def FK(h:Zc ls=some r):4<=ls.length/\jZ (qH (ls.drop 4)).2=some r.Z/\r.out=4/\r.ac=vg (ls.getD 1 [])/\r.cost=vg (ls.getD 2 [])/\r.Y=vg (ls.getD 3 [])/\r.days=(qH (ls.drop 4)).1:=by unfold Zc at h;split at h;cases h;split at h;cases h;rename_i a;cases h;exact⟨by omega,a,rfl,rfl,rfl,rfl,rfl⟩
def lr(l:Ln):0<=vg l/\vg l<=1000000000000000000:=⟨bb _,Zx7 _⟩
def lu{w:Wd}(h:0<=z/\z<=1000000000000000000):qf w [w,zJ z]=some z.toNat:=by show (if w=w then _ else _)=_;rw[if_pos rfl];exact ub h.1 h.2
def FL{x:Inst}{p:zG}(hc:x.y.length<=900)(j:p.length<=1000)(h:xJ x p=0):
  (0<=qW x p/\qW x p<900000000000000000)/\(0<=W (qe x p x.y.length)/\W (qe x p x.y.length)<900000000000000000)/\(∀z∈yX x p,0<=z/\z<1000000000000000000)/\∀d∈p,∀t∈d,∀s∈t,J2 s:=by
 obtain⟨hm,-,g,-⟩:=aS h;obtain⟨-,-,i,-⟩:=Vs (Zg hm).J;have f:∀c∈x.y,CustSm c:=λc hc=>by obtain⟨k,a,b,l,r1,r2,r3,r4,r5⟩|⟨k,q,s,t,u,ho,e,v⟩:=Vr ((Zg hm).ai c hc);exact⟨by omega,by omega,by omega⟩;exact⟨by omega,by omega,by omega⟩
 have w:=dS f p x.y.length;have m:=tG i f hc j g;have n:=dT i p λd q=>by have:=Qq hc (g d q);omega
 have y:W (qe x p x.y.length)=qe x p x.y.length:=wr _ D9 D9;refine⟨by omega,by omega,λz o=>?_,λd q t r s hs=>?_⟩;obtain⟨d,q,rfl⟩:=Ak.1 o;have:=Qq hc (g d q);have h3:=cY i d;have:W (yl x d)=yl x d:=wr _ D9 D9;omega;have:=W4 (g d q) s (BA.2 ⟨t,r,hs⟩);simp[jx]at this;unfold J2;omega
def Zx9{x:Inst}(hn:(n:Int)=x.days)(a0:n<=1000)(hc:x.y.length<=900)(hl:ls.length<1000000000000000000)(hw:∀l∈ls,l.length<1000000000000000000):eI x ls=Wb x n ls:=by
 rw[Dm];constructor;intro h;unfold eI at h;split at h;cases h;rename_i r hr;simp only[Ar,decide_eq_true_eq,Jk]at h;obtain⟨hW,j,h1,h2,h3,h4,h5⟩:=h;obtain⟨q1,q2,q3,q4,q5,q6,q7⟩:=FK hr;obtain⟨-,m,-,-⟩:=aS j;have b1:=lr (ls.getD 1 []);have b2:=lr (ls.getD 2 []);have b3:=lr (ls.getD 3 []);rw[<-q4]at b1;rw[<-q5]at b2;rw[<-q6]at b3;have f:r.days.length=n:=by rw[h3];unfold yX;rw[length_map];omega
 have a:ls=[jE,qn]::[xX,zJ r.ac]::[Za,zJ r.cost]::[Zb,zJ r.Y]::(xA r.days++qS r.Z):=by rw[<-hW];unfold j9;rw[q3];rfl
 have o:ls.drop (4+n)=qS r.Z:=by rw[a,<-f,<-Jm r.days];show ([jE,qn]::[xX,zJ r.ac]::[Za,zJ r.cost]::[Zb,zJ r.Y]::(xA r.days++qS r.Z)).drop (4+_)=_;rw[<-List.drop_drop];exact List.drop_left
 have s:jZ (qS r.Z)=some r.Z:=by
  have:(qH (ls.drop 4)).2=qS r.Z:=by rw[a];exact Zx8 _ _
  rw[this]at q2;exact q2
 unfold Wb;rw[if_neg (by rw[a];simp only[Ae,length_append,Jm,Ds,ne_eq,not_true_eq_false,or_false];omega)];have t:qf xX (ls.getD 1 [])=some r.ac.toNat:=by rw[a];exact lu b1
 have w2:qf Za (ls.getD 2 [])=some r.cost.toNat:=by rw[a];exact lu b2
 have u:qf Zb (ls.getD 3 [])=some r.Y.toNat:=by rw[a];exact lu b3
 rw[t,w2,u,o,s];simp only[Ar,decide_eq_true_eq,Av,AI];refine⟨⟨j,λd hd=>?_⟩,by omega,by omega,by omega⟩;unfold Jl;rw[decide_eq_true_eq,a,<-h3];rw[Nat.add_comm 4 d];exact FI (ds:=r.days) D9 _;intro h;unfold Wb at h;split at h;cases h;rename_i h0;rw[not_or,Decidable.not_not]at h0;obtain⟨h0,v⟩:=h0;split at h;rename_i b c g t w2 u;split at h;cases h;rename_i p hb;simp only[Ar,decide_eq_true_eq,Av,AI]at h;obtain⟨⟨j,hD⟩,h1,h2,h3⟩:=h;obtain⟨-,m,-,-⟩:=aS j;obtain⟨c1,c2,c3,c4⟩:=FL hc D9 j;obtain⟨a1,e1,f1⟩:=Vk t;obtain⟨a2,e2,f2⟩:=Vk w2;obtain⟨a3,e3,f3⟩:=Vk u;have f:(yX x p).length=n:=by unfold yX;rw[length_map];omega
 have w:=UU hb (by rw[A7];omega) (λl q=>hw l (By q)) c4;have e:ls.drop 4=xA (yX x p)++ls.drop (4+n):=by apply A3;intro i;by_cases hi:i<n;rw[Au (by rw[Jm];omega),AL];have:=hD i hi;unfold Jl at this;rw[decide_eq_true_eq,Aa]at this;rw[Ac (show 4+i<ls.length by omega)]at this ⊢;simp only[Option.getD_some]at this;rw[this];have:=FI (ds:=yX x p) (d:=i) D9 [];rw[Ay,Aa,Ac (show i<(xA (yX x p)).length by rw[Jm];omega)]at this;rw[Ac (show i<(xA (yX x p)).length by rw[Jm];omega)];simp only[Option.getD_some]at this;rw[this];rw[Ao (by rw[Jm];omega),AL,AL,Jm,f];congr 1;omega
 have a:ls=ls.getD 0 []::ls.getD 1 []::ls.getD 2 []::ls.getD 3 []::ls.drop 4:=by
  match ls,h0 with
  |_::_::_::_::l,_=>rfl
 have y:qH (ls.drop 4)=(yX x p,ls.drop (4+n)):=by
  obtain⟨b',r',z⟩:=UV hb;rw[e,kG _ _ (FJ _),z,vL _ rfl,Ay];congr 1;unfold xA;rw[B3];apply A3;intro i;rw[Ai];by_cases hi:i<(yX x p).length;rw[Bg hi,Ac hi];have hz:=c3 _ (AY hi);have:(yX x p).getD i 0=(yX x p)[i]:=by rw[Aa,Ac hi];rfl
  simp only[AU,Function.comp_apply,List.getD_cons_succ,Ds];rw[this];unfold zO;rw[ub hz.1 D9];simp;omega;rw[An (by simpa using hi),An (by simpa using hi)];rfl
 have v1:vg (ls.getD 1 [])=b:=by rw[e1];show zO a1=_;unfold zO;rw[f1];rfl
 have v2:vg (ls.getD 2 [])=c:=by rw[e2];show zO a2=_;unfold zO;rw[f2];rfl
 have v3:vg (ls.getD 3 [])=g:=by rw[e3];show zO a3=_;unfold zO;rw[f3];rfl
 unfold eI Zc;rw[if_neg D9,y];simp only;rw[hb];simp only[Ar,decide_eq_true_eq,Jk];rw[v1,v2,v3];have dI:∀k:Nat,zJ (k:Int)=zQ k:=λk=>by unfold zJ;first|rfl|simp
 refine⟨?_,j,h2,h3,trivial,by omega,h1⟩;have hR:j9 ⟨4,(b:Int),(c:Int),(g:Int),yX x p,p⟩=[jE,qn]::[xX,zJ b]::[Za,zJ c]::[Zb,zJ g]::(xA (yX x p)++qS p):=rfl;rw[hR,dI,dI,dI,Vj f1 D9,Vj f2 D9,Vj f3 D9,w,<-e,<-v,<-e1,<-e2,<-e3];exact a.symm;cases h
def bt(l:Ln)(hl:l.length<=1048576)(j:∀w∈l,w.length<=1099511627776):PP 90 [L (l.map bs)] (jT (yD l)):=by
 obtain⟨zs,d⟩:∃zs:List Int,zs=l.map zO:=⟨_,rfl⟩;have m:zs.length=l.length:=by rw[d,length_map]
 have a0:(l.map bs).length=l.length:=EA;have o:∀(k:Nat) (w:List UInt8),l[k]?=some w->zs[k]?=some (zO w)/\(l.map bs)[k]?=some (bs w):=λk n e=>⟨by rw[d,Ai,e];rfl,by rw[Ai,e];rfl⟩;have f:(∀w∈l,(yt w).isSome=true)->yD l=some zs:=λh=>by rw[Vf h,d]
 generalize l.map bs=ws at *;refine c9 func90 λS nx y=>?_;refine EJ ?_;refine qa 4 3 1 rfl λw0=>?_;refine ze (EJ ?_);refine zn (zF (λs:Nat × Nat=>s.1<=zs.length/\∀w∈l.take s.1,(yt w).isSome=true) (λ(k,w)=>[(0,L ws),(4,.sl nx w 1 0 k),(5,I k)]) (λ(k,w)=>[.cells w 3 ((zs.take k).flatMap enc)]) (λs=>zs.length-s.1) (0,w0) [] EA EA EA ?_);rintro⟨k,w⟩ ⟨hk,b⟩;simp only at hk b ⊢;refine ze (EJ ?_);refine zA rfl (λhc=>?_) (λhc=>?_)
 .simp at hc;obtain⟨u,c⟩:∃u,l[k]?=some u:=⟨_,Ac D9⟩;obtain⟨g1,z⟩:=o k u c;obtain⟨t,tl,b1,b2,b3,f0⟩:=zH rfl ws k hc;obtain rfl:t=bs u:=by rw[b1]at z;exact inj z
  have a:=tZ u (j u (Ab c));refine zk (aA ?_);cases g:yt u with
  |none =>
  rw[g]at a;simp only[YN]at a;refine aF [] (zq f0 hc) ?_;refine zu a ?_;refine ze (EJ ?_);refine aD ?_;refine EJ ?_;exact zj (zm y EB (by rw[ku c g];rfl))
  |some n =>
  rw[g]at a;simp only[YN]at a;have p:zO u=n:=by unfold zO;rw[g];rfl
  rw[p]at g1;have r:((zs.take k).flatMap enc:List PV).length=k:=by rw[jV];simp;omega
  have v:List.take k ((zs.take k).flatMap enc:List PV)=(zs.take k).flatMap enc:=Ad (by rw[r];exact Ag _);have x:(zs.take (k+1)).flatMap enc=(zs.take k).flatMap enc++[I n]:=by rw[Ax,g1,Ap];rfl
  have i:∀w∈l.take (k+1),(yt w).isSome=true:=by rw[Ax,c];intro w j;obtain q|q:=AC.1 j;exact b w q;simp at q;subst q;rw[g];rfl
  refine aF [] (zq f0 hc) ?_;refine zu a ?_;refine ze (EJ ?_);refine aC (zi [] v ?_);refine⟨by omega,?_⟩;refine zg ?_;exact zv (k+1,w+1) [] ⟨by omega,i⟩ ED (by simp[zy k D9]) rfl (by simp only[x,Ay])
 simp at hc;obtain rfl:k=zs.length:=D9;rw[m,Ah]at b;rw[Ah,f b];refine zB (yc 0 rfl ?_);refine EJ ?_;exact EK y
def Zya(w:Wd):(range 64).map (λi=>if i<w.length/\w.getD i 0=49 then (1:Int) else 0)=qy (xy w w.length):=by
 unfold qy;refine AQ λi hi=>?_;have a:=AI.1 hi;have h1:=aV w i w.length;rw[W0]at h1;have h2:=Wy (xy w w.length) i;by_cases h:i<w.length/\w.getD i 0=49;rw[if_pos h];have e:(decide (i<w.length/\i<64)&&decide (w.getD i 0=49))=true:=by simp only[Ar,decide_eq_true_eq];exact⟨⟨h.1,a⟩,h.2⟩
 rw[e,decide_eq_true_eq]at h1;rw[h1];rfl;rw[if_neg h];have e:(decide (i<w.length/\i<64)&&decide (w.getD i 0=49))=false:=by rw[Db];by_cases q:i<w.length;exact .inr (decide_eq_false λe=>h ⟨q,e⟩);exact .inl (decide_eq_false λe=>q e.1)
 rw[e,decide_eq_false_iff_not]at h1;have:yR (xy w w.length) i=0:=D9;rw[this];rfl
def Zyb(h:n<2^64):xF (qy n)=(n:Int):=by
 have a:∀b∈qy n,b=0\/b=1:=λb hb=>by obtain⟨i,-,rfl⟩:=Ak.1 hb;have:=Wy n i;omega
 have h1:=cB _ a;have h2:=iD _ a;have:(xF (qy n)).toNat=n:=by
  apply Dg;intro i;rw[h2 i];by_cases hi:i<64;have:(qy n)[i]?=some ((yR n i:Nat):Int):=by unfold qy;simp[hi]
  rw[this,W0];rw[decide_eq_decide];constructor;intro h;have:=inj h;omega;intro h;rw[h];rfl;have:(qy n)[i]?=none:=An (by rw[Jw];omega);rw[this];rw[Cw (Br h (BS EG D9))];simp
 omega
def Zyc(l:List Int)(k:Nat)(z:Int):((l.flatMap enc:List PV)).set k (I z)=(l.set k z).flatMap enc:=by
 induction l generalizing k with
 |nil=>rfl
 |cons a l b =>
 cases k with
 |zero=>rfl
 |succ k=>simpa using b k
def vp(w:Wd)(k:Nat):List Int:=(range 64).map λi=>if i<k/\w.getD i 0=49 then (1:Int) else 0
def Zyd{w:Wd}{c:UInt8}(h:w[k]?=some c)(f:k<64)(hc:c.toNat=48\/c.toNat=49):(vp w k).set k ((c.toNat:Int)-48)=vp w (k+1):=by
 have d:w.getD k 0=c:=by rw[Aa,h];rfl
 apply A8;simp[vp];intro i h1 h2;rw[CJ];by_cases e:k=i;subst e;rw[if_pos rfl];simp only[vp,Cj,Cn,d];obtain q|q:=hc;rw[if_neg (by rintro⟨-,e⟩;rw[e]at q;exact absurd q EG)];omega;have:c=49:=UInt8.toNat_inj.1 q;rw[if_pos ⟨by omega,this⟩];omega;rw[if_neg e];simp only[vp,Cj,Cn];have:(i<k/\w.getD i 0=49)<->(i<k+1/\w.getD i 0=49):=by constructor<;>(rintro⟨a,b⟩;exact⟨by omega,b⟩)
 simp only[this]
def Zye(w:Wd)(hl:w.length<=1048576):PP 133 [T (bs w)] (.tup [U (jg w).1,I (jg w).2]):=by
 by_cases m:w=[];subst m;have he:bs []=ByteArray.empty:=rfl;refine c9 func133 λS nx n=>?_;refine ze (aF [] he ?_);refine aD ?_;refine EJ ?_;exact EK n;have a4:¬w.length=0:=λh=>m (As h);obtain⟨B,hB⟩:∃B,B=bs w:=⟨_,rfl⟩;have f:B.size=w.length:=by rw[hB,xK]
 have hg:∀k,B[k]?=w[k]?:=λk=>by rw[hB];exact XX w k
 rw[<-hB];refine c9 func133 λS nx n=>?_;refine ze (aF [] f ?_);refine zp (by simp[m]) ?_;refine zk ?_;refine ze (EJ ?_);refine zn (zF (λk:Nat=>k<=w.length/\∀c∈w.take k,c.toNat=48\/c.toNat=49) (λk=>[(0,T B),(4,I k)]) (λ_=>[]) (λk=>w.length-k) 0 [] EA EA EA ?_);rintro k ⟨hk,v⟩;refine ze (aF [] f ?_);refine zA rfl (λhc=>?_) (λhc=>?_);simp at hc;obtain⟨c,a⟩:∃c,w[k]?=some c:=⟨_,Ac hc⟩;have g:=(hg k).trans a;refine zk (aA ?_);by_cases h3:c.toNat=48;have o:(c.toNat:Int)=48:=D9;refine aF [(4,20)] (zM g h3 o zz) ?_;refine zp (by simp[*]) ?_;refine zk ?_;have r:∀d∈w.take (k+1),d.toNat=48\/d.toNat=49:=by rw[Ax,a];intro d n;obtain q|q:=AC.1 n;exact v d q;simp at q;subst q;exact .inl h3
 refine zg ?_;exact zv (k+1) [] ⟨hc,r⟩ D9 (by simp[zy k D9]) rfl EA;have o:¬(c.toNat:Int)=48:=D9;by_cases h4:c.toNat=49;have s:(c.toNat:Int)=49:=D9;refine aF [(4,20)] (yp g h3 o h4 s) ?_;refine zp (by simp[*]) ?_;refine zk ?_;have r:∀d∈w.take (k+1),d.toNat=48\/d.toNat=49:=by rw[Ax,a];intro d n;obtain q|q:=AC.1 n;exact v d q;simp at q;subst q;exact .inr h4
 refine zg ?_;exact zv (k+1) [] ⟨hc,r⟩ D9 (by simp[zy k D9]) rfl EA;have s:¬(c.toNat:Int)=49:=D9;refine aF [(4,20)] (yp g h3 o h4 s) ?_;refine zo (by simp[*]) ?_;refine EJ ?_;have j:jg w=(0,2):=by
  have:jS w=false:=by unfold jS;rw[Db];exact .inr (Bl.2 ⟨c,Ab a,by simp;omega⟩)
  unfold jg;rw[if_neg (by rw[this];simp)]
 exact zj (zm n EB (by rw[j];rfl));simp at hc;obtain rfl:k=w.length:=D9;rw[Ah]at v;have x:jS w=true:=by unfold jS;simp only[Ar,decide_eq_true_eq,Av];exact⟨m,λc hc=>by simpa using v c hc⟩
 refine zB ?_;by_cases p:64<w.length;have j:jg w=(0,3):=by unfold jg;rw[if_pos x,if_pos p]
 refine ze (aF [] (zq f p) ?_);refine zo (by simp[*];try omega) ?_;refine EJ ?_;exact zj (zm n EB (by rw[j];rfl));have j:jg w=(xy w w.length,0):=by unfold jg;rw[if_pos x,if_neg p]
 have t:=nf (vp w w.length) (by simp[vp]) (λb hb=>by obtain⟨i,-,rfl⟩:=Ak.1 hb;split<;>simp);have a0:xF (vp w w.length)=(xy w w.length:Int):=by show xF ((range 64).map _)=_;rw[Zya];exact Zyb (aW w _)
 rw[a0]at t;rw[j];generalize xy w w.length=st at *
 refine ze (aF [] (zq f p) ?_);refine zp (by simp[*];try omega) ?_;refine zk (EJ ?_);intro v0;repeat apply ze
 refine zg ?_;refine zn (zF (λk:Nat=>k<=w.length) (λk=>[(0,T B),(5,.sl nx v0 1 0 64),(6,I k)]) (λk=>[.cells v0 3 ((vp w k).flatMap enc)]) (λk=>w.length-k) 0 [] EA EA (by simp[vp,qr];try rfl) ?_);rintro k a5;repeat apply ze
 refine zi [] f ?_;refine zA rfl (λhc=>?_) (λhc=>?_);simp at hc;obtain⟨c,a⟩:∃c,w[k]?=some c:=⟨_,Ac hc⟩;have g:=(hg k).trans a;have a1:=v c (Ab a);have y:=Zyd a D9 a1;have l:k<64:=D9;have w2:IntKind.u8.wrap ((c.toNat:Int)-48)=(c.toNat:Int)-48:=by
  have e:IntKind.u8.wrap ((c.toNat:Int)-48)=((c.toNat:Int)-48)%256:=by simp[IntKind.wrap,IntKind.bits,IntKind.signed]
  rw[e];omega
 have w3:W ((c.toNat:Int)-48)=(c.toNat:Int)-48:=by simp only[W,AD];omega
 have z:((vp w k).flatMap enc:List PV).length=64:=by rw[jV];simp[vp]
 have a2:yr ((vp w k).flatMap enc:List PV) k [I ((c.toNat:Int)-48)]=(vp w (k+1)).flatMap enc:=by rw[<-y,<-Zyc];unfold yr;rw[AE,if_pos (by rw[z];exact l)];simp
 refine zk (aA ?_);have u:(k:Int)<64:=D9;have a6:k+1<=64:=l;refine zi [] (zN g w2 w3 l u (zq z a2)) ?_;refine⟨by simp[vp];omega,?_⟩;refine zg ?_;exact zv (k+1) [] hc D9 (by simp[zy k D9]) rfl rfl;simp at hc;obtain rfl:k=w.length:=D9;refine zB (yc 0 rfl ?_);have a3:PV.lst 64 ((vp w w.length).flatMap enc)=L (vp w w.length):=by show _=PV.lst (vp w w.length).length _;simp[vp]
 rw[<-a3]at t;refine EJ ?_;refine zu t ?_;exact EK n
abbrev FM:Cust:=⟨0,0,[],0,0,0,0,0⟩
def QD(n:Int)(ps:Ln):Bool:=ps.all λw=>decide (w.length<=64/\(w.length:Int)=n)
def ZB(n:Int)(l:Ln):Bool:=match l with
 |w::_::ps=>if w=qQ then QD n ps else true
 |_=>true
def YT(n:Int)(l:Ln):PV:=match qE n l with
 |none=>.tup [.agg (yf FM),B false,B false]
 |some (c,_)=>.tup [.agg (yf c),B true,B (ZB n l)]
def Zyf(w:Wd):yD [w]=(yt w).map (λn:Nat=>[(n:Int)]):=by unfold yD zO;cases h:yt w<;>simp[h]
variable {ps:Ln}
def Zyg{n:Int}{w:Wd}(h:ps[k]?=some w):QD n (ps.take (k+1))=(QD n (ps.take k)&&decide (w.length<=64/\(w.length:Int)=n)):=by unfold QD;rw[Ax,h];simp
def Zyh{w:Wd}(h:(jg w).2=2):jS w=false:=by
 unfold jg at h;cases hs:jS w with
 |false=>rfl
 |true=>rw[if_pos hs]at h;split at h<;>simp at h
def Zyi{w:Wd}(h:¬(jg w).2=2):jS w=true/\(jg w).1=qM w/\((jg w).2=0<->w.length<=64):=by
 unfold jg at h ⊢;unfold qM;cases hs:jS w with
 |false=>rw[hs]at h;exact absurd rfl h
 |true =>
 simp only[if_true];split<;>simp<;>omega
def Zyj(dw:Wd)(ps:Ln)(n:Int)(v:dw.length<=1048576)(hl:ps.length<=1048576)(hp:∀w∈ps,w.length<=1048576):PP 91 [L ((qQ::dw::ps).map bs),I n] (YT n (qQ::dw::ps)):=by
 have a:=bt [dw] EA (by intro w hw;simp at hw;subst hw;omega);rw[Zyf]at a;have hv:yq .eql (bs qQ) ⟨#[118,105,115,105,116]⟩=some (.bool true):=X0 _;have x:qE n (qQ::dw::ps)=YJ n (dw::ps):=by simp[qE]
 have y:ZB n (qQ::dw::ps)=QD n ps:=by simp[ZB]
 unfold YT;rw[x,aU,y];clear x y;have z:L ([dw].map bs)=.lst 1 [T (bs dw)]:=rfl;rw[z]at a;have f:(0:Int)<(ps.length:Int)+1+1:=D9;have g:(2:Int)<=(ps.length:Int)+1+1:=D9;cases hz:yt dw with
 |none =>
 rw[hz]at a;simp only[Dq,jT,CV,AW,false_and,if_false]at a ⊢;refine c9 func91 λS nx v=>?_;intro v0;refine ze (aF [(4,23)] (zD hv f g) ?_);refine aD ?_;refine aF [] (zq f g) ?_;refine zu a ?_;refine ze (EJ ?_);refine aD ?_;refine EJ ?_;refine z8 0 2 rfl rfl ?_;exact EK v
 |some dn =>
 have a5:zO dw=dn:=by unfold zO;rw[hz];rfl
 rw[hz]at a;simp only[AU,jT]at a;have a6:L [(dn:Int)]=.lst 1 [I dn]:=rfl;rw[a6]at a;obtain⟨o,ho⟩:∃o,o=(if (some dn).isSome=true/\(ps.all jS)=true then some (Z1 dw ps,ps.all λw=>decide ((w.length:Int)=n)) else none):=⟨_,rfl⟩;rw[<-ho];obtain⟨ws,i⟩:∃ws,ws=(qQ::dw::ps).map bs:=⟨_,rfl⟩;have a7:ws.length=ps.length+2:=by rw[i];simp
 have z:L ((qQ::dw::ps).map bs)=L ws:=by rw[i]
 have a8:∀k (p:Wd),ps[k]?=some p->ws[k+2]?=some (bs p):=λk p h=>by rw[i];simp[h]
 refine c9 func91 λS nx v=>?_;intro v0;refine ze (aF [(4,23)] (zD hv f g) ?_);refine aD ?_;refine aF [] (zq f g) ?_;refine zu a ?_;refine ze (EJ ?_);refine aC (EJ ?_);intro v1;refine qj 1 2 65 1 rfl rfl λw0=>?_;refine EJ ?_;refine ze (EJ ?_);refine zn (zF (λs:Nat × Nat=>s.1<=ps.length/\(ps.take s.1).all jS=true) (λ(k,w)=>[(0,L ws),(1,I n),(4,.ptr nx v0 0),(9,.ptr (nx+1) v1 0),(10,B (QD n (ps.take k))),(11,I ((k+2:Nat):Int))]) (λ(k,w)=>[.cells v0 59 [I 0,I 0,yi,I 0,I 0,I 0,I 0,I 0],.cells v1 59 [I 1,I dn,.sl (nx+2) w 1 0 k,I 0,I 0,I 0,I 0,I 0],.cells w 65 (((ps.map qM).take k).flatMap enc)]) (λs=>ps.length-s.1) (0,w0) [] EA (by simp[i,QD]) (by simp[qr]) ?_);rintro⟨k,w⟩ ⟨hk,c⟩;simp only at hk c ⊢;refine ze (aF [] a7 ?_);refine zA rfl (λhc=>?_) (λhc=>?_);simp at hc;have a0:k<ps.length:=D9;obtain⟨p,d⟩:∃p,ps[k]?=some p:=⟨_,Ac a0⟩;have a1:=Ab d;obtain⟨t,tl,b1,b2,b3,f0⟩:=zH rfl ws (k+2) D9;obtain rfl:t=bs p:=by rw[a8 k p d]at b1;exact(inj b1).symm
 have j:=Zye p (hp p a1);have a2:=xK p;have l:(k:Int)+2<ws.length:=D9;have m:(0:Int)<=(k:Int)+2:=D9;have q:((k:Int)+2).toNat=k+2:=D9;have b:k+2<ws.length:=D9;refine zk (aA ?_);by_cases he:(jg p).2=2;have a3:=Zyh he;have r:o=none:=by rw[ho,if_neg];rintro⟨-,h⟩;have:=Av.1 h p a1;rw[a3]at this;cases this
 rw[he]at j;refine aF [] (yp f0 l b q m) ?_;refine zu j ?_;refine ze (EJ ?_);refine aD ?_;refine EJ ?_;refine z8 0 2 rfl rfl ?_;exact zj (zm v EB (by rw[r];rfl));obtain⟨q1,q2,q3⟩:=Zyi he;rw[q2]at j;have a9:=Zyg (n:=n) d;have b7:(((ps.map qM).take k).flatMap enc:List PV).length=k:=by rw[ju];simp[Enc.sz];omega
 have b8:List.take k (((ps.map qM).take k).flatMap enc:List PV)=((ps.map qM).take k).flatMap enc:=Ad (by rw[b7];exact Ag _);have c6:(((ps.map qM).take (k+1)).flatMap enc:List PV)=((ps.map qM).take k).flatMap enc++[U (qM p)]:=by rw[Ax,Ai,d,Ap];rfl
 have c7:i64.wrap ((k:Int)+2+1)=(k:Int)+1+2:=by rw[AD];omega
 have a4:(ps.take (k+1)).all jS=true:=by rw[Ax,d];simp at c ⊢;exact⟨c,q1⟩
 have d0:¬(2:Int)=(jg p).2:=λe=>he e.symm;generalize ((ps.map qM).take k).flatMap enc=pc at *;generalize qM p=sw at *;generalize (jg p).2=ee at *;refine aF [] (yp f0 l b q m) ?_;refine zu j ?_;refine ze (EJ ?_);refine zp (by simp[he]) ?_;refine aB (qg (nx:=nx) (σ:=Bool) (λt=>t=QD n (ps.take (k+1))) (λt=>[(0,L ws),(1,I n),(4,.ptr nx v0 0),(9,.ptr (nx+1) v1 0),(10,B t),(11,I ((k+2:Nat):Int)),(12,U sw)]) (λ_=>S) (λ_=>[.cells v0 59 [I 0,I 0,yi,I 0,I 0,I 0,I 0,I 0],.cells v1 59 [I 1,I dn,.sl (nx+2) w 1 0 k,I 0,I 0,I 0,I 0,I 0],.cells w 65 pc]) ?_ ?_)
 .rw[a9];cases hb:QD n (ps.take k) with
  |false =>
  refine zi [(1,59),(5,63)] zz ?_;exact zY false [] rfl EA rfl EA
  |true =>
  by_cases h0:ee=0;have u:=q3.1 h0;by_cases hn:(p.length:Int)=n;refine zi [(1,59),(5,63)] (zN f0 l b q m (zD h0 a2 hn)) ?_;exact zY true [] (by simp[u,hn]) EA rfl EA;refine zi [(1,59),(5,63)] (zN f0 l b q m (zD h0 a2 hn)) ?_;exact zY false [] (by simp[hn]) EA rfl EA;have u:¬p.length<=64:=λh=>h0 (q3.2 h);refine zi [(1,59),(5,63)] (zq h0 zz) ?_;exact zY false [] (by simp[u]) EA rfl EA
 rintro t rfl;refine zi [] b8 ?_;refine⟨by omega,?_⟩;refine zg ?_;exact zv (k+1,w+1) [] ⟨a0,a4⟩ D9 (by simp[c7]) rfl (by simp only[c6,Ay]);simp at hc;obtain rfl:k=ps.length:=D9;rw[Ah]at c;rw[Ah];have r:o=some (Z1 dw ps,ps.all λw=>decide ((w.length:Int)=n)):=by rw[ho,if_pos ⟨rfl,c⟩]
 refine zB ?_;have c8:(ps.map qM).take ps.length=ps.map qM:=Ad EA;rw[c8];refine yc 2 EF ?_;refine EJ ?_;exact zj (zm v EB (by rw[r];simp[Z1,a5]))
def eJ{n:Int}{l:Ln}(h:qE n l=none):YT n l=.tup [.agg (yf FM),B false,B false]:=by unfold YT;rw[h]
def uE{w v:Wd}(h:w≠v):yq .eql (bs w) (bs v)=some (.bool false)/\yq .neq (bs w) (bs v)=some (.bool true):=⟨Vi λe=>h (J3.1 e),Zd λe=>h (J3.1 e)⟩
def Zyk(a b c r h:Wd)(n:Int)(ha:∀w∈[a,b,c,h],w.length<=1048576):PP 91 [L ((xx::[a,b,c,r,h]).map bs),I n] (YT n (xx::[a,b,c,r,h])):=by
 have hv:yq .eql (bs xx) ⟨#[118,105,115,105,116]⟩=some (.bool false):=(uE (v:=qQ) EG).1;have t:yq .neq (bs xx) ⟨#[116,97,110,107]⟩=some (.bool false):=xe _;have f:=bt [a,b,c] EA (λw u=>by have:=ha w (by simp at u ⊢;obtain q|q|q:=u<;>simp[q]);omega);have i:=bt [h] EA (λw u=>by have:=ha w (by simp at u ⊢;simp[u]);omega);have a0:L ([a,b,c].map bs)=.lst 3 [T (bs a),T (bs b),T (bs c)]:=rfl;have a1:L ([h].map bs)=.lst 1 [T (bs h)]:=rfl;have a2:L ((xx::[a,b,c,r,h]).map bs)=.lst 6 [T (bs xx),T (bs a),T (bs b),T (bs c),T (bs r),T (bs h)]:=rfl;rw[a0]at f;rw[a1]at i;rw[a2];have j:qE n (xx::[a,b,c,r,h])=(Zw [a,b,c,r,h]).map (·,true):=rfl;rw[dU]at j;by_cases l:r=vf\/r=uB
 .have x:(yq .neq (bs r) ⟨#[102,105,108,108]⟩=some (.bool false))\/(yq .neq (bs r) ⟨#[102,105,108,108]⟩=some (.bool true)/\yq .neq (bs r) ⟨#[97,110,121]⟩=some (.bool false)):=by by_cases q:r=vf;exact .inl (by rw[q];exact xe _);obtain o|o:=l;exact absurd o q;exact .inr ⟨(uE (v:=vf) q).2,by rw[o];exact xe _⟩
  have y:∃p q,jT (yD [a,b,c])=.tup [p,B q]:=by cases yD [a,b,c]<;>exact⟨_,_,rfl⟩
  have z:∃p q,jT (yD [h])=.tup [p,B q]:=by cases yD [h]<;>exact⟨_,_,rfl⟩
  by_cases d:(yD [a,b,c,h]).isSome=true
  .have h4:[a,b,c,h].all (λw=>(yt w).isSome)=true:=by unfold yD at d;split at d;assumption;cases d
   simp only[Cl,DW,Ar,CO]at h4;have e1:yD [a,b,c]=some [zO a,zO b,zO c]:=by unfold yD;rw[if_pos (by simp[h4])];rfl
   have e2:yD [h]=some [zO h]:=by unfold yD;rw[if_pos (by simp[h4])];rfl
   rw[e1]at f;rw[e2]at i;simp only[jT]at f i;have hA:L [zO a,zO b,zO c]=.lst 3 [I (zO a),I (zO b),I (zO c)]:=rfl;have hH:L [zO h]=.lst 1 [I (zO h)]:=rfl;rw[hA]at f;rw[hH]at i;rw[if_pos ⟨d,l⟩]at j;have m:YT n (xx::[a,b,c,r,h])=.tup [.agg (yf ⟨2,0,[],zO a,zO b,zO c,Qr r,zO h⟩),B true,B true]:=by unfold YT;rw[j];rfl
   rw[m];have a3:(Qr r=1/\yq .eql (bs r) ⟨#[97,110,121]⟩=some (.bool false))\/(Qr r=2/\yq .eql (bs r) ⟨#[97,110,121]⟩=some (.bool true)):=by by_cases q:r=vf;exact .inl ⟨if_pos q,by rw[q];exact(uE (v:=uB) EG).1⟩;obtain o|o:=l;exact absurd o q;exact .inr ⟨if_neg q,by rw[o];exact X0 _⟩
   generalize Qr r=ru at *;generalize zO a=za at *;generalize zO b=zb at *;generalize zO c=zc at *;generalize zO h=zh at *;clear j m e1 e2 hA hH l ha y z d h4;refine c9 func91 λS nx s=>?_;intro v0;refine ze (aF [(4,23)] (zq hv zz) ?_);refine aC ?_;obtain k|⟨k,f2⟩:=x;rotate_left;refine ze (aF [(4,84),(9,89),(14,94)] (zM t k f2 zz) ?_);refine aE ?_;rotate_left;refine ze (aF [(4,84),(9,89),(14,94)] (zD t k zz) ?_);refine aE ?_;all_goals
    refine zk (EJ ?_);refine zu f ?_;refine EJ ?_;refine zu i ?_;refine ze (aF [(2,116)] zz ?_);refine aC (aG (some []) Ra n' ?_);intros;obtain⟨rfl,g⟩|⟨rfl,g⟩:=a3;refine ze (aF [] g ?_);refine aC (z8 1 2 rfl rfl ?_);refine EJ ?_;exact EK s;refine ze (aF [] g ?_);refine aD ?_;refine zg ?_;refine z8 1 2 rfl rfl ?_;refine EJ ?_;exact EK s
  have e:qE n (xx::[a,b,c,r,h])=none:=by rw[j,if_neg (λq=>d q.1)];rfl
  rw[eJ e];obtain⟨p1,b1,g1⟩:=y;obtain⟨p2,b2,g2⟩:=z;have hb:b1=false\/b2=false:=by
   by_cases h1:[a,b,c].all (λw=>(yt w).isSome)=true;right;have:yD [h]=none:=by unfold yD;rw[if_neg];intro h2;apply d;unfold yD;rw[if_pos (by simp at h1 h2 ⊢;exact⟨h1.1,h1.2.1,h1.2.2,h2⟩)];rfl
   rw[this]at g2;cases g2;rfl;left;have:yD [a,b,c]=none:=by unfold yD;rw[if_neg h1]
   rw[this]at g1;cases g1;rfl
  rw[g1]at f;rw[g2]at i;clear j e l ha d;refine c9 func91 λS nx s=>?_;intro v0;refine ze (aF [(4,23)] (zq hv zz) ?_);refine aC ?_;obtain k|⟨k,f2⟩:=x;rotate_left;refine ze (aF [(4,84),(9,89),(14,94)] (zM t k f2 zz) ?_);refine aE ?_;rotate_left;refine ze (aF [(4,84),(9,89),(14,94)] (zD t k zz) ?_);refine aE ?_;all_goals
   refine zk (EJ ?_);refine zu f ?_;refine EJ ?_;refine zu i ?_;cases b1;refine ze (aF [(2,116)] zz ?_);refine aD ?_;refine EJ ?_;refine z8 0 2 rfl rfl ?_;exact EK s;obtain rfl:b2=false:=by simpa using hb
   refine ze (aF [(2,116)] zz ?_);refine aD ?_;refine EJ ?_;refine z8 0 2 rfl rfl ?_;exact EK s
 have e:qE n (xx::[a,b,c,r,h])=none:=by rw[j,if_neg (λq=>l q.2)];rfl
 rw[eJ e];have k:yq .neq (bs r) ⟨#[102,105,108,108]⟩=some (.bool true):=(uE (v:=vf) λq=>l (.inl q)).2;have f2:yq .neq (bs r) ⟨#[97,110,121]⟩=some (.bool true):=(uE (v:=uB) λq=>l (.inr q)).2;refine c9 func91 λS nx s=>?_;intro v0;refine ze (aF [(4,23)] (zq hv zz) ?_);refine aC ?_;refine ze (aF [(4,84),(9,89),(14,94)] (zM t k f2 zz) ?_);refine aD ?_;refine EJ ?_;refine z8 0 2 rfl rfl ?_;exact EK s
def FN(w:Wd)(ls:Ln)(n:Int)(hl:ls.length<=1048576)(h1:w=qQ->ls=[])(h2:w=xx->ls.length≠5):PP 91 [L ((w::ls).map bs),I n] (YT n (w::ls)):=by
 have b:qE n (w::ls)=none:=by
  show (if w=qQ then YJ n ls else if w=xx then (Zw ls).map (·,true) else none)=none;split;rename_i h;rw[h1 h];rfl;split;rename_i h;have:Zw ls=none:=by have e:=h2 h;unfold Zw;split;simp at e;rfl
  rw[this];rfl;rfl
 rw[eJ b];have a:(0:Int)<(ls.length:Int)+1:=D9;have f:yq .eql (bs qQ) ⟨#[118,105,115,105,116]⟩=some (.bool true):=X0 _;by_cases g:w=qQ;rw[h1 g,g];have c:yq .neq (bs qQ) ⟨#[116,97,110,107]⟩=some (.bool true):=(uE (v:=xx) EG).2;refine c9 func91 λS nx d=>?_;intro v0;refine ze (aF [(4,23)] f ?_);refine aC ?_;refine ze (aF [(4,84),(9,89),(14,94)] (zq c zz) ?_);refine aD ?_;refine EJ ?_;refine z8 0 2 rfl rfl ?_;exact EK d;have hv:yq .eql (bs w) ⟨#[118,105,115,105,116]⟩=some (.bool false):=(uE (v:=qQ) g).1;by_cases i:w=xx;have e:=h2 i;have c:yq .neq (bs w) ⟨#[116,97,110,107]⟩=some (.bool false):=by rw[i];exact xe _
 have k:¬(ls.length:Int)+1=6:=D9;have l:¬(6:Int)=(ls.length:Int)+1:=D9;have j:¬ls.length=5:=e;refine c9 func91 λS nx d=>?_;intro v0;refine ze (aF [(4,23)] (zD hv a zz) ?_);refine aC ?_;refine ze (aF [(4,84),(9,89),(14,94)] (yp c a k j zz) ?_);refine aD ?_;refine EJ ?_;refine z8 0 2 rfl rfl ?_;exact EK d;have c:yq .neq (bs w) ⟨#[116,97,110,107]⟩=some (.bool true):=(uE (v:=xx) i).2;refine c9 func91 λS nx d=>?_;intro v0;refine ze (aF [(4,23)] (zD hv a zz) ?_);refine aC ?_;refine ze (aF [(4,84),(9,89),(14,94)] (zD c a zz) ?_);refine aD ?_;refine EJ ?_;refine z8 0 2 rfl rfl ?_;exact EK d
def Zyl(l:Ln)(n:Int)(h0:l≠[])(hl:l.length<=1048576)(f:∀w∈l,w.length<=1048576):PP 91 [L (l.map bs),I n] (YT n l):=by
 match l,h0,hl,f with
 |w::ls,_,hl,f =>
 have g:ls.length<=1048576:=by rw[Ae]at hl;omega
 by_cases h1:w=qQ
 .subst h1
  match ls,g,f with
  |[],_,_=>exact FN _ _ n EA (λ_=>rfl) (λh=>by cases h)
  |d::ps,g,f=>exact Zyj d ps n (f d EA) (by rw[Ae]at g;omega) (λw h=>f w (by simp[h]))
 by_cases h2:w=xx/\ls.length=5
 .obtain⟨rfl,i⟩:=h2
  match ls,i,f with
  |[a,b,c,r,h],_,f=>exact Zyk a b c r h n λw q=>f w (by simp at q ⊢;obtain q|q|q|q:=q<;>simp[q])
 exact FN w ls n g (λe=>absurd e h1) λe j=>h2 ⟨e,j⟩
def QE(c:UInt8):Prop:=33<=c.toNat/\c.toNat<=126
instance (c:UInt8):Decidable (QE c):=inferInstanceAs (Decidable (_/\_))
def wO:List Ln->Ln->Wd->List UInt8->Option (List Ln)
 |out,line,cur,[]=>if cur=[]/\line=[] then some out else none
 |out,line,cur,c::t =>
  if c=32\/c=10 then
   if cur=[] then none else if c=10 then wO (out++[line++[cur]]) [] [] t else wO out (line++[cur]) [] t
  else if QE c then wO out line (cur++[c]) t else none
theorem eK(out:List Ln)(a:Ln)(cur:Wd):wO out a cur []=if cur=[]/\a=[] then some out else none:=rfl
theorem Vz(out:List Ln)(a:Ln)(cur:Wd)(c:UInt8)(t:List UInt8):wO out a cur (c::t)=if c=32\/c=10 then (if cur=[] then none else if c=10 then wO (out++[a++[cur]]) [] [] t else wO out (a++[cur]) [] t) else if QE c then wO out a (cur++[c]) t else none:=rfl
theorem FO{c:UInt8}{x:UInt8}:∀{l:List UInt8},x∈l->x≠c->∃w∈y9 c l,x∈w
 |a::l,h,hx=>by
  rw[iL];obtain rfl|h:=Am.1 h
  .rw[if_neg hx];cases y9 c l with
   |nil=>exact⟨[x],by simp,by simp⟩
   |cons p q=>exact⟨x::p,by simp,by simp⟩
  obtain⟨w,b,d⟩:=FO h hx;split;exact⟨w,by simp[b],d⟩;cases e:y9 c l with
  |nil=>rw[e]at b;simp at b
  |cons p q =>
  rw[e]at b;obtain rfl|b:=Am.1 b;exact⟨a::w,by simp,by simp[d]⟩;exact⟨w,by simp[b],d⟩
def FP{c:UInt8}(h:QE c):c≠32/\c≠10:=by constructor<;>(rintro rfl;exact absurd h EG)
def FQ{w:Wd}(h0:w≠[])(h:∀c∈w,QE c):uW w=true:=(uz w).2 ⟨h0,h⟩
theorem lw(b:List UInt8):∀(a:List UInt8) (out:List Ln) (f:Ln) (cur:Wd),10 ∉ a->(∀c∈cur,QE c)->wO out f cur (a++10::b)=if (y9 32 (cur++a)).all uW=true then wO (out++[f++y9 32 (cur++a)]) [] [] b else none
 |[],out,f,cur,_,hc=>by have j:(32:UInt8) ∉ cur:=λh=>(FP (hc _ h)).1 rfl;rw[Ay,iN j,AK,Vz,if_pos (.inr rfl)];simp only[Cl,DW,CO];by_cases h0:cur=[];rw[if_pos h0,if_neg];rw[h0];decide;rw[if_neg h0,if_pos trivial,if_pos (FQ h0 hc)]
 |c::a,out,f,cur,g,hc=>by rw[Am,not_or]at g;have j:(32:UInt8) ∉ cur:=λh=>(FP (hc _ h)).1 rfl;have i:c≠10:=λe=>g.1 e.symm;rw[cons_append,Vz];by_cases h:c=32;subst h;rw[if_pos (.inl rfl),if_neg i,iO a j];by_cases h0:cur=[];rw[if_pos h0,if_neg];rw[h0];simp[uW];rw[if_neg h0,lw b a out (f++[cur]) [] g.2 EA,AK];rw[Cl,FQ h0 hc,BP,append_assoc,Cy];rw[if_neg (by rintro(e|e);exact h e;exact i e)];by_cases m:QE c;rw[if_pos m,lw b a out f (cur++[c]) g.2 (by intro d o;rw[AC,AX]at o;obtain q|rfl:=o;exact hc d q;exact m)];rw[append_assoc,Cy];rw[if_neg m,if_neg];intro k;obtain⟨w,p,n⟩:=FO (c:=32) (x:=c) (l:=cur++c::a) EA h;have:=(uz w).1 (Av.1 k w p);exact m (this.2 c n)
theorem lA:∀(a:List UInt8) (out:List Ln) (b:Ln) (cur:Wd),10 ∉ a->(a≠[]\/cur≠[]\/b≠[])->wO out b cur a=none
 |[],out,b,cur,_,h=>by rw[eK,if_neg];rintro⟨rfl,rfl⟩;simp at h
 |c::a,out,b,cur,d,_=>by rw[Am,not_or]at d;have f:c≠10:=λe=>d.1 e.symm;rw[Vz];by_cases h:c=32;rw[if_pos (.inl h),if_neg f];split;rfl;exact lA a _ _ _ d.2 EA;rw[if_neg (by rintro(e|e);exact h e;exact f e)];split;exact lA a _ _ _ d.2 EA;rfl
def FR(n:Nat):∀(t:List UInt8) (out:List Ln),t.length<=n->wO out [] [] t=(yO t).map (out++·):=by
 induction n with
 |zero =>
 intro t out h;have:t=[]:=As D9;subst this;rw[W8];simp[wO]
 |succ n c =>
 intro t out h;by_cases h0:t=[];subst h0;rw[W8];simp[wO];cases hc:wJ 10 t with
 |none =>
 rw[lA t out [] [] (dF hc) (.inl h0)];unfold yO;rw[if_neg h0];split;rfl;rename_i h2;rw[hc]at h2;cases h2
 |some p =>
 obtain⟨a,b⟩:=p;obtain⟨d,e2⟩:=XM hc;have e:=iK hc;have f:yO t=if (y9 32 a).all uW=true then (yO b).map (y9 32 a::·) else none:=by
  conv=>lhs;unfold yO
  rw[if_neg h0];split;rename_i h2;rw[hc]at h2;cases h2;rename_i h2;rw[hc]at h2;cases h2;rfl
 rw[f];conv=>lhs;rw[d]
 rw[lw b a out [] [] e2 EA,AK,AK];split;rw[c b _ D9];cases yO b<;>simp;rfl
def xg(t:List UInt8)(a b:Nat):List UInt8:=(t.take b).drop a
def QF(t:List UInt8)(a:Nat):xg t a a=[]:=by unfold xg;rw[CD];simp;omega
variable {a:Nat}
def FSq{t:List UInt8}{c:UInt8}(h:t[b]?=some c)(d:a<=b):xg t a (b+1)=xg t a b++[c]:=by unfold xg;rw[Ax,h,BW];rfl;rw[AA];have:=(Af.1 h).1;omega
def lB{t:List UInt8}(h:b<=t.length):(xg t a b).length=b-a:=by unfold xg;simp;omega
def eL(t:List UInt8)(hl:t.length<=1048576):PP 20 [T (bs t)] (vX (yO t)):=by
 have a6:wO [] [] [] t=yO t:=by rw[FR t.length t [] (Ag _)];cases yO t<;>simp
 rw[<-a6];obtain⟨o,ho⟩:∃o,o=wO [] [] [] t:=⟨_,rfl⟩;rw[<-ho];clear a6;obtain⟨B,hB⟩:∃B,B=bs t:=⟨_,rfl⟩;have m:B.size=t.length:=by rw[hB,xK]
 have hg:∀k,B[k]?=t[k]?:=λk=>by rw[hB];exact XX t k
 have d4:∀a b,B.extract a b=bs (xg t a b):=λa b=>by rw[hB];exact XY t a b
 rw[<-hB];refine c9 func20 λS nx hd=>?_;refine EJ ?_;refine qa 4 52 1 rfl λw0=>?_;refine EJ ?_;refine qa 5 9 1 rfl λv0=>?_;refine EJ ?_;refine ze (EJ ?_);refine zn (zF (λs:Nat × Nat × Ln × List Ln × Nat × Nat=>(s.2.1<=s.1/\s.1<=t.length/\s.2.2.1.length<=s.1/\s.2.2.2.1.length<=s.1)/\o=wO s.2.2.2.1 s.2.2.1 (xg t s.2.1 s.1) (t.drop s.1)) (λ(i,fr,e,f,w,v)=>[(0,T B),(4,.sl nx w 1 0 f.length),(5,.sl (nx+1) v 1 0 e.length),(6,I fr),(7,I i)]) (λ(i,fr,e,f,w,v)=>[.cells w 52 ((wl f).flatMap enc),.cells v 9 ((e.map bs).flatMap enc)]) (λs=>t.length-s.1) (0,0,[],[],w0,v0) [] (by simp[ho,xg]) EA EA ?_);rintro⟨i,fr,e,f,w,v⟩ ⟨⟨h1,h2,h3,h4⟩,d⟩;simp only at h1 h2 h3 h4 d ⊢;refine ze (aF [] m ?_);refine zA rfl (λhc=>?_) (λhc=>?_)
 .simp at hc;obtain⟨c,u⟩:∃c,t[i]?=some c:=⟨_,Ac hc⟩;have d5:=(hg i).trans u;have d6:t.drop i=c::t.drop (i+1):=by rw[AG hc];rw[Ac hc]at u;cases u;rfl
  rw[d6,Vz]at d;have n:=zy i D9;have a7:=FSq u h1;refine zk (aA (aF [] d5 ?_));by_cases j:c=32\/c=10
  .rw[if_pos j]at d;have d7:(c.toNat:Int)=32\/(¬(c.toNat:Int)=32/\(c.toNat:Int)=10):=by obtain rfl|rfl:=j;exact .inl rfl;exact .inr ⟨by decide,rfl⟩
   have a2:c.toNat=10<->c=10:=⟨λh=>UInt8.toNat_inj.1 h,λh=>by rw[h];rfl⟩;clear j;obtain d1|⟨d1,d2⟩:=d7;rotate_left;have x:¬c.toNat=32:=D9;have a8:(c.toNat=10)=True:=eq_true D9;have z:=eq_true d2;refine ze (aF [(2,20)] (zM d1 x z a8) ?_);refine zp (by simp[a8,z]) ?_;rotate_left;have x:(c.toNat=32)=True:=eq_true D9;have a0:=eq_true d1;refine ze (aF [(2,20)] (zD a0 x zz) ?_);refine zp (by simp[x,a0]) ?_;all_goals
    refine zk ?_;by_cases a3:i=fr;subst a3;rw[QF,if_pos rfl]at d;refine ze (EJ ?_);refine aD ?_;refine EJ ?_;exact zj (zm hd EB (by rw[d];rfl));have f2:fr<i:=D9;have a1:¬(i:Int)=(fr:Int):=D9;have a4:xg t fr i≠[]:=λh=>by have:=congrArg List.length h;rw[lB D9]at this;simp at this;omega
    rw[if_neg a4]at d;have a9:=d4 fr i;have d8:((e.map bs).flatMap enc:List PV).length=e.length:=by rw[ju];simp[Enc.sz]
    have d9:List.take e.length ((e.map bs).flatMap enc:List PV)=(e.map bs).flatMap enc:=Ad (by rw[d8];exact Ag _);have e0:((e++[xg t fr i]).map bs).flatMap enc=(e.map bs).flatMap enc++[T (bs (xg t fr i))]:=by rw[map_append,Ap];rfl
    have b7:(e++[xg t fr i]).length=e.length+1:=EA;refine ze (aF [] (zq a3 a1) ?_);refine zp (by simp[a3,a1]) ?_;refine zk ?_;have e1:fr<=i:=h1;have e2:i<=B.size:=by rw[m];exact h2
    refine aF [] (zM e1 e2 a9 d9) ?_;refine⟨by omega,?_⟩;have e3:(e++[xg t fr i]).length<=i+1:=by rw[b7];omega
    rw[<-e0,<-b7];generalize e++[xg t fr i]=l1 at *;have f3:i64.wrap ((i:Int)+1)=((i+1:Nat):Int):=n;refine aF [] n ?_;by_cases l:c=10;have p:((c.toNat:Int)=10)=True:=eq_true (by rw[l];rfl);have g:(c.toNat=10)=True:=eq_true (a2.2 l);rw[if_pos l]at d;refine aF [] (zq p g) ?_;refine zo (by simp[p,g]) ?_;refine yc 1 rfl ?_;have e4:PV.lst l1.length ((l1.map bs).flatMap enc)=L (l1.map bs):=by unfold L;rw[length_map]
    have e5:((wl f).flatMap enc:List PV).length=f.length:=by rw[ju];simp[Enc.sz]
    have e6:List.take f.length ((wl f).flatMap enc:List PV)=(wl f).flatMap enc:=Ad (by rw[e5];exact Ag _);have e7:(wl (f++[l1])).flatMap enc=(wl f).flatMap enc++[L (l1.map bs)]:=by rw[wl,map_append,Ap];rfl
    have b8:(f++[l1]).length=f.length+1:=EA;refine aF [] (zq e4 e6) ?_;refine⟨by omega,?_⟩;rw[<-e7,<-b8];have c6:(f++[l1]).length<=i+1:=by rw[b8];omega
    generalize f++[l1]=o1 at *;refine zg ?_;refine fC [_] [.dead] rfl ?_;refine qa 5 9 1 rfl λv1=>?_;refine zg ?_;exact zv (i+1,i+1,[],o1,w+1,v1) [] ⟨⟨Ag _,hc,Bx _,c6⟩,by rw[d,QF]⟩ D9 (by simp[n]) rfl rfl;have p:¬(c.toNat:Int)=10:=λh=>l (a2.1 D9);have g:¬c.toNat=10:=λh=>l (a2.1 h);rw[if_neg l]at d;refine aF [] (zq p g) ?_;refine zp (by simp[p,g]) ?_;refine zk (zg ?_);exact zv (i+1,i+1,l1,f,w,v+1) [] ⟨⟨Ag _,hc,e3,Bq h4⟩,by rw[d,QF]⟩ D9 (by simp[n]) rfl rfl
  rw[if_neg j]at d;have n1:¬(c.toNat:Int)=32:=λh=>j (.inl (UInt8.toNat_inj.1 (by show c.toNat=32;omega)));have n2:¬(c.toNat:Int)=10:=λh=>j (.inr (UInt8.toNat_inj.1 (by show c.toNat=10;omega)));have e8:¬c.toNat=32:=D9;have e9:¬c.toNat=10:=D9;refine ze (aF [(2,20)] (zM n1 e8 n2 e9) ?_);refine zo (by simp[*]) ?_;by_cases y:QE c;rw[if_pos y]at d;obtain⟨g1,g2⟩:=y;have r:¬(c.toNat:Int)<33:=D9;have a5:¬126<(c.toNat:Int):=D9;have c7:¬c.toNat<33:=D9;have c8:¬126<c.toNat:=D9;refine ze (aF [(2,26)] (zM r a5 c7 c8) ?_);refine zp (by simp[*]) ?_;refine zk (zB (zg ?_));exact zv (i+1,fr,e,f,w,v) [] ⟨⟨Bq h1,hc,Bq h3,Bq h4⟩,by rw[d,a7]⟩ D9 (by simp[n]) rfl rfl;rw[if_neg y]at d;have hb:c.toNat<33\/(¬c.toNat<33/\126<c.toNat):=by unfold QE at y;omega
  obtain g1|⟨g1,g2⟩:=hb;have r:(c.toNat:Int)<33:=D9;refine ze (aF [(2,26)] (zD g1 r zz) ?_);refine zo (by simp[*]) ?_;refine EJ ?_;exact zj (zm hd EB (by rw[d];rfl));have r:¬(c.toNat:Int)<33:=D9;have a5:126<(c.toNat:Int):=D9;refine ze (aF [(2,26)] (zM g1 r g2 a5) ?_);refine zo (by simp[*]) ?_;refine EJ ?_;exact zj (zm hd EB (by rw[d];rfl))
 simp at hc;obtain rfl:i=t.length:=D9;rw[Bh,eK]at d;refine zB ?_;by_cases f0:fr<t.length;have a4:xg t fr t.length≠[]:=λh=>by have:=congrArg List.length h;rw[lB D9]at this;simp at this;omega
 have d0:(fr:Int)<(t.length:Int):=D9;rw[if_neg λq=>a4 q.1]at d;refine ze (aF [(4,52)] (zM m f0 d0 zz) ?_);refine aD ?_;refine EJ ?_;exact zj (zm hd EB (by rw[d];rfl));obtain rfl:fr=t.length:=D9;rw[QF]at d;by_cases h0:e=[];subst h0;rw[if_pos ⟨rfl,rfl⟩]at d;refine ze (aF [(4,52)] m ?_);refine aC (yc 0 rfl ?_);refine EJ ?_;exact zj (zm hd EB (by rw[d];simp[vX,L]));rw[if_neg λq=>h0 q.2]at d;have f1:0<e.length:=Bt.2 h0;have d3:(0:Int)<(e.length:Int):=D9;refine ze (aF [(4,52)] (zD m f1 d3) ?_);refine aD ?_;refine EJ ?_;exact zj (zm hd EB (by rw[d];rfl))
def YU(ls:List Ln):Bool:=vU (zR ls 1) [qY,qZ,q8,q9]&&vU (zR ls 2) [jd]
def lC(ls:List Ln):Ln:=[(zR ls 1).getD 1 [],(zR ls 1).getD 3 [],(zR ls 1).getD 5 [],(zR ls 1).getD 7 [],(zR ls 2).getD 1 []]
theorem Zym(ls:List Ln):vV ls=if zR ls 0=[j7,[49]]/\YU ls=true then
  match yD (lC ls) with
  |some [d,v,c,l,m] =>
  if (yF ls 3 m.toNat).all (λl=>(qE d l).isSome)=true/\zR ls (3+m.toNat)=[je]/\(yF ls (4+m.toNat) (m.toNat+1)).all (xz (m.toNat+1))=true/\ls.length=5+2*m.toNat then
   some (⟨d,v,c,l,(yF ls 3 m.toNat).map λl=>(xM d l).1,(yF ls (4+m.toNat) (m.toNat+1)).map λl=>l.map zO⟩,(yF ls 3 m.toNat).all λl=>(xM d l).2)
  else none
  |_=>none
 else none:=by
 unfold vV YU;by_cases h0:zR ls 0=[j7,[49]];rw[if_pos h0];simp only[h0,true_and,Ar];have j:∀a b c d e:Wd,yD [a,b,c,d,e]=(yD [a,b,c,d]).bind λz=>(yD [e]).map (z++·):=by intro a b c d e;unfold yD;by_cases g:[a,b,c,d].all (λw=>(yt w).isSome)=true;rw[if_pos g];by_cases f:[e].all (λw=>(yt w).isSome)=true;rw[if_pos f,if_pos (by simp at g f ⊢;simp[g,f])];rfl;rw[if_neg f,if_neg (by simp at g f ⊢;simp[g,f])];rfl;rw[if_neg g,if_neg (by simp at g ⊢;intro x1 x2 x3 x4;exact absurd x4 (by simpa using g x1 x2 x3))];rfl
 unfold lC;rw[j];unfold qD;by_cases n1:vU (zR ls 1) [qY,qZ,q8,q9]=true;rw[if_pos n1];have k:wh (zR ls 1) [qY,qZ,q8,q9].length=[(zR ls 1).getD 1 [],(zR ls 1).getD 3 [],(zR ls 1).getD 5 [],(zR ls 1).getD 7 []]:=rfl;have n:wh (zR ls 2) [jd].length=[(zR ls 2).getD 1 []]:=rfl;rw[k,n];by_cases h:vU (zR ls 2) [jd]=true;rw[if_pos h,if_pos ⟨n1,h⟩];unfold yD;split;rename_i x d v c l q;split at q;rename_i g;cases q;rw[if_pos g];split;rename_i x2 m f;split at f;rename_i i;cases f;rw[if_pos i];rfl;cases f;rename_i x2 f;split at f;exact absurd rfl (f _);rename_i i;rw[if_neg i];rfl;cases q;rename_i x q;split at q;exact absurd rfl (q _ _ _ _);rename_i g;rw[if_neg g];rfl;rw[if_neg h,if_neg (λq=>h q.2)];split<;>rfl;have:¬(vU (zR ls 1) [qY,qZ,q8,q9]=true/\vU (zR ls 2) [jd]=true):=λq=>n1 q.1;rw[if_neg n1,if_neg this];rw[if_neg h0,if_neg (λq=>h0 q.1)]
def lD{l:Ln}{w:Wd}:vU l [w]=true<->∃b,l=[w,b]:=by
 unfold vU;constructor
 .intro h;simp at h;obtain⟨h1,h2⟩:=h
  match l,h1 with
  |[a,b],_=>simp at h2;exact⟨b,by rw[h2]⟩
 rintro⟨b,rfl⟩;simp
def lE{l:Ln}{p q r s:Wd}:vU l [p,q,r,s]=true<->∃a b c d,l=[p,a,q,b,r,c,s,d]:=by
 unfold vU;constructor
 .intro h;simp only[Ar,decide_eq_true_eq,Av,AI]at h;obtain⟨h1,h2⟩:=h
  match l,h1 with
  |[a0,k,n,a3,a4,a5,o,m],_ =>
  have f:=h2 0 EA;have g:=h2 1 EA;have e2:=h2 2 EA;have j:=h2 3 EA;simp at f g e2 j;exact⟨k,a3,a5,m,by rw[f,g,e2,j]⟩
 rintro⟨a,b,c,d,rfl⟩;simp only[Ar,decide_eq_true_eq,Av,AI];refine⟨rfl,λi hi=>?_⟩;have e:i<4:=hi
 match i,e with
 |0,_=>rfl
 |1,_=>rfl
 |2,_=>rfl
 |3,_=>rfl
variable {g:Ln}
def Wc{f i:Ln}(h:¬((∃a b c d,f=[qY,a,qZ,b,q8,c,q9,d])/\∃m,ps=[jd,m])):true=!YU (g::f::ps::i::ls):=by
 cases e:YU (g::f::ps::i::ls) with
 |false=>rfl
 |true =>
 unfold YU at e;rw[Ar]at e;exact absurd ⟨lE.1 e.1,lD.1 e.2⟩ h
def Zyn{e f:Ln}{a b c d m:Wd}:false=!YU (e::[qY,a,qZ,b,q8,c,q9,d]::[jd,m]::f::ls):=by
 have:YU (e::[qY,a,qZ,b,q8,c,q9,d]::[jd,m]::f::ls)=true:=by unfold YU;rw[Ar];exact⟨lE.2 ⟨_,_,_,_,rfl⟩,lD.2 ⟨_,rfl⟩⟩
 rw[this];rfl
def Zyo{d:Int}{l:Ln}{c:Cust}{ok:Bool}(h:qE d l=some (c,ok))(a:d<=64):ZB d l=ok:=by
 match l,h with
 |w::ls,h =>
 have h':(if w=qQ then YJ d ls else if w=xx then (Zw ls).map (·,true) else none)=some (c,ok):=h;by_cases q:w=qQ
 .rw[if_pos q]at h'
  match ls,h' with
  |dw::ps,h' =>
  rw[aU]at h';split at h';cases h';unfold ZB;simp only[q,if_true];unfold QD;congr 1;funext p;rw[decide_eq_decide];omega;cases h'
 rw[if_neg q]at h';have hf:ZB d (w::ls)=true:=by unfold ZB;split;rename_i e;cases e;rw[if_neg q];rfl
 rw[hf];split at h';obtain⟨x,_,e⟩:=Al.1 h';cases e;rfl;cases h'
def Zyp{d:Int}{l:List Ln}(h:l.all (λl=>(qE d l).isSome)=true)(b:d<=64):l.all (ZB d)=l.all λl=>(xM d l).2:=by
 induction l with
 |nil=>rfl
 |cons a l f =>
 simp only[Cl,Ar]at h;simp only[Cl];rw[f h.2];congr 1;cases e:qE d a with
 |none=>rw[e]at h;simp at h
 |some p=>obtain⟨c,ok⟩:=p;rw[Zyo e b];unfold xM;rw[e];rfl
def Zyq(t:List UInt8)(hl:t.length<=1048576):PP 54 [T (bs t)] (.tup [.agg (zE (yn t).1),I (yn t).2]):=by
 have u:=eL t hl;cases hz:yO t with
 |none =>
 rw[hz]at u;simp only[vX]at u;have hp:yn t=(zI,2):=by unfold yn;rw[hz]
 rw[hp];refine c9 func54 λS nx hd=>?_;intro v0;refine EJ ?_;intro v1;refine EJ ?_;refine zu u ?_;refine ze (aF [(2,28)] zz ?_);refine aD ?_;refine EJ ?_;refine z8 0 4 rfl rfl ?_;refine z8 0 5 rfl rfl ?_;exact zj (zm hd EB (by simp[zI,zr]))
 |some ls =>
 rw[hz]at u;simp only[vX]at u;have a8:=eo hz hl;have hp:yn t=match vV ls with
  |none=>(zI,2)
  |some (x,ok)=>if ok=true/\yV x=true then (x,0) else (zI,3):=by unfold yn;rw[hz];rfl
 have a3:=Zym ls;obtain⟨a4,g1⟩:∃a4,a4=yn t:=⟨_,rfl⟩;rw[<-g1];rw[<-g1]at hp;have c7:vV ls=none->a4=(zI,2):=λh=>by rw[hp,h]
 obtain⟨ws,r⟩:∃ws,ws=wl ls:=⟨_,rfl⟩;have d0:ws.length=ls.length:=by rw[r];simp
 rw[<-r]at u;have a9:yq .neq (bs j7) ⟨#[116,114,97,110,116,101,114]⟩=some (.bool false):=xe _;have y:yq .neq (bs qY) ⟨#[100,97,121,115]⟩=some (.bool false):=xe _;have n:yq .neq (bs qZ) ⟨#[118,101,104,105,99,108,101,115]⟩=some (.bool false):=xe _;have o:yq .neq (bs q8) ⟨#[99,97,112,97,99,105,116,121]⟩=some (.bool false):=xe _;have a7:yq .neq (bs q9) ⟨#[108,101,110,103,116,104]⟩=some (.bool false):=xe _;have d1:yq .neq (bs jd) ⟨#[99,117,115,116,111,109,101,114,115]⟩=some (.bool false):=xe _;have g4:yq .neq (bs ([49]:Wd)) ⟨#[49]⟩=some (.bool false):=xe _;have d2:yq .neq (bs je) ⟨#[100,105,115,116,97,110,99,101,115]⟩=some (.bool false):=xe _;refine c9 func54 λS nx hd=>?_;intro v0;refine EJ ?_;intro v1;refine EJ ?_;refine zu u ?_;by_cases h4:ls.length<4;have j:a4=(zI,2):=c7 (by rw[a3];split;split;rw[if_neg];rintro⟨-,-,-,h5⟩;omega;rfl;rfl);have g5:(ls.length:Int)<4:=D9;refine ze (aF [(2,28)] (zD d0 h4 g5) ?_);refine aD ?_;refine EJ ?_;refine z8 0 4 rfl rfl ?_;refine z8 0 5 rfl rfl ?_;exact zj (zm hd EB (by simp[zI,zr,j]));have g5:¬(ls.length:Int)<4:=D9;refine ze (aF [(2,28)] (zD d0 h4 g5) ?_);refine aC ?_;obtain⟨l0,l1,l2,l3,rest,rfl⟩:∃a b c d e,ls=a::b::c::d::e:=by
  match ls,h4 with
  |a::b::c::d::e,_=>exact⟨a,b,c,d,e,rfl⟩
  |[],h=>simp at h
  |[_],h=>simp at h
  |[_,_],h=>simp at h
  |[_,_,_],h=>simp at h
 have i0:(0:Int)<(rest.length:Int)+1+1+1+1:=D9;have i1:(1:Int)<(rest.length:Int)+1+1+1+1:=D9;have i2:(2:Int)<(rest.length:Int)+1+1+1+1:=D9;refine ze (ze ?_);rw[r];refine qg (nx:=nx) (σ:=Bool) (λq=>q=!decide (l0=[j7,[49]])) (λq=>[(2,.ptr nx v0 0),(4,.ptr (nx+1) v1 0),(5,L ws),(54,B q)]) (λ_=>S) (λ_=>[.cells v0 25 [I 0,I 0,I 0,I 0,yi,yi],.cells v1 25 [I 0,I 0,I 0,I 0,yi,yi]]) ?_ ?_
 .by_cases h2:l0.length=2
  .obtain⟨a,b,rfl⟩:∃a b,l0=[a,b]:=by
    match l0,h2 with
    |[a,b],_=>exact⟨a,b,rfl⟩
   by_cases q0:a=j7;rotate_left;have f0:yq .neq (bs a) ⟨#[116,114,97,110,116,101,114]⟩=some (.bool true):=(uE (v:=j7) q0).2;refine zi [(5,39),(13,47)] (zD i0 f0 zz) ?_;exact zY true [] (by simp[q0]) (by simp[r]) rfl EA;subst q0;by_cases q1:b=[49];rotate_left;have f0:yq .neq (bs b) ⟨#[49]⟩=some (.bool true):=(uE (v:=[49]) q1).2;refine zi [(5,39),(13,47)] (zD i0 a9 f0) ?_;exact zY true [] (by simp[q1]) (by simp[r]) rfl EA;subst q1;refine zi [(5,39),(13,47)] (zD i0 a9 g4) ?_;exact zY false [] EA (by simp[r]) rfl EA
  have g6:¬(l0.length:Int)=2:=D9;have d5:¬l0=[j7,[49]]:=by rintro rfl;exact h2 rfl
  refine zi [(5,39),(13,47)] (zM i0 h2 g6 zz) ?_;exact zY true [] (by simp[d5]) (by simp[r]) rfl EA
 rintro q rfl;by_cases h0:l0=[j7,[49]];rotate_left;have j:a4=(zI,2):=c7 (by rw[a3,if_neg (λq=>h0 q.1)]);refine zo (by simp[h0]) ?_;refine EJ ?_;refine z8 0 4 rfl rfl ?_;refine z8 0 5 rfl rfl ?_;exact zj (zm hd EB (by simp[zI,zr,j]));refine zp (by simp[h0]) ?_;refine zk ?_;rw[r];refine aF [] i1 ?_;refine ze (ze (qg (nx:=nx) (σ:=Bool) (λq=>q=!YU (l0::l1::l2::l3::rest)) (λq=>[(2,.ptr nx v0 0),(4,.ptr (nx+1) v1 0),(5,L ws),(7,L (l1.map bs)),(100,B q)]) (λ_=>S) (λ_=>[.cells v0 25 [I 0,I 0,I 0,I 0,yi,yi],.cells v1 25 [I 0,I 0,I 0,I 0,yi,yi]]) ?_ ?_))
 .by_cases h8:l1.length=8
  .obtain⟨p0,p1,p2,p3,p4,p5,p6,p7,rfl⟩:∃a b c d e f g h,l1=[a,b,c,d,e,f,g,h]:=by
    match l1,h8 with
    |[a,b,c,d,e,f,g,h],_=>exact⟨a,b,c,d,e,f,g,h,rfl⟩
   by_cases q0:p0=qY;rotate_left;have f0:yq .neq (bs p0) ⟨#[100,97,121,115]⟩=some (.bool true):=(uE (v:=qY) q0).2;refine zi [(3,62),(9,68),(15,74),(21,80),(27,86),(34,93)] (zD i2 f0 zz) ?_;exact zY true [] (Wc (by rintro⟨⟨_,_,_,_,e⟩,_,e'⟩;simp only[List.cons.injEq]at e e';simp_all)) (by simp[r]) rfl EA;subst q0;by_cases q1:p2=qZ;rotate_left;have f1:yq .neq (bs p2) ⟨#[118,101,104,105,99,108,101,115]⟩=some (.bool true):=(uE (v:=qZ) q1).2;refine zi [(3,62),(9,68),(15,74),(21,80),(27,86),(34,93)] (zM i2 y f1 zz) ?_;exact zY true [] (Wc (by rintro⟨⟨_,_,_,_,e⟩,_,e'⟩;simp only[List.cons.injEq]at e e';simp_all)) (by simp[r]) rfl EA;subst q1;by_cases q2:p4=q8;rotate_left;have f2:yq .neq (bs p4) ⟨#[99,97,112,97,99,105,116,121]⟩=some (.bool true):=(uE (v:=q8) q2).2;refine zi [(3,62),(9,68),(15,74),(21,80),(27,86),(34,93)] (yp i2 y n f2 zz) ?_;exact zY true [] (Wc (by rintro⟨⟨_,_,_,_,e⟩,_,e'⟩;simp only[List.cons.injEq]at e e';simp_all)) (by simp[r]) rfl EA;subst q2;by_cases q3:p6=q9;rotate_left;have f3:yq .neq (bs p6) ⟨#[108,101,110,103,116,104]⟩=some (.bool true):=(uE (v:=q9) q3).2;refine zi [(3,62),(9,68),(15,74),(21,80),(27,86),(34,93)] (zN i2 y n o f3 zz) ?_;exact zY true [] (Wc (by rintro⟨⟨_,_,_,_,e⟩,_,e'⟩;simp only[List.cons.injEq]at e e';simp_all)) (by simp[r]) rfl EA;subst q3;by_cases h2:l2.length=2;rotate_left;have g6:¬(l2.length:Int)=2:=D9;refine zi [(3,62),(9,68),(15,74),(21,80),(27,86),(34,93)] (zN i2 y n o a7 (zD h2 g6 zz)) ?_;exact zY true [] (Wc (by rintro⟨⟨_,_,_,_,e⟩,_,e'⟩;rw[e']at h2;simp at h2))  (by simp[r]) rfl EA;obtain⟨c0,c1,rfl⟩:∃a b,l2=[a,b]:=by
    match l2,h2 with
    |[a,b],_=>exact⟨a,b,rfl⟩
   by_cases q5:c0=jd;rotate_left;have f5:yq .neq (bs c0) ⟨#[99,117,115,116,111,109,101,114,115]⟩=some (.bool true):=(uE (v:=jd) q5).2;refine zi [(3,62),(9,68),(15,74),(21,80),(27,86),(34,93)] (zN i2 y n o a7 f5) ?_;exact zY true [] (Wc (by rintro⟨⟨_,_,_,_,e⟩,_,e'⟩;simp only[List.cons.injEq]at e e';simp_all)) (by simp[r]) rfl EA;subst q5;refine zi [(3,62),(9,68),(15,74),(21,80),(27,86),(34,93)] (zN i2 y n o a7 d1) ?_;exact zY false [] Zyn (by simp[r]) rfl EA
  have k4:¬(l1.length:Int)=8:=D9;refine zi [(3,62),(9,68),(15,74),(21,80),(27,86),(34,93)] (zM i2 h8 k4 zz) ?_;exact zY true [] (Wc (by rintro⟨⟨_,_,_,_,e⟩,_,e'⟩;rw[e]at h8;simp at h8))  (by simp[r]) rfl EA
 rintro q rfl;cases g7:YU (l0::l1::l2::l3::rest) with
 |false =>
 have j:a4=(zI,2):=c7 (by rw[a3,if_neg (λq=>by rw[g7]at q;cases q.2)]);refine zo EF ?_;refine EJ ?_;refine z8 0 4 rfl rfl ?_;refine z8 0 5 rfl rfl ?_;exact zj (zm hd EB (by simp[zI,zr,j]))
 |true =>
 refine zp EF ?_;refine zk ?_;have e0:=g7;unfold YU at e0;rw[Ar]at e0;obtain⟨p1,p3,p5,p7,e1⟩:=lE.1 e0.1;obtain⟨c1,e2⟩:=lD.1 e0.2;obtain rfl:l1=[qY,p1,qZ,p3,q8,p5,q9,p7]:=e1;obtain rfl:l2=[jd,c1]:=e2;rw[if_pos ⟨h0,g7⟩]at a3;have a5:=bt [p1,p3,p5,p7,c1] EA (λw hw=>by have a1:=(a8.2 _ (by simp:[qY,p1,qZ,p3,q8,p5,q9,p7]∈_)).2;have a2:=(a8.2 _ (by simp:[jd,c1]∈_)).2;simp at hw;obtain rfl|rfl|rfl|rfl|rfl:=hw;have:=a1 w EA;omega;have:=a1 w EA;omega;have:=a1 w EA;omega;have:=a1 w EA;omega;have:=a2 w EA;omega);have k5:lC (l0::[qY,p1,qZ,p3,q8,p5,q9,p7]::[jd,c1]::l3::rest)=[p1,p3,p5,p7,c1]:=rfl;rw[k5]at a3;have k6:L ([p1,p3,p5,p7,c1].map bs)=.lst 5 [T (bs p1),T (bs p3),T (bs p5),T (bs p7),T (bs c1)]:=rfl;rw[k6]at a5;obtain⟨ls,e7⟩:∃ls,ls=l0::[qY,p1,qZ,p3,q8,p5,q9,p7]::[jd,c1]::l3::rest:=⟨_,rfl⟩;have l7:ls.length=rest.length+4:=by rw[e7];rfl
 rw[<-e7]at a3 c7 hp a8 d0;have m0:=a8.1;cases d6:yD [p1,p3,p5,p7,c1] with
 |none =>
 have j:a4=(zI,2):=c7 (by rw[a3,d6]);rw[d6]at a5;simp only[jT]at a5;rw[r];refine aG none R4 i2 ?_;refine zK (a5) n' ?_;refine ze (aG none R7 zz ?_);refine aD ?_;refine EJ ?_;refine z8 0 4 rfl rfl ?_;refine z8 0 5 rfl rfl ?_;exact zj (zm hd EB (by simp[zI,zr,j]))
 |some zs =>
 obtain⟨d,v,c,l,m,m1,m2,rfl⟩:∃d v c l m,0<=m/\m<=1000000000000000000/\zs=[d,v,c,l,m]:=by
  unfold yD at d6;split at d6
  .rename_i hq;cases d6;refine⟨_,_,_,_,_,kL c1,?_,rfl⟩;unfold zO;cases k7:yt c1 with
   |none=>simp
   |some z=>have:=Qk k7;simp;omega
  cases d6
 rw[d6]at a5 a3;simp only[jT]at a5 a3;have k8:L [d,v,c,l,m]=.lst 5 [I d,I v,I c,I l,I m]:=rfl;rw[k8]at a5;obtain⟨M,rfl⟩:∃M:Nat,m=(M:Int):=⟨m.toNat,by omega⟩;simp only[AN]at a3;have w1:W (3+(M:Int))=3+(M:Int):=wr _ D9 D9;have w2:W (3+(M:Int)+1)=3+(M:Int)+1:=wr _ D9 D9;have w3:W (3+(M:Int)+1+(M:Int))=3+(M:Int)+1+(M:Int):=wr _ D9 D9;have w4:W (3+(M:Int)+1+(M:Int)+1)=3+(M:Int)+1+(M:Int)+1:=wr _ D9 D9;have l8:((rest.length:Int)+1+1+1+1)=(ls.length:Int):=D9;by_cases hM:ls.length=5+2*M;rotate_left;have j:a4=(zI,2):=c7 (by rw[a3,if_neg (λq=>hM q.2.2.2)]);rw[r];refine aG none R4 i2 ?_;refine zK (a5) n' ?_;by_cases l9:ls.length<M;have b7:(rest.length:Int)+1+1+1+1<(M:Int):=D9;have b8:rest.length+1+1+1+1<M:=D9;refine ze (aG none R7 (zD b7 b8 zz) ?_);refine aD ?_;refine EJ ?_;refine z8 0 4 rfl rfl ?_;refine z8 0 5 rfl rfl ?_;exact zj (zm hd EB (by simp[zI,zr,j]));have b7:¬(rest.length:Int)+1+1+1+1<(M:Int):=D9;have b8:¬rest.length+1+1+1+1<M:=D9;have d5:¬(rest.length:Int)+1+1+1+1=3+(M:Int)+1+(M:Int)+1:=D9;refine ze (aG none R7 (zN b7 b8 w1 w2 w3 (zq w4 d5)) ?_);refine aD ?_;refine EJ ?_;refine z8 0 4 rfl rfl ?_;refine z8 0 5 rfl rfl ?_;exact zj (zm hd EB (by simp[zI,zr,j]));have b7:¬(rest.length:Int)+1+1+1+1<(M:Int):=D9;have b8:¬rest.length+1+1+1+1<M:=D9;have d5:((rest.length:Int)+1+1+1+1=3+(M:Int)+1+(M:Int)+1)=True:=eq_true D9;rw[r];refine aG none R4 i2 ?_;refine zK (a5) n' ?_;refine ze (aG none R7 (zN b7 b8 w1 w2 w3 (zq w4 d5)) ?_);refine aC ?_;have m3:M<=600000:=D9;refine EJ ?_;refine EJ ?_;refine aG (some []) Ra n' ?_;intros;rename_i v2;refine qj 2 4 59 8 rfl rfl λa0=>?_;refine qj 2 5 26 1 rfl rfl λb0=>?_;refine ze (EJ ?_);have f7:∀k,k<ls.length->ws[k]?=some ((zR ls k).map bs):=λk hk=>by
  have i7:ws=wl ls:=by rw[r,e7]
  rw[i7,wl,Ai,Ac hk];unfold zR;rw[Aa,Ac hk];rfl
 have g2:∀k,k<ls.length->zR ls k≠[]:=λk hk=>by have:=(JT t.length (Ag _) hz).2.1;rw[<-e7]at this;unfold zR;rw[Aa,Ac hk];exact this _ (AY hk)
 refine zn (zF (λs:Nat × Nat=>s.1<=M/\(yF ls 3 s.1).all (λl=>(qE d l).isSome)=true) (λ(i,a)=>[(2,.ptr nx v0 0),(4,.ptr (nx+1) v1 0),(5,L ws),(8,L [d,v,c,l,(M:Int)]),(10,I M),(12,.ptr (nx+2) v2 0),(11,B ((yF ls 3 i).all (ZB d))),(13,I i)]) (λ(i,a)=>[.cells v0 25 [I 0,I 0,I 0,I 0,yi,yi],.cells v1 25 [I 0,I 0,I 0,I 0,yi,yi],.cells v2 25 [I d,I v,I c,I l,.sl (nx+3) a 8 0 i,.sl (nx+4) b0 1 0 0],.cells a 59 ((qi ls d 3 i).flatMap enc),.cells b0 26 []]) (λs=>M-s.1) (0,a0) [] (by simp[yF]) (by simp[r,e7,yF];try rfl) (by simp[qi,yF]) ?_);rintro⟨i,a⟩ ⟨hi,d4⟩;simp only at hi d4 ⊢;repeat apply ze
 refine zg ?_;refine zA rfl (λhc=>?_) (λhc=>?_)
 .simp at hc;have c8:3+i<ls.length:=D9;obtain⟨sl,tl,b1,b2,b3,f0⟩:=zH rfl ws (3+i) (by rw[d0];exact c8);obtain rfl:sl=(zR ls (3+i)).map bs:=by rw[f7 _ c8]at b1;exact(inj b1).symm
  have d7:=a8.at (3+i);have f8:=Zyl (zR ls (3+i)) d (g2 _ c8) d7.1 d7.2;have j1:W (3+(i:Int))=3+(i:Int):=wr _ D9 D9;have j2:3+(i:Int)<(ws.length:Int):=by rw[d0];omega
  have j3:(0:Int)<=3+(i:Int):=D9;have j4:(3+(i:Int)).toNat=3+i:=D9;have e3:=J6 ls 3 i;have c6:=kK ls d 3 i;have e5:=ek ls d 3 i;have e4:qE d (zR ls (3+i))=none->a4=(zI,2):=λh=>c7 (by rw[a3,if_neg];rintro⟨q,-⟩;rw[ej (f:=λl=>(qE d l).isSome) hc (by simp only[h];rfl)]at q;cases q);have i8:xM d (zR ls (3+i))=(qE d (zR ls (3+i))).getD default:=rfl;rw[i8]at c6;clear b1 b2 b3 i8 d7;generalize zR ls (3+i)=ln at *;refine zk (aA ?_);cases e8:qE d ln with
  |none =>
  have j:=e4 e8;rw[eJ e8]at f8;refine aG (some []) Rv (yp f0 j1 j2 j3 j4) ?_;refine zK (f8) n' ?_;intros;refine ze (EJ ?_);refine aD ?_;refine EJ ?_;refine z8 0 4 rfl rfl ?_;refine z8 0 5 rfl rfl ?_;exact zj (zm hd EB (by simp[zI,zr,j]))
  |some p =>
  obtain⟨cu,ok⟩:=p;have k9:YT d ln=.tup [.agg (yf cu),B true,B (ZB d ln)]:=by unfold YT;rw[e8]
  rw[k9]at f8;rw[e8]at c6;have c6:qi ls d 3 (i+1)=qi ls d 3 i++[cu]:=c6;have g8:(yF ls 3 (i+1)).all (λl=>(qE d l).isSome)=true:=by rw[e3,BN,d4];simp[e8]
  have g9:((qi ls d 3 i).flatMap enc:List PV).length=i*8:=by rw[ju,e5];rfl
  have h6:List.take (i*8) ((qi ls d 3 i).flatMap enc:List PV)=(qi ls d 3 i).flatMap enc:=Ad (by rw[g9];exact Ag _);have h7:((qi ls d 3 (i+1)).flatMap enc:List PV)=(qi ls d 3 i).flatMap enc++yf cu:=by rw[c6,Ap];simp
  refine aG (some []) Rv (yp f0 j1 j2 j3 j4) ?_;refine zK (f8) n' ?_;intros;rename_i v5;refine ze (EJ ?_);refine aC (ze (qg (nx:=nx) (σ:=Bool) (λt=>t=(yF ls 3 (i+1)).all (ZB d)) (λt=>[(2,.ptr nx v0 0),(4,.ptr (nx+1) v1 0),(5,L ws),(8,L [d,v,c,l,(M:Int)]),(10,I M),(12,.ptr (nx+2) v2 0),(11,B t),(13,I i),(14,.ptr (nx+5) v5 0)]) (λ_=>S) (λ_=>[.cells v0 25 [I 0,I 0,I 0,I 0,yi,yi],.cells v1 25 [I 0,I 0,I 0,I 0,yi,yi],.cells v2 25 [I d,I v,I c,I l,.sl (nx+3) a 8 0 i,.sl (nx+4) b0 1 0 0],.cells a 59 ((qi ls d 3 i).flatMap enc),.cells b0 26 [],.cells v5 59 (yf cu)]) ?_ ?_))
  .rw[e3,BN];simp only[Cl,DW,CO];cases hb:(yF ls 3 i).all (ZB d) with
   |false =>
   refine zi [(1,188)] zz ?_;exact zY false [] rfl EA rfl EA
   |true =>
   refine zi [(1,188)] n' ?_;exact zY (ZB d ln) [] rfl EA rfl EA
  rintro q rfl;refine zi [] h6 ?_;refine⟨by omega,?_⟩;refine zg ?_;exact zv (i+1,a+1) [.cells v5 59 (yf cu)] ⟨hc,g8⟩ D9 (by simp[zy i D9]) rfl (by simp[h7])
 simp at hc;obtain rfl:M=i:=D9;refine zB ?_;obtain⟨lg,h9⟩:∃lg,lg=(yF ls 3 M).all (ZB d):=⟨_,rfl⟩;rw[<-h9];have c8:3+M<ls.length:=D9;obtain⟨sl,tl,b1,b2,b3,f0⟩:=zH rfl ws (3+M) (by rw[d0];exact c8);obtain rfl:sl=(zR ls (3+M)).map bs:=by rw[f7 _ c8]at b1;exact(inj b1).symm
 have j2:3+(M:Int)<(ws.length:Int):=by rw[d0];omega
 have j3:(0:Int)<=3+(M:Int):=D9;have j4:(3+(M:Int)).toNat=3+M:=D9;refine ze (ze (qg (nx:=nx) (σ:=Bool) (λq=>q=!decide (zR ls (3+M)=[je])) (λq=>[(2,.ptr nx v0 0),(4,.ptr (nx+1) v1 0),(5,L ws),(8,L [d,v,c,l,(M:Int)]),(10,I M),(12,.ptr (nx+2) v2 0),(11,B lg),(213,B q)]) (λ_=>S) (λ_=>[.cells v0 25 [I 0,I 0,I 0,I 0,yi,yi],.cells v1 25 [I 0,I 0,I 0,I 0,yi,yi],.cells v2 25 [I d,I v,I c,I l,.sl (nx+3) a 8 0 M,.sl (nx+4) b0 1 0 0],.cells a 59 ((qi ls d 3 M).flatMap enc),.cells b0 26 []]) ?_ ?_))
 .clear b1 b2 b3;generalize zR ls (3+M)=ln at *
  by_cases h1:ln.length=1
  .obtain⟨x,rfl⟩:∃x,ln=[x]:=by
    match ln,h1 with
    |[x],_=>exact⟨x,rfl⟩
   by_cases q0:x=je;rotate_left;have g0:yq .neq (bs x) ⟨#[100,105,115,116,97,110,99,101,115]⟩=some (.bool true):=(uE (v:=je) q0).2;refine zi [(7,204)] (zN f0 w1 j2 j3 j4 g0) ?_;exact zY true [] (by simp[q0]) EA rfl EA;subst q0;refine zi [(7,204)] (zN f0 w1 j2 j3 j4 d2) ?_;exact zY false [] EA EA rfl EA
  have l4:¬(ln.length:Int)=1:=D9;have d5:¬ln=[je]:=by rintro rfl;exact h1 rfl
  refine zi [(7,204)] (zN f0 w1 j2 j3 j4 (zD h1 l4 zz)) ?_;exact zY true [] (by simp[d5]) EA rfl EA
 rintro q rfl;by_cases e9:zR ls (3+M)=[je];rotate_left;have j:a4=(zI,2):=c7 (by rw[a3,if_neg (λq=>e9 q.2.1)]);refine zo (by simp[e9]) ?_;refine EJ ?_;refine z8 0 4 rfl rfl ?_;refine z8 0 5 rfl rfl ?_;exact zj (zm hd EB (by simp[zI,zr,j]));refine zp (by simp[e9]) ?_;refine zk ?_;clear b1 b2 b3 f0 j2 j3 j4 c8;refine ze (EJ ?_);refine zn (zF (λs:Nat × Nat=>s.1<=M+1/\(yF ls (4+M) s.1).all (xz (M+1))=true) (λ(i,b)=>[(2,.ptr nx v0 0),(4,.ptr (nx+1) v1 0),(5,L ws),(8,L [d,v,c,l,(M:Int)]),(10,I M),(12,.ptr (nx+2) v2 0),(11,B lg),(17,I i)]) (λ(i,b)=>[.cells v0 25 [I 0,I 0,I 0,I 0,yi,yi],.cells v1 25 [I 0,I 0,I 0,I 0,yi,yi],.cells v2 25 [I d,I v,I c,I l,.sl (nx+3) a 8 0 M,.sl (nx+4) b 1 0 i],.cells a 59 ((qi ls d 3 M).flatMap enc),.cells b 26 ((jF ls (4+M) i).flatMap enc)]) (λs=>M+1-s.1) (0,b0) [] (by simp[yF]) EA (by simp[jF,yF]) ?_);rintro⟨i,b⟩ ⟨hi,d3⟩;simp only at hi d3 ⊢;refine ze (EJ ?_);refine zA rfl (λhc=>?_) (λhc=>?_)
 .simp at hc;have l5:i<M+1:=D9;have c8:4+M+i<ls.length:=D9;obtain⟨sl,tl,b1,b2,b3,f0⟩:=zH rfl ws (4+M+i) (by rw[d0];exact c8);obtain rfl:sl=(zR ls (4+M+i)).map bs:=by rw[f7 _ c8]at b1;exact(inj b1).symm
  have d7:=a8.at (4+M+i);have d8:=bt (zR ls (4+M+i)) d7.1 (λw hw=>by have:=d7.2 w hw;omega);have u1:W (4+(M:Int))=4+(M:Int):=wr _ D9 D9;have u2:W (4+(M:Int)+(i:Int))=4+(M:Int)+(i:Int):=wr _ D9 D9;have u3:W ((M:Int)+1)=(M:Int)+1:=wr _ D9 D9;have j2:4+(M:Int)+(i:Int)<(ws.length:Int):=by rw[d0];omega
  have j3:(0:Int)<=4+(M:Int)+(i:Int):=D9;have j4:(4+(M:Int)+(i:Int)).toNat=4+M+i:=D9;have e3:=J6 ls (4+M) i;have f4:=Ek ls (4+M) i;have e6:=em ls (4+M) i;have e4:xz (M+1) (zR ls (4+M+i))=false->a4=(zI,2):=λh=>c7 (by rw[a3,if_neg];rintro⟨-,-,q,-⟩;rw[ej (f:=xz (M+1)) l5 h]at q;cases q);clear b1 b2 b3 d7;generalize zR ls (4+M+i)=ln at *;refine zk (aA ?_);cases a6:yD ln with
  |none =>
  have j:=e4 (by unfold xz;rw[a6];rfl);rw[a6]at d8;simp only[jT]at d8;refine aF [] (zN f0 u1 u2 j2 j3 j4) ?_;refine zu d8 ?_;refine ze (aF [(2,233)] zz ?_);refine aD ?_;refine EJ ?_;refine z8 0 4 rfl rfl ?_;refine z8 0 5 rfl rfl ?_;exact zj (zm hd EB (by simp[zI,zr,j]))
  |some z =>
  have m4:=aT a6;have l6:ln.map zO=z:=by unfold yD at a6;split at a6<;>cases a6;rfl
  rw[l6]at f4;rw[a6]at d8;simp only[jT]at d8;by_cases g3:ln.length=M+1;have j0:xz (M+1) ln=true:=by unfold xz;rw[a6,g3];simp
  have f6:z.length=M+1:=D9;have f9:(yF ls (4+M) (i+1)).all (xz (M+1))=true:=by rw[e3,BN,d3];simp[j0]
  have g9:((jF ls (4+M) i).flatMap enc:List PV).length=i:=by rw[ju,e6];exact BK _
  have h6:List.take i ((jF ls (4+M) i).flatMap enc:List PV)=(jF ls (4+M) i).flatMap enc:=Ad (by rw[g9];exact Ag _);have h7:((jF ls (4+M) (i+1)).flatMap enc:List PV)=(jF ls (4+M) i).flatMap enc++[L z]:=by rw[f4,Ap];rfl
  refine aF [] (zN f0 u1 u2 j2 j3 j4) ?_;refine zu d8 ?_;refine ze (aF [(2,233)] (zq f6 u3) ?_);refine aC (zi [] h6 ?_);refine⟨by omega,?_⟩;refine zg ?_;exact zv (i+1,b+1) [] ⟨by omega,f9⟩ D9 (by simp[zy i D9]) rfl (by simp[h7]);have j:=e4 (by unfold xz;rw[a6];simp[g3]);have f6:¬z.length=M+1:=D9;have i5:¬(z.length:Int)=(M:Int)+1:=D9;refine aF [] (zN f0 u1 u2 j2 j3 j4) ?_;refine zu d8 ?_;refine ze (aF [(2,233)] (zD f6 i5 u3) ?_);refine aD ?_;refine EJ ?_;refine z8 0 4 rfl rfl ?_;refine z8 0 5 rfl rfl ?_;exact zj (zm hd EB (by simp[zI,zr,j]))
 simp at hc;obtain rfl:i=M+1:=D9;refine zB ?_;have d9:vV ls=some (⟨d,v,c,l,qi ls d 3 M,jF ls (4+M) (M+1)⟩,(yF ls 3 M).all λl=>(xM d l).2):=by rw[a3,if_pos ⟨d4,e9,d3,hM⟩];rfl
 have k0:=rV _ (kN d9 a8);rw[d9]at hp;have k1:∀h:yV ⟨d,v,c,l,qi ls d 3 M,jF ls (4+M) (M+1)⟩=true,lg=(yF ls 3 M).all λl=>(xM d l).2:=λh=>by rw[h9];exact Zyp d4 (Zg h).days.2
 have e5:=ek ls d 3 M;have e6:=em ls (4+M) (M+1);generalize qi ls d 3 M=cu at *;generalize jF ls (4+M) (M+1)=dd at *;generalize (yF ls 3 M).all (λl=>(xM d l).2)=ok at *;have m5:(cu.flatMap enc:List PV).length=M*8:=by rw[ju,e5];rfl
 have m6:(dd.flatMap enc:List PV).length=M+1:=by rw[ju,e6];exact BK _
 have k2:PV.lst M (cu.flatMap enc)=L cu:=by unfold L;rw[e5]
 have k3:PV.lst (M+1) (dd.flatMap enc)=L dd:=by unfold L;rw[e6]
 clear h9 d4 d3 e9 a3 c7 d9 f7 g2 a8;refine yc 3 rfl ?_;refine yc 4 rfl ?_;refine aF [] (zM e5 e6 k2 k3) ?_;refine yK [] k0 (zM e5 e6 k2 k3) ?_;cases lg with
 |false =>
 have j:a4=(zI,3):=by rw[hp];exact if_neg λq=>by have:=k1 q.2;rw[q.1]at this;cases this
 refine ze (aF [(2,251)] zz ?_);refine aD ?_;refine EJ ?_;refine z8 0 4 rfl rfl ?_;refine z8 0 5 rfl rfl ?_;exact zj (zm hd EB (by simp[zI,zr,j]))
 |true =>
 cases i6:yV ⟨d,v,c,l,cu,dd⟩ with
 |false =>
 have j:a4=(zI,3):=by rw[hp];exact if_neg λq=>by rw[i6]at q;cases q.2
 refine ze (aF [(2,251)] n' ?_);refine aD ?_;refine EJ ?_;refine z8 0 4 rfl rfl ?_;refine z8 0 5 rfl rfl ?_;exact zj (zm hd EB (by simp[zI,zr,j]))
 |true =>
 have j:a4=(⟨d,v,c,l,cu,dd⟩,0):=by rw[hp];exact if_pos ⟨(k1 i6).symm,i6⟩
 refine ze (aF [(2,251)] n' ?_);refine aC (EJ ?_);exact zj (zm hd EB (by simp[zr,j]))
theorem FT{x:Inst}(h:InstQ x n)(b:Int)(h0:(xW x b).2=0):PlanG x n (xW x b).1:=by have c:=h.k.a;obtain⟨v,pr,hv,m,e,i,hc⟩:=TY c h0;have f:=iG x v b n;refine⟨c,h.af,by rw[e,f],?_⟩;rw[e];intro d g;obtain⟨r,j,rfl⟩:=Ak.1 g;obtain⟨k,l,rfl⟩:=Ak.1 j;exact(OM (sj c.h hv k) c.h.diag b (i k (AI.1 l))).2.1
def lF{x:Inst}(h:InstQ x n)(a:Int)(r:Nat)(b:Int)(h0:(Q8 x n a r b).2=0):PlanG x n (Q8 x n a r b).1:=by grind[Q8,kS,FT]
def Zyr{x:Inst}(h:InstQ x n)(l:List Int):Below21 x l (Jj x n l) (wy x n l).1 (wy x n l).2 (xJ x (wy x n l).1):=by
 have r:=Vp l 1;have u:=Vp l 2;have t3:=Vp l 3;have i:=h.t.n1;have f:=h.k.a;obtain⟨-,-,j,-⟩:=Vs (Zg h.m).J;have o:((yA l 1).toNat:Int)=yA l 1:=D9;have p:((yA l 3).toNat:Int)=yA l 3:=D9;have hc:=ZxL (ZxG h) j (ww l) (yA l 3).toNat D9;rw[p]at hc;have g:=ZwV f D9 (λb h0=>FT h b h0) (ww l) (yA l 1).toNat D9 (yA l 2) D9 (yA l 3);rw[o]at g;have hm:=lF h (ww l) (yA l 1).toNat (yA l 2);have hf:∀e c:Int,Zy e c=0->e=0:=λe c v=>by grind[Zy]
 have w:=h.af;refine⟨hc,g,λh0=>?_,λh0=>?_,λh0=>?_,λh0=>?_⟩;exact se x (wy x n l).1 (ZxQ h) (ZxR (hm h0));exact(hm (hf _ _ h0)).cost;exact iV x _ (hm (hf _ _ h0)).serves D9 λc hc=>(f.aa c hc).ad;have g1:=hm (hf _ _ h0);exact iW x _ g1.serves.sz.n λd q=>(g1.s.ok d q).1
def ZC(x:Inst)(n:Nat)(l:List Int):Rep:=Vq x (Jj x n l) (wy x n l).1 (wy x n l).2 (xJ x (wy x n l).1)
def Zys{x:Inst}(h:InstQ x n)(l:List Int):PP 7 [T (bs (zV (j8 x))),L l] (.agg (Vh (ZC x n l))):=by have a:=tL h.t h.m;have:=Zw4 (zV (j8 x)) (Fs h) l (bd:=Jj x n l) (p:=(wy x n l).1) (e:=(wy x n l).2) (c:=xJ x (wy x n l).1) (by rw[a]) (by simp_all[Zyr]);rw[a]at this;exact this
def Zyt(u:List UInt8):((yn u).2=0/\yV (yn u).1=true/\∃ls b,yO u=some ls/\vV ls=some ((yn u).1,b))\/(yn u).2=2\/(yn u).2=3:=by
 cases a:yO u with
 |none=>right;left;unfold yn;rw[a]
 |some ls =>
 cases c:vV ls with
 |none=>right;left;unfold yn;rw[a];simp only[c]
 |some p =>
 obtain⟨x,ok⟩:=p;by_cases hm:ok=true/\yV x=true;have e:yn u=(x,0):=by unfold yn;rw[a];simp only[c];rw[if_pos hm]
 left;rw[e];exact⟨rfl,hm.2,ls,ok,rfl,c⟩;right;right;unfold yn;rw[a];simp only[c];rw[if_neg hm]
def Zyu(a b:List Int)(m:a.length<=1048576)(hb:b.length<=1048576):PP 48 [L a,L b] (B (decide (a=b))):=by
 refine c9 func48 λS nx f=>?_;by_cases hl:a.length=b.length;refine ze (aF [] hl ?_);refine zp (by simp[hl]) ?_;refine zk ?_;refine ze (EJ ?_);refine zn (zF (λk:Nat=>k<=a.length/\a.take k=b.take k) (λk=>[(0,L a),(1,L b),(12,I a.length),(13,I k)]) (λ_=>[]) (λk=>a.length-k) 0 [] EA (by simp[hl]) EA ?_);rintro k ⟨n,g⟩;refine EJ ?_;refine ze (zA rfl (λhc=>?_) (λhc=>?_));simp at hc;obtain⟨u,tl,h,-,-,i⟩:=zH rfl a k hc;obtain⟨v,l,hv,-,-,j⟩:=zH rfl b k D9;have e:k<b.length:=D9;refine zk (aA (EJ ?_));by_cases c:u=v;subst c;refine aG none Re (zM i j hc e) ?_;refine aC (zg ?_);exact zv (k+1) [] ⟨hc,by rw[Ax,Ax,h,hv,g]⟩ D9 (by simp[zy k D9]) rfl EA;refine aG none Re (yp i j hc e c) ?_;refine aD ?_;refine EJ ?_;have d:¬a=b:=by rintro rfl;rw[h]at hv;exact c (inj hv)
 exact zj (zm f EB (by simp[d,zr]));simp at hc;obtain rfl:k=a.length:=D9;rw[Ah,hl,Ah]at g;subst g;refine zB (EJ ?_);exact zj (zm f EB EA);refine ze (EJ ?_);refine zo ED ?_;refine EJ ?_;have d:¬a=b:=by rintro rfl;exact hl rfl
 exact zj (zm f EB (by simp[d,zr]))
def eM{t:List UInt8}(hl:t.length<=1048576)(h:(yn t).2=0):InstOk (yn t).1/\yV (yn t).1=true/\2*(yn t).1.y.length<=t.length:=by
 obtain⟨-,hm,ls,b,c,a⟩|h|h:=Zyt t;refine⟨kN a (eo c hl),hm,?_⟩;have h1:2*(yn t).1.y.length<=ls.length:=by generalize (yn t).1=x at *;unfold vV at a;split at a;split at a;split at a;split at a;rename_i d;cases a;simp only[length_map,yF,DI];omega;cases a;cases a;cases a;cases a
 have h2:=kM ls;rw[(JT _ (Ag _) c).1]at h2;omega;rename_i q;rw[h]at q;cases q;rename_i q;rw[h]at q;cases q
def FU{x:Inst}(hm:yV x=true):∀c∈x.y,CustFits c:=λc hc=>by obtain⟨k,a,b,l,r1,r2,r3,r4,r5⟩|⟨k,q,s,t,d,ho,e,f⟩:=Vr ((Zg hm).ai c hc);exact⟨by omega,by omega,by omega⟩;exact⟨by omega,by omega,by omega⟩
structure PlanRd (p:zG):Prop where
 ak:PlanTold p
 cnt:ZZ p<=1000000
def Zyv{d:zt}(h:∀t∈d,t.length<=1000):d.flatten.length<=1000*d.length:=by
 induction d with
 |nil=>simp
 |cons t d a =>
 have h1:=h t EA;have h2:=a λu b=>h u (by simp[b]);simp only[BB,length_append,Ae];omega
def Zyw:∀{ls r:List Ln} {p:zG},qp n ls=some (r,p)->(p.map List.length).sum+r.length<=ls.length:=by
 induction n with
 |zero=>intro ls r d h;simp only[qp,injEq,Prod.mk.injEq]at h;obtain⟨rfl,rfl⟩:=h;simp
 |succ n c =>
 intro ls r p h;unfold qp at h;split at h;cases h;rename_i q a;obtain⟨b,f,e⟩:=Al.1 h;cases e;have h1:=c (r:=b.1) (p:=b.2) f;have h2:q.2.length+q.1.length<=ls.length:=by unfold wu at a;split at a;cases a;split at a;cases a;have:=Vl (r:=q.1) (d:=q.2) a;simp;omega
 simp;omega
theorem FV:∀{p:zG},(∀d∈p,∀t∈d,t.length<=1000)->ZZ p<=1000*(p.map List.length).sum
 |[],_=>by simp[ZZ]
 |d::p,h=>by have h1:=FV (p:=p) λe a=>h e (by simp[a]);have h2:=Zyv (h d EA);unfold ZZ at h1 ⊢;simp only[Aw,BE];omega
def FW{p:zG}(h:jZ ls=some p)(hs:LnsSz ls):PlanRd p:=by have a:=FF h hs;refine⟨a,?_⟩;have h1:=FV a.t;unfold jZ at h;split at h;cases h;split at h;cases h;split at h;rename_i q b;cases h;have h2:=Zyw b;have h3:=hs.1;simp at h2 h3;omega;cases h
def Zyx(h:Zc ls=some r)(hs:LnsSz ls):PlanRd r.Z:=by obtain⟨-,hb,-⟩:=FK h;obtain⟨a,b,-⟩:=lm (ls.drop 4);rw[A7]at a;exact FW hb (hs.sub (λl hl=>By (b l hl)) D9)
theorem FX:∀{p:zG} {d:zt},d∈p->d.flatten.length<=ZZ p
 |e::p,d,h=>by unfold ZZ;simp only[Aw,BE];obtain rfl|h:=Am.1 h;omega;have:=FX h;unfold ZZ at this;omega
theorem PlanRd.sz{p:zG}(h:PlanRd p):PlanSz p:=by obtain⟨⟨h1,h2,h3,c⟩,e⟩:=h;exact⟨⟨by omega,λd a=>by have:=h2 d a;omega,λd a t b=>by have:=h3 d a t b;omega,by rw[iX];omega⟩,λd a=>by have:=FX a;omega⟩
theorem PlanRd.days{p:zG}(h:PlanRd p):∀d∈p,DayOk d:=λd a=>by obtain⟨⟨h1,h2,h3,c⟩,e⟩:=h;exact⟨by have:=h2 d a;omega,λt b=>by have:=h3 d a t b;omega,λt b s hs=>by have:=c d a t b s hs;unfold qz;omega⟩
theorem PlanRd.serves{x:Inst}{p:zG}(h:PlanRd p)(h0:xJ x p=0):Serves x p:=by obtain⟨hm,hl,c,-⟩:=aS h0;have hx:=(Zg hm).days;refine⟨h.sz.ok,λs hs=>?_,by omega⟩;obtain⟨d,a,b⟩:=dD p 0 s hs;have:=W4 (c d a) _ b;simp[jx]at this;omega
def Xe(t s:List UInt8):Bool:=decide ((yn t).2=0)&&(vG s).2&&Jk (yn t).1 (vG s).1
def Zyy(t s:List UInt8)(ht:t.length<=1048576)(hs:s.length<=1048576)(v:∀ls,yO s=some ls->LnsSz ls):PP 10 [T (bs t),T (bs s)] (B (Xe t s)):=by
 have j:=Ep t ht;have w:=Zx6 s hs v;by_cases h0:(yn t).2=0
 .obtain⟨hx,hm,-⟩:=eM ht h0;have k:=FU hm;have a7:=(Zg hm).y;rw[h0]at j;have z:Xe t s=((vG s).2&&Jk (yn t).1 (vG s).1):=by unfold Xe;rw[decide_eq_true h0,BP]
  rw[z];have a5:(vG s).2=true->PlanRd (vG s).1.Z/\(vG s).1.days.length<=1048576:=λe=>by
   unfold vG at e ⊢;cases hz:yO s with
   |none=>rw[hz]at e;cases e
   |some ls =>
   rw[hz]at e;simp only at e ⊢;cases hr:Zc ls with
   |none=>rw[hr]at e;cases e
   |some r =>
   have h1:=(FG hr (v ls hz)).2.n;exact⟨Zyx hr (v ls hz),by simp only;omega⟩
  generalize (yn t).1=x at *;generalize vG s=R at *;obtain⟨⟨o,b,c,g,ds,p⟩,ok⟩:=R;simp only at w a5 ⊢;cases ok with
  |false =>
  simp only[B0];refine c9 func10 λS nx l=>?_;refine EJ ?_;refine zu j ?_;intro v0;refine ze (EJ ?_);refine aC (EJ ?_);refine zu w ?_;intro v1;refine ze (aF [(2,23)] zz ?_);refine aD ?_;refine EJ ?_;exact EK l
  |true =>
  obtain⟨hp,a8⟩:=a5 rfl;have a0:=se x p hx hp.sz;simp only[BP];by_cases hE:xJ x p=0;have a1:=hp.serves hE;have a2:=sP x p a1 D9 k hp.days;have a6:=iV x p a1 D9 k;have a3:=iW x p (by have:=hp.ak.n;omega) hp.days;have a4:=Zyu ds (yX x p) a8 (by unfold yX;rw[length_map];have:=hp.ak.n;omega);have y:Jk x ⟨o,b,c,g,ds,p⟩=decide (c=qW x p/\g=W (qe x p x.y.length)/\ds=yX x p/\0<=b/\b<=c):=by unfold Jk;rw[decide_eq_decide];simp[hE]
  rw[y];rw[hE]at a0;generalize qW x p=C at *;generalize W (qe x p x.y.length)=H at *;generalize yX x p=D at *;clear y a1 hx hm k a7 hE v h0;refine c9 func10 λS nx l=>?_;refine EJ ?_;refine zu j ?_;intro v0;refine ze (EJ ?_);refine aC (EJ ?_);refine zu w ?_;intro v1;refine ze (aF [(2,23)] n' ?_);refine yK [(2,23)] a0 n' ?_;refine aC ?_;by_cases m:c=C;have a:=eq_true m;by_cases f:g=H;have q:=eq_true f;refine ze (aG (some [nx,nx+1]) R3 (zq a q) ?_);refine zK (a2) (zq a q) ?_;refine zK (a6) (zq a q) ?_;refine aC ?_;by_cases h:ds=D;have d:=eq_true h;by_cases i:0<=b;have u:=eq_true i;refine aG (some [nx,nx+1]) Rc (zq d u) ?_;refine zK (a3) (zq d u) ?_;refine zK (a4) (zq d u) ?_;exact zj (zm l EB (by simp[zr,m,f,h,i]));refine aG (some [nx,nx+1]) Rc (zD d i zz) ?_;refine zK (a3) (zD d i zz) ?_;refine zK (a4) (zD d i zz) ?_;exact zj (zm l EB (by simp[zr,i]));refine aG (some [nx,nx+1]) Rc (zq h zz) ?_;refine zK (a3) (zq h zz) ?_;refine zK (a4) (zq h zz) ?_;exact zj (zm l EB (by simp[zr,h]));refine ze (aG (some [nx,nx+1]) R3 (zq a f) ?_);refine zK (a2) (zq a f) ?_;refine zK (a6) (zq a f) ?_;refine aD ?_;refine EJ ?_;exact zj (zm l EB (by simp[zr,f]));refine ze (aG (some [nx,nx+1]) R3 (zq m zz) ?_);refine zK (a2) (zq m zz) ?_;refine aD ?_;refine EJ ?_;exact zj (zm l EB (by simp[zr,m]));have y:Jk x ⟨o,b,c,g,ds,p⟩=false:=by unfold Jk;simp[hE]
  rw[y];generalize xJ x p=e at *;refine c9 func10 λS nx l=>?_;refine EJ ?_;refine zu j ?_;intro v0;refine ze (EJ ?_);refine aC (EJ ?_);refine zu w ?_;intro v1;refine ze (aF [(2,23)] n' ?_);refine yK [(2,23)] a0 n' ?_;refine zo (by simp[hE]) ?_;refine EJ ?_;exact EK l
 have z:Xe t s=false:=by unfold Xe;rw[decide_eq_false h0];rfl
 rw[z];generalize (yn t).2=e at *;refine c9 func10 λS nx l=>?_;refine EJ ?_;refine zu j ?_;intro v0;refine ze (EJ ?_);refine zo (by simp[h0]) ?_;refine EJ ?_;exact EK l
def VA(b:Wd)(h:b.length<=1048576):PP 50 [T (bs b)] (.tup [I (zO b),B (yt b).isSome]):=by
 have:=tZ b D9;unfold zO;cases a:yt b with
 |none=>rw[a]at this;exact this
 |some n=>rw[a]at this;exact this
def Zyz{l:Ln}{w:Wd}(h:l[k]?=some w)(a:(yt w).isSome=false):yD l=none:=ku h (by simpa using a)
theorem FY(p:Nat->Bool):∀n:Nat,∃i,i<=n/\(∀k,k<i->p k=true)/\(i<n->p i=false)
 |0=>⟨0,Ag _,λk h=>absurd h D9,λh=>absurd h D9⟩
 |n+1=>by
  obtain⟨i,h1,h2,h3⟩:=FY p n;by_cases h:i<n;exact⟨i,by omega,h2,λ_=>h3 h⟩;obtain rfl:i=n:=D9;cases q:p i with
  |false=>exact⟨i,by omega,h2,λ_=>q⟩
  |true=>exact⟨i+1,Ag _,λk c=>by obtain a|a:=Bc k i;exact h2 k a;obtain rfl:k=i:=D9;exact q,λb=>absurd b D9⟩
def ZyA(l:Ln)(hl:l.length<=1048576/\∀w∈l,w.length<=1048576):∃t,PP 51 [L (l.map bs)] (.tup [.agg [L t],B (jL l).isSome])/\∀t',jL l=some t'->t=t':=by
 have b:jL l=none->(∃t:zT,PP 51 [L (l.map bs)] (.tup [.agg [L t],B false]))->∃t,PP 51 [L (l.map bs)] (.tup [.agg [L t],B (jL l).isSome])/\∀t',jL l=some t'->t=t':=by rintro h ⟨t,q⟩;exact⟨t,by rw[h];exact q,λt' e=>by rw[h]at e;cases e⟩
 match l,hl,b with
 |[],_,b =>
 refine b rfl ⟨[],?_⟩;refine c9 func51 λS nx f=>?_;intro v0;refine EJ ?_;intro v1;refine ze (aF [(3,15)] zz ?_);refine aD ?_;refine EJ ?_;refine z8 0 0 rfl rfl ?_;exact EK f
 |[w],_,b =>
 refine b (by show (if w=wV then _ else none)=none;split<;>rfl) ⟨[],?_⟩;refine c9 func51 λS nx f=>?_;intro v0;refine EJ ?_;intro v1;repeat apply ze
 refine zi [(3,15)] zz ?_;refine aD ?_;refine EJ ?_;refine z8 0 0 rfl rfl ?_;exact EK f
 |w::a::ws,hl,b =>
 have o:(0:Int)<(ws.length:Int)+1+1:=D9;have a0:(1:Int)<(ws.length:Int)+1+1:=D9;have p:¬(ws.length:Int)+1+1<2:=D9;have d7:=hl.1;simp only[Ae]at d7;by_cases ha:w=wV
 .subst ha;have k1:yq .neq (bs wV) ⟨#[116,111,117,114]⟩=some (.bool false):=xe _;have c:=VA a (hl.2 a EA);have e8:=bb a;have c7:zO a<=1000000000000000000:=by
   unfold zO;cases e:yt a with
   |none=>simp
   |some n=>have:=Qk e;simp;omega
  cases hz:(yt a).isSome with
  |false =>
  refine b (by simp[jL,Zyz (l:=a::ws) (k:=0) rfl hz]) ⟨[],?_⟩;rw[hz]at c;refine c9 func51 λS nx f=>?_;intro v0;refine EJ ?_;intro v1;refine ze (aF [(3,15)] (zD o p k1) ?_);refine aC (aF [] a0 ?_);refine zu c ?_;refine ze (aF [(2,31),(8,37)] zz ?_);refine aD ?_;refine EJ ?_;refine z8 0 0 rfl rfl ?_;exact EK f
  |true =>
  rw[hz]at c;have w1:i64.wrap (2*zO a)=2*zO a:=wr _ D9 D9;have w2:i64.wrap (2*zO a+2)=2*zO a+2:=wr _ D9 D9;have a2:jL (wV::a::ws)=if (ws.all λw=>(yt w).isSome)=true/\(ws.length:Int)=2*zO a then some (wM (ws.map zO)) else none:=by unfold jL yD;simp only[if_true,Cl,hz,BP,Aw];by_cases h1:(ws.all λw=>(yt w).isSome)=true;simp[h1];simp[h1]
  by_cases j:(ws.length:Int)=2*zO a;obtain⟨n,hn⟩:∃n:Nat,zO a=n:=⟨(zO a).toNat,by omega⟩;rw[hn]at c w1 w2 a2 j c7;have c8:ws.length=2*n:=D9;obtain⟨us,a6⟩:∃us,us=(wV::a::ws).map bs:=⟨_,rfl⟩;have e5:us.length=2*n+2:=by rw[a6];simp;omega
  have d0:∀k u,ws[k]?=some u->us[k+2]?=some (bs u):=λk u h=>by rw[a6];simp[h]
  obtain⟨ps,a7⟩:∃ps,ps=wM (ws.map zO):=⟨_,rfl⟩;have d1:(ws.map zO).length=2*n:=by simpa using c8
  have d8:ps.length=n:=by rw[a7];exact Ee n d1
  have d9:∀k u v,k<n->ws[2*k]?=some u->ws[2*k+1]?=some v->ps[k]?=some ⟨zO u,zO v⟩:=λk u v hk h1 h2=>by rw[a7,Ef k d1 hk,Aa,Aa,Ai,Ai,h1,h2];rfl
  obtain⟨i0,e6,r,a4⟩:=FY (λk=>(yt (ws.getD (2*k) [])).isSome&&(yt (ws.getD (2*k+1) [])).isSome) n;have d:∀k u,ws[k]?=some u->ws.getD k []=u:=λk u h=>by rw[Aa,h];rfl
  have a8:(jL (wV::a::ws)).isSome=decide (i0=n)/\∀t',jL (wV::a::ws)=some t'->ps.take i0=t':=by
   rw[a2];by_cases d2:i0=n;subst d2;have d3:(ws.all λw=>(yt w).isSome)=true:=by rw[Av];intro u hu;obtain⟨k,hk,e⟩:=List.mem_iff_getElem.1 hu;have h1:=r (k/2) D9;rw[Ar]at h1;have e':ws.getD k []=u:=d k u (by rw[Ac hk,e]);obtain q|q:=Nat.mod_two_eq_zero_or_one k;rw[show 2*(k/2)=k by omega]at h1;rw[e']at h1;exact h1.1;rw[show 2*(k/2)+1=k by omega]at h1;rw[e']at h1;exact h1.2
   rw[if_pos ⟨d3,j⟩];exact⟨by simp,λt' e=>by rw[<-inj e,<-a7];exact Ad D9⟩;have hb:=a4 D9;have a9:¬(ws.all λw=>(yt w).isSome)=true:=λq=>by have g:=λk (hk:k<ws.length)=>Av.1 q _ (AY hk);have g1:=g (2*i0) D9;have g2:=g (2*i0+1) D9;rw[d _ _ (Ac (show 2*i0<ws.length by omega)),d _ _ (Ac (show 2*i0+1<ws.length by omega)),g1,g2]at hb;cases hb
   rw[if_neg (λq=>a9 q.1)];exact⟨by simp[d2],λt' e=>by cases e⟩
  refine⟨ps.take i0,?_,a8.2⟩;rw[a8.1];have b7:=eq_true (show (ws.length:Int)+1+1=2*n+2 by omega);have b8:=eq_true j;have c6:=eq_true c8;have e0:¬(ws.length:Int)+1+1<n:=D9;have e7:n<=1048576:=D9;clear a8 a2 b;refine c9 func51 λS nx f=>?_;intro v0;refine EJ ?_;intro v1;refine ze (aF [(3,15)] (zD o p k1) ?_);refine aC (aF [] a0 ?_);refine zu c ?_;refine ze (aF [(2,31),(8,37)] (zN e0 w1 w2 b7 b8 c6) ?_);refine aC ?_;refine ze (EJ ?_);refine qj 1 0 101 2 rfl rfl λv2=>?_;refine zn (zF (λs:Nat × Nat=>s.1<=i0) (λ(i,w)=>[(0,L us),(2,.ptr nx v0 0),(4,.ptr (nx+1) v1 0),(5,I n),(7,I i)]) (λ(i,w)=>[.cells v0 99 [yi],.cells v1 99 [.sl (nx+2) w 2 0 i],.cells w 101 ((ps.take i).flatMap enc)]) (λs=>n-s.1) (0,v2) [] EA (by simp[a6]) EA ?_);rintro⟨i,w⟩ e1;simp only at e1 ⊢;refine ze (EJ ?_);refine zA rfl (λhc=>?_) (λhc=>?_)
  .simp at hc;obtain⟨u,hu⟩:∃u,ws[2*i]?=some u:=⟨_,Ac D9⟩;obtain⟨v,hv⟩:∃v,ws[2*i+1]?=some v:=⟨_,Ac D9⟩;obtain⟨x,tl,a1,-,-,f0⟩:=zH rfl us (2*i+2) D9;obtain⟨y,e9,b1,-,-,f1⟩:=zH rfl us (2*i+3) D9;obtain rfl:x=bs u:=by rw[d0 _ _ hu]at a1;exact(inj a1).symm
   obtain rfl:y=bs v:=by rw[d0 _ _ hv]at b1;exact(inj b1).symm
   have m:=VA u (hl.2 u (by simp[Ab hu]));have z:=VA v (hl.2 v (by simp[Ab hv]));have u1:i64.wrap (2*(i:Int))=2*(i:Int):=wr _ D9 D9;have u2:i64.wrap (2+2*(i:Int))=2+2*(i:Int):=wr _ D9 D9;have u3:i64.wrap (3+2*(i:Int))=3+2*(i:Int):=wr _ D9 D9;have t2:(2+2*(i:Int)).toNat=2*i+2:=D9;have t3:(3+2*(i:Int)).toNat=2*i+3:=D9;have p2:(0:Int)<=2+2*(i:Int):=D9;have p3:(0:Int)<=3+2*(i:Int):=D9;have l2:2+2*(i:Int)<us.length:=D9;have l3:3+2*(i:Int)<us.length:=D9;have m2:2*i+2<us.length:=D9;have m3:2*i+3<us.length:=D9;refine zk (aA ?_);by_cases d4:i<i0;have hg:=r i d4;rw[d _ _ hu,d _ _ hv,Ar]at hg;rw[hg.1]at m;rw[hg.2]at z;have hs:=d9 i u v hc hu hv;have e2:(ps.take (i+1)).flatMap enc=(ps.take i).flatMap enc++[I (zO u),I (zO v)]:=by rw[Ax,hs,Ap];rfl
   have e3:((ps.take i).flatMap enc:List PV).length=i*2:=by rw[Y4,AA,d8];omega
   have d5:List.take (i*2) ((ps.take i).flatMap enc)=((ps.take i).flatMap enc:List PV):=Ad (by rw[e3];exact Ag _);refine aF [] (zN u1 u2 t2 p2 l2 (zq m2 f0)) ?_;refine zu m ?_;refine aF [] (zN u1 u3 t3 p3 l3 (zq m3 f1)) ?_;refine zu z ?_;refine ze (aF [(2,73)] n' ?_);refine aC (zi [] d5 ?_);refine⟨by omega,?_⟩;refine zg ?_;exact zv (i+1,w+1) [] d4 D9 (by simp[zy i D9]) rfl (by simp only[e2,Ay]);obtain rfl:i=i0:=D9;have hb:=a4 hc;rw[d _ _ hu,d _ _ hv]at hb;have d6:decide (i=n)=false:=ED;have a3:min i ps.length=i:=D9;cases q1:(yt u).isSome with
   |false =>
   rw[q1]at m;refine aF [] (zN u1 u2 t2 p2 l2 (zq m2 f0)) ?_;refine zu m ?_;refine aF [] (zN u1 u3 t3 p3 l3 (zq m3 f1)) ?_;refine zu z ?_;refine ze (aF [(2,73)] zz ?_);refine aD ?_;refine yc 2 rfl ?_;refine EJ ?_;exact zj (zm f EB (by simp[zr,a3,d6]))
   |true =>
   rw[q1]at hb m;have q2:(yt v).isSome=false:=hb;rw[q2]at z;refine aF [] (zN u1 u2 t2 p2 l2 (zq m2 f0)) ?_;refine zu m ?_;refine aF [] (zN u1 u3 t3 p3 l3 (zq m3 f1)) ?_;refine zu z ?_;refine ze (aF [(2,73)] n' ?_);refine aD ?_;refine yc 2 rfl ?_;refine EJ ?_;exact zj (zm f EB (by simp[zr,a3,d6]))
  simp at hc;obtain rfl:i=i0:=D9;obtain rfl:i=n:=D9;have a3:min i ps.length=i:=D9;refine zB (yc 2 rfl ?_);refine EJ ?_;exact zj (zm f EB (by simp[zr,a3]));have e4:¬(ws.length:Int)+1+1=2*zO a+2:=D9;refine b (by rw[a2,if_neg (λq=>j q.2)]) ⟨[],?_⟩;by_cases a5:(ws.length:Int)+1+1<zO a;refine c9 func51 λS nx f=>?_;intro v0;refine EJ ?_;intro v1;refine ze (aF [(3,15)] (zD o p k1) ?_);refine aC (aF [] a0 ?_);refine zu c ?_;refine ze (aF [(2,31),(8,37)] (zq a5 zz) ?_);refine aD ?_;refine EJ ?_;refine z8 0 0 rfl rfl ?_;exact EK f;refine c9 func51 λS nx f=>?_;intro v0;refine EJ ?_;intro v1;refine ze (aF [(3,15)] (zD o p k1) ?_);refine aC (aF [] a0 ?_);refine zu c ?_;refine ze (aF [(2,31),(8,37)] (zM a5 w1 w2 e4) ?_);refine aD ?_;refine EJ ?_;refine z8 0 0 rfl rfl ?_;exact EK f
 have k1:yq .neq (bs w) ⟨#[116,111,117,114]⟩=some (.bool true):=Zd (Z2 ha);refine b (by simp[jL,ha]) ⟨[],?_⟩;refine c9 func51 λS nx f=>?_;intro v0;refine EJ ?_;intro v1;refine ze (aF [(3,15)] (zD o p k1) ?_);refine aD ?_;refine EJ ?_;refine z8 0 0 rfl rfl ?_;exact EK f
def uc:List Ln->zG × Bool
 |[]=>([],false)
 |l::r=>match qf qn l with
  |none=>([],false)
  |some n=>match qp n r with
   |none=>([],false)
   |some q=>(q.2,decide (q.1=[]))
def ZyB(ls:List Ln):jZ ls=if (uc ls).2=true then some (uc ls).1 else none:=by
 cases ls with
 |nil=>rfl
 |cons l r =>
 obtain h|⟨n,h⟩:=DB (qf qn l);simp[jZ,uc,h];obtain h2|⟨⟨a,b⟩,h2⟩:=DB (qp n r);simp[jZ,uc,h,h2];cases a<;>simp[jZ,uc,h,h2]
def VB{m:Nat}{r:List Ln}{f:List Ln × zG->List Ln × zG}(h:qp n r=(qp m q).map f)(hm:m=d+1)(a:wu q=none):qp n r=none:=by rw[h,hm];simp[qp,a]
def ZyC{m:Nat}{r a:List Ln}{p t}(h:qp n r=(qp m q).map λx=>(x.1,p++x.2))(hm:m=d+1)(b:wu q=some (a,t)):qp n r=(qp d a).map λx=>(x.1,(p++[t])++x.2):=by rw[h,hm];simp[qp,b,CE,Function.comp_def]
def ZyD{m:Nat}{r:List Ln}{l:Ln}{f:List Ln × zt->List Ln × zt}(h:qb n r=(qb m (l::q)).map f)(hm:m=d+1)(a:jL l=none):qb n r=none:=by rw[h,hm];simp[qb,a]
def ZyE{m:Nat}{r:List Ln}{l:Ln}{p:zt}{t:zT}(h:qb n r=(qb m (l::q)).map λx=>(x.1,p++x.2))(hm:m=d+1)(a:jL l=some t):qb n r=(qb d q).map λx=>(x.1,(p++[t])++x.2):=by rw[h,hm];simp[qb,a,CE,Function.comp_def]
theorem ZyF(t:List UInt8)(hl:t.length<=1048576):PP 13 [T (bs t)] (match yO t with
  |none=>.tup [.agg [L ([]:zG)],B false]
  |some ls=>.tup [.agg [L (uc ls).1],B (uc ls).2]):=by
 have f:=eL t hl;refine c9 func13 λS nx hd=>?_;intro v0;refine EJ ?_;intro v1 v2;cases hz:yO t with
 |none =>
 rw[hz]at f;simp only[vX]at f;refine EJ ?_;refine zu f ?_;refine ze (aF [(2,25),(7,30),(14,37)] zz ?_);refine aD ?_;refine EJ ?_;refine z8 0 0 rfl rfl ?_;exact EK hd
 |some ls =>
 rw[hz]at f;simp only[vX]at f;have h:=eu hz hl;simp only;refine EJ ?_;refine zu f ?_
 match ls,h with
 |[],_ =>
 refine ze (aF [(2,25),(7,30),(14,37)] zz ?_);refine aD ?_;refine EJ ?_;refine z8 0 0 rfl rfl ?_;exact zj (zm hd EB (by simp[uc,zr]))
 |l::r,h =>
 have b8:(0:Int)<(r.length:Int)+1:=D9;have e2:¬(r.length:Int)+1=0:=D9;by_cases h2:l.length=2
 .match l,h2,h with
  |[a,b],_,h =>
  by_cases ha:a=qn
  .subst ha;have k1:yq .neq (bs qn) ⟨#[112,108,97,110]⟩=some (.bool false):=xe _;have a6:=VA b ((h.l [qn,b] EA).2 b EA);refine ze (aF [(2,25),(7,30),(14,37)] (zD b8 e2 k1) ?_);refine aC ?_;cases a8:yt b with
   |none =>
   have hb:uc ([qn,b]::r)=([],false):=by simp[uc,qf,a8]
   rw[a8]at a6;refine aF [] b8 ?_;refine zu a6 ?_;refine ze (EJ ?_);refine aD ?_;refine EJ ?_;refine z8 0 0 rfl rfl ?_;exact zj (zm hd EB (by simp[hb,zr]))
   |some n =>
   have h7:=Qk a8;have f6:zO b=(n:Nat):=by unfold zO;rw[a8];rfl
   rw[a8,f6]at a6;obtain⟨V,hV⟩:∃V,V=uc ([qn,b]::r):=⟨_,rfl⟩;have d2:V=match qp n r with|none=>([],false)|some q=>(q.2,decide (q.1=[])):=by rw[hV];simp[uc,qf,a8]
   rw[<-hV];have a9:qp n r=none->V=([],false):=λe=>by rw[d2,e]
   clear hV;obtain⟨ls,c6⟩:∃ls,ls=[qn,b]::r:=⟨_,rfl⟩;have f7:ls.drop 1=r:=by rw[c6];rfl
   obtain⟨j,e3⟩:∃j,j=wl ls:=⟨_,rfl⟩;have h9:j.length=ls.length:=by rw[e3,length_map]
   have i5:ls.length<=1048576:=by rw[c6];exact h.n
   have f8:1<=ls.length:=by rw[c6];simp
   have d9:∀(k:Nat) (l:Ln),ls[k]?=some l->j[k]?=some (l.map bs):=λk l e=>by rw[e3,Ai,e];rfl
   have e0:∀(k:Nat) (l:Ln),ls[k]?=some l->l.length<=1048576/\∀w∈l,w.length<=1048576:=λk l e=>h.l l (by rw[<-c6];exact Ab e);refine qj 2 0 96 1 rfl rfl λv3=>?_;refine aF [] b8 ?_;refine zu a6 ?_;refine ze (EJ ?_);refine aC (EJ ?_);refine ze (EJ ?_);refine zn (zF (λs:Nat × Nat × zG × Nat=>s.1<=n/\s.1<s.2.1/\s.2.1<=ls.length/\s.2.2.1.length=s.1/\qp n r=(qp (n-s.1) (ls.drop s.2.1)).map (λp=>(p.1,s.2.2.1++p.2))) (λ(d,c,p,w)=>[(2,.ptr nx v0 0),(4,.ptr (nx+1) v1 0),(5,.ptr (nx+2) v2 0),(6,L j),(8,I n),(10,I c),(11,I d)]) (λ(d,c,p,w)=>[.cells v0 31 [yi],.cells v1 31 [yi],.cells v2 31 [.sl (nx+3) w 1 0 d],.cells w 96 (p.flatMap enc)]) (λs=>n-s.1) (0,1,[],v3) [] ⟨Bx _,by simp,f8,rfl,by simp[f7]⟩ (by simp[e3,c6]) EA ?_);rintro⟨d,c,p,w⟩ ⟨f9,g0,g1,d3,i⟩;simp only at f9 g0 g1 d3 i ⊢;refine ze (EJ ?_);refine zA rfl (λhc=>?_) (λhc=>?_);simp at hc;have a0:n-d=(n-(d+1))+1:=D9;refine zk (aA ?_);by_cases e4:c<ls.length;obtain⟨l,a7⟩:∃l,ls[c]?=some l:=⟨_,Ac e4⟩;have o:ls.drop c=l::ls.drop (c+1):=by rw[AG e4];rw[Ac e4]at a7;rw[inj a7]
   obtain⟨g,tl,a1,-,-,f0⟩:=zH rfl j c D9;obtain rfl:g=l.map bs:=by rw[d9 _ _ a7]at a1;exact(inj a1).symm
   have u:c<j.length:=D9;have z:(c:Int)<j.length:=D9;have a3:¬(j.length:Int)<=c:=D9;have a4:¬j.length<=c:=D9;by_cases h3:l.length=2
   .match l,h3 with
    |[x,y],_ =>
    by_cases hx:x=qG
    .subst hx;have k2:yq .neq (bs qG) ⟨#[100,97,121]⟩=some (.bool false):=xe _;have c7:=VA y ((e0 _ _ a7).2 y EA);have w1:i64.wrap ((c:Int)+1)=((c+1:Nat):Int):=zy c D9;cases b7:yt y with
     |none =>
     have hb:=a9 (VB i a0 (by rw[o];simp[wu,qf,b7]));rw[b7]at c7;refine ze (aF [(4,67),(12,75)] (zN f0 u z a3 a4 k2) ?_);refine aC (aF [] (zD z u f0) ?_);refine zu c7 ?_;refine EJ ?_;refine ze (aF [(2,99)] zz ?_);refine aD ?_;refine EJ ?_;refine z8 0 0 rfl rfl ?_;exact zj (zm hd EB (by simp[hb,zr]))
     |some m =>
     have h8:=Qk b7;have g3:zO y=(m:Nat):=by unfold zO;rw[b7];rfl
     rw[b7,g3]at c7;have e5:wu (ls.drop c)=qb m (ls.drop (c+1)):=by rw[o];simp[wu,qf,b7]
     have w2:i64.wrap ((j.length:Int)-((c:Int)+1))=(j.length:Int)-((c:Int)+1):=wr _ D9 D9;by_cases e1:(j.length:Int)-((c:Int)+1)<m;have hb:=a9 (VB i a0 (by
      rw[e5];cases e:qb m (ls.drop (c+1)) with
      |none=>rfl
      |some q=>have:=(Vl (r:=q.1) (d:=q.2) e).2;rw[A7]at this;omega))
     refine ze (aF [(4,67),(12,75)] (zN f0 u z a3 a4 k2) ?_);refine aC (aF [] (zD z u f0) ?_);refine zu c7 ?_;refine aF [] w1 ?_;refine ze (aF [(2,99)] (zq w2 e1) ?_);refine aD ?_;refine EJ ?_;refine z8 0 0 rfl rfl ?_;exact zj (zm hd EB (by simp[hb,zr]));have e9:(p.flatMap enc:List PV).length=d:=(qJ p).trans d3;have f1:List.take d (p.flatMap enc)=(p.flatMap enc:List PV):=Ad D9;refine ze (aF [(4,67),(12,75)] (zN f0 u z a3 a4 k2) ?_);refine aC (aF [] (zD z u f0) ?_);refine zu c7 ?_;refine aF [] w1 ?_;refine ze (aF [(2,99)] (zq w2 e1) ?_);refine aC (EJ ?_);intro v4;refine qj 4 0 99 1 rfl rfl λv5=>?_;refine ze (EJ ?_);refine zn (zF (λs:Nat × Nat × zt × Nat=>s.1<=m/\c+1<=s.2.1/\s.2.1+(m-s.1)<=ls.length/\s.2.2.1.length=s.1/\qb m (ls.drop (c+1))=(qb (m-s.1) (ls.drop s.2.1)).map (λp=>(p.1,s.2.2.1++p.2))/\s.1<s.2.1) (λ(k,e,dt,w5)=>[(2,.ptr nx v0 0),(4,.ptr (nx+1) v1 0),(5,.ptr (nx+2) v2 0),(6,L j),(8,I n),(10,I e),(11,I d),(12,I m),(14,.ptr (nx+4) v4 0),(15,I k)]) (λ(k,e,dt,w5)=>[.cells v0 31 [yi],.cells v1 31 [yi],.cells v2 31 [.sl (nx+3) w 1 0 d],.cells w 96 (p.flatMap enc),.cells v4 96 [.sl (nx+5) w5 1 0 k],.cells w5 99 (dt.flatMap enc)]) (λs=>m-s.1) (0,c+1,[],v5) [] ⟨Bx _,by simp,by simp only;omega,rfl,by simp,by simp⟩ EA EA ?_);rintro⟨k,e,dt,w5⟩ ⟨g4,g5,g6,d4,a5,g7⟩;simp only at g4 g5 g6 d4 a5 g7 ⊢;refine ze (EJ ?_);refine zA rfl (λd5=>?_) (λd5=>?_)
     .simp at d5;have f3:m-k=(m-(k+1))+1:=D9;have e6:e<ls.length:=D9;obtain⟨l2,d6⟩:∃l2,ls[e]?=some l2:=⟨_,Ac e6⟩;have d7:ls.drop e=l2::ls.drop (e+1):=by rw[AG e6];rw[Ac e6]at d6;rw[inj d6]
      obtain⟨g2,i6,a2,-,-,f2⟩:=zH rfl j e D9;obtain rfl:g2=l2.map bs:=by rw[d9 _ _ d6]at a2;exact(inj a2).symm
      have f4:e<j.length:=D9;have f5:(e:Int)<j.length:=D9;have w3:i64.wrap ((e:Int)+1)=((e+1:Nat):Int):=zy e D9;obtain⟨t0,d8,g8⟩:=ZyA l2 (e0 _ _ d6);rw[d7]at a5;have g9:(dt.flatMap enc:List PV).length=k:=(qJ dt).trans d4;have h0:List.take k (dt.flatMap enc)=(dt.flatMap enc:List PV):=Ad D9;refine zk (aA ?_);cases c8:jL l2 with
      |none =>
      have hb:=a9 (VB i a0 (by rw[e5];exact ZyD a5 f3 c8));rw[c8]at d8;refine aF [] (zD f4 f5 f2) ?_;refine zu d8 ?_;intro v6;refine aF [] w3 ?_;refine ze (EJ ?_);refine aD ?_;refine EJ ?_;refine z8 0 0 rfl rfl ?_;exact zj (zm hd EB (by simp[hb,zr]))
      |some tt =>
      obtain rfl:=g8 tt c8;rw[c8]at d8;have e7:(dt++[t0]).flatMap enc=dt.flatMap enc++[L t0]:=by rw[Ap];rfl
      refine aF [] (zD f4 f5 f2) ?_;refine zu d8 ?_;intro v6;refine aF [] w3 ?_;refine ze (EJ ?_);refine aC (zi [] (zq g9 h0) ?_);refine⟨by omega,?_⟩;refine zg ?_;exact zv (k+1,e+1,dt++[t0],w5+1) [_] ⟨d5,by simp only;omega,by simp only;omega,by simp[d4],ZyE a5 f3 c8,by simp only;omega⟩ (by simp only;omega) (by simp[zy k D9]) rfl (by simp only[e7];rfl)
     simp at d5;obtain rfl:k=m:=D9;rw[Bk]at a5;simp only[qb,AU,Ay]at a5;have e8:∀id v cs,(dt.flatMap enc).map (qk id v cs)=(dt.flatMap enc:List PV):=λid v cs=>J5 id v cs dt;have h4:∀id v cs,(p.flatMap enc).map (qk id v cs)=(p.flatMap enc:List PV):=λid v cs=>J5 id v cs p;have e7:(p++[dt]).flatMap enc=p.flatMap enc++[L dt]:=by rw[Ap];rfl
     refine zB (yc 5 rfl ?_);simp only[Aw,Bf,AM,AR,xD,e8,h4];refine zi [] (zq e9 f1) ?_;refine⟨by omega,?_⟩;refine zg ?_;exact zv (d+1,e,p++[dt],w+1) [_,_] ⟨hc,by simp only;omega,by simp only;omega,by simp[d3],ZyC i a0 (by rw[e5,a5])⟩ (by simp only;omega) (by simp[zy d D9]) rfl (by simp only[e7];simp[d4];exact⟨rfl,rfl⟩)
    have k2:yq .neq (bs x) ⟨#[100,97,121]⟩=some (.bool true):=Zd (Z2 hx);have hb:=a9 (VB i a0 (by rw[o];simp[wu,qf,hx]));refine ze (aF [(4,67),(12,75)] (zN f0 u z a3 a4 k2) ?_);refine aD ?_;refine EJ ?_;refine z8 0 0 rfl rfl ?_;exact zj (zm hd EB (by simp[hb,zr]))
   have hb:=a9 (VB i a0 (by
    rw[o];have:qf qG l=none:=by unfold qf;split;simp at h3;rfl
    simp[wu,this]))
   have h5:¬(l.length:Int)=2:=D9;refine ze (aF [(4,67),(12,75)] (zN f0 u z a3 a4 (zD h3 h5 zz)) ?_);refine aD ?_;refine EJ ?_;refine z8 0 0 rfl rfl ?_;exact zj (zm hd EB (by simp[hb,zr]));have hb:=a9 (VB i a0 (by rw[BU D9];rfl));have a3:(j.length:Int)<=c:=D9;have a4:j.length<=c:=D9;refine ze (aF [(4,67),(12,75)] (zD a3 a4 zz) ?_);refine aD ?_;refine EJ ?_;refine z8 0 0 rfl rfl ?_;exact zj (zm hd EB (by simp[hb,zr]));simp at hc;obtain rfl:d=n:=D9;rw[Bk]at i;simp only[qp,AU,Ay]at i;rw[i]at d2;simp only at d2;have e8:∀id v cs,(p.flatMap enc).map (qk id v cs)=(p.flatMap enc:List PV):=λid v cs=>J5 id v cs p;have d0:(c=j.length)=(ls.drop c=[]):=by rw[CD];apply propext;omega
   have d1:((c:Int)=(j.length:Int))=(ls.drop c=[]):=by rw[<-d0];apply propext;omega
   refine zB (yc 3 rfl ?_);simp only[Aw,Bf,AM,AR,xD,e8];refine aF [] (zq d1 d0) ?_;exact zj (zm hd EB (by simp[zr,d2,d3,d0,d1]))
  have k1:yq .neq (bs a) ⟨#[112,108,97,110]⟩=some (.bool true):=Zd (Z2 ha);have hb:uc ([a,b]::r)=([],false):=by simp[uc,qf,ha]
  refine ze (aF [(2,25),(7,30),(14,37)] (zD b8 e2 k1) ?_);refine aD ?_;refine EJ ?_;refine z8 0 0 rfl rfl ?_;exact zj (zm hd EB (by simp[hb,zr]))
 have hb:uc (l::r)=([],false):=by
  have:qf qn l=none:=by unfold qf;split;simp at h2;rfl
  simp[uc,this]
 have h6:¬(l.length:Int)=2:=D9;refine ze (aF [(2,25),(7,30),(14,37)] (yp b8 e2 h2 h6 zz) ?_);refine aD ?_;refine EJ ?_;refine z8 0 0 rfl rfl ?_;exact zj (zm hd EB (by simp[hb,zr]))
def ZyG(z:Int)(h0:0<=z)(h:z<=1000000000000000000):PP 29 [I z] (T (bs (zJ z))):=by have:=dY z.toNat D9;rwa[CM h0]at this
def wdP(w:Wd)(l:Ln):PV:=.tup [I (((qf w l).getD 0:Nat):Int),B (qf w l).isSome]
def lG(w:Wd)(l:Ln)(hl:l.length<=1048576/\∀w∈l,w.length<=1048576):PP 55 [L (l.map bs),T (bs w)] (wdP w l):=by
 refine c9 func55 λS nx c=>?_;by_cases h2:l.length=2
 .match l,h2,hl with
  |[a,b],_,hl =>
  by_cases d:a=w;subst d;have k1:=xe (bs a);have hn:=VA b (hl.2 b EA);refine ze (aF [(3,9)] k1 ?_);refine aC (EJ ?_);refine zu hn ?_;exact zj (zm c EB (by simp[zr,wdP,qf,zO]));have k1:=Zd (Z2 d);refine ze (aF [(3,9)] k1 ?_);refine aD ?_;refine EJ ?_;exact zj (zm c EB (by simp[zr,wdP,qf,d]))
 have:qf w l=none:=by unfold qf;split;simp at h2;rfl
 have e:¬(l.length:Int)=2:=D9;refine ze (aF [(3,9)] (zD e h2 zz) ?_);refine aD ?_;refine EJ ?_;exact zj (zm c EB (by simp[zr,wdP,this]))
def FZ(ws:Ln)(k:Nat):(zW (ws.take k)).length<=(zW ws).length:=by
 rw[J1,J1,AA];have:((ws.take k).map List.length).sum<=(ws.map List.length).sum:=by
  induction ws generalizing k with
  |nil=>simp
  |cons a ws b =>
  cases k with
  |zero=>simp
  |succ k=>have:=b k;rw[CK,Aw,BE,Aw,BE];omega
 omega
def bu(t s:List UInt8):Bool:=match yO s with
 |none=>false
 |some ls=>decide ((yn t).2=0)&&Wb (yn t).1 (yn t).1.days.toNat ls
def ZyH(t s:List UInt8)(ht:t.length<=1048576)(hs:s.length<=1048576)(e6:∀ls,yO s=some ls->LnsSz ls)(d0:(yn t).2=0->(yn t).1.y.length<=900):PP 23 [T (bs t),T (bs s)] (B (bu t s)):=by
 have g6:=Zyq t ht;have a2:=eL s hs;have e7:=λh=>eM ht h;obtain⟨u,r⟩:∃u,u=bu t s:=⟨_,rfl⟩;rw[<-r];unfold bu at r;generalize (yn t).1=x at *;generalize (yn t).2=e at *;refine c9 func23 λS nx v=>?_;refine EJ ?_;refine zu g6 ?_;intro v0;cases hz:yO s with
 |none =>
 rw[hz]at a2 r;simp only[vX]at a2 r;refine EJ ?_;refine zu a2 ?_;by_cases h0:e=0;refine ze (aF [(2,33),(6,37),(14,45),(21,52),(29,60)] (zq h0 zz) ?_);refine aD ?_;refine EJ ?_;exact zj (zm v EB (by simp[zr,r]));refine ze (aF [(2,33),(6,37),(14,45),(21,52),(29,60)] (zq h0 zz) ?_);refine zo (by simp[h0]) ?_;refine EJ ?_;exact zj (zm v EB (by simp[zr,r]))
 |some ls =>
 rw[hz]at a2 r;simp only[vX]at a2 r;by_cases h0:e=0;rotate_left;refine EJ ?_;refine zu a2 ?_;refine ze (aF [(2,33),(6,37),(14,45),(21,52),(29,60)] (zq h0 zz) ?_);refine zo (by simp[h0]) ?_;refine EJ ?_;exact zj (zm v EB (by simp[zr,r,h0]));obtain⟨hx,hm,-⟩:=e7 h0;have b8:=eu hz hs;have c6:=JT _ (Ag _) hz;have d2:=e6 ls hz;have g7:=d0 h0;have j2:=(Zg hm).days;have d1:=FU hm;clear e6 e7 d0;subst h0;obtain⟨n,hn⟩:∃n:Nat,x.days=n:=⟨x.days.toNat,by omega⟩;rw[show x.days.toNat=n by omega,decide_eq_true rfl,BP]at r;have w4:i64.wrap (4+x.days)=4+x.days:=wr _ D9 D9;refine EJ ?_;refine zu a2 ?_;by_cases a4:ls.length<4+n;have a6:(ls.length:Int)<4+x.days:=D9;have r:u=false:=by rw[r];unfold Wb;rw[if_pos (.inl a4)]
 refine ze (aF [(2,33),(6,37),(14,45),(21,52),(29,60)] (zD w4 a6 zz) ?_);refine aD ?_;refine EJ ?_;exact zj (zm v EB (by simp[zr,r]));obtain⟨l0,l1,l2,l3,q0,rfl⟩:∃l0 l1 l2 l3 q0,ls=l0::l1::l2::l3::q0:=by
  rcases ls with _|⟨l0,_|⟨l1,_|⟨l2,_|⟨l3,q0⟩⟩⟩⟩
  all_goals first|exact⟨_,_,_,_,_,rfl⟩|(simp at a4;done)|(simp at a4;omega)
 have g8:=b8.n;simp only[Ae]at g8 a4;have a6:¬(q0.length:Int)+1+1+1+1<4+x.days:=D9;have c7:(0:Int)<(q0.length:Int)+1+1+1+1:=D9;have g9:(1:Int)<(q0.length:Int)+1+1+1+1:=D9;have h4:(2:Int)<(q0.length:Int)+1+1+1+1:=D9;have h5:(3:Int)<(q0.length:Int)+1+1+1+1:=D9;have a5:l0≠[jE,qn]->u=false:=λe=>by rw[r];unfold Wb;rw[if_pos (.inr e)]
 by_cases h2:l0.length=2;rotate_left;have h6:¬(l0.length:Int)=2:=D9;have r:=a5 (by rintro rfl;exact h2 rfl);refine ze (aF [(2,33),(6,37),(14,45),(21,52),(29,60)] (zN w4 a6 c7 h2 h6 zz) ?_);refine aD ?_;refine EJ ?_;exact zj (zm v EB (by simp[zr,r]));obtain⟨a,b,rfl⟩:∃a b,l0=[a,b]:=by obtain _|⟨a,_|⟨b,_|⟨c,l⟩⟩⟩:=l0;all_goals first|exact⟨_,_,rfl⟩|(simp at h2)
 by_cases ha:a=jE;rotate_left;have k1:yq .neq (bs a) ⟨#[111,117,116,99,111,109,101]⟩=some (.bool true):=Zd (Z2 ha);have r:=a5 (by simp[ha]);refine ze (aF [(2,33),(6,37),(14,45),(21,52),(29,60)] (yp w4 a6 c7 k1 zz) ?_);refine aD ?_;refine EJ ?_;exact zj (zm v EB (by simp[zr,r]));subst ha;have k1:yq .neq (bs jE) ⟨#[111,117,116,99,111,109,101]⟩=some (.bool false):=xe _;by_cases hb:b=qn;rotate_left;have k2:yq .neq (bs b) ⟨#[112,108,97,110]⟩=some (.bool true):=Zd (Z2 hb);have r:=a5 (by simp[hb]);refine ze (aF [(2,33),(6,37),(14,45),(21,52),(29,60)] (yp w4 a6 c7 k1 k2) ?_);refine aD ?_;refine EJ ?_;exact zj (zm v EB (by simp[zr,r]));subst hb;have k2:yq .neq (bs qn) ⟨#[112,108,97,110]⟩=some (.bool false):=xe _;refine ze (aF [(2,33),(6,37),(14,45),(21,52),(29,60)] (yp w4 a6 c7 k1 k2) ?_);refine aC ?_;have d3:=lG xX l1 (b8.l l1 EA);have d4:=lG Za l2 (b8.l l2 EA);have d5:=lG Zb l3 (b8.l l3 EA);have f:u=match qf xX l1,qf Za l2,qf Zb l3 with
   |some b,some c,some h=>(match jZ (([jE,qn]::l1::l2::l3::q0).drop (4+n)) with
    |none=>false
    |some p=>decide (xJ x p=0)&&(range n).all (Jl x p ([jE,qn]::l1::l2::l3::q0))&&decide ((b:Int)<=c/\(c:Int)=qW x p/\(h:Int)=W (qe x p x.y.length)))
   |_,_,_=>false:=by
  rw[r];unfold Wb;rw[if_neg (by simp only[Ae,Ds,ne_eq,not_true_eq_false,or_false];omega)];rfl
 clear a5 r;unfold wdP at d3 d4 d5;generalize qf xX l1=o1 at *;generalize qf Za l2=o2 at *;generalize qf Zb l3=o3 at *;obtain⟨b1,c1⟩:∃b:Int,b=((o1.getD 0:Nat):Int):=⟨_,rfl⟩;obtain⟨b2,c2⟩:∃b:Int,b=((o2.getD 0:Nat):Int):=⟨_,rfl⟩;obtain⟨b3,c3⟩:∃b:Int,b=((o3.getD 0:Nat):Int):=⟨_,rfl⟩;obtain⟨s1,g1⟩:∃s,s=o1.isSome:=⟨_,rfl⟩;obtain⟨s2,g2⟩:∃s,s=o2.isSome:=⟨_,rfl⟩;obtain⟨s3,g3⟩:∃s,s=o3.isSome:=⟨_,rfl⟩;rw[<-c1,<-g1]at d3;rw[<-c2,<-g2]at d4;rw[<-c3,<-g3]at d5;refine aF [] g9 ?_;refine zu d3 ?_;refine aF [] h4 ?_;refine zu d4 ?_;refine aF [] h5 ?_;refine zu d5 ?_;obtain _|bd:=o1;obtain rfl:s1=false:=g1;have a3:u=false:=f;refine ze (aF [(2,91),(6,95)] zz ?_);refine aD ?_;refine EJ ?_;exact zj (zm v EB (by simp[zr,a3]));obtain _|co:=o2;obtain rfl:s1=true:=g1;obtain rfl:s2=false:=g2;have a3:u=false:=f;refine ze (aF [(2,91),(6,95)] zz ?_);refine aD ?_;refine EJ ?_;exact zj (zm v EB (by simp[zr,a3]));obtain _|ho:=o3;obtain rfl:s1=true:=g1;obtain rfl:s2=true:=g2;obtain rfl:s3=false:=g3;have a3:u=false:=f;refine ze (aF [(2,91),(6,95)] n' ?_);refine aD ?_;refine EJ ?_;exact zj (zm v EB (by simp[zr,a3]));obtain rfl:s1=true:=g1;obtain rfl:s2=true:=g2;obtain rfl:s3=true:=g3;obtain rfl:b1=bd:=c1;obtain rfl:b2=co:=c2;obtain rfl:b3=ho:=c3;refine ze (aF [(2,91),(6,95)] n' ?_);refine aC (EJ ?_);refine ze (aF [] w4 ?_);obtain⟨ls,d6⟩:∃ls,ls=[jE,qn]::l1::l2::l3::q0:=⟨_,rfl⟩;have j1:ls.length=q0.length+1+1+1+1:=by rw[d6];rfl
 rw[<-d6]at f c6 d2;obtain⟨Q,hQ⟩:∃Q,Q=ls.drop (4+n):=⟨_,rfl⟩;simp only[<-hQ]at f;have j3:Q.length=ls.length-(4+n):=by rw[hQ,A7]
 have c8:∀l∈Q,l∈ls:=λl hl=>by rw[hQ]at hl;exact By hl
 have d7:(zV Q).length<=1048576:=by
  have e:zV ls=zV (ls.take (4+n))++zV Q:=by rw[<-XW,hQ,List.take_append_drop]
  rw[c6.1]at e;rw[e]at hs;simp only[length_append]at hs;omega
 have h7:yO (zV Q)=some Q:=aJ (λl hl=>c6.2.1 l (c8 l hl)) (λl hl w hw=>c6.2.2 l (c8 l hl) w hw);have h8:=ZyF (zV Q) d7;rw[h7]at h8;simp only at h8;have a7:=ZyB Q;have e8:(wl ls).length=ls.length:=by rw[length_map]
 refine zn (zF (λk:Nat=>k<=Q.length) (λk=>[(5,.ptr nx v0 0),(7,L (wl ls)),(9,I bd),(11,I co),(13,I ho),(15,T (bs (zV (Q.take k)))),(16,I ((4+n+k:Nat):Int))]) (λ_=>[.cells v0 25 (zE x)]) (λk=>Q.length-k) 0 [] (Bx _) (by simp[d6,hn,zV]) EA ?_);rintro k hk
 (try simp only at hk ⊢)
 obtain⟨i,hi⟩:∃i,i=4+n+k:=⟨_,rfl⟩;rw[<-hi];refine ze (EJ ?_);refine zA rfl (λhc=>?_) (λhc=>?_);simp at hc;have e9:k<Q.length:=D9;obtain⟨l,d8⟩:∃l,Q[k]?=some l:=⟨_,Ac e9⟩;have f2:ls[i]?=some l:=by rw[hi,<-d8,hQ,AL]
 obtain⟨g,tl,a1,-,-,f0⟩:=zH rfl (wl ls) i (by rw[e8];exact hc);obtain rfl:g=l.map bs:=by rw[Ai,f2]at a1;exact(inj a1).symm
 have f3:=Ab d8;have j4:=bh f3;have k0:=(d2.2 l (c8 l f3));have h9:=ky l D9 D9 (λj=>by have:=FZ l j;omega);have i5:zV (Q.take (k+1))=zV (Q.take k)++(zW l++[10]):=by rw[Ax,d8];exact dE _ _
 have k6:(zV (Q.take k)).length<=1048576:=by
  have e:zV Q=zV (Q.take k)++zV (Q.drop k):=by rw[<-XW,List.take_append_drop]
  rw[e]at d7;simp only[length_append]at d7;omega
 have f4:=Qt (zV (Q.take k)) (zW l++[10]) (by simp only[length_append,AZ];omega);rw[<-i5]at f4;refine zk (aA (zi [] (zq f0 hc) ?_));refine yK [] h9 f4 ?_;refine zg ?_;exact zv (k+1) [] e9 D9 (by simp[zy i D9];omega) rfl rfl;simp at hc;obtain rfl:k=Q.length:=D9;rw[Ah];refine zB (EJ ?_);refine zu h8 ?_;intro v1;generalize uc Q=V at *;obtain⟨p,ok⟩:=V;simp only at a7;cases ok with
 |false =>
 rw[if_neg EA]at a7;rw[a7]at f;simp only at f;refine ze (aF [(2,122)] zz ?_);refine aD ?_;refine EJ ?_;exact zj (zm v EB (by simp[zr,f]))
 |true =>
 rw[if_pos rfl]at a7;rw[a7]at f;simp only at f;have a9:=FW a7 (d2.sub c8 D9);have d9:=PS x p hx a9.sz;by_cases hE:xJ x p=0
 .obtain⟨-,k7,-,-⟩:=aS hE;have f5:=a9.serves hE;have e0:=SZ x p f5 D9 d1 a9.days;have f6:=sO x p f5 D9 d1;obtain⟨-,-,i6,-⟩:=FL g7 (by have:=a9.ak.n;omega) hE;rw[hE]at d9;rw[decide_eq_true hE,BP]at f;refine ze (aF [(2,122)] n' ?_);refine yK [(2,122)] d9 n' ?_;refine aC ?_;refine ze (EJ ?_);refine zn (zF (λd:Nat=>d<=n/\∀e,e<d->Jl x p ls e=true) (λd=>[(5,.ptr nx v0 0),(7,L (wl ls)),(9,I bd),(11,I co),(13,I ho),(17,.ptr (nx+1) v1 0),(19,I d)]) (λ_=>[.cells v0 25 (zE x),.cells v1 31 [L p]]) (λd=>n-d) 0 [] ⟨Bx _,λe h=>absurd h D9⟩ EA EA ?_);rintro d ⟨i7,e1⟩
  (try simp only at i7 e1 ⊢)
  refine ze (EJ ?_);refine zA rfl (λe2=>?_) (λe2=>?_)
  .simp at e2;have f7:d<n:=D9;have y:d<p.length:=D9;obtain⟨K,hK⟩:∃K,ls[4+d]?=some K:=⟨_,Ac D9⟩;obtain⟨g,tl,a1,-,-,f0⟩:=zH rfl (wl ls) (4+d) (by rw[e8];omega);obtain rfl:g=K.map bs:=by rw[Ai,hK]at a1;exact(inj a1).symm
   have f8:ls.getD (4+d) []=K:=by rw[Aa,hK];rfl
   have b7:K≠[qG,zQ d,zJ ((yX x p).getD d 0)]->u=false:=λe=>by
    rw[f];have:(range n).all (Jl x p ls)=false:=by rw[Bl];exact⟨d,by simpa using f7,by unfold Jl;rw[f8,decide_eq_false e];decide⟩
    rw[this];rfl
   have u1:i64.wrap (4+(d:Int))=4+(d:Int):=wr _ D9 D9;have u2:(4+(d:Int)).toNat=4+d:=D9;have u3:(0:Int)<=4+(d:Int):=D9;have u4:4+(d:Int)<ls.length:=D9;have u5:4+d<ls.length:=D9;obtain⟨dy,k8,c1,-,-,f1⟩:=zH rfl p d y;have m:(d:Int)<p.length:=D9;have e3:=dY d D9;have f9:=nM x dy (a9.days dy (Ab c1));have g0:(yX x p).getD d 0=W (yl x dy):=by unfold yX;rw[Aa,Ai,c1];rfl
   have i8:=i6 (W (yl x dy)) (by unfold yX;exact Ak.2 ⟨dy,Ab c1,rfl⟩);have g4:=ZyG (W (yl x dy)) i8.1 D9;rw[g0]at b7;generalize W (yl x dy)=z at *;refine zk (aA (aF [] (zN u1 u2 u3 u4 u5 f0) ?_));by_cases h3:K.length=3
   .obtain⟨a,b,c,rfl⟩:∃a b c,K=[a,b,c]:=by
     rcases K with _|⟨a,_|⟨b,_|⟨c,_|⟨d,l⟩⟩⟩⟩
     all_goals first|exact⟨_,_,_,rfl⟩|(simp at h3;done)
    by_cases ha:a=qG;subst ha;have k3:yq .neq (bs qG) ⟨#[100,97,121]⟩=some (.bool false):=xe _;by_cases hb:b=zQ d;subst hb;have k4:=xe (bs (zQ d));by_cases e4:c=zJ z;subst e4;have k5:=xe (bs (zJ z));refine aG (some [nx,nx+1]) R6 (zN k3 k4 k5 f1 y m) ?_;refine zK (e3) (zN k3 k4 k5 f1 y m) ?_;refine zK (f9) (zN k3 k4 k5 f1 y m) ?_;refine zK (g4) (zN k3 k4 k5 f1 y m) ?_;refine aC (zg ?_);exact zv (d+1) [] ⟨f7,λe he=>by by_cases q:e=d;subst q;unfold Jl;rw[f8,g0];simp;exact e1 e D9⟩ D9 (by simp[zy d D9]) rfl rfl;have k5:=Zd (Z2 e4);rw[b7 (by simp[e4])];refine aG (some [nx,nx+1]) R6 (zN k3 k4 k5 f1 y m) ?_;refine zK (e3) (zN k3 k4 k5 f1 y m) ?_;refine zK (f9) (zN k3 k4 k5 f1 y m) ?_;refine zK (g4) (zN k3 k4 k5 f1 y m) ?_;refine aD ?_;refine EJ ?_;exact EK v;have k4:=Zd (Z2 hb);rw[b7 (by simp[hb])];refine aG (some [nx,nx+1]) R6 (zD k3 k4 zz) ?_;refine zK (e3) (zD k3 k4 zz) ?_;refine aD ?_;refine EJ ?_;exact EK v;have k3:yq .neq (bs a) ⟨#[100,97,121]⟩=some (.bool true):=Zd (Z2 ha);rw[b7 (by simp[ha])];refine aG (some [nx,nx+1]) R6 (zq k3 zz) ?_;refine aD ?_;refine EJ ?_;exact EK v
   have j0:¬(K.length:Int)=3:=D9;rw[b7 (by rintro rfl;exact h3 rfl)];refine aG (some [nx,nx+1]) R6 (zD j0 h3 zz) ?_;refine aD ?_;refine EJ ?_;exact EK v
  simp at e2;obtain rfl:d=n:=D9;have g5:(range d).all (Jl x p ls)=true:=by rw[Av];intro e he;exact e1 e (AI.1 he)
  rw[g5,BP]at f;refine zB ?_;generalize qW x p=C at *;generalize W (qe x p x.y.length)=H at *
  by_cases q1:(bd:Int)<=co;have a0:=eq_true q1;have o:=eq_true (show bd<=co by omega);by_cases q2:(co:Int)=C;have a8:=eq_true q2;by_cases q3:(ho:Int)=H;have e5:=eq_true q3;refine aF [(3,173),(10,180)] (zM a0 o a8 e5) ?_;refine yK [(3,173),(10,180)] e0 (zM a0 o a8 e5) ?_;refine yK [(3,173),(10,180)] f6 (zM a0 o a8 e5) ?_;exact zj (zm v EB (by simp[zr,f,q2,q3];omega));refine aF [(3,173),(10,180)] (zM a0 o a8 q3) ?_;refine yK [(3,173),(10,180)] e0 (zM a0 o a8 q3) ?_;refine yK [(3,173),(10,180)] f6 (zM a0 o a8 q3) ?_;exact zj (zm v EB (by simp[zr,f,q3]));refine aF [(3,173),(10,180)] (zM a0 o q2 zz) ?_;refine yK [(3,173),(10,180)] e0 (zM a0 o q2 zz) ?_;exact zj (zm v EB (by simp[zr,f,q2]));have o:¬bd<=co:=D9;refine aF [(3,173),(10,180)] (zD q1 o zz) ?_;exact zj (zm v EB (by simp[zr,f,q1,o]))
 have a3:u=false:=by rw[f,decide_eq_false hE];rfl
 rw[a3];generalize xJ x p=e at *
 refine ze (aF [(2,122)] n' ?_);refine yK [(2,122)] d9 n' ?_;refine zo (by simp[hE]) ?_;refine EJ ?_;exact EK v
def jG{α:Type}[Enc α](l:List (List α))(D:Nat)(x:PV):List PV:=(l.flatMap enc).set D x
section
variable {α:Type} [Enc α]
@[simp] theorem ZC8(D:Nat)(x:PV):jG ([]:List (List α)) D x=[]:=by simp[jG]
@[simp] theorem Ga(l:List (List α))(D:Nat)(x:PV):(jG l D x).length=l.length:=by rw[jG,Bv];exact qJ l
@[simp] theorem ZyI(l:List (List α))(D:Nat)(x:PV):(jG l D x).take l.length=jG l D x:=Ad EA
variable {D:Nat}
def ZyJ{l:List (List α)}(h:l.length≠D)(x:PV)(y:List α):jG l D x++[L y]=jG (l++[y]) D x:=by unfold jG;rw[Ap];by_cases a:D<l.length;rw[Df _ _ (by rw[qJ];exact a)];simp;rw[Bw _ _ (by rw[qJ];omega),Cs (by rw[qJ];omega),Cs (by rw[qJ];simp;omega)];simp
def ZyK{l:List (List α)}(h:l.length=D)(a x:PV)(y:List α):jG l D a++[x]=jG (l++[y]) D x:=by unfold jG;rw[Ap,Cs (by rw[qJ];omega),Bw _ _ (by rw[qJ];omega),qJ,h,Bk];simp
def Gb(id v:Nat)(cs:List PV)(l:List (List α))(D:Nat)(x:PV):(jG l D x).map (qk id v cs)=jG l D (qk id v cs x):=by rw[jG,map_set,HE];rfl
def ZyL{l:List (List α)}(h:D<l.length)(x:PV):∃tl',(jG l D x).drop D=x::tl':=by
 unfold jG;rw[List.drop_set,if_neg D9,Bk];cases e:(l.flatMap enc).drop D with
 |nil=>have:=congrArg List.length e;rw[A7,qJ]at this;simp at this;omega
 |cons a b=>exact⟨b,rfl⟩
def ZyM(l:List (List α))(D:Nat)(y:List α):jG l D (L y)=(l.set D y).flatMap enc:=by
 have e:∀l:List (List α),l.flatMap enc=l.map L:=λl=>by induction l<;>simp_all
 rw[jG,e,e,map_set]
end
section
variable {P:Program} {r:Rd} {n nx N:Nat} {Q:Exit->(Nat->PV)->Store->Prop} {F:Nat->PV} {S:Store} {obs:List Ob} {c:Code}
def ZyN{l:List Ob}(h:∀i,l.getD i .dead=obs.getD i .dead\/l.getD i .dead=.dead)(o:Nat):ext S nx l o=ext S nx obs o\/ext S nx l o=.dead:=by simp only[ext];split;exact .inl rfl;exact h _
end
theorem eN:∀(t:List UInt8) (out:List Ln) (a:Ln) (cur:Wd) {ls:List Ln},wO out a cur t=some ls->∃r,ls=out++r
 |[],out,a,cur,ls,h=>by rw[eK]at h;split at h;cases h;exact⟨[],by simp⟩;cases h
 |c::t,out,a,cur,ls,h=>by rw[Vz]at h;split at h;split at h;cases h;split at h;obtain⟨r,rfl⟩:=eN t _ _ _ h;exact⟨_,by rw[append_assoc]⟩;exact eN t _ _ _ h;split at h;exact eN t _ _ _ h;cases h
def ZyO(t:List UInt8)(hl:t.length<=1048576)(ls:List Ln)(e5:yO t=some ls)(j:Nat)(row:Ln)(hj:ls[j]?=some row)(hd:yh nx S):
  SP 20 [T (bs t)] S (λq S'=>∃v w,q=.tup [.sl nx v 1 0 ls.length,I 0]/\S'=ext S nx [.cells v 52 (jG (wl ls) j (.sl (nx+1) w 1 0 row.length)),.cells w 9 ((row.map bs).flatMap enc)]):=by
 have e6:wO [] [] [] t=some ls:=by rw[FR t.length t [] (Ag _),e5];simp
 obtain⟨B,hB⟩:∃B,B=bs t:=⟨_,rfl⟩;have a8:B.size=t.length:=by rw[hB,xK]
 have hg:∀k,B[k]?=t[k]?:=λk=>by rw[hB];exact XX t k
 have e7:∀a b,B.extract a b=bs (xg t a b):=λa b=>by rw[hB];exact XY t a b
 rw[<-hB];have g9:j<ls.length:=(Af.1 hj).1;refine ZI hd func20 ntmps20 results20 ?_;refine EJ ?_;refine EJ ?_;refine qa 4 52 1 rfl λw0=>?_;refine EJ ?_;refine qa 5 9 1 rfl λv0=>?_;refine EJ ?_;refine ze (EJ ?_);refine zn (zF (λs:Bool × Nat × Nat × Ln × List Ln × Nat × Nat × Nat=>(s.1=true->s.2.2.2.2.1.length<=j)/\(s.1=false->j<s.2.2.2.2.1.length)/\(s.2.2.1<=s.2.1/\s.2.1<=t.length/\s.2.2.2.1.length<=s.2.1/\s.2.2.2.2.1.length<=s.2.1)/\some ls=wO s.2.2.2.2.1 s.2.2.2.1 (xg t s.2.2.1 s.2.1) (t.drop s.2.1)) (λ(ph,i,fr,m,d,w,v,kw)=>[(0,T B),(4,.sl nx w 1 0 d.length),(5,.sl (nx+bif ph then 1 else 2) v 1 0 m.length),(6,I fr),(7,I i)]) (λ(ph,i,fr,m,d,w,v,kw)=>bif ph then [.cells w 52 ((wl d).flatMap enc),.cells v 9 ((m.map bs).flatMap enc)] else [.cells w 52 (jG (wl d) j (.sl (nx+1) kw 1 0 row.length)),.cells kw 9 ((row.map bs).flatMap enc),.cells v 9 ((m.map bs).flatMap enc)]) (λs=>t.length-s.2.1) (true,0,0,[],[],w0,v0,0) [] ⟨by simp,by simp,by simp,by simp[e6,xg]⟩ EA EA ?_);rintro⟨ph,i,fr,m,d,w,v,kw⟩ ⟨g,n,⟨h1,h2,h3,h4⟩,f⟩;simp only at g n h1 h2 h3 h4 f ⊢;have b8:=λ(l:Ln) (r:List UInt8) (e:some ls=wO (d++[l]) [] [] r)=>eN r _ _ _ e.symm;cases ph;all_goals
  simp only[cond_true,cond_false];refine ze (aF [] a8 ?_);refine zA rfl (λhc=>?_) (λhc=>?_)
  .simp at hc;obtain⟨c,a1⟩:∃c,t[i]?=some c:=⟨_,Ac hc⟩;have e8:=(hg i).trans a1;have e9:t.drop i=c::t.drop (i+1):=by rw[AG hc];rw[Ac hc]at a1;cases a1;rfl
   rw[e9,Vz]at f;have o:=zy i D9;have a4:=FSq a1 h1;refine zk (aA (aF [] e8 ?_));by_cases u:c=32\/c=10
   .rw[if_pos u]at f;have c6:xg t fr i≠[]:=λh=>by rw[if_pos h]at f;cases f
    have c7:¬i=fr:=λh=>c6 (by rw[h];exact QF _ _);have a5:¬(i:Int)=(fr:Int):=D9;rw[if_neg c6]at f;have f0:(c.toNat:Int)=32\/(¬(c.toNat:Int)=32/\(c.toNat:Int)=10):=by obtain rfl|rfl:=u;exact .inl rfl;exact .inr ⟨by decide,rfl⟩
    have a9:c.toNat=10<->c=10:=⟨λh=>UInt8.toNat_inj.1 h,λh=>by rw[h];rfl⟩;clear u;have c8:=e7 fr i;have f1:((m.map bs).flatMap enc:List PV).length=m.length:=by rw[ju];simp[Enc.sz]
    have f2:List.take m.length ((m.map bs).flatMap enc:List PV)=(m.map bs).flatMap enc:=Ad (by rw[f1];exact Ag _);have f3:((m++[xg t fr i]).map bs).flatMap enc=(m.map bs).flatMap enc++[T (bs (xg t fr i))]:=by rw[map_append,Ap];rfl
    have d0:(m++[xg t fr i]).length=m.length+1:=EA;have f4:fr<=i:=h1;have f5:i<=B.size:=by rw[a8];exact h2
    obtain d1|⟨d1,d2⟩:=f0;rotate_left;have a2:¬c.toNat=32:=D9;have d3:(c.toNat=10)=True:=eq_true D9;have a6:=eq_true d2;refine ze (aF [(2,20)] (zM d1 a2 a6 d3) ?_);refine zp (by simp[d3,a6]) ?_;rotate_left;have a2:(c.toNat=32)=True:=eq_true D9;have a7:=eq_true d1;refine ze (aF [(2,20)] (zD a7 a2 zz) ?_);refine zp (by simp[a2,a7]) ?_;all_goals
     refine zk ?_;refine ze (aF [] (zq c7 a5) ?_);refine zp (by simp[c7,a5]) ?_;refine zk (aF [] (zM f4 f5 c8 f2) ?_);refine⟨by omega,?_⟩;have d4:(m++[xg t fr i]).length<=i+1:=by rw[d0];omega
     rw[<-f3,<-d0];generalize m++[xg t fr i]=l at *;refine aF [] o ?_;by_cases y:c=10
     .have z:((c.toNat:Int)=10)=True:=eq_true (by rw[y];rfl);have p:(c.toNat=10)=True:=eq_true (a9.2 y);rw[if_pos y]at f;refine aF [] (zq z p) ?_;refine zo (by simp[z,p]) ?_;have a3:(d++[l]).length=d.length+1:=EA;have a0:(d++[l]).length<=i+1:=by rw[a3];omega
      have d5:PV.lst l.length ((l.map bs).flatMap enc)=L (l.map bs):=by unfold L;rw[length_map]
      have d6:(wl d).length=d.length:=length_map _;have d7:((wl d).flatMap enc:List PV).length=d.length:=by rw[ju];simp[Enc.sz]
      have d8:List.take d.length ((wl d).flatMap enc:List PV)=(wl d).flatMap enc:=Ad (by rw[d7];exact Ag _);have f6:∀x,List.take d.length (jG (wl d) j x)=jG (wl d) j x:=λx=>by have:=ZyI (wl d) j x;rwa[d6]at this
      have f7:∀x,(jG (wl d) j x).length=d.length:=λx=>by rw[Ga,d6]
      have d9:wl (d++[l])=wl d++[l.map bs]:=EA;obtain q|q|q:=Nat.lt_trichotomy j d.length
      .try (exfalso;first|(have:=g rfl;omega)|(have:=n rfl;omega))
       all_goals
        have b7:∀x,jG (wl (d++[l])) j x=jG (wl d) j x++[L (l.map bs)]:=λx=>by rw[d9];exact(ZyJ D9 x _).symm
        refine yc 2 rfl ?_;refine ze (x8 [] EF EF λK Gc Gh hK f8 f9 X e0 hX=>?_);simp -implicitDefEqProofs [e0,hX,d5,f6,f7,Gb];try clear e0 hX X
        refine⟨by omega,?_⟩;refine hK _ _ _ ?_;clear hK f8 f9;clear K Gc Gh;refine zg ?_;refine fC [_,_] [.dead] rfl ?_;refine qa 5 9 1 rfl λv1=>?_;refine zg ?_;exact zv (false,i+1,i+1,[],d++[l],w+1,v1,kw) [] ⟨λe=>(by cases e),λ_=>by simp only;omega,⟨Ag _,hc,Bx _,a0⟩,by rw[f,QF]⟩ (by simp only;omega) (by simp[o,a3]) rfl (by simp only[b7,cond_false];rfl)
      .try (exfalso;first|(have:=g rfl;omega)|(have:=n rfl;omega))
       all_goals
        obtain⟨r,hr⟩:=b8 l _ f;obtain rfl:row=l:=by rw[hr,append_assoc,Ao D9,q,Bk]at hj;exact(inj hj).symm
        have b7:∀x,jG (wl (d++[row])) j x=(wl d).flatMap enc++[x]:=λx=>by rw[d9,<-ZyK D9 x x];unfold jG;rw[Cs D9]
        refine aF [] (zq d8 d7) ?_;refine⟨by omega,?_⟩;refine zg ?_;refine qa 5 9 1 rfl λv1=>?_;refine zg ?_;exact zv (false,i+1,i+1,[],d++[row],w+1,v1,v+1) [] ⟨λe=>(by cases e),λ_=>by simp only;omega,⟨Ag _,hc,Bx _,a0⟩,by rw[f,QF]⟩ (by simp only;omega) (by simp[o,a3]) rfl (by simp only[b7,cond_false];rfl)
      try (exfalso;first|(have:=g rfl;omega)|(have:=n rfl;omega))
      all_goals
       have g0:(wl (d++[l])).flatMap enc=(wl d).flatMap enc++[L (l.map bs)]:=by rw[wl,map_append,Ap];rfl
       refine yc 1 rfl ?_;refine aF [] (zq d5 d8) ?_;refine⟨by omega,?_⟩;refine zg ?_;refine fC [_] [.dead] rfl ?_;refine qa 5 9 1 rfl λv1=>?_;refine zg ?_;exact zv (true,i+1,i+1,[],d++[l],w+1,v1,0) [] ⟨λ_=>by simp only;omega,λe=>(by cases e),⟨Ag _,hc,Bx _,a0⟩,by rw[f,QF]⟩ (by simp only;omega) (by simp[o,a3]) rfl (by simp only[g0,cond_true];rfl)
     have z:¬(c.toNat:Int)=10:=λh=>y (a9.1 D9);have p:¬c.toNat=10:=λh=>y (a9.1 h);rw[if_neg y]at f;refine aF [] (zq z p) ?_;refine zp (by simp[z,p]) ?_;refine zk (zg ?_);first
      |exact zv (false,i+1,i+1,l,d,w,v+1,kw) [] ⟨g,n,⟨Ag _,hc,d4,Bq h4⟩,by rw[f,QF]⟩ (by simp only;omega) (by simp[o]) rfl rfl
      |exact zv (true,i+1,i+1,l,d,w,v+1,kw) [] ⟨g,n,⟨Ag _,hc,d4,Bq h4⟩,by rw[f,QF]⟩ (by simp only;omega) (by simp[o]) rfl rfl
   rw[if_neg u]at f;have n1:¬(c.toNat:Int)=32:=λh=>u (.inl (UInt8.toNat_inj.1 (by show c.toNat=32;omega)));have n2:¬(c.toNat:Int)=10:=λh=>u (.inr (UInt8.toNat_inj.1 (by show c.toNat=10;omega)));have g3:¬c.toNat=32:=D9;have g4:¬c.toNat=10:=D9;have e1:QE c:=Classical.byContradiction λh=>by rw[if_neg h]at f;cases f
   rw[if_pos e1]at f;obtain⟨g1,g2⟩:=e1;have g5:¬(c.toNat:Int)<33:=D9;have g6:¬126<(c.toNat:Int):=D9;have e2:¬c.toNat<33:=D9;have e3:¬126<c.toNat:=D9;refine ze (aF [(2,20)] (zM n1 g3 n2 g4) ?_);refine zo (by simp[*]) ?_;refine ze (aF [(2,26)] (zM g5 g6 e2 e3) ?_);refine zp (by simp[*]) ?_;refine zk (zB (zg ?_));first
    |exact zv (false,i+1,fr,m,d,w,v,kw) [] ⟨g,n,⟨Bq h1,hc,Bq h3,Bq h4⟩,by rw[f,a4]⟩ (by simp only;omega) (by simp[o]) rfl rfl
    |exact zv (true,i+1,fr,m,d,w,v,kw) [] ⟨g,n,⟨Bq h1,hc,Bq h3,Bq h4⟩,by rw[f,a4]⟩ (by simp only;omega) (by simp[o]) rfl rfl
  simp at hc;obtain rfl:i=t.length:=D9;rw[Bh,eK]at f;refine zB ?_;split at f;rotate_left;cases f;rename_i hq;obtain⟨g7,rfl⟩:=hq;obtain rfl:ls=d:=inj f;have g8:¬fr<t.length:=λh=>by have:=congrArg List.length g7;rw[lB D9]at this;simp at this;omega
  have e4:¬(fr:Int)<(t.length:Int):=D9;try (exfalso;have:=g rfl;omega)
  all_goals
   refine ze (aF [(4,52)] (zD a8 g8 e4) ?_);refine aC (EJ ?_);refine zj ⟨_,_,by simp;rfl,⟨w,kw,by simp[zr],rfl⟩,ZyN λi=>?_⟩
   match i with
   |0=>exact .inl rfl
   |1=>exact .inl rfl
   |i+2=>exact .inr rfl
def ZyP(x:Int):0<=J9 x/\J9 x<=127:=by
 have key:∀z:Int,0<=bits BinOp.and i64 z 127/\bits BinOp.and i64 z 127<=127:=λz=>by
  show 0<=i64.wrap ((BitVec.ofInt 64 z &&& BitVec.ofInt 64 127).toNat:Int)/\i64.wrap ((BitVec.ofInt 64 z &&& BitVec.ofInt 64 127).toNat:Int)<=127;have:(BitVec.ofInt 64 z &&& BitVec.ofInt 64 127).toNat<=127:=by rw[BitVec.toNat_and];exact Nat.and_le_right
  rw[AD];omega
 exact key _
theorem Gd(ps:List Nat):∀k,0<=Z4 ps k/\Z4 ps k<=127
 |0=>by simp[Z4]
 |k+1=>by have:=Gd ps k;have:=ZyP (ps.getD k 0);unfold Z4 ez;split<;>omega
def ZyQ{c:Cust}(h:CustFits c){n:Int}(h1:1<=n)(hn:n<=60):0<=Zf c n cap/\Zf c n cap<=127:=by
 unfold Zf;split;exact Gd _ _;split;omega;split;omega;rename_i hm;have e:=h.H;have hs:=h.Q;have a:0<=YR c n/\YR c n<=1000000000000:=by have d:0<=c.H*n/\c.H*n<=2147483648*60:=⟨CF D9 D9,CG D9 hn D9 D9⟩;have e2:W (c.H*n)=c.H*n:=wr _ D9 D9;have b:W (c.H*n-c.Q)=c.H*n-c.Q:=wr _ D9 D9;unfold YR jU;rw[e2,b];split<;>omega
 generalize YR c n=w at *;have hc:0<=Q9 w (xk cap c.size):=by
  generalize xk cap c.size=m at *;have d:0<=w.tdiv m/\w.tdiv m<=w:=by rw[BQ a.1];exact⟨Int.ediv_nonneg a.1 D9,Int.ediv_le_self _ a.1⟩
  have e2:W (w.tdiv m)=w.tdiv m:=wr _ D9 D9;have b:W (w.tdiv m+1)=w.tdiv m+1:=wr _ D9 D9;unfold Q9;rw[e2,b];split<;>omega
 generalize Q9 w (xk cap c.size)=z at *;unfold xk;split<;>omega
theorem Ge{x:Inst}(h:jk x)(c:Nat):∀k,0<=Z5 x c k/\Z5 x c k<=2147483648
 |0=>h _ _
 |k+1=>by have:=Ge h c k;have:=h (k:Int) (c:Int);unfold Z5 xk;split;split<;>omega;omega
theorem Gf:∀k,(∀i,i<k->0<=f i)->0<=vE f k
 |0,_=>by simp[vE]
 |k+1,h=>by have:=Gf k λi hi=>h i D9;have:=h k D9;unfold vE vQ;split;omega;split<;>omega
def Gg{x:Inst}(h:InstQ x n)(l:List Int):0<=Jj x n l/\Jj x n l<=9223372036854775807:=by
 have c:=h.k.a;obtain⟨-,-,e,-⟩:=Vs (Zg h.m).J;have hb:0<=Xc x:=Gf _ λi hi=>by
  have hc:x.y.getD i default∈x.y:=by rw[Aa,Ac hi];exact AY hi
  have h1:=h.t.n1;have h2:=c.ae;have p:=c.days;have q:=ZyQ (c.aa _ hc).ad (n:=x.days) (cap:=x.R) D9 D9;have e2:0<=(wW x).getD i 0/\(wW x).getD i 0<=2147483648:=by
   have:(wW x).getD i 0=Z5 x (i+1) (x.y.length+1):=by unfold wW;simp[Aa,hi]
   rw[this];exact Ge e _ _
  generalize Zf (x.y.getD i default) x.days x.R=f at *;generalize (wW x).getD i 0=g at *;have j:0<=g*f/\g*f<=2147483648*127:=⟨CF D9 D9,CG D9 D9 D9 D9⟩;have o:W (g*f)=g*f:=wr _ D9 D9;rw[o];exact j.1
 have d:zU (Xc x):=by
  unfold Xc;cases x.y.length with
  |zero=>exact bp
  |succ k=>exact kU _ _
 have hv:∀a b,zU (Xd x n a b):=λa b=>kU _ _;unfold Jj Vw Vt;generalize wN x _=a;generalize (vn x n _ _).i=b;have:=hv a b;unfold zU at this d;unfold jU;split<;>omega
def ZyR{x:Inst}{p:zG}(h:PlanG x n p):PlanTold p:=by have f:=h.af;have e:=h.a.ae;have b:=λd b=>Qq (x:=x) D9 (h.ab d b);refine⟨by rw[h.len];omega,λd q=>by have:=b d q;omega,λd q t c=>?_,λd q t c s hs=>?_⟩;have:=(Dt c).length_le;have:=b d q;omega;have:=W4 (h.ab d q) s (BA.2 ⟨t,c,hs⟩);simp[jx]at this;omega
def ZyS{x:Inst}(h:InstQ x n):∀c∈x.y,CustSm c:=λc hc=>by obtain⟨k,a,b,l,r1,r2,r3,r4,r5⟩|⟨k,q,s,t,d,ho,e,f⟩:=Vr ((Zg h.m).ai c hc);exact⟨by omega,by omega,by omega⟩;exact⟨by omega,by omega,by omega⟩
def Gi{x:Inst}(h:InstQ x n)(l:List Int):RepTold (ZC x n l):=by
 have hb:=Gg h l;have o:=h.k.a;have w:=h.af;unfold ZC Vq;split;rename_i hf;have r:(wy x n l).2=0:=by unfold Zy at hf;split at hf;assumption;rename_i q;exact absurd hf q
 have g:=lF h (ww l) (yA l 1).toNat (yA l 2) r;obtain⟨-,-,e,-⟩:=Vs (Zg h.m).J;have b:=ZyS h;have j:=g.len;have s:=o.ae;have y:=dS b (wy x n l).1 x.y.length;have t:=tG e b D9 (p:=(wy x n l).1) (by show (Q8 x n _ _ _).1.length<=1000;omega) g.ab;have u:=dT e (wy x n l).1 λd c=>by have:=Qq (x:=x) D9 (g.ab d c);omega
 have f:zU (qW x (wy x n l).1):=Jd _;have i:∀d∈(wy x n l).1,0<=W (yl x d)/\W (yl x d)<=9223372036854775807:=λd c=>by have:=Qq (x:=x) D9 (g.ab d c);have h3:=cY e d;have:W (yl x d)=yl x d:=wr _ D9 D9;omega
 refine⟨hb,?_,?_,?_,?_,ZyR g⟩;unfold zU at f;show 0<=qW x (wy x n l).1/\qW x (wy x n l).1<=9223372036854775807;omega;have:W (qe x (wy x n l).1 x.y.length)=qe x (wy x n l).1 x.y.length:=wr _ D9 D9;show 0<=W _/\W _<=_;omega;show (yX x _).length<=1000;unfold yX;rw[length_map];show (Q8 x n _ _ _).1.length<=1000;omega;intro z v;obtain⟨d,c,rfl⟩:=Ak.1 v;exact i d c;exact⟨hb,by simp,by simp,by simp,by simp,⟨by simp,by simp,by simp,by simp⟩⟩
def ZyT{x:Inst}(h:InstQ x n)(l:List Int):PP 9 [.agg (Vh (ZC x n l))] (T (bs (zV (j9 (ZC x n l))))):=by have a:=Gi h l;have hb:=Gg h l;unfold ZC Vq at a ⊢;split at a;rename_i hf;rw[if_pos hf];exact FB _ rfl a;rename_i hf;rw[if_neg hf];exact Zx0 _ _ _ _ _ hb
def ZyU{x:Inst}(h:InstQ x n)(l:List Int):PP 18 [T (bs (zV (j8 x))),L l] (T (bs (zV (j9 (ZC x n l))))):=by have h1:=Zys h l;have h2:=ZyT h l;generalize zV (j9 (ZC x n l))=z at *;generalize zV (j8 x)=t at *;generalize ZC x n l=r at *;refine c9 func18 λS nx a=>?_;refine EJ ?_;refine zu h1 ?_;refine zu h2 ?_;exact EK a
end Go.Proofs.YtdjbbndbalhekaaGreatDoor.Pv
