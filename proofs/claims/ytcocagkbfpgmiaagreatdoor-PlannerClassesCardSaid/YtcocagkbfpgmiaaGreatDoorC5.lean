/- Part of a proof, packed. -/
import Derived.Test.YtcocagkbfpgmiaaGreatDoorC4
open Go.Proofs.Tryz
set_option maxRecDepth 100000
set_option maxHeartbeats 3200000
namespace Go.Proofs.YtcocagkbfpgmiaaGreatDoor.Pv
open Go
section
variable {P:Program} {r:Rd} {n N:Nat} {Q:Exit->(Nat->PV)->Store->Prop} {F:Nat->PV} {c:Code}
theorem ZoR{S1 T:Store}{G:Nat->PV}{id ver e:Nat}{cs:List PV}(hid:S1 id=.cells ver e cs)(hT:T id=.dead)(hat:∀o,T o=.dead\/T o=S1 o\/T o=xA id ver cs (S1 o))
  (hG:∀i,G i=F i\/G i=qp id ver cs (F i)) (h:PW P r n N c Q G T):PW P r n N c Q F S1:=by
 refine Z8 (F':=G) (S':=T) (λC w a st=>?_) h;have hver:∀o v,(T o).ver=some v->(S1 o).ver=some v:=by
  intro o v hv;rcases hat o with q | q | q
  ·rw[q]at hv;cases hv
  ·simp_all
  ·grind[ZdH]
 have hne:∀o,T o≠.dead->S1 o≠.dead:=by
  intro o ho hd;rcases hat o with q | q | q
  ·exact ho q
  ·simp_all
  ·simp_all
 have hM:∀b,C.M T b->C.M S1 b:=λb ⟨o,k,ho,hl⟩=>⟨o,k,hne o ho,hl⟩
 have hstep:Step C S1 w C T w:=⟨rfl,⟨rfl,Af _⟩,rfl,Af _,Af _,Af _,λb _ hb=>⟨rfl,λh=>hb (hM b h)⟩,λo v1 hv=>.inr ⟨v1,hver o v1 hv,Af _,λ_=>rfl⟩⟩;have hrel:∀{p u},Rel C S1 w p u->Rel C T w (qp id ver cs p) u:=λh=>WR st.sim hid hT hne hstep h
 refine⟨C,⟨⟨λo ho=>st.sim.lt o (hne o ho),λo v hv=>st.sim.clk o v (hver o v hv),λo o' b k k' ho ho'=>st.sim.dist o o' b k k' (hne o ho) (hne o' ho'),?_,?_⟩,st.size,λi=>?_,r.keep hstep st.v⟩,hstep⟩
 ·intro o v e' ds ho;rcases hat o with q | q | q
  ·simp_all
  ·rw[q]at ho;rcases st.sim.cells o v e' ds ho with hn | ⟨b,k,c,h1,h2,h3,h4,h5,h6⟩
   ·exact .inl hn
   ·exact .inr ⟨b,k,c,h1,h2,h3,h4,h5,λi p u hp hu=>(h6 i p u hp hu).mono hstep⟩
  ·rw[q]at ho;cases hs:S1 o with
   | dead=>simp_all
   | map v es=>simp_all
   | cells v2 e2 ds2 =>
    rw[hs]at ho;cases ho;rcases st.sim.cells o _ _ ds2 hs with ⟨h1,h2⟩ | ⟨b,k,c,h1,h2,h3,h4,h5,h6⟩<;>grind
 ·intro o v es ho;have hs:S1 o=.map v es:=by
   rcases hat o with q | q | q
   ·simp_all
   ·simp_all
   ·rw[q]at ho;cases hs:S1 o with
    | dead=>simp_all
    | map v es=>simp_all
    | cells v2 e2 ds2=>simp_all
  obtain⟨b,k,ms,cl,h1,h2,h3,h4⟩:=st.sim.maps o v es hs;exact⟨b,k,ms,cl,h1,h2,h3,λi x m hx hm=>⟨(h4 i x m hx hm).1,(h4 i x m hx hm).2.mono hstep⟩⟩
 ·rcases hG i with q | q
  ·rw[q];exact(st.fr i).mono hstep
  ·rw[q];exact hrel (st.fr i)
def vp{α:Type}(base sz:Nat)(ws:Nat->Nat)(rows:List (List α)):List PV:=(List.range rows.length).map λi=>.sl (base+i) (ws i) sz 0 (rows.getD i []).length
theorem Zb1{α:Type}(base sz:Nat)(ws:Nat->Nat)(rows:List (List α)):(vp base sz ws rows).length=rows.length:=by simp[vp]
theorem Zgk{α:Type}(base sz:Nat)(ws:Nat->Nat)(rows:List (List α))(i:Nat)(h:i<rows.length):(vp base sz ws rows)[i]?=some (.sl (base+i) (ws i) sz 0 (rows.getD i []).length):=by
 simp[vp,h]
theorem Zb2{α:Type}(base sz:Nat)(ws:Nat->Nat)(rows:List (List α))(i:Nat)(h:i<rows.length):∃tl,(vp base sz ws rows).drop i=.sl (base+i) (ws i) sz 0 (rows.getD i []).length :: tl:=by
 refine⟨(vp base sz ws rows).drop (i+1),?_⟩
 grind[vp,List.drop_eq_getElem_cons]
structure RowsAt {α:Type} [Enc α] (T:Store) (A va tA base e sz:Nat) (ws:Nat->Nat) (rows:List (List α)):Prop where
 arr:T A=.cells va tA (vp base sz ws rows)
 row:∀i,i<rows.length->T (base+i)=.cells (ws i) e ((rows.getD i []).flatMap Enc.enc)
 out:A<base
theorem RowsAt.other{α:Type}[Enc α]{T T':Store}{A va tA base e sz:Nat}{ws:Nat->Nat}{rows:List (List α)}(h:RowsAt T A va tA base e sz ws rows)(hT:∀o,o=A\/(base<=o/\o<base+rows.length)->T' o=T o):RowsAt T' A va tA base e sz ws rows :=
 ⟨(hT A (.inl rfl)).trans h.arr,λi hi=>(hT _ (.inr ⟨by omega,by omega⟩)).trans (h.row i hi),h.out⟩
theorem RowsAt.turn{α:Type}[Enc α]{T T':Store}{A va tA base e sz:Nat}{ws:Nat->Nat}{rows:List (List α)}(h:RowsAt T A va tA base e sz ws rows){i:Nat}(hi:i<rows.length)(w:Nat)(l:List α)
  (hA:T' A=.cells va tA ((vp base sz ws rows).set i (.sl (base+i) w sz 0 l.length))) (hB:T' (base+i)=.cells w e (l.flatMap Enc.enc)) (hT:∀o,o≠A->o≠base+i->T' o=T o):RowsAt T' A va tA base e sz (λk=>if k=i then w else ws k) (rows.set i l):=by
 have hout:=h.out;refine⟨?_,λk hk=>?_,h.out⟩
 ·rw[hA];congr 1;apply AX
  grind[Zb1,Zgk]
 ·rw[BJ]at hk
  by_cases hki:k=i
  ·simp_all
  ·rw[hT _ DB DB,h.row k hk,if_neg hki]
   grind
theorem ZoS{α:Type}(base sz:Nat)(ws:Nat->Nat)(m:Nat):vp (α:=α) base sz ws (List.replicate m [])=(List.range m).map λi=>.sl (base+i) (ws i) sz 0 0:=by simp_all[vp]
theorem Zgl{α:Type}[Enc α](A va tA base e sz m:Nat)(hAb:A<base):∀(j k:Nat) (T:Store) (ws:Nat->Nat),k+j=m->T A=.cells va tA ((List.range k).map (λi=>.sl (base+i) (ws i) sz 0 0)++List.replicate j (.sc (.slice none 0 0))) ->
  (∀i,i<k->T (base+i)=.cells (ws i) e [])->zX (base+k) T ->
  (∀(T':Store) (ws':Nat->Nat),RowsAt T' A va tA base e sz ws' (List.replicate m ([]:List α))->(∀o,o≠A->o<base->T' o=T o)->zX (base+m) T'->PW P r n N c Q F T')->PW P r n N c Q F T
 | 0,k,T,ws,hk,hA,hrow,hd,h=>by
  obtain rfl:k=m:=DB
  refine h T ws ⟨by rw[hA,ZoS];simp,λi hi=>?_,hAb⟩ (λ_ _ _=>rfl) hd
  simp_all
 | j+1,k,T,ws,hk,hA,hrow,hd,h=>by
  have hget:((List.range k).map (λi=>PV.sl (base+i) (ws i) sz 0 0)++List.replicate (j+1) (.sc (.slice none 0 0)))[k]?=some (.sc (.slice none 0 0)):=by
   rw[Ai DC];simp
  refine Zaz (o:=A) k e sz hA hget (Zp (X:=λid v=>PW P r n N c Q F ((T.set id (.cells v e [])).set A (.cells va tA (((List.range k).map (λi=>PV.sl (base+i) (ws i) sz 0 0)++List.replicate (j+1) (PV.sc (.slice none 0 0))).set k (.sl id v sz 0 0))))) (base+k) (hd _ (Af _)) λv=>?_);refine Zgl A va tA base e sz m hAb j (k+1) _ (λi=>if i=k then v else ws i) DB ?_ ?_ ?_ λT' ws' hR hT' hd'=>h T' ws' hR (λo ho hob=>?_) hd'
  ·rw[q11];congr 1;rw[Bw _ _ DC,AT,List.map_append];simp only[List.length_map,List.length_range,Bp,Bu,AW,AD,Bk,if_true];rw[List.append_assoc];congr 1;refine Bd λi hi=>?_
   have:=AH.1 hi;rw[if_neg DB]
  ·intro i hi;rw[q10 _ _ _ _ DB]
   by_cases hik:i=k
   ·subst hik;rw[q11,if_pos rfl]
   ·rw[q10 _ _ _ _ DB,if_neg hik];exact hrow i DB
  ·intro i hi;rw[q10 _ _ _ _ DB,q10 _ _ _ _ DB];exact hd i DB
  grind[q10]
theorem ZoT{α:Type}[Enc α](A va tA base e sz m:Nat){T:Store}(hA:T A=.cells va tA (List.replicate m (.sc (.slice none 0 0))))(hd:zX base T)
  (h:∀(T':Store) (ws:Nat->Nat),RowsAt T' A va tA base e sz ws (List.replicate m ([]:List α))->(∀o,o≠A->o<base->T' o=T o)->zX (base+m) T'->PW P r n N c Q F T'):PW P r n N c Q F T:=by
 have hAb:A<base:=by
  rcases Be A base with q | q
  ·exact q
  ·rw[hd A q]at hA;cases hA
 exact Zgl A va tA base e sz m hAb m 0 T (λ_=>0) DB (by simpa using hA) (λi hi=>by omega) DB h
theorem Zgm{nx:Nat}{S:Store}{obs:List Ob}{id ver e0:Nat}{cs:List PV}(i e sz:Nat)(hlt:id<nx)(hs:S id=.cells ver e0 cs)(hi:cs[i]?=some (.sc (.slice none 0 0)))
  (h:∀v,PW P r n N c Q F (ext (S.set id (.cells ver e0 (cs.set i (.sl (nx+obs.length) v sz 0 0)))) nx (obs++[.cells v e []]))):PW P r n N c Q F (ext S nx obs) :=
 Zaz (o:=id) i e sz (by simp_all[zE]) hi (Zp (X:=λid' v=>PW P r n N c Q F (((ext S nx obs).set id' (.cells v e [])).set id (.cells ver e0 (cs.set i (.sl id' v sz 0 0))))) _ uC λv=>by
  rw[qU,yZ _ hlt];exact h v)
end
open Go Go.Proofs
instance:Enc Mv:=⟨λm=>uI m,5,λ_=>rfl,λ_=>rfl⟩
@[simp] theorem Zwy(m:Mv):Enc.enc m=uI m:=rfl
@[simp high] theorem Zwz(l:List Mv):(l.flatMap Enc.enc).length=l.length*5:=qO l
@[simp high] theorem ZwA(l:List Mv):(l.flatMap Enc.enc).take (l.length*5)=l.flatMap Enc.enc:=Yd l
open Go Go.Proofs Hp
abbrev xq(x:Inst)(v:PV)(b:Int)(p f pr:PV):List PV:=[I x.days,I x.veh,I x.cap,I x.len,L x.cust,L x.dist,v,I b,p,f,pr]
theorem ZoU{S:Store}{id ver idF vF:Nat}(x:Inst)(v p pr:PV)(b:Int)(fs:List Int)(hS:S id=.cells ver 235 (xq x v b p (.sl idF vF 1 0 fs.length) pr))(hF:S idF=.cells vF 47 (fs.flatMap Enc.enc))(hl:fs.length<=1000):
  Spec prog 212 [.ptr id ver 0] S (λq S'=>q=I (js fs)/\S'=S):=by
 refine yi func212 ntmps212 results212 λnx hd=>?_
 have hlt:id<nx:=yU hd hS DC;have hltF:idF<nx:=yU hd hF DC;have xw:=λobs=>zE (S:=S) (obs:=obs) hlt
 have xf:=λobs=>zE (S:=S) (obs:=obs) hltF
 refine DK ?_
 repeat apply ze
 refine zi [] (zt xw hS) ?_;refine zn (zJ (λk:Nat=>k<=fs.length/\∀e∈fs.take k,e=0) (λk=>[(8,.sl idF vF 1 0 fs.length),(9,I fs.length),(10,I k)]) (λ_=>[]) (λk=>fs.length-k) 0 [] DC DC DC ?_);rintro k ⟨hk,h0⟩;refine DK ?_;refine ze (zz rfl (λhc=>?_) (λhc=>?_))
 ·simp at hc;obtain⟨e,tl,a1,a2,a3,e0⟩:=zL rfl fs k hc;refine zk (ze (zn (ze (zi [] (zN xf hF e0 hc) ?_))));refine DK ?_
  by_cases he:e=0
  ·repeat apply ze
   refine zp (by simp[he]) ?_;refine zk (zg ?_);exact zv (k+1) [] ⟨hc,λy hy=>by rw[a3]at hy;rcases AG.1 hy with h | h;exact h0 y h;rw[AZ.1 h];exact he⟩ DB (by simp[zA k (by omega)]) rfl DC
  ·repeat apply ze
   refine zo (by simp[he]) ?_;refine DK ?_;exact zj ⟨_,S,rfl,⟨by simp[zq,ZbW h0 a1 he],rfl⟩,zU hd⟩
 ·simp at hc;obtain rfl:k=fs.length:=DB
  rw[Ag]at h0;refine zC (DK ?_);exact zj ⟨_,S,rfl,⟨by simp[zq,Vu h0],rfl⟩,zU hd⟩
theorem ZoV{S:Store}{id ver idD vD idF vF:Nat}{x:Inst}{v:List (List Visit)}{b:Int}{pr:PV}{ds:zH}{fs:List Int}{n:Nat}(k:Nat)(hS:S id=.cells ver 235 (xq x (L v) b (.sl idD vD 1 0 ds.length) (.sl idF vF 1 0 fs.length) pr))
  (hD:S idD=.cells vD 39 (ds.flatMap Enc.enc)) (hF:S idF=.cells vF 47 (fs.flatMap Enc.enc)) (d1:id≠idD) (d2:id≠idF) (d3:idD≠idF) (hx:InstH x) (hv:VsOk x.cust.length n v) (hb:b<=9223372036854775807) (hdl:ds.length<=1000) (hfl:fs.length<=1000) :
  Spec prog 211 [.ptr id ver 0,I k] S (λ_ S'=>S'=((S.set id (.cells ver 235 (xq x (L v) b (.sl idD (vD+1) 1 0 (ds.length+1)) (.sl idF (vF+1) 1 0 (fs.length+1)) pr))).set idD (.cells (vD+1) 39 ((ds++[(uq x b (j7 v k x.cust.length)).1]).flatMap Enc.enc))).set idF
   (.cells (vF+1) 47 ((fs++[(uq x b (j7 v k x.cust.length)).2]).flatMap Enc.enc))):=by
 have hst:=ZoQ x v k n hx.cust hv;have hso:=ZnX (Zgi hx hv k) hx.diag hb;generalize j7 v k x.cust.length=st at hst hso ⊢;generalize uq x b st=r at hso ⊢;obtain⟨d,e⟩:=r;simp only at hso ⊢;refine yi func211 ntmps211 results211 λnx hd=>?_
 have hlt:id<nx:=yU hd hS DC;have hltD:idD<nx:=yU hd hD DC;have hltF:idF<nx:=yU hd hF DC;have xw:=λobs=>(zE (S:=S) (obs:=obs) hlt).trans hS
 have xd:=λobs=>(zE (S:=S) (obs:=obs) hltD).trans hD
 have xf:=λobs=>(zE (S:=S) (obs:=obs) hltF).trans hF
 have g1:¬nx<=id:=DB
 have g2:¬nx<=idD:=DB
 have g3:¬nx<=idF:=DB
 have yw:=λ(o:Ob) obs=>(zE (S:=S.set idD o) (obs:=obs) hlt).trans ((q10 _ _ _ _ d1).trans hS)
 have zw:=λ(o o':Ob) obs=>(zE (S:=(S.set idD o).set id o') (obs:=obs) hlt).trans (q11 _ _ _)
 have zf:=λ(o o':Ob) obs=>(zE (S:=(S.set idD o).set id o') (obs:=obs) hltF).trans ((q10 _ _ _ _ d2.symm).trans ((q10 _ _ _ _ d3.symm).trans hF))
 have uw:=λ(o o' o'':Ob) obs=>(zE (S:=((S.set idD o).set id o').set idF o'') (obs:=obs) hlt).trans ((q10 _ _ _ _ d2).trans (q11 _ _ _))
 refine ze (zB (some [id]) (Row.pures [0,1,2,3,4,5,6,7,8,9,10,11,12,13,14,15,16,17,18,19,20,21] (.alt 22 (.alt 23 (Row.pures [24] .done) .stop) .stop)) mixed xw ?_);refine zP (hst) xw ?_;refine zP (hso) xw ?_;intro v2;refine ze (zB (some [nx]) (Row.pures [0,1,2,3,4,6,7] (.alt 5 (.alt 8 (Row.pures [9,10,11] (.alt 12 (.done) .stop)) .stop) .stop)) mixed (yq xw xd yw g1 g2) ?_);refine⟨by omega,?_⟩;refine zi [] (yq zw zf uw g1 g3) ?_;refine⟨by omega,?_⟩;have e1:∀(a b c d:Ob),(((S.set idD a).set id b).set idF c).set id d=((S.set id d).set idD a).set idF c:=by
  intro a b c d;funext i;simp only[Store.set]
  by_cases h1:i=id
  ·subst h1;simp[d1,d2]
  ·simp only[h1,if_false]
 have hdd:∀(a b c:Ob),zX nx (((S.set id a).set idD b).set idF c):=by
  intro a b c i hi;rw[q10 _ _ _ _ DB,q10 _ _ _ _ DB,q10 _ _ _ _ DB];exact hd i hi
 rw[e1];exact⟨_,_,rfl,by simp,zU (hdd _ _ _)⟩
theorem ZoW{S:Store}{id ver:Nat}(x:Inst)(v p f pr:PV)(b:Int)(fn:FuncId)(fs:List PV)(n:Nat)(hn:x.days=n)(hn2:n<=1000)(hS:S id=.cells ver 235 (xq x v b p f pr))(St:Nat->Store)(h0:St 0=S)
  (hSt:∀nx,zX nx S->∀k,k<=n->zX nx (St k)) (hstep:∀k,k<n->Spec prog fn (fs++[I k]) (St k) (λ_ S'=>S'=St (k+1))) :
  Spec prog 173 [.ptr id ver 0,.fn (.func fn) fs []] S (λ_ S'=>S'=St n):=by
 refine yi func173 ntmps173 results173 λnx hd=>?_
 have hlt:id<nx:=yU hd hS DC;have xw:=λobs=>(zE (S:=S) (obs:=obs) hlt).trans hS
 have hSt:=hSt nx hd;refine ze (zi [] (zt xw hn) ?_);refine zn (jo (σ:=Nat) (λk=>k<=n) (λk=>[(1,.fn (.func fn) fs []),(9,I n),(10,I k)]) (λk=>St k) (λ_=>[]) (λk=>n-k) (zT 0 [] DC DC h0 DC) ?_);rintro k hk;refine DK ?_;refine ze (zz rfl (λhc=>?_) (λhc=>?_))
 ·simp at hc;refine zk (ze (zn (DK ?_)));refine zg ?_;refine λhsuf=>(Spec.mono (by rw[qy (hSt k hk)];simpa using hstep k hc) ?_).v
  rintro _ _ rfl;refine⟨St (k+1),[],(qy (hSt (k+1) hc)).symm,zQ hsuf ?_⟩;refine zg ?_;exact zv (k+1) [] hc DB (by simp[zA k (by omega)]) rfl DC
 ·simp at hc;obtain rfl:k=n:=DB
  refine zC ?_;exact⟨_,_,rfl,rfl,zU (hSt k (Af _))⟩
theorem ZoX{S:Store}{nx id ver:Nat}(hd:zX nx S){x:Inst}{v:List (List Visit)}{v0 p0 f0 pr:PV}{b:Int}{n:Nat}(hS:S id=.cells ver 235 (xq x v0 b p0 f0 pr))(hx:InstH x)(hn:x.days=n)(hn2:n<=1000)(hv:VsOk x.cust.length n v)(hb:b<=9223372036854775807):
  Spec prog 176 [.ptr id ver 0,L v] S (λq S'=>q=I (js (jl x v b n))/\∃vD vF,S'=ext (S.set id (.cells ver 235 (xq x (L v) b (.sl nx vD 1 0 (xN x v b n).length) (.sl (nx+1) vF 1 0 (jl x v b n).length) pr))) nx
   [.cells vD 39 ((xN x v b n).flatMap Enc.enc),.cells vF 47 ((jl x v b n).flatMap Enc.enc)]):=by
 have hpl:=Zb0 x v b;have hfl:=Zgj x v b;refine uE hd func176 ntmps176 results176 ?_;have hlt:id<nx:=yU hd hS DC;have g1:¬nx<=id:=DB
 have xw:=λobs=>(zE (S:=S) (obs:=obs) hlt).trans hS
 have yw:=λ(o:Ob) obs=>(zE (S:=S.set id o) (obs:=obs) hlt).trans (q11 _ _ _)
 refine DK ?_;refine ze (zi [] (zN xw yw g1 Store.set_set) ?_);refine Zgm (id:=id) 8 39 1 hlt (q11 _ _ _) rfl λvD=>?_
 rw[Store.set_set];refine Zgm (id:=id) 9 47 1 hlt (q11 _ _ _) rfl λvF=>?_
 rw[Store.set_set];simp only[AR,AW,Au,A6,List.cons_append,AM,Bs,AQ];generalize hSt:(λk:Nat=>ext (S.set id (.cells ver 235 (xq x (L v) b (.sl nx (vD+k) 1 0 (xN x v b k).length) (.sl (nx+1) (vF+k) 1 0 (jl x v b k).length) pr))) nx
   [.cells (vD+k) 39 ((xN x v b k).flatMap Enc.enc),.cells (vF+k) 47 ((jl x v b k).flatMap Enc.enc)])=St
 have hSk:∀k,St k=ext (S.set id (.cells ver 235 (xq x (L v) b (.sl nx (vD+k) 1 0 (xN x v b k).length) (.sl (nx+1) (vF+k) 1 0 (jl x v b k).length) pr))) nx
   [.cells (vD+k) 39 ((xN x v b k).flatMap Enc.enc),.cells (vF+k) 47 ((jl x v b k).flatMap Enc.enc)]:=λk=>by rw[<-hSt]
 have h0:St 0=ext (S.set id (.cells ver 235 (xq x (L v) b (.sl nx vD 1 0 0) (.sl (nx+1) vF 1 0 0) pr))) nx [.cells vD 39 [],.cells vF 47 []]:=hSk 0;have hid:∀k,St k id=.cells ver 235 (xq x (L v) b (.sl nx (vD+k) 1 0 (xN x v b k).length) (.sl (nx+1) (vF+k) 1 0 (jl x v b k).length) pr):=λk=>by rw[hSk k,zE hlt,q11]
 have hstep:∀k,k<n->Spec prog 211 ([.ptr id ver 0]++[I k]) (St k) (λ_ S'=>S'=St (k+1)):=by
  intro k hk;have h1:=hpl k;have h2:=hfl k;refine(ZoV (idD:=nx) (idF:=nx+1) (n:=n) k (hid k) (by rw[hSk k];simp) (by rw[hSk k];simp) DB DB DB hx hv hb DB DB).mono ?_;rintro _ _ rfl;rw[hSk k,hSk (k+1),yZ _ hlt,Store.set_set,yh _ DB DC,yh _ DB DC,ZoO,ZoP];simp[Nat.add_assoc]
 have hdead:∀m,zX m (St 0)->∀k,k<=n->zX m (St k):=by
  intro m hm k _ i hi;have hge:nx+1<m:=by
   rcases Be (nx+1) m with q | q
   ·exact q
   ·have:=hm (nx+1) q;rw[hSk 0]at this;simp at this
  rw[hSk k];simp only[ext];rw[if_neg DB,Aa,Ak DF];rfl
 rw[<-h0];have hn0:=hid 0;have hnx2:nx+2=nx+[Ob.cells (vD+0) 39 ((xN x v b 0).flatMap Enc.enc),.cells (vF+0) 47 ((jl x v b 0).flatMap Enc.enc)].length:=rfl;have hb0:∀k,St k=ext (St k) (nx+2) []:=λk=>by
  refine(qy ?_).symm;rw[hSk k];exact jU (obs:=[_,_])
 rw[hb0 0];refine DK ?_;refine λhsuf=>((ZoW x (L v) _ _ pr b _ _ n hn hn2 (by rw[<-hb0 0];exact hn0) St (hb0 0) (λm hm k hk=>hdead m (by rw[hb0 0];exact hm) k hk) hstep).mono ?_).v
 rintro _ _ rfl;refine⟨_,_,hb0 n,zQ hsuf ?_⟩;refine DK ?_;refine λhsuf=>((ZoU (idF:=nx+1) x _ _ _ _ (jl x v b n) (by rw[<-hb0 n];exact hid n) (by rw[<-hb0 n,hSk n];simp) (by rw[hfl];exact hn2)).mono ?_).v
 rintro _ _ ⟨rfl,rfl⟩;refine⟨_,_,rfl,zQ hsuf ?_⟩;refine zj ⟨_,St n,rfl,⟨by simp[zq],vD+n,vF+n,hSk n⟩,λo=>.inl ?_⟩;rw[<-hb0 n]
open Go Go.Proofs Hp
theorem ZoY(n:Nat):yR n (.slice none 0 0)=List.replicate n (.sc (.slice none 0 0)):=by
 induction n with
 | zero=>simp
 | succ n ih=>rw[YJ,ih];rfl
open Go
abbrev T(s:ByteArray):PV:=.sc (.string s)
instance:Enc ByteArray:=⟨λx=>[T x],1,λ_=>rfl,λ_=>rfl⟩
@[simp] theorem ZwB(x:ByteArray):Enc.enc x=[T x]:=rfl
@[simp high] theorem Zb3(l:List ByteArray):(l.flatMap Enc.enc).length=l.length:=(qO l).trans (B4 _)
abbrev bs(l:List UInt8):ByteArray:=⟨l.toArray⟩
theorem ZoZ(a b:List UInt8):bs a++bs b=bs (a++b):=by
 apply ByteArray.ext;simp
theorem j8(l:List UInt8):(bs l).size=l.length:=by simp[ByteArray.size]
def wO(l:List UInt8):Nat:=l.foldl (λa c=>10*a+(c.toNat-48)) 0
theorem Vv(l:List UInt8)(c:UInt8):wO (l++[c])=10*wO l+(c.toNat-48):=by simp[wO]
def Zb4(w:List UInt8):Prop:=w≠[]/\∀c∈w,33<=c.toNat/\c.toNat<=126
def jm:List (List UInt8)->List UInt8
 | []=>[]
 | [w]=>w
 | w :: v :: ws=>w++32 :: jm (v :: ws)
theorem Zb5(w v:List UInt8)(ws:List (List UInt8)):jm (w :: v :: ws)=w++32 :: jm (v :: ws):=rfl
def JQ(ls:List (List (List UInt8))):List UInt8:=ls.flatMap λws=>jm ws++[10]
theorem Zb6(ws:List (List UInt8))(ls:List (List (List UInt8))):JQ (ws :: ls)=jm ws++10 :: JQ ls:=by simp[JQ]
open Go
theorem Zo0{w:World}{t:TypeId}(ht:prog.underlying t=some .string):QB prog w t ByteArray (λ_=>True):=by
 intro H enc fuel cs x h;cases fuel with
 | zero=>cases h
 | succ n =>
  unfold DataW.trod at h;rw[ht]at h
  match cs,h with
  | [.string b],h=>exact⟨b,trivial,WX (.sc _) rfl⟩
open Go Go.Proofs
abbrev U8(b:UInt8):PV:=.sc (.int .u8 (b.toNat:Int))
theorem Zo1(a b:List UInt8)(h:a.length+b.length<=9223372036854775807):yt .add (bs a) (bs b)=some (.string (bs (a++b))):=by simp_all[yt,j8,ZoZ]
open Go Go.Proofs
def xO(c:UInt8):List UInt8->Option (List UInt8 × List UInt8)
 | []=>none
 | x :: xs=>if x=c then some ([],xs) else (xO c xs).map λp=>(x :: p.1,p.2)
theorem QV{c:UInt8}{l a b:List UInt8}(h:xO c l=some (a,b)):l=a++c :: b/\c ∉ a:=by induction l generalizing a b<;>grind[xO,Option.map_eq_some_iff]
theorem Vw{c:UInt8}{l:List UInt8}(h:xO c l=none):c ∉ l:=by induction l<;>grind[xO,Option.map_eq_none_iff]
theorem Zb7{c:UInt8}{l a b:List UInt8}(h:xO c l=some (a,b)):b.length<l.length:=by
 rw[(QV h).1];simp;omega
def yI(c:UInt8):List UInt8->List (List UInt8)
 | []=>[[]]
 | x :: xs=>if x=c then [] :: yI c xs else match yI c xs with
  | []=>[[x]]
  | h :: t=>(x :: h) :: t
theorem Zb8(c x:UInt8)(xs:List UInt8):yI c (x :: xs)=if x=c then [] :: yI c xs else match yI c xs with
  | []=>[[x]]
  | h :: t=>(x :: h) :: t:=rfl
theorem Zb9(c:UInt8)(l:List UInt8):yI c l≠[]:=by cases l<;>grind[yI]
theorem Zgn{c:UInt8}{a:List UInt8}(h:c ∉ a):yI c a=[a]:=by
 induction a with
 | nil=>rfl
 | cons x a ih =>
  grind[Zb8]
theorem Zgo{c:UInt8}{a:List UInt8}(b:List UInt8)(h:c ∉ a):yI c (a++c :: b)=a :: yI c b:=by induction a<;>grind[Zb8]
theorem Zo2(c:UInt8)(l:List UInt8):yI c l=match xO c l with
  | none=>[l]
  | some (a,b)=>a :: yI c b:=by
 cases h:xO c l with
 | none=>simp_all[Zgn,Vw]
 | some p=>obtain⟨a,b⟩:=p;obtain⟨h1,h2⟩:=QV h;simp_all[Zgo]
theorem Zo3(c:UInt8)(l:List UInt8):(yI c l).length<=l.length+1:=by induction l<;>grind[yI]
theorem Zo4(c:UInt8)(l:List UInt8):∀w∈yI c l,w.length<=l.length:=by induction l<;>grind[yI]
def vq(w:List UInt8):Bool:=decide (w≠[]) && w.all λc=>decide (33<=c.toNat/\c.toNat<=126)
theorem Vx(w:List UInt8):vq w=true<->Zb4 w:=by simp[vq,Zb4]
theorem Zgp{w:List UInt8}{k:Nat}{c:UInt8}(h:w[k]?=some c)(hc:¬(33<=c.toNat/\c.toNat<=126)):vq w=false:=by grind[vq]
def qJ(t:List UInt8):Option (List (List (List UInt8))) :=
 if t=[] then some [] else
  match h:xO 10 t with
  | none=>none
  | some (a,b)=>if (yI 32 a).all vq=true then (qJ b).map (yI 32 a :: ·) else none
termination_by t.length
decreasing_by exact Zb7 h
theorem XM:qJ []=some []:=by rw[qJ,if_pos rfl]
theorem Zgq{t:List UInt8}(h0:t≠[])(h:xO 10 t=none):qJ t=none:=by grind[qJ]
theorem Zca{t a b:List UInt8}(h:xO 10 t=some (a,b)):qJ t=if (yI 32 a).all vq=true then (qJ b).map (yI 32 a :: ·) else none:=by
 rw[qJ,if_neg (by rintro rfl;cases h)]
 grind
theorem Zo5{t a b:List UInt8}(h:xO 10 t=some (a,b)){k:Nat}{w:List UInt8}(hw:(yI 32 a)[k]?=some w)(hb:vq w=false):qJ t=none:=by
 rw[Zca h,if_neg]
 grind
theorem Zo6(l:List UInt8):jm (yI 32 l)=l:=by
 induction l with
 | nil=>rfl
 | cons x xs ih =>
  unfold yI;split
  ·rename_i e;cases h:yI 32 xs<;>simp_all[Zb9,Zb5]
  ·cases h:yI 32 xs with
   | nil=>simp_all[Zb9]
   | cons v vs =>
    rw[h]at ih;cases vs<;>simp_all[jm]
theorem Zgr(n:Nat):∀{t:List UInt8} {ls:List (List (List UInt8))},t.length<=n->qJ t=some ls->JQ ls=t/\(∀l∈ls,l≠[])/\(∀l∈ls,∀w∈l,Zb4 w):=by
 induction n with
 | zero =>
  intro t ls hn h;obtain rfl:=Ap (Nat.le_zero.1 hn);rw[XM]at h;cases h;exact⟨rfl,by simp,by simp⟩
 | succ n ih =>
  intro t ls hn h
  by_cases h0:t=[]
  ·grind
  ·cases hc:xO 10 t with
   | none=>simp_all[Zgq]
   | some p =>
    obtain⟨a,b⟩:=p;rw[Zca hc]at h;split at h
    ·rename_i hw;obtain⟨ms,hm,rfl⟩:=Am.1 h;have:=Zb7 hc
     grind[QV,Zb6,Zo6,Zb9,Vx]
    ·cases h
theorem Vy{α:Type}{p:List α->Prop}(h0:p [])(h1:∀l a,p l->p (l++[a]))(l:List α):p l:=by
 have:∀m:List α,p m.reverse:=by
  intro m
  induction m with
  | nil=>exact h0
  | cons a m ih=>rw[Dc];exact h1 _ _ ih
 have:=this l.reverse
 simp_all
def j9(l:List UInt8):Nat:=l.foldl (λn c=>if 100000000000000000<=n then 1000000000000000000 else 10*n+(c.toNat-48)) 0
theorem Vz(l:List UInt8)(c:UInt8):j9 (l++[c])=if 100000000000000000<=j9 l then 1000000000000000000 else 10*j9 l+(c.toNat-48):=by grind[j9]
def ZL(w:List UInt8):Bool:=w.all λc=>decide (48<=c.toNat/\c.toNat<=57)
theorem VA{w:List UInt8}{k:Nat}{c:UInt8}(h:w[k]?=some c)(hc:¬(48<=c.toNat/\c.toNat<=57)):ZL w=false:=by grind[ZL]
def Yp(w:List UInt8):Bool:=match w with
 | []=>true
 | c :: l=>decide (c.toNat=48) && decide (l≠[])
def yX(w:List UInt8):Option Nat:=if Yp w=true then none else if ZL w=true then some (j9 w) else none
theorem Zgs(l:List UInt8)(h:∀c∈l,c.toNat<=57):j9 l<=1000000000000000000:=by
 revert h;refine Vy (p:=λl:List UInt8=>(∀c∈l,c.toNat<=57)->j9 l<=1000000000000000000) (λ_=>by decide) (λl c ih h=>?_) l
 grind[Vz]
theorem Zgt{w:List UInt8}{n:Nat}(h:yX w=some n):n<=1000000000000000000:=by grind[yX,Zgs,ZL]
open Go Go.Proofs
theorem XN(l:List UInt8)(k:Nat):(bs l)[k]?=l[k]?:=by
 by_cases h:k<l.length
 ·rw[Ad h,getElem?_pos (bs l) k (by rw[j8];exact h)];rfl
 ·rw[Ak DB,getElem?_neg (bs l) k (by rw[j8];omega)]
theorem Zcb{a b:ByteArray}(h:a.toList=b.toList):a=b:=by
 rw[Lib.toList_data,Lib.toList_data]at h;cases a;cases b;simp at h;congr
theorem VB{a b:ByteArray}(h:a≠b):yt .eql a b=some (.bool false):=by
 have h2:¬a.toList=b.toList:=λe=>h (Zcb e)
 simp[yt,h2]
theorem Zgu{w:List UInt8}:bs w=bs []<->w=[]:=by
 constructor
 ·intro h;have:=congrArg ByteArray.size h;rw[j8,j8]at this;exact Ap (by simpa using this)
 ·rintro rfl;rfl
theorem Zo7(w:List UInt8)(hl:w.length<=1099511627776):Pure prog 138 [T (bs w)] (B (vq w)):=by
 have hsz:=j8 w;refine zx func138 ntmps138 results138 λS nx hd=>?_
 refine DK ?_
 repeat apply ze
 refine zi [] hsz ?_;refine zn (zJ (λk:Nat=>k<=w.length/\∀c∈w.take k,33<=c.toNat/\c.toNat<=126) (λk=>[(0,T (bs w)),(5,I w.length),(6,I k)]) (λ_=>[]) (λk=>w.length-k) 0 [] DC DC DC ?_);rintro k ⟨hk,ha⟩;refine DK ?_;refine ze (zz rfl (λhc=>?_) (λhc=>?_))
 ·simp at hc;obtain⟨c,hc1⟩:∃c,w[k]?=some c:=⟨_,Ad hc⟩;have hg:=(XN w k).trans hc1;refine zk (ze (zn (DK ?_)))
  by_cases h3:c.toNat<33
  ·have h3':(c.toNat:Int)<33:=DB
   refine ze (zi [(4,13)] (zN hg h3 h3' zy) ?_);refine zo (by simp[*]) ?_;refine DK ?_;exact zj (zm hd DD (by rw[Zgp hc1 (by omega)];rfl))
  have h3':¬(c.toNat:Int)<33:=DB
  by_cases h4:126<c.toNat
  ·have h4':126<(c.toNat:Int):=DB
   refine ze (zi [(4,13)] (yq hg h3 h4 h3' h4') ?_);refine zo (by simp[*]) ?_;refine DK ?_;exact zj (zm hd DD (by rw[Zgp hc1 (by omega)];rfl))
  have h4':¬126<(c.toNat:Int):=DB
  refine ze (zi [(4,13)] (yq hg h3 h4 h3' h4') ?_);refine zp (by simp[*]) ?_;refine zk (zg ?_);have hnx:w.take (k+1)=w.take k++[c]:=by rw[AC,hc1];rfl
  exact zv (k+1) [] ⟨hc,by rw[hnx];intro d hd;rw[AG,AZ]at hd;exact hd.elim (ha d) (λe=>by subst e;omega)⟩ DB (by simp[zA k (by omega)]) rfl DC
 ·simp at hc;obtain rfl:k=w.length:=DB
  rw[Ag]at ha;refine zC (Xn (λ_=>.inl rfl) ?_)
  by_cases h0:w=[]
  ·subst h0;refine ze (xk [] DG DG λK Gc Gh hK hGc hGh X hX0 hX=>?_);simp -implicitDefEqProofs [hX0,hX,yt]
   try clear hX0 hX X
   refine hK _ _ _ ?_;clear hK hGc hGh;clear K Gc Gh;exact DL hd
  ·have hne:bs w≠bs []:=λe=>h0 (Zgu.1 e)
   have hq:yt .neq (bs w) ⟨#[]⟩=some (.bool true):=by
    have h2:¬(bs w).toList=(bs []).toList:=λe=>hne (Zcb e)
    have h3:((bs w).toList == (bs []).toList)=false:=by simpa using h2
    show some (Value.bool (!((bs w).toList == (bs []).toList)))=_
    rw[h3];rfl
   have hw:vq w=true:=(Vx w).2 ⟨h0,ha⟩;refine ze (zi [] hq ?_);exact zj (zm hd DD (by simp[zq,hw]))
def Zc(o:Option Nat):PV:=match o with
 | none=>.tup [I 0,B false]
 | some n=>.tup [I n,B true]
theorem Zgv(w:List UInt8)(hl:w.length<=1099511627776):Pure prog 109 [T (bs w)] (Zc (yX w)):=by
 rcases w with _ | ⟨c0,wt⟩
 ·refine zx func109 ntmps109 results109 λS nx hd=>?_
  refine DK ?_
  repeat apply ze
  refine xk [(2,8),(6,12)] DG DG λK Gc Gh hK hGc hGh X hX0 hX=>?_
  simp -implicitDefEqProofs [hX0,hX,yt,undef]
  try clear hX0 hX X
  refine hK _ _ _ ?_;clear hK hGc hGh;clear K Gc Gh;refine zo DC ?_;refine DK ?_;exact DL hd
 obtain⟨w,hw⟩:∃w,w=c0 :: wt:=⟨_,rfl⟩;have hc0:w[0]?=some c0:=by rw[hw];rfl
 have hne:w≠[]:=by rw[hw];simp
 have hod:Yp w=(decide (c0.toNat=48) && decide (1<w.length)):=by rw[hw];cases wt<;>simp[Yp]
 rw[<-hw]at hl ⊢;clear hw wt;obtain⟨B,hB⟩:∃B,B=bs w:=⟨_,rfl⟩;have hsz:B.size=w.length:=by rw[hB,j8]
 have hg:∀k,B[k]?=w[k]?:=λk=>by rw[hB];exact XN w k
 have hg0:=(hg 0).trans hc0;have he:yt .eql B ⟨#[]⟩=some (.bool false):=by
  have:B≠⟨#[]⟩:=by intro h;have:=congrArg ByteArray.size h;rw[hsz]at this;exact hne (Ap (by simpa[ByteArray.size] using this))
  exact VB this
 rw[<-hB]
 by_cases hodd:Yp w=true
 ·have hr:yX w=none:=by unfold yX;rw[if_pos hodd]
  rw[hr];rw[hod]at hodd;simp only[Ao,decide_eq_true_eq]at hodd;obtain⟨q1,q2⟩:=hodd;have h3:(c0.toNat:Int)=48:=DB
  refine zx func109 ntmps109 results109 λS nx hd=>?_
  refine DK ?_
  repeat apply ze
  refine zi [(2,8),(6,12)] (zS hsz hg0 he h3 q1 (zt q2 zy)) ?_;refine zo DF ?_;refine DK ?_;exact DL hd
 have hcond:(c0.toNat=48/\¬1<w.length)\/¬c0.toNat=48:=by
  rw[hod]at hodd;simp only[Ao,decide_eq_true_eq,not_and]at hodd
  by_cases h1:c0.toNat=48
  ·exact .inl ⟨h1,hodd h1⟩
  ·exact .inr h1
 have hnum:yX w=if ZL w=true then some (j9 w) else none:=by unfold yX;rw[if_neg hodd]
 rw[hnum];clear hnum hodd hod;refine zx func109 ntmps109 results109 λS nx hd=>?_
 refine DK ?_;rcases hcond with ⟨h1,h2⟩ | h1
 have h3:(c0.toNat:Int)=48:=DB
 repeat apply ze
 refine zi [(2,8),(6,12)] (zS hsz hg0 he h3 h2 zy) ?_;refine zp DF ?_
 rotate_left
 have h3:¬(c0.toNat:Int)=48:=DB
 repeat apply ze
 refine zi [(2,8),(6,12)] (yq hsz hg0 he h3 zy) ?_;refine zp (by simp[*]) ?_
 all_goals
  clear h1 h3 he hg0 hc0;refine zk (DK ?_)
  repeat apply ze
  refine zi [] hsz ?_;refine zn (zJ (λk:Nat=>k<=w.length/\∀c∈w.take k,48<=c.toNat/\c.toNat<=57) (λk=>[(0,T B),(4,I (j9 (w.take k))),(19,I w.length),(20,I k)]) (λ_=>[]) (λk=>w.length-k) 0 [] DC (by simp[j9]) DC ?_);rintro k ⟨hk,ha⟩;refine DK ?_;refine ze (zz rfl (λhc=>?_) (λhc=>?_))
  ·simp at hc;obtain⟨c,hc1⟩:∃c,w[k]?=some c:=⟨_,Ad hc⟩;have hgk:=(hg k).trans hc1;have hs57:=Zgs (w.take k) λc hc=>(ha c hc).2
   refine zk (ze (zn (DK ?_)))
   by_cases h3:c.toNat<48
   ·have h3':(c.toNat:Int)<48:=DB
    repeat apply ze
    refine zi [(4,27)] (zN hgk h3 h3' zy) ?_;refine zo (by simp[*]) ?_;refine DK ?_;exact zj (zm hd DD (by rw[VA hc1 (by omega)];rfl))
   have h3':¬(c.toNat:Int)<48:=DB
   by_cases h4:57<c.toNat
   ·have h4':57<(c.toNat:Int):=DB
    repeat apply ze
    refine zi [(4,27)] (yq hgk h3 h3' h4 h4') ?_;refine zo (by simp[*]) ?_;refine DK ?_;exact zj (zm hd DD (by rw[VA hc1 (by omega)];rfl))
   have h4':¬57<(c.toNat:Int):=DB
   repeat apply ze
   refine zi [(4,27)] (yq hgk h3 h3' h4 h4') ?_;refine zp (by simp[*]) ?_;refine zk ?_;have htk:w.take (k+1)=w.take k++[c]:=by rw[AC,hc1];rfl
   have hnx:j9 (w.take (k+1))=if 100000000000000000<=j9 (w.take k) then 1000000000000000000 else 10*j9 (w.take k)+(c.toNat-48):=by rw[htk];exact Vz _ _
   have ha':∀d∈w.take (k+1),48<=d.toNat/\d.toNat<=57:=by rw[htk];intro d hd;rw[AG,AZ]at hd;exact hd.elim (ha d) (λe=>by subst e;omega)
   obtain⟨d1,hd1⟩:∃d1,j9 (w.take (k+1))=d1:=⟨_,rfl⟩;rw[hd1]at hnx;generalize j9 (w.take k)=d0 at *
   by_cases w5:100000000000000000<=d0
   ·rw[if_pos w5]at hnx;have w5':100000000000000000<=(d0:Int):=DB
    refine ze (zi [] (zt w5 w5') ?_);refine zo (by simp[*]) ?_;refine zg ?_;refine zg ?_;exact zv (k+1) [] ⟨hc,ha'⟩ DB (by simp[zA k (by omega),hd1,hnx]) rfl DC
   ·rw[if_neg w5]at hnx;have w5':¬100000000000000000<=(d0:Int):=DB
    have w1:W ((d0:Int)*10)=(d0:Int)*10:=by simp only[W,Ay];omega
    have w2:IntKind.u8.wrap ((c.toNat:Int)-48)=(c.toNat:Int)-48:=by
     have e:IntKind.u8.wrap ((c.toNat:Int)-48)=((c.toNat:Int)-48) % 256:=by simp[IntKind.wrap,IntKind.bits,IntKind.signed]
     rw[e];omega
    have w3:W ((c.toNat:Int)-48)=(c.toNat:Int)-48:=by simp only[W,Ay];omega
    have w4:W ((d0:Int)*10+((c.toNat:Int)-48))=d1:=by simp only[W,Ay];omega
    refine ze (zi [] (zt w5 w5') ?_);refine zp (by simp[*]) ?_;refine zi [] (yq hgk w1 w2 w3 w4) ?_;refine zg ?_;exact zv (k+1) [] ⟨hc,ha'⟩ DB (by simp[zA k (by omega),hd1]) rfl DC
  ·simp at hc;obtain rfl:k=w.length:=DB
   refine zC (Xn (λ_=>.inl rfl) ?_);rw[Ag]at ha ⊢;have hdg:ZL w=true:=by unfold ZL;rw[Az];intro c hc;simpa using ha c hc
   refine DK ?_;exact zj (zm hd DD (by simp[zq,hdg,Zc]))
open Go Go.Proofs
def uK(l:List UInt8):Prop:=∀c∈l,48<=c.toNat/\c.toNat<=57
theorem Zcc{l:List UInt8}{c:UInt8}(h:uK (l++[c])):uK l/\48<=c.toNat/\c.toNat<=57:=⟨λd hd=>h d (by simp[hd]),h c DC⟩
theorem Zgw(l:List UInt8):uK l->wO l<10 ^ l.length:=by
 refine Vy (p:=λl=>uK l->wO l<10 ^ l.length) (λ_=>by decide) (λl c ih h=>?_) l;obtain⟨h1,h2⟩:=Zcc h;have:=ih h1;rw[Vv,Aq,By,Dz];omega
theorem Zgx(l:List UInt8):uK l->l.length<=18->j9 l=wO l:=by
 refine Vy (p:=λl=>uK l->l.length<=18->j9 l=wO l) (λ_ _=>rfl) (λl c ih h hl=>?_) l;obtain⟨h1,h2⟩:=Zcc h;rw[Aq,By]at hl;have e1:=Zgw l h1;have e2:10 ^ l.length<=10 ^ 17:=Cd DH DB;rw[Vz,ih h1 DB,Vv,if_neg DB]
theorem Zo8{c0:UInt8}(h0:c0.toNat≠48)(l:List UInt8):uK (c0 :: l)->10 ^ l.length<=wO (c0 :: l)/\(18<=l.length->j9 (c0 :: l)=1000000000000000000):=by
 refine Vy (p:=λl=>uK (c0 :: l)->10 ^ l.length<=wO (c0 :: l)/\(18<=l.length->j9 (c0 :: l)=1000000000000000000)) (λh=>?_) (λl c ih h=>?_) l
 ·have:=h c0 DC;refine⟨?_,λh=>by simp at h⟩
  show 1<=10*0+(c0.toNat-48)
  omega
 ·rw[<-List.cons_append]at h ⊢;obtain⟨h1,h2⟩:=Zcc h;obtain⟨i1,i2⟩:=ih h1;rw[Vv,Vz,Aq,By,Dz];refine⟨by omega,λhl=>if_pos ?_⟩
  by_cases h18:18<=l.length
  ·rw[i2 h18];decide
  ·have e:l.length=17:=DB
   rw[Zgx _ h1 DF];rw[e]at i1;exact i1
theorem Zo9{w:List UInt8}(ho:¬Yp w=true)(hd:uK w):j9 w=if 18<w.length then 1000000000000000000 else wO w:=by
 split
 ·rename_i h;cases w with
  | nil=>simp at h
  | cons c l =>
   simp only[Au]at h;refine(Zo8 ?_ l hd).2 DB;intro h48;apply ho;have:l≠[]:=by rintro rfl;simp at h
   simp[Yp,h48,this]
 ·exact Zgx w hd DB
theorem Zpa(w:List UInt8)(hl:w.length<=1099511627776):Pure prog 72 [T (bs w)] (Zc (yX w)):=by
 rcases w with _ | ⟨c0,wt⟩
 ·have he:bs []=ByteArray.empty:=rfl;refine zx func72 ntmps72 results72 λS nx hd=>?_
  (repeat apply ze);refine zg ?_;intros
  repeat apply ze
  refine zi [(3,10),(7,14)] (zt he zy) ?_;intros
  repeat apply ze
  refine zo DC ?_
  (repeat apply ze);refine zg ?_;intros
  repeat apply ze
  exact DL hd
 obtain⟨w,hw⟩:∃w,w=c0 :: wt:=⟨_,rfl⟩;have hc0:w[0]?=some c0:=by rw[hw];rfl
 have hne:¬w.length=0:=by rw[hw];simp
 have hod:Yp w=(decide (c0.toNat=48) && decide (1<w.length)):=by rw[hw];cases wt<;>simp[Yp]
 rw[<-hw]at hl ⊢;clear hw wt;obtain⟨B,hB⟩:∃B,B=bs w:=⟨_,rfl⟩;have hsz:B.size=w.length:=by rw[hB,j8]
 have hg:∀k,B[k]?=w[k]?:=λk=>by rw[hB];exact XN w k
 have hg0:=(hg 0).trans hc0;rw[<-hB]
 by_cases hodd:Yp w=true
 ·have hr:yX w=none:=by unfold yX;rw[if_pos hodd]
  rw[hr];rw[hod]at hodd;simp only[Ao,decide_eq_true_eq]at hodd;obtain⟨q1,q2⟩:=hodd;have h3:(c0.toNat:Int)=48:=DB
  refine zx func72 ntmps72 results72 λS nx hd=>?_
  (repeat apply ze);refine zg ?_;intros
  repeat apply ze
  refine zi [(3,10),(7,14)] (zS hsz hg0 hne h3 q1 (zt q2 zy)) ?_;intros
  repeat apply ze
  refine zo DF ?_
  (repeat apply ze);refine zg ?_;intros
  repeat apply ze
  exact DL hd
 have hcond:(c0.toNat=48/\¬1<w.length)\/¬c0.toNat=48:=by
  rw[hod]at hodd;simp only[Ao,decide_eq_true_eq,not_and]at hodd
  by_cases h1:c0.toNat=48
  ·exact .inl ⟨h1,hodd h1⟩
  ·exact .inr h1
 have hnum:yX w=if ZL w=true then some (j9 w) else none:=by unfold yX;rw[if_neg hodd]
 have hsat:=Zo9 hodd;rw[hnum];clear hnum hodd hod;refine zx func72 ntmps72 results72 λS nx hd=>?_
 (repeat apply ze);refine zg ?_;intros
 rcases hcond with ⟨h1,h2⟩ | h1
 have h3:(c0.toNat:Int)=48:=DB
 repeat apply ze
 refine zi [(3,10),(7,14)] (zS hsz hg0 hne h3 h2 zy) ?_;intros
 repeat apply ze
 refine zp DF ?_
 rotate_left
 have h3:¬(c0.toNat:Int)=48:=DB
 repeat apply ze
 refine zi [(3,10),(7,14)] (yq hsz hg0 hne h3 zy) ?_;intros
 repeat apply ze
 refine zp (by simp[*]) ?_
 all_goals
  clear h1 h3 hg0 hc0;refine zk ?_
  (repeat apply ze);refine zg ?_;intros
  repeat apply ze
  refine zn (zJ (λk:Nat=>k<=w.length/\uK (w.take k)) (λk=>[(0,T B),(4,I k)]) (λ_=>[]) (λk=>w.length-k) 0 [] (by simp[uK]) DC DC ?_);rintro k ⟨hk,ha⟩
  repeat apply ze
  refine zi [] hsz ?_;intros
  repeat apply ze
  refine zz rfl (λhc=>?_) (λhc=>?_)
  ·simp at hc;obtain⟨c,hc1⟩:∃c,w[k]?=some c:=⟨_,Ad hc⟩;have hgk:=(hg k).trans hc1;refine zk (ze (zn ?_))
   by_cases h3:c.toNat<48
   ·have h3':(c.toNat:Int)<48:=DB
    repeat apply ze
    refine zi [(4,30)] (zN hgk h3 h3' zy) ?_;intros
    repeat apply ze
    refine zo (by simp[*]) ?_
    (repeat apply ze);refine zg ?_;intros
    repeat apply ze
    exact zj (zm hd DD (by rw[VA hc1 (by omega)];rfl))
   have h3':¬(c.toNat:Int)<48:=DB
   by_cases h4:57<c.toNat
   ·have h4':57<(c.toNat:Int):=DB
    repeat apply ze
    refine zi [(4,30)] (yq hgk h3 h3' h4 h4') ?_;intros
    repeat apply ze
    refine zo (by simp[*]) ?_
    (repeat apply ze);refine zg ?_;intros
    repeat apply ze
    exact zj (zm hd DD (by rw[VA hc1 (by omega)];rfl))
   have h4':¬57<(c.toNat:Int):=DB
   repeat apply ze
   refine zi [(4,30)] (yq hgk h3 h3' h4 h4') ?_;intros
   repeat apply ze
   refine zp (by simp[*]) ?_;refine zk ?_;have htk:w.take (k+1)=w.take k++[c]:=by rw[AC,hc1];rfl
   have ha':uK (w.take (k+1)):=by rw[htk];intro d hd;rw[AG,AZ]at hd;exact hd.elim (ha d) (λe=>by subst e;omega)
   (repeat apply ze);refine zg ?_;intros
   exact zv (k+1) [] ⟨hc,ha'⟩ DB (by simp[zA k (by omega)]) rfl DC
  ·simp at hc;obtain rfl:k=w.length:=DB
   refine zC ?_;rw[Ag]at ha;have hdg:ZL w=true:=by unfold ZL;rw[Az];intro c hc;simpa using ha c hc
   have hsat':=hsat ha;rw[if_pos hdg]
   by_cases h18:18<w.length
   ·rw[if_pos h18]at hsat'
    repeat apply ze
    refine zi [] (zt hsz h18) ?_;intros
    repeat apply ze
    refine zo (by simp[*];try omega) ?_
    (repeat apply ze);refine zg ?_;intros
    repeat apply ze
    exact zj (zm hd DD (by simp[zq,hsat',Zc]))
   ·rw[if_neg h18]at hsat'
    repeat apply ze
    refine zi [] (zt hsz h18) ?_;intros
    repeat apply ze
    refine zp (by simp[*];try omega) ?_;refine zk ?_
    (repeat apply ze);refine zg ?_;intros
    (repeat apply ze);refine zg ?_;intros
    repeat apply ze
    refine zn (zJ (λk:Nat=>k<=w.length) (λk=>[(0,T B),(5,I (wO (w.take k))),(6,I k)]) (λ_=>[]) (λk=>w.length-k) 0 [] DC (by simp[wO]) DC ?_);rintro k hk2
    repeat apply ze
    refine zi [] hsz ?_;intros
    repeat apply ze
    refine zz rfl (λhc=>?_) (λhc=>?_)
    ·simp at hc;obtain⟨c,hc1⟩:∃c,w[k]?=some c:=⟨_,Ad hc⟩;have hgk:=(hg k).trans hc1;have hcd:=ha c (Ab hc1);have hlt:=Zgw (w.take k) λd hd=>ha d (Cf hd)
     have e2:10 ^ (w.take k).length<=10 ^ 17:=Cd DH (by rw[As];omega);have htk:wO (w.take (k+1))=10*wO (w.take k)+(c.toNat-48):=by rw[AC,hc1];exact Vv _ _
     obtain⟨d1,hd1⟩:∃d1,wO (w.take (k+1))=d1:=⟨_,rfl⟩;rw[hd1]at htk;generalize wO (w.take k)=d0 at *;have w1:W (10*(d0:Int))=10*(d0:Int):=by simp only[W,Ay];omega
     have w2:IntKind.u8.wrap ((c.toNat:Int)-48)=(c.toNat:Int)-48:=by
      have e:IntKind.u8.wrap ((c.toNat:Int)-48)=((c.toNat:Int)-48) % 256:=by simp[IntKind.wrap,IntKind.bits,IntKind.signed]
      rw[e];omega
     have w3:W ((c.toNat:Int)-48)=(c.toNat:Int)-48:=by simp only[W,Ay];omega
     have w4:W (10*(d0:Int)+((c.toNat:Int)-48))=d1:=by simp only[W,Ay];omega
     refine zk (ze (zn ?_))
     repeat apply ze
     refine zi [] (yq hgk w1 w2 w3 w4) ?_;intros
     (repeat apply ze);refine zg ?_;intros
     exact zv (k+1) [] hc DB (by simp[zA k (by omega),hd1]) rfl DC
    ·simp at hc;obtain rfl:k=w.length:=DB
     refine zC ?_;rw[Ag]
     (repeat apply ze);refine zg ?_;intros
     repeat apply ze
     exact zj (zm hd DD (by simp[zq,hsat',Zc]))
open Go
def Qs(q:List Int):Prop:=∀z∈q,0<=z/\z<=2147483648
structure GoodV (n:Nat) (v:List Visit):Prop where
 len:v.length<=64
 ok:∀s∈v,(0<=s.d/\s.d<n)/\1<=s.q/\s.q<=2147483648
 nd:(v.map (·.d)).Nodup
def yY:Nat->List Int->List Visit
 | _,[]=>[]
 | i,z :: l=>if 0<z then ⟨i,z⟩ :: yY (i+1) l else yY (i+1) l
theorem VC:∀(l:List Int) (i:Nat),(yY i l).length<=l.length
 | [],_=>by simp[yY]
 | z :: l,i=>by
  have:=VC l (i+1);simp only[yY];split<;>simp<;>omega
theorem VD:∀(l:List Int) (i:Nat),Qs l->∀s∈yY i l,((i:Int)<=s.d/\s.d<(i+l.length:Nat))/\1<=s.q/\s.q<=2147483648
 | [],_,_=>by intro s hs;cases hs
 | z :: l,i,h=>by
  have ih:=VD l (i+1) λx hx=>h x (by simp[hx])
  have hz:=h z DC;intro s hs;simp only[yY]at hs;split at hs
  ·rcases Aw.1 hs with rfl | hs
   ·simp only[Au];omega
   ·have:=ih s hs;simp only[Au];omega
  ·have:=ih s hs;simp only[Au];omega
theorem Zgy:∀(l:List Int) (i:Nat),∀s∈yY i l,(i:Int)<=s.d
 | [],_=>by intro s hs;cases hs
 | z :: l,i=>by
  have ih:=Zgy l (i+1);intro s hs;simp only[yY]at hs;split at hs
  ·rcases Aw.1 hs with rfl | hs
   ·exact CW _
   ·have:=ih s hs;omega
  ·have:=ih s hs;omega
theorem Zgz:∀(l:List Int) (i:Nat),((yY i l).map (·.d)).Nodup
 | [],_=>by simp[yY]
 | z :: l,i=>by
  have ih:=Zgz l (i+1);simp only[yY];split
  ·rw[AD,Cz];refine⟨λh=>?_,ih⟩;obtain⟨s,hs,e⟩:=Ar.1 h;have:=Zgy l (i+1) s hs;simp only at e;omega
  ·exact ih
theorem Zpb(n a k:Nat):(yy n a k).Nodup:=by
 unfold yy;refine List.Pairwise.map _ (λx y (h:x≠y)=>?_) (List.Pairwise.filter _ List.nodup_range);intro e;apply h;omega
theorem ZgA{q:List Int}{n:Nat}(hq:Qs q)(hl:q.length<=n)(hn:n<=64):GoodV n (yY 0 q):=by
 refine⟨AB (VC q 0) DB,λs hs=>?_,Zgz q 0⟩;have:=VD q 0 hq s hs;omega
def Y7(c:Cust)(p:Nat):List Visit:=(yy p 0 64).map λd=>⟨d,c.demand⟩
open Go
structure CustMade (c:Cust) (n:Nat):Prop where
 fits:CustFits c
 pats:∀p∈c.pats,p<2 ^ 64
 npats:c.pats.length<=1048576
 per:c.kind=1->(∀p∈c.pats,∀d∈yy p 0 64,d<n)/\1<=c.demand/\c.demand<=2147483648
open Go
theorem Zcd{α:Type}[Enc α](h1:Enc.sz α=1)(l:List α)(k:Nat)(v:α)(h:k<l.length):yd (l.flatMap Enc.enc) k (Enc.enc v)=(l.set k v).flatMap Enc.enc:=by
 have e1:(l.flatMap Enc.enc).take k=(l.take k).flatMap Enc.enc:=by
  have:=Qx (α:=α) Enc.enc (Enc.sz α) Enc.len l k;rwa[h1,B4]at this
 have e2:(l.flatMap Enc.enc).drop (k+1)=(l.drop (k+1)).flatMap Enc.enc:=by
  have:=Ji (α:=α) Enc.enc (Enc.sz α) Enc.len l (k+1);rwa[h1,B4]at this
 rw[yd,Enc.len,h1,e1,e2,Ax,if_pos h];simp
open Go Go.Proofs Hp
def RowOf(S:Store)(pl:PV)(l:List Int):Prop:=pl=L l\/∃id ver,pl=.sl id ver 1 0 l.length/\S id=.cells ver 3 (l.flatMap Enc.enc)
theorem RowOf.ext{S:Store}{pl:PV}{l:List Int}(h:RowOf S pl l){nx:Nat}(hd:zX nx S)(obs:List Ob):RowOf (ext S nx obs) pl l:=by
 rcases h with h | ⟨id,ver,h1,h2⟩
 ·exact .inl h
 ·exact .inr ⟨id,ver,h1,(zE (yU hd h2 DC)).trans h2⟩
theorem ZgB{S:Store}{nx id ver:Nat}(hd:zX nx S)(x:Inst)(v p f pr:PV)(b:Int)(fn:FuncId)(fs:List PV)(n:Nat)(hn:x.days=n)(hn2:n<=1000)(hS:S id=.cells ver 235 (xq x v b p f pr))(Pk:Nat->Store->Prop)(h0:Pk 0 S)
  (hPd:∀k T,Pk k T->zX nx T) (hstep:∀k,k<n->∀T,Pk k T->Spec prog fn (fs++[I k]) T (λ_ S'=>Pk (k+1) S')) :
  Spec prog 173 [.ptr id ver 0,.fn (.func fn) fs []] S (λ_ S'=>Pk n S'):=by
 refine uE hd func173 ntmps173 results173 ?_;have hlt:id<nx:=yU hd hS DC;have xw:=λobs=>(zE (S:=S) (obs:=obs) hlt).trans hS
 refine ze (zi [] (zt xw hn) ?_);refine zn (jo (σ:=Nat × Store) (λs=>s.1<=n/\Pk s.1 s.2) (λs=>[(1,.fn (.func fn) fs []),(9,I n),(10,I s.1)]) (λs=>s.2) (λ_=>[]) (λs=>n-s.1) (zT (0,S) [] ⟨by simp,h0⟩ DC rfl DC) ?_);rintro⟨k,T⟩ ⟨hk,hP⟩;simp only at hk hP ⊢;refine DK ?_;refine ze (zz rfl (λhc=>?_) (λhc=>?_))
 ·simp at hc;refine zk (ze (zn (DK ?_)));refine zg ?_;refine λhsuf=>(Spec.mono (by rw[qy (hPd k T hP)];simpa using hstep k hc T hP) ?_).v
  rintro _ T' hP';refine⟨T',[],(qy (hPd _ _ hP')).symm,zQ hsuf ?_⟩;refine zg ?_;exact zv (k+1,T') [] ⟨hc,hP'⟩ DB (by simp[zA k (by omega)]) rfl DC
 ·simp at hc;obtain rfl:k=n:=DB
  refine zC ?_;exact⟨_,T,rfl,hP,zU (hPd _ _ hP)⟩
def ZM(x:Inst)(j:Nat):Int:=W (yE x [(j:Int)])
def jB(x:Inst)(k i:Nat):List (List Int):=(List.range x.cust.length).map λj=>List.replicate (if j<i then k+1 else k) (ZM x j)
theorem QW(x:Inst)(k i:Nat):(jB x k i).length=x.cust.length:=by simp[jB]
theorem ZgC(x:Inst)(k i j:Nat)(h:j<x.cust.length):(jB x k i).getD j []=List.replicate (if j<i then k+1 else k) (ZM x j):=by simp_all[jB]
theorem Zpc(x:Inst)(k:Nat):jB x k x.cust.length=jB x (k+1) 0:=by simp[jB]
theorem Zpd(x:Inst)(k i:Nat)(h:i<x.cust.length):(jB x k i).set i (List.replicate (k+1) (ZM x i))=jB x k (i+1):=by
 apply AX
 grind[jB]
theorem Zpe{S:Store}{id ver A va base:Nat}{ws:Nat->Nat}{x:Inst}{v p f:PV}{b:Int}(k:Nat)(hx:x.cust.length<=1000)(hk:k<=1000)(hid:id<base)(hidA:id≠A)(hS:S id=.cells ver 235 (xq x v b p f (.sl A va 1 0 x.cust.length)))
  (hR:RowsAt S A va 26 base 3 1 ws (jB x k 0)) :
  Spec prog 174 [.ptr id ver 0,I k] S (λ_ S'=>(∃ws',RowsAt S' A va 26 base 3 1 ws' (jB x (k+1) 0))/\∀o,o≠A->(o<base\/base+x.cust.length<=o)->S' o=S o):=by
 refine yi func174 ntmps174 results174 λnx hd=>?_
 have hlt:id<nx:=yU hd hS DC;have hltA:A<nx:=yU hd hR.arr DC;have hltR:∀i,i<x.cust.length->base+i<nx:=λi hi=>yU hd (hR.row i (by simp_all[QW])) DC
 have xw:=λobs=>(zE (S:=S) (obs:=obs) hlt).trans hS
 refine ze (zi [] xw ?_);refine zn (jo (σ:=Nat × Store × (Nat->Nat)) (λs=>s.1<=x.cust.length/\RowsAt s.2.1 A va 26 base 3 1 s.2.2 (jB x k s.1)/\∀o,o≠A->(o<base\/base+x.cust.length<=o)->s.2.1 o=S o)
  (λs=>[(0,.ptr id ver 0),(10,I x.cust.length),(11,I s.1)]) (λs=>s.2.1) (λ_=>[]) (λs=>x.cust.length-s.1) (zT (0,S,ws) [] ⟨by simp,hR,λ_ _ _=>rfl⟩ DC rfl DC) ?_)
 clear hR;rintro⟨i,T,ws⟩ ⟨hi,hR,hT⟩;simp only at hi hR hT ⊢;refine DK ?_;refine ze (zz rfl (λhc=>?_) (λhc=>?_))
 ·simp at hc;have hTw:T id=.cells ver 235 (xq x v b p f (.sl A va 1 0 x.cust.length)):=(hT id hidA (.inl hid)).trans hS;have hAb:=hR.out;have hri:=hR.row i (by simp_all[QW]);rw[ZgC x k i i hc,if_neg (CB i)]at hri;have hlti:=hltR i hc;have xw:=λobs=>(zE (S:=T) (obs:=obs) hlt).trans hTw
  have xa:=λobs=>(zE (S:=T) (obs:=obs) hltA).trans hR.arr
  have xr:=λobs=>(zE (S:=T) (obs:=obs) hlti).trans hri
  have ya:=λ(o:Ob) obs=>(zE (S:=T.set (base+i) o) (obs:=obs) hltA).trans ((q10 _ _ _ _ DB).trans hR.arr)
  have yw:=λ(o:Ob) obs=>(zE (S:=T.set (base+i) o) (obs:=obs) hlt).trans ((q10 _ _ _ _ DB).trans hTw)
  have zw:=λ(o o':Ob) obs=>(zE (S:=(T.set (base+i) o).set A o') (obs:=obs) hlt).trans ((q10 _ _ _ _ hidA).trans ((q10 _ _ _ _ DB).trans hTw))
  have g1:¬nx<=base+i:=DB
  have g2:¬nx<=A:=DB
  obtain⟨tl,hdr⟩:=Zb2 base 1 ws (jB x k i) i (by simp_all[QW]);rw[ZgC x k i i hc,if_neg (CB i),B9]at hdr;have hcl:(vp base 1 ws (jB x k i)).length=x.cust.length:=by rw[Zb1,QW]
  have hsp:=Zbb (vp base 1 ws (jB x k i)) i (.sl (base+i) (ws i+1) 1 0 (k+1)) DB;have hway:=Zd2 x [(i:Int)] DC (λc hc=>by grind[y9]);have hfe:∀m:Nat,((List.replicate m (ZM x i)).flatMap Enc.enc).length=m:=λm=>by simp
  refine zk (ze (zn (DK ?_)));refine zB (some [id]) (Row.pures [0,1,2,3,4,5,6,7,8,9,10,12,13,14,15,16,17,18,19] (.alt 11 (.alt 20 (Row.pures [21] (.alt 22 (.done) .stop)) .stop) .stop)) mixed (zS xw xa xr ya yw (zt (zS zw hdr g1 g2 hsp hcl) hc)) ?_;refine zP (hway) (zS xw xa xr ya yw (zt (zS zw hdr g1 g2 hsp hcl) hc)) ?_;refine⟨by omega,by omega,?_⟩;obtain⟨T',hT'⟩:∃T',T'=(T.set (base+i) (.cells (ws i+1) 3 ((List.replicate (k+1) (ZM x i)).flatMap Enc.enc))).set A (.cells va 26 ((vp base 1 ws (jB x k i)).set i (.sl (base+i) (ws i+1) 1 0 (List.replicate (k+1) (ZM x i)).length))):=⟨_,rfl⟩;have hnew:=hR.turn (i:=i) (by simp_all[QW]) (T':=T') (ws i+1) (List.replicate (k+1) (ZM x i)) DJ (by rw[hT',q10 _ _ _ _ (by omega),q11]) (λo o1 o2=>by simp_all[q10]);rw[Zpd x k i hc]at hnew;refine zg ?_;refine zv (i+1,T',_) [] ⟨hc,hnew,λo ho hob=>?_⟩ DB (by simp[zA i (by omega)]) ?_ DC
  ·dsimp only;rw[hT',q10 _ _ _ _ ho,q10 _ _ _ _ DB];exact hT o ho hob
  ·dsimp only;rw[hT'];have htk:((List.replicate k (ZM x i)).flatMap Enc.enc).take k=(List.replicate k (ZM x i)).flatMap Enc.enc:=Ae (by rw[hfe];exact Af _)
   simp_all[List.replicate_succ',ZM]
 ·simp at hc;obtain rfl:i=x.cust.length:=DB
  rw[Zpc]at hR;refine zC ?_;have hdT:zX nx T:=λo ho=>by
   have h1:o≠A:=DB
   by_cases h2:o<base\/base+x.cust.length<=o
   ·rw[hT o h1 h2];exact hd o ho
   ·have:=hltR (o-base) DB;omega
  exact⟨_,T,rfl,⟨⟨ws,hR⟩,hT⟩,zU hdT⟩
def ZN(k:Nat)(l:List Int):List Int:=l.set k (W (W (2*l.getD k 0)+1))
def vS(pr:List (List Int))(k i:Nat):List (List Int):=(List.range pr.length).map λj=>if j<i then ZN k (pr.getD j []) else pr.getD j []
def JR(fs:List Int)(pr:List (List Int))(k:Nat):List (List Int):=if fs.getD k 0=14 then pr.map (ZN k) else pr
def JS(fs:List Int)(pr:List (List Int)):Nat->List (List Int)
 | 0=>pr
 | k+1=>JR fs (JS fs pr k) k
theorem ZgD(k:Nat)(l:List Int):(ZN k l).length=l.length:=by simp[ZN]
theorem XO(pr:List (List Int))(k i:Nat):(vS pr k i).length=pr.length:=by simp[vS]
theorem Zce(pr:List (List Int))(k i j:Nat)(h:j<pr.length):(vS pr k i).getD j []=if j<i then ZN k (pr.getD j []) else pr.getD j []:=by simp_all[vS]
theorem Zpf(pr:List (List Int))(k:Nat):vS pr k 0=pr:=by
 apply AX
 grind[vS]
theorem Zpg(pr:List (List Int))(k:Nat):vS pr k pr.length=pr.map (ZN k):=by
 apply AX
 grind[vS]
theorem Zph(pr:List (List Int))(k i:Nat)(h:i<pr.length):(vS pr k i).set i (ZN k (pr.getD i []))=vS pr k (i+1):=by
 apply AX
 grind[vS]
def uL(m n:Nat)(pr:List (List Int)):Prop:=pr.length=m/\∀l∈pr,l.length=n/\∀z∈l,zW z
theorem Zcf(x:Int):zW (W x):=by
 have key:∀m:Int,0<=m->m<2 ^ 64->zW (if (true && decide (m>=2 ^ (64-1)))=true then m-2 ^ 64 else m):=by
  intro m h1 h2;unfold zW
  by_cases h:m>=2 ^ (64-1)
  ·simp[h];omega
  ·simp[h];omega
 exact key _ (Int.emod_nonneg x DH) (Int.emod_lt_of_pos x DH)
theorem Zpi{m n:Nat}{pr:List (List Int)}(fs:List Int)(k:Nat)(h:uL m n pr):uL m n (JR fs pr k):=by
 unfold JR;split
 ·refine⟨by simp[h.1],λl hl=>?_⟩;obtain⟨l',hl',rfl⟩:=Ar.1 hl;rw[ZgD];refine⟨(h.2 l' hl').1,λz hz=>?_⟩;rcases BB hz with hz | rfl
  ·exact(h.2 l' hl').2 z hz
  ·exact Zcf _
 omega
theorem XP{m n:Nat}{pr:List (List Int)}(fs:List Int)(h:uL m n pr):∀k,uL m n (JS fs pr k)
 | 0=>h
 | k+1=>Zpi fs k (XP fs h k)
theorem ZgE(x:Inst)(n:Nat):uL x.cust.length n (jB x n 0):=by
 refine⟨QW x n 0,λl hl=>?_⟩;obtain⟨j,_,rfl⟩:=Ar.1 hl;refine⟨by simp,λz hz=>?_⟩;rw[(List.mem_replicate.1 hz).2];exact Zcf _
theorem Zpj{S:Store}{id ver A va base idF vF:Nat}{ws:Nat->Nat}{x:Inst}{v p:PV}{b:Int}{m n:Nat}{pr:List (List Int)}{fs:List Int}(k:Nat)(hm:m<=1000)(hn:n<=1000)(hkn:k<n)(hid:id<base)(hidA:id≠A)(hF:S idF=.cells vF 47 (fs.flatMap Enc.enc))(hfl:fs.length=n)
  (hS:S id=.cells ver 235 (xq x v b p (.sl idF vF 1 0 fs.length) (.sl A va 1 0 m))) (hP:uL m n pr) (hR:RowsAt S A va 26 base 3 1 ws pr) :
  Spec prog 179 [.ptr id ver 0,I k] S (λ_ S'=>RowsAt S' A va 26 base 3 1 ws (JR fs pr k)/\∀o,(o<base\/base+m<=o)->S' o=S o):=by
 obtain⟨hPl,hPr⟩:=hP;refine yi func179 ntmps179 results179 λnx hd=>?_
 have hlt:id<nx:=yU hd hS DC;have hltF:idF<nx:=yU hd hF DC;have hltA:A<nx:=yU hd hR.arr DC;have hltR:∀i,i<m->base+i<nx:=λi hi=>yU hd (hR.row i DB) DC
 have xw:=λobs=>(zE (S:=S) (obs:=obs) hlt).trans hS
 have xf:=λobs=>(zE (S:=S) (obs:=obs) hltF).trans hF
 obtain⟨e,tl0,e1,-,-,e0⟩:=zL rfl fs k DB;have hkf:k<fs.length:=DB
 have hge:fs.getD k 0=e:=by rw[Aa,e1];rfl
 repeat apply ze
 refine zi [] (zN xw xf e0 hkf) ?_
 by_cases he:e=14
 case neg =>
  refine zo (by simp[he]) ?_;exact zj ⟨_,S,rfl,⟨by simp_all[JR],λ_ _=>rfl⟩,zU hd⟩
 refine zp (by simp[he]) ?_;refine zk (ze (zi [] xw ?_));have hkill:∀T:Store,(∀o,(o<base\/base+m<=o)->T o=S o)->zX nx T:=λT hT o ho=>by
  by_cases h2:o<base\/base+m<=o
  ·rw[hT o h2];exact hd o ho
  ·have:=hltR (o-base) DB;omega
 refine zn (jo (σ:=Nat × Store) (λs=>s.1<=m/\RowsAt s.2 A va 26 base 3 1 ws (vS pr k s.1)/\∀o,(o<base\/base+m<=o)->s.2 o=S o)
  (λs=>[(0,.ptr id ver 0),(1,I k),(17,I m),(18,I s.1)]) (λs=>s.2) (λ_=>[]) (λs=>m-s.1) (zT (0,S) [] ⟨by simp,by simp_all[Zpf],λ_ _=>rfl⟩ DC rfl DC) ?_)
 have hAb0:=hR.out;clear hR;rintro⟨i,T⟩ ⟨hi,hR,hT⟩;simp only at hi hR hT ⊢;refine DK ?_;refine ze (zz rfl (λhc=>?_) (λhc=>?_))
 ·simp at hc;have hil:i<pr.length:=DB
  have hTw:T id=.cells ver 235 (xq x v b p (.sl idF vF 1 0 fs.length) (.sl A va 1 0 m)):=(hT id (.inl hid)).trans hS;have hri:=hR.row i (by simp_all[XO]);rw[Zce pr k i i hil,if_neg (CB i)]at hri;obtain⟨tl,hdr⟩:=Zb2 base 1 ws (vS pr k i) i (by simp_all[XO]);rw[Zce pr k i i hil,if_neg (CB i)]at hdr;have hcl:(vp base 1 ws (vS pr k i)).length=m:=by rw[Zb1,XO,hPl]
  have hgl:(pr.getD i []).length=n:=by
   rw[Aa,Ad hil];exact(hPr _ (A8 hil)).1
  generalize hrow:pr.getD i []=row at hri hdr hgl;obtain⟨z,tl2,z1,-,-,z0⟩:=zL rfl row k DB;have hgz:row.getD k 0=z:=by rw[Aa,z1];rfl
  have hkr:k<row.length:=DB
  have hlti:=hltR i hc;have xw:=λobs=>(zE (S:=T) (obs:=obs) hlt).trans hTw
  have xa:=λobs=>(zE (S:=T) (obs:=obs) hltA).trans hR.arr
  have xr:=λobs=>(zE (S:=T) (obs:=obs) hlti).trans hri
  have yw:=λ(o:Ob) obs=>(zE (S:=T.set (base+i) o) (obs:=obs) hlt).trans ((q10 _ _ _ _ DB).trans hTw)
  have ya:=λ(o:Ob) obs=>(zE (S:=T.set (base+i) o) (obs:=obs) hltA).trans ((q10 _ _ _ _ DB).trans hR.arr)
  have g1:¬nx<=base+i:=DB
  have hsp:=Zcd (α:=Int) rfl row k (W (W (2*z)+1)) hkr;have hsp':yd (row.flatMap Enc.enc) k [I (W (W (2*z)+1))]=(row.set k (W (W (2*z)+1))).flatMap Enc.enc:=by simpa using hsp
  have hrl:(row.flatMap Enc.enc).length=n:=by rw[qO,hgl];simp[Enc.sz]
  refine zk (ze (zn (DK ?_)));refine zB (some [id,A]) (Row.pures [0,1,2,3,4,5,6,7,8,9,10,11,12,13,15] (.alt 14 (Row.pures [16] (.alt 17 (Row.pures [18,19,20] (.alt 21 (.done) .stop)) .stop)) .stop)) mixed (zS xw xa xr yw ya (zt (zS hdr g1 hcl hc z0 hkr) (zN hsp' hrl hgl hkn))) ?_;refine⟨by omega,?_⟩;obtain⟨T',hT'⟩:∃T',T'=T.set (base+i) (.cells (ws i) 3 ((ZN k row).flatMap Enc.enc)):=⟨_,rfl⟩;have hnew:=hR.turn (i:=i) (by rw[XO];omega) (T':=T') (ws i) (ZN k row) (by
   rw[hT',q10 _ _ _ _ DB,hR.arr];congr 1;refine(AX λj=>?_).symm;rw[Bz];split
   ·rename_i hij;subst hij;rw[if_pos DB,Zgk _ _ _ _ _ (by rw[XO];omega),Zce pr k i i hil,if_neg (CB i),hrow,ZgD]
   ·rfl) (by rw[hT'];simp) (λo o1 o2=>by rw[hT'];exact q10 _ _ _ _ o2)
  have hws:(λk=>if k=i then ws i else ws k)=ws:=by funext j;split<;>simp_all
  rw[hws,<-hrow,Zph pr k i hil]at hnew;refine zg ?_;refine zv (i+1,T') [] ⟨hc,hnew,λo hob=>?_⟩ DB (by simp[zA i (by omega)]) ?_ DC
  ·dsimp only;rw[hT',q10 _ _ _ _ DB];exact hT o hob
  ·dsimp only;rw[hT'];simp only[ZN,hgz]
 ·simp at hc;obtain rfl:i=m:=DB
  rw[<-hPl,Zpg]at hR;refine zC ?_;exact⟨_,T,rfl,⟨by simp_all[JR],hT⟩,zU (hkill T hT)⟩
def ZO(e:Int):Bool:=decide (e≠0) && decide (e≠14)
theorem Zpk(e:Int):Pure prog 178 [I e] (B (ZO e)):=by
 unfold ZO;refine zx func178 ntmps178 results178 λS nx hd=>?_
 refine DK ?_
 by_cases h1:e=0
 ·refine ze (zi [(2,5)] (zt h1 zy) ?_);exact zj (zm hd rfl (by simp[zq,h1]))
 ·by_cases h2:e=14
  ·refine ze (zi [(2,5)] (zF h1 h2 zy) ?_);exact zj (zm hd rfl (by simp[zq,h2]))
  ·refine ze (zi [(2,5)] (zF h1 h2 zy) ?_);exact zj (zm hd rfl DJ)
theorem Zpl{S:Store}{idF vF:Nat}(fs:List Int)(hF:S idF=.cells vF 47 (fs.flatMap Enc.enc))(hl:fs.length<=1000):
  Spec prog 213 [.sl idF vF 1 0 fs.length,.fn (.func 178) [] []] S (λq S'=>(∃z:Int,q=I z/\(fs.any ZO=decide (0<=z)))/\S'=S):=by
 refine yi func213 ntmps213 results213 λnx hd=>?_
 have hltF:idF<nx:=yU hd hF DC;have xf:=λobs=>(zE (S:=S) (obs:=obs) hltF).trans hF
 refine DK ?_
 repeat apply ze
 refine zg ?_;refine zn (zJ (λk:Nat=>k<=fs.length/\∀e∈fs.take k,ZO e=false) (λk=>[(0,.sl idF vF 1 0 fs.length),(1,.fn (.func 178) [] []),(7,I fs.length),(8,I k)]) (λ_=>[]) (λk=>fs.length-k) 0 [] DC DC DC ?_);rintro k ⟨hk,h0⟩;refine DK ?_;refine ze (zz rfl (λhc=>?_) (λhc=>?_))
 ·simp at hc;obtain⟨e,tl,a1,a2,a3,e0⟩:=zL rfl fs k hc;refine zk (ze (zn (DK ?_)));refine ze (zi [] (zF xf e0 hc) ?_);refine zu (Zpk e) ?_;cases hb:ZO e with
  | true =>
   refine zo rfl (DK ?_);exact zj ⟨_,S,rfl,⟨⟨k,by simp,by grind⟩,rfl⟩,zU hd⟩
  | false =>
   refine zp rfl (zk (zg ?_));exact zv (k+1) [] ⟨hc,λy hy=>by grind⟩ DB (by simp[zA k (by omega)]) rfl DC
 ·simp at hc;obtain rfl:k=fs.length:=DB
  rw[Ag]at h0;refine zC (DK ?_);exact zj ⟨_,S,rfl,⟨⟨-1,by simp,by simp_all⟩,rfl⟩,zU hd⟩
theorem Zpm{S:Store}{idF vF:Nat}(fs:List Int)(hF:S idF=.cells vF 47 (fs.flatMap Enc.enc))(hl:fs.length<=1000):
  Spec prog 177 [.sl idF vF 1 0 fs.length,.fn (.func 178) [] []] S (λq S'=>q=B (fs.any ZO)/\S'=S):=by
 refine yi func177 ntmps177 results177 λnx hd=>?_
 have hltF:idF<nx:=yU hd hF DC;refine DK ?_;refine DK ?_;refine λhsuf=>((Zpl fs ((zE hltF).trans hF) hl).mono ?_).v
 rintro _ _ ⟨⟨z,rfl,hz⟩,rfl⟩;refine⟨_,_,rfl,zQ hsuf ?_⟩;exact zj ⟨_,S,rfl,⟨by simp[zq,hz],rfl⟩,zU hd⟩
def uM(x:Inst)(sol:Cust->List Int->List Visit × Bool)(pr:List (List Int))(k:Nat):List (List Visit × Bool):=(List.range k).map λi=>sol (x.cust.getD i default) (pr.getD i [])
def qB(x:Inst)(sol:Cust->List Int->List Visit × Bool)(pr:List (List Int)):List (List Visit) × Int:=if (uM x sol pr x.cust.length).all (·.2)=true then ((uM x sol pr x.cust.length).map (·.1),0) else ([],15)
theorem Zpn(x:Inst)(sol:Cust->List Int->List Visit × Bool)(pr:List (List Int))(k:Nat):uM x sol pr (k+1)=uM x sol pr k++[sol (x.cust.getD k default) (pr.getD k [])]:=by simp[uM,AT]
theorem ZgF(x:Inst)(sol:Cust->List Int->List Visit × Bool)(pr:List (List Int)){k m:Nat}(h:k<m):sol (x.cust.getD k default) (pr.getD k [])∈uM x sol pr m:=Ar.2 ⟨k,AH.2 h,rfl⟩
def Zcg(x:Inst)(n:Nat)(sol:Cust->List Int->List Visit × Bool):Prop :=
 ∀c∈x.cust,∀(l:List Int),l.length=n->(∀z∈l,zW z)->∀(S:Store) (pl:PV),RowOf S pl l->Spec prog 207 [.agg (yc c),I x.days,I x.cap,pl] S (λq S'=>q=.tup [L (sol c l).1,B (sol c l).2]/\S'=S)
theorem Zpo{S:Store}{A va base:Nat}{ws:Nat->Nat}{x:Inst}{n:Nat}{pr:List (List Int)}{sol:Cust->List Int->List Visit × Bool}(hx:x.cust.length<=1000)(hP:uL x.cust.length n pr)(hR:RowsAt S A va 26 base 3 1 ws pr)(hs:Zcg x n sol):
  Spec prog 175 [.agg (zD x),.sl A va 1 0 x.cust.length] S (λq S'=>q=.tup [L (qB x sol pr).1,I (qB x sol pr).2]/\S'=S):=by
 obtain⟨hPl,hPr⟩:=hP;refine yi func175 ntmps175 results175 λnx hd=>?_
 have hltA:A<nx:=yU hd hR.arr DC;have xa:=λobs=>(zE (S:=S) (obs:=obs) hltA).trans hR.arr
 refine DK ?_;intro v0;refine DK ?_;refine ze (qL 6 101 1 rfl λv1=>?_);refine DK ?_;refine zn (zJ (λs:Nat × List (List Visit) × Nat=>s.1<=x.cust.length/\s.2.1=(uM x sol pr s.1).map (·.1)/\(uM x sol pr s.1).all (·.2)=true) (λ(i,out,w)=>[(1,.sl A va 1 0 x.cust.length),(2,.ptr nx v0 0),(4,.sc (.slice none 0 0)),(6,.sl (nx+1) w 1 0 out.length),(13,L x.cust),(14,I x.cust.length),(15,I i)]) (λ(i,out,w)=>[.cells v0 25 (zD x),.cells w 101 (out.flatMap Enc.enc)]) (λs=>x.cust.length-s.1) (0,[],v1) [] (by simp[uM]) DC DC ?_);rintro⟨i,out,w⟩ ⟨hi,ho,hall⟩;simp only at hi ho hall ⊢;have hol:out.length=i:=by rw[ho];simp[uM]
 refine DK ?_;refine ze (zz rfl (λhc=>?_) (λhc=>?_))
 ·simp at hc;obtain⟨c,tl,a1,a2,a3,e1,e0⟩:=el 8 rfl x.cust i hc;have hcm:=Ab a1;have hgc:x.cust.getD i default=c:=by rw[Aa,a1];rfl
  have hil:i<pr.length:=DB
  obtain⟨tl2,hdr⟩:=Zb2 base 1 ws pr i hil;obtain⟨hgl,hgi⟩:(pr.getD i []).length=n/\∀z∈pr.getD i [],zW z:=by
   rw[Aa,Ad hil];exact hPr _ (A8 hil)
  have hrow:RowOf S (.sl (base+i) (ws i) 1 0 (pr.getD i []).length) (pr.getD i []):=.inr ⟨_,_,rfl,hR.row i hil⟩;have hsol:=hs c hcm (pr.getD i []) hgl hgi;have hch:=Zpn x sol pr i;have hcm2:=ZgF x sol pr (k:=i) hc;rw[hgc]at hch hcm2;generalize pr.getD i []=row at hdr hgl hgi hrow hsol hch hcm2;generalize hr:sol c row=r at hsol hch hcm2;obtain⟨vv,ok⟩:=r;simp only at hsol hch;refine zk (ze (zn (ze (zi [] (zt e0 hc) ?_))));intro v2;refine DK ?_
  repeat apply ze
  refine zg ?_;refine zo (by simp[hc]) ?_;refine zi [] (zF xa hdr hc) ?_;refine DK ?_;refine λhsuf=>((hsol _ _ (hrow.ext hd _)).mono ?_).v
  rintro _ _ ⟨rfl,rfl⟩;refine⟨_,_,rfl,zQ hsuf ?_⟩
  repeat apply ze
  refine zg ?_;cases ok with
  | false =>
   have hno:qB x sol pr=([],15):=by
    unfold qB;rw[if_neg];intro q;have:=Az.1 q _ hcm2;cases this
   rw[hno];refine zo rfl (DK ?_);refine Zv 4 rfl ?_;exact zj ⟨_,S,rfl,⟨by simp[zq],rfl⟩,zU hd⟩
  | true =>
   refine zp rfl (zk (zg ?_));refine⟨by omega,?_⟩;refine zg ?_;exact zv (i+1,out++[vv],w+1) [_] ⟨hc,by rw[hch,List.map_append,ho];rfl,by rw[hch,Bv,hall];rfl⟩ DF (by simp[zA i (by omega)]) rfl DD
 ·simp at hc;obtain rfl:i=x.cust.length:=DB
  have hyes:qB x sol pr=(out,0):=by unfold qB;rw[if_pos hall,<-ho]
  rw[hyes];refine zC (yb 1 rfl ?_);refine DK ?_;exact zj ⟨_,S,DD,⟨by simp[zq],rfl⟩,zU hd⟩
open Go
def JT(x:Inst)(p:zH)(i:Nat):Int :=
 match x.cust[i]? with
 | none=>0
 | some c=>if c.kind=2 then QT c (jA c (yK (yW i (told 0 p)) x.days)).1 else 0
def x9(x:Inst)(p:zH)(k:Nat):Int:=((List.range k).map (JT x p)).sum
theorem Zpp(x:Inst)(p:zH)(k:Nat):x9 x p (k+1)=x9 x p k+JT x p k:=by simp[x9,AT]
theorem ZgG(c:Cust)(q:List Int)(hq:q.length<=1048576):(jA c q).1.length<=1048576:=by
 unfold jA;split
 ·simp
 ·cases h:xM c.size c.rate c.start q with
  | none=>simp
  | some l=>simp[Zog h];exact hq
theorem VE(v:List Visit)(n:Int):(yK v n).length<=1048576:=by rw[ZbR];omega
theorem ZgH(x:Inst)(p:zH)(h:Serves x p)(hx:x.cust.length<=1048576)(hf:∀c∈x.cust,CustFits c):Pure prog 69 [.agg (zD x),.agg [L p]] (I (W (x9 x p x.cust.length))):=by
 refine zx func69 ntmps69 results69 λS nx hd=>?_
 refine DK ?_;intro v0 v1;refine DK ?_
 repeat apply ze
 refine zg ?_;refine zn (zJ (λs:Nat=>s<=x.cust.length) (λk=>[(2,.ptr nx v0 0),(3,.ptr (nx+1) v1 0),(5,I (W (x9 x p k))),(11,L x.cust),(12,I x.cust.length),(13,I k)]) (λ_=>[.cells v0 25 (zD x),.cells v1 30 [L p]]) (λs=>x.cust.length-s) 0 [] DC (by simp[x9]) DC ?_);rintro k hk;refine DK ?_;refine ze (zz rfl (λhc=>?_) (λhc=>?_))
 ·simp at hc;obtain⟨c,tl,a1,a2,a3,_,e0⟩:=el 8 rfl x.cust k hc;have hfc:=hf c (Ab a1);have hs:=Zpp x p k;refine zk (ze (zn (ze (zi [] (zt hc e0) ?_))));intro v2;refine DK ?_
  by_cases hk2:c.kind=2
  ·have hb:=Zge x p k h;have hn:=ZbP c (yK (yW k (told 0 p)) x.days) hfc (VE _ _);have hh:=ZbQ c (jA c (yK (yW k (told 0 p)) x.days)).1 (ZgG _ _ (VE _ _));have hC:JT x p k=QT c (jA c (yK (yW k (told 0 p)) x.days)).1:=by simp only[JT,a1,if_pos hk2]
   rw[hC]at hs;generalize QT c (jA c (yK (yW k (told 0 p)) x.days)).1=z at *;generalize jA c (yK (yW k (told 0 p)) x.days)=ne at *;generalize yK (yW k (told 0 p)) x.days=q at *;obtain⟨ns,er⟩:=ne;simp only at hn hh;refine zo (by simp[hk2]) ?_;refine ze (zB (some [nx,nx+1,nx+2]) (Row.pures [0,1,2,3,4,5,6,7,8,9,10,11] .done) mixed trivial ?_);refine zP (hb) trivial ?_;refine zP (hn) trivial ?_;refine zg ?_;refine zu hh ?_;have hw:W (W (x9 x p k)+z)=W (x9 x p (k+1)):=by rw[hs,Zw]
   refine zg ?_;exact zv (k+1) [_] hc DB (by simp[zA k (by omega)];exact hw) rfl rfl
  ·have hC:JT x p k=0:=by simp only[JT,a1,if_neg hk2]
   rw[hC,Int.add_zero]at hs;refine zp (by simp[hk2]) ?_;refine zk (zg ?_);exact zv (k+1) [_] hc DB (by simp[zA k (by omega),hs]) rfl rfl
 ·simp at hc;obtain rfl:k=x.cust.length:=DB
  refine zC (DK ?_);exact DL hd
def xP(x:Inst)(p:zH):List Int:=p.map λd=>W (yA x d)
theorem Zpq(x:Inst)(p:zH)(hp:p.length<=1048576)(hd':∀d∈p,DayOk d)(S:Store)(nx:Nat)(hd:zX nx S):
  Spec prog 71 [.agg (zD x),.agg [L p]] S (λq S'=>∃v,q=.sl (nx+2) v 1 0 p.length/\S'=S.set (nx+2) (.cells v 3 ((xP x p).flatMap Enc.enc))):=by
 refine uE hd func71 ntmps71 results71 ?_;refine DK ?_;intro v0 v1;refine DK ?_;refine ze (qL 5 3 1 rfl λv2=>?_);refine DK ?_;refine zn (zJ (λs:Nat × List Int × Nat=>s.1<=p.length/\s.2.1=xP x (p.take s.1)) (λ(k,out,v2)=>[(2,.ptr nx v0 0),(3,.ptr (nx+1) v1 0),(5,.sl (nx+2) v2 1 0 out.length),(9,L p),(10,I p.length),(11,I k)]) (λ(k,out,v2)=>[.cells v0 25 (zD x),.cells v1 30 [L p],.cells v2 3 (out.flatMap Enc.enc)]) (λs=>p.length-s.1) (0,[],v2) [] (by simp[xP]) DC DC ?_);rintro⟨k,out,v2⟩ ⟨hk,ho⟩;simp only at hk ho ⊢;have hol:out.length=k:=by rw[ho];simp[xP];omega
 refine DK ?_;refine ze (zz rfl (λhc=>?_) (λhc=>?_))
 ·simp at hc;obtain⟨d,tl,a1,a2,a3,e0⟩:=zL rfl p k hc;refine zk (ze (zn (ze (zi [] (zt hc e0) ?_))));intro v3;refine zg ?_;refine zu (Jx x d (hd' d (Ab a1))) ?_;refine⟨by omega,?_⟩;refine zg ?_;exact zv (k+1,out++[W (yA x d)],v2+1) [_] ⟨hc,by rw[a3,ho];simp[xP]⟩ DF (by simp[zA k (by omega)]) rfl DD
 ·simp at hc;obtain rfl:k=p.length:=DB
  rw[Ag]at ho;refine zC (DK ?_);refine zj ⟨_,_,rfl,⟨v2,by simp[zq,hol],rfl⟩,Qy (j:=2) hd (by simp[ho])⟩
theorem ZgI(x:Inst)(p:zH)(hp:p.length<=1048576)(hd':∀d∈p,DayOk d):Pure prog 71 [.agg (zD x),.agg [L p]] (L (xP x p)):=by
 have hl:(xP x p).length=p.length:=by simp[xP]
 have:=WS 2 (λS nx hd=>Zpq x p hp hd' S nx hd) (by rw[je,hl];omega);rw[<-hl]at this;exact this
def xQ(x:Inst)(p:zH):Int:=W (x9 x p x.cust.length+(p.map (yA x)).sum)
theorem Zpr(a:Int)(l:List Int):W (a+(l.map W).sum)=W (a+l.sum):=by
 induction l generalizing a with
 | nil=>rfl
 | cons b l ih =>
  simp only[AD,Ck];have e1:a+(W b+(l.map W).sum)=(a+W b)+(l.map W).sum:=DB
  rw[e1,ih,show a+W b+l.sum=(a+l.sum)+W b by omega,ZdI,show a+l.sum+b=a+(b+l.sum) by omega]
theorem Zps(x:Inst)(p:zH):W (W (x9 x p x.cust.length)+(xP x p).sum)=xQ x p:=by
 have:xP x p=(p.map (yA x)).map W:=by simp[xP]
 rw[this,Zw,Zpr,xQ]
theorem Zpt(x:Inst)(p:zH)(h:Serves x p)(hx:x.cust.length<=1048576)(hf:∀c∈x.cust,CustFits c)(hd':∀d∈p,DayOk d):Pure prog 68 [.agg (zD x),.agg [L p]] (I (xQ x p)):=by
 have hres:=Zps x p;have hl:(xP x p).length=p.length:=by simp[xP]
 have hpn:=h.sz.n;have hdy:=ZgI x p hpn hd';rw[<-hres];generalize xP x p=ds at hl hdy;refine zx func68 ntmps68 results68 λS nx hd=>?_
 refine DK ?_;intro v0 v1;refine DK ?_;refine zu (ZgH x p h hx hf) ?_
 repeat apply ze
 refine zg ?_;refine zu hdy ?_;refine zn (zJ (λs:Nat=>s<=ds.length) (λk=>[(5,I (W (W (x9 x p x.cust.length)+(ds.take k).sum))),(13,L ds),(14,I ds.length),(15,I k)]) (λ_=>[]) (λs=>ds.length-s) 0 [_,_] DC (by simp[W_W]) rfl ?_);rintro k hk;refine DK ?_;refine ze (zz rfl (λhc=>?_) (λhc=>?_))
 ·simp at hc;obtain⟨z,tl,a1,a2,a3,e0⟩:=zL rfl ds k hc;have hw:W (W (W (x9 x p x.cust.length)+(ds.take k).sum)+z)=W (W (x9 x p x.cust.length)+(ds.take (k+1)).sum):=by rw[a3,Zf4,Zw];congr 1;omega
  refine zk (ze (zn (ze (zi [] (zt hc e0) ?_))));refine zg ?_;refine zg ?_;exact zv (k+1) [] hc DB (by simp[zA k (by omega)];exact hw) rfl DC
 ·simp at hc;obtain rfl:k=ds.length:=DB
  rw[Ag];refine zC (DK ?_);exact DL hd
open Go
def JU(p:zH):Nat:=(p.map λd=>d.flatten.length).sum
theorem ZgJ:∀(p:zH) (i:Nat),(told i p).length=JU p
 | [],_=>rfl
 | d :: p,i=>by
  have:=ZgJ p (i+1);simp only[told,Aq,List.length_map,JU,AD,Ck]at this ⊢;omega
theorem ZgK:∀(d:zr),(∀t∈d,t≠[])->d.length<=d.flatten.length
 | [],_=>by simp
 | t :: d,h=>by
  have h1:=ZgK d λu hu=>h u (by simp[hu])
  have h2:=BQ.2 (h t DC);simp only[BH,Au,Aq];omega
theorem VF:∀(d:zr) (t:zO),t∈d->t.length<=d.flatten.length
 | [],_,h=>by cases h
 | u :: d,t,h=>by
  simp only[BH,Aq];rcases Aw.1 h with rfl | h
  ·omega
  ·have:=VF d t h;omega
open Go
def lx:Inst:=⟨1,1,9,9,[],[[0]]⟩
def ly:Inst:=⟨1,1,9,9,[⟨1,1,[1],0,0,0,0,0⟩],[[0,3],[4,0]]⟩
def lp:zH:=[[]]
open Go
theorem VG{p a k:Nat}{d:Int}(h:d∈yy p a k):∃i:Nat,d=i/\i<k/\qz p i=1:=by
 simp only[yy,Ar,Bi,AH,Ao,decide_eq_true_eq]at h;obtain⟨i,⟨h1,_,h3⟩,rfl⟩:=h;exact⟨i,rfl,h1,h3⟩
theorem Zpu{d:zr}{t:zO}(ht:t∈d){s:Stop}(hs:s∈t):s∈d.flatten:=BE.2 ⟨t,ht,hs⟩
theorem ZgL{m:Nat}:∀(l:List Int),l.Nodup->(∀c∈l,0<=c/\c<m)->l.length<=m:=by
 intro l hn hl;have h1:(l.map Int.toNat).Nodup:=by
  refine List.Pairwise.map _ ?_ (List.Pairwise.and_mem.1 hn);rintro a b ⟨ha,hb,hab⟩ e;have:=hl a ha;have:=hl b hb;exact hab DB
 have h2:∀c∈l.map Int.toNat,c∈List.range m:=by
  intro c hc;obtain⟨z,hz,rfl⟩:=Ar.1 hc;have:=hl z hz;exact AH.2 DB
 have:=h1.length_le_of_subset h2;simpa using this
open Go Go.Proofs Hp
theorem Zch(p:Nat)(hp:p<2 ^ 64):Pure prog 305 [U p] (L (yy p 0 64)):=by
 have h:=Zf8 p 0 hp DH;refine zx func305 ntmps305 results305 λS nx hd=>?_
 refine DK ?_;refine DK ?_;refine zu h ?_;exact zj (zm hd rfl rfl)
theorem Zpv(c:Cust)(p:Nat)(hp:p<2 ^ 64):Pure prog 277 [.agg (yc c),U p] (L (Y7 c p)):=by
 have hall:=Zch p hp;have hln:=Y5 p 0 64;unfold Y7;generalize yy p 0 64=l at hall hln;refine zx func277 ntmps277 results277 λS nx hd=>?_
 refine DK ?_;intro v0;refine DK ?_;refine ze (qL 5 104 2 rfl λv1=>?_);refine DK ?_;refine zu hall ?_;refine zn (zJ (λs:Nat × List Visit × Nat=>s.1<=l.length/\s.2.1=(l.take s.1).map λd=>⟨d,c.demand⟩) (λ(k,out,v1)=>[(2,.ptr nx v0 0),(5,.sl (nx+1) v1 2 0 out.length),(9,L l),(10,I l.length),(11,I k)]) (λ(k,out,v1)=>[.cells v0 87 (yc c),.cells v1 104 (out.flatMap Enc.enc)]) (λs=>l.length-s.1) (0,[],v1) [] DC DC DC ?_);rintro⟨k,out,v1⟩ ⟨hk,ho⟩;simp only at hk ho ⊢;have hol:out.length=k:=by rw[ho];simp;omega
 refine DK ?_;refine ze (zz rfl (λhc=>?_) (λhc=>?_))
 ·simp at hc;obtain⟨d,tl,a1,a2,a3,e0⟩:=zL rfl l k hc;refine zk (ze (zn (ze (zi [] (zt e0 hc) ?_))));refine zg ?_;refine⟨by omega,?_⟩;refine zg ?_;exact zv (k+1,out++[⟨d,c.demand⟩],v1+1) [] ⟨hc,by rw[a3,ho];simp⟩ DF (by simp[zA k (by omega)]) rfl DC
 ·simp at hc;obtain rfl:k=l.length:=DB
  rw[Ag]at ho;refine zC (yb 1 rfl ?_);refine DK ?_;exact zj (zm hd DD (by simp[zq,ho]))
def vr(price:List Int)(ds:List Int):Int:=ds.foldl (λ(s d:Int)=>if d<price.length then wM s (price.getD d.toNat 0) else s) 0
def XT(price:List Int)(p:Nat):Int:=vr price (yy p 0 64)
def xe(price:List Int)(l:List Nat):Nat->Int × Int
 | 0=>(-1,0)
 | k+1=>if (xe price l k).1<0\/XT price (l.getD k 0)<(xe price l k).2 then (k,XT price (l.getD k 0)) else xe price l k
theorem Zci(price:List Int)(l:List Nat):∀k:Nat,(xe price l k).1<k/\-1<=(xe price l k).1/\(0<k->0<=(xe price l k).1)
 | 0=>by simp[xe]
 | k+1=>by
  have:=Zci price l k;unfold xe;split
  ·dsimp only;omega
  ·rename_i h;omega
theorem Zpw(a b:Int)(ha:zW a)(hb:zW b):zW (wM a b):=by
 unfold zW wM at *;split
 ·omega
 ·split<;>omega
theorem Zpx(price ds:List Int)(d:Int):vr price (ds++[d])=if d<price.length then wM (vr price ds) (price.getD d.toNat 0) else vr price ds:=by simp[vr]
theorem Zpy(price:List Int)(hp:∀z∈price,zW z)(ds:List Int):zW (vr price ds):=by
 unfold vr;have:∀(ds:List Int) (s:Int),zW s->zW (ds.foldl (λ(s d:Int)=>if d<price.length then wM s (price.getD d.toNat 0) else s) s):=by
  intro ds
  induction ds with
  | nil=>intro s h;exact h
  | cons d ds ih =>
   intro s h;rw[AY];apply ih;split
   ·refine Zpw _ _ h ?_;rw[Aa];cases hq:price[d.toNat]? with
    | none=>unfold zW;simp
    | some z=>exact hp z (Ab hq)
   ·exact h
 exact this ds 0 (by unfold zW;omega)
theorem Zpz{S:Store}{pl:PV}{price:List Int}(l:List Nat)(hR:RowOf S pl price)(hp:∀z∈price,zW z)(hpl:price.length<=1000)(hl:l.length<=1000)(h64:∀p∈l,p<2 ^ 64):
  Spec prog 276 [L l,pl] S (λq S'=>q=.tup [I (xe price l l.length).1,I (xe price l l.length).2]/\S'=S):=by
 refine yi func276 ntmps276 results276 λnx hd=>?_
 refine DK ?_;refine DK ?_
 repeat apply ze
 refine zg ?_;refine zn (zJ (λk:Nat=>k<=l.length) (λk=>[(1,pl),(6,I (xe price l k).1),(7,I (xe price l k).2),(13,L l),(14,I l.length),(15,I k)]) (λ_=>[]) (λk=>l.length-k) 0 [] DC (by simp[xe]) DC ?_);rintro k hk;have hb:xe price l (k+1)=if (xe price l k).1<0\/XT price (l.getD k 0)<(xe price l k).2 then (↑k,XT price (l.getD k 0)) else xe price l k:=rfl
 generalize hst:xe price l k=st at hb ⊢;obtain⟨place,least⟩:=st;simp only at hb ⊢;refine DK ?_;refine ze (zz rfl (λhc=>?_) (λhc=>?_))
 ·simp at hc;obtain⟨p,tl,a1,a2,a3,e0⟩:=zL rfl l k hc;have hall:=Zch p (h64 p (Ab a1));have hgp:l.getD k 0=p:=by rw[Aa,a1];rfl
  rw[hgp]at hb;have hds:∀d∈yy p 0 64,∃i:Nat,d=i:=λd hd=>by obtain⟨i,h,_⟩:=VG hd;exact⟨i,h⟩
  have hdl:=Y5 p 0 64;rw[show XT price p=vr price (yy p 0 64) from rfl]at hb;generalize yy p 0 64=ds at hall hds hdl hb;refine zk (ze (zn (ze (zi [] (zt e0 hc) ?_))));refine DK ?_
  repeat apply ze
  refine zg ?_;refine zu hall ?_;refine zn (zJ (λj:Nat=>j<=ds.length) (λj=>[(1,pl),(6,I place),(7,I least),(8,I k),(10,I (vr price (ds.take j))),(13,L l),(14,I l.length),(15,I k),(21,L ds),(22,I ds.length),(23,I j)]) (λ_=>[]) (λj=>ds.length-j) 0 [] DC (by simp[vr]) DC ?_);rintro j hj;refine DK ?_;refine ze (zz rfl (λhc2=>?_) (λhc2=>?_))
  ·simp at hc2;obtain⟨d,tl2,b1,b2,b3,f0⟩:=zL rfl ds j hc2;obtain⟨i,rfl⟩:=hds d (Ab b1);have hsn:=Zpx price (ds.take j) (i:Int);rw[<-b3,AL]at hsn;have hsi:=Zpy price hp (ds.take j);refine zk (ze (zn (ze (zi [] (zt f0 hc2) ?_))))
   by_cases hi:i<price.length
   ·obtain⟨z,tl3,c1,-,-,g0⟩:=zL rfl price i hi;have hgz:price.getD i 0=z:=by rw[Aa,c1];rfl
    rw[if_pos DB,hgz]at hsn;have hsat:=Vr (vr price (ds.take j)) z hsi (hp z (Ab c1));rw[<-hsn]at hsat;rcases hR with rfl | ⟨id,ver,rfl,hS⟩
    ·refine ze (zi [] hi ?_);refine zo rfl (zi [] (zt g0 hi) ?_);refine zu hsat ?_;refine zg ?_;exact zv (j+1) [] hc2 DB (by simp[zA j (by omega)]) rfl DC
    ·have hlt:id<nx:=yU hd hS DC;have xr:=λobs=>(zE (S:=S) (obs:=obs) hlt).trans hS
     refine ze (zi [] hi ?_);refine zo rfl (zi [] (zF xr g0 hi) ?_);refine zu hsat ?_;refine zg ?_;exact zv (j+1) [] hc2 DB (by simp[zA j (by omega)]) rfl DC
   ·rw[if_neg DB]at hsn;rcases hR with rfl | ⟨id,ver,rfl,hS⟩
    ·refine ze (zi [] hi ?_);refine zp rfl (zk (zg ?_));exact zv (j+1) [] hc2 DB (by simp[zA j (by omega),hsn]) rfl DC
    ·refine ze (zi [] hi ?_);refine zp rfl (zk (zg ?_));exact zv (j+1) [] hc2 DB (by simp[zA j (by omega),hsn]) rfl DC
  ·simp at hc2;obtain rfl:j=ds.length:=DB
   rw[Ag];refine zC (ze (qE (nx:=nx) (σ:=Bool) (λt=>t=decide (place<0\/vr price ds<least)) (λt=>[(1,pl),(6,I place),(7,I least),(8,I k),(10,I (vr price ds)),(13,L l),(14,I l.length),(15,I k),(44,B t)]) (λ_=>S) (λ_=>[]) ?_ ?_))
   ·by_cases h1:place<0
    ·repeat apply ze
     refine zi [(2,40)] (zt h1 zy) ?_;exact zT true [] (by simp[h1]) DC rfl DC
    ·repeat apply ze
     refine zi [(2,40)] h1 ?_;exact zT (decide (vr price ds<least)) [] (by simp[h1]) DC rfl DC
   rintro t rfl
   by_cases h:place<0\/vr price ds<least
   ·rw[decide_eq_true h];rw[if_pos h]at hb;refine zo rfl (zg ?_);refine zg ?_;exact zv (k+1) [] hc DB (by simp[zA k (by omega),hb]) rfl DC
   ·rw[decide_eq_false h];rw[if_neg h]at hb;refine zp rfl (zk (zg ?_));exact zv (k+1) [] hc DB (by simp[zA k (by omega),hb]) rfl DC
 ·simp at hc;obtain rfl:k=l.length:=DB
  refine zC (DK ?_);exact zj ⟨_,S,rfl,⟨by simp[zq,hst],rfl⟩,zU hd⟩
def uv(c:Cust)(cap:Int):List Nat:=c.pats.filter λp=>decide (p=0) || decide (c.demand<=cap)
theorem ZpA(c:Cust)(cap:Int)(hl:c.pats.length<=1000):Pure prog 275 [.agg (yc c),I cap] (L (uv c cap)):=by
 unfold uv;refine zx func275 ntmps275 results275 λS nx hd=>?_
 refine DK ?_;intro v0;refine DK ?_;refine ze (qL 5 98 1 rfl λv1=>?_);refine DK ?_;refine zn (zJ (λs:Nat × List Nat × Nat=>s.1<=c.pats.length/\s.2.1=(c.pats.take s.1).filter (λp=>decide (p=0) || decide (c.demand<=cap))/\s.2.1.length<=s.1) (λ(k,out,w)=>[(1,I cap),(2,.ptr nx v0 0),(5,.sl (nx+1) w 1 0 out.length),(9,L c.pats),(10,I c.pats.length),(11,I k)]) (λ(k,out,w)=>[.cells v0 87 (yc c),.cells w 98 (out.flatMap Enc.enc)]) (λs=>c.pats.length-s.1) (0,[],v1) [] DC DC DC ?_);rintro⟨k,out,w⟩ ⟨hk,ho,hol⟩;simp only at hk ho hol ⊢;refine DK ?_;refine ze (zz rfl (λhc=>?_) (λhc=>?_))
 ·simp at hc;obtain⟨p,tl,a1,a2,a3,e0⟩:=zL rfl c.pats k hc;refine zk (ze (zn (ze (zi [] (zt e0 hc) ?_))));refine ze (qE (nx:=nx) (σ:=Bool × Nat) (λs=>s.1=(decide (p=0) || decide (c.demand<=cap))) (λ(t,w)=>[(1,I cap),(2,.ptr nx v0 0),(5,.sl (nx+1) w 1 0 out.length),(7,U p),(9,L c.pats),(10,I c.pats.length),(11,I k),(22,B t)]) (λ_=>S) (λ(t,w)=>[.cells v0 87 (yc c),.cells w 98 (out.flatMap Enc.enc)]) ?_ ?_)
  ·by_cases h1:p=0
   ·repeat apply ze
    refine zi [(2,17)] (zt h1 zy) ?_;exact zT (true,w) [] (by simp[h1]) (by simp[h1]) rfl DC
   ·repeat apply ze
    refine zi [(2,17)] h1 ?_;exact zT (decide (c.demand<=cap),w) [] (by simp[h1]) DC rfl DC
  rintro⟨t,w⟩ ht;simp only at ht ⊢;subst ht;have hstep:(c.pats.take (k+1)).filter (λp=>decide (p=0) || decide (c.demand<=cap))=out++(if (decide (p=0) || decide (c.demand<=cap))=true then [p] else []):=by
   rw[a3,BX,ho];congr 1;simp only[B6,List.filter_nil]
  cases ht:(decide (p=0) || decide (c.demand<=cap)) with
  | true =>
   rw[ht,if_pos rfl]at hstep;refine zo rfl (zg ?_);refine⟨by omega,?_⟩;refine zg ?_;exact zv (k+1,out++[p],w+1) [] ⟨hc,hstep.symm,by simp;omega⟩ DF (by simp[zA k (by omega)]) rfl DC
  | false =>
   rw[ht,if_neg DH,AF]at hstep;refine zp rfl (zk (zg ?_));exact zv (k+1,out,w) [] ⟨hc,hstep.symm,by dsimp only;omega⟩ DF (by simp[zA k (by omega)]) rfl DC
 ·simp at hc;obtain rfl:k=c.pats.length:=DB
  rw[Ag]at ho;refine zC (yb 1 rfl ?_);refine DK ?_;exact zj (zm hd DD (by simp[zq,ho]))
def Zd(c:Cust)(cap:Int)(price:List Int):List Visit × Bool :=
 if (xe price (uv c cap) (uv c cap).length).1<0 then ([],false) else (Y7 c ((uv c cap).getD (xe price (uv c cap) (uv c cap).length).1.toNat 0),true)
theorem ZpB{S:Store}{pl:PV}{price:List Int}(c:Cust)(cap:Int)(hR:RowOf S pl price)(hp:∀z∈price,zW z)(hpl:price.length<=1000)(hl:c.pats.length<=1000)(h64:∀p∈c.pats,p<2 ^ 64):
  Spec prog 246 [.agg (yc c),I cap,pl] S (λq S'=>q=.tup [L (Zd c cap price).1,B (Zd c cap price).2]/\S'=S):=by
 have hca:=ZpA c cap hl;have hsub:∀p∈uv c cap,p<2 ^ 64:=λp hp=>h64 p (Bi.1 hp).1
 have hcl:(uv c cap).length<=1000:=AB (Bx _ _) hl;unfold Zd;generalize uv c cap=l at *;have hb:=λS (hR:RowOf S pl price)=>Zpz l hR hp hpl hcl hsub
 obtain⟨b1,b2,b3⟩:=Zci price l l.length;generalize xe price l l.length=r at *;obtain⟨place,least⟩:=r;simp only at hb b1 b2 b3 ⊢;refine yi func246 ntmps246 results246 λnx hd=>?_
 refine DK ?_;intro v0;refine DK ?_;refine zu hca ?_;refine DK ?_;refine λhsuf=>((hb _ (hR.ext hd _)).mono ?_).v
 rintro _ _ ⟨rfl,rfl⟩;refine⟨_,_,rfl,zQ hsuf ?_⟩
 repeat apply ze
 refine zg ?_
 by_cases h:place<0
 ·rw[if_pos h];refine zo (by simp[h]) ?_;refine DK ?_;refine Zv 6 rfl ?_;exact zj ⟨_,S,rfl,⟨by simp[zq],rfl⟩,zU hd⟩
 ·rw[if_neg h];obtain⟨i,rfl⟩:=AN (show 0<=place by omega);have hil:i<l.length:=DB
  obtain⟨p,tl,a1,a2,a3,e0⟩:=zL rfl l i hil;have hgp:l.getD (i:Int).toNat 0=p:=by rw[AL,Aa,a1];rfl
  rw[hgp];have hon:=Zpv c p (hsub p (Ab a1));refine zp DC ?_;refine zk (ze (zB (some [nx]) (Row.pures [0,1,2,3,4,5,6,7] .done) mixed (zt e0 hil) ?_));refine zP (hon) (zt e0 hil) ?_;exact zj ⟨_,S,DD,⟨by simp[zq],rfl⟩,zU hd⟩
theorem ZpC{S:Store}{pl:PV}{price:List Int}(c:Cust)(n cap:Int)(hk:c.kind=1)(hR:RowOf S pl price)(hp:∀z∈price,zW z)(hpl:price.length<=1000)(hl:c.pats.length<=1000)(h64:∀p∈c.pats,p<2 ^ 64):
  Spec prog 207 [.agg (yc c),I n,I cap,pl] S (λq S'=>q=.tup [L (Zd c cap price).1,B (Zd c cap price).2]/\S'=S):=by
 have hs:=λS (hR:RowOf S pl price)=>ZpB c cap hR hp hpl hl h64
 generalize Zd c cap price=r at *;obtain⟨v,ok⟩:=r;simp only at hs ⊢;refine yi func207 ntmps207 results207 λnx hd=>?_
 refine DK ?_;intro v0;refine ze (zn (ze (zi [] hk ?_)));refine zo rfl (DK ?_);refine λhsuf=>((hs _ (hR.ext hd _)).mono ?_).v
 rintro _ _ ⟨rfl,rfl⟩;refine⟨_,_,rfl,zQ hsuf ?_⟩;exact zj ⟨_,S,DD,⟨by simp[zq],rfl⟩,zU hd⟩
open Go Go.Proofs Hp
def vt(c:Cust)(there cap:Int):Int:=if c.size-there<1\/cap<0 then 0 else if c.size-there<=cap then c.size-there else if c.rule=1 then 0 else cap
theorem ZgM{c:Cust}{there cap:Int}(hc:0<=c.size/\c.size<=2147483648)(ht:0<=there):0<=vt c there cap/\vt c there cap<=2147483648:=by
 unfold vt;split
 ·omega
 ·split
  ·omega
  ·split<;>omega
theorem Zcj(c:Cust)(there cap:Int)(hc:0<=c.size/\c.size<=2147483648)(ht:-4611686018427387904<=there/\there<=4611686018427387904):Pure prog 279 [.agg (yc c),I there,I cap] (I (vt c there cap)):=by
 have w1:IntKind.i64.wrap (c.size-there)=c.size-there:=wr _ DB DB;unfold vt;generalize hf:c.size-there=f at w1 ⊢;refine zx func279 ntmps279 results279 λS nx hd=>?_
 refine DK ?_;intro v0;refine ze (zi [] (zt hf w1) ?_);refine ze (zn ?_)
 by_cases h:f<1\/cap<0
 ·rw[if_pos h]
  by_cases h1:f<1
  ·refine ze (zi [(2,15)] (zt h1 zy) ?_);refine zo rfl (DK ?_);exact zj (zm hd rfl rfl)
  ·have h2:cap<0:=DB
   refine ze (zi [(2,15)] (zt h1 h2) ?_);refine zo rfl (DK ?_);exact zj (zm hd rfl rfl)
 ·rw[if_neg h];have h1:¬f<1:=DB
  have h2:¬cap<0:=DB
  refine ze (zi [(2,15)] (zt h1 h2) ?_);refine zp rfl (DK ?_)
  by_cases h3:f<=cap
  ·rw[if_pos h3];refine zo (by simp[h3]) ?_;refine DK ?_;exact zj (zm hd rfl rfl)
  ·rw[if_neg h3];refine zp DF ?_;refine DK ?_
   by_cases h4:c.rule=1
   ·rw[if_pos h4];refine zo (by simp[h4]) ?_;refine DK ?_;exact zj (zm hd rfl rfl)
   ·rw[if_neg h4];refine zp (by simp[h4]) ?_;refine zk (DK ?_);exact zj (zm hd rfl rfl)
def Yq(price:List Int)(d:Int):Int:=if d<0\/(price.length:Int)<=d then 0 else price.getD d.toNat 0
theorem Zck{S:Store}{pl:PV}{price:List Int}(d:Int)(hR:RowOf S pl price):
  Spec prog 209 [pl,I d] S (λq S'=>q=I (Yq price d)/\S'=S):=by
 unfold Yq;rcases hR with rfl | ⟨id,ver,rfl,hS⟩
 ·refine yi func209 ntmps209 results209 λnx hd=>?_
  refine DK ?_
  by_cases h:d<0
  ·rw[if_pos (.inl h)]
   repeat apply ze
   refine zi [(2,7)] (zt h zy) ?_;refine zo rfl (DK ?_);exact zj ⟨_,S,rfl,⟨by simp[zq],rfl⟩,zU hd⟩
  by_cases h2:(price.length:Int)<=d
  ·rw[if_pos (.inr h2)]
   repeat apply ze
   refine zi [(2,7)] (zt h h2) ?_;refine zo rfl (DK ?_);exact zj ⟨_,S,rfl,⟨by simp[zq],rfl⟩,zU hd⟩
  rw[if_neg DB];obtain⟨i,rfl⟩:=AN (show 0<=d by omega);have hi:i<price.length:=DB
  obtain⟨z,tl,a1,-,-,e0⟩:=zL rfl price i hi;have hg:price.getD (i:Int).toNat 0=z:=by rw[AL,Aa,a1];rfl
  rw[hg];have h2':¬price.length<=i:=DB
  repeat apply ze
  refine zi [(2,7)] (zF h h2 h2') ?_;refine zp rfl (zk (ze (zi [] (zt e0 hi) ?_)));exact zj ⟨_,S,rfl,⟨by simp[zq],rfl⟩,zU hd⟩
 ·refine yi func209 ntmps209 results209 λnx hd=>?_
  have hlt:id<nx:=yU hd hS DC;have xr:=λobs=>(zE (S:=S) (obs:=obs) hlt).trans hS
  refine DK ?_
  by_cases h:d<0
  ·rw[if_pos (.inl h)]
   repeat apply ze
   refine zi [(2,7)] (zt h zy) ?_;refine zo rfl (DK ?_);exact zj ⟨_,S,rfl,⟨by simp[zq],rfl⟩,zU hd⟩
  by_cases h2:(price.length:Int)<=d
  ·rw[if_pos (.inr h2)]
   repeat apply ze
   refine zi [(2,7)] (zt h h2) ?_;refine zo rfl (DK ?_);exact zj ⟨_,S,rfl,⟨by simp[zq],rfl⟩,zU hd⟩
  rw[if_neg DB];obtain⟨i,rfl⟩:=AN (show 0<=d by omega);have hi:i<price.length:=DB
  obtain⟨z,tl,a1,-,-,e0⟩:=zL rfl price i hi;have hg:price.getD (i:Int).toNat 0=z:=by rw[AL,Aa,a1];rfl
  rw[hg];have h2':¬price.length<=i:=DB
  repeat apply ze
  refine zi [(2,7)] (zF h h2 h2') ?_;refine zp rfl (zk (ze (zi [] (zF xr e0 hi) ?_)));exact zj ⟨_,S,rfl,⟨by simp[zq],rfl⟩,zU hd⟩
theorem ZgN:∀(l m:List Int) (i:Nat),yY i (l++m)=yY i l++yY (i+l.length) m
 | [],m,i=>by simp[yY]
 | z :: l,m,i=>by
  have ih:=ZgN l m (i+1);simp only[List.cons_append,yY,Au,ih,show i+1+l.length=i+(l.length+1) from by omega];split<;>simp
theorem ZgO(q:List Int)(hq:q.length<=1048576):Pure prog 282 [L q] (L (yY 0 q)):=by
 refine zx func282 ntmps282 results282 λS nx hd=>?_
 refine DK ?_;refine DK ?_;refine ze (qL 3 104 2 rfl λv1=>?_);refine DK ?_;refine zn (zJ (λs:Nat × List Visit × Nat=>s.1<=q.length/\s.2.1=yY 0 (q.take s.1)) (λ(k,out,w)=>[(3,.sl nx w 2 0 out.length),(6,L q),(7,I q.length),(8,I k)]) (λ(k,out,w)=>[.cells w 104 (out.flatMap Enc.enc)]) (λs=>q.length-s.1) (0,[],v1) [] (by simp[yY]) DC DC ?_);rintro⟨k,out,w⟩ ⟨hk,ho⟩;simp only at hk ho ⊢;have hol:out.length<=k:=by rw[ho];exact AB (VC _ _) DF
 refine DK ?_;refine ze (zz rfl (λhc=>?_) (λhc=>?_))
 ·simp at hc;obtain⟨z,tl,a1,a2,a3,e0⟩:=zL rfl q k hc;have hst:yY 0 (q.take (k+1))=out++(if 0<z then [⟨k,z⟩] else []):=by
   rw[a3,ZgN,<-ho,As,A9 hk];simp only[yY,AQ]
  refine zk (ze (zn (ze (zi [] (zt e0 hc) ?_))));refine DK ?_
  by_cases h:0<z
  ·rw[if_pos h]at hst;refine zo (by simp[h]) ?_;refine zg ?_;refine⟨by omega,?_⟩;refine zg ?_;exact zv (k+1,out++[⟨k,z⟩],w+1) [] ⟨hc,hst.symm⟩ DF (by simp[zA k (by omega)]) rfl DC
  ·rw[if_neg h,AF]at hst;refine zp DF ?_;refine zk (zg ?_);exact zv (k+1,out,w) [] ⟨hc,hst.symm⟩ DF (by simp[zA k (by omega)]) rfl DC
 ·simp at hc;obtain rfl:k=q.length:=DB
  rw[Ag]at ho;refine zC (yb 0 rfl ?_);refine DK ?_;exact zj (zm hd DD (by simp[zq,ho]))
def qh(c:Cust)(f:Int->Int):Nat->List Int × Int
 | 0=>([],c.start)
 | k+1=>((qh c f k).1++[f (qh c f k).2],(qh c f k).2+(f (qh c f k).2-c.rate))
def Y8(c:Cust)(cap:Int)(t:Int):Int:=vt c (max t 0) cap
def Yr(c:Cust)(cap:Int)(t:Int):Int:=if c.rate<=t then 0 else vt c (max t 0) cap
theorem JV(c:Cust)(f:Int->Int):∀k,(qh c f k).1.length=k
 | 0=>rfl
 | k+1=>by simp[qh,JV c f k]
theorem Zcl{c:Cust}(hc:CustFits c)(cap t:Int):0<=Y8 c cap t/\Y8 c cap t<=2147483648:=ZgM hc.size DB
theorem Zcm{c:Cust}(hc:CustFits c)(cap t:Int):0<=Yr c cap t/\Yr c cap t<=2147483648:=by
 unfold Yr;split
 ·omega
 ·exact ZgM hc.size DB
theorem JW{c:Cust}(hc:CustFits c){f:Int->Int}(hf:∀t,0<=f t/\f t<=2147483648):∀k:Nat,(-4294967296*((k:Int)+1)<=(qh c f k).2/\(qh c f k).2<=4294967296*((k:Int)+1))/\Qs (qh c f k).1
 | 0=>by
  have:=hc.start;refine⟨by simp only[qh];omega,by intro z hz;cases hz⟩
 | k+1=>by
  obtain⟨h1,h2⟩:=JW hc hf k;have h3:=hf (qh c f k).2;have h4:=hc.rate;refine⟨by simp only[qh];push_cast;omega,λz hz=>?_⟩;simp only[qh]at hz;rcases AG.1 hz with hz | hz
  ·exact h2 z hz
  ·rw[AZ.1 hz];exact h3
theorem ZpD(c:Cust)(cap t:Int)(hc:CustFits c)(ht:-4611686018427387904<=t/\t<=4611686018427387904):Pure prog 307 [I t,.ip (yc c),.ip [I cap]] (I (Y8 c cap t)):=by
 have hm:q8 t 0=max t 0:=by unfold q8;split<;>omega
 have hmo:=Zcj c (max t 0) cap hc.size DB;unfold Y8;generalize max t 0=m at hm hmo ⊢;generalize vt c m cap=z at hmo ⊢;refine zx func307 ntmps307 results307 λS nx hd=>?_
 refine DK ?_;refine ze (zi [] hm ?_);refine qP [] hmo hm ?_;exact zj (zm hd rfl rfl)
theorem ZpE(c:Cust)(cap t:Int)(hc:CustFits c)(ht:-4611686018427387904<=t/\t<=4611686018427387904):Pure prog 308 [I t,.ip (yc c),.ip [I cap]] (I (Yr c cap t)):=by
 have hm:q8 t 0=max t 0:=by unfold q8;split<;>omega
 have hmo:=Zcj c (max t 0) cap hc.size DB;unfold Yr;generalize max t 0=m at hm hmo ⊢;generalize vt c m cap=z at hmo ⊢;refine zx func308 ntmps308 results308 λS nx hd=>?_
 refine DK ?_
 repeat apply ze
 refine zg ?_
 by_cases h:c.rate<=t
 ·rw[if_pos h];refine zo (by simp[h]) ?_;refine DK ?_;exact zj (zm hd rfl rfl)
 ·rw[if_neg h];refine zp DF ?_;refine zk (ze (zi [] hm ?_));refine qP [] hmo hm ?_;exact zj (zm hd rfl rfl)
theorem ZgP(c:Cust)(n:Nat)(fn:FuncId)(caps:List PV)(f:Int->Int)(hc:CustFits c)(hn:n<=1000)(hf:∀t,0<=f t/\f t<=2147483648)(hfn:∀t,(-4611686018427387904<=t/\t<=4611686018427387904)->Pure prog fn ([I t]++caps) (I (f t))):
  Pure prog 306 [.agg (yc c),I n,.fn (.func fn) [] caps] (.tup [L (qh c f n).1,B (decide (Zb c (qh c f n).1=0))]):=by
 have hr:=hc.rate;refine zx func306 ntmps306 results306 λS nx hd=>?_
 refine DK ?_;intro v0;refine DK ?_;refine ze (qL 8 3 1 rfl λv1=>?_);refine zg ?_
 repeat apply ze
 refine zg ?_;refine zn (zJ (λs:Nat × Nat=>s.1<=n) (λ(k,w)=>[(2,.fn (.func fn) [] caps),(3,.ptr nx v0 0),(8,.sl (nx+1) w 1 0 (qh c f k).1.length),(9,I (qh c f k).2),(13,I n),(14,I k)]) (λ(k,w)=>[.cells v0 87 (yc c),.cells w 3 ((qh c f k).1.flatMap Enc.enc)]) (λs=>n-s.1) (0,v1) [] DC (by simp[qh]) (by simp[qh]) ?_);rintro⟨k,w⟩ hk;simp only at hk ⊢;obtain⟨hbd,-⟩:=JW hc hf k;have hl:=JV c f k;have hsucc:qh c f (k+1)=((qh c f k).1++[f (qh c f k).2],(qh c f k).2+(f (qh c f k).2-c.rate)):=rfl;generalize hst:qh c f k=st at hbd hl hsucc ⊢;obtain⟨q,t⟩:=st;simp only at hbd hl hsucc ⊢;refine DK ?_;refine ze (zz rfl (λhc1=>?_) (λhc1=>?_))
 ·simp at hc1;have hft:=hf t;have hcall:=hfn t DB;have w1:IntKind.i64.wrap (f t-c.rate)=f t-c.rate:=wr _ DB DB;have w2:IntKind.i64.wrap (t+(f t-c.rate))=t+(f t-c.rate):=wr _ DB DB;generalize f t=z at *;refine zk (ze (zn (DK ?_)));refine zu hcall ?_;refine DK ?_;refine⟨by omega,?_⟩;refine zi [] (zt w1 w2) ?_;refine zg ?_;exact zv (k+1,w+1) [] DB DF (by simp[zA k (by omega),hsucc]) rfl (by simp[hsucc])
 ·simp at hc1;obtain rfl:k=n:=DB
  refine zC (yb 1 rfl ?_);have hh:=Zf5 c q hc DB;refine DK ?_;refine zu hh ?_;exact zj (zm hd DD (by simp[zq,hst]))
def Ze(c:Cust)(n:Nat)(cap:Int):List Int × Bool:=((qh c (Y8 c cap) n).1,decide (Zb c (qh c (Y8 c cap) n).1=0))
def ZP(c:Cust)(n:Nat)(cap:Int):List Int × Bool:=((qh c (Yr c cap) n).1,decide (Zb c (qh c (Yr c cap) n).1=0))
theorem ZpF(c:Cust)(n:Nat)(cap:Int)(hc:CustFits c)(hn:n<=1000):Pure prog 281 [.agg (yc c),I n,I cap] (.tup [L (Ze c n cap).1,B (Ze c n cap).2]):=by
 have h:=ZgP c n 307 [.ip (yc c),.ip [I cap]] (Y8 c cap) hc hn (Zcl hc cap) (λt ht=>ZpD c cap t hc ht);unfold Ze;generalize qh c (Y8 c cap) n=r at h ⊢;refine zx func281 ntmps281 results281 λS nx hd=>?_
 refine DK ?_;intro v0 v1;refine xI 0 rfl ?_;refine xI 1 rfl ?_;refine DK ?_;refine zu h ?_;exact DL hd
theorem ZpG(c:Cust)(n:Nat)(cap:Int)(hc:CustFits c)(hn:n<=1000):Pure prog 283 [.agg (yc c),I n,I cap] (.tup [L (ZP c n cap).1,B (ZP c n cap).2]):=by
 have h:=ZgP c n 308 [.ip (yc c),.ip [I cap]] (Yr c cap) hc hn (Zcm hc cap) (λt ht=>ZpE c cap t hc ht);unfold ZP;generalize qh c (Yr c cap) n=r at h ⊢;refine zx func283 ntmps283 results283 λS nx hd=>?_
 refine DK ?_;intro v0 v1;refine xI 0 rfl ?_;refine xI 1 rfl ?_;refine DK ?_;refine zu h ?_;exact DL hd
def Y9(price:List Int)(v:List Visit):Int:=v.foldl (λs w=>W (s+Yq price w.d)) 0
theorem ZpH(price:List Int)(v:List Visit)(w:Visit):Y9 price (v++[w])=W (Y9 price v+Yq price w.d):=by simp[Y9]
def ZQ(c:Cust)(n:Int)(price:List Int)(v:List Visit):Int:=if c.kind=1 then Y9 price v else W (Y9 price v+QT c (jA c (yK v n)).1)
theorem Zcn{S:Store}{pl:PV}{price:List Int}(c:Cust)(n:Int)(v:List Visit)(hR:RowOf S pl price)(hc:CustFits c)(hv:VisOk v):
  Spec prog 208 [.agg (yc c),I n,pl,L v] S (λq S'=>q=I (ZQ c n price v)/\S'=S):=by
 have hvn:=hv.n;have hp:=λS (h:RowOf S pl price) d=>Zck d h
 unfold ZQ;refine yi func208 ntmps208 results208 λnx hd=>?_
 refine DK ?_;intro v0;refine DK ?_
 repeat apply ze
 refine zg ?_;refine zn (zJ (λk:Nat=>k<=v.length) (λk=>[(1,I n),(3,L v),(4,.ptr nx v0 0),(9,I (Y9 price (v.take k))),(2,pl),(14,L v),(15,I v.length),(16,I k)]) (λ_=>[.cells v0 87 (yc c)]) (λk=>v.length-k) 0 [] DC (by simp[Y9]) DC ?_);rintro k hk;refine DK ?_;refine ze (zz rfl (λhc1=>?_) (λhc1=>?_))
 ·simp at hc1;obtain⟨w,tl,a1,a2,a3,e1,e0⟩:=el 2 rfl v k hc1;have hsn:=ZpH price (v.take k) w;rw[<-a3]at hsn;refine zk (ze (zn (ze (zi [] (zt e0 hc1) ?_))));intro v2;refine zg ?_;refine λhsuf=>((hp _ (hR.ext hd _) _).mono ?_).v
  rintro _ _ ⟨rfl,rfl⟩;refine⟨_,_,rfl,zQ hsuf ?_⟩;refine zg ?_;exact zv (k+1) [_] hc1 DB (by simp[zA k (by omega),hsn]) rfl DD
 ·simp at hc1;obtain rfl:k=v.length:=DB
  rw[Ag];refine zC ?_
  repeat apply ze
  refine zg ?_
  by_cases hk1:c.kind=1
  ·rw[if_pos hk1];refine zo (by simp[hk1]) ?_;refine DK ?_;exact zj ⟨_,S,rfl,⟨by simp[zq],rfl⟩,zU hd⟩
  ·rw[if_neg hk1];have hb:=Zf6 v n hv;have hn:=ZbP c (yK v n) hc (VE _ _);have hh:=ZbQ c _ (ZgG c (yK v n) (VE _ _));generalize jA c (yK v n)=ns at hn hh ⊢;obtain⟨nl,ne⟩:=ns;simp only at hn hh ⊢;refine zp (by simp[hk1]) ?_;refine zk (ze (zB (some [nx]) (Row.pures [0,1,2,3,4,5,6,7,8,9] .done) mixed trivial ?_));refine zP (hb) trivial ?_;refine zP (hn) trivial ?_;refine DK ?_;refine zu hh ?_;exact zj ⟨_,S,rfl,⟨by simp[zq],rfl⟩,zU hd⟩
def QX(c:Cust)(n:Nat)(cap:Int)(price:List Int):List Visit × Bool :=
 if (ZP c n cap).2=true/\((Ze c n cap).2=false\/ZQ c n price (yY 0 (ZP c n cap).1)<=ZQ c n price (yY 0 (Ze c n cap).1)) then (yY 0 (ZP c n cap).1,true)
 else if (Ze c n cap).2=true then (yY 0 (Ze c n cap).1,true) else ([],false)
theorem ZgQ{q:List Int}{n:Nat}(hq:Qs q)(hl:q.length=n)(hn:n<=1000):VisOk (yY 0 q):=by
 refine⟨AB (VC _ _) DB,λs hs=>?_,λs hs=>?_⟩
 ·have:=VD q 0 hq s hs;omega
 ·have:=VD q 0 hq s hs;unfold zW;omega
theorem ZpI{S:Store}{pl:PV}{price:List Int}(c:Cust)(n:Nat)(cap:Int)(hR:RowOf S pl price)(hc:CustFits c)(hn:n<=1000):
  Spec prog 248 [.agg (yc c),I n,I cap,pl] S (λq S'=>q=.tup [L (QX c n cap price).1,B (QX c n cap price).2]/\S'=S):=by
 have hD:=ZpF c n cap hc hn;have hL:=ZpG c n cap hc hn;have lD:(Ze c n cap).1.length=n:=JV _ _ _;have lL:(ZP c n cap).1.length=n:=JV _ _ _;have vD:VisOk (yY 0 (Ze c n cap).1):=ZgQ (JW hc (Zcl hc cap) n).2 lD hn;have vL:VisOk (yY 0 (ZP c n cap).1):=ZgQ (JW hc (Zcm hc cap) n).2 lL hn;unfold QX;generalize Ze c n cap=rd at *;generalize ZP c n cap=rl at *;obtain⟨qd,od⟩:=rd;obtain⟨ql,ol⟩:=rl;simp only at hD hL lD lL vD vL ⊢;have hVd:=ZgO qd DB;have hVl:=ZgO ql DB;have hcd:=λS (h:RowOf S pl price)=>Zcn (S:=S) c n (yY 0 qd) h hc vD
 have hcl:=λS (h:RowOf S pl price)=>Zcn (S:=S) c n (yY 0 ql) h hc vL
 generalize yY 0 qd=vd at *;generalize yY 0 ql=vl at *;generalize ZQ c n price vd=zd at *;generalize ZQ c n price vl=zl at *;refine yi func248 ntmps248 results248 λnx hd=>?_
 refine DK ?_;intro v0;refine DK ?_;refine zu hD ?_;refine DK ?_;refine zu hVd ?_
 repeat apply ze
 refine zg ?_;refine zu hL ?_;refine DK ?_;cases ol with
 | true =>
  refine zo rfl (DK ?_);refine zu hVl ?_;cases od with
  | false =>
   rw[if_pos ⟨rfl,.inl rfl⟩];refine ze (zB (some [nx]) (Row.pures [0,1,2,3,4,5,6,7,8,9,10,11,12,13,14] .done) mixed zy ?_);refine zo rfl (DK ?_);exact zj ⟨_,S,DD,⟨by simp[zq],rfl⟩,zU hd⟩
  | true =>
   by_cases hle:zl<=zd
   ·rw[if_pos ⟨rfl,.inr hle⟩];refine ze (zB (some [nx]) (Row.pures [0,1,2,3,4,5,6,8,9,10,11] (.alt 7 (.alt 12 (Row.pures [13,14] .done) .stop) .stop)) mixed zy ?_);refine(((hcl _ (hR.ext hd _)).mono ?_).v);rintro _ _ ⟨rfl,rfl⟩;refine⟨by simp[yH],jp zy ?_⟩;refine(((hcd _ (hR.ext hd _)).mono ?_).v);rintro _ _ ⟨rfl,rfl⟩;refine⟨by simp[yH],jp zy ?_⟩;refine zo (by simp[hle]) ?_;refine DK ?_;exact zj ⟨_,S,DD,⟨by simp[zq],rfl⟩,zU hd⟩
   ·rw[if_neg (by rintro⟨-,q | q⟩;cases q;exact hle q),if_pos rfl];refine ze (zB (some [nx]) (Row.pures [0,1,2,3,4,5,6,8,9,10,11] (.alt 7 (.alt 12 (Row.pures [13,14] .done) .stop) .stop)) mixed zy ?_);refine(((hcl _ (hR.ext hd _)).mono ?_).v);rintro _ _ ⟨rfl,rfl⟩;refine⟨by simp[yH],jp zy ?_⟩;refine(((hcd _ (hR.ext hd _)).mono ?_).v);rintro _ _ ⟨rfl,rfl⟩;refine⟨by simp[yH],jp zy ?_⟩;refine zp DF ?_;refine zk ?_
    repeat apply ze
    refine zg ?_;refine zp rfl (zk (DK ?_));exact zj ⟨_,S,DD,⟨by simp[zq],rfl⟩,zU hd⟩
 | false =>
  rw[if_neg (by rintro⟨q,-⟩;cases q)];refine zp rfl (zk ?_)
  repeat apply ze
  refine zg ?_;cases od with
  | false =>
   rw[if_neg DH];refine zo rfl (DK ?_);refine Zv 8 rfl ?_;exact zj ⟨_,S,rfl,⟨by simp[zq],rfl⟩,zU hd⟩
  | true =>
   rw[if_pos rfl];refine zp rfl (zk (DK ?_));exact zj ⟨_,S,DD,⟨by simp[zq],rfl⟩,zU hd⟩
open Go Go.Proofs Hp
def qS(c:Cust)(last d:Int):Int × Int :=
 ((if last<0 then c.start else c.size)-c.rate*((if last<0 then d else d-last).toNat:Int),
  QT c ((List.range (if last<0 then d else d-last).toNat).map λ(i:Nat)=>(if last<0 then c.start else c.size)-c.rate*((i:Int)+1)))
theorem ZgR(c:Cust)(last d:Int)(hc:CustFits c)(hl:-1<=last/\last<=64)(hd0:0<=d/\d<=64):Pure prog 278 [.agg (yc c),I last,I d] (.tup [I (qS c last d).1,I (qS c last d).2]):=by
 have h1:=hc.rate;have h2:=hc.size;have h3:=hc.start;have w0:IntKind.i64.wrap (d-last)=d-last:=wr _ DB DB;have key:qS c last d=(let t0:=if last<0 then c.start else c.size;let m:=if last<0 then d else d-last;(t0-c.rate*(m.toNat:Int),QT c ((List.range m.toNat).map λ(i:Nat)=>t0-c.rate*((i:Int)+1)))):=rfl;rw[key];obtain⟨t0,ht0⟩:∃t0,t0=if last<0 then c.start else c.size:=⟨_,rfl⟩
 obtain⟨m,hm⟩:∃m,m=if last<0 then d else d-last:=⟨_,rfl⟩
 have hb0:0<=t0/\t0<=2147483648:=by rw[ht0];split<;>omega
 have hmb:-64<=m/\m<=65:=by rw[hm];split<;>omega
 rw[<-ht0,<-hm];clear key;simp only;refine zx func278 ntmps278 results278 λS nx hd=>?_
 refine DK ?_;intro v0;refine ze (zi [] w0 ?_);refine ze (qE (nx:=nx) (σ:=Unit) (λ_=>True) (λ_=>[(3,.ptr nx v0 0),(8,I t0),(9,I m)]) (λ_=>S) (λ_=>[.cells v0 87 (yc c)]) ?_ ?_)
 ·refine DK ?_
  by_cases h:last<0
  ·rw[if_pos h]at ht0 hm;refine zo (by simp[h]) ?_;refine zg ?_;exact zT () [] trivial (by simp[ht0,hm]) rfl DC
  ·rw[if_neg h]at ht0 hm;refine zp DF ?_;exact zk (zT () [] trivial (by simp[ht0,hm]) rfl DC)
 intro _ _;refine DK ?_;refine ze (qL 10 3 1 rfl λv1=>?_);refine DK ?_;have hprod:∀k:Nat,k<=65->0<=c.rate*(k:Int)/\c.rate*(k:Int)<=2147483648*65:=λk hk=>⟨Int.mul_nonneg h1.1 DB,Int.mul_le_mul h1.2 DB DB DB⟩
 refine zn (zJ (λs:Nat × Nat=>s.1<=m.toNat) (λ(k,w)=>[(3,.ptr nx v0 0),(8,I (t0-c.rate*(k:Int))),(10,.sl (nx+1) w 1 0 ((List.range k).map λ(i:Nat)=>t0-c.rate*((i:Int)+1)).length),(21,I m),(22,I k)]) (λ(k,w)=>[.cells v0 87 (yc c),.cells w 3 (((List.range k).map λ(i:Nat)=>t0-c.rate*((i:Int)+1)).flatMap Enc.enc)]) (λs=>m.toNat-s.1) (0,v1) [] DC DC DC ?_);rintro⟨k,w⟩ hk;simp only at hk ⊢;have hp:=hprod k DB;have hp1:=hprod (k+1);have hmul:c.rate*((k:Int)+1)=c.rate*(k:Int)+c.rate:=by rw[Int.mul_add,Int.mul_one]
 have hrs:((List.range (k+1)).map λ(i:Nat)=>t0-c.rate*((i:Int)+1))=((List.range k).map λ(i:Nat)=>t0-c.rate*((i:Int)+1))++[t0-c.rate*((k:Int)+1)]:=by simp[AT]
 have hl0:((List.range k).map λ(i:Nat)=>t0-c.rate*((i:Int)+1)).length=k:=DC
 generalize hls:((List.range k).map λ(i:Nat)=>t0-c.rate*((i:Int)+1))=ls at *
 by_cases hc1:(k:Int)<m
 ·have w1:IntKind.i64.wrap (t0-c.rate*(k:Int)-c.rate)=t0-c.rate*((k:Int)+1):=by rw[wr _ DB DB];omega
  refine DK ?_;refine ze (zo (by simp[hc1]) ?_);refine zk (ze (zn (ze (zi [] w1 ?_))));refine zg ?_;refine⟨by omega,?_⟩;refine zg ?_;exact zv (k+1,w+1) [] DF DF (by simp[zA k (by omega),hrs];) rfl (by simp[hrs])
 ·refine DK ?_;refine ze (zp DF ?_);obtain rfl:k=m.toNat:=DB
  refine zC (yb 1 rfl ?_);refine DK ?_;refine zu (ZbQ c ls DB) ?_;exact zj (zm hd DD (by simp[zq,hls]))
def Ys(c:Cust)(st:List Visit × Int)(d:Int):List Visit × Int:=(st.1++[⟨d,W (c.size-(qS c st.2 d).1)⟩],d)
def jC(c:Cust)(ds:List Int):List Visit × Int:=ds.foldl (Ys c) ([],-1)
theorem VH(c:Cust)(ds:List Int)(d:Int):jC c (ds++[d])=Ys c (jC c ds) d:=by simp[jC]
theorem ZgS(c:Cust):∀ds:List Int,(jC c ds).1.length=ds.length:=by
 have:∀(ds:List Int) (st:List Visit × Int),(ds.foldl (Ys c) st).1.length=st.1.length+ds.length:=by
  intro ds
  induction ds with
  | nil=>intro st;simp
  | cons d ds ih=>intro st;rw[AY,ih];simp[Ys];omega
 intro ds;unfold jC;rw[this];simp
theorem ZpJ(c:Cust)(p:Nat)(hp:p<2 ^ 64)(hc:CustFits c):Pure prog 280 [.agg (yc c),U p] (L (jC c (yy p 0 64)).1):=by
 have hall:=Zch p hp;have hln:=Y5 p 0 64;have hds:∀d∈yy p 0 64,0<=d/\d<64:=λd hd=>by obtain⟨i,h,h2,_⟩:=VG hd;omega
 generalize yy p 0 64=ds at hall hln hds ⊢;refine zx func280 ntmps280 results280 λS nx hd=>?_
 refine DK ?_;intro v0;refine DK ?_;refine ze (qL 5 104 2 rfl λv1=>?_);refine zg ?_
 repeat apply ze
 refine zg ?_;refine zu hall ?_;have hlast:∀k,-1<=(jC c (ds.take k)).2/\(jC c (ds.take k)).2<=64:=by
  intro k
  induction k with
  | zero=>simp[jC]
  | succ k ih =>
   by_cases h:k<ds.length
   ·rw[AO h,VH];have:=hds ds[k] (A8 h);simp only[Ys];omega
   ·rw[Ae DB]at ih ⊢;exact ih
 refine zn (zJ (λs:Nat × Nat=>s.1<=ds.length) (λ(k,w)=>[(2,.ptr nx v0 0),(5,.sl (nx+1) w 2 0 (jC c (ds.take k)).1.length),(6,I (jC c (ds.take k)).2),(12,L ds),(13,I ds.length),(14,I k)]) (λ(k,w)=>[.cells v0 87 (yc c),.cells w 104 ((jC c (ds.take k)).1.flatMap Enc.enc)]) (λs=>ds.length-s.1) (0,v1) [] DC (by simp[jC]) (by simp[jC]) ?_);rintro⟨k,w⟩ hk;simp only at hk ⊢;have hl1:=hlast k;have hfl:(jC c (ds.take k)).1.length=k:=by rw[ZgS];simp;omega
 refine DK ?_;refine ze (zz rfl (λhc1=>?_) (λhc1=>?_))
 ·simp at hc1;obtain⟨d,tl,a1,a2,a3,e0⟩:=zL rfl ds k hc1;have hd1:=hds d (Ab a1);have hsn:=VH c (ds.take k) d;rw[<-a3]at hsn;generalize jC c (ds.take k)=st at *;obtain⟨out,last⟩:=st;simp only[Ys]at hl1 hfl hsn ⊢;have hr:=ZgR c last d hc hl1 DB;generalize qS c last d=r at hr hsn;obtain⟨th,he⟩:=r;simp only at hr hsn;refine zk (ze (zn (ze (zi [] (zt e0 hc1) ?_))));refine DK ?_;refine zu hr ?_;refine DK ?_;refine⟨by omega,?_⟩;refine zg ?_;refine zg ?_;exact zv (k+1,w+1) [] hc1 DF (by simp[zA k (by omega),hsn]) rfl (by simp[hsn])
 ·simp at hc1;obtain rfl:k=ds.length:=DB
  rw[Ag];refine zC (yb 1 rfl ?_);refine DK ?_;exact DL hd
structure Stp where
 r:Bool
 k:Int
 l:Int
 deriving DecidableEq
instance:Inhabited Stp:=⟨⟨false,0,0⟩⟩
instance:Enc Stp:=⟨λs=>[B s.r,I s.k,I s.l],3,λ_=>rfl,λ_=>rfl⟩
@[simp] theorem ZwC(s:Stp):Enc.enc s=[B s.r,I s.k,I s.l]:=rfl
@[simp high] theorem ZpK(l:List Stp):(l.flatMap Enc.enc).length=l.length*3:=qO l
@[simp high] theorem ZwD(l:List Stp):(l.flatMap Enc.enc).take (l.length*3)=l.flatMap Enc.enc:=Yd l
def zs:Stp:=⟨false,0,0⟩
def QY(c:Cust)(n:Nat)(cap:Int)(price:List Int)(tab:List Stp)(d:Nat)(last:Int):Int :=
 let k1:=if 0<=last then W ((qS c last d).2+(tab.getD last.toNat zs).k) else (qS c last d).2
 if d<n then W (k1+Yq price d) else k1
def Qa(c:Cust)(n:Nat)(cap:Int)(tab:List Stp)(d:Nat)(last:Int):Prop :=
 ¬(0<=last/\tab.getD last.toNat zs=zs)/\¬((qS c last d).1<0\/(d<n/\vt c (qS c last d).1 cap=0))
instance (c:Cust) (n:Nat) (cap:Int) (tab:List Stp) (d:Nat) (last:Int):Decidable (Qa c n cap tab d last):=by unfold Qa;exact inferInstance
def XU(c:Cust)(n:Nat)(cap:Int)(price:List Int)(tab:List Stp)(d:Nat)(best:Stp)(last:Int):Stp :=
 if Qa c n cap tab d last then (if best=zs\/QY c n cap price tab d last<best.k then ⟨true,QY c n cap price tab d last,last⟩ else best) else best
def xD(c:Cust)(n:Nat)(cap:Int)(price:List Int)(tab:List Stp)(d:Nat)(j:Nat):Stp:=(List.range j).foldl (λb (i:Nat)=>XU c n cap price tab d b ((i:Int)-1)) zs
theorem ZgT(c:Cust)(n:Nat)(cap:Int)(price:List Int)(tab:List Stp)(d:Nat)(j:Nat):xD c n cap price tab d (j+1)=XU c n cap price tab d (xD c n cap price tab d j) ((j:Int)-1):=by simp[xD,AT]
def jt(c:Cust)(n:Nat)(cap:Int)(price:List Int):Nat->List Stp
 | 0=>[]
 | k+1=>jt c n cap price k++[xD c n cap price (jt c n cap price k) k (k+1)]
theorem XV(c:Cust)(n:Nat)(cap:Int)(price:List Int):∀k,(jt c n cap price k).length=k
 | 0=>rfl
 | k+1=>by simp[jt,XV c n cap price k]
def vT(tab:List Stp):Nat->Nat->Int->Nat
 | 0,s,_=>s
 | f+1,s,d=>if d<0 then s else vT tab f (qX s d) (tab.getD d.toNat zs).l
def Yt(c:Cust)(n:Nat)(cap:Int)(price:List Int):List Visit × Bool :=
 if (jt c n cap price (n+1)).getD n zs=zs then ([],false)
 else ((jC c (yy (vT (jt c n cap price (n+1)) 65 0 ((jt c n cap price (n+1)).getD n zs).l) 0 64)).1,true)
def ZpL(tab:List Stp):Prop:=∀(d:Nat) (e:Stp),tab[d]?=some e->e=zs\/(e.r=true/\-1<=e.l/\e.l<d/\(0<=e.l->tab.getD e.l.toNat zs≠zs))
theorem VI(c:Cust)(n:Nat)(cap:Int)(price:List Int)(tab:List Stp)(d:Nat):∀j:Nat,xD c n cap price tab d j=zs\/((xD c n cap price tab d j).r=true/\-1<=(xD c n cap price tab d j).l/\(xD c n cap price tab d j).l+1<j/\Qa c n cap tab d (xD c n cap price tab d j).l)
 | 0=>.inl rfl
 | j+1=>by
  have ih:=VI c n cap price tab d j;rw[ZgT];unfold XU;split
  ·rename_i hok;split
   ·exact .inr ⟨rfl,by dsimp only;omega,by dsimp only;omega,hok⟩
   ·rcases ih with ih | ⟨h1,h2,h3,h4⟩
    ·exact .inl ih
    ·exact .inr ⟨h1,h2,by omega,h4⟩
  ·rcases ih with ih | ⟨h1,h2,h3,h4⟩
   ·exact .inl ih
   ·exact .inr ⟨h1,h2,by omega,h4⟩
theorem Zco(c:Cust)(n:Nat)(cap:Int)(price:List Int):∀k,ZpL (jt c n cap price k)
 | 0=>by intro d e h;cases h
 | k+1=>by
  have ih:=Zco c n cap price k;have hl:=XV c n cap price k;have he:=VI c n cap price (jt c n cap price k) k (k+1);intro d e h;simp only[jt]at h ⊢;have hget:∀(i:Nat),i<k->(jt c n cap price k++[xD c n cap price (jt c n cap price k) k (k+1)]).getD i zs=(jt c n cap price k).getD i zs:=by
   intro i hi;rw[Aa,Aa,An DB]
  by_cases hd:d<k
  ·rw[An DB]at h;rcases ih d e h with q | ⟨q1,q2,q3,q4⟩
   ·exact .inl q
   ·refine .inr ⟨q1,q2,q3,λq=>?_⟩;rw[hget _ DB];exact q4 q
  ·rw[Ai DB,hl]at h;obtain rfl:d=k:=by
    rcases Be (d-k) 1 with q | q
    ·omega
    ·rw[Ak (by simpa using q)]at h;cases h
   rw[Bp]at h;simp only[A3,Option.some.injEq]at h;subst h;rcases he with q | ⟨q1,q2,q3,q4⟩
   ·exact .inl q
   ·refine .inr ⟨q1,q2,by omega,λq=>?_⟩;rw[hget _ DB];exact λhz=>q4.1 ⟨q,hz⟩
open Go Go.Proofs Hp
def qu(tab:List Stp)(b:Stp):List Stp:=tab++b :: List.replicate (64-tab.length) zs
theorem ZgU(tab:List Stp)(b:Stp)(h:tab.length<=64):(qu tab b).length=65:=by simp[qu];omega
theorem VJ(tab:List Stp)(b:Stp)(i:Nat)(h:i<tab.length):(qu tab b)[i]?=some (tab.getD i zs):=by
 unfold qu;rw[An h,Aa,Ad h];rfl
theorem ZpM(tab:List Stp)(b:Stp):(qu tab b)[tab.length]?=some b:=by
 unfold qu;rw[Ai (Af _)];simp
theorem ZpN(tab:List Stp)(b e:Stp):(qu tab b).set tab.length e=qu tab e:=by
 unfold qu;rw[Bw _ _ (Af _)];simp
theorem ZpO(tab:List Stp)(b:Stp)(h:tab.length<64):qu tab b=qu (tab++[b]) zs:=by
 unfold qu;rw[List.append_assoc,Aq,By,show 64-tab.length=(64-(tab.length+1))+1 from by omega,Bu];rfl
@[simp] theorem ZwE:Program.zeroOf prog 325=some (.agg #[.bool false,.int .i64 0,.int .i64 0,.bool false,.int .i64 0,.int .i64 0,.bool false,.int .i64 0,.int .i64 0,.bool false,.int .i64 0,.int .i64 0,.bool false,.int .i64 0,.int .i64 0,.bool false,.int .i64 0,.int .i64 0,.bool false,.int .i64 0,.int .i64 0,.bool false,.int .i64 0,.int .i64 0,.bool false,.int .i64 0,.int .i64 0,.bool false,.int .i64 0,.int .i64 0,.bool false,.int .i64 0,.int .i64 0,.bool false,.int .i64 0,.int .i64 0,.bool false,.int .i64 0,.int .i64 0,.bool false,.int .i64 0,.int .i64 0,.bool false,.int .i64 0,.int .i64 0,.bool false,.int .i64 0,.int .i64 0,.bool false,.int .i64 0,.int .i64 0,.bool false,.int .i64 0,.int .i64 0,.bool false,.int .i64 0,.int .i64 0,.bool false,.int .i64 0,.int .i64 0,.bool false,.int .i64 0,.int .i64 0,.bool false,.int .i64 0,.int .i64 0,.bool false,.int .i64 0,.int .i64 0,.bool false,.int .i64 0,.int .i64 0,.bool false,.int .i64 0,.int .i64 0,.bool false,.int .i64 0,.int .i64 0,.bool false,.int .i64 0,.int .i64 0,.bool false,.int .i64 0,.int .i64 0,.bool false,.int .i64 0,.int .i64 0,.bool false,.int .i64 0,.int .i64 0,.bool false,.int .i64 0,.int .i64 0,.bool false,.int .i64 0,.int .i64 0,.bool false,.int .i64 0,.int .i64 0,.bool false,.int .i64 0,.int .i64 0,.bool false,.int .i64 0,.int .i64 0,.bool false,.int .i64 0,.int .i64 0,.bool false,.int .i64 0,.int .i64 0,.bool false,.int .i64 0,.int .i64 0,.bool false,.int .i64 0,.int .i64 0,.bool false,.int .i64 0,.int .i64 0,.bool false,.int .i64 0,.int .i64 0,.bool false,.int .i64 0,.int .i64 0,.bool false,.int .i64 0,.int .i64 0,.bool false,.int .i64 0,.int .i64 0,.bool false,.int .i64 0,.int .i64 0,.bool false,.int .i64 0,.int .i64 0,.bool false,.int .i64 0,.int .i64 0,.bool false,.int .i64 0,.int .i64 0,.bool false,.int .i64 0,.int .i64 0,.bool false,.int .i64 0,.int .i64 0,.bool false,.int .i64 0,.int .i64 0,.bool false,.int .i64 0,.int .i64 0,.bool false,.int .i64 0,.int .i64 0,.bool false,.int .i64 0,.int .i64 0,.bool false,.int .i64 0,.int .i64 0,.bool false,.int .i64 0,.int .i64 0,.bool false,.int .i64 0,.int .i64 0,.bool false,.int .i64 0,.int .i64 0,.bool false,.int .i64 0,.int .i64 0,.bool false,.int .i64 0,.int .i64 0,.bool false,.int .i64 0,.int .i64 0,.bool false,.int .i64 0,.int .i64 0,.bool false,.int .i64 0,.int .i64 0,.bool false,.int .i64 0,.int .i64 0,.bool false,.int .i64 0,.int .i64 0]):=DE
theorem ZgV{α:Type}[Enc α]:∀(l:List α) (k:Nat),(l.flatMap Enc.enc).take (k*Enc.sz α)=(l.take k).flatMap Enc.enc
 | [],k=>by simp
 | a :: l,0=>by simp
 | a :: l,k+1=>by
  have ih:=ZgV l k;rw[Av,CV,Av,Nat.add_mul,Dw,List.take_append,Enc.len,<-ih,BW,Ae (by rw[Enc.len];omega)]
theorem ZpP{α:Type}[Enc α](n:Nat)(hn:Enc.sz α=n)(l:List α)(k:Nat)(v:α)(h:k<l.length):yd (l.flatMap Enc.enc) (k*n) (Enc.enc v)=(l.set k v).flatMap Enc.enc:=by
 subst hn;have h1:=ZaF h;have h2:(l.flatMap Enc.enc).drop (k*Enc.sz α+Enc.sz α)=(l.drop (k+1)).flatMap Enc.enc:=by
  rw[<-List.drop_drop,h1,Cs,A7 (by rw[Enc.len];exact Af _),Enc.len,Bp];simp
 rw[yd,Enc.len,ZgV,h2,Ax,if_pos h];simp
theorem ZgW(tab:List Stp):∀(f s:Nat) (d:Int),s<2 ^ 64->vT tab f s d<2 ^ 64
 | 0,_,_,h=>h
 | f+1,s,d,h=>by
  unfold vT;split
  ·exact h
  ·exact ZgW tab f _ _ (Vq _ _ h)
theorem ZpQ(tab:List Stp)(f s:Nat){d:Int}(h:d<0):vT tab f s d=s:=by
 cases f with
 | zero=>rfl
 | succ f=>unfold vT;rw[if_pos h]
theorem ZpR{S:Store}{pl:PV}{price:List Int}(c:Cust)(n:Nat)(cap:Int)(hR:RowOf S pl price)(hc:CustFits c)(hn:n<=60):
  Spec prog 247 [.agg (yc c),I n,I cap,pl] S (λq S'=>q=.tup [L (Yt c n cap price).1,B (Yt c n cap price).2]/\S'=S):=by
 have hmin:xh (n:Int) 64=n:=by unfold xh;split<;>omega
 have hmax:q8 (n:Int) 0=n:=by unfold q8;split<;>omega
 have hpr:=λS (h:RowOf S pl price) d=>Zck d h
 have hrest:=λ(last d:Int) (h1:-1<=last/\last<=64) (h2:0<=d/\d<=64)=>ZgR c last d hc h1 h2
 have hmost:=λ(th:Int) (h:-4611686018427387904<=th/\th<=4611686018427387904)=>Zcj c th cap hc.size h
 unfold Yt;refine yi func247 ntmps247 results247 λnx hd=>?_
 refine DK ?_;intro v0;refine ze (zi [] (zt hmin hmax) ?_);refine DK ?_;intro v1;have hw:IntKind.i64.wrap ((n:Int)+1)=((n+1:Nat):Int):=zA n DB
 repeat apply ze
 refine zi [] hw ?_;refine zn (zJ (λd:Nat=>d<=n+1) (λd=>[(1,I n),(2,I cap),(3,pl),(4,.ptr nx v0 0),(10,.ptr (nx+1) v1 0),(22,I (n+1:Nat)),(23,I d)]) (λd=>[.cells v0 87 (yc c),.cells v1 325 ((qu (jt c n cap price d) zs).flatMap Enc.enc)]) (λd=>n+1-d) 0 [] DC DC (by simp[jt];rfl) ?_);rintro d hd1;have htl:=XV c n cap price d;have htok:=Zco c n cap price d;have htn:jt c n cap price (d+1)=jt c n cap price d++[xD c n cap price (jt c n cap price d) d (d+1)]:=rfl
 by_cases hdn:d<n+1
 case neg =>
  obtain rfl:d=n+1:=DB
  clear htn;generalize jt c n cap price (n+1)=tab at *;have hml:=ZgU tab zs DB;obtain⟨s,tl,a1,-,-,e1,e0⟩:=el 3 rfl (qu tab zs) n DB;have hs:tab.getD n zs=s:=by have:=VJ tab zs n DB;rw[a1]at this;exact(Option.some.inj this).symm
  have hs2:tab[n]?=some s:=by rw[<-hs,Aa,Ad DB];rfl
  have e12:=e1 2 DB;have hn65:(n:Int)<65:=DB
  have z1:3<=195-n*3:=DB
  have z2:1<=195-(n*3+2):=DB
  rw[hs];refine DK ?_;refine ze (zp DC ?_);refine zC ?_;rcases htok n s hs2 with q | ⟨hr,hl1,hl2,hl3⟩
  ·subst q;rw[if_pos rfl];have e0':((qu tab zs).flatMap Enc.enc).drop (n*3)=[B false,I 0,I 0]++tl:=e0
   repeat apply ze
   refine zi [] (zN e0' hn65 hml z1) ?_;refine zo rfl (DK ?_);refine Zv 8 rfl ?_;exact zj ⟨_,S,rfl,⟨by simp[zq],rfl⟩,zU hd⟩
  ·have hne:s≠zs:=λe=>by rw[e]at hr;cases hr
   rw[if_neg hne];obtain⟨sr,sk,sl⟩:=s;simp only at hr hl1 hl2 hl3 ⊢;subst hr
   repeat apply ze
   refine zi [] (zN e0 hn65 hml z1) ?_;refine zp rfl (zk (DK ?_))
   repeat apply ze
   refine zi [] (zN e12 hn65 hml z2) ?_;generalize hres:vT tab 65 0 sl=res;have hrlt:res<2 ^ 64:=hres ▸ ZgW tab 65 0 sl DH;have hfil:=ZpJ c res hrlt hc;generalize (jC c (yy res 0 64)).1=vv at hfil ⊢;refine zn (zJ (λst:Nat × Nat × Int=>vT tab st.1 st.2.1 st.2.2=res/\-1<=st.2.2/\st.2.2<st.1/\st.2.2<n/\st.2.1<2 ^ 64/\(0<=st.2.2->tab.getD st.2.2.toNat zs≠zs)) (λ(f,s,l)=>[(4,.ptr nx v0 0),(10,.ptr (nx+1) v1 0),(16,U s),(17,I l)]) (λ_=>[.cells v0 87 (yc c),.cells v1 325 ((qu tab zs).flatMap Enc.enc)]) (λst=>st.1) (65,0,sl) [] ⟨hres,hl1,by dsimp only;omega,by dsimp only;omega,by show (0:Nat)<2 ^ 64;decide,hl3⟩ DC DC ?_);rintro⟨f,s,l⟩ ⟨p1,p2,p3,p4,p5,p6⟩;simp only at p1 p2 p3 p4 p5 p6 ⊢
   by_cases hl:l<0
   ·have hl':¬0<=l:=DB
    rw[ZpQ tab f s hl]at p1;subst p1
    repeat apply ze
    refine zi [] hl' ?_;refine zp rfl (zC (DK ?_));refine zu hfil ?_;exact zj ⟨_,S,DD,⟨by simp[zq],rfl⟩,zU hd⟩
   ·have hl':0<=l:=DB
    obtain⟨i,rfl⟩:=AN hl';obtain⟨f,rfl⟩:∃g,f=g+1:=⟨f-1,by omega⟩;have p6:=p6 hl';rw[AL]at p6;have hi:i<tab.length:=DB
    obtain⟨e,tl2,b1,-,-,f1,f0⟩:=el 3 rfl (qu tab zs) i DB;have he:tab.getD i zs=e:=by have:=VJ tab zs i hi;rw[b1]at this;exact(Option.some.inj this).symm
    have he2:tab[i]?=some e:=by rw[<-he,Aa,Ad hi];rfl
    have f12:=f1 2 DB;have hi65:(i:Int)<65:=DB
    have y2:1<=195-(i*3+2):=DB
    rw[he]at p6;rcases htok i e he2 with q | ⟨er,el1',el2',el3'⟩
    ·exact absurd q p6
    have p1':vT tab f (qX s i) e.l=res:=by
     rw[<-p1];unfold vT;rw[if_neg DB,AL,he];cases f<;>rfl
    repeat apply ze
    refine zi [] hl' ?_;refine zo rfl (zk (ze (zn (zg ?_))));refine zu (Zf1 s i p5) ?_;refine zi [] (zN f12 hi65 hml y2) ?_;exact zv (f,qX s i,e.l) [] ⟨p1',el1',by dsimp only;omega,by dsimp only;omega,Vq _ _ p5,el3'⟩ DC DC rfl DC
 generalize jt c n cap price d=tab at *;refine DK ?_;refine ze (zo DF ?_);refine zk (ze (zn (DK ?_)));refine DK ?_;refine zn (zJ (λj:Nat=>j<=d+1) (λj=>[(1,I n),(2,I cap),(3,pl),(4,.ptr nx v0 0),(10,.ptr (nx+1) v1 0),(11,I d),(12,I ((j:Int)-1)),(22,I (n+1:Nat)),(23,I d)]) (λj=>[.cells v0 87 (yc c),.cells v1 325 ((qu tab (xD c n cap price tab d j)).flatMap Enc.enc)]) (λj=>d+1-j) 0 [] DC DC (by simp[xD]) ?_);rintro j hj;have hesucc:=ZgT c n cap price tab d j;have heok:=VI c n cap price tab d j;have hdd:xD c n cap price tab d (d+1)=xD c n cap price tab d (d+1):=rfl
 by_cases hjd:j<d+1
 case neg =>
  obtain rfl:j=d+1:=DB
  repeat apply ze
  refine zg ?_;refine zp DC ?_;refine zC (zg ?_);exact zv (d+1) [] hdn DB (by simp[zA d (by omega)]) rfl (by rw[htn,<-ZpO tab _ (by omega)];simp)
 clear hdd htn;generalize xD c n cap price tab d j=b at *;obtain⟨last,hlast⟩:∃last:Int,last=(j:Int)-1:=⟨_,rfl⟩;rw[<-hlast]at hesucc ⊢;have hwl:IntKind.i64.wrap (last+1)=((j+1:Nat):Int)-1:=by rw[wr _ DB DB];omega
 have hml:=ZgU tab b DB;have hd65:(d:Int)<65:=DB
 have zd3:3<=195-d*3:=DB
 have zd1:1<=195-(d*3+1):=DB
 have hr:=hrest last d DB DB;have hrbd:-4611686018427387904<=(qS c last d).1/\(qS c last d).1<=4611686018427387904:=by
  have h1:=hc.rate;have h2:=hc.size;have h3:=hc.start;unfold qS;simp only;have hp:0<=c.rate*((if last<0 then (d:Int) else d-last).toNat:Int)/\c.rate*((if last<0 then (d:Int) else d-last).toNat:Int)<=2147483648*65 :=
   ⟨Int.mul_nonneg h1.1 DB,Int.mul_le_mul h1.2 (by split<;>omega) DB DB⟩
  generalize c.rate*((if last<0 then (d:Int) else d-last).toNat:Int)=pp at hp ⊢;split<;>omega
 have hm:=hmost _ hrbd;have hks:∀(k1:Int),k1=(if 0<=last then W ((qS c last d).2+(tab.getD last.toNat zs).k) else (qS c last d).2)->QY c n cap price tab d last=if d<n then W (k1+Yq price d) else k1:=λk1 h=>by unfold QY;rw[h]
 have hokd:Qa c n cap tab d last=(¬(0<=last/\tab.getD last.toNat zs=zs)/\¬((qS c last d).1<0\/(d<n/\vt c (qS c last d).1 cap=0))):=rfl;have hstay:¬Qa c n cap tab d last->xD c n cap price tab d (j+1)=b:=λh=>by rw[hesucc];unfold XU;rw[if_neg h]
 have hgo:Qa c n cap tab d last->xD c n cap price tab d (j+1)=if b=zs\/QY c n cap price tab d last<b.k then ⟨true,QY c n cap price tab d last,last⟩ else b:=λh=>by rw[hesucc];unfold XU;rw[if_pos h]
 clear hesucc;generalize qS c last d=rr at hr hm hks hokd;obtain⟨th,he⟩:=rr;simp only at hr hm hks hokd;generalize vt c th cap=mo at hm hokd;generalize Qa c n cap tab d last=OK at hokd hstay hgo;generalize QY c n cap price tab d last=kk at hks hgo;generalize hb'e:xD c n cap price tab d (j+1)=b' at hstay hgo;subst hokd
 repeat apply ze
 refine zg ?_;refine zo DF ?_;refine zk (ze (zn (ze (qE (nx:=nx) (σ:=Unit) (λ_=>¬(0<=last/\tab.getD last.toNat zs=zs)) (λ_=>[(1,I n),(2,I cap),(3,pl),(4,.ptr nx v0 0),(10,.ptr (nx+1) v1 0),(11,I d),(12,I last),(22,I (n+1:Nat)),(23,I d)]) (λ_=>S) (λ_=>[.cells v0 87 (yc c),.cells v1 325 ((qu tab b).flatMap Enc.enc)]) ?_ ?_))))
 ·by_cases hl:0<=last
  ·obtain⟨i,hi⟩:=AN hl;have hit:i<tab.length:=DB
   obtain⟨e,tl2,b1,-,-,-,f0⟩:=el 3 rfl (qu tab b) i DB;have hee:tab.getD i zs=e:=by have:=VJ tab b i hit;rw[b1]at this;exact(Option.some.inj this).symm
   have he2:tab[i]?=some e:=by rw[<-hee,Aa,Ad hit];rfl
   have hi65:(i:Int)<65:=DB
   have y3:3<=195-i*3:=DB
   have hlt:last.toNat=i:=DB
   rcases htok i e he2 with q | ⟨er,-,-,-⟩
   ·subst q;have f0':((qu tab b).flatMap Enc.enc).drop (i*3)=[B false,I 0,I 0]++tl2:=f0;have hb':=hstay λh=>h.1 ⟨hl,by rw[hlt];exact hee⟩
    subst hb';subst hi;refine ze (zi [(2,33)] (yq hl f0' hi65 hml y3) ?_);refine zo rfl (zC (zi [] hwl ?_));exact zv (j+1) [] DB DB DC rfl (by simp[hb'e])
   ·obtain⟨r1,r2,r3⟩:=e;simp only at er;subst er;subst hi;refine ze (zi [(2,33)] (yq hl f0 hi65 hml y3) ?_);exact zp rfl (zk (zT () [] (by rw[hlt,hee];rintro⟨-,q⟩;cases q) DC rfl DC))
  ·refine ze (zi [(2,33)] (zt hl zy) ?_);exact zp rfl (zk (zT () [] (λq=>hl q.1) DC rfl DC))
 intro _ hA;refine DK ?_;refine zu hr ?_;refine ze (qE (nx:=nx) (σ:=Unit) (λ_=>¬(th<0\/(d<n/\mo=0))) (λ_=>[(1,I n),(2,I cap),(3,pl),(4,.ptr nx v0 0),(10,.ptr (nx+1) v1 0),(11,I d),(12,I last),(14,I he),(22,I (n+1:Nat)),(23,I d)]) (λ_=>S) (λ_=>[.cells v0 87 (yc c),.cells v1 325 ((qu tab b).flatMap Enc.enc)]) ?_ ?_)
 ·by_cases h1:th<0
  ·have hb':=hstay λh=>h.2 (.inl h1)
   subst hb';refine ze (zi [(2,49),(6,53)] (zt h1 zy) ?_);refine zo rfl (zC (zi [] hwl ?_));exact zv (j+1) [] DB DB DC rfl (by simp[hb'e])
  ·by_cases h2:d<n
   ·by_cases h3:mo=0
    ·have hb':=hstay λh=>h.2 (.inr ⟨h2,h3⟩)
     subst hb';refine ze (zi [(2,49),(6,53)] (zF h1 h2 h3) ?_);refine qP [(2,49),(6,53)] hm (zF h1 h2 h3) ?_;refine zo rfl (zC (zi [] hwl ?_));exact zv (j+1) [] DB DB DC rfl (by simp[hb'e])
    ·refine ze (zi [(2,49),(6,53)] (zF h1 h2 h3) ?_);refine qP [(2,49),(6,53)] hm (zF h1 h2 h3) ?_;exact zp rfl (zk (zT () [] DB DC rfl DC))
   ·refine ze (zi [(2,49),(6,53)] (zF h1 h2 zy) ?_);exact zp rfl (zk (zT () [] DB DC rfl DC))
 intro _ hB;have hgo:=hgo ⟨hA,hB⟩;clear hstay hm hr;refine DK ?_;intro v2;obtain⟨k1,hk1⟩:∃k1,k1=(if 0<=last then W (he+(tab.getD last.toNat zs).k) else he):=⟨_,rfl⟩;have hks:=hks k1 hk1;refine ze (qE (nx:=nx) (σ:=Unit) (λ_=>True) (λ_=>[(1,I n),(2,I cap),(3,pl),(4,.ptr nx v0 0),(10,.ptr (nx+1) v1 0),(11,I d),(12,I last),(15,.ptr (nx+2) v2 0),(22,I (n+1:Nat)),(23,I d)]) (λ_=>S) (λ_=>[.cells v0 87 (yc c),.cells v1 325 ((qu tab b).flatMap Enc.enc),.cells v2 324 [B true,I k1,I last]]) ?_ ?_)
 ·refine DK ?_
  by_cases hl:0<=last
  ·rw[if_pos hl]at hk1;obtain⟨i,hi⟩:=AN hl;have hit:i<tab.length:=DB
   obtain⟨e,tl2,b1,-,-,f1,f0⟩:=el 3 rfl (qu tab b) i DB;have hee:tab.getD i zs=e:=by have:=VJ tab b i hit;rw[b1]at this;exact(Option.some.inj this).symm
   have f11:=f1 1 DB;have hi65:(i:Int)<65:=DB
   have y1:1<=195-(i*3+1):=DB
   have hlt:last.toNat=i:=DB
   rw[hlt,hee]at hk1;subst hi;refine zo DC ?_;refine zB (some [nx+1]) (Row.pures [0,2,3,4,5] (.alt 1 (Row.pures [6,7] (.alt 8 (.done) .stop)) .stop)) mixed (zN f11 hi65 hml y1) ?_;exact zT () [] trivial DC rfl (by simp[hk1])
  ·rw[if_neg hl]at hk1;refine zp DF ?_;exact zk (zT () [] trivial DC rfl (by simp[hk1]))
 intro _ _;clear hk1;refine ze (qE (nx:=nx) (σ:=Unit) (λ_=>True) (λ_=>[(1,I n),(2,I cap),(3,pl),(4,.ptr nx v0 0),(10,.ptr (nx+1) v1 0),(11,I d),(12,I last),(15,.ptr (nx+2) v2 0),(22,I (n+1:Nat)),(23,I d)]) (λ_=>S) (λ_=>[.cells v0 87 (yc c),.cells v1 325 ((qu tab b).flatMap Enc.enc),.cells v2 324 [B true,I kk,I last]]) ?_ ?_)
 ·refine DK ?_
  by_cases h2:d<n
  ·rw[if_pos h2]at hks;refine zo (by simp[h2]) ?_;refine zB (some [nx+1]) (Row.pures [0,2,3] (.alt 1 (.alt 4 (Row.pures [5,6] (.alt 7 (.done) .stop)) .stop) (.alt 4 (.alt 1 (Row.pures [5,6] (.alt 7 (.done) .stop)) .stop) .stop))) mixed trivial ?_;refine⟨?_,?_⟩
   ·refine(((hpr _ (hR.ext hd _) _).mono ?_).v);rintro _ _ ⟨rfl,rfl⟩;refine⟨by simp[yH],jp trivial ?_⟩;exact zT () [] trivial DC rfl (by simp[hks])
   ·refine(((hpr _ (hR.ext hd _) _).mono ?_).v);rintro _ _ ⟨rfl,rfl⟩;refine⟨by simp[yH],jp trivial ?_⟩;exact zT () [] trivial DC rfl (by simp[hks])
  ·rw[if_neg h2]at hks;refine zp DF ?_;exact zk (zT () [] trivial DC rfl (by simp[hks]))
 intro _ _;clear hks;obtain⟨e,tl2,b1,-,-,f1,f0⟩:=el 3 rfl (qu tab b) d DB;have hee:b=e:=by have:=ZpM tab b;rw[htl,b1]at this;exact(Option.some.inj this).symm
 subst hee;have f11:=f1 1 DB;have hsp:=ZpP 3 rfl (qu tab b) d ⟨true,kk,last⟩ DB;have hms:=ZpN tab b ⟨true,kk,last⟩;rw[htl]at hms;rw[hms]at hsp;have hsp':yd ((qu tab b).flatMap Enc.enc) (d*3) [B true,I kk,I last]=(qu tab ⟨true,kk,last⟩).flatMap Enc.enc:=hsp;clear hsp hms;have hmf:((qu tab b).flatMap Enc.enc:List PV).length=195:=by rw[ZpK,hml]
 rcases heok with q | ⟨hbr,-,-,-⟩
 ·subst q;rw[if_pos (.inl rfl)]at hgo;subst hgo;have f0':((qu tab zs).flatMap Enc.enc).drop (d*3)=[B false,I 0,I 0]++tl2:=f0;refine ze (zB none (Row.pures [0,1,2,3,4,5,6,7,8,9,10,11,12,13] .done) mixed (yq f0' hd65 hml zd3 zy) ?_);refine zo rfl (zi [] (zN hd65 hmf hsp' hml) ?_);refine⟨by omega,?_⟩;refine zi [] hwl ?_;exact zv (j+1) [_] DB DB DC rfl (by simp[hb'e];rfl)
 ·obtain⟨r1,r2,r3⟩:=b;simp only at hbr;subst hbr;have hnz:¬((⟨true,r2,r3⟩:Stp)=zs):=λe=>by cases e
  by_cases hlt:kk<r2
  ·rw[if_pos (.inr hlt)]at hgo;subst hgo;refine ze (zB none (Row.pures [0,1,2,3,4,5,6,7,8,9,10,11,12,13] .done) mixed (zS f0 f11 hd65 hml zd3 (zt zd1 hlt)) ?_);refine zo rfl (zi [] (zN hd65 hmf hsp' hml) ?_);refine⟨by omega,?_⟩;refine zi [] hwl ?_;exact zv (j+1) [_] DB DB DC rfl (by simp[hb'e];rfl)
  ·rw[if_neg (by rintro(q | q);exact hnz q;exact hlt q)]at hgo;subst hgo;refine ze (zB none (Row.pures [0,1,2,3,4,5,6,7,8,9,10,11,12,13] .done) mixed (zS f0 f11 hd65 hml zd3 (zt zd1 hlt)) ?_);refine zp rfl (zk (zi [] hwl ?_));exact zv (j+1) [_] DB DB DC rfl (by simp[hb'e];rfl)
open Go Go.Proofs Hp
section
variable {P:Program} {r:Rd} {n N:Nat} {Q:Exit->(Nat->PV)->Store->Prop} {F:Nat->PV} {c:Code}
theorem ZpS{S:Store}{nx:Nat}{obs:List Ob}(j:Nat){ver e:Nat}{cs:List PV}(hj:obs[j]?=some (.cells ver e cs)){id v e2:Nat}{ds:List PV}(hlt:id<nx)(hs:S id=.cells v e2 ds)
  (h:PW P r n N c Q F (ext (S.set id (.cells v e2 (ds.map (qp (nx+j) ver cs)))) nx (obs.set j .dead))):PW P r n N c Q F (ext S nx obs):=by
 have hjl:j<obs.length:=(Ac.1 hj).1;refine ZoR (id:=nx+j) (ver:=ver) (e:=e) (cs:=cs) (G:=F) (by rw[z7,Aa,hj];rfl) (by rw[z7,Aa,AS hjl];rfl) (λo=>?_) (λ_=>.inl rfl) h
 by_cases ho:o<nx
 ·rw[zE ho,zE ho]
  by_cases hoi:o=id
  ·subst hoi;rw[q11,hs];exact .inr (.inr rfl)
  ·rw[q10 _ _ _ _ hoi];exact .inr (.inl rfl)
 ·simp only[ext];rw[if_neg ho,if_neg ho,Aa,Aa,Bz];split
  ·simp[hjl]
  ·exact .inr (.inl rfl)
theorem VK{S T:Store}{nx nz:Nat}{obs:List Ob}(hd:zX nx S)(hle:nx<=nz)(h:∀o,o<nx->T o=S o)(o:Nat):S o=ext T nz obs o\/S o=.dead:=by
 by_cases ho:o<nx
 ·rw[zE DB,h o ho];exact .inl rfl
 ·exact .inr (hd o DB)
end
def Zf(x:Inst)(sol:Cust->List Int->List Visit × Bool)(b:Int)(n:Nat):Nat->List (List Int)->zH × Int
 | 0,_=>([],15)
 | k+1,pr =>
  if (qB x sol pr).2≠0 then ([],15)
  else if js (jl x (qB x sol pr).1 b n)=0 then (xN x (qB x sol pr).1 b n,0)
  else if (jl x (qB x sol pr).1 b n).any ZO=true then ([],15)
  else Zf x sol b n k (JS (jl x (qB x sol pr).1 b n) pr n)
def XW(x:Inst)(sol:Cust->List Int->List Visit × Bool)(b:Int)(n:Nat):zH × Int:=Zf x sol b n 8 (jB x n 0)
def ZgX(x:Inst)(n:Nat)(sol:Cust->List Int->List Visit × Bool):Prop:=∀pr,uL x.cust.length n pr->(qB x sol pr).2=0->VsOk x.cust.length n (qB x sol pr).1
theorem ZpT{x:Inst}{sol:Cust->List Int->List Visit × Bool}{b:Int}{n:Nat}(hx:InstH x)(hn:x.days=n)(hn2:n<=1000)(hs:Zcg x n sol)(hv:ZgX x n sol)(hb:b<=9223372036854775807):
  Pure prog 128 [.agg (zD x),I b] (.tup [.agg [L (XW x sol b n).1],I (XW x sol b n).2]):=by
 have hm:=hx.cust;unfold XW;have hPo:=ZgE x n;refine zx func128 ntmps128 results128 λS nx hd=>?_
 refine DK ?_;intro v0 v1;refine ze (zB (some [nx]) (Row.pures [0,1,2,3,4] (.alt 5 (Row.pures [6] (.alt 7 (Row.pures [8] .done) .stop)) .stop)) mixed trivial ?_);refine⟨by omega,?_⟩;intro v2 v3;rw[ZoY];refine ZoT (α:=Int) (nx+2) v2 26 (nx+4) 3 1 x.cust.length DC (jU (obs:=[_,_,_,_])) λT ws hR hT hdT=>?_
 have hT0:T nx=.cells v0 25 (zD x):=by rw[hT nx DB DB];simp
 have hT1:T (nx+1)=.cells v1 30 [.sc (.slice none 0 0)]:=by rw[hT (nx+1) DB DB];simp
 have hT3:T (nx+3)=.cells v3 235 (xq x (.sc (.slice none 0 0)) b (.sc (.slice none 0 0)) (.sc (.slice none 0 0)) (.sl (nx+2) v2 1 0 x.cust.length)):=by rw[hT (nx+3) DB DB];simp
 have hTS:∀o,o<nx->T o=S o:=λo ho=>by rw[hT o DB DB,zE ho]
 clear hT;obtain⟨nz,hnz⟩:∃nz,nz=nx+4+x.cust.length:=⟨_,rfl⟩;rw[<-hnz]at hdT;rw[show List.replicate x.cust.length ([]:List Int)=jB x 0 0 from (AX λj=>by
  by_cases h:j<x.cust.length
  ·simp[jB,h]
  ·rw[Ak DF,Ak (by rw[QW];omega)])]at hR
 rw[<-qy hdT];refine ze (xk [] DG DG λK Gc Gh hK hGc hGh X hX0 hX=>?_);simp -implicitDefEqProofs [hX0,hX]
 try clear hX0 hX X
 refine hGc _ _ _ _ _ _ _ λhsuf=>(Spec.mono (ZgB (nx:=nz) (by rw[qy hdT];exact hdT) x _ _ _ _ _ _ _ n hn hn2 (by rw[qy hdT];exact hT3)
  (λk T'=>(∃ws',RowsAt T' (nx+2) v2 26 (nx+4) 3 1 ws' (jB x k 0))/\(∀o,o≠nx+2->(o<nx+4\/nx+4+x.cust.length<=o)->T' o=T o)) ⟨⟨ws,by rw[qy hdT];exact hR⟩,λo _ _=>by rw[qy hdT]⟩
  (λk T' h o ho=>by rw[h.2 o DB (.inr DB)];exact hdT o ho) (λk hk T' h=>?_)) ?_).v
 ·obtain⟨⟨ws',h1⟩,h2⟩:=h;refine(Zpe k hm DB DB DB ((h2 (nx+3) DB (.inl DB)).trans hT3) h1).mono ?_;rintro _ T2 ⟨g1,g2⟩;exact⟨g1,λo o1 o2=>(g2 o o1 o2).trans (h2 o o1 o2)⟩
 rintro _ T' ⟨⟨ws',hR'⟩,hT'⟩;have hdT':zX nz T':=λo ho=>by rw[hT' o DB (.inr DB)];exact hdT o ho
 refine⟨T',[],(qy hdT').symm,?_⟩;clear hGc hGh;clear Gc Gh;refine xH hsuf (D:=[]) DG λGc Gh hGc hGh X hX0 hX=>?_
 simp -implicitDefEqProofs [hX0,hX];clear hX0 hX X;refine hK _ _ _ ?_;clear hK hGc hGh;clear K Gc Gh
 replace hT0:=(hT' nx DB (.inl DB)).trans hT0
 replace hT1:=(hT' (nx+1) DB (.inl DB)).trans hT1
 replace hT3:=(hT' (nx+3) DB (.inl DB)).trans hT3
 replace hTS:∀o,o<nx->T' o=S o:=λo ho=>(hT' o DB (.inl DB)).trans (hTS o ho)
 clear hT' hR hdT;generalize jB x n 0=pr0 at *
 repeat apply ze
 refine zg ?_;refine zn (jo (σ:=Nat × Store × List (List Int)) (λs=>s.1<=8/\uL x.cust.length n s.2.2/\Zf x sol b n 8 pr0=Zf x sol b n (8-s.1) s.2.2/\(∃ws',RowsAt s.2.1 (nx+2) v2 26 (nx+4) 3 1 ws' s.2.2)/\s.2.1 nx=.cells v0 25 (zD x)/\s.2.1 (nx+1)=.cells v1 30 [.sc (.slice none 0 0)] /\
  (∃vP pP fP,s.2.1 (nx+3)=.cells v3 235 (xq x vP b pP fP (.sl (nx+2) v2 1 0 x.cust.length)))/\(∀o,o<nx->s.2.1 o=S o)/\zX nz s.2.1)
  (λs=>[(2,.ptr nx v0 0),(4,.ptr (nx+1) v1 0),(6,.ptr (nx+3) v3 0),(21,I s.1)]) (λs=>s.2.1) (λ_=>[]) (λs=>8-s.1) (zT (0,T',pr0) [] ⟨by simp,hPo,rfl,⟨ws',hR'⟩,hT0,hT1,⟨_,_,_,hT3⟩,hTS,hdT'⟩ DC rfl DC) ?_)
 clear hR' hT0 hT1 hT3 hTS hdT' hPo T';rintro⟨k,T,pr⟩ ⟨hk,hP,hst,⟨ws,hR⟩,hT0,hT1,⟨vP,pP,fP,hT3⟩,hTS,hdT⟩;simp only at hk hP hst hR hT0 hT1 hT3 hTS hdT ⊢;have x0:=λobs=>(zE (S:=T) (nx:=nz) (obs:=obs) (i:=nx) DB).trans hT0
 have x3:=λobs=>(zE (S:=T) (nx:=nz) (obs:=obs) (i:=nx+3) DB).trans hT3
 have g1:¬nz<=nx+1:=DB
 have x1:=λobs=>(zE (S:=T) (nx:=nz) (obs:=obs) (i:=nx+1) DB).trans hT1
 refine DK ?_;refine ze (zz rfl (λhc=>?_) (λhc=>?_))
 ·simp at hc;rw[show 8-k=(7-k)+1 from by omega]at hst;have hvs:=hv pr hP;have hch:=Zpo (S:=T) hm hP hR hs;rw[show Zf x sol b n (7-k+1) pr=(if (qB x sol pr).2≠0 then ([],15) else if js (jl x (qB x sol pr).1 b n)=0 then (xN x (qB x sol pr).1 b n,0) else if (jl x (qB x sol pr).1 b n).any ZO=true then ([],15) else Zf x sol b n (7-k) (JS (jl x (qB x sol pr).1 b n) pr n)) from rfl]at hst;generalize qB x sol pr=cz at hst hvs hch;obtain⟨v,e⟩:=cz;simp only at hst hvs hch;refine zk (ze (zn (ze (Zjb none (Row.pures [0,1,2,3,4] (.alt 5 (Row.pures [6,7,8,9,10] .done) .stop)) mixed DG DG DG λK Gp Gc Gh hK hGp hGc hGh X hX0 hX1 hX2 hX=>?_))));simp -implicitDefEqProofs [hX0,hX1,hX2,hX,x0,x3]
  try clear hX0 hX1 hX2 hX X
  refine hGc _ _ _ _ _ _ _ (Spec.mono (by rw[qy hdT];exact hch) ?_).v;rintro _ S2 ⟨rfl,hS2⟩;have hS3:S2=ext T nz []:=hS2.trans (qy hdT).symm;subst hS3;clear hS2;refine⟨by simp[yH],?_⟩;clear hGp hGc hGh;clear Gp Gc Gh;refine ZdC λGp Gc Gh hGp hGc hGh X hX0 hX1 hX2 hX=>?_
  simp -implicitDefEqProofs [hX0,hX1,hX2,hX]
  try clear hX0 hX1 hX2 hX X
  refine hK _ _ _ ?_;clear hK hGp hGc hGh;clear K Gp Gc Gh
  repeat apply ze
  refine zg ?_
  by_cases he:e=0
  case neg =>
   rw[if_pos he]at hst;rw[hst];refine zo (by simp[he]) ?_;refine ze (zi [] (zF x0 x1 g1) ?_)
   show PW _ _ _ _ _ _ _ (ext _ _ _)
   refine W9 (o:=nx+1) 0 (by rw[zE (by omega)];first | exact q11 _ _ _ | exact hT1) rfl ?_;rw[yZ _ DB]
   try rw[Store.set_set]
   refine zj ⟨_,S,(by simp[zE (show nx+1<nz from by omega),q11];rfl),⟨by simp[zq],rfl⟩,?_⟩;exact VK hd DB λo ho=>by rw[q10 _ _ _ _ DB];exact hTS o ho
  rw[if_neg (by simpa using he)]at hst;have hvs:=hvs he;refine zp (by simp[he]) ?_;refine zk ?_
  repeat apply ze
  refine xk [] DG DG λK Gc Gh hK hGc hGh X hX0 hX=>?_
  simp -implicitDefEqProofs [hX0,hX]
  try clear hX0 hX X
  refine hGc _ _ _ _ _ _ _ λhsuf=>(Spec.mono (ZoX (nx:=nz) (n:=n) (by rw[qy hdT];exact hdT) (by rw[qy hdT];exact hT3) hx hn hn2 hvs hb) ?_).v
  rintro _ _ ⟨rfl,vD,vF,rfl⟩;rw[qy hdT];refine⟨_,_,rfl,?_⟩;clear hGc hGh;clear Gc Gh;refine xH hsuf (D:=[]) DG λGc Gh hGc hGh X hX0 hX=>?_
  simp -implicitDefEqProofs [hX0,hX];clear hX0 hX X;refine hK _ _ _ ?_;clear hK hGc hGh;clear K Gc Gh;have hfl:=Zgj x v b n;have hpl:=Zb0 x v b n;generalize jl x v b n=fs at *;generalize xN x v b n=pl at *
  by_cases hf:js fs=0
  ·rw[if_pos hf]at hst;rw[hst];refine zo (by simp[hf]) ?_
   show PW _ _ _ _ _ _ _ (ext _ _ _)
   refine ZpS 0 (id:=nx+3) rfl DB (q11 _ _ _) ?_;rw[Store.set_set];have hfz:([I x.days,I x.veh,I x.cap,I x.len,L x.cust,L x.dist,L v,I b,.sl nz vD 1 0 pl.length,.sl (nz+1) vF 1 0 fs.length,.sl (nx+2) v2 1 0 x.cust.length]:List PV).map (qp (nz+0) vD (pl.flatMap Enc.enc))=xq x (L v) b (L pl) (.sl (nz+1) vF 1 0 fs.length) (.sl (nx+2) v2 1 0 x.cust.length):=by
    simp[qp];omega
   rw[hfz];have y3:=λ(o:Ob) obs=>(zE (S:=T.set (nx+3) o) (nx:=nz) (obs:=obs) (i:=nx+3) DB).trans (q11 _ _ _)
   have y1:=λ(o:Ob) obs=>(zE (S:=T.set (nx+3) o) (nx:=nz) (obs:=obs) (i:=nx+1) DB).trans ((q10 _ _ _ _ DB).trans hT1)
   refine ze (zi [] (zF y3 y1 g1) ?_);refine zj ⟨_,S,(by simp[zE (show nx+1<nz from by omega),q11];rfl),⟨by simp[zq],rfl⟩,?_⟩;exact VK hd DB λo ho=>by rw[q10 _ _ _ _ DB,q10 _ _ _ _ DB];exact hTS o ho
  rw[if_neg hf]at hst;refine zp (by simp[hf]) ?_;refine zk ?_;have y3:=λ(o:Ob) obs=>(zE (S:=T.set (nx+3) o) (nx:=nz) (obs:=obs) (i:=nx+3) DB).trans (q11 _ _ _)
  have y1:=λ(o:Ob) obs=>(zE (S:=T.set (nx+3) o) (nx:=nz) (obs:=obs) (i:=nx+1) DB).trans ((q10 _ _ _ _ DB).trans hT1)
  repeat apply ze
  refine xk [] DG DG λK Gc Gh hK hGc hGh X hX0 hX=>?_
  simp -implicitDefEqProofs [hX0,hX,y3]
  try clear hX0 hX X
  refine hGc _ _ _ _ _ _ _ λhsuf=>((Zpm (idF:=nz+1) (vF:=vF) fs (by rw[z7];rfl) DB).mono ?_).v
  rintro _ _ ⟨rfl,rfl⟩;refine⟨_,_,rfl,?_⟩;clear hGc hGh;clear Gc Gh;refine xH hsuf (D:=[]) DG λGc Gh hGc hGh X hX0 hX=>?_
  simp -implicitDefEqProofs [hX0,hX];clear hX0 hX X;refine hK _ _ _ ?_;clear hK hGc hGh;clear K Gc Gh;cases hbad:fs.any ZO with
  | true =>
   rw[if_pos hbad]at hst;rw[hst];refine zo rfl (ze (zi [] (zt y1 g1) ?_))
   show PW _ _ _ _ _ _ _ (ext _ _ _)
   refine W9 (o:=nx+1) 0 (by rw[zE DB];first | exact q11 _ _ _ | exact(q10 _ _ _ _ DB).trans hT1) rfl ?_;rw[yZ _ DB]
   try rw[Store.set_set]
   refine zj ⟨_,S,(by simp[zE (show nx+1<nz from by omega),q11];rfl),⟨by simp[zq],rfl⟩,?_⟩;exact VK hd DB λo ho=>by rw[q10 _ _ _ _ DB,q10 _ _ _ _ DB];exact hTS o ho
  | false =>
   rw[if_neg (by rw[hbad];decide)]at hst;refine zp rfl (zk ?_);generalize hT2:ext (T.set (nx+3) (.cells v3 235 (xq x (L v) b (.sl nz vD 1 0 pl.length) (.sl (nz+1) vF 1 0 fs.length) (.sl (nx+2) v2 1 0 x.cust.length)))) nz [.cells vD 39 (pl.flatMap Enc.enc),.cells vF 47 (fs.flatMap Enc.enc)]=T2;have q3:T2 (nx+3)=.cells v3 235 (xq x (L v) b (.sl nz vD 1 0 pl.length) (.sl (nz+1) vF 1 0 fs.length) (.sl (nx+2) v2 1 0 x.cust.length)):=by rw[<-hT2,zE DB,q11]
   have qF:T2 (nz+1)=.cells vF 47 (fs.flatMap Enc.enc):=by rw[<-hT2,z7];rfl
   have qo:∀o,o<nz->o≠nx+3->T2 o=T o:=λo h1 h2=>by rw[<-hT2,zE h1,q10 _ _ _ _ h2]
   have qd:zX (nz+2) T2:=by rw[<-hT2];exact jU (obs:=[_,_])
   have qR:RowsAt T2 (nx+2) v2 26 (nx+4) 3 1 ws pr:=hR.other λo ho=>by
    rw[hP.1]at ho;exact qo o DB DB
   clear hT2;rw[<-qy qd];refine xk [] DG DG λK Gc Gh hK hGc hGh X hX0 hX=>?_
   simp -implicitDefEqProofs [hX0,hX]
   try clear hX0 hX X
   refine hGc _ _ _ _ _ _ _ λhsuf=>(Spec.mono (ZgB (nx:=nz+2) (by rw[qy qd];exact qd) x _ _ _ _ _ _ _ n hn hn2 (by rw[qy qd];exact q3)
    (λk T'=>RowsAt T' (nx+2) v2 26 (nx+4) 3 1 ws (JS fs pr k)/\(∀o,(o<nx+4\/nx+4+x.cust.length<=o)->T' o=T2 o)) ⟨by rw[qy qd];exact qR,λo _=>by rw[qy qd]⟩
    (λk T' h o ho=>by rw[h.2 o (.inr DB)];exact qd o ho) (λj hj T' h=>?_)) ?_).v
   ·obtain⟨h1,h2⟩:=h;refine(Zpj (n:=n) j hm hn2 hj DB DB ((h2 (nz+1) (.inr DB)).trans qF) hfl ((h2 (nx+3) (.inl DB)).trans q3) (XP fs hP j) h1).mono ?_;rintro _ T3 ⟨r1,r2⟩;exact⟨r1,λo o1=>(r2 o o1).trans (h2 o o1)⟩
   rintro _ T3 ⟨hR3,hT3'⟩;have hd3:zX (nz+2) T3:=λo ho=>by rw[hT3' o (.inr DB)];exact qd o ho
   refine⟨T3,[],(qy hd3).symm,?_⟩;clear hGc hGh;clear Gc Gh;refine xH hsuf (D:=[]) DG λGc Gh hGc hGh X hX0 hX=>?_
   simp -implicitDefEqProofs [hX0,hX];clear hX0 hX X;refine hK _ _ _ ?_;clear hK hGc hGh;clear K Gc Gh;rw[qy hd3];refine Xn (T':=λo=>if o<nz then T3 o else .dead) (λo=>by by_cases ho:o<nz<;>simp[ho]) ?_;generalize hT4:(λo=>if o<nz then T3 o else Ob.dead)=T4;have q4:∀o,o<nz->T4 o=T3 o:=λo ho=>by rw[<-hT4];simp[ho]
   have qd4:zX nz T4:=λo ho=>by rw[<-hT4];simp;omega
   clear hT4;rw[<-qy qd4];refine zg ?_;refine zv (k+1,T4,JS fs pr n) [] ⟨by dsimp only;omega,XP fs hP n,by rw[hst,show 8-(k+1)=7-k from by omega],⟨ws,hR3.other λo ho=>q4 o (by rw[(XP fs hP n).1]at ho;omega)⟩,?_,?_,⟨L v,.sl nz vD 1 0 pl.length,.sl (nz+1) vF 1 0 fs.length,?_⟩,λo ho=>?_,qd4⟩ DF (by simp[zA k (by omega)]) rfl DC
   ·dsimp only;rw[q4 _ DB,hT3' _ (.inl DB),qo _ DB DB];exact hT0
   ·dsimp only;rw[q4 _ DB,hT3' _ (.inl DB),qo _ DB DB];exact hT1
   ·dsimp only;rw[q4 _ DB,hT3' _ (.inl DB)];exact q3
   ·dsimp only;rw[q4 _ DB,hT3' _ (.inl DB),qo _ DB DB];exact hTS o ho
 ·simp at hc;obtain rfl:k=8:=DB
  rw[hst];refine zC (ze (zi [] (zt x1 g1) ?_))
  show PW _ _ _ _ _ _ _ (ext _ _ _)
  refine W9 (o:=nx+1) 0 (by rw[zE (by omega)];first | exact q11 _ _ _ | exact hT1) rfl ?_;rw[yZ _ DB]
  try rw[Store.set_set]
  refine zj ⟨_,S,(by simp[zE (show nx+1<nz from by omega),q11];rfl),⟨by simp[zq,Zf],rfl⟩,?_⟩;exact VK hd DB λo ho=>by rw[q10 _ _ _ _ DB];exact hTS o ho
open Go Go.Proofs Hp
def Qb:List Int->Int
 | []=>-1
 | d :: ds=>(d :: ds).getLast DC
theorem Zcp(ds:List Int)(d:Int):Qb (ds++[d])=d:=by
 cases ds with
 | nil=>rfl
 | cons a ds=>show (a :: (ds++[d])).getLast _=d;grind
def ZgY(c:Cust)(cap:Int)(last d:Int):Prop:=0<=(qS c last d).1/\vt c (qS c last d).1 cap≠0
inductive FilS (c:Cust) (cap:Int) (n:Nat):List Int->Prop where
 | nil:FilS c cap n []
 | snoc {ds:List Int} {d:Int} (h:FilS c cap n ds) (h1:Qb ds<d) (h2:d<n) (h3:ZgY c cap (Qb ds) d):FilS c cap n (ds++[d])
theorem FilS.lo{c:Cust}{cap:Int}{n:Nat}{ds:List Int}(h:FilS c cap n ds):-1<=Qb ds/\(∀d∈ds,0<=d/\d<n/\d<=Qb ds):=by
 induction h with
 | nil=>exact⟨by decide,by simp⟩
 | snoc h h1 h2 h3 ih =>
  grind[Zcp]
theorem FilS.inc{c:Cust}{cap:Int}{n:Nat}{ds:List Int}(h:FilS c cap n ds):ds.Pairwise (· < ·):=by
 induction h with
 | nil=>simp
 | snoc h h1 h2 h3 ih =>
  rw[List.pairwise_append];refine⟨ih,by simp,λa ha b hb=>?_⟩;rw[AZ.1 hb];have:=h.lo.2 a ha;omega
theorem ZpU(c:Cust)(ds:List Int):(jC c ds).2=Qb ds:=by
 rcases List.eq_nil_or_concat ds with rfl | ⟨l,d,rfl⟩
 ·rfl
 ·rw[List.concat_eq_append,VH,Zcp];rfl
theorem ZpV(c:Cust):∀ds:List Int,(jC c ds).1.map (·.d)=ds:=by
 have:∀(ds:List Int) (st:List Visit × Int),(ds.foldl (Ys c) st).1.map (·.d)=st.1.map (·.d)++ds:=by
  intro ds
  induction ds with
  | nil=>intro st;simp
  | cons d ds ih=>intro st;rw[AY,ih];simp[Ys]
 simp_all[jC]
theorem ZpW{c:Cust}(hc:CustFits c){cap last d:Int}(h:ZgY c cap last d):W (c.size-(qS c last d).1)=c.size-(qS c last d).1/\1<=c.size-(qS c last d).1/\c.size-(qS c last d).1<=2147483648/\(c.rule=1->c.size-(qS c last d).1<=cap):=by
 obtain⟨h1,h2⟩:=h;have hs:=hc.size
 grind[vt,wr]
theorem ZpX{c:Cust}(hc:CustFits c){cap:Int}{n:Nat}(hn:n<=60){ds:List Int}(h:FilS c cap n ds):GoodV n (jC c ds).1:=by
 have hlen:ds.length<=64:=by
  have h1:=ZgL (m:=n) ds (h.inc.imp λh=>Ds h) (λd hd=>by have:=h.lo.2 d hd;omega);omega
 refine⟨by simp_all[ZgS],?_,by rw[ZpV];exact h.inc.imp λh=>Ds h⟩
 induction h with
 | nil=>intro s hs;cases hs
 | @snoc ds d h h1 h2 h3 ih =>
  intro s hs;rw[VH]at hs;simp only[Ys]at hs;rcases AG.1 hs with hs | hs
  ·grind
  ·rw[AZ.1 hs];rw[ZpU];obtain⟨q1,q2,q3,-⟩:=ZpW hc h3;have:=h.lo.1
   grind
def Qc(tab:List Stp):Nat->Int->List Int
 | 0,_=>[]
 | f+1,d=>if d<0 then [] else d :: Qc tab f (tab.getD d.toNat zs).l
def VL(c:Cust)(n:Nat)(cap:Int)(tab:List Stp):Prop:=∀(d:Nat) (e:Stp),tab[d]?=some e->e≠zs->-1<=e.l/\e.l<d/\(0<=e.l->tab.getD e.l.toNat zs≠zs)/\0<=(qS c e.l d).1/\(d<n->vt c (qS c e.l d).1 cap≠0)
theorem ZgZ(c:Cust)(n:Nat)(cap:Int)(price:List Int):∀k,VL c n cap (jt c n cap price k)
 | 0=>by intro d e h;cases h
 | k+1=>by
  have ih:=ZgZ c n cap price k;have hl:=XV c n cap price k;have he:=VI c n cap price (jt c n cap price k) k (k+1);have hok:=Zco c n cap price (k+1);intro d e h hne;have hok:=hok d e h;simp only[jt]at h hok ⊢;rcases hok with q | ⟨-,q2,q3,q4⟩
  ·simp_all
  refine⟨q2,q3,q4,?_⟩
  by_cases hd:d<k
  ·rw[An DB]at h;exact(ih d e h hne).2.2.2
  ·rw[Ai DB,hl]at h;obtain rfl:d=k:=DI
   rw[Bp]at h;simp only[A3,Option.some.injEq]at h;subst h;rcases he with q | ⟨-,-,-,p4⟩
   ·simp_all
   ·have:=p4.2;omega
theorem Zcq{c:Cust}{n:Nat}{cap:Int}{tab:List Stp}(h:VL c n cap tab):∀(f:Nat) (d:Int),-1<=d->d<f->d<n->(0<=d->tab.getD d.toNat zs≠zs)->FilS c cap n (Qc tab f d).reverse/\Qb (Qc tab f d).reverse=d
 | 0,d,h1,h2,_,_=>by
  obtain rfl:d=-1:=DB
  exact⟨.nil,rfl⟩
 | f+1,d,h1,h2,h3,h4=>by
  unfold Qc
  by_cases hd:d<0
  ·rw[if_pos hd];obtain rfl:d=-1:=DB
   exact⟨.nil,rfl⟩
  ·rw[if_neg hd,Dc];have h4:=h4 DB;obtain⟨i,rfl⟩:=AN (show 0<=d by omega);rw[AL]at h4 ⊢;have he:∃e,tab[i]?=some e/\tab.getD i zs=e:=by
    cases hq:tab[i]? with
    | none=>simp_all
    | some e=>simp_all
   obtain⟨e,he1,he2⟩:=he;rw[he2]at h4 ⊢;obtain⟨g1,g2,g3,g4,g5⟩:=h i e he1 h4;obtain⟨p1,p2⟩:=Zcq h f e.l g1 DB DB g3;exact⟨.snoc p1 DB h3 (by rw[p2];exact⟨g4,g5 (by omega)⟩),Zcp _ _⟩
theorem ZpY(s:Nat)(d i:Nat)(hd:d<64):qz (qX s d) i=1<->qz s i=1\/i=d:=by
 have h:((qX s d).testBit i)=(s.testBit i || decide (d=i)):=by
  unfold qX;rw[if_pos DB,AL,Nat.testBit_or,Nat.testBit_two_pow]
 grind[qz]
theorem Zg0{c:Cust}{n:Nat}{cap:Int}{tab:List Stp}(h:VL c n cap tab)(hn:n<=60):∀(f s:Nat) (d:Int),-1<=d->d<n->(0<=d->tab.getD d.toNat zs≠zs)->∀i:Nat,qz (vT tab f s d) i=1<->qz s i=1\/(i:Int)∈Qc tab f d
 | 0,s,d,_,_,_=>λi=>by simp[vT,Qc]
 | f+1,s,d,h1,h3,h4=>λi=>by
  unfold vT Qc
  by_cases hd:d<0
  ·simp_all
  ·rw[if_neg hd,if_neg hd];have h4:=h4 DB;obtain⟨k,rfl⟩:=AN (show 0<=d by omega);rw[AL]at h4 ⊢;have he:∃e,tab[k]?=some e/\tab.getD k zs=e:=by
    cases hq:tab[k]? with
    | none=>simp_all
    | some e=>simp_all
   obtain⟨e,he1,he2⟩:=he;rw[he2]at h4 ⊢;obtain⟨g1,g2,g3,-⟩:=h k e he1 h4;rw[Zg0 h hn f _ e.l g1 DB g3 i,ZpY s k i DB,Aw,Int.natCast_inj,or_assoc]
theorem ZpZ:∀{a b:List Int},a.Pairwise (· < ·)->b.Pairwise (· < ·)->(∀z,z∈a<->z∈b)->a=b:=by
 intro a b ha hb h;have hp:a.Perm b:=(CY (ha.imp λh=>Ds h) (hb.imp λh=>Ds h)).2 h;exact Zfd hp (ha.imp λh=>Int.le_of_lt h) (hb.imp λh=>Int.le_of_lt h)
theorem Zp0(s a k:Nat):(yy s a k).Pairwise (· < ·):=by
 unfold yy;rw[CF];have h:(List.range k).Pairwise (· < ·):=List.pairwise_lt_range;exact(h.sublist List.filter_sublist).imp λh=>by omega
theorem Zp1{c:Cust}{n:Nat}{cap:Int}{tab:List Stp}(h:VL c n cap tab)(hn:n<=60){d:Int}(h1:-1<=d)(h3:d<n)(h4:0<=d->tab.getD d.toNat zs≠zs):yy (vT tab 65 0 d) 0 64=(Qc tab 65 d).reverse:=by
 obtain⟨hf,-⟩:=Zcq h 65 d h1 DB h3 h4;refine ZpZ (Zp0 _ _ _) hf.inc λz=>?_
 have hb:=Zg0 h hn 65 0 d h1 h3 h4;have h0:∀i,¬qz 0 i=1:=by intro i;simp[qz]
 rw[List.mem_reverse];constructor
 ·grind[VG]
 ·intro hz;have hlo:=hf.lo.2 z (List.mem_reverse.2 hz)
  grind[Int.eq_ofNat_of_zero_le,yy]
theorem Zp2{c:Cust}{n:Nat}(hn:n<=60){cap:Int}{price:List Int}(h:(Yt c n cap price).2=true):∃ds,FilS c cap n ds/\0<=(qS c (Qb ds) n).1/\(Yt c n cap price).1=(jC c ds).1:=by
 have hfit:=ZgZ c n cap price (n+1);have hl:=XV c n cap price (n+1);unfold Yt at h ⊢;generalize jt c n cap price (n+1)=tab at *;split at h
 ·cases h
 rename_i hne;rw[if_neg hne];have he:∃e,tab[n]?=some e/\tab.getD n zs=e:=⟨_,Ad DB,by rw[Aa,Ad DB];rfl⟩;obtain⟨e,he1,he2⟩:=he;rw[he2]at hne ⊢;obtain⟨g1,g2,g3,g4,-⟩:=hfit n e he1 hne
 grind[Zcq,Zp1]
def qv(n:Nat)(cap:Int)(c:Cust)(price:List Int):List Visit × Bool :=
 if c.kind=1 then Zd c cap price else if c.rule=1 then Yt c n cap price else QX c n cap price
theorem Zcr{S:Store}{pl:PV}{price:List Int}(c:Cust)(n:Nat)(cap:Int)(hR:RowOf S pl price)(hp:∀z∈price,zW z)(hpl:price.length<=1000)(hm:CustMade c n)(hpc:c.pats.length<=1000)(hn:n<=60):
  Spec prog 207 [.agg (yc c),I n,I cap,pl] S (λq S'=>q=.tup [L (qv n cap c price).1,B (qv n cap c price).2]/\S'=S):=by
 unfold qv
 by_cases hk:c.kind=1
 ·rw[if_pos hk];exact ZpC c n cap hk hR hp hpl hpc hm.pats
 rw[if_neg hk]
 by_cases hr:c.rule=1
 ·rw[if_pos hr];have hs:=λS (hR:RowOf S pl price)=>ZpR c n cap hR hm.fits hn
  generalize Yt c n cap price=r at *;obtain⟨v,ok⟩:=r;simp only at hs ⊢;refine yi func207 ntmps207 results207 λnx hd=>?_
  refine DK ?_;intro v0;refine ze (zn (ze (zi [] hk ?_)));refine zp DC ?_;refine ze (zi [] hr ?_);refine zo DC ?_;refine DK ?_;refine λhsuf=>((hs _ (hR.ext hd _)).mono ?_).v
  rintro _ _ ⟨rfl,rfl⟩;refine⟨_,_,rfl,zQ hsuf ?_⟩;exact zj ⟨_,S,DD,⟨by simp,rfl⟩,zU hd⟩
 ·rw[if_neg hr];have hs:=λS (hR:RowOf S pl price)=>ZpI c n cap hR hm.fits DB
  generalize QX c n cap price=r at *;obtain⟨v,ok⟩:=r;simp only at hs ⊢;refine yi func207 ntmps207 results207 λnx hd=>?_
  refine DK ?_;intro v0;refine ze (zn (ze (zi [] hk ?_)));refine zp DC ?_;refine ze (zi [] hr ?_);refine zp DC ?_;refine zk (DK ?_);refine λhsuf=>((hs _ (hR.ext hd _)).mono ?_).v
  rintro _ _ ⟨rfl,rfl⟩;refine⟨_,_,rfl,zQ hsuf ?_⟩;exact zj ⟨_,S,DD,⟨by simp,rfl⟩,zU hd⟩
theorem Zp3{c:Cust}{n:Nat}(hm:CustMade c n)(hk:c.kind=1){p:Nat}(hp:p∈c.pats):GoodV n (Y7 c p):=by
 obtain⟨h1,h2⟩:=hm.per hk;refine⟨by simp only[Y7,List.length_map];exact Y5 _ _ _,λs hs=>?_,by simp only[Y7,Cu];exact(by simpa[Function.comp_def] using Zpb p 0 64)⟩
 grind[Y7,yy]
theorem Zp4{c:Cust}{cap:Int}{price:List Int}(h:(Zd c cap price).2=true):∃p∈c.pats,(p=0\/c.demand<=cap)/\(Zd c cap price).1=Y7 c p:=by
 unfold Zd at h ⊢;split at h
 ·cases h
 rename_i hn;rw[if_neg hn];have hb:=Zci price (uv c cap) (uv c cap).length
 grind[uv,List.getElem_mem]
theorem VM{c:Cust}{n:Nat}(hm:CustMade c n)(hn:n<=60)(cap:Int)(price:List Int)(h:(qv n cap c price).2=true):GoodV n (qv n cap c price).1:=by
 unfold qv at h ⊢
 by_cases hk:c.kind=1
 ·grind[Zp4,Zp3]
 rw[if_neg hk]at h ⊢
 by_cases hr:c.rule=1
 ·rw[if_pos hr]at h ⊢;obtain⟨ds,h1,-,e⟩:=Zp2 hn h;rw[e];exact ZpX hm.fits hn h1
 ·rw[if_neg hr]at h ⊢;have hD:GoodV n (yY 0 (Ze c n cap).1):=ZgA (JW hm.fits (Zcl hm.fits cap) n).2 (Co (JV _ _ _)) DB;have hL:GoodV n (yY 0 (ZP c n cap).1):=ZgA (JW hm.fits (Zcm hm.fits cap) n).2 (Co (JV _ _ _)) DB
  grind[QX]
structure InstA (x:Inst) (n:Nat):Prop where
 h:InstH x
 days:x.days=n
 n60:n<=60
 made:∀c∈x.cust,CustMade c n
 pats:∀c∈x.cust,c.pats.length<=1000
theorem Zp5{x:Inst}{n:Nat}(h:InstA x n):Zcg x n (qv n x.cap):=by
 intro c hc l hl hi S pl hR;rw[h.days];have:=h.n60;exact Zcr c n x.cap hR hi DB (h.made c hc) (h.pats c hc) h.n60
theorem Zg1{x:Inst}{sol:Cust->List Int->List Visit × Bool}{pr:List (List Int)}(h:(qB x sol pr).2=0):(qB x sol pr).1.length=x.cust.length/\∀i c,x.cust[i]?=some c->(qB x sol pr).1[i]?=some (sol c (pr.getD i [])).1/\(sol c (pr.getD i [])).2=true:=by
 unfold qB at h ⊢;split at h
 ·rename_i hall;rw[if_pos hall];refine⟨by simp[uM],λi c hc=>?_⟩;have hi:=(Ac.1 hc).1;have hg:x.cust.getD i default=c:=by rw[Aa,hc];rfl
  refine⟨by simp only[uM,Cu,Ah,Bt hi,A5,Function.comp_apply,hg],?_⟩;have:=Az.1 hall _ (ZgF x sol pr hi);rw[hg]at this;exact this
 omega
theorem Zg2{x:Inst}{n:Nat}(h:InstA x n):ZgX x n (qv n x.cap):=by
 intro pr hP h0;obtain⟨h1,h2⟩:=Zg1 h0;have key:∀l∈(qB x (qv n x.cap) pr).1,GoodV n l:=by
  intro l hl;obtain⟨i,hi,rfl⟩:=List.getElem_of_mem hl;have hic:i<x.cust.length:=DB
  obtain⟨e1,e2⟩:=h2 i _ (Ad hic);rw[Ad hi]at e1;rw[Option.some.inj e1];exact VM (h.made _ (A8 hic)) h.n60 _ _ e2
 exact⟨h1,λl hl w hw=>(key l hl).ok w hw,λl hl=>(key l hl).nd,λl hl=>by have:=(key l hl).len;omega⟩
def jD(x:Inst)(b:Int):zH × Int:=XW x (qv x.days.toNat x.cap) b x.days.toNat
theorem Zp6{x:Inst}{n:Nat}(h:InstA x n){b:Int}(hb:b<=9223372036854775807):Pure prog 128 [.agg (zD x),I b] (.tup [.agg [L (jD x b).1],I (jD x b).2]):=by
 have hd:x.days.toNat=n:=by rw[h.days];rfl
 unfold jD;rw[hd];exact ZpT h.h h.days (by have:=h.n60;omega) (Zp5 h) (Zg2 h) hb
open Go Go.Proofs Hp
def QZ(c:Int)(p:zH):zH:=p.map (jY c)
theorem Zp7(p:zH)(c:Int)(hp:p.length<=1000)(hd0:∀d∈p,d.length<=1048576)(ht:∀d∈p,∀t∈d,t.length<=1048576):Pure prog 287 [.agg [L p],I c] (.agg [L (QZ c p)]):=by
 unfold QZ;refine zx func287 ntmps287 results287 λS nx hd=>?_
 refine DK ?_;intro v0 v1;refine DK ?_;intro v2;refine jd 2 0 39 1 rfl rfl λv3=>?_
 repeat apply ze
 refine zg ?_;refine zn (zJ (λs:Nat × zH × Nat=>s.1<=p.length/\s.2.1=(p.take s.1).map (jY c)) (λ(k,q,w)=>[(1,I c),(4,.ptr (nx+1) v1 0),(5,.ptr (nx+2) v2 0),(11,L p),(12,I p.length),(13,I k)]) (λ(k,q,w)=>[.cells v0 30 [L p],.cells v1 30 [yr],.cells v2 30 [.sl (nx+3) w 1 0 q.length],.cells w 39 (q.flatMap Enc.enc)]) (λs=>p.length-s.1) (0,[],v3) [] DC DC DC ?_);rintro⟨k,q,w⟩ ⟨hk,hq⟩;simp only at hk hq ⊢;have hql:q.length=k:=by rw[hq];simp;omega
 refine DK ?_;refine ze (zz rfl (λhc=>?_) (λhc=>?_))
 ·simp at hc;obtain⟨d,tl,a1,a2,a3,e0⟩:=zL rfl p k hc;have hdm:=Ab a1;have hr:=Zm0 d c (hd0 d hdm) (ht d hdm);generalize hrd:jY c d=rd at hr;have hk1:1<=p.length-k:=DB
  have hqf:(q.flatMap Enc.enc:List PV).length=q.length:=jI q;have hqt:(q.flatMap Enc.enc:List PV).take q.length=q.flatMap Enc.enc:=Ae DB;refine zk (ze (zn (ze (zi [] (zF hc e0 hk1) ?_))));intro v4;refine DK ?_;refine zu hr ?_;intro v5;refine zi [] (zt hqf hqt) ?_;refine⟨by omega,?_⟩;refine zg ?_;exact zv (k+1,q++[rd],w+1) [_,_] ⟨hc,by rw[a3,List.map_append,hq,<-hrd];rfl⟩ DF (by simp[zA k (by omega)]) rfl (by simp;exact⟨rfl,rfl⟩)
 ·simp at hc;obtain rfl:k=p.length:=DB
  rw[Ag]at hq;refine zC (yb 3 rfl ?_);refine DK ?_;exact zj (zm hd DD (by simp[zq,hq]))
open Go Go.Proofs Hp
def vu(x:Inst)(c:Nat):Stop:=⟨c,if (x.cust.getD c default).kind=1 then (x.cust.getD c default).demand else 1⟩
def wP(x:Inst)(s:Stop)(d:zr):Int:=if (yO x d s).2=true then max 0 (W (W (yA x (yO x d s).1)-W (yA x d))) else 4294967296
theorem Zg3(x:Inst)(c:Int):Pure prog 286 [.agg (zD x),I c] (B (decide (0<=c) && decide (c<x.cust.length))):=by
 refine zx func286 ntmps286 results286 λS nx hd=>?_
 refine DK ?_;intro v0
 by_cases h:0<=c
 ·by_cases h2:c<x.cust.length
  ·refine ze (zi [(2,7)] (zt h h2) ?_);exact zj (zm hd rfl (by simp[zq,h,h2]))
  ·refine ze (zi [(2,7)] (zt h h2) ?_);exact zj (zm hd rfl (by simp[zq,h,h2]))
 ·refine ze (zi [(2,7)] (zt h zy) ?_);exact zj (zm hd rfl (by simp[zq,h]))
open Go Go.Proofs Hp
theorem VN{x:Inst}(hx:x.cust.length<=900){d:zr}(h:yv x d=0):d.flatten.length<=x.cust.length/\d.length<=x.cust.length/\RgOk x d [⟨0,0⟩]:=by
 obtain⟨h1,h2,h3⟩:=(vf x d).1 h;have hg:=ZbY h;have hl:=ZgL (m:=x.cust.length) _ h2 (λc hc=>by
  obtain⟨s,hs,rfl⟩:=Ar.1 hc;have:=hg s hs;simp[jq]at this;omega)
 rw[List.length_map]at hl;have hn:=Zfa h;have hd:=ZgK d hn;refine⟨hl,by omega,⟨by omega,λt ht=>?_,λt ht s hs=>?_⟩,h,by rw[By];omega⟩
 ·have:=VF d t ht;omega
 ·have:=hg s (Zpu ht hs);simp[jq]at this;unfold y9;omega
theorem Zg4{x:Inst}(hx:x.cust.length<=900)(ha:jf x)(hv:0<=x.veh){d:zr}(h:yv x d=0):SOk x d.flatten/\SG x d.flatten d:=by
 obtain⟨h1,h2,h3⟩:=(vf x d).1 h;obtain⟨g1,g2,g3⟩:=VN hx h;refine⟨⟨by omega,ha,hv,by omega,λs hs=>?_,h2⟩,⟨h1,.refl _⟩⟩;obtain⟨t,ht,hst⟩:=BE.1 hs;exact g3.ok.s t ht s hst
theorem Zp8(c:Int)(d:zr):(jY c d).flatten=d.flatten.filter λs=>decide (s.c≠c):=by
 unfold jY;have:∀l:zr,(l.filter λt=>!t.isEmpty).flatten=l.flatten:=by
  intro l
  induction l with
  | nil=>rfl
  | cons t l ih=>cases t<;>simp[B6,ih]
 rw[this]
 induction d with
 | nil=>rfl
 | cons t d ih=>simp only[AD,BH,BX,ih];rfl
open Go Go.Proofs Hp
theorem Zg5{x:Inst}{sol:Cust->List Int->List Visit × Bool}{b:Int}{n:Nat}:∀(k:Nat) (pr:List (List Int)),uL x.cust.length n pr->(Zf x sol b n k pr).2=0->∃pr',uL x.cust.length n pr'/\(qB x sol pr').2=0/\js (jl x (qB x sol pr').1 b n)=0/\(Zf x sol b n k pr).1=xN x (qB x sol pr').1 b n
 | 0,_,_,h=>by simp[Zf]at h
 | k+1,pr,hp,h=>by
  unfold Zf at h ⊢
  by_cases h1:(qB x sol pr).2≠0
  ·rw[if_pos h1]at h;cases h
  rw[if_neg h1]at h ⊢
  by_cases h2:js (jl x (qB x sol pr).1 b n)=0
  ·rw[if_pos h2]at h ⊢;exact⟨pr,hp,by simpa using h1,h2,rfl⟩
  rw[if_neg h2]at h ⊢
  by_cases h3:(jl x (qB x sol pr).1 b n).any ZO=true
  ·rw[if_pos h3]at h;cases h
  rw[if_neg h3]at h ⊢;exact Zg5 k _ (XP _ hp n) h
open Go Go.Proofs Hp
theorem Zp9{x:Inst}{n:Nat}(h:InstA x n){b:Int}(h0:(jD x b).2=0):∃v pr,VsOk x.cust.length n v/\uL x.cust.length n pr/\(jD x b).1=xN x v b n/\(∀d:Nat,d<n->(uq x b (j7 v d x.cust.length)).2=0)/\∀i c,x.cust[i]?=some c->v[i]?=some (qv n x.cap c (pr.getD i [])).1/\(qv n x.cap c (pr.getD i [])).2=true:=by
 have hd:x.days.toNat=n:=by rw[h.days];rfl
 unfold jD XW at h0 ⊢;rw[hd]at h0 ⊢;obtain⟨pr,hp,e1,e2,e3⟩:=Zg5 8 _ (ZgE x n) h0;have hv:=Zg2 h pr hp e1;obtain⟨c1,c2⟩:=Zg1 e1;refine⟨_,pr,hv,hp,e3,λd hdn=>?_,c2⟩;refine(ZoF _).1 e2 _ (Ar.2 ⟨_,Ar.2 ⟨d,AH.2 hdn,rfl⟩,rfl⟩)
open Go Go.Proofs Hp
theorem Zqa(s:Nat)(d:Int)(i:Nat)(h:0<=d/\d<64):(qX s d).testBit i=(s.testBit i || decide (d=(i:Int))):=by
 obtain⟨k,rfl⟩:=AN h.1;unfold qX;rw[if_pos DB,AL,Nat.testBit_or,Nat.testBit_two_pow];congr 1;rw[decide_eq_decide];omega
def Zqb(c:Cust):Prop:=(c.kind=1/\c.rule=0)\/(c.kind=2/\(c.rule=1\/c.rule=2))
open Go Go.Proofs
abbrev Wd:=List UInt8
abbrev Ln:=List Wd
abbrev wd:Wd:=[116,114,97,110,116,101,114]
abbrev jM:Wd:=[100,97,121,115]
abbrev jN:Wd:=[118,101,104,105,99,108,101,115]
abbrev jO:Wd:=[99,97,112,97,99,105,116,121]
abbrev jP:Wd:=[108,101,110,103,116,104]
abbrev jQ:Wd:=[99,117,115,116,111,109,101,114,115]
abbrev jR:Wd:=[118,105,115,105,116]
abbrev xg:Wd:=[116,97,110,107]
abbrev Zg:Wd:=[102,105,108,108]
abbrev Qd:Wd:=[97,110,121]
abbrev xR:Wd:=[100,105,115,116,97,110,99,101,115]
def yl(w:Wd):Int:=((yX w).getD 0:Nat)
def yB(l:Ln):Option (List Int):=if l.all (λw=>(yX w).isSome)=true then some (l.map yl) else none
theorem Zg6{l:Ln}{k:Nat}{w:Wd}(h:l[k]?=some w)(hw:yX w=none):yB l=none:=by grind[yB]
theorem Zg7{l:Ln}(h:∀w∈l,(yX w).isSome=true):yB l=some (l.map yl):=by simp_all[yB]
theorem Zcs{l:Ln}{z:List Int}(h:yB l=some z):z.length=l.length:=by grind[yB]
def xS(l:Ln)(n:Nat):Ln:=(List.range n).map λi=>l.getD (2*i+1) []
def vw(l names:Ln):Bool:=decide (l.length=2*names.length) && (List.range names.length).all λi=>decide (l.getD (2*i) []=names.getD i [])
def qi(l names:Ln):Option (List Int):=if vw l names=true then yB (xS l names.length) else none
def jn(w:Wd):Nat->Nat
 | 0=>0
 | k+1=>if w.getD k 0=49 then qX (jn w k) k else jn w k
def ju(w:Wd):Bool:=decide (w≠[]) && w.all λc=>decide (c.toNat=48\/c.toNat=49)
def qj(w:Wd):Nat:=if 64<w.length then 0 else jn w w.length
def uN(d:Wd)(ps:Ln):Cust:=⟨1,yl d,ps.map qj,0,0,0,0,0⟩
def ZR(n:Int)(l:Ln):Option (Cust × Bool):=match l with
 | []=>none
 | d :: ps=>if (yX d).isSome=true/\ps.all ju=true then some (uN d ps,ps.all λw=>decide ((w.length:Int)=n)) else none
theorem VO(n:Int)(d:Wd)(ps:Ln):ZR n (d :: ps)=if (yX d).isSome=true/\ps.all ju=true then some (uN d ps,ps.all λw=>decide ((w.length:Int)=n)) else none:=rfl
def ZS(w:Wd):Int:=if w=Zg then 1 else 2
def ux(l:Ln):Option Cust:=match l with
 | [a,b,c,r,h]=>if (yB [a,b,c,h]).isSome=true/\(r=Zg\/r=Qd) then some ⟨2,0,[],yl a,yl b,yl c,ZS r,yl h⟩ else none
 | _=>none
theorem Zct(a b c r h:Wd):ux [a,b,c,r,h]=if (yB [a,b,c,h]).isSome=true/\(r=Zg\/r=Qd) then some ⟨2,0,[],yl a,yl b,yl c,ZS r,yl h⟩ else none:=rfl
def qk(n:Int)(l:Ln):Option (Cust × Bool):=match l with
 | []=>none
 | w :: l=>if w=jR then ZR n l else if w=xg then (ux l).map (·,true) else none
instance:Inhabited (Cust × Bool):=⟨(default,false)⟩
def xu(n:Int)(l:Ln):Cust × Bool:=(qk n l).getD default
def jE(m:Nat)(l:Ln):Bool:=(yB l).isSome && decide (l.length=m)
def zK(ls:List Ln)(k:Nat):Ln:=ls.getD k []
def yu(ls:List Ln)(k n:Nat):List Ln:=(List.range n).map λi=>zK ls (k+i)
def vU(ls:List Ln):Option (Inst × Bool) :=
 if zK ls 0=[wd,[49]] then
  match qi (zK ls 1) [jM,jN,jO,jP] with
  | some [d,v,c,l] =>
   match qi (zK ls 2) [jQ] with
   | some [m] =>
    if (yu ls 3 m.toNat).all (λl=>(qk d l).isSome)=true/\zK ls (3+m.toNat)=[xR]/\(yu ls (4+m.toNat) (m.toNat+1)).all (jE (m.toNat+1))=true/\ls.length=5+2*m.toNat then
     some (⟨d,v,c,l,(yu ls 3 m.toNat).map λl=>(xu d l).1,(yu ls (4+m.toNat) (m.toNat+1)).map λl=>l.map yl⟩,(yu ls 3 m.toNat).all λl=>(xu d l).2)
    else none
   | _=>none
  | _=>none
 else none
def zI:Inst:=⟨0,0,0,0,[],[]⟩
def z8(t:List UInt8):Inst × Int:=match qJ t with
 | none=>(zI,2)
 | some ls=>match vU ls with
  | none=>(zI,2)
  | some (x,ok)=>if ok=true/\yM x=true then (x,0) else (zI,3)
def ZT(z:Int):Prop:=0<=z/\z<100000000000000000
structure CustT (n:Nat) (c:Cust):Prop where
 kind:(c.kind=1/\ZT c.demand/\(∀p∈c.pats,p<2 ^ n)/\c.rate=0/\c.size=0/\c.start=0/\c.rule=0/\c.hold=0)\/(c.kind=2/\c.demand=0/\c.pats=[]/\ZT c.rate/\ZT c.size/\ZT c.start/\(c.rule=1\/c.rule=2)/\ZT c.hold)
structure InstT (x:Inst) (n:Nat):Prop where
 days:x.days=n
 n1:1<=n
 n64:n<=64
 nums:ZT x.veh/\ZT x.cap/\ZT x.len
 ncust:x.cust.length<100000000000000000
 cust:∀c∈x.cust,CustT n c
 rows:x.dist.length=x.cust.length+1
 row:∀r∈x.dist,r.length=x.cust.length+1/\∀z∈r,ZT z
theorem VP(w:Wd)(i:Nat):∀k,(jn w k).testBit i=(decide (i<k/\i<64) && decide (w.getD i 0=49))
 | 0=>by simp[jn]
 | k+1=>by
  unfold jn;split
  ·rename_i h
   by_cases hk:k<64
   ·rw[Zqa _ _ _ ⟨by omega,by omega⟩,VP w i k]
    grind
   ·have:qX (jn w k) k=jn w k:=by unfold qX;rw[if_neg DB]
    have e2:decide (i<k+1/\i<64)=decide (i<k/\i<64):=by rw[decide_eq_decide];omega
    rw[this,VP w i k,e2]
  ·rename_i h;rw[VP w i k]
   grind
theorem XX(w:Wd):∀k,jn w k<2 ^ 64
 | 0=>by show 0<2 ^ 64;decide
 | k+1=>by
  unfold jn;split
  ·exact Vq _ _ (XX w k)
  ·exact XX w k
open Go Go.Proofs
abbrev yJ:PV:=.sc (.slice none 0 0)
def qY(o:Option (List Int)):PV:=match o with
 | none=>.tup [yJ,B false]
 | some l=>.tup [L l,B true]
theorem Zqc(l:List (List UInt8))(hl:l.length<=1048576)(hw:∀w∈l,w.length<=1099511627776):Pure prog 192 [L (l.map bs),.fn (.func 109) [] []] (qY (yB l)):=by
 obtain⟨zs,hzs⟩:∃zs:List Int,zs=l.map yl:=⟨_,rfl⟩;have hzl:zs.length=l.length:=by rw[hzs,List.length_map]
 have hwl:(l.map bs).length=l.length:=DC
 have hat:∀(k:Nat) (w:List UInt8),l[k]?=some w->zs[k]?=some (yl w)/\(l.map bs)[k]?=some (bs w):=λk n e=>⟨by rw[hzs,Ah,e];rfl,by rw[Ah,e];rfl⟩
 have hres:(∀w∈l,(yX w).isSome=true)->yB l=some zs:=λh=>by rw[Zg7 h,hzs]
 generalize l.map bs=ws at *;refine zx func192 ntmps192 results192 λS nx hd=>?_
 refine DK ?_;refine DK ?_;refine⟨by omega,λv0=>?_⟩
 repeat apply ze
 refine zg ?_;refine zn (zJ (λs:Nat × Nat × List PV=>(s.1<=zs.length/\∀w∈l.take s.1,(yX w).isSome=true)/\s.2.2.take s.1=(zs.take s.1).flatMap Enc.enc/\s.1<=s.2.2.length/\(0<s.1->s.2.2.length=s.1)/\(zs.length=0->s.2.2=[])) (λ(k,w,cs)=>[(1,.fn (.func 109) [] []),(6,.sl nx w 1 0 k),(14,L ws),(15,I ws.length),(16,I k)]) (λ(k,w,cs)=>[.cells w 3 cs]) (λs=>zs.length-s.1) (0,v0,_) [] ⟨⟨by simp,by simp⟩,by simp,by simp,λh=>absurd h (CB _),?_⟩ DC rfl ?_)
 ·intro h;have:ws.length=0:=DB
  simp[this,yR]
 rintro⟨k,w,cs⟩ ⟨⟨hk,hso⟩,hcs,hkl,hk1,hk0⟩;simp only at hk hso hcs hkl hk1 hk0 ⊢;refine DK ?_;refine ze (zz rfl (λhc=>?_) (λhc=>?_))
 ·simp at hc;obtain⟨u,hu1⟩:∃u,l[k]?=some u:=⟨_,Ad DB⟩;obtain⟨g1,g2⟩:=hat k u hu1;obtain⟨t,tl,b1,b2,b3,f0⟩:=zL rfl ws k hc;obtain rfl:t=bs u:=by rw[b1]at g2;exact Option.some.inj g2
  have hnum:=Zgv u (hw u (Ab hu1));refine zk (ze (zn (ze (zi [] (zt f0 hc) ?_))));cases hz:yX u with
  | none =>
   rw[hz]at hnum;simp only[Zc]at hnum;refine DK ?_;refine zu hnum ?_
   repeat apply ze
   refine zg ?_;refine zo DC ?_;refine DK ?_;exact zj (zm hd DD (by rw[Zg6 hu1 hz];rfl))
  | some n =>
   rw[hz]at hnum;simp only[Zc]at hnum;have hnv:yl u=n:=by unfold yl;rw[hz];rfl
   rw[hnv]at g1;have hnx:(zs.take (k+1)).flatMap Enc.enc=cs.take k++[I n]:=by rw[hcs,AC,g1,Al];rfl
   have hso':∀w∈l.take (k+1),(yX w).isSome=true:=by
    rw[AC,hu1];intro w hw;rw[AG]at hw;rcases hw with hw | hw
    ·exact hso w hw
    ·obtain rfl:w=u:=by simpa using hw
     rw[hz];rfl
   refine DK ?_;refine zu hnum ?_
   repeat apply ze
   refine zg ?_;refine zp rfl (zk (zi [] hkl ?_));refine⟨by omega,?_⟩;refine zg ?_;exact zv (k+1,w+1,cs.take k++[I n]) [] ⟨⟨by simp;omega,hso'⟩,by rw[hnx];exact Ae DF,by simp;omega,λ_=>by simp;omega,λh=>by omega⟩ DF (by simp[zA k (by omega)]) rfl DC
 ·simp at hc;obtain rfl:k=zs.length:=DB
  rw[Ae DB]at hso;have hcl:cs.length=zs.length:=by
   rcases BT zs.length with h | h
   ·rw[hk0 h,h];rfl
   ·exact hk1 h
  have hcz:cs=zs.flatMap Enc.enc:=by
   rw[Ag,Ae DB]at hcs;exact hcs
  refine zC (yb 0 rfl ?_);refine ze (zi [] hcl ?_);exact zj (zm hd DD (by simp[zq,hcz,hres hso,qY]))
theorem Zcu(l:List (List UInt8))(hl:l.length<=1048576)(hw:∀w∈l,w.length<=1099511627776):Pure prog 144 [L (l.map bs)] (qY (yB l)):=by
 have h:=Zqc l hl hw;cases hz:yB l with
 | none =>
  rw[hz]at h;simp only[qY]at h ⊢;refine zx func144 ntmps144 results144 λS nx hd=>?_
  refine DK ?_;refine DK ?_;refine zu h ?_;exact DL hd
 | some z =>
  rw[hz]at h;simp only[qY]at h ⊢;refine zx func144 ntmps144 results144 λS nx hd=>?_
  refine DK ?_;refine DK ?_;refine zu h ?_;exact DL hd
open Go Go.Proofs
theorem Zqd{P:Program}{f:FuncId}{v:Value}(vs:List Value)(hE:qg P f)(h:∀w,Calls P f vs.toArray w λe w'=>e=.returned v/\w'=w):Pure P f (vs.map .sc) (.sc v):=by
 intro S;refine⟨hE,λC w us hS hl hr=>?_⟩;have hus:us=vs.toArray:=by
  apply Array.ext
  ·simp_all
  ·intro i h1 h2;have hi:i<vs.length:=by simpa using h2
   have:=hr i (.sc vs[i]) us[i] DC (A4 h1);generalize us[i]=u at this;cases this;simp
 subst hus;refine(h w).mono ?_;rintro e w' ⟨rfl,rfl⟩;exact⟨_,_,S,C,rfl,⟨rfl,rfl⟩,.sc _,hS,.refl _ _ _⟩
theorem Zg8(s:List UInt8)(c:UInt8):Pure prog 222 [T (bs s),T (bs [c])] (I (Lib.indexByte s c)) :=
 Zqd [.string (bs s),.string (bs [c])] ZjL λw=>stringslite_Index_one (bs s) c w
theorem Zg9(a b:List UInt8)(c:UInt8)(h:c ∉ a):Lib.indexByte (a++c :: b) c=a.length:=by induction a<;>grind[Lib.indexByte]
theorem JX(l:List UInt8)(i j:Nat):(bs l).extract i j=bs ((l.take j).drop i):=by
 apply ByteArray.ext;simp[List.drop_take]
theorem Zqe(a b:List UInt8)(c:UInt8)(h:c ∉ a)(hl:(a++c :: b).length<=4611686018427387904):Pure prog 189 [T (bs (a++c :: b)),T (bs [c])] (.tup [T (bs a),T (bs b),B true]):=by
 have hI:=Zg8 (a++c :: b) c;rw[Zg9 a b c h]at hI;have hx1:(bs (a++c :: b)).extract 0 a.length=bs a:=by rw[JX];simp
 have hx2:(bs (a++c :: b)).extract (a.length+1) (bs (a++c :: b)).size=bs b:=by
  rw[JX,j8,Ag,show a++c :: b=(a++[c])++b by simp,List.drop_left' DC]
 have hsz:(bs (a++c :: b)).size=a.length+1+b.length:=by rw[j8];simp;omega
 have hs1:(bs [c]).size=1:=rfl;rw[hsz]at hx2;have hw:W ((a.length:Int)+1)=((a.length+1:Nat):Int):=zA _ (by simp at hl;omega);generalize bs (a++c :: b)=X at *;generalize bs [c]=Y at *;generalize a.length=n at *;refine zx func189 ntmps189 results189 λS nx hd=>?_
 refine DK ?_
 repeat apply ze
 refine zg ?_;refine zu hI ?_;refine DK ?_;refine zo DC ?_;have hb1:n<=n+1+b.length:=DB
 have hb2:n+1<=n+1+b.length:=DB
 have hb3:(0:Int)<=(n:Int)+1:=DB
 refine ze (zB none (Row.pures [0,1,2,3,4,5,6,7,8,9,10,11] .done) mixed (zS hx1 hx2 hsz hs1 hw (zF hb1 hb2 hb3)) ?_);exact DL hd
theorem Zha(a:List UInt8)(c:UInt8)(h:c ∉ a):Lib.indexByte a c=-1:=by induction a<;>grind[Lib.indexByte]
theorem Zqf(a:List UInt8)(c:UInt8)(h:c ∉ a):Pure prog 189 [T (bs a),T (bs [c])] (.tup [T (bs a),T (bs []),B false]):=by
 have hI:=Zg8 a c;rw[Zha a c h]at hI;generalize bs a=X at *;generalize bs [c]=Y at *;refine zx func189 ntmps189 results189 λS nx hd=>?_
 refine DK ?_
 repeat apply ze
 refine zg ?_;refine zu hI ?_;refine DK ?_;refine zp DC ?_;refine zk (DK ?_);exact zj (zm hd rfl rfl)
def Zcv(c:UInt8)(s:List UInt8):PV:=match xO c s with
 | some (a,b)=>.tup [T (bs a),T (bs b),B true]
 | none=>.tup [T (bs s),T (bs []),B false]
theorem Zqg(s:List UInt8)(c:UInt8)(hl:s.length<=4611686018427387904):Pure prog 136 [T (bs s),T (bs [c])] (Zcv c s):=by
 unfold Zcv;cases hcw:xO c s with
 | none =>
  have hc:=Zqf s c (Vw hcw);simp only[];refine zx func136 ntmps136 results136 λS nx hd=>?_
  refine DK ?_;refine DK ?_;refine zu hc ?_;exact DL hd
 | some p =>
  obtain⟨a,b⟩:=p;obtain⟨rfl,hna⟩:=QV hcw;have hc:=Zqe a b c hna hl;simp only[];clear hcw;refine zx func136 ntmps136 results136 λS nx hd=>?_
  refine DK ?_;refine DK ?_;refine zu hc ?_;exact DL hd
theorem Zhb(c:UInt8):∀(k:Nat) (s:List UInt8),s.count c<=k->Lib.splitB (bs [c]) 0 k (bs s)=(yI c s).map bs
 | k,s,hk=>by
  rw[Zo2];cases h:xO c s with
  | none =>
   grind[Lib.index_one,Zha,Vw,Lib.splitB_miss]
  | some p =>
   obtain⟨a,b⟩:=p;obtain⟨rfl,hna⟩:=QV h;have hn:Lib.indexB (bs (a++c :: b)) (bs [c])=a.length:=(Lib.index_one _ c).trans (Zg9 a b c hna);rw[List.count_append,List.count_cons_self]at hk
   match k,hk with
   | k+1,hk =>
   have ih:=Zhb c k b DB;have hs1:(bs [c]).size=1:=rfl;rw[Lib.splitB_hit _ _ _ _ _ hn,hs1,JX,JX,j8,Ag,show a++c :: b=(a++[c])++b by simp,List.drop_left' DC,ih];simp
theorem Zqh(c:UInt8)(s:List UInt8):(yI c s).length=s.count c+1:=by induction s<;>grind[yI]
theorem Zqi(s:List UInt8)(c:UInt8)(hl:s.length<=1048576):Pure prog 190 [T (bs s),T (bs [c]),I 0,I (-1)] (L ((yI c s).map bs)):=by
 intro S;refine⟨ZjI,λC w us hS hl' hr=>?_⟩;obtain⟨u0,u1,u2,u3,rfl⟩:∃a b c d,us=#[a,b,c,d]:=by
  match us,hl' with
  | ⟨[a,b,c,d]⟩,_=>simp
 have hsz1:(bs [c]).size=1:=rfl;have r0:=hr 0 _ u0 rfl rfl;have r1:=hr 1 _ u1 rfl rfl;have r2:=hr 2 _ u2 rfl rfl;have r3:=hr 3 _ u3 rfl rfl;cases r0;cases r1;cases r2;cases r3;have hcb:Lib.countB (bs s) (bs [c])=s.count c:=Lib.count_one c s;have hcl:s.count c<=s.length:=List.count_le_length;have main:=Any.strings_genSplit_core lays221 DE (bs s) (bs [c]) 0 (-1) (s.count c+1) w (by rw[j8];omega) DB (Ca _)
  (λx ce _=>(strings_Index_one x c _).mono λe w' h=>⟨by grind[Lib.index_one],h.2⟩)
  ((strings_Count_one (bs s) c w).mono λe w' h=>⟨by rw[h.1,hcb];rfl,h.2⟩)
  DH DH (by grind[j8])
 rw[BW,Zhb c _ s (Af _)]at main;refine main.mono ?_;rintro e w' ⟨rfl,rfl⟩;obtain⟨t1,t2,t3⟩:=hS.alloc (.cells (Lib.cellsOf ((yI c s).map bs) (s.count c+1)) (lays221_ren.t 9));have hlen:((yI c s).map bs).length=s.count c+1:=by rw[List.length_map];exact Zqh c s
 refine⟨_,_,S,C,rfl,⟨rfl,rfl⟩,?_,t1,t2⟩;clear main hcb;generalize (yI c s).map bs=l at *;generalize hN:s.count c+1=N at *;have hcells:Lib.cellsOf l N=(l.map Value.string).toArray:=by unfold Lib.cellsOf;rw[hlen,Bp];simp
 have hfl:l.flatMap Enc.enc=l.map T:=by
  clear hcells hlen t1 t2
  induction l with
  | nil=>rfl
  | cons x l ih=>simp_all
 rw[hcells]at t1 t2 ⊢;unfold L;rw[hfl];refine .lst1 DB (by unfold jT;omega) (Z3 w _) t3 (λ_=>by simp) (λi v hi hv=>?_) (λi p v hp hv=>?_)
 ·rw[AA,AQ,Ah]at hv;obtain⟨x,_,rfl⟩:=Am.1 hv;rfl
 ·rw[AA,AQ,Ah]at hv;rw[Ah]at hp;obtain⟨x,hx,rfl⟩:=Am.1 hv;rw[hx]at hp;cases hp;exact .sc _
theorem Zqj(s:List UInt8)(c:UInt8)(hl:s.length<=1048576):Pure prog 137 [T (bs s),T (bs [c])] (L ((yI c s).map bs)):=by
 have h:=Zqi s c hl;refine zx func137 ntmps137 results137 λS nx hd=>?_
 refine DK ?_;refine DK ?_;refine zu h ?_;exact DL hd
open Go Go.Proofs
abbrev wl(ls:List (List (List UInt8))):List (List ByteArray):=ls.map (·.map bs)
def Qe(o:Option (List (List (List UInt8)))):PV:=match o with
 | none=>.tup [yJ,I 2]
 | some ls=>.tup [L (wl ls),I 0]
theorem vx(a:ByteArray):yt .neq a a=some (.bool false):=by simp[yt]
theorem VQ{a b:ByteArray}(h:a≠b):yt .neq a b=some (.bool true):=by
 have h2:¬a.toList=b.toList:=λe=>h (Zcb e)
 simp[yt,h2]
theorem Zqk(t:List UInt8)(hl:t.length<=1048576):Pure prog 101 [T (bs t)] (Qe (qJ t)):=by
 refine zx func101 ntmps101 results101 λS nx hd=>?_
 refine DK ?_;refine DK ?_;refine ze (qL 4 81 1 rfl λv1=>?_);refine zn (zJ (λs:List UInt8 × List (List (List UInt8)) × Nat=>s.1.length<=t.length/\s.2.1.length+s.1.length<=t.length/\qJ t=(qJ s.1).map (s.2.1++·)) (λ(r,ls,v)=>[(0,T (bs r)),(4,.sl nx v 1 0 ls.length)]) (λ(r,ls,v)=>[.cells v 81 ((wl ls).flatMap Enc.enc)]) (λs=>s.1.length) (t,[],v1) [] ⟨Af _,by simp,by simp⟩ DC DC ?_);rintro⟨r,ls,v1⟩ ⟨hr,hlr,hz⟩;simp only at hr hlr hz ⊢;have hrl:r.length<=1048576:=DB
 by_cases h0:r=[]
 ·subst h0
  repeat apply ze
  refine zi [] vx ?_;refine zp DC ?_;refine zC (yb 0 rfl ?_);refine DK ?_;rw[XM]at hz;exact zj (zm hd DD (by simp[zq,hz,Qe]))
 ·have hne:bs r≠bs []:=λh=>h0 (Zgu.1 h)
  have hcut:=Zqg r 10 DB;unfold Zcv at hcut
  repeat apply ze
  refine zi [] (VQ hne) ?_;refine zo DC ?_;refine zk (zn ?_);cases hcw:xO 10 r with
  | none =>
   rw[hcw]at hcut;simp only[]at hcut;refine DK ?_;refine zu hcut ?_
   repeat apply ze
   refine zg ?_;refine zo DC ?_;refine DK ?_;exact zj (zm hd DD (by rw[hz,Zgq h0 hcw];rfl))
  | some p =>
   obtain⟨a,b⟩:=p;rw[hcw]at hcut;simp only[]at hcut;have hlz:=Zca hcw;obtain⟨hrab,hna⟩:=QV hcw;have hab:a.length+b.length+1=r.length:=by rw[hrab];simp;omega
   have hspl:=Zqj a 32 DB;have hsl:=Zo3 32 a;have hsw:∀w∈yI 32 a,w.length<=1048576:=λw hw=>by have:=Zo4 32 a w hw;omega
   obtain⟨ws,hws⟩:∃ws,ws=yI 32 a:=⟨_,rfl⟩;rw[<-hws]at hlz hspl hsl hsw;refine DK ?_;refine zu hcut ?_
   repeat apply ze
   refine zg ?_;refine zp DC ?_;refine zk (DK ?_);refine zu hspl ?_
   repeat apply ze
   refine zg ?_;refine zn (zJ (λk:Nat=>k<=ws.length/\∀w∈ws.take k,vq w=true) (λk=>[(4,.sl nx v1 1 0 ls.length),(6,T (bs b)),(8,L (ws.map bs)),(23,L (ws.map bs)),(24,I ws.length),(25,I k)]) (λ_=>[.cells v1 81 ((wl ls).flatMap Enc.enc)]) (λk=>ws.length-k) 0 [] DC DC DC ?_);rintro k ⟨hk,hwk⟩;refine DK ?_;refine ze (zz rfl (λhc=>?_) (λhc=>?_))
   ·simp at hc;obtain⟨t',tl,b1,b2,b3,f0⟩:=zL rfl (ws.map bs) k (by simpa using hc);obtain⟨u,hu,rfl⟩:∃u,ws[k]?=some u/\bs u=t':=by rw[Ah]at b1;simpa using b1
    have hkl:k<ws.length:=by simpa using hc
    have hword:=Zo7 u (by have:=hsw u (Ab hu);omega);refine zk (ze (zn (ze (zi [] (zt f0 hkl) ?_))));refine DK ?_;refine zu hword ?_;cases hwb:vq u with
    | false =>
     refine zo DC ?_;refine DK ?_;have hbad:qJ r=none:=Zo5 hcw (k:=k) (w:=u) (by rw[<-hws];exact hu) hwb;exact zj (zm hd DD (by rw[hz,hbad];rfl))
    | true =>
     refine zp DC ?_;refine zk (zg ?_);exact zv (k+1) [] ⟨hkl,by
      rw[AC,hu];intro w hw;rw[AG]at hw;rcases hw with hw | hw
      ·exact hwk w hw
      ·obtain rfl:w=u:=by simpa using hw
       exact hwb⟩ DB (by simp[zA k (by omega)]) rfl DC
   ·simp at hc;obtain rfl:k=ws.length:=DB
    rw[Ag]at hwk;rw[if_pos (Az.2 hwk)]at hlz;refine zC ?_;have hwl:(wl ls).length=ls.length:=DC
    have htk:((wl ls).flatMap Enc.enc).take ls.length=(wl ls).flatMap Enc.enc:=by rw[<-hwl];exact Zjp _
    refine ze (zi [] hwl ?_);refine⟨by omega,?_⟩;refine zg ?_;rw[htk];have hb1:b.length<r.length:=DB
    exact zv (b,ls++[ws],v1+1) [] ⟨AB (DA hb1) hr,by simp;omega,by rw[hz,hlz,Option.map_map];congr 1;funext x;simp⟩ hb1 DC rfl DC
open Go Go.Proofs Go.RowKit Go.Shelf
theorem Zql{C:Ctx}{S:Store}{w:World}{b:UInt8}{v:Value}(h:Rel C S w (U8 b) v):v=.int .u8 (b.toNat:Int):=by cases h;rfl
theorem Zqm(k:Nat)(hk:2<=k):liesAt prog prog.depth 113 (k / prog.cellsOf 113) 0 113 1=true:=by
 have hc:prog.cellsOf 113=2:=DE
 have hl:sameLayout prog prog.depth 113 113=true:=DE
 obtain⟨d,hd⟩:∃d,prog.depth=d+1:=⟨prog.depth-1,by kernel_rfl⟩;have h1:1<=k / 2:=DB
 simp_all[liesAt,rowAt]
theorem Zqn(b k:Nat)(w:World)(h0:w.cell? ⟨b,0,none⟩=some (.pointer none))(hsh:w.shape? b=some (113,k))(hk:2<=k)(hfz:w.frozen? ⟨b,0,none⟩=false):
  Calls prog 98 #[.pointer (some ⟨b,0,none⟩)] w λe w'=>e=.returned (.tuple #[])/\w'=w.setCell ⟨b,0,none⟩ (.pointer (some ⟨b,0,none⟩)):=by
 obtain⟨j,hj,hjs⟩:∃j,prog.info? 113=some j/\j.size=2:=by
  have:(prog.info? 113).map (·.size)=some 2:=DE
  exact Am.1 this
 go_enter func98,ntmps98
 go_wp2
 rw[Lib.run_to_unsafe w ⟨b,0,none⟩ underlying110 underlying191 hj (by rw[hjs];decide) hsh (by show 0<k;omega)];simp only[Result.andThen];rw[Oper.upon_value]
 go_wp2
 rw[run_callFunc_extern func134 DE DE DE (e:=Extern.AbiNoEscape.same) DE];rw[Lib.run_noEscape];simp only[Result.andThen];rw[Oper.upon_value]
 go_wp2
 rw[Lib.run_from_unsafe w ⟨b,0,none⟩ underlying191 underlying110 hj hsh (Zqm k hk)];simp only[Result.andThen];rw[Oper.upon_value]
 go_wp2
 go_end0
 simp
theorem ZU(S:Store)(o:Nat)(x:Ob)(h:S o=x):S.set o x=S:=by grind[Store.set]
theorem Zcw{vs:Array Value}(h:1=vs.size):∃v,vs=#[v]:=by
 match vs,h with
 | ⟨[v]⟩,_=>simp
theorem Zhc{vs:Array Value}(h:2=vs.size):∃u v,vs=#[u,v]:=by
 match vs,h with
 | ⟨[u,v]⟩,_=>simp
theorem Zcx{C:Ctx}{S:Store}{w:World}(hS:Sim C S w){id v e:Nat}{p s:PV}(h:S id=.cells v e [p,s]):∃(b k:Nat) (c:Array Value) (c0 c1:Value),C.loc id=some (b,k)/\w.heap[b]?=some (.cells c e (0,0))/\c.size=k/\2<=k/\c[0]?=some c0/\c[1]?=some c1/\Rel C S w p c0/\Rel C S w s c1 /\
  (∀(i:Nat) (u:Value),i<2->c[i]?=some u->u.oneCell'=true):=by
 rcases hS.cells id v e _ h with ⟨_,hn⟩ | ⟨b,k,c,g1,g2,g3,g4,g5,g6⟩
 ·cases hn
 ·simp only[Au,A6]at g4;have e0:c[0]?=some (c[0]' DB):=A4 DB
  grind
theorem Zhd{S:Store}{id v:Nat}{p s:PV}(hS:S id=.cells v 113 [p,s])(hp:p=.sc (.pointer none)\/p=.ptr id v 0):
  Spec prog 98 [.ptr id v 0] S (λ_ S'=>S'=S.set id (.cells v 113 [.ptr id v 0,s])):=by
 refine⟨qb func98 DG rfl,?_⟩;intro C w vs hC hl hr;obtain⟨u,rfl⟩:=Zcw hl;have hu:=hr 0 _ u rfl rfl;cases hu with
 | ptr h1 h2 h3 =>
  obtain⟨b,k,hloc,rfl⟩:=(h3 v (by rw[hS];rfl)).2 rfl;obtain⟨b',k',c,c0,c1,g1,g2,g3,g4,e0,e1,r0,r1,g5⟩:=Zcx hC hS;rw[hloc]at g1;cases g1;have hcell:w.cell? ⟨b,0,none⟩=some c0:=by simp[World.cell?,g2,e0]
  have hself:Rel C S w (.ptr id v 0) (.pointer (some ⟨b,0,none⟩)):=.ptr h1 h2 h3;rcases hp with rfl | rfl
  ·cases r0;refine(Zqn b k w hcell (by simp_all[World.shape?]) g4 (by simp_all[World.frozen?])).mono ?_;rintro e w' ⟨rfl,rfl⟩;have hh:(w.setCell ⟨b,0,none⟩ (.pointer (some ⟨b,0,none⟩))).heap[b]?=some (.cells (c.setIfInBounds 0 (.pointer (some ⟨b,0,none⟩))) 113 (0,0)):=by
    simp[World.setCell,Br,g2]
   obtain⟨t1,t2⟩:=hC.turn (l:=C.loc id) (ver':=v) (cs':=[.ptr id v 0,s]) hS (Af _) (λ_=>rfl) (w':=w.setCell ⟨b,0,none⟩ (.pointer (some ⟨b,0,none⟩)))
    (by rw[hloc];exact⟨⟨rfl,rfl,rfl,by simp,λj _ hj=>by grind[World.setCell]⟩,Af _⟩)
    (.inr ⟨b,k,_,hloc,.inr (by rw[hloc];rfl),hh,by simp[g3],g4,λi u hi hu=>by
      match i,hi with
      | 0,_=>rw[BS DB]at hu;cases hu;rfl
      | 1,_=>grind,
     λi q u hq hu=>by grind⟩)
   exact⟨.junk,_,_,_,rfl,rfl,.junk _,t1,t2⟩
  ·have hc0:c0=.pointer (some ⟨b,0,none⟩):=by
    cases r0 with
    | ptr i1 i2 i3 =>
     obtain⟨b2,k2,hl2,rfl⟩:=(i3 v (by rw[hS];rfl)).2 rfl
     simp_all
   subst hc0;refine(Any.Builder_copyCheck_used { lays156 with } Builder_Extra_156.toX72 b w hcell).mono ?_;rintro e w' ⟨rfl,rfl⟩;exact⟨.junk,_,_,_,rfl,(ZU S id _ hS).symm,.junk _,hC,.refl _ _ _⟩
theorem Sim.lose{C:Ctx}{S:Store}{w w':World}{id:Nat}(h:Sim C S w)(hne:S id≠.dead)(hg:w.grownBy w' ((C.loc id).map (·.1))/\w.drawn<=w'.drawn):Sim C (S.set id .dead) w'/\Step C S w C (S.set id .dead) w':=by
 have hold:∀o,(S.set id .dead) o≠.dead->o≠id/\(S.set id .dead) o=S o:=by
  intro o ho
  by_cases e:o=id
  ·simp_all
  ·simp_all[q10]
 have hfar:∀i b k,i≠id->S i≠.dead->C.loc i=some (b,k)->some b≠(C.loc id).map (·.1):=by
  intro i b k hi hd hb he;cases ho:C.loc id with
  | none=>simp_all
  | some x =>
   obtain⟨b2,k2⟩:=x;rw[ho]at he;cases he;exact hi (h.dist i id _ _ _ hd hne hb ho)
 have st:Step C S w C (S.set id .dead) w':=by
  refine⟨hg.1.os,⟨hg.1.tape,hg.2⟩,hg.1.output,hg.1.size,Af _,Af _,λb hlt hM=>⟨hg.1.block b hlt λe=>?_,?_⟩,λo v1 hv=>?_⟩
  ·cases ho:C.loc id with
   | none=>simp_all
   | some x =>
    obtain⟨b2,k2⟩:=x;rw[ho]at e;cases e;exact hM ⟨id,k2,hne,ho⟩
  ·rintro⟨o,k,ho,hl⟩;obtain⟨e1,e2⟩:=hold o ho;rw[e2]at ho;exact hM ⟨o,k,ho,hl⟩
  ·obtain⟨e1,e2⟩:=hold o (by intro e;rw[e]at hv;cases hv)
   simp_all
 refine⟨⟨λo ho=>?_,λo v hv=>?_,λo o' b k k' h1 h2 h3 h4=>?_,λo v e cs ho=>?_,λo v es ho=>?_⟩,st⟩
 ·obtain⟨e1,e2⟩:=hold o ho;rw[e2]at ho;exact h.lt o ho
 ·obtain⟨e1,e2⟩:=hold o (by intro e;rw[e]at hv;cases hv);rw[e2]at hv;exact h.clk o v hv
 ·obtain⟨e1,e2⟩:=hold o h1;obtain⟨e3,e4⟩:=hold o' h2;rw[e2]at h1;rw[e4]at h2;exact h.dist o o' b k k' h1 h2 h3 h4
 ·obtain⟨e1,e2⟩:=hold o (by rw[ho];simp);rw[e2]at ho;rcases h.cells o v e cs ho with hn | ⟨b,k,c,g1,g2,g3,g4,g5,g6⟩
  ·exact .inl hn
  ·exact .inr ⟨b,k,c,g1,(hg.1.block b (qn g2) (hfar o b k e1 (by rw[ho];simp) g1)).trans g2,g3,g4,g5,λi p u hp hu=>(g6 i p u hp hu).mono st⟩
 ·obtain⟨e1,e2⟩:=hold o (by rw[ho];simp);rw[e2]at ho;obtain⟨b,k,ms,cl,g1,g2,g3,g4⟩:=h.maps o v es ho;exact⟨b,k,ms,cl,g1,(hg.1.block b (qn g2) (hfar o b k e1 (by rw[ho];simp) g1)).trans g2,g3,λi x m he hm=>⟨(g4 i x m he hm).1,(g4 i x m he hm).2.mono st⟩⟩
theorem Zqo(b g cap:Nat)(c cur:Array Value)(l:List UInt8)(w:World)(hbk:w.heap[b]?=some (.cells c 113 (0,0)))(h1:c[1]?=some (.slice (some ⟨g,0,none⟩) l.length cap))(h0:l≠[])(hlen:l.length<=140737488355328)
  (hg:w.heap[g]?=some (.cells cur 5 (0,0))) (hcur:l.length<=cur.size) (hcap:l.length<=cap) (hcell:∀(j:Nat) (x:UInt8),l[j]?=some x->cur[j]?=some (.int .u8 (x.toNat:Int))) :
  Calls prog 64 #[.pointer (some ⟨b,0,none⟩)] w λe w'=>e=.returned (.string (bs l))/\w'=w.drew.freeze ⟨g,0,none⟩ l.length:=by
 have hl0:l.length≠0:=by simpa using h0
 have c1:w.drew.cell? ⟨b,1,none⟩=some (.slice (some ⟨g,0,none⟩) l.length cap):=by
  have:w.drew.heap[b]?=some (.cells c 113 (0,0)):=hbk;rw[Lib.cell_of_heap this];exact h1
 have hg':w.drew.heap[g]?=some (.cells cur 5 (0,0)):=hg;have hSD:(Builtin.unsafeSliceData_ #[111] 161 #[.slice (some ⟨g,0,none⟩) l.length cap]).run prog w.drew=.ok (.pointer (some ⟨g,0,none⟩)) w.drew :=
  Lib.run_unsafeSliceData_row _ _ _ _ _ _ DB
 have hUS:(Builtin.unsafeString_ #[161,3] 9 #[.pointer (some ⟨g,0,none⟩),.int .i64 l.length]).run prog w.drew=.ok (.string (bs l)) (w.drew.freeze ⟨g,0,none⟩ l.length):=by
  refine Lib.run_unsafeString_row w.drew 161 3 9 5 underlying161 DC g cur.size (by simp_all[World.shape?]) l h0 hcur DB ?_;intro j x hx;rw[Addr.add_plain,AQ];simp[World.cell?,hg',hcell j x hx]
 go_enter func64,ntmps64
 go_wp2
 go_region
 all_goals (go_wp2;go_ret;simp)
theorem Zqp{S:Store}{id v ib w0:Nat}{p:PV}(l:List UInt8)(hS:S id=.cells v 113 [p,.sl ib w0 1 0 l.length])(hB:S ib=.cells w0 5 (l.map U8))(h0:l≠[])(hlen:l.length<=140737488355328):
  Spec prog 64 [.ptr id v 0] S (λq S'=>q=T (bs l)/\S'=S.set ib .dead):=by
 refine⟨qb func64 DG rfl,?_⟩;intro C w vs hC hl hr;obtain⟨u,rfl⟩:=Zcw hl;have hu:=hr 0 _ u rfl rfl;have hl0:l.length≠0:=by simpa using h0
 cases hu with
 | ptr h1 h2 h3 =>
  obtain⟨b,k,hloc,rfl⟩:=(h3 v (by rw[hS];rfl)).2 rfl;obtain⟨b',k',c,c0,c1,g1,g2,g3,g4,e0,e1,r0,r1,g5⟩:=Zcx hC hS;rw[hloc]at g1;cases g1;cases r1 with
  | sl i1 i2 i3 =>
   rcases (i3 w0 (by rw[hB];rfl)).2 rfl with ⟨_,q,_⟩ | ⟨g,kg,ad,cap,hlg,rfl,hq0,hq1⟩
   ·omega
   obtain⟨rfl,hq⟩:=hq0 rfl;obtain⟨a1,cp,e2,c3,_⟩:=i1;cases e2;rcases hC.cells ib w0 _ _ hB with ⟨hn,_⟩ | ⟨b2,k2,cur,f1,f2,f3,f4,f5,f6⟩
   ·simp_all
   rw[hlg]at f1;cases f1;rw[List.length_map]at f4;have hcell:∀(j:Nat) (x:UInt8),l[j]?=some x->cur[j]?=some (.int .u8 (x.toNat:Int)):=by
    intro j x hx;have hj:=(Ac.1 hx).1;have hc:=A4 (xs:=cur) (i:=j) DB;rw[hc,Zql (f6 j (U8 x) _ DI hc)]
   refine(Zqo b g cap c cur l w g2 e1 h0 hlen f2 DB c3 hcell).mono ?_;rintro e w' ⟨rfl,rfl⟩;obtain⟨t1,t2⟩:=hC.lose (id:=ib) (w':=w.drew.freeze ⟨g,0,none⟩ l.length) (by rw[hB];simp) (by
    rw[hlg];unfold World.freeze;rw[if_neg hl0];exact⟨⟨rfl,rfl,rfl,by simp,λj _ hj=>by
     rw[Br,if_neg (λe=>hj (by rw[<-e];rfl))];rfl⟩,CD _⟩)
   exact⟨_,_,_,_,rfl,⟨rfl,rfl⟩,.sc _,t1,t2⟩
open Go Go.Proofs Go.RowKit Go.Shelf
theorem Zqq{w:Wd}{i:Nat}{c:UInt8}(h:w[i]?=some c)(h1:¬(c.toNat=48\/c.toNat=49)):ju w=false:=by
 unfold ju;have:w.all (λc=>decide (c.toNat=48\/c.toNat=49))=false:=by
  rw[Bh];exact⟨c,Ab h,by simpa using h1⟩
 rw[this,Cr]
theorem Zqr{w:Wd}{i:Nat}{c:UInt8}(h:w[i]?=some c):jn w (i+1)=if c=49 then qX (jn w i) i else jn w i:=by
 have:w.getD i 0=c:=by rw[Aa,h];rfl
 show (if w.getD i 0=49 then qX (jn w i) i else jn w i)=_
 rw[this]
def qm(w:Wd):Nat × Int:=if ju w=true then if 64<w.length then (0,3) else (jn w w.length,0) else (0,2)
theorem Zqs(n d:Nat)(hn:n<2 ^ 64)(w:World):Calls prog 226 #[.int .u64 n,.int .i64 d] w λe w'=>e=.returned (.int .u64 (qX n d))/\w'=w:=by
 go_enter func226,ntmps226
 by_cases h:(d:Int)<64
 ·have h3:=Zf0 d DB;have h4:bits BinOp.or IntKind.u64 (n:Int) (2 ^ d)=((n ||| 2 ^ d:Nat):Int):=by
   have:=bits_or_u64_nat n (2 ^ d) DB (by have:(2:Nat) ^ d<2 ^ 64:=Cq (by decide) (by omega);omega);simpa using this
  have h5:qX n d=n ||| 2 ^ d:=by unfold qX;rw[if_pos ⟨by omega,h⟩];rfl
  go_wp2
  go_ret
  exact⟨by show Ending.returned (.int .u64 ((n ||| 2 ^ d:Nat):Int))=_;rw[h5],rfl⟩
 ·have h5:qX n d=n:=by unfold qX;rw[if_neg DB]
  go_wp2
  go_ret
  exact⟨rfl,rfl⟩
theorem Zqt(s:Wd)(hl:s.length<=1048576)(w:World):Calls prog 191 #[.string (bs s)] w λe w'=>e=.returned (.tuple #[.int .u64 (qm s).1,.int .i64 (qm s).2])/\∃i,w'=w.iter (bs s) i:=by
 have hsz:=j8 s
 go_enter func191,ntmps191
 go_wp2
 go_loopg [4,5] s.length (λg s4 s5 wx=>∃i:Nat,i+g=s.length/\s4=.int .u64 (jn s i)/\s5=.int .i64 i/\wx=w.iter (bs s) i/\∀c∈s.take i,c.toNat=48\/c.toNat=49)
 case atStart=>exact⟨0,by omega,rfl,rfl,rfl,by simp⟩
 case round =>
  obtain⟨i,hig,rfl,rfl,rfl,hno'⟩:=hrel;have hno:Aside (∀c∈s.take i,c.toNat=48\/c.toNat=49):=hno';clear hno';cases gk with
  | zero =>
   obtain rfl:i=s.length:=DB
   have hnx:=λty=>run_next_end (P:=prog) w (bs s) s.length ty (by rw[hsz];omega)
   have hsg:s≠[]->ju s=true:=λh0=>by
    unfold ju;rw[decide_eq_true h0,De,Az];have h9:=hno.out;rw[Ag]at h9;exact λc hc=>decide_eq_true (h9 c hc)
   by_cases h0:s=[]
   ·subst h0;clear hsg;simp only[A6]at hnx
    go_wp2
    go_ret2
    exact⟨rfl,_,rfl⟩
   ·have hs1:=hsg h0;clear hsg;have hne:¬(s.length:Int)=0:=by intro h;exact h0 (Ap DB)
    rcases Be 64 s.length with h64 | h64
    ·have h64':(64:Int)<s.length:=DB
     have hsp:qm s=(0,3):=by unfold qm;rw[if_pos hs1,if_pos h64]
     go_wp2
     go_ret2
     exact⟨by rw[hsp];rfl,_,rfl⟩
    ·have h64':¬(64:Int)<s.length:=DB
     have hsp:qm s=(jn s s.length,0):=by unfold qm;rw[if_pos hs1,if_neg DB]
     go_wp2
     go_ret2
     exact⟨rfl,_,rfl⟩
  | succ g =>
   have hi:i<s.length:=DB
   obtain⟨x,hx⟩:∃x:UInt8,s[i]?=some x:=⟨_,Ad hi⟩;have hb:i<(bs s).size:=DB
   have hxb:(bs s)[i]'hb=x:=by
    have:=Ac.1 hx;exact this.2
   have Hx:Aside (s[i]?=some x):=hx;have hset:=Zqr hx;clear hx;have hlts:=XX s i
   by_cases q0:x.toNat=48
   ·have hnx:=λty=>run_next_ascii (P:=prog) w (bs s) i ty hb (by rw[hxb,q0];decide)
    rw[hxb,q0]at hnx;have hne:¬x=49:=by rintro rfl;exact absurd q0 DH
    rw[if_neg hne]at hset
    go_wp2
    go_roundg g
    case measure=>omega
    case rel =>
     refine⟨i+1,by omega,by rw[hset],by simp,rfl,?_⟩;rw[AC,Hx.out];intro c hc;rw[AG]at hc;rcases hc with hc | hc
     ·exact hno.out c hc
     ·obtain rfl:c=x:=by simpa using hc
      exact .inl q0
   ·by_cases q1:x.toNat=49
    ·have hx1:x=49:=UInt8.toNat_inj.1 q1;have hnx:=λty=>run_next_ascii (P:=prog) w (bs s) i ty hb (by rw[hxb,q1];decide)
     rw[hxb,q1]at hnx;rw[if_pos hx1]at hset;have hww:=Zqs (jn s i) i hlts
     go_wp2_with fail
     refine(hww _).mono ?_;rintro _ _ ⟨rfl,rfl⟩;rw[<-hset];clear hww
     go_wp2
     go_roundg g
     case measure=>omega
     case rel =>
      refine⟨i+1,by omega,by rw[hset],by simp,rfl,?_⟩;rw[AC,Hx.out];intro c hc;rw[AG]at hc;rcases hc with hc | hc
      ·exact hno.out c hc
      ·obtain rfl:c=x:=by simpa using hc
       exact .inr q1
    ·have hsp:qm s=(0,2):=by unfold qm;rw[if_neg (by rw[Zqq Hx.out (λh=>h.elim q0 q1)];simp)]
     have hnx:=λty=>run_next_any (P:=prog) w (bs s) i ty hb
     have hdec:(Utf8.decode (bs s) i).1≠48/\(Utf8.decode (bs s) i).1≠49:=by
      by_cases h128:x.toNat<128
      ·rw[decode_ascii (bs s) i hb (by rw[hxb];exact h128),hxb];exact⟨q0,q1⟩
      ·have:=(decode_high (bs s) i hb (by rw[hxb];omega)).1;omega
     obtain⟨r,hr⟩:∃r,r=Utf8.decode (bs s) i:=⟨_,rfl⟩;rw[<-hr]at hnx hdec;have q2:¬(r.1:Int)=48:=by have:=hdec.1;omega
     have q3:¬(r.1:Int)=49:=by have:=hdec.2;omega
     clear hr hdec hset
     go_wp2
     go_ret2
     exact⟨by rw[hsp];rfl,_,rfl⟩
theorem Zqu(s:Wd)(hl:s.length<=1048576):Pure prog 191 [T (bs s)] (.tup [U (qm s).1,I (qm s).2]):=by
 intro S;refine⟨ZjJ,λC w us hS hl' hr=>?_⟩;obtain⟨u0,rfl⟩:=Zcw hl';have r0:=hr 0 _ u0 rfl rfl;cases r0;refine(Zqt s hl w).mono ?_;rintro _ _ ⟨rfl,i,rfl⟩;obtain⟨t1,t2,_⟩:=hS.alloc (.stringIter (bs s) i);refine⟨_,_,S,C,rfl,⟨rfl,rfl⟩,.tup rfl λj c v h1 h2=>?_,t1,t2⟩
 match j,h1,h2 with
 | 0,h1,h2=>cases h1;cases h2;exact .sc _
 | 1,h1,h2=>cases h1;cases h2;exact .sc _
open Go Go.Proofs
theorem XY(l:Ln)(hl:l.length<=1048576)(hw:∀w∈l,w.length<=1099511627776):Pure prog 74 [L (l.map bs)] (qY (yB l)):=by
 obtain⟨zs,hzs⟩:∃zs:List Int,zs=l.map yl:=⟨_,rfl⟩;have hzl:zs.length=l.length:=by rw[hzs,List.length_map]
 have hwl:(l.map bs).length=l.length:=DC
 have hat:∀(k:Nat) (w:List UInt8),l[k]?=some w->zs[k]?=some (yl w)/\(l.map bs)[k]?=some (bs w):=λk n e=>⟨by rw[hzs,Ah,e];rfl,by rw[Ah,e];rfl⟩
 have hres:(∀w∈l,(yX w).isSome=true)->yB l=some zs:=λh=>by rw[Zg7 h,hzs]
 generalize l.map bs=ws at *;refine zx func74 ntmps74 results74 λS nx hd=>?_
 (repeat apply ze);refine zg ?_;intros
 (repeat apply ze);refine zg ?_;intros
 refine qL 4 3 1 rfl λw0=>?_
 (repeat apply ze);refine zg ?_;intros
 repeat apply ze
 refine zn (zJ (λs:Nat × Nat=>s.1<=zs.length/\∀w∈l.take s.1,(yX w).isSome=true) (λ(k,w)=>[(0,L ws),(4,.sl nx w 1 0 k),(5,I k)]) (λ(k,w)=>[.cells w 3 ((zs.take k).flatMap Enc.enc)]) (λs=>zs.length-s.1) (0,w0) [] DC DC DC ?_);rintro⟨k,w⟩ ⟨hk,hso⟩;simp only at hk hso ⊢
 (repeat apply ze);refine zg ?_;intros
 repeat apply ze
 refine zz rfl (λhc=>?_) (λhc=>?_)
 ·simp at hc;obtain⟨u,hu1⟩:∃u,l[k]?=some u:=⟨_,Ad DB⟩;obtain⟨g1,g2⟩:=hat k u hu1;obtain⟨t,tl,b1,b2,b3,f0⟩:=zL rfl ws k hc;obtain rfl:t=bs u:=by rw[b1]at g2;exact Option.some.inj g2
  have hnum:=Zpa u (hw u (Ab hu1));refine zk (ze (zn ?_));cases hz:yX u with
  | none =>
   rw[hz]at hnum;simp only[Zc]at hnum
   repeat apply ze
   refine zi [] (zt f0 hc) ?_;refine zu hnum ?_;intros
   (repeat apply ze);refine zg ?_;intros
   repeat apply ze
   refine zo DC ?_
   (repeat apply ze);refine zg ?_;intros
   repeat apply ze
   exact zj (zm hd DD (by rw[Zg6 hu1 hz];rfl))
  | some n =>
   rw[hz]at hnum;simp only[Zc]at hnum;have hnv:yl u=n:=by unfold yl;rw[hz];rfl
   rw[hnv]at g1;have hfl:((zs.take k).flatMap Enc.enc:List PV).length=k:=by rw[je];simp;omega
   have htk:List.take k ((zs.take k).flatMap Enc.enc:List PV)=(zs.take k).flatMap Enc.enc:=Ae (by rw[hfl];exact Af _);have hnx:(zs.take (k+1)).flatMap Enc.enc=(zs.take k).flatMap Enc.enc++[I n]:=by rw[AC,g1,Al];rfl
   have hso':∀w∈l.take (k+1),(yX w).isSome=true:=by
    rw[AC,hu1];intro w hw;rcases AG.1 hw with q | q
    ·exact hso w q
    ·simp at q;subst q;rw[hz];rfl
   repeat apply ze
   refine zi [] (zt f0 hc) ?_;refine zu hnum ?_;intros
   (repeat apply ze);refine zg ?_;intros
   repeat apply ze
   refine zp DC ?_;refine zk ?_
   repeat apply ze
   refine zi [] htk ?_;refine⟨by omega,?_⟩;intros
   (repeat apply ze);refine zg ?_;intros
   exact zv (k+1,w+1) [] ⟨by omega,hso'⟩ DF (by simp[zA k (by omega)]) rfl (by simp only[hnx,AF])
 ·simp at hc;obtain rfl:k=zs.length:=DB
  rw[hzl,Ag]at hso;rw[Ag,hres hso];refine zC (yb 0 rfl ?_)
  (repeat apply ze);refine zg ?_;intros
  repeat apply ze
  exact DL hd
theorem Zqv(w:Wd):(List.range 64).map (λi=>if i<w.length/\w.getD i 0=49 then (1:Int) else 0)=xB (jn w w.length):=by
 unfold xB;refine Bd λi hi=>?_
 have h64:=AH.1 hi;have h1:=VP w i w.length;rw[ZbV]at h1;have h2:=ZdX (jn w w.length) i
 by_cases h:i<w.length/\w.getD i 0=49
 ·rw[if_pos h];have e:(decide (i<w.length/\i<64) && decide (w.getD i 0=49))=true:=by simp only[Ao,decide_eq_true_eq];exact⟨⟨h.1,h64⟩,h.2⟩
  rw[e,decide_eq_true_eq]at h1;rw[h1];rfl
 ·rw[if_neg h];have e:(decide (i<w.length/\i<64) && decide (w.getD i 0=49))=false:=by
   rw[CK]
   by_cases q:i<w.length
   ·exact .inr (decide_eq_false λe=>h ⟨q,e⟩)
   ·exact .inl (decide_eq_false λe=>q e.1)
  rw[e,decide_eq_false_iff_not]at h1;have:qz (jn w w.length) i=0:=DB
  rw[this];rfl
theorem Zqw{n:Nat}(h:n<2 ^ 64):jJ (xB n)=(n:Int):=by
 have h01:∀b∈xB n,b=0\/b=1:=λb hb=>by
  obtain⟨i,-,rfl⟩:=Ar.1 hb;have:=ZdX n i;omega
 have h1:=ZaP _ h01;have h2:=Zgf _ h01;have:(jJ (xB n)).toNat=n:=by
  apply Nat.eq_of_testBit_eq;intro i;rw[h2 i]
  by_cases hi:i<64
  ·have:(xB n)[i]?=some ((qz n i:Nat):Int):=by unfold xB;simp[hi]
   rw[this,ZbV];rw[decide_eq_decide];constructor
   ·intro h;have:=Option.some.inj h;omega
   ·intro h;rw[h];rfl
  ·have:(xB n)[i]?=none:=Ak (by rw[WY];omega);rw[this];rw[Dn (Bq h (Cd DH DB))];simp
 omega
theorem Zqx(l:List Int)(k:Nat)(z:Int):((l.flatMap Enc.enc:List PV)).set k (I z)=(l.set k z).flatMap Enc.enc:=by
 induction l generalizing k with
 | nil=>rfl
 | cons a l ih =>
  cases k with
  | zero=>rfl
  | succ k=>simpa using ih k
def xE(w:Wd)(k:Nat):List Int:=(List.range 64).map λi=>if i<k/\w.getD i 0=49 then (1:Int) else 0
theorem Zqy{w:Wd}{k:Nat}{c:UInt8}(h:w[k]?=some c)(hk:k<64)(hc:c.toNat=48\/c.toNat=49):(xE w k).set k ((c.toNat:Int)-48)=xE w (k+1):=by
 have hg:w.getD k 0=c:=by rw[Aa,h];rfl
 apply Bg
 ·simp[xE]
 ·intro i h1 h2;rw[CN]
  by_cases e:k=i
  ·subst e;rw[if_pos rfl];simp only[xE,Ct,Cx,hg];rcases hc with q | q
   ·rw[if_neg (by rintro⟨-,e⟩;rw[e]at q;exact absurd q (by decide))];omega
   ·have:c=49:=UInt8.toNat_inj.1 q;rw[if_pos ⟨by omega,this⟩];omega
  ·rw[if_neg e];simp only[xE,Ct,Cx];have:(i<k/\w.getD i 0=49)<->(i<k+1/\w.getD i 0=49):=by constructor<;>(rintro⟨a,b⟩;exact⟨by omega,b⟩)
   simp only[this]
theorem Zqz(w:Wd)(hl:w.length<=1048576):Pure prog 117 [T (bs w)] (.tup [U (qm w).1,I (qm w).2]):=by
 by_cases hw0:w=[]
 ·subst hw0;have he:bs []=ByteArray.empty:=rfl;refine zx func117 ntmps117 results117 λS nx hd=>?_
  (repeat apply ze);refine zg ?_;intros
  repeat apply ze
  refine zi [] he ?_;intros
  repeat apply ze
  refine zo DC ?_
  (repeat apply ze);refine zg ?_;intros
  repeat apply ze
  exact DL hd
 have hne:¬w.length=0:=λh=>hw0 (Ap h)
 obtain⟨B,hB⟩:∃B,B=bs w:=⟨_,rfl⟩;have hsz:B.size=w.length:=by rw[hB,j8]
 have hg:∀k,B[k]?=w[k]?:=λk=>by rw[hB];exact XN w k
 rw[<-hB];refine zx func117 ntmps117 results117 λS nx hd=>?_
 (repeat apply ze);refine zg ?_;intros
 repeat apply ze
 refine zi [] hsz ?_;intros
 repeat apply ze
 refine zp (by simp[hw0]) ?_;refine zk ?_
 (repeat apply ze);refine zg ?_;intros
 repeat apply ze
 refine zn (zJ (λk:Nat=>k<=w.length/\∀c∈w.take k,c.toNat=48\/c.toNat=49) (λk=>[(0,T B),(4,I k)]) (λ_=>[]) (λk=>w.length-k) 0 [] DC DC DC ?_);rintro k ⟨hk,ha⟩
 repeat apply ze
 refine zi [] hsz ?_;intros
 repeat apply ze
 refine zz rfl (λhc=>?_) (λhc=>?_)
 ·simp at hc;obtain⟨c,hc1⟩:∃c,w[k]?=some c:=⟨_,Ad hc⟩;have hgk:=(hg k).trans hc1;refine zk (ze (zn ?_))
  by_cases h3:c.toNat=48
  ·have h3':(c.toNat:Int)=48:=DB
   repeat apply ze
   refine zi [(4,20)] (zN hgk h3 h3' zy) ?_;intros
   repeat apply ze
   refine zp (by simp[*]) ?_;refine zk ?_;have ha':∀d∈w.take (k+1),d.toNat=48\/d.toNat=49:=by rw[AC,hc1];intro d hd;rcases AG.1 hd with q | q;exact ha d q;simp at q;subst q;exact .inl h3
   (repeat apply ze);refine zg ?_;intros
   exact zv (k+1) [] ⟨hc,ha'⟩ DB (by simp[zA k (by omega)]) rfl DC
  have h3':¬(c.toNat:Int)=48:=DB
  by_cases h4:c.toNat=49
  ·have h4':(c.toNat:Int)=49:=DB
   repeat apply ze
   refine zi [(4,20)] (yq hgk h3 h3' h4 h4') ?_;intros
   repeat apply ze
   refine zp (by simp[*]) ?_;refine zk ?_;have ha':∀d∈w.take (k+1),d.toNat=48\/d.toNat=49:=by rw[AC,hc1];intro d hd;rcases AG.1 hd with q | q;exact ha d q;simp at q;subst q;exact .inr h4
   (repeat apply ze);refine zg ?_;intros
   exact zv (k+1) [] ⟨hc,ha'⟩ DB (by simp[zA k (by omega)]) rfl DC
  have h4':¬(c.toNat:Int)=49:=DB
  repeat apply ze
  refine zi [(4,20)] (yq hgk h3 h3' h4 h4') ?_;intros
  repeat apply ze
  refine zo (by simp[*]) ?_
  (repeat apply ze);refine zg ?_;intros
  have hsp:qm w=(0,2):=by
   have:ju w=false:=by
    unfold ju;rw[CK];exact .inr (Bh.2 ⟨c,Ab hc1,by simp;omega⟩)
   unfold qm;rw[if_neg (by rw[this];simp)]
  repeat apply ze
  exact zj (zm hd DD (by rw[hsp];rfl))
 ·simp at hc;obtain rfl:k=w.length:=DB
  rw[Ag]at ha;have hsb:ju w=true:=by
   unfold ju;simp only[Ao,decide_eq_true_eq,Az];exact⟨hw0,λc hc=>by simpa using ha c hc⟩
  refine zC ?_
  by_cases h64:64<w.length
  ·have hsp:qm w=(0,3):=by unfold qm;rw[if_pos hsb,if_pos h64]
   repeat apply ze
   refine zi [] (zt hsz h64) ?_;intros
   repeat apply ze
   refine zo (by simp[*];try omega) ?_
   (repeat apply ze);refine zg ?_;intros
   repeat apply ze
   exact zj (zm hd DD (by rw[hsp];rfl))
  ·have hsp:qm w=(jn w w.length,0):=by unfold qm;rw[if_pos hsb,if_neg h64]
   have hnu:=Zj1 (xE w w.length) (by simp[xE]) (λb hb=>by
    obtain⟨i,-,rfl⟩:=Ar.1 hb;split<;>simp)
   have hnv:jJ (xE w w.length)=(jn w w.length:Int):=by
    show jJ ((List.range 64).map _)=_
    rw[Zqv];exact Zqw (XX w _)
   rw[hnv]at hnu;rw[hsp];generalize jn w w.length=st at *
   repeat apply ze
   refine zi [] (zt hsz h64) ?_;intros
   repeat apply ze
   refine zp (by simp[*];try omega) ?_;refine zk ?_
   repeat apply ze
   refine zg ?_;intro v0
   (repeat apply ze);refine zg ?_;intros
   repeat apply ze
   refine zn (zJ (λk:Nat=>k<=w.length) (λk=>[(0,T B),(5,.sl nx v0 1 0 64),(6,I k)]) (λk=>[.cells v0 3 ((xE w k).flatMap Enc.enc)]) (λk=>w.length-k) 0 [] DC DC (by simp[xE,yR];try rfl) ?_);rintro k hk2
   repeat apply ze
   refine zi [] hsz ?_;intros
   repeat apply ze
   refine zz rfl (λhc=>?_) (λhc=>?_)
   ·simp at hc;obtain⟨c,hc1⟩:∃c,w[k]?=some c:=⟨_,Ad hc⟩;have hgk:=(hg k).trans hc1;have hcd:=ha c (Ab hc1);have hset:=Zqy hc1 DB hcd;have hk64:k<64:=DB
    have w2:IntKind.u8.wrap ((c.toNat:Int)-48)=(c.toNat:Int)-48:=by
     have e:IntKind.u8.wrap ((c.toNat:Int)-48)=((c.toNat:Int)-48) % 256:=by simp[IntKind.wrap,IntKind.bits,IntKind.signed]
     rw[e];omega
    have w3:W ((c.toNat:Int)-48)=(c.toNat:Int)-48:=by simp only[W,Ay];omega
    have hsl:((xE w k).flatMap Enc.enc:List PV).length=64:=by rw[je];simp[xE]
    have hst:yd ((xE w k).flatMap Enc.enc:List PV) k [I ((c.toNat:Int)-48)]=(xE w (k+1)).flatMap Enc.enc:=by
     rw[<-hset,<-Zqx];unfold yd;rw[Ax,if_pos (by rw[hsl];exact hk64)];simp
    refine zk (ze (zn ?_));have hk64':(k:Int)<64:=DB
    have hk1:k+1<=64:=hk64
    repeat apply ze
    refine zi [] (zS hgk w2 w3 hk64 hk64' (zt hsl hst)) ?_;refine⟨by simp[xE];omega,?_⟩;intros
    (repeat apply ze);refine zg ?_;intros
    exact zv (k+1) [] hc DB (by simp[zA k (by omega)]) rfl rfl
   ·simp at hc;obtain rfl:k=w.length:=DB
    refine zC (yb 0 rfl ?_);have hLL:PV.lst 64 ((xE w w.length).flatMap Enc.enc)=L (xE w w.length):=by show _=PV.lst (xE w w.length).length _;simp[xE]
    rw[<-hLL]at hnu
    repeat apply ze
    refine zg ?_;refine zu hnu ?_;intros
    repeat apply ze
    exact DL hd
open Go Go.Proofs Go.RowKit Go.Shelf
theorem ZqA(b n:Nat)(c:Array Value)(w:World)(hbk:w.heap[b]?=some (.cells c 113 (0,0)))(h1:c[1]?=some (.slice none 0 0))(hn:n<=281474976710656):
  Calls prog 188 #[.pointer (some ⟨b,0,none⟩),.int .i64 n] w λe w'=>e=.returned (.tuple #[])/\∃cs:Array Value,(n<=maxLen->cs.size<=maxLen)/\w'=((w.alloc (.cells cs 5)).setCell ⟨b,1,none⟩ (.slice (some ⟨w.heap.size,0,none⟩) 0 cs.size)).drew.drew.drew:=by
 obtain⟨cs,hrun,hle,hmax⟩:=Lib.run_makeNoZero (P:=prog) w.drew #[3] 111 5 underlying111 n hn;have hw:IntKind.i64.wrap (n:Int)=n:=by
  rw[Ay];omega
 have hcall:(callFunc 221 #[.int .i64 (IntKind.i64.wrap (n:Int))]).run prog w.drew=.ok (.value (.slice (some ⟨w.drew.heap.size,0,none⟩) n cs.size)) (w.drew.drew.drew.alloc (.cells cs 5)):=by
  rw[hw,run_callFunc_extern func221 DE DE DE (e:=Extern.BytealgMakeNoZero.makeNoZero #[3] #[111]) DE,hrun];rfl
 have hlt:b<w.heap.size:=qn hbk;have c1:w.drew.cell? ⟨b,1,none⟩=some (.slice none 0 0):=by
  have:w.drew.heap[b]?=some (.cells c 113 (0,0)):=hbk;rw[Lib.cell_of_heap this];exact h1
 have c2:(w.alloc (.cells cs 5)).cell? ⟨b,1,none⟩=some (.slice none 0 0):=by
  rw[Lib.cell_of_heap ((Lib.alloc_old w _ b hlt).trans hbk)];exact h1
 have f2:(w.alloc (.cells cs 5)).frozen? ⟨b,1,none⟩=false:=Lib.frozen_of_heap ((Lib.alloc_old w _ b hlt).trans hbk) 1;have hcopy:∀W:World,(Builtin.copy_ #[111,111] 3 #[.slice (some ⟨w.heap.size,0,none⟩) 0 cs.size,.slice none 0 0]).run prog W=.ok (goInt 0) W :=
  λW=>run_copy_none W 111 111 3 5 _ _ 0 cs.size 0 0 underlying111 DE rfl
 clear hw hlt
 go_enter func188,ntmps188
 go_wp2
 go_region
 all_goals (go_wp2;go_end0;exact⟨rfl,cs,hmax,rfl⟩)
theorem ZqB{S:Store}{id v nx:Nat}{p:PV}(n:Nat)(hn:n<=140737488355328)(hS:S id=.cells v 113 [p,.sc (.slice none 0 0)])(hd:S nx=.dead):
  Spec prog 188 [.ptr id v 0,I n] S (λ_ S'=>∃w0,S'=(S.set nx (.cells w0 5 [])).set id (.cells v 113 [p,.sl nx w0 1 0 0])):=by
 refine⟨qb func188 DG rfl,?_⟩;intro C w vs hC hl hr;obtain⟨u,u2,rfl⟩:=Zhc hl;have hu:=hr 0 _ u rfl rfl;have hu2:=hr 1 _ u2 rfl rfl;cases hu2;cases hu with
 | ptr h1 h2 h3 =>
  obtain⟨b,k,hloc,rfl⟩:=(h3 v (by rw[hS];rfl)).2 rfl;obtain⟨b',k',c,c0,c1,g1,g2,g3,g4,e0,e1,r0,r1,g5⟩:=Zcx hC hS;rw[hloc]at g1;cases g1;cases r1;refine(ZqA b n c w g2 e1 DB).mono ?_;rintro e w' ⟨rfl,cs,hmax,rfl⟩;have hlt:b<w.heap.size:=qn g2;have hne:id≠nx:=by rintro rfl;rw[hS]at hd;cases hd
  obtain⟨a1,a2⟩:=hC.object' (o:=nx) (ver:=C.clock) ⟨hd,.inr (Af _)⟩ 5 cs [] (Ca _) (λi u hi=>absurd hi (Nat.not_lt_zero _)) (λi q u hq=>by simp at hq);have hS1:(S.set nx (.cells C.clock 5 [])) id=.cells v 113 [p,.sc (.slice none 0 0)]:=(q10 _ _ _ _ hne).trans hS;have hloc1:(C.put nx C.clock (some (w.heap.size,cs.size))).loc id=some (b,k):=by simp[Ctx.put,hne,hloc]
  have hg2:(w.alloc (.cells cs 5)).heap[b]?=some (.cells c 113 (0,0)):=(uA w _ b hlt).trans g2;have hsl:Rel (C.put nx C.clock (some (w.heap.size,cs.size))) (S.set nx (.cells C.clock 5 [])) (w.alloc (.cells cs 5)) (.sl nx C.clock 1 0 0) (.slice (some ⟨w.heap.size,0,none⟩) 0 cs.size):=by
   refine .sl ⟨_,_,rfl,Ca _,Ca _,hmax (by unfold maxLen;omega),λh=>absurd rfl h⟩ ⟨by simp only[Ctx.put];omega,by simp only[Ctx.put];omega⟩ λv0 hv0=>?_
   rw[q11]at hv0;cases hv0;exact⟨Af _,λ_=>.inr ⟨w.heap.size,cs.size,_,_,by simp[Ctx.put],rfl,λ_=>⟨rfl,B4 _⟩,λ_=>rfl⟩⟩
  have hh:((w.alloc (.cells cs 5)).setCell ⟨b,1,none⟩ (.slice (some ⟨w.heap.size,0,none⟩) 0 cs.size)).heap[b]?=some (.cells (c.setIfInBounds 1 (.slice (some ⟨w.heap.size,0,none⟩) 0 cs.size)) 113 (0,0)):=by
   simp only[World.setCell,Br,if_true,hg2,A5];rfl
  obtain⟨t1,t2⟩:=a1.turn (l:=(C.put nx C.clock (some (w.heap.size,cs.size))).loc id) (ver':=v) (cs':=[p,.sl nx C.clock 1 0 0]) hS1 (Af _) (λ_=>rfl) (w':=(w.alloc (.cells cs 5)).setCell ⟨b,1,none⟩ (.slice (some ⟨w.heap.size,0,none⟩) 0 cs.size))
   (by rw[hloc1];exact⟨⟨rfl,rfl,rfl,by simp[World.setCell],λj _ hj=>by
      show ((w.alloc (.cells cs 5)).heap.modify b _)[j]?=_
      rw[Br,if_neg (λe=>hj (by rw[<-e];rfl))]⟩,Af _⟩)
   (.inr ⟨b,k,_,hloc1,.inr (by rw[hloc1];rfl),hh,by simp[g3],g4,λi u hi hu=>by
     match i,hi with
     | 0,_=>rw[CH DB]at hu;exact g5 0 u DB hu
     | 1,_=>rw[BS DB]at hu;cases hu;rfl,
    λi q u hq hu=>by
     match i,hq with
     | 0,hq=>cases hq;rw[CH DB,e0]at hu;cases hu;exact r0.mono a2
     | 1,hq=>cases hq;rw[BS DB]at hu;cases hu;exact hsl⟩)
  obtain⟨d1,d2⟩:=t1.drew;obtain⟨d3,d4⟩:=d1.drew;obtain⟨d5,d6⟩:=d3.drew;exact⟨.junk,_,_,_,rfl,⟨_,rfl⟩,.junk _,d5,(((a2.trans t2).trans d2).trans d4).trans d6⟩
theorem ZqC{P:Program}{r:Rd}{n:Nat}{F:Nat->PV}{S:Store}{o:Oper}{x:Operand}{t e:TypeId}{K:PV->Store->Prop}(ho:o.op=.call { callee:=.builtin .cap,args:=#[x],argTypes:=#[t] })(ht:P.underlying t=some (.slice e))(hx:ev F x=.sc (.slice none 0 0))(hK:K (I 0) S):PO P r n o F S K:=by
 intro G hG C w a N st next Q' hnext;have e1:=st.ev x;rw[(hG x (by simp[ho,Op.operands,Call.operands])).trans hx]at e1;have hnd:∀c,o.op≠.defer c:=by intro c hc;rw[ho]at hc;cases hc
 generalize hv:a.eval x=v at e1;cases e1;have hrun:(execOp a.eval o).run P w=.ok (.value (.int .i64 0)) w:=by
  unfold execOp;simp[ho,resolve,invoke,builtin,hv,Builtin.cap_,goInt,run_underlying ht]
 exact qf hnd hrun (hnext _ _ _ _ _ hK (.sc _) st.sim (Step.refl _ _ _))
open Go Go.Proofs
theorem qC{S:Store}{nx id:Nat}{o:Ob}(hd:zX nx S)(h:S id=o)(hne:o≠.dead):id<nx:=by
 rcases Be id nx with q | q
 ·exact q
 ·rw[hd id q]at h;exact absurd h.symm hne
theorem qw{S:Store}{nx id:Nat}(hd:zX nx S)(hlt:id<nx)(o:Ob):zX nx (S.set id o):=λi hi=>by rw[q10 _ _ _ _ DB];exact hd i hi
theorem ZqD(l:List UInt8):((bs l).data.toList.map λb=>(.sc (.int .u8 (b.toNat:Int)):PV))=l.map U8:=rfl
abbrev JY(id v ib w n:Nat):List PV:=[.ptr id v 0,.sl ib w 1 0 n]
theorem ZqE{S:Store}{id v ib w0:Nat}{p:PV}(l m:List UInt8)(hS:S id=.cells v 113 [p,.sl ib w0 1 0 l.length])(hp:p=.sc (.pointer none)\/p=.ptr id v 0)(hB:S ib=.cells w0 5 (l.map U8))(hlen:l.length+m.length<=140737488355328):
  Spec prog 61 [.ptr id v 0,T (bs m)] S (λq S'=>q=.tup [I m.length,.sc .nilIface]/\S'=(S.set ib (.cells (w0+1) 5 ((l++m).map U8))).set id (.cells v 113 (JY id v ib (w0+1) (l++m).length))):=by
 have hne:id≠ib:=by rintro rfl;rw[hS]at hB;cases hB
 have hsz:=j8 m;have hcc:=λS (h:S id=_)=>Zhd (S:=S) (id:=id) (v:=v) (p:=p) (s:=.sl ib w0 1 0 l.length) h hp
 refine yi func61 ntmps61 results61 λnx hd=>?_
 have hlt:id<nx:=qC hd hS DC;have hlt2:ib<nx:=qC hd hB DC;refine DK ?_;refine DK ?_;refine λhsuf=>((hcc _ ((zE hlt).trans hS)).mono ?_).v
 rintro _ _ rfl;refine⟨_,_,yZ _ hlt,zQ hsuf ?_⟩;obtain⟨A,hA⟩:∃A,A=Ob.cells v 113 [.ptr id v 0,.sl ib w0 1 0 l.length]:=⟨_,rfl⟩;have x1:∀obs,ext (S.set id A) nx obs id=.cells v 113 [.ptr id v 0,.sl ib w0 1 0 l.length]:=λobs=>by rw[zE hlt,q11,hA]
 have x2:∀obs,ext (S.set id A) nx obs ib=.cells w0 5 (l.map U8):=λobs=>(zE hlt2).trans ((q10 _ _ _ _ (Ne.symm hne)).trans hB)
 have x3:∀B obs,ext ((S.set id A).set ib B) nx obs id=.cells v 113 [.ptr id v 0,.sl ib w0 1 0 l.length]:=λB obs=>by rw[zE hlt,q10 _ _ _ _ hne,q11,hA]
 rw[<-hA];have g1:¬nx<=id:=DB
 have g2:¬nx<=ib:=DB
 have g3:m.length<=9223372036854775807:=DB
 have htk:(l.map U8).take l.length=l.map U8:=Ae DC;refine ze (zi [] (zS x1 x2 x3 hsz g1 (zF g2 g3 ZqD)) ?_);refine⟨by omega,?_⟩;refine ze (zi [] hsz ?_);have hfin:((S.set id A).set ib (.cells (w0+1) 5 (l.map U8++m.map U8))).set id (.cells v 113 [.ptr id v 0,.sl ib (w0+1) 1 0 (l.length+m.length)])=(S.set ib (.cells (w0+1) 5 ((l++m).map U8))).set id (.cells v 113 (JY id v ib (w0+1) (l++m).length)):=by
  rw[List.map_append,Aq,<-Store.set_comm S ib id _ _ (hne),Store.set_set]
 refine zj ⟨_,_,by simp;rfl,⟨by simp[zq],by rw[htk];exact hfin⟩,zU ?_⟩;exact qw (qw (qw hd hlt _) hlt2 _) hlt _
theorem ZqF{S:Store}{id v nx:Nat}(n:Nat)(h0:0<n)(hn:n<=140737488355328)(hS:S id=.cells v 113 [.sc (.pointer none),.sc (.slice none 0 0)])(hd:zX nx S):
  Spec prog 133 [.ptr id v 0,I n] S (λ_ S'=>∃w0,S'=(S.set nx (.cells w0 5 [])).set id (.cells v 113 (JY id v nx w0 0))):=by
 have hlt:id<nx:=qC hd hS DC;have hcc:=λS (h:S id=_)=>Zhd (S:=S) (id:=id) (v:=v) (p:=.sc (.pointer none)) (s:=.sc (.slice none 0 0)) h (.inl rfl)
 refine uE hd func133 ntmps133 results133 ?_;refine DK ?_;refine λhsuf=>((hcc _ ((zE hlt).trans hS)).mono ?_).v
 rintro _ _ rfl;refine⟨_,_,yZ _ hlt,zQ hsuf ?_⟩;obtain⟨A,hA⟩:∃A,A=Ob.cells v 113 [.ptr id v 0,.sc (.slice none 0 0)]:=⟨_,rfl⟩;have x1:∀obs,ext (S.set id A) nx obs id=.cells v 113 [.ptr id v 0,.sc (.slice none 0 0)]:=λobs=>by rw[zE hlt,q11,hA]
 rw[<-hA];have g1:¬nx<=id:=DB
 repeat apply ze
 refine zg ?_;refine zp DC ?_;refine zk ?_;have hgr:=λS (h:S id=_) (hd:S nx=.dead)=>ZqB (S:=S) (id:=id) (v:=v) (nx:=nx) (p:=.ptr id v 0) n hn h hd
 refine ze (zB (some [id]) (Row.pures [0,1,2,3,5,6,7,8,9,11] (.alt 4 (Row.pures [10,12] .done) .stop)) mixed (zt x1 g1) ?_);refine⟨by rfl,(ZqC rfl underlying111 DC ?_)⟩;refine⟨by simp[yH],jp trivial ?_⟩;refine zo DF ?_;refine zg ?_;refine λhsuf=>((hgr _ (x1 []) (uC (nx:=nx) (obs:=[]))).mono ?_).v
 rintro _ _ ⟨w0,rfl⟩;have hne:id≠nx:=DB
 have e1:((ext (S.set id A) nx []).set nx (.cells w0 5 [])).set id (.cells v 113 [.ptr id v 0,.sl nx w0 1 0 0])=ext (S.set id (.cells v 113 [.ptr id v 0,.sl nx w0 1 0 0])) nx [.cells w0 5 []]:=by
  have:=qU (S:=S.set id A) (nx:=nx) (obs:=[]) (.cells w0 5 []);simp only[A6,Bs,AM]at this;rw[this,yZ _ hlt,Store.set_set]
 refine⟨_,_,e1,zQ hsuf ?_⟩;have e2:(S.set nx (.cells w0 5 [])).set id (.cells v 113 (JY id v nx w0 0))=ext (S.set id (.cells v 113 [.ptr id v 0,.sl nx w0 1 0 0])) nx [.cells w0 5 []]:=by
  have:=qU (S:=S) (nx:=nx) (obs:=[]) (.cells w0 5 []);simp only[A6,Bs,AM,qy hd]at this;rw[this,yZ _ hlt]
 exact⟨_,_,rfl,⟨w0,e2.symm⟩,λo=>.inl rfl⟩
theorem VR:∀ws:List (List UInt8),(jm ws).length=(ws.map List.length).sum+(ws.length-1)
 | []=>rfl
 | [w]=>by simp[jm]
 | w :: v :: ws=>by
  have:=VR (v :: ws);rw[Zb5,Aq,Au,this];simp only[AD,Ck,Au];omega
theorem Zhe(l:List Nat)(k:Nat):(l.take k).sum<=l.sum:=by
 conv=>rhs;rw[<-List.take_append_drop k l]
 rw[List.sum_append];omega
def Zh(ws:List (List UInt8))(k:Nat):Nat:=((ws.take k).map List.length).sum
theorem Zhf(ws:List (List UInt8))(k:Nat):Zh ws k<=(ws.map List.length).sum:=by unfold Zh;rw[List.map_take];exact Zhe _ k
theorem ZqG{ws:List (List UInt8)}{k:Nat}{u:List UInt8}(h:ws[k]?=some u):Zh ws (k+1)=Zh ws k+u.length:=by unfold Zh;rw[AC,h];simp
theorem wr2{S:Store}{nx:Nat}{A B A2 B2:Ob}:((ext S nx [A,B]).set (nx+1) B2).set nx A2=ext S nx [A2,B2]:=by
 rw[yh _ DB DC,yh _ DB DC];simp
theorem Zcz:∀(w:List UInt8) (rs:List (List UInt8)),jm (w :: rs)=w++(rs.map λu=>32 :: u).flatten
 | w,[]=>by simp[jm]
 | w,v :: rs=>by rw[Zb5,Zcz v rs];simp
def vy(w0:List UInt8)(rs:List (List UInt8))(k:Nat):List UInt8:=w0++((rs.take k).map λu=>32 :: u).flatten
theorem ZqH(w0:List UInt8)(rs:List (List UInt8)):vy w0 rs 0=w0:=by simp[vy]
theorem ZqI{w0:List UInt8}{rs:List (List UInt8)}{k:Nat}{u:List UInt8}(h:rs[k]?=some u):vy w0 rs (k+1)=(vy w0 rs k++[32])++u:=by unfold vy;rw[AC,h];simp
theorem ZqJ(w0:List UInt8)(rs:List (List UInt8)):vy w0 rs rs.length=jm (w0 :: rs):=by unfold vy;rw[Ag,Zcz]
theorem ZqK(w0:List UInt8)(rs:List (List UInt8))(k:Nat):(vy w0 rs k).length<=(jm (w0 :: rs)).length:=by
 rw[Zcz];unfold vy;simp;exact Zhe _ k
theorem ZqL(ws:List (List UInt8))(hl:ws.length<=1048576)(hw:(jm ws).length<=140737488355328):Pure prog 97 [L (ws.map bs),T (bs [32])] (T (bs (jm ws))):=by
 match ws,hl,hw with
 | [],_,_ =>
  refine zx func97 ntmps97 results97 λS nx hd=>?_
  refine DK ?_
  repeat apply ze
  refine zg ?_;refine zn (DK ?_);refine zo DC ?_;refine DK ?_;exact DL hd
 | [w],_,_ =>
  refine zx func97 ntmps97 results97 λS nx hd=>?_
  refine DK ?_
  repeat apply ze
  refine zg ?_;refine zn (DK ?_);refine zp DC ?_;refine DK ?_;refine zo DC ?_;refine DK ?_;exact DL hd
 | w0 :: v0 :: r0,hl,hw =>
 obtain⟨rs,hrs⟩:∃rs,rs=v0 :: r0:=⟨_,rfl⟩;obtain⟨ws,hws⟩:∃ws,ws=w0 :: rs:=⟨_,rfl⟩;obtain⟨mm,hm⟩:∃mm,ws.length=mm+1:=⟨rs.length,by rw[hws];rfl⟩;have hmm:1<=mm:=by rw[hws,hrs]at hm;simp at hm;omega
 have hrm:rs.length=mm:=by rw[hws]at hm;simpa using hm
 rw[<-hrs,<-hws]at hl hw ⊢;have hjl:=VR ws;rw[hm]at hl hjl;have hs1:(bs [32]).size=1:=rfl;have w1:IntKind.i64.wrap ((ws.length:Int)-1)=(mm:Int):=by rw[Ay];omega
 have q0:¬(mm:Int)=0:=DB
 have q0n:¬mm=0:=DB
 have q1:¬IntKind.i64.wrap ((9223372036854775807:Int).tdiv mm)<=1:=by
  rw[CX DB];have h1:(9223372036854775807:Int) / mm<=9223372036854775807:=Int.ediv_le_self _ DB;have h2:2<=(9223372036854775807:Int) / mm:=(Int.le_ediv_iff_mul_le DB).2 DB;rw[Ay];omega
 have w2:IntKind.i64.wrap (mm:Int)=mm:=wr _ DB DB;have hnil:¬ws=[]:=by intro h;rw[h]at hm;simp at hm
 clear hrs;refine zx func97 ntmps97 results97 λS nx hd=>?_
 refine DK ?_
 repeat apply ze
 refine zg ?_;refine zn (DK ?_);refine zp (by simp[hnil]) ?_;refine DK ?_;refine zp DF ?_;refine zk (DK ?_)
 repeat apply ze
 refine zi [] hs1 ?_;refine zo DC ?_
 repeat apply ze
 refine zi [] (yq hs1 w1 q0 q0n q1) ?_;refine zp DC ?_;refine zk (zi [] (zF hs1 w1 w2) ?_)
 repeat apply ze
 refine zg ?_;refine zn (zJ (λk:Nat=>k<=ws.length) (λk=>[(0,L (ws.map bs)),(1,T (bs [32])),(5,I ((mm+Zh ws k:Nat):Int)),(39,L (ws.map bs)),(40,I ws.length),(41,I k)]) (λ_=>[]) (λk=>ws.length-k) 0 [] DC (by simp[Zh]) DC ?_)
 ·rintro k hk;have hsk:=Zhf ws k;refine DK ?_;refine ze (zz rfl (λhc=>?_) (λhc=>?_))
  ·simp at hc;obtain⟨t,tl,b1,b2,b3,f0⟩:=zL rfl (ws.map bs) k (by simpa using hc);obtain⟨u,hu,rfl⟩:∃u,ws[k]?=some u/\bs u=t:=by rw[Ah]at b1;simpa using b1
   have hsk1:=Zhf ws (k+1);have hsum:=ZqG hu;have husz:=j8 u;rw[hsum]at hsk1;generalize Zh ws k=c0 at *;have hkl:k<ws.length:=by simpa using hc
   have hbd:mm+c0+u.length<=140737488355328:=DB
   have v1:IntKind.i64.wrap (9223372036854775807-((mm:Int)+c0))=9223372036854775807-((mm:Int)+c0):=by rw[Ay];omega
   have v2:¬(9223372036854775807-((mm:Int)+c0))<u.length:=DB
   have v3:IntKind.i64.wrap ((mm:Int)+c0+u.length)=(mm:Int)+c0+u.length:=by rw[Ay];omega
   refine zk (ze (zn (ze (zi [] (zt f0 hkl) ?_))))
   repeat apply ze
   refine zi [] (zF husz v1 v2) ?_;refine zp DC ?_;refine zk (zi [] (zt husz v3) ?_);refine zg ?_;exact zv (k+1) [] hkl DB (by simp[zA k (by omega),hsum];try omega) rfl DC
  ·simp at hc;obtain rfl:k=ws.length:=DB
   refine zC ?_;have hls:Zh ws ws.length=(ws.map List.length).sum:=by unfold Zh;rw[Ag]
   obtain⟨c,hcd⟩:∃c,c=mm+(ws.map List.length).sum:=⟨_,rfl⟩;have hci:((mm:Int)+(Zh ws ws.length:Int))=(c:Int):=by rw[hls,hcd];rfl
   have hc0:0<c:=DB
   have hcn:c<=140737488355328:=DB
   have hgs:=λ(v:Nat) S (h:S nx=.cells v 113 [.sc (.pointer none),.sc (.slice none 0 0)]) (hd:zX (nx+1) S)=>ZqF (S:=S) (id:=nx) (v:=v) (nx:=nx+1) c hc0 hcn h hd
   refine ze (zi [] hci ?_);intros;rename_i v;have g1:¬nx+1<=nx:=DB
   have hdd:∀A,zX (nx+1) (ext S nx [A]):=λA=>jU (obs:=[A])
   refine DK ?_;refine λhsuf=>((hgs v _ (by rw[Zu];rfl) (hdd _)).mono ?_).v
   rintro _ _ ⟨wx,rfl⟩;have e1:∀A B A',((ext S nx [A]).set (nx+1) B).set nx A'=ext S nx [A',B]:=λA B A'=>by
    have:=qU (S:=S) (nx:=nx) (obs:=[A]) B;simp only[By,CL]at this;rw[this,yh _ DB DC];simp
   refine⟨_,_,e1 _ _ _,zQ hsuf ?_⟩;obtain⟨t,tl,b1,b2,b3,f0⟩:=zL rfl (ws.map bs) 0 DF;obtain rfl:bs w0=t:=by rw[hws]at b1;simpa using b1
   have hwl:0<ws.length:=DB
   have hwa:∀(S:Store) (wx:Nat) (l m:List UInt8),(jm ws).length<=140737488355328->l.length+m.length<=(jm ws).length->S nx=.cells v 113 (JY nx v (nx+1) wx l.length)->S (nx+1)=.cells wx 5 (l.map U8)->_:=λS wx l m hw hl h1 h2=>ZqE (S:=S) (id:=nx) (v:=v) (ib:=nx+1) (w0:=wx) l m h1 (.inr rfl) h2 DB
   have hcl:∀k,(vy w0 rs k).length<=(jm ws).length:=λk=>by rw[hws];exact ZqK w0 rs k
   have hc0':=ZqH w0 rs;have hcl0:=hcl 0;rw[hc0']at hcl0;refine ze (zi [] (zt f0 hwl) ?_);refine λhsuf=>((hwa _ wx [] w0 hw (by simpa using hcl0) (by rw[Zu];rfl) (by rw[z7];rfl)).mono ?_).v
   rintro _ _ ⟨rfl,rfl⟩;refine⟨_,_,wr2,zQ hsuf ?_⟩;have hwl1:1<=ws.length:=hwl;have ht1:ws.length-1=rs.length:=by rw[hws];rfl
   have htl:List.take rs.length (List.flatMap Enc.enc (ws.map bs)).tail=(rs.map bs).flatMap Enc.enc:=by
    have:(List.flatMap Enc.enc (ws.map bs)).tail=(rs.map bs).flatMap Enc.enc:=by rw[hws];rfl
    rw[this];exact Ae (by rw[qO];simp[Enc.sz])
   have hlr:(PV.lst rs.length ((rs.map bs).flatMap Enc.enc))=L (rs.map bs):=by unfold L;rw[List.length_map]
   repeat apply ze
   refine zi [] (zF hwl1 ht1 htl) ?_;rw[<-hc0'];refine zn (zJ (λk:Nat=>k<=rs.length) (λk=>[(1,T (bs [32])),(8,.ptr nx v 0),(63,L (rs.map bs)),(64,I rs.length),(65,I k)]) (λk=>[.cells v 113 (JY nx v (nx+1) (wx+1+2*k) (vy w0 rs k).length),.cells (wx+1+2*k) 5 ((vy w0 rs k).map U8)]) (λk=>rs.length-k) 0 [] DC (by simp[hlr]) DC ?_);rintro k hk;refine DK ?_;refine ze (zz rfl (λhc=>?_) (λhc=>?_))
   ·simp at hc;obtain⟨t,tl,b1,b2,b3,f0⟩:=zL rfl (rs.map bs) k (by simpa using hc);obtain⟨u,hu,rfl⟩:∃u,rs[k]?=some u/\bs u=t:=by rw[Ah]at b1;simpa using b1
    have hkl:k<rs.length:=by simpa using hc
    have hcs:=ZqI (w0:=w0) hu;have hk1:=hcl (k+1);rw[hcs]at hk1;simp only[Aq,By]at hk1;refine zk (ze (zn (ze (zi [] (zt f0 hkl) ?_))));refine DK ?_;refine λhsuf=>((hwa _ _ (vy w0 rs k) [32] hw DF (by rw[Zu];rfl) (by rw[z7];rfl)).mono ?_).v
    rintro _ _ ⟨rfl,rfl⟩;obtain⟨mid,hmid⟩:∃mid,mid=vy w0 rs k++[32]:=⟨_,rfl⟩;rw[<-hmid]at hcs ⊢;have hml:mid.length=(vy w0 rs k).length+1:=by rw[hmid];simp
    refine⟨_,_,wr2,zQ hsuf ?_⟩;refine zg ?_;refine λhsuf=>((hwa _ _ mid u hw (by rw[hml];omega) (by rw[Zu];rfl) (by rw[z7];rfl)).mono ?_).v
    rintro _ _ ⟨rfl,rfl⟩;rw[<-hcs];refine⟨_,_,wr2,zQ hsuf ?_⟩;refine zg ?_;exact zv (k+1) [] hkl DB (by simp[zA k (by omega)];try omega) rfl (by simp only[show wx+1+2*(k+1)=wx+1+2*k+1+1 by omega,AF])
   ·simp at hc;obtain rfl:k=rs.length:=DB
    refine zC ?_;rw[ZqJ,<-hws];have hne0:jm ws≠[]:=by intro h;rw[h]at hjl;simp only[A6]at hjl;omega
    refine DK ?_;refine λhsuf=>((Zqp (id:=nx) (v:=v) (ib:=nx+1) (w0:=wx+1+2*rs.length) (p:=.ptr nx v 0) (jm ws) (by rw[Zu];rfl) (by rw[z7];rfl) hne0 hw).mono ?_).v
    rintro _ _ ⟨rfl,rfl⟩;rw[yh _ DB DC];refine⟨_,_,rfl,zQ hsuf ?_⟩;exact DL hd
theorem ZqM(ws:List (List UInt8))(hl:ws.length<=1048576)(hw:(jm ws).length<=1048576):Pure prog 59 [L (ws.map bs)] (T (bs (jm ws++[10]))):=by
 have hj:=ZqL ws hl DB;have hs:=Zo1 (jm ws) [10] (by simp only[By];omega);refine zx func59 ntmps59 results59 λS nx hd=>?_
 refine DK ?_;refine DK ?_;refine qP [] hj hs ?_;exact DL hd
open Go Go.Proofs
theorem Qf{a b:List UInt8}:bs a=bs b<->a=b:=by
 constructor
 ·intro h;have:=congrArg (λx:ByteArray=>x.data.toList) h;exact this
 ·rintro rfl;rfl
theorem JZ(ws:Ln)(k:Nat)(h:k<ws.length):∃u tl,ws[k]?=some u/\List.drop k ((ws.map bs).flatMap Enc.enc)=Enc.enc (bs u)++tl:=by
 obtain⟨t,tl,b1,b2,b3,f0⟩:=zL rfl (ws.map bs) k (by simpa using h);obtain⟨u,hu,rfl⟩:∃u,ws[k]?=some u/\bs u=t:=by rw[Ah]at b1;simpa using b1
 exact⟨u,tl,hu,f0⟩
theorem Zhg(a b:Ln)(ha:a.length<=1048576)(hb:b.length<=1048576):Pure prog 139 [L (a.map bs),L (b.map bs)] (B (decide (a=b))):=by
 refine zx func139 ntmps139 results139 λS nx hd=>?_
 refine DK ?_
 by_cases hl:a.length=b.length
 ·repeat apply ze
  refine zi [] hl ?_;refine zp (by simp[hl]) ?_;refine zk ?_
  repeat apply ze
  refine zg ?_;refine zn (zJ (λk:Nat=>k<=a.length/\a.take k=b.take k) (λk=>[(0,L (a.map bs)),(1,L (b.map bs)),(12,I a.length),(13,I k)]) (λ_=>[]) (λk=>a.length-k) 0 [] DC (by simp[hl]) DC ?_);rintro k ⟨hk,he⟩;refine DK ?_;refine ze (zz rfl (λhc=>?_) (λhc=>?_))
  ·simp at hc;obtain⟨u,tl,hu,f0⟩:=JZ a k hc;obtain⟨v,tl2,hv,f1⟩:=JZ b k DB;have hkb:k<b.length:=DB
   refine zk (ze (zn (DK ?_)))
   by_cases huv:u=v
   ·subst huv;refine ze (zB none (Row.pures [0,1,2,3,4,5,6,7,8] .done) mixed (yq f0 f1 hc hkb vx) ?_);refine zp DC ?_;refine zk (zg ?_);exact zv (k+1) [] ⟨hc,by rw[AC,AC,hu,hv,he]⟩ DB (by simp[zA k (by omega)]) rfl DC
   ·have hne:=VQ (λh=>huv (Qf.1 h):bs u≠bs v);refine ze (zB none (Row.pures [0,1,2,3,4,5,6,7,8] .done) mixed (yq f0 f1 hc hkb hne) ?_);refine zo DC ?_;refine DK ?_;have hab:¬a=b:=by rintro rfl;rw[hu]at hv;exact huv (Option.some.inj hv)
    exact zj (zm hd DD (by simp[hab,zq]))
  ·simp at hc;obtain rfl:k=a.length:=DB
   rw[Ag,hl,Ag]at he;subst he;refine zC (DK ?_);exact zj (zm hd DD DC)
 ·repeat apply ze
  refine zg ?_;refine zo DF ?_;refine DK ?_;have hab:¬a=b:=by rintro rfl;exact hl rfl
  exact zj (zm hd DD (by simp[hab,zq]))
structure Rdr where
 pos:Nat
 d:Int
 v:Int
 c:Int
 l:Int
 m:Int
 bad:Bool
abbrev Yu(ls:List Ln)(r:Rdr)(cs ds:PV):List PV:=[L (wl ls),I r.pos,I r.d,I r.v,I r.c,I r.l,cs,ds,I r.m,B r.bad]
def yT(ls:List Ln)(r:Rdr):Rdr:=if r.pos<ls.length then { r with pos:=r.pos+1 } else r
theorem XZ{S:Store}{id ver:Nat}(ls:List Ln)(r:Rdr)(cs ds:PV)(hS:S id=.cells ver 164 (Yu ls r cs ds))(hl:ls.length<=1048576):
  Spec prog 140 [.ptr id ver 0] S (λq S'=>q=L ((zK ls r.pos).map bs)/\S'=S.set id (.cells ver 164 (Yu ls (yT ls r) cs ds))):=by
 obtain⟨pos,d,v,c,l,m,bad⟩:=r;have hwl:(wl ls).length=ls.length:=DC
 refine yi func140 ntmps140 results140 λnx hd=>?_
 have hlt:id<nx:=qC hd hS DC;have g1:¬nx<=id:=DB
 have x1:∀obs,ext S nx obs id=.cells ver 164 (Yu ls ⟨pos,d,v,c,l,m,bad⟩ cs ds):=λobs=>(zE hlt).trans hS
 by_cases hp:pos<ls.length
 ·have hp2:¬(ls.length:Int)<=pos:=DB
  refine DK ?_
  repeat apply ze
  refine zB (some [id]) (Row.pures [0,1,2,3,4,5,6,7,8,9] .done) mixed (zN x1 g1 hwl hp2) ?_;refine zp DC ?_;refine zk ?_;have w1:IntKind.i64.wrap ((pos:Int)+1)=(pos:Int)+1:=by rw[Ay];omega
  refine ze (zi [] (zF x1 g1 w1) ?_);obtain⟨A,hA⟩:∃A,A=Ob.cells ver 164 (Yu ls ⟨pos+1,d,v,c,l,m,bad⟩ cs ds):=⟨_,rfl⟩;have hnx:yT ls ⟨pos,d,v,c,l,m,bad⟩=⟨pos+1,d,v,c,l,m,bad⟩:=if_pos hp;have hset:ext (S.set id (.cells ver 164 [L (wl ls),I ((pos:Int)+1),I d,I v,I c,I l,cs,ds,I m,B bad])) nx []=ext (S.set id A) nx []:=by rw[hA];rfl
  have x2:∀obs,ext (S.set id A) nx obs id=.cells ver 164 (Yu ls ⟨pos+1,d,v,c,l,m,bad⟩ cs ds):=λobs=>by rw[zE hlt,q11,hA]
  rw[hset];obtain⟨t,tl,b1,b2,b3,f0⟩:=zL rfl (wl ls) pos (by rw[hwl];exact hp);have hline:t=(zK ls pos).map bs:=by
   have:ls[pos]?=some (zK ls pos):=by unfold zK;rw[Aa,Ad hp];rfl
   rw[Ah,this]at b1;exact(Option.some.inj b1).symm
  have w2:IntKind.i64.wrap (pos:Int)=(pos:Int):=by rw[Ay];omega
  refine ze (zB (some [id]) (Row.pures [0,1,2,3,4,5,6,7,8,9,10,11] .done) mixed (zS x2 g1 w2 f0 hwl hp) ?_);refine zj ⟨_,_,by simp;rfl,⟨by simp[zq,hline],by rw[hnx,hA]⟩,zU ?_⟩;exact qw hd hlt _
 ·have hp2:(ls.length:Int)<=pos:=DB
  have hnx:yT ls ⟨pos,d,v,c,l,m,bad⟩=⟨pos,d,v,c,l,m,bad⟩:=if_neg hp;have hline:zK ls pos=[]:=by unfold zK;rw[Aa,Ak DB];rfl
  refine DK ?_
  repeat apply ze
  refine zB (some [id]) (Row.pures [0,1,2,3,4,5,6,7,8,9] .done) mixed (zN x1 g1 hwl hp2) ?_;refine zo DC ?_;refine DK ?_;refine Zv 2 rfl ?_;rw[hnx];simp only[hline];rw[ZU S id _ hS];exact DL hd
def LnsOk(ls:List Ln):Prop:=ls.length<=1048576/\∀l∈ls,l.length<=1048576/\∀w∈l,w.length<=1048576
theorem LnsOk.at{ls:List Ln}(h:LnsOk ls)(k:Nat):(zK ls k).length<=1048576/\∀w∈zK ls k,w.length<=1048576:=by
 unfold zK;rw[Aa];cases hk:ls[k]? with
 | none=>simp
 | some l=>exact h.2 l (Ab hk)
theorem ZqN(l:Ln)(k:Nat):xS l (k+1)=xS l k++[l.getD (2*k+1) []]:=by simp[xS,AT]
theorem VS(l:Ln)(k:Nat):(xS l k).length=k:=by simp[xS]
theorem ZqO{l:Ln}{k:Nat}(hw:∀w∈l,w.length<=1048576):∀w∈xS l k,w.length<=1048576:=by
 intro w hm;obtain⟨i,_,rfl⟩:=Ar.1 hm;rw[Aa];cases hk:l[2*i+1]? with
 | none=>simp
 | some u=>exact hw u (Ab hk)
theorem X0{ws:Ln}{k:Nat}{u:Wd}(h:ws[k]?=some u):ws.getD k []=u:=by rw[Aa,h];rfl
theorem Zhh{S:Store}{id ver:Nat}(ls:List Ln)(r:Rdr)(cs ds:PV)(names:Ln)(hS:S id=.cells ver 164 (Yu ls r cs ds))(hl:LnsOk ls)(hn:names.length<=1000):
  Spec prog 141 [.ptr id ver 0,L (names.map bs)] S (λq S'=>q=qY (qi (zK ls r.pos) names)/\S'=S.set id (.cells ver 164 (Yu ls (yT ls r) cs ds))):=by
 have hnext:=λS (h:S id=_)=>XZ (S:=S) (id:=id) (ver:=ver) ls r cs ds h hl.1
 obtain⟨hll,hlw⟩:=hl.at r.pos;obtain⟨S1,hS1⟩:∃S1,S1=S.set id (.cells ver 164 (Yu ls (yT ls r) cs ds)):=⟨_,rfl⟩;rw[<-hS1];generalize zK ls r.pos=ln at *;refine yi func141 ntmps141 results141 λnx hd=>?_
 have hlt:id<nx:=qC hd hS DC;have g1:¬nx<=id:=DB
 have hd1:zX nx S1:=by rw[hS1];exact qw hd hlt _
 refine DK ?_;refine ze (xk [] DG DG λK Gc Gh hK hGc hGh X hX0 hX=>?_);simp -implicitDefEqProofs [hX0,hX]
 try clear hX0 hX X
 refine hGc _ _ _ _ _ _ _ λhsuf=>((hnext _ ((zE hlt).trans hS)).mono ?_).v
 rintro _ _ ⟨rfl,rfl⟩;refine⟨S1,[],by rw[yZ _ hlt,<-hS1],?_⟩;clear hGc hGh;clear Gc Gh;refine xH hsuf (D:=[]) DG λGc Gh hGc hGh X hX0 hX=>?_
 simp -implicitDefEqProofs [hX0,hX];clear hX0 hX X;refine hK _ _ _ ?_;clear hK hGc hGh;clear K Gc Gh;clear hnext hsuf hd hS1 hS;have hd:=hd1;have w0:IntKind.i64.wrap (2*(names.length:Int))=2*names.length:=by rw[Ay];omega
 by_cases hlen:ln.length=2*names.length
 ·have c0:(ln.length:Int)=2*names.length:=DB
  repeat apply ze
  refine zi [] (zt w0 c0) ?_;refine zp DC ?_;refine zk (DK ?_);refine ze (qL 7 9 1 rfl λv1=>?_);refine DK ?_;refine zn (zJ (λs:Nat × Nat=>s.1<=names.length/\∀i,i<s.1->ln.getD (2*i) []=names.getD i []) (λ(k,v)=>[(6,L (ln.map bs)),(7,.sl nx v 1 0 k),(18,L (names.map bs)),(19,I names.length),(20,I k)]) (λ(k,v)=>[.cells v 9 (((xS ln k).map bs).flatMap Enc.enc)]) (λs=>names.length-s.1) (0,v1) [] ⟨by simp,λi hi=>absurd hi (Nat.not_lt_zero _)⟩ DC (by simp[xS]) ?_);rintro⟨k,v⟩ ⟨hk,hq⟩;simp only at hk hq ⊢;refine DK ?_;refine ze (zz rfl (λhc=>?_) (λhc=>?_))
  ·simp at hc;obtain⟨a,tl,ha,f0⟩:=JZ names k hc;obtain⟨u,tl2,hu,f1⟩:=JZ ln (2*k) DB;obtain⟨x,tl3,hx,f2⟩:=JZ ln (2*k+1) DB;have k1:2*k<ln.length:=DB
   have k2:2*k+1<ln.length:=DB
   have w1:IntKind.i64.wrap (2*(k:Int))=((2*k:Nat):Int):=by rw[Ay];omega
   have w2:IntKind.i64.wrap (((2*k:Nat):Int)+1)=((2*k+1:Nat):Int):=zA _ DB;obtain⟨k2k,hk2⟩:∃n,n=2*k:=⟨_,rfl⟩;obtain⟨k2l,hk3⟩:∃n,n=2*k+1:=⟨_,rfl⟩;rw[<-hk2]at f1 k1 w1 w2 hu;rw[<-hk3]at f2 k2 hx;have w2':IntKind.i64.wrap ((k2k:Int)+1)=(k2l:Int):=by rw[w2,hk2,hk3]
   refine zk (ze (zn (ze (zi [] (zt f0 hc) ?_))))
   by_cases hua:u=a
   ·subst hua
    repeat apply ze
    refine zi [] (zN f1 k1 w1 vx) ?_;refine zp DC ?_;refine zk ?_;have hol:(xS ln k).length=k:=VS ln k;refine zi [] (zN f2 k2 w1 w2') ?_;refine⟨by omega,?_⟩;refine zg ?_;have hod:((xS ln (k+1)).map bs).flatMap Enc.enc=List.take k (((xS ln k).map bs).flatMap Enc.enc)++[T (bs x)]:=by
     rw[Ae (by rw[Zb3,List.length_map,hol];exact Af _),ZqN,<-hk3,X0 hx,List.map_append,Al];rfl
    exact zv (k+1,v+1) [] ⟨hc,λi hi=>by
     rcases Be i k with q | q
     ·exact hq i q
     ·obtain rfl:i=k:=DB
      rw[<-hk2,X0 hu,X0 ha]⟩ DB (by simp[zA k (by omega)]) rfl (by simp only[hod,AF])
   ·have hne:=VQ (λh=>hua (Qf.1 h):bs u≠bs a)
    repeat apply ze
    refine zi [] (zN f1 k1 w1 hne) ?_;refine zo DC ?_;refine DK ?_;have hnb:qi ln names=none:=by
     unfold qi vw;rw[if_neg];rw[Ao,Az];rintro⟨_,h2⟩;have:=of_decide_eq_true (h2 k (AH.2 hc));rw[<-hk2,X0 hu,X0 ha]at this;exact hua this
    exact zj (zm hd DD (by rw[hnb];rfl))
  ·simp at hc;obtain rfl:k=names.length:=DB
   have hnb:qi ln names=yB (xS ln names.length):=by
    unfold qi vw;rw[if_pos];rw[Ao,Az];exact⟨decide_eq_true hlen,λi hi=>decide_eq_true (hq i (AH.1 hi))⟩
   have hnum:=Zcu (xS ln names.length) (by rw[VS];omega) (λw hw=>by have:=ZqO hlw w hw;omega);have hol:(xS ln names.length).length=names.length:=VS ln _;rw[hnb];generalize xS ln names.length=od at *;refine zC (yb 0 rfl ?_);have hol2:=hol.symm;rw[show L (od.map bs)=.lst od.length ((od.map bs).flatMap Enc.enc) by unfold L;rw[List.length_map]]at hnum;cases hz:yB od with
   | none =>
    rw[hz]at hnum;simp only[qY]at hnum ⊢;refine ze (zi [] hol2 ?_);refine zu hnum ?_;exact DL hd
   | some z =>
    rw[hz]at hnum;simp only[qY]at hnum ⊢;refine ze (zi [] hol2 ?_);refine zu hnum ?_;exact DL hd
 ·have c0:¬(ln.length:Int)=2*names.length:=DB
  repeat apply ze
  refine zi [] (zt w0 c0) ?_;refine zo DC ?_;refine DK ?_;have hnb:qi ln names=none:=by unfold qi vw;rw[decide_eq_false hlen];rfl
  exact zj (zm hd DD (by rw[hnb];rfl))
end Go.Proofs.YtcocagkbfpgmiaaGreatDoor.Pv
